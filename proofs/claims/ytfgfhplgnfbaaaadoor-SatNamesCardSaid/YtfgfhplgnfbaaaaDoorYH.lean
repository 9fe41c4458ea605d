/- Core and Blame: their contracts, where the formula and what is given are as defined. -/
import Derived.Test.YtfgfhplgnfbaaaaDoorYG
import Derived.Test.YtfgfhplgnfbaaaaDoorYE
import Derived.Test.YtfgfhplgnfbaaaaDoorYD
import Derived.Test.YtfgfhplgnfbaaaaDoorProg
import Derived.Test.YtfgfhplgnfbaaaaDoorYC
import Derived.KernelRfl
namespace Go.Proofs.YtfgfhplgnfbaaaaDoor
open Go Go.Ev
/-- How the search ends with some of the clauses, and with some of the given literals. -/
abbrev howC (N : Nat) (cls : List (List Int)) (gs : List Int) (xs : List Int) : Int := (solF N (selC cls xs) gs).how
section
variable {O : CallF} (hO : Oth O)
include hO
theorem ct25 {h : Hp} (ok : h.Ok) (ht : Tb h) {N : Nat} (hN : N ≤ 30) {cls : List (List Int)} {gs : List Int} (hcl : cls.length ≤ 120) (hc : ∀ l ∈ cls, Cv (Int.ofNat N) l) (hg : Cv (Int.ofNat N) gs)
    {aF aG : Option Addr} {nF cF nG cG : Nat} (F : IntssAt h aF nF cls) (G : IntsAt h aG nG gs) :
    Ret Tryd.prog O 25 [Fm (Int.ofNat N) aF nF cF, .slice aG nG cG] h fun v h' => ∃ a n c, v = .tuple #[.slice a n c, .int .i64 (blamedF cls.length (howC N cls gs)).2] ∧ IntsAt h' a n (blamedF cls.length (howC N cls gs)).1 ∧ Kp h.nx h h' := by
  refine rk25 _ _ _ _ _ _ _ (hO _ _ _ (by decide)) ?_
  unfold T25
  intro g1 g2
  have k1 : Kp h.nx h g1 := (Kp.refl _ _).add (Nat.le_refl _) _
  have e1 : g1.get h.nx = some (.cells [.int .i64 (Int.ofNat N), .slice aF nF cF] 30 .fix) := get_add_same ..
  have n1 : g1.nx = h.nx + 1 := nx_add ..
  have k2 : Kp h.nx h g2 := k1.add (by omega) _
  have e2 : g2.get h.nx = some (.cells [.int .i64 (Int.ofNat N), .slice aF nF cF] 30 .fix) := by
    rw [show g2.get h.nx = g1.get h.nx from get_add_ne (by omega)]; exact e1
  have e3 : g2.get g1.nx = some (.cells [.slice aG nG cG] 32 .fix) := get_add_same ..
  have n2 : g2.nx = h.nx + 2 := by show g1.nx + 1 = _; omega
  have f2 := k2.ex (Nat.le_refl _)
  have glen := cv_len hg
  have llen : ∀ l ∈ cls, l.length < 1000000 := fun l hl => by have := cv_len (hc l hl); omega
  have ha : askB (Int.ofNat N) cls gs = true := ask_of (by simp only [Int.ofNat_eq_natCast]; omega) (by simp only [Int.ofNat_eq_natCast]; omega) hcl hc hg
  refine ⟨_, _, _, _, by rw [readAt_get e2 (by simp)]; rfl, _, _, _, read1 e3 (i := 0) rfl, ?_⟩
  obtain ⟨v, h11, e11, rfl, K11⟩ := ct78 hO (c := cF) (vars := Int.ofNat N) (c1 := cG) (F.to g2) (by omega) llen (G.to g2) (by omega)
  rw [ha, if_pos rfl] at e11
  have k11 : Kp h.nx h h11 := k2.trans (K11.le k2.nx)
  have f11 := k11.ex (Nat.le_refl _)
  have g11 : h11.get h.nx = some (.cells [.int .i64 (Int.ofNat N), .slice aF nF cF] 30 .fix) := by rw [K11.get _ (by omega)]; exact e2
  have g11b : h11.get g1.nx = some (.cells [.slice aG nG cG] 32 .fix) := by rw [K11.get _ (by omega)]; exact e3
  have n11 := K11.nx
  refine ⟨_, h11, e11, vcond_f rfl ⟨_, _, _, read1 g11 (i := 1) rfl, ?_⟩⟩
  have ok11 := ok.kp k11
  have ht11 := ht.kp k11 ht.1
  have hnF := F.1
  have HV : HaveOk O 83 #[] #[.pointer (some ⟨h.nx, 0, none⟩), .pointer (some ⟨g1.nx, 0, none⟩)] h11 cls.length (howC N cls gs) := fun h' kp a m c xs X s => by
    have f := kp.ex (Nat.le_refl _)
    exact ct83 hO (ok11.kp kp) (ht11.kp kp ht11.1) hN hc (by omega) hg.2 (by omega) (Nat.lt_of_lt_of_le (by omega) kp.nx) (by rw [kp.get _ (by omega)]; exact g11) (Nat.lt_of_lt_of_le (by omega) kp.nx) (by rw [kp.get _ (by omega)]; exact g11b) ((F.to h11).to h') ((G.to h11).to h') X s
  rw [hnF]
  obtain ⟨v, h19, e19, a, n, c, rfl, X19, K19⟩ := ct82 hO ok11 (by omega) HV
  exact ⟨_, _, _, _, h19, e19, _, _, _, rfl, X19, k11.trans (K19.le k11.nx)⟩
end
end Go.Proofs.YtfgfhplgnfbaaaaDoor
/- Forced: the plain law. -/
namespace Go.Proofs.YtfgfhplgnfbaaaaDoor
open Go Go.Ev
theorem rev_rev {N k : Nat} (hk : k < 2 ^ N) : bitsF N (bitsF N k N) N = k := by
  have hb := bitsF_lt N (bitsF N k N) N
  refine Nat.eq_of_testBit_eq fun i => ?_
  rcases Nat.lt_or_ge i N with hi | hi
  · rw [bitsF_bit N _ N i hi, bitsF_bit N _ N _ (by omega), show N - 1 - (N - 1 - i) = i by omega]
  · have high : ∀ {x : Nat}, x < 2 ^ N → x.testBit i = false := fun {x} hx => Nat.testBit_lt_two_pow (Nat.lt_of_lt_of_le hx (Nat.pow_le_pow_right (by decide) hi))
    rw [high hb, high hk]
theorem rev_perm (N : Nat) : ((List.range (2 ^ N)).map fun k => bitsF N k N).Perm (List.range (2 ^ N)) := by
  refine (List.perm_ext_iff_of_nodup ?_ List.nodup_range).2 fun x => ?_
  · unfold List.Nodup
    rw [List.pairwise_map]
    refine List.Pairwise.imp_of_mem (fun {x y} hx hy h e => h ?_) List.nodup_range
    rw [← rev_rev (List.mem_range.1 hx), e, rev_rev (List.mem_range.1 hy)]
  · rw [List.mem_map, List.mem_range]
    constructor
    · rintro ⟨k, _, rfl⟩; exact bitsF_lt N k N
    · intro hx; exact ⟨bitsF N x N, List.mem_range.2 (bitsF_lt N x N), rev_rev hx⟩
theorem sideT_any {l : List Int} (hl : ∀ x ∈ l, Lit x) (m : Nat) : sideT m (sideN l) = l.any (isB m) := by
  have h := sideT_iff hl m
  have h2 : l.any (isB m) = true ↔ ∃ i : Nat, (((i + 1 : Nat) : Int) ∈ l ∧ m.testBit i = true) ∨ (-((i + 1 : Nat) : Int) ∈ l ∧ m.testBit i = false) := by
    rw [List.any_eq_true]
    constructor
    · rintro ⟨x, hx, hb⟩
      have h0 := (hl x hx).1
      refine ⟨x.natAbs - 1, ?_⟩
      unfold isB at hb
      split at hb
      · right; exact ⟨by rw [show -(((x.natAbs - 1 + 1 : Nat)) : Int) = x by omega]; exact hx, by simpa using hb⟩
      · left; exact ⟨by rw [show (((x.natAbs - 1 + 1 : Nat)) : Int) = x by omega]; exact hx, hb⟩
    · rintro ⟨i, ⟨hx, hb⟩ | ⟨hx, hb⟩⟩
      · exact ⟨_, hx, by rw [show (((i + 1 : Nat)) : Int) = Int.ofNat (i + 1) from rfl, isB_pos]; exact hb⟩
      · exact ⟨_, hx, by rw [show (((i + 1 : Nat)) : Int) = Int.ofNat (i + 1) from rfl, isB_of_neg, hb]; rfl⟩
  rw [Bool.eq_iff_iff, h, h2]
theorem smF_filter (p : Nat → Bool) : ∀ n, smF (fun j => if p j = true then 1 else 0) n = ((List.range n).filter p).length := by
  intro n
  induction n with
  | zero => rfl
  | succ n ih =>
    rw [List.range_succ, List.filter_append, List.length_append, ← ih]
    show smF _ n + (if p n = true then 1 else 0) = _
    cases hp : p n <;> simp [hp]
theorem count_models {N : Nat} {cls : List (List Int)} (hl : ∀ l ∈ cls, ∀ x ∈ l, Lit x) : cntP (cls.map sideN) (2 ^ N) 0 = (modelsN N cls []).length := by
  rw [cntP_sm]
  simp only [Nat.zero_add]
  rw [smF_filter fun j => (cls.map sideN).all (sideT j)]
  unfold modelsN
  rw [((rev_perm N).filter (satM cls [])).length_eq]
  congr 1
  refine List.filter_congr fun m _ => ?_
  unfold satM
  rw [List.all_nil, Bool.true_and, List.all_map]
  rw [Bool.eq_iff_iff, List.all_eq_true, List.all_eq_true]
  exact ⟨fun h l hl' => by have := h l hl'; rwa [Function.comp, sideT_any (hl l hl')] at this, fun h l hl' => by rw [Function.comp, sideT_any (hl l hl')]; exact h l hl'⟩
end Go.Proofs.YtfgfhplgnfbaaaaDoor
/- SatMinimal of layer 20: the plain law. -/
namespace Go.Proofs.YtfgfhplgnfbaaaaDoor
open Go Go.Ev
def allI (n : Nat) : List Int := (List.range n).map Int.ofNat
theorem allI_len (n : Nat) : (allI n).length = n := by simp [allI]
theorem sel_all {cls : List (List Int)} : selC cls (allI cls.length) = cls := by
  unfold selC allI
  rw [List.map_map]
  refine List.ext_getElem (by simp) fun i h1 h2 => ?_
  simp [List.getElem?_eq_getElem h2]
theorem needF_congr {ψ ψ' : List Int → Bool} : ∀ (i : Nat) (out : List Int), (∀ l, l.Sublist out → ψ l = ψ' l) → needF ψ i out = needF ψ' i out := by
  intro i
  induction i with
  | zero => intro out _; rfl
  | succ i ih =>
    intro out h
    unfold needF
    rw [h _ (List.eraseIdx_sublist ..), ih _ fun l hl => h l (hl.trans (List.eraseIdx_sublist ..)), ih _ h]
/-- Whether there is no model. -/
def noM (N : Nat) (cls : List (List Int)) (gs : List Int) : Bool := decide (modelsN N cls gs = [])
def psiC (N : Nat) (cls : List (List Int)) (gs : List Int) (xs : List Int) : Bool := noM N (selC cls xs) gs
theorem blm_need {φ : List Int → Int} {ψ : List Int → Bool} {all : List Int} (H : ∀ xs, xs.Sublist all → (φ xs = 0 ∧ ψ xs = false) ∨ (φ xs = 1 ∧ ψ xs = true)) : ∀ (i : Nat) {kept : List Int}, kept.Sublist all → blmF φ i kept = (needF ψ i kept, 0) := by
  intro i
  induction i with
  | zero => intro kept _; rfl
  | succ i ih =>
    intro kept h
    unfold blmF needF
    have h2 : (kept.eraseIdx i).Sublist all := (List.eraseIdx_sublist ..).trans h
    rcases H _ h2 with ⟨a, b⟩ | ⟨a, b⟩
    · rw [if_neg (by rw [a]; decide), if_neg (by rw [a]; decide), if_neg (by rw [b]; decide)]; exact ih h
    · rw [if_pos a, if_pos b]; exact ih h2
theorem blamed_need {n : Nat} {φ : List Int → Int} {ψ : List Int → Bool} (H : ∀ xs, xs.Sublist (allI n) → (φ xs = 0 ∧ ψ xs = false) ∨ (φ xs = 1 ∧ ψ xs = true)) : blamedF n φ = if ψ (allI n) = true then (needF ψ n (allI n), 0) else ([], 5) := by
  unfold blamedF
  show (if φ (allI n) = 0 then ([], 5) else if φ (allI n) = 2 then ([], 8) else blmF φ n (allI n)) = _
  rcases H _ (List.Sublist.refl _) with ⟨a, b⟩ | ⟨a, b⟩
  · rw [if_pos a, if_neg (by rw [b]; decide)]
  · rw [if_neg (by rw [show φ _ = 1 from a]; decide), if_neg (by rw [show φ _ = 1 from a]; decide), if_pos b]
    exact blm_need H n (List.Sublist.refl _)
section
variable {N : Nat} (hN : 1 ≤ N ∧ N ≤ 8) {cls : List (List Int)} (hc : ∀ l ∈ cls, Cv (Int.ofNat N) l) {gs : List Int} (hg : Lv (Int.ofNat N) gs)
include hN hc hg
theorem core_is : blamedF cls.length (howC N cls gs) = if noM N cls gs = true then (needF (psiC N cls gs) cls.length (allI cls.length), 0) else ([], 5) := by
  have h30 : N ≤ 30 := by omega
  rw [blamed_need (ψ := psiC N cls gs) fun xs s => ?_]
  · unfold psiC; rw [sel_all]
  · have hin := sub_mem s
    have hc2 : ∀ l ∈ selC cls xs, Cv (Int.ofNat N) l := fun l hl => by
      obtain ⟨x, hx, rfl⟩ := List.mem_map.1 hl
      obtain ⟨j, hj, rfl⟩ := hin x hx
      refine hc _ ?_
      show cls.getD j [] ∈ cls
      rw [List.getD_eq_getElem?_getD, List.getElem?_eq_getElem hj]
      exact List.getElem_mem hj
    rcases solve_small h30 hc2 hg hN.2 with ⟨h0, _, _, m, rest, em, _⟩ | ⟨h1, em, _⟩
    · exact .inl ⟨h0, by unfold psiC noM; rw [em]; rfl⟩
    · exact .inr ⟨h1, by unfold psiC noM; rw [em]; rfl⟩
end
end Go.Proofs.YtfgfhplgnfbaaaaDoor
/- What is known of a memory: who has which objects. A step of the code changes one's own alone. -/
namespace Go.Ev
open Go
/-- From one memory to a later one: of what there was some objects alone change. -/
structure Ch (S : Nat → Prop) (h h' : Hp) : Prop where
  get : ∀ o, o < h.nx → ¬ S o → h'.get o = h.get o
  nx : h.nx ≤ h'.nx
  gd : h'.gd = h.gd
  fr : h.Fresh → h'.Fresh
theorem Ch.refl (S : Nat → Prop) (h : Hp) : Ch S h h := ⟨fun _ _ _ => rfl, Nat.le_refl _, rfl, id⟩
theorem Ch.trans {S : Nat → Prop} {h h' h'' : Hp} (a : Ch S h h') (b : Ch S h' h'') : Ch S h h'' := ⟨fun o ho hS => (b.get o (Nat.lt_of_lt_of_le ho a.nx) hS).trans (a.get o ho hS), Nat.le_trans a.nx b.nx, b.gd.trans a.gd, fun f => b.fr (a.fr f)⟩
theorem Ch.low {S : Nat → Prop} {h h' : Hp} {n : Nat} (a : Ch S h h') (hn : n ≤ h.nx) (hs : ∀ o, S o → n ≤ o) : Kp n h h' := ⟨fun o ho => a.get o (by omega) (fun h => by have := hs o h; omega), a.nx, a.gd, a.fr⟩
theorem Ch.wr (h : Hp) (b off : Nat) (vs : List Value) : Ch (fun o => o = b) h (h.wr b off vs) := ⟨fun _ _ hne => wr_get_ne _ _ _ _ hne, by rw [nx_wr]; exact Nat.le_refl _, gd_wr .., fun f => f.wr _ _ _⟩
/-- Something that somebody has: objects, and what is so of them. -/
structure Rs where
  own : Nat → Prop
  P : Hp → Prop
/-- It speaks of its own objects alone. -/
def Rs.Loc (r : Rs) : Prop := ∀ h h' : Hp, h.nx ≤ h'.nx → (∀ b, r.own b → h'.get b = h.get b) → r.P h → r.P h'
/-- An object. -/
def ob (b : Nat) (x : Ob) : Rs := ⟨fun o => o = b, fun h => h.get b = some x⟩
theorem ob.loc (b : Nat) (x : Ob) : (ob b x).Loc := fun _ _ _ h e => (h b rfl).trans e
/-- A list that grows. -/
def acc (lo : Nat) (e : TypeId) (esz : Nat) (a : Option Addr) (n c : Nat) (xs : List Value) : Rs := ⟨fun o => a = some ⟨o, 0, none⟩, fun h => AccE h lo e esz a n c xs⟩
theorem acc.loc (lo : Nat) (e : TypeId) (esz : Nat) (a : Option Addr) (n c : Nat) (xs : List Value) : (acc lo e esz a n c xs).Loc := fun _ _ hn h A => A.keep (fun o _ ha => h o ha) hn
/-- Numbers that are laid aside. -/
def hole (lo k : Nat) (used : List Nat) : Rs := ⟨fun o => lo ≤ o ∧ o < lo + k ∧ o ∉ used, fun h => ∀ o, lo ≤ o → o < lo + k → o ∉ used → h.get o = none⟩
theorem hole.loc (lo k : Nat) (used : List Nat) : (hole lo k used).Loc := fun _ _ _ h e o h1 h2 h3 => (h o ⟨h1, h2, h3⟩).trans (e o h1 h2 h3)
/-- What is known of a memory that began as another one. -/
structure Know (h0 g : Hp) (L : List Rs) : Prop where
  ok : g.Ok
  kp : Kp h0.nx h0 g
  at_ : ∀ r ∈ L, r.Loc ∧ r.P g ∧ ∀ b, r.own b → h0.nx ≤ b ∧ b < g.nx
  dis : L.Pairwise (fun r s => ∀ b, r.own b → ¬ s.own b)
  ok0 : h0.Ok
section
variable {h0 g : Hp} {L : List Rs}
theorem Know.nil (ok : g.Ok) : Know g g [] := ⟨ok, Kp.refl _ _, fun _ h => (by cases h), .nil, ok⟩
theorem Know.ft (S : Know h0 g L) : Ft h0 g := S.kp.ex (Nat.le_refl _)
theorem Know.len (_ : Know h0 g L) {i : Nat} {r : Rs} (hi : L[i]? = some r) : i < L.length := (List.getElem?_eq_some_iff.1 hi).1
theorem Know.lo (S : Know h0 g L) : h0.nx ≤ g.nx := S.kp.nx
theorem Know.gl (S : Know h0 g L) : GdLt g h0.nx := fun q hq => by rw [S.kp.gd] at hq; exact S.ok0.gd q hq
theorem Know.get (S : Know h0 g L) (i : Nat) {r : Rs} (hi : L[i]? = some r) : r.P g := (S.at_ r (List.mem_of_getElem? hi)).2.1
theorem Know.obj (S : Know h0 g L) (i : Nat) {b : Nat} {x : Ob} (hi : L[i]? = some (ob b x)) : g.get b = some x := S.get i hi
theorem Know.rng (S : Know h0 g L) (i : Nat) {r : Rs} (hi : L[i]? = some r) : ∀ b, r.own b → h0.nx ≤ b ∧ b < g.nx := (S.at_ r (List.mem_of_getElem? hi)).2.2
theorem Know.orng (S : Know h0 g L) (i : Nat) {b : Nat} {x : Ob} (hi : L[i]? = some (ob b x)) : h0.nx ≤ b ∧ b < g.nx := S.rng i hi b rfl
theorem pw_get {α : Type} {R : α → α → Prop} (hs : ∀ a b, R a b → R b a) : ∀ {l : List α}, l.Pairwise R → ∀ {i j : Nat} {x y : α}, l[i]? = some x → l[j]? = some y → i ≠ j → R x y := by
  intro l
  induction l with
  | nil => intro _ i j x y h; cases h
  | cons a l ih =>
    intro hp i j x y hx hy hij
    obtain ⟨p1, p2⟩ := List.pairwise_cons.1 hp
    cases i with
    | zero =>
      cases j with
      | zero => exact absurd rfl hij
      | succ j => obtain rfl := Option.some.inj hx; exact p1 y (List.mem_of_getElem? (i := j) hy)
    | succ i =>
      cases j with
      | zero => obtain rfl := Option.some.inj hy; exact hs _ _ (p1 x (List.mem_of_getElem? (i := i) hx))
      | succ j => exact ih p2 (i := i) (j := j) hx hy (by omega)
theorem Know.sep (S : Know h0 g L) (i j : Nat) {r s : Rs} (hi : L[i]? = some r) (hj : L[j]? = some s) (hij : i ≠ j) : ∀ b, r.own b → ¬ s.own b :=
  pw_get (fun _ _ h b hb ha => h b ha hb) S.dis hi hj hij
/-- A new object. -/
theorem Know.add (S : Know h0 g L) (x : Ob) : Know h0 (g.add x) (ob g.nx x :: L) := by
  refine ⟨S.ok.add x, S.kp.add S.lo x, fun r hr => ?_, List.pairwise_cons.2 ⟨fun r hr b hb hrb => ?_, S.dis⟩, S.ok0⟩
  · rcases List.mem_cons.1 hr with rfl | hr
    · exact ⟨ob.loc _ _, get_add_same .., fun b hb => by cases hb; rw [nx_add]; have := S.lo; omega⟩
    · obtain ⟨h1, h2, h3⟩ := S.at_ r hr
      exact ⟨h1, h1 g _ (by rw [nx_add]; omega) (fun b hb => get_add_ne (by have := h3 b hb; omega)) h2, fun b hb => by rw [nx_add]; have := h3 b hb; omega⟩
  · have := (S.at_ r hr).2.2 b hrb
    cases hb; omega
/-- Memory goes on. -/
theorem Know.call (S : Know h0 g L) {g' : Hp} (k : Kp g.nx g g') : Know h0 g' L :=
  ⟨S.ok.kp k, S.kp.trans (k.le S.lo), fun r hr => let ⟨h1, h2, h3⟩ := S.at_ r hr; ⟨h1, h1 g g' k.nx (fun b hb => k.get b (h3 b hb).2) h2, fun b hb => by have := h3 b hb; have := k.nx; omega⟩, S.dis, S.ok0⟩
theorem Know.rsv (S : Know h0 g L) (k : Nat) : Know h0 (g.rsv k) L := S.call ((Kp.refl _ g).rsv k)
/-- Memory goes on while some must not be written. -/
theorem Know.callg (S : Know h0 g L) {l : List Nat} {h' : Hp} (k : Kp g.nx (g.grd l) h') : Know h0 (h'.rst g) L := S.call ⟨k.get, k.nx, rfl, fun f => k.fr f⟩
theorem Know.okg (S : Know h0 g L) {l : List Nat} (hl : ∀ q ∈ l, q < g.nx) : (g.grd l).Ok := S.ok.grd hl
theorem Know.ftg (S : Know h0 g L) (l : List Nat) : Ft h0 (g.grd l) := ⟨S.ft.get, S.ft.nx⟩
/-- One changes. -/
theorem Know.upd (S : Know h0 g L) (i : Nat) {r r' : Rs} (hi : L[i]? = some r) {g' : Hp} (k : Ch r.own g g') (hl : r'.Loc) (hP : r'.P g') (ho : ∀ b, r'.own b → r.own b ∨ (g.nx ≤ b ∧ b < g'.nx)) : Know h0 g' (L.set i r') := by
  have hr := S.rng i hi
  have hi' : i < L.length := (List.getElem?_eq_some_iff.1 hi).1
  have ho' : ∀ b, r'.own b → h0.nx ≤ b ∧ b < g'.nx := fun b hb => by
    rcases ho b hb with h | h
    · have := hr b h; have := k.nx; omega
    · have := S.lo; omega
  refine ⟨⟨fun q hq => by rw [k.gd] at hq; exact Nat.lt_of_lt_of_le (S.ok.gd q hq) k.nx, k.fr S.ok.fr⟩, S.kp.trans (k.low S.lo fun o h => (hr o h).1), fun s hs => ?_, ?_, S.ok0⟩
  · obtain ⟨j, hj⟩ := List.mem_iff_getElem?.1 hs
    by_cases hij : i = j
    · subst hij
      rw [List.getElem?_set_self hi'] at hj
      obtain rfl := Option.some.inj hj
      exact ⟨hl, hP, ho'⟩
    · rw [List.getElem?_set_ne hij] at hj
      obtain ⟨h1, h2, h3⟩ := S.at_ s (List.mem_of_getElem? hj)
      exact ⟨h1, h1 g g' k.nx (fun b hb => k.get b (h3 b hb).2 fun h => S.sep i j hi hj hij b h hb) h2, fun b hb => by have := h3 b hb; have := k.nx; omega⟩
  · rw [List.pairwise_iff_getElem]
    intro a b ha hb hab
    rw [List.length_set] at ha hb
    have key : ∀ j s, i ≠ j → L[j]? = some s → ∀ q, r'.own q → ¬ s.own q := fun j s hij hj q hq hs => by
      rcases ho q hq with h | h
      · exact S.sep i j hi hj hij q h hs
      · have := (S.at_ s (List.mem_of_getElem? hj)).2.2 q hs; omega
    rw [List.getElem_set, List.getElem_set]
    by_cases h1 : i = a
    · rw [if_pos h1, if_neg (by omega)]
      exact key b _ (by omega) (List.getElem?_eq_getElem hb)
    · rw [if_neg h1]
      by_cases h2 : i = b
      · rw [if_pos h2]
        exact fun q hq hs => key a _ h1 (List.getElem?_eq_getElem ha) q hs hq
      · rw [if_neg h2]
        exact List.pairwise_iff_getElem.1 S.dis a b ha hb hab
theorem Ch.rst {R : Nat → Prop} {l : List Nat} {h' : Hp} (k : Ch R (g.grd l) h') : Ch R g (h'.rst g) := ⟨k.get, k.nx, rfl, fun f => k.fr f⟩
/-- Something new. -/
theorem Know.push (S : Know h0 g L) {r' : Rs} {g' : Hp} (k : Kp g.nx g g') (hl : r'.Loc) (hP : r'.P g') (ho : ∀ b, r'.own b → g.nx ≤ b ∧ b < g'.nx) : Know h0 g' (r' :: L) := by
  have T := S.call k
  refine ⟨T.ok, T.kp, fun r hr => ?_, List.pairwise_cons.2 ⟨fun r hr b hb hrb => ?_, T.dis⟩, S.ok0⟩
  · rcases List.mem_cons.1 hr with rfl | hr
    · exact ⟨hl, hP, fun b hb => by have := ho b hb; have := S.lo; omega⟩
    · exact T.at_ r hr
  · have := (S.at_ r hr).2.2 b hrb
    have := ho b hb; omega
/-- Some are forgotten, or come in another order. -/
theorem Know.sel (S : Know h0 g L) (is : List Nat) (hn : is.Nodup) {M : List Rs} (hM : M = is.filterMap (fun i => L[i]?)) : Know h0 g M := by
  subst hM
  refine ⟨S.ok, S.kp, fun r hr => ?_, ?_, S.ok0⟩
  · obtain ⟨i, _, hi⟩ := List.mem_filterMap.1 hr
    exact S.at_ r (List.mem_of_getElem? hi)
  · rw [List.pairwise_filterMap]
    exact hn.imp fun {i j} hij r hr s hs => S.sep i j hr hs hij
/-- What is known of the second one of two. -/
theorem Know.sub (S : Know h0 g L) (M : List Rs) (h : M.Sublist L) : Know h0 g M := ⟨S.ok, S.kp, fun r hr => S.at_ r (h.subset hr), S.dis.sublist h, S.ok0⟩
/-- What is appended to lies at a new number: also a row of no elements. -/
theorem append_newE {P : Program} {sT e : TypeId} {esz bytes : Nat} (T : AppT P sT e esz bytes) {h : Hp} {base : Nat} {a : Option Addr} {n c : Nat} {xs : List Value} (H : AccE h base e esz a n c xs)
    {x : Value} {ys : List Value} {k : Nat} (hx : ∃ a n c, x = .slice a n c) (hs : srcCells h esz x = some (ys, k)) (h1 : ys.all one = true) (hkp : 0 < k) {a' : Option Addr} {n' c' : Nat} {h' : Hp} (e1 : appendV P h sT sT (.slice a n c) x = some (.slice a' n' c', h')) : a' = some ⟨h.nx, 0, none⟩ := by
  rcases H with H | ⟨rfl, rfl, rfl, o, rfl, h2, h3, e2, m, h4⟩
  · exact append_new T H hx hs h1 hkp e1
  · obtain ⟨hz, info, z, hi, hzz, hrun⟩ := T.run
    rw [hrun h _ x hx, hs] at e1
    have hk0 : Nat.beq k 0 = false := by rw [Bool.eq_false_iff]; intro hh; have := Nat.eq_of_beq_eq_true hh; omega
    simp only [Option.bind_some, h1, cond_true, hk0, cond_false] at e1
    unfold appSome at e1
    have e3 : Nat.beq 0 unk = false := by
      rw [Bool.eq_false_iff]; intro hh; have := Nat.eq_of_beq_eq_true hh; have : unk = 18446744073709551616 := rfl; omega
    have e4 : Nat.ble (0 + k) 0 = false := by
      rw [Bool.eq_false_iff]; intro hh; have : 0 + k ≤ 0 := by simpa using hh
      omega
    have e5 : readAt h o 0 (0 * esz) = some [] := by rw [Nat.zero_mul, readAt_get h4 (by simp)]; rfl
    simp only [h4, e3, e4, e5, cond_false, Option.bind_some] at e1
    unfold appNew at e1
    obtain ⟨_, e1⟩ := cond_some e1
    injection e1 with e1
    injection e1 with e1 _
    injection e1 with e1 _
    exact e1.symm
/-! ### steps -/
theorem Know.rd (S : Know h0 g L) (i : Nat) {b : Nat} {c : List Value} {e : TypeId} {m : Md} (hi : L[i]? = some (ob b (.cells c e m))) {off n : Nat} {r : List Value} (hr : (c.drop off).take n = r) (hl : Nat.ble (off + n) c.length = true) : readAt g b off n = some r := by
  rw [readAt_get (S.obj i hi) (Nat.le_of_ble_eq_true hl), hr]
theorem Know.gdf (S : Know h0 g L) {b : Nat} (hb : h0.nx ≤ b) : g.guarded b = false := S.gl.free hb
theorem Know.gdfg (S : Know h0 g L) {b : Nat} {l : List Nat} (hb : h0.nx ≤ b) (hl : ∀ q ∈ l, q ≠ b) : (g.grd l).guarded b = false := guarded_of fun q hq => by
  rcases List.mem_append.1 hq with h | h
  · exact hl q h
  · have := S.gl q h; omega
theorem Know.cw (S : Know h0 g L) (i : Nat) {b : Nat} {c : List Value} {e : TypeId} {m : Md} (hi : L[i]? = some (ob b (.cells c e m))) {off : Nat} {vs : List Value} (hm : m ≠ .ro) (hl : Nat.ble (off + vs.length) c.length = true) (h1 : vs.all one = true) : canW g b off vs = true := canW_t (S.obj i hi) hm (S.gdf (S.orng i hi).1) (Nat.le_of_ble_eq_true hl) h1
theorem Know.wr (S : Know h0 g L) (i : Nat) {b : Nat} {c : List Value} {e : TypeId} {m : Md} (hi : L[i]? = some (ob b (.cells c e m))) {off : Nat} {vs : List Value} (hm : m ≠ .ro) (hl : Nat.ble (off + vs.length) c.length = true) (h1 : vs.all one = true) : Know h0 (g.wr b off vs) (L.set i (ob b (.cells (putAt c off vs) e m))) :=
  S.upd i hi (Ch.wr g b off vs) (ob.loc _ _) (wr_get (S.obj i hi) hm (S.gdf (S.orng i hi).1) (Nat.le_of_ble_eq_true hl) h1) fun _ h => .inl h
theorem Know.cwg (S : Know h0 g L) (i : Nat) {b : Nat} {c : List Value} {e : TypeId} {m : Md} (hi : L[i]? = some (ob b (.cells c e m))) {l : List Nat} (hg : ∀ q ∈ l, q ≠ b) {off : Nat} {vs : List Value} (hm : m ≠ .ro) (hl : Nat.ble (off + vs.length) c.length = true) (h1 : vs.all one = true) : canW (g.grd l) b off vs = true := canW_t (h := g.grd l) (S.obj i hi) hm (S.gdfg (S.orng i hi).1 hg) (Nat.le_of_ble_eq_true hl) h1
theorem Know.wrg (S : Know h0 g L) (i : Nat) {b : Nat} {c : List Value} {e : TypeId} {m : Md} (hi : L[i]? = some (ob b (.cells c e m))) {l : List Nat} (hg : ∀ q ∈ l, q ≠ b) {off : Nat} {vs : List Value} (hm : m ≠ .ro) (hl : Nat.ble (off + vs.length) c.length = true) (h1 : vs.all one = true) : Know h0 (((g.grd l).wr b off vs).rst g) (L.set i (ob b (.cells (putAt c off vs) e m))) :=
  S.upd i hi (Ch.wr (g.grd l) b off vs).rst (ob.loc _ _) (wr_get (h := g.grd l) (S.obj i hi) hm (S.gdfg (S.orng i hi).1 hg) (Nat.le_of_ble_eq_true hl) h1) fun _ h => .inl h
/-- Numbers are laid aside, and used later. -/
theorem Know.rsvK (S : Know h0 g L) (k : Nat) : Know h0 (g.rsv k) (hole g.nx k [] :: L) :=
  S.push ((Kp.refl _ g).rsv k) (hole.loc _ _ _) (fun o h1 _ _ => S.ok.fr o h1) fun b hb => ⟨hb.1, hb.2.1⟩
theorem Know.fre (S : Know h0 g L) (i : Nat) {lo k : Nat} {used : List Nat} (hi : L[i]? = some (hole lo k used)) {q : Nat} (h1 : lo ≤ q) (h2 : q < lo + k) (h3 : q ∉ used) : g.free q = true := free_t (S.get i hi q h1 h2 h3)
theorem Know.lay (S : Know h0 g L) (i : Nat) {lo k : Nat} {used : List Nat} (hi : L[i]? = some (hole lo k used)) {q : Nat} (h1 : lo ≤ q) (h2 : q < lo + k) (h3 : q ∉ used) (x : Ob) : Know h0 (g.lay q x) (ob q x :: L.set i (hole lo k (q :: used))) := by
  have hq := S.rng i hi q ⟨h1, h2, h3⟩
  have ge : ∀ o, o ≠ q → (g.lay q x).get o = g.get o := fun o ho => by rw [get_lay, if_neg ho]
  have S1 : Know h0 (g.lay q x) (L.set i (hole lo k (q :: used))) := S.upd i hi (g' := g.lay q x) ⟨fun o _ ho => ge o (fun h => ho (h ▸ ⟨h1, h2, h3⟩)), Nat.le_refl _, rfl, fun f => f.lay hq.2 x⟩ (hole.loc _ _ _) (fun o a b c => (ge o (fun h => c (h ▸ List.mem_cons_self ..))).trans (S.get i hi o a b (fun h => c (List.mem_cons_of_mem _ h)))) fun b hb => .inl ⟨hb.1, hb.2.1, fun h => hb.2.2 (List.mem_cons_of_mem _ h)⟩
  refine ⟨S1.ok, S1.kp, fun r hr => ?_, List.pairwise_cons.2 ⟨fun r hr b hb hrb => ?_, S1.dis⟩, S.ok0⟩
  · rcases List.mem_cons.1 hr with rfl | hr
    · exact ⟨ob.loc _ _, by show (g.lay q x).get q = _; rw [get_lay, if_pos rfl], fun b hb => by cases hb; exact hq⟩
    · exact S1.at_ r hr
  · obtain rfl : b = q := hb
    obtain ⟨j, hj⟩ := List.mem_iff_getElem?.1 hr
    by_cases hij : i = j
    · subst hij
      rw [List.getElem?_set_self (List.getElem?_eq_some_iff.1 hi).1] at hj
      obtain rfl := Option.some.inj hj
      exact hrb.2.2 (List.mem_cons_self ..)
    · rw [List.getElem?_set_ne hij] at hj
      exact S.sep i j hi hj hij b ⟨h1, h2, h3⟩ hrb
theorem rst_eq {h h' : Hp} (e : h'.gd = h.gd) : h'.rst h = h' := by
  cases h'; unfold Hp.rst; cases e; rfl
/-- A list that has grown is an object. -/
theorem Know.accOb (S : Know h0 g L) (i : Nat) {lo : Nat} {e : TypeId} {esz : Nat} {a : Option Addr} {n c : Nat} {xs : List Value} (hi : L[i]? = some (acc lo e esz a n c xs)) (hx : xs ≠ []) : ∃ o, a = some ⟨o, 0, none⟩ ∧ c = unk ∧ n * esz = xs.length ∧ lo ≤ o ∧ Know h0 g (L.set i (ob o (.cells xs e .grow))) := by
  have A : AccE g lo e esz a n c xs := S.get i hi
  rcases A with (⟨_, _, _, h⟩ | ⟨o, rfl, h2, h3, h4, h5, h6⟩) | ⟨h, _⟩
  · exact absurd h hx
  · exact ⟨o, rfl, h2, h3, h4, S.upd i hi (Ch.refl _ g) (ob.loc _ _) h6 fun q hq => .inl (by cases hq; rfl)⟩
  · exact absurd h hx
/-- A new, empty list that is to grow. -/
theorem Know.accNil (S : Know h0 g L) (lo : Nat) (e : TypeId) (esz : Nat) : Know h0 g (acc lo e esz none 0 0 [] :: L) :=
  S.push (Kp.refl _ g) (acc.loc _ _ _ _ _ _ _) (.inl (Acc.nil ..)) fun b hb => by cases hb
/-- A list grows. -/
theorem Know.appg (S : Know h0 g L) (i : Nat) {lo : Nat} {e : TypeId} {esz : Nat} {a : Option Addr} {n c : Nat} {xs : List Value} (hi : L[i]? = some (acc lo e esz a n c xs)) (hlo : h0.nx ≤ lo) (hlo2 : lo ≤ g.nx) {P : Program} {sT : TypeId} {bytes : Nat} (T : AppT P sT e esz bytes) {l : List Nat} (hl : ∀ q ∈ l, q < lo)
    {x : Value} {ys : List Value} {k : Nat} (hx : ∃ a n c, x = .slice a n c) (hs : srcCells g esz x = some (ys, k)) (hk : ys.length = k * esz) (h1 : ys.all one = true) (hB : (n + k + (n + k)) * bytes ≤ 281474976710656) (hU : n + k < big) :
    ∃ a' n' c' h', appendV P (g.grd l) sT sT (.slice a n c) x = some (.slice a' n' c', h') ∧ n' = n + k ∧ Know h0 (h'.rst g) (L.set i (acc lo e esz a' n' c' (xs ++ ys))) := by
  have A : AccE (g.grd l) lo e esz a n c xs := S.get i hi
  have G : GdLt (g.grd l) lo := fun q hq => by
    rcases List.mem_append.1 hq with h | h
    · exact hl q h
    · have := S.gl q h; omega
  obtain ⟨a', n', c', h', e1, A', en, k'⟩ := append_accE T (h := g.grd l) A hlo2 G hx hs hk h1 hB hU
  refine ⟨a', n', c', h', e1, en, S.upd i hi (r' := acc lo e esz a' n' c' (xs ++ ys)) (g' := h'.rst g) ⟨fun o ho hne => k'.get o ho hne, k'.nx, rfl, fun f => k'.fr f⟩ (acc.loc _ _ _ _ _ _ _) (A'.keep (fun _ _ _ => rfl) (Nat.le_refl _)) fun b hb => ?_⟩
  rcases Nat.eq_zero_or_pos k with rfl | hkp
  · left
    show a = some ⟨b, 0, none⟩
    rw [← hb]
    obtain ⟨_, info, z, hi', hzz, hrun⟩ := T.run
    rw [hrun _ _ x hx, show srcCells (g.grd l) esz x = some (ys, 0) from hs] at e1
    simp only [Option.bind_some, h1, cond_true, Nat.beq_refl] at e1
    unfold appNone at e1
    split at e1
    · injection e1 with e1; injection e1 with e1 _; injection e1
    · obtain ⟨_, e1⟩ := cond_some e1
      injection e1 with e1; injection e1 with e1 _; injection e1
    · cases e1
  · have := append_newE T A hx hs h1 hkp e1
    have hb : a' = some ⟨b, 0, none⟩ := hb
    rw [this] at hb; injection hb with hb; injection hb with hb
    have := (A'.lt (by rw [this])).2
    exact .inr ⟨Nat.le_of_eq hb, by rw [← hb]; exact this⟩
/-- The same where nothing else is under way. -/
theorem Know.app (S : Know h0 g L) (i : Nat) {lo : Nat} {e : TypeId} {esz : Nat} {a : Option Addr} {n c : Nat} {xs : List Value} (hi : L[i]? = some (acc lo e esz a n c xs)) (hlo : h0.nx ≤ lo) (hlo2 : lo ≤ g.nx) {P : Program} {sT : TypeId} {bytes : Nat} (T : AppT P sT e esz bytes)
    {x : Value} {ys : List Value} {k : Nat} (hx : ∃ a n c, x = .slice a n c) (hs : srcCells g esz x = some (ys, k)) (hk : ys.length = k * esz) (h1 : ys.all one = true) (hB : (n + k + (n + k)) * bytes ≤ 281474976710656) (hU : n + k < big) :
    ∃ a' n' c' h', appendV P g sT sT (.slice a n c) x = some (.slice a' n' c', h') ∧ n' = n + k ∧ Know h0 h' (L.set i (acc lo e esz a' n' c' (xs ++ ys))) := by
  have A : AccE g lo e esz a n c xs := S.get i hi
  obtain ⟨a', n', c', h', e1, en, S'⟩ := S.appg (l := []) i hi hlo hlo2 T (fun _ h => by cases h) hx hs hk h1 hB hU
  obtain ⟨a2, n2, c2, h2, e2, _, _, k'⟩ := append_accE T A hlo2 (fun q hq => by have := S.gl q hq; omega) hx hs hk h1 hB hU
  have e1' : appendV P g sT sT (.slice a n c) x = some (.slice a' n' c', h') := e1
  rw [e1'] at e2
  have : h' = h2 := by injection e2 with e2; injection e2
  subst this
  rw [rst_eq k'.gd] at S'
  exact ⟨a', n', c', h', e1', en, S'⟩
end
end Go.Ev
/- slices.Insert of one whole number, among what is owned. -/
namespace Go.Ev
open Go
/-- A number among others. -/
def insAt {α : Type} (i : Nat) (x : α) (l : List α) : List α := l.take i ++ x :: l.drop i
theorem insAt_perm {α : Type} (i : Nat) (x : α) (l : List α) : (insAt i x l).Perm (x :: l) := by
  have h : (insAt i x l).Perm (x :: (l.take i ++ l.drop i)) := List.perm_middle
  rwa [List.take_append_drop] at h
theorem insAt_length {α : Type} (i : Nat) (x : α) (l : List α) : (insAt i x l).length = l.length + 1 := (insAt_perm i x l).length_eq
theorem insAt_map {α β : Type} (f : α → β) (i : Nat) (x : α) (l : List α) : (insAt i x l).map f = insAt i (f x) (l.map f) := by
  unfold insAt
  rw [List.map_append, List.map_cons, List.map_take, List.map_drop]
theorem putAt_ins {α : Type} : ∀ (xs : List α) (i : Nat) (x : α), i ≤ xs.length → putAt (xs ++ [x]) i (x :: xs.drop i) = insAt i x xs := by
  intro xs i x hi
  unfold insAt
  refine List.ext_getElem? fun j => ?_
  rw [putAt_get _ _ _ (by simp; omega)]
  simp only [List.length_cons, List.length_drop]
  by_cases h1 : j < i
  · rw [if_neg (by omega), List.getElem?_append_left (by omega), List.getElem?_append_left (by rw [List.length_take]; omega), List.getElem?_take, if_pos h1]
  · by_cases h2 : j < xs.length + 1
    · rw [if_pos (by omega), List.getElem?_append_right (by rw [List.length_take]; omega), List.length_take, Nat.min_eq_left hi]
    · rw [if_neg (by omega), List.getElem?_eq_none (by simp; omega), List.getElem?_eq_none (by simp; omega)]
theorem wr_of {h : Hp} {b off : Nat} {vs : List Value} (hc : canW h b off vs = true) : writeAt h b off vs = some (h.wr b off vs) := by
  unfold canW at hc
  unfold Hp.wr
  cases hw : writeAt h b off vs with
  | none => rw [hw] at hc; cases hc
  | some h' => rfl
section
variable {h0 g : Hp} {L : List Rs}
/-- What slices.Insert makes of a list that grows. -/
theorem Know.ins (S : Know h0 g L) (i j : Nat) {lo : Nat} {a : Option Addr} {n c : Nat} {xs : List Value} {v : Nat} {x : Value} (hi : L[i]? = some (acc lo 3 1 a n c xs)) (hj : L[j]? = some (ob v (.cells [x] 3 .fix))) (hij : i ≠ j) (hac : a = none ∨ c = unk) (hlo : h0.nx ≤ lo) (hlo2 : lo ≤ g.nx)
    {P : Program} {sT : TypeId} (T : AppT P sT 3 1 8) {p : Nat} (hp : p ≤ n) (hfl : flat x = true) (h1 : xs.all one = true) (hx1 : one x = true) (hB : n ≤ 1000000) :
    ∃ a' h', insV g [.slice a n c, .int .i64 (Int.ofNat p), .slice (some ⟨v, 0, none⟩) 1 1] = some (.slice a' (n + 1) unk, h') ∧ Know h0 h' (L.set i (acc lo 3 1 a' (n + 1) unk (insAt p x xs))) := by
  have hu : unk = 18446744073709551616 := rfl
  have hbg : big = 4611686018427387904 := rfl
  have hv : g.get v = some (.cells [x] 3 .fix) := S.obj j hj
  have hil : i < L.length := S.len hi
  have A : AccE g lo 3 1 a n c xs := S.get i hi
  have hlen : n = xs.length := by
    rcases A with (⟨_, h2, _, h4⟩ | ⟨o, _, _, h4, _⟩) | ⟨h2, h3, _⟩
    · rw [h2, h4]; rfl
    · rw [Nat.mul_one] at h4; exact h4
    · rw [h2, h3]; rfl
  have hs : srcCells g 1 (.slice (some ⟨v, 0, none⟩) 1 1) = some ([x], 1) := by
    show (readAt g v 0 (1 * 1)).map _ = _
    rw [readAt_get hv (by simp)]
    rfl
  obtain ⟨a', n', c', h1', e1, en, S1⟩ := S.app i hi hlo hlo2 T (x := .slice (some ⟨v, 0, none⟩) 1 1) (ys := [x]) (k := 1) ⟨_, _, _, rfl⟩ hs rfl (by rw [List.all_cons, hx1]; rfl) (by omega) (by omega)
  have ea := append_newE T A ⟨_, _, _, rfl⟩ hs (by rw [List.all_cons, hx1]; rfl) Nat.one_pos e1
  obtain ⟨_, info, z, hi', hzz, hrun⟩ := T.run
  rw [hrun g _ _ ⟨_, _, _, rfl⟩, hs] at e1
  have hok := T.ok
  rw [hi'] at hok
  simp only [hzz, Bool.and_eq_true] at hok
  have hbeq : Nat.beq 1 0 = false := rfl
  simp only [Option.bind_some, List.all_cons, hx1, List.all_nil, Bool.and_true, cond_true, hbeq, cond_false] at e1
  subst ea en
  have hi1 : (L.set i (acc lo 3 1 (some ⟨g.nx, 0, none⟩) (n + 1) c' (xs ++ [x])))[i]? = some (acc lo 3 1 (some ⟨g.nx, 0, none⟩) (n + 1) c' (xs ++ [x])) := by rw [List.getElem?_set_self hil]
  obtain ⟨o, ho, hc, _, hlo', S2⟩ := S1.accOb i hi1 (by simp)
  injection ho with ho
  injection ho with ho
  subst ho
  subst hc
  rw [List.set_set] at S2
  have hi2 : (L.set i (ob g.nx (.cells (xs ++ [x]) 3 .grow)))[i]? = some (ob g.nx (.cells (xs ++ [x]) 3 .grow)) := by rw [List.getElem?_set_self hil]
  have hone : (x :: xs.drop p).all one = true := by
    rw [List.all_cons, hx1, Bool.true_and]
    exact List.all_eq_true.2 fun y hy => List.all_eq_true.1 h1 y (List.mem_of_mem_drop hy)
  have hble : Nat.ble (p + (x :: xs.drop p).length) (xs ++ [x]).length = true := ble_t (by rw [List.length_cons, List.length_drop, List.length_append]; simp; omega)
  have cw := S2.cw i hi2 (off := p) (vs := x :: xs.drop p) (by decide) hble hone
  have S3 := S2.wr i hi2 (off := p) (vs := x :: xs.drop p) (by decide) hble hone
  rw [List.set_set, putAt_ins xs p x (by omega)] at S3
  have hw := wr_of cw
  have hi3 : (L.set i (ob g.nx (.cells (insAt p x xs) 3 .grow)))[i]? = some (ob g.nx (.cells (insAt p x xs) 3 .grow)) := by rw [List.getElem?_set_self hil]
  have S4 := S3.upd i hi3 (r' := acc lo 3 1 (some ⟨g.nx, 0, none⟩) (n + 1) unk (insAt p x xs)) (Ch.refl _ _) (acc.loc _ _ _ _ _ _ _) (.inl (.inr ⟨g.nx, rfl, rfl, by rw [insAt_length]; omega, hlo', (S3.orng i hi3).2, S3.obj i hi3⟩)) fun q hq => .inl (by injection hq with hq; injection hq with hq; exact hq.symm)
  rw [List.set_set] at S4
  refine ⟨_, _, ?_, S4⟩
  have hap : appSome g 3 8 1 (.slice a n c) [x] 1 = some (.slice (some ⟨g.nx, 0, none⟩) (n + 1) unk, h1') := e1
  rcases A with (⟨rfl, rfl, rfl, rfl⟩ | ⟨o, rfl, rfl, h4, h5, h6, h7⟩) | ⟨_, _, h3, o, h4, _⟩
  · obtain rfl : p = 0 := by omega
    show (match g.get v with
      | some (.cells [x] 3 .fix) => bif flat x then (bif Nat.beq 0 0 then (appSome g 3 8 1 (.slice none 0 0) [x] 1).bind fun r => (writeAt r.2 g.nx 0 [x]).map fun h' => (r.1, h') else none) else none
      | _ => none) = _
    rw [hv]
    simp only [hfl, cond_true, Nat.beq_refl]
    rw [hap]
    show Option.map (fun h' => (Value.slice (some ⟨g.nx, 0, none⟩) (0 + 1) unk, h')) (writeAt h1' g.nx 0 (x :: List.drop 0 [])) = _
    rw [hw]; rfl
  · have hov : o ≠ v := fun hh => S.sep i j hi hj hij o rfl hh
    show (match g.get v with
      | some (.cells [x] 3 .fix) => bif flat x then (match g.get o with
        | some (.cells old 3 .grow) => bif Nat.beq unk unk && Nat.beq n old.length && Nat.ble p n && !(Nat.beq o v) then
            (appSome g 3 8 1 (.slice (some ⟨o, 0, none⟩) n unk) [x] 1).bind fun r => (writeAt r.2 g.nx p (x :: old.drop p)).map fun h' => (r.1, h')
          else none
        | _ => none) else none
      | _ => none) = _
    rw [hv]
    simp only [hfl, cond_true, h7]
    have c2 : Nat.beq n xs.length = true := by rw [hlen]; exact Nat.beq_refl _
    have c3 : Nat.ble p n = true := ble_t hp
    have c4 : Nat.beq o v = false := by rw [Bool.eq_false_iff]; intro hh; exact hov (Nat.eq_of_beq_eq_true hh)
    rw [Nat.beq_refl, c2, c3, c4]
    simp only [Bool.and_self, Bool.not_false, cond_true]
    rw [hap]
    show Option.map (fun h' => (Value.slice (some ⟨g.nx, 0, none⟩) (n + 1) unk, h')) (writeAt h1' g.nx p (x :: List.drop p xs)) = _
    rw [hw]; rfl
  · rcases hac with h | h
    · rw [h4] at h; cases h
    · rw [h3] at h; cases h
end
end Go.Ev
/- SatNames: plain law: variables with other numbers, and literals with the contrary sign. -/
namespace Go.Proofs.YtfgfhplgnfbaaaaDoor
open Go Go.Ev
/-- A number by its digits. -/
def mkN : Nat → (Nat → Bool) → Nat
  | 0, _ => 0
  | n + 1, p => mkN n p ||| (if p n then 2 ^ n else 0)
theorem mkN_bit (p : Nat → Bool) : ∀ n i, (mkN n p).testBit i = (decide (i < n) && p i) := by
  intro n
  induction n with
  | zero => intro i; show (0 : Nat).testBit i = _; rw [Nat.zero_testBit]; simp
  | succ n ih =>
    intro i
    show (mkN n p ||| (if p n then 2 ^ n else 0)).testBit i = _
    rw [Nat.testBit_or, ih]
    by_cases h : i = n
    · subst h
      cases hp : p i with
      | false => simp
      | true => simp [Nat.testBit_two_pow_self]
    · have e : ((if p n then 2 ^ n else 0) : Nat).testBit i = false := by
        split
        · rw [Nat.testBit_two_pow]; simpa using fun hh => h hh.symm
        · exact Nat.zero_testBit i
      rw [e, Bool.or_false]
      by_cases h2 : i < n
      · rw [decide_eq_true h2, decide_eq_true (show i < n + 1 by omega)]
      · rw [decide_eq_false h2, decide_eq_false (show ¬ i < n + 1 by omega)]
theorem mkN_lt (p : Nat → Bool) (n : Nat) : mkN n p < 2 ^ n := Nat.lt_pow_two_of_testBit _ fun i hi => by rw [mkN_bit, decide_eq_false (by omega)]; rfl
theorem mkN_eq {p : Nat → Bool} {n m : Nat} (hm : m < 2 ^ n) (h : ∀ i, i < n → p i = m.testBit i) : mkN n p = m := by
  refine Nat.eq_of_testBit_eq fun i => ?_
  rw [mkN_bit]
  by_cases hi : i < n
  · rw [decide_eq_true hi, h i hi]; rfl
  · rw [decide_eq_false hi, Nat.testBit_lt_two_pow (Nat.lt_of_lt_of_le hm (Nat.pow_le_pow_right (by decide) (by omega)))]; rfl
/-- A map that has a way back, on the numbers below one. -/
theorem range_perm {M : Nat} {f g : Nat → Nat} (hf : ∀ m, m < M → f m < M ∧ g (f m) = m) (hg : ∀ m, m < M → g m < M ∧ f (g m) = m) : ((List.range M).map f).Perm (List.range M) := by
  have nd : ((List.range M).map f).Nodup := by
    unfold List.Nodup
    rw [List.pairwise_map]
    refine List.Pairwise.imp_of_mem (fun {a b} ha hb hab => ?_) List.nodup_range
    intro e
    have h1 := (hf a (List.mem_range.1 ha)).2
    have h2 := (hf b (List.mem_range.1 hb)).2
    rw [e, h2] at h1
    exact hab h1.symm
  refine (List.perm_ext_iff_of_nodup nd List.nodup_range).2 fun a => ?_
  rw [List.mem_map, List.mem_range]
  constructor
  · rintro ⟨b, hb, rfl⟩; exact (hf b (List.mem_range.1 hb)).1
  · intro ha; exact ⟨g a, List.mem_range.2 (hg a ha).1, (hg a ha).2⟩
theorem bitsF_inv {N m : Nat} (hm : m < 2 ^ N) : bitsF N (bitsF N m N) N = m := by
  refine Nat.eq_of_testBit_eq fun i => ?_
  by_cases hi : i < N
  · rw [bitsF_bit _ _ _ _ hi, bitsF_bit _ _ _ _ (by omega), show N - 1 - (N - 1 - i) = i by omega]
  · rw [Nat.testBit_lt_two_pow (Nat.lt_of_lt_of_le (bitsF_lt N _ N) (Nat.pow_le_pow_right (by decide) (by omega))), Nat.testBit_lt_two_pow (Nat.lt_of_lt_of_le hm (Nat.pow_le_pow_right (by decide) (by omega)))]
theorem models_len (N : Nat) (cls : List (List Int)) (gs : List Int) : (modelsN N cls gs).length = ((List.range (2 ^ N)).filter (satM cls gs)).length := by
  unfold modelsN
  exact ((range_perm (f := fun k => bitsF N k N) (g := fun k => bitsF N k N) (fun m hm => ⟨bitsF_lt _ _ _, bitsF_inv hm⟩) fun m hm => ⟨bitsF_lt _ _ _, bitsF_inv hm⟩).filter _).length_eq
/-! ### the renaming -/
/-- The numbers of the variables: each from one on, once. -/
structure Ren (N : Nat) (tn : List Nat) : Prop where
  perm : tn.Perm ((List.range N).map (· + 1))
section
variable {N : Nat} {tn : List Nat} (R : Ren N tn)
include R
theorem Ren.len : tn.length = N := by rw [R.perm.length_eq, List.length_map, List.length_range]
theorem Ren.nd : tn.Nodup := R.perm.nodup_iff.2 (by
  unfold List.Nodup
  rw [List.pairwise_map]
  exact List.nodup_range.imp fun h e => h (by omega))
theorem Ren.rng {v : Nat} (hv : v < N) : 1 ≤ tn.getD v 0 ∧ tn.getD v 0 ≤ N := by
  have hl := R.len
  have h : tn.getD v 0 ∈ tn := by rw [List.getD_eq_getElem?_getD, List.getElem?_eq_getElem (by omega)]; exact List.getElem_mem _
  obtain ⟨i, hi, e⟩ := List.mem_map.1 (R.perm.subset h)
  have := List.mem_range.1 hi
  omega
theorem Ren.inj {v w : Nat} (hv : v < N) (hw : w < N) (e : tn.getD v 0 = tn.getD w 0) : v = w := by
  have hl := R.len
  rw [List.getD_eq_getElem?_getD, List.getD_eq_getElem?_getD, List.getElem?_eq_getElem (by omega), List.getElem?_eq_getElem (by omega)] at e
  have e : tn[v]'(by omega) = tn[w]'(by omega) := e
  have nd := List.pairwise_iff_getElem.1 R.nd
  rcases Nat.lt_trichotomy v w with h | h | h
  · exact absurd e (nd v w (by omega) (by omega) h)
  · exact h
  · exact absurd e.symm (nd w v (by omega) (by omega) h)
theorem Ren.sur {j : Nat} (hj : j < N) : tn.idxOf (j + 1) < N ∧ tn.getD (tn.idxOf (j + 1)) 0 = j + 1 := by
  have hl := R.len
  have hm : j + 1 ∈ tn := R.perm.mem_iff.2 (List.mem_map.2 ⟨j, List.mem_range.2 hj, rfl⟩)
  have h := List.idxOf_lt_length_of_mem hm
  refine ⟨by omega, ?_⟩
  rw [List.getD_eq_getElem?_getD, List.getElem?_eq_getElem h]
  exact List.getElem_idxOf h
theorem Ren.back {v : Nat} (hv : v < N) : tn.idxOf (tn.getD v 0 - 1 + 1) = v := by
  have h := R.rng hv
  have e : tn.getD v 0 - 1 + 1 = tn.getD v 0 := by omega
  have h2 := R.sur (j := tn.getD v 0 - 1) (by omega)
  rw [e] at h2 ⊢
  exact R.inj h2.1 hv h2.2
end
/-- The literal of another name. -/
def otherP (tn : List Nat) (s : Nat) (x : Int) : Int := if (decide (x < 0)) != s.testBit (x.natAbs - 1) then -(tn.getD (x.natAbs - 1) 0 : Int) else (tn.getD (x.natAbs - 1) 0 : Int)
theorem other_abs (tn : List Nat) (s : Nat) (x : Int) : (otherP tn s x).natAbs = tn.getD (x.natAbs - 1) 0 := by
  unfold otherP; split <;> omega
/-- Truths by other names. -/
def phi (N : Nat) (tn : List Nat) (s m : Nat) : Nat := mkN N fun j => m.testBit (tn.idxOf (j + 1)) ^^ s.testBit (tn.idxOf (j + 1))
def psi (N : Nat) (tn : List Nat) (s m : Nat) : Nat := mkN N fun v => m.testBit (tn.getD v 0 - 1) ^^ s.testBit v
section
variable {N : Nat} {tn : List Nat} (R : Ren N tn) (s : Nat)
include R
theorem phi_bit {v : Nat} (hv : v < N) (m : Nat) : (phi N tn s m).testBit (tn.getD v 0 - 1) = (m.testBit v ^^ s.testBit v) := by
  have h := R.rng hv
  unfold phi
  rw [mkN_bit, decide_eq_true (by omega), R.back hv]; rfl
theorem phi_psi {m : Nat} (hm : m < 2 ^ N) : phi N tn s (psi N tn s m) = m := by
  refine mkN_eq hm fun j hj => ?_
  obtain ⟨h1, h2⟩ := R.sur hj
  unfold psi
  rw [mkN_bit, decide_eq_true h1, h2, Nat.add_sub_cancel, Bool.true_and, Bool.xor_assoc, Bool.xor_self, Bool.xor_false]
theorem psi_phi {m : Nat} (hm : m < 2 ^ N) : psi N tn s (phi N tn s m) = m := by
  refine mkN_eq hm fun v hv => ?_
  rw [phi_bit R s hv, Bool.xor_assoc, Bool.xor_self, Bool.xor_false]
theorem phi_is (m : Nat) {x : Int} (hx : Lit x) (hn : x.natAbs ≤ N) : isB (phi N tn s m) (otherP tn s x) = isB m x := by
  have h0 := hx.1
  have hv : x.natAbs - 1 < N := by omega
  have hb := phi_bit R s hv m
  have hr := R.rng hv
  have ha := other_abs tn s x
  unfold isB
  rw [ha, hb]
  unfold otherP
  by_cases h : x < 0
  · rw [decide_eq_true h, if_pos h]
    cases hs : s.testBit (x.natAbs - 1) with
    | true =>
      rw [show (if (true != true) = true then -(tn.getD (x.natAbs - 1) 0 : Int) else (tn.getD (x.natAbs - 1) 0 : Int)) = (tn.getD (x.natAbs - 1) 0 : Int) from rfl, if_neg (by omega)]
      cases m.testBit (x.natAbs - 1) <;> rfl
    | false =>
      rw [show (if (true != false) = true then -(tn.getD (x.natAbs - 1) 0 : Int) else (tn.getD (x.natAbs - 1) 0 : Int)) = -(tn.getD (x.natAbs - 1) 0 : Int) from rfl, if_pos (by omega)]
      cases m.testBit (x.natAbs - 1) <;> rfl
  · rw [decide_eq_false h, if_neg h]
    cases hs : s.testBit (x.natAbs - 1) with
    | true =>
      rw [show (if (false != true) = true then -(tn.getD (x.natAbs - 1) 0 : Int) else (tn.getD (x.natAbs - 1) 0 : Int)) = -(tn.getD (x.natAbs - 1) 0 : Int) from rfl, if_pos (by omega)]
      cases m.testBit (x.natAbs - 1) <;> rfl
    | false =>
      rw [show (if (false != false) = true then -(tn.getD (x.natAbs - 1) 0 : Int) else (tn.getD (x.natAbs - 1) 0 : Int)) = (tn.getD (x.natAbs - 1) 0 : Int) from rfl, if_neg (by omega)]
      cases m.testBit (x.natAbs - 1) <;> rfl
theorem other_lit (hN : N ≤ 30) {x : Int} (hx : Lit x) (hn : x.natAbs ≤ N) : Lit (otherP tn s x) ∧ (otherP tn s x).natAbs ≤ N := by
  have h0 := hx.1
  have hr := R.rng (v := x.natAbs - 1) (by omega)
  have ha := other_abs tn s x
  refine ⟨⟨by omega, by omega, by omega⟩, by omega⟩
end
theorem firstF_id : ∀ {l acc : List Int}, Nod (acc ++ l) → firstF l acc = acc ++ l := by
  intro l
  induction l with
  | nil => intro acc _; rw [List.append_nil]; rfl
  | cons x l ih =>
    intro acc h
    have hx : ¬ (x ∈ acc ∨ -x ∈ acc) := by
      have h2 := (List.pairwise_append.1 h).2.2
      rintro (hh | hh)
      · exact h2 x hh x (List.mem_cons_self ..) rfl
      · exact h2 (-x) hh x (List.mem_cons_self ..) (Int.natAbs_neg x)
    show (if x ∈ acc ∨ -x ∈ acc then firstF l acc else firstF l (acc ++ [x])) = _
    rw [if_neg hx, ih (by rw [List.append_assoc]; exact h), List.append_assoc]; rfl
theorem clauseN_perm {l : List Int} (h : Nod l) : (clauseN l).Perm l := by
  have := isrt_perm (firstF l [])
  rw [firstF_id (acc := []) h] at this
  unfold clauseN
  rw [firstF_id (acc := []) h]
  exact this
theorem any_perm {l l' : List Int} (p : l.Perm l') (f : Int → Bool) : l.any f = l'.any f := by
  rw [Bool.eq_iff_iff, List.any_eq_true, List.any_eq_true]
  exact ⟨fun ⟨x, h, e⟩ => ⟨x, p.mem_iff.1 h, e⟩, fun ⟨x, h, e⟩ => ⟨x, p.mem_iff.2 h, e⟩⟩
/-- A clause by other names. -/
def renC (tn : List Nat) (s : Nat) (l : List Int) : List Int := clauseN (l.map (otherP tn s))
section
variable {N : Nat} (hN : N ≤ 30) {tn : List Nat} (R : Ren N tn) (s : Nat)
include hN R
theorem ren_nod {l : List Int} (h : Cv (Int.ofNat N) l) : Nod (l.map (otherP tn s)) := by
  have _ := hN
  unfold Nod
  rw [List.pairwise_map]
  refine List.Pairwise.imp_of_mem (fun {a b} ha hb hab => ?_) h.1
  have h1 := h.2 a ha
  have h2 := h.2 b hb
  have p1 := h1.1.1
  have p2 := h2.1.1
  have q1 : (a.natAbs : Int) ≤ N := h1.2
  have q2 : (b.natAbs : Int) ≤ N := h2.2
  rw [other_abs, other_abs]
  intro e
  have := R.inj (v := a.natAbs - 1) (w := b.natAbs - 1) (by omega) (by omega) e
  omega
theorem ren_mem {l : List Int} (h : Cv (Int.ofNat N) l) : ∀ x ∈ l.map (otherP tn s), Lit x ∧ x.natAbs ≤ N := fun x hx => by
  obtain ⟨y, hy, rfl⟩ := List.mem_map.1 hx
  have h1 := h.2 y hy
  have q1 : (y.natAbs : Int) ≤ N := h1.2
  exact other_lit R s hN h1.1 (by omega)
theorem ren_cv {l : List Int} (h : Cv (Int.ofNat N) l) : Cv (Int.ofNat N) (renC tn s l) :=
  ⟨clauseN_dif _, fun x hx => by
    have := ren_mem hN R s h x ((clauseN_perm (ren_nod hN R s h)).mem_iff.1 hx)
    exact ⟨this.1, by have := this.2; show (x.natAbs : Int) ≤ (N : Int); omega⟩⟩
theorem ren_any {l : List Int} (h : Cv (Int.ofNat N) l) (m : Nat) : (renC tn s l).any (isB (phi N tn s m)) = l.any (isB m) := by
  unfold renC
  rw [any_perm (clauseN_perm (ren_nod hN R s h)), List.any_map]
  rw [Bool.eq_iff_iff, List.any_eq_true, List.any_eq_true]
  have e : ∀ x ∈ l, isB (phi N tn s m) (otherP tn s x) = isB m x := fun x hx => by
    have h1 := h.2 x hx
    have q1 : (x.natAbs : Int) ≤ N := h1.2
    exact phi_is R s m h1.1 (by omega)
  exact ⟨fun ⟨x, hx, ex⟩ => ⟨x, hx, by rw [← e x hx]; exact ex⟩, fun ⟨x, hx, ex⟩ => ⟨x, hx, by show isB (phi N tn s m) (otherP tn s x) = true; rw [e x hx]; exact ex⟩⟩
theorem ren_sat {cls : List (List Int)} (hc : ∀ l ∈ cls, Cv (Int.ofNat N) l) {gs : List Int} (hg : Cv (Int.ofNat N) gs) (m : Nat) : satM (cls.map (renC tn s)) (gs.map (otherP tn s)) (phi N tn s m) = satM cls gs m := by
  unfold satM
  have e1 : (gs.map (otherP tn s)).all (isB (phi N tn s m)) = gs.all (isB m) := by
    rw [List.all_map, Bool.eq_iff_iff, List.all_eq_true, List.all_eq_true]
    refine forall_congr' fun x => forall_congr' fun hx => ?_
    have h1 := hg.2 x hx
    have q1 : (x.natAbs : Int) ≤ N := h1.2
    show isB (phi N tn s m) (otherP tn s x) = true ↔ _
    rw [phi_is R s m h1.1 (by omega)]
  have e2 : (cls.map (renC tn s)).all (fun c => c.any (isB (phi N tn s m))) = cls.all (fun c => c.any (isB m)) := by
    rw [List.all_map, Bool.eq_iff_iff, List.all_eq_true, List.all_eq_true]
    refine forall_congr' fun l => forall_congr' fun hl => ?_
    show (renC tn s l).any (isB (phi N tn s m)) = true ↔ _
    rw [ren_any hN R s (hc l hl) m]
  rw [e1, e2]
/-- As many models. -/
theorem ren_models {cls : List (List Int)} (hc : ∀ l ∈ cls, Cv (Int.ofNat N) l) {gs : List Int} (hg : Cv (Int.ofNat N) gs) : (modelsN N (cls.map (renC tn s)) (gs.map (otherP tn s))).length = (modelsN N cls gs).length := by
  rw [models_len, models_len]
  have p := range_perm (M := 2 ^ N) (f := phi N tn s) (g := psi N tn s) (fun m hm => ⟨mkN_lt _ _, psi_phi R s hm⟩) fun m hm => ⟨mkN_lt _ _, phi_psi R s hm⟩
  rw [← (p.filter (satM (cls.map (renC tn s)) (gs.map (otherP tn s)))).length_eq, List.filter_map, List.length_map]
  congr 1
  refine List.filter_congr fun m _ => ?_
  exact ren_sat hN R s hc hg m
theorem ren_no {cls : List (List Int)} (hc : ∀ l ∈ cls, Cv (Int.ofNat N) l) {gs : List Int} (hg : Cv (Int.ofNat N) gs) : noM N (cls.map (renC tn s)) (gs.map (otherP tn s)) = noM N cls gs := by
  have h := ren_models hN R s hc hg
  unfold noM
  rw [Bool.eq_iff_iff, decide_eq_true_iff, decide_eq_true_iff, ← List.length_eq_zero_iff, ← List.length_eq_zero_iff, h]
theorem ren_core {cls : List (List Int)} (hc : ∀ l ∈ cls, Cv (Int.ofNat N) l) {gs : List Int} (hg : Cv (Int.ofNat N) gs) : ∀ i, needF (psiC N (cls.map (renC tn s)) (gs.map (otherP tn s))) i (allI cls.length) = needF (psiC N cls gs) i (allI cls.length) := fun i => by
  refine needF_congr i _ fun xs hs => ?_
  have hin := sub_mem hs
  unfold psiC
  have e : selC (cls.map (renC tn s)) xs = (selC cls xs).map (renC tn s) := by
    unfold selC
    rw [List.map_map]
    refine List.map_congr_left fun x hx => ?_
    obtain ⟨j, hj, rfl⟩ := hin x hx
    show (cls.map (renC tn s)).getD j [] = renC tn s (cls.getD j [])
    rw [List.getD_eq_getElem?_getD, List.getD_eq_getElem?_getD, List.getElem?_map, List.getElem?_eq_getElem hj]; rfl
  rw [e]
  refine ren_no hN R s (fun l hl => ?_) hg
  obtain ⟨x, hx, rfl⟩ := List.mem_map.1 hl
  obtain ⟨j, hj, rfl⟩ := hin x hx
  refine hc _ ?_
  show cls.getD j [] ∈ cls
  rw [List.getD_eq_getElem?_getD, List.getElem?_eq_getElem hj]
  exact List.getElem_mem hj
end
/-- The numbers as the law makes them. -/
def toP (bs : List Nat) : Nat → List Nat
  | 0 => []
  | k + 1 => insAt (bs.getD k 0 % (k + 1)) (k + 1) (toP bs k)
theorem toP_ren (bs : List Nat) : ∀ n, Ren n (toP bs n) := by
  intro n
  induction n with
  | zero => exact ⟨List.Perm.refl _⟩
  | succ n ih =>
    refine ⟨?_⟩
    rw [List.range_succ, List.map_append]
    exact (insAt_perm _ _ _).trans ((ih.perm.cons (n + 1)).trans (List.perm_append_singleton (n + 1) ((List.range n).map (· + 1))).symm)
end Go.Proofs.YtfgfhplgnfbaaaaDoor
/- What is so as long as some objects stay; lists of lists that grow: for this seat. -/
namespace Go.Ev
open Go
/-- What is so as long as some objects stay. -/
def clo (own : Nat → Prop) (F : Hp → Prop) : Rs := ⟨own, fun h => ∀ h' : Hp, h.nx ≤ h'.nx → (∀ b, own b → h'.get b = h.get b) → F h'⟩
theorem clo.loc (own : Nat → Prop) (F : Hp → Prop) : (clo own F).Loc := fun _ _ hn he hP h'' hn2 he2 => hP h'' (Nat.le_trans hn hn2) fun b hb => (he2 b hb).trans (he b hb)
theorem clo.get {own : Nat → Prop} {F : Hp → Prop} {h : Hp} (hP : (clo own F).P h) : F h := hP h (Nat.le_refl _) fun _ _ => rfl
theorem Know.merge {h0 g : Hp} {r s : Rs} {L : List Rs} (S : Know h0 g (r :: s :: L)) (F : Hp → Prop) (hF : ∀ h', r.P h' → s.P h' → F h') : Know h0 g (clo (fun o => r.own o ∨ s.own o) F :: L) := by
  obtain ⟨r1, r2, r3⟩ := S.at_ r (List.mem_cons_self ..)
  obtain ⟨s1, s2, s3⟩ := S.at_ s (List.mem_cons_of_mem _ (List.mem_cons_self ..))
  obtain ⟨d1, d2⟩ := List.pairwise_cons.1 S.dis
  obtain ⟨d3, d4⟩ := List.pairwise_cons.1 d2
  refine ⟨S.ok, S.kp, fun q hq => ?_, List.pairwise_cons.2 ⟨fun q hq b hb hqb => ?_, d4⟩, S.ok0⟩
  · rcases List.mem_cons.1 hq with rfl | hq
    · exact ⟨clo.loc _ _, fun h' hn he => hF h' (r1 g h' hn (fun b hb => he b (.inl hb)) r2) (s1 g h' hn (fun b hb => he b (.inr hb)) s2), fun b hb => hb.elim (r3 b) (s3 b)⟩
    · exact S.at_ q (List.mem_cons_of_mem _ (List.mem_cons_of_mem _ hq))
  · rcases hb with hb | hb
    · exact d1 q (List.mem_cons_of_mem _ hq) b hb hqb
    · exact d3 q hq b hb hqb
end Go.Ev
/- Conditions of functions' code, printed by a program of ours. -/
namespace Go.Proofs.YtfgfhplgnfbaaaaDoor
open Go Go.Ev
set_option maxRecDepth 100000
set_option linter.unusedVariables false
/-! sward/swardlaw20.SatNames -/
noncomputable def b3 : Code := (Tryd.f3.body).getD .skip
noncomputable def stk3_0 : List KI := [.code (sub [1, 1, 1, 0, 1, 0] b3), .blk 0, .code (sub [1, 1, 1, 1] b3)]
noncomputable def stk3_1 : List KI := [.code (sub [1, 1, 1, 1, 1, 1, 0, 1, 0] b3), .blk 2, .code (sub [1, 1, 1, 1, 1, 1, 1] b3)]
noncomputable def stk3_2 : List KI := [.code (sub [1, 1, 1, 1, 1, 1, 0, 1, 0, 0, 1, 1, 0, 0, 1, 1, 0, 1, 0] b3), .blk 4, .code (sub [1, 1, 1, 1, 1, 1, 0, 1, 0, 0, 1, 1, 0, 0, 1, 1, 1] b3), .blk 3, .code (sub [1, 1, 1, 1, 1, 1, 0, 1, 0, 0, 1, 1, 1] b3), .code (sub [1, 1, 1, 1, 1, 1, 0, 1, 0] b3), .blk 2, .code (sub [1, 1, 1, 1, 1, 1, 1] b3)]
def lv3 : List (Nat × List Nat) := [(0, [3, 5, 6, 8, 9, 10, 39, 40]), (2, [3, 8, 9, 12, 13, 61, 62, 63]), (4, [3, 8, 9, 12, 13, 16, 61, 62, 63, 67, 68, 69])]
def I3_0 (O : CallF) (Q : Value → Hp → Prop) (v0 : Array Value) (v1 : Array Value) (x2 : Int) (x3 : Int) (b5 : Nat) (f5 : Nat) (b6 : Nat) (f6 : Nat) (b9 : Nat) (f9 : Nat) (b10 : Nat) (f10 : Nat) (x39 : Int) (x40 : Int) (h : Hp) : Prop := RKL Tryd.prog O Tryd.f3 stk3_0 192 [3, 5, 6, 8, 9, 10, 39, 40] [(.int .i8 x3), (.pointer (some ⟨b5, f5, none⟩)), (.pointer (some ⟨b6, f6, none⟩)), (.bool false), (.pointer (some ⟨b9, f9, none⟩)), (.pointer (some ⟨b10, f10, none⟩)), (.int .i64 x39), (.int .i64 x40)] h Q
def I3_1 (O : CallF) (Q : Value → Hp → Prop) (v0 : Array Value) (v1 : Array Value) (x2 : Int) (x3 : Int) (b9 : Nat) (f9 : Nat) (v12 : Value) (b13 : Nat) (f13 : Nat) (a61 : Option Addr) (n61 : Nat) (c61 : Nat) (x62 : Int) (x63 : Int) (h : Hp) : Prop := RKL Tryd.prog O Tryd.f3 stk3_1 192 [3, 8, 9, 12, 13, 61, 62, 63] [(.int .i8 x3), (.bool false), (.pointer (some ⟨b9, f9, none⟩)), v12, (.pointer (some ⟨b13, f13, none⟩)), (.slice a61 n61 c61), (.int .i64 x62), (.int .i64 x63)] h Q
def I3_2 (O : CallF) (Q : Value → Hp → Prop) (v0 : Array Value) (v1 : Array Value) (x2 : Int) (x3 : Int) (b9 : Nat) (f9 : Nat) (v12 : Value) (b13 : Nat) (f13 : Nat) (a16 : Option Addr) (n16 : Nat) (c16 : Nat) (a61 : Option Addr) (n61 : Nat) (c61 : Nat) (x62 : Int) (x63 : Int) (a67 : Option Addr) (n67 : Nat) (c67 : Nat) (x68 : Int) (x69 : Int) (h : Hp) : Prop := RKL Tryd.prog O Tryd.f3 stk3_2 192 [3, 8, 9, 12, 13, 16, 61, 62, 63, 67, 68, 69] [(.int .i8 x3), (.bool false), (.pointer (some ⟨b9, f9, none⟩)), v12, (.pointer (some ⟨b13, f13, none⟩)), (.slice a16 n16 c16), (.slice a61 n61 c61), (.int .i64 x62), (.int .i64 x63), (.slice a67 n67 c67), (.int .i64 x68), (.int .i64 x69)] h Q
def T3 (O : CallF) (Q : Value → Hp → Prop) (v0 : Array Value) (v1 : Array Value) (x2 : Int) (x3 : Int) (h : Hp) : Prop :=
  vreq (v0.toList.all one)
  (let g1 : Hp := h.add (.cells v0.toList 26 .fix)
  vreq (v1.toList.all one)
  (let g2 : Hp := g1.add (.cells v1.toList 27 .fix)
  let g3 : Hp := g2.add (.cells [(.int .u8 x2)] 5 .fix)
  ∃ l4', readAt g3 h.nx 0 44 = some l4' ∧
  ∃ x5', ∃ a6' n7' c8', ∃ h9', EvC Tryd.prog O 16 [(.agg l4'.toArray), (.int .i64 7)] g3 (.agg #[(.int .i64 x5'), (.slice a6' n7' c8')]) h9' ∧
  let g10 : Hp := h9'.add (.cells [(.int .i64 0), (.slice none 0 0)] 30 .fix)
  vreq (canW g10 h9'.nx 0 [(.int .i64 x5'), (.slice a6' n7' c8')])
  (let g11 : Hp := g10.wr h9'.nx 0 [(.int .i64 x5'), (.slice a6' n7' c8')]
  let g12 : Hp := g11.add (.cells [(.slice none 0 0)] 32 .fix)
  ∃ x13', readAt g12 h9'.nx 0 1 = some [(.int .i64 x13')] ∧
  I3_0 O Q v0 v1 x2 x3 g1.nx 0 g2.nx 0 h9'.nx 0 g11.nx 0 x13' 0 g12)))
theorem rk3 {O Q} (v0 v1 x2 x3) {h : Hp} (hO : O 3 [(.agg v0), (.agg v1), (.int .u8 x2), (.int .i8 x3)] h = none) (hh : T3 O Q v0 v1 x2 x3 h) : Ret Tryd.prog O 3 [(.agg v0), (.agg v1), (.int .u8 x2), (.int .i8 x3)] h Q :=
  .of (c := b3) Tryd.func3 (by kernel_rfl) hO (V_ok (tb := lv3) (cuts := []) 500 (Eq.mp (by kernel_rfl) hh))
def T3_0 (O : CallF) (Q : Value → Hp → Prop) (v0 : Array Value) (v1 : Array Value) (x2 : Int) (x3 : Int) (b5 : Nat) (f5 : Nat) (b6 : Nat) (f6 : Nat) (b9 : Nat) (f9 : Nat) (b10 : Nat) (f10 : Nat) (x39 : Int) (x40 : Int) (h : Hp) : Prop :=
  vcond (ltI x40 x39)
  (let g101 : Hp := h.rsv 13
  ∃ a102' n103' c104', readAt g101 b10 f10 1 = some [(.slice a102' n103' c104')] ∧
  isNat x40 fun n105' =>
  vreq (Nat.blt n105' 7)
  (∃ x106', readAt g101 b5 (f5 + (n105' * 1)) 1 = some [(.int .u8 x106')] ∧
  vreq (!(eqI (wrapF .i64 (x40 + 1)) 0))
  (vreq (g101.free (h.nx + 10))
  (let g107 : Hp := g101.lay (h.nx + 10) (.cells [(.int .i64 (wrapF .i64 (x40 + 1)))] 3 .fix)
  ∃ a108' n109' c110', ∃ h111', EvC Tryd.prog O 17 [(.slice a102' n103' c104'), (.int .i64 (Int.tmod (wrapF .i64 x106') (wrapF .i64 (x40 + 1)))), (.slice (some ⟨(h.nx + 10), 0, none⟩) 1 1)] (g107.grd []) (.slice a108' n109' c110') h111' ∧
  let g112 : Hp := h111'.rst g107
  vreq (canW (g112.grd []) b10 f10 [(.slice a108' n109' c110')])
  (let g113 : Hp := (g112.grd []).wr b10 f10 [(.slice a108' n109' c110')]
  let g114 : Hp := g113.rst g112
  I3_0 O Q v0 v1 x2 x3 b5 f5 b6 f6 b9 f9 b10 f10 x39 (wrapF .i64 (x40 + 1)) g114)))))
  (∃ x115', readAt h b9 (f9 + 0) 1 = some [(.int .i64 x115')] ∧
  let g116 : Hp := h.add (.cells [(.int .i64 0), (.slice none 0 0)] 30 .fix)
  vreq (canW g116 h.nx 0 [(.int .i64 x115'), (.slice none 0 0)])
  (let g117 : Hp := g116.wr h.nx 0 [(.int .i64 x115'), (.slice none 0 0)]
  ∃ a118' n119' c120', readAt g117 b9 (f9 + 1) 1 = some [(.slice a118' n119' c120')] ∧
  I3_1 O Q v0 v1 x2 x3 b9 f9 (.func (.func 18) #[] #[(.pointer (some ⟨b10, f10, none⟩)), (.pointer (some ⟨b6, f6, none⟩))]) h.nx 0 a118' n119' c120' (Int.ofNat n119') 0 g117))
theorem I3_0.of {O Q} (v0 v1 x2 x3 b5 f5 b6 f6 b9 f9 b10 f10 x39 x40) {h : Hp} (hh : T3_0 O Q v0 v1 x2 x3 b5 f5 b6 f6 b9 f9 b10 f10 x39 x40 h) : I3_0 O Q v0 v1 x2 x3 b5 f5 b6 f6 b9 f9 b10 f10 x39 x40 h :=
  RKL.of (tb := lv3) (cuts := []) 500 fun _ => Eq.mp (by kernel_rfl) hh
def T3_1 (O : CallF) (Q : Value → Hp → Prop) (v0 : Array Value) (v1 : Array Value) (x2 : Int) (x3 : Int) (b9 : Nat) (f9 : Nat) (v12 : Value) (b13 : Nat) (f13 : Nat) (a61 : Option Addr) (n61 : Nat) (c61 : Nat) (x62 : Int) (x63 : Int) (h : Hp) : Prop :=
  vcond (ltI x63 x62)
  (isNat x63 fun n201' =>
  isAddr a61 fun b202' f203' =>
  vreq (Nat.blt n201' n61)
  (∃ a204' n205' c206', readAt h b202' (f203' + (n201' * 1)) 1 = some [(.slice a204' n205' c206')] ∧
  I3_2 O Q v0 v1 x2 x3 b9 f9 v12 b13 f13 none 0 0 a61 n61 c61 x62 x63 a204' n205' c206' (Int.ofNat n205') 0 h))
  (∃ x207', readAt h b9 (f9 + 0) 1 = some [(.int .i64 x207')] ∧
  ∃ x208', ∃ h209', EvC Tryd.prog O 21 [(.int .i8 x3), (.int .i64 x207')] h (.int .i64 x208') h209' ∧
  let g210 : Hp := h209'.add (.cells [(.int .i64 x208')] 3 .fix)
  ∃ a211' n212' c213', ∃ h214', EvC Tryd.prog O 20 [(.slice (some ⟨h209'.nx, 0, none⟩) 1 1)] g210 (.slice a211' n212' c213') h214' ∧
  ∃ x215', ∃ a216' n217' c218', readAt h214' b9 f9 2 = some [(.int .i64 x215'), (.slice a216' n217' c218')] ∧
  ∃ x219', ∃ x220', ∃ h221', EvC Tryd.prog O 22 [(.agg #[(.int .i64 x215'), (.slice a216' n217' c218')])] h214' (.tuple #[(.int .i64 x219'), (.int .i64 x220')]) h221' ∧
  ∃ x222', ∃ a223' n224' c225', readAt h221' b13 f13 2 = some [(.int .i64 x222'), (.slice a223' n224' c225')] ∧
  ∃ x226', ∃ x227', ∃ h228', EvC Tryd.prog O 22 [(.agg #[(.int .i64 x222'), (.slice a223' n224' c225')])] h221' (.tuple #[(.int .i64 x226'), (.int .i64 x227')]) h228' ∧
  ∃ x229', ∃ a230' n231' c232', readAt h228' b9 f9 2 = some [(.int .i64 x229'), (.slice a230' n231' c232')] ∧
  ∃ a233' n234' c235', ∃ x236', ∃ h237', EvC Tryd.prog O 23 [(.agg #[(.int .i64 x229'), (.slice a230' n231' c232')]), (.slice a211' n212' c213')] h228' (.tuple #[(.slice a233' n234' c235'), (.int .i64 x236')]) h237' ∧
  let g238 : Hp := h237'.rsv 14
  ∃ x239', ∃ a240' n241' c242', readAt g238 b13 f13 2 = some [(.int .i64 x239'), (.slice a240' n241' c242')] ∧
  isAddr a211' fun b243' f244' =>
  vreq (Nat.blt 0 n212')
  (∃ x245', readAt g238 b243' (f244' + 0) 1 = some [(.int .i64 x245')] ∧
  isFn v12 fun g246' r247' r248' =>
  ∃ x249', ∃ h250', EvC Tryd.prog O g246' (r247' ++ [(.int .i64 x245')] ++ r248') (g238.grd [b13]) (.int .i64 x249') h250' ∧
  let g251 : Hp := h250'.rst g238
  vreq (g251.free (h237'.nx + 6))
  (let g252 : Hp := g251.lay (h237'.nx + 6) (.cells [(.int .i64 x249')] 3 .fix)
  ∃ a253' n254' c255', ∃ h256', EvC Tryd.prog O 20 [(.slice (some ⟨(h237'.nx + 6), 0, none⟩) 1 1)] (g252.grd [b13]) (.slice a253' n254' c255') h256' ∧
  let g257 : Hp := h256'.rst g252
  ∃ a258' n259' c260', ∃ x261', ∃ h262', EvC Tryd.prog O 23 [(.agg #[(.int .i64 x239'), (.slice a240' n241' c242')]), (.slice a253' n254' c255')] (g257.grd []) (.tuple #[(.slice a258' n259' c260'), (.int .i64 x261')]) h262' ∧
  let g263 : Hp := h262'.rst g257
  ∃ x264', ∃ a265' n266' c267', readAt g263 b9 f9 2 = some [(.int .i64 x264'), (.slice a265' n266' c267')] ∧
  ∃ a268' n269' c270', ∃ x271', ∃ h272', EvC Tryd.prog O 24 [(.agg #[(.int .i64 x264'), (.slice a265' n266' c267')]), (.slice a211' n212' c213')] g263 (.tuple #[(.slice a268' n269' c270'), (.int .i64 x271')]) h272' ∧
  let g273 : Hp := h272'.rsv 14
  ∃ x274', ∃ a275' n276' c277', readAt g273 b13 f13 2 = some [(.int .i64 x274'), (.slice a275' n276' c277')] ∧
  isAddr a211' fun b278' f279' =>
  vreq (Nat.blt 0 n212')
  (∃ x280', readAt g273 b278' (f279' + 0) 1 = some [(.int .i64 x280')] ∧
  isFn v12 fun g281' r282' r283' =>
  ∃ x284', ∃ h285', EvC Tryd.prog O g281' (r282' ++ [(.int .i64 x280')] ++ r283') (g273.grd [b13]) (.int .i64 x284') h285' ∧
  let g286 : Hp := h285'.rst g273
  vreq (g286.free (h272'.nx + 6))
  (let g287 : Hp := g286.lay (h272'.nx + 6) (.cells [(.int .i64 x284')] 3 .fix)
  ∃ a288' n289' c290', ∃ h291', EvC Tryd.prog O 20 [(.slice (some ⟨(h272'.nx + 6), 0, none⟩) 1 1)] (g287.grd [b13]) (.slice a288' n289' c290') h291' ∧
  let g292 : Hp := h291'.rst g287
  ∃ a293' n294' c295', ∃ x296', ∃ h297', EvC Tryd.prog O 24 [(.agg #[(.int .i64 x274'), (.slice a275' n276' c277')]), (.slice a288' n289' c290')] (g292.grd []) (.tuple #[(.slice a293' n294' c295'), (.int .i64 x296')]) h297' ∧
  let g298 : Hp := h297'.rst g292
  ∃ x299', ∃ a300' n301' c302', readAt g298 b9 f9 2 = some [(.int .i64 x299'), (.slice a300' n301' c302')] ∧
  ∃ a303' n304' c305', ∃ x306', ∃ h307', EvC Tryd.prog O 25 [(.agg #[(.int .i64 x299'), (.slice a300' n301' c302')]), (.slice a211' n212' c213')] g298 (.tuple #[(.slice a303' n304' c305'), (.int .i64 x306')]) h307' ∧
  let g308 : Hp := h307'.rsv 14
  ∃ x309', ∃ a310' n311' c312', readAt g308 b13 f13 2 = some [(.int .i64 x309'), (.slice a310' n311' c312')] ∧
  isAddr a211' fun b313' f314' =>
  vreq (Nat.blt 0 n212')
  (∃ x315', readAt g308 b313' (f314' + 0) 1 = some [(.int .i64 x315')] ∧
  isFn v12 fun g316' r317' r318' =>
  ∃ x319', ∃ h320', EvC Tryd.prog O g316' (r317' ++ [(.int .i64 x315')] ++ r318') (g308.grd [b13]) (.int .i64 x319') h320' ∧
  let g321 : Hp := h320'.rst g308
  vreq (g321.free (h307'.nx + 6))
  (let g322 : Hp := g321.lay (h307'.nx + 6) (.cells [(.int .i64 x319')] 3 .fix)
  ∃ a323' n324' c325', ∃ h326', EvC Tryd.prog O 20 [(.slice (some ⟨(h307'.nx + 6), 0, none⟩) 1 1)] (g322.grd [b13]) (.slice a323' n324' c325') h326' ∧
  let g327 : Hp := h326'.rst g322
  ∃ a328' n329' c330', ∃ x331', ∃ h332', EvC Tryd.prog O 25 [(.agg #[(.int .i64 x309'), (.slice a310' n311' c312')]), (.slice a323' n324' c325')] (g327.grd []) (.tuple #[(.slice a328' n329' c330'), (.int .i64 x331')]) h332' ∧
  let g333 : Hp := h332'.rst g327
  vcond (eqI x220' 0)
  (vcond (eqI x227' 0)
  (vcond (eqI x219' x226')
  (vcond (eqI x236' x261')
  (vcond (eqI x271' x296')
  (vcond (eqI x306' x331')
  (∃ q334', ∃ h335', EvC Tryd.prog O 26 [(.slice a303' n304' c305'), (.slice a328' n329' c330')] g333 (.bool q334') h335' ∧
  vcond q334'
  (∃ q336', ∃ h337', EvC Tryd.prog O 27 [] h335' (.bool q336') h337' ∧
  Q (.bool q336') h337')
  (Q (.bool false) h335'))
  (Q (.bool false) g333))
  (Q (.bool false) g333))
  (Q (.bool false) g333))
  (Q (.bool false) g333))
  (Q (.bool false) g333))
  (Q (.bool false) g333))))))))
theorem I3_1.of {O Q} (v0 v1 x2 x3 b9 f9 v12 b13 f13 a61 n61 c61 x62 x63) {h : Hp} (hh : T3_1 O Q v0 v1 x2 x3 b9 f9 v12 b13 f13 a61 n61 c61 x62 x63 h) : I3_1 O Q v0 v1 x2 x3 b9 f9 v12 b13 f13 a61 n61 c61 x62 x63 h :=
  RKL.of (tb := lv3) (cuts := []) 500 fun _ => Eq.mp (by kernel_rfl) hh
def T3_2 (O : CallF) (Q : Value → Hp → Prop) (v0 : Array Value) (v1 : Array Value) (x2 : Int) (x3 : Int) (b9 : Nat) (f9 : Nat) (v12 : Value) (b13 : Nat) (f13 : Nat) (a16 : Option Addr) (n16 : Nat) (c16 : Nat) (a61 : Option Addr) (n61 : Nat) (c61 : Nat) (x62 : Int) (x63 : Int) (a67 : Option Addr) (n67 : Nat) (c67 : Nat) (x68 : Int) (x69 : Int) (h : Hp) : Prop :=
  vcond (ltI x69 x68)
  (isNat x69 fun n301' =>
  isAddr a67 fun b302' f303' =>
  vreq (Nat.blt n301' n67)
  (∃ x304', readAt h b302' (f303' + (n301' * 1)) 1 = some [(.int .i64 x304')] ∧
  isFn v12 fun g305' r306' r307' =>
  ∃ x308', ∃ h309', EvC Tryd.prog O g305' (r306' ++ [(.int .i64 x304')] ++ r307') h (.int .i64 x308') h309' ∧
  let g310 : Hp := h309'.add (.cells [(.int .i64 x308')] 3 .fix)
  ∃ a311' n312' c313' h314', appendV Tryd.prog g310 32 32 (.slice a16 n16 c16) (.slice (some ⟨h309'.nx, 0, none⟩) 1 1) = some (.slice a311' n312' c313', h314') ∧
  I3_2 O Q v0 v1 x2 x3 b9 f9 v12 b13 f13 a311' n312' c313' a61 n61 c61 x62 x63 a67 n67 c67 x68 (wrapF .i64 (x69 + 1)) h314'))
  (let g315 : Hp := h.rsv 8
  ∃ a316' n317' c318', readAt g315 b13 (f13 + 1) 1 = some [(.slice a316' n317' c318')] ∧
  ∃ a319' n320' c321', ∃ h322', EvC Tryd.prog O 19 [(.slice a16 n16 c16)] (g315.grd [b13]) (.slice a319' n320' c321') h322' ∧
  let g323 : Hp := h322'.rst g315
  vreq (g323.free (h.nx + 4))
  (let g324 : Hp := g323.lay (h.nx + 4) (.cells [(.slice a319' n320' c321')] 32 .fix)
  ∃ a325' n326' c327' h328', appendV Tryd.prog (g324.grd []) 28 28 (.slice a316' n317' c318') (.slice (some ⟨(h.nx + 4), 0, none⟩) 1 1) = some (.slice a325' n326' c327', h328') ∧
  let g329 : Hp := h328'.rst g324
  vreq (canW (g329.grd []) b13 (f13 + 1) [(.slice a325' n326' c327')])
  (let g330 : Hp := (g329.grd []).wr b13 (f13 + 1) [(.slice a325' n326' c327')]
  let g331 : Hp := g330.rst g329
  I3_1 O Q v0 v1 x2 x3 b9 f9 v12 b13 f13 a61 n61 c61 x62 (wrapF .i64 (x63 + 1)) g331)))
theorem I3_2.of {O Q} (v0 v1 x2 x3 b9 f9 v12 b13 f13 a16 n16 c16 a61 n61 c61 x62 x63 a67 n67 c67 x68 x69) {h : Hp} (hh : T3_2 O Q v0 v1 x2 x3 b9 f9 v12 b13 f13 a16 n16 c16 a61 n61 c61 x62 x63 a67 n67 c67 x68 x69 h) : I3_2 O Q v0 v1 x2 x3 b9 f9 v12 b13 f13 a16 n16 c16 a61 n61 c61 x62 x63 a67 n67 c67 x68 x69 h :=
  RKL.of (tb := lv3) (cuts := []) 500 fun _ => Eq.mp (by kernel_rfl) hh
end Go.Proofs.YtfgfhplgnfbaaaaDoor
/- Conditions of functions' code, printed by a program of ours. -/
namespace Go.Proofs.YtfgfhplgnfbaaaaDoor
open Go Go.Ev
set_option maxRecDepth 100000
set_option linter.unusedVariables false
/-! sward/swardlaw20.SatForced -/
end Go.Proofs.YtfgfhplgnfbaaaaDoor
/- SatForced of layer 20: the loops of its law. -/
namespace Go.Proofs.YtfgfhplgnfbaaaaDoor
open Go Go.Ev
section
variable {v0 : Array Value} {x1 x2 : Int} {N : Nat} (hN : 1 ≤ N ∧ N ≤ 8) {ms : List Nat} (hms : ∀ m ∈ ms, m < 9223372036854775808) (hml : ms.length < 1000000)
  {hB : Hp} (ok : hB.Ok) {b7 : Nat} (hb7 : b7 < hB.nx) {aF a9 : Option Addr} {nF cF n9 c9 : Nat} (g7 : hB.get b7 = some (.cells [.int .i64 (Int.ofNat N), .slice aF nF cF] 30 .fix)) (M : IntsAt hB a9 n9 (ms.map Int.ofNat))
include hN hms hml ok hb7 g7 M
end
end Go.Proofs.YtfgfhplgnfbaaaaDoor
/- SatForced of layer 20: each model holds. -/
namespace Go.Proofs.YtfgfhplgnfbaaaaDoor
open Go Go.Ev
section
variable {v0 : Array Value} {x1 x2 : Int} {N : Nat} (hN : 1 ≤ N ∧ N ≤ 8) {cls : List (List Int)} (hcl : cls.length ≤ 14) (hc : ∀ l ∈ cls, Cv (Int.ofNat N) l) {ms : List Nat} (hms : ∀ m ∈ ms, m < 9223372036854775808 ∧ ∀ l ∈ cls, l.any (isB m) = true) (hml : ms.length < 1000000)
  {hB : Hp} (ok : hB.Ok) (ht : Tb hB) {b7 : Nat} (hb7 : b7 < hB.nx) {aF a9 : Option Addr} {nF cF n9 c9 : Nat} (g7 : hB.get b7 = some (.cells [.int .i64 (Int.ofNat N), .slice aF nF cF] 30 .fix)) (F : IntssAt hB aF nF cls) (M : IntsAt hB a9 n9 (ms.map Int.ofNat))
  {a10 a14 : Option Addr} {n10 c10 n14 c14 : Nat} {xs : List Int} (X : IntsAt hB a10 n10 xs) (Y : IntsAt hB a14 n14 xs) (hxl : xs.length < 1000000)
include hN hcl hc hms hml ok ht hb7 g7 F M X Y hxl
end
end Go.Proofs.YtfgfhplgnfbaaaaDoor
/- SatForced of layer 20: its law, joined. -/
namespace Go.Proofs.YtfgfhplgnfbaaaaDoor
open Go Go.Ev
end Go.Proofs.YtfgfhplgnfbaaaaDoor
/- SatNames: contracts. -/
namespace Go.Proofs.YtfgfhplgnfbaaaaDoor
set_option maxRecDepth 100000
open Go Go.Ev
abbrev iv (xs : List Int) : List Value := xs.map (Value.int .i64)
abbrev ivN (xs : List Nat) : List Value := iv (xs.map Int.ofNat)
theorem wrapN {n : Nat} (h : n < 9223372036854775808) : wrapF .i64 (Int.ofNat n) = Int.ofNat n := by
  have e : Int.ofNat n = (n : Int) := rfl
  rw [e, wrap64 (by omega) (by omega)]
theorem tmodN (a b : Nat) : Int.tmod (Int.ofNat a) (Int.ofNat b) = Int.ofNat (a % b) := rfl
theorem app32' : AppT Tryd.prog 32 3 1 8 := app32
section
variable {O : CallF} (hO : Oth O)
include hO
theorem ct18 {N : Nat} (hN : N ≤ 7) {tn : List Nat} (R : Ren N tn) {s : Nat} (hs : s < 256) {x : Int} (hx : Lit x) (hn : x.natAbs ≤ N) {h : Hp} {b1 b2 : Nat} {a : Option Addr} {n c : Nat} (g1 : readAt h b1 0 1 = some [.slice a n c]) (X : IntsAt h a n (tn.map Int.ofNat)) (g2 : readAt h b2 0 1 = some [.int .u8 (Int.ofNat s)]) :
    EvT O 18 [.int .i64 x, .pointer (some ⟨b1, 0, none⟩), .pointer (some ⟨b2, 0, none⟩)] h (.int .i64 (otherP tn s x)) h := by
  refine EvC.of_ret (rk18 (hO := hO _ _ _ (by decide)) (hh := ?_) ..)
  unfold T18
  have h0 := hx.1
  have hb := hx.2
  have hl := R.len
  have e1 : wrapF .i64 (maxI x (wrapF .i64 (0 - x)) - 1) = Int.ofNat (x.natAbs - 1) := by
    have e : wrapF .i64 (0 - x) = -x := by rw [wrap64 (by omega) (by omega)]; omega
    have em : maxI x (-x) = (x.natAbs : Int) := by
      unfold maxI
      rw [ltI_eq]
      by_cases h : x < -x
      · rw [decide_eq_true h]; show -x = _; omega
      · rw [decide_eq_false h]; show x = _; omega
    rw [e, em, wrap64 (by omega) (by omega)]
    show _ = ((x.natAbs - 1 : Nat) : Int)
    omega
  rw [e1]
  have hv : x.natAbs - 1 < N := by omega
  have hxl : x.natAbs - 1 < (tn.map Int.ofNat).length := by rw [List.length_map]; omega
  refine ⟨_, _, _, g1, isNat_i (IntsAt.rd (g := h) (h := h) X hxl ⟨_, g2, ?_⟩)⟩
  have ex : (tn.map Int.ofNat)[x.natAbs - 1] = Int.ofNat (tn.getD (x.natAbs - 1) 0) := by
    simp [List.getD, List.getElem?_eq_getElem (show x.natAbs - 1 < tn.length by omega)]
  rw [ex]
  have hrng := R.rng hv
  have es : shrF .u8 (Int.ofNat s) (x.natAbs - 1) = Int.ofNat (s / 2 ^ (x.natAbs - 1)) := by
    unfold shrF
    rw [show min (x.natAbs - 1) IntKind.u8.bits = x.natAbs - 1 from Nat.min_eq_left (show x.natAbs - 1 ≤ 8 by omega)]
    show Int.fdiv (s : Int) (2 ^ (x.natAbs - 1)) = _
    rw [Int.fdiv_eq_ediv_of_nonneg _ (Int.pow_nonneg (by decide))]
    have : ((2 : Int) ^ (x.natAbs - 1)) = ((2 ^ (x.natAbs - 1) : Nat) : Int) := by simp
    rw [this]; rfl
  rw [show Int.toNat (Int.ofNat (x.natAbs - 1)) = x.natAbs - 1 from rfl, es]
  have hsd : s / 2 ^ (x.natAbs - 1) ≤ s := Nat.div_le_self _ _
  refine vreq_t (by unfold le0; rfl) (vreq_t (by unfold inD; simp; omega) ?_)
  have e2 : landI (Int.ofNat (s / 2 ^ (x.natAbs - 1))) 1 = Int.ofNat (s / 2 ^ (x.natAbs - 1) % 2) := and_one _
  rw [e2, bit_eq]
  unfold otherP
  have e3 : wrapF .i64 (0 - Int.ofNat (tn.getD (x.natAbs - 1) 0)) = -(tn.getD (x.natAbs - 1) 0 : Int) := by
    have : Int.ofNat (tn.getD (x.natAbs - 1) 0) = (tn.getD (x.natAbs - 1) 0 : Int) := rfl
    rw [this, wrap64 (by omega) (by omega)]; omega
  have e4 : eqI (Int.ofNat (s.testBit (x.natAbs - 1)).toNat) 1 = s.testBit (x.natAbs - 1) := by cases s.testBit (x.natAbs - 1) <;> rfl
  rw [e4]
  have e5 : (!eqB (ltI x 0) (s.testBit (x.natAbs - 1))) = ((decide (x < 0)) != s.testBit (x.natAbs - 1)) := by
    rw [ltI_eq]
    cases decide (x < 0) <;> cases s.testBit (x.natAbs - 1) <;> rfl
  rw [e5]
  cases hc : ((decide (x < 0)) != s.testBit (x.natAbs - 1)) with
  | true => exact vcond_t rfl ⟨by rw [if_pos rfl, e3], rfl⟩
  | false => exact vcond_f rfl ⟨by rw [if_neg (by decide)]; rfl, rfl⟩
end
end Go.Proofs.YtfgfhplgnfbaaaaDoor
/- SatNames: loops. -/
namespace Go.Proofs.YtfgfhplgnfbaaaaDoor
set_option maxRecDepth 100000
open Go Go.Ev
theorem isF {K : FuncId → List Value → List Value → Prop} {g : FuncId} {a b : Array Value} (h : K g a.toList b.toList) : isFn (.func (.func g) a b) K := h
abbrev bv8 (xs : List Nat) : List Value := xs.map fun x => .int .u8 (Int.ofNat x)
theorem rst_same {h g : Hp} (e : h.gd = g.gd) : h.rst g = h := rst_eq e
/-- A list that a call has made. -/
theorem Know.list {h0 g g' : Hp} {L : List Rs} (S : Know h0 g L) (k : Kp g.nx g g') {a : Option Addr} {n : Nat} {xs : List Int} (X : IntsAt g' a n xs) (hf : ∀ b off, a = some ⟨b, off, none⟩ → g.nx ≤ b) :
    Know h0 g' (clo (fun o => ∃ off, a = some ⟨o, off, none⟩) (fun h => IntsAt h a n xs) :: L) :=
  S.push (r' := clo (fun o => ∃ off, a = some ⟨o, off, none⟩) (fun h => IntsAt h a n xs)) k (clo.loc _ _) (fun h' hn he => ints_sub X (fun b off e _ => he b ⟨off, e⟩) hn) fun b hb => by
    obtain ⟨off, e⟩ := hb
    exact ⟨hf b off e, SlAt.lt X b off e⟩
section
variable {O : CallF} (hO : Oth O)
include hO
/-- The numbers are made. -/
theorem lp3_0 (hins : ∀ {h : Hp} {args : List Value} {v : Value} {h' : Hp}, insV h args = some (v, h') → EvC Tryd.prog O 17 args h v h') {hB : Hp} {v0 v1 : Array Value} {x2 x3 : Int} {b5 b6 b9 b10 : Nat} {bs : List Nat} (hq : ∀ x ∈ bs, x < 256) (lq : bs.length = 7) (hb5 : b5 < hB.nx) (g5 : hB.get b5 = some (.cells (bv8 bs) 27 .fix)) {Rr : List Rs} {n : Nat} (hn : n ≤ 7) {Q : Value → Hp → Prop}
    (next : ∀ (h : Hp) (a : Option Addr) (c : Nat), Know hB h (acc hB.nx 3 1 a n c (ivN (toP bs n)) :: ob b10 (.cells [.slice a n c] 32 .fix) :: Rr) → I3_0 O Q v0 v1 x2 x3 b5 0 b6 0 b9 0 b10 0 (Int.ofNat n) (Int.ofNat n) h) :
    ∀ (d k : Nat) (h : Hp) (a : Option Addr) (c : Nat), k + d = n → (a = none ∨ c = unk) → Know hB h (acc hB.nx 3 1 a k c (ivN (toP bs k)) :: ob b10 (.cells [.slice a k c] 32 .fix) :: Rr) →
      I3_0 O Q v0 v1 x2 x3 b5 0 b6 0 b9 0 b10 0 (Int.ofNat n) (Int.ofNat k) h := by
  have _ := hO
  intro d
  induction d with
  | zero =>
    intro k h a c hk _ S
    have : k = n := by omega
    subst this
    exact next h a c S
  | succ d ih =>
    intro k h a c hk hac S
    have hkq : k < bs.length := by omega
    have hx := hq _ (List.getElem_mem hkq)
    have hmod : bs[k] % (k + 1) < k + 1 := Nat.mod_lt _ (by omega)
    refine I3_0.of (hh := ?_) ..
    unfold T3_0
    refine vcond_t (by rw [ltI_nat]; exact blt_t (by omega)) ?_
    intro g101
    have S1 : Know hB g101 (hole h.nx 13 [] :: acc hB.nx 3 1 a k c (ivN (toP bs k)) :: ob b10 (.cells [.slice a k c] 32 .fix) :: Rr) := S.rsvK 13
    have hr : readAt g101 b5 (0 + k * 1) 1 = some [.int .u8 (Int.ofNat bs[k])] := by
      have e : g101.get b5 = some (.cells (bv8 bs) 27 .fix) := (S1.ft.get b5 hb5).trans g5
      rw [readAt_get e (by rw [List.length_map]; omega), show 0 + k * 1 = k by omega, List.drop_eq_getElem_cons (by rw [List.length_map]; exact hkq)]
      simp
    refine ⟨_, _, _, S1.rd 2 rfl rfl rfl, isNat_i (vreq_t (blt_t (by omega)) ⟨_, hr, ?_⟩)⟩
    rw [wrapN (show bs[k] < 9223372036854775808 by omega), wrap_succ (by omega)]
    refine vreq_t (by rw [eqI_f (by intro hh; have := Int.ofNat_inj.1 (show Int.ofNat (k + 1) = Int.ofNat 0 from hh); omega)]; rfl) (vreq_t (S1.fre 0 rfl (by omega) (by omega) (by simp)) ?_)
    intro g107
    have S2 : Know hB g107 (ob (h.nx + 10) (.cells [.int .i64 (Int.ofNat (k + 1))] 3 .fix) :: hole h.nx 13 [h.nx + 10] :: acc hB.nx 3 1 a k c (ivN (toP bs k)) :: ob b10 (.cells [.slice a k c] 32 .fix) :: Rr) := S1.lay 0 rfl (by omega) (by omega) (by simp) _
    rw [tmodN]
    obtain ⟨a', h', e, S3⟩ := S2.ins 2 0 (x := .int .i64 (Int.ofNat (k + 1))) rfl rfl (by decide) hac (Nat.le_refl _) S2.lo app32' (p := bs[k] % (k + 1)) (by omega) rfl (List.all_eq_true.2 fun y hy => by obtain ⟨_, _, rfl⟩ := List.mem_map.1 hy; rfl) rfl (by omega)
    refine ⟨_, _, _, _, hins e, ?_⟩
    intro g112
    have eg : g112 = h' := rst_same (S3.kp.gd.trans S2.kp.gd.symm)
    have e2 : ivN (toP bs (k + 1)) = insAt (bs[k] % (k + 1)) (.int .i64 (Int.ofNat (k + 1))) (ivN (toP bs k)) := by
      show iv ((insAt (bs.getD k 0 % (k + 1)) (k + 1) (toP bs k)).map Int.ofNat) = _
      rw [insAt_map, show bs.getD k 0 = bs[k] by simp [List.getD, List.getElem?_eq_getElem hkq]]
      exact insAt_map _ _ _ _
    rw [← e2] at S3
    have S4 : Know hB g112 (ob (h.nx + 10) (.cells [.int .i64 (Int.ofNat (k + 1))] 3 .fix) :: hole h.nx 13 [h.nx + 10] :: acc hB.nx 3 1 a' (k + 1) unk (ivN (toP bs (k + 1))) :: ob b10 (.cells [.slice a k c] 32 .fix) :: Rr) := by rw [eg]; exact S3
    refine vreq_t (S4.cwg 3 rfl (fun _ h => by cases h) (by decide) rfl rfl) ?_
    intro g113 g114
    have S5 : Know hB g114 (ob (h.nx + 10) (.cells [.int .i64 (Int.ofNat (k + 1))] 3 .fix) :: hole h.nx 13 [h.nx + 10] :: acc hB.nx 3 1 a' (k + 1) unk (ivN (toP bs (k + 1))) :: ob b10 (.cells [.slice a' (k + 1) unk] 32 .fix) :: Rr) := S4.wrg 3 rfl (l := []) (fun _ h => by cases h) (by decide) rfl rfl
    exact ih (k + 1) g114 a' unk (by omega) (.inr rfl) (S5.sub _ ((List.sublist_cons_self ..).trans (List.sublist_cons_self ..)))
/-- The closure's value. -/
abbrev v18 (b10 b6 : Nat) : Value := .func (.func 18) #[] #[.pointer (some ⟨b10, 0, none⟩), .pointer (some ⟨b6, 0, none⟩)]
/-- A clause's literals. -/
theorem lp3_2 {hB : Hp} {v0 v1 : Array Value} {x2 x3 : Int} {b6 b9 b10 b13 : Nat} {N : Nat} (hN : N ≤ 7) {tn : List Nat} (R : Ren N tn) {s : Nat} (hs : s < 256) (hb6 : b6 < hB.nx) (g6 : hB.get b6 = some (.cells [.int .u8 (Int.ofNat s)] 5 .fix)) {aT : Option Addr} {nT cT : Nat} {Rr : List Rs} {l : List Int} (hl : ∀ x ∈ l, Lit x ∧ x.natAbs ≤ N) (hll : l.length ≤ 12) {a67 : Option Addr} {c67 : Nat} {hB2 : Hp} {a61 : Option Addr} {n61 c61 : Nat} {x62 x63 : Int} {Q : Value → Hp → Prop} (X : IntsAt hB2 a67 l.length l)
    (next : ∀ (h : Hp) (a : Option Addr) (n c : Nat), Ft hB2 h → Know hB h (acc hB.nx 3 1 a n c (iv (l.map (otherP tn s))) :: acc hB.nx 3 1 aT nT cT (ivN tn) :: ob b10 (.cells [.slice aT nT cT] 32 .fix) :: Rr) → I3_2 O Q v0 v1 x2 x3 b9 0 (v18 b10 b6) b13 0 a n c a61 n61 c61 x62 x63 a67 l.length c67 (Int.ofNat l.length) (Int.ofNat l.length) h) :
    ∀ (d k : Nat) (h : Hp) (a : Option Addr) (n c : Nat), k + d = l.length → Ft hB2 h → hB2.nx ≤ hB.nx → Know hB h (acc hB.nx 3 1 a n c (iv ((l.take k).map (otherP tn s))) :: acc hB.nx 3 1 aT nT cT (ivN tn) :: ob b10 (.cells [.slice aT nT cT] 32 .fix) :: Rr) →
      I3_2 O Q v0 v1 x2 x3 b9 0 (v18 b10 b6) b13 0 a n c a61 n61 c61 x62 x63 a67 l.length c67 (Int.ofNat l.length) (Int.ofNat k) h := by
  intro d
  induction d with
  | zero =>
    intro k h a n c hk f _ S
    have : k = l.length := by omega
    subst this
    rw [List.take_length] at S
    exact next h a n c f S
  | succ d ih =>
    intro k h a n c hk f hle S
    have hkl : k < l.length := by omega
    have hx := hl _ (List.getElem_mem hkl)
    refine I3_2.of (hh := ?_) ..
    unfold T3_2
    refine vcond_t (by rw [ltI_nat]; exact blt_t (by omega)) (isNat_i (IntsAt.rd (g := hB2) (h := h) X hkl (isF ?_)))
    have XT : IntsAt h aT nT (tn.map Int.ofNat) := AccE.ints (S.get 1 rfl)
    have r6 : readAt h b6 0 1 = some [.int .u8 (Int.ofNat s)] := read1 ((S.ft.get b6 hb6).trans g6) rfl
    refine ⟨_, _, ct18 hO hN R hs hx.1 hx.2 (S.rd 2 rfl rfl rfl) XT r6, ?_⟩
    intro g310
    have S1 : Know hB g310 (ob h.nx (.cells [.int .i64 (otherP tn s l[k])] 3 .fix) :: acc hB.nx 3 1 a n c (iv ((l.take k).map (otherP tn s))) :: acc hB.nx 3 1 aT nT cT (ivN tn) :: ob b10 (.cells [.slice aT nT cT] 32 .fix) :: Rr) := S.add _
    have hn : n = k := by
      have := (AccE.ints (S.get 0 rfl)).1
      rw [List.length_map, List.length_take] at this; omega
    obtain ⟨a', n', c', h', e, en, S2⟩ := S1.app 1 rfl (Nat.le_refl _) S1.lo app32' (x := .slice (some ⟨h.nx, 0, none⟩) 1 1) (ys := [.int .i64 (otherP tn s l[k])]) (k := 1) ⟨_, _, _, rfl⟩ (src_get (n := 1) (c := 1) (esz := 1) (off := 0) (S1.rd 0 rfl rfl rfl)) rfl rfl (by omega) (by unfold big; omega)
    refine ⟨_, _, _, _, e, ?_⟩
    rw [wrap_succ (by omega)]
    have e2 : iv ((l.take (k + 1)).map (otherP tn s)) = iv ((l.take k).map (otherP tn s)) ++ [.int .i64 (otherP tn s l[k])] := by
      rw [List.take_add_one, List.getElem?_eq_getElem hkl, List.map_append]
      exact List.map_append
    have S3 : Know hB h' (ob h.nx (.cells [.int .i64 (otherP tn s l[k])] 3 .fix) :: acc hB.nx 3 1 a' n' c' (iv ((l.take (k + 1)).map (otherP tn s))) :: acc hB.nx 3 1 aT nT cT (ivN tn) :: ob b10 (.cells [.slice aT nT cT] 32 .fix) :: Rr) := by rw [e2]; exact S2
    refine ih (k + 1) h' a' n' c' (by omega) ⟨fun o ho => ?_, Nat.le_trans hle S3.lo⟩ hle (S3.sub _ (List.sublist_cons_self ..))
    exact (S3.ft.get o (by omega)).trans ((S.ft.get o (by omega)).symm.trans (f.get o ho))
end
end Go.Proofs.YtfgfhplgnfbaaaaDoor
/- SatNames: the clauses; errors. -/
namespace Go.Proofs.YtfgfhplgnfbaaaaDoor
set_option maxRecDepth 100000
open Go Go.Ev
section
variable {N : Nat} (hN : 1 ≤ N ∧ N ≤ 8) {cls : List (List Int)} (hcl : cls.length ≤ 120) (hc : ∀ l ∈ cls, Cv (Int.ofNat N) l) {gs : List Int} (hg : Cv (Int.ofNat N) gs)
include hN hcl hc hg
theorem small_ask : askB (Int.ofNat N) cls gs = true := ask_of (by simp only [Int.ofNat_eq_natCast]; omega) (by simp only [Int.ofNat_eq_natCast]; omega) hcl hc hg
theorem small_how : ((solF N cls gs).how = 0 ∧ noM N cls gs = false) ∨ ((solF N cls gs).how = 1 ∧ noM N cls gs = true) := by
  have _ := hcl
  rcases solve_small (show N ≤ 30 by omega) hc hg.2 hN.2 with ⟨h0, _, _, m, rest, em, _⟩ | ⟨h1, em, _⟩
  · exact .inl ⟨h0, by unfold noM; rw [em]; rfl⟩
  · exact .inr ⟨h1, by unfold noM; rw [em]; rfl⟩
theorem model_err : (modelP (Int.ofNat N) cls gs).2 = if noM N cls gs = true then 5 else 0 := by
  unfold modelP
  rw [small_ask hN hcl hc hg, if_neg (by decide), show (Int.ofNat N).toNat = N from rfl]
  rcases small_how hN hcl hc hg with ⟨h0, h1⟩ | ⟨h0, h1⟩
  · rw [h0, h1, if_pos rfl, if_neg (by decide)]
  · rw [h0, h1, if_neg (by decide), if_pos rfl]; rfl
theorem prove_err : (proveP (Int.ofNat N) cls gs).2 = if noM N cls gs = true then 0 else 5 := by
  unfold proveP
  rw [small_ask hN hcl hc hg, if_neg (by decide), show (Int.ofNat N).toNat = N from rfl]
  rcases small_how hN hcl hc hg with ⟨h0, h1⟩ | ⟨h0, h1⟩
  · rw [h0, h1, if_pos rfl, if_neg (by decide)]
  · rw [h0, h1, if_neg (by decide), if_neg (by decide), if_pos rfl]
theorem count_is : countP (Int.ofNat N) cls = (Int.ofNat (modelsN N cls []).length, 0) := by
  have ha := small_ask hN hcl hc hg
  have hf : formB (Int.ofNat N) cls = true := by unfold askB at ha; exact (Bool.and_eq_true _ _ ▸ ha).1
  unfold countP
  rw [hf, if_neg (by decide), if_neg (by simp only [Int.ofNat_eq_natCast]; omega)]
  rw [show (Int.ofNat N).toNat = N from rfl, count_models fun l hl x hx => ((hc l hl).2 x hx).1]
end
theorem lis_snoc {h : Hp} {vs : List Value} {xss : List (List Int)} (L : Lis h vs xss) {a : Option Addr} {n c : Nat} {ys : List Int} (X : IntsAt h a n ys) : Lis h (vs ++ [.slice a n c]) (xss ++ [ys]) :=
  L.app ⟨rfl, fun i hi => by
    obtain rfl : i = 0 := by simpa using hi
    exact ⟨_, rfl, a, n, c, rfl, X⟩⟩
section
variable {O : CallF} (hO : Oth O)
include hO
/-- The clauses. -/
theorem lp3_1 {hB : Hp} {v0 v1 : Array Value} {x2 x3 : Int} {b6 b9 b10 b13 : Nat} {N : Nat} (hN : N ≤ 7) {tn : List Nat} (R : Ren N tn) {s : Nat} (hs : s < 256) (hb6 : b6 < hB.nx) (g6 : hB.get b6 = some (.cells [.int .u8 (Int.ofNat s)] 5 .fix)) {aT : Option Addr} {nT cT : Nat} {x9 : Ob} {cls : List (List Int)} (hcl : cls.length ≤ 20) (hc : ∀ l ∈ cls, Cv (Int.ofNat N) l ∧ l.length ≤ 3) {a61 : Option Addr} {c61 : Nat} (F : IntssAt hB a61 cls.length cls) {Q : Value → Hp → Prop}
    (next : ∀ (h : Hp) (a : Option Addr) (n c : Nat) (vs : List Value) (own : Nat → Prop), Know hB h [acc hB.nx 32 1 a n c vs, clo own (fun h => Lis h vs (cls.map (renC tn s))), ob b13 (.cells [.int .i64 (Int.ofNat N), .slice a n c] 30 .fix), acc hB.nx 3 1 aT nT cT (ivN tn), ob b10 (.cells [.slice aT nT cT] 32 .fix), ob b9 x9] → I3_1 O Q v0 v1 x2 x3 b9 0 (v18 b10 b6) b13 0 a61 cls.length c61 (Int.ofNat cls.length) (Int.ofNat cls.length) h) :
    ∀ (d k : Nat) (h : Hp) (a : Option Addr) (n c : Nat) (vs : List Value) (own : Nat → Prop), k + d = cls.length → Know hB h [acc hB.nx 32 1 a n c vs, clo own (fun h => Lis h vs ((cls.take k).map (renC tn s))), ob b13 (.cells [.int .i64 (Int.ofNat N), .slice a n c] 30 .fix), acc hB.nx 3 1 aT nT cT (ivN tn), ob b10 (.cells [.slice aT nT cT] 32 .fix), ob b9 x9] →
      I3_1 O Q v0 v1 x2 x3 b9 0 (v18 b10 b6) b13 0 a61 cls.length c61 (Int.ofNat cls.length) (Int.ofNat k) h := by
  intro d
  induction d with
  | zero =>
    intro k h a n c vs own hk S
    have : k = cls.length := by omega
    subst this
    rw [List.take_length] at S
    exact next h a n c vs own S
  | succ d ih =>
    intro k h a n c vs own hk S
    have hkl : k < cls.length := by omega
    obtain ⟨hcv, hl3⟩ := hc _ (List.getElem_mem hkl)
    have f := S.ft
    have hlit : ∀ x ∈ cls[k], Lit x ∧ x.natAbs ≤ N := fun x hx => by
      have := hcv.2 x hx
      exact ⟨this.1, by have := this.2; simp only [Int.ofNat_eq_natCast] at this; omega⟩
    refine I3_1.of (hh := ?_) ..
    unfold T3_1
    refine vcond_t (by rw [ltI_nat]; exact blt_t (by omega)) (isNat_i (IntssAt.rd (g := hB) (h := h) F hkl fun a67 n67 c67 X => ?_))
    obtain rfl : n67 = cls[k].length := X.1
    have S0 : Know hB h (acc hB.nx 3 1 none 0 0 (iv ((cls[k].take 0).map (otherP tn s))) :: acc hB.nx 32 1 a n c vs :: _) := S.accNil hB.nx 3 1
    have S0 : Know hB h [_, _, _, _, _, _, _] := S0
    refine lp3_2 hO hN R hs hb6 g6 (hB2 := hB) hlit (by omega) X (Rr := [acc hB.nx 32 1 a n c vs, clo own (fun h => Lis h vs ((cls.take k).map (renC tn s))), ob b13 (.cells [.int .i64 (Int.ofNat N), .slice a n c] 30 .fix), ob b9 x9]) (fun h2 a16 n16 c16 _ S => ?_) cls[k].length 0 h none 0 0 (by omega) f (Nat.le_refl _) (S0.sel [0, 4, 5, 1, 2, 3, 6] (by decide) rfl)
    -- the clause is made
    refine I3_2.of (hh := ?_) ..
    unfold T3_2
    refine vcond_f (by rw [ltI_nat]; exact blt_f (Nat.lt_irrefl _)) ?_
    intro g315
    have S1 : Know hB g315 [_, _, _, _, _, _, _, _] := S.rsvK 8
    refine ⟨_, _, _, S1.rd 6 rfl rfl rfl, ?_⟩
    have hb13 := S1.orng 6 rfl
    haveI i1 : Ft g315 (g315.grd [b13]) := ⟨fun _ _ => rfl, Nat.le_refl _⟩
    have X16 : IntsAt g315 a16 n16 (cls[k].map (otherP tn s)) := AccE.ints (S1.get 1 rfl)
    have hcr := ren_mem (by omega) R s hcv
    obtain ⟨v, h322, e322, a319, n320, c321, rfl, XR, k322, hfr, _⟩ := ct19 hO (S1.okg (l := [b13]) fun q hq => by rw [List.mem_singleton.1 hq]; exact hb13.2) (X16.to (g315.grd [b13])) (by rw [List.length_map]; omega) (fun x hx => (hcr x hx).1) (c0 := c16)
    refine ⟨_, _, _, _, e322, ?_⟩
    intro g323
    haveI i2 : Ft h322 g323 := ⟨fun _ _ => rfl, Nat.le_refl _⟩
    have k323 : Kp g315.nx g315 g323 := ⟨k322.get, k322.nx, rfl, fun f => k322.fr f⟩
    have S2 : Know hB g323 [_, _, _, _, _, _, _, _, _] := Know.list S1 k323 (XR.to g323) hfr
    refine vreq_t (S2.fre 1 rfl (by omega) (by omega) (by simp)) ?_
    intro g324
    have S3 : Know hB g324 [_, _, _, _, _, _, _, _, _, _] := S2.lay 1 rfl (by omega) (by omega) (by simp) (.cells [.slice a319 n320 c321] 32 .fix)
    have hn : n = k := by
      have A : AccE g324 hB.nx 32 1 a n c vs := S3.get 6 rfl
      have L : Lis g324 vs ((cls.take k).map (renC tn s)) := clo.get (S3.get 7 rfl)
      have := (AccE.intss A L).1
      rw [List.length_map, List.length_take] at this; omega
    obtain ⟨a', n', c', h', e, en, S4⟩ := S3.appg 6 rfl (Nat.le_refl _) S3.lo app28 (l := []) (fun _ h => by cases h) (x := .slice (some ⟨h2.nx + 4, 0, none⟩) 1 1) (ys := [.slice a319 n320 c321]) (k := 1) ⟨_, _, _, rfl⟩ (src_get (n := 1) (c := 1) (esz := 1) (off := 0) (S3.rd 0 rfl rfl rfl)) rfl rfl (by omega) (by unfold big; omega)
    refine ⟨_, _, _, _, e, ?_⟩
    intro g329
    have S4 : Know hB g329 [_, _, _, _, _, _, _, _, _, _] := S4
    refine vreq_t (S4.cwg 8 rfl (fun _ h => by cases h) (by decide) rfl rfl) ?_
    intro g330 g331
    have S5 : Know hB g331 [_, _, _, _, _, _, _, _, _, _] := S4.wrg 8 rfl (l := []) (fun _ h => by cases h) (by decide) rfl rfl
    have S6 : Know hB g331 [_, _, _, _, _, _, _] := S5.sel [1, 7, 6, 8, 4, 5, 9] (by decide) rfl
    have S7 : Know hB g331 [_, _, _, _, _, _] := S6.merge (fun h => Lis h (vs ++ [.slice a319 n320 c321]) ((cls.take (k + 1)).map (renC tn s))) fun h' A L => by
      rw [List.take_add_one, List.getElem?_eq_getElem hkl, List.map_append]
      exact lis_snoc (clo.get L) (clo.get A)
    rw [wrap_succ (by omega)]
    exact ih (k + 1) g331 a' n' c' _ _ (by omega) (S7.sel [1, 0, 2, 3, 4, 5] (by decide) rfl)
end
end Go.Proofs.YtfgfhplgnfbaaaaDoor
/- SatNames: its law. -/
namespace Go.Proofs.YtfgfhplgnfbaaaaDoor
set_option maxRecDepth 100000
open Go Go.Ev
theorem rdp {h g : Hp} (f : Ft h g) {b : Nat} {c : List Value} {e : TypeId} {m : Md} (hb : b < h.nx) (hg : h.get b = some (.cells c e m)) {off n : Nat} {r : List Value} (hr : (c.drop off).take n = r) (hl : Nat.ble (off + n) c.length = true) : readAt g b off n = some r := by
  rw [readAt_get ((f.get b hb).trans hg) (Nat.le_of_ble_eq_true hl), hr]
theorem ints1 {h : Hp} {o : Nat} {x : Int} {e : TypeId} {m : Md} (hg : h.get o = some (.cells [.int .i64 x] e m)) (ho : o < h.nx) : IntsAt h (some ⟨o, 0, none⟩) 1 [x] := (RowAt.mk (l := [x]) ho hg).ints
theorem isAddr_i {b f : Nat} {K : Nat → Nat → Prop} (h : K b f) : isAddr (some ⟨b, f, none⟩) K := h
theorem lp3_end {hB : Hp} (_ : hB.Ok) (ht : Tb hB) {v0 v1 : Array Value} {x2 x3 : Int} (h3 : -128 ≤ x3 ∧ x3 < 128) {b6 b9 b10 b13 : Nat} {N : Nat} (hN : 1 ≤ N ∧ N ≤ 7) {tn : List Nat} (R : Ren N tn) {s : Nat} (hs : s < 256) (hb6 : b6 < hB.nx) (g6 : hB.get b6 = some (.cells [.int .u8 (Int.ofNat s)] 5 .fix)) {aT : Option Addr} {nT cT : Nat} {cls : List (List Int)} (hcl : cls.length ≤ 20) (hc : ∀ l ∈ cls, Cv (Int.ofNat N) l ∧ l.length ≤ 3) {a61 : Option Addr} {c61 : Nat} (F0 : IntssAt hB a61 cls.length cls)
    {h : Hp} {aO : Option Addr} {nO cO : Nat} {vs : List Value} {own : Nat → Prop} (S0 : Know hB h [acc hB.nx 32 1 aO nO cO vs, clo own (fun h => Lis h vs (cls.map (renC tn s))), ob b13 (.cells [.int .i64 (Int.ofNat N), .slice aO nO cO] 30 .fix), acc hB.nx 3 1 aT nT cT (ivN tn), ob b10 (.cells [.slice aT nT cT] 32 .fix), ob b9 (.cells [.int .i64 (Int.ofNat N), .slice a61 cls.length c61] 30 .fix)]) :
    I3_1 Ow Yes v0 v1 x2 x3 b9 0 (v18 b10 b6) b13 0 a61 cls.length c61 (Int.ofNat cls.length) (Int.ofNat cls.length) h := by
  have hO : Oth Ow := Ow_oth
  have h30 : N ≤ 30 := by omega
  have hN8 : 1 ≤ N ∧ N ≤ 8 := by omega
  have hcc : ∀ l ∈ cls, Cv (Int.ofNat N) l := fun l hl => (hc l hl).1
  have hcc2 : ∀ l ∈ cls.map (renC tn s), Cv (Int.ofNat N) l := fun l hl => by obtain ⟨l0, h0, rfl⟩ := List.mem_map.1 hl; exact ren_cv h30 R s (hcc l0 h0)
  have llen : ∀ l ∈ cls, l.length < 1000000 := fun l hl => by have := (hc l hl).2; omega
  have llen2 : ∀ l ∈ cls.map (renC tn s), l.length < 1000000 := fun l hl => by have := cv_len (hcc2 l hl); omega
  have hcl2 : (cls.map (renC tn s)).length ≤ 20 := by rw [List.length_map]; exact hcl
  have n0 : 0 < hB.nx := by have := ht.1; omega
  have fB := S0.ft
  have F : IntssAt h a61 cls.length cls := F0.to h
  have FO : IntssAt h aO nO (cls.map (renC tn s)) := AccE.intss (S0.get 0 rfl) (clo.get (S0.get 1 rfl))
  have XT : IntsAt h aT nT (tn.map Int.ofNat) := AccE.ints (S0.get 3 rfl)
  have l13 := (S0.orng 2 rfl).2
  have l10 := (S0.orng 4 rfl).2
  have l9 := (S0.orng 5 rfl).2
  have g13 := S0.obj 2 rfl
  have g10 := S0.obj 4 rfl
  have g9 := S0.obj 5 rfl
  have l6 : b6 < h.nx := Nat.lt_of_lt_of_le hb6 fB.nx
  have g6 : h.get b6 = some (.cells [.int .u8 (Int.ofNat s)] 5 .fix) := (fB.get b6 hb6).trans g6
  have ht : Tb h := ht.kp S0.kp n0
  have ok := S0.ok
  refine I3_1.of (hh := ?_) ..
  unfold T3_1
  have hNi : (1 : Int) ≤ Int.ofNat N ∧ Int.ofNat N ≤ 30 := by simp only [Int.ofNat_eq_natCast]; omega
  obtain ⟨hg0, hgn⟩ := litP_ok h3.1 h3.2 hNi.1 hNi.2
  refine vcond_f (by rw [ltI_nat]; exact blt_f (Nat.lt_irrefl _)) ⟨_, S0.rd 5 rfl rfl rfl, _, _, ct21 hO h3.1 h3.2 hNi.1 hNi.2 h, ?_⟩
  generalize litP x3 (Int.ofNat N) = g0 at hg0 hgn
  have hgn : g0.natAbs ≤ N := hgn
  have hcg : Cv (Int.ofNat N) [g0] := ⟨List.pairwise_singleton _ _, fun x hx => by rw [List.mem_singleton] at hx; subst hx; exact ⟨hg0, by simp only [Int.ofNat_eq_natCast]; omega⟩⟩
  obtain ⟨hg1, hgn1⟩ := other_lit R s h30 hg0 hgn
  have hcg2 : Cv (Int.ofNat N) [otherP tn s g0] := ⟨List.pairwise_singleton _ _, fun x hx => by rw [List.mem_singleton] at hx; subst hx; exact ⟨hg1, by simp only [Int.ofNat_eq_natCast]; omega⟩⟩
  have D1 : askB (Int.ofNat N) cls [g0] = true → ∃ Dc, Dec (Int.ofNat N).toNat (cls.map sideN) [g0] Dc ∧ Dc [] := fun _ => ⟨_, dec_ok h30 hcc hcg.2, dcs_nil⟩
  have D2 : askB (Int.ofNat N) (cls.map (renC tn s)) [otherP tn s g0] = true → ∃ Dc, Dec (Int.ofNat N).toNat ((cls.map (renC tn s)).map sideN) [otherP tn s g0] Dc ∧ Dc [] := fun _ => ⟨_, dec_ok h30 hcc2 hcg2.2, dcs_nil⟩
  have T1 : askB (Int.ofNat N) cls [g0] = true → (solF (Int.ofNat N).toNat cls [g0]).y < 2 ^ 30 ∧ (solF (Int.ofNat N).toNat cls [g0]).m < 2 ^ 30 := fun _ => search_lt h30 hcc hcg.2 (N + 1) dcs_nil
  have T2 : askB (Int.ofNat N) (cls.map (renC tn s)) [otherP tn s g0] = true → (solF (Int.ofNat N).toNat (cls.map (renC tn s)) [otherP tn s g0]).y < 2 ^ 30 ∧ (solF (Int.ofNat N).toNat (cls.map (renC tn s)) [otherP tn s g0]).m < 2 ^ 30 := fun _ => search_lt h30 hcc2 hcg2.2 (N + 1) dcs_nil
  have eno : noM N (cls.map (renC tn s)) [otherP tn s g0] = noM N cls [g0] := ren_no h30 R s hcc (gs := [g0]) hcg
  have emo : (modelsN N (cls.map (renC tn s)) []).length = (modelsN N cls []).length := ren_models h30 R s hcc (gs := []) ⟨List.Pairwise.nil, fun _ h => by cases h⟩
  have C1 := core_is hN8 hcc hcg.2
  have C2 := core_is hN8 hcc2 hcg2.2
  have ecore := ren_core h30 R s hcc hcg (cls.map (renC tn s)).length
  rw [eno, List.length_map, show needF (psiC N (cls.map (renC tn s)) [otherP tn s g0]) cls.length (allI cls.length) = needF (psiC N cls [g0]) cls.length (allI cls.length) from ren_core h30 R s hcc hcg cls.length] at C2
  clear ecore
  -- the given literal, and the numbers of models
  intro g210
  have S : Know h g210 [ob h.nx (.cells [.int .i64 g0] 3 .fix)] := (Know.nil ok).add _
  have lq : h.nx < g210.nx := (S.orng 0 rfl).2
  have gq := S.obj 0 rfl
  refine ⟨_, _, _, _, ct20 hO _ _ _ _, _, _, _, _, rdp S.ft l9 g9 rfl rfl, ?_⟩
  have f1 := S.ft
  obtain ⟨v, h221, e221, rfl, k221⟩ := ct22 hO S.ok (F.to g210) (by omega) llen (vars := Int.ofNat N) (c := c61)
  rw [count_is hN8 (by omega) hcc hcg] at e221
  have S : Know h h221 [_] := S.call k221
  have f2 := S.ft
  refine ⟨_, _, _, e221, _, _, _, _, rdp S.ft l13 g13 rfl rfl, ?_⟩
  obtain ⟨v, h228, e228, rfl, k228⟩ := ct22 hO S.ok (FO.to h221) (by omega) llen2 (vars := Int.ofNat N) (c := cO)
  rw [count_is hN8 (by omega) hcc2 hcg2, emo] at e228
  have S : Know h h228 [_] := S.call k228
  have f3 := S.ft
  refine ⟨_, _, _, e228, _, _, _, _, rdp S.ft l9 g9 rfl rfl, ?_⟩
  obtain ⟨v, h237, e237, a233, n234, c235, rfl, _, k237⟩ := ct23 hO S.ok (ht.kp S.kp (by omega)) (F.to h228) (by omega) llen (ints1 (S.obj 0 rfl) (S.orng 0 rfl).2) (by simp) D1 T1 (c := c61) (c1 := 1)
  rw [model_err hN8 (by omega) hcc hcg] at e237
  refine ⟨_, _, _, _, _, e237, ?_⟩
  have S : Know h h237 [_] := S.call k237
  have f4 := S.ft
  intro g238
  have S : Know h g238 [_, _] := S.rsvK 14
  have S : Know h g238 [ob h.nx (.cells [.int .i64 g0] 3 .fix), hole h237.nx 14 []] := S.sel [1, 0] (by decide) rfl
  have f2 := S.ft
  have f3 : Ft h (g238.grd [b13]) := S.ftg _
  refine ⟨_, _, _, _, rdp f2 l13 g13 rfl rfl, isAddr_i (vreq_t rfl ⟨_, S.rd 0 rfl rfl rfl, isF ⟨_, _, ct18 hO hN.2 R hs hg0 hgn (rdp f3 l10 g10 rfl rfl) (XT.to _) (rdp f3 l6 g6 rfl rfl), ?_⟩⟩)⟩
  intro g251
  have S : Know h g251 [_, _] := S
  refine vreq_t (S.fre 1 rfl (by omega) (by omega) (by simp)) ?_
  intro g252
  have S : Know h g252 [_, _, _] := S.lay 1 rfl (by omega) (by omega) (by simp) (.cells [.int .i64 (otherP tn s g0)] 3 .fix)
  refine ⟨_, _, _, _, ct20 hO _ _ _ _, ?_⟩
  intro g257
  have S : Know h g257 [ob (h237.nx + 6) (.cells [.int .i64 (otherP tn s g0)] 3 .fix), ob h.nx (.cells [.int .i64 g0] 3 .fix), hole h237.nx 14 [h237.nx + 6]] := S
  have G1 := ints1 (S.obj 0 rfl) (S.orng 0 rfl).2
  have S : Know h g257 [_] := S.sel [1] (by decide) rfl
  have f4 := S.ft
  obtain ⟨v, h262, e262, _, _, _, rfl, _, k262⟩ := ct23 hO (h := g257.grd []) (S.okg (l := []) fun _ h => by cases h) (ht.kp S.kp (by omega)) (FO.to g257) (by omega) llen2 G1 (by simp) D2 T2 (c := cO) (c1 := 1)
  rw [model_err hN8 (by omega) hcc2 hcg2, eno] at e262
  refine ⟨_, _, _, _, _, e262, ?_⟩
  intro g263
  have S : Know h g263 [_] := S.callg (l := []) k262
  have f6 := S.ft
  refine ⟨_, _, _, _, rdp S.ft l9 g9 rfl rfl, ?_⟩
  obtain ⟨v, h272, e272, _, _, _, rfl, _, k272⟩ := ct24 hO S.ok (ht.kp S.kp (by omega)) (F.to g263) (by omega) llen (ints1 (S.obj 0 rfl) (S.orng 0 rfl).2) (by simp) D1 (c := c61) (c1 := 1)
  rw [prove_err hN8 (by omega) hcc hcg] at e272
  refine ⟨_, _, _, _, _, e272, ?_⟩
  have S : Know h h272 [_] := S.call k272
  have f7 := S.ft
  intro g273
  have S : Know h g273 [_, _] := S.rsvK 14
  have S : Know h g273 [ob h.nx (.cells [.int .i64 g0] 3 .fix), hole h272.nx 14 []] := S.sel [1, 0] (by decide) rfl
  have f2 := S.ft
  have f3 : Ft h (g273.grd [b13]) := S.ftg _
  refine ⟨_, _, _, _, rdp f2 l13 g13 rfl rfl, isAddr_i (vreq_t rfl ⟨_, S.rd 0 rfl rfl rfl, isF ⟨_, _, ct18 hO hN.2 R hs hg0 hgn (rdp f3 l10 g10 rfl rfl) (XT.to _) (rdp f3 l6 g6 rfl rfl), ?_⟩⟩)⟩
  intro g286
  have S : Know h g286 [_, _] := S
  refine vreq_t (S.fre 1 rfl (by omega) (by omega) (by simp)) ?_
  intro g287
  have S : Know h g287 [_, _, _] := S.lay 1 rfl (by omega) (by omega) (by simp) (.cells [.int .i64 (otherP tn s g0)] 3 .fix)
  refine ⟨_, _, _, _, ct20 hO _ _ _ _, ?_⟩
  intro g292
  have S : Know h g292 [ob (h272.nx + 6) (.cells [.int .i64 (otherP tn s g0)] 3 .fix), ob h.nx (.cells [.int .i64 g0] 3 .fix), hole h272.nx 14 [h272.nx + 6]] := S
  have G1 := ints1 (S.obj 0 rfl) (S.orng 0 rfl).2
  have S : Know h g292 [_] := S.sel [1] (by decide) rfl
  have f4 := S.ft
  obtain ⟨v, h297, e297, _, _, _, rfl, _, k297⟩ := ct24 hO (h := g292.grd []) (S.okg (l := []) fun _ h => by cases h) (ht.kp S.kp (by omega)) (FO.to g292) (by omega) llen2 G1 (by simp) D2 (c := cO) (c1 := 1)
  rw [prove_err hN8 (by omega) hcc2 hcg2, eno] at e297
  refine ⟨_, _, _, _, _, e297, ?_⟩
  intro g298
  have S : Know h g298 [_] := S.callg (l := []) k297
  have f9 := S.ft
  refine ⟨_, _, _, _, rdp S.ft l9 g9 rfl rfl, ?_⟩
  obtain ⟨v, h307, e307, a303, n304, c305, rfl, X303, k307⟩ := ct25 hO S.ok (ht.kp S.kp (by omega)) h30 (by omega) hcc hcg (F.to g298) (ints1 (S.obj 0 rfl) (S.orng 0 rfl).2) (cF := c61) (cG := 1)
  rw [C1] at e307 X303
  refine ⟨_, _, _, _, _, e307, ?_⟩
  have S : Know h h307 [_] := S.call k307
  have f10 := S.ft
  intro g308
  have S : Know h g308 [_, _] := S.rsvK 14
  have S : Know h g308 [ob h.nx (.cells [.int .i64 g0] 3 .fix), hole h307.nx 14 []] := S.sel [1, 0] (by decide) rfl
  have f2 := S.ft
  have f3 : Ft h (g308.grd [b13]) := S.ftg _
  refine ⟨_, _, _, _, rdp f2 l13 g13 rfl rfl, isAddr_i (vreq_t rfl ⟨_, S.rd 0 rfl rfl rfl, isF ⟨_, _, ct18 hO hN.2 R hs hg0 hgn (rdp f3 l10 g10 rfl rfl) (XT.to _) (rdp f3 l6 g6 rfl rfl), ?_⟩⟩)⟩
  intro g321
  have S : Know h g321 [_, _] := S
  refine vreq_t (S.fre 1 rfl (by omega) (by omega) (by simp)) ?_
  intro g322
  have S : Know h g322 [_, _, _] := S.lay 1 rfl (by omega) (by omega) (by simp) (.cells [.int .i64 (otherP tn s g0)] 3 .fix)
  refine ⟨_, _, _, _, ct20 hO _ _ _ _, ?_⟩
  intro g327
  have S : Know h g327 [ob (h307.nx + 6) (.cells [.int .i64 (otherP tn s g0)] 3 .fix), ob h.nx (.cells [.int .i64 g0] 3 .fix), hole h307.nx 14 [h307.nx + 6]] := S
  have G1 := ints1 (S.obj 0 rfl) (S.orng 0 rfl).2
  have S : Know h g327 [_] := S.sel [1] (by decide) rfl
  have f4 := S.ft
  have n327 : h307.nx ≤ g327.nx := by show h307.nx ≤ h307.nx + 14; omega
  have c327 : ∀ o, o < h307.nx → g327.get o = h307.get o := fun o ho => by
    show (Hp.lay _ _ _).get o = _
    rw [get_lay, if_neg (by omega)]; rfl
  obtain ⟨v, h332, e332, a328, n329, c330, rfl, X328, k332⟩ := ct25 hO (h := g327.grd []) (S.okg (l := []) fun _ h => by cases h) (ht.kp S.kp (by omega)) h30 (by omega) hcc2 hcg2 (FO.to g327) G1 (cF := cO) (cG := 1)
  rw [List.length_map, C2] at e332 X328
  refine ⟨_, _, _, _, _, e332, ?_⟩
  intro g333
  have S : Know h g333 [_] := S.callg (l := []) k332
  refine vcond_t rfl (vcond_t rfl (vcond_t (eqI_t rfl) (vcond_t (eqI_t rfl) (vcond_t (eqI_t rfl) (vcond_t (eqI_t rfl) ?_)))))
  haveI f12 : Ft h307 g333 := ⟨fun o ho => (k332.get o (Nat.lt_of_lt_of_le ho n327)).trans (c327 o ho), Nat.le_trans n327 k332.nx⟩
  haveI f13 : Ft h332 g333 := ⟨fun _ _ => rfl, Nat.le_refl _⟩
  obtain ⟨v, h335, e335, rfl, k335⟩ := ct26 hO (X303.to g333) (X328.to g333) (by
    split
    · refine Nat.lt_of_le_of_lt (needF_sub _ _ _).length_le ?_
      rw [allI_len]; omega
    · simp) (c := c305) (c' := c330)
  have S : Know h h335 [_] := S.call k335
  refine ⟨_, _, e335, ?_⟩
  rw [decide_eq_true rfl]
  exact vcond_t rfl ⟨_, _, works_true (ht.kp S.kp (by omega)), rfl⟩
end Go.Proofs.YtfgfhplgnfbaaaaDoor
/- SatNames: its law. -/
namespace Go.Proofs.YtfgfhplgnfbaaaaDoor
set_option maxRecDepth 100000
open Go Go.Ev
theorem law3 {vars many : Nat} {cl : List Int} (p : PuzOk vars many cl) {bs : List Nat} (lb : bs.length = 7) (hb : ∀ x ∈ bs, x < 256) {s : Nat} (hs : s < 256) {x3 : Int} (h3 : -128 ≤ x3 ∧ x3 < 128) {h : Hp} (ok : h.Ok) (ht : Tb h) :
    Ret Tryd.prog Ow 3 [.agg (puzV vars many cl).toArray, .agg (bv8 bs).toArray, .int .u8 (Int.ofNat s), .int .i8 x3] h Yes := by
  have hO : Oth Ow := Ow_oth
  have n0 : 0 < h.nx := by have := ht.1; omega
  refine rk3 (hO := hO _ _ _ (by decide)) (hh := ?_) ..
  unfold T3
  have pv := p.v
  refine vreq_t (by simp [puzV, one]) ?_
  intro g1
  have S : Know h g1 [_] := (Know.nil ok).add _
  refine vreq_t (List.all_eq_true.2 fun y hy => by obtain ⟨_, _, rfl⟩ := List.mem_map.1 hy; rfl) ?_
  intro g2
  have S : Know h g2 [ob g1.nx (.cells (bv8 bs) 27 .fix), _] := S.add _
  intro g3
  have S : Know h g3 [ob g2.nx (.cells [.int .u8 (Int.ofNat s)] 5 .fix), ob g1.nx (.cells (bv8 bs) 27 .fix), ob h.nx (.cells (puzV vars many cl) 26 .fix)] := S.add _
  have pl : (puzV vars many cl).length = 44 := by simp [puzV, p.len]
  refine ⟨_, S.rd 2 rfl (by rw [List.drop_zero, ← pl, List.take_length]) (by rw [pl]; rfl), ?_⟩
  obtain ⟨v, h9, e9, a6, n7, c8, rfl, F, K9⟩ := ct16 hO S.ok p (x1 := 7) ⟨by decide, by decide⟩
  refine ⟨_, _, _, _, _, e9, ?_⟩
  have hmod : 0 ≤ (vars : Int).tmod 7 ∧ (vars : Int).tmod 7 < 7 := ⟨Int.tmod_nonneg _ (by omega), Int.tmod_lt_of_pos _ (by omega)⟩
  obtain ⟨N, hNe⟩ : ∃ N : Nat, 1 + (vars : Int).tmod 7 = Int.ofNat N := ⟨(1 + (vars : Int).tmod 7).toNat, by simp only [Int.ofNat_eq_natCast]; omega⟩
  rw [hNe] at F ⊢
  have hN : 1 ≤ N ∧ N ≤ 7 := by simp only [Int.ofNat_eq_natCast] at hNe; omega
  have hNi : (1 : Int) ≤ Int.ofNat N ∧ Int.ofNat N ≤ 30 := by simp only [Int.ofNat_eq_natCast]; omega
  obtain ⟨cn, co⟩ := clsN_ok p (N := Int.ofNat N) hNi (many % 15)
  have hcl : (clsN (Int.ofNat N) cl (many % 15)).length ≤ 20 := by rw [cn]; omega
  generalize clsN (Int.ofNat N) cl (many % 15) = cls at F co hcl cn
  obtain rfl : n7 = cls.length := F.1
  have S : Know h h9 [_, _, _] := S.call K9
  have g5 := S.obj 1 rfl
  have hb5 := (S.orng 1 rfl).2
  have g6 := S.obj 0 rfl
  have hb6 := (S.orng 0 rfl).2
  have ok9 := S.ok
  have ht9 : Tb h9 := ht.kp S.kp n0
  intro g10
  have S : Know h9 g10 [_] := (Know.nil ok9).add _
  refine vreq_t (S.cw 0 rfl (by decide) rfl rfl) ?_
  intro g11
  have S : Know h9 g11 [_] := S.wr 0 rfl (by decide) rfl rfl
  intro g12
  have S : Know h9 g12 [_, _] := S.add _
  refine ⟨_, S.rd 1 rfl rfl rfl, ?_⟩
  have S : Know h9 g12 [_, _, _] := S.accNil h9.nx 3 1
  refine lp3_0 hO (fun e => Ow_ins e) hb lb hb5 g5 (Rr := [ob h9.nx (.cells [.int .i64 (Int.ofNat N), .slice a6 cls.length c8] 30 .fix)]) hN.2 (fun h1 aT cT S => ?_) N 0 g12 none 0 (by omega) (.inl rfl) S
  have S : Know h9 h1 [_, _, _] := S
  refine I3_0.of (hh := ?_) ..
  unfold T3_0
  refine vcond_f (by rw [ltI_nat]; exact blt_f (Nat.lt_irrefl _)) ⟨_, S.rd 2 rfl rfl rfl, ?_⟩
  intro g116
  have S : Know h9 g116 [_, _, _, _] := S.add _
  refine vreq_t (S.cw 0 rfl (by decide) rfl rfl) ?_
  intro g117
  have S : Know h9 g117 [_, _, _, _] := S.wr 0 rfl (by decide) rfl rfl
  refine ⟨_, _, _, S.rd 3 rfl rfl rfl, ?_⟩
  have S : Know h9 g117 [_, _, _, _, _] := S.push (r' := clo (fun _ => False) (fun h => Lis h [] ((cls.take 0).map (renC (toP bs N) s)))) (Kp.refl _ _) (clo.loc _ _) (fun h' _ _ => Lis.nil h') fun _ h => h.elim
  have S : Know h9 g117 [_, _, _, _, _, _] := S.accNil h9.nx 32 1
  refine lp3_1 hO hN.2 (toP_ren bs N) hs hb6 g6 hcl co F (fun h2 a n c vs own S => ?_) cls.length 0 g117 none 0 0 [] _ (by omega) S
  exact lp3_end ok9 ht9 h3 hN (toP_ren bs N) hs hb6 g6 hcl co F S
theorem und27 : Tryd.prog.underlying 27 = some (.array 7 5) := by kernel_rfl
theorem sz27 : Tryd.prog.cellsOf 27 = 7 * Tryd.prog.cellsOf 5 := by kernel_rfl
theorem n27 : Tryd.prog.cellsOf 27 = 7 := by kernel_rfl
theorem bld27 {H : Type} {enc : TypeId × Value → H} {W : World} : ∀ n, Builds H enc Tryd.prog W n 27
  | 0 => build0 27
  | n + 1 => build_array (bld5 n) sz27 und27
theorem int5 {H : Type} {h : Hp} : ∀ n cs (d : DataW H), DE Tryd.prog h n 5 cs d → AllInt .u8 cs := fun _ _ _ D => DE_allInt und5 D
theorem bytes_list {cs : List Value} (h : AllInt .u8 cs) : ∃ xs : List Nat, cs = bv8 xs ∧ ∀ x ∈ xs, x < 256 := by
  obtain ⟨zs, e, hz⟩ := h.list
  have hb : ∀ z ∈ zs, 0 ≤ z ∧ z < 256 := fun z hz' => by
    have := wf_rng (hz z hz')
    have m1 : IntKind.min .u8 = 0 := rfl
    have m2 : IntKind.max .u8 = 255 := rfl
    omega
  refine ⟨zs.map Int.toNat, ?_, fun x hx => ?_⟩
  · rw [e]
    show List.map (Value.int .u8) zs = List.map (fun x => Value.int .u8 (Int.ofNat x)) (List.map Int.toNat zs)
    rw [List.map_map]
    refine List.map_congr_left fun z hz' => ?_
    have := hb z hz'
    show Value.int .u8 z = .int .u8 (Int.ofNat z.toNat)
    rw [Int.ofNat_eq_natCast, Int.toNat_of_nonneg this.1]
  · obtain ⟨z, hz', rfl⟩ := List.mem_map.1 hx
    have := hb z hz'
    omega
set_option maxRecDepth 100000 in
theorem seven_of {H : Type} {h : Hp} {n : Nat} {v : Value} {d : DataW H} (D : DE Tryd.prog h n 27 v.cells.toList d) : ∃ bs : List Nat, v = .agg (bv8 bs).toArray ∧ bs.length = 7 ∧ ∀ x ∈ bs, x < 256 := by
  obtain ⟨hl, ha⟩ := DE_array und27 sz27 int5 D
  obtain ⟨qs, e, hq⟩ := bytes_list ha
  have hl : v.cells.toList.length = 7 := hl.trans (by rw [n27])
  have lx := hl
  rw [e, List.length_map] at lx
  exact ⟨qs, agg_of_list e (by rw [List.length_map]; omega), lx, hq⟩
end Go.Proofs.YtfgfhplgnfbaaaaDoor
