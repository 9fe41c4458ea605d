/- Lists of lists that grow, their elements laid meanwhile. -/
import Derived.Test.YtfgfhplgnfbaaaaDoorYE
import Derived.Test.YtfgfhplgnfbaaaaDoorProg
import Derived.Test.YtfgfhplgnfbaaaaDoorYC
import Derived.KernelRfl
import Derived.Test.YtfgfhplgnfbaaaaDoorYD
namespace Go.Proofs.YtfgfhplgnfbaaaaDoor
open Go Go.Ev
/-- Where an element may lie: neither in what is written nor in the list that grows. -/
def VOk (lo base : Nat) (v : Value) : Prop := ∀ b off n c, v = .slice (some ⟨b, off, none⟩) n c → (b < lo ∨ base ≤ b) ∧ (b < base ∨ 0 < n)
def LL (lo base : Nat) (h : Hp) (a : Option Addr) (n c : Nat) (xss : List (List Int)) : Prop := ∃ vs, AccE h base 32 1 a n c vs ∧ Lis h vs xss ∧ ∀ v ∈ vs, VOk lo base v
theorem LL.nil (lo base : Nat) (h : Hp) : LL lo base h none 0 0 [] := ⟨[], .inl (Acc.nil ..), .nil h, fun _ h => by cases h⟩
theorem LL.intss {lo base : Nat} {h : Hp} {a : Option Addr} {n c : Nat} {xss : List (List Int)} (A : LL lo base h a n c xss) : IntssAt h a n xss := let ⟨_, A, L, _⟩ := A; AccE.intss A L
theorem LL.len {lo base : Nat} {h : Hp} {a : Option Addr} {n c : Nat} {xss : List (List Int)} (A : LL lo base h a n c xss) : n = xss.length := A.intss.1
theorem AccE.to {h : Hp} (h' : Hp) [k : Ft h h'] {base : Nat} {e : TypeId} {esz : Nat} {a : Option Addr} {n c : Nat} {xs : List Value} (H : AccE h base e esz a n c xs) : AccE h' base e esz a n c xs :=
  H.keep (fun o ho _ => k.get o ho) k.nx
theorem Lis.to {h : Hp} (h' : Hp) [k : Ft h h'] {vs : List Value} {xs : List (List Int)} (A : Lis h vs xs) : Lis h' vs xs := ⟨A.1, fun i hi => let ⟨v, h1, h2⟩ := A.2 i hi; ⟨v, h1, EUp.up _ _ _ _ k h2⟩⟩
theorem LL.to {lo base : Nat} {h : Hp} (h' : Hp) [k : Ft h h'] {a : Option Addr} {n c : Nat} {xss : List (List Int)} (A : LL lo base h a n c xss) : LL lo base h' a n c xss :=
  let ⟨vs, A, L, o⟩ := A; ⟨vs, AccE.to h' A, L.to h', o⟩
/-- Something else changes. -/
theorem ints_sub {h h' : Hp} {a : Option Addr} {n : Nat} {xs : List Int} (X : IntsAt h a n xs) (hk : ∀ b off, a = some ⟨b, off, none⟩ → b < h.nx → h'.get b = h.get b) (hn : h.nx ≤ h'.nx) : IntsAt h' a n xs := by
  refine ⟨X.1, X.2.imp id ?_⟩
  rintro ⟨b, off, c, e, m, h1, h2, h3, h4, h5⟩
  exact ⟨b, off, c, e, m, h1, Nat.lt_of_lt_of_le h2 hn, by rw [hk b off h1 h2]; exact h3, h4, h5⟩
theorem LL.wr {lo base : Nat} {h : Hp} {a : Option Addr} {n c : Nat} {xss : List (List Int)} (A : LL lo base h a n c xss) {q : Nat} (h1 : lo ≤ q) (h2 : q < base) (off : Nat) (ws : List Value) : LL lo base (h.wr q off ws) a n c xss := by
  obtain ⟨vs, A, L, o⟩ := A
  refine ⟨vs, A.keep (fun p _ hp => wr_get_ne _ _ _ _ (by have := (A.lt hp).1; omega)) (by rw [nx_wr]; omega), ⟨L.1, fun i hi => ?_⟩, o⟩
  obtain ⟨v, hv, a', n', c', e, X⟩ := L.2 i hi
  refine ⟨v, hv, a', n', c', e, ints_sub X (fun b off hb _ => wr_get_ne _ _ _ _ ?_) (by rw [nx_wr]; omega)⟩
  have := (o v (List.mem_of_getElem? hv) b off n' c' (by rw [← hb]; simpa using e)).1
  omega
/-- An element lies elsewhere than the list. -/
theorem LL.ne {h : Hp} {base : Nat} {a : Option Addr} {n c : Nat} {vs : List Value} {xss : List (List Int)} (A : AccE h base 32 1 a n c vs) (L : Lis h vs xss) {a1 : Option Addr} {n1 : Nat} {ys : List Int} (Y : IntsAt h a1 n1 ys) {b off : Nat} (hb : a1 = some ⟨b, off, none⟩) (hn : b < base ∨ 0 < n1) : a ≠ some ⟨b, 0, none⟩ := by
  intro e
  have hlt := A.lt e
  have hn : 0 < n1 := by omega
  rcases Y.2 with ⟨_, e2⟩ | ⟨b', off', cs, e', m', h1, h2, h3, h4, h5⟩
  · rw [hb] at e2; cases e2
  · rw [hb] at h1; injection h1 with h1; injection h1 with h1 h1'; subst h1 h1'
    have hy := Y.1
    have h6 : (cs.drop (off + 0 * 1)).take 1 = [.int .i64 ys[0]] := h5 0 (by omega)
    have hc : cs[off]? = some (.int .i64 ys[0]) := by
      rw [Nat.zero_mul, Nat.add_zero] at h6
      have : ((cs.drop off).take 1)[0]? = some (.int .i64 ys[0]) := by rw [h6]; rfl
      simpa using this
    have hvs : cs = vs ∨ cs = [] := by
      rcases A with (⟨q, _⟩ | ⟨o, q, _, _, _, _, hg⟩) | ⟨_, _, _, o, q, _, _, e2, m, hg⟩
      · rw [q] at e; cases e
      · rw [q] at e; injection e with e; injection e with e; subst e; rw [h3] at hg; injection hg with hg; injection hg with hg; exact .inl hg
      · rw [q] at e; injection e with e; injection e with e; subst e; rw [h3] at hg; injection hg with hg; injection hg with hg; exact .inr hg
    rcases hvs with rfl | rfl
    · have hl : off < xss.length := by
        have := (List.getElem?_eq_some_iff.1 hc).1
        rw [← L.1]; exact this
      obtain ⟨v, hv, a2, n2, c2, e2, _⟩ := L.2 off hl
      rw [hv] at hc
      injection hc with hc
      subst hc
      cases e2
    · simp at hc
/-- What is appended to lies at a new number: also a row of no elements. -/
theorem append_newE {P : Program} {sT e : TypeId} {esz bytes : Nat} (T : AppT P sT e esz bytes) {h : Hp} {base : Nat} {a : Option Addr} {n c : Nat} {xs : List Value} (H : AccE h base e esz a n c xs)
    {x : Value} {ys : List Value} {k : Nat} (hx : ∃ a n c, x = .slice a n c) (hs : srcCells h esz x = some (ys, k)) (h1 : ys.all one = true) (hkp : 0 < k) {a' : Option Addr} {n' c' : Nat} {h' : Hp} (e1 : appendV P h sT sT (.slice a n c) x = some (.slice a' n' c', h')) : a' = some ⟨h.nx, 0, none⟩ := by
  rcases H with H | ⟨rfl, rfl, rfl, o, rfl, h2, h3, e2, m, h4⟩
  · exact append_new T H hx hs h1 hkp e1
  · obtain ⟨hz, info, z, hi, hzz, hrun⟩ := T.run
    rw [hrun h _ x hx, hs] at e1
    have hk0 : Nat.beq k 0 = false := by rw [Bool.eq_false_iff]; intro hh; have := Nat.eq_of_beq_eq_true hh; omega
    simp only [Option.bind_some, h1, cond_true, hk0, cond_false] at e1
    unfold appSome at e1
    have e3 : Nat.beq 0 unk = false := by
      rw [Bool.eq_false_iff]; intro hh; have := Nat.eq_of_beq_eq_true hh; have : unk = 18446744073709551616 := rfl; omega
    have e4 : Nat.ble (0 + k) 0 = false := by
      rw [Bool.eq_false_iff]; intro hh; have : 0 + k ≤ 0 := by simpa using hh
      omega
    have e5 : readAt h o 0 (0 * esz) = some [] := by rw [Nat.zero_mul, readAt_get h4 (by simp)]; rfl
    simp only [h4, e3, e4, e5, cond_false, Option.bind_some] at e1
    unfold appNew at e1
    obtain ⟨_, e1⟩ := cond_some e1
    injection e1 with e1
    injection e1 with e1 _
    injection e1 with e1 _
    exact e1.symm
/-- What an append to a list of lists leaves. -/
structure LLK (lo base : Nat) (g h' : Hp) (a : Option Addr) : Prop where
  kp : Kp base g h'
  st : ∀ {a3 : Option Addr} {n3 c3 : Nat} {zs : List Int}, IntsAt g a3 n3 zs → VOk lo base (.slice a3 n3 c3) → IntsAt h' a3 n3 zs
  oth : ∀ q, q < g.nx → a ≠ some ⟨q, 0, none⟩ → g.get q ≠ none → h'.get q = g.get q
theorem accE_live {h : Hp} {base : Nat} {e : TypeId} {esz : Nat} {a : Option Addr} {n c : Nat} {xs : List Value} (A : AccE h base e esz a n c xs) {o : Nat} (ha : a = some ⟨o, 0, none⟩) : h.get o ≠ none := by
  rcases A with (⟨h0, _⟩ | ⟨p, h0, _, _, _, _, h6⟩) | ⟨_, _, _, p, h0, _, _, _, _, h6⟩
  · rw [h0] at ha; cases ha
  · rw [h0] at ha; injection ha with ha; injection ha with ha; subst ha; rw [h6]; simp
  · rw [h0] at ha; injection ha with ha; injection ha with ha; subst ha; rw [h6]; simp
theorem LL.appR {lo base : Nat} (hlo : lo ≤ base) {g : Hp} {a : Option Addr} {n c : Nat} {xss : List (List Int)} (A : LL lo base g a n c xss) {a1 : Option Addr} {n1 c1 : Nat} {ys : List Int} (Y : IntsAt g a1 n1 ys) (okY : VOk lo base (.slice a1 n1 c1)) (hb : base ≤ g.nx) (hg : GdLt g base)
    {q : Nat} (hq : g.get q = none) (hq2 : q < g.nx) (hqb : base ≤ q) {l : List Nat} (hl : ∀ i ∈ l, i < base) (hn : n < 10000000)
    {K : Option Addr → Nat → Nat → Hp → Prop} (next : ∀ a' c' h', LL lo base (h'.rst (g.lay q (.cells [.slice a1 n1 c1] 32 .fix))) a' (n + 1) c' (xss ++ [ys]) → (∀ p, a' = some ⟨p, 0, none⟩ → g.nx ≤ p) → LLK lo base g (h'.rst (g.lay q (.cells [.slice a1 n1 c1] 32 .fix))) a → K a' (n + 1) c' h') :
    vreq (g.free q) (let g2 := g.lay q (.cells [.slice a1 n1 c1] 32 .fix); ∃ a' n' c' h', appendV Tryd.prog (g2.grd l) 28 28 (.slice a n c) (.slice (some ⟨q, 0, none⟩) 1 1) = some (.slice a' n' c', h') ∧ K a' n' c' h') := by
  have _ := hlo
  obtain ⟨vs, A, L, o⟩ := A
  refine vreq_t (free_t hq) ?_
  intro g2
  have aq : a ≠ some ⟨q, 0, none⟩ := fun ha => by
    rcases A with (⟨h0, _⟩ | ⟨p, h0, _, _, _, _, h6⟩) | ⟨_, _, _, p, h0, _, _, _, _, h6⟩
    · rw [h0] at ha; cases ha
    · rw [h0] at ha; injection ha with ha; injection ha with ha; subst ha; rw [hq] at h6; cases h6
    · rw [h0] at ha; injection ha with ha; injection ha with ha; subst ha; rw [hq] at h6; cases h6
  have A2 : AccE (g2.grd l) base 32 1 a n c vs := A.keep (fun p _ hp => by
    show g2.get p = _
    rw [get_lay, if_neg (show p ≠ q from fun hh => aq (by rw [← hh]; exact hp))]) (Nat.le_refl _)
  have gl : GdLt (g2.grd l) base := fun i hi => (List.mem_append.1 hi).elim (hl i) (hg i)
  have src : (g2.grd l).get q = some (.cells [.slice a1 n1 c1] 32 .fix) := by show g2.get q = _; rw [get_lay, if_pos rfl]
  obtain ⟨a', n', c', h', e1, A', rfl, k⟩ := append_accE app28 A2 hb gl ⟨_, _, _, rfl⟩ (src_get (n := 1) (c := 1) (esz := 1) (off := 0) (read1 (i := 0) (v := .slice a1 n1 c1) src rfl)) rfl rfl (by omega) (by unfold big; omega)
  have k1 : AppK g2 (h'.rst g2) a := ⟨k.nx, rfl, k.fr, k.get⟩
  have k2 : Kp base g (h'.rst g2) := ((Kp.refl base g).lay hqb hq2 _).trans (k1.kpE A2 hb)
  -- what lies elsewhere stays
  have st : ∀ {a3 : Option Addr} {n3 c3 : Nat} {zs : List Int}, IntsAt g a3 n3 zs → VOk lo base (.slice a3 n3 c3) → IntsAt (h'.rst g2) a3 n3 zs := by
    intro a3 n3 c3 zs Z ok
    refine ints_sub Z (fun b off hb hlt => ?_) k2.nx
    have hne := LL.ne A L Z hb (ok b off n3 c3 (by rw [hb])).2
    have hbq : b ≠ q := by
      rintro rfl
      rcases Z.2 with ⟨_, e⟩ | ⟨b', off', cs, e', m', h1, h2, h3, _⟩
      · rw [hb] at e; cases e
      · rw [hb] at h1; injection h1 with h1; injection h1 with h1; subst h1; rw [hq] at h3; cases h3
    rw [k1.get b hlt hne, get_lay, if_neg hbq]
  have fr := append_newE app28 A2 ⟨_, _, _, rfl⟩ (src_get (n := 1) (c := 1) (esz := 1) (off := 0) (read1 (i := 0) (v := .slice a1 n1 c1) src rfl)) rfl Nat.one_pos e1
  refine ⟨a', _, c', h', e1, next a' c' h' ⟨vs ++ [.slice a1 n1 c1], AccE.keep (h := h') A' (fun _ _ _ => rfl) (Nat.le_refl _), Lis.app ⟨L.1, fun i hi => ?_⟩ ⟨rfl, fun i hi => ?_⟩, fun v hv => ?_⟩ (fun p hp => by rw [fr] at hp; injection hp with hp; injection hp with hp; exact Nat.le_of_eq hp) ⟨k2, st, fun p hp hne hl => by rw [k1.get p hp hne, get_lay, if_neg (fun hh => hl (by rw [hh]; exact hq))]⟩⟩
  · obtain ⟨v, hv, a3, n3, c3, e, X⟩ := L.2 i hi
    have e' : v = .slice a3 n3 c3 := by simpa using e
    exact ⟨v, hv, a3, n3, c3, e, st X (by rw [← e']; exact o v (List.mem_of_getElem? hv))⟩
  · have : i = 0 := by simpa using hi
    subst this
    exact ⟨_, rfl, a1, n1, c1, rfl, st Y okY⟩
  · rcases List.mem_append.1 hv with hv | hv
    · exact o v hv
    · obtain rfl := List.mem_singleton.1 hv; exact okY
/-- The same outside of a region. -/
theorem LL.app {lo base : Nat} (hlo : lo ≤ base) {g : Hp} {a : Option Addr} {n c : Nat} {xss : List (List Int)} (A : LL lo base g a n c xss) {a1 : Option Addr} {n1 c1 : Nat} {ys : List Int} (Y : IntsAt g a1 n1 ys) (okY : VOk lo base (.slice a1 n1 c1)) (hb : base ≤ g.nx) (hg : GdLt g base) (hf : g.Fresh) (hn : n < 10000000)
    {K : Option Addr → Nat → Nat → Hp → Prop} (next : ∀ a' c' h', LL lo base h' a' (n + 1) c' (xss ++ [ys]) → (∀ p, a' = some ⟨p, 0, none⟩ → g.nx ≤ p) → LLK lo base g h' a → K a' (n + 1) c' h') :
    ∃ a' n' c' h', appendV Tryd.prog (g.add (.cells [.slice a1 n1 c1] 32 .fix)) 28 28 (.slice a n c) (.slice (some ⟨g.nx, 0, none⟩) 1 1) = some (.slice a' n' c', h') ∧ K a' n' c' h' := by
  have _ := hlo
  obtain ⟨vs, A, L, o⟩ := A
  have A2 : AccE (g.add (.cells [.slice a1 n1 c1] 32 .fix)) base 32 1 a n c vs := AccE.to _ A
  obtain ⟨a', n', c', h', e1, A', rfl, k⟩ := append_accE app28 A2 (by rw [nx_add]; omega) hg ⟨_, _, _, rfl⟩ (src_get (n := 1) (c := 1) (esz := 1) (off := 0) (read1 (i := 0) (v := .slice a1 n1 c1) (get_add_same ..) rfl)) rfl rfl (by omega) (by unfold big; omega)
  have _ := hf
  have k2 : Kp base g h' := ((Kp.refl base g).add hb _).trans (k.kpE A2 (by rw [nx_add]; omega))
  have st : ∀ {a3 : Option Addr} {n3 c3 : Nat} {zs : List Int}, IntsAt g a3 n3 zs → VOk lo base (.slice a3 n3 c3) → IntsAt h' a3 n3 zs := by
    intro a3 n3 c3 zs Z ok
    refine ints_sub Z (fun b off hb hlt => ?_) k2.nx
    have hne := LL.ne A L Z hb (ok b off n3 c3 (by rw [hb])).2
    rw [k.get b (by rw [nx_add]; omega) hne, get_add_ne (by omega)]
  have fr := append_newE app28 A2 ⟨_, _, _, rfl⟩ (src_get (n := 1) (c := 1) (esz := 1) (off := 0) (read1 (i := 0) (v := .slice a1 n1 c1) (get_add_same ..) rfl)) rfl Nat.one_pos e1
  refine ⟨a', _, c', h', e1, next a' c' _ ⟨vs ++ [.slice a1 n1 c1], A', Lis.app ⟨L.1, fun i hi => ?_⟩ ⟨rfl, fun i hi => ?_⟩, fun v hv => ?_⟩ (fun p hp => by rw [fr] at hp; injection hp with hp; injection hp with hp; have : (g.add (.cells [.slice a1 n1 c1] 32 .fix)).nx = g.nx + 1 := rfl; omega) ⟨k2, st, fun p hp hne _ => by rw [k.get p (by rw [nx_add]; omega) hne, get_add_ne (by omega)]⟩⟩
  · obtain ⟨v, hv, a3, n3, c3, e, X⟩ := L.2 i hi
    have e' : v = .slice a3 n3 c3 := by simpa using e
    exact ⟨v, hv, a3, n3, c3, e, st X (by rw [← e']; exact o v (List.mem_of_getElem? hv))⟩
  · have : i = 0 := by simpa using hi
    subst this
    exact ⟨_, rfl, a1, n1, c1, rfl, st Y okY⟩
  · rcases List.mem_append.1 hv with hv | hv
    · exact o v hv
    · obtain rfl := List.mem_singleton.1 hv; exact okY
section
variable {O : CallF} (hO : Oth O)
include hO
end
/-- Something is laid at a number that was free. -/
theorem ints_lay {h : Hp} {q : Nat} (hq : h.get q = none) (x : Ob) {a : Option Addr} {n : Nat} {xs : List Int} (X : IntsAt h a n xs) : IntsAt (h.lay q x) a n xs := by
  refine ⟨X.1, X.2.imp id ?_⟩
  rintro ⟨b, off, c, e, m, h1, h2, h3, h4, h5⟩
  exact ⟨b, off, c, e, m, h1, h2, by rw [get_lay, if_neg (fun hh => by rw [hh, hq] at h3; cases h3)]; exact h3, h4, h5⟩
theorem LL.lay {lo base : Nat} {h : Hp} {q : Nat} (hq : h.get q = none) (x : Ob) {a : Option Addr} {n c : Nat} {xss : List (List Int)} (A : LL lo base h a n c xss) : LL lo base (h.lay q x) a n c xss := by
  obtain ⟨vs, A, L, o⟩ := A
  refine ⟨vs, A.keep (fun p _ hp => by rw [get_lay, if_neg (fun hh => accE_live A hp (by rw [hh]; exact hq))]) (Nat.le_refl _), ⟨L.1, fun i hi => ?_⟩, o⟩
  obtain ⟨v, hv, a', n', c', e, X⟩ := L.2 i hi
  exact ⟨v, hv, a', n', c', e, ints_lay hq x X⟩
end Go.Proofs.YtfgfhplgnfbaaaaDoor
/- Conditions of functions' code, printed by a program of ours. -/
namespace Go.Proofs.YtfgfhplgnfbaaaaDoor
open Go Go.Ev
set_option maxRecDepth 100000
set_option linter.unusedVariables false
/-! slices.Delete[[]int,int] -/
noncomputable def b59 : Code := (Tryd.f59.body).getD .skip
def lv59 : List (Nat × List Nat) := []
def T59 (O : CallF) (Q : Value → Hp → Prop) (a0 : Option Addr) (n0 : Nat) (c0 : Nat) (x1 : Int) (x2 : Int) (h : Hp) : Prop :=
  ∃ a1' n2' c3', sliceV Tryd.prog h 32 (.slice a0 n0 c0) (some (.int .i64 x1)) (some (.int .i64 x2)) (some (.int .i64 (Int.ofNat n0))) = some (.slice a1' n2' c3') ∧
  vcond (eqI x1 x2)
  (Q (.slice a0 n0 c0) h)
  (let g4 : Hp := h.rsv 8
  ∃ a5' n6' c7', sliceV Tryd.prog g4 32 (.slice a0 n0 c0) none (some (.int .i64 x1)) none = some (.slice a5' n6' c7') ∧
  ∃ a8' n9' c10', sliceV Tryd.prog g4 32 (.slice a0 n0 c0) (some (.int .i64 x2)) none none = some (.slice a8' n9' c10') ∧
  ∃ a11' n12' c13' h14', appendV Tryd.prog (g4.grd []) 32 32 (.slice a5' n6' c7') (.slice a8' n9' c10') = some (.slice a11' n12' c13', h14') ∧
  let g15 : Hp := h14'.rst g4
  ∃ a16' n17' c18', sliceV Tryd.prog g15 32 (.slice a11' n12' c13') (some (.int .i64 (Int.ofNat n12'))) (some (.int .i64 (Int.ofNat n0))) none = some (.slice a16' n17' c18') ∧
  ∃ h19', clearV Tryd.prog g15 32 (.slice a16' n17' c18') = some (undef, h19') ∧
  Q (.slice a11' n12' c13') h19')
theorem rk59 {O Q} (a0 n0 c0 x1 x2) {h : Hp} (hO : O 59 [(.slice a0 n0 c0), (.int .i64 x1), (.int .i64 x2)] h = none) (hh : T59 O Q a0 n0 c0 x1 x2 h) : Ret Tryd.prog O 59 [(.slice a0 n0 c0), (.int .i64 x1), (.int .i64 x2)] h Q :=
  .of (c := b59) Tryd.func59 (by kernel_rfl) hO (V_ok (tb := lv59) (cuts := []) 500 (Eq.mp (by kernel_rfl) hh))
/-! sward/sat.needed -/
noncomputable def b97 : Code := (Tryd.f97.body).getD .skip
noncomputable def stk97_0 : List KI := [.code (sub [1, 1, 0, 1, 0] b97), .blk 0, .code (sub [1, 1, 1] b97)]
def lv97 : List (Nat × List Nat) := [(0, [1, 4, 5, 6])]
def I97_0 (O : CallF) (Q : Value → Hp → Prop) (a0 : Option Addr) (n0 : Nat) (c0 : Nat) (g1 : Nat) (fi1 : Array Value) (ca1 : Array Value) (g1s : Nat) (fi1s : Array Value) (ca1s : Array Value) (a5 : Option Addr) (n5 : Nat) (c5 : Nat) (x6 : Int) (h : Hp) : Prop := RKL Tryd.prog O Tryd.f97 stk97_0 28 [1, 4, 5, 6] [(.func (.func g1s) fi1s ca1s), (.slice none 0 0), (.slice a5 n5 c5), (.int .i64 x6)] h Q
def T97 (O : CallF) (Q : Value → Hp → Prop) (a0 : Option Addr) (n0 : Nat) (c0 : Nat) (g1 : Nat) (fi1 : Array Value) (ca1 : Array Value) (h : Hp) : Prop :=
  ∃ a1' n2' c3', ∃ h4', EvC Tryd.prog O 60 [(.slice a0 n0 c0)] h (.slice a1' n2' c3') h4' ∧
  I97_0 O Q a0 n0 c0 g1 fi1 ca1 g1 fi1 ca1 a1' n2' c3' (wrapF .i64 ((Int.ofNat n2') - 1)) h4'
theorem rk97 {O Q} (a0 n0 c0 g1 fi1 ca1) {h : Hp} (hO : O 97 [(.slice a0 n0 c0), (.func (.func g1) fi1 ca1)] h = none) (hh : T97 O Q a0 n0 c0 g1 fi1 ca1 h) : Ret Tryd.prog O 97 [(.slice a0 n0 c0), (.func (.func g1) fi1 ca1)] h Q :=
  .of (c := b97) Tryd.func97 (by kernel_rfl) hO (V_ok (tb := lv97) (cuts := []) 500 (Eq.mp (by kernel_rfl) hh))
def T97_0 (O : CallF) (Q : Value → Hp → Prop) (a0 : Option Addr) (n0 : Nat) (c0 : Nat) (g1 : Nat) (fi1 : Array Value) (ca1 : Array Value) (g1s : Nat) (fi1s : Array Value) (ca1s : Array Value) (a5 : Option Addr) (n5 : Nat) (c5 : Nat) (x6 : Int) (h : Hp) : Prop :=
  vcond (!(ltI x6 0))
  (∃ a101' n102' c103', ∃ h104', EvC Tryd.prog O 60 [(.slice a5 n5 c5)] h (.slice a101' n102' c103') h104' ∧
  ∃ a105' n106' c107', ∃ h108', EvC Tryd.prog O 59 [(.slice a101' n102' c103'), (.int .i64 x6), (.int .i64 (wrapF .i64 (x6 + 1)))] h104' (.slice a105' n106' c107') h108' ∧
  ∃ q109', ∃ h110', EvC Tryd.prog O g1s (fi1s.toList ++ [(.slice a105' n106' c107')] ++ ca1s.toList) h108' (.bool q109') h110' ∧
  vcond q109'
  (I97_0 O Q a0 n0 c0 g1 fi1 ca1 g1s fi1s ca1s a105' n106' c107' (wrapF .i64 (x6 - 1)) h110')
  (I97_0 O Q a0 n0 c0 g1 fi1 ca1 g1s fi1s ca1s a5 n5 c5 (wrapF .i64 (x6 - 1)) h110'))
  (Q (.slice a5 n5 c5) h)
theorem I97_0.of {O Q} (a0 n0 c0 g1 fi1 ca1 g1s fi1s ca1s a5 n5 c5 x6) {h : Hp} (hh : T97_0 O Q a0 n0 c0 g1 fi1 ca1 g1s fi1s ca1s a5 n5 c5 x6 h) : I97_0 O Q a0 n0 c0 g1 fi1 ca1 g1s fi1s ca1s a5 n5 c5 x6 h :=
  RKL.of (tb := lv97) (cuts := []) 500 fun _ => Eq.mp (by kernel_rfl) hh
/-! slices.Clip[[]int,int] -/
noncomputable def b110 : Code := (Tryd.f110.body).getD .skip
def lv110 : List (Nat × List Nat) := []
def T110 (O : CallF) (Q : Value → Hp → Prop) (a0 : Option Addr) (n0 : Nat) (c0 : Nat) (h : Hp) : Prop :=
  ∃ a1' n2' c3', sliceV Tryd.prog h 32 (.slice a0 n0 c0) none (some (.int .i64 (Int.ofNat n0))) (some (.int .i64 (Int.ofNat n0))) = some (.slice a1' n2' c3') ∧
  Q (.slice a1' n2' c3') h
theorem rk110 {O Q} (a0 n0 c0) {h : Hp} (hO : O 110 [(.slice a0 n0 c0)] h = none) (hh : T110 O Q a0 n0 c0 h) : Ret Tryd.prog O 110 [(.slice a0 n0 c0)] h Q :=
  .of (c := b110) Tryd.func110 (by kernel_rfl) hO (V_ok (tb := lv110) (cuts := []) 500 (Eq.mp (by kernel_rfl) hh))
/-! (*sward/sat.base).line -/
noncomputable def b137 : Code := (Tryd.f137.body).getD .skip
def lv137 : List (Nat × List Nat) := []
def T137 (O : CallF) (Q : Value → Hp → Prop) (b0 : Nat) (f0 : Nat) (a1 : Option Addr) (n1 : Nat) (c1 : Nat) (h : Hp) : Prop :=
  ∃ a1' n2' c3', readAt h b0 (f0 + 4) 1 = some [(.slice a1' n2' c3')] ∧
  let g4 : Hp := h.add (.cells [(.slice a1 n1 c1)] 32 .fix)
  ∃ a5' n6' c7' h8', appendV Tryd.prog g4 28 28 (.slice a1' n2' c3') (.slice (some ⟨h.nx, 0, none⟩) 1 1) = some (.slice a5' n6' c7', h8') ∧
  vreq (canW h8' b0 (f0 + 4) [(.slice a5' n6' c7')])
  (let g9 : Hp := h8'.wr b0 (f0 + 4) [(.slice a5' n6' c7')]
  Q (.slice a1 n1 c1) g9)
theorem rk137 {O Q} (b0 f0 a1 n1 c1) {h : Hp} (hO : O 137 [(.pointer (some ⟨b0, f0, none⟩)), (.slice a1 n1 c1)] h = none) (hh : T137 O Q b0 f0 a1 n1 c1 h) : Ret Tryd.prog O 137 [(.pointer (some ⟨b0, f0, none⟩)), (.slice a1 n1 c1)] h Q :=
  .of (c := b137) Tryd.func137 (by kernel_rfl) hO (V_ok (tb := lv137) (cuts := []) 500 (Eq.mp (by kernel_rfl) hh))
/-! (*sward/sat.base).search -/
noncomputable def b117 : Code := (Tryd.f117.body).getD .skip
noncomputable def stk117_0 : List KI := [.code (sub [1, 1, 1, 1, 1, 1, 1, 1, 1, 0, 1, 0] b117), .blk 0, .code (sub [1, 1, 1, 1, 1, 1, 1, 1, 1, 1] b117)]
def lv117 : List (Nat × List Nat) := [(0, [0, 1, 4, 5, 6, 7, 10, 11, 69, 70, 71])]
def I117_0 (O : CallF) (Q : Value → Hp → Prop) (b0 : Nat) (f0 : Nat) (a1 : Option Addr) (n1 : Nat) (c1 : Nat) (b4 : Nat) (f4 : Nat) (a5 : Option Addr) (n5 : Nat) (c5 : Nat) (x6 : Int) (b7 : Nat) (f7 : Nat) (x10 : Int) (a11 : Option Addr) (n11 : Nat) (c11 : Nat) (a69 : Option Addr) (n69 : Nat) (c69 : Nat) (x71 : Int) (h : Hp) : Prop := RKL Tryd.prog O Tryd.f117 stk117_0 118 [0, 1, 4, 5, 6, 7, 10, 11, 69, 70, 71] [(.pointer (some ⟨b0, f0, none⟩)), (.slice a1 n1 c1), (.pointer (some ⟨b4, f4, none⟩)), (.slice a5 n5 c5), (.int .i64 x6), (.pointer (some ⟨b7, f7, none⟩)), (.int .i64 x10), (.slice a11 n11 c11), (.slice a69 n69 c69), (.int .i64 2), (.int .i64 x71)] h Q
def T117 (O : CallF) (Q : Value → Hp → Prop) (b0 : Nat) (f0 : Nat) (a1 : Option Addr) (n1 : Nat) (c1 : Nat) (h : Hp) : Prop :=
  let g1 : Hp := h.add (.cells [(.int .u32 0), (.int .u32 0)] 102 .fix)
  ∃ x2', readAt g1 b0 (f0 + 3) 1 = some [(.int .i64 x2')] ∧
  vcond (eqI x2' 0)
  (vreq (canW g1 h.nx 0 [(.int .u32 0), (.int .u32 0)])
  (let g3 : Hp := g1.wr h.nx 0 [(.int .u32 0), (.int .u32 0)]
  ∃ x4', ∃ x5', readAt g3 h.nx 0 2 = some [(.int .u32 x4'), (.int .u32 x5')] ∧
  Q (.tuple #[(.agg #[(.int .u32 x4'), (.int .u32 x5')]), (.slice none 0 0), (.int .i64 2)]) g3))
  (∃ x6', readAt g1 b0 (f0 + 3) 1 = some [(.int .i64 x6')] ∧
  vreq (canW g1 b0 (f0 + 3) [(.int .i64 (wrapF .i64 (x6' - 1)))])
  (let g7 : Hp := g1.wr b0 (f0 + 3) [(.int .i64 (wrapF .i64 (x6' - 1)))]
  ∃ x8', ∃ x9', ∃ q10', ∃ h11', EvC Tryd.prog O 89 [(.pointer (some ⟨b0, f0, none⟩)), (.slice a1 n1 c1)] g7 (.tuple #[(.agg #[(.int .u32 x8'), (.int .u32 x9')]), (.bool q10')]) h11' ∧
  let g12 : Hp := h11'.add (.cells [(.int .u32 0), (.int .u32 0)] 102 .fix)
  vreq (canW g12 h11'.nx 0 [(.int .u32 x8'), (.int .u32 x9')])
  (let g13 : Hp := g12.wr h11'.nx 0 [(.int .u32 x8'), (.int .u32 x9')]
  vcond (!q10')
  (let g14 : Hp := g13.rsv 11
  ∃ x15', ∃ x16', readAt g14 h11'.nx 0 2 = some [(.int .u32 x15'), (.int .u32 x16')] ∧
  ∃ a17' n18' c19', ∃ h20', EvC Tryd.prog O 97 [(.slice a1 n1 c1), (.func (.func 95) #[(.pointer (some ⟨b0, f0, none⟩))] #[])] (g14.grd [h11'.nx]) (.slice a17' n18' c19') h20' ∧
  let g21 : Hp := h20'.rst g14
  ∃ a22' n23' c24', ∃ h25', EvC Tryd.prog O 96 [(.slice a17' n18' c19')] (g21.grd [h11'.nx]) (.slice a22' n23' c24') h25' ∧
  let g26 : Hp := h25'.rst g21
  ∃ a27' n28' c29', ∃ h30', EvC Tryd.prog O 137 [(.pointer (some ⟨b0, f0, none⟩)), (.slice a22' n23' c24')] (g26.grd [h11'.nx]) (.slice a27' n28' c29') h30' ∧
  let g31 : Hp := h30'.rst g26
  vreq (canW (g31.grd []) h.nx 0 [(.int .u32 x15'), (.int .u32 x16')])
  (let g32 : Hp := (g31.grd []).wr h.nx 0 [(.int .u32 x15'), (.int .u32 x16')]
  let g33 : Hp := g32.rst g31
  ∃ x34', ∃ x35', readAt g33 h.nx 0 2 = some [(.int .u32 x34'), (.int .u32 x35')] ∧
  Q (.tuple #[(.agg #[(.int .u32 x34'), (.int .u32 x35')]), (.slice a27' n28' c29'), (.int .i64 1)]) g33))
  (let g36 : Hp := g13.rsv 13
  ∃ x37', readAt g36 b0 (f0 + 0) 1 = some [(.int .i64 x37')] ∧
  vreq (le0 x37')
  (∃ x38', readAt g36 h11'.nx 0 1 = some [(.int .u32 x38')] ∧
  ∃ x39', readAt g36 h11'.nx 1 1 = some [(.int .u32 x39')] ∧
  vreq (inD 4294967296 x38')
  (vreq (inD 4294967296 x39')
  (vreq (inD 4294967296 (wrapF .u32 ((shlF .u32 1 (Int.toNat x37')) - 1)))
  (vreq (inD 4294967296 (lorI x38' x39'))
  (vcond (eqI (andnI (wrapF .u32 ((shlF .u32 1 (Int.toNat x37')) - 1)) (lorI x38' x39')) 0)
  (∃ x40', ∃ x41', readAt g36 h11'.nx 0 2 = some [(.int .u32 x40'), (.int .u32 x41')] ∧
  vreq (canW g36 h.nx 0 [(.int .u32 x40'), (.int .u32 x41')])
  (let g42 : Hp := g36.wr h.nx 0 [(.int .u32 x40'), (.int .u32 x41')]
  ∃ x43', ∃ x44', readAt g42 h.nx 0 2 = some [(.int .u32 x43'), (.int .u32 x44')] ∧
  Q (.tuple #[(.agg #[(.int .u32 x43'), (.int .u32 x44')]), (.slice none 0 0), (.int .i64 0)]) g42))
  (∃ x45', ∃ h46', EvC Tryd.prog O 120 [(.int .u32 (andnI (wrapF .u32 ((shlF .u32 1 (Int.toNat x37')) - 1)) (lorI x38' x39')))] g36 (.int .i64 x45') h46' ∧
  let g47 : Hp := h46'.add (.cells [(.int .i64 (wrapF .i64 (0 - (wrapF .i64 (x45' + 1))))), (.int .i64 (wrapF .i64 (x45' + 1)))] 3 .fix)
  I117_0 O Q b0 f0 a1 n1 c1 h.nx 0 none 0 0 0 h11'.nx 0 (wrapF .i64 (x45' + 1)) none 0 0 (some ⟨h46'.nx, 0, none⟩) 2 2 0 g47))))))))))
theorem rk117 {O Q} (b0 f0 a1 n1 c1) {h : Hp} (hO : O 117 [(.pointer (some ⟨b0, f0, none⟩)), (.slice a1 n1 c1)] h = none) (hh : T117 O Q b0 f0 a1 n1 c1 h) : Ret Tryd.prog O 117 [(.pointer (some ⟨b0, f0, none⟩)), (.slice a1 n1 c1)] h Q :=
  .of (c := b117) Tryd.func117 (by kernel_rfl) hO (V_ok (tb := lv117) (cuts := []) 500 (Eq.mp (by kernel_rfl) hh))
def T117_0 (O : CallF) (Q : Value → Hp → Prop) (b0 : Nat) (f0 : Nat) (a1 : Option Addr) (n1 : Nat) (c1 : Nat) (b4 : Nat) (f4 : Nat) (a5 : Option Addr) (n5 : Nat) (c5 : Nat) (x6 : Int) (b7 : Nat) (f7 : Nat) (x10 : Int) (a11 : Option Addr) (n11 : Nat) (c11 : Nat) (a69 : Option Addr) (n69 : Nat) (c69 : Nat) (x71 : Int) (h : Hp) : Prop :=
  vcond (ltI x71 2)
  (isNat x71 fun n101' =>
  isAddr a69 fun b102' f103' =>
  vreq (Nat.blt n101' n69)
  (∃ x104', readAt h b102' (f103' + (n101' * 1)) 1 = some [(.int .i64 x104')] ∧
  ∃ a105' n106' c107', ∃ h108', EvC Tryd.prog O 110 [(.slice a1 n1 c1)] h (.slice a105' n106' c107') h108' ∧
  let g109 : Hp := h108'.add (.cells [(.int .i64 x104')] 3 .fix)
  ∃ a110' n111' c112' h113', appendV Tryd.prog g109 32 32 (.slice a105' n106' c107') (.slice (some ⟨h108'.nx, 0, none⟩) 1 1) = some (.slice a110' n111' c112', h113') ∧
  ∃ x114', ∃ x115', ∃ a116' n117' c118', ∃ x119', ∃ h120', EvC Tryd.prog O 117 [(.pointer (some ⟨b0, f0, none⟩)), (.slice a110' n111' c112')] h113' (.tuple #[(.agg #[(.int .u32 x114'), (.int .u32 x115')]), (.slice a116' n117' c118'), (.int .i64 x119')]) h120' ∧
  let g121 : Hp := h120'.add (.cells [(.int .u32 0), (.int .u32 0)] 102 .fix)
  vreq (canW g121 h120'.nx 0 [(.int .u32 x114'), (.int .u32 x115')])
  (let g122 : Hp := g121.wr h120'.nx 0 [(.int .u32 x114'), (.int .u32 x115')]
  vcond (!(eqI x119' 1))
  (∃ x123', ∃ x124', readAt g122 h120'.nx 0 2 = some [(.int .u32 x123'), (.int .u32 x124')] ∧
  vreq (canW g122 b4 f4 [(.int .u32 x123'), (.int .u32 x124')])
  (let g125 : Hp := g122.wr b4 f4 [(.int .u32 x123'), (.int .u32 x124')]
  ∃ x126', ∃ x127', readAt g125 b4 f4 2 = some [(.int .u32 x126'), (.int .u32 x127')] ∧
  Q (.tuple #[(.agg #[(.int .u32 x126'), (.int .u32 x127')]), (.slice a116' n117' c118'), (.int .i64 x119')]) g125))
  (∃ q128', ∃ h129', EvC Tryd.prog O 62 [(.slice a116' n117' c118'), (.int .i64 (wrapF .i64 (0 - x104')))] g122 (.bool q128') h129' ∧
  vcond (!q128')
  (∃ x130', ∃ x131', readAt h129' h120'.nx 0 2 = some [(.int .u32 x130'), (.int .u32 x131')] ∧
  vreq (canW h129' b4 f4 [(.int .u32 x130'), (.int .u32 x131')])
  (let g132 : Hp := h129'.wr b4 f4 [(.int .u32 x130'), (.int .u32 x131')]
  ∃ x133', ∃ x134', readAt g132 b4 f4 2 = some [(.int .u32 x133'), (.int .u32 x134')] ∧
  Q (.tuple #[(.agg #[(.int .u32 x133'), (.int .u32 x134')]), (.slice a116' n117' c118'), (.int .i64 x119')]) g132))
  (let g135 : Hp := h129'.add (.cells [(.slice a116' n117' c118')] 32 .fix)
  ∃ a136' n137' c138' h139', appendV Tryd.prog g135 28 28 (.slice a11 n11 c11) (.slice (some ⟨h129'.nx, 0, none⟩) 1 1) = some (.slice a136' n137' c138', h139') ∧
  I117_0 O Q b0 f0 a1 n1 c1 b4 f4 a5 n5 c5 x6 b7 f7 x10 a136' n137' c138' a69 n69 c69 (wrapF .i64 (x71 + 1)) h139')))))
  (let g140 : Hp := h.rsv 13
  isAddr a11 fun b141' f142' =>
  vreq (Nat.blt 0 n11)
  (∃ a143' n144' c145', readAt g140 b141' (f142' + 0) 1 = some [(.slice a143' n144' c145')] ∧
  isAddr a11 fun b146' f147' =>
  vreq (Nat.blt 1 n11)
  (∃ a148' n149' c150', readAt g140 b146' (f147' + 1) 1 = some [(.slice a148' n149' c150')] ∧
  ∃ a151' n152' c153', ∃ x154', ∃ h155', EvC Tryd.prog O 38 [(.slice a143' n144' c145'), (.slice a148' n149' c150'), (.int .i64 x10)] (g140.grd []) (.tuple #[(.slice a151' n152' c153'), (.int .i64 x154')]) h155' ∧
  let g156 : Hp := h155'.rst g140
  let g157 : Hp := g156.rsv 7
  ∃ x158', ∃ x159', readAt g157 b7 f7 2 = some [(.int .u32 x158'), (.int .u32 x159')] ∧
  ∃ a160' n161' c162', ∃ h163', EvC Tryd.prog O 137 [(.pointer (some ⟨b0, f0, none⟩)), (.slice a151' n152' c153')] (g157.grd [b7]) (.slice a160' n161' c162') h163' ∧
  let g164 : Hp := h163'.rst g157
  vreq (canW (g164.grd []) b4 f4 [(.int .u32 x158'), (.int .u32 x159')])
  (let g165 : Hp := (g164.grd []).wr b4 f4 [(.int .u32 x158'), (.int .u32 x159')]
  let g166 : Hp := g165.rst g164
  ∃ x167', ∃ x168', readAt g166 b4 f4 2 = some [(.int .u32 x167'), (.int .u32 x168')] ∧
  Q (.tuple #[(.agg #[(.int .u32 x167'), (.int .u32 x168')]), (.slice a160' n161' c162'), (.int .i64 1)]) g166))))
theorem I117_0.of {O Q} (b0 f0 a1 n1 c1 b4 f4 a5 n5 c5 x6 b7 f7 x10 a11 n11 c11 a69 n69 c69 x71) {h : Hp} (hh : T117_0 O Q b0 f0 a1 n1 c1 b4 f4 a5 n5 c5 x6 b7 f7 x10 a11 n11 c11 a69 n69 c69 x71 h) : I117_0 O Q b0 f0 a1 n1 c1 b4 f4 a5 n5 c5 x6 b7 f7 x10 a11 n11 c11 a69 n69 c69 x71 h :=
  RKL.of (tb := lv117) (cuts := []) 500 fun _ => Eq.mp (by kernel_rfl) hh
/-! sward/sat.solve -/
noncomputable def b79 : Code := (Tryd.f79.body).getD .skip
def lv79 : List (Nat × List Nat) := []
def T79 (O : CallF) (Q : Value → Hp → Prop) (x0_0 : Int) (a0_1 : Option Addr) (n0_1 : Nat) (c0_1 : Nat) (a1 : Option Addr) (n1 : Nat) (c1 : Nat) (h : Hp) : Prop :=
  let g1 : Hp := h.add (.cells [(.int .i64 x0_0), (.slice a0_1 n0_1 c0_1)] 30 .fix)
  let g2 : Hp := g1.add (.cells [(.int .u32 0), (.int .u32 0)] 102 .fix)
  ∃ x3', ∃ a4' n5' c6', readAt g2 h.nx 0 2 = some [(.int .i64 x3'), (.slice a4' n5' c6')] ∧
  ∃ a7', ∃ h8', EvC Tryd.prog O 76 [(.agg #[(.int .i64 x3'), (.slice a4' n5' c6')]), (.slice a1 n1 c1)] g2 (.pointer a7') h8' ∧
  ∃ x9', ∃ x10', ∃ a11' n12' c13', ∃ x14', ∃ h15', EvC Tryd.prog O 117 [(.pointer a7'), (.slice none 0 0)] h8' (.tuple #[(.agg #[(.int .u32 x9'), (.int .u32 x10')]), (.slice a11' n12' c13'), (.int .i64 x14')]) h15' ∧
  let g16 : Hp := h15'.add (.cells [(.int .u32 0), (.int .u32 0)] 102 .fix)
  vreq (canW g16 h15'.nx 0 [(.int .u32 x9'), (.int .u32 x10')])
  (let g17 : Hp := g16.wr h15'.nx 0 [(.int .u32 x9'), (.int .u32 x10')]
  let g18 : Hp := g17.rsv 9
  ∃ x19', ∃ x20', readAt g18 h15'.nx 0 2 = some [(.int .u32 x19'), (.int .u32 x20')] ∧
  isAddr a7' fun b21' f22' =>
  ∃ a23' n24' c25', readAt g18 b21' (f22' + 4) 1 = some [(.slice a23' n24' c25')] ∧
  vreq (canW (g18.grd [b21']) g1.nx 0 [(.int .u32 x19'), (.int .u32 x20')])
  (let g26 : Hp := (g18.grd [b21']).wr g1.nx 0 [(.int .u32 x19'), (.int .u32 x20')]
  let g27 : Hp := g26.rst g18
  ∃ x28', ∃ x29', readAt g27 g1.nx 0 2 = some [(.int .u32 x28'), (.int .u32 x29')] ∧
  Q (.tuple #[(.agg #[(.int .u32 x28'), (.int .u32 x29')]), (.slice a23' n24' c25'), (.int .i64 x14')]) g27))
theorem rk79 {O Q} (x0_0 a0_1 n0_1 c0_1 a1 n1 c1) {h : Hp} (hO : O 79 [(.agg #[(.int .i64 x0_0), (.slice a0_1 n0_1 c0_1)]), (.slice a1 n1 c1)] h = none) (hh : T79 O Q x0_0 a0_1 n0_1 c0_1 a1 n1 c1 h) : Ret Tryd.prog O 79 [(.agg #[(.int .i64 x0_0), (.slice a0_1 n0_1 c0_1)]), (.slice a1 n1 c1)] h Q :=
  .of (c := b79) Tryd.func79 (by kernel_rfl) hO (V_ok (tb := lv79) (cuts := []) 500 (Eq.mp (by kernel_rfl) hh))
/-! sward/swardlaw20.SatProves -/
end Go.Proofs.YtfgfhplgnfbaaaaDoor
/- The walk of search: slices.Delete of one, what is needed. -/
namespace Go.Proofs.YtfgfhplgnfbaaaaDoor
open Go Go.Ev
theorem writeAt_some {h : Hp} {o off : Nat} {vs : List Value} (hc : canW h o off vs = true) : writeAt h o off vs = some (h.wr o off vs) := by
  unfold canW at hc; unfold Hp.wr
  cases hw : writeAt h o off vs with
  | none => rw [hw] at hc; cases hc
  | some h' => rfl
theorem seen_g {h : Hp} {o n : Nat} {cs : List Value} (H : h.get o = some (.cells cs 3 .grow)) : Ev.seen h 3 1 (.slice (some ⟨o, 0, none⟩) n unk) = some cs.length := by
  simp only [Ev.seen, Nat.beq_refl, cond_true, H]
  have e5 : Nat.blt 0 1 = true := rfl
  rw [e5]
  show some ((cs.length - 0) / 1) = _
  rw [Nat.sub_zero, Nat.div_one]
theorem sz3 : sz Tryd.prog 3 = some 1 := by kernel_rfl
/-- A part of a list that grows. -/
theorem slice_g {h : Hp} {o n l hh : Nat} {cs : List Value} (H : h.get o = some (.cells cs 3 .grow)) {lo hi : Option Value} (elo : boundL lo hh = some l) (ehi : boundH hi none cs.length n = some hh) :
    sliceV Tryd.prog h 32 (.slice (some ⟨o, 0, none⟩) n unk) lo hi none = some (.slice (some ⟨o, l, none⟩) (hh - l) unk) := by
  have e4 : bounds n cs.length lo hi none = some (l, hh, cs.length) := by
    unfold bounds boundM; simp only [Option.bind_some]; rw [ehi, Option.bind_some, elo]; rfl
  unfold sliceV
  rw [Tryd.underlying32]
  simp only [sz3, bind, Option.bind_some, seen_g H, e4]
  rw [Nat.beq_refl]; simp
theorem slice_m {h : Hp} {o n l hh m : Nat} {cs : List Value} (H : h.get o = some (.cells cs 3 .grow)) {lo hi mx : Option Value} (em : boundM mx cs.length = some m) (hx : ∃ v, mx = some v) (elo : boundL lo hh = some l) (ehi : boundH hi mx m n = some hh) (hm : m < unk) :
    ∃ off, sliceV Tryd.prog h 32 (.slice (some ⟨o, 0, none⟩) n unk) lo hi mx = some (.slice (some ⟨o, off, none⟩) (hh - l) (m - l)) ∧ (l = 0 → off = 0) := by
  obtain ⟨v, rfl⟩ := hx
  have e4 : bounds n cs.length lo hi (some v) = some (l, hh, m) := by
    unfold bounds; rw [em]; simp only [Option.bind_some]; rw [ehi, Option.bind_some, elo]; rfl
  refine ⟨bif Nat.beq m l then 0 else 0 + l * 1, ?_, fun hl => ?_⟩
  · unfold sliceV
    rw [Tryd.underlying32]
    simp only [sz3, bind, Option.bind_some, seen_g H, e4]
    rw [Nat.beq_refl, blt_t hm]; simp
  · subst hl
    cases Nat.beq m 0 <;> rfl
theorem bound_i {k m : Nat} (h : k ≤ m) : boundV (.int .i64 (Int.ofNat k)) m = some k := by
  unfold boundV; simp only; rw [ble_t h]; rfl
/-- What stands behind an address, cell by cell. -/
theorem ints_of_get {h : Hp} {o : Nat} {cs : List Value} {e : TypeId} {m : Md} {xs : List Int} (H : h.get o = some (.cells cs e m)) (ho : o < h.nx) (hl : xs.length ≤ cs.length) (hx : ∀ i (hi : i < xs.length), cs[i]? = some (.int .i64 xs[i])) : IntsAt h (some ⟨o, 0, none⟩) xs.length xs := by
  refine ⟨rfl, .inr ⟨o, 0, _, _, _, rfl, ho, H, by omega, fun i hi => ?_⟩⟩
  show (cs.drop (0 + i * 1)).take 1 = [.int .i64 xs[i]]
  have h1 := hx i hi
  obtain ⟨h2, h3⟩ := List.getElem?_eq_some_iff.1 h1
  rw [Nat.zero_add, Nat.mul_one, List.drop_eq_getElem_cons h2, h3]; rfl
theorem all_one (xs : List Int) : (xs.map (Value.int .i64)).all one = true := by
  rw [List.all_eq_true]; intro v hv; obtain ⟨x, _, rfl⟩ := List.mem_map.1 hv; rfl
section
variable {O : CallF} (hO : Oth O)
include hO
/-- One element is taken out of a list of its own. -/
theorem ct59 {h : Hp} {o i : Nat} {xs : List Int} (H : h.get o = some (.cells (xs.map (Value.int .i64)) 3 .grow)) (ho : o < h.nx) (hg : h.guarded o = false) (hi : i < xs.length) (hl : xs.length < 1000000) :
    Ret Tryd.prog O 59 [.slice (some ⟨o, 0, none⟩) xs.length unk, .int .i64 (Int.ofNat i), .int .i64 (Int.ofNat (i + 1))] h fun v h' => v = .slice (some ⟨o, 0, none⟩) (xs.length - 1) unk ∧ IntsAt h' (some ⟨o, 0, none⟩) (xs.length - 1) (xs.eraseIdx i) ∧ ∀ b, b ≤ o → b ≤ h.nx → Kp b h h' := by
  have hb : big = 4611686018427387904 := rfl
  have hu : unk = 18446744073709551616 := rfl
  refine rk59 _ _ _ _ _ (hO _ _ _ (by decide)) ?_
  unfold T59
  have hcl : (xs.map (Value.int .i64)).length = xs.length := List.length_map ..
  obtain ⟨off, e1, _⟩ := slice_m (n := xs.length) (l := i) (hh := i + 1) H (lo := some (.int .i64 (Int.ofNat i))) (hi := some (.int .i64 (Int.ofNat (i + 1)))) (mx := some (.int .i64 (Int.ofNat xs.length))) (bound_i (Nat.le_of_eq hcl.symm)) ⟨_, rfl⟩ (bound_i (by omega)) (bound_i (by omega)) (by omega)
  refine ⟨_, _, _, e1, vcond_f (eqI_f (by simp only [Int.ofNat_eq_natCast, ne_eq]; omega)) ?_⟩
  intro g4
  have H4 : g4.get o = some (.cells (xs.map (Value.int .i64)) 3 .grow) := H
  refine ⟨_, _, _, slice_g (l := 0) (hh := i) H4 rfl (bound_i (by rw [hcl]; omega)), _, _, _, slice_g (l := i + 1) (hh := xs.length) H4 (bound_i (by omega)) rfl, ?_⟩
  have T := (app32 : AppT Tryd.prog 32 3 1 8)
  obtain ⟨hz, info, z, hi', hzz, hrun⟩ := T.run
  have hrd : readAt (g4.grd []) o (i + 1) ((xs.length - (i + 1)) * 1) = some ((xs.drop (i + 1)).map (Value.int .i64)) := by
    rw [readAt_get (h := g4.grd []) H4 (by rw [hcl]; omega), ← List.map_drop, Nat.mul_one, List.take_of_length_le (by simp)]
  have hk4 : ∀ b, b ≤ o → b ≤ h.nx → Kp b h g4 := fun b _ _ => (Kp.refl _ _).rsv 8
  -- the part behind it is moved forward
  have main : ∃ h', appendV Tryd.prog (g4.grd []) 32 32 (.slice (some ⟨o, 0, none⟩) (i - 0) unk) (.slice (some ⟨o, i + 1, none⟩) (xs.length - (i + 1)) unk) = some (.slice (some ⟨o, 0, none⟩) (xs.length - 1) unk, h') ∧ ∃ cs, h'.get o = some (.cells cs 3 .grow) ∧ cs.length = xs.length ∧ (∀ k (hk : k < (xs.eraseIdx i).length), cs[k]? = some (.int .i64 (xs.eraseIdx i)[k])) ∧ h'.nx = g4.nx ∧ h'.gd = g4.gd ∧ ∀ b, b ≤ o → b ≤ h.nx → Kp b g4 h' := by
    rw [hrun _ _ _ ⟨_, _, _, rfl⟩, src_get hrd]
    simp only [Option.bind_some, show ((xs.drop (i + 1)).map (Value.int .i64)).all one = true from all_one _, cond_true]
    rcases Nat.lt_or_ge (i + 1) xs.length with hlt | hge
    · have hk0 : Nat.beq (xs.length - (i + 1)) 0 = false := by rw [Bool.eq_false_iff]; intro hh; have := Nat.eq_of_beq_eq_true hh; omega
      simp only [hk0, cond_false]
      have hH : (g4.grd []).get o = some (.cells (xs.map (Value.int .i64)) 3 .grow) := H4
      have hcw : canW (g4.grd []) o i ((xs.drop (i + 1)).map (Value.int .i64)) = true := canW_t hH (by decide) hg (by simp; omega) (all_one _)
      have hw := writeAt_some hcw
      refine ⟨(g4.grd []).wr o i ((xs.drop (i + 1)).map (Value.int .i64)), ?_, _, wr_get hH (by decide) hg (by simp; omega) (all_one _), by rw [putAt_length, hcl], fun k hk => ?_, by rw [nx_wr]; rfl, by rw [gd_wr]; rfl, fun b h1 h2 => ((Kp.refl b g4)).wr h1 _ _⟩
      · unfold appSome
        have e5 : Nat.beq unk unk = true := Nat.beq_refl _
        have e6 : Nat.beq 3 3 = true := rfl
        have e7 : Nat.ble (0 + (i - 0 + (xs.length - (i + 1))) * 1) (xs.map (Value.int .i64)).length = true := by rw [hcl]; exact ble_t (by omega)
        simp only [hH, e5, e6, e7, cond_true, isGrow, Bool.and_self]
        rw [show 0 + (i - 0) * 1 = i by omega, hw, show i - 0 + (xs.length - (i + 1)) = xs.length - 1 by omega]; rfl
      · rw [putAt_get _ _ _ (by simp; omega)]
        have hkl : k < xs.length - 1 := by rw [List.length_eraseIdx_of_lt hi] at hk; exact hk
        rw [List.getElem_eraseIdx]
        simp only [List.length_map, List.length_drop]
        by_cases h1 : k < i
        · rw [if_neg (by omega)]
          simp [h1, show k < xs.length by omega]
        · rw [if_pos (by omega)]
          simp [h1, List.getElem?_eq_getElem (show i + 1 + (k - i) < xs.length by omega), show i + 1 + (k - i) = k + 1 by omega]
    · have hin : i + 1 = xs.length := by omega
      have e8 : xs.length - (i + 1) = 0 := by omega
      rw [e8]
      refine ⟨g4.grd [], ?_, _, H4, hcl, fun k hk => ?_, rfl, rfl, fun b _ _ => Kp.refl b g4⟩
      · show (bif Nat.ble (i - 0) unk then _ else _) = _
        rw [ble_t (by omega), show i - 0 = xs.length - 1 by omega]; rfl
      · have hkl : k < xs.length - 1 := by rw [List.length_eraseIdx_of_lt hi] at hk; exact hk
        rw [List.getElem_eraseIdx]
        simp [show k < i by omega, show k < xs.length by omega]
  obtain ⟨h', e9, cs, hcs, hcl2, hcx, hnx, hgd, hk⟩ := main
  refine ⟨_, _, _, _, e9, ?_⟩
  intro g15
  have H15 : g15.get o = some (.cells cs 3 .grow) := hcs
  have hg15 : g15.guarded o = false := hg
  refine ⟨_, _, _, slice_g (l := xs.length - 1) (hh := xs.length) H15 (bound_i (by omega)) (bound_i (by rw [hcl2]; omega)), ?_⟩
  have hcw : canW g15 o (xs.length - 1) [.int .i64 0] = true := canW_t H15 (by decide) hg15 (by simp; omega) rfl
  have e10 : elemT Tryd.prog 32 = some 3 := by kernel_rfl
  have e11 : ((Tryd.prog.info? 3).bind fun info => info.zero) = some (.int .i64 0) := by kernel_rfl
  obtain ⟨info3, e12, e13⟩ := Option.bind_eq_some_iff.1 e11
  refine ⟨g15.wr o (xs.length - 1) [.int .i64 0], ?_, rfl, ?_, fun b h1 h2 => (hk4 b h1 h2).trans (Kp.wr (h' := g15) ⟨(hk b h1 h2).get, (hk b h1 h2).nx, rfl, (hk b h1 h2).fr⟩ h1 _ _)⟩
  · unfold clearV
    simp only [e10, Option.bind_some, e12, e13, show xs.length - (xs.length - 1) = 1 by omega]
    show (bif Nat.beq 1 0 then _ else bif [Value.int .i64 0].all _ then _ else _) = _
    have : Nat.beq 1 0 = false := rfl
    rw [this, cond_false, show ([Value.int .i64 0].all fun v => flat v && one v) = true from rfl, cond_true]
    show (writeAt g15 o (xs.length - 1) [.int .i64 0]).map _ = _
    rw [writeAt_some hcw]; rfl
  · have hel : (xs.eraseIdx i).length = xs.length - 1 := List.length_eraseIdx_of_lt hi
    have := ints_of_get (xs := xs.eraseIdx i) (wr_get H15 (by decide) hg15 (vs := [.int .i64 0]) (off := xs.length - 1) (by simp; omega) rfl) (by rw [nx_wr]; show o < h'.nx; rw [hnx]; show o < h.nx + 8; omega) (by rw [putAt_length]; omega) fun k hk => by
      rw [putAt_get _ _ _ (by simp; omega), if_neg (by omega)]; exact hcx k hk
    rw [hel] at this; exact this
end
/-- What is left of a list, from the last one on, without which a clash remains. -/
def needF (cl : List Int → Bool) : Nat → List Int → List Int
  | 0, out => out
  | i + 1, out => if cl (out.eraseIdx i) = true then needF cl i (out.eraseIdx i) else needF cl i out
def clashN (ss : List (Nat × Nat)) (gs l : List Int) : Bool := !(fromN ss (gs ++ l)).2
section
variable {O : CallF} (hO : Oth O)
include hO
theorem lp97 {b : Nat} {h₀ : Hp} (ok : h₀.Ok) {vars left : Int} {a a1 a2 : Option Addr} {n c n1 c1 n2 c2 : Nat} (hb : h₀.get b = some (.cells (baseC vars a n c a1 n1 c1 left a2 n2 c2) 128 .fix)) (hbn : b < h₀.nx) {ss : List (Nat × Nat)} (H : SidesAt2 h₀ a n ss) (hl : ss.length < 1000000) (hss : ∀ p ∈ ss, p.1 < 2 ^ 30 ∧ p.2 < 2 ^ 30)
    {gs : List Int} (G : IntsAt h₀ a1 n1 gs) (hgl : gs.length < 1000000) (hg : ∀ x ∈ gs, Lit x) {a0 : Option Addr} {n0 c0 : Nat} {r : List Int} :
    ∀ (i : Nat) {out : List Int} {x6 : Int} {h : Hp} {a5 : Option Addr} {n5 c5 : Nat}, x6 = Int.ofNat i - 1 → i ≤ out.length → out.length < 1000000 → (∀ x ∈ out, Lit x) → IntsAt h a5 n5 out → Kp h₀.nx h₀ h → r = needF (clashN ss gs) i out →
      I97_0 O (fun v h' => ∃ a' n' c', v = .slice a' n' c' ∧ IntsAt h' a' n' r ∧ Kp h₀.nx h₀ h') a0 n0 c0 95 #[.pointer (some ⟨b, 0, none⟩)] #[] 95 #[.pointer (some ⟨b, 0, none⟩)] #[] a5 n5 c5 x6 h := by
  intro i
  induction i with
  | zero =>
    intro out x6 h a5 n5 c5 hx _ _ _ X kp hr
    subst hx
    refine I97_0.of (hh := ?_) ..
    unfold T97_0
    exact vcond_f rfl ⟨_, _, _, rfl, by rw [hr]; exact X, kp⟩
  | succ i ih =>
    intro out x6 h a5 n5 c5 hx hi hol hlit X kp hr
    obtain rfl : x6 = Int.ofNat i := by rw [hx]; simp only [Int.ofNat_eq_natCast]; omega
    have okh := ok.kp kp
    have f0 := kp.ex (Nat.le_refl _)
    refine I97_0.of (hh := ?_) ..
    unfold T97_0
    refine vcond_t (by rw [show ltI (Int.ofNat i) 0 = false from rfl]; rfl) ?_
    refine (ct60 hO okh X (by omega)).s fun a3 n3 c3 h3 ⟨A3, K3⟩ => ?_
    have hne : out.map (Value.int .i64) ≠ [] := fun e => by
      have : out.length = 0 := by simpa using congrArg List.length e
      omega
    rcases A3 with (⟨_, _, _, e⟩ | ⟨o, rfl, rfl, q3, q4, q5, q6⟩) | ⟨e, _⟩
    · exact absurd e hne
    · obtain rfl : n3 = out.length := by simpa using q3
      obtain ⟨v, h4, e4, rfl, Y, K4⟩ := ct59 hO (h := h3) (i := i) q6 q5 (GdLt.free (GdLt.kp okh.lt K3) q4) (by omega) hol
      rw [wrap_succ (by omega)]
      have K34 : Kp h.nx h h4 := K3.trans (K4 h.nx q4 K3.nx)
      have kp4 : Kp h₀.nx h₀ h4 := kp.trans (K34.le kp.nx)
      have f4 := kp4.ex (Nat.le_refl _)
      have hl2 : (out.eraseIdx i).length = out.length - 1 := List.length_eraseIdx_of_lt (by omega)
      have hlit2 : ∀ x ∈ out.eraseIdx i, Lit x := fun x hx => hlit x (List.mem_of_mem_eraseIdx hx)
      refine ⟨_, _, _, h4, e4, ?_⟩
      obtain ⟨v, h5, e5, rfl, K5⟩ := ct95 hO (ok.kp kp4) (by rw [kp4.get _ hbn]; exact hb) (Nat.lt_of_lt_of_le hbn kp4.nx) (H.to h4) hl hss (G.to h4) hgl hg Y (cm := unk) (by omega) hlit2
      have kp5 := kp4.trans (K5.le kp4.nx)
      refine ⟨_, h5, e5, ?_⟩
      rw [wrap64 (by simp only [Int.ofNat_eq_natCast]; omega) (by simp only [Int.ofNat_eq_natCast]; omega)]
      have f5 := K5.ex (Nat.le_refl _)
      have f35 : Ft h h5 := Ft.tr (K34.ex (Nat.le_refl _)) f5
      unfold needF at hr
      unfold clashN at hr
      refine vcond_split (fun hc => ?_) fun hc => ?_
      · rw [if_pos hc] at hr
        rw [← hl2] at Y ⊢
        exact ih rfl (by omega) (by omega) hlit2 (Y.to h5) kp5 hr
      · rw [if_neg (by rw [hc]; decide)] at hr
        exact ih rfl (by omega) hol hlit (X.to h5) kp5 hr
    · exact absurd e hne
theorem ct97 {b : Nat} {h : Hp} (ok : h.Ok) {vars left : Int} {a a1 a2 : Option Addr} {n c n1 c1 n2 c2 : Nat} (hb : h.get b = some (.cells (baseC vars a n c a1 n1 c1 left a2 n2 c2) 128 .fix)) (hbn : b < h.nx) {ss : List (Nat × Nat)} (H : SidesAt2 h a n ss) (hl : ss.length < 1000000) (hss : ∀ p ∈ ss, p.1 < 2 ^ 30 ∧ p.2 < 2 ^ 30)
    {gs xs : List Int} (G : IntsAt h a1 n1 gs) (hgl : gs.length < 1000000) (hg : ∀ x ∈ gs, Lit x) {am : Option Addr} {nm cm : Nat} (X : IntsAt h am nm xs) (hxl : xs.length < 1000000) (hx : ∀ x ∈ xs, Lit x) :
    Ret Tryd.prog O 97 [.slice am nm cm, .func (.func 95) #[.pointer (some ⟨b, 0, none⟩)] #[]] h fun v h' => ∃ a' n' c', v = .slice a' n' c' ∧ IntsAt h' a' n' (needF (clashN ss gs) xs.length xs) ∧ Kp h.nx h h' := by
  refine rk97 _ _ _ _ _ _ (hO _ _ _ (by decide)) ?_
  unfold T97
  refine (ct60 hO ok X (by omega)).s fun a3 n3 c3 h3 ⟨A3, K3⟩ => ?_
  have hn3 : n3 = xs.length := (accE_ints A3).1
  exact lp97 hO ok hb hbn H hl hss G hgl hg xs.length (by rw [hn3, wrap64 (by simp only [Int.ofNat_eq_natCast]; omega) (by simp only [Int.ofNat_eq_natCast]; omega)]) (Nat.le_refl _) hxl hx (accE_ints A3) K3 rfl
end
end Go.Proofs.YtfgfhplgnfbaaaaDoor
/- Resolving, its result at a new place. -/
namespace Go.Proofs.YtfgfhplgnfbaaaaDoor
open Go Go.Ev
/-- A list at a new place, and an error. -/
def RPairF (h : Hp) (r : List Int × Int) (v : Value) (h' : Hp) : Prop := ∃ a n c, v = .tuple #[.slice a n c, .int .i64 r.2] ∧ IntsAt h' a n r.1 ∧ Kp h.nx h h' ∧ (∀ b off, a = some ⟨b, off, none⟩ → h.nx ≤ b) ∧ (a = none ∨ 0 < n)
theorem RPairF.none {h h' : Hp} {e : Int} (k : Kp h.nx h h') : RPairF h ([], e) (.tuple #[.slice none 0 0, .int .i64 e]) h' := ⟨_, _, _, rfl, SlAt.nil .., k, (fun _ _ e => by cases e), .inl rfl⟩
section
variable {O : CallF} (hO : Oth O)
include hO
omit hO in
theorem digits_nil {z : Nat} (hz : z < 2 ^ 30) (h : digits 30 z = []) : z = 0 := by
  rcases Nat.eq_zero_or_pos z with h0 | h0
  · exact h0
  · obtain ⟨k, j, rfl⟩ := low_split z h0
    have hk : k < 30 := by
      rcases Nat.lt_or_ge k 30 with h1 | h1
      · exact h1
      · have := Nat.pow_le_pow_right (n := 2) (by decide) h1; omega
    rw [digits_step hk] at h; cases h
/-- A list at a new place; of no elements: nowhere. -/
def RIntsE (h : Hp) (xs : List Int) (v : Value) (h' : Hp) : Prop := ∃ a n c, v = .slice a n c ∧ IntsAt h' a n xs ∧ Kp h.nx h h' ∧ (∀ b off, a = some ⟨b, off, none⟩ → h.nx ≤ b) ∧ (a = none ∨ 0 < n)
theorem ct90E {y m : Nat} (hy : y < 2 ^ 30) (hm : m < 2 ^ 30) {h : Hp} (hk : h.Ok) (ht : Tb h) : Ret Tryd.prog O 90 [.agg #[U y, U m]] h (RIntsE h (litsN y m)) := by
  cases hl : litsN y m with
  | nil =>
    have h0 : y ||| m = 0 := digits_nil (Nat.or_lt_two_pow hy hm) (by unfold litsN at hl; simpa using hl)
    refine rk90 _ _ (hO _ _ _ (by decide)) ?_
    unfold T90
    have g1 : (h.add (.cells [U y, U m] 102 .fix)).get h.nx = some (.cells [U y, U m] 102 .fix) := get_add_same ..
    refine ⟨_, read1 g1 rfl, _, read1 g1 rfl, vreq_t (inD_of (by omega)) (vreq_t (inD_of (by omega)) ?_)⟩
    rw [lor_nat, h0]
    refine I90_0.of _ _ _ _ _ _ _ _ ?_
    intros
    unfold T90_0
    exact vcond_f rfl ⟨_, _, _, rfl, SlAt.nil .., (Kp.refl _ _).add (Nat.le_refl _) _, (fun _ _ e => by cases e), .inl rfl⟩
  | cons x xs =>
    obtain ⟨v, h', e, a, n, c, rfl, X, K, F⟩ := ct90 hO hy hm hk ht
    exact ⟨_, h', e, a, n, c, rfl, by rw [← hl]; exact X, K, F, .inr (by rw [X.1, hl]; simp)⟩
theorem lp38F {a a' al : Option Addr} {n c n' c' nl cl : Nat} {v : Int} {h₀ : Hp} {b8 : Nat} {L : List Int} (hL : ∀ x ∈ L, Lit x) (hll : L.length < 1000000) (hv : 1 ≤ v ∧ v ≤ 30) (hb8 : h₀.nx ≤ b8) (ha : ∀ b off, al = some ⟨b, off, none⟩ → b ≠ b8) (ho : h₀.Ok) (ht : Tb h₀) {r : List Int × Int} :
    ∀ (d k : Nat), k + d = L.length → ∀ (y m : Nat) (q : Bool) {h : Hp}, y < 2 ^ 30 → m < 2 ^ 30 → IntsAt h al nl L → h.get b8 = some (.cells [U y, U m] 102 .fix) → b8 < h.nx → Kp h₀.nx h₀ h →
      r = fin38 (rsF v (L.drop k) y m q) → I38_0 O (RPairF h₀ r) a n c a' n' c' v b8 0 q al nl cl (Int.ofNat nl) (Int.ofNat k) h := by
  intro d
  induction d with
  | zero =>
    intro k hk y m q h hy hm H g8 hb kp hr
    have hn := H.1
    refine I38_0.of _ _ _ _ _ _ _ _ _ _ _ _ _ _ _ ?_
    intros
    unfold T38_0
    refine vcond_f (by rw [ltI_nat]; exact blt_f (by omega)) ?_
    rw [List.drop_of_length_le (by omega)] at hr
    simp only [rsF] at hr
    refine vcond_split (fun h1 => ?_) fun h1 => ?_
    · have h1 : q = false := by simpa using h1
      subst h1
      subst hr
      exact .none kp
    · have h1 : q = true := by simpa using h1
      subst h1
      subst hr
      obtain ⟨v', h', e1, a3, n3, c3, rfl, A, K, F, E⟩ := ct90E hO hy hm (ho.kp kp) (ht.kp kp ht.1)
      refine ⟨_, _, readAt_get g8 (by simp), _, _, _, _, e1, _, _, _, rfl, A, kp.trans (K.le kp.nx), (fun b off e => Nat.le_trans kp.nx (F b off e)), E⟩
  | succ d ih =>
    intro k hk y m q h hy hm H g8 hb kp hr
    have hn := H.1
    refine I38_0.of _ _ _ _ _ _ _ _ _ _ _ _ _ _ _ ?_
    intros
    unfold T38_0
    have e1 : L.drop k = L[k] :: L.drop (k + 1) := List.drop_eq_getElem_cons (by omega)
    rw [e1] at hr
    simp only [rsF] at hr
    have hlit := hL L[k] (List.getElem_mem _)
    refine vcond_t (by rw [ltI_nat]; exact blt_t (by omega)) (isNat_of (H.get (k := k) (by omega) fun b off h1 h2 hrd => vreq_t (blt_t (by omega)) ⟨_, hrd, ?_⟩))
    have hneg : wrapF .i64 (0 - v) = -v := by rw [wrap64] <;> omega
    rw [hneg, wrap_succ (by omega)]
    refine vcond_split (fun h3 => ?_) fun h3 => vcond_split (fun h4 => ?_) fun h4 => ?_
    · rw [if_pos (.inl (eq_of_t h3))] at hr
      exact ih (k + 1) (by omega) y m q hy hm H g8 hb kp hr ..
    · rw [if_pos (.inr (eq_of_t h4))] at hr
      exact ih (k + 1) (by omega) y m q hy hm H g8 hb kp hr ..
    · rw [if_neg (by rintro (h | h)
                     · exact ne_of_f h3 h
                     · exact ne_of_f h4 h)] at hr
      obtain ⟨v2, h2', e2, rfl, K2⟩ := ct104 hO hlit hy hm (ho.kp kp)
      obtain ⟨l1, l2⟩ := withN_lt hlit hy hm
      refine ⟨_, _, readAt_get g8 (by simp), _, _, _, _, e2, ?_⟩
      generalize (withN y m L[k]).1 = y1 at *
      generalize (withN y m L[k]).2 = m1 at *
      have ok2 : h2'.Ok := ho.kp (kp.trans (K2.le kp.nx))
      have gn : (h2'.add (.cells [(.int .u32 0), (.int .u32 0)] 102 .fix)).get h2'.nx = _ := get_add_same ..
      have gu : ∀ o, h₀.nx ≤ o → (h2'.add (.cells [(.int .u32 0), (.int .u32 0)] 102 .fix)).guarded o = false := fun o ho' => guarded_of fun q hq => by
        have : q ∈ h₀.gd := by have := (kp.trans (K2.le kp.nx)).gd; rw [← this]; exact hq
        have := ho.gd q this; omega
      have hnx2 : h₀.nx ≤ h2'.nx := Nat.le_trans kp.nx K2.nx
      refine vreq_t (canW_t gn (by decide) (gu _ hnx2) (by simp) rfl) ⟨_, _, readAt_get (wr_get gn (by decide) (gu _ hnx2) (by simp) rfl) (by simp [putAt]), ?_⟩
      have hb2 : b8 < h2'.nx := Nat.lt_of_lt_of_le hb K2.nx
      have g8' : ((h2'.add (.cells [(.int .u32 0), (.int .u32 0)] 102 .fix)).wr h2'.nx 0 [U y1, U m1]).get b8 = some (.cells [U y, U m] 102 .fix) := by
        rw [wr_get_ne _ _ _ _ (by omega), get_add_ne (by omega), K2.get _ hb]; exact g8
      have gu' : ((h2'.add (.cells [(.int .u32 0), (.int .u32 0)] 102 .fix)).wr h2'.nx 0 [U y1, U m1]).guarded b8 = false := by
        have := gu b8 hb8
        unfold Hp.guarded at *
        rw [gd_wr]; exact this
      have cw := canW_t g8' (by decide) gu' (off := 0) (vs := [U y1, U m1]) (by simp) rfl
      have next : ∀ q', r = fin38 (rsF v (L.drop (k + 1)) y1 m1 q') →
          I38_0 O (RPairF h₀ r) a n c a' n' c' v b8 0 q' al nl cl (Int.ofNat nl) (Int.ofNat (k + 1)) (((h2'.add (.cells [(.int .u32 0), (.int .u32 0)] 102 .fix)).wr h2'.nx 0 [U y1, U m1]).wr b8 0 [U y1, U m1]) := by
        intro q' hr'
        refine ih (k + 1) (by omega) y1 m1 q' l1 l2 ?_ (wr_get g8' (by decide) gu' (by simp) rfl) (by rw [nx_wr, nx_wr, nx_add]; omega) ?_ hr'
        · refine (H.up EInt.up K2).keep (fun b' off' hab => ?_) (by rw [nx_wr, nx_wr, nx_add]; omega) fun _ _ h => h
          have hne := ha b' off' hab
          rcases H.2 with ⟨_, h0⟩ | ⟨b3, off3, _, _, _, h0, hlt, _⟩
          · rw [h0] at hab; cases hab
          · rw [h0] at hab; injection hab with hab; injection hab with hab _
            have := K2.nx
            rw [wr_get_ne _ _ _ _ hne, wr_get_ne _ _ _ _ (by omega), get_add_ne (by omega)]
        · exact (((kp.trans (K2.le kp.nx)).add hnx2 _).wr hnx2 _ _).wr hb8 _ _
      refine vcond_split (fun h5 => ?_) fun h5 => ?_
      · subst h5
        exact vreq_t cw (next _ (by simpa using hr) ..)
      · subst h5
        exact vreq_t cw (next _ (by simpa using hr) ..)
theorem ct38F {a a' : Option Addr} {n c n' c' : Nat} {h : Hp} {xs ys : List Int} (v : Int) (H : IntsAt h a n xs) (H' : IntsAt h a' n' ys) (hl : xs.length < 1000) (hl' : ys.length < 1000) (ho : h.Ok) (ht : Tb h) : Ret Tryd.prog O 38 [.slice a n c, .slice a' n' c', .int .i64 v] h (RPairF h (resP xs ys v)) := by
  refine rk38 _ _ _ _ _ _ _ (hO _ _ _ (by decide)) ?_
  unfold T38 resP
  refine ⟨_, _, ct87 hO 30 H (by omega), vcond_split (fun h1 => ?_) fun h1 => ⟨_, _, ct87 hO 30 H' (by omega), vcond_split (fun h2 => ?_) fun h2 => vcond_split (fun h3 => ?_) fun h3 => vcond_split (fun h4 => ?_) fun h4 => ?_⟩⟩
  · rw [if_pos (.inl (by simpa using h1))]; exact .none (.refl _ _)
  · rw [if_pos (.inr (.inl (by simpa using h2)))]; exact .none (.refl _ _)
  · rw [if_pos (.inr (.inr (.inl (lt_of_t h3))))]; exact .none (.refl _ _)
  · rw [if_pos (.inr (.inr (.inr (lt_of_t h4))))]; exact .none (.refl _ _)
  · have h3 := not_lt_of_f h3
    have h4 := not_lt_of_f h4
    have hc1 : clB 30 0 xs = true := by simpa using h1
    have hc2 : clB 30 0 ys = true := by simpa using h2
    rw [if_neg (by rw [hc1, hc2]; simp; omega)]
    have hneg : wrapF .i64 (0 - v) = -v := by rw [wrap64] <;> omega
    rw [hneg]
    refine ⟨_, _, ct62 hO v H (by omega), vcond_split (fun h5 => ?_) fun h5 => ⟨_, _, ct62 hO (-v) H' (by omega), vcond_split (fun h6 => ?_) fun h6 => ?_⟩⟩
    · rw [if_pos (.inl (by simpa using h5))]; exact .none (.refl _ _)
    · rw [if_pos (.inr (by simpa using h6))]; exact .none (.refl _ _)
    · rw [if_neg (by simp at h5 h6; simp [h5, h6])]
      let h1' := h.add (.cells [U 0, U 0] 102 .fix)
      let h2' := h1'.add (.cells [(.slice a n c), (.slice a' n' c')] 32 .fix)
      have k1 : Kp h.nx h h2' := ((Kp.refl _ _).add (Nat.le_refl _) _).add (by rw [nx_add]; omega) _
      have I1 := H.up EInt.up k1
      have I2 := H'.up EInt.up k1
      have LL : IntssAt h2' (some ⟨h1'.nx, 0, none⟩) 2 [xs, ys] := by
        refine ⟨rfl, .inr ⟨h1'.nx, 0, _, _, _, rfl, by show h1'.nx < h1'.nx + 1; omega, get_add_same .., by simp, fun i hi => ?_⟩⟩
        match i, hi with
        | 0, _ => exact ⟨a, n, c, rfl, I1⟩
        | 1, _ => exact ⟨a', n', c', rfl, I2⟩
      obtain ⟨v', h3', e1, a3, n3, c3, rfl, A, K, F⟩ := ct103 hO LL (by simp) (by simp [lenSum]; omega) (ho.kp k1) (c := 2)
      refine ⟨_, _, _, _, e1, ?_⟩
      have hA : [xs, ys].flatten = xs ++ ys := by simp
      rw [hA] at A
      have hA1 := A.1
      rw [hA1]
      rw [hA1] at A
      have g8 : h2'.get h.nx = some (.cells [U 0, U 0] 102 .fix) := by
        show (h1'.add _).get h.nx = _
        rw [get_add_ne (by show h.nx ≠ h.nx + 1; omega)]
        exact get_add_same ..
      refine lp38F hO (L := xs ++ ys) (h₀ := h) (fun x hx => ?_) (by simp; omega) ⟨by omega, by omega⟩ (Nat.le_refl _) (fun b off e => ?_) ho ht (xs ++ ys).length 0 (by omega) 0 0 true (by decide) (by decide) A ?_ ?_ (k1.trans (K.le k1.nx)) rfl ..
      · rcases List.mem_append.1 hx with hx | hx
        · exact (clB_lit (by decide) hc1 x hx).1
        · exact (clB_lit (by decide) hc2 x hx).1
      · have := F b off e
        have : h2'.nx = h.nx + 2 := rfl
        omega
      · rw [K.get _ (by show h.nx < h.nx + 2; omega)]; exact g8
      · exact Nat.lt_of_lt_of_le (by show h.nx < h.nx + 2; omega) K.nx
end
end Go.Proofs.YtfgfhplgnfbaaaaDoor
/- The walk of search: the base while it is searched. -/
namespace Go.Proofs.YtfgfhplgnfbaaaaDoor
open Go Go.Ev
/-- It lies neither in the base nor in the list of lines. -/
def Aw (b : Nat) (a2 a : Option Addr) : Prop := ∀ q off, a = some ⟨q, off, none⟩ → q ≠ b ∧ a2 ≠ some ⟨q, 0, none⟩
theorem Aw.none (b : Nat) (a2 : Option Addr) : Aw b a2 none := fun _ _ e => by cases e
/-- The lines: each lies elsewhere. -/
def Ln (b : Nat) (h : Hp) (a : Option Addr) (n c : Nat) (xss : List (List Int)) : Prop :=
  ∃ vs, Acc h (b + 1) 32 1 a n c vs ∧ Lis h vs xss ∧ ∀ v ∈ vs, ∀ a1 n1 c1, v = .slice a1 n1 c1 → Aw b a a1 ∧ (a1 = none ∨ 0 < n1)
/-- From one memory to a later one: the base and the list of lines may change. -/
structure Nx (b : Nat) (a2 : Option Addr) (h : Hp) (a2' : Option Addr) (h' : Hp) : Prop where
  nx : h.nx ≤ h'.nx
  gd : h'.gd = h.gd
  fr : h.Fresh → h'.Fresh
  get : ∀ o, o < h.nx → o ≠ b → a2 ≠ some ⟨o, 0, none⟩ → h'.get o = h.get o
  nw : a2' = a2 ∨ ∀ q off, a2' = some ⟨q, off, none⟩ → h.nx ≤ q
theorem Nx.of {b : Nat} {a2 : Option Addr} {h h' : Hp} (k : Kp h.nx h h') : Nx b a2 h a2 h' := ⟨k.nx, k.gd, k.fr, fun o ho _ _ => k.get o ho, .inl rfl⟩
theorem Nx.refl (b : Nat) (a2 : Option Addr) (h : Hp) : Nx b a2 h a2 h := .of (.refl _ _)
theorem Nx.trans {b : Nat} {a2 a3 a4 : Option Addr} {h h' h'' : Hp} (k : Nx b a2 h a3 h') (l : Nx b a3 h' a4 h'') : Nx b a2 h a4 h'' := by
  refine ⟨Nat.le_trans k.nx l.nx, l.gd.trans k.gd, fun f => l.fr (k.fr f), fun o ho h1 h2 => ?_, ?_⟩
  · rw [l.get o (Nat.lt_of_lt_of_le ho k.nx) h1, k.get o ho h1 h2]
    rcases k.nw with rfl | e
    · exact h2
    · exact fun e2 => by have := e _ _ e2; omega
  · rcases l.nw with rfl | e
    · exact k.nw
    · exact .inr fun q off e2 => Nat.le_trans k.nx (e q off e2)
theorem Nx.aw {b : Nat} {a2 a3 : Option Addr} {h h' : Hp} (k : Nx b a2 h a3 h') {a : Option Addr} (ha : Aw b a2 a) (hn : ∀ q off, a = some ⟨q, off, none⟩ → q < h.nx) : Aw b a3 a := fun q off e => by
  refine ⟨(ha q off e).1, ?_⟩
  rcases k.nw with rfl | e2
  · exact (ha q off e).2
  · exact fun e3 => by have := e2 _ _ e3; have := hn q off e; omega
theorem SlAt.lt {α : Type} {w : Nat} {R : Enc α} {h : Hp} {a : Option Addr} {n : Nat} {xs : List α} (X : SlAt w R h a n xs) : ∀ q off, a = some ⟨q, off, none⟩ → q < h.nx := fun q off e => by
  rcases X.2 with ⟨_, e2⟩ | ⟨b, off', _, _, _, e2, h2, _⟩
  · rw [e2] at e; cases e
  · rw [e2] at e; injection e with e; injection e with e; omega
/-- What lies elsewhere stays. -/
theorem Nx.sl {α : Type} {w : Nat} {R : Enc α} {b : Nat} {a2 a3 : Option Addr} {h h' : Hp} (k : Nx b a2 h a3 h') (hR : ∀ x vs, R h x vs → R h' x vs) {a : Option Addr} {n : Nat} {xs : List α} (X : SlAt w R h a n xs) (ha : Aw b a2 a) : SlAt w R h' a n xs :=
  X.keep (fun q off e => k.get q (SlAt.lt X q off e) (ha q off e).1 (ha q off e).2) k.nx hR
theorem Nx.ints {b : Nat} {a2 a3 : Option Addr} {h h' : Hp} (k : Nx b a2 h a3 h') {a : Option Addr} {n : Nat} {xs : List Int} (X : IntsAt h a n xs) (ha : Aw b a2 a) : IntsAt h' a n xs := k.sl (fun _ _ h => h) X ha
/-- A base while it is searched. -/
structure Bs (b : Nat) (vars : Int) (a : Option Addr) (n c : Nat) (a1 : Option Addr) (n1 c1 : Nat) (ss : List (Nat × Nat)) (gs : List Int) (left : Int) (lines : List (List Int)) (a2 : Option Addr) (n2 c2 : Nat) (h : Hp) : Prop where
  ok : h.Ok
  tb : Tb h
  bn : b < h.nx
  get : h.get b = some (.cells (baseC vars a n c a1 n1 c1 left a2 n2 c2) 128 .fix)
  S : SidesAt2 h a n ss
  Sa : Aw b a2 a
  G : IntsAt h a1 n1 gs
  Ga : Aw b a2 a1
  L : Ln b h a2 n2 c2 lines
  ug : ∀ q ∈ h.gd, q ≠ b ∧ a2 ≠ some ⟨q, 0, none⟩
section
variable {b : Nat} {vars : Int} {a : Option Addr} {n c : Nat} {a1 : Option Addr} {n1 c1 : Nat} {ss : List (Nat × Nat)} {gs : List Int} {left : Int} {lines : List (List Int)} {a2 : Option Addr} {n2 c2 : Nat} {h h' : Hp}
theorem Ln.lt (L : Ln b h a2 n2 c2 lines) : ∀ q, a2 = some ⟨q, 0, none⟩ → b < q ∧ q < h.nx := fun q e => let ⟨_, A, _, _⟩ := L; A.lt e
theorem Bs.ub (B : Bs b vars a n c a1 n1 c1 ss gs left lines a2 n2 c2 h) : h.guarded b = false := guarded_of fun q hq => (B.ug q hq).1
theorem Bs.ul (B : Bs b vars a n c a1 n1 c1 ss gs left lines a2 n2 c2 h) : ∀ q, a2 = some ⟨q, 0, none⟩ → h.guarded q = false := fun q e => guarded_of fun p hp e2 => (B.ug p hp).2 (by rw [e2]; exact e)
theorem Bs.tb0 (B : Bs b vars a n c a1 n1 c1 ss gs left lines a2 n2 c2 h) : 0 ≠ b ∧ a2 ≠ some ⟨0, 0, none⟩ := by
  refine ⟨fun e => ?_, fun e => ?_⟩
  · have := B.tb.2; rw [e, B.get] at this; injection this with this; injection this with _ _ this; cases this
  · have := (B.L.lt 0 e).1; omega
/-- Something else is laid. -/
theorem Bs.kp (B : Bs b vars a n c a1 n1 c1 ss gs left lines a2 n2 c2 h) (k : Kp h.nx h h') : Bs b vars a n c a1 n1 c1 ss gs left lines a2 n2 c2 h' := by
  obtain ⟨vs, A, L, V⟩ := B.L
  exact ⟨B.ok.kp k, B.tb.kp k B.tb.1, Nat.lt_of_lt_of_le B.bn k.nx, by rw [k.get _ B.bn]; exact B.get, B.S.up (ECells.up uu) k, B.Sa, B.G.up EInt.up k, B.Ga, ⟨vs, A.keep (fun o ho _ => k.get o ho) k.nx, L.up k, V⟩, fun q hq => B.ug q (by rw [← k.gd]; exact hq)⟩
theorem Bs.grd (B : Bs b vars a n c a1 n1 c1 ss gs left lines a2 n2 c2 h) {l : List Nat} (hl : ∀ q ∈ l, q < h.nx ∧ q ≠ b ∧ a2 ≠ some ⟨q, 0, none⟩) : Bs b vars a n c a1 n1 c1 ss gs left lines a2 n2 c2 (h.grd l) := by
  obtain ⟨vs, A, L, V⟩ := B.L
  refine ⟨⟨fun q hq => ?_, B.ok.fr⟩, B.tb, B.bn, B.get, B.S.keep (fun _ _ _ => rfl) (Nat.le_refl _) fun _ _ h => h, B.Sa, B.G.keep (fun _ _ _ => rfl) (Nat.le_refl _) fun _ _ h => h, B.Ga, ⟨vs, A.keep (fun _ _ _ => rfl) (Nat.le_refl _), L, V⟩, fun q hq => ?_⟩
  · rcases List.mem_append.1 hq with hq | hq
    · exact (hl q hq).1
    · exact B.ok.gd q hq
  · rcases List.mem_append.1 hq with hq | hq
    · exact (hl q hq).2
    · exact B.ug q hq
theorem Nx.rst {a3 : Option Addr} {l : List Nat} (k : Nx b a2 (h.grd l) a3 h') : Nx b a2 h a3 (h'.rst h) := ⟨k.nx, rfl, k.fr, k.get, k.nw⟩
theorem Bs.rst {left0 left' : Int} {lines0 lines' : List (List Int)} {a3 : Option Addr} {n3 c3 : Nat} (B0 : Bs b vars a n c a1 n1 c1 ss gs left0 lines0 a2 n2 c2 h) (B : Bs b vars a n c a1 n1 c1 ss gs left' lines' a3 n3 c3 h') {l : List Nat} (k : Nx b a2 (h.grd l) a3 h') : Bs b vars a n c a1 n1 c1 ss gs left' lines' a3 n3 c3 (h'.rst h) := by
  obtain ⟨vs, A, L, V⟩ := B.L
  refine ⟨⟨fun q hq => Nat.lt_of_lt_of_le (B0.ok.gd q hq) k.nx, B.ok.fr⟩, B.tb, B.bn, B.get, B.S.keep (fun _ _ _ => rfl) (Nat.le_refl _) fun _ _ h => h, B.Sa, B.G.keep (fun _ _ _ => rfl) (Nat.le_refl _) fun _ _ h => h, B.Ga, ⟨vs, A.keep (fun _ _ _ => rfl) (Nat.le_refl _), L, V⟩, fun q hq => ⟨(B0.ug q hq).1, ?_⟩⟩
  rcases k.nw with rfl | e
  · exact (B0.ug q hq).2
  · exact fun e2 => by have := e _ _ e2; have := B0.ok.gd q hq; have : (h.grd l).nx = h.nx := rfl; omega
/-- Nodes are counted down. -/
theorem Bs.count (B : Bs b vars a n c a1 n1 c1 ss gs left lines a2 n2 c2 h) (l' : Int) : canW h b (0 + 3) [.int .i64 l'] = true ∧ Bs b vars a n c a1 n1 c1 ss gs l' lines a2 n2 c2 (h.wr b (0 + 3) [.int .i64 l']) ∧ Nx b a2 h a2 (h.wr b (0 + 3) [.int .i64 l']) := by
  have gw := wr_get B.get (by decide) B.ub (off := 0 + 3) (vs := [.int .i64 l']) (by simp [baseC]) rfl
  have ne : ∀ q, q ≠ b → (h.wr b (0 + 3) [.int .i64 l']).get q = h.get q := fun q hq => wr_get_ne _ _ _ _ hq
  have nx : (h.wr b (0 + 3) [.int .i64 l']).nx = h.nx := nx_wr ..
  have gd : (h.wr b (0 + 3) [.int .i64 l']).gd = h.gd := gd_wr ..
  have K : Nx b a2 h a2 (h.wr b (0 + 3) [.int .i64 l']) := ⟨Nat.le_of_eq nx.symm, gd, fun f => f.wr _ _ _, fun q _ hq _ => ne q hq, .inl rfl⟩
  obtain ⟨vs, A, L, V⟩ := B.L
  refine ⟨canW_t B.get (by decide) B.ub (by simp [baseC]) rfl, ⟨⟨fun q hq => by rw [gd] at hq; rw [nx]; exact B.ok.gd q hq, B.ok.fr.wr _ _ _⟩, ⟨by rw [nx]; exact B.tb.1, by rw [ne _ B.tb0.1]; exact B.tb.2⟩, by rw [nx]; exact B.bn, gw, K.sl (fun _ _ h => h) B.S B.Sa, B.Sa, K.ints B.G B.Ga, B.Ga, ⟨vs, A.keep (fun o _ e => ne o (by have := (A.lt e).1; omega)) (Nat.le_of_eq nx.symm), ⟨L.1, fun i hi => ?_⟩, V⟩, fun q hq => B.ug q (by rw [← gd]; exact hq)⟩, K⟩
  obtain ⟨v, hv, a', n', c', e, X⟩ := L.2 i hi
  exact ⟨v, hv, a', n', c', e, K.ints X (V v (List.mem_of_getElem? hv) a' n' c' (by simpa using e)).1⟩
/-- One list is appended: what is guarded must not be the list. -/
theorem append_f {P : Program} {sT e : TypeId} {bytes : Nat} (T : AppT P sT e 1 bytes) {h : Hp} {base : Nat} {a : Option Addr} {n c : Nat} {xs : List Value} (H : Acc h base e 1 a n c xs) (hb : base ≤ h.nx) (hg : ∀ q, a = some ⟨q, 0, none⟩ → h.guarded q = false)
    {x y : Value} (hx : ∃ a n c, x = .slice a n c) (hs : srcCells h 1 x = some ([y], 1)) (h1 : one y = true) (hB : (n + 1 + (n + 1)) * bytes ≤ 281474976710656) (hU : n + 1 < big) :
    ∃ h', appendV P h sT sT (.slice a n c) x = some (.slice (some ⟨h.nx, 0, none⟩) (n + 1) unk, h') ∧ Acc h' base e 1 (some ⟨h.nx, 0, none⟩) (n + 1) unk (xs ++ [y]) ∧ AppK h h' a := by
  obtain ⟨hz, info, z, hi, hzz, hrun⟩ := T.run
  rw [hrun h _ x hx, hs]
  simp only [Option.bind_some, List.all_cons, List.all_nil, h1, Bool.and_true, cond_true, show Nat.beq 1 0 = false from rfl, cond_false]
  have new : ∀ m old, m = n + 1 → appNew h e bytes old [y] m = some (.slice (some ⟨h.nx, 0, none⟩) m unk, h.add (.cells (old ++ [y]) e .grow)) := by
    rintro m old rfl
    unfold appNew
    rw [ble_t hB, blt_t hU]; rfl
  rcases H with ⟨rfl, rfl, rfl, rfl⟩ | ⟨o, rfl, rfl, h3, h4, h5, h6⟩
  · exact ⟨_, new 1 [] (by omega), .inr ⟨h.nx, rfl, rfl, by simp, hb, by rw [nx_add]; omega, get_add_same ..⟩, ⟨by rw [nx_add]; omega, rfl, fun f => f.add _, fun q hq _ => get_add_ne (by omega)⟩⟩
  · have hcap : Nat.beq unk unk = true := Nat.beq_refl _
    have hee : Nat.beq e e = true := Nat.beq_refl _
    have e1 : appSome h e bytes 1 (.slice (some ⟨o, 0, none⟩) n unk) [y] 1 = ((appNew h e bytes (xs.drop 0) [y] (n + 1)).bind fun r => (r.2.put o none).map fun h' => (r.1, h')) := by
      unfold appSome
      have : Nat.ble (0 + (n + 1) * 1) xs.length = false := by
        rw [Bool.eq_false_iff]; intro hh
        have hh : 0 + (n + 1) * 1 ≤ xs.length := by simpa using hh
        omega
      simp only [h6, hcap, hee, cond_true, isGrow, Bool.and_self, this, cond_false]
      rw [show Nat.beq (0 + n * 1) xs.length = true by rw [Nat.beq_eq]; omega]; rfl
    rw [e1, new _ _ rfl, Option.bind_some]
    have gf : (h.add (.cells (xs.drop 0 ++ [y]) e .grow)).guarded o = false := hg o rfl
    have hput : ∃ h', (h.add (.cells (xs.drop 0 ++ [y]) e .grow)).put o none = some h' := by
      unfold Hp.put; rw [gf]; exact ⟨_, rfl⟩
    obtain ⟨h', hp⟩ := hput
    obtain ⟨p1, p2, p3, p4⟩ := Hp.get_put hp
    have p4 : ∀ q, h'.get q = if q = o then none else (h.add (.cells (xs.drop 0 ++ [y]) e .grow)).get q := p4
    simp only [hp, Option.map_some]
    refine ⟨h', rfl, .inr ⟨h.nx, rfl, rfl, by simp; omega, hb, by rw [p1, nx_add]; omega, ?_⟩, ⟨by rw [p1, nx_add]; omega, p2, fun f q hq => ?_, fun q hq hne => ?_⟩⟩
    · rw [p4, if_neg (by omega), get_add_same]; simp
    · rw [p1] at hq
      rw [p4]
      split
      · rfl
      · exact (f.add _) q hq
    · rw [p4, if_neg (fun hh => hne (by rw [hh])), get_add_ne (by omega)]
/-- A line more: what is laid, and what is written into the base. -/
theorem Bs.line (B : Bs b vars a n c a1 n1 c1 ss gs left lines a2 n2 c2 h) (hl : lines.length < 1000000) {ac : Option Addr} {nc cc : Nat} {cl : List Int} (X : IntsAt h ac nc cl) (ha : Aw b a2 ac) (hne : ac = none ∨ 0 < nc) :
    ∃ h1, appendV Tryd.prog (h.add (.cells [.slice ac nc cc] 32 .fix)) 28 28 (.slice a2 n2 c2) (.slice (some ⟨h.nx, 0, none⟩) 1 1) = some (.slice (some ⟨h.nx + 1, 0, none⟩) (n2 + 1) unk, h1) ∧ canW h1 b (0 + 4) [.slice (some ⟨h.nx + 1, 0, none⟩) (n2 + 1) unk] = true ∧
      (let h' := h1.wr b (0 + 4) [.slice (some ⟨h.nx + 1, 0, none⟩) (n2 + 1) unk]; Bs b vars a n c a1 n1 c1 ss gs left (lines ++ [cl]) (some ⟨h.nx + 1, 0, none⟩) (n2 + 1) unk h' ∧ Nx b a2 h (some ⟨h.nx + 1, 0, none⟩) h' ∧ IntsAt h' ac nc cl ∧ Aw b (some ⟨h.nx + 1, 0, none⟩) ac) := by
  obtain ⟨vs, A, L, V⟩ := B.L
  have hn2 : n2 = lines.length := by
    have := L.1
    rcases A with ⟨_, h1, _, h4⟩ | ⟨_, _, _, h3, _⟩
    · rw [h4] at this; rw [h1]; exact this
    · omega
  have hb := B.bn
  have k0 : Kp h.nx h (h.add (.cells [.slice ac nc cc] 32 .fix)) := (Kp.refl _ _).add (Nat.le_refl _) _
  have B1 := B.kp k0
  have A1 : Acc (h.add (.cells [.slice ac nc cc] 32 .fix)) (b + 1) 32 1 a2 n2 c2 vs := A.keep (fun o ho _ => k0.get o ho) k0.nx
  have hnx1 : (h.add (.cells [.slice ac nc cc] 32 .fix)).nx = h.nx + 1 := nx_add ..
  obtain ⟨h1, e1, A2, K⟩ := append_f app28 A1 (by rw [hnx1]; omega) B1.ul ⟨_, _, _, rfl⟩ (src_get (n := 1) (c := 1) (esz := 1) (off := 0) (read1 (i := 0) (v := .slice ac nc cc) (get_add_same ..) rfl)) rfl (by omega) (by unfold big; omega)
  rw [hnx1] at e1 A2
  have hbk : h1.get b = some (.cells (baseC vars a n c a1 n1 c1 left a2 n2 c2) 128 .fix) := by
    rw [K.get b (by rw [hnx1]; omega) (fun e => by have := (B.L.lt b e).1; omega)]; exact B1.get
  have gd1 : h1.gd = h.gd := K.gd
  have ub1 : h1.guarded b = false := by have := B.ub; unfold Hp.guarded at *; rw [gd1]; exact this
  have hnx : h.nx + 1 < h1.nx := by
    rcases A2 with ⟨e, _⟩ | ⟨o, e, _, _, _, h5, _⟩
    · cases e
    · injection e with e; injection e with e; omega
  have gw := wr_get hbk (by decide) ub1 (off := 0 + 4) (vs := [.slice (some ⟨h.nx + 1, 0, none⟩) (n2 + 1) unk]) (by simp [baseC]) rfl
  refine ⟨h1, e1, canW_t hbk (by decide) ub1 (by simp [baseC]) rfl, ?_⟩
  intro h'
  have nx : h'.nx = h1.nx := nx_wr ..
  have gd : h'.gd = h1.gd := gd_wr ..
  have ne : ∀ q, q ≠ b → h'.get q = h1.get q := fun q hq => wr_get_ne _ _ _ _ hq
  have N : Nx b a2 h (some ⟨h.nx + 1, 0, none⟩) h' := by
    refine ⟨by rw [nx]; omega, by rw [gd, gd1], fun f => ((K.fr (f.add _))).wr _ _ _, fun q hq h1 h2 => ?_, .inr fun q off e => by injection e with e; injection e with e; omega⟩
    rw [ne q h1, K.get q (by rw [hnx1]; omega) h2, get_add_ne (by omega)]
  have aw : ∀ {x : Option Addr}, Aw b a2 x → (∀ q off, x = some ⟨q, off, none⟩ → q < h.nx) → Aw b (some ⟨h.nx + 1, 0, none⟩) x := fun ha hn => N.aw ha hn
  have fr : h'.Fresh := N.fr B.ok.fr
  have n2' : h1.get (h.nx + 1) = some (.cells (vs ++ [.slice ac nc cc]) 32 .grow) := by
    rcases A2 with ⟨e, _⟩ | ⟨o, e, _, _, _, h5, h6⟩
    · cases e
    · have e8 : h.nx + 1 = o := congrArg Addr.block (Option.some.inj e)
      rw [e8]
      exact h6
  have Xh : IntsAt h' ac nc cl := N.ints X ha
  refine ⟨⟨⟨fun q hq => by rw [gd, gd1] at hq; have := B.ok.gd q hq; rw [nx]; omega, fr⟩, ⟨by rw [nx]; omega, by rw [N.get 0 B.tb.1 B.tb0.1 B.tb0.2]; exact B.tb.2⟩, by rw [nx]; omega, gw, N.sl (fun _ _ h => h) B.S B.Sa, aw B.Sa (SlAt.lt B.S), N.ints B.G B.Ga, aw B.Ga (SlAt.lt B.G), ⟨vs ++ [.slice ac nc cc], .inr ⟨h.nx + 1, rfl, rfl, ?_, by omega, by rw [nx]; exact hnx, by rw [ne _ (by omega)]; exact n2'⟩, ?_, ?_⟩, fun q hq => ?_⟩, N, Xh, aw ha (SlAt.lt X)⟩
  · rcases A2 with ⟨e, _⟩ | ⟨o, e, _, h3, _⟩
    · cases e
    · exact h3
  · refine Lis.app ⟨L.1, fun i hi => ?_⟩ ⟨rfl, fun i hi => ?_⟩
    · obtain ⟨v, hv, a', n', c', e, X'⟩ := L.2 i hi
      exact ⟨v, hv, a', n', c', e, N.ints X' (V v (List.mem_of_getElem? hv) a' n' c' (by simpa using e)).1⟩
    · obtain rfl : i = 0 := by simp at hi; exact hi
      exact ⟨_, rfl, ac, nc, cc, rfl, Xh⟩
  · intro v hv a' n' c' e
    rcases List.mem_append.1 hv with hv | hv
    · obtain ⟨i, hi, rfl⟩ := List.getElem_of_mem hv
      obtain ⟨v', hv', a'', n'', c'', e', X'⟩ := L.2 i (by rw [← L.1]; exact hi)
      have e3 := V _ hv _ _ _ e
      have e4 : vs[i] = v' := Option.some.inj ((List.getElem?_eq_getElem hi).symm.trans hv')
      injection e' with e' _
      have e5 : Value.slice a' n' c' = .slice a'' n'' c'' := by rw [← e, ← e', e4]
      injection e5 with e5 _ _
      subst e5
      exact ⟨aw e3.1 (SlAt.lt X'), e3.2⟩
    · rw [List.mem_singleton] at hv
      rw [hv] at e; injection e with e e9 _; subst e e9
      exact ⟨aw ha (SlAt.lt X), hne⟩
  · rw [gd, gd1] at hq
    exact ⟨(B.ug q hq).1, fun e => by injection e with e; injection e with e; have := B.ok.gd q hq; omega⟩
end
end Go.Proofs.YtfgfhplgnfbaaaaDoor
/- The walk of search: what it computes; a line more; a decision more; how it returns. -/
namespace Go.Proofs.YtfgfhplgnfbaaaaDoor
open Go Go.Ev
theorem spreadF_lt {ss : List (Nat × Nat)} (hs : ∀ c ∈ ss, c.1 < 2 ^ 30 ∧ c.2 < 2 ^ 30) : ∀ (d : Nat) {y m : Nat}, y < 2 ^ 30 → m < 2 ^ 30 → (spreadF ss d y m).1.1 < 2 ^ 30 ∧ (spreadF ss d y m).1.2 < 2 ^ 30 := by
  intro d
  induction d with
  | zero => intro y m hy hm; exact ⟨hy, hm⟩
  | succ d ih =>
    intro y m hy hm
    unfold spreadF
    split
    · exact ⟨hy, hm⟩
    · exact ⟨hy, hm⟩
    · rename_i p e
      have := stepS_free hy hm hs e
      exact ih this.2.1 this.2.2
theorem layN_lt2 : ∀ {xs : List Int}, (∀ x ∈ xs, Lit x) → ∀ {y m : Nat}, y < 2 ^ 30 → m < 2 ^ 30 → (layN xs y m).1.1 < 2 ^ 30 ∧ (layN xs y m).1.2 < 2 ^ 30 := by
  intro xs
  induction xs with
  | nil => intro _ y m hy hm; exact ⟨hy, hm⟩
  | cons x xs ih =>
    intro hx y m hy hm
    have h1 := withN_lt (hx x (by simp)) hy hm
    unfold layN
    split
    · exact ih (fun x h => hx x (List.mem_cons_of_mem _ h)) h1.1 h1.2
    · exact h1
theorem fromN_lt {ss : List (Nat × Nat)} (hs : ∀ c ∈ ss, c.1 < 2 ^ 30 ∧ c.2 < 2 ^ 30) {xs : List Int} (hx : ∀ x ∈ xs, Lit x) : (fromN ss xs).1.1 < 2 ^ 30 ∧ (fromN ss xs).1.2 < 2 ^ 30 := by
  have h1 := layN_lt2 hx (y := 0) (m := 0) (by decide) (by decide)
  unfold fromN fromR
  split
  · exact spreadF_lt hs 31 h1.1 h1.2
  · exact h1
/-- The lowest digit. -/
def lowF (u : Nat) : Nat := (digits 30 u).head?.getD 0
/-- The variables that are open. -/
def freeM (n y m : Nat) : Nat := (2 ^ n - 1) - ((2 ^ n - 1) &&& (y ||| m))
/-- How a search ends: truths, a clause, the end, nodes left, lines. -/
structure Sr where
  y : Nat
  m : Nat
  c : List Int
  how : Int
  left : Nat
  lines : List (List Int)
def searchF (n : Nat) (ss : List (Nat × Nat)) (gs : List Int) : Nat → List Int → Nat → Sr
  | 0, _, left => ⟨0, 0, [], 2, left, []⟩
  | _ + 1, _, 0 => ⟨0, 0, [], 2, 0, []⟩
  | d + 1, ds, left + 1 =>
    if (fromN ss (gs ++ ds)).2 = false then
      ⟨(fromN ss (gs ++ ds)).1.1, (fromN ss (gs ++ ds)).1.2, (needF (clashN ss gs) ds.length ds).map fun x => -x, 1, left, [(needF (clashN ss gs) ds.length ds).map fun x => -x]⟩
    else if freeM n (fromN ss (gs ++ ds)).1.1 (fromN ss (gs ++ ds)).1.2 = 0 then ⟨(fromN ss (gs ++ ds)).1.1, (fromN ss (gs ++ ds)).1.2, [], 0, left, []⟩
    else
      let v : Int := Int.ofNat (lowF (freeM n (fromN ss (gs ++ ds)).1.1 (fromN ss (gs ++ ds)).1.2) + 1)
      let s := searchF n ss gs d (ds ++ [-v]) left
      if s.how ≠ 1 ∨ v ∉ s.c then s
      else
        let t := searchF n ss gs d (ds ++ [v]) s.left
        if t.how ≠ 1 ∨ -v ∉ t.c then ⟨t.y, t.m, t.c, t.how, t.left, s.lines ++ t.lines⟩
        else ⟨(fromN ss (gs ++ ds)).1.1, (fromN ss (gs ++ ds)).1.2, (resP s.c t.c v).1, 1, t.left, s.lines ++ t.lines ++ [(resP s.c t.c v).1]⟩
/-- A slice in what is written now. -/
theorem wr_ints {h : Hp} {o : Nat} {p q y m : Nat} (H : h.get o = some (.cells [U p, U q] 102 .fix)) (hw : (h.wr o 0 [U y, U m]).get o = some (.cells [U y, U m] 102 .fix)) {a : Option Addr} {n : Nat} {xs : List Int} (X : IntsAt h a n xs) : IntsAt (h.wr o 0 [U y, U m]) a n xs := by
  refine ⟨X.1, X.2.imp id ?_⟩
  rintro ⟨b, off, c, e, md, h1, h2, h3, h4, h5⟩
  by_cases hb : b = o
  · subst hb
    rw [H] at h3
    injection h3 with h3; injection h3 with h3 h31 h32
    subst h3
    cases xs with
    | nil => exact ⟨b, off, _, _, _, h1, by rw [nx_wr]; exact h2, hw, by simpa using h4, fun i hi => by simp at hi⟩
    | cons x xs =>
      have h6 : ([U p, U q].drop (off + 0 * 1)).take 1 = [.int .i64 x] := h5 0 (by simp)
      simp only [List.length_cons, List.length_nil] at h4
      match off, h4, h6 with
      | 0, _, h6 => cases h6
      | 1, _, h6 => cases h6
      | off + 2, h4, _ => omega
  · exact ⟨b, off, c, e, md, h1, by rw [nx_wr]; exact h2, by rw [wr_get_ne _ _ _ _ hb]; exact h3, h4, h5⟩
theorem rst_wr (g : Hp) (o off : Nat) (vs : List Value) : (g.wr o off vs).rst g = g.wr o off vs := by
  have h1 := gd_wr g o off vs
  generalize g.wr o off vs = w at *
  cases w; cases g
  simp only at h1
  subst h1
  rfl
section
variable {b : Nat} {vars : Int} {a : Option Addr} {n c : Nat} {a1 : Option Addr} {n1 c1 : Nat} {ss : List (Nat × Nat)} {gs : List Int} {left left' : Int} {lines lines' : List (List Int)} {a2 a3 : Option Addr} {n2 c2 n3 c3 : Nat} {h g : Hp}
/-- The truths that are returned are written. -/
theorem exit117 (B0 : Bs b vars a n c a1 n1 c1 ss gs left lines a2 n2 c2 h) (B : Bs b vars a n c a1 n1 c1 ss gs left' lines' a3 n3 c3 g) (N : Nx b a2 h a3 g) {p q y m : Nat} (H : g.get h.nx = some (.cells [U p, U q] 102 .fix)) {ac : Option Addr} {nc : Nat} {cl : List Int} (X : IntsAt g ac nc cl) :
    canW g h.nx 0 [U y, U m] = true ∧ readAt (g.wr h.nx 0 [U y, U m]) h.nx 0 2 = some [U y, U m] ∧ Bs b vars a n c a1 n1 c1 ss gs left' lines' a3 n3 c3 (g.wr h.nx 0 [U y, U m]) ∧ Nx b a2 h a3 (g.wr h.nx 0 [U y, U m]) ∧ IntsAt (g.wr h.nx 0 [U y, U m]) ac nc cl := by
  have gf : g.guarded h.nx = false := guarded_of fun q hq => by rw [N.gd] at hq; have := B0.ok.gd q hq; omega
  have hw := wr_get H (by decide) gf (off := 0) (vs := [U y, U m]) (by simp) rfl
  have hw : (g.wr h.nx 0 [U y, U m]).get h.nx = some (.cells [U y, U m] 102 .fix) := hw
  have nx : (g.wr h.nx 0 [U y, U m]).nx = g.nx := nx_wr ..
  have gd : (g.wr h.nx 0 [U y, U m]).gd = g.gd := gd_wr ..
  have ne : ∀ q, q ≠ h.nx → (g.wr h.nx 0 [U y, U m]).get q = g.get q := fun q hq => wr_get_ne _ _ _ _ hq
  have hb := B0.bn
  obtain ⟨vs, A, L, V⟩ := B.L
  have hl : ∀ q, a3 = some ⟨q, 0, none⟩ → q ≠ h.nx := fun q e eq => by
    rcases A with ⟨e2, _⟩ | ⟨o, e2, _, _, _, _, hg⟩
    · rw [e2] at e; cases e
    · have e3 : q = o := congrArg Addr.block (Option.some.inj (e.symm.trans e2))
      rw [← e3, eq, H] at hg
      injection hg with hg; injection hg with _ _ hg; cases hg
  have t0 := B0.tb.1
  refine ⟨canW_t H (by decide) gf (by simp) rfl, by rw [readAt_get hw (by simp)]; rfl, ⟨⟨fun q hq => by rw [gd] at hq; rw [nx]; exact B.ok.gd q hq, B.ok.fr.wr _ _ _⟩, ⟨by rw [nx]; exact B.tb.1, by rw [ne _ (by omega)]; exact B.tb.2⟩, by rw [nx]; exact B.bn, by rw [ne _ (by omega)]; exact B.get, ?_, B.Sa, wr_ints H hw B.G, B.Ga, ⟨vs, A.keep (fun o _ e => ne o (hl o e)) (Nat.le_of_eq nx.symm), ⟨L.1, fun i hi => ?_⟩, V⟩, fun q hq => B.ug q (by rw [← gd]; exact hq)⟩, ⟨by rw [nx]; exact N.nx, by rw [gd]; exact N.gd, fun f => (N.fr f).wr _ _ _, fun o ho h1 h2 => by rw [ne o (by omega)]; exact N.get o ho h1 h2, N.nw⟩, wr_ints H hw X⟩
  · exact B.S.keep (fun q off e => ne q (by have := SlAt.lt B0.S q off e; omega)) (Nat.le_of_eq nx.symm) fun _ _ h => h
  · obtain ⟨v, hv, a', n', c', e, X'⟩ := L.2 i hi
    exact ⟨v, hv, a', n', c', e, wr_ints H hw X'⟩
end
section
variable {O : CallF} (hO : Oth O)
include hO
variable {b : Nat} {vars : Int} {a : Option Addr} {n c : Nat} {a1 : Option Addr} {n1 c1 : Nat} {ss : List (Nat × Nat)} {gs : List Int} {left left' : Int} {lines lines' : List (List Int)} {a2 a3 : Option Addr} {n2 c2 n3 c3 : Nat} {h g : Hp}
theorem ct137 (B : Bs b vars a n c a1 n1 c1 ss gs left lines a2 n2 c2 h) (hl : lines.length < 1000000) {ac : Option Addr} {nc cc : Nat} {cl : List Int} (X : IntsAt h ac nc cl) (ha : Aw b a2 ac) (hne : ac = none ∨ 0 < nc) :
    Ret Tryd.prog O 137 [.pointer (some ⟨b, 0, none⟩), .slice ac nc cc] h fun v h' => v = .slice ac nc cc ∧ IntsAt h' ac nc cl ∧ ∃ a3 n3 c3, Bs b vars a n c a1 n1 c1 ss gs left (lines ++ [cl]) a3 n3 c3 h' ∧ Nx b a2 h a3 h' ∧ Aw b a3 ac := by
  refine rk137 _ _ _ _ _ (hO _ _ _ (by decide)) ?_
  unfold T137
  obtain ⟨h1, e1, e2, B', N, X', A'⟩ := B.line hl X ha hne (cc := cc)
  refine ⟨_, _, _, read1 B.get (i := 0 + 4) rfl, ?_⟩
  intro g4
  refine ⟨_, _, _, h1, e1, vreq_t e2 ?_⟩
  exact ⟨rfl, X', _, _, _, B', N, A'⟩
/-- A decision more. -/
theorem ct110 {base : Nat} {ad : Option Addr} {nd cd : Nat} {ds : List Int} (A : AccI 3 h base ad nd cd ds) (hl : ds.length < 1000) :
    ∃ cc, EvT O 110 [.slice ad nd cd] h (.slice ad nd cc) h ∧ ∀ x, ∃ h2, appendV Tryd.prog (h.add (.cells [.int .i64 x] 3 .fix)) 32 32 (.slice ad nd cc) (.slice (some ⟨h.nx, 0, none⟩) 1 1) = some (.slice (some ⟨h.nx + 1, 0, none⟩) (nd + 1) unk, h2) ∧ Kp h.nx h h2 ∧ AccI 3 h2 h.nx (some ⟨h.nx + 1, 0, none⟩) (nd + 1) unk (ds ++ [x]) := by
  have hb : big = 4611686018427387904 := rfl
  have hu : unk = 18446744073709551616 := rfl
  have hnx : ∀ x, (h.add (.cells [.int .i64 x] 3 .fix)).nx = h.nx + 1 := fun x => nx_add ..
  have k1 : ∀ x, Kp h.nx h (h.add (.cells [.int .i64 x] 3 .fix)) := fun x => (Kp.refl _ _).add (Nat.le_refl _) _
  have src : ∀ x, srcCells (h.add (.cells [.int .i64 x] 3 .fix)) 1 (.slice (some ⟨h.nx, 0, none⟩) 1 1) = some ([.int .i64 x], 1) := fun x => src_get (n := 1) (c := 1) (esz := 1) (off := 0) (read1 (i := 0) (v := .int .i64 x) (get_add_same ..) rfl)
  obtain ⟨hz, info, z, hi, hzz, hrun⟩ := (app32 : AppT Tryd.prog 32 3 1 8).run
  rcases A with ⟨rfl, rfl, rfl, h4⟩ | ⟨o, rfl, rfl, h3, h4, h5, h6⟩
  · have hds : ds = [] := by simpa using h4
    subst hds
    refine ⟨0, EvC.of_ret (rk110 _ _ _ (hO _ _ _ (by decide)) ?_), fun x => ?_⟩
    · unfold T110
      exact ⟨none, 0, 0, by unfold sliceV; rw [Tryd.underlying32]; simp only [sz3, bind, Option.bind_some]; rfl, rfl, rfl⟩
    · refine ⟨(h.add (.cells [.int .i64 x] 3 .fix)).add (.cells ([] ++ [.int .i64 x]) 3 .grow), ?_, (k1 x).add (by rw [hnx]; omega) _, .inr ⟨h.nx + 1, rfl, rfl, rfl, by omega, by rw [nx_add, hnx]; omega, ?_⟩⟩
      · rw [hrun _ _ _ ⟨_, _, _, rfl⟩, src x]
        rfl
      · rw [← hnx x]; exact get_add_same ..
  · have hn : nd = ds.length := by simpa using h3
    have hcl : (ds.map (Value.int .i64)).length = ds.length := List.length_map ..
    obtain ⟨off, e1, e2⟩ := slice_m (n := nd) (l := 0) (hh := nd) h6 (lo := none) (hi := some (.int .i64 (Int.ofNat nd))) (mx := some (.int .i64 (Int.ofNat nd))) (bound_i (by omega)) ⟨_, rfl⟩ rfl (bound_i (Nat.le_refl _)) (by omega)
    obtain rfl := e2 rfl
    refine ⟨nd, EvC.of_ret (rk110 _ _ _ (hO _ _ _ (by decide)) ?_), fun x => ?_⟩
    · unfold T110
      exact ⟨_, _, _, e1, rfl, rfl⟩
    · refine ⟨(h.add (.cells [.int .i64 x] 3 .fix)).add (.cells (ds.map (Value.int .i64) ++ [.int .i64 x]) 3 .grow), ?_, (k1 x).add (by rw [hnx]; omega) _, .inr ⟨h.nx + 1, rfl, rfl, by simp; omega, by omega, by rw [nx_add, hnx]; omega, ?_⟩⟩
      · rw [hrun _ _ _ ⟨_, _, _, rfl⟩, src x]
        simp only [Option.bind_some, show ([Value.int .i64 x].all one) = true from rfl, cond_true, show Nat.beq 1 0 = false from rfl, cond_false]
        have hg : (h.add (.cells [.int .i64 x] 3 .fix)).get o = some (.cells (ds.map (Value.int .i64)) 3 .grow) := by rw [get_add_ne (by omega)]; exact h6
        unfold appSome
        have b1 : Nat.beq nd unk = false := by rw [Bool.eq_false_iff]; intro hh; have := Nat.eq_of_beq_eq_true hh; omega
        have b2 : Nat.ble (nd + 1) nd = false := by rw [Bool.eq_false_iff]; intro hh; have hh : nd + 1 ≤ nd := (by simpa using hh); omega
        simp only [hg, b1, b2, cond_false]
        rw [readAt_get hg (by omega), List.drop_zero, Nat.mul_one, List.take_of_length_le (by omega), Option.bind_some]
        unfold appNew
        rw [ble_t (by omega), blt_t (by omega), hnx]
        rfl
      · rw [← hnx x, get_add_same, List.map_append]; rfl
theorem ct96E {h : Hp} (ok : h.Ok) {a0 : Option Addr} {n0 c0 : Nat} {l : List Int} (X : IntsAt h a0 n0 l) (hl : l.length < 50) (hlit : ∀ x ∈ l, Lit x) (hd : Dif l) : Ret Tryd.prog O 96 [.slice a0 n0 c0] h (RIntsE h (l.map fun x => -x)) := by
  cases l with
  | nil =>
    have hn : n0 = 0 := X.1
    refine rk96 _ _ _ (hO _ _ _ (by decide)) ?_
    unfold T96
    refine I96_0.of _ _ _ _ _ _ _ ?_
    intros
    unfold T96_0
    obtain ⟨v, h2, e2, rfl, K2⟩ := ct74 hO (SlAt.nil 1 EInt h) (l := []) (by simp) (by simp) List.Pairwise.nil (c0 := 0)
    exact vcond_f (by rw [hn]; rfl) ⟨_, e2, none, 0, 0, rfl, SlAt.nil .., K2, (fun _ _ e => by cases e), .inl rfl⟩
  | cons x xs =>
    obtain ⟨v, h', e, a, n, c, rfl, X', K, F⟩ := ct96 hO ok X hl hlit hd (c0 := c0)
    exact ⟨_, h', e, a, n, c, rfl, X', K, F, .inr (by rw [X'.1]; simp)⟩
end
end Go.Proofs.YtfgfhplgnfbaaaaDoor
/- The walk of search: one of the two branches. -/
namespace Go.Proofs.YtfgfhplgnfbaaaaDoor
open Go Go.Ev
theorem needF_sub (cl : List Int → Bool) : ∀ (i : Nat) (out : List Int), (needF cl i out).Sublist out := by
  intro i
  induction i with
  | zero => intro out; exact List.Sublist.refl _
  | succ i ih =>
    intro out
    unfold needF
    split
    · exact (ih _).trans (List.eraseIdx_sublist ..)
    · exact ih _
theorem litsN_len (y m : Nat) : (litsN y m).length ≤ 30 := by
  unfold litsN digits
  rw [List.length_map]
  exact Nat.le_trans (List.length_filter_le _ _) (by simp)
theorem resP_len (xs ys : List Int) (v : Int) : (resP xs ys v).1.length ≤ 30 := by
  unfold resP
  split
  · simp
  · split
    · simp
    · unfold fin38
      split
      · exact litsN_len _ _
      · simp
/-- Decisions that are proper. -/
structure Dec (N : Nat) (ss : List (Nat × Nat)) (gs : List Int) (Dc : List Int → Prop) : Prop where
  ok : ∀ ds, Dc ds → ds.length ≤ N ∧ (∀ x ∈ ds, Lit x) ∧ Dif ds
  more : ∀ ds, Dc ds → (fromN ss (gs ++ ds)).2 = true → freeM N (fromN ss (gs ++ ds)).1.1 (fromN ss (gs ++ ds)).1.2 ≠ 0 → Dc (ds ++ [-(Int.ofNat (lowF (freeM N (fromN ss (gs ++ ds)).1.1 (fromN ss (gs ++ ds)).1.2) + 1))]) ∧ Dc (ds ++ [Int.ofNat (lowF (freeM N (fromN ss (gs ++ ds)).1.1 (fromN ss (gs ++ ds)).1.2) + 1)])
theorem searchF_ok {N : Nat} {ss : List (Nat × Nat)} {gs : List Int} {Dc : List Int → Prop} (D : Dec N ss gs Dc) (hN : N ≤ 30) : ∀ (d : Nat) {ds : List Int} {left : Nat}, Dc ds → (searchF N ss gs d ds left).c.length < 1000 ∧ (searchF N ss gs d ds left).lines.length + (searchF N ss gs d ds left).left ≤ left := by
  intro d
  induction d with
  | zero => intro ds left _; exact ⟨by simp [searchF], by simp [searchF]⟩
  | succ d ih =>
    intro ds left hD
    cases left with
    | zero => exact ⟨by simp [searchF], by simp [searchF]⟩
    | succ left =>
      have hl := (D.ok ds hD).1
      have hs := (needF_sub (clashN ss gs) ds.length ds).length_le
      unfold searchF
      split
      · exact ⟨by simp; omega, by simp; omega⟩
      · rename_i h1
        split
        · exact ⟨by simp, by simp⟩
        · rename_i h2
          obtain ⟨p1, p2⟩ := D.more ds hD (by simpa using h1) h2
          have q1 := ih (left := left) p1
          have q2 := ih (left := (searchF N ss gs d (ds ++ [-(Int.ofNat (lowF (freeM N (fromN ss (gs ++ ds)).1.1 (fromN ss (gs ++ ds)).1.2) + 1))]) left).left) p2
          simp only
          split
          · exact ⟨q1.1, by omega⟩
          · split
            · exact ⟨q2.1, by simp only [List.length_append]; omega⟩
            · exact ⟨Nat.lt_of_le_of_lt (resP_len _ _ _) (by decide), by simp only [List.length_append, List.length_singleton]; omega⟩
section
variable {b : Nat} {vars : Int} {a : Option Addr} {n c : Nat} {a1 : Option Addr} {n1 c1 : Nat} {ss : List (Nat × Nat)} {gs : List Int} {left left' : Int} {lines lines' : List (List Int)} {a2 a3 : Option Addr} {n2 c2 n3 c3 : Nat} {h g g' : Hp}
theorem Bs.nefix (B : Bs b vars a n c a1 n1 c1 ss gs left lines a2 n2 c2 h) {o : Nat} {cs : List Value} {e : TypeId} (H : h.get o = some (.cells cs e .fix)) : a2 ≠ some ⟨o, 0, none⟩ := by
  obtain ⟨vs, A, _, _⟩ := B.L
  intro e1
  rcases A with ⟨e2, _⟩ | ⟨p, e2, _, _, _, _, hg⟩
  · rw [e2] at e1; cases e1
  · have e3 : o = p := congrArg Addr.block (Option.some.inj (e1.symm.trans e2))
    rw [← e3, H] at hg
    injection hg with hg; injection hg with _ _ hg; cases hg
/-- A list of slices goes: lists of numbers stay. -/
theorem ints_app {ab : Option Addr} {e : TypeId} (k : AppK g g' ab) (hab : ∀ o, ab = some ⟨o, 0, none⟩ → ∃ vs, g.get o = some (.cells vs e .grow) ∧ ∀ v ∈ vs, ∃ a n c, v = Value.slice a n c) {ac : Option Addr} {nc : Nat} {cl : List Int} (X : IntsAt g ac nc cl) (hne : ac = none ∨ 0 < nc) : IntsAt g' ac nc cl := by
  refine ⟨X.1, X.2.imp id ?_⟩
  rintro ⟨q, off, cs, e, m, h1, h2, h3, h4, h5⟩
  refine ⟨q, off, cs, e, m, h1, Nat.lt_of_lt_of_le h2 k.nx, ?_, h4, h5⟩
  by_cases hq : ab = some ⟨q, 0, none⟩
  · exfalso
    obtain ⟨vs, hg, hv⟩ := hab q hq
    rw [h3] at hg; injection hg with hg; injection hg with hg _ _; subst hg
    have hn : 0 < nc := by
      rcases hne with hne | hne
      · rw [hne] at h1; cases h1
      · exact hne
    have hx := X.1
    have h6 : (cs.drop (off + 0 * 1)).take 1 = [.int .i64 cl[0]] := h5 0 (by omega)
    rw [Nat.zero_mul, Nat.add_zero] at h6
    have h7 : cs[off]? = some (.int .i64 cl[0]) := by
      have : ((cs.drop off).take 1)[0]? = some (.int .i64 cl[0]) := by rw [h6]; rfl
      simpa using this
    obtain ⟨_, _, _, e9⟩ := hv _ (List.mem_of_getElem? h7)
    cases e9
  · rw [k.get q h2 hq]; exact h3
theorem Bs.app (B0 : Bs b vars a n c a1 n1 c1 ss gs left lines a2 n2 c2 h) (B : Bs b vars a n c a1 n1 c1 ss gs left' lines' a3 n3 c3 g) (N : Nx b a2 h a3 g) {ab : Option Addr} {e : TypeId} (k : AppK g g' ab)
    (hn : ∀ o, ab = some ⟨o, 0, none⟩ → h.nx ≤ o) (ha : Aw b a3 ab) (hab : ∀ o, ab = some ⟨o, 0, none⟩ → ∃ vs, g.get o = some (.cells vs e .grow) ∧ ∀ v ∈ vs, ∃ a n c, v = Value.slice a n c) :
    Bs b vars a n c a1 n1 c1 ss gs left' lines' a3 n3 c3 g' ∧ Nx b a2 h a3 g' := by
  have old : ∀ q, q < h.nx → g'.get q = g.get q := fun q hq => k.get q (Nat.lt_of_lt_of_le hq N.nx) fun e => by have := hn q e; omega
  obtain ⟨vs, A, L, V⟩ := B.L
  refine ⟨⟨⟨fun q hq => by rw [k.gd] at hq; exact Nat.lt_of_lt_of_le (B.ok.gd q hq) k.nx, k.fr B.ok.fr⟩, ⟨Nat.lt_of_lt_of_le B.tb.1 k.nx, by rw [old 0 B0.tb.1]; exact B.tb.2⟩, Nat.lt_of_lt_of_le B.bn k.nx, by rw [old b B0.bn]; exact B.get, B.S.keep (fun q off e => old q (SlAt.lt B0.S q off e)) k.nx fun _ _ h => h, B.Sa, B.G.keep (fun q off e => old q (SlAt.lt B0.G q off e)) k.nx fun _ _ h => h, B.Ga, ⟨vs, A.keep (fun o ho e => k.get o ho fun e2 => (ha o 0 e2).2 e) k.nx, ⟨L.1, fun i hi => ?_⟩, V⟩, fun q hq => B.ug q (by rw [← k.gd]; exact hq)⟩, ⟨Nat.le_trans N.nx k.nx, k.gd.trans N.gd, fun f => k.fr (N.fr f), fun o ho h1 h2 => by rw [old o ho]; exact N.get o ho h1 h2, N.nw⟩⟩
  obtain ⟨v, hv, a', n', c', e, X'⟩ := L.2 i hi
  exact ⟨v, hv, a', n', c', e, ints_app k hab X' (V v (List.mem_of_getElem? hv) a' n' c' (by simpa using e)).2⟩
/-- What a search leaves behind. -/
def SPost (b : Nat) (vars : Int) (a : Option Addr) (n c : Nat) (a1 : Option Addr) (n1 c1 : Nat) (ss : List (Nat × Nat)) (gs : List Int) (a2 : Option Addr) (h : Hp) (lines : List (List Int)) (r : Sr) : Value → Hp → Prop := fun v h' =>
  ∃ ac nc cc, v = .tuple #[.agg #[U r.y, U r.m], .slice ac nc cc, .int .i64 r.how] ∧ IntsAt h' ac nc r.c ∧ ∃ a3 n3 c3, Bs b vars a n c a1 n1 c1 ss gs (Int.ofNat r.left) (lines ++ r.lines) a3 n3 c3 h' ∧ Nx b a2 h a3 h' ∧ Aw b a3 ac
/-- A search of some depth does as it should. -/
def SOk (O : CallF) (b : Nat) (N : Nat) (a : Option Addr) (n c : Nat) (a1 : Option Addr) (n1 c1 : Nat) (ss : List (Nat × Nat)) (gs : List Int) (Dc : List Int → Prop) (d : Nat) : Prop :=
  ∀ {ds : List Int} {left : Nat} {lines : List (List Int)} {h : Hp} {a2 : Option Addr} {n2 c2 : Nat} {ad : Option Addr} {nd cd base : Nat}, Dc ds → N + 1 ≤ ds.length + d → lines.length + left ≤ 100000 →
    Bs b (Int.ofNat N) a n c a1 n1 c1 ss gs (Int.ofNat left) lines a2 n2 c2 h → AccI 3 h base ad nd cd ds → Aw b a2 ad →
    Ret Tryd.prog O 117 [.pointer (some ⟨b, 0, none⟩), .slice ad nd cd] h (SPost b (Int.ofNat N) a n c a1 n1 c1 ss gs a2 h lines (searchF N ss gs d ds left))
end
section
variable {O : CallF} (hO : Oth O)
include hO
theorem it117 {b N : Nat} {a : Option Addr} {n c : Nat} {a1 : Option Addr} {n1 c1 : Nat} {ss : List (Nat × Nat)} {gs : List Int} {Dc : List Int → Prop} (D : Dec N ss gs Dc) (hN : N ≤ 30) {d : Nat} (IH : SOk O b N a n c a1 n1 c1 ss gs Dc d)
    {left0 : Int} {left1 : Nat} {lines0 L : List (List Int)} {a2 a3 : Option Addr} {n2 c2 n3 c3 : Nat} {h g : Hp} (B0 : Bs b (Int.ofNat N) a n c a1 n1 c1 ss gs left0 lines0 a2 n2 c2 h) (B : Bs b (Int.ofNat N) a n c a1 n1 c1 ss gs (Int.ofNat left1) (lines0 ++ L) a3 n3 c3 g) (N0 : Nx b a2 h a3 g)
    (hll : (lines0 ++ L).length + left1 ≤ 100000) {p q : Nat} (H : g.get h.nx = some (.cells [U p, U q] 102 .fix)) (hRg : h.nx < g.nx) {ds : List Int} {ad : Option Addr} {nd cd base : Nat} (A : AccI 3 h base ad nd cd ds) (hda : Aw b a2 ad)
    {ol : Nat} {v0 v1 v : Int} {k : Nat} (hk : k < 2) (hol : ol < g.nx) (HL : g.get ol = some (.cells [.int .i64 v0, .int .i64 v1] 3 .fix)) {x : Int} (hx : [v0, v1][k]? = some x) (lx : Lit x) (hD : Dc (ds ++ [x])) (hd : N + 1 ≤ ds.length + 1 + d) (hdl : ds.length < 1000)
    {ab : Option Addr} {nb cb : Nat} {vs : List Value} (AB : Acc g 0 32 1 ab nb cb vs) (hab : Aw b a3 ab) (hbn : ∀ o, ab = some ⟨o, 0, none⟩ → h.nx < o) (hvs : ∀ v ∈ vs, ∃ a n c, v = Value.slice a n c) (hnb : nb ≤ 2) {t : Nat} {r s : Sr} (hs : s = searchF N ss gs d (ds ++ [x]) left1)
    (exitR : (s.how ≠ 1 ∨ -x ∉ s.c) → r = ⟨s.y, s.m, s.c, s.how, s.left, L ++ s.lines⟩)
    (next : s.how = 1 → -x ∈ s.c → ∀ (g' : Hp) (a4 : Option Addr) (n4 c4 : Nat) (ac : Option Addr) (nc cc : Nat) (o' : Nat), Bs b (Int.ofNat N) a n c a1 n1 c1 ss gs (Int.ofNat s.left) (lines0 ++ (L ++ s.lines)) a4 n4 c4 g' → Nx b a2 h a4 g' → g.nx ≤ g'.nx →
      (∀ o, o < g.nx → o ≠ b → a3 ≠ some ⟨o, 0, none⟩ → ab ≠ some ⟨o, 0, none⟩ → g'.get o = g.get o) → Acc g' 0 32 1 (some ⟨o', 0, none⟩) (nb + 1) unk (vs ++ [.slice ac nc cc]) → g.nx ≤ o' → Aw b a4 (some ⟨o', 0, none⟩) → IntsAt g' ac nc s.c → Aw b a4 ac →
      (∀ ax nx' xs, IntsAt g ax nx' xs → Aw b a3 ax → 0 < nx' → IntsAt g' ax nx' xs ∧ Aw b a4 ax) →
      I117_0 O (SPost b (Int.ofNat N) a n c a1 n1 c1 ss gs a2 h lines0 r) b 0 ad nd cd h.nx 0 none 0 0 0 t 0 v (some ⟨o', 0, none⟩) (nb + 1) unk (some ⟨ol, 0, none⟩) 2 2 (Int.ofNat (k + 1)) g') :
    I117_0 O (SPost b (Int.ofNat N) a n c a1 n1 c1 ss gs a2 h lines0 r) b 0 ad nd cd h.nx 0 none 0 0 0 t 0 v ab nb cb (some ⟨ol, 0, none⟩) 2 2 (Int.ofNat k) g := by
  refine I117_0.of (hh := ?_) ..
  unfold T117_0
  have LT : IntsAt g (some ⟨ol, 0, none⟩) 2 [v0, v1] := ints_of_get (xs := [v0, v1]) HL hol (by simp) fun i hi => by
    match i, hi with
    | 0, _ => rfl
    | 1, _ => rfl
  have hxk : [v0, v1][k]'(by simpa using hk) = x := (List.getElem?_eq_some_iff.1 hx).2
  have hx2 := lx.2
  refine vcond_t (by rw [show (2 : Int) = Int.ofNat 2 from rfl, ltI_nat]; exact blt_t hk) (isNat_i (LT.rd (k := k) (by simpa using hk) ?_))
  rw [hxk]
  have Ag : AccI 3 g base ad nd cd ds := A.keep (fun o ho e => N0.get o ho (hda o 0 e).1 (hda o 0 e).2) N0.nx
  obtain ⟨cc', e110, app⟩ := ct110 hO Ag hdl
  obtain ⟨h113, e113, K113, A113⟩ := app x
  refine ⟨_, _, _, g, e110, ?_⟩
  intro g109
  refine ⟨_, _, _, h113, e113, ?_⟩
  have hb := B.bn
  have aw1 : Aw b a3 (some ⟨g.nx + 1, 0, none⟩) := fun q off e => by
    injection e with e; injection e with e _
    refine ⟨by omega, fun e2 => ?_⟩
    have := (B.L.lt _ e2).2; omega
  obtain ⟨v, h120, e120, ax, nx', cx, rfl, X120, a4, n4, c4, B120, N120, A120⟩ := IH hD (by simp; omega) hll (B.kp K113) A113 aw1
  rw [← hs] at e120 X120 B120
  have sok := searchF_ok D hN d (left := left1) hD
  rw [← hs] at sok
  refine ⟨_, _, _, _, _, _, h120, e120, ?_⟩
  intro g121
  have B0gd : ∀ q ∈ h120.gd, q < h.nx := fun q hq => by
    rw [N120.gd, K113.gd, N0.gd] at hq; exact B0.ok.gd q hq
  have n120 : g.nx ≤ h120.nx := Nat.le_trans K113.nx N120.nx
  have gf : g121.guarded h120.nx = false := guarded_of fun q hq => by have := B0gd q hq; omega
  have gs121 : g121.get h120.nx = some (.cells [U 0, U 0] 102 .fix) := get_add_same ..
  refine vreq_t (canW_t gs121 (by decide) gf (by simp) rfl) ?_
  intro g122
  have K122 : Kp h120.nx h120 g122 := ((Kp.refl _ _).add (Nat.le_refl _) _).wr (Nat.le_refl _) _ _
  have B122 := B120.kp K122
  have H122 : g122.get h120.nx = some (.cells [U s.y, U s.m] 102 .fix) := wr_get gs121 (by decide) gf (by simp) rfl
  have keep : ∀ o, o < g.nx → o ≠ b → a3 ≠ some ⟨o, 0, none⟩ → g122.get o = g.get o := fun o ho h1 h2 => by
    rw [K122.get o (by omega), N120.get o (Nat.lt_of_lt_of_le ho K113.nx) h1 h2, K113.get o ho]
  have N122 : Nx b a3 g a4 g122 := ((Nx.of K113).trans N120).trans (.of K122)
  have NH : Nx b a2 h a4 g122 := N0.trans N122
  have hRb : h.nx ≠ b := by have := B0.bn; omega
  have HR : g122.get h.nx = some (.cells [U p, U q] 102 .fix) := by rw [keep _ hRg hRb (B.nefix H)]; exact H
  have X122 : IntsAt g122 ax nx' s.c := X120.up EInt.up K122
  rw [List.append_assoc] at B122
  have rd : readAt g122 h120.nx 0 2 = some [U s.y, U s.m] := by rw [readAt_get H122 (by simp)]; rfl
  obtain ⟨x1, x2, x3, x4, x5⟩ := exit117 B0 B122 NH HR (y := s.y) (m := s.m) X122
  refine vcond_split (fun h1 => ?_) fun h1 => ?_
  · have hr := exitR (.inl fun e => by rw [e] at h1; cases h1)
    refine ⟨_, _, rd, vreq_t x1 ?_⟩
    exact ⟨_, _, x2, by rw [hr]; exact ⟨_, _, _, rfl, x5, _, _, _, x3, x4, A120⟩⟩
  · have h1 : s.how = 1 := eq_of_t (by simpa using h1)
    rw [show wrapF .i64 (0 - x) = -x by rw [wrap64 (by omega) (by omega)]; omega]
    refine ⟨_, g122, ct62 hO (-x) X122 (by omega), ?_⟩
    refine vcond_split (fun h2 => ?_) fun h2 => ?_
    · have hr := exitR (.inr (by simpa using h2))
      refine ⟨_, _, rd, vreq_t x1 ?_⟩
      exact ⟨_, _, x2, by rw [hr]; exact ⟨_, _, _, rfl, x5, _, _, _, x3, x4, A120⟩⟩
    · have hmem : -x ∈ s.c := by simpa using h2
      have hpos : 0 < nx' := by rw [X122.1]; exact List.length_pos_of_mem hmem
      intro g135
      have K135 : Kp g122.nx g122 g135 := (Kp.refl _ _).add (Nat.le_refl _) _
      have g135nx : g135.nx = g122.nx + 1 := nx_add ..
      have B135 := B122.kp K135
      have abl : ∀ o, ab = some ⟨o, 0, none⟩ → o < g.nx := fun o e => (AB.lt e).2
      have g122nx : h120.nx + 1 = g122.nx := by rw [show g122.nx = g121.nx from nx_wr ..]; rfl
      have AB135 : Acc g135 0 32 1 ab nb cb vs := AB.keep (fun o ho e => by rw [K135.get o (by omega), keep o ho (hab o 0 e).1 (hab o 0 e).2]) (by omega)
      have gab : ∀ o, ab = some ⟨o, 0, none⟩ → g135.guarded o = false := fun o e => guarded_of fun q hq => by
        rw [K135.gd, K122.gd] at hq
        have := B0gd q hq; have := hbn o e; omega
      obtain ⟨h139, e139, A139, K139⟩ := append_f app28 AB135 (Nat.zero_le _) gab ⟨_, _, _, rfl⟩ (src_get (n := 1) (c := 1) (esz := 1) (off := 0) (read1 (i := 0) (v := .slice ax nx' cx) (get_add_same ..) rfl)) rfl (by omega) (by unfold big; omega)
      refine ⟨_, _, _, h139, e139, ?_⟩
      rw [wrap_succ (by omega)]
      have habg : ∀ o, ab = some ⟨o, 0, none⟩ → ∃ vs, g135.get o = some (.cells vs 32 .grow) ∧ ∀ v ∈ vs, ∃ a n c, v = Value.slice a n c := fun o e => by
        rcases AB135 with ⟨e2, _⟩ | ⟨p, e2, _, _, _, _, hg⟩
        · rw [e2] at e; cases e
        · have e3 : o = p := congrArg Addr.block (Option.some.inj (e.symm.trans e2))
          exact ⟨vs, by rw [e3]; exact hg, hvs⟩
      have hab4 : Aw b a4 ab := N122.aw hab fun q off e => by
        rcases AB with ⟨e2, _⟩ | ⟨p, e2, _, _, _, h5, _⟩
        · rw [e2] at e; cases e
        · have e3 : q = p := congrArg Addr.block (Option.some.inj (e.symm.trans e2))
          omega
      have NH135 : Nx b a2 h a4 g135 := NH.trans (.of K135)
      obtain ⟨Bf, Nf⟩ := Bs.app B0 B135 NH135 K139 (fun o e => Nat.le_of_lt (hbn o e)) hab4 habg
      have X135 : IntsAt g135 ax nx' s.c := X122.up EInt.up K135
      have awo : Aw b a4 (some ⟨g135.nx, 0, none⟩) := fun q off e => by
        injection e with e; injection e with e _
        have := B135.bn
        refine ⟨by omega, fun e2 => ?_⟩
        have := (B135.L.lt _ e2).2; omega
      have f139 := K139.nx
      refine next h1 hmem h139 a4 n4 c4 ax nx' cx g135.nx Bf Nf (by omega) (fun o ho u1 u2 u3 => ?_) A139 (by omega) awo (ints_app K139 habg X135 (.inr hpos)) A120 fun ay ny ys Y ya yp => ?_
      · rw [K139.get o (by omega) u3, K135.get o (by omega), keep o ho u1 u2]
      · have Y122 := N122.ints Y ya
        exact ⟨ints_app K139 habg (Y122.up EInt.up K135) (.inr yp), N122.aw ya (SlAt.lt Y)⟩
end
end Go.Proofs.YtfgfhplgnfbaaaaDoor
/- The walk of search: a node. -/
namespace Go.Proofs.YtfgfhplgnfbaaaaDoor
open Go Go.Ev
theorem freeM_lt {N y m : Nat} (hN : N ≤ 30) : freeM N y m < 2 ^ 30 := by
  have h1 : 2 ^ N ≤ 2 ^ 30 := Nat.pow_le_pow_right (by decide) hN
  have h2 : 0 < 2 ^ N := Nat.pow_pos (by decide)
  unfold freeM
  omega
theorem lowF_spec {u : Nat} (h0 : u ≠ 0) (hu : u < 2 ^ 30) : ∃ j, u = 2 ^ (lowF u + 1) * j + 2 ^ lowF u ∧ lowF u < 30 := by
  obtain ⟨k, j, rfl⟩ := low_split u (Nat.pos_of_ne_zero h0)
  have hk : k < 30 := by
    rcases Nat.lt_or_ge k 30 with h1 | h1
    · exact h1
    · have := Nat.pow_le_pow_right (n := 2) (by decide) h1; omega
  have : lowF (2 ^ (k + 1) * j + 2 ^ k) = k := by unfold lowF; rw [digits_step hk]; rfl
  rw [this]
  exact ⟨j, rfl, hk⟩
theorem shl_pow {N : Nat} (hN : N ≤ 30) : wrapF .u32 (shlF .u32 1 N - 1) = Int.ofNat (2 ^ N - 1) := by
  have hN : N < 31 := by omega
  revert N
  decide +kernel
section
variable {O : CallF} (hO : Oth O)
include hO
theorem ct117 {b N : Nat} {a : Option Addr} {n c : Nat} {a1 : Option Addr} {n1 c1 : Nat} {ss : List (Nat × Nat)} {gs : List Int} {Dc : List Int → Prop} (D : Dec N ss gs Dc) (hN : N ≤ 30) (hl : ss.length < 1000000) (hss : ∀ p ∈ ss, p.1 < 2 ^ 30 ∧ p.2 < 2 ^ 30) (hgl : gs.length < 1000000) (hg : ∀ x ∈ gs, Lit x) : ∀ d, SOk O b N a n c a1 n1 c1 ss gs Dc d := by
  intro d
  induction d with
  | zero => intro ds left lines h a2 n2 c2 ad nd cd base hD hd; have := (D.ok ds hD).1; omega
  | succ d ih =>
    intro ds left lines h a2 n2 c2 ad nd cd base hD hd hll B A hda
    obtain ⟨dl, dlit, ddif⟩ := D.ok ds hD
    generalize hS : searchF N ss gs (d + 1) ds left = r
    refine rk117 _ _ _ _ _ (hO _ _ _ (by decide)) ?_
    unfold T117
    intro g1
    have K1 : Kp h.nx h g1 := (Kp.refl _ _).add (Nat.le_refl _) _
    have B1 := B.kp K1
    have g1nx : g1.nx = h.nx + 1 := nx_add ..
    have hR : g1.get h.nx = some (.cells [U 0, U 0] 102 .fix) := get_add_same ..
    have hb := B.bn
    have hRb : h.nx ≠ b := by omega
    have hR2 : a2 ≠ some ⟨h.nx, 0, none⟩ := fun e => by have := (B.L.lt _ e).2; omega
    refine ⟨_, read1 B1.get (i := 0 + 3) rfl, ?_⟩
    cases left with
    | zero =>
      subst hS
      obtain ⟨x1, x2, x3, x4, _⟩ := exit117 B B1 (.of K1) hR (y := 0) (m := 0) (SlAt.nil 1 EInt g1)
      refine vcond_t rfl (vreq_t x1 ?_)
      exact ⟨_, _, x2, _, _, _, rfl, SlAt.nil .., a2, n2, c2, by rw [show (searchF N ss gs (d + 1) ds 0).lines = [] from rfl, List.append_nil]; exact x3, x4, (Aw.none _ _)⟩
    | succ left =>
      unfold searchF at hS
      refine vcond_f rfl ⟨_, read1 B1.get (i := 0 + 3) rfl, ?_⟩
      rw [show wrapF .i64 (Int.ofNat (left + 1) - 1) = Int.ofNat left by rw [wrap64 (by simp only [Int.ofNat_eq_natCast]; omega) (by simp only [Int.ofNat_eq_natCast]; omega)]; simp only [Int.ofNat_eq_natCast]; omega]
      obtain ⟨y1, B7, N7⟩ := B1.count (Int.ofNat left)
      refine vreq_t y1 ?_
      intro g7
      have X1 : IntsAt g1 ad nd ds := A.ints.up EInt.up K1
      have X7 : IntsAt g7 ad nd ds := N7.ints X1 hda
      obtain ⟨v11, h11, e11, rfl, K11⟩ := ct89 hO B7.ok B7.get B7.bn B7.S hl hss B7.G hgl hg X7 (by omega) dlit (cm := cd)
      obtain ⟨ly, lm⟩ := fromN_lt hss (xs := gs ++ ds) (fun x hx => by
        rcases List.mem_append.1 hx with hx | hx
        · exact hg x hx
        · exact dlit x hx)
      have dmore := D.more ds hD
      generalize fromN ss (gs ++ ds) = R at *
      obtain ⟨⟨y, m⟩, fq⟩ := R
      simp only at ly lm dmore hS e11
      refine ⟨_, _, _, h11, e11, ?_⟩
      intro g12
      have B11 := B7.kp K11
      have K12 : Kp h11.nx h11 g12 := (Kp.refl _ _).add (Nat.le_refl _) _
      have gf12 : g12.guarded h11.nx = false := guarded_of fun q hq => by have := B11.ok.gd q hq; omega
      have gs12 : g12.get h11.nx = some (.cells [U 0, U 0] 102 .fix) := get_add_same ..
      refine vreq_t (canW_t gs12 (by decide) gf12 (by simp) rfl) ?_
      intro g13
      have K13 : Kp h11.nx h11 g13 := K12.wr (Nat.le_refl _) _ _
      have B13 := B11.kp K13
      have ht13 : g13.get h11.nx = some (.cells [U y, U m] 102 .fix) := wr_get gs12 (by decide) gf12 (by simp) rfl
      have g13nx : g13.nx = h11.nx + 1 := (nx_wr ..).trans (nx_add ..)
      have N13 : Nx b a2 g1 a2 g13 := (N7.trans (.of K11)).trans (.of K13)
      have n11 : g1.nx ≤ h11.nx := Nat.le_trans N7.nx K11.nx
      have X13 : IntsAt g13 ad nd ds := N13.ints X1 hda
      refine vcond_split (fun hq => ?_) fun hq => ?_
      · -- it clashes
        have hq : fq = false := by simpa using hq
        subst hq
        rw [if_pos rfl] at hS
        intro g14
        have K14 : Kp g13.nx g13 g14 := (Kp.refl _ _).rsv 11
        have B14 := B13.kp K14
        have g14nx : g14.nx = g13.nx + 11 := rfl
        have ht14 : g14.get h11.nx = some (.cells [U y, U m] 102 .fix) := ht13
        have htb : h11.nx ≠ b ∧ a2 ≠ some ⟨h11.nx, 0, none⟩ := ⟨by omega, B13.nefix ht13⟩
        refine ⟨_, _, by rw [readAt_get ht14 (by simp)]; rfl, ?_⟩
        have Bg14 := B14.grd (l := [h11.nx]) fun q hq => by rw [List.mem_singleton] at hq; subst hq; exact ⟨by omega, htb⟩
        have X14 : IntsAt (g14.grd [h11.nx]) ad nd ds := X13.keep (fun _ _ _ => rfl) (by show g13.nx ≤ g13.nx + 11; omega) fun _ _ h => h
        obtain ⟨v20, h20, e20, a17, n18, c19, rfl, Y20, K20⟩ := ct97 hO Bg14.ok Bg14.get Bg14.bn Bg14.S hl hss Bg14.G hgl hg X14 (by omega) dlit (cm := cd)
        refine ⟨_, _, _, h20, e20, ?_⟩
        intro g21
        have B21 : Bs b (Int.ofNat N) a n c a1 n1 c1 ss gs (Int.ofNat left) lines a2 n2 c2 g21 := B14.rst (Bg14.kp K20) (.of K20)
        have N21 : Nx b a2 g14 a2 g21 := Nx.rst (.of K20)
        have g21nx : g21.nx = h20.nx := rfl
        have n20 : g14.nx ≤ h20.nx := K20.nx
        have Bg21 := B21.grd (l := [h11.nx]) fun q hq => by rw [List.mem_singleton] at hq; subst hq; exact ⟨by omega, htb⟩
        have Y21 : IntsAt (g21.grd [h11.nx]) a17 n18 (needF (clashN ss gs) ds.length ds) := Y20.keep (fun _ _ _ => rfl) (Nat.le_refl _) fun _ _ h => h
        have sub := needF_sub (clashN ss gs) ds.length ds
        obtain ⟨v25, h25, e25, a22, n23, c24, rfl, Z25, K25, F25, E25⟩ := ct96E hO Bg21.ok Y21 (by have := sub.length_le; omega) (fun x hx => dlit x (sub.subset hx)) (List.Pairwise.sublist sub ddif) (c0 := c19)
        refine ⟨_, _, _, h25, e25, ?_⟩
        intro g26
        have B26 : Bs b (Int.ofNat N) a n c a1 n1 c1 ss gs (Int.ofNat left) lines a2 n2 c2 g26 := B21.rst (Bg21.kp K25) (.of K25)
        have N26 : Nx b a2 g21 a2 g26 := Nx.rst (.of K25)
        have n25 : g21.nx ≤ g26.nx := K25.nx
        have Bg26 := B26.grd (l := [h11.nx]) fun q hq => by rw [List.mem_singleton] at hq; subst hq; exact ⟨by omega, htb⟩
        have Z26 : IntsAt (g26.grd [h11.nx]) a22 n23 _ := Z25.keep (fun _ _ _ => rfl) (Nat.le_refl _) fun _ _ h => h
        have F25' : ∀ q off, a22 = some ⟨q, off, none⟩ → g21.nx ≤ q := F25
        have W : Aw b a2 a22 := fun q off e => by
          have h1 := F25' q off e
          exact ⟨by omega, fun e2 => by have := (B21.L.lt q e2).2; omega⟩
        obtain ⟨v30, h30, e30, rfl, W30, a3, n3, c3, B30, N30, A30⟩ := ct137 hO Bg26 (by omega) Z26 W E25 (cc := c24)
        refine ⟨_, _, _, h30, e30, ?_⟩
        intro g31
        have B31 : Bs b (Int.ofNat N) a n c a1 n1 c1 ss gs (Int.ofNat left) _ a3 n3 c3 g31 := B26.rst B30 N30
        have N31 : Nx b a2 g26 a3 g31 := N30.rst
        have N1 : Nx b a2 g1 a3 g31 := (((N13.trans (.of K14)).trans N21).trans N26).trans N31
        have hR31 : g31.get h.nx = some (.cells [U 0, U 0] 102 .fix) := by rw [N1.get h.nx (by omega) hRb hR2]; exact hR
        have Nh : Nx b a2 h a3 g31 := (Nx.of K1).trans N1
        have W31 : IntsAt g31 a22 n23 _ := W30.keep (fun _ _ _ => rfl) (Nat.le_refl _) fun _ _ h => h
        obtain ⟨x1, x2, x3, x4, x5⟩ := exit117 B B31 Nh hR31 (y := y) (m := m) W31
        refine vreq_t x1 ?_
        intro g32 g33
        have e33 : g33 = g31.wr h.nx 0 [U y, U m] := rst_wr ..
        rw [e33]
        exact ⟨_, _, x2, by rw [← hS]; exact ⟨_, _, _, rfl, x5, a3, n3, c3, x3, x4, A30⟩⟩
      · have hq : fq = true := by simpa using hq
        subst hq
        rw [if_neg (by decide)] at hS
        intro g36
        have K36 : Kp g13.nx g13 g36 := (Kp.refl _ _).rsv 13
        have B36 := B13.kp K36
        have g36nx : g36.nx = g13.nx + 13 := rfl
        have ht36 : g36.get h11.nx = some (.cells [U y, U m] 102 .fix) := ht13
        have N36 : Nx b a2 g1 a2 g36 := N13.trans (.of K36)
        have Nh36 : Nx b a2 h a2 g36 := (Nx.of K1).trans N36
        have hR36 : g36.get h.nx = some (.cells [U 0, U 0] 102 .fix) := by rw [N36.get h.nx (by omega) hRb hR2]; exact hR
        refine ⟨_, read1 B36.get (i := 0 + 0) rfl, vreq_t rfl ⟨_, read1 ht36 (i := 0) rfl, _, read1 ht36 (i := 1) rfl, ?_⟩⟩
        rw [show Int.toNat (Int.ofNat N) = N from rfl, shl_pow hN, lor_nat, andn_nat]
        have hp : 2 ^ N ≤ 2 ^ 30 := Nat.pow_le_pow_right (by decide) hN
        have hor : y ||| m < 2 ^ 30 := Nat.or_lt_two_pow ly lm
        refine vreq_t (inD_of (by omega)) (vreq_t (inD_of (by omega)) (vreq_t (inD_of (by omega)) (vreq_t (inD_of (by omega)) ?_)))
        show vcond (eqI (Int.ofNat (freeM N y m)) 0) _ _
        refine vcond_split (fun hf => ?_) fun hf => ?_
        · have hf : freeM N y m = 0 := by have := eq_of_t hf; simp only [Int.ofNat_eq_natCast] at this; omega
          rw [if_pos hf] at hS
          obtain ⟨x1, x2, x3, x4, _⟩ := exit117 B B36 Nh36 hR36 (y := y) (m := m) (SlAt.nil 1 EInt g36)
          refine ⟨_, _, by rw [readAt_get ht36 (by simp)]; rfl, vreq_t x1 ?_⟩
          exact ⟨_, _, x2, by rw [← hS]; exact ⟨_, _, _, rfl, SlAt.nil .., a2, n2, c2, by rw [List.append_nil]; exact x3, x4, (Aw.none _ _)⟩⟩
        · have hf : freeM N y m ≠ 0 := fun e => ne_of_f hf (by rw [e]; rfl)
          rw [if_neg hf] at hS
          obtain ⟨dm, dp⟩ := dmore rfl hf
          obtain ⟨j, ej, hk30⟩ := lowF_spec hf (freeM_lt hN)
          generalize hkk : lowF (freeM N y m) = k at *
          have hlt := freeM_lt (y := y) (m := m) hN
          have e120 := ct120 hO (k := k) (j := j) (by rw [← ej]; omega) B36.tb
          rw [← ej] at e120
          refine ⟨_, g36, e120, ?_⟩
          rw [wrap_succ (by omega), show wrapF .i64 (0 - Int.ofNat (k + 1)) = -Int.ofNat (k + 1) by rw [wrap64 (by simp only [Int.ofNat_eq_natCast]; omega) (by simp only [Int.ofNat_eq_natCast]; omega)]; omega]
          intro g47
          have K47 : Kp g36.nx g36 g47 := (Kp.refl _ _).add (Nat.le_refl _) _
          have B47 := B36.kp K47
          have g47nx : g47.nx = g36.nx + 1 := nx_add ..
          have HL : g47.get g36.nx = some (.cells [.int .i64 (-Int.ofNat (k + 1)), .int .i64 (Int.ofNat (k + 1))] 3 .fix) := get_add_same ..
          have Nh47 : Nx b a2 h a2 g47 := Nh36.trans (.of K47)
          have hR47 : g47.get h.nx = some (.cells [U 0, U 0] 102 .fix) := by rw [K47.get _ (by omega)]; exact hR36
          have ht47 : g47.get h11.nx = some (.cells [U y, U m] 102 .fix) := by rw [K47.get _ (by omega)]; exact ht36
          have lp : Lit (Int.ofNat (k + 1)) := ⟨by simp only [Int.ofNat_eq_natCast]; omega, by simp only [Int.ofNat_eq_natCast]; omega⟩
          have ln : Lit (-Int.ofNat (k + 1)) := ⟨by simp only [Int.ofNat_eq_natCast]; omega, by simp only [Int.ofNat_eq_natCast]; omega⟩
          have B47' : Bs b (Int.ofNat N) a n c a1 n1 c1 ss gs (Int.ofNat left) (lines ++ []) a2 n2 c2 g47 := by rw [List.append_nil]; exact B47
          have so1 := searchF_ok D hN d (left := left) dm
          have so2 := searchF_ok D hN d (left := (searchF N ss gs d (ds ++ [-Int.ofNat (k + 1)]) left).left) dp
          generalize hs : searchF N ss gs d (ds ++ [-Int.ofNat (k + 1)]) left = s at *
          generalize ht : searchF N ss gs d (ds ++ [Int.ofNat (k + 1)]) s.left = t at *
          refine it117 hO D hN ih B B47' Nh47 (by rw [List.append_nil]; omega) hR47 (by omega) A hda (k := 0) (by decide) (by omega) HL (x := -Int.ofNat (k + 1)) rfl ln dm (by omega) (by omega) (ab := none) (nb := 0) (cb := 0) (vs := []) (.inl ⟨rfl, rfl, rfl, rfl⟩) (Aw.none _ _) (fun o e => by cases e) (fun v hv => by cases hv) (by decide) (s := s) hs.symm (fun he => ?_) ?_
          · rw [Int.neg_neg] at he
            rw [if_pos he] at hS
            rw [← hS]; rfl
          · intro h1 hm1 g' a4 n4 c4 ac nc cc o' B' N' gn' keep' A' ho' aw' C' awC' _
            rw [Int.neg_neg] at hm1
            rw [if_neg (by rw [h1]; simpa using hm1)] at hS
            have hR' : g'.get h.nx = some (.cells [U 0, U 0] 102 .fix) := by rw [keep' _ (by omega) hRb hR2 (fun e => by cases e)]; exact hR47
            have ht' : g'.get h11.nx = some (.cells [U y, U m] 102 .fix) := by rw [keep' _ (by omega) (by omega) (B47.nefix ht47) (fun e => by cases e)]; exact ht47
            have HL' : g'.get g36.nx = some (.cells [.int .i64 (-Int.ofNat (k + 1)), .int .i64 (Int.ofNat (k + 1))] 3 .fix) := by rw [keep' _ (by omega) (by omega) (B47.nefix HL) (fun e => by cases e)]; exact HL
            refine it117 hO D hN ih B B' N' (by simp only [List.length_append, List.nil_append] at so1 ⊢; omega) hR' (by omega) A hda (k := 1) (by decide) (by omega) HL' (x := Int.ofNat (k + 1)) rfl lp dp (by omega) (by omega) (ab := some ⟨o', 0, none⟩) (nb := 1) (cb := unk) (vs := [.slice ac nc cc]) A' aw' (fun o e => by injection e with e; injection e with e _; omega) (fun v hv => by rw [List.mem_singleton] at hv; exact ⟨_, _, _, hv⟩) (by decide) (s := t) ht.symm (fun he => ?_) ?_
            · rw [if_pos he] at hS
              rw [← hS]; rfl
            · intro h2 hm2 g'' a5 n5 c5 ae ne ce o'' B'' N'' gn'' keep'' A'' ho'' aw'' C'' awC'' stay
              rw [if_neg (by rw [h2]; simpa using hm2)] at hS
              have ncp : 0 < nc := by rw [C'.1]; exact List.length_pos_of_mem hm1
              obtain ⟨C1, awC1⟩ := stay _ _ _ C' awC' ncp
              have ne1 : ∀ q, q < g47.nx → some (⟨o', 0, none⟩ : Addr) ≠ some ⟨q, 0, none⟩ := fun q hq e => by injection e with e; injection e with e _; omega
              have hR'' : g''.get h.nx = some (.cells [U 0, U 0] 102 .fix) := by rw [keep'' _ (by omega) hRb (B'.nefix hR') (ne1 _ (by omega))]; exact hR'
              have ht'' : g''.get h11.nx = some (.cells [U y, U m] 102 .fix) := by rw [keep'' _ (by omega) (by omega) (B'.nefix ht') (ne1 _ (by omega))]; exact ht'
              refine I117_0.of (hh := ?_) ..
              unfold T117_0
              refine vcond_f rfl ?_
              intro g140
              obtain ⟨hob, hg''⟩ : o'' < g''.nx ∧ g''.get o'' = some (.cells [.slice ac nc cc, .slice ae ne ce] 32 .grow) := by
                rcases A'' with ⟨e2, _⟩ | ⟨p, e2, _, _, _, h5, h6⟩
                · cases e2
                · have e3 : o'' = p := congrArg Addr.block (Option.some.inj e2)
                  rw [e3]; exact ⟨h5, h6⟩
              have K140 : Kp g''.nx g'' g140 := (Kp.refl _ _).rsv 13
              have B140 := B''.kp K140
              have g140nx : g140.nx = g''.nx + 13 := rfl
              have hg140 : g140.get o'' = some (.cells [.slice ac nc cc, .slice ae ne ce] 32 .grow) := hg''
              refine vreq_t rfl ⟨_, _, _, read1 hg140 (i := 0 + 0) rfl, vreq_t rfl ⟨_, _, _, read1 hg140 (i := 0 + 1) rfl, ?_⟩⟩
              have Bg140 := B140.grd (l := []) fun q hq => by cases hq
              have D1 : IntsAt (g140.grd []) ac nc s.c := C1.keep (fun _ _ _ => rfl) (by show g''.nx ≤ g''.nx + 13; omega) fun _ _ h => h
              have D2 : IntsAt (g140.grd []) ae ne t.c := C''.keep (fun _ _ _ => rfl) (by show g''.nx ≤ g''.nx + 13; omega) fun _ _ h => h
              obtain ⟨v155, h155, e155, a151, n152, c153, rfl, X155, K155, F155, E155⟩ := ct38F hO (Int.ofNat (k + 1)) D1 D2 so1.1 so2.1 Bg140.ok Bg140.tb (c := cc) (c' := ce)
              refine ⟨_, _, _, _, h155, e155, ?_⟩
              intro g156
              have B156 : Bs b (Int.ofNat N) a n c a1 n1 c1 ss gs (Int.ofNat t.left) _ a5 n5 c5 g156 := B140.rst (Bg140.kp K155) (.of K155)
              have N156 : Nx b a5 g140 a5 g156 := Nx.rst (.of K155)
              have n155 : g140.nx ≤ g156.nx := K155.nx
              intro g157
              have K157 : Kp g156.nx g156 g157 := (Kp.refl _ _).rsv 7
              have B157 := B156.kp K157
              have g157nx : g157.nx = g156.nx + 7 := rfl
              have N157 : Nx b a5 g'' a5 g157 := ((Nx.of K140).trans N156).trans (.of K157)
              have ht157 : g157.get h11.nx = some (.cells [U y, U m] 102 .fix) := by rw [N157.get _ (by omega) (by omega) (B''.nefix ht'')]; exact ht''
              refine ⟨_, _, by rw [readAt_get ht157 (by simp)]; rfl, ?_⟩
              have Bg157 := B157.grd (l := [h11.nx]) fun q hq => by rw [List.mem_singleton] at hq; subst hq; exact ⟨by omega, by omega, B157.nefix ht157⟩
              have X157 : IntsAt (g157.grd [h11.nx]) a151 n152 (resP s.c t.c (Int.ofNat (k + 1))).1 := X155.keep (fun _ _ _ => rfl) (by show g156.nx ≤ g156.nx + 7; omega) fun _ _ h => h
              have W : Aw b a5 a151 := fun q off e => by
                have h1 : g140.nx ≤ q := F155 q off e
                have := B''.bn
                exact ⟨by omega, fun e2 => by have := (B''.L.lt q e2).2; omega⟩
              obtain ⟨v163, h163, e163, rfl, W163, a6, n6, c6, B163, N163, A163⟩ := ct137 hO Bg157 (by simp only [List.length_append, List.nil_append] at so1 so2 ⊢; omega) X157 W E155 (cc := c153)
              refine ⟨_, _, _, h163, e163, ?_⟩
              intro g164
              have B164 : Bs b (Int.ofNat N) a n c a1 n1 c1 ss gs (Int.ofNat t.left) _ a6 n6 c6 g164 := B157.rst B163 N163
              have N164 : Nx b a5 g157 a6 g164 := N163.rst
              have N2 : Nx b a5 g'' a6 g164 := N157.trans N164
              have hR164 : g164.get h.nx = some (.cells [U 0, U 0] 102 .fix) := by rw [N2.get _ (by omega) hRb (B''.nefix hR'')]; exact hR''
              have Nh : Nx b a2 h a6 g164 := N''.trans N2
              have W164 : IntsAt g164 a151 n152 _ := W163.keep (fun _ _ _ => rfl) (Nat.le_refl _) fun _ _ h => h
              obtain ⟨x1, x2, x3, x4, x5⟩ := exit117 B B164 Nh hR164 (y := y) (m := m) W164
              refine vreq_t x1 ?_
              intro g165 g166
              have e166 : g166 = g164.wr h.nx 0 [U y, U m] := rst_wr ..
              rw [e166]
              refine ⟨_, _, x2, ?_⟩
              rw [← hS]
              refine ⟨_, _, _, rfl, x5, a6, n6, c6, ?_, x4, A163⟩
              rw [show lines ++ ((s.lines ++ t.lines) ++ [(resP s.c t.c (Int.ofNat (k + 1))).1]) = (lines ++ (([] ++ s.lines) ++ t.lines)) ++ [(resP s.c t.c (Int.ofNat (k + 1))).1] by simp]
              exact x3
end
end Go.Proofs.YtfgfhplgnfbaaaaDoor
/- The walks of solve, Model, Prove. -/
namespace Go.Proofs.YtfgfhplgnfbaaaaDoor
open Go Go.Ev
section
variable {O : CallF} (hO : Oth O)
include hO
/-- What solve returns. -/
def solF (N : Nat) (cls : List (List Int)) (gs : List Int) : Sr := searchF N (cls.map sideN) gs (N + 1) [] 2000
theorem ct79 {a a1 : Option Addr} {n c n1 c1 N : Nat} {h : Hp} {cls : List (List Int)} {gs : List Int} (ok : h.Ok) (ht : Tb h) (H : IntssAt h a n cls) (hl : cls.length < 10000) (hll : ∀ l ∈ cls, l.length < 1000000) (hlit : ∀ l ∈ cls, ∀ x ∈ l, Lit x) (G : IntsAt h a1 n1 gs) (hgl : gs.length < 1000) (hg : ∀ x ∈ gs, Lit x)
    (hN : N ≤ 30) {Dc : List Int → Prop} (D : Dec N (cls.map sideN) gs Dc) (D0 : Dc []) :
    Ret Tryd.prog O 79 [Fm (Int.ofNat N) a n c, .slice a1 n1 c1] h fun v h' => ∃ al nl cl, v = .tuple #[.agg #[U (solF N cls gs).y, U (solF N cls gs).m], .slice al nl cl, .int .i64 (solF N cls gs).how] ∧ IntssAt h' al nl (solF N cls gs).lines ∧ Kp h.nx h h' := by
  refine rk79 _ _ _ _ _ _ _ (hO _ _ _ (by decide)) ?_
  unfold T79
  intro g1 g2
  have kp : Kp h.nx h g1 := fm_kp h (Int.ofNat N) a n c
  have g1nx : g1.nx = h.nx + 1 := nx_add ..
  have g2nx : g2.nx = h.nx + 2 := by rw [show g2.nx = g1.nx + 1 from nx_add .., g1nx]
  have K2 : Kp h.nx h g2 := kp.add (by omega) _
  have f2 : g2.get h.nx = some (.cells [.int .i64 (Int.ofNat N), .slice a n c] 30 .fix) := (get_add_ne (by omega)).trans (fm_get h (Int.ofNat N) a n c)
  have t2 : g2.get g1.nx = some (.cells [U 0, U 0] 102 .fix) := get_add_same ..
  refine ⟨_, _, _, _, by rw [readAt_get f2 (by simp)]; rfl, ?_⟩
  have ok2 := ok.kp K2
  obtain ⟨v1, h8, e8, b, a6, n6, c6, rfl, z1, z2, z3, z4, z5⟩ := ct76 hO (vars := Int.ofNat N) ok2 (H.up EInts.up K2) hl hll hlit (c := c) (a1 := a1) (n1 := n1) (c1 := c1)
  refine ⟨_, h8, e8, ?_⟩
  have K8 : Kp h.nx h h8 := K2.trans (z5.le K2.nx)
  have hbn : h.nx < b := by omega
  have sl : SidesAt2 h8 a6 n6 (cls.map sideN) := z4.slAt uu_len (by decide)
  have hsl : (cls.map sideN).length < 1000000 := by simp; omega
  have hss := sides_lt hO hlit
  have B8 : Bs b (Int.ofNat N) a6 n6 c6 a1 n1 c1 (cls.map sideN) gs (Int.ofNat 2000) [] none 0 0 h8 := by
    refine ⟨ok.kp K8, ht.kp K8 ht.1, z2, z3, sl, fun q off e => ⟨?_, fun e2 => by cases e2⟩, G.up EInt.up K8, fun q off e => ⟨?_, fun e2 => by cases e2⟩, ⟨[], Acc.nil .., .nil h8, fun v hv => by cases hv⟩, fun q hq => ⟨?_, fun e2 => by cases e2⟩⟩
    · rcases z4 with ⟨e2, _⟩ | ⟨o, e2, _, _, h4, _⟩
      · rw [e2] at e; cases e
      · have : q = o := congrArg Addr.block (Option.some.inj (e.symm.trans e2))
        omega
    · have := SlAt.lt G q off e; omega
    · rw [K8.gd] at hq; have := ok.gd q hq; omega
  obtain ⟨v15, h15, e15, ac, nc, cc, rfl, X15, a3, n3, c3, B15, N15, _⟩ := ct117 hO D hN hsl hss (by omega) hg (N + 1) (left := 2000) D0 (by simp) (by simp) B8 (AccI.nil 3 h8 0) (Aw.none _ _)
  refine ⟨_, _, _, _, _, _, h15, e15, ?_⟩
  show let g16 : Hp := h15.add (.cells [U 0, U 0] 102 .fix); _
  generalize hr : searchF N (cls.map sideN) gs (N + 1) [] 2000 = r at *
  have hr' : solF N cls gs = r := hr
  rw [hr']
  rw [List.nil_append] at B15
  intro g16
  have gdl : ∀ q ∈ h15.gd, q < h.nx := fun q hq => by rw [N15.gd, K8.gd] at hq; exact ok.gd q hq
  have n8 := K8.nx
  have n15 : h.nx + 2 ≤ h15.nx := by have := N15.nx; have := z5.nx; omega
  have gf : g16.guarded h15.nx = false := guarded_of fun q hq => by have := gdl q hq; omega
  have gs16 : g16.get h15.nx = some (.cells [U 0, U 0] 102 .fix) := get_add_same ..
  refine vreq_t (canW_t gs16 (by decide) gf (by simp) rfl) ?_
  intro g17 g18
  have K18 : Kp h15.nx h15 g18 := (((Kp.refl _ _).add (Nat.le_refl _) _).wr (Nat.le_refl _) _ _).rsv 9
  have H18 : g18.get h15.nx = some (.cells [U r.y, U r.m] 102 .fix) := wr_get gs16 (by decide) gf (by simp) rfl
  have B18 := B15.kp K18
  have n18 : h15.nx ≤ g18.nx := K18.nx
  have T18 : g18.get g1.nx = some (.cells [U 0, U 0] 102 .fix) := by
    rw [K18.get _ (by omega), N15.get _ (by have := z5.nx; omega) (by omega) (fun e => by cases e), z5.get _ (by omega)]; exact t2
  refine ⟨_, _, by rw [readAt_get H18 (by simp)]; rfl, ?_⟩
  refine ⟨_, _, _, read1 B18.get (i := 0 + 4) rfl, ?_⟩
  have T18' : (g18.grd [b]).get g1.nx = some (.cells [U 0, U 0] 102 .fix) := T18
  have gf18 : (g18.grd [b]).guarded g1.nx = false := guarded_of fun q hq => by
    rcases List.mem_append.1 hq with hq | hq
    · rw [List.mem_singleton] at hq; omega
    · rw [K18.gd] at hq; have := gdl q hq; omega
  refine vreq_t (canW_t T18' (by decide) gf18 (by simp) rfl) ?_
  intro g26 g27
  have T26 : g26.get g1.nx = some (.cells [U r.y, U r.m] 102 .fix) := wr_get T18' (by decide) gf18 (by simp) rfl
  have T27 : g27.get g1.nx = some (.cells [U r.y, U r.m] 102 .fix) := T26
  have ne : ∀ q, q ≠ g1.nx → g27.get q = g18.get q := fun q hq => wr_get_ne (g18.grd [b]) _ _ _ hq
  have nx27 : g27.nx = g18.nx := nx_wr (g18.grd [b]) ..
  refine ⟨_, _, by rw [readAt_get T27 (by simp)]; rfl, _, _, _, rfl, ?_, ?_⟩
  · obtain ⟨vs, A, L, V⟩ := B18.L
    refine AccE.intss (.inl (A.keep (h' := g27) (fun o ho e => ne o fun e2 => B18.nefix T18 (by rw [← e2]; exact e)) (Nat.le_of_eq nx27.symm))) ⟨L.1, fun i hi => ?_⟩
    obtain ⟨v, hv, a', n', c', e, X⟩ := L.2 i hi
    have X1 : IntsAt (g18.grd [b]) a' n' r.lines[i] := X.keep (fun _ _ _ => rfl) (Nat.le_refl _) fun _ _ h => h
    have X2 : IntsAt g26 a' n' r.lines[i] := wr_ints T18' T26 X1
    exact ⟨v, hv, a', n', c', e, X2.keep (fun _ _ _ => rfl) (Nat.le_refl _) fun _ _ h => h⟩
  · refine ⟨fun o ho => ?_, by rw [nx27]; omega, ?_, fun f => ?_⟩
    · rw [ne o (by omega), K18.get o (by omega), N15.get o (by omega) (by omega) (fun e => by cases e), K8.get o ho]
    · show g18.gd = h.gd
      rw [K18.gd, N15.gd, K8.gd]
    · intro q hq
      rw [nx27] at hq
      rw [ne q (by omega)]
      exact (K18.fr (N15.fr (K8.fr f))) q hq
end
end Go.Proofs.YtfgfhplgnfbaaaaDoor
/- Contracts of layer 20: formulas by numbers. -/
namespace Go.Proofs.YtfgfhplgnfbaaaaDoor
open Go Go.Ev
/-- The literals of a clause by numbers, from one on. -/
def rst3 (N a b c : Int) : Nat → List Int
  | 0 => litP a N :: litP b N :: (if c < 0 then [] else [litP c N])
  | 1 => litP b N :: (if c < 0 then [] else [litP c N])
  | 2 => if c < 0 then [] else [litP c N]
  | _ => []
/-- The clauses of a formula by numbers. -/
def clsN (N : Int) (cl : List Int) : Nat → List (List Int)
  | 0 => []
  | k + 1 => clsN N cl k ++ [clauseN (rst3 N (cl.getD (3 * k) 0) (cl.getD (3 * k + 1) 0) (cl.getD (3 * k + 2) 0) 0)]
/-- A puzzle's cells. -/
def puzV (vars many : Nat) (cl : List Int) : List Value := .int .u8 (Int.ofNat vars) :: .int .u8 (Int.ofNat many) :: cl.map (Value.int .i8)
structure PuzOk (vars many : Nat) (cl : List Int) : Prop where
  v : vars < 256
  m : many < 256
  len : cl.length = 42
  rng : ∀ x ∈ cl, -128 ≤ x ∧ x < 128
theorem PuzOk.at {vars many : Nat} {cl : List Int} (p : PuzOk vars many cl) (k : Nat) : -128 ≤ cl.getD k 0 ∧ cl.getD k 0 < 128 := by
  rw [List.getD_eq_getElem?_getD]
  by_cases hk : k < cl.length
  · rw [List.getElem?_eq_getElem hk]; exact p.rng _ (List.getElem_mem hk)
  · rw [List.getElem?_eq_none (by omega)]; exact ⟨by decide, by decide⟩
theorem rst3_lit {N a b c : Int} (hN : 1 ≤ N ∧ N ≤ 30) (ha : -128 ≤ a ∧ a < 128) (hb : -128 ≤ b ∧ b < 128) (hc : -128 ≤ c ∧ c < 128) (k : Nat) : ∀ x ∈ rst3 N a b c k, Lit x ∧ x.natAbs ≤ N.toNat := by
  have la := litP_ok ha.1 ha.2 hN.1 hN.2
  have lb := litP_ok hb.1 hb.2 hN.1 hN.2
  have lc := litP_ok hc.1 hc.2 hN.1 hN.2
  have t : ∀ x ∈ (if c < 0 then [] else [litP c N]), Lit x ∧ x.natAbs ≤ N.toNat := by
    intro x hx
    split at hx
    · cases hx
    · rw [List.mem_singleton.1 hx]; exact lc
  intro x hx
  match k with
  | 0 =>
    rcases List.mem_cons.1 hx with rfl | hx
    · exact la
    · rcases List.mem_cons.1 hx with rfl | hx
      · exact lb
      · exact t x hx
  | 1 =>
    rcases List.mem_cons.1 hx with rfl | hx
    · exact lb
    · exact t x hx
  | 2 => exact t x hx
  | _ + 3 => cases hx
theorem rst3_len (N a b c : Int) : (rst3 N a b c 0).length ≤ 3 := by
  show (litP a N :: litP b N :: (if c < 0 then [] else [litP c N])).length ≤ 3
  split <;> simp
section
variable {O : CallF} (hO : Oth O)
include hO
theorem lp16_1 {h₀ hI : Hp} (ok : h₀.Ok) (kI : Kp h₀.nx h₀ hI) {v0 : Array Value} {x1 : Int} {b4 f4 b5 : Nat} {aC : Option Addr} {nC cC : Nat} {N : Int} (hN : 1 ≤ N ∧ N ≤ 30) (g5 : hI.get b5 = some (.cells [.int .i64 N, .slice aC nC cC] 30 .fix)) (hb5 : h₀.nx ≤ b5 ∧ b5 < hI.nx) {B : Nat} (hB : b5 < B ∧ B ≤ hI.nx) {cls : List (List Int)} (A : LL h₀.nx B hI aC nC cC cls) (hcl : nC < 100) {a23 : Option Addr} {n23 c23 : Nat} {x24 : Int} {j : Nat} (hj : j < 100) {a b c : Int} (ha : -128 ≤ a ∧ a < 128) (hb : -128 ≤ b ∧ b < 128) (hc : -128 ≤ c ∧ c < 128) {Q : Value → Hp → Prop}
    (next : ∀ h a' c', Kp h₀.nx h₀ h → (∀ o, o < B → o ≠ b5 → h.get o = hI.get o) → hI.nx ≤ h.nx → h.get b5 = some (.cells [.int .i64 N, .slice a' (nC + 1) c'] 30 .fix) → LL h₀.nx B h a' (nC + 1) c' (cls ++ [clauseN (rst3 N a b c 0)]) → I16_0 O Q v0 x1 b4 f4 b5 0 a23 n23 c23 x24 (Int.ofNat (j + 1)) h) :
    ∀ (d k : Nat), k + d = 3 → ∀ {h : Hp} {a8 n8 c8} {acc : List Int}, Kp hI.nx hI h → AccI 3 h hI.nx a8 n8 c8 acc → acc ++ rst3 N a b c k = rst3 N a b c 0 →
      I16_1 O Q v0 x1 b4 f4 b5 0 a8 n8 c8 a23 n23 c23 x24 (Int.ofNat j) a b c (Int.ofNat k) h := by
  have gdb : ∀ {h : Hp}, Kp hI.nx hI h → GdLt h hI.nx := fun k q hq => by
    have : q ∈ h₀.gd := by rw [← kI.gd, ← k.gd]; exact hq
    have := ok.gd q this; have := kI.nx; omega
  intro d
  induction d with
  | zero =>
    intro k hk h a8 n8 c8 acc kp Ac he
    refine I16_1.of _ _ _ _ _ _ _ _ _ _ _ _ _ _ _ _ _ _ ?_
    unfold T16_1
    obtain rfl : k = 3 := by omega
    have he : acc = rst3 N a b c 0 := by simpa [rst3] using he
    refine vcond_f rfl ?_
    intro g1
    have fI : Ft hI h := kp.ex (Nat.le_refl _)
    have f1 : Ft hI g1 := inferInstanceAs (Ft hI (h.rsv _))
    refine ⟨_, _, _, (readAt_ex (g := hI) hb5.2).trans (read1 g5 (i := 0 + 1) rfl), ?_⟩
    have okh : h.Ok := (ok.kp kI).kp kp
    have okg : (g1.grd [b5]).Ok := (okh.rsv _).grd fun q hq => by
      obtain rfl := List.mem_singleton.1 hq
      show q < h.nx + 8
      have := kp.nx; omega
    have Ag : IntsAt (g1.grd [b5]) a8 n8 acc := Ac.ints.to _
    have lits := rst3_lit hN ha hb hc 0
    subst he
    refine (ct19 hO okg Ag (by have := rst3_len N a b c; omega) fun x hx => (lits x hx).1).s fun a1 n1 c1 h2 ⟨Y, K2, fr, ez⟩ => ?_
    intro g2
    have K2' : Kp g1.nx g1 g2 := ⟨K2.get, K2.nx, rfl, K2.fr⟩
    have f2 : Ft hI g2 := f1.tr (K2'.ex (Nat.le_refl _))
    have A2 : LL h₀.nx B g2 aC nC cC cls := A.to g2
    have hnx := kp.nx
    have hq : g2.get (h.nx + 4) = none := by
      rw [K2'.get _ (show h.nx + 4 < h.nx + 8 by omega)]
      exact okh.fr _ (by omega)
    have nx2 : h.nx + 4 < g2.nx := Nat.lt_of_lt_of_le (show h.nx + 4 < h.nx + 8 by omega) K2'.nx
    have okY : VOk h₀.nx B (.slice a1 n1 c1) := fun p off m w e => by
      injection e with e1 e2
      have hh : g1.nx ≤ p := fr p off e1
      have hh2 : h.nx ≤ p := Nat.le_trans (Nat.le_add_right ..) hh
      refine ⟨.inr (by omega), .inr ?_⟩
      rcases Nat.eq_zero_or_pos m with h0 | h0
      · have := Y.1
        have : clauseN (rst3 N a b c 0) = [] := List.length_eq_zero_iff.1 (by omega)
        rw [ez this] at e1; cases e1
      · exact h0
    have Y2 : IntsAt g2 a1 n1 (clauseN (rst3 N a b c 0)) := Y.to _
    have gd2 : GdLt g2 B := fun q hq => by
      have : q ∈ h₀.gd := by rw [← kI.gd, ← kp.gd]; exact hq
      have := ok.gd q this; omega
    refine LL.appR (by omega) A2 Y2 okY (by omega) gd2 hq nx2 (by omega) (fun i hi => by cases hi) (by omega) fun a' c' h3 A3 _ K3 => ?_
    intro g3
    have K3 : Kp B g2 g3 := K3.kp
    have A3 : LL h₀.nx B g3 a' (nC + 1) c' _ := A3
    have e5 : g3.get b5 = some (.cells [.int .i64 N, .slice aC nC cC] 30 .fix) := by
      rw [K3.get _ hB.1, f2.get _ hb5.2]; exact g5
    have gu : (g3.grd []).guarded b5 = false := guarded_of fun q hq => by
      have : q ∈ h₀.gd := by rw [← kI.gd, ← kp.gd]; exact K3.gd ▸ hq
      have := ok.gd q this; omega
    have e5' : (g3.grd []).get b5 = some (.cells [.int .i64 N, .slice aC nC cC] 30 .fix) := e5
    refine vreq_t (canW_t e5' (by decide) gu (by simp) rfl) ?_
    intro g4 g5'
    rw [wrap_succ (by omega)]
    have w4 : g4.get b5 = some (.cells [.int .i64 N, .slice a' (nC + 1) c'] 30 .fix) := (wr_get e5' (by decide) gu (by simp) rfl).trans rfl
    have A4 : LL h₀.nx B g4 a' (nC + 1) c' _ := (show LL h₀.nx B (g3.grd []) a' (nC + 1) c' _ from A3.to _).wr hb5.1 hB.1 _ _
    have k12 : Kp h₀.nx h₀ g3 := ((kI.trans (kp.le kI.nx)).rsv _ |>.trans (K2'.le (Nat.le_trans kI.nx (Nat.le_trans hnx (Nat.le_add_right ..))))).trans (K3.le (by omega))
    have k4 : Kp h₀.nx h₀ g5' := by
      have w : Kp h₀.nx h₀ g4 := (show Kp h₀.nx h₀ (g3.grd []) from ⟨k12.get, k12.nx, k12.gd, k12.fr⟩).wr hb5.1 _ _
      exact ⟨w.get, w.nx, k12.gd, w.fr⟩
    have n3 : hI.nx ≤ g3.nx := Nat.le_trans hnx (Nat.le_trans (Nat.le_of_lt (Nat.lt_of_le_of_lt (Nat.le_add_right _ 4) nx2)) K3.nx)
    refine next g5' a' c' k4 (fun o ho h1 => ?_) ?_ w4 (A4.to _)
    · show g4.get o = _
      rw [wr_get_ne _ _ _ _ h1]
      show g3.get o = _
      rw [K3.get o ho, f2.get o (by omega)]
    · show hI.nx ≤ g4.nx
      rw [nx_wr]; exact n3
  | succ d ih =>
    intro k hk h a8 n8 c8 acc kp Ac he
    refine I16_1.of _ _ _ _ _ _ _ _ _ _ _ _ _ _ _ _ _ _ ?_
    unfold T16_1
    have f1 : Ft hI h := kp.ex (Nat.le_refl _)
    have gN : readAt h b5 (0 + 0) 1 = some [.int .i64 N] := (readAt_ex (g := hI) hb5.2).trans (read1 g5 (i := 0) rfl)
    have push : ∀ {x : Int}, (-128 ≤ x ∧ x < 128) → rst3 N a b c k = litP x N :: rst3 N a b c (k + 1) → ∃ x', readAt h b5 (0 + 0) 1 = some [.int .i64 x'] ∧ ∃ y, ∃ h', EvC Tryd.prog O 21 [.int .i8 x, .int .i64 x'] h (.int .i64 y) h' ∧ (let g := h'.add (.cells [.int .i64 y] 3 .fix); ∃ a' n' c' h2, appendV Tryd.prog g 32 32 (.slice a8 n8 c8) (.slice (some ⟨h'.nx, 0, none⟩) 1 1) = some (.slice a' n' c', h2) ∧ I16_1 O Q v0 x1 b4 f4 b5 0 a' n' c' a23 n23 c23 x24 (Int.ofNat j) a b c (Int.ofNat (k + 1)) h2) := by
      intro x hx hr
      refine ⟨_, gN, _, _, ct21 hO hx.1 hx.2 hN.1 hN.2 h, ?_⟩
      intro g
      have al : acc.length ≤ 3 := by
        have := congrArg List.length he
        have := rst3_len N a b c
        simp at *; omega
      exact appI app32 Ac kp.nx (gdb kp) (by omega) fun a' n' c' h' A' _ kA => ih (k + 1) (by omega) (kp.trans kA) A' (by rw [List.append_assoc, List.singleton_append, ← hr]; exact he)
    rw [wrap_succ (by omega)]
    have hk3 : k = 0 ∨ k = 1 ∨ k = 2 := by omega
    rcases hk3 with rfl | rfl | rfl
    · refine vcond_t rfl (isNat_i (vreq_t rfl (vcond_t rfl ?_)))
      exact push ha rfl
    · refine vcond_t rfl (isNat_i (vreq_t rfl (vcond_t rfl ?_)))
      exact push hb rfl
    · refine vcond_t rfl (isNat_i (vreq_t rfl (vcond_f rfl (vcond_split (fun hh => ?_) fun hh => ?_))))
      · have hh : ¬ c < 0 := not_lt_of_f (show ltI c 0 = false by simpa using hh)
        exact push hc (by simp [rst3, hh])
      · have hh : c < 0 := lt_of_t (show ltI c 0 = true by simpa using hh)
        exact ih 3 (by omega) kp Ac (by simpa [rst3, hh] using he)
theorem lp16_0 {h₀ : Hp} (ok : h₀.Ok) {vars many : Nat} {cl : List Int} (p : PuzOk vars many cl) {v0 : Array Value} {x1 : Int} {N : Int} (hN : 1 ≤ N ∧ N ≤ 30) {M c23 : Nat} (hM : M ≤ 14) :
    ∀ (d k : Nat), k + d = M → ∀ {h : Hp} {aC nC cC}, Kp h₀.nx h₀ h → h₀.nx + 3 ≤ h.nx → h.get h₀.nx = some (.cells (puzV vars many cl) 26 .fix) → h.get (h₀.nx + 1) = some (.cells [.int .i64 0, .slice none 0 0] 30 .fix) → h.get (h₀.nx + 2) = some (.cells [.int .i64 N, .slice aC nC cC] 30 .fix) → LL h₀.nx (h₀.nx + 3) h aC nC cC (clsN N cl k) → nC = k →
      I16_0 O (fun v h' => ∃ a n c, v = .agg #[.int .i64 N, .slice a n c] ∧ IntssAt h' a n (clsN N cl M) ∧ Kp h₀.nx h₀ h') v0 x1 (h₀.nx + 1) 0 (h₀.nx + 2) 0 (some ⟨h₀.nx, 2, none⟩) M c23 (Int.ofNat M) (Int.ofNat k) h := by
  intro d
  induction d with
  | zero =>
    intro k hk h aC nC cC kp hnx g0 g1 g2 A hnk
    refine I16_0.of _ _ _ _ _ _ _ _ _ _ _ ?_
    unfold T16_0
    obtain rfl : k = M := by omega
    refine vcond_f (by rw [ltI_nat]; exact blt_f (by omega)) ⟨_, _, _, _, readAt_get g2 (by simp), ?_⟩
    have gu : h.guarded (h₀.nx + 1) = false := guarded_of fun q hq => by
      have : q ∈ h₀.gd := by rw [← kp.gd]; exact hq
      have := ok.gd q this; omega
    refine vreq_t (canW_t g1 (by decide) gu (by simp) rfl) ?_
    intro gw
    have w : gw.get (h₀.nx + 1) = some (.cells [.int .i64 N, .slice aC nC cC] 30 .fix) := (wr_get g1 (by decide) gu (by simp) rfl).trans rfl
    exact ⟨_, _, _, _, readAt_get w (by simp), _, _, _, rfl, (A.wr (by omega) (by omega) _ _).intss, kp.wr (by omega) _ _⟩
  | succ d ih =>
    intro k hk h aC nC cC kp hnx g0 g1 g2 A hnk
    refine I16_0.of _ _ _ _ _ _ _ _ _ _ _ ?_
    unfold T16_0
    have hl := p.len
    have rd : readAt h h₀.nx (2 + k * 3) 3 = some [.int .i8 (cl.getD (3 * k) 0), .int .i8 (cl.getD (3 * k + 1) 0), .int .i8 (cl.getD (3 * k + 2) 0)] := by
      rw [readAt_get g0 (by simp [puzV]; omega)]
      have h1 : 3 * k + 2 < cl.length := by omega
      have e : (puzV vars many cl).drop (2 + k * 3) = (cl.map (Value.int .i8)).drop (3 * k) := by
        unfold puzV
        rw [show 2 + k * 3 = 3 * k + 1 + 1 by omega, List.drop_succ_cons, List.drop_succ_cons]
      rw [e, List.drop_eq_getElem_cons (by simp; omega), List.drop_eq_getElem_cons (by simp; omega), List.drop_eq_getElem_cons (by simp; omega)]
      simp only [List.take_succ_cons, List.take_zero, List.getElem_map, List.getD_eq_getElem?_getD]
      rw [List.getElem?_eq_getElem (by omega), List.getElem?_eq_getElem (by omega), List.getElem?_eq_getElem (by omega)]; rfl
    refine vcond_t (by rw [ltI_nat]; exact blt_t (by omega)) (isNat_i (show isAddr (some ⟨h₀.nx, 2, none⟩) _ from vreq_t (blt_t (by omega)) ⟨_, _, _, rd, ?_⟩))
    intro g101
    have gu : g101.guarded h.nx = false := guarded_of fun q hq => by
      have : q ∈ h₀.gd := by rw [← kp.gd]; exact hq
      have := ok.gd q this; omega
    have ga : g101.get h.nx = some (.cells [.int .i8 0, .int .i8 0, .int .i8 0] 23 .fix) := get_add_same ..
    refine vreq_t (canW_t ga (by decide) gu (by simp) rfl) ?_
    intro gw
    have w : gw.get h.nx = some (.cells [.int .i8 (cl.getD (3 * k) 0), .int .i8 (cl.getD (3 * k + 1) 0), .int .i8 (cl.getD (3 * k + 2) 0)] 23 .fix) := (wr_get ga (by decide) gu (by simp) rfl).trans rfl
    refine ⟨_, _, _, readAt_get w (by simp), ?_⟩
    have kw : Kp h.nx h gw := ((Kp.refl h.nx h).add (Nat.le_refl _) _).wr (Nat.le_refl _) _ _
    have fw : Ft h gw := kw.ex (Nat.le_refl _)
    have kI : Kp h₀.nx h₀ gw := kp.trans (kw.le kp.nx)
    refine lp16_1 hO ok kI hN (aC := aC) (nC := nC) (cC := cC) (cls := clsN N cl k) ((fw.get _ (by omega)).trans g2) ⟨by omega, Nat.lt_of_lt_of_le (by omega) kw.nx⟩ (B := h₀.nx + 3) ⟨by omega, Nat.le_trans hnx kw.nx⟩ (A.to gw) (by omega) (by omega) (p.at _) (p.at _) (p.at _) (fun h' a' c' k' hs hn' g5 A' => ?_) 3 0 (by omega) (.refl _ _) (AccI.nil ..) (by simp)
    have fo : ∀ o, o < h₀.nx + 2 → h'.get o = h.get o := fun o ho => by rw [hs o (by omega) (by omega), fw.get o (by omega)]
    exact ih (k + 1) (by omega) k' (Nat.le_trans hnx (Nat.le_trans kw.nx hn')) ((fo _ (by omega)).trans g0) ((fo _ (by omega)).trans g1) g5 A' (by omega)
theorem ct16 {h : Hp} (ok : h.Ok) {vars many : Nat} {cl : List Int} (p : PuzOk vars many cl) {x1 : Int} (h1 : 1 ≤ x1 ∧ x1 ≤ 20) :
    Ret Tryd.prog O 16 [.agg (puzV vars many cl).toArray, .int .i64 x1] h fun v h' => ∃ a n c, v = .agg #[.int .i64 (1 + (vars : Int).tmod x1), .slice a n c] ∧ IntssAt h' a n (clsN (1 + (vars : Int).tmod x1) cl (many % 15)) ∧ Kp h.nx h h' := by
  refine rk16 _ _ (hO _ _ _ (by decide)) ?_
  unfold T16
  have pv := p.v; have pm := p.m
  have hmod : 0 ≤ (vars : Int).tmod x1 ∧ (vars : Int).tmod x1 < x1 := ⟨Int.tmod_nonneg _ (by omega), Int.tmod_lt_of_pos _ (by omega)⟩
  refine vreq_t ?_ ?_
  · simp [puzV, one]
  intro g1 g2
  have e1 : g1.get h.nx = some (.cells (puzV vars many cl) 26 .fix) := get_add_same ..
  have e2 : g2.get h.nx = some (.cells (puzV vars many cl) 26 .fix) := (get_add_ne (show h.nx ≠ h.nx + 1 by omega)).trans e1
  refine ⟨_, read1 e2 (i := 0) rfl, vreq_t (by rw [eqI_f (by omega)]; rfl) ?_⟩
  intro g4
  have ea : g4.get g2.nx = some (.cells [.int .i64 0, .slice none 0 0] 30 .fix) := get_add_same ..
  have gu : g4.guarded g2.nx = false := guarded_of fun q hq => by
    have := ok.gd q hq
    have : g2.nx = h.nx + 1 + 1 := rfl
    omega
  rw [wrap64 (n := Int.ofNat vars) (by simp only [Int.ofNat_eq_natCast]; omega) (by simp only [Int.ofNat_eq_natCast]; omega)]
  rw [show (Int.ofNat vars) = (vars : Int) from rfl, wrap64 (n := 1 + (vars : Int).tmod x1) (by omega) (by omega)]
  refine vreq_t (canW_t ea (by decide) gu (by simp) rfl) ?_
  intro g5
  have w5 : g5.get g2.nx = some (.cells [.int .i64 (1 + (vars : Int).tmod x1), .slice none 0 0] 30 .fix) := (wr_get ea (by decide) gu (by simp) rfl).trans rfl
  have e5 : g5.get h.nx = some (.cells (puzV vars many cl) 26 .fix) :=
    (wr_get_ne _ _ _ _ (show h.nx ≠ h.nx + 1 + 1 by omega)).trans ((get_add_ne (show h.nx ≠ h.nx + 1 + 1 by omega)).trans e2)
  have e6 : g5.get (h.nx + 1) = some (.cells [.int .i64 0, .slice none 0 0] 30 .fix) :=
    (wr_get_ne _ _ _ _ (show h.nx + 1 ≠ h.nx + 1 + 1 by omega)).trans ((get_add_ne (show h.nx + 1 ≠ h.nx + 1 + 1 by omega)).trans (get_add_same g1 _))
  refine ⟨_, read1 e5 (i := 1) rfl, ?_⟩
  rw [wrap64 (n := Int.ofNat many) (by simp only [Int.ofNat_eq_natCast]; omega) (by simp only [Int.ofNat_eq_natCast]; omega)]
  have em : (Int.ofNat many).tmod 15 = Int.ofNat (many % 15) := rfl
  rw [em]
  have sl : sliceV Tryd.prog g5 24 (.pointer (some ⟨h.nx, 2, none⟩)) none (some (.int .i64 (Int.ofNat (many % 15)))) none = some (.slice (some ⟨h.nx, 2, none⟩) (many % 15) 14) := by
    have e2 : sz Tryd.prog 23 = some 3 := by kernel_rfl
    have e3 : Tryd.prog.underlying 24 = some (.array 14 23) := by kernel_rfl
    have e4 : bounds 14 14 none (some (.int .i64 (Int.ofNat (many % 15)))) none = some (0, many % 15, 14) := by
      unfold bounds boundM boundH boundL boundV
      simp only [Option.bind_some, Option.map_some]
      rw [ble_t (by omega)]; rfl
    unfold sliceV
    rw [e3]
    simp only [e2, bind, Option.bind_some, e4]
    rfl
  refine ⟨_, _, _, sl, ?_⟩
  have k5 : Kp h.nx h g5 := ((((Kp.refl h.nx h).add (Nat.le_refl _) _).add (by show h.nx ≤ h.nx + 1; omega) _).add (by show h.nx ≤ h.nx + 1 + 1; omega) _).wr (show h.nx ≤ h.nx + 1 + 1 by omega) _ _
  exact lp16_0 hO ok p (N := 1 + (vars : Int).tmod x1) ⟨by omega, by omega⟩ (M := many % 15) (c23 := 14) (by omega) (many % 15) 0 (by omega) k5 (show h.nx + 3 ≤ g5.nx by show h.nx + 3 ≤ (g4.wr _ _ _).nx; rw [nx_wr]; exact Nat.le_refl _) e5 e6 w5 (.nil ..) rfl
end
end Go.Proofs.YtfgfhplgnfbaaaaDoor
/- The plain law of resolution: what it returns. -/
namespace Go.Proofs.YtfgfhplgnfbaaaaDoor
open Go Go.Ev
theorem lits_mem {y m : Nat} (hy : y < 2 ^ 30) (hm : m < 2 ^ 30) (hc : y &&& m = 0) {x : Int} : x ∈ litsN y m ↔ trM y m x := by
  have ex : ∀ i, y.testBit i = true → m.testBit i = true → False := fun i a b => (and_zero_iff _ _).1 hc i ⟨a, b⟩
  have big : ∀ {u i : Nat}, u < 2 ^ 30 → u.testBit i = true → i < 30 := fun {u i} hu h => by
    refine Classical.byContradiction fun hn => ?_
    rw [Nat.testBit_lt_two_pow (Nat.lt_of_lt_of_le hu (Nat.pow_le_pow_right (by decide) (by omega)))] at h; cases h
  unfold litsN digits
  rw [List.mem_map]
  constructor
  · rintro ⟨v, hv, rfl⟩
    obtain ⟨h1, h2⟩ := List.mem_filter.1 hv
    rw [Nat.testBit_or, Bool.or_eq_true] at h2
    unfold litOf ofN
    cases hyv : y.testBit v with
    | true => exact .inl ⟨by simp, by simp only [if_pos]; exact hyv⟩
    | false =>
      have hmv : m.testBit v = true := by rcases h2 with h2 | h2; rw [hyv] at h2; cases h2; exact h2
      simp only [hmv, Bool.false_eq_true, if_false, if_true]
      exact .inr ⟨by omega, by rw [show (-((v + 1 : Nat) : Int)).natAbs - 1 = v by omega]; exact hmv⟩
  · rintro (⟨h0, h1⟩ | ⟨h0, h1⟩)
    · refine ⟨x.natAbs - 1, List.mem_filter.2 ⟨List.mem_range.2 (big hy h1), by rw [Nat.testBit_or, h1]; rfl⟩, ?_⟩
      unfold litOf ofN
      rw [if_pos h1, if_neg (by decide)]; omega
    · refine ⟨x.natAbs - 1, List.mem_filter.2 ⟨List.mem_range.2 (big hm h1), by rw [Nat.testBit_or, h1, Bool.or_true]⟩, ?_⟩
      unfold litOf ofN
      have : y.testBit (x.natAbs - 1) = false := by
        cases h : y.testBit (x.natAbs - 1) with
        | false => rfl
        | true => exact (ex _ h h1).elim
      have e : (if y.testBit (x.natAbs - 1) = true then (1 : Int) else if m.testBit (x.natAbs - 1) = true then 2 else 0) = 2 := by rw [if_neg (by rw [this]; decide), if_pos h1]
      rw [if_pos e]; omega
theorem litOf_abs (y m v : Nat) : (litOf y m v).natAbs = v + 1 := by
  unfold litOf; split <;> omega
theorem lits_dif (y m : Nat) : Dif (litsN y m) := by
  unfold litsN digits Dif
  rw [List.pairwise_map]
  refine (List.Pairwise.filter _ List.pairwise_lt_range).imp fun h => ?_
  rw [litOf_abs, litOf_abs]; omega
theorem lits_lit (y m : Nat) : ∀ x ∈ litsN y m, Lit x := by
  intro x hx
  unfold litsN digits at hx
  obtain ⟨v, hv, rfl⟩ := List.mem_map.1 hx
  have := List.mem_range.1 (List.mem_filter.1 hv).1
  have := litOf_abs y m v
  unfold Lit; omega
theorem con_iff {y m : Nat} : y &&& m = 0 ↔ ∀ x, trM y m x → trM y m (-x) → False := by
  constructor
  · intro h x a b; exact trM_con h x a b
  · intro h
    refine (and_zero_iff _ _).2 fun i hi => h ((i + 1 : Nat) : Int) (.inl ⟨by omega, ?_⟩) (.inr ⟨by omega, ?_⟩)
    · rw [show ((i + 1 : Nat) : Int).natAbs - 1 = i by omega]; exact hi.1
    · rw [show (-((i + 1 : Nat) : Int)).natAbs - 1 = i by omega]; exact hi.2
theorem rsF_ok {v : Int} : ∀ {zs : List Int} {y m : Nat} {q : Bool}, (∀ z ∈ zs, Lit z) → y < 2 ^ 30 → m < 2 ^ 30 → (y &&& m = 0 ∨ q = false) →
    (∀ z, trM (rsF v zs y m q).1 (rsF v zs y m q).2.1 z ↔ trM y m z ∨ (z ∈ zs ∧ z ≠ v ∧ z ≠ -v)) ∧ ((rsF v zs y m q).2.2 = true ↔ q = true ∧ (rsF v zs y m q).1 &&& (rsF v zs y m q).2.1 = 0) ∧ (rsF v zs y m q).1 < 2 ^ 30 ∧ (rsF v zs y m q).2.1 < 2 ^ 30 := by
  intro zs
  induction zs with
  | nil =>
    intro y m q _ hy hm hc
    refine ⟨fun z => ⟨.inl, fun h => h.elim id fun h => by cases h.1⟩, ⟨fun h => ⟨h, hc.resolve_right fun e => ?_⟩, fun h => h.1⟩, hy, hm⟩
    have h : q = true := h
    rw [e] at h; cases h
  | cons x zs ih =>
    intro y m q hl hy hm hc
    have hx := hl x (List.mem_cons_self ..)
    have hl' : ∀ z ∈ zs, Lit z := fun z hz => hl z (List.mem_cons_of_mem _ hz)
    simp only [rsF]
    split
    · rename_i hv
      obtain ⟨a, b, c⟩ := ih hl' hy hm hc
      refine ⟨fun z => ?_, b, c⟩
      rw [a]
      constructor
      · rintro (h | ⟨h, r⟩)
        · exact .inl h
        · exact .inr ⟨List.mem_cons_of_mem _ h, r⟩
      · rintro (h | ⟨h, r1, r2⟩)
        · exact .inl h
        · rcases List.mem_cons.1 h with rfl | h
          · exact absurd hv (by omega)
          · exact .inr ⟨h, r1, r2⟩
    · rename_i hv
      have w := withN_lt hx hy hm
      obtain ⟨a, b, c⟩ := ih (q := q && decide ((withN y m x).1 &&& (withN y m x).2 = 0)) hl' w.1 w.2 (by
        by_cases h : (withN y m x).1 &&& (withN y m x).2 = 0
        · exact .inl h
        · right; simp [h])
      refine ⟨fun z => ?_, ?_, c⟩
      · rw [a, trM_with hx]
        constructor
        · rintro ((h | rfl) | ⟨h, r⟩)
          · exact .inl h
          · exact .inr ⟨List.mem_cons_self .., by omega, by omega⟩
          · exact .inr ⟨List.mem_cons_of_mem _ h, r⟩
        · rintro (h | ⟨h, r⟩)
          · exact .inl (.inl h)
          · rcases List.mem_cons.1 h with rfl | h
            · exact .inl (.inr rfl)
            · exact .inr ⟨h, r⟩
      · rw [b, Bool.and_eq_true, decide_eq_true_eq]
        constructor
        · rintro ⟨⟨h1, _⟩, h2⟩; exact ⟨h1, h2⟩
        · rintro ⟨h1, h2⟩
          refine ⟨⟨h1, con_iff.2 fun z p1 p2 => con_iff.1 h2 z ((a z).2 (.inl p1)) ((a (-z)).2 (.inl p2))⟩, h2⟩
/-- What two clauses are resolved to. -/
theorem resP_spec {xs ys : List Int} {v : Int} (hx : clB 30 0 xs = true) (hy : clB 30 0 ys = true) (h1 : 1 ≤ v) (h2 : v ≤ 30) (hv : v ∈ xs) (hw : -v ∈ ys) :
    (resP xs ys v = ([], 7) ∧ ∃ x ∈ xs, x ≠ v ∧ x ≠ -v ∧ -x ∈ ys) ∨ ∃ L, resP xs ys v = (L, 0) ∧ (¬ ∃ x ∈ xs, x ≠ v ∧ x ≠ -v ∧ -x ∈ ys) ∧ Dif L ∧ (∀ x ∈ L, Lit x) ∧ ∀ x, x ∈ L ↔ (x ∈ xs ∨ x ∈ ys) ∧ x ≠ v ∧ x ≠ -v := by
  have lx := fun x h => (clB_lit (by decide) hx x h).1
  have ly := fun x h => (clB_lit (by decide) hy x h).1
  have dx := clB_dif (by decide) hx
  have dy := clB_dif (by decide) hy
  have one : ∀ {l : List Int}, Dif l → ∀ {x}, x ≠ 0 → x ∈ l → -x ∈ l → False := by
    intro l d x h0 a b
    obtain ⟨i, hi, e1⟩ := List.getElem_of_mem a
    obtain ⟨j, hj, e2⟩ := List.getElem_of_mem b
    have := List.pairwise_iff_getElem.1 d
    rcases Nat.lt_trichotomy i j with h | h | h
    · have := this i j hi hj h; omega
    · subst h; omega
    · have := this j i hj hi h; omega
  have e : resP xs ys v = fin38 (rsF v (xs ++ ys) 0 0 true) := by
    unfold resP
    rw [if_neg (by rw [hx, hy]; simp; omega), if_neg (by simp [hv, hw])]
  have lz : ∀ z ∈ xs ++ ys, Lit z := fun z hz => (List.mem_append.1 hz).elim (lx z) (ly z)
  obtain ⟨a, b, c, d⟩ := rsF_ok (v := v) (q := true) lz (y := 0) (m := 0) (by decide) (by decide) (.inl rfl)
  have z0 : ∀ z, ¬ trM 0 0 z := fun z h => by
    rcases h with ⟨_, h⟩ | ⟨_, h⟩ <;> simp at h
  rw [e]
  unfold fin38
  cases hq : (rsF v (xs ++ ys) 0 0 true).2.2 with
  | false =>
    refine .inl ⟨rfl, Classical.byContradiction fun hn => ?_⟩
    have : (rsF v (xs ++ ys) 0 0 true).2.2 = true := b.2 ⟨rfl, con_iff.2 fun z p1 p2 => ?_⟩
    · rw [hq] at this; cases this
    · obtain ⟨m1, n1, n2⟩ := ((a z).1 p1).resolve_left (z0 z)
      obtain ⟨m2, _, _⟩ := ((a (-z)).1 p2).resolve_left (z0 _)
      have h0 := (lz z m1).1
      rcases List.mem_append.1 m1 with m1 | m1 <;> rcases List.mem_append.1 m2 with m2 | m2
      · exact one dx h0 m1 m2
      · exact hn ⟨z, m1, n1, n2, m2⟩
      · exact hn ⟨-z, m2, by omega, by omega, by rw [Int.neg_neg]; exact m1⟩
      · exact one dy h0 m1 m2
  | true =>
    have h0 := (b.1 hq).2
    refine .inr ⟨_, rfl, ?_, lits_dif _ _, lits_lit _ _, fun x => ?_⟩
    · rintro ⟨x, m1, n1, n2, m2⟩
      exact con_iff.1 h0 x ((a x).2 (.inr ⟨List.mem_append_left _ m1, n1, n2⟩)) ((a (-x)).2 (.inr ⟨List.mem_append_right _ m2, by omega, by omega⟩))
    · rw [lits_mem c d h0, a]
      constructor
      · rintro (h | ⟨h, r⟩)
        · exact (z0 _ h).elim
        · exact ⟨List.mem_append.1 h, r⟩
      · rintro ⟨h, r⟩
        exact .inr ⟨List.mem_append.2 h, r⟩
theorem isB_neg {m : Nat} {x : Int} (hx : x ≠ 0) : isB m (-x) = !(isB m x) := by
  unfold isB
  rw [Int.natAbs_neg]
  by_cases h : x < 0
  · rw [if_neg (by omega), if_pos h, Bool.not_not]
  · rw [if_pos (by omega), if_neg h]
theorem clB_of {vars : Int} : ∀ {l : List Int} {last : Int}, Dif l → (∀ x ∈ l, Lit x ∧ (x.natAbs : Int) ≤ vars) → (∀ x ∈ l, last < (x.natAbs : Int)) → clB vars last l = true := by
  intro l
  induction l with
  | nil => intro last _ _ _; rfl
  | cons x l ih =>
    intro last hd hl hlast
    obtain ⟨h1, h2⟩ := List.pairwise_cons.1 hd
    have hx := hl x (List.mem_cons_self ..)
    have := hlast x (List.mem_cons_self ..)
    simp only [clB]
    rw [varI_lit2 hx.1, if_neg (by omega)]
    exact ih h2 (fun z hz => hl z (List.mem_cons_of_mem _ hz)) fun z hz => by have := h1 z hz; omega
end Go.Proofs.YtfgfhplgnfbaaaaDoor
/- The plain law of proofs: what is accepted follows; more clauses do no harm. -/
namespace Go.Proofs.YtfgfhplgnfbaaaaDoor
open Go Go.Ev
theorem Der.mono {cls cls' : List (List Int)} {xs xs' : List Int} (h1 : ∀ l ∈ cls, l ∈ cls') (h2 : ∀ x ∈ xs, x ∈ xs') {z : Int} (h : Der cls xs z) : Der cls' xs' z := by
  induction h with
  | base h => exact .base (h2 _ h)
  | unit hl hx _ ih => exact .unit (h1 _ hl) hx ih
theorem Cl.mono {cls cls' : List (List Int)} {xs xs' : List Int} (h1 : ∀ l ∈ cls, l ∈ cls') (h2 : ∀ x ∈ xs, x ∈ xs') (h : Cl cls xs) : Cl cls' xs' := by
  rcases h with ⟨x, a, b⟩ | ⟨l, hl, a⟩
  · exact .inl ⟨x, a.mono h1 h2, b.mono h1 h2⟩
  · exact .inr ⟨l, h1 l hl, fun y hy => (a y hy).mono h1 h2⟩
/-- Clauses as they are asked for. -/
def Good (cls : List (List Int)) : Prop := ∀ l ∈ cls, (∀ x ∈ l, Lit x) ∧ Dif l
theorem calm_iff {cls : List (List Int)} {xs : List Int} (hd : Good cls) (hx : ∀ x ∈ xs, Lit x) : (fromN (cls.map sideN) xs).2 = true ↔ ¬ Cl cls xs := by
  obtain ⟨a, b⟩ := fromN_ok hd hx
  constructor
  · intro h; exact (a h).1.not
  · intro h
    cases e : (fromN (cls.map sideN) xs).2 with
    | true => rfl
    | false => exact absurd (b e) h
/-- A model is calm. -/
theorem model_calm {cls : List (List Int)} {xs : List Int} {m : Nat} (hd : ∀ l ∈ cls, ∀ x ∈ l, x ≠ 0) (hx : ∀ x ∈ xs, x ≠ 0) (h1 : ∀ c ∈ cls, c.any (isB m) = true) (h2 : ∀ x ∈ xs, isB m x = true) : ¬ Cl cls xs := by
  have C : Calm cls xs fun x => x ≠ 0 ∧ isB m x = true := ⟨fun x a b => by
    have b2 := b.2
    rw [isB_neg a.1, a.2] at b2
    exact Bool.noConfusion b2, fun x h => ⟨hx x h, h2 x h⟩, fun l hl => by
    obtain ⟨x, hxl, ht⟩ := List.any_eq_true.1 (h1 l hl)
    exact .inl ⟨x, hxl, hd l hl x hxl, ht⟩⟩
  exact C.not
theorem accF_true {gs : List Int} {m : Nat} (hg : ∀ x ∈ gs, Lit x ∧ isB m x = true) : ∀ {pf cls : List (List Int)} {i : Nat}, Good cls → Good pf → accF gs cls pf i = none → (∀ c ∈ cls, c.any (isB m) = true) → ∀ l ∈ pf, l.any (isB m) = true := by
  intro pf
  induction pf with
  | nil => intro cls i _ _ _ _ l h; cases h
  | cons x pf ih =>
    intro cls i hc hp ha hm l hl
    simp only [accF] at ha
    split at ha
    · cases ha
    · rename_i hn
      obtain ⟨hx1, hx2⟩ := hp x (List.mem_cons_self ..)
      have lits : ∀ z ∈ gs ++ x.map (fun x => -x), Lit z := fun z hz => (List.mem_append.1 hz).elim (fun h => (hg z h).1) (lit_neg hx1 z)
      have hcl : Cl cls (gs ++ x.map fun x => -x) := Classical.byContradiction fun h => hn ((calm_iff hc lits).2 h)
      have hx : x.any (isB m) = true := by
        cases e : x.any (isB m) with
        | true => rfl
        | false =>
          refine absurd hcl (model_calm (fun l hl z hz => ((hc l hl).1 z hz).1) (fun z hz => (lits z hz).1) hm fun z hz => ?_)
          rcases List.mem_append.1 hz with hz | hz
          · exact (hg z hz).2
          · obtain ⟨w, hw, rfl⟩ := List.mem_map.1 hz
            rw [isB_neg (hx1 w hw).1]
            have := List.any_eq_false.1 e w hw
            simpa using this
      rcases List.mem_cons.1 hl with rfl | hl
      · exact hx
      · refine ih (cls := cls ++ [x]) (fun l hl => ?_) (fun l hl => hp l (List.mem_cons_of_mem _ hl)) ha (fun c hc' => ?_) l hl
        · rcases List.mem_append.1 hl with hl | hl
          · exact hc l hl
          · rw [List.mem_singleton.1 hl]; exact ⟨hx1, hx2⟩
        · rcases List.mem_append.1 hc' with hc' | hc'
          · exact hm c hc'
          · rw [List.mem_singleton.1 hc']; exact hx
theorem accF_mono {gs gs' : List Int} (hg : ∀ x ∈ gs, x ∈ gs') (hgl : ∀ x ∈ gs', Lit x) : ∀ {pf cls cls' : List (List Int)} {i : Nat}, Good cls → Good cls' → Good pf → (∀ l ∈ cls, l ∈ cls') → accF gs cls pf i = none → accF gs' cls' pf i = none := by
  intro pf
  induction pf with
  | nil => intro cls cls' i _ _ _ _ _; rfl
  | cons x pf ih =>
    intro cls cls' i hc hc' hp hs ha
    simp only [accF] at ha ⊢
    split at ha
    · cases ha
    · rename_i hn
      obtain ⟨hx1, hx2⟩ := hp x (List.mem_cons_self ..)
      have lits : ∀ z ∈ gs ++ x.map (fun x => -x), Lit z := fun z hz => (List.mem_append.1 hz).elim (fun h => hgl z (hg z h)) (lit_neg hx1 z)
      have lits' : ∀ z ∈ gs' ++ x.map (fun x => -x), Lit z := fun z hz => (List.mem_append.1 hz).elim (hgl z) (lit_neg hx1 z)
      have hcl : Cl cls (gs ++ x.map fun x => -x) := Classical.byContradiction fun h => hn ((calm_iff hc lits).2 h)
      have hcl' : Cl cls' (gs' ++ x.map fun x => -x) := hcl.mono hs fun z hz => (List.mem_append.1 hz).elim (fun h => List.mem_append_left _ (hg z h)) (List.mem_append_right _)
      rw [if_neg (fun h => (calm_iff hc' lits').1 h hcl')]
      have add : ∀ {c : List (List Int)}, Good c → Good (c ++ [x]) := fun {c} h l hl => by
        rcases List.mem_append.1 hl with hl | hl
        · exact h l hl
        · rw [List.mem_singleton.1 hl]; exact ⟨hx1, hx2⟩
      exact ih (add hc) (add hc') (fun l hl => hp l (List.mem_cons_of_mem _ hl)) (fun l hl => by
        rcases List.mem_append.1 hl with hl | hl
        · exact List.mem_append_left _ (hs l hl)
        · exact List.mem_append_right _ hl) ha
/-- A clause of variables up to a number. -/
def Cv (vars : Int) (l : List Int) : Prop := Dif l ∧ ∀ x ∈ l, Lit x ∧ (x.natAbs : Int) ≤ vars
theorem Cv.b {vars : Int} {l : List Int} (h : Cv vars l) : clB vars 0 l = true := clB_of h.1 h.2 fun x hx => by have := (h.2 x hx).1.1; omega
theorem good_of {vars : Int} {cls : List (List Int)} (h : ∀ l ∈ cls, Cv vars l) : Good cls := fun l hl => ⟨fun x hx => ((h l hl).2 x hx).1, (h l hl).1⟩
theorem ask_of {vars : Int} {cls : List (List Int)} {gs : List Int} (h0 : 0 ≤ vars) (h1 : vars ≤ 30) (hl : cls.length ≤ 120) (hc : ∀ l ∈ cls, Cv vars l) (hg : Cv vars gs) : askB vars cls gs = true := by
  unfold askB formB
  rw [hg.b, List.all_eq_true.2 fun l hl => (hc l hl).b]
  simp; omega
/-- What is accepted has no model. -/
theorem sound {cls pf : List (List Int)} {gs : List Int} (hc : Good cls) (hp : Good pf) (hg : ∀ x ∈ gs, Lit x) (ha : accF gs cls pf 0 = none) (he : [] ∈ pf) (n : Nat) : modelsN n cls gs = [] := by
  unfold modelsN
  rw [List.filter_eq_nil_iff]
  intro m _ hm
  unfold satM at hm
  rw [Bool.and_eq_true, List.all_eq_true, List.all_eq_true] at hm
  have := accF_true (fun x hx => ⟨hg x hx, hm.1 x hx⟩) hc hp ha hm.2 [] he
  cases this
theorem clsN_ok {vars many : Nat} {cl : List Int} (p : PuzOk vars many cl) {N : Int} (hN : 1 ≤ N ∧ N ≤ 30) : ∀ k, (clsN N cl k).length = k ∧ ∀ l ∈ clsN N cl k, Cv N l ∧ l.length ≤ 3 := by
  intro k
  induction k with
  | zero => exact ⟨rfl, fun l h => by cases h⟩
  | succ k ih =>
    refine ⟨by simp [clsN, ih.1], fun l hl => ?_⟩
    simp only [clsN] at hl
    rcases List.mem_append.1 hl with hl | hl
    · exact ih.2 l hl
    · rw [List.mem_singleton.1 hl]
      have := rst3_lit hN (p.at (3 * k)) (p.at (3 * k + 1)) (p.at (3 * k + 2)) 0
      refine ⟨⟨clauseN_dif _, fun x hx => ?_⟩, Nat.le_trans (clauseN_len _) (rst3_len ..)⟩
      have := clauseN_mem this x hx
      exact ⟨this.1, by omega⟩
end Go.Proofs.YtfgfhplgnfbaaaaDoor
/- What a search finds: the decisions are proper; what clashes is enough. -/
namespace Go.Proofs.YtfgfhplgnfbaaaaDoor
open Go Go.Ev
/-- Literals of some variables. -/
abbrev Lv (vars : Int) (l : List Int) : Prop := ∀ x ∈ l, Lit x ∧ (x.natAbs : Int) ≤ vars
/-- Decisions: their variables increase, and all variables before one of them have a truth. -/
structure Dcs (N : Nat) (cls : List (List Int)) (gs ds : List Int) : Prop where
  cv : Cv (Int.ofNat N) ds
  all : ∀ x ∈ ds, ∀ w : Int, 1 ≤ w → w < x.natAbs → Der cls (gs ++ ds) w ∨ Der cls (gs ++ ds) (-w)
theorem dif_len {N : Nat} : ∀ {l : List Int} {lo : Nat}, Dif l → (∀ x ∈ l, lo < x.natAbs ∧ x.natAbs ≤ N) → l.length + lo ≤ N ∨ l = [] := by
  intro l
  induction l with
  | nil => intro lo _ _; exact .inr rfl
  | cons x l ih =>
    intro lo hd hx
    obtain ⟨h1, h2⟩ := List.pairwise_cons.1 hd
    have h3 := hx x (by simp)
    rcases ih (lo := x.natAbs) h2 (fun y hy => ⟨h1 y hy, (hx y (List.mem_cons_of_mem _ hy)).2⟩) with h | h
    · left; simp; omega
    · subst h; left; simp; omega
theorem Dcs.len {N : Nat} {cls : List (List Int)} {gs ds : List Int} (D : Dcs N cls gs ds) : ds.length ≤ N := by
  rcases dif_len (N := N) (lo := 0) D.cv.1 (fun x hx => by obtain ⟨h1, h2⟩ := D.cv.2 x hx; have := h1.1; simp only [Int.ofNat_eq_natCast] at h2; omega) with h | h
  · omega
  · subst h; simp
theorem freeM_bit {N y m i : Nat} : (freeM N y m).testBit i = (decide (i < N) && !(y ||| m).testBit i) := by
  unfold freeM
  rw [testBit_andn, Nat.testBit_two_pow_sub_one]
theorem lowF_bit {u : Nat} (h0 : u ≠ 0) (hu : u < 2 ^ 30) : u.testBit (lowF u) = true ∧ ∀ i, i < lowF u → u.testBit i = false := by
  obtain ⟨j, e, _⟩ := lowF_spec h0 hu
  generalize lowF u = k at *
  have e2 : u = 2 ^ k * (2 * j + 1) := by rw [e, Nat.pow_succ, Nat.mul_add, Nat.mul_one, Nat.mul_assoc]
  subst e2
  refine ⟨?_, fun i hi => ?_⟩
  · rw [Nat.testBit_two_pow_mul]
    simp
  · rw [Nat.testBit_two_pow_mul]
    simp; omega
section
variable {N : Nat} {cls : List (List Int)} {gs : List Int} (hN : N ≤ 30) (hc : ∀ l ∈ cls, Cv (Int.ofNat N) l) (hg : Lv (Int.ofNat N) gs)
include hN hc hg
omit hN hc in
theorem Dcs.lit {ds : List Int} (D : Dcs N cls gs ds) : ∀ x ∈ gs ++ ds, Lit x := fun x hx => by
  rcases List.mem_append.1 hx with hx | hx
  · exact (hg x hx).1
  · exact (D.cv.2 x hx).1
/-- What a node knows whose propagation is calm. -/
theorem node_calm {ds : List Int} (D : Dcs N cls gs ds) (hq : (fromN (cls.map sideN) (gs ++ ds)).2 = true) :
    Calm cls (gs ++ ds) (trM (fromN (cls.map sideN) (gs ++ ds)).1.1 (fromN (cls.map sideN) (gs ++ ds)).1.2) ∧ ∀ z, trM (fromN (cls.map sideN) (gs ++ ds)).1.1 (fromN (cls.map sideN) (gs ++ ds)).1.2 z → Der cls (gs ++ ds) z :=
  have _ := hN
  (fromN_ok (good_of hc) (Dcs.lit hg D)).1 hq
/-- The variables before the one that is open have a truth. -/
theorem low_der {ds : List Int} (D : Dcs N cls gs ds) (hq : (fromN (cls.map sideN) (gs ++ ds)).2 = true) {k : Nat} (hk : k = lowF (freeM N (fromN (cls.map sideN) (gs ++ ds)).1.1 (fromN (cls.map sideN) (gs ++ ds)).1.2)) (hf : freeM N (fromN (cls.map sideN) (gs ++ ds)).1.1 (fromN (cls.map sideN) (gs ++ ds)).1.2 ≠ 0) :
    k < N ∧ (∀ w : Int, 1 ≤ w → w < Int.ofNat (k + 1) → Der cls (gs ++ ds) w ∨ Der cls (gs ++ ds) (-w)) ∧ ∀ x ∈ ds, x.natAbs < k + 1 := by
  obtain ⟨C, T⟩ := node_calm hN hc hg D hq
  generalize (fromN (cls.map sideN) (gs ++ ds)).1.1 = y at *
  generalize (fromN (cls.map sideN) (gs ++ ds)).1.2 = m at *
  obtain ⟨b1, b2⟩ := lowF_bit hf (freeM_lt hN)
  rw [← hk] at b1 b2
  rw [freeM_bit, Bool.and_eq_true] at b1
  have hkN : k < N := of_decide_eq_true b1.1
  have bk : (y ||| m).testBit k = false := by simpa using b1.2
  rw [Nat.testBit_or, Bool.or_eq_false_iff] at bk
  have nt : ∀ x : Int, x.natAbs = k + 1 → ¬ trM y m x := fun x hx h => by
    rcases h with ⟨_, h⟩ | ⟨_, h⟩
    · rw [hx, Nat.add_sub_cancel, bk.1] at h; cases h
    · rw [hx, Nat.add_sub_cancel, bk.2] at h; cases h
  refine ⟨hkN, fun w h1 h2 => ?_, fun x hx => ?_⟩
  · simp only [Int.ofNat_eq_natCast] at h2
    have b3 := b2 (w.natAbs - 1) (by omega)
    rw [freeM_bit, decide_eq_true (by omega), Bool.true_and, Bool.not_eq_false', Nat.testBit_or, Bool.or_eq_true] at b3
    rcases b3 with b3 | b3
    · exact .inl (T w (.inl ⟨by omega, b3⟩))
    · exact .inr (T (-w) (.inr ⟨by omega, by rw [Int.natAbs_neg]; exact b3⟩))
  · rcases Nat.lt_trichotomy x.natAbs (k + 1) with h | h | h
    · exact h
    · exact absurd (C.beg x (List.mem_append_right _ hx)) (nt x h)
    · exfalso
      rcases D.all x hx (Int.ofNat (k + 1)) (by simp only [Int.ofNat_eq_natCast]; omega) (by simp only [Int.ofNat_eq_natCast]; omega) with h1 | h1
      · exact nt _ (by simp only [Int.ofNat_eq_natCast]; omega) (C.all h1)
      · exact nt _ (by simp only [Int.ofNat_eq_natCast]; omega) (C.all h1)
theorem Dcs.more {ds : List Int} (D : Dcs N cls gs ds) {k : Nat} (hk : k < N) (hw : ∀ w : Int, 1 ≤ w → w < Int.ofNat (k + 1) → Der cls (gs ++ ds) w ∨ Der cls (gs ++ ds) (-w)) (hd : ∀ x ∈ ds, x.natAbs < k + 1) {x : Int} (hx : x.natAbs = k + 1) : Dcs N cls gs (ds ++ [x]) := by
  have _ := hc; have _ := hg
  have mono : ∀ {z}, Der cls (gs ++ ds) z → Der cls (gs ++ (ds ++ [x])) z := fun h => h.mono (fun _ h => h) fun z hz => by
    rcases List.mem_append.1 hz with h | h
    · exact List.mem_append_left _ h
    · exact List.mem_append_right _ (List.mem_append_left _ h)
  refine ⟨⟨List.pairwise_append.2 ⟨D.cv.1, List.pairwise_singleton _ _, fun a ha b hb => by rw [List.mem_singleton] at hb; subst hb; have := hd a ha; omega⟩, fun z hz => ?_⟩, fun z hz w h1 h2 => ?_⟩
  · rcases List.mem_append.1 hz with h | h
    · exact D.cv.2 z h
    · rw [List.mem_singleton] at h; subst h
      exact ⟨⟨by omega, by omega, by omega⟩, by simp only [Int.ofNat_eq_natCast]; omega⟩
  · rcases List.mem_append.1 hz with h | h
    · exact (D.all z h w h1 h2).imp mono mono
    · rw [List.mem_singleton] at h; subst h
      exact (hw w h1 (by simp only [Int.ofNat_eq_natCast]; omega)).imp mono mono
theorem dec_ok : Dec N (cls.map sideN) gs (Dcs N cls gs) := by
  refine ⟨fun ds D => ⟨D.len, fun x hx => (D.cv.2 x hx).1, D.cv.1⟩, fun ds D hq hf => ?_⟩
  obtain ⟨h1, h2, h3⟩ := low_der hN hc hg D hq rfl hf
  exact ⟨Dcs.more hN hc hg D h1 h2 h3 (by simp only [Int.ofNat_eq_natCast]; omega), Dcs.more hN hc hg D h1 h2 h3 (by simp only [Int.ofNat_eq_natCast]; omega)⟩
omit hN hc hg in
theorem dcs_nil : Dcs N cls gs [] := ⟨⟨List.Pairwise.nil, fun _ h => by cases h⟩, fun _ h => by cases h⟩
omit hN hc hg in
theorem needF_clash (cl : List Int → Bool) : ∀ (i : Nat) (out : List Int), cl out = true → cl (needF cl i out) = true := by
  intro i
  induction i with
  | zero => intro out h; exact h
  | succ i ih =>
    intro out h
    unfold needF
    split
    · exact ih _ (by assumption)
    · exact ih _ h
omit hN hc hg in
theorem accF_none_i {gs : List Int} : ∀ {pf cls : List (List Int)} {i j : Nat}, accF gs cls pf i = none → accF gs cls pf j = none := by
  intro pf
  induction pf with
  | nil => intro cls i j _; rfl
  | cons l ls ih =>
    intro cls i j h
    unfold accF at h ⊢
    split at h
    · cases h
    · rename_i h1
      rw [if_neg h1]
      exact ih h
omit hN hc hg in
theorem accF_append {gs : List Int} : ∀ {ls ks cls : List (List Int)} {i : Nat}, accF gs cls ls i = none → accF gs (cls ++ ls) ks 0 = none → accF gs cls (ls ++ ks) i = none := by
  intro ls
  induction ls with
  | nil => intro ks cls i _ h; rw [List.append_nil] at h; exact accF_none_i h
  | cons l ls ih =>
    intro ks cls i h1 h2
    unfold accF at h1
    rw [List.cons_append]
    unfold accF
    split at h1
    · cases h1
    · rename_i h3
      rw [if_neg h3]
      exact ih h1 (by rw [List.append_assoc]; exact h2)
end
end Go.Proofs.YtfgfhplgnfbaaaaDoor
/- What a search finds: the first model, or lines that follow. -/
namespace Go.Proofs.YtfgfhplgnfbaaaaDoor
open Go Go.Ev
/-- An earlier model: the first variable in which they differ is false. -/
def LexLt (N a b : Nat) : Prop := ∃ i, i < N ∧ a.testBit i = false ∧ b.testBit i = true ∧ ∀ j, j < i → a.testBit j = b.testBit j
/-- A literal and its contrary are of one variable. -/
theorem dif_ne {l : List Int} (d : Dif l) {x : Int} (h1 : x ∈ l) (h2 : -x ∈ l) (h0 : x ≠ 0) : False := by
  induction l with
  | nil => cases h1
  | cons z l ih =>
    obtain ⟨d1, d2⟩ := List.pairwise_cons.1 d
    rcases List.mem_cons.1 h1 with e1 | e1 <;> rcases List.mem_cons.1 h2 with e2 | e2
    · omega
    · have := d1 _ e2; rw [Int.natAbs_neg, e1] at this; omega
    · have := d1 _ e1; rw [← e2, Int.natAbs_neg] at this; omega
    · exact ih d2 e1 e2
/-- What holds at a search's end. -/
structure Spec (N : Nat) (cls : List (List Int)) (gs ds : List Int) (s : Sr) : Prop where
  how : s.how = 0 ∨ s.how = 1 ∨ s.how = 2
  good : ∀ l ∈ s.lines, Cv (Int.ofNat N) l
  rup : accF gs cls s.lines 0 = none
  clo : s.how = 1 → Cv (Int.ofNat N) s.c ∧ (∀ x ∈ s.c, -x ∈ ds) ∧ ∃ L, s.lines = L ++ [s.c]
  ful : s.how = 0 → (∀ i, (s.y ||| s.m).testBit i = decide (i < N)) ∧ s.y &&& s.m = 0
  fnd : s.how = 0 → (∀ x ∈ gs ++ ds, isB s.y x = true) ∧ (∀ l ∈ cls, l.any (isB s.y) = true) ∧ ∀ m', (∀ x ∈ gs ++ ds, isB m' x = true) → (∀ l ∈ cls, l.any (isB m') = true) → (∀ i, i < N → s.y.testBit i = m'.testBit i) ∨ LexLt N s.y m'
theorem der_true {cls : List (List Int)} {xs : List Int} {m : Nat} (hd : ∀ l ∈ cls, ∀ x ∈ l, x ≠ 0) (hx : ∀ x ∈ xs, x ≠ 0) (h1 : ∀ c ∈ cls, c.any (isB m) = true) (h2 : ∀ x ∈ xs, isB m x = true) {z : Int} (h : Der cls xs z) : isB m z = true := by
  have C : Calm cls xs fun x => x ≠ 0 ∧ isB m x = true := by
    refine ⟨fun x a b => ?_, fun x h => ⟨hx x h, h2 x h⟩, fun l hl => .inl ?_⟩
    · have b2 := b.2
      rw [isB_neg a.1, a.2] at b2
      cases b2
    · obtain ⟨x, hx, h⟩ := List.any_eq_true.1 (h1 l hl)
      exact ⟨x, hx, hd l hl x hx, h⟩
  exact (C.all h).2
/-- Bits that a literal tells. -/
theorem isB_pos {m k : Nat} : isB m (Int.ofNat (k + 1)) = m.testBit k := by
  unfold isB
  rw [if_neg (by simp only [Int.ofNat_eq_natCast]; omega)]
  rfl
theorem isB_of_neg {m k : Nat} : isB m (-Int.ofNat (k + 1)) = !m.testBit k := by
  rw [isB_neg (by simp only [Int.ofNat_eq_natCast]; omega), isB_pos]
section
variable {N : Nat} {cls : List (List Int)} {gs : List Int} (hN : N ≤ 30) (hc : ∀ l ∈ cls, Cv (Int.ofNat N) l) (hg : Lv (Int.ofNat N) gs)
include hN hc hg
theorem nz_cls : ∀ l ∈ cls, ∀ x ∈ l, x ≠ 0 := fun l hl x hx => by have _ := hN; have _ := hg; exact ((hc l hl).2 x hx).1.1
/-- A clash at a node: the clause of the contraries of what is needed. -/
theorem leaf_spec {ds : List Int} (D : Dcs N cls gs ds) (hq : (fromN (cls.map sideN) (gs ++ ds)).2 = false) {y m left : Nat} : Spec N cls gs ds ⟨y, m, (needF (clashN (cls.map sideN) gs) ds.length ds).map fun x => -x, 1, left, [(needF (clashN (cls.map sideN) gs) ds.length ds).map fun x => -x]⟩ := by
  have _ := hN; have _ := hc; have _ := hg
  have sub := needF_sub (clashN (cls.map sideN) gs) ds.length ds
  have cl := needF_clash (clashN (cls.map sideN) gs) ds.length ds (by unfold clashN; rw [hq]; rfl)
  generalize needF (clashN (cls.map sideN) gs) ds.length ds = nd at *
  have cv : Cv (Int.ofNat N) (nd.map fun x => -x) := ⟨Dif.neg (List.Pairwise.sublist sub D.cv.1), fun x hx => by
    obtain ⟨z, hz, rfl⟩ := List.mem_map.1 hx
    have h := D.cv.2 z (sub.subset hz)
    refine ⟨lit_neg (l := nd) (fun x hx => (D.cv.2 x (sub.subset hx)).1) _ hx, by rw [Int.natAbs_neg]; exact h.2⟩⟩
  refine ⟨.inr (.inl rfl), fun l hl => by rw [List.mem_singleton] at hl; subst hl; exact cv, ?_, fun _ => ⟨cv, fun x hx => ?_, [], rfl⟩, fun h => (by cases h), fun h => by cases h⟩
  · unfold accF
    rw [List.map_map, show ((fun x : Int => -x) ∘ fun x => -x) = id by funext x; simp, List.map_id]
    unfold clashN at cl
    rw [if_neg (by simpa using cl)]
    rfl
  · obtain ⟨z, hz, rfl⟩ := List.mem_map.1 hx
    rw [Int.neg_neg]; exact sub.subset hz
/-- What is derived is of the variables. -/
theorem der_le {ds : List Int} (D : Dcs N cls gs ds) {z : Int} (h : Der cls (gs ++ ds) z) : (z.natAbs : Int) ≤ Int.ofNat N := by
  have _ := hN
  induction h with
  | base h =>
    rcases List.mem_append.1 h with h | h
    · exact (hg _ h).2
    · exact (D.cv.2 _ h).2
  | unit hl hx _ _ => exact ((hc _ hl).2 _ hx).2
/-- No clash, and nothing is open: the first model. -/
theorem found_spec {ds : List Int} (D : Dcs N cls gs ds) (hq : (fromN (cls.map sideN) (gs ++ ds)).2 = true) (hf : freeM N (fromN (cls.map sideN) (gs ++ ds)).1.1 (fromN (cls.map sideN) (gs ++ ds)).1.2 = 0) {left : Nat} :
    Spec N cls gs ds ⟨(fromN (cls.map sideN) (gs ++ ds)).1.1, (fromN (cls.map sideN) (gs ++ ds)).1.2, [], 0, left, []⟩ := by
  obtain ⟨C, T⟩ := node_calm hN hc hg D hq
  generalize (fromN (cls.map sideN) (gs ++ ds)).1.1 = y at *
  generalize (fromN (cls.map sideN) (gs ++ ds)).1.2 = m at *
  have full : ∀ i, i < N → y.testBit i = true ∨ m.testBit i = true := fun i hi => by
    have h : (freeM N y m).testBit i = false := by rw [hf]; exact Nat.zero_testBit i
    rw [freeM_bit, decide_eq_true hi, Bool.true_and, Bool.not_eq_false', Nat.testBit_or, Bool.or_eq_true] at h
    exact h
  have tr : ∀ x : Int, x ≠ 0 → trM y m x → isB y x = true := fun x hx h => by
    unfold isB
    rcases h with ⟨h1, h2⟩ | ⟨h1, h2⟩
    · rw [if_neg (by omega)]; exact h2
    · rw [if_pos h1]
      cases h3 : y.testBit (x.natAbs - 1) with
      | false => rfl
      | true => exact (C.con x (.inr ⟨h1, h2⟩) (.inl ⟨by omega, by rw [Int.natAbs_neg]; exact h3⟩)).elim
  have lits := Dcs.lit hg D
  refine ⟨.inl rfl, fun l hl => (by cases hl), rfl, fun h => (by cases h), fun _ => ⟨fun i => ?_, Nat.eq_of_testBit_eq fun i => ?_⟩, fun _ => ⟨fun x hx => tr x (lits x hx).1 (C.beg x hx), fun l hl => ?_, fun m' h1 h2 => .inl fun i hi => ?_⟩⟩
  · rw [Nat.testBit_or]
    rcases Nat.lt_or_ge i N with hi | hi
    · rw [decide_eq_true hi, Bool.or_eq_true]; exact full i hi
    · rw [decide_eq_false (by omega), Bool.or_eq_false_iff]
      constructor
      · cases h : y.testBit i with
        | false => rfl
        | true =>
          have := der_le hN hc hg D (T (Int.ofNat (i + 1)) (.inl ⟨by simp only [Int.ofNat_eq_natCast]; omega, by rw [show (Int.ofNat (i + 1)).natAbs - 1 = i by simp only [Int.ofNat_eq_natCast]; omega]; exact h⟩))
          simp only [Int.ofNat_eq_natCast] at this; omega
      · cases h : m.testBit i with
        | false => rfl
        | true =>
          have := der_le hN hc hg D (T (-Int.ofNat (i + 1)) (.inr ⟨by simp only [Int.ofNat_eq_natCast]; omega, by rw [show (-Int.ofNat (i + 1)).natAbs - 1 = i by simp only [Int.ofNat_eq_natCast]; omega]; exact h⟩))
          simp only [Int.ofNat_eq_natCast] at this; omega
  · rw [Nat.testBit_and, Nat.zero_testBit]
    cases h3 : y.testBit i with
    | false => rfl
    | true =>
      cases h : m.testBit i with
      | false => rfl
      | true => exact (C.con (Int.ofNat (i + 1)) (.inl ⟨by simp only [Int.ofNat_eq_natCast]; omega, by rw [show (Int.ofNat (i + 1)).natAbs - 1 = i by simp only [Int.ofNat_eq_natCast]; omega]; exact h3⟩) (.inr ⟨by simp only [Int.ofNat_eq_natCast]; omega, by rw [show (-Int.ofNat (i + 1)).natAbs - 1 = i by simp only [Int.ofNat_eq_natCast]; omega]; exact h⟩)).elim
  · rcases C.cl l hl with ⟨x, hx, h⟩ | ⟨x, hx, z, hz, _, h1, h2, _⟩
    · exact List.any_eq_true.2 ⟨x, hx, tr x (nz_cls hN hc hg l hl x hx) h⟩
    · exfalso
      obtain ⟨⟨n0, _⟩, hle⟩ := (hc l hl).2 x hx
      simp only [Int.ofNat_eq_natCast] at hle
      rcases full (x.natAbs - 1) (by omega) with h | h
      · rcases Int.lt_or_gt_of_ne n0 with hs | hs
        · exact h2 (.inl ⟨by omega, by rw [Int.natAbs_neg]; exact h⟩)
        · exact h1 (.inl ⟨by omega, h⟩)
      · rcases Int.lt_or_gt_of_ne n0 with hs | hs
        · exact h1 (.inr ⟨by omega, h⟩)
        · exact h2 (.inr ⟨by omega, by rw [Int.natAbs_neg]; exact h⟩)
  · have dt := fun {z : Int} (h : Der cls (gs ++ ds) z) => der_true (nz_cls hN hc hg) (fun x hx => (lits x hx).1) h2 h1 h
    rcases full i hi with h | h
    · have := dt (T (Int.ofNat (i + 1)) (.inl ⟨by simp only [Int.ofNat_eq_natCast]; omega, by rw [show (Int.ofNat (i + 1)).natAbs - 1 = i by simp only [Int.ofNat_eq_natCast]; omega]; exact h⟩))
      rw [isB_pos] at this
      rw [h, this]
    · have := dt (T (-Int.ofNat (i + 1)) (.inr ⟨by simp only [Int.ofNat_eq_natCast]; omega, by rw [show (-Int.ofNat (i + 1)).natAbs - 1 = i by simp only [Int.ofNat_eq_natCast]; omega]; exact h⟩))
      rw [isB_of_neg, Bool.not_eq_true'] at this
      rw [this]
      cases h3 : y.testBit i with
      | false => rfl
      | true => exact (C.con (Int.ofNat (i + 1)) (.inl ⟨by simp only [Int.ofNat_eq_natCast]; omega, by rw [show (Int.ofNat (i + 1)).natAbs - 1 = i by simp only [Int.ofNat_eq_natCast]; omega]; exact h3⟩) (.inr ⟨by simp only [Int.ofNat_eq_natCast]; omega, by rw [show (-Int.ofNat (i + 1)).natAbs - 1 = i by simp only [Int.ofNat_eq_natCast]; omega]; exact h⟩)).elim
/-- Two clauses of two branches are resolved. -/
theorem res_line {ds c1 c2 : List Int} {ls : List (List Int)} (D : Dcs N cls gs ds) {v : Int} (v1 : 1 ≤ v) (v2 : v ≤ N) (hv : ∀ x ∈ ds, (x.natAbs : Int) < v) (h1 : Cv (Int.ofNat N) c1) (h2 : Cv (Int.ofNat N) c2) (s1 : ∀ x ∈ c1, -x ∈ ds ++ [-v]) (s2 : ∀ x ∈ c2, -x ∈ ds ++ [v]) (m1 : v ∈ c1) (m2 : -v ∈ c2) (l1 : c1 ∈ ls) (l2 : c2 ∈ ls) (hls : ∀ l ∈ ls, Cv (Int.ofNat N) l) :
    Cv (Int.ofNat N) (resP c1 c2 v).1 ∧ (∀ x ∈ (resP c1 c2 v).1, -x ∈ ds) ∧ accF gs (cls ++ ls) [(resP c1 c2 v).1] 0 = none := by
  have a1 : ∀ x ∈ c1, x = v ∨ -x ∈ ds := fun x hx => by
    rcases List.mem_append.1 (s1 x hx) with h | h
    · exact .inr h
    · rw [List.mem_singleton] at h; exact .inl (by omega)
  have a2 : ∀ x ∈ c2, x = -v ∨ -x ∈ ds := fun x hx => by
    rcases List.mem_append.1 (s2 x hx) with h | h
    · exact .inr h
    · rw [List.mem_singleton] at h; exact .inl (by omega)
  have b30 : ∀ {l : List Int}, Cv (Int.ofNat N) l → clB 30 0 l = true := fun {l} h => clB_of h.1 (fun x hx => ⟨(h.2 x hx).1, by have := (h.2 x hx).2; simp only [Int.ofNat_eq_natCast] at this; omega⟩) fun x hx => by have := (h.2 x hx).1.1; omega
  rcases resP_spec (b30 h1) (b30 h2) v1 (by omega) m1 m2 with ⟨_, x, hx, e1, e2, e3⟩ | ⟨L, eL, _, dL, lL, mL⟩
  · exfalso
    rcases a1 x hx with h | h
    · exact e1 h
    · rcases a2 (-x) e3 with h' | h'
      · exact e1 (by omega)
      · rw [Int.neg_neg] at h'
        have hx0 := (h1.2 x hx).1.1
        exact dif_ne D.cv.1 h' h hx0
  · rw [eL]
    have sub : ∀ x ∈ L, -x ∈ ds := fun x hx => by
      obtain ⟨h, n1, n2⟩ := (mL x).1 hx
      rcases h with h | h
      · rcases a1 x h with h | h
        · exact absurd h n1
        · exact h
      · rcases a2 x h with h | h
        · exact absurd h n2
        · exact h
    have cv : Cv (Int.ofNat N) L := ⟨dL, fun x hx => ⟨lL x hx, by have := (D.cv.2 _ (sub x hx)).2; rwa [Int.natAbs_neg] at this⟩⟩
    refine ⟨cv, sub, ?_⟩
    have gd : Good (cls ++ ls) := fun l hl => by
      rcases List.mem_append.1 hl with h | h
      · exact good_of hc l h
      · exact good_of hls l h
    have lit : ∀ x ∈ gs ++ L.map fun x => -x, Lit x := fun x hx => by
      rcases List.mem_append.1 hx with h | h
      · exact (hg x h).1
      · exact lit_neg lL x h
    have neg : ∀ x ∈ L, Der (cls ++ ls) (gs ++ L.map fun x => -x) (-x) := fun x hx => .base (List.mem_append_right _ (List.mem_map.2 ⟨x, hx, rfl⟩))
    have n1 : ∀ x ∈ c1, x ≠ v → x ≠ -v := fun x hx e e2 => by
      rcases a1 x hx with h | h
      · exact e h
      · have := hv _ h; omega
    have n2 : ∀ x ∈ c2, x ≠ -v → x ≠ v := fun x hx e e2 => by
      rcases a2 x hx with h | h
      · exact e h
      · have := hv _ h; omega
    have dv : Der (cls ++ ls) (gs ++ L.map fun x => -x) v := .unit (List.mem_append_right _ l1) m1 fun x hx e => neg x ((mL x).2 ⟨.inl hx, e, n1 x hx e⟩)
    have hcl : Cl (cls ++ ls) (gs ++ L.map fun x => -x) := .inr ⟨c2, List.mem_append_right _ l2, fun x hx => by
      by_cases e : x = -v
      · subst e; rw [Int.neg_neg]; exact dv
      · exact neg x ((mL x).2 ⟨.inr hx, n2 x hx e, e⟩)⟩
    unfold accF
    rw [if_neg fun h => (calm_iff gd lit).1 h hcl]
    rfl
end
end Go.Proofs.YtfgfhplgnfbaaaaDoor
