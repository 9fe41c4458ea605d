/- Small laws of append, continued: elements of any kind. -/
import Derived.Test.YtfgfhplgnfbaaaaDoorVcB
namespace Go.Ev
open Go

/-- How an element's cells are told from it alone. -/
def ECells {α : Type} (enc : α → List Value) : Enc α := fun _ x vs => vs = enc x
theorem ECells.up {α : Type} (enc : α → List Value) : (ECells enc).Up := fun _ _ _ _ _ h => h
theorem flatMap_length {α : Type} {enc : α → List Value} {w : Nat} (hw : ∀ x, (enc x).length = w) : ∀ (xs : List α), (xs.flatMap enc).length = xs.length * w := by
  intro xs
  induction xs with
  | nil => simp
  | cons x xs ih => rw [List.flatMap_cons, List.length_append, ih, hw, List.length_cons, Nat.add_mul]; omega
theorem flatMap_part {α : Type} {enc : α → List Value} {w : Nat} (hw : ∀ x, (enc x).length = w) : ∀ (xs : List α) (i : Nat) (hi : i < xs.length), ((xs.flatMap enc).drop (i * w)).take w = enc xs[i] := by
  intro xs
  induction xs with
  | nil => intro i hi; simp at hi
  | cons x xs ih =>
    intro i hi
    rw [List.flatMap_cons]
    cases i with
    | zero => rw [Nat.zero_mul, List.drop_zero, ← hw x, List.take_left]; rfl
    | succ i =>
      rw [List.drop_append, List.drop_of_length_le (by rw [hw, Nat.add_mul]; omega), List.nil_append, hw, show (i + 1) * w - w = i * w by rw [Nat.add_mul]; omega]
      exact ih i (by simpa using hi)
theorem Acc.slAt {α : Type} {enc : α → List Value} {w : Nat} (hw : ∀ x, (enc x).length = w) (hw0 : 0 < w) {h : Hp} {base : Nat} {e : TypeId} {a : Option Addr} {n c : Nat} {xs : List α} (H : Acc h base e w a n c (xs.flatMap enc)) : SlAt w (ECells enc) h a n xs := by
  rcases H with ⟨rfl, rfl, rfl, h4⟩ | ⟨o, rfl, rfl, h3, h4, h5, h6⟩
  · have hl := flatMap_length hw xs
    rw [h4] at hl
    have : xs.length = 0 := by
      rcases Nat.eq_zero_or_pos xs.length with h | h
      · exact h
      · have := Nat.mul_pos h hw0
        simp at hl; omega
    have : xs = [] := List.length_eq_zero_iff.1 this
    subst this
    exact SlAt.nil ..
  · rw [flatMap_length hw] at h3
    have hn : n = xs.length := Nat.eq_of_mul_eq_mul_right hw0 h3
    refine ⟨hn, .inr ⟨o, 0, _, _, _, rfl, h5, h6, by rw [flatMap_length hw]; omega, fun i hi => ?_⟩⟩
    show ((xs.flatMap enc).drop (0 + i * w)).take w = enc xs[i]
    rw [Nat.zero_add]; exact flatMap_part hw xs i hi
/-- One element is appended, that lies somewhere. -/
theorem app_enc {α : Type} {enc : α → List Value} {w : Nat} (hw : ∀ x, (enc x).length = w) (h1 : ∀ x, (enc x).all one = true) {P : Program} {sT e : TypeId} {bytes : Nat} (T : AppT P sT e w bytes) {h : Hp} {base : Nat} {a : Option Addr} {n c : Nat} {xs : List α} (H : Acc h base e w a n c (xs.flatMap enc)) (hb : base ≤ h.nx) (hg : GdLt h base)
    {t c2 : Nat} {m : Md} {e2 : TypeId} {x : α} (src : h.get t = some (.cells (enc x) e2 m)) (hB : (n + 1 + (n + 1)) * bytes ≤ 281474976710656) (hU : n + 1 < big) :
    ∃ a' n' c' h', appendV P h sT sT (.slice a n c) (.slice (some ⟨t, 0, none⟩) 1 c2) = some (.slice a' n' c', h') ∧ Acc h' base e w a' n' c' ((xs ++ [x]).flatMap enc) ∧ n' = n + 1 ∧ AppK h h' a := by
  have hrd : readAt h t 0 (1 * w) = some (enc x) := by
    rw [readAt_get src (by rw [hw]; omega), List.drop_zero, Nat.one_mul, ← hw x, List.take_length]
  obtain ⟨a', n', c', h', e1, A, en, k1, k2, k3, k4⟩ := append_acc T H hb hg ⟨_, _, _, rfl⟩ (src_get (n := 1) (c := c2) (off := 0) hrd) (by rw [hw]; omega) (h1 x) hB hU
  exact ⟨a', n', c', h', e1, by rw [List.flatMap_append, List.flatMap_singleton]; exact A, en, k1, k2, k3, k4⟩
/-- All but what grows stays. -/
theorem AppK.get' {h h' : Hp} {base : Nat} {e : TypeId} {esz : Nat} {a : Option Addr} {n c : Nat} {xs : List Value} (k : AppK h h' a) (_ : Acc h base e esz a n c xs) {q : Nat} (hq : q < h.nx) (hne : ∀ off, a ≠ some ⟨q, off, none⟩) : h'.get q = h.get q := k.get q hq (hne 0)
end Go.Ev
/- Laws of append to an empty row, that a literal of no elements is. Lists of booleans. -/
namespace Go.Ev
open Go

/-- A list that grows, or a row of no elements. -/
def AccE (h : Hp) (base : Nat) (e : TypeId) (esz : Nat) (a : Option Addr) (n c : Nat) (xs : List Value) : Prop :=
  Acc h base e esz a n c xs ∨ (xs = [] ∧ n = 0 ∧ c = 0 ∧ ∃ o, a = some ⟨o, 0, none⟩ ∧ base ≤ o ∧ o < h.nx ∧ ∃ e2 m, h.get o = some (.cells [] e2 m))
theorem AccE.keep {h h' : Hp} {base : Nat} {e : TypeId} {esz : Nat} {a : Option Addr} {n c : Nat} {xs : List Value} (H : AccE h base e esz a n c xs) (hk : ∀ o, o < h.nx → a = some ⟨o, 0, none⟩ → h'.get o = h.get o) (hn : h.nx ≤ h'.nx) : AccE h' base e esz a n c xs :=
  H.imp (fun H => H.keep hk hn) fun ⟨h1, h2, h3, o, h4, h5, h6, e2, m, h7⟩ => ⟨h1, h2, h3, o, h4, h5, Nat.lt_of_lt_of_le h6 hn, e2, m, by rw [hk o h6 h4]; exact h7⟩
theorem AccE.lt {h : Hp} {base : Nat} {e : TypeId} {esz : Nat} {a : Option Addr} {n c : Nat} {xs : List Value} (H : AccE h base e esz a n c xs) {o : Nat} (ha : a = some ⟨o, 0, none⟩) : base ≤ o ∧ o < h.nx := by
  rcases H with (⟨h1, _⟩ | ⟨q, h1, _, _, h2, h3, _⟩) | ⟨_, _, _, q, h1, h2, h3, _⟩
  · rw [h1] at ha; cases ha
  · rw [h1] at ha; injection ha with ha; injection ha with ha; subst ha; exact ⟨h2, h3⟩
  · rw [h1] at ha; injection ha with ha; injection ha with ha; subst ha; exact ⟨h2, h3⟩
theorem AppK.kpE {h h' : Hp} {base : Nat} {e : TypeId} {esz : Nat} {a : Option Addr} {n c : Nat} {xs : List Value} (k : AppK h h' a) (H : AccE h base e esz a n c xs) (hb : base ≤ h.nx) : Kp base h h' :=
  ⟨fun q hq => k.get q (by omega) fun hh => by have := (H.lt hh).1; omega, k.nx, k.gd, k.fr⟩
theorem append_accE {P : Program} {sT e : TypeId} {esz bytes : Nat} (T : AppT P sT e esz bytes) {h : Hp} {base : Nat} {a : Option Addr} {n c : Nat} {xs : List Value} (H : AccE h base e esz a n c xs) (hb : base ≤ h.nx) (hg : GdLt h base)
    {x : Value} {ys : List Value} {k : Nat} (hx : ∃ a n c, x = .slice a n c) (hs : srcCells h esz x = some (ys, k)) (hk : ys.length = k * esz) (h1 : ys.all one = true) (hB : (n + k + (n + k)) * bytes ≤ 281474976710656) (hU : n + k < big) :
    ∃ a' n' c' h', appendV P h sT sT (.slice a n c) x = some (.slice a' n' c', h') ∧ AccE h' base e esz a' n' c' (xs ++ ys) ∧ n' = n + k ∧ AppK h h' a := by
  rcases H with H | ⟨rfl, rfl, rfl, o, rfl, h2, h3, e2, m, h4⟩
  · obtain ⟨a', n', c', h', e1, A, en, k1, k2, k3, k4⟩ := append_acc T H hb hg hx hs hk h1 hB hU
    exact ⟨a', n', c', h', e1, .inl A, en, k1, k2, k3, k4⟩
  · obtain ⟨hz, info, z, hi, hzz, hrun⟩ := T.run
    rw [hrun h _ x hx, hs]
    simp only [Option.bind_some, h1, cond_true]
    rcases Nat.eq_zero_or_pos k with rfl | hkp
    · have : ys = [] := List.length_eq_zero_iff.1 (by omega)
      subst this
      simp only [Nat.beq_refl, cond_true]
      exact ⟨_, 0, 0, h, rfl, .inr ⟨rfl, rfl, rfl, o, rfl, h2, h3, e2, m, h4⟩, rfl, Nat.le_refl _, rfl, id, fun _ _ _ => rfl⟩
    · have hk0 : Nat.beq k 0 = false := by rw [Bool.eq_false_iff]; intro hh; have := Nat.eq_of_beq_eq_true hh; omega
      simp only [hk0, cond_false]
      have e1 : appSome h e bytes esz (.slice (some ⟨o, 0, none⟩) 0 0) ys k = some (.slice (some ⟨h.nx, 0, none⟩) k unk, h.add (.cells ([] ++ ys) e .grow)) := by
        unfold appSome
        have e3 : Nat.beq 0 unk = false := by
          rw [Bool.eq_false_iff]; intro hh; have := Nat.eq_of_beq_eq_true hh; have : unk = 18446744073709551616 := rfl; omega
        have e4 : Nat.ble (0 + k) 0 = false := by rw [Bool.eq_false_iff]; intro hh; have : 0 + k ≤ 0 := by simpa using hh
                                                  omega
        have e5 : readAt h o 0 (0 * esz) = some [] := by rw [Nat.zero_mul, readAt_get h4 (by simp)]; rfl
        simp only [h4, e3, e4, e5, cond_false, Option.bind_some]
        unfold appNew
        rw [Nat.zero_add] at hB hU ⊢
        rw [ble_t hB, blt_t hU]; rfl
      rw [e1]
      exact ⟨_, k, unk, _, rfl, .inl (.inr ⟨h.nx, rfl, rfl, by simp [hk], hb, by rw [nx_add]; omega, get_add_same ..⟩), by omega, by rw [nx_add]; omega, rfl, fun f => f.add _, fun q hq _ => get_add_ne (by omega)⟩

def bb (b : Bool) : List Value := [.bool b]
theorem AccE.bools {h : Hp} {base : Nat} {e : TypeId} {a : Option Addr} {n c : Nat} {xs : List Bool} (H : AccE h base e 1 a n c (xs.flatMap bb)) : BoolsAt h a n xs := by
  rcases H with H | ⟨h1, h2, h3, o, h4, h5, h6, e2, m, h7⟩
  · exact H.slAt (enc := bb) (fun _ => rfl) (by decide)
  · have hx : xs = [] := by
      cases xs with
      | nil => rfl
      | cons x xs => cases h1
    subst hx h2 h4
    exact ⟨rfl, .inr ⟨o, 0, _, _, _, rfl, h6, h7, by simp, fun i hi => by simp at hi⟩⟩
theorem bb_map (ys : List Bool) : ys.flatMap bb = ys.map Value.bool := by
  induction ys with
  | nil => rfl
  | cons y ys ih => rw [List.flatMap_cons, ih]; rfl
theorem BoolsAt.src {h : Hp} {a2 : Option Addr} {n2 c2 : Nat} {ys : List Bool} (Y : BoolsAt h a2 n2 ys) : srcCells h 1 (.slice a2 n2 c2) = some (ys.flatMap bb, n2) := by
  rw [bb_map]
  have hn2 := Y.1
  rcases Y.2 with ⟨rfl, rfl⟩ | ⟨b, off, cs, e', m, rfl, h2, h3, h4, h5⟩
  · subst hn2; rfl
  · refine src_get ?_
    rw [Nat.mul_one, readAt_get h3 (by omega)]
    congr 1
    refine List.ext_getElem (by simp; omega) fun i hi hi' => ?_
    have hi2 : i < ys.length := by simpa using hi'
    have h7 : (cs.drop (off + i * 1)).take 1 = [.bool ys[i]] := h5 i hi2
    rw [Nat.mul_one, List.drop_eq_getElem_cons (show off + i < cs.length by omega)] at h7
    simp only [List.take_succ_cons, List.take_zero, List.cons.injEq, and_true] at h7
    simp [h7]
end Go.Ev
/- A law's arguments, as the evaluator's memory: structs, rows, and lists of lists. -/
namespace Go.Ev
open Go Go.ChangeShapes Go.WideShapes Go.ChangeAt Go.RowKit
section
variable {H : Type} {enc : TypeId × Value → H} {P : Program} {W : World}

/-- Fields one behind the other are the whole. -/
theorem lay_flat {n : Nat} : ∀ (fs : List Field) (off : Nat), layOk P off fs n = true → ∀ (cs : List Value), cs.length = n → (fs.map fun f => (cs.drop f.offset).take (P.cellsOf f.type)).flatten = cs.drop off := by
  intro fs
  induction fs with
  | nil =>
    intro off h cs hc
    have : off = n := Nat.eq_of_beq_eq_true h
    rw [List.drop_of_length_le (by omega)]; rfl
  | cons f fs ih =>
    intro off h cs hc
    simp only [layOk, Bool.and_eq_true] at h
    have h1 : f.offset = off := Nat.eq_of_beq_eq_true h.1
    rw [List.map_cons, List.flatten_cons, ih _ h.2 cs hc, h1, ← List.drop_drop, List.take_append_drop]
theorem lay_part {n : Nat} : ∀ (fs : List Field) (off : Nat), layOk P off fs n = true → ∀ (evs : List (List Value)), evs.length = fs.length → (∀ (i : Nat) f ev, fs[i]? = some f → evs[i]? = some ev → ev.length = P.cellsOf f.type) →
    ∀ (i : Nat) f ev, fs[i]? = some f → evs[i]? = some ev → off ≤ f.offset ∧ (evs.flatten.drop (f.offset - off)).take (P.cellsOf f.type) = ev := by
  intro fs
  induction fs with
  | nil => intro off _ evs _ _ i f ev hf; simp at hf
  | cons g fs ih =>
    intro off h evs hl hlen i f ev hf he
    simp only [layOk, Bool.and_eq_true] at h
    have h1 : g.offset = off := Nat.eq_of_beq_eq_true h.1
    rcases evs with _ | ⟨e0, evs⟩
    · simp at hl
    have hl0 : e0.length = P.cellsOf g.type := hlen 0 g e0 rfl rfl
    cases i with
    | zero =>
      simp at hf he
      subst hf he
      refine ⟨by omega, ?_⟩
      rw [h1, Nat.sub_self, List.drop_zero, List.flatten_cons, ← hl0, List.take_left]
    | succ i =>
      obtain ⟨g1, g2⟩ := ih _ h.2 evs (by simpa using hl) (fun i f ev a b => hlen (i + 1) f ev (by simpa using a) (by simpa using b)) i f ev (by simpa using hf) (by simpa using he)
      refine ⟨by omega, ?_⟩
      rw [List.flatten_cons, List.drop_append, List.drop_of_length_le (by omega), List.nil_append, show f.offset - off - e0.length = f.offset - (off + P.cellsOf g.type) by omega]
      exact g2


theorem lay_fit {n : Nat} : ∀ (fs : List Field) (off : Nat), layOk P off fs n = true → off ≤ n ∧ ∀ f ∈ fs, f.offset + P.cellsOf f.type ≤ n := by
  intro fs
  induction fs with
  | nil => intro off h; exact ⟨Nat.le_of_eq (Nat.eq_of_beq_eq_true h), fun f hf => by cases hf⟩
  | cons g fs ih =>
    intro off h
    simp only [layOk, Bool.and_eq_true] at h
    have h1 : g.offset = off := Nat.eq_of_beq_eq_true h.1
    obtain ⟨a, b⟩ := ih _ h.2
    refine ⟨by omega, fun f hf => ?_⟩
    rcases List.mem_cons.1 hf with rfl | hf
    · omega
    · exact b f hf
theorem build_struct {n : Nat} {fs : Array Field} {t : TypeId} (he : ∀ f ∈ fs.toList, Builds H enc P W n f.type) (hlay : layOk P 0 fs.toList (P.cellsOf t) = true) (hu : P.underlying t = some (.struct fs)) : Builds H enc P W (n + 1) t := by
  intro cs d ps h ι hp B
  have h : (if cs.length = P.cellsOf t then (fs.toList.mapM fun f => DataW.trod enc P W 0 (fun _ => true) true n f.type ((cs.drop f.offset).take (P.cellsOf f.type))).map fun xs => (DataW.agg (xs.map (·.1)), xs.flatMap (·.2)) else none) = some (d, ps) := by
    unfold DataW.trod at h
    rw [hu] at h
    exact h
  split at h
  · rename_i hc
    obtain ⟨xs, h1, h2⟩ := Option.map_eq_some_iff.1 h
    injection h2 with h2 _
    subst h2
    have l1 := Lib.mapM_length h1
    let l : List (TypeId × List Value × DataW H) := (fs.toList.zip (xs.map (·.1))).map fun p => (p.1.type, (cs.drop p.1.offset).take (P.cellsOf p.1.type), p.2)
    have hll : l.length = fs.toList.length := by simp [l, l1]
    have lget : ∀ i (hi : i < l.length), ∃ f x, fs.toList[i]? = some f ∧ xs[i]? = some x ∧ l[i] = (f.type, (cs.drop f.offset).take (P.cellsOf f.type), x.1) ∧ DataW.trod enc P W 0 (fun _ => true) true n f.type ((cs.drop f.offset).take (P.cellsOf f.type)) = some x := by
      intro i hi
      have hi1 : i < fs.toList.length := by omega
      have hi2 : i < xs.length := by omega
      obtain ⟨b, e1, e2⟩ := Lib.mapM_at h1 i _ (List.getElem?_eq_getElem hi1)
      rw [List.getElem?_eq_getElem hi2] at e1
      obtain rfl := Option.some.inj e1
      exact ⟨_, _, List.getElem?_eq_getElem hi1, List.getElem?_eq_getElem hi2, by simp [l], e2⟩
    obtain ⟨ι1, h3, evs, E1, B1, L1, V1, O1, D1⟩ := build_list l (fun p hpm => by
      obtain ⟨i, hi, rfl⟩ := List.getElem_of_mem hpm
      obtain ⟨f, x, a1, a2, a3, a4⟩ := lget i hi
      rw [a3]
      exact ⟨he f (List.mem_of_getElem? a1), _, a4⟩) ι hp B
    have hcells : l.map (·.2.1) = fs.toList.map fun f => (cs.drop f.offset).take (P.cellsOf f.type) := by
      refine List.ext_getElem (by simp [hll]) fun i hi hi' => ?_
      have hi3 : i < l.length := by simpa using hi
      obtain ⟨f, x, a1, a2, a3, a4⟩ := lget i hi3
      have hi4 : i < fs.toList.length := by omega
      have hf : fs.toList[i] = f := by rw [List.getElem?_eq_getElem hi4] at a1; exact Option.some.inj a1
      simp only [List.getElem_map]
      rw [a3, hf]
    rw [hcells, lay_flat fs.toList 0 hlay cs hc, List.drop_zero] at V1
    refine ⟨ι1, h3, evs.flatten, E1, B1, V1, O1, ?_⟩
    unfold DE
    rw [hu]
    have hlen : ∀ (i : Nat) f ev, fs.toList[i]? = some f → evs[i]? = some ev → ev.length = P.cellsOf f.type := by
      intro i f ev hf hev
      have hi : i < l.length := by have := (List.getElem?_eq_some_iff.1 hf).1; omega
      obtain ⟨ev', e1, e2, _⟩ := D1 i hi
      rw [hev] at e1
      obtain rfl := Option.some.inj e1
      obtain ⟨f', x, a1, a2, a3, a4⟩ := lget i hi
      rw [hf] at a1
      obtain rfl := Option.some.inj a1
      rw [← e2.1, a3]
      have hfit := (lay_fit fs.toList 0 hlay).2 f (List.mem_of_getElem? hf)
      show ((cs.drop f.offset).take (P.cellsOf f.type)).length = _
      rw [List.length_take, List.length_drop]; omega
    refine ⟨by rw [← V1.1]; exact hc, by simp [l1], fun i hi f hf => ?_⟩
    have hi2 : i < l.length := by simp at hi; omega
    obtain ⟨ev, e1, e2, e3⟩ := D1 i hi2
    obtain ⟨f', x, a1, a2, a3, a4⟩ := lget i hi2
    have hf' : fs.toList[i]? = some f := by rw [Array.getElem?_toList]; exact hf
    rw [hf'] at a1
    obtain rfl := Option.some.inj a1
    have := (lay_part fs.toList 0 hlay evs (by omega) hlen i f ev hf' e1).2
    rw [Nat.sub_zero] at this
    rw [this]
    rw [a3] at e3
    have hx : (xs.map (·.1))[i]'(by simpa using hi) = x.1 := by
      have hi3 : i < xs.length := by simpa using hi
      rw [List.getElem?_eq_getElem hi3] at a2
      obtain rfl := Option.some.inj a2
      simp
    rw [hx]; exact e3
  · cases h

/-- A list of lists of whole numbers. -/
theorem DE_intss {h : Hp} {n : Nat} {t e i : TypeId} (hu : P.underlying t = some (.slice e)) (he : P.underlying e = some (.slice i)) (hi : P.underlying i = some (.int .i64)) (hc1 : P.cellsOf i = 1) (hc : P.cellsOf e = 1) {cs : List Value} {d : DataW H} (hd : DE P h n t cs d) :
    ∃ a m c xs, cs = [.slice a m c] ∧ IntssAt h a m xs ∧ c < unk ∧ m ≤ c := by
  cases n with
  | zero => exact hd.elim
  | succ n =>
    unfold DE at hd
    rw [hu] at hd
    split at hd
    all_goals first | (rename_i heq; cases heq; done) | skip
    · exact ⟨none, 0, 0, [], hd, SlAt.nil .., by decide, Nat.le_refl _⟩
    · rename_i e2 elems sp heq
      injection heq with heq; injection heq with heq
      subst heq
      obtain ⟨k, cap, c, e', h1, h2, h3, h4, h5, h6, h7⟩ := hd
      rw [hc] at h6
      have hx : ∀ i (hi : i < elems.length), ∃ x, EInts h x ((c.drop (i * 1)).take 1) := fun i hi' => by
        have := h7 i hi'
        rw [hc] at this
        obtain ⟨a, m, c, xs, e1, e2, _⟩ := DE_ints he hi hc1 this
        exact ⟨xs, a, m, c, e1, e2⟩
      let xs : List (List Int) := (List.range elems.length).map fun i => if hi : i < elems.length then (hx i hi).choose else []
      have hl : xs.length = elems.length := by simp [xs]
      refine ⟨some ⟨k, 0, none⟩, elems.length, cap, xs, h1, ⟨hl.symm, .inr ⟨k, 0, c, e', .ro, rfl, h4, h5, by rw [hl]; omega, fun i hi => ?_⟩⟩, h2, h3⟩
      rw [hl] at hi
      show EInts h xs[i] ((c.drop (0 + i * 1)).take 1)
      have : xs[i]'(by rw [hl]; exact hi) = (hx i hi).choose := by simp [xs, hi]
      rw [this, Nat.zero_add]
      exact (hx i hi).choose_spec
    all_goals first | exact hd.elim | skip
theorem DE_bool {h : Hp} {n : Nat} {t : TypeId} (hu : P.underlying t = some .bool) {cs : List Value} {d : DataW H} (hd : DE P h n t cs d) : ∃ x, cs = [.bool x] := by
  cases n with
  | zero => exact hd.elim
  | succ n =>
    unfold DE at hd
    rw [hu] at hd
    split at hd
    all_goals first | (rename_i heq; cases heq; done) | skip
    · exact ⟨_, hd⟩
    all_goals first | exact hd.elim | skip
theorem DE_bools {h : Hp} {n : Nat} {t e : TypeId} (hu : P.underlying t = some (.slice e)) (he : P.underlying e = some .bool) (hc : P.cellsOf e = 1) {cs : List Value} {d : DataW H} (hd : DE P h n t cs d) :
    ∃ a m c xs, cs = [.slice a m c] ∧ BoolsAt h a m xs ∧ c < unk ∧ m ≤ c := by
  cases n with
  | zero => exact hd.elim
  | succ n =>
    unfold DE at hd
    rw [hu] at hd
    split at hd
    all_goals first | (rename_i heq; cases heq; done) | skip
    · exact ⟨none, 0, 0, [], hd, SlAt.nil .., by decide, Nat.le_refl _⟩
    · rename_i e2 elems sp heq
      injection heq with heq; injection heq with heq
      subst heq
      obtain ⟨k, cap, c, e', h1, h2, h3, h4, h5, h6, h7⟩ := hd
      rw [hc] at h6
      have hx : ∀ i (hi : i < elems.length), ∃ x, (c.drop (i * 1)).take 1 = [.bool x] := fun i hi => by
        have := h7 i hi
        rw [hc] at this
        exact DE_bool he this
      let xs : List Bool := (List.range elems.length).map fun i => if hi : i < elems.length then (hx i hi).choose else false
      have hl : xs.length = elems.length := by simp [xs]
      refine ⟨some ⟨k, 0, none⟩, elems.length, cap, xs, h1, ⟨hl.symm, .inr ⟨k, 0, c, e', .ro, rfl, h4, h5, by rw [hl]; omega, fun i hi => ?_⟩⟩, h2, h3⟩
      rw [hl] at hi
      show (c.drop (0 + i * 1)).take 1 = [.bool xs[i]]
      have : xs[i]'(by rw [hl]; exact hi) = (hx i hi).choose := by simp [xs, hi]
      rw [this, Nat.zero_add]
      exact (hx i hi).choose_spec
    all_goals first | exact hd.elim | skip
/-- The parts of a struct. -/
theorem DE_struct {h : Hp} {n : Nat} {t : TypeId} {fs : Array Field} (hu : P.underlying t = some (.struct fs)) {cs : List Value} {d : DataW H} (hd : DE P h (n + 1) t cs d) :
    cs.length = P.cellsOf t ∧ ∀ (i : Nat) (f : Field), fs[i]? = some f → ∃ d' : DataW H, DE P h n f.type ((cs.drop f.offset).take (P.cellsOf f.type)) d' := by
  unfold DE at hd
  rw [hu] at hd
  split at hd
  all_goals first | (rename_i heq; cases heq; done) | skip
  · rename_i fs' parts heq
    injection heq with heq; injection heq with heq
    subst heq
    obtain ⟨h1, h2, h3⟩ := hd
    refine ⟨h1, fun i f hf => ?_⟩
    have hi : i < parts.length := by rw [h2]; exact (Array.getElem?_eq_some_iff.1 hf).1
    exact ⟨_, h3 i hi f hf⟩
  all_goals first | exact hd.elim | skip
/-- A value of two cells is a struct. -/
theorem agg_of_two {v x y : Value} (h : v.cells.toList = [x, y]) : v = .agg #[x, y] := by
  cases v with
  | agg cs =>
    have h : cs.toList = [x, y] := h
    obtain ⟨l⟩ := cs
    have h : l = [x, y] := h
    rw [h]
  | _ => cases h
theorem two_of {cs : List Value} {x y : Value} (hl : cs.length = 2) (h1 : (cs.drop 0).take 1 = [x]) (h2 : (cs.drop 1).take 1 = [y]) : cs = [x, y] := by
  rcases cs with _ | ⟨a, _ | ⟨b, _ | ⟨c, r⟩⟩⟩
  · cases hl
  · cases hl
  · simp at h1 h2; rw [h1, h2]
  · simp at hl
end
end Go.Ev
