/- How values of the evaluator and of the model are related. -/
import Derived.Test.YtfgfhplgnfbaaaaDoorEvRel
namespace Go.Ev
open Go

/-- Where an object lies: its block, where its first cell is there, where its room ends, how many cells an element has. -/
structure Vw where
  blk : Nat
  base : Nat
  fin : Nat
  esz : Nat
abbrev Inj := Nat → Option Vw

inductive VR (ι : Inj) : Value → Value → Prop where
  | flat {v} (h : flat v = true) : VR ι v v
  | ptr {o off w} (h : ι o = some w) : VR ι (.pointer (some ⟨o, off, none⟩)) (.pointer (some ⟨w.blk, w.base + off, none⟩))
  | slc {o off len cap w} (h : ι o = some w) (hc : cap ≠ unk) : VR ι (.slice (some ⟨o, off, none⟩) len cap) (.slice (some ⟨w.blk, w.base + off, none⟩) len cap)
  | slu {o off len c w} (h : ι o = some w) (hc : w.base + off + c * w.esz = w.fin) (hl : len ≤ c) : VR ι (.slice (some ⟨o, off, none⟩) len unk) (.slice (some ⟨w.blk, w.base + off, none⟩) len c)
  | sl0 {o off w a cap} (h : ι o = some w) (hc : (cap = unk ∧ w.base + off = w.fin) ∨ cap = 0) : VR ι (.slice (some ⟨o, off, none⟩) 0 cap) (.slice (some a) 0 0)
  | fn {f a b a' b'} (ha : a'.size = a.size) (hb : b'.size = b.size) (h1 : ∀ (i : Nat) x y, a[i]? = some x → a'[i]? = some y → VR ι x y) (h2 : ∀ (i : Nat) x y, b[i]? = some x → b'[i]? = some y → VR ι x y) :
      VR ι (.func f a b) (.func f a' b')
  | iface {t v v'} (h : VR ι v v') : VR ι (.iface t v) (.iface t v')
  | agg {a a'} (ha : a'.size = a.size) (h1 : ∀ (i : Nat) x y, a[i]? = some x → a'[i]? = some y → VR ι x y) : VR ι (.agg a) (.agg a')
  | tup {a a'} (ha : a'.size = a.size) (h1 : ∀ (i : Nat) x y, a[i]? = some x → a'[i]? = some y → VR ι x y) : VR ι (.tuple a) (.tuple a')

/-- Lists of values. -/
def VRs (ι : Inj) (a b : List Value) : Prop := b.length = a.length ∧ ∀ (i : Nat) x y, a[i]? = some x → b[i]? = some y → VR ι x y

theorem VRs.nil (ι : Inj) : VRs ι [] [] := ⟨rfl, fun i x y h => by simp at h⟩
theorem VRs.cons {ι : Inj} {x y : Value} {a b : List Value} (h : VR ι x y) (t : VRs ι a b) : VRs ι (x :: a) (y :: b) :=
  ⟨by simp [t.1], fun i u v hu hv => by
    cases i with
    | zero => simp at hu hv; subst hu; subst hv; exact h
    | succ i => exact t.2 i u v (by simpa using hu) (by simpa using hv)⟩
theorem VRs.head {ι : Inj} {x : Value} {a b : List Value} (h : VRs ι (x :: a) b) : ∃ y c, b = y :: c ∧ VR ι x y ∧ VRs ι a c := by
  obtain ⟨hl, h⟩ := h
  cases b with
  | nil => simp at hl
  | cons y c => exact ⟨y, c, rfl, h 0 x y rfl rfl, by simpa using hl, fun i u v hu hv => h (i + 1) u v (by simpa using hu) (by simpa using hv)⟩
theorem VRs.of_nil {ι : Inj} {b : List Value} (h : VRs ι [] b) : b = [] := List.eq_nil_of_length_eq_zero (by simpa using h.1)
theorem VRs.append {ι : Inj} {a b c d : List Value} (h : VRs ι a b) (k : VRs ι c d) : VRs ι (a ++ c) (b ++ d) := by
  induction a generalizing b with
  | nil => rw [h.of_nil]; exact k
  | cons x a ih => obtain ⟨y, b, rfl, h1, h2⟩ := h.head; exact .cons h1 (ih h2)
theorem VRs.get {ι : Inj} {a b : List Value} (h : VRs ι a b) {i : Nat} {x : Value} (hx : a[i]? = some x) : ∃ y, b[i]? = some y ∧ VR ι x y := by
  have hi : i < a.length := (List.getElem?_eq_some_iff.1 hx).1
  refine ⟨b[i]'(by rw [h.1]; exact hi), List.getElem?_eq_getElem _, h.2 i x _ hx (List.getElem?_eq_getElem _)⟩
theorem VRs.take {ι : Inj} {a b : List Value} (h : VRs ι a b) (n : Nat) : VRs ι (a.take n) (b.take n) :=
  ⟨by simp [h.1], fun i x y hx hy => by
    rw [List.getElem?_take] at hx hy
    split at hx
    · rename_i hi; rw [if_pos hi] at hy; exact h.2 i x y hx hy
    · cases hx⟩
theorem VRs.drop {ι : Inj} {a b : List Value} (h : VRs ι a b) (n : Nat) : VRs ι (a.drop n) (b.drop n) :=
  ⟨by simp [h.1], fun i x y hx hy => by rw [List.getElem?_drop] at hx hy; exact h.2 _ x y hx hy⟩

theorem all_get {p : Value → Bool} {l : List Value} (h : l.all p = true) {i : Nat} {x : Value} (hx : l[i]? = some x) : p x = true :=
  List.all_eq_true.1 h x (List.mem_of_getElem? hx)

theorem flat_of_flatN : ∀ (n : Nat) (v v' : Value) (ι : Inj), flatN n v = true → VR ι v v' → v' = v := by
  intro n
  induction n with
  | zero => intro v v' ι h; simp [flatN] at h
  | succ n ih =>
    intro v v' ι h r
    cases r with
    | flat => rfl
    | ptr => simp [flatN] at h
    | slc => simp [flatN] at h
    | slu => simp [flatN] at h
    | sl0 => simp [flatN] at h
    | fn ha hb h1 h2 =>
      simp only [flatN, Bool.and_eq_true] at h
      have e1 : ∀ {a a' : Array Value}, a'.size = a.size → a.toList.all (flatN n) = true → (∀ (i : Nat) x y, a[i]? = some x → a'[i]? = some y → VR ι x y) → a' = a := by
        intro a a' hs hf hr
        refine Array.ext hs fun i hi hi' => ?_
        have hx : a[i]? = some a[i] := Array.getElem?_eq_getElem hi'
        exact ih _ _ ι (all_get hf (i := i) (by rw [Array.getElem?_toList]; exact hx)) (hr i _ _ hx (Array.getElem?_eq_getElem hi))
      rw [e1 ha h.1 h1, e1 hb h.2 h2]
    | iface hv => simp only [flatN] at h; rw [ih _ _ ι h hv]
    | agg ha h1 =>
      simp only [flatN] at h
      congr 1
      refine Array.ext ha fun i hi hi' => ?_
      have hx := Array.getElem?_eq_getElem hi'
      exact ih _ _ ι (all_get h (i := i) (by rw [Array.getElem?_toList]; exact hx)) (h1 i _ _ hx (Array.getElem?_eq_getElem hi))
    | tup ha h1 =>
      simp only [flatN] at h
      congr 1
      refine Array.ext ha fun i hi hi' => ?_
      have hx := Array.getElem?_eq_getElem hi'
      exact ih _ _ ι (all_get h (i := i) (by rw [Array.getElem?_toList]; exact hx)) (h1 i _ _ hx (Array.getElem?_eq_getElem hi))
theorem VR.of_flat {ι : Inj} {v v' : Value} (h : Ev.flat v = true) (r : VR ι v v') : v' = v := flat_of_flatN 5 v v' ι h r

theorem VR.mono {ι ι' : Inj} (hm : ∀ o w, ι o = some w → ι' o = some w) {v v' : Value} (h : VR ι v v') : VR ι' v v' := by
  induction h with
  | flat h => exact .flat h
  | ptr h => exact .ptr (hm _ _ h)
  | slc h hc => exact .slc (hm _ _ h) hc
  | slu h hc hl => exact .slu (hm _ _ h) hc hl
  | sl0 h hc => exact .sl0 (hm _ _ h) hc
  | fn ha hb _ _ i1 i2 => exact .fn ha hb i1 i2
  | iface _ i => exact .iface i
  | agg ha _ i => exact .agg ha i
  | tup ha _ i => exact .tup ha i
theorem VRs.mono {ι ι' : Inj} (hm : ∀ o w, ι o = some w → ι' o = some w) {a b : List Value} (h : VRs ι a b) : VRs ι' a b := ⟨h.1, fun i x y hx hy => (h.2 i x y hx hy).mono hm⟩
theorem VRs.flat_eq {ι : Inj} {a b : List Value} (hf : a.all Ev.flat = true) (h : VRs ι a b) : b = a :=
  List.ext_getElem h.1 fun i hi hi' => VR.of_flat (all_get hf (List.getElem?_eq_getElem hi')) (h.2 i _ _ (List.getElem?_eq_getElem hi') (List.getElem?_eq_getElem hi))
theorem VRs.of_flat {ι : Inj} {a : List Value} (hf : a.all Ev.flat = true) : VRs ι a a := ⟨rfl, fun i x y hx hy => by
  rw [hx] at hy; obtain rfl := Option.some.inj hy; exact .flat (all_get hf hx)⟩
theorem VRs.arr {ι : Inj} {a a' : Array Value} : VRs ι a.toList a'.toList ↔ (a'.size = a.size ∧ ∀ (i : Nat) x y, a[i]? = some x → a'[i]? = some y → VR ι x y) := by
  unfold VRs
  simp only [Array.length_toList, Array.getElem?_toList]
theorem flatN_more : ∀ (n : Nat) (x : Value), flatN n x = true → flatN (n + 1) x = true := by
    intro n
    induction n with
    | zero => intro x h; simp [flatN] at h
    | succ n ih =>
      intro x h
      have hl : ∀ l : List Value, l.all (flatN n) = true → l.all (flatN (n + 1)) = true := fun l hl => List.all_eq_true.2 fun y hy => ih y (List.all_eq_true.1 hl y hy)
      cases x with
      | func f a b => rw [flatN, Bool.and_eq_true] at h ⊢; exact ⟨hl _ h.1, hl _ h.2⟩
      | iface t v => rw [flatN] at h ⊢; exact ih _ h
      | agg cs => rw [flatN] at h ⊢; exact hl _ h
      | tuple cs => rw [flatN] at h ⊢; exact hl _ h
      | pointer a => cases a <;> simp_all [flatN]
      | map a => cases a <;> simp_all [flatN]
      | chan a => cases a <;> simp_all [flatN]
      | slice a l c =>
        cases a with
        | none => cases l <;> cases c <;> simp_all [flatN]
        | some a => simp [flatN] at h
      | _ => simp [flatN]
theorem all_flat4 {ι : Inj} {l : List Value} (hl : l.all (flatN 4) = true) : VRs ι l l := VRs.of_flat (List.all_eq_true.2 fun x hx => flatN_more 4 x (List.all_eq_true.1 hl x hx))
theorem VR.agg_iff {ι : Inj} {a : Array Value} {v : Value} (h : VR ι (.agg a) v) : ∃ a', v = .agg a' ∧ VRs ι a.toList a'.toList := by
  cases h with
  | flat h => exact ⟨a, rfl, all_flat4 h⟩
  | agg ha h1 => exact ⟨_, rfl, VRs.arr.2 ⟨ha, h1⟩⟩
theorem VR.tup_iff {ι : Inj} {a : Array Value} {v : Value} (h : VR ι (.tuple a) v) : ∃ a', v = .tuple a' ∧ VRs ι a.toList a'.toList := by
  cases h with
  | flat h => exact ⟨a, rfl, all_flat4 h⟩
  | tup ha h1 => exact ⟨_, rfl, VRs.arr.2 ⟨ha, h1⟩⟩
theorem VR.func_iff {ι : Inj} {f : Fn} {a b : Array Value} {v : Value} (h : VR ι (.func f a b) v) : ∃ a' b', v = .func f a' b' ∧ VRs ι a.toList a'.toList ∧ VRs ι b.toList b'.toList := by
  cases h with
  | flat h =>
    have h5 : (a.toList.all (flatN 4) && b.toList.all (flatN 4)) = true := h
    rw [Bool.and_eq_true] at h5
    exact ⟨a, b, rfl, all_flat4 h5.1, all_flat4 h5.2⟩
  | fn ha hb h1 h2 => exact ⟨_, _, rfl, VRs.arr.2 ⟨ha, h1⟩, VRs.arr.2 ⟨hb, h2⟩⟩
theorem VR.int_iff {ι : Inj} {k : IntKind} {n : Int} {v : Value} (h : VR ι (.int k n) v) : v = .int k n := by cases h; rfl
theorem VR.bool_iff {ι : Inj} {b : Bool} {v : Value} (h : VR ι (.bool b) v) : v = .bool b := by cases h; rfl
theorem VR.string_iff {ι : Inj} {b : ByteArray} {v : Value} (h : VR ι (.string b) v) : v = .string b := by cases h; rfl
theorem VR.one {ι : Inj} {v v' : Value} (h : VR ι v v') : Ev.one v' = Ev.one v := by
  cases h <;> rfl
theorem VRs.single {ι : Inj} {x y : Value} (h : VR ι x y) : VRs ι [x] [y] := .cons h (.nil ι)
theorem VR.cells {ι : Inj} {v v' : Value} (h : VR ι v v') : VRs ι v.cells.toList v'.cells.toList := by
  cases ho : Ev.one v with
  | false =>
    cases v with
    | agg a => obtain ⟨a', rfl, h'⟩ := h.agg_iff; exact h'
    | tuple a => obtain ⟨a', rfl, h'⟩ := h.tup_iff; exact .single h
    | _ => simp [Ev.one] at ho
  | true =>
    have e : ∀ {x : Value}, Ev.one x = true → x.cells.toList = [x] := by intro x hx; cases x <;> first | rfl | (simp [Ev.one] at hx)
    rw [e ho, e (h.one.trans ho)]
    exact .single h
theorem VRs.one {ι : Inj} {a b : List Value} (h : VRs ι a b) (ho : a.all Ev.one = true) : b.all Ev.one = true :=
  List.all_eq_true.2 fun y hy => by
    obtain ⟨i, hi, rfl⟩ := List.getElem_of_mem hy
    have hi' : i < a.length := by rw [← h.1]; exact hi
    rw [(h.2 i _ _ (List.getElem?_eq_getElem hi') (List.getElem?_eq_getElem hi)).one]
    exact all_get ho (List.getElem?_eq_getElem hi')
end Go.Ev
