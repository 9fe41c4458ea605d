/- The evaluator's steps that lay a new object are the model's. -/
import Derived.Test.YtfgfhplgnfbaaaaDoorEvRead
import Derived.Laws.MakeOwn
namespace Go.Ev
open Go

theorem getElem?_flatten_replicate {α : Type} (z : List α) (_hz : 0 < z.length) : ∀ (n i : Nat), i < n * z.length → (List.replicate n z).flatten[i]? = z[i % z.length]? := by
  intro n
  induction n with
  | zero => intro i h; simp at h
  | succ n ih =>
    intro i h
    rw [List.replicate_succ, List.flatten_cons, List.getElem?_append]
    split
    · rename_i hi; rw [Nat.mod_eq_of_lt hi]
    · rename_i hi
      rw [ih _ (by rw [Nat.succ_mul] at h; omega), Nat.mod_eq_sub_mod (a := i) (by omega)]
theorem length_flatten_replicate {α : Type} (z : List α) (n : Nat) : (List.replicate n z).flatten.length = n * z.length := by
  induction n with
  | zero => simp
  | succ n ih => rw [List.replicate_succ, List.flatten_cons, List.length_append, ih, Nat.succ_mul]; omega
theorem range_cells (z : Array Value) (n : Nat) : ((Array.range (n * z.size)).map (z[· % z.size]!)).toList = (List.replicate n z.toList).flatten := by
  refine List.ext_getElem? fun i => ?_
  rcases Nat.lt_or_ge i (n * z.size) with h | h
  · have hz : 0 < z.size := Nat.pos_of_ne_zero fun h0 => by rw [h0] at h; simp at h
    have hm := Nat.mod_lt i hz
    rw [getElem?_flatten_replicate _ (by simpa using hz) _ _ (by simpa using h)]
    simp [h]
    simp [hm]
  · rw [List.getElem?_eq_none (by simpa using h), List.getElem?_eq_none (by rw [length_flatten_replicate]; simpa using h)]

theorem alloc_get (w : World) (o : Obj) (b : Nat) : (w.alloc o).heap[b]? = if b = w.heap.size then some o else w.heap[b]? := by
  show (w.heap.push o)[b]? = _
  rw [Array.getElem?_push]

/-- What comes of an operation that lays an object. -/
def MkOk (P : Program) (ι : Inj) (a : Act) (o : Oper) (w : World) (x : Ob) (f : Nat → Value) : Prop :=
  ∃ c c' e e' v', x = .cells c e .fix ∧ c.all one = true ∧ VRs ι c c' ∧ (execOp a.eval o).run P w = .ok (.value v') (w.alloc (.cells c'.toArray e' (0, 0))) ∧
    ∀ (id : Nat) (ι' : Inj), ι' id = some ⟨w.heap.size, 0, 0, 0⟩ → VR ι' (f id) v'

theorem need_some {b : Bool} {u : Unit} (h : need b = some u) : b = true := by
  cases b
  · cases h
  · rfl
theorem all_and {p q : Value → Bool} {l : List Value} (h : l.all (fun v => p v && q v) = true) : l.all p = true ∧ l.all q = true := by
  simp only [List.all_eq_true, Bool.and_eq_true] at h ⊢
  exact ⟨fun x hx => (h x hx).1, fun x hx => (h x hx).2⟩

section
variable {P : Program} {ι : Inj} {t : Fr} {n : Nat} {a : Act} (hg : GR P ι) (hr : RT ι t n a)
include hg hr

theorem stepMk_sound {o : Oper} {x : Ob} {f : Nat → Value} (hs : stepMk P t o = some (x, f)) (w : World) : MkOk P ι a o w x f := by
  obtain ⟨dst, op, ty, pos, af, gu⟩ := o
  cases op with
  | alloc e =>
    simp only [stepMk] at hs
    obtain ⟨info, hi, hs⟩ := Option.bind_eq_some_iff.1 hs
    obtain ⟨z, hz, hs⟩ := Option.bind_eq_some_iff.1 hs
    obtain ⟨_, hn, hs⟩ := Option.bind_eq_some_iff.1 hs
    obtain ⟨h1, h2⟩ := all_and (need_some hn)
    injection hs with hs
    injection hs with hs1 hs2
    subst hs1 hs2
    refine ⟨_, z.cells.toList, _, e, .pointer (some ⟨w.heap.size, 0, none⟩), rfl, h2, .of_flat h1, ?_, fun id ι' hid => .ptr (off := 0) hid⟩
    simp only [execOp]
    refine run_value ?_
    unfold Instr.alloc
    simp [run_zero hi hz, newVar, newRow]
  | box e y =>
    simp only [stepMk] at hs
    obtain ⟨v, hv, hs⟩ := Option.bind_eq_some_iff.1 hs
    obtain ⟨_, hn, hs⟩ := Option.bind_eq_some_iff.1 hs
    injection hs with hs
    injection hs with hs1 hs2
    subst hs1 hs2
    have hvv := opv_sound hg hr hv
    refine ⟨_, (a.eval y).cells.toList, _, e, .pointer (some ⟨w.heap.size, 0, none⟩), rfl, need_some hn, hvv.cells, ?_, fun id ι' hid => .ptr (off := 0) hid⟩
    simp only [execOp]
    refine run_value ?_
    simp [Instr.box, newVar, newRow]
  | buildSlice s m parts =>
    simp only [stepMk] at hs
    obtain ⟨e, he, hs⟩ := Option.bind_eq_some_iff.1 hs
    obtain ⟨info, hi, hs⟩ := Option.bind_eq_some_iff.1 hs
    obtain ⟨z, hz, hs⟩ := Option.bind_eq_some_iff.1 hs
    obtain ⟨_, hn, hs⟩ := Option.bind_eq_some_iff.1 hs
    obtain ⟨_, hn2, hs⟩ := Option.bind_eq_some_iff.1 hs
    obtain ⟨ps, hps, hs⟩ := Option.bind_eq_some_iff.1 hs
    obtain ⟨cells, hf, hs⟩ := Option.bind_eq_some_iff.1 hs
    obtain ⟨_, hn3, hs⟩ := Option.bind_eq_some_iff.1 hs
    injection hs with hs
    injection hs with hs1 hs2
    subst hs1 hs2
    have hn := need_some hn
    have hn2 := need_some hn2
    rw [Bool.and_eq_true] at hn hn2
    obtain ⟨z1, z2⟩ := all_and hn2.1
    have zsz : z.cells.size = info.size := Nat.eq_of_beq_eq_true hn2.2
    have hlim : m * info.size ≤ 16777216 := Nat.le_of_ble_eq_true hn.1
    have hpos : info.size ≠ 0 := by intro h0; rw [h0] at hn; simp at hn
    have hm16 : m ≤ 16777216 := Nat.le_trans (Nat.le_mul_of_pos_right m (Nat.pos_of_ne_zero hpos)) hlim
    have base : VRs ι ((Array.range (m * info.size)).map (z.cells[· % z.cells.size]!)).toList ((Array.range (m * info.size)).map (z.cells[· % z.cells.size]!)).toList := by
      refine .of_flat ?_
      rw [← zsz, range_cells]
      refine List.all_eq_true.2 fun y hy => ?_
      obtain ⟨l, hl, hy⟩ := List.mem_flatten.1 hy
      rw [(List.mem_replicate.1 hl).2] at hy
      exact List.all_eq_true.1 z1 y hy
    obtain ⟨r', hf', hrr⟩ := fill_rel (ι := ι) (fun i => some (i * info.size, info.size)) (fun i => some (i * info.size, info.size)) (fun _ => rfl) ps _ _ _ _ (parts_sound hg hr hps) base hf
    refine ⟨_, r'.toList, _, e, .slice (some ⟨w.heap.size, 0, none⟩) m m, rfl, need_some hn3, hrr, ?_, fun id ι' hid => .slc (off := 0) hid (by unfold unk; omega)⟩
    simp only [execOp]
    refine run_value ?_
    unfold Instr.buildSlice
    have c1 : ¬ (m * info.size > 2 ^ 24) := by omega
    by_cases h0 : m * info.size = 0
    · have hm0 : m = 0 := by rcases Nat.mul_eq_zero.1 h0 with h | h; exact h; exact absurd h hpos
      subst hm0
      simp only [Nat.zero_mul] at hf' ⊢
      have e0 : ∀ g : Nat → Value, (Array.range 0).map g = #[] := fun g => by apply Array.ext <;> simp
      rw [e0] at hf'
      simp only [Array.toList_map] at hf'
      simp [run_underlying (elemT_some he), sizeOf, typeInfo, hi, newRow, e0, hf']
    · simp only [Array.toList_map] at hf'
      simp [run_underlying (elemT_some he), sizeOf, typeInfo, hi, newRow, run_zero hi hz, h0, hf', show ¬ (16777216 < m * info.size) by omega]
  | makeSlice s l c =>
    simp only [stepMk] at hs
    obtain ⟨e, he, hs1⟩ := Option.bind_eq_some_iff.1 hs
    obtain ⟨info, hi, hs2⟩ := Option.bind_eq_some_iff.1 hs1
    obtain ⟨z, hz, hs3⟩ := Option.bind_eq_some_iff.1 hs2
    obtain ⟨lv, hl, hs4⟩ := Option.bind_eq_some_iff.1 hs3
    obtain ⟨cv, hc, hs5⟩ := Option.bind_eq_some_iff.1 hs4
    clear hs hs1 hs2 hs3 hs4
    split at hs5
    · rename_i k1 l k2 c
      have hs := hs5
      clear hs5
      obtain ⟨hb, hs⟩ := cond_some hs
      injection hs with hs
      injection hs with hs1 hs2
      subst hs1 hs2
      simp only [Bool.and_eq_true] at hb
      obtain ⟨⟨⟨⟨⟨b1, b2⟩, b3⟩, b4⟩, b5⟩, b6⟩ := hb
      obtain ⟨z1, z2⟩ := all_and b6
      have zsz : z.cells.size = info.size := Nat.eq_of_beq_eq_true b5
      have b1 := Nat.le_of_ble_eq_true b1
      have b2 := Nat.le_of_ble_eq_true b2
      have b3 : c < unk := by simpa using b3
      have hcu : unk = 4611686018427387904 := rfl
      have hl' := (opv_sound hg hr hl).int_iff
      have hc' := (opv_sound hg hr hc).int_iff
      have all : ∀ {p : Value → Bool}, z.cells.toList.all p = true → (List.replicate c z.cells.toList).flatten.all p = true := fun {p} hp => List.all_eq_true.2 fun y hy => by
        obtain ⟨q, hq, hy⟩ := List.mem_flatten.1 hy
        rw [(List.mem_replicate.1 hq).2] at hy
        exact List.all_eq_true.1 hp y hy
      refine ⟨_, (List.replicate c z.cells.toList).flatten, _, e, .slice (some ⟨w.heap.size, 0, none⟩) l c, rfl, all z2, .of_flat (all z1), ?_, fun id ι' hid => .slc (off := 0) hid ?_⟩
      · simp only [execOp]
        refine run_value ?_
        have := run_make (P := P) w s e info z (elemT_some he) hi hz k1 k2 (Int.ofNat l) (Int.ofNat c) (Int.natCast_nonneg _) (by simpa using b1) (by rw [Int.mul_comm]; simp only [Int.ofNat_eq_natCast]; rw [← Int.natCast_mul]; omega) (by simp only [Int.ofNat_eq_natCast]; omega)
        rw [hl', hc', this]
        simp only [Int.ofNat_eq_natCast, Int.toNat_natCast, madeCells]
        congr 3
        rw [← zsz, ← range_cells]
      · omega
    · cases hs5
  | _ => cases hs
end
end Go.Ev
