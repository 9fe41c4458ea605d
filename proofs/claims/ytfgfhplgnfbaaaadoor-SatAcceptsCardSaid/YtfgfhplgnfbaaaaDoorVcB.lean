/- Small laws of memory, for the conditions of code. -/
import Derived.Test.YtfgfhplgnfbaaaaDoorVcA
import Derived.Lib.LaidTab
import Derived.WalkKit
import Derived.ProofKit
import Derived.OpenShut
import Derived.Deep.DeepHandedRow
namespace Go.Ev
open Go

theorem vcond_eq (b : Bool) (A B : Prop) : vcond b A B = ((b = true → A) ∧ (b = false → B)) := by cases b <;> simp [vcond]
theorem vreq_eq (b : Bool) (K : Prop) : vreq b K = (b = true ∧ K) := by cases b <;> simp [vreq]
theorem vcond_t {b : Bool} {A B : Prop} (h : b = true) (ha : A) : vcond b A B := by subst h; exact ha
theorem vcond_f {b : Bool} {A B : Prop} (h : b = false) (hb : B) : vcond b A B := by subst h; exact hb
theorem vreq_t {b : Bool} {K : Prop} (h : b = true) (hk : K) : vreq b K := by subst h; exact hk
theorem vcond_split {b : Bool} {A B : Prop} (ha : b = true → A) (hb : b = false → B) : vcond b A B := by
  cases b with
  | false => exact hb rfl
  | true => exact ha rfl
theorem ltI_nat (a b : Nat) : ltI (Int.ofNat a) (Int.ofNat b) = Nat.blt a b := rfl
theorem ltI_t {a b : Int} (h : a < b) : ltI a b = true := by rw [ltI_eq]; exact decide_eq_true h
theorem ltI_f {a b : Int} (h : ¬ a < b) : ltI a b = false := by rw [ltI_eq]; exact decide_eq_false h
theorem lt_of_t {a b : Int} (h : ltI a b = true) : a < b := by rw [ltI_eq] at h; exact of_decide_eq_true h
theorem not_lt_of_f {a b : Int} (h : ltI a b = false) : ¬ a < b := by rw [ltI_eq] at h; exact of_decide_eq_false h
theorem eqI_t {a b : Int} (h : a = b) : eqI a b = true := by rw [eqI_eq]; simpa using h
theorem eqI_f {a b : Int} (h : a ≠ b) : eqI a b = false := by rw [eqI_eq]; simpa using h
theorem eq_of_t {a b : Int} (h : eqI a b = true) : a = b := by rw [eqI_eq] at h; simpa using h
theorem ne_of_f {a b : Int} (h : eqI a b = false) : a ≠ b := by rw [eqI_eq] at h; simpa using h
theorem blt_t {a b : Nat} (h : a < b) : Nat.blt a b = true := by simpa using h
theorem blt_f {a b : Nat} (h : ¬ a < b) : Nat.blt a b = false := by rw [Bool.eq_false_iff]; intro hh; exact h (by simpa using hh)
theorem ble_t {a b : Nat} (h : a ≤ b) : Nat.ble a b = true := by simpa using h
theorem lt_of_blt {a b : Nat} (h : Nat.blt a b = true) : a < b := by simpa using h
theorem not_lt_of_blt {a b : Nat} (h : Nat.blt a b = false) : ¬ a < b := fun hh => by rw [blt_t hh] at h; cases h

theorem wrap64 {n : Int} (h1 : -9223372036854775808 ≤ n) (h2 : n < 9223372036854775808) : wrapF .i64 n = n := by
  cases n with
  | ofNat m =>
    have hm : m < 9223372036854775808 := by have : (Int.ofNat m : Int) = (m : Int) := rfl; omega
    show (bif Nat.blt m 9223372036854775808 then Int.ofNat m else _) = _
    rw [blt_t hm]; rfl
  | negSucc m =>
    have hm : m < 9223372036854775808 := by have : Int.negSucc m = -((m : Int) + 1) := rfl; omega
    show (bif Nat.blt m 9223372036854775808 then Int.negSucc m else _) = _
    rw [blt_t hm]; rfl
theorem wrap_succ {k : Nat} (h : k + 1 < 9223372036854775808) : wrapF .i64 (Int.ofNat k + 1) = Int.ofNat (k + 1) := by
  rw [wrap64] <;> simp <;> omega

/-! ### memory -/
theorem get_add (h : Hp) (x : Ob) (q : Nat) : (h.add x).get q = if q = h.nx then some x else h.get q := by
  rw [Hp.get_add]; rfl
theorem get_add_same (h : Hp) (x : Ob) : (h.add x).get h.nx = some x := by rw [get_add, if_pos rfl]
theorem get_add_ne {h : Hp} {x : Ob} {q : Nat} (hq : q ≠ h.nx) : (h.add x).get q = h.get q := by rw [get_add, if_neg hq]
theorem nx_add (h : Hp) (x : Ob) : (h.add x).nx = h.nx + 1 := rfl
theorem gd_add (h : Hp) (x : Ob) : (h.add x).gd = h.gd := rfl
theorem get_rsv (h : Hp) (k q : Nat) : (h.rsv k).get q = h.get q := rfl
theorem nx_rsv (h : Hp) (k : Nat) : (h.rsv k).nx = h.nx + k := rfl
theorem gd_rsv (h : Hp) (k : Nat) : (h.rsv k).gd = h.gd := rfl
theorem get_grd (h : Hp) (g : List Nat) (q : Nat) : (h.grd g).get q = h.get q := rfl
theorem nx_grd (h : Hp) (g : List Nat) : (h.grd g).nx = h.nx := rfl
theorem gd_grd (h : Hp) (g : List Nat) : (h.grd g).gd = g ++ h.gd := rfl
theorem get_rst (h h' : Hp) (q : Nat) : (h'.rst h).get q = h'.get q := rfl
theorem nx_rst (h h' : Hp) : (h'.rst h).nx = h'.nx := rfl
theorem gd_rst (h h' : Hp) : (h'.rst h).gd = h.gd := rfl
theorem rst_grd (h : Hp) (g : List Nat) : (h.grd g).rst h = h := rfl
theorem grd_nil (h : Hp) : h.grd [] = h := rfl
theorem rst_self (h : Hp) : h.rst h = h := rfl
theorem get_lay (h : Hp) (k : Nat) (x : Ob) (q : Nat) : (h.lay k x).get q = if q = k then some x else h.get q := Tr.get_upd ..
theorem nx_lay (h : Hp) (k : Nat) (x : Ob) : (h.lay k x).nx = h.nx := rfl
theorem gd_lay (h : Hp) (k : Nat) (x : Ob) : (h.lay k x).gd = h.gd := rfl

theorem readAt_get {h : Hp} {o : Nat} {c : List Value} {e : TypeId} {m : Md} (hg : h.get o = some (.cells c e m)) {off n : Nat} (hn : off + n ≤ c.length) : readAt h o off n = some ((c.drop off).take n) := by
  unfold readAt
  rw [hg]
  have : Nat.beq ((c.drop off).take n).length n = true := by
    rw [Nat.beq_eq]; simp; omega
  simp only [this, cond_true]
theorem read1 {h : Hp} {o : Nat} {c : List Value} {e : TypeId} {m : Md} (hg : h.get o = some (.cells c e m)) {i : Nat} {v : Value} (hv : c[i]? = some v) : readAt h o i 1 = some [v] := by
  obtain ⟨hi, hv⟩ := List.getElem?_eq_some_iff.1 hv
  rw [readAt_get hg (by omega), List.drop_eq_getElem_cons hi, hv]; rfl

theorem wr_get_ne (h : Hp) (o off : Nat) (vs : List Value) {q : Nat} (hq : q ≠ o) : (h.wr o off vs).get q = h.get q := by
  unfold Hp.wr
  cases hw : writeAt h o off vs with
  | none => rfl
  | some h' =>
    unfold writeAt at hw
    split at hw
    · split at hw
      · cases hw
      · obtain ⟨_, hw⟩ := cond_some hw
        rw [(Hp.get_put hw).2.2.2, if_neg hq]
    · cases hw
theorem nx_wr (h : Hp) (o off : Nat) (vs : List Value) : (h.wr o off vs).nx = h.nx := by
  unfold Hp.wr
  cases hw : writeAt h o off vs with
  | none => rfl
  | some h' =>
    unfold writeAt at hw
    split at hw
    · split at hw
      · cases hw
      · obtain ⟨_, hw⟩ := cond_some hw
        exact (Hp.get_put hw).1
    · cases hw
theorem gd_wr (h : Hp) (o off : Nat) (vs : List Value) : (h.wr o off vs).gd = h.gd := by
  unfold Hp.wr
  cases hw : writeAt h o off vs with
  | none => rfl
  | some h' =>
    unfold writeAt at hw
    split at hw
    · split at hw
      · cases hw
      · obtain ⟨_, hw⟩ := cond_some hw
        exact (Hp.get_put hw).2.1
    · cases hw
theorem writeAt_mk {h : Hp} {o off : Nat} {vs c : List Value} {e : TypeId} {m : Md} (hg : h.get o = some (.cells c e m)) (hm : m ≠ .ro) (hgd : h.guarded o = false) (hl : off + vs.length ≤ c.length) (h1 : vs.all one = true) :
    ∃ h', writeAt h o off vs = some h' ∧ h'.get o = some (.cells (putAt c off vs) e m) := by
  have hp : ∀ m, m ≠ .ro → writeAt h o off vs = (if m = m then h.put o (some (.cells (putAt c off vs) e m)) else none) → ∃ h', writeAt h o off vs = some h' ∧ h'.get o = some (.cells (putAt c off vs) e m) := by
    intro m _ hw
    rw [if_pos rfl] at hw
    unfold Hp.put at hw
    rw [hgd] at hw
    refine ⟨_, hw, ?_⟩
    show Tr.get none (Tr.upd none h.t o _) o = _
    rw [Tr.get_upd, if_pos rfl]
  refine hp m hm ?_
  unfold writeAt
  rw [hg, if_pos rfl]
  have hb : (Nat.ble (off + vs.length) c.length && vs.all one) = true := by rw [ble_t hl, h1]; rfl
  cases m with
  | ro => exact absurd rfl hm
  | fix => simp only [hb, cond_true]
  | grow => simp only [hb, cond_true]
theorem canW_t {h : Hp} {o off : Nat} {vs c : List Value} {e : TypeId} {m : Md} (hg : h.get o = some (.cells c e m)) (hm : m ≠ .ro) (hgd : h.guarded o = false) (hl : off + vs.length ≤ c.length) (h1 : vs.all one = true) : canW h o off vs = true := by
  obtain ⟨h', hw, _⟩ := writeAt_mk hg hm hgd hl h1
  unfold canW; rw [hw]; rfl
theorem wr_get {h : Hp} {o off : Nat} {vs c : List Value} {e : TypeId} {m : Md} (hg : h.get o = some (.cells c e m)) (hm : m ≠ .ro) (hgd : h.guarded o = false) (hl : off + vs.length ≤ c.length) (h1 : vs.all one = true) : (h.wr o off vs).get o = some (.cells (putAt c off vs) e m) := by
  obtain ⟨h', hw, hg'⟩ := writeAt_mk hg hm hgd hl h1
  unfold Hp.wr; rw [hw]; exact hg'

/-! ### what stays -/
/-- What is not numbered yet is not there. -/
def Hp.Fresh (h : Hp) : Prop := ∀ o, h.nx ≤ o → h.get o = none
structure Kp (n : Nat) (h h' : Hp) : Prop where
  get : ∀ o, o < n → h'.get o = h.get o
  nx : h.nx ≤ h'.nx
  gd : h'.gd = h.gd
  fr : h.Fresh → h'.Fresh
theorem wr_none {h : Hp} {o off : Nat} {vs : List Value} (hg : h.get o = none) : h.wr o off vs = h := by
  unfold Hp.wr writeAt
  rw [hg]
theorem Hp.Fresh.add {h : Hp} (f : h.Fresh) (x : Ob) : (h.add x).Fresh := fun o ho => by rw [nx_add] at ho; rw [get_add_ne (by omega)]; exact f o (by omega)
theorem Hp.Fresh.wr {h : Hp} (f : h.Fresh) (o off : Nat) (vs : List Value) : (h.wr o off vs).Fresh := fun q hq => by
  rw [nx_wr] at hq
  by_cases hqo : q = o
  · subst hqo
    rw [wr_none (f q hq)]; exact f q hq
  · rw [wr_get_ne _ _ _ _ hqo]; exact f q hq
theorem Hp.Fresh.lay {h : Hp} (f : h.Fresh) {k : Nat} (hk : k < h.nx) (x : Ob) : (h.lay k x).Fresh := fun q hq => by
  rw [nx_lay] at hq
  rw [get_lay, if_neg (by omega)]; exact f q hq
theorem Kp.refl (n : Nat) (h : Hp) : Kp n h h := ⟨fun _ _ => rfl, Nat.le_refl _, rfl, id⟩
theorem Kp.trans {n : Nat} {h h' h'' : Hp} (a : Kp n h h') (b : Kp n h' h'') : Kp n h h'' := ⟨fun o ho => (b.get o ho).trans (a.get o ho), Nat.le_trans a.nx b.nx, b.gd.trans a.gd, fun f => b.fr (a.fr f)⟩
theorem Kp.le {n m : Nat} {h h' : Hp} (a : Kp n h h') (hm : m ≤ n) : Kp m h h' := ⟨fun o ho => a.get o (Nat.lt_of_lt_of_le ho hm), a.nx, a.gd, a.fr⟩
theorem Kp.add {n : Nat} {h h' : Hp} (a : Kp n h h') (hn : n ≤ h'.nx) (x : Ob) : Kp n h (h'.add x) := ⟨fun o ho => by rw [get_add_ne (by omega)]; exact a.get o ho, by rw [nx_add]; have := a.nx; omega, a.gd, fun f => (a.fr f).add x⟩
theorem Kp.wr {n : Nat} {h h' : Hp} (a : Kp n h h') {o : Nat} (ho : n ≤ o) (off : Nat) (vs : List Value) : Kp n h (h'.wr o off vs) :=
  ⟨fun q hq => by rw [wr_get_ne _ _ _ _ (by omega)]; exact a.get q hq, by rw [nx_wr]; exact a.nx, by rw [gd_wr]; exact a.gd, fun f => (a.fr f).wr o off vs⟩
theorem Kp.rsv {n : Nat} {h h' : Hp} (a : Kp n h h') (k : Nat) : Kp n h (h'.rsv k) := ⟨a.get, by rw [nx_rsv]; have := a.nx; omega, a.gd, fun f o ho => a.fr f o (by rw [nx_rsv] at ho; omega)⟩
theorem Kp.lay {n : Nat} {h h' : Hp} (a : Kp n h h') {k : Nat} (hk : n ≤ k) (hk2 : k < h'.nx) (x : Ob) : Kp n h (h'.lay k x) := ⟨fun q hq => by rw [get_lay, if_neg (by omega)]; exact a.get q hq, a.nx, a.gd, fun f => (a.fr f).lay hk2 x⟩
theorem Kp.rst {n : Nat} {h h' h'' : Hp} {g : List Nat} (a : Kp n h h') (b : Kp n (h'.grd g) h'') : Kp n h (h''.rst h') := ⟨fun q hq => (b.get q hq).trans (a.get q hq), Nat.le_trans a.nx b.nx, a.gd, fun f => b.fr (a.fr f)⟩
theorem free_t {h : Hp} {k : Nat} (hk : h.get k = none) : h.free k = true := by unfold Hp.free; rw [hk]; rfl

/-! ### slices -/
/-- An element's cells, in some memory. -/
abbrev Enc (α : Type) := Hp → α → List Value → Prop
def SlAt {α : Type} (w : Nat) (R : Enc α) (h : Hp) (a : Option Addr) (n : Nat) (xs : List α) : Prop :=
  n = xs.length ∧ ((xs = [] ∧ a = none) ∨ ∃ b off c e m, a = some ⟨b, off, none⟩ ∧ b < h.nx ∧ h.get b = some (.cells c e m) ∧ off + xs.length * w ≤ c.length ∧ ∀ i (hi : i < xs.length), R h xs[i] ((c.drop (off + i * w)).take w))
def Enc.Up {α : Type} (R : Enc α) : Prop := ∀ h h' x vs, Kp h.nx h h' → R h x vs → R h' x vs
theorem SlAt.up {α : Type} {w : Nat} {R : Enc α} (hR : R.Up) {h h' : Hp} (k : Kp h.nx h h') {a : Option Addr} {n : Nat} {xs : List α} (H : SlAt w R h a n xs) : SlAt w R h' a n xs := by
  refine ⟨H.1, H.2.imp id ?_⟩
  rintro ⟨b, off, c, e, m, h1, h2, h3, h4, h5⟩
  exact ⟨b, off, c, e, m, h1, Nat.lt_of_lt_of_le h2 k.nx, by rw [k.get b h2]; exact h3, h4, fun i hi => hR _ _ _ _ k (h5 i hi)⟩
theorem SlAt.read {α : Type} {w : Nat} {R : Enc α} {h : Hp} {a : Option Addr} {n : Nat} {xs : List α} (H : SlAt w R h a n xs) {k : Nat} (hk : k < xs.length) {K : Nat → Nat → Prop}
    (hK : ∀ b off vs, a = some ⟨b, off, none⟩ → b < h.nx → readAt h b (off + k * w) w = some vs → R h xs[k] vs → K b off) : isAddr a K := by
  rcases H.2 with ⟨rfl, _⟩ | ⟨b, off, c, e, m, rfl, h2, h3, h4, h5⟩
  · simp at hk
  · refine hK b off _ rfl h2 (readAt_get h3 ?_) (h5 k hk)
    have : (k + 1) * w ≤ xs.length * w := Nat.mul_le_mul_right w hk
    rw [Nat.add_mul] at this
    omega
theorem SlAt.keep {α : Type} {w : Nat} {R : Enc α} {h h' : Hp} {a : Option Addr} {n : Nat} {xs : List α} (H : SlAt w R h a n xs) (hk : ∀ b off, a = some ⟨b, off, none⟩ → h'.get b = h.get b) (hn : h.nx ≤ h'.nx) (hR : ∀ x vs, R h x vs → R h' x vs) : SlAt w R h' a n xs := by
  refine ⟨H.1, H.2.imp id ?_⟩
  rintro ⟨b, off, c, e, m, h1, h2, h3, h4, h5⟩
  exact ⟨b, off, c, e, m, h1, Nat.lt_of_lt_of_le h2 hn, by rw [hk b off h1]; exact h3, h4, fun i hi => hR _ _ (h5 i hi)⟩
theorem SlAt.nil {α : Type} (w : Nat) (R : Enc α) (h : Hp) : SlAt w R h none 0 ([] : List α) := ⟨rfl, .inl ⟨rfl, rfl⟩⟩

def EInt : Enc Int := fun _ x vs => vs = [.int .i64 x]
def EBool : Enc Bool := fun _ x vs => vs = [.bool x]
theorem EInt.up : EInt.Up := fun _ _ _ _ _ h => h
theorem EBool.up : EBool.Up := fun _ _ _ _ _ h => h
abbrev IntsAt := SlAt 1 EInt
abbrev BoolsAt := SlAt 1 EBool
/-- A list of lists. -/
def EInts : Enc (List Int) := fun h ys vs => ∃ a n c, vs = [.slice a n c] ∧ IntsAt h a n ys
theorem EInts.up : EInts.Up := fun _ _ _ _ k ⟨a, n, c, h1, h2⟩ => ⟨a, n, c, h1, h2.up EInt.up k⟩
abbrev IntssAt := SlAt 1 EInts
theorem IntsAt.get {h : Hp} {a : Option Addr} {n : Nat} {xs : List Int} (H : IntsAt h a n xs) {k : Nat} (hk : k < xs.length) {K : Nat → Nat → Prop}
    (hK : ∀ b off, a = some ⟨b, off, none⟩ → b < h.nx → readAt h b (off + k * 1) 1 = some [.int .i64 xs[k]] → K b off) : isAddr a K :=
  SlAt.read H hk fun b off vs h1 h2 h3 h4 => hK b off h1 h2 (by rw [h3, show vs = _ from h4])
theorem IntssAt.get {h : Hp} {a : Option Addr} {n : Nat} {xs : List (List Int)} (H : IntssAt h a n xs) {k : Nat} (hk : k < xs.length) {K : Nat → Nat → Prop}
    (hK : ∀ b off a' n' c', a = some ⟨b, off, none⟩ → b < h.nx → readAt h b (off + k * 1) 1 = some [.slice a' n' c'] → IntsAt h a' n' xs[k] → K b off) : isAddr a K :=
  SlAt.read H hk fun b off vs h1 h2 h3 ⟨a', n', c', h4, h5⟩ => hK b off a' n' c' h1 h2 (by rw [h3, h4]) h5
end Go.Ev
/- Small laws of append, for the conditions of code. -/
namespace Go.Ev
open Go

/-- What is known of a type of slices: its elements' type, how many cells and bytes each has. -/
structure AppT (P : Program) (sT e : TypeId) (esz bytes : Nat) : Prop where
  und : P.underlying sT = some (.slice e)
  ok : (match P.info? e with
    | some info => match info.zero with
      | some z => Nat.beq info.size esz && Nat.beq info.bytes bytes && (!(Nat.beq info.size 0) && Nat.beq z.cells.size info.size && z.cells.toList.all (fun v => flat v && one v))
      | none => false
    | none => false) = true
theorem AppT.run {P : Program} {sT e : TypeId} {esz bytes : Nat} (T : AppT P sT e esz bytes) : 0 < esz ∧ ∃ info z, P.info? e = some info ∧ info.zero = some z ∧ ∀ (h : Hp) (s x : Value), (∃ a n c, x = .slice a n c) → appendV P h sT sT s x = ((srcCells h esz x).bind fun r => bif r.1.all one then (bif Nat.beq r.2 0 then appNone h s else appSome h e bytes esz s r.1 r.2) else none) := by
  have ok := T.ok
  split at ok
  · rename_i info hi
    split at ok
    · rename_i z hz
      rw [Bool.and_eq_true, Bool.and_eq_true] at ok
      obtain ⟨⟨h1, h2⟩, h3⟩ := ok
      have h1 := Nat.eq_of_beq_eq_true h1
      have h2 := Nat.eq_of_beq_eq_true h2
      refine ⟨?_, info, z, hi, hz, ?_⟩
      · rw [Bool.and_eq_true, Bool.and_eq_true] at h3
        have := h3.1.1
        rw [Bool.not_eq_true'] at this
        rcases Nat.eq_zero_or_pos esz with h0 | h0
        · rw [h1, h0] at this; cases this
        · exact h0
      · rintro h s x ⟨a, n, c, rfl⟩
        unfold appendV
        have he : elemT P sT = some e := by unfold elemT; rw [T.und]
        simp only [bind, he, hi, hz, Option.bind_some, need, h3, cond_true]
        have : appSrc P h info z sT (.slice a n c) = srcCells h esz (.slice a n c) := by
          unfold appSrc; rw [T.und]; simp only [h1]
        rw [this]
        cases srcCells h esz (.slice a n c) with
        | none => rfl
        | some r =>
          simp only [Option.bind_some]
          cases r.1.all one with
          | true => rw [h1, h2]; rfl
          | false => rfl
    · cases ok
  · cases ok

/-- A list that grows, and that nobody else has. -/
def Acc (h : Hp) (base : Nat) (e : TypeId) (esz : Nat) (a : Option Addr) (n c : Nat) (xs : List Value) : Prop :=
  (a = none ∧ n = 0 ∧ c = 0 ∧ xs = []) ∨ ∃ o, a = some ⟨o, 0, none⟩ ∧ c = unk ∧ n * esz = xs.length ∧ base ≤ o ∧ o < h.nx ∧ h.get o = some (.cells xs e .grow)
theorem Acc.nil (h : Hp) (base : Nat) (e : TypeId) (esz : Nat) : Acc h base e esz none 0 0 [] := .inl ⟨rfl, rfl, rfl, rfl⟩
/-- Memory goes on, what grows untouched. -/
theorem Acc.keep {h h' : Hp} {base : Nat} {e : TypeId} {esz : Nat} {a : Option Addr} {n c : Nat} {xs : List Value} (H : Acc h base e esz a n c xs) (hk : ∀ o, o < h.nx → a = some ⟨o, 0, none⟩ → h'.get o = h.get o) (hn : h.nx ≤ h'.nx) : Acc h' base e esz a n c xs :=
  H.imp id fun ⟨o, h1, h2, h3, h4, h5, h6⟩ => ⟨o, h1, h2, h3, h4, Nat.lt_of_lt_of_le h5 hn, by rw [hk o h5 h1]; exact h6⟩
theorem Acc.kp {h h' : Hp} {base m : Nat} {e : TypeId} {esz : Nat} {a : Option Addr} {n c : Nat} {xs : List Value} (H : Acc h base e esz a n c xs) (k : Kp m h h') (hm : h.nx ≤ m) : Acc h' base e esz a n c xs :=
  H.keep (fun o ho _ => k.get o (by omega)) k.nx
theorem Acc.fresh {h : Hp} {base : Nat} {e : TypeId} {esz : Nat} {a : Option Addr} {n c : Nat} {xs : List Value} (H : Acc h base e esz a n c xs) {b off : Nat} (ha : a = some ⟨b, off, none⟩) : base ≤ b := by
  rcases H with ⟨rfl, _⟩ | ⟨o, rfl, _, _, h4, _⟩
  · cases ha
  · injection ha with ha; injection ha with ha _; omega
structure Hp.Ok (h : Hp) : Prop where
  gd : ∀ q ∈ h.gd, q < h.nx
  fr : h.Fresh
theorem Hp.Ok.kp {h h' : Hp} {n : Nat} (k : h.Ok) (p : Kp n h h') : h'.Ok := ⟨fun q hq => by rw [p.gd] at hq; exact Nat.lt_of_lt_of_le (k.gd q hq) p.nx, p.fr k.fr⟩
theorem Hp.Ok.rsv {h : Hp} (k : h.Ok) (n : Nat) : (h.rsv n).Ok := k.kp ((Kp.refl 0 h).rsv n)
theorem Hp.Ok.add {h : Hp} (k : h.Ok) (x : Ob) : (h.add x).Ok := k.kp ((Kp.refl 0 h).add (Nat.zero_le _) x)
theorem Hp.Ok.wr {h : Hp} (k : h.Ok) (o off : Nat) (vs : List Value) : (h.wr o off vs).Ok := k.kp ((Kp.refl 0 h).wr (Nat.zero_le _) off vs)
theorem Hp.Ok.grd {h : Hp} (k : h.Ok) {g : List Nat} (hg : ∀ q ∈ g, q < h.nx) : (h.grd g).Ok := ⟨fun q hq => (List.mem_append.1 hq).elim (hg q) (k.gd q), k.fr⟩
theorem guarded_of {h : Hp} {o : Nat} (hg : ∀ q ∈ h.gd, q ≠ o) : h.guarded o = false := by
  unfold Hp.guarded
  rw [List.any_eq_false]
  intro q hq hb
  exact hg q hq (Nat.eq_of_beq_eq_true hb).symm
/-- None is kept from writing what is new. -/
def GdLt (h : Hp) (base : Nat) : Prop := ∀ q ∈ h.gd, q < base
theorem GdLt.free {h : Hp} {base o : Nat} (g : GdLt h base) (ho : base ≤ o) : h.guarded o = false := guarded_of fun q hq => by have := g q hq; omega
theorem GdLt.kp {h h' : Hp} {n base : Nat} (g : GdLt h base) (p : Kp n h h') : GdLt h' base := fun q hq => by rw [p.gd] at hq; exact g q hq
theorem Hp.Ok.lt {h : Hp} (k : h.Ok) : GdLt h h.nx := k.gd

theorem src_get {h : Hp} {b off n c : Nat} {esz : Nat} {cs : List Value} (hr : readAt h b off (n * esz) = some cs) : srcCells h esz (.slice (some ⟨b, off, none⟩) n c) = some (cs, n) := by
  show (readAt h b off (n * esz)).map (fun l => (l, n)) = _
  rw [hr]; rfl

/-- Something is appended. -/
theorem append_acc {P : Program} {sT e : TypeId} {esz bytes : Nat} (T : AppT P sT e esz bytes) {h : Hp} {base : Nat} {a : Option Addr} {n c : Nat} {xs : List Value} (H : Acc h base e esz a n c xs) (hb : base ≤ h.nx) (hg : GdLt h base)
    {x : Value} {ys : List Value} {k : Nat} (hx : ∃ a n c, x = .slice a n c) (hs : srcCells h esz x = some (ys, k)) (hk : ys.length = k * esz) (h1 : ys.all one = true) (hB : (n + k + (n + k)) * bytes ≤ 281474976710656) (hU : n + k < big) :
    ∃ a' n' c' h', appendV P h sT sT (.slice a n c) x = some (.slice a' n' c', h') ∧ Acc h' base e esz a' n' c' (xs ++ ys) ∧ n' = n + k ∧ h.nx ≤ h'.nx ∧ h'.gd = h.gd ∧ (h.Fresh → h'.Fresh) ∧ ∀ q, q < h.nx → a ≠ some ⟨q, 0, none⟩ → h'.get q = h.get q := by
  obtain ⟨hz, info, z, hi, hzz, hrun⟩ := T.run
  rw [hrun h _ x hx, hs]
  simp only [Option.bind_some, h1, cond_true]
  rcases Nat.eq_zero_or_pos k with rfl | hkp
  · have : ys = [] := List.length_eq_zero_iff.1 (by omega)
    subst this
    simp only [Nat.beq_refl, cond_true]
    rcases H with ⟨rfl, rfl, rfl, rfl⟩ | ⟨o, rfl, rfl, h3, h4, h5, h6⟩
    · exact ⟨none, 0, 0, h, rfl, .inl ⟨rfl, rfl, rfl, rfl⟩, rfl, Nat.le_refl _, rfl, id, fun _ _ _ => rfl⟩
    · refine ⟨_, n, unk, h, ?_, .inr ⟨o, rfl, rfl, by simpa using h3, h4, h5, by simpa using h6⟩, rfl, Nat.le_refl _, rfl, id, fun _ _ _ => rfl⟩
      show (bif Nat.ble n unk then _ else _) = _
      rw [ble_t (by have : big = 4611686018427387904 := rfl; have : unk = 18446744073709551616 := rfl; omega)]; rfl
  · have hk0 : Nat.beq k 0 = false := by rw [Bool.eq_false_iff]; intro hh; have := Nat.eq_of_beq_eq_true hh; omega
    simp only [hk0, cond_false]
    have new : ∀ m old, m = n + k → appNew h e bytes old ys m = some (.slice (some ⟨h.nx, 0, none⟩) m unk, h.add (.cells (old ++ ys) e .grow)) := by
      rintro m old rfl
      unfold appNew
      rw [ble_t hB, blt_t hU]; rfl
    rcases H with ⟨rfl, rfl, rfl, rfl⟩ | ⟨o, rfl, rfl, h3, h4, h5, h6⟩
    · refine ⟨_, k, unk, _, new k [] (by omega), .inr ⟨h.nx, rfl, rfl, by simp [hk], hb, by rw [nx_add]; omega, get_add_same ..⟩, by omega, by rw [nx_add]; omega, rfl, fun f => f.add _, fun q hq _ => get_add_ne (by omega)⟩
    · have hcap : Nat.beq unk unk = true := Nat.beq_refl _
      have hee : Nat.beq e e = true := Nat.beq_refl _
      have e1 : appSome h e bytes esz (.slice (some ⟨o, 0, none⟩) n unk) ys k = ((appNew h e bytes (xs.drop 0) ys (n + k)).bind fun r => (r.2.put o none).map fun h' => (r.1, h')) := by
        unfold appSome
        have : Nat.ble (0 + (n + k) * esz) xs.length = false := by
          rw [Bool.eq_false_iff]; intro hh
          have hh : 0 + (n + k) * esz ≤ xs.length := by simpa using hh
          have : 0 < k * esz := Nat.mul_pos hkp hz
          rw [Nat.add_mul] at hh
          omega
        simp only [h6, hcap, hee, cond_true, isGrow, Bool.and_self, this, cond_false]
        rw [show Nat.beq (0 + n * esz) xs.length = true by rw [Nat.beq_eq]; omega]; rfl
      rw [e1, new _ _ rfl, Option.bind_some]
      have gf : (h.add (.cells (xs.drop 0 ++ ys) e .grow)).guarded o = false := hg.free (h := h) h4
      have hput : ∃ h', (h.add (.cells (xs.drop 0 ++ ys) e .grow)).put o none = some h' := by
        unfold Hp.put; rw [gf]; exact ⟨_, rfl⟩
      obtain ⟨h', hp⟩ := hput
      obtain ⟨p1, p2, p3, p4⟩ := Hp.get_put hp
      have p4 : ∀ q, h'.get q = if q = o then none else (h.add (.cells (xs.drop 0 ++ ys) e .grow)).get q := p4
      simp only [hp, Option.map_some]
      refine ⟨_, n + k, unk, h', rfl, .inr ⟨h.nx, rfl, rfl, by simp [hk, Nat.add_mul, h3], hb, by rw [p1, nx_add]; omega, ?_⟩, rfl, by rw [p1, nx_add]; omega, p2, fun f q hq => ?_, fun q hq hne => ?_⟩
      · rw [p4, if_neg (by omega), get_add_same]; simp
      · rw [p1] at hq
        rw [p4]
        split
        · rfl
        · exact (f.add _) q hq
      · rw [p4, if_neg (fun hh => hne (by rw [hh])), get_add_ne (by omega)]

/-- A list of whole numbers that grows. -/
abbrev AccI (e : TypeId) (h : Hp) (base : Nat) (a : Option Addr) (n c : Nat) (xs : List Int) : Prop := Acc h base e 1 a n c (xs.map (Value.int .i64))
theorem AccI.nil (e : TypeId) (h : Hp) (base : Nat) : AccI e h base none 0 0 [] := Acc.nil ..
theorem AccI.ints {e : TypeId} {h : Hp} {base : Nat} {a : Option Addr} {n c : Nat} {xs : List Int} (H : AccI e h base a n c xs) : IntsAt h a n xs := by
  rcases H with ⟨rfl, rfl, rfl, h4⟩ | ⟨o, rfl, rfl, h3, h4, h5, h6⟩
  · have : xs = [] := by simpa using h4
    subst this
    exact SlAt.nil ..
  · refine ⟨by simpa using h3, .inr ⟨o, 0, _, _, _, rfl, h5, h6, by simp, fun i hi => ?_⟩⟩
    show ((xs.map (Value.int .i64)).drop (0 + i * 1)).take 1 = [.int .i64 xs[i]]
    rw [Nat.zero_add, Nat.mul_one, List.drop_eq_getElem_cons (by simpa using hi)]
    simp
/-- What an append of one leaves. -/
structure AppK (h h' : Hp) (a : Option Addr) : Prop where
  nx : h.nx ≤ h'.nx
  gd : h'.gd = h.gd
  fr : h.Fresh → h'.Fresh
  get : ∀ q, q < h.nx → a ≠ some ⟨q, 0, none⟩ → h'.get q = h.get q
theorem AppK.kp {h h' : Hp} {base : Nat} {e : TypeId} {esz : Nat} {a : Option Addr} {n c : Nat} {xs : List Value} (k : AppK h h' a) (H : Acc h base e esz a n c xs) (hb : base ≤ h.nx) : Kp base h h' :=
  ⟨fun q hq => k.get q (by omega) fun hh => by
    rcases H with ⟨rfl, _⟩ | ⟨o, rfl, _, _, h4, _⟩
    · cases hh
    · injection hh with hh; injection hh with hh; omega, k.nx, k.gd, k.fr⟩
theorem app_int {P : Program} {sT e : TypeId} (T : AppT P sT e 1 8) {h : Hp} {base : Nat} {a : Option Addr} {n c : Nat} {xs : List Int} (H : AccI e h base a n c xs) (hb : base ≤ h.nx) (hg : GdLt h base) (hl : xs.length < 1000000000) (x : Int) :
    ∃ a' n' c' h', appendV P (h.add (.cells [.int .i64 x] e .fix)) sT sT (.slice a n c) (.slice (some ⟨h.nx, 0, none⟩) 1 1) = some (.slice a' n' c', h') ∧ AccI e h' base a' n' c' (xs ++ [x]) ∧ AppK h h' a := by
  have hn : n = xs.length := H.ints.1
  have H' : AccI e (h.add (.cells [.int .i64 x] e .fix)) base a n c xs := H.keep (fun o ho _ => get_add_ne (by omega)) (by rw [nx_add]; omega)
  obtain ⟨a', n', c', h', h1, h2, _, h4, h5, hf, h6⟩ := append_acc T H' (by rw [nx_add]; omega) hg ⟨_, _, _, rfl⟩ (src_get (n := 1) (c := 1) (esz := 1) (off := 0) (read1 (i := 0) (v := .int .i64 x) (get_add_same ..) rfl)) rfl rfl (by omega) (by unfold big; omega)
  refine ⟨a', n', c', h', h1, by unfold AccI; rw [List.map_append]; exact h2, by rw [nx_add] at h4; omega, h5, fun f => hf (f.add _), fun q hq hne => ?_⟩
  rw [h6 q (by rw [nx_add]; omega) hne, get_add_ne (by omega)]
/-- A list of lists' cells are appended. -/
theorem app_ints {P : Program} {sT e : TypeId} (T : AppT P sT e 1 8) {h : Hp} {base : Nat} {a : Option Addr} {n c : Nat} {xs : List Int} (H : AccI e h base a n c xs) (hb : base ≤ h.nx) (hg : GdLt h base) {a2 : Option Addr} {n2 c2 : Nat} {ys : List Int} (Y : IntsAt h a2 n2 ys) (hl : xs.length + ys.length < 1000000000) :
    ∃ a' n' c' h', appendV P h sT sT (.slice a n c) (.slice a2 n2 c2) = some (.slice a' n' c', h') ∧ AccI e h' base a' n' c' (xs ++ ys) ∧ AppK h h' a := by
  have hn : n = xs.length := H.ints.1
  have hn2 := Y.1
  have src : srcCells h 1 (.slice a2 n2 c2) = some (ys.map (Value.int .i64), n2) := by
    rcases Y.2 with ⟨rfl, rfl⟩ | ⟨b, off, cs, e', m, rfl, h2, h3, h4, h5⟩
    · subst hn2; rfl
    · refine src_get ?_
      rw [Nat.mul_one, readAt_get h3 (by omega)]
      congr 1
      refine List.ext_getElem (by simp; omega) fun i hi hi' => ?_
      have hi2 : i < ys.length := by simpa using hi'
      have h7 : (cs.drop (off + i * 1)).take 1 = [.int .i64 ys[i]] := h5 i hi2
      rw [Nat.mul_one, List.drop_eq_getElem_cons (show off + i < cs.length by omega)] at h7
      simp only [List.take_succ_cons, List.take_zero, List.cons.injEq, and_true] at h7
      simp [h7]
  obtain ⟨a', n', c', h', h1, h2, _, h4, h5, hf, h6⟩ := append_acc T H hb hg ⟨_, _, _, rfl⟩ src (by simp; omega) (by simp [one]) (by omega) (by unfold big; omega)
  exact ⟨a', n', c', h', h1, by unfold AccI; rw [List.map_append]; exact h2, h4, h5, hf, h6⟩
end Go.Ev
/- Digits of whole numbers: the lowest one. -/
namespace Go.Ev

theorem low_split : ∀ (u : Nat), 0 < u → ∃ k j, u = 2 ^ (k + 1) * j + 2 ^ k := by
  intro u
  induction u using Nat.strongRecOn with
  | _ u ih =>
    intro hu
    rcases Nat.mod_two_eq_zero_or_one u with h | h
    · obtain ⟨k, j, hk⟩ := ih (u / 2) (by omega) (by omega)
      refine ⟨k + 1, j, ?_⟩
      have : u = 2 * (u / 2) := by omega
      rw [this, hk, Nat.mul_add, ← Nat.mul_assoc, ← Nat.pow_succ', ← Nat.pow_succ']
    · exact ⟨0, u / 2, by simp; omega⟩
theorem two_pow_lt_succ (k : Nat) : 2 ^ k < 2 ^ (k + 1) := Nat.pow_lt_pow_right (by decide) (by omega)
/-- Without its lowest digit. -/
theorem low_clear (k j : Nat) : (2 ^ (k + 1) * j + 2 ^ k) &&& (2 ^ (k + 1) * j + 2 ^ k - 1) = 2 ^ (k + 1) * j := by
  have hp : 0 < 2 ^ k := Nat.pow_pos (by decide)
  refine Nat.eq_of_testBit_eq fun i => ?_
  rw [Nat.testBit_and, show 2 ^ (k + 1) * j + 2 ^ k - 1 = 2 ^ (k + 1) * j + (2 ^ k - 1) by omega]
  rw [Nat.testBit_two_pow_mul_add _ (two_pow_lt_succ k), Nat.testBit_two_pow_mul_add _ (by have := two_pow_lt_succ k; omega), Nat.testBit_two_pow_mul]
  by_cases hi : i < k + 1
  · rw [if_pos hi, if_pos hi, Nat.testBit_two_pow, Nat.testBit_two_pow_sub_one]
    have : ¬ i ≥ k + 1 := by omega
    simp only [this, decide_false, Bool.false_and]
    by_cases h : k = i
    · subst h; simp
    · simp [h]
  · rw [if_neg hi, if_neg hi]
    have : i ≥ k + 1 := by omega
    simp [this]
/-- The lowest digit alone. -/
theorem low_only (k j : Nat) (hu : 2 ^ (k + 1) * j + 2 ^ k < 2 ^ 32) : (2 ^ (k + 1) * j + 2 ^ k) &&& (2 ^ 32 - (2 ^ (k + 1) * j + 2 ^ k)) = 2 ^ k := by
  have hk : k < 32 := by
    rcases Nat.lt_or_ge k 32 with h | h
    · exact h
    · have := Nat.pow_le_pow_right (show 0 < 2 by decide) h
      omega
  have e32 : 2 ^ 32 = 2 ^ (k + 1) * 2 ^ (31 - k) := by rw [← Nat.pow_add]; congr 1; omega
  have hj : j < 2 ^ (31 - k) := by
    have hp : 0 < 2 ^ (k + 1) := Nat.pow_pos (by decide)
    refine Nat.lt_of_mul_lt_mul_left (a := 2 ^ (k + 1)) ?_
    omega
  have e1 : 2 ^ 32 - (2 ^ (k + 1) * j + 2 ^ k) = 2 ^ (k + 1) * (2 ^ (31 - k) - (j + 1)) + 2 ^ k := by
    rw [Nat.mul_sub, ← e32, Nat.mul_add, Nat.mul_one]
    have : 2 ^ (k + 1) = 2 ^ k + 2 ^ k := by rw [Nat.pow_succ]; omega
    have h2 : 2 ^ (k + 1) * (j + 1) ≤ 2 ^ 32 := by rw [e32]; exact Nat.mul_le_mul_left _ hj
    rw [Nat.mul_add, Nat.mul_one] at h2
    omega
  rw [e1]
  refine Nat.eq_of_testBit_eq fun i => ?_
  rw [Nat.testBit_and, Nat.testBit_two_pow_mul_add _ (two_pow_lt_succ k), Nat.testBit_two_pow_mul_add _ (two_pow_lt_succ k), Nat.testBit_two_pow]
  by_cases hi : i < k + 1
  · rw [if_pos hi, if_pos hi]; simp
  · rw [if_neg hi, if_neg hi, Nat.testBit_two_pow_sub_succ hj]
    have : k ≠ i := by omega
    simp only [this, decide_false]
    cases j.testBit (i - (k + 1)) <;> simp
/-- The digits that are set, from the lowest one on. -/
def digits (n u : Nat) : List Nat := (List.range n).filter fun i => u.testBit i
theorem filter_range_eq {n k : Nat} {p q : Nat → Bool} (hk : k < n) (hp : p k = true) (hlow : ∀ i, i < k → p i = false) (hq : ∀ i, q i = (p i && decide (i ≠ k))) : (List.range n).filter p = k :: (List.range n).filter q := by
  obtain ⟨m, rfl⟩ : ∃ m, n = k + (1 + m) := ⟨n - (k + 1), by omega⟩
  have e : List.range (k + (1 + m)) = List.range k ++ (k :: List.range' (k + 1) m) := by
    rw [List.range_eq_range', ← List.range'_append_1, ← List.range'_append_1, List.range_eq_range']
    simp
  have z1 : (List.range k).filter p = [] := List.filter_eq_nil_iff.2 fun i hi => by rw [hlow i (List.mem_range.1 hi)]; simp
  have z2 : (List.range k).filter q = [] := List.filter_eq_nil_iff.2 fun i hi => by rw [hq, hlow i (List.mem_range.1 hi)]; simp
  rw [e, List.filter_append, List.filter_append, z1, z2, List.nil_append, List.nil_append, List.filter_cons, if_pos hp, List.filter_cons, if_neg (by rw [hq]; simp)]
  congr 1
  refine List.filter_congr fun i hi => ?_
  have : k + 1 ≤ i := by rw [List.mem_range'_1] at hi; omega
  rw [hq, decide_eq_true (by omega), Bool.and_true]
theorem digits_step {n k j : Nat} (hk : k < n) : digits n (2 ^ (k + 1) * j + 2 ^ k) = k :: digits n (2 ^ (k + 1) * j) := by
  have hb : ∀ i, (2 ^ (k + 1) * j + 2 ^ k).testBit i = if i < k + 1 then decide (k = i) else j.testBit (i - (k + 1)) := fun i => by
    rw [Nat.testBit_two_pow_mul_add _ (two_pow_lt_succ k), Nat.testBit_two_pow]
  refine filter_range_eq hk ?_ (fun i hi => ?_) fun i => ?_
  · rw [hb, if_pos (by omega)]; simp
  · rw [hb, if_pos (by omega)]; simp; omega
  · rw [hb, Nat.testBit_two_pow_mul]
    by_cases hi : i < k + 1
    · rw [if_pos hi]
      have : ¬ i ≥ k + 1 := by omega
      simp only [this, decide_false, Bool.false_and]
      by_cases h : k = i
      · subst h; simp
      · simp [h]
    · rw [if_neg hi]
      have h1 : i ≥ k + 1 := by omega
      have h2 : i ≠ k := by omega
      simp [h1, h2]
theorem digits_zero (n : Nat) : digits n 0 = [] := by unfold digits; rw [List.filter_eq_nil_iff]; intro i _; simp
end Go.Ev
/- What a call's arguments hold, as the evaluator's memory. -/
namespace Go.Ev
open Go

/-- Fields lie one behind the other. -/
def layOk (P : Program) : Nat → List Field → Nat → Bool
  | off, [], n => Nat.beq off n
  | off, f :: fs, n => Nat.beq f.offset off && layOk P (off + P.cellsOf f.type) fs n
/-- A type of truths, whole numbers, lists, structs and rows of these. -/
def Plain (P : Program) : Nat → TypeId → Bool
  | 0, _ => false
  | n + 1, t => match P.underlying t with
    | some .bool => true
    | some (.int _) => true
    | some (.slice e) => Plain P n e && !(Nat.beq (P.cellsOf e) 0)
    | some (.struct fs) => fs.toList.all (fun f => Plain P n f.type) && layOk P 0 fs.toList (P.cellsOf t)
    | some (.array m e) => Plain P n e && Nat.beq (m * P.cellsOf e) (P.cellsOf t)
    | _ => false

/-- Cells that read as some data, in the evaluator's memory. -/
def DE {H : Type} (P : Program) (h : Hp) : Nat → TypeId → List Value → DataW H → Prop
  | 0, _, _, _ => False
  | n + 1, t, cs, d => match P.underlying t, d with
    | some .bool, .lit (.bool b) => cs = [.bool b]
    | some (.int k), .lit (.int k' x) => k' = k ∧ cs = [.int k x] ∧ (Lit.int k x).wf = true
    | some (.slice _), .nil => cs = [.slice none 0 0]
    | some (.slice e), .slice elems _ => ∃ k cap c e', cs = [.slice (some ⟨k, 0, none⟩) elems.length cap] ∧ cap < unk ∧ elems.length ≤ cap ∧ k < h.nx ∧ h.get k = some (.cells c e' .ro) ∧ elems.length * P.cellsOf e ≤ c.length ∧
        ∀ i (hi : i < elems.length), DE P h n e ((c.drop (i * P.cellsOf e)).take (P.cellsOf e)) elems[i]
    | some (.struct fs), .agg parts => cs.length = P.cellsOf t ∧ parts.length = fs.size ∧ ∀ i (hi : i < parts.length) f, fs[i]? = some f → DE P h n f.type ((cs.drop f.offset).take (P.cellsOf f.type)) parts[i]
    | some (.array m e), .agg parts => cs.length = P.cellsOf t ∧ parts.length = m ∧ ∀ i (hi : i < parts.length), DE P h n e ((cs.drop (i * P.cellsOf e)).take (P.cellsOf e)) parts[i]
    | _, _ => False

/-- Memory with more in it, that none writes. -/
structure Ext1 (h : Hp) (ι : Inj) (h' : Hp) (ι' : Inj) : Prop where
  nx : h.nx ≤ h'.nx
  gd : h'.gd = h.gd
  get : ∀ o, o < h.nx → h'.get o = h.get o
  inj : ∀ o, o < h.nx → ι' o = ι o
theorem Ext1.refl (h : Hp) (ι : Inj) : Ext1 h ι h ι := ⟨Nat.le_refl _, rfl, fun _ _ => rfl, fun _ _ => rfl⟩
theorem Ext1.trans {h h' h'' : Hp} {ι ι' ι'' : Inj} (a : Ext1 h ι h' ι') (b : Ext1 h' ι' h'' ι'') : Ext1 h ι h'' ι'' :=
  ⟨Nat.le_trans a.nx b.nx, b.gd.trans a.gd, fun o ho => (b.get o (Nat.lt_of_lt_of_le ho a.nx)).trans (a.get o ho), fun o ho => (b.inj o (Nat.lt_of_lt_of_le ho a.nx)).trans (a.inj o ho)⟩
theorem DE.mono {H : Type} {P : Program} {h h' : Hp} (hn : h.nx ≤ h'.nx) (hg : ∀ o, o < h.nx → h'.get o = h.get o) : ∀ {n : Nat} {t : TypeId} {cs : List Value} {d : DataW H}, DE P h n t cs d → DE P h' n t cs d := by
  intro n
  induction n with
  | zero => intro t cs d h; exact h
  | succ n ih =>
    intro t cs d hd
    unfold DE at hd ⊢
    split at hd
    · exact hd
    · exact hd
    · exact hd
    · obtain ⟨k, cap, c, e', h1, h2, h3, h4, h5, h6, h7⟩ := hd
      exact ⟨k, cap, c, e', h1, h2, h3, Nat.lt_of_lt_of_le h4 hn, by rw [hg k h4]; exact h5, h6, fun i hi => ih (h7 i hi)⟩
    · exact ⟨hd.1, hd.2.1, fun i hi f hf => ih (hd.2.2 i hi f hf)⟩
    · exact ⟨hd.1, hd.2.1, fun i hi => ih (hd.2.2 i hi)⟩
    · exact hd

section
variable {H : Type} {enc : TypeId × Value → H} {P : Program} {W : World}
/-- What is ahead: memory that none writes, and an object in it. -/
structure Base (P : Program) (ι : Inj) (h : Hp) (W : World) : Prop where
  rh : RH P ι h W
  ro : ∀ o x, h.get o = some x → x.wr = false
  gd : h.gd = []
  some0 : ∃ x v, h.get 0 = some x ∧ ι 0 = some v ∧ 0 < h.nx ∧ ∃ c e, x = .cells c e .ro

/-- An object more. -/
theorem Base.push {ι : Inj} {h : Hp} (B : Base P ι h W) {c : List Value} {e : TypeId} {v : Vw} (h1 : c.all one = true) {c' : Array Value} {e' : TypeId} {fr : Nat × Nat} (hb : W.heap[v.blk]? = some (.cells c' e' fr)) (hc : ∀ (j : Nat) x, c[j]? = some x → ∃ y, c'[v.base + j]? = some y ∧ VR ι x y) :
    Base P (ι.set h.nx v) (h.add (.cells c e .ro)) W ∧ Ext1 h ι (h.add (.cells c e .ro)) (ι.set h.nx v) := by
  have hfresh : ι h.nx = none := B.rh.fresh _ (Nat.le_refl _)
  have mono := Inj.set_mono (v := v) hfresh
  have hE : Ext1 h ι (h.add (.cells c e .ro)) (ι.set h.nx v) := ⟨by rw [nx_add]; omega, rfl, fun o ho => get_add_ne (by omega), fun o ho => Inj.set_other _ _ _ (by omega)⟩
  have hget : ∀ o x, (h.add (.cells c e .ro)).get o = some x → (o = h.nx ∧ x = .cells c e .ro) ∨ h.get o = some x := fun o x ho => by
    rw [get_add] at ho
    split at ho
    · exact .inl ⟨‹_›, (Option.some.inj ho).symm⟩
    · exact .inr ho
  have hro : ∀ o x, (h.add (.cells c e .ro)).get o = some x → x.wr = false := fun o x ho => by
    rcases hget o x ho with ⟨_, rfl⟩ | ho
    · rfl
    · exact B.ro o x ho
  refine ⟨⟨⟨fun o x ho => ?_, fun o q x y vo vq _ ho hx => ?_, fun o ho => ?_, fun g hg => ?_, ?_⟩, hro, B.gd, ?_⟩, hE⟩
  · rcases hget o x ho with ⟨rfl, rfl⟩ | ho
    · refine ⟨by rw [nx_add]; omega, v, Inj.set_same .., h1, c', e', fr, hb, fun j x hx => ?_, fun h => absurd rfl h, fun h => by cases h⟩
      obtain ⟨y, hy, hv⟩ := hc j x hx
      exact ⟨y, hy, hv.mono mono⟩
    · obtain ⟨h2, u, hu, hor⟩ := B.rh.live o x ho
      exact ⟨by rw [nx_add]; omega, u, mono _ _ hu, hor.of_block mono rfl⟩
  · rw [hro o x ho] at hx; cases hx
  · rw [nx_add] at ho
    rw [Inj.set_other _ _ _ (by omega)]; exact B.rh.fresh o (by omega)
  · rw [Inj.set_other _ _ _ (by have := B.rh.gsize; omega)]; exact B.rh.glob g hg
  · rw [nx_add]; have := B.rh.gsize; omega
  · obtain ⟨x, u, a1, a2, a3, a4⟩ := B.some0
    exact ⟨x, u, by rw [get_add_ne (by omega)]; exact a1, by rw [Inj.set_other _ _ _ (by omega)]; exact a2, by rw [nx_add]; omega, a4⟩

theorem cells_take {a : Addr} {n : Nat} {cs : List Value} (h : W.cells? 0 a n = some cs) : cs.length = n ∧ ∀ j, j < n → W.cell? (a.add j) = cs[j]? := by
  unfold World.cells? at h
  rw [if_pos (Nat.zero_le _)] at h
  have hl := Lib.mapM_length h
  rw [List.length_range] at hl
  refine ⟨hl, fun j hj => ?_⟩
  obtain ⟨b, h1, h2⟩ := Lib.mapM_at h j j (by simp [hj])
  rw [h1, h2]

/-- A whole part is built, whatever a part is built of. -/
def Builds (H : Type) (enc : TypeId × Value → H) (P : Program) (W : World) (n : Nat) (t : TypeId) : Prop := ∀ (cs : List Value) (d : DataW H) (ps : List MemPlace), DataW.trod enc P W 0 (fun _ => true) true n t cs = some (d, ps) →
  ∀ ι h, Base P ι h W → ∃ ι' h' ev, Ext1 h ι h' ι' ∧ Base P ι' h' W ∧ VRs ι' ev cs ∧ ev.all one = true ∧ DE P h' n t ev d

theorem VRs.mono1 {ι ι' : Inj} {h h' : Hp} (E : Ext1 h ι h' ι') (R : ∀ o, h.nx ≤ o → ι o = none) {a b : List Value} (hv : VRs ι a b) : VRs ι' a b := hv.mono fun o v hv => by
  have : o < h.nx := by
    rcases Nat.lt_or_ge o h.nx with hh | hh
    · exact hh
    · rw [R o hh] at hv; cases hv
  rw [E.inj o this]; exact hv

/-- Parts, one after the other. -/
theorem build_list {n : Nat} : ∀ (l : List (TypeId × List Value × DataW H)), (∀ p ∈ l, Builds H enc P W n p.1 ∧ ∃ ps, DataW.trod enc P W 0 (fun _ => true) true n p.1 p.2.1 = some (p.2.2, ps)) → ∀ ι h, Base P ι h W →
    ∃ ι' h', ∃ evs : List (List Value), Ext1 h ι h' ι' ∧ Base P ι' h' W ∧ evs.length = l.length ∧ VRs ι' evs.flatten (l.map (·.2.1)).flatten ∧ evs.flatten.all one = true ∧
      ∀ i (hi : i < l.length), ∃ ev, evs[i]? = some ev ∧ VRs ι' ev l[i].2.1 ∧ DE P h' n l[i].1 ev l[i].2.2 := by
  intro l
  induction l with
  | nil => intro _ ι h B; exact ⟨ι, h, [], .refl _ _, B, rfl, .nil _, rfl, fun i hi => absurd hi (Nat.not_lt_zero _)⟩
  | cons p l ih =>
    intro hl ι h B
    obtain ⟨hb, ps, hp⟩ := hl p (List.mem_cons_self ..)
    obtain ⟨ι1, h1, ev, E1, B1, V1, O1, D1⟩ := hb _ _ _ hp ι h B
    obtain ⟨ι2, h2, evs, E2, B2, L2, V2, O2, D2⟩ := ih (fun q hq => hl q (List.mem_cons_of_mem _ hq)) ι1 h1 B1
    have V1' := VRs.mono1 E2 B1.rh.fresh V1
    refine ⟨ι2, h2, ev :: evs, E1.trans E2, B2, by simp [L2], ?_, ?_, fun i hi => ?_⟩
    · rw [List.flatten_cons, List.map_cons, List.flatten_cons]; exact V1'.append V2
    · rw [List.flatten_cons, List.all_append, O1, O2]; rfl
    · cases i with
      | zero => exact ⟨ev, rfl, V1', D1.mono E2.nx E2.get⟩
      | succ i => exact D2 i (by simpa using hi)

theorem flat_row {l : List (List Value)} {w : Nat} (hw : ∀ x ∈ l, x.length = w) : l.flatten.length = l.length * w ∧ ∀ i x, l[i]? = some x → (l.flatten.drop (i * w)).take w = x := by
  induction l with
  | nil => exact ⟨by simp, fun i x h => by simp at h⟩
  | cons y l ih =>
    obtain ⟨h1, h2⟩ := ih fun x hx => hw x (List.mem_cons_of_mem _ hx)
    have hy := hw y (List.mem_cons_self ..)
    refine ⟨by rw [List.flatten_cons, List.length_append, h1, hy, List.length_cons, Nat.add_mul]; omega, fun i x hx => ?_⟩
    rw [List.flatten_cons]
    cases i with
    | zero =>
      simp at hx
      subst hx
      rw [Nat.zero_mul, List.drop_zero, ← hy, List.take_left]
    | succ i =>
      rw [List.drop_append, List.drop_of_length_le (by rw [hy, Nat.add_mul]; omega), List.nil_append, hy, show (i + 1) * w - w = i * w by rw [Nat.add_mul]; omega]
      exact h2 i x (by simpa using hx)

/-- What a slice reads as. -/
theorem trod_slice {n : Nat} {e t : TypeId} (hu : P.underlying t = some (.slice e)) {cs : List Value} {d : DataW H} {ps : List MemPlace} (h : DataW.trod enc P W 0 (fun _ => true) true (n + 1) t cs = some (d, ps)) :
    (cs = [.slice none 0 0] ∧ d = .nil) ∨ ∃ (a : Addr) (len cap : Nat) (elems rest : List (DataW H × List MemPlace)), cs = [.slice (some a) len cap] ∧ len ≤ cap ∧ cap ≤ maxLen ∧
      (List.range len).mapM (fun i => (W.cells? 0 (a.add (i * P.cellsOf e)) (P.cellsOf e)).bind (DataW.trod enc P W 0 (fun _ => true) true n e)) = some elems ∧
      (List.range (cap - len)).mapM (fun j => (W.cells? 0 (a.add ((len + j) * P.cellsOf e)) (P.cellsOf e)).bind (DataW.trod enc P W 0 (fun _ => true) true n e)) = some rest ∧ d = .slice (elems.map (·.1)) (rest.map (·.1)) := by
  unfold DataW.trod at h
  rw [hu] at h
  rcases cs with _ | ⟨v, _ | ⟨w, r⟩⟩
  · cases h
  · cases v with
    | slice a len cap =>
      rcases a with _ | a
      · rcases len with _ | len
        · rcases cap with _ | cap
          · injection h with h; injection h with h1 h2; exact .inl ⟨rfl, h1.symm⟩
          · cases h
        · cases h
      · right
        simp only at h
        split at h
        · rename_i hc
          obtain ⟨elems, h1, h2⟩ := Option.bind_eq_some_iff.1 h
          obtain ⟨rest, h3, h4⟩ := Option.map_eq_some_iff.1 h2
          injection h4 with h4 h5
          rw [if_pos trivial] at h3
          exact ⟨a, len, cap, elems, rest, rfl, hc.2.1, hc.2.2, h1, h3, h4.symm⟩
        · cases h
    | _ => cases h
  · cases v with
    | slice a len cap => cases a <;> cases len <;> cases cap <;> cases h
    | _ => cases h

theorem cell_block {a : Addr} {v : Value} (h : W.cell? a = some v) : ∃ c e fr, W.heap[a.block]? = some (.cells c e fr) ∧ a.spot = none ∧ c[a.off]? = some v := by
  unfold World.cell? at h
  split at h
  · rename_i c e fr hb
    split at h
    · cases h
    · rename_i hs
      exact ⟨c, e, fr, hb, by simpa using hs, h⟩
  · cases h
theorem add_add (a : Addr) (i j : Nat) : ((a.add i).add j).block = a.block ∧ ((a.add i).add j).off = a.off + i + j := by
  unfold Addr.add
  by_cases hi : i = 0
  · subst hi; by_cases hj : j = 0
    · subst hj; exact ⟨rfl, rfl⟩
    · simp [hj]
  · by_cases hj : j = 0
    · subst hj; simp [hi]
    · simp [hi, hj]

theorem build_slice {n : Nat} {e t : TypeId} (he : Builds H enc P W n e) (hs : P.cellsOf e ≠ 0) (hu : P.underlying t = some (.slice e)) : Builds H enc P W (n + 1) t := by
  intro cs d ps h ι hp B
  rcases trod_slice hu h with ⟨rfl, rfl⟩ | ⟨a, len, cap, elems, rest, rfl, hlc, hcap, h1, h2, rfl⟩
  · exact ⟨ι, hp, [.slice none 0 0], .refl _ _, B, .of_flat rfl, rfl, by unfold DE; rw [hu]⟩
  have hcl : cap < unk := by
    have : unk = 18446744073709551616 := rfl
    have : maxLen = 2 ^ 63 - 1 := rfl
    omega
  have hcu : cap ≠ unk := Nat.ne_of_lt hcl
  have l1 := Lib.mapM_length h1
  have l2 := Lib.mapM_length h2
  rw [List.length_range] at l1 l2
  -- the elements
  let cell (i : Nat) : List Value := (W.cells? 0 (a.add (i * P.cellsOf e)) (P.cellsOf e)).getD []
  have el : ∀ i (hi : i < len), W.cells? 0 (a.add (i * P.cellsOf e)) (P.cellsOf e) = some (cell i) ∧ DataW.trod enc P W 0 (fun _ => true) true n e (cell i) = some (elems[i]'(by omega)) := by
    intro i hi
    obtain ⟨b, e1, e2⟩ := Lib.mapM_at h1 i i (by simp [hi])
    obtain ⟨c, e3, e4⟩ := Option.bind_eq_some_iff.1 e2
    have hc : cell i = c := by show (W.cells? 0 _ _).getD [] = c; rw [e3]; rfl
    rw [hc]
    refine ⟨e3, ?_⟩
    rw [e4, ← e1, List.getElem?_eq_getElem]
  by_cases hcap0 : cap = 0
  · -- nothing at all
    subst hcap0
    obtain rfl : len = 0 := by omega
    obtain ⟨x, v, g1, g2, g3, c, e', rfl⟩ := B.some0
    have he0 : elems = [] := List.length_eq_zero_iff.1 l1
    subst he0
    refine ⟨ι, hp, [.slice (some ⟨0, 0, none⟩) 0 0], .refl _ _, B, .cons (.sl0 g2 (.inr rfl)) (.nil _), rfl, ?_⟩
    unfold DE
    rw [hu]
    have hm : ∃ c' e'', hp.get 0 = some (.cells c' e'' .ro) := by
      refine ⟨c, e', ?_⟩
      have := B.ro 0 _ g1
      rw [g1]
    obtain ⟨c', e'', hm⟩ := hm
    exact ⟨0, 0, c', e'', rfl, hcl, Nat.le_refl _, g3, hm, by simp, fun i hi => absurd hi (Nat.not_lt_zero _)⟩
  · -- the block
    have hblk : ∃ c' e' fr, W.heap[a.block]? = some (.cells c' e' fr) ∧ a.spot = none := by
      have first : ∃ c, W.cells? 0 a (P.cellsOf e) = some c := by
        rcases Nat.eq_zero_or_pos len with h0 | h0
        · obtain ⟨b, _, e2⟩ := Lib.mapM_at h2 0 0 (by rw [List.getElem?_eq_getElem (by simp; omega)]; simp)
          obtain ⟨c, e3, _⟩ := Option.bind_eq_some_iff.1 e2
          rw [h0, Nat.zero_add, Nat.zero_mul] at e3
          exact ⟨c, e3⟩
        · have := (el 0 h0).1
          rw [Nat.zero_mul] at this
          exact ⟨_, this⟩
      obtain ⟨c, hc⟩ := first
      obtain ⟨g1, g2⟩ := cells_take hc
      have := g2 0 (by omega)
      obtain ⟨v, hv⟩ : ∃ v, c[0]? = some v := ⟨c[0]'(by omega), List.getElem?_eq_getElem _⟩
      rw [hv] at this
      obtain ⟨c', e', fr, q1, q2, _⟩ := cell_block this
      exact ⟨c', e', fr, q1, q2⟩
    obtain ⟨c', e', fr, hb, hsp⟩ := hblk
    let l : List (TypeId × List Value × DataW H) := (List.range len).map fun i => (e, cell i, ((elems.map (·.1))[i]?).getD .nil)
    have hll : l.length = len := by simp [l]
    have lget : ∀ i (hi : i < l.length), l[i] = (e, cell i, (elems[i]'(by omega)).1) := by
      intro i hi
      have hi' : i < elems.length := by omega
      simp [l, hi']
    obtain ⟨ι1, h3, evs, E1, B1, L1, V1, O1, D1⟩ := build_list l (fun p hpm => by
      obtain ⟨i, hi, rfl⟩ := List.getElem_of_mem hpm
      rw [lget i hi]
      exact ⟨he, _, (el i (by omega)).2⟩) ι hp B
    have hw : ∀ x ∈ evs, x.length = P.cellsOf e := by
      intro x hx
      obtain ⟨i, hi, rfl⟩ := List.getElem_of_mem hx
      obtain ⟨ev, e1, e2, _⟩ := D1 i (by omega)
      rw [List.getElem?_eq_getElem hi] at e1
      obtain rfl := Option.some.inj e1
      rw [← e2.1, lget i (by omega)]
      exact (cells_take (el i (by omega)).1).1
    obtain ⟨f1, f2⟩ := flat_row hw
    obtain ⟨B2, E2⟩ := B1.push (c := evs.flatten) (e := e) (v := ⟨a.block, a.off, 0, 0⟩) O1 hb (fun j x hx => by
      have hj : j < evs.flatten.length := (List.getElem?_eq_some_iff.1 hx).1
      rw [f1, L1, hll] at hj
      have hlt : j / P.cellsOf e < len := Nat.div_lt_of_lt_mul (by rw [Nat.mul_comm]; exact hj)
      have hmod : j % P.cellsOf e < P.cellsOf e := Nat.mod_lt _ (by omega)
      have hdm : j = j / P.cellsOf e * P.cellsOf e + j % P.cellsOf e := by rw [Nat.mul_comm]; exact (Nat.div_add_mod j _).symm
      obtain ⟨ev, e1, e2, _⟩ := D1 (j / P.cellsOf e) (by omega)
      have e3 := f2 _ _ e1
      have hx' : ev[j % P.cellsOf e]? = some x := by
        rw [← e3, List.getElem?_take, if_pos hmod, List.getElem?_drop, ← hdm]; exact hx
      obtain ⟨y, hy, hv⟩ := e2.get hx'
      rw [lget _ (by omega)] at hy
      have hy : (cell (j / P.cellsOf e))[j % P.cellsOf e]? = some y := hy
      have := (cells_take (el _ hlt).1).2 _ hmod
      rw [hy] at this
      obtain ⟨c2, e2', fr2, q1, _, q3⟩ := cell_block this
      obtain ⟨p1, p2⟩ := add_add a (j / P.cellsOf e * P.cellsOf e) (j % P.cellsOf e)
      rw [p1] at q1
      rw [p2] at q3
      rw [hb] at q1
      injection q1 with q1
      injection q1 with q1 _ _
      subst q1
      exact ⟨y, by rw [show a.off + j = a.off + j / P.cellsOf e * P.cellsOf e + j % P.cellsOf e by omega]; exact q3, hv⟩)
    refine ⟨_, _, [.slice (some ⟨h3.nx, 0, none⟩) len cap], E1.trans E2, B2, .cons ?_ (.nil _), rfl, ?_⟩
    · have ha : a = ⟨a.block, a.off + 0, none⟩ := by cases a; simp at hsp; subst hsp; rfl
      rw [ha]
      exact .slc (w := ⟨a.block, a.off, 0, 0⟩) (Inj.set_same ..) hcu
    · unfold DE
      rw [hu]
      have hel : (elems.map (·.1)).length = len := by simp [l1]
      refine ⟨h3.nx, cap, evs.flatten, e, by rw [hel], hcl, by rw [hel]; exact hlc, by rw [nx_add]; omega, get_add_same .., Nat.le_of_eq (by rw [hel, f1, L1, hll]), fun i hi => ?_⟩
      rw [hel] at hi
      obtain ⟨ev, e1, _, e3⟩ := D1 i (by omega)
      rw [f2 i ev e1]
      rw [lget i (by omega)] at e3
      have : (elems.map (·.1))[i]'(by rw [hel]; exact hi) = (elems[i]'(by omega)).1 := by simp
      rw [this]
      exact e3.mono (by rw [nx_add]; omega) fun o ho => get_add_ne (by omega)

theorem build_int {n : Nat} {t : TypeId} {k : IntKind} (hu : P.underlying t = some (.int k)) : Builds H enc P W (n + 1) t := by
  intro cs d ps h ι hp B
  unfold DataW.trod at h
  rw [hu] at h
  rcases cs with _ | ⟨v, _ | ⟨w, r⟩⟩
  · cases h
  · cases v with
    | int k' x =>
      simp only at h
      split at h
      · rename_i hc
        injection h with h; injection h with h _
        subst h
        obtain ⟨rfl, hw⟩ := hc
        exact ⟨ι, hp, [.int k' x], .refl _ _, B, .of_flat rfl, rfl, by unfold DE; rw [hu]; exact ⟨rfl, rfl, hw⟩⟩
      · cases h
    | slice a len cap => cases a <;> cases len <;> cases cap <;> cases h
    | _ => cases h
  · cases v with
    | slice a len cap => cases a <;> cases len <;> cases cap <;> cases h
    | _ => cases h
theorem build_bool {n : Nat} {t : TypeId} (hu : P.underlying t = some .bool) : Builds H enc P W (n + 1) t := by
  intro cs d ps h ι hp B
  unfold DataW.trod at h
  rw [hu] at h
  rcases cs with _ | ⟨v, _ | ⟨w, r⟩⟩
  · cases h
  · cases v with
    | bool b =>
      injection h with h; injection h with h _
      subst h
      exact ⟨ι, hp, [.bool b], .refl _ _, B, .of_flat rfl, rfl, by unfold DE; rw [hu]⟩
    | slice a len cap => cases a <;> cases len <;> cases cap <;> cases h
    | _ => cases h
  · cases v with
    | slice a len cap => cases a <;> cases len <;> cases cap <;> cases h
    | _ => cases h
end
end Go.Ev
/- A law's arguments, as the evaluator's memory; from its word to the kit's. -/
namespace Go.Ev
open Go Go.ChangeShapes Go.WideShapes Go.ChangeAt Go.RowKit

section
variable {H : Type} {enc : TypeId × Value → H} {P : Program} {W : World}
/-- Arguments that read as some data. -/
def DEs (P : Program) (h : Hp) : List TypeId → List Value → List (DataW H) → Prop
  | [], [], [] => True
  | t :: ts, v :: vs, d :: ds => ((∃ n, DE P h n t v.cells.toList d) ∧ (aggT P t = some true ∨ v.cells.toList = [v])) ∧ DEs P h ts vs ds
  | _, _, _ => False
theorem DEs.mono {h h' : Hp} (hn : h.nx ≤ h'.nx) (hg : ∀ o, o < h.nx → h'.get o = h.get o) : ∀ {ts : List TypeId} {vs : List Value} {ds : List (DataW H)}, DEs P h ts vs ds → DEs P h' ts vs ds
  | [], [], [], h => h
  | _ :: _, _ :: _, _ :: _, ⟨⟨⟨n, h1⟩, h3⟩, h2⟩ => ⟨⟨⟨n, h1.mono hn hg⟩, h3⟩, h2.mono hn hg⟩
/-- A value is one cell, or a struct's or a row's cells. -/
def Shaped1 (P : Program) (t : TypeId) (v : Value) : Prop := v.cells.toList = [v] ∨ (∃ cs, v = .agg cs) ∧ aggT P t = some true
theorem args_build : ∀ {ts : List TypeId} {vs : List Value} {ds : List (DataW H)} {p : List MemPlace}, DataW.TrodAll enc P W 0 (fun _ => true) true ts vs ds p → (∀ t ∈ ts, ∀ n, Builds H enc P W n t) → (∀ (i : Nat) t v, ts[i]? = some t → vs[i]? = some v → Shaped1 P t v) → ∀ ι h, Base P ι h W →
    ∃ ι' h' evs, Ext1 h ι h' ι' ∧ Base P ι' h' W ∧ VRs ι' evs vs ∧ DEs P h' ts evs ds
  | [], [], [], _, _, _, _, ι, h, B => ⟨ι, h, [], .refl _ _, B, .nil _, trivial⟩
  | t :: ts, v :: vs, d :: ds, _, ⟨p, q, ⟨n, h1⟩, h2, _⟩, hb, hs, ι, h, B => by
    obtain ⟨ι1, h3, ev, E1, B1, V1, O1, D1⟩ := hb t (List.mem_cons_self ..) n _ _ _ h1 ι h B
    obtain ⟨ι2, h4, evs, E2, B2, V2, D2⟩ := args_build h2 (fun t ht => hb t (List.mem_cons_of_mem _ ht)) (fun i t v a b => hs (i + 1) t v (by simpa using a) (by simpa using b)) ι1 h3 B1
    have V1' := VRs.mono1 E2 B1.rh.fresh V1
    rcases hs 0 t v rfl rfl with hc | ⟨⟨cs, rfl⟩, hag⟩
    · rw [hc] at V1'
      have hl : ev.length = 1 := by have := V1'.1; simpa using this.symm
      obtain ⟨x, rfl⟩ : ∃ x, ev = [x] := List.length_eq_one_iff.1 hl
      have hx : x.cells.toList = [x] := by
        have : one x = true := by simpa using O1
        cases x <;> first | rfl | cases this
      obtain ⟨y, c, e1, e2, _⟩ := V1'.head
      injection e1 with e1 _
      subst e1
      refine ⟨ι2, h4, x :: evs, E1.trans E2, B2, .cons e2 V2, ⟨⟨n, ?_⟩, .inr hx⟩, D2⟩
      rw [hx]; exact D1.mono E2.nx E2.get
    · refine ⟨ι2, h4, .agg ev.toArray :: evs, E1.trans E2, B2, .cons ?_ V2, ⟨⟨n, ?_⟩, .inl hag⟩, D2⟩
      · have V1'' : VRs ι2 ev.toArray.toList cs.toList := by rw [List.toList_toArray]; exact V1'
        obtain ⟨a1, a2⟩ := VRs.arr.1 V1''
        exact .agg a1 a2
      · show DE P h4 n t (ev.toArray).toList d
        simpa using D1.mono E2.nx E2.get

theorem shaped_of {r : Reach} {base n : Nat} {t : TypeId} {v : Value} (hp : Plain P n t = true) (h : Value.okWide P W r base t v) : Shaped1 P t v := by
  cases n with
  | zero => cases hp
  | succ n =>
    unfold Plain at hp
    unfold Value.okWide at h
    split at hp
    · rename_i hu
      rw [hu] at h
      unfold Cell.okWide Cell.ok at h
      rw [hu] at h
      cases v <;> first | exact .inl rfl | exact h.elim
    · rename_i hu
      rw [hu] at h
      unfold Cell.okWide Cell.ok at h
      rw [hu] at h
      cases v <;> first | exact .inl rfl | exact h.elim
    · rename_i hu
      rw [hu] at h
      unfold Cell.okWide Cell.ok at h
      rw [hu] at h
      cases v <;> first | exact .inl rfl | exact h.elim
    · rename_i hu
      rw [hu] at h
      obtain ⟨cs, rfl, _⟩ := h
      exact .inr ⟨⟨cs, rfl⟩, by unfold aggT; rw [hu]⟩
    · rename_i hu
      rw [hu] at h
      obtain ⟨cs, rfl, _⟩ := h
      exact .inr ⟨⟨cs, rfl⟩, by unfold aggT; rw [hu]⟩
    · cases hp
theorem DE_int {h : Hp} {n : Nat} {t : TypeId} {k : IntKind} (hu : P.underlying t = some (.int k)) {cs : List Value} {d : DataW H} (hd : DE P h n t cs d) : ∃ x, cs = [.int k x] ∧ (Lit.int k x).wf = true := by
  cases n with
  | zero => exact hd.elim
  | succ n =>
    unfold DE at hd
    rw [hu] at hd
    split at hd
    all_goals first | (rename_i heq; cases heq; done) | skip
    · rename_i k' k2 x heq
      injection heq with heq; injection heq with heq
      subst heq
      exact ⟨x, hd.2⟩
    all_goals first | exact hd.elim | skip
/-- A list of whole numbers. -/
theorem DE_ints {h : Hp} {n : Nat} {t e : TypeId} (hu : P.underlying t = some (.slice e)) (he : P.underlying e = some (.int .i64)) (hc : P.cellsOf e = 1) {cs : List Value} {d : DataW H} (hd : DE P h n t cs d) :
    ∃ a m c xs, cs = [.slice a m c] ∧ IntsAt h a m xs ∧ c < unk ∧ m ≤ c := by
  cases n with
  | zero => exact hd.elim
  | succ n =>
    unfold DE at hd
    rw [hu] at hd
    split at hd
    all_goals first | (rename_i heq; cases heq; done) | skip
    · exact ⟨none, 0, 0, [], hd, SlAt.nil .., by decide, Nat.le_refl _⟩
    · rename_i e2 elems sp heq
      injection heq with heq; injection heq with heq
      subst heq
      obtain ⟨k, cap, c, e', h1, h2, h3, h4, h5, h6, h7⟩ := hd
      rw [hc] at h6
      have hx : ∀ i (hi : i < elems.length), ∃ x, (c.drop (i * 1)).take 1 = [.int .i64 x] := fun i hi => by
        have := h7 i hi
        rw [hc] at this
        obtain ⟨x, hx, _⟩ := DE_int he this
        exact ⟨x, hx⟩
      let xs : List Int := (List.range elems.length).map fun i => if hi : i < elems.length then (hx i hi).choose else 0
      have hl : xs.length = elems.length := by simp [xs]
      refine ⟨some ⟨k, 0, none⟩, elems.length, cap, xs, h1, ⟨hl.symm, .inr ⟨k, 0, c, e', .ro, rfl, h4, h5, by rw [hl]; omega, fun i hi => ?_⟩⟩, h2, h3⟩
      rw [hl] at hi
      show (c.drop (0 + i * 1)).take 1 = [.int .i64 xs[i]]
      have : xs[i]'(by rw [hl]; exact hi) = (hx i hi).choose := by simp [xs, hi]
      rw [this, Nat.zero_add]
      exact (hx i hi).choose_spec
    all_goals first | exact hd.elim | skip

/-- What was there stays, but for what is new. -/
theorem post_of_old {f : Func} {s : ChangeSpec} {apart fresh handsOn again : Bool} {W W' : World} {args : Array Value} {v : Value} {ds gs : List (DataW H)} {before pa pv : List MemPlace}
    (hW : DataW.Whole enc P f.params.toList s.vars apart W args.toList ds gs before)
    (hres : ∀ (b : Nat) (sp : Nat → Bool) (hd : Bool), DataW.TrodAll enc P W' b sp hd f.resultTypes.toList (v.resultList f.resultTypes.size) (s.fn H (ds ++ gs)).results [])
    (hargs : ∀ sp : Nat → Bool, (∀ p ∈ before, sp p.block = true) → DataW.TrodAll enc P W' 0 sp true f.params.toList args.toList (s.fn H (ds ++ gs)).args pa)
    (hvars : ∀ sp : Nat → Bool, (∀ p ∈ before, sp p.block = true) → DataW.TrodVars enc P W' sp s.vars (s.fn H (ds ++ gs)).vars pv)
    (hps : before = pa ++ pv) (hk : W.keptBut W' (· ∈ before)) (hfz : ∀ a : Addr, a.block < W.heap.size → W'.frozen? a = W.frozen? a)
    (hok : ∀ (j : Nat) (t : TypeId) (r : Value), f.resultTypes[j]? = some t → (v.resultList f.resultTypes.size)[j]? = some r → Value.okWide P W' .any 0 t r) :
    s.post enc P f apart fresh handsOn again W args v W' := by
  have hold : ∀ p ∈ before, (fun b => decide (b < W.heap.size)) p.block = true := fun p hp => by simpa using hW.lt p hp
  have hlt := hW.lt
  refine ⟨ds, gs, before, [], pa, pv, hW, hres _ _ _, hargs _ hold, hvars _ hold, World.keptBut_mono (fun p hp => ⟨hp, ?_⟩) hk, fun _ => ?_⟩
  · rw [hps, List.mem_append] at hp
    exact Or.inr hp
  · obtain ⟨_, _, _, _, _, hz, hn⟩ := hW
    refine ⟨hok, _, _, ([] ++ pa) ++ pv, ⟨[] ++ pa, pv, trodAll_append (hargs _ (fun _ _ => rfl)) (hres _ _ _), hvars _ (fun _ _ => rfl), rfl, ?_, ?_⟩, ?_⟩
    · intro b off hp
      have hp2 : MemPlace.cell b off ∈ before := by rw [hps]; simpa using hp
      rw [hfz _ (hlt _ hp2)]
      exact hz b off hp2
    · intro ha
      have := hn ha
      rw [hps] at this
      simpa using this
    · intro p hp _
      rw [hps]
      simpa using hp
/-- Arguments read again as they did. -/
theorem again {ts : List TypeId} {vs : List Value} {ds : List (DataW H)} {p : List MemPlace} {W' : World} (K : Kids P (· < P.types.size)) (full : ∀ t e, t < P.types.size → P.underlying t = some (.slice e) → 0 < P.cellsOf e) (hts : ∀ t ∈ ts, t < P.types.size)
    (hA : DataW.TrodAll enc P W 0 (fun _ => true) true ts vs ds p) (hb : Below W.heap.size W W') (hlt : ∀ q ∈ p, q.block < W.heap.size) (sp : Nat → Bool) (hs : ∀ q ∈ p, sp q.block = true) : DataW.TrodAll enc P W' 0 sp true ts vs ds p := by
  have hA' := DataW.TrodAll.respare K full hts hA hs
  clear hA hs hts
  induction ts generalizing vs ds p with
  | nil => match vs, ds, hA' with
    | [], [], h => exact h
  | cons t ts ih => match vs, ds, hA' with
    | v :: vs, d :: ds, ⟨p1, p2, ⟨n, h1⟩, h2, e⟩ =>
      subst e
      exact ⟨p1, p2, ⟨n, DataW.trod_carry n _ _ _ h1 fun q hq => hb.same (hlt q (List.mem_append_left _ hq))⟩, ih (fun q hq => hlt q (List.mem_append_right _ hq)) h2, rfl⟩
end
end Go.Ev
