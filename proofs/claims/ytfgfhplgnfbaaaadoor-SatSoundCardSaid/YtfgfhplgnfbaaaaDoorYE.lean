/- Contracts of library functions that sort, where the list is sorted: to the end. Contraries. -/
import Derived.Test.YtfgfhplgnfbaaaaDoorYD
import Derived.Test.YtfgfhplgnfbaaaaDoorProg
import Derived.Test.YtfgfhplgnfbaaaaDoorYC
import Derived.KernelRfl
namespace Go.Proofs.YtfgfhplgnfbaaaaDoor
open Go Go.Ev
def lenT : ByteArray := ByteArray.mk #[0, 1, 2, 2, 3, 3, 3, 3, 4, 4, 4, 4, 4, 4, 4, 4, 5, 5, 5, 5, 5, 5, 5, 5, 5, 5, 5, 5, 5, 5, 5, 5, 6, 6, 6, 6, 6, 6, 6, 6, 6, 6, 6, 6, 6, 6, 6, 6, 6, 6, 6, 6, 6, 6, 6, 6, 6, 6, 6, 6, 6, 6, 6, 6, 7, 7, 7, 7, 7, 7, 7, 7, 7, 7, 7, 7, 7, 7, 7, 7, 7, 7, 7, 7, 7, 7, 7, 7, 7, 7, 7, 7, 7, 7, 7, 7, 7, 7, 7, 7, 7, 7, 7, 7, 7, 7, 7, 7, 7, 7, 7, 7, 7, 7, 7, 7, 7, 7, 7, 7, 7, 7, 7, 7, 7, 7, 7, 7, 8, 8, 8, 8, 8, 8, 8, 8, 8, 8, 8, 8, 8, 8, 8, 8, 8, 8, 8, 8, 8, 8, 8, 8, 8, 8, 8, 8, 8, 8, 8, 8, 8, 8, 8, 8, 8, 8, 8, 8, 8, 8, 8, 8, 8, 8, 8, 8, 8, 8, 8, 8, 8, 8, 8, 8, 8, 8, 8, 8, 8, 8, 8, 8, 8, 8, 8, 8, 8, 8, 8, 8, 8, 8, 8, 8, 8, 8, 8, 8, 8, 8, 8, 8, 8, 8, 8, 8, 8, 8, 8, 8, 8, 8, 8, 8, 8, 8, 8, 8, 8, 8, 8, 8, 8, 8, 8, 8, 8, 8, 8, 8, 8, 8, 8, 8, 8, 8, 8, 8, 8, 8, 8, 8, 8, 8, 8, 8]
theorem lenT_ok : ∀ k, k < 256 → wrapF .i64 (0 + wrapF .i64 (byteI lenT k)) ≠ 0 ∨ k = 0 := by decide +kernel
section
variable {O : CallF} (hO : Oth O)
include hO
theorem ct136 {n : Nat} (hn : n < 256) (h : Hp) : EvT O 136 [.int .u64 (Int.ofNat n)] h (.int .i64 (wrapF .i64 (0 + wrapF .i64 (byteI lenT n)))) h := by
  refine EvC.of_ret (rk136 _ (hO _ _ _ (by decide)) ?_)
  unfold T136
  have e8 : wrapF .u8 (Int.ofNat n) = Int.ofNat n := by
    show Int.ofNat (n % 256) = _
    rw [Nat.mod_eq_of_lt hn]
  rw [e8]
  refine vcond_f (by rw [ltI_t (by simp only [Int.ofNat_eq_natCast]; omega)]; rfl) (vcond_f (by rw [ltI_t (by simp only [Int.ofNat_eq_natCast]; omega)]; rfl) (vcond_f (by rw [ltI_t (by simp only [Int.ofNat_eq_natCast]; omega)]; rfl) (isNat_of (vreq_t (blt_t hn) ⟨rfl, rfl⟩))))
theorem ct116 {n : Nat} (hn : n < 256) (h : Hp) : EvT O 116 [.int .u64 (Int.ofNat n)] h (.int .i64 (wrapF .i64 (0 + wrapF .i64 (byteI lenT n)))) h := by
  refine EvC.of_ret (rk116 _ (hO _ _ _ (by decide)) ?_)
  unfold T116
  exact ⟨_, _, ct136 hO hn h, rfl, rfl⟩
theorem ct115 {h : Hp} {a0 : Option Addr} {n0 c0 : Nat} {l : List Int} (X : IntsAt h a0 n0 l) (hl : l.length < 50) (hlit : ∀ x ∈ l, Lit x) (hd : Dif l) {x3 : Int} (h3 : 12 < l.length → x3 ≠ 0) :
    Ret Tryd.prog O 115 [.slice a0 n0 c0, .int .i64 0, .int .i64 (Int.ofNat n0), .int .i64 x3, .func (.func 123) #[] #[]] h fun v h' => v = undef ∧ Kp h.nx h h' := by
  refine rk115 _ _ _ _ _ _ _ _ _ (hO _ _ _ (by decide)) ?_
  unfold T115
  have hn := X.1
  have i0 : I115_0 O (fun v h' => v = undef ∧ Kp h.nx h h') a0 n0 c0 0 (Int.ofNat n0) x3 123 #[] #[] 0 (Int.ofNat n0) x3 123 #[] #[] true true h := by
    refine I115_0.of _ _ _ _ _ _ _ _ _ _ _ _ _ _ _ _ _ ?_
    intros
    unfold T115_0
    have e0 : wrapF .i64 (Int.ofNat n0 - 0) = Int.ofNat n0 := by rw [wrap64] <;> simp only [Int.ofNat_eq_natCast] <;> omega
    rw [e0]
    refine vcond_split (fun h1 => ?_) fun h1 => ?_
    · obtain ⟨v, h2, e2, rfl, K2⟩ := ct127 hO X (by omega) hlit hd (c0 := c0)
      exact ⟨_, e2, rfl, K2⟩
    · have h1 : 12 < l.length := by
        have : ltI 12 (Int.ofNat n0) = true := by simpa using h1
        have := lt_of_t this
        simp only [Int.ofNat_eq_natCast] at this
        omega
      refine vcond_f (eqI_f (h3 h1)) (vcond_f rfl ?_)
      obtain ⟨v, h2, e2, ⟨p, rfl⟩, K2⟩ := ct130 hO X hl (by omega) hlit hd (c0 := c0)
      obtain ⟨v, h4, e4, rfl, K4⟩ := ct132 hO (X.up EInt.up K2) (by omega) (by omega) hlit hd (c0 := c0)
      exact ⟨_, _, _, e2, vcond_f (eqI_f (by decide)) (vcond_t rfl (vcond_t rfl (vcond_t (eqI_t rfl) ⟨_, _, e4, vcond_t rfl ⟨rfl, K2.trans (K4.le K2.nx)⟩⟩)))⟩
  exact i0 ..
theorem ct74 {h : Hp} {a0 : Option Addr} {n0 c0 : Nat} {l : List Int} (X : IntsAt h a0 n0 l) (hl : l.length < 50) (hlit : ∀ x ∈ l, Lit x) (hd : Dif l) :
    Ret Tryd.prog O 74 [.slice a0 n0 c0, .func (.func 123) #[] #[]] h fun v h' => v = undef ∧ Kp h.nx h h' := by
  refine rk74 _ _ _ _ _ _ (hO _ _ _ (by decide)) ?_
  unfold T74
  have hn := X.1
  have e : wrapF .u64 (Int.ofNat n0) = Int.ofNat n0 := by
    have : n0 < 50 := by omega
    clear X hn
    revert n0
    decide +kernel
  rw [e]
  obtain ⟨v, h2, e2, rfl, K2⟩ := ct115 hO X hl hlit hd (c0 := c0) (x3 := wrapF .i64 (0 + wrapF .i64 (byteI lenT n0))) (fun h12 => (lenT_ok n0 (by omega)).resolve_right (by omega))
  exact ⟨_, _, ct116 hO (by omega) h, _, e2, rfl, K2⟩
omit hO in
theorem Dif.neg {l : List Int} (h : Dif l) : Dif (l.map fun x => -x) := by
  unfold Dif
  rw [List.pairwise_map]
  refine h.imp fun {x z} hxz => ?_
  rw [Int.natAbs_neg, Int.natAbs_neg]; exact hxz
omit hO in
theorem lit_neg {l : List Int} (h : ∀ x ∈ l, Lit x) : ∀ x ∈ l.map (fun x => -x), Lit x := by
  intro x hx
  obtain ⟨z, hz, rfl⟩ := List.mem_map.1 hx
  have := h z hz
  exact ⟨by have := this.1; omega, by have := this.2; omega⟩
theorem lp96_0 {h₀ : Hp} (ok : h₀.Ok) {a0 : Option Addr} {n0 c0 : Nat} {l : List Int} (X : IntsAt h₀ a0 n0 l) (hl : l.length < 50) (hlit : ∀ x ∈ l, Lit x) (hd : Dif l) :
    ∀ (d k : Nat), k + d = l.length → ∀ {a : Option Addr} {n c : Nat} {h : Hp}, Kp h₀.nx h₀ h → AccI 3 h h₀.nx a n c ((l.take k).map fun x => -x) → I96_0 O (RInts h₀ (l.map fun x => -x)) a0 n0 c0 a n c (Int.ofNat k) h := by
  have hn := X.1
  intro d
  induction d with
  | zero =>
    intro k hk a n c h K A
    refine I96_0.of _ _ _ _ _ _ _ ?_
    intros
    unfold T96_0
    rw [List.take_of_length_le (by omega)] at A
    obtain ⟨v, h2, e2, rfl, K2⟩ := ct74 hO A.ints (by simpa using hl) (lit_neg hlit) hd.neg (c0 := c)
    exact vcond_f (by rw [ltI_nat]; exact blt_f (by omega)) ⟨_, e2, a, n, c, rfl, A.ints.up EInt.up K2, K.trans (K2.le K.nx), fun b off e => Acc.fresh A e⟩
  | succ d ih =>
    intro k hk a n c h K A
    refine I96_0.of _ _ _ _ _ _ _ ?_
    intros
    unfold T96_0
    have hx := hlit l[k] (List.getElem_mem _)
    have e2 : wrapF .i64 (0 - l[k]) = -l[k] := by have := hx.2; rw [wrap64 (by omega) (by omega)]; omega
    obtain ⟨a', n', c', h', p1, p2, p3⟩ := app_int app32 A K.nx (fun q hq => by rw [K.gd] at hq; exact ok.gd q hq) (by simp; omega) (-l[k])
    refine vcond_t (by rw [ltI_nat]; exact blt_t (by omega)) (isNat_of (X.get (k := k) (by omega) fun b' off _ hlt hrd => vreq_t (blt_t (by omega)) ⟨_, by rw [readAt_kp K hlt]; exact hrd, a', n', c', h', by rw [e2]; exact p1, ?_⟩))
    rw [wrap_succ (by omega)]
    have e1 : l.take (k + 1) = l.take k ++ [l[k]] := List.take_succ_eq_append_getElem (by omega)
    refine ih (k + 1) (by omega) (K.trans (p3.kp A K.nx)) ?_ ..
    rw [e1, List.map_append]; exact p2
theorem ct96 {h : Hp} (ok : h.Ok) {a0 : Option Addr} {n0 c0 : Nat} {l : List Int} (X : IntsAt h a0 n0 l) (hl : l.length < 50) (hlit : ∀ x ∈ l, Lit x) (hd : Dif l) : Ret Tryd.prog O 96 [.slice a0 n0 c0] h (RInts h (l.map fun x => -x)) := by
  refine rk96 _ _ _ (hO _ _ _ (by decide)) ?_
  unfold T96
  exact lp96_0 hO ok X hl hlit hd l.length 0 (by omega) (.refl _ _) (AccI.nil ..) ..
end
end Go.Proofs.YtfgfhplgnfbaaaaDoor
/- Conditions of functions' code, printed by a program of ours. -/
namespace Go.Proofs.YtfgfhplgnfbaaaaDoor
open Go Go.Ev
set_option maxRecDepth 100000
set_option linter.unusedVariables false
/-! (sward/swardlaw20.Puzzle).made -/
noncomputable def b16 : Code := (Tryd.f16.body).getD .skip
noncomputable def stk16_0 : List KI := [.code (sub [1, 1, 0, 1, 0] b16), .blk 0, .code (sub [1, 1, 1] b16)]
noncomputable def stk16_1 : List KI := [.code (sub [1, 1, 0, 1, 0, 0, 1, 1, 0, 0, 1, 1, 0, 1, 0] b16), .blk 2, .code (sub [1, 1, 0, 1, 0, 0, 1, 1, 0, 0, 1, 1, 1] b16), .blk 1, .code (sub [1, 1, 0, 1, 0, 0, 1, 1, 1] b16), .code (sub [1, 1, 0, 1, 0] b16), .blk 0, .code (sub [1, 1, 1] b16)]
def lv16 : List (Nat × List Nat) := [(0, [4, 5, 23, 24, 25]), (2, [4, 5, 8, 23, 24, 25, 29, 30])]
def I16_0 (O : CallF) (Q : Value → Hp → Prop) (v0 : Array Value) (x1 : Int) (b4 : Nat) (f4 : Nat) (b5 : Nat) (f5 : Nat) (a23 : Option Addr) (n23 : Nat) (c23 : Nat) (x24 : Int) (x25 : Int) (h : Hp) : Prop := RKL Tryd.prog O Tryd.f16 stk16_0 57 [4, 5, 23, 24, 25] [(.pointer (some ⟨b4, f4, none⟩)), (.pointer (some ⟨b5, f5, none⟩)), (.slice a23 n23 c23), (.int .i64 x24), (.int .i64 x25)] h Q
def I16_1 (O : CallF) (Q : Value → Hp → Prop) (v0 : Array Value) (x1 : Int) (b4 : Nat) (f4 : Nat) (b5 : Nat) (f5 : Nat) (a8 : Option Addr) (n8 : Nat) (c8 : Nat) (a23 : Option Addr) (n23 : Nat) (c23 : Nat) (x24 : Int) (x25 : Int) (x29_0 : Int) (x29_1 : Int) (x29_2 : Int) (x30 : Int) (h : Hp) : Prop := RKL Tryd.prog O Tryd.f16 stk16_1 57 [4, 5, 8, 23, 24, 25, 29, 30] [(.pointer (some ⟨b4, f4, none⟩)), (.pointer (some ⟨b5, f5, none⟩)), (.slice a8 n8 c8), (.slice a23 n23 c23), (.int .i64 x24), (.int .i64 x25), (.agg #[(.int .i8 x29_0), (.int .i8 x29_1), (.int .i8 x29_2)]), (.int .i64 x30)] h Q
def T16 (O : CallF) (Q : Value → Hp → Prop) (v0 : Array Value) (x1 : Int) (h : Hp) : Prop :=
  vreq (v0.toList.all one)
  (let g1 : Hp := h.add (.cells v0.toList 26 .fix)
  let g2 : Hp := g1.add (.cells [(.int .i64 0), (.slice none 0 0)] 30 .fix)
  ∃ x3', readAt g2 h.nx 0 1 = some [(.int .u8 x3')] ∧
  vreq (!(eqI x1 0))
  (let g4 : Hp := g2.add (.cells [(.int .i64 0), (.slice none 0 0)] 30 .fix)
  vreq (canW g4 g2.nx 0 [(.int .i64 (wrapF .i64 (1 + (Int.tmod (wrapF .i64 x3') x1)))), (.slice none 0 0)])
  (let g5 : Hp := g4.wr g2.nx 0 [(.int .i64 (wrapF .i64 (1 + (Int.tmod (wrapF .i64 x3') x1)))), (.slice none 0 0)]
  ∃ x6', readAt g5 h.nx 1 1 = some [(.int .u8 x6')] ∧
  ∃ a7' n8' c9', sliceV Tryd.prog g5 24 (.pointer (some ⟨h.nx, 2, none⟩)) none (some (.int .i64 (Int.tmod (wrapF .i64 x6') 15))) none = some (.slice a7' n8' c9') ∧
  I16_0 O Q v0 x1 g1.nx 0 g2.nx 0 a7' n8' c9' (Int.ofNat n8') 0 g5)))
theorem rk16 {O Q} (v0 x1) {h : Hp} (hO : O 16 [(.agg v0), (.int .i64 x1)] h = none) (hh : T16 O Q v0 x1 h) : Ret Tryd.prog O 16 [(.agg v0), (.int .i64 x1)] h Q :=
  .of (c := b16) Tryd.func16 (by kernel_rfl) hO (V_ok (tb := lv16) (cuts := []) 500 (Eq.mp (by kernel_rfl) hh))
def T16_0 (O : CallF) (Q : Value → Hp → Prop) (v0 : Array Value) (x1 : Int) (b4 : Nat) (f4 : Nat) (b5 : Nat) (f5 : Nat) (a23 : Option Addr) (n23 : Nat) (c23 : Nat) (x24 : Int) (x25 : Int) (h : Hp) : Prop :=
  vcond (ltI x25 x24)
  (isNat x25 fun n101' =>
  isAddr a23 fun b102' f103' =>
  vreq (Nat.blt n101' n23)
  (∃ x104', ∃ x105', ∃ x106', readAt h b102' (f103' + (n101' * 3)) 3 = some [(.int .i8 x104'), (.int .i8 x105'), (.int .i8 x106')] ∧
  let g107 : Hp := h.add (.cells [(.int .i8 0), (.int .i8 0), (.int .i8 0)] 23 .fix)
  vreq (canW g107 h.nx 0 [(.int .i8 x104'), (.int .i8 x105'), (.int .i8 x106')])
  (let g108 : Hp := g107.wr h.nx 0 [(.int .i8 x104'), (.int .i8 x105'), (.int .i8 x106')]
  ∃ x109', ∃ x110', ∃ x111', readAt g108 h.nx 0 3 = some [(.int .i8 x109'), (.int .i8 x110'), (.int .i8 x111')] ∧
  I16_1 O Q v0 x1 b4 f4 b5 f5 none 0 0 a23 n23 c23 x24 x25 x109' x110' x111' 0 g108)))
  (∃ x112', ∃ a113' n114' c115', readAt h b5 f5 2 = some [(.int .i64 x112'), (.slice a113' n114' c115')] ∧
  vreq (canW h b4 f4 [(.int .i64 x112'), (.slice a113' n114' c115')])
  (let g116 : Hp := h.wr b4 f4 [(.int .i64 x112'), (.slice a113' n114' c115')]
  ∃ x117', ∃ a118' n119' c120', readAt g116 b4 f4 2 = some [(.int .i64 x117'), (.slice a118' n119' c120')] ∧
  Q (.agg #[(.int .i64 x117'), (.slice a118' n119' c120')]) g116))
theorem I16_0.of {O Q} (v0 x1 b4 f4 b5 f5 a23 n23 c23 x24 x25) {h : Hp} (hh : T16_0 O Q v0 x1 b4 f4 b5 f5 a23 n23 c23 x24 x25 h) : I16_0 O Q v0 x1 b4 f4 b5 f5 a23 n23 c23 x24 x25 h :=
  RKL.of (tb := lv16) (cuts := []) 500 fun _ => Eq.mp (by kernel_rfl) hh
def T16_1 (O : CallF) (Q : Value → Hp → Prop) (v0 : Array Value) (x1 : Int) (b4 : Nat) (f4 : Nat) (b5 : Nat) (f5 : Nat) (a8 : Option Addr) (n8 : Nat) (c8 : Nat) (a23 : Option Addr) (n23 : Nat) (c23 : Nat) (x24 : Int) (x25 : Int) (x29_0 : Int) (x29_1 : Int) (x29_2 : Int) (x30 : Int) (h : Hp) : Prop :=
  vcond (ltI x30 3)
  (isNat x30 fun n201' =>
  vreq (Nat.blt n201' 3)
  (vcond (ltI x30 2)
  (∃ x202', readAt h b5 (f5 + 0) 1 = some [(.int .i64 x202')] ∧
  ∃ x203', ∃ h204', EvC Tryd.prog O 21 [(.int .i8 (List.getD [x29_0, x29_1, x29_2] n201' 0)), (.int .i64 x202')] h (.int .i64 x203') h204' ∧
  let g205 : Hp := h204'.add (.cells [(.int .i64 x203')] 3 .fix)
  ∃ a206' n207' c208' h209', appendV Tryd.prog g205 32 32 (.slice a8 n8 c8) (.slice (some ⟨h204'.nx, 0, none⟩) 1 1) = some (.slice a206' n207' c208', h209') ∧
  I16_1 O Q v0 x1 b4 f4 b5 f5 a206' n207' c208' a23 n23 c23 x24 x25 x29_0 x29_1 x29_2 (wrapF .i64 (x30 + 1)) h209')
  (vcond (!(ltI (List.getD [x29_0, x29_1, x29_2] n201' 0) 0))
  (∃ x210', readAt h b5 (f5 + 0) 1 = some [(.int .i64 x210')] ∧
  ∃ x211', ∃ h212', EvC Tryd.prog O 21 [(.int .i8 (List.getD [x29_0, x29_1, x29_2] n201' 0)), (.int .i64 x210')] h (.int .i64 x211') h212' ∧
  let g213 : Hp := h212'.add (.cells [(.int .i64 x211')] 3 .fix)
  ∃ a214' n215' c216' h217', appendV Tryd.prog g213 32 32 (.slice a8 n8 c8) (.slice (some ⟨h212'.nx, 0, none⟩) 1 1) = some (.slice a214' n215' c216', h217') ∧
  I16_1 O Q v0 x1 b4 f4 b5 f5 a214' n215' c216' a23 n23 c23 x24 x25 x29_0 x29_1 x29_2 (wrapF .i64 (x30 + 1)) h217')
  (I16_1 O Q v0 x1 b4 f4 b5 f5 a8 n8 c8 a23 n23 c23 x24 x25 x29_0 x29_1 x29_2 (wrapF .i64 (x30 + 1)) h))))
  (let g218 : Hp := h.rsv 8
  ∃ a219' n220' c221', readAt g218 b5 (f5 + 1) 1 = some [(.slice a219' n220' c221')] ∧
  ∃ a222' n223' c224', ∃ h225', EvC Tryd.prog O 19 [(.slice a8 n8 c8)] (g218.grd [b5]) (.slice a222' n223' c224') h225' ∧
  let g226 : Hp := h225'.rst g218
  vreq (g226.free (h.nx + 4))
  (let g227 : Hp := g226.lay (h.nx + 4) (.cells [(.slice a222' n223' c224')] 32 .fix)
  ∃ a228' n229' c230' h231', appendV Tryd.prog (g227.grd []) 28 28 (.slice a219' n220' c221') (.slice (some ⟨(h.nx + 4), 0, none⟩) 1 1) = some (.slice a228' n229' c230', h231') ∧
  let g232 : Hp := h231'.rst g227
  vreq (canW (g232.grd []) b5 (f5 + 1) [(.slice a228' n229' c230')])
  (let g233 : Hp := (g232.grd []).wr b5 (f5 + 1) [(.slice a228' n229' c230')]
  let g234 : Hp := g233.rst g232
  I16_0 O Q v0 x1 b4 f4 b5 f5 a23 n23 c23 x24 (wrapF .i64 (x25 + 1)) g234)))
theorem I16_1.of {O Q} (v0 x1 b4 f4 b5 f5 a8 n8 c8 a23 n23 c23 x24 x25 x29_0 x29_1 x29_2 x30) {h : Hp} (hh : T16_1 O Q v0 x1 b4 f4 b5 f5 a8 n8 c8 a23 n23 c23 x24 x25 x29_0 x29_1 x29_2 x30 h) : I16_1 O Q v0 x1 b4 f4 b5 f5 a8 n8 c8 a23 n23 c23 x24 x25 x29_0 x29_1 x29_2 x30 h :=
  RKL.of (tb := lv16) (cuts := []) 500 fun _ => Eq.mp (by kernel_rfl) hh
/-! sward/swardlaw20.clause -/
noncomputable def b19 : Code := (Tryd.f19.body).getD .skip
noncomputable def stk19_0 : List KI := [.code (sub [1, 1, 0, 1, 0] b19), .blk 0, .code (sub [1, 1, 1] b19)]
def lv19 : List (Nat × List Nat) := [(0, [2, 3, 6, 7, 8])]
def I19_0 (O : CallF) (Q : Value → Hp → Prop) (a0 : Option Addr) (n0 : Nat) (c0 : Nat) (a3 : Option Addr) (n3 : Nat) (c3 : Nat) (x8 : Int) (h : Hp) : Prop := RKL Tryd.prog O Tryd.f19 stk19_0 31 [2, 3, 6, 7, 8] [(.slice none 0 0), (.slice a3 n3 c3), (.slice a0 n0 c0), (.int .i64 (Int.ofNat n0)), (.int .i64 x8)] h Q
def T19 (O : CallF) (Q : Value → Hp → Prop) (a0 : Option Addr) (n0 : Nat) (c0 : Nat) (h : Hp) : Prop :=
  I19_0 O Q a0 n0 c0 none 0 0 0 h
theorem rk19 {O Q} (a0 n0 c0) {h : Hp} (hO : O 19 [(.slice a0 n0 c0)] h = none) (hh : T19 O Q a0 n0 c0 h) : Ret Tryd.prog O 19 [(.slice a0 n0 c0)] h Q :=
  .of (c := b19) Tryd.func19 (by kernel_rfl) hO (V_ok (tb := lv19) (cuts := []) 500 (Eq.mp (by kernel_rfl) hh))
def T19_0 (O : CallF) (Q : Value → Hp → Prop) (a0 : Option Addr) (n0 : Nat) (c0 : Nat) (a3 : Option Addr) (n3 : Nat) (c3 : Nat) (x8 : Int) (h : Hp) : Prop :=
  vcond (ltI x8 (Int.ofNat n0))
  (isNat x8 fun n101' =>
  isAddr a0 fun b102' f103' =>
  vreq (Nat.blt n101' n0)
  (∃ x104', readAt h b102' (f103' + (n101' * 1)) 1 = some [(.int .i64 x104')] ∧
  ∃ q105', ∃ h106', EvC Tryd.prog O 62 [(.slice a3 n3 c3), (.int .i64 x104')] h (.bool q105') h106' ∧
  vcond (!q105')
  (∃ q107', ∃ h108', EvC Tryd.prog O 62 [(.slice a3 n3 c3), (.int .i64 (wrapF .i64 (0 - x104')))] h106' (.bool q107') h108' ∧
  vcond (!q107')
  (let g109 : Hp := h108'.add (.cells [(.int .i64 x104')] 3 .fix)
  ∃ a110' n111' c112' h113', appendV Tryd.prog g109 32 32 (.slice a3 n3 c3) (.slice (some ⟨h108'.nx, 0, none⟩) 1 1) = some (.slice a110' n111' c112', h113') ∧
  I19_0 O Q a0 n0 c0 a110' n111' c112' (wrapF .i64 (x8 + 1)) h113')
  (I19_0 O Q a0 n0 c0 a3 n3 c3 (wrapF .i64 (x8 + 1)) h108'))
  (I19_0 O Q a0 n0 c0 a3 n3 c3 (wrapF .i64 (x8 + 1)) h106')))
  (∃ h114', EvC Tryd.prog O 74 [(.slice a3 n3 c3), (.func (.func 75) #[] #[])] h undef h114' ∧
  Q (.slice a3 n3 c3) h114')
theorem I19_0.of {O Q} (a0 n0 c0 a3 n3 c3 x8) {h : Hp} (hh : T19_0 O Q a0 n0 c0 a3 n3 c3 x8 h) : I19_0 O Q a0 n0 c0 a3 n3 c3 x8 h :=
  RKL.of (tb := lv19) (cuts := []) 500 fun _ => Eq.mp (by kernel_rfl) hh
/-! sward/swardlaw20.literal -/
noncomputable def b21 : Code := (Tryd.f21.body).getD .skip
def lv21 : List (Nat × List Nat) := []
def T21 (O : CallF) (Q : Value → Hp → Prop) (x0 : Int) (x1 : Int) (h : Hp) : Prop :=
  vreq (!(eqI x1 0))
  (vcond (eqI (Int.tmod x0 2) 0)
  (Q (.int .i64 (wrapF .i64 (0 - (wrapF .i64 (1 + (Int.tmod (wrapF .i64 (Int.tdiv (wrapF .i64 ((wrapF .i64 x0) + 128)) 2)) x1)))))) h)
  (Q (.int .i64 (wrapF .i64 (1 + (Int.tmod (wrapF .i64 (Int.tdiv (wrapF .i64 ((wrapF .i64 x0) + 128)) 2)) x1)))) h))
theorem rk21 {O Q} (x0 x1) {h : Hp} (hO : O 21 [(.int .i8 x0), (.int .i64 x1)] h = none) (hh : T21 O Q x0 x1 h) : Ret Tryd.prog O 21 [(.int .i8 x0), (.int .i64 x1)] h Q :=
  .of (c := b21) Tryd.func21 (by kernel_rfl) hO (V_ok (tb := lv21) (cuts := []) 500 (Eq.mp (by kernel_rfl) hh))
/-! sward/swardlaw20.models -/
noncomputable def b54 : Code := (Tryd.f54.body).getD .skip
noncomputable def stk54_0 : List KI := [.code (sub [1, 1, 0, 1, 0] b54), .blk 0, .code (sub [1, 1, 1] b54)]
noncomputable def stk54_1 : List KI := [.code (sub [1, 1, 0, 1, 0, 0, 1, 1, 0, 0, 1, 1, 0, 1, 0] b54), .blk 2, .code (sub [1, 1, 0, 1, 0, 0, 1, 1, 0, 0, 1, 1, 1] b54), .blk 1, .code (sub [1, 1, 0, 1, 0, 0, 1, 1, 1] b54), .code (sub [1, 1, 0, 1, 0] b54), .blk 0, .code (sub [1, 1, 1] b54)]
noncomputable def stk54_2 : List KI := [.code (sub [1, 1, 0, 1, 0, 0, 1, 1, 0, 0, 1, 1, 1, 1, 0, 1, 0] b54), .blk 4, .code (sub [1, 1, 0, 1, 0, 0, 1, 1, 0, 0, 1, 1, 1, 1, 1] b54), .blk 1, .code (sub [1, 1, 0, 1, 0, 0, 1, 1, 1] b54), .code (sub [1, 1, 0, 1, 0] b54), .blk 0, .code (sub [1, 1, 1] b54)]
def lv54 : List (Nat × List Nat) := [(0, [1, 2, 3, 6, 7, 16, 17]), (2, [1, 2, 3, 6, 7, 8, 9, 16, 17, 21, 22]), (4, [1, 2, 3, 6, 7, 9, 11, 16, 17, 42, 43, 44])]
def I54_0 (O : CallF) (Q : Value → Hp → Prop) (x0_0 : Int) (a0_1 : Option Addr) (n0_1 : Nat) (c0_1 : Nat) (a1 : Option Addr) (n1 : Nat) (c1 : Nat) (a2 : Option Addr) (n2 : Nat) (c2 : Nat) (b3 : Nat) (f3 : Nat) (a7 : Option Addr) (n7 : Nat) (c7 : Nat) (x16 : Int) (x17 : Int) (h : Hp) : Prop := RKL Tryd.prog O Tryd.f54 stk54_0 62 [1, 2, 3, 6, 7, 16, 17] [(.slice a1 n1 c1), (.slice a2 n2 c2), (.pointer (some ⟨b3, f3, none⟩)), (.slice none 0 0), (.slice a7 n7 c7), (.int .i64 x16), (.int .i64 x17)] h Q
def I54_1 (O : CallF) (Q : Value → Hp → Prop) (x0_0 : Int) (a0_1 : Option Addr) (n0_1 : Nat) (c0_1 : Nat) (a1 : Option Addr) (n1 : Nat) (c1 : Nat) (a2 : Option Addr) (n2 : Nat) (c2 : Nat) (b3 : Nat) (f3 : Nat) (a7 : Option Addr) (n7 : Nat) (c7 : Nat) (x8 : Int) (b9 : Nat) (f9 : Nat) (x16 : Int) (x17 : Int) (x21 : Int) (x22 : Int) (h : Hp) : Prop := RKL Tryd.prog O Tryd.f54 stk54_1 62 [1, 2, 3, 6, 7, 8, 9, 16, 17, 21, 22] [(.slice a1 n1 c1), (.slice a2 n2 c2), (.pointer (some ⟨b3, f3, none⟩)), (.slice none 0 0), (.slice a7 n7 c7), (.int .i64 x8), (.pointer (some ⟨b9, f9, none⟩)), (.int .i64 x16), (.int .i64 x17), (.int .i64 x21), (.int .i64 x22)] h Q
def I54_2 (O : CallF) (Q : Value → Hp → Prop) (x0_0 : Int) (a0_1 : Option Addr) (n0_1 : Nat) (c0_1 : Nat) (a1 : Option Addr) (n1 : Nat) (c1 : Nat) (a2 : Option Addr) (n2 : Nat) (c2 : Nat) (b3 : Nat) (f3 : Nat) (a7 : Option Addr) (n7 : Nat) (c7 : Nat) (b9 : Nat) (f9 : Nat) (q11 : Bool) (x16 : Int) (x17 : Int) (x44 : Int) (h : Hp) : Prop := RKL Tryd.prog O Tryd.f54 stk54_2 62 [1, 2, 3, 6, 7, 9, 11, 16, 17, 42, 43, 44] [(.slice a1 n1 c1), (.slice a2 n2 c2), (.pointer (some ⟨b3, f3, none⟩)), (.slice none 0 0), (.slice a7 n7 c7), (.pointer (some ⟨b9, f9, none⟩)), (.bool q11), (.int .i64 x16), (.int .i64 x17), (.slice a1 n1 c1), (.int .i64 (Int.ofNat n1)), (.int .i64 x44)] h Q
def T54 (O : CallF) (Q : Value → Hp → Prop) (x0_0 : Int) (a0_1 : Option Addr) (n0_1 : Nat) (c0_1 : Nat) (a1 : Option Addr) (n1 : Nat) (c1 : Nat) (a2 : Option Addr) (n2 : Nat) (c2 : Nat) (h : Hp) : Prop :=
  let g1 : Hp := h.add (.cells [(.int .i64 x0_0), (.slice a0_1 n0_1 c0_1)] 30 .fix)
  ∃ x2', readAt g1 h.nx 0 1 = some [(.int .i64 x2')] ∧
  vreq (le0 x2')
  (I54_0 O Q x0_0 a0_1 n0_1 c0_1 a1 n1 c1 a2 n2 c2 h.nx 0 none 0 0 (shlF .i64 1 (Int.toNat x2')) 0 g1)
theorem rk54 {O Q} (x0_0 a0_1 n0_1 c0_1 a1 n1 c1 a2 n2 c2) {h : Hp} (hO : O 54 [(.agg #[(.int .i64 x0_0), (.slice a0_1 n0_1 c0_1)]), (.slice a1 n1 c1), (.slice a2 n2 c2)] h = none) (hh : T54 O Q x0_0 a0_1 n0_1 c0_1 a1 n1 c1 a2 n2 c2 h) : Ret Tryd.prog O 54 [(.agg #[(.int .i64 x0_0), (.slice a0_1 n0_1 c0_1)]), (.slice a1 n1 c1), (.slice a2 n2 c2)] h Q :=
  .of (c := b54) Tryd.func54 (by kernel_rfl) hO (V_ok (tb := lv54) (cuts := []) 500 (Eq.mp (by kernel_rfl) hh))
def T54_0 (O : CallF) (Q : Value → Hp → Prop) (x0_0 : Int) (a0_1 : Option Addr) (n0_1 : Nat) (c0_1 : Nat) (a1 : Option Addr) (n1 : Nat) (c1 : Nat) (a2 : Option Addr) (n2 : Nat) (c2 : Nat) (b3 : Nat) (f3 : Nat) (a7 : Option Addr) (n7 : Nat) (c7 : Nat) (x16 : Int) (x17 : Int) (h : Hp) : Prop :=
  vcond (ltI x17 x16)
  (let g101 : Hp := h.add (.cells [(.int .i64 0)] 3 .fix)
  vreq (canW g101 h.nx 0 [(.int .i64 0)])
  (let g102 : Hp := g101.wr h.nx 0 [(.int .i64 0)]
  ∃ x103', readAt g102 b3 (f3 + 0) 1 = some [(.int .i64 x103')] ∧
  I54_1 O Q x0_0 a0_1 n0_1 c0_1 a1 n1 c1 a2 n2 c2 b3 f3 a7 n7 c7 x17 h.nx 0 x16 x17 x103' 0 g102))
  (Q (.slice a7 n7 c7) h)
theorem I54_0.of {O Q} (x0_0 a0_1 n0_1 c0_1 a1 n1 c1 a2 n2 c2 b3 f3 a7 n7 c7 x16 x17) {h : Hp} (hh : T54_0 O Q x0_0 a0_1 n0_1 c0_1 a1 n1 c1 a2 n2 c2 b3 f3 a7 n7 c7 x16 x17 h) : I54_0 O Q x0_0 a0_1 n0_1 c0_1 a1 n1 c1 a2 n2 c2 b3 f3 a7 n7 c7 x16 x17 h :=
  RKL.of (tb := lv54) (cuts := []) 500 fun _ => Eq.mp (by kernel_rfl) hh
def T54_1 (O : CallF) (Q : Value → Hp → Prop) (x0_0 : Int) (a0_1 : Option Addr) (n0_1 : Nat) (c0_1 : Nat) (a1 : Option Addr) (n1 : Nat) (c1 : Nat) (a2 : Option Addr) (n2 : Nat) (c2 : Nat) (b3 : Nat) (f3 : Nat) (a7 : Option Addr) (n7 : Nat) (c7 : Nat) (x8 : Int) (b9 : Nat) (f9 : Nat) (x16 : Int) (x17 : Int) (x21 : Int) (x22 : Int) (h : Hp) : Prop :=
  vcond (ltI x22 x21)
  (let g201 : Hp := h.rsv 13
  ∃ x202', readAt g201 b9 f9 1 = some [(.int .i64 x202')] ∧
  ∃ x203', readAt g201 b3 (f3 + 0) 1 = some [(.int .i64 x203')] ∧
  vreq (le0 (wrapF .i64 ((wrapF .i64 (x203' - 1)) - x22)))
  (vreq (inD 9223372036854775808 (shrF .i64 x8 (Int.toNat (wrapF .i64 ((wrapF .i64 (x203' - 1)) - x22)))))
  (vreq (le0 x22)
  (vreq (inD 9223372036854775808 x202')
  (vreq (inD 9223372036854775808 (shlF .i64 (landI (shrF .i64 x8 (Int.toNat (wrapF .i64 ((wrapF .i64 (x203' - 1)) - x22)))) 1) (Int.toNat x22)))
  (vreq (canW (g201.grd []) b9 f9 [(.int .i64 (lorI x202' (shlF .i64 (landI (shrF .i64 x8 (Int.toNat (wrapF .i64 ((wrapF .i64 (x203' - 1)) - x22)))) 1) (Int.toNat x22))))])
  (let g204 : Hp := (g201.grd []).wr b9 f9 [(.int .i64 (lorI x202' (shlF .i64 (landI (shrF .i64 x8 (Int.toNat (wrapF .i64 ((wrapF .i64 (x203' - 1)) - x22)))) 1) (Int.toNat x22))))]
  let g205 : Hp := g204.rst g201
  I54_1 O Q x0_0 a0_1 n0_1 c0_1 a1 n1 c1 a2 n2 c2 b3 f3 a7 n7 c7 x8 b9 f9 x16 x17 x21 (wrapF .i64 (x22 + 1)) g205)))))))
  (∃ q206', ∃ h207', EvC Tryd.prog O 64 [(.slice a2 n2 c2), (.func (.func 111) #[] #[(.pointer (some ⟨b9, f9, none⟩))])] h (.bool q206') h207' ∧
  I54_2 O Q x0_0 a0_1 n0_1 c0_1 a1 n1 c1 a2 n2 c2 b3 f3 a7 n7 c7 b9 f9 (!q206') x16 x17 0 h207')
theorem I54_1.of {O Q} (x0_0 a0_1 n0_1 c0_1 a1 n1 c1 a2 n2 c2 b3 f3 a7 n7 c7 x8 b9 f9 x16 x17 x21 x22) {h : Hp} (hh : T54_1 O Q x0_0 a0_1 n0_1 c0_1 a1 n1 c1 a2 n2 c2 b3 f3 a7 n7 c7 x8 b9 f9 x16 x17 x21 x22 h) : I54_1 O Q x0_0 a0_1 n0_1 c0_1 a1 n1 c1 a2 n2 c2 b3 f3 a7 n7 c7 x8 b9 f9 x16 x17 x21 x22 h :=
  RKL.of (tb := lv54) (cuts := []) 500 fun _ => Eq.mp (by kernel_rfl) hh
def T54_2 (O : CallF) (Q : Value → Hp → Prop) (x0_0 : Int) (a0_1 : Option Addr) (n0_1 : Nat) (c0_1 : Nat) (a1 : Option Addr) (n1 : Nat) (c1 : Nat) (a2 : Option Addr) (n2 : Nat) (c2 : Nat) (b3 : Nat) (f3 : Nat) (a7 : Option Addr) (n7 : Nat) (c7 : Nat) (b9 : Nat) (f9 : Nat) (q11 : Bool) (x16 : Int) (x17 : Int) (x44 : Int) (h : Hp) : Prop :=
  vcond (ltI x44 (Int.ofNat n1))
  (isNat x44 fun n301' =>
  isAddr a1 fun b302' f303' =>
  vreq (Nat.blt n301' n1)
  (∃ a304' n305' c306', readAt h b302' (f303' + (n301' * 1)) 1 = some [(.slice a304' n305' c306')] ∧
  vcond q11
  (∃ q307', ∃ h308', EvC Tryd.prog O 64 [(.slice a304' n305' c306'), (.func (.func 112) #[] #[(.pointer (some ⟨b9, f9, none⟩))])] h (.bool q307') h308' ∧
  I54_2 O Q x0_0 a0_1 n0_1 c0_1 a1 n1 c1 a2 n2 c2 b3 f3 a7 n7 c7 b9 f9 q307' x16 x17 (wrapF .i64 (x44 + 1)) h308')
  (I54_2 O Q x0_0 a0_1 n0_1 c0_1 a1 n1 c1 a2 n2 c2 b3 f3 a7 n7 c7 b9 f9 false x16 x17 (wrapF .i64 (x44 + 1)) h)))
  (vcond q11
  (∃ x309', readAt h b9 f9 1 = some [(.int .i64 x309')] ∧
  let g310 : Hp := h.add (.cells [(.int .i64 x309')] 3 .fix)
  ∃ a311' n312' c313' h314', appendV Tryd.prog g310 32 32 (.slice a7 n7 c7) (.slice (some ⟨h.nx, 0, none⟩) 1 1) = some (.slice a311' n312' c313', h314') ∧
  I54_0 O Q x0_0 a0_1 n0_1 c0_1 a1 n1 c1 a2 n2 c2 b3 f3 a311' n312' c313' x16 (wrapF .i64 (x17 + 1)) h314')
  (I54_0 O Q x0_0 a0_1 n0_1 c0_1 a1 n1 c1 a2 n2 c2 b3 f3 a7 n7 c7 x16 (wrapF .i64 (x17 + 1)) h))
theorem I54_2.of {O Q} (x0_0 a0_1 n0_1 c0_1 a1 n1 c1 a2 n2 c2 b3 f3 a7 n7 c7 b9 f9 q11 x16 x17 x44) {h : Hp} (hh : T54_2 O Q x0_0 a0_1 n0_1 c0_1 a1 n1 c1 a2 n2 c2 b3 f3 a7 n7 c7 b9 f9 q11 x16 x17 x44 h) : I54_2 O Q x0_0 a0_1 n0_1 c0_1 a1 n1 c1 a2 n2 c2 b3 f3 a7 n7 c7 b9 f9 q11 x16 x17 x44 h :=
  RKL.of (tb := lv54) (cuts := []) 500 fun _ => Eq.mp (by kernel_rfl) hh
/-! slices.Clone[[][]int,[]int] -/
noncomputable def b56 : Code := (Tryd.f56.body).getD .skip
def lv56 : List (Nat × List Nat) := []
def T56 (O : CallF) (Q : Value → Hp → Prop) (a0 : Option Addr) (n0 : Nat) (c0 : Nat) (h : Hp) : Prop :=
  vnil a0
  (Q (.slice none 0 0) h)
  (let g1 : Hp := h.add (.cells [] 32 .fix)
  ∃ a2' n3' c4' h5', appendV Tryd.prog g1 28 28 (.slice (some ⟨h.nx, 0, none⟩) 0 0) (.slice a0 n0 c0) = some (.slice a2' n3' c4', h5') ∧
  Q (.slice a2' n3' c4') h5')
theorem rk56 {O Q} (a0 n0 c0) {h : Hp} (hO : O 56 [(.slice a0 n0 c0)] h = none) (hh : T56 O Q a0 n0 c0 h) : Ret Tryd.prog O 56 [(.slice a0 n0 c0)] h Q :=
  .of (c := b56) Tryd.func56 (by kernel_rfl) hO (V_ok (tb := lv56) (cuts := []) 500 (Eq.mp (by kernel_rfl) hh))
/-! sward/swardlaw20.follows -/
noncomputable def b57 : Code := (Tryd.f57.body).getD .skip
noncomputable def stk57_0 : List KI := [.code (sub [1, 1, 0, 1, 0] b57), .blk 0, .code (sub [1, 1, 1] b57)]
def lv57 : List (Nat × List Nat) := [(0, [0, 6, 7, 15, 16, 17])]
def I57_0 (O : CallF) (Q : Value → Hp → Prop) (a0 : Option Addr) (n0 : Nat) (c0 : Nat) (a1 : Option Addr) (n1 : Nat) (c1 : Nat) (a2 : Option Addr) (n2 : Nat) (c2 : Nat) (a7 : Option Addr) (n7 : Nat) (c7 : Nat) (x17 : Int) (h : Hp) : Prop := RKL Tryd.prog O Tryd.f57 stk57_0 36 [0, 6, 7, 15, 16, 17] [(.slice a0 n0 c0), (.bool false), (.slice a7 n7 c7), (.slice a2 n2 c2), (.int .i64 (Int.ofNat n2)), (.int .i64 x17)] h Q
def T57 (O : CallF) (Q : Value → Hp → Prop) (a0 : Option Addr) (n0 : Nat) (c0 : Nat) (a1 : Option Addr) (n1 : Nat) (c1 : Nat) (a2 : Option Addr) (n2 : Nat) (c2 : Nat) (h : Hp) : Prop :=
  ∃ a1' n2' c3', ∃ h4', EvC Tryd.prog O 60 [(.slice a1 n1 c1)] h (.slice a1' n2' c3') h4' ∧
  I57_0 O Q a0 n0 c0 a1 n1 c1 a2 n2 c2 a1' n2' c3' 0 h4'
theorem rk57 {O Q} (a0 n0 c0 a1 n1 c1 a2 n2 c2) {h : Hp} (hO : O 57 [(.slice a0 n0 c0), (.slice a1 n1 c1), (.slice a2 n2 c2)] h = none) (hh : T57 O Q a0 n0 c0 a1 n1 c1 a2 n2 c2 h) : Ret Tryd.prog O 57 [(.slice a0 n0 c0), (.slice a1 n1 c1), (.slice a2 n2 c2)] h Q :=
  .of (c := b57) Tryd.func57 (by kernel_rfl) hO (V_ok (tb := lv57) (cuts := []) 500 (Eq.mp (by kernel_rfl) hh))
def T57_0 (O : CallF) (Q : Value → Hp → Prop) (a0 : Option Addr) (n0 : Nat) (c0 : Nat) (a1 : Option Addr) (n1 : Nat) (c1 : Nat) (a2 : Option Addr) (n2 : Nat) (c2 : Nat) (a7 : Option Addr) (n7 : Nat) (c7 : Nat) (x17 : Int) (h : Hp) : Prop :=
  vcond (ltI x17 (Int.ofNat n2))
  (isNat x17 fun n101' =>
  isAddr a2 fun b102' f103' =>
  vreq (Nat.blt n101' n2)
  (∃ x104', readAt h b102' (f103' + (n101' * 1)) 1 = some [(.int .i64 x104')] ∧
  let g105 : Hp := h.add (.cells [(.int .i64 (wrapF .i64 (0 - x104')))] 3 .fix)
  ∃ a106' n107' c108' h109', appendV Tryd.prog g105 32 32 (.slice a7 n7 c7) (.slice (some ⟨h.nx, 0, none⟩) 1 1) = some (.slice a106' n107' c108', h109') ∧
  I57_0 O Q a0 n0 c0 a1 n1 c1 a2 n2 c2 a106' n107' c108' (wrapF .i64 (x17 + 1)) h109'))
  (∃ x110', ∃ x111', ∃ q112', ∃ h113', EvC Tryd.prog O 63 [(.slice a0 n0 c0), (.slice a7 n7 c7)] h (.tuple #[(.int .i64 x110'), (.int .i64 x111'), (.bool q112')]) h113' ∧
  Q (.bool (!q112')) h113')
theorem I57_0.of {O Q} (a0 n0 c0 a1 n1 c1 a2 n2 c2 a7 n7 c7 x17) {h : Hp} (hh : T57_0 O Q a0 n0 c0 a1 n1 c1 a2 n2 c2 a7 n7 c7 x17 h) : I57_0 O Q a0 n0 c0 a1 n1 c1 a2 n2 c2 a7 n7 c7 x17 h :=
  RKL.of (tb := lv57) (cuts := []) 500 fun _ => Eq.mp (by kernel_rfl) hh
/-! slices.Clone[[]int,int] -/
noncomputable def b60 : Code := (Tryd.f60.body).getD .skip
def lv60 : List (Nat × List Nat) := []
def T60 (O : CallF) (Q : Value → Hp → Prop) (a0 : Option Addr) (n0 : Nat) (c0 : Nat) (h : Hp) : Prop :=
  vnil a0
  (Q (.slice none 0 0) h)
  (let g1 : Hp := h.add (.cells [] 3 .fix)
  ∃ a2' n3' c4' h5', appendV Tryd.prog g1 32 32 (.slice (some ⟨h.nx, 0, none⟩) 0 0) (.slice a0 n0 c0) = some (.slice a2' n3' c4', h5') ∧
  Q (.slice a2' n3' c4') h5')
theorem rk60 {O Q} (a0 n0 c0) {h : Hp} (hO : O 60 [(.slice a0 n0 c0)] h = none) (hh : T60 O Q a0 n0 c0 h) : Ret Tryd.prog O 60 [(.slice a0 n0 c0)] h Q :=
  .of (c := b60) Tryd.func60 (by kernel_rfl) hO (V_ok (tb := lv60) (cuts := []) 500 (Eq.mp (by kernel_rfl) hh))
/-! sward/swardlaw20.pushed -/
noncomputable def b63 : Code := (Tryd.f63.body).getD .skip
noncomputable def stk63_0 : List KI := [.code (sub [1, 0, 1, 0] b63), .blk 0, .code (sub [1, 1] b63)]
noncomputable def stk63_1 : List KI := [.code (sub [1, 1, 0] b63), .blk 2]
noncomputable def stk63_2 : List KI := [.code (sub [1, 1, 0, 0, 0, 1, 1, 0, 1, 0] b63), .blk 4, .code (sub [1, 1, 0, 0, 0, 1, 1, 1] b63), .blk 3, .code (sub [1, 1, 0] b63), .blk 2]
noncomputable def stk63_3 : List KI := [.code (sub [1, 1, 0, 0, 0, 1, 1, 0, 1, 0, 0, 1, 1, 0, 0, 1, 1, 0, 1, 0] b63), .blk 6, .code (sub [1, 1, 0, 0, 0, 1, 1, 0, 1, 0, 0, 1, 1, 0, 0, 1, 1, 1] b63), .blk 5, .code (sub [1, 1, 0, 0, 0, 1, 1, 0, 1, 0, 0, 1, 1, 1] b63), .code (sub [1, 1, 0, 0, 0, 1, 1, 0, 1, 0] b63), .blk 4, .code (sub [1, 1, 0, 0, 0, 1, 1, 1] b63), .blk 3, .code (sub [1, 1, 0] b63), .blk 2]
def lv63 : List (Nat × List Nat) := [(0, [0, 4, 5, 6, 17, 18, 19]), (2, [0, 4, 5, 6]), (4, [0, 4, 5, 6, 9, 42, 43, 44]), (6, [0, 4, 5, 6, 9, 12, 13, 42, 43, 44, 48, 49, 50])]
def I63_0 (O : CallF) (Q : Value → Hp → Prop) (a0 : Option Addr) (n0 : Nat) (c0 : Nat) (a1 : Option Addr) (n1 : Nat) (c1 : Nat) (x4 : Int) (x5 : Int) (x19 : Int) (h : Hp) : Prop := RKL Tryd.prog O Tryd.f63 stk63_0 116 [0, 4, 5, 6, 17, 18, 19] [(.slice a0 n0 c0), (.int .i64 x4), (.int .i64 x5), (.bool false), (.slice a1 n1 c1), (.int .i64 (Int.ofNat n1)), (.int .i64 x19)] h Q
def I63_1 (O : CallF) (Q : Value → Hp → Prop) (a0 : Option Addr) (n0 : Nat) (c0 : Nat) (a1 : Option Addr) (n1 : Nat) (c1 : Nat) (x4 : Int) (x5 : Int) (q6 : Bool) (h : Hp) : Prop := RKL Tryd.prog O Tryd.f63 stk63_1 116 [0, 4, 5, 6] [(.slice a0 n0 c0), (.int .i64 x4), (.int .i64 x5), (.bool q6)] h Q
def I63_2 (O : CallF) (Q : Value → Hp → Prop) (a0 : Option Addr) (n0 : Nat) (c0 : Nat) (a1 : Option Addr) (n1 : Nat) (c1 : Nat) (x4 : Int) (x5 : Int) (q6 : Bool) (x9 : Int) (x44 : Int) (h : Hp) : Prop := RKL Tryd.prog O Tryd.f63 stk63_2 116 [0, 4, 5, 6, 9, 42, 43, 44] [(.slice a0 n0 c0), (.int .i64 x4), (.int .i64 x5), (.bool q6), (.int .i64 x9), (.slice a0 n0 c0), (.int .i64 (Int.ofNat n0)), (.int .i64 x44)] h Q
def I63_3 (O : CallF) (Q : Value → Hp → Prop) (a0 : Option Addr) (n0 : Nat) (c0 : Nat) (a1 : Option Addr) (n1 : Nat) (c1 : Nat) (x4 : Int) (x5 : Int) (q6 : Bool) (x9 : Int) (x12 : Int) (q13 : Bool) (x44 : Int) (a48 : Option Addr) (n48 : Nat) (c48 : Nat) (x49 : Int) (x50 : Int) (h : Hp) : Prop := RKL Tryd.prog O Tryd.f63 stk63_3 116 [0, 4, 5, 6, 9, 12, 13, 42, 43, 44, 48, 49, 50] [(.slice a0 n0 c0), (.int .i64 x4), (.int .i64 x5), (.bool q6), (.int .i64 x9), (.int .i64 x12), (.bool q13), (.slice a0 n0 c0), (.int .i64 (Int.ofNat n0)), (.int .i64 x44), (.slice a48 n48 c48), (.int .i64 x49), (.int .i64 x50)] h Q
def T63 (O : CallF) (Q : Value → Hp → Prop) (a0 : Option Addr) (n0 : Nat) (c0 : Nat) (a1 : Option Addr) (n1 : Nat) (c1 : Nat) (h : Hp) : Prop :=
  I63_0 O Q a0 n0 c0 a1 n1 c1 0 0 0 h
theorem rk63 {O Q} (a0 n0 c0 a1 n1 c1) {h : Hp} (hO : O 63 [(.slice a0 n0 c0), (.slice a1 n1 c1)] h = none) (hh : T63 O Q a0 n0 c0 a1 n1 c1 h) : Ret Tryd.prog O 63 [(.slice a0 n0 c0), (.slice a1 n1 c1)] h Q :=
  .of (c := b63) Tryd.func63 (by kernel_rfl) hO (V_ok (tb := lv63) (cuts := []) 500 (Eq.mp (by kernel_rfl) hh))
def T63_0 (O : CallF) (Q : Value → Hp → Prop) (a0 : Option Addr) (n0 : Nat) (c0 : Nat) (a1 : Option Addr) (n1 : Nat) (c1 : Nat) (x4 : Int) (x5 : Int) (x19 : Int) (h : Hp) : Prop :=
  vcond (ltI x19 (Int.ofNat n1))
  (isNat x19 fun n101' =>
  isAddr a1 fun b102' f103' =>
  vreq (Nat.blt n101' n1)
  (∃ x104', readAt h b102' (f103' + (n101' * 1)) 1 = some [(.int .i64 x104')] ∧
  vcond (ltI 0 x104')
  (vreq (le0 x104')
  (vreq (inD 9223372036854775808 x4)
  (vreq (inD 9223372036854775808 (shlF .i64 1 (Int.toNat x104')))
  (I63_0 O Q a0 n0 c0 a1 n1 c1 (lorI x4 (shlF .i64 1 (Int.toNat x104'))) x5 (wrapF .i64 (x19 + 1)) h))))
  (vreq (le0 (wrapF .i64 (0 - x104')))
  (vreq (inD 9223372036854775808 x5)
  (vreq (inD 9223372036854775808 (shlF .i64 1 (Int.toNat (wrapF .i64 (0 - x104')))))
  (I63_0 O Q a0 n0 c0 a1 n1 c1 x4 (lorI x5 (shlF .i64 1 (Int.toNat (wrapF .i64 (0 - x104'))))) (wrapF .i64 (x19 + 1)) h))))))
  (I63_1 O Q a0 n0 c0 a1 n1 c1 x4 x5 false h)
theorem I63_0.of {O Q} (a0 n0 c0 a1 n1 c1 x4 x5 x19) {h : Hp} (hh : T63_0 O Q a0 n0 c0 a1 n1 c1 x4 x5 x19 h) : I63_0 O Q a0 n0 c0 a1 n1 c1 x4 x5 x19 h :=
  RKL.of (tb := lv63) (cuts := []) 500 fun _ => Eq.mp (by kernel_rfl) hh
def T63_1 (O : CallF) (Q : Value → Hp → Prop) (a0 : Option Addr) (n0 : Nat) (c0 : Nat) (a1 : Option Addr) (n1 : Nat) (c1 : Nat) (x4 : Int) (x5 : Int) (q6 : Bool) (h : Hp) : Prop :=
  vreq (inD 9223372036854775808 x4)
  (vreq (inD 9223372036854775808 x5)
  (vcond (!(eqI (landI x4 x5) 0))
  (Q (.tuple #[(.int .i64 0), (.int .i64 0), (.bool false)]) h)
  (vreq (inD 9223372036854775808 x4)
  (vreq (inD 9223372036854775808 x5)
  (I63_2 O Q a0 n0 c0 a1 n1 c1 x4 x5 q6 (lorI x4 x5) 0 h)))))
theorem I63_1.of {O Q} (a0 n0 c0 a1 n1 c1 x4 x5 q6) {h : Hp} (hh : T63_1 O Q a0 n0 c0 a1 n1 c1 x4 x5 q6 h) : I63_1 O Q a0 n0 c0 a1 n1 c1 x4 x5 q6 h :=
  RKL.of (tb := lv63) (cuts := []) 500 fun _ => Eq.mp (by kernel_rfl) hh
def T63_2 (O : CallF) (Q : Value → Hp → Prop) (a0 : Option Addr) (n0 : Nat) (c0 : Nat) (a1 : Option Addr) (n1 : Nat) (c1 : Nat) (x4 : Int) (x5 : Int) (q6 : Bool) (x9 : Int) (x44 : Int) (h : Hp) : Prop :=
  vcond (ltI x44 (Int.ofNat n0))
  (isNat x44 fun n301' =>
  isAddr a0 fun b302' f303' =>
  vreq (Nat.blt n301' n0)
  (∃ a304' n305' c306', readAt h b302' (f303' + (n301' * 1)) 1 = some [(.slice a304' n305' c306')] ∧
  I63_3 O Q a0 n0 c0 a1 n1 c1 x4 x5 q6 x9 0 false x44 a304' n305' c306' (Int.ofNat n305') 0 h))
  (vreq (inD 9223372036854775808 x4)
  (vreq (inD 9223372036854775808 x5)
  (vcond (eqI (lorI x4 x5) x9)
  (Q (.tuple #[(.int .i64 x4), (.int .i64 x5), (.bool true)]) h)
  (I63_1 O Q a0 n0 c0 a1 n1 c1 x4 x5 q6 h))))
theorem I63_2.of {O Q} (a0 n0 c0 a1 n1 c1 x4 x5 q6 x9 x44) {h : Hp} (hh : T63_2 O Q a0 n0 c0 a1 n1 c1 x4 x5 q6 x9 x44 h) : I63_2 O Q a0 n0 c0 a1 n1 c1 x4 x5 q6 x9 x44 h :=
  RKL.of (tb := lv63) (cuts := []) 500 fun _ => Eq.mp (by kernel_rfl) hh
def T63_3 (O : CallF) (Q : Value → Hp → Prop) (a0 : Option Addr) (n0 : Nat) (c0 : Nat) (a1 : Option Addr) (n1 : Nat) (c1 : Nat) (x4 : Int) (x5 : Int) (q6 : Bool) (x9 : Int) (x12 : Int) (q13 : Bool) (x44 : Int) (a48 : Option Addr) (n48 : Nat) (c48 : Nat) (x49 : Int) (x50 : Int) (h : Hp) : Prop :=
  vcond (ltI x50 x49)
  (isNat x50 fun n401' =>
  isAddr a48 fun b402' f403' =>
  vreq (Nat.blt n401' n48)
  (∃ x404', readAt h b402' (f403' + (n401' * 1)) 1 = some [(.int .i64 x404')] ∧
  vcond (ltI 0 x404')
  (vreq (le0 (maxI x404' (wrapF .i64 (0 - x404'))))
  (vreq (inD 9223372036854775808 (shrF .i64 x4 (Int.toNat (maxI x404' (wrapF .i64 (0 - x404'))))))
  (vcond (eqI (landI (shrF .i64 x4 (Int.toNat (maxI x404' (wrapF .i64 (0 - x404'))))) 1) 1)
  (I63_3 O Q a0 n0 c0 a1 n1 c1 x4 x5 q6 x9 x12 true x44 a48 n48 c48 x49 (wrapF .i64 (x50 + 1)) h)
  (vcond (ltI x404' 0)
  (vreq (le0 (maxI x404' (wrapF .i64 (0 - x404'))))
  (vreq (inD 9223372036854775808 (shrF .i64 x5 (Int.toNat (maxI x404' (wrapF .i64 (0 - x404'))))))
  (vcond (eqI (landI (shrF .i64 x5 (Int.toNat (maxI x404' (wrapF .i64 (0 - x404'))))) 1) 1)
  (I63_3 O Q a0 n0 c0 a1 n1 c1 x4 x5 q6 x9 x12 true x44 a48 n48 c48 x49 (wrapF .i64 (x50 + 1)) h)
  (vreq (inD 9223372036854775808 x4)
  (vreq (inD 9223372036854775808 x5)
  (vreq (le0 (maxI x404' (wrapF .i64 (0 - x404'))))
  (vreq (inD 9223372036854775808 (shrF .i64 (lorI x4 x5) (Int.toNat (maxI x404' (wrapF .i64 (0 - x404'))))))
  (vcond (eqI (landI (shrF .i64 (lorI x4 x5) (Int.toNat (maxI x404' (wrapF .i64 (0 - x404'))))) 1) 0)
  (vcond (!(eqI x12 0))
  (I63_3 O Q a0 n0 c0 a1 n1 c1 x4 x5 q6 x9 x404' true x44 a48 n48 c48 x49 (wrapF .i64 (x50 + 1)) h)
  (I63_3 O Q a0 n0 c0 a1 n1 c1 x4 x5 q6 x9 x404' q13 x44 a48 n48 c48 x49 (wrapF .i64 (x50 + 1)) h))
  (I63_3 O Q a0 n0 c0 a1 n1 c1 x4 x5 q6 x9 x12 q13 x44 a48 n48 c48 x49 (wrapF .i64 (x50 + 1)) h)))))))))
  (vreq (inD 9223372036854775808 x4)
  (vreq (inD 9223372036854775808 x5)
  (vreq (le0 (maxI x404' (wrapF .i64 (0 - x404'))))
  (vreq (inD 9223372036854775808 (shrF .i64 (lorI x4 x5) (Int.toNat (maxI x404' (wrapF .i64 (0 - x404'))))))
  (vcond (eqI (landI (shrF .i64 (lorI x4 x5) (Int.toNat (maxI x404' (wrapF .i64 (0 - x404'))))) 1) 0)
  (vcond (!(eqI x12 0))
  (I63_3 O Q a0 n0 c0 a1 n1 c1 x4 x5 q6 x9 x404' true x44 a48 n48 c48 x49 (wrapF .i64 (x50 + 1)) h)
  (I63_3 O Q a0 n0 c0 a1 n1 c1 x4 x5 q6 x9 x404' q13 x44 a48 n48 c48 x49 (wrapF .i64 (x50 + 1)) h))
  (I63_3 O Q a0 n0 c0 a1 n1 c1 x4 x5 q6 x9 x12 q13 x44 a48 n48 c48 x49 (wrapF .i64 (x50 + 1)) h))))))))))
  (vcond (ltI x404' 0)
  (vreq (le0 (maxI x404' (wrapF .i64 (0 - x404'))))
  (vreq (inD 9223372036854775808 (shrF .i64 x5 (Int.toNat (maxI x404' (wrapF .i64 (0 - x404'))))))
  (vcond (eqI (landI (shrF .i64 x5 (Int.toNat (maxI x404' (wrapF .i64 (0 - x404'))))) 1) 1)
  (I63_3 O Q a0 n0 c0 a1 n1 c1 x4 x5 q6 x9 x12 true x44 a48 n48 c48 x49 (wrapF .i64 (x50 + 1)) h)
  (vreq (inD 9223372036854775808 x4)
  (vreq (inD 9223372036854775808 x5)
  (vreq (le0 (maxI x404' (wrapF .i64 (0 - x404'))))
  (vreq (inD 9223372036854775808 (shrF .i64 (lorI x4 x5) (Int.toNat (maxI x404' (wrapF .i64 (0 - x404'))))))
  (vcond (eqI (landI (shrF .i64 (lorI x4 x5) (Int.toNat (maxI x404' (wrapF .i64 (0 - x404'))))) 1) 0)
  (vcond (!(eqI x12 0))
  (I63_3 O Q a0 n0 c0 a1 n1 c1 x4 x5 q6 x9 x404' true x44 a48 n48 c48 x49 (wrapF .i64 (x50 + 1)) h)
  (I63_3 O Q a0 n0 c0 a1 n1 c1 x4 x5 q6 x9 x404' q13 x44 a48 n48 c48 x49 (wrapF .i64 (x50 + 1)) h))
  (I63_3 O Q a0 n0 c0 a1 n1 c1 x4 x5 q6 x9 x12 q13 x44 a48 n48 c48 x49 (wrapF .i64 (x50 + 1)) h)))))))))
  (vreq (inD 9223372036854775808 x4)
  (vreq (inD 9223372036854775808 x5)
  (vreq (le0 (maxI x404' (wrapF .i64 (0 - x404'))))
  (vreq (inD 9223372036854775808 (shrF .i64 (lorI x4 x5) (Int.toNat (maxI x404' (wrapF .i64 (0 - x404'))))))
  (vcond (eqI (landI (shrF .i64 (lorI x4 x5) (Int.toNat (maxI x404' (wrapF .i64 (0 - x404'))))) 1) 0)
  (vcond (!(eqI x12 0))
  (I63_3 O Q a0 n0 c0 a1 n1 c1 x4 x5 q6 x9 x404' true x44 a48 n48 c48 x49 (wrapF .i64 (x50 + 1)) h)
  (I63_3 O Q a0 n0 c0 a1 n1 c1 x4 x5 q6 x9 x404' q13 x44 a48 n48 c48 x49 (wrapF .i64 (x50 + 1)) h))
  (I63_3 O Q a0 n0 c0 a1 n1 c1 x4 x5 q6 x9 x12 q13 x44 a48 n48 c48 x49 (wrapF .i64 (x50 + 1)) h)))))))))
  (vcond q13
  (I63_2 O Q a0 n0 c0 a1 n1 c1 x4 x5 q6 x9 (wrapF .i64 (x44 + 1)) h)
  (vcond (ltI 0 x12)
  (vreq (le0 x12)
  (vreq (inD 9223372036854775808 x4)
  (vreq (inD 9223372036854775808 (shlF .i64 1 (Int.toNat x12)))
  (I63_2 O Q a0 n0 c0 a1 n1 c1 (lorI x4 (shlF .i64 1 (Int.toNat x12))) x5 q6 x9 (wrapF .i64 (x44 + 1)) h))))
  (vcond (ltI x12 0)
  (vreq (le0 (wrapF .i64 (0 - x12)))
  (vreq (inD 9223372036854775808 x5)
  (vreq (inD 9223372036854775808 (shlF .i64 1 (Int.toNat (wrapF .i64 (0 - x12)))))
  (I63_2 O Q a0 n0 c0 a1 n1 c1 x4 (lorI x5 (shlF .i64 1 (Int.toNat (wrapF .i64 (0 - x12))))) q6 x9 (wrapF .i64 (x44 + 1)) h))))
  (Q (.tuple #[(.int .i64 0), (.int .i64 0), (.bool false)]) h))))
theorem I63_3.of {O Q} (a0 n0 c0 a1 n1 c1 x4 x5 q6 x9 x12 q13 x44 a48 n48 c48 x49 x50) {h : Hp} (hh : T63_3 O Q a0 n0 c0 a1 n1 c1 x4 x5 q6 x9 x12 q13 x44 a48 n48 c48 x49 x50 h) : I63_3 O Q a0 n0 c0 a1 n1 c1 x4 x5 q6 x9 x12 q13 x44 a48 n48 c48 x49 x50 h :=
  RKL.of (tb := lv63) (cuts := []) 500 fun _ => Eq.mp (by kernel_rfl) hh
/-! slices.ContainsFunc[[]int,int] -/
noncomputable def b64 : Code := (Tryd.f64.body).getD .skip
def lv64 : List (Nat × List Nat) := []
def T64 (O : CallF) (Q : Value → Hp → Prop) (a0 : Option Addr) (n0 : Nat) (c0 : Nat) (g1 : Nat) (fi1 : Array Value) (ca1 : Array Value) (h : Hp) : Prop :=
  ∃ x1', ∃ h2', EvC Tryd.prog O 113 [(.slice a0 n0 c0), (.func (.func g1) fi1 ca1)] h (.int .i64 x1') h2' ∧
  Q (.bool (!(ltI x1' 0))) h2'
theorem rk64 {O Q} (a0 n0 c0 g1 fi1 ca1) {h : Hp} (hO : O 64 [(.slice a0 n0 c0), (.func (.func g1) fi1 ca1)] h = none) (hh : T64 O Q a0 n0 c0 g1 fi1 ca1 h) : Ret Tryd.prog O 64 [(.slice a0 n0 c0), (.func (.func g1) fi1 ca1)] h Q :=
  .of (c := b64) Tryd.func64 (by kernel_rfl) hO (V_ok (tb := lv64) (cuts := []) 500 (Eq.mp (by kernel_rfl) hh))
/-! sward/swardlaw20.is -/
noncomputable def b66 : Code := (Tryd.f66.body).getD .skip
def lv66 : List (Nat × List Nat) := []
def T66 (O : CallF) (Q : Value → Hp → Prop) (x0 : Int) (x1 : Int) (h : Hp) : Prop :=
  vcond (ltI x1 0)
  (vreq (le0 (wrapF .i64 ((wrapF .i64 (0 - x1)) - 1)))
  (vreq (inD 9223372036854775808 (shrF .i64 x0 (Int.toNat (wrapF .i64 ((wrapF .i64 (0 - x1)) - 1)))))
  (Q (.bool (eqI (landI (shrF .i64 x0 (Int.toNat (wrapF .i64 ((wrapF .i64 (0 - x1)) - 1)))) 1) 0)) h)))
  (vreq (le0 (wrapF .i64 (x1 - 1)))
  (vreq (inD 9223372036854775808 (shrF .i64 x0 (Int.toNat (wrapF .i64 (x1 - 1)))))
  (Q (.bool (eqI (landI (shrF .i64 x0 (Int.toNat (wrapF .i64 (x1 - 1)))) 1) 1)) h)))
theorem rk66 {O Q} (x0 x1) {h : Hp} (hO : O 66 [(.int .i64 x0), (.int .i64 x1)] h = none) (hh : T66 O Q x0 x1 h) : Ret Tryd.prog O 66 [(.int .i64 x0), (.int .i64 x1)] h Q :=
  .of (c := b66) Tryd.func66 (by kernel_rfl) hO (V_ok (tb := lv66) (cuts := []) 500 (Eq.mp (by kernel_rfl) hh))
/-! sward/swardlaw20.clause$1 -/
noncomputable def b75 : Code := (Tryd.f75.body).getD .skip
def lv75 : List (Nat × List Nat) := []
def T75 (O : CallF) (Q : Value → Hp → Prop) (x0 : Int) (x1 : Int) (h : Hp) : Prop :=
  Q (.int .i64 (wrapF .i64 ((maxI x0 (wrapF .i64 (0 - x0))) - (maxI x1 (wrapF .i64 (0 - x1)))))) h
theorem rk75 {O Q} (x0 x1) {h : Hp} (hO : O 75 [(.int .i64 x0), (.int .i64 x1)] h = none) (hh : T75 O Q x0 x1 h) : Ret Tryd.prog O 75 [(.int .i64 x0), (.int .i64 x1)] h Q :=
  .of (c := b75) Tryd.func75 (by kernel_rfl) hO (V_ok (tb := lv75) (cuts := []) 500 (Eq.mp (by kernel_rfl) hh))
/-! sward/swardlaw20.models$1 -/
noncomputable def b111 : Code := (Tryd.f111.body).getD .skip
def lv111 : List (Nat × List Nat) := []
def T111 (O : CallF) (Q : Value → Hp → Prop) (x0 : Int) (b1 : Nat) (f1 : Nat) (h : Hp) : Prop :=
  ∃ x1', readAt h b1 f1 1 = some [(.int .i64 x1')] ∧
  ∃ q2', ∃ h3', EvC Tryd.prog O 66 [(.int .i64 x1'), (.int .i64 x0)] h (.bool q2') h3' ∧
  Q (.bool (!q2')) h3'
theorem rk111 {O Q} (x0 b1 f1) {h : Hp} (hO : O 111 [(.int .i64 x0), (.pointer (some ⟨b1, f1, none⟩))] h = none) (hh : T111 O Q x0 b1 f1 h) : Ret Tryd.prog O 111 [(.int .i64 x0), (.pointer (some ⟨b1, f1, none⟩))] h Q :=
  .of (c := b111) Tryd.func111 (by kernel_rfl) hO (V_ok (tb := lv111) (cuts := []) 500 (Eq.mp (by kernel_rfl) hh))
/-! sward/swardlaw20.models$2 -/
noncomputable def b112 : Code := (Tryd.f112.body).getD .skip
def lv112 : List (Nat × List Nat) := []
def T112 (O : CallF) (Q : Value → Hp → Prop) (x0 : Int) (b1 : Nat) (f1 : Nat) (h : Hp) : Prop :=
  ∃ x1', readAt h b1 f1 1 = some [(.int .i64 x1')] ∧
  ∃ q2', ∃ h3', EvC Tryd.prog O 66 [(.int .i64 x1'), (.int .i64 x0)] h (.bool q2') h3' ∧
  Q (.bool q2') h3'
theorem rk112 {O Q} (x0 b1 f1) {h : Hp} (hO : O 112 [(.int .i64 x0), (.pointer (some ⟨b1, f1, none⟩))] h = none) (hh : T112 O Q x0 b1 f1 h) : Ret Tryd.prog O 112 [(.int .i64 x0), (.pointer (some ⟨b1, f1, none⟩))] h Q :=
  .of (c := b112) Tryd.func112 (by kernel_rfl) hO (V_ok (tb := lv112) (cuts := []) 500 (Eq.mp (by kernel_rfl) hh))
/-! slices.IndexFunc[[]int,int] -/
noncomputable def b113 : Code := (Tryd.f113.body).getD .skip
noncomputable def stk113_0 : List KI := [.code (sub [1, 0, 1, 0] b113), .blk 0, .code (sub [1, 1] b113)]
def lv113 : List (Nat × List Nat) := [(0, [0, 1, 4, 7, 8])]
def I113_0 (O : CallF) (Q : Value → Hp → Prop) (a0 : Option Addr) (n0 : Nat) (c0 : Nat) (g1 : Nat) (fi1 : Array Value) (ca1 : Array Value) (g1s : Nat) (fi1s : Array Value) (ca1s : Array Value) (x4 : Int) (x8 : Int) (h : Hp) : Prop := RKL Tryd.prog O Tryd.f113 stk113_0 19 [0, 1, 4, 7, 8] [(.slice a0 n0 c0), (.func (.func g1s) fi1s ca1s), (.int .i64 x4), (.int .i64 (Int.ofNat n0)), (.int .i64 x8)] h Q
def T113 (O : CallF) (Q : Value → Hp → Prop) (a0 : Option Addr) (n0 : Nat) (c0 : Nat) (g1 : Nat) (fi1 : Array Value) (ca1 : Array Value) (h : Hp) : Prop :=
  I113_0 O Q a0 n0 c0 g1 fi1 ca1 g1 fi1 ca1 0 0 h
theorem rk113 {O Q} (a0 n0 c0 g1 fi1 ca1) {h : Hp} (hO : O 113 [(.slice a0 n0 c0), (.func (.func g1) fi1 ca1)] h = none) (hh : T113 O Q a0 n0 c0 g1 fi1 ca1 h) : Ret Tryd.prog O 113 [(.slice a0 n0 c0), (.func (.func g1) fi1 ca1)] h Q :=
  .of (c := b113) Tryd.func113 (by kernel_rfl) hO (V_ok (tb := lv113) (cuts := []) 500 (Eq.mp (by kernel_rfl) hh))
def T113_0 (O : CallF) (Q : Value → Hp → Prop) (a0 : Option Addr) (n0 : Nat) (c0 : Nat) (g1 : Nat) (fi1 : Array Value) (ca1 : Array Value) (g1s : Nat) (fi1s : Array Value) (ca1s : Array Value) (x4 : Int) (x8 : Int) (h : Hp) : Prop :=
  vcond (ltI x8 (Int.ofNat n0))
  (isNat x8 fun n101' =>
  isAddr a0 fun b102' f103' =>
  vreq (Nat.blt n101' n0)
  (∃ x104', readAt h b102' (f103' + (n101' * 1)) 1 = some [(.int .i64 x104')] ∧
  ∃ q105', ∃ h106', EvC Tryd.prog O g1s (fi1s.toList ++ [(.int .i64 x104')] ++ ca1s.toList) h (.bool q105') h106' ∧
  vcond q105'
  (Q (.int .i64 x8) h106')
  (I113_0 O Q a0 n0 c0 g1 fi1 ca1 g1s fi1s ca1s x4 (wrapF .i64 (x8 + 1)) h106')))
  (Q (.int .i64 (-1)) h)
theorem I113_0.of {O Q} (a0 n0 c0 g1 fi1 ca1 g1s fi1s ca1s x4 x8) {h : Hp} (hh : T113_0 O Q a0 n0 c0 g1 fi1 ca1 g1s fi1s ca1s x4 x8 h) : I113_0 O Q a0 n0 c0 g1 fi1 ca1 g1s fi1s ca1s x4 x8 h :=
  RKL.of (tb := lv113) (cuts := []) 500 fun _ => Eq.mp (by kernel_rfl) hh
end Go.Proofs.YtfgfhplgnfbaaaaDoor
/- Contracts of layer 20: sorting of few numbers; literals by numbers, clauses of them. -/
namespace Go.Proofs.YtfgfhplgnfbaaaaDoor
open Go Go.Ev
/-- All but one object is as it was. -/
structure Kx (b : Nat) (h h' : Hp) : Prop where
  get : ∀ o, o < h.nx → o ≠ b → h'.get o = h.get o
  nx : h.nx ≤ h'.nx
  gd : h'.gd = h.gd
  fr : h.Fresh → h'.Fresh
theorem Kx.refl (b : Nat) (h : Hp) : Kx b h h := ⟨fun _ _ _ => rfl, Nat.le_refl _, rfl, id⟩
theorem Kx.rsv {b : Nat} {g h : Hp} (k : Kx b g h) (n : Nat) : Kx b g (h.rsv n) := ⟨k.get, by rw [nx_rsv]; have := k.nx; omega, k.gd, fun f o ho => k.fr f o (by rw [nx_rsv] at ho; omega)⟩
theorem Kx.wr {b : Nat} {g h : Hp} (k : Kx b g h) (off : Nat) (vs : List Value) : Kx b g (h.wr b off vs) := ⟨fun o h1 h2 => by rw [wr_get_ne _ _ _ _ h2]; exact k.get o h1 h2, by rw [nx_wr]; exact k.nx, by rw [gd_wr]; exact k.gd, fun f => (k.fr f).wr b off vs⟩
theorem Kx.trans {b : Nat} {g h h' : Hp} (k : Kx b g h) (k2 : Kx b h h') : Kx b g h' := ⟨fun o h1 h2 => (k2.get o (by have := k.nx; omega) h2).trans (k.get o h1 h2), Nat.le_trans k.nx k2.nx, k2.gd.trans k.gd, fun f => k2.fr (k.fr f)⟩
theorem Kx.kp {b n : Nat} {h h' : Hp} (k : Kx b h h') (hb : n ≤ b) (hn : n ≤ h.nx) : Kp n h h' := ⟨fun o ho => k.get o (by omega) (by omega), k.nx, k.gd, k.fr⟩
theorem Kx.rst {b : Nat} {g h h' : Hp} (k : Kx b g h) (e : h'.gd = g.gd) : Kx b g (h.rst h') := ⟨k.get, k.nx, e, k.fr⟩
theorem Kx.grd {b : Nat} {g h : Hp} (k : Kx b g h) : Kx b g (h.grd []) := ⟨k.get, k.nx, k.gd, k.fr⟩
/-- A row of whole numbers that may be written. -/
structure RowAt (b : Nat) (e : TypeId) (m : Md) (h : Hp) (l : List Int) : Prop where
  lt : b < h.nx
  get : h.get b = some (.cells (l.map (Value.int .i64)) e m)
theorem RowAt.rd {b : Nat} {e : TypeId} {m : Md} {h : Hp} {l : List Int} (R : RowAt b e m h l) {k : Nat} (hk : k < l.length) {off : Nat} (ho : off = k) : readAt h b off 1 = some [.int .i64 l[k]] :=
  read1 R.get (by subst ho; simp [hk])
theorem RowAt.ints {b : Nat} {e : TypeId} {m : Md} {h : Hp} {l : List Int} (R : RowAt b e m h l) : IntsAt h (some ⟨b, 0, none⟩) l.length l :=
  ⟨rfl, .inr ⟨b, 0, _, _, _, rfl, R.lt, R.get, by simp, fun i hi => by
    show ((l.map (Value.int .i64)).drop (0 + i * 1)).take 1 = [.int .i64 l[i]]
    rw [Nat.zero_add, Nat.mul_one, List.drop_eq_getElem_cons (by simpa using hi)]
    simp⟩⟩
theorem RowAt.wr {b : Nat} {e : TypeId} {m : Md} {h : Hp} {l : List Int} (R : RowAt b e m h l) (hm : m ≠ .ro) (hg : h.guarded b = false) {k : Nat} (hk : k < l.length) {off : Nat} (ho : off = k) (x : Int) : canW h b off [.int .i64 x] = true ∧ RowAt b e m (h.wr b off [.int .i64 x]) (l.set k x) := by
  subst ho
  refine ⟨canW_t R.get hm hg (by simp; omega) rfl, by rw [nx_wr]; exact R.lt, ?_⟩
  rw [wr_get R.get hm hg (by simp; omega) rfl, putAt_set hk]
/-- A comparison by a key. -/
def CmpOk (O : CallF) (g : Nat) (key : Int → Int) (D : Int → Prop) : Prop := ∀ x y h, D x → D y → EvT O g [.int .i64 x, .int .i64 y] h (.int .i64 (key x - key y)) h
section
variable {O : CallF} {g : Nat} {key : Int → Int} {D : Int → Prop} (hO : Oth O) (C : CmpOk O g key D)
include hO C
/-- Of the first elements all but one stand in order. -/
def Near (key : Int → Int) (l : List Int) (k j : Nat) : Prop := ∀ i i', i < i' → i' ≤ k → i' ≠ j → key (l.getD i 0) ≤ key (l.getD i' 0)
omit hO C in
theorem swp {l : List Int} {j : Nat} (hj : j + 1 < l.length) {x y : Int} (p : Nat) : ((l.set (j + 1) y).set j x).getD p 0 = if p = j then x else if p = j + 1 then y else l.getD p 0 := by
  simp only [List.getD_eq_getElem?_getD, List.getElem?_set, List.length_set]
  by_cases c : p = j
  · subst c; rw [if_pos rfl, if_pos (by omega), if_pos rfl]; rfl
  · rw [if_neg (by omega), if_neg c]
    by_cases c2 : p = j + 1
    · subst c2; rw [if_pos rfl, if_pos hj, if_pos rfl]; rfl
    · rw [if_neg (by omega), if_neg c2]
theorem lp127g_1 {b : Nat} {e : TypeId} {m : Md} (hm : m ≠ .ro) {h₀ : Hp} (hg : ∀ q ∈ h₀.gd, q ≠ b) {N c k : Nat} {l₀ : List Int} (hN : N < 1000000) (hk : k < N) (hD : ∀ x ∈ l₀, D x) {Q : Value → Hp → Prop}
    (next : ∀ l h, l.Perm l₀ → l.length = N → Near key l k (k + 1) → RowAt b e m h l → Kx b h₀ h → I127_0 O Q (some ⟨b, 0, none⟩) N c 0 (Int.ofNat N) g #[] #[] g #[] #[] (Int.ofNat (k + 1)) h) :
    ∀ (j : Nat), j ≤ k → ∀ {l : List Int} {h : Hp}, l.Perm l₀ → l.length = N → Near key l k j → RowAt b e m h l → Kx b h₀ h →
      I127_1 O Q (some ⟨b, 0, none⟩) N c 0 (Int.ofNat N) g #[] #[] g #[] #[] (Int.ofNat k) (Int.ofNat j) h := by
  have _ := hO
  intro j
  induction j with
  | zero =>
    intro hj l h hp hl hs R K
    refine I127_1.of _ _ _ _ _ _ _ _ _ _ _ _ _ ?_
    unfold T127_1
    rw [wrap_succ (by omega)]
    refine vcond_f (by rfl) (next l _ hp hl ?_ ⟨Nat.lt_of_lt_of_le R.lt (Nat.le_add_right ..), R.get⟩ (K.rsv 17))
    intro i i' h1 h2 _
    exact hs i i' h1 h2 (by omega)
  | succ j ih =>
    intro hj l h hp hl hs R K
    refine I127_1.of _ _ _ _ _ _ _ _ _ _ _ _ _ ?_
    unfold T127_1
    have e1 : wrapF .i64 (Int.ofNat (j + 1) - 1) = Int.ofNat j := by rw [wrap64] <;> simp only [Int.ofNat_eq_natCast] <;> omega
    rw [e1, wrap_succ (by omega)]
    have R1 : RowAt b e m (h.rsv 17) l := ⟨by rw [nx_rsv]; have := R.lt; omega, R.get⟩
    have hj1 : j + 1 < l.length := by omega
    have hj0 : j < l.length := by omega
    have hDx : D l[j + 1] := hD _ (hp.subset (List.getElem_mem _))
    have hDy : D l[j] := hD _ (hp.subset (List.getElem_mem _))
    refine vcond_t (by rfl) (isNat_of (show isAddr (some ⟨b, 0, none⟩) _ from vreq_t (blt_t (by omega)) ⟨_, R1.rd hj1 (by omega), ?_⟩))
    refine isNat_of (show isAddr (some ⟨b, 0, none⟩) _ from vreq_t (blt_t (by omega)) ⟨_, R1.rd hj0 (by omega), _, _, C _ _ _ hDx hDy, ?_⟩)
    have gd (k : Nat) (x : List Int) : x.getD k 0 = (x[k]?).getD 0 := List.getD_eq_getElem?_getD ..
    refine vcond_split (fun hlt => ?_) fun hlt => ?_
    · have hlt := lt_of_t hlt
      have R2 : RowAt b e m (((((h.rsv 17).grd []).rst (h.rsv 17)).rsv 18).grd []) l := ⟨by rw [nx_grd, nx_rsv]; have := R1.lt; exact Nat.lt_of_lt_of_le this (Nat.le_add_right ..), R.get⟩
      have gu : ∀ {h' : Hp}, h'.gd = h₀.gd → h'.guarded b = false := fun e => guarded_of fun q hq => by rw [e] at hq; exact hg q hq
      have g2 : (((((h.rsv 17).grd []).rst (h.rsv 17)).rsv 18).grd []).gd = h₀.gd := K.gd
      obtain ⟨w1, R3⟩ := R2.wr hm (gu g2) (k := j + 1) (off := 0 + (j + 1) * 1) hj1 (by omega) l[j]
      obtain ⟨w2, R4⟩ := RowAt.wr (h := (((((((h.rsv 17).grd []).rst (h.rsv 17)).rsv 18).grd []).wr b (0 + (j + 1) * 1) [.int .i64 l[j]]).rst ((((h.rsv 17).grd []).rst (h.rsv 17)).rsv 18)).grd []) ⟨R3.lt, R3.get⟩ hm (gu K.gd) (k := j) (off := 0 + j * 1) (by simp; omega) (by omega) l[j + 1]
      refine isNat_of (show isAddr (some ⟨b, 0, none⟩) _ from vreq_t (blt_t (by omega)) ⟨_, R2.rd hj0 (by omega), ?_⟩)
      refine isNat_of (show isAddr (some ⟨b, 0, none⟩) _ from vreq_t (blt_t (by omega)) ⟨_, R2.rd hj1 (by omega), ?_⟩)
      refine isNat_of (show isAddr (some ⟨b, 0, none⟩) _ from vreq_t (blt_t (by omega)) (vreq_t w1 ?_))
      refine isNat_of (show isAddr (some ⟨b, 0, none⟩) _ from vreq_t (blt_t (by omega)) (vreq_t w2 ?_))
      have sw : ((l.set (j + 1) l[j]).set j l[j + 1]).Perm l₀ := by
        refine List.Perm.trans ?_ hp
        exact List.set_set_perm hj1 hj0
      refine ih (by omega) (l := (l.set (j + 1) l[j]).set j l[j + 1]) sw (by simpa using hl) ?_ ⟨R4.lt, R4.get⟩ ?_
      · intro i i' h1 h2 h3
        rw [swp hj1, swp hj1]
        have q0 : l.getD j 0 = l[j] := by simp [List.getD_eq_getElem?_getD, List.getElem?_eq_getElem hj0]
        have q1 : l.getD (j + 1) 0 = l[j + 1] := by simp [List.getD_eq_getElem?_getD, List.getElem?_eq_getElem hj1]
        rw [if_neg h3]
        by_cases c2 : i' = j + 1
        · rw [if_pos c2]
          by_cases c3 : i = j
          · rw [if_pos c3]; omega
          · rw [if_neg c3, if_neg (by omega), ← q0]
            exact hs i j (by omega) (by omega) (by omega)
        · rw [if_neg c2]
          by_cases c3 : i = j
          · rw [if_pos c3, ← q1]
            exact hs (j + 1) i' (by omega) h2 (by omega)
          · rw [if_neg c3]
            by_cases c4 : i = j + 1
            · rw [if_pos c4, ← q0]
              exact hs j i' (by omega) h2 (by omega)
            · rw [if_neg c4]
              exact hs i i' h1 h2 (by omega)
      · have K1 : Kx b h₀ (((((h.rsv 17).grd []).rst (h.rsv 17)).rsv 18).grd []) := (((K.rsv 17).grd.rst K.gd).rsv 18).grd
        exact (((K1.wr _ _).rst K.gd).grd.wr _ _).rst K.gd
    · have hlt := not_lt_of_f hlt
      refine next l _ hp hl ?_ ⟨R1.lt, R1.get⟩ ⟨(K.rsv 17).get, (K.rsv 17).nx, K.gd, (K.rsv 17).fr⟩
      intro i i' h1 h2 _
      by_cases c : i' = j + 1
      · subst c
        have h5 : key (l.getD j 0) ≤ key (l.getD (j + 1) 0) := by
          simp only [gd]
          rw [List.getElem?_eq_getElem hj0, List.getElem?_eq_getElem hj1]
          simp only [Option.getD_some]; omega
        by_cases c2 : i = j
        · subst c2; exact h5
        · exact Int.le_trans (hs i j (by omega) (by omega) (by omega)) h5
      · exact hs i i' h1 h2 c
theorem lp127g_0 {b : Nat} {e : TypeId} {m : Md} (hm : m ≠ .ro) {h₀ : Hp} (hg : ∀ q ∈ h₀.gd, q ≠ b) {N c : Nat} {l₀ : List Int} (hN : N < 1000000) (hD : ∀ x ∈ l₀, D x) :
    ∀ (d k : Nat), k + d = N → ∀ {l : List Int} {h : Hp}, l.Perm l₀ → l.length = N → Near key l (k - 1) (k + 1) → RowAt b e m h l → Kx b h₀ h →
      I127_0 O (fun v h' => v = undef ∧ ∃ l, l.Perm l₀ ∧ l.Pairwise (fun x y => key x ≤ key y) ∧ RowAt b e m h' l ∧ Kx b h₀ h') (some ⟨b, 0, none⟩) N c 0 (Int.ofNat N) g #[] #[] g #[] #[] (Int.ofNat k) h := by
  intro d
  induction d with
  | zero =>
    intro k hk l h hp hl hs R K
    refine I127_0.of _ _ _ _ _ _ _ _ _ _ _ _ ?_
    unfold T127_0
    refine vcond_f (by rw [ltI_nat]; exact blt_f (by omega)) ⟨rfl, l, hp, ?_, R, K⟩
    rw [List.pairwise_iff_getElem]
    intro i i' h1 h2 h3
    have := hs i i' h3 (by omega) (by omega)
    simp only [List.getD_eq_getElem?_getD] at this
    rw [List.getElem?_eq_getElem h1, List.getElem?_eq_getElem h2] at this
    exact this
  | succ d ih =>
    intro k hk l h hp hl hs R K
    refine I127_0.of _ _ _ _ _ _ _ _ _ _ _ _ ?_
    unfold T127_0
    refine vcond_t (by rw [ltI_nat]; exact blt_t (by omega)) ?_
    refine lp127g_1 hO C hm hg hN (by omega) hD (fun l' h' p1 p2 p3 p4 p5 => ih (k + 1) (by omega) p1 p2 (fun i i' a1 a2 a3 => p3 i i' a1 (by omega) (by omega)) p4 p5) k (Nat.le_refl _) hp hl ?_ R K
    intro i i' a1 a2 a3
    exact hs i i' a1 (by omega) (by omega)
theorem ct127g {b : Nat} {e : TypeId} {m : Md} (hm : m ≠ .ro) {h : Hp} (hg : ∀ q ∈ h.gd, q ≠ b) {c : Nat} {l : List Int} (hN : l.length < 1000000) (hD : ∀ x ∈ l, D x) (R : RowAt b e m h l) :
    Ret Tryd.prog O 127 [.slice (some ⟨b, 0, none⟩) l.length c, .int .i64 0, .int .i64 (Int.ofNat l.length), .func (.func g) #[] #[]] h fun v h' => v = undef ∧ ∃ l', l'.Perm l ∧ l'.Pairwise (fun x y => key x ≤ key y) ∧ RowAt b e m h' l' ∧ Kx b h h' := by
  refine rk127 _ _ _ _ _ _ _ _ (hO _ _ _ (by decide)) ?_
  unfold T127
  have z : wrapF .i64 (0 + 1) = Int.ofNat 1 := rfl
  rw [z]
  by_cases h0 : l.length = 0
  · refine I127_0.of _ _ _ _ _ _ _ _ _ _ _ _ ?_
    unfold T127_0
    refine vcond_f (by rw [ltI_nat]; exact blt_f (by omega)) ⟨rfl, l, .refl _, ?_, R, .refl _ _⟩
    rw [List.length_eq_zero_iff.1 h0]; exact List.Pairwise.nil
  · refine lp127g_0 hO C hm hg hN hD (l.length - 1) 1 (by omega) (.refl _) rfl ?_ R (.refl _ _)
    intro i i' a1 a2 a3; omega
/-- At most twelve numbers are sorted. -/
theorem ct74g {b : Nat} {e : TypeId} {m : Md} (hm : m ≠ .ro) {h : Hp} (hg : ∀ q ∈ h.gd, q ≠ b) {c : Nat} {l : List Int} (hN : l.length ≤ 12) (hD : ∀ x ∈ l, D x) (R : RowAt b e m h l) :
    Ret Tryd.prog O 74 [.slice (some ⟨b, 0, none⟩) l.length c, .func (.func g) #[] #[]] h fun v h' => v = undef ∧ ∃ l', l'.Perm l ∧ l'.Pairwise (fun x y => key x ≤ key y) ∧ RowAt b e m h' l' ∧ Kx b h h' := by
  refine rk74 _ _ _ _ _ _ (hO _ _ _ (by decide)) ?_
  unfold T74
  have w : wrapF .u64 (Int.ofNat l.length) = Int.ofNat l.length := by
    have : ∀ n, n < 13 → wrapF .u64 (Int.ofNat n) = Int.ofNat n := by decide +kernel
    exact this _ (by omega)
  rw [w]
  refine ⟨_, _, ct116 hO (by omega) h, ?_⟩
  have r : Ret Tryd.prog O 115 [.slice (some ⟨b, 0, none⟩) l.length c, .int .i64 0, .int .i64 (Int.ofNat l.length), .int .i64 (wrapF .i64 (0 + wrapF .i64 (byteI lenT l.length))), .func (.func g) #[] #[]] h fun v h' => v = undef ∧ ∃ l', l'.Perm l ∧ l'.Pairwise (fun x y => key x ≤ key y) ∧ RowAt b e m h' l' ∧ Kx b h h' := by
    refine rk115 _ _ _ _ _ _ _ _ _ (hO _ _ _ (by decide)) ?_
    unfold T115
    refine I115_0.of _ _ _ _ _ _ _ _ _ _ _ _ _ _ _ _ _ ?_
    unfold T115_0
    have e1 : wrapF .i64 (Int.ofNat l.length - 0) = Int.ofNat l.length := by rw [wrap64] <;> simp only [Int.ofNat_eq_natCast] <;> omega
    rw [e1]
    refine vcond_t (by rw [ltI_f (by simp only [Int.ofNat_eq_natCast]; omega)]; rfl) ?_
    exact (ct127g hO C hm hg (c := c) (by omega) hD R).u fun h' p => ⟨rfl, p⟩
  exact r.u fun h' p => ⟨rfl, p⟩
end
/-! ### literals by numbers, clauses of them -/
/-- A literal of one of some variables by a number. -/
def litP (x vars : Int) : Int := if x.tmod 2 = 0 then -(1 + ((x + 128).tdiv 2).tmod vars) else 1 + ((x + 128).tdiv 2).tmod vars
theorem litP_ok {x vars : Int} (h1 : -128 ≤ x) (h2 : x < 128) (h3 : 1 ≤ vars) (h4 : vars ≤ 30) : Lit (litP x vars) ∧ (litP x vars).natAbs ≤ vars.toNat := by
  have a : 0 ≤ ((x + 128).tdiv 2).tmod vars ∧ ((x + 128).tdiv 2).tmod vars < vars := by
    have : 0 ≤ (x + 128).tdiv 2 := Int.tdiv_nonneg (by omega) (by decide)
    exact ⟨Int.tmod_nonneg _ this, Int.tmod_lt_of_pos _ (by omega)⟩
  unfold litP Lit
  split <;> omega
section
variable {O : CallF} (hO : Oth O)
include hO
theorem ct21 {x vars : Int} (h1 : -128 ≤ x) (h2 : x < 128) (h3 : 1 ≤ vars) (h4 : vars ≤ 30) (h : Hp) : EvT O 21 [.int .i8 x, .int .i64 vars] h (.int .i64 (litP x vars)) h := by
  refine EvC.of_ret (rk21 _ _ (hO _ _ _ (by decide)) ?_)
  unfold T21
  have a : 0 ≤ ((x + 128).tdiv 2).tmod vars ∧ ((x + 128).tdiv 2).tmod vars < vars := by
    have : 0 ≤ (x + 128).tdiv 2 := Int.tdiv_nonneg (by omega) (by decide)
    exact ⟨Int.tmod_nonneg _ this, Int.tmod_lt_of_pos _ (by omega)⟩
  have b : 0 ≤ (x + 128).tdiv 2 ∧ (x + 128).tdiv 2 ≤ x + 128 := ⟨Int.tdiv_nonneg (by omega) (by decide), by have := Int.tdiv_le_self (b := 2) (show 0 ≤ x + 128 by omega); omega⟩
  rw [wrap64 (n := x) (by omega) (by omega), wrap64 (n := x + 128) (by omega) (by omega), wrap64 (n := (x + 128).tdiv 2) (by omega) (by omega), wrap64 (n := 1 + _) (by omega) (by omega)]
  refine vreq_t (by rw [eqI_f (by omega)]; rfl) (vcond_split (fun hh => ?_) fun hh => ?_)
  · rw [wrap64 (by omega) (by omega)]
    refine ⟨?_, rfl⟩
    unfold litP
    rw [if_pos (eq_of_t hh)]; congr 1; omega
  · refine ⟨?_, rfl⟩
    unfold litP
    rw [if_neg (ne_of_f hh)]
theorem ct75 {x y : Int} (hx : Lit x) (hy : Lit y) (h : Hp) : EvT O 75 [.int .i64 x, .int .i64 y] h (.int .i64 ((x.natAbs : Int) - (y.natAbs : Int))) h := by
  refine EvC.of_ret (rk75 _ _ (hO _ _ _ (by decide)) ?_)
  unfold T75
  have := hx.2; have := hy.2
  rw [max_neg (by omega) (by omega), max_neg (by omega) (by omega)]
  have e : ∀ z : Int, (if z < 0 then -z else z) = (z.natAbs : Int) := fun z => by split <;> omega
  rw [e, e, wrap64 (by omega) (by omega)]
  exact ⟨rfl, rfl⟩
theorem cmp75 : CmpOk O 75 (fun x => (x.natAbs : Int)) Lit := fun _ _ h hx hy => ct75 hO hx hy h
end
/-- Of each variable the first literal. -/
def firstF : List Int → List Int → List Int
  | [], acc => acc
  | x :: xs, acc => if x ∈ acc ∨ -x ∈ acc then firstF xs acc else firstF xs (acc ++ [x])
def ins (x : Int) : List Int → List Int
  | [] => [x]
  | y :: l => if x.natAbs < y.natAbs then x :: y :: l else y :: ins x l
def isrt : List Int → List Int
  | [] => []
  | x :: l => ins x (isrt l)
/-- The clause of some literals. -/
def clauseN (l : List Int) : List Int := isrt (firstF l [])
end Go.Proofs.YtfgfhplgnfbaaaaDoor
/- Contracts of layer 20: clauses of literals by numbers. -/
namespace Go.Proofs.YtfgfhplgnfbaaaaDoor
open Go Go.Ev
theorem ins_perm (x : Int) : ∀ l : List Int, (ins x l).Perm (x :: l) := by
  intro l
  induction l with
  | nil => exact .refl _
  | cons y l ih =>
    simp only [ins]
    split
    · exact .refl _
    · exact ((List.Perm.cons y ih)).trans (.swap x y l)
theorem isrt_perm : ∀ l : List Int, (isrt l).Perm l := by
  intro l
  induction l with
  | nil => exact .refl _
  | cons x l ih => exact (ins_perm x _).trans (ih.cons x)
theorem ins_dif {x : Int} : ∀ {l : List Int}, Dif l → (∀ y ∈ l, y.natAbs ≠ x.natAbs) → Dif (ins x l) := by
  intro l
  induction l with
  | nil => intro _ _; exact List.pairwise_singleton ..
  | cons y l ih =>
    intro h hn
    obtain ⟨h1, h2⟩ := List.pairwise_cons.1 h
    simp only [ins]
    split
    · rename_i hlt
      refine List.pairwise_cons.2 ⟨fun z hz => ?_, h⟩
      rcases List.mem_cons.1 hz with rfl | hz
      · exact hlt
      · have := h1 z hz; omega
    · rename_i hlt
      refine List.pairwise_cons.2 ⟨fun z hz => ?_, ih h2 fun z hz => hn z (List.mem_cons_of_mem _ hz)⟩
      have := hn y (List.mem_cons_self ..)
      rcases List.mem_cons.1 ((ins_perm x l).subset hz) with rfl | hz
      · omega
      · exact h1 z hz
/-- No variable twice. -/
def Nod (l : List Int) : Prop := l.Pairwise fun x y => x.natAbs ≠ y.natAbs
theorem isrt_dif : ∀ {l : List Int}, Nod l → Dif (isrt l) := by
  intro l
  induction l with
  | nil => intro _; exact List.Pairwise.nil
  | cons x l ih =>
    intro h
    obtain ⟨h1, h2⟩ := List.pairwise_cons.1 h
    exact ins_dif (ih h2) fun y hy => fun e => h1 y ((isrt_perm l).subset hy) e.symm
theorem dif_eq : ∀ {l l' : List Int}, Dif l → Dif l' → l.Perm l' → l = l' := by
  intro l
  induction l with
  | nil => intro l' _ _ h; exact (List.nil_perm.1 h).symm
  | cons x l ih =>
    intro l' h h' p
    cases l' with
    | nil => exact (List.nil_perm.1 p.symm)
    | cons y l' =>
      obtain ⟨h1, h2⟩ := List.pairwise_cons.1 h
      obtain ⟨h3, h4⟩ := List.pairwise_cons.1 h'
      have e : x = y := by
        rcases List.mem_cons.1 (p.subset (List.mem_cons_self ..)) with e | hx
        · exact e
        rcases List.mem_cons.1 (p.symm.subset (List.mem_cons_self ..)) with e | hy
        · exact e.symm
        have := h1 y hy; have := h3 x hx; omega
      subst e
      rw [ih h2 h4 (List.Perm.cons_inv p)]
theorem Nod.perm {l l' : List Int} (h : Nod l) (p : l.Perm l') : Nod l' := (p.pairwise_iff fun h => Ne.symm h).1 h
/-- What is sorted by variables, none twice, is the sorted list. -/
theorem srt_eq {l l' : List Int} (hn : Nod l) (p : l'.Perm l) (s : l'.Pairwise fun x y => (x.natAbs : Int) ≤ (y.natAbs : Int)) : l' = isrt l := by
  refine dif_eq ?_ (isrt_dif hn) (p.trans (isrt_perm l).symm)
  have := List.Pairwise.and s (hn.perm p.symm)
  exact this.imp fun h => by omega
theorem firstF_nod : ∀ {xs acc : List Int}, Nod acc → Nod (firstF xs acc) := by
  intro xs
  induction xs with
  | nil => intro acc h; exact h
  | cons x xs ih =>
    intro acc h
    simp only [firstF]
    split
    · exact ih h
    · rename_i hc
      refine ih (List.pairwise_append.2 ⟨h, List.pairwise_singleton .., fun y hy z hz e => hc ?_⟩)
      obtain rfl := List.mem_singleton.1 hz
      have : y = z ∨ y = -z := by omega
      rcases this with rfl | rfl
      · exact .inl hy
      · exact .inr hy
theorem firstF_mem {P : Int → Prop} : ∀ {xs acc : List Int}, (∀ x ∈ xs, P x) → (∀ x ∈ acc, P x) → ∀ x ∈ firstF xs acc, P x := by
  intro xs
  induction xs with
  | nil => intro acc _ h; exact h
  | cons x xs ih =>
    intro acc h ha
    simp only [firstF]
    split
    · exact ih (fun y hy => h y (List.mem_cons_of_mem _ hy)) ha
    · refine ih (fun y hy => h y (List.mem_cons_of_mem _ hy)) fun y hy => ?_
      rcases List.mem_append.1 hy with hy | hy
      · exact ha y hy
      · obtain rfl := List.mem_singleton.1 hy; exact h _ (List.mem_cons_self ..)
theorem firstF_len : ∀ {xs acc : List Int}, (firstF xs acc).length ≤ acc.length + xs.length := by
  intro xs
  induction xs with
  | nil => intro acc; exact Nat.le_refl _
  | cons x xs ih =>
    intro acc
    simp only [firstF]
    split
    · have := ih (acc := acc); simp only [List.length_cons]; omega
    · have := ih (acc := acc ++ [x]); simp at this ⊢; omega
theorem clauseN_dif (l : List Int) : Dif (clauseN l) := isrt_dif (firstF_nod List.Pairwise.nil)
theorem clauseN_mem {l : List Int} {P : Int → Prop} (h : ∀ x ∈ l, P x) : ∀ x ∈ clauseN l, P x := fun x hx => firstF_mem h (fun _ hx => by cases hx) x ((isrt_perm _).subset hx)
theorem clauseN_len (l : List Int) : (clauseN l).length ≤ l.length := by
  have : (clauseN l).length = (firstF l []).length := (isrt_perm _).length_eq
  have := firstF_len (xs := l) (acc := [])
  simp at this; omega
section
variable {O : CallF} (hO : Oth O)
include hO
theorem ct74n (c g : Nat) (h : Hp) : Ret Tryd.prog O 74 [.slice none 0 c, .func (.func g) #[] #[]] h fun v h' => v = undef ∧ Kp h.nx h h' := by
  refine rk74 _ _ _ _ _ _ (hO _ _ _ (by decide)) ?_
  unfold T74
  refine ⟨_, _, ct116 hO (n := 0) (by omega) h, ?_⟩
  have r : Ret Tryd.prog O 115 [.slice none 0 c, .int .i64 0, .int .i64 (Int.ofNat 0), .int .i64 (wrapF .i64 (0 + wrapF .i64 (byteI lenT 0))), .func (.func g) #[] #[]] h fun v h' => v = undef ∧ Kp h.nx h h' := by
    refine rk115 _ _ _ _ _ _ _ _ _ (hO _ _ _ (by decide)) ?_
    unfold T115
    refine I115_0.of _ _ _ _ _ _ _ _ _ _ _ _ _ _ _ _ _ ?_
    unfold T115_0
    refine vcond_t (by rfl) ?_
    have r2 : Ret Tryd.prog O 127 [.slice none 0 c, .int .i64 0, .int .i64 (Int.ofNat 0), .func (.func g) #[] #[]] h fun v h' => v = undef ∧ Kp h.nx h h' := by
      refine rk127 _ _ _ _ _ _ _ _ (hO _ _ _ (by decide)) ?_
      unfold T127
      refine I127_0.of _ _ _ _ _ _ _ _ _ _ _ _ ?_
      unfold T127_0
      exact vcond_f (by rfl) ⟨rfl, .refl _ _⟩
    exact r2.u fun h' p => ⟨rfl, p⟩
  exact r.u fun h' p => ⟨rfl, p⟩
omit hO in
/-- A list of its own, that is none where it is empty. -/
def RIntsN (h : Hp) (xs : List Int) (a : Option Addr) (n _c : Nat) (h' : Hp) : Prop := IntsAt h' a n xs ∧ Kp h.nx h h' ∧ (∀ b off, a = some ⟨b, off, none⟩ → h.nx ≤ b) ∧ (xs = [] → a = none)
theorem lp19 {h₀ : Hp} (ok : h₀.Ok) {a0 : Option Addr} {n0 c0 : Nat} {xs : List Int} (X : IntsAt h₀ a0 n0 xs) (hl : xs.length ≤ 12) (hx : ∀ x ∈ xs, Lit x) :
    ∀ (d k : Nat), k + d = xs.length → ∀ {h : Hp} {a n c} {acc : List Int}, Kp h₀.nx h₀ h → AccI 3 h h₀.nx a n c acc → acc.length ≤ k → (∀ x ∈ acc, Lit x) → Nod acc → (acc = [] → a = none) → firstF (xs.drop k) acc = firstF xs [] →
      I19_0 O (fun v h' => ∃ a n c, v = .slice a n c ∧ RIntsN h₀ (clauseN xs) a n c h') a0 n0 c0 a n c (Int.ofNat k) h := by
  have hn := X.1
  intro d
  induction d with
  | zero =>
    intro k hk h a n c acc kp A hal ha hnd hz he
    refine I19_0.of _ _ _ _ _ _ _ ?_
    unfold T19_0
    rw [List.drop_of_length_le (by omega)] at he
    have he : acc = firstF xs [] := he
    have eq : clauseN xs = isrt acc := by rw [clauseN, he]
    rw [eq]
    refine vcond_f (by rw [ltI_nat]; exact blt_f (by omega)) ?_
    have hnn : n = acc.length := A.ints.1
    have A' := A
    rcases A with ⟨rfl, rfl, rfl, h4⟩ | ⟨o, rfl, rfl, h3, h4, h5, h6⟩
    · have : acc = [] := by simpa using h4
      subst this
      exact (ct74n hO 0 75 h).u fun h' k => ⟨_, _, _, rfl, SlAt.nil .., kp.trans (k.le kp.nx), fun b off e => (by cases e), fun _ => rfl⟩
    · subst hnn
      refine (ct74g hO (cmp75 hO) (m := .grow) (by decide) (b := o) (c := unk) (fun q hq => ?_) (by omega) ha ⟨h5, h6⟩).u fun h' ⟨l', p, s, R, K⟩ => ?_
      · rw [kp.gd] at hq; have := ok.gd q hq; omega
      · obtain rfl := srt_eq hnd p s
        refine ⟨_, _, _, rfl, ?_, kp.trans (K.kp h4 kp.nx), fun b off e => ?_, fun e => ?_⟩
        · have := R.ints
          rw [p.length_eq] at this; exact this
        · injection e with e; injection e with e _; omega
        · rw [e] at p
          exact hz (List.nil_perm.1 p)
  | succ d ih =>
    intro k hk h a n c acc kp A hal ha hnd hz he
    refine I19_0.of _ _ _ _ _ _ _ ?_
    unfold T19_0
    have hkl : k < xs.length := by omega
    rw [List.drop_eq_getElem_cons hkl] at he
    simp only [firstF] at he
    have hxk := hx _ (List.getElem_mem hkl)
    have neg : wrapF .i64 (0 - xs[k]) = -xs[k] := by have := hxk.2; rw [wrap64] <;> omega
    have := kp.ex (Nat.le_refl _)
    refine vcond_t (by rw [ltI_nat]; exact blt_t (by omega)) (isNat_i (X.rd hkl ⟨_, _, ct62 hO _ A.ints (by omega), vcond_split (fun h1 => ?_) fun h1 => ?_⟩))
    · have h1 : xs[k] ∉ acc := by simpa using h1
      rw [neg]
      refine ⟨_, _, ct62 hO _ A.ints (by omega), vcond_split (fun h2 => ?_) fun h2 => ?_⟩
      · have h2 : -xs[k] ∉ acc := by simpa using h2
        rw [if_neg (by simp [h1, h2])] at he
        rw [wrap_succ (by omega)]
        refine appI app32 A kp.nx (GdLt.kp ok.lt kp) (by omega) fun a' n' c' h' A' _ kA => ih (k + 1) (by omega) (kp.trans kA) A' (by simp; omega) (fun x hx => ?_) ?_ ?_ he
        · rcases List.mem_append.1 hx with hx | hx
          · exact ha x hx
          · obtain rfl := List.mem_singleton.1 hx; exact hxk
        · refine List.pairwise_append.2 ⟨hnd, List.pairwise_singleton .., fun y hy z hz e => ?_⟩
          obtain rfl := List.mem_singleton.1 hz
          have : y = xs[k] ∨ y = -xs[k] := by omega
          rcases this with rfl | rfl
          · exact h1 hy
          · exact h2 hy
        · exact fun e => absurd e (by simp)
      · have h2 : -xs[k] ∈ acc := by simpa using h2
        rw [if_pos (.inr h2)] at he
        rw [wrap_succ (by omega)]
        exact ih (k + 1) (by omega) kp A (by omega) ha hnd hz he
    · have h1 : xs[k] ∈ acc := by simpa using h1
      rw [if_pos (.inl h1)] at he
      rw [wrap_succ (by omega)]
      exact ih (k + 1) (by omega) kp A (by omega) ha hnd hz he
theorem ct19 {h : Hp} (ok : h.Ok) {a0 : Option Addr} {n0 c0 : Nat} {xs : List Int} (X : IntsAt h a0 n0 xs) (hl : xs.length ≤ 12) (hx : ∀ x ∈ xs, Lit x) : Ret Tryd.prog O 19 [.slice a0 n0 c0] h fun v h' => ∃ a n c, v = .slice a n c ∧ RIntsN h (clauseN xs) a n c h' := by
  refine rk19 _ _ _ (hO _ _ _ (by decide)) ?_
  unfold T19
  exact lp19 hO ok X hl hx xs.length 0 (by omega) (.refl _ _) (AccI.nil ..) (by simp) (fun _ h => by cases h) List.Pairwise.nil (fun _ => rfl) rfl
end
end Go.Proofs.YtfgfhplgnfbaaaaDoor
/- Contracts of layer 20: all truths are tried. -/
namespace Go.Proofs.YtfgfhplgnfbaaaaDoor
open Go Go.Ev
theorem shr64 (m : Nat) {k : Nat} (hk : k < 64) : shrF .i64 (Int.ofNat m) k = Int.ofNat (m / 2 ^ k) := by
  unfold shrF
  rw [show min k IntKind.i64.bits = k from Nat.min_eq_left (show k ≤ 64 by omega)]
  show Int.fdiv (m : Int) (2 ^ k) = _
  rw [show ((2 : Int) ^ k) = ((2 ^ k : Nat) : Int) by simp, Int.fdiv_eq_ediv_of_nonneg _ (Int.natCast_nonneg _)]
  simp
theorem shl64 {a k : Nat} (hk : k < 64) (h : a * 2 ^ k < 9223372036854775808) : shlF .i64 (Int.ofNat a) k = Int.ofNat (a * 2 ^ k) := by
  unfold shlF
  rw [show min k IntKind.i64.bits = k from Nat.min_eq_left (show k ≤ 64 by omega), ← wrapF_eq]
  have e : (Int.ofNat a) * 2 ^ k = ((a * 2 ^ k : Nat) : Int) := by simp
  rw [e, wrap64 (by omega) (by omega)]; rfl
theorem and_one (a : Nat) : landI (Int.ofNat a) 1 = Int.ofNat (a % 2) := by
  show Int.ofNat (a &&& 1) = _
  rw [Nat.and_one_is_mod]
theorem bit_eq (m k : Nat) : m / 2 ^ k % 2 = (m.testBit k).toNat := by
  rw [Nat.testBit_eq_decide_div_mod_eq]
  have := Nat.mod_two_eq_zero_or_one (m / 2 ^ k)
  rcases this with h | h <;> simp [h]
/-- Is a literal true, with truths as the digits of a number? -/
def isB (m : Nat) (x : Int) : Bool := if x < 0 then !m.testBit (x.natAbs - 1) else m.testBit (x.natAbs - 1)
/-- A number whose digits stand the other way round. -/
def bitsF (n k : Nat) : Nat → Nat
  | 0 => 0
  | v + 1 => bitsF n k v ||| ((k / 2 ^ (n - 1 - v) % 2) * 2 ^ v)
theorem bitsF_lt (n k : Nat) : ∀ v, bitsF n k v < 2 ^ v := by
  intro v
  induction v with
  | zero => exact Nat.one_pos
  | succ v ih =>
    refine Nat.or_lt_two_pow (Nat.lt_trans ih (two_pow_lt_succ v)) ?_
    have := Nat.mod_lt (k / 2 ^ (n - 1 - v)) (y := 2) (by decide)
    rw [Nat.pow_succ, Nat.mul_comm (2 ^ v) 2]
    exact Nat.mul_lt_mul_of_pos_right this (Nat.two_pow_pos v)
/-- Are truths a model of clauses, with given literals? -/
def satM (cls : List (List Int)) (gs : List Int) (m : Nat) : Bool := gs.all (isB m) && cls.all fun c => c.any (isB m)
def modelsN (n : Nat) (cls : List (List Int)) (gs : List Int) : List Nat := ((List.range (2 ^ n)).map fun k => bitsF n k n).filter (satM cls gs)
/-- A predicate of a function's value. -/
def FnB (O : CallF) (g : Nat) (fi ca : Array Value) (h : Hp) (φ : Int → Bool) (xs : List Int) : Prop := ∀ x ∈ xs, EvT O g (fi.toList ++ [.int .i64 x] ++ ca.toList) h (.bool (φ x)) h
section
variable {O : CallF} (hO : Oth O)
include hO
theorem ct66 {m : Nat} (hm : m < 9223372036854775808) {x : Int} (hx : Lit x) (h : Hp) : EvT O 66 [.int .i64 (Int.ofNat m), .int .i64 x] h (.bool (isB m x)) h := by
  refine EvC.of_ret (rk66 _ _ (hO _ _ _ (by decide)) ?_)
  unfold T66 isB
  have := hx.1; have := hx.2
  have lt : m / 2 ^ (x.natAbs - 1) < 9223372036854775808 := Nat.lt_of_le_of_lt (Nat.div_le_self ..) hm
  by_cases hx0 : x < 0
  · rw [if_pos hx0]
    have e : wrapF .i64 (wrapF .i64 (0 - x) - 1) = Int.ofNat (x.natAbs - 1) := by
      rw [wrap64 (n := 0 - x) (by omega) (by omega), wrap64 (by omega) (by omega)]; simp only [Int.ofNat_eq_natCast]; omega
    rw [e, show (Int.ofNat (x.natAbs - 1)).toNat = x.natAbs - 1 from rfl, shr64 m (k := x.natAbs - 1) (by omega), and_one, bit_eq]
    refine vcond_t (ltI_t hx0) (vreq_t rfl (vreq_t (inD_of lt) ⟨?_, rfl⟩))
    cases m.testBit (x.natAbs - 1) <;> rfl
  · rw [if_neg hx0]
    have e : wrapF .i64 (x - 1) = Int.ofNat (x.natAbs - 1) := by
      rw [wrap64 (by omega) (by omega)]; simp only [Int.ofNat_eq_natCast]; omega
    rw [e, show (Int.ofNat (x.natAbs - 1)).toNat = x.natAbs - 1 from rfl, shr64 m (k := x.natAbs - 1) (by omega), and_one, bit_eq]
    refine vcond_f (ltI_f hx0) (vreq_t rfl (vreq_t (inD_of lt) ⟨?_, rfl⟩))
    cases m.testBit (x.natAbs - 1) <;> rfl
theorem ct111 {m : Nat} (hm : m < 9223372036854775808) {x : Int} (hx : Lit x) {b f : Nat} {h : Hp} (hr : readAt h b f 1 = some [.int .i64 (Int.ofNat m)]) : EvT O 111 [.int .i64 x, .pointer (some ⟨b, f, none⟩)] h (.bool (!(isB m x))) h := by
  refine EvC.of_ret (rk111 _ _ _ (hO _ _ _ (by decide)) ?_)
  unfold T111
  exact ⟨_, hr, _, _, ct66 hO hm hx h, rfl, rfl⟩
theorem ct112 {m : Nat} (hm : m < 9223372036854775808) {x : Int} (hx : Lit x) {b f : Nat} {h : Hp} (hr : readAt h b f 1 = some [.int .i64 (Int.ofNat m)]) : EvT O 112 [.int .i64 x, .pointer (some ⟨b, f, none⟩)] h (.bool (isB m x)) h := by
  refine EvC.of_ret (rk112 _ _ _ (hO _ _ _ (by decide)) ?_)
  unfold T112
  exact ⟨_, hr, _, _, ct66 hO hm hx h, rfl, rfl⟩
theorem lp113 {a : Option Addr} {n c : Nat} {xs : List Int} {h : Hp} (X : IntsAt h a n xs) (hl : xs.length < 1000000) {g : Nat} {fi ca : Array Value} {φ : Int → Bool} (F : FnB O g fi ca h φ xs) {Q : Value → Hp → Prop} {x4 : Int} {g1 : Nat} {fi1 ca1 : Array Value} :
    ∀ (d k : Nat), k + d = xs.length → (∀ z : Int, (ltI z 0 = !((xs.drop k).any φ)) → Q (.int .i64 z) h) → I113_0 O Q a n c g1 fi1 ca1 g fi ca x4 (Int.ofNat k) h := by
  have _ := hO
  have hn := X.1
  intro d
  induction d with
  | zero =>
    intro k hk hQ
    refine I113_0.of _ _ _ _ _ _ _ _ _ _ _ ?_
    unfold T113_0
    exact vcond_f (by rw [ltI_nat]; exact blt_f (by omega)) (hQ _ (by rw [List.drop_of_length_le (by omega)]; rfl))
  | succ d ih =>
    intro k hk hQ
    refine I113_0.of _ _ _ _ _ _ _ _ _ _ _ ?_
    unfold T113_0
    have hkl : k < xs.length := by omega
    rw [List.drop_eq_getElem_cons hkl] at hQ
    refine vcond_t (by rw [ltI_nat]; exact blt_t (by omega)) (isNat_i (X.rd hkl ⟨_, _, F _ (List.getElem_mem hkl), vcond_split (fun h1 => ?_) fun h1 => ?_⟩))
    · exact hQ _ (by rw [List.any_cons, h1]; rfl)
    · rw [wrap_succ (by omega)]
      exact ih (k + 1) (by omega) fun z hz => hQ z (by rw [List.any_cons, h1]; exact hz)
theorem ct64 {a : Option Addr} {n c : Nat} {xs : List Int} {h : Hp} (X : IntsAt h a n xs) (hl : xs.length < 1000000) {g : Nat} {fi ca : Array Value} {φ : Int → Bool} (F : FnB O g fi ca h φ xs) : EvT O 64 [.slice a n c, .func (.func g) fi ca] h (.bool (xs.any φ)) h := by
  refine EvC.of_ret (rk64 _ _ _ _ _ _ (hO _ _ _ (by decide)) ?_)
  unfold T64
  have r : Ret Tryd.prog O 113 [.slice a n c, .func (.func g) fi ca] h fun v h' => ∃ z, v = .int .i64 z ∧ ltI z 0 = (!(xs.any φ)) ∧ h' = h := by
    refine rk113 _ _ _ _ _ _ (hO _ _ _ (by decide)) ?_
    unfold T113
    exact lp113 hO X hl F xs.length 0 (by omega) fun z hz => ⟨z, rfl, hz, rfl⟩
  refine r.i fun z h' ⟨hz, e⟩ => ⟨?_, e⟩
  rw [hz, Bool.not_not]
end
end Go.Proofs.YtfgfhplgnfbaaaaDoor
/- Contract of layer 20: a proof is accepted, or not. -/
namespace Go.Proofs.YtfgfhplgnfbaaaaDoor
open Go Go.Ev
/-- The first line from which propagation of its contraries does not clash. -/
def accF (gs : List Int) : List (List Int) → List (List Int) → Nat → Option Nat
  | _, [], _ => none
  | cls, l :: ls, i => if (fromN (cls.map sideN) (gs ++ l.map fun x => -x)).2 = true then some i else accF gs (cls ++ [l]) ls (i + 1)
/-- The answer at a proof's end. -/
def endA (pf : List (List Int)) : Int × Int := if pf.length = 0 then (0, 5) else if 0 < (pf.getD (pf.length - 1) []).length then (0, 5) else (0, 0)
def outA (o : Option Nat) (e : Int × Int) : Int × Int := match o with
  | some i => (Int.ofNat i, 7)
  | none => e
/-- Is a proof accepted? The line, and the error. -/
def acceptP (vars : Int) (cls : List (List Int)) (gs : List Int) (pf : List (List Int)) : Int × Int :=
  if askB vars cls gs = false then (0, 2) else if pf.all (clB vars 0) = false then (0, 2) else if 2000 < pf.length then (0, 3) else outA (accF gs cls pf 0) (endA pf)
section
variable {O : CallF} (hO : Oth O)
include hO
theorem lp41_1 {a1 a2 : Option Addr} {n1 c1 n2 c2 : Nat} {vars : Int} {h₀ : Hp} {gs : List Int} {pf : List (List Int)} (ok : h₀.Ok) (G : IntsAt h₀ a1 n1 gs) (hgl : gs.length < 1000) (hg : ∀ x ∈ gs, Lit x) (F : IntssAt h₀ a2 n2 pf) (hfl : pf.length < 10000) (hfll : ∀ l ∈ pf, l.length < 50) (hflit : ∀ l ∈ pf, (∀ x ∈ l, Lit x) ∧ Dif l) {b : Nat} (hb : h₀.nx ≤ b) {x0 : Int} {a0 : Option Addr} {n0 c0 : Nat} {R : Int × Int} :
    ∀ (d k : Nat), k + d = pf.length → ∀ {cls : List (List Int)} {h : Hp} {a6 : Option Addr} {n6 c6 : Nat}, (∀ l ∈ cls, ∀ x ∈ l, Lit x) → cls.length < 10000 + k → Kp h₀.nx h₀ h → b < h.nx → h.get b = some (.cells (baseC vars a6 n6 c6 a1 n1 c1 2000 none 0 0) 128 .fix) → Acc h (b + 1) 130 2 a6 n6 c6 ((cls.map sideN).flatMap uu) → n6 = cls.length → R = outA (accF gs cls (pf.drop k) k) (endA pf) →
      I41_1 O (fun v h' => v = .tuple #[.int .i64 R.1, .int .i64 R.2] ∧ Kp h₀.nx h₀ h') x0 a0 n0 c0 a1 n1 c1 a2 n2 c2 0 0 (some ⟨b, 0, none⟩) (Int.ofNat k) h := by
  have hn := F.1
  intro d
  induction d with
  | zero =>
    intro k hk cls h a6 n6 c6 hcl hcn kp hnx gb A hn6 hr
    refine I41_1.of _ _ _ _ _ _ _ _ _ _ _ _ _ _ ?_
    intros
    unfold T41_1
    rw [List.drop_of_length_le (by omega)] at hr
    have hr : R = endA pf := hr
    subst hr
    unfold endA
    refine vcond_f (by rw [ltI_nat]; exact blt_f (by omega)) (vcond_split (fun h1 => ?_) fun h1 => ?_)
    · have h1 : n2 = 0 := Int.ofNat.inj (eq_of_t h1)
      rw [if_pos (by omega)]; exact ⟨rfl, kp⟩
    · have h1 : n2 ≠ 0 := fun hh => ne_of_f h1 (by rw [hh]; rfl)
      have e1 : wrapF .i64 (Int.ofNat n2 - 1) = Int.ofNat (pf.length - 1) := by rw [wrap64] <;> simp only [Int.ofNat_eq_natCast] <;> omega
      have hgd : pf.getD (pf.length - 1) [] = pf[pf.length - 1]'(by omega) := by rw [List.getD_eq_getElem?_getD, List.getElem?_eq_getElem (by omega)]; rfl
      rw [e1, if_neg (by omega), hgd]
      refine isNat_of (F.get (k := pf.length - 1) (by omega) fun b' off a' n' c' _ hlt hrd Y => vreq_t (blt_t (by omega)) ⟨_, _, _, by rw [readAt_kp kp hlt]; exact hrd, ?_⟩)
      have hy := Y.1
      refine vcond_split (fun h2 => ?_) fun h2 => ?_
      · have h2 := lt_of_t h2
        simp only [Int.ofNat_eq_natCast] at h2
        rw [if_pos (by omega)]; exact ⟨rfl, kp⟩
      · have h2 := not_lt_of_f h2
        simp only [Int.ofNat_eq_natCast] at h2
        rw [if_neg (by omega)]; exact ⟨rfl, kp⟩
  | succ d ih =>
    intro k hk cls h a6 n6 c6 hcl hcn kp hnx gb A hn6 hr
    refine I41_1.of _ _ _ _ _ _ _ _ _ _ _ _ _ _ ?_
    intros
    unfold T41_1
    have e0 : pf.drop k = pf[k] :: pf.drop (k + 1) := List.drop_eq_getElem_cons (by omega)
    rw [e0] at hr
    simp only [accF] at hr
    have hm : pf[k] ∈ pf := List.getElem_mem _
    obtain ⟨hlk, hdk⟩ := hflit _ hm
    have hlen := hfll _ hm
    refine vcond_t (by rw [ltI_nat]; exact blt_t (by omega)) (isNat_of (F.get (k := k) (by omega) fun b' off a' n' c' _ hlt hrd Y => vreq_t (blt_t (by omega)) ⟨_, _, _, by rw [readAt_kp kp hlt]; exact hrd, ?_⟩))
    obtain ⟨v1, g1, e1, q1, q2, q3, rfl, X1, KA, _⟩ := ct96 hO (ok.kp kp) (Y.up EInt.up kp) hlen hlk hdk (c0 := c')
    have kp1 := kp.trans (KA.le kp.nx)
    have gb1 : g1.get b = some (.cells (baseC vars a6 n6 c6 a1 n1 c1 2000 none 0 0) 128 .fix) := by rw [KA.get _ hnx]; exact gb
    have A1 : Acc g1 (b + 1) 130 2 a6 n6 c6 ((cls.map sideN).flatMap uu) := A.kp KA (Nat.le_refl _)
    have hnx1 : b < g1.nx := Nat.lt_of_lt_of_le hnx KA.nx
    obtain ⟨v2, g2, e2, rfl, KB⟩ := ct95 hO (ok.kp kp1) gb1 hnx1 (A1.slAt uu_len (by decide)) (by simp; omega) (sides_lt hO hcl) (G.up EInt.up kp1) (by omega) hg X1 (by simp; omega) (lit_neg hlk) (cm := q3)
    have kp2 := kp1.trans (KB.le kp1.nx)
    refine ⟨_, _, _, _, e1, _, _, e2, ?_⟩
    by_cases hcalm : (fromN (cls.map sideN) (gs ++ pf[k].map fun x => -x)).2 = true
    · rw [if_pos hcalm] at hr
      subst hr
      rw [hcalm]
      exact vcond_t rfl ⟨rfl, kp2⟩
    rw [if_neg hcalm] at hr
    have hcalm : (fromN (cls.map sideN) (gs ++ pf[k].map fun x => -x)).2 = false := by simpa using hcalm
    rw [hcalm]
    refine vcond_f rfl ?_
    have gb2 : g2.get b = some (.cells (baseC vars a6 n6 c6 a1 n1 c1 2000 none 0 0) 128 .fix) := by rw [KB.get _ hnx1]; exact gb1
    have A2 : Acc g2 (b + 1) 130 2 a6 n6 c6 ((cls.map sideN).flatMap uu) := A1.kp KB (Nat.le_refl _)
    have hnx2 : b < g2.nx := Nat.lt_of_lt_of_le hnx1 KB.nx
    have okh : g2.Ok := ok.kp kp2
    have gb3 : (g2.rsv 12).get b = _ := gb2
    have okg : ((g2.rsv 12).grd [b]).Ok := (okh.rsv 12).grd fun q hq => by
      obtain rfl := List.mem_singleton.1 hq; rw [nx_rsv]; omega
    have Y1 : IntsAt ((g2.rsv 12).grd [b]) a' n' pf[k] := (Y.up EInt.up kp2).keep (fun _ _ _ => rfl) (by rw [nx_grd, nx_rsv]; omega) fun _ _ h => h
    obtain ⟨v3, h2', e3, rfl, K2⟩ := ct107 hO hlk (by omega) okg Y1 (c := c')
    refine ⟨_, _, _, read1 gb3 (i := 0 + 1) rfl, _, _, _, e3, ?_⟩
    have K2' : Kp (g2.nx + 12) (g2.rsv 12) (h2'.rst (g2.rsv 12)) := (Kp.refl (g2.nx + 12) (g2.rsv 12)).rst K2
    have K2h : Kp (g2.nx + 12) g2 (h2'.rst (g2.rsv 12)) := (Kp.refl (g2.nx + 12) g2).rsv 12 |>.trans K2'
    refine vreq_t (free_t (by rw [K2h.get _ (by omega)]; exact okh.fr _ (by omega))) ?_
    generalize hg2 : h2'.rst (g2.rsv 12) = g3 at *
    have hnx3 : g2.nx + 12 ≤ g3.nx := K2'.nx
    have K3 : Kp g2.nx g2 (g3.lay (g2.nx + 7) (.cells (uu (sideN pf[k])) 130 .fix)) := (K2h.le (by omega)).lay (by omega) (by omega) _
    have A3 : Acc (g3.lay (g2.nx + 7) (.cells (uu (sideN pf[k])) 130 .fix)) (b + 1) 130 2 a6 n6 c6 ((cls.map sideN).flatMap uu) := A2.kp K3 (Nat.le_refl _)
    have gdh : GdLt (g3.lay (g2.nx + 7) (.cells (uu (sideN pf[k])) 130 .fix)) (b + 1) := fun q hq => by
      have : q ∈ h₀.gd := by rw [← kp2.gd, ← K3.gd]; exact hq
      have := ok.gd q this; omega
    obtain ⟨a9, n9, c9, h4', e4, A4, hn9, k4⟩ := app_enc uu_len uu_one app126 A3 (by rw [nx_lay]; omega) gdh (t := g2.nx + 7) (c2 := 1) (m := .fix) (e2 := 130) (x := sideN pf[k]) (by rw [get_lay, if_pos rfl]) (by omega) (by unfold big; omega)
    refine ⟨a9, n9, c9, h4', e4, ?_⟩
    have ab : ∀ off, a6 ≠ some ⟨b, off, none⟩ := fun off e => by have := A2.fresh e; omega
    have gb4 : h4'.get b = some (.cells (baseC vars a6 n6 c6 a1 n1 c1 2000 none 0 0) 128 .fix) := by
      rw [k4.get _ (by rw [nx_lay]; omega) (ab 0), K3.get _ (by omega)]; exact gb2
    have gb4' : ((h4'.rst (g3.lay (g2.nx + 7) (.cells (uu (sideN pf[k])) 130 .fix))).grd []).get b = some (.cells (baseC vars a6 n6 c6 a1 n1 c1 2000 none 0 0) 128 .fix) := gb4
    have gu : ((h4'.rst (g3.lay (g2.nx + 7) (.cells (uu (sideN pf[k])) 130 .fix))).grd []).guarded b = false := guarded_of fun q hq => by
      have : q ∈ h₀.gd := by rw [← kp2.gd, ← K3.gd]; exact hq
      have := ok.gd q this; omega
    refine vreq_t (canW_t gb4' (by decide) gu (by simp [baseC]) rfl) ?_
    rw [wrap_succ (by omega)]
    have Kf : Kp h₀.nx h₀ ((((h4'.rst (g3.lay (g2.nx + 7) (.cells (uu (sideN pf[k])) 130 .fix))).grd []).wr b (0 + 1) [.slice a9 n9 c9]).rst (h4'.rst (g3.lay (g2.nx + 7) (.cells (uu (sideN pf[k])) 130 .fix)))) := by
      have hk2 := kp2.nx
      have K4 : Kp h₀.nx h₀ h4' := (kp2.trans (K3.le hk2)).trans ((k4.kp A3 (by rw [nx_lay]; omega)).le (by omega))
      refine ⟨fun o ho => ?_, ?_, ?_, fun f => ?_⟩
      · rw [get_rst, wr_get_ne _ _ _ _ (by omega)]; exact K4.get o ho
      · rw [nx_rst, nx_wr]; exact K4.nx
      · rw [gd_rst, gd_rst, gd_lay]
        have := (kp2.trans (K3.le hk2)).gd
        rw [gd_lay] at this; exact this
      · exact (show Hp.Fresh (((h4'.rst (g3.lay (g2.nx + 7) (.cells (uu (sideN pf[k])) 130 .fix))).grd []).wr b (0 + 1) [.slice a9 n9 c9]) from Hp.Fresh.wr (h := (h4'.rst (g3.lay (g2.nx + 7) (.cells (uu (sideN pf[k])) 130 .fix))).grd []) (K4.fr f) _ _ _)
    have hnx4 : (g3.lay (g2.nx + 7) (.cells (uu (sideN pf[k])) 130 .fix)).nx ≤ h4'.nx := k4.nx
    rw [nx_lay] at hnx4
    refine ih (k + 1) (by omega) (cls := cls ++ [pf[k]]) (a6 := a9) (n6 := n9) (c6 := c9) (fun l hl => ?_) (by simp; omega) Kf (by rw [nx_rst, nx_wr, nx_grd, nx_rst]; omega) (by rw [get_rst]; exact (wr_get gb4' (by decide) gu (by simp [baseC]) rfl).trans rfl) ?_ (by simp; omega) hr ..
    · rcases List.mem_append.1 hl with hl | hl
      · exact hcl l hl
      · obtain rfl := List.mem_singleton.1 hl; exact hlk
    rw [List.map_append]
    refine A4.keep (fun o ho e => ?_) (by rw [nx_rst, nx_wr, nx_grd, nx_rst]; omega)
    rw [get_rst, wr_get_ne _ _ _ _ (by have := A4.fresh e; omega)]; rfl
theorem lp41_0 {a a1 a2 : Option Addr} {n c n1 c1 n2 c2 : Nat} {vars : Int} {h₀ : Hp} {cls : List (List Int)} {gs : List Int} {pf : List (List Int)} (ok : h₀.Ok) (H : IntssAt h₀ a n cls) (hll : ∀ l ∈ cls, l.length < 1000000) (hf : formB vars cls = true) (G : IntsAt h₀ a1 n1 gs) (hgl : gs.length < 1000) (hg : ∀ x ∈ gs, Lit x) (F : IntssAt h₀ a2 n2 pf) (hfl : pf.length < 10000) (hfll : ∀ l ∈ pf, l.length < 50) {x0 : Int} {a0 : Option Addr} {n0 c0 : Nat} {b : Nat} (hb : h₀.nx ≤ b) {R : Int × Int} :
    ∀ (d k : Nat), k + d = pf.length → ∀ {h : Hp}, Kp h₀.nx h₀ h → b < h.nx → h.get b = some (.cells [.int .i64 vars, .slice a n c] 30 .fix) → (∀ l ∈ pf.take k, clB vars 0 l = true) → R = (if (pf.drop k).all (clB vars 0) = false then (0, 2) else if 2000 < pf.length then (0, 3) else outA (accF gs cls pf 0) (endA pf)) →
      I41_0 O (fun v h' => v = .tuple #[.int .i64 R.1, .int .i64 R.2] ∧ Kp h₀.nx h₀ h') x0 a0 n0 c0 a1 n1 c1 a2 n2 c2 b 0 0 0 (Int.ofNat k) h := by
  have hn := F.1
  obtain ⟨f1, f2, f3, f4, f5⟩ := formB_lit hO hf
  intro d
  induction d with
  | zero =>
    intro k hk h kp hnx gb hc hr
    refine I41_0.of _ _ _ _ _ _ _ _ _ _ _ _ _ _ _ ?_
    intros
    unfold T41_0
    rw [List.drop_of_length_le (by omega), if_neg (by simp)] at hr
    rw [List.take_of_length_le (by omega)] at hc
    refine vcond_f (by rw [ltI_nat]; exact blt_f (by omega)) (vcond_split (fun h1 => ?_) fun h1 => ?_)
    · have h1 := lt_of_t h1
      simp only [Int.ofNat_eq_natCast] at h1
      rw [if_pos (by omega)] at hr
      subst hr; exact ⟨rfl, kp⟩
    · have h1 := not_lt_of_f h1
      simp only [Int.ofNat_eq_natCast] at h1
      rw [if_neg (by omega)] at hr
      obtain ⟨v1, h2, e2, b', a6, n6, c6, rfl, z1, z2, z3, z4, z5⟩ := ct76 hO (vars := vars) (ok.kp kp) (H.up EInts.up kp) (by omega) hll f4 (c := c) (a1 := a1) (n1 := n1) (c1 := c1)
      have k2 := kp.trans (z5.le kp.nx)
      have hn6 : n6 = cls.length := by have := (z4.slAt uu_len (by decide)).1; simpa using this
      refine ⟨_, _, _, _, readAt_get gb (by simp), _, _, e2, ?_⟩
      exact lp41_1 hO ok G hgl hg F hfl hfll (fun l hl => ⟨fun x hx => (clB_lit (by decide) (hc l hl) x hx).1, clB_dif (by decide) (hc l hl)⟩) (b := b') (Nat.le_trans kp.nx z1) pf.length 0 (by omega) f4 (by omega) k2 z2 z3 z4 hn6 hr ..
  | succ d ih =>
    intro k hk h kp hnx gb hc hr
    refine I41_0.of _ _ _ _ _ _ _ _ _ _ _ _ _ _ _ ?_
    intros
    unfold T41_0
    have e0 : pf.drop k = pf[k] :: pf.drop (k + 1) := List.drop_eq_getElem_cons (by omega)
    rw [e0, List.all_cons] at hr
    have hm : pf[k] ∈ pf := List.getElem_mem _
    have hlen := hfll _ hm
    refine vcond_t (by rw [ltI_nat]; exact blt_t (by omega)) (isNat_of (F.get (k := k) (by omega) fun b' off a' n' c' _ hlt hrd Y => vreq_t (blt_t (by omega)) ⟨_, _, _, by rw [readAt_kp kp hlt]; exact hrd, _, read1 gb (i := 0 + 0) rfl, _, _, ct87 hO vars (Y.up EInt.up kp) (by omega) (c := c'), vcond_split (fun h1 => ?_) fun h1 => ?_⟩))
    · have h1 : clB vars 0 pf[k] = false := by simpa using h1
      rw [h1, Bool.false_and, if_pos rfl] at hr
      subst hr; exact ⟨rfl, kp⟩
    · have h1 : clB vars 0 pf[k] = true := by simpa using h1
      rw [h1, Bool.true_and] at hr
      rw [wrap_succ (by omega)]
      refine ih (k + 1) (by omega) kp hnx gb (fun l hl => ?_) hr ..
      rw [List.take_succ_eq_append_getElem (by omega)] at hl
      rcases List.mem_append.1 hl with hl | hl
      · exact hc l hl
      · obtain rfl := List.mem_singleton.1 hl; exact h1
theorem ct41 {a a1 a2 : Option Addr} {n c n1 c1 n2 c2 : Nat} {vars : Int} {h : Hp} {cls : List (List Int)} {gs : List Int} {pf : List (List Int)} (ok : h.Ok) (H : IntssAt h a n cls) (hl : cls.length < 1000000) (hll : ∀ l ∈ cls, l.length < 1000000) (G : IntsAt h a1 n1 gs) (hgl : gs.length < 1000) (F : IntssAt h a2 n2 pf) (hfl : pf.length < 10000) (hfll : ∀ l ∈ pf, l.length < 50) :
    Ret Tryd.prog O 41 [Fm vars a n c, .slice a1 n1 c1, .slice a2 n2 c2] h fun v h' => v = .tuple #[.int .i64 (acceptP vars cls gs pf).1, .int .i64 (acceptP vars cls gs pf).2] ∧ Kp h.nx h h' := by
  refine rk41 _ _ _ _ _ _ _ _ _ _ (hO _ _ _ (by decide)) ?_
  unfold T41
  have kp := fm_kp h vars a n c
  have g := fm_get h vars a n c
  obtain ⟨v1, h1, e1, rfl, K1⟩ := ct78 hO (c := c) (vars := vars) (c1 := c1) (H.up EInts.up kp) hl hll (G.up EInt.up kp) (by omega)
  have k1 : Kp h.nx h h1 := kp.trans (K1.le kp.nx)
  have hn1 := K1.nx
  rw [nx_add] at hn1
  have g1 : h1.get h.nx = some (.cells [.int .i64 vars, .slice a n c] 30 .fix) := by rw [K1.get _ (by rw [nx_add]; omega)]; exact g
  unfold acceptP
  cases ha : askB vars cls gs with
  | false => exact ⟨_, _, _, _, readAt_get g (by simp), _, _, e1, vcond_t (by rw [ha]; decide) (by rw [ha, if_pos rfl]; exact ⟨rfl, k1⟩)⟩
  | true =>
    rw [if_neg (by decide)]
    rw [ha] at e1
    have hf : formB vars cls = true := by unfold askB at ha; exact (Bool.and_eq_true _ _ ▸ ha).1
    have hgc : clB vars 0 gs = true := by unfold askB at ha; exact (Bool.and_eq_true _ _ ▸ ha).2
    refine ⟨_, _, _, _, readAt_get g (by simp), _, _, e1, vcond_f (by decide) ?_⟩
    exact lp41_0 hO ok H hll hf G hgl (fun x hx => (clB_lit (by decide) hgc x hx).1) F hfl hfll (Nat.le_refl _) pf.length 0 (by omega) k1 (by omega) g1 (fun l hl => by simp at hl) rfl ..
end
end Go.Proofs.YtfgfhplgnfbaaaaDoor
/- Lists of lists: what is appended of them, and their first ones. -/
namespace Go.Proofs.YtfgfhplgnfbaaaaDoor
open Go Go.Ev
theorem SlAt.take {α : Type} {w : Nat} {R : Enc α} {h : Hp} {a : Option Addr} {n : Nat} {xs : List α} (H : SlAt w R h a n xs) (k : Nat) (hk : k ≤ xs.length) : SlAt w R h a k (xs.take k) := by
  refine ⟨by simp; omega, ?_⟩
  rcases H.2 with ⟨rfl, rfl⟩ | ⟨b, off, c, e, m, rfl, h2, h3, h4, h5⟩
  · exact .inl ⟨by simp, rfl⟩
  · refine .inr ⟨b, off, c, e, m, rfl, h2, h3, ?_, fun i hi => ?_⟩
    · have : (xs.take k).length * w ≤ xs.length * w := Nat.mul_le_mul_right _ (by simp; omega)
      omega
    · have hi2 : i < xs.length := by simp at hi; omega
      have := h5 i hi2
      rw [List.getElem_take]
      exact this
/-- What is appended of a list of lists. -/
theorem intss_src {h : Hp} {a2 : Option Addr} {n2 c2 : Nat} {ys : List (List Int)} (Y : IntssAt h a2 n2 ys) : ∃ vs : List Value, srcCells h 1 (.slice a2 n2 c2) = some (vs, n2) ∧ vs.length = ys.length ∧ ∀ i (hi : i < ys.length), ∃ v, vs[i]? = some v ∧ EInts h ys[i] [v] := by
  have hn2 := Y.1
  rcases Y.2 with ⟨rfl, rfl⟩ | ⟨b, off, cs, e', m, rfl, h2, h3, h4, h5⟩
  · subst hn2; exact ⟨[], rfl, rfl, fun i hi => by simp at hi⟩
  · refine ⟨(cs.drop off).take n2, src_get (by rw [Nat.mul_one, readAt_get h3 (by omega)]), by simp; omega, fun i hi => ?_⟩
    have h7 : EInts h ys[i] ((cs.drop (off + i * 1)).take 1) := h5 i hi
    rw [Nat.mul_one, List.drop_eq_getElem_cons (show off + i < cs.length by omega), List.take_succ_cons, List.take_zero] at h7
    refine ⟨cs[off + i], ?_, h7⟩
    rw [List.getElem?_take, if_pos (by omega), List.getElem?_drop, List.getElem?_eq_getElem (by omega)]
/-- Cells that hold lists. -/
def Lis (h : Hp) (vs : List Value) (xs : List (List Int)) : Prop := vs.length = xs.length ∧ ∀ i (hi : i < xs.length), ∃ v, vs[i]? = some v ∧ EInts h xs[i] [v]
theorem Lis.nil (h : Hp) : Lis h [] [] := ⟨rfl, fun i hi => by simp at hi⟩
theorem Lis.app {h : Hp} {vs ws : List Value} {xs ys : List (List Int)} (A : Lis h vs xs) (B : Lis h ws ys) : Lis h (vs ++ ws) (xs ++ ys) := by
  refine ⟨by simp [A.1, B.1], fun i hi => ?_⟩
  by_cases h1 : i < xs.length
  · obtain ⟨v, e1, e2⟩ := A.2 i h1
    exact ⟨v, by rw [List.getElem?_append_left (by rw [A.1]; exact h1)]; exact e1, by rw [List.getElem_append_left h1]; exact e2⟩
  · obtain ⟨v, e1, e2⟩ := B.2 (i - xs.length) (by simp at hi; omega)
    exact ⟨v, by rw [List.getElem?_append_right (by rw [A.1]; omega), A.1]; exact e1, by rw [List.getElem_append_right (by omega)]; exact e2⟩
theorem Lis.one {h : Hp} {vs : List Value} {xs : List (List Int)} (A : Lis h vs xs) : vs.all one = true := by
  rw [List.all_eq_true]
  intro v hv
  obtain ⟨i, hi, rfl⟩ := List.getElem_of_mem hv
  obtain ⟨w, e1, a, n, c, e2, _⟩ := A.2 i (by rw [← A.1]; exact hi)
  rw [List.getElem?_eq_getElem hi] at e1
  obtain rfl := Option.some.inj e1
  injection e2 with e2 _
  rw [e2]; rfl
theorem AccE.intss {h : Hp} {base : Nat} {e : TypeId} {a : Option Addr} {n c : Nat} {vs : List Value} {xs : List (List Int)} (A : AccE h base e 1 a n c vs) (L : Lis h vs xs) : IntssAt h a n xs := by
  rcases A with (⟨rfl, rfl, rfl, h4⟩ | ⟨o, rfl, rfl, h3, h4, h5, h6⟩) | ⟨h1, h2, h3, o, h4, h5, h6, e2, m, h7⟩
  · have : xs = [] := List.length_eq_zero_iff.1 (by rw [← L.1, h4]; rfl)
    subst this; exact SlAt.nil ..
  · refine ⟨by rw [← L.1]; omega, .inr ⟨o, 0, _, _, _, rfl, h5, h6, by rw [← L.1]; omega, fun i hi => ?_⟩⟩
    obtain ⟨v, e1, e2⟩ := L.2 i hi
    have hv : i < vs.length := by rw [L.1]; exact hi
    rw [List.getElem?_eq_getElem hv] at e1
    have e1 := Option.some.inj e1
    show EInts h xs[i] ((vs.drop (0 + i * 1)).take 1)
    rw [Nat.zero_add, Nat.mul_one, List.drop_eq_getElem_cons hv, List.take_succ_cons, List.take_zero, e1]
    exact e2
  · have : xs = [] := List.length_eq_zero_iff.1 (by rw [← L.1, h1]; rfl)
    subst this h2 h4
    exact ⟨rfl, .inr ⟨o, 0, _, _, _, rfl, h6, h7, by simp, fun i hi => by simp at hi⟩⟩
end Go.Proofs.YtfgfhplgnfbaaaaDoor
/- Contracts of layer 20: all models of a formula; lists cloned. -/
namespace Go.Proofs.YtfgfhplgnfbaaaaDoor
open Go Go.Ev
theorem satM_step (cls : List (List Int)) (m k : Nat) (hk : k < cls.length) (q : Bool) : (q && (cls.drop k).all fun c => c.any (isB m)) = ((q && cls[k].any (isB m)) && (cls.drop (k + 1)).all fun c => c.any (isB m)) := by
  rw [List.drop_eq_getElem_cons hk, List.all_cons, Bool.and_assoc]
section
variable {O : CallF} (hO : Oth O)
include hO
/-- The end of the loop over clauses is told by what goes on from there. -/
theorem lp54c {h₀ hI : Hp} {x0 : Int} {a0 a1 a2 a7 : Option Addr} {n0 c0 n1 c1 n2 c2 n7 c7 : Nat} {cls : List (List Int)} (F : IntssAt h₀ a1 n1 cls) (hl : cls.length < 1000000) (hll : ∀ l ∈ cls, l.length < 1000000) (hlit : ∀ l ∈ cls, ∀ x ∈ l, Lit x) (kI : Kp h₀.nx h₀ hI) {b3 f3 m : Nat} (hm : m < 9223372036854775808) {x16 x17 : Int} {Q : Value → Hp → Prop} {r : Bool}
    (next : ∀ h1, Kp hI.nx hI h1 → RowAt hI.nx 3 .fix h1 [Int.ofNat m] → vcond r (∃ x, readAt h1 hI.nx 0 1 = some [.int .i64 x] ∧ ∃ a n c h', appendV Tryd.prog (h1.add (.cells [.int .i64 x] 3 .fix)) 32 32 (.slice a7 n7 c7) (.slice (some ⟨h1.nx, 0, none⟩) 1 1) = some (.slice a n c, h') ∧ I54_0 O Q x0 a0 n0 c0 a1 n1 c1 a2 n2 c2 b3 f3 a n c x16 (wrapF .i64 (x17 + 1)) h') (I54_0 O Q x0 a0 n0 c0 a1 n1 c1 a2 n2 c2 b3 f3 a7 n7 c7 x16 (wrapF .i64 (x17 + 1)) h1)) :
    ∀ (d k : Nat), k + d = cls.length → ∀ {h1 : Hp} {q : Bool}, Kp hI.nx hI h1 → RowAt hI.nx 3 .fix h1 [Int.ofNat m] → r = (q && (cls.drop k).all fun c => c.any (isB m)) →
      I54_2 O Q x0 a0 n0 c0 a1 n1 c1 a2 n2 c2 b3 f3 a7 n7 c7 hI.nx 0 q x16 x17 (Int.ofNat k) h1 := by
  have hn := F.1
  intro d
  induction d with
  | zero =>
    intro k hk h1 q kp R hr
    refine I54_2.of _ _ _ _ _ _ _ _ _ _ _ _ _ _ _ _ _ _ _ _ _ ?_
    unfold T54_2
    rw [List.drop_of_length_le (by omega)] at hr
    obtain rfl : r = q := by simpa using hr
    exact vcond_f (by rw [ltI_nat]; exact blt_f (by omega)) (next h1 kp R)
  | succ d ih =>
    intro k hk h1 q kp R hr
    refine I54_2.of _ _ _ _ _ _ _ _ _ _ _ _ _ _ _ _ _ _ _ _ _ ?_
    unfold T54_2
    have hkl : k < cls.length := by omega
    rw [satM_step _ _ _ hkl] at hr
    have f1 := (kI.trans (kp.le kI.nx)).ex (Nat.le_refl _)
    rw [wrap_succ (by omega)]
    refine vcond_t (by rw [ltI_nat]; exact blt_t (by omega)) (isNat_i (F.rd hkl fun a' n' c' Y => vcond_split (fun hq => ?_) fun hq => ?_))
    · subst hq
      have hm1 : cls[k] ∈ cls := List.getElem_mem _
      refine ⟨_, _, ct64 hO (Y.to h1) (hll _ hm1) (fun x hx => ct112 hO hm (hlit _ hm1 x hx) (R.rd (k := 0) (by simp) rfl)), ih (k + 1) (by omega) kp R (by rw [hr]; rfl)⟩
    · subst hq
      exact ih (k + 1) (by omega) kp R (by rw [hr]; rfl)
theorem lp54_1 {h₀ hI : Hp} (ok : h₀.Ok) {x0 : Int} {a0 a1 a2 a7 : Option Addr} {n0 c0 n1 c1 n2 c2 n7 c7 : Nat} {gs : List Int} (G : IntsAt h₀ a2 n2 gs) (hgl : gs.length < 1000000) (hg : ∀ x ∈ gs, Lit x) (kI : Kp h₀.nx h₀ hI) {b3 N kk : Nat} (hN : N ≤ 30) (hb : hI.get b3 = some (.cells [.int .i64 (Int.ofNat N), .slice a0 n0 c0] 30 .fix)) (hb3 : b3 < hI.nx) (hkk : kk < 2 ^ N) {x16 : Int} {Q : Value → Hp → Prop}
    (next : ∀ h1, Kp hI.nx hI h1 → RowAt hI.nx 3 .fix h1 [Int.ofNat (bitsF N kk N)] → I54_2 O Q x0 a0 n0 c0 a1 n1 c1 a2 n2 c2 b3 0 a7 n7 c7 hI.nx 0 (gs.all (isB (bitsF N kk N))) x16 (Int.ofNat kk) 0 h1) :
    ∀ (d v : Nat), v + d = N → ∀ {h1 : Hp}, Kp hI.nx hI h1 → RowAt hI.nx 3 .fix h1 [Int.ofNat (bitsF N kk v)] →
      I54_1 O Q x0 a0 n0 c0 a1 n1 c1 a2 n2 c2 b3 0 a7 n7 c7 (Int.ofNat kk) hI.nx 0 x16 (Int.ofNat kk) (Int.ofNat N) (Int.ofNat v) h1 := by
  have p30 : (2 : Nat) ^ N ≤ 2 ^ 30 := Nat.pow_le_pow_right (by decide) hN
  intro d
  induction d with
  | zero =>
    intro v hv h1 kp R
    refine I54_1.of _ _ _ _ _ _ _ _ _ _ _ _ _ _ _ _ _ _ _ _ _ _ ?_
    unfold T54_1
    obtain rfl : v = N := by omega
    have lt : bitsF v kk v < 9223372036854775808 := Nat.lt_of_lt_of_le (bitsF_lt v kk v) (Nat.le_trans p30 (by decide))
    have f1 := (kI.trans (kp.le kI.nx)).ex (Nat.le_refl _)
    refine vcond_f (by rw [ltI_nat]; exact blt_f (by omega)) ⟨_, _, ct64 hO (G.to h1) hgl (φ := fun x => !(isB (bitsF v kk v) x)) (fun x hx => ct111 hO lt (hg x hx) (R.rd (k := 0) (by simp) rfl)), ?_⟩
    have e : (!(gs.any fun x => !(isB (bitsF v kk v) x))) = gs.all (isB (bitsF v kk v)) := by
      rw [List.not_any_eq_all_not]; simp
    rw [e]
    exact next h1 kp R
  | succ d ih =>
    intro v hv h1 kp R
    refine I54_1.of _ _ _ _ _ _ _ _ _ _ _ _ _ _ _ _ _ _ _ _ _ _ ?_
    unfold T54_1
    have lt : bitsF N kk v < 2 ^ v := bitsF_lt N kk v
    have pv : (2 : Nat) ^ v ≤ 2 ^ 30 := Nat.pow_le_pow_right (by decide) (by omega)
    have f1 := kp.ex (Nat.le_refl _)
    refine vcond_t (by rw [ltI_nat]; exact blt_t (by omega)) ?_
    intro g201
    have e1 : wrapF .i64 (wrapF .i64 (Int.ofNat N - 1) - Int.ofNat v) = Int.ofNat (N - 1 - v) := by
      rw [wrap64 (n := Int.ofNat N - 1) (by simp only [Int.ofNat_eq_natCast]; omega) (by simp only [Int.ofNat_eq_natCast]; omega), wrap64 (by simp only [Int.ofNat_eq_natCast]; omega) (by simp only [Int.ofNat_eq_natCast]; omega)]
      simp only [Int.ofNat_eq_natCast]; omega
    refine ⟨_, R.rd (k := 0) (by simp) rfl, _, (readAt_ex (g := hI) hb3).trans (read1 hb (i := 0 + 0) rfl), ?_⟩
    rw [e1, wrap_succ (by omega), show (Int.ofNat (N - 1 - v)).toNat = N - 1 - v from rfl, show (Int.ofNat v).toNat = v from rfl, shr64 kk (k := N - 1 - v) (by omega), and_one]
    have lt2 : kk / 2 ^ (N - 1 - v) < 9223372036854775808 := Nat.lt_of_le_of_lt (Nat.div_le_self ..) (Nat.lt_of_lt_of_le hkk (Nat.le_trans p30 (by decide)))
    have lt3 : (kk / 2 ^ (N - 1 - v) % 2) * 2 ^ v ≤ 2 ^ v := by
      have := Nat.mod_lt (kk / 2 ^ (N - 1 - v)) (y := 2) (by decide)
      exact Nat.le_trans (Nat.mul_le_mul_right _ (show _ ≤ 1 by omega)) (by omega)
    rw [shl64 (by omega) (Nat.lt_of_le_of_lt (Nat.le_trans lt3 pv) (by decide))]
    have gu : (g201.grd []).guarded hI.nx = false := guarded_of fun q hq => by
      have : q ∈ h₀.gd := by rw [← kI.gd, ← kp.gd]; exact hq
      have := ok.gd q this; have := kI.nx; omega
    obtain ⟨w, R2⟩ := RowAt.wr (h := g201.grd []) ⟨Nat.lt_of_lt_of_le R.lt (Nat.le_add_right ..), R.get⟩ (by decide) gu (k := 0) (off := 0) (by simp) rfl (Int.ofNat (bitsF N kk v ||| (kk / 2 ^ (N - 1 - v) % 2) * 2 ^ v))
    refine vreq_t rfl (vreq_t (inD_of lt2) (vreq_t rfl (vreq_t (inD_of (Nat.lt_of_lt_of_le lt (Nat.le_trans pv (by decide)))) (vreq_t (inD_of (Nat.lt_of_le_of_lt (Nat.le_trans lt3 pv) (by decide))) (vreq_t w ?_)))))
    intro g204 g205
    have K1 : Kp hI.nx hI (g201.grd []) := (kp.rsv 13)
    have K2 : Kp hI.nx hI g204 := K1.wr (Nat.le_refl _) _ _
    exact ih (v + 1) (by omega) ⟨K2.get, K2.nx, kp.gd, K2.fr⟩ ⟨R2.lt, R2.get⟩
theorem lp54_0 {h₀ : Hp} (ok : h₀.Ok) {x0 : Int} {a0 a1 a2 : Option Addr} {n0 c0 n1 c1 n2 c2 : Nat} {cls : List (List Int)} {gs : List Int} (F : IntssAt h₀ a1 n1 cls) (hl : cls.length < 1000000) (hll : ∀ l ∈ cls, l.length < 1000000) (hlit : ∀ l ∈ cls, ∀ x ∈ l, Lit x) (G : IntsAt h₀ a2 n2 gs) (hgl : gs.length < 1000000) (hg : ∀ x ∈ gs, Lit x) {N : Nat} (hN : N ≤ 20) :
    ∀ (d k : Nat), k + d = 2 ^ N → ∀ {h : Hp} {a7 n7 c7} {acc : List Int}, Kp h₀.nx h₀ h → h.get h₀.nx = some (.cells [.int .i64 (Int.ofNat N), .slice a0 n0 c0] 30 .fix) → h₀.nx < h.nx → AccI 3 h (h₀.nx + 1) a7 n7 c7 acc → acc.length ≤ k → (acc ++ (((List.range' k d).map fun k => bitsF N k N).filter (satM cls gs)).map Int.ofNat) = (modelsN N cls gs).map Int.ofNat →
      I54_0 O (RInts h₀ ((modelsN N cls gs).map Int.ofNat)) x0 a0 n0 c0 a1 n1 c1 a2 n2 c2 h₀.nx 0 a7 n7 c7 (Int.ofNat (2 ^ N)) (Int.ofNat k) h := by
  have p20 : (2 : Nat) ^ N ≤ 2 ^ 20 := Nat.pow_le_pow_right (by decide) hN
  intro d
  induction d with
  | zero =>
    intro k hk h a7 n7 c7 acc kp hb hb2 A hal he
    refine I54_0.of _ _ _ _ _ _ _ _ _ _ _ _ _ _ _ _ _ ?_
    unfold T54_0
    have he : acc = (modelsN N cls gs).map Int.ofNat := by simpa using he
    subst he
    refine vcond_f (by rw [ltI_nat]; exact blt_f (by omega)) ⟨_, _, _, rfl, A.ints, kp, fun b off e => ?_⟩
    have := A.fresh e; omega
  | succ d ih =>
    intro k hk h a7 n7 c7 acc kp hb hb2 A hal he
    refine I54_0.of _ _ _ _ _ _ _ _ _ _ _ _ _ _ _ _ _ ?_
    unfold T54_0
    refine vcond_t (by rw [ltI_nat]; exact blt_t (by omega)) ?_
    intro g101
    have hnx := kp.nx
    have gu : g101.guarded h.nx = false := guarded_of fun q hq => by
      have : q ∈ h₀.gd := by rw [← kp.gd]; exact hq
      have := ok.gd q this; omega
    have R0 : RowAt h.nx 3 .fix g101 [0] := ⟨by show h.nx < h.nx + 1; omega, get_add_same ..⟩
    obtain ⟨w, R1⟩ := R0.wr (by decide) gu (k := 0) (off := 0) (by simp) rfl 0
    refine vreq_t w ?_
    intro g102
    have K1 : Kp h.nx h g102 := ((Kp.refl h.nx h).add (Nat.le_refl _) _).wr (Nat.le_refl _) _ _
    have f1 : Ft h g102 := K1.ex (Nat.le_refl _)
    refine ⟨_, (readAt_ex (g := h) (by omega)).trans (read1 hb (i := 0 + 0) rfl), ?_⟩
    rw [List.range'_succ, List.map_cons, List.filter_cons] at he
    have hkk : k < 2 ^ N := by omega
    have lt : bitsF N k N < 9223372036854775808 := Nat.lt_of_lt_of_le (bitsF_lt N k N) (Nat.le_trans p20 (by decide))
    refine lp54_1 hO ok G hgl hg kp (by omega) hb hb2 hkk (fun h1 k1 R => lp54c hO F hl hll hlit kp lt (r := satM cls gs (bitsF N k N)) (fun h2 k2 R2 => ?_) cls.length 0 (by omega) k1 R rfl) N 0 (by omega) K1 ⟨R1.lt, R1.get⟩
    have f2 : Ft h h2 := k2.ex (Nat.le_refl _)
    have A2 : AccI 3 h2 (h₀.nx + 1) a7 n7 c7 acc := Acc.to h2 A
    have kp2 := kp.trans (k2.le hnx)
    have hb' : h2.get h₀.nx = _ := (f2.get _ hb2).trans hb
    rw [wrap_succ (by omega)]
    refine vcond_split (fun hr => ?_) fun hr => ?_
    · rw [hr] at he
      have gd2 : GdLt h2 (h₀.nx + 1) := fun q hq => by have : q ∈ h₀.gd := by rw [← kp2.gd]; exact hq
                                                       have := ok.gd q this; omega
      refine ⟨_, R2.rd (k := 0) (by simp) rfl, appI app32 A2 (by have := k2.nx; omega) gd2 (by omega) fun a' n' c' h' A' _ kA => ih (k + 1) (by omega) (kp2.trans (kA.le (by omega))) ?_ (Nat.lt_of_lt_of_le (by have := k2.nx; omega) kA.nx) A' (by simp; omega) ?_⟩
      · rw [kA.get _ (by omega)]; exact hb'
      · simp only [if_true, List.map_cons] at he
        rw [List.append_assoc]; exact he
    · rw [hr] at he
      exact ih (k + 1) (by omega) kp2 hb' (by have := k2.nx; omega) A2 (by omega) (by simpa using he)
theorem ct54 {h : Hp} (ok : h.Ok) {a0 a1 a2 : Option Addr} {n0 c0 n1 c1 n2 c2 : Nat} {cls : List (List Int)} {gs : List Int} (F : IntssAt h a1 n1 cls) (hl : cls.length < 1000000) (hll : ∀ l ∈ cls, l.length < 1000000) (hlit : ∀ l ∈ cls, ∀ x ∈ l, Lit x) (G : IntsAt h a2 n2 gs) (hgl : gs.length < 1000000) (hg : ∀ x ∈ gs, Lit x) {N : Nat} (hN : N ≤ 20) :
    Ret Tryd.prog O 54 [.agg #[.int .i64 (Int.ofNat N), .slice a0 n0 c0], .slice a1 n1 c1, .slice a2 n2 c2] h (RInts h ((modelsN N cls gs).map Int.ofNat)) := by
  refine rk54 _ _ _ _ _ _ _ _ _ _ (hO _ _ _ (by decide)) ?_
  unfold T54
  intro g1
  refine ⟨_, read1 (get_add_same ..) (i := 0) rfl, vreq_t rfl ?_⟩
  have e : shlF .i64 1 (Int.ofNat N).toNat = Int.ofNat (2 ^ N) := by
    have p20 : (2 : Nat) ^ N ≤ 2 ^ 20 := Nat.pow_le_pow_right (by decide) hN
    have := shl64 (a := 1) (k := N) (by omega) (by rw [Nat.one_mul]; exact Nat.lt_of_le_of_lt p20 (by decide))
    rw [Nat.one_mul] at this; exact this
  rw [e]
  refine lp54_0 hO ok F hl hll hlit G hgl hg hN (2 ^ N) 0 (by omega) ((Kp.refl _ _).add (Nat.le_refl _) _) (get_add_same ..) (by show h.nx < h.nx + 1; omega) (AccI.nil ..) (by simp) ?_
  rw [modelsN, List.range_eq_range']; rfl
end
end Go.Proofs.YtfgfhplgnfbaaaaDoor
/- Contracts of layer 20: propagation once more, without the reference. -/
namespace Go.Proofs.YtfgfhplgnfbaaaaDoor
open Go Go.Ev
/-- A literal is true, by two sets of variables. -/
def trP (y n : Nat) (x : Int) : Prop := (0 < x ∧ y.testBit x.natAbs = true) ∨ (x < 0 ∧ n.testBit x.natAbs = true)
def tvP (y n : Nat) (x : Int) : Bool := if 0 < x then y.testBit x.natAbs else n.testBit x.natAbs
def unP (y n : Nat) (x : Int) : Bool := !(y ||| n).testBit x.natAbs
/-- What is open in a clause, and whether nothing is to be done with it. -/
def opF (y n : Nat) : List Int → Int → Bool → Int × Bool
  | [], o, d => (o, d)
  | x :: xs, o, d => if tvP y n x then opF y n xs o true else if unP y n x then opF y n xs x (d || o != 0) else opF y n xs o d
theorem tvP_iff {y n : Nat} {x : Int} (hx : x ≠ 0) : tvP y n x = true ↔ trP y n x := by
  unfold tvP trP
  by_cases h : 0 < x
  · rw [if_pos h]; constructor
    · exact fun e => .inl ⟨h, e⟩
    · rintro (⟨_, e⟩ | ⟨e, _⟩)
      · exact e
      · omega
  · rw [if_neg h]; constructor
    · exact fun e => .inr ⟨by omega, e⟩
    · rintro (⟨e, _⟩ | ⟨_, e⟩)
      · omega
      · exact e
theorem trP_neg {y n : Nat} {x : Int} : trP y n (-x) ↔ (x < 0 ∧ y.testBit x.natAbs = true) ∨ (0 < x ∧ n.testBit x.natAbs = true) := by
  unfold trP
  rw [Int.natAbs_neg]
  constructor <;> rintro (⟨a, b⟩ | ⟨a, b⟩)
  · exact .inl ⟨by omega, b⟩
  · exact .inr ⟨by omega, b⟩
  · exact .inl ⟨by omega, b⟩
  · exact .inr ⟨by omega, b⟩
theorem unP_iff {y n : Nat} {x : Int} (hx : x ≠ 0) : unP y n x = true ↔ ¬ trP y n x ∧ ¬ trP y n (-x) := by
  unfold unP
  rw [trP_neg, Nat.testBit_or]
  unfold trP
  have : 0 < x ∨ x < 0 := by omega
  cases y.testBit x.natAbs <;> cases n.testBit x.natAbs <;> simp <;> omega
/-- What the pass over a clause finds. -/
def OpOk (y n : Nat) (seen : List Int) (o : Int) (d : Bool) : Prop :=
  (d = true → (∃ x ∈ seen, trP y n x) ∨ ∃ x ∈ seen, ∃ z ∈ seen, x ≠ z ∧ ¬ trP y n x ∧ ¬ trP y n (-x) ∧ ¬ trP y n z ∧ ¬ trP y n (-z)) ∧
  (d = false → ∀ x ∈ seen, x ≠ o → trP y n (-x)) ∧ (o ≠ 0 → o ∈ seen ∧ ¬ trP y n o ∧ ¬ trP y n (-o))
theorem opF_ok {y n : Nat} : ∀ {xs seen : List Int} {o : Int} {d : Bool}, (∀ x ∈ seen ++ xs, Lit x) → Dif (seen ++ xs) → OpOk y n seen o d → OpOk y n (seen ++ xs) (opF y n xs o d).1 (opF y n xs o d).2 := by
  intro xs
  induction xs with
  | nil => intro seen o d _ _ h; rw [List.append_nil]; exact h
  | cons x xs ih =>
    intro seen o d hl hd h
    obtain ⟨h1, h2, h3⟩ := h
    have e : seen ++ x :: xs = (seen ++ [x]) ++ xs := by simp
    have hx0 : x ≠ 0 := (hl x (by simp)).1
    rw [e] at hl hd ⊢
    have sub : ∀ z ∈ seen, z ∈ seen ++ [x] := fun z hz => List.mem_append_left _ hz
    have hxm : x ∈ seen ++ [x] := List.mem_append_right _ (List.mem_singleton.2 rfl)
    have ne : ∀ z ∈ seen, z ≠ x := fun z hz e => by
      have := (List.pairwise_append.1 (List.pairwise_append.1 hd).1).2.2 z hz x (List.mem_singleton.2 rfl)
      subst e; omega
    simp only [opF]
    split
    · rename_i ht
      have ht := (tvP_iff hx0).1 ht
      exact ih hl hd ⟨fun _ => .inl ⟨x, hxm, ht⟩, fun e => (by cases e), fun ho => ⟨sub _ (h3 ho).1, (h3 ho).2⟩⟩
    · rename_i ht
      have ht : ¬ trP y n x := fun e => ht ((tvP_iff hx0).2 e)
      split
      · rename_i hu
        have hu := (unP_iff hx0).1 hu
        refine ih hl hd ⟨fun hd2 => ?_, fun hd2 z hz hzx => ?_, fun _ => ⟨hxm, hu⟩⟩
        · rw [Bool.or_eq_true] at hd2
          rcases hd2 with hd2 | hd2
          · rcases h1 hd2 with ⟨z, hz, hz2⟩ | ⟨z, hz, w, hw, r⟩
            · exact .inl ⟨z, sub z hz, hz2⟩
            · exact .inr ⟨z, sub z hz, w, sub w hw, r⟩
          · have ho : o ≠ 0 := by simpa using hd2
            obtain ⟨a, b, c⟩ := h3 ho
            exact .inr ⟨o, sub o a, x, hxm, ne o a, b, c, hu.1, hu.2⟩
        · rw [Bool.or_eq_false_iff] at hd2
          have ho : o = 0 := by simpa using hd2.2
          rcases List.mem_append.1 hz with hz | hz
          · refine h2 hd2.1 z hz fun e => ?_
            have := (hl z (by simp [hz])).1
            omega
          · exact absurd (List.mem_singleton.1 hz) hzx
      · rename_i hu
        have hneg : trP y n (-x) := by
          have : ¬ (¬ trP y n x ∧ ¬ trP y n (-x)) := fun e => hu ((unP_iff hx0).2 e)
          by_cases q : trP y n (-x)
          · exact q
          · exact absurd ⟨ht, q⟩ this
        refine ih hl hd ⟨fun hd2 => ?_, fun hd2 z hz hzo => ?_, fun ho => ⟨sub _ (h3 ho).1, (h3 ho).2⟩⟩
        · rcases h1 hd2 with ⟨z, hz, hz2⟩ | ⟨z, hz, w, hw, r⟩
          · exact .inl ⟨z, sub z hz, hz2⟩
          · exact .inr ⟨z, sub z hz, w, sub w hw, r⟩
        · rcases List.mem_append.1 hz with hz | hz
          · exact h2 hd2 z hz hzo
          · rw [List.mem_singleton.1 hz]; exact hneg
theorem trP_add {y n : Nat} {x z : Int} (hx : Lit x) : trP (if 0 < x then y ||| 2 ^ x.natAbs else y) (if 0 < x then n else n ||| 2 ^ x.natAbs) z ↔ trP y n z ∨ z = x := by
  have h0 := hx.1
  unfold trP
  by_cases h : 0 < x
  · simp only [if_pos h, Nat.testBit_or, Nat.testBit_two_pow, Bool.or_eq_true, decide_eq_true_eq]
    constructor
    · rintro (⟨a, b | b⟩ | b)
      · exact .inl (.inl ⟨a, b⟩)
      · exact .inr (by omega)
      · exact .inl (.inr b)
    · rintro ((⟨a, b⟩ | b) | rfl)
      · exact .inl ⟨a, .inl b⟩
      · exact .inr b
      · exact .inl ⟨h, .inr rfl⟩
  · simp only [if_neg h, Nat.testBit_or, Nat.testBit_two_pow, Bool.or_eq_true, decide_eq_true_eq]
    constructor
    · rintro (b | ⟨a, b | b⟩)
      · exact .inl (.inl b)
      · exact .inl (.inr ⟨a, b⟩)
      · exact .inr (by omega)
    · rintro ((b | ⟨a, b⟩) | rfl)
      · exact .inl b
      · exact .inr ⟨a, .inl b⟩
      · exact .inr ⟨by omega, .inr rfl⟩
def fr31 (z : Nat) : Nat := ((List.range 31).filter fun i => !z.testBit i).length
theorem fr31_lt {a b : Nat} (hb : b < 2 ^ 31) (h : ∀ i, a.testBit i = true → b.testBit i = true) (hne : b ≠ a) : fr31 b < fr31 a := by
  obtain ⟨i, hi⟩ : ∃ i, a.testBit i ≠ b.testBit i := by
    refine Classical.byContradiction fun hc => hne (Nat.eq_of_testBit_eq fun i => ?_)
    refine Classical.byContradiction fun hh => hc ⟨i, fun e => hh e.symm⟩
  have h1 : a.testBit i = false := by
    cases ha : a.testBit i with
    | false => rfl
    | true => rw [ha, h i ha] at hi; exact absurd rfl hi
  have h2 : b.testBit i = true := by
    cases hb' : b.testBit i with
    | true => rfl
    | false => rw [h1, hb'] at hi; exact absurd rfl hi
  have hi31 : i < 31 := by
    refine Classical.byContradiction fun hc => ?_
    have : b < 2 ^ i := Nat.lt_of_lt_of_le hb (Nat.pow_le_pow_right (by decide) (by omega))
    rw [Nat.testBit_lt_two_pow this] at h2; cases h2
  refine filter_lt (a := i) (List.mem_range.2 hi31) (by rw [h1]; rfl) (by rw [h2]; rfl) fun x hx => ?_
  cases ha : a.testBit x with
  | false => rfl
  | true => rw [h x ha] at hx; cases hx
theorem or31 {y : Nat} {x : Int} (hy : y < 2 ^ 31) (hx : Lit x) : y ||| 2 ^ x.natAbs < 2 ^ 31 := Nat.or_lt_two_pow hy (Nat.pow_lt_pow_right (by decide) (by have := hx.2; omega))
/-- What propagation returns. -/
def PshOk (cls : List (List Int)) (xs : List Int) (h : Hp) (v : Value) (h' : Hp) : Prop := h' = h ∧ ∃ (y n : Nat) (b : Bool), v = .tuple #[.int .i64 (Int.ofNat y), .int .i64 (Int.ofNat n), .bool b] ∧ y < 2 ^ 31 ∧ n < 2 ^ 31 ∧ (b = true → Calm cls xs (trP y n) ∧ ∀ z, trP y n z → z ≠ 0 → Der cls xs z) ∧ (b = false → y = 0 ∧ n = 0 ∧ Cl cls xs)
section
variable {O : CallF} (hO : Oth O)
include hO
theorem lp63_3 {h : Hp} {a0 a1 a48 : Option Addr} {n0 c0 n1 c1 n48 c48 y n : Nat} (hy : y < 2 ^ 31) (hn : n < 2 ^ 31) {q6 : Bool} {x9 x44 : Int} {l : List Int} (L : IntsAt h a48 n48 l) (hl : l.length < 1000000) (hlit : ∀ x ∈ l, Lit x) {Q : Value → Hp → Prop}
    (next : ∀ o d, opF y n l 0 false = (o, d) → vcond d (I63_2 O Q a0 n0 c0 a1 n1 c1 (Int.ofNat y) (Int.ofNat n) q6 x9 (wrapF .i64 (x44 + 1)) h) (vcond (ltI 0 o) (vreq (le0 o) (vreq (inD 9223372036854775808 (Int.ofNat y)) (vreq (inD 9223372036854775808 (shlF .i64 1 (Int.toNat o))) (I63_2 O Q a0 n0 c0 a1 n1 c1 (lorI (Int.ofNat y) (shlF .i64 1 (Int.toNat o))) (Int.ofNat n) q6 x9 (wrapF .i64 (x44 + 1)) h)))) (vcond (ltI o 0) (vreq (le0 (wrapF .i64 (0 - o))) (vreq (inD 9223372036854775808 (Int.ofNat n)) (vreq (inD 9223372036854775808 (shlF .i64 1 (Int.toNat (wrapF .i64 (0 - o))))) (I63_2 O Q a0 n0 c0 a1 n1 c1 (Int.ofNat y) (lorI (Int.ofNat n) (shlF .i64 1 (Int.toNat (wrapF .i64 (0 - o))))) q6 x9 (wrapF .i64 (x44 + 1)) h)))) (Q (.tuple #[.int .i64 0, .int .i64 0, .bool false]) h)))) :
    ∀ (d k : Nat), k + d = l.length → ∀ (o : Int) (q : Bool), opF y n (l.drop k) o q = opF y n l 0 false →
      I63_3 O Q a0 n0 c0 a1 n1 c1 (Int.ofNat y) (Int.ofNat n) q6 x9 o q x44 a48 n48 c48 (Int.ofNat n48) (Int.ofNat k) h := by
  have _ := hO
  have hn48 := L.1
  intro d
  induction d with
  | zero =>
    intro k hk o q he
    refine I63_3.of _ _ _ _ _ _ _ _ _ _ _ _ _ _ _ _ _ _ ?_
    unfold T63_3
    rw [List.drop_of_length_le (by omega)] at he
    exact vcond_f (by rw [ltI_nat]; exact blt_f (by omega)) (next o q he.symm)
  | succ d ih =>
    intro k hk o q he
    refine I63_3.of _ _ _ _ _ _ _ _ _ _ _ _ _ _ _ _ _ _ ?_
    unfold T63_3
    have hkl : k < l.length := by omega
    rw [List.drop_eq_getElem_cons hkl] at he
    simp only [opF] at he
    have hx := hlit _ (List.getElem_mem hkl)
    have hx1 := hx.1; have hx2 := hx.2
    refine vcond_t (by rw [ltI_nat]; exact blt_t (by omega)) (isNat_i (L.rd hkl ?_))
    generalize l[k] = x at *
    have em : maxI x (wrapF .i64 (0 - x)) = Int.ofNat x.natAbs := by
      rw [max_neg (by omega) (by omega)]; simp only [Int.ofNat_eq_natCast]; split <;> omega
    have yl : y < 9223372036854775808 := Nat.lt_trans hy (by decide)
    have nl : n < 9223372036854775808 := Nat.lt_trans hn (by decide)
    have ol : y ||| n < 9223372036854775808 := Nat.lt_trans (Nat.or_lt_two_pow hy hn) (by decide)
    have dl : ∀ m : Nat, m < 9223372036854775808 → inD 9223372036854775808 (Int.ofNat (m / 2 ^ x.natAbs)) = true := fun m hm => inD_of (Nat.lt_of_le_of_lt (Nat.div_le_self ..) hm)
    rw [em, show (Int.ofNat x.natAbs).toNat = x.natAbs from rfl, shr64 y (k := x.natAbs) (by omega), shr64 n (k := x.natAbs) (by omega), lor_nat, shr64 (y ||| n) (k := x.natAbs) (by omega), and_one, and_one, and_one, bit_eq, bit_eq, bit_eq, wrap_succ (by omega)]
    have b1 : ∀ b : Bool, eqI (Int.ofNat b.toNat) 1 = b := by decide
    have b0 : ∀ b : Bool, eqI (Int.ofNat b.toNat) 0 = !b := by decide
    simp only [b1, b0]
    have U : tvP y n x = false → vreq (inD 9223372036854775808 (Int.ofNat y)) (vreq (inD 9223372036854775808 (Int.ofNat n)) (vreq (le0 (Int.ofNat x.natAbs)) (vreq (inD 9223372036854775808 (Int.ofNat ((y ||| n) / 2 ^ x.natAbs))) (vcond (!(y ||| n).testBit x.natAbs) (vcond (!(eqI o 0)) (I63_3 O Q a0 n0 c0 a1 n1 c1 (Int.ofNat y) (Int.ofNat n) q6 x9 x true x44 a48 n48 c48 (Int.ofNat n48) (Int.ofNat (k + 1)) h) (I63_3 O Q a0 n0 c0 a1 n1 c1 (Int.ofNat y) (Int.ofNat n) q6 x9 x q x44 a48 n48 c48 (Int.ofNat n48) (Int.ofNat (k + 1)) h)) (I63_3 O Q a0 n0 c0 a1 n1 c1 (Int.ofNat y) (Int.ofNat n) q6 x9 o q x44 a48 n48 c48 (Int.ofNat n48) (Int.ofNat (k + 1)) h))))) := by
      intro ht
      rw [if_neg (by rw [ht]; decide)] at he
      refine vreq_t (inD_of yl) (vreq_t (inD_of nl) (vreq_t rfl (vreq_t (dl _ ol) (vcond_split (fun hu => vcond_split (fun ho => ?_) fun ho => ?_) fun hu => ?_))))
      · have ho : o ≠ 0 := ne_of_f (by simpa using ho)
        rw [if_pos (show unP y n x = true from hu), show (q || o != 0) = true by simp [ho]] at he
        exact ih (k + 1) (by omega) x true he
      · have ho : o = 0 := eq_of_t (by simpa using ho)
        rw [if_pos (show unP y n x = true from hu), show (q || o != 0) = q by simp [ho]] at he
        exact ih (k + 1) (by omega) x q he
      · rw [if_neg (by show ¬ unP y n x = true; unfold unP; rw [hu]; decide)] at he
        exact ih (k + 1) (by omega) o q he
    by_cases hp : 0 < x
    · refine vcond_t (ltI_t hp) (vreq_t rfl (vreq_t (dl _ yl) (vcond_split (fun ht => ?_) fun ht => ?_)))
      · rw [if_pos (show tvP y n x = true by unfold tvP; rw [if_pos hp]; exact ht)] at he
        exact ih (k + 1) (by omega) o true he
      · exact vcond_f (ltI_f (by omega)) (U (by unfold tvP; rw [if_pos hp]; exact ht))
    · refine vcond_f (ltI_f hp) (vcond_t (ltI_t (by omega)) (vreq_t rfl (vreq_t (dl _ nl) (vcond_split (fun ht => ?_) fun ht => ?_))))
      · rw [if_pos (show tvP y n x = true by unfold tvP; rw [if_neg hp]; exact ht)] at he
        exact ih (k + 1) (by omega) o true he
      · exact U (by unfold tvP; rw [if_neg hp]; exact ht)
/-- What is true is derived; what was given is true. -/
structure PInv (cls : List (List Int)) (xs : List Int) (y n : Nat) : Prop where
  ly : y < 2 ^ 31
  ln : n < 2 ^ 31
  der : ∀ z, trP y n z → z ≠ 0 → Der cls xs z
  beg : ∀ x ∈ xs, trP y n x
  z0 : y.testBit 0 = false ∧ n.testBit 0 = false
omit hO in
theorem PInv.add {cls : List (List Int)} {xs : List Int} {y n : Nat} (I : PInv cls xs y n) {x : Int} (hx : Lit x) (hD : Der cls xs x) : PInv cls xs (if 0 < x then y ||| 2 ^ x.natAbs else y) (if 0 < x then n else n ||| 2 ^ x.natAbs) :=
  ⟨by split; exact or31 I.ly hx; exact I.ly, by split; exact I.ln; exact or31 I.ln hx, fun z hz h0 => by
    rcases (trP_add hx).1 hz with h | rfl
    · exact I.der z h h0
    · exact hD, fun z hz => (trP_add hx).2 (.inl (I.beg z hz)), by
    have h0 : (2 ^ x.natAbs).testBit 0 = false := by rw [Nat.testBit_two_pow]; have := hx.1; simp; omega
    split
    · exact ⟨by rw [Nat.testBit_or, h0, I.z0.1]; rfl, I.z0.2⟩
    · exact ⟨I.z0.1, by rw [Nat.testBit_or, h0, I.z0.2]; rfl⟩⟩
omit hO in
theorem shl1 {x : Int} {m : Nat} (hm : Int.toNat (m : Int) = x.natAbs) (hx : Lit x) : shlF .i64 1 m = Int.ofNat (2 ^ x.natAbs) ∧ 2 ^ x.natAbs < 9223372036854775808 := by
  have e : m = x.natAbs := by simpa using hm
  subst e
  have := hx.2
  have p : (2 : Nat) ^ x.natAbs ≤ 2 ^ 30 := Nat.pow_le_pow_right (by decide) (by omega)
  have lt : 2 ^ x.natAbs < 9223372036854775808 := Nat.lt_of_le_of_lt p (by decide)
  have := shl64 (a := 1) (k := x.natAbs) (by omega) (by rw [Nat.one_mul]; exact lt)
  rw [Nat.one_mul] at this
  exact ⟨this, lt⟩
theorem lp63_2 {cls : List (List Int)} {xs : List Int} {h : Hp} {a0 a1 : Option Addr} {n0 c0 n1 c1 y0 m0 : Nat} {q6 : Bool} (F : IntssAt h a0 n0 cls) (hl : cls.length < 1000000) (hll : ∀ l ∈ cls, l.length < 1000000) (hd : ∀ l ∈ cls, (∀ x ∈ l, Lit x) ∧ Dif l) (hc : ∀ x, trP y0 m0 x → trP y0 m0 (-x) → False)
    (again : ∀ y n, PInv cls xs y n → fr31 (y ||| n) < fr31 (y0 ||| m0) → I63_1 O (PshOk cls xs h) a0 n0 c0 a1 n1 c1 (Int.ofNat y) (Int.ofNat n) q6 h) :
    ∀ (d k : Nat), k + d = cls.length → ∀ {y n : Nat}, PInv cls xs y n → ((y = y0 ∧ n = m0 ∧ ∀ l ∈ cls.take k, (∃ x ∈ l, trP y n x) ∨ ∃ x ∈ l, ∃ z ∈ l, x ≠ z ∧ ¬ trP y n x ∧ ¬ trP y n (-x) ∧ ¬ trP y n z ∧ ¬ trP y n (-z)) ∨ (fr31 (y ||| n) < fr31 (y0 ||| m0) ∧ ∀ i, (y0 ||| m0).testBit i = true → (y ||| n).testBit i = true)) →
      I63_2 O (PshOk cls xs h) a0 n0 c0 a1 n1 c1 (Int.ofNat y) (Int.ofNat n) q6 (Int.ofNat (y0 ||| m0)) (Int.ofNat k) h := by
  have hn := F.1
  intro d
  induction d with
  | zero =>
    intro k hk y n I hi
    refine I63_2.of _ _ _ _ _ _ _ _ _ _ _ ?_
    unfold T63_2
    have yl : y < 9223372036854775808 := Nat.lt_trans I.ly (by decide)
    have nl : n < 9223372036854775808 := Nat.lt_trans I.ln (by decide)
    refine vcond_f (by rw [ltI_nat]; exact blt_f (by omega)) (vreq_t (inD_of yl) (vreq_t (inD_of nl) ?_))
    rw [lor_nat]
    rcases hi with ⟨rfl, rfl, hg⟩ | ⟨hlt, _⟩
    · rw [List.take_of_length_le (by omega)] at hg
      exact vcond_t (eqI_t rfl) ⟨rfl, y, n, true, rfl, I.ly, I.ln, fun _ => ⟨⟨hc, I.beg, hg⟩, I.der⟩, fun e => (by cases e)⟩
    · refine vcond_f (eqI_f fun e => ?_) (again y n I hlt)
      have e : y ||| n = y0 ||| m0 := Int.ofNat.inj e
      rw [e] at hlt; omega
  | succ d ih =>
    intro k hk y n I hi
    refine I63_2.of _ _ _ _ _ _ _ _ _ _ _ ?_
    unfold T63_2
    have hkl : k < cls.length := by omega
    have hm : cls[k] ∈ cls := List.getElem_mem _
    obtain ⟨hlit, hdif⟩ := hd _ hm
    refine vcond_t (by rw [ltI_nat]; exact blt_t (by omega)) (isNat_i (F.rd hkl fun a' n' c' L => ?_))
    have hll' := hll _ hm
    refine lp63_3 hO I.ly I.ln L hll' hlit (fun o d ho => ?_) cls[k].length 0 (by omega) 0 false rfl
    have ok := opF_ok (y := y) (n := n) (xs := cls[k]) (seen := []) (o := 0) (d := false) (by simpa using hlit) (by simpa using hdif) ⟨fun e => (by cases e), fun _ x hx => (by cases hx), fun e => absurd rfl e⟩
    rw [ho, List.nil_append] at ok
    obtain ⟨k1, k2, k3⟩ := ok
    rw [wrap_succ (by omega)]
    have e1 : cls.take (k + 1) = cls.take k ++ [cls[k]] := List.take_succ_eq_append_getElem hkl
    have yl : y < 9223372036854775808 := Nat.lt_trans I.ly (by decide)
    have nl : n < 9223372036854775808 := Nat.lt_trans I.ln (by decide)
    -- a literal becomes true
    have add : d = false → o ≠ 0 → I63_2 O (PshOk cls xs h) a0 n0 c0 a1 n1 c1 (Int.ofNat (if 0 < o then y ||| 2 ^ o.natAbs else y)) (Int.ofNat (if 0 < o then n else n ||| 2 ^ o.natAbs)) q6 (Int.ofNat (y0 ||| m0)) (Int.ofNat (k + 1)) h := by
      intro hd0 ho0
      obtain ⟨om, u1, u2⟩ := k3 ho0
      have ol := hlit o om
      have hD : Der cls xs o := .unit hm om fun z hz hne => I.der _ (k2 hd0 z hz hne) (by have := (hlit z hz).1; omega)
      refine ih (k + 1) (by omega) (I.add ol hD) (.inr ?_)
      have eor : (if 0 < o then y ||| 2 ^ o.natAbs else y) ||| (if 0 < o then n else n ||| 2 ^ o.natAbs) = (y ||| n) ||| 2 ^ o.natAbs := by
        refine Nat.eq_of_testBit_eq fun i => ?_
        split <;> simp only [Nat.testBit_or] <;> cases y.testBit i <;> cases n.testBit i <;> cases (2 ^ o.natAbs).testBit i <;> rfl
      rw [eor]
      have hu : (y ||| n).testBit o.natAbs = false := by
        have := (unP_iff ol.1).2 ⟨u1, u2⟩
        unfold unP at this; simpa using this
      have lt : fr31 ((y ||| n) ||| 2 ^ o.natAbs) < fr31 (y ||| n) := by
        refine fr31_lt (or31 (Nat.or_lt_two_pow I.ly I.ln) ol) (fun i hi => by rw [Nat.testBit_or, hi]; rfl) fun e => ?_
        have : ((y ||| n) ||| 2 ^ o.natAbs).testBit o.natAbs = true := by rw [Nat.testBit_or, Nat.testBit_two_pow]; simp
        rw [e, hu] at this; cases this
      rcases hi with ⟨rfl, rfl, _⟩ | ⟨h1, h2⟩
      · exact ⟨lt, fun i hi => by rw [Nat.testBit_or, hi]; rfl⟩
      · exact ⟨by omega, fun i hi => by rw [Nat.testBit_or, h2 i hi]; rfl⟩
    refine vcond_split (fun hd0 => ?_) fun hd0 => vcond_split (fun hp => ?_) fun hp => vcond_split (fun hn0 => ?_) fun hn0 => ?_
    · refine ih (k + 1) (by omega) I (hi.imp (fun ⟨a, b, c⟩ => ⟨a, b, fun l hl => ?_⟩) id)
      rw [e1] at hl
      rcases List.mem_append.1 hl with hl | hl
      · exact c l hl
      · rw [List.mem_singleton.1 hl]; exact k1 hd0
    · have hp := lt_of_t hp
      have := add hd0 (by omega)
      rw [if_pos hp, if_pos hp] at this
      obtain ⟨s1, s2⟩ := shl1 (x := o) (m := Int.toNat o) (by omega) (hlit o (k3 (by omega)).1)
      rw [s1, lor_nat]
      obtain ⟨om, rfl⟩ : ∃ w : Nat, o = Int.ofNat w := ⟨o.toNat, by simp only [Int.ofNat_eq_natCast]; omega⟩
      exact vreq_t rfl (vreq_t (inD_of yl) (vreq_t (inD_of s2) this))
    · have hn0 := lt_of_t hn0
      have hp := not_lt_of_f hp
      have := add hd0 (by omega)
      rw [if_neg hp, if_neg hp] at this
      have ol := hlit o (k3 (by omega)).1
      have ol2 := ol.2
      have ew : wrapF .i64 (0 - o) = Int.ofNat o.natAbs := by rw [wrap64 (by omega) (by omega)]; simp only [Int.ofNat_eq_natCast]; omega
      rw [ew, show (Int.ofNat o.natAbs).toNat = o.natAbs from rfl]
      obtain ⟨s1, s2⟩ := shl1 (x := o) (m := o.natAbs) (by simp) ol
      rw [s1, lor_nat]
      exact vreq_t rfl (vreq_t (inD_of nl) (vreq_t (inD_of s2) this))
    · have hp := not_lt_of_f hp; have hn0 := not_lt_of_f hn0
      obtain rfl : o = 0 := by omega
      refine ⟨rfl, 0, 0, false, rfl, by decide, by decide, fun e => (by cases e), fun _ => ⟨rfl, rfl, .inr ⟨_, hm, fun z hz => I.der _ (k2 hd0 z hz (hlit z hz).1) (by have := (hlit z hz).1; omega)⟩⟩⟩
theorem lp63_1 {cls : List (List Int)} {xs : List Int} {h : Hp} {a0 a1 : Option Addr} {n0 c0 n1 c1 : Nat} {q6 : Bool} (F : IntssAt h a0 n0 cls) (hl : cls.length < 1000000) (hll : ∀ l ∈ cls, l.length < 1000000) (hd : ∀ l ∈ cls, (∀ x ∈ l, Lit x) ∧ Dif l) :
    ∀ (f : Nat) {y n : Nat}, fr31 (y ||| n) < f → PInv cls xs y n → I63_1 O (PshOk cls xs h) a0 n0 c0 a1 n1 c1 (Int.ofNat y) (Int.ofNat n) q6 h := by
  intro f
  induction f with
  | zero => intro y n hf; omega
  | succ f ih =>
    intro y n hf I
    refine I63_1.of _ _ _ _ _ _ _ _ _ ?_
    unfold T63_1
    have yl : y < 9223372036854775808 := Nat.lt_trans I.ly (by decide)
    have nl : n < 9223372036854775808 := Nat.lt_trans I.ln (by decide)
    rw [land_nat, lor_nat]
    refine vreq_t (inD_of yl) (vreq_t (inD_of nl) (vcond_split (fun hc => ?_) fun hc => ?_))
    · have hc : y &&& n ≠ 0 := fun e => ne_of_f (show eqI (Int.ofNat (y &&& n)) 0 = false by simpa using hc) (by rw [e]; rfl)
      obtain ⟨i, hi⟩ : ∃ i, (y &&& n).testBit i = true := by
        refine Classical.byContradiction fun hh => hc (Nat.eq_of_testBit_eq fun i => ?_)
        rw [Nat.zero_testBit]
        cases hb : (y &&& n).testBit i with
        | false => rfl
        | true => exact absurd ⟨i, hb⟩ hh
      rw [Nat.testBit_and, Bool.and_eq_true] at hi
      refine ⟨rfl, 0, 0, false, rfl, by decide, by decide, fun e => (by cases e), fun _ => ⟨rfl, rfl, ?_⟩⟩
      by_cases h0 : i = 0
      · subst h0; rw [I.z0.1] at hi; cases hi.1
      · refine .inl ⟨(i : Int), I.der _ (.inl ⟨by omega, by simpa using hi.1⟩) (by omega), I.der _ (.inr ⟨by omega, by simpa using hi.2⟩) (by omega)⟩
    · have hc : y &&& n = 0 := Int.ofNat.inj (eq_of_t (show eqI (Int.ofNat (y &&& n)) 0 = true by simpa using hc))
      have con : ∀ x, trP y n x → trP y n (-x) → False := by
        intro x h1 h2
        have : (y &&& n).testBit x.natAbs = false := by rw [hc, Nat.zero_testBit]
        rw [Nat.testBit_and] at this
        rw [trP_neg] at h2
        rcases h1 with ⟨a, b⟩ | ⟨a, b⟩ <;> rcases h2 with ⟨c, d⟩ | ⟨c, d⟩
        · omega
        · rw [b, d] at this; cases this
        · rw [b, d] at this; cases this
        · omega
      exact vreq_t (inD_of yl) (vreq_t (inD_of nl) (lp63_2 hO F hl hll hd con (fun y' n' I' hlt => ih (by omega) I') cls.length 0 (by omega) I (.inl ⟨rfl, rfl, fun l hl => by simp at hl⟩)))
theorem lp63_0 {cls : List (List Int)} {xs : List Int} {h : Hp} {a0 a1 : Option Addr} {n0 c0 n1 c1 : Nat} (F : IntssAt h a0 n0 cls) (hl : cls.length < 1000000) (hll : ∀ l ∈ cls, l.length < 1000000) (hd : ∀ l ∈ cls, (∀ x ∈ l, Lit x) ∧ Dif l) (X : IntsAt h a1 n1 xs) (hxl : xs.length < 1000000) (hx : ∀ x ∈ xs, Lit x) :
    ∀ (d k : Nat), k + d = xs.length → ∀ {y n : Nat}, PInv cls xs y n ∨ (y < 2 ^ 31 ∧ n < 2 ^ 31 ∧ (∀ z, trP y n z → z ≠ 0 → Der cls xs z) ∧ (∀ x ∈ xs.take k, trP y n x) ∧ y.testBit 0 = false ∧ n.testBit 0 = false) → I63_0 O (PshOk cls xs h) a0 n0 c0 a1 n1 c1 (Int.ofNat y) (Int.ofNat n) (Int.ofNat k) h := by
  have hn := X.1
  intro d
  induction d with
  | zero =>
    intro k hk y n I
    refine I63_0.of _ _ _ _ _ _ _ _ _ ?_
    unfold T63_0
    have I : PInv cls xs y n := by
      rcases I with I | ⟨a, b, c, d, e⟩
      · exact I
      · rw [List.take_of_length_le (by omega)] at d; exact ⟨a, b, c, d, e⟩
    exact vcond_f (by rw [ltI_nat]; exact blt_f (by omega)) (lp63_1 hO F hl hll hd (fr31 (y ||| n) + 1) (by omega) I)
  | succ d ih =>
    intro k hk y n I
    refine I63_0.of _ _ _ _ _ _ _ _ _ ?_
    unfold T63_0
    have hkl : k < xs.length := by omega
    have hxk := hx _ (List.getElem_mem hkl)
    have hx1 := hxk.1; have hx2 := hxk.2
    have hD : Der cls xs xs[k] := .base (List.getElem_mem hkl)
    have e1 : xs.take (k + 1) = xs.take k ++ [xs[k]] := List.take_succ_eq_append_getElem hkl
    have I : y < 2 ^ 31 ∧ n < 2 ^ 31 ∧ (∀ z, trP y n z → z ≠ 0 → Der cls xs z) ∧ (∀ x ∈ xs.take k, trP y n x) ∧ y.testBit 0 = false ∧ n.testBit 0 = false := by
      rcases I with I | I
      · exact ⟨I.ly, I.ln, I.der, fun x hx => I.beg x (List.mem_of_mem_take hx), I.z0⟩
      · exact I
    obtain ⟨ly, ln, ider, ibeg, iz⟩ := I
    have add : I63_0 O (PshOk cls xs h) a0 n0 c0 a1 n1 c1 (Int.ofNat (if 0 < xs[k] then y ||| 2 ^ xs[k].natAbs else y)) (Int.ofNat (if 0 < xs[k] then n else n ||| 2 ^ xs[k].natAbs)) (Int.ofNat (k + 1)) h := by
      refine ih (k + 1) (by omega) (.inr ?_)
      have h0 : (2 ^ xs[k].natAbs).testBit 0 = false := by rw [Nat.testBit_two_pow]; simp; omega
      refine ⟨by split; exact or31 ly hxk; exact ly, by split; exact ln; exact or31 ln hxk, fun z hz hz0 => ?_, fun z hz => ?_, ?_⟩
      · rcases (trP_add hxk).1 hz with h | rfl
        · exact ider z h hz0
        · exact hD
      · rw [e1] at hz
        rcases List.mem_append.1 hz with hz | hz
        · exact (trP_add hxk).2 (.inl (ibeg z hz))
        · exact (trP_add hxk).2 (.inr (List.mem_singleton.1 hz))
      · split
        · exact ⟨by rw [Nat.testBit_or, h0, iz.1]; rfl, iz.2⟩
        · exact ⟨iz.1, by rw [Nat.testBit_or, h0, iz.2]; rfl⟩
    have yl : y < 9223372036854775808 := Nat.lt_trans ly (by decide)
    have nl : n < 9223372036854775808 := Nat.lt_trans ln (by decide)
    rw [wrap_succ (by omega)]
    refine vcond_t (by rw [ltI_nat]; exact blt_t (by omega)) (isNat_i (X.rd hkl (vcond_split (fun hp => ?_) fun hp => ?_)))
    · have hp := lt_of_t hp
      rw [if_pos hp, if_pos hp] at add
      obtain ⟨s1, s2⟩ := shl1 (x := xs[k]) (m := Int.toNat xs[k]) (by omega) hxk
      rw [s1, lor_nat]
      have el : le0 xs[k] = true := by
        obtain ⟨w, hw⟩ : ∃ w : Nat, xs[k] = Int.ofNat w := ⟨xs[k].toNat, by simp only [Int.ofNat_eq_natCast]; omega⟩
        rw [hw]; rfl
      exact vreq_t el (vreq_t (inD_of yl) (vreq_t (inD_of s2) add))
    · have hp := not_lt_of_f hp
      rw [if_neg hp, if_neg hp] at add
      have ew : wrapF .i64 (0 - xs[k]) = Int.ofNat xs[k].natAbs := by rw [wrap64 (by omega) (by omega)]; simp only [Int.ofNat_eq_natCast]; omega
      rw [ew, show (Int.ofNat xs[k].natAbs).toNat = xs[k].natAbs from rfl]
      obtain ⟨s1, s2⟩ := shl1 (x := xs[k]) (m := xs[k].natAbs) (by simp) hxk
      rw [s1, lor_nat]
      exact vreq_t rfl (vreq_t (inD_of nl) (vreq_t (inD_of s2) add))
theorem ct63 {cls : List (List Int)} {xs : List Int} {h : Hp} {a0 a1 : Option Addr} {n0 c0 n1 c1 : Nat} (F : IntssAt h a0 n0 cls) (hl : cls.length < 1000000) (hll : ∀ l ∈ cls, l.length < 1000000) (hd : ∀ l ∈ cls, (∀ x ∈ l, Lit x) ∧ Dif l) (X : IntsAt h a1 n1 xs) (hxl : xs.length < 1000000) (hx : ∀ x ∈ xs, Lit x) :
    Ret Tryd.prog O 63 [.slice a0 n0 c0, .slice a1 n1 c1] h (PshOk cls xs h) := by
  refine rk63 _ _ _ _ _ _ (hO _ _ _ (by decide)) ?_
  unfold T63
  refine lp63_0 hO F hl hll hd X hxl hx xs.length 0 (by omega) (.inr ⟨by decide, by decide, fun z hz => ?_, fun x hx => by simp at hx, rfl, rfl⟩)
  rcases hz with ⟨_, h⟩ | ⟨_, h⟩ <;> simp at h
/-- A list of its own, with another one's elements. -/
def RCl (h : Hp) (xs : List Int) (a : Option Addr) (n c : Nat) (h' : Hp) : Prop := AccE h' h.nx 3 1 a n c (xs.map (Value.int .i64)) ∧ Kp h.nx h h'
theorem ct60 {h : Hp} (ok : h.Ok) {a0 : Option Addr} {n0 c0 : Nat} {xs : List Int} (X : IntsAt h a0 n0 xs) (hl : xs.length < 100000000) : Ret Tryd.prog O 60 [.slice a0 n0 c0] h fun v h' => ∃ a n c, v = .slice a n c ∧ RCl h xs a n c h' := by
  refine rk60 _ _ _ (hO _ _ _ (by decide)) ?_
  unfold T60
  cases a0 with
  | none =>
    have : xs = [] := by
      rcases X.2 with ⟨e, _⟩ | ⟨_, _, _, _, _, e, _⟩
      · exact e
      · cases e
    subst this
    exact ⟨_, _, _, rfl, .inl (Acc.nil ..), .refl _ _⟩
  | some q =>
    show let g1 : Hp := h.add (.cells [] 3 .fix); _
    intro g1
    have X1 : IntsAt g1 (some q) n0 xs := X.to _
    have Z : AccE g1 h.nx 3 1 (some ⟨h.nx, 0, none⟩) 0 0 [] := .inr ⟨rfl, rfl, rfl, h.nx, rfl, Nat.le_refl _, Nat.lt_succ_self _, _, _, get_add_same ..⟩
    have k1 : Kp h.nx h g1 := (Kp.refl _ _).add (Nat.le_refl _) _
    have src : srcCells g1 1 (.slice (some q) n0 c0) = some (xs.map (Value.int .i64), n0) := X1.src
    obtain ⟨a', n', c', h', e1, A, _, K⟩ := append_accE app32 Z (by show h.nx ≤ h.nx + 1; omega) (fun q hq => ok.gd q hq) ⟨_, _, _, rfl⟩ src (by rw [X.1]; simp) (by simp [one]) (by rw [X.1]; omega) (by rw [X.1]; unfold big; omega)
    exact ⟨a', n', c', h', e1, _, _, _, rfl, A, k1.trans (K.kpE Z (by show h.nx ≤ h.nx + 1; omega))⟩
/-- One is appended to a list of its own. -/
theorem appIE {e sT : TypeId} (T : AppT Tryd.prog sT e 1 8) {h : Hp} {base : Nat} {a : Option Addr} {n c : Nat} {xs : List Int} (A : AccE h base e 1 a n c (xs.map (Value.int .i64))) (hb : base ≤ h.nx) (hg : GdLt h base) (hn : n = xs.length) (hl : xs.length < 1000000000) {x : Int}
    {K : Option Addr → Nat → Nat → Hp → Prop} (next : ∀ a' c' h', AccE h' base e 1 a' (n + 1) c' ((xs ++ [x]).map (Value.int .i64)) → Kp base h h' → K a' (n + 1) c' h') :
    ∃ a' n' c' h', appendV Tryd.prog (h.add (.cells [.int .i64 x] e .fix)) sT sT (.slice a n c) (.slice (some ⟨h.nx, 0, none⟩) 1 1) = some (.slice a' n' c', h') ∧ K a' n' c' h' := by
  have _ := hO
  have A1 : AccE (h.add (.cells [.int .i64 x] e .fix)) base e 1 a n c (xs.map (Value.int .i64)) := A.keep (fun o ho _ => get_add_ne (by omega)) (by rw [nx_add]; omega)
  obtain ⟨a', n', c', h', e1, A', rfl, k⟩ := append_accE T A1 (by rw [nx_add]; omega) hg ⟨_, _, _, rfl⟩ (src_get (n := 1) (c := 1) (esz := 1) (off := 0) (read1 (i := 0) (v := .int .i64 x) (get_add_same ..) rfl)) rfl rfl (by omega) (by unfold big; omega)
  have k' : AppK h h' a := ⟨Nat.le_trans (by rw [nx_add]; omega) k.nx, k.gd, fun f => k.fr (f.add _), fun q hq hne => by rw [k.get q (by rw [nx_add]; omega) hne, get_add_ne (by omega)]⟩
  exact ⟨a', _, c', h', e1, next a' c' h' (by rw [List.map_append]; exact A') (k'.kpE A hb)⟩
omit hO in
theorem accE_ints {e : TypeId} {h : Hp} {base : Nat} {a : Option Addr} {n c : Nat} {xs : List Int} (H : AccE h base e 1 a n c (xs.map (Value.int .i64))) : IntsAt h a n xs := by
  rcases H with H | ⟨h1, h2, h3, o, h4, h5, h6, e2, m, h7⟩
  · exact AccI.ints H
  · have hx : xs = [] := by
      cases xs with
      | nil => rfl
      | cons x xs => cases h1
    subst hx h2 h4
    exact ⟨rfl, .inr ⟨o, 0, _, _, _, rfl, h6, h7, by simp, fun i hi => by simp at hi⟩⟩
theorem lp57 {cls : List (List Int)} {gs l : List Int} {h₀ : Hp} (ok : h₀.Ok) {a0 a1 a2 : Option Addr} {n0 c0 n1 c1 n2 c2 : Nat} (F : IntssAt h₀ a0 n0 cls) (hl : cls.length < 1000000) (hll : ∀ l ∈ cls, l.length < 1000000) (hd : ∀ l ∈ cls, (∀ x ∈ l, Lit x) ∧ Dif l) (hgl : gs.length < 1000) (hg : ∀ x ∈ gs, Lit x) (L : IntsAt h₀ a2 n2 l) (hln : l.length < 1000) (hlit : ∀ x ∈ l, Lit x) :
    ∀ (d k : Nat), k + d = l.length → ∀ {h : Hp} {a n c}, Kp h₀.nx h₀ h → AccE h h₀.nx 3 1 a n c ((gs ++ (l.take k).map fun x => -x).map (Value.int .i64)) → n = gs.length + k →
      I57_0 O (fun v h' => ∃ b : Bool, v = .bool b ∧ (b = true ↔ Cl cls (gs ++ l.map fun x => -x)) ∧ Kp h₀.nx h₀ h') a0 n0 c0 a1 n1 c1 a2 n2 c2 a n c (Int.ofNat k) h := by
  have hn := L.1
  intro d
  induction d with
  | zero =>
    intro k hk h a n c kp A hnn
    refine I57_0.of _ _ _ _ _ _ _ _ _ _ _ _ _ ?_
    unfold T57_0
    rw [List.take_of_length_le (by omega)] at A
    have := kp.ex (Nat.le_refl _)
    have lits : ∀ x ∈ gs ++ l.map (fun x => -x), Lit x := fun x hx => by
      rcases List.mem_append.1 hx with hx | hx
      · exact hg x hx
      · exact lit_neg hlit x hx
    obtain ⟨v, h', e, rfl, y, m, b, rfl, _, _, p1, p2⟩ := ct63 hO (F.to h) hl hll hd (accE_ints A) (by simp; omega) lits
    refine vcond_f (by rw [ltI_nat]; exact blt_f (by omega)) ⟨_, _, _, _, e, !b, rfl, ?_, kp⟩
    cases b with
    | true => exact ⟨fun e => (by cases e), fun hc => absurd hc ((p1 rfl).1.not)⟩
    | false => exact ⟨fun _ => (p2 rfl).2.2, fun _ => rfl⟩
  | succ d ih =>
    intro k hk h a n c kp A hnn
    refine I57_0.of _ _ _ _ _ _ _ _ _ _ _ _ _ ?_
    unfold T57_0
    have hkl : k < l.length := by omega
    have hx := hlit _ (List.getElem_mem hkl)
    have hx2 := hx.2
    have := kp.ex (Nat.le_refl _)
    refine vcond_t (by rw [ltI_nat]; exact blt_t (by omega)) (isNat_i (L.rd hkl ?_))
    rw [wrap_succ (by omega), show wrapF .i64 (0 - l[k]) = -l[k] by rw [wrap64 (by omega) (by omega)]; omega]
    refine appIE hO app32 A kp.nx (GdLt.kp ok.lt kp) (by simp; omega) (by simp; omega) fun a' c' h' A' kA => ih (k + 1) (by omega) (kp.trans kA) ?_ (by omega)
    rw [List.take_succ_eq_append_getElem hkl, List.map_append (l₁ := l.take k), ← List.append_assoc]; exact A'
theorem ct57 {cls : List (List Int)} {gs l : List Int} {h : Hp} (ok : h.Ok) {a0 a1 a2 : Option Addr} {n0 c0 n1 c1 n2 c2 : Nat} (F : IntssAt h a0 n0 cls) (hl : cls.length < 1000000) (hll : ∀ l ∈ cls, l.length < 1000000) (hd : ∀ l ∈ cls, (∀ x ∈ l, Lit x) ∧ Dif l) (G : IntsAt h a1 n1 gs) (hgl : gs.length < 1000) (hg : ∀ x ∈ gs, Lit x) (L : IntsAt h a2 n2 l) (hln : l.length < 1000) (hlit : ∀ x ∈ l, Lit x) :
    Ret Tryd.prog O 57 [.slice a0 n0 c0, .slice a1 n1 c1, .slice a2 n2 c2] h fun v h' => ∃ b : Bool, v = .bool b ∧ (b = true ↔ Cl cls (gs ++ l.map fun x => -x)) ∧ Kp h.nx h h' := by
  refine rk57 _ _ _ _ _ _ _ _ _ (hO _ _ _ (by decide)) ?_
  unfold T57
  refine (ct60 hO ok G (by omega)).s fun a n c h' ⟨A, k⟩ => ?_
  exact lp57 hO ok F hl hll hd hgl hg L hln hlit l.length 0 (by omega) k (by simpa using A) (by have := (accE_ints A).1; simpa using this)
end
end Go.Proofs.YtfgfhplgnfbaaaaDoor
/- Lists of lists that grow, their elements laid meanwhile. -/
namespace Go.Proofs.YtfgfhplgnfbaaaaDoor
open Go Go.Ev
/-- Where an element may lie: neither in what is written nor in the list that grows. -/
def VOk (lo base : Nat) (v : Value) : Prop := ∀ b off n c, v = .slice (some ⟨b, off, none⟩) n c → (b < lo ∨ base ≤ b) ∧ (b < base ∨ 0 < n)
def LL (lo base : Nat) (h : Hp) (a : Option Addr) (n c : Nat) (xss : List (List Int)) : Prop := ∃ vs, AccE h base 32 1 a n c vs ∧ Lis h vs xss ∧ ∀ v ∈ vs, VOk lo base v
theorem LL.nil (lo base : Nat) (h : Hp) : LL lo base h none 0 0 [] := ⟨[], .inl (Acc.nil ..), .nil h, fun _ h => by cases h⟩
theorem LL.intss {lo base : Nat} {h : Hp} {a : Option Addr} {n c : Nat} {xss : List (List Int)} (A : LL lo base h a n c xss) : IntssAt h a n xss := let ⟨_, A, L, _⟩ := A; AccE.intss A L
theorem LL.len {lo base : Nat} {h : Hp} {a : Option Addr} {n c : Nat} {xss : List (List Int)} (A : LL lo base h a n c xss) : n = xss.length := A.intss.1
theorem AccE.to {h : Hp} (h' : Hp) [k : Ft h h'] {base : Nat} {e : TypeId} {esz : Nat} {a : Option Addr} {n c : Nat} {xs : List Value} (H : AccE h base e esz a n c xs) : AccE h' base e esz a n c xs :=
  H.keep (fun o ho _ => k.get o ho) k.nx
theorem Lis.to {h : Hp} (h' : Hp) [k : Ft h h'] {vs : List Value} {xs : List (List Int)} (A : Lis h vs xs) : Lis h' vs xs := ⟨A.1, fun i hi => let ⟨v, h1, h2⟩ := A.2 i hi; ⟨v, h1, EUp.up _ _ _ _ k h2⟩⟩
theorem LL.to {lo base : Nat} {h : Hp} (h' : Hp) [k : Ft h h'] {a : Option Addr} {n c : Nat} {xss : List (List Int)} (A : LL lo base h a n c xss) : LL lo base h' a n c xss :=
  let ⟨vs, A, L, o⟩ := A; ⟨vs, AccE.to h' A, L.to h', o⟩
/-- Something else changes. -/
theorem ints_sub {h h' : Hp} {a : Option Addr} {n : Nat} {xs : List Int} (X : IntsAt h a n xs) (hk : ∀ b off, a = some ⟨b, off, none⟩ → b < h.nx → h'.get b = h.get b) (hn : h.nx ≤ h'.nx) : IntsAt h' a n xs := by
  refine ⟨X.1, X.2.imp id ?_⟩
  rintro ⟨b, off, c, e, m, h1, h2, h3, h4, h5⟩
  exact ⟨b, off, c, e, m, h1, Nat.lt_of_lt_of_le h2 hn, by rw [hk b off h1 h2]; exact h3, h4, h5⟩
theorem LL.wr {lo base : Nat} {h : Hp} {a : Option Addr} {n c : Nat} {xss : List (List Int)} (A : LL lo base h a n c xss) {q : Nat} (h1 : lo ≤ q) (h2 : q < base) (off : Nat) (ws : List Value) : LL lo base (h.wr q off ws) a n c xss := by
  obtain ⟨vs, A, L, o⟩ := A
  refine ⟨vs, A.keep (fun p _ hp => wr_get_ne _ _ _ _ (by have := (A.lt hp).1; omega)) (by rw [nx_wr]; omega), ⟨L.1, fun i hi => ?_⟩, o⟩
  obtain ⟨v, hv, a', n', c', e, X⟩ := L.2 i hi
  refine ⟨v, hv, a', n', c', e, ints_sub X (fun b off hb _ => wr_get_ne _ _ _ _ ?_) (by rw [nx_wr]; omega)⟩
  have := (o v (List.mem_of_getElem? hv) b off n' c' (by rw [← hb]; simpa using e)).1
  omega
/-- An element lies elsewhere than the list. -/
theorem LL.ne {h : Hp} {base : Nat} {a : Option Addr} {n c : Nat} {vs : List Value} {xss : List (List Int)} (A : AccE h base 32 1 a n c vs) (L : Lis h vs xss) {a1 : Option Addr} {n1 : Nat} {ys : List Int} (Y : IntsAt h a1 n1 ys) {b off : Nat} (hb : a1 = some ⟨b, off, none⟩) (hn : b < base ∨ 0 < n1) : a ≠ some ⟨b, 0, none⟩ := by
  intro e
  have hlt := A.lt e
  have hn : 0 < n1 := by omega
  rcases Y.2 with ⟨_, e2⟩ | ⟨b', off', cs, e', m', h1, h2, h3, h4, h5⟩
  · rw [hb] at e2; cases e2
  · rw [hb] at h1; injection h1 with h1; injection h1 with h1 h1'; subst h1 h1'
    have hy := Y.1
    have h6 : (cs.drop (off + 0 * 1)).take 1 = [.int .i64 ys[0]] := h5 0 (by omega)
    have hc : cs[off]? = some (.int .i64 ys[0]) := by
      rw [Nat.zero_mul, Nat.add_zero] at h6
      have : ((cs.drop off).take 1)[0]? = some (.int .i64 ys[0]) := by rw [h6]; rfl
      simpa using this
    have hvs : cs = vs ∨ cs = [] := by
      rcases A with (⟨q, _⟩ | ⟨o, q, _, _, _, _, hg⟩) | ⟨_, _, _, o, q, _, _, e2, m, hg⟩
      · rw [q] at e; cases e
      · rw [q] at e; injection e with e; injection e with e; subst e; rw [h3] at hg; injection hg with hg; injection hg with hg; exact .inl hg
      · rw [q] at e; injection e with e; injection e with e; subst e; rw [h3] at hg; injection hg with hg; injection hg with hg; exact .inr hg
    rcases hvs with rfl | rfl
    · have hl : off < xss.length := by
        have := (List.getElem?_eq_some_iff.1 hc).1
        rw [← L.1]; exact this
      obtain ⟨v, hv, a2, n2, c2, e2, _⟩ := L.2 off hl
      rw [hv] at hc
      injection hc with hc
      subst hc
      cases e2
    · simp at hc
/-- What is appended to lies at a new number: also a row of no elements. -/
theorem append_newE {P : Program} {sT e : TypeId} {esz bytes : Nat} (T : AppT P sT e esz bytes) {h : Hp} {base : Nat} {a : Option Addr} {n c : Nat} {xs : List Value} (H : AccE h base e esz a n c xs)
    {x : Value} {ys : List Value} {k : Nat} (hx : ∃ a n c, x = .slice a n c) (hs : srcCells h esz x = some (ys, k)) (h1 : ys.all one = true) (hkp : 0 < k) {a' : Option Addr} {n' c' : Nat} {h' : Hp} (e1 : appendV P h sT sT (.slice a n c) x = some (.slice a' n' c', h')) : a' = some ⟨h.nx, 0, none⟩ := by
  rcases H with H | ⟨rfl, rfl, rfl, o, rfl, h2, h3, e2, m, h4⟩
  · exact append_new T H hx hs h1 hkp e1
  · obtain ⟨hz, info, z, hi, hzz, hrun⟩ := T.run
    rw [hrun h _ x hx, hs] at e1
    have hk0 : Nat.beq k 0 = false := by rw [Bool.eq_false_iff]; intro hh; have := Nat.eq_of_beq_eq_true hh; omega
    simp only [Option.bind_some, h1, cond_true, hk0, cond_false] at e1
    unfold appSome at e1
    have e3 : Nat.beq 0 unk = false := by
      rw [Bool.eq_false_iff]; intro hh; have := Nat.eq_of_beq_eq_true hh; have : unk = 18446744073709551616 := rfl; omega
    have e4 : Nat.ble (0 + k) 0 = false := by
      rw [Bool.eq_false_iff]; intro hh; have : 0 + k ≤ 0 := by simpa using hh
      omega
    have e5 : readAt h o 0 (0 * esz) = some [] := by rw [Nat.zero_mul, readAt_get h4 (by simp)]; rfl
    simp only [h4, e3, e4, e5, cond_false, Option.bind_some] at e1
    unfold appNew at e1
    obtain ⟨_, e1⟩ := cond_some e1
    injection e1 with e1
    injection e1 with e1 _
    injection e1 with e1 _
    exact e1.symm
/-- What an append to a list of lists leaves. -/
structure LLK (lo base : Nat) (g h' : Hp) (a : Option Addr) : Prop where
  kp : Kp base g h'
  st : ∀ {a3 : Option Addr} {n3 c3 : Nat} {zs : List Int}, IntsAt g a3 n3 zs → VOk lo base (.slice a3 n3 c3) → IntsAt h' a3 n3 zs
  oth : ∀ q, q < g.nx → a ≠ some ⟨q, 0, none⟩ → g.get q ≠ none → h'.get q = g.get q
theorem accE_live {h : Hp} {base : Nat} {e : TypeId} {esz : Nat} {a : Option Addr} {n c : Nat} {xs : List Value} (A : AccE h base e esz a n c xs) {o : Nat} (ha : a = some ⟨o, 0, none⟩) : h.get o ≠ none := by
  rcases A with (⟨h0, _⟩ | ⟨p, h0, _, _, _, _, h6⟩) | ⟨_, _, _, p, h0, _, _, _, _, h6⟩
  · rw [h0] at ha; cases ha
  · rw [h0] at ha; injection ha with ha; injection ha with ha; subst ha; rw [h6]; simp
  · rw [h0] at ha; injection ha with ha; injection ha with ha; subst ha; rw [h6]; simp
/-- Another list of lists stays. -/
theorem LL.keep2 {lo base : Nat} {g h' : Hp} {a a2 : Option Addr} {n2 c2 : Nat} {yss : List (List Int)} (A : LL lo base g a2 n2 c2 yss) (k : LLK lo base g h' a) (ne : ∀ q, a2 = some ⟨q, 0, none⟩ → a ≠ some ⟨q, 0, none⟩) : LL lo base h' a2 n2 c2 yss := by
  obtain ⟨vs, A, L, o⟩ := A
  refine ⟨vs, A.keep (fun q hq ha => k.oth q hq (ne q ha) (accE_live A ha)) k.kp.nx, ⟨L.1, fun i hi => ?_⟩, o⟩
  obtain ⟨v, hv, a3, n3, c3, e, X⟩ := L.2 i hi
  have e' : v = .slice a3 n3 c3 := by simpa using e
  exact ⟨v, hv, a3, n3, c3, e, k.st X (by rw [← e']; exact o v (List.mem_of_getElem? hv))⟩
theorem LL.appR {lo base : Nat} (hlo : lo ≤ base) {g : Hp} {a : Option Addr} {n c : Nat} {xss : List (List Int)} (A : LL lo base g a n c xss) {a1 : Option Addr} {n1 c1 : Nat} {ys : List Int} (Y : IntsAt g a1 n1 ys) (okY : VOk lo base (.slice a1 n1 c1)) (hb : base ≤ g.nx) (hg : GdLt g base)
    {q : Nat} (hq : g.get q = none) (hq2 : q < g.nx) (hqb : base ≤ q) {l : List Nat} (hl : ∀ i ∈ l, i < base) (hn : n < 10000000)
    {K : Option Addr → Nat → Nat → Hp → Prop} (next : ∀ a' c' h', LL lo base (h'.rst (g.lay q (.cells [.slice a1 n1 c1] 32 .fix))) a' (n + 1) c' (xss ++ [ys]) → (∀ p, a' = some ⟨p, 0, none⟩ → g.nx ≤ p) → LLK lo base g (h'.rst (g.lay q (.cells [.slice a1 n1 c1] 32 .fix))) a → K a' (n + 1) c' h') :
    vreq (g.free q) (let g2 := g.lay q (.cells [.slice a1 n1 c1] 32 .fix); ∃ a' n' c' h', appendV Tryd.prog (g2.grd l) 28 28 (.slice a n c) (.slice (some ⟨q, 0, none⟩) 1 1) = some (.slice a' n' c', h') ∧ K a' n' c' h') := by
  have _ := hlo
  obtain ⟨vs, A, L, o⟩ := A
  refine vreq_t (free_t hq) ?_
  intro g2
  have aq : a ≠ some ⟨q, 0, none⟩ := fun ha => by
    rcases A with (⟨h0, _⟩ | ⟨p, h0, _, _, _, _, h6⟩) | ⟨_, _, _, p, h0, _, _, _, _, h6⟩
    · rw [h0] at ha; cases ha
    · rw [h0] at ha; injection ha with ha; injection ha with ha; subst ha; rw [hq] at h6; cases h6
    · rw [h0] at ha; injection ha with ha; injection ha with ha; subst ha; rw [hq] at h6; cases h6
  have A2 : AccE (g2.grd l) base 32 1 a n c vs := A.keep (fun p _ hp => by
    show g2.get p = _
    rw [get_lay, if_neg (show p ≠ q from fun hh => aq (by rw [← hh]; exact hp))]) (Nat.le_refl _)
  have gl : GdLt (g2.grd l) base := fun i hi => (List.mem_append.1 hi).elim (hl i) (hg i)
  have src : (g2.grd l).get q = some (.cells [.slice a1 n1 c1] 32 .fix) := by show g2.get q = _; rw [get_lay, if_pos rfl]
  obtain ⟨a', n', c', h', e1, A', rfl, k⟩ := append_accE app28 A2 hb gl ⟨_, _, _, rfl⟩ (src_get (n := 1) (c := 1) (esz := 1) (off := 0) (read1 (i := 0) (v := .slice a1 n1 c1) src rfl)) rfl rfl (by omega) (by unfold big; omega)
  have k1 : AppK g2 (h'.rst g2) a := ⟨k.nx, rfl, k.fr, k.get⟩
  have k2 : Kp base g (h'.rst g2) := ((Kp.refl base g).lay hqb hq2 _).trans (k1.kpE A2 hb)
  -- what lies elsewhere stays
  have st : ∀ {a3 : Option Addr} {n3 c3 : Nat} {zs : List Int}, IntsAt g a3 n3 zs → VOk lo base (.slice a3 n3 c3) → IntsAt (h'.rst g2) a3 n3 zs := by
    intro a3 n3 c3 zs Z ok
    refine ints_sub Z (fun b off hb hlt => ?_) k2.nx
    have hne := LL.ne A L Z hb (ok b off n3 c3 (by rw [hb])).2
    have hbq : b ≠ q := by
      rintro rfl
      rcases Z.2 with ⟨_, e⟩ | ⟨b', off', cs, e', m', h1, h2, h3, _⟩
      · rw [hb] at e; cases e
      · rw [hb] at h1; injection h1 with h1; injection h1 with h1; subst h1; rw [hq] at h3; cases h3
    rw [k1.get b hlt hne, get_lay, if_neg hbq]
  have fr := append_newE app28 A2 ⟨_, _, _, rfl⟩ (src_get (n := 1) (c := 1) (esz := 1) (off := 0) (read1 (i := 0) (v := .slice a1 n1 c1) src rfl)) rfl Nat.one_pos e1
  refine ⟨a', _, c', h', e1, next a' c' h' ⟨vs ++ [.slice a1 n1 c1], AccE.keep (h := h') A' (fun _ _ _ => rfl) (Nat.le_refl _), Lis.app ⟨L.1, fun i hi => ?_⟩ ⟨rfl, fun i hi => ?_⟩, fun v hv => ?_⟩ (fun p hp => by rw [fr] at hp; injection hp with hp; injection hp with hp; exact Nat.le_of_eq hp) ⟨k2, st, fun p hp hne hl => by rw [k1.get p hp hne, get_lay, if_neg (fun hh => hl (by rw [hh]; exact hq))]⟩⟩
  · obtain ⟨v, hv, a3, n3, c3, e, X⟩ := L.2 i hi
    have e' : v = .slice a3 n3 c3 := by simpa using e
    exact ⟨v, hv, a3, n3, c3, e, st X (by rw [← e']; exact o v (List.mem_of_getElem? hv))⟩
  · have : i = 0 := by simpa using hi
    subst this
    exact ⟨_, rfl, a1, n1, c1, rfl, st Y okY⟩
  · rcases List.mem_append.1 hv with hv | hv
    · exact o v hv
    · obtain rfl := List.mem_singleton.1 hv; exact okY
/-- The same outside of a region. -/
theorem LL.app {lo base : Nat} (hlo : lo ≤ base) {g : Hp} {a : Option Addr} {n c : Nat} {xss : List (List Int)} (A : LL lo base g a n c xss) {a1 : Option Addr} {n1 c1 : Nat} {ys : List Int} (Y : IntsAt g a1 n1 ys) (okY : VOk lo base (.slice a1 n1 c1)) (hb : base ≤ g.nx) (hg : GdLt g base) (hf : g.Fresh) (hn : n < 10000000)
    {K : Option Addr → Nat → Nat → Hp → Prop} (next : ∀ a' c' h', LL lo base h' a' (n + 1) c' (xss ++ [ys]) → (∀ p, a' = some ⟨p, 0, none⟩ → g.nx ≤ p) → LLK lo base g h' a → K a' (n + 1) c' h') :
    ∃ a' n' c' h', appendV Tryd.prog (g.add (.cells [.slice a1 n1 c1] 32 .fix)) 28 28 (.slice a n c) (.slice (some ⟨g.nx, 0, none⟩) 1 1) = some (.slice a' n' c', h') ∧ K a' n' c' h' := by
  have _ := hlo
  obtain ⟨vs, A, L, o⟩ := A
  have A2 : AccE (g.add (.cells [.slice a1 n1 c1] 32 .fix)) base 32 1 a n c vs := AccE.to _ A
  obtain ⟨a', n', c', h', e1, A', rfl, k⟩ := append_accE app28 A2 (by rw [nx_add]; omega) hg ⟨_, _, _, rfl⟩ (src_get (n := 1) (c := 1) (esz := 1) (off := 0) (read1 (i := 0) (v := .slice a1 n1 c1) (get_add_same ..) rfl)) rfl rfl (by omega) (by unfold big; omega)
  have _ := hf
  have k2 : Kp base g h' := ((Kp.refl base g).add hb _).trans (k.kpE A2 (by rw [nx_add]; omega))
  have st : ∀ {a3 : Option Addr} {n3 c3 : Nat} {zs : List Int}, IntsAt g a3 n3 zs → VOk lo base (.slice a3 n3 c3) → IntsAt h' a3 n3 zs := by
    intro a3 n3 c3 zs Z ok
    refine ints_sub Z (fun b off hb hlt => ?_) k2.nx
    have hne := LL.ne A L Z hb (ok b off n3 c3 (by rw [hb])).2
    rw [k.get b (by rw [nx_add]; omega) hne, get_add_ne (by omega)]
  have fr := append_newE app28 A2 ⟨_, _, _, rfl⟩ (src_get (n := 1) (c := 1) (esz := 1) (off := 0) (read1 (i := 0) (v := .slice a1 n1 c1) (get_add_same ..) rfl)) rfl Nat.one_pos e1
  refine ⟨a', _, c', h', e1, next a' c' _ ⟨vs ++ [.slice a1 n1 c1], A', Lis.app ⟨L.1, fun i hi => ?_⟩ ⟨rfl, fun i hi => ?_⟩, fun v hv => ?_⟩ (fun p hp => by rw [fr] at hp; injection hp with hp; injection hp with hp; have : (g.add (.cells [.slice a1 n1 c1] 32 .fix)).nx = g.nx + 1 := rfl; omega) ⟨k2, st, fun p hp hne _ => by rw [k.get p (by rw [nx_add]; omega) hne, get_add_ne (by omega)]⟩⟩
  · obtain ⟨v, hv, a3, n3, c3, e, X⟩ := L.2 i hi
    have e' : v = .slice a3 n3 c3 := by simpa using e
    exact ⟨v, hv, a3, n3, c3, e, st X (by rw [← e']; exact o v (List.mem_of_getElem? hv))⟩
  · have : i = 0 := by simpa using hi
    subst this
    exact ⟨_, rfl, a1, n1, c1, rfl, st Y okY⟩
  · rcases List.mem_append.1 hv with hv | hv
    · exact o v hv
    · obtain rfl := List.mem_singleton.1 hv; exact okY
section
variable {O : CallF} (hO : Oth O)
include hO
theorem ct56 {h : Hp} (ok : h.Ok) {g0 : Hp} [f0 : Ft g0 h] {a0 : Option Addr} {n0 c0 : Nat} {xss : List (List Int)} (X : IntssAt g0 a0 n0 xss) (hl : xss.length < 10000) {B : Nat} (hB1 : g0.nx ≤ B) (hB2 : B ≤ h.nx) : Ret Tryd.prog O 56 [.slice a0 n0 c0] h fun v h' => ∃ a n c, v = .slice a n c ∧ LL g0.nx B h' a n c xss ∧ Kp h.nx h h' := by
  refine rk56 _ _ _ (hO _ _ _ (by decide)) ?_
  unfold T56
  cases a0 with
  | none =>
    have : xss = [] := by
      rcases X.2 with ⟨e, _⟩ | ⟨_, _, _, _, _, e, _⟩
      · exact e
      · cases e
    subst this
    exact ⟨_, _, _, rfl, .nil .., .refl _ _⟩
  | some q =>
    show let g1 : Hp := h.add (.cells [] 32 .fix); _
    intro g1
    have Z : AccE g1 h.nx 32 1 (some ⟨h.nx, 0, none⟩) 0 0 [] := .inr ⟨rfl, rfl, rfl, h.nx, rfl, Nat.le_refl _, Nat.lt_succ_self _, _, _, get_add_same ..⟩
    have k1 : Kp h.nx h g1 := (Kp.refl _ _).add (Nat.le_refl _) _
    have f1 : Ft g0 g1 := f0.tr (k1.ex (Nat.le_refl _))
    obtain ⟨vs, src, l1, l2⟩ := intss_src (c2 := c0) X
    have src1 : srcCells g1 1 (.slice (some q) n0 c0) = some (vs, n0) := by
      rw [← src]
      rcases X.2 with ⟨_, e⟩ | ⟨b, off, cs, e', m', h1, h2, _⟩
      · cases e
      · rw [h1]
        show (readAt g1 b off (n0 * 1)).map _ = (readAt g0 b off (n0 * 1)).map _
        rw [readAt_ex (g := g0) h2]
    have L : Lis g0 vs xss := ⟨l1, l2⟩
    obtain ⟨a', n', c', h', e1, A, _, K⟩ := append_accE app28 Z (by show h.nx ≤ h.nx + 1; omega) (fun q hq => ok.gd q hq) ⟨_, _, _, rfl⟩ src1 (by rw [l1, X.1]; omega) L.one (by rw [X.1]; omega) (by rw [X.1]; unfold big; omega)
    have k2 := k1.trans (K.kpE Z (by show h.nx ≤ h.nx + 1; omega))
    have f2 : Ft g0 h' := f0.tr (k2.ex (Nat.le_refl _))
    have A' : AccE h' B 32 1 a' n' c' ([] ++ vs) := by
      rcases A with (⟨a1, a2, a3, a4⟩ | ⟨o, a1, a2, a3, a4, a5, a6⟩) | ⟨a1, a2, a3, o, a4, a5, a6⟩
      · exact .inl (.inl ⟨a1, a2, a3, a4⟩)
      · exact .inl (.inr ⟨o, a1, a2, a3, Nat.le_trans hB2 a4, a5, a6⟩)
      · exact .inr ⟨a1, a2, a3, o, a4, Nat.le_trans hB2 a5, a6⟩
    refine ⟨a', n', c', h', e1, _, _, _, rfl, ⟨vs, A', L.to h', fun v hv b off n c e => ?_⟩, k2⟩
    obtain ⟨i, hi⟩ := List.mem_iff_getElem?.1 hv
    have hi2 : i < xss.length := by rw [← l1]; exact (List.getElem?_eq_some_iff.1 hi).1
    obtain ⟨w, hw, a3, n3, c3, e3, Y⟩ := L.2 i hi2
    rw [hi] at hw
    injection hw with hw
    have e3 : w = .slice a3 n3 c3 := by simpa using e3
    rw [← hw, e] at e3
    injection e3 with e3
    have : b < g0.nx := by
      rcases Y.2 with ⟨_, e⟩ | ⟨b', off', cs, e', m', h1, h2, _⟩
      · rw [← e3] at e; cases e
      · rw [← e3] at h1; injection h1 with h1; injection h1 with h1; omega
    exact ⟨.inl this, .inl (by omega)⟩
end
/-- Something is laid at a number that was free. -/
theorem ints_lay {h : Hp} {q : Nat} (hq : h.get q = none) (x : Ob) {a : Option Addr} {n : Nat} {xs : List Int} (X : IntsAt h a n xs) : IntsAt (h.lay q x) a n xs := by
  refine ⟨X.1, X.2.imp id ?_⟩
  rintro ⟨b, off, c, e, m, h1, h2, h3, h4, h5⟩
  exact ⟨b, off, c, e, m, h1, h2, by rw [get_lay, if_neg (fun hh => by rw [hh, hq] at h3; cases h3)]; exact h3, h4, h5⟩
theorem LL.lay {lo base : Nat} {h : Hp} {q : Nat} (hq : h.get q = none) (x : Ob) {a : Option Addr} {n c : Nat} {xss : List (List Int)} (A : LL lo base h a n c xss) : LL lo base (h.lay q x) a n c xss := by
  obtain ⟨vs, A, L, o⟩ := A
  refine ⟨vs, A.keep (fun p _ hp => by rw [get_lay, if_neg (fun hh => accE_live A hp (by rw [hh]; exact hq))]) (Nat.le_refl _), ⟨L.1, fun i hi => ?_⟩, o⟩
  obtain ⟨v, hv, a', n', c', e, X⟩ := L.2 i hi
  exact ⟨v, hv, a', n', c', e, ints_lay hq x X⟩
end Go.Proofs.YtfgfhplgnfbaaaaDoor
/- Contracts of layer 20: formulas by numbers. -/
namespace Go.Proofs.YtfgfhplgnfbaaaaDoor
open Go Go.Ev
/-- The literals of a clause by numbers, from one on. -/
def rst3 (N a b c : Int) : Nat → List Int
  | 0 => litP a N :: litP b N :: (if c < 0 then [] else [litP c N])
  | 1 => litP b N :: (if c < 0 then [] else [litP c N])
  | 2 => if c < 0 then [] else [litP c N]
  | _ => []
/-- The clauses of a formula by numbers. -/
def clsN (N : Int) (cl : List Int) : Nat → List (List Int)
  | 0 => []
  | k + 1 => clsN N cl k ++ [clauseN (rst3 N (cl.getD (3 * k) 0) (cl.getD (3 * k + 1) 0) (cl.getD (3 * k + 2) 0) 0)]
/-- A puzzle's cells. -/
def puzV (vars many : Nat) (cl : List Int) : List Value := .int .u8 (Int.ofNat vars) :: .int .u8 (Int.ofNat many) :: cl.map (Value.int .i8)
structure PuzOk (vars many : Nat) (cl : List Int) : Prop where
  v : vars < 256
  m : many < 256
  len : cl.length = 42
  rng : ∀ x ∈ cl, -128 ≤ x ∧ x < 128
theorem PuzOk.at {vars many : Nat} {cl : List Int} (p : PuzOk vars many cl) (k : Nat) : -128 ≤ cl.getD k 0 ∧ cl.getD k 0 < 128 := by
  rw [List.getD_eq_getElem?_getD]
  by_cases hk : k < cl.length
  · rw [List.getElem?_eq_getElem hk]; exact p.rng _ (List.getElem_mem hk)
  · rw [List.getElem?_eq_none (by omega)]; exact ⟨by decide, by decide⟩
theorem rst3_lit {N a b c : Int} (hN : 1 ≤ N ∧ N ≤ 30) (ha : -128 ≤ a ∧ a < 128) (hb : -128 ≤ b ∧ b < 128) (hc : -128 ≤ c ∧ c < 128) (k : Nat) : ∀ x ∈ rst3 N a b c k, Lit x ∧ x.natAbs ≤ N.toNat := by
  have la := litP_ok ha.1 ha.2 hN.1 hN.2
  have lb := litP_ok hb.1 hb.2 hN.1 hN.2
  have lc := litP_ok hc.1 hc.2 hN.1 hN.2
  have t : ∀ x ∈ (if c < 0 then [] else [litP c N]), Lit x ∧ x.natAbs ≤ N.toNat := by
    intro x hx
    split at hx
    · cases hx
    · rw [List.mem_singleton.1 hx]; exact lc
  intro x hx
  match k with
  | 0 =>
    rcases List.mem_cons.1 hx with rfl | hx
    · exact la
    · rcases List.mem_cons.1 hx with rfl | hx
      · exact lb
      · exact t x hx
  | 1 =>
    rcases List.mem_cons.1 hx with rfl | hx
    · exact lb
    · exact t x hx
  | 2 => exact t x hx
  | _ + 3 => cases hx
theorem rst3_len (N a b c : Int) : (rst3 N a b c 0).length ≤ 3 := by
  show (litP a N :: litP b N :: (if c < 0 then [] else [litP c N])).length ≤ 3
  split <;> simp
section
variable {O : CallF} (hO : Oth O)
include hO
theorem lp16_1 {h₀ hI : Hp} (ok : h₀.Ok) (kI : Kp h₀.nx h₀ hI) {v0 : Array Value} {x1 : Int} {b4 f4 b5 : Nat} {aC : Option Addr} {nC cC : Nat} {N : Int} (hN : 1 ≤ N ∧ N ≤ 30) (g5 : hI.get b5 = some (.cells [.int .i64 N, .slice aC nC cC] 30 .fix)) (hb5 : h₀.nx ≤ b5 ∧ b5 < hI.nx) {B : Nat} (hB : b5 < B ∧ B ≤ hI.nx) {cls : List (List Int)} (A : LL h₀.nx B hI aC nC cC cls) (hcl : nC < 100) {a23 : Option Addr} {n23 c23 : Nat} {x24 : Int} {j : Nat} (hj : j < 100) {a b c : Int} (ha : -128 ≤ a ∧ a < 128) (hb : -128 ≤ b ∧ b < 128) (hc : -128 ≤ c ∧ c < 128) {Q : Value → Hp → Prop}
    (next : ∀ h a' c', Kp h₀.nx h₀ h → (∀ o, o < B → o ≠ b5 → h.get o = hI.get o) → hI.nx ≤ h.nx → h.get b5 = some (.cells [.int .i64 N, .slice a' (nC + 1) c'] 30 .fix) → LL h₀.nx B h a' (nC + 1) c' (cls ++ [clauseN (rst3 N a b c 0)]) → I16_0 O Q v0 x1 b4 f4 b5 0 a23 n23 c23 x24 (Int.ofNat (j + 1)) h) :
    ∀ (d k : Nat), k + d = 3 → ∀ {h : Hp} {a8 n8 c8} {acc : List Int}, Kp hI.nx hI h → AccI 3 h hI.nx a8 n8 c8 acc → acc ++ rst3 N a b c k = rst3 N a b c 0 →
      I16_1 O Q v0 x1 b4 f4 b5 0 a8 n8 c8 a23 n23 c23 x24 (Int.ofNat j) a b c (Int.ofNat k) h := by
  have gdb : ∀ {h : Hp}, Kp hI.nx hI h → GdLt h hI.nx := fun k q hq => by
    have : q ∈ h₀.gd := by rw [← kI.gd, ← k.gd]; exact hq
    have := ok.gd q this; have := kI.nx; omega
  intro d
  induction d with
  | zero =>
    intro k hk h a8 n8 c8 acc kp Ac he
    refine I16_1.of _ _ _ _ _ _ _ _ _ _ _ _ _ _ _ _ _ _ ?_
    unfold T16_1
    obtain rfl : k = 3 := by omega
    have he : acc = rst3 N a b c 0 := by simpa [rst3] using he
    refine vcond_f rfl ?_
    intro g1
    have fI : Ft hI h := kp.ex (Nat.le_refl _)
    have f1 : Ft hI g1 := inferInstanceAs (Ft hI (h.rsv _))
    refine ⟨_, _, _, (readAt_ex (g := hI) hb5.2).trans (read1 g5 (i := 0 + 1) rfl), ?_⟩
    have okh : h.Ok := (ok.kp kI).kp kp
    have okg : (g1.grd [b5]).Ok := (okh.rsv _).grd fun q hq => by
      obtain rfl := List.mem_singleton.1 hq
      show q < h.nx + 8
      have := kp.nx; omega
    have Ag : IntsAt (g1.grd [b5]) a8 n8 acc := Ac.ints.to _
    have lits := rst3_lit hN ha hb hc 0
    subst he
    refine (ct19 hO okg Ag (by have := rst3_len N a b c; omega) fun x hx => (lits x hx).1).s fun a1 n1 c1 h2 ⟨Y, K2, fr, ez⟩ => ?_
    intro g2
    have K2' : Kp g1.nx g1 g2 := ⟨K2.get, K2.nx, rfl, K2.fr⟩
    have f2 : Ft hI g2 := f1.tr (K2'.ex (Nat.le_refl _))
    have A2 : LL h₀.nx B g2 aC nC cC cls := A.to g2
    have hnx := kp.nx
    have hq : g2.get (h.nx + 4) = none := by
      rw [K2'.get _ (show h.nx + 4 < h.nx + 8 by omega)]
      exact okh.fr _ (by omega)
    have nx2 : h.nx + 4 < g2.nx := Nat.lt_of_lt_of_le (show h.nx + 4 < h.nx + 8 by omega) K2'.nx
    have okY : VOk h₀.nx B (.slice a1 n1 c1) := fun p off m w e => by
      injection e with e1 e2
      have hh : g1.nx ≤ p := fr p off e1
      have hh2 : h.nx ≤ p := Nat.le_trans (Nat.le_add_right ..) hh
      refine ⟨.inr (by omega), .inr ?_⟩
      rcases Nat.eq_zero_or_pos m with h0 | h0
      · have := Y.1
        have : clauseN (rst3 N a b c 0) = [] := List.length_eq_zero_iff.1 (by omega)
        rw [ez this] at e1; cases e1
      · exact h0
    have Y2 : IntsAt g2 a1 n1 (clauseN (rst3 N a b c 0)) := Y.to _
    have gd2 : GdLt g2 B := fun q hq => by
      have : q ∈ h₀.gd := by rw [← kI.gd, ← kp.gd]; exact hq
      have := ok.gd q this; omega
    refine LL.appR (by omega) A2 Y2 okY (by omega) gd2 hq nx2 (by omega) (fun i hi => by cases hi) (by omega) fun a' c' h3 A3 _ K3 => ?_
    intro g3
    have K3 : Kp B g2 g3 := K3.kp
    have A3 : LL h₀.nx B g3 a' (nC + 1) c' _ := A3
    have e5 : g3.get b5 = some (.cells [.int .i64 N, .slice aC nC cC] 30 .fix) := by
      rw [K3.get _ hB.1, f2.get _ hb5.2]; exact g5
    have gu : (g3.grd []).guarded b5 = false := guarded_of fun q hq => by
      have : q ∈ h₀.gd := by rw [← kI.gd, ← kp.gd]; exact K3.gd ▸ hq
      have := ok.gd q this; omega
    have e5' : (g3.grd []).get b5 = some (.cells [.int .i64 N, .slice aC nC cC] 30 .fix) := e5
    refine vreq_t (canW_t e5' (by decide) gu (by simp) rfl) ?_
    intro g4 g5'
    rw [wrap_succ (by omega)]
    have w4 : g4.get b5 = some (.cells [.int .i64 N, .slice a' (nC + 1) c'] 30 .fix) := (wr_get e5' (by decide) gu (by simp) rfl).trans rfl
    have A4 : LL h₀.nx B g4 a' (nC + 1) c' _ := (show LL h₀.nx B (g3.grd []) a' (nC + 1) c' _ from A3.to _).wr hb5.1 hB.1 _ _
    have k12 : Kp h₀.nx h₀ g3 := ((kI.trans (kp.le kI.nx)).rsv _ |>.trans (K2'.le (Nat.le_trans kI.nx (Nat.le_trans hnx (Nat.le_add_right ..))))).trans (K3.le (by omega))
    have k4 : Kp h₀.nx h₀ g5' := by
      have w : Kp h₀.nx h₀ g4 := (show Kp h₀.nx h₀ (g3.grd []) from ⟨k12.get, k12.nx, k12.gd, k12.fr⟩).wr hb5.1 _ _
      exact ⟨w.get, w.nx, k12.gd, w.fr⟩
    have n3 : hI.nx ≤ g3.nx := Nat.le_trans hnx (Nat.le_trans (Nat.le_of_lt (Nat.lt_of_le_of_lt (Nat.le_add_right _ 4) nx2)) K3.nx)
    refine next g5' a' c' k4 (fun o ho h1 => ?_) ?_ w4 (A4.to _)
    · show g4.get o = _
      rw [wr_get_ne _ _ _ _ h1]
      show g3.get o = _
      rw [K3.get o ho, f2.get o (by omega)]
    · show hI.nx ≤ g4.nx
      rw [nx_wr]; exact n3
  | succ d ih =>
    intro k hk h a8 n8 c8 acc kp Ac he
    refine I16_1.of _ _ _ _ _ _ _ _ _ _ _ _ _ _ _ _ _ _ ?_
    unfold T16_1
    have f1 : Ft hI h := kp.ex (Nat.le_refl _)
    have gN : readAt h b5 (0 + 0) 1 = some [.int .i64 N] := (readAt_ex (g := hI) hb5.2).trans (read1 g5 (i := 0) rfl)
    have push : ∀ {x : Int}, (-128 ≤ x ∧ x < 128) → rst3 N a b c k = litP x N :: rst3 N a b c (k + 1) → ∃ x', readAt h b5 (0 + 0) 1 = some [.int .i64 x'] ∧ ∃ y, ∃ h', EvC Tryd.prog O 21 [.int .i8 x, .int .i64 x'] h (.int .i64 y) h' ∧ (let g := h'.add (.cells [.int .i64 y] 3 .fix); ∃ a' n' c' h2, appendV Tryd.prog g 32 32 (.slice a8 n8 c8) (.slice (some ⟨h'.nx, 0, none⟩) 1 1) = some (.slice a' n' c', h2) ∧ I16_1 O Q v0 x1 b4 f4 b5 0 a' n' c' a23 n23 c23 x24 (Int.ofNat j) a b c (Int.ofNat (k + 1)) h2) := by
      intro x hx hr
      refine ⟨_, gN, _, _, ct21 hO hx.1 hx.2 hN.1 hN.2 h, ?_⟩
      intro g
      have al : acc.length ≤ 3 := by
        have := congrArg List.length he
        have := rst3_len N a b c
        simp at *; omega
      exact appI app32 Ac kp.nx (gdb kp) (by omega) fun a' n' c' h' A' _ kA => ih (k + 1) (by omega) (kp.trans kA) A' (by rw [List.append_assoc, List.singleton_append, ← hr]; exact he)
    rw [wrap_succ (by omega)]
    have hk3 : k = 0 ∨ k = 1 ∨ k = 2 := by omega
    rcases hk3 with rfl | rfl | rfl
    · refine vcond_t rfl (isNat_i (vreq_t rfl (vcond_t rfl ?_)))
      exact push ha rfl
    · refine vcond_t rfl (isNat_i (vreq_t rfl (vcond_t rfl ?_)))
      exact push hb rfl
    · refine vcond_t rfl (isNat_i (vreq_t rfl (vcond_f rfl (vcond_split (fun hh => ?_) fun hh => ?_))))
      · have hh : ¬ c < 0 := not_lt_of_f (show ltI c 0 = false by simpa using hh)
        exact push hc (by simp [rst3, hh])
      · have hh : c < 0 := lt_of_t (show ltI c 0 = true by simpa using hh)
        exact ih 3 (by omega) kp Ac (by simpa [rst3, hh] using he)
theorem lp16_0 {h₀ : Hp} (ok : h₀.Ok) {vars many : Nat} {cl : List Int} (p : PuzOk vars many cl) {v0 : Array Value} {x1 : Int} {N : Int} (hN : 1 ≤ N ∧ N ≤ 30) {M c23 : Nat} (hM : M ≤ 14) :
    ∀ (d k : Nat), k + d = M → ∀ {h : Hp} {aC nC cC}, Kp h₀.nx h₀ h → h₀.nx + 3 ≤ h.nx → h.get h₀.nx = some (.cells (puzV vars many cl) 26 .fix) → h.get (h₀.nx + 1) = some (.cells [.int .i64 0, .slice none 0 0] 30 .fix) → h.get (h₀.nx + 2) = some (.cells [.int .i64 N, .slice aC nC cC] 30 .fix) → LL h₀.nx (h₀.nx + 3) h aC nC cC (clsN N cl k) → nC = k →
      I16_0 O (fun v h' => ∃ a n c, v = .agg #[.int .i64 N, .slice a n c] ∧ IntssAt h' a n (clsN N cl M) ∧ Kp h₀.nx h₀ h') v0 x1 (h₀.nx + 1) 0 (h₀.nx + 2) 0 (some ⟨h₀.nx, 2, none⟩) M c23 (Int.ofNat M) (Int.ofNat k) h := by
  intro d
  induction d with
  | zero =>
    intro k hk h aC nC cC kp hnx g0 g1 g2 A hnk
    refine I16_0.of _ _ _ _ _ _ _ _ _ _ _ ?_
    unfold T16_0
    obtain rfl : k = M := by omega
    refine vcond_f (by rw [ltI_nat]; exact blt_f (by omega)) ⟨_, _, _, _, readAt_get g2 (by simp), ?_⟩
    have gu : h.guarded (h₀.nx + 1) = false := guarded_of fun q hq => by
      have : q ∈ h₀.gd := by rw [← kp.gd]; exact hq
      have := ok.gd q this; omega
    refine vreq_t (canW_t g1 (by decide) gu (by simp) rfl) ?_
    intro gw
    have w : gw.get (h₀.nx + 1) = some (.cells [.int .i64 N, .slice aC nC cC] 30 .fix) := (wr_get g1 (by decide) gu (by simp) rfl).trans rfl
    exact ⟨_, _, _, _, readAt_get w (by simp), _, _, _, rfl, (A.wr (by omega) (by omega) _ _).intss, kp.wr (by omega) _ _⟩
  | succ d ih =>
    intro k hk h aC nC cC kp hnx g0 g1 g2 A hnk
    refine I16_0.of _ _ _ _ _ _ _ _ _ _ _ ?_
    unfold T16_0
    have hl := p.len
    have rd : readAt h h₀.nx (2 + k * 3) 3 = some [.int .i8 (cl.getD (3 * k) 0), .int .i8 (cl.getD (3 * k + 1) 0), .int .i8 (cl.getD (3 * k + 2) 0)] := by
      rw [readAt_get g0 (by simp [puzV]; omega)]
      have h1 : 3 * k + 2 < cl.length := by omega
      have e : (puzV vars many cl).drop (2 + k * 3) = (cl.map (Value.int .i8)).drop (3 * k) := by
        unfold puzV
        rw [show 2 + k * 3 = 3 * k + 1 + 1 by omega, List.drop_succ_cons, List.drop_succ_cons]
      rw [e, List.drop_eq_getElem_cons (by simp; omega), List.drop_eq_getElem_cons (by simp; omega), List.drop_eq_getElem_cons (by simp; omega)]
      simp only [List.take_succ_cons, List.take_zero, List.getElem_map, List.getD_eq_getElem?_getD]
      rw [List.getElem?_eq_getElem (by omega), List.getElem?_eq_getElem (by omega), List.getElem?_eq_getElem (by omega)]; rfl
    refine vcond_t (by rw [ltI_nat]; exact blt_t (by omega)) (isNat_i (show isAddr (some ⟨h₀.nx, 2, none⟩) _ from vreq_t (blt_t (by omega)) ⟨_, _, _, rd, ?_⟩))
    intro g101
    have gu : g101.guarded h.nx = false := guarded_of fun q hq => by
      have : q ∈ h₀.gd := by rw [← kp.gd]; exact hq
      have := ok.gd q this; omega
    have ga : g101.get h.nx = some (.cells [.int .i8 0, .int .i8 0, .int .i8 0] 23 .fix) := get_add_same ..
    refine vreq_t (canW_t ga (by decide) gu (by simp) rfl) ?_
    intro gw
    have w : gw.get h.nx = some (.cells [.int .i8 (cl.getD (3 * k) 0), .int .i8 (cl.getD (3 * k + 1) 0), .int .i8 (cl.getD (3 * k + 2) 0)] 23 .fix) := (wr_get ga (by decide) gu (by simp) rfl).trans rfl
    refine ⟨_, _, _, readAt_get w (by simp), ?_⟩
    have kw : Kp h.nx h gw := ((Kp.refl h.nx h).add (Nat.le_refl _) _).wr (Nat.le_refl _) _ _
    have fw : Ft h gw := kw.ex (Nat.le_refl _)
    have kI : Kp h₀.nx h₀ gw := kp.trans (kw.le kp.nx)
    refine lp16_1 hO ok kI hN (aC := aC) (nC := nC) (cC := cC) (cls := clsN N cl k) ((fw.get _ (by omega)).trans g2) ⟨by omega, Nat.lt_of_lt_of_le (by omega) kw.nx⟩ (B := h₀.nx + 3) ⟨by omega, Nat.le_trans hnx kw.nx⟩ (A.to gw) (by omega) (by omega) (p.at _) (p.at _) (p.at _) (fun h' a' c' k' hs hn' g5 A' => ?_) 3 0 (by omega) (.refl _ _) (AccI.nil ..) (by simp)
    have fo : ∀ o, o < h₀.nx + 2 → h'.get o = h.get o := fun o ho => by rw [hs o (by omega) (by omega), fw.get o (by omega)]
    exact ih (k + 1) (by omega) k' (Nat.le_trans hnx (Nat.le_trans kw.nx hn')) ((fo _ (by omega)).trans g0) ((fo _ (by omega)).trans g1) g5 A' (by omega)
theorem ct16 {h : Hp} (ok : h.Ok) {vars many : Nat} {cl : List Int} (p : PuzOk vars many cl) {x1 : Int} (h1 : 1 ≤ x1 ∧ x1 ≤ 20) :
    Ret Tryd.prog O 16 [.agg (puzV vars many cl).toArray, .int .i64 x1] h fun v h' => ∃ a n c, v = .agg #[.int .i64 (1 + (vars : Int).tmod x1), .slice a n c] ∧ IntssAt h' a n (clsN (1 + (vars : Int).tmod x1) cl (many % 15)) ∧ Kp h.nx h h' := by
  refine rk16 _ _ (hO _ _ _ (by decide)) ?_
  unfold T16
  have pv := p.v; have pm := p.m
  have hmod : 0 ≤ (vars : Int).tmod x1 ∧ (vars : Int).tmod x1 < x1 := ⟨Int.tmod_nonneg _ (by omega), Int.tmod_lt_of_pos _ (by omega)⟩
  refine vreq_t ?_ ?_
  · simp [puzV, one]
  intro g1 g2
  have e1 : g1.get h.nx = some (.cells (puzV vars many cl) 26 .fix) := get_add_same ..
  have e2 : g2.get h.nx = some (.cells (puzV vars many cl) 26 .fix) := (get_add_ne (show h.nx ≠ h.nx + 1 by omega)).trans e1
  refine ⟨_, read1 e2 (i := 0) rfl, vreq_t (by rw [eqI_f (by omega)]; rfl) ?_⟩
  intro g4
  have ea : g4.get g2.nx = some (.cells [.int .i64 0, .slice none 0 0] 30 .fix) := get_add_same ..
  have gu : g4.guarded g2.nx = false := guarded_of fun q hq => by
    have := ok.gd q hq
    have : g2.nx = h.nx + 1 + 1 := rfl
    omega
  rw [wrap64 (n := Int.ofNat vars) (by simp only [Int.ofNat_eq_natCast]; omega) (by simp only [Int.ofNat_eq_natCast]; omega)]
  rw [show (Int.ofNat vars) = (vars : Int) from rfl, wrap64 (n := 1 + (vars : Int).tmod x1) (by omega) (by omega)]
  refine vreq_t (canW_t ea (by decide) gu (by simp) rfl) ?_
  intro g5
  have w5 : g5.get g2.nx = some (.cells [.int .i64 (1 + (vars : Int).tmod x1), .slice none 0 0] 30 .fix) := (wr_get ea (by decide) gu (by simp) rfl).trans rfl
  have e5 : g5.get h.nx = some (.cells (puzV vars many cl) 26 .fix) :=
    (wr_get_ne _ _ _ _ (show h.nx ≠ h.nx + 1 + 1 by omega)).trans ((get_add_ne (show h.nx ≠ h.nx + 1 + 1 by omega)).trans e2)
  have e6 : g5.get (h.nx + 1) = some (.cells [.int .i64 0, .slice none 0 0] 30 .fix) :=
    (wr_get_ne _ _ _ _ (show h.nx + 1 ≠ h.nx + 1 + 1 by omega)).trans ((get_add_ne (show h.nx + 1 ≠ h.nx + 1 + 1 by omega)).trans (get_add_same g1 _))
  refine ⟨_, read1 e5 (i := 1) rfl, ?_⟩
  rw [wrap64 (n := Int.ofNat many) (by simp only [Int.ofNat_eq_natCast]; omega) (by simp only [Int.ofNat_eq_natCast]; omega)]
  have em : (Int.ofNat many).tmod 15 = Int.ofNat (many % 15) := rfl
  rw [em]
  have sl : sliceV Tryd.prog g5 24 (.pointer (some ⟨h.nx, 2, none⟩)) none (some (.int .i64 (Int.ofNat (many % 15)))) none = some (.slice (some ⟨h.nx, 2, none⟩) (many % 15) 14) := by
    have e2 : sz Tryd.prog 23 = some 3 := by kernel_rfl
    have e3 : Tryd.prog.underlying 24 = some (.array 14 23) := by kernel_rfl
    have e4 : bounds 14 14 none (some (.int .i64 (Int.ofNat (many % 15)))) none = some (0, many % 15, 14) := by
      unfold bounds boundM boundH boundL boundV
      simp only [Option.bind_some, Option.map_some]
      rw [ble_t (by omega)]; rfl
    unfold sliceV
    rw [e3]
    simp only [e2, bind, Option.bind_some, e4]
    rfl
  refine ⟨_, _, _, sl, ?_⟩
  have k5 : Kp h.nx h g5 := ((((Kp.refl h.nx h).add (Nat.le_refl _) _).add (by show h.nx ≤ h.nx + 1; omega) _).add (by show h.nx ≤ h.nx + 1 + 1; omega) _).wr (show h.nx ≤ h.nx + 1 + 1 by omega) _ _
  exact lp16_0 hO ok p (N := 1 + (vars : Int).tmod x1) ⟨by omega, by omega⟩ (M := many % 15) (c23 := 14) (by omega) (many % 15) 0 (by omega) k5 (show h.nx + 3 ≤ g5.nx by show h.nx + 3 ≤ (g4.wr _ _ _).nx; rw [nx_wr]; exact Nat.le_refl _) e5 e6 w5 (.nil ..) rfl
end
end Go.Proofs.YtfgfhplgnfbaaaaDoor
/- The plain law of resolution: what it returns. -/
namespace Go.Proofs.YtfgfhplgnfbaaaaDoor
open Go Go.Ev
theorem isB_neg {m : Nat} {x : Int} (hx : x ≠ 0) : isB m (-x) = !(isB m x) := by
  unfold isB
  rw [Int.natAbs_neg]
  by_cases h : x < 0
  · rw [if_neg (by omega), if_pos h, Bool.not_not]
  · rw [if_pos (by omega), if_neg h]
theorem clB_of {vars : Int} : ∀ {l : List Int} {last : Int}, Dif l → (∀ x ∈ l, Lit x ∧ (x.natAbs : Int) ≤ vars) → (∀ x ∈ l, last < (x.natAbs : Int)) → clB vars last l = true := by
  intro l
  induction l with
  | nil => intro last _ _ _; rfl
  | cons x l ih =>
    intro last hd hl hlast
    obtain ⟨h1, h2⟩ := List.pairwise_cons.1 hd
    have hx := hl x (List.mem_cons_self ..)
    have := hlast x (List.mem_cons_self ..)
    simp only [clB]
    rw [varI_lit2 hx.1, if_neg (by omega)]
    exact ih h2 (fun z hz => hl z (List.mem_cons_of_mem _ hz)) fun z hz => by have := h1 z hz; omega
end Go.Proofs.YtfgfhplgnfbaaaaDoor
