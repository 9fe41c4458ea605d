/- Each operation that asks nothing of memory. -/
import Derived.Test.YtfgfhplgnfbaaaaDoorEvPure
import Derived.Laws.Entries
import Derived.IntWalk
namespace Go.Ev
open Go

theorem add_none (b o n : Nat) : (⟨b, o, none⟩ : Addr).add n = ⟨b, o + n, none⟩ := by
  unfold Addr.add
  split
  · rename_i h; subst h; rfl
  · rfl
theorem run_info {P : Program} {t : TypeId} {i : TypeInfo} (h : P.info? t = some i) (w : World) : (typeInfo t).run P w = .ok i w := by
  simp [typeInfo, program, h, Sem.run, bind, Sem.bind, pure]
theorem run_size {P : Program} {t : TypeId} {n : Nat} (h : sz P t = some n) (w : World) : (sizeOf t).run P w = .ok n w := by
  obtain ⟨i, hi, rfl⟩ := Option.map_eq_some_iff.1 h
  unfold sizeOf
  rw [Sem.run_bind, run_info hi w]
  rfl
theorem run_isAgg {P : Program} {t : TypeId} {b : Bool} (h : aggT P t = some b) (w : World) : (isAgg t).run P w = .ok b w := by
  unfold isAgg
  unfold aggT at h
  cases hu : P.underlying t with
  | none => rw [hu] at h; cases h
  | some d =>
    rw [Sem.run_bind, run_underlying hu w]
    simp only [Result.andThen_ok]
    rw [hu] at h
    cases d <;> (simp at h; subst h; rfl)
theorem run_zero {P : Program} {t : TypeId} {i : TypeInfo} {z : Value} (h : P.info? t = some i) (hz : i.zero = some z) (w : World) : (zeroValue t).run P w = .ok z w := by
  unfold zeroValue
  rw [Sem.run_bind, run_info h w]
  simp [hz]

/-- The wrapper of an operation that gives a value. -/
theorem run_value {P : Program} {s : Sem Value} {v : Value} {w w' : World} (h : s.run P w = .ok v w') : (do pure (Next.value (← s)) : Sem Next).run P w = .ok (.value v) w' := by
  rw [Sem.run_bind, h]; rfl
theorem run_skip {P : Program} {s : Sem Unit} {w w' : World} (h : s.run P w = .ok () w') : (do s; pure Next.skip : Sem Next).run P w = .ok .skip w' := by
  rw [Sem.run_bind, h]; rfl

/-! ### whole numbers -/
theorem wrap64_small {n : Int} (h0 : -9223372036854775808 ≤ n) (h1 : n < 9223372036854775808) : IntKind.wrap .i64 n = n :=
  IntWalk.i64_in n ⟨h0, by omega⟩
theorem wrap_u32 (m : Nat) : IntKind.wrap .u32 (Int.ofNat m) = Int.ofNat (m % 4294967296) := by rw [IntKind.wrap_u32]; rfl
theorem wrap_u8 (m : Nat) : IntKind.wrap .u8 (Int.ofNat m) = Int.ofNat (m % 256) := by rw [IntKind.wrap_u8]; rfl
theorem wrapF_eq (k : IntKind) (n : Int) : wrapF k n = k.wrap n := by
  unfold wrapF
  split
  · rename_i m
    cases hb : Nat.blt m 9223372036854775808 with
    | true =>
      have : m < 9223372036854775808 := by simpa using hb
      rw [cond_true, wrap64_small (by rw [Int.ofNat_eq_natCast]; omega) (by rw [Int.ofNat_eq_natCast]; omega)]
    | false => rw [cond_false]
  · rename_i m
    cases hb : Nat.blt m 9223372036854775808 with
    | true =>
      have : m < 9223372036854775808 := by simpa using hb
      rw [cond_true, wrap64_small (by omega) (by omega)]
    | false => rw [cond_false]
  · exact (wrap_u32 _).symm
  · exact (wrap_u8 _).symm
  · rfl
theorem ltI_eq (a b : Int) : ltI a b = decide (a < b) := by
  cases a with
  | ofNat a => cases b with
    | ofNat b => simp only [ltI]; rw [Bool.eq_iff_iff]; simp
    | negSucc b => simp only [ltI]; symm; simp; omega
  | negSucc a => cases b with
    | ofNat b => simp only [ltI]; symm; simp; omega
    | negSucc b => simp only [ltI]; rw [Bool.eq_iff_iff]; simp; omega
theorem eqI_eq (a b : Int) : eqI a b = (a == b) := by
  cases a with
  | ofNat a => cases b with
    | ofNat b => simp only [eqI]; rw [Bool.eq_iff_iff]; simp; omega
    | negSucc b => simp only [eqI]; symm; rw [beq_eq_false_iff_ne]; simp
  | negSucc a => cases b with
    | ofNat b => simp only [eqI]; symm; rw [beq_eq_false_iff_ne]; simp
    | negSucc b => simp only [eqI]; rw [Bool.eq_iff_iff]; simp
theorem kindB_eq {k k' : IntKind} (h : kindB k k' = true) : k = k' := by cases k <;> cases k' <;> first | rfl | cases h

theorem ofInt_toNat {n m : Nat} (h : m < 2 ^ n) : (BitVec.ofInt n (Int.ofNat m)).toNat = m := by
  rw [BitVec.toNat_ofInt]
  simp only [Int.ofNat_eq_natCast]
  have : ((m : Int) % ((2 ^ n : Nat) : Int)) = m := Int.emod_eq_of_lt (by omega) (by omega)
  rw [this]; simp
theorem dig_small {k : IntKind} {m : Nat} (h : dig k = some m) : m ≤ 2 ^ k.bits ∧ ∀ a : Nat, a < m → k.wrap (Int.ofNat a) = Int.ofNat a := by
  unfold dig at h
  split at h
  · obtain rfl := Option.some.inj h
    exact ⟨by decide, fun a ha => by rw [wrap_u32, Nat.mod_eq_of_lt ha]⟩
  · obtain rfl := Option.some.inj h
    exact ⟨by decide, fun a ha => by rw [wrap_u8, Nat.mod_eq_of_lt ha]⟩
  · obtain rfl := Option.some.inj h
    exact ⟨by decide, fun a ha => wrap64_small (by rw [Int.ofNat_eq_natCast]; omega) (by rw [Int.ofNat_eq_natCast]; omega)⟩
  · cases h
theorem dig_pow {k : IntKind} {m : Nat} (h : dig k = some m) : ∃ j, m = 2 ^ j ∧ j ≤ k.bits := by
  unfold dig at h
  split at h
  · exact ⟨32, by obtain rfl := Option.some.inj h; rfl, by decide⟩
  · exact ⟨8, by obtain rfl := Option.some.inj h; rfl, by decide⟩
  · exact ⟨63, by obtain rfl := Option.some.inj h; rfl, by decide⟩
  · cases h
theorem andNot_nat {n : Nat} (a b : BitVec n) : (a &&& ~~~b).toNat = a.toNat - (a.toNat &&& b.toNat) := by
  have h : (a &&& b) &&& (a &&& ~~~b) = 0#n := by
    ext i; simp; intro _ h1 _; exact h1
  have h2 := BitVec.toNat_add_of_and_eq_zero h
  have h3 : (a &&& b) + (a &&& ~~~b) = a := by
    rw [BitVec.add_eq_or_of_and_eq_zero _ _ h]
    ext i; simp; cases a[i] <;> cases b[i] <;> simp
  rw [h3, BitVec.toNat_and] at h2
  omega
theorem bitsF_some {f : Nat → Nat → Nat} {k : IntKind} {a b : Int} {r : Value} (h : bitsF f k a b = some r) : ∃ (m x y : Nat), dig k = some m ∧ a = .ofNat x ∧ b = .ofNat y ∧ x < m ∧ y < m ∧ r = .int k (.ofNat (f x y)) := by
  unfold bitsF at h
  split at h
  · rename_i m x y hm
    obtain ⟨h1, h2⟩ := cond_some h
    rw [Bool.and_eq_true] at h1
    exact ⟨m, x, y, hm, rfl, rfl, by simpa using h1.1, by simpa using h1.2, (Option.some.inj h2).symm⟩
  · cases h

theorem binF_sound {P : Program} {op : BinOp} {k : IntKind} {x y : Int} {r : Value} {xt : TypeId} (h : binF op k x y = some r) (w : World) : (binOp op xt (.int k x) (.int k y)).run P w = .ok r w := by
  have hd : ∀ {m : Nat}, eqI y 0 = false → y ≠ 0 := fun he => by rw [eqI_eq] at he; simpa using he
  cases op with
  | add => obtain rfl := Option.some.inj h; simp [binOp, Op.intArith, wrapF_eq]
  | sub => obtain rfl := Option.some.inj h; simp [binOp, Op.intArith, wrapF_eq]
  | mul => obtain rfl := Option.some.inj h; simp [binOp, Op.intArith, wrapF_eq]
  | quo =>
    unfold binF at h
    cases he : eqI y 0 with
    | true => rw [he] at h; cases h
    | false =>
      rw [he] at h
      obtain rfl := Option.some.inj h
      simp [binOp, Op.intDiv, wrapF_eq, hd (m := 0) he]
  | rem =>
    unfold binF at h
    cases he : eqI y 0 with
    | true => rw [he] at h; cases h
    | false =>
      rw [he] at h
      obtain rfl := Option.some.inj h
      simp [binOp, Op.intDiv, hd (m := 0) he]
  | eql => obtain rfl := Option.some.inj h; simp [binOp, Op.intCmp, eqI_eq]
  | neq => obtain rfl := Option.some.inj h; simp [binOp, Op.intCmp, eqI_eq]; rfl
  | lss => obtain rfl := Option.some.inj h; simp [binOp, Op.intCmp, ltI_eq]
  | leq => obtain rfl := Option.some.inj h; simp [binOp, Op.intCmp, ltI_eq]; rw [Bool.eq_iff_iff]; simp
  | gtr => obtain rfl := Option.some.inj h; simp [binOp, Op.intCmp, ltI_eq]
  | geq => obtain rfl := Option.some.inj h; simp [binOp, Op.intCmp, ltI_eq]; rw [Bool.eq_iff_iff]; simp
  | and =>
    obtain ⟨m, x, y, hm, rfl, rfl, hx, hy, rfl⟩ := bitsF_some h
    obtain ⟨h1, h2⟩ := dig_small hm
    have hlt : Nat.land x y < m := Nat.lt_of_le_of_lt (Nat.and_le_left) hx
    have e : (BitVec.ofInt k.bits (Int.ofNat x) &&& BitVec.ofInt k.bits (Int.ofNat y)).toNat = Nat.land x y := by
      rw [BitVec.toNat_and, ofInt_toNat (by omega), ofInt_toNat (by omega)]; rfl
    simp only [binOp, Op.intBits, ne_eq, not_true_eq_false, if_false, Sem.run_pure, e]
    have := h2 _ hlt
    simp only [Int.ofNat_eq_natCast] at this ⊢
    rw [this]
  | or =>
    obtain ⟨m, x, y, hm, rfl, rfl, hx, hy, rfl⟩ := bitsF_some h
    obtain ⟨h1, h2⟩ := dig_small hm
    obtain ⟨j, rfl, hj⟩ := dig_pow hm
    have hlt : Nat.lor x y < 2 ^ j := Nat.or_lt_two_pow hx hy
    have e : (BitVec.ofInt k.bits (Int.ofNat x) ||| BitVec.ofInt k.bits (Int.ofNat y)).toNat = Nat.lor x y := by
      rw [BitVec.toNat_or, ofInt_toNat (by omega), ofInt_toNat (by omega)]; rfl
    simp only [binOp, Op.intBits, ne_eq, not_true_eq_false, if_false, Sem.run_pure, e]
    have := h2 _ hlt
    simp only [Int.ofNat_eq_natCast] at this ⊢
    rw [this]
  | andNot =>
    obtain ⟨m, x, y, hm, rfl, rfl, hx, hy, rfl⟩ := bitsF_some h
    obtain ⟨h1, h2⟩ := dig_small hm
    have hlt : x - Nat.land x y < m := by omega
    have e : (BitVec.ofInt k.bits (Int.ofNat x) &&& ~~~ BitVec.ofInt k.bits (Int.ofNat y)).toNat = x - Nat.land x y := by
      rw [andNot_nat, ofInt_toNat (by omega), ofInt_toNat (by omega)]; rfl
    simp only [binOp, Op.intBits, ne_eq, not_true_eq_false, if_false, Sem.run_pure, e]
    have := h2 _ hlt
    simp only [Int.ofNat_eq_natCast] at this ⊢
    rw [this]
  | _ => cases h
end Go.Ev
