/- The evaluator's append is the model's. -/
import Derived.Test.YtfgfhplgnfbaaaaDoorEvWent
import Derived.Lib.AppendZerosOnto
import Derived.Deep.Upon
namespace Go.Ev
open Go

/-- What an append adds, in the model. -/
structure AppSrc (P : Program) (t tx e : TypeId) (i : TypeInfo) (z : Value) (x : Value) (n : Nat) (news : List Value) (w : World) : Prop where
  len : news.length = n * i.size
  ones : ∀ u ∈ news, u.oneCell' = true
  room : ∀ ty b off sLen sCap, sLen + n ≤ sCap → (∀ j, j < news.length → (w.cell? ⟨b, off + sLen * i.size + j, none⟩).isSome = true) → (∀ j, j < news.length → w.frozen? ⟨b, off + sLen * i.size + j, none⟩ = false) →
    (Builtin.append_ #[t, tx] ty #[.slice (some ⟨b, off, none⟩) sLen sCap, x]).run P w = .ok (.slice (some ⟨b, off, none⟩) (sLen + n) sCap) (w.setCells b (off + sLen * i.size) news)
  grow : ∀ ty base sLen sCap (olds : List Value), (Builtin.firstCells i.size sLen (.slice base sLen sCap)).run P w.drew = .ok olds.toArray w.drew → sCap < sLen + n → ((sLen + n : Nat) : Int) ≤ 9223372036854775807 → Builtin.nextslicecap (sLen + n) sCap * i.bytes ≤ 281474976710656 →
    (Builtin.append_ #[t, tx] ty #[.slice base sLen sCap, x]).run P w = .ok (.slice (some ⟨w.heap.size, 0, none⟩) (sLen + n) (grownCap w (sLen + n) sCap e))
        (w.drew.alloc (.cells ((olds ++ news).toArray ++ Builtin.zeroCells z.cells (grownCap w (sLen + n) sCap e - (sLen + n))) e))
  none_ : n = 0 → ∀ ty base sLen sCap, sLen ≤ sCap → (Builtin.append_ #[t, tx] ty #[.slice base sLen sCap, x]).run P w = .ok (.slice base sLen sCap) w

section
variable {P : Program} {w : World} {t tx e : TypeId} {i : TypeInfo} {z : Value} (ht : P.underlying t = some (.slice e)) (hi : P.info? e = some i) (hz : i.zero = some z)
include ht hi hz
theorem AppSrc.ofSrc {x : Value} {n : Nat} {news : List Value} (hs : Src P i.size tx x n news w) : AppSrc P t tx e i z x n news w where
  len := hs.newsLen
  ones := hs.one
  room := fun ty b off sLen sCap hroom hc hf => run_append_room_src w t tx ty e i ht hi b off sLen sCap x n news hs hroom hc hf
  grow := fun ty base sLen sCap olds hold hg h63 hfit => run_append_grow_src w t tx ty e i z ht hi hz base sLen sCap olds hold x n news hs hg h63 hfit
  none_ := fun hn ty base sLen sCap hle => by
    subst hn
    have h0 : news = [] := by have := hs.newsLen; rw [Nat.zero_mul] at this; exact List.length_eq_zero_iff.1 this
    subst h0
    exact run_append_nothing w t tx ty e i ht hi base sLen sCap hle x hs

theorem AppSrc.ofZeros {k : IntKind} {kq : IntKind} (htx : P.underlying tx = some (.int k)) {n : Nat} (hn : 0 < n) (hsz : z.cells.size = i.size) (hpos : i.size ≠ 0) (hone : z.cells.toList.all Ev.one = true) (h48 : n * i.bytes ≤ 281474976710656) (h62 : n < unk) :
    AppSrc P t tx e i z (.int kq (n : Nat)) n (List.replicate n z.cells.toList).flatten w := by
  have hu : unk = 4611686018427387904 := rfl
  have hw : IntKind.i64.wrap (n : Int) = n := by rw [IntKind.wrap_i64]; omega
  have h48i : ¬ (281474976710656 < (n : Int) * (i.bytes : Int)) := by
    rw [← Int.natCast_mul]
    omega
  have hneg : ¬ ((n : Int) < 0) := by omega
  have hn0 : n ≠ 0 := by omega
  have hl : (List.replicate n z.cells.toList).flatten.length = n * i.size := by rw [length_flatten_replicate]; simp [hsz]
  have ho : ∀ u ∈ (List.replicate n z.cells.toList).flatten, u.oneCell' = true := fun u hu => by
    obtain ⟨l, hl, hu⟩ := List.mem_flatten.1 hu
    rw [(List.mem_replicate.1 hl).2] at hu
    rw [one_eq]
    exact List.all_eq_true.1 hone u hu
  have hzc : Builtin.zeroCells z.cells n = (List.replicate n z.cells.toList).flatten.toArray := by
    apply Array.ext'
    rw [Builtin.zeroCells, range_cells]
  refine ⟨hl, ho, fun ty b off sLen sCap hroom hc hf => ?_, fun ty base sLen sCap olds hold hg h63 hfit => ?_, fun h0 => absurd h0 hn0⟩
  · have hst := run_storeCells_cells (P := P) b (off + sLen * i.size) (List.replicate n z.cells.toList).flatten 0 w (by simpa using hc) (by simpa using hf) ho
    simp only [Nat.add_zero] at hst
    simp [Builtin.append_, run_underlying ht, run_underlying htx, sizeOf, typeInfo, hi, asInt, asIntOf, hw, hneg, h48i, hroom, Addr.add_lit, zeroValue, hz, hzc, hst]
    intro h0
    exact absurd h0 (Nat.mul_ne_zero hn0 hpos)
  · rw [Lib.run_append_grow_zeros (P := P) w t tx ty e i z kq k ht htx hi hz base sLen sCap olds hold n hn (Nat.pos_of_ne_zero hpos) hg h63 h48 hfit, hzc]
    congr 4
    simp
end

/-- Where no cell is asked for. -/
theorem run_firstCells_zero {P : Program} (size : Nat) (base : Option Addr) (c : Nat) (w : World) : (Builtin.firstCells size 0 (.slice base 0 c)).run P w = .ok #[] w := by
  cases base with
  | none => exact run_firstCells_none w size 0 0 c
  | some a => exact run_firstCells_some w size 0 a 0 c [] (by simp) (by simp)

section
variable {P : Program} {ι : Inj} {h : Hp} {w : World} (R : RH P ι h w)
include R

/-- What a slice holds. -/
theorem slice_cells {o off len cap esz : Nat} {v' : Value} {l : List Value} (hv : VR ι (.slice (some ⟨o, off, none⟩) len cap) v') (hr : readAt h o off (len * esz) = some l) :
    ∃ (a : Addr) (c : Nat) (l' : List Value), v' = .slice (some a) len c ∧ VRs ι l l' ∧ l'.length = len * esz ∧ (∀ (j : Nat) x, l'[j]? = some x → w.cell? (a.add j) = some x) := by
  have key : ∀ {vw : Vw}, ι o = some vw → ∃ l', VRs ι l l' ∧ l'.length = len * esz ∧ (∀ (j : Nat) x, l'[j]? = some x → w.cell? ((⟨vw.blk, vw.base + off, none⟩ : Addr).add j) = some x) := fun hvw => by
    obtain ⟨l', h1, h2, h3, _⟩ := R.read hr hvw
    exact ⟨l', h1, h3, fun j x hx => by rw [add_none]; exact h2 j x hx⟩
  cases hv with
  | flat hf => simp [flat, flatN] at hf
  | slc hw _ => obtain ⟨l', h1, h2, h3⟩ := key hw; exact ⟨_, _, l', rfl, h1, h2, h3⟩
  | slu hw _ _ => obtain ⟨l', h1, h2, h3⟩ := key hw; exact ⟨_, _, l', rfl, h1, h2, h3⟩
  | @sl0 _ _ _ a _ hw _ =>
    obtain ⟨_, _, _, _, rfl, hl⟩ := readAt_some hr
    have e0 : (List.take (0 * esz) (List.drop off ‹List Value›)) = [] := by simp
    rw [e0]
    exact ⟨a, 0, [], rfl, .nil ι, by simp, fun j x hx => by simp at hx⟩

theorem src_sound {esz : Nat} {xT : TypeId} {x x' : Value} {xs : List Value} {n : Nat} (hx : VR ι x x') (hk : (∃ e, P.underlying xT = some (.slice e)) ∨ P.underlying xT = some .string) (hs : srcCells h esz x = some (xs, n)) (ho : xs.all Ev.one = true)
    (hks : ∀ e, P.underlying xT = some (.slice e) → ∀ b, x ≠ .string b) (hks' : P.underlying xT = some .string → ∀ a l c, x ≠ .slice a l c) :
    ∃ xs', VRs ι xs xs' ∧ Src P esz xT x' n xs' w := by
  unfold srcCells at hs
  split at hs
  · rename_i len c
    injection hs with hs
    injection hs with h1 h2
    subst h1 h2
    obtain ⟨e, he⟩ := hk.resolve_right fun hh => hks' hh _ _ _ rfl
    cases hx with
    | flat hf =>
      have : len = 0 ∧ c = 0 := by
        cases len <;> cases c <;> simp_all [flat, flatN]
      obtain ⟨rfl, rfl⟩ := this
      exact ⟨[], .nil ι, Src.ofNil w he 0⟩
  · rename_i o off len c
    obtain ⟨e, he⟩ := hk.resolve_right fun hh => hks' hh _ _ _ rfl
    obtain ⟨l, hl, hh⟩ := Option.map_eq_some_iff.1 hs
    injection hh with h1 h2
    subst h1 h2
    obtain ⟨a, c', l', rfl, g1, g2, g3⟩ := slice_cells R hx hl
    exact ⟨l', g1, Src.ofSlice w he a len c' l' g2 g3 (fun u hu => by rw [one_eq]; exact List.all_eq_true.1 (g1.one ho) u hu)⟩
  · rename_i s
    have hu := hk.resolve_left fun ⟨e, he⟩ => hks e he s rfl
    obtain ⟨h1, h2⟩ := cond_some hs
    obtain rfl := Nat.eq_of_beq_eq_true h1
    injection h2 with h2
    injection h2 with h2 h3
    subst h2 h3
    rw [hx.string_iff]
    refine ⟨_, .of_flat (List.all_eq_true.2 fun y hy => ?_), Src.ofString w hu s⟩
    obtain ⟨_, _, rfl⟩ := List.mem_map.1 hy
    rfl
  · cases hs
end
end Go.Ev
