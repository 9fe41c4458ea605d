/- The evaluator's steps that change memory are the model's. -/
import Derived.Test.YtfgfhplgnfbaaaaDoorEvApp2
namespace Go.Ev
open Go

/-- A computation that the evaluator foresees. -/
def Does (P : Program) (ι : Inj) (h : Hp) (w : World) (s : Sem Value) (v : Value) (h' : Hp) : Prop :=
  ∃ ι' v' w', s.run P w = .ok v' w' ∧ Went P h ι w h' ι' w' ∧ VR ι' v v'

section
variable {P : Program} {ι : Inj} {h h' : Hp} {w : World} (R : RH P ι h w)
include R

theorem appendV_sound {sT xT : TypeId} {s x s' x' v : Value} (hs : VR ι s s') (hx : VR ι x x') (hv : appendV P h sT xT s x = some (v, h')) (ty : TypeId) :
    Does P ι h w (Builtin.append_ #[sT, xT] ty #[s', x']) v h' := by
  unfold appendV at hv
  obtain ⟨e, he, hv1⟩ := Option.bind_eq_some_iff.1 hv
  obtain ⟨i, hi, hv2⟩ := Option.bind_eq_some_iff.1 hv1
  obtain ⟨z, hz, hv3⟩ := Option.bind_eq_some_iff.1 hv2
  obtain ⟨_, hn, hv4⟩ := Option.bind_eq_some_iff.1 hv3
  obtain ⟨⟨xs, n⟩, hsrc, hv5⟩ := Option.bind_eq_some_iff.1 hv4
  obtain ⟨_, hone, hv6⟩ := Option.bind_eq_some_iff.1 hv5
  have hn := need_some hn
  have hone := need_some hone
  simp only [Bool.and_eq_true] at hn
  obtain ⟨⟨n1, n2⟩, n3⟩ := hn
  obtain ⟨z1, z2⟩ := all_and n3
  have hpos : i.size ≠ 0 := by intro h0; rw [h0] at n1; cases n1
  have hzs : z.cells.size = i.size := Nat.eq_of_beq_eq_true n2
  have ht := elemT_some he
  have A : ∃ xs', VRs ι xs xs' ∧ AppSrc P sT xT e i z x' n xs' w := by
    unfold appSrc at hsrc
    split at hsrc
    · rename_i k hk
      split at hsrc
      · rename_i kq m
        obtain ⟨hb, hh⟩ := cond_some hsrc
        injection hh with hh
        injection hh with h1 h2
        subst h1 h2
        simp only [Bool.and_eq_true] at hb
        rw [hx.int_iff]
        refine ⟨_, .of_flat (List.all_eq_true.2 fun y hy => ?_), AppSrc.ofZeros ht hi hz hk (by simpa using hb.2) hzs hpos z2 (Nat.le_of_ble_eq_true hb.1.1) (by simpa using hb.1.2)⟩
        obtain ⟨l, hl, hy⟩ := List.mem_flatten.1 hy
        rw [(List.mem_replicate.1 hl).2] at hy
        exact List.all_eq_true.1 z1 y hy
      · cases hsrc
    · rename_i e' hk
      split at hsrc
      · rename_i a l c
        obtain ⟨xs', g1, g2⟩ := src_sound R (xT := xT) hx (.inl ⟨_, hk⟩) hsrc hone (fun _ _ _ hh => by cases hh) (fun hh => by rw [hk] at hh; cases hh)
        exact ⟨xs', g1, .ofSrc ht hi hz g2⟩
      · cases hsrc
    · rename_i hk
      split at hsrc
      · rename_i b
        obtain ⟨xs', g1, g2⟩ := src_sound R (xT := xT) hx (.inr hk) hsrc hone (fun _ hh => by rw [hk] at hh; cases hh) (fun _ _ _ _ hh => by cases hh)
        exact ⟨xs', g1, .ofSrc ht hi hz g2⟩
      · cases hsrc
    · cases hsrc
  obtain ⟨xs', hxs, hA⟩ := A
  cases hb : Nat.beq n 0 with
  | true =>
    have hn0 : n = 0 := Nat.eq_of_beq_eq_true hb
    replace hv6 : (bif Nat.beq n 0 then appNone h s else appSome h e i.bytes i.size s xs n) = some (v, h') := hv6
    rw [hb, cond_true] at hv6
    unfold appNone at hv6
    split at hv6
    · injection hv6 with hv6
      injection hv6 with h1 h2
      subst h1 h2
      rw [hs.of_flat rfl]
      exact ⟨ι, _, w, hA.none_ hn0 ty none 0 0 (Nat.le_refl _), .refl R, .flat rfl⟩
    · rename_i a len cap
      obtain ⟨hle, hv7⟩ := cond_some hv6
      injection hv7 with hv7
      injection hv7 with h1 h2
      subst h1 h2
      have hle := Nat.le_of_ble_eq_true hle
      cases hs with
      | flat hf => exact ⟨ι, _, w, hA.none_ hn0 ty _ _ _ hle, .refl R, .flat hf⟩
      | slc hw hc => exact ⟨ι, _, w, hA.none_ hn0 ty _ _ _ hle, .refl R, .slc hw hc⟩
      | slu hw hc hl => exact ⟨ι, _, w, hA.none_ hn0 ty _ _ _ hl, .refl R, .slu hw hc hl⟩
      | sl0 hw hc => exact ⟨ι, _, w, hA.none_ hn0 ty _ _ _ (Nat.le_refl _), .refl R, .sl0 hw hc⟩
    · cases hv6
  | false =>
    have hn0 : n ≠ 0 := fun h0 => by rw [h0] at hb; cases hb
    replace hv6 : (bif Nat.beq n 0 then appNone h s else appSome h e i.bytes i.size s xs n) = some (v, h') := hv6
    rw [hb, cond_false] at hv6
    exact appSome_sound R ht hi hz hpos hzs hn0 hs hxs hone hA hv6 ty

theorem firstCells_nothing (size : Nat) (s : Value) (m : Nat) (hm : lenV s = some m) : (Builtin.firstCells size 0 s).run P w = .ok #[] w := by
  have _ := R
  cases s with
  | slice b l c =>
    cases b with
    | none => exact run_firstCells_none w size 0 l c
    | some a => exact run_firstCells_some w size 0 a l c [] (by simp) (by simp)
  | string b => simp [Builtin.firstCells]
  | _ => cases hm

theorem lenV_sound {s s' : Value} {m : Nat} (hs : VR ι s s') (hm : lenV s = some m) : lenV s' = some m ∧ ∀ w, (Builtin.lenOf s').run P w = .ok m w := by
  have _ := R
  cases s with
  | slice b l c =>
    obtain rfl := Option.some.inj hm
    cases hs <;> exact ⟨rfl, fun _ => rfl⟩
  | string b =>
    obtain rfl := Option.some.inj hm
    rw [hs.string_iff]
    exact ⟨rfl, fun _ => rfl⟩
  | _ => cases hm

theorem storeCells_sound {o off : Nat} {vs vs' : List Value} {vw : Vw} (hw : writeAt h o off vs = some h') (hv : ι o = some vw) (hvs : VRs ι vs vs') :
    (storeCells ⟨vw.blk, vw.base + off, none⟩ vs').run P w = .ok () (w.setCells vw.blk (vw.base + off) vs') ∧ Went P h ι w h' ι (w.setCells vw.blk (vw.base + off) vs') := by
  obtain ⟨r1, r2, r3, r4, r5, r6, r7, r8⟩ := R.write hw hv hvs
  refine ⟨?_, Went.write R hw hv hvs⟩
  have := run_storeCells_cells (P := P) vw.blk (vw.base + off) vs' 0 w (by simpa using r5) (by simpa using r6) r7
  simpa using this

theorem copyV_sound {dT sT : TypeId} {d s d' s' v : Value} (hd : VR ι d d') (hs : VR ι s s') (hv : copyV P h dT d s = some (v, h')) (ty : TypeId) :
    Does P ι h w (Builtin.copy_ #[dT, sT] ty #[d', s']) v h' := by
  unfold copyV at hv
  obtain ⟨e, he, hv1⟩ := Option.bind_eq_some_iff.1 hv
  obtain ⟨esz, hz, hv2⟩ := Option.bind_eq_some_iff.1 hv1
  obtain ⟨m, hm, hv3⟩ := Option.bind_eq_some_iff.1 hv2
  clear hv hv1 hv2
  obtain ⟨hm', hlen⟩ := lenV_sound R hs hm
  have ht := elemT_some he
  -- nothing goes over
  have nothing : ∀ {base : Option Addr} {n c : Nat}, Nat.min m n = 0 → (Builtin.copy_ #[dT, sT] ty #[.slice base n c, s']).run P w = .ok (goInt 0) w := fun {base n c} h0 => by
    have hf := firstCells_nothing R esz s' m hm'
    cases base <;> simp [Builtin.copy_, run_underlying ht, hlen, h0, run_size hz, hf, storeCells]
  split at hv3
  · rename_i l c
    injection hv3 with hh
    injection hh with h1 h2
    subst h1 h2
    cases hd with
    | flat hf =>
      have : l = 0 := by cases l <;> cases c <;> simp_all [flat, flatN]
      subst this
      exact ⟨ι, _, w, nothing (by simp), .refl R, .flat rfl⟩
  · rename_i o off n c
    cases hk : Nat.beq (Nat.min m n) 0 with
    | true =>
      rw [hk, cond_true] at hv3
      injection hv3 with hh
      injection hh with h1 h2
      subst h1 h2
      have h0 : Nat.min m n = 0 := Nat.eq_of_beq_eq_true hk
      cases hd with
      | flat hf => exact Bool.noConfusion (show false = true from hf)
      | slc => exact ⟨ι, _, w, nothing h0, .refl R, .flat rfl⟩
      | slu => exact ⟨ι, _, w, nothing h0, .refl R, .flat rfl⟩
      | sl0 => exact ⟨ι, _, w, nothing h0, .refl R, .flat rfl⟩
    | false =>
      rw [hk, cond_false] at hv3
      have hk0 : Nat.min m n ≠ 0 := fun h0 => by rw [h0] at hk; cases hk
      obtain ⟨xs, hx, hv4⟩ := Option.bind_eq_some_iff.1 hv3
      obtain ⟨hone, hv5⟩ := cond_some hv4
      obtain ⟨h1, hw, hh⟩ := Option.map_eq_some_iff.1 hv5
      injection hh with hh1 hh2
      subst hh1 hh2
      have src : ∃ xs', VRs ι xs xs' ∧ (Builtin.firstCells esz (Nat.min m n) s').run P w = .ok xs'.toArray w := by
        unfold copySrc at hx
        split at hx
        · rename_i q at_ l0 c0
          obtain ⟨_, _, _, hg, _, _⟩ := readAt_some hx
          obtain ⟨_, vq, hvq, _⟩ := R.live q _ hg
          obtain ⟨l', g1, g2, g3, _⟩ := R.read hx hvq
          cases hs with
          | flat hf => exact Bool.noConfusion (show false = true from hf)
          | slc hw2 _ =>
            rw [hvq] at hw2; obtain rfl := Option.some.inj hw2
            exact ⟨l', g1, run_firstCells_some w esz _ _ _ _ l' g3 (fun j u hj => by rw [add_none]; exact g2 j u hj)⟩
          | slu hw2 _ _ =>
            rw [hvq] at hw2; obtain rfl := Option.some.inj hw2
            exact ⟨l', g1, run_firstCells_some w esz _ _ _ _ l' g3 (fun j u hj => by rw [add_none]; exact g2 j u hj)⟩
          | sl0 hw2 _ =>
            obtain rfl := Option.some.inj hm
            exact absurd (by simp : Nat.min 0 n = 0) hk0
        · rename_i b
          obtain rfl := Option.some.inj hx
          obtain rfl := Option.some.inj hm
          rw [hs.string_iff]
          refine ⟨_, .of_flat (List.all_eq_true.2 fun y hy => ?_), ?_⟩
          · obtain ⟨_, _, rfl⟩ := List.mem_map.1 hy
            rfl
          · simp only [Builtin.firstCells, Sem.run_pure]
            congr 1
            apply Array.ext'
            simp
        · cases hx
      obtain ⟨xs', hxs, hf⟩ := src
      have fin : ∀ {vw : Vw} {c : Nat}, ι o = some vw → Does P ι h w (Builtin.copy_ #[dT, sT] ty #[.slice (some ⟨vw.blk, vw.base + off, none⟩) n c, s']) (.int .i64 (Int.ofNat (Nat.min m n))) h1 := fun {vw c} hvw => by
        obtain ⟨s1, s2⟩ := storeCells_sound R hw hvw hxs
        refine ⟨ι, goInt (Nat.min m n), _, ?_, s2, .flat rfl⟩
        simp [Builtin.copy_, run_underlying ht, hlen, run_size hz, hf, s1]
      cases hd with
      | flat hf => exact Bool.noConfusion (show false = true from hf)
      | slc hw1 => exact fin hw1
      | slu hw1 => exact fin hw1
      | sl0 => exact absurd (by simp : Nat.min m 0 = 0) hk0
  · cases hv3

theorem clearV_sound {sT : TypeId} {s s' v : Value} (hs : VR ι s s') (hv : clearV P h sT s = some (v, h')) (ty : TypeId) : Does P ι h w (Builtin.clear_ #[sT] ty #[s']) v h' := by
  unfold clearV at hv
  obtain ⟨e, he, hv1⟩ := Option.bind_eq_some_iff.1 hv
  clear hv
  have ht := elemT_some he
  split at hv1
  · injection hv1 with hh
    injection hh with h1 h2
    subst h1 h2
    cases hs with
    | flat hf => exact ⟨ι, _, w, by simp [Builtin.clear_, run_underlying ht], .refl R, .flat rfl⟩
  · rename_i o off n c
    cases hn : Nat.beq n 0 with
    | true =>
      obtain rfl : n = 0 := Nat.eq_of_beq_eq_true hn
      rw [hn, cond_true] at hv1
      injection hv1 with hh
      injection hh with h1 h2
      subst h1 h2
      cases hs with
      | flat hf => exact Bool.noConfusion (show false = true from hf)
      | slc => exact ⟨ι, _, w, by simp [Builtin.clear_, run_underlying ht], .refl R, .flat rfl⟩
      | slu => exact ⟨ι, _, w, by simp [Builtin.clear_, run_underlying ht], .refl R, .flat rfl⟩
      | sl0 => exact ⟨ι, _, w, by simp [Builtin.clear_, run_underlying ht], .refl R, .flat rfl⟩
    | false =>
      rw [hn, cond_false] at hv1
      obtain ⟨i, hi, hv2⟩ := Option.bind_eq_some_iff.1 hv1
      obtain ⟨z, hz, hv3⟩ := Option.bind_eq_some_iff.1 hv2
      obtain ⟨hall, hv4⟩ := cond_some hv3
      obtain ⟨h1, hw, hh⟩ := Option.map_eq_some_iff.1 hv4
      injection hh with hh1 hh2
      subst hh1 hh2
      obtain ⟨z1, z2⟩ := all_and hall
      have fl : VRs ι (List.replicate n z.cells.toList).flatten (List.replicate n z.cells.toList).flatten := .of_flat (List.all_eq_true.2 fun y hy => by
        obtain ⟨l, hl, hy⟩ := List.mem_flatten.1 hy
        rw [(List.mem_replicate.1 hl).2] at hy
        exact List.all_eq_true.1 z1 y hy)
      have hn0 : n ≠ 0 := fun h0 => by rw [h0] at hn; cases hn
      have fin : ∀ {vw : Vw} {c : Nat}, ι o = some vw → Does P ι h w (Builtin.clear_ #[sT] ty #[.slice (some ⟨vw.blk, vw.base + off, none⟩) n c]) (.tuple #[]) h1 := fun {vw c} hvw => by
        obtain ⟨s1, s2⟩ := storeCells_sound R hw hvw fl
        refine ⟨ι, .tuple #[], _, ?_, s2, .flat rfl⟩
        obtain ⟨n', rfl⟩ := Nat.exists_eq_succ_of_ne_zero hn0
        have hzc : (Builtin.zeroCells z.cells (n' + 1)).toList = (List.replicate (n' + 1) z.cells.toList).flatten := by rw [Builtin.zeroCells, range_cells]
        simp only [Builtin.clear_, List.getElem?_toArray, List.getElem?_cons_zero, Sem.run_bind, run_underlying ht, Result.andThen_ok, run_zero hi hz, hzc]
        simp only [Sem.run_pure, Result.andThen_ok, s1]
      cases hs with
      | flat hf => exact Bool.noConfusion (show false = true from hf)
      | slc hw1 => exact fin hw1
      | slu hw1 => exact fin hw1
      | sl0 => exact absurd rfl hn0
  · cases hv1
end
end Go.Ev
