/- Contracts: what a pile's bytes say: drawn. -/
import Derived.Test.YtngcjpkccnfjiaaGreatDoorYG
import Derived.Test.YtngcjpkccnfjiaaGreatDoorYF
import Derived.Test.YtngcjpkccnfjiaaGreatDoorYD
import Derived.Lib.LaidTab
import Derived.WalkKit
import Derived.ProofKit
import Derived.OpenShut
import Derived.Deep.DeepHandedRow
namespace Go.Proofs.YtngcjpkccnfjiaaGreatDoor
set_option maxRecDepth 100000
open Go Go.Ev
theorem slice_arr {h : Hp} {b off s : Nat} (hs : s < 4) : sliceV Tryz.prog h 59 (.pointer (some ⟨b, off, none⟩)) none (some (.int .i64 (Int.ofNat s))) none = some (.slice (some ⟨b, off, none⟩) s 4) := by
  unfold sliceV
  rw [Tryz.underlying59]
  have hz : sz Tryz.prog 5 = some 1 := by kernel_rfl
  simp only [hz, bind, Option.bind_some, bounds_hi (n := 4) (vis := 4) (show s ≤ 4 by omega)]
  rw [blt_t (by have : unk = 18446744073709551616 := rfl; omega)]
  simp
theorem slice_arr4 {h : Hp} {b off : Nat} : sliceV Tryz.prog h 59 (.pointer (some ⟨b, off, none⟩)) none (some (.int .i64 (Int.ofNat 4))) none = some (.slice (some ⟨b, off, none⟩) 4 4) := by
  unfold sliceV
  rw [Tryz.underlying59]
  have hz : sz Tryz.prog 5 = some 1 := by kernel_rfl
  simp only [hz, bind, Option.bind_some, bounds_hi (n := 4) (vis := 4) (show 4 ≤ 4 by omega)]
  rw [blt_t (by have : unk = 18446744073709551616 := rfl; omega)]
  simp
theorem slice_arr' {h : Hp} {b off s : Nat} (hs : s ≤ 4) : sliceV Tryz.prog h 59 (.pointer (some ⟨b, off, none⟩)) none (some (.int .i64 (Int.ofNat s))) none = some (.slice (some ⟨b, off, none⟩) s 4) := by
  rcases Nat.lt_or_ge s 4 with h | h
  · exact slice_arr h
  · have : s = 4 := by omega
    subst this; exact slice_arr4
section
variable {O : CallF} (hO : Oth O)
include hO
/-- The roots. -/
theorem lp106_2 {g : Hp} {v0 : Array Value} {xs : List Nat} (B : Bytes v0 xs) {b1 bn : Nat} {a6 : Option Addr} {n6 c6 : Nat} {R0 : Rs} {Q : Value → Hp → Prop} {s : Nat} (hs : s ≤ 4)
    (next : ∀ (h : Hp) (a : Option Addr) (n c : Nat), Know g h [acc g.nx 76 2 a n c (fvs (((xs.drop 47).take s).map (wordC (pMany xs)))), R0] → Q (.tuple #[.slice a6 n6 c6, .slice a n c]) h) :
    ∀ (d k : Nat) (h : Hp) (a : Option Addr) (n c : Nat), k + d = s → Know g h [acc g.nx 76 2 a n c (fvs (((xs.drop 47).take k).map (wordC (pMany xs)))), R0, ob bn (.cells [.int .i64 (Int.ofNat (pMany xs))] 3 .fix), ob b1 (.cells (bv xs) 62 .fix)] →
      I106_2 O Q v0 (.func (.func 139) #[] #[.pointer (some ⟨bn, 0, none⟩)]) a6 n6 c6 a n c (some ⟨b1, 47, none⟩) s 4 (Int.ofNat s) (Int.ofNat k) h := by
  have hlen := B.len
  intro d
  induction d with
  | zero =>
    intro k h a n c hk S
    refine I106_2.of (hh := ?_) ..
    unfold T106_2
    have : k = s := by omega
    subst this
    exact vcond_f (by rw [ltI_nat]; exact blt_f (by omega)) (next h a n c (S.sel [0, 1] (by decide) rfl))
  | succ d ih =>
    intro k h a n c hk S
    refine I106_2.of (hh := ?_) ..
    unfold T106_2
    have hb : Nat.ble (47 + k * 1 + 1) (bv xs).length = true := ble_t (by rw [List.length_map]; omega)
    have hr : ((bv xs).drop (47 + k * 1)).take 1 = [.int .u8 (Int.ofNat (xs.getD (47 + k * 1) 0))] := bv_at (by omega)
    obtain ⟨v, h310, e310, rfl, k310⟩ := ct139 hO S.ok (B.b (47 + k * 1)) (S.rd 2 rfl rfl rfl) (S.orng 2 rfl).2 (n := pMany xs)
    refine vcond_t (by rw [ltI_nat]; exact blt_t (by omega)) (isNat_i (isAddr_i (vreq_t (blt_t (by omega)) ⟨_, S.rd 3 rfl hr hb, _, _, _, e310, ?_⟩)))
    have S : Know g h310 [_, _, _, _] := S.call k310
    intro g311
    have S : Know g g311 [_, _, _, _, _] := S.add _
    have hn : n = k := by
      have A : AccE g311 g.nx 76 2 a n c _ := S.get 1 rfl
      have := (AccE.slAt fdE_len (by decide) A).1
      rw [List.length_map, List.length_take, List.length_drop] at this
      omega
    obtain ⟨a', n', c', h', e, hn', S⟩ := S.app 1 rfl (Nat.le_refl _) S.lo app64 ⟨_, _, _, rfl⟩ (src_get (n := 1) (c := 1) (esz := 2) (off := 0) (S.rd 0 rfl (r := [.int .i64 (wordC (pMany xs) (xs.getD (47 + k * 1) 0)).n, .bool (wordC (pMany xs) (xs.getD (47 + k * 1) 0)).refs]) rfl rfl)) rfl rfl (by omega) (by unfold big; omega)
    have S : Know g h' [_, _, _, _, _] := S
    refine ⟨_, _, _, _, e, ?_⟩
    rw [wrap_succ (by omega)]
    refine ih (k + 1) h' a' n' c' (by omega) ?_
    have S : Know g h' [_, _, _, _] := S.sel [1, 2, 3, 4] (by decide) rfl
    have e2 : fvs (((xs.drop 47).take (k + 1)).map (wordC (pMany xs))) = fvs (((xs.drop 47).take k).map (wordC (pMany xs))) ++ [.int .i64 (wordC (pMany xs) (xs.getD (47 + k * 1) 0)).n, .bool (wordC (pMany xs) (xs.getD (47 + k * 1) 0)).refs] := by
      have : (xs.drop 47)[k]? = some (xs.getD (47 + k * 1) 0) := by
        rw [List.getElem?_drop, Nat.mul_one, List.getD, List.getElem?_eq_getElem (by omega)]; rfl
      rw [List.take_add_one, this, List.map_append]
      unfold fvs
      rw [List.flatMap_append]
      rfl
    rw [e2]; exact S
/-- The fields of a cell. -/
theorem lp106_1 {g : Hp} {v0 : Array Value} {xs : List Nat} (B : Bytes v0 xs) {b1 bn b8 : Nat} {a6 : Option Addr} {n6 c6 : Nat} {R0 R1 : Rs} {Q : Value → Hp → Prop} {x20 x21 : Int} {off s kd : Nat} (hs : s ≤ 4) (hoff : off + 4 ≤ 51)
    (next : ∀ (h : Hp) (a : Option Addr) (n c : Nat), Know g h [ob b8 (.cells [.int .i64 (Int.ofNat kd), .slice a n c] 72 .fix), acc g.nx 76 2 a n c (fvs (((xs.drop off).take s).map (fdOf kd (pMany xs)))), R0, R1, ob bn (.cells [.int .i64 (Int.ofNat (pMany xs))] 3 .fix), ob b1 (.cells (bv xs) 62 .fix)] → I106_1 O Q v0 b1 0 (.func (.func 139) #[] #[.pointer (some ⟨bn, 0, none⟩)]) a6 n6 c6 b8 0 x20 x21 (some ⟨b1, off, none⟩) s 4 (Int.ofNat s) (Int.ofNat s) h) :
    ∀ (d k : Nat) (h : Hp) (a : Option Addr) (n c : Nat), k + d = s → Know g h [ob b8 (.cells [.int .i64 (Int.ofNat kd), .slice a n c] 72 .fix), acc g.nx 76 2 a n c (fvs (((xs.drop off).take k).map (fdOf kd (pMany xs)))), R0, R1, ob bn (.cells [.int .i64 (Int.ofNat (pMany xs))] 3 .fix), ob b1 (.cells (bv xs) 62 .fix)] →
      I106_1 O Q v0 b1 0 (.func (.func 139) #[] #[.pointer (some ⟨bn, 0, none⟩)]) a6 n6 c6 b8 0 x20 x21 (some ⟨b1, off, none⟩) s 4 (Int.ofNat s) (Int.ofNat k) h := by
  have hlen := B.len
  intro d
  induction d with
  | zero =>
    intro k h a n c hk S
    have : k = s := by omega
    subst this
    exact next h a n c S
  | succ d ih =>
    intro k h a n c hk S
    refine I106_1.of (hh := ?_) ..
    unfold T106_1
    have hb : Nat.ble (off + k * 1 + 1) (bv xs).length = true := ble_t (by rw [List.length_map]; omega)
    have hr : ((bv xs).drop (off + k * 1)).take 1 = [.int .u8 (Int.ofNat (xs.getD (off + k * 1) 0))] := bv_at (by omega)
    have hx := B.b (off + k * 1)
    have e2 : fvs (((xs.drop off).take (k + 1)).map (fdOf kd (pMany xs))) = fvs (((xs.drop off).take k).map (fdOf kd (pMany xs))) ++ [.int .i64 (fdOf kd (pMany xs) (xs.getD (off + k * 1) 0)).n, .bool (fdOf kd (pMany xs) (xs.getD (off + k * 1) 0)).refs] := by
      have : (xs.drop off)[k]? = some (xs.getD (off + k * 1) 0) := by
        rw [List.getElem?_drop, Nat.mul_one, List.getD, List.getElem?_eq_getElem (by omega)]; rfl
      rw [List.take_add_one, this, List.map_append]
      unfold fvs
      rw [List.flatMap_append]
      rfl
    have hn : n = k := by
      have A : AccE h g.nx 76 2 a n c _ := S.get 1 rfl
      have := (AccE.slAt fdE_len (by decide) A).1
      rw [List.length_map, List.length_take, List.length_drop] at this
      omega
    rw [wrap_succ (by omega)]
    refine vcond_t (by rw [ltI_nat]; exact blt_t (by omega)) (isNat_i (isAddr_i (vreq_t (blt_t (by omega)) ⟨_, S.rd 5 rfl hr hb, _, S.rd 0 rfl rfl rfl, ?_⟩)))
    rw [wrapN (show xs.getD (off + k * 1) 0 < 9223372036854775808 by omega)]
    refine vcond_split (fun h3 => ?_) fun h3 => ?_
    · have h3 : kd = 3 := Int.ofNat_inj.1 (eq_of_t h3)
      have ef : fdOf kd (pMany xs) (xs.getD (off + k * 1) 0) = ⟨((97 + xs.getD (off + k * 1) 0 % 26 : Nat) : Int), false⟩ := if_pos h3
      rw [ef] at e2
      have ew : wrapF .i64 (97 + Int.tmod (Int.ofNat (xs.getD (off + k * 1) 0)) 26) = Int.ofNat (97 + xs.getD (off + k * 1) 0 % 26) := by
        show wrapF .i64 (97 + Int.ofNat (xs.getD (off + k * 1) 0 % 26)) = _
        have : Int.ofNat (xs.getD (off + k * 1) 0 % 26) = ((xs.getD (off + k * 1) 0 % 26 : Nat) : Int) := rfl
        rw [this, wrap64 (by omega) (by omega)]
        show _ = ((97 + xs.getD (off + k * 1) 0 % 26 : Nat) : Int)
        omega
      rw [ew]
      refine ⟨_, _, _, S.rd 0 rfl rfl rfl, ?_⟩
      intro g209
      have S : Know g g209 [_, _, _, _, _, _, _] := S.add _
      obtain ⟨a', n', c', h', e, hn', S⟩ := S.app 2 rfl (Nat.le_refl _) S.lo app64 ⟨_, _, _, rfl⟩ (src_get (n := 1) (c := 1) (esz := 2) (off := 0) (S.rd 0 rfl (r := [.int .i64 (Int.ofNat (97 + xs.getD (off + k * 1) 0 % 26)), .bool false]) rfl rfl)) rfl rfl (by omega) (by unfold big; omega)
      have S : Know g h' [_, _, _, _, _, _, _] := S
      refine ⟨_, _, _, _, e, vreq_t (S.cw 1 rfl (by decide) rfl rfl) ?_⟩
      intro g214
      have S : Know g g214 [_, _, _, _, _, _, _] := S.wr 1 rfl (by decide) rfl rfl
      have S : Know g g214 [_, _, _, _, _, _] := S.sub _ (List.sublist_cons_self ..)
      exact ih (k + 1) g214 a' n' c' (by omega) (by rw [e2]; exact S)
    have h3 : kd ≠ 3 := fun h => ne_of_f h3 (by rw [h]; rfl)
    refine vcond_split (fun h4 => ?_) fun h4 => ?_
    · have h4 : kd = 4 := Int.ofNat_inj.1 (eq_of_t h4)
      have ef : fdOf kd (pMany xs) (xs.getD (off + k * 1) 0) = ⟨((xs.getD (off + k * 1) 0 % 2 : Nat) : Int), false⟩ := by unfold fdOf; rw [if_neg h3, if_pos h4]
      rw [ef] at e2
      refine ⟨_, _, _, S.rd 0 rfl rfl rfl, ?_⟩
      intro g209
      have S : Know g g209 [_, _, _, _, _, _, _] := S.add _
      obtain ⟨a', n', c', h', e, hn', S⟩ := S.app 2 rfl (Nat.le_refl _) S.lo app64 ⟨_, _, _, rfl⟩ (src_get (n := 1) (c := 1) (esz := 2) (off := 0) (S.rd 0 rfl (r := [.int .i64 (Int.ofNat (xs.getD (off + k * 1) 0 % 2)), .bool false]) rfl rfl)) rfl rfl (by omega) (by unfold big; omega)
      have S : Know g h' [_, _, _, _, _, _, _] := S
      refine ⟨_, _, _, _, e, vreq_t (S.cw 1 rfl (by decide) rfl rfl) ?_⟩
      intro g214
      have S : Know g g214 [_, _, _, _, _, _, _] := S.wr 1 rfl (by decide) rfl rfl
      have S : Know g g214 [_, _, _, _, _, _] := S.sub _ (List.sublist_cons_self ..)
      exact ih (k + 1) g214 a' n' c' (by omega) (by rw [e2]; exact S)
    have h4 : kd ≠ 4 := fun h => ne_of_f h4 (by rw [h]; rfl)
    have ef : fdOf kd (pMany xs) (xs.getD (off + k * 1) 0) = wordC (pMany xs) (xs.getD (off + k * 1) 0) := by unfold fdOf; rw [if_neg h3, if_neg h4]
    rw [ef] at e2
    intro g224
    have S : Know g g224 [_, _, _, _, _, _, _] := S.rsvK 9
    have n224 : g224.nx = h.nx + 9 := rfl
    have hb8 := S.orng 1 rfl
    have okg : (g224.grd [b8]).Ok := S.okg fun q hq => by rw [List.mem_singleton.1 hq]; exact hb8.2
    obtain ⟨v, h233, e233, rfl, k233⟩ := ct139 hO okg hx (S.rdg 5 rfl (l := [b8]) rfl rfl) (S.orng 5 rfl).2 (n := pMany xs)
    refine ⟨_, _, _, S.rd 1 rfl rfl rfl, _, _, _, e233, ?_⟩
    intro g234
    have S : Know g g234 [_, _, _, _, _, _, _] := S.callg k233
    refine vreq_t (S.fre 0 rfl (Nat.le_add_right ..) (by omega) (by simp)) ?_
    intro g235
    have S : Know g g235 [_, _, _, _, _, _, _, _] := S.lay 0 rfl (Nat.le_add_right ..) (by omega) (by simp) _
    obtain ⟨a', n', c', h', e, hn', S⟩ := S.appg (l := []) 3 rfl (Nat.le_refl _) S.lo app64 (fun _ h => by cases h) ⟨_, _, _, rfl⟩ (src_get (n := 1) (c := 1) (esz := 2) (off := 0) (S.rd 0 rfl (r := [.int .i64 (wordC (pMany xs) (xs.getD (off + k * 1) 0)).n, .bool (wordC (pMany xs) (xs.getD (off + k * 1) 0)).refs]) rfl rfl)) rfl rfl (by omega) (by unfold big; omega)
    refine ⟨_, _, _, _, e, ?_⟩
    intro g240
    have S : Know g g240 [_, _, _, _, _, _, _, _] := S
    refine vreq_t (S.cwg 2 rfl (fun _ h => by cases h) (by decide) rfl rfl) ?_
    intro g241 g242
    have S : Know g g242 [_, _, _, _, _, _, _, _] := S.wrg 2 rfl (fun _ h => by cases h) (by decide) rfl rfl
    have S : Know g g242 [_, _, _, _, _, _] := S.sel [2, 3, 4, 5, 6, 7] (by decide) rfl
    exact ih (k + 1) g242 a' n' c' (by omega) (by rw [e2]; exact S)
end
end Go.Proofs.YtngcjpkccnfjiaaGreatDoor
/- A list of cells of which the first ones can be taken. -/
namespace Go.Ev
open Go
/-- Of a resource less is said. -/
theorem Know.weak {h0 g : Hp} {L : List Rs} (S : Know h0 g L) (i : Nat) {own : Nat → Prop} {F G : Hp → Prop} (hi : L[i]? = some (clo own F)) (hG : ∀ h, F h → G h) : Know h0 g (L.set i (clo own G)) :=
  S.upd i hi (r' := clo own G) (Ch.refl _ g) (clo.loc _ _) (fun h' hn he => hG h' (S.get i hi h' hn he)) fun _ h => .inl h
end Go.Ev
namespace Go.Proofs.YtngcjpkccnfjiaaGreatDoor
set_option maxRecDepth 100000
open Go Go.Ev
theorem SlAt.take {α : Type} {w : Nat} {R : Enc α} {h : Hp} {a : Option Addr} {n : Nat} {xs : List α} (H : SlAt w R h a n xs) {k : Nat} (hk : k ≤ n) : SlAt w R h a k (xs.take k) := by
  have hn := H.1
  have hl : (xs.take k).length = k := by rw [List.length_take]; omega
  refine ⟨hl.symm, ?_⟩
  rcases H.2 with ⟨rfl, ha⟩ | ⟨b, off, c, e, m, h1, h2, h3, h4, h5⟩
  · exact .inl ⟨List.take_nil, ha⟩
  · refine .inr ⟨b, off, c, e, m, h1, h2, h3, ?_, fun i hi => ?_⟩
    · rw [hl]
      have := Nat.mul_le_mul_right w hk
      rw [← hn] at h4; omega
    · rw [List.getElem_take]; exact h5 i (by omega)
def ClsS (h : Hp) (a : Option Addr) (n c : Nat) (L : List Cl) : Prop := ClsAt h a n L ∧ ∀ k, k ≤ n → ∃ c', sliceV Tryz.prog h 63 (.slice a n c) none (some (.int .i64 (Int.ofNat k))) none = some (.slice a k c')
theorem sz72 : sz Tryz.prog 72 = some 2 := by kernel_rfl
theorem cls_sl {h : Hp} {lo : Nat} {a : Option Addr} {n c : Nat} {vs : List Value} {L : List Cl} (A : AccE h lo 72 2 a n c vs) (N : Nst h vs L) : ClsS h a n c L := by
  have C := cls_of A N
  refine ⟨C, fun k hk => ?_⟩
  have hn := C.1
  have hl := N.len
  rcases A with (⟨rfl, rfl, rfl, rfl⟩ | ⟨o, rfl, rfl, h3, _, h5, h6⟩) | ⟨rfl, rfl, rfl, o, rfl, _, h6, e2, m, h7⟩
  · have : k = 0 := by omega
    subst this
    exact ⟨0, by unfold sliceV; rw [Tryz.underlying63]; simp only [sz72, bind, Option.bind_some, Ev.seen, bounds_hi (n := 0) (vis := 0) (Nat.le_refl _)]; rfl⟩
  · have es : Ev.seen h 72 2 (.slice (some ⟨o, 0, none⟩) n unk) = some n := by
      simp only [Ev.seen, Nat.beq_refl, cond_true, h6]
      have e5 : Nat.blt 0 2 = true := rfl
      rw [e5]
      show some ((vs.length - 0) / 2) = _
      rw [Nat.sub_zero, hl, Nat.mul_div_cancel _ (by decide), hn]
    refine ⟨unk, ?_⟩
    · unfold sliceV
      rw [Tryz.underlying63]
      simp only [sz72, bind, Option.bind_some, es, bounds_hi hk]
      rfl
  · have : k = 0 := by omega
    subst this
    refine ⟨0, ?_⟩
    unfold sliceV
    rw [Tryz.underlying63]
    simp only [sz72, bind, Option.bind_some, Ev.seen]
    rfl
end Go.Proofs.YtngcjpkccnfjiaaGreatDoor
/- Contracts: drawn, the whole; Repeat. -/
namespace Go.Proofs.YtngcjpkccnfjiaaGreatDoor
set_option maxRecDepth 100000
open Go Go.Ev
theorem pKind_rng (xs : List Nat) (i : Nat) : 1 ≤ pKind xs i ∧ pKind xs i ≤ 5 := by unfold pKind; omega
theorem pSize_rng (xs : List Nat) (i : Nat) : pSize xs i ≤ 4 := by unfold pSize; split <;> omega
theorem pMany_rng (xs : List Nat) : pMany xs ≤ 9 := by unfold pMany; omega
theorem tmodN (a b : Nat) : Int.tmod (Int.ofNat a) (Int.ofNat b) = Int.ofNat (a % b) := rfl
/-- What 'drawn' returns. -/
def QDrawn (g : Hp) (xs : List Nat) : Value → Hp → Prop := fun v h' => ∃ a n c a' n' c' own, v = .tuple #[.slice a n c, .slice a' n' c'] ∧ Know g h' [clo own (fun h => ClsS h a n c (drawnL xs)), acc g.nx 76 2 a' n' c' (fvs (drawnR xs))]
section
variable {O : CallF} (hO : Oth O)
include hO
theorem lp106_0 {g : Hp} {v0 : Array Value} {xs : List Nat} (B : Bytes v0 xs) {b1 bn : Nat} :
    ∀ (d k : Nat) (h : Hp) (a : Option Addr) (n c : Nat) (vs : List Value) (own : Nat → Prop), k + d = pMany xs → Know g h [acc g.nx 72 2 a n c vs, clo own (fun h => Nst h vs ((List.range k).map (pCell xs))), ob bn (.cells [.int .i64 (Int.ofNat (pMany xs))] 3 .fix), ob b1 (.cells (bv xs) 62 .fix)] →
      I106_0 O (QDrawn g xs) v0 b1 0 (.func (.func 139) #[] #[.pointer (some ⟨bn, 0, none⟩)]) a n c (Int.ofNat (pMany xs)) (Int.ofNat k) h := by
  have hlen := B.len
  have hm := pMany_rng xs
  intro d
  induction d with
  | zero =>
    intro k h a n c vs own hk S
    have : k = pMany xs := by omega
    subst this
    refine I106_0.of (hh := ?_) ..
    unfold T106_0
    have hr : ((bv xs).drop 0).take 1 = [.int .u8 (Int.ofNat (xs.getD 0 0))] := bv_at (by omega)
    refine vcond_f (by rw [ltI_nat]; exact blt_f (by omega)) ⟨_, S.rd 3 rfl hr (ble_t (by rw [List.length_map]; omega)), ?_⟩
    have h0 := B.b 0
    rw [wrapN (show xs.getD 0 0 < 9223372036854775808 by omega), show Int.tdiv (Int.ofNat (xs.getD 0 0)) 16 = Int.ofNat (xs.getD 0 0 / 16) from rfl, wrapN (show xs.getD 0 0 / 16 < 9223372036854775808 by omega), show Int.tmod (Int.ofNat (xs.getD 0 0 / 16)) 5 = Int.ofNat (xs.getD 0 0 / 16 % 5) from rfl]
    refine ⟨_, _, _, slice_arr' (by omega), ?_⟩
    have S : Know g h [_, _, _] := S.merge (fun h => ClsS h a n c (drawnL xs)) fun h' A N => cls_sl A (clo.get N)
    have S : Know g h [_, _, _, _] := S.accNil g.nx 76 2
    exact lp106_2 hO B (s := xs.getD 0 0 / 16 % 5) (by omega) (fun h2 a2 n2 c2 S2 => ⟨_, _, _, _, _, _, _, rfl, S2.sel [1, 0] (by decide) rfl⟩) (xs.getD 0 0 / 16 % 5) 0 h none 0 0 (by omega) S
  | succ d ih =>
    intro k h a n c vs own hk S
    refine I106_0.of (hh := ?_) ..
    unfold T106_0
    have hkk := B.b (2 + k * 1)
    have ek : xs.getD (0 + 2 + k * 1) 0 = xs.getD (2 + k) 0 := by rw [Nat.zero_add, Nat.mul_one]
    have hr : ((bv xs).drop (0 + 2 + k * 1)).take 1 = [.int .u8 (Int.ofNat (xs.getD (2 + k) 0))] := by rw [← ek]; exact bv_at (by omega)
    have hb : Nat.ble (0 + 2 + k * 1 + 1) (bv xs).length = true := ble_t (by rw [List.length_map]; omega)
    have hk1 : xs.getD (2 + k) 0 < 256 := B.b (2 + k)
    refine vcond_t (by rw [ltI_nat]; exact blt_t (by omega)) (isNat_i (vreq_t (blt_t (by omega)) ⟨_, S.rd 3 rfl hr hb, ?_⟩))
    have e1 : wrapF .i64 (1 + Int.tmod (wrapF .i64 (Int.ofNat (xs.getD (2 + k) 0))) 5) = Int.ofNat (pKind xs k) := by
      rw [wrapN (show xs.getD (2 + k) 0 < 9223372036854775808 by omega)]
      show wrapF .i64 (1 + ((xs.getD (2 + k) 0 % 5 : Nat) : Int)) = ((1 + xs.getD (2 + k) 0 % 5 : Nat) : Int)
      rw [wrap64 (by omega) (by omega)]; omega
    rw [e1]
    intro g103
    have S : Know g g103 [_, _, _, _, _] := S.add _
    refine vreq_t (S.cw 0 rfl (by decide) rfl rfl) ?_
    intro g104
    have S : Know g g104 [_, _, _, _, _] := S.wr 0 rfl (by decide) rfl rfl
    have S : Know g g104 [_, _, _, _, _, _] := S.accNil g.nx 76 2
    have S : Know g g104 [_, _, _, _, _, _] := S.sel [1, 0, 2, 3, 4, 5] (by decide) rfl
    have hpk := pKind_rng xs k
    have hps := pSize_rng xs k
    -- the fields
    have go : I106_1 O (QDrawn g xs) v0 b1 0 (.func (.func 139) #[] #[.pointer (some ⟨bn, 0, none⟩)]) a n c h.nx 0 (Int.ofNat (pMany xs)) (Int.ofNat k) (some ⟨b1, 11 + 4 * k, none⟩) (pSize xs k) 4 (Int.ofNat (pSize xs k)) 0 g104 := by
      refine lp106_1 hO B hps (by omega) (fun h2 a2 n2 c2 S => ?_) (pSize xs k) 0 g104 none 0 0 (by omega) S
      refine I106_1.of (hh := ?_) ..
      unfold T106_1
      refine vcond_f (by rw [ltI_nat]; exact blt_f (by omega)) ⟨_, _, _, _, S.rd 0 rfl rfl rfl, ?_⟩
      intro g247
      have S : Know g g247 [_, _, _, _, _, _, _] := S.add _
      have hn : n = k := by
        have A : AccE g247 g.nx 72 2 a n c vs := S.get 3 rfl
        have N : Nst g247 vs ((List.range k).map (pCell xs)) := clo.get (S.get 4 rfl)
        have := (cls_of A N).1
        simpa using this
      obtain ⟨a', n', c', h', e, hn', S⟩ := S.app 3 rfl (Nat.le_refl _) S.lo app63 ⟨_, _, _, rfl⟩ (src_get (n := 1) (c := 1) (esz := 2) (off := 0) (S.rd 0 rfl (r := [.int .i64 (Int.ofNat (pKind xs k)), .slice a2 n2 c2]) rfl rfl)) rfl rfl (by omega) (by unfold big; omega)
      have S : Know g h' [_, _, _, _, _, _, _] := S
      refine ⟨_, _, _, _, e, ?_⟩
      rw [wrap_succ (by omega)]
      have S : Know g h' [_, _, _, _, _] := S.sel [4, 2, 3, 5, 6] (by decide) rfl
      have S : Know g h' [_, _, _, _] := S.merge (fun h => Nst h (vs ++ [.int .i64 (Int.ofNat (pKind xs k)), .slice a2 n2 c2]) ((List.range (k + 1)).map (pCell xs))) fun h' N A => by
        rw [List.range_succ, List.map_append]
        exact (clo.get N).snoc (c := pCell xs k) (AccE.slAt fdE_len (by decide) A)
      exact ih (k + 1) h' a' n' c' _ _ (by omega) (S.sel [1, 0, 2, 3] (by decide) rfl)
    refine isNat_i (vreq_t (blt_t (by omega)) ⟨_, S.rd 5 rfl hr hb, _, S.rd 0 rfl rfl rfl, vcond_split (fun h4 => ?_) fun h4 => ?_⟩)
    · have h4 : pKind xs k = 4 := Int.ofNat_inj.1 (eq_of_t h4)
      have es : pSize xs k = 1 := if_pos h4
      rw [es] at go
      refine isNat_i (vreq_t (blt_t (by omega)) ⟨_, _, _, slice_arr' (s := 1) (by omega), ?_⟩)
      rw [show 0 + 11 + k * 4 = 11 + 4 * k by omega]
      exact go
    · have h4 : pKind xs k ≠ 4 := fun h => ne_of_f h4 (by rw [h]; rfl)
      have es : pSize xs k = xs.getD (2 + k) 0 / 8 % 5 := if_neg h4
      rw [es] at go
      rw [wrapN (show xs.getD (2 + k) 0 < 9223372036854775808 by omega), show Int.tdiv (Int.ofNat (xs.getD (2 + k) 0)) 8 = Int.ofNat (xs.getD (2 + k) 0 / 8) from rfl, wrapN (show xs.getD (2 + k) 0 / 8 < 9223372036854775808 by omega), show Int.tmod (Int.ofNat (xs.getD (2 + k) 0 / 8)) 5 = Int.ofNat (xs.getD (2 + k) 0 / 8 % 5) from rfl]
      refine isNat_i (vreq_t (blt_t (by omega)) ⟨_, _, _, slice_arr' (by omega), ?_⟩)
      rw [show 0 + 11 + k * 4 = 11 + 4 * k by omega]
      exact go
/-- 'drawn'. -/
theorem ct106 {g : Hp} (ok : g.Ok) {v0 : Array Value} {xs : List Nat} (B : Bytes v0 xs) : Ret Tryz.prog O 106 [.agg v0] g (QDrawn g xs) := by
  refine rk106 (hO := hO _ _ _ (by decide)) (hh := ?_) ..
  unfold T106
  have h0 := B.b 0
  have hlen := B.len
  refine vreq_t (by rw [B.v]; exact bv_one xs) ?_
  intro g1
  have S : Know g g1 [_] := (Know.nil ok).add _
  rw [B.v] at S
  have hr : ((bv xs).drop 0).take 1 = [.int .u8 (Int.ofNat (xs.getD 0 0))] := bv_at (by omega)
  refine ⟨_, S.rd 0 rfl hr (ble_t (by rw [List.length_map]; omega)), ?_⟩
  intro g3
  have S : Know g g3 [_, _] := S.add _
  rw [wrapN (show xs.getD 0 0 < 9223372036854775808 by omega), show Int.tmod (Int.ofNat (xs.getD 0 0)) 10 = Int.ofNat (pMany xs) from rfl]
  refine vreq_t (S.cw 0 rfl (by decide) rfl rfl) ?_
  intro g4
  have S : Know g g4 [_, _] := S.wr 0 rfl (by decide) rfl rfl
  refine ⟨_, S.rd 0 rfl rfl rfl, ?_⟩
  have S : Know g g4 [_, _, _] := S.push (r' := clo (fun _ => False) (fun h => Nst h [] ((List.range 0).map (pCell xs)))) (Kp.refl _ _) (clo.loc _ _) (fun _ _ _ => trivial) fun _ h => h.elim
  have S : Know g g4 [_, _, _, _] := S.accNil g.nx 72 2
  exact lp106_0 hO B (pMany xs) 0 g4 none 0 0 [] _ (by omega) S
end
end Go.Proofs.YtngcjpkccnfjiaaGreatDoor
/- Contracts: Repeat of one number. -/
namespace Go.Proofs.YtngcjpkccnfjiaaGreatDoor
set_option maxRecDepth 100000
open Go Go.Ev
theorem wrapU {n : Nat} (h : n < 18446744073709551616) : wrapF .u64 (Int.ofNat n) = Int.ofNat n := by
  rw [wrapF_eq, wrap_u64, Nat.mod_eq_of_lt h]
theorem shr0 {m : Nat} (h : m < 4294967296) : shrF .u64 (Int.ofNat m) 32 = Int.ofNat 0 := by
  show Int.fdiv (Int.ofNat m) 4294967296 = _
  rw [Int.fdiv_eq_ediv_of_nonneg _ (by decide)]
  show ((m : Int) / 4294967296) = 0
  omega
theorem land_small {m : Nat} (h : m < 4294967296) : landI (Int.ofNat m) 4294967295 = Int.ofNat m := by
  show Int.ofNat (Nat.land m 4294967295) = _
  congr 1
  have : m &&& (2 ^ 32 - 1) = m % 2 ^ 32 := Nat.and_two_pow_sub_one_eq_mod m 32
  show m &&& 4294967295 = m
  rw [show (4294967295 : Nat) = 2 ^ 32 - 1 from rfl, this]
  exact Nat.mod_eq_of_lt h
section
variable {O : CallF} (hO : Oth O)
include hO
theorem ct143 {m : Nat} (hm : m < 4294967296) (h : Hp) : EvT O 143 [.int .u64 (Int.ofNat 1), .int .u64 (Int.ofNat m)] h (.tuple #[.int .u64 (Int.ofNat 0), .int .u64 (Int.ofNat m)]) h := by
  have r : EvT O 152 [.int .u64 (Int.ofNat 1), .int .u64 (Int.ofNat m)] h (.tuple #[.int .u64 (Int.ofNat 0), .int .u64 (Int.ofNat m)]) h := by
    refine evt hO (rk152 (hO := hO _ _ _ (by decide)) (hh := ?_) ..)
    unfold T152
    have z : ∀ x : Int, Int.ofNat 0 * x = Int.ofNat 0 := fun x => Int.zero_mul x
    have z2 : ∀ x : Int, x * Int.ofNat 0 = Int.ofNat 0 := fun x => Int.mul_zero x
    have z3 : Int.ofNat 0 + Int.ofNat 0 = Int.ofNat 0 := rfl
    have o1 : Int.ofNat 1 * Int.ofNat m = Int.ofNat m := Int.one_mul _
    have w0 : wrapF .u64 (Int.ofNat 0) = Int.ofNat 0 := wrapU (by decide)
    have wm : wrapF .u64 (Int.ofNat m) = Int.ofNat m := wrapU (by omega)
    have s1 : shrF .u64 (Int.ofNat 1) 32 = Int.ofNat 0 := shr0 (by decide)
    have s0 : shrF .u64 (Int.ofNat 0) 32 = Int.ofNat 0 := shr0 (by decide)
    have sm : shrF .u64 (Int.ofNat m) 32 = Int.ofNat 0 := shr0 hm
    have l1 : landI (Int.ofNat 1) 4294967295 = Int.ofNat 1 := land_small (by decide)
    have lm : landI (Int.ofNat m) 4294967295 = Int.ofNat m := land_small hm
    have l0 : landI (Int.ofNat 0) 4294967295 = Int.ofNat 0 := land_small (by decide)
    rw [s1, sm, l1, lm, o1, wm, sm, z, z, w0, z3, w0, z2, w0, l0, z3, w0, s0, z3, w0, z3, w0]
    exact vreq_t rfl (vreq_t (blt_t (by omega)) (vreq_t rfl ⟨rfl, rfl⟩))
  refine evt hO (rk143 (hO := hO _ _ _ (by decide)) (hh := ?_) ..)
  unfold T143
  exact ⟨_, _, _, r, rfl, rfl⟩
theorem rep_step {v : Int} {m j : Nat} (hj : j ≤ m) : putAt (List.replicate j v ++ List.replicate (m - j) 0) j (List.replicate (Nat.min j (m - j)) v) = List.replicate (j + Nat.min j (m - j)) v ++ List.replicate (m - (j + Nat.min j (m - j))) 0 := by
  have _ := hO
  have hmin : Nat.min j (m - j) ≤ m - j := Nat.min_le_right ..
  generalize Nat.min j (m - j) = q at hmin
  refine List.ext_getElem? fun i => ?_
  rw [putAt_get _ _ _ (by simp; omega)]
  simp only [List.getElem?_append, List.getElem?_replicate, List.length_replicate]
  by_cases h1 : j ≤ i ∧ i < j + q
  · rw [if_pos h1, if_pos (by omega), if_pos (by omega), if_pos (by omega)]
  · rw [if_neg h1]
    by_cases h2 : i < j
    · rw [if_pos h2, if_pos h2, if_pos (by omega), if_pos (by omega)]
    · rw [if_neg h2, if_neg (show ¬ i < j + q by omega)]
      by_cases h3 : i - j < m - j
      · rw [if_pos h3, if_pos (by omega)]
      · rw [if_neg h3, if_neg (by omega)]
/-- 'slices.Repeat' of one number. -/
theorem ct111 {g : Hp} (ok : g.Ok) {a : Option Addr} {c : Nat} {v : Int} (X : IntsAt g a 1 [v]) {m : Nat} (hm : m < 1000000) : Ret Tryz.prog O 111 [.slice a 1 c, .int .i64 (Int.ofNat m)] g fun r h' => ∃ o, r = .slice (some ⟨o, 0, none⟩) m m ∧ Know g h' [ob o (.cells (iv (List.replicate m v)) 3 .fix)] := by
  refine rk111 (hO := hO _ _ _ (by decide)) (hh := ?_) ..
  unfold T111
  have w1 : wrapF .u64 (Int.ofNat 1) = Int.ofNat 1 := wrapU (by decide)
  have wm : wrapF .u64 (Int.ofNat m) = Int.ofNat m := wrapU (by omega)
  rw [w1, wm]
  have hu : unk = 18446744073709551616 := rfl
  refine vcond_f (ltI_f (by have : Int.ofNat m = (m : Int) := rfl; omega)) ⟨_, _, _, ct143 hO (by omega) g, vcond_f rfl (vcond_f (ltI_f (by have : Int.ofNat m = (m : Int) := rfl; omega)) ?_)⟩
  rw [wrapN (show m < 9223372036854775808 by omega)]
  refine isNat_i (isNat_i (vreq_t (ble_t (Nat.le_refl _)) (vreq_t (ble_t (by omega)) (vreq_t (blt_t (by unfold big; omega)) ?_))))
  intro g6
  have S : Know g g6 [_] := (Know.nil ok).add _
  have ez : List.flatten (List.replicate m [Value.int .i64 0]) = iv (List.replicate m 0) := by
    have : ∀ k, List.flatten (List.replicate k [Value.int .i64 0]) = iv (List.replicate k 0) := by
      intro k
      induction k with
      | zero => rfl
      | succ k ih => rw [List.replicate_succ, List.flatten_cons, ih, List.replicate_succ]; rfl
    exact this m
  rw [ez] at S
  haveI := S.ft
  have lp : ∀ (d j : Nat) (h : Hp), m - j ≤ d → j ≤ m → (1 ≤ j ∨ j = m) → Know g h [ob g.nx (.cells (iv (List.replicate j v ++ List.replicate (m - j) 0)) 3 .fix)] → I111_0 O (fun r h' => ∃ o, r = .slice (some ⟨o, 0, none⟩) m m ∧ Know g h' [ob o (.cells (iv (List.replicate m v)) 3 .fix)]) a 1 c (Int.ofNat m) (some ⟨g.nx, 0, none⟩) m m (Int.ofNat j) h := by
    intro d
    induction d with
    | zero =>
      intro j h hd hj _ S
      have : j = m := by omega
      subst this
      refine I111_0.of (hh := ?_) ..
      unfold T111_0
      refine vcond_f (by rw [ltI_nat]; exact blt_f (by omega)) ⟨_, rfl, ?_⟩
      rw [Nat.sub_self, List.replicate_zero, List.append_nil] at S
      exact S
    | succ d ih =>
      intro j h hd hj h1 S
      refine I111_0.of (hh := ?_) ..
      unfold T111_0
      by_cases hjm : j = m
      · subst hjm
        refine vcond_f (by rw [ltI_nat]; exact blt_f (by omega)) ⟨_, rfl, ?_⟩
        rw [Nat.sub_self, List.replicate_zero, List.append_nil] at S
        exact S
      · refine vcond_t (by rw [ltI_nat]; exact blt_t (by omega)) ?_
        intro g101
        have S : Know g g101 [_] := S.rsv 10
        have lW : (List.replicate j v ++ List.replicate (m - j) 0).length = m := by rw [List.length_append, List.length_replicate, List.length_replicate]; omega
        have hget := S.obj 0 rfl
        have si : SI g101 (some ⟨g.nx, 0, none⟩) m m (List.replicate j v ++ List.replicate (m - j) 0) := SI.cells hget (S.orng 0 rfl).2 lW.symm (by omega)
        obtain ⟨c1, es1⟩ := slice_lo si (l := j) (by omega)
        obtain ⟨a2, c2, es2, sp⟩ := si.part (l := 0) (r := j) (by omega) (by omega) (lo := none) (hi := some (.int .i64 (Int.ofNat j))) fun vis hv => bounds_hi (by omega)
        have et : ((List.replicate j v ++ List.replicate (m - j) 0).drop 0).take (j - 0) = List.replicate j v := by rw [List.drop_zero, List.take_left' (by rw [List.length_replicate]; omega)]
        rw [et] at sp
        have gf : (g101.grd []).guarded g.nx = false := S.gdfg (S.orng 0 rfl).1 fun q hq => by cases hq
        obtain ⟨h18, ec, hg18, ho18, hn18, hgd18, hf18⟩ := copy_ints (h := g101.grd []) (o := g.nx) (off := j) (n := m - j) (m := j - 0) (c2 := c2) (c1 := c1) hget (by decide) gf (by omega) sp.at_
        refine ⟨_, _, _, es1, _, _, _, es2, _, _, ec, ?_⟩
        intro g110
        have em : Nat.min (j - 0) (m - j) = Nat.min j (m - j) := by rw [Nat.sub_zero]
        rw [em] at hg18 ⊢
        have hmin : Nat.min j (m - j) ≤ m - j := Nat.min_le_right ..
        have hmin1 : 1 ≤ Nat.min j (m - j) := by
          rcases Nat.le_total j (m - j) with h | h
          · rw [show Nat.min j (m - j) = j from Nat.min_eq_left h]; omega
          · rw [show Nat.min j (m - j) = m - j from Nat.min_eq_right h]; omega
        have hminj : Nat.min j (m - j) ≤ j := Nat.min_le_left ..
        rw [List.take_replicate, show min (Nat.min j (m - j)) j = Nat.min j (m - j) from Nat.min_eq_left hminj, rep_step hO hj] at hg18
        have S : Know g g110 [ob g.nx (.cells (iv (List.replicate (j + Nat.min j (m - j)) v ++ List.replicate (m - (j + Nat.min j (m - j))) 0)) 3 .fix)] :=
          S.upd 0 rfl ⟨fun o _ ho => ho18 o ho, by show g101.nx ≤ h18.nx; rw [hn18]; exact Nat.le_refl _, rfl, fun f => hf18 f⟩ (ob.loc _ _) hg18 fun _ h => .inl h
        have ew : wrapF .i64 (Int.ofNat j + Int.ofNat (Nat.min j (m - j))) = Int.ofNat (j + Nat.min j (m - j)) := wrapN (n := j + Nat.min j (m - j)) (by omega)
        rw [ew]
        exact ih (j + Nat.min j (m - j)) g110 (by omega) (by omega) (by omega) S
  have hget := S.obj 0 rfl
  have gf : g6.guarded g.nx = false := S.gdf (S.orng 0 rfl).1
  obtain ⟨h18, ec, hg18, ho18, hn18, hgd18, hf18⟩ := copy_ints (h := g6) (o := g.nx) (off := 0) (n := m) (m := 1) (c2 := c) (c1 := m) hget (by decide) gf (by rw [List.length_replicate]; omega) (X.to g6)
  refine ⟨_, _, ec, ?_⟩
  have hmin1 : Nat.min 1 m ≤ 1 := Nat.min_le_left ..
  have hminm : Nat.min 1 m ≤ m := Nat.min_le_right ..
  have e0 : putAt (List.replicate m (0 : Int)) 0 ([v].take (Nat.min 1 m)) = List.replicate (Nat.min 1 m) v ++ List.replicate (m - Nat.min 1 m) 0 := by
    cases m with
    | zero => rfl
    | succ m =>
      rw [show Nat.min 1 (m + 1) = 1 from Nat.min_eq_left (by omega), List.replicate_succ]
      show v :: putAt (List.replicate m 0) 0 [] = v :: List.replicate (m + 1 - 1) 0
      rw [putAt_nil]; rfl
  rw [e0] at hg18
  have S : Know g h18 [ob g.nx (.cells (iv (List.replicate (Nat.min 1 m) v ++ List.replicate (m - Nat.min 1 m) 0)) 3 .fix)] :=
    S.upd 0 rfl ⟨fun o _ ho => ho18 o ho, by rw [hn18]; exact Nat.le_refl _, hgd18, fun f => hf18 f⟩ (ob.loc _ _) hg18 fun _ h => .inl h
  refine lp m (Nat.min 1 m) h18 (by omega) hminm ?_ S
  rcases Nat.eq_zero_or_pos m with rfl | h
  · exact .inr rfl
  · exact .inl (by rw [show Nat.min 1 m = 1 from Nat.min_eq_left h]; exact Nat.le_refl _)
end
end Go.Proofs.YtngcjpkccnfjiaaGreatDoor
/- Contracts: a heap is laid from cells. -/
namespace Go.Proofs.YtngcjpkccnfjiaaGreatDoor
set_option maxRecDepth 100000
open Go Go.Ev
theorem posS_pre {sz : Nat → Nat} : ∀ {o e : List Nat} {b a : Nat}, a ∈ o → posS sz b (o ++ e) a = posS sz b o a := by
  intro o
  induction o with
  | nil => intro e b a h; cases h
  | cons x xs ih =>
    intro e b a h
    show (if x = a then b else posS sz (b + sz x) (xs ++ e) a) = if x = a then b else posS sz (b + sz x) xs a
    split
    · rfl
    · rcases List.mem_cons.1 h with rfl | h
      · exact absurd rfl ‹_›
      · exact ih h
/-- The addresses of cells; -1, of one that is not laid. -/
def atV (L : List Cl) (o : List Nat) (i : Nat) : Int := if i ∈ o then (atC L o i : Int) else -1
def atL (L : List Cl) (o : List Nat) : List Int := (List.range L.length).map (atV L o)
theorem atL_len (L : List Cl) (o : List Nat) : (atL L o).length = L.length := by unfold atL; simp
theorem atL_get (L : List Cl) (o : List Nat) {i : Nat} (hi : i < L.length) : (atL L o)[i]'(by rw [atL_len]; exact hi) = atV L o i := by unfold atL; simp
theorem atL_nil (L : List Cl) : atL L [] = List.replicate L.length (-1) := by
  unfold atL
  refine List.ext_getElem (by simp) fun i h1 h2 => ?_
  simp [atV]
theorem atL_snoc {L : List Cl} {o : List Nat} {i : Nat} (hi : i ∉ o) (hL : i < L.length) : (atL L o).set i (layT L o : Int) = atL L (o ++ [i]) := by
  refine List.ext_getElem (by rw [List.length_set, atL_len, atL_len]) fun j h1 h2 => ?_
  rw [List.length_set, atL_len] at h1
  rw [List.getElem_set, atL_get L o h1, atL_get L (o ++ [i]) h1]
  by_cases h : i = j
  · subst h
    rw [if_pos rfl]
    unfold atV
    rw [if_pos (by simp)]
    unfold atC layT
    rw [posS_at hi]
  · rw [if_neg h]
    unfold atV
    by_cases hj : j ∈ o
    · rw [if_pos hj, if_pos (by simp [hj])]
      unfold atC
      rw [posS_pre hj]
    · rw [if_neg hj, if_neg (by simp [hj]; exact fun h2 => h h2.symm)]
theorem layT_snoc (L : List Cl) (o : List Nat) (i : Nat) : layT L (o ++ [i]) = layT L o + szC L i := by
  unfold layT; rw [totS_app, totS_cons]; show 1 + (_ + (_ + 0)) = _; omega
theorem putAt_z1 (Y : List Int) (z : Nat) (v : Int) (hz : 0 < z) : putAt (iv (Y ++ List.replicate z 0)) (0 + Y.length * 1) [.int .i64 v] = iv (Y ++ [v] ++ List.replicate (z - 1) 0) := by
  rw [show [Value.int .i64 v] = iv [v] from rfl, ← iv_putAt, show 0 + Y.length * 1 = Y.length by omega]
  congr 1
  induction Y with
  | nil =>
    cases z with
    | zero => cases hz
    | succ z =>
      show v :: putAt (List.replicate z 0) 0 [] = v :: List.replicate (z + 1 - 1) 0
      rw [putAt_nil]; rfl
  | cons y Y ih => show y :: putAt (Y ++ List.replicate z 0) Y.length [v] = y :: (Y ++ [v] ++ List.replicate (z - 1) 0); rw [ih]
section
variable {O : CallF} (hO : Oth O)
include hO
/-- A field's word. -/
theorem ct112 {h : Hp} (ok : h.Ok) {a : Option Addr} {n c : Nat} {A : List Int} (X : IntsAt h a n A) {b1 : Nat} (hb : readAt h b1 0 1 = some [.slice a n c]) (hb1 : b1 < h.nx) {at_ : Nat → Nat} {f : Fd} (hf : f.refs = true → f.n = (f.n.toNat : Int) ∧ A[f.n.toNat]? = some (at_ f.n.toNat : Int) ∧ at_ f.n.toNat < 1000000) :
    Ret Tryz.prog O 112 [.agg #[.int .i64 f.n, .bool f.refs], .pointer (some ⟨b1, 0, none⟩)] h fun v h' => v = .int .i64 (wd at_ f) ∧ Kp h.nx h h' := by
  refine rk112 (hO := hO _ _ _ (by decide)) (hh := ?_) ..
  unfold T112
  intro g1
  have S : Know h g1 [_] := (Know.nil ok).add _
  haveI := S.ft
  refine ⟨_, S.rd 0 rfl rfl rfl, ?_⟩
  cases hr : f.refs with
  | false => exact vcond_f rfl ⟨_, S.rd 0 rfl rfl rfl, by rw [wd_n hr], S.kp⟩
  | true =>
    obtain ⟨h1, h2, h3⟩ := hf hr
    obtain ⟨hk, e⟩ := List.getElem?_eq_some_iff.1 h2
    rw [h1] at S
    refine vcond_t rfl ⟨_, _, _, by rw [readAt_ex (g := h) hb1]; exact hb, _, S.rd 0 rfl rfl rfl, isNat_i (X.rd (k := f.n.toNat) hk ?_)⟩
    rw [e, wd_r hr]
    refine ⟨?_, S.kp⟩
    rw [show (2 * (at_ f.n.toNat : Int)) = 2 * Int.ofNat (at_ f.n.toNat) from rfl, dbl64 (n := at_ f.n.toNat) (Nat.le_refl _) h3]
    rfl
end
end Go.Proofs.YtngcjpkccnfjiaaGreatDoor
/- Contracts: laid. -/
namespace Go.Proofs.YtngcjpkccnfjiaaGreatDoor
set_option maxRecDepth 100000
open Go Go.Ev
/-- What may be laid: cells in an order, and roots. -/
structure LayOk (L : List Cl) (o : List Nat) (rs : List Fd) (fr : Nat) : Prop where
  nd : o.Nodup
  lt : ∀ i ∈ o, i < L.length
  refs : ∀ i ∈ o, ∀ f ∈ (clAt L i).fs, f.refs = true → f.n = (f.n.toNat : Int) ∧ f.n.toNat ∈ o
  roots : ∀ f ∈ rs, f.refs = true → f.n = (f.n.toNat : Int) ∧ f.n.toNat ∈ o
  kind : ∀ i ∈ o, 0 ≤ (clAt L i).kind ∧ (clAt L i).kind ≤ 10
  lL : L.length ≤ 1000
  lr : rs.length ≤ 1000
  fit : layT L o + fr ≤ 100000
theorem LayOk.wdf {L : List Cl} {o : List Nat} {rs : List Fd} {fr : Nat} (K : LayOk L o rs fr) {f : Fd} (hf : f.refs = true → f.n = (f.n.toNat : Int) ∧ f.n.toNat ∈ o) : f.refs = true → f.n = (f.n.toNat : Int) ∧ (atL L o)[f.n.toNat]? = some (atC L o f.n.toNat : Int) ∧ atC L o f.n.toNat < 1000000 := fun hr => by
  obtain ⟨h1, h2⟩ := hf hr
  have h3 := K.lt _ h2
  refine ⟨h1, ?_, ?_⟩
  · rw [List.getElem?_eq_getElem (by rw [atL_len]; exact h3), atL_get L o h3]
    unfold atV; rw [if_pos h2]
  · have := posS_lt (sz := szC L) (b := 1) h2
    have := K.fit
    unfold layT at this
    unfold atC
    have := szC_pos L f.n.toNat
    omega
theorem layT_take {L : List Cl} {o : List Nat} {k : Nat} : layT L (o.take k) ≤ layT L o := by
  unfold layT
  have : totS (szC L) o = totS (szC L) (o.take k) + totS (szC L) (o.drop k) := by rw [← totS_app, List.take_append_drop]
  omega
theorem take_snoc {o : List Nat} {k : Nat} (hk : k < o.length) : o.take (k + 1) = o.take k ++ [o[k]] := by
  rw [List.take_add_one, List.getElem?_eq_getElem hk]; rfl
theorem nodup_take {o : List Nat} (h : o.Nodup) {k : Nat} (hk : k < o.length) : o[k] ∉ o.take k := by
  have e := List.take_append_drop k o
  rw [List.drop_eq_getElem_cons hk] at e
  rw [← e] at h
  exact fun hh => (List.nodup_append.1 h).2.2 _ hh _ (List.mem_cons_self ..) rfl
theorem at_take {L : List Cl} {o : List Nat} (h : o.Nodup) {k : Nat} (hk : k < o.length) : atC L o o[k] = layT L (o.take k) := by
  have e := List.take_append_drop k o
  rw [List.drop_eq_getElem_cons hk] at e
  unfold atC layT
  conv => lhs; rw [show posS (szC L) 1 o o[k] = posS (szC L) 1 (o.take k ++ o[k] :: o.drop (k + 1)) o[k] from by rw [e]]
  exact posS_at (nodup_take h hk)
section
variable {O : CallF} (hO : Oth O)
include hO
/-- The roots. -/
theorem lp52_3 {g : Hp} {a0 : Option Addr} {n0 c0 : Nat} {a1 : Option Addr} {n1 c1 : Nat} {a2 : Option Addr} {n2 c2 : Nat} {x3 : Int} {b8 b10 b11 oA oW N top : Nat} {L : List Cl} {o : List Nat} {rs : List Fd} {fr : Nat} (K : LayOk L o rs fr) (F : FdsAt g a2 n2 rs) {W : List Int} {v1 v2 v3 : Value} {Q : Value → Hp → Prop}
    (next : ∀ (h : Hp) (a : Option Addr) (n c : Nat), Know g h [ob oW (.cells (iv W) 3 .fix), acc g.nx 3 1 a n c (iv (layR L o rs)), ob oA (.cells (iv (atL L o)) 3 .fix)] → Q (.tuple #[.agg #[.slice (some ⟨oW, 0, none⟩) N N, .int .i64 (Int.ofNat top), .slice a n c], .slice (some ⟨oA, 0, none⟩) L.length L.length]) h) :
    ∀ (d k : Nat) (h : Hp) (a : Option Addr) (n c : Nat), k + d = rs.length → Know g h [ob b8 (.cells [v1, v2, v3] 24 .fix), ob b10 (.cells [.slice (some ⟨oA, 0, none⟩) L.length L.length] 22 .fix), ob b11 (.cells [.slice (some ⟨oW, 0, none⟩) N N, .int .i64 (Int.ofNat top), .slice a n c] 24 .fix), ob oA (.cells (iv (atL L o)) 3 .fix), ob oW (.cells (iv W) 3 .fix), acc g.nx 3 1 a n c (iv (layR L o (rs.take k)))] →
      I52_3 O Q a0 n0 c0 a1 n1 c1 a2 n2 c2 x3 b8 0 b10 0 b11 0 (.func (.func 112) #[] #[.pointer (some ⟨b10, 0, none⟩)]) (Int.ofNat k) h := by
  have hn2 := F.1
  have hlr := K.lr
  intro d
  induction d with
  | zero =>
    intro k h a n c hk S
    refine I52_3.of (hh := ?_) ..
    unfold T52_3
    refine vcond_f (by rw [ltI_nat]; exact blt_f (by omega)) ?_
    intro g428
    have S : Know g g428 [_, _, _, _, _, _] := S.rsv 4
    have hgr : ∀ q ∈ [b10], q ≠ b8 := fun q hq => by rw [List.mem_singleton.1 hq]; exact S.ne 1 0 rfl rfl (by decide)
    refine ⟨_, _, _, _, _, _, _, S.rd 2 rfl rfl rfl, _, _, _, S.rd 1 rfl rfl rfl, vreq_t (S.cwg 0 rfl hgr (by decide) rfl rfl) ?_⟩
    intro g439 g440
    have S : Know g g440 [_, _, _, _, _, _] := S.wrg 0 rfl hgr (by decide) rfl rfl
    refine ⟨_, _, _, _, _, _, _, S.rd 0 rfl rfl rfl, next g440 a n c ?_⟩
    have : rs.take k = rs := List.take_of_length_le (by omega)
    rw [this] at S
    exact S.sel [4, 5, 3] (by decide) rfl
  | succ d ih =>
    intro k h a n c hk S
    have hk' : k < rs.length := by omega
    haveI := S.ft
    refine I52_3.of (hh := ?_) ..
    unfold T52_3
    refine vcond_t (by rw [ltI_nat]; exact blt_t (by omega)) (isNat_i (F.rd (k := k) hk' ?_))
    intro g406
    have S : Know g g406 [_, _, _, _, _, _, _] := S.add _
    refine vreq_t (S.cw 0 rfl (by decide) rfl rfl) ?_
    intro g407 g408
    have S : Know g g407 [_, _, _, _, _, _, _] := S.wr 0 rfl (by decide) rfl rfl
    have S : Know g g408 [_, _, _, _, _, _, _, _] := S.rsvK 9
    have n408 : g408.nx = g407.nx + 9 := rfl
    have hb11 := S.orng 4 rfl
    have XA : IntsAt (g408.grd [b11]) (some ⟨oA, 0, none⟩) L.length (atL L o) := by
      have := intsCells (h := g408.grd [b11]) (S.obj 5 rfl) (S.orng 5 rfl).2
      rw [atL_len] at this; exact this
    obtain ⟨v, h418, e418, rfl, k418⟩ := ct112 hO (S.okg (l := [b11]) fun q hq => by rw [List.mem_singleton.1 hq]; exact hb11.2) XA (S.rdg 3 rfl (l := [b11]) rfl rfl) (S.orng 3 rfl).2 (K.wdf (K.roots _ (List.getElem_mem hk')))
    refine ⟨_, _, _, S.rd 4 rfl rfl rfl, _, _, S.rd 1 rfl rfl rfl, _, _, e418, ?_⟩
    intro g419
    have S : Know g g419 [_, _, _, _, _, _, _, _] := S.callg k418
    refine vreq_t (S.fre 0 rfl (Nat.le_add_right ..) (by omega) (by simp)) ?_
    intro g420
    have S : Know g g420 [_, _, _, _, _, _, _, _, _] := S.lay 0 rfl (Nat.le_add_right ..) (by omega) (by simp) _
    have hn : n = k := by
      have A : AccE g420 g.nx 3 1 a n c _ := S.get 8 rfl
      have := (AccE.ints A).1
      unfold layR at this
      rw [List.length_map, List.length_take] at this
      omega
    obtain ⟨a', n', c', h', e, hn', S⟩ := S.appg (l := []) 8 rfl (Nat.le_refl _) S.lo AppT22 (fun _ h => by cases h) ⟨_, _, _, rfl⟩ (src_get (n := 1) (c := 1) (esz := 1) (off := 0) (S.rd 0 rfl (r := [.int .i64 (wd (atC L o) rs[k])]) rfl rfl)) rfl rfl (by omega) (by unfold big; omega)
    refine ⟨_, _, _, _, e, ?_⟩
    intro g425
    have S : Know g g425 [_, _, _, _, _, _, _, _, _] := S
    refine vreq_t (S.cwg 5 rfl (fun _ h => by cases h) (by decide) rfl rfl) ?_
    intro g426 g427
    have S : Know g g427 [_, _, _, _, _, _, _, _, _] := S.wrg 5 rfl (fun _ h => by cases h) (by decide) rfl rfl
    have S : Know g g427 [_, _, _, _, _, _] := S.sel [3, 4, 5, 6, 7, 8] (by decide) rfl
    rw [wrap_succ (by omega)]
    have e2 : iv (layR L o (rs.take (k + 1))) = iv (layR L o (rs.take k)) ++ [.int .i64 (wd (atC L o) rs[k])] := by
      unfold iv layR
      rw [List.take_add_one, List.getElem?_eq_getElem hk', List.map_append, List.map_append]; rfl
    exact ih (k + 1) g427 a' n' c' (by omega) (by rw [e2]; exact S)
end
end Go.Proofs.YtngcjpkccnfjiaaGreatDoor
/- Contracts: laid, the whole. -/
namespace Go.Proofs.YtngcjpkccnfjiaaGreatDoor
set_option maxRecDepth 100000
open Go Go.Ev
/-- The words when some cells are laid. -/
def preW (L : List Cl) (o : List Nat) (k : Nat) : List Int := 0 :: (o.take k).flatMap (cellC L (atC L o))
theorem preW_len (L : List Cl) (o : List Nat) (k : Nat) : (preW L o k).length = layT L (o.take k) := by
  unfold preW layT
  rw [List.length_cons, cells_length]; omega
theorem preW_succ {L : List Cl} {o : List Nat} {k : Nat} (hk : k < o.length) : preW L o (k + 1) = preW L o k ++ (hdC (clAt L o[k]) :: (clAt L o[k]).fs.map (wd (atC L o))) := by
  unfold preW
  rw [take_snoc hk, List.flatMap_append]
  show 0 :: (_ ++ (cellC L (atC L o) o[k] ++ [])) = 0 :: _ ++ _
  rw [List.append_nil]; rfl
section
variable {O : CallF} (hO : Oth O)
include hO
theorem lp52_2 {g : Hp} {a0 : Option Addr} {n0 c0 : Nat} {a1 : Option Addr} {n1 c1 : Nat} {a2 : Option Addr} {n2 c2 : Nat} {x3 x58 : Int} {b8 b10 b11 oA oW N top : Nat} {L : List Cl} {o : List Nat} {rs : List Fd} {fr : Nat} (K : LayOk L o rs fr) {i : Nat} (hi : i ∈ o) {a86 : Option Addr} {n86 c86 : Nat} (F : FdsAt g a86 n86 (clAt L i).fs) {v1 v2 v3 : Value} {Q : Value → Hp → Prop} {pre : List Int} (hpre : pre.length = atC L o i) (hN : pre.length + 1 + (clAt L i).fs.length ≤ N) (hN2 : N ≤ 100000) {hd : Int}
    (next : ∀ (h : Hp), Know g h [ob b8 (.cells [v1, v2, v3] 24 .fix), ob b10 (.cells [.slice (some ⟨oA, 0, none⟩) L.length L.length] 22 .fix), ob b11 (.cells [.slice (some ⟨oW, 0, none⟩) N N, .int .i64 (Int.ofNat top), .slice none 0 0] 24 .fix), ob oA (.cells (iv (atL L o)) 3 .fix), ob oW (.cells (iv (pre ++ (hd :: (clAt L i).fs.map (wd (atC L o))) ++ List.replicate (N - (pre.length + 1 + (clAt L i).fs.length)) 0)) 3 .fix)] →
      I52_1 O Q a0 n0 c0 a1 n1 c1 a2 n2 c2 x3 b8 0 b10 0 b11 0 (.func (.func 112) #[] #[.pointer (some ⟨b10, 0, none⟩)]) (wrapF .i64 (x58 + 1)) h) :
    ∀ (d k : Nat) (h : Hp), k + d = (clAt L i).fs.length → Know g h [ob b8 (.cells [v1, v2, v3] 24 .fix), ob b10 (.cells [.slice (some ⟨oA, 0, none⟩) L.length L.length] 22 .fix), ob b11 (.cells [.slice (some ⟨oW, 0, none⟩) N N, .int .i64 (Int.ofNat top), .slice none 0 0] 24 .fix), ob oA (.cells (iv (atL L o)) 3 .fix), ob oW (.cells (iv (pre ++ (hd :: ((clAt L i).fs.take k).map (wd (atC L o))) ++ List.replicate (N - (pre.length + 1 + k)) 0)) 3 .fix)] →
      I52_2 O Q a0 n0 c0 a1 n1 c1 a2 n2 c2 x3 b8 0 b10 0 b11 0 (.func (.func 112) #[] #[.pointer (some ⟨b10, 0, none⟩)]) (Int.ofNat i) x58 a86 n86 c86 (Int.ofNat n86) (Int.ofNat k) h := by
  have hn86 := F.1
  intro d
  induction d with
  | zero =>
    intro k h hk S
    refine I52_2.of (hh := ?_) ..
    unfold T52_2
    refine vcond_f (by rw [ltI_nat]; exact blt_f (by omega)) ?_
    have hk : k = (clAt L i).fs.length := by omega
    subst hk
    rw [List.take_length] at S
    exact next h S
  | succ d ih =>
    intro k h hk S
    have hk' : k < (clAt L i).fs.length := by omega
    haveI := S.ft
    refine I52_2.of (hh := ?_) ..
    unfold T52_2
    refine vcond_t (by rw [ltI_nat]; exact blt_t (by omega)) (isNat_i (F.rd (k := k) hk' ?_))
    intro g306
    have S : Know g g306 [_, _, _, _, _, _] := S.add _
    refine vreq_t (S.cw 0 rfl (by decide) rfl rfl) ?_
    intro g307 g308
    have S : Know g g307 [_, _, _, _, _, _] := S.wr 0 rfl (by decide) rfl rfl
    have S : Know g g308 [_, _, _, _, _, _] := S.rsv 14
    have hiL := K.lt i hi
    have XA : IntsAt g308 (some ⟨oA, 0, none⟩) L.length (atL L o) := by
      have := intsCells (h := g308) (S.obj 4 rfl) (S.orng 4 rfl).2
      rw [atL_len] at this; exact this
    have XAg : IntsAt (g308.grd [oA, b10, b11]) (some ⟨oA, 0, none⟩) L.length (atL L o) := SlAt.keep XA (fun _ _ _ => rfl) (Nat.le_refl _) (fun _ _ h => h)
    have hA := S.orng 4 rfl
    have h10 := S.orng 2 rfl
    have h11 := S.orng 3 rfl
    obtain ⟨v, h325, e325, rfl, k325⟩ := ct112 hO (S.okg (l := [oA, b10, b11]) fun q hq => by
      rcases List.mem_cons.1 hq with rfl | hq
      · exact hA.2
      · rcases List.mem_cons.1 hq with rfl | hq
        · exact h10.2
        · rw [List.mem_singleton.1 hq]; exact h11.2) XAg (S.rdg 2 rfl (l := [oA, b10, b11]) rfl rfl) h10.2 (K.wdf (K.refs i hi _ (List.getElem_mem hk')))
    refine ⟨_, _, _, S.rd 3 rfl rfl rfl, _, _, _, S.rd 2 rfl rfl rfl, isNat_i (XA.rd (h := g308) (k := i) (by rw [atL_len]; exact hiL) ?_)⟩
    rw [atL_get L o hiL]
    have ev : atV L o i = Int.ofNat (atC L o i) := by unfold atV; rw [if_pos hi]; rfl
    rw [ev]
    refine ⟨_, _, S.rd 0 rfl rfl rfl, _, _, e325, ?_⟩
    intro g326
    have S : Know g g326 [_, _, _, _, _, _] := S.callg k325
    have ew : wrapF .i64 (wrapF .i64 (Int.ofNat (atC L o i) + 1) + Int.ofNat k) = Int.ofNat (atC L o i + 1 + k) := by
      rw [wrap_succ (by omega)]
      exact wrapN (n := atC L o i + 1 + k) (by omega)
    rw [ew]
    have eY : (pre ++ (hd :: ((clAt L i).fs.take k).map (wd (atC L o)))).length = atC L o i + 1 + k := by
      rw [List.length_append, List.length_cons, List.length_map, List.length_take]; omega
    have lY : (pre ++ (hd :: ((clAt L i).fs.take k).map (wd (atC L o))) ++ List.replicate (N - (pre.length + 1 + k)) 0).length = N := by
      rw [List.length_append, eY, List.length_replicate]; omega
    have hb : Nat.ble (0 + (atC L o i + 1 + k) * 1 + [Value.int .i64 (wd (atC L o) (clAt L i).fs[k])].length) (iv (pre ++ (hd :: ((clAt L i).fs.take k).map (wd (atC L o))) ++ List.replicate (N - (pre.length + 1 + k)) 0)).length = true := ble_t (by rw [List.length_map, lY]; show 0 + (atC L o i + 1 + k) * 1 + 1 ≤ _; omega)
    refine isNat_i (isAddr_i (vreq_t (blt_t (by omega)) (vreq_t (S.cwg 5 rfl (fun _ h => by cases h) (by decide) hb rfl) ?_)))
    intro g330 g331
    have S : Know g g331 [_, _, _, _, _, _] := S.wrg 5 rfl (fun _ h => by cases h) (by decide) hb rfl
    rw [← eY, putAt_z1 _ _ _ (by omega)] at S
    have S : Know g g331 [_, _, _, _, _] := S.sub _ (List.sublist_cons_self ..)
    rw [wrap_succ (by omega)]
    refine ih (k + 1) g331 (by omega) ?_
    have e5 : pre ++ (hd :: ((clAt L i).fs.take k).map (wd (atC L o))) ++ [wd (atC L o) (clAt L i).fs[k]] = pre ++ (hd :: ((clAt L i).fs.take (k + 1)).map (wd (atC L o))) := by
      rw [List.take_add_one, List.getElem?_eq_getElem hk', List.map_append]
      simp
    rw [e5, show N - (pre.length + 1 + k) - 1 = N - (pre.length + 1 + (k + 1)) by omega] at S
    exact S
theorem lp52_1 {g : Hp} {a0 : Option Addr} {n0 c0 : Nat} {a1 : Option Addr} {n1 c1 : Nat} {a2 : Option Addr} {n2 c2 : Nat} {x3 : Int} {b8 b10 b11 oA oW N top : Nat} {L : List Cl} {o : List Nat} {rs : List Fd} {fr : Nat} (K : LayOk L o rs fr) (C : ClsAt g a0 n0 L) (X : IntsAt g a1 n1 (o.map Int.ofNat)) {v1 v2 v3 : Value} {Q : Value → Hp → Prop} (hN : layT L o + fr = N)
    (next : ∀ (h : Hp), Know g h [ob b8 (.cells [v1, v2, v3] 24 .fix), ob b10 (.cells [.slice (some ⟨oA, 0, none⟩) L.length L.length] 22 .fix), ob b11 (.cells [.slice (some ⟨oW, 0, none⟩) N N, .int .i64 (Int.ofNat top), .slice none 0 0] 24 .fix), ob oA (.cells (iv (atL L o)) 3 .fix), ob oW (.cells (iv (layW L o fr)) 3 .fix)] →
      I52_3 O Q a0 n0 c0 a1 n1 c1 a2 n2 c2 x3 b8 0 b10 0 b11 0 (.func (.func 112) #[] #[.pointer (some ⟨b10, 0, none⟩)]) 0 h) :
    ∀ (d k : Nat) (h : Hp), k + d = o.length → Know g h [ob b8 (.cells [v1, v2, v3] 24 .fix), ob b10 (.cells [.slice (some ⟨oA, 0, none⟩) L.length L.length] 22 .fix), ob b11 (.cells [.slice (some ⟨oW, 0, none⟩) N N, .int .i64 (Int.ofNat top), .slice none 0 0] 24 .fix), ob oA (.cells (iv (atL L o)) 3 .fix), ob oW (.cells (iv (preW L o k ++ List.replicate (N - (preW L o k).length) 0)) 3 .fix)] →
      I52_1 O Q a0 n0 c0 a1 n1 c1 a2 n2 c2 x3 b8 0 b10 0 b11 0 (.func (.func 112) #[] #[.pointer (some ⟨b10, 0, none⟩)]) (Int.ofNat k) h := by
  have hn1 := X.1
  rw [List.length_map] at hn1
  have hfit := K.fit
  have hlo := totS_len L o
  have hlT : layT L o = 1 + totS (szC L) o := rfl
  intro d
  induction d with
  | zero =>
    intro k h hk S
    refine I52_1.of (hh := ?_) ..
    unfold T52_1
    refine vcond_f (by rw [ltI_nat]; exact blt_f (by omega)) (next h ?_)
    have : o.take k = o := List.take_of_length_le (by omega)
    have e : preW L o k ++ List.replicate (N - (preW L o k).length) 0 = layW L o fr := by
      rw [preW_len]
      unfold preW layW
      rw [this, ← hN, show layT L o + fr - layT L o = fr by omega]
      rfl
    rw [e] at S; exact S
  | succ d ih =>
    intro k h hk S
    have hk' : k < o.length := by omega
    have hmem := List.getElem_mem hk'
    have hiL := K.lt _ hmem
    haveI := S.ft
    refine I52_1.of (hh := ?_) ..
    unfold T52_1
    refine vcond_t (by rw [ltI_nat]; exact blt_t (by omega)) (isNat_i (X.rd (k := k) (by rw [List.length_map]; exact hk') ?_))
    rw [List.getElem_map]
    intro g205
    have S : Know g g205 [_, _, _, _, _] := S.rsv 21
    haveI := S.ft
    have XA : IntsAt g205 (some ⟨oA, 0, none⟩) L.length (atL L o) := by
      have := intsCells (h := g205) (S.obj 3 rfl) (S.orng 3 rfl).2
      rw [atL_len] at this; exact this
    refine ⟨_, _, _, S.rd 2 rfl rfl rfl, _, _, _, S.rd 1 rfl rfl rfl, isNat_i (XA.rd (h := g205) (k := o[k]) (by rw [atL_len]; exact hiL) ?_)⟩
    rw [atL_get L o hiL]
    have ev : atV L o o[k] = Int.ofNat (atC L o o[k]) := by unfold atV; rw [if_pos hmem]; rfl
    rw [ev]
    have hcl : L[o[k]] = clAt L o[k] := by simp [clAt, List.getD, List.getElem?_eq_getElem hiL]
    refine isNat_i (C.rdf (h := g205) (k := o[k]) hiL fun a' n' c' F => ?_)
    refine isNat_i (C.rdk (h := g205) (k := o[k]) hiL ?_)
    rw [hcl] at F ⊢
    have hF := F.1
    have hat := at_take (L := L) K.nd hk'
    have hpl := preW_len L o k
    have hT1 : layT L (o.take (k + 1)) ≤ layT L o := layT_take
    rw [take_snoc hk', layT_snoc] at hT1
    have hsz : szC L o[k] = 1 + (clAt L o[k]).fs.length := rfl
    have hkd := K.kind _ hmem
    have e1 : wrapF .i64 (wrapF .i64 (8 * Int.ofNat n') + (clAt L o[k]).kind) = hdC (clAt L o[k]) := by
      rw [hF]
      have : Int.ofNat (clAt L o[k]).fs.length = ((clAt L o[k]).fs.length : Int) := rfl
      rw [this, wrap64 (n := 8 * ((clAt L o[k]).fs.length : Int)) (by omega) (by omega), wrap64 (by omega) (by omega)]
      rfl
    rw [e1]
    have lW : (preW L o k ++ List.replicate (N - (preW L o k).length) 0).length = N := by rw [List.length_append, List.length_replicate]; omega
    have hb : Nat.ble (0 + atC L o o[k] * 1 + [Value.int .i64 (hdC (clAt L o[k]))].length) (iv (preW L o k ++ List.replicate (N - (preW L o k).length) 0)).length = true := ble_t (by rw [List.length_map, lW]; show 0 + atC L o o[k] * 1 + 1 ≤ _; omega)
    refine isNat_i (isAddr_i (vreq_t (blt_t (by omega)) (vreq_t (S.cwg 4 rfl (fun _ h => by cases h) (by decide) hb rfl) ?_)))
    intro g229 g230
    have S : Know g g230 [_, _, _, _, _] := S.wrg 4 rfl (fun _ h => by cases h) (by decide) hb rfl
    rw [hat, ← hpl, putAt_z1 _ _ _ (by omega)] at S
    haveI := S.ft
    refine isNat_i (C.rdf (h := g230) (k := o[k]) hiL fun a2' n2' c2' F2 => ?_)
    rw [hcl] at F2
    have S : Know g g230 [ob b8 (.cells [v1, v2, v3] 24 .fix), ob b10 (.cells [.slice (some ⟨oA, 0, none⟩) L.length L.length] 22 .fix), ob b11 (.cells [.slice (some ⟨oW, 0, none⟩) N N, .int .i64 (Int.ofNat top), .slice none 0 0] 24 .fix), ob oA (.cells (iv (atL L o)) 3 .fix), ob oW (.cells (iv (preW L o k ++ (hdC (clAt L o[k]) :: ((clAt L o[k]).fs.take 0).map (wd (atC L o))) ++ List.replicate (N - ((preW L o k).length + 1 + 0)) 0)) 3 .fix)] := by
      rw [List.take_zero, List.map_nil, show N - ((preW L o k).length + 1 + 0) = N - (preW L o k).length - 1 by omega]
      exact S
    refine lp52_2 (N := N) hO K hmem F2 (by rw [hpl, hat]) (by omega) (by omega) (hd := hdC (clAt L o[k])) (pre := preW L o k) (fun h2 S2 => ?_) (clAt L o[k]).fs.length 0 g230 (by omega) S
    rw [wrap_succ (by omega)]
    refine ih (k + 1) h2 (by omega) ?_
    rw [preW_succ hk']
    have e3 : (preW L o k ++ (hdC (clAt L o[k]) :: (clAt L o[k]).fs.map (wd (atC L o)))).length = (preW L o k).length + 1 + (clAt L o[k]).fs.length := by rw [List.length_append, List.length_cons, List.length_map]; omega
    rw [e3]
    exact S2
/-- 'laid'. -/
theorem ct52 {g : Hp} (ok : g.Ok) {a0 : Option Addr} {n0 c0 : Nat} {a1 : Option Addr} {n1 c1 : Nat} {a2 : Option Addr} {n2 c2 : Nat} {L : List Cl} {o : List Nat} {rs : List Fd} {fr : Nat} (K : LayOk L o rs fr) (C : ClsAt g a0 n0 L) (X : IntsAt g a1 n1 (o.map Int.ofNat)) (F : FdsAt g a2 n2 rs) :
    Ret Tryz.prog O 52 [.slice a0 n0 c0, .slice a1 n1 c1, .slice a2 n2 c2, .int .i64 (Int.ofNat fr)] g fun v h' => ∃ oW ar nr cr oA, v = .tuple #[.agg #[.slice (some ⟨oW, 0, none⟩) (layT L o + fr) (layT L o + fr), .int .i64 (Int.ofNat (layT L o)), .slice ar nr cr], .slice (some ⟨oA, 0, none⟩) L.length L.length] ∧ Know g h' [ob oW (.cells (iv (layW L o fr)) 3 .fix), acc g.nx 3 1 ar nr cr (iv (layR L o rs)), ob oA (.cells (iv (atL L o)) 3 .fix)] := by
  refine rk52 (hO := hO _ _ _ (by decide)) (hh := ?_) ..
  unfold T52
  have hn0 := C.1
  have hn1 := X.1
  rw [List.length_map] at hn1
  have hlL := K.lL
  have hfit := K.fit
  have hlo := totS_len L o
  have hlT : layT L o = 1 + totS (szC L) o := rfl
  subst hn0
  intro g1 g2
  have S : Know g g1 [_] := (Know.nil ok).add _
  have S : Know g g2 [_, _] := S.add _
  have X1 : IntsAt g2 (some ⟨g1.nx, 0, none⟩) 1 [-1] := intsCells (xs := [-1]) (S.obj 0 rfl) (S.orng 0 rfl).2
  obtain ⟨v, h6, e6, oA, rfl, T⟩ := ct111 hO S.ok X1 (c := 1) (m := L.length) (by omega)
  refine ⟨_, _, _, _, e6, ?_⟩
  have S : Know g h6 [_, _, _] := S.comp T
  intro g7
  have S : Know g g7 [_, _, _, _] := S.add _
  refine vreq_t (S.cw 0 rfl (by decide) rfl rfl) ?_
  intro g8
  have S : Know g g8 [_, _, _, _] := S.wr 0 rfl (by decide) rfl rfl
  intro g9
  have S : Know g g9 [_, _, _, _, _] := S.add _
  refine vreq_t (S.cw 0 rfl (by decide) rfl rfl) ?_
  intro g10
  have S : Know g g10 [_, _, _, _, _] := S.wr 0 rfl (by decide) rfl rfl
  have S : Know g g10 [_, _, _, _] := S.sel [4, 1, 0, 2] (by decide) rfl
  rw [← atL_nil] at S
  have lp : ∀ (d k : Nat) (h : Hp), k + d = o.length → Know g h [ob g.nx (.cells [.slice none 0 0, .int .i64 0, .slice none 0 0] 24 .fix), ob h6.nx (.cells [.slice (some ⟨oA, 0, none⟩) L.length L.length] 22 .fix), ob g8.nx (.cells [.slice none 0 0, .int .i64 (Int.ofNat (layT L (o.take k))), .slice none 0 0] 24 .fix), ob oA (.cells (iv (atL L (o.take k))) 3 .fix)] →
      I52_0 O (fun v h' => ∃ oW ar nr cr oA, v = .tuple #[.agg #[.slice (some ⟨oW, 0, none⟩) (layT L o + fr) (layT L o + fr), .int .i64 (Int.ofNat (layT L o)), .slice ar nr cr], .slice (some ⟨oA, 0, none⟩) L.length L.length] ∧ Know g h' [ob oW (.cells (iv (layW L o fr)) 3 .fix), acc g.nx 3 1 ar nr cr (iv (layR L o rs)), ob oA (.cells (iv (atL L o)) 3 .fix)]) a0 L.length c0 a1 n1 c1 a2 n2 c2 (Int.ofNat fr) g.nx 0 h6.nx 0 g8.nx 0 (Int.ofNat k) h := by
    intro d
    induction d with
    | zero =>
      intro k h hk S
      have ek : o.take k = o := List.take_of_length_le (by omega)
      rw [ek] at S
      refine I52_0.of (hh := ?_) ..
      unfold T52_0
      have ew : wrapF .i64 (Int.ofNat (layT L o) + Int.ofNat fr) = Int.ofNat (layT L o + fr) := wrapN (n := layT L o + fr) (by omega)
      refine vcond_f (by rw [ltI_nat]; exact blt_f (by omega)) ⟨_, S.rd 2 rfl rfl rfl, ?_⟩
      rw [ew]
      refine isNat_i (isNat_i (vreq_t (ble_t (Nat.le_refl _)) (vreq_t (ble_t (by omega)) (vreq_t (blt_t (by unfold big; omega)) ?_))))
      intro g126
      have S : Know g g126 [_, _, _, _, _] := S.add _
      have ez : List.flatten (List.replicate (layT L o + fr) [Value.int .i64 0]) = iv (List.replicate (layT L o + fr) 0) := by
        have : ∀ k, List.flatten (List.replicate k [Value.int .i64 0]) = iv (List.replicate k 0) := by
          intro k
          induction k with
          | zero => rfl
          | succ k ih => rw [List.replicate_succ, List.flatten_cons, ih, List.replicate_succ]; rfl
        exact this _
      rw [ez] at S
      refine vreq_t (S.cw 3 rfl (by decide) rfl rfl) ?_
      intro g127
      have S : Know g g127 [_, _, _, _, _] := S.wr 3 rfl (by decide) rfl rfl
      have S : Know g g127 [_, _, _, _, _] := S.sel [1, 2, 3, 4, 0] (by decide) rfl
      have e : preW L o 0 ++ List.replicate (layT L o + fr - (preW L o 0).length) 0 = List.replicate (layT L o + fr) 0 := by
        show (0 : Int) :: ([] ++ List.replicate (layT L o + fr - 1) 0) = _
        rw [List.nil_append, ← List.replicate_succ, show layT L o + fr - 1 + 1 = layT L o + fr by omega]
      rw [← e] at S
      refine lp52_1 hO K C X (N := layT L o + fr) rfl (fun h2 S2 => ?_) o.length 0 g127 (by omega) S
      have S2 : Know g h2 [_, _, _, _, _, _] := S2.accNil g.nx 3 1
      exact lp52_3 hO K F (fun h3 a n c S3 => ⟨_, _, _, _, _, rfl, S3⟩) rs.length 0 h2 none 0 0 (by omega) (S2.sel [1, 2, 3, 4, 5, 0] (by decide) rfl)
    | succ d ih =>
      intro k h hk S
      have hk' : k < o.length := by omega
      have hmem := List.getElem_mem hk'
      have hiL := K.lt _ hmem
      have hT := layT_take (L := L) (o := o) (k := k)
      have hT1 : layT L (o.take (k + 1)) ≤ layT L o := layT_take
      rw [take_snoc hk', layT_snoc] at hT1
      have hsz : szC L o[k] = 1 + (clAt L o[k]).fs.length := rfl
      haveI := S.ft
      refine I52_0.of (hh := ?_) ..
      unfold T52_0
      refine vcond_t (by rw [ltI_nat]; exact blt_t (by omega)) (isNat_i (X.rd (k := k) (by rw [List.length_map]; exact hk') ?_))
      rw [List.getElem_map]
      have hb : Nat.ble (0 + o[k] * 1 + [Value.int .i64 (Int.ofNat (layT L (o.take k)))].length) (iv (atL L (o.take k))).length = true := ble_t (by rw [List.length_map, atL_len]; show 0 + o[k] * 1 + 1 ≤ _; omega)
      refine ⟨_, _, _, S.rd 1 rfl rfl rfl, _, S.rd 2 rfl rfl rfl, isNat_i (isAddr_i (vreq_t (blt_t hiL) (vreq_t (S.cw 3 rfl (by decide) hb rfl) ?_)))⟩
      intro g112 g113
      have S : Know g g112 [_, _, _, _] := S.wr 3 rfl (by decide) hb rfl
      have S : Know g g113 [_, _, _, _] := S.rsv 12
      rw [putAt_one _ _ _ (by rw [atL_len]; exact hiL), show Int.ofNat (layT L (o.take k)) = (layT L (o.take k) : Int) from rfl, atL_snoc (nodup_take K.nd hk') hiL, ← take_snoc hk'] at S
      haveI := S.ft
      refine ⟨_, S.rd 2 rfl rfl rfl, isNat_i (C.rdf (h := g113) (k := o[k]) hiL fun a' n' c' F' => ?_)⟩
      have hcl : L[o[k]] = clAt L o[k] := by simp [clAt, List.getD, List.getElem?_eq_getElem hiL]
      rw [hcl] at F'
      have hF := F'.1
      have ew : wrapF .i64 ((layT L (o.take k) : Int) + wrapF .i64 (1 + Int.ofNat n')) = Int.ofNat (layT L (o.take (k + 1))) := by
        rw [take_snoc hk', layT_snoc, hF, hsz]
        have : Int.ofNat (clAt L o[k]).fs.length = ((clAt L o[k]).fs.length : Int) := rfl
        rw [this, wrap64 (n := 1 + ((clAt L o[k]).fs.length : Int)) (by omega) (by omega), wrap64 (by omega) (by omega)]
        show _ = ((layT L (o.take k) + (1 + (clAt L o[k]).fs.length) : Nat) : Int)
        omega
      rw [ew]
      refine vreq_t (S.cwg 2 rfl (fun _ h => by cases h) (by decide) rfl rfl) ?_
      intro g121 g122
      have S : Know g g122 [_, _, _, _] := S.wrg 2 rfl (fun _ h => by cases h) (by decide) rfl rfl
      rw [wrap_succ (by omega)]
      exact ih (k + 1) g122 (by omega) S
  exact lp o.length 0 g10 (by omega) S
end
end Go.Proofs.YtngcjpkccnfjiaaGreatDoor
/- Contracts: made. What is drawn is as it may be. -/
namespace Go.Proofs.YtngcjpkccnfjiaaGreatDoor
set_option maxRecDepth 100000
open Go Go.Ev
abbrev pO (xs : List Nat) : List Nat := List.range (pMany xs)
theorem drawnL_len (xs : List Nat) : (drawnL xs).length = pMany xs := by unfold drawnL; simp
theorem drawnL_at {xs : List Nat} {i : Nat} (hi : i < pMany xs) : clAt (drawnL xs) i = pCell xs i := by
  unfold clAt drawnL
  rw [List.getD, List.getElem?_map, List.getElem?_range hi]; rfl
theorem odd_ne {a q : Int} (h : a = 2 * q + 1) : Int.tmod a 2 ≠ 0 := fun h0 => by
  have := Int.mul_tdiv_add_tmod a 2
  omega
theorem wordC_ok {n x k : Nat} (hx : x < 256) (h3 : (k : Int) ≠ 3) (h4 : (k : Int) ≠ 4) : FdOk (List.range n) k (wordC n x) := by
  unfold FdOk
  rw [if_neg h3, if_neg h4]
  unfold wordC
  split
  · exact .inr ⟨rfl, .inr ⟨odd_ne (q := (x : Int) - 100) rfl, by show _ ≤ 2 * ((x : Int) - 100) + 1; omega, by show 2 * ((x : Int) - 100) + 1 ≤ _; omega⟩⟩
  · rename_i h
    split
    · exact .inr ⟨rfl, .inl rfl⟩
    · refine .inl ⟨rfl, x / 4 % n, List.mem_range.2 (Nat.mod_lt _ (by omega)), rfl⟩
theorem fdOf_ok {n x k : Nat} (hx : x < 256) : FdOk (List.range n) k (fdOf k n x) := by
  unfold fdOf
  by_cases h3 : k = 3
  · subst h3
    rw [if_pos rfl]
    unfold FdOk
    rw [if_pos (by rfl)]
    refine ⟨rfl, ?_⟩
    show letterB ((97 + x % 26 : Nat) : Int) = true
    unfold letterB
    have h1 : (32 : Int) ≤ ((97 + x % 26 : Nat) : Int) := by omega
    have h2 : ((97 + x % 26 : Nat) : Int) ≤ 126 := by omega
    have h5 : (((97 + x % 26 : Nat) : Int) == 34) = false := by rw [beq_eq_false_iff_ne]; omega
    have h6 : (((97 + x % 26 : Nat) : Int) == 92) = false := by rw [beq_eq_false_iff_ne]; omega
    rw [decide_eq_true h1, decide_eq_true h2, h5, h6]; rfl
  · by_cases h4 : k = 4
    · subst h4
      rw [if_neg h3, if_pos rfl]
      unfold FdOk
      rw [if_neg (by decide), if_pos (by rfl)]
      refine ⟨rfl, ?_⟩
      show ((x % 2 : Nat) : Int) = 0 ∨ ((x % 2 : Nat) : Int) = 1
      omega
    · rw [if_neg h3, if_neg h4]
      exact wordC_ok hx (by omega) (by omega)
theorem totS_le {L : List Cl} {b : Nat} : ∀ {o : List Nat}, (∀ i ∈ o, szC L i ≤ b) → totS (szC L) o ≤ b * o.length := by
  intro o
  induction o with
  | nil => intro _; exact Nat.le_refl _
  | cons x o ih =>
    intro h
    rw [totS_cons, List.length_cons, Nat.mul_succ]
    have := h x (List.mem_cons_self ..)
    have := ih fun i hi => h i (List.mem_cons_of_mem _ hi)
    omega
section
variable {v0 : Array Value} {xs : List Nat} (B : Bytes v0 xs)
include B
theorem drawn_fs {i : Nat} (hi : i < pMany xs) : (clAt (drawnL xs) i).fs.length = pSize xs i := by
  have := pSize_rng xs i
  have := pMany_rng xs
  rw [drawnL_at hi]
  show (((xs.drop _).take _).map _).length = _
  rw [List.length_map, List.length_take, List.length_drop, B.len]
  omega
theorem drawn_gr : Gr (drawnL xs) (pO xs) := by
  refine ⟨List.nodup_range, fun i hi => ?_, fun i hi => ?_, fun i hi h4 => ?_, fun i hi f hf => ?_⟩
  all_goals have hi := List.mem_range.1 hi
  · rw [drawnL_at hi]; have := pKind_rng xs i
    show 1 ≤ (pKind xs i : Int) ∧ (pKind xs i : Int) ≤ 5
    omega
  · rw [drawn_fs B hi]; have := pSize_rng xs i; omega
  · rw [drawn_fs B hi]
    rw [drawnL_at hi] at h4
    have h4 : (pKind xs i : Int) = 4 := h4
    exact if_pos (by omega)
  · rw [drawnL_at hi] at hf ⊢
    obtain ⟨x, hx, rfl⟩ := List.mem_map.1 hf
    exact fdOf_ok (B.lt x (List.drop_subset _ _ (List.take_subset _ _ hx)))
theorem drawn_roots : (∀ f ∈ drawnR xs, FdOk (pO xs) 1 f) ∧ (drawnR xs).length ≤ 4 := by
  refine ⟨fun f hf => ?_, ?_⟩
  · obtain ⟨x, hx, rfl⟩ := List.mem_map.1 hf
    exact wordC_ok (k := 1) (B.lt x (List.drop_subset _ _ (List.take_subset _ _ hx))) (by decide) (by decide)
  · unfold drawnR
    rw [List.length_map, List.length_take]; omega
theorem drawn_fit : layT (drawnL xs) (pO xs) ≤ 46 := by
  have := pMany_rng xs
  have h : totS (szC (drawnL xs)) (pO xs) ≤ 5 * (pO xs).length := totS_le fun i hi => by
    unfold szC
    rw [drawn_fs B (List.mem_range.1 hi)]
    have := pSize_rng xs i; omega
  rw [List.length_range] at h
  unfold layT; omega
end
/-- Cells that are as they may be may be laid. -/
theorem Gr.lay {L : List Cl} {o : List Nat} (G : Gr L o) (hl : ∀ i ∈ o, i < L.length) {rs : List Fd} (hr : ∀ f ∈ rs, FdOk o 1 f) {fr : Nat} (lL : L.length ≤ 1000) (lr : rs.length ≤ 1000) (fit : layT L o + fr ≤ 100000) : LayOk L o rs fr :=
  ⟨G.nd, hl, fun i hi f hf hrf => let ⟨a, b⟩ := FdOk.mem G (G.fok i hi f hf) hrf; ⟨b, a⟩, fun f hf hrf => let ⟨a, b⟩ := FdOk.mem G (hr f hf) hrf; ⟨b, a⟩, fun i hi => by have := G.kind i hi; omega, lL, lr, fit⟩
def pFree (xs : List Nat) : Nat := xs.getD 1 0 % 16
theorem made_ok {v0 : Array Value} {xs : List Nat} (B : Bytes v0 xs) : LayOk (drawnL xs) (pO xs) (drawnR xs) (pFree xs) := by
  have h1 := drawn_fit B
  have h2 := drawn_roots B
  have := pMany_rng xs
  have : pFree xs < 16 := Nat.mod_lt _ (by decide)
  exact (drawn_gr B).lay (fun i hi => by rw [drawnL_len]; exact List.mem_range.1 hi) h2.1 (by rw [drawnL_len]; omega) (by omega) (by omega)
/-- What 'made' returns. -/
def QMade (g : Hp) (xs : List Nat) : Value → Hp → Prop := fun v h' => ∃ oW ar nr cr ac cc af nf cf oA own, v = .tuple #[.agg #[.slice (some ⟨oW, 0, none⟩) (layT (drawnL xs) (pO xs) + pFree xs) (layT (drawnL xs) (pO xs) + pFree xs), .int .i64 (Int.ofNat (layT (drawnL xs) (pO xs))), .slice ar nr cr], .slice ac (drawnL xs).length cc, .slice af nf cf, .slice (some ⟨oA, 0, none⟩) (drawnL xs).length (drawnL xs).length] ∧
  Know g h' [clo own (fun h => ClsAt h ac (drawnL xs).length (drawnL xs)), acc g.nx 76 2 af nf cf (fvs (drawnR xs)), ob oW (.cells (iv (layW (drawnL xs) (pO xs) (pFree xs))) 3 .fix), acc g.nx 3 1 ar nr cr (iv (layR (drawnL xs) (pO xs) (drawnR xs))), ob oA (.cells (iv (atL (drawnL xs) (pO xs))) 3 .fix)]
def QMadeY (g : Hp) (xs : List Nat) : Value → Hp → Prop := fun v h' => ∃ oW ar nr cr ac cc af nf cf oA own, v = .tuple #[.agg #[.slice (some ⟨oW, 0, none⟩) (layT (drawnL xs) (pO xs) + pFree xs) (layT (drawnL xs) (pO xs) + pFree xs), .int .i64 (Int.ofNat (layT (drawnL xs) (pO xs))), .slice ar nr cr], .slice ac (drawnL xs).length cc, .slice af nf cf, .slice (some ⟨oA, 0, none⟩) (drawnL xs).length (drawnL xs).length] ∧
  Know g h' [clo own (fun h => ClsS h ac (drawnL xs).length cc (drawnL xs)), acc g.nx 76 2 af nf cf (fvs (drawnR xs)), ob oW (.cells (iv (layW (drawnL xs) (pO xs) (pFree xs))) 3 .fix), acc g.nx 3 1 ar nr cr (iv (layR (drawnL xs) (pO xs) (drawnR xs))), ob oA (.cells (iv (atL (drawnL xs) (pO xs))) 3 .fix)]
section
variable {O : CallF} (hO : Oth O)
include hO
/-- 'made'. -/
theorem ct43y {g : Hp} (ok : g.Ok) {v0 : Array Value} {xs : List Nat} (B : Bytes v0 xs) : Ret Tryz.prog O 43 [.agg v0] g (QMadeY g xs) := by
  refine rk43 (hO := hO _ _ _ (by decide)) (hh := ?_) ..
  unfold T43
  have hlen := B.len
  have hm := pMany_rng xs
  refine vreq_t (by rw [B.v]; exact bv_one xs) ?_
  intro g1
  have S : Know g g1 [_] := (Know.nil ok).add _
  rw [B.v] at S
  intro g2
  have S : Know g g2 [_, _] := S.add _
  have B2 : Bytes (bv xs).toArray xs := ⟨rfl, B.len, B.lt⟩
  obtain ⟨v, h10, e10, ac, nc, cc, af, nf, cf, own, rfl, T⟩ := ct106 hO S.ok B2
  refine ⟨bv xs, S.rd 1 rfl (by rw [List.drop_zero, List.take_of_length_le (by rw [List.length_map]; omega)]) (ble_t (by rw [List.length_map]; omega)), _, _, _, _, _, _, _, e10, ?_⟩
  have S : Know g h10 [_, _, _, _] := S.comp T
  intro g11
  have S : Know g g11 [_, _, _, _, _] := S.rsvK 16
  have n11 : g11.nx = h10.nx + 16 := rfl
  have hr : ((bv xs).drop 1).take 1 = [.int .u8 (Int.ofNat (xs.getD 1 0))] := bv_at (by omega)
  have hC : ClsAt g11 ac nc (drawnL xs) := (clo.get (S.get 1 rfl) : ClsS _ _ _ _ _).1
  have hnc := hC.1
  subst hnc
  have hg0 := S.orng 4 rfl
  obtain ⟨v, h16, e16, a13, n14, c15, rfl, T⟩ := ct51 hO (S.okg (l := [g.nx]) fun q hq => by rw [List.mem_singleton.1 hq]; exact hg0.2) (n := pMany xs) (by omega)
  rw [← drawnL_len] at e16
  refine ⟨_, S.rd 4 rfl hr (ble_t (by rw [List.length_map]; omega)), _, _, _, _, e16, ?_⟩
  intro g17
  have S : Know g g17 [_, _, _, _, _, _] := S.compg T
  have h1 := B.b 1
  rw [wrapN (show xs.getD 1 0 < 9223372036854775808 by omega), show Int.tmod (Int.ofNat (xs.getD 1 0)) 16 = Int.ofNat (pFree xs) from rfl]
  have C17 : ClsAt g17 ac (drawnL xs).length (drawnL xs) := (clo.get (S.get 2 rfl) : ClsS _ _ _ _ _).1
  have F17 : FdsAt g17 af nf (drawnR xs) := AccE.slAt fdE_len (by decide) (S.get 3 rfl)
  have X17 : IntsAt g17 a13 n14 ((pO xs).map Int.ofNat) := AccE.ints (S.get 0 rfl)
  obtain ⟨v, h28, e28, oW, ar, nr, cr, oA, rfl, T⟩ := ct52 hO (S.okg (l := []) fun _ h => by cases h) (made_ok B) (SlAt.keep C17 (fun _ _ _ => rfl) (Nat.le_refl _) (fun _ _ h => h)) (SlAt.keep X17 (fun _ _ _ => rfl) (Nat.le_refl _) (fun _ _ h => h)) (SlAt.keep F17 (fun _ _ _ => rfl) (Nat.le_refl _) (fun _ _ h => h)) (c0 := cc) (c1 := c15) (c2 := cf)
  refine ⟨_, _, _, _, _, _, _, _, _, _, _, e28, ?_⟩
  intro g29
  have S : Know g g29 [_, _, _, _, _, _, _, _, _] := S.compg T
  refine vreq_t (S.fre 4 rfl (Nat.le_add_right ..) (by omega) (by simp)) ?_
  intro g30
  have S : Know g g30 [_, _, _, _, _, _, _, _, _, _] := S.lay 4 rfl (Nat.le_add_right ..) (by omega) (by simp) _
  refine vreq_t (S.cwg 0 rfl (fun _ h => by cases h) (by decide) rfl rfl) ?_
  intro g31 g32
  have S : Know g g32 [_, _, _, _, _, _, _, _, _, _] := S.wrg 0 rfl (fun _ h => by cases h) (by decide) rfl rfl
  refine ⟨_, _, _, _, _, _, _, S.rd 0 rfl rfl rfl, vreq_t (S.cw 8 rfl (by decide) rfl rfl) ?_⟩
  intro g40
  have S : Know g g40 [_, _, _, _, _, _, _, _, _, _] := S.wr 8 rfl (by decide) rfl rfl
  have S := (Know.accLow (Know.accLow S 7 rfl) 2 rfl)
  have S : Know g g40 [_, _, _, _, _, _, _, _, _, _] := S
  refine ⟨_, _, _, _, _, _, _, S.rd 8 rfl rfl rfl, oW, ar, nr, cr, ac, cc, af, nf, cf, oA, own, rfl, ?_⟩
  have S' := S.sel [6, 7, 1, 2, 3] (by decide) rfl
  exact Know.accLow (Know.accLow S' 1 rfl) 3 rfl
theorem ct43 {g : Hp} (ok : g.Ok) {v0 : Array Value} {xs : List Nat} (B : Bytes v0 xs) : Ret Tryz.prog O 43 [.agg v0] g (QMade g xs) := by
  obtain ⟨v, h', e, oW, ar, nr, cr, ac, cc, af, nf, cf, oA, own, rfl, T⟩ := ct43y hO ok B
  exact ⟨_, h', e, oW, ar, nr, cr, ac, cc, af, nf, cf, oA, own, rfl, T.weak 0 rfl fun _ h => h.1⟩
end
end Go.Proofs.YtngcjpkccnfjiaaGreatDoor
/- Contracts: fields are copied; cells are pruned. -/
namespace Go.Ev
open Go
theorem Know.merge2 {h0 g : Hp} {r s : Rs} {L : List Rs} (S : Know h0 g (r :: s :: L)) (F : Hp → Prop) (hF : ∀ h', g.nx ≤ h'.nx → r.P h' → s.P h' → F h') : Know h0 g (clo (fun o => r.own o ∨ s.own o) F :: L) := by
  obtain ⟨r1, r2, r3⟩ := S.at_ r (List.mem_cons_self ..)
  obtain ⟨s1, s2, s3⟩ := S.at_ s (List.mem_cons_of_mem _ (List.mem_cons_self ..))
  obtain ⟨d1, d2⟩ := List.pairwise_cons.1 S.dis
  obtain ⟨d3, d4⟩ := List.pairwise_cons.1 d2
  refine ⟨S.ok, S.kp, fun q hq => ?_, List.pairwise_cons.2 ⟨fun q hq b hb hqb => ?_, d4⟩, S.ok0⟩
  · rcases List.mem_cons.1 hq with rfl | hq
    · exact ⟨clo.loc _ _, fun h' hn he => hF h' hn (r1 g h' hn (fun b hb => he b (.inl hb)) r2) (s1 g h' hn (fun b hb => he b (.inr hb)) s2), fun b hb => hb.elim (r3 b) (s3 b)⟩
    · exact S.at_ q (List.mem_cons_of_mem _ (List.mem_cons_of_mem _ hq))
  · rcases hb with hb | hb
    · exact d1 q (List.mem_cons_of_mem _ hq) b hb hqb
    · exact d3 q hq b hb hqb
end Go.Ev
namespace Go.Proofs.YtngcjpkccnfjiaaGreatDoor
set_option maxRecDepth 100000
open Go Go.Ev
theorem enc_chunks {α : Type} {enc : α → List Value} {w : Nat} (hw : ∀ x, (enc x).length = w) {c : List Value} : ∀ (xs : List α) (off : Nat), off + xs.length * w ≤ c.length → (∀ i (hi : i < xs.length), (c.drop (off + i * w)).take w = enc xs[i]) → (c.drop off).take (xs.length * w) = xs.flatMap enc := by
  intro xs
  induction xs with
  | nil => intro off _ _; simp
  | cons x xs ih =>
    intro off hl h
    rw [List.length_cons, Nat.add_mul, Nat.one_mul] at hl
    have h0 := h 0 (by simp)
    rw [Nat.zero_mul, Nat.add_zero] at h0
    have := ih (off + w) (by omega) fun i hi => by
      have := h (i + 1) (by simpa using hi)
      rw [Nat.add_mul, Nat.one_mul] at this
      rw [show off + w + i * w = off + (i * w + w) by omega]
      exact this
    rw [List.length_cons, Nat.add_mul, Nat.one_mul, Nat.add_comm, List.take_add, List.drop_drop, h0, this, List.flatMap_cons]
    rfl
theorem FdsAt.src {h : Hp} {a : Option Addr} {n c : Nat} {fs : List Fd} (F : FdsAt h a n fs) : srcCells h 2 (.slice a n c) = some (fvs fs, n) := by
  have hn := F.1
  rcases F.2 with ⟨rfl, rfl⟩ | ⟨b, off, cs, e', m, rfl, h2, h3, h4, h5⟩
  · subst hn; rfl
  · refine src_get ?_
    rw [hn, readAt_get h3 h4]
    exact congrArg some (enc_chunks fdE_len fs off h4 h5)
theorem fvs_len (fs : List Fd) : (fvs fs).length = fs.length * 2 := flatMap_length fdE_len fs
theorem fvs_set : ∀ (fs : List Fd) (k : Nat) (f : Fd), k < fs.length → putAt (fvs fs) (0 + k * 2) (fdE f) = fvs (fs.set k f) := by
  intro fs
  induction fs with
  | nil => intro k f h; simp at h
  | cons g fs ih =>
    intro k f h
    cases k with
    | zero => show putAt (.int .i64 g.n :: .bool g.refs :: fvs fs) 0 [.int .i64 f.n, .bool f.refs] = .int .i64 f.n :: .bool f.refs :: fvs fs
              show Value.int .i64 f.n :: .bool f.refs :: putAt (fvs fs) 0 [] = _
              rw [putAt_nil]
    | succ k =>
      have := ih k f (by simpa using h)
      rw [show 0 + (k + 1) * 2 = (0 + k * 2) + 1 + 1 by omega]
      show Value.int .i64 g.n :: .bool g.refs :: putAt (fvs fs) (0 + k * 2) (fdE f) = .int .i64 g.n :: .bool g.refs :: fvs (fs.set k f)
      rw [this]
section
variable {O : CallF} (hO : Oth O)
include hO
/-- 'slices.Clone' of fields. -/
theorem ct47 {g : Hp} (ok : g.Ok) {a : Option Addr} {n c : Nat} {fs : List Fd} (F : FdsAt g a n fs) (hl : fs.length < 1000000) : Ret Tryz.prog O 47 [.slice a n c] g fun v h' => ∃ a' c', v = .slice a' n c' ∧ Know g h' [acc g.nx 76 2 a' n c' (fvs fs)] := by
  refine rk47 (hO := hO _ _ _ (by decide)) (hh := ?_) ..
  unfold T47
  have hn := F.1
  cases a with
  | none =>
    have : fs = [] := by
      rcases F.2 with ⟨h, _⟩ | ⟨_, _, _, _, _, h, _⟩
      · exact h
      · cases h
    subst this
    subst hn
    exact ⟨_, _, rfl, (Know.nil ok).accNil g.nx 76 2⟩
  | some ad =>
    show let g1 : Hp := g.add (.cells [] 76 .fix)
      _
    intro g1
    have S : Know g g1 [_] := ((Know.nil ok).add _).acc0 0 rfl g.nx (Nat.le_refl _) 76 2
    haveI := S.ft
    obtain ⟨a', n', c', h', e, hn', S⟩ := S.app 0 rfl (Nat.le_refl _) S.lo app64 ⟨_, _, _, rfl⟩ (FdsAt.src (SlAt.to g1 F)) (by rw [fvs_len]; omega) (fvs_one fs) (by omega) (by unfold big; omega)
    rw [Nat.zero_add] at hn'
    subst hn'
    exact ⟨a', _, _, h', e, _, _, rfl, S⟩
end
end Go.Proofs.YtngcjpkccnfjiaaGreatDoor
/- Contracts: pruned. -/
namespace Go.Proofs.YtngcjpkccnfjiaaGreatDoor
set_option maxRecDepth 100000
open Go Go.Ev
section
variable {O : CallF} (hO : Oth O)
include hO
theorem lp53_end {g h : Hp} {a0 : Option Addr} {n0 c0 : Nat} {a1 : Option Addr} {n1 c1 : Nat} {a5 : Option Addr} {n5 c5 : Nat} {b7 : Nat} {k : Nat} (hk : k < 1000) {a21 : Option Addr} {n21 c21 : Nat} {RF : Rs} {vs : List Value} {own : Nat → Prop} {Lk : List Cl} (hLk : Lk.length = k) {cl : Cl} {Q : Value → Hp → Prop}
    (S : Know g h [ob b7 (.cells [.int .i64 cl.kind, .slice a21 n21 c21] 72 .fix), RF, acc g.nx 72 2 a5 n5 c5 vs, clo own (fun h => Nst h vs Lk)]) (hRF : ∀ h' : Hp, h.nx ≤ h'.nx → RF.P h' → FdsAt h' a21 n21 cl.fs)
    (next : ∀ (h : Hp) (a : Option Addr) (n c : Nat) (own' : Nat → Prop), Know g h [acc g.nx 72 2 a n c (vs ++ [.int .i64 cl.kind, .slice a21 n21 c21]), clo own' (fun h => Nst h (vs ++ [.int .i64 cl.kind, .slice a21 n21 c21]) (Lk ++ [cl]))] → I53_0 O Q a0 n0 c0 a1 n1 c1 a n c (Int.ofNat (k + 1)) h) :
    I53_1 O Q a0 n0 c0 a1 n1 c1 a5 n5 c5 b7 0 (Int.ofNat k) a21 n21 c21 (Int.ofNat n21) (Int.ofNat n21) h := by
  have _ := hO
  refine I53_1.of (hh := ?_) ..
  unfold T53_1
  refine vcond_f (by rw [ltI_nat]; exact blt_f (by omega)) ⟨_, _, _, _, S.rd 0 rfl rfl rfl, ?_⟩
  intro g247
  have S : Know g g247 [_, _, _, _, _] := S.add _
  have hn : n5 = k := by
    have A : AccE g247 g.nx 72 2 a5 n5 c5 vs := S.get 3 rfl
    have N : Nst g247 vs Lk := clo.get (S.get 4 rfl)
    have := (cls_of A N).1
    omega
  obtain ⟨a', n', c', h', e, hn', S⟩ := S.app 3 rfl (Nat.le_refl _) S.lo app63 ⟨_, _, _, rfl⟩ (src_get (n := 1) (c := 1) (esz := 2) (off := 0) (S.rd 0 rfl (r := [.int .i64 cl.kind, .slice a21 n21 c21]) rfl rfl)) rfl rfl (by omega) (by unfold big; omega)
  have S : Know g h' [_, _, _, _, _] := S
  have m' : h.nx < h'.nx := (S.orng 0 rfl).2
  refine ⟨_, _, _, _, e, ?_⟩
  rw [wrap_succ (by omega)]
  have S : Know g h' [_, _, _] := S.sel [4, 2, 3] (by decide) rfl
  have S : Know g h' [_, _] := S.merge2 (fun h => Nst h (vs ++ [.int .i64 cl.kind, .slice a21 n21 c21]) (Lk ++ [cl])) fun h2 hn2 N A => (clo.get N).snoc (c := cl) (hRF h2 (by omega) A)
  exact next h' a' n' c' _ (S.sel [1, 0] (by decide) rfl)
theorem lp53_1 {g : Hp} {a0 : Option Addr} {n0 c0 : Nat} {a1 : Option Addr} {n1 c1 : Nat} {a5 : Option Addr} {n5 c5 : Nat} {b7 oF : Nat} {k : Nat} (hk : k < 1000) {n21 c21 : Nat} {vs : List Value} {own : Nat → Prop} {Lk : List Cl} (hLk : Lk.length = k) {kd : Int} {fs : List Fd} (hfs : ∀ f ∈ fs, FdN f) (hn21 : n21 = fs.length) (lfs : fs.length ≤ 1000) {kept : List Nat} (X : IntsAt g a1 n1 (kept.map Int.ofNat)) (lk : kept.length < 100000) {Q : Value → Hp → Prop}
    (next : ∀ (h : Hp) (a : Option Addr) (n c : Nat) (own' : Nat → Prop), Know g h [acc g.nx 72 2 a n c (vs ++ [.int .i64 kd, .slice (some ⟨oF, 0, none⟩) n21 c21]), clo own' (fun h => Nst h (vs ++ [.int .i64 kd, .slice (some ⟨oF, 0, none⟩) n21 c21]) (Lk ++ [⟨kd, fs.map (prunedF kept kd)⟩]))] → I53_0 O Q a0 n0 c0 a1 n1 c1 a n c (Int.ofNat (k + 1)) h) :
    ∀ (d j : Nat) (h : Hp), j + d = fs.length → Know g h [ob b7 (.cells [.int .i64 kd, .slice (some ⟨oF, 0, none⟩) n21 c21] 72 .fix), ob oF (.cells (fvs ((fs.take j).map (prunedF kept kd) ++ fs.drop j)) 76 .grow), acc g.nx 72 2 a5 n5 c5 vs, clo own (fun h => Nst h vs Lk)] →
      I53_1 O Q a0 n0 c0 a1 n1 c1 a5 n5 c5 b7 0 (Int.ofNat k) (some ⟨oF, 0, none⟩) n21 c21 (Int.ofNat n21) (Int.ofNat j) h := by
  intro d
  induction d with
  | zero =>
    intro j h hj S
    have ej : j = n21 := by omega
    subst ej
    have e1 : (fs.take j).map (prunedF kept kd) ++ fs.drop j = fs.map (prunedF kept kd) := by rw [List.take_of_length_le (by omega), List.drop_of_length_le (by omega), List.append_nil]
    rw [e1] at S
    have ho := S.orng 1 rfl
    refine lp53_end hO hk hLk (cl := ⟨kd, fs.map (prunedF kept kd)⟩) (S.sel [0, 1, 2, 3] (by decide) rfl) (fun h' hn' hP => ?_) next
    refine ⟨by rw [List.length_map]; exact hn21, .inr ⟨oF, 0, _, _, _, rfl, by omega, hP, by rw [fvs_len]; show 0 + (fs.map (prunedF kept kd)).length * 2 ≤ (fs.map (prunedF kept kd)).length * 2; omega, fun i hi => ?_⟩⟩
    exact flatMap_part fdE_len (fs.map (prunedF kept kd)) i hi |>.trans rfl |> fun e => by rw [Nat.zero_add]; exact e
  | succ d ih =>
    intro j h hj S
    have hj' : j < fs.length := by omega
    haveI := S.ft
    have hcur : ((fs.take j).map (prunedF kept kd) ++ fs.drop j).length = fs.length := by rw [List.length_append, List.length_map, List.length_take, List.length_drop]; omega
    have hget : ((fs.take j).map (prunedF kept kd) ++ fs.drop j)[j]? = some fs[j] := by
      rw [List.getElem?_append_right (by rw [List.length_map, List.length_take]; omega), List.length_map, List.length_take, List.getElem?_drop, show j + (j - min j fs.length) = j by omega, List.getElem?_eq_getElem hj']
    have hrd : ((fvs ((fs.take j).map (prunedF kept kd) ++ fs.drop j)).drop (0 + j * 2)).take 2 = [.int .i64 fs[j].n, .bool fs[j].refs] := by
      rw [Nat.zero_add]
      have := flatMap_part fdE_len ((fs.take j).map (prunedF kept kd) ++ fs.drop j) j (by omega)
      rw [this]
      have e : ((fs.take j).map (prunedF kept kd) ++ fs.drop j)[j]'(by omega) = fs[j] := by
        have := hget
        rw [List.getElem?_eq_getElem (by omega)] at this
        exact Option.some.inj this
      rw [e]; rfl
    have hstep : ∀ v : Fd, ((fs.take j).map (prunedF kept kd) ++ fs.drop j).set j v = (fs.take j).map (prunedF kept kd) ++ v :: fs.drop (j + 1) := fun v => by
      rw [List.set_append, if_neg (by rw [List.length_map, List.length_take]; omega), List.length_map, List.length_take, show j - min j fs.length = 0 by omega, List.drop_eq_getElem_cons hj']
      rfl
    have hnx : (fs.take (j + 1)).map (prunedF kept kd) ++ fs.drop (j + 1) = (fs.take j).map (prunedF kept kd) ++ prunedF kept kd fs[j] :: fs.drop (j + 1) := by
      rw [List.take_add_one, List.getElem?_eq_getElem hj', List.map_append, List.append_assoc]; rfl
    have same : prunedF kept kd fs[j] = fs[j] → (fs.take j).map (prunedF kept kd) ++ fs.drop j = (fs.take (j + 1)).map (prunedF kept kd) ++ fs.drop (j + 1) := fun e => by
      rw [hnx, e, List.drop_eq_getElem_cons hj']
    have hb : Nat.ble (0 + j * 2 + 2) (fvs ((fs.take j).map (prunedF kept kd) ++ fs.drop j)).length = true := ble_t (by rw [fvs_len, hcur]; omega)
    refine I53_1.of (hh := ?_) ..
    unfold T53_1
    refine vcond_t (by rw [ltI_nat]; exact blt_t (by omega)) (isNat_i (isAddr_i (vreq_t (blt_t (by omega)) ⟨_, _, S.rd 1 rfl hrd hb, ?_⟩)))
    intro g206
    have S : Know g g206 [_, _, _, _, _] := S.add _
    refine vreq_t (S.cw 0 rfl (by decide) rfl rfl) ?_
    intro g207
    have S : Know g g207 [_, _, _, _, _] := S.wr 0 rfl (by decide) rfl rfl
    have S' : Know g g207 [_, _, _, _] := S.sub _ (List.sublist_cons_self ..)
    rw [wrap_succ (by omega)]
    refine ⟨_, S.rd 0 rfl rfl rfl, ?_⟩
    cases hr : fs[j].refs with
    | false =>
      have e : prunedF kept kd fs[j] = fs[j] := by unfold prunedF; rw [hr]; rfl
      rw [same e] at S'
      exact vcond_f rfl (ih (j + 1) g207 (by omega) S')
    | true =>
      haveI := S.ft
      refine vcond_t rfl ⟨_, S.rd 0 rfl rfl rfl, _, _, ct109 hO (X.to g207) (by rw [List.length_map]; omega) fs[j].n, ?_⟩
      rw [hfs _ (List.getElem_mem hj') hr, contains_ofNat]
      cases hc : kept.contains fs[j].n.toNat with
      | true =>
        have e : prunedF kept kd fs[j] = fs[j] := by unfold prunedF; rw [hr, hc]; rfl
        rw [same e] at S'
        exact vcond_f rfl (ih (j + 1) g207 (by omega) S')
      | false =>
        refine vcond_t rfl ⟨_, S.rd 1 rfl rfl rfl, vcond_split (fun h5 => ?_) fun h5 => ?_⟩
        · have h5 := eq_of_t h5
          have e : prunedF kept kd fs[j] = ⟨0, false⟩ := by unfold prunedF; rw [hr, hc, h5]; rfl
          have hb2 : Nat.ble (0 + j * 2 + [Value.int .i64 0, .bool false].length) (fvs ((fs.take j).map (prunedF kept kd) ++ fs.drop j)).length = true := hb
          refine ⟨_, _, _, S'.rd 0 rfl rfl rfl, isNat_i (isAddr_i (vreq_t (blt_t (by omega)) (vreq_t (S'.cw 1 rfl (by decide) hb2 rfl) ?_)))⟩
          intro g219
          have S2 : Know g g219 [_, _, _, _] := S'.wr 1 rfl (by decide) hb2 rfl
          rw [show [Value.int .i64 0, Value.bool false] = fdE ⟨0, false⟩ from rfl, fvs_set _ _ _ (by omega), hstep, ← e, ← hnx] at S2
          exact ih (j + 1) g219 (by omega) S2
        · have h5 := ne_of_f h5
          have e : prunedF kept kd fs[j] = fs[j] := by
            unfold prunedF
            rw [hr, hc, show (kd == 5) = false from by rw [beq_eq_false_iff_ne]; exact h5]; rfl
          rw [same e] at S'
          exact ih (j + 1) g207 (by omega) S'
/-- 'pruned', as a list that grows. -/
theorem ct53g {g : Hp} (ok : g.Ok) {a0 : Option Addr} {n0 c0 : Nat} {a1 : Option Addr} {n1 c1 : Nat} {L : List Cl} (C : ClsAt g a0 n0 L) (hN : L.length ≤ 1000) (hL : ∀ i, i < L.length → RefsIn L.length (clAt L i).fs ∧ (clAt L i).fs.length ≤ 1000) {kept : List Nat} (X : IntsAt g a1 n1 (kept.map Int.ofNat)) (lk : kept.length < 100000) :
    Ret Tryz.prog O 53 [.slice a0 n0 c0, .slice a1 n1 c1] g fun v h' => ∃ a n c vs own, v = .slice a n c ∧ Know g h' [acc g.nx 72 2 a n c vs, clo own (fun h => Nst h vs (prunedL L kept))] := by
  refine rk53 (hO := hO _ _ _ (by decide)) (hh := ?_) ..
  unfold T53
  have hn0 := C.1
  have lp : ∀ (d k : Nat) (h : Hp) (a : Option Addr) (n c : Nat) (vs : List Value) (own : Nat → Prop), k + d = L.length → Know g h [acc g.nx 72 2 a n c vs, clo own (fun h => Nst h vs ((L.take k).map (prunedC kept)))] →
      I53_0 O (fun v h' => ∃ a n c vs own, v = .slice a n c ∧ Know g h' [acc g.nx 72 2 a n c vs, clo own (fun h => Nst h vs (prunedL L kept))]) a0 n0 c0 a1 n1 c1 a n c (Int.ofNat k) h := by
    intro d
    induction d with
    | zero =>
      intro k h a n c vs own hk S
      refine I53_0.of (hh := ?_) ..
      unfold T53_0
      refine vcond_f (by rw [ltI_nat]; exact blt_f (by omega)) ?_
      have : L.take k = L := List.take_of_length_le (by omega)
      rw [this] at S
      exact ⟨a, n, c, vs, _, rfl, S⟩
    | succ d ih =>
      intro k h a n c vs own hk S
      have hk' : k < L.length := by omega
      haveI := S.ft
      obtain ⟨hL1, hL2⟩ := hL k hk'
      have hcl : L[k] = clAt L k := by simp [clAt, List.getD, List.getElem?_eq_getElem hk']
      have etake : (L.take (k + 1)).map (prunedC kept) = (L.take k).map (prunedC kept) ++ [prunedC kept (clAt L k)] := by
        rw [List.take_add_one, List.getElem?_eq_getElem hk', List.map_append, hcl]; rfl
      have lLk : ((L.take k).map (prunedC kept)).length = k := by rw [List.length_map, List.length_take]; omega
      refine I53_0.of (hh := ?_) ..
      unfold T53_0
      refine vcond_t (by rw [ltI_nat]; exact blt_t (by omega)) (isNat_i (C.rd (h := h) (k := k) hk' fun a' n' c' F => ?_))
      rw [hcl] at F ⊢
      have hF := F.1
      intro g108
      have S : Know g g108 [_, _, _] := S.add _
      refine vreq_t (S.cw 0 rfl (by decide) rfl rfl) ?_
      intro g109
      have S : Know g g109 [_, _, _] := S.wr 0 rfl (by decide) rfl rfl
      haveI := S.ft
      obtain ⟨v, h116, e116, a2, c2, rfl, T⟩ := ct47 hO S.ok (F.to g109) (by omega) (c := c')
      refine ⟨_, _, _, S.rd 0 rfl rfl rfl, _, _, _, _, e116, ?_⟩
      have S : Know g h116 [_, _, _, _] := S.comp T
      refine vreq_t (S.cw 1 rfl (by decide) rfl rfl) ?_
      intro g117
      have S : Know g g117 [_, _, _, _] := S.wr 1 rfl (by decide) rfl rfl
      refine ⟨_, _, _, S.rd 1 rfl rfl rfl, ?_⟩
      have nxt : ∀ (a21 : Option Addr) (c21 : Nat) (h : Hp) (a : Option Addr) (n c : Nat) (own' : Nat → Prop), Know g h [acc g.nx 72 2 a n c (vs ++ [.int .i64 (clAt L k).kind, .slice a21 n' c21]), clo own' (fun h => Nst h (vs ++ [.int .i64 (clAt L k).kind, .slice a21 n' c21]) ((L.take k).map (prunedC kept) ++ [⟨(clAt L k).kind, (clAt L k).fs.map (prunedF kept (clAt L k).kind)⟩]))] → I53_0 O (fun v h' => ∃ a n c vs own, v = .slice a n c ∧ Know g h' [acc g.nx 72 2 a n c vs, clo own (fun h => Nst h vs (prunedL L kept))]) a0 n0 c0 a1 n1 c1 a n c (Int.ofNat (k + 1)) h := fun a21 c21 h a n c own' S => by
        refine ih (k + 1) h a n c (vs ++ [.int .i64 (clAt L k).kind, .slice a21 n' c21]) own' (by omega) ?_
        rw [etake]
        exact S
      by_cases hz : (clAt L k).fs = []
      · have hn' : n' = 0 := by rw [hF, hz]; rfl
        subst hn'
        have S : Know g g117 [_, _, _, _] := S.sel [1, 0, 2, 3] (by decide) rfl
        refine lp53_end hO (by omega) lLk (cl := ⟨(clAt L k).kind, (clAt L k).fs.map (prunedF kept (clAt L k).kind)⟩) S (fun h' _ hP => ?_) (nxt a2 c2)
        have := AccE.slAt fdE_len (by decide) hP
        rw [hz] at this ⊢
        exact this
      · obtain ⟨oF, rfl, rfl, _, _, S⟩ := S.accOb 0 rfl (fun h => hz (by
          have := congrArg List.length h
          rw [fvs_len, List.length_nil] at this
          exact List.length_eq_zero_iff.1 (by omega)))
        have S : Know g g117 [_, _, _, _] := S.sel [1, 0, 2, 3] (by decide) rfl
        exact lp53_1 hO (by omega) lLk (kd := (clAt L k).kind) (fs := (clAt L k).fs) (fun f hf => hL1.fd hf) hF hL2 X lk (nxt (some ⟨oF, 0, none⟩) unk) (clAt L k).fs.length 0 g117 (by omega) S
  have S0 : Know g g [_] := (Know.nil ok).push (r' := clo (fun _ => False) (fun h => Nst h [] ((L.take 0).map (prunedC kept)))) (Kp.refl _ _) (clo.loc _ _) (fun _ _ _ => trivial) fun _ h => h.elim
  have S0 : Know g g [_, _] := S0.accNil g.nx 72 2
  exact lp L.length 0 g none 0 0 [] _ (by omega) S0
/-- 'pruned'. -/
theorem ct53 {g : Hp} (ok : g.Ok) {a0 : Option Addr} {n0 c0 : Nat} {a1 : Option Addr} {n1 c1 : Nat} {L : List Cl} (C : ClsAt g a0 n0 L) (hN : L.length ≤ 1000) (hL : ∀ i, i < L.length → RefsIn L.length (clAt L i).fs ∧ (clAt L i).fs.length ≤ 1000) {kept : List Nat} (X : IntsAt g a1 n1 (kept.map Int.ofNat)) (lk : kept.length < 100000) :
    Ret Tryz.prog O 53 [.slice a0 n0 c0, .slice a1 n1 c1] g fun v h' => ∃ a n c own, v = .slice a n c ∧ Know g h' [clo own (fun h => ClsAt h a n (prunedL L kept))] := by
  obtain ⟨v, h', e, a, n, c, vs, own, rfl, S⟩ := ct53g hO ok C hN hL X lk (c0 := c0) (c1 := c1)
  exact ⟨_, h', e, a, n, c, _, rfl, S.merge (fun h => ClsAt h a n (prunedL L kept)) fun h' A N => cls_of A (clo.get N)⟩
end
end Go.Proofs.YtngcjpkccnfjiaaGreatDoor
/- Plain law: a heap that is laid: its words are small; a field is changed. -/
namespace Go.Proofs.YtngcjpkccnfjiaaGreatDoor
open Go Go.Ev
def Small (x : Int) : Prop := -2000000000 ≤ x ∧ x ≤ 2000000001
theorem Small.in64 {x : Int} (h : Small x) : In64 x := ⟨by have := h.1; omega, by have := h.2; omega⟩
theorem letterB_rng {n : Int} (h : letterB n = true) : 32 ≤ n ∧ n ≤ 126 := by
  unfold letterB at h
  simp only [Bool.and_eq_true, decide_eq_true_eq] at h
  exact ⟨h.1.1.1, h.1.1.2⟩
theorem wd_small {o : List Nat} {k : Int} {f : Fd} (hf : FdOk o k f) {at_ : Nat → Nat} (ha : ∀ i ∈ o, at_ i ≤ 1000000) : Small (wd at_ f) := by
  unfold FdOk at hf
  split at hf
  · rw [wd_n hf.1]; have := letterB_rng hf.2; exact ⟨by omega, by omega⟩
  · split at hf
    · rw [wd_n hf.1]; rcases hf.2 with h | h <;> rw [h] <;> exact ⟨by decide, by decide⟩
    · rcases hf with ⟨h, j, hj, e⟩ | ⟨h, h2⟩
      · rw [wd_r h, e]
        have := ha j hj
        show Small (2 * (at_ (Int.toNat (j : Int)) : Int))
        rw [Int.toNat_natCast]
        exact ⟨by omega, by omega⟩
      · rw [wd_n h]
        rcases h2 with h2 | ⟨_, h3, h4⟩
        · rw [h2]; exact ⟨by decide, by decide⟩
        · exact ⟨by omega, by omega⟩
section
variable {L : List Cl} {o : List Nat} {free : Nat} (G : Gr L o) (hfit : layT L o ≤ 1000)
include G hfit
theorem atC_le : ∀ i ∈ o, atC L o i ≤ 1000000 := fun i hi => by have := lay_pos G hi; omega
theorem layW_small : ∀ x ∈ layW L o free, Small x := fun x hx => by
  unfold layW at hx
  rcases List.mem_cons.1 hx with rfl | hx
  · exact ⟨by decide, by decide⟩
  · rcases List.mem_append.1 hx with hx | hx
    · obtain ⟨i, hi, hx⟩ := List.mem_flatMap.1 hx
      have hk := G.kind i hi
      have hs := G.size i hi
      unfold cellC at hx
      rcases List.mem_cons.1 hx with rfl | hx
      · unfold hdC; exact ⟨by omega, by omega⟩
      · obtain ⟨f, hf, rfl⟩ := List.mem_map.1 hx
        exact wd_small (G.fok i hi f hf) (atC_le G hfit)
    · rw [List.mem_replicate] at hx; rw [hx.2]; exact ⟨by decide, by decide⟩
theorem layR_small {roots : List Fd} (hr : ∀ f ∈ roots, FdOk o 1 f) : ∀ x ∈ layR L o roots, Small x := fun x hx => by
  obtain ⟨f, hf, rfl⟩ := List.mem_map.1 hx
  exact wd_small (hr f hf) (atC_le G hfit)
end
end Go.Proofs.YtngcjpkccnfjiaaGreatDoor
/- CollectWritten: its law. -/
namespace Go.Proofs.YtngcjpkccnfjiaaGreatDoor
set_option maxRecDepth 100000
open Go Go.Ev
theorem Tb.grd {h : Hp} (t : Tb h) (l : List Nat) : Tb (h.grd l) := ⟨t.1, t.2⟩
section
variable {v0 : Array Value} {xs : List Nat} (B : Bytes v0 xs)
include B
theorem pFit : layT (drawnL xs) (pO xs) + pFree xs ≤ 61 ∧ pFree xs < 16 ∧ 1 ≤ layT (drawnL xs) (pO xs) := by
  have : layT (drawnL xs) (pO xs) ≤ 46 := drawn_fit B
  have : pFree xs < 16 := Nat.mod_lt _ (by decide)
  have : 1 ≤ layT (drawnL xs) (pO xs) := by unfold layT; omega
  omega
theorem pcheck : checkP (layW (drawnL xs) (pO xs) (pFree xs)) (Int.ofNat (layT (drawnL xs) (pO xs))) (layR (drawnL xs) (pO xs) (drawnR xs)) = some ((pO xs).map (atC (drawnL xs) (pO xs))) := by
  have h2 := drawn_roots B
  have := pFit B
  exact lay_check (drawn_gr B) h2.1 (by omega) (by omega)
theorem made_HA {y : Hp} {oW lo : Nat} {ar : Option Addr} {nr cr : Nat} (hW : y.get oW = some (.cells (iv (layW (drawnL xs) (pO xs) (pFree xs))) 3 .fix)) (ho : oW < y.nx) (hR : AccE y lo 3 1 ar nr cr (iv (layR (drawnL xs) (pO xs) (drawnR xs)))) : HA y (some ⟨oW, 0, none⟩) (layT (drawnL xs) (pO xs) + pFree xs) (layT (drawnL xs) (pO xs) + pFree xs) (layW (drawnL xs) (pO xs) (pFree xs)) ar nr cr (layR (drawnL xs) (pO xs) (drawnR xs)) := by
  have h2 := drawn_roots B
  have hf := pFit B
  have hl := layW_length (drawnL xs) (pO xs) (pFree xs)
  refine ⟨SI.cells hW ho hl.symm (by omega), SI.accE hR (by unfold layR; rw [List.length_map]; omega), fun x hx => (layW_small (drawn_gr B) (by omega) x hx).in64, fun x hx => (layR_small (drawn_gr B) (by omega) h2.1 x hx).in64⟩
end
end Go.Proofs.YtngcjpkccnfjiaaGreatDoor
/- CollectMoves of layer 15: its law, by the contracts of what it calls. -/
namespace Go.Proofs.YtngcjpkccnfjiaaGreatDoor
set_option maxRecDepth 100000
open Go Go.Ev
end Go.Proofs.YtngcjpkccnfjiaaGreatDoor
/- Plain law and helpers for CollectKept. -/
namespace Go.Proofs.YtngcjpkccnfjiaaGreatDoor
set_option maxRecDepth 100000
open Go Go.Ev
theorem fdok_false {o : List Nat} {k : Int} {f : Fd} (h : FdOk o k f) (hk : k = 3 ∨ k = 4) : f.refs = false := by
  unfold FdOk at h
  split at h
  · exact h.1
  · split at h
    · exact h.1
    · omega
/-- What is kept, without what weak cells have lost, may be laid. -/
theorem pruned_lay {L : List Cl} {o : List Nat} (G : Gr L o) (hoL : ∀ i ∈ o, i < L.length) (lL : L.length ≤ 1000) {kept : List Nat} (hn : kept.Nodup) (hk : ∀ i ∈ kept, i ∈ o) (hc : ∀ i ∈ kept, ∀ f ∈ strongC L i, f.refs = true → f.n.toNat ∈ kept) {roots : List Fd} (hr0 : ∀ f ∈ roots, FdOk o 1 f) (hr : ∀ f ∈ roots, f.refs = true → f.n.toNat ∈ kept) (lr : roots.length ≤ 1000) (hT : layT (prunedL L kept) kept ≤ 1000) : LayOk (prunedL L kept) kept roots 0 := by
  refine ⟨hn, fun i hi => by unfold prunedL; rw [List.length_map]; exact hoL i (hk i hi), fun i hi f hf hrf => ?_, fun f hf hrf => ⟨(FdOk.mem G (hr0 f hf) hrf).2, hr f hf hrf⟩, fun i hi => ?_, by unfold prunedL; rw [List.length_map]; exact lL, lr, by omega⟩
  · rw [pruned_at] at hf
    obtain ⟨f0, hf0, rfl⟩ := List.mem_map.1 hf
    have hok := G.fok i (hk i hi) f0 hf0
    by_cases hp : (f0.refs && !(kept.contains f0.n.toNat) && (clAt L i).kind == 5) = true
    · have e : prunedF kept (clAt L i).kind f0 = ⟨0, false⟩ := if_pos hp
      rw [e] at hrf; cases hrf
    · have e : prunedF kept (clAt L i).kind f0 = f0 := if_neg hp
      rw [e] at hrf ⊢
      refine ⟨(FdOk.mem G hok hrf).2, ?_⟩
      have hkd := G.kind i (hk i hi)
      by_cases h5 : (clAt L i).kind = 5
      · rw [hrf, h5] at hp
        simp only [Bool.true_and, Bool.and_eq_true, Bool.not_eq_true', beq_self_eq_true, and_true, Bool.not_eq_false] at hp
        exact List.contains_iff_mem.1 hp
      · have h3 : (clAt L i).kind ≠ 3 := fun h => by rw [fdok_false hok (.inl h)] at hrf; cases hrf
        have h4 : (clAt L i).kind ≠ 4 := fun h => by rw [fdok_false hok (.inr h)] at hrf; cases hrf
        refine hc i hi f0 ?_ hrf
        unfold strongC
        have : keepB (clAt L i).kind = true := by
          have : (clAt L i).kind = 1 ∨ (clAt L i).kind = 2 := by omega
          rcases this with h | h <;> rw [h] <;> rfl
        rw [this, if_pos rfl]; exact hf0
  · rw [pruned_at]
    have := G.kind i (hk i hi)
    show 0 ≤ (clAt L i).kind ∧ (clAt L i).kind ≤ 10
    omega
/-- References are to cells. -/
theorem Gr.refsIn {L : List Cl} {o : List Nat} (G : Gr L o) (hoL : ∀ i ∈ o, i < L.length) {i : Nat} (hi : i ∈ o) : RefsIn L.length (clAt L i).fs ∧ (clAt L i).fs.length ≤ 1000 := by
  refine ⟨fun f hf hr => ?_, by have := G.size i hi; omega⟩
  obtain ⟨a, b⟩ := FdOk.mem G (G.fok i hi f hf) hr
  exact ⟨b, hoL _ a⟩
theorem fdok_refsIn {L : List Cl} {o : List Nat} (G : Gr L o) (hoL : ∀ i ∈ o, i < L.length) {fs : List Fd} (h : ∀ f ∈ fs, FdOk o 1 f) : RefsIn L.length fs := fun f hf hr => by
  obtain ⟨a, b⟩ := FdOk.mem G (h f hf) hr
  exact ⟨b, hoL _ a⟩
/-- A heap that is returned, as what one has. -/
theorem HO.know {g h : Hp} {W : List Int} {top : Nat} {R : List Int} {v : Value} (okg : g.Ok) (H : HO g W top R v h) : ∃ aw nw cw ar nr cr own, v = .agg #[.slice aw nw cw, .int .i64 (Int.ofNat top), .slice ar nr cr] ∧ Know g h [clo own (fun h => SI h aw nw cw W ∧ SI h ar nr cr R)] := by
  obtain ⟨aw, nw, cw, ar, nr, cr, rfl, S1, S2, kp, ok, f1, f2⟩ := H
  refine ⟨aw, nw, cw, ar, nr, cr, fun o => (∃ off, aw = some ⟨o, off, none⟩) ∨ ∃ off, ar = some ⟨o, off, none⟩, rfl, ?_⟩
  have lt : ∀ {a : Option Addr} {n c : Nat} {xs : List Int}, SI h a n c xs → ∀ o off, a = some ⟨o, off, none⟩ → o < h.nx := fun s o off ha => by
    rcases s.at_.2 with ⟨_, e⟩ | ⟨b, off', _, _, _, e, h2, _⟩
    · rw [e] at ha; cases ha
    · rw [e] at ha; injection ha with ha; injection ha with ha; omega
  exact (Know.nil okg).push kp (clo.loc _ _) (fun h' hn he => ⟨S1.upd (fun o off ha => he o (.inl ⟨off, ha⟩)) hn, S2.upd (fun o off ha => he o (.inr ⟨off, ha⟩)) hn⟩) fun b hb => by
    rcases hb with ⟨off, hb⟩ | ⟨off, hb⟩
    · exact ⟨f1 b off hb, lt S1 b off hb⟩
    · exact ⟨f2 b off hb, lt S2 b off hb⟩
end Go.Proofs.YtngcjpkccnfjiaaGreatDoor
/- Plain law for CollectYoung: a laid heap is collected from an address. -/
namespace Go.Proofs.YtngcjpkccnfjiaaGreatDoor
open Go Go.Ev
def yng (o1 l : List Nat) : List Nat := l.filter fun i => !(o1.contains i)
end Go.Proofs.YtngcjpkccnfjiaaGreatDoor
/- Plain law for CollectYoung: what is moved from an address is what is laid. -/
namespace Go.Proofs.YtngcjpkccnfjiaaGreatDoor
open Go Go.Ev
end Go.Proofs.YtngcjpkccnfjiaaGreatDoor
/- Plain law for CollectYoung: a laid heap that is collected from an address is laid from the old cells and the young ones that are reached. -/
namespace Go.Proofs.YtngcjpkccnfjiaaGreatDoor
open Go Go.Ev
/-- Cells that are pruned can be laid. -/
theorem young_gr {L : List Cl} {o all : List Nat} (G : Gr L o) (hn : all.Nodup) (ho : ∀ i ∈ all, i ∈ o) (hc : ∀ i ∈ all, ∀ f ∈ strongC L i, f.refs = true → f.n.toNat ∈ all) : Gr (prunedL L all) all := by
  refine ⟨hn, fun i hi => ?_, fun i hi => ?_, fun i hi => ?_, fun i hi f hf => ?_⟩
  · rw [pruned_at]; exact G.kind i (ho i hi)
  · rw [pruned_at]; show ((clAt L i).fs.map _).length ≤ 20; rw [List.length_map]; exact G.size i (ho i hi)
  · rw [pruned_at]; intro h; show ((clAt L i).fs.map _).length = 1; rw [List.length_map]; exact G.truth i (ho i hi) h
  · rw [pruned_at] at hf ⊢
    obtain ⟨g, hg, rfl⟩ := List.mem_map.1 (show f ∈ (clAt L i).fs.map (prunedF all (clAt L i).kind) from hf)
    have h0 := G.fok i (ho i hi) g hg
    have hk := G.kind i (ho i hi)
    show FdOk all (clAt L i).kind _
    by_cases hcond : (g.refs && !(all.contains g.n.toNat) && (clAt L i).kind == 5) = true
    · have e1 : prunedF all (clAt L i).kind g = ⟨0, false⟩ := by unfold prunedF; rw [if_pos hcond]
      rw [e1]
      rw [Bool.and_eq_true, Bool.and_eq_true, beq_iff_eq] at hcond
      unfold FdOk
      rw [if_neg (by omega), if_neg (by omega)]
      exact .inr ⟨rfl, .inl rfl⟩
    · have e1 : prunedF all (clAt L i).kind g = g := by unfold prunedF; rw [if_neg hcond]
      rw [e1]
      unfold FdOk at h0 ⊢
      by_cases h3 : (clAt L i).kind = 3
      · rw [if_pos h3] at h0 ⊢; exact h0
      · by_cases h4 : (clAt L i).kind = 4
        · rw [if_neg h3, if_pos h4] at h0 ⊢; exact h0
        · rw [if_neg h3, if_neg h4] at h0 ⊢
          rcases h0 with ⟨hr, j, hj, e⟩ | h
          · refine .inl ⟨hr, j, ?_, e⟩
            have ej : g.n.toNat = j := by rw [e]; rfl
            rw [← ej]
            by_cases h5 : (clAt L i).kind = 5
            · refine Classical.not_not.1 fun hh => hcond ?_
              rw [hr, h5]
              have : all.contains g.n.toNat = false := by rw [← Bool.not_eq_true, List.contains_iff_mem]; exact hh
              rw [this]; rfl
            · refine hc i hi g ?_ hr
              unfold strongC
              have : keepB (clAt L i).kind = true := by
                unfold keepB
                simp
                omega
              rw [if_pos this]; exact hg
          · exact .inr h
theorem prunedF_strong {all : List Nat} {k : Int} (hk : keepB k = true) (f : Fd) : prunedF all k f = f := by
  unfold prunedF
  have : (k == 5) = false := by
    unfold keepB at hk
    simp at hk
    rw [beq_eq_false_iff_ne]
    omega
  rw [this, Bool.and_false]; rfl
theorem strong_pruned (L : List Cl) (all : List Nat) (i : Nat) : strongC (prunedL L all) i = strongC L i := by
  unfold strongC
  rw [pruned_at]
  show (if keepB (clAt L i).kind = true then (clAt L i).fs.map (prunedF all (clAt L i).kind) else []) = _
  split
  · rename_i h
    have : (clAt L i).fs.map (prunedF all (clAt L i).kind) = (clAt L i).fs.map id := List.map_congr_left fun f _ => prunedF_strong h f
    rw [this, List.map_id]
  · rfl
theorem reach_pruned (L : List Cl) (all : List Nat) : ∀ (f i : Nat) (l : List Nat), reachC (prunedL L all) f i l = reachC L f i l := by
  intro f
  induction f with
  | zero => intro i l; rfl
  | succ f ih =>
    intro i l
    unfold reachC
    rw [strong_pruned]
    split
    · exact ih _ _
    · rfl
theorem pruned_pruned {L : List Cl} {all kept : List Nat} (h : ∀ i ∈ kept, i ∈ all) : prunedL (prunedL L all) kept = prunedL L kept := by
  unfold prunedL
  rw [List.map_map]
  refine List.map_congr_left fun c _ => ?_
  show (⟨c.kind, ((c.fs.map (prunedF all c.kind)).map (prunedF kept c.kind))⟩ : Cl) = ⟨c.kind, c.fs.map (prunedF kept c.kind)⟩
  rw [List.map_map]
  congr 1
  refine List.map_congr_left fun f _ => ?_
  show prunedF kept c.kind (prunedF all c.kind f) = _
  by_cases hc : (f.refs && !(all.contains f.n.toNat) && c.kind == 5) = true
  · have e1 : prunedF all c.kind f = ⟨0, false⟩ := by unfold prunedF; rw [if_pos hc]
    rw [e1]
    rw [Bool.and_eq_true, Bool.and_eq_true, Bool.not_eq_true', ← Bool.not_eq_true, List.contains_iff_mem] at hc
    have e2 : prunedF kept c.kind f = ⟨0, false⟩ := by
      unfold prunedF
      have : kept.contains f.n.toNat = false := by rw [← Bool.not_eq_true, List.contains_iff_mem]; exact fun hh => hc.1.2 (h _ hh)
      rw [hc.1.1, hc.2, this]; rfl
    rw [e2]
    unfold prunedF
    rfl
  · have e1 : prunedF all c.kind f = f := by unfold prunedF; rw [if_neg hc]
    rw [e1]
end Go.Proofs.YtngcjpkccnfjiaaGreatDoor
/- Contracts: cells are copied; cells without fields. -/
namespace Go.Proofs.YtngcjpkccnfjiaaGreatDoor
set_option maxRecDepth 100000
open Go Go.Ev
theorem Nst.of {h : Hp} {cs : List Value} : ∀ (L : List Cl) (off : Nat), off + L.length * 2 ≤ cs.length → (∀ i (hi : i < L.length), ECl h L[i] ((cs.drop (off + i * 2)).take 2)) → Nst h ((cs.drop off).take (L.length * 2)) L := by
  intro L
  induction L with
  | nil => intro off _ _; rw [List.length_nil, Nat.zero_mul, List.take_zero]; trivial
  | cons c L ih =>
    intro off hl H
    rw [List.length_cons, Nat.add_mul, Nat.one_mul] at hl
    have h0 := H 0 (by simp)
    rw [Nat.zero_mul, Nat.add_zero] at h0
    obtain ⟨a, n, cp, e, F⟩ := h0
    have h1 := ih (off + 2) (by omega) fun i hi => by
      have := H (i + 1) (by simpa using hi)
      rw [show off + (i + 1) * 2 = off + 2 + i * 2 by omega] at this
      exact this
    have e2 : (cs.drop off).take ((c :: L).length * 2) = [.int .i64 c.kind, .slice a n cp] ++ (cs.drop (off + 2)).take (L.length * 2) := by
      rw [List.length_cons, Nat.add_mul, Nat.one_mul, Nat.add_comm, List.take_add, List.drop_drop, e]; rfl
    rw [e2]
    exact ⟨⟨rfl, a, n, cp, rfl, F⟩, h1⟩
theorem Nst.ones {h : Hp} : ∀ {vs : List Value} {L : List Cl}, Nst h vs L → vs.all one = true
  | [], [], _ => rfl
  | v :: w :: vs, c :: L, H => by
    obtain ⟨⟨rfl, a, n, cp, rfl, _⟩, H2⟩ := H
    have := Nst.ones H2
    rw [List.all_cons, List.all_cons, this]; rfl
  | [], _ :: _, H => H.elim
  | [_], _, H => by cases ‹List Cl› <;> exact H.elim
  | _ :: _ :: _, [], H => H.elim
theorem ClsAt.src {h : Hp} {a : Option Addr} {n c : Nat} {L : List Cl} (C : ClsAt h a n L) : ∃ vs, srcCells h 2 (.slice a n c) = some (vs, n) ∧ Nst h vs L := by
  have hn := C.1
  rcases C.2 with ⟨rfl, rfl⟩ | ⟨b, off, cs, e', m, rfl, h2, h3, h4, h5⟩
  · subst hn; exact ⟨[], rfl, trivial⟩
  · refine ⟨_, src_get (cs := (cs.drop off).take (L.length * 2)) ?_, Nst.of L off h4 h5⟩
    rw [hn, readAt_get h3 h4]
end Go.Proofs.YtngcjpkccnfjiaaGreatDoor
/- Contract: blind. -/
namespace Go.Proofs.YtngcjpkccnfjiaaGreatDoor
set_option maxRecDepth 100000
open Go Go.Ev
end Go.Proofs.YtngcjpkccnfjiaaGreatDoor
/- CollectYoung: the loops of its law. -/
namespace Go.Proofs.YtngcjpkccnfjiaaGreatDoor
set_option maxRecDepth 100000
open Go Go.Ev
end Go.Proofs.YtngcjpkccnfjiaaGreatDoor
/- CollectYoung: all that is laid and moved, put together. -/
namespace Go.Proofs.YtngcjpkccnfjiaaGreatDoor
open Go Go.Ev
/-- What is known of cells of which the young ones are collected. -/
structure Yg (xs : List Nat) (k : Nat) (r : List Nat) (s s1 : Mv) (kept : List Nat) : Prop where
  sub : ∀ i ∈ r, i ∈ pO xs
  nd : r.Nodup
  hck : checkP (layW (drawnL xs) (pO xs) (pFree xs)) (layT (drawnL xs) (pO xs) : Nat) (layR (drawnL xs) (pO xs) (drawnR xs)) = some ((pO xs).map (atC (drawnL xs) (pO xs)))
  fo : fromOk ((pO xs).map (atC (drawnL xs) (pO xs))) (Int.ofNat (layT (drawnL xs) (pO xs))) (Int.ofNat (layT (drawnL xs) (List.range k))) = true
  lay : LayOk (prunedL (drawnL xs) (List.range k ++ yng (List.range k) r)) (List.range k ++ yng (List.range k) r) (drawnR xs) 0
  run : runO (layW (drawnL xs) (pO xs) (pFree xs)) (layT (drawnL xs) (List.range k)) (layR (drawnL xs) (pO xs) (drawnR xs)) [] = some (s, layR (prunedL (drawnL xs) (List.range k ++ yng (List.range k) r)) (List.range k ++ yng (List.range k) r) (drawnR xs), [])
  le : layT (prunedL (drawnL xs) (List.range k ++ yng (List.range k) r)) (List.range k ++ yng (List.range k) r) ≤ layT (drawnL xs) (pO xs)
  top : s.top = layT (prunedL (drawnL xs) (List.range k ++ yng (List.range k) r)) (List.range k ++ yng (List.range k) r)
  D : s.D = layW (prunedL (drawnL xs) (List.range k ++ yng (List.range k) r)) (List.range k ++ yng (List.range k) r) (layT (drawnL xs) (pO xs) + pFree xs - layT (prunedL (drawnL xs) (List.range k ++ yng (List.range k) r)) (List.range k ++ yng (List.range k) r))
  small : (∀ x ∈ s.D, In64 x) ∧ ∀ x ∈ layR (prunedL (drawnL xs) (List.range k ++ yng (List.range k) r)) (List.range k ++ yng (List.range k) r) (drawnR xs), In64 x
  hck2 : ∃ l, checkP s.D (s.top : Nat) (layR (prunedL (drawnL xs) (List.range k ++ yng (List.range k) r)) (List.range k ++ yng (List.range k) r) (drawnR xs)) = some l
  run1 : runO s.D 1 (layR (prunedL (drawnL xs) (List.range k ++ yng (List.range k) r)) (List.range k ++ yng (List.range k) r) (drawnR xs)) [] = some (s1, layR (prunedL (drawnL xs) kept) kept (drawnR xs), [])
  run0 : ∃ s0, runO (layW (drawnL xs) (pO xs) (pFree xs)) 1 (layR (drawnL xs) (pO xs) (drawnR xs)) [] = some (s0, layR (prunedL (drawnL xs) kept) kept (drawnR xs), []) ∧ s0.top = s1.top ∧ s0.D = s1.D
  l1 : s1.D.length ≤ 200
  last : fromOk ((pO xs).map (atC (drawnL xs) (pO xs))) (Int.ofNat (layT (drawnL xs) (pO xs))) (Int.ofNat (layT (drawnL xs) (pO xs) + 1)) = false
end Go.Proofs.YtngcjpkccnfjiaaGreatDoor
/- slices.Insert of one whole number, among what is owned. -/
namespace Go.Ev
open Go
/-- A number among others. -/
def insAt {α : Type} (i : Nat) (x : α) (l : List α) : List α := l.take i ++ x :: l.drop i
theorem insAt_perm {α : Type} (i : Nat) (x : α) (l : List α) : (insAt i x l).Perm (x :: l) := by
  have h : (insAt i x l).Perm (x :: (l.take i ++ l.drop i)) := List.perm_middle
  rwa [List.take_append_drop] at h
theorem insAt_length {α : Type} (i : Nat) (x : α) (l : List α) : (insAt i x l).length = l.length + 1 := (insAt_perm i x l).length_eq
theorem insAt_map {α β : Type} (f : α → β) (i : Nat) (x : α) (l : List α) : (insAt i x l).map f = insAt i (f x) (l.map f) := by
  unfold insAt
  rw [List.map_append, List.map_cons, List.map_take, List.map_drop]
theorem putAt_ins {α : Type} : ∀ (xs : List α) (i : Nat) (x : α), i ≤ xs.length → putAt (xs ++ [x]) i (x :: xs.drop i) = insAt i x xs := by
  intro xs i x hi
  unfold insAt
  refine List.ext_getElem? fun j => ?_
  rw [putAt_get _ _ _ (by simp; omega)]
  simp only [List.length_cons, List.length_drop]
  by_cases h1 : j < i
  · rw [if_neg (by omega), List.getElem?_append_left (by omega), List.getElem?_append_left (by rw [List.length_take]; omega), List.getElem?_take, if_pos h1]
  · by_cases h2 : j < xs.length + 1
    · rw [if_pos (by omega), List.getElem?_append_right (by rw [List.length_take]; omega), List.length_take, Nat.min_eq_left hi]
    · rw [if_neg (by omega), List.getElem?_eq_none (by simp; omega), List.getElem?_eq_none (by simp; omega)]
theorem wr_of {h : Hp} {b off : Nat} {vs : List Value} (hc : canW h b off vs = true) : writeAt h b off vs = some (h.wr b off vs) := by
  unfold canW at hc
  unfold Hp.wr
  cases hw : writeAt h b off vs with
  | none => rw [hw] at hc; cases hc
  | some h' => rfl
section
variable {h0 g : Hp} {L : List Rs}
/-- What slices.Insert makes of a list that grows. -/
theorem Know.ins (S : Know h0 g L) (i j : Nat) {lo : Nat} {a : Option Addr} {n c : Nat} {xs : List Value} {v : Nat} {x : Value} (hi : L[i]? = some (acc lo 3 1 a n c xs)) (hj : L[j]? = some (ob v (.cells [x] 3 .fix))) (hij : i ≠ j) (hac : a = none ∨ c = unk) (hlo : h0.nx ≤ lo) (hlo2 : lo ≤ g.nx)
    {P : Program} {sT : TypeId} (T : AppT P sT 3 1 8) {p : Nat} (hp : p ≤ n) (hfl : flat x = true) (h1 : xs.all one = true) (hx1 : one x = true) (hB : n ≤ 1000000) :
    ∃ a' h', insV g [.slice a n c, .int .i64 (Int.ofNat p), .slice (some ⟨v, 0, none⟩) 1 1] = some (.slice a' (n + 1) unk, h') ∧ Know h0 h' (L.set i (acc lo 3 1 a' (n + 1) unk (insAt p x xs))) := by
  have hu : unk = 18446744073709551616 := rfl
  have hbg : big = 4611686018427387904 := rfl
  have hv : g.get v = some (.cells [x] 3 .fix) := S.obj j hj
  have hil : i < L.length := S.len hi
  have A : AccE g lo 3 1 a n c xs := S.get i hi
  have hlen : n = xs.length := by
    rcases A with (⟨_, h2, _, h4⟩ | ⟨o, _, _, h4, _⟩) | ⟨h2, h3, _⟩
    · rw [h2, h4]; rfl
    · rw [Nat.mul_one] at h4; exact h4
    · rw [h2, h3]; rfl
  have hs : srcCells g 1 (.slice (some ⟨v, 0, none⟩) 1 1) = some ([x], 1) := by
    show (readAt g v 0 (1 * 1)).map _ = _
    rw [readAt_get hv (by simp)]
    rfl
  obtain ⟨a', n', c', h1', e1, en, S1⟩ := S.app i hi hlo hlo2 T (x := .slice (some ⟨v, 0, none⟩) 1 1) (ys := [x]) (k := 1) ⟨_, _, _, rfl⟩ hs rfl (by rw [List.all_cons, hx1]; rfl) (by omega) (by omega)
  have ea := append_newE T A ⟨_, _, _, rfl⟩ hs (by rw [List.all_cons, hx1]; rfl) Nat.one_pos e1
  obtain ⟨_, info, z, hi', hzz, hrun⟩ := T.run
  rw [hrun g _ _ ⟨_, _, _, rfl⟩, hs] at e1
  have hok := T.ok
  rw [hi'] at hok
  simp only [hzz, Bool.and_eq_true] at hok
  have hbeq : Nat.beq 1 0 = false := rfl
  simp only [Option.bind_some, List.all_cons, hx1, List.all_nil, Bool.and_true, cond_true, hbeq, cond_false] at e1
  subst ea en
  have hi1 : (L.set i (acc lo 3 1 (some ⟨g.nx, 0, none⟩) (n + 1) c' (xs ++ [x])))[i]? = some (acc lo 3 1 (some ⟨g.nx, 0, none⟩) (n + 1) c' (xs ++ [x])) := by rw [List.getElem?_set_self hil]
  obtain ⟨o, ho, hc, _, hlo', S2⟩ := S1.accOb i hi1 (by simp)
  injection ho with ho
  injection ho with ho
  subst ho
  subst hc
  rw [List.set_set] at S2
  have hi2 : (L.set i (ob g.nx (.cells (xs ++ [x]) 3 .grow)))[i]? = some (ob g.nx (.cells (xs ++ [x]) 3 .grow)) := by rw [List.getElem?_set_self hil]
  have hone : (x :: xs.drop p).all one = true := by
    rw [List.all_cons, hx1, Bool.true_and]
    exact List.all_eq_true.2 fun y hy => List.all_eq_true.1 h1 y (List.mem_of_mem_drop hy)
  have hble : Nat.ble (p + (x :: xs.drop p).length) (xs ++ [x]).length = true := ble_t (by rw [List.length_cons, List.length_drop, List.length_append]; simp; omega)
  have cw := S2.cw i hi2 (off := p) (vs := x :: xs.drop p) (by decide) hble hone
  have S3 := S2.wr i hi2 (off := p) (vs := x :: xs.drop p) (by decide) hble hone
  rw [List.set_set, putAt_ins xs p x (by omega)] at S3
  have hw := wr_of cw
  have hi3 : (L.set i (ob g.nx (.cells (insAt p x xs) 3 .grow)))[i]? = some (ob g.nx (.cells (insAt p x xs) 3 .grow)) := by rw [List.getElem?_set_self hil]
  have S4 := S3.upd i hi3 (r' := acc lo 3 1 (some ⟨g.nx, 0, none⟩) (n + 1) unk (insAt p x xs)) (Ch.refl _ _) (acc.loc _ _ _ _ _ _ _) (.inl (.inr ⟨g.nx, rfl, rfl, by rw [insAt_length]; omega, hlo', (S3.orng i hi3).2, S3.obj i hi3⟩)) fun q hq => .inl (by injection hq with hq; injection hq with hq; exact hq.symm)
  rw [List.set_set] at S4
  refine ⟨_, _, ?_, S4⟩
  have hap : appSome g 3 8 1 (.slice a n c) [x] 1 = some (.slice (some ⟨g.nx, 0, none⟩) (n + 1) unk, h1') := e1
  rcases A with (⟨rfl, rfl, rfl, rfl⟩ | ⟨o, rfl, rfl, h4, h5, h6, h7⟩) | ⟨_, _, h3, o, h4, _⟩
  · obtain rfl : p = 0 := by omega
    show (match g.get v with
      | some (.cells [x] 3 .fix) => bif flat x then (bif Nat.beq 0 0 then (appSome g 3 8 1 (.slice none 0 0) [x] 1).bind fun r => (writeAt r.2 g.nx 0 [x]).map fun h' => (r.1, h') else none) else none
      | _ => none) = _
    rw [hv]
    simp only [hfl, cond_true, Nat.beq_refl]
    rw [hap]
    show Option.map (fun h' => (Value.slice (some ⟨g.nx, 0, none⟩) (0 + 1) unk, h')) (writeAt h1' g.nx 0 (x :: List.drop 0 [])) = _
    rw [hw]; rfl
  · have hov : o ≠ v := fun hh => S.sep i j hi hj hij o rfl hh
    show (match g.get v with
      | some (.cells [x] 3 .fix) => bif flat x then (match g.get o with
        | some (.cells old 3 .grow) => bif Nat.beq unk unk && Nat.beq n old.length && Nat.ble p n && !(Nat.beq o v) then
            (appSome g 3 8 1 (.slice (some ⟨o, 0, none⟩) n unk) [x] 1).bind fun r => (writeAt r.2 g.nx p (x :: old.drop p)).map fun h' => (r.1, h')
          else none
        | _ => none) else none
      | _ => none) = _
    rw [hv]
    simp only [hfl, cond_true, h7]
    have c2 : Nat.beq n xs.length = true := by rw [hlen]; exact Nat.beq_refl _
    have c3 : Nat.ble p n = true := ble_t hp
    have c4 : Nat.beq o v = false := by rw [Bool.eq_false_iff]; intro hh; exact hov (Nat.eq_of_beq_eq_true hh)
    rw [Nat.beq_refl, c2, c3, c4]
    simp only [Bool.and_self, Bool.not_false, cond_true]
    rw [hap]
    show Option.map (fun h' => (Value.slice (some ⟨g.nx, 0, none⟩) (n + 1) unk, h')) (writeAt h1' g.nx p (x :: List.drop p xs)) = _
    rw [hw]; rfl
  · rcases hac with h | h
    · rw [h4] at h; cases h
    · rw [h3] at h; cases h
end
end Go.Ev
/- CollectSame: plain law. -/
namespace Go.Proofs.YtngcjpkccnfjiaaGreatDoor
set_option maxRecDepth 100000
open Go Go.Ev
/-- The order: each number at a place among those before it. -/
def ordP (bs : List Nat) : Nat → List Nat
  | 0 => []
  | k + 1 => insAt (bs.getD k 0 % (k + 1)) k (ordP bs k)
theorem ordP_perm (bs : List Nat) : ∀ n, (ordP bs n).Perm (List.range n) := by
  intro n
  induction n with
  | zero => exact List.Perm.refl _
  | succ n ih =>
    rw [List.range_succ]
    exact (insAt_perm _ _ _).trans ((ih.cons n).trans (List.perm_append_singleton n (List.range n)).symm)
theorem fdok_sub {o o' : List Nat} {k : Int} {f : Fd} (h : FdOk o k f) (hs : f.refs = true → f.n.toNat ∈ o') : FdOk o' k f := by
  unfold FdOk at *
  split at h
  · rename_i h3; rw [if_pos h3]; exact h
  · rename_i h3
    rw [if_neg h3]
    split at h
    · rename_i h4; rw [if_pos h4]; exact h
    · rename_i h4
      rw [if_neg h4]
      rcases h with ⟨h1, j, _, e⟩ | h
      · have := hs h1
        exact .inl ⟨h1, f.n.toNat, this, by rw [e]; rfl⟩
      · exact .inr h
theorem gr_perm {L : List Cl} {o o' : List Nat} (G : Gr L o) (p : o'.Perm o) : Gr L o' where
  nd := p.nodup_iff.2 G.nd
  kind := fun i hi => G.kind i (p.mem_iff.1 hi)
  size := fun i hi => G.size i (p.mem_iff.1 hi)
  truth := fun i hi => G.truth i (p.mem_iff.1 hi)
  fok := fun i hi f hf => fdok_sub (G.fok i (p.mem_iff.1 hi) f hf) fun hr => p.mem_iff.2 (FdOk.mem G (G.fok i (p.mem_iff.1 hi) f hf) hr).1
theorem layT_perm {L : List Cl} {o o' : List Nat} (p : o'.Perm o) : layT L o' = layT L o := by
  unfold layT totS
  rw [(p.map (szC L)).sum_nat]
/-- What a collection of a heap of these cells comes to, however they lie. -/
theorem coll_perm {L : List Cl} {o o' kept : List Nat} {roots : List Fd} {free : Nat} (G : Gr L o) (p : o'.Perm o) (hr : ∀ f ∈ roots, FdOk o 1 f) (lr : roots.length ≤ 10) (hfit : layT L o + free ≤ 200)
    (hk : ∀ f, o.length + 1 ≤ f → reachC L f 0 (withC roots []) = some kept) :
    ∃ s, runO (layW L o' free) 1 (layR L o' roots) [] = some (s, layR (prunedL L kept) kept roots, []) ∧ s.top = layT (prunedL L kept) kept ∧ s.D = layW (prunedL L kept) kept (layT L o + free - layT (prunedL L kept) kept) ∧ layT (prunedL L kept) kept ≤ layT L o ∧ checkP (layW L o' free) (Int.ofNat (layT L o)) (layR L o' roots) = some (o'.map (atC L o')) := by
  have G' := gr_perm G p
  have hr' : ∀ f ∈ roots, FdOk o' 1 f := fun f hf => fdok_sub (hr f hf) fun hrf => p.mem_iff.2 (FdOk.mem G (hr f hf) hrf).1
  have eT := layT_perm (L := L) p
  obtain ⟨kept', s, hreach, _, _, _, _, hrun, _, hTle, htop, hD, _⟩ := lay_collect (free := free) G' (more := []) hr' (fun _ h => by cases h) lr (by omega)
  rw [List.append_nil] at hreach
  have e1 := hreach (o.length + o'.length + 1) (by omega)
  rw [hk _ (by omega)] at e1
  obtain rfl := Option.some.inj e1
  rw [eT] at hTle hD
  refine ⟨s, hrun, htop, hD, hTle, ?_⟩
  have := lay_check (free := free) G' hr' lr (by omega)
  rw [eT] at this
  exact this
/-- The cells that are kept, collected again. -/
theorem coll_kept {L : List Cl} {o kept : List Nat} {roots more : List Fd} {free : Nat} (G : Gr L o) (kn : kept.Nodup) (ks : ∀ i ∈ kept, i ∈ o) (kc : ∀ i ∈ kept, ∀ f ∈ strongC L i, f.refs = true → f.n.toNat ∈ kept)
    (hm : ∀ f ∈ more, FdOk kept 1 f) (lm : more.length ≤ 10) (hfit : layT (prunedL L kept) kept + free ≤ 200) (hw : withC more [] = withC roots []) (hk : ∀ f, o.length + 1 ≤ f → reachC L f 0 (withC roots []) = some kept) :
    ∃ s, runO (layW (prunedL L kept) kept free) 1 (layR (prunedL L kept) kept more) [] = some (s, layR (prunedL L kept) kept more, []) ∧ s.top = layT (prunedL L kept) kept ∧ s.D = layW (prunedL L kept) kept free ∧ checkP (layW (prunedL L kept) kept free) (Int.ofNat (layT (prunedL L kept) kept)) (layR (prunedL L kept) kept more) = some (kept.map (atC (prunedL L kept) kept)) := by
  have G' := young_gr G kn ks kc
  obtain ⟨kept', s, hreach, _, _, _, _, hrun, _, _, htop, hD, _⟩ := lay_collect (free := free) G' (more := []) hm (fun _ h => by cases h) lm (by omega)
  rw [List.append_nil] at hreach
  have e1 := hreach (o.length + kept.length + 1) (by omega)
  rw [reach_pruned, hw, hk _ (by omega)] at e1
  obtain rfl := Option.some.inj e1
  rw [pruned_pruned fun _ h => h] at hrun htop hD
  rw [Nat.add_sub_cancel_left] at hD
  exact ⟨s, hrun, htop, hD, lay_check G' hm lm hfit⟩
theorem withC_plain {roots : List Fd} {x : Int} (l : List Nat) : withC (roots ++ [⟨x, false⟩]) l = withC roots l := by
  unfold withC
  rw [List.foldl_append]
  rfl
theorem layW_take (L : List Cl) (o : List Nat) (a b : Nat) : (layW L o a).take (layT L o) = (layW L o b).take (layT L o) := by
  have h : ∀ c, (layW L o c).take (layT L o) = 0 :: o.flatMap (cellC L (atC L o)) := fun c => by
    unfold layW layT
    rw [Nat.add_comm 1, List.take_succ_cons, List.take_left' (cells_length ..)]
  rw [h a, h b]
theorem layR_app (L : List Cl) (o : List Nat) (r : List Fd) (x : Int) : layR L o (r ++ [⟨x, false⟩]) = layR L o r ++ [x] := by
  unfold layR
  rw [List.map_append]
  rfl
/-- A heap that was laid, as an argument. -/
theorem lay_HA {L : List Cl} {o : List Nat} {roots : List Fd} {free : Nat} (G : Gr L o) (hr : ∀ f ∈ roots, FdOk o 1 f) (lr : roots.length ≤ 10) (hfit : layT L o + free ≤ 200) {y : Hp} {oW lo : Nat} {ar : Option Addr} {nr cr : Nat} (hW : y.get oW = some (.cells (iv (layW L o free)) 3 .fix)) (ho : oW < y.nx) (hR : AccE y lo 3 1 ar nr cr (iv (layR L o roots))) :
    HA y (some ⟨oW, 0, none⟩) (layT L o + free) (layT L o + free) (layW L o free) ar nr cr (layR L o roots) := by
  have hl := layW_length L o free
  exact ⟨SI.cells hW ho hl.symm (by omega), SI.accE hR (by unfold layR; rw [List.length_map]; omega), fun x hx => (layW_small G (by omega) x hx).in64, fun x hx => (layR_small G (by omega) hr x hx).in64⟩
end Go.Proofs.YtngcjpkccnfjiaaGreatDoor
/- CollectKept: its law. -/
namespace Go.Proofs.YtngcjpkccnfjiaaGreatDoor
set_option maxRecDepth 100000
open Go Go.Ev
abbrev Yes11 : Value → Hp → Prop := fun v _ => v = .bool true
end Go.Proofs.YtngcjpkccnfjiaaGreatDoor
/- CollectSame: its law. -/
namespace Go.Proofs.YtngcjpkccnfjiaaGreatDoor
set_option maxRecDepth 100000
open Go Go.Ev
section
variable {O : CallF} (hO : Oth O)
include hO
/-- The order is made. -/
theorem lp12_0 (hins : ∀ {h : Hp} {args : List Value} {v : Value} {h' : Hp}, insV h args = some (v, h') → EvC Tryz.prog O 54 args h v h') {g : Hp} {v0 v1 : Array Value} {x2 : Int} {b4 : Nat} {b7 : Nat} {f7 : Nat} {a8 : Option Addr} {n8 c8 : Nat} {a9 : Option Addr} {n9 c9 : Nat} {bs : List Nat} (hq : ∀ x ∈ bs, x < 256) (lq : bs.length = 9) {Rr : List Rs} {n : Nat} (hn : n ≤ 9) {Q : Value → Hp → Prop}
    (next : ∀ (h : Hp) (a : Option Addr) (c : Nat), Know g h (acc g.nx 3 1 a n c (iv ((ordP bs n).map Int.ofNat)) :: ob b4 (.cells (bv bs) 58 .fix) :: Rr) → I12_0 O Q v0 v1 x2 b4 0 b7 f7 a8 n8 c8 a9 n9 c9 a n c (Int.ofNat n) (Int.ofNat n) h) :
    ∀ (d k : Nat) (h : Hp) (a : Option Addr) (c : Nat), k + d = n → (a = none ∨ c = unk) → Know g h (acc g.nx 3 1 a k c (iv ((ordP bs k).map Int.ofNat)) :: ob b4 (.cells (bv bs) 58 .fix) :: Rr) →
      I12_0 O Q v0 v1 x2 b4 0 b7 f7 a8 n8 c8 a9 n9 c9 a k c (Int.ofNat n) (Int.ofNat k) h := by
  have _ := hO
  intro d
  induction d with
  | zero =>
    intro k h a c hk _ S
    have : k = n := by omega
    subst this
    exact next h a c S
  | succ d ih =>
    intro k h a c hk hac S
    have hkq : k < bs.length := by omega
    have hx := hq _ (List.getElem_mem hkq)
    have hr : ((bv bs).drop (0 + k * 1)).take 1 = [.int .u8 (Int.ofNat bs[k])] := by
      rw [show 0 + k * 1 = k by omega, bv_at hkq]
      simp [List.getD, List.getElem?_eq_getElem hkq]
    have hb : Nat.ble (0 + k * 1 + 1) (bv bs).length = true := ble_t (by rw [List.length_map]; omega)
    have hmod : bs[k] % (k + 1) < k + 1 := Nat.mod_lt _ (by omega)
    refine I12_0.of (hh := ?_) ..
    unfold T12_0
    refine vcond_t (by rw [ltI_nat]; exact blt_t (by omega)) (isNat_i (vreq_t (blt_t (by omega)) ⟨_, S.rd 1 rfl hr hb, ?_⟩))
    rw [wrapN (show bs[k] < 9223372036854775808 by omega), wrap_succ (by omega)]
    refine vreq_t (by rw [eqI_f (by intro hh; have := Int.ofNat_inj.1 (show Int.ofNat (k + 1) = Int.ofNat 0 from hh); omega)]; rfl) ?_
    intro g103
    have S1 : Know g g103 (_ :: _ :: _ :: Rr) := S.add _
    rw [tmodN]
    obtain ⟨a', h', e, S2⟩ := S1.ins 1 0 (x := .int .i64 (Int.ofNat k)) rfl rfl (by decide) hac (Nat.le_refl _) S1.lo AppT22 (p := bs[k] % (k + 1)) (by omega) rfl (List.all_eq_true.2 fun y hy => by obtain ⟨_, _, rfl⟩ := List.mem_map.1 hy; rfl) rfl (by omega)
    refine ⟨_, _, _, _, hins e, ?_⟩
    have e2 : iv ((ordP bs (k + 1)).map Int.ofNat) = insAt (bs[k] % (k + 1)) (.int .i64 (Int.ofNat k)) (iv ((ordP bs k).map Int.ofNat)) := by
      show iv ((insAt (bs.getD k 0 % (k + 1)) k (ordP bs k)).map Int.ofNat) = _
      rw [insAt_map, show bs.getD k 0 = bs[k] by simp [List.getD, List.getElem?_eq_getElem hkq]]
      exact insAt_map _ _ _ _
    rw [← e2] at S2
    exact ih (k + 1) h' a' unk (by omega) (.inr rfl) (S2.sub _ (List.sublist_cons_self ..))
end
theorem sameP_eq {W1 W2 : List Int} {t : Nat} {R : List Int} (h : W1.take t = W2.take t) : sameP ⟨W1, t, R, 0⟩ ⟨W2, t, R, 0⟩ = (true, 0) := by
  unfold sameP
  rw [if_neg (fun h => h rfl), if_neg (fun h => h rfl), decide_eq_true h, decide_eq_true rfl]; rfl
theorem sameP_ne {W1 W2 : List Int} {t u : Nat} {R1 R2 : List Int} (h : R1 ≠ R2) : sameP ⟨W1, t, R1, 0⟩ ⟨W2, u, R2, 0⟩ = (false, 0) := by
  unfold sameP
  rw [if_neg (fun h => h rfl), if_neg (fun h => h rfl), decide_eq_false h, Bool.and_false]
set_option maxHeartbeats 1000000 in
theorem law12 {h : Hp} (ok : h.Ok) (ht : Tb h) {v0 : Array Value} {xs : List Nat} (B : Bytes v0 xs) {bs : List Nat} (lb : bs.length = 9) (hb : ∀ x ∈ bs, x < 256) {z : Nat} (hz : z < 256) :
    Ret Tryz.prog Ow 12 [.agg v0, .agg (bv bs).toArray, .int .u8 (Int.ofNat z)] h Yes11 := by
  have hO : Oth Ow := Ow_oth
  have n0 : 0 < h.nx := by have := ht.1; omega
  have hm := pMany_rng xs
  have hlen := B.len
  have hfit := pFit B
  have G := drawn_gr B
  have hR := drawn_roots B
  have hn : (drawnL xs).length = pMany xs := drawnL_len xs
  have hoL : ∀ i ∈ pO xs, i < (drawnL xs).length := fun i hi => by rw [hn]; exact List.mem_range.1 hi
  have hck := pcheck B
  obtain ⟨kept, s, hreach, kn, ks, kc, kr, hrun, hord, hTle, htop, hD, hT⟩ := lay_collect (free := pFree xs) G (more := []) hR.1 (fun _ h => by cases h) (by omega) (by omega)
  rw [List.append_nil] at hreach kr
  have hrun : runO (layW (drawnL xs) (pO xs) (pFree xs)) 1 (layR (drawnL xs) (pO xs) (drawnR xs)) [] = some (s, layR (prunedL (drawnL xs) kept) kept (drawnR xs), []) := hrun
  have hkL : kept.length ≤ pMany xs := len_in kn fun i hi => List.mem_range.1 (ks i hi)
  have hn2 : (prunedL (drawnL xs) kept).length = pMany xs := by unfold prunedL; rw [List.length_map]; exact hn
  have K2 : ∀ fr, fr ≤ 100 → LayOk (prunedL (drawnL xs) kept) kept (drawnR xs) fr := fun fr hfr => by
    have K := pruned_lay G hoL (by omega) kn ks kc hR.1 (fun f hf hrf => kr f hf hrf) (by omega) (by omega)
    exact ⟨K.nd, K.lt, K.refs, K.roots, K.kind, K.lL, K.lr, by omega⟩
  have G2 := young_gr G kn ks kc
  have hRk : ∀ f ∈ drawnR xs, FdOk kept 1 f := fun f hf => fdok_sub (hR.1 f hf) fun hrf => kr f hf hrf
  have po : (ordP bs (pMany xs)).Perm (pO xs) := ordP_perm bs (pMany xs)
  have Go := gr_perm G po
  have hRo : ∀ f ∈ drawnR xs, FdOk (ordP bs (pMany xs)) 1 f := fun f hf => fdok_sub (hR.1 f hf) fun hrf => po.mem_iff.2 (FdOk.mem G (hR.1 f hf) hrf).1
  have eTo : layT (drawnL xs) (ordP bs (pMany xs)) = layT (drawnL xs) (pO xs) := layT_perm po
  have hf8 : z % 8 < 8 := Nat.mod_lt _ (by decide)
  obtain ⟨so, hruno, htopo, hDo, _, hcko⟩ := coll_perm (free := z % 8) G po hR.1 (by omega) (by omega) hreach
  obtain ⟨sc, hrunc, htopc, hDc, hckc⟩ := coll_kept (free := layT (drawnL xs) (pO xs) + pFree xs - layT (prunedL (drawnL xs) kept) kept) G kn ks kc hRk (by omega) (by omega) rfl hreach
  obtain ⟨sf, hrunf, htopf, hDf, hckf⟩ := coll_kept (free := z % 8) G kn ks kc hRk (by omega) (by omega) rfl hreach
  have hRm : ∀ f ∈ drawnR xs ++ [⟨2 * (z : Int) + 1, false⟩], FdOk kept 1 f := fun f hf => by
    rcases List.mem_append.1 hf with hf | hf
    · exact hRk f hf
    · rw [List.mem_singleton.1 hf]
      unfold FdOk
      rw [if_neg (by decide), if_neg (by decide)]
      exact .inr ⟨rfl, .inr ⟨by have e := Int.mul_tdiv_add_tmod (2 * (z : Int) + 1) 2; show Int.tmod (2 * (z : Int) + 1) 2 ≠ 0; omega, by show -1999999999 ≤ 2 * (z : Int) + 1; omega, by show 2 * (z : Int) + 1 ≤ 2000000001; omega⟩⟩
  obtain ⟨sm, hrunm, htopm, hDm, hckm⟩ := coll_kept (free := z % 8) (roots := drawnR xs) G kn ks kc hRm (by rw [List.length_append]; simp; omega) (by omega) (withC_plain []) hreach
  rw [layR_app] at hrunm hckm
  have KoLay : LayOk (drawnL xs) (ordP bs (pMany xs)) (drawnR xs) (z % 8) := by
    refine ⟨Go.nd, fun i hi => hoL i (po.mem_iff.1 hi), fun i hi f hf hrf => ?_, fun f hf hrf => ⟨(FdOk.mem Go (hRo f hf) hrf).2, (FdOk.mem Go (hRo f hf) hrf).1⟩, fun i hi => by have := Go.kind i hi; omega, by omega, by omega, by omega⟩
    have := FdOk.mem Go (Go.fok i hi f hf) hrf
    exact ⟨this.2, this.1⟩
  have lkR : ∀ (P : List Cl) (o : List Nat), (layR P o (drawnR xs)).length ≤ 4 := fun P o => by unfold layR; rw [List.length_map]; exact hR.2
  refine rk12 (hO := hO _ _ _ (by decide)) (hh := ?_) ..
  unfold T12
  refine vreq_t (by rw [B.v]; exact bv_one xs) ?_
  intro g1
  have S : Know h g1 [_] := (Know.nil ok).add _
  rw [B.v] at S
  refine vreq_t (bv_one bs) ?_
  intro g2
  have S : Know h g2 [ob g1.nx (.cells (bv bs) 58 .fix), _] := S.add _
  have B2 : Bytes (bv xs).toArray xs := ⟨rfl, B.len, B.lt⟩
  obtain ⟨v, h20, e20, oW, ar, nr, cr, ac, cc, af, nf, cf, oA, own, rfl, T⟩ := ct43 hO S.ok B2
  refine ⟨bv xs, S.rd 1 rfl (by rw [List.drop_zero, List.take_of_length_le (by rw [List.length_map]; omega)]) (ble_t (by rw [List.length_map]; omega)), _, _, _, _, _, _, _, _, _, _, _, _, _, _, _, _, _, e20, ?_⟩
  have S : Know h h20 [_, _, _, _, _, _, _] := S.comp T
  intro g21
  have S : Know h g21 [_, _, _, _, _, _, _, _] := S.add _
  refine vreq_t (S.cw 0 rfl (by decide) rfl rfl) ?_
  intro g22
  have S : Know h g22 [_, _, _, _, _, _, _, _] := S.wr 0 rfl (by decide) rfl rfl
  have S : Know h g22 [_, _, _, _, _, _, _, _, _] := S.accNil h.nx 3 1
  have S : Know h g22 [_, _, _, _, _, _, _, _, _] := S.sel [0, 7, 1, 2, 3, 4, 5, 6, 8] (by decide) rfl
  rw [hn]
  rw [hn] at S
  refine lp12_0 hO (fun e => Ow_ins e) hb lb hm ?_ (pMany xs) 0 g22 none 0 (by omega) (.inl rfl) S
  intro h1 ao co S
  have S : Know h h1 [_, _, _, _, _, _, _, _, _] := S
  refine I12_0.of (hh := ?_) ..
  unfold T12_0
  refine vcond_f (by rw [ltI_nat]; exact blt_f (Nat.lt_irrefl _)) ?_
  have C : ClsAt h1 ac (pMany xs) (drawnL xs) := clo.get (S.get 3 rfl)
  have F : FdsAt h1 af nf (drawnR xs) := AccE.slAt fdE_len (by decide) (S.get 4 rfl)
  have XO : IntsAt h1 ao (pMany xs) ((ordP bs (pMany xs)).map Int.ofNat) := AccE.ints (S.get 0 rfl)
  have e8 : Int.tmod (wrapF .i64 (Int.ofNat z)) 8 = Int.ofNat (z % 8) := by rw [wrapN (by omega)]; exact tmodN _ _
  rw [e8]
  obtain ⟨v, h118, e118, oW2, ar2, nr2, cr2, oA2, rfl, T⟩ := ct52 hO S.ok KoLay C XO F (c0 := cc) (c1 := co) (c2 := cf)
  refine ⟨_, _, _, _, _, _, _, _, _, _, _, e118, ?_⟩
  have S : Know h h118 [_, _, _, _, _, _, _, _, _, _, _, _] := S.comp T
  intro g119
  have S : Know h g119 [_, _, _, _, _, _, _, _, _, _, _, _, _] := S.add _
  refine vreq_t (S.cw 0 rfl (by decide) rfl rfl) ?_
  intro g120
  have S : Know h g120 [_, _, _, _, _, _, _, _, _, _, _, _, _] := S.wr 0 rfl (by decide) rfl rfl
  have C : ClsAt g120 ac (pMany xs) (drawnL xs) := clo.get (S.get 7 rfl)
  have F : FdsAt g120 af nf (drawnR xs) := AccE.slAt fdE_len (by decide) (S.get 8 rfl)
  have hLr : ∀ i, i < (drawnL xs).length → RefsIn (drawnL xs).length (clAt (drawnL xs) i).fs ∧ (clAt (drawnL xs) i).fs.length ≤ 1000 := fun i hi => G.refsIn hoL (List.mem_range.2 (by omega))
  obtain ⟨v, h124, e124, a121, n122, c123, rfl, T⟩ := ct49 hO S.ok C (by omega) hLr F (fdok_refsIn G hoL hR.1) (by omega) (hreach _ (Nat.le_refl _)) (c0 := cc) (c1 := cf)
  refine ⟨_, _, _, _, e124, ?_⟩
  have S : Know h h124 [_, _, _, _, _, _, _, _, _, _, _, _, _, _] := S.comp T
  have C : ClsAt h124 ac (pMany xs) (drawnL xs) := clo.get (S.get 8 rfl)
  have XK : IntsAt h124 a121 n122 (kept.map Int.ofNat) := AccE.ints (S.get 0 rfl)
  obtain ⟨v, h128, e128, a125, n126, c127, own2, rfl, T⟩ := ct53 hO S.ok C (by omega) hLr XK (by omega) (c0 := cc) (c1 := c123)
  refine ⟨_, _, _, _, e128, ?_⟩
  have S : Know h h128 [_, _, _, _, _, _, _, _, _, _, _, _, _, _, _] := S.comp T
  have C2 : ClsAt h128 a125 n126 (prunedL (drawnL xs) kept) := clo.get (S.get 0 rfl)
  have XK : IntsAt h128 a121 n122 (kept.map Int.ofNat) := AccE.ints (S.get 1 rfl)
  have F : FdsAt h128 af nf (drawnR xs) := AccE.slAt fdE_len (by decide) (S.get 10 rfl)
  obtain ⟨v, h139, e139, oW3, ar3, nr3, cr3, oA3, rfl, T⟩ := ct52 hO S.ok (K2 (z % 8) (by omega)) C2 XK F (c0 := c127) (c1 := c123) (c2 := cf)
  refine ⟨_, _, _, _, _, _, _, _, _, _, _, e139, ?_⟩
  have S : Know h h139 [_, _, _, _, _, _, _, _, _, _, _, _, _, _, _, _, _, _] := S.comp T
  intro g140
  have S : Know h g140 [_, _, _, _, _, _, _, _, _, _, _, _, _, _, _, _, _, _, _] := S.add _
  refine vreq_t (S.cw 0 rfl (by decide) rfl rfl) ?_
  intro g141
  have S : Know h g141 [_, _, _, _, _, _, _, _, _, _, _, _, _, _, _, _, _, _, _] := S.wr 0 rfl (by decide) rfl rfl
  -- few: 0 box, 1 words, 2 roots; o: 6 box, 7 words, 8 roots; h: 12 box, 15 words, 16 roots
  have S : Know h g141 [_, _, _, _, _, _, _, _, _] := S.sel [0, 1, 2, 6, 7, 8, 12, 15, 16] (by decide) rfl
  have A := made_HA B (S.obj 7 rfl) (S.orng 7 rfl).2 (S.get 8 rfl)
  obtain ⟨v, h157, e157, q⟩ := ct15 hO S.ok A (ht.kp S.kp n0) (top := Int.ofNat (layT (drawnL xs) (pO xs))) (s := s) (rs := layR (prunedL (drawnL xs) kept) kept (drawnR xs)) (ks := []) (fun _ _ => hrun) (by have := lkR (prunedL (drawnL xs) kept) kept; omega)
  rw [hck] at q
  obtain ⟨u, rfl, H⟩ := q
  obtain ⟨aw4, nw4, cw4, ar4, nr4, cr4, own4, rfl, T⟩ := H.know S.ok
  refine ⟨_, _, _, _, _, _, _, S.rd 6 rfl rfl rfl, _, _, _, _, _, _, _, _, _, e157, ?_⟩
  have S : Know h h157 [_, _, _, _, _, _, _, _, _, _] := S.comp T
  intro g158
  have S : Know h g158 [_, _, _, _, _, _, _, _, _, _, _] := S.add _
  refine vreq_t (S.cw 0 rfl (by decide) rfl rfl) ?_
  intro g159
  have S : Know h g159 [_, _, _, _, _, _, _, _, _, _, _] := S.wr 0 rfl (by decide) rfl rfl
  have hcc : SI g159 aw4 nw4 cw4 s.D ∧ SI g159 ar4 nr4 cr4 (layR (prunedL (drawnL xs) kept) kept (drawnR xs)) := clo.get (S.get 1 rfl)
  have A : HA g159 aw4 nw4 cw4 s.D ar4 nr4 cr4 (layR (prunedL (drawnL xs) kept) kept (drawnR xs)) := ⟨hcc.1, hcc.2, fun x hx => by rw [hD] at hx; exact (layW_small G2 (by omega) x hx).in64, fun x hx => (layR_small G2 (by omega) hRk x hx).in64⟩
  have e159 : checkP s.D (Int.ofNat s.top) (layR (prunedL (drawnL xs) kept) kept (drawnR xs)) = some (kept.map (atC (prunedL (drawnL xs) kept) kept)) := by rw [hD, htop]; exact hckc
  obtain ⟨v, h175, e175, q⟩ := ct15 hO S.ok A (ht.kp S.kp n0) (top := Int.ofNat s.top) (s := sc) (rs := layR (prunedL (drawnL xs) kept) kept (drawnR xs)) (ks := []) (fun _ _ => by rw [hD]; exact hrunc) (by have := lkR (prunedL (drawnL xs) kept) kept; omega)
  rw [e159] at q
  obtain ⟨u, rfl, H⟩ := q
  obtain ⟨aw5, nw5, cw5, ar5, nr5, cr5, own5, rfl, T⟩ := H.know S.ok
  refine ⟨_, _, _, _, _, _, _, S.rd 0 rfl rfl rfl, _, _, _, _, _, _, _, _, _, e175, ?_⟩
  have S : Know h h175 [_, _, _, _, _, _, _, _, _, _, _, _] := S.comp T
  intro g176
  have S : Know h g176 [_, _, _, _, _, _, _, _, _, _, _, _, _] := S.add _
  refine vreq_t (S.cw 0 rfl (by decide) rfl rfl) ?_
  intro g177
  have S : Know h g177 [_, _, _, _, _, _, _, _, _, _, _, _, _] := S.wr 0 rfl (by decide) rfl rfl
  -- 0 box of twice, 1 twice, 2 box of c, 3 c, 4 few, 5, 6, 7 o, 8, 9, 10 h, 11, 12
  have A := made_HA B (S.obj 11 rfl) (S.orng 11 rfl).2 (S.get 12 rfl)
  have Ao := lay_HA Go hRo (by omega) (by omega) (free := z % 8) (S.obj 8 rfl) (S.orng 8 rfl).2 (S.get 9 rfl)
  have lTle : layT (prunedL (drawnL xs) kept) kept ≤ layT (drawnL xs) (pO xs) := hTle
  have len4 : ∀ fr, (layW (prunedL (drawnL xs) kept) kept fr).length = layT (prunedL (drawnL xs) kept) kept + fr := fun fr => layW_length ..
  obtain ⟨v, h194, e194, rfl, k194⟩ := ct22 hO S.ok (ht.kp S.kp n0) A Ao (top := Int.ofNat (layT (drawnL xs) (pO xs))) (top2 := Int.ofNat (layT (drawnL xs) (ordP bs (pMany xs)))) (s := s) (s2 := so) (rs := layR (prunedL (drawnL xs) kept) kept (drawnR xs)) (rs2 := layR (prunedL (drawnL xs) kept) kept (drawnR xs)) (ks := []) (ks2 := []) (fun _ _ => hrun) (fun _ _ => hruno)
    (by have := lkR (prunedL (drawnL xs) kept) kept; omega) (by have := lkR (prunedL (drawnL xs) kept) kept; omega)
    (by rw [hck]; show s.top ≤ s.D.length; rw [htop, hD, len4]; omega) (by rw [eTo, hcko]; show so.top ≤ so.D.length; rw [htopo, hDo, len4]; omega) (by rw [hck]; show s.D.length < _; rw [hD, len4]; omega) (by rw [hck]; have := lkR (prunedL (drawnL xs) kept) kept; show (layR (prunedL (drawnL xs) kept) kept (drawnR xs)).length < _; omega)
  rw [hck, eTo, hcko] at e194
  have es : ∀ l1 l2, sameP (outC (some l1) s (layR (prunedL (drawnL xs) kept) kept (drawnR xs))) (outC (some l2) so (layR (prunedL (drawnL xs) kept) kept (drawnR xs))) = (true, 0) := fun _ _ => by
    show sameP ⟨s.D, s.top, _, 0⟩ ⟨so.D, so.top, _, 0⟩ = _
    rw [htop, htopo, hD, hDo]
    exact sameP_eq (layW_take ..)
  rw [es] at e194
  rw [eTo] at S
  refine ⟨_, _, _, _, _, _, _, S.rd 10 rfl rfl rfl, _, _, _, _, _, _, _, S.rd 7 rfl rfl rfl, _, _, _, e194, ?_⟩
  have S : Know h h194 [_, _, _, _, _, _, _, _, _, _, _, _, _] := S.call k194
  have A := made_HA B (S.obj 11 rfl) (S.orng 11 rfl).2 (S.get 12 rfl)
  have Af := lay_HA G2 hRk (by omega) (by omega) (free := z % 8) (S.obj 5 rfl) (S.orng 5 rfl).2 (S.get 6 rfl)
  obtain ⟨v, h211, e211, rfl, k211⟩ := ct22 hO S.ok (ht.kp S.kp n0) Af A (top := Int.ofNat (layT (prunedL (drawnL xs) kept) kept)) (top2 := Int.ofNat (layT (drawnL xs) (pO xs))) (s := sf) (s2 := s) (rs := layR (prunedL (drawnL xs) kept) kept (drawnR xs)) (rs2 := layR (prunedL (drawnL xs) kept) kept (drawnR xs)) (ks := []) (ks2 := []) (fun _ _ => hrunf) (fun _ _ => hrun)
    (by have := lkR (prunedL (drawnL xs) kept) kept; omega) (by have := lkR (prunedL (drawnL xs) kept) kept; omega)
    (by rw [hckf]; show sf.top ≤ sf.D.length; rw [htopf, hDf, len4]; omega) (by rw [hck]; show s.top ≤ s.D.length; rw [htop, hD, len4]; omega) (by rw [hckf]; show sf.D.length < _; rw [hDf, len4]; omega) (by rw [hckf]; have := lkR (prunedL (drawnL xs) kept) kept; show (layR (prunedL (drawnL xs) kept) kept (drawnR xs)).length < _; omega)
  rw [hckf, hck] at e211
  have es2 : ∀ l1 l2, sameP (outC (some l1) sf (layR (prunedL (drawnL xs) kept) kept (drawnR xs))) (outC (some l2) s (layR (prunedL (drawnL xs) kept) kept (drawnR xs))) = (true, 0) := fun _ _ => by
    show sameP ⟨sf.D, sf.top, _, 0⟩ ⟨s.D, s.top, _, 0⟩ = _
    rw [htop, htopf, hD, hDf]
    exact sameP_eq (layW_take ..)
  rw [es2] at e211
  refine ⟨_, _, _, _, _, _, _, S.rd 4 rfl rfl rfl, _, _, _, _, _, _, _, S.rd 10 rfl rfl rfl, _, _, _, e211, vcond_f rfl (vcond_f rfl ?_)⟩
  have S : Know h h211 [_, _, _, _, _, _, _, _, _, _, _, _, _] := S.call k211
  have etop : sc.top = s.top := htopc.trans htop.symm
  have eDc : sc.D = s.D := hDc.trans hD.symm
  rw [etop, eDc] at S
  have hcc : SI h211 aw4 nw4 cw4 s.D ∧ SI h211 ar4 nr4 cr4 (layR (prunedL (drawnL xs) kept) kept (drawnR xs)) := clo.get (S.get 3 rfl)
  have htw : SI h211 aw5 nw5 cw5 s.D ∧ SI h211 ar5 nr5 cr5 (layR (prunedL (drawnL xs) kept) kept (drawnR xs)) := clo.get (S.get 1 rfl)
  obtain ⟨v, h227, e227, rfl, k227⟩ := ct19 hO (g := h211) (t := Int.ofNat s.top) (c12 := cw4) (c16 := cr4) (c30 := cw5) (c34 := cr5) hcc.1.at_ hcc.2.at_ htw.1.at_ htw.2.at_ (by rw [hD, len4]; omega) (by have := lkR (prunedL (drawnL xs) kept) kept; omega)
  refine ⟨_, _, _, _, _, _, _, S.rd 2 rfl rfl rfl, _, _, _, _, _, _, _, S.rd 0 rfl rfl rfl, _, _, e227, vcond_f rfl (vcond_f rfl (vcond_f rfl (vcond_f rfl (vcond_f rfl ?_))))⟩
  have S : Know h h227 [_, _, _, _, _, _, _, _, _, _, _, _, _] := S.call k227
  refine ⟨_, _, _, _, _, _, _, S.rd 4 rfl rfl rfl, ?_⟩
  intro g235
  have S : Know h g235 [_, _, _, _, _, _, _, _, _, _, _, _, _, _] := S.add _
  refine vreq_t (S.cw 0 rfl (by decide) rfl rfl) ?_
  intro g236
  have S : Know h g236 [_, _, _, _, _, _, _, _, _, _, _, _, _, _] := S.wr 0 rfl (by decide) rfl rfl
  have XR : IntsAt g236 ar3 nr3 (layR (prunedL (drawnL xs) kept) kept (drawnR xs)) := AccE.ints (S.get 7 rfl)
  obtain ⟨v, h243, e243, a240, n241, c242, rfl, T⟩ := ct46 hO S.ok XR (by have := lkR (prunedL (drawnL xs) kept) kept; omega) (c := cr3)
  refine ⟨_, _, _, S.rd 5 rfl rfl rfl, _, _, _, _, e243, ?_⟩
  have hlo := S.lo
  have hlo2 := T.lo
  have S : Know h h243 [_, _, _, _, _, _, _, _, _, _, _, _, _, _, _] := S.comp T
  intro g244
  have S : Know h g244 [_, _, _, _, _, _, _, _, _, _, _, _, _, _, _, _] := S.add _
  have odd : wrapF .i64 (wrapF .i64 (2 * wrapF .i64 (Int.ofNat z)) + 1) = 2 * (z : Int) + 1 := by
    have : Int.ofNat z = (z : Int) := rfl
    rw [this, wrap64 (n := (z : Int)) (by omega) (by omega), wrap64 (n := 2 * (z : Int)) (by omega) (by omega), wrap64 (by omega) (by omega)]
  rw [odd] at S
  have hs : srcCells g244 1 (.slice (some ⟨h243.nx, 0, none⟩) 1 1) = some ([.int .i64 (2 * (z : Int) + 1)], 1) := by
    show (readAt g244 h243.nx 0 (1 * 1)).map _ = _
    rw [S.rd 0 rfl rfl rfl]
    rfl
  have hn241 : n241 = (layR (prunedL (drawnL xs) kept) kept (drawnR xs)).length := (AccE.ints (S.get 1 rfl)).1
  have lk4 := lkR (prunedL (drawnL xs) kept) kept
  obtain ⟨a245, n246, c247, h248, e248, en, S⟩ := S.app 1 rfl hlo (by show g236.nx ≤ h243.nx + 1; omega) AppT22 (x := .slice (some ⟨h243.nx, 0, none⟩) 1 1) (ys := [.int .i64 (2 * (z : Int) + 1)]) (k := 1) ⟨_, _, _, rfl⟩ hs rfl rfl (by omega) (by unfold big; omega)
  have S : Know h h248 [_, _, _, _, _, _, _, _, _, _, _, _, _, _, _, _] := S
  have eapp : iv (layR (prunedL (drawnL xs) kept) kept (drawnR xs)) ++ [.int .i64 (2 * (z : Int) + 1)] = iv (layR (prunedL (drawnL xs) kept) kept (drawnR xs ++ [⟨2 * (z : Int) + 1, false⟩])) := by
    rw [layR_app]
    exact (List.map_append (f := Value.int .i64) (l₁ := layR (prunedL (drawnL xs) kept) kept (drawnR xs)) (l₂ := [2 * (z : Int) + 1])).symm
  rw [eapp] at S
  refine ⟨_, _, _, _, e248, ?_⟩
  refine vreq_t (S.cw 2 rfl (by decide) rfl rfl) ?_
  intro g249
  have S : Know h g249 [_, _, _, _, _, _, _, _, _, _, _, _, _, _, _, _] := S.wr 2 rfl (by decide) rfl rfl
  have A := made_HA B (S.obj 14 rfl) (S.orng 14 rfl).2 (S.get 15 rfl)
  have Am := lay_HA G2 hRm (by rw [List.length_append]; simp; omega) (by omega) (free := z % 8) (S.obj 8 rfl) (S.orng 8 rfl).2 (S.get 1 rfl)
  rw [layR_app] at Am
  obtain ⟨v, h266, e266, rfl, k266⟩ := ct22 hO S.ok (ht.kp S.kp n0) Am A (top := Int.ofNat (layT (prunedL (drawnL xs) kept) kept)) (top2 := Int.ofNat (layT (drawnL xs) (pO xs))) (s := sm) (s2 := s) (rs := layR (prunedL (drawnL xs) kept) kept (drawnR xs) ++ [2 * (z : Int) + 1]) (rs2 := layR (prunedL (drawnL xs) kept) kept (drawnR xs)) (ks := []) (ks2 := []) (fun _ _ => hrunm) (fun _ _ => hrun)
    (by rw [List.length_append]; simp; omega) (by omega)
    (by rw [hckm]; show sm.top ≤ sm.D.length; rw [htopm, hDm, len4]; omega) (by rw [hck]; show s.top ≤ s.D.length; rw [htop, hD, len4]; omega) (by rw [hckm]; show sm.D.length < _; rw [hDm, len4]; omega) (by rw [hckm]; show (layR (prunedL (drawnL xs) kept) kept (drawnR xs) ++ [2 * (z : Int) + 1]).length < _; rw [List.length_append]; simp; omega)
  rw [hckm, hck] at e266
  have es3 : ∀ l1 l2, sameP (outC (some l1) sm (layR (prunedL (drawnL xs) kept) kept (drawnR xs) ++ [2 * (z : Int) + 1])) (outC (some l2) s (layR (prunedL (drawnL xs) kept) kept (drawnR xs))) = (false, 0) := fun _ _ => by
    show sameP ⟨sm.D, sm.top, _, 0⟩ ⟨s.D, s.top, _, 0⟩ = _
    refine sameP_ne fun hh => ?_
    have := congrArg List.length hh
    rw [List.length_append] at this
    simp at this
  rw [es3] at e266
  refine ⟨_, _, _, _, _, _, _, S.rd 2 rfl rfl rfl, _, _, _, _, _, _, _, S.rd 13 rfl rfl rfl, _, _, _, e266, vcond_t rfl (vcond_t rfl ?_)⟩
  have S : Know h h266 [_, _, _, _, _, _, _, _, _, _, _, _, _, _, _, _] := S.call k266
  exact ⟨_, _, works_true (ht.kp S.kp n0), rfl⟩
end Go.Proofs.YtngcjpkccnfjiaaGreatDoor
/- What a call's arguments hold, as the evaluator's memory. -/
namespace Go.Ev
open Go
/-- Fields lie one behind the other. -/
def layOk (P : Program) : Nat → List Field → Nat → Bool
  | off, [], n => Nat.beq off n
  | off, f :: fs, n => Nat.beq f.offset off && layOk P (off + P.cellsOf f.type) fs n
/-- A type of truths, whole numbers, lists, structs and rows of these. -/
def Plain (P : Program) : Nat → TypeId → Bool
  | 0, _ => false
  | n + 1, t => match P.underlying t with
    | some .bool => true
    | some (.int _) => true
    | some (.slice e) => Plain P n e && !(Nat.beq (P.cellsOf e) 0)
    | some (.struct fs) => fs.toList.all (fun f => Plain P n f.type) && layOk P 0 fs.toList (P.cellsOf t)
    | some (.array m e) => Plain P n e && Nat.beq (m * P.cellsOf e) (P.cellsOf t)
    | _ => false
/-- Cells that read as some data, in the evaluator's memory. -/
def DE {H : Type} (P : Program) (h : Hp) : Nat → TypeId → List Value → DataW H → Prop
  | 0, _, _, _ => False
  | n + 1, t, cs, d => match P.underlying t, d with
    | some .bool, .lit (.bool b) => cs = [.bool b]
    | some (.int k), .lit (.int k' x) => k' = k ∧ cs = [.int k x] ∧ (Lit.int k x).wf = true
    | some (.slice _), .nil => cs = [.slice none 0 0]
    | some (.slice e), .slice elems _ => ∃ k cap c e', cs = [.slice (some ⟨k, 0, none⟩) elems.length cap] ∧ cap < unk ∧ elems.length ≤ cap ∧ k < h.nx ∧ h.get k = some (.cells c e' .ro) ∧ elems.length * P.cellsOf e ≤ c.length ∧
        ∀ i (hi : i < elems.length), DE P h n e ((c.drop (i * P.cellsOf e)).take (P.cellsOf e)) elems[i]
    | some (.struct fs), .agg parts => cs.length = P.cellsOf t ∧ parts.length = fs.size ∧ ∀ i (hi : i < parts.length) f, fs[i]? = some f → DE P h n f.type ((cs.drop f.offset).take (P.cellsOf f.type)) parts[i]
    | some (.array m e), .agg parts => cs.length = P.cellsOf t ∧ parts.length = m ∧ ∀ i (hi : i < parts.length), DE P h n e ((cs.drop (i * P.cellsOf e)).take (P.cellsOf e)) parts[i]
    | _, _ => False
/-- Memory with more in it, that none writes. -/
structure Ext1 (h : Hp) (ι : Inj) (h' : Hp) (ι' : Inj) : Prop where
  nx : h.nx ≤ h'.nx
  gd : h'.gd = h.gd
  get : ∀ o, o < h.nx → h'.get o = h.get o
  inj : ∀ o, o < h.nx → ι' o = ι o
theorem Ext1.refl (h : Hp) (ι : Inj) : Ext1 h ι h ι := ⟨Nat.le_refl _, rfl, fun _ _ => rfl, fun _ _ => rfl⟩
theorem Ext1.trans {h h' h'' : Hp} {ι ι' ι'' : Inj} (a : Ext1 h ι h' ι') (b : Ext1 h' ι' h'' ι'') : Ext1 h ι h'' ι'' :=
  ⟨Nat.le_trans a.nx b.nx, b.gd.trans a.gd, fun o ho => (b.get o (Nat.lt_of_lt_of_le ho a.nx)).trans (a.get o ho), fun o ho => (b.inj o (Nat.lt_of_lt_of_le ho a.nx)).trans (a.inj o ho)⟩
theorem DE.mono {H : Type} {P : Program} {h h' : Hp} (hn : h.nx ≤ h'.nx) (hg : ∀ o, o < h.nx → h'.get o = h.get o) : ∀ {n : Nat} {t : TypeId} {cs : List Value} {d : DataW H}, DE P h n t cs d → DE P h' n t cs d := by
  intro n
  induction n with
  | zero => intro t cs d h; exact h
  | succ n ih =>
    intro t cs d hd
    unfold DE at hd ⊢
    split at hd
    · exact hd
    · exact hd
    · exact hd
    · obtain ⟨k, cap, c, e', h1, h2, h3, h4, h5, h6, h7⟩ := hd
      exact ⟨k, cap, c, e', h1, h2, h3, Nat.lt_of_lt_of_le h4 hn, by rw [hg k h4]; exact h5, h6, fun i hi => ih (h7 i hi)⟩
    · exact ⟨hd.1, hd.2.1, fun i hi f hf => ih (hd.2.2 i hi f hf)⟩
    · exact ⟨hd.1, hd.2.1, fun i hi => ih (hd.2.2 i hi)⟩
    · exact hd
section
variable {H : Type} {enc : TypeId × Value → H} {P : Program} {W : World}
/-- What is ahead: memory that none writes, and an object in it. -/
structure Base (P : Program) (ι : Inj) (h : Hp) (W : World) : Prop where
  rh : RH P ι h W
  ro : ∀ o x, h.get o = some x → x.wr = false
  gd : h.gd = []
  some0 : ∃ x v, h.get 0 = some x ∧ ι 0 = some v ∧ 0 < h.nx ∧ ∃ c e, x = .cells c e .ro
/-- An object more. -/
theorem Base.push {ι : Inj} {h : Hp} (B : Base P ι h W) {c : List Value} {e : TypeId} {v : Vw} (h1 : c.all one = true) {c' : Array Value} {e' : TypeId} {fr : Nat × Nat} (hb : W.heap[v.blk]? = some (.cells c' e' fr)) (hc : ∀ (j : Nat) x, c[j]? = some x → ∃ y, c'[v.base + j]? = some y ∧ VR ι x y) :
    Base P (ι.set h.nx v) (h.add (.cells c e .ro)) W ∧ Ext1 h ι (h.add (.cells c e .ro)) (ι.set h.nx v) := by
  have hfresh : ι h.nx = none := B.rh.fresh _ (Nat.le_refl _)
  have mono := Inj.set_mono (v := v) hfresh
  have hE : Ext1 h ι (h.add (.cells c e .ro)) (ι.set h.nx v) := ⟨by rw [nx_add]; omega, rfl, fun o ho => get_add_ne (by omega), fun o ho => Inj.set_other _ _ _ (by omega)⟩
  have hget : ∀ o x, (h.add (.cells c e .ro)).get o = some x → (o = h.nx ∧ x = .cells c e .ro) ∨ h.get o = some x := fun o x ho => by
    rw [get_add] at ho
    split at ho
    · exact .inl ⟨‹_›, (Option.some.inj ho).symm⟩
    · exact .inr ho
  have hro : ∀ o x, (h.add (.cells c e .ro)).get o = some x → x.wr = false := fun o x ho => by
    rcases hget o x ho with ⟨_, rfl⟩ | ho
    · rfl
    · exact B.ro o x ho
  refine ⟨⟨⟨fun o x ho => ?_, fun o q x y vo vq _ ho hx => ?_, fun o ho => ?_, fun g hg => ?_, ?_⟩, hro, B.gd, ?_⟩, hE⟩
  · rcases hget o x ho with ⟨rfl, rfl⟩ | ho
    · refine ⟨by rw [nx_add]; omega, v, Inj.set_same .., h1, c', e', fr, hb, fun j x hx => ?_, fun h => absurd rfl h, fun h => by cases h⟩
      obtain ⟨y, hy, hv⟩ := hc j x hx
      exact ⟨y, hy, hv.mono mono⟩
    · obtain ⟨h2, u, hu, hor⟩ := B.rh.live o x ho
      exact ⟨by rw [nx_add]; omega, u, mono _ _ hu, hor.of_block mono rfl⟩
  · rw [hro o x ho] at hx; cases hx
  · rw [nx_add] at ho
    rw [Inj.set_other _ _ _ (by omega)]; exact B.rh.fresh o (by omega)
  · rw [Inj.set_other _ _ _ (by have := B.rh.gsize; omega)]; exact B.rh.glob g hg
  · rw [nx_add]; have := B.rh.gsize; omega
  · obtain ⟨x, u, a1, a2, a3, a4⟩ := B.some0
    exact ⟨x, u, by rw [get_add_ne (by omega)]; exact a1, by rw [Inj.set_other _ _ _ (by omega)]; exact a2, by rw [nx_add]; omega, a4⟩
/-- A whole part is built, whatever a part is built of. -/
def Builds (H : Type) (enc : TypeId × Value → H) (P : Program) (W : World) (n : Nat) (t : TypeId) : Prop := ∀ (cs : List Value) (d : DataW H) (ps : List MemPlace), DataW.trod enc P W 0 (fun _ => true) true n t cs = some (d, ps) →
  ∀ ι h, Base P ι h W → ∃ ι' h' ev, Ext1 h ι h' ι' ∧ Base P ι' h' W ∧ VRs ι' ev cs ∧ ev.all one = true ∧ DE P h' n t ev d
theorem VRs.mono1 {ι ι' : Inj} {h h' : Hp} (E : Ext1 h ι h' ι') (R : ∀ o, h.nx ≤ o → ι o = none) {a b : List Value} (hv : VRs ι a b) : VRs ι' a b := hv.mono fun o v hv => by
  have : o < h.nx := by
    rcases Nat.lt_or_ge o h.nx with hh | hh
    · exact hh
    · rw [R o hh] at hv; cases hv
  rw [E.inj o this]; exact hv
/-- Parts, one after the other. -/
theorem build_list {n : Nat} : ∀ (l : List (TypeId × List Value × DataW H)), (∀ p ∈ l, Builds H enc P W n p.1 ∧ ∃ ps, DataW.trod enc P W 0 (fun _ => true) true n p.1 p.2.1 = some (p.2.2, ps)) → ∀ ι h, Base P ι h W →
    ∃ ι' h', ∃ evs : List (List Value), Ext1 h ι h' ι' ∧ Base P ι' h' W ∧ evs.length = l.length ∧ VRs ι' evs.flatten (l.map (·.2.1)).flatten ∧ evs.flatten.all one = true ∧
      ∀ i (hi : i < l.length), ∃ ev, evs[i]? = some ev ∧ VRs ι' ev l[i].2.1 ∧ DE P h' n l[i].1 ev l[i].2.2 := by
  intro l
  induction l with
  | nil => intro _ ι h B; exact ⟨ι, h, [], .refl _ _, B, rfl, .nil _, rfl, fun i hi => absurd hi (Nat.not_lt_zero _)⟩
  | cons p l ih =>
    intro hl ι h B
    obtain ⟨hb, ps, hp⟩ := hl p (List.mem_cons_self ..)
    obtain ⟨ι1, h1, ev, E1, B1, V1, O1, D1⟩ := hb _ _ _ hp ι h B
    obtain ⟨ι2, h2, evs, E2, B2, L2, V2, O2, D2⟩ := ih (fun q hq => hl q (List.mem_cons_of_mem _ hq)) ι1 h1 B1
    have V1' := VRs.mono1 E2 B1.rh.fresh V1
    refine ⟨ι2, h2, ev :: evs, E1.trans E2, B2, by simp [L2], ?_, ?_, fun i hi => ?_⟩
    · rw [List.flatten_cons, List.map_cons, List.flatten_cons]; exact V1'.append V2
    · rw [List.flatten_cons, List.all_append, O1, O2]; rfl
    · cases i with
      | zero => exact ⟨ev, rfl, V1', D1.mono E2.nx E2.get⟩
      | succ i => exact D2 i (by simpa using hi)
theorem flat_row {l : List (List Value)} {w : Nat} (hw : ∀ x ∈ l, x.length = w) : l.flatten.length = l.length * w ∧ ∀ i x, l[i]? = some x → (l.flatten.drop (i * w)).take w = x := by
  induction l with
  | nil => exact ⟨by simp, fun i x h => by simp at h⟩
  | cons y l ih =>
    obtain ⟨h1, h2⟩ := ih fun x hx => hw x (List.mem_cons_of_mem _ hx)
    have hy := hw y (List.mem_cons_self ..)
    refine ⟨by rw [List.flatten_cons, List.length_append, h1, hy, List.length_cons, Nat.add_mul]; omega, fun i x hx => ?_⟩
    rw [List.flatten_cons]
    cases i with
    | zero =>
      simp at hx
      subst hx
      rw [Nat.zero_mul, List.drop_zero, ← hy, List.take_left]
    | succ i =>
      rw [List.drop_append, List.drop_of_length_le (by rw [hy, Nat.add_mul]; omega), List.nil_append, hy, show (i + 1) * w - w = i * w by rw [Nat.add_mul]; omega]
      exact h2 i x (by simpa using hx)
theorem build_int {n : Nat} {t : TypeId} {k : IntKind} (hu : P.underlying t = some (.int k)) : Builds H enc P W (n + 1) t := by
  intro cs d ps h ι hp B
  unfold DataW.trod at h
  rw [hu] at h
  rcases cs with _ | ⟨v, _ | ⟨w, r⟩⟩
  · cases h
  · cases v with
    | int k' x =>
      simp only at h
      split at h
      · rename_i hc
        injection h with h; injection h with h _
        subst h
        obtain ⟨rfl, hw⟩ := hc
        exact ⟨ι, hp, [.int k' x], .refl _ _, B, .of_flat rfl, rfl, by unfold DE; rw [hu]; exact ⟨rfl, rfl, hw⟩⟩
      · cases h
    | slice a len cap => cases a <;> cases len <;> cases cap <;> cases h
    | _ => cases h
  · cases v with
    | slice a len cap => cases a <;> cases len <;> cases cap <;> cases h
    | _ => cases h
end
end Go.Ev
/- A law's arguments, as the evaluator's memory; from its word to the kit's. -/
namespace Go.Ev
open Go Go.ChangeShapes Go.WideShapes Go.ChangeAt Go.RowKit
section
variable {H : Type} {enc : TypeId × Value → H} {P : Program} {W : World}
/-- Arguments that read as some data. -/
def DEs (P : Program) (h : Hp) : List TypeId → List Value → List (DataW H) → Prop
  | [], [], [] => True
  | t :: ts, v :: vs, d :: ds => ((∃ n, DE P h n t v.cells.toList d) ∧ (aggT P t = some true ∨ v.cells.toList = [v])) ∧ DEs P h ts vs ds
  | _, _, _ => False
theorem DEs.mono {h h' : Hp} (hn : h.nx ≤ h'.nx) (hg : ∀ o, o < h.nx → h'.get o = h.get o) : ∀ {ts : List TypeId} {vs : List Value} {ds : List (DataW H)}, DEs P h ts vs ds → DEs P h' ts vs ds
  | [], [], [], h => h
  | _ :: _, _ :: _, _ :: _, ⟨⟨⟨n, h1⟩, h3⟩, h2⟩ => ⟨⟨⟨n, h1.mono hn hg⟩, h3⟩, h2.mono hn hg⟩
/-- A value is one cell, or a struct's or a row's cells. -/
def Shaped1 (P : Program) (t : TypeId) (v : Value) : Prop := v.cells.toList = [v] ∨ (∃ cs, v = .agg cs) ∧ aggT P t = some true
theorem args_build : ∀ {ts : List TypeId} {vs : List Value} {ds : List (DataW H)} {p : List MemPlace}, DataW.TrodAll enc P W 0 (fun _ => true) true ts vs ds p → (∀ t ∈ ts, ∀ n, Builds H enc P W n t) → (∀ (i : Nat) t v, ts[i]? = some t → vs[i]? = some v → Shaped1 P t v) → ∀ ι h, Base P ι h W →
    ∃ ι' h' evs, Ext1 h ι h' ι' ∧ Base P ι' h' W ∧ VRs ι' evs vs ∧ DEs P h' ts evs ds
  | [], [], [], _, _, _, _, ι, h, B => ⟨ι, h, [], .refl _ _, B, .nil _, trivial⟩
  | t :: ts, v :: vs, d :: ds, _, ⟨p, q, ⟨n, h1⟩, h2, _⟩, hb, hs, ι, h, B => by
    obtain ⟨ι1, h3, ev, E1, B1, V1, O1, D1⟩ := hb t (List.mem_cons_self ..) n _ _ _ h1 ι h B
    obtain ⟨ι2, h4, evs, E2, B2, V2, D2⟩ := args_build h2 (fun t ht => hb t (List.mem_cons_of_mem _ ht)) (fun i t v a b => hs (i + 1) t v (by simpa using a) (by simpa using b)) ι1 h3 B1
    have V1' := VRs.mono1 E2 B1.rh.fresh V1
    rcases hs 0 t v rfl rfl with hc | ⟨⟨cs, rfl⟩, hag⟩
    · rw [hc] at V1'
      have hl : ev.length = 1 := by have := V1'.1; simpa using this.symm
      obtain ⟨x, rfl⟩ : ∃ x, ev = [x] := List.length_eq_one_iff.1 hl
      have hx : x.cells.toList = [x] := by
        have : one x = true := by simpa using O1
        cases x <;> first | rfl | cases this
      obtain ⟨y, c, e1, e2, _⟩ := V1'.head
      injection e1 with e1 _
      subst e1
      refine ⟨ι2, h4, x :: evs, E1.trans E2, B2, .cons e2 V2, ⟨⟨n, ?_⟩, .inr hx⟩, D2⟩
      rw [hx]; exact D1.mono E2.nx E2.get
    · refine ⟨ι2, h4, .agg ev.toArray :: evs, E1.trans E2, B2, .cons ?_ V2, ⟨⟨n, ?_⟩, .inl hag⟩, D2⟩
      · have V1'' : VRs ι2 ev.toArray.toList cs.toList := by rw [List.toList_toArray]; exact V1'
        obtain ⟨a1, a2⟩ := VRs.arr.1 V1''
        exact .agg a1 a2
      · show DE P h4 n t (ev.toArray).toList d
        simpa using D1.mono E2.nx E2.get
theorem shaped_of {r : Reach} {base n : Nat} {t : TypeId} {v : Value} (hp : Plain P n t = true) (h : Value.okWide P W r base t v) : Shaped1 P t v := by
  cases n with
  | zero => cases hp
  | succ n =>
    unfold Plain at hp
    unfold Value.okWide at h
    split at hp
    · rename_i hu
      rw [hu] at h
      unfold Cell.okWide Cell.ok at h
      rw [hu] at h
      cases v <;> first | exact .inl rfl | exact h.elim
    · rename_i hu
      rw [hu] at h
      unfold Cell.okWide Cell.ok at h
      rw [hu] at h
      cases v <;> first | exact .inl rfl | exact h.elim
    · rename_i hu
      rw [hu] at h
      unfold Cell.okWide Cell.ok at h
      rw [hu] at h
      cases v <;> first | exact .inl rfl | exact h.elim
    · rename_i hu
      rw [hu] at h
      obtain ⟨cs, rfl, _⟩ := h
      exact .inr ⟨⟨cs, rfl⟩, by unfold aggT; rw [hu]⟩
    · rename_i hu
      rw [hu] at h
      obtain ⟨cs, rfl, _⟩ := h
      exact .inr ⟨⟨cs, rfl⟩, by unfold aggT; rw [hu]⟩
    · cases hp
theorem DE_int {h : Hp} {n : Nat} {t : TypeId} {k : IntKind} (hu : P.underlying t = some (.int k)) {cs : List Value} {d : DataW H} (hd : DE P h n t cs d) : ∃ x, cs = [.int k x] ∧ (Lit.int k x).wf = true := by
  cases n with
  | zero => exact hd.elim
  | succ n =>
    unfold DE at hd
    rw [hu] at hd
    split at hd
    all_goals first | (rename_i heq; cases heq; done) | skip
    · rename_i k' k2 x heq
      injection heq with heq; injection heq with heq
      subst heq
      exact ⟨x, hd.2⟩
    all_goals first | exact hd.elim | skip
/-- What was there stays, but for what is new. -/
theorem post_of_old {f : Func} {s : ChangeSpec} {apart fresh handsOn again : Bool} {W W' : World} {args : Array Value} {v : Value} {ds gs : List (DataW H)} {before pa pv : List MemPlace}
    (hW : DataW.Whole enc P f.params.toList s.vars apart W args.toList ds gs before)
    (hres : ∀ (b : Nat) (sp : Nat → Bool) (hd : Bool), DataW.TrodAll enc P W' b sp hd f.resultTypes.toList (v.resultList f.resultTypes.size) (s.fn H (ds ++ gs)).results [])
    (hargs : ∀ sp : Nat → Bool, (∀ p ∈ before, sp p.block = true) → DataW.TrodAll enc P W' 0 sp true f.params.toList args.toList (s.fn H (ds ++ gs)).args pa)
    (hvars : ∀ sp : Nat → Bool, (∀ p ∈ before, sp p.block = true) → DataW.TrodVars enc P W' sp s.vars (s.fn H (ds ++ gs)).vars pv)
    (hps : before = pa ++ pv) (hk : W.keptBut W' (· ∈ before)) (hfz : ∀ a : Addr, a.block < W.heap.size → W'.frozen? a = W.frozen? a)
    (hok : ∀ (j : Nat) (t : TypeId) (r : Value), f.resultTypes[j]? = some t → (v.resultList f.resultTypes.size)[j]? = some r → Value.okWide P W' .any 0 t r) :
    s.post enc P f apart fresh handsOn again W args v W' := by
  have hold : ∀ p ∈ before, (fun b => decide (b < W.heap.size)) p.block = true := fun p hp => by simpa using hW.lt p hp
  have hlt := hW.lt
  refine ⟨ds, gs, before, [], pa, pv, hW, hres _ _ _, hargs _ hold, hvars _ hold, World.keptBut_mono (fun p hp => ⟨hp, ?_⟩) hk, fun _ => ?_⟩
  · rw [hps, List.mem_append] at hp
    exact Or.inr hp
  · obtain ⟨_, _, _, _, _, hz, hn⟩ := hW
    refine ⟨hok, _, _, ([] ++ pa) ++ pv, ⟨[] ++ pa, pv, trodAll_append (hargs _ (fun _ _ => rfl)) (hres _ _ _), hvars _ (fun _ _ => rfl), rfl, ?_, ?_⟩, ?_⟩
    · intro b off hp
      have hp2 : MemPlace.cell b off ∈ before := by rw [hps]; simpa using hp
      rw [hfz _ (hlt _ hp2)]
      exact hz b off hp2
    · intro ha
      have := hn ha
      rw [hps] at this
      simpa using this
    · intro p hp _
      rw [hps]
      simpa using hp
/-- Arguments read again as they did. -/
theorem again {ts : List TypeId} {vs : List Value} {ds : List (DataW H)} {p : List MemPlace} {W' : World} (K : Kids P (· < P.types.size)) (full : ∀ t e, t < P.types.size → P.underlying t = some (.slice e) → 0 < P.cellsOf e) (hts : ∀ t ∈ ts, t < P.types.size)
    (hA : DataW.TrodAll enc P W 0 (fun _ => true) true ts vs ds p) (hb : Below W.heap.size W W') (hlt : ∀ q ∈ p, q.block < W.heap.size) (sp : Nat → Bool) (hs : ∀ q ∈ p, sp q.block = true) : DataW.TrodAll enc P W' 0 sp true ts vs ds p := by
  have hA' := DataW.TrodAll.respare K full hts hA hs
  clear hA hs hts
  induction ts generalizing vs ds p with
  | nil => match vs, ds, hA' with
    | [], [], h => exact h
  | cons t ts ih => match vs, ds, hA' with
    | v :: vs, d :: ds, ⟨p1, p2, ⟨n, h1⟩, h2, e⟩ =>
      subst e
      exact ⟨p1, p2, ⟨n, DataW.trod_carry n _ _ _ h1 fun q hq => hb.same (hlt q (List.mem_append_left _ hq))⟩, ih (fun q hq => hlt q (List.mem_append_right _ hq)) h2, rfl⟩
end
end Go.Ev
/- A law's arguments, as the evaluator's memory: structs, rows, and lists of lists. -/
namespace Go.Ev
open Go Go.ChangeShapes Go.WideShapes Go.ChangeAt Go.RowKit
section
variable {H : Type} {enc : TypeId × Value → H} {P : Program} {W : World}
/-- Fields one behind the other are the whole. -/
theorem lay_flat {n : Nat} : ∀ (fs : List Field) (off : Nat), layOk P off fs n = true → ∀ (cs : List Value), cs.length = n → (fs.map fun f => (cs.drop f.offset).take (P.cellsOf f.type)).flatten = cs.drop off := by
  intro fs
  induction fs with
  | nil =>
    intro off h cs hc
    have : off = n := Nat.eq_of_beq_eq_true h
    rw [List.drop_of_length_le (by omega)]; rfl
  | cons f fs ih =>
    intro off h cs hc
    simp only [layOk, Bool.and_eq_true] at h
    have h1 : f.offset = off := Nat.eq_of_beq_eq_true h.1
    rw [List.map_cons, List.flatten_cons, ih _ h.2 cs hc, h1, ← List.drop_drop, List.take_append_drop]
theorem lay_part {n : Nat} : ∀ (fs : List Field) (off : Nat), layOk P off fs n = true → ∀ (evs : List (List Value)), evs.length = fs.length → (∀ (i : Nat) f ev, fs[i]? = some f → evs[i]? = some ev → ev.length = P.cellsOf f.type) →
    ∀ (i : Nat) f ev, fs[i]? = some f → evs[i]? = some ev → off ≤ f.offset ∧ (evs.flatten.drop (f.offset - off)).take (P.cellsOf f.type) = ev := by
  intro fs
  induction fs with
  | nil => intro off _ evs _ _ i f ev hf; simp at hf
  | cons g fs ih =>
    intro off h evs hl hlen i f ev hf he
    simp only [layOk, Bool.and_eq_true] at h
    have h1 : g.offset = off := Nat.eq_of_beq_eq_true h.1
    rcases evs with _ | ⟨e0, evs⟩
    · simp at hl
    have hl0 : e0.length = P.cellsOf g.type := hlen 0 g e0 rfl rfl
    cases i with
    | zero =>
      simp at hf he
      subst hf he
      refine ⟨by omega, ?_⟩
      rw [h1, Nat.sub_self, List.drop_zero, List.flatten_cons, ← hl0, List.take_left]
    | succ i =>
      obtain ⟨g1, g2⟩ := ih _ h.2 evs (by simpa using hl) (fun i f ev a b => hlen (i + 1) f ev (by simpa using a) (by simpa using b)) i f ev (by simpa using hf) (by simpa using he)
      refine ⟨by omega, ?_⟩
      rw [List.flatten_cons, List.drop_append, List.drop_of_length_le (by omega), List.nil_append, show f.offset - off - e0.length = f.offset - (off + P.cellsOf g.type) by omega]
      exact g2
theorem lay_fit {n : Nat} : ∀ (fs : List Field) (off : Nat), layOk P off fs n = true → off ≤ n ∧ ∀ f ∈ fs, f.offset + P.cellsOf f.type ≤ n := by
  intro fs
  induction fs with
  | nil => intro off h; exact ⟨Nat.le_of_eq (Nat.eq_of_beq_eq_true h), fun f hf => by cases hf⟩
  | cons g fs ih =>
    intro off h
    simp only [layOk, Bool.and_eq_true] at h
    have h1 : g.offset = off := Nat.eq_of_beq_eq_true h.1
    obtain ⟨a, b⟩ := ih _ h.2
    refine ⟨by omega, fun f hf => ?_⟩
    rcases List.mem_cons.1 hf with rfl | hf
    · omega
    · exact b f hf
theorem build_struct {n : Nat} {fs : Array Field} {t : TypeId} (he : ∀ f ∈ fs.toList, Builds H enc P W n f.type) (hlay : layOk P 0 fs.toList (P.cellsOf t) = true) (hu : P.underlying t = some (.struct fs)) : Builds H enc P W (n + 1) t := by
  intro cs d ps h ι hp B
  have h : (if cs.length = P.cellsOf t then (fs.toList.mapM fun f => DataW.trod enc P W 0 (fun _ => true) true n f.type ((cs.drop f.offset).take (P.cellsOf f.type))).map fun xs => (DataW.agg (xs.map (·.1)), xs.flatMap (·.2)) else none) = some (d, ps) := by
    unfold DataW.trod at h
    rw [hu] at h
    exact h
  split at h
  · rename_i hc
    obtain ⟨xs, h1, h2⟩ := Option.map_eq_some_iff.1 h
    injection h2 with h2 _
    subst h2
    have l1 := Lib.mapM_length h1
    let l : List (TypeId × List Value × DataW H) := (fs.toList.zip (xs.map (·.1))).map fun p => (p.1.type, (cs.drop p.1.offset).take (P.cellsOf p.1.type), p.2)
    have hll : l.length = fs.toList.length := by simp [l, l1]
    have lget : ∀ i (hi : i < l.length), ∃ f x, fs.toList[i]? = some f ∧ xs[i]? = some x ∧ l[i] = (f.type, (cs.drop f.offset).take (P.cellsOf f.type), x.1) ∧ DataW.trod enc P W 0 (fun _ => true) true n f.type ((cs.drop f.offset).take (P.cellsOf f.type)) = some x := by
      intro i hi
      have hi1 : i < fs.toList.length := by omega
      have hi2 : i < xs.length := by omega
      obtain ⟨b, e1, e2⟩ := Lib.mapM_at h1 i _ (List.getElem?_eq_getElem hi1)
      rw [List.getElem?_eq_getElem hi2] at e1
      obtain rfl := Option.some.inj e1
      exact ⟨_, _, List.getElem?_eq_getElem hi1, List.getElem?_eq_getElem hi2, by simp [l], e2⟩
    obtain ⟨ι1, h3, evs, E1, B1, L1, V1, O1, D1⟩ := build_list l (fun p hpm => by
      obtain ⟨i, hi, rfl⟩ := List.getElem_of_mem hpm
      obtain ⟨f, x, a1, a2, a3, a4⟩ := lget i hi
      rw [a3]
      exact ⟨he f (List.mem_of_getElem? a1), _, a4⟩) ι hp B
    have hcells : l.map (·.2.1) = fs.toList.map fun f => (cs.drop f.offset).take (P.cellsOf f.type) := by
      refine List.ext_getElem (by simp [hll]) fun i hi hi' => ?_
      have hi3 : i < l.length := by simpa using hi
      obtain ⟨f, x, a1, a2, a3, a4⟩ := lget i hi3
      have hi4 : i < fs.toList.length := by omega
      have hf : fs.toList[i] = f := by rw [List.getElem?_eq_getElem hi4] at a1; exact Option.some.inj a1
      simp only [List.getElem_map]
      rw [a3, hf]
    rw [hcells, lay_flat fs.toList 0 hlay cs hc, List.drop_zero] at V1
    refine ⟨ι1, h3, evs.flatten, E1, B1, V1, O1, ?_⟩
    unfold DE
    rw [hu]
    have hlen : ∀ (i : Nat) f ev, fs.toList[i]? = some f → evs[i]? = some ev → ev.length = P.cellsOf f.type := by
      intro i f ev hf hev
      have hi : i < l.length := by have := (List.getElem?_eq_some_iff.1 hf).1; omega
      obtain ⟨ev', e1, e2, _⟩ := D1 i hi
      rw [hev] at e1
      obtain rfl := Option.some.inj e1
      obtain ⟨f', x, a1, a2, a3, a4⟩ := lget i hi
      rw [hf] at a1
      obtain rfl := Option.some.inj a1
      rw [← e2.1, a3]
      have hfit := (lay_fit fs.toList 0 hlay).2 f (List.mem_of_getElem? hf)
      show ((cs.drop f.offset).take (P.cellsOf f.type)).length = _
      rw [List.length_take, List.length_drop]; omega
    refine ⟨by rw [← V1.1]; exact hc, by simp [l1], fun i hi f hf => ?_⟩
    have hi2 : i < l.length := by simp at hi; omega
    obtain ⟨ev, e1, e2, e3⟩ := D1 i hi2
    obtain ⟨f', x, a1, a2, a3, a4⟩ := lget i hi2
    have hf' : fs.toList[i]? = some f := by rw [Array.getElem?_toList]; exact hf
    rw [hf'] at a1
    obtain rfl := Option.some.inj a1
    have := (lay_part fs.toList 0 hlay evs (by omega) hlen i f ev hf' e1).2
    rw [Nat.sub_zero] at this
    rw [this]
    rw [a3] at e3
    have hx : (xs.map (·.1))[i]'(by simpa using hi) = x.1 := by
      have hi3 : i < xs.length := by simpa using hi
      rw [List.getElem?_eq_getElem hi3] at a2
      obtain rfl := Option.some.inj a2
      simp
    rw [hx]; exact e3
  · cases h
/-- The parts of a struct. -/
theorem DE_struct {h : Hp} {n : Nat} {t : TypeId} {fs : Array Field} (hu : P.underlying t = some (.struct fs)) {cs : List Value} {d : DataW H} (hd : DE P h (n + 1) t cs d) :
    cs.length = P.cellsOf t ∧ ∀ (i : Nat) (f : Field), fs[i]? = some f → ∃ d' : DataW H, DE P h n f.type ((cs.drop f.offset).take (P.cellsOf f.type)) d' := by
  unfold DE at hd
  rw [hu] at hd
  split at hd
  all_goals first | (rename_i heq; cases heq; done) | skip
  · rename_i fs' parts heq
    injection heq with heq; injection heq with heq
    subst heq
    obtain ⟨h1, h2, h3⟩ := hd
    refine ⟨h1, fun i f hf => ?_⟩
    have hi : i < parts.length := by rw [h2]; exact (Array.getElem?_eq_some_iff.1 hf).1
    exact ⟨_, h3 i hi f hf⟩
  all_goals first | exact hd.elim | skip
theorem two_of {cs : List Value} {x y : Value} (hl : cs.length = 2) (h1 : (cs.drop 0).take 1 = [x]) (h2 : (cs.drop 1).take 1 = [y]) : cs = [x, y] := by
  rcases cs with _ | ⟨a, _ | ⟨b, _ | ⟨c, r⟩⟩⟩
  · cases hl
  · cases hl
  · simp at h1 h2; rw [h1, h2]
  · simp at hl
end
end Go.Ev
/- A law's arguments, as the evaluator's memory: rows. -/
namespace Go.Ev
open Go Go.ChangeShapes Go.WideShapes Go.ChangeAt Go.RowKit
section
variable {H : Type} {enc : TypeId × Value → H} {P : Program} {W : World}
theorem row_flat {w : Nat} : ∀ (m : Nat) (cs : List Value), cs.length = m * w → ((List.range m).map fun i => (cs.drop (i * w)).take w).flatten = cs := by
  intro m
  induction m with
  | zero => intro cs h; rw [Nat.zero_mul] at h; rw [List.length_eq_zero_iff.1 h]; rfl
  | succ m ih =>
    intro cs h
    have e : cs = cs.take (m * w) ++ cs.drop (m * w) := (List.take_append_drop ..).symm
    have hm : (cs.take (m * w)).length = m * w := by rw [List.length_take, h, Nat.add_mul]; omega
    rw [List.range_succ, List.map_append, List.flatten_append]
    have e1 : ((List.range m).map fun i => (cs.drop (i * w)).take w) = (List.range m).map fun i => ((cs.take (m * w)).drop (i * w)).take w := by
      refine List.map_congr_left fun i hi => ?_
      have hi := List.mem_range.1 hi
      have : (i + 1) * w ≤ m * w := Nat.mul_le_mul_right w hi
      rw [Nat.add_mul] at this
      rw [List.drop_take, List.take_take, Nat.min_eq_left (by omega)]
    rw [e1, ih _ hm]
    simp only [List.map_cons, List.map_nil, List.flatten_cons, List.flatten_nil, List.append_nil]
    rw [List.take_of_length_le (l := cs.drop (m * w)) (by rw [List.length_drop, h, Nat.add_mul]; omega)]
    exact List.take_append_drop ..
theorem build_array {n m : Nat} {e t : TypeId} (he : Builds H enc P W n e) (hsz : P.cellsOf t = m * P.cellsOf e) (hu : P.underlying t = some (.array m e)) : Builds H enc P W (n + 1) t := by
  intro cs d ps h ι hp B
  have h : (if cs.length = P.cellsOf t then ((List.range m).mapM fun i => DataW.trod enc P W 0 (fun _ => true) true n e ((cs.drop (i * P.cellsOf e)).take (P.cellsOf e))).map fun xs => (DataW.agg (xs.map (·.1)), xs.flatMap (·.2)) else none) = some (d, ps) := by
    unfold DataW.trod at h
    rw [hu] at h
    exact h
  split at h
  · rename_i hc
    obtain ⟨xs, h1, h2⟩ := Option.map_eq_some_iff.1 h
    injection h2 with h2 _
    subst h2
    have l1 := Lib.mapM_length h1
    rw [List.length_range] at l1
    let l : List (TypeId × List Value × DataW H) := (List.range m).map fun i => (e, (cs.drop (i * P.cellsOf e)).take (P.cellsOf e), ((xs.map (·.1))[i]?).getD .nil)
    have hll : l.length = m := by simp [l]
    have lget : ∀ i (hi : i < l.length), ∃ x, xs[i]? = some x ∧ l[i] = (e, (cs.drop (i * P.cellsOf e)).take (P.cellsOf e), x.1) ∧ DataW.trod enc P W 0 (fun _ => true) true n e ((cs.drop (i * P.cellsOf e)).take (P.cellsOf e)) = some x := by
      intro i hi
      have hi1 : i < m := by omega
      have hi2 : i < xs.length := by omega
      obtain ⟨b, e1, e2⟩ := Lib.mapM_at h1 i i (by simp [hi1])
      rw [List.getElem?_eq_getElem hi2] at e1
      obtain rfl := Option.some.inj e1
      exact ⟨_, List.getElem?_eq_getElem hi2, by simp [l, hi2], e2⟩
    obtain ⟨ι1, h3, evs, E1, B1, L1, V1, O1, D1⟩ := build_list l (fun p hpm => by
      obtain ⟨i, hi, rfl⟩ := List.getElem_of_mem hpm
      obtain ⟨x, a2, a3, a4⟩ := lget i hi
      rw [a3]
      exact ⟨he, _, a4⟩) ι hp B
    have hcells : l.map (·.2.1) = (List.range m).map fun i => (cs.drop (i * P.cellsOf e)).take (P.cellsOf e) := by simp [l]
    rw [hcells, row_flat m cs (by rw [hc, hsz])] at V1
    refine ⟨ι1, h3, evs.flatten, E1, B1, V1, O1, ?_⟩
    unfold DE
    rw [hu]
    have hw : ∀ x ∈ evs, x.length = P.cellsOf e := by
      intro x hx
      obtain ⟨i, hi, rfl⟩ := List.getElem_of_mem hx
      obtain ⟨ev, e1, e2, _⟩ := D1 i (by omega)
      rw [List.getElem?_eq_getElem hi] at e1
      obtain rfl := Option.some.inj e1
      obtain ⟨x, a2, a3, a4⟩ := lget i (by omega)
      rw [← e2.1, a3]
      have : (i + 1) * P.cellsOf e ≤ m * P.cellsOf e := Nat.mul_le_mul_right _ (by omega)
      rw [Nat.add_mul] at this
      show ((cs.drop (i * P.cellsOf e)).take (P.cellsOf e)).length = _
      rw [List.length_take, List.length_drop, hc, hsz]; omega
    refine ⟨by rw [← V1.1]; exact hc, by simp [l1], fun i hi => ?_⟩
    have hi2 : i < l.length := by simp at hi; omega
    obtain ⟨ev, e1, e2, e3⟩ := D1 i hi2
    obtain ⟨x, a2, a3, a4⟩ := lget i hi2
    rw [(flat_row hw).2 i ev e1]
    rw [a3] at e3
    have hx : (xs.map (·.1))[i]'(by simpa using hi) = x.1 := by
      have hi3 : i < xs.length := by simpa using hi
      rw [List.getElem?_eq_getElem hi3] at a2
      obtain rfl := Option.some.inj a2
      simp
    rw [hx]; exact e3
  · cases h
/-- Cells are whole numbers of a kind, each in its range. -/
def AllInt (k : IntKind) (cs : List Value) : Prop := ∀ v ∈ cs, ∃ x, v = .int k x ∧ (Lit.int k x).wf = true
theorem AllInt.list {k : IntKind} : ∀ {cs : List Value}, AllInt k cs → ∃ xs : List Int, cs = xs.map (Value.int k) ∧ ∀ x ∈ xs, (Lit.int k x).wf = true := by
  intro cs
  induction cs with
  | nil => intro _; exact ⟨[], rfl, fun x h => by cases h⟩
  | cons v cs ih =>
    intro h
    obtain ⟨x, rfl, hx⟩ := h v (List.mem_cons_self ..)
    obtain ⟨xs, rfl, hxs⟩ := ih fun w hw => h w (List.mem_cons_of_mem _ hw)
    exact ⟨x :: xs, rfl, fun y hy => by
      rcases List.mem_cons.1 hy with rfl | hy
      · exact hx
      · exact hxs y hy⟩
theorem DE_allInt {h : Hp} {n : Nat} {t : TypeId} {k : IntKind} (hu : P.underlying t = some (.int k)) {cs : List Value} {d : DataW H} (hd : DE P h n t cs d) : AllInt k cs := by
  obtain ⟨x, rfl, hx⟩ := DE_int hu hd
  intro v hv
  exact ⟨x, List.mem_singleton.1 hv, hx⟩
/-- A row's cells are those of its parts. -/
theorem DE_array {h : Hp} {n m : Nat} {t e : TypeId} (hu : P.underlying t = some (.array m e)) (hsz : P.cellsOf t = m * P.cellsOf e) {k : IntKind} (he : ∀ n cs (d : DataW H), DE P h n e cs d → AllInt k cs) {cs : List Value} {d : DataW H} (hd : DE P h n t cs d) : cs.length = P.cellsOf t ∧ AllInt k cs := by
  cases n with
  | zero => exact hd.elim
  | succ n =>
    unfold DE at hd
    rw [hu] at hd
    split at hd
    all_goals first | (rename_i heq; cases heq; done) | skip
    · rename_i m' e' parts heq
      injection heq with heq; injection heq with h1 h2
      subst h1 h2
      obtain ⟨h1, h2, h3⟩ := hd
      refine ⟨h1, fun v hv => ?_⟩
      obtain ⟨j, hj, rfl⟩ := List.getElem_of_mem hv
      have hw : 0 < P.cellsOf e := by
        rcases Nat.eq_zero_or_pos (P.cellsOf e) with h0 | h0
        · rw [h1, hsz, h0] at hj; omega
        · exact h0
      have hi : j / P.cellsOf e < parts.length := by
        rw [h2]
        exact Nat.div_lt_of_lt_mul (by rw [Nat.mul_comm, ← hsz, ← h1]; exact hj)
      refine he _ _ _ (h3 _ hi) _ ?_
      have hmod := Nat.mod_lt j hw
      have hdm := Nat.div_add_mod j (P.cellsOf e)
      refine List.mem_iff_getElem?.2 ⟨j % P.cellsOf e, ?_⟩
      rw [List.getElem?_take_of_lt hmod, List.getElem?_drop, Nat.mul_comm, hdm, List.getElem?_eq_getElem hj]
    all_goals first | exact hd.elim | skip
theorem wf_rng {k : IntKind} {x : Int} (h : (Lit.int k x).wf = true) : k.min ≤ x ∧ x ≤ k.max := by
  have h : (decide (k.min ≤ x) && decide (x ≤ k.max)) = true := h
  simpa using h
end
end Go.Ev
