/- SatKnown of layer 20: the pieces, one after the other. -/
import Derived.Test.YtfgfhplgnfbaaaaDoorEvKn0
import Derived.Test.YtfgfhplgnfbaaaaDoorEvKn1
import Derived.Test.YtfgfhplgnfbaaaaDoorEvKn2
import Derived.Test.YtfgfhplgnfbaaaaDoorEvKn3
import Derived.Test.YtfgfhplgnfbaaaaDoorEvKn4
import Derived.Test.YtfgfhplgnfbaaaaDoorEvWorks2
namespace Go.Proofs.YtfgfhplgnfbaaaaDoor
open Go Go.Ev

/-- The names at the start: the one package-level variable. -/
def iota0 : Inj := fun o => if o = 0 then some ⟨0, 0, 0, 0⟩ else none
theorem h0_get (o : Nat) (x : Ob) (h : h0.get o = some x) : o = 0 ∧ x = .cells tab 0 .ro := by
  have h : (Tr.set (Tr.full none 64) 0 (some (Ob.cells tab 0 .ro))).get none o = some x := h
  rw [Tr.get_set] at h
  split at h
  · split at h
    · exact ⟨‹_›, (Option.some.inj h).symm⟩
    · cases h
  · rw [Tr.get_full] at h; cases h
theorem tab_flat : tab.all flat = true := by kernel_rfl
theorem tab_one : tab.all one = true := by kernel_rfl
theorem start_RH {W : World} (ht : ∀ j x, tab[j]? = some x → W.cell? ⟨0, j, none⟩ = some x) : RH Tryd.prog iota0 h0 W := by
  have h00 := ht 0 _ rfl
  have hblk : ∃ c e fr, W.heap[0]? = some (.cells c e fr) := by
    cases hb : W.heap[0]? with
    | none => simp [World.cell?, hb] at h00
    | some y =>
      cases y with
      | cells c e fr => exact ⟨c, e, fr, rfl⟩
      | _ => simp [World.cell?, hb] at h00
  obtain ⟨c, e, fr, hb⟩ := hblk
  refine ⟨fun o x ho => ?_, fun o q x y vo vq _ ho hx => ?_, fun o ho => if_neg (by have : 1 ≤ o := ho; omega), fun g hg => ?_, by rw [gsz]; exact Nat.le_refl _⟩
  · obtain ⟨rfl, rfl⟩ := h0_get o x ho
    refine ⟨Nat.zero_lt_one, ⟨0, 0, 0, 0⟩, rfl, tab_one, c, e, fr, hb, fun j x hx => ?_, fun h => absurd rfl h, fun h => by cases h⟩
    have := ht j x hx
    refine ⟨x, ?_, .flat (all_get tab_flat hx)⟩
    simpa [World.cell?, hb] using this
  · obtain ⟨rfl, rfl⟩ := h0_get o x ho
    cases hx
  · rw [gsz] at hg
    obtain rfl : g = 0 := by omega
    exact ⟨0, 0, rfl⟩

/-- 'works' is true, wherever the table stands. -/
theorem works_calls {h : Hp} (hh : h.get 0 = some (.cells tab 0 .ro)) {iota : Inj} {w : World} (R : RH Tryd.prog iota h w) : Calls Tryd.prog 27 #[] w fun e w' => e = .returned (.bool true) ∧ Went Tryd.prog h iota w h iota w' := by
  have hev := works_ev
  cases hr : evCall Tryd.prog 1000 100 27 [] h0 with
  | none => rw [hr] at hev; cases hev
  | some r =>
    obtain ⟨v, h1⟩ := r
    rw [hr] at hev
    obtain rfl : v = .bool true := by
      cases v with
      | bool b => have : b = true := hev; rw [this]
      | _ => cases hev
    exact closed_call mixed noNum (fn := Tryd.f27) Tryd.func27 (by kernel_rfl) hr rfl rfl (fun o x ho => ⟨tab, 0, (h0_get o x ho).2, tab_flat⟩) (fun o x ho => by
      obtain ⟨rfl, rfl⟩ := h0_get o x ho
      exact ⟨hh, Nat.zero_lt_one⟩) (by rw [gsz]; exact Nat.le_refl _) R

def isTab : List Value → List Value → Bool
  | [], [] => true
  | .int .u8 a :: l, .int .u8 b :: r => eqI a b && isTab l r
  | _, _ => false
theorem isTab_eq : ∀ (l r : List Value), isTab l r = true → l = r := by
  intro l
  induction l with
  | nil => intro r h; cases r with
    | nil => rfl
    | cons => simp [isTab] at h
  | cons a l ih =>
    intro r h
    unfold isTab at h
    split at h
    · rename_i h2; cases h2
    · rename_i x l2 y r2 h2
      injection h2 with e1 e2
      subst e1 e2
      rw [Bool.and_eq_true, eqI_eq] at h
      rw [ih _ h.2, (by simpa using h.1 : x = y)]
    · cases h
/-- The calls, 'works' said beforehand. -/
noncomputable def wcf : CallF := fun f args h => bif Nat.beq f 27 then (match args, h.get 0 with
  | [], some (.cells l 0 .ro) => bif isTab l tab then some (.bool true, h) else none
  | _, _ => none) else evCall Tryd.prog 1000 100 f args h
set_option maxRecDepth 100000 in
theorem wcf_ok : COk Tryd.prog wcf := by
  intro f args h v h' hs iota w args' R ha o a next Q hn
  unfold wcf at hs
  cases hf : Nat.beq f 27 with
  | false => rw [hf, cond_false] at hs; exact evCall_sound mixed noNum 1000 100 f args h v h' hs iota w args' R ha o a next Q hn
  | true =>
    obtain rfl : f = 27 := Nat.eq_of_beq_eq_true hf
    rw [hf, cond_true] at hs
    split at hs
    · rename_i l hg
      obtain ⟨ht, h2⟩ := cond_some hs
      injection h2 with h2
      injection h2 with e1 e2
      subst e1 e2
      obtain rfl := isTab_eq _ _ ht
      obtain rfl := List.length_eq_zero_iff.1 ha.1
      rw [run_callFunc noNum Tryd.func27 (by kernel_rfl) ([] : List Value).toArray w]
      refine (works_calls hg R).mono fun e w' ⟨he, g⟩ => ?_
      subst he
      exact hn iota _ w' g (.flat rfl)
    · cases hs


set_option maxRecDepth 100000 in
theorem last : saysTrue (((ev Tryd.prog wcf 1000 c5 (mkSt 601 v5)).bind fun r => match r.1 with
  | .ret => (resultsOf Tryd.prog Tryd.f9 r.2).map fun v => (v, r.2.h)
  | _ => none)) = true := by kernel_rfl

set_option maxRecDepth 100000 in
theorem known_calls {W : World} (ht : ∀ j x, tab[j]? = some x → W.cell? ⟨0, j, none⟩ = some x) : Calls Tryd.prog 9 #[] W fun e w' => e = .returned (.bool true) ∧ Fr' h0 iota0 W w' := by
  have R := start_RH ht
  have hbd : Tryd.f9.body = some body := by kernel_rfl
  have G := reg_ok mixed (evCall_sound mixed noNum 1000 100)
  have GW := reg_ok mixed wcf_ok
  have hgd : h0.gd = [] := rfl
  have hR := frame_RT (ι := iota0) (args := []) (args' := []) (.nil _) 601 h0
  have f0 : Fits Tryd.prog h0 iota0 W (mkSt 601 v0) { tmps := ([] : List Value).toArray ++ Array.replicate (601 - ([] : List Value).toArray.size) undef, defers := [] } W := ⟨iota0, .refl R, hR, rfl⟩
  refine calls_of_wp (fn := Tryd.f9) Tryd.func9 hbd ?_
  have hn : Tryd.f9.ntmps = 601 := by kernel_rfl
  rw [hn]
  refine piece_sound G p0 hgd R f0 fun a1 w1 f1 => ?_
  refine piece_sound G p1 hgd R f1 fun a2 w2 f2 => ?_
  refine piece_sound G p2 hgd R f2 fun a3 w3 f3 => ?_
  refine piece_sound G p3 hgd R f3 fun a4 w4 f4 => ?_
  refine piece_sound G p4 hgd R f4 fun a5 w5 f5 => ?_
  obtain ⟨iota, g, hr, hd⟩ := f5
  have hl := last
  cases he : ev Tryd.prog wcf 1000 c5 (mkSt 601 v5) with
  | none => rw [he] at hl; cases hl
  | some r =>
    rw [he] at hl
    refine ev_sound GW 1000 c5 he hr g.rh hd _ fun iota' a' w' g1 g2 g3 g4 => ?_
    obtain ⟨e, s⟩ := r
    cases e with
    | ret =>
      simp only [Option.bind_some] at hl
      cases hv : resultsOf Tryd.prog Tryd.f9 s with
      | none => rw [hv] at hl; cases hl
      | some v =>
        rw [hv] at hl
        obtain rfl : v = .bool true := by
          cases v with
          | bool b => have : b = true := hl; rw [this]
          | _ => cases hl
        obtain ⟨v', k1, k2⟩ := results_sound g2 g1.rh hv
        obtain rfl := k2.bool_iff
        exact ⟨g4, _, k1, rfl, (g.trans g1).fr⟩
    | normal => cases hl
    | exit id => cases hl
end Go.Proofs.YtfgfhplgnfbaaaaDoor
