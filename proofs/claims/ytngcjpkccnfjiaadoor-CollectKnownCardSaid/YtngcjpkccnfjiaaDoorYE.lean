/- 'works' is answered beforehand. -/
import Derived.Test.YtngcjpkccnfjiaaDoorYD
import Derived.Test.YtngcjpkccnfjiaaDoorYC
namespace Go.Proofs.YtngcjpkccnfjiaaDoor
open Go Go.Ev
theorem h0_get (o : Nat) (x : Ob) (h : h0.get o = some x) : o = 0 ∧ x = .cells tab 0 .ro := by
  have h : (Tr.set (Tr.full none 22) 0 (some (Ob.cells tab 0 .ro))).get none o = some x := h
  rw [Tr.get_set] at h
  split at h
  · split at h
    · exact ⟨‹_›, (Option.some.inj h).symm⟩
    · cases h
  · rw [Tr.get_full] at h; cases h
theorem tab_flat : tab.all flat = true := by kernel_rfl
theorem tab_one : tab.all one = true := by kernel_rfl
/-- 'works' is true, wherever the table stands. -/
theorem works_calls {h : Hp} (_ : 1 < h.nx) (hh : h.get 0 = some (.cells tab 0 .ro)) {iota : Inj} {w : World} (R : RH Tryd.prog iota h w) : Calls Tryd.prog 24 #[] w fun e w' => e = .returned (.bool true) ∧ Went Tryd.prog h iota w h iota w' := by
  have hev := works_ev
  cases hr : evCall Tryd.prog 1000 100 24 [] h0 with
  | none => rw [hr] at hev; cases hev
  | some r =>
    obtain ⟨v, h1⟩ := r
    rw [hr] at hev
    obtain rfl : v = .bool true := by
      cases v with
      | bool b => have : b = true := hev; rw [this]
      | _ => cases hev
    exact closed_call mixed noNum (fn := Tryd.f24) (by decide) Tryd.func24 (by kernel_rfl) hr rfl rfl (fun o x ho => ⟨tab, 0, (h0_get o x ho).2, tab_flat⟩) (fun o x ho => by
      obtain ⟨rfl, rfl⟩ := h0_get o x ho
      exact ⟨hh, (by decide : 0 < 2)⟩) (by rw [gsz]; exact Nat.le_refl _) R
def isTab : List Value → List Value → Bool
  | [], [] => true
  | .int .i64 a :: l, .int .i64 b :: r => eqI a b && isTab l r
  | _, _ => false
theorem isTab_eq : ∀ (l r : List Value), isTab l r = true → l = r := by
  intro l
  induction l with
  | nil => intro r h; cases r with
    | nil => rfl
    | cons => simp [isTab] at h
  | cons a l ih =>
    intro r h
    unfold isTab at h
    split at h
    · rename_i h2; cases h2
    · rename_i x l2 y r2 h2
      injection h2 with e1 e2
      subst e1 e2
      rw [Bool.and_eq_true, eqI_eq] at h
      rw [ih _ h.2, (by simpa using h.1 : x = y)]
    · cases h
/-- The one call that is answered beforehand. -/
noncomputable def Ow : CallF := fun f args h => bif Nat.beq f 24 then (match args, h.get 0 with
  | [], some (.cells l 0 .ro) => bif Nat.blt 1 h.nx && isTab l tab then some (.bool true, h) else none
  | _, _ => none) else none
set_option maxRecDepth 100000 in
theorem Ow_ok : COk Tryd.prog Ow := by
  intro f args h v h' hs iota w args' R ha rd o a next Q hn
  unfold Ow at hs
  cases hf : Nat.beq f 24 with
  | false => rw [hf, cond_false] at hs; cases hs
  | true =>
    obtain rfl : f = 24 := Nat.eq_of_beq_eq_true hf
    rw [hf, cond_true] at hs
    split at hs
    · rename_i l hg
      obtain ⟨ht, h2⟩ := cond_some hs
      rw [Bool.and_eq_true] at ht
      injection h2 with h2
      injection h2 with e1 e2
      subst e1 e2
      obtain rfl := isTab_eq _ _ ht.2
      obtain rfl := List.length_eq_zero_iff.1 ha.1
      rw [run_callFunc noNum Tryd.func24 (by kernel_rfl) ([] : List Value).toArray w]
      refine ⟨fun _ => ⟨fun h => (by cases h), calls_rd ((works_calls (by simpa using ht.1) hg R).mono fun e w' ⟨he, g⟩ => ?_)⟩, fun l hl => ?_⟩
      · subst he
        exact hn iota _ w' g (.flat rfl)
      · exact absurd hl (Nat.ne_of_lt (Nat.lt_of_lt_of_le (by decide : 24 < yB) (Nat.le_add_right yB l)))
    · cases hs
theorem Ow_oth (f : FuncId) (args : List Value) (h : Hp) (hf : f ≠ 24) : Ow f args h = none := by
  unfold Ow
  have : Nat.beq f 24 = false := by rw [Bool.eq_false_iff]; intro hh; exact hf (Nat.eq_of_beq_eq_true hh)
  rw [this]; rfl
end Go.Proofs.YtngcjpkccnfjiaaDoor
