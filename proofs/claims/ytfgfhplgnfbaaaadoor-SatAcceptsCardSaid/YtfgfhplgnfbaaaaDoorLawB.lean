/- SatForms of layer 20 returns true, for every input: its law, by the contracts of what it calls. -/
import Derived.Test.YtfgfhplgnfbaaaaDoorFnB
import Derived.Test.YtfgfhplgnfbaaaaDoorLawA
import Derived.Test.YtfgfhplgnfbaaaaDoorVcC
namespace Go.Proofs.YtfgfhplgnfbaaaaDoor
open Go Go.Ev

theorem works_true {h : Hp} (ht : Tb h) : EvT Ow 27 [] h (.bool true) h := Ow_works ht.1 ht.2
theorem greatB_not {cls : List (List Int)} (h : greatB cls = false) : cls.length ≤ 150 ∧ ∀ l ∈ cls, l.length ≤ 40 := by
  unfold greatB at h
  rw [Bool.or_eq_false_iff] at h
  refine ⟨by have := of_decide_eq_false h.1; omega, fun l hl => ?_⟩
  have := List.any_eq_false.1 h.2 l hl
  have : ¬ 40 < l.length := fun hh => this (decide_eq_true hh)
  omega
theorem law4 {a a1 : Option Addr} {n c n1 c1 : Nat} {vars : Int} {h : Hp} {cls : List (List Int)} {ms : List Bool} (ok : h.Ok) (ht : Tb h) (H : IntssAt h a n cls) (M : BoolsAt h a1 n1 ms) :
    Ret Tryd.prog Ow 4 [Fm vars a n c, .slice a1 n1 c1] h fun r _ => r = .bool true := by
  have hO : Oth Ow := Ow_oth
  refine rk4 _ _ _ _ _ _ _ (hO _ _ _ (by decide)) ?_
  unfold T4
  have kp := fm_kp h vars a n c
  have g := fm_get h vars a n c
  have hn1 := M.1
  obtain ⟨v1, h1, e1, rfl, K1⟩ := ct28 hO (c := c) (vars := vars) (a1 := none) (n1 := 0) (c1 := 0) (H.up EInts.up kp)
  have k1 : Kp h.nx h h1 := kp.trans (K1.le kp.nx)
  have n1x : h.nx < h1.nx := by have := K1.nx; rw [nx_add] at this; omega
  have gF : ∀ {x : Hp}, Kp h1.nx h1 x → x.get h.nx = some (.cells [.int .i64 vars, .slice a n c] 30 .fix) := fun k => by rw [k.get _ n1x, K1.get _ (by rw [nx_add]; omega)]; exact g
  have tb : ∀ {x : Hp}, Kp h1.nx h1 x → Tb x := fun k => (ht.kp k1 ht.1).kp k (Nat.lt_of_lt_of_le ht.1 k1.nx)
  have okF : ∀ {x : Hp}, Kp h1.nx h1 x → x.Ok := fun k => (ok.kp k1).kp k
  have HF : ∀ {x : Hp}, Kp h1.nx h1 x → IntssAt x a n cls := fun k => H.up EInts.up (k1.trans (k.le k1.nx))
  have MF : ∀ {x : Hp}, Kp h1.nx h1 x → BoolsAt x a1 n1 ms := fun k => M.up EBool.up (k1.trans (k.le k1.nx))
  have z1 : Kp h1.nx h1 h1 := .refl _ _
  refine ⟨_, _, _, _, readAt_get g (by simp), _, _, e1, vcond_split (fun _ => ⟨_, _, works_true (tb z1), rfl⟩) fun hg => vcond_split (fun _ => ⟨_, _, works_true (tb z1), rfl⟩) fun _ => ?_⟩
  have hg : greatB cls = false := by rw [Bool.or_eq_false_iff] at hg; exact hg.1
  obtain ⟨hl0, hll0⟩ := greatB_not hg
  have hl : cls.length < 1000000 := by omega
  have hll : ∀ l ∈ cls, l.length < 1000000 := fun l h => by have := hll0 l h; omega
  obtain ⟨v2, h2, e2, rfl, K2⟩ := ct29 hO (c := c) (c1 := c1) (vars := vars) (okF z1) (HF z1) (MF z1) hl hll
  have k2 : Kp h1.nx h1 h2 := K2
  refine ⟨_, _, _, _, readAt_get (gF z1) (by simp), _, _, _, e2, ?_⟩
  obtain ⟨v3, h3, e3, rfl, K3⟩ := ct30 hO (c := c) (c1 := c1) (vars := vars) (okF k2) (HF k2) (MF k2) hl hll
  have k3 : Kp h1.nx h1 h3 := k2.trans (K3.le k2.nx)
  refine ⟨_, _, _, _, readAt_get (gF k2) (by simp), _, _, _, e3, ?_⟩
  rw [holds_same hO]
  have k4 : Kp h1.nx h1 (h3.rsv 15) := k3.rsv 15
  refine vcond_f (by cases (holdsR vars cls ms).1 <;> rfl) (vcond_f (by rw [eqI_t rfl]; rfl) ?_)
  refine ⟨_, _, _, _, readAt_get (gF k4) (by simp), _, _, _, _, readAt_get (gF k4) (by simp), ?_⟩
  obtain ⟨v4, h4, e4, rfl, K4⟩ := ct31 hO (c := c) (vars := vars) (IntssAt.grd (g := [h.nx]) (HF k4)) hl hll
  have k5 : Kp h1.nx h1 (h4.rst (h3.rsv 15)) := k4.rst (g := [h.nx]) (K4.le k4.nx)
  refine ⟨_, _, e4, ?_⟩
  obtain ⟨v5, h5, e5, rfl, K5⟩ := ct32 hO (c := c) (vars := vars) (IntssAt.grd (g := []) (HF k5)) hl hll
  have k6 : Kp h1.nx h1 (h5.rst (h4.rst (h3.rsv 15))) := k5.rst (g := []) (K5.le k5.nx)
  refine ⟨_, _, e5, vcond_f (by rw [eqI_t rfl]; rfl) ?_⟩
  refine ⟨_, _, _, _, readAt_get (gF k6) (by simp), ?_⟩
  obtain ⟨v6, h6, e6, rfl, K6⟩ := ct22 hO (c := c) (vars := vars) (okF k6) (HF k6) hl hll
  have k7 : Kp h1.nx h1 h6 := k6.trans (K6.le k6.nx)
  refine ⟨_, _, _, e6, _, _, _, _, readAt_get (gF k7) (by simp), ?_⟩
  obtain ⟨v7, h7, e7, rfl, K7⟩ := ct33 hO (c := c) (vars := vars) (okF k7) (HF k7) hl hll
  have k8 : Kp h1.nx h1 h7 := k7.trans (K7.le k7.nx)
  refine ⟨_, _, _, e7, ?_⟩
  rw [count_same hO]
  exact vcond_t (eqI_t rfl) (vcond_t (eqI_t rfl) ⟨_, _, works_true (tb k8), rfl⟩)

/-! ### arguments -/
theorem cellsBool : Tryd.prog.cellsOf 4 = 1 := by kernel_rfl
theorem cells32 : Tryd.prog.cellsOf 32 = 1 := by kernel_rfl
theorem cells28 : Tryd.prog.cellsOf 28 = 1 := by kernel_rfl
theorem cells30 : Tryd.prog.cellsOf 30 = 2 := by kernel_rfl
theorem agg40 : aggT Tryd.prog 40 ≠ some true := by unfold aggT; rw [Tryd.underlying40]; simp
theorem agg32 : aggT Tryd.prog 32 ≠ some true := by unfold aggT; rw [Tryd.underlying32]; simp
theorem agg28 : aggT Tryd.prog 28 ≠ some true := by unfold aggT; rw [Tryd.underlying28]; simp
theorem agg3 : aggT Tryd.prog 3 ≠ some true := by unfold aggT; rw [Tryd.underlying3]; simp
section
variable {H : Type} {enc : TypeId × Value → H} {W : World}
theorem build0 (t : TypeId) : Builds H enc Tryd.prog W 0 t := fun cs d ps h => by simp [DataW.trod] at h
theorem bld3 : ∀ n, Builds H enc Tryd.prog W n 3
  | 0 => build0 3
  | _ + 1 => build_int Tryd.underlying3
theorem bld4 : ∀ n, Builds H enc Tryd.prog W n 4
  | 0 => build0 4
  | _ + 1 => build_bool Tryd.underlying4
theorem bld32 : ∀ n, Builds H enc Tryd.prog W n 32
  | 0 => build0 32
  | n + 1 => build_slice (bld3 n) (by rw [cellsInt]; decide) Tryd.underlying32
theorem bld28 : ∀ n, Builds H enc Tryd.prog W n 28
  | 0 => build0 28
  | n + 1 => build_slice (bld32 n) (by rw [cells32]; decide) Tryd.underlying28
theorem bld40 : ∀ n, Builds H enc Tryd.prog W n 40
  | 0 => build0 40
  | n + 1 => build_slice (bld4 n) (by rw [cellsBool]; decide) Tryd.underlying40
theorem bld30 : ∀ n, Builds H enc Tryd.prog W n 30
  | 0 => build0 30
  | n + 1 => build_struct (fun f hf => by
      simp at hf
      rcases hf with rfl | rfl
      · exact bld3 n
      · exact bld28 n) (by kernel_rfl) Tryd.underlying30
set_option maxRecDepth 100000 in
/-- A formula in memory. -/
theorem form_of {h : Hp} {n : Nat} {v : Value} {d : DataW H} (D : DE Tryd.prog h n 30 v.cells.toList d) : ∃ vars a m c cls, v = Fm vars a m c ∧ IntssAt h a m cls := by
  cases n with
  | zero => exact D.elim
  | succ n =>
    obtain ⟨h1, h2⟩ := DE_struct Tryd.underlying30 D
    obtain ⟨d1, D1⟩ := h2 0 _ rfl
    obtain ⟨d2, D2⟩ := h2 1 _ rfl
    have D1 : DE Tryd.prog h n 3 ((v.cells.toList.drop 0).take (Tryd.prog.cellsOf 3)) d1 := D1
    have D2 : DE Tryd.prog h n 28 ((v.cells.toList.drop 1).take (Tryd.prog.cellsOf 28)) d2 := D2
    rw [cellsInt] at D1
    rw [cells28] at D2
    obtain ⟨x, z1, _⟩ := DE_int Tryd.underlying3 D1
    obtain ⟨a, m, c, cls, z2, A, _⟩ := DE_intss Tryd.underlying28 Tryd.underlying32 Tryd.underlying3 cellsInt cells32 D2
    exact ⟨x, a, m, c, cls, agg_of_two (two_of (h1.trans cells30) z1 z2), A⟩
end
end Go.Proofs.YtfgfhplgnfbaaaaDoor
