/- Each operation that asks nothing of memory, three. -/
import Derived.Test.YtfgfhplgnfbaaaaDoorEvPure3
namespace Go.Ev
open Go

/-! ### what is put together -/
theorem VRs.set {ι : Inj} {a b : Array Value} (h : VRs ι a.toList b.toList) (i : Nat) {x y : Value} (hv : VR ι x y) : VRs ι (a.setIfInBounds i x).toList (b.setIfInBounds i y).toList := by
  rw [Array.toList_setIfInBounds, Array.toList_setIfInBounds]
  refine ⟨by simp [h.1], fun j u v hu hv' => ?_⟩
  rw [List.getElem?_set] at hu hv'
  by_cases e : i = j
  · subst e
    simp only [if_true] at hu hv'
    split at hu
    · rename_i hl
      rw [if_pos (by rw [h.1]; exact hl)] at hv'
      obtain rfl := Option.some.inj hu
      obtain rfl := Option.some.inj hv'
      exact hv
    · cases hu
  · rw [if_neg e] at hu hv'
    exact h.2 j u v hu hv'
theorem fold_rel {ι : Inj} (off : Nat) : ∀ (l l' : List Value) (k : Nat) (a b : Array Value), VRs ι l l' → VRs ι a.toList b.toList →
    VRs ι ((l.zipIdx k).foldl (fun (cs : Array Value) (p : Value × Nat) => cs.setIfInBounds (off + p.2) p.1) a).toList ((l'.zipIdx k).foldl (fun (cs : Array Value) (p : Value × Nat) => cs.setIfInBounds (off + p.2) p.1) b).toList := by
  intro l
  induction l with
  | nil => intro l' k a b hl h; rw [hl.of_nil]; exact h
  | cons x l ih =>
    intro l' k a b hl h
    obtain ⟨y, l', rfl, h1, h2⟩ := hl.head
    simp only [List.zipIdx_cons, List.foldl_cons]
    exact ih l' (k + 1) _ _ h2 (h.set _ h1)
theorem fold_size (off : Nat) : ∀ (l : List (Value × Nat)) (a : Array Value), (l.foldl (fun (cs : Array Value) (p : Value × Nat) => cs.setIfInBounds (off + p.2) p.1) a).size = a.size := by
  intro l
  induction l with
  | nil => intro a; rfl
  | cons x l ih => intro a; simp only [List.foldl_cons]; rw [ih]; simp
/-- Numbered values. -/
def PRs (ι : Inj) (a b : List (Nat × Value)) : Prop := b.map (·.1) = a.map (·.1) ∧ VRs ι (a.map (·.2)) (b.map (·.2))
theorem PRs.head {ι : Inj} {p : Nat × Value} {a b : List (Nat × Value)} (h : PRs ι (p :: a) b) : ∃ y c, b = (p.1, y) :: c ∧ VR ι p.2 y ∧ PRs ι a c := by
  obtain ⟨h1, h2⟩ := h
  cases b with
  | nil => simp at h1
  | cons q c =>
    simp only [List.map_cons, List.cons.injEq] at h1
    obtain ⟨y, c', he, hv, ht⟩ := h2.head
    simp only [List.map_cons, List.cons.injEq] at he
    obtain ⟨rfl, rfl⟩ := he
    exact ⟨q.2, c, by rw [← h1.1], hv, h1.2, ht⟩
theorem VRs.size {ι : Inj} {a b : Array Value} (h : VRs ι a.toList b.toList) : b.size = a.size := by simpa using h.1
theorem fill_rel {ι : Inj} (place place' : Nat → Option (Nat × Nat)) (hp : ∀ i, place' i = place i) : ∀ (ps ps' : List (Nat × Value)) (c c' : Array Value) (r : Array Value), PRs ι ps ps' → VRs ι c.toList c'.toList → Instr.fill place c ps = some r →
    ∃ r', Instr.fill place' c' ps' = some r' ∧ VRs ι r.toList r'.toList := by
  intro ps
  induction ps with
  | nil =>
    intro ps' c c' r h hc hf
    obtain ⟨h1, h2⟩ := h
    have : ps' = [] := by simpa using h1
    subst this
    obtain rfl := Option.some.inj hf
    exact ⟨c', rfl, hc⟩
  | cons p ps ih =>
    intro ps' c c' r h hc hf
    obtain ⟨y, ps', rfl, hv, ht⟩ := h.head
    obtain ⟨i, v⟩ := p
    unfold Instr.fill at hf ⊢
    simp only [hp]
    cases hpl : place i with
    | none => rw [hpl] at hf; cases hf
    | some q =>
      obtain ⟨off, size⟩ := q
      rw [hpl] at hf
      simp only at hf ⊢
      have hs : y.cells.size = v.cells.size := hv.cells.size
      rw [hs, hc.size]
      split at hf
      · cases hf
      · rename_i hc0
        rw [if_neg hc0]
        refine ih ps' _ _ r ht ?_ hf
        have e : ∀ (q c : Array Value), q.zipIdx.foldl (fun (cs : Array Value) (p : Value × Nat) => cs.setIfInBounds (off + p.2) p.1) c = q.toList.zipIdx.foldl (fun (cs : Array Value) (p : Value × Nat) => cs.setIfInBounds (off + p.2) p.1) c := by
          intro q c
          rw [← Array.foldl_toList, Array.toList_zipIdx]
        show VRs ι (v.cells.zipIdx.foldl (fun (cs : Array Value) (p : Value × Nat) => cs.setIfInBounds (off + p.2) p.1) c).toList (y.cells.zipIdx.foldl (fun (cs : Array Value) (p : Value × Nat) => cs.setIfInBounds (off + p.2) p.1) c').toList
        rw [e, e]
        exact fold_rel off v.cells.toList y.cells.toList 0 c c' hv.cells hc

theorem run_eqGuard {P : Program} {op : BinOp} {t : TypeId} {x y : Operand} {a b : Value} (h1 : a ≠ .nilIface) (h2 : ∀ c, a ≠ .agg c) (w : World) : (eqGuard op t x y a b).run P w = .ok () w := by
  unfold eqGuard
  cases a <;> first
    | exact absurd rfl h1
    | exact absurd rfl (h2 _)
    | (cases op <;> rfl)
theorem elemT_some {P : Program} {t e : TypeId} (h : elemT P t = some e) : P.underlying t = some (.slice e) := by
  unfold elemT at h
  split at h
  · rename_i e' hu; rw [hu, Option.some.inj h]
  · cases h
theorem ptrT_some {P : Program} {t e : TypeId} (h : ptrT P t = some e) : P.underlying t = some (.pointer e) := by
  unfold ptrT at h
  split at h
  · rename_i e' hu; rw [hu, Option.some.inj h]
  · cases h
theorem run_equalIn_slice_none {P : Program} {t e : TypeId} (hu : P.underlying t = some (.slice e)) (d : Nat) (q : Addr) (l c l' c' : Nat) (w : World) : (Op.equalIn (d + 1) t (.slice (some q) l c) (.slice none l' c')).run P w = .ok false w := by
  simp [Op.equalIn, run_underlying hu]
theorem run_equalIn_ptr_none {P : Program} {t e : TypeId} (hu : P.underlying t = some (.pointer e)) (d : Nat) (q : Addr) (w : World) : (Op.equalIn (d + 1) t (.pointer (some q)) (.pointer none)).run P w = .ok false w := by
  simp [Op.equalIn, run_underlying hu]

theorem run_places {P : Program} {fs : Array Field} {pl : List (Nat × Nat)} (h : mapO (fun (f : Field) => (sz P f.type).map fun n => (f.offset, n)) fs.toList = some pl) (w : World) :
    (fs.mapM fun f => do pure (f.offset, ← sizeOf f.type) : Sem (Array (Nat × Nat))).run P w = .ok pl.toArray w := by
  rw [Array.mapM_eq_mapM_toList, Sem.run_map]
  have k : ∀ (l : List Field) (pl : List (Nat × Nat)), mapO (fun (f : Field) => (sz P f.type).map fun n => (f.offset, n)) l = some pl → (l.mapM fun f => (do pure (f.offset, ← sizeOf f.type) : Sem (Nat × Nat))).run P w = .ok pl w := by
    intro l
    induction l with
    | nil => intro pl h; obtain rfl := Option.some.inj h; rfl
    | cons f l ih =>
      intro pl h
      rw [mapO_cons] at h
      obtain ⟨b, hb, h1⟩ := Option.bind_eq_some_iff.1 h
      obtain ⟨r, hr, rfl⟩ := Option.map_eq_some_iff.1 h1
      obtain ⟨n, hn, rfl⟩ := Option.map_eq_some_iff.1 hb
      rw [List.mapM_cons]
      simp only [Sem.run_bind, run_size hn, Result.andThen_ok, Sem.run_pure, ih r hr]
  rw [k _ _ h]
  rfl

section
variable {P : Program} {ι : Inj} {t : Fr} {n : Nat} {a : Act} (hg : GR P ι) (hr : RT ι t n a)
include hg hr

omit hg hr in
theorem binF_flat {op : BinOp} {k : IntKind} {x y : Int} {r : Value} (h : binF op k x y = some r) : flat r = true := by
  unfold binF at h
  have hz : ∀ {b : Bool} {v : Value}, flat v = true → (bif b then none else some v) = some r → flat r = true := by
    intro b v hv h
    cases b
    · obtain rfl := Option.some.inj h; exact hv
    · cases h
  split at h <;> first
    | (obtain rfl := Option.some.inj h; rfl)
    | exact hz rfl h
    | (obtain ⟨_, _, _, _, _, _, _, _, rfl⟩ := bitsF_some h; rfl)
    | cases h

theorem pure_binOp {dst ty pos af gu op xt x y yt v} (h : stepPure P t ⟨dst, .binOp op xt x y yt, ty, pos, af, gu⟩ = some v) : PureOk P ι a ⟨dst, .binOp op xt x y yt, ty, pos, af, gu⟩ v := by
  simp only [stepPure] at h
  obtain ⟨xv, hx, h1⟩ := Option.bind_eq_some_iff.1 h
  obtain ⟨yv, hy, h2⟩ := Option.bind_eq_some_iff.1 h1
  clear h h1
  have hxv := opv_sound hg hr hx
  have hyv := opv_sound hg hr hy
  have fl : flatRun P t ⟨dst, .binOp op xt x y yt, ty, pos, af, gu⟩ = some v → PureOk P ι a ⟨dst, .binOp op xt x y yt, ty, pos, af, gu⟩ v := .of_flat hg hr (fun _ _ hh => by cases hh)
  generalize flatRun P t ⟨dst, .binOp op xt x y yt, ty, pos, af, gu⟩ = fb at h2 fl
  clear hx hy
  generalize hex : a.eval x = ex at hxv
  generalize hey : a.eval y = ey at hyv
  unfold binV at h2
  split at h2
  · rename_i k p k' q
    cases hk : kindB k k' with
    | false => rw [hk] at h2; exact fl h2
    | true =>
      rw [hk] at h2
      simp only [cond_true] at h2
      split at h2
      · rename_i r hb
        obtain rfl := Option.some.inj h2
        obtain rfl := kindB_eq hk
        refine ⟨r, .flat (binF_flat hb), fun w => ?_⟩
        simp only [execOp]
        refine run_value ?_
        rw [hex, hey, hxv.int_iff, hyv.int_iff, Sem.run_bind, run_eqGuard (by simp) (by simp) w]
        exact binF_sound hb w
      · exact fl h2
  · obtain ⟨e, he, h3⟩ := Option.bind_eq_some_iff.1 h2
    have hu := elemT_some he
    obtain ⟨q', l1, c1, rfl⟩ : ∃ q' l1 c1, ex = .slice (some q') l1 c1 := by cases hxv <;> exact ⟨_, _, _, rfl⟩
    obtain ⟨l2, c2, rfl⟩ : ∃ l2 c2, ey = .slice none l2 c2 := by cases hyv; exact ⟨_, _, rfl⟩
    unfold nilV at h3
    split at h3
    · obtain rfl := Option.some.inj h3
      refine ⟨_, .flat rfl, fun w => ?_⟩
      simp only [execOp]
      refine run_value ?_
      rw [hex, hey, Sem.run_bind, run_eqGuard (by simp) (by simp) w]
      simp only [Result.andThen_ok, binOp, Op.equal, Op.maxDepth, Sem.run_bind, run_equalIn_slice_none hu 9999]
      rfl
    · obtain rfl := Option.some.inj h3
      refine ⟨_, .flat rfl, fun w => ?_⟩
      simp only [execOp]
      refine run_value ?_
      rw [hex, hey, Sem.run_bind, run_eqGuard (by simp) (by simp) w]
      simp only [Result.andThen_ok, binOp, Op.equal, Op.maxDepth, Sem.run_bind, run_equalIn_slice_none hu 9999]
      rfl
    · cases h3
  · obtain ⟨e, he, h3⟩ := Option.bind_eq_some_iff.1 h2
    have hu := ptrT_some he
    obtain ⟨q', rfl⟩ : ∃ q', ex = .pointer (some q') := by cases hxv <;> exact ⟨_, rfl⟩
    obtain rfl : ey = .pointer none := by cases hyv; rfl
    unfold nilV at h3
    split at h3
    · obtain rfl := Option.some.inj h3
      refine ⟨_, .flat rfl, fun w => ?_⟩
      simp only [execOp]
      refine run_value ?_
      rw [hex, hey, Sem.run_bind, run_eqGuard (by simp) (by simp) w]
      simp only [Result.andThen_ok, binOp, Op.equal, Op.maxDepth, Sem.run_bind, run_equalIn_ptr_none hu 9999]
      rfl
    · obtain rfl := Option.some.inj h3
      refine ⟨_, .flat rfl, fun w => ?_⟩
      simp only [execOp]
      refine run_value ?_
      rw [hex, hey, Sem.run_bind, run_eqGuard (by simp) (by simp) w]
      simp only [Result.andThen_ok, binOp, Op.equal, Op.maxDepth, Sem.run_bind, run_equalIn_ptr_none hu 9999]
      rfl
    · cases h3
  · exact fl h2

theorem parts_sound {ps : Array (Nat × Operand)} {vs : List (Nat × Value)} (h : mapO (fun (p : Nat × Operand) => (opv P t p.2).map fun v => (p.1, v)) ps.toList = some vs) :
    PRs ι vs (ps.map fun (i, x) => (i, a.eval x)).toList := by
  obtain ⟨h1, h2⟩ := mapO_some h
  have hat : ∀ (i : Nat) p, ps.toList[i]? = some p → ∃ v, vs[i]? = some (p.1, v) ∧ opv P t p.2 = some v := by
    intro i p hp
    obtain ⟨b, hb, hv⟩ := h2 i p hp
    obtain ⟨v, hv1, rfl⟩ := Option.map_eq_some_iff.1 hv
    exact ⟨v, hb, hv1⟩
  rw [Array.toList_map]
  refine ⟨?_, by simp [h1], fun i x y hx hy => ?_⟩
  · refine List.ext_getElem? fun i => ?_
    simp only [List.map_map, List.getElem?_map]
    cases hp : ps.toList[i]? with
    | none =>
      have : vs[i]? = none := by rw [List.getElem?_eq_none_iff] at hp ⊢; omega
      rw [this]; rfl
    | some p =>
      obtain ⟨v, hv, _⟩ := hat i p hp
      rw [hv]; rfl
  · simp only [List.map_map, List.getElem?_map] at hx hy
    obtain ⟨p, hp, rfl⟩ := Option.map_eq_some_iff.1 hy
    obtain ⟨v, hv, ho⟩ := hat i p hp
    rw [hv] at hx
    obtain rfl := Option.some.inj hx
    exact opv_sound hg hr ho

theorem pure_build {dst ty pos af gu s ps v} (h : stepPure P t ⟨dst, .build s ps, ty, pos, af, gu⟩ = some v) : PureOk P ι a ⟨dst, .build s ps, ty, pos, af, gu⟩ v := by
  simp only [stepPure] at h
  obtain ⟨z, hz, h⟩ := Option.bind_eq_some_iff.1 h
  obtain ⟨info, hi, hz⟩ := Option.bind_eq_some_iff.1 hz
  obtain ⟨_, hn, h⟩ := Option.bind_eq_some_iff.1 h
  obtain ⟨hzf, _⟩ := cond_some hn
  obtain ⟨vs, hvs, h⟩ := Option.bind_eq_some_iff.1 h
  have hps := parts_sound hg hr hvs
  have hzr : VRs ι z.cells.toList z.cells.toList := .of_flat hzf
  split at h
  · rename_i fs hu
    obtain ⟨pl, hpl, h⟩ := Option.bind_eq_some_iff.1 h
    obtain ⟨cs, hf, rfl⟩ := Option.map_eq_some_iff.1 h
    have hpl2 := run_places hpl
    obtain ⟨r', hr', hrel⟩ := fill_rel (fun i => nth pl i) (pl.toArray[·]?) (fun i => by simp [nth_eq]) _ _ _ _ _ hps hzr hf
    refine ⟨.agg r', .agg (VRs.arr.1 hrel).1 (VRs.arr.1 hrel).2, fun w => ?_⟩
    simp only [execOp, Instr.build]
    refine run_value ?_
    simp only [Sem.run_bind, run_zero hi hz, Result.andThen_ok, run_underlying hu, hpl2, hr']
    rfl
  · rename_i k e hu
    obtain ⟨m, hm, h⟩ := Option.bind_eq_some_iff.1 h
    obtain ⟨cs, hf, rfl⟩ := Option.map_eq_some_iff.1 h
    obtain ⟨r', hr', hrel⟩ := fill_rel _ (fun i => some (i * m, m)) (fun i => rfl) _ _ _ _ _ hps hzr hf
    refine ⟨.agg r', .agg (VRs.arr.1 hrel).1 (VRs.arr.1 hrel).2, fun w => ?_⟩
    simp only [execOp, Instr.build]
    refine run_value ?_
    simp only [Sem.run_bind, run_zero hi hz, Result.andThen_ok, run_underlying hu, run_size hm, hr']
    rfl
  · cases h
end
end Go.Ev
