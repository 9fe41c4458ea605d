/- The evaluator's steps that change memory are the model's: one operation. -/
import Derived.Test.YtfgfhplgnfbaaaaDoorEvEff
namespace Go.Ev
open Go

/-- What is known of the calls. -/
def COk (P : Program) (cf : CallF) : Prop := ∀ f args h v h', cf f args h = some (v, h') → ∀ ι w args', RH P ι h w → VRs ι args args' →
  ∀ (o : Oper) (a : Act) (next : Act → World → Prop) (Q : Exit → Act → World → Prop), (∀ ι' v' w', Went P h ι w h' ι' w' → VR ι' v v' → next (a.put o.dst v') w') → o.upon P a next Q ((callFunc f args'.toArray).run P w)

theorem listGet? {α : Type} (l : List α) (i : Nat) : l.toArray[i]? = l[i]? := by simp

section
variable {P : Program} {ι : Inj} {h h' : Hp} {w : World} (R : RH P ι h w)
include R

theorem storeV_sound {ty : TypeId} {av av' v v' : Value} (ha : VR ι av av') (hv : VR ι v v') (hs : storeV P h ty av v = some h') :
    ∃ w', (Instr.storeAt ty av' v').run P w = .ok () w' ∧ Went P h ι w h' ι w' := by
  unfold storeV at hs
  obtain ⟨n, hn, hs1⟩ := Option.bind_eq_some_iff.1 hs
  clear hs
  split at hs1
  · rename_i b off
    obtain ⟨hl, hw⟩ := cond_some hs1
    have hl := Nat.eq_of_beq_eq_true hl
    cases ha with
    | flat hf => exact Bool.noConfusion (show false = true from hf)
    | ptr hb =>
      obtain ⟨s1, s2⟩ := storeCells_sound R hw hb hv.cells
      refine ⟨_, ?_, s2⟩
      have hsz : v'.cells.size = n := by rw [← hl, ← hv.cells.1]; simp
      simp [Instr.storeAt, Instr.sureAddr, storeVar, run_size hn, hsz, s1]
  · cases hs1

theorem nextV_sound {v v' r : Value} (hv : VR ι v v') (hs : nextV h v = some (r, h')) (ty : TypeId) : Does P ι h w (Instr.next v' true ty) r h' := by
  unfold nextV at hs
  split at hs
  · rename_i b
    split at hs
    · rename_i s pos hg
      obtain ⟨_, vw, hvw, h0, hb⟩ := R.live b _ hg
      cases hv with
      | flat hf => exact Bool.noConfusion (show false = true from hf)
      | ptr hw1 =>
        rw [hvw] at hw1
        obtain rfl := Option.some.inj hw1
        rw [h0]
        have hgo : (getObj vw.blk).run P w = .ok (.stringIter s pos) w := by simp [getObj, Sem.run, hb]
        cases hp : Nat.blt pos s.size with
        | true =>
          have hlt : pos < s.size := by simpa using hp
          rw [hp, cond_true] at hs
          obtain ⟨h1, hput, hh⟩ := Option.map_eq_some_iff.1 hs
          injection hh with hh1 hh2
          subst hh1 hh2
          obtain ⟨p1, p2, p3, p4⟩ := Hp.get_put hput
          have hheap : ∀ q, ({ w with heap := w.heap.setIfInBounds vw.blk (.stringIter s (pos + (Utf8.decode s pos).2)) } : World).heap[q]? = if q = vw.blk then some (.stringIter s (pos + (Utf8.decode s pos).2)) else w.heap[q]? := fun q => by
            have := (Array.getElem?_eq_some_iff.1 hb).1
            show (w.heap.setIfInBounds vw.blk _)[q]? = _
            rw [Array.getElem?_setIfInBounds]
            by_cases hq : vw.blk = q
            · subst hq; simp [this]
            · rw [if_neg hq, if_neg (Ne.symm hq)]
          have hget : ∀ q y, h1.get q = some y → (q = b ∧ y = .siter s (pos + (Utf8.decode s pos).2)) ∨ (q ≠ b ∧ h.get q = some y) := fun q y hq => by
            rw [p4] at hq
            split at hq
            · split at hq
              · exact .inl ⟨‹_›, (Option.some.inj hq).symm⟩
              · cases hq
            · exact .inr ⟨‹_›, hq⟩
          have old : ∀ q y, h1.get q = some y → ∃ z, h.get q = some z ∧ z.wr = y.wr := fun q y hq => by
            rcases hget q y hq with ⟨rfl, rfl⟩ | ⟨_, hq⟩
            · exact ⟨_, hg, rfl⟩
            · exact ⟨y, hq, rfl⟩
          refine ⟨ι, _, { w with heap := w.heap.setIfInBounds vw.blk (.stringIter s (pos + (Utf8.decode s pos).2)) }, ?_, ⟨.refl _ _, ⟨fun q y hq => ?_, fun q r y z vq vr hne hq hy hr hvq hvr => ?_, fun q hq => R.fresh q (by rw [← p1]; exact hq), R.glob, by rw [p1]; exact R.gsize⟩, ⟨rfl, rfl, rfl, by simp, fun k hk hall => ?_⟩, by rw [p1]; exact Nat.le_refl _, p2, fun q x hx hq => ?_, fun q y _ hy => ?_, fun q y u hq hu => ?_⟩, .flat rfl⟩
          · have hso : (setObj vw.blk (.stringIter s (pos + (Utf8.decode s pos).2))).run P w = .ok () { w with heap := w.heap.setIfInBounds vw.blk (.stringIter s (pos + (Utf8.decode s pos).2)) } := by simp [setObj, Sem.run, hb]
            simp only [Instr.next, Nat.zero_add, Sem.run_bind, hgo, Result.andThen_ok, if_pos hlt, hso, Sem.run_pure]
          · rcases hget q y hq with ⟨rfl, rfl⟩ | ⟨hqb, hq⟩
            · exact ⟨by rw [p1]; exact (R.live q _ hg).1, vw, hvw, h0, by rw [hheap, if_pos rfl]⟩
            · obtain ⟨hl, u, hu, hor⟩ := R.live q y hq
              exact ⟨by rw [p1]; exact hl, u, hu, hor.of_block (fun _ _ h => h) (by rw [hheap, if_neg (Ne.symm (R.apart b q _ y vw u (Ne.symm hqb) hg rfl hq hvw hu))])⟩
          · obtain ⟨y0, hy0, hw0⟩ := old q y hq
            obtain ⟨z0, hz0, _⟩ := old r z hr
            exact R.apart q r y0 z0 vq vr hne hy0 (hw0.trans hy) hz0 hvq hvr
          · rw [hheap, if_neg (Ne.symm (hall b _ vw hg rfl hvw))]
          · rw [p4, if_neg]
            · exact hx
            rintro rfl
            rw [p3] at hq; cases hq
          · obtain ⟨y0, hy0, _⟩ := old q y hy
            exact ⟨y0, hy0⟩
          · obtain ⟨y0, hy0, hw0⟩ := old q y hq
            exact .inl ⟨q, y0, u, hy0, hw0, hu, rfl⟩
        | false =>
          have hlt : ¬ pos < s.size := by
            intro hh
            have : Nat.blt pos s.size = true := by simpa using hh
            rw [hp] at this; cases this
          rw [hp, cond_false] at hs
          injection hs with hh
          injection hh with hh1 hh2
          subst hh1 hh2
          refine ⟨ι, _, w, ?_, .refl R, .flat rfl⟩
          simp only [Instr.next, Nat.zero_add, Sem.run_bind, hgo, Result.andThen_ok, if_neg hlt, Sem.run_pure]
    · cases hs
  · cases hs

theorem upon_does {o : Oper} {a : Act} {next : Act → World → Prop} {Q : Exit → Act → World → Prop} {s : Sem Value} {v : Value} (hd : Does P ι h w s v h') (hn : ∀ ι' v' w', Went P h ι w h' ι' w' → VR ι' v v' → next (a.put o.dst v') w') :
    o.upon P a next Q ((do pure (Next.value (← s)) : Sem Next).run P w) := by
  have _ := R
  obtain ⟨ι', v', w', h1, h2, h3⟩ := hd
  rw [run_value h1]
  exact hn ι' v' w' h2 h3

theorem stepEff_sound {t : Fr} {n : Nat} {a : Act} (hr : RT ι t n a) {cf : CallF} (hc : COk P cf) {o : Oper} {v : Value} (hs : stepEff P cf t o h = some (v, h')) {next : Act → World → Prop} {Q : Exit → Act → World → Prop}
    (hn : ∀ ι' v' w', Went P h ι w h' ι' w' → VR ι' v v' → next (a.put o.dst v') w') : o.wp P a w next Q := by
  obtain ⟨dst, op, ty, pos, af, gu⟩ := o
  unfold Oper.wp
  cases op with
  | store t' x y =>
    simp only [stepEff] at hs
    obtain ⟨av, hav, hs1⟩ := Option.bind_eq_some_iff.1 hs
    obtain ⟨xv, hxv, hs2⟩ := Option.bind_eq_some_iff.1 hs1
    obtain ⟨h1, hst, hs3⟩ := Option.bind_eq_some_iff.1 hs2
    injection hs3 with hh
    injection hh with hh1 hh2
    subst hh1 hh2
    obtain ⟨w', g1, g2⟩ := storeV_sound R (opv_sound R.glob hr hav) (opv_sound R.glob hr hxv) hst
    simp only [execOp]
    rw [run_skip g1]
    exact hn ι undef w' g2 (.flat rfl)
  | range t' x =>
    simp only [stepEff] at hs
    obtain ⟨xv, hxv, hs1⟩ := Option.bind_eq_some_iff.1 hs
    clear hs
    split at hs1
    · rename_i s hu
      injection hs1 with hh
      injection hh with hh1 hh2
      subst hh1 hh2
      have hx := (opv_sound R.glob hr hxv).string_iff
      simp only [execOp]
      refine upon_does R ⟨ι.set h.nx ⟨w.heap.size, 0, 0, 0⟩, _, _, ?_, Went.add R (x := .siter s 0) (b := .stringIter s 0) rfl ⟨rfl, by rw [alloc_get]; exact if_pos rfl⟩, .ptr (off := 0) (Inj.set_same ..)⟩ hn
      simp [Instr.range, hx, run_underlying hu]
    · cases hs1
  | next x is =>
    simp only [stepEff] at hs
    obtain ⟨xv, hxv, hs1⟩ := Option.bind_eq_some_iff.1 hs
    obtain ⟨h1, h2⟩ := cond_some hs1
    subst h1
    simp only [execOp]
    exact upon_does R (nextV_sound R (opv_sound R.glob hr hxv) h2 ty) hn
  | call c =>
    obtain ⟨callee, args, argTypes⟩ := c
    cases callee with
    | invoke x nm => cases hs
    | value f =>
      simp only [stepEff] at hs
      obtain ⟨fv, hf, hs1⟩ := Option.bind_eq_some_iff.1 hs
      obtain ⟨as, has, hs2⟩ := Option.bind_eq_some_iff.1 hs1
      clear hs hs1
      split at hs2
      · rename_i g first cap
        obtain ⟨first', cap', hfe, h1, h2⟩ := (opv_sound R.glob hr hf).func_iff
        have h3 := opvs_sound R.glob hr has
        have hargs : VRs ι (first.toList ++ as ++ cap.toList) (first'.toList ++ args.toList.map a.eval ++ cap'.toList) := by
          have app : ∀ {x y x' y' : List Value}, VRs ι x x' → VRs ι y y' → VRs ι (x ++ y) (x' ++ y') := fun {x y x' y'} hx hy => ⟨by simp [hx.1, hy.1], fun i u v hu hv => by
            rw [List.getElem?_append] at hu hv
            rw [hx.1] at hv
            split at hu
            · rename_i hi; rw [if_pos hi] at hv; exact hx.2 i u v hu hv
            · rename_i hi; rw [if_neg hi] at hv; exact hy.2 _ u v hu hv⟩
          exact app (app h1 h3) h2
        have := hc _ _ _ _ _ hs2 ι w _ R hargs ⟨dst, .call ⟨.value f, args, argTypes⟩, ty, pos, af, gu⟩ a next Q hn
        have he : (execOp a.eval ⟨dst, .call ⟨.value f, args, argTypes⟩, ty, pos, af, gu⟩).run P w = (callFunc g (first'.toList ++ args.toList.map a.eval ++ cap'.toList).toArray).run P w := by
          simp only [execOp, resolve, hfe, Deferred.ofValue, Sem.run_bind, Sem.run_pure, Result.andThen_ok, invoke]
          congr 2
          apply Array.ext'
          simp
        rw [he]
        exact this
      · cases hs2
    | builtin b =>
      simp only [stepEff] at hs
      obtain ⟨as, has, hs1⟩ := Option.bind_eq_some_iff.1 hs
      clear hs
      have h3 := opvs_sound R.glob hr has
      have hmap : (args.map a.eval) = (args.toList.map a.eval).toArray := by rw [← Array.toList_map]
      have he : ∃ cs, (execOp a.eval ⟨dst, .call ⟨.builtin b, args, argTypes⟩, ty, pos, af, gu⟩).run P w = (builtin b argTypes ty cs (args.toList.map a.eval).toArray).run P w := ⟨_, by
        simp only [execOp, resolve, Sem.run_bind, Sem.run_pure, Result.andThen_ok, invoke, hmap]; rfl⟩
      obtain ⟨cs, he⟩ := he
      rw [he]
      clear he
      generalize args.toList.map a.eval = as' at h3
      have hta : ∀ l, argTypes.toList = l → argTypes = l.toArray := fun l hl => by rw [← hl]
      split at hs1
      · rename_i s x sT xT hty
        obtain ⟨s', r1, rfl, hs', k1⟩ := h3.head
        obtain ⟨x', r2, rfl, hx', k2⟩ := k1.head
        obtain rfl : r2 = [] := List.length_eq_zero_iff.1 k2.1
        rw [hta _ hty]
        exact upon_does R (appendV_sound R hs' hx' hs1 ty) hn
      · rename_i d s dT sT hty
        obtain ⟨s', r1, rfl, hs', k1⟩ := h3.head
        obtain ⟨x', r2, rfl, hx', k2⟩ := k1.head
        obtain rfl : r2 = [] := List.length_eq_zero_iff.1 k2.1
        rw [hta _ hty]
        exact upon_does R (copyV_sound R hs' hx' hs1 ty) hn
      · rename_i s sT hty
        obtain ⟨s', r1, rfl, hs', k1⟩ := h3.head
        obtain rfl : r1 = [] := List.length_eq_zero_iff.1 k1.1
        rw [hta _ hty]
        split at hs1
        · rename_i b l c
          obtain ⟨e, he, hs2⟩ := Option.bind_eq_some_iff.1 hs1
          cases hcu : Nat.beq c unk with
          | true => rw [hcu] at hs2; cases hs2
          | false =>
            rw [hcu, cond_false] at hs2
            injection hs2 with hh
            injection hh with hh1 hh2
            subst hh1 hh2
            have hne : c ≠ unk := fun hh => by rw [hh] at hcu; exact absurd (Nat.beq_refl unk) (by rw [hcu]; decide)
            refine upon_does R ⟨ι, _, w, ?_, .refl R, .flat rfl⟩ hn
            have ht := elemT_some he
            cases hs' with
            | flat => simp [Builtin.cap_, run_underlying ht]; rfl
            | slc => simp [Builtin.cap_, run_underlying ht]; rfl
            | slu => exact absurd rfl hne
            | sl0 hw hcc =>
              rcases hcc with ⟨h0, _⟩ | h0
              · exact absurd h0 hne
              · subst h0; simp [Builtin.cap_, run_underlying ht]; rfl
        · cases hs1
      · rename_i s sT hty
        obtain ⟨s', r1, rfl, hs', k1⟩ := h3.head
        obtain rfl : r1 = [] := List.length_eq_zero_iff.1 k1.1
        rw [hta _ hty]
        exact upon_does R (clearV_sound R hs' hs1 ty) hn
      · cases hs1
  | _ => cases hs
end
end Go.Ev
