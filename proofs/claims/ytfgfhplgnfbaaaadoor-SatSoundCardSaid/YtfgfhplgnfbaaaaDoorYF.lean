/- The plain law of proofs: what is accepted follows; more clauses do no harm. -/
import Derived.Test.YtfgfhplgnfbaaaaDoorYE
import Derived.Test.YtfgfhplgnfbaaaaDoorYC
import Derived.Lib.LaidTab
import Derived.WalkKit
import Derived.ProofKit
import Derived.OpenShut
import Derived.Deep.DeepHandedRow
import Derived.Test.YtfgfhplgnfbaaaaDoorCards
import Derived.Test.YtfgfhplgnfbaaaaDoorTie
import Derived.Test.YtfgfhplgnfbaaaaDoorYD
import Derived.Test.YtfgfhplgnfbaaaaDoorProg
import Derived.KernelRfl
namespace Go.Proofs.YtfgfhplgnfbaaaaDoor
open Go Go.Ev
theorem Der.mono {cls cls' : List (List Int)} {xs xs' : List Int} (h1 : ∀ l ∈ cls, l ∈ cls') (h2 : ∀ x ∈ xs, x ∈ xs') {z : Int} (h : Der cls xs z) : Der cls' xs' z := by
  induction h with
  | base h => exact .base (h2 _ h)
  | unit hl hx _ ih => exact .unit (h1 _ hl) hx ih
theorem Cl.mono {cls cls' : List (List Int)} {xs xs' : List Int} (h1 : ∀ l ∈ cls, l ∈ cls') (h2 : ∀ x ∈ xs, x ∈ xs') (h : Cl cls xs) : Cl cls' xs' := by
  rcases h with ⟨x, a, b⟩ | ⟨l, hl, a⟩
  · exact .inl ⟨x, a.mono h1 h2, b.mono h1 h2⟩
  · exact .inr ⟨l, h1 l hl, fun y hy => (a y hy).mono h1 h2⟩
/-- Clauses as they are asked for. -/
def Good (cls : List (List Int)) : Prop := ∀ l ∈ cls, (∀ x ∈ l, Lit x) ∧ Dif l
theorem calm_iff {cls : List (List Int)} {xs : List Int} (hd : Good cls) (hx : ∀ x ∈ xs, Lit x) : (fromN (cls.map sideN) xs).2 = true ↔ ¬ Cl cls xs := by
  obtain ⟨a, b⟩ := fromN_ok hd hx
  constructor
  · intro h; exact (a h).1.not
  · intro h
    cases e : (fromN (cls.map sideN) xs).2 with
    | true => rfl
    | false => exact absurd (b e) h
/-- A model is calm. -/
theorem model_calm {cls : List (List Int)} {xs : List Int} {m : Nat} (hd : ∀ l ∈ cls, ∀ x ∈ l, x ≠ 0) (hx : ∀ x ∈ xs, x ≠ 0) (h1 : ∀ c ∈ cls, c.any (isB m) = true) (h2 : ∀ x ∈ xs, isB m x = true) : ¬ Cl cls xs := by
  have C : Calm cls xs fun x => x ≠ 0 ∧ isB m x = true := ⟨fun x a b => by
    have b2 := b.2
    rw [isB_neg a.1, a.2] at b2
    exact Bool.noConfusion b2, fun x h => ⟨hx x h, h2 x h⟩, fun l hl => by
    obtain ⟨x, hxl, ht⟩ := List.any_eq_true.1 (h1 l hl)
    exact .inl ⟨x, hxl, hd l hl x hxl, ht⟩⟩
  exact C.not
theorem accF_snoc {gs l : List Int} : ∀ {ls cls : List (List Int)} {i : Nat}, accF gs cls (ls ++ [l]) i = match accF gs cls ls i with
    | some j => some j
    | none => if (fromN ((cls ++ ls).map sideN) (gs ++ l.map fun x => -x)).2 = true then some (i + ls.length) else none := by
  intro ls
  induction ls with
  | nil =>
    intro cls i
    simp only [List.nil_append, accF, List.append_nil, List.length_nil, Nat.add_zero]
  | cons x ls ih =>
    intro cls i
    simp only [List.cons_append, accF]
    split
    · rfl
    · rw [ih, List.append_assoc, List.singleton_append, List.length_cons, show i + 1 + ls.length = i + (ls.length + 1) by omega]
theorem accF_true {gs : List Int} {m : Nat} (hg : ∀ x ∈ gs, Lit x ∧ isB m x = true) : ∀ {pf cls : List (List Int)} {i : Nat}, Good cls → Good pf → accF gs cls pf i = none → (∀ c ∈ cls, c.any (isB m) = true) → ∀ l ∈ pf, l.any (isB m) = true := by
  intro pf
  induction pf with
  | nil => intro cls i _ _ _ _ l h; cases h
  | cons x pf ih =>
    intro cls i hc hp ha hm l hl
    simp only [accF] at ha
    split at ha
    · cases ha
    · rename_i hn
      obtain ⟨hx1, hx2⟩ := hp x (List.mem_cons_self ..)
      have lits : ∀ z ∈ gs ++ x.map (fun x => -x), Lit z := fun z hz => (List.mem_append.1 hz).elim (fun h => (hg z h).1) (lit_neg hx1 z)
      have hcl : Cl cls (gs ++ x.map fun x => -x) := Classical.byContradiction fun h => hn ((calm_iff hc lits).2 h)
      have hx : x.any (isB m) = true := by
        cases e : x.any (isB m) with
        | true => rfl
        | false =>
          refine absurd hcl (model_calm (fun l hl z hz => ((hc l hl).1 z hz).1) (fun z hz => (lits z hz).1) hm fun z hz => ?_)
          rcases List.mem_append.1 hz with hz | hz
          · exact (hg z hz).2
          · obtain ⟨w, hw, rfl⟩ := List.mem_map.1 hz
            rw [isB_neg (hx1 w hw).1]
            have := List.any_eq_false.1 e w hw
            simpa using this
      rcases List.mem_cons.1 hl with rfl | hl
      · exact hx
      · refine ih (cls := cls ++ [x]) (fun l hl => ?_) (fun l hl => hp l (List.mem_cons_of_mem _ hl)) ha (fun c hc' => ?_) l hl
        · rcases List.mem_append.1 hl with hl | hl
          · exact hc l hl
          · rw [List.mem_singleton.1 hl]; exact ⟨hx1, hx2⟩
        · rcases List.mem_append.1 hc' with hc' | hc'
          · exact hm c hc'
          · rw [List.mem_singleton.1 hc']; exact hx
theorem accF_mono {gs gs' : List Int} (hg : ∀ x ∈ gs, x ∈ gs') (hgl : ∀ x ∈ gs', Lit x) : ∀ {pf cls cls' : List (List Int)} {i : Nat}, Good cls → Good cls' → Good pf → (∀ l ∈ cls, l ∈ cls') → accF gs cls pf i = none → accF gs' cls' pf i = none := by
  intro pf
  induction pf with
  | nil => intro cls cls' i _ _ _ _ _; rfl
  | cons x pf ih =>
    intro cls cls' i hc hc' hp hs ha
    simp only [accF] at ha ⊢
    split at ha
    · cases ha
    · rename_i hn
      obtain ⟨hx1, hx2⟩ := hp x (List.mem_cons_self ..)
      have lits : ∀ z ∈ gs ++ x.map (fun x => -x), Lit z := fun z hz => (List.mem_append.1 hz).elim (fun h => hgl z (hg z h)) (lit_neg hx1 z)
      have lits' : ∀ z ∈ gs' ++ x.map (fun x => -x), Lit z := fun z hz => (List.mem_append.1 hz).elim (hgl z) (lit_neg hx1 z)
      have hcl : Cl cls (gs ++ x.map fun x => -x) := Classical.byContradiction fun h => hn ((calm_iff hc lits).2 h)
      have hcl' : Cl cls' (gs' ++ x.map fun x => -x) := hcl.mono hs fun z hz => (List.mem_append.1 hz).elim (fun h => List.mem_append_left _ (hg z h)) (List.mem_append_right _)
      rw [if_neg (fun h => (calm_iff hc' lits').1 h hcl')]
      have add : ∀ {c : List (List Int)}, Good c → Good (c ++ [x]) := fun {c} h l hl => by
        rcases List.mem_append.1 hl with hl | hl
        · exact h l hl
        · rw [List.mem_singleton.1 hl]; exact ⟨hx1, hx2⟩
      exact ih (add hc) (add hc') (fun l hl => hp l (List.mem_cons_of_mem _ hl)) (fun l hl => by
        rcases List.mem_append.1 hl with hl | hl
        · exact List.mem_append_left _ (hs l hl)
        · exact List.mem_append_right _ hl) ha
/-- A clause of variables up to a number. -/
def Cv (vars : Int) (l : List Int) : Prop := Dif l ∧ ∀ x ∈ l, Lit x ∧ (x.natAbs : Int) ≤ vars
theorem Cv.b {vars : Int} {l : List Int} (h : Cv vars l) : clB vars 0 l = true := clB_of h.1 h.2 fun x hx => by have := (h.2 x hx).1.1; omega
theorem good_of {vars : Int} {cls : List (List Int)} (h : ∀ l ∈ cls, Cv vars l) : Good cls := fun l hl => ⟨fun x hx => ((h l hl).2 x hx).1, (h l hl).1⟩
theorem ask_of {vars : Int} {cls : List (List Int)} {gs : List Int} (h0 : 0 ≤ vars) (h1 : vars ≤ 30) (hl : cls.length ≤ 120) (hc : ∀ l ∈ cls, Cv vars l) (hg : Cv vars gs) : askB vars cls gs = true := by
  unfold askB formB
  rw [hg.b, List.all_eq_true.2 fun l hl => (hc l hl).b]
  simp; omega
theorem acceptP_of {vars : Int} {cls pf : List (List Int)} {gs : List Int} (h0 : 0 ≤ vars) (h1 : vars ≤ 30) (hl : cls.length ≤ 120) (hc : ∀ l ∈ cls, Cv vars l) (hg : Cv vars gs) (hp : ∀ l ∈ pf, Cv vars l) (hpl : pf.length ≤ 2000) : acceptP vars cls gs pf = outA (accF gs cls pf 0) (endA pf) := by
  unfold acceptP
  rw [ask_of h0 h1 hl hc hg, if_neg (by decide), List.all_eq_true.2 fun l hl => (hp l hl).b, if_neg (by decide), if_neg (by omega)]
theorem outA_ok {o : Option Nat} {pf : List (List Int)} (h : (outA o (endA pf)).2 = 0) : o = none ∧ endA pf = (0, 0) ∧ [] ∈ pf := by
  cases o with
  | some i => cases h
  | none =>
    have h : (endA pf).2 = 0 := h
    unfold endA at h ⊢
    split at h
    · cases h
    · rename_i h1
      split at h
      · cases h
      · rename_i h2
        refine ⟨rfl, by rw [if_neg h1, if_neg h2], ?_⟩
        have : pf.length - 1 < pf.length := by omega
        have e : pf.getD (pf.length - 1) [] = pf[pf.length - 1] := by rw [List.getD_eq_getElem?_getD, List.getElem?_eq_getElem this]; rfl
        rw [e] at h2
        have h3 : pf[pf.length - 1] = [] := List.length_eq_zero_iff.1 (by omega)
        rw [← h3]; exact List.getElem_mem _
/-- What is accepted has no model. -/
theorem sound {cls pf : List (List Int)} {gs : List Int} (hc : Good cls) (hp : Good pf) (hg : ∀ x ∈ gs, Lit x) (ha : accF gs cls pf 0 = none) (he : [] ∈ pf) (n : Nat) : modelsN n cls gs = [] := by
  unfold modelsN
  rw [List.filter_eq_nil_iff]
  intro m _ hm
  unfold satM at hm
  rw [Bool.and_eq_true, List.all_eq_true, List.all_eq_true] at hm
  have := accF_true (fun x hx => ⟨hg x hx, hm.1 x hx⟩) hc hp ha hm.2 [] he
  cases this
theorem clsN_ok {vars many : Nat} {cl : List Int} (p : PuzOk vars many cl) {N : Int} (hN : 1 ≤ N ∧ N ≤ 30) : ∀ k, (clsN N cl k).length = k ∧ ∀ l ∈ clsN N cl k, Cv N l ∧ l.length ≤ 3 := by
  intro k
  induction k with
  | zero => exact ⟨rfl, fun l h => by cases h⟩
  | succ k ih =>
    refine ⟨by simp [clsN, ih.1], fun l hl => ?_⟩
    simp only [clsN] at hl
    rcases List.mem_append.1 hl with hl | hl
    · exact ih.2 l hl
    · rw [List.mem_singleton.1 hl]
      have := rst3_lit hN (p.at (3 * k)) (p.at (3 * k + 1)) (p.at (3 * k + 2)) 0
      refine ⟨⟨clauseN_dif _, fun x hx => ?_⟩, Nat.le_trans (clauseN_len _) (rst3_len ..)⟩
      have := clauseN_mem this x hx
      exact ⟨this.1, by omega⟩
end Go.Proofs.YtfgfhplgnfbaaaaDoor
/- What a call's arguments hold, as the evaluator's memory. -/
namespace Go.Ev
open Go
/-- Fields lie one behind the other. -/
def layOk (P : Program) : Nat → List Field → Nat → Bool
  | off, [], n => Nat.beq off n
  | off, f :: fs, n => Nat.beq f.offset off && layOk P (off + P.cellsOf f.type) fs n
/-- A type of truths, whole numbers, lists, structs and rows of these. -/
def Plain (P : Program) : Nat → TypeId → Bool
  | 0, _ => false
  | n + 1, t => match P.underlying t with
    | some .bool => true
    | some (.int _) => true
    | some (.slice e) => Plain P n e && !(Nat.beq (P.cellsOf e) 0)
    | some (.struct fs) => fs.toList.all (fun f => Plain P n f.type) && layOk P 0 fs.toList (P.cellsOf t)
    | some (.array m e) => Plain P n e && Nat.beq (m * P.cellsOf e) (P.cellsOf t)
    | _ => false
/-- Cells that read as some data, in the evaluator's memory. -/
def DE {H : Type} (P : Program) (h : Hp) : Nat → TypeId → List Value → DataW H → Prop
  | 0, _, _, _ => False
  | n + 1, t, cs, d => match P.underlying t, d with
    | some .bool, .lit (.bool b) => cs = [.bool b]
    | some (.int k), .lit (.int k' x) => k' = k ∧ cs = [.int k x] ∧ (Lit.int k x).wf = true
    | some (.slice _), .nil => cs = [.slice none 0 0]
    | some (.slice e), .slice elems _ => ∃ k cap c e', cs = [.slice (some ⟨k, 0, none⟩) elems.length cap] ∧ cap < unk ∧ elems.length ≤ cap ∧ k < h.nx ∧ h.get k = some (.cells c e' .ro) ∧ elems.length * P.cellsOf e ≤ c.length ∧
        ∀ i (hi : i < elems.length), DE P h n e ((c.drop (i * P.cellsOf e)).take (P.cellsOf e)) elems[i]
    | some (.struct fs), .agg parts => cs.length = P.cellsOf t ∧ parts.length = fs.size ∧ ∀ i (hi : i < parts.length) f, fs[i]? = some f → DE P h n f.type ((cs.drop f.offset).take (P.cellsOf f.type)) parts[i]
    | some (.array m e), .agg parts => cs.length = P.cellsOf t ∧ parts.length = m ∧ ∀ i (hi : i < parts.length), DE P h n e ((cs.drop (i * P.cellsOf e)).take (P.cellsOf e)) parts[i]
    | _, _ => False
/-- Memory with more in it, that none writes. -/
structure Ext1 (h : Hp) (ι : Inj) (h' : Hp) (ι' : Inj) : Prop where
  nx : h.nx ≤ h'.nx
  gd : h'.gd = h.gd
  get : ∀ o, o < h.nx → h'.get o = h.get o
  inj : ∀ o, o < h.nx → ι' o = ι o
theorem Ext1.refl (h : Hp) (ι : Inj) : Ext1 h ι h ι := ⟨Nat.le_refl _, rfl, fun _ _ => rfl, fun _ _ => rfl⟩
theorem Ext1.trans {h h' h'' : Hp} {ι ι' ι'' : Inj} (a : Ext1 h ι h' ι') (b : Ext1 h' ι' h'' ι'') : Ext1 h ι h'' ι'' :=
  ⟨Nat.le_trans a.nx b.nx, b.gd.trans a.gd, fun o ho => (b.get o (Nat.lt_of_lt_of_le ho a.nx)).trans (a.get o ho), fun o ho => (b.inj o (Nat.lt_of_lt_of_le ho a.nx)).trans (a.inj o ho)⟩
theorem DE.mono {H : Type} {P : Program} {h h' : Hp} (hn : h.nx ≤ h'.nx) (hg : ∀ o, o < h.nx → h'.get o = h.get o) : ∀ {n : Nat} {t : TypeId} {cs : List Value} {d : DataW H}, DE P h n t cs d → DE P h' n t cs d := by
  intro n
  induction n with
  | zero => intro t cs d h; exact h
  | succ n ih =>
    intro t cs d hd
    unfold DE at hd ⊢
    split at hd
    · exact hd
    · exact hd
    · exact hd
    · obtain ⟨k, cap, c, e', h1, h2, h3, h4, h5, h6, h7⟩ := hd
      exact ⟨k, cap, c, e', h1, h2, h3, Nat.lt_of_lt_of_le h4 hn, by rw [hg k h4]; exact h5, h6, fun i hi => ih (h7 i hi)⟩
    · exact ⟨hd.1, hd.2.1, fun i hi f hf => ih (hd.2.2 i hi f hf)⟩
    · exact ⟨hd.1, hd.2.1, fun i hi => ih (hd.2.2 i hi)⟩
    · exact hd
section
variable {H : Type} {enc : TypeId × Value → H} {P : Program} {W : World}
/-- What is ahead: memory that none writes, and an object in it. -/
structure Base (P : Program) (ι : Inj) (h : Hp) (W : World) : Prop where
  rh : RH P ι h W
  ro : ∀ o x, h.get o = some x → x.wr = false
  gd : h.gd = []
  some0 : ∃ x v, h.get 0 = some x ∧ ι 0 = some v ∧ 0 < h.nx ∧ ∃ c e, x = .cells c e .ro
/-- An object more. -/
theorem Base.push {ι : Inj} {h : Hp} (B : Base P ι h W) {c : List Value} {e : TypeId} {v : Vw} (h1 : c.all one = true) {c' : Array Value} {e' : TypeId} {fr : Nat × Nat} (hb : W.heap[v.blk]? = some (.cells c' e' fr)) (hc : ∀ (j : Nat) x, c[j]? = some x → ∃ y, c'[v.base + j]? = some y ∧ VR ι x y) :
    Base P (ι.set h.nx v) (h.add (.cells c e .ro)) W ∧ Ext1 h ι (h.add (.cells c e .ro)) (ι.set h.nx v) := by
  have hfresh : ι h.nx = none := B.rh.fresh _ (Nat.le_refl _)
  have mono := Inj.set_mono (v := v) hfresh
  have hE : Ext1 h ι (h.add (.cells c e .ro)) (ι.set h.nx v) := ⟨by rw [nx_add]; omega, rfl, fun o ho => get_add_ne (by omega), fun o ho => Inj.set_other _ _ _ (by omega)⟩
  have hget : ∀ o x, (h.add (.cells c e .ro)).get o = some x → (o = h.nx ∧ x = .cells c e .ro) ∨ h.get o = some x := fun o x ho => by
    rw [get_add] at ho
    split at ho
    · exact .inl ⟨‹_›, (Option.some.inj ho).symm⟩
    · exact .inr ho
  have hro : ∀ o x, (h.add (.cells c e .ro)).get o = some x → x.wr = false := fun o x ho => by
    rcases hget o x ho with ⟨_, rfl⟩ | ho
    · rfl
    · exact B.ro o x ho
  refine ⟨⟨⟨fun o x ho => ?_, fun o q x y vo vq _ ho hx => ?_, fun o ho => ?_, fun g hg => ?_, ?_⟩, hro, B.gd, ?_⟩, hE⟩
  · rcases hget o x ho with ⟨rfl, rfl⟩ | ho
    · refine ⟨by rw [nx_add]; omega, v, Inj.set_same .., h1, c', e', fr, hb, fun j x hx => ?_, fun h => absurd rfl h, fun h => by cases h⟩
      obtain ⟨y, hy, hv⟩ := hc j x hx
      exact ⟨y, hy, hv.mono mono⟩
    · obtain ⟨h2, u, hu, hor⟩ := B.rh.live o x ho
      exact ⟨by rw [nx_add]; omega, u, mono _ _ hu, hor.of_block mono rfl⟩
  · rw [hro o x ho] at hx; cases hx
  · rw [nx_add] at ho
    rw [Inj.set_other _ _ _ (by omega)]; exact B.rh.fresh o (by omega)
  · rw [Inj.set_other _ _ _ (by have := B.rh.gsize; omega)]; exact B.rh.glob g hg
  · rw [nx_add]; have := B.rh.gsize; omega
  · obtain ⟨x, u, a1, a2, a3, a4⟩ := B.some0
    exact ⟨x, u, by rw [get_add_ne (by omega)]; exact a1, by rw [Inj.set_other _ _ _ (by omega)]; exact a2, by rw [nx_add]; omega, a4⟩
/-- A whole part is built, whatever a part is built of. -/
def Builds (H : Type) (enc : TypeId × Value → H) (P : Program) (W : World) (n : Nat) (t : TypeId) : Prop := ∀ (cs : List Value) (d : DataW H) (ps : List MemPlace), DataW.trod enc P W 0 (fun _ => true) true n t cs = some (d, ps) →
  ∀ ι h, Base P ι h W → ∃ ι' h' ev, Ext1 h ι h' ι' ∧ Base P ι' h' W ∧ VRs ι' ev cs ∧ ev.all one = true ∧ DE P h' n t ev d
theorem VRs.mono1 {ι ι' : Inj} {h h' : Hp} (E : Ext1 h ι h' ι') (R : ∀ o, h.nx ≤ o → ι o = none) {a b : List Value} (hv : VRs ι a b) : VRs ι' a b := hv.mono fun o v hv => by
  have : o < h.nx := by
    rcases Nat.lt_or_ge o h.nx with hh | hh
    · exact hh
    · rw [R o hh] at hv; cases hv
  rw [E.inj o this]; exact hv
/-- Parts, one after the other. -/
theorem build_list {n : Nat} : ∀ (l : List (TypeId × List Value × DataW H)), (∀ p ∈ l, Builds H enc P W n p.1 ∧ ∃ ps, DataW.trod enc P W 0 (fun _ => true) true n p.1 p.2.1 = some (p.2.2, ps)) → ∀ ι h, Base P ι h W →
    ∃ ι' h', ∃ evs : List (List Value), Ext1 h ι h' ι' ∧ Base P ι' h' W ∧ evs.length = l.length ∧ VRs ι' evs.flatten (l.map (·.2.1)).flatten ∧ evs.flatten.all one = true ∧
      ∀ i (hi : i < l.length), ∃ ev, evs[i]? = some ev ∧ VRs ι' ev l[i].2.1 ∧ DE P h' n l[i].1 ev l[i].2.2 := by
  intro l
  induction l with
  | nil => intro _ ι h B; exact ⟨ι, h, [], .refl _ _, B, rfl, .nil _, rfl, fun i hi => absurd hi (Nat.not_lt_zero _)⟩
  | cons p l ih =>
    intro hl ι h B
    obtain ⟨hb, ps, hp⟩ := hl p (List.mem_cons_self ..)
    obtain ⟨ι1, h1, ev, E1, B1, V1, O1, D1⟩ := hb _ _ _ hp ι h B
    obtain ⟨ι2, h2, evs, E2, B2, L2, V2, O2, D2⟩ := ih (fun q hq => hl q (List.mem_cons_of_mem _ hq)) ι1 h1 B1
    have V1' := VRs.mono1 E2 B1.rh.fresh V1
    refine ⟨ι2, h2, ev :: evs, E1.trans E2, B2, by simp [L2], ?_, ?_, fun i hi => ?_⟩
    · rw [List.flatten_cons, List.map_cons, List.flatten_cons]; exact V1'.append V2
    · rw [List.flatten_cons, List.all_append, O1, O2]; rfl
    · cases i with
      | zero => exact ⟨ev, rfl, V1', D1.mono E2.nx E2.get⟩
      | succ i => exact D2 i (by simpa using hi)
theorem flat_row {l : List (List Value)} {w : Nat} (hw : ∀ x ∈ l, x.length = w) : l.flatten.length = l.length * w ∧ ∀ i x, l[i]? = some x → (l.flatten.drop (i * w)).take w = x := by
  induction l with
  | nil => exact ⟨by simp, fun i x h => by simp at h⟩
  | cons y l ih =>
    obtain ⟨h1, h2⟩ := ih fun x hx => hw x (List.mem_cons_of_mem _ hx)
    have hy := hw y (List.mem_cons_self ..)
    refine ⟨by rw [List.flatten_cons, List.length_append, h1, hy, List.length_cons, Nat.add_mul]; omega, fun i x hx => ?_⟩
    rw [List.flatten_cons]
    cases i with
    | zero =>
      simp at hx
      subst hx
      rw [Nat.zero_mul, List.drop_zero, ← hy, List.take_left]
    | succ i =>
      rw [List.drop_append, List.drop_of_length_le (by rw [hy, Nat.add_mul]; omega), List.nil_append, hy, show (i + 1) * w - w = i * w by rw [Nat.add_mul]; omega]
      exact h2 i x (by simpa using hx)
theorem build_int {n : Nat} {t : TypeId} {k : IntKind} (hu : P.underlying t = some (.int k)) : Builds H enc P W (n + 1) t := by
  intro cs d ps h ι hp B
  unfold DataW.trod at h
  rw [hu] at h
  rcases cs with _ | ⟨v, _ | ⟨w, r⟩⟩
  · cases h
  · cases v with
    | int k' x =>
      simp only at h
      split at h
      · rename_i hc
        injection h with h; injection h with h _
        subst h
        obtain ⟨rfl, hw⟩ := hc
        exact ⟨ι, hp, [.int k' x], .refl _ _, B, .of_flat rfl, rfl, by unfold DE; rw [hu]; exact ⟨rfl, rfl, hw⟩⟩
      · cases h
    | slice a len cap => cases a <;> cases len <;> cases cap <;> cases h
    | _ => cases h
  · cases v with
    | slice a len cap => cases a <;> cases len <;> cases cap <;> cases h
    | _ => cases h
end
end Go.Ev
/- A law's arguments, as the evaluator's memory; from its word to the kit's. -/
namespace Go.Ev
open Go Go.ChangeShapes Go.WideShapes Go.ChangeAt Go.RowKit
section
variable {H : Type} {enc : TypeId × Value → H} {P : Program} {W : World}
/-- Arguments that read as some data. -/
def DEs (P : Program) (h : Hp) : List TypeId → List Value → List (DataW H) → Prop
  | [], [], [] => True
  | t :: ts, v :: vs, d :: ds => ((∃ n, DE P h n t v.cells.toList d) ∧ (aggT P t = some true ∨ v.cells.toList = [v])) ∧ DEs P h ts vs ds
  | _, _, _ => False
theorem DEs.mono {h h' : Hp} (hn : h.nx ≤ h'.nx) (hg : ∀ o, o < h.nx → h'.get o = h.get o) : ∀ {ts : List TypeId} {vs : List Value} {ds : List (DataW H)}, DEs P h ts vs ds → DEs P h' ts vs ds
  | [], [], [], h => h
  | _ :: _, _ :: _, _ :: _, ⟨⟨⟨n, h1⟩, h3⟩, h2⟩ => ⟨⟨⟨n, h1.mono hn hg⟩, h3⟩, h2.mono hn hg⟩
/-- A value is one cell, or a struct's or a row's cells. -/
def Shaped1 (P : Program) (t : TypeId) (v : Value) : Prop := v.cells.toList = [v] ∨ (∃ cs, v = .agg cs) ∧ aggT P t = some true
theorem args_build : ∀ {ts : List TypeId} {vs : List Value} {ds : List (DataW H)} {p : List MemPlace}, DataW.TrodAll enc P W 0 (fun _ => true) true ts vs ds p → (∀ t ∈ ts, ∀ n, Builds H enc P W n t) → (∀ (i : Nat) t v, ts[i]? = some t → vs[i]? = some v → Shaped1 P t v) → ∀ ι h, Base P ι h W →
    ∃ ι' h' evs, Ext1 h ι h' ι' ∧ Base P ι' h' W ∧ VRs ι' evs vs ∧ DEs P h' ts evs ds
  | [], [], [], _, _, _, _, ι, h, B => ⟨ι, h, [], .refl _ _, B, .nil _, trivial⟩
  | t :: ts, v :: vs, d :: ds, _, ⟨p, q, ⟨n, h1⟩, h2, _⟩, hb, hs, ι, h, B => by
    obtain ⟨ι1, h3, ev, E1, B1, V1, O1, D1⟩ := hb t (List.mem_cons_self ..) n _ _ _ h1 ι h B
    obtain ⟨ι2, h4, evs, E2, B2, V2, D2⟩ := args_build h2 (fun t ht => hb t (List.mem_cons_of_mem _ ht)) (fun i t v a b => hs (i + 1) t v (by simpa using a) (by simpa using b)) ι1 h3 B1
    have V1' := VRs.mono1 E2 B1.rh.fresh V1
    rcases hs 0 t v rfl rfl with hc | ⟨⟨cs, rfl⟩, hag⟩
    · rw [hc] at V1'
      have hl : ev.length = 1 := by have := V1'.1; simpa using this.symm
      obtain ⟨x, rfl⟩ : ∃ x, ev = [x] := List.length_eq_one_iff.1 hl
      have hx : x.cells.toList = [x] := by
        have : one x = true := by simpa using O1
        cases x <;> first | rfl | cases this
      obtain ⟨y, c, e1, e2, _⟩ := V1'.head
      injection e1 with e1 _
      subst e1
      refine ⟨ι2, h4, x :: evs, E1.trans E2, B2, .cons e2 V2, ⟨⟨n, ?_⟩, .inr hx⟩, D2⟩
      rw [hx]; exact D1.mono E2.nx E2.get
    · refine ⟨ι2, h4, .agg ev.toArray :: evs, E1.trans E2, B2, .cons ?_ V2, ⟨⟨n, ?_⟩, .inl hag⟩, D2⟩
      · have V1'' : VRs ι2 ev.toArray.toList cs.toList := by rw [List.toList_toArray]; exact V1'
        obtain ⟨a1, a2⟩ := VRs.arr.1 V1''
        exact .agg a1 a2
      · show DE P h4 n t (ev.toArray).toList d
        simpa using D1.mono E2.nx E2.get
theorem shaped_of {r : Reach} {base n : Nat} {t : TypeId} {v : Value} (hp : Plain P n t = true) (h : Value.okWide P W r base t v) : Shaped1 P t v := by
  cases n with
  | zero => cases hp
  | succ n =>
    unfold Plain at hp
    unfold Value.okWide at h
    split at hp
    · rename_i hu
      rw [hu] at h
      unfold Cell.okWide Cell.ok at h
      rw [hu] at h
      cases v <;> first | exact .inl rfl | exact h.elim
    · rename_i hu
      rw [hu] at h
      unfold Cell.okWide Cell.ok at h
      rw [hu] at h
      cases v <;> first | exact .inl rfl | exact h.elim
    · rename_i hu
      rw [hu] at h
      unfold Cell.okWide Cell.ok at h
      rw [hu] at h
      cases v <;> first | exact .inl rfl | exact h.elim
    · rename_i hu
      rw [hu] at h
      obtain ⟨cs, rfl, _⟩ := h
      exact .inr ⟨⟨cs, rfl⟩, by unfold aggT; rw [hu]⟩
    · rename_i hu
      rw [hu] at h
      obtain ⟨cs, rfl, _⟩ := h
      exact .inr ⟨⟨cs, rfl⟩, by unfold aggT; rw [hu]⟩
    · cases hp
theorem DE_int {h : Hp} {n : Nat} {t : TypeId} {k : IntKind} (hu : P.underlying t = some (.int k)) {cs : List Value} {d : DataW H} (hd : DE P h n t cs d) : ∃ x, cs = [.int k x] ∧ (Lit.int k x).wf = true := by
  cases n with
  | zero => exact hd.elim
  | succ n =>
    unfold DE at hd
    rw [hu] at hd
    split at hd
    all_goals first | (rename_i heq; cases heq; done) | skip
    · rename_i k' k2 x heq
      injection heq with heq; injection heq with heq
      subst heq
      exact ⟨x, hd.2⟩
    all_goals first | exact hd.elim | skip
/-- What was there stays, but for what is new. -/
theorem post_of_old {f : Func} {s : ChangeSpec} {apart fresh handsOn again : Bool} {W W' : World} {args : Array Value} {v : Value} {ds gs : List (DataW H)} {before pa pv : List MemPlace}
    (hW : DataW.Whole enc P f.params.toList s.vars apart W args.toList ds gs before)
    (hres : ∀ (b : Nat) (sp : Nat → Bool) (hd : Bool), DataW.TrodAll enc P W' b sp hd f.resultTypes.toList (v.resultList f.resultTypes.size) (s.fn H (ds ++ gs)).results [])
    (hargs : ∀ sp : Nat → Bool, (∀ p ∈ before, sp p.block = true) → DataW.TrodAll enc P W' 0 sp true f.params.toList args.toList (s.fn H (ds ++ gs)).args pa)
    (hvars : ∀ sp : Nat → Bool, (∀ p ∈ before, sp p.block = true) → DataW.TrodVars enc P W' sp s.vars (s.fn H (ds ++ gs)).vars pv)
    (hps : before = pa ++ pv) (hk : W.keptBut W' (· ∈ before)) (hfz : ∀ a : Addr, a.block < W.heap.size → W'.frozen? a = W.frozen? a)
    (hok : ∀ (j : Nat) (t : TypeId) (r : Value), f.resultTypes[j]? = some t → (v.resultList f.resultTypes.size)[j]? = some r → Value.okWide P W' .any 0 t r) :
    s.post enc P f apart fresh handsOn again W args v W' := by
  have hold : ∀ p ∈ before, (fun b => decide (b < W.heap.size)) p.block = true := fun p hp => by simpa using hW.lt p hp
  have hlt := hW.lt
  refine ⟨ds, gs, before, [], pa, pv, hW, hres _ _ _, hargs _ hold, hvars _ hold, World.keptBut_mono (fun p hp => ⟨hp, ?_⟩) hk, fun _ => ?_⟩
  · rw [hps, List.mem_append] at hp
    exact Or.inr hp
  · obtain ⟨_, _, _, _, _, hz, hn⟩ := hW
    refine ⟨hok, _, _, ([] ++ pa) ++ pv, ⟨[] ++ pa, pv, trodAll_append (hargs _ (fun _ _ => rfl)) (hres _ _ _), hvars _ (fun _ _ => rfl), rfl, ?_, ?_⟩, ?_⟩
    · intro b off hp
      have hp2 : MemPlace.cell b off ∈ before := by rw [hps]; simpa using hp
      rw [hfz _ (hlt _ hp2)]
      exact hz b off hp2
    · intro ha
      have := hn ha
      rw [hps] at this
      simpa using this
    · intro p hp _
      rw [hps]
      simpa using hp
/-- Arguments read again as they did. -/
theorem again {ts : List TypeId} {vs : List Value} {ds : List (DataW H)} {p : List MemPlace} {W' : World} (K : Kids P (· < P.types.size)) (full : ∀ t e, t < P.types.size → P.underlying t = some (.slice e) → 0 < P.cellsOf e) (hts : ∀ t ∈ ts, t < P.types.size)
    (hA : DataW.TrodAll enc P W 0 (fun _ => true) true ts vs ds p) (hb : Below W.heap.size W W') (hlt : ∀ q ∈ p, q.block < W.heap.size) (sp : Nat → Bool) (hs : ∀ q ∈ p, sp q.block = true) : DataW.TrodAll enc P W' 0 sp true ts vs ds p := by
  have hA' := DataW.TrodAll.respare K full hts hA hs
  clear hA hs hts
  induction ts generalizing vs ds p with
  | nil => match vs, ds, hA' with
    | [], [], h => exact h
  | cons t ts ih => match vs, ds, hA' with
    | v :: vs, d :: ds, ⟨p1, p2, ⟨n, h1⟩, h2, e⟩ =>
      subst e
      exact ⟨p1, p2, ⟨n, DataW.trod_carry n _ _ _ h1 fun q hq => hb.same (hlt q (List.mem_append_left _ hq))⟩, ih (fun q hq => hlt q (List.mem_append_right _ hq)) h2, rfl⟩
end
end Go.Ev
/- A law's arguments, as the evaluator's memory: structs, rows, and lists of lists. -/
namespace Go.Ev
open Go Go.ChangeShapes Go.WideShapes Go.ChangeAt Go.RowKit
section
variable {H : Type} {enc : TypeId × Value → H} {P : Program} {W : World}
/-- Fields one behind the other are the whole. -/
theorem lay_flat {n : Nat} : ∀ (fs : List Field) (off : Nat), layOk P off fs n = true → ∀ (cs : List Value), cs.length = n → (fs.map fun f => (cs.drop f.offset).take (P.cellsOf f.type)).flatten = cs.drop off := by
  intro fs
  induction fs with
  | nil =>
    intro off h cs hc
    have : off = n := Nat.eq_of_beq_eq_true h
    rw [List.drop_of_length_le (by omega)]; rfl
  | cons f fs ih =>
    intro off h cs hc
    simp only [layOk, Bool.and_eq_true] at h
    have h1 : f.offset = off := Nat.eq_of_beq_eq_true h.1
    rw [List.map_cons, List.flatten_cons, ih _ h.2 cs hc, h1, ← List.drop_drop, List.take_append_drop]
theorem lay_part {n : Nat} : ∀ (fs : List Field) (off : Nat), layOk P off fs n = true → ∀ (evs : List (List Value)), evs.length = fs.length → (∀ (i : Nat) f ev, fs[i]? = some f → evs[i]? = some ev → ev.length = P.cellsOf f.type) →
    ∀ (i : Nat) f ev, fs[i]? = some f → evs[i]? = some ev → off ≤ f.offset ∧ (evs.flatten.drop (f.offset - off)).take (P.cellsOf f.type) = ev := by
  intro fs
  induction fs with
  | nil => intro off _ evs _ _ i f ev hf; simp at hf
  | cons g fs ih =>
    intro off h evs hl hlen i f ev hf he
    simp only [layOk, Bool.and_eq_true] at h
    have h1 : g.offset = off := Nat.eq_of_beq_eq_true h.1
    rcases evs with _ | ⟨e0, evs⟩
    · simp at hl
    have hl0 : e0.length = P.cellsOf g.type := hlen 0 g e0 rfl rfl
    cases i with
    | zero =>
      simp at hf he
      subst hf he
      refine ⟨by omega, ?_⟩
      rw [h1, Nat.sub_self, List.drop_zero, List.flatten_cons, ← hl0, List.take_left]
    | succ i =>
      obtain ⟨g1, g2⟩ := ih _ h.2 evs (by simpa using hl) (fun i f ev a b => hlen (i + 1) f ev (by simpa using a) (by simpa using b)) i f ev (by simpa using hf) (by simpa using he)
      refine ⟨by omega, ?_⟩
      rw [List.flatten_cons, List.drop_append, List.drop_of_length_le (by omega), List.nil_append, show f.offset - off - e0.length = f.offset - (off + P.cellsOf g.type) by omega]
      exact g2
theorem lay_fit {n : Nat} : ∀ (fs : List Field) (off : Nat), layOk P off fs n = true → off ≤ n ∧ ∀ f ∈ fs, f.offset + P.cellsOf f.type ≤ n := by
  intro fs
  induction fs with
  | nil => intro off h; exact ⟨Nat.le_of_eq (Nat.eq_of_beq_eq_true h), fun f hf => by cases hf⟩
  | cons g fs ih =>
    intro off h
    simp only [layOk, Bool.and_eq_true] at h
    have h1 : g.offset = off := Nat.eq_of_beq_eq_true h.1
    obtain ⟨a, b⟩ := ih _ h.2
    refine ⟨by omega, fun f hf => ?_⟩
    rcases List.mem_cons.1 hf with rfl | hf
    · omega
    · exact b f hf
theorem build_struct {n : Nat} {fs : Array Field} {t : TypeId} (he : ∀ f ∈ fs.toList, Builds H enc P W n f.type) (hlay : layOk P 0 fs.toList (P.cellsOf t) = true) (hu : P.underlying t = some (.struct fs)) : Builds H enc P W (n + 1) t := by
  intro cs d ps h ι hp B
  have h : (if cs.length = P.cellsOf t then (fs.toList.mapM fun f => DataW.trod enc P W 0 (fun _ => true) true n f.type ((cs.drop f.offset).take (P.cellsOf f.type))).map fun xs => (DataW.agg (xs.map (·.1)), xs.flatMap (·.2)) else none) = some (d, ps) := by
    unfold DataW.trod at h
    rw [hu] at h
    exact h
  split at h
  · rename_i hc
    obtain ⟨xs, h1, h2⟩ := Option.map_eq_some_iff.1 h
    injection h2 with h2 _
    subst h2
    have l1 := Lib.mapM_length h1
    let l : List (TypeId × List Value × DataW H) := (fs.toList.zip (xs.map (·.1))).map fun p => (p.1.type, (cs.drop p.1.offset).take (P.cellsOf p.1.type), p.2)
    have hll : l.length = fs.toList.length := by simp [l, l1]
    have lget : ∀ i (hi : i < l.length), ∃ f x, fs.toList[i]? = some f ∧ xs[i]? = some x ∧ l[i] = (f.type, (cs.drop f.offset).take (P.cellsOf f.type), x.1) ∧ DataW.trod enc P W 0 (fun _ => true) true n f.type ((cs.drop f.offset).take (P.cellsOf f.type)) = some x := by
      intro i hi
      have hi1 : i < fs.toList.length := by omega
      have hi2 : i < xs.length := by omega
      obtain ⟨b, e1, e2⟩ := Lib.mapM_at h1 i _ (List.getElem?_eq_getElem hi1)
      rw [List.getElem?_eq_getElem hi2] at e1
      obtain rfl := Option.some.inj e1
      exact ⟨_, _, List.getElem?_eq_getElem hi1, List.getElem?_eq_getElem hi2, by simp [l], e2⟩
    obtain ⟨ι1, h3, evs, E1, B1, L1, V1, O1, D1⟩ := build_list l (fun p hpm => by
      obtain ⟨i, hi, rfl⟩ := List.getElem_of_mem hpm
      obtain ⟨f, x, a1, a2, a3, a4⟩ := lget i hi
      rw [a3]
      exact ⟨he f (List.mem_of_getElem? a1), _, a4⟩) ι hp B
    have hcells : l.map (·.2.1) = fs.toList.map fun f => (cs.drop f.offset).take (P.cellsOf f.type) := by
      refine List.ext_getElem (by simp [hll]) fun i hi hi' => ?_
      have hi3 : i < l.length := by simpa using hi
      obtain ⟨f, x, a1, a2, a3, a4⟩ := lget i hi3
      have hi4 : i < fs.toList.length := by omega
      have hf : fs.toList[i] = f := by rw [List.getElem?_eq_getElem hi4] at a1; exact Option.some.inj a1
      simp only [List.getElem_map]
      rw [a3, hf]
    rw [hcells, lay_flat fs.toList 0 hlay cs hc, List.drop_zero] at V1
    refine ⟨ι1, h3, evs.flatten, E1, B1, V1, O1, ?_⟩
    unfold DE
    rw [hu]
    have hlen : ∀ (i : Nat) f ev, fs.toList[i]? = some f → evs[i]? = some ev → ev.length = P.cellsOf f.type := by
      intro i f ev hf hev
      have hi : i < l.length := by have := (List.getElem?_eq_some_iff.1 hf).1; omega
      obtain ⟨ev', e1, e2, _⟩ := D1 i hi
      rw [hev] at e1
      obtain rfl := Option.some.inj e1
      obtain ⟨f', x, a1, a2, a3, a4⟩ := lget i hi
      rw [hf] at a1
      obtain rfl := Option.some.inj a1
      rw [← e2.1, a3]
      have hfit := (lay_fit fs.toList 0 hlay).2 f (List.mem_of_getElem? hf)
      show ((cs.drop f.offset).take (P.cellsOf f.type)).length = _
      rw [List.length_take, List.length_drop]; omega
    refine ⟨by rw [← V1.1]; exact hc, by simp [l1], fun i hi f hf => ?_⟩
    have hi2 : i < l.length := by simp at hi; omega
    obtain ⟨ev, e1, e2, e3⟩ := D1 i hi2
    obtain ⟨f', x, a1, a2, a3, a4⟩ := lget i hi2
    have hf' : fs.toList[i]? = some f := by rw [Array.getElem?_toList]; exact hf
    rw [hf'] at a1
    obtain rfl := Option.some.inj a1
    have := (lay_part fs.toList 0 hlay evs (by omega) hlen i f ev hf' e1).2
    rw [Nat.sub_zero] at this
    rw [this]
    rw [a3] at e3
    have hx : (xs.map (·.1))[i]'(by simpa using hi) = x.1 := by
      have hi3 : i < xs.length := by simpa using hi
      rw [List.getElem?_eq_getElem hi3] at a2
      obtain rfl := Option.some.inj a2
      simp
    rw [hx]; exact e3
  · cases h
/-- The parts of a struct. -/
theorem DE_struct {h : Hp} {n : Nat} {t : TypeId} {fs : Array Field} (hu : P.underlying t = some (.struct fs)) {cs : List Value} {d : DataW H} (hd : DE P h (n + 1) t cs d) :
    cs.length = P.cellsOf t ∧ ∀ (i : Nat) (f : Field), fs[i]? = some f → ∃ d' : DataW H, DE P h n f.type ((cs.drop f.offset).take (P.cellsOf f.type)) d' := by
  unfold DE at hd
  rw [hu] at hd
  split at hd
  all_goals first | (rename_i heq; cases heq; done) | skip
  · rename_i fs' parts heq
    injection heq with heq; injection heq with heq
    subst heq
    obtain ⟨h1, h2, h3⟩ := hd
    refine ⟨h1, fun i f hf => ?_⟩
    have hi : i < parts.length := by rw [h2]; exact (Array.getElem?_eq_some_iff.1 hf).1
    exact ⟨_, h3 i hi f hf⟩
  all_goals first | exact hd.elim | skip
end
end Go.Ev
/- A law's arguments, as the evaluator's memory: rows. -/
namespace Go.Ev
open Go Go.ChangeShapes Go.WideShapes Go.ChangeAt Go.RowKit
section
variable {H : Type} {enc : TypeId × Value → H} {P : Program} {W : World}
theorem row_flat {w : Nat} : ∀ (m : Nat) (cs : List Value), cs.length = m * w → ((List.range m).map fun i => (cs.drop (i * w)).take w).flatten = cs := by
  intro m
  induction m with
  | zero => intro cs h; rw [Nat.zero_mul] at h; rw [List.length_eq_zero_iff.1 h]; rfl
  | succ m ih =>
    intro cs h
    have e : cs = cs.take (m * w) ++ cs.drop (m * w) := (List.take_append_drop ..).symm
    have hm : (cs.take (m * w)).length = m * w := by rw [List.length_take, h, Nat.add_mul]; omega
    rw [List.range_succ, List.map_append, List.flatten_append]
    have e1 : ((List.range m).map fun i => (cs.drop (i * w)).take w) = (List.range m).map fun i => ((cs.take (m * w)).drop (i * w)).take w := by
      refine List.map_congr_left fun i hi => ?_
      have hi := List.mem_range.1 hi
      have : (i + 1) * w ≤ m * w := Nat.mul_le_mul_right w hi
      rw [Nat.add_mul] at this
      rw [List.drop_take, List.take_take, Nat.min_eq_left (by omega)]
    rw [e1, ih _ hm]
    simp only [List.map_cons, List.map_nil, List.flatten_cons, List.flatten_nil, List.append_nil]
    rw [List.take_of_length_le (l := cs.drop (m * w)) (by rw [List.length_drop, h, Nat.add_mul]; omega)]
    exact List.take_append_drop ..
theorem build_array {n m : Nat} {e t : TypeId} (he : Builds H enc P W n e) (hsz : P.cellsOf t = m * P.cellsOf e) (hu : P.underlying t = some (.array m e)) : Builds H enc P W (n + 1) t := by
  intro cs d ps h ι hp B
  have h : (if cs.length = P.cellsOf t then ((List.range m).mapM fun i => DataW.trod enc P W 0 (fun _ => true) true n e ((cs.drop (i * P.cellsOf e)).take (P.cellsOf e))).map fun xs => (DataW.agg (xs.map (·.1)), xs.flatMap (·.2)) else none) = some (d, ps) := by
    unfold DataW.trod at h
    rw [hu] at h
    exact h
  split at h
  · rename_i hc
    obtain ⟨xs, h1, h2⟩ := Option.map_eq_some_iff.1 h
    injection h2 with h2 _
    subst h2
    have l1 := Lib.mapM_length h1
    rw [List.length_range] at l1
    let l : List (TypeId × List Value × DataW H) := (List.range m).map fun i => (e, (cs.drop (i * P.cellsOf e)).take (P.cellsOf e), ((xs.map (·.1))[i]?).getD .nil)
    have hll : l.length = m := by simp [l]
    have lget : ∀ i (hi : i < l.length), ∃ x, xs[i]? = some x ∧ l[i] = (e, (cs.drop (i * P.cellsOf e)).take (P.cellsOf e), x.1) ∧ DataW.trod enc P W 0 (fun _ => true) true n e ((cs.drop (i * P.cellsOf e)).take (P.cellsOf e)) = some x := by
      intro i hi
      have hi1 : i < m := by omega
      have hi2 : i < xs.length := by omega
      obtain ⟨b, e1, e2⟩ := Lib.mapM_at h1 i i (by simp [hi1])
      rw [List.getElem?_eq_getElem hi2] at e1
      obtain rfl := Option.some.inj e1
      exact ⟨_, List.getElem?_eq_getElem hi2, by simp [l, hi2], e2⟩
    obtain ⟨ι1, h3, evs, E1, B1, L1, V1, O1, D1⟩ := build_list l (fun p hpm => by
      obtain ⟨i, hi, rfl⟩ := List.getElem_of_mem hpm
      obtain ⟨x, a2, a3, a4⟩ := lget i hi
      rw [a3]
      exact ⟨he, _, a4⟩) ι hp B
    have hcells : l.map (·.2.1) = (List.range m).map fun i => (cs.drop (i * P.cellsOf e)).take (P.cellsOf e) := by simp [l]
    rw [hcells, row_flat m cs (by rw [hc, hsz])] at V1
    refine ⟨ι1, h3, evs.flatten, E1, B1, V1, O1, ?_⟩
    unfold DE
    rw [hu]
    have hw : ∀ x ∈ evs, x.length = P.cellsOf e := by
      intro x hx
      obtain ⟨i, hi, rfl⟩ := List.getElem_of_mem hx
      obtain ⟨ev, e1, e2, _⟩ := D1 i (by omega)
      rw [List.getElem?_eq_getElem hi] at e1
      obtain rfl := Option.some.inj e1
      obtain ⟨x, a2, a3, a4⟩ := lget i (by omega)
      rw [← e2.1, a3]
      have : (i + 1) * P.cellsOf e ≤ m * P.cellsOf e := Nat.mul_le_mul_right _ (by omega)
      rw [Nat.add_mul] at this
      show ((cs.drop (i * P.cellsOf e)).take (P.cellsOf e)).length = _
      rw [List.length_take, List.length_drop, hc, hsz]; omega
    refine ⟨by rw [← V1.1]; exact hc, by simp [l1], fun i hi => ?_⟩
    have hi2 : i < l.length := by simp at hi; omega
    obtain ⟨ev, e1, e2, e3⟩ := D1 i hi2
    obtain ⟨x, a2, a3, a4⟩ := lget i hi2
    rw [(flat_row hw).2 i ev e1]
    rw [a3] at e3
    have hx : (xs.map (·.1))[i]'(by simpa using hi) = x.1 := by
      have hi3 : i < xs.length := by simpa using hi
      rw [List.getElem?_eq_getElem hi3] at a2
      obtain rfl := Option.some.inj a2
      simp
    rw [hx]; exact e3
  · cases h
/-- Cells are whole numbers of a kind, each in its range. -/
def AllInt (k : IntKind) (cs : List Value) : Prop := ∀ v ∈ cs, ∃ x, v = .int k x ∧ (Lit.int k x).wf = true
theorem AllInt.list {k : IntKind} : ∀ {cs : List Value}, AllInt k cs → ∃ xs : List Int, cs = xs.map (Value.int k) ∧ ∀ x ∈ xs, (Lit.int k x).wf = true := by
  intro cs
  induction cs with
  | nil => intro _; exact ⟨[], rfl, fun x h => by cases h⟩
  | cons v cs ih =>
    intro h
    obtain ⟨x, rfl, hx⟩ := h v (List.mem_cons_self ..)
    obtain ⟨xs, rfl, hxs⟩ := ih fun w hw => h w (List.mem_cons_of_mem _ hw)
    exact ⟨x :: xs, rfl, fun y hy => by
      rcases List.mem_cons.1 hy with rfl | hy
      · exact hx
      · exact hxs y hy⟩
theorem DE_allInt {h : Hp} {n : Nat} {t : TypeId} {k : IntKind} (hu : P.underlying t = some (.int k)) {cs : List Value} {d : DataW H} (hd : DE P h n t cs d) : AllInt k cs := by
  obtain ⟨x, rfl, hx⟩ := DE_int hu hd
  intro v hv
  exact ⟨x, List.mem_singleton.1 hv, hx⟩
/-- A row's cells are those of its parts. -/
theorem DE_array {h : Hp} {n m : Nat} {t e : TypeId} (hu : P.underlying t = some (.array m e)) (hsz : P.cellsOf t = m * P.cellsOf e) {k : IntKind} (he : ∀ n cs (d : DataW H), DE P h n e cs d → AllInt k cs) {cs : List Value} {d : DataW H} (hd : DE P h n t cs d) : cs.length = P.cellsOf t ∧ AllInt k cs := by
  cases n with
  | zero => exact hd.elim
  | succ n =>
    unfold DE at hd
    rw [hu] at hd
    split at hd
    all_goals first | (rename_i heq; cases heq; done) | skip
    · rename_i m' e' parts heq
      injection heq with heq; injection heq with h1 h2
      subst h1 h2
      obtain ⟨h1, h2, h3⟩ := hd
      refine ⟨h1, fun v hv => ?_⟩
      obtain ⟨j, hj, rfl⟩ := List.getElem_of_mem hv
      have hw : 0 < P.cellsOf e := by
        rcases Nat.eq_zero_or_pos (P.cellsOf e) with h0 | h0
        · rw [h1, hsz, h0] at hj; omega
        · exact h0
      have hi : j / P.cellsOf e < parts.length := by
        rw [h2]
        exact Nat.div_lt_of_lt_mul (by rw [Nat.mul_comm, ← hsz, ← h1]; exact hj)
      refine he _ _ _ (h3 _ hi) _ ?_
      have hmod := Nat.mod_lt j hw
      have hdm := Nat.div_add_mod j (P.cellsOf e)
      refine List.mem_iff_getElem?.2 ⟨j % P.cellsOf e, ?_⟩
      rw [List.getElem?_take_of_lt hmod, List.getElem?_drop, Nat.mul_comm, hdm, List.getElem?_eq_getElem hj]
    all_goals first | exact hd.elim | skip
theorem wf_rng {k : IntKind} {x : Int} (h : (Lit.int k x).wf = true) : k.min ≤ x ∧ x ≤ k.max := by
  have h : (decide (k.min ≤ x) && decide (x ≤ k.max)) = true := h
  simpa using h
end
end Go.Ev
namespace Go.Proofs.YtfgfhplgnfbaaaaDoor
open Go.Ev
theorem works_ev : saysTrue (evCall Tryd.prog 1000 100 27 [] h0) = true := by kernel_rfl
end Go.Proofs.YtfgfhplgnfbaaaaDoor
/- 'works' is answered beforehand. -/
namespace Go.Proofs.YtfgfhplgnfbaaaaDoor
open Go Go.Ev
theorem h0_get (o : Nat) (x : Ob) (h : h0.get o = some x) : o = 0 ∧ x = .cells tab 0 .ro := by
  have h : (Tr.set (Tr.full none 64) 0 (some (Ob.cells tab 0 .ro))).get none o = some x := h
  rw [Tr.get_set] at h
  split at h
  · split at h
    · exact ⟨‹_›, (Option.some.inj h).symm⟩
    · cases h
  · rw [Tr.get_full] at h; cases h
theorem tab_flat : tab.all flat = true := by kernel_rfl
theorem tab_one : tab.all one = true := by kernel_rfl
/-- 'works' is true, wherever the table stands. -/
theorem works_calls {h : Hp} (_ : 0 < h.nx) (hh : h.get 0 = some (.cells tab 0 .ro)) {iota : Inj} {w : World} (R : RH Tryd.prog iota h w) : Calls Tryd.prog 27 #[] w fun e w' => e = .returned (.bool true) ∧ Went Tryd.prog h iota w h iota w' := by
  have hev := works_ev
  cases hr : evCall Tryd.prog 1000 100 27 [] h0 with
  | none => rw [hr] at hev; cases hev
  | some r =>
    obtain ⟨v, h1⟩ := r
    rw [hr] at hev
    obtain rfl : v = .bool true := by
      cases v with
      | bool b => have : b = true := hev; rw [this]
      | _ => cases hev
    exact closed_call mixed noNum (fn := Tryd.f27) Tryd.func27 (by kernel_rfl) hr rfl rfl (fun o x ho => ⟨tab, 0, (h0_get o x ho).2, tab_flat⟩) (fun o x ho => by
      obtain ⟨rfl, rfl⟩ := h0_get o x ho
      exact ⟨hh, Nat.zero_lt_one⟩) (by rw [gsz]; exact Nat.le_refl _) R
def isTab : List Value → List Value → Bool
  | [], [] => true
  | .int .u8 a :: l, .int .u8 b :: r => eqI a b && isTab l r
  | _, _ => false
theorem isTab_eq : ∀ (l r : List Value), isTab l r = true → l = r := by
  intro l
  induction l with
  | nil => intro r h; cases r with
    | nil => rfl
    | cons => simp [isTab] at h
  | cons a l ih =>
    intro r h
    unfold isTab at h
    split at h
    · rename_i h2; cases h2
    · rename_i x l2 y r2 h2
      injection h2 with e1 e2
      subst e1 e2
      rw [Bool.and_eq_true, eqI_eq] at h
      rw [ih _ h.2, (by simpa using h.1 : x = y)]
    · cases h
/-- The one call that is answered beforehand. -/
noncomputable def Ow : CallF := fun f args h => bif Nat.beq f 27 then (match args, h.get 0 with
  | [], some (.cells l 0 .ro) => bif Nat.blt 0 h.nx && isTab l tab then some (.bool true, h) else none
  | _, _ => none) else none
set_option maxRecDepth 100000 in
theorem Ow_ok : COk Tryd.prog Ow := by
  intro f args h v h' hs iota w args' R ha o a next Q hn
  unfold Ow at hs
  cases hf : Nat.beq f 27 with
  | false => rw [hf, cond_false] at hs; cases hs
  | true =>
    obtain rfl : f = 27 := Nat.eq_of_beq_eq_true hf
    rw [hf, cond_true] at hs
    split at hs
    · rename_i l hg
      obtain ⟨ht, h2⟩ := cond_some hs
      rw [Bool.and_eq_true] at ht
      injection h2 with h2
      injection h2 with e1 e2
      subst e1 e2
      obtain rfl := isTab_eq _ _ ht.2
      obtain rfl := List.length_eq_zero_iff.1 ha.1
      rw [run_callFunc noNum Tryd.func27 (by kernel_rfl) ([] : List Value).toArray w]
      refine (works_calls (by simpa using ht.1) hg R).mono fun e w' ⟨he, g⟩ => ?_
      subst he
      exact hn iota _ w' g (.flat rfl)
    · cases hs
theorem Ow_oth (f : FuncId) (args : List Value) (h : Hp) (hf : f ≠ 27) : Ow f args h = none := by
  unfold Ow
  have : Nat.beq f 27 = false := by rw [Bool.eq_false_iff]; intro hh; exact hf (Nat.eq_of_beq_eq_true hh)
  rw [this]; rfl
theorem tab_self : isTab tab tab = true := by kernel_rfl
theorem Ow_works {h : Hp} (hn : 0 < h.nx) (hh : h.get 0 = some (.cells tab 0 .ro)) : EvC Tryd.prog Ow 27 [] h (.bool true) h := by
  refine ⟨0, ?_⟩
  show Ow 27 [] h = _
  unfold Ow
  show (match ([] : List Value), h.get 0 with
    | [], some (.cells l 0 .ro) => bif Nat.blt 0 h.nx && isTab l tab then some (Value.bool true, h) else none
    | _, _ => none) = _
  rw [hh]
  simp only [tab_self, show Nat.blt 0 h.nx = true by simpa using hn, Bool.and_self, cond_true]
end Go.Proofs.YtfgfhplgnfbaaaaDoor
/- From the evaluator's word on a law of layer 20 to the kit's. -/
namespace Go.Proofs.YtfgfhplgnfbaaaaDoor
open Go Go.Ev Go.ChangeShapes Go.WideShapes Go.ChangeAt Go.RowKit
theorem own : ownKnob Tryd.prog.godebug = none := by kernel_rfl
theorem gTab : Tryd.prog.globalNamed "math/bits.deBruijn32tab" = some 0 := by kernel_rfl
theorem gTabType : (Tryd.prog.globals[0]?).map (·.type) = some 156 := by kernel_rfl
theorem cellsArr : Tryd.prog.cellsOf 156 = 32 := by kernel_rfl
theorem cellsOne : Tryd.prog.cellsOf 5 = 1 := by kernel_rfl
def nums : List Int := [0,1,28,2,29,14,24,3,30,22,20,15,25,17,4,8,31,27,13,23,21,19,16,7,26,12,18,6,11,5,10,9]
set_option maxRecDepth 100000 in
theorem kids : Kids Tryd.prog (· < Tryd.prog.types.size) := kids_rows (by kernel_rfl) (by kernel_rfl)
set_option maxRecDepth 100000 in
theorem full : ∀ t e, t < Tryd.prog.types.size → Tryd.prog.underlying t = some (.slice e) → 0 < Tryd.prog.cellsOf e := slices_full_of _ (by kernel_rfl)
theorem tab_cells {W : World} (h : Lib.TabIs Tryd.prog W "math/bits.deBruijn32tab" .u8 nums) : ∀ j x, tab[j]? = some x → W.cell? ⟨0, j, none⟩ = some x := by
  intro j x hj
  have hjl : j < 32 := (List.getElem?_eq_some_iff.1 hj).1
  have hn : j < nums.length := hjl
  have := h.cell gTab j hn
  rw [this]
  have e : tab = nums.map fun x => Value.int .u8 x := rfl
  rw [e, List.getElem?_map, List.getElem?_eq_getElem hn] at hj
  rw [List.getD_eq_getElem?_getD, List.getElem?_eq_getElem hn]
  exact hj
/-- The names at the start: the one package-level variable. -/
def iota0 : Inj := fun o => if o = 0 then some ⟨0, 0, 0, 0⟩ else none
theorem start_RH {W : World} (ht : ∀ j x, tab[j]? = some x → W.cell? ⟨0, j, none⟩ = some x) : RH Tryd.prog iota0 h0 W := by
  have h00 := ht 0 _ rfl
  have hblk : ∃ c e fr, W.heap[0]? = some (.cells c e fr) := by
    cases hb : W.heap[0]? with
    | none => simp [World.cell?, hb] at h00
    | some y =>
      cases y with
      | cells c e fr => exact ⟨c, e, fr, rfl⟩
      | _ => simp [World.cell?, hb] at h00
  obtain ⟨c, e, fr, hb⟩ := hblk
  refine ⟨fun o x ho => ?_, fun o q x y vo vq _ ho hx => ?_, fun o ho => if_neg (by have : 1 ≤ o := ho; omega), fun g hg => ?_, by rw [gsz]; exact Nat.le_refl _⟩
  · obtain ⟨rfl, rfl⟩ := h0_get o x ho
    refine ⟨Nat.zero_lt_one, ⟨0, 0, 0, 0⟩, rfl, tab_one, c, e, fr, hb, fun j x hx => ?_, fun h => absurd rfl h, fun h => by cases h⟩
    have := ht j x hx
    refine ⟨x, ?_, .flat (all_get tab_flat hx)⟩
    simpa [World.cell?, hb] using this
  · obtain ⟨rfl, rfl⟩ := h0_get o x ho
    cases hx
  · rw [gsz] at hg
    obtain rfl : g = 0 := by omega
    exact ⟨0, 0, rfl⟩
set_option maxRecDepth 100000 in
theorem h0_tab : h0.get 0 = some (.cells tab 0 .ro) := by kernel_rfl
set_option maxRecDepth 100000 in
theorem start_base {W : World} (ht : ∀ j x, tab[j]? = some x → W.cell? ⟨0, j, none⟩ = some x) : Base Tryd.prog iota0 h0 W :=
  ⟨start_RH ht, fun o x ho => by obtain ⟨rfl, rfl⟩ := h0_get o x ho; rfl, rfl, ⟨_, ⟨0, 0, 0, 0⟩, h0_tab, rfl, Nat.zero_lt_one, tab, 0, rfl⟩⟩
set_option maxRecDepth 100000 in
/-- A law that the evaluator finds true, wherever its arguments lie, is true. -/
theorem law_calls {H : Type} {enc : TypeId × Value → H} {f : FuncId} {fn : Func} (hf : Tryd.prog.funcs[f]? = some fn) (hb : fn.body.isSome = true) (h27 : f ≠ 27) {W : World} (ht : ∀ j x, tab[j]? = some x → W.cell? ⟨0, j, none⟩ = some x)
    {ts : List TypeId} {args : Array Value} {ds : List (DataW H)} {p : List MemPlace} (hA : DataW.TrodAll enc Tryd.prog W 0 (fun _ => true) true ts args.toList ds p) (hbd : ∀ t ∈ ts, ∀ n, Builds H enc Tryd.prog W n t) (hs : ∀ (i : Nat) t v, ts[i]? = some t → args.toList[i]? = some v → Shaped1 Tryd.prog t v)
    (hR : ∀ (h : Hp) (evs : List Value), Tb h → h.Ok → h.gd = [] → DEs Tryd.prog h ts evs ds → Ret Tryd.prog Ow f evs h fun v _ => v = .bool true) :
    Calls Tryd.prog f args W fun e W' => e = .returned (.bool true) ∧ Below W.heap.size W W' := by
  obtain ⟨ι, h, evs, E, B, V, D⟩ := args_build hA hbd hs iota0 h0 (start_base ht)
  have hg : h.gd = [] := B.gd
  have htb : Tb h := ⟨Nat.lt_of_lt_of_le Nat.zero_lt_one E.nx, by rw [E.get 0 Nat.zero_lt_one]; exact h0_tab⟩
  have hfr : h.Fresh := fun o ho => by
    cases ho2 : h.get o with
    | none => rfl
    | some x => have := (B.rh.live o x ho2).1; omega
  obtain ⟨v, h', he, rfl⟩ := hR h evs htb ⟨fun q hq => (by rw [hg] at hq; cases hq), hfr⟩ hg D
  have := calls_of_EvC mixed noNum Ow_ok hf hb (Ow_oth f evs h h27) he B.rh V
  have e : args.toList.toArray = args := by simp
  rw [e] at this
  refine this.mono fun e W' ⟨ι', v', h1, h2, h3⟩ => ?_
  obtain rfl := VR.of_flat rfl h3
  exact ⟨h1, h2.fr.os, h2.fr.tape, h2.fr.output, h2.fr.size, fun k hk => h2.fr.rest k hk fun o x _ ho hx => by rw [B.ro o x ho] at hx; cases hx⟩
/-- A world for the witness: the table holds what its initialiser lays. -/
noncomputable def laidWorld (os : Os) : World :=
  { World.holding Tryd.prog os ⟨#[], #[], []⟩ with heap := (World.holding Tryd.prog os ⟨#[], #[], []⟩).heap.modify 0 fun
      | .cells _ t frozen => .cells tab.toArray t frozen
      | o => o }
end Go.Proofs.YtfgfhplgnfbaaaaDoor
/- SatForms of layer 20 returns true, for every input: its law, by the contracts of what it calls. -/
namespace Go.Proofs.YtfgfhplgnfbaaaaDoor
open Go Go.Ev
theorem works_true {h : Hp} (ht : Tb h) : EvT Ow 27 [] h (.bool true) h := Ow_works ht.1 ht.2
/-! ### arguments -/
section
variable {H : Type} {enc : TypeId × Value → H} {W : World}
theorem build0 (t : TypeId) : Builds H enc Tryd.prog W 0 t := fun cs d ps h => by simp [DataW.trod] at h
end
end Go.Proofs.YtfgfhplgnfbaaaaDoor
/- Arguments by numbers: how they lie in memory. -/
namespace Go.Proofs.YtfgfhplgnfbaaaaDoor
open Go Go.Ev Go.ChangeShapes Go.WideShapes Go.ChangeAt Go.RowKit
theorem und5 : Tryd.prog.underlying 5 = some (.int .u8) := by kernel_rfl
theorem und22 : Tryd.prog.underlying 22 = some (.int .i8) := by kernel_rfl
theorem und23 : Tryd.prog.underlying 23 = some (.array 3 22) := by kernel_rfl
theorem und24 : Tryd.prog.underlying 24 = some (.array 14 23) := by kernel_rfl
theorem sz23 : Tryd.prog.cellsOf 23 = 3 * Tryd.prog.cellsOf 22 := by kernel_rfl
theorem sz24 : Tryd.prog.cellsOf 24 = 14 * Tryd.prog.cellsOf 23 := by kernel_rfl
theorem n24 : Tryd.prog.cellsOf 24 = 42 := by kernel_rfl
theorem agg5 : aggT Tryd.prog 5 ≠ some true := by unfold aggT; rw [und5]; simp
theorem agg22 : aggT Tryd.prog 22 ≠ some true := by unfold aggT; rw [und22]; simp
section
variable {H : Type} {enc : TypeId × Value → H} {W : World}
theorem bld5 : ∀ n, Builds H enc Tryd.prog W n 5
  | 0 => build0 5
  | _ + 1 => build_int und5
theorem bld22 : ∀ n, Builds H enc Tryd.prog W n 22
  | 0 => build0 22
  | _ + 1 => build_int und22
theorem bld23 : ∀ n, Builds H enc Tryd.prog W n 23
  | 0 => build0 23
  | n + 1 => build_array (bld22 n) sz23 und23
theorem bld24 : ∀ n, Builds H enc Tryd.prog W n 24
  | 0 => build0 24
  | n + 1 => build_array (bld23 n) sz24 und24
theorem agg_of_list {v : Value} {l : List Value} (h : v.cells.toList = l) (hl : l.length ≠ 1) : v = .agg l.toArray := by
  cases v with
  | agg cs =>
    have h : cs.toList = l := h
    obtain ⟨k⟩ := cs
    have h : k = l := h
    rw [h]
  | _ => exact absurd (by rw [← h]; rfl) hl
theorem byte_of {h : Hp} {n : Nat} {cs : List Value} {d : DataW H} (D : DE Tryd.prog h n 5 cs d) : ∃ x : Nat, cs = [.int .u8 (Int.ofNat x)] ∧ x < 256 := by
  obtain ⟨x, e, hx⟩ := DE_int und5 D
  have := wf_rng hx
  have m1 : IntKind.min .u8 = 0 := rfl
  have m2 : IntKind.max .u8 = 255 := rfl
  obtain ⟨n, rfl⟩ : ∃ n : Nat, x = Int.ofNat n := ⟨x.toNat, by simp only [Int.ofNat_eq_natCast]; omega⟩
  exact ⟨n, e, by simp only [Int.ofNat_eq_natCast] at *; omega⟩
theorem und73 : Tryd.prog.underlying 73 = some (.array 6 23) := by kernel_rfl
theorem sz73 : Tryd.prog.cellsOf 73 = 6 * Tryd.prog.cellsOf 23 := by kernel_rfl
theorem n73 : Tryd.prog.cellsOf 73 = 18 := by kernel_rfl
theorem n26 : Tryd.prog.cellsOf 26 = 44 := by kernel_rfl
theorem n5 : Tryd.prog.cellsOf 5 = 1 := by kernel_rfl
theorem bld73 : ∀ n, Builds H enc Tryd.prog W n 73
  | 0 => build0 73
  | n + 1 => build_array (bld23 n) sz73 und73
set_option maxRecDepth 100000 in
theorem bld26 : ∀ n, Builds H enc Tryd.prog W n 26
  | 0 => build0 26
  | n + 1 => build_struct (fun f hf => by
      simp at hf
      rcases hf with rfl | rfl | rfl
      · exact bld5 n
      · exact bld5 n
      · exact bld24 n) (by kernel_rfl) Tryd.underlying26
theorem int22 {h : Hp} : ∀ n cs (d : DataW H), DE Tryd.prog h n 22 cs d → AllInt .i8 cs := fun _ _ _ D => DE_allInt und22 D
theorem int23 {h : Hp} : ∀ n cs (d : DataW H), DE Tryd.prog h n 23 cs d → AllInt .i8 cs := fun _ _ _ D => (DE_array und23 sz23 int22 D).2
theorem i8_rng {x : Int} (h : (Lit.int .i8 x).wf = true) : -128 ≤ x ∧ x < 128 := by
  have := wf_rng h
  have m1 : IntKind.min .i8 = -128 := rfl
  have m2 : IntKind.max .i8 = 127 := rfl
  omega
set_option maxRecDepth 100000 in
/-- A puzzle. -/
theorem puz_of {h : Hp} {n : Nat} {v : Value} {d : DataW H} (D : DE Tryd.prog h n 26 v.cells.toList d) : ∃ vars many cl, v = .agg (puzV vars many cl).toArray ∧ PuzOk vars many cl := by
  cases n with
  | zero => exact D.elim
  | succ n =>
    obtain ⟨hl, hf⟩ := DE_struct Tryd.underlying26 D
    rw [n26] at hl
    obtain ⟨d0, D0⟩ := hf 0 _ rfl
    obtain ⟨d1, D1⟩ := hf 1 _ rfl
    obtain ⟨d2, D2⟩ := hf 2 _ rfl
    obtain ⟨x, e0, hx⟩ := byte_of D0
    obtain ⟨y, e1, hy⟩ := byte_of D1
    obtain ⟨l2, a2⟩ := DE_array und24 sz24 int23 D2
    obtain ⟨cl, e2, hcl⟩ := a2.list
    have e0 : (v.cells.toList.drop 0).take 1 = [.int .u8 (Int.ofNat x)] := by rw [← n5]; exact e0
    have e1 : (v.cells.toList.drop 1).take 1 = [.int .u8 (Int.ofNat y)] := by rw [← n5]; exact e1
    have e2 : (v.cells.toList.drop 2).take 42 = cl.map (Value.int .i8) := by rw [← n24]; exact e2
    have e : v.cells.toList = puzV x y cl := by
      generalize v.cells.toList = cs at *
      rcases cs with _ | ⟨a, _ | ⟨b, r⟩⟩
      · simp at hl
      · simp at hl
      · simp at e0 e1 e2
        rw [List.take_of_length_le (by simp at hl; omega)] at e2
        rw [e0, e1, e2]; rfl
    have lcl : cl.length = 42 := by
      have := congrArg List.length e
      rw [hl] at this
      simp [puzV] at this; omega
    exact ⟨x, y, cl, agg_of_list e (by simp [puzV, lcl]), hx, hy, lcl, fun z hz => i8_rng (hcl z hz)⟩
/-- A row of rows of three small numbers. -/
theorem rows_of {h : Hp} {n m t : Nat} {v : Value} {d : DataW H} (hu : Tryd.prog.underlying t = some (.array m 23)) (hs : Tryd.prog.cellsOf t = m * Tryd.prog.cellsOf 23) {w : Nat} (hw : Tryd.prog.cellsOf t = w) (hw1 : w ≠ 1) (D : DE Tryd.prog h n t v.cells.toList d) : ∃ ls : List Int, v = .agg (ls.map (Value.int .i8)).toArray ∧ ls.length = w ∧ ∀ x ∈ ls, -128 ≤ x ∧ x < 128 := by
  obtain ⟨l2, a2⟩ := DE_array hu hs int23 D
  obtain ⟨ls, e, hls⟩ := a2.list
  have hl : ls.length = w := by
    have := congrArg List.length e
    rw [l2, hw] at this
    simpa using this.symm
  exact ⟨ls, agg_of_list e (by rw [List.length_map]; omega), hl, fun z hz => i8_rng (hls z hz)⟩
theorem small_of {h : Hp} {n : Nat} {cs : List Value} {d : DataW H} (D : DE Tryd.prog h n 22 cs d) : ∃ x, cs = [.int .i8 x] ∧ -128 ≤ x ∧ x < 128 := by
  obtain ⟨x, e, hx⟩ := DE_int und22 D
  exact ⟨x, e, i8_rng hx⟩
end
end Go.Proofs.YtfgfhplgnfbaaaaDoor
/- Conditions of functions' code, printed by a program of ours. -/
namespace Go.Proofs.YtfgfhplgnfbaaaaDoor
open Go Go.Ev
set_option maxRecDepth 100000
set_option linter.unusedVariables false
/-! sward/swardlaw20.SatProves -/
end Go.Proofs.YtfgfhplgnfbaaaaDoor
/- SatResolved of layer 20: the law. -/
namespace Go.Proofs.YtfgfhplgnfbaaaaDoor
open Go Go.Ev
theorem ret_ri {O : CallF} {f : FuncId} {az : List Value} {h : Hp} {xs : List Int} (r : Ret Tryd.prog O f az h (RInts h xs)) {K : Option Addr → Nat → Nat → Hp → Prop} (next : ∀ a n c h', IntsAt h' a n xs → Kp h.nx h h' → (∀ b off, a = some ⟨b, off, none⟩ → h.nx ≤ b) → K a n c h') : ∃ a n c, ∃ h', EvC Tryd.prog O f az h (.slice a n c) h' ∧ K a n c h' :=
  let ⟨_, h', e, a, n, c, hv, q1, q2, q3⟩ := r; ⟨a, n, c, h', hv ▸ e, next a n c h' q1 q2 q3⟩
abbrev Yes : Value → Hp → Prop := fun v _ => v = .bool true
section
variable {p0 p1 p2 p3 q0 q1 q2 q3 pw : Int} {h₀ : Hp} (ok : h₀.Ok) (ht : Tb h₀)
include ok ht
end
section
variable {x0 x1 x2 x3 y0 y1 y2 y3 : Int} (hx : ∀ x ∈ [x0, x1, x2, x3], -128 ≤ x ∧ x < 128) (hy : ∀ x ∈ [y0, y1, y2, y3], -128 ≤ x ∧ x < 128) {w : Nat} (hw : w < 256) {h₀ : Hp} (ok : h₀.Ok) (ht : Tb h₀)
include hx hy hw ok ht
end
end Go.Proofs.YtfgfhplgnfbaaaaDoor
/- Conditions of functions' code, printed by a program of ours. -/
namespace Go.Proofs.YtfgfhplgnfbaaaaDoor
open Go Go.Ev
set_option maxRecDepth 100000
set_option linter.unusedVariables false
/-! sward/swardlaw20.SatSound -/
noncomputable def b11 : Code := (Tryd.f11.body).getD .skip
noncomputable def stk11_0 : List KI := [.code (sub [1, 1, 1, 1, 1, 0, 1, 0] b11), .blk 0, .code (sub [1, 1, 1, 1, 1, 1] b11)]
noncomputable def stk11_1 : List KI := [.code (sub [1, 1, 1, 1, 1, 0, 1, 0, 0, 1, 1, 0, 0, 1, 1, 0, 1, 0] b11), .blk 2, .code (sub [1, 1, 1, 1, 1, 0, 1, 0, 0, 1, 1, 0, 0, 1, 1, 1] b11), .blk 1, .code (sub [1, 1, 1, 1, 1, 0, 1, 0, 0, 1, 1, 1] b11), .code (sub [1, 1, 1, 1, 1, 0, 1, 0] b11), .blk 0, .code (sub [1, 1, 1, 1, 1, 1] b11)]
noncomputable def stk11_2 : List KI := [.code (sub [1, 1, 1, 1, 1, 1, 1, 0, 0] b11), .code (sub [1, 1, 1, 1, 1, 1, 1, 0, 1] b11), .code (sub [1, 1, 1, 1, 1, 1, 1, 1] b11)]
noncomputable def stk11_3 : List KI := [.code (sub [1, 1, 1, 1, 1, 0, 1, 0, 0, 1, 1, 0, 0, 1, 1, 0, 1, 0, 0, 1, 1, 1] b11), .code (sub [1, 1, 1, 1, 1, 0, 1, 0, 0, 1, 1, 0, 0, 1, 1, 0, 1, 0] b11), .blk 2, .code (sub [1, 1, 1, 1, 1, 0, 1, 0, 0, 1, 1, 0, 0, 1, 1, 1] b11), .blk 1, .code (sub [1, 1, 1, 1, 1, 0, 1, 0, 0, 1, 1, 1] b11), .code (sub [1, 1, 1, 1, 1, 0, 1, 0] b11), .blk 0, .code (sub [1, 1, 1, 1, 1, 1] b11)]
noncomputable def stk11_4 : List KI := [.code (sub [1, 1, 1, 1, 1, 0, 1, 0, 0, 1, 1, 0, 0, 1, 1, 1, 1, 1] b11), .blk 1, .code (sub [1, 1, 1, 1, 1, 0, 1, 0, 0, 1, 1, 1] b11), .code (sub [1, 1, 1, 1, 1, 0, 1, 0] b11), .blk 0, .code (sub [1, 1, 1, 1, 1, 1] b11)]
noncomputable def stk11_5 : List KI := [.code (sub [1, 1, 1, 1, 1, 1, 1, 1, 0] b11), .code (sub [1, 1, 1, 1, 1, 1, 1, 1, 1] b11)]
noncomputable def stk11_6 : List KI := [.code (sub [1, 1, 1, 1, 1, 1, 1, 1, 1, 1, 0] b11), .code (sub [1, 1, 1, 1, 1, 1, 1, 1, 1, 1, 1] b11)]
def lv11 : List (Nat × List Nat) := [(0, [2, 3, 8, 9, 10, 11, 12, 13, 35, 36, 37]), (2, [2, 3, 8, 9, 10, 11, 12, 13, 14, 16, 35, 36, 37, 42, 43]), (1000024, [3, 8, 9, 10, 12, 13]), (1000014, [2, 3, 8, 9, 10, 11, 12, 13, 14, 16, 35, 36, 37, 42, 43]), (1000018, [2, 3, 8, 9, 10, 11, 12, 13, 19, 35, 36, 37]), (1000026, [3, 8, 9, 10, 12, 13]), (1000029, [3, 8, 9, 10, 13])]
def I11_0 (O : CallF) (Q : Value → Hp → Prop) (v0 : Array Value) (v1 : Array Value) (x2 : Int) (x3 : Int) (b9 : Nat) (f9 : Nat) (a10 : Option Addr) (n10 : Nat) (c10 : Nat) (a11 : Option Addr) (n11 : Nat) (c11 : Nat) (x12 : Int) (x13 : Int) (a35 : Option Addr) (n35 : Nat) (c35 : Nat) (x36 : Int) (x37 : Int) (h : Hp) : Prop := RKL Tryd.prog O Tryd.f11 stk11_0 188 [2, 3, 8, 9, 10, 11, 12, 13, 35, 36, 37] [(.int .u8 x2), (.int .i8 x3), (.bool false), (.pointer (some ⟨b9, f9, none⟩)), (.slice a10 n10 c10), (.slice a11 n11 c11), (.int .i64 x12), (.int .i64 x13), (.slice a35 n35 c35), (.int .i64 x36), (.int .i64 x37)] h Q
def I11_1 (O : CallF) (Q : Value → Hp → Prop) (v0 : Array Value) (v1 : Array Value) (x2 : Int) (x3 : Int) (b9 : Nat) (f9 : Nat) (a10 : Option Addr) (n10 : Nat) (c10 : Nat) (a11 : Option Addr) (n11 : Nat) (c11 : Nat) (x12 : Int) (x13 : Int) (x14 : Int) (a16 : Option Addr) (n16 : Nat) (c16 : Nat) (a35 : Option Addr) (n35 : Nat) (c35 : Nat) (x36 : Int) (x37 : Int) (x42_0 : Int) (x42_1 : Int) (x42_2 : Int) (x43 : Int) (h : Hp) : Prop := RKL Tryd.prog O Tryd.f11 stk11_1 188 [2, 3, 8, 9, 10, 11, 12, 13, 14, 16, 35, 36, 37, 42, 43] [(.int .u8 x2), (.int .i8 x3), (.bool false), (.pointer (some ⟨b9, f9, none⟩)), (.slice a10 n10 c10), (.slice a11 n11 c11), (.int .i64 x12), (.int .i64 x13), (.int .i64 x14), (.slice a16 n16 c16), (.slice a35 n35 c35), (.int .i64 x36), (.int .i64 x37), (.agg #[(.int .i8 x42_0), (.int .i8 x42_1), (.int .i8 x42_2)]), (.int .i64 x43)] h Q
def I11_2 (O : CallF) (Q : Value → Hp → Prop) (v0 : Array Value) (v1 : Array Value) (x2 : Int) (x3 : Int) (b9 : Nat) (f9 : Nat) (a10 : Option Addr) (n10 : Nat) (c10 : Nat) (x12 : Int) (x13 : Int) (h : Hp) : Prop := RKL Tryd.prog O Tryd.f11 stk11_2 188 [3, 8, 9, 10, 12, 13] [(.int .i8 x3), (.bool false), (.pointer (some ⟨b9, f9, none⟩)), (.slice a10 n10 c10), (.int .i64 x12), (.int .i64 x13)] h Q
def I11_3 (O : CallF) (Q : Value → Hp → Prop) (v0 : Array Value) (v1 : Array Value) (x2 : Int) (x3 : Int) (b9 : Nat) (f9 : Nat) (a10 : Option Addr) (n10 : Nat) (c10 : Nat) (a11 : Option Addr) (n11 : Nat) (c11 : Nat) (x12 : Int) (x13 : Int) (x14 : Int) (a16 : Option Addr) (n16 : Nat) (c16 : Nat) (a35 : Option Addr) (n35 : Nat) (c35 : Nat) (x36 : Int) (x37 : Int) (x42_0 : Int) (x42_1 : Int) (x42_2 : Int) (x43 : Int) (h : Hp) : Prop := RKL Tryd.prog O Tryd.f11 stk11_3 188 [2, 3, 8, 9, 10, 11, 12, 13, 14, 16, 35, 36, 37, 42, 43] [(.int .u8 x2), (.int .i8 x3), (.bool false), (.pointer (some ⟨b9, f9, none⟩)), (.slice a10 n10 c10), (.slice a11 n11 c11), (.int .i64 x12), (.int .i64 x13), (.int .i64 x14), (.slice a16 n16 c16), (.slice a35 n35 c35), (.int .i64 x36), (.int .i64 x37), (.agg #[(.int .i8 x42_0), (.int .i8 x42_1), (.int .i8 x42_2)]), (.int .i64 x43)] h Q
def I11_4 (O : CallF) (Q : Value → Hp → Prop) (v0 : Array Value) (v1 : Array Value) (x2 : Int) (x3 : Int) (b9 : Nat) (f9 : Nat) (a10 : Option Addr) (n10 : Nat) (c10 : Nat) (a11 : Option Addr) (n11 : Nat) (c11 : Nat) (x12 : Int) (x13 : Int) (a19 : Option Addr) (n19 : Nat) (c19 : Nat) (a35 : Option Addr) (n35 : Nat) (c35 : Nat) (x36 : Int) (x37 : Int) (h : Hp) : Prop := RKL Tryd.prog O Tryd.f11 stk11_4 188 [2, 3, 8, 9, 10, 11, 12, 13, 19, 35, 36, 37] [(.int .u8 x2), (.int .i8 x3), (.bool false), (.pointer (some ⟨b9, f9, none⟩)), (.slice a10 n10 c10), (.slice a11 n11 c11), (.int .i64 x12), (.int .i64 x13), (.slice a19 n19 c19), (.slice a35 n35 c35), (.int .i64 x36), (.int .i64 x37)] h Q
def I11_5 (O : CallF) (Q : Value → Hp → Prop) (v0 : Array Value) (v1 : Array Value) (x2 : Int) (x3 : Int) (b9 : Nat) (f9 : Nat) (a10 : Option Addr) (n10 : Nat) (c10 : Nat) (x12 : Int) (x13 : Int) (h : Hp) : Prop := RKL Tryd.prog O Tryd.f11 stk11_5 188 [3, 8, 9, 10, 12, 13] [(.int .i8 x3), (.bool false), (.pointer (some ⟨b9, f9, none⟩)), (.slice a10 n10 c10), (.int .i64 x12), (.int .i64 x13)] h Q
def I11_6 (O : CallF) (Q : Value → Hp → Prop) (v0 : Array Value) (v1 : Array Value) (x2 : Int) (x3 : Int) (b9 : Nat) (f9 : Nat) (a10 : Option Addr) (n10 : Nat) (c10 : Nat) (x13 : Int) (h : Hp) : Prop := RKL Tryd.prog O Tryd.f11 stk11_6 188 [3, 8, 9, 10, 13] [(.int .i8 x3), (.bool false), (.pointer (some ⟨b9, f9, none⟩)), (.slice a10 n10 c10), (.int .i64 x13)] h Q
def T11 (O : CallF) (Q : Value → Hp → Prop) (v0 : Array Value) (v1 : Array Value) (x2 : Int) (x3 : Int) (h : Hp) : Prop :=
  vreq (v0.toList.all one)
  (let g1 : Hp := h.add (.cells v0.toList 26 .fix)
  vreq (v1.toList.all one)
  (let g2 : Hp := g1.add (.cells v1.toList 73 .fix)
  ∃ l3', readAt g2 h.nx 0 44 = some l3' ∧
  ∃ x4', ∃ a5' n6' c7', ∃ h8', EvC Tryd.prog O 16 [(.agg l3'.toArray), (.int .i64 5)] g2 (.agg #[(.int .i64 x4'), (.slice a5' n6' c7')]) h8' ∧
  let g9 : Hp := h8'.add (.cells [(.int .i64 0), (.slice none 0 0)] 30 .fix)
  vreq (canW g9 h8'.nx 0 [(.int .i64 x4'), (.slice a5' n6' c7')])
  (let g10 : Hp := g9.wr h8'.nx 0 [(.int .i64 x4'), (.slice a5' n6' c7')]
  ∃ a11' n12' c13', readAt g10 h8'.nx 1 1 = some [(.slice a11' n12' c13')] ∧
  ∃ a14' n15' c16', ∃ h17', EvC Tryd.prog O 56 [(.slice a11' n12' c13')] g10 (.slice a14' n15' c16') h17' ∧
  ∃ a18' n19' c20', sliceV Tryd.prog h17' 73 (.pointer (some ⟨g1.nx, 0, none⟩)) none (some (.int .i64 (Int.tmod (wrapF .i64 x2) 7))) none = some (.slice a18' n19' c20') ∧
  I11_0 O Q v0 v1 x2 x3 h8'.nx 0 none 0 0 a14' n15' c16' 0 0 a18' n19' c20' (Int.ofNat n19') 0 h17')))
theorem rk11 {O Q} (v0 v1 x2 x3) {h : Hp} (hO : O 11 [(.agg v0), (.agg v1), (.int .u8 x2), (.int .i8 x3)] h = none) (hh : T11 O Q v0 v1 x2 x3 h) : Ret Tryd.prog O 11 [(.agg v0), (.agg v1), (.int .u8 x2), (.int .i8 x3)] h Q :=
  .of (c := b11) Tryd.func11 (by kernel_rfl) hO (V_ok (tb := lv11) (cuts := [14, 18, 24, 26, 29]) 500 (Eq.mp (by kernel_rfl) hh))
def T11_0 (O : CallF) (Q : Value → Hp → Prop) (v0 : Array Value) (v1 : Array Value) (x2 : Int) (x3 : Int) (b9 : Nat) (f9 : Nat) (a10 : Option Addr) (n10 : Nat) (c10 : Nat) (a11 : Option Addr) (n11 : Nat) (c11 : Nat) (x12 : Int) (x13 : Int) (a35 : Option Addr) (n35 : Nat) (c35 : Nat) (x36 : Int) (x37 : Int) (h : Hp) : Prop :=
  vcond (ltI x37 x36)
  (isNat x37 fun n101' =>
  isAddr a35 fun b102' f103' =>
  vreq (Nat.blt n101' n35)
  (∃ x104', ∃ x105', ∃ x106', readAt h b102' (f103' + (n101' * 3)) 3 = some [(.int .i8 x104'), (.int .i8 x105'), (.int .i8 x106')] ∧
  let g107 : Hp := h.add (.cells [(.int .i8 0), (.int .i8 0), (.int .i8 0)] 23 .fix)
  vreq (canW g107 h.nx 0 [(.int .i8 x104'), (.int .i8 x105'), (.int .i8 x106')])
  (let g108 : Hp := g107.wr h.nx 0 [(.int .i8 x104'), (.int .i8 x105'), (.int .i8 x106')]
  ∃ x109', ∃ x110', ∃ x111', readAt g108 h.nx 0 3 = some [(.int .i8 x109'), (.int .i8 x110'), (.int .i8 x111')] ∧
  I11_1 O Q v0 v1 x2 x3 b9 f9 a10 n10 c10 a11 n11 c11 x12 x13 x37 none 0 0 a35 n35 c35 x36 x37 x109' x110' x111' 0 g108)))
  (vcond (!(ltI x2 128))
  (vcond (eqI x13 0)
  (∃ q112', ∃ h113', EvC Tryd.prog O 57 [(.slice a11 n11 c11), (.slice none 0 0), (.slice none 0 0)] h (.bool q112') h113' ∧
  vcond (!q112')
  (let g114 : Hp := h113'.add (.cells [(.slice none 0 0)] 32 .fix)
  ∃ a115' n116' c117' h118', appendV Tryd.prog g114 28 28 (.slice a10 n10 c10) (.slice (some ⟨h113'.nx, 0, none⟩) 1 1) = some (.slice a115' n116' c117', h118') ∧
  I11_2 O Q v0 v1 x2 x3 b9 f9 a115' n116' c117' (Int.ofNat n10) 7 h118')
  (let g119 : Hp := h113'.add (.cells [(.slice none 0 0)] 32 .fix)
  ∃ a120' n121' c122' h123', appendV Tryd.prog g119 28 28 (.slice a10 n10 c10) (.slice (some ⟨h113'.nx, 0, none⟩) 1 1) = some (.slice a120' n121' c122', h123') ∧
  I11_2 O Q v0 v1 x2 x3 b9 f9 a120' n121' c122' x12 x13 h123'))
  (let g124 : Hp := h.add (.cells [(.slice none 0 0)] 32 .fix)
  ∃ a125' n126' c127' h128', appendV Tryd.prog g124 28 28 (.slice a10 n10 c10) (.slice (some ⟨h.nx, 0, none⟩) 1 1) = some (.slice a125' n126' c127', h128') ∧
  I11_2 O Q v0 v1 x2 x3 b9 f9 a125' n126' c127' x12 x13 h128'))
  (I11_2 O Q v0 v1 x2 x3 b9 f9 a10 n10 c10 x12 x13 h))
theorem I11_0.of {O Q} (v0 v1 x2 x3 b9 f9 a10 n10 c10 a11 n11 c11 x12 x13 a35 n35 c35 x36 x37) {h : Hp} (hh : T11_0 O Q v0 v1 x2 x3 b9 f9 a10 n10 c10 a11 n11 c11 x12 x13 a35 n35 c35 x36 x37 h) : I11_0 O Q v0 v1 x2 x3 b9 f9 a10 n10 c10 a11 n11 c11 x12 x13 a35 n35 c35 x36 x37 h :=
  RKL.of (tb := lv11) (cuts := [14, 18, 24, 26, 29]) 500 fun _ => Eq.mp (by kernel_rfl) hh
def T11_1 (O : CallF) (Q : Value → Hp → Prop) (v0 : Array Value) (v1 : Array Value) (x2 : Int) (x3 : Int) (b9 : Nat) (f9 : Nat) (a10 : Option Addr) (n10 : Nat) (c10 : Nat) (a11 : Option Addr) (n11 : Nat) (c11 : Nat) (x12 : Int) (x13 : Int) (x14 : Int) (a16 : Option Addr) (n16 : Nat) (c16 : Nat) (a35 : Option Addr) (n35 : Nat) (c35 : Nat) (x36 : Int) (x37 : Int) (x42_0 : Int) (x42_1 : Int) (x42_2 : Int) (x43 : Int) (h : Hp) : Prop :=
  vcond (ltI x43 3)
  (isNat x43 fun n201' =>
  vreq (Nat.blt n201' 3)
  (vcond (!(eqI (Int.tmod (List.getD [x42_0, x42_1, x42_2] n201' 0) 4) 0))
  (∃ x202', readAt h b9 (f9 + 0) 1 = some [(.int .i64 x202')] ∧
  ∃ x203', ∃ h204', EvC Tryd.prog O 21 [(.int .i8 (List.getD [x42_0, x42_1, x42_2] n201' 0)), (.int .i64 x202')] h (.int .i64 x203') h204' ∧
  let g205 : Hp := h204'.add (.cells [(.int .i64 x203')] 3 .fix)
  ∃ a206' n207' c208' h209', appendV Tryd.prog g205 32 32 (.slice a16 n16 c16) (.slice (some ⟨h204'.nx, 0, none⟩) 1 1) = some (.slice a206' n207' c208', h209') ∧
  I11_3 O Q v0 v1 x2 x3 b9 f9 a10 n10 c10 a11 n11 c11 x12 x13 x14 a206' n207' c208' a35 n35 c35 x36 x37 x42_0 x42_1 x42_2 x43 h209')
  (vcond (eqI x43 0)
  (vcond (eqI (Int.tmod x14 2) 0)
  (∃ x210', readAt h b9 (f9 + 0) 1 = some [(.int .i64 x210')] ∧
  ∃ x211', ∃ h212', EvC Tryd.prog O 21 [(.int .i8 (List.getD [x42_0, x42_1, x42_2] n201' 0)), (.int .i64 x210')] h (.int .i64 x211') h212' ∧
  let g213 : Hp := h212'.add (.cells [(.int .i64 x211')] 3 .fix)
  ∃ a214' n215' c216' h217', appendV Tryd.prog g213 32 32 (.slice a16 n16 c16) (.slice (some ⟨h212'.nx, 0, none⟩) 1 1) = some (.slice a214' n215' c216', h217') ∧
  I11_3 O Q v0 v1 x2 x3 b9 f9 a10 n10 c10 a11 n11 c11 x12 x13 x14 a214' n215' c216' a35 n35 c35 x36 x37 x42_0 x42_1 x42_2 x43 h217')
  (I11_3 O Q v0 v1 x2 x3 b9 f9 a10 n10 c10 a11 n11 c11 x12 x13 x14 a16 n16 c16 a35 n35 c35 x36 x37 x42_0 x42_1 x42_2 x43 h))
  (I11_3 O Q v0 v1 x2 x3 b9 f9 a10 n10 c10 a11 n11 c11 x12 x13 x14 a16 n16 c16 a35 n35 c35 x36 x37 x42_0 x42_1 x42_2 x43 h))))
  (∃ a218' n219' c220', ∃ h221', EvC Tryd.prog O 19 [(.slice a16 n16 c16)] h (.slice a218' n219' c220') h221' ∧
  vcond (eqI x13 0)
  (∃ q222', ∃ h223', EvC Tryd.prog O 57 [(.slice a11 n11 c11), (.slice none 0 0), (.slice a218' n219' c220')] h221' (.bool q222') h223' ∧
  vcond (!q222')
  (I11_4 O Q v0 v1 x2 x3 b9 f9 a10 n10 c10 a11 n11 c11 x14 7 a218' n219' c220' a35 n35 c35 x36 x37 h223')
  (I11_4 O Q v0 v1 x2 x3 b9 f9 a10 n10 c10 a11 n11 c11 x12 x13 a218' n219' c220' a35 n35 c35 x36 x37 h223'))
  (I11_4 O Q v0 v1 x2 x3 b9 f9 a10 n10 c10 a11 n11 c11 x12 x13 a218' n219' c220' a35 n35 c35 x36 x37 h221'))
theorem I11_1.of {O Q} (v0 v1 x2 x3 b9 f9 a10 n10 c10 a11 n11 c11 x12 x13 x14 a16 n16 c16 a35 n35 c35 x36 x37 x42_0 x42_1 x42_2 x43) {h : Hp} (hh : T11_1 O Q v0 v1 x2 x3 b9 f9 a10 n10 c10 a11 n11 c11 x12 x13 x14 a16 n16 c16 a35 n35 c35 x36 x37 x42_0 x42_1 x42_2 x43 h) : I11_1 O Q v0 v1 x2 x3 b9 f9 a10 n10 c10 a11 n11 c11 x12 x13 x14 a16 n16 c16 a35 n35 c35 x36 x37 x42_0 x42_1 x42_2 x43 h :=
  RKL.of (tb := lv11) (cuts := [14, 18, 24, 26, 29]) 500 fun _ => Eq.mp (by kernel_rfl) hh
def T11_2 (O : CallF) (Q : Value → Hp → Prop) (v0 : Array Value) (v1 : Array Value) (x2 : Int) (x3 : Int) (b9 : Nat) (f9 : Nat) (a10 : Option Addr) (n10 : Nat) (c10 : Nat) (x12 : Int) (x13 : Int) (h : Hp) : Prop :=
  vcond (eqI x13 0)
  (vcond (eqI (Int.ofNat n10) 0)
  (I11_5 O Q v0 v1 x2 x3 b9 f9 a10 n10 c10 x12 5 h)
  (isNat (wrapF .i64 ((Int.ofNat n10) - 1)) fun n301' =>
  isAddr a10 fun b302' f303' =>
  vreq (Nat.blt n301' n10)
  (∃ a304' n305' c306', readAt h b302' (f303' + (n301' * 1)) 1 = some [(.slice a304' n305' c306')] ∧
  vcond (ltI 0 (Int.ofNat n305'))
  (I11_5 O Q v0 v1 x2 x3 b9 f9 a10 n10 c10 x12 5 h)
  (I11_5 O Q v0 v1 x2 x3 b9 f9 a10 n10 c10 x12 x13 h))))
  (I11_5 O Q v0 v1 x2 x3 b9 f9 a10 n10 c10 x12 x13 h)
theorem I11_2.of {O Q} (v0 v1 x2 x3 b9 f9 a10 n10 c10 x12 x13) {h : Hp} (hh : T11_2 O Q v0 v1 x2 x3 b9 f9 a10 n10 c10 x12 x13 h) : I11_2 O Q v0 v1 x2 x3 b9 f9 a10 n10 c10 x12 x13 h :=
  RKL.of (tb := lv11) (cuts := [14, 18, 24, 26, 29]) 500 fun _ => Eq.mp (by kernel_rfl) hh
def T11_3 (O : CallF) (Q : Value → Hp → Prop) (v0 : Array Value) (v1 : Array Value) (x2 : Int) (x3 : Int) (b9 : Nat) (f9 : Nat) (a10 : Option Addr) (n10 : Nat) (c10 : Nat) (a11 : Option Addr) (n11 : Nat) (c11 : Nat) (x12 : Int) (x13 : Int) (x14 : Int) (a16 : Option Addr) (n16 : Nat) (c16 : Nat) (a35 : Option Addr) (n35 : Nat) (c35 : Nat) (x36 : Int) (x37 : Int) (x42_0 : Int) (x42_1 : Int) (x42_2 : Int) (x43 : Int) (h : Hp) : Prop :=
  I11_1 O Q v0 v1 x2 x3 b9 f9 a10 n10 c10 a11 n11 c11 x12 x13 x14 a16 n16 c16 a35 n35 c35 x36 x37 x42_0 x42_1 x42_2 (wrapF .i64 (x43 + 1)) h
theorem I11_3.of {O Q} (v0 v1 x2 x3 b9 f9 a10 n10 c10 a11 n11 c11 x12 x13 x14 a16 n16 c16 a35 n35 c35 x36 x37 x42_0 x42_1 x42_2 x43) {h : Hp} (hh : T11_3 O Q v0 v1 x2 x3 b9 f9 a10 n10 c10 a11 n11 c11 x12 x13 x14 a16 n16 c16 a35 n35 c35 x36 x37 x42_0 x42_1 x42_2 x43 h) : I11_3 O Q v0 v1 x2 x3 b9 f9 a10 n10 c10 a11 n11 c11 x12 x13 x14 a16 n16 c16 a35 n35 c35 x36 x37 x42_0 x42_1 x42_2 x43 h :=
  RKL.of (tb := lv11) (cuts := [14, 18, 24, 26, 29]) 500 fun _ => Eq.mp (by kernel_rfl) hh
def T11_4 (O : CallF) (Q : Value → Hp → Prop) (v0 : Array Value) (v1 : Array Value) (x2 : Int) (x3 : Int) (b9 : Nat) (f9 : Nat) (a10 : Option Addr) (n10 : Nat) (c10 : Nat) (a11 : Option Addr) (n11 : Nat) (c11 : Nat) (x12 : Int) (x13 : Int) (a19 : Option Addr) (n19 : Nat) (c19 : Nat) (a35 : Option Addr) (n35 : Nat) (c35 : Nat) (x36 : Int) (x37 : Int) (h : Hp) : Prop :=
  let g501 : Hp := h.add (.cells [(.slice a19 n19 c19)] 32 .fix)
  ∃ a502' n503' c504' h505', appendV Tryd.prog g501 28 28 (.slice a10 n10 c10) (.slice (some ⟨h.nx, 0, none⟩) 1 1) = some (.slice a502' n503' c504', h505') ∧
  let g506 : Hp := h505'.add (.cells [(.slice a19 n19 c19)] 32 .fix)
  ∃ a507' n508' c509' h510', appendV Tryd.prog g506 28 28 (.slice a11 n11 c11) (.slice (some ⟨h505'.nx, 0, none⟩) 1 1) = some (.slice a507' n508' c509', h510') ∧
  I11_0 O Q v0 v1 x2 x3 b9 f9 a502' n503' c504' a507' n508' c509' x12 x13 a35 n35 c35 x36 (wrapF .i64 (x37 + 1)) h510'
theorem I11_4.of {O Q} (v0 v1 x2 x3 b9 f9 a10 n10 c10 a11 n11 c11 x12 x13 a19 n19 c19 a35 n35 c35 x36 x37) {h : Hp} (hh : T11_4 O Q v0 v1 x2 x3 b9 f9 a10 n10 c10 a11 n11 c11 x12 x13 a19 n19 c19 a35 n35 c35 x36 x37 h) : I11_4 O Q v0 v1 x2 x3 b9 f9 a10 n10 c10 a11 n11 c11 x12 x13 a19 n19 c19 a35 n35 c35 x36 x37 h :=
  RKL.of (tb := lv11) (cuts := [14, 18, 24, 26, 29]) 500 fun _ => Eq.mp (by kernel_rfl) hh
def T11_5 (O : CallF) (Q : Value → Hp → Prop) (v0 : Array Value) (v1 : Array Value) (x2 : Int) (x3 : Int) (b9 : Nat) (f9 : Nat) (a10 : Option Addr) (n10 : Nat) (c10 : Nat) (x12 : Int) (x13 : Int) (h : Hp) : Prop :=
  ∃ x601', ∃ a602' n603' c604', readAt h b9 f9 2 = some [(.int .i64 x601'), (.slice a602' n603' c604')] ∧
  ∃ x605', ∃ x606', ∃ h607', EvC Tryd.prog O 41 [(.agg #[(.int .i64 x601'), (.slice a602' n603' c604')]), (.slice none 0 0), (.slice a10 n10 c10)] h (.tuple #[(.int .i64 x605'), (.int .i64 x606')]) h607' ∧
  vcond (!(eqI x605' x12))
  (Q (.bool false) h607')
  (vcond (!(eqI x606' x13))
  (Q (.bool false) h607')
  (vcond (eqI x606' 0)
  (∃ x608', ∃ a609' n610' c611', readAt h607' b9 f9 2 = some [(.int .i64 x608'), (.slice a609' n610' c611')] ∧
  ∃ a612' n613' c614', readAt h607' b9 (f9 + 1) 1 = some [(.slice a612' n613' c614')] ∧
  ∃ a615' n616' c617', ∃ h618', EvC Tryd.prog O 54 [(.agg #[(.int .i64 x608'), (.slice a609' n610' c611')]), (.slice a612' n613' c614'), (.slice none 0 0)] h607' (.slice a615' n616' c617') h618' ∧
  vcond (ltI 0 (Int.ofNat n616'))
  (Q (.bool false) h618')
  (I11_6 O Q v0 v1 x2 x3 b9 f9 a10 n10 c10 x13 h618'))
  (I11_6 O Q v0 v1 x2 x3 b9 f9 a10 n10 c10 x13 h607')))
theorem I11_5.of {O Q} (v0 v1 x2 x3 b9 f9 a10 n10 c10 x12 x13) {h : Hp} (hh : T11_5 O Q v0 v1 x2 x3 b9 f9 a10 n10 c10 x12 x13 h) : I11_5 O Q v0 v1 x2 x3 b9 f9 a10 n10 c10 x12 x13 h :=
  RKL.of (tb := lv11) (cuts := [14, 18, 24, 26, 29]) 500 fun _ => Eq.mp (by kernel_rfl) hh
def T11_6 (O : CallF) (Q : Value → Hp → Prop) (v0 : Array Value) (v1 : Array Value) (x2 : Int) (x3 : Int) (b9 : Nat) (f9 : Nat) (a10 : Option Addr) (n10 : Nat) (c10 : Nat) (x13 : Int) (h : Hp) : Prop :=
  ∃ x701', ∃ a702' n703' c704', readAt h b9 f9 2 = some [(.int .i64 x701'), (.slice a702' n703' c704')] ∧
  let g705 : Hp := h.add (.cells [(.int .i64 0), (.slice none 0 0)] 30 .fix)
  vreq (canW g705 h.nx 0 [(.int .i64 x701'), (.slice a702' n703' c704')])
  (let g706 : Hp := g705.wr h.nx 0 [(.int .i64 x701'), (.slice a702' n703' c704')]
  let g707 : Hp := g706.rsv 13
  ∃ a708' n709' c710', readAt g707 b9 (f9 + 1) 1 = some [(.slice a708' n709' c710')] ∧
  ∃ x711', readAt g707 b9 (f9 + 0) 1 = some [(.int .i64 x711')] ∧
  ∃ a712' n713' c714', ∃ h715', EvC Tryd.prog O 56 [(.slice a708' n709' c710')] (g707.grd [b9]) (.slice a712' n713' c714') h715' ∧
  let g716 : Hp := h715'.rst g707
  ∃ x717', ∃ h718', EvC Tryd.prog O 21 [(.int .i8 x3), (.int .i64 x711')] (g716.grd []) (.int .i64 x717') h718' ∧
  let g719 : Hp := h718'.rst g716
  vreq (g719.free (g706.nx + 7))
  (let g720 : Hp := g719.lay (g706.nx + 7) (.cells [(.int .i64 x717')] 3 .fix)
  ∃ a721' n722' c723', ∃ h724', EvC Tryd.prog O 19 [(.slice (some ⟨(g706.nx + 7), 0, none⟩) 1 1)] (g720.grd []) (.slice a721' n722' c723') h724' ∧
  let g725 : Hp := h724'.rst g720
  vreq (g725.free (g706.nx + 9))
  (let g726 : Hp := g725.lay (g706.nx + 9) (.cells [(.slice a721' n722' c723')] 32 .fix)
  ∃ a727' n728' c729' h730', appendV Tryd.prog (g726.grd []) 28 28 (.slice a712' n713' c714') (.slice (some ⟨(g706.nx + 9), 0, none⟩) 1 1) = some (.slice a727' n728' c729', h730') ∧
  let g731 : Hp := h730'.rst g726
  vreq (canW (g731.grd []) h.nx 1 [(.slice a727' n728' c729')])
  (let g732 : Hp := (g731.grd []).wr h.nx 1 [(.slice a727' n728' c729')]
  let g733 : Hp := g732.rst g731
  ∃ x734', ∃ a735' n736' c737', readAt g733 h.nx 0 2 = some [(.int .i64 x734'), (.slice a735' n736' c737')] ∧
  ∃ x738', ∃ x739', ∃ h740', EvC Tryd.prog O 41 [(.agg #[(.int .i64 x734'), (.slice a735' n736' c737')]), (.slice none 0 0), (.slice a10 n10 c10)] g733 (.tuple #[(.int .i64 x738'), (.int .i64 x739')]) h740' ∧
  let g741 : Hp := h740'.rsv 14
  ∃ x742', ∃ a743' n744' c745', readAt g741 b9 f9 2 = some [(.int .i64 x742'), (.slice a743' n744' c745')] ∧
  ∃ x746', readAt g741 b9 (f9 + 0) 1 = some [(.int .i64 x746')] ∧
  ∃ x747', ∃ h748', EvC Tryd.prog O 21 [(.int .i8 x3), (.int .i64 x746')] (g741.grd [b9]) (.int .i64 x747') h748' ∧
  let g749 : Hp := h748'.rst g741
  vreq (g749.free (h740'.nx + 5))
  (let g750 : Hp := g749.lay (h740'.nx + 5) (.cells [(.int .i64 x747')] 3 .fix)
  ∃ a751' n752' c753', ∃ h754', EvC Tryd.prog O 19 [(.slice (some ⟨(h740'.nx + 5), 0, none⟩) 1 1)] (g750.grd [b9]) (.slice a751' n752' c753') h754' ∧
  let g755 : Hp := h754'.rst g750
  ∃ x756', ∃ x757', ∃ h758', EvC Tryd.prog O 41 [(.agg #[(.int .i64 x742'), (.slice a743' n744' c745')]), (.slice a751' n752' c753'), (.slice a10 n10 c10)] (g755.grd []) (.tuple #[(.int .i64 x756'), (.int .i64 x757')]) h758' ∧
  let g759 : Hp := h758'.rst g755
  vcond (!(eqI x13 0))
  (∃ q760', ∃ h761', EvC Tryd.prog O 27 [] g759 (.bool q760') h761' ∧
  Q (.bool q760') h761')
  (vcond (eqI x739' 0)
  (vcond (eqI x757' 0)
  (∃ q762', ∃ h763', EvC Tryd.prog O 27 [] g759 (.bool q762') h763' ∧
  Q (.bool q762') h763')
  (Q (.bool false) g759))
  (Q (.bool false) g759)))))))
theorem I11_6.of {O Q} (v0 v1 x2 x3 b9 f9 a10 n10 c10 x13) {h : Hp} (hh : T11_6 O Q v0 v1 x2 x3 b9 f9 a10 n10 c10 x13 h) : I11_6 O Q v0 v1 x2 x3 b9 f9 a10 n10 c10 x13 h :=
  RKL.of (tb := lv11) (cuts := [14, 18, 24, 26, 29]) 500 fun _ => Eq.mp (by kernel_rfl) hh
end Go.Proofs.YtfgfhplgnfbaaaaDoor
/- SatSound of layer 20: the law. -/
namespace Go.Proofs.YtfgfhplgnfbaaaaDoor
open Go Go.Ev
/-- The literals of a line by numbers, from one on. -/
def linN (N : Int) (i : Nat) (a b c : Int) : Nat → List Int
  | 0 => (if a.tmod 4 ≠ 0 ∨ i % 2 = 0 then [litP a N] else []) ++ ((if b.tmod 4 ≠ 0 then [litP b N] else []) ++ (if c.tmod 4 ≠ 0 then [litP c N] else []))
  | 1 => (if b.tmod 4 ≠ 0 then [litP b N] else []) ++ (if c.tmod 4 ≠ 0 then [litP c N] else [])
  | 2 => if c.tmod 4 ≠ 0 then [litP c N] else []
  | _ => []
def lineN (N : Int) (ls : List Int) (k : Nat) : List Int := clauseN (linN N k (ls.getD (3 * k) 0) (ls.getD (3 * k + 1) 0) (ls.getD (3 * k + 2) 0) 0)
def prfN (N : Int) (ls : List Int) : Nat → List (List Int)
  | 0 => []
  | k + 1 => prfN N ls k ++ [lineN N ls k]
theorem linN_ok {N a b c : Int} {i : Nat} (hN : 1 ≤ N ∧ N ≤ 30) (ha : -128 ≤ a ∧ a < 128) (hb : -128 ≤ b ∧ b < 128) (hc : -128 ≤ c ∧ c < 128) (k : Nat) : (linN N i a b c k).length ≤ 3 ∧ ∀ x ∈ linN N i a b c k, Lit x ∧ x.natAbs ≤ N.toNat := by
  have one : ∀ {x : Int} (q : Prop) [Decidable q], (-128 ≤ x ∧ x < 128) → (if q then [litP x N] else []).length ≤ 1 ∧ ∀ z ∈ (if q then [litP x N] else []), Lit z ∧ z.natAbs ≤ N.toNat := by
    intro x q _ hx
    split
    · exact ⟨by simp, fun z hz => by rw [List.mem_singleton.1 hz]; exact litP_ok hx.1 hx.2 hN.1 hN.2⟩
    · exact ⟨by simp, fun z hz => by cases hz⟩
  obtain ⟨a1, a2⟩ := one (a.tmod 4 ≠ 0 ∨ i % 2 = 0) ha
  obtain ⟨b1, b2⟩ := one (b.tmod 4 ≠ 0) hb
  obtain ⟨c1, c2⟩ := one (c.tmod 4 ≠ 0) hc
  have app : ∀ {u v : List Int}, (∀ z ∈ u, Lit z ∧ z.natAbs ≤ N.toNat) → (∀ z ∈ v, Lit z ∧ z.natAbs ≤ N.toNat) → ∀ z ∈ u ++ v, Lit z ∧ z.natAbs ≤ N.toNat := fun hu hv z hz => (List.mem_append.1 hz).elim (hu z) (hv z)
  match k with
  | 0 => exact ⟨by simp only [linN, List.length_append]; omega, app a2 (app b2 c2)⟩
  | 1 => exact ⟨by simp only [linN, List.length_append]; omega, app b2 c2⟩
  | 2 => exact ⟨by simp only [linN]; omega, c2⟩
  | _ + 3 => exact ⟨by simp [linN], fun z hz => by cases hz⟩
theorem rng_at {ls : List Int} (h : ∀ x ∈ ls, -128 ≤ x ∧ x < 128) (k : Nat) : -128 ≤ ls.getD k 0 ∧ ls.getD k 0 < 128 := by
  rw [List.getD_eq_getElem?_getD]
  by_cases hk : k < ls.length
  · rw [List.getElem?_eq_getElem hk]; exact h _ (List.getElem_mem hk)
  · rw [List.getElem?_eq_none (by omega)]; exact ⟨by decide, by decide⟩
theorem prfN_ok {N : Int} (hN : 1 ≤ N ∧ N ≤ 30) {ls : List Int} (h : ∀ x ∈ ls, -128 ≤ x ∧ x < 128) : ∀ k, (prfN N ls k).length = k ∧ ∀ l ∈ prfN N ls k, Cv N l ∧ l.length ≤ 3 := by
  intro k
  induction k with
  | zero => exact ⟨rfl, fun l h => by cases h⟩
  | succ k ih =>
    refine ⟨by simp [prfN, ih.1], fun l hl => ?_⟩
    simp only [prfN] at hl
    rcases List.mem_append.1 hl with hl | hl
    · exact ih.2 l hl
    · rw [List.mem_singleton.1 hl]
      obtain ⟨a, b⟩ := linN_ok (i := k) hN (rng_at h (3 * k)) (rng_at h (3 * k + 1)) (rng_at h (3 * k + 2)) 0
      refine ⟨⟨clauseN_dif _, fun x hx => ?_⟩, Nat.le_trans (clauseN_len _) a⟩
      have := clauseN_mem b x hx
      exact ⟨this.1, by omega⟩
/-- The first line that does not follow, and the error: so far. -/
def stP (cls pf : List (List Int)) : Int × Int := outA (accF [] cls pf 0) (0, 0)
open Classical in
theorem stP_snoc {cls pf : List (List Int)} {l : List Int} (hc : Good (cls ++ pf)) (hl : ∀ x ∈ l, Lit x) : stP cls (pf ++ [l]) = if (stP cls pf).2 = 0 ∧ ¬ Cl (cls ++ pf) (l.map fun x => -x) then (Int.ofNat pf.length, 7) else stP cls pf := by
  have e := calm_iff hc (lit_neg hl)
  unfold stP
  rw [accF_snoc]
  cases h : accF [] cls pf 0 with
  | some j =>
    have : ¬ ((outA (some j) (0, 0)).2 = 0 ∧ ¬ Cl (cls ++ pf) (l.map fun x => -x)) := fun hh => by cases hh.1
    rw [if_neg this]
  | none =>
    simp only [List.nil_append, Nat.zero_add]
    by_cases hcl : Cl (cls ++ pf) (l.map fun x => -x)
    · rw [if_neg (fun hh => (e.1 hh) hcl), if_neg (fun hh => hh.2 hcl)]
    · rw [if_pos (e.2 hcl), if_pos ⟨rfl, hcl⟩]; rfl
section
variable {vars many : Nat} {cl : List Int} (p : PuzOk vars many cl) {ls : List Int} (hls : ls.length = 18) (hlr : ∀ x ∈ ls, -128 ≤ x ∧ x < 128) {w : Nat} (hw : w < 256) {mo : Int} (hmo : -128 ≤ mo ∧ mo < 128) {N : Int} (hN : 1 ≤ N ∧ N ≤ 5) {cls : List (List Int)} (hcl : cls.length ≤ 14) (hcv : ∀ l ∈ cls, Cv N l ∧ l.length ≤ 3) {v0 v1 : Array Value}
  {hB : Hp} (ok : hB.Ok) (ht : Tb hB) {b9 : Nat} (hb9 : b9 < hB.nx) {aF : Option Addr} {nF cF : Nat} (gf : hB.get b9 = some (.cells [.int .i64 N, .slice aF nF cF] 30 .fix)) (F : IntssAt hB aF nF cls)
include hmo hN hcl hcv ok ht hb9 gf F
theorem lp11_6 {a10 : Option Addr} {n10 c10 : Nat} {pf : List (List Int)} (hp : ∀ l ∈ pf, Cv N l ∧ l.length ≤ 3) (hpl : pf.length ≤ 10) {x13 : Int} (h13 : x13 = 0 → accF [] cls pf 0 = none ∧ endA pf = (0, 0)) {h : Hp} (kp : Kp hB.nx hB h) (A : IntssAt h a10 n10 pf) :
    I11_6 Ow Yes v0 v1 (Int.ofNat w) mo b9 0 a10 n10 c10 x13 h := by
  have hO : Oth Ow := Ow_oth
  have hcg : Good cls := good_of fun l hl => (hcv l hl).1
  have hpg : Good pf := good_of fun l hl => (hp l hl).1
  have lm := litP_ok hmo.1 hmo.2 hN.1 (show N ≤ 30 by omega)
  refine I11_6.of (hh := ?_) ..
  unfold T11_6
  have f1 := kp.ex (Nat.le_refl _)
  have gf1 : h.get b9 = some (.cells [.int .i64 N, .slice aF nF cF] 30 .fix) := (f1.get _ hb9).trans gf
  have okh := ok.kp kp
  have hb9h : b9 < h.nx := Nat.lt_of_lt_of_le hb9 kp.nx
  refine ⟨_, _, _, _, readAt_get gf1 (by simp), ?_⟩
  intro g1
  have e1 : g1.get h.nx = some (.cells [.int .i64 0, .slice none 0 0] 30 .fix) := get_add_same ..
  have gu1 : g1.guarded h.nx = false := guarded_of fun q hq => by have := okh.gd q hq; omega
  refine vreq_t (canW_t e1 (by decide) gu1 (by simp) rfl) ?_
  intro g2 g3
  have e2 : g2.get h.nx = some (.cells [.int .i64 N, .slice aF nF cF] 30 .fix) := (wr_get e1 (by decide) gu1 (by simp) rfl).trans rfl
  have k2 : Kp h.nx h g2 := ((Kp.refl h.nx h).add (Nat.le_refl _) _).wr (Nat.le_refl _) _ _
  have n2 : g2.nx = h.nx + 1 := nx_wr ..
  have k3 : Kp h.nx h g3 := k2.rsv _
  have f3 : Ft h g3 := k3.ex (Nat.le_refl _)
  have gf3 : g3.get b9 = some (.cells [.int .i64 N, .slice aF nF cF] 30 .fix) := (f3.get _ hb9h).trans gf1
  have n3 : g3.nx = g2.nx + 13 := rfl
  refine ⟨_, _, _, read1 gf3 (i := 0 + 1) rfl, _, read1 gf3 (i := 0 + 0) rfl, ?_⟩
  have ok3 := (okh.kp k3)
  have okg3 : (g3.grd [b9]).Ok := ok3.grd fun q hq => by rw [List.mem_singleton.1 hq]; omega
  have fB3 : Ft hB g3 := f1.tr f3
  have hnx := kp.nx
  have hfF := F.1
  refine (ct56 hO okg3 (g0 := hB) F (by omega) (B := h.nx + 1) (by omega) (show h.nx + 1 ≤ g3.nx by omega)).s fun a4 n4 c4 h4 ⟨A4, k4⟩ => ?_
  intro g5
  have k5 : Kp g3.nx g3 g5 := ⟨k4.get, k4.nx, rfl, k4.fr⟩
  have A5 : LL hB.nx (h.nx + 1) g5 a4 n4 c4 cls := LL.to g5 A4
  refine ⟨_, _, ct21 hO hmo.1 hmo.2 hN.1 (show N ≤ 30 by omega) _, ?_⟩
  intro g6
  have k6 : Kp g3.nx g3 g6 := ⟨k5.get, k5.nx, k5.gd, k5.fr⟩
  have A6 : LL hB.nx (h.nx + 1) g6 a4 n4 c4 cls := LL.to (h := g5) g6 A5 (k := ⟨fun _ _ => rfl, Nat.le_refl _⟩)
  have q7 : g6.get (g2.nx + 7) = none := by
    rw [k6.get _ (by omega)]
    exact (okh.kp k2).fr _ (by omega)
  refine vreq_t (free_t q7) ?_
  intro g7
  have e7 : g7.get (g2.nx + 7) = some (.cells [.int .i64 (litP mo N)] 3 .fix) := by rw [get_lay, if_pos rfl]
  have n6 : g3.nx ≤ g6.nx := k6.nx
  have ok6 : g6.Ok := ok3.kp k6
  have l7 : Kp (h.nx + 1) g6 g7 := (Kp.refl _ _).lay (by omega) (by omega) _
  have ok7 : g7.Ok := ok6.kp l7
  have X7 : IntsAt (g7.grd []) (some ⟨g2.nx + 7, 0, none⟩) 1 [litP mo N] := ⟨rfl, .inr ⟨g2.nx + 7, 0, _, _, _, rfl, show g2.nx + 7 < g6.nx by omega, e7, by simp, fun i hi => by
    obtain rfl : i = 0 := by simpa using hi
    rfl⟩⟩
  refine (ct19 hO (ok7.grd (g := []) fun q hq => by cases hq) X7 (by simp) fun x hx => by rw [List.mem_singleton.1 hx]; exact lm.1).s fun a8 n8 c8 h8 ⟨C8, k8, fr8, ez8⟩ => ?_
  intro g9
  have n7 : g7.nx = g6.nx := rfl
  have k9 : Kp g7.nx g7 g9 := ⟨k8.get, k8.nx, rfl, k8.fr⟩
  have q9 : g9.get (g2.nx + 9) = none := by
    rw [k9.get _ (by omega)]
    show g7.get _ = none
    rw [get_lay, if_neg (by omega), k6.get _ (by omega)]
    exact (okh.kp k2).fr _ (by omega)
  have hcc : Cv N (clauseN [litP mo N]) := ⟨clauseN_dif _, fun x hx =>
    clauseN_mem (P := fun x => Lit x ∧ (x.natAbs : Int) ≤ N) (fun z hz => by rw [List.mem_singleton.1 hz]; exact ⟨lm.1, by omega⟩) x hx⟩
  have hcl1 : (clauseN [litP mo N]).length ≤ 1 := clauseN_len _
  have C9 : IntsAt g9 a8 n8 (clauseN [litP mo N]) := C8.to g9
  have A9 : LL hB.nx (h.nx + 1) g9 a4 n4 c4 cls := LL.to (h := g7) g9 (A6.lay q7 _) (k := k9.ex (Nat.le_refl _))
  have okY : VOk hB.nx (h.nx + 1) (.slice a8 n8 c8) := fun b off m w e => by
    injection e with e1' e2'
    have hh : g7.nx ≤ b := fr8 b off e1'
    refine ⟨.inr (by omega), .inr ?_⟩
    rcases Nat.eq_zero_or_pos m with h0 | h0
    · have := C9.1
      rw [ez8 (List.length_eq_zero_iff.1 (by omega))] at e1'; cases e1'
    · exact h0
  have k69 : Kp (h.nx + 1) g3 g9 := (k6.le (by omega)).trans (l7.trans (k9.le (by omega)))
  have kh9 : Kp h.nx h g9 := k3.trans (k69.le (by omega))
  have n9 : g7.nx ≤ g9.nx := k9.nx
  have gd9 : GdLt g9 (h.nx + 1) := fun q hq => by
    have := okh.gd q (by rw [← kh9.gd]; exact hq)
    omega
  have hn4 := A9.len
  refine LL.appR (by omega) A9 C9 okY (by omega) gd9 q9 (by omega) (by omega) (fun i hi => by cases hi) (by omega) fun a' c' h10 A10 _ K10 => ?_
  intro g11
  have K11 : Kp (h.nx + 1) g9 g11 := K10.kp
  have A11 : LL hB.nx (h.nx + 1) g11 a' (n4 + 1) c' (cls ++ [clauseN [litP mo N]]) := A10
  have kh11 : Kp h.nx h g11 := kh9.trans (K11.le (by omega))
  have e11 : g11.get h.nx = some (.cells [.int .i64 N, .slice aF nF cF] 30 .fix) := by
    rw [K11.get _ (by omega), k69.get _ (by omega)]
    exact e2
  have gu11 : (g11.grd []).guarded h.nx = false := guarded_of fun q hq => by
    have := okh.gd q (by rw [← kh11.gd]; exact hq)
    omega
  have e11' : (g11.grd []).get h.nx = some (.cells [.int .i64 N, .slice aF nF cF] 30 .fix) := e11
  refine vreq_t (canW_t e11' (by decide) gu11 (by simp) rfl) ?_
  intro g12 g13
  have e13 : g13.get h.nx = some (.cells [.int .i64 N, .slice a' (n4 + 1) c'] 30 .fix) := (wr_get e11' (by decide) gu11 (by simp) rfl).trans rfl
  have kh12 : Kp h.nx h g12 := (show Kp h.nx h (g11.grd []) from ⟨kh11.get, kh11.nx, kh11.gd, kh11.fr⟩).wr (Nat.le_refl _) _ _
  have kh13 : Kp h.nx h g13 := ⟨kh12.get, kh12.nx, kh11.gd, kh12.fr⟩
  have A13 : LL hB.nx (h.nx + 1) g13 a' (n4 + 1) c' (cls ++ [clauseN [litP mo N]]) := LL.to (h := g12) g13 ((LL.to (h := g11) (g11.grd []) A11).wr hnx (by omega) _ _) (k := ⟨fun _ _ => rfl, Nat.le_refl _⟩)
  refine ⟨_, _, _, _, readAt_get e13 (by simp), ?_⟩
  have f13 : Ft h g13 := kh13.ex (Nat.le_refl _)
  have wl : ∀ l ∈ cls ++ [clauseN [litP mo N]], Cv N l ∧ l.length ≤ 3 := fun l hl => by
    rcases List.mem_append.1 hl with hl | hl
    · exact hcv l hl
    · rw [List.mem_singleton.1 hl]; exact ⟨hcc, by omega⟩
  obtain ⟨v14, h14, e14, rfl, k14⟩ := ct41 hO (gs := []) (okh.kp kh13) A13.intss (by simp; omega) (fun l hl => by have := (wl l hl).2; omega) (SlAt.nil ..) (by simp) (A.to g13) (by omega) (fun l hl => by have := (hp l hl).2; omega) (vars := N) (c := c') (c1 := 0) (c2 := c10)
  refine ⟨_, _, _, e14, ?_⟩
  have hcv0 : Cv N [] := ⟨List.Pairwise.nil, fun x hx => by cases hx⟩
  have w1 := acceptP_of (gs := []) (pf := pf) (cls := cls ++ [clauseN [litP mo N]]) (show 0 ≤ N by omega) (show N ≤ 30 by omega) (by simp; omega) (fun l hl => (wl l hl).1) hcv0 (fun l hl => (hp l hl).1) (by omega)
  have w2 := acceptP_of (gs := clauseN [litP mo N]) (pf := pf) (cls := cls) (show 0 ≤ N by omega) (show N ≤ 30 by omega) (by omega) (fun l hl => (hcv l hl).1) hcc (fun l hl => (hp l hl).1) (by omega)
  intro g15
  have kh14 : Kp h.nx h h14 := kh13.trans (k14.le kh13.nx)
  have kh15 : Kp h.nx h g15 := kh14.rsv _
  have f15 : Ft h g15 := kh15.ex (Nat.le_refl _)
  have gf15 : g15.get b9 = some (.cells [.int .i64 N, .slice aF nF cF] 30 .fix) := (f15.get _ hb9h).trans gf1
  have n15 : g15.nx = h14.nx + 14 := rfl
  have n14 : h.nx ≤ h14.nx := kh14.nx
  refine ⟨_, _, _, _, readAt_get gf15 (by simp), _, read1 gf15 (i := 0 + 0) rfl, _, _, ct21 hO hmo.1 hmo.2 hN.1 (show N ≤ 30 by omega) _, ?_⟩
  intro g16
  have q16 : g16.get (h14.nx + 5) = none := (okh.kp kh14).fr _ (by omega)
  refine vreq_t (free_t q16) ?_
  intro g17
  have e17 : g17.get (h14.nx + 5) = some (.cells [.int .i64 (litP mo N)] 3 .fix) := by rw [get_lay, if_pos rfl]
  have kh17 : Kp h.nx h g17 := (show Kp h.nx h g16 from ⟨kh15.get, kh15.nx, kh15.gd, kh15.fr⟩).lay (by omega) (show h14.nx + 5 < h14.nx + 14 by omega) _
  have n17 : g17.nx = h14.nx + 14 := rfl
  have ok17 := okh.kp kh17
  have X17 : IntsAt (g17.grd [b9]) (some ⟨h14.nx + 5, 0, none⟩) 1 [litP mo N] := ⟨rfl, .inr ⟨h14.nx + 5, 0, _, _, _, rfl, show h14.nx + 5 < h14.nx + 14 by omega, e17, by simp, fun i hi => by
    obtain rfl : i = 0 := by simpa using hi
    rfl⟩⟩
  refine (ct19 hO (ok17.grd (g := [b9]) fun q hq => by rw [List.mem_singleton.1 hq]; omega) X17 (by simp) fun x hx => by rw [List.mem_singleton.1 hx]; exact lm.1).s fun a18 n18 c18 h18 ⟨C18, k18, _, _⟩ => ?_
  intro g19
  have k19 : Kp g17.nx g17 g19 := ⟨k18.get, k18.nx, rfl, k18.fr⟩
  have kh19 : Kp h.nx h g19 := kh17.trans (k19.le (by omega))
  have f19 : Ft h g19 := kh19.ex (Nat.le_refl _)
  have ok19 : (g19.grd []).Ok := (okh.kp kh19).grd (g := []) fun q hq => by cases hq
  obtain ⟨v20, h20, e20, rfl, k20⟩ := ct41 hO (gs := clauseN [litP mo N]) ok19 (((F.to h).to g19).to (g19.grd [])) (by omega) (fun l hl => by have := (hcv l hl).2; omega) (C18.to (g19.grd [])) (by omega) ((A.to g19).to (g19.grd [])) (by omega) (fun l hl => by have := (hp l hl).2; omega) (vars := N) (c := cF) (c1 := c18) (c2 := c10)
  refine ⟨_, _, _, e20, ?_⟩
  intro g21
  have k21 : Kp g19.nx g19 g21 := ⟨k20.get, k20.nx, rfl, k20.fr⟩
  have kh21 : Kp h.nx h g21 := kh19.trans (k21.le kh19.nx)
  have t21 : Tb g21 := (ht.kp kp ht.1).kp kh21 (Nat.lt_of_lt_of_le ht.1 hnx)
  refine vcond_split (fun _ => ⟨_, _, works_true t21, rfl⟩) fun hz => ?_
  have hz : x13 = 0 := eq_of_t (by simpa using hz)
  obtain ⟨h1, h2⟩ := h13 hz
  have m1 : accF [] (cls ++ [clauseN [litP mo N]]) pf 0 = none := accF_mono (gs := []) (fun _ h => h) (fun _ h => by cases h) hcg (good_of fun l hl => (wl l hl).1) hpg (fun l hl => List.mem_append_left _ hl) h1
  have m2 : accF (clauseN [litP mo N]) cls pf 0 = none := accF_mono (gs := []) (fun _ h => by cases h) (fun x hx => (hcc.2 x hx).1) hcg hcg hpg (fun l hl => hl) h1
  rw [w1, w2, m1, m2]
  exact vcond_t (eqI_t (by show (endA pf).2 = 0; rw [h2])) (vcond_t (eqI_t (by show (endA pf).2 = 0; rw [h2])) ⟨_, _, works_true t21, rfl⟩)
theorem lp11_5 {a10 : Option Addr} {n10 c10 : Nat} {pf : List (List Int)} (hp : ∀ l ∈ pf, Cv N l ∧ l.length ≤ 3) (hpl : pf.length ≤ 10) {x12 x13 : Int} (hx : outA (accF [] cls pf 0) (endA pf) = (x12, x13)) {h : Hp} (kp : Kp hB.nx hB h) (A : IntssAt h a10 n10 pf) :
    I11_5 Ow Yes v0 v1 (Int.ofNat w) mo b9 0 a10 n10 c10 x12 x13 h := by
  have hO : Oth Ow := Ow_oth
  refine I11_5.of (hh := ?_) ..
  unfold T11_5
  have f1 := kp.ex (Nat.le_refl _)
  have gf1 : h.get b9 = some (.cells [.int .i64 N, .slice aF nF cF] 30 .fix) := (f1.get _ hb9).trans gf
  have okh := ok.kp kp
  have hb9h : b9 < h.nx := Nat.lt_of_lt_of_le hb9 kp.nx
  have hcv0 : Cv N [] := ⟨List.Pairwise.nil, fun x hx => by cases hx⟩
  refine ⟨_, _, _, _, readAt_get gf1 (by simp), ?_⟩
  obtain ⟨v2, h2, e2, rfl, k2⟩ := ct41 hO (gs := []) okh (F.to h) (by omega) (fun l hl => by have := (hcv l hl).2; omega) (SlAt.nil ..) (by simp) A (by omega) (fun l hl => by have := (hp l hl).2; omega) (vars := N) (c := cF) (c1 := 0) (c2 := c10)
  have w1 := acceptP_of (gs := []) (pf := pf) (cls := cls) (show 0 ≤ N by omega) (show N ≤ 30 by omega) (by omega) (fun l hl => (hcv l hl).1) hcv0 (fun l hl => (hp l hl).1) (by omega)
  rw [w1, hx] at e2
  refine ⟨_, _, _, e2, vcond_f (by rw [eqI_t rfl]; rfl) (vcond_f (by rw [eqI_t rfl]; rfl) ?_)⟩
  have kp2 := kp.trans (k2.le kp.nx)
  have f2 := kp2.ex (Nat.le_refl _)
  have h13 : x13 = 0 → accF [] cls pf 0 = none ∧ endA pf = (0, 0) := fun hz => by
    obtain ⟨a, b, _⟩ := outA_ok (o := accF [] cls pf 0) (pf := pf) (by rw [hx]; exact hz)
    exact ⟨a, b⟩
  refine vcond_split (fun hz => ?_) fun hz => ?_
  · have hz : x13 = 0 := eq_of_t hz
    obtain ⟨a, b, c⟩ := outA_ok (o := accF [] cls pf 0) (pf := pf) (by rw [hx]; exact hz)
    have gf2 : h2.get b9 = some (.cells [.int .i64 N, .slice aF nF cF] 30 .fix) := (f2.get _ hb9).trans gf
    refine ⟨_, _, _, _, readAt_get gf2 (by simp), _, _, _, read1 gf2 (i := 0 + 1) rfl, ?_⟩
    obtain ⟨M, rfl⟩ : ∃ M : Nat, N = Int.ofNat M := ⟨N.toNat, by simp only [Int.ofNat_eq_natCast]; omega⟩
    have hM : M ≤ 5 := by have := hN.2; simp only [Int.ofNat_eq_natCast] at this; omega
    refine ret_ri (ct54 hO (N := M) (gs := []) (ok.kp kp2) (F.to h2) (by omega) (fun l hl => by have := (hcv l hl).2; omega) (fun l hl x hx => ((hcv l hl).1.2 x hx).1) (SlAt.nil ..) (by simp) (fun x hx => by cases hx) (by omega)) fun a5 n5 c5 h5 Mo k5 _ => ?_
    rw [sound (gs := []) (good_of fun l hl => (hcv l hl).1) (good_of fun l hl => (hp l hl).1) (fun x hx => by cases hx) a c M] at Mo
    have n5z : n5 = 0 := Mo.1
    have kp5 := kp2.trans (k5.le kp2.nx)
    have f25 := k5.ex (Nat.le_refl _)
    have f12 := k2.ex (Nat.le_refl _)
    exact vcond_f (by rw [n5z]; rfl) (lp11_6 hmo hN hcl hcv ok ht hb9 gf F hp hpl h13 kp5 ((A.to h2).to h5))
  · have f12 := k2.ex (Nat.le_refl _)
    exact lp11_6 hmo hN hcl hcv ok ht hb9 gf F hp hpl h13 kp2 (A.to h2)
theorem lp11_2 {lo base : Nat} {a10 : Option Addr} {n10 c10 : Nat} {pf : List (List Int)} (hp : ∀ l ∈ pf, Cv N l ∧ l.length ≤ 3) (hpl : pf.length ≤ 10) {x12 x13 : Int} (hx : stP cls pf = (x12, x13)) {h : Hp} (kp : Kp hB.nx hB h) (A : LL lo base h a10 n10 c10 pf) :
    I11_2 Ow Yes v0 v1 (Int.ofNat w) mo b9 0 a10 n10 c10 x12 x13 h := by
  refine I11_2.of (hh := ?_) ..
  unfold T11_2
  have hn := A.len
  have fin : ∀ {y12 y13}, outA (accF [] cls pf 0) (endA pf) = (y12, y13) → I11_5 Ow Yes v0 v1 (Int.ofNat w) mo b9 0 a10 n10 c10 y12 y13 h := fun e => lp11_5 hmo hN hcl hcv ok ht hb9 gf F hp hpl e kp A.intss
  unfold stP at hx
  cases ha : accF [] cls pf 0 with
  | some j =>
    rw [ha] at hx fin
    have e : x13 = 7 := by injection hx with _ h2; exact h2.symm
    exact vcond_f (by rw [e]; rfl) (fin (by rw [← hx]; rfl))
  | none =>
    rw [ha] at hx fin
    injection hx with e1 e2
    subst e1 e2
    refine vcond_t rfl (vcond_split (fun h0 => ?_) fun h0 => ?_)
    · have h0 : n10 = 0 := Int.ofNat.inj (eq_of_t h0)
      exact fin (by show endA pf = _; unfold endA; rw [if_pos (by omega)])
    · have h0 : n10 ≠ 0 := fun hh => ne_of_f h0 (by rw [hh]; rfl)
      rw [show wrapF .i64 (Int.ofNat n10 - 1) = Int.ofNat (n10 - 1) by rw [wrap64] <;> simp only [Int.ofNat_eq_natCast] <;> omega]
      have hk : n10 - 1 < pf.length := by omega
      refine isNat_i (IntssAt.rd (g := h) A.intss hk fun a' n' c' Y => ?_)
      have hY := Y.1
      have e : pf.getD (pf.length - 1) [] = pf[n10 - 1] := by rw [List.getD_eq_getElem?_getD, ← hn, List.getElem?_eq_getElem hk]; rfl
      refine vcond_split (fun h1 => ?_) fun h1 => ?_
      · have h1 := lt_of_t h1
        simp only [Int.ofNat_eq_natCast] at h1
        exact fin (by show endA pf = _; unfold endA; rw [if_neg (by omega), e, if_pos (by omega)])
      · have h1 := not_lt_of_f h1
        simp only [Int.ofNat_eq_natCast] at h1
        exact fin (by show endA pf = _; unfold endA; rw [if_neg (by omega), e, if_neg (by omega)])
end
section
variable {ls : List Int} (hls : ls.length = 18) (hlr : ∀ x ∈ ls, -128 ≤ x ∧ x < 128) {w : Nat} (hw : w < 256) {mo : Int} (hmo : -128 ≤ mo ∧ mo < 128) {N : Int} (hN : 1 ≤ N ∧ N ≤ 5) {cls : List (List Int)} (hcl : cls.length ≤ 14) (hcv : ∀ l ∈ cls, Cv N l ∧ l.length ≤ 3) {v0 v1 : Array Value}
  {hB : Hp} (ok : hB.Ok) (ht : Tb hB) {b9 : Nat} (hb9 : b9 + 1 = hB.nx) {aF : Option Addr} {nF cF : Nat} (gf : hB.get b9 = some (.cells [.int .i64 N, .slice aF nF cF] 30 .fix)) (F : IntssAt hB aF nF cls)
  {bL : Nat} (hbL : bL < b9) (gl : hB.get bL = some (.cells (ls.map (Value.int .i8)) 73 .fix))
include hls hlr hw hmo hN hcl hcv ok ht hb9 gf F hbL gl
omit hls hlr hw hmo hcl hcv ht F hbL gl in
/-- The literals of a line, then the line. -/
theorem lp11_1 {hI : Hp} (kI : Kp hB.nx hB hI) {a10 a11 : Option Addr} {n10 c10 n11 c11 : Nat} {x12 x13 : Int} {i M : Nat} (hi : i < 7) {a b c : Int} (ha : -128 ≤ a ∧ a < 128) (hb : -128 ≤ b ∧ b < 128) (hc : -128 ≤ c ∧ c < 128) {a35 : Option Addr} {n35 c35 : Nat}
    (next : ∀ h a16 n16 c16, Kp hI.nx hI h → AccI 3 h hI.nx a16 n16 c16 (linN N i a b c 0) → ∃ a n c, ∃ h', EvC Tryd.prog Ow 19 [.slice a16 n16 c16] h (.slice a n c) h' ∧ vcond (eqI x13 0) (∃ q, ∃ h2, EvC Tryd.prog Ow 57 [.slice a11 n11 c11, .slice none 0 0, .slice a n c] h' (.bool q) h2 ∧ vcond (!q) (I11_4 Ow Yes v0 v1 (Int.ofNat w) mo b9 0 a10 n10 c10 a11 n11 c11 (Int.ofNat i) 7 a n c a35 n35 c35 (Int.ofNat M) (Int.ofNat i) h2) (I11_4 Ow Yes v0 v1 (Int.ofNat w) mo b9 0 a10 n10 c10 a11 n11 c11 x12 x13 a n c a35 n35 c35 (Int.ofNat M) (Int.ofNat i) h2)) (I11_4 Ow Yes v0 v1 (Int.ofNat w) mo b9 0 a10 n10 c10 a11 n11 c11 x12 x13 a n c a35 n35 c35 (Int.ofNat M) (Int.ofNat i) h')) :
    ∀ (d k : Nat), k + d = 3 → ∀ {h : Hp} {a16 n16 c16} {acc : List Int}, Kp hI.nx hI h → AccI 3 h hI.nx a16 n16 c16 acc → acc ++ linN N i a b c k = linN N i a b c 0 →
      I11_1 Ow Yes v0 v1 (Int.ofNat w) mo b9 0 a10 n10 c10 a11 n11 c11 x12 x13 (Int.ofNat i) a16 n16 c16 a35 n35 c35 (Int.ofNat M) (Int.ofNat i) a b c (Int.ofNat k) h := by
  have hO : Oth Ow := Ow_oth
  have gdb : ∀ {h : Hp}, Kp hI.nx hI h → GdLt h hI.nx := fun k q hq => by
    have : q ∈ hB.gd := by rw [← kI.gd, ← k.gd]; exact hq
    have := ok.gd q this; have := kI.nx; omega
  intro d
  induction d with
  | zero =>
    intro k hk h a16 n16 c16 acc kp Ac he
    obtain rfl : k = 3 := by omega
    refine I11_1.of (hh := ?_) ..
    unfold T11_1
    have he : acc = linN N i a b c 0 := by simpa [linN] using he
    subst he
    exact vcond_f rfl (next h _ _ _ kp Ac)
  | succ d ih =>
    intro k hk h a16 n16 c16 acc kp Ac he
    refine I11_1.of (hh := ?_) ..
    unfold T11_1
    have f1 : Ft hI h := kp.ex (Nat.le_refl _)
    have fB : Ft hB h := (kI.ex (Nat.le_refl _)).tr f1
    have gN : readAt h b9 (0 + 0) 1 = some [.int .i64 N] := (readAt_ex (g := hB) (by omega)).trans (read1 gf (i := 0) rfl)
    have al : acc.length ≤ 3 := by
      have := congrArg List.length he
      have := (linN_ok (N := N) (i := i) (k := 0) ⟨hN.1, by omega⟩ ha hb hc).1
      simp at *; omega
    have push : ∀ {x : Int}, (-128 ≤ x ∧ x < 128) → acc ++ [litP x N] ++ linN N i a b c (k + 1) = linN N i a b c 0 → ∃ x', readAt h b9 (0 + 0) 1 = some [.int .i64 x'] ∧ ∃ y, ∃ h', EvC Tryd.prog Ow 21 [.int .i8 x, .int .i64 x'] h (.int .i64 y) h' ∧ (let g := h'.add (.cells [.int .i64 y] 3 .fix); ∃ a' n' c' h2, appendV Tryd.prog g 32 32 (.slice a16 n16 c16) (.slice (some ⟨h'.nx, 0, none⟩) 1 1) = some (.slice a' n' c', h2) ∧ I11_3 Ow Yes v0 v1 (Int.ofNat w) mo b9 0 a10 n10 c10 a11 n11 c11 x12 x13 (Int.ofNat i) a' n' c' a35 n35 c35 (Int.ofNat M) (Int.ofNat i) a b c (Int.ofNat k) h2) := by
      intro x hx hr
      refine ⟨_, gN, _, _, ct21 hO hx.1 hx.2 hN.1 (show N ≤ 30 by omega) h, ?_⟩
      intro g
      refine appI app32 Ac kp.nx (gdb kp) (by omega) fun a' n' c' h' A' _ kA => ?_
      refine I11_3.of (hh := ?_) ..
      unfold T11_3
      rw [wrap_succ (by omega)]
      exact ih (k + 1) (by omega) (kp.trans kA) A' hr
    have skip : acc ++ linN N i a b c (k + 1) = linN N i a b c 0 → I11_3 Ow Yes v0 v1 (Int.ofNat w) mo b9 0 a10 n10 c10 a11 n11 c11 x12 x13 (Int.ofNat i) a16 n16 c16 a35 n35 c35 (Int.ofNat M) (Int.ofNat i) a b c (Int.ofNat k) h := fun hr => by
      refine I11_3.of (hh := ?_) ..
      unfold T11_3
      rw [wrap_succ (by omega)]
      exact ih (k + 1) (by omega) kp Ac hr
    have tm : (Int.ofNat i).tmod 2 = Int.ofNat (i % 2) := rfl
    have hk3 : k = 0 ∨ k = 1 ∨ k = 2 := by omega
    rcases hk3 with rfl | rfl | rfl
    · refine vcond_t rfl (isNat_i (vreq_t rfl (vcond_split (fun hh => ?_) fun hh => ?_)))
      · have hh : a.tmod 4 ≠ 0 := ne_of_f (show eqI (a.tmod 4) 0 = false by simpa using hh)
        refine push ha (he ▸ ?_)
        rw [List.append_assoc]; simp [linN, hh]
      · have hh : a.tmod 4 = 0 := eq_of_t (show eqI (a.tmod 4) 0 = true by simpa using hh)
        rw [tm]
        refine vcond_t rfl (vcond_split (fun h2 => ?_) fun h2 => ?_)
        · have h2 : i % 2 = 0 := Int.ofNat.inj (eq_of_t h2)
          refine push ha (he ▸ ?_)
          rw [List.append_assoc]; simp [linN, hh, h2]
        · have h2 : i % 2 ≠ 0 := fun e => ne_of_f h2 (by rw [e]; rfl)
          refine skip (he ▸ ?_)
          simp [linN, hh, h2]
    · refine vcond_t rfl (isNat_i (vreq_t rfl (vcond_split (fun hh => ?_) fun hh => vcond_f rfl ?_)))
      · have hh : b.tmod 4 ≠ 0 := ne_of_f (show eqI (b.tmod 4) 0 = false by simpa using hh)
        refine push hb (he ▸ ?_)
        rw [List.append_assoc]; simp [linN, hh]
      · have hh : b.tmod 4 = 0 := eq_of_t (show eqI (b.tmod 4) 0 = true by simpa using hh)
        refine skip (he ▸ ?_)
        simp [linN, hh]
    · refine vcond_t rfl (isNat_i (vreq_t rfl (vcond_split (fun hh => ?_) fun hh => vcond_f rfl ?_)))
      · have hh : c.tmod 4 ≠ 0 := ne_of_f (show eqI (c.tmod 4) 0 = false by simpa using hh)
        refine push hc (he ▸ ?_)
        rw [List.append_assoc]; simp [linN, hh]
      · have hh : c.tmod 4 = 0 := eq_of_t (show eqI (c.tmod 4) 0 = true by simpa using hh)
        refine skip (he ▸ ?_)
        simp [linN, hh]
omit hw in
theorem lp11_0 {M : Nat} (hM : M < 7) (hNM : M = w % 7) :
    ∀ (d k : Nat), k + d = M → ∀ {h : Hp} {a10 n10 c10 a11 n11 c11} {x12 x13 : Int}, Kp hB.nx hB h → LL b9 hB.nx h a10 n10 c10 (prfN N ls k) → LL b9 hB.nx h a11 n11 c11 (cls ++ prfN N ls k) → (∀ q, a10 = some ⟨q, 0, none⟩ → a11 ≠ some ⟨q, 0, none⟩) → stP cls (prfN N ls k) = (x12, x13) →
      I11_0 Ow Yes v0 v1 (Int.ofNat w) mo b9 0 a10 n10 c10 a11 n11 c11 x12 x13 (some ⟨bL, 0, none⟩) M 6 (Int.ofNat M) (Int.ofNat k) h := by
  have hO : Oth Ow := Ow_oth
  have hN30 : 1 ≤ N ∧ N ≤ 30 := ⟨hN.1, by omega⟩
  intro d
  induction d with
  | zero =>
    intro k hk h a10 n10 c10 a11 n11 c11 x12 x13 kp A B dj hst
    obtain rfl : k = M := by omega
    refine I11_0.of (hh := ?_) ..
    unfold T11_0
    obtain ⟨pl, po⟩ := prfN_ok hN30 hlr k
    have hnA := A.len
    have hnB := B.len
    have okh := ok.kp kp
    have gd : ∀ {h' : Hp}, Kp hB.nx hB h' → GdLt h' hB.nx := fun k q hq => by rw [k.gd] at hq; exact ok.gd q hq
    have wl : ∀ l ∈ cls ++ prfN N ls k, Cv N l ∧ l.length ≤ 3 := fun l hl => (List.mem_append.1 hl).elim (hcv l) (po l)
    have gw : Good (cls ++ prfN N ls k) := good_of fun l hl => (wl l hl).1
    have hnil : VOk b9 hB.nx (.slice none 0 0) := fun b off m u e => by cases e
    have po' : ∀ l ∈ prfN N ls k ++ [[]], Cv N l ∧ l.length ≤ 3 := fun l hl => by
      rcases List.mem_append.1 hl with hl | hl
      · exact po l hl
      · rw [List.mem_singleton.1 hl]; exact ⟨⟨List.Pairwise.nil, fun x hx => by cases hx⟩, by decide⟩
    have sn := stP_snoc (cls := cls) (pf := prfN N ls k) (l := []) gw (fun x hx => by cases hx)
    -- an empty line more
    have more : ∀ {h' : Hp} {y12 y13 : Int}, Kp hB.nx hB h' → LL b9 hB.nx h' a10 n10 c10 (prfN N ls k) → stP cls (prfN N ls k ++ [[]]) = (y12, y13) → ∃ a n c h2, appendV Tryd.prog (h'.add (.cells [.slice none 0 0] 32 .fix)) 28 28 (.slice a10 n10 c10) (.slice (some ⟨h'.nx, 0, none⟩) 1 1) = some (.slice a n c, h2) ∧ I11_2 Ow Yes v0 v1 (Int.ofNat w) mo b9 0 a n c y12 y13 h2 := by
      intro h' y12 y13 k' A' e
      exact LL.app (by omega) A' (SlAt.nil ..) hnil k'.nx (gd k') (ok.kp k').fr (by omega) fun a' c' h2 A2 _ K2 => lp11_2 hmo hN hcl hcv ok ht (by omega) gf F (pf := prfN N ls k ++ [[]]) po' (by simp; omega) e (k'.trans K2.kp) A2
    refine vcond_f (by rw [ltI_nat]; exact blt_f (by omega)) (vcond_split (fun _ => vcond_split (fun hz => ?_) fun hz => ?_) fun _ => lp11_2 hmo hN hcl hcv ok ht (by omega) gf F po (by omega) hst kp A)
    · have hz : x13 = 0 := eq_of_t hz
      refine (ct57 hO okh (gs := []) (l := []) B.intss (by simp; omega) (fun l hl => by have := (wl l hl).2; omega) gw (SlAt.nil ..) (by simp) (fun x hx => by cases hx) (SlAt.nil ..) (by simp) (fun x hx => by cases hx)).b fun q h2 ⟨hq, k2⟩ => ?_
      have kp2 := kp.trans (k2.le kp.nx)
      have f2 := k2.ex (Nat.le_refl _)
      have A2 : LL b9 hB.nx h2 a10 n10 c10 (prfN N ls k) := A.to h2
      have hq : q = true ↔ Cl (cls ++ prfN N ls k) ([].map fun x => -x) := by simpa using hq
      refine vcond_split (fun hh => ?_) fun hh => ?_
      · refine more kp2 A2 ?_
        rw [sn, if_pos ⟨by rw [hst]; exact hz, fun e => by rw [hq.2 e] at hh; cases hh⟩, hnA]
      · refine more kp2 A2 ?_
        rw [sn, if_neg (fun e => e.2 (hq.1 (by simpa using hh))), hst]
    · have hz : x13 ≠ 0 := ne_of_f hz
      refine more kp A ?_
      rw [sn, if_neg (fun e => hz (by have := e.1; rw [hst] at this; exact this)), hst]
  | succ d ih =>
    intro k hk h a10 n10 c10 a11 n11 c11 x12 x13 kp A B dj hst
    refine I11_0.of (hh := ?_) ..
    unfold T11_0
    obtain ⟨pl, po⟩ := prfN_ok hN30 hlr k
    obtain ⟨pl1, po1⟩ := prfN_ok hN30 hlr (k + 1)
    have hnA := A.len
    have hnB := B.len
    have okh := ok.kp kp
    have hnx := kp.nx
    have fB := kp.ex (Nat.le_refl _)
    have gl' : h.get bL = some (.cells (ls.map (Value.int .i8)) 73 .fix) := (fB.get _ (by omega)).trans gl
    have rd : readAt h bL (0 + k * 3) 3 = some [.int .i8 (ls.getD (3 * k) 0), .int .i8 (ls.getD (3 * k + 1) 0), .int .i8 (ls.getD (3 * k + 2) 0)] := by
      rw [readAt_get gl' (by simp; omega), show 0 + k * 3 = 3 * k by omega]
      rw [List.drop_eq_getElem_cons (by simp; omega), List.drop_eq_getElem_cons (by simp; omega), List.drop_eq_getElem_cons (by simp; omega)]
      simp only [List.take_succ_cons, List.take_zero, List.getElem_map, List.getD_eq_getElem?_getD]
      rw [List.getElem?_eq_getElem (by omega), List.getElem?_eq_getElem (by omega), List.getElem?_eq_getElem (by omega)]; rfl
    refine vcond_t (by rw [ltI_nat]; exact blt_t (by omega)) (isNat_i (show isAddr (some ⟨bL, 0, none⟩) _ from vreq_t (blt_t (by omega)) ⟨_, _, _, rd, ?_⟩))
    intro g1
    have gu : g1.guarded h.nx = false := guarded_of fun q hq => by have := okh.gd q hq; omega
    have ga : g1.get h.nx = some (.cells [.int .i8 0, .int .i8 0, .int .i8 0] 23 .fix) := get_add_same ..
    refine vreq_t (canW_t ga (by decide) gu (by simp) rfl) ?_
    intro g2
    have wg : g2.get h.nx = some (.cells [.int .i8 (ls.getD (3 * k) 0), .int .i8 (ls.getD (3 * k + 1) 0), .int .i8 (ls.getD (3 * k + 2) 0)] 23 .fix) := (wr_get ga (by decide) gu (by simp) rfl).trans rfl
    refine ⟨_, _, _, readAt_get wg (by simp), ?_⟩
    have kw : Kp h.nx h g2 := ((Kp.refl h.nx h).add (Nat.le_refl _) _).wr (Nat.le_refl _) _ _
    have kI : Kp hB.nx hB g2 := kp.trans (kw.le hnx)
    have fw := kw.ex (Nat.le_refl _)
    have wl : ∀ l ∈ cls ++ prfN N ls k, Cv N l ∧ l.length ≤ 3 := fun l hl => (List.mem_append.1 hl).elim (hcv l) (po l)
    have hlen : (cls ++ prfN N ls k).length = cls.length + k := by rw [List.length_append, pl]
    have gw : Good (cls ++ prfN N ls k) := good_of fun l hl => (wl l hl).1
    have gd : ∀ {h' : Hp}, Kp hB.nx hB h' → GdLt h' hB.nx := fun k q hq => by rw [k.gd] at hq; exact ok.gd q hq
    refine lp11_1 hN ok hb9 gf kI (by omega) (rng_at hlr (3 * k)) (rng_at hlr (3 * k + 1)) (rng_at hlr (3 * k + 2)) (fun h3 a16 n16 c16 k3 A16 => ?_) 3 0 (by omega) (.refl _ _) (AccI.nil ..) (by simp)
    have lin := linN_ok (i := k) hN30 (rng_at hlr (3 * k)) (rng_at hlr (3 * k + 1)) (rng_at hlr (3 * k + 2)) 0
    have kp3 : Kp hB.nx hB h3 := kI.trans (k3.le kI.nx)
    refine (ct19 hO (ok.kp kp3) A16.ints (by omega) fun x hx => (lin.2 x hx).1).s fun a n c h4 ⟨L4, k4, fr4, ez4⟩ => ?_
    have kp4 : Kp hB.nx hB h4 := kp3.trans (k4.le kp3.nx)
    have f34 := k4.ex (Nat.le_refl _)
    have f23 := k3.ex (Nat.le_refl _)
    have f24 : Ft h h4 := fw.tr (f23.tr f34)
    have A4 : LL b9 hB.nx h4 a10 n10 c10 (prfN N ls k) := A.to h4
    have B4 : LL b9 hB.nx h4 a11 n11 c11 (cls ++ prfN N ls k) := B.to h4
    have lln : lineN N ls k ∈ prfN N ls (k + 1) := by simp [prfN]
    obtain ⟨lcv, lle⟩ := po1 _ lln
    have L4 : IntsAt h4 a n (lineN N ls k) := L4
    have okY : VOk b9 hB.nx (.slice a n c) := fun b off m u e => by
      injection e with e1 e2
      have hh : h3.nx ≤ b := fr4 b off e1
      have := kp3.nx
      refine ⟨.inr (by omega), .inr ?_⟩
      rcases Nat.eq_zero_or_pos m with h0 | h0
      · have := L4.1
        rw [ez4 (List.length_eq_zero_iff.1 (show (lineN N ls k).length = 0 by omega))] at e1; cases e1
      · exact h0
    have sn := stP_snoc (cls := cls) (pf := prfN N ls k) (l := lineN N ls k) gw (fun x hx => (lcv.2 x hx).1)
    have eP : prfN N ls (k + 1) = prfN N ls k ++ [lineN N ls k] := rfl
    -- the line is put behind both lists
    have both : ∀ {h5 : Hp} {y12 y13 : Int}, Kp h4.nx h4 h5 → stP cls (prfN N ls (k + 1)) = (y12, y13) → I11_4 Ow Yes v0 v1 (Int.ofNat w) mo b9 0 a10 n10 c10 a11 n11 c11 y12 y13 a n c (some ⟨bL, 0, none⟩) M 6 (Int.ofNat M) (Int.ofNat k) h5 := by
      intro h5 y12 y13 k5 e
      refine I11_4.of (hh := ?_) ..
      unfold T11_4
      have f45 := k5.ex (Nat.le_refl _)
      have kp5 := kp4.trans (k5.le kp4.nx)
      have A5 : LL b9 hB.nx h5 a10 n10 c10 (prfN N ls k) := A4.to h5
      have B5 : LL b9 hB.nx h5 a11 n11 c11 (cls ++ prfN N ls k) := B4.to h5
      have L5 : IntsAt h5 a n (lineN N ls k) := L4.to h5
      intro g6
      refine LL.app (by omega) A5 L5 okY kp5.nx (gd kp5) (ok.kp kp5).fr (by omega) fun a' c' h6 A6 fr6 K6 => ?_
      have kp6 := kp5.trans K6.kp
      have B6 : LL b9 hB.nx h6 a11 n11 c11 (cls ++ prfN N ls k) := B5.keep2 K6 fun q hq hq2 => dj q hq2 hq
      have L6 : IntsAt h6 a n (lineN N ls k) := K6.st L5 okY
      intro g7
      refine LL.app (by omega) B6 L6 okY kp6.nx (gd kp6) (ok.kp kp6).fr (by omega) fun a2 c2 h7 B7 fr7 K7 => ?_
      have kp7 := kp6.trans K7.kp
      have dj6 : ∀ q, a' = some ⟨q, 0, none⟩ → a11 ≠ some ⟨q, 0, none⟩ := fun q h1 h2 => by
        have h3 := fr6 q h1
        obtain ⟨vs, Bv, _⟩ := B5
        have := (Bv.lt h2).2
        omega
      have A7 : LL b9 hB.nx h7 a' (n10 + 1) c' (prfN N ls k ++ [lineN N ls k]) := A6.keep2 K7 fun q hq hq2 => dj6 q hq hq2
      have dj7 : ∀ q, a' = some ⟨q, 0, none⟩ → a2 ≠ some ⟨q, 0, none⟩ := fun q h1 h2 => by
        have h3 := fr7 q h2
        obtain ⟨vs, Av, _⟩ := A6
        have := (Av.lt h1).2
        omega
      rw [wrap_succ (by omega)]
      exact ih (k + 1) (by omega) kp7 A7 (by rw [eP, ← List.append_assoc]; exact B7) dj7 e
    refine vcond_split (fun hz => ?_) fun hz => ?_
    · have hz : x13 = 0 := eq_of_t hz
      refine (ct57 hO (ok.kp kp4) (gs := []) (l := lineN N ls k) B4.intss (by simp; omega) (fun l hl => by have := (wl l hl).2; omega) gw (SlAt.nil ..) (by simp) (fun x hx => by cases hx) L4 (by omega) (fun x hx => (lcv.2 x hx).1)).b fun q h2 ⟨hq, k2⟩ => ?_
      have hq : q = true ↔ Cl (cls ++ prfN N ls k) ((lineN N ls k).map fun x => -x) := by simpa using hq
      refine vcond_split (fun hh => ?_) fun hh => ?_
      · refine both k2 ?_
        rw [eP, sn, if_pos ⟨by rw [hst]; exact hz, fun e => by rw [hq.2 e] at hh; cases hh⟩, pl]
      · refine both k2 ?_
        rw [eP, sn, if_neg (fun e => e.2 (hq.1 (by simpa using hh))), hst]
    · have hz : x13 ≠ 0 := ne_of_f hz
      refine both (.refl _ _) ?_
      rw [eP, sn, if_neg (fun e => hz (by have := e.1; rw [hst] at this; exact this)), hst]
end
/-- The law. -/
theorem law11 {vars many : Nat} {cl : List Int} (p : PuzOk vars many cl) {ls : List Int} (hls : ls.length = 18) (hlr : ∀ x ∈ ls, -128 ≤ x ∧ x < 128) {w : Nat} (hw : w < 256) {mo : Int} (hmo : -128 ≤ mo ∧ mo < 128) {h : Hp} (ok : h.Ok) (ht : Tb h) :
    Ret Tryd.prog Ow 11 [.agg (puzV vars many cl).toArray, .agg (ls.map (Value.int .i8)).toArray, .int .u8 (Int.ofNat w), .int .i8 mo] h Yes := by
  have hO : Oth Ow := Ow_oth
  refine rk11 _ _ _ _ (Ow_oth _ _ _ (by decide)) ?_
  unfold T11
  have pv := p.v
  refine vreq_t (by simp [puzV, one]) ?_
  intro g1
  refine vreq_t (by simp [one]) ?_
  intro g2
  have e1 : g2.get h.nx = some (.cells (puzV vars many cl) 26 .fix) := (get_add_ne (show h.nx ≠ h.nx + 1 by omega)).trans (get_add_same h _)
  have e2 : g2.get (h.nx + 1) = some (.cells (ls.map (Value.int .i8)) 73 .fix) := get_add_same g1 _
  have k2 : Kp h.nx h g2 := ((Kp.refl _ _).add (Nat.le_refl _) _).add (by show h.nx ≤ h.nx + 1; omega) _
  have n2 : g2.nx = h.nx + 2 := rfl
  have pl : (puzV vars many cl).length = 44 := by simp [puzV, p.len]
  have rd : readAt g2 h.nx 0 44 = some (puzV vars many cl) := by rw [readAt_get e1 (by omega), List.drop_zero, ← pl, List.take_length]
  refine ⟨_, rd, ?_⟩
  obtain ⟨v3, h3, e3, a3, n3, c3, rfl, F3, k3⟩ := ct16 hO (ok.kp k2) p (x1 := 5) ⟨by decide, by decide⟩
  refine ⟨_, _, _, _, _, e3, ?_⟩
  have hmod : 0 ≤ (vars : Int).tmod 5 ∧ (vars : Int).tmod 5 < 5 := ⟨Int.tmod_nonneg _ (by omega), Int.tmod_lt_of_pos _ (by omega)⟩
  generalize hNe : 1 + (vars : Int).tmod 5 = N at *
  have hN : 1 ≤ N ∧ N ≤ 5 := by omega
  obtain ⟨cn, co⟩ := clsN_ok p (N := N) ⟨hN.1, by omega⟩ (many % 15)
  intro g4
  have kh3 := k2.trans (k3.le k2.nx)
  have ok3 := ok.kp kh3
  have ea : g4.get h3.nx = some (.cells [.int .i64 0, .slice none 0 0] 30 .fix) := get_add_same ..
  have gu : g4.guarded h3.nx = false := guarded_of fun q hq => by have := ok3.gd q hq; omega
  refine vreq_t (canW_t ea (by decide) gu (by simp) rfl) ?_
  intro g5
  have w5 : g5.get h3.nx = some (.cells [.int .i64 N, .slice a3 n3 c3] 30 .fix) := (wr_get ea (by decide) gu (by simp) rfl).trans rfl
  have k5 : Kp h3.nx h3 g5 := ((Kp.refl h3.nx h3).add (Nat.le_refl _) _).wr (Nat.le_refl _) _ _
  have n5 : g5.nx = h3.nx + 1 := nx_wr ..
  have f5 := k5.ex (Nat.le_refl _)
  have kh5 := kh3.trans (k5.le kh3.nx)
  refine ⟨_, _, _, read1 w5 (i := 1) rfl, ?_⟩
  have hn3 := F3.1
  refine (ct56 hO (ok.kp kh5) (g0 := h3) F3 (by omega) (B := g5.nx) (by omega) (Nat.le_refl _)).s fun a6 n6 c6 h6 ⟨A6, k6⟩ => ?_
  rw [wrap64 (n := Int.ofNat w) (by simp only [Int.ofNat_eq_natCast]; omega) (by simp only [Int.ofNat_eq_natCast]; omega), show (Int.ofNat w).tmod 7 = Int.ofNat (w % 7) from rfl]
  have sl : sliceV Tryd.prog h6 73 (.pointer (some ⟨g1.nx, 0, none⟩)) none (some (.int .i64 (Int.ofNat (w % 7)))) none = some (.slice (some ⟨h.nx + 1, 0, none⟩) (w % 7) 6) := by
    have e2 : sz Tryd.prog 23 = some 3 := by kernel_rfl
    have e3 : Tryd.prog.underlying 73 = some (.array 6 23) := by kernel_rfl
    have e4 : bounds 6 6 none (some (.int .i64 (Int.ofNat (w % 7)))) none = some (0, w % 7, 6) := by
      unfold bounds boundM boundH boundL boundV
      simp only [Option.bind_some, Option.map_some]
      rw [ble_t (by omega)]; rfl
    unfold sliceV
    rw [e3]
    simp only [e2, bind, Option.bind_some, e4]
    rfl
  refine ⟨_, _, _, sl, ?_⟩
  have n3 : g2.nx ≤ h3.nx := k3.nx
  have gl : g5.get (h.nx + 1) = some (.cells (ls.map (Value.int .i8)) 73 .fix) := by
    rw [k5.get _ (by omega), k3.get _ (by omega)]; exact e2
  refine lp11_0 hls hlr hmo hN (cls := clsN N cl (many % 15)) (by omega) co (ok.kp kh5) (ht.kp kh5 ht.1) (b9 := h3.nx) (by omega) w5 (F3.to g5) (bL := h.nx + 1) (by omega) gl (M := w % 7) (by omega) rfl (w % 7) 0 (by omega) k6 (.nil ..) (by simpa [prfN] using A6) (fun q h => by cases h) rfl
end Go.Proofs.YtfgfhplgnfbaaaaDoor
