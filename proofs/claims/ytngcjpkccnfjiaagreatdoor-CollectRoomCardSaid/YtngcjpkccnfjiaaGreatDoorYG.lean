/- Contracts: what is reached, by numbers of cells. -/
import Derived.Test.YtngcjpkccnfjiaaGreatDoorYF
import Derived.Test.YtngcjpkccnfjiaaGreatDoorYE
import Derived.Test.YtngcjpkccnfjiaaGreatDoorYD
import Derived.Lib.LaidTab
namespace Go.Proofs.YtngcjpkccnfjiaaGreatDoor
set_option maxRecDepth 100000
open Go Go.Ev
/-- Fields whose references are to cells. -/
def RefsIn (N : Nat) (fs : List Fd) : Prop := ∀ f ∈ fs, f.refs = true → f.n = (f.n.toNat : Int) ∧ f.n.toNat < N
theorem RefsIn.fd {N : Nat} {fs : List Fd} (h : RefsIn N fs) {f : Fd} (hf : f ∈ fs) : FdN f := fun hr => (h f hf hr).1
theorem addC_in {N : Nat} {l : List Nat} {f : Fd} (hn : l.Nodup) (hl : ∀ i ∈ l, i < N) (hf : f.refs = true → f.n.toNat < N) : (addC l f).Nodup ∧ ∀ i ∈ addC l f, i < N := by
  refine ⟨addC_nodup hn, fun i hi => ?_⟩
  have := addC_sub (o := List.range N) (f := f) (fun i hi => List.mem_range.2 (hl i hi)) (fun h => List.mem_range.2 (hf h)) i hi
  exact List.mem_range.1 this
theorem len_in {N : Nat} {l : List Nat} (hn : l.Nodup) (hl : ∀ i ∈ l, i < N) : l.length ≤ N := by
  have := nodup_len (o := List.range N) hn fun i hi => List.mem_range.2 (hl i hi)
  simpa using this
section
variable {O : CallF} (hO : Oth O)
include hO
theorem lp49_2 {g : Hp} {a0 : Option Addr} {n0 c0 : Nat} {a1 : Option Addr} {n1 c1 : Nat} {b5 : Nat} {x9 : Int} {N : Nat} (hN : N ≤ 1000) {fs : List Fd} (hfs : RefsIn N fs) (lfs : fs.length ≤ 1000) {Q : Value → Hp → Prop} {res : List Nat} {a40 : Option Addr} {n40 c40 : Nat} (F : FdsAt g a40 n40 fs)
    (next : ∀ (h : Hp) (a : Option Addr) (n c : Nat), Know g h [acc g.nx 3 1 a n c (iv (res.map Int.ofNat)), ob b5 (.cells [.slice a n c] 22 .fix)] → I49_1 O Q a0 n0 c0 a1 n1 c1 b5 0 (.func (.func 108) #[] #[.pointer (some ⟨b5, 0, none⟩)]) (wrapF .i64 (x9 + 1)) h) :
    ∀ (d k : Nat) (l : List Nat) (h : Hp) (a : Option Addr) (n c : Nat), k + d = fs.length → l.Nodup → (∀ i ∈ l, i < N) → withC (fs.drop k) l = res → Know g h [acc g.nx 3 1 a n c (iv (l.map Int.ofNat)), ob b5 (.cells [.slice a n c] 22 .fix)] →
      I49_2 O Q a0 n0 c0 a1 n1 c1 b5 0 (.func (.func 108) #[] #[.pointer (some ⟨b5, 0, none⟩)]) x9 a40 n40 c40 (Int.ofNat n40) (Int.ofNat k) h := by
  have hn40 := F.1
  intro d
  induction d with
  | zero =>
    intro k l h a n c hk hn hl hw S
    refine I49_2.of (hh := ?_) ..
    unfold T49_2
    refine vcond_f (by rw [ltI_nat]; exact blt_f (by omega)) ?_
    rw [List.drop_of_length_le (by omega)] at hw
    have hw : l = res := hw
    subst hw
    exact next h a n c S
  | succ d ih =>
    intro k l h a n c hk hn hl hw S
    have hk' : k < fs.length := by omega
    haveI := S.ft
    refine I49_2.of (hh := ?_) ..
    unfold T49_2
    refine vcond_t (by rw [ltI_nat]; exact blt_t (by omega)) (isNat_i (F.rd (k := k) hk' ?_))
    intro g306
    have S : Know g g306 [_, _, _] := S.add _
    refine vreq_t (S.cw 0 rfl (by decide) rfl rfl) ?_
    intro g307
    have S : Know g g307 [_, _, _] := S.wr 0 rfl (by decide) rfl rfl
    refine ⟨_, _, S.rd 0 rfl rfl rfl, ?_⟩
    have hm := List.getElem_mem hk'
    have lN := len_in hn hl
    obtain ⟨v, h313, e313, rfl, a', n', c', S2⟩ := ct108 hO S 2 1 rfl rfl (by decide) (by omega) (hfs.fd hm)
    refine ⟨_, e313, ?_⟩
    have S : Know g h313 [_, _, _] := S2
    have S : Know g h313 [_, _] := S.sub _ (List.sublist_cons_self ..)
    rw [wrap_succ (by omega)]
    obtain ⟨q1, q2⟩ := addC_in (f := fs[k]) hn hl fun hr => (hfs _ hm hr).2
    rw [List.drop_eq_getElem_cons hk', withC_cons] at hw
    exact ih (k + 1) _ h313 a' n' c' (by omega) q1 q2 hw S
theorem lp49_1 {g : Hp} {a0 : Option Addr} {n0 c0 : Nat} {a1 : Option Addr} {n1 c1 : Nat} {b5 : Nat} {L : List Cl} (C : ClsAt g a0 n0 L) (hN : L.length ≤ 1000) (hL : ∀ i, i < L.length → RefsIn L.length (clAt L i).fs ∧ (clAt L i).fs.length ≤ 1000) {Q : Value → Hp → Prop} {kept : List Nat}
    (next : ∀ (h : Hp) (a : Option Addr) (n c : Nat), Know g h [acc g.nx 3 1 a n c (iv (kept.map Int.ofNat)), ob b5 (.cells [.slice a n c] 22 .fix)] → Q (.slice a n c) h) :
    ∀ (f i : Nat) (l : List Nat) (h : Hp) (a : Option Addr) (n c : Nat), l.Nodup → (∀ i ∈ l, i < L.length) → i ≤ l.length → reachC L f i l = some kept → Know g h [acc g.nx 3 1 a n c (iv (l.map Int.ofNat)), ob b5 (.cells [.slice a n c] 22 .fix)] →
      I49_1 O Q a0 n0 c0 a1 n1 c1 b5 0 (.func (.func 108) #[] #[.pointer (some ⟨b5, 0, none⟩)]) (Int.ofNat i) h := by
  intro f
  induction f with
  | zero => intro i l h a n c _ _ _ hr; cases hr
  | succ f ih =>
    intro i l h a n c hn hl hil hr S
    have A : AccE h g.nx 3 1 a n c (iv (l.map Int.ofNat)) := S.get 0 rfl
    have hnl : n = l.length := by simpa using (AccE.ints A).1
    have lN := len_in hn hl
    haveI := S.ft
    refine I49_1.of (hh := ?_) ..
    unfold T49_1
    refine ⟨_, _, _, S.rd 1 rfl rfl rfl, ?_⟩
    unfold reachC at hr
    by_cases hi : i < l.length
    · rw [if_pos hi] at hr
      have hg : l.getD i 0 = l[i] := by simp [List.getD, List.getElem?_eq_getElem hi]
      rw [hg] at hr
      have hli := hl _ (List.getElem_mem hi)
      refine vcond_t (by rw [ltI_nat]; exact blt_t (by omega)) ⟨_, _, _, S.rd 1 rfl rfl rfl, isNat_i ((AccE.ints A).rd (k := i) (by rw [List.length_map]; exact hi) ?_)⟩
      rw [List.getElem_map]
      refine isNat_i (C.rd (k := l[i]) hli fun a' n' c' F => ?_)
      have hcl : L[l[i]] = clAt L l[i] := by simp [clAt, List.getD, List.getElem?_eq_getElem hli]
      rw [hcl] at F ⊢
      intro g218
      have S : Know g g218 [_, _, _] := S.add _
      refine vreq_t (S.cw 0 rfl (by decide) rfl rfl) ?_
      intro g219
      have S : Know g g219 [_, _, _] := S.wr 0 rfl (by decide) rfl rfl
      obtain ⟨v, h225, e225, rfl, k225⟩ := ct48 hO S.ok (k := (clAt L l[i]).kind) (a := a') (n := n') (c := c')
      refine ⟨_, _, _, _, S.rd 0 rfl rfl rfl, _, _, e225, ?_⟩
      have S : Know g h225 [_, _, _] := S.call k225
      obtain ⟨hF1, hF2⟩ := hL _ hli
      unfold strongC at hr
      cases hk : keepB (clAt L l[i]).kind with
      | true =>
        rw [hk, if_pos rfl] at hr
        refine vcond_t rfl ⟨_, _, _, S.rd 0 rfl rfl rfl, ?_⟩
        have S : Know g h225 [_, _] := S.sub _ (List.sublist_cons_self ..)
        obtain ⟨w1, w2⟩ := withC_inv (o := List.range L.length) (fs := (clAt L l[i]).fs) hn (fun i hi => List.mem_range.2 (hl i hi)) fun f hf hr => List.mem_range.2 (hF1 f hf hr).2
        obtain ⟨e, he⟩ := withC_pre (clAt L l[i]).fs l
        refine lp49_2 hO hN hF1 hF2 F (fun h2 a2 n2 c2 S2 => ?_) (clAt L l[i]).fs.length 0 l h225 a n c (by omega) hn hl rfl S
        rw [wrap_succ (by omega)]
        exact ih (i + 1) _ h2 a2 n2 c2 w1 (fun i hi => List.mem_range.1 (w2 i hi)) (by rw [he, List.length_append]; omega) hr S2
      | false =>
        rw [hk, if_neg (by decide)] at hr
        refine vcond_f rfl ?_
        have S : Know g h225 [_, _] := S.sub _ (List.sublist_cons_self ..)
        rw [wrap_succ (by omega)]
        exact ih (i + 1) l h225 a n c hn hl (by omega) hr S
    · rw [if_neg hi] at hr
      obtain rfl := Option.some.inj hr
      exact vcond_f (by rw [ltI_nat]; exact blt_f (by omega)) ⟨_, _, _, S.rd 1 rfl rfl rfl, next h a n c S⟩
/-- 'reached'. -/
theorem ct49 {g : Hp} (ok : g.Ok) {a0 : Option Addr} {n0 c0 : Nat} {a1 : Option Addr} {n1 c1 : Nat} {L : List Cl} (C : ClsAt g a0 n0 L) (hN : L.length ≤ 1000) (hL : ∀ i, i < L.length → RefsIn L.length (clAt L i).fs ∧ (clAt L i).fs.length ≤ 1000) {fs : List Fd} (F : FdsAt g a1 n1 fs) (hfs : RefsIn L.length fs) (lfs : fs.length ≤ 1000) {f : Nat} {kept : List Nat} (hk : reachC L f 0 (withC fs []) = some kept) :
    Ret Tryz.prog O 49 [.slice a0 n0 c0, .slice a1 n1 c1] g fun v h' => ∃ a n c, v = .slice a n c ∧ Know g h' [acc g.nx 3 1 a n c (iv (kept.map Int.ofNat))] := by
  refine rk49 (hO := hO _ _ _ (by decide)) (hh := ?_) ..
  unfold T49
  intro g1
  have S : Know g g1 [_] := (Know.nil ok).add _
  have S : Know g g1 [_, _] := S.accNil g.nx 3 1
  obtain ⟨w1, w2⟩ := withC_inv (o := List.range L.length) (fs := fs) (l := []) List.nodup_nil (fun i hi => by cases hi) fun f hf hr => List.mem_range.2 (hfs f hf hr).2
  have hn1 := F.1
  have lp : ∀ (d k : Nat) (l : List Nat) (h : Hp) (a : Option Addr) (n c : Nat), k + d = fs.length → l.Nodup → (∀ i ∈ l, i < L.length) → withC (fs.drop k) l = withC fs [] → Know g h [acc g.nx 3 1 a n c (iv (l.map Int.ofNat)), ob g.nx (.cells [.slice a n c] 22 .fix)] →
      I49_0 O (fun v h' => ∃ a n c, v = .slice a n c ∧ Know g h' [acc g.nx 3 1 a n c (iv (kept.map Int.ofNat))]) a0 n0 c0 a1 n1 c1 g.nx 0 (.func (.func 108) #[] #[.pointer (some ⟨g.nx, 0, none⟩)]) (Int.ofNat k) h := by
    intro d
    induction d with
    | zero =>
      intro k l h a n c hk2 hn hl hw S
      refine I49_0.of (hh := ?_) ..
      unfold T49_0
      refine vcond_f (by rw [ltI_nat]; exact blt_f (by omega)) ?_
      rw [List.drop_of_length_le (by omega)] at hw
      have hw : l = withC fs [] := hw
      subst hw
      exact lp49_1 hO C hN hL (kept := kept) (fun h a n c S => ⟨a, n, c, rfl, S.sel [0] (by decide) rfl⟩) f 0 _ h a n c hn hl (Nat.zero_le _) hk S
    | succ d ih =>
      intro k l h a n c hk2 hn hl hw S
      have hk' : k < fs.length := by omega
      haveI := S.ft
      refine I49_0.of (hh := ?_) ..
      unfold T49_0
      refine vcond_t (by rw [ltI_nat]; exact blt_t (by omega)) (isNat_i (F.rd (k := k) hk' ?_))
      intro g306
      have S : Know g g306 [_, _, _] := S.add _
      refine vreq_t (S.cw 0 rfl (by decide) rfl rfl) ?_
      intro g307
      have S : Know g g307 [_, _, _] := S.wr 0 rfl (by decide) rfl rfl
      refine ⟨_, _, S.rd 0 rfl rfl rfl, ?_⟩
      have hm := List.getElem_mem hk'
      have lN := len_in hn hl
      obtain ⟨v, h313, e313, rfl, a', n', c', S2⟩ := ct108 hO S 2 1 rfl rfl (by decide) (by omega) (hfs.fd hm)
      refine ⟨_, e313, ?_⟩
      have S : Know g h313 [_, _, _] := S2
      have S : Know g h313 [_, _] := S.sub _ (List.sublist_cons_self ..)
      rw [wrap_succ (by omega)]
      obtain ⟨q1, q2⟩ := addC_in (f := fs[k]) hn hl fun hr => (hfs _ hm hr).2
      rw [List.drop_eq_getElem_cons hk', withC_cons] at hw
      exact ih (k + 1) _ h313 a' n' c' (by omega) q1 q2 hw S
  exact lp fs.length 0 [] g1 none 0 0 (by omega) List.nodup_nil (fun i hi => by cases hi) rfl S
end
end Go.Proofs.YtngcjpkccnfjiaaGreatDoor
/- Cells by numbers: a list of cells that grows; what a pile's bytes say. -/
namespace Go.Ev
open Go
/-- What is so as long as some objects stay. -/
def clo (own : Nat → Prop) (F : Hp → Prop) : Rs := ⟨own, fun h => ∀ h' : Hp, h.nx ≤ h'.nx → (∀ b, own b → h'.get b = h.get b) → F h'⟩
theorem clo.loc (own : Nat → Prop) (F : Hp → Prop) : (clo own F).Loc := fun _ _ hn he hP h'' hn2 he2 => hP h'' (Nat.le_trans hn hn2) fun b hb => (he2 b hb).trans (he b hb)
theorem clo.get {own : Nat → Prop} {F : Hp → Prop} {h : Hp} (hP : (clo own F).P h) : F h := hP h (Nat.le_refl _) fun _ _ => rfl
theorem Know.merge {h0 g : Hp} {r s : Rs} {L : List Rs} (S : Know h0 g (r :: s :: L)) (F : Hp → Prop) (hF : ∀ h', r.P h' → s.P h' → F h') : Know h0 g (clo (fun o => r.own o ∨ s.own o) F :: L) := by
  obtain ⟨r1, r2, r3⟩ := S.at_ r (List.mem_cons_self ..)
  obtain ⟨s1, s2, s3⟩ := S.at_ s (List.mem_cons_of_mem _ (List.mem_cons_self ..))
  obtain ⟨d1, d2⟩ := List.pairwise_cons.1 S.dis
  obtain ⟨d3, d4⟩ := List.pairwise_cons.1 d2
  refine ⟨S.ok, S.kp, fun q hq => ?_, List.pairwise_cons.2 ⟨fun q hq b hb hqb => ?_, d4⟩, S.ok0⟩
  · rcases List.mem_cons.1 hq with rfl | hq
    · exact ⟨clo.loc _ _, fun h' hn he => hF h' (r1 g h' hn (fun b hb => he b (.inl hb)) r2) (s1 g h' hn (fun b hb => he b (.inr hb)) s2), fun b hb => hb.elim (r3 b) (s3 b)⟩
    · exact S.at_ q (List.mem_cons_of_mem _ (List.mem_cons_of_mem _ hq))
  · rcases hb with hb | hb
    · exact d1 q (List.mem_cons_of_mem _ hq) b hb hqb
    · exact d3 q hq b hb hqb
theorem AccE.slAt {α : Type} {enc : α → List Value} {w : Nat} (hw : ∀ x, (enc x).length = w) (hw0 : 0 < w) {h : Hp} {base : Nat} {e : TypeId} {a : Option Addr} {n c : Nat} {xs : List α} (H : AccE h base e w a n c (xs.flatMap enc)) : SlAt w (ECells enc) h a n xs := by
  rcases H with H | ⟨h1, h2, h3, o, h4, h5, h6, e2, m, h7⟩
  · exact H.slAt hw hw0
  · have hl := flatMap_length hw xs
    rw [h1] at hl
    have hx : xs = [] := by
      cases xs with
      | nil => rfl
      | cons x xs =>
        have : w ≤ (xs.length + 1) * w := Nat.le_mul_of_pos_left w (by omega)
        rw [List.length_nil, List.length_cons] at hl
        omega
    subst hx h2 h4
    exact ⟨rfl, .inr ⟨o, 0, _, _, _, rfl, h6, h7, by simp, fun i hi => by simp at hi⟩⟩
end Go.Ev
namespace Go.Proofs.YtngcjpkccnfjiaaGreatDoor
set_option maxRecDepth 100000
open Go Go.Ev
theorem app64 : AppT Tryz.prog 64 76 2 16 := ⟨Tryz.underlying64, by kernel_rfl⟩
theorem app63 : AppT Tryz.prog 63 72 2 32 := ⟨Tryz.underlying63, by kernel_rfl⟩
abbrev fvs (fs : List Fd) : List Value := fs.flatMap fdE
theorem fvs_one (fs : List Fd) : (fvs fs).all one = true := by
  induction fs with
  | nil => rfl
  | cons f fs ih =>
    show ((f :: fs).flatMap fdE).all one = true
    rw [List.flatMap_cons, List.all_append]
    exact (Bool.and_eq_true _ _).mpr ⟨rfl, ih⟩
/-- Values of cells. -/
def Nst (h : Hp) : List Value → List Cl → Prop
  | [], [] => True
  | v :: w :: vs, c :: L => (v = .int .i64 c.kind ∧ ∃ a n cp, w = .slice a n cp ∧ FdsAt h a n c.fs) ∧ Nst h vs L
  | _, _ => False
theorem Nst.snoc {h : Hp} : ∀ {vs : List Value} {L : List Cl}, Nst h vs L → ∀ {c : Cl} {a : Option Addr} {n cp : Nat}, FdsAt h a n c.fs → Nst h (vs ++ [.int .i64 c.kind, .slice a n cp]) (L ++ [c])
  | [], [], _, c, a, n, cp, F => ⟨⟨rfl, a, n, cp, rfl, F⟩, trivial⟩
  | v :: w :: vs, c :: L, H, c', a, n, cp, F => ⟨H.1, Nst.snoc H.2 F⟩
  | [], _ :: _, H, _, _, _, _, _ => H.elim
  | [_], _, H, _, _, _, _, _ => by cases ‹List Cl› <;> exact H.elim
  | _ :: _ :: _, [], H, _, _, _, _, _ => H.elim
theorem Nst.len {h : Hp} : ∀ {vs : List Value} {L : List Cl}, Nst h vs L → vs.length = L.length * 2
  | [], [], _ => rfl
  | v :: w :: vs, c :: L, H => by have := Nst.len H.2; simp; omega
  | [], _ :: _, H => H.elim
  | [_], _, H => by cases ‹List Cl› <;> exact H.elim
  | _ :: _ :: _, [], H => H.elim
theorem Nst.get {h : Hp} : ∀ {vs : List Value} {L : List Cl}, Nst h vs L → ∀ i (hi : i < L.length), ECl h L[i] ((vs.drop (i * 2)).take 2)
  | [], [], _, i, hi => by simp at hi
  | v :: w :: vs, c :: L, H, i, hi => by
    cases i with
    | zero =>
      obtain ⟨⟨rfl, a, n, cp, rfl, F⟩, _⟩ := H
      exact ⟨a, n, cp, rfl, F⟩
    | succ i =>
      have := Nst.get H.2 i (by simpa using hi)
      rw [show (i + 1) * 2 = i * 2 + 1 + 1 by omega, List.drop_succ_cons, List.drop_succ_cons]
      exact this
  | [], _ :: _, H, _, _ => H.elim
  | [_], _, H, _, _ => by cases ‹List Cl› <;> exact H.elim
  | _ :: _ :: _, [], H, _, _ => H.elim
theorem cls_of {h : Hp} {lo : Nat} {a : Option Addr} {n c : Nat} {vs : List Value} {L : List Cl} (A : AccE h lo 72 2 a n c vs) (N : Nst h vs L) : ClsAt h a n L := by
  have hl := N.len
  rcases A with (⟨rfl, rfl, _, rfl⟩ | ⟨o, rfl, _, h3, _, h5, h6⟩) | ⟨rfl, rfl, _, o, rfl, _, h6, e2, m, h7⟩
  · have : L = [] := by
      cases L with
      | nil => rfl
      | cons x L => simp at hl
    subst this; exact SlAt.nil ..
  · exact ⟨by omega, .inr ⟨o, 0, vs, 72, _, rfl, h5, h6, by omega, fun i hi => by rw [Nat.zero_add]; exact N.get i hi⟩⟩
  · have : L = [] := by
      cases L with
      | nil => rfl
      | cons x L => simp at hl
    subst this
    exact ⟨rfl, .inr ⟨o, 0, _, _, _, rfl, h6, h7, by simp, fun i hi => by simp at hi⟩⟩
theorem Nst.mono {h h' : Hp} (f : ∀ {a n fs}, FdsAt h a n fs → FdsAt h' a n fs) : ∀ {vs : List Value} {L : List Cl}, Nst h vs L → Nst h' vs L
  | [], [], _ => trivial
  | v :: w :: vs, c :: L, H => ⟨⟨H.1.1, let ⟨a, n, cp, e, F⟩ := H.1.2; ⟨a, n, cp, e, f F⟩⟩, Nst.mono f H.2⟩
  | [], _ :: _, H => H.elim
  | [_], _, H => by cases ‹List Cl› <;> exact H.elim
  | _ :: _ :: _, [], H => H.elim
/-! ### what the bytes of a pile say -/
abbrev bv (xs : List Nat) : List Value := xs.map fun x => Value.int .u8 (Int.ofNat x)
structure Bytes (v0 : Array Value) (xs : List Nat) : Prop where
  v : v0.toList = bv xs
  len : xs.length = 51
  lt : ∀ x ∈ xs, x < 256
def wordC (n x : Nat) : Fd := if n = 0 ∨ x % 4 = 0 then ⟨2 * ((x : Int) - 100) + 1, false⟩ else if x % 16 = 7 then ⟨0, false⟩ else ⟨((x / 4 % n : Nat) : Int), true⟩
def fdOf (k n x : Nat) : Fd := if k = 3 then ⟨((97 + x % 26 : Nat) : Int), false⟩ else if k = 4 then ⟨((x % 2 : Nat) : Int), false⟩ else wordC n x
def pKind (xs : List Nat) (i : Nat) : Nat := 1 + xs.getD (2 + i) 0 % 5
def pSize (xs : List Nat) (i : Nat) : Nat := if pKind xs i = 4 then 1 else xs.getD (2 + i) 0 / 8 % 5
def pMany (xs : List Nat) : Nat := xs.getD 0 0 % 10
def pCell (xs : List Nat) (i : Nat) : Cl := ⟨(pKind xs i : Int), ((xs.drop (11 + 4 * i)).take (pSize xs i)).map (fdOf (pKind xs i) (pMany xs))⟩
def drawnL (xs : List Nat) : List Cl := (List.range (pMany xs)).map (pCell xs)
def drawnR (xs : List Nat) : List Fd := ((xs.drop 47).take (xs.getD 0 0 / 16 % 5)).map (wordC (pMany xs))
theorem bv_one (xs : List Nat) : (bv xs).all one = true := by rw [List.all_map]; exact List.all_eq_true.2 fun _ _ => rfl
theorem bv_at {xs : List Nat} {i : Nat} (hi : i < xs.length) : ((bv xs).drop i).take 1 = [.int .u8 (Int.ofNat (xs.getD i 0))] := by
  rw [List.drop_eq_getElem_cons (by simpa using hi)]
  simp [List.getD, List.getElem?_eq_getElem hi]
theorem Bytes.b {v0 : Array Value} {xs : List Nat} (B : Bytes v0 xs) (i : Nat) : xs.getD i 0 < 256 := by
  rw [List.getD]
  cases h : xs[i]? with
  | none => show 0 < 256; decide
  | some x => exact B.lt x (List.mem_of_getElem? h)
theorem wrapN {n : Nat} (h : n < 9223372036854775808) : wrapF .i64 (Int.ofNat n) = Int.ofNat n := wrap64 (by have : Int.ofNat n = (n : Int) := rfl; omega) (by have : Int.ofNat n = (n : Int) := rfl; omega)
theorem wordC_n {n x : Nat} (h : n = 0 ∨ x % 4 = 0) : wordC n x = ⟨2 * ((x : Int) - 100) + 1, false⟩ := if_pos h
section
variable {O : CallF} (hO : Oth O)
include hO
theorem ct139 {h : Hp} (ok : h.Ok) {n x : Nat} (hx : x < 256) {b1 : Nat} (hb : readAt h b1 0 1 = some [.int .i64 (Int.ofNat n)]) (hb1 : b1 < h.nx) : Ret Tryz.prog O 139 [.int .u8 (Int.ofNat x), .pointer (some ⟨b1, 0, none⟩)] h fun v h' => v = .agg #[.int .i64 (wordC n x).n, .bool (wordC n x).refs] ∧ Kp h.nx h h' := by
  refine rk139 (hO := hO _ _ _ (by decide)) (hh := ?_) ..
  unfold T139
  have ex : wrapF .i64 (Int.ofNat x) = Int.ofNat x := wrapN (by omega)
  rw [ex]
  have e1 : wrapF .i64 (wrapF .i64 (2 * wrapF .i64 (Int.ofNat x - 100)) + 1) = 2 * ((x : Int) - 100) + 1 := by
    have : Int.ofNat x = (x : Int) := rfl
    rw [wrap64 (n := Int.ofNat x - 100) (by omega) (by omega), wrap64 (n := 2 * (Int.ofNat x - 100)) (by omega) (by omega), wrap64 (by omega) (by omega)]
    rfl
  rw [e1]
  intro g1
  have S : Know h g1 [_] := (Know.nil ok).add _
  have hb' : readAt g1 b1 0 1 = some [.int .i64 (Int.ofNat n)] := by
    haveI := S.ft
    rw [readAt_ex (g := h) hb1]; exact hb
  refine ⟨_, hb', vcond_split (fun h1 => ?_) fun h1 => ?_⟩
  · refine vreq_t (S.cw 0 rfl (by decide) rfl rfl) ?_
    intro g3
    have S : Know h g3 [_] := S.wr 0 rfl (by decide) rfl rfl
    have h1 : n = 0 := Int.ofNat_inj.1 (eq_of_t h1)
    rw [wordC_n (.inl h1)]
    exact ⟨_, _, S.rd 0 rfl rfl rfl, rfl, S.kp⟩
  have h1 : n ≠ 0 := fun h => ne_of_f h1 (by rw [h]; rfl)
  refine vcond_split (fun h2 => ?_) fun h2 => ?_
  · refine vreq_t (S.cw 0 rfl (by decide) rfl rfl) ?_
    intro g3
    have S : Know h g3 [_] := S.wr 0 rfl (by decide) rfl rfl
    have h2 : x % 4 = 0 := Int.ofNat_inj.1 (eq_of_t h2)
    rw [wordC_n (.inr h2)]
    exact ⟨_, _, S.rd 0 rfl rfl rfl, rfl, S.kp⟩
  have h2 : x % 4 ≠ 0 := fun h => ne_of_f h2 (by show Int.ofNat (x % 4) = 0; rw [h]; rfl)
  refine vcond_split (fun h3 => ?_) fun h3 => ?_
  · refine vreq_t (S.cw 0 rfl (by decide) rfl rfl) ?_
    intro g3
    have S : Know h g3 [_] := S.wr 0 rfl (by decide) rfl rfl
    have h3 : x % 16 = 7 := Int.ofNat_inj.1 (eq_of_t h3)
    have e : wordC n x = ⟨0, false⟩ := by unfold wordC; rw [if_neg (by omega), if_pos h3]
    rw [e]
    exact ⟨_, _, S.rd 0 rfl rfl rfl, rfl, S.kp⟩
  have h3 : x % 16 ≠ 7 := fun h => ne_of_f h3 (by show Int.ofNat (x % 16) = 7; rw [h]; rfl)
  have e : wordC n x = ⟨((x / 4 % n : Nat) : Int), true⟩ := by unfold wordC; rw [if_neg (by omega), if_neg h3]
  rw [e]
  have e2 : wrapF .i64 (Int.tdiv (Int.ofNat x) 4) = Int.ofNat (x / 4) := wrapN (n := x / 4) (by omega)
  rw [e2]
  refine ⟨_, hb', vreq_t (by rw [eqI_f (a := Int.ofNat n) (b := 0) (fun h => h1 (Int.ofNat_inj.1 h))]; rfl) (vreq_t (S.cw 0 rfl (by decide) rfl rfl) ?_)⟩
  intro g3
  have S : Know h g3 [_] := S.wr 0 rfl (by decide) rfl rfl
  exact ⟨_, _, S.rd 0 rfl rfl rfl, rfl, S.kp⟩
end
end Go.Proofs.YtngcjpkccnfjiaaGreatDoor
/- Contracts: what a pile's bytes say: drawn. -/
namespace Go.Proofs.YtngcjpkccnfjiaaGreatDoor
set_option maxRecDepth 100000
open Go Go.Ev
theorem slice_arr {h : Hp} {b off s : Nat} (hs : s < 4) : sliceV Tryz.prog h 59 (.pointer (some ⟨b, off, none⟩)) none (some (.int .i64 (Int.ofNat s))) none = some (.slice (some ⟨b, off, none⟩) s 4) := by
  unfold sliceV
  rw [Tryz.underlying59]
  have hz : sz Tryz.prog 5 = some 1 := by kernel_rfl
  simp only [hz, bind, Option.bind_some, bounds_hi (n := 4) (vis := 4) (show s ≤ 4 by omega)]
  rw [blt_t (by have : unk = 18446744073709551616 := rfl; omega)]
  simp
theorem slice_arr4 {h : Hp} {b off : Nat} : sliceV Tryz.prog h 59 (.pointer (some ⟨b, off, none⟩)) none (some (.int .i64 (Int.ofNat 4))) none = some (.slice (some ⟨b, off, none⟩) 4 4) := by
  unfold sliceV
  rw [Tryz.underlying59]
  have hz : sz Tryz.prog 5 = some 1 := by kernel_rfl
  simp only [hz, bind, Option.bind_some, bounds_hi (n := 4) (vis := 4) (show 4 ≤ 4 by omega)]
  rw [blt_t (by have : unk = 18446744073709551616 := rfl; omega)]
  simp
theorem slice_arr' {h : Hp} {b off s : Nat} (hs : s ≤ 4) : sliceV Tryz.prog h 59 (.pointer (some ⟨b, off, none⟩)) none (some (.int .i64 (Int.ofNat s))) none = some (.slice (some ⟨b, off, none⟩) s 4) := by
  rcases Nat.lt_or_ge s 4 with h | h
  · exact slice_arr h
  · have : s = 4 := by omega
    subst this; exact slice_arr4
section
variable {O : CallF} (hO : Oth O)
include hO
/-- The roots. -/
theorem lp106_2 {g : Hp} {v0 : Array Value} {xs : List Nat} (B : Bytes v0 xs) {b1 bn : Nat} {a6 : Option Addr} {n6 c6 : Nat} {R0 : Rs} {Q : Value → Hp → Prop} {s : Nat} (hs : s ≤ 4)
    (next : ∀ (h : Hp) (a : Option Addr) (n c : Nat), Know g h [acc g.nx 76 2 a n c (fvs (((xs.drop 47).take s).map (wordC (pMany xs)))), R0] → Q (.tuple #[.slice a6 n6 c6, .slice a n c]) h) :
    ∀ (d k : Nat) (h : Hp) (a : Option Addr) (n c : Nat), k + d = s → Know g h [acc g.nx 76 2 a n c (fvs (((xs.drop 47).take k).map (wordC (pMany xs)))), R0, ob bn (.cells [.int .i64 (Int.ofNat (pMany xs))] 3 .fix), ob b1 (.cells (bv xs) 62 .fix)] →
      I106_2 O Q v0 (.func (.func 139) #[] #[.pointer (some ⟨bn, 0, none⟩)]) a6 n6 c6 a n c (some ⟨b1, 47, none⟩) s 4 (Int.ofNat s) (Int.ofNat k) h := by
  have hlen := B.len
  intro d
  induction d with
  | zero =>
    intro k h a n c hk S
    refine I106_2.of (hh := ?_) ..
    unfold T106_2
    have : k = s := by omega
    subst this
    exact vcond_f (by rw [ltI_nat]; exact blt_f (by omega)) (next h a n c (S.sel [0, 1] (by decide) rfl))
  | succ d ih =>
    intro k h a n c hk S
    refine I106_2.of (hh := ?_) ..
    unfold T106_2
    have hb : Nat.ble (47 + k * 1 + 1) (bv xs).length = true := ble_t (by rw [List.length_map]; omega)
    have hr : ((bv xs).drop (47 + k * 1)).take 1 = [.int .u8 (Int.ofNat (xs.getD (47 + k * 1) 0))] := bv_at (by omega)
    obtain ⟨v, h310, e310, rfl, k310⟩ := ct139 hO S.ok (B.b (47 + k * 1)) (S.rd 2 rfl rfl rfl) (S.orng 2 rfl).2 (n := pMany xs)
    refine vcond_t (by rw [ltI_nat]; exact blt_t (by omega)) (isNat_i (isAddr_i (vreq_t (blt_t (by omega)) ⟨_, S.rd 3 rfl hr hb, _, _, _, e310, ?_⟩)))
    have S : Know g h310 [_, _, _, _] := S.call k310
    intro g311
    have S : Know g g311 [_, _, _, _, _] := S.add _
    have hn : n = k := by
      have A : AccE g311 g.nx 76 2 a n c _ := S.get 1 rfl
      have := (AccE.slAt fdE_len (by decide) A).1
      rw [List.length_map, List.length_take, List.length_drop] at this
      omega
    obtain ⟨a', n', c', h', e, hn', S⟩ := S.app 1 rfl (Nat.le_refl _) S.lo app64 ⟨_, _, _, rfl⟩ (src_get (n := 1) (c := 1) (esz := 2) (off := 0) (S.rd 0 rfl (r := [.int .i64 (wordC (pMany xs) (xs.getD (47 + k * 1) 0)).n, .bool (wordC (pMany xs) (xs.getD (47 + k * 1) 0)).refs]) rfl rfl)) rfl rfl (by omega) (by unfold big; omega)
    have S : Know g h' [_, _, _, _, _] := S
    refine ⟨_, _, _, _, e, ?_⟩
    rw [wrap_succ (by omega)]
    refine ih (k + 1) h' a' n' c' (by omega) ?_
    have S : Know g h' [_, _, _, _] := S.sel [1, 2, 3, 4] (by decide) rfl
    have e2 : fvs (((xs.drop 47).take (k + 1)).map (wordC (pMany xs))) = fvs (((xs.drop 47).take k).map (wordC (pMany xs))) ++ [.int .i64 (wordC (pMany xs) (xs.getD (47 + k * 1) 0)).n, .bool (wordC (pMany xs) (xs.getD (47 + k * 1) 0)).refs] := by
      have : (xs.drop 47)[k]? = some (xs.getD (47 + k * 1) 0) := by
        rw [List.getElem?_drop, Nat.mul_one, List.getD, List.getElem?_eq_getElem (by omega)]; rfl
      rw [List.take_add_one, this, List.map_append]
      unfold fvs
      rw [List.flatMap_append]
      rfl
    rw [e2]; exact S
/-- The fields of a cell. -/
theorem lp106_1 {g : Hp} {v0 : Array Value} {xs : List Nat} (B : Bytes v0 xs) {b1 bn b8 : Nat} {a6 : Option Addr} {n6 c6 : Nat} {R0 R1 : Rs} {Q : Value → Hp → Prop} {x20 x21 : Int} {off s kd : Nat} (hs : s ≤ 4) (hoff : off + 4 ≤ 51)
    (next : ∀ (h : Hp) (a : Option Addr) (n c : Nat), Know g h [ob b8 (.cells [.int .i64 (Int.ofNat kd), .slice a n c] 72 .fix), acc g.nx 76 2 a n c (fvs (((xs.drop off).take s).map (fdOf kd (pMany xs)))), R0, R1, ob bn (.cells [.int .i64 (Int.ofNat (pMany xs))] 3 .fix), ob b1 (.cells (bv xs) 62 .fix)] → I106_1 O Q v0 b1 0 (.func (.func 139) #[] #[.pointer (some ⟨bn, 0, none⟩)]) a6 n6 c6 b8 0 x20 x21 (some ⟨b1, off, none⟩) s 4 (Int.ofNat s) (Int.ofNat s) h) :
    ∀ (d k : Nat) (h : Hp) (a : Option Addr) (n c : Nat), k + d = s → Know g h [ob b8 (.cells [.int .i64 (Int.ofNat kd), .slice a n c] 72 .fix), acc g.nx 76 2 a n c (fvs (((xs.drop off).take k).map (fdOf kd (pMany xs)))), R0, R1, ob bn (.cells [.int .i64 (Int.ofNat (pMany xs))] 3 .fix), ob b1 (.cells (bv xs) 62 .fix)] →
      I106_1 O Q v0 b1 0 (.func (.func 139) #[] #[.pointer (some ⟨bn, 0, none⟩)]) a6 n6 c6 b8 0 x20 x21 (some ⟨b1, off, none⟩) s 4 (Int.ofNat s) (Int.ofNat k) h := by
  have hlen := B.len
  intro d
  induction d with
  | zero =>
    intro k h a n c hk S
    have : k = s := by omega
    subst this
    exact next h a n c S
  | succ d ih =>
    intro k h a n c hk S
    refine I106_1.of (hh := ?_) ..
    unfold T106_1
    have hb : Nat.ble (off + k * 1 + 1) (bv xs).length = true := ble_t (by rw [List.length_map]; omega)
    have hr : ((bv xs).drop (off + k * 1)).take 1 = [.int .u8 (Int.ofNat (xs.getD (off + k * 1) 0))] := bv_at (by omega)
    have hx := B.b (off + k * 1)
    have e2 : fvs (((xs.drop off).take (k + 1)).map (fdOf kd (pMany xs))) = fvs (((xs.drop off).take k).map (fdOf kd (pMany xs))) ++ [.int .i64 (fdOf kd (pMany xs) (xs.getD (off + k * 1) 0)).n, .bool (fdOf kd (pMany xs) (xs.getD (off + k * 1) 0)).refs] := by
      have : (xs.drop off)[k]? = some (xs.getD (off + k * 1) 0) := by
        rw [List.getElem?_drop, Nat.mul_one, List.getD, List.getElem?_eq_getElem (by omega)]; rfl
      rw [List.take_add_one, this, List.map_append]
      unfold fvs
      rw [List.flatMap_append]
      rfl
    have hn : n = k := by
      have A : AccE h g.nx 76 2 a n c _ := S.get 1 rfl
      have := (AccE.slAt fdE_len (by decide) A).1
      rw [List.length_map, List.length_take, List.length_drop] at this
      omega
    rw [wrap_succ (by omega)]
    refine vcond_t (by rw [ltI_nat]; exact blt_t (by omega)) (isNat_i (isAddr_i (vreq_t (blt_t (by omega)) ⟨_, S.rd 5 rfl hr hb, _, S.rd 0 rfl rfl rfl, ?_⟩)))
    rw [wrapN (show xs.getD (off + k * 1) 0 < 9223372036854775808 by omega)]
    refine vcond_split (fun h3 => ?_) fun h3 => ?_
    · have h3 : kd = 3 := Int.ofNat_inj.1 (eq_of_t h3)
      have ef : fdOf kd (pMany xs) (xs.getD (off + k * 1) 0) = ⟨((97 + xs.getD (off + k * 1) 0 % 26 : Nat) : Int), false⟩ := if_pos h3
      rw [ef] at e2
      have ew : wrapF .i64 (97 + Int.tmod (Int.ofNat (xs.getD (off + k * 1) 0)) 26) = Int.ofNat (97 + xs.getD (off + k * 1) 0 % 26) := by
        show wrapF .i64 (97 + Int.ofNat (xs.getD (off + k * 1) 0 % 26)) = _
        have : Int.ofNat (xs.getD (off + k * 1) 0 % 26) = ((xs.getD (off + k * 1) 0 % 26 : Nat) : Int) := rfl
        rw [this, wrap64 (by omega) (by omega)]
        show _ = ((97 + xs.getD (off + k * 1) 0 % 26 : Nat) : Int)
        omega
      rw [ew]
      refine ⟨_, _, _, S.rd 0 rfl rfl rfl, ?_⟩
      intro g209
      have S : Know g g209 [_, _, _, _, _, _, _] := S.add _
      obtain ⟨a', n', c', h', e, hn', S⟩ := S.app 2 rfl (Nat.le_refl _) S.lo app64 ⟨_, _, _, rfl⟩ (src_get (n := 1) (c := 1) (esz := 2) (off := 0) (S.rd 0 rfl (r := [.int .i64 (Int.ofNat (97 + xs.getD (off + k * 1) 0 % 26)), .bool false]) rfl rfl)) rfl rfl (by omega) (by unfold big; omega)
      have S : Know g h' [_, _, _, _, _, _, _] := S
      refine ⟨_, _, _, _, e, vreq_t (S.cw 1 rfl (by decide) rfl rfl) ?_⟩
      intro g214
      have S : Know g g214 [_, _, _, _, _, _, _] := S.wr 1 rfl (by decide) rfl rfl
      have S : Know g g214 [_, _, _, _, _, _] := S.sub _ (List.sublist_cons_self ..)
      exact ih (k + 1) g214 a' n' c' (by omega) (by rw [e2]; exact S)
    have h3 : kd ≠ 3 := fun h => ne_of_f h3 (by rw [h]; rfl)
    refine vcond_split (fun h4 => ?_) fun h4 => ?_
    · have h4 : kd = 4 := Int.ofNat_inj.1 (eq_of_t h4)
      have ef : fdOf kd (pMany xs) (xs.getD (off + k * 1) 0) = ⟨((xs.getD (off + k * 1) 0 % 2 : Nat) : Int), false⟩ := by unfold fdOf; rw [if_neg h3, if_pos h4]
      rw [ef] at e2
      refine ⟨_, _, _, S.rd 0 rfl rfl rfl, ?_⟩
      intro g209
      have S : Know g g209 [_, _, _, _, _, _, _] := S.add _
      obtain ⟨a', n', c', h', e, hn', S⟩ := S.app 2 rfl (Nat.le_refl _) S.lo app64 ⟨_, _, _, rfl⟩ (src_get (n := 1) (c := 1) (esz := 2) (off := 0) (S.rd 0 rfl (r := [.int .i64 (Int.ofNat (xs.getD (off + k * 1) 0 % 2)), .bool false]) rfl rfl)) rfl rfl (by omega) (by unfold big; omega)
      have S : Know g h' [_, _, _, _, _, _, _] := S
      refine ⟨_, _, _, _, e, vreq_t (S.cw 1 rfl (by decide) rfl rfl) ?_⟩
      intro g214
      have S : Know g g214 [_, _, _, _, _, _, _] := S.wr 1 rfl (by decide) rfl rfl
      have S : Know g g214 [_, _, _, _, _, _] := S.sub _ (List.sublist_cons_self ..)
      exact ih (k + 1) g214 a' n' c' (by omega) (by rw [e2]; exact S)
    have h4 : kd ≠ 4 := fun h => ne_of_f h4 (by rw [h]; rfl)
    have ef : fdOf kd (pMany xs) (xs.getD (off + k * 1) 0) = wordC (pMany xs) (xs.getD (off + k * 1) 0) := by unfold fdOf; rw [if_neg h3, if_neg h4]
    rw [ef] at e2
    intro g224
    have S : Know g g224 [_, _, _, _, _, _, _] := S.rsvK 9
    have n224 : g224.nx = h.nx + 9 := rfl
    have hb8 := S.orng 1 rfl
    have okg : (g224.grd [b8]).Ok := S.okg fun q hq => by rw [List.mem_singleton.1 hq]; exact hb8.2
    obtain ⟨v, h233, e233, rfl, k233⟩ := ct139 hO okg hx (S.rdg 5 rfl (l := [b8]) rfl rfl) (S.orng 5 rfl).2 (n := pMany xs)
    refine ⟨_, _, _, S.rd 1 rfl rfl rfl, _, _, _, e233, ?_⟩
    intro g234
    have S : Know g g234 [_, _, _, _, _, _, _] := S.callg k233
    refine vreq_t (S.fre 0 rfl (Nat.le_add_right ..) (by omega) (by simp)) ?_
    intro g235
    have S : Know g g235 [_, _, _, _, _, _, _, _] := S.lay 0 rfl (Nat.le_add_right ..) (by omega) (by simp) _
    obtain ⟨a', n', c', h', e, hn', S⟩ := S.appg (l := []) 3 rfl (Nat.le_refl _) S.lo app64 (fun _ h => by cases h) ⟨_, _, _, rfl⟩ (src_get (n := 1) (c := 1) (esz := 2) (off := 0) (S.rd 0 rfl (r := [.int .i64 (wordC (pMany xs) (xs.getD (off + k * 1) 0)).n, .bool (wordC (pMany xs) (xs.getD (off + k * 1) 0)).refs]) rfl rfl)) rfl rfl (by omega) (by unfold big; omega)
    refine ⟨_, _, _, _, e, ?_⟩
    intro g240
    have S : Know g g240 [_, _, _, _, _, _, _, _] := S
    refine vreq_t (S.cwg 2 rfl (fun _ h => by cases h) (by decide) rfl rfl) ?_
    intro g241 g242
    have S : Know g g242 [_, _, _, _, _, _, _, _] := S.wrg 2 rfl (fun _ h => by cases h) (by decide) rfl rfl
    have S : Know g g242 [_, _, _, _, _, _] := S.sel [2, 3, 4, 5, 6, 7] (by decide) rfl
    exact ih (k + 1) g242 a' n' c' (by omega) (by rw [e2]; exact S)
end
end Go.Proofs.YtngcjpkccnfjiaaGreatDoor
/- Contracts: drawn, the whole; Repeat. -/
namespace Go.Proofs.YtngcjpkccnfjiaaGreatDoor
set_option maxRecDepth 100000
open Go Go.Ev
theorem pKind_rng (xs : List Nat) (i : Nat) : 1 ≤ pKind xs i ∧ pKind xs i ≤ 5 := by unfold pKind; omega
theorem pSize_rng (xs : List Nat) (i : Nat) : pSize xs i ≤ 4 := by unfold pSize; split <;> omega
theorem pMany_rng (xs : List Nat) : pMany xs ≤ 9 := by unfold pMany; omega
/-- What 'drawn' returns. -/
def QDrawn (g : Hp) (xs : List Nat) : Value → Hp → Prop := fun v h' => ∃ a n c a' n' c' own, v = .tuple #[.slice a n c, .slice a' n' c'] ∧ Know g h' [clo own (fun h => ClsAt h a n (drawnL xs)), acc g.nx 76 2 a' n' c' (fvs (drawnR xs))]
section
variable {O : CallF} (hO : Oth O)
include hO
theorem lp106_0 {g : Hp} {v0 : Array Value} {xs : List Nat} (B : Bytes v0 xs) {b1 bn : Nat} :
    ∀ (d k : Nat) (h : Hp) (a : Option Addr) (n c : Nat) (vs : List Value) (own : Nat → Prop), k + d = pMany xs → Know g h [acc g.nx 72 2 a n c vs, clo own (fun h => Nst h vs ((List.range k).map (pCell xs))), ob bn (.cells [.int .i64 (Int.ofNat (pMany xs))] 3 .fix), ob b1 (.cells (bv xs) 62 .fix)] →
      I106_0 O (QDrawn g xs) v0 b1 0 (.func (.func 139) #[] #[.pointer (some ⟨bn, 0, none⟩)]) a n c (Int.ofNat (pMany xs)) (Int.ofNat k) h := by
  have hlen := B.len
  have hm := pMany_rng xs
  intro d
  induction d with
  | zero =>
    intro k h a n c vs own hk S
    have : k = pMany xs := by omega
    subst this
    refine I106_0.of (hh := ?_) ..
    unfold T106_0
    have hr : ((bv xs).drop 0).take 1 = [.int .u8 (Int.ofNat (xs.getD 0 0))] := bv_at (by omega)
    refine vcond_f (by rw [ltI_nat]; exact blt_f (by omega)) ⟨_, S.rd 3 rfl hr (ble_t (by rw [List.length_map]; omega)), ?_⟩
    have h0 := B.b 0
    rw [wrapN (show xs.getD 0 0 < 9223372036854775808 by omega), show Int.tdiv (Int.ofNat (xs.getD 0 0)) 16 = Int.ofNat (xs.getD 0 0 / 16) from rfl, wrapN (show xs.getD 0 0 / 16 < 9223372036854775808 by omega), show Int.tmod (Int.ofNat (xs.getD 0 0 / 16)) 5 = Int.ofNat (xs.getD 0 0 / 16 % 5) from rfl]
    refine ⟨_, _, _, slice_arr' (by omega), ?_⟩
    have S : Know g h [_, _, _] := S.merge (fun h => ClsAt h a n (drawnL xs)) fun h' A N => cls_of A (clo.get N)
    have S : Know g h [_, _, _, _] := S.accNil g.nx 76 2
    exact lp106_2 hO B (s := xs.getD 0 0 / 16 % 5) (by omega) (fun h2 a2 n2 c2 S2 => ⟨_, _, _, _, _, _, _, rfl, S2.sel [1, 0] (by decide) rfl⟩) (xs.getD 0 0 / 16 % 5) 0 h none 0 0 (by omega) S
  | succ d ih =>
    intro k h a n c vs own hk S
    refine I106_0.of (hh := ?_) ..
    unfold T106_0
    have hkk := B.b (2 + k * 1)
    have ek : xs.getD (0 + 2 + k * 1) 0 = xs.getD (2 + k) 0 := by rw [Nat.zero_add, Nat.mul_one]
    have hr : ((bv xs).drop (0 + 2 + k * 1)).take 1 = [.int .u8 (Int.ofNat (xs.getD (2 + k) 0))] := by rw [← ek]; exact bv_at (by omega)
    have hb : Nat.ble (0 + 2 + k * 1 + 1) (bv xs).length = true := ble_t (by rw [List.length_map]; omega)
    have hk1 : xs.getD (2 + k) 0 < 256 := B.b (2 + k)
    refine vcond_t (by rw [ltI_nat]; exact blt_t (by omega)) (isNat_i (vreq_t (blt_t (by omega)) ⟨_, S.rd 3 rfl hr hb, ?_⟩))
    have e1 : wrapF .i64 (1 + Int.tmod (wrapF .i64 (Int.ofNat (xs.getD (2 + k) 0))) 5) = Int.ofNat (pKind xs k) := by
      rw [wrapN (show xs.getD (2 + k) 0 < 9223372036854775808 by omega)]
      show wrapF .i64 (1 + ((xs.getD (2 + k) 0 % 5 : Nat) : Int)) = ((1 + xs.getD (2 + k) 0 % 5 : Nat) : Int)
      rw [wrap64 (by omega) (by omega)]; omega
    rw [e1]
    intro g103
    have S : Know g g103 [_, _, _, _, _] := S.add _
    refine vreq_t (S.cw 0 rfl (by decide) rfl rfl) ?_
    intro g104
    have S : Know g g104 [_, _, _, _, _] := S.wr 0 rfl (by decide) rfl rfl
    have S : Know g g104 [_, _, _, _, _, _] := S.accNil g.nx 76 2
    have S : Know g g104 [_, _, _, _, _, _] := S.sel [1, 0, 2, 3, 4, 5] (by decide) rfl
    have hpk := pKind_rng xs k
    have hps := pSize_rng xs k
    -- the fields
    have go : I106_1 O (QDrawn g xs) v0 b1 0 (.func (.func 139) #[] #[.pointer (some ⟨bn, 0, none⟩)]) a n c h.nx 0 (Int.ofNat (pMany xs)) (Int.ofNat k) (some ⟨b1, 11 + 4 * k, none⟩) (pSize xs k) 4 (Int.ofNat (pSize xs k)) 0 g104 := by
      refine lp106_1 hO B hps (by omega) (fun h2 a2 n2 c2 S => ?_) (pSize xs k) 0 g104 none 0 0 (by omega) S
      refine I106_1.of (hh := ?_) ..
      unfold T106_1
      refine vcond_f (by rw [ltI_nat]; exact blt_f (by omega)) ⟨_, _, _, _, S.rd 0 rfl rfl rfl, ?_⟩
      intro g247
      have S : Know g g247 [_, _, _, _, _, _, _] := S.add _
      have hn : n = k := by
        have A : AccE g247 g.nx 72 2 a n c vs := S.get 3 rfl
        have N : Nst g247 vs ((List.range k).map (pCell xs)) := clo.get (S.get 4 rfl)
        have := (cls_of A N).1
        simpa using this
      obtain ⟨a', n', c', h', e, hn', S⟩ := S.app 3 rfl (Nat.le_refl _) S.lo app63 ⟨_, _, _, rfl⟩ (src_get (n := 1) (c := 1) (esz := 2) (off := 0) (S.rd 0 rfl (r := [.int .i64 (Int.ofNat (pKind xs k)), .slice a2 n2 c2]) rfl rfl)) rfl rfl (by omega) (by unfold big; omega)
      have S : Know g h' [_, _, _, _, _, _, _] := S
      refine ⟨_, _, _, _, e, ?_⟩
      rw [wrap_succ (by omega)]
      have S : Know g h' [_, _, _, _, _] := S.sel [4, 2, 3, 5, 6] (by decide) rfl
      have S : Know g h' [_, _, _, _] := S.merge (fun h => Nst h (vs ++ [.int .i64 (Int.ofNat (pKind xs k)), .slice a2 n2 c2]) ((List.range (k + 1)).map (pCell xs))) fun h' N A => by
        rw [List.range_succ, List.map_append]
        exact (clo.get N).snoc (c := pCell xs k) (AccE.slAt fdE_len (by decide) A)
      exact ih (k + 1) h' a' n' c' _ _ (by omega) (S.sel [1, 0, 2, 3] (by decide) rfl)
    refine isNat_i (vreq_t (blt_t (by omega)) ⟨_, S.rd 5 rfl hr hb, _, S.rd 0 rfl rfl rfl, vcond_split (fun h4 => ?_) fun h4 => ?_⟩)
    · have h4 : pKind xs k = 4 := Int.ofNat_inj.1 (eq_of_t h4)
      have es : pSize xs k = 1 := if_pos h4
      rw [es] at go
      refine isNat_i (vreq_t (blt_t (by omega)) ⟨_, _, _, slice_arr' (s := 1) (by omega), ?_⟩)
      rw [show 0 + 11 + k * 4 = 11 + 4 * k by omega]
      exact go
    · have h4 : pKind xs k ≠ 4 := fun h => ne_of_f h4 (by rw [h]; rfl)
      have es : pSize xs k = xs.getD (2 + k) 0 / 8 % 5 := if_neg h4
      rw [es] at go
      rw [wrapN (show xs.getD (2 + k) 0 < 9223372036854775808 by omega), show Int.tdiv (Int.ofNat (xs.getD (2 + k) 0)) 8 = Int.ofNat (xs.getD (2 + k) 0 / 8) from rfl, wrapN (show xs.getD (2 + k) 0 / 8 < 9223372036854775808 by omega), show Int.tmod (Int.ofNat (xs.getD (2 + k) 0 / 8)) 5 = Int.ofNat (xs.getD (2 + k) 0 / 8 % 5) from rfl]
      refine isNat_i (vreq_t (blt_t (by omega)) ⟨_, _, _, slice_arr' (by omega), ?_⟩)
      rw [show 0 + 11 + k * 4 = 11 + 4 * k by omega]
      exact go
/-- 'drawn'. -/
theorem ct106 {g : Hp} (ok : g.Ok) {v0 : Array Value} {xs : List Nat} (B : Bytes v0 xs) : Ret Tryz.prog O 106 [.agg v0] g (QDrawn g xs) := by
  refine rk106 (hO := hO _ _ _ (by decide)) (hh := ?_) ..
  unfold T106
  have h0 := B.b 0
  have hlen := B.len
  refine vreq_t (by rw [B.v]; exact bv_one xs) ?_
  intro g1
  have S : Know g g1 [_] := (Know.nil ok).add _
  rw [B.v] at S
  have hr : ((bv xs).drop 0).take 1 = [.int .u8 (Int.ofNat (xs.getD 0 0))] := bv_at (by omega)
  refine ⟨_, S.rd 0 rfl hr (ble_t (by rw [List.length_map]; omega)), ?_⟩
  intro g3
  have S : Know g g3 [_, _] := S.add _
  rw [wrapN (show xs.getD 0 0 < 9223372036854775808 by omega), show Int.tmod (Int.ofNat (xs.getD 0 0)) 10 = Int.ofNat (pMany xs) from rfl]
  refine vreq_t (S.cw 0 rfl (by decide) rfl rfl) ?_
  intro g4
  have S : Know g g4 [_, _] := S.wr 0 rfl (by decide) rfl rfl
  refine ⟨_, S.rd 0 rfl rfl rfl, ?_⟩
  have S : Know g g4 [_, _, _] := S.push (r' := clo (fun _ => False) (fun h => Nst h [] ((List.range 0).map (pCell xs)))) (Kp.refl _ _) (clo.loc _ _) (fun _ _ _ => trivial) fun _ h => h.elim
  have S : Know g g4 [_, _, _, _] := S.accNil g.nx 72 2
  exact lp106_0 hO B (pMany xs) 0 g4 none 0 0 [] _ (by omega) S
end
end Go.Proofs.YtngcjpkccnfjiaaGreatDoor
/- Contracts: Repeat of one number. -/
namespace Go.Proofs.YtngcjpkccnfjiaaGreatDoor
set_option maxRecDepth 100000
open Go Go.Ev
theorem wrapU {n : Nat} (h : n < 18446744073709551616) : wrapF .u64 (Int.ofNat n) = Int.ofNat n := by
  rw [wrapF_eq, wrap_u64, Nat.mod_eq_of_lt h]
theorem shr0 {m : Nat} (h : m < 4294967296) : shrF .u64 (Int.ofNat m) 32 = Int.ofNat 0 := by
  show Int.fdiv (Int.ofNat m) 4294967296 = _
  rw [Int.fdiv_eq_ediv_of_nonneg _ (by decide)]
  show ((m : Int) / 4294967296) = 0
  omega
theorem land_small {m : Nat} (h : m < 4294967296) : landI (Int.ofNat m) 4294967295 = Int.ofNat m := by
  show Int.ofNat (Nat.land m 4294967295) = _
  congr 1
  have : m &&& (2 ^ 32 - 1) = m % 2 ^ 32 := Nat.and_two_pow_sub_one_eq_mod m 32
  show m &&& 4294967295 = m
  rw [show (4294967295 : Nat) = 2 ^ 32 - 1 from rfl, this]
  exact Nat.mod_eq_of_lt h
section
variable {O : CallF} (hO : Oth O)
include hO
theorem ct143 {m : Nat} (hm : m < 4294967296) (h : Hp) : EvT O 143 [.int .u64 (Int.ofNat 1), .int .u64 (Int.ofNat m)] h (.tuple #[.int .u64 (Int.ofNat 0), .int .u64 (Int.ofNat m)]) h := by
  have r : EvT O 152 [.int .u64 (Int.ofNat 1), .int .u64 (Int.ofNat m)] h (.tuple #[.int .u64 (Int.ofNat 0), .int .u64 (Int.ofNat m)]) h := by
    refine evt hO (rk152 (hO := hO _ _ _ (by decide)) (hh := ?_) ..)
    unfold T152
    have z : ∀ x : Int, Int.ofNat 0 * x = Int.ofNat 0 := fun x => Int.zero_mul x
    have z2 : ∀ x : Int, x * Int.ofNat 0 = Int.ofNat 0 := fun x => Int.mul_zero x
    have z3 : Int.ofNat 0 + Int.ofNat 0 = Int.ofNat 0 := rfl
    have o1 : Int.ofNat 1 * Int.ofNat m = Int.ofNat m := Int.one_mul _
    have w0 : wrapF .u64 (Int.ofNat 0) = Int.ofNat 0 := wrapU (by decide)
    have wm : wrapF .u64 (Int.ofNat m) = Int.ofNat m := wrapU (by omega)
    have s1 : shrF .u64 (Int.ofNat 1) 32 = Int.ofNat 0 := shr0 (by decide)
    have s0 : shrF .u64 (Int.ofNat 0) 32 = Int.ofNat 0 := shr0 (by decide)
    have sm : shrF .u64 (Int.ofNat m) 32 = Int.ofNat 0 := shr0 hm
    have l1 : landI (Int.ofNat 1) 4294967295 = Int.ofNat 1 := land_small (by decide)
    have lm : landI (Int.ofNat m) 4294967295 = Int.ofNat m := land_small hm
    have l0 : landI (Int.ofNat 0) 4294967295 = Int.ofNat 0 := land_small (by decide)
    rw [s1, sm, l1, lm, o1, wm, sm, z, z, w0, z3, w0, z2, w0, l0, z3, w0, s0, z3, w0, z3, w0]
    exact vreq_t rfl (vreq_t (blt_t (by omega)) (vreq_t rfl ⟨rfl, rfl⟩))
  refine evt hO (rk143 (hO := hO _ _ _ (by decide)) (hh := ?_) ..)
  unfold T143
  exact ⟨_, _, _, r, rfl, rfl⟩
theorem rep_step {v : Int} {m j : Nat} (hj : j ≤ m) : putAt (List.replicate j v ++ List.replicate (m - j) 0) j (List.replicate (Nat.min j (m - j)) v) = List.replicate (j + Nat.min j (m - j)) v ++ List.replicate (m - (j + Nat.min j (m - j))) 0 := by
  have _ := hO
  have hmin : Nat.min j (m - j) ≤ m - j := Nat.min_le_right ..
  generalize Nat.min j (m - j) = q at hmin
  refine List.ext_getElem? fun i => ?_
  rw [putAt_get _ _ _ (by simp; omega)]
  simp only [List.getElem?_append, List.getElem?_replicate, List.length_replicate]
  by_cases h1 : j ≤ i ∧ i < j + q
  · rw [if_pos h1, if_pos (by omega), if_pos (by omega), if_pos (by omega)]
  · rw [if_neg h1]
    by_cases h2 : i < j
    · rw [if_pos h2, if_pos h2, if_pos (by omega), if_pos (by omega)]
    · rw [if_neg h2, if_neg (show ¬ i < j + q by omega)]
      by_cases h3 : i - j < m - j
      · rw [if_pos h3, if_pos (by omega)]
      · rw [if_neg h3, if_neg (by omega)]
/-- 'slices.Repeat' of one number. -/
theorem ct111 {g : Hp} (ok : g.Ok) {a : Option Addr} {c : Nat} {v : Int} (X : IntsAt g a 1 [v]) {m : Nat} (hm : m < 1000000) : Ret Tryz.prog O 111 [.slice a 1 c, .int .i64 (Int.ofNat m)] g fun r h' => ∃ o, r = .slice (some ⟨o, 0, none⟩) m m ∧ Know g h' [ob o (.cells (iv (List.replicate m v)) 3 .fix)] := by
  refine rk111 (hO := hO _ _ _ (by decide)) (hh := ?_) ..
  unfold T111
  have w1 : wrapF .u64 (Int.ofNat 1) = Int.ofNat 1 := wrapU (by decide)
  have wm : wrapF .u64 (Int.ofNat m) = Int.ofNat m := wrapU (by omega)
  rw [w1, wm]
  have hu : unk = 18446744073709551616 := rfl
  refine vcond_f (ltI_f (by have : Int.ofNat m = (m : Int) := rfl; omega)) ⟨_, _, _, ct143 hO (by omega) g, vcond_f rfl (vcond_f (ltI_f (by have : Int.ofNat m = (m : Int) := rfl; omega)) ?_)⟩
  rw [wrapN (show m < 9223372036854775808 by omega)]
  refine isNat_i (isNat_i (vreq_t (ble_t (Nat.le_refl _)) (vreq_t (ble_t (by omega)) (vreq_t (blt_t (by unfold big; omega)) ?_))))
  intro g6
  have S : Know g g6 [_] := (Know.nil ok).add _
  have ez : List.flatten (List.replicate m [Value.int .i64 0]) = iv (List.replicate m 0) := by
    have : ∀ k, List.flatten (List.replicate k [Value.int .i64 0]) = iv (List.replicate k 0) := by
      intro k
      induction k with
      | zero => rfl
      | succ k ih => rw [List.replicate_succ, List.flatten_cons, ih, List.replicate_succ]; rfl
    exact this m
  rw [ez] at S
  haveI := S.ft
  have lp : ∀ (d j : Nat) (h : Hp), m - j ≤ d → j ≤ m → (1 ≤ j ∨ j = m) → Know g h [ob g.nx (.cells (iv (List.replicate j v ++ List.replicate (m - j) 0)) 3 .fix)] → I111_0 O (fun r h' => ∃ o, r = .slice (some ⟨o, 0, none⟩) m m ∧ Know g h' [ob o (.cells (iv (List.replicate m v)) 3 .fix)]) a 1 c (Int.ofNat m) (some ⟨g.nx, 0, none⟩) m m (Int.ofNat j) h := by
    intro d
    induction d with
    | zero =>
      intro j h hd hj _ S
      have : j = m := by omega
      subst this
      refine I111_0.of (hh := ?_) ..
      unfold T111_0
      refine vcond_f (by rw [ltI_nat]; exact blt_f (by omega)) ⟨_, rfl, ?_⟩
      rw [Nat.sub_self, List.replicate_zero, List.append_nil] at S
      exact S
    | succ d ih =>
      intro j h hd hj h1 S
      refine I111_0.of (hh := ?_) ..
      unfold T111_0
      by_cases hjm : j = m
      · subst hjm
        refine vcond_f (by rw [ltI_nat]; exact blt_f (by omega)) ⟨_, rfl, ?_⟩
        rw [Nat.sub_self, List.replicate_zero, List.append_nil] at S
        exact S
      · refine vcond_t (by rw [ltI_nat]; exact blt_t (by omega)) ?_
        intro g101
        have S : Know g g101 [_] := S.rsv 10
        have lW : (List.replicate j v ++ List.replicate (m - j) 0).length = m := by rw [List.length_append, List.length_replicate, List.length_replicate]; omega
        have hget := S.obj 0 rfl
        have si : SI g101 (some ⟨g.nx, 0, none⟩) m m (List.replicate j v ++ List.replicate (m - j) 0) := SI.cells hget (S.orng 0 rfl).2 lW.symm (by omega)
        obtain ⟨c1, es1⟩ := slice_lo si (l := j) (by omega)
        obtain ⟨a2, c2, es2, sp⟩ := si.part (l := 0) (r := j) (by omega) (by omega) (lo := none) (hi := some (.int .i64 (Int.ofNat j))) fun vis hv => bounds_hi (by omega)
        have et : ((List.replicate j v ++ List.replicate (m - j) 0).drop 0).take (j - 0) = List.replicate j v := by rw [List.drop_zero, List.take_left' (by rw [List.length_replicate]; omega)]
        rw [et] at sp
        have gf : (g101.grd []).guarded g.nx = false := S.gdfg (S.orng 0 rfl).1 fun q hq => by cases hq
        obtain ⟨h18, ec, hg18, ho18, hn18, hgd18, hf18⟩ := copy_ints (h := g101.grd []) (o := g.nx) (off := j) (n := m - j) (m := j - 0) (c2 := c2) (c1 := c1) hget (by decide) gf (by omega) sp.at_
        refine ⟨_, _, _, es1, _, _, _, es2, _, _, ec, ?_⟩
        intro g110
        have em : Nat.min (j - 0) (m - j) = Nat.min j (m - j) := by rw [Nat.sub_zero]
        rw [em] at hg18 ⊢
        have hmin : Nat.min j (m - j) ≤ m - j := Nat.min_le_right ..
        have hmin1 : 1 ≤ Nat.min j (m - j) := by
          rcases Nat.le_total j (m - j) with h | h
          · rw [show Nat.min j (m - j) = j from Nat.min_eq_left h]; omega
          · rw [show Nat.min j (m - j) = m - j from Nat.min_eq_right h]; omega
        have hminj : Nat.min j (m - j) ≤ j := Nat.min_le_left ..
        rw [List.take_replicate, show min (Nat.min j (m - j)) j = Nat.min j (m - j) from Nat.min_eq_left hminj, rep_step hO hj] at hg18
        have S : Know g g110 [ob g.nx (.cells (iv (List.replicate (j + Nat.min j (m - j)) v ++ List.replicate (m - (j + Nat.min j (m - j))) 0)) 3 .fix)] :=
          S.upd 0 rfl ⟨fun o _ ho => ho18 o ho, by show g101.nx ≤ h18.nx; rw [hn18]; exact Nat.le_refl _, rfl, fun f => hf18 f⟩ (ob.loc _ _) hg18 fun _ h => .inl h
        have ew : wrapF .i64 (Int.ofNat j + Int.ofNat (Nat.min j (m - j))) = Int.ofNat (j + Nat.min j (m - j)) := wrapN (n := j + Nat.min j (m - j)) (by omega)
        rw [ew]
        exact ih (j + Nat.min j (m - j)) g110 (by omega) (by omega) (by omega) S
  have hget := S.obj 0 rfl
  have gf : g6.guarded g.nx = false := S.gdf (S.orng 0 rfl).1
  obtain ⟨h18, ec, hg18, ho18, hn18, hgd18, hf18⟩ := copy_ints (h := g6) (o := g.nx) (off := 0) (n := m) (m := 1) (c2 := c) (c1 := m) hget (by decide) gf (by rw [List.length_replicate]; omega) (X.to g6)
  refine ⟨_, _, ec, ?_⟩
  have hmin1 : Nat.min 1 m ≤ 1 := Nat.min_le_left ..
  have hminm : Nat.min 1 m ≤ m := Nat.min_le_right ..
  have e0 : putAt (List.replicate m (0 : Int)) 0 ([v].take (Nat.min 1 m)) = List.replicate (Nat.min 1 m) v ++ List.replicate (m - Nat.min 1 m) 0 := by
    cases m with
    | zero => rfl
    | succ m =>
      rw [show Nat.min 1 (m + 1) = 1 from Nat.min_eq_left (by omega), List.replicate_succ]
      show v :: putAt (List.replicate m 0) 0 [] = v :: List.replicate (m + 1 - 1) 0
      rw [putAt_nil]; rfl
  rw [e0] at hg18
  have S : Know g h18 [ob g.nx (.cells (iv (List.replicate (Nat.min 1 m) v ++ List.replicate (m - Nat.min 1 m) 0)) 3 .fix)] :=
    S.upd 0 rfl ⟨fun o _ ho => ho18 o ho, by rw [hn18]; exact Nat.le_refl _, hgd18, fun f => hf18 f⟩ (ob.loc _ _) hg18 fun _ h => .inl h
  refine lp m (Nat.min 1 m) h18 (by omega) hminm ?_ S
  rcases Nat.eq_zero_or_pos m with rfl | h
  · exact .inr rfl
  · exact .inl (by rw [show Nat.min 1 m = 1 from Nat.min_eq_left h]; exact Nat.le_refl _)
end
end Go.Proofs.YtngcjpkccnfjiaaGreatDoor
/- Contracts: a heap is laid from cells. -/
namespace Go.Proofs.YtngcjpkccnfjiaaGreatDoor
set_option maxRecDepth 100000
open Go Go.Ev
theorem posS_pre {sz : Nat → Nat} : ∀ {o e : List Nat} {b a : Nat}, a ∈ o → posS sz b (o ++ e) a = posS sz b o a := by
  intro o
  induction o with
  | nil => intro e b a h; cases h
  | cons x xs ih =>
    intro e b a h
    show (if x = a then b else posS sz (b + sz x) (xs ++ e) a) = if x = a then b else posS sz (b + sz x) xs a
    split
    · rfl
    · rcases List.mem_cons.1 h with rfl | h
      · exact absurd rfl ‹_›
      · exact ih h
/-- The addresses of cells; -1, of one that is not laid. -/
def atV (L : List Cl) (o : List Nat) (i : Nat) : Int := if i ∈ o then (atC L o i : Int) else -1
def atL (L : List Cl) (o : List Nat) : List Int := (List.range L.length).map (atV L o)
theorem atL_len (L : List Cl) (o : List Nat) : (atL L o).length = L.length := by unfold atL; simp
theorem atL_get (L : List Cl) (o : List Nat) {i : Nat} (hi : i < L.length) : (atL L o)[i]'(by rw [atL_len]; exact hi) = atV L o i := by unfold atL; simp
theorem atL_nil (L : List Cl) : atL L [] = List.replicate L.length (-1) := by
  unfold atL
  refine List.ext_getElem (by simp) fun i h1 h2 => ?_
  simp [atV]
theorem atL_snoc {L : List Cl} {o : List Nat} {i : Nat} (hi : i ∉ o) (hL : i < L.length) : (atL L o).set i (layT L o : Int) = atL L (o ++ [i]) := by
  refine List.ext_getElem (by rw [List.length_set, atL_len, atL_len]) fun j h1 h2 => ?_
  rw [List.length_set, atL_len] at h1
  rw [List.getElem_set, atL_get L o h1, atL_get L (o ++ [i]) h1]
  by_cases h : i = j
  · subst h
    rw [if_pos rfl]
    unfold atV
    rw [if_pos (by simp)]
    unfold atC layT
    rw [posS_at hi]
  · rw [if_neg h]
    unfold atV
    by_cases hj : j ∈ o
    · rw [if_pos hj, if_pos (by simp [hj])]
      unfold atC
      rw [posS_pre hj]
    · rw [if_neg hj, if_neg (by simp [hj]; exact fun h2 => h h2.symm)]
theorem layT_snoc (L : List Cl) (o : List Nat) (i : Nat) : layT L (o ++ [i]) = layT L o + szC L i := by
  unfold layT; rw [totS_app, totS_cons]; show 1 + (_ + (_ + 0)) = _; omega
theorem putAt_z1 (Y : List Int) (z : Nat) (v : Int) (hz : 0 < z) : putAt (iv (Y ++ List.replicate z 0)) (0 + Y.length * 1) [.int .i64 v] = iv (Y ++ [v] ++ List.replicate (z - 1) 0) := by
  rw [show [Value.int .i64 v] = iv [v] from rfl, ← iv_putAt, show 0 + Y.length * 1 = Y.length by omega]
  congr 1
  induction Y with
  | nil =>
    cases z with
    | zero => cases hz
    | succ z =>
      show v :: putAt (List.replicate z 0) 0 [] = v :: List.replicate (z + 1 - 1) 0
      rw [putAt_nil]; rfl
  | cons y Y ih => show y :: putAt (Y ++ List.replicate z 0) Y.length [v] = y :: (Y ++ [v] ++ List.replicate (z - 1) 0); rw [ih]
section
variable {O : CallF} (hO : Oth O)
include hO
/-- A field's word. -/
theorem ct112 {h : Hp} (ok : h.Ok) {a : Option Addr} {n c : Nat} {A : List Int} (X : IntsAt h a n A) {b1 : Nat} (hb : readAt h b1 0 1 = some [.slice a n c]) (hb1 : b1 < h.nx) {at_ : Nat → Nat} {f : Fd} (hf : f.refs = true → f.n = (f.n.toNat : Int) ∧ A[f.n.toNat]? = some (at_ f.n.toNat : Int) ∧ at_ f.n.toNat < 1000000) :
    Ret Tryz.prog O 112 [.agg #[.int .i64 f.n, .bool f.refs], .pointer (some ⟨b1, 0, none⟩)] h fun v h' => v = .int .i64 (wd at_ f) ∧ Kp h.nx h h' := by
  refine rk112 (hO := hO _ _ _ (by decide)) (hh := ?_) ..
  unfold T112
  intro g1
  have S : Know h g1 [_] := (Know.nil ok).add _
  haveI := S.ft
  refine ⟨_, S.rd 0 rfl rfl rfl, ?_⟩
  cases hr : f.refs with
  | false => exact vcond_f rfl ⟨_, S.rd 0 rfl rfl rfl, by rw [wd_n hr], S.kp⟩
  | true =>
    obtain ⟨h1, h2, h3⟩ := hf hr
    obtain ⟨hk, e⟩ := List.getElem?_eq_some_iff.1 h2
    rw [h1] at S
    refine vcond_t rfl ⟨_, _, _, by rw [readAt_ex (g := h) hb1]; exact hb, _, S.rd 0 rfl rfl rfl, isNat_i (X.rd (k := f.n.toNat) hk ?_)⟩
    rw [e, wd_r hr]
    refine ⟨?_, S.kp⟩
    rw [show (2 * (at_ f.n.toNat : Int)) = 2 * Int.ofNat (at_ f.n.toNat) from rfl, dbl64 (n := at_ f.n.toNat) (Nat.le_refl _) h3]
    rfl
end
end Go.Proofs.YtngcjpkccnfjiaaGreatDoor
/- Contracts: laid. -/
namespace Go.Proofs.YtngcjpkccnfjiaaGreatDoor
set_option maxRecDepth 100000
open Go Go.Ev
/-- What may be laid: cells in an order, and roots. -/
structure LayOk (L : List Cl) (o : List Nat) (rs : List Fd) (fr : Nat) : Prop where
  nd : o.Nodup
  lt : ∀ i ∈ o, i < L.length
  refs : ∀ i ∈ o, ∀ f ∈ (clAt L i).fs, f.refs = true → f.n = (f.n.toNat : Int) ∧ f.n.toNat ∈ o
  roots : ∀ f ∈ rs, f.refs = true → f.n = (f.n.toNat : Int) ∧ f.n.toNat ∈ o
  kind : ∀ i ∈ o, 0 ≤ (clAt L i).kind ∧ (clAt L i).kind ≤ 10
  lL : L.length ≤ 1000
  lr : rs.length ≤ 1000
  fit : layT L o + fr ≤ 100000
theorem LayOk.wdf {L : List Cl} {o : List Nat} {rs : List Fd} {fr : Nat} (K : LayOk L o rs fr) {f : Fd} (hf : f.refs = true → f.n = (f.n.toNat : Int) ∧ f.n.toNat ∈ o) : f.refs = true → f.n = (f.n.toNat : Int) ∧ (atL L o)[f.n.toNat]? = some (atC L o f.n.toNat : Int) ∧ atC L o f.n.toNat < 1000000 := fun hr => by
  obtain ⟨h1, h2⟩ := hf hr
  have h3 := K.lt _ h2
  refine ⟨h1, ?_, ?_⟩
  · rw [List.getElem?_eq_getElem (by rw [atL_len]; exact h3), atL_get L o h3]
    unfold atV; rw [if_pos h2]
  · have := posS_lt (sz := szC L) (b := 1) h2
    have := K.fit
    unfold layT at this
    unfold atC
    have := szC_pos L f.n.toNat
    omega
theorem layT_take {L : List Cl} {o : List Nat} {k : Nat} : layT L (o.take k) ≤ layT L o := by
  unfold layT
  have : totS (szC L) o = totS (szC L) (o.take k) + totS (szC L) (o.drop k) := by rw [← totS_app, List.take_append_drop]
  omega
theorem take_snoc {o : List Nat} {k : Nat} (hk : k < o.length) : o.take (k + 1) = o.take k ++ [o[k]] := by
  rw [List.take_add_one, List.getElem?_eq_getElem hk]; rfl
theorem nodup_take {o : List Nat} (h : o.Nodup) {k : Nat} (hk : k < o.length) : o[k] ∉ o.take k := by
  have e := List.take_append_drop k o
  rw [List.drop_eq_getElem_cons hk] at e
  rw [← e] at h
  exact fun hh => (List.nodup_append.1 h).2.2 _ hh _ (List.mem_cons_self ..) rfl
theorem at_take {L : List Cl} {o : List Nat} (h : o.Nodup) {k : Nat} (hk : k < o.length) : atC L o o[k] = layT L (o.take k) := by
  have e := List.take_append_drop k o
  rw [List.drop_eq_getElem_cons hk] at e
  unfold atC layT
  conv => lhs; rw [show posS (szC L) 1 o o[k] = posS (szC L) 1 (o.take k ++ o[k] :: o.drop (k + 1)) o[k] from by rw [e]]
  exact posS_at (nodup_take h hk)
section
variable {O : CallF} (hO : Oth O)
include hO
/-- The roots. -/
theorem lp52_3 {g : Hp} {a0 : Option Addr} {n0 c0 : Nat} {a1 : Option Addr} {n1 c1 : Nat} {a2 : Option Addr} {n2 c2 : Nat} {x3 : Int} {b8 b10 b11 oA oW N top : Nat} {L : List Cl} {o : List Nat} {rs : List Fd} {fr : Nat} (K : LayOk L o rs fr) (F : FdsAt g a2 n2 rs) {W : List Int} {v1 v2 v3 : Value} {Q : Value → Hp → Prop}
    (next : ∀ (h : Hp) (a : Option Addr) (n c : Nat), Know g h [ob oW (.cells (iv W) 3 .fix), acc g.nx 3 1 a n c (iv (layR L o rs)), ob oA (.cells (iv (atL L o)) 3 .fix)] → Q (.tuple #[.agg #[.slice (some ⟨oW, 0, none⟩) N N, .int .i64 (Int.ofNat top), .slice a n c], .slice (some ⟨oA, 0, none⟩) L.length L.length]) h) :
    ∀ (d k : Nat) (h : Hp) (a : Option Addr) (n c : Nat), k + d = rs.length → Know g h [ob b8 (.cells [v1, v2, v3] 24 .fix), ob b10 (.cells [.slice (some ⟨oA, 0, none⟩) L.length L.length] 22 .fix), ob b11 (.cells [.slice (some ⟨oW, 0, none⟩) N N, .int .i64 (Int.ofNat top), .slice a n c] 24 .fix), ob oA (.cells (iv (atL L o)) 3 .fix), ob oW (.cells (iv W) 3 .fix), acc g.nx 3 1 a n c (iv (layR L o (rs.take k)))] →
      I52_3 O Q a0 n0 c0 a1 n1 c1 a2 n2 c2 x3 b8 0 b10 0 b11 0 (.func (.func 112) #[] #[.pointer (some ⟨b10, 0, none⟩)]) (Int.ofNat k) h := by
  have hn2 := F.1
  have hlr := K.lr
  intro d
  induction d with
  | zero =>
    intro k h a n c hk S
    refine I52_3.of (hh := ?_) ..
    unfold T52_3
    refine vcond_f (by rw [ltI_nat]; exact blt_f (by omega)) ?_
    intro g428
    have S : Know g g428 [_, _, _, _, _, _] := S.rsv 4
    have hgr : ∀ q ∈ [b10], q ≠ b8 := fun q hq => by rw [List.mem_singleton.1 hq]; exact S.ne 1 0 rfl rfl (by decide)
    refine ⟨_, _, _, _, _, _, _, S.rd 2 rfl rfl rfl, _, _, _, S.rd 1 rfl rfl rfl, vreq_t (S.cwg 0 rfl hgr (by decide) rfl rfl) ?_⟩
    intro g439 g440
    have S : Know g g440 [_, _, _, _, _, _] := S.wrg 0 rfl hgr (by decide) rfl rfl
    refine ⟨_, _, _, _, _, _, _, S.rd 0 rfl rfl rfl, next g440 a n c ?_⟩
    have : rs.take k = rs := List.take_of_length_le (by omega)
    rw [this] at S
    exact S.sel [4, 5, 3] (by decide) rfl
  | succ d ih =>
    intro k h a n c hk S
    have hk' : k < rs.length := by omega
    haveI := S.ft
    refine I52_3.of (hh := ?_) ..
    unfold T52_3
    refine vcond_t (by rw [ltI_nat]; exact blt_t (by omega)) (isNat_i (F.rd (k := k) hk' ?_))
    intro g406
    have S : Know g g406 [_, _, _, _, _, _, _] := S.add _
    refine vreq_t (S.cw 0 rfl (by decide) rfl rfl) ?_
    intro g407 g408
    have S : Know g g407 [_, _, _, _, _, _, _] := S.wr 0 rfl (by decide) rfl rfl
    have S : Know g g408 [_, _, _, _, _, _, _, _] := S.rsvK 9
    have n408 : g408.nx = g407.nx + 9 := rfl
    have hb11 := S.orng 4 rfl
    have XA : IntsAt (g408.grd [b11]) (some ⟨oA, 0, none⟩) L.length (atL L o) := by
      have := intsCells (h := g408.grd [b11]) (S.obj 5 rfl) (S.orng 5 rfl).2
      rw [atL_len] at this; exact this
    obtain ⟨v, h418, e418, rfl, k418⟩ := ct112 hO (S.okg (l := [b11]) fun q hq => by rw [List.mem_singleton.1 hq]; exact hb11.2) XA (S.rdg 3 rfl (l := [b11]) rfl rfl) (S.orng 3 rfl).2 (K.wdf (K.roots _ (List.getElem_mem hk')))
    refine ⟨_, _, _, S.rd 4 rfl rfl rfl, _, _, S.rd 1 rfl rfl rfl, _, _, e418, ?_⟩
    intro g419
    have S : Know g g419 [_, _, _, _, _, _, _, _] := S.callg k418
    refine vreq_t (S.fre 0 rfl (Nat.le_add_right ..) (by omega) (by simp)) ?_
    intro g420
    have S : Know g g420 [_, _, _, _, _, _, _, _, _] := S.lay 0 rfl (Nat.le_add_right ..) (by omega) (by simp) _
    have hn : n = k := by
      have A : AccE g420 g.nx 3 1 a n c _ := S.get 8 rfl
      have := (AccE.ints A).1
      unfold layR at this
      rw [List.length_map, List.length_take] at this
      omega
    obtain ⟨a', n', c', h', e, hn', S⟩ := S.appg (l := []) 8 rfl (Nat.le_refl _) S.lo AppT22 (fun _ h => by cases h) ⟨_, _, _, rfl⟩ (src_get (n := 1) (c := 1) (esz := 1) (off := 0) (S.rd 0 rfl (r := [.int .i64 (wd (atC L o) rs[k])]) rfl rfl)) rfl rfl (by omega) (by unfold big; omega)
    refine ⟨_, _, _, _, e, ?_⟩
    intro g425
    have S : Know g g425 [_, _, _, _, _, _, _, _, _] := S
    refine vreq_t (S.cwg 5 rfl (fun _ h => by cases h) (by decide) rfl rfl) ?_
    intro g426 g427
    have S : Know g g427 [_, _, _, _, _, _, _, _, _] := S.wrg 5 rfl (fun _ h => by cases h) (by decide) rfl rfl
    have S : Know g g427 [_, _, _, _, _, _] := S.sel [3, 4, 5, 6, 7, 8] (by decide) rfl
    rw [wrap_succ (by omega)]
    have e2 : iv (layR L o (rs.take (k + 1))) = iv (layR L o (rs.take k)) ++ [.int .i64 (wd (atC L o) rs[k])] := by
      unfold iv layR
      rw [List.take_add_one, List.getElem?_eq_getElem hk', List.map_append, List.map_append]; rfl
    exact ih (k + 1) g427 a' n' c' (by omega) (by rw [e2]; exact S)
end
end Go.Proofs.YtngcjpkccnfjiaaGreatDoor
/- Contracts: laid, the whole. -/
namespace Go.Proofs.YtngcjpkccnfjiaaGreatDoor
set_option maxRecDepth 100000
open Go Go.Ev
/-- The words when some cells are laid. -/
def preW (L : List Cl) (o : List Nat) (k : Nat) : List Int := 0 :: (o.take k).flatMap (cellC L (atC L o))
theorem preW_len (L : List Cl) (o : List Nat) (k : Nat) : (preW L o k).length = layT L (o.take k) := by
  unfold preW layT
  rw [List.length_cons, cells_length]; omega
theorem preW_succ {L : List Cl} {o : List Nat} {k : Nat} (hk : k < o.length) : preW L o (k + 1) = preW L o k ++ (hdC (clAt L o[k]) :: (clAt L o[k]).fs.map (wd (atC L o))) := by
  unfold preW
  rw [take_snoc hk, List.flatMap_append]
  show 0 :: (_ ++ (cellC L (atC L o) o[k] ++ [])) = 0 :: _ ++ _
  rw [List.append_nil]; rfl
section
variable {O : CallF} (hO : Oth O)
include hO
theorem lp52_2 {g : Hp} {a0 : Option Addr} {n0 c0 : Nat} {a1 : Option Addr} {n1 c1 : Nat} {a2 : Option Addr} {n2 c2 : Nat} {x3 x58 : Int} {b8 b10 b11 oA oW N top : Nat} {L : List Cl} {o : List Nat} {rs : List Fd} {fr : Nat} (K : LayOk L o rs fr) {i : Nat} (hi : i ∈ o) {a86 : Option Addr} {n86 c86 : Nat} (F : FdsAt g a86 n86 (clAt L i).fs) {v1 v2 v3 : Value} {Q : Value → Hp → Prop} {pre : List Int} (hpre : pre.length = atC L o i) (hN : pre.length + 1 + (clAt L i).fs.length ≤ N) (hN2 : N ≤ 100000) {hd : Int}
    (next : ∀ (h : Hp), Know g h [ob b8 (.cells [v1, v2, v3] 24 .fix), ob b10 (.cells [.slice (some ⟨oA, 0, none⟩) L.length L.length] 22 .fix), ob b11 (.cells [.slice (some ⟨oW, 0, none⟩) N N, .int .i64 (Int.ofNat top), .slice none 0 0] 24 .fix), ob oA (.cells (iv (atL L o)) 3 .fix), ob oW (.cells (iv (pre ++ (hd :: (clAt L i).fs.map (wd (atC L o))) ++ List.replicate (N - (pre.length + 1 + (clAt L i).fs.length)) 0)) 3 .fix)] →
      I52_1 O Q a0 n0 c0 a1 n1 c1 a2 n2 c2 x3 b8 0 b10 0 b11 0 (.func (.func 112) #[] #[.pointer (some ⟨b10, 0, none⟩)]) (wrapF .i64 (x58 + 1)) h) :
    ∀ (d k : Nat) (h : Hp), k + d = (clAt L i).fs.length → Know g h [ob b8 (.cells [v1, v2, v3] 24 .fix), ob b10 (.cells [.slice (some ⟨oA, 0, none⟩) L.length L.length] 22 .fix), ob b11 (.cells [.slice (some ⟨oW, 0, none⟩) N N, .int .i64 (Int.ofNat top), .slice none 0 0] 24 .fix), ob oA (.cells (iv (atL L o)) 3 .fix), ob oW (.cells (iv (pre ++ (hd :: ((clAt L i).fs.take k).map (wd (atC L o))) ++ List.replicate (N - (pre.length + 1 + k)) 0)) 3 .fix)] →
      I52_2 O Q a0 n0 c0 a1 n1 c1 a2 n2 c2 x3 b8 0 b10 0 b11 0 (.func (.func 112) #[] #[.pointer (some ⟨b10, 0, none⟩)]) (Int.ofNat i) x58 a86 n86 c86 (Int.ofNat n86) (Int.ofNat k) h := by
  have hn86 := F.1
  intro d
  induction d with
  | zero =>
    intro k h hk S
    refine I52_2.of (hh := ?_) ..
    unfold T52_2
    refine vcond_f (by rw [ltI_nat]; exact blt_f (by omega)) ?_
    have hk : k = (clAt L i).fs.length := by omega
    subst hk
    rw [List.take_length] at S
    exact next h S
  | succ d ih =>
    intro k h hk S
    have hk' : k < (clAt L i).fs.length := by omega
    haveI := S.ft
    refine I52_2.of (hh := ?_) ..
    unfold T52_2
    refine vcond_t (by rw [ltI_nat]; exact blt_t (by omega)) (isNat_i (F.rd (k := k) hk' ?_))
    intro g306
    have S : Know g g306 [_, _, _, _, _, _] := S.add _
    refine vreq_t (S.cw 0 rfl (by decide) rfl rfl) ?_
    intro g307 g308
    have S : Know g g307 [_, _, _, _, _, _] := S.wr 0 rfl (by decide) rfl rfl
    have S : Know g g308 [_, _, _, _, _, _] := S.rsv 14
    have hiL := K.lt i hi
    have XA : IntsAt g308 (some ⟨oA, 0, none⟩) L.length (atL L o) := by
      have := intsCells (h := g308) (S.obj 4 rfl) (S.orng 4 rfl).2
      rw [atL_len] at this; exact this
    have XAg : IntsAt (g308.grd [oA, b10, b11]) (some ⟨oA, 0, none⟩) L.length (atL L o) := SlAt.keep XA (fun _ _ _ => rfl) (Nat.le_refl _) (fun _ _ h => h)
    have hA := S.orng 4 rfl
    have h10 := S.orng 2 rfl
    have h11 := S.orng 3 rfl
    obtain ⟨v, h325, e325, rfl, k325⟩ := ct112 hO (S.okg (l := [oA, b10, b11]) fun q hq => by
      rcases List.mem_cons.1 hq with rfl | hq
      · exact hA.2
      · rcases List.mem_cons.1 hq with rfl | hq
        · exact h10.2
        · rw [List.mem_singleton.1 hq]; exact h11.2) XAg (S.rdg 2 rfl (l := [oA, b10, b11]) rfl rfl) h10.2 (K.wdf (K.refs i hi _ (List.getElem_mem hk')))
    refine ⟨_, _, _, S.rd 3 rfl rfl rfl, _, _, _, S.rd 2 rfl rfl rfl, isNat_i (XA.rd (h := g308) (k := i) (by rw [atL_len]; exact hiL) ?_)⟩
    rw [atL_get L o hiL]
    have ev : atV L o i = Int.ofNat (atC L o i) := by unfold atV; rw [if_pos hi]; rfl
    rw [ev]
    refine ⟨_, _, S.rd 0 rfl rfl rfl, _, _, e325, ?_⟩
    intro g326
    have S : Know g g326 [_, _, _, _, _, _] := S.callg k325
    have ew : wrapF .i64 (wrapF .i64 (Int.ofNat (atC L o i) + 1) + Int.ofNat k) = Int.ofNat (atC L o i + 1 + k) := by
      rw [wrap_succ (by omega)]
      exact wrapN (n := atC L o i + 1 + k) (by omega)
    rw [ew]
    have eY : (pre ++ (hd :: ((clAt L i).fs.take k).map (wd (atC L o)))).length = atC L o i + 1 + k := by
      rw [List.length_append, List.length_cons, List.length_map, List.length_take]; omega
    have lY : (pre ++ (hd :: ((clAt L i).fs.take k).map (wd (atC L o))) ++ List.replicate (N - (pre.length + 1 + k)) 0).length = N := by
      rw [List.length_append, eY, List.length_replicate]; omega
    have hb : Nat.ble (0 + (atC L o i + 1 + k) * 1 + [Value.int .i64 (wd (atC L o) (clAt L i).fs[k])].length) (iv (pre ++ (hd :: ((clAt L i).fs.take k).map (wd (atC L o))) ++ List.replicate (N - (pre.length + 1 + k)) 0)).length = true := ble_t (by rw [List.length_map, lY]; show 0 + (atC L o i + 1 + k) * 1 + 1 ≤ _; omega)
    refine isNat_i (isAddr_i (vreq_t (blt_t (by omega)) (vreq_t (S.cwg 5 rfl (fun _ h => by cases h) (by decide) hb rfl) ?_)))
    intro g330 g331
    have S : Know g g331 [_, _, _, _, _, _] := S.wrg 5 rfl (fun _ h => by cases h) (by decide) hb rfl
    rw [← eY, putAt_z1 _ _ _ (by omega)] at S
    have S : Know g g331 [_, _, _, _, _] := S.sub _ (List.sublist_cons_self ..)
    rw [wrap_succ (by omega)]
    refine ih (k + 1) g331 (by omega) ?_
    have e5 : pre ++ (hd :: ((clAt L i).fs.take k).map (wd (atC L o))) ++ [wd (atC L o) (clAt L i).fs[k]] = pre ++ (hd :: ((clAt L i).fs.take (k + 1)).map (wd (atC L o))) := by
      rw [List.take_add_one, List.getElem?_eq_getElem hk', List.map_append]
      simp
    rw [e5, show N - (pre.length + 1 + k) - 1 = N - (pre.length + 1 + (k + 1)) by omega] at S
    exact S
theorem lp52_1 {g : Hp} {a0 : Option Addr} {n0 c0 : Nat} {a1 : Option Addr} {n1 c1 : Nat} {a2 : Option Addr} {n2 c2 : Nat} {x3 : Int} {b8 b10 b11 oA oW N top : Nat} {L : List Cl} {o : List Nat} {rs : List Fd} {fr : Nat} (K : LayOk L o rs fr) (C : ClsAt g a0 n0 L) (X : IntsAt g a1 n1 (o.map Int.ofNat)) {v1 v2 v3 : Value} {Q : Value → Hp → Prop} (hN : layT L o + fr = N)
    (next : ∀ (h : Hp), Know g h [ob b8 (.cells [v1, v2, v3] 24 .fix), ob b10 (.cells [.slice (some ⟨oA, 0, none⟩) L.length L.length] 22 .fix), ob b11 (.cells [.slice (some ⟨oW, 0, none⟩) N N, .int .i64 (Int.ofNat top), .slice none 0 0] 24 .fix), ob oA (.cells (iv (atL L o)) 3 .fix), ob oW (.cells (iv (layW L o fr)) 3 .fix)] →
      I52_3 O Q a0 n0 c0 a1 n1 c1 a2 n2 c2 x3 b8 0 b10 0 b11 0 (.func (.func 112) #[] #[.pointer (some ⟨b10, 0, none⟩)]) 0 h) :
    ∀ (d k : Nat) (h : Hp), k + d = o.length → Know g h [ob b8 (.cells [v1, v2, v3] 24 .fix), ob b10 (.cells [.slice (some ⟨oA, 0, none⟩) L.length L.length] 22 .fix), ob b11 (.cells [.slice (some ⟨oW, 0, none⟩) N N, .int .i64 (Int.ofNat top), .slice none 0 0] 24 .fix), ob oA (.cells (iv (atL L o)) 3 .fix), ob oW (.cells (iv (preW L o k ++ List.replicate (N - (preW L o k).length) 0)) 3 .fix)] →
      I52_1 O Q a0 n0 c0 a1 n1 c1 a2 n2 c2 x3 b8 0 b10 0 b11 0 (.func (.func 112) #[] #[.pointer (some ⟨b10, 0, none⟩)]) (Int.ofNat k) h := by
  have hn1 := X.1
  rw [List.length_map] at hn1
  have hfit := K.fit
  have hlo := totS_len L o
  have hlT : layT L o = 1 + totS (szC L) o := rfl
  intro d
  induction d with
  | zero =>
    intro k h hk S
    refine I52_1.of (hh := ?_) ..
    unfold T52_1
    refine vcond_f (by rw [ltI_nat]; exact blt_f (by omega)) (next h ?_)
    have : o.take k = o := List.take_of_length_le (by omega)
    have e : preW L o k ++ List.replicate (N - (preW L o k).length) 0 = layW L o fr := by
      rw [preW_len]
      unfold preW layW
      rw [this, ← hN, show layT L o + fr - layT L o = fr by omega]
      rfl
    rw [e] at S; exact S
  | succ d ih =>
    intro k h hk S
    have hk' : k < o.length := by omega
    have hmem := List.getElem_mem hk'
    have hiL := K.lt _ hmem
    haveI := S.ft
    refine I52_1.of (hh := ?_) ..
    unfold T52_1
    refine vcond_t (by rw [ltI_nat]; exact blt_t (by omega)) (isNat_i (X.rd (k := k) (by rw [List.length_map]; exact hk') ?_))
    rw [List.getElem_map]
    intro g205
    have S : Know g g205 [_, _, _, _, _] := S.rsv 21
    haveI := S.ft
    have XA : IntsAt g205 (some ⟨oA, 0, none⟩) L.length (atL L o) := by
      have := intsCells (h := g205) (S.obj 3 rfl) (S.orng 3 rfl).2
      rw [atL_len] at this; exact this
    refine ⟨_, _, _, S.rd 2 rfl rfl rfl, _, _, _, S.rd 1 rfl rfl rfl, isNat_i (XA.rd (h := g205) (k := o[k]) (by rw [atL_len]; exact hiL) ?_)⟩
    rw [atL_get L o hiL]
    have ev : atV L o o[k] = Int.ofNat (atC L o o[k]) := by unfold atV; rw [if_pos hmem]; rfl
    rw [ev]
    have hcl : L[o[k]] = clAt L o[k] := by simp [clAt, List.getD, List.getElem?_eq_getElem hiL]
    refine isNat_i (C.rdf (h := g205) (k := o[k]) hiL fun a' n' c' F => ?_)
    refine isNat_i (C.rdk (h := g205) (k := o[k]) hiL ?_)
    rw [hcl] at F ⊢
    have hF := F.1
    have hat := at_take (L := L) K.nd hk'
    have hpl := preW_len L o k
    have hT1 : layT L (o.take (k + 1)) ≤ layT L o := layT_take
    rw [take_snoc hk', layT_snoc] at hT1
    have hsz : szC L o[k] = 1 + (clAt L o[k]).fs.length := rfl
    have hkd := K.kind _ hmem
    have e1 : wrapF .i64 (wrapF .i64 (8 * Int.ofNat n') + (clAt L o[k]).kind) = hdC (clAt L o[k]) := by
      rw [hF]
      have : Int.ofNat (clAt L o[k]).fs.length = ((clAt L o[k]).fs.length : Int) := rfl
      rw [this, wrap64 (n := 8 * ((clAt L o[k]).fs.length : Int)) (by omega) (by omega), wrap64 (by omega) (by omega)]
      rfl
    rw [e1]
    have lW : (preW L o k ++ List.replicate (N - (preW L o k).length) 0).length = N := by rw [List.length_append, List.length_replicate]; omega
    have hb : Nat.ble (0 + atC L o o[k] * 1 + [Value.int .i64 (hdC (clAt L o[k]))].length) (iv (preW L o k ++ List.replicate (N - (preW L o k).length) 0)).length = true := ble_t (by rw [List.length_map, lW]; show 0 + atC L o o[k] * 1 + 1 ≤ _; omega)
    refine isNat_i (isAddr_i (vreq_t (blt_t (by omega)) (vreq_t (S.cwg 4 rfl (fun _ h => by cases h) (by decide) hb rfl) ?_)))
    intro g229 g230
    have S : Know g g230 [_, _, _, _, _] := S.wrg 4 rfl (fun _ h => by cases h) (by decide) hb rfl
    rw [hat, ← hpl, putAt_z1 _ _ _ (by omega)] at S
    haveI := S.ft
    refine isNat_i (C.rdf (h := g230) (k := o[k]) hiL fun a2' n2' c2' F2 => ?_)
    rw [hcl] at F2
    have S : Know g g230 [ob b8 (.cells [v1, v2, v3] 24 .fix), ob b10 (.cells [.slice (some ⟨oA, 0, none⟩) L.length L.length] 22 .fix), ob b11 (.cells [.slice (some ⟨oW, 0, none⟩) N N, .int .i64 (Int.ofNat top), .slice none 0 0] 24 .fix), ob oA (.cells (iv (atL L o)) 3 .fix), ob oW (.cells (iv (preW L o k ++ (hdC (clAt L o[k]) :: ((clAt L o[k]).fs.take 0).map (wd (atC L o))) ++ List.replicate (N - ((preW L o k).length + 1 + 0)) 0)) 3 .fix)] := by
      rw [List.take_zero, List.map_nil, show N - ((preW L o k).length + 1 + 0) = N - (preW L o k).length - 1 by omega]
      exact S
    refine lp52_2 (N := N) hO K hmem F2 (by rw [hpl, hat]) (by omega) (by omega) (hd := hdC (clAt L o[k])) (pre := preW L o k) (fun h2 S2 => ?_) (clAt L o[k]).fs.length 0 g230 (by omega) S
    rw [wrap_succ (by omega)]
    refine ih (k + 1) h2 (by omega) ?_
    rw [preW_succ hk']
    have e3 : (preW L o k ++ (hdC (clAt L o[k]) :: (clAt L o[k]).fs.map (wd (atC L o)))).length = (preW L o k).length + 1 + (clAt L o[k]).fs.length := by rw [List.length_append, List.length_cons, List.length_map]; omega
    rw [e3]
    exact S2
/-- 'laid'. -/
theorem ct52 {g : Hp} (ok : g.Ok) {a0 : Option Addr} {n0 c0 : Nat} {a1 : Option Addr} {n1 c1 : Nat} {a2 : Option Addr} {n2 c2 : Nat} {L : List Cl} {o : List Nat} {rs : List Fd} {fr : Nat} (K : LayOk L o rs fr) (C : ClsAt g a0 n0 L) (X : IntsAt g a1 n1 (o.map Int.ofNat)) (F : FdsAt g a2 n2 rs) :
    Ret Tryz.prog O 52 [.slice a0 n0 c0, .slice a1 n1 c1, .slice a2 n2 c2, .int .i64 (Int.ofNat fr)] g fun v h' => ∃ oW ar nr cr oA, v = .tuple #[.agg #[.slice (some ⟨oW, 0, none⟩) (layT L o + fr) (layT L o + fr), .int .i64 (Int.ofNat (layT L o)), .slice ar nr cr], .slice (some ⟨oA, 0, none⟩) L.length L.length] ∧ Know g h' [ob oW (.cells (iv (layW L o fr)) 3 .fix), acc g.nx 3 1 ar nr cr (iv (layR L o rs)), ob oA (.cells (iv (atL L o)) 3 .fix)] := by
  refine rk52 (hO := hO _ _ _ (by decide)) (hh := ?_) ..
  unfold T52
  have hn0 := C.1
  have hn1 := X.1
  rw [List.length_map] at hn1
  have hlL := K.lL
  have hfit := K.fit
  have hlo := totS_len L o
  have hlT : layT L o = 1 + totS (szC L) o := rfl
  subst hn0
  intro g1 g2
  have S : Know g g1 [_] := (Know.nil ok).add _
  have S : Know g g2 [_, _] := S.add _
  have X1 : IntsAt g2 (some ⟨g1.nx, 0, none⟩) 1 [-1] := intsCells (xs := [-1]) (S.obj 0 rfl) (S.orng 0 rfl).2
  obtain ⟨v, h6, e6, oA, rfl, T⟩ := ct111 hO S.ok X1 (c := 1) (m := L.length) (by omega)
  refine ⟨_, _, _, _, e6, ?_⟩
  have S : Know g h6 [_, _, _] := S.comp T
  intro g7
  have S : Know g g7 [_, _, _, _] := S.add _
  refine vreq_t (S.cw 0 rfl (by decide) rfl rfl) ?_
  intro g8
  have S : Know g g8 [_, _, _, _] := S.wr 0 rfl (by decide) rfl rfl
  intro g9
  have S : Know g g9 [_, _, _, _, _] := S.add _
  refine vreq_t (S.cw 0 rfl (by decide) rfl rfl) ?_
  intro g10
  have S : Know g g10 [_, _, _, _, _] := S.wr 0 rfl (by decide) rfl rfl
  have S : Know g g10 [_, _, _, _] := S.sel [4, 1, 0, 2] (by decide) rfl
  rw [← atL_nil] at S
  have lp : ∀ (d k : Nat) (h : Hp), k + d = o.length → Know g h [ob g.nx (.cells [.slice none 0 0, .int .i64 0, .slice none 0 0] 24 .fix), ob h6.nx (.cells [.slice (some ⟨oA, 0, none⟩) L.length L.length] 22 .fix), ob g8.nx (.cells [.slice none 0 0, .int .i64 (Int.ofNat (layT L (o.take k))), .slice none 0 0] 24 .fix), ob oA (.cells (iv (atL L (o.take k))) 3 .fix)] →
      I52_0 O (fun v h' => ∃ oW ar nr cr oA, v = .tuple #[.agg #[.slice (some ⟨oW, 0, none⟩) (layT L o + fr) (layT L o + fr), .int .i64 (Int.ofNat (layT L o)), .slice ar nr cr], .slice (some ⟨oA, 0, none⟩) L.length L.length] ∧ Know g h' [ob oW (.cells (iv (layW L o fr)) 3 .fix), acc g.nx 3 1 ar nr cr (iv (layR L o rs)), ob oA (.cells (iv (atL L o)) 3 .fix)]) a0 L.length c0 a1 n1 c1 a2 n2 c2 (Int.ofNat fr) g.nx 0 h6.nx 0 g8.nx 0 (Int.ofNat k) h := by
    intro d
    induction d with
    | zero =>
      intro k h hk S
      have ek : o.take k = o := List.take_of_length_le (by omega)
      rw [ek] at S
      refine I52_0.of (hh := ?_) ..
      unfold T52_0
      have ew : wrapF .i64 (Int.ofNat (layT L o) + Int.ofNat fr) = Int.ofNat (layT L o + fr) := wrapN (n := layT L o + fr) (by omega)
      refine vcond_f (by rw [ltI_nat]; exact blt_f (by omega)) ⟨_, S.rd 2 rfl rfl rfl, ?_⟩
      rw [ew]
      refine isNat_i (isNat_i (vreq_t (ble_t (Nat.le_refl _)) (vreq_t (ble_t (by omega)) (vreq_t (blt_t (by unfold big; omega)) ?_))))
      intro g126
      have S : Know g g126 [_, _, _, _, _] := S.add _
      have ez : List.flatten (List.replicate (layT L o + fr) [Value.int .i64 0]) = iv (List.replicate (layT L o + fr) 0) := by
        have : ∀ k, List.flatten (List.replicate k [Value.int .i64 0]) = iv (List.replicate k 0) := by
          intro k
          induction k with
          | zero => rfl
          | succ k ih => rw [List.replicate_succ, List.flatten_cons, ih, List.replicate_succ]; rfl
        exact this _
      rw [ez] at S
      refine vreq_t (S.cw 3 rfl (by decide) rfl rfl) ?_
      intro g127
      have S : Know g g127 [_, _, _, _, _] := S.wr 3 rfl (by decide) rfl rfl
      have S : Know g g127 [_, _, _, _, _] := S.sel [1, 2, 3, 4, 0] (by decide) rfl
      have e : preW L o 0 ++ List.replicate (layT L o + fr - (preW L o 0).length) 0 = List.replicate (layT L o + fr) 0 := by
        show (0 : Int) :: ([] ++ List.replicate (layT L o + fr - 1) 0) = _
        rw [List.nil_append, ← List.replicate_succ, show layT L o + fr - 1 + 1 = layT L o + fr by omega]
      rw [← e] at S
      refine lp52_1 hO K C X (N := layT L o + fr) rfl (fun h2 S2 => ?_) o.length 0 g127 (by omega) S
      have S2 : Know g h2 [_, _, _, _, _, _] := S2.accNil g.nx 3 1
      exact lp52_3 hO K F (fun h3 a n c S3 => ⟨_, _, _, _, _, rfl, S3⟩) rs.length 0 h2 none 0 0 (by omega) (S2.sel [1, 2, 3, 4, 5, 0] (by decide) rfl)
    | succ d ih =>
      intro k h hk S
      have hk' : k < o.length := by omega
      have hmem := List.getElem_mem hk'
      have hiL := K.lt _ hmem
      have hT := layT_take (L := L) (o := o) (k := k)
      have hT1 : layT L (o.take (k + 1)) ≤ layT L o := layT_take
      rw [take_snoc hk', layT_snoc] at hT1
      have hsz : szC L o[k] = 1 + (clAt L o[k]).fs.length := rfl
      haveI := S.ft
      refine I52_0.of (hh := ?_) ..
      unfold T52_0
      refine vcond_t (by rw [ltI_nat]; exact blt_t (by omega)) (isNat_i (X.rd (k := k) (by rw [List.length_map]; exact hk') ?_))
      rw [List.getElem_map]
      have hb : Nat.ble (0 + o[k] * 1 + [Value.int .i64 (Int.ofNat (layT L (o.take k)))].length) (iv (atL L (o.take k))).length = true := ble_t (by rw [List.length_map, atL_len]; show 0 + o[k] * 1 + 1 ≤ _; omega)
      refine ⟨_, _, _, S.rd 1 rfl rfl rfl, _, S.rd 2 rfl rfl rfl, isNat_i (isAddr_i (vreq_t (blt_t hiL) (vreq_t (S.cw 3 rfl (by decide) hb rfl) ?_)))⟩
      intro g112 g113
      have S : Know g g112 [_, _, _, _] := S.wr 3 rfl (by decide) hb rfl
      have S : Know g g113 [_, _, _, _] := S.rsv 12
      rw [putAt_one _ _ _ (by rw [atL_len]; exact hiL), show Int.ofNat (layT L (o.take k)) = (layT L (o.take k) : Int) from rfl, atL_snoc (nodup_take K.nd hk') hiL, ← take_snoc hk'] at S
      haveI := S.ft
      refine ⟨_, S.rd 2 rfl rfl rfl, isNat_i (C.rdf (h := g113) (k := o[k]) hiL fun a' n' c' F' => ?_)⟩
      have hcl : L[o[k]] = clAt L o[k] := by simp [clAt, List.getD, List.getElem?_eq_getElem hiL]
      rw [hcl] at F'
      have hF := F'.1
      have ew : wrapF .i64 ((layT L (o.take k) : Int) + wrapF .i64 (1 + Int.ofNat n')) = Int.ofNat (layT L (o.take (k + 1))) := by
        rw [take_snoc hk', layT_snoc, hF, hsz]
        have : Int.ofNat (clAt L o[k]).fs.length = ((clAt L o[k]).fs.length : Int) := rfl
        rw [this, wrap64 (n := 1 + ((clAt L o[k]).fs.length : Int)) (by omega) (by omega), wrap64 (by omega) (by omega)]
        show _ = ((layT L (o.take k) + (1 + (clAt L o[k]).fs.length) : Nat) : Int)
        omega
      rw [ew]
      refine vreq_t (S.cwg 2 rfl (fun _ h => by cases h) (by decide) rfl rfl) ?_
      intro g121 g122
      have S : Know g g122 [_, _, _, _] := S.wrg 2 rfl (fun _ h => by cases h) (by decide) rfl rfl
      rw [wrap_succ (by omega)]
      exact ih (k + 1) g122 (by omega) S
  exact lp o.length 0 g10 (by omega) S
end
end Go.Proofs.YtngcjpkccnfjiaaGreatDoor
/- Contracts: made. What is drawn is as it may be. -/
namespace Go.Proofs.YtngcjpkccnfjiaaGreatDoor
set_option maxRecDepth 100000
open Go Go.Ev
abbrev pO (xs : List Nat) : List Nat := List.range (pMany xs)
theorem drawnL_len (xs : List Nat) : (drawnL xs).length = pMany xs := by unfold drawnL; simp
theorem drawnL_at {xs : List Nat} {i : Nat} (hi : i < pMany xs) : clAt (drawnL xs) i = pCell xs i := by
  unfold clAt drawnL
  rw [List.getD, List.getElem?_map, List.getElem?_range hi]; rfl
theorem odd_ne {a q : Int} (h : a = 2 * q + 1) : Int.tmod a 2 ≠ 0 := fun h0 => by
  have := Int.mul_tdiv_add_tmod a 2
  omega
theorem wordC_ok {n x k : Nat} (hx : x < 256) (h3 : (k : Int) ≠ 3) (h4 : (k : Int) ≠ 4) : FdOk (List.range n) k (wordC n x) := by
  unfold FdOk
  rw [if_neg h3, if_neg h4]
  unfold wordC
  split
  · exact .inr ⟨rfl, .inr ⟨odd_ne (q := (x : Int) - 100) rfl, by show _ ≤ 2 * ((x : Int) - 100) + 1; omega, by show 2 * ((x : Int) - 100) + 1 ≤ _; omega⟩⟩
  · rename_i h
    split
    · exact .inr ⟨rfl, .inl rfl⟩
    · refine .inl ⟨rfl, x / 4 % n, List.mem_range.2 (Nat.mod_lt _ (by omega)), rfl⟩
theorem fdOf_ok {n x k : Nat} (hx : x < 256) : FdOk (List.range n) k (fdOf k n x) := by
  unfold fdOf
  by_cases h3 : k = 3
  · subst h3
    rw [if_pos rfl]
    unfold FdOk
    rw [if_pos (by rfl)]
    refine ⟨rfl, ?_⟩
    show letterB ((97 + x % 26 : Nat) : Int) = true
    unfold letterB
    have h1 : (32 : Int) ≤ ((97 + x % 26 : Nat) : Int) := by omega
    have h2 : ((97 + x % 26 : Nat) : Int) ≤ 126 := by omega
    have h5 : (((97 + x % 26 : Nat) : Int) == 34) = false := by rw [beq_eq_false_iff_ne]; omega
    have h6 : (((97 + x % 26 : Nat) : Int) == 92) = false := by rw [beq_eq_false_iff_ne]; omega
    rw [decide_eq_true h1, decide_eq_true h2, h5, h6]; rfl
  · by_cases h4 : k = 4
    · subst h4
      rw [if_neg h3, if_pos rfl]
      unfold FdOk
      rw [if_neg (by decide), if_pos (by rfl)]
      refine ⟨rfl, ?_⟩
      show ((x % 2 : Nat) : Int) = 0 ∨ ((x % 2 : Nat) : Int) = 1
      omega
    · rw [if_neg h3, if_neg h4]
      exact wordC_ok hx (by omega) (by omega)
theorem totS_le {L : List Cl} {b : Nat} : ∀ {o : List Nat}, (∀ i ∈ o, szC L i ≤ b) → totS (szC L) o ≤ b * o.length := by
  intro o
  induction o with
  | nil => intro _; exact Nat.le_refl _
  | cons x o ih =>
    intro h
    rw [totS_cons, List.length_cons, Nat.mul_succ]
    have := h x (List.mem_cons_self ..)
    have := ih fun i hi => h i (List.mem_cons_of_mem _ hi)
    omega
section
variable {v0 : Array Value} {xs : List Nat} (B : Bytes v0 xs)
include B
theorem drawn_fs {i : Nat} (hi : i < pMany xs) : (clAt (drawnL xs) i).fs.length = pSize xs i := by
  have := pSize_rng xs i
  have := pMany_rng xs
  rw [drawnL_at hi]
  show (((xs.drop _).take _).map _).length = _
  rw [List.length_map, List.length_take, List.length_drop, B.len]
  omega
theorem drawn_gr : Gr (drawnL xs) (pO xs) := by
  refine ⟨List.nodup_range, fun i hi => ?_, fun i hi => ?_, fun i hi h4 => ?_, fun i hi f hf => ?_⟩
  all_goals have hi := List.mem_range.1 hi
  · rw [drawnL_at hi]; have := pKind_rng xs i
    show 1 ≤ (pKind xs i : Int) ∧ (pKind xs i : Int) ≤ 5
    omega
  · rw [drawn_fs B hi]; have := pSize_rng xs i; omega
  · rw [drawn_fs B hi]
    rw [drawnL_at hi] at h4
    have h4 : (pKind xs i : Int) = 4 := h4
    exact if_pos (by omega)
  · rw [drawnL_at hi] at hf ⊢
    obtain ⟨x, hx, rfl⟩ := List.mem_map.1 hf
    exact fdOf_ok (B.lt x (List.drop_subset _ _ (List.take_subset _ _ hx)))
theorem drawn_roots : (∀ f ∈ drawnR xs, FdOk (pO xs) 1 f) ∧ (drawnR xs).length ≤ 4 := by
  refine ⟨fun f hf => ?_, ?_⟩
  · obtain ⟨x, hx, rfl⟩ := List.mem_map.1 hf
    exact wordC_ok (k := 1) (B.lt x (List.drop_subset _ _ (List.take_subset _ _ hx))) (by decide) (by decide)
  · unfold drawnR
    rw [List.length_map, List.length_take]; omega
theorem drawn_fit : layT (drawnL xs) (pO xs) ≤ 46 := by
  have := pMany_rng xs
  have h : totS (szC (drawnL xs)) (pO xs) ≤ 5 * (pO xs).length := totS_le fun i hi => by
    unfold szC
    rw [drawn_fs B (List.mem_range.1 hi)]
    have := pSize_rng xs i; omega
  rw [List.length_range] at h
  unfold layT; omega
end
/-- Cells that are as they may be may be laid. -/
theorem Gr.lay {L : List Cl} {o : List Nat} (G : Gr L o) (hl : ∀ i ∈ o, i < L.length) {rs : List Fd} (hr : ∀ f ∈ rs, FdOk o 1 f) {fr : Nat} (lL : L.length ≤ 1000) (lr : rs.length ≤ 1000) (fit : layT L o + fr ≤ 100000) : LayOk L o rs fr :=
  ⟨G.nd, hl, fun i hi f hf hrf => let ⟨a, b⟩ := FdOk.mem G (G.fok i hi f hf) hrf; ⟨b, a⟩, fun f hf hrf => let ⟨a, b⟩ := FdOk.mem G (hr f hf) hrf; ⟨b, a⟩, fun i hi => by have := G.kind i hi; omega, lL, lr, fit⟩
def pFree (xs : List Nat) : Nat := xs.getD 1 0 % 16
theorem made_ok {v0 : Array Value} {xs : List Nat} (B : Bytes v0 xs) : LayOk (drawnL xs) (pO xs) (drawnR xs) (pFree xs) := by
  have h1 := drawn_fit B
  have h2 := drawn_roots B
  have := pMany_rng xs
  have : pFree xs < 16 := Nat.mod_lt _ (by decide)
  exact (drawn_gr B).lay (fun i hi => by rw [drawnL_len]; exact List.mem_range.1 hi) h2.1 (by rw [drawnL_len]; omega) (by omega) (by omega)
/-- What 'made' returns. -/
def QMade (g : Hp) (xs : List Nat) : Value → Hp → Prop := fun v h' => ∃ oW ar nr cr ac cc af nf cf oA own, v = .tuple #[.agg #[.slice (some ⟨oW, 0, none⟩) (layT (drawnL xs) (pO xs) + pFree xs) (layT (drawnL xs) (pO xs) + pFree xs), .int .i64 (Int.ofNat (layT (drawnL xs) (pO xs))), .slice ar nr cr], .slice ac (drawnL xs).length cc, .slice af nf cf, .slice (some ⟨oA, 0, none⟩) (drawnL xs).length (drawnL xs).length] ∧
  Know g h' [clo own (fun h => ClsAt h ac (drawnL xs).length (drawnL xs)), acc g.nx 76 2 af nf cf (fvs (drawnR xs)), ob oW (.cells (iv (layW (drawnL xs) (pO xs) (pFree xs))) 3 .fix), acc g.nx 3 1 ar nr cr (iv (layR (drawnL xs) (pO xs) (drawnR xs))), ob oA (.cells (iv (atL (drawnL xs) (pO xs))) 3 .fix)]
section
variable {O : CallF} (hO : Oth O)
include hO
/-- 'made'. -/
theorem ct43 {g : Hp} (ok : g.Ok) {v0 : Array Value} {xs : List Nat} (B : Bytes v0 xs) : Ret Tryz.prog O 43 [.agg v0] g (QMade g xs) := by
  refine rk43 (hO := hO _ _ _ (by decide)) (hh := ?_) ..
  unfold T43
  have hlen := B.len
  have hm := pMany_rng xs
  refine vreq_t (by rw [B.v]; exact bv_one xs) ?_
  intro g1
  have S : Know g g1 [_] := (Know.nil ok).add _
  rw [B.v] at S
  intro g2
  have S : Know g g2 [_, _] := S.add _
  have B2 : Bytes (bv xs).toArray xs := ⟨rfl, B.len, B.lt⟩
  obtain ⟨v, h10, e10, ac, nc, cc, af, nf, cf, own, rfl, T⟩ := ct106 hO S.ok B2
  refine ⟨bv xs, S.rd 1 rfl (by rw [List.drop_zero, List.take_of_length_le (by rw [List.length_map]; omega)]) (ble_t (by rw [List.length_map]; omega)), _, _, _, _, _, _, _, e10, ?_⟩
  have S : Know g h10 [_, _, _, _] := S.comp T
  intro g11
  have S : Know g g11 [_, _, _, _, _] := S.rsvK 16
  have n11 : g11.nx = h10.nx + 16 := rfl
  have hr : ((bv xs).drop 1).take 1 = [.int .u8 (Int.ofNat (xs.getD 1 0))] := bv_at (by omega)
  have hC : ClsAt g11 ac nc (drawnL xs) := clo.get (S.get 1 rfl)
  have hnc := hC.1
  subst hnc
  have hg0 := S.orng 4 rfl
  obtain ⟨v, h16, e16, a13, n14, c15, rfl, T⟩ := ct51 hO (S.okg (l := [g.nx]) fun q hq => by rw [List.mem_singleton.1 hq]; exact hg0.2) (n := pMany xs) (by omega)
  rw [← drawnL_len] at e16
  refine ⟨_, S.rd 4 rfl hr (ble_t (by rw [List.length_map]; omega)), _, _, _, _, e16, ?_⟩
  intro g17
  have S : Know g g17 [_, _, _, _, _, _] := S.compg T
  have h1 := B.b 1
  rw [wrapN (show xs.getD 1 0 < 9223372036854775808 by omega), show Int.tmod (Int.ofNat (xs.getD 1 0)) 16 = Int.ofNat (pFree xs) from rfl]
  have C17 : ClsAt g17 ac (drawnL xs).length (drawnL xs) := clo.get (S.get 2 rfl)
  have F17 : FdsAt g17 af nf (drawnR xs) := AccE.slAt fdE_len (by decide) (S.get 3 rfl)
  have X17 : IntsAt g17 a13 n14 ((pO xs).map Int.ofNat) := AccE.ints (S.get 0 rfl)
  obtain ⟨v, h28, e28, oW, ar, nr, cr, oA, rfl, T⟩ := ct52 hO (S.okg (l := []) fun _ h => by cases h) (made_ok B) (SlAt.keep C17 (fun _ _ _ => rfl) (Nat.le_refl _) (fun _ _ h => h)) (SlAt.keep X17 (fun _ _ _ => rfl) (Nat.le_refl _) (fun _ _ h => h)) (SlAt.keep F17 (fun _ _ _ => rfl) (Nat.le_refl _) (fun _ _ h => h)) (c0 := cc) (c1 := c15) (c2 := cf)
  refine ⟨_, _, _, _, _, _, _, _, _, _, _, e28, ?_⟩
  intro g29
  have S : Know g g29 [_, _, _, _, _, _, _, _, _] := S.compg T
  refine vreq_t (S.fre 4 rfl (Nat.le_add_right ..) (by omega) (by simp)) ?_
  intro g30
  have S : Know g g30 [_, _, _, _, _, _, _, _, _, _] := S.lay 4 rfl (Nat.le_add_right ..) (by omega) (by simp) _
  refine vreq_t (S.cwg 0 rfl (fun _ h => by cases h) (by decide) rfl rfl) ?_
  intro g31 g32
  have S : Know g g32 [_, _, _, _, _, _, _, _, _, _] := S.wrg 0 rfl (fun _ h => by cases h) (by decide) rfl rfl
  refine ⟨_, _, _, _, _, _, _, S.rd 0 rfl rfl rfl, vreq_t (S.cw 8 rfl (by decide) rfl rfl) ?_⟩
  intro g40
  have S : Know g g40 [_, _, _, _, _, _, _, _, _, _] := S.wr 8 rfl (by decide) rfl rfl
  have S := (Know.accLow (Know.accLow S 7 rfl) 2 rfl)
  have S : Know g g40 [_, _, _, _, _, _, _, _, _, _] := S
  refine ⟨_, _, _, _, _, _, _, S.rd 8 rfl rfl rfl, oW, ar, nr, cr, ac, cc, af, nf, cf, oA, own, rfl, ?_⟩
  have S' := S.sel [6, 7, 1, 2, 3] (by decide) rfl
  exact Know.accLow (Know.accLow S' 1 rfl) 3 rfl
end
end Go.Proofs.YtngcjpkccnfjiaaGreatDoor
/- Contracts: fields are copied; cells are pruned. -/
namespace Go.Ev
open Go
theorem Know.merge2 {h0 g : Hp} {r s : Rs} {L : List Rs} (S : Know h0 g (r :: s :: L)) (F : Hp → Prop) (hF : ∀ h', g.nx ≤ h'.nx → r.P h' → s.P h' → F h') : Know h0 g (clo (fun o => r.own o ∨ s.own o) F :: L) := by
  obtain ⟨r1, r2, r3⟩ := S.at_ r (List.mem_cons_self ..)
  obtain ⟨s1, s2, s3⟩ := S.at_ s (List.mem_cons_of_mem _ (List.mem_cons_self ..))
  obtain ⟨d1, d2⟩ := List.pairwise_cons.1 S.dis
  obtain ⟨d3, d4⟩ := List.pairwise_cons.1 d2
  refine ⟨S.ok, S.kp, fun q hq => ?_, List.pairwise_cons.2 ⟨fun q hq b hb hqb => ?_, d4⟩, S.ok0⟩
  · rcases List.mem_cons.1 hq with rfl | hq
    · exact ⟨clo.loc _ _, fun h' hn he => hF h' hn (r1 g h' hn (fun b hb => he b (.inl hb)) r2) (s1 g h' hn (fun b hb => he b (.inr hb)) s2), fun b hb => hb.elim (r3 b) (s3 b)⟩
    · exact S.at_ q (List.mem_cons_of_mem _ (List.mem_cons_of_mem _ hq))
  · rcases hb with hb | hb
    · exact d1 q (List.mem_cons_of_mem _ hq) b hb hqb
    · exact d3 q hq b hb hqb
end Go.Ev
namespace Go.Proofs.YtngcjpkccnfjiaaGreatDoor
set_option maxRecDepth 100000
open Go Go.Ev
theorem enc_chunks {α : Type} {enc : α → List Value} {w : Nat} (hw : ∀ x, (enc x).length = w) {c : List Value} : ∀ (xs : List α) (off : Nat), off + xs.length * w ≤ c.length → (∀ i (hi : i < xs.length), (c.drop (off + i * w)).take w = enc xs[i]) → (c.drop off).take (xs.length * w) = xs.flatMap enc := by
  intro xs
  induction xs with
  | nil => intro off _ _; simp
  | cons x xs ih =>
    intro off hl h
    rw [List.length_cons, Nat.add_mul, Nat.one_mul] at hl
    have h0 := h 0 (by simp)
    rw [Nat.zero_mul, Nat.add_zero] at h0
    have := ih (off + w) (by omega) fun i hi => by
      have := h (i + 1) (by simpa using hi)
      rw [Nat.add_mul, Nat.one_mul] at this
      rw [show off + w + i * w = off + (i * w + w) by omega]
      exact this
    rw [List.length_cons, Nat.add_mul, Nat.one_mul, Nat.add_comm, List.take_add, List.drop_drop, h0, this, List.flatMap_cons]
    rfl
theorem FdsAt.src {h : Hp} {a : Option Addr} {n c : Nat} {fs : List Fd} (F : FdsAt h a n fs) : srcCells h 2 (.slice a n c) = some (fvs fs, n) := by
  have hn := F.1
  rcases F.2 with ⟨rfl, rfl⟩ | ⟨b, off, cs, e', m, rfl, h2, h3, h4, h5⟩
  · subst hn; rfl
  · refine src_get ?_
    rw [hn, readAt_get h3 h4]
    exact congrArg some (enc_chunks fdE_len fs off h4 h5)
theorem fvs_len (fs : List Fd) : (fvs fs).length = fs.length * 2 := flatMap_length fdE_len fs
theorem fvs_set : ∀ (fs : List Fd) (k : Nat) (f : Fd), k < fs.length → putAt (fvs fs) (0 + k * 2) (fdE f) = fvs (fs.set k f) := by
  intro fs
  induction fs with
  | nil => intro k f h; simp at h
  | cons g fs ih =>
    intro k f h
    cases k with
    | zero => show putAt (.int .i64 g.n :: .bool g.refs :: fvs fs) 0 [.int .i64 f.n, .bool f.refs] = .int .i64 f.n :: .bool f.refs :: fvs fs
              show Value.int .i64 f.n :: .bool f.refs :: putAt (fvs fs) 0 [] = _
              rw [putAt_nil]
    | succ k =>
      have := ih k f (by simpa using h)
      rw [show 0 + (k + 1) * 2 = (0 + k * 2) + 1 + 1 by omega]
      show Value.int .i64 g.n :: .bool g.refs :: putAt (fvs fs) (0 + k * 2) (fdE f) = .int .i64 g.n :: .bool g.refs :: fvs (fs.set k f)
      rw [this]
section
variable {O : CallF} (hO : Oth O)
include hO
/-- 'slices.Clone' of fields. -/
theorem ct47 {g : Hp} (ok : g.Ok) {a : Option Addr} {n c : Nat} {fs : List Fd} (F : FdsAt g a n fs) (hl : fs.length < 1000000) : Ret Tryz.prog O 47 [.slice a n c] g fun v h' => ∃ a' c', v = .slice a' n c' ∧ Know g h' [acc g.nx 76 2 a' n c' (fvs fs)] := by
  refine rk47 (hO := hO _ _ _ (by decide)) (hh := ?_) ..
  unfold T47
  have hn := F.1
  cases a with
  | none =>
    have : fs = [] := by
      rcases F.2 with ⟨h, _⟩ | ⟨_, _, _, _, _, h, _⟩
      · exact h
      · cases h
    subst this
    subst hn
    exact ⟨_, _, rfl, (Know.nil ok).accNil g.nx 76 2⟩
  | some ad =>
    show let g1 : Hp := g.add (.cells [] 76 .fix)
      _
    intro g1
    have S : Know g g1 [_] := ((Know.nil ok).add _).acc0 0 rfl g.nx (Nat.le_refl _) 76 2
    haveI := S.ft
    obtain ⟨a', n', c', h', e, hn', S⟩ := S.app 0 rfl (Nat.le_refl _) S.lo app64 ⟨_, _, _, rfl⟩ (FdsAt.src (SlAt.to g1 F)) (by rw [fvs_len]; omega) (fvs_one fs) (by omega) (by unfold big; omega)
    rw [Nat.zero_add] at hn'
    subst hn'
    exact ⟨a', _, _, h', e, _, _, rfl, S⟩
end
end Go.Proofs.YtngcjpkccnfjiaaGreatDoor
/- Contracts: pruned. -/
namespace Go.Proofs.YtngcjpkccnfjiaaGreatDoor
set_option maxRecDepth 100000
open Go Go.Ev
section
variable {O : CallF} (hO : Oth O)
include hO
theorem lp53_end {g h : Hp} {a0 : Option Addr} {n0 c0 : Nat} {a1 : Option Addr} {n1 c1 : Nat} {a5 : Option Addr} {n5 c5 : Nat} {b7 : Nat} {k : Nat} (hk : k < 1000) {a21 : Option Addr} {n21 c21 : Nat} {RF : Rs} {vs : List Value} {own : Nat → Prop} {Lk : List Cl} (hLk : Lk.length = k) {cl : Cl} {Q : Value → Hp → Prop}
    (S : Know g h [ob b7 (.cells [.int .i64 cl.kind, .slice a21 n21 c21] 72 .fix), RF, acc g.nx 72 2 a5 n5 c5 vs, clo own (fun h => Nst h vs Lk)]) (hRF : ∀ h' : Hp, h.nx ≤ h'.nx → RF.P h' → FdsAt h' a21 n21 cl.fs)
    (next : ∀ (h : Hp) (a : Option Addr) (n c : Nat) (own' : Nat → Prop), Know g h [acc g.nx 72 2 a n c (vs ++ [.int .i64 cl.kind, .slice a21 n21 c21]), clo own' (fun h => Nst h (vs ++ [.int .i64 cl.kind, .slice a21 n21 c21]) (Lk ++ [cl]))] → I53_0 O Q a0 n0 c0 a1 n1 c1 a n c (Int.ofNat (k + 1)) h) :
    I53_1 O Q a0 n0 c0 a1 n1 c1 a5 n5 c5 b7 0 (Int.ofNat k) a21 n21 c21 (Int.ofNat n21) (Int.ofNat n21) h := by
  have _ := hO
  refine I53_1.of (hh := ?_) ..
  unfold T53_1
  refine vcond_f (by rw [ltI_nat]; exact blt_f (by omega)) ⟨_, _, _, _, S.rd 0 rfl rfl rfl, ?_⟩
  intro g247
  have S : Know g g247 [_, _, _, _, _] := S.add _
  have hn : n5 = k := by
    have A : AccE g247 g.nx 72 2 a5 n5 c5 vs := S.get 3 rfl
    have N : Nst g247 vs Lk := clo.get (S.get 4 rfl)
    have := (cls_of A N).1
    omega
  obtain ⟨a', n', c', h', e, hn', S⟩ := S.app 3 rfl (Nat.le_refl _) S.lo app63 ⟨_, _, _, rfl⟩ (src_get (n := 1) (c := 1) (esz := 2) (off := 0) (S.rd 0 rfl (r := [.int .i64 cl.kind, .slice a21 n21 c21]) rfl rfl)) rfl rfl (by omega) (by unfold big; omega)
  have S : Know g h' [_, _, _, _, _] := S
  have m' : h.nx < h'.nx := (S.orng 0 rfl).2
  refine ⟨_, _, _, _, e, ?_⟩
  rw [wrap_succ (by omega)]
  have S : Know g h' [_, _, _] := S.sel [4, 2, 3] (by decide) rfl
  have S : Know g h' [_, _] := S.merge2 (fun h => Nst h (vs ++ [.int .i64 cl.kind, .slice a21 n21 c21]) (Lk ++ [cl])) fun h2 hn2 N A => (clo.get N).snoc (c := cl) (hRF h2 (by omega) A)
  exact next h' a' n' c' _ (S.sel [1, 0] (by decide) rfl)
theorem lp53_1 {g : Hp} {a0 : Option Addr} {n0 c0 : Nat} {a1 : Option Addr} {n1 c1 : Nat} {a5 : Option Addr} {n5 c5 : Nat} {b7 oF : Nat} {k : Nat} (hk : k < 1000) {n21 c21 : Nat} {vs : List Value} {own : Nat → Prop} {Lk : List Cl} (hLk : Lk.length = k) {kd : Int} {fs : List Fd} (hfs : ∀ f ∈ fs, FdN f) (hn21 : n21 = fs.length) (lfs : fs.length ≤ 1000) {kept : List Nat} (X : IntsAt g a1 n1 (kept.map Int.ofNat)) (lk : kept.length < 100000) {Q : Value → Hp → Prop}
    (next : ∀ (h : Hp) (a : Option Addr) (n c : Nat) (own' : Nat → Prop), Know g h [acc g.nx 72 2 a n c (vs ++ [.int .i64 kd, .slice (some ⟨oF, 0, none⟩) n21 c21]), clo own' (fun h => Nst h (vs ++ [.int .i64 kd, .slice (some ⟨oF, 0, none⟩) n21 c21]) (Lk ++ [⟨kd, fs.map (prunedF kept kd)⟩]))] → I53_0 O Q a0 n0 c0 a1 n1 c1 a n c (Int.ofNat (k + 1)) h) :
    ∀ (d j : Nat) (h : Hp), j + d = fs.length → Know g h [ob b7 (.cells [.int .i64 kd, .slice (some ⟨oF, 0, none⟩) n21 c21] 72 .fix), ob oF (.cells (fvs ((fs.take j).map (prunedF kept kd) ++ fs.drop j)) 76 .grow), acc g.nx 72 2 a5 n5 c5 vs, clo own (fun h => Nst h vs Lk)] →
      I53_1 O Q a0 n0 c0 a1 n1 c1 a5 n5 c5 b7 0 (Int.ofNat k) (some ⟨oF, 0, none⟩) n21 c21 (Int.ofNat n21) (Int.ofNat j) h := by
  intro d
  induction d with
  | zero =>
    intro j h hj S
    have ej : j = n21 := by omega
    subst ej
    have e1 : (fs.take j).map (prunedF kept kd) ++ fs.drop j = fs.map (prunedF kept kd) := by rw [List.take_of_length_le (by omega), List.drop_of_length_le (by omega), List.append_nil]
    rw [e1] at S
    have ho := S.orng 1 rfl
    refine lp53_end hO hk hLk (cl := ⟨kd, fs.map (prunedF kept kd)⟩) (S.sel [0, 1, 2, 3] (by decide) rfl) (fun h' hn' hP => ?_) next
    refine ⟨by rw [List.length_map]; exact hn21, .inr ⟨oF, 0, _, _, _, rfl, by omega, hP, by rw [fvs_len]; show 0 + (fs.map (prunedF kept kd)).length * 2 ≤ (fs.map (prunedF kept kd)).length * 2; omega, fun i hi => ?_⟩⟩
    exact flatMap_part fdE_len (fs.map (prunedF kept kd)) i hi |>.trans rfl |> fun e => by rw [Nat.zero_add]; exact e
  | succ d ih =>
    intro j h hj S
    have hj' : j < fs.length := by omega
    haveI := S.ft
    have hcur : ((fs.take j).map (prunedF kept kd) ++ fs.drop j).length = fs.length := by rw [List.length_append, List.length_map, List.length_take, List.length_drop]; omega
    have hget : ((fs.take j).map (prunedF kept kd) ++ fs.drop j)[j]? = some fs[j] := by
      rw [List.getElem?_append_right (by rw [List.length_map, List.length_take]; omega), List.length_map, List.length_take, List.getElem?_drop, show j + (j - min j fs.length) = j by omega, List.getElem?_eq_getElem hj']
    have hrd : ((fvs ((fs.take j).map (prunedF kept kd) ++ fs.drop j)).drop (0 + j * 2)).take 2 = [.int .i64 fs[j].n, .bool fs[j].refs] := by
      rw [Nat.zero_add]
      have := flatMap_part fdE_len ((fs.take j).map (prunedF kept kd) ++ fs.drop j) j (by omega)
      rw [this]
      have e : ((fs.take j).map (prunedF kept kd) ++ fs.drop j)[j]'(by omega) = fs[j] := by
        have := hget
        rw [List.getElem?_eq_getElem (by omega)] at this
        exact Option.some.inj this
      rw [e]; rfl
    have hstep : ∀ v : Fd, ((fs.take j).map (prunedF kept kd) ++ fs.drop j).set j v = (fs.take j).map (prunedF kept kd) ++ v :: fs.drop (j + 1) := fun v => by
      rw [List.set_append, if_neg (by rw [List.length_map, List.length_take]; omega), List.length_map, List.length_take, show j - min j fs.length = 0 by omega, List.drop_eq_getElem_cons hj']
      rfl
    have hnx : (fs.take (j + 1)).map (prunedF kept kd) ++ fs.drop (j + 1) = (fs.take j).map (prunedF kept kd) ++ prunedF kept kd fs[j] :: fs.drop (j + 1) := by
      rw [List.take_add_one, List.getElem?_eq_getElem hj', List.map_append, List.append_assoc]; rfl
    have same : prunedF kept kd fs[j] = fs[j] → (fs.take j).map (prunedF kept kd) ++ fs.drop j = (fs.take (j + 1)).map (prunedF kept kd) ++ fs.drop (j + 1) := fun e => by
      rw [hnx, e, List.drop_eq_getElem_cons hj']
    have hb : Nat.ble (0 + j * 2 + 2) (fvs ((fs.take j).map (prunedF kept kd) ++ fs.drop j)).length = true := ble_t (by rw [fvs_len, hcur]; omega)
    refine I53_1.of (hh := ?_) ..
    unfold T53_1
    refine vcond_t (by rw [ltI_nat]; exact blt_t (by omega)) (isNat_i (isAddr_i (vreq_t (blt_t (by omega)) ⟨_, _, S.rd 1 rfl hrd hb, ?_⟩)))
    intro g206
    have S : Know g g206 [_, _, _, _, _] := S.add _
    refine vreq_t (S.cw 0 rfl (by decide) rfl rfl) ?_
    intro g207
    have S : Know g g207 [_, _, _, _, _] := S.wr 0 rfl (by decide) rfl rfl
    have S' : Know g g207 [_, _, _, _] := S.sub _ (List.sublist_cons_self ..)
    rw [wrap_succ (by omega)]
    refine ⟨_, S.rd 0 rfl rfl rfl, ?_⟩
    cases hr : fs[j].refs with
    | false =>
      have e : prunedF kept kd fs[j] = fs[j] := by unfold prunedF; rw [hr]; rfl
      rw [same e] at S'
      exact vcond_f rfl (ih (j + 1) g207 (by omega) S')
    | true =>
      haveI := S.ft
      refine vcond_t rfl ⟨_, S.rd 0 rfl rfl rfl, _, _, ct109 hO (X.to g207) (by rw [List.length_map]; omega) fs[j].n, ?_⟩
      rw [hfs _ (List.getElem_mem hj') hr, contains_ofNat]
      cases hc : kept.contains fs[j].n.toNat with
      | true =>
        have e : prunedF kept kd fs[j] = fs[j] := by unfold prunedF; rw [hr, hc]; rfl
        rw [same e] at S'
        exact vcond_f rfl (ih (j + 1) g207 (by omega) S')
      | false =>
        refine vcond_t rfl ⟨_, S.rd 1 rfl rfl rfl, vcond_split (fun h5 => ?_) fun h5 => ?_⟩
        · have h5 := eq_of_t h5
          have e : prunedF kept kd fs[j] = ⟨0, false⟩ := by unfold prunedF; rw [hr, hc, h5]; rfl
          have hb2 : Nat.ble (0 + j * 2 + [Value.int .i64 0, .bool false].length) (fvs ((fs.take j).map (prunedF kept kd) ++ fs.drop j)).length = true := hb
          refine ⟨_, _, _, S'.rd 0 rfl rfl rfl, isNat_i (isAddr_i (vreq_t (blt_t (by omega)) (vreq_t (S'.cw 1 rfl (by decide) hb2 rfl) ?_)))⟩
          intro g219
          have S2 : Know g g219 [_, _, _, _] := S'.wr 1 rfl (by decide) hb2 rfl
          rw [show [Value.int .i64 0, Value.bool false] = fdE ⟨0, false⟩ from rfl, fvs_set _ _ _ (by omega), hstep, ← e, ← hnx] at S2
          exact ih (j + 1) g219 (by omega) S2
        · have h5 := ne_of_f h5
          have e : prunedF kept kd fs[j] = fs[j] := by
            unfold prunedF
            rw [hr, hc, show (kd == 5) = false from by rw [beq_eq_false_iff_ne]; exact h5]; rfl
          rw [same e] at S'
          exact ih (j + 1) g207 (by omega) S'
/-- 'pruned', as a list that grows. -/
theorem ct53g {g : Hp} (ok : g.Ok) {a0 : Option Addr} {n0 c0 : Nat} {a1 : Option Addr} {n1 c1 : Nat} {L : List Cl} (C : ClsAt g a0 n0 L) (hN : L.length ≤ 1000) (hL : ∀ i, i < L.length → RefsIn L.length (clAt L i).fs ∧ (clAt L i).fs.length ≤ 1000) {kept : List Nat} (X : IntsAt g a1 n1 (kept.map Int.ofNat)) (lk : kept.length < 100000) :
    Ret Tryz.prog O 53 [.slice a0 n0 c0, .slice a1 n1 c1] g fun v h' => ∃ a n c vs own, v = .slice a n c ∧ Know g h' [acc g.nx 72 2 a n c vs, clo own (fun h => Nst h vs (prunedL L kept))] := by
  refine rk53 (hO := hO _ _ _ (by decide)) (hh := ?_) ..
  unfold T53
  have hn0 := C.1
  have lp : ∀ (d k : Nat) (h : Hp) (a : Option Addr) (n c : Nat) (vs : List Value) (own : Nat → Prop), k + d = L.length → Know g h [acc g.nx 72 2 a n c vs, clo own (fun h => Nst h vs ((L.take k).map (prunedC kept)))] →
      I53_0 O (fun v h' => ∃ a n c vs own, v = .slice a n c ∧ Know g h' [acc g.nx 72 2 a n c vs, clo own (fun h => Nst h vs (prunedL L kept))]) a0 n0 c0 a1 n1 c1 a n c (Int.ofNat k) h := by
    intro d
    induction d with
    | zero =>
      intro k h a n c vs own hk S
      refine I53_0.of (hh := ?_) ..
      unfold T53_0
      refine vcond_f (by rw [ltI_nat]; exact blt_f (by omega)) ?_
      have : L.take k = L := List.take_of_length_le (by omega)
      rw [this] at S
      exact ⟨a, n, c, vs, _, rfl, S⟩
    | succ d ih =>
      intro k h a n c vs own hk S
      have hk' : k < L.length := by omega
      haveI := S.ft
      obtain ⟨hL1, hL2⟩ := hL k hk'
      have hcl : L[k] = clAt L k := by simp [clAt, List.getD, List.getElem?_eq_getElem hk']
      have etake : (L.take (k + 1)).map (prunedC kept) = (L.take k).map (prunedC kept) ++ [prunedC kept (clAt L k)] := by
        rw [List.take_add_one, List.getElem?_eq_getElem hk', List.map_append, hcl]; rfl
      have lLk : ((L.take k).map (prunedC kept)).length = k := by rw [List.length_map, List.length_take]; omega
      refine I53_0.of (hh := ?_) ..
      unfold T53_0
      refine vcond_t (by rw [ltI_nat]; exact blt_t (by omega)) (isNat_i (C.rd (h := h) (k := k) hk' fun a' n' c' F => ?_))
      rw [hcl] at F ⊢
      have hF := F.1
      intro g108
      have S : Know g g108 [_, _, _] := S.add _
      refine vreq_t (S.cw 0 rfl (by decide) rfl rfl) ?_
      intro g109
      have S : Know g g109 [_, _, _] := S.wr 0 rfl (by decide) rfl rfl
      haveI := S.ft
      obtain ⟨v, h116, e116, a2, c2, rfl, T⟩ := ct47 hO S.ok (F.to g109) (by omega) (c := c')
      refine ⟨_, _, _, S.rd 0 rfl rfl rfl, _, _, _, _, e116, ?_⟩
      have S : Know g h116 [_, _, _, _] := S.comp T
      refine vreq_t (S.cw 1 rfl (by decide) rfl rfl) ?_
      intro g117
      have S : Know g g117 [_, _, _, _] := S.wr 1 rfl (by decide) rfl rfl
      refine ⟨_, _, _, S.rd 1 rfl rfl rfl, ?_⟩
      have nxt : ∀ (a21 : Option Addr) (c21 : Nat) (h : Hp) (a : Option Addr) (n c : Nat) (own' : Nat → Prop), Know g h [acc g.nx 72 2 a n c (vs ++ [.int .i64 (clAt L k).kind, .slice a21 n' c21]), clo own' (fun h => Nst h (vs ++ [.int .i64 (clAt L k).kind, .slice a21 n' c21]) ((L.take k).map (prunedC kept) ++ [⟨(clAt L k).kind, (clAt L k).fs.map (prunedF kept (clAt L k).kind)⟩]))] → I53_0 O (fun v h' => ∃ a n c vs own, v = .slice a n c ∧ Know g h' [acc g.nx 72 2 a n c vs, clo own (fun h => Nst h vs (prunedL L kept))]) a0 n0 c0 a1 n1 c1 a n c (Int.ofNat (k + 1)) h := fun a21 c21 h a n c own' S => by
        refine ih (k + 1) h a n c (vs ++ [.int .i64 (clAt L k).kind, .slice a21 n' c21]) own' (by omega) ?_
        rw [etake]
        exact S
      by_cases hz : (clAt L k).fs = []
      · have hn' : n' = 0 := by rw [hF, hz]; rfl
        subst hn'
        have S : Know g g117 [_, _, _, _] := S.sel [1, 0, 2, 3] (by decide) rfl
        refine lp53_end hO (by omega) lLk (cl := ⟨(clAt L k).kind, (clAt L k).fs.map (prunedF kept (clAt L k).kind)⟩) S (fun h' _ hP => ?_) (nxt a2 c2)
        have := AccE.slAt fdE_len (by decide) hP
        rw [hz] at this ⊢
        exact this
      · obtain ⟨oF, rfl, rfl, _, _, S⟩ := S.accOb 0 rfl (fun h => hz (by
          have := congrArg List.length h
          rw [fvs_len, List.length_nil] at this
          exact List.length_eq_zero_iff.1 (by omega)))
        have S : Know g g117 [_, _, _, _] := S.sel [1, 0, 2, 3] (by decide) rfl
        exact lp53_1 hO (by omega) lLk (kd := (clAt L k).kind) (fs := (clAt L k).fs) (fun f hf => hL1.fd hf) hF hL2 X lk (nxt (some ⟨oF, 0, none⟩) unk) (clAt L k).fs.length 0 g117 (by omega) S
  have S0 : Know g g [_] := (Know.nil ok).push (r' := clo (fun _ => False) (fun h => Nst h [] ((L.take 0).map (prunedC kept)))) (Kp.refl _ _) (clo.loc _ _) (fun _ _ _ => trivial) fun _ h => h.elim
  have S0 : Know g g [_, _] := S0.accNil g.nx 72 2
  exact lp L.length 0 g none 0 0 [] _ (by omega) S0
end
end Go.Proofs.YtngcjpkccnfjiaaGreatDoor
/- Plain law: a heap that is laid: its words are small; a field is changed. -/
namespace Go.Proofs.YtngcjpkccnfjiaaGreatDoor
open Go Go.Ev
def Small (x : Int) : Prop := -2000000000 ≤ x ∧ x ≤ 2000000001
theorem Small.in64 {x : Int} (h : Small x) : In64 x := ⟨by have := h.1; omega, by have := h.2; omega⟩
theorem letterB_rng {n : Int} (h : letterB n = true) : 32 ≤ n ∧ n ≤ 126 := by
  unfold letterB at h
  simp only [Bool.and_eq_true, decide_eq_true_eq] at h
  exact ⟨h.1.1.1, h.1.1.2⟩
theorem wd_small {o : List Nat} {k : Int} {f : Fd} (hf : FdOk o k f) {at_ : Nat → Nat} (ha : ∀ i ∈ o, at_ i ≤ 1000000) : Small (wd at_ f) := by
  unfold FdOk at hf
  split at hf
  · rw [wd_n hf.1]; have := letterB_rng hf.2; exact ⟨by omega, by omega⟩
  · split at hf
    · rw [wd_n hf.1]; rcases hf.2 with h | h <;> rw [h] <;> exact ⟨by decide, by decide⟩
    · rcases hf with ⟨h, j, hj, e⟩ | ⟨h, h2⟩
      · rw [wd_r h, e]
        have := ha j hj
        show Small (2 * (at_ (Int.toNat (j : Int)) : Int))
        rw [Int.toNat_natCast]
        exact ⟨by omega, by omega⟩
      · rw [wd_n h]
        rcases h2 with h2 | ⟨_, h3, h4⟩
        · rw [h2]; exact ⟨by decide, by decide⟩
        · exact ⟨by omega, by omega⟩
section
variable {L : List Cl} {o : List Nat} {free : Nat} (G : Gr L o) (hfit : layT L o ≤ 1000)
include G hfit
theorem atC_le : ∀ i ∈ o, atC L o i ≤ 1000000 := fun i hi => by have := lay_pos G hi; omega
theorem layW_small : ∀ x ∈ layW L o free, Small x := fun x hx => by
  unfold layW at hx
  rcases List.mem_cons.1 hx with rfl | hx
  · exact ⟨by decide, by decide⟩
  · rcases List.mem_append.1 hx with hx | hx
    · obtain ⟨i, hi, hx⟩ := List.mem_flatMap.1 hx
      have hk := G.kind i hi
      have hs := G.size i hi
      unfold cellC at hx
      rcases List.mem_cons.1 hx with rfl | hx
      · unfold hdC; exact ⟨by omega, by omega⟩
      · obtain ⟨f, hf, rfl⟩ := List.mem_map.1 hx
        exact wd_small (G.fok i hi f hf) (atC_le G hfit)
    · rw [List.mem_replicate] at hx; rw [hx.2]; exact ⟨by decide, by decide⟩
theorem layR_small {roots : List Fd} (hr : ∀ f ∈ roots, FdOk o 1 f) : ∀ x ∈ layR L o roots, Small x := fun x hx => by
  obtain ⟨f, hf, rfl⟩ := List.mem_map.1 hx
  exact wd_small (hr f hf) (atC_le G hfit)
end
end Go.Proofs.YtngcjpkccnfjiaaGreatDoor
/- CollectWritten: its law. -/
namespace Go.Proofs.YtngcjpkccnfjiaaGreatDoor
set_option maxRecDepth 100000
open Go Go.Ev
theorem Tb.grd {h : Hp} (t : Tb h) (l : List Nat) : Tb (h.grd l) := ⟨t.1, t.2⟩
theorem at_of {y : Hp} {oA : Nat} {L : List Cl} {o : List Nat} (hg : y.get oA = some (.cells (iv (atL L o)) 3 .fix)) (ho : oA < y.nx) : IntsAt y (some ⟨oA, 0, none⟩) L.length (atL L o) := by
  have := intsCells hg ho
  rw [atL_len] at this; exact this
section
variable {v0 : Array Value} {xs : List Nat} (B : Bytes v0 xs)
include B
theorem pFit : layT (drawnL xs) (pO xs) + pFree xs ≤ 61 ∧ pFree xs < 16 ∧ 1 ≤ layT (drawnL xs) (pO xs) := by
  have : layT (drawnL xs) (pO xs) ≤ 46 := drawn_fit B
  have : pFree xs < 16 := Nat.mod_lt _ (by decide)
  have : 1 ≤ layT (drawnL xs) (pO xs) := by unfold layT; omega
  omega
theorem pcheck : checkP (layW (drawnL xs) (pO xs) (pFree xs)) (Int.ofNat (layT (drawnL xs) (pO xs))) (layR (drawnL xs) (pO xs) (drawnR xs)) = some ((pO xs).map (atC (drawnL xs) (pO xs))) := by
  have h2 := drawn_roots B
  have := pFit B
  exact lay_check (drawn_gr B) h2.1 (by omega) (by omega)
theorem made_HA {y : Hp} {oW lo : Nat} {ar : Option Addr} {nr cr : Nat} (hW : y.get oW = some (.cells (iv (layW (drawnL xs) (pO xs) (pFree xs))) 3 .fix)) (ho : oW < y.nx) (hR : AccE y lo 3 1 ar nr cr (iv (layR (drawnL xs) (pO xs) (drawnR xs)))) : HA y (some ⟨oW, 0, none⟩) (layT (drawnL xs) (pO xs) + pFree xs) (layT (drawnL xs) (pO xs) + pFree xs) (layW (drawnL xs) (pO xs) (pFree xs)) ar nr cr (layR (drawnL xs) (pO xs) (drawnR xs)) := by
  have h2 := drawn_roots B
  have hf := pFit B
  have hl := layW_length (drawnL xs) (pO xs) (pFree xs)
  refine ⟨SI.cells hW ho hl.symm (by omega), SI.accE hR (by unfold layR; rw [List.length_map]; omega), fun x hx => (layW_small (drawn_gr B) (by omega) x hx).in64, fun x hx => (layR_small (drawn_gr B) (by omega) h2.1 x hx).in64⟩
end
end Go.Proofs.YtngcjpkccnfjiaaGreatDoor
/- CollectMoves of layer 15: its law, by the contracts of what it calls. -/
namespace Go.Proofs.YtngcjpkccnfjiaaGreatDoor
set_option maxRecDepth 100000
open Go Go.Ev
end Go.Proofs.YtngcjpkccnfjiaaGreatDoor
/- Plain law and helpers for CollectKept. -/
namespace Go.Proofs.YtngcjpkccnfjiaaGreatDoor
set_option maxRecDepth 100000
open Go Go.Ev
theorem layW_app (L : List Cl) (o : List Nat) (n : Nat) : layW L o 0 ++ List.replicate n 0 = layW L o n := by
  unfold layW; simp
theorem fdok_false {o : List Nat} {k : Int} {f : Fd} (h : FdOk o k f) (hk : k = 3 ∨ k = 4) : f.refs = false := by
  unfold FdOk at h
  split at h
  · exact h.1
  · split at h
    · exact h.1
    · omega
/-- What is kept, without what weak cells have lost, may be laid. -/
theorem pruned_lay {L : List Cl} {o : List Nat} (G : Gr L o) (hoL : ∀ i ∈ o, i < L.length) (lL : L.length ≤ 1000) {kept : List Nat} (hn : kept.Nodup) (hk : ∀ i ∈ kept, i ∈ o) (hc : ∀ i ∈ kept, ∀ f ∈ strongC L i, f.refs = true → f.n.toNat ∈ kept) {roots : List Fd} (hr0 : ∀ f ∈ roots, FdOk o 1 f) (hr : ∀ f ∈ roots, f.refs = true → f.n.toNat ∈ kept) (lr : roots.length ≤ 1000) (hT : layT (prunedL L kept) kept ≤ 1000) : LayOk (prunedL L kept) kept roots 0 := by
  refine ⟨hn, fun i hi => by unfold prunedL; rw [List.length_map]; exact hoL i (hk i hi), fun i hi f hf hrf => ?_, fun f hf hrf => ⟨(FdOk.mem G (hr0 f hf) hrf).2, hr f hf hrf⟩, fun i hi => ?_, by unfold prunedL; rw [List.length_map]; exact lL, lr, by omega⟩
  · rw [pruned_at] at hf
    obtain ⟨f0, hf0, rfl⟩ := List.mem_map.1 hf
    have hok := G.fok i (hk i hi) f0 hf0
    by_cases hp : (f0.refs && !(kept.contains f0.n.toNat) && (clAt L i).kind == 5) = true
    · have e : prunedF kept (clAt L i).kind f0 = ⟨0, false⟩ := if_pos hp
      rw [e] at hrf; cases hrf
    · have e : prunedF kept (clAt L i).kind f0 = f0 := if_neg hp
      rw [e] at hrf ⊢
      refine ⟨(FdOk.mem G hok hrf).2, ?_⟩
      have hkd := G.kind i (hk i hi)
      by_cases h5 : (clAt L i).kind = 5
      · rw [hrf, h5] at hp
        simp only [Bool.true_and, Bool.and_eq_true, Bool.not_eq_true', beq_self_eq_true, and_true, Bool.not_eq_false] at hp
        exact List.contains_iff_mem.1 hp
      · have h3 : (clAt L i).kind ≠ 3 := fun h => by rw [fdok_false hok (.inl h)] at hrf; cases hrf
        have h4 : (clAt L i).kind ≠ 4 := fun h => by rw [fdok_false hok (.inr h)] at hrf; cases hrf
        refine hc i hi f0 ?_ hrf
        unfold strongC
        have : keepB (clAt L i).kind = true := by
          have : (clAt L i).kind = 1 ∨ (clAt L i).kind = 2 := by omega
          rcases this with h | h <;> rw [h] <;> rfl
        rw [this, if_pos rfl]; exact hf0
  · rw [pruned_at]
    have := G.kind i (hk i hi)
    show 0 ≤ (clAt L i).kind ∧ (clAt L i).kind ≤ 10
    omega
/-- References are to cells. -/
theorem Gr.refsIn {L : List Cl} {o : List Nat} (G : Gr L o) (hoL : ∀ i ∈ o, i < L.length) {i : Nat} (hi : i ∈ o) : RefsIn L.length (clAt L i).fs ∧ (clAt L i).fs.length ≤ 1000 := by
  refine ⟨fun f hf hr => ?_, by have := G.size i hi; omega⟩
  obtain ⟨a, b⟩ := FdOk.mem G (G.fok i hi f hf) hr
  exact ⟨b, hoL _ a⟩
theorem fdok_refsIn {L : List Cl} {o : List Nat} (G : Gr L o) (hoL : ∀ i ∈ o, i < L.length) {fs : List Fd} (h : ∀ f ∈ fs, FdOk o 1 f) : RefsIn L.length fs := fun f hf hr => by
  obtain ⟨a, b⟩ := FdOk.mem G (h f hf) hr
  exact ⟨b, hoL _ a⟩
theorem info3 : ∃ info z, Tryz.prog.info? 3 = some info ∧ info.zero = some z ∧ info.size = 1 ∧ info.bytes = 8 ∧ z.cells.toList = [.int .i64 0] := by
  have h : (match Tryz.prog.info? 3 with
    | some info => (match info.zero with
      | some (.int .i64 x) => eqI x 0 && (Nat.beq info.size 1 && Nat.beq info.bytes 8)
      | _ => false)
    | none => false) = true := by kernel_rfl
  split at h
  · rename_i info hi
    split at h
    · rename_i x hz
      rw [Bool.and_eq_true, Bool.and_eq_true] at h
      exact ⟨info, _, hi, hz, Nat.eq_of_beq_eq_true h.2.1, Nat.eq_of_beq_eq_true h.2.2, by rw [eq_of_t h.1]; rfl⟩
    · cases h
  · cases h
/-- Zeros are appended. -/
theorem app_zeros {h0 g : Hp} {L : List Rs} (S : Know h0 g L) (i : Nat) {o : Nat} {W : List Int} (hi : L[i]? = some (ob o (.cells (iv W) 3 .fix))) (n : Nat) (hl : W.length + n < 1000000) :
    ∃ a' c' h', appendV Tryz.prog g 22 3 (.slice (some ⟨o, 0, none⟩) W.length W.length) (.int .i64 (Int.ofNat n)) = some (.slice a' (W.length + n) c', h') ∧ Know h0 h' (L.set i (slr a' (W.length + n) c' (W ++ List.replicate n 0))) := by
  have hu : unk = 18446744073709551616 := rfl
  have hg := S.obj i hi
  have ho := S.orng i hi
  obtain ⟨info, z, e1, e2, e3, e4, e5⟩ := info3
  have hz : z.cells.size = 1 := by rw [← Array.length_toList, e5]; rfl
  unfold appendV
  rw [el22]
  simp only [bind, Option.bind_some, e1, e2, need, e3, hz, e5]
  show ∃ a' c' h', ((bif (!(Nat.beq 1 0) && Nat.beq 1 1 && [Value.int .i64 0].all (fun v => flat v && one v)) then some () else none).bind _) = _ ∧ _
  have e6 : (!(Nat.beq 1 0) && Nat.beq 1 1 && [Value.int .i64 0].all (fun v => flat v && one v)) = true := rfl
  simp only [e6, cond_true, Option.bind_some]
  have hsrc : appSrc Tryz.prog g info z 3 (.int .i64 (Int.ofNat n)) = some (iv (List.replicate n 0), n) := by
    unfold appSrc
    rw [Tryz.underlying3]
    simp only [e4, e5]
    have hb : (Nat.ble (n * 8) 281474976710656 && Nat.blt n big) = true := by rw [ble_t (by omega), blt_t (by unfold big; omega)]; rfl
    rw [hb, cond_true]
    congr 2
    have : ∀ k, List.flatten (List.replicate k [Value.int .i64 0]) = iv (List.replicate k 0) := by
      intro k
      induction k with
      | zero => rfl
      | succ k ih => rw [List.replicate_succ, List.flatten_cons, ih, List.replicate_succ]; rfl
    exact this n
  rw [hsrc]
  simp only [Option.bind_some, iv_one, cond_true]
  rcases Nat.eq_zero_or_pos n with rfl | hn
  · refine ⟨some ⟨o, 0, none⟩, W.length, g, ?_, ?_⟩
    · show (bif Nat.ble W.length W.length then some _ else none) = _
      rw [ble_t (Nat.le_refl _)]; rfl
    · rw [List.replicate_zero, List.append_nil, Nat.add_zero]
      exact S.upd i hi (Ch.refl _ g) (slr.loc _ _ _ _) (SI.cells hg ho.2 rfl (by omega)) fun b ⟨off, hb⟩ => .inl (by injection hb with hb; injection hb with hb; exact hb.symm)
  · have hb0 : Nat.beq n 0 = false := by rw [Bool.eq_false_iff]; intro hh; have := Nat.eq_of_beq_eq_true hh; omega
    have hbu : Nat.beq W.length unk = false := by rw [Bool.eq_false_iff]; intro hh; have := Nat.eq_of_beq_eq_true hh; omega
    have hfit : Nat.ble (W.length + n) W.length = false := by rw [Bool.eq_false_iff]; intro hh; have := Nat.le_of_ble_eq_true hh; omega
    have hrd : readAt g o 0 (W.length * 1) = some (iv W) := by
      rw [Nat.mul_one, readAt_get hg (by rw [List.length_map]; omega), List.drop_zero, List.take_of_length_le (by rw [List.length_map]; omega)]
    have hnew : (Nat.ble ((W.length + n + (W.length + n)) * 8) 281474976710656 && Nat.blt (W.length + n) big) = true := by rw [ble_t (by omega), blt_t (by unfold big; omega)]; rfl
    refine ⟨some ⟨g.nx, 0, none⟩, unk, g.add (.cells (iv W ++ iv (List.replicate n 0)) 3 .grow), ?_, ?_⟩
    · simp only [hb0, cond_false, appSome, hg, hbu, hfit, hrd, Option.bind_some, appNew, e4, hnew, cond_true]
    · have hc : iv W ++ iv (List.replicate n 0) = iv (W ++ List.replicate n 0) := by unfold iv; rw [List.map_append]
      rw [hc]
      have lw : (W ++ List.replicate n 0).length = W.length + n := by rw [List.length_append, List.length_replicate]
      refine S.upd i hi (Ch.kp ((Kp.refl _ g).add (Nat.le_refl _) _)) (slr.loc _ _ _ _) ?_ fun b ⟨off, hb⟩ => .inr (by injection hb with hb; injection hb with hb; subst hb; exact ⟨Nat.le_refl _, Nat.lt_succ_self _⟩)
      have := SI.own (h := g.add (.cells (iv (W ++ List.replicate n 0)) 3 .grow)) (o := g.nx) (cw := unk) (W := W ++ List.replicate n 0) (get_add_same ..) (Nat.lt_succ_self _) (.inr ⟨rfl, rfl⟩) (by omega)
      rw [lw] at this
      exact this
end Go.Proofs.YtngcjpkccnfjiaaGreatDoor
/- CollectMakes: its law. -/
namespace Go.Proofs.YtngcjpkccnfjiaaGreatDoor
set_option maxRecDepth 100000
open Go Go.Ev
end Go.Proofs.YtngcjpkccnfjiaaGreatDoor
/- Plain law for CollectRoom: a cell more is laid. -/
namespace Go.Proofs.YtngcjpkccnfjiaaGreatDoor
open Go Go.Ev
theorem clAt_old {L : List Cl} {c : Cl} {i : Nat} (h : i < L.length) : clAt (L ++ [c]) i = clAt L i := by
  unfold clAt; rw [List.getD, List.getElem?_append_left h]; rfl
theorem clAt_new {L : List Cl} {c : Cl} : clAt (L ++ [c]) L.length = c := by
  unfold clAt; rw [List.getD, List.getElem?_append_right (Nat.le_refl _), Nat.sub_self]; rfl
theorem putAt_zs : ∀ (Y c : List Int) (z : Nat), c.length ≤ z → putAt (Y ++ List.replicate z 0) Y.length c = Y ++ c ++ List.replicate (z - c.length) 0 := by
  intro Y
  induction Y with
  | nil =>
    intro c
    induction c with
    | nil => intro z _; show putAt (List.replicate z 0) 0 [] = _; rw [putAt_nil]; rfl
    | cons x c ih =>
      intro z hz
      cases z with
      | zero => simp at hz
      | succ z =>
        show x :: putAt (List.replicate z 0) 0 c = x :: (c ++ List.replicate (z + 1 - (c.length + 1)) 0)
        have := ih z (by simpa using hz)
        rw [List.nil_append, List.length_nil, List.nil_append] at this
        rw [this, Nat.add_sub_add_right]
  | cons y Y ih => intro c z hz; show y :: putAt (Y ++ List.replicate z 0) Y.length c = y :: (Y ++ c ++ List.replicate (z - c.length) 0); rw [ih c z hz]
section
variable {L : List Cl} {kept : List Nat} {c : Cl} (hk : ∀ i ∈ kept, i < L.length) (hr : ∀ i ∈ kept, ∀ f ∈ (clAt L i).fs, f.refs = true → f.n.toNat ∈ kept) (hc : ∀ f ∈ c.fs, f.refs = true → f.n.toNat ∈ kept)
include hk
theorem more_sz : ∀ i ∈ kept, szC (L ++ [c]) i = szC L i := fun i hi => by unfold szC; rw [clAt_old (hk i hi)]
theorem more_at {i : Nat} (hi : i ∈ kept) : atC (L ++ [c]) (kept ++ [L.length]) i = atC L kept i := by
  unfold atC; rw [posS_pre hi]; exact posS_congr (more_sz hk)
theorem more_new : atC (L ++ [c]) (kept ++ [L.length]) L.length = layT L kept := by
  unfold atC layT
  rw [posS_at (fun h => Nat.lt_irrefl _ (hk _ h)), totS_congr (more_sz hk)]
theorem more_T : layT (L ++ [c]) (kept ++ [L.length]) = layT L kept + (1 + c.fs.length) := by
  rw [layT_snoc]
  unfold layT
  rw [totS_congr (more_sz hk)]
  show 1 + _ + (1 + (clAt (L ++ [c]) L.length).fs.length) = _
  rw [clAt_new]
theorem more_wd {f : Fd} (hf : f.refs = true → f.n.toNat ∈ kept) : wd (atC (L ++ [c]) (kept ++ [L.length])) f = wd (atC L kept) f := by
  cases hr : f.refs with
  | false => rw [wd_n hr, wd_n hr]
  | true => rw [wd_r hr, wd_r hr, more_at hk (hf hr)]
include hr hc
/-- The words with a cell more. -/
theorem more_W (z : Nat) (hz : 1 + c.fs.length ≤ z) : layW (L ++ [c]) (kept ++ [L.length]) (z - (1 + c.fs.length)) = layP (layW L kept z) (layT L kept) c.kind (c.fs.map (wd (atC L kept))) := by
  have e1 : kept.flatMap (cellC (L ++ [c]) (atC (L ++ [c]) (kept ++ [L.length]))) = kept.flatMap (cellC L (atC L kept)) := by
    have : ∀ (q : List Nat), (∀ i ∈ q, i ∈ kept) → q.flatMap (cellC (L ++ [c]) (atC (L ++ [c]) (kept ++ [L.length]))) = q.flatMap (cellC L (atC L kept)) := by
      intro q
      induction q with
      | nil => intro _; rfl
      | cons i q ih =>
        intro hq
        have hi := hq i (List.mem_cons_self ..)
        rw [List.flatMap_cons, List.flatMap_cons, ih fun j hj => hq j (List.mem_cons_of_mem _ hj)]
        congr 1
        unfold cellC
        rw [clAt_old (hk i hi)]
        congr 1
        exact List.map_congr_left fun f hf => more_wd hk (hr i hi f hf)
    exact this kept fun _ h => h
  have e2 : cellC (L ++ [c]) (atC (L ++ [c]) (kept ++ [L.length])) L.length = hdC c :: c.fs.map (wd (atC L kept)) := by
    unfold cellC
    rw [clAt_new]
    congr 1
    exact List.map_congr_left fun f hf => more_wd hk (hc f hf)
  unfold layP
  have e3 : layW L kept z = (0 :: kept.flatMap (cellC L (atC L kept))) ++ List.replicate z 0 := rfl
  have e4 : layT L kept = (0 :: kept.flatMap (cellC L (atC L kept))).length := by rw [List.length_cons, cells_length]; unfold layT; omega
  rw [e3, e4, putAt_zs _ _ _ (by rw [List.length_cons, List.length_map]; omega)]
  unfold layW
  rw [List.flatMap_append, e1, List.flatMap_cons, e2, List.flatMap_nil, List.append_nil, List.length_cons, List.length_map]
  have e5 : 8 * (c.fs.length : Int) + c.kind = hdC c := rfl
  rw [e5, show z - (c.fs.length + 1) = z - (1 + c.fs.length) by omega]
  simp
theorem more_lay {roots : List Fd} (K : LayOk L kept roots 0) (hckind : 0 ≤ c.kind ∧ c.kind ≤ 10) (hcn : ∀ f ∈ c.fs, FdN f) (lL : L.length ≤ 900) (fit : layT L kept + (1 + c.fs.length) ≤ 100000) : LayOk (L ++ [c]) (kept ++ [L.length]) roots 0 := by
  refine ⟨?_, fun i hi => ?_, fun i hi f hf hrf => ?_, fun f hf hrf => ?_, fun i hi => ?_, by rw [List.length_append]; show L.length + 1 ≤ _; omega, K.lr, by rw [more_T hk]; omega⟩
  · rw [List.nodup_append]
    exact ⟨K.nd, by simp, fun a ha b hb => by rw [List.mem_singleton.1 hb]; exact Nat.ne_of_lt (hk a ha)⟩
  · rw [List.length_append]
    rcases List.mem_append.1 hi with h | h
    · have := hk i h; show i < L.length + 1; omega
    · rw [List.mem_singleton.1 h]; exact Nat.lt_succ_self _
  · rcases List.mem_append.1 hi with h | h
    · rw [clAt_old (hk i h)] at hf
      exact ⟨(K.refs i h f hf hrf).1, List.mem_append.2 (.inl (hr i h f hf hrf))⟩
    · rw [List.mem_singleton.1 h, clAt_new] at hf
      exact ⟨hcn f hf hrf, List.mem_append.2 (.inl (hc f hf hrf))⟩
  · obtain ⟨a, b⟩ := K.roots f hf hrf
    exact ⟨a, List.mem_append.2 (.inl b)⟩
  · rcases List.mem_append.1 hi with h | h
    · rw [clAt_old (hk i h)]; exact K.kind i h
    · rw [List.mem_singleton.1 h, clAt_new]; exact hckind
end
theorem more_R {L : List Cl} {kept : List Nat} {c : Cl} (hk : ∀ i ∈ kept, i < L.length) {roots : List Fd} (hr : ∀ f ∈ roots, f.refs = true → f.n.toNat ∈ kept) : layR (L ++ [c]) (kept ++ [L.length]) roots = layR L kept roots := by
  unfold layR
  exact List.map_congr_left fun f hf => more_wd hk (hr f hf)
/-- What a pile's numbers say of a cell that is made. -/
def roomF (n x : Nat) : Fd := if 0 < n ∧ x % 2 = 1 then ⟨((x / 2 % n : Nat) : Int), true⟩ else ⟨2 * (x : Int) + 1, false⟩
theorem roomF_ok {n x : Nat} (hx : x < 256) {k : Int} (h3 : k ≠ 3) (h4 : k ≠ 4) : FdOk (List.range n) k (roomF n x) := by
  unfold FdOk
  rw [if_neg h3, if_neg h4]
  unfold roomF
  split
  · rename_i h
    exact .inl ⟨rfl, x / 2 % n, List.mem_range.2 (Nat.mod_lt _ h.1), rfl⟩
  · refine .inr ⟨rfl, .inr ⟨fun h0 => ?_, by show _ ≤ 2 * (x : Int) + 1; omega, by show 2 * (x : Int) + 1 ≤ _; omega⟩⟩
    have h0 : Int.tmod (2 * (x : Int) + 1) 2 = 0 := h0
    have := Int.mul_tdiv_add_tmod (2 * (x : Int) + 1) 2
    omega
def roomK (many : Nat) : Int := if many / 8 % 3 = 0 then 1 else if many / 8 % 3 = 1 then 2 else 5
theorem roomK_ok (many : Nat) : roomK many ≠ 3 ∧ roomK many ≠ 4 ∧ refB (roomK many) = true ∧ 1 ≤ roomK many ∧ roomK many ≤ 5 := by
  unfold roomK
  split
  · decide
  · split <;> decide
end Go.Proofs.YtngcjpkccnfjiaaGreatDoor
/- CollectKept: its law. -/
namespace Go.Proofs.YtngcjpkccnfjiaaGreatDoor
set_option maxRecDepth 100000
open Go Go.Ev
end Go.Proofs.YtngcjpkccnfjiaaGreatDoor
/- CollectWritten: its law, the whole. -/
namespace Go.Proofs.YtngcjpkccnfjiaaGreatDoor
set_option maxRecDepth 100000
open Go Go.Ev
theorem on0 {n : Nat} (h : 0 < n) : Int.ofNat n ≠ 0 := by have : Int.ofNat n = (n : Int) := rfl; omega
end Go.Proofs.YtngcjpkccnfjiaaGreatDoor
/- CollectRoom: what is made of numbers. -/
namespace Go.Proofs.YtngcjpkccnfjiaaGreatDoor
set_option maxRecDepth 100000
open Go Go.Ev
theorem und84' : Tryz.prog.underlying 84 = some (.array 6 5) := by kernel_rfl
theorem slice_arr6 {h : Hp} {b off s : Nat} (hs : s ≤ 6) : sliceV Tryz.prog h 84 (.pointer (some ⟨b, off, none⟩)) none (some (.int .i64 (Int.ofNat s))) none = some (.slice (some ⟨b, off, none⟩) s 6) := by
  unfold sliceV
  rw [und84']
  have hz : sz Tryz.prog 5 = some 1 := by kernel_rfl
  simp only [hz, bind, Option.bind_some, bounds_hi (n := 6) (vis := 6) (show s ≤ 6 by omega)]
  rw [blt_t (by have : unk = 18446744073709551616 := rfl; omega)]
  simp
section
variable {O : CallF} (hO : Oth O)
include hO
/-- The fields. -/
theorem lp10_0 {g : Hp} {v0 : Array Value} {z0 z1 z2 z3 z4 z5 z6 : Int} {b7 : Nat} {f7 : Nat} {a8 : Option Addr} {n c8 : Nat} {a9 : Option Addr} {n9 c9 : Nat} {a10 : Option Addr} {n10 c10 : Nat} {qs : List Nat} (hq : ∀ x ∈ qs, x < 256) (lq : qs.length = 6) {bq : Nat} {Rr : List Rs} {s : Nat} (hs : s ≤ 6) (_hn : n ≤ 9) {Q : Value → Hp → Prop}
    (next : ∀ (h : Hp) (a : Option Addr) (m c : Nat), Know g h (acc g.nx 76 2 a m c (fvs ((qs.take s).map (roomF n))) :: ob bq (.cells (bv qs) 84 .fix) :: Rr) → I10_0 O Q v0 z0 z1 z2 z3 z4 z5 z6 b7 f7 a8 n c8 a9 n9 c9 a10 n10 c10 a m c (some ⟨bq, 0, none⟩) s 6 (Int.ofNat s) (Int.ofNat s) h) :
    ∀ (d k : Nat) (h : Hp) (a : Option Addr) (m c : Nat), k + d = s → Know g h (acc g.nx 76 2 a m c (fvs ((qs.take k).map (roomF n))) :: ob bq (.cells (bv qs) 84 .fix) :: Rr) →
      I10_0 O Q v0 z0 z1 z2 z3 z4 z5 z6 b7 f7 a8 n c8 a9 n9 c9 a10 n10 c10 a m c (some ⟨bq, 0, none⟩) s 6 (Int.ofNat s) (Int.ofNat k) h := by
  have _ := hO
  intro d
  induction d with
  | zero =>
    intro k h a m c hk S
    have : k = s := by omega
    subst this
    exact next h a m c S
  | succ d ih =>
    intro k h a m c hk S
    have hkq : k < qs.length := by omega
    have hx := hq _ (List.getElem_mem hkq)
    have hm : m = k := by
      have A : AccE h g.nx 76 2 a m c _ := S.get 0 rfl
      have := (AccE.slAt fdE_len (by decide) A).1
      rw [List.length_map, List.length_take] at this
      omega
    have e2 : fvs ((qs.take (k + 1)).map (roomF n)) = fvs ((qs.take k).map (roomF n)) ++ [.int .i64 (roomF n qs[k]).n, .bool (roomF n qs[k]).refs] := by
      rw [List.take_add_one, List.getElem?_eq_getElem hkq, List.map_append]
      unfold fvs
      rw [List.flatMap_append]
      rfl
    have hr : ((bv qs).drop (0 + k * 1)).take 1 = [.int .u8 (Int.ofNat qs[k])] := by
      rw [show 0 + k * 1 = k by omega, bv_at hkq]
      simp [List.getD, List.getElem?_eq_getElem hkq]
    have hb : Nat.ble (0 + k * 1 + 1) (bv qs).length = true := ble_t (by rw [List.length_map]; omega)
    refine I10_0.of (hh := ?_) ..
    unfold T10_0
    refine vcond_t (by rw [ltI_nat]; exact blt_t (by omega)) (isNat_i (isAddr_i (vreq_t (blt_t (by omega)) ⟨_, S.rd 1 rfl hr hb, ?_⟩)))
    rw [wrapN (show qs[k] < 9223372036854775808 by omega), wrap_succ (by omega)]
    have odd : wrapF .i64 (wrapF .i64 (2 * Int.ofNat qs[k]) + 1) = 2 * (qs[k] : Int) + 1 := by
      have : Int.ofNat qs[k] = (qs[k] : Int) := rfl
      rw [this, wrap64 (n := 2 * (qs[k] : Int)) (by omega) (by omega), wrap64 (by omega) (by omega)]
    rw [odd]
    have go : ∀ fd : Fd, fd = roomF n qs[k] → ∃ a' m' c' h', appendV Tryz.prog (h.add (.cells [.int .i64 fd.n, .bool fd.refs] 76 .fix)) 64 64 (.slice a m c) (.slice (some ⟨h.nx, 0, none⟩) 1 1) = some (.slice a' m' c', h') ∧ I10_0 O Q v0 z0 z1 z2 z3 z4 z5 z6 b7 f7 a8 n c8 a9 n9 c9 a10 n10 c10 a' m' c' (some ⟨bq, 0, none⟩) s 6 (Int.ofNat s) (Int.ofNat (k + 1)) h' := by
      intro fd hfd
      subst hfd
      have S := S.add (.cells [.int .i64 (roomF n qs[k]).n, .bool (roomF n qs[k]).refs] 76 .fix)
      obtain ⟨a', m', c', h', e, hm', S⟩ := S.app 1 rfl (Nat.le_refl _) S.lo app64 ⟨_, _, _, rfl⟩ (src_get (n := 1) (c := 1) (esz := 2) (off := 0) (S.rd 0 rfl (r := [.int .i64 (roomF n qs[k]).n, .bool (roomF n qs[k]).refs]) rfl rfl)) rfl rfl (by omega) (by unfold big; omega)
      have S : Know g h' (_ :: _ :: _ :: Rr) := S
      have S := S.sub _ (List.sublist_cons_self ..)
      refine ⟨a', m', c', h', e, ih (k + 1) h' a' m' c' (by omega) ?_⟩
      rw [e2]; exact S
    by_cases hz : 0 < n
    · refine vcond_t (by show ltI (Int.ofNat 0) (Int.ofNat n) = true; rw [ltI_nat]; exact blt_t hz) (vcond_split (fun h1 => ?_) fun h1 => ?_)
      · have h1 : qs[k] % 2 = 1 := Int.ofNat_inj.1 (eq_of_t h1)
        have ed : Int.tmod (wrapF .i64 (Int.tdiv (Int.ofNat qs[k]) 2)) (Int.ofNat n) = ((qs[k] / 2 % n : Nat) : Int) := by
          rw [show Int.tdiv (Int.ofNat qs[k]) 2 = Int.ofNat (qs[k] / 2) from rfl, wrapN (show qs[k] / 2 < 9223372036854775808 by omega)]; rfl
        rw [ed]
        exact vreq_t (by rw [eqI_f (on0 hz)]; rfl) (go ⟨((qs[k] / 2 % n : Nat) : Int), true⟩ (by unfold roomF; rw [if_pos ⟨hz, h1⟩]))
      · have h1 : qs[k] % 2 ≠ 1 := fun hh => ne_of_f h1 (by show Int.ofNat (qs[k] % 2) = 1; rw [hh]; rfl)
        exact go ⟨2 * (qs[k] : Int) + 1, false⟩ (by unfold roomF; rw [if_neg (fun hh => h1 hh.2)])
    · refine vcond_f (by show ltI (Int.ofNat 0) (Int.ofNat n) = false; rw [ltI_nat]; exact blt_f hz) ?_
      exact go ⟨2 * (qs[k] : Int) + 1, false⟩ (by unfold roomF; rw [if_neg (fun hh => hz hh.1)])
/-- The words. -/
theorem lp10_1 {g : Hp} {v0 : Array Value} {z0 z1 z2 z3 z4 z5 z6 : Int} {b7 : Nat} {f7 : Nat} {a8 : Option Addr} {n8 c8 : Nat} {a9 : Option Addr} {n9 c9 : Nat} {oA : Nat} {L : List Cl} {o : List Nat} {a11 : Option Addr} {n11 c11 : Nat} {lof : Nat} {x14 : Int} {fs : List Fd} (hf : ∀ f ∈ fs, f.refs = true → f.n = (f.n.toNat : Int) ∧ f.n.toNat ∈ o ∧ f.n.toNat < L.length ∧ atC L o f.n.toNat < 1000000) (lf : fs.length ≤ 1000) {Rr : List Rs} {Q : Value → Hp → Prop}
    (next : ∀ (h : Hp) (a : Option Addr) (m c : Nat), Know g h (acc g.nx 3 1 a m c (iv (fs.map (wd (atC L o)))) :: ob oA (.cells (iv (atL L o)) 3 .fix) :: acc lof 76 2 a11 n11 c11 (fvs fs) :: Rr) → I10_1 O Q v0 z0 z1 z2 z3 z4 z5 z6 b7 f7 a8 n8 c8 a9 n9 c9 (some ⟨oA, 0, none⟩) L.length L.length a11 n11 c11 x14 a m c a11 n11 c11 (Int.ofNat n11) (Int.ofNat n11) h) :
    ∀ (d k : Nat) (h : Hp) (a : Option Addr) (m c : Nat), k + d = fs.length → Know g h (acc g.nx 3 1 a m c (iv ((fs.take k).map (wd (atC L o)))) :: ob oA (.cells (iv (atL L o)) 3 .fix) :: acc lof 76 2 a11 n11 c11 (fvs fs) :: Rr) →
      I10_1 O Q v0 z0 z1 z2 z3 z4 z5 z6 b7 f7 a8 n8 c8 a9 n9 c9 (some ⟨oA, 0, none⟩) L.length L.length a11 n11 c11 x14 a m c a11 n11 c11 (Int.ofNat n11) (Int.ofNat k) h := by
  have _ := hO
  intro d
  induction d with
  | zero =>
    intro k h a m c hk S
    have F : FdsAt h a11 n11 fs := AccE.slAt fdE_len (by decide) (S.get 2 rfl)
    have : k = n11 := by have := F.1; omega
    subst this
    rw [List.take_of_length_le (by omega)] at S
    exact next h a m c S
  | succ d ih =>
    intro k h a m c hk S
    have hkf : k < fs.length := by omega
    have F : FdsAt h a11 n11 fs := AccE.slAt fdE_len (by decide) (S.get 2 rfl)
    have hn11 := F.1
    have hm : m = k := by
      have A : AccE h g.nx 3 1 a m c _ := S.get 0 rfl
      have := (AccE.ints A).1
      rw [List.length_map, List.length_take] at this
      omega
    have e2 : iv ((fs.take (k + 1)).map (wd (atC L o))) = iv ((fs.take k).map (wd (atC L o))) ++ [.int .i64 (wd (atC L o) fs[k])] := by
      unfold iv
      rw [List.take_add_one, List.getElem?_eq_getElem hkf, List.map_append, List.map_append]; rfl
    refine I10_1.of (hh := ?_) ..
    unfold T10_1
    refine vcond_t (by rw [ltI_nat]; exact blt_t (by omega)) (isNat_i (F.rd (h := h) (k := k) hkf ?_))
    intro g206
    have S : Know g g206 (_ :: _ :: _ :: _ :: Rr) := S.add _
    refine vreq_t (S.cw 0 rfl (by decide) rfl rfl) ?_
    intro g207
    have S : Know g g207 (_ :: _ :: _ :: _ :: Rr) := S.wr 0 rfl (by decide) rfl rfl
    rw [wrap_succ (by omega)]
    have go : ∀ w : Int, w = wd (atC L o) fs[k] → ∃ a' m' c' h', appendV Tryz.prog (g207.add (.cells [.int .i64 w] 3 .fix)) 22 22 (.slice a m c) (.slice (some ⟨g207.nx, 0, none⟩) 1 1) = some (.slice a' m' c', h') ∧ I10_1 O Q v0 z0 z1 z2 z3 z4 z5 z6 b7 f7 a8 n8 c8 a9 n9 c9 (some ⟨oA, 0, none⟩) L.length L.length a11 n11 c11 x14 a' m' c' a11 n11 c11 (Int.ofNat n11) (Int.ofNat (k + 1)) h' := by
      intro w hw
      subst hw
      have S := S.add (.cells [.int .i64 (wd (atC L o) fs[k])] 3 .fix)
      obtain ⟨a', m', c', h', e, hm', S⟩ := S.app 2 rfl (Nat.le_refl _) S.lo AppT22 ⟨_, _, _, rfl⟩ (src_get (n := 1) (c := 1) (esz := 1) (off := 0) (S.rd 0 rfl (r := [.int .i64 (wd (atC L o) fs[k])]) rfl rfl)) rfl rfl (by omega) (by unfold big; omega)
      have S : Know g h' (_ :: _ :: _ :: _ :: _ :: Rr) := S
      have S := S.sub _ ((List.sublist_cons_self ..).trans (List.sublist_cons_self ..))
      refine ⟨a', m', c', h', e, ih (k + 1) h' a' m' c' (by omega) ?_⟩
      rw [e2]; exact S
    refine ⟨_, S.rd 0 rfl rfl rfl, ?_⟩
    cases hr : fs[k].refs with
    | false =>
      exact vcond_f rfl ⟨_, S.rd 0 rfl rfl rfl, go _ (by rw [wd_n hr])⟩
    | true =>
      obtain ⟨q1, q2, q3, q4⟩ := hf _ (List.getElem_mem hkf) hr
      have XA := at_of (S.obj 2 rfl) (S.orng 2 rfl).2
      refine vcond_t rfl ⟨_, S.rd 0 rfl rfl rfl, ?_⟩
      rw [q1]
      refine isNat_i (XA.rd (h := g207) (k := fs[k].n.toNat) (by rw [atL_len]; exact q3) ?_)
      rw [atL_get _ _ q3]
      refine go _ ?_
      unfold atV
      rw [if_pos q2, wd_r hr]
      exact dbl64 (n := atC L o fs[k].n.toNat) (Nat.le_refl _) q4
end
end Go.Proofs.YtngcjpkccnfjiaaGreatDoor
/- CollectRoom: its law. -/
namespace Go.Proofs.YtngcjpkccnfjiaaGreatDoor
set_option maxRecDepth 100000
open Go Go.Ev
/-- Numbers are copied to the end of one's own list. -/
theorem copy_tail {h0 g : Hp} {L : List Rs} (S : Know h0 g L) (j : Nat) {oW cw : Nat} {W : List Int} {m : Md} (hj : L[j]? = some (ob oW (.cells (iv W) 3 m))) (hc : CapOk m cw W.length) (lW : W.length < 1000000) {k : Nat} {a2 : Option Addr} {n2 c2 : Nat} {xs : List Int} (X : IntsAt g a2 n2 xs) (hfit : k + xs.length ≤ W.length) :
    ∃ a n c h', sliceV Tryz.prog g 22 (.slice (some ⟨oW, 0, none⟩) W.length cw) (some (.int .i64 (Int.ofNat k))) none none = some (.slice a n c) ∧ copyV Tryz.prog g 22 (.slice a n c) (.slice a2 n2 c2) = some (.int .i64 (Int.ofNat xs.length), h') ∧ Know h0 h' (L.set j (ob oW (.cells (iv (putAt W k xs)) 3 m))) := by
  have hget := S.obj j hj
  have s9 : SI g (some ⟨oW, 0, none⟩) W.length cw W := SI.own hget (S.orng j hj).2 hc lW
  have hn2 := X.1
  have lj := S.len hj
  by_cases hz : xs = []
  · subst hz
    obtain ⟨a14, c16, es, sp⟩ := s9.part (l := k) (r := W.length) (by simpa using hfit) (Nat.le_refl _) (lo := some (.int .i64 (Int.ofNat k))) (hi := none) fun vis hv => bounds_lo (by simpa using hfit)
    have hn0 : n2 = 0 := hn2
    refine ⟨_, _, _, g, es, ?_, ?_⟩
    · unfold copyV
      rw [el22]
      simp only [Option.bind_some, sz3, lenV, hn0]
      rcases sp.at_.2 with ⟨_, rfl⟩ | ⟨b', off, _, _, _, rfl, _⟩
      · rfl
      · show (bif Nat.beq (Nat.min 0 _) 0 then _ else _) = _
        rw [show Nat.min 0 (W.length - k) = 0 from Nat.zero_min _]; rfl
    · rw [putAt_nil]
      have : L.set j (ob oW (.cells (iv W) 3 m)) = L := by
        refine List.ext_getElem? fun i => ?_
        rw [List.getElem?_set]
        by_cases h : j = i
        · subst h; rw [if_pos rfl, if_pos lj, hj]
        · rw [if_neg h]
      rw [this]; exact S
  · have hpos : 0 < xs.length := List.length_pos_iff.2 hz
    obtain ⟨c', es⟩ := slice_lo s9 (l := k) (by omega)
    obtain ⟨h18, ec, hg18, ho18, hn18, hgd18, hf18⟩ := copy_ints (h := g) (o := oW) (off := k) (n := W.length - k) (m := n2) (c2 := c2) (c1 := c') hget hc.ro (S.gdf (S.orng j hj).1) (by omega) X
    have hmin : Nat.min n2 (W.length - k) = xs.length := by rw [hn2]; exact Nat.min_eq_left (by omega)
    rw [hmin] at ec hg18
    rw [List.take_length] at hg18
    exact ⟨_, _, _, h18, es, ec, S.upd j hj (r' := ob oW (.cells (iv (putAt W k xs)) 3 m)) ⟨fun o _ ho => ho18 o ho, by rw [hn18]; exact Nat.le_refl _, hgd18, fun f => hf18 f⟩ (ob.loc _ _) hg18 fun _ h => .inl h⟩
theorem allocO_in {l : List Nat} {W : List Int} {top : Nat} {R : List Int} {k : Int} {xs : List Int} {s : Mv} (hf : fieldsR l k xs = true) (hk : refB k = true) : allocO (some l) W top R k xs s = if (roomC W top R xs (1 + xs.length) s).is = true then (⟨layP (roomC W top R xs (1 + xs.length) s).W (roomC W top R xs (1 + xs.length) s).top k (roomC W top R xs (1 + xs.length) s).l, (roomC W top R xs (1 + xs.length) s).top + 1 + xs.length, (roomC W top R xs (1 + xs.length) s).R, 0⟩, 2 * ((roomC W top R xs (1 + xs.length) s).top : Int)) else (⟨[], 0, [], 3⟩, 0) := by
  unfold allocO
  show (if fieldsR l k xs = true then _ else _) = _
  rw [if_pos hf, hk, if_pos rfl, if_pos rfl]
section
variable {O : CallF} (hO : Oth O)
include hO
theorem lp10_end {g : Hp} (hwk : ∀ y : Hp, Tb y → EvT O 14 [] y (.bool true) y) (ht : Tb g) {v0 w0 : Array Value} {xs : List Nat} (B : Bytes v0 xs) {z0 z1 z2 z3 z4 z5 z6 : Int} {b7 oW oA lo lof low : Nat} {ar : Option Addr} {nr cr : Nat} {ac : Option Addr} {cc : Nat} {af : Option Addr} {nf cf : Nat} {a11 : Option Addr} {n11 c11 : Nat} {a15 : Option Addr} {n15 c15 : Nat} {own : Nat → Prop} {kd : Int} {fs : List Fd} {lor : Nat} {y : Hp}
    (hkd : kd ≠ 3 ∧ kd ≠ 4 ∧ refB kd = true ∧ 1 ≤ kd ∧ kd ≤ 5) (hfs : ∀ f ∈ fs, FdOk (pO xs) 1 f) (lfs : fs.length ≤ 6)
    (S : Know g y [acc low 3 1 a15 n15 c15 (iv (fs.map (wd (atC (drawnL xs) (pO xs))))), ob oA (.cells (iv (atL (drawnL xs) (pO xs))) 3 .fix), acc lof 76 2 a11 n11 c11 (fvs fs), ob b7 (.cells [.slice (some ⟨oW, 0, none⟩) (layT (drawnL xs) (pO xs) + pFree xs) (layT (drawnL xs) (pO xs) + pFree xs), .int .i64 (Int.ofNat (layT (drawnL xs) (pO xs))), .slice ar nr cr] 24 .fix), clo own (fun h => ClsAt h ac (drawnL xs).length (drawnL xs)), acc lor 76 2 af nf cf (fvs (drawnR xs)), ob oW (.cells (iv (layW (drawnL xs) (pO xs) (pFree xs))) 3 .fix), acc lo 3 1 ar nr cr (iv (layR (drawnL xs) (pO xs) (drawnR xs)))]) :
    I10_1 O (fun v _ => v = .bool true) w0 z0 z1 z2 z3 z4 z5 z6 b7 0 ac (drawnL xs).length cc af nf cf (some ⟨oA, 0, none⟩) (drawnL xs).length (drawnL xs).length a11 n11 c11 kd a15 n15 c15 a11 n11 c11 (Int.ofNat n11) (Int.ofNat n11) y := by
  have n0 : 0 < g.nx := by have := ht.1; omega
  have hm := pMany_rng xs
  have hfit := pFit B
  have G := drawn_gr B
  have hR := drawn_roots B
  have hn : (drawnL xs).length = pMany xs := drawnL_len xs
  have hoL : ∀ i ∈ pO xs, i < (drawnL xs).length := fun i hi => by rw [hn]; exact List.mem_range.1 hi
  have hck := pcheck B
  obtain ⟨kept, s, hreach, kn, ks, kc, kr, hrun, hord, hTle, htop, hD, hT⟩ := lay_collect (free := pFree xs) G hR.1 hfs (by omega) (by omega)
  have hkL : kept.length ≤ pMany xs := len_in kn fun i hi => List.mem_range.1 (ks i hi)
  have hn2 : (prunedL (drawnL xs) kept).length = pMany xs := by unfold prunedL; rw [List.length_map]; exact hn
  have K2 := pruned_lay G hoL (by omega) kn ks kc hR.1 (fun f hf hrf => kr f (List.mem_append.2 (.inl hf)) hrf) (by omega) (by omega)
  have eR := lay_roots (free := pFree xs) G ks hR.1
  have eF := lay_roots (free := pFree xs) G ks hfs
  have hW := layW_length (drawnL xs) (pO xs) (pFree xs)
  have lws : (layR (drawnL xs) (pO xs) fs).length = fs.length := by unfold layR; rw [List.length_map]
  have hF11 : FdsAt y a11 n11 fs := AccE.slAt fdE_len (by decide) (S.get 2 rfl)
  have h11 := hF11.1
  have XW : IntsAt y a15 n15 (layR (drawnL xs) (pO xs) fs) := AccE.ints (S.get 0 rfl)
  have h15 := XW.1
  -- the fields may be those of a cell
  have hfr : fieldsR ((pO xs).map (atC (drawnL xs) (pO xs))) kd (layR (drawnL xs) (pO xs) fs) = true := by
    unfold fieldsR
    rw [if_neg (by rw [lws]; omega), List.all_eq_true]
    intro w hw
    obtain ⟨f, hf, rfl⟩ := List.mem_map.1 hw
    refine lay_field G ?_
    have := hfs f hf
    unfold FdOk at this ⊢
    rw [if_neg (by decide), if_neg (by decide)] at this
    rw [if_neg hkd.1, if_neg hkd.2.1]; exact this
  have hXin : ∀ x ∈ layR (drawnL xs) (pO xs) fs, In64 x := fun x hx => (layR_small G (by omega) hfs x hx).in64
  refine I10_1.of (hh := ?_) ..
  unfold T10_1
  have A := made_HA B (S.obj 6 rfl) (S.orng 6 rfl).2 (S.get 7 rfl)
  obtain ⟨v, h241, e241, u, rfl, aw1, nw1, cw1, ar1, nr1, cr1, rfl, T⟩ := ct24 hO S.ok A (ht.kp S.kp n0) (top := Int.ofNat (layT (drawnL xs) (pO xs))) (k := kd) (c2 := c15) XW hXin (by omega) (s := s) (fun l hl hf _ => by
    rw [hkd.2.2.1, if_pos rfl, hord, eR, eF]
    exact ⟨hrun, by omega, by rw [hD, layW_length, hW]; omega⟩)
  rw [hck, show (Int.ofNat (layT (drawnL xs) (pO xs))).toNat = layT (drawnL xs) (pO xs) from rfl, allocO_in hfr hkd.2.2.1, lws] at e241 T
  refine vcond_f (by rw [ltI_nat]; exact blt_f (by omega)) ⟨_, _, _, _, _, _, _, S.rd 3 rfl rfl rfl, _, _, _, _, _, _, _, _, _, _, e241, ?_⟩
  have S : Know g h241 [_, _, _, _, _, _, _, _, _, _] := S.comp T
  intro g242
  have S : Know g g242 [_, _, _, _, _, _, _, _, _, _, _] := S.add _
  refine vreq_t (S.cw 0 rfl (by decide) rfl rfl) ?_
  intro g243
  have S : Know g g243 [_, _, _, _, _, _, _, _, _, _, _] := S.wr 0 rfl (by decide) rfl rfl
  have eneed : wrapF .i64 (Int.ofNat (layT (drawnL xs) (pO xs)) + wrapF .i64 (1 + Int.ofNat n11)) = Int.ofNat (layT (drawnL xs) (pO xs) + 1 + fs.length) := by
    rw [h11]
    have e1 : Int.ofNat fs.length = (fs.length : Int) := rfl
    have e2 : Int.ofNat (layT (drawnL xs) (pO xs)) = (layT (drawnL xs) (pO xs) : Int) := rfl
    rw [e1, e2, wrap64 (n := 1 + (fs.length : Int)) (by omega) (by omega), wrap64 (by omega) (by omega)]
    show _ = ((layT (drawnL xs) (pO xs) + 1 + fs.length : Nat) : Int)
    omega
  refine ⟨_, S.rd 6 rfl rfl rfl, _, _, _, S.rd 6 rfl rfl rfl, ?_⟩
  rw [eneed, ltI_nat]
  by_cases hft : layT (drawnL xs) (pO xs) + (1 + fs.length) ≤ layT (drawnL xs) (pO xs) + pFree xs
  · -- there is room
    have er : roomC (layW (drawnL xs) (pO xs) (pFree xs)) (layT (drawnL xs) (pO xs)) (layR (drawnL xs) (pO xs) (drawnR xs)) (layR (drawnL xs) (pO xs) fs) (1 + fs.length) s = ⟨layW (drawnL xs) (pO xs) (pFree xs), layT (drawnL xs) (pO xs), layR (drawnL xs) (pO xs) (drawnR xs), layR (drawnL xs) (pO xs) fs, true⟩ := by unfold roomC; rw [if_pos (by rw [hW]; exact hft)]
    rw [er] at S ⊢
    refine vcond_t (by rw [blt_f (by omega)]; rfl) ?_
    intro g248
    have S : Know g g248 [_, _, _, _, _, _, _, _, _, _, _, _] := S.rsvK 12
    have n248 : g248.nx = g243.nx + 12 := rfl
    have hb7 := S.orng 7 rfl
    have A := made_HA B (S.obj 10 rfl) (S.orng 10 rfl).2 (S.get 11 rfl)
    obtain ⟨v, h259, e259, a8, m8, c8, rfl, T⟩ := ct46 hO (S.okg (l := [b7, b7]) fun q hq => by have : q = b7 := (by simpa using hq); rw [this]; exact hb7.2) (A.sw.at_.to (g248.grd [b7, b7])) (by omega) (c := layT (drawnL xs) (pO xs) + pFree xs)
    refine ⟨_, _, _, S.rd 7 rfl rfl rfl, _, S.rd 7 rfl rfl rfl, _, _, _, S.rd 7 rfl rfl rfl, _, _, _, _, e259, ?_⟩
    intro g260
    have S : Know g g260 [_, _, _, _, _, _, _, _, _, _, _, _, _] := S.compg T
    refine vreq_t (S.fre 1 rfl (by omega) (by omega) (by simp)) ?_
    intro g261
    have S : Know g g261 [_, _, _, _, _, _, _, _, _, _, _, _, _, _] := S.lay 1 rfl (by omega) (by omega) (by simp) _
    rw [eneed]
    refine vreq_t (S.cwg 0 rfl (fun _ h => by cases h) (by decide) rfl rfl) ?_
    intro g262 g263
    have S : Know g g263 [_, _, _, _, _, _, _, _, _, _, _, _, _, _] := S.wrg 0 rfl (fun _ h => by cases h) (by decide) rfl rfl
    obtain ⟨oC, rfl, rfl, hm8, _, S⟩ := S.accOb 1 rfl (by
      intro h
      have := congrArg List.length h
      rw [List.length_map, hW, List.length_nil] at this
      omega)
    have S : Know g g263 [_, _, _, _, _, _, _, _, _, _, _, _, _, _] := S
    have hm8 : m8 = layT (drawnL xs) (pO xs) + pFree xs := by rw [List.length_map, hW] at hm8; omega
    subst hm8
    have ehd : wrapF .i64 (wrapF .i64 (8 * Int.ofNat n11) + kd) = 8 * (fs.length : Int) + kd := by
      rw [h11]
      have e1 : Int.ofNat fs.length = (fs.length : Int) := rfl
      rw [e1, wrap64 (n := 8 * (fs.length : Int)) (by omega) (by omega), wrap64 (by omega) (by omega)]
    rw [ehd]
    have hb : Nat.ble (0 + layT (drawnL xs) (pO xs) * 1 + [Value.int .i64 (8 * (fs.length : Int) + kd)].length) (iv (layW (drawnL xs) (pO xs) (pFree xs))).length = true := ble_t (by rw [List.length_map, hW]; show 0 + layT (drawnL xs) (pO xs) * 1 + 1 ≤ _; omega)
    refine ⟨_, _, _, S.rd 0 rfl rfl rfl, _, S.rd 9 rfl rfl rfl, isNat_i (isAddr_i (vreq_t (blt_t (by omega)) (vreq_t (S.cw 1 rfl (by decide) hb rfl) ?_)))⟩
    intro g271
    have S : Know g g271 [_, _, _, _, _, _, _, _, _, _, _, _, _, _] := S.wr 1 rfl (by decide) hb rfl
    rw [putAt_one _ _ _ (by rw [hW]; omega)] at S
    have S9 := S
    have XW : IntsAt g271 a15 n15 (layR (drawnL xs) (pO xs) fs) := AccE.ints (S.get 6 rfl)
    have eW1 : (layW (drawnL xs) (pO xs) (pFree xs)).set (layT (drawnL xs) (pO xs)) (8 * (fs.length : Int) + kd) = putAt (layW (drawnL xs) (pO xs) (pFree xs)) (layT (drawnL xs) (pO xs)) [8 * (fs.length : Int) + kd] := by
      have h := putAt_one (layW (drawnL xs) (pO xs) (pFree xs)) (layT (drawnL xs) (pO xs)) (8 * (fs.length : Int) + kd) (by rw [hW]; omega)
      rw [show [Value.int .i64 (8 * (fs.length : Int) + kd)] = iv [8 * (fs.length : Int) + kd] from rfl, ← iv_putAt, show 0 + layT (drawnL xs) (pO xs) * 1 = layT (drawnL xs) (pO xs) by omega] at h
      have inj : ∀ a b : List Int, iv a = iv b → a = b := fun a b h => by
        have := congrArg (List.map fun v => match v with | Value.int _ x => x | _ => 0) h
        unfold iv at this
        rw [List.map_map, List.map_map] at this
        have e : ((fun v => match v with | Value.int _ x => x | _ => 0) ∘ Value.int .i64) = (id : Int → Int) := rfl
        rw [e, List.map_id, List.map_id] at this; exact this
      exact (inj _ _ h).symm
    have lset : ((layW (drawnL xs) (pO xs) (pFree xs)).set (layT (drawnL xs) (pO xs)) (8 * (fs.length : Int) + kd)).length = layT (drawnL xs) (pO xs) + pFree xs := by rw [List.length_set, hW]
    obtain ⟨a14, n14, c14, h280, es, ec, S280⟩ := copy_tail S 1 rfl (cw := unk) (.inr ⟨rfl, rfl⟩) (by omega) (k := layT (drawnL xs) (pO xs) + 1) (c2 := c15) XW (by omega)
    rw [lset] at es
    rw [eW1, putAt_two] at S280
    have S : Know g h280 [_, _, _, _, _, _, _, _, _, _, _, _, _, _] := S280
    refine ⟨_, _, _, S9.rd 0 rfl rfl rfl, _, S9.rd 9 rfl rfl rfl, ?_⟩
    rw [wrap_succ (by omega)]
    refine ⟨_, _, _, es, _, _, ec, vcond_t rfl ⟨_, S.rd 9 rfl rfl rfl, ?_⟩⟩
    have e2t : wrapF .i64 (2 * Int.ofNat (layT (drawnL xs) (pO xs))) = 2 * (layT (drawnL xs) (pO xs) : Int) := dbl64 (n := layT (drawnL xs) (pO xs)) (Nat.le_refl _) (by omega)
    rw [e2t]
    have s1 : SI h280 aw1 nw1 cw1 _ := S.get 4 rfl
    have s2 : SI h280 ar1 nr1 cr1 _ := S.get 5 rfl
    have s3 := intsCells (S.obj 1 rfl) (S.orng 1 rfl).2
    have s4 : IntsAt h280 ar nr (layR (drawnL xs) (pO xs) (drawnR xs)) := AccE.ints (S.get 13 rfl)
    have elen : ((8 * (fs.length : Int) + kd) :: layR (drawnL xs) (pO xs) fs) = ((8 * ((layR (drawnL xs) (pO xs) fs).length : Int) + kd) :: layR (drawnL xs) (pO xs) fs) := by rw [lws]
    rw [elen] at s3
    have s3 : IntsAt h280 (some ⟨oC, 0, none⟩) (layT (drawnL xs) (pO xs) + pFree xs) (layP (layW (drawnL xs) (pO xs) (pFree xs)) (layT (drawnL xs) (pO xs)) kd (layR (drawnL xs) (pO xs) fs)) := by
      rw [putAt_length, hW] at s3; exact s3
    obtain ⟨v, h297, e297, rfl, k297⟩ := ct19 hO (g := h280) (t := Int.ofNat (layT (drawnL xs) (pO xs) + 1 + fs.length)) (c12 := cw1) (c16 := cr1) (c30 := unk) (c34 := cr) s1.at_ s2.at_ s3 s4 (by show (layP (layW (drawnL xs) (pO xs) (pFree xs)) (layT (drawnL xs) (pO xs)) kd (layR (drawnL xs) (pO xs) fs)).length < _; rw [layP_length]; omega) (by show (layR (drawnL xs) (pO xs) (drawnR xs)).length < _; unfold layR; rw [List.length_map]; omega)
    refine vcond_t (eqI_t rfl) ⟨_, _, _, _, _, _, _, S.rd 3 rfl rfl rfl, _, _, _, _, _, _, _, S.rd 0 rfl rfl rfl, _, _, e297, ?_⟩
    have S : Know g h297 [_, _, _, _, _, _, _, _, _, _, _, _, _, _] := S.call k297
    exact vcond_t rfl ⟨_, _, hwk _ (ht.kp S.kp n0), rfl⟩
  · have hnf : ¬ layT (drawnL xs) (pO xs) + (1 + fs.length) ≤ (layW (drawnL xs) (pO xs) (pFree xs)).length := by rw [hW]; exact hft
    have er : roomC (layW (drawnL xs) (pO xs) (pFree xs)) (layT (drawnL xs) (pO xs)) (layR (drawnL xs) (pO xs) (drawnR xs)) (layR (drawnL xs) (pO xs) fs) (1 + fs.length) s = ⟨s.D, s.top, layR (prunedL (drawnL xs) kept) kept (drawnR xs), layR (prunedL (drawnL xs) kept) kept fs, decide (s.top + (1 + fs.length) ≤ (layW (drawnL xs) (pO xs) (pFree xs)).length)⟩ := by unfold roomC; rw [if_neg hnf, hord, eR, eF]
    obtain ⟨bb, hbb⟩ : ∃ b, b = decide (s.top + (1 + fs.length) ≤ (layW (drawnL xs) (pO xs) (pFree xs)).length) := ⟨_, rfl⟩
    rw [← hbb] at er
    rw [er] at S ⊢
    refine vcond_f (by rw [blt_t (by omega)]; rfl) ?_
    have hLr : ∀ i, i < (drawnL xs).length → RefsIn (drawnL xs).length (clAt (drawnL xs) i).fs ∧ (clAt (drawnL xs) i).fs.length ≤ 1000 := fun i hi => G.refsIn hoL (List.mem_range.2 (by omega))
    have F : FdsAt g243 af nf (drawnR xs) := AccE.slAt fdE_len (by decide) (S.get 8 rfl)
    have hnf1 := F.1
    obtain ⟨v, h303, e303, a300, c302, rfl, T303⟩ := ct47 hO S.ok F (by omega) (c := cf)
    refine ⟨_, _, _, _, e303, ?_⟩
    have lo243 := S.lo
    have lo303 := T303.lo
    have S : Know g h303 [_, _, _, _, _, _, _, _, _, _, _, _] := S.comp T303
    have F11 : FdsAt h303 a11 n11 fs := AccE.slAt fdE_len (by decide) (S.get 6 rfl)
    obtain ⟨a304, n305, c306, h307, e307, hn305, S307⟩ := S.app 0 rfl lo243 lo303 app64 ⟨_, _, _, rfl⟩ (F11.src (c := c11)) (by rw [fvs_len]; omega) (fvs_one fs) (by omega) (by unfold big; omega)
    have efv : fvs (drawnR xs) ++ fvs fs = fvs (drawnR xs ++ fs) := by unfold fvs; rw [List.flatMap_append]
    rw [efv] at S307
    have S : Know g h307 [_, _, _, _, _, _, _, _, _, _, _, _] := S307
    refine ⟨_, _, _, _, e307, ?_⟩
    have C : ClsAt h307 ac (drawnL xs).length (drawnL xs) := clo.get (S.get 8 rfl)
    have F : FdsAt h307 a304 n305 (drawnR xs ++ fs) := AccE.slAt fdE_len (by decide) (S.get 0 rfl)
    obtain ⟨v, h311, e311, a308, n309, c310, rfl, T⟩ := ct49 hO S.ok C (by omega) hLr F (fdok_refsIn G hoL fun f hf => by
      rcases List.mem_append.1 hf with h | h
      · exact hR.1 f h
      · exact hfs f h) (by rw [List.length_append]; omega) (hreach _ (Nat.le_refl _)) (c0 := cc) (c1 := c306)
    refine ⟨_, _, _, _, e311, ?_⟩
    have lo307 := S.lo
    have lo311 := T.lo
    have S : Know g h311 [_, _, _, _, _, _, _, _, _, _, _, _, _] := S.comp T
    have C : ClsAt h311 ac (drawnL xs).length (drawnL xs) := clo.get (S.get 9 rfl)
    have XK : IntsAt h311 a308 n309 (kept.map Int.ofNat) := AccE.ints (S.get 0 rfl)
    have h309 := XK.1
    rw [List.length_map] at h309
    obtain ⟨v, h315, e315, a312, n313, c314, vs, own2, rfl, T⟩ := ct53g hO S.ok C (by omega) hLr XK (by omega) (c0 := cc) (c1 := c310)
    refine ⟨_, _, _, _, e315, ?_⟩
    have lo315 := T.lo
    have S : Know g h315 [_, _, _, _, _, _, _, _, _, _, _, _, _, _, _] := S.comp T
    intro g316
    have S : Know g g316 [_, _, _, _, _, _, _, _, _, _, _, _, _, _, _, _] := S.add _
    have n316 : g316.nx = h315.nx + 1 := rfl
    have h313 : n313 = (prunedL (drawnL xs) kept).length := (cls_of (S.get 1 rfl) (clo.get (S.get 2 rfl))).1
    obtain ⟨a317, n318, c319, h320, e320, hn318, S320⟩ := S.app 1 rfl (Nat.le_trans lo307 lo311) (by omega) app63 ⟨_, _, _, rfl⟩ (src_get (n := 1) (c := 1) (esz := 2) (off := 0) (S.rd 0 rfl (r := [.int .i64 kd, .slice a11 n11 c11]) rfl rfl)) rfl rfl (by omega) (by unfold big; omega)
    have S : Know g h320 [_, _, _, _, _, _, _, _, _, _, _, _, _, _, _, _] := S320
    refine ⟨_, _, _, _, e320, ?_⟩
    intro g321
    have S : Know g g321 [_, _, _, _, _, _, _, _, _, _, _, _, _, _, _, _, _] := S.add _
    have lo321 := (S.orng 1 rfl).2
    obtain ⟨a322, n323, c324, h325, e325, hn323, S325⟩ := S.app 4 rfl lo307 (by omega) AppT22 ⟨_, _, _, rfl⟩ (src_get (n := 1) (c := 1) (esz := 1) (off := 0) (S.rd 0 rfl (r := [.int .i64 (Int.ofNat (drawnL xs).length)]) rfl rfl)) rfl rfl (by omega) (by unfold big; omega)
    refine ⟨_, _, _, _, e325, ?_⟩
    have ekp : iv (kept.map Int.ofNat) ++ [Value.int .i64 (Int.ofNat (drawnL xs).length)] = iv ((kept ++ [(prunedL (drawnL xs) kept).length]).map Int.ofNat) := by rw [hn2, hn]; unfold iv; rw [List.map_append, List.map_append]; rfl
    rw [ekp] at S325
    have S : Know g h325 [_, _, _, _, _, _, _, _, _, _, _, _, _, _, _, _, _] := S325
    have S : Know g h325 [_, _, _, _, _, _, _, _, _] := S.sel [3, 11, 2, 4, 14, 12, 6, 7, 8] (by decide) rfl
    have S : Know g h325 [_, _, _, _, _, _, _, _] := S.merge2 (fun h => Nst h (vs ++ [.int .i64 kd, .slice a11 n11 c11]) (prunedL (drawnL xs) kept ++ [⟨kd, fs⟩])) fun h2 _ N A => (clo.get N).snoc (c := ⟨kd, fs⟩) (AccE.slAt fdE_len (by decide) A)
    have C2 : ClsAt h325 a317 n318 (prunedL (drawnL xs) kept ++ [⟨kd, fs⟩]) := cls_of (S.get 1 rfl) (clo.get (S.get 0 rfl))
    have XK2 : IntsAt h325 a322 n323 ((kept ++ [(prunedL (drawnL xs) kept).length]).map Int.ofNat) := AccE.ints (S.get 2 rfl)
    have F2 : FdsAt h325 af nf (drawnR xs) := AccE.slAt fdE_len (by decide) (S.get 3 rfl)
    have hkl2 : ∀ i ∈ kept, i < (prunedL (drawnL xs) kept).length := K2.lt
    have hkr2 : ∀ i ∈ kept, ∀ f ∈ (clAt (prunedL (drawnL xs) kept) i).fs, f.refs = true → f.n.toNat ∈ kept := fun i hi f hf hr => (K2.refs i hi f hf hr).2
    have hkc : ∀ f ∈ (⟨kd, fs⟩ : Cl).fs, f.refs = true → f.n.toNat ∈ kept := fun f hf hr => kr f (List.mem_append.2 (.inr hf)) hr
    have hT2 : layT (prunedL (drawnL xs) kept ++ [⟨kd, fs⟩]) (kept ++ [(prunedL (drawnL xs) kept).length]) = layT (prunedL (drawnL xs) kept) kept + (1 + fs.length) := more_T hkl2
    have K3 : LayOk (prunedL (drawnL xs) kept ++ [⟨kd, fs⟩]) (kept ++ [(prunedL (drawnL xs) kept).length]) (drawnR xs) 0 := more_lay hkl2 hkr2 hkc K2 ⟨by show 0 ≤ kd; omega, by show kd ≤ 10; omega⟩ (fun f hf hr => by
      exact (fdok_refsIn G hoL hfs f hf hr).1) (by omega) (by show _ + (1 + fs.length) ≤ _; omega)
    obtain ⟨v, h336, e336, oW2, ar2, nr2, cr2, oA2, rfl, T⟩ := ct52 hO S.ok K3 C2 XK2 F2 (c0 := c319) (c1 := c324) (c2 := cf)
    refine ⟨_, _, _, _, _, _, _, _, _, _, _, e336, ?_⟩
    have S : Know g h336 [_, _, _, _, _, _, _, _, _, _, _] := S.comp T
    intro g337
    have S : Know g g337 [_, _, _, _, _, _, _, _, _, _, _, _] := S.add _
    refine vreq_t (S.cw 0 rfl (by decide) rfl rfl) ?_
    intro g338
    have S : Know g g338 [_, _, _, _, _, _, _, _, _, _, _, _] := S.wr 0 rfl (by decide) rfl rfl
    refine ⟨_, _, _, S.rd 0 rfl rfl rfl, _, _, _, S.rd 8 rfl rfl rfl, ?_⟩
    rw [ltI_nat]
    cases bb with
    | false =>
      have hbn := of_decide_eq_false hbb.symm
      have s0 : SI g338 aw1 nw1 cw1 [] := S.get 10 rfl
      have hn0 : nw1 = 0 := s0.at_.1
      refine vcond_t (blt_t (by omega)) (vcond_t rfl (vcond_t rfl ⟨_, _, _, S.rd 9 rfl rfl rfl, vcond_t (eqI_t (by rw [hn0]; rfl)) ⟨_, _, hwk _ (ht.kp S.kp n0), rfl⟩⟩))
    | true =>
      have hbn := of_decide_eq_true hbb.symm
      refine vcond_f (blt_f (by omega)) ?_
      have lW2 := layW_length (prunedL (drawnL xs) kept ++ [⟨kd, fs⟩]) (kept ++ [(prunedL (drawnL xs) kept).length]) 0
      obtain ⟨a52, c54, h55, e55, S55⟩ := app_zeros S 1 rfl (layT (drawnL xs) (pO xs) + pFree xs - layT (prunedL (drawnL xs) kept ++ [⟨kd, fs⟩]) (kept ++ [(prunedL (drawnL xs) kept).length])) (by omega)
      rw [lW2] at e55 S55
      have esub : wrapF .i64 (Int.ofNat (layT (drawnL xs) (pO xs) + pFree xs) - Int.ofNat (layT (prunedL (drawnL xs) kept ++ [⟨kd, fs⟩]) (kept ++ [(prunedL (drawnL xs) kept).length]) + 0)) = Int.ofNat (layT (drawnL xs) (pO xs) + pFree xs - layT (prunedL (drawnL xs) kept ++ [⟨kd, fs⟩]) (kept ++ [(prunedL (drawnL xs) kept).length])) := by
        rw [hT2]
        have e1 : Int.ofNat (layT (drawnL xs) (pO xs) + pFree xs) = ((layT (drawnL xs) (pO xs) + pFree xs : Nat) : Int) := rfl
        have e2 : Int.ofNat (layT (prunedL (drawnL xs) kept) kept + (1 + fs.length) + 0) = ((layT (prunedL (drawnL xs) kept) kept + (1 + fs.length) + 0 : Nat) : Int) := rfl
        have e3 : Int.ofNat (layT (drawnL xs) (pO xs) + pFree xs - (layT (prunedL (drawnL xs) kept) kept + (1 + fs.length))) = ((layT (drawnL xs) (pO xs) + pFree xs - (layT (prunedL (drawnL xs) kept) kept + (1 + fs.length)) : Nat) : Int) := rfl
        rw [e1, e2, e3, wrap64 (by omega) (by omega)]
        omega
      refine ⟨_, _, _, S.rd 0 rfl rfl rfl, _, _, _, S.rd 8 rfl rfl rfl, _, _, _, S.rd 0 rfl rfl rfl, ?_⟩
      rw [esub]
      refine ⟨_, _, _, _, e55, ?_⟩
      have S : Know g h55 [_, _, _, _, _, _, _, _, _, _, _, _] := S55
      refine vreq_t (S.cw 0 rfl (by decide) rfl rfl) ?_
      intro g363
      have S : Know g g363 [_, _, _, _, _, _, _, _, _, _, _, _] := S.wr 0 rfl (by decide) rfl rfl
      refine vcond_t rfl ?_
      have XA := at_of (S.obj 3 rfl) (S.orng 3 rfl).2
      have hnl : (drawnL xs).length < (prunedL (drawnL xs) kept ++ [(⟨kd, fs⟩ : Cl)]).length := by rw [List.length_append, hn2, hn]; exact Nat.lt_succ_self _
      refine XA.rd (h := g363) (k := (drawnL xs).length) (by rw [atL_len]; exact hnl) ?_
      have ev : atV (prunedL (drawnL xs) kept ++ [⟨kd, fs⟩]) (kept ++ [(prunedL (drawnL xs) kept).length]) (drawnL xs).length = (s.top : Int) := by
        have e : (drawnL xs).length = (prunedL (drawnL xs) kept).length := by rw [hn2, hn]
        rw [e]
        unfold atV
        rw [if_pos (List.mem_append.2 (.inr (List.mem_singleton.2 rfl))), more_new hkl2, htop]
      rw [atL_get _ _ hnl, ev, wrap64 (n := 2 * (s.top : Int)) (by omega) (by omega)]
      refine vcond_t (eqI_t rfl) ?_
      have eW : layW (prunedL (drawnL xs) kept ++ [⟨kd, fs⟩]) (kept ++ [(prunedL (drawnL xs) kept).length]) (layT (drawnL xs) (pO xs) + pFree xs - layT (prunedL (drawnL xs) kept ++ [⟨kd, fs⟩]) (kept ++ [(prunedL (drawnL xs) kept).length])) = layP s.D s.top kd (layR (prunedL (drawnL xs) kept) kept fs) := by
        have h := more_W hkl2 hkr2 hkc (layT (drawnL xs) (pO xs) + pFree xs - layT (prunedL (drawnL xs) kept) kept) (by show 1 + fs.length ≤ _; omega)
        rw [hD, htop]
        refine Eq.trans ?_ h
        rw [hT2]
        show layW _ _ (_ - (_ + (1 + fs.length))) = layW _ _ (_ - _ - (1 + fs.length))
        rw [Nat.sub_sub]
      have w2 : SI g363 a52 _ c54 (layW (prunedL (drawnL xs) kept ++ [⟨kd, fs⟩]) (kept ++ [(prunedL (drawnL xs) kept).length]) 0 ++ List.replicate (layT (drawnL xs) (pO xs) + pFree xs - layT (prunedL (drawnL xs) kept ++ [⟨kd, fs⟩]) (kept ++ [(prunedL (drawnL xs) kept).length])) 0) := S.get 1 rfl
      rw [layW_app, eW] at w2
      have r2 : IntsAt g363 ar2 nr2 (layR (prunedL (drawnL xs) kept ++ [⟨kd, fs⟩]) (kept ++ [(prunedL (drawnL xs) kept).length]) (drawnR xs)) := AccE.ints (S.get 2 rfl)
      rw [more_R hkl2 fun f hf hr => kr f (List.mem_append.2 (.inl hf)) hr] at r2
      have s1 : SI g363 aw1 nw1 cw1 (layP s.D s.top kd (layR (prunedL (drawnL xs) kept) kept fs)) := S.get 10 rfl
      have s2 : SI g363 ar1 nr1 cr1 (layR (prunedL (drawnL xs) kept) kept (drawnR xs)) := S.get 11 rfl
      obtain ⟨v, h382, e382, rfl, k382⟩ := ct19 hO (g := g363) (t := Int.ofNat (s.top + 1 + fs.length)) (c12 := cw1) (c16 := cr1) (c30 := c54) (c34 := cr2) s1.at_ s2.at_ w2.at_ r2 (by rw [layP_length, hD, layW_length]; omega) (by unfold layR; rw [List.length_map]; omega)
      have r0 : readAt g363 h336.nx 0 3 = some [.slice a52 (layT (prunedL (drawnL xs) kept ++ [⟨kd, fs⟩]) (kept ++ [(prunedL (drawnL xs) kept).length]) + 0 + (layT (drawnL xs) (pO xs) + pFree xs - layT (prunedL (drawnL xs) kept ++ [⟨kd, fs⟩]) (kept ++ [(prunedL (drawnL xs) kept).length]))) c54, .int .i64 (Int.ofNat (s.top + 1 + fs.length)), .slice ar2 nr2 cr2] := by
        refine S.rd 0 rfl ?_ rfl
        rw [hT2, htop, Nat.add_assoc (layT (prunedL (drawnL xs) kept) kept) 1]; rfl
      refine ⟨_, _, _, _, _, _, _, S.rd 9 rfl rfl rfl, _, _, _, _, _, _, _, r0, _, _, e382, ?_⟩
      have S : Know g h382 [_, _, _, _, _, _, _, _, _, _, _, _] := S.call k382
      exact vcond_t rfl ⟨_, _, hwk _ (ht.kp S.kp n0), rfl⟩
end
end Go.Proofs.YtngcjpkccnfjiaaGreatDoor
/- CollectRoom: its law. -/
namespace Go.Proofs.YtngcjpkccnfjiaaGreatDoor
set_option maxRecDepth 100000
open Go Go.Ev
abbrev Yes10 : Value → Hp → Prop := fun v _ => v = .bool true
theorem law10 {h : Hp} (ok : h.Ok) (ht : Tb h) {v0 : Array Value} {xs : List Nat} (B : Bytes v0 xs) {q0 q1 q2 q3 q4 q5 m : Nat} (hq : ∀ x ∈ [q0, q1, q2, q3, q4, q5], x < 256) (hm256 : m < 256) :
    Ret Tryz.prog Ow 10 [.agg v0, .agg #[.int .u8 (Int.ofNat q0), .int .u8 (Int.ofNat q1), .int .u8 (Int.ofNat q2), .int .u8 (Int.ofNat q3), .int .u8 (Int.ofNat q4), .int .u8 (Int.ofNat q5)], .int .u8 (Int.ofNat m)] h Yes10 := by
  have hO : Oth Ow := Ow_oth
  have hm := pMany_rng xs
  have hlen := B.len
  have hfit := pFit B
  have G := drawn_gr B
  have hn : (drawnL xs).length = pMany xs := drawnL_len xs
  have hoL : ∀ i ∈ pO xs, i < (drawnL xs).length := fun i hi => by rw [hn]; exact List.mem_range.1 hi
  refine rk10 (hO := hO _ _ _ (by decide)) (hh := ?_) ..
  unfold T10
  refine vreq_t (by rw [B.v]; exact bv_one xs) ?_
  intro g1
  have S : Know h g1 [_] := (Know.nil ok).add _
  rw [B.v] at S
  intro g2
  have S : Know h g2 [ob g1.nx (.cells (bv [q0, q1, q2, q3, q4, q5]) 84 .fix), _] := S.add _
  have B2 : Bytes (bv xs).toArray xs := ⟨rfl, B.len, B.lt⟩
  obtain ⟨v, h20, e20, oW, ar, nr, cr, ac, cc, af, nf, cf, oA, own, rfl, T⟩ := ct43 hO S.ok B2
  refine ⟨bv xs, S.rd 1 rfl (by rw [List.drop_zero, List.take_of_length_le (by rw [List.length_map]; omega)]) (ble_t (by rw [List.length_map]; omega)), _, _, _, _, _, _, _, _, _, _, _, _, _, _, _, _, _, e20, ?_⟩
  have S : Know h h20 [_, _, _, _, _, _, _] := S.comp T
  intro g21
  have S : Know h g21 [_, _, _, _, _, _, _, _] := S.add _
  refine vreq_t (S.cw 0 rfl (by decide) rfl rfl) ?_
  intro g22
  have S : Know h g22 [_, _, _, _, _, _, _, _] := S.wr 0 rfl (by decide) rfl rfl
  have hs : m % 7 ≤ 6 := by omega
  have es : Int.tmod (wrapF .i64 (Int.ofNat m)) 7 = Int.ofNat (m % 7) := by
    have e : Int.ofNat m = (m : Int) := rfl
    rw [e, wrap64 (by omega) (by omega)]; rfl
  rw [es]
  refine ⟨_, _, _, slice_arr6 hs, ?_⟩
  have S : Know h g22 [_, _, _, _, _, _, _, _, _] := S.accNil h.nx 76 2
  have S : Know h g22 [_, _, _, _, _, _, _, _] := S.sel [0, 7, 1, 2, 3, 4, 5, 6] (by decide) rfl
  refine lp10_0 hO hq rfl hs (by omega) ?_ (m % 7) 0 g22 none 0 0 (by omega) S
  intro h1 a11 m11 c11 S
  have S : Know h h1 [_, _, _, _, _, _, _, _] := S
  have hk := roomK_ok m
  have hfs : ∀ f ∈ (([q0, q1, q2, q3, q4, q5].take (m % 7)).map (roomF (drawnL xs).length)), FdOk (pO xs) 1 f := fun f hf => by
    obtain ⟨x, hx, rfl⟩ := List.mem_map.1 hf
    rw [hn]
    exact roomF_ok (hq x (List.mem_of_mem_take hx)) (by decide) (by decide)
  have lfs : (([q0, q1, q2, q3, q4, q5].take (m % 7)).map (roomF (drawnL xs).length)).length ≤ 6 := by
    rw [List.length_map, List.length_take]; exact Nat.min_le_right _ _
  have hF11 : FdsAt h1 a11 m11 (([q0, q1, q2, q3, q4, q5].take (m % 7)).map (roomF (drawnL xs).length)) := AccE.slAt fdE_len (by decide) (S.get 0 rfl)
  have h11 := hF11.1
  have em : m11 = m % 7 := by
    rw [h11, List.length_map, List.length_take]; exact Nat.min_eq_left hs
  refine I10_0.of (hh := ?_) ..
  unfold T10_0
  refine vcond_f (by rw [ltI_nat]; exact blt_f (by omega)) ?_
  intro g120
  have S : Know h g120 [_, _, _, _, _, _, _, _, _] := S.add _
  have ek : Int.tmod (wrapF .i64 (Int.tdiv (wrapF .i64 (Int.ofNat m)) 8)) 3 = Int.ofNat (m / 8 % 3) := by
    have e : Int.ofNat m = (m : Int) := rfl
    rw [e, wrap64 (n := (m : Int)) (by omega) (by omega)]
    have e2 : Int.tdiv (m : Int) 8 = ((m / 8 : Nat) : Int) := rfl
    rw [e2, wrap64 (by omega) (by omega)]; rfl
  rw [ek]
  have hk3 : m / 8 % 3 < 3 := Nat.mod_lt _ (by omega)
  have hrd : readAt g120 h1.nx (0 + m / 8 % 3 * 1) 1 = some [.int .i64 (roomK m)] := by
    unfold roomK
    have hcase : m / 8 % 3 = 0 ∨ m / 8 % 3 = 1 ∨ m / 8 % 3 = 2 := by omega
    rcases hcase with e | e | e <;> rw [e] <;> exact S.rd 0 rfl rfl rfl
  refine isNat_i (vreq_t (blt_t hk3) ⟨_, hrd, ?_⟩)
  have S : Know h g120 [_, _, _, _, _, _, _, _, _, _] := S.accNil h.nx 3 1
  have S : Know h g120 [_, _, _, _, _, _, _, _] := S.sel [0, 9, 2, 4, 5, 6, 7, 8] (by decide) rfl
  refine lp10_1 hO (L := drawnL xs) (o := pO xs) (fs := ([q0, q1, q2, q3, q4, q5].take (m % 7)).map (roomF (drawnL xs).length)) (fun f hf hr => ?_) (by omega) ?_ m11 0 g120 none 0 0 (by omega) S
  · have hin : f.n.toNat ∈ pO xs := by
      have := (fdok_refsIn G hoL hfs f hf hr).2
      exact List.mem_range.2 (by omega)
    exact ⟨(fdok_refsIn G hoL hfs f hf hr).1, hin, (fdok_refsIn G hoL hfs f hf hr).2, by have := lay_pos G hin; omega⟩
  · intro h2 a m2 c S
    have S : Know h h2 [_, _, _, _, _, _, _, _] := S
    exact lp10_end hO (fun _ t => works_true t) ht B hk hfs lfs S
end Go.Proofs.YtngcjpkccnfjiaaGreatDoor
/- What a call's arguments hold, as the evaluator's memory. -/
namespace Go.Ev
open Go
/-- Fields lie one behind the other. -/
def layOk (P : Program) : Nat → List Field → Nat → Bool
  | off, [], n => Nat.beq off n
  | off, f :: fs, n => Nat.beq f.offset off && layOk P (off + P.cellsOf f.type) fs n
/-- A type of truths, whole numbers, lists, structs and rows of these. -/
def Plain (P : Program) : Nat → TypeId → Bool
  | 0, _ => false
  | n + 1, t => match P.underlying t with
    | some .bool => true
    | some (.int _) => true
    | some (.slice e) => Plain P n e && !(Nat.beq (P.cellsOf e) 0)
    | some (.struct fs) => fs.toList.all (fun f => Plain P n f.type) && layOk P 0 fs.toList (P.cellsOf t)
    | some (.array m e) => Plain P n e && Nat.beq (m * P.cellsOf e) (P.cellsOf t)
    | _ => false
/-- Cells that read as some data, in the evaluator's memory. -/
def DE {H : Type} (P : Program) (h : Hp) : Nat → TypeId → List Value → DataW H → Prop
  | 0, _, _, _ => False
  | n + 1, t, cs, d => match P.underlying t, d with
    | some .bool, .lit (.bool b) => cs = [.bool b]
    | some (.int k), .lit (.int k' x) => k' = k ∧ cs = [.int k x] ∧ (Lit.int k x).wf = true
    | some (.slice _), .nil => cs = [.slice none 0 0]
    | some (.slice e), .slice elems _ => ∃ k cap c e', cs = [.slice (some ⟨k, 0, none⟩) elems.length cap] ∧ cap < unk ∧ elems.length ≤ cap ∧ k < h.nx ∧ h.get k = some (.cells c e' .ro) ∧ elems.length * P.cellsOf e ≤ c.length ∧
        ∀ i (hi : i < elems.length), DE P h n e ((c.drop (i * P.cellsOf e)).take (P.cellsOf e)) elems[i]
    | some (.struct fs), .agg parts => cs.length = P.cellsOf t ∧ parts.length = fs.size ∧ ∀ i (hi : i < parts.length) f, fs[i]? = some f → DE P h n f.type ((cs.drop f.offset).take (P.cellsOf f.type)) parts[i]
    | some (.array m e), .agg parts => cs.length = P.cellsOf t ∧ parts.length = m ∧ ∀ i (hi : i < parts.length), DE P h n e ((cs.drop (i * P.cellsOf e)).take (P.cellsOf e)) parts[i]
    | _, _ => False
/-- Memory with more in it, that none writes. -/
structure Ext1 (h : Hp) (ι : Inj) (h' : Hp) (ι' : Inj) : Prop where
  nx : h.nx ≤ h'.nx
  gd : h'.gd = h.gd
  get : ∀ o, o < h.nx → h'.get o = h.get o
  inj : ∀ o, o < h.nx → ι' o = ι o
theorem Ext1.refl (h : Hp) (ι : Inj) : Ext1 h ι h ι := ⟨Nat.le_refl _, rfl, fun _ _ => rfl, fun _ _ => rfl⟩
theorem Ext1.trans {h h' h'' : Hp} {ι ι' ι'' : Inj} (a : Ext1 h ι h' ι') (b : Ext1 h' ι' h'' ι'') : Ext1 h ι h'' ι'' :=
  ⟨Nat.le_trans a.nx b.nx, b.gd.trans a.gd, fun o ho => (b.get o (Nat.lt_of_lt_of_le ho a.nx)).trans (a.get o ho), fun o ho => (b.inj o (Nat.lt_of_lt_of_le ho a.nx)).trans (a.inj o ho)⟩
theorem DE.mono {H : Type} {P : Program} {h h' : Hp} (hn : h.nx ≤ h'.nx) (hg : ∀ o, o < h.nx → h'.get o = h.get o) : ∀ {n : Nat} {t : TypeId} {cs : List Value} {d : DataW H}, DE P h n t cs d → DE P h' n t cs d := by
  intro n
  induction n with
  | zero => intro t cs d h; exact h
  | succ n ih =>
    intro t cs d hd
    unfold DE at hd ⊢
    split at hd
    · exact hd
    · exact hd
    · exact hd
    · obtain ⟨k, cap, c, e', h1, h2, h3, h4, h5, h6, h7⟩ := hd
      exact ⟨k, cap, c, e', h1, h2, h3, Nat.lt_of_lt_of_le h4 hn, by rw [hg k h4]; exact h5, h6, fun i hi => ih (h7 i hi)⟩
    · exact ⟨hd.1, hd.2.1, fun i hi f hf => ih (hd.2.2 i hi f hf)⟩
    · exact ⟨hd.1, hd.2.1, fun i hi => ih (hd.2.2 i hi)⟩
    · exact hd
section
variable {H : Type} {enc : TypeId × Value → H} {P : Program} {W : World}
/-- What is ahead: memory that none writes, and an object in it. -/
structure Base (P : Program) (ι : Inj) (h : Hp) (W : World) : Prop where
  rh : RH P ι h W
  ro : ∀ o x, h.get o = some x → x.wr = false
  gd : h.gd = []
  some0 : ∃ x v, h.get 0 = some x ∧ ι 0 = some v ∧ 0 < h.nx ∧ ∃ c e, x = .cells c e .ro
/-- An object more. -/
theorem Base.push {ι : Inj} {h : Hp} (B : Base P ι h W) {c : List Value} {e : TypeId} {v : Vw} (h1 : c.all one = true) {c' : Array Value} {e' : TypeId} {fr : Nat × Nat} (hb : W.heap[v.blk]? = some (.cells c' e' fr)) (hc : ∀ (j : Nat) x, c[j]? = some x → ∃ y, c'[v.base + j]? = some y ∧ VR ι x y) :
    Base P (ι.set h.nx v) (h.add (.cells c e .ro)) W ∧ Ext1 h ι (h.add (.cells c e .ro)) (ι.set h.nx v) := by
  have hfresh : ι h.nx = none := B.rh.fresh _ (Nat.le_refl _)
  have mono := Inj.set_mono (v := v) hfresh
  have hE : Ext1 h ι (h.add (.cells c e .ro)) (ι.set h.nx v) := ⟨by rw [nx_add]; omega, rfl, fun o ho => get_add_ne (by omega), fun o ho => Inj.set_other _ _ _ (by omega)⟩
  have hget : ∀ o x, (h.add (.cells c e .ro)).get o = some x → (o = h.nx ∧ x = .cells c e .ro) ∨ h.get o = some x := fun o x ho => by
    rw [get_add] at ho
    split at ho
    · exact .inl ⟨‹_›, (Option.some.inj ho).symm⟩
    · exact .inr ho
  have hro : ∀ o x, (h.add (.cells c e .ro)).get o = some x → x.wr = false := fun o x ho => by
    rcases hget o x ho with ⟨_, rfl⟩ | ho
    · rfl
    · exact B.ro o x ho
  refine ⟨⟨⟨fun o x ho => ?_, fun o q x y vo vq _ ho hx => ?_, fun o ho => ?_, fun g hg => ?_, ?_⟩, hro, B.gd, ?_⟩, hE⟩
  · rcases hget o x ho with ⟨rfl, rfl⟩ | ho
    · refine ⟨by rw [nx_add]; omega, v, Inj.set_same .., h1, c', e', fr, hb, fun j x hx => ?_, fun h => absurd rfl h, fun h => by cases h⟩
      obtain ⟨y, hy, hv⟩ := hc j x hx
      exact ⟨y, hy, hv.mono mono⟩
    · obtain ⟨h2, u, hu, hor⟩ := B.rh.live o x ho
      exact ⟨by rw [nx_add]; omega, u, mono _ _ hu, hor.of_block mono rfl⟩
  · rw [hro o x ho] at hx; cases hx
  · rw [nx_add] at ho
    rw [Inj.set_other _ _ _ (by omega)]; exact B.rh.fresh o (by omega)
  · rw [Inj.set_other _ _ _ (by have := B.rh.gsize; omega)]; exact B.rh.glob g hg
  · rw [nx_add]; have := B.rh.gsize; omega
  · obtain ⟨x, u, a1, a2, a3, a4⟩ := B.some0
    exact ⟨x, u, by rw [get_add_ne (by omega)]; exact a1, by rw [Inj.set_other _ _ _ (by omega)]; exact a2, by rw [nx_add]; omega, a4⟩
/-- A whole part is built, whatever a part is built of. -/
def Builds (H : Type) (enc : TypeId × Value → H) (P : Program) (W : World) (n : Nat) (t : TypeId) : Prop := ∀ (cs : List Value) (d : DataW H) (ps : List MemPlace), DataW.trod enc P W 0 (fun _ => true) true n t cs = some (d, ps) →
  ∀ ι h, Base P ι h W → ∃ ι' h' ev, Ext1 h ι h' ι' ∧ Base P ι' h' W ∧ VRs ι' ev cs ∧ ev.all one = true ∧ DE P h' n t ev d
theorem VRs.mono1 {ι ι' : Inj} {h h' : Hp} (E : Ext1 h ι h' ι') (R : ∀ o, h.nx ≤ o → ι o = none) {a b : List Value} (hv : VRs ι a b) : VRs ι' a b := hv.mono fun o v hv => by
  have : o < h.nx := by
    rcases Nat.lt_or_ge o h.nx with hh | hh
    · exact hh
    · rw [R o hh] at hv; cases hv
  rw [E.inj o this]; exact hv
/-- Parts, one after the other. -/
theorem build_list {n : Nat} : ∀ (l : List (TypeId × List Value × DataW H)), (∀ p ∈ l, Builds H enc P W n p.1 ∧ ∃ ps, DataW.trod enc P W 0 (fun _ => true) true n p.1 p.2.1 = some (p.2.2, ps)) → ∀ ι h, Base P ι h W →
    ∃ ι' h', ∃ evs : List (List Value), Ext1 h ι h' ι' ∧ Base P ι' h' W ∧ evs.length = l.length ∧ VRs ι' evs.flatten (l.map (·.2.1)).flatten ∧ evs.flatten.all one = true ∧
      ∀ i (hi : i < l.length), ∃ ev, evs[i]? = some ev ∧ VRs ι' ev l[i].2.1 ∧ DE P h' n l[i].1 ev l[i].2.2 := by
  intro l
  induction l with
  | nil => intro _ ι h B; exact ⟨ι, h, [], .refl _ _, B, rfl, .nil _, rfl, fun i hi => absurd hi (Nat.not_lt_zero _)⟩
  | cons p l ih =>
    intro hl ι h B
    obtain ⟨hb, ps, hp⟩ := hl p (List.mem_cons_self ..)
    obtain ⟨ι1, h1, ev, E1, B1, V1, O1, D1⟩ := hb _ _ _ hp ι h B
    obtain ⟨ι2, h2, evs, E2, B2, L2, V2, O2, D2⟩ := ih (fun q hq => hl q (List.mem_cons_of_mem _ hq)) ι1 h1 B1
    have V1' := VRs.mono1 E2 B1.rh.fresh V1
    refine ⟨ι2, h2, ev :: evs, E1.trans E2, B2, by simp [L2], ?_, ?_, fun i hi => ?_⟩
    · rw [List.flatten_cons, List.map_cons, List.flatten_cons]; exact V1'.append V2
    · rw [List.flatten_cons, List.all_append, O1, O2]; rfl
    · cases i with
      | zero => exact ⟨ev, rfl, V1', D1.mono E2.nx E2.get⟩
      | succ i => exact D2 i (by simpa using hi)
theorem flat_row {l : List (List Value)} {w : Nat} (hw : ∀ x ∈ l, x.length = w) : l.flatten.length = l.length * w ∧ ∀ i x, l[i]? = some x → (l.flatten.drop (i * w)).take w = x := by
  induction l with
  | nil => exact ⟨by simp, fun i x h => by simp at h⟩
  | cons y l ih =>
    obtain ⟨h1, h2⟩ := ih fun x hx => hw x (List.mem_cons_of_mem _ hx)
    have hy := hw y (List.mem_cons_self ..)
    refine ⟨by rw [List.flatten_cons, List.length_append, h1, hy, List.length_cons, Nat.add_mul]; omega, fun i x hx => ?_⟩
    rw [List.flatten_cons]
    cases i with
    | zero =>
      simp at hx
      subst hx
      rw [Nat.zero_mul, List.drop_zero, ← hy, List.take_left]
    | succ i =>
      rw [List.drop_append, List.drop_of_length_le (by rw [hy, Nat.add_mul]; omega), List.nil_append, hy, show (i + 1) * w - w = i * w by rw [Nat.add_mul]; omega]
      exact h2 i x (by simpa using hx)
theorem build_int {n : Nat} {t : TypeId} {k : IntKind} (hu : P.underlying t = some (.int k)) : Builds H enc P W (n + 1) t := by
  intro cs d ps h ι hp B
  unfold DataW.trod at h
  rw [hu] at h
  rcases cs with _ | ⟨v, _ | ⟨w, r⟩⟩
  · cases h
  · cases v with
    | int k' x =>
      simp only at h
      split at h
      · rename_i hc
        injection h with h; injection h with h _
        subst h
        obtain ⟨rfl, hw⟩ := hc
        exact ⟨ι, hp, [.int k' x], .refl _ _, B, .of_flat rfl, rfl, by unfold DE; rw [hu]; exact ⟨rfl, rfl, hw⟩⟩
      · cases h
    | slice a len cap => cases a <;> cases len <;> cases cap <;> cases h
    | _ => cases h
  · cases v with
    | slice a len cap => cases a <;> cases len <;> cases cap <;> cases h
    | _ => cases h
end
end Go.Ev
