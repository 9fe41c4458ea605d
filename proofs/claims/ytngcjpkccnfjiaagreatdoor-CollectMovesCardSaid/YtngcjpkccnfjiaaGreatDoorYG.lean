/- Plain law: a collection from an address. -/
import Derived.Test.YtngcjpkccnfjiaaGreatDoorYF
import Derived.Test.YtngcjpkccnfjiaaGreatDoorYD
import Derived.Lib.LaidTab
import Derived.WalkKit
import Derived.ProofKit
import Derived.OpenShut
import Derived.Deep.DeepHandedRow
import Derived.Test.YtngcjpkccnfjiaaGreatDoorYE
import Derived.Test.YtngcjpkccnfjiaaGreatDoorCards
import Derived.Test.YtngcjpkccnfjiaaGreatDoorTie
namespace Go.Proofs.YtngcjpkccnfjiaaGreatDoor
open Go Go.Ev
theorem split_cells {W : List Int} {tp fr : Nat} : ∀ {f p : Nat} {l : List Nat}, cellsG W tp f p = some l → p ≤ fr → (fr = tp ∨ fr ∈ l) → ∃ old new, l = old ++ new ∧ (∀ x ∈ old, x < fr) ∧ (∀ x ∈ new, fr ≤ x) ∧ p + totalW W old = fr ∧ fr + totalW W new = tp ∧ (W.drop p).take (fr - p) = old.flatMap (chunkW W) ∧ addrs W p old = old := by
  intro f
  induction f with
  | zero => intro p l h; cases h
  | succ f ih =>
    intro p l h hp hf
    have hm := (cellsR_mem (cellsG_R h)).2
    have htot := cellsG_total h
    rcases cellsG_cons h with ⟨h1, h2, h3, l', rfl, h4⟩ | ⟨rfl, rfl⟩
    · by_cases hpf : p = fr
      · subst hpf
        exact ⟨[], p :: l', rfl, fun x h => (by cases h), fun x hx => (hm x hx).1, by simp [totalW], htot, by simp, rfl⟩
      · have hq : p + 1 + (hdS (W.getD p 0)).toNat ≤ fr := by
          rcases hf with rfl | hf
          · exact (cellsR_mem (cellsG_R h4)).1
          · rcases List.mem_cons.1 hf with rfl | hf
            · exact absurd rfl hpf
            · exact ((cellsR_mem (cellsG_R h4)).2 fr hf).1
        obtain ⟨old, new, e, o1, o2, o3, o4, o5, o6⟩ := ih h4 hq (hf.imp id fun h => (List.mem_cons.1 h).resolve_left fun hh => hpf hh.symm)
        have hsz : szW W p = 1 + (hdS (W.getD p 0)).toNat := rfl
        have ht : totalW W (p :: old) = szW W p + totalW W old := rfl
        refine ⟨p :: old, new, by rw [e]; rfl, fun x hx => ?_, o2, by omega, o4, ?_, ?_⟩
        · rcases List.mem_cons.1 hx with rfl | hx
          · omega
          · exact o1 x hx
        · rw [List.flatMap_cons, ← o5]
          have e1 : fr - p = (1 + (hdS (W.getD p 0)).toNat) + (fr - (p + 1 + (hdS (W.getD p 0)).toNat)) := by omega
          rw [e1, List.take_add, List.drop_drop]
          congr 3
          omega
        · show p :: addrs W (p + szW W p) old = p :: old
          rw [show p + szW W p = p + 1 + (hdS (W.getD p 0)).toNat by omega, o6]
    · have : fr = p := by rcases hf with h | h; exact h; cases h
      subst this
      exact ⟨[], [], rfl, fun x h => (by cases h), fun x h => (by cases h), by simp [totalW], by simp [totalW], by simp, rfl⟩
/-- A heap is collected from an address. -/
theorem run_from {W : List Int} {fr tp : Nat} {l old new : List Nat} (C : Col W fr tp l new) (hfr : fr ≤ W.length) (hW : W.length ≤ 1000) (hold : ∀ p ∈ old, p ∈ l) (h1 : 1 + totalW W old = fr) (htk : W.take fr = W.take 1 ++ old.flatMap (chunkW W)) {R more : List Int} (hR : ∀ w ∈ R, Vw l w) (hM : ∀ w ∈ more, Vw l w) :
    ∃ s f, runO W fr R more = some (s, R.map (mvw W fr s.ord), more.map (mvw W fr s.ord)) ∧ reachO W fr f 0 (withP fr (R ++ more ++ old.flatMap (strongP W)) []) = some s.ord ∧ St W fr new s (W.take 1 ++ (old ++ s.ord).flatMap (cellF W fr s.ord)) := by
  have S0 := start_st C hfr
  obtain ⟨s1, e1, m1, o1, p1, S1, t1⟩ := moves_st C R S0 hR
  obtain ⟨s2, e2, m2, o2, p2, S2, t2⟩ := moves_st C more S1 hM
  have o1' : s1.ord = e1 := by rw [o1]; rfl
  have o2' : s2.ord = e1 ++ e2 := by rw [o2, o1']
  have htn := C.tpn
  have hfr1 := C.fr1
  have hol := length_total W old
  have S2' : St W fr new s2 (W.take 1 ++ old.flatMap (chunkW W) ++ s2.ord.flatMap (chunkW W)) := by
    rw [o2', ← htk]; simpa [List.append_assoc] using S2
  have d1 : (W.take 1).length = 1 := by rw [List.length_take]; omega
  obtain ⟨s3, e3, m3, o3, p3, S3, t3⟩ := chg_old C old (W.length + 2 - old.length) (W.take 1) hold S2'
  have S3' : St W fr new s3 ((W.take 1 ++ old.flatMap (cellM W fr s3.ord)) ++ (s3.ord.drop 0).flatMap (chunkW W)) := by rw [List.drop_zero]; exact S3
  obtain ⟨s4, e4, m4, r4, o4, S4, t4⟩ := chg_st C hW (W.length + 2 - old.length) 0 _ S3' (Nat.zero_le _) (by omega)
  rw [List.drop_zero] at S4
  have eM : old.flatMap (cellM W fr s3.ord) = old.flatMap (cellM W fr s4.ord) := by
    have : ∀ (q : List Nat), (∀ p ∈ q, p ∈ old) → q.flatMap (cellM W fr s3.ord) = q.flatMap (cellM W fr s4.ord) := by
      intro q
      induction q with
      | nil => intro _; rfl
      | cons p q ih =>
        intro hq
        rw [List.flatMap_cons, List.flatMap_cons, ih fun x hx => hq x (List.mem_cons_of_mem _ hx)]
        congr 1
        unfold cellM
        congr 1
        cases hk : keepB (hdK (W.getD p 0)) with
        | false => rfl
        | true =>
          rw [if_pos rfl, if_pos rfl]
          exact List.map_congr_left fun w hw => by rw [o4, mvw_app (t3 p (hq p (List.mem_cons_self ..)) hk w hw)]
    exact this old fun _ h => h
  rw [eM] at S4
  have S4' : St W fr new s4 (W.take 1 ++ (old ++ s4.ord).flatMap (cellM W fr s4.ord)) := by
    rw [List.flatMap_append]; simpa [List.append_assoc] using S4
  have hlen := length_total W s4.ord
  have hfit := C.fit S4
  have htop := S4.top
  obtain ⟨s5, m5, o5, S5⟩ := chgW_st C (old ++ s4.ord) (W.length + 2) (W.take 1) (fun p hp => by
    rcases List.mem_append.1 hp with hp | hp
    · exact hold p hp
    · exact ((C.mem p).1 (S4.sub p hp)).1) S4' (by rw [List.length_append]; omega)
  rw [d1] at m5
  have ef : W.length + 2 - old.length + old.length = W.length + 2 := by omega
  rw [ef, d1] at m3
  have w12 : withP fr (R ++ more ++ old.flatMap (strongP W)) [] = s3.ord := by
    have app : ∀ (a b : List Int) (o : List Nat), withP fr (a ++ b) o = withP fr b (withP fr a o) := by
      intro a
      induction a with
      | nil => intro b o; rfl
      | cons x a ih => intro b o; rw [List.cons_append, withP_cons, ih, ← withP_cons]
    rw [app, app, show withP fr R [] = s1.ord from p1, p2, p3]
  refine ⟨s5, W.length + 2 - old.length, ?_, by rw [w12, r4, o5], by rw [o5]; exact S5⟩
  unfold runO
  rw [m1]
  show (movesO W fr more s1).bind _ = _
  rw [m2]
  show (chgO keepB (moveO W fr) (W.length + 2) 1 s2).bind _ = _
  rw [m3, m4]
  show (chgO (fun k => k == 5) (weakO W fr) (W.length + 2) 1 s4).map _ = _
  rw [m5]
  show some (s5, R.map (mvw W fr s1.ord), more.map (mvw W fr s2.ord)) = _
  have a1 : R.map (mvw W fr s1.ord) = R.map (mvw W fr s5.ord) := List.map_congr_left fun w hw => by rw [o5, o4, o3, o2, List.append_assoc, List.append_assoc, mvw_app (t1 w hw)]
  have a2 : more.map (mvw W fr s2.ord) = more.map (mvw W fr s5.ord) := List.map_congr_left fun w hw => by rw [o5, o4, o3, List.append_assoc, mvw_app (t2 w hw)]
  rw [a1, a2]
end Go.Proofs.YtngcjpkccnfjiaaGreatDoor
/- Contracts: Minor of the code. -/
namespace Go.Proofs.YtngcjpkccnfjiaaGreatDoor
set_option maxRecDepth 100000
open Go Go.Ev
/-- From where a heap may be collected. -/
def fromOk (l : List Nat) (top x : Int) : Bool := decide (x = top) || (l.map Int.ofNat).contains x
section
variable {O : CallF} (hO : Oth O) {g : Hp} (ok : g.Ok) {aw : Option Addr} {nw cw : Nat} {W : List Int} {top : Int} {ar : Option Addr} {nr cr : Nat} {R : List Int} (A : HA g aw nw cw W ar nr cr R)
include hO ok A
/-- 'Minor'. -/
theorem ct17 (tb : Tb g) {x : Int} {s : Mv} {rs ks : List Int} (hrun : ∀ l, checkP W top R = some l → fromOk l top x = true → runO W x.toNat R [] = some (s, rs, ks)) (lrs : rs.length < 1000000) :
    Ret Tryz.prog O 17 [.agg #[.slice aw nw cw, .int .i64 top, .slice ar nr cr], .int .i64 x] g (match checkP W top R with
      | none => HE g [] 0 [] 2
      | some l => if fromOk l top x then HE g s.D s.top rs 0 else HE g [] 0 [] 2) := by
  refine rk17 (hO := hO _ _ _ (by decide)) (hh := ?_) ..
  unfold T17
  intro g1 g2
  have n1' : g1.nx = g.nx + 1 := rfl
  have n2 : g2.nx = g.nx + 2 := rfl
  have n0 : 0 < g.nx := by have := tb.1; omega
  have k2 : Kp g.nx g g2 := ((Kp.refl _ g).add (Nat.le_refl _) _).add (Nat.le_succ _) _
  have s2 : g2.get g.nx = some (.cells [.slice aw nw cw, .int .i64 top, .slice ar nr cr] 24 .fix) := (get_add_ne (show g.nx ≠ g1.nx by omega)).trans (get_add_same ..)
  have r2 : g2.get g1.nx = some (.cells [.slice none 0 0, .int .i64 0, .slice none 0 0] 24 .fix) := get_add_same ..
  have ok2 : g2.Ok := ok.kp k2
  haveI : Ft g g2 := k2.ex (Nat.le_refl _)
  obtain ⟨v, h14, e14, a10, n11, c12, x13, rfl, k14, hx⟩ := ct65 hO ok2 (A.sw.to g2) A.w (A.sr.at_.to g2) A.r (tb.kp k2 n0) (top := top)
  have kg14 : Kp g.nx g h14 := k2.trans (k14.le (by omega))
  have ok14 : h14.Ok := ok2.kp k14
  have r14 := (k14.get g1.nx (by omega)).trans r2
  have s14 := (k14.get g.nx (by omega)).trans s2
  have m14 := k14.nx
  have bad : ∀ {Q : Value → Hp → Prop} (x7 : Int), x7 ≠ 0 → (∀ k, HE g [] 0 [] x7 (.tuple #[.agg #[.slice none 0 0, .int .i64 0, .slice none 0 0], .int .i64 x7]) k → Q (.tuple #[.agg #[.slice none 0 0, .int .i64 0, .slice none 0 0], .int .i64 x7]) k) → I17_0 O Q aw nw cw top ar nr cr x g.nx 0 g1.nx 0 x7 h14 := fun {Q} x7 h7 hQ => by
    refine I17_0.of (hh := ?_) ..
    unfold T17_0
    refine vcond_t (by rw [eqI_f h7]; rfl) ?_
    refine hand_on (top := 0) (K := fun a n c x a' n' c' k => Q (.tuple #[.agg #[.slice a n c, .int .i64 x, .slice a' n' c'], .int .i64 x7]) k) ok (by omega) (by omega) kg14 (HO.zero (Kp.refl h14.nx h14) ok14) r14 fun k hk => hQ k ⟨_, rfl, hk⟩
  refine ⟨_, _, _, _, _, _, _, rd3 s2, _, _, _, _, _, e14, ?_⟩
  cases hf : checkP W top R with
  | none =>
    rw [hf] at hx
    have hx : x13 = 2 := hx
    subst hx
    exact vcond_f rfl (bad 2 (by decide) fun k hk => hk)
  | some l =>
    rw [hf] at hx
    obtain ⟨hx, B⟩ := hx
    subst hx
    obtain ⟨f1, f2, f3, f4, f5, f6, f7, f8, f9⟩ := checkP_cells hf
    have hm := (cellsR_mem (cellsG_R f7)).2
    haveI : Ft g h14 := kg14.ex (Nat.le_refl _)
    have good : 1 ≤ x → x ≤ W.length → fromOk l top x = true → I17_0 O (if fromOk l top x then HE g s.D s.top rs 0 else HE g [] 0 [] 2) aw nw cw top ar nr cr x g.nx 0 g1.nx 0 0 h14 := fun hx1 hx2 hfo => by
      rw [if_pos hfo]
      obtain ⟨fr, rfl⟩ : ∃ m : Nat, x = Int.ofNat m := Int.eq_ofNat_of_zero_le (by omega)
      refine I17_0.of (hh := ?_) ..
      unfold T17_0
      obtain ⟨v, h38, e38, q⟩ := ct62 hO ok14 (A.sw.to h14) A.w (by omega) (A.sr.at_.to h14) A.r (by omega) (top := top) (SlAt.nil 1 EInt h14 : IntsAt h14 none 0 []) (fun x hx => by cases hx) (by decide) (cm := 0) (fr := fr) (Int.ofNat_le.1 hx2) (hrun l hf hfo)
      have q0 := q
      obtain ⟨p, ao, no, co, ar', nr', cr', ak, nk, ck, rfl, _⟩ := q0
      obtain ⟨u, kept, ptr, e, H⟩ := q.ho lrs
      injection e with e
      have e := congrArg Array.toList e
      injection e with e1 _
      subst e1
      refine vcond_f rfl ⟨_, _, _, _, _, _, _, rd3 s14, _, _, _, _, _, _, _, _, _, _, _, _, e38, ?_⟩
      intro g39
      have H0 := H
      obtain ⟨_, _, _, _, _, _, _, S1, S2, kp, ok38, fr1, fr2⟩ := H0
      have o39 : g39.get h38.nx = some (.cells [.slice none 0 0, .int .i64 0, .slice none 0 0] 24 .fix) := get_add_same ..
      have u39 : g39.guarded h38.nx = false := ok38.lt.free (h := g39) (Nat.le_refl _)
      obtain ⟨c1, w1⟩ := three_wr o39 u39 (w1 := .slice (some ⟨p.oW, 0, none⟩) p.n p.n) (w2 := .int .i64 (Int.ofNat s.top)) (w3 := .slice ar' nr' cr') rfl
      refine vreq_t c1 ?_
      intro g40
      have k40 : Kp h38.nx h38 g40 := ((Kp.refl _ h38).add (Nat.le_refl _) _).wr (Nat.le_refl _) _ _
      haveI : Ft h38 g40 := k40.ex (Nat.le_refl _)
      have m38 := kp.nx
      have H40 : HO h14 s.D s.top rs (.agg #[.slice (some ⟨p.oW, 0, none⟩) p.n p.n, .int .i64 (Int.ofNat s.top), .slice ar' nr' cr']) g40 := by
        obtain ⟨aw', nw', cw', ar2, nr2, cr2, e, S1, S2, kp, ok38, fr1, fr2⟩ := H
        exact ⟨aw', nw', cw', ar2, nr2, cr2, e, S1.to g40, S2.to g40, kp.trans (k40.le m38), ok38.kp k40, fr1, fr2⟩
      refine ⟨_, _, _, _, _, _, _, rd3 w1, ?_⟩
      exact hand_on ok (by omega) (by omega) kg14 H40 ((k40.get g1.nx (by omega)).trans ((kp.get g1.nx (by omega)).trans r14)) fun k hk => ⟨_, rfl, hk⟩
    have bad2 : fromOk l top x = false → I17_0 O (if fromOk l top x then HE g s.D s.top rs 0 else HE g [] 0 [] 2) aw nw cw top ar nr cr x g.nx 0 g1.nx 0 2 h14 := fun hfo => by
      rw [if_neg (by rw [hfo]; exact Bool.false_ne_true)]
      exact bad 2 (by decide) fun k hk => hk
    have mem : ∀ m : Nat, (l.map Int.ofNat).contains (Int.ofNat m) = decide (m ∈ l) := fun m => by
      rw [Bool.eq_iff_iff, List.contains_iff_mem, List.mem_map, decide_eq_true_eq]
      exact ⟨fun ⟨a, h, e⟩ => Int.ofNat_inj.1 e ▸ h, fun h => ⟨m, h, rfl⟩⟩
    show vcond (eqI 0 0) _ _
    refine vcond_t rfl ⟨_, read1 (i := 1) s14 rfl, vcond_split (fun h3 => ?_) fun h3 => ?_⟩
    · have h3 : x ≠ top := ne_of_f (nt_f h3)
      have out : (∀ m : Nat, x = Int.ofNat m → m ∉ l) → fromOk l top x = false := fun hh => by
        unfold fromOk
        rw [decide_eq_false h3, Bool.false_or, Bool.eq_false_iff, ne_eq, List.contains_iff_mem, List.mem_map]
        rintro ⟨a, ha, e⟩
        exact hh a e.symm ha
      refine vcond_split (fun h4 => bad2 (out fun m e hm' => ?_)) fun h4 => ?_
      · have h4 := lt_of_t h4
        have := hm m hm'
        rw [e] at h4
        have : (Int.ofNat m : Int) = (m : Int) := rfl
        omega
      have h4 := not_lt_of_f h4
      refine ⟨_, read1 (i := 1) s14 rfl, vcond_split (fun h5 => bad2 (out fun m e hm' => ?_)) fun h5 => ?_⟩
      · have h5 := not_lt_of_f (nt_f h5)
        have := hm m hm'
        rw [e] at h5
        have : (Int.ofNat m : Int) = (m : Int) := rfl
        omega
      have h5 := lt_of_t (nt_t h5)
      obtain ⟨m, rfl⟩ : ∃ m : Nat, x = Int.ofNat m := Int.eq_ofNat_of_zero_le (by omega)
      have em : (Int.ofNat m : Int) = (m : Int) := rfl
      have hmW : m < W.length := by omega
      have hmb : m < (beginP W l).length := by rw [begin_length]; exact hmW
      refine isNat_i (B.rd hmb (vcond_split (fun h6 => ?_) fun h6 => ?_))
      · have h6 : (beginP W l)[m] = false := nt_f h6
        refine bad2 (out fun m' e hm' => ?_)
        obtain rfl := Int.ofNat_inj.1 e
        have := (begin_get hmW).2 hm'
        simp [List.getD, List.getElem?_eq_getElem hmb, h6] at this
      · have h6 : (beginP W l)[m] = true := nt_t h6
        refine good (by omega) (by omega) ?_
        unfold fromOk
        rw [mem, decide_eq_true ((begin_get hmW).1 (by simp [List.getD, List.getElem?_eq_getElem hmb, h6])), Bool.or_true]
    · have h3 : x = top := eq_of_t (nt_t h3)
      exact good (by omega) (by omega) (by unfold fromOk; rw [decide_eq_true h3]; rfl)
end
end Go.Proofs.YtngcjpkccnfjiaaGreatDoor
/- Contracts: Where of the code; equality of lists. -/
namespace Go.Proofs.YtngcjpkccnfjiaaGreatDoor
set_option maxRecDepth 100000
open Go Go.Ev
def whereP (c : Option (List Nat)) (s : Mv) (x : Int) : Int × Int := match c with
  | none => (0, 2)
  | some l => if (l.map Int.ofNat).contains x then (if s.T.getD x.toNat 0 = 0 then (0, 5) else ((s.T.getD x.toNat 0 : Int), 0)) else (0, 2)
theorem mem_ofNat (l : List Nat) (m : Nat) : (l.map Int.ofNat).contains (Int.ofNat m) = decide (m ∈ l) := by
  rw [Bool.eq_iff_iff, List.contains_iff_mem, List.mem_map, decide_eq_true_eq]
  exact ⟨fun ⟨a, h, e⟩ => Int.ofNat_inj.1 e ▸ h, fun h => ⟨m, h, rfl⟩⟩
section
variable {O : CallF} (hO : Oth O)
include hO
/-- 'cell'. -/
theorem ct71 {h : Hp} {W : List Int} {l : List Nat} {a : Option Addr} {n c : Nat} (B : BoolsAt h a n (beginP W l)) (hl : ∀ x ∈ l, x < W.length) (x : Int) : EvT O 71 [.slice a n c, .int .i64 x] h (.bool ((l.map Int.ofNat).contains x)) h := by
  refine evt hO (rk71 _ _ _ _ (hO _ _ _ (by decide)) ?_)
  unfold T71
  have out : (∀ m : Nat, x = Int.ofNat m → m ∉ l) → (l.map Int.ofNat).contains x = false := fun hh => by
    rw [Bool.eq_false_iff, ne_eq, List.contains_iff_mem, List.mem_map]
    rintro ⟨a, ha, e⟩
    exact hh a e.symm ha
  have hn := B.1
  rw [begin_length] at hn
  refine vcond_split (fun h1 => ?_) fun h1 => ?_
  · have h1 := not_lt_of_f (nt_f h1)
    obtain ⟨m, rfl⟩ : ∃ m : Nat, x = Int.ofNat m := Int.eq_ofNat_of_zero_le (by omega)
    refine vcond_split (fun h2 => ?_) fun h2 => ?_
    · have h2 : m < W.length := by rw [hn] at h2; exact Int.ofNat_lt.1 (lt_of_t h2)
      have hmb : m < (beginP W l).length := by rw [begin_length]; exact h2
      refine isNat_i (B.rd hmb ⟨?_, rfl⟩)
      congr 1
      rw [mem_ofNat, Bool.eq_iff_iff, decide_eq_true_eq, ← begin_get h2]
      simp [List.getD, List.getElem?_eq_getElem hmb]
    · have h2 : ¬ m < W.length := fun hh => not_lt_of_f h2 (by rw [hn]; exact Int.ofNat_lt.2 hh)
      rw [out fun m' e hm => by obtain rfl := Int.ofNat_inj.1 e; exact h2 (hl m hm)]
      exact ⟨rfl, rfl⟩
  · have h1 := lt_of_t (nt_t h1)
    rw [out fun m' e hm => by have : (Int.ofNat m' : Int) = (m' : Int) := rfl; omega]
    exact ⟨rfl, rfl⟩
/-- 'Where'. -/
theorem ct20 {g : Hp} (ok : g.Ok) {aw : Option Addr} {nw cw : Nat} {W : List Int} {top : Int} {ar : Option Addr} {nr cr : Nat} {R : List Int} (A : HA g aw nw cw W ar nr cr R) (tb : Tb g) {x : Int} {s : Mv} {rs ks : List Int} (hrun : ∀ l, checkP W top R = some l → runO W 1 R [] = some (s, rs, ks)) :
    Ret Tryz.prog O 20 [.agg #[.slice aw nw cw, .int .i64 top, .slice ar nr cr], .int .i64 x] g fun v h' => v = .tuple #[.int .i64 (whereP (checkP W top R) s x).1, .int .i64 (whereP (checkP W top R) s x).2] ∧ Kp g.nx g h' := by
  refine rk20 (hO := hO _ _ _ (by decide)) (hh := ?_) ..
  unfold T20
  intro g1
  have n1' : g1.nx = g.nx + 1 := rfl
  have n0 : 0 < g.nx := by have := tb.1; omega
  have k1 : Kp g.nx g g1 := (Kp.refl _ g).add (Nat.le_refl _) _
  have s1 : g1.get g.nx = some (.cells [.slice aw nw cw, .int .i64 top, .slice ar nr cr] 24 .fix) := get_add_same ..
  have ok1 : g1.Ok := ok.add _
  haveI : Ft g g1 := k1.ex (Nat.le_refl _)
  obtain ⟨v, h13, e13, a9, n10, c11, x12, rfl, k13, hx⟩ := ct65 hO ok1 (A.sw.to g1) A.w (A.sr.at_.to g1) A.r (tb.kp k1 n0) (top := top)
  have kg13 : Kp g.nx g h13 := k1.trans (k13.le (by omega))
  have ok13 : h13.Ok := ok1.kp k13
  have s13 := (k13.get g.nx (by omega)).trans s1
  refine ⟨_, _, _, _, _, _, _, rd3 s1, _, _, _, _, _, e13, ?_⟩
  cases hf : checkP W top R with
  | none =>
    rw [hf] at hx
    have hx : x12 = 2 := hx
    subst hx
    exact vcond_f rfl (vcond_t rfl ⟨rfl, kg13⟩)
  | some l =>
    rw [hf] at hx
    obtain ⟨hx, B⟩ := hx
    subst hx
    obtain ⟨f1, f2, f3, f4, f5, f6, f7, f8, f9⟩ := checkP_cells hf
    have hm := (cellsR_mem (cellsG_R f7)).2
    haveI : Ft g h13 := kg13.ex (Nat.le_refl _)
    show vcond (eqI 0 0) _ _
    refine vcond_t rfl ⟨_, _, ct71 hO B (fun y hy => by have := hm y hy; omega) x, ?_⟩
    cases hcx : (l.map Int.ofNat).contains x with
    | false =>
      have hw : whereP (some l) s x = (0, 2) := by
        unfold whereP
        exact if_neg (by rw [hcx]; exact Bool.false_ne_true)
      rw [hw]
      exact vcond_t rfl ⟨rfl, kg13⟩
    | true =>
      have hcx0 := hcx
      rw [List.contains_iff_mem] at hcx
      obtain ⟨m, hml, rfl⟩ := List.mem_map.1 hcx
      refine vcond_f rfl (vcond_f rfl ?_)
      obtain ⟨v, h38, e38, q⟩ := ct62 hO ok13 (A.sw.to h13) A.w (by omega) (A.sr.at_.to h13) A.r (by omega) (top := top) (SlAt.nil 1 EInt h13 : IntsAt h13 none 0 []) (fun x hx => by cases hx) (by decide) (cm := 0) (fr := 1) (by omega) (hrun l hf)
      obtain ⟨p, ao, no, co, ar', nr', cr', ak, nk, ck, rfl, P, pn, pf, M, Ar, Ak, d1, d2, d3, kp, ok38⟩ := q
      refine ⟨_, _, _, _, _, _, _, rd3 s13, _, _, _, _, _, _, _, _, _, _, _, _, e38, ?_⟩
      intro g39
      have o39 : g39.get h38.nx = some (.cells [.slice none 0 0, .int .i64 0, .slice none 0 0] 24 .fix) := get_add_same ..
      have u39 : g39.guarded h38.nx = false := ok38.lt.free (h := g39) (Nat.le_refl _)
      obtain ⟨c1, w1⟩ := three_wr o39 u39 (w1 := .slice (some ⟨p.oW, 0, none⟩) p.n p.n) (w2 := .int .i64 (Int.ofNat s.top)) (w3 := .slice ar' nr' cr') rfl
      refine vreq_t c1 ?_
      intro g40
      have k40 : Kp h38.nx h38 g40 := ((Kp.refl _ h38).add (Nat.le_refl _) _).wr (Nat.le_refl _) _ _
      have M40 : MvAt p g40 s ao no co := M.kp P k40
      have kfin : Kp g.nx g g40 := kg13.trans ((kp.trans (k40.le kp.nx)).le kg13.nx)
      have hmT : m < s.T.length := by have := hm m hml; rw [M.lT, pn]; omega
      have hmn : m < p.n := by have := M.lT; omega
      have hw : whereP (some l) s (Int.ofNat m) = if s.T.getD m 0 = 0 then (0, 5) else ((s.T.getD m 0 : Int), 0) := by
        unfold whereP
        exact if_pos hcx0
      rw [hw]
      show ∃ a39 n40 c41, readAt g40 p.M (0 + 2) 1 = some [.slice a39 n40 c41] ∧ _
      refine ⟨_, _, _, M40.rd (i := 2) rfl, isNat_i ?_⟩
      show vreq _ _
      refine vreq_t (blt_t hmn) ⟨_, M40.rdT hmT, vcond_split (fun h1 => ?_) fun h1 => ?_⟩
      · have h1 : s.T.getD m 0 = 0 := Int.ofNat_inj.1 (eq_of_t h1)
        rw [if_pos h1]
        exact ⟨rfl, kfin⟩
      · have h1 : s.T.getD m 0 ≠ 0 := fun hh => ne_of_f h1 (by rw [hh]; rfl)
        rw [if_neg h1]
        show ∃ a48 n49 c50, readAt g40 p.M (0 + 2) 1 = some [.slice a48 n49 c50] ∧ _
        refine ⟨_, _, _, M40.rd (i := 2) rfl, isNat_i ?_⟩
        show vreq _ _
        exact vreq_t (blt_t hmn) ⟨_, M40.rdT hmT, rfl, kfin⟩
end
end Go.Proofs.YtngcjpkccnfjiaaGreatDoor
/- Contracts: Where of the reference; equality of lists. -/
namespace Go.Proofs.YtngcjpkccnfjiaaGreatDoor
set_option maxRecDepth 100000
open Go Go.Ev
def posE (W : List Int) (res : List Nat) (a : Nat) : Int × Int := if posF W 1 res a = 0 then (0, 5) else ((posF W 1 res a : Int), 0)
def whereR (c : Option (List Nat)) (W : List Int) (res : List Nat) (x : Int) : Int × Int := match c with
  | none => (0, 2)
  | some l => if (l.map Int.ofNat).contains x then posE W res x.toNat else (0, 2)
section
variable {O : CallF} (hO : Oth O)
include hO
theorem lp21 {h : Hp} {W : List Int} {a1 : Option Addr} {n1 c1 : Nat} {l : List Nat} (L : IntsAt h a1 n1 (l.map Int.ofNat)) {a2 : Option Addr} {n2 c2 : Nat} (T : IntsAt h a2 n2 ((addrs W 1 l).map Int.ofNat)) (lt : 1 + totalW W l < 1000000) (a0 : Option Addr) (n0 c0 : Nat) (x0 : Int) (a00 : Option Addr) (n00 c00 : Nat) (x4 x5 : Int) {a : Nat} {Q : Value → Hp → Prop} (hQ : Q (.tuple #[.int .i64 (posE W l a).1, .int .i64 (posE W l a).2]) h) :
    ∀ (d k : Nat), k + d = l.length → posF W 1 l a = posF W (1 + totalW W (l.take k)) (l.drop k) a → I21_0 O Q a0 n0 c0 x0 a00 n00 c00 (Int.ofNat a) x4 x5 a1 n1 c1 a2 n2 c2 (Int.ofNat k) h := by
  have _ := hO
  have hn := L.1
  rw [List.length_map] at hn
  have hn2 := T.1
  rw [List.length_map, addrs_length] at hn2
  have hll := length_total W l
  intro d
  induction d with
  | zero =>
    intro k hk hp
    refine I21_0.of (hh := ?_) ..
    unfold T21_0
    refine vcond_f (by rw [ltI_nat]; exact blt_f (by omega)) ?_
    rw [List.drop_of_length_le (by omega)] at hp
    have : posE W l a = (0, 5) := by unfold posE; rw [if_pos (show posF W 1 l a = 0 from hp)]
    rw [this] at hQ
    exact hQ
  | succ d ih =>
    intro k hk hp
    have hk' : k < l.length := by omega
    refine I21_0.of (hh := ?_) ..
    unfold T21_0
    rw [List.drop_eq_getElem_cons hk'] at hp
    refine vcond_t (by rw [ltI_nat]; exact blt_t (by omega)) (isNat_i (L.rd (k := k) (by simpa using hk') ?_))
    rw [List.getElem_map]
    refine vcond_split (fun h1 => ?_) fun h1 => ?_
    · have h1 : l[k] = a := Int.ofNat_inj.1 (eq_of_t h1)
      have hpos : posF W 1 l a = 1 + totalW W (l.take k) := by
        rw [hp]; unfold posF; rw [if_pos h1]
      refine isNat_i (T.rd (k := k) (by rw [List.length_map, addrs_length]; exact hk') ?_)
      rw [List.getElem_map]
      have ha := addrs_get W l 1 k hk'
      rw [List.getElem?_eq_getElem (by rw [addrs_length]; exact hk')] at ha
      rw [Option.some.inj ha, ← hpos]
      have : posE W l a = ((posF W 1 l a : Int), 0) := by unfold posE; rw [if_neg (by omega)]
      rw [this] at hQ
      exact hQ
    · have h1 : l[k] ≠ a := fun hh => ne_of_f h1 (by rw [hh])
      rw [wrap_succ (by omega)]
      refine ih (k + 1) (by omega) ?_
      rw [hp]
      conv => lhs; unfold posF
      rw [if_neg h1]
      congr 1
      rw [List.take_add_one, totalW_app, List.getElem?_eq_getElem hk']
      show _ = 1 + (totalW W (l.take k) + (szW W l[k] + 0))
      omega
/-- 'Where' of the reference. -/
theorem ct21 {g : Hp} (ok : g.Ok) {aw : Option Addr} {nw cw : Nat} {W : List Int} {top : Int} {ar : Option Addr} {nr cr : Nat} {R : List Int} (A : HA g aw nw cw W ar nr cr R) {x : Int} {res : List Nat} {f : Nat} (hres : ∀ l, formedR W top R = some l → reachO W 1 f 0 (withP 1 R []) = some res ∧ (∀ p ∈ res, CellAt W p) ∧ 1 + totalW W res ≤ W.length) :
    Ret Tryz.prog O 21 [.agg #[.slice aw nw cw, .int .i64 top, .slice ar nr cr], .int .i64 x] g fun v h' => v = .tuple #[.int .i64 (whereR (formedR W top R) W res x).1, .int .i64 (whereR (formedR W top R) W res x).2] ∧ Kp g.nx g h' := by
  refine rk21 (hO := hO _ _ _ (by decide)) (hh := ?_) ..
  unfold T21
  intro g1
  have n1' : g1.nx = g.nx + 1 := rfl
  have k1 : Kp g.nx g g1 := (Kp.refl _ g).add (Nat.le_refl _) _
  have s1 : g1.get g.nx = some (.cells [.slice aw nw cw, .int .i64 top, .slice ar nr cr] 24 .fix) := get_add_same ..
  have ok1 : g1.Ok := ok.add _
  haveI : Ft g g1 := k1.ex (Nat.le_refl _)
  obtain ⟨v, h13, e13, a9, n10, c11, rfl, X, k13⟩ := ct37 hO ok1 (A.to g1) (top := top)
  have kg13 : Kp g.nx g h13 := k1.trans (k13.le (by omega))
  have ok13 : h13.Ok := ok1.kp k13
  have s13 := (k13.get g.nx (by omega)).trans s1
  refine ⟨_, _, _, _, _, _, _, rd3 s1, _, _, _, _, _, e13, ?_⟩
  cases hf : formedR W top R with
  | none => exact vcond_f rfl (vcond_t rfl ⟨rfl, kg13⟩)
  | some l =>
    obtain ⟨f1, f2, f3, f4, f5, f6, f7, f8, f9⟩ := formedR_cells hf
    obtain ⟨q1, q2, q3⟩ := hres l hf
    have hm := (cellsR_mem f7).2
    rw [hf] at X
    have X : IntsAt h13 a9 n10 (l.map Int.ofNat) := X
    haveI : Ft g h13 := kg13.ex (Nat.le_refl _)
    have hlen : l.length < 100000 := by
      have : ∀ (f p : Nat) (l : List Nat), cellsR W top.toNat f p = some l → l.length + p ≤ top.toNat := by
        intro f
        induction f with
        | zero => intro p l h; cases h
        | succ f ih =>
          intro p l h
          rcases cellsR_cons h with ⟨_, _, _, l', rfl, h4⟩ | ⟨rfl, rfl⟩
          · have := ih _ _ h4
            simp only [List.length_cons]; omega
          · simp
      have := this _ _ _ f7
      omega
    refine vcond_t rfl ⟨_, _, ct67 hO X (by rw [List.length_map]; omega) x, ?_⟩
    cases hcx : (l.map Int.ofNat).contains x with
    | false =>
      have hw : whereR (some l) W res x = (0, 2) := by
        unfold whereR
        exact if_neg (by rw [hcx]; exact Bool.false_ne_true)
      rw [hw]
      exact vcond_t rfl ⟨rfl, kg13⟩
    | true =>
      have hcx0 := hcx
      rw [List.contains_iff_mem] at hcx
      obtain ⟨m, hml, rfl⟩ := List.mem_map.1 hcx
      have hw : whereR (some l) W res (Int.ofNat m) = posE W res m := by
        unfold whereR
        exact if_pos hcx0
      rw [hw]
      refine vcond_f rfl (vcond_f rfl ⟨_, _, _, _, _, _, _, rd3 s13, _, _, _, read1 (i := 2) s13 rfl, ct70 hO (g0 := g) ok13 A.sw A.w (by omega) (fr := 1) (A.sr.at_.to h13) A.r (by omega) q1 fun a n c h29 A29 k29 => ?_⟩)
      have kg29 : Kp g.nx g h29 := kg13.trans (k29.le kg13.nx)
      have ok29 : h29.Ok := ok13.kp k29
      have m13 := k13.nx
      haveI : Ft g h29 := kg29.ex (Nat.le_refl _)
      refine ⟨_, _, _, _, _, _, _, rd3 ((k29.get g.nx (by omega)).trans s13), ct72 hO (g0 := g) ok29 A.sw A.w A29.ints q2 (fr := 1) (by omega) fun a2 n2 c2 h41 T k41 => ?_⟩
      haveI : Ft h29 h41 := k41.ex (Nat.le_refl _)
      exact lp21 hO (A29.ints.to h41) T.ints (by omega) aw nw cw top ar nr cr 0 0 ⟨rfl, kg29.trans (k41.le kg29.nx)⟩ res.length 0 (by omega) rfl
end
end Go.Proofs.YtngcjpkccnfjiaaGreatDoor
/- Contracts: equality of lists; Same. -/
namespace Go.Proofs.YtngcjpkccnfjiaaGreatDoor
set_option maxRecDepth 100000
open Go Go.Ev
theorem eq_step {xs ys : List Int} {k : Nat} (hl : xs.length = ys.length) (hk : k < xs.length) : decide (xs.drop k = ys.drop k) = (decide (xs[k] = ys[k]'(by omega)) && decide (xs.drop (k + 1) = ys.drop (k + 1))) := by
  rw [List.drop_eq_getElem_cons hk, List.drop_eq_getElem_cons (show k < ys.length by omega), Bool.eq_iff_iff, Bool.and_eq_true, decide_eq_true_eq, decide_eq_true_eq, decide_eq_true_eq]
  exact ⟨fun h => by injection h with h1 h2; exact ⟨h1, h2⟩, fun ⟨h1, h2⟩ => by rw [h1, h2]⟩
section
variable {O : CallF} (hO : Oth O)
include hO
theorem ct73 {g : Hp} {a a1 : Option Addr} {n c n1 c1 : Nat} {xs ys : List Int} (X : IntsAt g a n xs) (Y : IntsAt g a1 n1 ys) (hl : xs.length < 1000000) : Ret Tryz.prog O 73 [.slice a n c, .slice a1 n1 c1] g fun v h' => v = .bool (decide (xs = ys)) ∧ Kp g.nx g h' := by
  have hx := X.1
  have hy := Y.1
  refine rk73 _ _ _ _ _ _ (hO _ _ _ (by decide)) ?_
  unfold T73
  refine vcond_split (fun h1 => ?_) fun h1 => ?_
  · have h1 := ne_of_f (nt_f h1)
    rw [decide_eq_false (fun hh => h1 (by rw [hx, hy, hh]))]
    exact ⟨rfl, .refl _ _⟩
  have h1 : xs.length = ys.length := by have := Int.ofNat_inj.1 (eq_of_t (nt_t h1)); omega
  have lp : ∀ (d k : Nat) (h : Hp), k + d = xs.length → Kp g.nx g h → decide (xs = ys) = decide (xs.drop k = ys.drop k) → I73_0 O (fun v h' => v = .bool (decide (xs = ys)) ∧ Kp g.nx g h') a n c a1 n1 c1 false (Int.ofNat k) h := by
    intro d
    induction d with
    | zero =>
      intro k h hk kp he
      refine I73_0.of (hh := ?_) ..
      unfold T73_0
      rw [List.drop_of_length_le (by omega), List.drop_of_length_le (by omega)] at he
      exact vcond_f (by rw [ltI_nat]; exact blt_f (by omega)) ⟨by rw [he]; rfl, kp⟩
    | succ d ih =>
      intro k h hk kp he
      refine I73_0.of (hh := ?_) ..
      unfold T73_0
      have hk' : k < xs.length := by omega
      rw [eq_step h1 hk'] at he
      refine vcond_t (by rw [ltI_nat]; exact blt_t (by omega)) ?_
      intro g101
      have kp1 : Kp g.nx g g101 := kp.rsv 9
      haveI : Ft g g101 := kp1.ex (Nat.le_refl _)
      refine isNat_i (X.rd hk' (isNat_i (Y.rd (k := k) (by omega) (vcond_split (fun h2 => ?_) fun h2 => ?_))))
      · rw [decide_eq_false (ne_of_f (nt_f h2)), Bool.false_and] at he
        exact ⟨by rw [he], kp1⟩
      · rw [decide_eq_true (eq_of_t (nt_t h2)), Bool.true_and] at he
        rw [wrap_succ (by omega)]
        exact ih (k + 1) g101 (by omega) kp1 he
  exact lp xs.length 0 g (by omega) (Kp.refl _ _) rfl
theorem ct131 {g : Hp} {a a1 : Option Addr} {n c n1 c1 : Nat} {xs ys : List Int} (X : IntsAt g a n xs) (Y : IntsAt g a1 n1 ys) (hl : xs.length < 1000000) : Ret Tryz.prog O 131 [.slice a n c, .slice a1 n1 c1] g fun v h' => v = .bool (decide (xs = ys)) ∧ Kp g.nx g h' := by
  have hx := X.1
  have hy := Y.1
  refine rk131 _ _ _ _ _ _ (hO _ _ _ (by decide)) ?_
  unfold T131
  refine vcond_split (fun h1 => ?_) fun h1 => ?_
  · have h1 := ne_of_f (nt_f h1)
    rw [decide_eq_false (fun hh => h1 (by rw [hx, hy, hh]))]
    exact ⟨rfl, .refl _ _⟩
  have h1 : xs.length = ys.length := by have := Int.ofNat_inj.1 (eq_of_t (nt_t h1)); omega
  have lp : ∀ (d k : Nat) (h : Hp), k + d = xs.length → Kp g.nx g h → decide (xs = ys) = decide (xs.drop k = ys.drop k) → I131_0 O (fun v h' => v = .bool (decide (xs = ys)) ∧ Kp g.nx g h') a n c a1 n1 c1 false (Int.ofNat k) h := by
    intro d
    induction d with
    | zero =>
      intro k h hk kp he
      refine I131_0.of (hh := ?_) ..
      unfold T131_0
      rw [List.drop_of_length_le (by omega), List.drop_of_length_le (by omega)] at he
      exact vcond_f (by rw [ltI_nat]; exact blt_f (by omega)) ⟨by rw [he]; rfl, kp⟩
    | succ d ih =>
      intro k h hk kp he
      refine I131_0.of (hh := ?_) ..
      unfold T131_0
      have hk' : k < xs.length := by omega
      rw [eq_step h1 hk'] at he
      refine vcond_t (by rw [ltI_nat]; exact blt_t (by omega)) ?_
      intro g101
      have kp1 : Kp g.nx g g101 := kp.rsv 9
      haveI : Ft g g101 := kp1.ex (Nat.le_refl _)
      refine isNat_i (X.rd hk' (isNat_i (Y.rd (k := k) (by omega) (vcond_split (fun h2 => ?_) fun h2 => ?_))))
      · rw [decide_eq_false (ne_of_f (nt_f h2)), Bool.false_and] at he
        exact ⟨by rw [he], kp1⟩
      · rw [decide_eq_true (eq_of_t (nt_t h2)), Bool.true_and] at he
        rw [wrap_succ (by omega)]
        exact ih (k + 1) g101 (by omega) kp1 he
  exact lp xs.length 0 g (by omega) (Kp.refl _ _) rfl
end
end Go.Proofs.YtngcjpkccnfjiaaGreatDoor
/- Contracts: Same. -/
namespace Go.Proofs.YtngcjpkccnfjiaaGreatDoor
set_option maxRecDepth 100000
open Go Go.Ev
/-- What 'Collect' comes to. -/
structure Out where
  W : List Int
  top : Nat
  R : List Int
  e : Int
def outC (c : Option (List Nat)) (s : Mv) (rs : List Int) : Out := match c with
  | none => ⟨[], 0, [], 2⟩
  | some _ => ⟨s.D, s.top, rs, 0⟩
def sameP (a b : Out) : Bool × Int := if a.e ≠ 0 then (false, a.e) else if b.e ≠ 0 then (false, b.e) else (decide (a.W.take a.top = b.W.take b.top) && decide (a.R = b.R), 0)
theorem HE.of {g : Hp} {c : Option (List Nat)} {s : Mv} {rs : List Int} {v : Value} {h : Hp} (q : (match c with
      | none => HE g [] 0 [] 2
      | some _ => HE g s.D s.top rs 0) v h) : HE g (outC c s rs).W (outC c s rs).top (outC c s rs).R (outC c s rs).e v h := by
  cases c with
  | none => exact q
  | some l => exact q
section
variable {O : CallF} (hO : Oth O)
include hO
/-- 'Same'. -/
theorem ct22 {g : Hp} (ok : g.Ok) (tb : Tb g) {aw : Option Addr} {nw cw : Nat} {W : List Int} {top : Int} {ar : Option Addr} {nr cr : Nat} {R : List Int} (A : HA g aw nw cw W ar nr cr R) {aw2 : Option Addr} {nw2 cw2 : Nat} {W2 : List Int} {top2 : Int} {ar2 : Option Addr} {nr2 cr2 : Nat} {R2 : List Int} (A2 : HA g aw2 nw2 cw2 W2 ar2 nr2 cr2 R2)
    {s s2 : Mv} {rs ks rs2 ks2 : List Int} (hrun : ∀ l, checkP W top R = some l → runO W 1 R [] = some (s, rs, ks)) (hrun2 : ∀ l, checkP W2 top2 R2 = some l → runO W2 1 R2 [] = some (s2, rs2, ks2)) (lrs : rs.length < 1000000) (lrs2 : rs2.length < 1000000)
    (b1 : (outC (checkP W top R) s rs).top ≤ (outC (checkP W top R) s rs).W.length) (b2 : (outC (checkP W2 top2 R2) s2 rs2).top ≤ (outC (checkP W2 top2 R2) s2 rs2).W.length) (bl : (outC (checkP W top R) s rs).W.length < 1000000) (br : (outC (checkP W top R) s rs).R.length < 1000000) :
    Ret Tryz.prog O 22 [.agg #[.slice aw nw cw, .int .i64 top, .slice ar nr cr], .agg #[.slice aw2 nw2 cw2, .int .i64 top2, .slice ar2 nr2 cr2]] g fun v h' => v = .tuple #[.bool (sameP (outC (checkP W top R) s rs) (outC (checkP W2 top2 R2) s2 rs2)).1, .int .i64 (sameP (outC (checkP W top R) s rs) (outC (checkP W2 top2 R2) s2 rs2)).2] ∧ Kp g.nx g h' := by
  refine rk22 (hO := hO _ _ _ (by decide)) (hh := ?_) ..
  unfold T22
  intro g1 g2
  have n1' : g1.nx = g.nx + 1 := rfl
  have n2 : g2.nx = g.nx + 2 := rfl
  have n0 : 0 < g.nx := by have := tb.1; omega
  have k2 : Kp g.nx g g2 := ((Kp.refl _ g).add (Nat.le_refl _) _).add (Nat.le_succ _) _
  have s0 : g2.get g.nx = some (.cells [.slice aw nw cw, .int .i64 top, .slice ar nr cr] 24 .fix) := (get_add_ne (show g.nx ≠ g1.nx by omega)).trans (get_add_same ..)
  have s1 : g2.get g1.nx = some (.cells [.slice aw2 nw2 cw2, .int .i64 top2, .slice ar2 nr2 cr2] 24 .fix) := get_add_same ..
  have ok2 : g2.Ok := ok.kp k2
  haveI : Ft g g2 := k2.ex (Nat.le_refl _)
  obtain ⟨v, h18, e18, q⟩ := ct15 hO ok2 (A.to g2) (tb.kp k2 n0) hrun lrs
  have q := HE.of q
  generalize outC (checkP W top R) s rs = o1 at q b1 bl br ⊢
  obtain ⟨u, rfl, a10, n11, c12, a14, n15, c16, rfl, S1, S2, kp18, ok18, _, _⟩ := q
  have kg18 : Kp g.nx g h18 := k2.trans (kp18.le (by omega))
  have m18 := kp18.nx
  refine ⟨_, _, _, _, _, _, _, rd3 s0, _, _, _, _, _, _, _, _, _, e18, ?_⟩
  intro g19
  obtain ⟨c1, w1⟩ := three_wr (show g19.get h18.nx = _ from get_add_same ..) (ok18.lt.free (h := g19) (Nat.le_refl _)) (w1 := .slice a10 n11 c12) (w2 := .int .i64 (Int.ofNat o1.top)) (w3 := .slice a14 n15 c16) rfl
  refine vreq_t c1 ?_
  intro g20
  have k20 : Kp h18.nx h18 g20 := ((Kp.refl _ h18).add (Nat.le_refl _) _).wr (Nat.le_refl _) _ _
  have n20 : g20.nx = h18.nx + 1 := by show (Hp.wr _ _ _ _).nx = _; rw [nx_wr, nx_add]
  have kg20 : Kp g.nx g g20 := kg18.trans (k20.le kg18.nx)
  have ok20 : g20.Ok := ok18.kp k20
  have kgn := kg18.nx
  unfold sameP
  refine vcond_split (fun h1 => ?_) fun h1 => ?_
  · rw [if_pos (ne_of_f (nt_f h1))]; exact ⟨rfl, kg20⟩
  rw [if_neg (not_not_intro (eq_of_t (nt_t h1)))]
  haveI : Ft g g20 := kg20.ex (Nat.le_refl _)
  obtain ⟨v, h36, e36, q2⟩ := ct15 hO ok20 (A2.to g20) (tb.kp kg20 n0) hrun2 lrs2
  have q2 := HE.of q2
  generalize outC (checkP W2 top2 R2) s2 rs2 = o2 at q2 b2 ⊢
  obtain ⟨u, rfl, a28, n29, c30, a32, n33, c34, rfl, S3, S4, kp36, ok36, _, _⟩ := q2
  have kg36 : Kp g.nx g h36 := kg20.trans (kp36.le (by omega))
  have m36 := kp36.nx
  refine ⟨_, _, _, _, _, _, _, rd3 ((k20.get g1.nx (by omega)).trans ((kp18.get g1.nx (by omega)).trans s1)), _, _, _, _, _, _, _, _, _, e36, ?_⟩
  intro g37
  obtain ⟨c2, w2⟩ := three_wr (show g37.get h36.nx = _ from get_add_same ..) (ok36.lt.free (h := g37) (Nat.le_refl _)) (w1 := .slice a28 n29 c30) (w2 := .int .i64 (Int.ofNat o2.top)) (w3 := .slice a32 n33 c34) rfl
  refine vreq_t c2 ?_
  intro g38
  have k38 : Kp h36.nx h36 g38 := ((Kp.refl _ h36).add (Nat.le_refl _) _).wr (Nat.le_refl _) _ _
  have n38 : g38.nx = h36.nx + 1 := by show (Hp.wr _ _ _ _).nx = _; rw [nx_wr, nx_add]
  have kg38 : Kp g.nx g g38 := kg36.trans (k38.le kg36.nx)
  refine vcond_split (fun h2 => ?_) fun h2 => ?_
  · rw [if_pos (ne_of_f (nt_f h2))]; exact ⟨rfl, kg38⟩
  rw [if_neg (not_not_intro (eq_of_t (nt_t h2)))]
  intro g39
  have kg39 : Kp g.nx g g39 := kg38.rsv 20
  have w1' : g39.get h18.nx = some (.cells [.slice a10 n11 c12, .int .i64 (Int.ofNat o1.top), .slice a14 n15 c16] 24 .fix) := (k38.get _ (by omega)).trans ((kp36.get _ (by omega)).trans w1)
  have w2' : g39.get h36.nx = some (.cells [.slice a28 n29 c30, .int .i64 (Int.ofNat o2.top), .slice a32 n33 c34] 24 .fix) := w2
  haveI f1 : Ft h18 g39 := (k20.trans (((kp36.trans (k38.le (by omega))).rsv 20).le (by omega))).ex (Nat.le_refl _)
  haveI f2 : Ft h36 g39 := (k38.rsv 20).ex (Nat.le_refl _)
  obtain ⟨a', c', es, sp⟩ := (S1.to g39).part (l := 0) (r := o1.top) (Nat.zero_le _) b1 (lo := none) (hi := some (.int .i64 (Int.ofNat o1.top))) (fun vis hv => bounds_hi (by have := S1.at_.1; omega))
  obtain ⟨a'', c'', es2, sp2⟩ := (S3.to g39).part (l := 0) (r := o2.top) (Nat.zero_le _) b2 (lo := none) (hi := some (.int .i64 (Int.ofNat o2.top))) (fun vis hv => bounds_hi (by have := S3.at_.1; omega))
  rw [List.drop_zero, Nat.sub_zero] at sp sp2
  rw [Nat.sub_zero] at es es2
  haveI fg : Ft g39 (g39.grd []) := ⟨fun _ _ => rfl, Nat.le_refl _⟩
  obtain ⟨v, h55, e55, rfl, k55⟩ := ct73 hO (c := c') (c1 := c'') (sp.at_.to (g39.grd [])) (sp2.at_.to (g39.grd [])) (by rw [List.length_take]; omega)
  refine ⟨_, _, _, read1 (i := 0) w1' rfl, _, read1 (i := 1) w1' rfl, _, _, _, es, _, _, _, read1 (i := 0) w2' rfl, _, read1 (i := 1) w2' rfl, _, _, _, es2, _, _, e55, ?_⟩
  intro g56
  have m55 : g39.nx ≤ h55.nx := k55.nx
  have k56 : Kp g39.nx g39 g56 := ⟨k55.get, m55, rfl, fun f => k55.fr f⟩
  have n39 : g39.nx = g38.nx + 20 := rfl
  have kg56 : Kp g.nx g g56 := kg39.trans (k56.le kg39.nx)
  cases hd : decide (o1.W.take o1.top = o2.W.take o2.top) with
  | false => exact vcond_f rfl ⟨by rw [Bool.false_and], kg56⟩
  | true =>
    rw [Bool.true_and]
    haveI f3 : Ft g39 (g56.grd []) := ⟨fun o ho => k56.get o ho, m55⟩
    obtain ⟨v, h64, e64, rfl, k64⟩ := ct73 hO (c := c16) (c1 := c34) ((S2.at_.to g39).to (g56.grd [])) ((S4.at_.to g39).to (g56.grd [])) br
    refine vcond_t rfl ⟨_, _, _, read1 (i := 2) ((k56.get _ (by omega)).trans w1') rfl, _, _, _, read1 (i := 2) ((k56.get _ (by omega)).trans w2') rfl, _, _, e64, ?_⟩
    intro g65
    exact ⟨rfl, kg56.trans (⟨fun o ho => k64.get o (by show o < g56.nx; have := kg56.nx; omega), k64.nx, rfl, fun f => k64.fr f⟩)⟩
/-- 'Equal' of the reference. -/
theorem ct74 {g : Hp} (ok : g.Ok) {a10 : Option Addr} {n11 c12 : Nat} {a14 : Option Addr} {n15 c16 : Nat} {W1 R1 : List Int} {t1 : Nat} (S1 : SI g a10 n11 c12 W1) (S2 : SI g a14 n15 c16 R1) {a28 : Option Addr} {n29 c30 : Nat} {a32 : Option Addr} {n33 c34 : Nat} {W2 R2 : List Int} {t2 : Nat} (S3 : SI g a28 n29 c30 W2) (S4 : SI g a32 n33 c34 R2) (b1 : t1 ≤ W1.length) (b2 : t2 ≤ W2.length) (bl : W1.length < 1000000) (br : R1.length < 1000000) :
    Ret Tryz.prog O 74 [.agg #[.slice a10 n11 c12, .int .i64 (Int.ofNat t1), .slice a14 n15 c16], .agg #[.slice a28 n29 c30, .int .i64 (Int.ofNat t2), .slice a32 n33 c34]] g fun v h' => v = .bool (decide (t1 = t2) && (decide (W1.take t1 = W2.take t2) && decide (R1 = R2))) ∧ Kp g.nx g h' := by
  have _ := ok
  refine rk74 (hO := hO _ _ _ (by decide)) (hh := ?_) ..
  unfold T74
  intro g1 g2 g3
  have n1' : g1.nx = g.nx + 1 := rfl
  have n3 : g3.nx = g.nx + 28 := rfl
  have k3 : Kp g.nx g g3 := (((Kp.refl _ g).add (Nat.le_refl _) _).add (Nat.le_succ _) _).rsv 26
  have s0 : g3.get g.nx = some (.cells [.slice a10 n11 c12, .int .i64 (Int.ofNat t1), .slice a14 n15 c16] 24 .fix) := (get_add_ne (show g.nx ≠ g1.nx by omega)).trans (get_add_same ..)
  have s1 : g3.get g1.nx = some (.cells [.slice a28 n29 c30, .int .i64 (Int.ofNat t2), .slice a32 n33 c34] 24 .fix) := get_add_same ..
  haveI f3 : Ft g g3 := k3.ex (Nat.le_refl _)
  refine ⟨_, read1 (i := 1) s0 rfl, _, read1 (i := 1) s1 rfl, vcond_split (fun h1 => ?_) fun h1 => ?_⟩
  · have h1 : t1 = t2 := Int.ofNat_inj.1 (eq_of_t h1)
    rw [decide_eq_true h1, Bool.true_and]
    obtain ⟨a', c', es, sp⟩ := (S1.to g3).part (l := 0) (r := t1) (Nat.zero_le _) b1 (lo := none) (hi := some (.int .i64 (Int.ofNat t1))) (fun vis hv => bounds_hi (by have := S1.at_.1; omega))
    obtain ⟨a'', c'', es2, sp2⟩ := (S3.to g3).part (l := 0) (r := t2) (Nat.zero_le _) b2 (lo := none) (hi := some (.int .i64 (Int.ofNat t2))) (fun vis hv => bounds_hi (by have := S3.at_.1; omega))
    rw [List.drop_zero, Nat.sub_zero] at sp sp2
    rw [Nat.sub_zero] at es es2
    haveI fg : Ft g3 (g3.grd []) := ⟨fun _ _ => rfl, Nat.le_refl _⟩
    obtain ⟨v, h55, e55, rfl, k55⟩ := ct131 hO (c := c') (c1 := c'') (sp.at_.to (g3.grd [])) (sp2.at_.to (g3.grd [])) (by rw [List.length_take]; omega)
    refine ⟨_, _, _, read1 (i := 0) s0 rfl, _, read1 (i := 1) s0 rfl, _, _, _, es, _, _, _, read1 (i := 0) s1 rfl, _, read1 (i := 1) s1 rfl, _, _, _, es2, _, _, e55, ?_⟩
    intro g56
    have m55 : g3.nx ≤ h55.nx := k55.nx
    have k56 : Kp g3.nx g3 g56 := ⟨k55.get, m55, rfl, fun f => k55.fr f⟩
    have kg56 : Kp g.nx g g56 := k3.trans (k56.le (by omega))
    cases hd : decide (W1.take t1 = W2.take t2) with
    | false => exact vcond_f rfl ⟨by rw [Bool.false_and], kg56⟩
    | true =>
      rw [Bool.true_and]
      haveI f4 : Ft g3 (g56.grd []) := ⟨fun o ho => k56.get o ho, m55⟩
      obtain ⟨v, h64, e64, rfl, k64⟩ := ct131 hO (c := c16) (c1 := c34) ((S2.at_.to g3).to (g56.grd [])) ((S4.at_.to g3).to (g56.grd [])) br
      refine vcond_t rfl ⟨_, _, _, read1 (i := 2) ((k56.get _ (by omega)).trans s0) rfl, _, _, _, read1 (i := 2) ((k56.get _ (by omega)).trans s1) rfl, _, _, e64, ?_⟩
      intro g65
      exact ⟨rfl, kg56.trans (⟨fun o ho => k64.get o (by show o < g56.nx; have := kg56.nx; omega), k64.nx, rfl, fun f => k64.fr f⟩)⟩
  · have h1 : t1 ≠ t2 := fun hh => ne_of_f h1 (by rw [hh])
    rw [decide_eq_false h1, Bool.false_and]
    exact ⟨rfl, k3⟩
end
end Go.Proofs.YtngcjpkccnfjiaaGreatDoor
/- Contracts: Same of the reference. -/
namespace Go.Proofs.YtngcjpkccnfjiaaGreatDoor
set_option maxRecDepth 100000
open Go Go.Ev
def outR (W : List Int) (R : List Int) (all res : List Nat) : Out := ⟨colD W 1 all res, 1 + totalW W res, R.map (mvw W 1 res), 0⟩
theorem colD_length (W : List Int) (fr : Nat) (all res : List Nat) : (colD W fr all res).length = W.length := by unfold colD; rw [putsP_length]; simp
def eqOut (a b : Out) : Bool := decide (a.top = b.top) && (decide (a.W.take a.top = b.W.take b.top) && decide (a.R = b.R))
def sameR (c1 c2 : Option (List Nat)) (a b : List Nat → Out) : Bool × Int := match c1, c2 with
  | some l1, some l2 => (eqOut (a l1) (b l2), 0)
  | _, _ => (false, 2)
section
variable {O : CallF} (hO : Oth O)
include hO
theorem ct23 {g : Hp} (ok : g.Ok) {aw : Option Addr} {nw cw : Nat} {W : List Int} {top : Int} {ar : Option Addr} {nr cr : Nat} {R : List Int} (A : HA g aw nw cw W ar nr cr R) {aw2 : Option Addr} {nw2 cw2 : Nat} {W2 : List Int} {top2 : Int} {ar2 : Option Addr} {nr2 cr2 : Nat} {R2 : List Int} (A2 : HA g aw2 nw2 cw2 W2 ar2 nr2 cr2 R2)
    {res res2 : List Nat} {f f2 : Nat} (hres : ∀ l, formedR W top R = some l → reachO W 1 f 0 (withP 1 R []) = some res ∧ (∀ p ∈ res, CellAt W p) ∧ 1 + totalW W res ≤ W.length) (hres2 : ∀ l, formedR W2 top2 R2 = some l → reachO W2 1 f2 0 (withP 1 R2 []) = some res2 ∧ (∀ p ∈ res2, CellAt W2 p) ∧ 1 + totalW W2 res2 ≤ W2.length) :
    Ret Tryz.prog O 23 [.agg #[.slice aw nw cw, .int .i64 top, .slice ar nr cr], .agg #[.slice aw2 nw2 cw2, .int .i64 top2, .slice ar2 nr2 cr2]] g fun v h' => v = .tuple #[.bool (sameR (formedR W top R) (formedR W2 top2 R2) (fun l => outR W R l res) (fun l => outR W2 R2 l res2)).1, .int .i64 (sameR (formedR W top R) (formedR W2 top2 R2) (fun l => outR W R l res) (fun l => outR W2 R2 l res2)).2] ∧ Kp g.nx g h' := by
  refine rk23 (hO := hO _ _ _ (by decide)) (hh := ?_) ..
  unfold T23
  intro g1 g2
  have n1' : g1.nx = g.nx + 1 := rfl
  have n2 : g2.nx = g.nx + 2 := rfl
  have k2 : Kp g.nx g g2 := ((Kp.refl _ g).add (Nat.le_refl _) _).add (Nat.le_succ _) _
  have s0 : g2.get g.nx = some (.cells [.slice aw nw cw, .int .i64 top, .slice ar nr cr] 24 .fix) := (get_add_ne (show g.nx ≠ g1.nx by omega)).trans (get_add_same ..)
  have s1 : g2.get g1.nx = some (.cells [.slice aw2 nw2 cw2, .int .i64 top2, .slice ar2 nr2 cr2] 24 .fix) := get_add_same ..
  have ok2 : g2.Ok := ok.kp k2
  haveI : Ft g g2 := k2.ex (Nat.le_refl _)
  obtain ⟨v, h11, e11, rfl, k11⟩ := ct63 hO ok2 (A.to g2) (top := top)
  have kg11 : Kp g.nx g h11 := k2.trans (k11.le (by omega))
  have ok11 : h11.Ok := ok2.kp k11
  have m11 := k11.nx
  refine ⟨_, _, _, _, _, _, _, rd3 s0, _, _, e11, ?_⟩
  cases hf : formedR W top R with
  | none => exact vcond_t rfl ⟨rfl, kg11⟩
  | some l1 =>
    haveI : Ft g h11 := kg11.ex (Nat.le_refl _)
    obtain ⟨v, h20, e20, rfl, k20⟩ := ct63 hO ok11 (A2.to h11) (top := top2)
    have kg20 : Kp g.nx g h20 := kg11.trans (k20.le (by omega))
    have ok20 : h20.Ok := ok11.kp k20
    have m20 := k20.nx
    refine vcond_f rfl ⟨_, _, _, _, _, _, _, rd3 ((k11.get g1.nx (by omega)).trans s1), _, _, e20, ?_⟩
    cases hf2 : formedR W2 top2 R2 with
    | none => exact vcond_t rfl ⟨rfl, kg20⟩
    | some l2 =>
      refine vcond_f rfl ?_
      intro g21
      have kg21 : Kp g.nx g g21 := kg20.rsv 7
      have t0 : g21.get g.nx = _ := (k20.get g.nx (by omega)).trans ((k11.get g.nx (by omega)).trans s0)
      have t1 : g21.get g1.nx = _ := (k20.get g1.nx (by omega)).trans ((k11.get g1.nx (by omega)).trans s1)
      have okg : (g21.grd [g1.nx]).Ok := (ok20.rsv 7).grd fun q hq => by
        have := List.mem_singleton.1 hq
        show q < h20.nx + 7
        omega
      haveI f21 : Ft g (g21.grd [g1.nx]) := ⟨fun o ho => kg21.get o ho, kg21.nx⟩
      obtain ⟨f1, f2', f3, f4, f5, f6, f7, f8, f9⟩ := formedR_cells hf
      obtain ⟨d1, d2, d3, d4, d5, d6, d7, d8, d9⟩ := formedR_cells hf2
      obtain ⟨tp, rfl⟩ : ∃ m : Nat, top = Int.ofNat m := Int.eq_ofNat_of_zero_le (by omega)
      obtain ⟨tp2, rfl⟩ : ∃ m : Nat, top2 = Int.ofNat m := Int.eq_ofNat_of_zero_le (by omega)
      obtain ⟨q1, q2, q3⟩ := hres l1 hf
      obtain ⟨r1, r2, r3⟩ := hres2 l2 hf2
      obtain ⟨v, h43, e43, H1⟩ := ct64 hO okg (A.to _) f2' f5 (Int.ofNat_le.1 f3) (Int.ofNat_le.1 f4) (show cellsR W tp (tp + 1) 1 = some l1 from f7) q1 q2 q3
      obtain ⟨a10, n11, c12, a14, n15, c16, rfl, S1, S2, k43, ok43, _, _⟩ := H1
      refine ⟨_, _, _, _, _, _, _, rd3 t0, _, _, _, _, _, _, _, rd3 t1, _, _, _, _, _, _, _, _, e43, ?_⟩
      intro g44
      have m43 : g21.nx ≤ h43.nx := k43.nx
      have k44 : Kp g21.nx g21 g44 := ⟨k43.get, m43, rfl, fun f => k43.fr f⟩
      have kg44 : Kp g.nx g g44 := kg21.trans (k44.le kg21.nx)
      have ok44 : g44.Ok := ok.kp kg44
      haveI f44 : Ft g (g44.grd []) := ⟨fun o ho => kg44.get o ho, kg44.nx⟩
      obtain ⟨v, h52, e52, H2⟩ := ct64 hO (g := g44.grd []) ok44 (A2.to _) d2 d5 (Int.ofNat_le.1 d3) (Int.ofNat_le.1 d4) (show cellsR W2 tp2 (tp2 + 1) 1 = some l2 from d7) r1 r2 r3
      obtain ⟨a28, n29, c30, a32, n33, c34, rfl, S3, S4, k52, ok52, _, _⟩ := H2
      refine ⟨_, _, _, _, _, _, _, _, e52, ?_⟩
      intro g53
      have m52 : g44.nx ≤ h52.nx := k52.nx
      have k53 : Kp g44.nx g44 g53 := ⟨k52.get, m52, rfl, fun f => k52.fr f⟩
      have kg53 : Kp g.nx g g53 := kg44.trans (k53.le kg44.nx)
      have ok53 : (g53.grd []).Ok := ok.kp kg53
      haveI x1 : Ft h43 (g53.grd []) := ⟨fun o ho => k53.get o ho, m52⟩
      haveI x2 : Ft h52 (g53.grd []) := ⟨fun _ _ => rfl, Nat.le_refl _⟩
      obtain ⟨v, h55, e55, rfl, k55⟩ := ct74 hO ok53 (S1.to (g53.grd [])) (S2.to (g53.grd [])) (S3.to (g53.grd [])) (S4.to (g53.grd [])) (t1 := 1 + totalW W res) (t2 := 1 + totalW W2 res2) (by rw [colD_length]; exact q3) (by rw [colD_length]; exact r3) (by rw [colD_length]; omega) (by rw [List.length_map]; omega)
      refine ⟨_, _, e55, ?_⟩
      intro g56
      exact ⟨rfl, kg53.trans ⟨fun o ho => k55.get o (by show o < g53.nx; have := kg53.nx; omega), k55.nx, rfl, fun f => k55.fr f⟩⟩
end
end Go.Proofs.YtngcjpkccnfjiaaGreatDoor
/- Plain law: a collection from an address, laid and moved. -/
namespace Go.Proofs.YtngcjpkccnfjiaaGreatDoor
open Go Go.Ev
theorem zip_self {α : Type} : ∀ (l : List α), l.zip l = l.map fun p => (p, p) := by
  intro l
  induction l with
  | nil => rfl
  | cons x l ih => show (x, x) :: l.zip l = _; rw [ih]; rfl
theorem takeWhile_split {fr : Nat} : ∀ (old new : List Nat), (∀ x ∈ old, x < fr) → (∀ x ∈ new, fr ≤ x) → (old ++ new).takeWhile (fun p => decide (p < fr)) = old := by
  intro old
  induction old with
  | nil =>
    intro new _ h
    cases new with
    | nil => rfl
    | cons y new =>
      have := h y (List.mem_cons_self ..)
      show List.takeWhile _ (y :: new) = []
      rw [List.takeWhile_cons_of_neg]
      simp; omega
  | cons x old ih =>
    intro new h1 h2
    show List.takeWhile _ (x :: (old ++ new)) = _
    rw [List.takeWhile_cons_of_pos (by simpa using h1 x (List.mem_cons_self ..)), ih new (fun y hy => h1 y (List.mem_cons_of_mem _ hy)) h2]
/-- A heap is collected from an address: by the code and by the reference. -/
theorem run_at {W : List Int} {top : Int} {R : List Int} {l : List Nat} (h : checkP W top R = some l) {fr : Nat} (hfo : fromOk l top (Int.ofNat fr) = true) :
    ∃ s f old, runO W fr R [] = some (s, R.map (mvw W fr s.ord), []) ∧ reachO W fr f 0 (withP fr (R ++ old.flatMap (strongP W)) []) = some s.ord ∧ l.takeWhile (fun p => decide (p < fr)) = old ∧ colD W fr l s.ord = s.D ∧ fr + totalW W s.ord = s.top ∧ (∀ p ∈ s.ord, CellAt W p) ∧ fr + totalW W s.ord ≤ W.length ∧ 1 ≤ fr := by
  obtain ⟨C1, hR⟩ := col_of h
  obtain ⟨f1, f2, f3, f4, f5, f6, f7, f8, f9⟩ := checkP_cells h
  have hm := (cellsR_mem (cellsG_R f7)).2
  have hfr : fr = top.toNat ∨ fr ∈ l := by
    unfold fromOk at hfo
    rw [Bool.or_eq_true, decide_eq_true_eq, mem_ofNat, decide_eq_true_eq] at hfo
    rcases hfo with e | e
    · left; rw [← e]; rfl
    · exact .inr e
  have h1 : 1 ≤ fr := by
    rcases hfr with e | e
    · omega
    · exact (hm fr e).1
  have htn := C1.tpn
  have hfW : fr ≤ W.length := by
    rcases hfr with e | e
    · omega
    · have := hm fr e; omega
  obtain ⟨old, new, e, o1, o2, o3, o4, o5, o6⟩ := split_cells f7 h1 hfr
  have C : Col W fr top.toNat l new := ⟨h1, htn, C1.cell, C1.word, fun p => ⟨fun hp => ⟨by rw [e]; exact List.mem_append.2 (.inr hp), o2 p hp⟩, fun ⟨hp, hge⟩ => by
    rw [e] at hp
    rcases List.mem_append.1 hp with hp | hp
    · have := o1 p hp; omega
    · exact hp⟩, Nat.le_of_eq o4⟩
  have hold : ∀ p ∈ old, p ∈ l := fun p hp => by rw [e]; exact List.mem_append.2 (.inl hp)
  have htk : W.take fr = W.take 1 ++ old.flatMap (chunkW W) := by
    rw [← o5]
    have : fr = 1 + (fr - 1) := by omega
    conv => lhs; rw [this, List.take_add]
  obtain ⟨s, f, r1, r2, S⟩ := run_from C hfW (by omega) hold o3 htk hR (more := []) (fun w h => by cases h)
  rw [List.append_nil] at r2
  have hgood : ∀ (f p : Nat) (l' : List Nat), cellsG W top.toNat f p = some l' → ∀ x ∈ l', goodB (hdS (W.getD x 0)) (hdK (W.getD x 0)) = true := by
    intro f
    induction f with
    | zero => intro p l' h; cases h
    | succ f ih =>
      intro p l' h x hx
      rcases cellsG_cons h with ⟨_, _, h3, l2, rfl, h4⟩ | ⟨rfl, rfl⟩
      · rcases List.mem_cons.1 hx with rfl | hx
        · exact h3
        · exact ih _ _ h4 x hx
      · cases hx
  have hk : ∀ p ∈ l, 1 ≤ hdK (W.getD p 0) ∧ hdK (W.getD p 0) ≤ 5 := fun p hp => kind_of (hgood _ _ _ f7 p hp)
  have hfit := C.fit S
  have htop := S.top
  have htw : l.takeWhile (fun p => decide (p < fr)) = old := by rw [e]; exact takeWhile_split old new o1 o2
  have hsl : ∀ p ∈ s.ord, p ∈ l := fun p hp => ((C.mem p).1 (S.sub p hp)).1
  refine ⟨s, f, old, r1, r2, htw, ?_, htop.symm, fun p hp => cellAt C (hsl p hp), by omega, h1⟩
  unfold colD
  rw [htw]
  have hW0 : W.take 1 = [0] := by
    have h0 : W.getD 0 0 = 0 := by
      unfold checkP at h
      split at h
      · cases h
      · rename_i hn
        exact Classical.not_not.1 fun hh => hn (.inr (.inr (.inr (.inr (.inl hh)))))
    cases W with
    | nil => simp at f1
    | cons w W => simp at h0; rw [h0]; rfl
  have ez : List.replicate W.length (0 : Int) = [0] ++ List.replicate (W.length - 1) 0 := by
    cases W with
    | nil => simp at f1
    | cons w W => rfl
  rw [← zip_self, putsP_app, ez]
  have p1 := puts_zip C hk (o := s.ord) old [0] (W.length - 1) hold (by omega)
  rw [show ([0] : List Int).length = 1 from rfl, o6] at p1
  rw [p1]
  have ln : ∀ (q : List Nat), (∀ p ∈ q, p ∈ l) → (q.flatMap (cellF W fr s.ord)).length = totalW W q := by
    intro q
    induction q with
    | nil => intro _; rfl
    | cons p q ih =>
      intro hq
      rw [List.flatMap_cons, List.length_append, cellF_length C hk (hq p (List.mem_cons_self ..)), ih fun x hx => hq x (List.mem_cons_of_mem _ hx)]
      rfl
  have hl2 : ([0] ++ old.flatMap (cellF W fr s.ord)).length = fr := by
    rw [List.length_append, ln old hold]
    show 1 + totalW W old = fr
    exact o3
  have p2 := puts_zip C hk (o := s.ord) s.ord ([0] ++ old.flatMap (cellF W fr s.ord)) (W.length - 1 - totalW W old) hsl (by omega)
  rw [hl2] at p2
  rw [p2, S.D, hW0, List.flatMap_append, htop]
  have ef : W.length - 1 - totalW W old - totalW W s.ord = W.length - (fr + totalW W s.ord) := by omega
  rw [ef]
  simp only [List.append_assoc]
end Go.Proofs.YtngcjpkccnfjiaaGreatDoor
/- Plain law: Where and Same. -/
namespace Go.Proofs.YtngcjpkccnfjiaaGreatDoor
open Go Go.Ev
/-- All of a whole collection. -/
theorem run_whole {W : List Int} {top : Int} {R : List Int} : ∃ s f, (∀ l, checkP W top R = some l → runO W 1 R [] = some (s, R.map (mvw W 1 s.ord), []) ∧ reachO W 1 f 0 (withP 1 R []) = some s.ord ∧ colD W 1 l s.ord = s.D ∧ 1 + totalW W s.ord = s.top ∧ (∀ p ∈ s.ord, CellAt W p) ∧ 1 + totalW W s.ord ≤ W.length ∧ s.D.length = W.length ∧ ∀ a, a < W.length → s.T.getD a 0 = posF W 1 s.ord a) := by
  cases hc : checkP W top R with
  | none => exact ⟨startM W 1, 0, fun l h => by cases h⟩
  | some l =>
    obtain ⟨f1, f2, _⟩ := checkP_cells hc
    obtain ⟨C, hR⟩ := col_of hc
    obtain ⟨s, h1, h2, h3⟩ := run_all C f1 (by omega) hR (more := []) (fun w h => by cases h)
    rw [List.append_nil] at h2
    refine ⟨s, W.length + 2, fun l' hl => ?_⟩
    obtain rfl := Option.some.inj hl
    obtain ⟨a, b, c, d⟩ := laid_run hc h3
    exact ⟨h1, h2, a, b, c, d, by rw [← a, colD_length], h3.T⟩
theorem where_same {W : List Int} {top : Int} {R : List Int} {s : Mv} (hT : ∀ l, checkP W top R = some l → ∀ a, a < W.length → s.T.getD a 0 = posF W 1 s.ord a) (x : Int) : whereP (checkP W top R) s x = whereR (formedR W top R) W s.ord x := by
  rw [formed_check]
  cases hc : checkP W top R with
  | none => rfl
  | some l =>
    unfold whereP whereR
    simp only
    cases hcx : (l.map Int.ofNat).contains x with
    | false => rfl
    | true =>
      rw [if_pos rfl, if_pos rfl]
      rw [List.contains_iff_mem] at hcx
      obtain ⟨m, hml, rfl⟩ := List.mem_map.1 hcx
      obtain ⟨f1, f2, f3, f4, f5, f6, f7, f8, f9⟩ := checkP_cells hc
      have := (cellsR_mem (cellsG_R f7)).2 m hml
      have e := hT l hc m (by omega)
      show (if s.T.getD m 0 = 0 then (0, 5) else ((s.T.getD m 0 : Int), 0)) = posE W s.ord m
      rw [e]; rfl
theorem eq_out {a b : Out} (ha : a.top ≤ a.W.length) (hb : b.top ≤ b.W.length) : eqOut a b = (decide (a.W.take a.top = b.W.take b.top) && decide (a.R = b.R)) := by
  unfold eqOut
  cases hd : decide (a.W.take a.top = b.W.take b.top) with
  | false => simp
  | true =>
    have h := congrArg List.length (of_decide_eq_true hd)
    rw [List.length_take, List.length_take] at h
    rw [decide_eq_true (show a.top = b.top by omega), Bool.true_and]
theorem same_same {W W2 : List Int} {top top2 : Int} {R R2 : List Int} {s s2 : Mv}
    (h1 : ∀ l, checkP W top R = some l → colD W 1 l s.ord = s.D ∧ 1 + totalW W s.ord = s.top ∧ 1 + totalW W s.ord ≤ W.length) (h2 : ∀ l, checkP W2 top2 R2 = some l → colD W2 1 l s2.ord = s2.D ∧ 1 + totalW W2 s2.ord = s2.top ∧ 1 + totalW W2 s2.ord ≤ W2.length) :
    sameP (outC (checkP W top R) s (R.map (mvw W 1 s.ord))) (outC (checkP W2 top2 R2) s2 (R2.map (mvw W2 1 s2.ord))) = sameR (formedR W top R) (formedR W2 top2 R2) (fun l => outR W R l s.ord) (fun l => outR W2 R2 l s2.ord) := by
  rw [formed_check, formed_check]
  cases hc : checkP W top R with
  | none => rfl
  | some l =>
    cases hc2 : checkP W2 top2 R2 with
    | none => rfl
    | some l2 =>
      obtain ⟨a1, a2, a3⟩ := h1 l hc
      obtain ⟨b1, b2, b3⟩ := h2 l2 hc2
      have o1 : outC (some l) s (R.map (mvw W 1 s.ord)) = outR W R l s.ord := by unfold outC outR; rw [a1, a2]
      have o2 : outC (some l2) s2 (R2.map (mvw W2 1 s2.ord)) = outR W2 R2 l2 s2.ord := by unfold outC outR; rw [b1, b2]
      rw [o1, o2]
      have e := eq_out (a := outR W R l s.ord) (b := outR W2 R2 l2 s2.ord) (by show 1 + totalW W s.ord ≤ (colD W 1 l s.ord).length; rw [colD_length]; exact a3) (by show 1 + totalW W2 s2.ord ≤ (colD W2 1 l2 s2.ord).length; rw [colD_length]; exact b3)
      show sameP _ _ = (eqOut _ _, 0)
      rw [e]
      rfl
end Go.Proofs.YtngcjpkccnfjiaaGreatDoor
/- Contracts: Minor of the reference. -/
namespace Go.Proofs.YtngcjpkccnfjiaaGreatDoor
set_option maxRecDepth 100000
open Go Go.Ev
theorem AccE.ints {e : TypeId} {h : Hp} {base : Nat} {a : Option Addr} {n c : Nat} {xs : List Int} (H : AccE h base e 1 a n c (xs.map (Value.int .i64))) : IntsAt h a n xs := by
  rcases H with H | ⟨h1, h2, h3, o, h4, h5, h6, e2, m, h7⟩
  · exact AccI.ints (e := e) (base := base) (c := c) H
  · have hx : xs = [] := by
      cases xs with
      | nil => rfl
      | cons x xs => cases h1
    subst hx h2 h4
    exact ⟨rfl, .inr ⟨o, 0, _, _, _, rfl, h6, h7, by simp, fun i hi => by simp at hi⟩⟩
/-- A list's numbers are appended. -/
theorem appEs {h : Hp} {base : Nat} {a : Option Addr} {n c : Nat} {xs : List Int} (A : AccE h base 3 1 a n c (xs.map (Value.int .i64))) (hb : base ≤ h.nx) (hg : GdLt h base) {a2 : Option Addr} {n2 c2 : Nat} {ys : List Int} (Y : IntsAt h a2 n2 ys) (hl : xs.length + ys.length < 1000000) :
    ∃ a' n' c' h', appendV Tryz.prog h 22 22 (.slice a n c) (.slice a2 n2 c2) = some (.slice a' n' c', h') ∧ AccE h' base 3 1 a' n' c' ((xs ++ ys).map (Value.int .i64)) ∧ Kp base h h' := by
  have hn : n = xs.length := (AccE.ints A).1
  have hn2 := Y.1
  obtain ⟨a', n', c', h', e1, A', en, k⟩ := append_accE AppT22 A hb hg ⟨_, _, _, rfl⟩ Y.src (by simp; omega) (by rw [List.all_map]; exact List.all_eq_true.2 fun _ _ => rfl) (by omega) (by unfold big; omega)
  exact ⟨a', n', c', h', e1, by rw [List.map_append]; exact A', k.kpE A hb⟩
section
variable {O : CallF} (hO : Oth O)
include hO
theorem lp18 {g : Hp} (okg0 : g.Ok) {aw : Option Addr} {cw : Nat} {W : List Int} {tp : Nat} {ar : Option Addr} {nr cr : Nat} {R : List Int} (A : HA g aw W.length cw W ar nr cr R) (lW : W.length ≤ 200) (lR : R.length ≤ 10) (h1 : 1 ≤ tp) (ht : tp ≤ W.length) {all : List Nat} (hall : cellsR W tp (tp + 1) 1 = some all) {fr : Nat} (hfr : 1 ≤ fr) {res : List Nat} {f : Nat} (hl : ∀ p ∈ res, CellAt W p) (hfit : fr + totalW W res ≤ W.length) {b2 b4 B0 : Nat} (hb2 : b2 < B0) (hb4 : g.nx ≤ b4) (hb4B : b4 < B0) (hgB : g.nx ≤ B0) (hcell : ∀ p ∈ all, CellAt W p)
    (a0 : Option Addr) (n0 c0 : Nat) (x0 : Int) (a00 : Option Addr) (n00 c00 : Nat) {a6 : Option Addr} {n6 c6 : Nat} :
    ∀ (d k : Nat) (ws : List Int) (h : Hp) (a8 : Option Addr) (n8 c8 : Nat), k + d = all.length → all.length ≤ 200 → ws.length ≤ 10 + 20 * k → h.Ok → Kp g.nx g h → B0 ≤ h.nx → h.get b2 = some (.cells [.slice aw W.length cw, .int .i64 (Int.ofNat tp), .slice ar nr cr] 24 .fix) → h.get b4 = some (.cells [.slice none 0 0, .int .i64 0, .slice none 0 0] 24 .fix) → IntsAt h a6 n6 (all.map Int.ofNat) → (∀ h', Kp B0 h h' → IntsAt h' a6 n6 (all.map Int.ofNat)) → AccE h B0 3 1 a8 n8 c8 (ws.map (Value.int .i64)) → (∀ x ∈ ws, In64 x) → reachO W fr f 0 (withP fr (ws ++ ((all.drop k).takeWhile (fun p => decide (p < fr))).flatMap (strongP W)) []) = some res →
    I18_0 O (HE g (colD W fr all res) (fr + totalW W res) (R.map (mvw W fr res)) 0) a0 n0 c0 x0 a00 n00 c00 (Int.ofNat fr) b2 0 b4 0 a6 n6 c6 a8 n8 c8 (Int.ofNat k) h := by
  intro d
  induction d with
  | zero =>
    intro k ws h a8 n8 c8 hk hla lws ok kp hBn gb gr X Xs E hws hres
    have hn6 := X.1
    rw [List.length_map] at hn6
    refine I18_0.of (hh := ?_) ..
    unfold T18_0
    rw [List.drop_of_length_le (by omega)] at hres
    have hres : reachO W fr f 0 (withP fr ws []) = some res := by simpa using hres
    refine vcond_f (by rw [ltI_nat]; exact blt_f (by omega)) ?_
    intro g127
    have kg127 : Kp g.nx g g127 := kp.rsv 9
    have n127 : g127.nx = h.nx + 9 := rfl
    have okg : (g127.grd [b2]).Ok := (ok.rsv 9).grd fun q hq => by
      have := List.mem_singleton.1 hq
      show q < h.nx + 9
      omega
    haveI f27 : Ft g (g127.grd [b2]) := ⟨fun o ho => kg127.get o ho, kg127.nx⟩
    haveI fh : Ft h (g127.grd [b2]) := ⟨fun _ _ => rfl, by show h.nx ≤ h.nx + 9; omega⟩
    refine ⟨_, _, _, _, _, _, _, rd3 (show g127.get b2 = _ from gb), _, _, _, _, _, _, _, rd3 (show g127.get b2 = _ from gb), ct70 hO (g0 := g) okg A.sw A.w (by omega) (fr := fr) ((AccE.ints E).to (g127.grd [b2])) hws (by omega) hres fun a n c h145 A145 k145 => ?_⟩
    intro g146
    have m145 : g127.nx ≤ h145.nx := k145.nx
    have k146 : Kp g127.nx g127 g146 := ⟨k145.get, m145, rfl, fun f => k145.fr f⟩
    have kg146 : Kp g.nx g g146 := kg127.trans (k146.le kg127.nx)
    have ok146 : g146.Ok := okg0.kp kg146
    haveI f46 : Ft g (g146.grd []) := ⟨fun o ho => kg146.get o ho, kg146.nx⟩
    have L46 : IntsAt (g146.grd []) a n (res.map Int.ofNat) := SlAt.keep A145.ints (fun _ _ _ => rfl) (Nat.le_refl _) (fun _ _ h => h)
    obtain ⟨oD, x, ac, nc, cc, h154, e154, hk⟩ := ct69 hO (g0 := g) (g := g146.grd []) ok146 A.sw A.w (by omega) h1 ht A.sr.at_ A.r (by omega) L46 hfr hall hl hfit (K := fun oD x ac nc cc h => x = Int.ofNat (fr + totalW W res) ∧ (∃ B, g146.nx ≤ B ∧ AccI 3 h B ac nc cc (R.map (mvw W fr res))) ∧ h.get oD = some (.cells ((colD W fr all res).map (Value.int .i64)) 3 .fix) ∧ oD < h.nx ∧ g146.nx ≤ oD ∧ h.Ok ∧ Kp g146.nx (g146.grd []) h) (fun oD ac nc cc h _ hB hD hx hg hok hkp => ⟨rfl, hB, hD, hx, hg, hok, hkp⟩)
    obtain ⟨rfl, ⟨B, hB, AB⟩, hD, hoD, hgo, ok154, k154⟩ := hk
    refine ⟨_, _, _, _, _, _, _, _, e154, ?_⟩
    intro g155
    have m154 : g146.nx ≤ h154.nx := k154.nx
    have r155 : g155.get b4 = _ := (k154.get b4 (by show b4 < g146.nx; have := k146.nx; omega)).trans ((k146.get b4 (by omega)).trans gr)
    have gd155 : GdLt g155 g.nx := fun q hq => okg0.lt.kp kg146 q hq
    obtain ⟨c1, w1⟩ := three_wr (h := g155.grd []) r155 (gd155.free hb4) (w1 := .slice (some ⟨oD, 0, none⟩) W.length W.length) (w2 := .int .i64 (Int.ofNat (fr + totalW W res))) (w3 := .slice ac nc cc) rfl
    refine vreq_t c1 ?_
    intro g156 g157
    have e157 : ∀ o, o ≠ b4 → g157.get o = h154.get o := fun o ho => wr_get_ne _ _ _ _ ho
    have n157 : g157.nx = h154.nx := nx_wr ..
    have n146 := k146.nx
    have ok157 : g157.Ok := ⟨fun q hq => by have : q < g.nx := okg0.lt.kp kg146 q hq; have := kp.nx; omega, fun q hq => by rw [e157 q (by omega)]; exact ok154.fr q (by omega)⟩
    have kgn := kp.nx
    refine ⟨_, _, _, _, _, _, _, rd3 (show g157.get b4 = _ from w1), _, rfl, _, _, _, _, _, _, rfl, SI.cells ((e157 oD (by omega)).trans hD) (by omega) (colD_length ..).symm (by rw [colD_length]; omega), ?_, ⟨fun o ho => (e157 o (by omega)).trans ((k154.get o (by show o < g146.nx; omega)).trans (kg146.get o ho)), by omega, kg146.gd, fun _ => ok157.fr⟩, ok157, fun o off ha => ?_, fun o off ha => ?_⟩
    · refine (SI.acc AB (by rw [List.length_map]; omega)).upd (fun o off ha => e157 o fun hh => ?_) (by omega)
      have := AB.fresh ha
      omega
    · injection ha with ha; injection ha with ha; omega
    · have := AB.fresh ha; omega
  | succ d ih =>
    intro k ws h a8 n8 c8 hk hla lws ok kp hBn gb gr X Xs E hws hres
    have hn6 := X.1
    rw [List.length_map] at hn6
    have hk' : k < all.length := by omega
    refine I18_0.of (hh := ?_) ..
    unfold T18_0
    rw [List.drop_eq_getElem_cons hk'] at hres
    refine vcond_t (by rw [ltI_nat]; exact blt_t (by omega)) (isNat_i (X.rd (k := k) (by simpa using hk') ?_))
    rw [List.getElem_map]
    refine vcond_split (fun h2 => ?_) fun h2 => ?_
    · have h2 : all[k] < fr := Int.ofNat_lt.1 (lt_of_t h2)
      rw [List.takeWhile_cons_of_pos (by simpa using h2)] at hres
      have hc := hcell _ (List.getElem_mem hk')
      intro g105
      have kg105 : Kp g.nx g g105 := kp.rsv 9
      haveI f5 : Ft h g105 := ⟨fun _ _ => rfl, Nat.le_add_right ..⟩
      haveI f5g : Ft g (g105.grd []) := ⟨fun o ho => kg105.get o ho, kg105.nx⟩
      refine ⟨_, _, _, _, _, _, _, rd3 (show g105.get b2 = _ from gb), isNat_i (X.rd (k := k) (by simpa using hk') ?_)⟩
      rw [List.getElem_map]
      refine ct68 hO (g0 := g) (g := g105.grd []) A.sw A.w (by omega) hc fun a3 n3 c3 h120 S k120 => ?_
      intro g121
      have m120 : h.nx + 9 ≤ h120.nx := k120.nx
      have k121 : Kp h.nx h g121 := ⟨fun o ho => k120.get o (by show o < h.nx + 9; omega), by show h.nx ≤ h120.nx; omega, rfl, fun f => k120.fr (ok.rsv 9).fr⟩
      have kg121 : Kp g.nx g g121 := kp.trans (k121.le kp.nx)
      haveI f21 : Ft g (g121.grd []) := ⟨fun o ho => kg121.get o ho, kg121.nx⟩
      have E21 : AccE (g121.grd []) B0 3 1 a8 n8 c8 (ws.map (Value.int .i64)) := E.keep (fun o ho _ => k121.get o ho) k121.nx
      have n121 := k121.nx
      have ls := strong_len hc
      obtain ⟨a', n', c', h125, e1, E', kB⟩ := appEs E21 (Nat.le_trans hBn n121) (fun q hq => by have : q < g.nx := okg0.lt.kp kg121 q hq; omega) (S.to (g121.grd [])) (by omega)
      refine ⟨_, _, _, _, e1, ?_⟩
      intro g126
      have m125 : g121.nx ≤ h125.nx := kB.nx
      have k126 : Kp B0 g121 g126 := ⟨kB.get, m125, rfl, fun f => kB.fr f⟩
      have kh126 : Kp B0 h g126 := (k121.le hBn).trans k126
      rw [wrap_succ (by omega)]
      refine ih (k + 1) (ws ++ strongP W all[k]) g126 a' n' c' (by omega) hla (by rw [List.length_append]; omega) (ok.kp kh126) (kp.trans (kh126.le hgB)) (Nat.le_trans hBn kh126.nx) ((kh126.get b2 hb2).trans gb) ((kh126.get b4 hb4B).trans gr) (Xs g126 kh126) (fun h' k' => Xs h' (kh126.trans k')) (E'.keep (fun _ _ _ => rfl) (Nat.le_refl _)) (fun x hx => ?_) (by rw [List.flatMap_cons, ← List.append_assoc] at hres; exact hres)
      rcases List.mem_append.1 hx with hx | hx
      · exact hws x hx
      · exact A.w x (strong_mem hx)
    · have h2 : ¬ all[k] < fr := fun hh => not_lt_of_f h2 (Int.ofNat_lt.2 hh)
      rw [List.takeWhile_cons_of_neg (by simpa using h2)] at hres
      have hres : reachO W fr f 0 (withP fr ws []) = some res := by simpa using hres
      intro g127
      have kg127 : Kp g.nx g g127 := kp.rsv 9
      have n127 : g127.nx = h.nx + 9 := rfl
      have okg : (g127.grd [b2]).Ok := (ok.rsv 9).grd fun q hq => by
        have := List.mem_singleton.1 hq
        show q < h.nx + 9
        omega
      haveI f27 : Ft g (g127.grd [b2]) := ⟨fun o ho => kg127.get o ho, kg127.nx⟩
      haveI fh : Ft h (g127.grd [b2]) := ⟨fun _ _ => rfl, by show h.nx ≤ h.nx + 9; omega⟩
      refine ⟨_, _, _, _, _, _, _, rd3 (show g127.get b2 = _ from gb), _, _, _, _, _, _, _, rd3 (show g127.get b2 = _ from gb), ct70 hO (g0 := g) okg A.sw A.w (by omega) (fr := fr) ((AccE.ints E).to (g127.grd [b2])) hws (by omega) hres fun a n c h145 A145 k145 => ?_⟩
      intro g146
      have m145 : g127.nx ≤ h145.nx := k145.nx
      have k146 : Kp g127.nx g127 g146 := ⟨k145.get, m145, rfl, fun f => k145.fr f⟩
      have kg146 : Kp g.nx g g146 := kg127.trans (k146.le kg127.nx)
      have ok146 : g146.Ok := okg0.kp kg146
      haveI f46 : Ft g (g146.grd []) := ⟨fun o ho => kg146.get o ho, kg146.nx⟩
      have L46 : IntsAt (g146.grd []) a n (res.map Int.ofNat) := SlAt.keep A145.ints (fun _ _ _ => rfl) (Nat.le_refl _) (fun _ _ h => h)
      obtain ⟨oD, x, ac, nc, cc, h154, e154, hk⟩ := ct69 hO (g0 := g) (g := g146.grd []) ok146 A.sw A.w (by omega) h1 ht A.sr.at_ A.r (by omega) L46 hfr hall hl hfit (K := fun oD x ac nc cc h => x = Int.ofNat (fr + totalW W res) ∧ (∃ B, g146.nx ≤ B ∧ AccI 3 h B ac nc cc (R.map (mvw W fr res))) ∧ h.get oD = some (.cells ((colD W fr all res).map (Value.int .i64)) 3 .fix) ∧ oD < h.nx ∧ g146.nx ≤ oD ∧ h.Ok ∧ Kp g146.nx (g146.grd []) h) (fun oD ac nc cc h _ hB hD hx hg hok hkp => ⟨rfl, hB, hD, hx, hg, hok, hkp⟩)
      obtain ⟨rfl, ⟨B, hB, AB⟩, hD, hoD, hgo, ok154, k154⟩ := hk
      refine ⟨_, _, _, _, _, _, _, _, e154, ?_⟩
      intro g155
      have m154 : g146.nx ≤ h154.nx := k154.nx
      have r155 : g155.get b4 = _ := (k154.get b4 (by show b4 < g146.nx; have := k146.nx; omega)).trans ((k146.get b4 (by omega)).trans gr)
      have gd155 : GdLt g155 g.nx := fun q hq => okg0.lt.kp kg146 q hq
      obtain ⟨c1, w1⟩ := three_wr (h := g155.grd []) r155 (gd155.free hb4) (w1 := .slice (some ⟨oD, 0, none⟩) W.length W.length) (w2 := .int .i64 (Int.ofNat (fr + totalW W res))) (w3 := .slice ac nc cc) rfl
      refine vreq_t c1 ?_
      intro g156 g157
      have e157 : ∀ o, o ≠ b4 → g157.get o = h154.get o := fun o ho => wr_get_ne _ _ _ _ ho
      have n157 : g157.nx = h154.nx := nx_wr ..
      have n146 := k146.nx
      have ok157 : g157.Ok := ⟨fun q hq => by have : q < g.nx := okg0.lt.kp kg146 q hq; have := kp.nx; omega, fun q hq => by rw [e157 q (by omega)]; exact ok154.fr q (by omega)⟩
      have kgn := kp.nx
      refine ⟨_, _, _, _, _, _, _, rd3 (show g157.get b4 = _ from w1), _, rfl, _, _, _, _, _, _, rfl, SI.cells ((e157 oD (by omega)).trans hD) (by omega) (colD_length ..).symm (by rw [colD_length]; omega), ?_, ⟨fun o ho => (e157 o (by omega)).trans ((k154.get o (by show o < g146.nx; omega)).trans (kg146.get o ho)), by omega, kg146.gd, fun _ => ok157.fr⟩, ok157, fun o off ha => ?_, fun o off ha => ?_⟩
      · refine (SI.acc AB (by rw [List.length_map]; omega)).upd (fun o off ha => e157 o fun hh => ?_) (by omega)
        have := AB.fresh ha
        omega
      · injection ha with ha; injection ha with ha; omega
      · have := AB.fresh ha; omega
end
end Go.Proofs.YtngcjpkccnfjiaaGreatDoor
/- Contracts: Minor of the reference. -/
namespace Go.Proofs.YtngcjpkccnfjiaaGreatDoor
set_option maxRecDepth 100000
open Go Go.Ev
section
variable {O : CallF} (hO : Oth O)
include hO
theorem ct18 {g : Hp} (ok : g.Ok) {aw : Option Addr} {nw cw : Nat} {W : List Int} {top : Int} {ar : Option Addr} {nr cr : Nat} {R : List Int} (A : HA g aw nw cw W ar nr cr R) {x : Int} {res : List Nat} {f : Nat} (hres : ∀ l, formedR W top R = some l → fromOk l top x = true → reachO W x.toNat f 0 (withP x.toNat (R ++ (l.takeWhile (fun p => decide (p < x.toNat))).flatMap (strongP W)) []) = some res ∧ (∀ p ∈ res, CellAt W p) ∧ x.toNat + totalW W res ≤ W.length ∧ 1 ≤ x.toNat) :
    Ret Tryz.prog O 18 [.agg #[.slice aw nw cw, .int .i64 top, .slice ar nr cr], .int .i64 x] g (match formedR W top R with
      | none => HE g [] 0 [] 2
      | some l => if fromOk l top x then HE g (colD W x.toNat l res) (x.toNat + totalW W res) (R.map (mvw W x.toNat res)) 0 else HE g [] 0 [] 2) := by
  have hn := A.sw.at_.1
  subst hn
  refine rk18 (hO := hO _ _ _ (by decide)) (hh := ?_) ..
  unfold T18
  intro g1 g2
  have n1' : g1.nx = g.nx + 1 := rfl
  have n2 : g2.nx = g.nx + 2 := rfl
  have k2 : Kp g.nx g g2 := ((Kp.refl _ g).add (Nat.le_refl _) _).add (Nat.le_succ _) _
  have s2 : g2.get g.nx = some (.cells [.slice aw W.length cw, .int .i64 top, .slice ar nr cr] 24 .fix) := (get_add_ne (show g.nx ≠ g1.nx by omega)).trans (get_add_same ..)
  have r2 : g2.get g1.nx = some (.cells [.slice none 0 0, .int .i64 0, .slice none 0 0] 24 .fix) := get_add_same ..
  have ok2 : g2.Ok := ok.kp k2
  haveI : Ft g g2 := k2.ex (Nat.le_refl _)
  obtain ⟨v, h11, e11, rfl, k11⟩ := ct63 hO ok2 (A.to g2) (top := top)
  have kg11 : Kp g.nx g h11 := k2.trans (k11.le (by omega))
  have ok11 : h11.Ok := ok2.kp k11
  have r11 := (k11.get g1.nx (by omega)).trans r2
  have s11 := (k11.get g.nx (by omega)).trans s2
  have m11 := k11.nx
  refine ⟨_, _, _, _, _, _, _, rd3 s2, _, _, e11, ?_⟩
  cases hf : formedR W top R with
  | none =>
    refine vcond_t rfl ?_
    exact hand_on (top := 0) (K := fun a n c x a' n' c' k => HE g [] 0 [] 2 (.tuple #[.agg #[.slice a n c, .int .i64 x, .slice a' n' c'], .int .i64 2]) k) ok (by omega) (by omega) kg11 (HO.zero (Kp.refl h11.nx h11) ok11) r11 fun k hk => ⟨_, rfl, hk⟩
  | some l =>
    obtain ⟨f1, f2, f3, f4, f5, f6, f7, f8, f9⟩ := formedR_cells hf
    obtain ⟨tp, rfl⟩ : ∃ m : Nat, top = Int.ofNat m := Int.eq_ofNat_of_zero_le (by omega)
    have h1 : 1 ≤ tp := Int.ofNat_le.1 f3
    have ht : tp ≤ W.length := Int.ofNat_le.1 f4
    have hall : cellsR W tp (tp + 1) 1 = some l := f7
    have hm := (cellsR_mem hall).2
    haveI : Ft g h11 := kg11.ex (Nat.le_refl _)
    have hlen : l.length ≤ 200 := by
      have : ∀ (f p : Nat) (l : List Nat), cellsR W tp f p = some l → l.length + p ≤ tp := by
        intro f
        induction f with
        | zero => intro p l h; cases h
        | succ f ih =>
          intro p l h
          rcases cellsR_cons h with ⟨_, _, _, l', rfl, h4⟩ | ⟨rfl, rfl⟩
          · have := ih _ _ h4
            simp only [List.length_cons]; omega
          · simp
      have := this _ _ _ hall
      omega
    refine vcond_f rfl ⟨_, _, _, _, _, _, _, rd3 s11, ct66 hO ok11 (A.sw.at_.to h11) A.w h1 ht (by omega) (fun a n c h' k' hc => ?_) fun l' a n c h31 hc k31 A31 => ?_⟩
    · rw [hall] at hc; cases hc
    obtain rfl : l = l' := Option.some.inj (hall.symm.trans hc)
    have m31 := k31.nx
    have kg31 : Kp g.nx g h31 := kg11.trans (k31.le kg11.nx)
    have ok31 : h31.Ok := ok11.kp k31
    have s31 := (k31.get g.nx (by omega)).trans s11
    have r31 := (k31.get g1.nx (by omega)).trans r11
    have go : fromOk l (Int.ofNat tp) x = true → (let g51 : Hp := h31.add (.cells [] 3 .fix)
        ∃ a52 n53 c54, readAt g51 g.nx 2 1 = some [.slice a52 n53 c54] ∧ ∃ a55 n56 c57 h58, appendV Tryz.prog g51 22 22 (.slice (some ⟨h31.nx, 0, none⟩) 0 0) (.slice a52 n53 c54) = some (.slice a55 n56 c57, h58) ∧ I18_0 O (if fromOk l (Int.ofNat tp) x then HE g (colD W x.toNat l res) (x.toNat + totalW W res) (R.map (mvw W x.toNat res)) 0 else HE g [] 0 [] 2) aw W.length cw (Int.ofNat tp) ar nr cr x g.nx 0 g1.nx 0 a n c a55 n56 c57 0 h58) := fun hfo => by
      rw [if_pos hfo]
      obtain ⟨q1, q2, q3, q4⟩ := hres l hf hfo
      obtain ⟨fr, rfl⟩ : ∃ m : Nat, x = Int.ofNat m := Int.eq_ofNat_of_zero_le (by
        have : ¬ x.toNat = 0 := by omega
        rcases Int.lt_or_le x 0 with h | h
        · exact absurd (Int.toNat_of_nonpos (by omega)) this
        · exact h)
      intro g51
      have n51 : g51.nx = h31.nx + 1 := rfl
      have k51 : Kp h31.nx h31 g51 := (Kp.refl _ h31).add (Nat.le_refl _) _
      have kg51 : Kp g.nx g g51 := kg31.trans (k51.le kg31.nx)
      haveI : Ft g g51 := kg51.ex (Nat.le_refl _)
      have kgn := kg31.nx
      have E0 : AccE g51 h31.nx 3 1 (some ⟨h31.nx, 0, none⟩) 0 0 (([] : List Int).map (Value.int .i64)) := .inr ⟨rfl, rfl, rfl, h31.nx, rfl, Nat.le_refl _, Nat.lt_succ_self _, 3, .fix, get_add_same ..⟩
      obtain ⟨a', n', c', h58, e1, E', kB⟩ := appEs E0 (by omega) (fun q hq => by have : q < g.nx := ok.lt.kp kg51 q hq; omega) (A.sr.at_.to g51) (by simp; omega)
      have k58 : Kp h31.nx h31 h58 := k51.trans kB
      rw [List.nil_append] at E'
      refine ⟨_, _, _, read1 (i := 2) ((k51.get g.nx (by omega)).trans s31) rfl, _, _, _, _, e1, ?_⟩
      have st : ∀ h', Kp h31.nx h58 h' → IntsAt h' a n (l.map Int.ofNat) := fun h' k' => by
        haveI : Ft h31 h' := (k58.trans k').ex (Nat.le_refl _)
        exact A31.ints.to h'
      exact lp18 hO ok A f2 f5 h1 ht hall q4 q2 q3 (B0 := h31.nx) (by omega) (by omega) (by omega) kgn (fun p hp => by obtain ⟨y1, y2, y3, y4, y5⟩ := hm p hp; exact ⟨by omega, y3, y4, by omega⟩) aw W.length cw (Int.ofNat tp) ar nr cr l.length 0 R h58 a' n' c' (by omega) hlen (by omega) (ok31.kp k58) (kg31.trans (k58.le kgn)) k58.nx ((k58.get g.nx (by omega)).trans s31) ((k58.get g1.nx (by omega)).trans r31) (st h58 (Kp.refl _ _)) st E' A.r q1
    refine ⟨_, read1 (i := 1) s31 rfl, vcond_split (fun h3 => ?_) fun h3 => go ?_⟩
    · have h3 : x ≠ Int.ofNat tp := ne_of_f (nt_f h3)
      have efo : fromOk l (Int.ofNat tp) x = (l.map Int.ofNat).contains x := by unfold fromOk; rw [decide_eq_false h3, Bool.false_or]
      refine ⟨_, _, ct67 hO A31.ints (by rw [List.length_map]; omega) x, vcond_split (fun h4 => ?_) fun h4 => go (by rw [efo]; exact nt_t h4)⟩
      have ne : ¬ fromOk l (Int.ofNat tp) x = true := by rw [efo, nt_f h4]; exact Bool.false_ne_true
      exact hand_on (top := 0) (K := fun a n c y a' n' c' k => (if fromOk l (Int.ofNat tp) x then HE g (colD W x.toNat l res) (x.toNat + totalW W res) (R.map (mvw W x.toNat res)) 0 else HE g [] 0 [] 2) (.tuple #[.agg #[.slice a n c, .int .i64 y, .slice a' n' c'], .int .i64 2]) k) ok (by omega) (by omega) kg31 (HO.zero (Kp.refl h31.nx h31) ok31) r31 fun k hk => by
        rw [if_neg ne]
        exact ⟨_, rfl, hk⟩
    · unfold fromOk
      rw [decide_eq_true (eq_of_t (nt_t h3)), Bool.true_or]
end
end Go.Proofs.YtngcjpkccnfjiaaGreatDoor
/- Contracts: equal of heaps that are one. -/
namespace Go.Proofs.YtngcjpkccnfjiaaGreatDoor
set_option maxRecDepth 100000
open Go Go.Ev
section
variable {O : CallF} (hO : Oth O)
include hO
theorem ct19 {g : Hp} {a10 : Option Addr} {n11 c12 : Nat} {a14 : Option Addr} {n15 c16 : Nat} {W R : List Int} {t : Int} (S1 : IntsAt g a10 n11 W) (S2 : IntsAt g a14 n15 R) {a28 : Option Addr} {n29 c30 : Nat} {a32 : Option Addr} {n33 c34 : Nat} (S3 : IntsAt g a28 n29 W) (S4 : IntsAt g a32 n33 R) (bl : W.length < 1000000) (br : R.length < 1000000) :
    Ret Tryz.prog O 19 [.agg #[.slice a10 n11 c12, .int .i64 t, .slice a14 n15 c16], .agg #[.slice a28 n29 c30, .int .i64 t, .slice a32 n33 c34]] g fun v h' => v = .bool true ∧ Kp g.nx g h' := by
  refine rk19 (hO := hO _ _ _ (by decide)) (hh := ?_) ..
  unfold T19
  intro g1 g2
  have n1' : g1.nx = g.nx + 1 := rfl
  have n2 : g2.nx = g.nx + 2 := rfl
  have k2 : Kp g.nx g g2 := ((Kp.refl _ g).add (Nat.le_refl _) _).add (Nat.le_succ _) _
  have s0 : g2.get g.nx = some (.cells [.slice a10 n11 c12, .int .i64 t, .slice a14 n15 c16] 24 .fix) := (get_add_ne (show g.nx ≠ g1.nx by omega)).trans (get_add_same ..)
  have s1 : g2.get g1.nx = some (.cells [.slice a28 n29 c30, .int .i64 t, .slice a32 n33 c34] 24 .fix) := get_add_same ..
  haveI : Ft g g2 := k2.ex (Nat.le_refl _)
  obtain ⟨v, h10, e10, rfl, k10⟩ := ct40 hO (c := c12) (c1 := c30) (S1.to g2) (S3.to g2) bl
  have kg10 : Kp g.nx g h10 := k2.trans (k10.le (by omega))
  haveI : Ft g h10 := kg10.ex (Nat.le_refl _)
  have t0 := (k10.get g.nx (by omega)).trans s0
  have t1 := (k10.get g1.nx (by omega)).trans s1
  obtain ⟨v, h20, e20, rfl, k20⟩ := ct40 hO (c := c16) (c1 := c34) (S2.to h10) (S4.to h10) br
  refine ⟨_, _, _, read1 (i := 0) s0 rfl, _, _, _, read1 (i := 0) s1 rfl, _, _, e10, vcond_t rfl ⟨_, read1 (i := 1) t0 rfl, _, read1 (i := 1) t1 rfl, vcond_t (eqI_t rfl) ⟨_, _, _, read1 (i := 2) t0 rfl, _, _, _, read1 (i := 2) t1 rfl, _, _, e20, rfl, kg10.trans (k20.le kg10.nx)⟩⟩⟩
end
end Go.Proofs.YtngcjpkccnfjiaaGreatDoor
/- CollectMoves of layer 15: what is returned, by the code and by the reference. -/
namespace Go.Proofs.YtngcjpkccnfjiaaGreatDoor
set_option maxRecDepth 100000
open Go Go.Ev
/-- A collection from an address, if it may be. -/
theorem run_minor {W : List Int} {top : Int} {R : List Int} (x : Int) : ∃ s f, ∀ l, checkP W top R = some l → fromOk l top x = true → runO W x.toNat R [] = some (s, R.map (mvw W x.toNat s.ord), []) ∧ reachO W x.toNat f 0 (withP x.toNat (R ++ (l.takeWhile (fun p => decide (p < x.toNat))).flatMap (strongP W)) []) = some s.ord ∧ colD W x.toNat l s.ord = s.D ∧ x.toNat + totalW W s.ord = s.top ∧ (∀ p ∈ s.ord, CellAt W p) ∧ x.toNat + totalW W s.ord ≤ W.length ∧ 1 ≤ x.toNat := by
  cases hc : checkP W top R with
  | none => exact ⟨startM W 1, 0, fun l h => by cases h⟩
  | some l =>
    cases hfo : fromOk l top x with
    | false =>
      refine ⟨startM W 1, 0, fun l' h h2 => ?_⟩
      obtain rfl := Option.some.inj h
      rw [hfo] at h2; cases h2
    | true =>
      have hx : ∃ m : Nat, x = Int.ofNat m := by
        unfold fromOk at hfo
        rw [Bool.or_eq_true, decide_eq_true_eq, List.contains_iff_mem] at hfo
        rcases hfo with rfl | h
        · obtain ⟨f1, f2, f3, _⟩ := checkP_cells hc
          exact Int.eq_ofNat_of_zero_le (by omega)
        · obtain ⟨m, _, e⟩ := List.mem_map.1 h
          exact ⟨m, e.symm⟩
      obtain ⟨fr, rfl⟩ := hx
      obtain ⟨s, f, old, r1, r2, r3, r4, r5, r6, r7, r8⟩ := run_at hc hfo
      refine ⟨s, f, fun l' h h2 => ?_⟩
      obtain rfl := Option.some.inj h
      subst r3
      exact ⟨r1, r2, r4, r5, r6, r7, r8⟩
def outM (c : Option (List Nat)) (top x : Int) (s : Mv) (rs : List Int) : Out := match c with
  | none => ⟨[], 0, [], 2⟩
  | some l => if fromOk l top x then ⟨s.D, s.top, rs, 0⟩ else ⟨[], 0, [], 2⟩
section
variable {O : CallF} (hO : Oth O) {g : Hp} (ok : g.Ok) {aw : Option Addr} {nw cw : Nat} {W : List Int} {top : Int} {ar : Option Addr} {nr cr : Nat} {R : List Int} (A : HA g aw nw cw W ar nr cr R)
include hO ok A
def HEo (g : Hp) (o : Out) : Value → Hp → Prop := HE g o.W o.top o.R o.e
theorem ct16o {s : Mv} {f : Nat} (h : ∀ l, checkP W top R = some l → reachO W 1 f 0 (withP 1 R []) = some s.ord ∧ colD W 1 l s.ord = s.D ∧ 1 + totalW W s.ord = s.top ∧ (∀ p ∈ s.ord, CellAt W p) ∧ 1 + totalW W s.ord ≤ W.length) :
    Ret Tryz.prog O 16 [.agg #[.slice aw nw cw, .int .i64 top, .slice ar nr cr]] g (HEo g (outC (checkP W top R) s (R.map (mvw W 1 s.ord)))) := by
  obtain ⟨v, h', e, q⟩ := ct16 hO ok A (top := top) (res := s.ord) (f := f) (fun l hl => by rw [formed_check] at hl; obtain ⟨a, b, c, d, e⟩ := h l hl; exact ⟨a, d, e⟩)
  refine ⟨v, h', e, ?_⟩
  rw [formed_check] at q
  cases hc : checkP W top R with
  | none => rw [hc] at q; exact q
  | some l =>
    rw [hc] at q
    obtain ⟨a, b, c, d, e⟩ := h l hc
    have q : HE g (colD W 1 l s.ord) (1 + totalW W s.ord) (R.map (mvw W 1 s.ord)) 0 v h' := q
    rw [b, c] at q
    exact q
theorem ct17o (tb : Tb g) {x : Int} {s : Mv} (hR : R.length < 1000000) (h : ∀ l, checkP W top R = some l → fromOk l top x = true → runO W x.toNat R [] = some (s, R.map (mvw W x.toNat s.ord), [])) :
    Ret Tryz.prog O 17 [.agg #[.slice aw nw cw, .int .i64 top, .slice ar nr cr], .int .i64 x] g (HEo g (outM (checkP W top R) top x s (R.map (mvw W x.toNat s.ord)))) := by
  obtain ⟨v, h', e, q⟩ := ct17 hO ok A tb (x := x) h (by rw [List.length_map]; exact hR)
  refine ⟨v, h', e, ?_⟩
  cases hc : checkP W top R with
  | none => rw [hc] at q; exact q
  | some l =>
    rw [hc] at q
    have q : (if fromOk l top x then HE g s.D s.top (R.map (mvw W x.toNat s.ord)) 0 else HE g [] 0 [] 2) v h' := q
    show HEo g (if fromOk l top x then ⟨s.D, s.top, R.map (mvw W x.toNat s.ord), 0⟩ else ⟨[], 0, [], 2⟩) v h'
    cases hfo : fromOk l top x with
    | true => rw [hfo] at q; exact q
    | false => rw [hfo] at q; exact q
theorem ct18o {x : Int} {s : Mv} {f : Nat} (h : ∀ l, checkP W top R = some l → fromOk l top x = true → reachO W x.toNat f 0 (withP x.toNat (R ++ (l.takeWhile (fun p => decide (p < x.toNat))).flatMap (strongP W)) []) = some s.ord ∧ colD W x.toNat l s.ord = s.D ∧ x.toNat + totalW W s.ord = s.top ∧ (∀ p ∈ s.ord, CellAt W p) ∧ x.toNat + totalW W s.ord ≤ W.length ∧ 1 ≤ x.toNat) :
    Ret Tryz.prog O 18 [.agg #[.slice aw nw cw, .int .i64 top, .slice ar nr cr], .int .i64 x] g (HEo g (outM (checkP W top R) top x s (R.map (mvw W x.toNat s.ord)))) := by
  obtain ⟨v, h', e, q⟩ := ct18 hO ok A (x := x) (res := s.ord) (f := f) (fun l hl hfo => by rw [formed_check] at hl; obtain ⟨a, b, c, d, e, f⟩ := h l hl hfo; exact ⟨a, d, e, f⟩)
  refine ⟨v, h', e, ?_⟩
  rw [formed_check] at q
  cases hc : checkP W top R with
  | none => rw [hc] at q; exact q
  | some l =>
    rw [hc] at q
    have q : (if fromOk l top x then HE g (colD W x.toNat l s.ord) (x.toNat + totalW W s.ord) (R.map (mvw W x.toNat s.ord)) 0 else HE g [] 0 [] 2) v h' := q
    show HEo g (if fromOk l top x then ⟨s.D, s.top, R.map (mvw W x.toNat s.ord), 0⟩ else ⟨[], 0, [], 2⟩) v h'
    cases hfo : fromOk l top x with
    | true =>
      rw [hfo] at q
      obtain ⟨a, b, c, d, e, f⟩ := h l hc hfo
      rw [b, c] at q
      exact q
    | false => rw [hfo] at q; exact q
end
end Go.Proofs.YtngcjpkccnfjiaaGreatDoor
/- CollectMoves of layer 15: its law, by the contracts of what it calls. -/
namespace Go.Proofs.YtngcjpkccnfjiaaGreatDoor
set_option maxRecDepth 100000
open Go Go.Ev
abbrev YesM : Value → Hp → Prop := fun v _ => v = .bool true
theorem law3 {h : Hp} {aw : Option Addr} {nw cw : Nat} {W : List Int} {top : Int} {ar : Option Addr} {nr cr : Nat} {R : List Int} {aw2 : Option Addr} {nw2 cw2 : Nat} {W2 : List Int} {top2 : Int} {ar2 : Option Addr} {nr2 cr2 : Nat} {R2 : List Int} (ok : h.Ok) (ht : Tb h) (A : HA h aw nw cw W ar nr cr R) (A2 : HA h aw2 nw2 cw2 W2 ar2 nr2 cr2 R2) (x : Int) :
    Ret Tryz.prog Ow 3 [.agg #[.slice aw nw cw, .int .i64 top, .slice ar nr cr], .agg #[.slice aw2 nw2 cw2, .int .i64 top2, .slice ar2 nr2 cr2], .int .i64 x] h YesM := by
  have hO : Oth Ow := Ow_oth
  refine rk3 (hO := hO _ _ _ (by decide)) (hh := ?_) ..
  unfold T3
  intro p1 p2
  have n0 : 0 < h.nx := by have := ht.1; omega
  have np1 : p1.nx = h.nx + 1 := rfl
  have np2 : p2.nx = h.nx + 2 := rfl
  have k2 : Kp h.nx h p2 := ((Kp.refl _ h).add (Nat.le_refl _) _).add (Nat.le_succ _) _
  have s0 : p2.get h.nx = some (.cells [.slice aw nw cw, .int .i64 top, .slice ar nr cr] 24 .fix) := (get_add_ne (show h.nx ≠ p1.nx by omega)).trans (get_add_same ..)
  have s1 : p2.get p1.nx = some (.cells [.slice aw2 nw2 cw2, .int .i64 top2, .slice ar2 nr2 cr2] 24 .fix) := get_add_same ..
  have sF : ∀ {x : Hp}, Kp p2.nx p2 x → x.get h.nx = some (.cells [.slice aw nw cw, .int .i64 top, .slice ar nr cr] 24 .fix) := fun k => (k.get _ (by omega)).trans s0
  have sF2 : ∀ {x : Hp}, Kp p2.nx p2 x → x.get p1.nx = some (.cells [.slice aw2 nw2 cw2, .int .i64 top2, .slice ar2 nr2 cr2] 24 .fix) := fun k => (k.get _ (by omega)).trans s1
  have kF : ∀ {x : Hp}, Kp p2.nx p2 x → Kp h.nx h x := fun k => k2.trans (k.le (by omega))
  have okF : ∀ {x : Hp}, Kp p2.nx p2 x → x.Ok := fun k => ok.kp (kF k)
  have tF : ∀ {x : Hp}, Kp p2.nx p2 x → Tb x := fun k => ht.kp (kF k) n0
  have AF : ∀ {x : Hp}, Kp p2.nx p2 x → HA x aw nw cw W ar nr cr R := fun {x} k => by
    haveI : Ft h x := (kF k).ex (Nat.le_refl _)
    exact A.to x
  have AF2 : ∀ {x : Hp}, Kp p2.nx p2 x → HA x aw2 nw2 cw2 W2 ar2 nr2 cr2 R2 := fun {x} k => by
    haveI : Ft h x := (kF k).ex (Nat.le_refl _)
    exact A2.to x
  obtain ⟨v, ha, ea, rfl, ka⟩ := ct13 hO (g := p2) (top := top) (aw := aw) (cw := cw) (ar := ar) (cr := cr) A.sw.at_.1 A.sr.at_.1 none 0 0
  refine ⟨_, _, _, _, _, _, _, rd3 s0, _, _, ea, vcond_split (fun hl => ⟨_, _, works_true (tF ka), rfl⟩) fun hl => ?_⟩
  obtain ⟨v, hb, eb, rfl, kb0⟩ := ct13 hO (g := ha) (top := top2) (aw := aw2) (cw := cw2) (ar := ar2) (cr := cr2) A2.sw.at_.1 A2.sr.at_.1 none 0 0
  have kb : Kp p2.nx p2 hb := ka.trans (kb0.le ka.nx)
  refine ⟨_, _, _, _, _, _, _, rd3 (sF2 ka), _, _, eb, vcond_split (fun hl2 => ⟨_, _, works_true (tF kb), rfl⟩) fun hl2 => ?_⟩
  have hlW : W.length ≤ 250 ∧ R.length ≤ 40 := by
    unfold largeB at hl
    simp only [Bool.or_eq_false_iff, decide_eq_false_iff_not] at hl
    omega
  have hlW2 : W2.length ≤ 250 ∧ R2.length ≤ 40 := by
    unfold largeB at hl2
    simp only [Bool.or_eq_false_iff, decide_eq_false_iff_not] at hl2
    omega
  obtain ⟨s, f, hr⟩ := run_whole (W := W) (top := top) (R := R)
  obtain ⟨t, f2, hr2⟩ := run_whole (W := W2) (top := top2) (R := R2)
  obtain ⟨sm, fm, hm⟩ := run_minor (W := W) (top := top) (R := R) x
  generalize ho1 : outC (checkP W top R) s (R.map (mvw W 1 s.ord)) = o1
  generalize hoM : outM (checkP W top R) top x sm (R.map (mvw W x.toNat sm.ord)) = oM
  have c15 : ∀ {y : Hp}, Kp p2.nx p2 y → Ret Tryz.prog Ow 15 [.agg #[.slice aw nw cw, .int .i64 top, .slice ar nr cr]] y (HEo y o1) := fun {y} k => by
    obtain ⟨v, h', e, q⟩ := ct15 hO (okF k) (AF k) (tF k) (top := top) (fun l hl => (hr l hl).1) (by rw [List.length_map]; omega)
    exact ⟨v, h', e, ho1 ▸ HE.of q⟩
  have c16 : ∀ {y : Hp}, Kp p2.nx p2 y → Ret Tryz.prog Ow 16 [.agg #[.slice aw nw cw, .int .i64 top, .slice ar nr cr]] y (HEo y o1) := fun {y} k => ho1 ▸ ct16o hO (okF k) (AF k) (top := top) (f := f) fun l hl => by obtain ⟨a, b, c, d, e, g, _⟩ := hr l hl; exact ⟨b, c, d, e, g⟩
  have c17 : ∀ {y : Hp}, Kp p2.nx p2 y → Ret Tryz.prog Ow 17 [.agg #[.slice aw nw cw, .int .i64 top, .slice ar nr cr], .int .i64 x] y (HEo y oM) := fun {y} k => hoM ▸ ct17o hO (okF k) (AF k) (tF k) (by omega) fun l hl h2 => (hm l hl h2).1
  have c18 : ∀ {y : Hp}, Kp p2.nx p2 y → Ret Tryz.prog Ow 18 [.agg #[.slice aw nw cw, .int .i64 top, .slice ar nr cr], .int .i64 x] y (HEo y oM) := fun {y} k => hoM ▸ ct18o hO (okF k) (AF k) (f := fm) fun l hl h2 => (hm l hl h2).2
  obtain ⟨v, h1, e1, q⟩ := c15 kb
  obtain ⟨u, rfl, a1, n1, c1, b1, m1, d1, rfl, S1, T1, k1, ok1, _, _⟩ := q
  obtain ⟨cw1, w1⟩ := three_wr (show (h1.add (.cells [.slice none 0 0, .int .i64 0, .slice none 0 0] 24 .fix)).get h1.nx = _ from get_add_same ..) (ok1.lt.free (h := h1.add _) (Nat.le_refl _)) (w1 := .slice a1 n1 c1) (w2 := .int .i64 (Int.ofNat o1.top)) (w3 := .slice b1 m1 d1) rfl
  refine ⟨_, _, _, _, _, _, _, rd3 (sF kb), _, _, _, _, _, _, _, _, _, e1, ?_⟩
  intro fz1
  refine vreq_t cw1 ?_
  intro g1
  have j1 : Kp h1.nx h1 g1 := ((Kp.refl _ h1).add (Nat.le_refl _) _).wr (Nat.le_refl _) _ _
  have y1 : g1.nx = h1.nx + 1 := by show (Hp.wr _ _ _ _).nx = _; rw [nx_wr, nx_add]
  have K1 : Kp p2.nx p2 g1 := kb.trans ((k1.trans (j1.le k1.nx)).le kb.nx)
  have z1 := k1.nx
  obtain ⟨v, h2, e2, q⟩ := c16 K1
  obtain ⟨u, rfl, a2, n2, c2, b2, m2, d2, rfl, S2, T2, k2, ok2, _, _⟩ := q
  obtain ⟨cw2, w2⟩ := three_wr (show (h2.add (.cells [.slice none 0 0, .int .i64 0, .slice none 0 0] 24 .fix)).get h2.nx = _ from get_add_same ..) (ok2.lt.free (h := h2.add _) (Nat.le_refl _)) (w1 := .slice a2 n2 c2) (w2 := .int .i64 (Int.ofNat o1.top)) (w3 := .slice b2 m2 d2) rfl
  refine ⟨_, _, _, _, _, _, _, rd3 (sF K1), _, _, _, _, _, _, _, _, _, e2, ?_⟩
  intro fz2
  refine vreq_t cw2 ?_
  intro g2
  have j2 : Kp h2.nx h2 g2 := ((Kp.refl _ h2).add (Nat.le_refl _) _).wr (Nat.le_refl _) _ _
  have y2 : g2.nx = h2.nx + 1 := by show (Hp.wr _ _ _ _).nx = _; rw [nx_wr, nx_add]
  have K2 : Kp p2.nx p2 g2 := K1.trans ((k2.trans (j2.le k2.nx)).le K1.nx)
  have z2 := k2.nx
  obtain ⟨v, h3, e3, q⟩ := c17 K2
  obtain ⟨u, rfl, a3, n3, c3, b3, m3, d3, rfl, S3, T3, k3, ok3, _, _⟩ := q
  obtain ⟨cw3, w3⟩ := three_wr (show (h3.add (.cells [.slice none 0 0, .int .i64 0, .slice none 0 0] 24 .fix)).get h3.nx = _ from get_add_same ..) (ok3.lt.free (h := h3.add _) (Nat.le_refl _)) (w1 := .slice a3 n3 c3) (w2 := .int .i64 (Int.ofNat oM.top)) (w3 := .slice b3 m3 d3) rfl
  refine ⟨_, _, _, _, _, _, _, rd3 (sF K2), _, _, _, _, _, _, _, _, _, e3, ?_⟩
  intro fz3
  refine vreq_t cw3 ?_
  intro g3
  have j3 : Kp h3.nx h3 g3 := ((Kp.refl _ h3).add (Nat.le_refl _) _).wr (Nat.le_refl _) _ _
  have y3 : g3.nx = h3.nx + 1 := by show (Hp.wr _ _ _ _).nx = _; rw [nx_wr, nx_add]
  have K3 : Kp p2.nx p2 g3 := K2.trans ((k3.trans (j3.le k3.nx)).le K2.nx)
  have z3 := k3.nx
  obtain ⟨v, h4, e4, q⟩ := c18 K3
  obtain ⟨u, rfl, a4, n4, c4, b4, m4, d4, rfl, S4, T4, k4, ok4, _, _⟩ := q
  obtain ⟨cw4, w4⟩ := three_wr (show (h4.add (.cells [.slice none 0 0, .int .i64 0, .slice none 0 0] 24 .fix)).get h4.nx = _ from get_add_same ..) (ok4.lt.free (h := h4.add _) (Nat.le_refl _)) (w1 := .slice a4 n4 c4) (w2 := .int .i64 (Int.ofNat oM.top)) (w3 := .slice b4 m4 d4) rfl
  refine ⟨_, _, _, _, _, _, _, rd3 (sF K3), _, _, _, _, _, _, _, _, _, e4, ?_⟩
  intro fz4
  refine vreq_t cw4 ?_
  intro g4
  have j4 : Kp h4.nx h4 g4 := ((Kp.refl _ h4).add (Nat.le_refl _) _).wr (Nat.le_refl _) _ _
  have y4 : g4.nx = h4.nx + 1 := by show (Hp.wr _ _ _ _).nx = _; rw [nx_wr, nx_add]
  have K4 : Kp p2.nx p2 g4 := K3.trans ((k4.trans (j4.le k4.nx)).le K3.nx)
  have z4 := k4.nx
  have lo : o1.W.length < 1000000 ∧ o1.R.length < 1000000 ∧ o1.top ≤ o1.W.length := by
    rw [← ho1]
    cases hc : checkP W top R with
    | none => exact ⟨by show 0 < 1000000; decide, by show 0 < 1000000; decide, Nat.le_refl _⟩
    | some l =>
      obtain ⟨_, _, c, d, _, e, f, _⟩ := hr l hc
      refine ⟨by show s.D.length < _; omega, by show (R.map _).length < _; rw [List.length_map]; omega, by show s.top ≤ s.D.length; omega⟩
  have lM : oM.W.length < 1000000 ∧ oM.R.length < 1000000 := by
    rw [← hoM]
    cases hc : checkP W top R with
    | none => exact ⟨by show 0 < 1000000; decide, by show 0 < 1000000; decide⟩
    | some l =>
      show (if fromOk l top x then (⟨sm.D, sm.top, R.map (mvw W x.toNat sm.ord), 0⟩ : Out) else ⟨[], 0, [], 2⟩).W.length < _ ∧ (if fromOk l top x then (⟨sm.D, sm.top, R.map (mvw W x.toNat sm.ord), 0⟩ : Out) else ⟨[], 0, [], 2⟩).R.length < _
      cases hfo : fromOk l top x with
      | false => exact ⟨by show 0 < 1000000; decide, by show 0 < 1000000; decide⟩
      | true =>
        obtain ⟨_, _, c, _⟩ := hm l hc hfo
        refine ⟨?_, by show (R.map _).length < _; rw [List.length_map]; omega⟩
        show sm.D.length < _
        rw [← c, colD_length]; omega
  have j12 : Kp g1.nx g1 g2 := k2.trans (j2.le z2)
  have j23 : Kp g2.nx g2 g3 := k3.trans (j3.le z3)
  have j34 : Kp g3.nx g3 g4 := k4.trans (j4.le z4)
  have v1 : g4.get h1.nx = _ := (j34.get _ (by omega)).trans ((j23.get _ (by omega)).trans ((j12.get _ (by omega)).trans w1))
  have v2 : g4.get h2.nx = _ := (j34.get _ (by omega)).trans ((j23.get _ (by omega)).trans w2)
  have v3 : g4.get h3.nx = _ := (j34.get _ (by omega)).trans w3
  haveI i1 : Ft h1 g4 := (j1.trans (((j12.trans ((j23.trans (j34.le (by omega))).le (by omega)))).le (by omega))).ex (Nat.le_refl _)
  haveI i2 : Ft h2 g4 := (j2.trans ((j23.trans (j34.le (by omega))).le (by omega))).ex (Nat.le_refl _)
  haveI i3 : Ft h3 g4 := (j3.trans (j34.le (by omega))).ex (Nat.le_refl _)
  haveI i4 : Ft h4 g4 := j4.ex (Nat.le_refl _)
  obtain ⟨v, h5, e5, rfl, k5⟩ := ct19 hO (g := g4) (t := Int.ofNat o1.top) (c12 := c1) (c16 := d1) (c30 := c2) (c34 := d2) (S1.at_.to g4) (T1.at_.to g4) (S2.at_.to g4) (T2.at_.to g4) lo.1 lo.2.1
  refine ⟨_, _, _, _, _, _, _, rd3 v1, _, _, _, _, _, _, _, rd3 v2, _, _, e5, vcond_f rfl (vcond_f (by rw [eqI_t rfl]; rfl) ?_)⟩
  have K5 : Kp p2.nx p2 h5 := K4.trans (k5.le K4.nx)
  haveI i5 : Ft g4 h5 := k5.ex (Nat.le_refl _)
  obtain ⟨v, h6, e6, rfl, k6⟩ := ct19 hO (g := h5) (t := Int.ofNat oM.top) (c12 := c3) (c16 := d3) (c30 := c4) (c34 := d4) ((S3.at_.to g4).to h5) ((T3.at_.to g4).to h5) ((S4.at_.to g4).to h5) ((T4.at_.to g4).to h5) lM.1 lM.2
  refine ⟨_, _, _, _, _, _, _, rd3 ((k5.get _ (by omega)).trans v3), _, _, _, _, _, _, _, rd3 ((k5.get _ (by omega)).trans w4), _, _, e6, vcond_f rfl (vcond_f (by rw [eqI_t rfl]; rfl) ?_)⟩
  have K6 : Kp p2.nx p2 h6 := K5.trans (k6.le K5.nx)
  obtain ⟨v, h7, e7, rfl, k7⟩ := ct20 hO (okF K6) (AF K6) (tF K6) (x := x) (top := top) (fun l hl => (hr l hl).1)
  have K7 : Kp p2.nx p2 h7 := K6.trans (k7.le K6.nx)
  refine ⟨_, _, _, _, _, _, _, rd3 (sF K6), _, _, _, e7, ?_⟩
  obtain ⟨v, h8, e8, rfl, k8⟩ := ct21 hO (okF K7) (AF K7) (x := x) (top := top) (res := s.ord) (f := f) (fun l hl => by rw [formed_check] at hl; obtain ⟨_, b, _, _, e, g, _⟩ := hr l hl; exact ⟨b, e, g⟩)
  have K8 : Kp p2.nx p2 h8 := K7.trans (k8.le K7.nx)
  refine ⟨_, _, _, _, _, _, _, rd3 (sF K7), _, _, _, e8, ?_⟩
  have lo2 : (outC (checkP W2 top2 R2) t (R2.map (mvw W2 1 t.ord))).top ≤ (outC (checkP W2 top2 R2) t (R2.map (mvw W2 1 t.ord))).W.length := by
    cases hc : checkP W2 top2 R2 with
    | none => exact Nat.le_refl _
    | some l =>
      obtain ⟨_, _, c, d, _, e, f, _⟩ := hr2 l hc
      show t.top ≤ t.D.length
      omega
  obtain ⟨v, h9, e9, rfl, k9⟩ := ct22 hO (okF K8) (tF K8) (AF K8) (AF2 K8) (top := top) (top2 := top2) (fun l hl => (hr l hl).1) (fun l hl => (hr2 l hl).1) (by rw [List.length_map]; omega) (by rw [List.length_map]; omega) (by rw [ho1]; exact lo.2.2) lo2 (by rw [ho1]; exact lo.1) (by rw [ho1]; exact lo.2.1)
  have K9 : Kp p2.nx p2 h9 := K8.trans (k9.le K8.nx)
  refine ⟨_, _, _, _, _, _, _, rd3 (sF K8), _, _, _, _, _, _, _, rd3 (sF2 K8), _, _, _, e9, ?_⟩
  obtain ⟨v, h10, e10, rfl, k10⟩ := ct23 hO (okF K9) (AF K9) (AF2 K9) (top := top) (top2 := top2) (res := s.ord) (res2 := t.ord) (f := f) (f2 := f2) (fun l hl => by rw [formed_check] at hl; obtain ⟨_, b, _, _, e, g, _⟩ := hr l hl; exact ⟨b, e, g⟩) (fun l hl => by rw [formed_check] at hl; obtain ⟨_, b, _, _, e, g, _⟩ := hr2 l hl; exact ⟨b, e, g⟩)
  have K10 : Kp p2.nx p2 h10 := K9.trans (k10.le K9.nx)
  refine ⟨_, _, _, _, _, _, _, rd3 (sF K9), _, _, _, _, _, _, _, rd3 (sF2 K9), _, _, _, e10, ?_⟩
  rw [where_same (W := W) (top := top) (R := R) (s := s) (fun l hl => (hr l hl).2.2.2.2.2.2.2) x, same_same (fun l hl => by obtain ⟨_, _, c, d, _, g, _⟩ := hr l hl; exact ⟨c, d, g⟩) (fun l hl => by obtain ⟨_, _, c, d, _, g, _⟩ := hr2 l hl; exact ⟨c, d, g⟩)]
  have eqBt : ∀ b : Bool, eqB b b = true := fun b => by cases b <;> rfl
  exact vcond_t (eqI_t rfl) (vcond_t (eqI_t rfl) (vcond_t (eqBt _) (vcond_t (eqI_t rfl) ⟨_, _, works_true (tF K10), rfl⟩)))
end Go.Proofs.YtngcjpkccnfjiaaGreatDoor
/- What a call's arguments hold, as the evaluator's memory. -/
namespace Go.Ev
open Go
/-- Fields lie one behind the other. -/
def layOk (P : Program) : Nat → List Field → Nat → Bool
  | off, [], n => Nat.beq off n
  | off, f :: fs, n => Nat.beq f.offset off && layOk P (off + P.cellsOf f.type) fs n
/-- A type of truths, whole numbers, lists, structs and rows of these. -/
def Plain (P : Program) : Nat → TypeId → Bool
  | 0, _ => false
  | n + 1, t => match P.underlying t with
    | some .bool => true
    | some (.int _) => true
    | some (.slice e) => Plain P n e && !(Nat.beq (P.cellsOf e) 0)
    | some (.struct fs) => fs.toList.all (fun f => Plain P n f.type) && layOk P 0 fs.toList (P.cellsOf t)
    | some (.array m e) => Plain P n e && Nat.beq (m * P.cellsOf e) (P.cellsOf t)
    | _ => false
/-- Cells that read as some data, in the evaluator's memory. -/
def DE {H : Type} (P : Program) (h : Hp) : Nat → TypeId → List Value → DataW H → Prop
  | 0, _, _, _ => False
  | n + 1, t, cs, d => match P.underlying t, d with
    | some .bool, .lit (.bool b) => cs = [.bool b]
    | some (.int k), .lit (.int k' x) => k' = k ∧ cs = [.int k x] ∧ (Lit.int k x).wf = true
    | some (.slice _), .nil => cs = [.slice none 0 0]
    | some (.slice e), .slice elems _ => ∃ k cap c e', cs = [.slice (some ⟨k, 0, none⟩) elems.length cap] ∧ cap < unk ∧ elems.length ≤ cap ∧ k < h.nx ∧ h.get k = some (.cells c e' .ro) ∧ elems.length * P.cellsOf e ≤ c.length ∧
        ∀ i (hi : i < elems.length), DE P h n e ((c.drop (i * P.cellsOf e)).take (P.cellsOf e)) elems[i]
    | some (.struct fs), .agg parts => cs.length = P.cellsOf t ∧ parts.length = fs.size ∧ ∀ i (hi : i < parts.length) f, fs[i]? = some f → DE P h n f.type ((cs.drop f.offset).take (P.cellsOf f.type)) parts[i]
    | some (.array m e), .agg parts => cs.length = P.cellsOf t ∧ parts.length = m ∧ ∀ i (hi : i < parts.length), DE P h n e ((cs.drop (i * P.cellsOf e)).take (P.cellsOf e)) parts[i]
    | _, _ => False
/-- Memory with more in it, that none writes. -/
structure Ext1 (h : Hp) (ι : Inj) (h' : Hp) (ι' : Inj) : Prop where
  nx : h.nx ≤ h'.nx
  gd : h'.gd = h.gd
  get : ∀ o, o < h.nx → h'.get o = h.get o
  inj : ∀ o, o < h.nx → ι' o = ι o
theorem Ext1.refl (h : Hp) (ι : Inj) : Ext1 h ι h ι := ⟨Nat.le_refl _, rfl, fun _ _ => rfl, fun _ _ => rfl⟩
theorem Ext1.trans {h h' h'' : Hp} {ι ι' ι'' : Inj} (a : Ext1 h ι h' ι') (b : Ext1 h' ι' h'' ι'') : Ext1 h ι h'' ι'' :=
  ⟨Nat.le_trans a.nx b.nx, b.gd.trans a.gd, fun o ho => (b.get o (Nat.lt_of_lt_of_le ho a.nx)).trans (a.get o ho), fun o ho => (b.inj o (Nat.lt_of_lt_of_le ho a.nx)).trans (a.inj o ho)⟩
theorem DE.mono {H : Type} {P : Program} {h h' : Hp} (hn : h.nx ≤ h'.nx) (hg : ∀ o, o < h.nx → h'.get o = h.get o) : ∀ {n : Nat} {t : TypeId} {cs : List Value} {d : DataW H}, DE P h n t cs d → DE P h' n t cs d := by
  intro n
  induction n with
  | zero => intro t cs d h; exact h
  | succ n ih =>
    intro t cs d hd
    unfold DE at hd ⊢
    split at hd
    · exact hd
    · exact hd
    · exact hd
    · obtain ⟨k, cap, c, e', h1, h2, h3, h4, h5, h6, h7⟩ := hd
      exact ⟨k, cap, c, e', h1, h2, h3, Nat.lt_of_lt_of_le h4 hn, by rw [hg k h4]; exact h5, h6, fun i hi => ih (h7 i hi)⟩
    · exact ⟨hd.1, hd.2.1, fun i hi f hf => ih (hd.2.2 i hi f hf)⟩
    · exact ⟨hd.1, hd.2.1, fun i hi => ih (hd.2.2 i hi)⟩
    · exact hd
section
variable {H : Type} {enc : TypeId × Value → H} {P : Program} {W : World}
/-- What is ahead: memory that none writes, and an object in it. -/
structure Base (P : Program) (ι : Inj) (h : Hp) (W : World) : Prop where
  rh : RH P ι h W
  ro : ∀ o x, h.get o = some x → x.wr = false
  gd : h.gd = []
  some0 : ∃ x v, h.get 0 = some x ∧ ι 0 = some v ∧ 0 < h.nx ∧ ∃ c e, x = .cells c e .ro
/-- An object more. -/
theorem Base.push {ι : Inj} {h : Hp} (B : Base P ι h W) {c : List Value} {e : TypeId} {v : Vw} (h1 : c.all one = true) {c' : Array Value} {e' : TypeId} {fr : Nat × Nat} (hb : W.heap[v.blk]? = some (.cells c' e' fr)) (hc : ∀ (j : Nat) x, c[j]? = some x → ∃ y, c'[v.base + j]? = some y ∧ VR ι x y) :
    Base P (ι.set h.nx v) (h.add (.cells c e .ro)) W ∧ Ext1 h ι (h.add (.cells c e .ro)) (ι.set h.nx v) := by
  have hfresh : ι h.nx = none := B.rh.fresh _ (Nat.le_refl _)
  have mono := Inj.set_mono (v := v) hfresh
  have hE : Ext1 h ι (h.add (.cells c e .ro)) (ι.set h.nx v) := ⟨by rw [nx_add]; omega, rfl, fun o ho => get_add_ne (by omega), fun o ho => Inj.set_other _ _ _ (by omega)⟩
  have hget : ∀ o x, (h.add (.cells c e .ro)).get o = some x → (o = h.nx ∧ x = .cells c e .ro) ∨ h.get o = some x := fun o x ho => by
    rw [get_add] at ho
    split at ho
    · exact .inl ⟨‹_›, (Option.some.inj ho).symm⟩
    · exact .inr ho
  have hro : ∀ o x, (h.add (.cells c e .ro)).get o = some x → x.wr = false := fun o x ho => by
    rcases hget o x ho with ⟨_, rfl⟩ | ho
    · rfl
    · exact B.ro o x ho
  refine ⟨⟨⟨fun o x ho => ?_, fun o q x y vo vq _ ho hx => ?_, fun o ho => ?_, fun g hg => ?_, ?_⟩, hro, B.gd, ?_⟩, hE⟩
  · rcases hget o x ho with ⟨rfl, rfl⟩ | ho
    · refine ⟨by rw [nx_add]; omega, v, Inj.set_same .., h1, c', e', fr, hb, fun j x hx => ?_, fun h => absurd rfl h, fun h => by cases h⟩
      obtain ⟨y, hy, hv⟩ := hc j x hx
      exact ⟨y, hy, hv.mono mono⟩
    · obtain ⟨h2, u, hu, hor⟩ := B.rh.live o x ho
      exact ⟨by rw [nx_add]; omega, u, mono _ _ hu, hor.of_block mono rfl⟩
  · rw [hro o x ho] at hx; cases hx
  · rw [nx_add] at ho
    rw [Inj.set_other _ _ _ (by omega)]; exact B.rh.fresh o (by omega)
  · rw [Inj.set_other _ _ _ (by have := B.rh.gsize; omega)]; exact B.rh.glob g hg
  · rw [nx_add]; have := B.rh.gsize; omega
  · obtain ⟨x, u, a1, a2, a3, a4⟩ := B.some0
    exact ⟨x, u, by rw [get_add_ne (by omega)]; exact a1, by rw [Inj.set_other _ _ _ (by omega)]; exact a2, by rw [nx_add]; omega, a4⟩
theorem cells_take {a : Addr} {n : Nat} {cs : List Value} (h : W.cells? 0 a n = some cs) : cs.length = n ∧ ∀ j, j < n → W.cell? (a.add j) = cs[j]? := by
  unfold World.cells? at h
  rw [if_pos (Nat.zero_le _)] at h
  have hl := Lib.mapM_length h
  rw [List.length_range] at hl
  refine ⟨hl, fun j hj => ?_⟩
  obtain ⟨b, h1, h2⟩ := Lib.mapM_at h j j (by simp [hj])
  rw [h1, h2]
/-- A whole part is built, whatever a part is built of. -/
def Builds (H : Type) (enc : TypeId × Value → H) (P : Program) (W : World) (n : Nat) (t : TypeId) : Prop := ∀ (cs : List Value) (d : DataW H) (ps : List MemPlace), DataW.trod enc P W 0 (fun _ => true) true n t cs = some (d, ps) →
  ∀ ι h, Base P ι h W → ∃ ι' h' ev, Ext1 h ι h' ι' ∧ Base P ι' h' W ∧ VRs ι' ev cs ∧ ev.all one = true ∧ DE P h' n t ev d
theorem VRs.mono1 {ι ι' : Inj} {h h' : Hp} (E : Ext1 h ι h' ι') (R : ∀ o, h.nx ≤ o → ι o = none) {a b : List Value} (hv : VRs ι a b) : VRs ι' a b := hv.mono fun o v hv => by
  have : o < h.nx := by
    rcases Nat.lt_or_ge o h.nx with hh | hh
    · exact hh
    · rw [R o hh] at hv; cases hv
  rw [E.inj o this]; exact hv
/-- Parts, one after the other. -/
theorem build_list {n : Nat} : ∀ (l : List (TypeId × List Value × DataW H)), (∀ p ∈ l, Builds H enc P W n p.1 ∧ ∃ ps, DataW.trod enc P W 0 (fun _ => true) true n p.1 p.2.1 = some (p.2.2, ps)) → ∀ ι h, Base P ι h W →
    ∃ ι' h', ∃ evs : List (List Value), Ext1 h ι h' ι' ∧ Base P ι' h' W ∧ evs.length = l.length ∧ VRs ι' evs.flatten (l.map (·.2.1)).flatten ∧ evs.flatten.all one = true ∧
      ∀ i (hi : i < l.length), ∃ ev, evs[i]? = some ev ∧ VRs ι' ev l[i].2.1 ∧ DE P h' n l[i].1 ev l[i].2.2 := by
  intro l
  induction l with
  | nil => intro _ ι h B; exact ⟨ι, h, [], .refl _ _, B, rfl, .nil _, rfl, fun i hi => absurd hi (Nat.not_lt_zero _)⟩
  | cons p l ih =>
    intro hl ι h B
    obtain ⟨hb, ps, hp⟩ := hl p (List.mem_cons_self ..)
    obtain ⟨ι1, h1, ev, E1, B1, V1, O1, D1⟩ := hb _ _ _ hp ι h B
    obtain ⟨ι2, h2, evs, E2, B2, L2, V2, O2, D2⟩ := ih (fun q hq => hl q (List.mem_cons_of_mem _ hq)) ι1 h1 B1
    have V1' := VRs.mono1 E2 B1.rh.fresh V1
    refine ⟨ι2, h2, ev :: evs, E1.trans E2, B2, by simp [L2], ?_, ?_, fun i hi => ?_⟩
    · rw [List.flatten_cons, List.map_cons, List.flatten_cons]; exact V1'.append V2
    · rw [List.flatten_cons, List.all_append, O1, O2]; rfl
    · cases i with
      | zero => exact ⟨ev, rfl, V1', D1.mono E2.nx E2.get⟩
      | succ i => exact D2 i (by simpa using hi)
theorem flat_row {l : List (List Value)} {w : Nat} (hw : ∀ x ∈ l, x.length = w) : l.flatten.length = l.length * w ∧ ∀ i x, l[i]? = some x → (l.flatten.drop (i * w)).take w = x := by
  induction l with
  | nil => exact ⟨by simp, fun i x h => by simp at h⟩
  | cons y l ih =>
    obtain ⟨h1, h2⟩ := ih fun x hx => hw x (List.mem_cons_of_mem _ hx)
    have hy := hw y (List.mem_cons_self ..)
    refine ⟨by rw [List.flatten_cons, List.length_append, h1, hy, List.length_cons, Nat.add_mul]; omega, fun i x hx => ?_⟩
    rw [List.flatten_cons]
    cases i with
    | zero =>
      simp at hx
      subst hx
      rw [Nat.zero_mul, List.drop_zero, ← hy, List.take_left]
    | succ i =>
      rw [List.drop_append, List.drop_of_length_le (by rw [hy, Nat.add_mul]; omega), List.nil_append, hy, show (i + 1) * w - w = i * w by rw [Nat.add_mul]; omega]
      exact h2 i x (by simpa using hx)
/-- What a slice reads as. -/
theorem trod_slice {n : Nat} {e t : TypeId} (hu : P.underlying t = some (.slice e)) {cs : List Value} {d : DataW H} {ps : List MemPlace} (h : DataW.trod enc P W 0 (fun _ => true) true (n + 1) t cs = some (d, ps)) :
    (cs = [.slice none 0 0] ∧ d = .nil) ∨ ∃ (a : Addr) (len cap : Nat) (elems rest : List (DataW H × List MemPlace)), cs = [.slice (some a) len cap] ∧ len ≤ cap ∧ cap ≤ maxLen ∧
      (List.range len).mapM (fun i => (W.cells? 0 (a.add (i * P.cellsOf e)) (P.cellsOf e)).bind (DataW.trod enc P W 0 (fun _ => true) true n e)) = some elems ∧
      (List.range (cap - len)).mapM (fun j => (W.cells? 0 (a.add ((len + j) * P.cellsOf e)) (P.cellsOf e)).bind (DataW.trod enc P W 0 (fun _ => true) true n e)) = some rest ∧ d = .slice (elems.map (·.1)) (rest.map (·.1)) := by
  unfold DataW.trod at h
  rw [hu] at h
  rcases cs with _ | ⟨v, _ | ⟨w, r⟩⟩
  · cases h
  · cases v with
    | slice a len cap =>
      rcases a with _ | a
      · rcases len with _ | len
        · rcases cap with _ | cap
          · injection h with h; injection h with h1 h2; exact .inl ⟨rfl, h1.symm⟩
          · cases h
        · cases h
      · right
        simp only at h
        split at h
        · rename_i hc
          obtain ⟨elems, h1, h2⟩ := Option.bind_eq_some_iff.1 h
          obtain ⟨rest, h3, h4⟩ := Option.map_eq_some_iff.1 h2
          injection h4 with h4 h5
          rw [if_pos trivial] at h3
          exact ⟨a, len, cap, elems, rest, rfl, hc.2.1, hc.2.2, h1, h3, h4.symm⟩
        · cases h
    | _ => cases h
  · cases v with
    | slice a len cap => cases a <;> cases len <;> cases cap <;> cases h
    | _ => cases h
theorem cell_block {a : Addr} {v : Value} (h : W.cell? a = some v) : ∃ c e fr, W.heap[a.block]? = some (.cells c e fr) ∧ a.spot = none ∧ c[a.off]? = some v := by
  unfold World.cell? at h
  split at h
  · rename_i c e fr hb
    split at h
    · cases h
    · rename_i hs
      exact ⟨c, e, fr, hb, by simpa using hs, h⟩
  · cases h
theorem add_add (a : Addr) (i j : Nat) : ((a.add i).add j).block = a.block ∧ ((a.add i).add j).off = a.off + i + j := by
  unfold Addr.add
  by_cases hi : i = 0
  · subst hi; by_cases hj : j = 0
    · subst hj; exact ⟨rfl, rfl⟩
    · simp [hj]
  · by_cases hj : j = 0
    · subst hj; simp [hi]
    · simp [hi, hj]
theorem build_slice {n : Nat} {e t : TypeId} (he : Builds H enc P W n e) (hs : P.cellsOf e ≠ 0) (hu : P.underlying t = some (.slice e)) : Builds H enc P W (n + 1) t := by
  intro cs d ps h ι hp B
  rcases trod_slice hu h with ⟨rfl, rfl⟩ | ⟨a, len, cap, elems, rest, rfl, hlc, hcap, h1, h2, rfl⟩
  · exact ⟨ι, hp, [.slice none 0 0], .refl _ _, B, .of_flat rfl, rfl, by unfold DE; rw [hu]⟩
  have hcl : cap < unk := by
    have : unk = 18446744073709551616 := rfl
    have : maxLen = 2 ^ 63 - 1 := rfl
    omega
  have hcu : cap ≠ unk := Nat.ne_of_lt hcl
  have l1 := Lib.mapM_length h1
  have l2 := Lib.mapM_length h2
  rw [List.length_range] at l1 l2
  -- the elements
  let cell (i : Nat) : List Value := (W.cells? 0 (a.add (i * P.cellsOf e)) (P.cellsOf e)).getD []
  have el : ∀ i (hi : i < len), W.cells? 0 (a.add (i * P.cellsOf e)) (P.cellsOf e) = some (cell i) ∧ DataW.trod enc P W 0 (fun _ => true) true n e (cell i) = some (elems[i]'(by omega)) := by
    intro i hi
    obtain ⟨b, e1, e2⟩ := Lib.mapM_at h1 i i (by simp [hi])
    obtain ⟨c, e3, e4⟩ := Option.bind_eq_some_iff.1 e2
    have hc : cell i = c := by show (W.cells? 0 _ _).getD [] = c; rw [e3]; rfl
    rw [hc]
    refine ⟨e3, ?_⟩
    rw [e4, ← e1, List.getElem?_eq_getElem]
  by_cases hcap0 : cap = 0
  · -- nothing at all
    subst hcap0
    obtain rfl : len = 0 := by omega
    obtain ⟨x, v, g1, g2, g3, c, e', rfl⟩ := B.some0
    have he0 : elems = [] := List.length_eq_zero_iff.1 l1
    subst he0
    refine ⟨ι, hp, [.slice (some ⟨0, 0, none⟩) 0 0], .refl _ _, B, .cons (.sl0 g2 (.inr rfl)) (.nil _), rfl, ?_⟩
    unfold DE
    rw [hu]
    have hm : ∃ c' e'', hp.get 0 = some (.cells c' e'' .ro) := by
      refine ⟨c, e', ?_⟩
      have := B.ro 0 _ g1
      rw [g1]
    obtain ⟨c', e'', hm⟩ := hm
    exact ⟨0, 0, c', e'', rfl, hcl, Nat.le_refl _, g3, hm, by simp, fun i hi => absurd hi (Nat.not_lt_zero _)⟩
  · -- the block
    have hblk : ∃ c' e' fr, W.heap[a.block]? = some (.cells c' e' fr) ∧ a.spot = none := by
      have first : ∃ c, W.cells? 0 a (P.cellsOf e) = some c := by
        rcases Nat.eq_zero_or_pos len with h0 | h0
        · obtain ⟨b, _, e2⟩ := Lib.mapM_at h2 0 0 (by rw [List.getElem?_eq_getElem (by simp; omega)]; simp)
          obtain ⟨c, e3, _⟩ := Option.bind_eq_some_iff.1 e2
          rw [h0, Nat.zero_add, Nat.zero_mul] at e3
          exact ⟨c, e3⟩
        · have := (el 0 h0).1
          rw [Nat.zero_mul] at this
          exact ⟨_, this⟩
      obtain ⟨c, hc⟩ := first
      obtain ⟨g1, g2⟩ := cells_take hc
      have := g2 0 (by omega)
      obtain ⟨v, hv⟩ : ∃ v, c[0]? = some v := ⟨c[0]'(by omega), List.getElem?_eq_getElem _⟩
      rw [hv] at this
      obtain ⟨c', e', fr, q1, q2, _⟩ := cell_block this
      exact ⟨c', e', fr, q1, q2⟩
    obtain ⟨c', e', fr, hb, hsp⟩ := hblk
    let l : List (TypeId × List Value × DataW H) := (List.range len).map fun i => (e, cell i, ((elems.map (·.1))[i]?).getD .nil)
    have hll : l.length = len := by simp [l]
    have lget : ∀ i (hi : i < l.length), l[i] = (e, cell i, (elems[i]'(by omega)).1) := by
      intro i hi
      have hi' : i < elems.length := by omega
      simp [l, hi']
    obtain ⟨ι1, h3, evs, E1, B1, L1, V1, O1, D1⟩ := build_list l (fun p hpm => by
      obtain ⟨i, hi, rfl⟩ := List.getElem_of_mem hpm
      rw [lget i hi]
      exact ⟨he, _, (el i (by omega)).2⟩) ι hp B
    have hw : ∀ x ∈ evs, x.length = P.cellsOf e := by
      intro x hx
      obtain ⟨i, hi, rfl⟩ := List.getElem_of_mem hx
      obtain ⟨ev, e1, e2, _⟩ := D1 i (by omega)
      rw [List.getElem?_eq_getElem hi] at e1
      obtain rfl := Option.some.inj e1
      rw [← e2.1, lget i (by omega)]
      exact (cells_take (el i (by omega)).1).1
    obtain ⟨f1, f2⟩ := flat_row hw
    obtain ⟨B2, E2⟩ := B1.push (c := evs.flatten) (e := e) (v := ⟨a.block, a.off, 0, 0⟩) O1 hb (fun j x hx => by
      have hj : j < evs.flatten.length := (List.getElem?_eq_some_iff.1 hx).1
      rw [f1, L1, hll] at hj
      have hlt : j / P.cellsOf e < len := Nat.div_lt_of_lt_mul (by rw [Nat.mul_comm]; exact hj)
      have hmod : j % P.cellsOf e < P.cellsOf e := Nat.mod_lt _ (by omega)
      have hdm : j = j / P.cellsOf e * P.cellsOf e + j % P.cellsOf e := by rw [Nat.mul_comm]; exact (Nat.div_add_mod j _).symm
      obtain ⟨ev, e1, e2, _⟩ := D1 (j / P.cellsOf e) (by omega)
      have e3 := f2 _ _ e1
      have hx' : ev[j % P.cellsOf e]? = some x := by
        rw [← e3, List.getElem?_take, if_pos hmod, List.getElem?_drop, ← hdm]; exact hx
      obtain ⟨y, hy, hv⟩ := e2.get hx'
      rw [lget _ (by omega)] at hy
      have hy : (cell (j / P.cellsOf e))[j % P.cellsOf e]? = some y := hy
      have := (cells_take (el _ hlt).1).2 _ hmod
      rw [hy] at this
      obtain ⟨c2, e2', fr2, q1, _, q3⟩ := cell_block this
      obtain ⟨p1, p2⟩ := add_add a (j / P.cellsOf e * P.cellsOf e) (j % P.cellsOf e)
      rw [p1] at q1
      rw [p2] at q3
      rw [hb] at q1
      injection q1 with q1
      injection q1 with q1 _ _
      subst q1
      exact ⟨y, by rw [show a.off + j = a.off + j / P.cellsOf e * P.cellsOf e + j % P.cellsOf e by omega]; exact q3, hv⟩)
    refine ⟨_, _, [.slice (some ⟨h3.nx, 0, none⟩) len cap], E1.trans E2, B2, .cons ?_ (.nil _), rfl, ?_⟩
    · have ha : a = ⟨a.block, a.off + 0, none⟩ := by cases a; simp at hsp; subst hsp; rfl
      rw [ha]
      exact .slc (w := ⟨a.block, a.off, 0, 0⟩) (Inj.set_same ..) hcu
    · unfold DE
      rw [hu]
      have hel : (elems.map (·.1)).length = len := by simp [l1]
      refine ⟨h3.nx, cap, evs.flatten, e, by rw [hel], hcl, by rw [hel]; exact hlc, by rw [nx_add]; omega, get_add_same .., Nat.le_of_eq (by rw [hel, f1, L1, hll]), fun i hi => ?_⟩
      rw [hel] at hi
      obtain ⟨ev, e1, _, e3⟩ := D1 i (by omega)
      rw [f2 i ev e1]
      rw [lget i (by omega)] at e3
      have : (elems.map (·.1))[i]'(by rw [hel]; exact hi) = (elems[i]'(by omega)).1 := by simp
      rw [this]
      exact e3.mono (by rw [nx_add]; omega) fun o ho => get_add_ne (by omega)
theorem build_int {n : Nat} {t : TypeId} {k : IntKind} (hu : P.underlying t = some (.int k)) : Builds H enc P W (n + 1) t := by
  intro cs d ps h ι hp B
  unfold DataW.trod at h
  rw [hu] at h
  rcases cs with _ | ⟨v, _ | ⟨w, r⟩⟩
  · cases h
  · cases v with
    | int k' x =>
      simp only at h
      split at h
      · rename_i hc
        injection h with h; injection h with h _
        subst h
        obtain ⟨rfl, hw⟩ := hc
        exact ⟨ι, hp, [.int k' x], .refl _ _, B, .of_flat rfl, rfl, by unfold DE; rw [hu]; exact ⟨rfl, rfl, hw⟩⟩
      · cases h
    | slice a len cap => cases a <;> cases len <;> cases cap <;> cases h
    | _ => cases h
  · cases v with
    | slice a len cap => cases a <;> cases len <;> cases cap <;> cases h
    | _ => cases h
end
end Go.Ev
/- A law's arguments, as the evaluator's memory; from its word to the kit's. -/
namespace Go.Ev
open Go Go.ChangeShapes Go.WideShapes Go.ChangeAt Go.RowKit
section
variable {H : Type} {enc : TypeId × Value → H} {P : Program} {W : World}
/-- Arguments that read as some data. -/
def DEs (P : Program) (h : Hp) : List TypeId → List Value → List (DataW H) → Prop
  | [], [], [] => True
  | t :: ts, v :: vs, d :: ds => ((∃ n, DE P h n t v.cells.toList d) ∧ (aggT P t = some true ∨ v.cells.toList = [v])) ∧ DEs P h ts vs ds
  | _, _, _ => False
theorem DEs.mono {h h' : Hp} (hn : h.nx ≤ h'.nx) (hg : ∀ o, o < h.nx → h'.get o = h.get o) : ∀ {ts : List TypeId} {vs : List Value} {ds : List (DataW H)}, DEs P h ts vs ds → DEs P h' ts vs ds
  | [], [], [], h => h
  | _ :: _, _ :: _, _ :: _, ⟨⟨⟨n, h1⟩, h3⟩, h2⟩ => ⟨⟨⟨n, h1.mono hn hg⟩, h3⟩, h2.mono hn hg⟩
/-- A value is one cell, or a struct's or a row's cells. -/
def Shaped1 (P : Program) (t : TypeId) (v : Value) : Prop := v.cells.toList = [v] ∨ (∃ cs, v = .agg cs) ∧ aggT P t = some true
theorem args_build : ∀ {ts : List TypeId} {vs : List Value} {ds : List (DataW H)} {p : List MemPlace}, DataW.TrodAll enc P W 0 (fun _ => true) true ts vs ds p → (∀ t ∈ ts, ∀ n, Builds H enc P W n t) → (∀ (i : Nat) t v, ts[i]? = some t → vs[i]? = some v → Shaped1 P t v) → ∀ ι h, Base P ι h W →
    ∃ ι' h' evs, Ext1 h ι h' ι' ∧ Base P ι' h' W ∧ VRs ι' evs vs ∧ DEs P h' ts evs ds
  | [], [], [], _, _, _, _, ι, h, B => ⟨ι, h, [], .refl _ _, B, .nil _, trivial⟩
  | t :: ts, v :: vs, d :: ds, _, ⟨p, q, ⟨n, h1⟩, h2, _⟩, hb, hs, ι, h, B => by
    obtain ⟨ι1, h3, ev, E1, B1, V1, O1, D1⟩ := hb t (List.mem_cons_self ..) n _ _ _ h1 ι h B
    obtain ⟨ι2, h4, evs, E2, B2, V2, D2⟩ := args_build h2 (fun t ht => hb t (List.mem_cons_of_mem _ ht)) (fun i t v a b => hs (i + 1) t v (by simpa using a) (by simpa using b)) ι1 h3 B1
    have V1' := VRs.mono1 E2 B1.rh.fresh V1
    rcases hs 0 t v rfl rfl with hc | ⟨⟨cs, rfl⟩, hag⟩
    · rw [hc] at V1'
      have hl : ev.length = 1 := by have := V1'.1; simpa using this.symm
      obtain ⟨x, rfl⟩ : ∃ x, ev = [x] := List.length_eq_one_iff.1 hl
      have hx : x.cells.toList = [x] := by
        have : one x = true := by simpa using O1
        cases x <;> first | rfl | cases this
      obtain ⟨y, c, e1, e2, _⟩ := V1'.head
      injection e1 with e1 _
      subst e1
      refine ⟨ι2, h4, x :: evs, E1.trans E2, B2, .cons e2 V2, ⟨⟨n, ?_⟩, .inr hx⟩, D2⟩
      rw [hx]; exact D1.mono E2.nx E2.get
    · refine ⟨ι2, h4, .agg ev.toArray :: evs, E1.trans E2, B2, .cons ?_ V2, ⟨⟨n, ?_⟩, .inl hag⟩, D2⟩
      · have V1'' : VRs ι2 ev.toArray.toList cs.toList := by rw [List.toList_toArray]; exact V1'
        obtain ⟨a1, a2⟩ := VRs.arr.1 V1''
        exact .agg a1 a2
      · show DE P h4 n t (ev.toArray).toList d
        simpa using D1.mono E2.nx E2.get
theorem shaped_of {r : Reach} {base n : Nat} {t : TypeId} {v : Value} (hp : Plain P n t = true) (h : Value.okWide P W r base t v) : Shaped1 P t v := by
  cases n with
  | zero => cases hp
  | succ n =>
    unfold Plain at hp
    unfold Value.okWide at h
    split at hp
    · rename_i hu
      rw [hu] at h
      unfold Cell.okWide Cell.ok at h
      rw [hu] at h
      cases v <;> first | exact .inl rfl | exact h.elim
    · rename_i hu
      rw [hu] at h
      unfold Cell.okWide Cell.ok at h
      rw [hu] at h
      cases v <;> first | exact .inl rfl | exact h.elim
    · rename_i hu
      rw [hu] at h
      unfold Cell.okWide Cell.ok at h
      rw [hu] at h
      cases v <;> first | exact .inl rfl | exact h.elim
    · rename_i hu
      rw [hu] at h
      obtain ⟨cs, rfl, _⟩ := h
      exact .inr ⟨⟨cs, rfl⟩, by unfold aggT; rw [hu]⟩
    · rename_i hu
      rw [hu] at h
      obtain ⟨cs, rfl, _⟩ := h
      exact .inr ⟨⟨cs, rfl⟩, by unfold aggT; rw [hu]⟩
    · cases hp
theorem DE_int {h : Hp} {n : Nat} {t : TypeId} {k : IntKind} (hu : P.underlying t = some (.int k)) {cs : List Value} {d : DataW H} (hd : DE P h n t cs d) : ∃ x, cs = [.int k x] ∧ (Lit.int k x).wf = true := by
  cases n with
  | zero => exact hd.elim
  | succ n =>
    unfold DE at hd
    rw [hu] at hd
    split at hd
    all_goals first | (rename_i heq; cases heq; done) | skip
    · rename_i k' k2 x heq
      injection heq with heq; injection heq with heq
      subst heq
      exact ⟨x, hd.2⟩
    all_goals first | exact hd.elim | skip
/-- What was there stays, but for what is new. -/
theorem post_of_old {f : Func} {s : ChangeSpec} {apart fresh handsOn again : Bool} {W W' : World} {args : Array Value} {v : Value} {ds gs : List (DataW H)} {before pa pv : List MemPlace}
    (hW : DataW.Whole enc P f.params.toList s.vars apart W args.toList ds gs before)
    (hres : ∀ (b : Nat) (sp : Nat → Bool) (hd : Bool), DataW.TrodAll enc P W' b sp hd f.resultTypes.toList (v.resultList f.resultTypes.size) (s.fn H (ds ++ gs)).results [])
    (hargs : ∀ sp : Nat → Bool, (∀ p ∈ before, sp p.block = true) → DataW.TrodAll enc P W' 0 sp true f.params.toList args.toList (s.fn H (ds ++ gs)).args pa)
    (hvars : ∀ sp : Nat → Bool, (∀ p ∈ before, sp p.block = true) → DataW.TrodVars enc P W' sp s.vars (s.fn H (ds ++ gs)).vars pv)
    (hps : before = pa ++ pv) (hk : W.keptBut W' (· ∈ before)) (hfz : ∀ a : Addr, a.block < W.heap.size → W'.frozen? a = W.frozen? a)
    (hok : ∀ (j : Nat) (t : TypeId) (r : Value), f.resultTypes[j]? = some t → (v.resultList f.resultTypes.size)[j]? = some r → Value.okWide P W' .any 0 t r) :
    s.post enc P f apart fresh handsOn again W args v W' := by
  have hold : ∀ p ∈ before, (fun b => decide (b < W.heap.size)) p.block = true := fun p hp => by simpa using hW.lt p hp
  have hlt := hW.lt
  refine ⟨ds, gs, before, [], pa, pv, hW, hres _ _ _, hargs _ hold, hvars _ hold, World.keptBut_mono (fun p hp => ⟨hp, ?_⟩) hk, fun _ => ?_⟩
  · rw [hps, List.mem_append] at hp
    exact Or.inr hp
  · obtain ⟨_, _, _, _, _, hz, hn⟩ := hW
    refine ⟨hok, _, _, ([] ++ pa) ++ pv, ⟨[] ++ pa, pv, trodAll_append (hargs _ (fun _ _ => rfl)) (hres _ _ _), hvars _ (fun _ _ => rfl), rfl, ?_, ?_⟩, ?_⟩
    · intro b off hp
      have hp2 : MemPlace.cell b off ∈ before := by rw [hps]; simpa using hp
      rw [hfz _ (hlt _ hp2)]
      exact hz b off hp2
    · intro ha
      have := hn ha
      rw [hps] at this
      simpa using this
    · intro p hp _
      rw [hps]
      simpa using hp
/-- Arguments read again as they did. -/
theorem again {ts : List TypeId} {vs : List Value} {ds : List (DataW H)} {p : List MemPlace} {W' : World} (K : Kids P (· < P.types.size)) (full : ∀ t e, t < P.types.size → P.underlying t = some (.slice e) → 0 < P.cellsOf e) (hts : ∀ t ∈ ts, t < P.types.size)
    (hA : DataW.TrodAll enc P W 0 (fun _ => true) true ts vs ds p) (hb : Below W.heap.size W W') (hlt : ∀ q ∈ p, q.block < W.heap.size) (sp : Nat → Bool) (hs : ∀ q ∈ p, sp q.block = true) : DataW.TrodAll enc P W' 0 sp true ts vs ds p := by
  have hA' := DataW.TrodAll.respare K full hts hA hs
  clear hA hs hts
  induction ts generalizing vs ds p with
  | nil => match vs, ds, hA' with
    | [], [], h => exact h
  | cons t ts ih => match vs, ds, hA' with
    | v :: vs, d :: ds, ⟨p1, p2, ⟨n, h1⟩, h2, e⟩ =>
      subst e
      exact ⟨p1, p2, ⟨n, DataW.trod_carry n _ _ _ h1 fun q hq => hb.same (hlt q (List.mem_append_left _ hq))⟩, ih (fun q hq => hlt q (List.mem_append_right _ hq)) h2, rfl⟩
end
end Go.Ev
/- A law's arguments, as the evaluator's memory: structs, rows, and lists of lists. -/
namespace Go.Ev
open Go Go.ChangeShapes Go.WideShapes Go.ChangeAt Go.RowKit
section
variable {H : Type} {enc : TypeId × Value → H} {P : Program} {W : World}
/-- Fields one behind the other are the whole. -/
theorem lay_flat {n : Nat} : ∀ (fs : List Field) (off : Nat), layOk P off fs n = true → ∀ (cs : List Value), cs.length = n → (fs.map fun f => (cs.drop f.offset).take (P.cellsOf f.type)).flatten = cs.drop off := by
  intro fs
  induction fs with
  | nil =>
    intro off h cs hc
    have : off = n := Nat.eq_of_beq_eq_true h
    rw [List.drop_of_length_le (by omega)]; rfl
  | cons f fs ih =>
    intro off h cs hc
    simp only [layOk, Bool.and_eq_true] at h
    have h1 : f.offset = off := Nat.eq_of_beq_eq_true h.1
    rw [List.map_cons, List.flatten_cons, ih _ h.2 cs hc, h1, ← List.drop_drop, List.take_append_drop]
theorem lay_part {n : Nat} : ∀ (fs : List Field) (off : Nat), layOk P off fs n = true → ∀ (evs : List (List Value)), evs.length = fs.length → (∀ (i : Nat) f ev, fs[i]? = some f → evs[i]? = some ev → ev.length = P.cellsOf f.type) →
    ∀ (i : Nat) f ev, fs[i]? = some f → evs[i]? = some ev → off ≤ f.offset ∧ (evs.flatten.drop (f.offset - off)).take (P.cellsOf f.type) = ev := by
  intro fs
  induction fs with
  | nil => intro off _ evs _ _ i f ev hf; simp at hf
  | cons g fs ih =>
    intro off h evs hl hlen i f ev hf he
    simp only [layOk, Bool.and_eq_true] at h
    have h1 : g.offset = off := Nat.eq_of_beq_eq_true h.1
    rcases evs with _ | ⟨e0, evs⟩
    · simp at hl
    have hl0 : e0.length = P.cellsOf g.type := hlen 0 g e0 rfl rfl
    cases i with
    | zero =>
      simp at hf he
      subst hf he
      refine ⟨by omega, ?_⟩
      rw [h1, Nat.sub_self, List.drop_zero, List.flatten_cons, ← hl0, List.take_left]
    | succ i =>
      obtain ⟨g1, g2⟩ := ih _ h.2 evs (by simpa using hl) (fun i f ev a b => hlen (i + 1) f ev (by simpa using a) (by simpa using b)) i f ev (by simpa using hf) (by simpa using he)
      refine ⟨by omega, ?_⟩
      rw [List.flatten_cons, List.drop_append, List.drop_of_length_le (by omega), List.nil_append, show f.offset - off - e0.length = f.offset - (off + P.cellsOf g.type) by omega]
      exact g2
theorem lay_fit {n : Nat} : ∀ (fs : List Field) (off : Nat), layOk P off fs n = true → off ≤ n ∧ ∀ f ∈ fs, f.offset + P.cellsOf f.type ≤ n := by
  intro fs
  induction fs with
  | nil => intro off h; exact ⟨Nat.le_of_eq (Nat.eq_of_beq_eq_true h), fun f hf => by cases hf⟩
  | cons g fs ih =>
    intro off h
    simp only [layOk, Bool.and_eq_true] at h
    have h1 : g.offset = off := Nat.eq_of_beq_eq_true h.1
    obtain ⟨a, b⟩ := ih _ h.2
    refine ⟨by omega, fun f hf => ?_⟩
    rcases List.mem_cons.1 hf with rfl | hf
    · omega
    · exact b f hf
theorem build_struct {n : Nat} {fs : Array Field} {t : TypeId} (he : ∀ f ∈ fs.toList, Builds H enc P W n f.type) (hlay : layOk P 0 fs.toList (P.cellsOf t) = true) (hu : P.underlying t = some (.struct fs)) : Builds H enc P W (n + 1) t := by
  intro cs d ps h ι hp B
  have h : (if cs.length = P.cellsOf t then (fs.toList.mapM fun f => DataW.trod enc P W 0 (fun _ => true) true n f.type ((cs.drop f.offset).take (P.cellsOf f.type))).map fun xs => (DataW.agg (xs.map (·.1)), xs.flatMap (·.2)) else none) = some (d, ps) := by
    unfold DataW.trod at h
    rw [hu] at h
    exact h
  split at h
  · rename_i hc
    obtain ⟨xs, h1, h2⟩ := Option.map_eq_some_iff.1 h
    injection h2 with h2 _
    subst h2
    have l1 := Lib.mapM_length h1
    let l : List (TypeId × List Value × DataW H) := (fs.toList.zip (xs.map (·.1))).map fun p => (p.1.type, (cs.drop p.1.offset).take (P.cellsOf p.1.type), p.2)
    have hll : l.length = fs.toList.length := by simp [l, l1]
    have lget : ∀ i (hi : i < l.length), ∃ f x, fs.toList[i]? = some f ∧ xs[i]? = some x ∧ l[i] = (f.type, (cs.drop f.offset).take (P.cellsOf f.type), x.1) ∧ DataW.trod enc P W 0 (fun _ => true) true n f.type ((cs.drop f.offset).take (P.cellsOf f.type)) = some x := by
      intro i hi
      have hi1 : i < fs.toList.length := by omega
      have hi2 : i < xs.length := by omega
      obtain ⟨b, e1, e2⟩ := Lib.mapM_at h1 i _ (List.getElem?_eq_getElem hi1)
      rw [List.getElem?_eq_getElem hi2] at e1
      obtain rfl := Option.some.inj e1
      exact ⟨_, _, List.getElem?_eq_getElem hi1, List.getElem?_eq_getElem hi2, by simp [l], e2⟩
    obtain ⟨ι1, h3, evs, E1, B1, L1, V1, O1, D1⟩ := build_list l (fun p hpm => by
      obtain ⟨i, hi, rfl⟩ := List.getElem_of_mem hpm
      obtain ⟨f, x, a1, a2, a3, a4⟩ := lget i hi
      rw [a3]
      exact ⟨he f (List.mem_of_getElem? a1), _, a4⟩) ι hp B
    have hcells : l.map (·.2.1) = fs.toList.map fun f => (cs.drop f.offset).take (P.cellsOf f.type) := by
      refine List.ext_getElem (by simp [hll]) fun i hi hi' => ?_
      have hi3 : i < l.length := by simpa using hi
      obtain ⟨f, x, a1, a2, a3, a4⟩ := lget i hi3
      have hi4 : i < fs.toList.length := by omega
      have hf : fs.toList[i] = f := by rw [List.getElem?_eq_getElem hi4] at a1; exact Option.some.inj a1
      simp only [List.getElem_map]
      rw [a3, hf]
    rw [hcells, lay_flat fs.toList 0 hlay cs hc, List.drop_zero] at V1
    refine ⟨ι1, h3, evs.flatten, E1, B1, V1, O1, ?_⟩
    unfold DE
    rw [hu]
    have hlen : ∀ (i : Nat) f ev, fs.toList[i]? = some f → evs[i]? = some ev → ev.length = P.cellsOf f.type := by
      intro i f ev hf hev
      have hi : i < l.length := by have := (List.getElem?_eq_some_iff.1 hf).1; omega
      obtain ⟨ev', e1, e2, _⟩ := D1 i hi
      rw [hev] at e1
      obtain rfl := Option.some.inj e1
      obtain ⟨f', x, a1, a2, a3, a4⟩ := lget i hi
      rw [hf] at a1
      obtain rfl := Option.some.inj a1
      rw [← e2.1, a3]
      have hfit := (lay_fit fs.toList 0 hlay).2 f (List.mem_of_getElem? hf)
      show ((cs.drop f.offset).take (P.cellsOf f.type)).length = _
      rw [List.length_take, List.length_drop]; omega
    refine ⟨by rw [← V1.1]; exact hc, by simp [l1], fun i hi f hf => ?_⟩
    have hi2 : i < l.length := by simp at hi; omega
    obtain ⟨ev, e1, e2, e3⟩ := D1 i hi2
    obtain ⟨f', x, a1, a2, a3, a4⟩ := lget i hi2
    have hf' : fs.toList[i]? = some f := by rw [Array.getElem?_toList]; exact hf
    rw [hf'] at a1
    obtain rfl := Option.some.inj a1
    have := (lay_part fs.toList 0 hlay evs (by omega) hlen i f ev hf' e1).2
    rw [Nat.sub_zero] at this
    rw [this]
    rw [a3] at e3
    have hx : (xs.map (·.1))[i]'(by simpa using hi) = x.1 := by
      have hi3 : i < xs.length := by simpa using hi
      rw [List.getElem?_eq_getElem hi3] at a2
      obtain rfl := Option.some.inj a2
      simp
    rw [hx]; exact e3
  · cases h
/-- The parts of a struct. -/
theorem DE_struct {h : Hp} {n : Nat} {t : TypeId} {fs : Array Field} (hu : P.underlying t = some (.struct fs)) {cs : List Value} {d : DataW H} (hd : DE P h (n + 1) t cs d) :
    cs.length = P.cellsOf t ∧ ∀ (i : Nat) (f : Field), fs[i]? = some f → ∃ d' : DataW H, DE P h n f.type ((cs.drop f.offset).take (P.cellsOf f.type)) d' := by
  unfold DE at hd
  rw [hu] at hd
  split at hd
  all_goals first | (rename_i heq; cases heq; done) | skip
  · rename_i fs' parts heq
    injection heq with heq; injection heq with heq
    subst heq
    obtain ⟨h1, h2, h3⟩ := hd
    refine ⟨h1, fun i f hf => ?_⟩
    have hi : i < parts.length := by rw [h2]; exact (Array.getElem?_eq_some_iff.1 hf).1
    exact ⟨_, h3 i hi f hf⟩
  all_goals first | exact hd.elim | skip
theorem two_of {cs : List Value} {x y : Value} (hl : cs.length = 2) (h1 : (cs.drop 0).take 1 = [x]) (h2 : (cs.drop 1).take 1 = [y]) : cs = [x, y] := by
  rcases cs with _ | ⟨a, _ | ⟨b, _ | ⟨c, r⟩⟩⟩
  · cases hl
  · cases hl
  · simp at h1 h2; rw [h1, h2]
  · simp at hl
end
end Go.Ev
/- From the evaluator's word on a law of layer 15 to the kit's; arguments. -/
namespace Go.Proofs.YtngcjpkccnfjiaaGreatDoor
open Go Go.Ev Go.ChangeShapes Go.WideShapes Go.ChangeAt Go.RowKit
theorem own : ownKnob Tryz.prog.godebug = none := by kernel_rfl
theorem gTab : Tryz.prog.globalNamed "sward/collect.truth" = some 0 := by kernel_rfl
theorem gTabType : (Tryz.prog.globals[0]?).map (·.type) = some 117 := by kernel_rfl
theorem cellsInt : Tryz.prog.cellsOf 3 = 1 := by kernel_rfl
theorem cellsKind : Tryz.prog.cellsOf 37 = 1 := by kernel_rfl
theorem cells117 : Tryz.prog.cellsOf 117 = 2 := by kernel_rfl
theorem cells22 : Tryz.prog.cellsOf 22 = 1 := by kernel_rfl
theorem cells24 : Tryz.prog.cellsOf 24 = 3 := by kernel_rfl
set_option maxRecDepth 100000 in
theorem kids : Kids Tryz.prog (· < Tryz.prog.types.size) := kids_rows (by kernel_rfl) (by kernel_rfl)
set_option maxRecDepth 100000 in
theorem full : ∀ t e, t < Tryz.prog.types.size → Tryz.prog.underlying t = some (.slice e) → 0 < Tryz.prog.cellsOf e := slices_full_of _ (by kernel_rfl)
set_option maxRecDepth 100000 in
/-- What the row tells of the one laid variable. -/
theorem truth_of {W : World} {x : DataW Unit} (hx : x = .agg [.lit (.int .i64 1), .lit (.int .i64 4)]) (h : laidMet Tryz.prog [("sward/collect.truth", x)] W) : W.var? Tryz.prog "sward/collect.truth" = some tab.toArray := by
  obtain ⟨ps, ⟨g', t', cs, fuel, p, q, hg', ht', hvar, hd, _, _⟩, _⟩ := h
  obtain rfl := Option.some.inj (gTab.symm.trans hg')
  obtain rfl := Option.some.inj (gTabType.symm.trans ht')
  rw [hvar]
  subst hx
  obtain ⟨y0, y1, n, hx, hl, h0, h1⟩ := trod_struct2 Tryz.underlying117 hd
  injection hx with hx _
  injection hx with hx
  injection hx with e0 hx
  injection hx with e1 _
  have h0 : DataW.trod _ Tryz.prog W _ _ _ n 3 ((cs.toList.drop 0).take (Tryz.prog.cellsOf 3)) = some y0 := h0
  have h1 : DataW.trod _ Tryz.prog W _ _ _ n 37 ((cs.toList.drop 1).take (Tryz.prog.cellsOf 37)) = some y1 := h1
  rw [cellsInt] at h0
  rw [cellsKind] at h1
  obtain ⟨z0, hc0, hy0, _⟩ := DataW.trod_int Tryz.underlying3 (x := y0) h0
  obtain ⟨z1, hc1, hy1, _⟩ := DataW.trod_int Tryz.underlying37 (x := y1) h1
  rw [hy0] at e0
  rw [hy1] at e1
  injection e0 with e0; injection e0 with _ e0
  injection e1 with e1; injection e1 with _ e1
  have := two_of (hl.trans cells117) hc0 hc1
  congr 1
  rw [← Array.toList_inj, this, ← e0, ← e1]
  rfl
theorem tab_cells {W : World} (h : W.var? Tryz.prog "sward/collect.truth" = some tab.toArray) : ∀ j x, tab[j]? = some x → W.cell? ⟨0, j, none⟩ = some x := by
  intro j x hj
  have := World.var?_cell gTab h j
  rw [this, ← hj]
  simp
/-- The names at the start: the package-level variables. -/
def iota0 : Inj := fun o => if o < 2 then some ⟨o, 0, 0, 0⟩ else none
theorem start_RH {W : World} (ht : ∀ j x, tab[j]? = some x → W.cell? ⟨0, j, none⟩ = some x) : RH Tryz.prog iota0 h0 W := by
  have h00 := ht 0 _ rfl
  have hblk : ∃ c e fr, W.heap[0]? = some (.cells c e fr) := by
    cases hb : W.heap[0]? with
    | none => simp [World.cell?, hb] at h00
    | some y =>
      cases y with
      | cells c e fr => exact ⟨c, e, fr, rfl⟩
      | _ => simp [World.cell?, hb] at h00
  obtain ⟨c, e, fr, hb⟩ := hblk
  refine ⟨fun o x ho => ?_, fun o q x y vo vq _ ho hx => ?_, fun o ho => if_neg (by have : 2 ≤ o := ho; omega), fun g hg => ?_, by rw [gsz]; exact Nat.le_refl _⟩
  · obtain ⟨rfl, rfl⟩ := h0_get o x ho
    refine ⟨Nat.zero_lt_two, ⟨0, 0, 0, 0⟩, rfl, tab_one, c, e, fr, hb, fun j x hx => ?_, fun h => absurd rfl h, fun h => by cases h⟩
    have := ht j x hx
    refine ⟨x, ?_, .flat (all_get tab_flat hx)⟩
    simpa [World.cell?, hb] using this
  · obtain ⟨rfl, rfl⟩ := h0_get o x ho
    cases hx
  · rw [gsz] at hg
    exact ⟨0, 0, if_pos hg⟩
set_option maxRecDepth 100000 in
theorem h0_tab : h0.get 0 = some (.cells tab 0 .ro) := by kernel_rfl
set_option maxRecDepth 100000 in
theorem start_base {W : World} (ht : ∀ j x, tab[j]? = some x → W.cell? ⟨0, j, none⟩ = some x) : Base Tryz.prog iota0 h0 W :=
  ⟨start_RH ht, fun o x ho => by obtain ⟨rfl, rfl⟩ := h0_get o x ho; rfl, rfl, ⟨_, ⟨0, 0, 0, 0⟩, h0_tab, rfl, Nat.zero_lt_two, tab, 0, rfl⟩⟩
set_option maxRecDepth 100000 in
/-- A law that the evaluator finds true, wherever its arguments lie, is true. -/
theorem law_calls {H : Type} {enc : TypeId × Value → H} {f : FuncId} {fn : Func} (hf : Tryz.prog.funcs[f]? = some fn) (hb : fn.body.isSome = true) (h14 : f ≠ 14) {W : World} (ht : ∀ j x, tab[j]? = some x → W.cell? ⟨0, j, none⟩ = some x)
    {ts : List TypeId} {args : Array Value} {ds : List (DataW H)} {p : List MemPlace} (hA : DataW.TrodAll enc Tryz.prog W 0 (fun _ => true) true ts args.toList ds p) (hbd : ∀ t ∈ ts, ∀ n, Builds H enc Tryz.prog W n t) (hs : ∀ (i : Nat) t v, ts[i]? = some t → args.toList[i]? = some v → Shaped1 Tryz.prog t v)
    (hR : ∀ (h : Hp) (evs : List Value), Tb h → h.Ok → h.gd = [] → DEs Tryz.prog h ts evs ds → Ret Tryz.prog Ow f evs h fun v _ => v = .bool true) (hlt : f < yB := by decide) :
    Calls Tryz.prog f args W fun e W' => e = .returned (.bool true) ∧ Below W.heap.size W W' := by
  obtain ⟨ι, h, evs, E, B, V, D⟩ := args_build hA hbd hs iota0 h0 (start_base ht)
  have hg : h.gd = [] := B.gd
  have htb : Tb h := ⟨Nat.lt_of_lt_of_le (by decide : 1 < 2) E.nx, by rw [E.get 0 Nat.zero_lt_two]; exact h0_tab⟩
  have hfr : h.Fresh := fun o ho => by
    cases ho2 : h.get o with
    | none => rfl
    | some x => have := (B.rh.live o x ho2).1; omega
  obtain ⟨v, h', he, rfl⟩ := hR h evs htb ⟨fun q hq => (by rw [hg] at hq; cases hq), hfr⟩ hg D
  have := calls_of_EvC mixed noNum Ow_ok hlt hf hb (Ow_oth f evs h h14) he B.rh V
  have e : args.toList.toArray = args := by simp
  rw [e] at this
  refine this.mono fun e W' ⟨ι', v', h1, h2, h3⟩ => ?_
  obtain rfl := VR.of_flat rfl h3
  exact ⟨h1, h2.fr.os, h2.fr.tape, h2.fr.output, h2.fr.size, fun k hk => h2.fr.rest k hk fun o x _ ho hx => by rw [B.ro o x ho] at hx; cases hx⟩
/-- A world for the witness: the variable holds what its initialiser lays. -/
noncomputable def laidWorld (os : Os) : World :=
  { World.holding Tryz.prog os ⟨#[], #[], []⟩ with heap := (World.holding Tryz.prog os ⟨#[], #[], []⟩).heap.modify 0 fun
      | .cells _ t frozen => .cells tab.toArray t frozen
      | o => o }
/-! ### arguments -/
section
variable {H : Type} {P : Program}
/-- A list of whole numbers of the machine. -/
theorem DE_ints2 {h : Hp} {n : Nat} {t e : TypeId} (hu : P.underlying t = some (.slice e)) (he : P.underlying e = some (.int .i64)) (hc : P.cellsOf e = 1) {cs : List Value} {d : DataW H} (hd : DE P h n t cs d) :
    ∃ a m c xs, cs = [.slice a m c] ∧ SI h a m c xs ∧ ∀ x ∈ xs, In64 x := by
  cases n with
  | zero => exact hd.elim
  | succ n =>
    unfold DE at hd
    rw [hu] at hd
    split at hd
    all_goals first | (rename_i heq; cases heq; done) | skip
    · exact ⟨none, 0, 0, [], hd, SI.fix (SlAt.nil ..) (Nat.le_refl _) (by decide) (fun _ => rfl), fun x hx => by cases hx⟩
    · rename_i e2 elems sp heq
      injection heq with heq; injection heq with heq
      subst heq
      obtain ⟨k, cap, c, e', h1, h2, h3, h4, h5, h6, h7⟩ := hd
      rw [hc] at h6
      have hx : ∀ i (hi : i < elems.length), ∃ x, (c.drop (i * 1)).take 1 = [.int .i64 x] ∧ (Lit.int .i64 x).wf = true := fun i hi => by
        have := h7 i hi
        rw [hc] at this
        obtain ⟨x, hx, hy⟩ := DE_int he this
        exact ⟨x, hx, hy⟩
      let xs : List Int := (List.range elems.length).map fun i => if hi : i < elems.length then (hx i hi).choose else 0
      have hl : xs.length = elems.length := by simp [xs]
      refine ⟨some ⟨k, 0, none⟩, elems.length, cap, xs, h1, SI.fix ⟨hl.symm, .inr ⟨k, 0, c, e', .ro, rfl, h4, h5, by rw [hl]; omega, fun i hi => ?_⟩⟩ h3 h2 (fun h => by cases h), fun x hx' => ?_⟩
      · rw [hl] at hi
        show (c.drop (0 + i * 1)).take 1 = [.int .i64 xs[i]]
        have : xs[i]'(by rw [hl]; exact hi) = (hx i hi).choose := by simp [xs, hi]
        rw [this, Nat.zero_add]
        exact (hx i hi).choose_spec.1
      · obtain ⟨i, hi, rfl⟩ := List.getElem_of_mem hx'
        rw [hl] at hi
        have : xs[i]'(by rw [hl]; exact hi) = (hx i hi).choose := by simp [xs, hi]
        rw [this]
        have h9 := (hx i hi).choose_spec.2
        generalize (hx i hi).choose = z at h9
        have h9 : (decide (IntKind.i64.min ≤ z) && decide (z ≤ IntKind.i64.max)) = true := h9
        simp only [Bool.and_eq_true, decide_eq_true_eq] at h9
        have m1 : IntKind.i64.min = -9223372036854775808 := rfl
        have m2 : IntKind.i64.max = 9223372036854775807 := rfl
        exact ⟨by omega, by omega⟩
    all_goals first | exact hd.elim | skip
end
section
variable {H : Type} {enc : TypeId × Value → H} {W : World}
theorem build0 (t : TypeId) : Builds H enc Tryz.prog W 0 t := fun cs d ps h => by simp [DataW.trod] at h
theorem bld3 : ∀ n, Builds H enc Tryz.prog W n 3
  | 0 => build0 3
  | _ + 1 => build_int Tryz.underlying3
theorem bld22 : ∀ n, Builds H enc Tryz.prog W n 22
  | 0 => build0 22
  | n + 1 => build_slice (bld3 n) (by rw [cellsInt]; decide) Tryz.underlying22
theorem bld24 : ∀ n, Builds H enc Tryz.prog W n 24
  | 0 => build0 24
  | n + 1 => build_struct (fun f hf => by
      simp at hf
      rcases hf with rfl | rfl | rfl
      · exact bld22 n
      · exact bld3 n
      · exact bld22 n) (by kernel_rfl) Tryz.underlying24
theorem agg_of_three {v x y z : Value} (h : v.cells.toList = [x, y, z]) : v = .agg #[x, y, z] := by
  cases v with
  | agg cs =>
    have h : cs.toList = [x, y, z] := h
    obtain ⟨l⟩ := cs
    have h : l = [x, y, z] := h
    rw [h]
  | _ => cases h
theorem three_of {cs : List Value} {x y z : Value} (hl : cs.length = 3) (h1 : (cs.drop 0).take 1 = [x]) (h2 : (cs.drop 1).take 1 = [y]) (h3 : (cs.drop 2).take 1 = [z]) : cs = [x, y, z] := by
  rcases cs with _ | ⟨a, _ | ⟨b, _ | ⟨c, _ | ⟨d, r⟩⟩⟩⟩
  · cases hl
  · cases hl
  · cases hl
  · simp at h1 h2 h3; rw [h1, h2, h3]
  · simp at hl
set_option maxRecDepth 100000 in
/-- A heap in memory. -/
theorem heap_of {h : Hp} {n : Nat} {v : Value} {d : DataW H} (D : DE Tryz.prog h n 24 v.cells.toList d) : ∃ aw nw cw W top ar nr cr R, v = .agg #[.slice aw nw cw, .int .i64 top, .slice ar nr cr] ∧ HA h aw nw cw W ar nr cr R := by
  cases n with
  | zero => exact D.elim
  | succ n =>
    obtain ⟨h1, h2⟩ := DE_struct Tryz.underlying24 D
    obtain ⟨d1, D1⟩ := h2 0 _ rfl
    obtain ⟨d2, D2⟩ := h2 1 _ rfl
    obtain ⟨d3, D3⟩ := h2 2 _ rfl
    have D1 : DE Tryz.prog h n 22 ((v.cells.toList.drop 0).take (Tryz.prog.cellsOf 22)) d1 := D1
    have D2 : DE Tryz.prog h n 3 ((v.cells.toList.drop 1).take (Tryz.prog.cellsOf 3)) d2 := D2
    have D3 : DE Tryz.prog h n 22 ((v.cells.toList.drop 2).take (Tryz.prog.cellsOf 22)) d3 := D3
    rw [cellsInt] at D2
    rw [cells22] at D1 D3
    obtain ⟨aw, nw, cw, W, z1, A1, r1⟩ := DE_ints2 Tryz.underlying22 Tryz.underlying3 cellsInt D1
    obtain ⟨x, z2, _⟩ := DE_int Tryz.underlying3 D2
    obtain ⟨ar, nr, cr, R, z3, A3, r3⟩ := DE_ints2 Tryz.underlying22 Tryz.underlying3 cellsInt D3
    exact ⟨aw, nw, cw, W, x, ar, nr, cr, R, agg_of_three (three_of (h1.trans cells24) z1 z2 z3), A1, A3, r1, r3⟩
end
end Go.Proofs.YtngcjpkccnfjiaaGreatDoor
