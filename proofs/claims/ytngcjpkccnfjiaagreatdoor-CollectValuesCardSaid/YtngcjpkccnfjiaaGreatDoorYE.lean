/- shaped of the reference: its contract. -/
import Derived.Test.YtngcjpkccnfjiaaGreatDoorYD
import Derived.Lib.Bytealg
import Derived.Test.YtngcjpkccnfjiaaGreatDoorProg
import Derived.Test.YtngcjpkccnfjiaaGreatDoorYC
import Derived.KernelRfl
namespace Go.Proofs.YtngcjpkccnfjiaaGreatDoor
open Go Go.Ev
theorem Vl.ind {M:Vl→Prop}(h: ∀k n t ps,(∀(i:Nat) (hi:i<ps.length),M ps[i])→M (.mk k n t ps)): ∀v,M v:=by
 have main: ∀(N:Nat) (v:Vl),SizeOf.sizeOf v<N→M v:=by
  intro N
  induction N with
  |zero=>intro v hv;exact absurd hv (Nat.not_lt_zero _)
  |succ N ih=>
   intro v hv
   obtain⟨k,n,t,ps⟩:=v
   refine h k n t ps fun i hi=>ih ps[i] ?_
   have:=List.sizeOf_lt_of_mem (List.getElem_mem hi)
   have e:SizeOf.sizeOf (Vl.mk k n t ps)=1+SizeOf.sizeOf k+SizeOf.sizeOf n+SizeOf.sizeOf t+SizeOf.sizeOf ps:=Vl.mk.sizeOf_spec k n t ps
   omega
 exact fun v=>main _ v (Nat.lt_succ_self _)
def incF:List Vl→Bool
 |a::b::r=>ltI (cmpF a b) 0&&incF (b::r)
 |_=>true
def formF (k n:Int)(t:ByteArray)(ps:List Vl):Bool:=
 bif eqI k 1 then (!(ltI n (-1000000000))&& !(ltI 1000000000 n))&&(sEq t (ByteArray.mk #[])&&eqI (Int.ofNat ps.length) 0)
 else bif eqI k 2 then (!(ltI n 0)&& !(ltI 1 n))&&(sEq t (ByteArray.mk #[])&&eqI (Int.ofNat ps.length) 0)
 else bif eqI k 3 then eqI n 0&&(lettersF t&&eqI (Int.ofNat ps.length) 0)
 else bif eqI k 4 then eqI n 0&&(sEq t (ByteArray.mk #[])&&(!(ltI (Int.ofNat ps.length) 2)&& !(ltI 6 (Int.ofNat ps.length))))
 else bif eqI k 5 then incF ps&&(eqI n 0&&sEq t (ByteArray.mk #[]))
 else false
mutual
def shapedF:Vl→Bool
 | .mk k n t ps=>shapedL ps&&formF k n t ps
def shapedL:List Vl→Bool
 | []=>true
 |v::r=>shapedF v&&shapedL r
end
def Nice (v:Vl):Prop:=Few v∧briefF v=true
theorem briefL_all {ps:List Vl}(h:briefL ps=true): ∀p∈ps,briefF p=true:=by
 induction ps with
 |nil=>intro p hp;cases hp
 |cons v r ih=>
  simp only[briefL,Bool.and_eq_true]at h
  intro p hp
  rcases List.mem_cons.1 hp with rfl|hp
  · exact h.1
  · exact ih h.2 p hp
theorem Nice.parts {k n:Int}{t:ByteArray}{ps:List Vl}(F:Nice (.mk k n t ps)):ps.length<1000000∧t.size<31∧ ∀p∈ps,Nice p:=by
 obtain⟨F,B⟩:=F
 simp only[briefF,Bool.and_eq_true]at B
 refine⟨F.parts.1,?_,fun p hp=>⟨F.parts.2 p hp,briefL_all B.1 p hp⟩⟩
 have:=B.2
 rw[Bool.not_eq_true',show(30:Int)=Int.ofNat 30 from rfl,ltI_nat]at this
 have: ¬(30<t.size):=fun h=>by rw[blt_t h]at this;cases this
 omega
section
variable {O:CallF}(hO:Oth O)
include hO
theorem ct107 {h:Hp}: ∀(v:Vl){vs:List Value}(_:VA h v vs),Nice v→ ∀ {g:Hp},Kp h.nx h g→g.Ok→Ret Tryz.prog O 107 [.agg vs.toArray] g fun r g'=>r= .bool (shapedF v)∧Kp g.nx g g':=by
 refine Vl.ind fun k n t ps ih=> ?_
 intro vs V F g K ok
 obtain⟨fl,ft,fp⟩:=F.parts
 obtain⟨a,m,c,rfl,P⟩:=PA.of V
 have p1:=P.1
 subst p1
 refine rk107 (hO:=hO _ _ _ (by decide)) (hh:= ?_) ..
 unfold T107
 intro g1
 have S:Know g g1 [ob g.nx (.cells [.int .i64 k,.int .i64 n,.string t,.slice a ps.length c] 46 .fix)]:=(Know.nil ok).add _
 simp only[shapedF]
 have inc: ∀(j i:Nat),i+1+j=max 1 ps.length→ ∀(g3:Hp),Know g g3 [ob g.nx (.cells [.int .i64 k,.int .i64 n,.string t,.slice a ps.length c] 46 .fix)]→
  I107_1 O (fun r g'=>r= .bool (incF (ps.drop i)&&(eqI n 0&&sEq t (ByteArray.mk #[])))∧Kp g.nx g g') k n t a ps.length c g.nx 0 false (Int.ofNat (i+1)) g3:=by
  intro j
  induction j with
  |zero=>
   intro i hi g3 S
   refine I107_1.of (hh:= ?_) ..
   unfold T107_1
   refine⟨_,_,_,S.rd 0 rfl rfl rfl,vcond_f (by rw[ltI_nat];exact blt_f (by omega)) ⟨_,S.rd 0 rfl rfl rfl,?_⟩⟩
   have e:incF (ps.drop i)=true:=by
    match hd:ps.drop i with
    | []=>rfl
    | [_]=>rfl
    |_::_::_=>
     have:=congrArg List.length hd
     simp only[List.length_drop,List.length_cons]at this
     omega
   rw[e,Bool.true_and]
   cases h1:eqI n 0 with
   |false=>exact vcond_f rfl ⟨rfl,S.kp⟩
   |true=>exact vcond_t rfl ⟨_,S.rd 0 rfl rfl rfl,rfl,S.kp⟩
  |succ j ihj=>
   intro i hi g3 S
   have i1:i+1<ps.length:=by omega
   have i0:i<ps.length:=by omega
   refine I107_1.of (hh:= ?_) ..
   unfold T107_1
   rw[List.drop_eq_getElem_cons i0,List.drop_eq_getElem_cons i1,incF,←List.drop_eq_getElem_cons i1]
   refine⟨_,_,_,S.rd 0 rfl rfl rfl,vcond_t (by rw[ltI_nat];exact blt_t i1) ?_⟩
   intro g204
   have S1:Know g g204 [ob g.nx (.cells [.int .i64 k,.int .i64 n,.string t,.slice a ps.length c] 46 .fix)]:=S.rsv 13
   have kk:Kp h.nx h g204:=K.trans (S1.kp.le K.nx)
   obtain⟨b,off,rfl,ws,V,rv⟩:=P.2 i i0
   obtain⟨b',off',e',us,U,ru⟩:=P.2 (i+1) i1
   obtain⟨rfl,rfl⟩:b=b'∧off=off':=by simpa using e'
   have rv:=rv kk.get
   have ru:=ru kk.get
   have ihi:=ct137 hO V (fp _ (List.getElem_mem i0)).1 U (g:=g204.grd []) ⟨kk.get,kk.nx,kk.gd,kk.fr⟩ (S1.ok.grd fun q hq=>by cases hq)
   obtain⟨_,_,_,_,_,_,rfl⟩:=V.form
   obtain⟨_,_,_,_,_,_,rfl⟩:=U.form
   have ew:wrapF .i64 (Int.ofNat (i+1)-1)=Int.ofNat i:=by
    simp only[Int.ofNat_eq_natCast]
    rw[wrap64 (by omega) (by omega)];omega
   rw[ew]
   refine⟨_,_,_,S1.rd 0 rfl rfl rfl,isNat_i (show isAddr (some ⟨b,off,none⟩) _ from vreq_t (blt_t i0) ⟨_,_,_,_,_,_,rv,_,_,_,S1.rd 0 rfl rfl rfl,isNat_i (show isAddr (some ⟨b,off,none⟩) _ from vreq_t (blt_t i1) ⟨_,_,_,_,_,_,ru,?_⟩)⟩)⟩
   obtain⟨r,g4,e4,rfl,K3⟩:=ihi
   refine⟨_,g4,e4,?_⟩
   intro g231
   have S3:Know g g231 [ob g.nx (.cells [.int .i64 k,.int .i64 n,.string t,.slice (some ⟨b,off,none⟩) ps.length c] 46 .fix)]:=S1.callg K3
   rw[wrap_succ (by omega)]
   cases hbf:ltI (cmpF ps[i] ps[i+1]) 0 with
   |false=>exact vcond_t rfl ⟨rfl,S3.kp⟩
   |true=>exact vcond_f rfl (ihj (i+1) (by omega) g231 S3)
 have go: ∀(j i:Nat),i+j=ps.length→ ∀(g2:Hp),Know g g2 [ob g.nx (.cells [.int .i64 k,.int .i64 n,.string t,.slice a ps.length c] 46 .fix)]→
  I107_0 O (fun r g'=>r= .bool (shapedL (ps.drop i)&&formF k n t ps)∧Kp g.nx g g') k n t a ps.length c g.nx 0 false (Int.ofNat i) g2:=by
  intro j
  induction j with
  |zero=>
   intro i hi g2 S
   refine I107_0.of (hh:= ?_) ..
   unfold T107_0
   refine⟨_,_,_,S.rd 0 rfl rfl rfl,vcond_f (by rw[ltI_nat];exact blt_f (by omega)) ⟨_,S.rd 0 rfl rfl rfl,?_⟩⟩
   rw[List.drop_of_length_le (by omega),shapedL,Bool.true_and]
   unfold formF
   cases h1:eqI k 1 with
   |true=>
    refine vcond_t rfl ⟨_,S.rd 0 rfl rfl rfl,_,_,ct140 hO _ _ _ _,?_⟩
    cases h2: !(ltI n (-1000000000))&& !(ltI 1000000000 n)with
    |false=>exact vcond_f rfl ⟨rfl,S.kp⟩
    |true=>
     refine vcond_t rfl ⟨_,S.rd 0 rfl rfl rfl,?_⟩
     cases h3:sEq t (ByteArray.mk #[])with
     |false=>exact vcond_f rfl ⟨rfl,S.kp⟩
     |true=>exact vcond_t rfl ⟨_,_,_,S.rd 0 rfl rfl rfl,rfl,S.kp⟩
   |false=>
   refine vcond_f rfl ?_
   cases h1:eqI k 2 with
   |true=>
    refine vcond_t rfl ⟨_,S.rd 0 rfl rfl rfl,_,_,ct140 hO _ _ _ _,?_⟩
    cases h2: !(ltI n 0)&& !(ltI 1 n)with
    |false=>exact vcond_f rfl ⟨rfl,S.kp⟩
    |true=>
     refine vcond_t rfl ⟨_,S.rd 0 rfl rfl rfl,?_⟩
     cases h3:sEq t (ByteArray.mk #[])with
     |false=>exact vcond_f rfl ⟨rfl,S.kp⟩
     |true=>exact vcond_t rfl ⟨_,_,_,S.rd 0 rfl rfl rfl,rfl,S.kp⟩
   |false=>
   refine vcond_f rfl ?_
   cases h1:eqI k 3 with
   |true=>
    refine vcond_t rfl ⟨_,S.rd 0 rfl rfl rfl,?_⟩
    cases h2:eqI n 0 with
    |false=>exact vcond_f rfl ⟨rfl,S.kp⟩
    |true=>
     refine vcond_t rfl ⟨_,S.rd 0 rfl rfl rfl,_,_,ct141 hO t (by omega) _,?_⟩
     cases h3:lettersF t with
     |false=>exact vcond_f rfl ⟨rfl,S.kp⟩
     |true=>exact vcond_t rfl ⟨_,_,_,S.rd 0 rfl rfl rfl,rfl,S.kp⟩
   |false=>
   refine vcond_f rfl ?_
   cases h1:eqI k 4 with
   |true=>
    refine vcond_t rfl ⟨_,S.rd 0 rfl rfl rfl,?_⟩
    cases h2:eqI n 0 with
    |false=>exact vcond_f rfl ⟨rfl,S.kp⟩
    |true=>
     refine vcond_t rfl ⟨_,S.rd 0 rfl rfl rfl,?_⟩
     cases h3:sEq t (ByteArray.mk #[])with
     |false=>exact vcond_f rfl ⟨rfl,S.kp⟩
     |true=>exact vcond_t rfl ⟨_,_,_,S.rd 0 rfl rfl rfl,_,_,ct140 hO _ _ _ _,rfl,S.kp⟩
   |false=>
   refine vcond_f rfl ?_
   cases h1:eqI k 5 with
   |false=>exact vcond_f rfl ⟨rfl,S.kp⟩
   |true=>exact vcond_t rfl (inc (max 1 ps.length-1) 0 (by omega) g2 S)
  |succ j ihj=>
   intro i hi g2 S
   have i1:i<ps.length:=by omega
   refine I107_0.of (hh:= ?_) ..
   unfold T107_0
   rw[List.drop_eq_getElem_cons i1,shapedL]
   have kk:Kp h.nx h g2:=K.trans (S.kp.le K.nx)
   obtain⟨b,off,rfl,ws,V,rv⟩:=P.2 i i1
   have rv:=rv kk.get
   have ihi:=ih i i1 V (fp _ (List.getElem_mem i1)) kk S.ok
   obtain⟨_,_,_,_,_,_,rfl⟩:=V.form
   refine⟨_,_,_,S.rd 0 rfl rfl rfl,vcond_t (by rw[ltI_nat];exact blt_t i1) ⟨_,_,_,S.rd 0 rfl rfl rfl,isNat_i (show isAddr (some ⟨b,off,none⟩) _ from vreq_t (blt_t i1) ⟨_,_,_,_,_,_,rv,?_⟩)⟩⟩
   obtain⟨r,g4,e4,rfl,K3⟩:=ihi
   refine⟨_,g4,e4,?_⟩
   have S3:=S.call K3
   rw[wrap_succ (by omega)]
   cases hbf:shapedF ps[i]with
   |false=>exact vcond_t rfl ⟨rfl,S3.kp⟩
   |true=>exact vcond_f rfl (ihj (i+1) (by omega) g4 S3)
 exact go ps.length 0 (by omega) g1 S
end
end Go.Proofs.YtngcjpkccnfjiaaGreatDoor
namespace Go.Proofs.YtngcjpkccnfjiaaGreatDoor
open Go Go.Ev
theorem lt_t {a b:Int}(h:a<b):ltI a b=true:=by rw[ltI_eq];exact decide_eq_true h
theorem lt_f {a b:Int}(h: ¬a<b):ltI a b=false:=by rw[ltI_eq];exact decide_eq_false h
theorem Know.put {h0 g:Hp}{L:List Rs}(S:Know h0 g L)(i:Nat){b:Nat}{x:Ob}(hi:L[i]? =some (ob b x))(y:Ob): ∃g',g.put b (some y)=some g'∧Know h0 g' (L.set i (ob b y)):=by
 have hr:=S.orng i hi
 have hg:g.guarded b=false:=S.gdf hr.1
 have: ∃g',g.put b (some y)=some g':=by unfold Hp.put;rw[hg];exact⟨_,rfl⟩
 obtain⟨g',hp⟩:=this
 obtain⟨p1,p2,_,p4⟩:=Hp.get_put hp
 have p4: ∀q,g'.get q=if q=b then some y else g.get q:=p4
 refine⟨g',hp,S.upd i hi (r':=ob b y) ⟨fun o _ hb=>by rw[p4];exact if_neg hb,by rw[p1];exact Nat.le_refl _,p2,fun f o ho=> ?_⟩ (ob.loc _ _) (by show g'.get b=_;rw[p4,if_pos rfl]) fun _ h=> .inl h⟩
 have h2:=hr.2
 rw[p1]at ho
 rw[p4,if_neg (by omega)]
 exact f o ho
section
variable {O:CallF}(hO:Oth O)
include hO
def WeighR (v:Vl)(most d:Int)(r:Value):Prop:= ∃x y:Int,r= .agg #[.int .i64 x,.int .i64 y]∧(0≤weighF v most d→x=most-weighF v most d∧0≤y∧y≤d)∧(weighF v most d<0→x=most+1∧y=d+1)
theorem ct154 {h:Hp}: ∀(v:Vl){vs:List Value}(_:VA h v vs){g:Hp},Ft h g→g.Ok→ ∀(most d:Int),-1≤most→most<1000000→ -1000≤d→d<1000000→
 Ret Tryz.prog O 154 [.agg vs.toArray,.int .i64 most,.int .i64 d] g fun r g'=>WeighR v most d r∧Kp g.nx g g':=by
 refine Vl.ind fun k n t ps ih=> ?_
 intro vs V g F ok most d h1 h2 h3 h4
 obtain⟨a,m,c,rfl,P⟩:=PA.of V
 have p1:=P.1
 subst p1
 refine rk154 (hO:=hO _ _ _ (by decide)) (hh:= ?_) ..
 unfold T154
 intro g1
 have S:Know g g1 [ob g.nx (.cells [.int .i64 k,.int .i64 n,.string t,.slice a ps.length c] 46 .fix)]:=(Know.nil ok).add _
 intro g2
 have S:Know g g2 [ob g1.nx (.cells [.int .i64 0,.int .i64 0] 188 .fix),ob g.nx (.cells [.int .i64 k,.int .i64 n,.string t,.slice a ps.length c] 46 .fix)]:=S.add _
 intro g3
 have S:Know g g3 [_,_,_]:=S.add _
 refine vreq_t (S.cw 0 rfl (by decide) rfl rfl) ?_
 intro g4
 have S:Know g g4 [ob g2.nx (.cells [.int .i64 1,.int .i64 0] 188 .fix),ob g1.nx (.cells [.int .i64 0,.int .i64 0] 188 .fix),ob g.nx (.cells [.int .i64 k,.int .i64 n,.string t,.slice a ps.length c] 46 .fix)]:=S.wr 0 rfl (by decide) rfl rfl
 have wm:wrapF .i64 (most+1)=most+1:=wrap64 (by omega) (by omega)
 have wd:wrapF .i64 (d+1)=d+1:=wrap64 (by omega) (by omega)
 have wd1:wrapF .i64 (d-1)=d-1:=wrap64 (by omega) (by omega)
 have small: ∀ {g5:Hp} {vs:List Value},Know g g5 [ob g2.nx (.cells vs 188 .fix),ob g1.nx (.cells [.int .i64 0,.int .i64 0] 188 .fix),ob g.nx (.cells [.int .i64 k,.int .i64 n,.string t,.slice a ps.length c] 46 .fix)]→weighF (.mk k n t ps) most d<0→
  vreq (canW g5 g1.nx 0 [.int .i64 (most+1),.int .i64 (d+1)]) (∃x6' x7',readAt (g5.wr g1.nx 0 [.int .i64 (most+1),.int .i64 (d+1)]) g1.nx 0 2=some [.int .i64 x6',.int .i64 x7']∧(WeighR (.mk k n t ps) most d (.agg #[.int .i64 x6',.int .i64 x7'])∧Kp g.nx g (g5.wr g1.nx 0 [.int .i64 (most+1),.int .i64 (d+1)]))):=by
  intro g5 vs S hw
  refine vreq_t (S.cw 1 rfl (by decide) rfl rfl) ?_
  have S:Know g (g5.wr g1.nx 0 [.int .i64 (most+1),.int .i64 (d+1)]) [ob g2.nx (.cells vs 188 .fix),ob g1.nx (.cells [.int .i64 (most+1),.int .i64 (d+1)] 188 .fix),ob g.nx (.cells [.int .i64 k,.int .i64 n,.string t,.slice a ps.length c] 46 .fix)]:=S.wr 1 rfl (by decide) rfl rfl
  exact⟨_,_,S.rd 1 rfl rfl rfl,⟨_,_,rfl,fun e=>absurd hw (by omega),fun _=>⟨rfl,rfl⟩⟩,S.kp⟩
 rw[wm,wd]
 have hbad:most<1∨d<1→weighF (.mk k n t ps) most d<0:=fun e=>by simp only[weighF];rw[if_pos e];omega
 refine vcond_split (fun e=>small S (hbad (.inl (lt_of_t e)))) fun e=>vcond_split (fun e2=>small S (hbad (.inr (lt_of_t e2)))) fun e2=>⟨_,_,_,S.rd 2 rfl rfl rfl,?_⟩
 have e:=not_lt_of_f e
 have e2:=not_lt_of_f e2
 have hw:weighF (.mk k n t ps) most d=weighL ps (most-1) (d-1):=by simp only[weighF];rw[if_neg (by omega)]
 have go: ∀(j i:Nat),i+j=ps.length→ ∀(nd dp:Int) (g5:Hp),(i:Int)+1≤nd→nd≤most→0≤dp→dp≤d-1→weighF (.mk k n t ps) most d=weighL (ps.drop i) (most-nd) (d-1)→
  Know g g5 [ob g2.nx (.cells [.int .i64 nd,.int .i64 dp] 188 .fix),ob g1.nx (.cells [.int .i64 0,.int .i64 0] 188 .fix),ob g.nx (.cells [.int .i64 k,.int .i64 n,.string t,.slice a ps.length c] 46 .fix)]→
  I154_0 O (fun r g'=>WeighR (.mk k n t ps) most d r∧Kp g.nx g g') k n t a ps.length c most d g1.nx 0 g2.nx 0 a ps.length c (Int.ofNat ps.length) (Int.ofNat i) g5:=by
  intro j
  induction j with
  |zero=>
   intro i hi nd dp g5 n1 n2 d1 d2 hW S
   refine I154_0.of (hh:= ?_) ..
   unfold T154_0
   rw[List.drop_of_length_le (by omega),weighL]at hW
   refine vcond_f (by rw[ltI_nat];exact blt_f (by omega)) ⟨_,S.rd 0 rfl rfl rfl,_,S.rd 0 rfl rfl rfl,?_⟩
   rw[wrap64 (n:=dp+1) (by omega) (by omega)]
   refine vreq_t (S.cw 1 rfl (by decide) rfl rfl) ?_
   intro g135
   have S:Know g g135 [_,ob g1.nx (.cells [.int .i64 nd,.int .i64 (dp+1)] 188 .fix),_]:=S.wr 1 rfl (by decide) rfl rfl
   exact⟨_,_,S.rd 1 rfl rfl rfl,⟨_,_,rfl,fun _=>by omega,fun e=>by omega⟩,S.kp⟩
  |succ j ihj=>
   intro i hi nd dp g5 n1 n2 d1 d2 hW S
   have hi':i<ps.length:=by omega
   refine I154_0.of (hh:= ?_) ..
   unfold T154_0
   rw[List.drop_eq_getElem_cons hi',weighL,if_neg (by omega)]at hW
   have kk:Ft h g5:=F.tr S.ft
   obtain⟨b,off,ea,ws,V',rv⟩:=P.2 i hi'
   have rv:=rv kk.get
   have ihi:=fun g6 k6 ok6=>ih i hi' V' (g:=g6) k6 ok6 (most-nd) (d-1) (by omega) (by omega) (by omega) (by omega)
   have wl:=weighF_le ps[i] (most-nd) (d-1) (by omega)
   obtain⟨v1,v2,v3,v4,v5,v6,rfl⟩:=V'.form
   rw[ea]
   refine vcond_t (by rw[ltI_nat];exact blt_t (by omega)) (isNat_i (show isAddr (some ⟨b,off,none⟩) _ from vreq_t (blt_t hi') ⟨_,_,_,_,_,_,rv,?_⟩))
   intro g110
   have S:Know g g110 [ob g5.nx (.cells [.int .i64 0,.int .i64 0,.string (ByteArray.mk #[]),.slice none 0 0] 46 .fix),ob g2.nx (.cells [.int .i64 nd,.int .i64 dp] 188 .fix),ob g1.nx (.cells [.int .i64 0,.int .i64 0] 188 .fix),ob g.nx (.cells [.int .i64 k,.int .i64 n,.string t,.slice a ps.length c] 46 .fix)]:=S.add _
   refine vreq_t (S.cw 0 rfl (by decide) rfl rfl) ?_
   intro g111
   have S:Know g g111 [ob g5.nx (.cells [.int .i64 v1,.int .i64 v2,.string v3,.slice v4 v5 v6] 46 .fix),ob g2.nx (.cells [.int .i64 nd,.int .i64 dp] 188 .fix),ob g1.nx (.cells [.int .i64 0,.int .i64 0] 188 .fix),ob g.nx (.cells [.int .i64 k,.int .i64 n,.string t,.slice a ps.length c] 46 .fix)]:=S.wr 0 rfl (by decide) rfl rfl
   obtain⟨r,h121,e121,⟨x,y,rfl,q1,q2⟩,K121⟩:=ihi g111 (F.tr S.ft) S.ok
   refine⟨_,_,_,_,_,_,S.rd 0 rfl rfl rfl,_,S.rd 1 rfl rfl rfl,?_⟩
   rw[wrap64 (n:=most-nd) (by omega) (by omega),wd1]
   refine⟨_,_,_,e121,?_⟩
   have S:Know g h121 [ob g5.nx (.cells [.int .i64 v1,.int .i64 v2,.string v3,.slice v4 v5 v6] 46 .fix),ob g2.nx (.cells [.int .i64 nd,.int .i64 dp] 188 .fix),ob g1.nx (.cells [.int .i64 0,.int .i64 0] 188 .fix),ob g.nx (.cells [.int .i64 k,.int .i64 n,.string t,.slice a ps.length c] 46 .fix)]:=S.call K121
   intro g122
   have S:Know g g122 [_,_,_,_,_]:=S.add _
   refine vreq_t (S.cw 0 rfl (by decide) rfl rfl) ?_
   intro g123
   have S:Know g g123 [ob h121.nx (.cells [.int .i64 x,.int .i64 y] 188 .fix),ob g5.nx (.cells [.int .i64 v1,.int .i64 v2,.string v3,.slice v4 v5 v6] 46 .fix),ob g2.nx (.cells [.int .i64 nd,.int .i64 dp] 188 .fix),ob g1.nx (.cells [.int .i64 0,.int .i64 0] 188 .fix),ob g.nx (.cells [.int .i64 k,.int .i64 n,.string t,.slice a ps.length c] 46 .fix)]:=S.wr 0 rfl (by decide) rfl rfl
   refine⟨_,S.rd 2 rfl rfl rfl,_,S.rd 0 rfl rfl rfl,_,S.rd 2 rfl rfl rfl,_,S.rd 0 rfl rfl rfl,?_⟩
   have hx:0≤x∧x≤most+1:=by
    rcases Int.lt_or_le (weighF ps[i] (most-nd) (d-1)) 0 with e|e
    · have:=q2 e;omega
    · have:=q1 e;omega
   rw[wrap64 (n:=nd+x) (by omega) (by omega)]
   refine vreq_t (S.cw 2 rfl (by decide) rfl rfl) ?_
   intro g128
   have S:Know g g128 [ob h121.nx (.cells [.int .i64 x,.int .i64 y] 188 .fix),ob g5.nx (.cells [.int .i64 v1,.int .i64 v2,.string v3,.slice v4 v5 v6] 46 .fix),ob g2.nx (.cells [.int .i64 (nd+x),.int .i64 (maxI dp y)] 188 .fix),ob g1.nx (.cells [.int .i64 0,.int .i64 0] 188 .fix),ob g.nx (.cells [.int .i64 k,.int .i64 n,.string t,.slice a ps.length c] 46 .fix)]:=S.wr 2 rfl (by decide) rfl rfl
   refine⟨_,S.rd 2 rfl rfl rfl,?_⟩
   rw[wm,wd]
   have S:=S.sub [ob g2.nx (.cells [.int .i64 (nd+x),.int .i64 (maxI dp y)] 188 .fix),ob g1.nx (.cells [.int .i64 0,.int .i64 0] 188 .fix),ob g.nx (.cells [.int .i64 k,.int .i64 n,.string t,.slice a ps.length c] 46 .fix)] (.cons _ (.cons _ (.refl _)))
   rcases Int.lt_or_le (weighF ps[i] (most-nd) (d-1)) 0 with e3|e3
   · have:=q2 e3
     have hneg:weighF (.mk k n t ps) most d<0:=by
      rw[hW]
      have:=(weighL_le (ps.drop (i+1)) (weighF ps[i] (most-nd) (d-1)) (d-1) (by omega)).2
      omega
     exact vcond_t (lt_t (by omega)) (small S hneg)
   · have:=q1 e3
     refine vcond_f (lt_f (by omega)) ?_
     rw[wrap_succ (by omega),←ea]
     have hm:maxI dp y=max dp y:=by
      unfold maxI
      rw[Int.max_def]
      by_cases hxy:dp≤y
      · rw[if_pos hxy]
        rcases Int.lt_or_le dp y with h5|h5
        · rw[lt_t h5];rfl
        · rw[lt_f (by omega)];simp only[cond_false];omega
      · rw[if_neg hxy,lt_f (by omega)];rfl
     exact ihj (i+1) (by omega) (nd+x) (maxI dp y) g128 (by omega) (by omega) (by rw[hm];omega) (by rw[hm];omega) (by rw[hW];congr 1;omega) S
 exact go ps.length 0 (by omega) 1 0 g4 (by omega) (by omega) (by omega) (by omega) (by rw[hw];rfl) S
def fitsF (v:Vl):Bool:= !(ltI (weighF v 200 8) 0)
theorem ct146 {h:Hp}(v:Vl){vs:List Value}(V:VA h v vs){g:Hp}(F:Ft h g)(ok:g.Ok):Ret Tryz.prog O 146 [.agg vs.toArray] g fun r g'=>r= .bool (fitsF v)∧Kp g.nx g g':=by
 have ih:=fun g6 k6 ok6=>ct154 hO v V (g:=g6) k6 ok6 200 8 (by omega) (by omega) (by omega) (by omega)
 obtain⟨v1,v2,v3,v4,v5,v6,rfl⟩:=V.form
 refine rk146 (hO:=hO _ _ _ (by decide)) (hh:= ?_) ..
 unfold T146
 intro g1
 have S:Know g g1 [_]:=(Know.nil ok).add _
 obtain⟨r,h10,e10,⟨x,y,rfl,q1,q2⟩,K10⟩:=ih g1 (F.tr S.ft) S.ok
 refine⟨_,_,_,_,_,_,S.rd 0 rfl rfl rfl,_,_,_,e10,?_⟩
 have S:Know g h10 [_]:=S.call K10
 intro g11
 have S:Know g g11 [_,_]:=S.add _
 refine vreq_t (S.cw 0 rfl (by decide) rfl rfl) ?_
 intro g12
 have S:Know g g12 [_,_]:=S.wr 0 rfl (by decide) rfl rfl
 refine⟨_,S.rd 0 rfl rfl rfl,?_⟩
 unfold fitsF
 have wl:=weighF_le v 200 8 (by omega)
 rcases Int.lt_or_le (weighF v 200 8) 0 with e|e
 · have:=q2 e
   rw[lt_t e]
   exact vcond_f (by rw[lt_t (by omega)];rfl) ⟨rfl,S.kp⟩
 · have:=q1 e
   rw[lt_f (show¬weighF v 200 8<0 by omega)]
   exact vcond_t (by rw[lt_f (show¬200<x by omega)];rfl) ⟨_,S.rd 0 rfl rfl rfl,by rw[lt_f (show¬8<y by omega)],S.kp⟩
theorem ct158 (x lo hi:Int)(h:Hp):EvT O 158 [.int .i64 x,.int .i64 lo,.int .i64 hi] h (.bool (!(ltI x lo)&& !(ltI hi x))) h:=by
 refine ev_ret (rk158 (hO:=hO _ _ _ (by decide)) (hh:= ?_) ..)
 unfold T158
 cases h1:ltI x lo with
 |false=>exact vcond_t rfl ⟨by simp,rfl⟩
 |true=>exact vcond_f rfl ⟨rfl,rfl⟩
end
end Go.Proofs.YtngcjpkccnfjiaaGreatDoor
namespace Go.Proofs.YtngcjpkccnfjiaaGreatDoor
open Go Go.Ev
theorem bytes_cmp: ∀(a b:List UInt8),Lib.compareBytes a b=bif a==b then 0 else bif Op.bytesLess a b then-1 else 1
 | [],[]=>rfl
 | [],_::_=>rfl
 |_::_,[]=>rfl
 |a::al,b::bl=>by
  unfold Lib.compareBytes Op.bytesLess
  rw[bytes_cmp al bl]
  by_cases h1:a<b
  · rw[if_pos h1]
    have hne:a≠b:=fun e=>by subst e;exact UInt8.lt_irrefl a h1
    rw[show(a::al==b::bl)=false by simp[hne],show decide (a<b)=true from decide_eq_true h1]
    rfl
  · rw[if_neg h1]
    by_cases h2:b<a
    · have hne:a≠b:=fun e=>by subst e;exact UInt8.lt_irrefl a h2
      rw[if_pos h2,show(a::al==b::bl)=false by simp[hne],show decide (a<b)=false from decide_eq_false h1,show(a==b)=false by simpa using hne]
      rfl
    · obtain rfl:a=b:=by
       rcases Classical.em (a=b)with h|h
       · exact h
       · rcases UInt8.lt_or_lt_of_ne h with h|h
         · exact absurd h h1
         · exact absurd h h2
      rw[if_neg h2,show decide (a<a)=false from decide_eq_false h1]
      simp
def strF (a b:ByteArray):Int:=bif sEq a b then 0 else bif sLt a b then-1 else 1
theorem str_cmp (a b:ByteArray):Extern.BytealgCompare.cmp a b=strF a b:=by
 rw[Lib.cmp_eq,bytes_cmp]
 unfold strF sEq sLt
 rw[ByteArray.toList_eq,ByteArray.toList_eq]
theorem ext172 (a b:ByteArray):pureRun Tryz.prog (callFunc 172 #[.string a,.string b])=some (.value (.int .i64 (Extern.BytealgCompare.cmp a b))):=by kernel_rfl
theorem dec_byte (t:ByteArray)(p:Nat)(hp:p<t.size):(byteI t p<128∧((Utf8.decode t p).1:Int)=byteI t p∧(Utf8.decode t p).2=1)∨(128≤byteI t p∧128≤(Utf8.decode t p).1):=by
 have e:byteI t p=((t.get! (p+0)).toNat:Int):=by
  unfold byteI
  obtain⟨⟨l⟩⟩:=t
  have hp:p<l.length:=hp
  rw[List.getElem?_eq_getElem hp]
  show Int.ofNat l[p].toNat=_
  have:(ByteArray.mk ⟨l⟩).get! (p+0)=l[p]:=by
   show(Array.mk l)[p+0]! =_
   rw[Nat.add_zero,getElem!_pos (Array.mk l) p hp]
   rfl
  rw[this];rfl
 rw[e]
 unfold Utf8.decode
 by_cases h:(t.get! (p+0)).toNat<0x80
 · left
   simp only[if_pos h]
   exact⟨by omega,trivial,trivial⟩
 · right
   refine⟨by omega,?_⟩
   simp only[if_neg h]
   split
   · split
     · show 128≤_;omega
     · show 128≤Utf8.runeError;decide
   · split
     · split
       · rename_i h1
         have:=(Bool.and_eq_true _ _▸h1:_∧_).1
         have:=of_decide_eq_true this
         show 128≤_
         omega
       · show 128≤Utf8.runeError;decide
     · split
       · split
         · rename_i h1
           have:=(Bool.and_eq_true _ _▸h1:_∧_).1
           have:=of_decide_eq_true this
           show 128≤_
           omega
         · show 128≤Utf8.runeError;decide
       · show 128≤Utf8.runeError;decide
abbrev eS:ByteArray:=ByteArray.mk #[]
def kindV (k n:Int)(t:ByteArray)(a:Option Addr)(m c:Nat):Value:=
 bif eqI k 1&&(sEq t eS&&eqI (Int.ofNat m) 0)then .iface 196 (.agg #[.int .i64 n])
 else bif eqI k 2&&(sEq t eS&&eqI (Int.ofNat m) 0)then .iface 197 (.agg #[.int .i64 n])
 else bif eqI k 3&&(eqI n 0&&eqI (Int.ofNat m) 0)then .iface 199 (.agg #[.string t])
 else bif eqI k 4&&(eqI n 0&&sEq t eS)then .iface 201 (.agg #[.slice a m c])
 else bif eqI k 5&&(eqI n 0&&sEq t eS)then .iface 202 (.agg #[.slice a m c])
 else .iface 204 (.agg #[])
section
variable {O:CallF}(hO:Oth O)
include hO
theorem ct155 (k n:Int)(t:ByteArray)(a:Option Addr)(m c:Nat){g:Hp}(ok:g.Ok):Ret Tryz.prog O 155 [.agg #[.int .i64 k,.int .i64 n,.string t,.slice a m c]] g fun r g'=>r=kindV k n t a m c∧Kp g.nx g g':=by
 refine rk155 (hO:=hO _ _ _ (by decide)) (hh:= ?_) ..
 unfold T155
 intro g1
 have S:Know g g1 [ob g.nx (.cells [.int .i64 k,.int .i64 n,.string t,.slice a m c] 46 .fix)]:=(Know.nil ok).add _
 have i1:kindV k n t a m c=(bif eqI k 5&&(eqI n 0&&sEq t eS)then .iface 202 (.agg #[.slice a m c])else .iface 204 (.agg #[]))→I155_1 O (fun r g'=>r=kindV k n t a m c∧Kp g.nx g g') k n t a m c g.nx 0 .nilIface g1:=by
  intro hk
  refine I155_1.of (hh:= ?_) ..
  unfold T155_1
  rw[hk]
  repeat' (first
   |refine⟨_,S.rd 0 rfl rfl rfl,?_⟩
   |refine⟨_,_,_,S.rd 0 rfl rfl rfl,?_⟩
   |refine vcond_split (fun _=> ?_) fun _=> ?_)
  all_goals exact⟨by simp only[*,Bool.true_and,Bool.false_and,Bool.and_false,cond_true,cond_false],S.kp⟩
 have i0:kindV k n t a m c=(bif eqI k 3&&(eqI n 0&&eqI (Int.ofNat m) 0)then .iface 199 (.agg #[.string t])
  else bif eqI k 4&&(eqI n 0&&sEq t eS)then .iface 201 (.agg #[.slice a m c])
  else bif eqI k 5&&(eqI n 0&&sEq t eS)then .iface 202 (.agg #[.slice a m c])else .iface 204 (.agg #[]))→I155_0 O (fun r g'=>r=kindV k n t a m c∧Kp g.nx g g') k n t a m c g.nx 0 .nilIface g1:=by
  intro hk
  refine I155_0.of (hh:= ?_) ..
  unfold T155_0
  repeat' (first
   |refine⟨_,S.rd 0 rfl rfl rfl,?_⟩
   |refine⟨_,_,_,S.rd 0 rfl rfl rfl,?_⟩
   |refine vcond_split (fun _=> ?_) fun _=> ?_)
  all_goals first
   |(exfalso;clear S i1 hk;simp_all only[Bool.true_eq_false,Bool.false_eq_true];done)
   |exact⟨by rw[hk];simp only[*,Bool.true_and,Bool.false_and,Bool.and_false,cond_true,cond_false],S.kp⟩
   |exact i1 (by rw[hk];simp only[*,Bool.true_and,Bool.false_and,Bool.and_false,cond_false])
 repeat' (first
  |refine⟨_,S.rd 0 rfl rfl rfl,?_⟩
  |refine⟨_,_,_,S.rd 0 rfl rfl rfl,?_⟩
  |refine vcond_split (fun _=> ?_) fun _=> ?_)
 all_goals first
  |(exfalso;clear S i0 i1;simp_all only[Bool.true_eq_false,Bool.false_eq_true];done)
  |exact⟨by unfold kindV;simp only[*,Bool.true_and,Bool.false_and,cond_true,cond_false],S.kp⟩
  |exact i0 (by unfold kindV;simp only[*,Bool.false_and,Bool.and_false,cond_false])
theorem ct188 (n:Int)(g:Hp)(ok:g.Ok):Ret Tryz.prog O 188 [.agg #[.int .i64 n]] g fun r g'=>r= .slice none 0 0∧Kp g.nx g g':=by
 refine rk188 (hO:=hO _ _ _ (by decide)) (hh:= ?_) ..
 exact⟨rfl,((Know.nil ok).add _).kp⟩
theorem ct189 (n:Int)(g:Hp)(ok:g.Ok):Ret Tryz.prog O 189 [.agg #[.int .i64 n]] g fun r g'=>r= .slice none 0 0∧Kp g.nx g g':=by
 refine rk189 (hO:=hO _ _ _ (by decide)) (hh:= ?_) ..
 exact⟨rfl,((Know.nil ok).add _).kp⟩
theorem ct190 (t:ByteArray)(g:Hp)(ok:g.Ok):Ret Tryz.prog O 190 [.agg #[.string t]] g fun r g'=>r= .slice none 0 0∧Kp g.nx g g':=by
 refine rk190 (hO:=hO _ _ _ (by decide)) (hh:= ?_) ..
 exact⟨rfl,((Know.nil ok).add _).kp⟩
theorem ct191 (a:Option Addr)(m c:Nat)(g:Hp)(ok:g.Ok):Ret Tryz.prog O 191 [.agg #[.slice a m c]] g fun r g'=>r= .slice a m c∧Kp g.nx g g':=by
 refine rk191 (hO:=hO _ _ _ (by decide)) (hh:= ?_) ..
 have S:Know g _ [_]:=(Know.nil ok).add (.cells [.slice a m c] 201 .fix)
 exact⟨_,_,_,S.rd 0 rfl rfl rfl,rfl,S.kp⟩
theorem ct192 (a:Option Addr)(m c:Nat)(g:Hp)(ok:g.Ok):Ret Tryz.prog O 192 [.agg #[.slice a m c]] g fun r g'=>r= .slice a m c∧Kp g.nx g g':=by
 refine rk192 (hO:=hO _ _ _ (by decide)) (hh:= ?_) ..
 have S:Know g _ [_]:=(Know.nil ok).add (.cells [.slice a m c] 202 .fix)
 exact⟨_,_,_,S.rd 0 rfl rfl rfl,rfl,S.kp⟩
theorem ct193 (g:Hp)(ok:g.Ok):Ret Tryz.prog O 193 [.agg #[]] g fun r g'=>r= .slice none 0 0∧Kp g.nx g g':=by
 refine rk193 (hO:=hO _ _ _ (by decide)) (hh:= ?_) ..
 exact⟨rfl,((Know.nil ok).add _).kp⟩
theorem ct159 (t:ByteArray){g:Hp}(ok:g.Ok):Ret Tryz.prog O 159 [.string t] g fun r g'=>r= .bool (lettersF t)∧Kp g.nx g g':=by
 refine rk159 (hO:=hO _ _ _ (by decide)) (hh:= ?_) ..
 unfold T159
 intro g1
 have S:Know g g1 [ob g.nx (.siter t 0)]:=(Know.nil ok).add _
 have go: ∀(d p:Nat),p+d=t.size→(∀i,i<p→okByte (byteI t i)=true)→ ∀(g2:Hp),Know g g2 [ob g.nx (.siter t p)]→I159_0 O (fun r g'=>r= .bool (lettersF t)∧Kp g.nx g g') t t false g.nx 0 g2:=by
  intro d
  induction d with
  |zero=>
   intro p hp ha g2 S
   refine I159_0.of (hh:= ?_) ..
   unfold T159_0
   refine vreq_t rfl ⟨_,_,S.obj 0 rfl,vcond_f (blt_f (by omega)) ⟨?_,S.kp⟩⟩
   unfold lettersF
   rw[List.all_eq_true.2 fun i hi=>ha i (by rw[List.mem_range]at hi;omega),Bool.true_and]
  |succ d ih=>
   intro p hp ha g2 S
   have hpl:p<t.size:=by omega
   refine I159_0.of (hh:= ?_) ..
   unfold T159_0
   have bad:okByte (byteI t p)=false→lettersF t=false:=fun e=>by
    unfold lettersF
    have:((List.range t.size).all fun i=>okByte (byteI t i))=false:=by
     rw[List.all_eq_false]
     exact⟨p,List.mem_range.2 hpl,by rw[e];decide⟩
    rw[this];rfl
   have S0:=S
   obtain⟨g3,hg,S⟩:=Know.put S 0 rfl (.siter t (p+(Utf8.decode t p).2))
   refine vreq_t rfl ⟨_,_,S0.obj 0 rfl,vcond_t (blt_t hpl) ⟨g3,hg,?_⟩⟩
   rcases dec_byte t p hpl with ⟨h0,h1,h2⟩|⟨h0,h1⟩
   · have S:Know g g3 [ob g.nx (.siter t (p+1))]:=by rw[h2]at S;exact S
     rw[h1]
     refine vcond_split (fun h1=> ?_) fun h1=>vcond_split (fun h2=> ?_) fun h2=>vcond_split (fun h3=> ?_) fun h3=>vcond_split (fun h4=> ?_) fun h4=> ?_
     · exact⟨by rw[bad (by unfold okByte;rw[h1];rfl)],S.kp⟩
     · exact⟨by rw[bad (by unfold okByte;rw[h1,h2];rfl)],S.kp⟩
     · exact⟨by rw[bad (by unfold okByte;rw[h1,h2,h3];rfl)],S.kp⟩
     · exact⟨by rw[bad (by unfold okByte;rw[h1,h2,h3,h4];rfl)],S.kp⟩
     · refine ih (p+1) (by omega) (fun i hi=> ?_) g3 S
       rcases Nat.lt_or_ge i p with h5|h5
       · exact ha i h5
       · obtain rfl:i=p:=by omega
         unfold okByte;rw[h1,h2,h3,h4];rfl
   · have b:=bad (by unfold okByte;rw[lt_t (show(126:Int)<byteI t p by omega)];simp)
     refine vcond_f (lt_f (by omega)) (vcond_t (lt_t (by omega)) ⟨by rw[b],S.kp⟩)
 exact go t.size 0 (by omega) (fun i hi=>absurd hi (Nat.not_lt_zero _)) g1 S
end
end Go.Proofs.YtngcjpkccnfjiaaGreatDoor
namespace Go.Proofs.YtngcjpkccnfjiaaGreatDoor
open Go Go.Ev
mutual
def cmpC:Vl→Vl→Int
 | .mk k n t ps,.mk k' n' t' qs=>
   bif !(eqI k k')then orderF k k'
   else bif ltI k 1||ltI 5 k then 0
   else bif eqI k 1||eqI k 2 then orderF n n'
   else bif eqI k 3 then strF t t'
   else bif !(eqI (Int.ofNat ps.length) (Int.ofNat qs.length))then orderF (Int.ofNat ps.length) (Int.ofNat qs.length)
   else cmpCL ps qs
def cmpCL:List Vl→List Vl→Int
 |p::ps,q::qs=>bif eqI (cmpC p q) 0 then cmpCL ps qs else cmpC p q
 |_,_=>0
end
theorem cmpC_mk (k n:Int)(t:ByteArray)(ps:List Vl)(k' n':Int)(t':ByteArray)(qs:List Vl):cmpC (.mk k n t ps) (.mk k' n' t' qs)=
 bif !(eqI k k')then orderF k k'
 else bif ltI k 1||ltI 5 k then 0
 else bif eqI k 1||eqI k 2 then orderF n n'
 else bif eqI k 3 then strF t t'
 else bif !(eqI (Int.ofNat ps.length) (Int.ofNat qs.length))then orderF (Int.ofNat ps.length) (Int.ofNat qs.length)
 else cmpCL ps qs:=by simp only[cmpC]
theorem eqI_iff {a b:Int}:eqI a b=true↔a=b:=by
 constructor
 · intro h;by_cases e:a=b
   · exact e
   · rw[eqI_f e]at h;cases h
 · exact fun h=>eqI_t h
theorem orderF_zero (a b:Int):eqI (orderF a b) 0=eqI a b:=by
 unfold orderF
 by_cases h:a<b
 · rw[if_pos h,eqI_f (by omega:a≠b)];rfl
 · rw[if_neg h]
   by_cases h2:b<a
   · rw[if_pos h2,eqI_f (by omega:a≠b)];rfl
   · rw[if_neg h2,eqI_t (by omega:a=b)];rfl
section
variable {O:CallF}(hO:Oth O)
include hO
theorem ct166 (x:Int)(h:Hp):EvT O 166 [.int .i64 x] h (.bool false) h:=by
 refine ev_ret (rk166 (hO:=hO _ _ _ (by decide)) (hh:= ?_) ..)
 exact⟨by rw[eqI_t rfl];rfl,rfl⟩
theorem ct170 (x:Int)(h:Hp):EvT O 170 [.int .i64 x] h (.bool false) h:=by
 refine ev_ret (rk170 (hO:=hO _ _ _ (by decide)) (hh:= ?_) ..)
 exact⟨by rw[eqI_t rfl];rfl,rfl⟩
theorem ct162 (a b:Int)(h:Hp):EvT O 162 [.int .i64 a,.int .i64 b] h (.int .i64 (orderF a b)) h:=by
 refine ev_ret (rk162 (hO:=hO _ _ _ (by decide)) (hh:= ?_) ..)
 unfold T162 orderF
 refine⟨_,_,ct166 hO _ _,_,_,ct166 hO _ _,vcond_f rfl (vcond_f rfl (vcond_split (fun h1=> ?_) fun h1=>vcond_split (fun h2=> ?_) fun h2=> ?_))⟩
 · exact⟨by rw[if_pos (lt_of_t h1)],rfl⟩
 · exact⟨by rw[if_neg (not_lt_of_f h1),if_pos (lt_of_t h2)],rfl⟩
 · exact⟨by rw[if_neg (not_lt_of_f h1),if_neg (not_lt_of_f h2)],rfl⟩
theorem ct167 (a b:Int)(h:Hp):EvT O 167 [.int .i64 a,.int .i64 b] h (.int .i64 (orderF a b)) h:=by
 refine ev_ret (rk167 (hO:=hO _ _ _ (by decide)) (hh:= ?_) ..)
 unfold T167 orderF
 refine⟨_,_,ct170 hO _ _,_,_,ct170 hO _ _,vcond_f rfl (vcond_f rfl (vcond_split (fun h1=> ?_) fun h1=>vcond_split (fun h2=> ?_) fun h2=> ?_))⟩
 · exact⟨by rw[if_pos (lt_of_t h1)],rfl⟩
 · exact⟨by rw[if_neg (not_lt_of_f h1),if_pos (lt_of_t h2)],rfl⟩
 · exact⟨by rw[if_neg (not_lt_of_f h1),if_neg (not_lt_of_f h2)],rfl⟩
theorem ct172 (a b:ByteArray)(h:Hp):EvT O 172 [.string a,.string b] h (.int .i64 (strF a b)) h:=by
 refine⟨1,?_⟩
 show(match O 172 [.string a,.string b] h with
  |some r=>some r
  |none=>evBody Tryz.prog (evW Tryz.prog O 1 0) 1 172 [.string a,.string b] h)=_
 rw[hO _ _ _ (by decide)]
 show evBody Tryz.prog (evW Tryz.prog O 1 0) 1 172 [.string a,.string b] h=_
 unfold evBody
 rw[show Nat.ble yB 172=false from by decide,cond_false,Tryz.func172,Option.bind_some]
 have hb:Tryz.f172.body=none:=by kernel_rfl
 simp only[hb]
 rw[show [Value.string a,Value.string b].all flat=true from rfl,cond_true,show [Value.string a,Value.string b].toArray= #[.string a,.string b] from rfl,ext172,str_cmp]
 rfl
theorem ct171 (a b:ByteArray)(h:Hp):EvT O 171 [.string a,.string b] h (.int .i64 (strF a b)) h:=by
 refine ev_ret (rk171 (hO:=hO _ _ _ (by decide)) (hh:= ?_) ..)
 exact⟨_,_,ct172 hO _ _ _,rfl,rfl⟩
theorem ct168 (a b:ByteArray)(h:Hp):EvT O 168 [.string a,.string b] h (.int .i64 (strF a b)) h:=by
 refine ev_ret (rk168 (hO:=hO _ _ _ (by decide)) (hh:= ?_) ..)
 exact⟨_,_,ct171 hO _ _ _,rfl,rfl⟩
theorem ct163 (k n:Int)(t:ByteArray)(a:Option Addr)(m c:Nat)(k' n':Int)(t':ByteArray)(a':Option Addr)(m' c':Nat){g:Hp}(ok:g.Ok):
 Ret Tryz.prog O 163 [.agg #[.int .i64 k,.int .i64 n,.string t,.slice a m c,.int .i64 k',.int .i64 n',.string t',.slice a' m' c']] g fun r g'=>r= .int .i64 (orderF n n')∧Kp g.nx g g':=by
 refine rk163 (hO:=hO _ _ _ (by decide)) (hh:= ?_) ..
 unfold T163
 refine vreq_t rfl ?_
 intro g1
 have S:Know g g1 [ob g.nx (.cells [.int .i64 k,.int .i64 n,.string t,.slice a m c,.int .i64 k',.int .i64 n',.string t',.slice a' m' c'] 210 .fix)]:=(Know.nil ok).add _
 exact⟨_,S.rd 0 rfl rfl rfl,_,S.rd 0 rfl rfl rfl,_,_,ct167 hO _ _ _,rfl,S.kp⟩
theorem ct164 (k n:Int)(t:ByteArray)(a:Option Addr)(m c:Nat)(k' n':Int)(t':ByteArray)(a':Option Addr)(m' c':Nat){g:Hp}(ok:g.Ok):
 Ret Tryz.prog O 164 [.agg #[.int .i64 k,.int .i64 n,.string t,.slice a m c,.int .i64 k',.int .i64 n',.string t',.slice a' m' c']] g fun r g'=>r= .int .i64 (strF t t')∧Kp g.nx g g':=by
 refine rk164 (hO:=hO _ _ _ (by decide)) (hh:= ?_) ..
 unfold T164
 refine vreq_t rfl ?_
 intro g1
 have S:Know g g1 [ob g.nx (.cells [.int .i64 k,.int .i64 n,.string t,.slice a m c,.int .i64 k',.int .i64 n',.string t',.slice a' m' c'] 210 .fix)]:=(Know.nil ok).add _
 exact⟨_,S.rd 0 rfl rfl rfl,_,S.rd 0 rfl rfl rfl,_,_,ct168 hO _ _ _,rfl,S.kp⟩
theorem ct169 {h:Hp}{a a':Option Addr}{n n' c c':Nat}{ps qs:List Vl}(P:PA h a n ps)(Q':PA h a' n' qs)(hl:ps.length<1000000)(hlen:ps.length=qs.length)
 (ih: ∀(i:Nat) (hi:i<ps.length) {ws:List Value},VA h ps[i] ws→ ∀ {q:Vl} {us:List Value},VA h q us→ ∀ {g:Hp},Ft h g→g.Ok→Ret Tryz.prog O 160 [.agg ws.toArray,.agg us.toArray] g fun r g'=>r= .int .i64 (cmpC ps[i] q)∧Kp g.nx g g') {g:Hp} (F:Ft h g) (ok:g.Ok):
 Ret Tryz.prog O 169 [.slice a n c,.slice a' n' c',.func (.func 160) #[] #[]] g fun r g'=>r= .int .i64 (cmpCL ps qs)∧Kp g.nx g g':=by
 have p1:=P.1
 have q1:=Q'.1
 subst p1 q1
 refine rk169 (hO:=hO _ _ _ (by decide)) (hh:= ?_) ..
 unfold T169
 have go: ∀(j i:Nat),i+j=ps.length→ ∀(g2:Hp),Know g g2 []→I169_0 O (fun r g'=>r= .int .i64 (cmpCL (ps.drop i) (qs.drop i))∧Kp g.nx g g') a ps.length c a' qs.length c' 160 #[] #[] 160 #[] #[] 0 (Int.ofNat i) g2:=by
  intro j
  induction j with
  |zero=>
   intro i hi g2 S
   refine I169_0.of (hh:= ?_) ..
   unfold T169_0
   refine vcond_f (by rw[ltI_nat];exact blt_f (by omega)) (vcond_f (by rw[ltI_nat];exact blt_f (by omega)) ⟨?_,S.kp⟩)
   rw[List.drop_of_length_le (by omega),cmpCL]
   intros;contradiction
  |succ j ihj=>
   intro i hi g2 S
   have i1:i<ps.length:=by omega
   have i2:i<qs.length:=by omega
   refine I169_0.of (hh:= ?_) ..
   unfold T169_0
   rw[List.drop_eq_getElem_cons i1,List.drop_eq_getElem_cons i2,cmpCL]
   refine vcond_t (by rw[ltI_nat];exact blt_t (by omega)) ?_
   have f2:Ft h g2:=F.tr S.ft
   obtain⟨b,off,ea,ws,V,rv⟩:=P.2 i i1
   obtain⟨b',off',ea',us,U,ru⟩:=Q'.2 i i2
   have rv:=rv f2.get
   have ih6:=fun g6 f6 ok6=>ih i i1 V U (g:=g6) f6 ok6
   obtain⟨v1,v2,v3,v4,v5,v6,rfl⟩:=V.form
   obtain⟨u1,u2,u3,u4,u5,u6,rfl⟩:=U.form
   rw[ea]
   refine isNat_i (show isAddr (some ⟨b,off,none⟩) _ from vreq_t (blt_t i1) ⟨_,_,_,_,_,_,rv,?_⟩)
   intro g110
   have S1:Know g g110 [ob g2.nx (.cells [.int .i64 0,.int .i64 0,.string (ByteArray.mk #[]),.slice none 0 0] 46 .fix)]:=S.add _
   refine vreq_t (S1.cw 0 rfl (by decide) rfl rfl) ?_
   intro g111
   have S1:Know g g111 [ob g2.nx (.cells [.int .i64 v1,.int .i64 v2,.string v3,.slice v4 v5 v6] 46 .fix)]:=S1.wr 0 rfl (by decide) rfl rfl
   have ru:=ru (F.tr S1.ft).get
   rw[ea']
   refine vcond_f (by rw[ltI_nat,blt_t i2];rfl) (isNat_i (show isAddr (some ⟨b',off',none⟩) _ from vreq_t (blt_t i2) ⟨_,_,_,_,_,_,ru,?_⟩))
   intro g121
   have S1:Know g g121 [_,ob g2.nx (.cells [.int .i64 v1,.int .i64 v2,.string v3,.slice v4 v5 v6] 46 .fix)]:=S1.add _
   refine vreq_t (S1.cw 0 rfl (by decide) rfl rfl) ?_
   intro g122
   have S1:Know g g122 [ob g111.nx (.cells [.int .i64 u1,.int .i64 u2,.string u3,.slice u4 u5 u6] 46 .fix),ob g2.nx (.cells [.int .i64 v1,.int .i64 v2,.string v3,.slice v4 v5 v6] 46 .fix)]:=S1.wr 0 rfl (by decide) rfl rfl
   obtain⟨r,g4,e4,rfl,K3⟩:=ih6 g122 (F.tr S1.ft) S1.ok
   refine⟨_,_,_,_,_,_,S1.rd 1 rfl rfl rfl,_,_,_,_,_,_,S1.rd 0 rfl rfl rfl,_,g4,e4,?_⟩
   have S3:Know g g4 []:=(S1.call K3).sub [] (List.nil_sublist _)
   rw[wrap_succ (by omega),←ea,←ea']
   cases hbf:eqI (cmpC ps[i] qs[i]) 0 with
   |false=>exact vcond_t rfl ⟨rfl,S3.kp⟩
   |true=>exact vcond_f rfl (ihj (i+1) (by omega) g4 S3)
 exact go ps.length 0 (by omega) g (Know.nil ok)
theorem ct165 {h:Hp}{k n:Int}{t:ByteArray}{a:Option Addr}{m c:Nat}{k' n':Int}{t':ByteArray}{a':Option Addr}{m' c':Nat}{ps qs:List Vl}(P:PA h a m ps)(Q':PA h a' m' qs)(hl:ps.length<1000000)
 (ih: ∀(i:Nat) (hi:i<ps.length) {ws:List Value},VA h ps[i] ws→ ∀ {q:Vl} {us:List Value},VA h q us→ ∀ {g:Hp},Ft h g→g.Ok→Ret Tryz.prog O 160 [.agg ws.toArray,.agg us.toArray] g fun r g'=>r= .int .i64 (cmpC ps[i] q)∧Kp g.nx g g') {g:Hp} (F:Ft h g) (ok:g.Ok):
 Ret Tryz.prog O 165 [.agg #[.int .i64 k,.int .i64 n,.string t,.slice a m c,.int .i64 k',.int .i64 n',.string t',.slice a' m' c']] g fun r g'=>r= .int .i64 (bif !(eqI (Int.ofNat ps.length) (Int.ofNat qs.length))then orderF (Int.ofNat ps.length) (Int.ofNat qs.length)else cmpCL ps qs)∧Kp g.nx g g':=by
 have p1:=P.1
 have q1:=Q'.1
 subst p1 q1
 refine rk165 (hO:=hO _ _ _ (by decide)) (hh:= ?_) ..
 unfold T165
 refine vreq_t rfl ?_
 intro g1
 have S:Know g g1 [ob g.nx (.cells [.int .i64 k,.int .i64 n,.string t,.slice a ps.length c,.int .i64 k',.int .i64 n',.string t',.slice a' qs.length c'] 210 .fix)]:=(Know.nil ok).add _
 refine⟨_,_,_,S.rd 0 rfl rfl rfl,_,_,_,S.rd 0 rfl rfl rfl,_,_,ct167 hO _ _ _,?_⟩
 cases he:eqI (Int.ofNat ps.length) (Int.ofNat qs.length)with
 |false=>exact vcond_t (by rw[orderF_zero,he];rfl) ⟨rfl,S.kp⟩
 |true=>
  have hlen:ps.length=qs.length:=by have:=eqI_iff.1 he;exact Int.ofNat.inj this
  obtain⟨r,g4,e4,rfl,K3⟩:=ct169 hO P Q' hl hlen ih (F.tr S.ft) S.ok (c:=c) (c':=c')
  exact vcond_f (by rw[orderF_zero,he];rfl) ⟨_,_,_,S.rd 0 rfl rfl rfl,_,_,_,S.rd 0 rfl rfl rfl,_,_,e4,rfl,(S.call K3).kp⟩
theorem ct160 {h:Hp}: ∀(v:Vl){vs:List Value}(_:VA h v vs),Few v→ ∀ {w:Vl}{us:List Value},VA h w us→ ∀ {g:Hp},Ft h g→g.Ok→Ret Tryz.prog O 160 [.agg vs.toArray,.agg us.toArray] g fun r g'=>r= .int .i64 (cmpC v w)∧Kp g.nx g g':=by
 refine Vl.ind fun k n t ps ih=> ?_
 intro vs V F w us U g Fg ok
 obtain⟨k',n',t',qs⟩:=w
 obtain⟨a,m,c,rfl,P⟩:=PA.of V
 obtain⟨a',m',c',rfl,Q'⟩:=PA.of U
 have ih6:=fun i hi=> @ih i hi
 refine rk160 (hO:=hO _ _ _ (by decide)) (hh:= ?_) ..
 unfold T160
 intro g1
 have S:Know g g1 [ob g.nx (.cells [.int .i64 k,.int .i64 n,.string t,.slice a m c] 46 .fix)]:=(Know.nil ok).add _
 intro g2
 have S:Know g g2 [ob g1.nx (.cells [.int .i64 k',.int .i64 n',.string t',.slice a' m' c'] 46 .fix),ob g.nx (.cells [.int .i64 k,.int .i64 n,.string t,.slice a m c] 46 .fix)]:=S.add _
 rw[cmpC_mk]
 refine⟨_,S.rd 1 rfl rfl rfl,_,S.rd 0 rfl rfl rfl,_,_,ct162 hO _ _ _,?_⟩
 cases h1:eqI k k' with
 |false=>exact vcond_t (by rw[orderF_zero,h1];rfl) ⟨rfl,S.kp⟩
 |true=>
 refine vcond_f (by rw[orderF_zero,h1];rfl) ?_
 intro g7
 have S:Know g g7 [_,ob g1.nx (.cells [.int .i64 k',.int .i64 n',.string t',.slice a' m' c'] 46 .fix),ob g.nx (.cells [.int .i64 k,.int .i64 n,.string t,.slice a m c] 46 .fix)]:=S.add _
 refine vreq_t (S.cw 0 rfl (by decide) rfl rfl) ?_
 intro g8
 have S:Know g g8 [ob g2.nx (.cells [.nilFunc,(.func (.func 163) #[] #[]),(.func (.func 163) #[] #[]),(.func (.func 164) #[] #[]),(.func (.func 165) #[] #[]),(.func (.func 165) #[] #[])] 211 .fix),ob g1.nx (.cells [.int .i64 k',.int .i64 n',.string t',.slice a' m' c'] 46 .fix),ob g.nx (.cells [.int .i64 k,.int .i64 n,.string t,.slice a m c] 46 .fix)]:=S.wr 0 rfl (by decide) rfl rfl
 refine⟨_,S.rd 2 rfl rfl rfl,?_⟩
 cases h2:ltI k 1 with
 |true=>exact vcond_t rfl ⟨rfl,S.kp⟩
 |false=>
 refine vcond_f rfl ⟨_,S.rd 2 rfl rfl rfl,?_⟩
 cases h3:ltI 5 k with
 |true=>exact vcond_t rfl ⟨rfl,S.kp⟩
 |false=>
 refine vcond_f rfl ?_
 intro g11
 have S:Know g g11 [ob g2.nx (.cells [.nilFunc,(.func (.func 163) #[] #[]),(.func (.func 163) #[] #[]),(.func (.func 164) #[] #[]),(.func (.func 165) #[] #[]),(.func (.func 165) #[] #[])] 211 .fix),ob g1.nx (.cells [.int .i64 k',.int .i64 n',.string t',.slice a' m' c'] 46 .fix),ob g.nx (.cells [.int .i64 k,.int .i64 n,.string t,.slice a m c] 46 .fix)]:=S.rsv 9
 have okg: ∀ {l:List Nat},(∀q∈l,q∈ [g1.nx,g.nx,g2.nx])→(g11.grd l).Ok:=fun hl=>S.okg fun q hq=>by
  have l1:=(S.orng 0 rfl).2
  have l2:=(S.orng 1 rfl).2
  have l3:=(S.orng 2 rfl).2
  have:=hl q hq
  simp only[List.mem_cons,List.not_mem_nil,or_false]at this
  rcases this with rfl|rfl|rfl<;>assumption
 have ftg: ∀(l:List Nat),Ft h (g11.grd l):=fun l=>Fg.tr (S.ftg l)
 refine⟨_,S.rd 2 rfl rfl rfl,?_⟩
 have h4:=not_lt_of_f h2
 have h5:=not_lt_of_f h3
 have hk:k=1∨k=2∨k=3∨k=4∨k=5:=by omega
 rcases hk with rfl|rfl|rfl|rfl|rfl
 · refine(show isNat (Int.ofNat 1) _ from isNat_i (vreq_t rfl ⟨_,_,_,S.rd 0 rfl rfl rfl,_,_,_,_,_,_,S.rd 2 rfl rfl rfl,_,_,_,_,_,_,S.rd 1 rfl rfl rfl,?_⟩))
   obtain⟨r,g4,e4,rfl,K3⟩:=ct163 hO 1 n t a m c k' n' t' a' m' c' (okg (l:=[]) (fun q hq=>by cases hq))
   exact⟨_,_,e4,rfl,(S.callg K3).kp⟩
 · refine(show isNat (Int.ofNat 2) _ from isNat_i (vreq_t rfl ⟨_,_,_,S.rd 0 rfl rfl rfl,_,_,_,_,_,_,S.rd 2 rfl rfl rfl,_,_,_,_,_,_,S.rd 1 rfl rfl rfl,?_⟩))
   obtain⟨r,g4,e4,rfl,K3⟩:=ct163 hO 2 n t a m c k' n' t' a' m' c' (okg (l:=[]) (fun q hq=>by cases hq))
   exact⟨_,_,e4,rfl,(S.callg K3).kp⟩
 · refine(show isNat (Int.ofNat 3) _ from isNat_i (vreq_t rfl ⟨_,_,_,S.rd 0 rfl rfl rfl,_,_,_,_,_,_,S.rd 2 rfl rfl rfl,_,_,_,_,_,_,S.rd 1 rfl rfl rfl,?_⟩))
   obtain⟨r,g4,e4,rfl,K3⟩:=ct164 hO 3 n t a m c k' n' t' a' m' c' (okg (l:=[]) (fun q hq=>by cases hq))
   exact⟨_,_,e4,rfl,(S.callg K3).kp⟩
 · refine(show isNat (Int.ofNat 4) _ from isNat_i (vreq_t rfl ⟨_,_,_,S.rd 0 rfl rfl rfl,_,_,_,_,_,_,S.rd 2 rfl rfl rfl,_,_,_,_,_,_,S.rd 1 rfl rfl rfl,?_⟩))
   obtain⟨r,g4,e4,rfl,K3⟩:=ct165 hO (k:=4) (n:=n) (t:=t) (c:=c) (k':=k') (n':=n') (t':=t') (c':=c') P Q' F.parts.1 (fun i hi ws V' q us' U' g F' ok=>ih6 i hi V' (F.parts.2 _ (List.getElem_mem hi)) U' F' ok) (ftg []) (okg (l:=[]) (fun q hq=>by cases hq))
   exact⟨_,_,e4,rfl,(S.callg K3).kp⟩
 · refine(show isNat (Int.ofNat 5) _ from isNat_i (vreq_t rfl ⟨_,_,_,S.rd 0 rfl rfl rfl,_,_,_,_,_,_,S.rd 2 rfl rfl rfl,_,_,_,_,_,_,S.rd 1 rfl rfl rfl,?_⟩))
   obtain⟨r,g4,e4,rfl,K3⟩:=ct165 hO (k:=5) (n:=n) (t:=t) (c:=c) (k':=k') (n':=n') (t':=t') (c':=c') P Q' F.parts.1 (fun i hi ws V' q us' U' g F' ok=>ih6 i hi V' (F.parts.2 _ (List.getElem_mem hi)) U' F' ok) (ftg []) (okg (l:=[]) (fun q hq=>by cases hq))
   exact⟨_,_,e4,rfl,(S.callg K3).kp⟩
end
end Go.Proofs.YtngcjpkccnfjiaaGreatDoor
namespace Go.Proofs.YtngcjpkccnfjiaaGreatDoor
open Go Go.Ev
theorem shapedL_all {ps:List Vl}(h:shapedL ps=true): ∀p∈ps,shapedF p=true:=by
 induction ps with
 |nil=>intro p hp;cases hp
 |cons v r ih=>
  simp only[shapedL,Bool.and_eq_true]at h
  intro p hp
  rcases List.mem_cons.1 hp with rfl|hp
  · exact h.1
  · exact ih h.2 p hp
theorem shapedF_mk {k n:Int}{t:ByteArray}{ps:List Vl}:shapedF (.mk k n t ps)=(shapedL ps&&formF k n t ps):=by simp only[shapedF]
theorem cmpL_same: ∀(ps qs:List Vl),(∀p∈ps,∀q∈qs,cmpC p q=cmpF p q)→cmpCL ps qs=cmpL ps qs
 | [],_,_=>by simp only[cmpCL,cmpL]
 |_::_,[],_=>by simp only[cmpCL,cmpL]
 |p::ps,q::qs,h=>by
  simp only[cmpCL,cmpL]
  rw[h p (List.mem_cons_self) q (List.mem_cons_self),cmpL_same ps qs fun a ha b hb=>h a (List.mem_cons_of_mem _ ha) b (List.mem_cons_of_mem _ hb)]
theorem cmp_same: ∀(v:Vl),shapedF v=true→ ∀(w:Vl),shapedF w=true→cmpC v w=cmpF v w:=by
 refine Vl.ind fun k n t ps ih=> ?_
 intro hv w hw
 obtain⟨k',n',t',qs⟩:=w
 rw[shapedF_mk,Bool.and_eq_true]at hv hw
 obtain⟨sp,fv⟩:=hv
 obtain⟨sq,fw⟩:=hw
 rw[cmpC_mk,cmpF_mk]
 by_cases hk:k=k'
 · subst hk
   rw[eqI_t (rfl:k=k),Bool.not_true,cond_false,cond_false]
   have hl:cmpCL ps qs=cmpL ps qs:=cmpL_same ps qs fun p hp q hq=>by
    obtain⟨i,hi,rfl⟩:=List.getElem_of_mem hp
    exact ih i hi (shapedL_all sp _ hp) q (shapedL_all sq _ hq)
   by_cases k3:k=3
   · subst k3;rfl
   · unfold formF at fv fw
     rw[eqI_f k3,cond_false]at *
     by_cases k1:k=1
     · subst k1
       simp only[show eqI 1 1=true from rfl,cond_true,Bool.and_eq_true]at fv fw
       have e1:=eqI_iff.1 fv.2.2
       have e2:=eqI_iff.1 fw.2.2
       rw[e1,e2,show orderF 0 0=0 from rfl,Int.add_zero]
       rfl
     · by_cases k2:k=2
       · subst k2
         simp only[show eqI 2 1=false from rfl,show eqI 2 2=true from rfl,cond_true,cond_false,Bool.and_eq_true]at fv fw
         have e1:=eqI_iff.1 fv.2.2
         have e2:=eqI_iff.1 fw.2.2
         rw[e1,e2,show orderF 0 0=0 from rfl,Int.add_zero]
         rfl
       · rw[eqI_f k1,eqI_f k2]at *
         have h45:(k=4∨k=5)∧n=0∧n'=0:=by
          by_cases k4:k=4
          · subst k4
            simp only[cond_false,show eqI 4 4=true from rfl,cond_true,Bool.and_eq_true]at fv fw
            exact⟨.inl rfl,eqI_iff.1 fv.1,eqI_iff.1 fw.1⟩
          · by_cases k5:k=5
            · subst k5
              simp only[cond_false,show eqI 5 4=false from rfl,show eqI 5 5=true from rfl,cond_true,Bool.and_eq_true]at fv fw
              exact⟨.inr rfl,eqI_iff.1 fv.2.1,eqI_iff.1 fw.2.1⟩
            · rw[eqI_f k4,eqI_f k5]at fv;cases fv
         obtain⟨h45,rfl,rfl⟩:=h45
         rw[lt_f (show¬k<1 by omega),lt_f (show¬5<k by omega),hl,show orderF 0 0=0 from rfl,Int.zero_add]
         rfl
 · rw[eqI_f hk];rfl
theorem isIface_i {t:TypeId}{w:Value}{K:TypeId→Value→Prop}(h:K t w):isIface (.iface t w) K:=h
theorem PA.none (h:Hp):PA h none 0 []:=⟨rfl,fun _ hi=>absurd hi (Nat.not_lt_zero _)⟩
section
variable {O:CallF}(hO:Oth O)
include hO
theorem ct157 {vs:List Value}{h:Hp}{v:Vl}(V:VA h v vs)(ih: ∀ {g:Hp},Ft h g→g.Ok→Ret Tryz.prog O 147 [.agg vs.toArray] g fun r g'=>r= .bool (shapedF v)∧Kp g.nx g g'){g:Hp}(F:Ft h g)(ok:g.Ok):
 Ret Tryz.prog O 157 [.agg vs.toArray] g fun r g'=>r= .bool (!shapedF v)∧Kp g.nx g g':=by
 obtain⟨v1,v2,v3,v4,v5,v6,rfl⟩:=V.form
 refine rk157 (hO:=hO _ _ _ (by decide)) (hh:= ?_) ..
 unfold T157
 intro g1
 have S:Know g g1 [_]:=(Know.nil ok).add _
 obtain⟨r,g2,e,rfl,K⟩:=ih (F.tr S.ft) S.ok
 exact⟨_,_,_,_,_,_,S.rd 0 rfl rfl rfl,_,_,e,rfl,(S.call K).kp⟩
theorem ct156 {h:Hp}{a:Option Addr}{n c:Nat}{ps:List Vl}(P:PA h a n ps)(hl:ps.length<1000000)
 (ih: ∀(i:Nat) (hi:i<ps.length) {ws:List Value},VA h ps[i] ws→ ∀ {g:Hp},Ft h g→g.Ok→Ret Tryz.prog O 147 [.agg ws.toArray] g fun r g'=>r= .bool (shapedF ps[i])∧Kp g.nx g g') {g:Hp} (F:Ft h g) (ok:g.Ok):
 Ret Tryz.prog O 156 [.slice a n c,.func (.func 157) #[] #[]] g fun r g'=>r= .bool (!shapedL ps)∧Kp g.nx g g':=by
 have p1:=P.1
 subst p1
 have c161:Ret Tryz.prog O 161 [.slice a ps.length c,.func (.func 157) #[] #[]] g fun r g'=> ∃x:Int,r= .int .i64 x∧ltI x 0=shapedL ps∧Kp g.nx g g':=by
  refine rk161 (hO:=hO _ _ _ (by decide)) (hh:= ?_) ..
  unfold T161
  have go: ∀(j i:Nat),i+j=ps.length→ ∀(g2:Hp),Know g g2 []→I161_0 O (fun r g'=> ∃x:Int,r= .int .i64 x∧ltI x 0=shapedL (ps.drop i)∧Kp g.nx g g') a ps.length c 157 #[] #[] 157 #[] #[] 0 (Int.ofNat i) g2:=by
   intro j
   induction j with
   |zero=>
    intro i hi g2 S
    refine I161_0.of (hh:= ?_) ..
    unfold T161_0
    refine vcond_f (by rw[ltI_nat];exact blt_f (by omega)) ⟨_,rfl,?_,S.kp⟩
    rw[List.drop_of_length_le (by omega),shapedL];rfl
   |succ j ihj=>
    intro i hi g2 S
    have i1:i<ps.length:=by omega
    refine I161_0.of (hh:= ?_) ..
    unfold T161_0
    rw[List.drop_eq_getElem_cons i1,shapedL]
    have f2:Ft h g2:=F.tr S.ft
    obtain⟨b,off,ea,ws,V,rv⟩:=P.2 i i1
    have rv:=rv f2.get
    obtain⟨r,g4,e4,rfl,K3⟩:=ct157 hO V (ih i i1 V) f2 S.ok
    obtain⟨v1,v2,v3,v4,v5,v6,rfl⟩:=V.form
    rw[ea]
    refine vcond_t (by rw[ltI_nat];exact blt_t i1) (isNat_i (show isAddr (some ⟨b,off,none⟩) _ from vreq_t (blt_t i1) ⟨_,_,_,_,_,_,rv,_,g4,e4,?_⟩))
    have S3:Know g g4 []:=S.call K3
    rw[wrap_succ (by omega),←ea]
    cases hbf:shapedF ps[i]with
    |false=>exact vcond_t rfl ⟨_,rfl,by simp only[Bool.false_and];rfl,S3.kp⟩
    |true=>exact vcond_f rfl (by simpa only[Bool.true_and] using ihj (i+1) (by omega) g4 S3)
  exact go ps.length 0 (by omega) g (Know.nil ok)
 obtain⟨r,g4,e4,x,rfl,hx,K⟩:=c161
 refine rk156 (hO:=hO _ _ _ (by decide)) (hh:= ?_) ..
 exact⟨_,_,e4,by rw[hx],K⟩
theorem ct147 {h:Hp}: ∀(v:Vl){vs:List Value}(_:VA h v vs),Nice v→ ∀ {g:Hp},Ft h g→g.Ok→Ret Tryz.prog O 147 [.agg vs.toArray] g fun r g'=>r= .bool (shapedF v)∧Kp g.nx g g':=by
 refine Vl.ind fun k n t ps ih=> ?_
 intro vs V N g F ok
 obtain⟨fl,ft,fp⟩:=N.parts
 obtain⟨a,m,c,rfl,P⟩:=PA.of V
 have p1:=P.1
 subst p1
 have ih6: ∀(i:Nat) (hi:i<ps.length) {ws:List Value},VA h ps[i] ws→ ∀ {g:Hp},Ft h g→g.Ok→Ret Tryz.prog O 147 [.agg ws.toArray] g fun r g'=>r= .bool (shapedF ps[i])∧Kp g.nx g g':=fun i hi ws V' g F' ok=>ih i hi V' (fp _ (List.getElem_mem hi)) F' ok
 refine rk147 (hO:=hO _ _ _ (by decide)) (hh:= ?_) ..
 unfold T147
 intro g1
 have S1:Know g g1 [ob g.nx (.cells [.int .i64 k,.int .i64 n,.string t,.slice a ps.length c] 46 .fix)]:=(Know.nil ok).add _
 obtain⟨r,h9,e9,rfl,K9⟩:=ct155 hO k n t a ps.length c S1.ok
 refine⟨_,_,_,_,_,_,S1.rd 0 rfl rfl rfl,_,h9,e9,?_⟩
 have S:Know g h9 []:=(S1.call K9).sub [] (List.nil_sublist _)
 have none0: ∀ {g2:Hp},Know g g2 []→Ret Tryz.prog O 156 [.slice none 0 0,.func (.func 157) #[] #[]] g2 fun r g'=>r= .bool false∧Kp g2.nx g2 g':=fun S=>ct156 hO (PA.none h) (by decide) (fun i hi=>absurd hi (Nat.not_lt_zero _)) (F.tr S.ft) S.ok
 rw[shapedF_mk]
 unfold kindV
 cases c1:eqI k 1&&(sEq t eS&&eqI (Int.ofNat ps.length) 0)with
 |true=>
  rw[cond_true]
  obtain⟨q1,q2⟩:=(Bool.and_eq_true _ _▸c1:_∧_)
  obtain⟨q2,q3⟩:=(Bool.and_eq_true _ _▸q2:_∧_)
  obtain rfl:=List.length_eq_zero_iff.1 (Int.ofNat.inj (eqI_iff.1 q3))
  refine isIface_i (vcond_t rfl ⟨_,rfl,?_⟩)
  obtain⟨r,h16,e16,rfl,K16⟩:=ct188 hO n h9 S.ok
  have S:=S.call K16
  obtain⟨r,h18,e18,rfl,K18⟩:=none0 S
  have S:=S.call K18
  refine⟨_,_,_,_,e16,_,_,e18,vcond_f rfl ?_⟩
  intro g19
  have S:Know g g19 [_]:=S.add _
  refine vreq_t (S.cw 0 rfl (by decide) rfl rfl) ?_
  intro g20
  have S:Know g g20 [_]:=S.wr 0 rfl (by decide) rfl rfl
  refine⟨_,S.rd 0 rfl rfl rfl,_,_,ct158 hO _ _ _ _,?_,S.kp⟩
  unfold formF
  rw[q1,cond_true,q2]
  simp[shapedL]
 |false=>
 rw[cond_false]
 cases c2:eqI k 2&&(sEq t eS&&eqI (Int.ofNat ps.length) 0)with
 |true=>
  rw[cond_true]
  obtain⟨q1,q2⟩:=(Bool.and_eq_true _ _▸c2:_∧_)
  obtain⟨q2,q3⟩:=(Bool.and_eq_true _ _▸q2:_∧_)
  obtain rfl:=List.length_eq_zero_iff.1 (Int.ofNat.inj (eqI_iff.1 q3))
  refine isIface_i (vcond_f rfl (vcond_t rfl ⟨_,rfl,?_⟩))
  obtain⟨r,h16,e16,rfl,K16⟩:=ct189 hO n h9 S.ok
  have S:=S.call K16
  obtain⟨r,h18,e18,rfl,K18⟩:=none0 S
  have S:=S.call K18
  refine⟨_,_,_,_,e16,_,_,e18,vcond_f rfl ?_⟩
  intro g19
  have S:Know g g19 [_]:=S.add _
  refine vreq_t (S.cw 0 rfl (by decide) rfl rfl) ?_
  intro g20
  have S:Know g g20 [_]:=S.wr 0 rfl (by decide) rfl rfl
  refine⟨_,S.rd 0 rfl rfl rfl,_,_,ct158 hO _ _ _ _,?_,S.kp⟩
  obtain rfl:=eqI_iff.1 q1
  unfold formF
  rw[show eqI 2 1=false from rfl,q1,cond_true,cond_false,q2]
  simp[shapedL]
 |false=>
 rw[cond_false]
 cases c3:eqI k 3&&(eqI n 0&&eqI (Int.ofNat ps.length) 0)with
 |true=>
  rw[cond_true]
  obtain⟨q1,q2⟩:=(Bool.and_eq_true _ _▸c3:_∧_)
  obtain⟨q2,q3⟩:=(Bool.and_eq_true _ _▸q2:_∧_)
  obtain rfl:=List.length_eq_zero_iff.1 (Int.ofNat.inj (eqI_iff.1 q3))
  refine isIface_i (vcond_f rfl (vcond_f rfl (vcond_t rfl ⟨_,rfl,?_⟩)))
  obtain⟨r,h16,e16,rfl,K16⟩:=ct190 hO t h9 S.ok
  have S:=S.call K16
  obtain⟨r,h18,e18,rfl,K18⟩:=none0 S
  have S:=S.call K18
  refine⟨_,_,_,_,e16,_,_,e18,vcond_f rfl ?_⟩
  intro g19
  have S:Know g g19 [_]:=S.add _
  refine vreq_t (S.cw 0 rfl (by decide) rfl rfl) ?_
  intro g20
  have S:Know g g20 [_]:=S.wr 0 rfl (by decide) rfl rfl
  obtain⟨r,h21,e21,rfl,K21⟩:=ct159 hO t S.ok
  refine⟨_,S.rd 0 rfl rfl rfl,_,_,e21,?_,(S.call K21).kp⟩
  obtain rfl:=eqI_iff.1 q1
  unfold formF
  rw[show eqI 3 1=false from rfl,show eqI 3 2=false from rfl,q1,cond_true,cond_false,cond_false]
  have q4:=(Bool.and_eq_true _ _▸q2:_∧_).1
  rw[q4]
  simp[shapedL,show eqI 0 0=true from rfl]
 |false=>
 rw[cond_false]
 cases c4:eqI k 4&&(eqI n 0&&sEq t eS)with
 |true=>
  rw[cond_true]
  obtain⟨q1,q2⟩:=(Bool.and_eq_true _ _▸c4:_∧_)
  obtain⟨q2,q3⟩:=(Bool.and_eq_true _ _▸q2:_∧_)
  refine isIface_i (vcond_f rfl (vcond_f rfl (vcond_f rfl (vcond_t rfl ⟨_,_,_,rfl,?_⟩))))
  obtain⟨r,h16,e16,rfl,K16⟩:=ct191 hO a ps.length c h9 S.ok
  have S:=S.call K16
  obtain⟨r,h18,e18,rfl,K18⟩:=ct156 hO P fl ih6 (F.tr S.ft) S.ok (c:=c)
  have S:=S.call K18
  obtain rfl:=eqI_iff.1 q1
  have e:formF 4 n t ps=(!(ltI (Int.ofNat ps.length) 2)&& !(ltI 6 (Int.ofNat ps.length))):=by
   unfold formF
   rw[show eqI 4 1=false from rfl,show eqI 4 2=false from rfl,show eqI 4 3=false from rfl,q1,cond_true,cond_false,cond_false,cond_false,q2,q3]
   simp
  rw[e]
  refine⟨_,_,_,_,e16,_,_,e18,?_⟩
  cases hs:shapedL ps with
  |false=>exact vcond_t rfl ⟨by rw[Bool.false_and],S.kp⟩
  |true=>
  refine vcond_f rfl ?_
  intro g19
  have S:Know g g19 [_]:=S.add _
  refine vreq_t (S.cw 0 rfl (by decide) rfl rfl) ?_
  intro g20
  have S:Know g g20 [ob h18.nx (.cells [.slice a ps.length c] 201 .fix)]:=S.wr 0 rfl (by decide) rfl rfl
  exact⟨_,_,_,S.rd 0 rfl rfl rfl,_,_,ct158 hO _ _ _ _,by rw[Bool.true_and],S.kp⟩
 |false=>
 rw[cond_false]
 cases c5:eqI k 5&&(eqI n 0&&sEq t eS)with
 |true=>
  rw[cond_true]
  obtain⟨q1,q2⟩:=(Bool.and_eq_true _ _▸c5:_∧_)
  obtain⟨q2,q3⟩:=(Bool.and_eq_true _ _▸q2:_∧_)
  refine isIface_i (vcond_f rfl (vcond_f rfl (vcond_f rfl (vcond_f rfl (vcond_t rfl ⟨_,_,_,rfl,?_⟩)))))
  obtain⟨r,h16,e16,rfl,K16⟩:=ct192 hO a ps.length c h9 S.ok
  have S:=S.call K16
  obtain⟨r,h18,e18,rfl,K18⟩:=ct156 hO P fl ih6 (F.tr S.ft) S.ok (c:=c)
  have S:=S.call K18
  obtain rfl:=eqI_iff.1 q1
  have e:formF 5 n t ps=incF ps:=by
   unfold formF
   rw[show eqI 5 1=false from rfl,show eqI 5 2=false from rfl,show eqI 5 3=false from rfl,show eqI 5 4=false from rfl,q1,cond_true,cond_false,cond_false,cond_false,cond_false,q2,q3]
   simp
  rw[e]
  refine⟨_,_,_,_,e16,_,_,e18,?_⟩
  cases hs:shapedL ps with
  |false=>exact vcond_t rfl ⟨by rw[Bool.false_and],S.kp⟩
  |true=>
  refine vcond_f rfl ?_
  intro g19
  have S:Know g g19 [_]:=S.add _
  refine vreq_t (S.cw 0 rfl (by decide) rfl rfl) ?_
  intro g20
  have S:Know g g20 [ob h18.nx (.cells [.slice a ps.length c] 202 .fix)]:=S.wr 0 rfl (by decide) rfl rfl
  rw[Bool.true_and]
  have inc: ∀(j i:Nat),i+1+j=max 1 ps.length→ ∀(g3:Hp),Know g g3 [ob h18.nx (.cells [.slice a ps.length c] 202 .fix)]→
   I147_0 O (fun r g'=>r= .bool (incF (ps.drop i))∧Kp g.nx g g') 5 n t a ps.length c false h18.nx 0 (Int.ofNat (i+1)) g3:=by
   intro j
   induction j with
   |zero=>
    intro i hi g3 S
    refine I147_0.of (hh:= ?_) ..
    unfold T147_0
    refine⟨_,_,_,S.rd 0 rfl rfl rfl,vcond_f (by rw[ltI_nat];exact blt_f (by omega)) ⟨?_,S.kp⟩⟩
    have e:incF (ps.drop i)=true:=by
     match hd:ps.drop i with
     | []=>rfl
     | [_]=>rfl
     |_::_::_=>
      have:=congrArg List.length hd
      simp only[List.length_drop,List.length_cons]at this
      omega
    rw[e]
   |succ j ihj=>
    intro i hi g3 S
    have i1:i+1<ps.length:=by omega
    have i0:i<ps.length:=by omega
    refine I147_0.of (hh:= ?_) ..
    unfold T147_0
    rw[List.drop_eq_getElem_cons i0,List.drop_eq_getElem_cons i1,incF,←List.drop_eq_getElem_cons i1]
    refine⟨_,_,_,S.rd 0 rfl rfl rfl,vcond_t (by rw[ltI_nat];exact blt_t i1) ?_⟩
    intro g104
    have S1:Know g g104 [ob h18.nx (.cells [.slice a ps.length c] 202 .fix)]:=S.rsv 13
    obtain⟨b,off,ea,ws,V,rv⟩:=P.2 i i0
    obtain⟨b',off',e',us,U,ru⟩:=P.2 (i+1) i1
    obtain⟨rfl,rfl⟩:b=b'∧off=off':=by rw[ea]at e';simpa using e'
    have fg:=F.tr S1.ft
    have rv:=rv fg.get
    have ru:=ru fg.get
    have ihi:=ct160 hO ps[i] V (fp _ (List.getElem_mem i0)).1 U (g:=g104.grd []) (F.tr (S1.ftg [])) (S1.ok.grd fun q hq=>by cases hq)
    rw[cmp_same _ (shapedL_all hs _ (List.getElem_mem i0)) _ (shapedL_all hs _ (List.getElem_mem i1))]at ihi
    obtain⟨_,_,_,_,_,_,rfl⟩:=V.form
    obtain⟨_,_,_,_,_,_,rfl⟩:=U.form
    have ew:wrapF .i64 (Int.ofNat (i+1)-1)=Int.ofNat i:=by
     simp only[Int.ofNat_eq_natCast]
     rw[wrap64 (by omega) (by omega)];omega
    rw[ew,ea]
    refine⟨_,_,_,(ea▸S1).rd 0 rfl rfl rfl,isNat_i (show isAddr (some ⟨b,off,none⟩) _ from vreq_t (blt_t i0) ⟨_,_,_,_,_,_,rv,_,_,_,(ea▸S1).rd 0 rfl rfl rfl,isNat_i (show isAddr (some ⟨b,off,none⟩) _ from vreq_t (blt_t i1) ⟨_,_,_,_,_,_,ru,?_⟩)⟩)⟩
    obtain⟨r,g4,e4,rfl,K3⟩:=ihi
    refine⟨_,g4,e4,?_⟩
    intro g131
    have S3:Know g g131 [ob h18.nx (.cells [.slice a ps.length c] 202 .fix)]:=S1.callg K3
    rw[wrap_succ (by omega),←ea]
    cases hbf:ltI (cmpF ps[i] ps[i+1]) 0 with
    |false=>exact vcond_t rfl ⟨rfl,S3.kp⟩
    |true=>exact vcond_f rfl (ihj (i+1) (by omega) g131 S3)
  exact inc (max 1 ps.length-1) 0 (by omega) g20 S
 |false=>
 rw[cond_false]
 refine isIface_i (vcond_f rfl (vcond_f rfl (vcond_f rfl (vcond_f rfl (vcond_f rfl (vcond_t rfl ⟨rfl,?_⟩))))))
 obtain⟨r,h16,e16,rfl,K16⟩:=ct193 hO h9 S.ok
 have S:=S.call K16
 obtain⟨r,h18,e18,rfl,K18⟩:=none0 S
 have S:=S.call K18
 refine⟨_,_,_,_,e16,_,_,e18,vcond_f rfl ⟨?_,S.kp⟩⟩
 have e:formF k n t ps=false:=by
  unfold formF
  cases e1:eqI k 1 with
  |true=>rw[e1,Bool.true_and]at c1;rw[cond_true,c1,Bool.and_false]
  |false=>
  cases e2:eqI k 2 with
  |true=>rw[e2,Bool.true_and]at c2;rw[cond_true,cond_false,c2,Bool.and_false]
  |false=>
  cases e3:eqI k 3 with
  |true=>rw[e3,Bool.true_and]at c3;rw[cond_true,cond_false,cond_false,Bool.and_left_comm,c3,Bool.and_false]
  |false=>
  cases e4:eqI k 4 with
  |true=>rw[e4,Bool.true_and]at c4;rw[cond_true,cond_false,cond_false,cond_false,←Bool.and_assoc,c4,Bool.false_and]
  |false=>
  cases e5:eqI k 5 with
  |true=>rw[e5,Bool.true_and]at c5;rw[cond_true,cond_false,cond_false,cond_false,cond_false,c5,Bool.and_false]
  |false=>rfl
 rw[e,Bool.and_false]
end
end Go.Proofs.YtngcjpkccnfjiaaGreatDoor
namespace Go.Proofs.YtngcjpkccnfjiaaGreatDoor
open Go Go.Ev
set_option maxRecDepth 100000
set_option linter.unusedVariables false
noncomputable def b134:Code:=(Tryz.f134.body).getD .skip
def lv134:List (Nat×List Nat):=[]
def T134 (O:CallF)(Q:Value→Hp→Prop)(x0_0 x0_1:Int)(s0_2:ByteArray)(a0_3:Option Addr)(n0_3 c0_3:Nat)(h:Hp):Prop:=
 let g1:=h.add (.cells [.int .i64 x0_0,.int .i64 x0_1,.string s0_2,.slice a0_3 n0_3 c0_3] 46 .fix)
 ∃x2 x3 s4 a5 n6 c7,readAt g1 h.nx 0 4=some [.int .i64 x2,.int .i64 x3,.string s4,.slice a5 n6 c7]∧
 ∃q8 h9,EvC Tryz.prog O 146 [.agg #[.int .i64 x2,.int .i64 x3,.string s4,.slice a5 n6 c7]] g1 (.bool q8) h9∧
 vcond q8
 (∃x10 x11 s12 a13 n14 c15,readAt h9 h.nx 0 4=some [.int .i64 x10,.int .i64 x11,.string s12,.slice a13 n14 c15]∧
 ∃q16 h17,EvC Tryz.prog O 147 [.agg #[.int .i64 x10,.int .i64 x11,.string s12,.slice a13 n14 c15]] h9 (.bool q16) h17∧
 Q (.bool q16) h17)
 (Q (.bool false) h9)
theorem rk134 {O Q} (x0_0 x0_1 s0_2 a0_3 n0_3 c0_3){h:Hp}(hO:O 134 [.agg #[.int .i64 x0_0,.int .i64 x0_1,.string s0_2,.slice a0_3 n0_3 c0_3]] h=none)(hh:T134 O Q x0_0 x0_1 s0_2 a0_3 n0_3 c0_3 h):Ret Tryz.prog O 134 [.agg #[.int .i64 x0_0,.int .i64 x0_1,.string s0_2,.slice a0_3 n0_3 c0_3]] h Q:=
 .of (c:=b134) Tryz.func134 (by kernel_rfl) hO (V_okE (tb:=lv134) (cuts:=[]) 500 hh (by kernel_rfl))
noncomputable def b148:Code:=(Tryz.f148.body).getD .skip
def lv148:List (Nat×List Nat):=[]
def T148 (O:CallF)(Q:Value→Hp→Prop)(x0_0 x0_1:Int)(s0_2:ByteArray)(a0_3:Option Addr)(n0_3 c0_3:Nat)(x1_0 x1_1:Int)(s1_2:ByteArray)(a1_3:Option Addr)(n1_3 c1_3:Nat)(h:Hp):Prop:=
 let g1:=h.add (.cells [.int .i64 x0_0,.int .i64 x0_1,.string s0_2,.slice a0_3 n0_3 c0_3] 46 .fix)
 let g2:=g1.add (.cells [.int .i64 x1_0,.int .i64 x1_1,.string s1_2,.slice a1_3 n1_3 c1_3] 46 .fix)
 ∃x3 x4 s5 a6 n7 c8,readAt g2 h.nx 0 4=some [.int .i64 x3,.int .i64 x4,.string s5,.slice a6 n7 c8]∧
 ∃q9 h10,EvC Tryz.prog O 134 [.agg #[.int .i64 x3,.int .i64 x4,.string s5,.slice a6 n7 c8]] g2 (.bool q9) h10∧
 vcond (!q9)
 (Q (.tuple #[.int .i64 0,.int .i64 2]) h10)
 (∃x11 x12 s13 a14 n15 c16,readAt h10 g1.nx 0 4=some [.int .i64 x11,.int .i64 x12,.string s13,.slice a14 n15 c16]∧
 ∃q17 h18,EvC Tryz.prog O 134 [.agg #[.int .i64 x11,.int .i64 x12,.string s13,.slice a14 n15 c16]] h10 (.bool q17) h18∧
 vcond (!q17)
 (Q (.tuple #[.int .i64 0,.int .i64 2]) h18)
 (∃x19 x20 s21 a22 n23 c24,readAt h18 h.nx 0 4=some [.int .i64 x19,.int .i64 x20,.string s21,.slice a22 n23 c24]∧
 ∃x25 x26 s27 a28 n29 c30,readAt h18 g1.nx 0 4=some [.int .i64 x25,.int .i64 x26,.string s27,.slice a28 n29 c30]∧
 ∃x31 h32,EvC Tryz.prog O 160 [.agg #[.int .i64 x19,.int .i64 x20,.string s21,.slice a22 n23 c24],.agg #[.int .i64 x25,.int .i64 x26,.string s27,.slice a28 n29 c30]] h18 (.int .i64 x31) h32∧
 Q (.tuple #[.int .i64 x31,.int .i64 0]) h32))
theorem rk148 {O Q} (x0_0 x0_1 s0_2 a0_3 n0_3 c0_3 x1_0 x1_1 s1_2 a1_3 n1_3 c1_3){h:Hp}(hO:O 148 [.agg #[.int .i64 x0_0,.int .i64 x0_1,.string s0_2,.slice a0_3 n0_3 c0_3],.agg #[.int .i64 x1_0,.int .i64 x1_1,.string s1_2,.slice a1_3 n1_3 c1_3]] h=none)(hh:T148 O Q x0_0 x0_1 s0_2 a0_3 n0_3 c0_3 x1_0 x1_1 s1_2 a1_3 n1_3 c1_3 h):Ret Tryz.prog O 148 [.agg #[.int .i64 x0_0,.int .i64 x0_1,.string s0_2,.slice a0_3 n0_3 c0_3],.agg #[.int .i64 x1_0,.int .i64 x1_1,.string s1_2,.slice a1_3 n1_3 c1_3]] h Q:=
 .of (c:=b148) Tryz.func148 (by kernel_rfl) hO (V_okE (tb:=lv148) (cuts:=[]) 500 hh (by kernel_rfl))
noncomputable def b94:Code:=(Tryz.f94.body).getD .skip
def lv94:List (Nat×List Nat):=[]
def T94 (O:CallF)(Q:Value→Hp→Prop)(x0_0 x0_1:Int)(s0_2:ByteArray)(a0_3:Option Addr)(n0_3 c0_3:Nat)(h:Hp):Prop:=
 let g1:=h.add (.cells [.int .i64 x0_0,.int .i64 x0_1,.string s0_2,.slice a0_3 n0_3 c0_3] 46 .fix)
 ∃x2 x3 s4 a5 n6 c7,readAt g1 h.nx 0 4=some [.int .i64 x2,.int .i64 x3,.string s4,.slice a5 n6 c7]∧
 ∃q8 h9,EvC Tryz.prog O 134 [.agg #[.int .i64 x2,.int .i64 x3,.string s4,.slice a5 n6 c7]] g1 (.bool q8) h9∧
 vcond (!q8)
 (Q (.int .i64 2) h9)
 (Q (.int .i64 0) h9)
theorem rk94 {O Q} (x0_0 x0_1 s0_2 a0_3 n0_3 c0_3){h:Hp}(hO:O 94 [.agg #[.int .i64 x0_0,.int .i64 x0_1,.string s0_2,.slice a0_3 n0_3 c0_3]] h=none)(hh:T94 O Q x0_0 x0_1 s0_2 a0_3 n0_3 c0_3 h):Ret Tryz.prog O 94 [.agg #[.int .i64 x0_0,.int .i64 x0_1,.string s0_2,.slice a0_3 n0_3 c0_3]] h Q:=
 .of (c:=b94) Tryz.func94 (by kernel_rfl) hO (V_okE (tb:=lv94) (cuts:=[]) 500 hh (by kernel_rfl))
noncomputable def b95:Code:=(Tryz.f95.body).getD .skip
noncomputable def stk95_0:List KI:=[.code (sub [1,1,1,1,0,1,0] b95),.blk 0,.code (sub [1,1,1,1,1] b95)]
def lv95:List (Nat×List Nat):=[(0,[2,3,4,5,29,30,31])]
def I95_0 (O:CallF)(Q:Value→Hp→Prop)(x0_0 x0_1:Int)(s0_2:ByteArray)(a0_3:Option Addr)(n0_3 c0_3:Nat)(x4:Int)(q5:Bool)(a29:Option Addr)(n29 c29:Nat)(x30 x31:Int)(h:Hp):Prop:=RKL Tryz.prog O Tryz.f95 stk95_0 50 [2,3,4,5,29,30,31] [.int .i64 0,.bool false,.int .i64 x4,.bool q5,.slice a29 n29 c29,.int .i64 x30,.int .i64 x31] h Q
def T95 (O:CallF)(Q:Value→Hp→Prop)(x0_0 x0_1:Int)(s0_2:ByteArray)(a0_3:Option Addr)(n0_3 c0_3:Nat)(h:Hp):Prop:=
 let g1:=h.add (.cells [.int .i64 x0_0,.int .i64 x0_1,.string s0_2,.slice a0_3 n0_3 c0_3] 46 .fix)
 ∃x2,readAt g1 h.nx 0 1=some [.int .i64 x2]∧
 vcond (eqI x2 1)
 (Q (.tuple #[.int .i64 0,.bool true]) g1)
 (let g3:=g1.rsv 14
 ∃s4,readAt g3 h.nx 2 1=some [.string s4]∧
 ∃a5 n6 c7,readAt g3 h.nx 3 1=some [.slice a5 n6 c7]∧
 ∃a8 n9 c10,readAt g3 h.nx 3 1=some [.slice a8 n9 c10]∧
 ∃x11,readAt g3 h.nx 0 1=some [.int .i64 x11]∧
 vcond (eqI x11 2)
 (∃a12 n13 c14,readAt g3 h.nx 3 1=some [.slice a12 n13 c14]∧
 I95_0 O Q x0_0 x0_1 s0_2 a0_3 n0_3 c0_3 2 (!(ltI 20 (Int.ofNat n9))) a12 n13 c14 (Int.ofNat n13) 0 g3)
 (∃a15 n16 c17,readAt g3 h.nx 3 1=some [.slice a15 n16 c17]∧
 I95_0 O Q x0_0 x0_1 s0_2 a0_3 n0_3 c0_3 (wrapF .i64 ((wrapF .i64 (1+(Int.ofNat (ByteArray.size s4))))+(Int.ofNat n6))) (!(ltI 20 (Int.ofNat n9))) a15 n16 c17 (Int.ofNat n16) 0 g3))
theorem rk95 {O Q} (x0_0 x0_1 s0_2 a0_3 n0_3 c0_3){h:Hp}(hO:O 95 [.agg #[.int .i64 x0_0,.int .i64 x0_1,.string s0_2,.slice a0_3 n0_3 c0_3]] h=none)(hh:T95 O Q x0_0 x0_1 s0_2 a0_3 n0_3 c0_3 h):Ret Tryz.prog O 95 [.agg #[.int .i64 x0_0,.int .i64 x0_1,.string s0_2,.slice a0_3 n0_3 c0_3]] h Q:=
 .of (c:=b95) Tryz.func95 (by kernel_rfl) hO (V_okE (tb:=lv95) (cuts:=[]) 500 hh (by kernel_rfl))
def T95_0 (O:CallF)(Q:Value→Hp→Prop)(x0_0 x0_1:Int)(s0_2:ByteArray)(a0_3:Option Addr)(n0_3 c0_3:Nat)(x4:Int)(q5:Bool)(a29:Option Addr)(n29 c29:Nat)(x30 x31:Int)(h:Hp):Prop:=
 vcond (ltI x31 x30)
 (isNat x31 fun n101=>
 isAddr a29 fun b102 f103=>
 vreq (Nat.blt n101 n29)
 (∃x104 x105 s106 a107 n108 c109,readAt h b102 (f103+(n101*4)) 4=some [.int .i64 x104,.int .i64 x105,.string s106,.slice a107 n108 c109]∧
 let g110:=h.add (.cells [.int .i64 0,.int .i64 0,.string (ByteArray.mk #[]),.slice none 0 0] 46 .fix)
 vreq (canW g110 h.nx 0 [.int .i64 x104,.int .i64 x105,.string s106,.slice a107 n108 c109])
 (let g111:=g110.wr h.nx 0 [.int .i64 x104,.int .i64 x105,.string s106,.slice a107 n108 c109]
 ∃x112 x113 s114 a115 n116 c117,readAt g111 h.nx 0 4=some [.int .i64 x112,.int .i64 x113,.string s114,.slice a115 n116 c117]∧
 ∃x118 q119 h120,EvC Tryz.prog O 95 [.agg #[.int .i64 x112,.int .i64 x113,.string s114,.slice a115 n116 c117]] g111 (.tuple #[.int .i64 x118,.bool q119]) h120∧
 vcond q5
 (I95_0 O Q x0_0 x0_1 s0_2 a0_3 n0_3 c0_3 (wrapF .i64 (x4+x118)) q119 a29 n29 c29 x30 (wrapF .i64 (x31+1)) h120)
 (I95_0 O Q x0_0 x0_1 s0_2 a0_3 n0_3 c0_3 (wrapF .i64 (x4+x118)) false a29 n29 c29 x30 (wrapF .i64 (x31+1)) h120))))
 (Q (.tuple #[.int .i64 x4,.bool q5]) h)
theorem I95_0.of {O Q} (x0_0 x0_1 s0_2 a0_3 n0_3 c0_3 x4 q5 a29 n29 c29 x30 x31){h:Hp}(hh:T95_0 O Q x0_0 x0_1 s0_2 a0_3 n0_3 c0_3 x4 q5 a29 n29 c29 x30 x31 h):I95_0 O Q x0_0 x0_1 s0_2 a0_3 n0_3 c0_3 x4 q5 a29 n29 c29 x30 x31 h:=
 RKL.ofE (tb:=lv95) (cuts:=[]) 500 hh fun _=>by kernel_rfl
noncomputable def b96:Code:=(Tryz.f96.body).getD .skip
noncomputable def stk96_0:List KI:=[.code (sub [1,1,0,1,0] b96),.blk 0,.code (sub [1,1,1] b96)]
noncomputable def stk96_1:List KI:=[.code (sub [1,1,1,1,0,1,0] b96),.blk 3,.code (sub [1,1,1,1,1] b96)]
def lv96:List (Nat×List Nat):=[(0,[0,3,4,5,11,12,13]),(3,[0,4,5,51,52,53])]
def I96_0 (O:CallF)(Q:Value→Hp→Prop)(b0 f0:Nat)(x1_0 x1_1:Int)(s1_2:ByteArray)(a1_3:Option Addr)(n1_3 c1_3 b3 f3:Nat)(a5:Option Addr)(n5 c5:Nat)(a11:Option Addr)(n11 c11:Nat)(x12 x13:Int)(h:Hp):Prop:=RKL Tryz.prog O Tryz.f96 stk96_0 66 [0,3,4,5,11,12,13] [.pointer (some ⟨b0,f0,none⟩),.pointer (some ⟨b3,f3,none⟩),.int .i64 0,.slice a5 n5 c5,.slice a11 n11 c11,.int .i64 x12,.int .i64 x13] h Q
def I96_1 (O:CallF)(Q:Value→Hp→Prop)(b0 f0:Nat)(x1_0 x1_1:Int)(s1_2:ByteArray)(a1_3:Option Addr)(n1_3 c1_3:Nat)(a5:Option Addr)(n5 c5:Nat)(a51:Option Addr)(n51 c51:Nat)(x52 x53:Int)(h:Hp):Prop:=RKL Tryz.prog O Tryz.f96 stk96_1 66 [0,4,5,51,52,53] [.pointer (some ⟨b0,f0,none⟩),.int .i64 0,.slice a5 n5 c5,.slice a51 n51 c51,.int .i64 x52,.int .i64 x53] h Q
def T96 (O:CallF)(Q:Value→Hp→Prop)(b0 f0:Nat)(x1_0 x1_1:Int)(s1_2:ByteArray)(a1_3:Option Addr)(n1_3 c1_3:Nat)(h:Hp):Prop:=
 let g1:=h.add (.cells [.int .i64 x1_0,.int .i64 x1_1,.string s1_2,.slice a1_3 n1_3 c1_3] 46 .fix)
 ∃a2 n3 c4,readAt g1 h.nx 3 1=some [.slice a2 n3 c4]∧
 I96_0 O Q b0 f0 x1_0 x1_1 s1_2 a1_3 n1_3 c1_3 h.nx 0 none 0 0 a2 n3 c4 (Int.ofNat n3) 0 g1
theorem rk96 {O Q} (b0 f0 x1_0 x1_1 s1_2 a1_3 n1_3 c1_3){h:Hp}(hO:O 96 [.pointer (some ⟨b0,f0,none⟩),.agg #[.int .i64 x1_0,.int .i64 x1_1,.string s1_2,.slice a1_3 n1_3 c1_3]] h=none)(hh:T96 O Q b0 f0 x1_0 x1_1 s1_2 a1_3 n1_3 c1_3 h):Ret Tryz.prog O 96 [.pointer (some ⟨b0,f0,none⟩),.agg #[.int .i64 x1_0,.int .i64 x1_1,.string s1_2,.slice a1_3 n1_3 c1_3]] h Q:=
 .of (c:=b96) Tryz.func96 (by kernel_rfl) hO (V_okE (tb:=lv96) (cuts:=[]) 500 hh (by kernel_rfl))
def T96_0 (O:CallF)(Q:Value→Hp→Prop)(b0 f0:Nat)(x1_0 x1_1:Int)(s1_2:ByteArray)(a1_3:Option Addr)(n1_3 c1_3 b3 f3:Nat)(a5:Option Addr)(n5 c5:Nat)(a11:Option Addr)(n11 c11:Nat)(x12 x13:Int)(h:Hp):Prop:=
 vcond (ltI x13 x12)
 (isNat x13 fun n101=>
 isAddr a11 fun b102 f103=>
 vreq (Nat.blt n101 n11)
 (∃x104 x105 s106 a107 n108 c109,readAt h b102 (f103+(n101*4)) 4=some [.int .i64 x104,.int .i64 x105,.string s106,.slice a107 n108 c109]∧
 let g110:=h.add (.cells [.int .i64 0,.int .i64 0,.string (ByteArray.mk #[]),.slice none 0 0] 46 .fix)
 vreq (canW g110 h.nx 0 [.int .i64 x104,.int .i64 x105,.string s106,.slice a107 n108 c109])
 (let g111:=g110.wr h.nx 0 [.int .i64 x104,.int .i64 x105,.string s106,.slice a107 n108 c109]
 ∃x112 x113 s114 a115 n116 c117,readAt g111 h.nx 0 4=some [.int .i64 x112,.int .i64 x113,.string s114,.slice a115 n116 c117]∧
 ∃x118 h119,EvC Tryz.prog O 96 [.pointer (some ⟨b0,f0,none⟩),.agg #[.int .i64 x112,.int .i64 x113,.string s114,.slice a115 n116 c117]] g111 (.int .i64 x118) h119∧
 let g120:=h119.add (.cells [.int .i64 x118] 3 .fix)
 ∃a121 n122 c123 h124,appendV Tryz.prog g120 22 22 (.slice a5 n5 c5) (.slice (some ⟨h119.nx,0,none⟩) 1 1)=some (.slice a121 n122 c123,h124)∧
 I96_0 O Q b0 f0 x1_0 x1_1 s1_2 a1_3 n1_3 c1_3 b3 f3 a121 n122 c123 a11 n11 c11 x12 (wrapF .i64 (x13+1)) h124)))
 (∃x125,readAt h b3 (f3+0) 1=some [.int .i64 x125]∧
 vcond (eqI x125 1)
 (∃x126,readAt h b3 (f3+1) 1=some [.int .i64 x126]∧
 Q (.int .i64 (wrapF .i64 ((wrapF .i64 (2*x126))+1))) h)
 (vcond (eqI x125 2)
 (∃x127,readAt h b3 (f3+1) 1=some [.int .i64 x127]∧
 let g128:=h.add (.cells [.int .i64 x127] 3 .fix)
 ∃x129 h130,EvC Tryz.prog O 81 [.pointer (some ⟨b0,f0,none⟩),.int .i64 4,.slice (some ⟨h.nx,0,none⟩) 1 1] g128 (.int .i64 x129) h130∧
 Q (.int .i64 x129) h130)
 (vcond (eqI x125 4)
 (∃x131 h132,EvC Tryz.prog O 81 [.pointer (some ⟨b0,f0,none⟩),.int .i64 1,.slice a5 n5 c5] h (.int .i64 x131) h132∧
 Q (.int .i64 x131) h132)
 (vcond (eqI x125 5)
 (∃x133 h134,EvC Tryz.prog O 81 [.pointer (some ⟨b0,f0,none⟩),.int .i64 2,.slice a5 n5 c5] h (.int .i64 x133) h134∧
 Q (.int .i64 x133) h134)
 (∃s135,readAt h b3 (f3+2) 1=some [.string s135]∧
 let g136:=h.add (.cells (List.map (fun b=>Value.int .u8 (Int.ofNat (UInt8.toNat b))) (Array.toList (ByteArray.data s135))) 5 .ro)
 I96_1 O Q b0 f0 x1_0 x1_1 s1_2 a1_3 n1_3 c1_3 a5 n5 c5 (some ⟨h.nx,0,none⟩) (ByteArray.size s135) 18446744073709551616 (Int.ofNat (ByteArray.size s135)) 0 g136)))))
theorem I96_0.of {O Q} (b0 f0 x1_0 x1_1 s1_2 a1_3 n1_3 c1_3 b3 f3 a5 n5 c5 a11 n11 c11 x12 x13){h:Hp}(hh:T96_0 O Q b0 f0 x1_0 x1_1 s1_2 a1_3 n1_3 c1_3 b3 f3 a5 n5 c5 a11 n11 c11 x12 x13 h):I96_0 O Q b0 f0 x1_0 x1_1 s1_2 a1_3 n1_3 c1_3 b3 f3 a5 n5 c5 a11 n11 c11 x12 x13 h:=
 RKL.ofE (tb:=lv96) (cuts:=[]) 500 hh fun _=>by kernel_rfl
def T96_1 (O:CallF)(Q:Value→Hp→Prop)(b0 f0:Nat)(x1_0 x1_1:Int)(s1_2:ByteArray)(a1_3:Option Addr)(n1_3 c1_3:Nat)(a5:Option Addr)(n5 c5:Nat)(a51:Option Addr)(n51 c51:Nat)(x52 x53:Int)(h:Hp):Prop:=
 vcond (ltI x53 x52)
 (isNat x53 fun n201=>
 isAddr a51 fun b202 f203=>
 vreq (Nat.blt n201 n51)
 (∃x204,readAt h b202 (f203+(n201*1)) 1=some [.int .u8 x204]∧
 let g205:=h.add (.cells [.int .i64 (wrapF .i64 x204)] 3 .fix)
 ∃a206 n207 c208 h209,appendV Tryz.prog g205 22 22 (.slice a5 n5 c5) (.slice (some ⟨h.nx,0,none⟩) 1 1)=some (.slice a206 n207 c208,h209)∧
 I96_1 O Q b0 f0 x1_0 x1_1 s1_2 a1_3 n1_3 c1_3 a206 n207 c208 a51 n51 c51 x52 (wrapF .i64 (x53+1)) h209))
 (∃x210 h211,EvC Tryz.prog O 81 [.pointer (some ⟨b0,f0,none⟩),.int .i64 3,.slice a5 n5 c5] h (.int .i64 x210) h211∧
 Q (.int .i64 x210) h211)
theorem I96_1.of {O Q} (b0 f0 x1_0 x1_1 s1_2 a1_3 n1_3 c1_3 a5 n5 c5 a51 n51 c51 x52 x53){h:Hp}(hh:T96_1 O Q b0 f0 x1_0 x1_1 s1_2 a1_3 n1_3 c1_3 a5 n5 c5 a51 n51 c51 x52 x53 h):I96_1 O Q b0 f0 x1_0 x1_1 s1_2 a1_3 n1_3 c1_3 a5 n5 c5 a51 n51 c51 x52 x53 h:=
 RKL.ofE (tb:=lv96) (cuts:=[]) 500 hh fun _=>by kernel_rfl
noncomputable def b31:Code:=(Tryz.f31.body).getD .skip
def lv31:List (Nat×List Nat):=[]
def T31 (O:CallF)(Q:Value→Hp→Prop)(a0_0:Option Addr)(n0_0 c0_0:Nat)(x0_1:Int)(a0_2:Option Addr)(n0_2 c0_2:Nat)(x1_0 x1_1:Int)(s1_2:ByteArray)(a1_3:Option Addr)(n1_3 c1_3:Nat)(h:Hp):Prop:=
 let g1:=h.add (.cells [.slice a0_0 n0_0 c0_0,.int .i64 x0_1,.slice a0_2 n0_2 c0_2] 24 .fix)
 let g2:=g1.add (.cells [.int .i64 x1_0,.int .i64 x1_1,.string s1_2,.slice a1_3 n1_3 c1_3] 46 .fix)
 let g3:=g2.add (.cells [.slice none 0 0,.int .i64 0,.slice none 0 0] 24 .fix)
 ∃a4 n5 c6 x7 a8 n9 c10,readAt g3 h.nx 0 3=some [.slice a4 n5 c6,.int .i64 x7,.slice a8 n9 c10]∧
 ∃x11 h12,EvC Tryz.prog O 41 [.agg #[.slice a4 n5 c6,.int .i64 x7,.slice a8 n9 c10]] g3 (.int .i64 x11) h12∧
 vcond (eqI x11 0)
 (∃x13 x14 s15 a16 n17 c18,readAt h12 g1.nx 0 4=some [.int .i64 x13,.int .i64 x14,.string s15,.slice a16 n17 c18]∧
 ∃x19 h20,EvC Tryz.prog O 94 [.agg #[.int .i64 x13,.int .i64 x14,.string s15,.slice a16 n17 c18]] h12 (.int .i64 x19) h20∧
 vcond (!(eqI x19 0))
 (vreq (canW h20 g2.nx 0 [.slice none 0 0,.int .i64 0,.slice none 0 0])
 (let g21:=h20.wr g2.nx 0 [.slice none 0 0,.int .i64 0,.slice none 0 0]
 ∃a22 n23 c24 x25 a26 n27 c28,readAt g21 g2.nx 0 3=some [.slice a22 n23 c24,.int .i64 x25,.slice a26 n27 c28]∧
 Q (.tuple #[.agg #[.slice a22 n23 c24,.int .i64 x25,.slice a26 n27 c28],.int .i64 0,.int .i64 x19]) g21))
 (∃x29 x30 s31 a32 n33 c34,readAt h20 g1.nx 0 4=some [.int .i64 x29,.int .i64 x30,.string s31,.slice a32 n33 c34]∧
 ∃x35 q36 h37,EvC Tryz.prog O 95 [.agg #[.int .i64 x29,.int .i64 x30,.string s31,.slice a32 n33 c34]] h20 (.tuple #[.int .i64 x35,.bool q36]) h37∧
 vcond (!q36)
 (vreq (canW h37 g2.nx 0 [.slice none 0 0,.int .i64 0,.slice none 0 0])
 (let g38:=h37.wr g2.nx 0 [.slice none 0 0,.int .i64 0,.slice none 0 0]
 ∃a39 n40 c41 x42 a43 n44 c45,readAt g38 g2.nx 0 3=some [.slice a39 n40 c41,.int .i64 x42,.slice a43 n44 c45]∧
 Q (.tuple #[.agg #[.slice a39 n40 c41,.int .i64 x42,.slice a43 n44 c45],.int .i64 0,.int .i64 3]) g38))
 (∃a46 n47 c48 x49 a50 n51 c52,readAt h37 h.nx 0 3=some [.slice a46 n47 c48,.int .i64 x49,.slice a50 n51 c52]∧
 ∃a53 n54 c55 x56 a57 n58 c59 a60 n61 c62 q63 h64,EvC Tryz.prog O 80 [.agg #[.slice a46 n47 c48,.int .i64 x49,.slice a50 n51 c52],.int .i64 x35,.slice none 0 0] h37 (.tuple #[.agg #[.slice a53 n54 c55,.int .i64 x56,.slice a57 n58 c59],.slice a60 n61 c62,.bool q63]) h64∧
 let g65:=h64.add (.cells [.slice none 0 0,.int .i64 0,.slice none 0 0] 24 .fix)
 vreq (canW g65 h64.nx 0 [.slice a53 n54 c55,.int .i64 x56,.slice a57 n58 c59])
 (let g66:=g65.wr h64.nx 0 [.slice a53 n54 c55,.int .i64 x56,.slice a57 n58 c59]
 vcond (!q63)
 (vreq (canW g66 g2.nx 0 [.slice none 0 0,.int .i64 0,.slice none 0 0])
 (let g67:=g66.wr g2.nx 0 [.slice none 0 0,.int .i64 0,.slice none 0 0]
 ∃a68 n69 c70 x71 a72 n73 c74,readAt g67 g2.nx 0 3=some [.slice a68 n69 c70,.int .i64 x71,.slice a72 n73 c74]∧
 Q (.tuple #[.agg #[.slice a68 n69 c70,.int .i64 x71,.slice a72 n73 c74],.int .i64 0,.int .i64 3]) g67))
 (∃x75 x76 s77 a78 n79 c80,readAt g66 g1.nx 0 4=some [.int .i64 x75,.int .i64 x76,.string s77,.slice a78 n79 c80]∧
 ∃x81 h82,EvC Tryz.prog O 96 [.pointer (some ⟨h64.nx,0,none⟩),.agg #[.int .i64 x75,.int .i64 x76,.string s77,.slice a78 n79 c80]] g66 (.int .i64 x81) h82∧
 ∃a83 n84 c85 x86 a87 n88 c89,readAt h82 h64.nx 0 3=some [.slice a83 n84 c85,.int .i64 x86,.slice a87 n88 c89]∧
 vreq (canW h82 g2.nx 0 [.slice a83 n84 c85,.int .i64 x86,.slice a87 n88 c89])
 (let g90:=h82.wr g2.nx 0 [.slice a83 n84 c85,.int .i64 x86,.slice a87 n88 c89]
 ∃a91 n92 c93 x94 a95 n96 c97,readAt g90 g2.nx 0 3=some [.slice a91 n92 c93,.int .i64 x94,.slice a95 n96 c97]∧
 Q (.tuple #[.agg #[.slice a91 n92 c93,.int .i64 x94,.slice a95 n96 c97],.int .i64 x81,.int .i64 0]) g90))))))
 (vcond (!(eqI x11 0))
 (vreq (canW h12 g2.nx 0 [.slice none 0 0,.int .i64 0,.slice none 0 0])
 (let g98:=h12.wr g2.nx 0 [.slice none 0 0,.int .i64 0,.slice none 0 0]
 ∃a99 n100 c101 x102 a103 n104 c105,readAt g98 g2.nx 0 3=some [.slice a99 n100 c101,.int .i64 x102,.slice a103 n104 c105]∧
 Q (.tuple #[.agg #[.slice a99 n100 c101,.int .i64 x102,.slice a103 n104 c105],.int .i64 0,.int .i64 x11]) g98))
 (∃x106 x107 s108 a109 n110 c111,readAt h12 g1.nx 0 4=some [.int .i64 x106,.int .i64 x107,.string s108,.slice a109 n110 c111]∧
 ∃x112 q113 h114,EvC Tryz.prog O 95 [.agg #[.int .i64 x106,.int .i64 x107,.string s108,.slice a109 n110 c111]] h12 (.tuple #[.int .i64 x112,.bool q113]) h114∧
 vcond (!q113)
 (vreq (canW h114 g2.nx 0 [.slice none 0 0,.int .i64 0,.slice none 0 0])
 (let g115:=h114.wr g2.nx 0 [.slice none 0 0,.int .i64 0,.slice none 0 0]
 ∃a116 n117 c118 x119 a120 n121 c122,readAt g115 g2.nx 0 3=some [.slice a116 n117 c118,.int .i64 x119,.slice a120 n121 c122]∧
 Q (.tuple #[.agg #[.slice a116 n117 c118,.int .i64 x119,.slice a120 n121 c122],.int .i64 0,.int .i64 3]) g115))
 (∃a123 n124 c125 x126 a127 n128 c129,readAt h114 h.nx 0 3=some [.slice a123 n124 c125,.int .i64 x126,.slice a127 n128 c129]∧
 ∃a130 n131 c132 x133 a134 n135 c136 a137 n138 c139 q140 h141,EvC Tryz.prog O 80 [.agg #[.slice a123 n124 c125,.int .i64 x126,.slice a127 n128 c129],.int .i64 x112,.slice none 0 0] h114 (.tuple #[.agg #[.slice a130 n131 c132,.int .i64 x133,.slice a134 n135 c136],.slice a137 n138 c139,.bool q140]) h141∧
 let g142:=h141.add (.cells [.slice none 0 0,.int .i64 0,.slice none 0 0] 24 .fix)
 vreq (canW g142 h141.nx 0 [.slice a130 n131 c132,.int .i64 x133,.slice a134 n135 c136])
 (let g143:=g142.wr h141.nx 0 [.slice a130 n131 c132,.int .i64 x133,.slice a134 n135 c136]
 vcond (!q140)
 (vreq (canW g143 g2.nx 0 [.slice none 0 0,.int .i64 0,.slice none 0 0])
 (let g144:=g143.wr g2.nx 0 [.slice none 0 0,.int .i64 0,.slice none 0 0]
 ∃a145 n146 c147 x148 a149 n150 c151,readAt g144 g2.nx 0 3=some [.slice a145 n146 c147,.int .i64 x148,.slice a149 n150 c151]∧
 Q (.tuple #[.agg #[.slice a145 n146 c147,.int .i64 x148,.slice a149 n150 c151],.int .i64 0,.int .i64 3]) g144))
 (∃x152 x153 s154 a155 n156 c157,readAt g143 g1.nx 0 4=some [.int .i64 x152,.int .i64 x153,.string s154,.slice a155 n156 c157]∧
 ∃x158 h159,EvC Tryz.prog O 96 [.pointer (some ⟨h141.nx,0,none⟩),.agg #[.int .i64 x152,.int .i64 x153,.string s154,.slice a155 n156 c157]] g143 (.int .i64 x158) h159∧
 ∃a160 n161 c162 x163 a164 n165 c166,readAt h159 h141.nx 0 3=some [.slice a160 n161 c162,.int .i64 x163,.slice a164 n165 c166]∧
 vreq (canW h159 g2.nx 0 [.slice a160 n161 c162,.int .i64 x163,.slice a164 n165 c166])
 (let g167:=h159.wr g2.nx 0 [.slice a160 n161 c162,.int .i64 x163,.slice a164 n165 c166]
 ∃a168 n169 c170 x171 a172 n173 c174,readAt g167 g2.nx 0 3=some [.slice a168 n169 c170,.int .i64 x171,.slice a172 n173 c174]∧
 Q (.tuple #[.agg #[.slice a168 n169 c170,.int .i64 x171,.slice a172 n173 c174],.int .i64 x158,.int .i64 0]) g167))))))
theorem rk31 {O Q} (a0_0 n0_0 c0_0 x0_1 a0_2 n0_2 c0_2 x1_0 x1_1 s1_2 a1_3 n1_3 c1_3){h:Hp}(hO:O 31 [.agg #[.slice a0_0 n0_0 c0_0,.int .i64 x0_1,.slice a0_2 n0_2 c0_2],.agg #[.int .i64 x1_0,.int .i64 x1_1,.string s1_2,.slice a1_3 n1_3 c1_3]] h=none)(hh:T31 O Q a0_0 n0_0 c0_0 x0_1 a0_2 n0_2 c0_2 x1_0 x1_1 s1_2 a1_3 n1_3 c1_3 h):Ret Tryz.prog O 31 [.agg #[.slice a0_0 n0_0 c0_0,.int .i64 x0_1,.slice a0_2 n0_2 c0_2],.agg #[.int .i64 x1_0,.int .i64 x1_1,.string s1_2,.slice a1_3 n1_3 c1_3]] h Q:=
 .of (c:=b31) Tryz.func31 (by kernel_rfl) hO (V_okE (tb:=lv31) (cuts:=[]) 500 hh (by kernel_rfl))
noncomputable def b101:Code:=(Tryz.f101.body).getD .skip
noncomputable def stk101_0:List KI:=[.code (sub [1,1,1,1,1,1,1,0,1,0,1,1,1,0,1,0,1,0] b101),.blk 1,.code (sub [1,1,1,1,1,1,1,0,1,0,1,1,1,0,1,1] b101),.blk 0,.code (sub [1,1,1,1,1,1,1,1] b101)]
def lv101:List (Nat×List Nat):=[(1,[6,7,10,75,76,77])]
def I101_0 (O:CallF)(Q:Value→Hp→Prop)(b0 f0:Nat)(x1 x2:Int)(b6 f6:Nat)(a10:Option Addr)(n10 c10:Nat)(a75:Option Addr)(n75 c75:Nat)(x76 x77:Int)(h:Hp):Prop:=RKL Tryz.prog O Tryz.f101 stk101_0 116 [6,7,10,75,76,77] [.pointer (some ⟨b6,f6,none⟩),.int .i64 0,.slice a10 n10 c10,.slice a75 n75 c75,.int .i64 x76,.int .i64 x77] h Q
def T101 (O:CallF)(Q:Value→Hp→Prop)(b0 f0:Nat)(x1 x2:Int)(h:Hp):Prop:=
 let g1:=h.add (.cells [.int .i64 0,.int .i64 0,.string (ByteArray.mk #[]),.slice none 0 0] 46 .fix)
 ∃x2',readAt g1 b0 (f0+3) 1=some [.int .i64 x2']∧
 vreq (canW g1 b0 (f0+3) [.int .i64 (wrapF .i64 (x2'-1))])
 (let g3:=g1.wr b0 (f0+3) [.int .i64 (wrapF .i64 (x2'-1))]
 ∃x4,readAt g3 b0 (f0+3) 1=some [.int .i64 x4]∧
 vcond (ltI x4 0)
 (vreq (canW g3 h.nx 0 [.int .i64 0,.int .i64 0,.string (ByteArray.mk #[]),.slice none 0 0])
 (let g5:=g3.wr h.nx 0 [.int .i64 0,.int .i64 0,.string (ByteArray.mk #[]),.slice none 0 0]
 ∃x6 x7 s8 a9 n10 c11,readAt g5 h.nx 0 4=some [.int .i64 x6,.int .i64 x7,.string s8,.slice a9 n10 c11]∧
 Q (.tuple #[.agg #[.int .i64 x6,.int .i64 x7,.string s8,.slice a9 n10 c11],.int .i64 3]) g5))
 (vcond (ltI 8 x2)
 (vreq (canW g3 h.nx 0 [.int .i64 0,.int .i64 0,.string (ByteArray.mk #[]),.slice none 0 0])
 (let g12:=g3.wr h.nx 0 [.int .i64 0,.int .i64 0,.string (ByteArray.mk #[]),.slice none 0 0]
 ∃x13 x14 s15 a16 n17 c18,readAt g12 h.nx 0 4=some [.int .i64 x13,.int .i64 x14,.string s15,.slice a16 n17 c18]∧
 Q (.tuple #[.agg #[.int .i64 x13,.int .i64 x14,.string s15,.slice a16 n17 c18],.int .i64 3]) g12))
 (vcond (!(eqI (Int.tmod x1 2) 0))
 (vreq (canW g3 h.nx 0 [.int .i64 1,(.int .i64 (wrapF .i64 (Int.tdiv (wrapF .i64 (x1-1)) 2))),.string (ByteArray.mk #[]),.slice none 0 0])
 (let g19:=g3.wr h.nx 0 [.int .i64 1,(.int .i64 (wrapF .i64 (Int.tdiv (wrapF .i64 (x1-1)) 2))),.string (ByteArray.mk #[]),.slice none 0 0]
 ∃x20 x21 s22 a23 n24 c25,readAt g19 h.nx 0 4=some [.int .i64 x20,.int .i64 x21,.string s22,.slice a23 n24 c25]∧
 Q (.tuple #[.agg #[.int .i64 x20,.int .i64 x21,.string s22,.slice a23 n24 c25],.int .i64 0]) g19))
 (vcond (eqI x1 0)
 (vreq (canW g3 h.nx 0 [.int .i64 0,.int .i64 0,.string (ByteArray.mk #[]),.slice none 0 0])
 (let g26:=g3.wr h.nx 0 [.int .i64 0,.int .i64 0,.string (ByteArray.mk #[]),.slice none 0 0]
 ∃x27 x28 s29 a30 n31 c32,readAt g26 h.nx 0 4=some [.int .i64 x27,.int .i64 x28,.string s29,.slice a30 n31 c32]∧
 Q (.tuple #[.agg #[.int .i64 x27,.int .i64 x28,.string s29,.slice a30 n31 c32],.int .i64 7]) g26))
 (∃a33 n34 c35,readAt g3 b0 ((f0+0)+0) 1=some [.slice a33 n34 c35]∧
 isNat (wrapF .i64 (Int.tdiv x1 2)) fun n36=>
 isAddr a33 fun b37 f38=>
 vreq (Nat.blt n36 n34)
 (∃x39,readAt g3 b37 (f38+(n36*1)) 1=some [.int .i64 x39]∧
 ∃x40 x41 h42,EvC Tryz.prog O 86 [.int .i64 x39] g3 (.agg #[.int .i64 x40,.int .i64 x41]) h42∧
 let g43:=h42.add (.cells [.int .i64 0,.int .i64 0] 117 .fix)
 vreq (canW g43 h42.nx 0 [.int .i64 x40,.int .i64 x41])
 (let g44:=g43.wr h42.nx 0 [.int .i64 x40,.int .i64 x41]
 let g45:=g44.rsv 16
 ∃a46 n47 c48,readAt g45 b0 ((f0+0)+0) 1=some [.slice a46 n47 c48]∧
 ∃x49,readAt g45 h42.nx 0 1=some [.int .i64 x49]∧
 ∃a50 n51 c52,sliceV Tryz.prog g45 22 (.slice a46 n47 c48) (some (.int .i64 (wrapF .i64 ((wrapF .i64 (Int.tdiv x1 2))+1)))) (some (.int .i64 (wrapF .i64 ((wrapF .i64 ((wrapF .i64 (Int.tdiv x1 2))+1))+x49)))) none=some (.slice a50 n51 c52)∧
 ∃x53,readAt g45 h42.nx 1 1=some [.int .i64 x53]∧
 vcond (eqI x53 4)
 (isAddr a50 fun b54 f55=>
 vreq (Nat.blt 0 n51)
 (∃x56,readAt g45 b54 (f55+0) 1=some [.int .i64 x56]∧
 vreq (canW g45 h.nx 0 [.int .i64 2,.int .i64 x56,.string (ByteArray.mk #[]),.slice none 0 0])
 (let g57:=g45.wr h.nx 0 [.int .i64 2,.int .i64 x56,.string (ByteArray.mk #[]),.slice none 0 0]
 ∃x58 x59 s60 a61 n62 c63,readAt g57 h.nx 0 4=some [.int .i64 x58,.int .i64 x59,.string s60,.slice a61 n62 c63]∧
 Q (.tuple #[.agg #[.int .i64 x58,.int .i64 x59,.string s60,.slice a61 n62 c63],.int .i64 0]) g57)))
 (vcond (eqI x53 3)
 (I101_0 O Q b0 f0 x1 x2 h.nx 0 none 0 0 a50 n51 c52 (Int.ofNat n51) 0 g45)
 (vcond (eqI x53 1)
 (∃x64,readAt g45 h42.nx 0 1=some [.int .i64 x64]∧
 vcond (ltI x64 2)
 (vreq (canW g45 h.nx 0 [.int .i64 0,.int .i64 0,.string (ByteArray.mk #[]),.slice none 0 0])
 (let g65:=g45.wr h.nx 0 [.int .i64 0,.int .i64 0,.string (ByteArray.mk #[]),.slice none 0 0]
 ∃x66 x67 s68 a69 n70 c71,readAt g65 h.nx 0 4=some [.int .i64 x66,.int .i64 x67,.string s68,.slice a69 n70 c71]∧
 Q (.tuple #[.agg #[.int .i64 x66,.int .i64 x67,.string s68,.slice a69 n70 c71],.int .i64 7]) g65))
 (∃x72,readAt g45 h42.nx 0 1=some [.int .i64 x72]∧
 vcond (ltI 6 x72)
 (vreq (canW g45 h.nx 0 [.int .i64 0,.int .i64 0,.string (ByteArray.mk #[]),.slice none 0 0])
 (let g73:=g45.wr h.nx 0 [.int .i64 0,.int .i64 0,.string (ByteArray.mk #[]),.slice none 0 0]
 ∃x74 x75 s76 a77 n78 c79,readAt g73 h.nx 0 4=some [.int .i64 x74,.int .i64 x75,.string s76,.slice a77 n78 c79]∧
 Q (.tuple #[.agg #[.int .i64 x74,.int .i64 x75,.string s76,.slice a77 n78 c79],.int .i64 7]) g73))
 (∃x80 x81 s82 a83 n84 c85 x86 h87,EvC Tryz.prog O 135 [.pointer (some ⟨b0,f0,none⟩),.int .i64 4,.slice a50 n51 c52,.int .i64 x2] g45 (.tuple #[.agg #[.int .i64 x80,.int .i64 x81,.string s82,.slice a83 n84 c85],.int .i64 x86]) h87∧
 vreq (canW h87 h.nx 0 [.int .i64 x80,.int .i64 x81,.string s82,.slice a83 n84 c85])
 (let g88:=h87.wr h.nx 0 [.int .i64 x80,.int .i64 x81,.string s82,.slice a83 n84 c85]
 ∃x89 x90 s91 a92 n93 c94,readAt g88 h.nx 0 4=some [.int .i64 x89,.int .i64 x90,.string s91,.slice a92 n93 c94]∧
 Q (.tuple #[.agg #[.int .i64 x89,.int .i64 x90,.string s91,.slice a92 n93 c94],.int .i64 x86]) g88))))
 (vcond (eqI x53 2)
 (∃x95 x96 s97 a98 n99 c100 x101 h102,EvC Tryz.prog O 135 [.pointer (some ⟨b0,f0,none⟩),.int .i64 5,.slice a50 n51 c52,.int .i64 x2] g45 (.tuple #[.agg #[.int .i64 x95,.int .i64 x96,.string s97,.slice a98 n99 c100],.int .i64 x101]) h102∧
 vreq (canW h102 h.nx 0 [.int .i64 x95,.int .i64 x96,.string s97,.slice a98 n99 c100])
 (let g103:=h102.wr h.nx 0 [.int .i64 x95,.int .i64 x96,.string s97,.slice a98 n99 c100]
 ∃x104 x105 s106 a107 n108 c109,readAt g103 h.nx 0 4=some [.int .i64 x104,.int .i64 x105,.string s106,.slice a107 n108 c109]∧
 Q (.tuple #[.agg #[.int .i64 x104,.int .i64 x105,.string s106,.slice a107 n108 c109],.int .i64 x101]) g103))
 (vreq (canW g45 h.nx 0 [.int .i64 0,.int .i64 0,.string (ByteArray.mk #[]),.slice none 0 0])
 (let g110:=g45.wr h.nx 0 [.int .i64 0,.int .i64 0,.string (ByteArray.mk #[]),.slice none 0 0]
 ∃x111 x112 s113 a114 n115 c116,readAt g110 h.nx 0 4=some [.int .i64 x111,.int .i64 x112,.string s113,.slice a114 n115 c116]∧
 Q (.tuple #[.agg #[.int .i64 x111,.int .i64 x112,.string s113,.slice a114 n115 c116],.int .i64 7]) g110))))))))))))
theorem rk101 {O Q} (b0 f0 x1 x2){h:Hp}(hO:O 101 [.pointer (some ⟨b0,f0,none⟩),.int .i64 x1,.int .i64 x2] h=none)(hh:T101 O Q b0 f0 x1 x2 h):Ret Tryz.prog O 101 [.pointer (some ⟨b0,f0,none⟩),.int .i64 x1,.int .i64 x2] h Q:=
 .of (c:=b101) Tryz.func101 (by kernel_rfl) hO (V_okE (tb:=lv101) (cuts:=[]) 500 hh (by kernel_rfl))
def T101_0 (O:CallF)(Q:Value→Hp→Prop)(b0 f0:Nat)(x1 x2:Int)(b6 f6:Nat)(a10:Option Addr)(n10 c10:Nat)(a75:Option Addr)(n75 c75:Nat)(x76 x77:Int)(h:Hp):Prop:=
 vcond (ltI x77 x76)
 (isNat x77 fun n101=>
 isAddr a75 fun b102 f103=>
 vreq (Nat.blt n101 n75)
 (∃x104,readAt h b102 (f103+(n101*1)) 1=some [.int .i64 x104]∧
 let g105:=h.add (.cells [.int .u8 (wrapF .u8 x104)] 5 .fix)
 ∃a106 n107 c108 h109,appendV Tryz.prog g105 85 85 (.slice a10 n10 c10) (.slice (some ⟨h.nx,0,none⟩) 1 1)=some (.slice a106 n107 c108,h109)∧
 I101_0 O Q b0 f0 x1 x2 b6 f6 a106 n107 c108 a75 n75 c75 x76 (wrapF .i64 (x77+1)) h109))
 (∃l110,bytesV h a10 n10=some l110∧
 vreq (canW h b6 f6 [.int .i64 3,.int .i64 0,.string (ByteArray.mk (List.toArray l110)),.slice none 0 0])
 (let g111:=h.wr b6 f6 [.int .i64 3,.int .i64 0,.string (ByteArray.mk (List.toArray l110)),.slice none 0 0]
 ∃x112 x113 s114 a115 n116 c117,readAt g111 b6 f6 4=some [.int .i64 x112,.int .i64 x113,.string s114,.slice a115 n116 c117]∧
 Q (.tuple #[.agg #[.int .i64 x112,.int .i64 x113,.string s114,.slice a115 n116 c117],.int .i64 0]) g111))
theorem I101_0.of {O Q} (b0 f0 x1 x2 b6 f6 a10 n10 c10 a75 n75 c75 x76 x77){h:Hp}(hh:T101_0 O Q b0 f0 x1 x2 b6 f6 a10 n10 c10 a75 n75 c75 x76 x77 h):I101_0 O Q b0 f0 x1 x2 b6 f6 a10 n10 c10 a75 n75 c75 x76 x77 h:=
 RKL.ofE (tb:=lv101) (cuts:=[]) 500 hh fun _=>by kernel_rfl
noncomputable def b135:Code:=(Tryz.f135.body).getD .skip
noncomputable def stk135_0:List KI:=[.code (sub [1,1,0,1,0] b135),.blk 0,.code (sub [1,1,1] b135)]
noncomputable def stk135_1:List KI:=[.code (sub [1,1,1,0,1,0] b135),.blk 2,.code (sub [1,1,1,1] b135)]
def lv135:List (Nat×List Nat):=[(0,[0,1,3,8,9,10,20,21,22]),(2,[1,8,9,10,47,48])]
def I135_0 (O:CallF)(Q:Value→Hp→Prop)(b0 f0:Nat)(x1:Int)(a2:Option Addr)(n2 c2:Nat)(x3:Int)(b8 f8:Nat)(x9:Int)(b10 f10:Nat)(x22:Int)(h:Hp):Prop:=RKL Tryz.prog O Tryz.f135 stk135_0 81 [0,1,3,8,9,10,20,21,22] [.pointer (some ⟨b0,f0,none⟩),.int .i64 x1,.int .i64 x3,.pointer (some ⟨b8,f8,none⟩),.int .i64 x9,.pointer (some ⟨b10,f10,none⟩),.slice a2 n2 c2,.int .i64 (Int.ofNat n2),.int .i64 x22] h Q
def I135_1 (O:CallF)(Q:Value→Hp→Prop)(b0 f0:Nat)(x1:Int)(a2:Option Addr)(n2 c2:Nat)(x3:Int)(b8 f8:Nat)(x9:Int)(b10 f10:Nat)(x47 x48:Int)(h:Hp):Prop:=RKL Tryz.prog O Tryz.f135 stk135_1 81 [1,8,9,10,47,48] [.int .i64 x1,.pointer (some ⟨b8,f8,none⟩),.int .i64 x9,.pointer (some ⟨b10,f10,none⟩),.int .i64 x47,.int .i64 x48] h Q
def T135 (O:CallF)(Q:Value→Hp→Prop)(b0 f0:Nat)(x1:Int)(a2:Option Addr)(n2 c2:Nat)(x3:Int)(h:Hp):Prop:=
 let g1:=h.add (.cells [.int .i64 0,.int .i64 0,.string (ByteArray.mk #[]),.slice none 0 0] 46 .fix)
 let g2:=g1.add (.cells [.int .i64 0,.int .i64 0,.string (ByteArray.mk #[]),.slice none 0 0] 46 .fix)
 vreq (canW g2 g1.nx 0 [.int .i64 x1,.int .i64 0,.string (ByteArray.mk #[]),.slice none 0 0])
 (let g3:=g2.wr g1.nx 0 [.int .i64 x1,.int .i64 0,.string (ByteArray.mk #[]),.slice none 0 0]
 I135_0 O Q b0 f0 x1 a2 n2 c2 x3 h.nx 0 0 g1.nx 0 0 g3)
theorem rk135 {O Q} (b0 f0 x1 a2 n2 c2 x3){h:Hp}(hO:O 135 [.pointer (some ⟨b0,f0,none⟩),.int .i64 x1,.slice a2 n2 c2,.int .i64 x3] h=none)(hh:T135 O Q b0 f0 x1 a2 n2 c2 x3 h):Ret Tryz.prog O 135 [.pointer (some ⟨b0,f0,none⟩),.int .i64 x1,.slice a2 n2 c2,.int .i64 x3] h Q:=
 .of (c:=b135) Tryz.func135 (by kernel_rfl) hO (V_okE (tb:=lv135) (cuts:=[]) 500 hh (by kernel_rfl))
def T135_0 (O:CallF)(Q:Value→Hp→Prop)(b0 f0:Nat)(x1:Int)(a2:Option Addr)(n2 c2:Nat)(x3:Int)(b8 f8:Nat)(x9:Int)(b10 f10:Nat)(x22:Int)(h:Hp):Prop:=
 vcond (ltI x22 (Int.ofNat n2))
 (isNat x22 fun n101=>
 isAddr a2 fun b102 f103=>
 vreq (Nat.blt n101 n2)
 (∃x104,readAt h b102 (f103+(n101*1)) 1=some [.int .i64 x104]∧
 ∃x105 x106 s107 a108 n109 c110 x111 h112,EvC Tryz.prog O 101 [.pointer (some ⟨b0,f0,none⟩),.int .i64 x104,.int .i64 (wrapF .i64 (x3+1))] h (.tuple #[.agg #[.int .i64 x105,.int .i64 x106,.string s107,.slice a108 n109 c110],.int .i64 x111]) h112∧
 let g113:=h112.add (.cells [.int .i64 0,.int .i64 0,.string (ByteArray.mk #[]),.slice none 0 0] 46 .fix)
 vreq (canW g113 h112.nx 0 [.int .i64 x105,.int .i64 x106,.string s107,.slice a108 n109 c110])
 (let g114:=g113.wr h112.nx 0 [.int .i64 x105,.int .i64 x106,.string s107,.slice a108 n109 c110]
 vcond (!(eqI x111 0))
 (vreq (canW g114 b8 f8 [.int .i64 0,.int .i64 0,.string (ByteArray.mk #[]),.slice none 0 0])
 (let g115:=g114.wr b8 f8 [.int .i64 0,.int .i64 0,.string (ByteArray.mk #[]),.slice none 0 0]
 ∃x116 x117 s118 a119 n120 c121,readAt g115 b8 f8 4=some [.int .i64 x116,.int .i64 x117,.string s118,.slice a119 n120 c121]∧
 Q (.tuple #[.agg #[.int .i64 x116,.int .i64 x117,.string s118,.slice a119 n120 c121],.int .i64 x111]) g115))
 (∃a122 n123 c124,readAt g114 b10 (f10+3) 1=some [.slice a122 n123 c124]∧
 ∃x125 x126 s127 a128 n129 c130,readAt g114 h112.nx 0 4=some [.int .i64 x125,.int .i64 x126,.string s127,.slice a128 n129 c130]∧
 let g131:=g114.add (.cells [.int .i64 x125,.int .i64 x126,.string s127,.slice a128 n129 c130] 46 .fix)
 ∃a132 n133 c134 h135,appendV Tryz.prog g131 44 44 (.slice a122 n123 c124) (.slice (some ⟨g114.nx,0,none⟩) 1 1)=some (.slice a132 n133 c134,h135)∧
 vreq (canW h135 b10 (f10+3) [.slice a132 n133 c134])
 (let g136:=h135.wr b10 (f10+3) [.slice a132 n133 c134]
 I135_0 O Q b0 f0 x1 a2 n2 c2 x3 b8 f8 x9 b10 f10 (wrapF .i64 (x22+1)) g136)))))
 (∃a137 n138 c139,readAt h b10 (f10+3) 1=some [.slice a137 n138 c139]∧
 I135_1 O Q b0 f0 x1 a2 n2 c2 x3 b8 f8 x9 b10 f10 (Int.ofNat n138) 0 h)
theorem I135_0.of {O Q} (b0 f0 x1 a2 n2 c2 x3 b8 f8 x9 b10 f10 x22){h:Hp}(hh:T135_0 O Q b0 f0 x1 a2 n2 c2 x3 b8 f8 x9 b10 f10 x22 h):I135_0 O Q b0 f0 x1 a2 n2 c2 x3 b8 f8 x9 b10 f10 x22 h:=
 RKL.ofE (tb:=lv135) (cuts:=[]) 500 hh fun _=>by kernel_rfl
def T135_1 (O:CallF)(Q:Value→Hp→Prop)(b0 f0:Nat)(x1:Int)(a2:Option Addr)(n2 c2:Nat)(x3:Int)(b8 f8:Nat)(x9:Int)(b10 f10:Nat)(x47 x48:Int)(h:Hp):Prop:=
 vcond (ltI x48 x47)
 (vcond (eqI x1 4)
 (I135_1 O Q b0 f0 x1 a2 n2 c2 x3 b8 f8 x9 b10 f10 x47 (wrapF .i64 (x48+1)) h)
 (vcond (eqI x48 0)
 (I135_1 O Q b0 f0 x1 a2 n2 c2 x3 b8 f8 x9 b10 f10 x47 (wrapF .i64 (x48+1)) h)
 (let g201:=h.rsv 17
 ∃a202 n203 c204,readAt g201 b10 (f10+3) 1=some [.slice a202 n203 c204]∧
 isNat (wrapF .i64 (x48-1)) fun n205=>
 isAddr a202 fun b206 f207=>
 vreq (Nat.blt n205 n203)
 (∃x208 x209 s210 a211 n212 c213,readAt g201 b206 (f207+(n205*4)) 4=some [.int .i64 x208,.int .i64 x209,.string s210,.slice a211 n212 c213]∧
 ∃a214 n215 c216,readAt g201 b10 (f10+3) 1=some [.slice a214 n215 c216]∧
 isNat x48 fun n217=>
 isAddr a214 fun b218 f219=>
 vreq (Nat.blt n217 n215)
 (∃x220 x221 s222 a223 n224 c225,readAt g201 b218 (f219+(n217*4)) 4=some [.int .i64 x220,.int .i64 x221,.string s222,.slice a223 n224 c225]∧
 ∃x226 x227 h228,EvC Tryz.prog O 148 [.agg #[.int .i64 x208,.int .i64 x209,.string s210,.slice a211 n212 c213],.agg #[.int .i64 x220,.int .i64 x221,.string s222,.slice a223 n224 c225]] (g201.grd []) (.tuple #[.int .i64 x226,.int .i64 x227]) h228∧
 let g229:=h228.rst g201
 vcond (!(eqI x227 0))
 (vreq (canW g229 b8 f8 [.int .i64 0,.int .i64 0,.string (ByteArray.mk #[]),.slice none 0 0])
 (let g230:=g229.wr b8 f8 [.int .i64 0,.int .i64 0,.string (ByteArray.mk #[]),.slice none 0 0]
 ∃x231 x232 s233 a234 n235 c236,readAt g230 b8 f8 4=some [.int .i64 x231,.int .i64 x232,.string s233,.slice a234 n235 c236]∧
 Q (.tuple #[.agg #[.int .i64 x231,.int .i64 x232,.string s233,.slice a234 n235 c236],.int .i64 7]) g230))
 (vcond (!(ltI x226 0))
 (vreq (canW g229 b8 f8 [.int .i64 0,.int .i64 0,.string (ByteArray.mk #[]),.slice none 0 0])
 (let g237:=g229.wr b8 f8 [.int .i64 0,.int .i64 0,.string (ByteArray.mk #[]),.slice none 0 0]
 ∃x238 x239 s240 a241 n242 c243,readAt g237 b8 f8 4=some [.int .i64 x238,.int .i64 x239,.string s240,.slice a241 n242 c243]∧
 Q (.tuple #[.agg #[.int .i64 x238,.int .i64 x239,.string s240,.slice a241 n242 c243],.int .i64 7]) g237))
 (I135_1 O Q b0 f0 x1 a2 n2 c2 x3 b8 f8 x9 b10 f10 x47 (wrapF .i64 (x48+1)) g229)))))))
 (∃x244 x245 s246 a247 n248 c249,readAt h b10 f10 4=some [.int .i64 x244,.int .i64 x245,.string s246,.slice a247 n248 c249]∧
 vreq (canW h b8 f8 [.int .i64 x244,.int .i64 x245,.string s246,.slice a247 n248 c249])
 (let g250:=h.wr b8 f8 [.int .i64 x244,.int .i64 x245,.string s246,.slice a247 n248 c249]
 ∃x251 x252 s253 a254 n255 c256,readAt g250 b8 f8 4=some [.int .i64 x251,.int .i64 x252,.string s253,.slice a254 n255 c256]∧
 Q (.tuple #[.agg #[.int .i64 x251,.int .i64 x252,.string s253,.slice a254 n255 c256],.int .i64 0]) g250))
theorem I135_1.of {O Q} (b0 f0 x1 a2 n2 c2 x3 b8 f8 x9 b10 f10 x47 x48){h:Hp}(hh:T135_1 O Q b0 f0 x1 a2 n2 c2 x3 b8 f8 x9 b10 f10 x47 x48 h):I135_1 O Q b0 f0 x1 a2 n2 c2 x3 b8 f8 x9 b10 f10 x47 x48 h:=
 RKL.ofE (tb:=lv135) (cuts:=[]) 500 hh fun _=>by kernel_rfl
noncomputable def b33:Code:=(Tryz.f33.body).getD .skip
def lv33:List (Nat×List Nat):=[]
def T33 (O:CallF)(Q:Value→Hp→Prop)(a0_0:Option Addr)(n0_0 c0_0:Nat)(x0_1:Int)(a0_2:Option Addr)(n0_2 c0_2:Nat)(x1:Int)(h:Hp):Prop:=
 let g1:=h.add (.cells [.slice a0_0 n0_0 c0_0,.int .i64 x0_1,.slice a0_2 n0_2 c0_2] 24 .fix)
 let g2:=g1.add (.cells [.int .i64 0,.int .i64 0,.string (ByteArray.mk #[]),.slice none 0 0] 46 .fix)
 ∃a3 n4 c5 x6 a7 n8 c9,readAt g2 h.nx 0 3=some [.slice a3 n4 c5,.int .i64 x6,.slice a7 n8 c9]∧
 ∃a10 n11 c12 x13 h14,EvC Tryz.prog O 65 [.agg #[.slice a3 n4 c5,.int .i64 x6,.slice a7 n8 c9]] g2 (.tuple #[.slice a10 n11 c12,.int .i64 x13]) h14∧
 vcond (eqI x13 0)
 (∃q15 h16,EvC Tryz.prog O 100 [.slice a10 n11 c12,.int .i64 x1] h14 (.bool q15) h16∧
 vcond (!q15)
 (vreq (canW h16 g1.nx 0 [.int .i64 0,.int .i64 0,.string (ByteArray.mk #[]),.slice none 0 0])
 (let g17:=h16.wr g1.nx 0 [.int .i64 0,.int .i64 0,.string (ByteArray.mk #[]),.slice none 0 0]
 ∃x18 x19 s20 a21 n22 c23,readAt g17 g1.nx 0 4=some [.int .i64 x18,.int .i64 x19,.string s20,.slice a21 n22 c23]∧
 Q (.tuple #[.agg #[.int .i64 x18,.int .i64 x19,.string s20,.slice a21 n22 c23],.int .i64 2]) g17))
 (vcond (!(eqI x13 0))
 (vreq (canW h16 g1.nx 0 [.int .i64 0,.int .i64 0,.string (ByteArray.mk #[]),.slice none 0 0])
 (let g24:=h16.wr g1.nx 0 [.int .i64 0,.int .i64 0,.string (ByteArray.mk #[]),.slice none 0 0]
 ∃x25 x26 s27 a28 n29 c30,readAt g24 g1.nx 0 4=some [.int .i64 x25,.int .i64 x26,.string s27,.slice a28 n29 c30]∧
 Q (.tuple #[.agg #[.int .i64 x25,.int .i64 x26,.string s27,.slice a28 n29 c30],.int .i64 x13]) g24))
 (∃a31 n32 c33 x34 a35 n36 c37,readAt h16 h.nx 0 3=some [.slice a31 n32 c33,.int .i64 x34,.slice a35 n36 c37]∧
 let g38:=h16.add (.cells [.slice a31 n32 c33,.int .i64 x34,.slice a35 n36 c37,.int .i64 200] 141 .fix)
 ∃x39 x40 s41 a42 n43 c44 x45 h46,EvC Tryz.prog O 101 [.pointer (some ⟨h16.nx,0,none⟩),.int .i64 x1,.int .i64 1] g38 (.tuple #[.agg #[.int .i64 x39,.int .i64 x40,.string s41,.slice a42 n43 c44],.int .i64 x45]) h46∧
 vreq (canW h46 g1.nx 0 [.int .i64 x39,.int .i64 x40,.string s41,.slice a42 n43 c44])
 (let g47:=h46.wr g1.nx 0 [.int .i64 x39,.int .i64 x40,.string s41,.slice a42 n43 c44]
 ∃x48 x49 s50 a51 n52 c53,readAt g47 g1.nx 0 4=some [.int .i64 x48,.int .i64 x49,.string s50,.slice a51 n52 c53]∧
 Q (.tuple #[.agg #[.int .i64 x48,.int .i64 x49,.string s50,.slice a51 n52 c53],.int .i64 x45]) g47))))
 (vcond (!(eqI x13 0))
 (vreq (canW h14 g1.nx 0 [.int .i64 0,.int .i64 0,.string (ByteArray.mk #[]),.slice none 0 0])
 (let g54:=h14.wr g1.nx 0 [.int .i64 0,.int .i64 0,.string (ByteArray.mk #[]),.slice none 0 0]
 ∃x55 x56 s57 a58 n59 c60,readAt g54 g1.nx 0 4=some [.int .i64 x55,.int .i64 x56,.string s57,.slice a58 n59 c60]∧
 Q (.tuple #[.agg #[.int .i64 x55,.int .i64 x56,.string s57,.slice a58 n59 c60],.int .i64 x13]) g54))
 (∃a61 n62 c63 x64 a65 n66 c67,readAt h14 h.nx 0 3=some [.slice a61 n62 c63,.int .i64 x64,.slice a65 n66 c67]∧
 let g68:=h14.add (.cells [.slice a61 n62 c63,.int .i64 x64,.slice a65 n66 c67,.int .i64 200] 141 .fix)
 ∃x69 x70 s71 a72 n73 c74 x75 h76,EvC Tryz.prog O 101 [.pointer (some ⟨h14.nx,0,none⟩),.int .i64 x1,.int .i64 1] g68 (.tuple #[.agg #[.int .i64 x69,.int .i64 x70,.string s71,.slice a72 n73 c74],.int .i64 x75]) h76∧
 vreq (canW h76 g1.nx 0 [.int .i64 x69,.int .i64 x70,.string s71,.slice a72 n73 c74])
 (let g77:=h76.wr g1.nx 0 [.int .i64 x69,.int .i64 x70,.string s71,.slice a72 n73 c74]
 ∃x78 x79 s80 a81 n82 c83,readAt g77 g1.nx 0 4=some [.int .i64 x78,.int .i64 x79,.string s80,.slice a81 n82 c83]∧
 Q (.tuple #[.agg #[.int .i64 x78,.int .i64 x79,.string s80,.slice a81 n82 c83],.int .i64 x75]) g77)))
theorem rk33 {O Q} (a0_0 n0_0 c0_0 x0_1 a0_2 n0_2 c0_2 x1){h:Hp}(hO:O 33 [.agg #[.slice a0_0 n0_0 c0_0,.int .i64 x0_1,.slice a0_2 n0_2 c0_2],.int .i64 x1] h=none)(hh:T33 O Q a0_0 n0_0 c0_0 x0_1 a0_2 n0_2 c0_2 x1 h):Ret Tryz.prog O 33 [.agg #[.slice a0_0 n0_0 c0_0,.int .i64 x0_1,.slice a0_2 n0_2 c0_2],.int .i64 x1] h Q:=
 .of (c:=b33) Tryz.func33 (by kernel_rfl) hO (V_okE (tb:=lv33) (cuts:=[]) 500 hh (by kernel_rfl))
noncomputable def b97:Code:=(Tryz.f97.body).getD .skip
noncomputable def stk97_0:List KI:=[.code (sub [1,1,1,1,0,1,0] b97),.blk 0,.code (sub [1,1,1,1,1] b97)]
def lv97:List (Nat×List Nat):=[(0,[1,2,3,4])]
def I97_0 (O:CallF)(Q:Value→Hp→Prop)(x0_0 x0_1:Int)(s0_2:ByteArray)(a0_3:Option Addr)(n0_3 c0_3 b1 f1:Nat)(x3 x4:Int)(h:Hp):Prop:=RKL Tryz.prog O Tryz.f97 stk97_0 35 [1,2,3,4] [.pointer (some ⟨b1,f1,none⟩),.int .i64 0,.int .i64 x3,.int .i64 x4] h Q
def T97 (O:CallF)(Q:Value→Hp→Prop)(x0_0 x0_1:Int)(s0_2:ByteArray)(a0_3:Option Addr)(n0_3 c0_3:Nat)(h:Hp):Prop:=
 let g1:=h.add (.cells [.int .i64 x0_0,.int .i64 x0_1,.string s0_2,.slice a0_3 n0_3 c0_3] 46 .fix)
 ∃x2,readAt g1 h.nx 0 1=some [.int .i64 x2]∧
 vcond (eqI x2 1)
 (Q (.int .i64 0) g1)
 (∃x3,readAt g1 h.nx 0 1=some [.int .i64 x3]∧
 vcond (eqI x3 2)
 (Q (.int .i64 2) g1)
 (∃s4,readAt g1 h.nx 2 1=some [.string s4]∧
 ∃a5 n6 c7,readAt g1 h.nx 3 1=some [.slice a5 n6 c7]∧
 I97_0 O Q x0_0 x0_1 s0_2 a0_3 n0_3 c0_3 h.nx 0 (wrapF .i64 ((wrapF .i64 (1+(Int.ofNat (ByteArray.size s4))))+(Int.ofNat n6))) 0 g1))
theorem rk97 {O Q} (x0_0 x0_1 s0_2 a0_3 n0_3 c0_3){h:Hp}(hO:O 97 [.agg #[.int .i64 x0_0,.int .i64 x0_1,.string s0_2,.slice a0_3 n0_3 c0_3]] h=none)(hh:T97 O Q x0_0 x0_1 s0_2 a0_3 n0_3 c0_3 h):Ret Tryz.prog O 97 [.agg #[.int .i64 x0_0,.int .i64 x0_1,.string s0_2,.slice a0_3 n0_3 c0_3]] h Q:=
 .of (c:=b97) Tryz.func97 (by kernel_rfl) hO (V_okE (tb:=lv97) (cuts:=[]) 500 hh (by kernel_rfl))
def T97_0 (O:CallF)(Q:Value→Hp→Prop)(x0_0 x0_1:Int)(s0_2:ByteArray)(a0_3:Option Addr)(n0_3 c0_3 b1 f1:Nat)(x3 x4:Int)(h:Hp):Prop:=
 ∃a101 n102 c103,readAt h b1 (f1+3) 1=some [.slice a101 n102 c103]∧
 vcond (ltI x4 (Int.ofNat n102))
 (∃a104 n105 c106,readAt h b1 (f1+3) 1=some [.slice a104 n105 c106]∧
 isNat x4 fun n107=>
 isAddr a104 fun b108 f109=>
 vreq (Nat.blt n107 n105)
 (∃x110 x111 s112 a113 n114 c115,readAt h b108 (f109+(n107*4)) 4=some [.int .i64 x110,.int .i64 x111,.string s112,.slice a113 n114 c115]∧
 ∃x116 h117,EvC Tryz.prog O 97 [.agg #[.int .i64 x110,.int .i64 x111,.string s112,.slice a113 n114 c115]] h (.int .i64 x116) h117∧
 I97_0 O Q x0_0 x0_1 s0_2 a0_3 n0_3 c0_3 b1 f1 (wrapF .i64 (x3+x116)) (wrapF .i64 (x4+1)) h117))
 (Q (.int .i64 x3) h)
theorem I97_0.of {O Q} (x0_0 x0_1 s0_2 a0_3 n0_3 c0_3 b1 f1 x3 x4){h:Hp}(hh:T97_0 O Q x0_0 x0_1 s0_2 a0_3 n0_3 c0_3 b1 f1 x3 x4 h):I97_0 O Q x0_0 x0_1 s0_2 a0_3 n0_3 c0_3 b1 f1 x3 x4 h:=
 RKL.ofE (tb:=lv97) (cuts:=[]) 500 hh fun _=>by kernel_rfl
noncomputable def b98:Code:=(Tryz.f98.body).getD .skip
noncomputable def stk98_0:List KI:=[.code (sub [1,0,1,0] b98),.blk 0,.code (sub [1,1] b98)]
def lv98:List (Nat×List Nat):=[(0,[1,2,3])]
def I98_0 (O:CallF)(Q:Value→Hp→Prop)(x0_0 x0_1:Int)(s0_2:ByteArray)(a0_3:Option Addr)(n0_3 c0_3 b1 f1:Nat)(q2:Bool)(x3:Int)(h:Hp):Prop:=RKL Tryz.prog O Tryz.f98 stk98_0 21 [1,2,3] [.pointer (some ⟨b1,f1,none⟩),.bool q2,.int .i64 x3] h Q
def T98 (O:CallF)(Q:Value→Hp→Prop)(x0_0 x0_1:Int)(s0_2:ByteArray)(a0_3:Option Addr)(n0_3 c0_3:Nat)(h:Hp):Prop:=
 let g1:=h.add (.cells [.int .i64 x0_0,.int .i64 x0_1,.string s0_2,.slice a0_3 n0_3 c0_3] 46 .fix)
 I98_0 O Q x0_0 x0_1 s0_2 a0_3 n0_3 c0_3 h.nx 0 false 0 g1
theorem rk98 {O Q} (x0_0 x0_1 s0_2 a0_3 n0_3 c0_3){h:Hp}(hO:O 98 [.agg #[.int .i64 x0_0,.int .i64 x0_1,.string s0_2,.slice a0_3 n0_3 c0_3]] h=none)(hh:T98 O Q x0_0 x0_1 s0_2 a0_3 n0_3 c0_3 h):Ret Tryz.prog O 98 [.agg #[.int .i64 x0_0,.int .i64 x0_1,.string s0_2,.slice a0_3 n0_3 c0_3]] h Q:=
 .of (c:=b98) Tryz.func98 (by kernel_rfl) hO (V_okE (tb:=lv98) (cuts:=[]) 500 hh (by kernel_rfl))
def T98_0 (O:CallF)(Q:Value→Hp→Prop)(x0_0 x0_1:Int)(s0_2:ByteArray)(a0_3:Option Addr)(n0_3 c0_3 b1 f1:Nat)(q2:Bool)(x3:Int)(h:Hp):Prop:=
 ∃a101 n102 c103,readAt h b1 (f1+3) 1=some [.slice a101 n102 c103]∧
 vcond (ltI x3 (Int.ofNat n102))
 (∃a104 n105 c106,readAt h b1 (f1+3) 1=some [.slice a104 n105 c106]∧
 isNat x3 fun n107=>
 isAddr a104 fun b108 f109=>
 vreq (Nat.blt n107 n105)
 (∃x110 x111 s112 a113 n114 c115,readAt h b108 (f109+(n107*4)) 4=some [.int .i64 x110,.int .i64 x111,.string s112,.slice a113 n114 c115]∧
 ∃q116 h117,EvC Tryz.prog O 98 [.agg #[.int .i64 x110,.int .i64 x111,.string s112,.slice a113 n114 c115]] h (.bool q116) h117∧
 vcond q116
 (Q (.bool true) h117)
 (I98_0 O Q x0_0 x0_1 s0_2 a0_3 n0_3 c0_3 b1 f1 q2 (wrapF .i64 (x3+1)) h117)))
 (∃a118 n119 c120,readAt h b1 (f1+3) 1=some [.slice a118 n119 c120]∧
 Q (.bool (ltI 20 (Int.ofNat n119))) h)
theorem I98_0.of {O Q} (x0_0 x0_1 s0_2 a0_3 n0_3 c0_3 b1 f1 q2 x3){h:Hp}(hh:T98_0 O Q x0_0 x0_1 s0_2 a0_3 n0_3 c0_3 b1 f1 q2 x3 h):I98_0 O Q x0_0 x0_1 s0_2 a0_3 n0_3 c0_3 b1 f1 q2 x3 h:=
 RKL.ofE (tb:=lv98) (cuts:=[]) 500 hh fun _=>by kernel_rfl
noncomputable def b99:Code:=(Tryz.f99.body).getD .skip
noncomputable def stk99_0:List KI:=[.code (sub [1,1,1,0,1,0] b99),.blk 1,.code (sub [1,1,1,1] b99)]
noncomputable def stk99_1:List KI:=[.code (sub [1,1,1,1,0,1,0] b99),.blk 3,.code (sub [1,1,1,1,1] b99)]
noncomputable def stk99_2:List KI:=[.code (sub [1,1,1,1,1,1,1,1,0] b99),.code (sub [1,1,1,1,1,1,1,1,1] b99)]
def lv99:List (Nat×List Nat):=[(1,[2,3,4,5,6,7]),(3,[2,3,4,5,6,8]),(1000022,[2,4,5,6,11])]
def I99_0 (O:CallF)(Q:Value→Hp→Prop)(a0_0:Option Addr)(n0_0 c0_0:Nat)(x0_1:Int)(a0_2:Option Addr)(n0_2 c0_2:Nat)(x1_0 x1_1:Int)(s1_2:ByteArray)(a1_3:Option Addr)(n1_3 c1_3 b2 f2 b3 f3 b4 f4:Nat)(a6:Option Addr)(n6 c6:Nat)(x7:Int)(h:Hp):Prop:=RKL Tryz.prog O Tryz.f99 stk99_0 79 [2,3,4,5,6,7] [.pointer (some ⟨b2,f2,none⟩),.pointer (some ⟨b3,f3,none⟩),.pointer (some ⟨b4,f4,none⟩),.int .i64 0,.slice a6 n6 c6,.int .i64 x7] h Q
def I99_1 (O:CallF)(Q:Value→Hp→Prop)(a0_0:Option Addr)(n0_0 c0_0:Nat)(x0_1:Int)(a0_2:Option Addr)(n0_2 c0_2:Nat)(x1_0 x1_1:Int)(s1_2:ByteArray)(a1_3:Option Addr)(n1_3 c1_3 b2 f2 b3 f3 b4 f4:Nat)(a6:Option Addr)(n6 c6:Nat)(x8:Int)(h:Hp):Prop:=RKL Tryz.prog O Tryz.f99 stk99_1 79 [2,3,4,5,6,8] [.pointer (some ⟨b2,f2,none⟩),.pointer (some ⟨b3,f3,none⟩),.pointer (some ⟨b4,f4,none⟩),.int .i64 0,.slice a6 n6 c6,.int .i64 x8] h Q
def I99_2 (O:CallF)(Q:Value→Hp→Prop)(a0_0:Option Addr)(n0_0 c0_0:Nat)(x0_1:Int)(a0_2:Option Addr)(n0_2 c0_2:Nat)(x1_0 x1_1:Int)(s1_2:ByteArray)(a1_3:Option Addr)(n1_3 c1_3 b2 f2 b4 f4:Nat)(x5:Int)(a6:Option Addr)(n6 c6:Nat)(x11:Int)(h:Hp):Prop:=RKL Tryz.prog O Tryz.f99 stk99_2 79 [2,4,5,6,11] [.pointer (some ⟨b2,f2,none⟩),.pointer (some ⟨b4,f4,none⟩),.int .i64 x5,.slice a6 n6 c6,.int .i64 x11] h Q
def T99 (O:CallF)(Q:Value→Hp→Prop)(a0_0:Option Addr)(n0_0 c0_0:Nat)(x0_1:Int)(a0_2:Option Addr)(n0_2 c0_2:Nat)(x1_0 x1_1:Int)(s1_2:ByteArray)(a1_3:Option Addr)(n1_3 c1_3:Nat)(h:Hp):Prop:=
 let g1:=h.add (.cells [.slice a0_0 n0_0 c0_0,.int .i64 x0_1,.slice a0_2 n0_2 c0_2] 24 .fix)
 let g2:=g1.add (.cells [.int .i64 x1_0,.int .i64 x1_1,.string s1_2,.slice a1_3 n1_3 c1_3] 46 .fix)
 let g3:=g2.add (.cells [.slice none 0 0,.int .i64 0,.slice none 0 0] 24 .fix)
 ∃x4,readAt g3 g1.nx 0 1=some [.int .i64 x4]∧
 vcond (eqI x4 1)
 (let g5:=g3.rsv 7
 ∃a6 n7 c8 x9 a10 n11 c12,readAt g5 h.nx 0 3=some [.slice a6 n7 c8,.int .i64 x9,.slice a10 n11 c12]∧
 ∃x13,readAt g5 g1.nx 1 1=some [.int .i64 x13]∧
 vreq (canW (g5.grd [g1.nx]) g2.nx 0 [.slice a6 n7 c8,.int .i64 x9,.slice a10 n11 c12])
 (let g14:=(g5.grd [g1.nx]).wr g2.nx 0 [.slice a6 n7 c8,.int .i64 x9,.slice a10 n11 c12]
 let g15:=g14.rst g5
 ∃a16 n17 c18 x19 a20 n21 c22,readAt g15 g2.nx 0 3=some [.slice a16 n17 c18,.int .i64 x19,.slice a20 n21 c22]∧
 Q (.tuple #[.agg #[.slice a16 n17 c18,.int .i64 x19,.slice a20 n21 c22],(.int .i64 (wrapF .i64 ((wrapF .i64 (2*x13))+1)))]) g15))
 (vcond (eqI x4 2)
 (∃a23 n24 c25 x26 a27 n28 c29,readAt g3 h.nx 0 3=some [.slice a23 n24 c25,.int .i64 x26,.slice a27 n28 c29]∧
 ∃x30,readAt g3 g1.nx 1 1=some [.int .i64 x30]∧
 let g31:=g3.add (.cells [.int .i64 x30] 3 .fix)
 ∃a32 n33 c34 x35 a36 n37 c38 x39 h40,EvC Tryz.prog O 84 [.agg #[.slice a23 n24 c25,.int .i64 x26,.slice a27 n28 c29],.int .i64 4,.slice (some ⟨g3.nx,0,none⟩) 1 1] g31 (.tuple #[.agg #[.slice a32 n33 c34,.int .i64 x35,.slice a36 n37 c38],.int .i64 x39]) h40∧
 vreq (canW h40 g2.nx 0 [.slice a32 n33 c34,.int .i64 x35,.slice a36 n37 c38])
 (let g41:=h40.wr g2.nx 0 [.slice a32 n33 c34,.int .i64 x35,.slice a36 n37 c38]
 ∃a42 n43 c44 x45 a46 n47 c48,readAt g41 g2.nx 0 3=some [.slice a42 n43 c44,.int .i64 x45,.slice a46 n47 c48]∧
 Q (.tuple #[.agg #[.slice a42 n43 c44,.int .i64 x45,.slice a46 n47 c48],.int .i64 x39]) g41))
 (I99_0 O Q a0_0 n0_0 c0_0 x0_1 a0_2 n0_2 c0_2 x1_0 x1_1 s1_2 a1_3 n1_3 c1_3 h.nx 0 g1.nx 0 g2.nx 0 none 0 0 0 g3))
theorem rk99 {O Q} (a0_0 n0_0 c0_0 x0_1 a0_2 n0_2 c0_2 x1_0 x1_1 s1_2 a1_3 n1_3 c1_3){h:Hp}(hO:O 99 [.agg #[.slice a0_0 n0_0 c0_0,.int .i64 x0_1,.slice a0_2 n0_2 c0_2],.agg #[.int .i64 x1_0,.int .i64 x1_1,.string s1_2,.slice a1_3 n1_3 c1_3]] h=none)(hh:T99 O Q a0_0 n0_0 c0_0 x0_1 a0_2 n0_2 c0_2 x1_0 x1_1 s1_2 a1_3 n1_3 c1_3 h):Ret Tryz.prog O 99 [.agg #[.slice a0_0 n0_0 c0_0,.int .i64 x0_1,.slice a0_2 n0_2 c0_2],.agg #[.int .i64 x1_0,.int .i64 x1_1,.string s1_2,.slice a1_3 n1_3 c1_3]] h Q:=
 .of (c:=b99) Tryz.func99 (by kernel_rfl) hO (V_okE (tb:=lv99) (cuts:=[22]) 500 hh (by kernel_rfl))
def T99_0 (O:CallF)(Q:Value→Hp→Prop)(a0_0:Option Addr)(n0_0 c0_0:Nat)(x0_1:Int)(a0_2:Option Addr)(n0_2 c0_2:Nat)(x1_0 x1_1:Int)(s1_2:ByteArray)(a1_3:Option Addr)(n1_3 c1_3 b2 f2 b3 f3 b4 f4:Nat)(a6:Option Addr)(n6 c6:Nat)(x7:Int)(h:Hp):Prop:=
 ∃s101,readAt h b3 (f3+2) 1=some [.string s101]∧
 vcond (ltI x7 (Int.ofNat (ByteArray.size s101)))
 (∃s102,readAt h b3 (f3+2) 1=some [.string s102]∧
 isNat x7 fun n103=>
 vreq (Nat.blt n103 (ByteArray.size s102))
 (let g104:=h.add (.cells [.int .i64 (wrapF .i64 (byteI s102 n103))] 3 .fix)
 ∃a105 n106 c107 h108,appendV Tryz.prog g104 22 22 (.slice a6 n6 c6) (.slice (some ⟨h.nx,0,none⟩) 1 1)=some (.slice a105 n106 c107,h108)∧
 I99_0 O Q a0_0 n0_0 c0_0 x0_1 a0_2 n0_2 c0_2 x1_0 x1_1 s1_2 a1_3 n1_3 c1_3 b2 f2 b3 f3 b4 f4 a105 n106 c107 (wrapF .i64 (x7+1)) h108))
 (I99_1 O Q a0_0 n0_0 c0_0 x0_1 a0_2 n0_2 c0_2 x1_0 x1_1 s1_2 a1_3 n1_3 c1_3 b2 f2 b3 f3 b4 f4 a6 n6 c6 0 h)
theorem I99_0.of {O Q} (a0_0 n0_0 c0_0 x0_1 a0_2 n0_2 c0_2 x1_0 x1_1 s1_2 a1_3 n1_3 c1_3 b2 f2 b3 f3 b4 f4 a6 n6 c6 x7){h:Hp}(hh:T99_0 O Q a0_0 n0_0 c0_0 x0_1 a0_2 n0_2 c0_2 x1_0 x1_1 s1_2 a1_3 n1_3 c1_3 b2 f2 b3 f3 b4 f4 a6 n6 c6 x7 h):I99_0 O Q a0_0 n0_0 c0_0 x0_1 a0_2 n0_2 c0_2 x1_0 x1_1 s1_2 a1_3 n1_3 c1_3 b2 f2 b3 f3 b4 f4 a6 n6 c6 x7 h:=
 RKL.ofE (tb:=lv99) (cuts:=[22]) 500 hh fun _=>by kernel_rfl
def T99_1 (O:CallF)(Q:Value→Hp→Prop)(a0_0:Option Addr)(n0_0 c0_0:Nat)(x0_1:Int)(a0_2:Option Addr)(n0_2 c0_2:Nat)(x1_0 x1_1:Int)(s1_2:ByteArray)(a1_3:Option Addr)(n1_3 c1_3 b2 f2 b3 f3 b4 f4:Nat)(a6:Option Addr)(n6 c6:Nat)(x8:Int)(h:Hp):Prop:=
 ∃a201 n202 c203,readAt h b3 (f3+3) 1=some [.slice a201 n202 c203]∧
 vcond (ltI x8 (Int.ofNat n202))
 (let g204:=h.rsv 13
 ∃a205 n206 c207 x208 a209 n210 c211,readAt g204 b2 f2 3=some [.slice a205 n206 c207,.int .i64 x208,.slice a209 n210 c211]∧
 ∃a212 n213 c214,readAt g204 b3 (f3+3) 1=some [.slice a212 n213 c214]∧
 isNat x8 fun n215=>
 isAddr a212 fun b216 f217=>
 vreq (Nat.blt n215 n213)
 (∃x218 x219 s220 a221 n222 c223,readAt g204 b216 (f217+(n215*4)) 4=some [.int .i64 x218,.int .i64 x219,.string s220,.slice a221 n222 c223]∧
 ∃a224 n225 c226 x227 a228 n229 c230 x231 h232,EvC Tryz.prog O 99 [.agg #[.slice a205 n206 c207,.int .i64 x208,.slice a209 n210 c211],.agg #[.int .i64 x218,.int .i64 x219,.string s220,.slice a221 n222 c223]] (g204.grd []) (.tuple #[.agg #[.slice a224 n225 c226,.int .i64 x227,.slice a228 n229 c230],.int .i64 x231]) h232∧
 let g233:=h232.rst g204
 vreq (g233.free (h.nx+10))
 (let g234:=g233.lay (h.nx+10) (.cells [.slice none 0 0,.int .i64 0,.slice none 0 0] 24 .fix)
 vreq (canW (g234.grd []) (h.nx+10) 0 [.slice a224 n225 c226,.int .i64 x227,.slice a228 n229 c230])
 (let g235:=(g234.grd []).wr (h.nx+10) 0 [.slice a224 n225 c226,.int .i64 x227,.slice a228 n229 c230]
 let g236:=g235.rst g234
 ∃a237 n238 c239 x240 a241 n242 c243,readAt g236 (h.nx+10) 0 3=some [.slice a237 n238 c239,.int .i64 x240,.slice a241 n242 c243]∧
 vreq (canW g236 b2 f2 [.slice a237 n238 c239,.int .i64 x240,.slice a241 n242 c243])
 (let g244:=g236.wr b2 f2 [.slice a237 n238 c239,.int .i64 x240,.slice a241 n242 c243]
 let g245:=g244.add (.cells [.int .i64 x231] 3 .fix)
 ∃a246 n247 c248 h249,appendV Tryz.prog g245 22 22 (.slice a6 n6 c6) (.slice (some ⟨g244.nx,0,none⟩) 1 1)=some (.slice a246 n247 c248,h249)∧
 I99_1 O Q a0_0 n0_0 c0_0 x0_1 a0_2 n0_2 c0_2 x1_0 x1_1 s1_2 a1_3 n1_3 c1_3 b2 f2 b3 f3 b4 f4 a246 n247 c248 (wrapF .i64 (x8+1)) h249)))))
 (∃x250,readAt h b3 (f3+0) 1=some [.int .i64 x250]∧
 vcond (eqI x250 4)
 (∃x251,readAt h b3 (f3+0) 1=some [.int .i64 x251]∧
 vcond (eqI x251 5)
 (I99_2 O Q a0_0 n0_0 c0_0 x0_1 a0_2 n0_2 c0_2 x1_0 x1_1 s1_2 a1_3 n1_3 c1_3 b2 f2 b4 f4 0 a6 n6 c6 2 h)
 (I99_2 O Q a0_0 n0_0 c0_0 x0_1 a0_2 n0_2 c0_2 x1_0 x1_1 s1_2 a1_3 n1_3 c1_3 b2 f2 b4 f4 0 a6 n6 c6 1 h))
 (∃x252,readAt h b3 (f3+0) 1=some [.int .i64 x252]∧
 vcond (eqI x252 5)
 (I99_2 O Q a0_0 n0_0 c0_0 x0_1 a0_2 n0_2 c0_2 x1_0 x1_1 s1_2 a1_3 n1_3 c1_3 b2 f2 b4 f4 0 a6 n6 c6 2 h)
 (I99_2 O Q a0_0 n0_0 c0_0 x0_1 a0_2 n0_2 c0_2 x1_0 x1_1 s1_2 a1_3 n1_3 c1_3 b2 f2 b4 f4 0 a6 n6 c6 3 h)))
theorem I99_1.of {O Q} (a0_0 n0_0 c0_0 x0_1 a0_2 n0_2 c0_2 x1_0 x1_1 s1_2 a1_3 n1_3 c1_3 b2 f2 b3 f3 b4 f4 a6 n6 c6 x8){h:Hp}(hh:T99_1 O Q a0_0 n0_0 c0_0 x0_1 a0_2 n0_2 c0_2 x1_0 x1_1 s1_2 a1_3 n1_3 c1_3 b2 f2 b3 f3 b4 f4 a6 n6 c6 x8 h):I99_1 O Q a0_0 n0_0 c0_0 x0_1 a0_2 n0_2 c0_2 x1_0 x1_1 s1_2 a1_3 n1_3 c1_3 b2 f2 b3 f3 b4 f4 a6 n6 c6 x8 h:=
 RKL.ofE (tb:=lv99) (cuts:=[22]) 500 hh fun _=>by kernel_rfl
def T99_2 (O:CallF)(Q:Value→Hp→Prop)(a0_0:Option Addr)(n0_0 c0_0:Nat)(x0_1:Int)(a0_2:Option Addr)(n0_2 c0_2:Nat)(x1_0 x1_1:Int)(s1_2:ByteArray)(a1_3:Option Addr)(n1_3 c1_3 b2 f2 b4 f4:Nat)(x5:Int)(a6:Option Addr)(n6 c6:Nat)(x11:Int)(h:Hp):Prop:=
 ∃a301 n302 c303 x304 a305 n306 c307,readAt h b2 f2 3=some [.slice a301 n302 c303,.int .i64 x304,.slice a305 n306 c307]∧
 ∃a308 n309 c310 x311 a312 n313 c314 x315 h316,EvC Tryz.prog O 84 [.agg #[.slice a301 n302 c303,.int .i64 x304,.slice a305 n306 c307],.int .i64 x11,.slice a6 n6 c6] h (.tuple #[.agg #[.slice a308 n309 c310,.int .i64 x311,.slice a312 n313 c314],.int .i64 x315]) h316∧
 vreq (canW h316 b4 f4 [.slice a308 n309 c310,.int .i64 x311,.slice a312 n313 c314])
 (let g317:=h316.wr b4 f4 [.slice a308 n309 c310,.int .i64 x311,.slice a312 n313 c314]
 ∃a318 n319 c320 x321 a322 n323 c324,readAt g317 b4 f4 3=some [.slice a318 n319 c320,.int .i64 x321,.slice a322 n323 c324]∧
 Q (.tuple #[.agg #[.slice a318 n319 c320,.int .i64 x321,.slice a322 n323 c324],.int .i64 x315]) g317)
theorem I99_2.of {O Q} (a0_0 n0_0 c0_0 x0_1 a0_2 n0_2 c0_2 x1_0 x1_1 s1_2 a1_3 n1_3 c1_3 b2 f2 b4 f4 x5 a6 n6 c6 x11){h:Hp}(hh:T99_2 O Q a0_0 n0_0 c0_0 x0_1 a0_2 n0_2 c0_2 x1_0 x1_1 s1_2 a1_3 n1_3 c1_3 b2 f2 b4 f4 x5 a6 n6 c6 x11 h):I99_2 O Q a0_0 n0_0 c0_0 x0_1 a0_2 n0_2 c0_2 x1_0 x1_1 s1_2 a1_3 n1_3 c1_3 b2 f2 b4 f4 x5 a6 n6 c6 x11 h:=
 RKL.ofE (tb:=lv99) (cuts:=[22]) 500 hh fun _=>by kernel_rfl
noncomputable def b32:Code:=(Tryz.f32.body).getD .skip
def lv32:List (Nat×List Nat):=[]
def T32 (O:CallF)(Q:Value→Hp→Prop)(a0_0:Option Addr)(n0_0 c0_0:Nat)(x0_1:Int)(a0_2:Option Addr)(n0_2 c0_2:Nat)(x1_0 x1_1:Int)(s1_2:ByteArray)(a1_3:Option Addr)(n1_3 c1_3:Nat)(h:Hp):Prop:=
 let g1:=h.add (.cells [.slice a0_0 n0_0 c0_0,.int .i64 x0_1,.slice a0_2 n0_2 c0_2] 24 .fix)
 let g2:=g1.add (.cells [.int .i64 x1_0,.int .i64 x1_1,.string s1_2,.slice a1_3 n1_3 c1_3] 46 .fix)
 let g3:=g2.add (.cells [.slice none 0 0,.int .i64 0,.slice none 0 0] 24 .fix)
 ∃a4 n5 c6 x7 a8 n9 c10,readAt g3 h.nx 0 3=some [.slice a4 n5 c6,.int .i64 x7,.slice a8 n9 c10]∧
 ∃q11 h12,EvC Tryz.prog O 63 [.agg #[.slice a4 n5 c6,.int .i64 x7,.slice a8 n9 c10]] g3 (.bool q11) h12∧
 vcond (!q11)
 (vreq (canW h12 g2.nx 0 [.slice none 0 0,.int .i64 0,.slice none 0 0])
 (let g13:=h12.wr g2.nx 0 [.slice none 0 0,.int .i64 0,.slice none 0 0]
 ∃a14 n15 c16 x17 a18 n19 c20,readAt g13 g2.nx 0 3=some [.slice a14 n15 c16,.int .i64 x17,.slice a18 n19 c20]∧
 Q (.tuple #[.agg #[.slice a14 n15 c16,.int .i64 x17,.slice a18 n19 c20],.int .i64 0,.int .i64 2]) g13))
 (∃x21 x22 s23 a24 n25 c26,readAt h12 g1.nx 0 4=some [.int .i64 x21,.int .i64 x22,.string s23,.slice a24 n25 c26]∧
 ∃q27 h28,EvC Tryz.prog O 44 [.agg #[.int .i64 x21,.int .i64 x22,.string s23,.slice a24 n25 c26]] h12 (.bool q27) h28∧
 vcond (!q27)
 (vreq (canW h28 g2.nx 0 [.slice none 0 0,.int .i64 0,.slice none 0 0])
 (let g29:=h28.wr g2.nx 0 [.slice none 0 0,.int .i64 0,.slice none 0 0]
 ∃a30 n31 c32 x33 a34 n35 c36,readAt g29 g2.nx 0 3=some [.slice a30 n31 c32,.int .i64 x33,.slice a34 n35 c36]∧
 Q (.tuple #[.agg #[.slice a30 n31 c32,.int .i64 x33,.slice a34 n35 c36],.int .i64 0,.int .i64 2]) g29))
 (let g37:=h28.rsv 12
 ∃a38 n39 c40 x41 a42 n43 c44,readAt g37 h.nx 0 3=some [.slice a38 n39 c40,.int .i64 x41,.slice a42 n43 c44]∧
 ∃x45 x46 s47 a48 n49 c50,readAt g37 g1.nx 0 4=some [.int .i64 x45,.int .i64 x46,.string s47,.slice a48 n49 c50]∧
 ∃x51 h52,EvC Tryz.prog O 97 [.agg #[.int .i64 x45,.int .i64 x46,.string s47,.slice a48 n49 c50]] (g37.grd [h.nx]) (.int .i64 x51) h52∧
 let g53:=h52.rst g37
 ∃a54 n55 c56 x57 a58 n59 c60 a61 n62 c63 q64 h65,EvC Tryz.prog O 83 [.agg #[.slice a38 n39 c40,.int .i64 x41,.slice a42 n43 c44],.slice none 0 0,.int .i64 x51] (g53.grd []) (.tuple #[.agg #[.slice a54 n55 c56,.int .i64 x57,.slice a58 n59 c60],.slice a61 n62 c63,.bool q64]) h65∧
 let g66:=h65.rst g53
 vreq (g66.free (h28.nx+8))
 (let g67:=g66.lay (h28.nx+8) (.cells [.slice none 0 0,.int .i64 0,.slice none 0 0] 24 .fix)
 vreq (canW (g67.grd []) (h28.nx+8) 0 [.slice a54 n55 c56,.int .i64 x57,.slice a58 n59 c60])
 (let g68:=(g67.grd []).wr (h28.nx+8) 0 [.slice a54 n55 c56,.int .i64 x57,.slice a58 n59 c60]
 let g69:=g68.rst g67
 ∃x70 x71 s72 a73 n74 c75,readAt g69 g1.nx 0 4=some [.int .i64 x70,.int .i64 x71,.string s72,.slice a73 n74 c75]∧
 ∃q76 h77,EvC Tryz.prog O 98 [.agg #[.int .i64 x70,.int .i64 x71,.string s72,.slice a73 n74 c75]] g69 (.bool q76) h77∧
 vcond q76
 (vreq (canW h77 g2.nx 0 [.slice none 0 0,.int .i64 0,.slice none 0 0])
 (let g78:=h77.wr g2.nx 0 [.slice none 0 0,.int .i64 0,.slice none 0 0]
 ∃a79 n80 c81 x82 a83 n84 c85,readAt g78 g2.nx 0 3=some [.slice a79 n80 c81,.int .i64 x82,.slice a83 n84 c85]∧
 Q (.tuple #[.agg #[.slice a79 n80 c81,.int .i64 x82,.slice a83 n84 c85],.int .i64 0,.int .i64 3]) g78))
 (vcond (!q64)
 (vreq (canW h77 g2.nx 0 [.slice none 0 0,.int .i64 0,.slice none 0 0])
 (let g86:=h77.wr g2.nx 0 [.slice none 0 0,.int .i64 0,.slice none 0 0]
 ∃a87 n88 c89 x90 a91 n92 c93,readAt g86 g2.nx 0 3=some [.slice a87 n88 c89,.int .i64 x90,.slice a91 n92 c93]∧
 Q (.tuple #[.agg #[.slice a87 n88 c89,.int .i64 x90,.slice a91 n92 c93],.int .i64 0,.int .i64 3]) g86))
 (∃a94 n95 c96 x97 a98 n99 c100,readAt h77 (h28.nx+8) 0 3=some [.slice a94 n95 c96,.int .i64 x97,.slice a98 n99 c100]∧
 ∃x101 x102 s103 a104 n105 c106,readAt h77 g1.nx 0 4=some [.int .i64 x101,.int .i64 x102,.string s103,.slice a104 n105 c106]∧
 ∃a107 n108 c109 x110 a111 n112 c113 x114 h115,EvC Tryz.prog O 99 [.agg #[.slice a94 n95 c96,.int .i64 x97,.slice a98 n99 c100],.agg #[.int .i64 x101,.int .i64 x102,.string s103,.slice a104 n105 c106]] h77 (.tuple #[.agg #[.slice a107 n108 c109,.int .i64 x110,.slice a111 n112 c113],.int .i64 x114]) h115∧
 vreq (canW h115 (h28.nx+8) 0 [.slice a107 n108 c109,.int .i64 x110,.slice a111 n112 c113])
 (let g116:=h115.wr (h28.nx+8) 0 [.slice a107 n108 c109,.int .i64 x110,.slice a111 n112 c113]
 ∃a117 n118 c119 x120 a121 n122 c123,readAt g116 (h28.nx+8) 0 3=some [.slice a117 n118 c119,.int .i64 x120,.slice a121 n122 c123]∧
 vreq (canW g116 g2.nx 0 [.slice a117 n118 c119,.int .i64 x120,.slice a121 n122 c123])
 (let g124:=g116.wr g2.nx 0 [.slice a117 n118 c119,.int .i64 x120,.slice a121 n122 c123]
 ∃a125 n126 c127 x128 a129 n130 c131,readAt g124 g2.nx 0 3=some [.slice a125 n126 c127,.int .i64 x128,.slice a129 n130 c131]∧
 Q (.tuple #[.agg #[.slice a125 n126 c127,.int .i64 x128,.slice a129 n130 c131],.int .i64 x114,.int .i64 0]) g124))))))))
theorem rk32 {O Q} (a0_0 n0_0 c0_0 x0_1 a0_2 n0_2 c0_2 x1_0 x1_1 s1_2 a1_3 n1_3 c1_3){h:Hp}(hO:O 32 [.agg #[.slice a0_0 n0_0 c0_0,.int .i64 x0_1,.slice a0_2 n0_2 c0_2],.agg #[.int .i64 x1_0,.int .i64 x1_1,.string s1_2,.slice a1_3 n1_3 c1_3]] h=none)(hh:T32 O Q a0_0 n0_0 c0_0 x0_1 a0_2 n0_2 c0_2 x1_0 x1_1 s1_2 a1_3 n1_3 c1_3 h):Ret Tryz.prog O 32 [.agg #[.slice a0_0 n0_0 c0_0,.int .i64 x0_1,.slice a0_2 n0_2 c0_2],.agg #[.int .i64 x1_0,.int .i64 x1_1,.string s1_2,.slice a1_3 n1_3 c1_3]] h Q:=
 .of (c:=b32) Tryz.func32 (by kernel_rfl) hO (V_okE (tb:=lv32) (cuts:=[]) 500 hh (by kernel_rfl))
noncomputable def b103:Code:=(Tryz.f103.body).getD .skip
noncomputable def stk103_0:List KI:=[.code (sub [1,1,1,1,1,1,1,1,0,1,0,0] b103),.code (sub [1,1,1,1,1,1,1,1,0,1,0,1] b103),.code (sub [1,1,1,1,1,1,1,1,1] b103)]
noncomputable def stk103_1:List KI:=[.code (sub [1,1,1,1,1,1,1,1,1,0] b103),.code (sub [1,1,1,1,1,1,1,1,1,1] b103)]
noncomputable def stk103_2:List KI:=[.code (sub [1,1,1,1,1,1,1,1,1,1,1,0,1,0] b103),.blk 0,.code (sub [1,1,1,1,1,1,1,1,1,1,1,1] b103)]
noncomputable def stk103_3:List KI:=[.code (sub [1,1,1,1,1,1,1,1,1,1,1,1,0,1,0] b103),.blk 2,.code (sub [1,1,1,1,1,1,1,1,1,1,1,1,1] b103)]
def lv103:List (Nat×List Nat):=[(1000014,[2,3,4,8,10,11]),(1000015,[2,3,4,8,10,11]),(0,[3,4,8,10,11,14,15]),(2,[8,10,11,14,17])]
def I103_0 (O:CallF)(Q:Value→Hp→Prop)(a0_0:Option Addr)(n0_0 c0_0:Nat)(x0_1:Int)(a0_2:Option Addr)(n0_2 c0_2:Nat)(x1 x2 x3:Int)(b4 f4 b8 f8:Nat)(a10:Option Addr)(n10 c10:Nat)(x11:Int)(h:Hp):Prop:=RKL Tryz.prog O Tryz.f103 stk103_0 146 [2,3,4,8,10,11] [.int .i64 x2,.int .i64 x3,.pointer (some ⟨b4,f4,none⟩),.pointer (some ⟨b8,f8,none⟩),.slice a10 n10 c10,.int .i64 x11] h Q
def I103_1 (O:CallF)(Q:Value→Hp→Prop)(a0_0:Option Addr)(n0_0 c0_0:Nat)(x0_1:Int)(a0_2:Option Addr)(n0_2 c0_2:Nat)(x1 x2 x3:Int)(b4 f4 b8 f8:Nat)(a10:Option Addr)(n10 c10:Nat)(x11:Int)(h:Hp):Prop:=RKL Tryz.prog O Tryz.f103 stk103_1 146 [2,3,4,8,10,11] [.int .i64 x2,.int .i64 x3,.pointer (some ⟨b4,f4,none⟩),.pointer (some ⟨b8,f8,none⟩),.slice a10 n10 c10,.int .i64 x11] h Q
def I103_2 (O:CallF)(Q:Value→Hp→Prop)(a0_0:Option Addr)(n0_0 c0_0:Nat)(x0_1:Int)(a0_2:Option Addr)(n0_2 c0_2:Nat)(x1 x2 x3:Int)(b4 f4 b8 f8:Nat)(a10:Option Addr)(n10 c10:Nat)(x11:Int)(b14 f14:Nat)(x15:Int)(h:Hp):Prop:=RKL Tryz.prog O Tryz.f103 stk103_2 146 [3,4,8,10,11,14,15] [.int .i64 x3,.pointer (some ⟨b4,f4,none⟩),.pointer (some ⟨b8,f8,none⟩),.slice a10 n10 c10,.int .i64 x11,.pointer (some ⟨b14,f14,none⟩),.int .i64 x15] h Q
def I103_3 (O:CallF)(Q:Value→Hp→Prop)(a0_0:Option Addr)(n0_0 c0_0:Nat)(x0_1:Int)(a0_2:Option Addr)(n0_2 c0_2:Nat)(x1 x2 x3:Int)(b8 f8:Nat)(a10:Option Addr)(n10 c10:Nat)(x11:Int)(b14 f14:Nat)(x17:Int)(h:Hp):Prop:=RKL Tryz.prog O Tryz.f103 stk103_3 146 [8,10,11,14,17] [.pointer (some ⟨b8,f8,none⟩),.slice a10 n10 c10,.int .i64 x11,.pointer (some ⟨b14,f14,none⟩),.int .i64 x17] h Q
def T103 (O:CallF)(Q:Value→Hp→Prop)(a0_0:Option Addr)(n0_0 c0_0:Nat)(x0_1:Int)(a0_2:Option Addr)(n0_2 c0_2:Nat)(x1 x2 x3:Int)(h:Hp):Prop:=
 let g1:=h.add (.cells [.slice a0_0 n0_0 c0_0,.int .i64 x0_1,.slice a0_2 n0_2 c0_2] 24 .fix)
 let g2:=g1.add (.cells [.int .i64 0,.int .i64 0,.string (ByteArray.mk #[]),.slice none 0 0,.int .i64 0,.int .i64 0] 144 .fix)
 vcond (ltI x2 1)
 (vreq (canW g2 g1.nx 0 [.int .i64 0,.int .i64 0,.string (ByteArray.mk #[]),.slice none 0 0,.int .i64 0,.int .i64 3])
 (let g3:=g2.wr g1.nx 0 [.int .i64 0,.int .i64 0,.string (ByteArray.mk #[]),.slice none 0 0,.int .i64 0,.int .i64 3]
 ∃x4 x5 s6 a7 n8 c9 x10 x11,readAt g3 g1.nx 0 6=some [.int .i64 x4,.int .i64 x5,.string s6,.slice a7 n8 c9,.int .i64 x10,.int .i64 x11]∧
 Q (.agg #[.int .i64 x4,.int .i64 x5,.string s6,.slice a7 n8 c9,.int .i64 x10,.int .i64 x11]) g3))
 (vcond (ltI x3 1)
 (vreq (canW g2 g1.nx 0 [.int .i64 0,.int .i64 0,.string (ByteArray.mk #[]),.slice none 0 0,.int .i64 0,.int .i64 3])
 (let g12:=g2.wr g1.nx 0 [.int .i64 0,.int .i64 0,.string (ByteArray.mk #[]),.slice none 0 0,.int .i64 0,.int .i64 3]
 ∃x13 x14 s15 a16 n17 c18 x19 x20,readAt g12 g1.nx 0 6=some [.int .i64 x13,.int .i64 x14,.string s15,.slice a16 n17 c18,.int .i64 x19,.int .i64 x20]∧
 Q (.agg #[.int .i64 x13,.int .i64 x14,.string s15,.slice a16 n17 c18,.int .i64 x19,.int .i64 x20]) g12))
 (vcond (!(eqI (Int.tmod x1 2) 0))
 (∃x21 x22 s23 a24 n25 c26 h27,EvC Tryz.prog O 58 [(.int .i64 (wrapF .i64 (Int.tdiv (wrapF .i64 (x1-1)) 2)))] g2 (.agg #[.int .i64 x21,.int .i64 x22,.string s23,.slice a24 n25 c26]) h27∧
 vreq (canW h27 g1.nx 0 [.int .i64 x21,.int .i64 x22,.string s23,.slice a24 n25 c26,.int .i64 (wrapF .i64 (x2-1)),.int .i64 0])
 (let g28:=h27.wr g1.nx 0 [.int .i64 x21,.int .i64 x22,.string s23,.slice a24 n25 c26,.int .i64 (wrapF .i64 (x2-1)),.int .i64 0]
 ∃x29 x30 s31 a32 n33 c34 x35 x36,readAt g28 g1.nx 0 6=some [.int .i64 x29,.int .i64 x30,.string s31,.slice a32 n33 c34,.int .i64 x35,.int .i64 x36]∧
 Q (.agg #[.int .i64 x29,.int .i64 x30,.string s31,.slice a32 n33 c34,.int .i64 x35,.int .i64 x36]) g28))
 (vcond (eqI (wrapF .i64 (Int.tdiv x1 2)) 0)
 (vreq (canW g2 g1.nx 0 [.int .i64 0,.int .i64 0,.string (ByteArray.mk #[]),.slice none 0 0,.int .i64 0,.int .i64 7])
 (let g37:=g2.wr g1.nx 0 [.int .i64 0,.int .i64 0,.string (ByteArray.mk #[]),.slice none 0 0,.int .i64 0,.int .i64 7]
 ∃x38 x39 s40 a41 n42 c43 x44 x45,readAt g37 g1.nx 0 6=some [.int .i64 x38,.int .i64 x39,.string s40,.slice a41 n42 c43,.int .i64 x44,.int .i64 x45]∧
 Q (.agg #[.int .i64 x38,.int .i64 x39,.string s40,.slice a41 n42 c43,.int .i64 x44,.int .i64 x45]) g37))
 (∃a46 n47 c48 x49 a50 n51 c52,readAt g2 h.nx 0 3=some [.slice a46 n47 c48,.int .i64 x49,.slice a50 n51 c52]∧
 ∃a53 n54 c55 h56,EvC Tryz.prog O 68 [.agg #[.slice a46 n47 c48,.int .i64 x49,.slice a50 n51 c52],.int .i64 (wrapF .i64 (Int.tdiv x1 2))] g2 (.slice a53 n54 c55) h56∧
 ∃a57 n58 c59,readAt h56 h.nx 0 1=some [.slice a57 n58 c59]∧
 isNat (wrapF .i64 (Int.tdiv x1 2)) fun n60=>
 isAddr a57 fun b61 f62=>
 vreq (Nat.blt n60 n58)
 (∃x63,readAt h56 b61 (f62+(n60*1)) 1=some [.int .i64 x63]∧
 ∃x64 h65,EvC Tryz.prog O 90 [.int .i64 x63] h56 (.int .i64 x64) h65∧
 vcond (!(eqI x64 1))
 (vcond (!(eqI x64 2))
 (∃a66 n67 c68 x69 a70 n71 c72,readAt h65 h.nx 0 3=some [.slice a66 n67 c68,.int .i64 x69,.slice a70 n71 c72]∧
 ∃x73 x74 s75 a76 n77 c78 x79 h80,EvC Tryz.prog O 136 [.agg #[.slice a66 n67 c68,.int .i64 x69,.slice a70 n71 c72],.int .i64 (wrapF .i64 (Int.tdiv x1 2))] h65 (.tuple #[.agg #[.int .i64 x73,.int .i64 x74,.string s75,.slice a76 n77 c78],.int .i64 x79]) h80∧
 let g81:=h80.add (.cells [.int .i64 0,.int .i64 0,.string (ByteArray.mk #[]),.slice none 0 0] 46 .fix)
 vreq (canW g81 h80.nx 0 [.int .i64 x73,.int .i64 x74,.string s75,.slice a76 n77 c78])
 (let g82:=g81.wr h80.nx 0 [.int .i64 x73,.int .i64 x74,.string s75,.slice a76 n77 c78]
 ∃x83 x84 s85 a86 n87 c88,readAt g82 h80.nx 0 4=some [.int .i64 x83,.int .i64 x84,.string s85,.slice a86 n87 c88]∧
 vreq (canW g82 g1.nx 0 [.int .i64 x83,.int .i64 x84,.string s85,.slice a86 n87 c88,.int .i64 (wrapF .i64 (x2-1)),.int .i64 x79])
 (let g89:=g82.wr g1.nx 0 [.int .i64 x83,.int .i64 x84,.string s85,.slice a86 n87 c88,.int .i64 (wrapF .i64 (x2-1)),.int .i64 x79]
 ∃x90 x91 s92 a93 n94 c95 x96 x97,readAt g89 g1.nx 0 6=some [.int .i64 x90,.int .i64 x91,.string s92,.slice a93 n94 c95,.int .i64 x96,.int .i64 x97]∧
 Q (.agg #[.int .i64 x90,.int .i64 x91,.string s92,.slice a93 n94 c95,.int .i64 x96,.int .i64 x97]) g89)))
 (vcond (eqI x64 1)
 (vcond (ltI (Int.ofNat n54) 2)
 (I103_0 O Q a0_0 n0_0 c0_0 x0_1 a0_2 n0_2 c0_2 x1 x2 x3 h.nx 0 g1.nx 0 a53 n54 c55 x64 h65)
 (vcond (ltI 6 (Int.ofNat n54))
 (I103_0 O Q a0_0 n0_0 c0_0 x0_1 a0_2 n0_2 c0_2 x1 x2 x3 h.nx 0 g1.nx 0 a53 n54 c55 x64 h65)
 (I103_1 O Q a0_0 n0_0 c0_0 x0_1 a0_2 n0_2 c0_2 x1 x2 x3 h.nx 0 g1.nx 0 a53 n54 c55 x64 h65)))
 (I103_1 O Q a0_0 n0_0 c0_0 x0_1 a0_2 n0_2 c0_2 x1 x2 x3 h.nx 0 g1.nx 0 a53 n54 c55 x64 h65)))
 (vcond (eqI x64 1)
 (vcond (ltI (Int.ofNat n54) 2)
 (I103_0 O Q a0_0 n0_0 c0_0 x0_1 a0_2 n0_2 c0_2 x1 x2 x3 h.nx 0 g1.nx 0 a53 n54 c55 x64 h65)
 (vcond (ltI 6 (Int.ofNat n54))
 (I103_0 O Q a0_0 n0_0 c0_0 x0_1 a0_2 n0_2 c0_2 x1 x2 x3 h.nx 0 g1.nx 0 a53 n54 c55 x64 h65)
 (I103_1 O Q a0_0 n0_0 c0_0 x0_1 a0_2 n0_2 c0_2 x1 x2 x3 h.nx 0 g1.nx 0 a53 n54 c55 x64 h65)))
 (I103_1 O Q a0_0 n0_0 c0_0 x0_1 a0_2 n0_2 c0_2 x1 x2 x3 h.nx 0 g1.nx 0 a53 n54 c55 x64 h65)))))))
theorem rk103 {O Q} (a0_0 n0_0 c0_0 x0_1 a0_2 n0_2 c0_2 x1 x2 x3){h:Hp}(hO:O 103 [.agg #[.slice a0_0 n0_0 c0_0,.int .i64 x0_1,.slice a0_2 n0_2 c0_2],.int .i64 x1,.int .i64 x2,.int .i64 x3] h=none)(hh:T103 O Q a0_0 n0_0 c0_0 x0_1 a0_2 n0_2 c0_2 x1 x2 x3 h):Ret Tryz.prog O 103 [.agg #[.slice a0_0 n0_0 c0_0,.int .i64 x0_1,.slice a0_2 n0_2 c0_2],.int .i64 x1,.int .i64 x2,.int .i64 x3] h Q:=
 .of (c:=b103) Tryz.func103 (by kernel_rfl) hO (V_okE (tb:=lv103) (cuts:=[14,15]) 500 hh (by kernel_rfl))
def T103_0 (O:CallF)(Q:Value→Hp→Prop)(a0_0:Option Addr)(n0_0 c0_0:Nat)(x0_1:Int)(a0_2:Option Addr)(n0_2 c0_2:Nat)(x1 x2 x3:Int)(b4 f4 b8 f8:Nat)(a10:Option Addr)(n10 c10:Nat)(x11:Int)(h:Hp):Prop:=
 vreq (canW h b8 f8 [.int .i64 0,.int .i64 0,.string (ByteArray.mk #[]),.slice none 0 0,.int .i64 0,.int .i64 7])
 (let g101:=h.wr b8 f8 [.int .i64 0,.int .i64 0,.string (ByteArray.mk #[]),.slice none 0 0,.int .i64 0,.int .i64 7]
 ∃x102 x103 s104 a105 n106 c107 x108 x109,readAt g101 b8 f8 6=some [.int .i64 x102,.int .i64 x103,.string s104,.slice a105 n106 c107,.int .i64 x108,.int .i64 x109]∧
 Q (.agg #[.int .i64 x102,.int .i64 x103,.string s104,.slice a105 n106 c107,.int .i64 x108,.int .i64 x109]) g101)
theorem I103_0.of {O Q} (a0_0 n0_0 c0_0 x0_1 a0_2 n0_2 c0_2 x1 x2 x3 b4 f4 b8 f8 a10 n10 c10 x11){h:Hp}(hh:T103_0 O Q a0_0 n0_0 c0_0 x0_1 a0_2 n0_2 c0_2 x1 x2 x3 b4 f4 b8 f8 a10 n10 c10 x11 h):I103_0 O Q a0_0 n0_0 c0_0 x0_1 a0_2 n0_2 c0_2 x1 x2 x3 b4 f4 b8 f8 a10 n10 c10 x11 h:=
 RKL.ofE (tb:=lv103) (cuts:=[14,15]) 500 hh fun _=>by kernel_rfl
def T103_1 (O:CallF)(Q:Value→Hp→Prop)(a0_0:Option Addr)(n0_0 c0_0:Nat)(x0_1:Int)(a0_2:Option Addr)(n0_2 c0_2:Nat)(x1 x2 x3:Int)(b4 f4 b8 f8:Nat)(a10:Option Addr)(n10 c10:Nat)(x11:Int)(h:Hp):Prop:=
 let g201:=h.add (.cells [.int .i64 0,.int .i64 0,.string (ByteArray.mk #[]),.slice none 0 0,.int .i64 0,.int .i64 0] 144 .fix)
 vreq (canW g201 h.nx 0 [.int .i64 5,.int .i64 0,.string (ByteArray.mk #[]),.slice none 0 0,.int .i64 (wrapF .i64 (x2-1)),.int .i64 0])
 (let g202:=g201.wr h.nx 0 [.int .i64 5,.int .i64 0,.string (ByteArray.mk #[]),.slice none 0 0,.int .i64 (wrapF .i64 (x2-1)),.int .i64 0]
 vcond (eqI x11 1)
 (vreq (canW g202 h.nx 0 [.int .i64 4])
 (let g203:=g202.wr h.nx 0 [.int .i64 4]
 I103_2 O Q a0_0 n0_0 c0_0 x0_1 a0_2 n0_2 c0_2 x1 x2 x3 b4 f4 b8 f8 a10 n10 c10 x11 h.nx 0 0 g203))
 (I103_2 O Q a0_0 n0_0 c0_0 x0_1 a0_2 n0_2 c0_2 x1 x2 x3 b4 f4 b8 f8 a10 n10 c10 x11 h.nx 0 0 g202))
theorem I103_1.of {O Q} (a0_0 n0_0 c0_0 x0_1 a0_2 n0_2 c0_2 x1 x2 x3 b4 f4 b8 f8 a10 n10 c10 x11){h:Hp}(hh:T103_1 O Q a0_0 n0_0 c0_0 x0_1 a0_2 n0_2 c0_2 x1 x2 x3 b4 f4 b8 f8 a10 n10 c10 x11 h):I103_1 O Q a0_0 n0_0 c0_0 x0_1 a0_2 n0_2 c0_2 x1 x2 x3 b4 f4 b8 f8 a10 n10 c10 x11 h:=
 RKL.ofE (tb:=lv103) (cuts:=[14,15]) 500 hh fun _=>by kernel_rfl
def T103_2 (O:CallF)(Q:Value→Hp→Prop)(a0_0:Option Addr)(n0_0 c0_0:Nat)(x0_1:Int)(a0_2:Option Addr)(n0_2 c0_2:Nat)(x1 x2 x3:Int)(b4 f4 b8 f8:Nat)(a10:Option Addr)(n10 c10:Nat)(x11:Int)(b14 f14:Nat)(x15:Int)(h:Hp):Prop:=
 vcond (ltI x15 (Int.ofNat n10))
 (let g301:=h.rsv 12
 ∃a302 n303 c304 x305 a306 n307 c308,readAt g301 b4 f4 3=some [.slice a302 n303 c304,.int .i64 x305,.slice a306 n307 c308]∧
 isNat x15 fun n309=>
 isAddr a10 fun b310 f311=>
 vreq (Nat.blt n309 n10)
 (∃x312,readAt g301 b310 (f311+(n309*1)) 1=some [.int .i64 x312]∧
 ∃x313,readAt g301 b14 (f14+4) 1=some [.int .i64 x313]∧
 ∃x314 x315 s316 a317 n318 c319 x320 x321 h322,EvC Tryz.prog O 103 [.agg #[.slice a302 n303 c304,.int .i64 x305,.slice a306 n307 c308],.int .i64 x312,.int .i64 x313,.int .i64 (wrapF .i64 (x3-1))] (g301.grd []) (.agg #[.int .i64 x314,.int .i64 x315,.string s316,.slice a317 n318 c319,.int .i64 x320,.int .i64 x321]) h322∧
 let g323:=h322.rst g301
 vreq (g323.free (h.nx+10))
 (let g324:=g323.lay (h.nx+10) (.cells [.int .i64 0,.int .i64 0,.string (ByteArray.mk #[]),.slice none 0 0,.int .i64 0,.int .i64 0] 144 .fix)
 vreq (canW (g324.grd []) (h.nx+10) 0 [.int .i64 x314,.int .i64 x315,.string s316,.slice a317 n318 c319,.int .i64 x320,.int .i64 x321])
 (let g325:=(g324.grd []).wr (h.nx+10) 0 [.int .i64 x314,.int .i64 x315,.string s316,.slice a317 n318 c319,.int .i64 x320,.int .i64 x321]
 let g326:=g325.rst g324
 ∃x327,readAt g326 (h.nx+10) 5 1=some [.int .i64 x327]∧
 vcond (!(eqI x327 0))
 (∃x328 x329 s330 a331 n332 c333 x334 x335,readAt g326 (h.nx+10) 0 6=some [.int .i64 x328,.int .i64 x329,.string s330,.slice a331 n332 c333,.int .i64 x334,.int .i64 x335]∧
 vreq (canW g326 b8 f8 [.int .i64 x328,.int .i64 x329,.string s330,.slice a331 n332 c333,.int .i64 x334,.int .i64 x335])
 (let g336:=g326.wr b8 f8 [.int .i64 x328,.int .i64 x329,.string s330,.slice a331 n332 c333,.int .i64 x334,.int .i64 x335]
 ∃x337 x338 s339 a340 n341 c342 x343 x344,readAt g336 b8 f8 6=some [.int .i64 x337,.int .i64 x338,.string s339,.slice a340 n341 c342,.int .i64 x343,.int .i64 x344]∧
 Q (.agg #[.int .i64 x337,.int .i64 x338,.string s339,.slice a340 n341 c342,.int .i64 x343,.int .i64 x344]) g336))
 (∃a345 n346 c347,readAt g326 b14 ((f14+0)+3) 1=some [.slice a345 n346 c347]∧
 ∃x348 x349 s350 a351 n352 c353,readAt g326 (h.nx+10) 0 4=some [.int .i64 x348,.int .i64 x349,.string s350,.slice a351 n352 c353]∧
 let g354:=g326.add (.cells [.int .i64 x348,.int .i64 x349,.string s350,.slice a351 n352 c353] 46 .fix)
 ∃a355 n356 c357 h358,appendV Tryz.prog g354 44 44 (.slice a345 n346 c347) (.slice (some ⟨g326.nx,0,none⟩) 1 1)=some (.slice a355 n356 c357,h358)∧
 vreq (canW h358 b14 ((f14+0)+3) [.slice a355 n356 c357])
 (let g359:=h358.wr b14 ((f14+0)+3) [.slice a355 n356 c357]
 ∃x360,readAt g359 (h.nx+10) 4 1=some [.int .i64 x360]∧
 vreq (canW g359 b14 (f14+4) [.int .i64 x360])
 (let g361:=g359.wr b14 (f14+4) [.int .i64 x360]
 I103_2 O Q a0_0 n0_0 c0_0 x0_1 a0_2 n0_2 c0_2 x1 x2 x3 b4 f4 b8 f8 a10 n10 c10 x11 b14 f14 (wrapF .i64 (x15+1)) g361)))))))
 (I103_3 O Q a0_0 n0_0 c0_0 x0_1 a0_2 n0_2 c0_2 x1 x2 x3 b8 f8 a10 n10 c10 x11 b14 f14 1 h)
theorem I103_2.of {O Q} (a0_0 n0_0 c0_0 x0_1 a0_2 n0_2 c0_2 x1 x2 x3 b4 f4 b8 f8 a10 n10 c10 x11 b14 f14 x15){h:Hp}(hh:T103_2 O Q a0_0 n0_0 c0_0 x0_1 a0_2 n0_2 c0_2 x1 x2 x3 b4 f4 b8 f8 a10 n10 c10 x11 b14 f14 x15 h):I103_2 O Q a0_0 n0_0 c0_0 x0_1 a0_2 n0_2 c0_2 x1 x2 x3 b4 f4 b8 f8 a10 n10 c10 x11 b14 f14 x15 h:=
 RKL.ofE (tb:=lv103) (cuts:=[14,15]) 500 hh fun _=>by kernel_rfl
def T103_3 (O:CallF)(Q:Value→Hp→Prop)(a0_0:Option Addr)(n0_0 c0_0:Nat)(x0_1:Int)(a0_2:Option Addr)(n0_2 c0_2:Nat)(x1 x2 x3:Int)(b8 f8:Nat)(a10:Option Addr)(n10 c10:Nat)(x11:Int)(b14 f14:Nat)(x17:Int)(h:Hp):Prop:=
 vcond (ltI x17 (Int.ofNat n10))
 (vcond (eqI x11 2)
 (let g401:=h.rsv 15
 ∃a402 n403 c404,readAt g401 b14 ((f14+0)+3) 1=some [.slice a402 n403 c404]∧
 isNat (wrapF .i64 (x17-1)) fun n405=>
 isAddr a402 fun b406 f407=>
 vreq (Nat.blt n405 n403)
 (∃x408 x409 s410 a411 n412 c413,readAt g401 b406 (f407+(n405*4)) 4=some [.int .i64 x408,.int .i64 x409,.string s410,.slice a411 n412 c413]∧
 ∃a414 n415 c416,readAt g401 b14 ((f14+0)+3) 1=some [.slice a414 n415 c416]∧
 isNat x17 fun n417=>
 isAddr a414 fun b418 f419=>
 vreq (Nat.blt n417 n415)
 (∃x420 x421 s422 a423 n424 c425,readAt g401 b418 (f419+(n417*4)) 4=some [.int .i64 x420,.int .i64 x421,.string s422,.slice a423 n424 c425]∧
 ∃x426 h427,EvC Tryz.prog O 137 [.agg #[.int .i64 x408,.int .i64 x409,.string s410,.slice a411 n412 c413],.agg #[.int .i64 x420,.int .i64 x421,.string s422,.slice a423 n424 c425]] (g401.grd []) (.int .i64 x426) h427∧
 let g428:=h427.rst g401
 vcond (!(ltI x426 0))
 (vreq (canW g428 b8 f8 [.int .i64 0,.int .i64 0,.string (ByteArray.mk #[]),.slice none 0 0,.int .i64 0,.int .i64 7])
 (let g429:=g428.wr b8 f8 [.int .i64 0,.int .i64 0,.string (ByteArray.mk #[]),.slice none 0 0,.int .i64 0,.int .i64 7]
 ∃x430 x431 s432 a433 n434 c435 x436 x437,readAt g429 b8 f8 6=some [.int .i64 x430,.int .i64 x431,.string s432,.slice a433 n434 c435,.int .i64 x436,.int .i64 x437]∧
 Q (.agg #[.int .i64 x430,.int .i64 x431,.string s432,.slice a433 n434 c435,.int .i64 x436,.int .i64 x437]) g429))
 (I103_3 O Q a0_0 n0_0 c0_0 x0_1 a0_2 n0_2 c0_2 x1 x2 x3 b8 f8 a10 n10 c10 x11 b14 f14 (wrapF .i64 (x17+1)) g428))))
 (∃x438 x439 s440 a441 n442 c443 x444 x445,readAt h b14 f14 6=some [.int .i64 x438,.int .i64 x439,.string s440,.slice a441 n442 c443,.int .i64 x444,.int .i64 x445]∧
 vreq (canW h b8 f8 [.int .i64 x438,.int .i64 x439,.string s440,.slice a441 n442 c443,.int .i64 x444,.int .i64 x445])
 (let g446:=h.wr b8 f8 [.int .i64 x438,.int .i64 x439,.string s440,.slice a441 n442 c443,.int .i64 x444,.int .i64 x445]
 ∃x447 x448 s449 a450 n451 c452 x453 x454,readAt g446 b8 f8 6=some [.int .i64 x447,.int .i64 x448,.string s449,.slice a450 n451 c452,.int .i64 x453,.int .i64 x454]∧
 Q (.agg #[.int .i64 x447,.int .i64 x448,.string s449,.slice a450 n451 c452,.int .i64 x453,.int .i64 x454]) g446)))
 (∃x455 x456 s457 a458 n459 c460 x461 x462,readAt h b14 f14 6=some [.int .i64 x455,.int .i64 x456,.string s457,.slice a458 n459 c460,.int .i64 x461,.int .i64 x462]∧
 vreq (canW h b8 f8 [.int .i64 x455,.int .i64 x456,.string s457,.slice a458 n459 c460,.int .i64 x461,.int .i64 x462])
 (let g463:=h.wr b8 f8 [.int .i64 x455,.int .i64 x456,.string s457,.slice a458 n459 c460,.int .i64 x461,.int .i64 x462]
 ∃x464 x465 s466 a467 n468 c469 x470 x471,readAt g463 b8 f8 6=some [.int .i64 x464,.int .i64 x465,.string s466,.slice a467 n468 c469,.int .i64 x470,.int .i64 x471]∧
 Q (.agg #[.int .i64 x464,.int .i64 x465,.string s466,.slice a467 n468 c469,.int .i64 x470,.int .i64 x471]) g463))
theorem I103_3.of {O Q} (a0_0 n0_0 c0_0 x0_1 a0_2 n0_2 c0_2 x1 x2 x3 b8 f8 a10 n10 c10 x11 b14 f14 x17){h:Hp}(hh:T103_3 O Q a0_0 n0_0 c0_0 x0_1 a0_2 n0_2 c0_2 x1 x2 x3 b8 f8 a10 n10 c10 x11 b14 f14 x17 h):I103_3 O Q a0_0 n0_0 c0_0 x0_1 a0_2 n0_2 c0_2 x1 x2 x3 b8 f8 a10 n10 c10 x11 b14 f14 x17 h:=
 RKL.ofE (tb:=lv103) (cuts:=[14,15]) 500 hh fun _=>by kernel_rfl
noncomputable def b136:Code:=(Tryz.f136.body).getD .skip
noncomputable def stk136_0:List KI:=[.code (sub [1,1,1,1,1,0,1,0] b136),.blk 0,.code (sub [1,1,1,1,1,1] b136)]
def lv136:List (Nat×List Nat):=[(0,[4,5,6,7,8])]
def I136_0 (O:CallF)(Q:Value→Hp→Prop)(a0_0:Option Addr)(n0_0 c0_0:Nat)(x0_1:Int)(a0_2:Option Addr)(n0_2 c0_2:Nat)(x1:Int)(b4 f4:Nat)(a6:Option Addr)(n6 c6:Nat)(s7:ByteArray)(x8:Int)(h:Hp):Prop:=RKL Tryz.prog O Tryz.f136 stk136_0 48 [4,5,6,7,8] [.pointer (some ⟨b4,f4,none⟩),.int .i64 0,.slice a6 n6 c6,.string s7,.int .i64 x8] h Q
def T136 (O:CallF)(Q:Value→Hp→Prop)(a0_0:Option Addr)(n0_0 c0_0:Nat)(x0_1:Int)(a0_2:Option Addr)(n0_2 c0_2:Nat)(x1:Int)(h:Hp):Prop:=
 let g1:=h.add (.cells [.slice a0_0 n0_0 c0_0,.int .i64 x0_1,.slice a0_2 n0_2 c0_2] 24 .fix)
 let g2:=g1.add (.cells [.int .i64 0,.int .i64 0,.string (ByteArray.mk #[]),.slice none 0 0] 46 .fix)
 ∃a3 n4 c5 x6 a7 n8 c9,readAt g2 h.nx 0 3=some [.slice a3 n4 c5,.int .i64 x6,.slice a7 n8 c9]∧
 ∃a10 n11 c12 h13,EvC Tryz.prog O 122 [.agg #[.slice a3 n4 c5,.int .i64 x6,.slice a7 n8 c9],.int .i64 x1] g2 (.slice a10 n11 c12) h13∧
 ∃a14 n15 c16,readAt h13 h.nx 0 1=some [.slice a14 n15 c16]∧
 isNat x1 fun n17=>
 isAddr a14 fun b18 f19=>
 vreq (Nat.blt n17 n15)
 (∃x20,readAt h13 b18 (f19+(n17*1)) 1=some [.int .i64 x20]∧
 ∃x21 h22,EvC Tryz.prog O 90 [.int .i64 x20] h13 (.int .i64 x21) h22∧
 vcond (eqI x21 4)
 (isAddr a10 fun b23 f24=>
 vreq (Nat.blt 0 n11)
 (∃x25,readAt h22 b23 (f24+0) 1=some [.int .i64 x25]∧
 ∃x26 x27 s28 a29 n30 c31 h32,EvC Tryz.prog O 149 [.bool (eqI x25 1)] h22 (.agg #[.int .i64 x26,.int .i64 x27,.string s28,.slice a29 n30 c31]) h32∧
 vreq (canW h32 g1.nx 0 [.int .i64 x26,.int .i64 x27,.string s28,.slice a29 n30 c31])
 (let g33:=h32.wr g1.nx 0 [.int .i64 x26,.int .i64 x27,.string s28,.slice a29 n30 c31]
 ∃x34 x35 s36 a37 n38 c39,readAt g33 g1.nx 0 4=some [.int .i64 x34,.int .i64 x35,.string s36,.slice a37 n38 c39]∧
 Q (.tuple #[.agg #[.int .i64 x34,.int .i64 x35,.string s36,.slice a37 n38 c39],.int .i64 0]) g33)))
 (∃a40 n41 c42,readAt h22 h.nx 0 1=some [.slice a40 n41 c42]∧
 isNat x1 fun n43=>
 isAddr a40 fun b44 f45=>
 vreq (Nat.blt n43 n41)
 (∃x46,readAt h22 b44 (f45+(n43*1)) 1=some [.int .i64 x46]∧
 ∃x47 h48,EvC Tryz.prog O 90 [.int .i64 x46] h22 (.int .i64 x47) h48∧
 vcond (!(eqI x47 3))
 (vreq (canW h48 g1.nx 0 [.int .i64 0,.int .i64 0,.string (ByteArray.mk #[]),.slice none 0 0])
 (let g49:=h48.wr g1.nx 0 [.int .i64 0,.int .i64 0,.string (ByteArray.mk #[]),.slice none 0 0]
 ∃x50 x51 s52 a53 n54 c55,readAt g49 g1.nx 0 4=some [.int .i64 x50,.int .i64 x51,.string s52,.slice a53 n54 c55]∧
 Q (.tuple #[.agg #[.int .i64 x50,.int .i64 x51,.string s52,.slice a53 n54 c55],.int .i64 7]) g49))
 (I136_0 O Q a0_0 n0_0 c0_0 x0_1 a0_2 n0_2 c0_2 x1 g1.nx 0 a10 n11 c12 (ByteArray.mk #[]) 0 h48))))
theorem rk136 {O Q} (a0_0 n0_0 c0_0 x0_1 a0_2 n0_2 c0_2 x1){h:Hp}(hO:O 136 [.agg #[.slice a0_0 n0_0 c0_0,.int .i64 x0_1,.slice a0_2 n0_2 c0_2],.int .i64 x1] h=none)(hh:T136 O Q a0_0 n0_0 c0_0 x0_1 a0_2 n0_2 c0_2 x1 h):Ret Tryz.prog O 136 [.agg #[.slice a0_0 n0_0 c0_0,.int .i64 x0_1,.slice a0_2 n0_2 c0_2],.int .i64 x1] h Q:=
 .of (c:=b136) Tryz.func136 (by kernel_rfl) hO (V_okE (tb:=lv136) (cuts:=[]) 500 hh (by kernel_rfl))
def T136_0 (O:CallF)(Q:Value→Hp→Prop)(a0_0:Option Addr)(n0_0 c0_0:Nat)(x0_1:Int)(a0_2:Option Addr)(n0_2 c0_2:Nat)(x1:Int)(b4 f4:Nat)(a6:Option Addr)(n6 c6:Nat)(s7:ByteArray)(x8:Int)(h:Hp):Prop:=
 vcond (ltI x8 (Int.ofNat n6))
 (isNat x8 fun n101=>
 isAddr a6 fun b102 f103=>
 vreq (Nat.blt n101 n6)
 (∃x104,readAt h b102 (f103+(n101*1)) 1=some [.int .i64 x104]∧
 vreq (Nat.ble (ByteArray.size s7+ByteArray.size (Utf8.encode (wrapF .i32 x104))) 9223372036854775807)
 (I136_0 O Q a0_0 n0_0 c0_0 x0_1 a0_2 n0_2 c0_2 x1 b4 f4 a6 n6 c6 (s7++(Utf8.encode (wrapF .i32 x104))) (wrapF .i64 (x8+1)) h)))
 (∃x105 x106 s107 a108 n109 c110 h111,EvC Tryz.prog O 59 [.string s7] h (.agg #[.int .i64 x105,.int .i64 x106,.string s107,.slice a108 n109 c110]) h111∧
 vreq (canW h111 b4 f4 [.int .i64 x105,.int .i64 x106,.string s107,.slice a108 n109 c110])
 (let g112:=h111.wr b4 f4 [.int .i64 x105,.int .i64 x106,.string s107,.slice a108 n109 c110]
 ∃x113 x114 s115 a116 n117 c118,readAt g112 b4 f4 4=some [.int .i64 x113,.int .i64 x114,.string s115,.slice a116 n117 c118]∧
 Q (.tuple #[.agg #[.int .i64 x113,.int .i64 x114,.string s115,.slice a116 n117 c118],.int .i64 0]) g112))
theorem I136_0.of {O Q} (a0_0 n0_0 c0_0 x0_1 a0_2 n0_2 c0_2 x1 b4 f4 a6 n6 c6 s7 x8){h:Hp}(hh:T136_0 O Q a0_0 n0_0 c0_0 x0_1 a0_2 n0_2 c0_2 x1 b4 f4 a6 n6 c6 s7 x8 h):I136_0 O Q a0_0 n0_0 c0_0 x0_1 a0_2 n0_2 c0_2 x1 b4 f4 a6 n6 c6 s7 x8 h:=
 RKL.ofE (tb:=lv136) (cuts:=[]) 500 hh fun _=>by kernel_rfl
noncomputable def b34:Code:=(Tryz.f34.body).getD .skip
def lv34:List (Nat×List Nat):=[]
def T34 (O:CallF)(Q:Value→Hp→Prop)(a0_0:Option Addr)(n0_0 c0_0:Nat)(x0_1:Int)(a0_2:Option Addr)(n0_2 c0_2:Nat)(x1:Int)(h:Hp):Prop:=
 let g1:=h.add (.cells [.slice a0_0 n0_0 c0_0,.int .i64 x0_1,.slice a0_2 n0_2 c0_2] 24 .fix)
 let g2:=g1.add (.cells [.int .i64 0,.int .i64 0,.string (ByteArray.mk #[]),.slice none 0 0] 46 .fix)
 ∃a3 n4 c5 x6 a7 n8 c9,readAt g2 h.nx 0 3=some [.slice a3 n4 c5,.int .i64 x6,.slice a7 n8 c9]∧
 ∃a10 n11 c12 x13 h14,EvC Tryz.prog O 37 [.agg #[.slice a3 n4 c5,.int .i64 x6,.slice a7 n8 c9]] g2 (.tuple #[.slice a10 n11 c12,.int .i64 x13]) h14∧
 vcond (eqI x13 0)
 (∃q15 h16,EvC Tryz.prog O 102 [.slice a10 n11 c12,.int .i64 x1] h14 (.bool q15) h16∧
 vcond (!q15)
 (vreq (canW h16 g1.nx 0 [.int .i64 0,.int .i64 0,.string (ByteArray.mk #[]),.slice none 0 0])
 (let g17:=h16.wr g1.nx 0 [.int .i64 0,.int .i64 0,.string (ByteArray.mk #[]),.slice none 0 0]
 ∃x18 x19 s20 a21 n22 c23,readAt g17 g1.nx 0 4=some [.int .i64 x18,.int .i64 x19,.string s20,.slice a21 n22 c23]∧
 Q (.tuple #[.agg #[.int .i64 x18,.int .i64 x19,.string s20,.slice a21 n22 c23],.int .i64 2]) g17))
 (vcond (!(eqI x13 0))
 (vreq (canW h16 g1.nx 0 [.int .i64 0,.int .i64 0,.string (ByteArray.mk #[]),.slice none 0 0])
 (let g24:=h16.wr g1.nx 0 [.int .i64 0,.int .i64 0,.string (ByteArray.mk #[]),.slice none 0 0]
 ∃x25 x26 s27 a28 n29 c30,readAt g24 g1.nx 0 4=some [.int .i64 x25,.int .i64 x26,.string s27,.slice a28 n29 c30]∧
 Q (.tuple #[.agg #[.int .i64 x25,.int .i64 x26,.string s27,.slice a28 n29 c30],.int .i64 x13]) g24))
 (∃a31 n32 c33 x34 a35 n36 c37,readAt h16 h.nx 0 3=some [.slice a31 n32 c33,.int .i64 x34,.slice a35 n36 c37]∧
 ∃x38 x39 s40 a41 n42 c43 x44 x45 h46,EvC Tryz.prog O 103 [.agg #[.slice a31 n32 c33,.int .i64 x34,.slice a35 n36 c37],.int .i64 x1,.int .i64 200,.int .i64 8] h16 (.agg #[.int .i64 x38,.int .i64 x39,.string s40,.slice a41 n42 c43,.int .i64 x44,.int .i64 x45]) h46∧
 let g47:=h46.add (.cells [.int .i64 0,.int .i64 0,.string (ByteArray.mk #[]),.slice none 0 0,.int .i64 0,.int .i64 0] 144 .fix)
 vreq (canW g47 h46.nx 0 [.int .i64 x38,.int .i64 x39,.string s40,.slice a41 n42 c43,.int .i64 x44,.int .i64 x45])
 (let g48:=g47.wr h46.nx 0 [.int .i64 x38,.int .i64 x39,.string s40,.slice a41 n42 c43,.int .i64 x44,.int .i64 x45]
 ∃x49,readAt g48 h46.nx 5 1=some [.int .i64 x49]∧
 vcond (!(eqI x49 0))
 (let g50:=g48.rsv 5
 ∃x51,readAt g50 h46.nx 5 1=some [.int .i64 x51]∧
 vreq (canW (g50.grd [h46.nx]) g1.nx 0 [.int .i64 0,.int .i64 0,.string (ByteArray.mk #[]),.slice none 0 0])
 (let g52:=(g50.grd [h46.nx]).wr g1.nx 0 [.int .i64 0,.int .i64 0,.string (ByteArray.mk #[]),.slice none 0 0]
 let g53:=g52.rst g50
 ∃x54 x55 s56 a57 n58 c59,readAt g53 g1.nx 0 4=some [.int .i64 x54,.int .i64 x55,.string s56,.slice a57 n58 c59]∧
 Q (.tuple #[.agg #[.int .i64 x54,.int .i64 x55,.string s56,.slice a57 n58 c59],.int .i64 x51]) g53))
 (∃x60 x61 s62 a63 n64 c65,readAt g48 h46.nx 0 4=some [.int .i64 x60,.int .i64 x61,.string s62,.slice a63 n64 c65]∧
 vreq (canW g48 g1.nx 0 [.int .i64 x60,.int .i64 x61,.string s62,.slice a63 n64 c65])
 (let g66:=g48.wr g1.nx 0 [.int .i64 x60,.int .i64 x61,.string s62,.slice a63 n64 c65]
 ∃x67 x68 s69 a70 n71 c72,readAt g66 g1.nx 0 4=some [.int .i64 x67,.int .i64 x68,.string s69,.slice a70 n71 c72]∧
 Q (.tuple #[.agg #[.int .i64 x67,.int .i64 x68,.string s69,.slice a70 n71 c72],.int .i64 0]) g66))))))
 (vcond (!(eqI x13 0))
 (vreq (canW h14 g1.nx 0 [.int .i64 0,.int .i64 0,.string (ByteArray.mk #[]),.slice none 0 0])
 (let g73:=h14.wr g1.nx 0 [.int .i64 0,.int .i64 0,.string (ByteArray.mk #[]),.slice none 0 0]
 ∃x74 x75 s76 a77 n78 c79,readAt g73 g1.nx 0 4=some [.int .i64 x74,.int .i64 x75,.string s76,.slice a77 n78 c79]∧
 Q (.tuple #[.agg #[.int .i64 x74,.int .i64 x75,.string s76,.slice a77 n78 c79],.int .i64 x13]) g73))
 (∃a80 n81 c82 x83 a84 n85 c86,readAt h14 h.nx 0 3=some [.slice a80 n81 c82,.int .i64 x83,.slice a84 n85 c86]∧
 ∃x87 x88 s89 a90 n91 c92 x93 x94 h95,EvC Tryz.prog O 103 [.agg #[.slice a80 n81 c82,.int .i64 x83,.slice a84 n85 c86],.int .i64 x1,.int .i64 200,.int .i64 8] h14 (.agg #[.int .i64 x87,.int .i64 x88,.string s89,.slice a90 n91 c92,.int .i64 x93,.int .i64 x94]) h95∧
 let g96:=h95.add (.cells [.int .i64 0,.int .i64 0,.string (ByteArray.mk #[]),.slice none 0 0,.int .i64 0,.int .i64 0] 144 .fix)
 vreq (canW g96 h95.nx 0 [.int .i64 x87,.int .i64 x88,.string s89,.slice a90 n91 c92,.int .i64 x93,.int .i64 x94])
 (let g97:=g96.wr h95.nx 0 [.int .i64 x87,.int .i64 x88,.string s89,.slice a90 n91 c92,.int .i64 x93,.int .i64 x94]
 ∃x98,readAt g97 h95.nx 5 1=some [.int .i64 x98]∧
 vcond (!(eqI x98 0))
 (let g99:=g97.rsv 5
 ∃x100,readAt g99 h95.nx 5 1=some [.int .i64 x100]∧
 vreq (canW (g99.grd [h95.nx]) g1.nx 0 [.int .i64 0,.int .i64 0,.string (ByteArray.mk #[]),.slice none 0 0])
 (let g101:=(g99.grd [h95.nx]).wr g1.nx 0 [.int .i64 0,.int .i64 0,.string (ByteArray.mk #[]),.slice none 0 0]
 let g102:=g101.rst g99
 ∃x103 x104 s105 a106 n107 c108,readAt g102 g1.nx 0 4=some [.int .i64 x103,.int .i64 x104,.string s105,.slice a106 n107 c108]∧
 Q (.tuple #[.agg #[.int .i64 x103,.int .i64 x104,.string s105,.slice a106 n107 c108],.int .i64 x100]) g102))
 (∃x109 x110 s111 a112 n113 c114,readAt g97 h95.nx 0 4=some [.int .i64 x109,.int .i64 x110,.string s111,.slice a112 n113 c114]∧
 vreq (canW g97 g1.nx 0 [.int .i64 x109,.int .i64 x110,.string s111,.slice a112 n113 c114])
 (let g115:=g97.wr g1.nx 0 [.int .i64 x109,.int .i64 x110,.string s111,.slice a112 n113 c114]
 ∃x116 x117 s118 a119 n120 c121,readAt g115 g1.nx 0 4=some [.int .i64 x116,.int .i64 x117,.string s118,.slice a119 n120 c121]∧
 Q (.tuple #[.agg #[.int .i64 x116,.int .i64 x117,.string s118,.slice a119 n120 c121],.int .i64 0]) g115)))))
theorem rk34 {O Q} (a0_0 n0_0 c0_0 x0_1 a0_2 n0_2 c0_2 x1){h:Hp}(hO:O 34 [.agg #[.slice a0_0 n0_0 c0_0,.int .i64 x0_1,.slice a0_2 n0_2 c0_2],.int .i64 x1] h=none)(hh:T34 O Q a0_0 n0_0 c0_0 x0_1 a0_2 n0_2 c0_2 x1 h):Ret Tryz.prog O 34 [.agg #[.slice a0_0 n0_0 c0_0,.int .i64 x0_1,.slice a0_2 n0_2 c0_2],.int .i64 x1] h Q:=
 .of (c:=b34) Tryz.func34 (by kernel_rfl) hO (V_okE (tb:=lv34) (cuts:=[]) 500 hh (by kernel_rfl))
noncomputable def b149:Code:=(Tryz.f149.body).getD .skip
def lv149:List (Nat×List Nat):=[]
def T149 (O:CallF)(Q:Value→Hp→Prop)(q0:Bool)(h:Hp):Prop:=
 let g1:=h.add (.cells [.int .i64 0,.int .i64 0,.string (ByteArray.mk #[]),.slice none 0 0] 46 .fix)
 vcond q0
 (vreq (canW g1 h.nx 0 [.int .i64 2,.int .i64 1,.string (ByteArray.mk #[]),.slice none 0 0])
 (let g2:=g1.wr h.nx 0 [.int .i64 2,.int .i64 1,.string (ByteArray.mk #[]),.slice none 0 0]
 ∃x3 x4 s5 a6 n7 c8,readAt g2 h.nx 0 4=some [.int .i64 x3,.int .i64 x4,.string s5,.slice a6 n7 c8]∧
 Q (.agg #[.int .i64 x3,.int .i64 x4,.string s5,.slice a6 n7 c8]) g2))
 (vreq (canW g1 h.nx 0 [.int .i64 2,.int .i64 0,.string (ByteArray.mk #[]),.slice none 0 0])
 (let g9:=g1.wr h.nx 0 [.int .i64 2,.int .i64 0,.string (ByteArray.mk #[]),.slice none 0 0]
 ∃x10 x11 s12 a13 n14 c15,readAt g9 h.nx 0 4=some [.int .i64 x10,.int .i64 x11,.string s12,.slice a13 n14 c15]∧
 Q (.agg #[.int .i64 x10,.int .i64 x11,.string s12,.slice a13 n14 c15]) g9))
theorem rk149 {O Q} (q0){h:Hp}(hO:O 149 [.bool q0] h=none)(hh:T149 O Q q0 h):Ret Tryz.prog O 149 [.bool q0] h Q:=
 .of (c:=b149) Tryz.func149 (by kernel_rfl) hO (V_okE (tb:=lv149) (cuts:=[]) 500 hh (by kernel_rfl))
noncomputable def b59:Code:=(Tryz.f59.body).getD .skip
def lv59:List (Nat×List Nat):=[]
def T59 (O:CallF)(Q:Value→Hp→Prop)(s0:ByteArray)(h:Hp):Prop:=
 let g1:=h.add (.cells [.int .i64 0,.int .i64 0,.string (ByteArray.mk #[]),.slice none 0 0] 46 .fix)
 vreq (canW g1 h.nx 0 [.int .i64 3,.int .i64 0,.string s0,.slice none 0 0])
 (let g2:=g1.wr h.nx 0 [.int .i64 3,.int .i64 0,.string s0,.slice none 0 0]
 ∃x3 x4 s5 a6 n7 c8,readAt g2 h.nx 0 4=some [.int .i64 x3,.int .i64 x4,.string s5,.slice a6 n7 c8]∧
 Q (.agg #[.int .i64 x3,.int .i64 x4,.string s5,.slice a6 n7 c8]) g2)
theorem rk59 {O Q} (s0){h:Hp}(hO:O 59 [.string s0] h=none)(hh:T59 O Q s0 h):Ret Tryz.prog O 59 [.string s0] h Q:=
 .of (c:=b59) Tryz.func59 (by kernel_rfl) hO (V_okE (tb:=lv59) (cuts:=[]) 500 hh (by kernel_rfl))
noncomputable def b44:Code:=(Tryz.f44.body).getD .skip
def lv44:List (Nat×List Nat):=[]
def T44 (O:CallF)(Q:Value→Hp→Prop)(x0_0 x0_1:Int)(s0_2:ByteArray)(a0_3:Option Addr)(n0_3 c0_3:Nat)(h:Hp):Prop:=
 let g1:=h.add (.cells [.int .i64 x0_0,.int .i64 x0_1,.string s0_2,.slice a0_3 n0_3 c0_3] 46 .fix)
 ∃x2 x3 s4 a5 n6 c7,readAt g1 h.nx 0 4=some [.int .i64 x2,.int .i64 x3,.string s4,.slice a5 n6 c7]∧
 ∃x8 h9,EvC Tryz.prog O 92 [.agg #[.int .i64 x2,.int .i64 x3,.string s4,.slice a5 n6 c7],.int .i64 200,.int .i64 8] g1 (.int .i64 x8) h9∧
 vcond (!(ltI x8 0))
 (∃x10 x11 s12 a13 n14 c15,readAt h9 h.nx 0 4=some [.int .i64 x10,.int .i64 x11,.string s12,.slice a13 n14 c15]∧
 ∃q16 h17,EvC Tryz.prog O 107 [.agg #[.int .i64 x10,.int .i64 x11,.string s12,.slice a13 n14 c15]] h9 (.bool q16) h17∧
 Q (.bool q16) h17)
 (Q (.bool false) h9)
theorem rk44 {O Q} (x0_0 x0_1 s0_2 a0_3 n0_3 c0_3){h:Hp}(hO:O 44 [.agg #[.int .i64 x0_0,.int .i64 x0_1,.string s0_2,.slice a0_3 n0_3 c0_3]] h=none)(hh:T44 O Q x0_0 x0_1 s0_2 a0_3 n0_3 c0_3 h):Ret Tryz.prog O 44 [.agg #[.int .i64 x0_0,.int .i64 x0_1,.string s0_2,.slice a0_3 n0_3 c0_3]] h Q:=
 .of (c:=b44) Tryz.func44 (by kernel_rfl) hO (V_okE (tb:=lv44) (cuts:=[]) 500 hh (by kernel_rfl))
noncomputable def b58:Code:=(Tryz.f58.body).getD .skip
def lv58:List (Nat×List Nat):=[]
def T58 (O:CallF)(Q:Value→Hp→Prop)(x0:Int)(h:Hp):Prop:=
 let g1:=h.add (.cells [.int .i64 0,.int .i64 0,.string (ByteArray.mk #[]),.slice none 0 0] 46 .fix)
 vreq (canW g1 h.nx 0 [.int .i64 1,.int .i64 x0,.string (ByteArray.mk #[]),.slice none 0 0])
 (let g2:=g1.wr h.nx 0 [.int .i64 1,.int .i64 x0,.string (ByteArray.mk #[]),.slice none 0 0]
 ∃x3 x4 s5 a6 n7 c8,readAt g2 h.nx 0 4=some [.int .i64 x3,.int .i64 x4,.string s5,.slice a6 n7 c8]∧
 Q (.agg #[.int .i64 x3,.int .i64 x4,.string s5,.slice a6 n7 c8]) g2)
theorem rk58 {O Q} (x0){h:Hp}(hO:O 58 [.int .i64 x0] h=none)(hh:T58 O Q x0 h):Ret Tryz.prog O 58 [.int .i64 x0] h Q:=
 .of (c:=b58) Tryz.func58 (by kernel_rfl) hO (V_okE (tb:=lv58) (cuts:=[]) 500 hh (by kernel_rfl))
end Go.Proofs.YtngcjpkccnfjiaaGreatDoor
namespace Go.Proofs.YtngcjpkccnfjiaaGreatDoor
open Go Go.Ev
def validF (v:Vl):Bool:=fitsF v&&shapedF v
mutual
def needF:Vl→Nat
 | .mk k _ t ps=>if k=1 then 0 else if k=2 then 2 else 1+t.size+ps.length+needL ps
def needL:List Vl→Nat
 | []=>0
 |v::r=>needF v+needL r
end
theorem needF_mk (k n:Int)(t:ByteArray)(ps:List Vl):needF (.mk k n t ps)=if k=1 then 0 else if k=2 then 2 else 1+t.size+ps.length+needL ps:=by rw[needF]
mutual
def deepF:Vl→Bool
 | .mk _ _ _ ps=>deepL ps||ltI 20 (Int.ofNat ps.length)
def deepL:List Vl→Bool
 | []=>false
 |v::r=>deepF v||deepL r
end
theorem deepF_mk (k n:Int)(t:ByteArray)(ps:List Vl):deepF (.mk k n t ps)=(deepL ps||ltI 20 (Int.ofNat ps.length)):=by rw[deepF]
mutual
theorem need_le: ∀(v:Vl)(l d:Int),-1≤l→0≤weighF v l d→briefF v=true→(needF v:Int)+1≤33*(l-weighF v l d)
 | .mk k n t ps,l,d,h1,h,hb=>by
   have hb':=hb
   simp only[briefF,Bool.and_eq_true]at hb'
   have ht:t.size≤30:=by
    have:=hb'.2
    rw[Bool.not_eq_true',show(30:Int)=Int.ofNat 30 from rfl,ltI_nat]at this
    have: ¬(30<t.size):=fun h=>by rw[blt_t h]at this;cases this
    omega
   simp only[weighF]at h ⊢
   split at h
   · omega
   · rename_i hc
     rw[if_neg hc,needF_mk]
     have:=needL_le ps (l-1) (d-1) (by omega) h hb'.1
     have:=(weighL_le ps (l-1) (d-1) (by omega)).2
     split
     · omega
     · split<;>omega
theorem needL_le: ∀(ps:List Vl)(l d:Int),-1≤l→0≤weighL ps l d→briefL ps=true→(needL ps:Int)+ps.length≤33*(l-weighL ps l d)
 | [],l,d,h1,h,hb=>by simp only[weighL,needL,List.length_nil];omega
 |v::r,l,d,h1,h,hb=>by
  simp only[briefL,Bool.and_eq_true]at hb
  simp only[weighL]at h ⊢
  split at h
  · omega
  · rename_i hc
    rw[if_neg hc]
    have a:=weighF_le v l d h1
    have b:=weighL_le r (weighF v l d) d a.1
    have:=need_le v l d h1 (by omega) hb.1
    have:=needL_le r (weighF v l d) d a.1 h hb.2
    simp only[needL,List.length_cons]
    omega
end
theorem Nice.need {v:Vl}(N:Nice v):needF v<40000000:=by
 obtain⟨⟨l,d,h1,h2,h3⟩,hb⟩:=N
 have:=need_le v l d h1 h3 hb
 omega
theorem Nice.needL {k n:Int}{t:ByteArray}{ps:List Vl}(N:Nice (.mk k n t ps)):needL ps+ps.length<40000000:=by
 obtain⟨⟨l,d,h1,h2,h3⟩,hb⟩:=N
 simp only[briefF,Bool.and_eq_true]at hb
 simp only[weighF]at h3
 split at h3
 · omega
 · have:=needL_le ps (l-1) (d-1) (by omega) h3 hb.1
   omega
theorem needL_drop: ∀(ps:List Vl)(i:Nat)(hi:i<ps.length),needL (ps.drop i)=needF ps[i]+needL (ps.drop (i+1)):=by
 intro ps i hi
 rw[List.drop_eq_getElem_cons hi,needL]
section
variable {O:CallF}(hO:Oth O)
include hO
theorem ct134 {h:Hp}(v:Vl){vs:List Value}(V:VA h v vs)(N:Nice v){g:Hp}(F:Ft h g)(ok:g.Ok):Ret Tryz.prog O 134 [.agg vs.toArray] g fun r g'=>r= .bool (validF v)∧Kp g.nx g g':=by
 have c1:=fun g6 f6 ok6=>ct146 hO v V (g:=g6) f6 ok6
 have c2:=fun g6 f6 ok6=>ct147 hO v V N (g:=g6) f6 ok6
 obtain⟨v1,v2,v3,v4,v5,v6,rfl⟩:=V.form
 refine rk134 (hO:=hO _ _ _ (by decide)) (hh:= ?_) ..
 unfold T134
 intro g1
 have S:Know g g1 [_]:=(Know.nil ok).add _
 obtain⟨r,h9,e9,rfl,K9⟩:=c1 g1 (F.tr S.ft) S.ok
 refine⟨_,_,_,_,_,_,S.rd 0 rfl rfl rfl,_,_,e9,?_⟩
 have S:Know g h9 [_]:=S.call K9
 unfold validF
 cases hf:fitsF v with
 |false=>exact vcond_f rfl ⟨rfl,S.kp⟩
 |true=>
  obtain⟨r,h17,e17,rfl,K17⟩:=c2 h9 (F.tr S.ft) S.ok
  exact vcond_t rfl ⟨_,_,_,_,_,_,S.rd 0 rfl rfl rfl,_,_,e17,by rw[Bool.true_and],(S.call K17).kp⟩
theorem ct94 {h:Hp}(v:Vl){vs:List Value}(V:VA h v vs)(N:Nice v){g:Hp}(F:Ft h g)(ok:g.Ok):Ret Tryz.prog O 94 [.agg vs.toArray] g fun r g'=>r= .int .i64 (bif validF v then 0 else 2)∧Kp g.nx g g':=by
 have c1:=fun g6 f6 ok6=>ct134 hO v V N (g:=g6) f6 ok6
 obtain⟨v1,v2,v3,v4,v5,v6,rfl⟩:=V.form
 refine rk94 (hO:=hO _ _ _ (by decide)) (hh:= ?_) ..
 unfold T94
 intro g1
 have S:Know g g1 [_]:=(Know.nil ok).add _
 obtain⟨r,h9,e9,rfl,K9⟩:=c1 g1 (F.tr S.ft) S.ok
 refine⟨_,_,_,_,_,_,S.rd 0 rfl rfl rfl,_,_,e9,?_⟩
 have S:Know g h9 [_]:=S.call K9
 cases hf:validF v with
 |false=>exact vcond_t rfl ⟨rfl,S.kp⟩
 |true=>exact vcond_f rfl ⟨rfl,S.kp⟩
theorem ct148 {h:Hp}(v w:Vl){vs us:List Value}(V:VA h v vs)(U:VA h w us)(N:Nice v)(M:Nice w){g:Hp}(F:Ft h g)(ok:g.Ok):Ret Tryz.prog O 148 [.agg vs.toArray,.agg us.toArray] g fun r g'=>r=(bif validF v&&validF w then .tuple #[.int .i64 (cmpF v w),.int .i64 0]else .tuple #[.int .i64 0,.int .i64 2])∧Kp g.nx g g':=by
 have c1:=fun g6 f6 ok6=>ct134 hO v V N (g:=g6) f6 ok6
 have c2:=fun g6 f6 ok6=>ct134 hO w U M (g:=g6) f6 ok6
 have c3:=fun g6 f6 ok6=>ct160 hO v V N.1 U (g:=g6) f6 ok6
 obtain⟨v1,v2,v3,v4,v5,v6,rfl⟩:=V.form
 obtain⟨u1,u2,u3,u4,u5,u6,rfl⟩:=U.form
 refine rk148 (hO:=hO _ _ _ (by decide)) (hh:= ?_) ..
 unfold T148
 intro g1
 have S:Know g g1 [_]:=(Know.nil ok).add _
 intro g2
 have S:Know g g2 [_,_]:=S.add _
 obtain⟨r,h10,e10,rfl,K10⟩:=c1 g2 (F.tr S.ft) S.ok
 refine⟨_,_,_,_,_,_,S.rd 1 rfl rfl rfl,_,_,e10,?_⟩
 have S:Know g h10 [_,_]:=S.call K10
 cases hf:validF v with
 |false=>exact vcond_t rfl ⟨rfl,S.kp⟩
 |true=>
 obtain⟨r,h18,e18,rfl,K18⟩:=c2 h10 (F.tr S.ft) S.ok
 refine vcond_f rfl ⟨_,_,_,_,_,_,S.rd 0 rfl rfl rfl,_,_,e18,?_⟩
 have S:Know g h18 [_,_]:=S.call K18
 cases hg:validF w with
 |false=>exact vcond_t rfl ⟨rfl,S.kp⟩
 |true=>
 obtain⟨r,h32,e32,rfl,K32⟩:=c3 h18 (F.tr S.ft) S.ok
 unfold validF at hf hg
 rw[Bool.and_eq_true]at hf hg
 exact vcond_f rfl ⟨_,_,_,_,_,_,S.rd 1 rfl rfl rfl,_,_,_,_,_,_,S.rd 0 rfl rfl rfl,_,_,e32,by rw[cmp_same v hf.2 w hg.2];rfl,(S.call K32).kp⟩
theorem ct44 {h:Hp}(v:Vl){vs:List Value}(V:VA h v vs)(N:Nice v){g:Hp}(K:Kp h.nx h g)(ok:g.Ok):Ret Tryz.prog O 44 [.agg vs.toArray] g fun r g'=>r= .bool (validF v)∧Kp g.nx g g':=by
 have c1:=fun g6 k6 ok6=>ct92 hO V (g:=g6) k6 ok6 200 8 (by omega) (by omega) (by omega) (by omega)
 have c2:=fun g6 k6 ok6=>ct107 hO v V N (g:=g6) k6 ok6
 obtain⟨v1,v2,v3,v4,v5,v6,rfl⟩:=V.form
 refine rk44 (hO:=hO _ _ _ (by decide)) (hh:= ?_) ..
 unfold T44
 intro g1
 have S:Know g g1 [_]:=(Know.nil ok).add _
 obtain⟨r,h9,e9,rfl,K9⟩:=c1 g1 (K.trans (S.kp.le K.nx)) S.ok
 refine⟨_,_,_,_,_,_,S.rd 0 rfl rfl rfl,_,_,e9,?_⟩
 have S:Know g h9 [_]:=S.call K9
 unfold validF fitsF
 cases hf: !(ltI (weighF v 200 8) 0)with
 |false=>exact vcond_f rfl ⟨rfl,S.kp⟩
 |true=>
  obtain⟨r,h17,e17,rfl,K17⟩:=c2 h9 (K.trans (S.kp.le K.nx)) S.ok
  exact vcond_t rfl ⟨_,_,_,_,_,_,S.rd 0 rfl rfl rfl,_,_,e17,by rw[Bool.true_and],(S.call K17).kp⟩
theorem ct97 {h:Hp}: ∀(v:Vl){vs:List Value}(_:VA h v vs),Nice v→ ∀ {g:Hp},Ft h g→g.Ok→Ret Tryz.prog O 97 [.agg vs.toArray] g fun r g'=>r= .int .i64 (Int.ofNat (needF v))∧Kp g.nx g g':=by
 refine Vl.ind fun k n t ps ih=> ?_
 intro vs V N g F ok
 obtain⟨fl,ft,fp⟩:=N.parts
 have nl:=N.needL
 obtain⟨a,m,c,rfl,P⟩:=PA.of V
 have p1:=P.1
 subst p1
 refine rk97 (hO:=hO _ _ _ (by decide)) (hh:= ?_) ..
 unfold T97
 intro g1
 have S:Know g g1 [ob g.nx (.cells [.int .i64 k,.int .i64 n,.string t,.slice a ps.length c] 46 .fix)]:=(Know.nil ok).add _
 rw[needF_mk]
 refine⟨_,S.rd 0 rfl rfl rfl,?_⟩
 by_cases k1:k=1
 · exact vcond_t (eqI_t k1) ⟨by rw[if_pos k1];rfl,S.kp⟩
 refine vcond_f (eqI_f k1) ⟨_,S.rd 0 rfl rfl rfl,?_⟩
 by_cases k2:k=2
 · exact vcond_t (eqI_t k2) ⟨by rw[if_neg k1,if_pos k2];rfl,S.kp⟩
 refine vcond_f (eqI_f k2) ⟨_,S.rd 0 rfl rfl rfl,_,_,_,S.rd 0 rfl rfl rfl,?_⟩
 rw[if_neg k1,if_neg k2,wrap64 (n:=1+Int.ofNat t.size) (by simp only[Int.ofNat_eq_natCast];omega) (by simp only[Int.ofNat_eq_natCast];omega),wrap64 (n:=1+Int.ofNat t.size+Int.ofNat ps.length) (by simp only[Int.ofNat_eq_natCast];omega) (by simp only[Int.ofNat_eq_natCast];omega)]
 have go: ∀(j i:Nat),i+j=ps.length→ ∀(x:Nat) (g2:Hp),x+needL (ps.drop i)=1+t.size+ps.length+needL ps→Know g g2 [ob g.nx (.cells [.int .i64 k,.int .i64 n,.string t,.slice a ps.length c] 46 .fix)]→
  I97_0 O (fun r g'=>r= .int .i64 (Int.ofNat (1+t.size+ps.length+needL ps))∧Kp g.nx g g') k n t a ps.length c g.nx 0 (Int.ofNat x) (Int.ofNat i) g2:=by
  intro j
  induction j with
  |zero=>
   intro i hi x g2 hx S
   refine I97_0.of (hh:= ?_) ..
   unfold T97_0
   rw[List.drop_of_length_le (by omega),needL]at hx
   exact⟨_,_,_,S.rd 0 rfl rfl rfl,vcond_f (by rw[ltI_nat];exact blt_f (by omega)) ⟨by rw[←hx];rfl,S.kp⟩⟩
  |succ j ihj=>
   intro i hi x g2 hx S
   have i1:i<ps.length:=by omega
   refine I97_0.of (hh:= ?_) ..
   unfold T97_0
   obtain⟨b,off,ea,ws,V',rv⟩:=P.2 i i1
   have rv:=rv (F.tr S.ft).get
   have hb:=(fp _ (List.getElem_mem i1)).need
   obtain⟨r,g4,e4,rfl,K4⟩:=ih i i1 V' (fp _ (List.getElem_mem i1)) (F.tr S.ft) S.ok
   obtain⟨v1,v2,v3,v4,v5,v6,rfl⟩:=V'.form
   refine⟨_,_,_,S.rd 0 rfl rfl rfl,vcond_t (by rw[ltI_nat];exact blt_t i1) ⟨_,_,_,S.rd 0 rfl rfl rfl,isNat_i ?_⟩⟩
   rw[ea]
   refine(show isAddr (some ⟨b,off,none⟩) _ from vreq_t (blt_t i1) ⟨_,_,_,_,_,_,rv,_,_,e4,?_⟩)
   rw[needL_drop ps i i1]at hx
   have e:wrapF .i64 (Int.ofNat x+Int.ofNat (needF ps[i]))=Int.ofNat (x+needF ps[i]):=wrap64 (n:=((x+needF ps[i]:Nat):Int)) (by omega) (by omega)
   rw[e,wrap_succ (by omega),←ea]
   exact ihj (i+1) (by omega) _ g4 (by omega) (S.call K4)
 exact go ps.length 0 (by omega) (1+t.size+ps.length) g1 rfl S
theorem ct98 {h:Hp}: ∀(v:Vl){vs:List Value}(_:VA h v vs),Nice v→ ∀ {g:Hp},Ft h g→g.Ok→Ret Tryz.prog O 98 [.agg vs.toArray] g fun r g'=>r= .bool (deepF v)∧Kp g.nx g g':=by
 refine Vl.ind fun k n t ps ih=> ?_
 intro vs V N g F ok
 obtain⟨fl,ft,fp⟩:=N.parts
 obtain⟨a,m,c,rfl,P⟩:=PA.of V
 have p1:=P.1
 subst p1
 refine rk98 (hO:=hO _ _ _ (by decide)) (hh:= ?_) ..
 unfold T98
 intro g1
 have S:Know g g1 [ob g.nx (.cells [.int .i64 k,.int .i64 n,.string t,.slice a ps.length c] 46 .fix)]:=(Know.nil ok).add _
 rw[deepF_mk]
 have go: ∀(j i:Nat),i+j=ps.length→ ∀(g2:Hp),Know g g2 [ob g.nx (.cells [.int .i64 k,.int .i64 n,.string t,.slice a ps.length c] 46 .fix)]→
  I98_0 O (fun r g'=>r= .bool (deepL (ps.drop i)||ltI 20 (Int.ofNat ps.length))∧Kp g.nx g g') k n t a ps.length c g.nx 0 false (Int.ofNat i) g2:=by
  intro j
  induction j with
  |zero=>
   intro i hi g2 S
   refine I98_0.of (hh:= ?_) ..
   unfold T98_0
   exact⟨_,_,_,S.rd 0 rfl rfl rfl,vcond_f (by rw[ltI_nat];exact blt_f (by omega)) ⟨_,_,_,S.rd 0 rfl rfl rfl,by rw[List.drop_of_length_le (by omega),deepL,Bool.false_or],S.kp⟩⟩
  |succ j ihj=>
   intro i hi g2 S
   have i1:i<ps.length:=by omega
   refine I98_0.of (hh:= ?_) ..
   unfold T98_0
   obtain⟨b,off,ea,ws,V',rv⟩:=P.2 i i1
   have rv:=rv (F.tr S.ft).get
   obtain⟨r,g4,e4,rfl,K4⟩:=ih i i1 V' (fp _ (List.getElem_mem i1)) (F.tr S.ft) S.ok
   obtain⟨v1,v2,v3,v4,v5,v6,rfl⟩:=V'.form
   rw[List.drop_eq_getElem_cons i1,deepL]
   refine⟨_,_,_,S.rd 0 rfl rfl rfl,vcond_t (by rw[ltI_nat];exact blt_t i1) ⟨_,_,_,S.rd 0 rfl rfl rfl,isNat_i ?_⟩⟩
   rw[ea]
   refine(show isAddr (some ⟨b,off,none⟩) _ from vreq_t (blt_t i1) ⟨_,_,_,_,_,_,rv,_,_,e4,?_⟩)
   rw[wrap_succ (by omega),←ea]
   have S4:=S.call K4
   cases hd:deepF ps[i]with
   |true=>exact vcond_t rfl ⟨rfl,S4.kp⟩
   |false=>exact vcond_f rfl (by simpa only[Bool.false_or] using ihj (i+1) (by omega) g4 S4)
 exact go ps.length 0 (by omega) g1 S
end
end Go.Proofs.YtngcjpkccnfjiaaGreatDoor
namespace Go.Proofs.YtngcjpkccnfjiaaGreatDoor
open Go Go.Ev
theorem putAt_map {α β:Type}(f:α→β){ts:List α}{k:Nat}{z:α}(hk:k<ts.length):putAt (ts.map f) k [f z]=(ts.set k z).map f:=by
 refine List.ext_getElem? fun i=> ?_
 rw[putAt_get _ _ _ (by simp;omega)]
 simp only[List.length_cons,List.length_nil,List.getElem?_map,List.getElem?_set]
 by_cases hi:k=i
 · subst hi;simp[hk]
 · rw[if_neg (by omega),if_neg hi]
def cellsG (W:List Int)(top:Nat):Nat→Nat→Option (List Nat)
 |0,_=>none
 |f+1,p=>if p<top then (if W.getD p 0<0∨goodB (hdS (W.getD p 0)) (hdK (W.getD p 0))=false then none else (cellsG W top f (p+1+(hdS (W.getD p 0)).toNat)).map (p:: ·))else if p=top then some []else none
def setAll (B:List Bool)(l:List Nat):List Bool:=l.foldl (fun b i=>b.set i true) B
theorem setAll_length (l:List Nat): ∀(B:List Bool),(setAll B l).length=B.length:=by
 induction l with
 |nil=>intro B;rfl
 |cons x l ih=>intro B;show(setAll (B.set x true) l).length=_;rw[ih];simp
theorem hdS_bnd {w:Int}(_h0:0≤w)(hg:goodB (hdS w) (hdK w)=true):0≤hdS w∧hdS w≤20:=by
 unfold goodB at hg
 split at hg
 · have:hdS w=1:=by simpa using hg
   omega
 · simp only[Bool.and_eq_true,decide_eq_true_eq]at hg
   omega
section
variable {O:CallF}(hO:Oth O)
include hO
theorem lp124 {g:Hp}{aw:Option Addr}{nw cw:Nat}{W:List Int}{top:Nat}(HW:IntsAt g aw nw W)(hR: ∀x∈W,In64 x)(htop:top≤W.length)(hl:W.length<1000000)(tb:Tb g){b1 o:Nat}(_hb1:g.nx≤b1)(ho:g.nx≤o)(hbo:b1≠o){rw1:Value}{c4:Nat}{B0:List Bool}(hB0:B0.length=W.length)
 {Q:Value→Hp→Prop} (a0:Option Addr) (n0 c0:Nat) (x0:Int) (a2:Option Addr) (n2 c2:Nat) (ax:Option Addr) (nx cx:Nat) (q3:Bool):
 ∀(f p:Nat) (B:List Bool) (h:Hp),1≤f→top<p+f→1≤p→p≤top+21→B.length=W.length→h.Ok→GdLt h g.nx→Kp g.nx g h→b1<h.nx→o<h.nx→h.get b1=some (.cells [.slice aw nw cw,.int .i64 (Int.ofNat top),rw1] 24 .fix)→h.get o=some (.cells (B.map Value.bool) 4 .fix)→
 (cellsG W top f p=none→ ∀a n c h',Kp g.nx g h'→Q (.tuple #[.slice a n c,.bool false]) h')→
 (∀l h',cellsG W top f p=some l→Kp g.nx g h'→o<h'.nx→h'.get o=some (.cells ((setAll B l).map Value.bool) 4 .fix)→Q (.tuple #[.slice (some ⟨o,0,none⟩) B0.length c4,.bool true]) h')→
 I124_0 O Q a0 n0 c0 x0 a2 n2 c2 b1 0 ax nx cx q3 (some ⟨o,0,none⟩) B0.length c4 (Int.ofNat p) h:=by
 intro f
 induction f with
 |zero=>intro p B h h1;omega
 |succ f ih=>
  intro p B h _ hf hp1 hp2 hBl ok gd kp hb1n hon gb go Qf Qt
  refine I124_0.of _ _ _ _ _ _ _ _ _ _ _ _ _ _ _ _ _ ?_
  unfold T124_0
  refine⟨_,read1 (i:=1) gb rfl,vcond_split (fun h1=> ?_) fun h1=> ?_⟩
  · have hpt:p<top:=by rw[ltI_nat]at h1;exact lt_of_blt h1
    have hpW:p<W.length:=by omega
    have x64:In64 W[p]:=hR _ (List.getElem_mem hpW)
    have gW:W.getD p 0=W[p]:=by simp[List.getD,List.getElem?_eq_getElem hpW]
    haveI f1:Ft g h:=kp.ex (Nat.le_refl _)
    refine⟨_,_,_,read1 (i:=0) gb rfl,isNat_i (HW.rd hpW (ct86 hO ok x64 fun h2 k2=> ?_))⟩
    intro g3
    have ok2:=ok.kp k2
    have gd2:=gd.kp k2
    have kp2:Kp g.nx g h2:=kp.trans (k2.le kp.nx)
    have gb2:h2.get b1=_:=(k2.get b1 hb1n).trans gb
    have go2:h2.get o=_:=(k2.get o hon).trans go
    have n2:=k2.nx
    obtain⟨c1,w1⟩:=two_wr ok2 117 (.int .i64 0) (.int .i64 0) (.int .i64 (hdS W[p])) (.int .i64 (hdK W[p])) rfl
    refine vreq_t c1 ?_
    intro g4
    have k4:Kp h2.nx h2 g4:=((Kp.refl _ h2).add (Nat.le_refl _) _).wr (Nat.le_refl _) _ _
    have n4:g4.nx=h2.nx+1:=by show(Hp.wr _ _ _ _).nx=_;rw[nx_wr,nx_add]
    have kp4:Kp g.nx g g4:=kp2.trans (k4.le kp2.nx)
    have gb4:g4.get b1=_:=(k4.get b1 (by omega)).trans gb2
    have go4:g4.get o=_:=(k4.get o (by omega)).trans go2
    haveI f4:Ft g g4:=kp4.ex (Nat.le_refl _)
    refine⟨_,_,_,read1 (i:=0) gb4 rfl,isNat_i (HW.rd hpW (vcond_split (fun h3=> ?_) fun h3=> ?_))⟩
    · have h3:=lt_of_t h3
      exact Qf (by unfold cellsG;rw[if_pos hpt,gW,if_pos (.inl h3)]) _ _ _ _ kp4
    · have h3:=not_lt_of_f h3
      refine⟨_,_,by rw[readAt_get w1 (by simp)];rfl,ct75 hO (tb.kp kp4 (by have:=tb.1;omega)) fun h5 k5=> ?_⟩
      have kp5:Kp g.nx g h5:=kp4.trans (k5.le (by have:=kp4.nx;omega))
      refine vcond_split (fun h6=>Qf (by unfold cellsG;rw[if_pos hpt,gW,if_pos (.inr (by simpa using h6))]) _ _ _ _ kp5) fun h6=> ?_
      have hgood:goodB (hdS W[p]) (hdK W[p])=true:=by simpa using h6
      have gb5:h5.get b1=_:=(k5.get b1 (by omega)).trans gb4
      have go5:h5.get o=_:=(k5.get o (by omega)).trans go4
      have gd5:GdLt h5 g.nx:=(gd2.kp k4).kp k5
      have ok5:h5.Ok:=(ok2.kp k4).kp k5
      have n5:=k5.nx
      have hlen:0+p*1+ [Value.bool true].length≤(B.map Value.bool).length:=by simp;omega
      refine isNat_i ?_
      show vreq _ _
      refine vreq_t (blt_t (by omega)) (vreq_t (canW_t go5 (by decide) (gd5.free ho) hlen rfl) ?_)
      intro g6
      have hw6:=wr_get go5 (by decide) (gd5.free ho) hlen rfl
      have kp6:Kp g.nx g g6:=kp5.wr ho _ _
      have go6:g6.get o=some (.cells ((B.set p true).map Value.bool) 4 .fix):=by
       rw[show g6.get o=_ from hw6,Nat.zero_add,Nat.mul_one,putAt_map Value.bool (by omega)]
      have gb6:g6.get b1=_:=(wr_get_ne _ _ _ _ hbo).trans gb5
      have n6:g6.nx=h5.nx:=nx_wr ..
      refine⟨_,read1 (i:=0) (by show g6.get h2.nx=_;rw[show g6.get h2.nx=h5.get h2.nx from wr_get_ne _ _ _ _ (by omega),k5.get _ (by omega)];exact w1) rfl,?_⟩
      obtain⟨s1,s2⟩:=hdS_bnd (by omega) hgood
      obtain⟨m,hm⟩: ∃m:Nat,hdS W[p]=Int.ofNat m:=Int.eq_ofNat_of_zero_le s1
      have hm2:m≤20:=by rw[hm]at s2;exact Int.ofNat_le.1 s2
      have e1:wrapF .i64 (Int.ofNat p+wrapF .i64 (1+hdS W[p]))=Int.ofNat (p+1+m):=by
       rw[hm,wrap64 (n:=1+Int.ofNat m) (by simp;omega) (by simp;omega),wrap64 (by simp;omega) (by simp;omega)]
       simp;omega
      rw[e1]
      refine ih (p+1+m) (B.set p true) g6 (by omega) (by omega) (by omega) (by omega) (by simpa using hBl) (ok5.wr _ _ _) (fun q hq=>gd5 q (by rwa [show g6.gd=h5.gd from gd_wr ..]at hq)) kp6 (by omega) (by omega) gb6 go6 (fun hc=>Qf ?_) fun l h' hc k' on gl=> ?_
      · unfold cellsG
        rw[if_pos hpt,gW,if_neg (by rw[hgood];simp;omega),hm]
        show(cellsG W top f (p+1+m)).map _=_
        rw[hc];rfl
      refine Qt (p::l) h' ?_ k' on gl
      unfold cellsG
      rw[if_pos hpt,gW,if_neg (by rw[hgood];simp;omega),hm]
      show(cellsG W top f (p+1+m)).map _=_
      rw[hc];rfl
  · have hpt: ¬p<top:=by rw[ltI_nat]at h1;exact not_lt_of_blt h1
    intro g7
    refine⟨_,read1 (i:=1) (by show(h.rsv 7).get b1=_;rw[get_rsv];exact gb) rfl,?_⟩
    have kp7:Kp g.nx g g7:=kp.rsv 7
    cases he:eqI (Int.ofNat p) (Int.ofNat top)with
    |false=>
     refine Qf ?_ _ _ _ _ kp7
     unfold cellsG
     rw[if_neg hpt,if_neg (fun hh=>by rw[hh]at he;simp[eqI_eq]at he)]
    |true=>
     have:p=top:=by have:=eq_of_t he;exact Int.ofNat_inj.1 this
     refine Qt [] g7 ?_ kp7 (by rw[nx_rsv];omega) (by rw[get_rsv];exact go)
     unfold cellsG
     rw[if_neg hpt,if_pos this]
theorem ct124 {g:Hp}(ok:g.Ok){aw:Option Addr}{nw cw:Nat}{W:List Int}{top:Nat}(HW:IntsAt g aw nw W)(hR: ∀x∈W,In64 x)(h1:1≤top)(htop:top≤W.length)(hl:W.length<1000000)(tb:Tb g){ar:Option Addr}{nr cr:Nat}
 {K:Option Addr→Nat→Nat→Bool→Hp→Prop} (Qf: ∀a n c h',Kp g.nx g h'→cellsG W top (top+1) 1=none→K a n c false h')
 (Qt: ∀l a n c h',cellsG W top (top+1) 1=some l→Kp g.nx g h'→BoolsAt h' a n (setAll (List.replicate W.length false) l)→(∀b off,a=some ⟨b,off,none⟩→g.nx≤b)→K a n c true h'):
 ∃a n c q h',EvT O 124 [.agg #[.slice aw nw cw,.int .i64 (Int.ofNat top),.slice ar nr cr]] g (.tuple #[.slice a n c,.bool q]) h'∧K a n c q h':=by
 have r:Ret Tryz.prog O 124 [.agg #[.slice aw nw cw,.int .i64 (Int.ofNat top),.slice ar nr cr]] g fun v h'=> ∃a n c q,v= .tuple #[.slice a n c,.bool q]∧Kp g.nx g h'∧match cellsG W top (top+1) 1 with
  |none=>q=false
  |some l=>q=true∧BoolsAt h' a n (setAll (List.replicate W.length false) l)∧ ∀b off,a=some ⟨b,off,none⟩→g.nx≤b:=by
  refine rk124 _ _ _ _ _ _ _ (hO _ _ _ (by decide)) ?_
  unfold T124
  intro g1
  refine⟨_,_,_,read1 (i:=0) (get_add_same ..) rfl,vreq_t (ble_t (Nat.le_refl _)) (vreq_t (ble_t ?_) (vreq_t (blt_t ?_) ?_))⟩
  · have:=HW.1;omega
  · have:=HW.1;unfold big;omega
  · intro g2
    have n1:g1.nx=g.nx+1:=rfl
    have n2:g2.nx=g.nx+2:=rfl
    have hW1:=HW.1
    have e1:List.flatten (List.replicate nw [Value.bool false])=(List.replicate W.length false).map Value.bool:=by
     rw[hW1,List.map_replicate]
     induction W.length with
     |zero=>rfl
     |succ n ih=>rw[List.replicate_succ,List.replicate_succ,List.flatten_cons,ih];rfl
    have k2:Kp g.nx g g2:=((Kp.refl _ g).add (Nat.le_refl _) _).add (Nat.le_succ _) _
    have:=lp124 hO HW hR htop hl tb (b1:=g.nx) (o:=g1.nx) (Nat.le_refl _) (by omega) (by omega) (rw1:= .slice ar nr cr) (c4:=nw) (B0:=List.replicate W.length false) (by simp) (Q:=fun v h'=> ∃a n c q,v= .tuple #[.slice a n c,.bool q]∧Kp g.nx g h'∧match cellsG W top (top+1) 1 with
     |none=>q=false
     |some l=>q=true∧BoolsAt h' a n (setAll (List.replicate W.length false) l)∧ ∀b off,a=some ⟨b,off,none⟩→g.nx≤b) aw nw cw (Int.ofNat top) ar nr cr none 0 0 false (top+1) 1 (List.replicate W.length false) g2 (by omega) (by omega) (Nat.le_refl _) (by omega) (by simp) ((ok.add _).add _) (fun q hq=>ok.lt q hq) k2 (by omega) (by omega) ((get_add_ne (by rw[nx_add];omega)).trans (get_add_same ..)) (by rw[show g2.get g1.nx=_ from get_add_same ..,e1]) (fun hc a n c h' k'=>⟨a,n,c,false,rfl,k',by rw[hc]⟩) (fun l h' hc k' on gl=>⟨_,_,_,true,rfl,k',by
      rw[hc]
      refine⟨rfl,⟨?_,.inr ⟨_,_,_,_,_,rfl,on,gl,by simp,fun i hi=> ?_⟩⟩,fun b off hb=>by injection hb with hb;injection hb with hb;omega⟩
      · rw[setAll_length]
      · show _=[Value.bool _]
        rw[Nat.zero_add,Nat.mul_one,List.drop_eq_getElem_cons (by simpa using hi)]
        simp⟩)
    have e0:(List.replicate W.length false).length=nw:=by simp[hW1]
    rw[e0]at this
    exact this
 obtain⟨v,h',e,a,n,c,q,rfl,k,hm⟩:=r
 refine⟨a,n,c,q,h',e,?_⟩
 cases hc:cellsG W top (top+1) 1 with
 |none=>rw[hc]at hm;rw[show q=false from hm];exact Qf _ _ _ _ k hc
 |some l=>rw[hc]at hm;rw[hm.1];exact Qt l _ _ _ _ hc k hm.2.1 hm.2.2
end
end Go.Proofs.YtngcjpkccnfjiaaGreatDoor
