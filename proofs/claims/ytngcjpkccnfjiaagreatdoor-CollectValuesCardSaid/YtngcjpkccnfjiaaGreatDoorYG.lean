/- 'run': a heap is collected. -/
import Derived.Test.YtngcjpkccnfjiaaGreatDoorYF
import Derived.Test.YtngcjpkccnfjiaaGreatDoorProg
import Derived.Test.YtngcjpkccnfjiaaGreatDoorYC
import Derived.KernelRfl
import Derived.Test.YtngcjpkccnfjiaaGreatDoorYD
namespace Go.Proofs.YtngcjpkccnfjiaaGreatDoor
set_option maxRecDepth 100000
open Go Go.Ev
def movesO (W:List Int)(fr:Nat):List Int→Mv→Option (Mv×List Int)
 | [],s=>some (s,[])
 |w::ws,s=>(moveO W fr s w).bind fun r=>(movesO W fr ws r.1).map fun q=>(q.1,r.2::q.2)
def startM (W:List Int)(fr:Nat):Mv:=⟨List.replicate W.length 0,[],putAt (List.replicate W.length 0) 0 (W.take fr),fr⟩
def runO (W:List Int)(fr:Nat)(R more:List Int):Option (Mv×List Int×List Int):=
 (movesO W fr R (startM W fr)).bind fun a=>(movesO W fr more a.1).bind fun b=>(chgO keepB (moveO W fr) (W.length+2) 1 b.1).bind fun c=>(chgO (fun k=>k==5) (weakO W fr) (W.length+2) 1 c).map fun d=>(d,a.2,b.2)
def Dis (a b:Option Addr):Prop:= ∀o off off',a=some ⟨o,off,none⟩→b≠some ⟨o,off',none⟩
theorem Dis.new {a a' b:Option Addr}{n:Nat}(d:Dis a b)(h:a'=a∨ ∀o off,a'=some ⟨o,off,none⟩→n≤o)(hb: ∀o off,b=some ⟨o,off,none⟩→o<n):Dis a' b:=by
 rcases h with rfl|h
 · exact d
 · intro o off off' e1 e2
   have:=h o off e1
   have:=hb o off' e2
   omega
theorem Dis.of {a b:Option Addr}{n:Nat}(h: ∀o off,a=some ⟨o,off,none⟩→n≤o)(hb: ∀o off,b=some ⟨o,off,none⟩→o<n):Dis a b:=fun o off off' e1 e2=>by
 have:=h o off e1
 have:=hb o off' e2
 omega
theorem Dis.symm {a b:Option Addr}(d:Dis a b):Dis b a:=fun o off off' e1 e2=>d o off' off e2 e1
theorem Acc.blk {h:Hp}{base:Nat}{e:TypeId}{w:Nat}{a:Option Addr}{n c:Nat}{xs:List Value}(A:Acc h base e w a n c xs): ∀o off,a=some ⟨o,off,none⟩→o<h.nx:=fun o off ha=>by
 rcases A with ⟨h1,_⟩|⟨q,h1,_,_,_,h2,_⟩
 · rw[h1]at ha;cases ha
 · rw[h1]at ha;injection ha with ha;injection ha with ha;omega
theorem Acc.off {h:Hp}{base:Nat}{e:TypeId}{w:Nat}{a:Option Addr}{n c:Nat}{xs:List Value}(A:Acc h base e w a n c xs): ∀o off,a=some ⟨o,off,none⟩→off=0:=fun o off ha=>by
 rcases A with ⟨h1,_⟩|⟨q,h1,_⟩
 · rw[h1]at ha;cases ha
 · rw[h1]at ha;injection ha with ha;injection ha with ha hb;exact hb.symm
theorem MvAt.upd {p:Pl}{h h':Hp}{s:Mv}{a:Option Addr}{n c:Nat}(m:MvAt p h s a n c)(hM:h'.get p.M=h.get p.M)(hT:h'.get p.oT=h.get p.oT)(hW:h'.get p.oW=h.get p.oW)(ha: ∀o,a=some ⟨o,0,none⟩→o<h.nx→h'.get o=h.get o)(nx:h.nx≤h'.nx):MvAt p h' s a n c:=
 ⟨hM.trans m.M,hT.trans m.T,hW.trans m.D,m.A.keep (fun o ho ha'=>ha o ha' ho) nx,m.lT,m.lD,m.bT,m.bD,Nat.le_trans m.nx nx⟩
theorem fm_map (f:Int→Value)(xs:List Int):(xs.flatMap fun x=>[f x])=xs.map f:=by
 induction xs with
 |nil=>rfl
 |cons x xs ih=>rw[List.flatMap_cons,ih];rfl
theorem appRI {h:Hp}{base:Nat}{a:Option Addr}{n c:Nat}{xs:List Int}(A:AccI 3 h base a n c xs)(hb:base≤h.nx)(hg:GdLt h base){q:Nat}(hq:h.get q=none)(hq2:q<h.nx)(hqb:base≤q){l:List Nat}(hlE: ∀i∈l,i<base){x:Int}(hl:xs.length<1000000)
 {K:Option Addr→Nat→Nat→Hp→Prop} (next: ∀a' n' c' h',AccI 3 (h'.rst (h.lay q (.cells [.int .i64 x] 3 .fix))) base a' n' c' (xs++[x])→(∀p,a'=some ⟨p,0,none⟩→h.nx≤p)→AppK (h.lay q (.cells [.int .i64 x] 3 .fix)) (h'.rst (h.lay q (.cells [.int .i64 x] 3 .fix))) a→Kp base h (h'.rst (h.lay q (.cells [.int .i64 x] 3 .fix)))→K a' n' c' h'):
 vreq (h.free q) (let g:=h.lay q (.cells [.int .i64 x] 3 .fix); ∃a' n' c' h',appendV Tryz.prog (g.grd l) 22 22 (.slice a n c) (.slice (some ⟨q,0,none⟩) 1 1)=some (.slice a' n' c',h')∧K a' n' c' h'):=by
 have hn:n=xs.length:=A.ints.1
 have A2:Acc h base 3 1 a n c (xs.flatMap fun x=>[.int .i64 x]):=by rw[fm_map];exact A
 exact appR (enc:=fun x=>[.int .i64 x]) (fun _=>rfl) (fun _=>rfl) AppT22 A2 hb hg hq hq2 hqb hlE (x:=x) (by omega) (by unfold big;omega) fun a' c' h' A' fr k1 k2=>next a' _ c' h' (by rw[fm_map]at A';exact A') fr k1 k2
structure RunI (p:Pl)(g:Hp)(b6 b10:Nat)(s:Mv)(ao:Option Addr)(no co:Nat)(ar:Option Addr)(nr cr:Nat)(r:List Int)(h:Hp):Prop where
 ok:h.Ok
 kp:Kp g.nx g h
 m:MvAt p h s ao no co
 out:h.get b10=some (.cells [.slice none 0 0,.int .i64 0,.slice ar nr cr] 24 .fix)
 r6:h.get b6=some (.cells [.slice none 0 0,.int .i64 0,.slice none 0 0] 24 .fix)
 A:AccI 3 h p.B ar nr cr r
 dis:Dis ao ar
structure Two (p:Pl)(g:Hp)(b6 b10:Nat):Prop where
 g6:g.nx≤b6
 g10:g.nx≤b10
 l6:b6<p.B
 l10:b10<p.B
 m6:b6≠p.M∧b6≠p.oT∧b6≠p.oW
 m10:b10≠p.M∧b10≠p.oT∧b10≠p.oW
 ne:b6≠b10
theorem Gd.low {p:Pl}{g h:Hp}{W:List Int}(P:p.Ok g W)(ok:g.Ok)(k:Kp g.nx g h):Gd p h:=by
 have gd:=ok.lt.kp k
 have:=P.M
 have:=P.B
 exact⟨fun q hq=>by have:=gd q hq;omega,gd.free P.M,gd.free P.oT,gd.free P.oW⟩
theorem grd_free {h:Hp}{q o:Nat}(hu:h.guarded o=false)(hq:q≠o):(h.grd [q]).guarded o=false:=by
 unfold Hp.guarded at hu ⊢
 show(q::h.gd).any _=false
 rw[List.any_cons,hu,Bool.or_false,Bool.eq_false_iff]
 intro hh
 have:=Nat.eq_of_beq_eq_true hh
 omega
section
variable {O:CallF}(hO:Oth O)
include hO
theorem lp62_0 {p:Pl}{g:Hp}{W R:List Int}(P:p.Ok g W)(okg:g.Ok){b6 b10:Nat}(tw:Two p g b6 b10){a0:Option Addr}{n0 c0:Nat}{x0:Int}{a2:Option Addr}{n2 c2:Nat}{x1:Int}{a3:Option Addr}{n3 c3:Nat}{aR:Option Addr}{nR cR:Nat}(HR:IntsAt g aR nR R)(hR: ∀x∈R,In64 x)(lR:R.length<100000){s2:Mv}{rs:List Int}{Q:Value→Hp→Prop}
 (next: ∀h ao no co ar nr cr,RunI p g b6 b10 s2 ao no co ar nr cr rs h→I62_1 O Q a0 n0 c0 x0 a2 n2 c2 x1 a3 n3 c3 b6 0 p.M 0 b10 0 none 0 0 0 h):
 ∀(d k:Nat) (s:Mv) (r r':List Int) (h:Hp) (ao:Option Addr) (no co:Nat) (ar:Option Addr) (nr cr:Nat),k+d=R.length→r.length=k→movesO W p.fr (R.drop k) s=some (s2,r')→rs=r++r'→RunI p g b6 b10 s ao no co ar nr cr r h→
 I62_0 O Q a0 n0 c0 x0 a2 n2 c2 x1 a3 n3 c3 b6 0 p.M 0 b10 0 aR nR cR (Int.ofNat nR) (Int.ofNat k) h:=by
 have hnR:=HR.1
 intro d
 induction d with
 |zero=>
  intro k s r r' h ao no co ar nr cr hk hrl hm hrs I
  rw[List.drop_of_length_le (by omega)]at hm
  obtain⟨rfl,rfl⟩:s=s2∧[]=r':=by injection hm with hm;injection hm with a b;exact⟨a,b⟩
  refine I62_0.of _ _ _ _ _ _ _ _ _ _ _ _ _ _ _ _ _ _ _ _ _ _ ?_
  unfold T62_0
  refine vcond_f (by rw[ltI_nat];exact blt_f (by omega)) ?_
  rw[List.append_nil]at hrs
  subst hrs
  exact next h ao no co ar nr cr I
 |succ d ih=>
  intro k s r r' h ao no co ar nr cr hk hrl hm hrs I
  have hkR:k<R.length:=by omega
  rw[List.drop_eq_getElem_cons hkR]at hm
  obtain⟨⟨s',v⟩,h1,h2⟩:=Option.bind_eq_some_iff.1 (show(moveO W p.fr s R[k]).bind (fun r=>(movesO W p.fr (R.drop (k+1)) r.1).map fun q=>(q.1,r.2::q.2))=some (s2,r') from hm)
  obtain⟨⟨s3,r2⟩,h3,h4⟩:=Option.map_eq_some_iff.1 h2
  injection h4 with e1 e2
  subst e1 e2
  refine I62_0.of _ _ _ _ _ _ _ _ _ _ _ _ _ _ _ _ _ _ _ _ _ _ ?_
  unfold T62_0
  have kp:=I.kp
  have ok:=I.ok
  have m:=I.m
  haveI:Ft g h:=kp.ex (Nat.le_refl _)
  refine vcond_t (by rw[ltI_nat];exact blt_t (by omega)) (isNat_i (HR.rd hkR ?_))
  intro g105
  have PM:=P.M
  have PB:=P.B
  have mnx:=m.nx
  have k105:Kp h.nx h g105:=(Kp.refl _ h).rsv 9
  have out5:g105.get b10=_:=I.out
  have ok5:(g105.grd [b10]).Ok:=(ok.rsv 9).grd fun q hq=>by
   have:=List.mem_singleton.1 hq
   have:=tw.l10
   rw[nx_rsv];omega
  have gdh:=Gd.low P okg kp
  have gd5:Gd p (g105.grd [b10]):=⟨fun q hq=>by
   rcases List.mem_append.1 hq with hq|hq
   · have:=List.mem_singleton.1 hq
     have:=tw.l10
     omega
   · exact gdh.lt q hq,grd_free (h:=g105) gdh.M tw.m10.1,grd_free (h:=g105) gdh.T tw.m10.2.1,grd_free (h:=g105) gdh.W tw.m10.2.2⟩
  have m5:MvAt p (g105.grd [b10]) s ao no co:=m.upd rfl rfl rfl (fun _ _ _=>rfl) (Nat.le_add_right ..)
  refine⟨_,_,_,read1 (i:=2) out5 rfl,?_⟩
  haveI:Ft g (g105.grd [b10]):=⟨fun o ho=>kp.get o ho,by show g.nx≤h.nx+9;have:=kp.nx;omega⟩
  have call:=ct117 hO P ok5 gd5 inferInstance m5 (hR _ (List.getElem_mem hkR)) h1
  obtain⟨v',h110,e110,rfl,ao',no',co',m',md'⟩:=call
  refine⟨_,h110,e110,?_⟩
  intro g111
  have n111:h.nx+9≤g111.nx:=md'.nx
  have n110:g111.nx=h110.nx:=rfl
  have q5:g111.get (h.nx+5)=none:=by
   have:=md'.get (h.nx+5) (by show h.nx+5<h.nx+9;omega) (by omega) (by have:=P.tM;omega) (by have:=P.wM;omega) (fun off hh=>by have:=Acc.blk m.A _ _ hh;omega)
   rw[show g111.get (h.nx+5)=_ from this]
   exact ok.fr _ (by omega)
  have A111:AccI 3 g111 p.B ar nr cr r:=I.A.keep (fun o ho ha=>md'.get o (by show o<h.nx+9;omega) (fun hh=>by have:=I.A.fresh ha;omega) (fun hh=>by have:=I.A.fresh ha;have:=P.tM;omega) (fun hh=>by have:=I.A.fresh ha;have:=P.wM;omega) (fun off hh=>I.dis o off 0 hh ha)) (by omega)
  have gd111:GdLt g111 p.B:=gdh.lt
  refine appRI A111 (by omega) gd111 q5 (by omega) (by omega) (l:=[]) (fun i hi=>by cases hi) (by omega) fun ar' nr' cr' h116 A' fr' k1 k2=> ?_
  intro g117
  have n117:g111.nx≤g117.nx:=k1.nx
  have d117:g117.gd=h.gd:=k1.gd
  have gdg:GdLt g117 g.nx:=fun q hq=>okg.lt.kp kp q (by rwa [d117]at hq)
  have out7:g117.get b10=some (.cells [.slice none 0 0,.int .i64 0,.slice ar nr cr] 24 .fix):=(k2.get _ tw.l10).trans ((md'.get b10 (by show b10<h.nx+9;have:=tw.l10;omega) tw.m10.1 tw.m10.2.1 tw.m10.2.2 (fun off hh=>by have:=m.A.fresh hh;have:=tw.l10;omega)).trans out5)
  have l7:0+2+ [Value.slice ar' nr' cr'].length≤ [Value.slice none 0 0,.int .i64 0,.slice ar nr cr].length:=by show 3≤3;decide
  refine vreq_t (canW_t (h:=g117.grd []) out7 (by decide) (gdg.free tw.g10) l7 rfl) ?_
  intro g118 g119
  have w9:g119.get b10=some (.cells [.slice none 0 0,.int .i64 0,.slice ar' nr' cr'] 24 .fix):=wr_get (h:=g117.grd []) out7 (by decide) (gdg.free tw.g10) l7 rfl
  have e9: ∀q,q≠b10→g119.get q=g117.get q:=fun q hq=>wr_get_ne _ _ _ _ hq
  have n9:g119.nx=g117.nx:=nx_wr ..
  have d9:g119.gd=h.gd:=d117
  have hl9:=tw.l10
  have hl6:=tw.l6
  have hg10:=tw.g10
  have hg6:=tw.g6
  have PtM:=P.tM
  have PwM:=P.wM
  have PoT:=P.oT
  have PoW:=P.oW
  have e79: ∀q,q<p.B→q≠b10→g119.get q=h110.get q:=fun q h1 h2=>(e9 q h2).trans (k2.get q h1)
  have ok119:g119.Ok:=⟨fun q hq=>by
   rw[d9]at hq
   have:=ok.gd q hq
   rw[n9];omega,fun q hq=>by
   rw[n9]at hq
   rw[e9 q (by omega)]
   exact k1.fr ((md'.fr ok5.fr:g111.Fresh).lay (by omega) _) q hq⟩
  have kp119:Kp g.nx g g119:=⟨fun o ho=>(e79 o (by omega) (by omega)).trans ((md'.get o (by show o<h.nx+9;have:=kp.nx;omega) (by omega) (by omega) (by omega) (fun off hh=>by have:=m.A.fresh hh;omega)).trans (kp.get o ho)),by have:=kp.nx;omega,d9.trans kp.gd,fun _=>ok119.fr⟩
  have hm9:=tw.m10
  have dis1:Dis ao' ar:=I.dis.new md'.ao (fun o off hh=>by have:=Acc.blk I.A _ _ hh;show o<h.nx+9;omega)
  have m9:MvAt p g119 s' ao' no' co':=m'.upd (e79 _ PB (Ne.symm hm9.1)) (e79 _ (by omega) (Ne.symm hm9.2.1)) (e79 _ (by omega) (Ne.symm hm9.2.2)) (fun o ha ho=>by
   have ho2:=m'.A.fresh ha
   rw[e9 o (by omega),show g117.get o=_ from k1.get o (by rw[nx_lay];exact ho) (fun hh=>dis1 o 0 0 ha hh),get_lay,if_neg (fun hh=>by
    subst hh
    rcases m'.A with ⟨e,_⟩|⟨q,e,_,_,_,_,hq⟩
    · rw[e]at ha;cases ha
    · rw[e]at ha;injection ha with ha;injection ha with ha;subst ha
      rw[show h110.get (h.nx+5)=none from q5]at hq;cases hq)]
   rfl) (by rw[n9];exact n117)
  have A9:AccI 3 g119 p.B ar' nr' cr' (r++[v]):=A'.keep (fun o ho ha=>by have:=A'.fresh ha;exact e9 o (by omega)) (by rw[n9];exact Nat.le_refl _)
  rw[wrap_succ (by omega)]
  refine ih (k+1) s' (r++[v]) r2 g119 ao' no' co' ar' nr' cr' (by omega) (by simp;omega) h3 (by rw[hrs];simp) ⟨ok119,kp119,m9,w9,?_,A9,?_⟩
  · rw[e79 _ hl6 tw.ne]
    exact(md'.get b6 (by show b6<h.nx+9;omega) tw.m6.1 tw.m6.2.1 tw.m6.2.2 (fun off hh=>by have:=m.A.fresh hh;omega)).trans I.r6
  · refine(Dis.of (n:=g111.nx) (fun o off hh=> ?_) (fun o off hh=> ?_)).symm
    · have:=Acc.off A' _ _ hh
      subst this
      exact fr' o hh
    · exact Acc.blk m'.A _ _ hh
def RunQ (g:Hp)(W:List Int)(fr:Nat)(s:Mv)(rs ks:List Int):Value→Hp→Prop:=fun v h'=> ∃(p:Pl)(ao:Option Addr)(no co:Nat)(ar:Option Addr)(nr cr:Nat)(ak:Option Addr)(nk ck:Nat),
 v= .tuple #[.agg #[.slice (some ⟨p.oW,0,none⟩) p.n p.n,.int .i64 (Int.ofNat s.top),.slice ar nr cr],.slice ak nk ck,.pointer (some ⟨p.M,0,none⟩)]∧p.Ok g W∧p.n=W.length∧p.fr=fr∧MvAt p h' s ao no co∧AccI 3 h' p.B ar nr cr rs∧AccI 3 h' p.B ak nk ck ks∧Dis ao ar∧Dis ao ak∧Dis ar ak∧Kp g.nx g h'∧h'.Ok
theorem lp62_1 {p:Pl}{g:Hp}{W more:List Int}(P:p.Ok g W)(okg:g.Ok)(pn:p.n=W.length){b6 b10:Nat}(tw:Two p g b6 b10){a0:Option Addr}{n0 c0:Nat}{x0:Int}{a2:Option Addr}{n2 c2:Nat}{x1:Int}{aR:Option Addr}{nR cR:Nat}(HR:IntsAt g aR nR more)(hR: ∀x∈more,In64 x)(lR:more.length<100000){s2 s3 s4:Mv}{rs ks:List Int}{f1 f2:Nat}(hc1:chgO keepB (moveO W p.fr) f1 1 s2=some s3)(hc2:chgO (fun k=>k==5) (weakO W p.fr) f2 1 s3=some s4):
 ∀(d k:Nat) (s:Mv) (r r':List Int) (h:Hp) (ao:Option Addr) (no co:Nat) (ar:Option Addr) (nr cr:Nat) (ak:Option Addr) (nk ck:Nat),k+d=more.length→r.length=k→movesO W p.fr (more.drop k) s=some (s2,r')→ks=r++r'→RunI p g b6 b10 s ao no co ar nr cr rs h→AccI 3 h p.B ak nk ck r→Dis ao ak→Dis ar ak→
 I62_1 O (RunQ g W p.fr s4 rs ks) a0 n0 c0 x0 a2 n2 c2 x1 aR nR cR b6 0 p.M 0 b10 0 ak nk ck (Int.ofNat k) h:=by
 have hnR:=HR.1
 have PM:=P.M
 have PB:=P.B
 have PtM:=P.tM
 have PwM:=P.wM
 have PoT:=P.oT
 have PoW:=P.oW
 have hl9:=tw.l10
 have hl6:=tw.l6
 have hg10:=tw.g10
 have hg6:=tw.g6
 intro d
 induction d with
 |zero=>
  intro k s r r' h ao no co ar nr cr ak nk ck hk hrl hm hrs I Ak d1 d2
  rw[List.drop_of_length_le (by omega)]at hm
  obtain⟨rfl,rfl⟩:s=s2∧[]=r':=by injection hm with hm;injection hm with a b;exact⟨a,b⟩
  rw[List.append_nil]at hrs
  subst hrs
  refine I62_1.of _ _ _ _ _ _ _ _ _ _ _ _ _ _ _ _ _ _ _ _ _ ?_
  unfold T62_1
  refine vcond_f (by rw[ltI_nat];exact blt_f (by omega)) ?_
  have mnx:=I.m.nx
  obtain⟨v1,h1,e1,rfl,ao1,no1,co1,m1,md1⟩:=ct118 hO P (by117 hO P) (is119 hO) hc1 I.ok (Gd.low P okg I.kp) I.kp I.m
  have kp1:=md1.kp P I.kp I.m
  have ok1:=md1.ok I.ok
  obtain⟨v2,h2,e2,rfl,ao2,no2,co2,m2,md2⟩:=ct118 hO P (by121 hO P) (is120 hO) hc2 ok1 (Gd.low P okg kp1) kp1 m1
  have kp2:=md2.kp P kp1 m1
  have ok2:=md2.ok ok1
  have md:=md1.trans md2
  refine⟨h1,e1,h2,e2,?_⟩
  intro g214
  have n2h:h.nx≤h2.nx:=md.nx
  have r14: ∀ {i v},[Value.slice p.aw p.nw p.cw,.int .i64 (Int.ofNat p.fr),.slice (some ⟨p.oT,0,none⟩) p.n p.n,.slice ao2 no2 co2,.slice (some ⟨p.oW,0,none⟩) p.n p.n,.int .i64 (Int.ofNat s4.top)][i]? =some v→readAt g214 p.M i 1=some [v]:=fun hv=>read1 (show g214.get p.M=_ from m2.M) hv
  have gd2:GdLt h2 g.nx:=okg.lt.kp kp2
  have out2:h2.get b10=_:=(md.get b10 (by omega) tw.m10.1 tw.m10.2.1 tw.m10.2.2 (fun off hh=>by have:=I.m.A.fresh hh;omega)).trans I.out
  have r62:h2.get b6=_:=(md.get b6 (by omega) tw.m6.1 tw.m6.2.1 tw.m6.2.2 (fun off hh=>by have:=I.m.A.fresh hh;omega)).trans I.r6
  have u10:h2.guarded b10=false:=gd2.free hg10
  have u6:h2.guarded b6=false:=gd2.free hg6
  have l1:0+0+ [Value.slice (some ⟨p.oW,0,none⟩) p.n p.n].length≤ [Value.slice none 0 0,.int .i64 0,.slice ar nr cr].length:=by show 1≤3;decide
  have u10':(g214.grd [p.M]).guarded b10=false:=grd_free (h:=g214) u10 (Ne.symm tw.m10.1)
  refine⟨_,_,_,r14 (i:=4) rfl,_,r14 (i:=5) rfl,vreq_t (canW_t (h:=g214.grd [p.M]) out2 (by decide) u10' l1 rfl) ?_⟩
  intro g219 g220
  have w20:g220.get b10=some (.cells [.slice (some ⟨p.oW,0,none⟩) p.n p.n,.int .i64 0,.slice ar nr cr] 24 .fix):=wr_get (h:=g214.grd [p.M]) out2 (by decide) u10' l1 rfl
  have e20: ∀q,q≠b10→g220.get q=h2.get q:=fun q hq=>wr_get_ne _ _ _ _ hq
  have n20:g220.nx=h2.nx+12:=nx_wr ..
  have u20:(g220.grd []).guarded b10=false:=u10
  have l2:0+1+ [Value.int .i64 (Int.ofNat s4.top)].length≤ [Value.slice (some ⟨p.oW,0,none⟩) p.n p.n,.int .i64 0,.slice ar nr cr].length:=by show 2≤3;decide
  refine vreq_t (canW_t (h:=g220.grd []) w20 (by decide) u20 l2 rfl) ?_
  intro g221 g222
  have w22:g222.get b10=some (.cells [.slice (some ⟨p.oW,0,none⟩) p.n p.n,.int .i64 (Int.ofNat s4.top),.slice ar nr cr] 24 .fix):=wr_get (h:=g220.grd []) w20 (by decide) u20 l2 rfl
  have e22: ∀q,q≠b10→g222.get q=h2.get q:=fun q hq=>(wr_get_ne _ _ _ _ hq).trans (e20 q hq)
  have n22:g222.nx=h2.nx+12:=by show(Hp.wr _ _ _ _).nx=_;rw[nx_wr];exact n20
  have u22:g222.guarded b6=false:=u6
  have r22:g222.get b6=_:=(e22 _ tw.ne).trans r62
  have l3:0+ [Value.slice (some ⟨p.oW,0,none⟩) p.n p.n,.int .i64 (Int.ofNat s4.top),.slice ar nr cr].length≤ [Value.slice none 0 0,.int .i64 0,.slice none 0 0].length:=by show 3≤3;decide
  refine⟨_,_,_,_,_,_,_,by rw[readAt_get w22 (by simp)];rfl,vreq_t (canW_t r22 (by decide) u22 l3 rfl) ?_⟩
  intro g230
  have w30:g230.get b6=some (.cells [.slice (some ⟨p.oW,0,none⟩) p.n p.n,.int .i64 (Int.ofNat s4.top),.slice ar nr cr] 24 .fix):=wr_get r22 (by decide) u22 l3 rfl
  have e30: ∀q,q≠b10→q≠b6→g230.get q=h2.get q:=fun q h1 h2=>(wr_get_ne _ _ _ _ h2).trans (e22 q h1)
  have n30:g230.nx=h2.nx+12:=by show(Hp.wr _ _ _ _).nx=_;rw[nx_wr];exact n22
  have d30:g230.gd=h2.gd:=gd_wr ..
  have hm9:=tw.m10
  have hm6:=tw.m6
  have mine: ∀ {a:Option Addr} {n c:Nat} {xs:List Value},Acc h p.B 3 1 a n c xs→Dis ao a→Acc g230 p.B 3 1 a n c xs:=fun {a n c xs} A dd=>A.keep (fun o ho ha=>by
   have:=A.fresh ha
   rw[e30 o (by omega) (by omega)]
   exact md.get o ho (by omega) (by omega) (by omega) (fun off hh=>dd o off 0 hh ha)) (by omega)
  have m30:MvAt p g230 s4 ao2 no2 co2:=m2.upd (e30 _ (Ne.symm hm9.1) (Ne.symm hm6.1)) (e30 _ (Ne.symm hm9.2.1) (Ne.symm hm6.2.1)) (e30 _ (Ne.symm hm9.2.2) (Ne.symm hm6.2.2)) (fun o ha ho=>by have:=m2.A.fresh ha;exact e30 o (by omega) (by omega)) (by omega)
  have ok30:g230.Ok:=⟨fun q hq=>by rw[d30]at hq;have:=ok2.gd q hq;omega,fun q hq=>by rw[e30 q (by have:=m2.nx;omega) (by have:=m2.nx;omega)];exact ok2.fr q (by omega)⟩
  refine⟨_,_,_,_,_,_,_,by rw[readAt_get w30 (by simp)];rfl,?_⟩
  refine⟨p,ao2,no2,co2,ar,nr,cr,ak,nk,ck,rfl,P,pn,rfl,m30,mine I.A I.dis,mine Ak d1,I.dis.new md.ao (fun o off hh=>Acc.blk I.A _ _ hh),d1.new md.ao (fun o off hh=>Acc.blk Ak _ _ hh),d2,?_,ok30⟩
  exact⟨fun o ho=>(e30 o (by omega) (by omega)).trans (kp2.get o ho),by have:=kp2.nx;omega,d30.trans kp2.gd,fun _=>ok30.fr⟩
 |succ d ih=>
  intro k s r r' h ao no co ar nr cr ak nk ck hk hrl hm hrs I Ak d1 d2
  have hkR:k<more.length:=by omega
  rw[List.drop_eq_getElem_cons hkR]at hm
  obtain⟨⟨s',v⟩,h1,h2⟩:=Option.bind_eq_some_iff.1 (show(moveO W p.fr s more[k]).bind (fun r=>(movesO W p.fr (more.drop (k+1)) r.1).map fun q=>(q.1,r.2::q.2))=some (s2,r') from hm)
  obtain⟨⟨s3',r2⟩,h3,h4⟩:=Option.map_eq_some_iff.1 h2
  injection h4 with e1 e2
  subst e1 e2
  refine I62_1.of _ _ _ _ _ _ _ _ _ _ _ _ _ _ _ _ _ _ _ _ _ ?_
  unfold T62_1
  have kp:=I.kp
  have ok:=I.ok
  have m:=I.m
  have mnx:=m.nx
  haveI:Ft g h:=kp.ex (Nat.le_refl _)
  refine vcond_t (by rw[ltI_nat];exact blt_t (by omega)) (isNat_i (HR.rd hkR ?_))
  obtain⟨v',h6,e6,rfl,ao',no',co',m',md'⟩:=ct117 hO P ok (Gd.low P okg kp) inferInstance m (hR _ (List.getElem_mem hkR)) h1
  refine⟨_,h6,e6,?_⟩
  intro g207
  have n6:=md'.nx
  have kp6:=md'.kp P kp m
  have ok6:=md'.ok ok
  have Ak6:AccI 3 h6 p.B ak nk ck r:=Ak.keep (fun o ho ha=>by have:=Ak.fresh ha;exact md'.get o ho (by omega) (by omega) (by omega) (fun off hh=>d1 o off 0 hh ha)) n6
  have Ar6:AccI 3 h6 p.B ar nr cr rs:=I.A.keep (fun o ho ha=>by have:=I.A.fresh ha;exact md'.get o ho (by omega) (by omega) (by omega) (fun off hh=>I.dis o off 0 hh ha)) n6
  have d1':Dis ao' ak:=d1.new md'.ao (fun o off hh=>Acc.blk Ak _ _ hh)
  have dr':Dis ao' ar:=I.dis.new md'.ao (fun o off hh=>Acc.blk I.A _ _ hh)
  refine appI2 AppT22 Ak6 (by omega) (Gd.low P okg kp6).lt (by omega) fun ak' nk' ck' h7 A7 k7 kB new=> ?_
  have n7:=k7.nx
  rw[wrap_succ (by omega)]
  have m7:MvAt p h7 s' ao' no' co':=m'.upd (kB.get _ PB) (kB.get _ (by omega)) (kB.get _ (by omega)) (fun o ha ho=>k7.get o ho (fun hh=>d1' o 0 0 ha hh)) n7
  have Ar7:AccI 3 h7 p.B ar nr cr rs:=Ar6.keep (fun o ho ha=>k7.get o ho (fun hh=>d2 o 0 0 ha hh)) n7
  refine ih (k+1) s' (r++[v]) r2 h7 ao' no' co' ar nr cr ak' nk' ck' (by omega) (by simp;omega) h3 (by rw[hrs];simp) ⟨ok6.kp kB,kp6.trans (kB.le (by omega)),m7,(kB.get _ hl9).trans ((md'.get b10 (by omega) tw.m10.1 tw.m10.2.1 tw.m10.2.2 (fun off hh=>by have:=m.A.fresh hh;omega)).trans I.out),(kB.get _ hl6).trans ((md'.get b6 (by omega) tw.m6.1 tw.m6.2.1 tw.m6.2.2 (fun off hh=>by have:=m.A.fresh hh;omega)).trans I.r6),Ar7,dr'⟩ A7 ?_ ?_
  · refine(Dis.of (n:=h6.nx) (fun o off hh=> ?_) (fun o off hh=>Acc.blk m'.A _ _ hh)).symm
    rw[new]at hh;injection hh with hh;injection hh with hh;omega
  · refine(Dis.of (n:=h6.nx) (fun o off hh=> ?_) (fun o off hh=>Acc.blk Ar6 _ _ hh)).symm
    rw[new]at hh;injection hh with hh;injection hh with hh;omega
theorem ct62 {g:Hp}(ok:g.Ok){aw:Option Addr}{nw cw:Nat}{W:List Int}{top:Int}(HW:SI g aw nw cw W)(hW: ∀x∈W,In64 x)(lW:W.length<1000000){ar:Option Addr}{nr cr:Nat}{R:List Int}(HR:IntsAt g ar nr R)(hR: ∀x∈R,In64 x)(lR:R.length<100000){am:Option Addr}{nm cm:Nat}{more:List Int}(HM:IntsAt g am nm more)(hM: ∀x∈more,In64 x)(lM:more.length<100000){fr:Nat}(hfr:fr≤W.length){s:Mv}{rs ks:List Int}(hrun:runO W fr R more=some (s,rs,ks)):
 Ret Tryz.prog O 62 [.agg #[.slice aw nw cw,.int .i64 top,.slice ar nr cr],.int .i64 (Int.ofNat fr),.slice am nm cm] g (RunQ g W fr s rs ks):=by
 have hn:=HW.at_.1
 subst hn
 refine rk62 _ _ _ _ _ _ _ _ _ _ _ (hO _ _ _ (by decide)) ?_
 unfold T62
 intro g1 g2 g3
 have n1:g1.nx=g.nx+1:=rfl
 have n2:g2.nx=g.nx+2:=rfl
 have n3:g3.nx=g.nx+17:=rfl
 have s3:g3.get g.nx=some (.cells [.slice aw W.length cw,.int .i64 top,.slice ar nr cr] 24 .fix):=(get_add_ne (show g.nx≠g1.nx by omega)).trans (get_add_same ..)
 have b63:g3.get g1.nx=some (.cells [.slice none 0 0,.int .i64 0,.slice none 0 0] 24 .fix):=get_add_same ..
 have f2:g2.Fresh:=(ok.fr.add _).add _
 have k3: ∀q,q<g.nx→g3.get q=g.get q:=fun q hq=>(get_add_ne (show q≠g1.nx by omega)).trans (get_add_ne (by omega))
 have v8:W.length*8≤281474976710656:=by omega
 have vb:W.length<big:=by unfold big;omega
 refine⟨_,_,_,read1 (i:=0) s3 rfl,_,_,_,read1 (i:=0) s3 rfl,_,_,_,read1 (i:=0) s3 rfl,vreq_t (ble_t (Nat.le_refl _)) (vreq_t (ble_t v8) (vreq_t (blt_t vb) (vreq_t (free_t (f2 _ (Nat.le_add_right ..))) ?_)))⟩
 intro g13
 have e13: ∀q,q≠g2.nx+6→g13.get q=g3.get q:=fun q hq=>by show(g3.lay _ _).get q=_;rw[get_lay,if_neg hq]
 refine vreq_t (ble_t (Nat.le_refl _)) (vreq_t (ble_t v8) (vreq_t (blt_t vb) (vreq_t (free_t ((e13 _ (by omega)).trans (f2 _ (Nat.le_add_right ..)))) ?_)))
 intro g14
 have e14: ∀q,q≠g2.nx+10→g14.get q=g13.get q:=fun q hq=>by show(g13.lay _ _).get q=_;rw[get_lay,if_neg hq]
 refine vreq_t (free_t ((e14 _ (by omega)).trans ((e13 _ (by omega)).trans (f2 _ (Nat.le_add_right ..))))) ?_
 intro g15 g16
 have e15: ∀q,q≠g2.nx+13→g16.get q=g14.get q:=fun q hq=>by show(g14.lay _ _).get q=_;rw[get_lay,if_neg hq]
 have zs: ∀(n:Nat),List.flatten (List.replicate n [Value.int .i64 0])=(List.replicate n (0:Int)).map (Value.int .i64):=by
  intro n
  induction n with
  |zero=>rfl
  |succ n ih=>rw[List.replicate_succ,List.replicate_succ,List.flatten_cons,ih];rfl
 have M16:g16.get (g2.nx+13)=some (.cells [.slice aw W.length cw,.int .i64 (Int.ofNat fr),.slice (some ⟨g2.nx+6,0,none⟩) W.length W.length,.slice none 0 0,.slice (some ⟨g2.nx+10,0,none⟩) W.length W.length,.int .i64 (Int.ofNat fr)] 113 .fix):=by
  show(g14.lay _ _).get _=_
  rw[get_lay,if_pos rfl]
 have T16:g16.get (g2.nx+6)=some (.cells ((List.replicate W.length (0:Nat)).map fun t=>Value.int .i64 (Int.ofNat t)) 3 .fix):=by
  rw[e15 _ (by omega),e14 _ (by omega)]
  show(g3.lay _ _).get _=_
  rw[get_lay,if_pos rfl,zs]
  simp
 have D16:g16.get (g2.nx+10)=some (.cells ((List.replicate W.length (0:Int)).map (Value.int .i64)) 3 .fix):=by
  rw[e15 _ (by omega)]
  show(g13.lay _ _).get _=_
  rw[get_lay,if_pos rfl,zs]
 have lo16: ∀q,q<g2.nx→g16.get q=g3.get q:=fun q hq=>(e15 q (by omega)).trans ((e14 q (by omega)).trans (e13 q (by omega)))
 have n16:g16.nx=g.nx+26:=rfl
 have d16:g16.gd=g.gd:=rfl
 have s16:=(lo16 g.nx (by omega)).trans s3
 have b616:=(lo16 g1.nx (by omega)).trans b63
 haveI f16:Ft g g16:=⟨fun q hq=>(lo16 q (by omega)).trans (k3 q hq),by omega⟩
 have F16:g16.Fresh:=fun q hq=>by
  rw[e15 q (by omega),e14 q (by omega),e13 q (by omega)]
  exact f2 q (by omega)
 obtain⟨a',c',es,sp⟩:=(HW.to g16).part (l:=0) (r:=fr) (Nat.zero_le _) hfr (lo:=none) (hi:=some (.int .i64 (Int.ofNat fr))) (fun vis hv=>bounds_hi (by omega))
 refine⟨_,_,_,read1 (i:=4) M16 rfl,_,_,_,read1 (i:=0) s16 rfl,_,_,_,es,?_⟩
 have X16:IntsAt (g16.grd []) a' (fr-0) ((W.drop 0).take (fr-0)):=sp.at_.keep (fun _ _ _=>rfl) (Nat.le_refl _) (fun _ _ h=>h)
 have u16: ∀q,g.nx≤q→g16.guarded q=false:=fun q hq=>ok.lt.free (h:=g16) hq
 obtain⟨h27,ec,D27,e27,n27,d27,f27⟩:=copy_ints (c1:=W.length) (c2:=c') (show(g16.grd []).get (g2.nx+10)=_ from D16) (by decide) (u16 _ (by omega)) (off:=0) (n:=W.length) (by simp) X16
 have hmin:Nat.min (fr-0) W.length=fr:=by show min _ _=_;omega
 rw[hmin,Nat.sub_zero,List.drop_zero,List.take_take,Nat.min_self]at D27
 refine⟨_,_,ec,?_⟩
 intro g28 g29
 have n28:g28.nx=g.nx+26:=n27
 have e28: ∀q,q≠g2.nx+10→g28.get q=g16.get q:=fun q hq=>e27 q hq
 have D28:g28.get (g2.nx+10)=_:=D27
 have d28:g28.gd=g.gd:=rfl
 have F28:g28.Fresh:=f27 F16
 have o29:g29.get g28.nx=some (.cells [.slice none 0 0,.int .i64 0,.slice none 0 0] 24 .fix):=get_add_same ..
 have u29:g29.guarded g28.nx=false:=ok.lt.free (h:=g29) (by omega)
 have l29:0+ [Value.slice none 0 0,.int .i64 0,.slice none 0 0].length≤ [Value.slice none 0 0,.int .i64 0,.slice none 0 0].length:=by show 3≤3;decide
 refine vreq_t (canW_t o29 (by decide) u29 l29 rfl) ?_
 intro g30
 have o30:g30.get g28.nx=some (.cells [.slice none 0 0,.int .i64 0,.slice none 0 0] 24 .fix):=wr_get o29 (by decide) u29 l29 rfl
 have e30: ∀q,q≠g28.nx→g30.get q=g28.get q:=fun q hq=>(wr_get_ne _ _ _ _ hq).trans (get_add_ne hq)
 have n30:g30.nx=g.nx+27:=by show(Hp.wr _ _ _ _).nx=_;rw[nx_wr,nx_add,n28]
 have d30:g30.gd=g.gd:=gd_wr ..
 have s30:g30.get g.nx=_:=(e30 _ (by omega)).trans ((e28 _ (by omega)).trans s16)
 refine⟨_,_,_,read1 (i:=2) s30 rfl,?_⟩
 have F30:g30.Fresh:=(F28.add _).wr _ _ _
 have kp30:Kp g.nx g g30:=⟨fun q hq=>(e30 q (by omega)).trans ((e28 q (by omega)).trans (f16.get q hq)),by omega,d30,fun _=>F30⟩
 let p:Pl:=⟨g2.nx+13,g2.nx+6,g2.nx+10,aw,W.length,cw,fr,W.length,g28.nx+1⟩
 have pM:p.M=g2.nx+13:=rfl
 have pT:p.oT=g2.nx+6:=rfl
 have pW:p.oW=g2.nx+10:=rfl
 have pB:p.B=g28.nx+1:=rfl
 have P:p.Ok g W:=by
  refine⟨?_,?_,?_,?_,?_,?_,?_,HW,hW,lW,lW⟩
  · show g.nx≤g2.nx+13;omega
  · show g.nx≤g2.nx+6;omega
  · show g.nx≤g2.nx+10;omega
  · show g2.nx+6<g2.nx+13;omega
  · show g2.nx+10<g2.nx+13;omega
  · show g2.nx+6≠g2.nx+10;omega
  · show g2.nx+13<g28.nx+1;omega
 have m30:MvAt p g30 (startM W fr) none 0 0:=by
  refine⟨(e30 _ (by omega)).trans ((e28 _ (by omega)).trans M16),(e30 _ (by omega)).trans ((e28 _ (by omega)).trans T16),(e30 _ (by omega)).trans D28,AccI.nil ..,by simp[startM,p],by show(putAt _ _ _).length=_;rw[putAt_length];simp[p],fun t ht=> ?_,fun x hx=> ?_,by show g28.nx+1≤_;omega⟩
  · rw[List.eq_of_mem_replicate ht];exact Nat.zero_le _
  · rcases mem_putAt _ _ _ hx with h|h
    · rw[List.eq_of_mem_replicate h];exact⟨by decide,by decide⟩
    · exact hW x (List.mem_of_mem_take h)
 have tw:Two p g g1.nx g28.nx:=by
  refine⟨by omega,by omega,?_,?_,⟨?_,?_,?_⟩,⟨?_,?_,?_⟩,by omega⟩
  · show g1.nx<g28.nx+1;omega
  · show g28.nx<g28.nx+1;omega
  · show g1.nx≠g2.nx+13;omega
  · show g1.nx≠g2.nx+6;omega
  · show g1.nx≠g2.nx+10;omega
  · show g28.nx≠g2.nx+13;omega
  · show g28.nx≠g2.nx+6;omega
  · show g28.nx≠g2.nx+10;omega
 obtain⟨⟨s1,r1⟩,h1,h2⟩:=Option.bind_eq_some_iff.1 hrun
 obtain⟨⟨s2,r2⟩,h3,h4⟩:=Option.bind_eq_some_iff.1 h2
 obtain⟨s3',h5,h6⟩:=Option.bind_eq_some_iff.1 h4
 obtain⟨s4,h7,h8⟩:=Option.map_eq_some_iff.1 h6
 injection h8 with e1 h8;injection h8 with e2 e3
 subst e1 e2 e3
 have b6:g30.get g1.nx=_:=(e30 _ (by omega)).trans ((e28 _ (by omega)).trans b616)
 exact lp62_0 hO (p:=p) P ok tw HR hR lR (s2:=s1) (rs:=r1) (fun h ao no co ar' nr' cr' I=>lp62_1 hO (p:=p) P ok rfl tw HM hM lM h5 h7 more.length 0 s1 [] r2 h ao no co ar' nr' cr' none 0 0 (by omega) rfl h3 rfl I (AccI.nil ..) (fun _ _ _ _ h=>by cases h) (fun _ _ _ _ h=>by cases h)) R.length 0 (startM W fr) [] r1 g30 none 0 0 none 0 0 (by omega) rfl h1 rfl ⟨⟨fun q hq=>by rw[d30]at hq;have:=ok.gd q hq;omega,F30⟩,kp30,m30,o30,b6,AccI.nil ..,fun _ _ _ h=>by cases h⟩
end
theorem checkP_cells {W:List Int}{top:Int}{R:List Int}{l:List Nat}(h:checkP W top R=some l):1≤W.length∧W.length≤200∧1≤top∧top≤W.length∧R.length≤10∧(W.drop top.toNat).any (· !=0)=false∧cellsG W top.toNat (top.toNat+1) 1=some l∧R.any (fun w=> !(wordB (beginP W l) w))=false∧l.all (okc W (beginP W l))=true:=by
 unfold checkP at h
 split at h
 · cases h
 · rename_i hn
   split at h
   · cases h
   · rename_i hz
     split at h
     · cases h
     · rename_i l' hc
       split at h
       · cases h
       · rename_i hr
         split at h
         · rename_i hk
           obtain rfl:=Option.some.inj h
           have e1: ¬W.length<1:=fun hh=>hn (.inl hh)
           have e2: ¬200<W.length:=fun hh=>hn (.inr (.inl hh))
           have e3: ¬top<1:=fun hh=>hn (.inr (.inr (.inl hh)))
           have e4: ¬(W.length:Int)<top:=fun hh=>hn (.inr (.inr (.inr (.inl hh))))
           have e5: ¬10<R.length:=fun hh=>hn (.inr (.inr (.inr (.inr (.inr hh)))))
           exact⟨by omega,by omega,by omega,by omega,by omega,by simpa using hz,hc,by simpa using hr,hk⟩
         · cases h
theorem goodB_R {s k:Int}(h:goodB s k=true):goodR s k=true:=by
 unfold goodB at h
 unfold goodR
 split at h
 · rename_i hk
   have:s=1:=by simpa using h
   subst hk this
   rfl
 · simp only[Bool.and_eq_true,decide_eq_true_eq]at h ⊢
   exact⟨⟨h.1.1.2,h.1.2⟩,h.2⟩
theorem cellsG_R {W:List Int}{top:Nat}: ∀ {f p:Nat}{l:List Nat},cellsG W top f p=some l→cellsR W top f p=some l:=by
 intro f
 induction f with
 |zero=>intro p l h;cases h
 |succ f ih=>
  intro p l h
  rcases cellsG_cons h with ⟨h1,h2,h3,l',rfl,h4⟩|⟨rfl,rfl⟩
  · unfold cellsR
    rw[if_pos h1,if_neg (fun hh=>hh.elim (fun h=>by omega) (fun h=>by rw[goodB_R h3]at h;cases h)),ih h4];rfl
  · unfold cellsR
    rw[if_neg (Nat.lt_irrefl _),if_pos rfl]
theorem cellsR_cons {W:List Int}{top:Nat}{f p:Nat}{l:List Nat}(h:cellsR W top (f+1) p=some l):(p<top∧0≤W.getD p 0∧goodR (hdS (W.getD p 0)) (hdK (W.getD p 0))=true∧ ∃l',l=p::l'∧cellsR W top f (p+1+(hdS (W.getD p 0)).toNat)=some l')∨(p=top∧l=[]):=by
 unfold cellsR at h
 split at h
 · split at h
   · cases h
   · rename_i h1 h2
     obtain⟨l',h3,h4⟩:=Option.map_eq_some_iff.1 h
     exact .inl ⟨h1,by omega,by cases hg:goodR (hdS (W.getD p 0)) (hdK (W.getD p 0))<;>simp_all,l',h4.symm,h3⟩
 · split at h
   · exact .inr ⟨‹_›,(Option.some.inj h).symm⟩
   · cases h
theorem fieldsW_length {W:List Int}{p:Nat}(h:p+1+(hdS (W.getD p 0)).toNat≤W.length):(fieldsW W p).length=(hdS (W.getD p 0)).toNat:=by
 unfold fieldsW
 rw[List.length_take,List.length_drop]
 omega
theorem cellsR_G {W:List Int}{top:Nat}(htop:top≤W.length)(L:List Nat): ∀ {f p:Nat}{l:List Nat},cellsR W top f p=some l→cellsOk W L l=true→cellsG W top f p=some l:=by
 intro f
 induction f with
 |zero=>intro p l h;cases h
 |succ f ih=>
  intro p l h hk
  rcases cellsR_cons h with ⟨h1,h2,h3,l',rfl,h4⟩|⟨rfl,rfl⟩
  · unfold cellsOk at hk
    rw[List.all_cons,Bool.and_eq_true]at hk
    have hle:=(cellsR_mem h4).1
    have hfl:=fieldsW_length (W:=W) (p:=p) (by omega)
    obtain⟨s1,s2⟩:=cellsR_bnd (by omega) h3
    have g:goodB (hdS (W.getD p 0)) (hdK (W.getD p 0))=true:=by
     have hf:=hk.1
     unfold fieldsR at hf
     split at hf
     · cases hf
     · rename_i hn
       unfold goodB
       split
       · rename_i hk4
         have: ¬(fieldsW W p).length≠1:=fun hh=>hn (.inr (.inr (.inr ⟨hk4,hh⟩)))
         have:hdS (W.getD p 0)=1:=by omega
         rw[this];rfl
       · unfold goodR at h3
         simp only[Bool.and_eq_true,decide_eq_true_eq]at h3 ⊢
         exact⟨⟨⟨s1,h3.1.1⟩,h3.1.2⟩,h3.2⟩
    unfold cellsG
    rw[if_pos h1,if_neg (fun hh=>hh.elim (fun h=>by omega) (fun h=>by rw[g]at h;cases h)),ih h4 hk.2];rfl
  · unfold cellsG
    rw[if_neg (Nat.lt_irrefl _),if_pos rfl]
theorem setAll_get (l:List Nat): ∀(B:List Bool)(i:Nat),i<B.length→((setAll B l).getD i false=true↔i∈l∨B.getD i false=true):=by
 induction l with
 |nil=>intro B i hi;simp[setAll]
 |cons x l ih=>
  intro B i hi
  show(setAll (B.set x true) l).getD i false=true↔_
  rw[ih _ _ (by simpa using hi)]
  have:(B.set x true).getD i false=if x=i then true else B.getD i false:=by
   simp only[List.getD,List.getElem?_set]
   by_cases hx:x=i
   · subst hx;simp[hi]
   · simp[hx]
  rw[this]
  by_cases hx:x=i
  · subst hx;simp
  · rw[if_neg hx]
    simp only[List.mem_cons]
    constructor
    · rintro(h|h)
      · exact .inl (.inr h)
      · exact .inr h
    · rintro((h|h)|h)
      · exact absurd h.symm hx
      · exact .inl h
      · exact .inr h
theorem begin_get {W:List Int}{l:List Nat}{i:Nat}(hi:i<W.length):(beginP W l).getD i false=true↔i∈l:=by
 unfold beginP
 rw[setAll_get _ _ _ (by simpa using hi)]
 simp[List.getD,hi]
theorem begin_length {W:List Int}{l:List Nat}:(beginP W l).length=W.length:=by
 unfold beginP;rw[setAll_length];simp
theorem word_RB {W:List Int}{l:List Nat}(hl: ∀x∈l,x<W.length)(h1:1≤W.length)(w:Int):wordB (beginP W l) w=wordR l w:=by
 unfold wordB wordR
 by_cases h2:Int.tmod w 2≠0
 · rw[if_pos h2]
   rw[if_neg (fun hh=>by subst hh;exact h2 rfl),if_pos h2]
 · rw[if_neg h2,if_neg h2]
   by_cases h0:w<0
   · rw[if_pos h0,if_neg (by omega)]
     symm
     rw[Bool.eq_false_iff,ne_eq,List.contains_iff_mem,List.mem_map]
     rintro⟨a,_,ha⟩
     have h5:=Int.mul_tdiv_add_tmod w 2
     have h6:Int.tmod w 2=0:=by simpa using h2
     have h3:(0:Int)≤Int.ofNat a:=Int.natCast_nonneg a
     omega
   · rw[if_neg h0]
     obtain⟨m,hm⟩: ∃m:Nat,Int.tdiv w 2=Int.ofNat m:=Int.eq_ofNat_of_zero_le (by rw[tdiv_eq,if_pos (by omega)];omega)
     rw[hm,begin_length]
     have key:(l.map Int.ofNat).contains (Int.ofNat m)=decide (m∈l):=by
      rw[Bool.eq_iff_iff,List.contains_iff_mem,List.mem_map,decide_eq_true_eq]
      exact⟨fun⟨a,h,e⟩=>Int.ofNat_inj.1 e▸h,fun h=>⟨m,h,rfl⟩⟩
     rw[key]
     by_cases hw0:w=0
     · subst hw0
       have hm0:m=0:=(Int.ofNat_inj.1 (show Int.ofNat 0=Int.ofNat m from hm)).symm
       subst hm0
       rw[if_neg (not_not_intro (by show(0:Int)<W.length;omega)),if_pos rfl,if_pos rfl]
     · rw[if_neg hw0,if_neg hw0]
       by_cases hmn:m<W.length
       · rw[if_neg (by simpa using hmn)]
         show(beginP W l).getD m false=_
         rw[Bool.eq_iff_iff,begin_get hmn,decide_eq_true_eq]
       · rw[if_pos (by simpa using hmn)]
         symm
         rw[decide_eq_false_iff_not]
         exact fun hh=>hmn (hl m hh)
theorem field_RB {W:List Int}{l:List Nat}(hl: ∀x∈l,x<W.length)(h1:1≤W.length)(k w:Int):fieldB (beginP W l) k w=fieldR l k w:=by
 unfold fieldB fieldR
 rw[word_RB hl h1]
theorem all_congr {α:Type}{p q:α→Bool}{l:List α}(h: ∀x∈l,p x=q x):l.all p=l.all q:=by
 induction l with
 |nil=>rfl
 |cons x l ih=>rw[List.all_cons,List.all_cons,h x (List.mem_cons_self ..),ih fun y hy=>h y (List.mem_cons_of_mem _ hy)]
theorem any_not {α:Type}(p:α→Bool): ∀(l:List α),l.any (fun w=> !(p w))= !(l.all p):=by
 intro l
 induction l with
 |nil=>rfl
 |cons x l ih=>rw[List.any_cons,List.all_cons,ih,Bool.not_and]
theorem formed_check (W:List Int)(top:Int)(R:List Int):formedR W top R=checkP W top R:=by
 unfold formedR checkP
 split
 · rfl
 · rename_i hn
   split
   · rfl
   · have h1:1≤W.length:=by have: ¬W.length<1:=fun hh=>hn (.inl hh);omega
     have ht:top.toNat≤W.length:=by
      have: ¬(W.length:Int)<top:=fun hh=>hn (.inr (.inr (.inr (.inl hh))))
      omega
     generalize top.toNat=tp at ht
     cases hG:cellsG W tp (tp+1) 1 with
     |some l=>
      have hR:=cellsG_R hG
      rw[hR]
      simp only
      have hm:=cellsR_mem hR
      have hl: ∀x∈l,x<W.length:=fun x hx=>by have:=hm.2 x hx;omega
      have e1:R.any (fun w=> !(wordB (beginP W l) w))= !(R.all (wordR l)):=by
       have:(fun w=> !(wordB (beginP W l) w))=fun w=> !(wordR l w):=by funext w;rw[word_RB hl h1]
       rw[this]
       exact any_not _ R
      have hgood: ∀(f p:Nat) (l':List Nat),cellsG W tp f p=some l'→ ∀x∈l',goodB (hdS (W.getD x 0)) (hdK (W.getD x 0))=true:=by
       intro f
       induction f with
       |zero=>intro p l' h;cases h
       |succ f ih=>
        intro p l' h x hx
        rcases cellsG_cons h with ⟨_,_,h3,l2,rfl,h4⟩|⟨rfl,rfl⟩
        · rcases List.mem_cons.1 hx with rfl|hx
          · exact h3
          · exact ih _ _ h4 x hx
        · cases hx
      have e2:l.all (okc W (beginP W l))=cellsOk W l l:=by
       unfold cellsOk
       refine all_congr fun x hx=> ?_
       obtain⟨m1,m2,m3,m4,m5⟩:=hm.2 x hx
       have hg:=hgood _ _ _ hG x hx
       have hfl:=fieldsW_length (W:=W) (p:=x) (by omega)
       unfold okc fieldsR
       rw[if_neg ?_]
       · exact all_congr fun w _=>field_RB hl h1 _ w
       · obtain⟨s1,s2⟩:=hdS_bnd m3 hg
         unfold goodB at hg
         split at hg
         · rename_i hk
           have:hdS (W.getD x 0)=1:=by simpa using hg
           rintro(h|h|h|⟨_,h⟩)<;>omega
         · rename_i hk
           simp only[Bool.and_eq_true,decide_eq_true_eq]at hg
           rintro(h|h|h|⟨h,_⟩)
           · omega
           · omega
           · omega
           · exact hk h
      rw[e1,e2]
      cases R.all (wordR l)<;>cases cellsOk W l l<;>rfl
     |none=>
      cases hR:cellsR W tp (tp+1) 1 with
      |none=>rfl
      |some l=>
       simp only
       cases hk:cellsOk W l l with
       |false=>rfl
       |true=>rw[cellsR_G ht l hR hk]at hG;cases hG
def szW (W:List Int)(p:Nat):Nat:=1+(hdS (W.getD p 0)).toNat
def totalW (W:List Int)(o:List Nat):Nat:=(o.map (szW W)).sum
def posF (W:List Int):Nat→List Nat→Nat→Nat
 |_,[],_=>0
 |b,x::xs,a=>if x=a then b else posF W (b+szW W x) xs a
theorem posF_mem {W:List Int}: ∀ {o:List Nat}{b a:Nat},a∈o→b≤posF W b o a:=by
 intro o
 induction o with
 |nil=>intro b a h;cases h
 |cons x xs ih=>
  intro b a h
  unfold posF
  split
  · exact Nat.le_refl _
  · rcases List.mem_cons.1 h with rfl|h
    · exact absurd rfl ‹_›
    · have:=ih (b:=b+szW W x) h;omega
theorem posF_not {W:List Int}: ∀ {o:List Nat}{b a:Nat},a ∉ o→posF W b o a=0:=by
 intro o
 induction o with
 |nil=>intro b a _;rfl
 |cons x xs ih=>
  intro b a h
  unfold posF
  rw[if_neg (fun hh=>h (by rw[hh];exact List.mem_cons_self ..)),ih (fun hh=>h (List.mem_cons_of_mem _ hh))]
theorem posF_app {W:List Int}: ∀ {o e:List Nat}{b a:Nat},a∈o→posF W b (o++e) a=posF W b o a:=by
 intro o
 induction o with
 |nil=>intro e b a h;cases h
 |cons x xs ih=>
  intro e b a h
  show(if x=a then b else posF W (b+szW W x) (xs++e) a)=if x=a then b else posF W (b+szW W x) xs a
  split
  · rfl
  · rcases List.mem_cons.1 h with rfl|h
    · exact absurd rfl ‹_›
    · exact ih h
theorem posF_last {W:List Int}: ∀ {o:List Nat}{b a:Nat},a ∉ o→posF W b (o++[a]) a=b+totalW W o:=by
 intro o
 induction o with
 |nil=>intro b a _;show(if a=a then b else _)=_;rw[if_pos rfl];rfl
 |cons x xs ih=>
  intro b a h
  show(if x=a then b else posF W (b+szW W x) (xs++[a]) a)=_
  rw[if_neg (fun hh=>h (by rw[hh];exact List.mem_cons_self ..)),ih (fun hh=>h (List.mem_cons_of_mem _ hh))]
  show _=b+(szW W x+totalW W xs)
  omega
theorem totalW_app (W:List Int)(a b:List Nat):totalW W (a++b)=totalW W a+totalW W b:=by simp[totalW]
theorem totalW_erase {W:List Int}: ∀ {l:List Nat}{a:Nat},a∈l→totalW W l=szW W a+totalW W (l.erase a):=by
 intro l
 induction l with
 |nil=>intro a h;cases h
 |cons x l ih=>
  intro a h
  by_cases hx:x=a
  · subst hx;rw[List.erase_cons_head];rfl
  · rw[List.erase_cons_tail (by simpa using hx)]
    have:=ih (a:=a) ((List.mem_cons.1 h).resolve_left (fun hh=>hx hh.symm))
    show szW W x+totalW W l=szW W a+(szW W x+totalW W (l.erase a))
    omega
theorem totalW_sub {W:List Int}: ∀ {o l:List Nat},o.Nodup→(∀a∈o,a∈l)→totalW W o≤totalW W l:=by
 intro o
 induction o with
 |nil=>intro l _ _;exact Nat.zero_le _
 |cons x o ih=>
  intro l hn hs
  obtain⟨h1,h2⟩:=List.nodup_cons.1 hn
  rw[totalW_erase (hs x (List.mem_cons_self ..))]
  have:=ih (l:=l.erase x) h2 fun a ha=>(List.mem_erase_of_ne (fun hh=>by subst hh;exact h1 ha)).2 (hs a (List.mem_cons_of_mem _ ha))
  show szW W x+totalW W o≤_
  omega
theorem length_total (W:List Int)(o:List Nat):o.length≤totalW W o:=by
 induction o with
 |nil=>exact Nat.zero_le _
 |cons x o ih=>show o.length+1≤szW W x+totalW W o;unfold szW;omega
def Vw (l:List Nat)(w:Int):Prop:=Int.tmod w 2≠0∨ ∃a:Nat,w=2*(a:Int)∧(a=0∨a∈l)
structure Col (W:List Int)(fr tp:Nat)(l new:List Nat):Prop where
 fr1:1≤fr
 tpn:tp≤W.length
 cell: ∀p∈l,1≤p∧p<tp∧0≤W.getD p 0∧0≤hdS (W.getD p 0)∧hdS (W.getD p 0)≤20∧p+szW W p≤tp
 word: ∀p∈l,refB (hdK (W.getD p 0))=true→ ∀w∈fieldsW W p,Vw l w
 mem: ∀p,p∈new↔p∈l∧fr≤p
 tot:fr+totalW W new≤tp
def mvw (W:List Int)(fr:Nat)(o:List Nat)(w:Int):Int:=if Int.tmod w 2≠0 then w else if Int.tdiv w 2<((max fr 1:Nat):Int)then w else 2*(posF W fr o (Int.tdiv w 2).toNat:Int)
structure St (W:List Int)(fr:Nat)(new:List Nat)(s:Mv)(Y:List Int):Prop where
 D:s.D=Y++List.replicate (W.length-s.top) 0
 lY:Y.length=s.top
 top:s.top=fr+totalW W s.ord
 nd:s.ord.Nodup
 sub: ∀a∈s.ord,a∈new
 lT:s.T.length=W.length
 T: ∀a,a<W.length→s.T.getD a 0=posF W fr s.ord a
section
variable {W:List Int}{fr tp:Nat}{l new:List Nat}(C:Col W fr tp l new)
include C
theorem chunk_length {p:Nat}(hp:p∈l):(chunkW W p).length=szW W p:=by
 obtain⟨h1,h2,h3,h4,h5,h6⟩:=C.cell p hp
 have:=C.tpn
 unfold chunkW
 rw[List.length_take,List.length_drop]
 unfold szW at h6 ⊢
 omega
theorem Col.fit {s:Mv}{Y:List Int}(S:St W fr new s Y):s.top≤tp:=by
 have:=totalW_sub (W:=W) S.nd S.sub
 have:=C.tot
 have:=S.top
 omega
theorem putAt_zeros: ∀(Y c:List Int)(z:Nat),c.length≤z→putAt (Y++List.replicate z 0) Y.length c=Y++c++List.replicate (z-c.length) 0:=by
 have _:=C
 intro Y
 induction Y with
 |nil=>
  intro c
  induction c with
  |nil=>
   intro z _
   show putAt (List.replicate z (0:Int)) 0 []=_
   cases z<;>rfl
  |cons x c ih=>
   intro z hz
   cases z with
   |zero=>simp at hz
   |succ z=>
    show x::putAt (List.replicate z 0) 0 c=_
    have:=ih z (by simpa using hz)
    simp only[List.nil_append,List.length_nil]at this
    rw[this]
    simp
 |cons y Y ih=>
  intro c z hz
  show y::putAt (Y++List.replicate z 0) Y.length c=_
  rw[ih c z hz];rfl
theorem move_st {s:Mv}{Y:List Int}(S:St W fr new s Y){w:Int}(hw:Vw l w):
 ∃s' ext,moveO W fr s w=some (s',mvw W fr s'.ord w)∧s'.ord=s.ord++ext∧withP fr [w] s.ord=s.ord++ext∧St W fr new s' (Y++ext.flatMap (chunkW W))∧(Int.tmod w 2=0→((max fr 1:Nat):Int)≤Int.tdiv w 2→(Int.tdiv w 2).toNat∈s'.ord):=by
 have same: ∀ {v:Int},v=mvw W fr s.ord w→withP fr [w] s.ord=s.ord→(Int.tmod w 2=0→((max fr 1:Nat):Int)≤Int.tdiv w 2→(Int.tdiv w 2).toNat∈s.ord)→moveO W fr s w=some (s,v)→ ∃s' ext,moveO W fr s w=some (s',mvw W fr s'.ord w)∧s'.ord=s.ord++ext∧withP fr [w] s.ord=s.ord++ext∧St W fr new s' (Y++ext.flatMap (chunkW W))∧(Int.tmod w 2=0→((max fr 1:Nat):Int)≤Int.tdiv w 2→(Int.tdiv w 2).toNat∈s'.ord):=fun {v} hv hwp hin hm=>⟨s,[],by rw[hm,hv],by simp,by rw[hwp];simp,by simpa using S,hin⟩
 have hmax:((max fr 1:Nat):Int)=(fr:Int):=by rw[Nat.max_eq_left C.fr1]
 by_cases h1:Int.tmod w 2≠0
 · refine same (v:=w) (by unfold mvw;rw[if_pos h1]) ?_ (fun h=>absurd h h1) (by unfold moveO;rw[if_pos h1])
   unfold withP refd
   rw[if_pos h1,if_pos (by have:=C.fr1;omega)];rfl
 by_cases h2:Int.tdiv w 2<((max fr 1:Nat):Int)
 · refine same (v:=w) (by unfold mvw;rw[if_neg h1,if_pos h2]) ?_ (fun _ h=>by omega) (by unfold moveO;rw[if_neg h1,if_pos h2])
   unfold withP refd
   rw[if_neg h1,if_pos h2];rfl
 obtain⟨a,rfl,ha⟩: ∃a:Nat,w=2*(a:Int)∧(a=0∨a∈l):=hw.resolve_left h1
 have hd:Int.tdiv (2*(a:Int)) 2=(a:Int):=by rw[tdiv_eq,if_pos (by omega)];omega
 rw[hd]at h2
 have hfa:fr≤a:=by omega
 have hfr:=C.fr1
 have hal:a∈l:=ha.resolve_left (by omega)
 obtain⟨c1,c2,c3,c4,c5,c6⟩:=C.cell a hal
 have htn:=C.tpn
 have haW:a<W.length:=by omega
 have hTa:=S.T a haW
 have hlT:=S.lT
 have rd:refd (2*(a:Int))=(a:Int):=by unfold refd;rw[if_neg h1,hd]
 have mv: ∀o,mvw W fr o (2*(a:Int))=2*(posF W fr o a:Int):=fun o=>by
  unfold mvw
  rw[if_neg h1,hd,if_neg h2];rfl
 have tn:(a:Int).toNat=a:=rfl
 by_cases hin:a∈s.ord
 · have hpos:=posF_mem (W:=W) (b:=fr) hin
   refine same (v:=2*(posF W fr s.ord a:Int)) (mv _).symm ?_ (fun _ _=>by rw[hd,tn];exact hin) ?_
   · unfold withP
     rw[rd,if_neg h2,if_pos (by rw[List.contains_iff_mem];exact List.mem_map.2 ⟨a,hin,rfl⟩)];rfl
   · unfold moveO
     rw[if_neg h1,hd,if_neg h2,tn,if_pos (by omega),if_pos (by rw[hTa];omega),hTa]
 · have hT0:s.T.getD a 0=0:=by rw[hTa];exact posF_not hin
   have hnd:(s.ord++[a]).Nodup:=by
    rw[List.nodup_append]
    exact⟨S.nd,by simp,fun x hx y hy hxy=>by rw[List.mem_singleton.1 hy]at hxy;exact hin (hxy▸hx)⟩
   have hsub: ∀x∈s.ord++[a],x∈new:=fun x hx=>by
    rcases List.mem_append.1 hx with hx|hx
    · exact S.sub x hx
    · rw[List.mem_singleton.1 hx];exact(C.mem a).2 ⟨hal,hfa⟩
   have htot:=totalW_sub (W:=W) hnd hsub
   rw[totalW_app]at htot
   have ht1:totalW W [a]=szW W a:=by simp[totalW]
   have hct:=C.tot
   have hst:=S.top
   have hlen:=length_total W s.ord
   have hsz:szW W a=1+(hdS (W.getD a 0)).toNat:=rfl
   have hDl:s.D.length=W.length:=by
    rw[S.D,List.length_append,S.lY,List.length_replicate]
    have:=C.fit S
    omega
   refine⟨⟨s.T.set a s.top,s.ord++[a],putAt s.D s.top (chunkW W a),s.top+1+(hdS (W.getD a 0)).toNat⟩,[a],?_,rfl,?_,?_,fun _ _=>by rw[hd,tn];simp⟩
   · unfold moveO
     rw[if_neg h1,hd,if_neg h2,tn,if_pos (by omega),if_neg (by rw[hT0];simp),if_pos ⟨haW,c4,c5,by omega,by omega,by omega,by omega⟩,mv]
     rw[posF_last hin,hst]
   · unfold withP
     rw[rd,if_neg h2,if_neg (by
      rw[List.contains_iff_mem]
      intro hh
      obtain⟨x,hx,e⟩:=List.mem_map.1 hh
      exact hin (Int.ofNat_inj.1 e▸hx))]
     rfl
   · refine⟨?_,?_,?_,hnd,hsub,by simpa using hlT,fun b hb=> ?_⟩
     · show putAt s.D s.top (chunkW W a)=_
       have e0:putAt s.D s.top (chunkW W a)=Y++chunkW W a++List.replicate (W.length-s.top-szW W a) 0:=by
        have:=putAt_zeros C Y (chunkW W a) (W.length-s.top) (by rw[chunk_length C hal];omega)
        rw[S.lY,←S.D,chunk_length C hal]at this
        exact this
       rw[e0]
       show _=Y++List.flatMap (chunkW W) [a]++List.replicate (W.length-(s.top+1+(hdS (W.getD a 0)).toNat)) 0
       have e1:W.length-s.top-szW W a=W.length-(s.top+1+(hdS (W.getD a 0)).toNat):=by rw[hsz];omega
       rw[e1]
       simp
     · show(Y++List.flatMap (chunkW W) [a]).length=s.top+1+(hdS (W.getD a 0)).toNat
       rw[List.length_append,S.lY]
       simp only[List.flatMap_cons,List.flatMap_nil,List.append_nil,chunk_length C hal,hsz]
       omega
     · show s.top+1+(hdS (W.getD a 0)).toNat=fr+totalW W (s.ord++[a])
       rw[totalW_app,ht1,hsz];omega
     · show(s.T.set a s.top).getD b 0=posF W fr (s.ord++[a]) b
       by_cases hba:a=b
       · subst hba
         rw[posF_last hin]
         simp only[List.getD,List.getElem?_set,if_true]
         rw[if_pos (by omega)]
         exact hst
       · have e:(s.T.set a s.top).getD b 0=s.T.getD b 0:=by simp only[List.getD,List.getElem?_set,if_neg hba]
         rw[e,S.T b hb]
         by_cases hbo:b∈s.ord
         · rw[posF_app hbo]
         · rw[posF_not hbo,posF_not (by
            rw[List.mem_append,List.mem_singleton]
            rintro(h|h)
            · exact hbo h
            · exact hba h.symm)]
omit C in
theorem withP_cons (w:Int)(ws:List Int)(o:List Nat):withP fr (w::ws) o=withP fr ws (withP fr [w] o):=by
 show(if refd w<((max fr 1:Nat):Int)then withP fr ws o else if (o.map Int.ofNat).contains (refd w)then withP fr ws o else withP fr ws (o++[(refd w).toNat]))=withP fr ws (if refd w<((max fr 1:Nat):Int)then o else if (o.map Int.ofNat).contains (refd w)then o else o++[(refd w).toNat])
 split
 · rfl
 · split<;>rfl
def Tin (fr:Nat)(o:List Nat)(w:Int):Prop:=Int.tmod w 2=0→((max fr 1:Nat):Int)≤Int.tdiv w 2→(Int.tdiv w 2).toNat∈o
omit C in
theorem Tin.app {o:List Nat}{w:Int}(t:Tin fr o w)(e:List Nat):Tin fr (o++e) w:=fun h1 h2=>List.mem_append.2 (.inl (t h1 h2))
omit C in
theorem mvw_app {o:List Nat}{w:Int}(t:Tin fr o w)(e:List Nat):mvw W fr (o++e) w=mvw W fr o w:=by
 unfold mvw
 split
 · rfl
 · rename_i h1
   split
   · rfl
   · rename_i h2
     rw[posF_app (t (by simpa using h1) (by omega))]
theorem moves_st: ∀(ws:List Int){s:Mv}{Y:List Int},St W fr new s Y→(∀w∈ws,Vw l w)→ ∃s' ext,movesO W fr ws s=some (s',ws.map (mvw W fr s'.ord))∧s'.ord=s.ord++ext∧withP fr ws s.ord=s'.ord∧St W fr new s' (Y++ext.flatMap (chunkW W))∧ ∀w∈ws,Tin fr s'.ord w:=by
 intro ws
 induction ws with
 |nil=>intro s Y S _;exact⟨s,[],rfl,by simp,rfl,by simpa using S,fun w h=>by cases h⟩
 |cons w ws ih=>
  intro s Y S hv
  obtain⟨s1,e1,m1,o1,p1,S1,t1⟩:=move_st C S (hv w (List.mem_cons_self ..))
  obtain⟨s2,e2,m2,o2,p2,S2,t2⟩:=ih S1 fun x hx=>hv x (List.mem_cons_of_mem _ hx)
  refine⟨s2,e1++e2,?_,by rw[o2,o1,List.append_assoc],?_,by simpa using S2,fun x hx=> ?_⟩
  · show(moveO W fr s w).bind _=_
    rw[m1]
    show(movesO W fr ws s1).map _=_
    rw[m2]
    show some (s2,mvw W fr s1.ord w::_)=_
    rw[List.map_cons,o2,mvw_app t1]
  · rw[withP_cons,p1,←o1,p2]
  · rcases List.mem_cons.1 hx with rfl|hx
    · rw[o2];exact Tin.app t1 e2
    · exact t2 x hx
omit C in
theorem St.put {s:Mv}{Y:List Int}(S:St W fr new s Y){i:Nat}(hi:i<Y.length)(v:Int):St W fr new (s.put i v) (Y.set i v):=by
 refine⟨?_,by rw[List.length_set];exact S.lY,S.top,S.nd,S.sub,S.lT,S.T⟩
 show s.D.set i v=_
 rw[S.D,List.set_append_left _ _ hi]
 rfl
omit C in
theorem St.getD {s:Mv}{Y:List Int}(S:St W fr new s Y){i:Nat}(hi:i<Y.length):s.D.getD i 0=Y.getD i 0∧i<s.D.length:=by
 rw[S.D]
 constructor
 · simp only[List.getD]
   rw[List.getElem?_append_left hi]
 · rw[List.length_append];omega
theorem chgIn_st: ∀(todo X Z:List Int){s:Mv},St W fr new s (X++todo++Z)→(∀w∈todo,Vw l w)→ ∃s' ext,chgIn (moveO W fr) todo.length X.length s=some s'∧s'.ord=s.ord++ext∧withP fr todo s.ord=s'.ord∧St W fr new s' (X++todo.map (mvw W fr s'.ord)++Z++ext.flatMap (chunkW W))∧ ∀w∈todo,Tin fr s'.ord w:=by
 intro todo
 induction todo with
 |nil=>intro X Z s S _;exact⟨s,[],rfl,by simp,rfl,by simpa using S,fun w h=>by cases h⟩
 |cons w ws ih=>
  intro X Z s S hv
  have hX:X.length<(X++w::ws++Z).length:=by simp
  obtain⟨g1,g2⟩:=S.getD hX
  have gw:(X++w::ws++Z).getD X.length 0=w:=by simp[List.getD]
  obtain⟨s1,e1,m1,o1,p1,S1,t1⟩:=move_st C S (hv w (List.mem_cons_self ..))
  have S2:=S1.put (i:=X.length) (by rw[List.length_append];omega) (mvw W fr s1.ord w)
  have eY:((X++w::ws++Z)++e1.flatMap (chunkW W)).set X.length (mvw W fr s1.ord w)=(X++[mvw W fr s1.ord w])++ws++(Z++e1.flatMap (chunkW W)):=by
   simp[List.append_assoc]
  rw[eY]at S2
  obtain⟨s3,e3,m3,o3,p3,S3,t3⟩:=ih (X++[mvw W fr s1.ord w]) (Z++e1.flatMap (chunkW W)) S2 fun x hx=>hv x (List.mem_cons_of_mem _ hx)
  have o3':s3.ord=s1.ord++e3:=o3
  refine⟨s3,e1++e3,?_,by rw[o3',o1,List.append_assoc],?_,?_,fun x hx=> ?_⟩
  · show(if X.length<s.D.length then (moveO W fr s (s.D.getD X.length 0)).bind fun r=>chgIn (moveO W fr) ws.length (X.length+1) (r.1.put X.length r.2)else none)=_
    rw[if_pos g2,g1,gw,m1]
    show chgIn (moveO W fr) ws.length (X.length+1) _=_
    rw[List.length_append]at m3
    exact m3
  · rw[withP_cons,p1,←o1]
    exact p3
  · have:X++(w::ws).map (mvw W fr s3.ord)++Z++(e1++e3).flatMap (chunkW W)=X++[mvw W fr s1.ord w]++ws.map (mvw W fr s3.ord)++(Z++e1.flatMap (chunkW W))++e3.flatMap (chunkW W):=by
     rw[List.map_cons,o3',mvw_app t1]
     simp[List.append_assoc]
    rw[this];exact S3
  · rcases List.mem_cons.1 hx with rfl|hx
    · rw[o3'];exact Tin.app t1 e3
    · exact t3 x hx
theorem chunk_eq {p:Nat}(hp:p∈l):chunkW W p=W.getD p 0::fieldsW W p:=by
 obtain⟨h1,h2,h3,h4,h5,h6⟩:=C.cell p hp
 have:=C.tpn
 have hpW:p<W.length:=by omega
 unfold chunkW fieldsW
 rw[List.drop_eq_getElem_cons hpW,Nat.add_comm 1,List.take_succ_cons]
 congr 1
 simp[List.getD,List.getElem?_eq_getElem hpW]
theorem fields_len {p:Nat}(hp:p∈l):(fieldsW W p).length=(hdS (W.getD p 0)).toNat:=by
 obtain⟨h1,h2,h3,h4,h5,h6⟩:=C.cell p hp
 have:=C.tpn
 refine fieldsW_length ?_
 unfold szW at h6;omega
theorem cellAt {p:Nat}(hp:p∈l):CellAt W p:=by
 obtain⟨h1,h2,h3,h4,h5,h6⟩:=C.cell p hp
 have:=C.tpn
 refine⟨by omega,h3,h5,?_⟩
 unfold szW at h6;omega
def cellM (W:List Int)(fr:Nat)(o:List Nat)(p:Nat):List Int:=W.getD p 0::if keepB (hdK (W.getD p 0))then (fieldsW W p).map (mvw W fr o)else fieldsW W p
theorem chg_st (hW:W.length≤1000): ∀(f i:Nat)(done:List Int){s:Mv},St W fr new s (done++(s.ord.drop i).flatMap (chunkW W))→i≤s.ord.length→W.length<f+i+fr→ ∃s' ext,chgO keepB (moveO W fr) f done.length s=some s'∧reachO W fr f i s.ord=some s'.ord∧s'.ord=s.ord++ext∧St W fr new s' (done++(s'.ord.drop i).flatMap (cellM W fr s'.ord))∧ ∀p∈s'.ord.drop i,keepB (hdK (W.getD p 0))=true→ ∀w∈fieldsW W p,Tin fr s'.ord w:=by
 intro f
 induction f with
 |zero=>
  intro i done s S hi hf
  have:=length_total W s.ord
  have:=C.fit S
  have:=S.top
  have:=C.tpn
  omega
 |succ f ih=>
  intro i done s S hi hf
  have htop:s.top=done.length+((s.ord.drop i).flatMap (chunkW W)).length:=by rw[←S.lY,List.length_append]
  have hlt:=length_total W s.ord
  have hfit:=C.fit S
  have hst:=S.top
  have htn:=C.tpn
  by_cases hil:i<s.ord.length
  · have hd:=List.drop_eq_getElem_cons hil
    generalize hp:s.ord[i]=p at hd
    have hpo:p∈s.ord:=hp▸List.getElem_mem hil
    have hpl:p∈l:=((C.mem p).1 (S.sub p hpo)).1
    obtain⟨c1,c2,c3,c4,c5,c6⟩:=C.cell p hpl
    rw[hd,List.flatMap_cons,chunk_eq C hpl]at S htop
    have hdl:done.length<s.top:=by rw[htop];simp
    have hlen:done.length<(done++(W.getD p 0::fieldsW W p++(s.ord.drop (i+1)).flatMap (chunkW W))).length:=by simp
    obtain⟨g1,g2⟩:=S.getD hlen
    have gw:(done++(W.getD p 0::fieldsW W p++(s.ord.drop (i+1)).flatMap (chunkW W))).getD done.length 0=W.getD p 0:=by simp[List.getD]
    rw[gw]at g1
    have fl:=fields_len C hpl
    have gl:s.ord.getD i 0=p:=by simp[List.getD,List.getElem?_eq_getElem hil,hp]
    have hchg:chgO keepB (moveO W fr) (f+1) done.length s=(if keepB (hdK (W.getD p 0))then (chgIn (moveO W fr) (hdS (W.getD p 0)).toNat (done.length+1) s).bind fun s'=>chgO keepB (moveO W fr) f (done.length+1+(hdS (W.getD p 0)).toNat) s' else chgO keepB (moveO W fr) f (done.length+1+(hdS (W.getD p 0)).toNat) s):=by
     conv=>lhs;unfold chgO
     rw[if_pos hdl,g1,if_pos ⟨g2,c4,c5⟩]
    have hrch:reachO W fr (f+1) i s.ord=reachO W fr f (i+1) (withP fr (strongP W p) s.ord):=by
     conv=>lhs;unfold reachO
     rw[if_pos hil,gl,if_pos ⟨cellAt C hpl,by omega⟩]
    rw[hchg,hrch]
    cases hk:keepB (hdK (W.getD p 0))with
    |true=>
     rw[if_pos rfl]
     have hs:strongP W p=fieldsW W p:=by unfold strongP;rw[if_pos hk]
     rw[hs]
     have S1:St W fr new s ((done++[W.getD p 0])++fieldsW W p++(s.ord.drop (i+1)).flatMap (chunkW W)):=by simpa[List.append_assoc] using S
     obtain⟨s1,e1,m1,o1,p1,S2,t1⟩:=chgIn_st C (fieldsW W p) (done++[W.getD p 0]) ((s.ord.drop (i+1)).flatMap (chunkW W)) S1 (C.word p hpl (by unfold refB;rw[hk];rfl))
     have m1':chgIn (moveO W fr) (hdS (W.getD p 0)).toNat (done.length+1) s=some s1:=by
      rw[←fl];simpa using m1
     rw[m1',p1]
     have d1:s1.ord.drop (i+1)=s.ord.drop (i+1)++e1:=by rw[o1,List.drop_append_of_le_length (by omega)]
     have S3:St W fr new s1 ((done++W.getD p 0::(fieldsW W p).map (mvw W fr s1.ord))++(s1.ord.drop (i+1)).flatMap (chunkW W)):=by
      rw[d1]
      simpa[List.append_assoc] using S2
     have hl1:(done++W.getD p 0::(fieldsW W p).map (mvw W fr s1.ord)).length=done.length+1+(hdS (W.getD p 0)).toNat:=by simp[fl];omega
     obtain⟨s4,e4,m4,r4,o4,S4,t4⟩:=ih (i+1) _ S3 (by rw[o1,List.length_append];omega) (by omega)
     rw[hl1]at m4
     have hti: ∀w∈fieldsW W p,Tin fr s4.ord w:=fun w hw=>by rw[o4];exact(t1 w hw).app e4
     have d4:s4.ord.drop i=p::s4.ord.drop (i+1):=by
      have:i<s4.ord.length:=by rw[o4,o1];simp;omega
      rw[List.drop_eq_getElem_cons this]
      congr 1
      simp only[o4,o1]
      rw[List.getElem_append_left (by simp;omega),List.getElem_append_left hil,hp]
     refine⟨s4,e1++e4,m4,r4,by rw[o4,o1,List.append_assoc],?_,fun q hq hkq w hw=> ?_⟩
     · have em:(fieldsW W p).map (mvw W fr s4.ord)=(fieldsW W p).map (mvw W fr s1.ord):=List.map_congr_left fun w hw=>by rw[o4,mvw_app (t1 w hw)]
       rw[d4,List.flatMap_cons]
       have:cellM W fr s4.ord p=W.getD p 0::(fieldsW W p).map (mvw W fr s1.ord):=by unfold cellM;rw[if_pos hk,em]
       rw[this]
       simpa[List.append_assoc] using S4
     · rw[d4]at hq
       rcases List.mem_cons.1 hq with rfl|hq
       · exact hti w hw
       · exact t4 q hq hkq w hw
    |false=>
     rw[if_neg Bool.false_ne_true]
     have hs:strongP W p=[]:=by unfold strongP;rw[if_neg (by rw[hk];exact Bool.false_ne_true)]
     rw[hs]
     have S3:St W fr new s ((done++W.getD p 0::fieldsW W p)++(s.ord.drop (i+1)).flatMap (chunkW W)):=by simpa[List.append_assoc] using S
     have hl1:(done++W.getD p 0::fieldsW W p).length=done.length+1+(hdS (W.getD p 0)).toNat:=by simp[fl];omega
     obtain⟨s4,e4,m4,r4,o4,S4,t4⟩:=ih (i+1) _ S3 (by omega) (by omega)
     rw[hl1]at m4
     have d4:s4.ord.drop i=p::s4.ord.drop (i+1):=by
      have:i<s4.ord.length:=by rw[o4];simp;omega
      rw[List.drop_eq_getElem_cons this]
      congr 1
      simp only[o4]
      rw[List.getElem_append_left hil,hp]
     refine⟨s4,e4,m4,r4,o4,?_,fun q hq hkq w hw=> ?_⟩
     · rw[d4,List.flatMap_cons]
       have:cellM W fr s4.ord p=W.getD p 0::fieldsW W p:=by unfold cellM;rw[if_neg (by rw[hk];exact Bool.false_ne_true)]
       rw[this]
       simpa[List.append_assoc] using S4
     · rw[d4]at hq
       rcases List.mem_cons.1 hq with rfl|hq
       · rw[hk]at hkq;cases hkq
       · exact t4 q hq hkq w hw
  · have hd:s.ord.drop i=[]:=List.drop_of_length_le (by omega)
    rw[hd]at S htop
    refine⟨s,[],?_,?_,by simp,?_,fun q hq=>by rw[hd]at hq;cases hq⟩
    · unfold chgO
      rw[if_neg (by rw[htop];simp)]
    · unfold reachO
      rw[if_neg hil]
    · rw[hd];exact S
end
def cellF (W:List Int)(fr:Nat)(o:List Nat)(p:Nat):List Int:=W.getD p 0::if refB (hdK (W.getD p 0))then (fieldsW W p).map (mvw W fr o)else fieldsW W p
section
variable {W:List Int}{fr tp:Nat}{l new:List Nat}(C:Col W fr tp l new)
include C
theorem weak_st {s:Mv}{Y:List Int}(S:St W fr new s Y){w:Int}(hw:Vw l w):weakO W fr s w=some (s,mvw W fr s.ord w):=by
 unfold weakO mvw
 by_cases h1:Int.tmod w 2≠0
 · rw[if_pos h1,if_pos h1]
 rw[if_neg h1,if_neg h1]
 by_cases h2:Int.tdiv w 2<((max fr 1:Nat):Int)
 · rw[if_pos h2,if_pos h2]
 rw[if_neg h2,if_neg h2]
 obtain⟨a,rfl,ha⟩:=hw.resolve_left h1
 have hd:Int.tdiv (2*(a:Int)) 2=(a:Int):=by rw[tdiv_eq,if_pos (by omega)];omega
 rw[hd]at h2 ⊢
 have tn:(a:Int).toNat=a:=rfl
 have hal:a∈l:=ha.resolve_left (by omega)
 have:=C.cell a hal
 have htn:=C.tpn
 have hlT:=S.lT
 rw[tn,if_pos (by omega),S.T a (by omega)]
theorem chgInW_st: ∀(todo X Z:List Int){s:Mv},St W fr new s (X++todo++Z)→(∀w∈todo,Vw l w)→ ∃s',chgIn (weakO W fr) todo.length X.length s=some s'∧s'.ord=s.ord∧St W fr new s' (X++todo.map (mvw W fr s.ord)++Z):=by
 intro todo
 induction todo with
 |nil=>intro X Z s S _;exact⟨s,rfl,rfl,by simpa using S⟩
 |cons w ws ih=>
  intro X Z s S hv
  have hX:X.length<(X++w::ws++Z).length:=by simp
  obtain⟨g1,g2⟩:=S.getD hX
  have gw:(X++w::ws++Z).getD X.length 0=w:=by simp[List.getD]
  have m1:=weak_st C S (hv w (List.mem_cons_self ..))
  have S2:=S.put hX (mvw W fr s.ord w)
  have eY:(X++w::ws++Z).set X.length (mvw W fr s.ord w)=(X++[mvw W fr s.ord w])++ws++Z:=by
   simp[List.append_assoc]
  rw[eY]at S2
  obtain⟨s3,m3,o3,S3⟩:=ih (X++[mvw W fr s.ord w]) Z S2 fun x hx=>hv x (List.mem_cons_of_mem _ hx)
  refine⟨s3,?_,o3,?_⟩
  · show(if X.length<s.D.length then (weakO W fr s (s.D.getD X.length 0)).bind fun r=>chgIn (weakO W fr) ws.length (X.length+1) (r.1.put X.length r.2)else none)=_
    rw[if_pos g2,g1,gw,m1]
    show chgIn (weakO W fr) ws.length (X.length+1) _=_
    rw[List.length_append]at m3
    exact m3
  · have e:(s.put X.length (mvw W fr s.ord w)).ord=s.ord:=rfl
    rw[e]at S3
    simpa[List.append_assoc] using S3
theorem chgW_st: ∀(rest:List Nat)(f:Nat)(done:List Int){s:Mv},(∀p∈rest,p∈l)→St W fr new s (done++rest.flatMap (cellM W fr s.ord))→rest.length<f→ ∃s',chgO (fun k=>k==5) (weakO W fr) f done.length s=some s'∧s'.ord=s.ord∧St W fr new s' (done++rest.flatMap (cellF W fr s.ord)):=by
 intro rest
 induction rest with
 |nil=>
  intro f done s _ S hf
  obtain⟨f,rfl⟩: ∃g,f=g+1:=⟨f-1,by simp at hf;omega⟩
  refine⟨s,?_,rfl,S⟩
  unfold chgO
  rw[if_neg (by rw[←S.lY];simp)]
 |cons p rest ih=>
  intro f done s hl S hf
  obtain⟨f,rfl⟩: ∃g,f=g+1:=⟨f-1,by simp at hf;omega⟩
  have hpl:=hl p (List.mem_cons_self ..)
  obtain⟨c1,c2,c3,c4,c5,c6⟩:=C.cell p hpl
  have fl:=fields_len C hpl
  have hcl:(cellM W fr s.ord p).length=1+(hdS (W.getD p 0)).toNat:=by
   unfold cellM
   split<;>simp[fl]<;>omega
  rw[List.flatMap_cons]at S
  have htop:s.top=(done++(cellM W fr s.ord p++rest.flatMap (cellM W fr s.ord))).length:=S.lY.symm
  have hdl:done.length<s.top:=by rw[htop,List.length_append,List.length_append,hcl];omega
  have hlen:done.length<(done++(cellM W fr s.ord p++rest.flatMap (cellM W fr s.ord))).length:=by rw[←htop];exact hdl
  obtain⟨g1,g2⟩:=S.getD hlen
  have gw:(done++(cellM W fr s.ord p++rest.flatMap (cellM W fr s.ord))).getD done.length 0=W.getD p 0:=by simp[List.getD,cellM]
  rw[gw]at g1
  have hchg:chgO (fun k=>k==5) (weakO W fr) (f+1) done.length s=(if (hdK (W.getD p 0)==5)then (chgIn (weakO W fr) (hdS (W.getD p 0)).toNat (done.length+1) s).bind fun s'=>chgO (fun k=>k==5) (weakO W fr) f (done.length+1+(hdS (W.getD p 0)).toNat) s' else chgO (fun k=>k==5) (weakO W fr) f (done.length+1+(hdS (W.getD p 0)).toNat) s):=by
   conv=>lhs;unfold chgO
   rw[if_pos hdl,g1,if_pos ⟨g2,c4,c5⟩]
  rw[hchg]
  by_cases hk:hdK (W.getD p 0)=5
  · have hkb:(hdK (W.getD p 0)==5)=true:=by rw[hk];rfl
    have hkk:keepB (hdK (W.getD p 0))=false:=by rw[hk];rfl
    have hrr:refB (hdK (W.getD p 0))=true:=by rw[hk];rfl
    have eM:cellM W fr s.ord p=W.getD p 0::fieldsW W p:=by unfold cellM;rw[if_neg (by rw[hkk];exact Bool.false_ne_true)]
    have eF:cellF W fr s.ord p=W.getD p 0::(fieldsW W p).map (mvw W fr s.ord):=by unfold cellF;rw[if_pos hrr]
    rw[if_pos hkb]
    rw[eM]at S
    have S1:St W fr new s ((done++[W.getD p 0])++fieldsW W p++rest.flatMap (cellM W fr s.ord)):=by simpa[List.append_assoc] using S
    obtain⟨s1,m1,o1,S2⟩:=chgInW_st C (fieldsW W p) (done++[W.getD p 0]) _ S1 (C.word p hpl hrr)
    have m1':chgIn (weakO W fr) (hdS (W.getD p 0)).toNat (done.length+1) s=some s1:=by
     rw[←fl];simpa using m1
    have S3:St W fr new s1 ((done++W.getD p 0::(fieldsW W p).map (mvw W fr s.ord))++rest.flatMap (cellM W fr s1.ord)):=by
     rw[o1];simpa[List.append_assoc] using S2
    have hl1:(done++W.getD p 0::(fieldsW W p).map (mvw W fr s.ord)).length=done.length+1+(hdS (W.getD p 0)).toNat:=by simp[fl];omega
    obtain⟨s4,m4,o4,S4⟩:=ih f _ (fun q hq=>hl q (List.mem_cons_of_mem _ hq)) S3 (by simp at hf;omega)
    rw[hl1]at m4
    rw[m1']
    refine⟨s4,m4,o4.trans o1,?_⟩
    rw[List.flatMap_cons,eF]
    rw[o1]at S4
    simpa[List.append_assoc] using S4
  · have hkb:(hdK (W.getD p 0)==5)=false:=beq_eq_false_iff_ne.2 hk
    have eF:cellF W fr s.ord p=cellM W fr s.ord p:=by
     unfold cellF cellM refB
     rw[hkb,Bool.or_false]
    rw[if_neg (by rw[hkb];exact Bool.false_ne_true)]
    have S3:St W fr new s ((done++cellM W fr s.ord p)++rest.flatMap (cellM W fr s.ord)):=by simpa[List.append_assoc] using S
    have hl1:(done++cellM W fr s.ord p).length=done.length+1+(hdS (W.getD p 0)).toNat:=by rw[List.length_append,hcl];omega
    obtain⟨s4,m4,o4,S4⟩:=ih f _ (fun q hq=>hl q (List.mem_cons_of_mem _ hq)) S3 (by simp at hf;omega)
    rw[hl1]at m4
    refine⟨s4,m4,o4,?_⟩
    rw[List.flatMap_cons,eF]
    simpa[List.append_assoc] using S4
end
theorem cellsG_total {W:List Int}{top:Nat}: ∀ {f p:Nat}{l:List Nat},cellsG W top f p=some l→p+totalW W l=top:=by
 intro f
 induction f with
 |zero=>intro p l h;cases h
 |succ f ih=>
  intro p l h
  rcases cellsG_cons h with ⟨h1,h2,h3,l',rfl,h4⟩|⟨rfl,rfl⟩
  · have:=ih h4
    show p+(szW W p+totalW W l')=top
    unfold szW
    omega
  · rfl
theorem Vw.of {l:List Nat}{w:Int}(h:wordR l w=true):Vw l w:=by
 unfold wordR at h
 split at h
 · rename_i h0;subst h0;exact .inr ⟨0,rfl,.inl rfl⟩
 · split at h
   · exact .inl ‹_›
   · rename_i h1
     rw[List.contains_iff_mem]at h
     obtain⟨a,ha,e⟩:=List.mem_map.1 h
     refine .inr ⟨a,?_,.inr ha⟩
     have:=Int.mul_tdiv_add_tmod w 2
     have h1:Int.tmod w 2=0:=by simpa using h1
     rw[h1,←e]at this
     have e2:Int.ofNat a=(a:Int):=rfl
     omega
theorem col_of {W:List Int}{top:Int}{R:List Int}{l:List Nat}(h:checkP W top R=some l):Col W 1 top.toNat l l∧ ∀w∈R,Vw l w:=by
 obtain⟨f1,f2,f3,f4,f5,f6,f7,f8,f9⟩:=checkP_cells h
 have hR:=cellsG_R f7
 have hm:=cellsR_mem hR
 have htn:top.toNat≤W.length:=by omega
 have hl: ∀x∈l,x<W.length:=fun x hx=>by have:=hm.2 x hx;omega
 refine⟨⟨Nat.le_refl _,htn,fun p hp=> ?_,fun p hp hk w hw=> ?_,fun p=>⟨fun hp=>⟨hp,(hm.2 p hp).1⟩,fun hp=>hp.1⟩,Nat.le_of_eq (cellsG_total f7)⟩,fun w hw=> ?_⟩
 · obtain⟨m1,m2,m3,m4,m5⟩:=hm.2 p hp
   refine⟨m1,m2,m3,?_,m4,?_⟩
   · unfold hdS;rw[tdiv_eq,if_pos m3];omega
   · unfold szW;omega
 · have:=List.all_eq_true.1 (List.all_eq_true.1 f9 p hp) w hw
   have hk2:fieldB (beginP W l) (hdK (W.getD p 0)) w=wordB (beginP W l) w:=by
    unfold fieldB
    unfold refB keepB at hk
    rw[if_neg (fun h3=>by rw[h3]at hk;cases hk),if_neg (fun h3=>by rw[h3]at hk;cases hk)]
   rw[hk2,word_RB hl f1]at this
   exact Vw.of this
 · have:=List.any_eq_false.1 f8 w hw
   rw[word_RB hl f1]at this
   exact Vw.of (by simpa using this)
theorem start_st {W:List Int}{fr tp:Nat}{l new:List Nat}(C:Col W fr tp l new)(hfr:fr≤W.length):St W fr new (startM W fr) (W.take fr):=by
 refine⟨?_,by rw[List.length_take];show min fr _=fr;omega,rfl,List.nodup_nil,fun a h=>(by cases h),(by show(List.replicate W.length 0).length=_;simp),fun a ha=> ?_⟩
 rotate_left
 · show(List.replicate W.length 0).getD a 0=0
   simp[List.getD,ha]
 show putAt (List.replicate W.length (0:Int)) 0 (W.take fr)=_
 have:=putAt_zeros C [] (W.take fr) W.length (by rw[List.length_take];omega)
 simp only[List.nil_append,List.length_nil]at this
 rw[this,List.length_take,Nat.min_eq_left hfr]
 rfl
theorem run_all {W:List Int}{tp:Nat}{l:List Nat}(C:Col W 1 tp l l)(hW1:1≤W.length)(hW:W.length≤1000){R more:List Int}(hR: ∀w∈R,Vw l w)(hM: ∀w∈more,Vw l w):
 ∃s,runO W 1 R more=some (s,R.map (mvw W 1 s.ord),more.map (mvw W 1 s.ord))∧reachO W 1 (W.length+2) 0 (withP 1 (R++more) [])=some s.ord∧St W 1 l s (W.take 1++s.ord.flatMap (cellF W 1 s.ord)):=by
 have S0:=start_st C hW1
 obtain⟨s1,e1,m1,o1,p1,S1,t1⟩:=moves_st C R S0 hR
 obtain⟨s2,e2,m2,o2,p2,S2,t2⟩:=moves_st C more S1 hM
 have o1':s1.ord=e1:=by rw[o1];rfl
 have o2':s2.ord=e1++e2:=by rw[o2,o1']
 have S2':St W 1 l s2 (W.take 1++(s2.ord.drop 0).flatMap (chunkW W)):=by
  rw[List.drop_zero,o2'];simpa[List.append_assoc] using S2
 have d1:(W.take 1).length=1:=by rw[List.length_take];omega
 obtain⟨s3,e3,m3,r3,o3,S3,t3⟩:=chg_st C hW (W.length+2) 0 (W.take 1) S2' (Nat.zero_le _) (by omega)
 rw[List.drop_zero]at S3
 rw[d1]at m3
 have hl3: ∀p∈s3.ord,p∈l:=S3.sub
 have hlen:=length_total W s3.ord
 have hfit:=C.fit S3
 have htop:=S3.top
 have htn:=C.tpn
 obtain⟨s4,m4,o4,S4⟩:=chgW_st C s3.ord (W.length+2) (W.take 1) hl3 S3 (by omega)
 rw[d1]at m4
 have w12:withP 1 (R++more) []=s2.ord:=by
  have app: ∀(a b:List Int) (o:List Nat),withP 1 (a++b) o=withP 1 b (withP 1 a o):=by
   intro a
   induction a with
   |nil=>intro b o;rfl
   |cons x a ih=>intro b o;rw[List.cons_append,withP_cons,ih,←withP_cons]
  rw[app,show withP 1 R []=s1.ord from p1,p2]
 refine⟨s4,?_,by rw[w12,r3,o4],by rw[o4];exact S4⟩
 unfold runO
 rw[m1]
 show(movesO W 1 more s1).bind _=_
 rw[m2]
 show(chgO keepB (moveO W 1) (W.length+2) 1 s2).bind _=_
 rw[m3]
 show(chgO (fun k=>k==5) (weakO W 1) (W.length+2) 1 s3).map _=_
 rw[m4]
 show some (s4,R.map (mvw W 1 s1.ord),more.map (mvw W 1 s2.ord))=_
 have a1:R.map (mvw W 1 s1.ord)=R.map (mvw W 1 s4.ord):=List.map_congr_left fun w hw=>by rw[o4,o3,o2,List.append_assoc,mvw_app (t1 w hw)]
 have a2:more.map (mvw W 1 s2.ord)=more.map (mvw W 1 s4.ord):=List.map_congr_left fun w hw=>by rw[o4,o3,mvw_app (t2 w hw)]
 rw[a1,a2]
theorem works_true {h:Hp}(ht:Tb h):EvT Ow 14 [] h (.bool true) h:=Ow_works ht.1 ht.2
section
variable {O:CallF}(hO:Oth O)
include hO
theorem ct40 {g:Hp}{a a1:Option Addr}{n c n1 c1:Nat}{xs:List Int}(X:IntsAt g a n xs)(Y:IntsAt g a1 n1 xs)(hl:xs.length<1000000):Ret Tryz.prog O 40 [.slice a n c,.slice a1 n1 c1] g fun v h'=>v= .bool true∧Kp g.nx g h':=by
 have hx:=X.1
 have hy:=Y.1
 refine rk40 _ _ _ _ _ _ (hO _ _ _ (by decide)) ?_
 unfold T40
 refine vcond_f (by rw[hx,hy,eqI_t rfl];rfl) ?_
 have lp: ∀(d k:Nat) (h:Hp),k+d=xs.length→Kp g.nx g h→I40_0 O (fun v h'=>v= .bool true∧Kp g.nx g h') a n c a1 n1 c1 false (Int.ofNat k) h:=by
  intro d
  induction d with
  |zero=>
   intro k h hk kp
   refine I40_0.of _ _ _ _ _ _ _ _ ?_
   unfold T40_0
   exact vcond_f (by rw[ltI_nat];exact blt_f (by omega)) ⟨rfl,kp⟩
  |succ d ih=>
   intro k h hk kp
   refine I40_0.of _ _ _ _ _ _ _ _ ?_
   unfold T40_0
   have hk':k<xs.length:=by omega
   refine vcond_t (by rw[ltI_nat];exact blt_t (by omega)) ?_
   intro g101
   have kp1:Kp g.nx g g101:=kp.rsv 9
   haveI:Ft g g101:=kp1.ex (Nat.le_refl _)
   refine isNat_i (X.rd hk' (isNat_i (Y.rd hk' (vcond_f (by rw[eqI_t rfl];rfl) ?_))))
   rw[wrap_succ (by omega)]
   exact ih (k+1) g101 (by omega) kp1
 exact lp xs.length 0 g (by omega) (Kp.refl _ _)
def largeB (W R:List Int)(n:Nat):Bool:=decide (250<W.length)||decide (40<R.length)||decide (40<n)
theorem ct13 {g:Hp}{aw:Option Addr}{nw cw:Nat}{W:List Int}{top:Int}{ar:Option Addr}{nr cr:Nat}{R:List Int}(hw:nw=W.length)(hr:nr=R.length)(a:Option Addr)(n c:Nat):Ret Tryz.prog O 13 [.agg #[.slice aw nw cw,.int .i64 top,.slice ar nr cr],.slice a n c] g fun v h'=>v= .bool (largeB W R n)∧Kp g.nx g h':=by
 subst hw hr
 refine rk13 _ _ _ _ _ _ _ _ _ _ (hO _ _ _ (by decide)) ?_
 unfold T13
 intro g1
 have k1:Kp g.nx g g1:=(Kp.refl _ g).add (Nat.le_refl _) _
 have s1:g1.get g.nx=some (.cells [.slice aw W.length cw,.int .i64 top,.slice ar R.length cr] 24 .fix):=get_add_same ..
 unfold largeB
 refine⟨_,_,_,read1 (i:=0) s1 rfl,vcond_split (fun h1=> ?_) fun h1=> ?_⟩
 · have h1:250<W.length:=Int.ofNat_lt.1 (lt_of_t h1)
   rw[decide_eq_true h1];exact⟨rfl,k1⟩
 have h1: ¬250<W.length:=fun hh=>not_lt_of_f h1 (Int.ofNat_lt.2 hh)
 rw[decide_eq_false h1,Bool.false_or]
 refine⟨_,_,_,read1 (i:=2) s1 rfl,vcond_split (fun h2=> ?_) fun h2=> ?_⟩
 · have h2:40<R.length:=Int.ofNat_lt.1 (lt_of_t h2)
   rw[decide_eq_true h2];exact⟨rfl,k1⟩
 have h2: ¬40<R.length:=fun hh=>not_lt_of_f h2 (Int.ofNat_lt.2 hh)
 rw[decide_eq_false h2,Bool.false_or]
 refine⟨?_,k1⟩
 congr 1
 rw[ltI_eq]
 have:((40:Int)<Int.ofNat n)=(40<n):=propext Int.ofNat_lt
 simp only[this]
end
def addrs (W:List Int):Nat→List Nat→List Nat
 |_,[]=>[]
 |b,x::xs=>b::addrs W (b+szW W x) xs
theorem addrs_length (W:List Int): ∀(l:List Nat)(b:Nat),(addrs W b l).length=l.length:=by
 intro l
 induction l with
 |nil=>intro b;rfl
 |cons x l ih=>intro b;show(addrs W (b+szW W x) l).length+1=l.length+1;rw[ih]
theorem addrs_app (W:List Int): ∀(l m:List Nat)(b:Nat),addrs W b (l++m)=addrs W b l++addrs W (b+totalW W l) m:=by
 intro l
 induction l with
 |nil=>intro m b;rfl
 |cons x l ih=>
  intro m b
  show b::addrs W (b+szW W x) (l++m)=b::(addrs W (b+szW W x) l++addrs W (b+(szW W x+totalW W l)) m)
  rw[ih,Nat.add_assoc]
theorem addrs_get (W:List Int)(l:List Nat)(b k:Nat)(hk:k<l.length):(addrs W b l)[k]? =some (b+totalW W (l.take k)):=by
 have:l=l.take k++l.drop k:=(List.take_append_drop k l).symm
 conv=>lhs;rw[this]
 rw[addrs_app,List.getElem?_append_right (by rw[addrs_length,List.length_take];omega),addrs_length]
 rw[List.drop_eq_getElem_cons hk]
 have:k-(l.take k).length=0:=by simp;omega
 rw[this]
 rfl
structure Wr (oD:Nat)(h h':Hp):Prop where
 get: ∀o,o<h.nx→o≠oD→h'.get o=h.get o
 nx:h.nx≤h'.nx
 gd:h'.gd=h.gd
 fr:h.Fresh→h'.Fresh
theorem Wr.trans {oD:Nat}{h h' h'':Hp}(a:Wr oD h h')(b:Wr oD h' h''):Wr oD h h'':=⟨fun o ho hne=>(b.get o (Nat.lt_of_lt_of_le ho a.nx) hne).trans (a.get o ho hne),Nat.le_trans a.nx b.nx,b.gd.trans a.gd,fun f=>b.fr (a.fr f)⟩
theorem Wr.kp {oD:Nat}{h h':Hp}(k:Kp h.nx h h'):Wr oD h h':=⟨fun o ho _=>k.get o ho,k.nx,k.gd,k.fr⟩
theorem Wr.wr {oD:Nat}(h:Hp)(off:Nat)(vs:List Value):Wr oD h (h.wr oD off vs):=⟨fun _ _ hne=>wr_get_ne _ _ _ _ hne,by rw[nx_wr];exact Nat.le_refl _,gd_wr ..,fun f=>f.wr _ _ _⟩
theorem Wr.ft {oD:Nat}{g h h':Hp}(w:Wr oD h h')(f:Ft g h)(hg:g.nx≤oD):Ft g h':=⟨fun o ho=>(w.get o (Nat.lt_of_lt_of_le ho f.nx) (by omega)).trans (f.get o ho),Nat.le_trans f.nx w.nx⟩
theorem putAt_snoc {α:Type}{D c:List α}{k:Nat}{v:α}(h:k+c.length<D.length):(putAt D k c).set (k+c.length) v=putAt D k (c++[v]):=by
 refine List.ext_getElem? fun i=> ?_
 rw[putAt_get _ _ _ (by simp;omega),List.getElem?_set,putAt_length,putAt_get _ _ _ (by omega)]
 simp only[List.length_append,List.length_cons,List.length_nil]
 by_cases h1:k+c.length=i
 · subst h1
   rw[if_pos rfl,if_pos h,if_pos ⟨by omega,by omega⟩]
   rw[show k+c.length-k=c.length by omega]
   simp
 · rw[if_neg h1]
   by_cases h2:k≤i∧i<k+c.length
   · rw[if_pos h2,if_pos ⟨h2.1,by omega⟩,List.getElem?_append_left (by omega)]
   · rw[if_neg h2,if_neg (by omega)]
theorem putAt_nil {α:Type}: ∀(D:List α)(k:Nat),putAt D k []=D:=by
 intro D
 induction D with
 |nil=>intro k;cases k<;>rfl
 |cons d D ih=>intro k;cases k with
  |zero=>rfl
  |succ k=>show d::putAt D k []=_;rw[ih]
section
variable {O:CallF}(hO:Oth O)
include hO
theorem lp129 {h:Hp}{W:List Int}{a1:Option Addr}{n1 c1:Nat}{l:List Nat}(L:IntsAt h a1 n1 (l.map Int.ofNat)){a2:Option Addr}{n2 c2:Nat}{fr:Nat}(T:IntsAt h a2 n2 ((addrs W fr l).map Int.ofNat))(lt:fr+totalW W l<1000000)(x0 x3 x8:Int){a:Nat}{Q:Value→Hp→Prop}(hQ:Q (.int .i64 (2*(posF W fr l a:Int))) h):
 ∀(d k:Nat),k+d=l.length→posF W fr l a=posF W (fr+totalW W (l.take k)) (l.drop k) a→I129_0 O Q x0 a1 n1 c1 a2 n2 c2 x3 x8 (Int.ofNat a) (Int.ofNat k) h:=by
 have _:=hO
 have hn:=L.1
 rw[List.length_map]at hn
 have hn2:=T.1
 rw[List.length_map,addrs_length]at hn2
 have hll:=length_total W l
 intro d
 induction d with
 |zero=>
  intro k hk hp
  refine I129_0.of _ _ _ _ _ _ _ _ _ _ _ ?_
  unfold T129_0
  refine vcond_f (by rw[ltI_nat];exact blt_f (by omega)) ?_
  rw[List.drop_of_length_le (by omega)]at hp
  rw[show posF W fr l a=0 from hp]at hQ
  exact hQ
 |succ d ih=>
  intro k hk hp
  have hk':k<l.length:=by omega
  refine I129_0.of _ _ _ _ _ _ _ _ _ _ _ ?_
  unfold T129_0
  rw[List.drop_eq_getElem_cons hk']at hp
  refine vcond_t (by rw[ltI_nat];exact blt_t (by omega)) (isNat_i (L.rd (k:=k) (by simpa using hk') ?_))
  rw[List.getElem_map]
  refine vcond_split (fun h1=> ?_) fun h1=> ?_
  · have h1:l[k]=a:=Int.ofNat_inj.1 (eq_of_t h1)
    have hpos:posF W fr l a=fr+totalW W (l.take k):=by
     rw[hp];unfold posF;rw[if_pos h1]
    refine isNat_i (T.rd (k:=k) (by rw[List.length_map,addrs_length];exact hk') ?_)
    rw[List.getElem_map]
    have ha:=addrs_get W l fr k hk'
    rw[List.getElem?_eq_getElem (by rw[addrs_length];exact hk')]at ha
    rw[Option.some.inj ha,←hpos]
    have hle:posF W fr l a≤fr+totalW W l:=by
     rw[hpos]
     have:=totalW_app W (l.take k) (l.drop k)
     rw[List.take_append_drop]at this
     omega
    rw[dbl64 (n:=fr+totalW W l) hle (by omega)]
    exact hQ
  · have h1:l[k]≠a:=fun hh=>ne_of_f h1 (by rw[hh])
    rw[wrap_succ (by omega)]
    refine ih (k+1) (by omega) ?_
    rw[hp]
    conv=>lhs;unfold posF
    rw[if_neg h1]
    congr 1
    rw[List.take_add_one,totalW_app,List.getElem?_eq_getElem hk']
    show _=fr+(totalW W (l.take k)+(szW W l[k]+0))
    omega
theorem ct129 {h:Hp}{W:List Int}{a1:Option Addr}{n1 c1:Nat}{l:List Nat}(L:IntsAt h a1 n1 (l.map Int.ofNat)){a2:Option Addr}{n2 c2:Nat}{fr:Nat}(hfr:1≤fr)(T:IntsAt h a2 n2 ((addrs W fr l).map Int.ofNat))(lt:fr+totalW W l<1000000){w:Int}(hw:In64 w):
 EvT O 129 [.int .i64 w,.slice a1 n1 c1,.slice a2 n2 c2,.int .i64 (Int.ofNat fr)] h (.int .i64 (mvw W fr l w)) h:=by
 refine evt hO (rk129 _ _ _ _ _ _ _ _ (hO _ _ _ (by decide)) ?_)
 unfold T129
 refine⟨_,_,ct145 hO hw h,?_⟩
 have hmax:((max fr 1:Nat):Int)=(fr:Int):=by rw[Nat.max_eq_left hfr]
 unfold mvw refd
 by_cases h1:Int.tmod w 2≠0
 · rw[if_pos h1,if_pos h1]
   exact vcond_t (eqI_t rfl) ⟨rfl,rfl⟩
 rw[if_neg h1,if_neg h1,hmax]
 refine vcond_split (fun h2=> ?_) fun h2=> ?_
 · rw[if_pos (by rw[eq_of_t h2];omega)];exact⟨rfl,rfl⟩
 refine vcond_split (fun h3=> ?_) fun h3=> ?_
 · have h3:Int.tdiv w 2<(fr:Int):=lt_of_t h3
   rw[if_pos h3];exact⟨rfl,rfl⟩
 have h3: ¬Int.tdiv w 2<(fr:Int):=not_lt_of_f h3
 rw[if_neg h3]
 obtain⟨a,ha⟩: ∃a:Nat,Int.tdiv w 2=Int.ofNat a:=Int.eq_ofNat_of_zero_le (by omega)
 rw[ha]
 exact lp129 hO L T lt w (Int.ofNat fr) 0 (a:=a) ⟨rfl,rfl⟩ l.length 0 (by omega) rfl
def putF (W:List Int)(fr:Nat)(l:List Nat)(k w:Int):Int:=if k=3∨k=4 then w else mvw W fr l w
theorem lp128 {gB:Hp}{W:List Int}{fr:Nat}(hfr:1≤fr){l:List Nat}{a1:Option Addr}{n1 c1:Nat}(L:IntsAt gB a1 n1 (l.map Int.ofNat)){a2:Option Addr}{n2 c2:Nat}(T:IntsAt gB a2 n2 ((addrs W fr l).map Int.ofNat))(lt:fr+totalW W l<1000000){a15:Option Addr}{n15 c15:Nat}{fs:List Int}(F:IntsAt gB a15 n15 fs)(hF: ∀x∈fs,In64 x){k:Int}{oD n:Nat}{c0:Nat}(hoD:gB.nx≤oD){D:List Int}(hDn:D.length=n)(hn:n<1000000){p:Nat}{hd:Int}(hp:p+1+fs.length≤n)
 (b0:Option Addr) (m0 e0:Nat) (x0:Int) (b2:Option Addr) (m2 e2:Nat) (x3:Int) {h0:Hp} {Q:Value→Hp→Prop} (next: ∀h,Wr oD h0 h→h.get oD=some (.cells ((putAt D p (hd::fs.map (putF W fr l k))).map (Value.int .i64)) 3 .fix)→Q undef h):
 ∀(d i:Nat) (h:Hp),i+d=fs.length→Ft gB h→h.guarded oD=false→Wr oD h0 h→h.get oD=some (.cells ((putAt D p (hd::(fs.take i).map (putF W fr l k))).map (Value.int .i64)) 3 .fix)→
 I128_0 O Q (some ⟨oD,0,none⟩) n c0 (Int.ofNat p) b0 m0 e0 x0 b2 m2 e2 x3 a1 n1 c1 a2 n2 c2 (Int.ofNat fr) k a15 n15 c15 (Int.ofNat i) h:=by
 have hn15:=F.1
 intro d
 induction d with
 |zero=>
  intro i h hi ft hu wr hg
  refine I128_0.of (hh:= ?_) ..
  unfold T128_0
  rw[List.take_of_length_le (by omega)]at hg
  exact vcond_f (by rw[ltI_nat];exact blt_f (by omega)) (next h wr hg)
 |succ d ih=>
  intro i h hi ft hu wr hg
  refine I128_0.of (hh:= ?_) ..
  unfold T128_0
  have hi':i<fs.length:=by omega
  have w1:wrapF .i64 (wrapF .i64 (Int.ofNat p+1)+Int.ofNat i)=Int.ofNat (p+1+i):=by
   rw[wrap_succ (by omega),wrap64 (by simp;omega) (by simp;omega)];simp
  rw[w1,wrap_succ (by omega)]
  have dl: ∀(c:List Int),(putAt D p c).length=n:=fun c=>by rw[putAt_length];exact hDn
  refine vcond_t (by rw[ltI_nat];exact blt_t (by omega)) (isNat_i (F.rd hi' (isNat_i ?_)))
  show vreq _ _
  have l1:0+(p+1+i)*1+ [Value.int .i64 fs[i]].length≤((putAt D p (hd::(fs.take i).map (putF W fr l k))).map (Value.int .i64)).length:=by
   rw[List.length_map,dl];simp;omega
  refine vreq_t (blt_t (by omega)) (vreq_t (canW_t hg (by decide) hu l1 rfl) ?_)
  intro g108
  have wr1:Wr oD h g108:=Wr.wr h _ _
  have g1:g108.get oD=some (.cells (((putAt D p (hd::(fs.take i).map (putF W fr l k))).set (p+1+i) fs[i]).map (Value.int .i64)) 3 .fix):=by
   rw[show g108.get oD=_ from wr_get hg (by decide) hu l1 rfl,Nat.zero_add,Nat.mul_one,putAt_map (Value.int .i64) (by rw[dl];omega)]
  have hu1:g108.guarded oD=false:=by
   unfold Hp.guarded at hu ⊢
   rw[wr1.gd];exact hu
  have ft1:Ft gB g108:=wr1.ft ft hoD
  have step: ∀v,(putAt D p (hd::(fs.take i).map (putF W fr l k))).set (p+1+i) v=putAt D p (hd::(fs.take i).map (putF W fr l k)++[v]):=fun v=>by
   have:=putAt_snoc (D:=D) (c:=hd::(fs.take i).map (putF W fr l k)) (k:=p) (v:=v) (by simp;omega)
   rw[←this]
   congr 1
   simp;omega
  have tk: ∀v,v=putF W fr l k fs[i]→hd::(fs.take i).map (putF W fr l k)++[v]=hd::(fs.take (i+1)).map (putF W fr l k):=fun v hv=>by
   rw[List.take_add_one,List.getElem?_eq_getElem hi',hv,List.map_append];rfl
  have raw:k=3∨k=4→I128_0 O Q (some ⟨oD,0,none⟩) n c0 (Int.ofNat p) b0 m0 e0 x0 b2 m2 e2 x3 a1 n1 c1 a2 n2 c2 (Int.ofNat fr) k a15 n15 c15 (Int.ofNat (i+1)) g108:=fun hk=>by
   refine ih (i+1) g108 (by omega) ft1 hu1 (wr.trans wr1) ?_
   rw[g1,step,tk _ (by unfold putF;rw[if_pos hk])]
  refine vcond_split (fun h3=>vcond_split (fun h4=> ?_) fun h4=>raw (.inr (eq_of_t (nt_t h4)))) fun h3=>raw (.inl (eq_of_t (nt_t h3)))
  have h3:=ne_of_f (nt_f h3)
  have h4:=ne_of_f (nt_f h4)
  refine isNat_i (F.rd hi' ?_)
  refine⟨_,_,ct129 hO (L.to g108) hfr (T.to g108) lt (hF _ (List.getElem_mem hi')),isNat_i ?_⟩
  show vreq _ _
  have l2:0+(p+1+i)*1+ [Value.int .i64 (mvw W fr l fs[i])].length≤(((putAt D p (hd::(fs.take i).map (putF W fr l k))).set (p+1+i) fs[i]).map (Value.int .i64)).length:=by
   rw[List.length_map,List.length_set,dl];simp;omega
  refine vreq_t (blt_t (by omega)) (vreq_t (canW_t g1 (by decide) hu1 l2 rfl) ?_)
  intro g118
  have wr2:Wr oD g108 g118:=Wr.wr g108 _ _
  refine ih (i+1) g118 (by omega) (wr2.ft ft1 hoD) (by unfold Hp.guarded at hu1 ⊢; rw[wr2.gd];exact hu1) (wr.trans (wr1.trans wr2)) ?_
  rw[show g118.get oD=_ from wr_get g1 (by decide) hu1 l2 rfl,Nat.zero_add,Nat.mul_one,putAt_map (Value.int .i64) (by rw[List.length_set,dl];omega),List.set_set,step,tk _ (by unfold putF;rw[if_neg (by simp[h3,h4])])]
theorem ct128 {gB h:Hp} [ft:Ft gB h] {W:List Int}{aw:Option Addr}{nw cw:Nat}{top:Int}{ar:Option Addr}{nr cr:Nat}(HW:SI gB aw nw cw W)(hW: ∀x∈W,In64 x)(lW:W.length<1000000){fr:Nat}(hfr:1≤fr){l:List Nat}{a1:Option Addr}{n1 c1:Nat}(L:IntsAt gB a1 n1 (l.map Int.ofNat)){a2:Option Addr}{n2 c2:Nat}(T:IntsAt gB a2 n2 ((addrs W fr l).map Int.ofNat))(lt:fr+totalW W l<1000000){q:Nat}(hq:CellAt W q){oD n c0:Nat}(hoD:gB.nx≤oD)(hDx:oD<h.nx)(hu:h.guarded oD=false){D:List Int}(hD:h.get oD=some (.cells (D.map (Value.int .i64)) 3 .fix))(hDn:D.length=n)(hn:n<1000000){p:Nat}(hp:p+1+(fieldsW W q).length≤n):
 Ret Tryz.prog O 128 [.slice (some ⟨oD,0,none⟩) n c0,.int .i64 (Int.ofNat p),.agg #[.slice aw nw cw,.int .i64 top,.slice ar nr cr],.int .i64 (Int.ofNat q),.slice a1 n1 c1,.slice a2 n2 c2,.int .i64 (Int.ofNat fr)] h fun v h'=>v=undef∧Wr oD h h'∧h'.get oD=some (.cells ((putAt D p (W.getD q 0::(fieldsW W q).map (putF W fr l (hdK (W.getD q 0))))).map (Value.int .i64)) 3 .fix):=by
 refine rk128 (hO:=hO _ _ _ (by decide)) (hh:= ?_) ..
 unfold T128
 intro g1
 obtain⟨q1,q2,q3,q4⟩:=hq
 have k1:Kp h.nx h g1:=(Kp.refl _ h).add (Nat.le_refl _) _
 have f1:Ft gB g1:=ft.tr (k1.ex (Nat.le_refl _))
 have s1:g1.get h.nx=some (.cells [.slice aw nw cw,.int .i64 top,.slice ar nr cr] 24 .fix):=get_add_same ..
 have gq:W.getD q 0=W[q]:=by simp[List.getD,List.getElem?_eq_getElem q1]
 have D1:g1.get oD=_:=(k1.get _ hDx).trans hD
 refine⟨_,_,_,read1 (i:=0) s1 rfl,isNat_i (HW.at_.rd q1 (isNat_i ?_))⟩
 show vreq _ _
 have l1:0+p*1+ [Value.int .i64 W[q]].length≤(D.map (Value.int .i64)).length:=by rw[List.length_map,hDn];simp;omega
 refine vreq_t (blt_t (by omega)) (vreq_t (canW_t D1 (by decide) hu l1 rfl) ?_)
 intro g12
 have wr1:Wr oD h g12:=(Wr.kp k1).trans (Wr.wr g1 _ _)
 have D2:g12.get oD=some (.cells ((D.set p W[q]).map (Value.int .i64)) 3 .fix):=by
  rw[show g12.get oD=_ from wr_get D1 (by decide) hu l1 rfl,Nat.zero_add,Nat.mul_one,putAt_map (Value.int .i64) (by omega)]
 have s12:g12.get h.nx=_:=(wr_get_ne _ _ _ _ (by omega)).trans s1
 have f12:Ft gB g12:=wr1.ft ft hoD
 have n12:g12.nx=h.nx+1:=by show(Hp.wr _ _ _ _).nx=_;rw[nx_wr,nx_add]
 refine⟨_,_,_,read1 (i:=0) s12 rfl,isNat_i (HW.at_.rd q1 ⟨_,_,ct90 hO _ _,_,_,_,_,_,_,_,rd3 s12,?_⟩)⟩
 refine ct122 hO HW hW lW q1 q2 q3 q4 fun a n' c h' F k'=> ?_
 have wr2:Wr oD h h':=wr1.trans (Wr.kp k')
 have D3:h'.get oD=_:=(k'.get _ (by omega)).trans D2
 have e0:D.set p W[q]=putAt D p (W[q]::((fieldsW W q).take 0).map (putF W fr l (hdK W[q]))):=by
  have:=putAt_snoc (D:=D) (c:=[]) (k:=p) (v:=W[q]) (by simp;omega)
  rw[putAt_nil]at this
  exact this
 rw[e0]at D3
 rw[←gq]at D3 ⊢
 exact lp128 hO hfr L T lt F.at_ (fun x hx=>hW _ (List.mem_of_mem_drop (List.mem_of_mem_take hx))) hoD hDn hn (hd:=W.getD q 0) hp aw nw cw top ar nr cr (Int.ofNat q) (fun h w g=>⟨rfl,w,g⟩) (fieldsW W q).length 0 h' (by omega) (f12.tr (k'.ex (Nat.le_refl _))) (by unfold Hp.guarded at hu ⊢; rw[wr2.gd];exact hu) wr2 D3
theorem lp72 {g:Hp}(okg:g.Ok){aw:Option Addr}{nw cw:Nat}{W:List Int}{top:Int}(HW:SI g aw nw cw W)(hW: ∀x∈W,In64 x){ar:Option Addr}{nr cr:Nat}{a1:Option Addr}{n1 c1:Nat}{l:List Nat}(L:IntsAt g a1 n1 (l.map Int.ofNat))(hc: ∀p∈l,CellAt W p){fr:Nat}(lt:fr+totalW W l<1000000){Q:Value→Hp→Prop}(a0:Option Addr)(n0 c0:Nat)(x0:Int)(a2:Option Addr)(n2 c2:Nat)(x2:Int)
 (next: ∀a n c h,AccI 3 h (g.nx+1) a n c ((addrs W fr l).map Int.ofNat)→Kp g.nx g h→Q (.tuple #[.slice a n c,.int .i64 (Int.ofNat (fr+totalW W l))]) h):
 ∀(d k:Nat) (h:Hp) (a:Option Addr) (n c:Nat),k+d=l.length→h.Ok→Kp g.nx g h→g.nx+1≤h.nx→h.get g.nx=some (.cells [.slice aw nw cw,.int .i64 top,.slice ar nr cr] 24 .fix)→AccI 3 h (g.nx+1) a n c ((addrs W fr (l.take k)).map Int.ofNat)→
 I72_0 O Q a0 n0 c0 x0 a2 n2 c2 a1 n1 c1 x2 (Int.ofNat (fr+totalW W (l.take k))) g.nx 0 a n c (Int.ofNat k) h:=by
 have hn:=L.1
 rw[List.length_map]at hn
 have hll:=length_total W l
 intro d
 induction d with
 |zero=>
  intro k h a n c hk ok kp hBn gb A
  refine I72_0.of (hh:= ?_) ..
  unfold T72_0
  rw[List.take_of_length_le (by omega)]at A ⊢
  exact vcond_f (by rw[ltI_nat];exact blt_f (by omega)) (next a n c h A kp)
 |succ d ih=>
  intro k h a n c hk ok kp hBn gb A
  refine I72_0.of (hh:= ?_) ..
  unfold T72_0
  have hk':k<l.length:=by omega
  obtain⟨q1,q2,q3,q4⟩:=hc l[k] (List.getElem_mem hk')
  have gq:W.getD l[k] 0=W[l[k]]:=by simp[List.getD,List.getElem?_eq_getElem q1]
  have tk:totalW W (l.take (k+1))=totalW W (l.take k)+szW W l[k]:=by
   rw[List.take_add_one,totalW_app,List.getElem?_eq_getElem hk'];rfl
  have tle:totalW W (l.take (k+1))≤totalW W l:=by
   have:=totalW_app W (l.take (k+1)) (l.drop (k+1))
   rw[List.take_append_drop]at this
   omega
  refine vcond_t (by rw[ltI_nat];exact blt_t (by omega)) ?_
  intro g101
  refine appI2 AppT22 A hBn (fun q hq=>by have:=okg.lt.kp kp q hq;omega) (by rw[List.length_map,addrs_length];simp;omega) fun a' n' c' h' A' k' kB new=> ?_
  intro g106
  have kp':Kp g.nx g h':=kp.trans (kB.le (Nat.le_succ _))
  have kp6:Kp g.nx g g106:=kp'.rsv 13
  haveI:Ft g g106:=kp6.ex (Nat.le_refl _)
  have gb':h'.get g.nx=_:=(kB.get _ (Nat.lt_succ_self _)).trans gb
  refine⟨_,_,_,read1 (i:=0) (show g106.get g.nx=_ from gb') rfl,isNat_i (L.rd (k:=k) (by simpa using hk') ?_)⟩
  rw[List.getElem_map]
  refine isNat_i (HW.at_.rd q1 ⟨_,_,ct127 hO (hW _ (List.getElem_mem q1)) _,?_⟩)
  intro g120
  have s0:0≤hdS (W.getD l[k] 0):=by unfold hdS;rw[tdiv_eq,if_pos q2];omega
  obtain⟨sz,hsz⟩: ∃m:Nat,hdS (W.getD l[k] 0)=Int.ofNat m:=Int.eq_ofNat_of_zero_le s0
  have hss:szW W l[k]=1+sz:=by unfold szW;rw[hsz];rfl
  have w1:wrapF .i64 (wrapF .i64 (Int.ofNat (fr+totalW W (l.take k))+1)+hdS W[l[k]])=Int.ofNat (fr+totalW W (l.take (k+1))):=by
   rw[wrap_succ (by omega),←gq,hsz,wrap64 (by simp;omega) (by simp;omega),tk,hss]
   simp;omega
  rw[w1,wrap_succ (by omega)]
  refine ih (k+1) g120 a' n' c' (by omega) ((ok.kp kB).rsv 13) kp6 (Nat.le_trans hBn (Nat.le_trans k'.nx (Nat.le_add_right ..))) gb' ?_
  have e:addrs W fr (l.take (k+1))=addrs W fr (l.take k)++[fr+totalW W (l.take k)]:=by
   rw[List.take_add_one,addrs_app,List.getElem?_eq_getElem hk'];rfl
  rw[e,List.map_append]
  exact A'.keep (fun _ _ _=>rfl) (Nat.le_add_right ..)
theorem ct72 {g0 g:Hp} [f0:Ft g0 g] (ok:g.Ok){aw:Option Addr}{nw cw:Nat}{W:List Int}{top:Int}(HW:SI g0 aw nw cw W)(hW: ∀x∈W,In64 x){ar:Option Addr}{nr cr:Nat}{a1:Option Addr}{n1 c1:Nat}{l:List Nat}(L:IntsAt g a1 n1 (l.map Int.ofNat))(hc: ∀p∈l,CellAt W p){fr:Nat}(lt:fr+totalW W l<1000000){K:Option Addr→Nat→Nat→Int→Hp→Prop}
 (next: ∀a n c h,AccI 3 h (g.nx+1) a n c ((addrs W fr l).map Int.ofNat)→Kp g.nx g h→K a n c (Int.ofNat (fr+totalW W l)) h):
 ∃a n c x h',EvT O 72 [.agg #[.slice aw nw cw,.int .i64 top,.slice ar nr cr],.slice a1 n1 c1,.int .i64 (Int.ofNat fr)] g (.tuple #[.slice a n c,.int .i64 x]) h'∧K a n c x h':=by
 refine Ret.si (R:=K) ?_ fun _ _ _ _ _ q=>q
 refine rk72 (hO:=hO _ _ _ (by decide)) (hh:= ?_) ..
 unfold T72
 intro g1
 have k1:Kp g.nx g g1:=(Kp.refl _ g).add (Nat.le_refl _) _
 exact lp72 hO ok (HW.to g) hW L hc lt aw nw cw top ar nr cr (Int.ofNat fr) (fun a n c h A k=>⟨a,n,c,_,rfl,next a n c h A k⟩) l.length 0 g1 none 0 0 (by omega) (ok.add _) k1 (Nat.le_refl _) (get_add_same ..) (AccI.nil ..)
end
def putsP (W:List Int)(fr:Nat)(l:List Nat):List (Nat×Nat)→List Int→List Int
 | [],D=>D
 |(a,q)::r,D=>putsP W fr l r (putAt D a (W.getD q 0::(fieldsW W q).map (putF W fr l (hdK (W.getD q 0)))))
theorem putsP_length (W:List Int)(fr:Nat)(l:List Nat): ∀(r:List (Nat×Nat))(D:List Int),(putsP W fr l r D).length=D.length:=by
 intro r
 induction r with
 |nil=>intro D;rfl
 |cons x r ih=>intro D;obtain⟨a,q⟩:=x;show(putsP W fr l r _).length=_;rw[ih,putAt_length]
theorem putsP_app (W:List Int)(fr:Nat)(l:List Nat): ∀(r s:List (Nat×Nat))(D:List Int),putsP W fr l (r++s) D=putsP W fr l s (putsP W fr l r D):=by
 intro r
 induction r with
 |nil=>intro s D;rfl
 |cons x r ih=>intro s D;obtain⟨a,q⟩:=x;exact ih s _
structure LaidI (gB:Hp)(b3 b9 oD n:Nat)(v1 v2 v3:Value)(x:Int)(D:List Int)(ar:Option Addr)(nr cr:Nat)(h:Hp):Prop where
 ok:h.Ok
 ft:Ft gB h
 gd:h.gd=gB.gd
 s3:h.get b3=some (.cells [v1,v2,v3] 24 .fix)
 cD:h.get oD=some (.cells (D.map (Value.int .i64)) 3 .fix)
 out:h.get b9=some (.cells [.slice (some ⟨oD,0,none⟩) n n,.int .i64 x,.slice ar nr cr] 24 .fix)
 lD:D.length=n
 b9:b9<h.nx
section
variable {O:CallF}(hO:Oth O)
include hO
theorem put_step {gB h:Hp}{b3 b9 oD n:Nat}{x:Int}{D:List Int}{W:List Int}{aw:Option Addr}{nw cw:Nat}{top:Int}{ar:Option Addr}{nr cr:Nat}{ao:Option Addr}{no co:Nat}(okB:gB.Ok)(I:LaidI gB b3 b9 oD n (.slice aw nw cw) (.int .i64 top) (.slice ar nr cr) x D ao no co h)(HW:SI gB aw nw cw W)(hW: ∀x∈W,In64 x)(lW:W.length<1000000){fr:Nat}(hfr:1≤fr){l:List Nat}{a1:Option Addr}{n1 c1:Nat}(L:IntsAt gB a1 n1 (l.map Int.ofNat)){a2:Option Addr}{n2 c2:Nat}(T:IntsAt gB a2 n2 ((addrs W fr l).map Int.ofNat))(lt:fr+totalW W l<1000000)(hoD:gB.nx≤oD)(h39:oD≠b9)(h3:b3<gB.nx)(hob:oD<b9)(hn:n<1000000){q p:Nat}(hq:CellAt W q)(hp:p+szW W q≤n):
 ∃h',EvT O 128 [.slice (some ⟨oD,0,none⟩) n n,.int .i64 (Int.ofNat p),.agg #[.slice aw nw cw,.int .i64 top,.slice ar nr cr],.int .i64 (Int.ofNat q),.slice a1 n1 c1,.slice a2 n2 c2,.int .i64 (Int.ofNat fr)] ((h.rsv 15).grd []) undef h'∧LaidI gB b3 b9 oD n (.slice aw nw cw) (.int .i64 top) (.slice ar nr cr) x (putsP W fr l [(p,q)] D) ao no co (h'.rst (h.rsv 15))∧(∀o,o<h.nx→o≠oD→(h'.rst (h.rsv 15)).get o=h.get o)∧h.nx≤(h'.rst (h.rsv 15)).nx:=by
 have hb9:=I.b9
 haveI:Ft gB ((h.rsv 15).grd []):=⟨I.ft.get,by show gB.nx≤h.nx+15;have:=I.ft.nx;omega⟩
 have hfl:=fieldsW_length (W:=W) (p:=q) hq.2.2.2
 have hsz:szW W q=1+(hdS (W.getD q 0)).toNat:=rfl
 have hu:((h.rsv 15).grd []).guarded oD=false:=okB.lt.free (h:=gB) hoD |> fun e=>by unfold Hp.guarded at e ⊢; show h.gd.any _=false;rw[I.gd];exact e
 obtain⟨v,h',e,rfl,wr,hD'⟩:=ct128 hO (gB:=gB) (h:=(h.rsv 15).grd []) (top:=top) (ar:=ar) (nr:=nr) (cr:=cr) (c0:=n) HW hW lW hfr L T lt hq hoD (by show oD<h.nx+15;omega) hu (D:=D) I.cD I.lD hn (p:=p) (by omega)
 have m:=wr.nx
 have m15:h.nx+15≤h'.nx:=m
 refine⟨h',e,⟨⟨fun q hq=> ?_,wr.fr (I.ok.rsv 15).fr⟩,⟨(wr.ft this hoD).get,(wr.ft this hoD).nx⟩,I.gd,(wr.get b3 (by show b3<h.nx+15;omega) (by omega)).trans I.s3,hD',(wr.get b9 (by show b9<h.nx+15;omega) (Ne.symm h39)).trans I.out,by rw[putsP_length];exact I.lD,by show b9<h'.nx;omega⟩,fun o ho hne=>wr.get o (by show o<h.nx+15;omega) hne,by show h.nx≤h'.nx;omega⟩
 have:=I.ok.gd q hq
 show q<h'.nx
 omega
section
variable {gB:Hp}{b3 b6 b9 oD n:Nat}{x:Int}{W:List Int}{aw:Option Addr}{nw cw:Nat}{top:Int}{ar:Option Addr}{nr cr:Nat}(okB:gB.Ok)(HW:SI gB aw nw cw W)(hW: ∀x∈W,In64 x)(lW:W.length<1000000){fr:Nat}(hfr:1≤fr){l:List Nat}{a1:Option Addr}{n1 c1:Nat}(L:IntsAt gB a1 n1 (l.map Int.ofNat)){a2:Option Addr}{n2 c2:Nat}(T:IntsAt gB a2 n2 ((addrs W fr l).map Int.ofNat))(lt:fr+totalW W l<1000000)(hoD:gB.nx≤oD)(h3:b3<gB.nx)(hob:oD<b9)(hn:n<1000000)
include okB HW hW lW hfr L T lt hoD h3 hob hn
theorem lp69_0 {a0:Option Addr}{n0 c0:Nat}{x0:Int}{a00:Option Addr}{n00 c00:Nat}{x2:Int}(hx2:x2=Int.ofNat fr){a10:Option Addr}{n10 c10:Nat}{all:List Nat}{B:Nat}(hB:b9<B)(hall: ∀p∈all,p<fr→CellAt W p∧p+szW W p≤n){Q:Value→Hp→Prop}:
 ∀(d k:Nat) (D:List Int) (h:Hp),k+d=all.length→all.length<100000→LaidI gB b3 b9 oD n (.slice aw nw cw) (.int .i64 top) (.slice ar nr cr) x D none 0 0 h→AccI 3 h B a10 n10 c10 (all.map Int.ofNat)→
 (∀h',LaidI gB b3 b9 oD n (.slice aw nw cw) (.int .i64 top) (.slice ar nr cr) x (putsP W fr l (((all.drop k).takeWhile (fun p=>decide (p<fr))).map fun p=>(p,p)) D) none 0 0 h'→(∀o,o<gB.nx→h'.get o=h.get o)→I69_1 O Q a0 n0 c0 x0 a00 n00 c00 a1 n1 c1 x2 b3 0 b6 0 a2 n2 c2 b9 0 0 h')→
 I69_0 O Q a0 n0 c0 x0 a00 n00 c00 a1 n1 c1 x2 b3 0 b6 0 a2 n2 c2 b9 0 a10 n10 c10 (Int.ofNat k) h:=by
 subst hx2
 intro d
 induction d with
 |zero=>
  intro k D h hk la I A next
  have hn10:=A.ints.1
  rw[List.length_map]at hn10
  refine I69_0.of (hh:= ?_) ..
  unfold T69_0
  rw[List.drop_of_length_le (by omega)]at next
  exact vcond_f (by rw[ltI_nat];exact blt_f (by omega)) (next h I (fun _ _=>rfl))
 |succ d ih=>
  intro k D h hk la I A next
  have hn10:=A.ints.1
  rw[List.length_map]at hn10
  have X:=A.ints
  have hk':k<all.length:=by omega
  refine I69_0.of (hh:= ?_) ..
  unfold T69_0
  rw[List.drop_eq_getElem_cons hk']at next
  refine vcond_t (by rw[ltI_nat];exact blt_t (by omega)) (isNat_i (X.rd (k:=k) (by simpa using hk') ?_))
  rw[List.getElem_map]
  refine vcond_split (fun h1=> ?_) fun h1=> ?_
  · have h1:all[k]<fr:=Int.ofNat_lt.1 (lt_of_t h1)
    rw[List.takeWhile_cons_of_pos (by simpa using h1)]at next
    obtain⟨hc,hp⟩:=hall _ (List.getElem_mem hk') h1
    intro g105
    haveI:Ft h g105:=⟨fun _ _=>rfl,Nat.le_add_right ..⟩
    have b9h:=I.b9
    refine⟨_,_,_,read1 (i:=0) (show g105.get b9=_ from I.out) rfl,isNat_i (X.rd (k:=k) (by simpa using hk') ?_)⟩
    rw[List.getElem_map]
    refine⟨_,_,_,_,_,_,_,rd3 (show g105.get b3=_ from I.s3),isNat_i (X.rd (k:=k) (by simpa using hk') ?_)⟩
    rw[List.getElem_map]
    obtain⟨h',e,I',fr',m'⟩:=put_step hO okB I HW hW lW hfr L T lt hoD (by omega) h3 hob hn hc hp
    refine⟨_,e,?_⟩
    intro g125
    rw[wrap_succ (by omega)]
    have hft:=I.ft.nx
    have A':AccI 3 g125 B a10 n10 c10 (all.map Int.ofNat):=A.keep (fun o ho ha=>by have:=A.fresh ha;exact fr' o ho (by omega)) m'
    exact ih (k+1) _ g125 (by omega) la I' A' fun h2 I2 f2=>next h2 I2 fun o ho=>(f2 o ho).trans (fr' o (by omega) (by omega))
  · have h1: ¬all[k]<fr:=fun hh=>not_lt_of_f h1 (Int.ofNat_lt.2 hh)
    rw[List.takeWhile_cons_of_neg (by simpa using h1)]at next
    exact next h I (fun _ _=>rfl)
theorem lp69_1 {a0:Option Addr}{n0 c0:Nat}{x0:Int}{a00:Option Addr}{n00 c00:Nat}(hl: ∀p∈l,CellAt W p)(hfit:fr+totalW W l≤n){Q:Value→Hp→Prop}:
 ∀(d k:Nat) (D:List Int) (h:Hp),k+d=l.length→LaidI gB b3 b9 oD n (.slice aw nw cw) (.int .i64 top) (.slice ar nr cr) x D none 0 0 h→
 (∀h',LaidI gB b3 b9 oD n (.slice aw nw cw) (.int .i64 top) (.slice ar nr cr) x (putsP W fr l (((addrs W fr l).zip l).drop k) D) none 0 0 h'→(∀o,o<gB.nx→h'.get o=h.get o)→I69_2 O Q a0 n0 c0 x0 a00 n00 c00 a1 n1 c1 (Int.ofNat fr) b3 0 b6 0 a2 n2 c2 b9 0 0 h')→
 I69_1 O Q a0 n0 c0 x0 a00 n00 c00 a1 n1 c1 (Int.ofNat fr) b3 0 b6 0 a2 n2 c2 b9 0 (Int.ofNat k) h:=by
 have hn1:=L.1
 rw[List.length_map]at hn1
 have hll:=length_total W l
 have hzl:((addrs W fr l).zip l).length=l.length:=by rw[List.length_zip,addrs_length,Nat.min_self]
 intro d
 induction d with
 |zero=>
  intro k D h hk I next
  refine I69_1.of (hh:= ?_) ..
  unfold T69_1
  rw[List.drop_of_length_le (by omega)]at next
  exact vcond_f (by rw[ltI_nat];exact blt_f (by omega)) (next h I (fun _ _=>rfl))
 |succ d ih=>
  intro k D h hk I next
  have hk':k<l.length:=by omega
  have hka:k<(addrs W fr l).length:=by rw[addrs_length];exact hk'
  refine I69_1.of (hh:= ?_) ..
  unfold T69_1
  rw[List.drop_eq_getElem_cons (by omega),List.getElem_zip]at next
  have ha:=addrs_get W l fr k hk'
  rw[List.getElem?_eq_getElem hka]at ha
  have ha:=Option.some.inj ha
  have tk:totalW W (l.take (k+1))=totalW W (l.take k)+szW W l[k]:=by
   rw[List.take_add_one,totalW_app,List.getElem?_eq_getElem hk'];rfl
  have tle:totalW W (l.take (k+1))≤totalW W l:=by
   have:=totalW_app W (l.take (k+1)) (l.drop (k+1))
   rw[List.take_append_drop]at this
   omega
  refine vcond_t (by rw[ltI_nat];exact blt_t (by omega)) ?_
  intro g201
  haveI:Ft gB g201:=I.ft.tr ⟨fun _ _=>rfl,Nat.le_add_right ..⟩
  have b9h:=I.b9
  refine⟨_,_,_,read1 (i:=0) (show g201.get b9=_ from I.out) rfl,isNat_i (T.rd (k:=k) (by simpa using hka) ?_)⟩
  rw[List.getElem_map]
  refine⟨_,_,_,_,_,_,_,rd3 (show g201.get b3=_ from I.s3),isNat_i (L.rd (k:=k) (by simpa using hk') ?_)⟩
  rw[List.getElem_map]
  obtain⟨h',e,I',fr',m'⟩:=put_step hO okB I HW hW lW hfr L T lt hoD (by omega) h3 hob hn (hl _ (List.getElem_mem hk')) (p:=(addrs W fr l)[k]) (by rw[ha];omega)
  refine⟨_,e,?_⟩
  intro g221
  rw[wrap_succ (by omega)]
  have hft:=I.ft.nx
  exact ih (k+1) _ g221 (by omega) I' fun h2 I2 f2=>next h2 I2 fun o ho=>(f2 o ho).trans (fr' o (by omega) (by omega))
omit hW lW HW hn in
theorem lp69_2 {a0:Option Addr}{n0 c0:Nat}{x0:Int}{a00:Option Addr}{n00 c00:Nat}{R:List Int}(HR:IntsAt gB ar nr R)(hR: ∀w∈R,In64 w)(lR:R.length<100000){B:Nat}(hB:b9<B)(hgB:gB.nx≤B)(h6:b6<gB.nx)(hu6:gB.guarded b6=false){D:List Int}{Q:Value→Hp→Prop}
 (next: ∀h ac nc cc,(∀o,o≠b6→o<b9→h.get o=h.get o)→AccI 3 h B ac nc cc (R.map (mvw W fr l))→h.get oD=some (.cells (D.map (Value.int .i64)) 3 .fix)→oD<h.nx→h.gd=gB.gd→h.Ok→(∀o,o<gB.nx→o≠b6→h.get o=gB.get o)→gB.nx≤h.nx→Q (.agg #[.slice (some ⟨oD,0,none⟩) n n,.int .i64 x,.slice ac nc cc]) h):
 ∀(d k:Nat) (h:Hp) (ac:Option Addr) (nc cc:Nat),k+d=R.length→LaidI gB b3 b9 oD n (.slice aw nw cw) (.int .i64 top) (.slice ar nr cr) x D ac nc cc h→B≤h.nx→AccI 3 h B ac nc cc ((R.take k).map (mvw W fr l))→h.get b6=some (.cells [.slice none 0 0,.int .i64 0,.slice none 0 0] 24 .fix)→
 I69_2 O Q a0 n0 c0 x0 a00 n00 c00 a1 n1 c1 (Int.ofNat fr) b3 0 b6 0 a2 n2 c2 b9 0 (Int.ofNat k) h:=by
 have hnR:=HR.1
 intro d
 induction d with
 |zero=>
  intro k h ac nc cc hk I hBn A g6
  refine I69_2.of (hh:= ?_) ..
  unfold T69_2
  rw[List.take_of_length_le (by omega)]at A
  have hft:=I.ft.nx
  have l3:0+ [Value.slice (some ⟨oD,0,none⟩) n n,.int .i64 x,.slice ac nc cc].length≤ [Value.slice none 0 0,.int .i64 0,.slice none 0 0].length:=by show 3≤3;decide
  have u6:h.guarded b6=false:=by unfold Hp.guarded at hu6 ⊢; rw[I.gd];exact hu6
  refine⟨_,_,_,read1 (i:=2) I.s3 rfl,vcond_f (by rw[ltI_nat];exact blt_f (by omega)) ⟨_,_,_,_,_,_,_,rd3 I.out,vreq_t (canW_t g6 (by decide) u6 l3 rfl) ?_⟩⟩
  intro g333
  have w:=wr_get g6 (by decide) u6 l3 rfl
  have ne: ∀o,o≠b6→g333.get o=h.get o:=fun o ho=>wr_get_ne _ _ _ _ ho
  have n3:g333.nx=h.nx:=nx_wr ..
  refine⟨_,_,_,_,_,_,_,rd3 (show g333.get b6=_ from w),next g333 ac nc cc (fun _ _ _=>rfl) (A.keep (fun o ho ha=>by have:=A.fresh ha;exact ne o (by omega)) (by omega)) ((ne oD (by omega)).trans I.cD) (by have:=I.b9;omega) ((gd_wr ..).trans I.gd) (I.ok.wr _ _ _) (fun o ho hne=>(ne o hne).trans (I.ft.get o ho)) (by omega)⟩
 |succ d ih=>
  intro k h ac nc cc hk I hBn A g6
  have hk':k<R.length:=by omega
  have hft:=I.ft.nx
  have b9h:=I.b9
  refine I69_2.of (hh:= ?_) ..
  unfold T69_2
  refine⟨_,_,_,read1 (i:=2) I.s3 rfl,vcond_t (by rw[ltI_nat];exact blt_t (by omega)) ?_⟩
  intro g304
  haveI:Ft gB g304:=I.ft.tr ⟨fun _ _=>rfl,Nat.le_add_right ..⟩
  haveI:Ft gB (g304.grd [b9]):=I.ft.tr ⟨fun _ _=>rfl,Nat.le_add_right ..⟩
  refine⟨_,_,_,read1 (i:=2) (show g304.get b9=_ from I.out) rfl,_,_,_,read1 (i:=2) (show g304.get b3=_ from I.s3) rfl,isNat_i (HR.rd hk' ⟨_,_,ct129 hO (L.to (g304.grd [b9])) hfr (T.to (g304.grd [b9])) lt (hR _ (List.getElem_mem hk')),?_⟩)⟩
  intro g317
  have gdl:GdLt g317 B:=fun q hq=>by have:=okB.lt q (by rw[←I.gd];exact hq);omega
  have A7:AccI 3 g317 B ac nc cc ((R.take k).map (mvw W fr l)):=A.keep (fun _ _ _=>rfl) (Nat.le_add_right ..)
  refine appRI A7 (Nat.le_trans hBn (Nat.le_add_right ..)) gdl (show h.get (h.nx+11)=none from I.ok.fr _ (by omega)) (by show h.nx+11<h.nx+15;omega) (by omega) (l:=[]) (fun i hi=>by cases hi) (by simp;omega) fun a' n' c' h322 A' fr' k1 k2=> ?_
  intro g323
  have m23:h.nx+15≤g323.nx:=k1.nx
  have d23:g323.gd=gB.gd:=k1.gd.trans I.gd
  have ok23:g323.Ok:=⟨fun q hq=>by rw[d23,←I.gd]at hq;have:=I.ok.gd q hq;omega,k1.fr (((I.ok.rsv 15).fr:g304.Fresh).lay (by show h.nx+11<h.nx+15;omega) _)⟩
  have out3:g323.get b9=_:=(k2.get _ hB).trans I.out
  have u9:g323.guarded b9=false:=by
   have e:=okB.lt.free (h:=gB) (o:=b9) (by omega)
   unfold Hp.guarded at e ⊢
   rw[d23];exact e
  have l7:0+2+ [Value.slice a' n' c'].length≤ [Value.slice (some ⟨oD,0,none⟩) n n,.int .i64 x,.slice ac nc cc].length:=by show 3≤3;decide
  refine vreq_t (canW_t (h:=g323.grd []) out3 (by decide) u9 l7 rfl) ?_
  intro g324 g325
  have w5:g325.get b9=some (.cells [.slice (some ⟨oD,0,none⟩) n n,.int .i64 x,.slice a' n' c'] 24 .fix):=wr_get (h:=g323.grd []) out3 (by decide) u9 l7 rfl
  have e5: ∀o,o≠b9→g325.get o=g323.get o:=fun o ho=>wr_get_ne _ _ _ _ ho
  have n5:g325.nx=g323.nx:=nx_wr ..
  have lo: ∀o,o<B→o≠b9→g325.get o=h.get o:=fun o h1 h2=>(e5 o h2).trans (k2.get o h1)
  rw[wrap_succ (by omega)]
  refine ih (k+1) g325 a' n' c' (by omega) ⟨⟨fun q hq=> ?_,fun q hq=> ?_⟩,⟨fun o ho=>(lo o (by omega) (by omega)).trans (I.ft.get o ho),by omega⟩,d23,(lo b3 (by omega) (by omega)).trans I.s3,(lo oD (by omega) (by omega)).trans I.cD,w5,I.lD,by omega⟩ (by omega) ?_ ((lo b6 (by omega) (by omega)).trans g6)
  · have:=ok23.gd q hq;omega
  · rw[n5]at hq
    rw[e5 q (by omega)]
    exact ok23.fr q hq
  · have e:(R.take (k+1)).map (mvw W fr l)=(R.take k).map (mvw W fr l)++[mvw W fr l R[k]]:=by
     rw[List.take_add_one,List.getElem?_eq_getElem hk',List.map_append];rfl
    rw[e]
    exact A'.keep (fun o ho ha=>by have:=A'.fresh ha;exact e5 o (by omega)) (by rw[n5];exact Nat.le_refl _)
end
theorem ct69 {g0 g:Hp} [f0:Ft g0 g] (ok:g.Ok){aw:Option Addr}{nw cw:Nat}{W:List Int}{tp:Nat}(HW:SI g0 aw nw cw W)(hW: ∀x∈W,In64 x)(lW:W.length<100000)(h1:1≤tp)(ht:tp≤W.length){ar:Option Addr}{nr cr:Nat}{R:List Int}(HR:IntsAt g0 ar nr R)(hR: ∀w∈R,In64 w)(lR:R.length<100000){a1:Option Addr}{n1 c1:Nat}{l:List Nat}(L:IntsAt g a1 n1 (l.map Int.ofNat)){fr:Nat}(hfr:1≤fr){all:List Nat}(hall:cellsR W tp (tp+1) 1=some all)(hl: ∀p∈l,CellAt W p)(hfit:fr+totalW W l≤W.length){K:Nat→Int→Option Addr→Nat→Nat→Hp→Prop}
 (next: ∀oD ac nc cc h,IntsAt h ac nc (R.map (mvw W fr l))→(∃B,g.nx≤B∧AccI 3 h B ac nc cc (R.map (mvw W fr l)))→h.get oD=some (.cells ((putsP W fr l (((all.takeWhile fun p=>decide (p<fr)).map fun p=>(p,p))++(addrs W fr l).zip l) (List.replicate W.length 0)).map (Value.int .i64)) 3 .fix)→oD<h.nx→g.nx≤oD→h.Ok→Kp g.nx g h→K oD (Int.ofNat (fr+totalW W l)) ac nc cc h):
 ∃oD x ac nc cc h',EvT O 69 [.agg #[.slice aw nw cw,.int .i64 (Int.ofNat tp),.slice ar nr cr],.slice a1 n1 c1,.int .i64 (Int.ofNat fr)] g (.agg #[.slice (some ⟨oD,0,none⟩) W.length W.length,.int .i64 x,.slice ac nc cc]) h'∧K oD x ac nc cc h':=by
 have r:Ret Tryz.prog O 69 [.agg #[.slice aw nw cw,.int .i64 (Int.ofNat tp),.slice ar nr cr],.slice a1 n1 c1,.int .i64 (Int.ofNat fr)] g fun v h'=> ∃oD x ac nc cc,v= .agg #[.slice (some ⟨oD,0,none⟩) W.length W.length,.int .i64 x,.slice ac nc cc]∧K oD x ac nc cc h':=by
  have hn:=HW.at_.1
  subst hn
  refine rk69 (hO:=hO _ _ _ (by decide)) (hh:= ?_) ..
  unfold T69
  intro g1 g2
  have n1':g1.nx=g.nx+1:=rfl
  have n2:g2.nx=g.nx+2:=rfl
  have k2:Kp g.nx g g2:=((Kp.refl _ g).add (Nat.le_refl _) _).add (Nat.le_succ _) _
  have s2:g2.get g.nx=some (.cells [.slice aw W.length cw,.int .i64 (Int.ofNat tp),.slice ar nr cr] 24 .fix):=(get_add_ne (by omega)).trans (get_add_same ..)
  have r2:g2.get g1.nx=some (.cells [.slice none 0 0,.int .i64 0,.slice none 0 0] 24 .fix):=get_add_same ..
  have ok2:g2.Ok:=ok.kp k2
  haveI:Ft g g2:=k2.ex (Nat.le_refl _)
  haveI:Ft g0 g2:=f0.tr inferInstance
  refine⟨_,_,_,_,_,_,_,rd3 s2,ct72 hO ok2 HW hW (L.to g2) hl (by omega) fun a2 n2' c2 h14 T k14=> ?_⟩
  have s14:=(k14.get g.nx (by omega)).trans s2
  have r14:=(k14.get g1.nx (by omega)).trans r2
  have m14:=k14.nx
  have ok14:h14.Ok:=ok2.kp k14
  have kg14:Kp g.nx g h14:=k2.trans (k14.le (by omega))
  refine⟨_,_,_,read1 (i:=0) s14 rfl,vreq_t (ble_t (Nat.le_refl _)) (vreq_t (ble_t (by omega)) (vreq_t (blt_t (by unfold big;omega)) ?_))⟩
  intro g18 g19
  have n18:g18.nx=h14.nx+1:=rfl
  have n19:g19.nx=h14.nx+2:=rfl
  have o19:g19.get g18.nx=some (.cells [.slice none 0 0,.int .i64 0,.slice none 0 0] 24 .fix):=get_add_same ..
  have gd14:GdLt h14 g.nx:=ok.lt.kp kg14
  have u19:g19.guarded g18.nx=false:=gd14.free (h:=g19) (by omega)
  have l19:0+ [Value.slice (some ⟨h14.nx,0,none⟩) W.length W.length,.int .i64 (Int.ofNat (fr+totalW W l)),.slice none 0 0].length≤ [Value.slice none 0 0,.int .i64 0,.slice none 0 0].length:=by show 3≤3;decide
  refine vreq_t (canW_t o19 (by decide) u19 l19 rfl) ?_
  intro g20
  have o20:g20.get g18.nx=some (.cells [.slice (some ⟨h14.nx,0,none⟩) W.length W.length,.int .i64 (Int.ofNat (fr+totalW W l)),.slice none 0 0] 24 .fix):=wr_get o19 (by decide) u19 l19 rfl
  have n20:g20.nx=h14.nx+2:=nx_wr ..
  have zs:List.flatten (List.replicate W.length [Value.int .i64 0])=(List.replicate W.length (0:Int)).map (Value.int .i64):=by
   rw[List.map_replicate]
   induction W.length with
   |zero=>rfl
   |succ n ih=>rw[List.replicate_succ,List.replicate_succ,List.flatten_cons,ih];rfl
  have D20:g20.get h14.nx=some (.cells ((List.replicate W.length (0:Int)).map (Value.int .i64)) 3 .fix):=by
   rw[show g20.get h14.nx=g19.get h14.nx from wr_get_ne _ _ _ _ (by omega),show g19.get h14.nx=g18.get h14.nx from get_add_ne (by omega),←zs]
   exact get_add_same ..
  have e20:Kp h14.nx h14 g20:=(((Kp.refl _ h14).add (Nat.le_refl _) _).add (Nat.le_succ _) _).wr (by omega) _ _
  have s20:=(e20.get g.nx (by omega)).trans s14
  have r20:=(e20.get g1.nx (by omega)).trans r14
  have ok20:g20.Ok:=ok14.kp e20
  have kg20:Kp g.nx g g20:=kg14.trans (e20.le (by omega))
  have F20:Ft g0 g20:=f0.tr (kg20.ex (Nat.le_refl _))
  refine⟨_,_,_,_,_,_,_,rd3 s20,ct66 hO ok20 (HW.at_.to g20) hW h1 ht (by omega) (fun a n c h' k' hc=> ?_) fun l' a n c h32 hc k32 A32=> ?_⟩
  · rw[hall]at hc;cases hc
  obtain rfl:all=l':=Option.some.inj (hall.symm.trans hc)
  have m32:=k32.nx
  have hm:=cellsR_mem hall
  have hlen:all.length<100000:=by
   have: ∀(f p:Nat) (l:List Nat),cellsR W tp f p=some l→l.length+p≤tp:=by
    intro f
    induction f with
    |zero=>intro p l h;cases h
    |succ f ih=>
     intro p l h
     rcases cellsR_cons h with ⟨_,_,_,l',rfl,h4⟩|⟨rfl,rfl⟩
     · have:=ih _ _ h4
       simp only[List.length_cons];omega
     · simp
   have:=this _ _ _ hall
   omega
  have LB:IntsAt h14 a1 n1 (l.map Int.ofNat):=by
   haveI:Ft g h14:=kg14.ex (Nat.le_refl _)
   exact L.to h14
  have HWB:SI h14 aw W.length cw W:=by
   haveI:Ft g0 h14:=f0.tr (kg14.ex (Nat.le_refl _))
   exact HW.to h14
  have HRB:IntsAt h14 ar nr R:=by
   haveI:Ft g0 h14:=f0.tr (kg14.ex (Nat.le_refl _))
   exact HR.to h14
  have lk: ∀ {o},o<g20.nx→h32.get o=g20.get o:=fun h=>k32.get _ h
  have I:LaidI h14 g.nx g18.nx h14.nx W.length (.slice aw W.length cw) (.int .i64 (Int.ofNat tp)) (.slice ar nr cr) (Int.ofNat (fr+totalW W l)) (List.replicate W.length 0) none 0 0 h32:=⟨ok20.kp k32,⟨fun o ho=>(lk (by omega)).trans (e20.get o ho),by omega⟩,k32.gd.trans e20.gd,(lk (by omega)).trans s20,(lk (by omega)).trans D20,(lk (by omega)).trans o20,by simp,by omega⟩
  refine lp69_0 hO (b6:=g1.nx) ok14 HWB hW (by omega) hfr LB T.ints (by omega) (Nat.le_refl _) (by omega) (by omega) (by omega) rfl (B:=g20.nx+1) (by omega) (fun p hp _=> ?_) all.length 0 _ h32 (by omega) hlen I A32 fun h' I' f'=> ?_
  · obtain⟨m1,m2,m3,m4,m5⟩:=hm.2 p hp
    refine⟨⟨by omega,m3,m4,by omega⟩,?_⟩
    unfold szW;omega
  refine lp69_1 hO (b6:=g1.nx) ok14 HWB hW (by omega) hfr LB T.ints (by omega) (Nat.le_refl _) (by omega) (by omega) (by omega) hl hfit l.length 0 _ h' (by omega) I' fun h2 I2 f2=> ?_
  have b2:=I2.b9
  refine lp69_2 hO (b6:=g1.nx) ok14 hfr LB T.ints (by omega) (Nat.le_refl _) (by omega) (by omega) HRB hR lR (B:=g20.nx) (by omega) (by omega) (by omega) (gd14.free (by omega)) (fun h3 ac nc cc _ A3 c3 m3 g3 ok3 f3 n3=> ?_) R.length 0 h2 none 0 0 (by omega) I2 (by omega) (AccI.nil ..) ?_
  · refine⟨h14.nx,_,ac,nc,cc,rfl,next _ ac nc cc h3 A3.ints ⟨g20.nx,by omega,A3⟩ ?_ m3 (by omega) ok3 ⟨fun o ho=>(f3 o (by omega) (by omega)).trans (kg14.get o ho),by omega,g3.trans kg14.gd,fun _=>ok3.fr⟩⟩
    rw[putsP_app]
    exact c3
  · rw[f2 _ (by omega),f' _ (by omega),lk (by omega)]
    exact r20
 obtain⟨v,h',e,oD,x,ac,nc,cc,rfl,hk⟩:=r
 exact⟨oD,x,ac,nc,cc,h',e,hk⟩
end
theorem SI.cells {h:Hp}{o n:Nat}{e:TypeId}{m:Md}{xs:List Int}(hg:h.get o=some (.cells (xs.map (Value.int .i64)) e m))(ho:o<h.nx)(hn:n=xs.length)(hl:xs.length<1000000):SI h (some ⟨o,0,none⟩) n n xs:=by
 subst hn
 exact SI.fix (intsCells hg ho) (Nat.le_refl _) (by have:unk=18446744073709551616:=rfl;omega) (fun h=>by cases h)
theorem SI.upd {h h':Hp}{a:Option Addr}{n c:Nat}{W:List Int}(s:SI h a n c W)(hk: ∀o off,a=some ⟨o,off,none⟩→h'.get o=h.get o)(hn:h.nx≤h'.nx):SI h' a n c W:=by
 obtain⟨vis,e,q⟩:=s.cap
 refine⟨s.at_.keep (fun b off hb=>hk b off hb) hn (fun _ _ h=>h),vis,?_,q⟩
 rw[←e]
 cases a with
 |none=>rfl
 |some ad=>
  obtain⟨o,off,vw⟩:=ad
  cases vw with
  |some _=>rfl
  |none=>simp only[Ev.seen];rw[hk o off rfl]
section
variable {O:CallF}(hO:Oth O){g:Hp}(ok:g.Ok){aw:Option Addr}{nw cw:Nat}{W:List Int}{tp:Nat}{ar:Option Addr}{nr cr:Nat}{R:List Int}(A:HA g aw nw cw W ar nr cr R)
include hO ok A
def colD (W:List Int)(fr:Nat)(all res:List Nat):List Int:=putsP W fr res (((all.takeWhile fun p=>decide (p<fr)).map fun p=>(p,p))++(addrs W fr res).zip res) (List.replicate W.length 0)
end
theorem kind_of {W:List Int}{p:Nat}(hg:goodB (hdS (W.getD p 0)) (hdK (W.getD p 0))=true):1≤hdK (W.getD p 0)∧hdK (W.getD p 0)≤5:=by
 unfold goodB at hg
 split at hg
 · omega
 · simp only[Bool.and_eq_true,decide_eq_true_eq]at hg
   exact⟨hg.1.2,hg.2⟩
theorem put_cell {W:List Int}{fr:Nat}{o:List Nat}{p:Nat}(hk:1≤hdK (W.getD p 0)∧hdK (W.getD p 0)≤5):W.getD p 0::(fieldsW W p).map (putF W fr o (hdK (W.getD p 0)))=cellF W fr o p:=by
 unfold cellF
 generalize hdK (W.getD p 0)=k at hk
 congr 1
 have hc:k=1∨k=2∨k=3∨k=4∨k=5:=by omega
 have mv: ∀k:Int,¬(k=3∨k=4)→(fieldsW W p).map (putF W fr o k)=(fieldsW W p).map (mvw W fr o):=fun k hk=>List.map_congr_left fun w _=>by unfold putF;rw[if_neg hk]
 have id': ∀k:Int,(k=3∨k=4)→(fieldsW W p).map (putF W fr o k)=fieldsW W p:=fun k hk=>by
  have:putF W fr o k=id:=by funext w;unfold putF;rw[if_pos hk];rfl
  rw[this,List.map_id]
 rcases hc with rfl|rfl|rfl|rfl|rfl
 · rw[mv 1 (by omega),if_pos (by decide)]
 · rw[mv 2 (by omega),if_pos (by decide)]
 · rw[id' 3 (by omega),if_neg (by decide)]
 · rw[id' 4 (by omega),if_neg (by decide)]
 · rw[mv 5 (by omega),if_pos (by decide)]
section
variable {W:List Int}{fr tp:Nat}{l new:List Nat}(C:Col W fr tp l new)(hk: ∀p∈l,1≤hdK (W.getD p 0)∧hdK (W.getD p 0)≤5)
include C hk
theorem cellF_length {o:List Nat}{p:Nat}(hp:p∈l):(cellF W fr o p).length=szW W p:=by
 have _:=hk
 have fl:=fields_len C hp
 unfold cellF szW
 split<;>(rw[List.length_cons];first|(rw[List.length_map,fl];omega)|(rw[fl];omega))
theorem puts_zip {o:List Nat}: ∀(rest:List Nat)(Y:List Int)(z:Nat),(∀p∈rest,p∈l)→totalW W rest≤z→putsP W fr o ((addrs W Y.length rest).zip rest) (Y++List.replicate z 0)=Y++rest.flatMap (cellF W fr o)++List.replicate (z-totalW W rest) 0:=by
 intro rest
 induction rest with
 |nil=>intro Y z _ _;simp[putsP,totalW,addrs]
 |cons p rest ih=>
  intro Y z hl hz
  have hp:=hl p (List.mem_cons_self ..)
  have ht:totalW W (p::rest)=szW W p+totalW W rest:=rfl
  show putsP W fr o ((addrs W (Y.length+szW W p) rest).zip rest) (putAt (Y++List.replicate z 0) Y.length (W.getD p 0::(fieldsW W p).map (putF W fr o (hdK (W.getD p 0)))))=_
  rw[put_cell (hk p hp),putAt_zeros C Y _ _ (by rw[cellF_length C hk hp];omega),cellF_length C hk hp]
  have hlen:(Y++cellF W fr o p).length=Y.length+szW W p:=by rw[List.length_append,cellF_length C hk hp]
  have:=ih (Y++cellF W fr o p) (z-szW W p) (fun q hq=>hl q (List.mem_cons_of_mem _ hq)) (by omega)
  rw[hlen]at this
  rw[this,List.flatMap_cons,ht,Nat.sub_sub]
  simp only[List.append_assoc]
end
theorem laid_run {W:List Int}{top:Int}{R:List Int}{l:List Nat}(h:checkP W top R=some l){s:Mv}(S:St W 1 l s (W.take 1++s.ord.flatMap (cellF W 1 s.ord))):colD W 1 l s.ord=s.D∧1+totalW W s.ord=s.top∧(∀p∈s.ord,CellAt W p)∧1+totalW W s.ord≤W.length:=by
 obtain⟨C,_⟩:=col_of h
 obtain⟨f1,f2,f3,f4,f5,f6,f7,f8,f9⟩:=checkP_cells h
 have hm:=(cellsR_mem (cellsG_R f7)).2
 have hgood: ∀(f p:Nat) (l':List Nat),cellsG W top.toNat f p=some l'→ ∀x∈l',goodB (hdS (W.getD x 0)) (hdK (W.getD x 0))=true:=by
  intro f
  induction f with
  |zero=>intro p l' h;cases h
  |succ f ih=>
   intro p l' h x hx
   rcases cellsG_cons h with ⟨_,_,h3,l2,rfl,h4⟩|⟨rfl,rfl⟩
   · rcases List.mem_cons.1 hx with rfl|hx
     · exact h3
     · exact ih _ _ h4 x hx
   · cases hx
 have hk: ∀p∈l,1≤hdK (W.getD p 0)∧hdK (W.getD p 0)≤5:=fun p hp=>kind_of (hgood _ _ _ f7 p hp)
 have hfit:=C.fit S
 have htop:=S.top
 have htn:=C.tpn
 refine⟨?_,htop.symm,fun p hp=>cellAt C (S.sub p hp),by omega⟩
 have ht:(l.takeWhile fun p=>decide (p<1))=[]:=by
  cases l with
  |nil=>rfl
  |cons x l=>
   have:=hm x (List.mem_cons_self ..)
   rw[List.takeWhile_cons_of_neg]
   simp;omega
 unfold colD
 rw[ht]
 have hW0:W.take 1=[0]:=by
  have h0:W.getD 0 0=0:=by
   unfold checkP at h
   split at h
   · cases h
   · rename_i hn
     exact Classical.not_not.1 fun hh=>hn (.inr (.inr (.inr (.inr (.inl hh)))))
  cases W with
  |nil=>simp at f1
  |cons w W=>simp at h0;rw[h0];rfl
 have e:List.replicate W.length (0:Int)=[0]++List.replicate (W.length-1) 0:=by
  cases W with
  |nil=>simp at f1
  |cons w W=>rfl
 show putsP W 1 s.ord ((addrs W 1 s.ord).zip s.ord) (List.replicate W.length 0)=s.D
 rw[e]
 have:=puts_zip C hk (o:=s.ord) s.ord [0] (W.length-1) S.sub (by omega)
 rw[show([0]:List Int).length=1 from rfl]at this
 rw[this,S.D,hW0,htop,Nat.sub_sub]
structure Out where
 W:List Int
 top:Nat
 R:List Int
 e:Int
theorem colD_length (W:List Int)(fr:Nat)(all res:List Nat):(colD W fr all res).length=W.length:=by unfold colD;rw[putsP_length];simp
theorem AccE.ints {e:TypeId}{h:Hp}{base:Nat}{a:Option Addr}{n c:Nat}{xs:List Int}(H:AccE h base e 1 a n c (xs.map (Value.int .i64))):IntsAt h a n xs:=by
 rcases H with H|⟨h1,h2,h3,o,h4,h5,h6,e2,m,h7⟩
 · exact AccI.ints (e:=e) (base:=base) (c:=c) H
 · have hx:xs=[]:=by
    cases xs with
    |nil=>rfl
    |cons x xs=>cases h1
   subst hx h2 h4
   exact⟨rfl,.inr ⟨o,0,_,_,_,rfl,h6,h7,by simp,fun i hi=>by simp at hi⟩⟩
section
variable {O:CallF}(hO:Oth O)
include hO
theorem ct19 {g:Hp}{a10:Option Addr}{n11 c12:Nat}{a14:Option Addr}{n15 c16:Nat}{W R:List Int}{t:Int}(S1:IntsAt g a10 n11 W)(S2:IntsAt g a14 n15 R){a28:Option Addr}{n29 c30:Nat}{a32:Option Addr}{n33 c34:Nat}(S3:IntsAt g a28 n29 W)(S4:IntsAt g a32 n33 R)(bl:W.length<1000000)(br:R.length<1000000):
 Ret Tryz.prog O 19 [.agg #[.slice a10 n11 c12,.int .i64 t,.slice a14 n15 c16],.agg #[.slice a28 n29 c30,.int .i64 t,.slice a32 n33 c34]] g fun v h'=>v= .bool true∧Kp g.nx g h':=by
 refine rk19 (hO:=hO _ _ _ (by decide)) (hh:= ?_) ..
 unfold T19
 intro g1 g2
 have n1':g1.nx=g.nx+1:=rfl
 have n2:g2.nx=g.nx+2:=rfl
 have k2:Kp g.nx g g2:=((Kp.refl _ g).add (Nat.le_refl _) _).add (Nat.le_succ _) _
 have s0:g2.get g.nx=some (.cells [.slice a10 n11 c12,.int .i64 t,.slice a14 n15 c16] 24 .fix):=(get_add_ne (show g.nx≠g1.nx by omega)).trans (get_add_same ..)
 have s1:g2.get g1.nx=some (.cells [.slice a28 n29 c30,.int .i64 t,.slice a32 n33 c34] 24 .fix):=get_add_same ..
 haveI:Ft g g2:=k2.ex (Nat.le_refl _)
 obtain⟨v,h10,e10,rfl,k10⟩:=ct40 hO (c:=c12) (c1:=c30) (S1.to g2) (S3.to g2) bl
 have kg10:Kp g.nx g h10:=k2.trans (k10.le (by omega))
 haveI:Ft g h10:=kg10.ex (Nat.le_refl _)
 have t0:=(k10.get g.nx (by omega)).trans s0
 have t1:=(k10.get g1.nx (by omega)).trans s1
 obtain⟨v,h20,e20,rfl,k20⟩:=ct40 hO (c:=c16) (c1:=c34) (S2.to h10) (S4.to h10) br
 refine⟨_,_,_,read1 (i:=0) s0 rfl,_,_,_,read1 (i:=0) s1 rfl,_,_,e10,vcond_t rfl ⟨_,read1 (i:=1) t0 rfl,_,read1 (i:=1) t1 rfl,vcond_t (eqI_t rfl) ⟨_,_,_,read1 (i:=2) t0 rfl,_,_,_,read1 (i:=2) t1 rfl,_,_,e20,rfl,kg10.trans (k20.le kg10.nx)⟩⟩⟩
end
structure Fd where
 n:Int
 refs:Bool
 deriving DecidableEq
structure Cl where
 kind:Int
 fs:List Fd
def Cl.no:Cl:=⟨0,[]⟩
def clAt (L:List Cl)(i:Nat):Cl:=L.getD i Cl.no
def szC (L:List Cl)(i:Nat):Nat:=1+(clAt L i).fs.length
def totS (sz:Nat→Nat)(o:List Nat):Nat:=(o.map sz).sum
def layT (L:List Cl)(o:List Nat):Nat:=1+totS (szC L) o
def FdOk (o:List Nat)(k:Int)(f:Fd):Prop:=
 if k=3 then f.refs=false∧letterB f.n=true else if k=4 then f.refs=false∧(f.n=0∨f.n=1)else
 (f.refs=true∧ ∃j∈o,f.n=(j:Int))∨(f.refs=false∧(f.n=0∨(Int.tmod f.n 2≠0∧ -1999999999≤f.n∧f.n≤2000000001)))
structure Gr (L:List Cl)(o:List Nat):Prop where
 nd:o.Nodup
 kind: ∀i∈o,1≤(clAt L i).kind∧(clAt L i).kind≤5
 size: ∀i∈o,(clAt L i).fs.length≤20
 truth: ∀i∈o,(clAt L i).kind=4→(clAt L i).fs.length=1
 fok: ∀i∈o,∀f∈(clAt L i).fs,FdOk o (clAt L i).kind f
set_option linter.unusedVariables false
noncomputable def b25:Code:=(Tryz.f25.body).getD .skip
noncomputable def b46:Code:=(Tryz.f46.body).getD .skip
def lv46:List (Nat×List Nat):=[]
def T46 (O:CallF)(Q:Value→Hp→Prop)(a0:Option Addr)(n0 c0:Nat)(h:Hp):Prop:=
 vnil a0
 (Q (.slice none 0 0) h)
 (let g1:=h.add (.cells [] 3 .fix)
 ∃a2 n3 c4 h5,appendV Tryz.prog g1 22 22 (.slice (some ⟨h.nx,0,none⟩) 0 0) (.slice a0 n0 c0)=some (.slice a2 n3 c4,h5)∧
 Q (.slice a2 n3 c4) h5)
theorem rk46 {O Q} (a0 n0 c0){h:Hp}(hO:O 46 [.slice a0 n0 c0] h=none)(hh:T46 O Q a0 n0 c0 h):Ret Tryz.prog O 46 [.slice a0 n0 c0] h Q:=
 .of (c:=b46) Tryz.func46 (by kernel_rfl) hO (V_ok (tb:=lv46) (cuts:=[]) 500 (Eq.mp (by kernel_rfl) hh))
noncomputable def b80:Code:=(Tryz.f80.body).getD .skip
def lv80:List (Nat×List Nat):=[]
def T80 (O:CallF)(Q:Value→Hp→Prop)(a0_0:Option Addr)(n0_0 c0_0:Nat)(x0_1:Int)(a0_2:Option Addr)(n0_2 c0_2:Nat)(x1:Int)(a2:Option Addr)(n2 c2:Nat)(h:Hp):Prop:=
 let g1:=h.add (.cells [.slice a0_0 n0_0 c0_0,.int .i64 x0_1,.slice a0_2 n0_2 c0_2] 24 .fix)
 let g2:=g1.add (.cells [.slice none 0 0,.int .i64 0,.slice none 0 0] 24 .fix)
 ∃x3,readAt g2 h.nx 1 1=some [.int .i64 x3]∧
 ∃a4 n5 c6,readAt g2 h.nx 0 1=some [.slice a4 n5 c6]∧
 vcond (!(ltI (Int.ofNat n5) (wrapF .i64 (x3+x1))))
 (∃a7 n8 c9 x10 a11 n12 c13,readAt g2 h.nx 0 3=some [.slice a7 n8 c9,.int .i64 x10,.slice a11 n12 c13]∧
 ∃a14 n15 c16 x17 a18 n19 c20 h21,EvC Tryz.prog O 87 [.agg #[.slice a7 n8 c9,.int .i64 x10,.slice a11 n12 c13]] g2 (.agg #[.slice a14 n15 c16,.int .i64 x17,.slice a18 n19 c20]) h21∧
 vreq (canW h21 g1.nx 0 [.slice a14 n15 c16,.int .i64 x17,.slice a18 n19 c20])
 (let g22:=h21.wr g1.nx 0 [.slice a14 n15 c16,.int .i64 x17,.slice a18 n19 c20]
 ∃a23 n24 c25 x26 a27 n28 c29,readAt g22 g1.nx 0 3=some [.slice a23 n24 c25,.int .i64 x26,.slice a27 n28 c29]∧
 Q (.tuple #[.agg #[.slice a23 n24 c25,.int .i64 x26,.slice a27 n28 c29],.slice a2 n2 c2,.bool true]) g22))
 (∃a30 n31 c32 x33 a34 n35 c36,readAt g2 h.nx 0 3=some [.slice a30 n31 c32,.int .i64 x33,.slice a34 n35 c36]∧
 ∃a37 n38 c39 x40 a41 n42 c43 a44 n45 c46 a47 h48,EvC Tryz.prog O 62 [.agg #[.slice a30 n31 c32,.int .i64 x33,.slice a34 n35 c36],.int .i64 1,.slice a2 n2 c2] g2 (.tuple #[.agg #[.slice a37 n38 c39,.int .i64 x40,.slice a41 n42 c43],.slice a44 n45 c46,.pointer a47]) h48∧
 vreq (canW h48 h.nx 0 [.slice a37 n38 c39,.int .i64 x40,.slice a41 n42 c43])
 (let g49:=h48.wr h.nx 0 [.slice a37 n38 c39,.int .i64 x40,.slice a41 n42 c43]
 let g50:=g49.rsv 13
 ∃a51 n52 c53 x54 a55 n56 c57,readAt g50 h.nx 0 3=some [.slice a51 n52 c53,.int .i64 x54,.slice a55 n56 c57]∧
 ∃x58,readAt g50 h.nx 1 1=some [.int .i64 x58]∧
 ∃a59 n60 c61,readAt g50 h.nx 0 1=some [.slice a59 n60 c61]∧
 vreq (canW (g50.grd [h.nx,h.nx]) g1.nx 0 [.slice a51 n52 c53,.int .i64 x54,.slice a55 n56 c57])
 (let g62:=(g50.grd [h.nx,h.nx]).wr g1.nx 0 [.slice a51 n52 c53,.int .i64 x54,.slice a55 n56 c57]
 let g63:=g62.rst g50
 ∃a64 n65 c66 x67 a68 n69 c70,readAt g63 g1.nx 0 3=some [.slice a64 n65 c66,.int .i64 x67,.slice a68 n69 c70]∧
 Q (.tuple #[.agg #[.slice a64 n65 c66,.int .i64 x67,.slice a68 n69 c70],.slice a44 n45 c46,(.bool (!(ltI (Int.ofNat n60) (wrapF .i64 (x58+x1)))))]) g63)))
theorem rk80 {O Q} (a0_0 n0_0 c0_0 x0_1 a0_2 n0_2 c0_2 x1 a2 n2 c2){h:Hp}(hO:O 80 [.agg #[.slice a0_0 n0_0 c0_0,.int .i64 x0_1,.slice a0_2 n0_2 c0_2],.int .i64 x1,.slice a2 n2 c2] h=none)(hh:T80 O Q a0_0 n0_0 c0_0 x0_1 a0_2 n0_2 c0_2 x1 a2 n2 c2 h):Ret Tryz.prog O 80 [.agg #[.slice a0_0 n0_0 c0_0,.int .i64 x0_1,.slice a0_2 n0_2 c0_2],.int .i64 x1,.slice a2 n2 c2] h Q:=
 .of (c:=b80) Tryz.func80 (by kernel_rfl) hO (V_ok (tb:=lv80) (cuts:=[]) 500 (Eq.mp (by kernel_rfl) hh))
noncomputable def b81:Code:=(Tryz.f81.body).getD .skip
def lv81:List (Nat×List Nat):=[]
def T81 (O:CallF)(Q:Value→Hp→Prop)(b0 f0:Nat)(x1:Int)(a2:Option Addr)(n2 c2:Nat)(h:Hp):Prop:=
 ∃x1',readAt h b0 (f0+1) 1=some [.int .i64 x1']∧
 ∃a2' n3 c4,readAt h b0 (f0+0) 1=some [.slice a2' n3 c4]∧
 isNat x1' fun n5=>
 isAddr a2' fun b6 f7=>
 vreq (Nat.blt n5 n3)
 (vreq (canW h b6 (f7+(n5*1)) [(.int .i64 (wrapF .i64 ((wrapF .i64 (8*(Int.ofNat n2)))+x1)))])
 (let g8:=h.wr b6 (f7+(n5*1)) [(.int .i64 (wrapF .i64 ((wrapF .i64 (8*(Int.ofNat n2)))+x1)))]
 let g9:=g8.rsv 18
 ∃x10,readAt g9 b0 (f0+1) 1=some [.int .i64 x10]∧
 ∃a11 n12 c13,readAt g9 b0 (f0+0) 1=some [.slice a11 n12 c13]∧
 ∃a14 n15 c16,sliceV Tryz.prog g9 22 (.slice a11 n12 c13) (some (.int .i64 (wrapF .i64 (x1'+1)))) none none=some (.slice a14 n15 c16)∧
 ∃x17 h18,copyV Tryz.prog (g9.grd [b0]) 22 (.slice a14 n15 c16) (.slice a2 n2 c2)=some (.int .i64 x17,h18)∧
 let g19:=h18.rst g9
 vreq (canW (g19.grd []) b0 (f0+1) [(.int .i64 (wrapF .i64 (x10+(wrapF .i64 (1+x17)))))])
 (let g20:=(g19.grd []).wr b0 (f0+1) [(.int .i64 (wrapF .i64 (x10+(wrapF .i64 (1+x17)))))]
 let g21:=g20.rst g19
 Q (.int .i64 (wrapF .i64 (2*x1'))) g21)))
theorem rk81 {O Q} (b0 f0 x1 a2 n2 c2){h:Hp}(hO:O 81 [.pointer (some ⟨b0,f0,none⟩),.int .i64 x1,.slice a2 n2 c2] h=none)(hh:T81 O Q b0 f0 x1 a2 n2 c2 h):Ret Tryz.prog O 81 [.pointer (some ⟨b0,f0,none⟩),.int .i64 x1,.slice a2 n2 c2] h Q:=
 .of (c:=b81) Tryz.func81 (by kernel_rfl) hO (V_ok (tb:=lv81) (cuts:=[]) 500 (Eq.mp (by kernel_rfl) hh))
noncomputable def b83:Code:=(Tryz.f83.body).getD .skip
def lv83:List (Nat×List Nat):=[]
def T83 (O:CallF)(Q:Value→Hp→Prop)(a0_0:Option Addr)(n0_0 c0_0:Nat)(x0_1:Int)(a0_2:Option Addr)(n0_2 c0_2:Nat)(a1:Option Addr)(n1 c1:Nat)(x2:Int)(h:Hp):Prop:=
 let g1:=h.add (.cells [.slice a0_0 n0_0 c0_0,.int .i64 x0_1,.slice a0_2 n0_2 c0_2] 24 .fix)
 let g2:=g1.add (.cells [.slice none 0 0,.int .i64 0,.slice none 0 0] 24 .fix)
 ∃a3 n4 c5 x6 a7 n8 c9,readAt g2 h.nx 0 3=some [.slice a3 n4 c5,.int .i64 x6,.slice a7 n8 c9]∧
 ∃a10 n11 c12 x13 a14 n15 c16 h17,EvC Tryz.prog O 91 [.agg #[.slice a3 n4 c5,.int .i64 x6,.slice a7 n8 c9]] g2 (.agg #[.slice a10 n11 c12,.int .i64 x13,.slice a14 n15 c16]) h17∧
 vreq (canW h17 h.nx 0 [.slice a10 n11 c12,.int .i64 x13,.slice a14 n15 c16])
 (let g18:=h17.wr h.nx 0 [.slice a10 n11 c12,.int .i64 x13,.slice a14 n15 c16]
 ∃x19,readAt g18 h.nx 1 1=some [.int .i64 x19]∧
 ∃a20 n21 c22,readAt g18 h.nx 0 1=some [.slice a20 n21 c22]∧
 vcond (!(ltI (Int.ofNat n21) (wrapF .i64 (x19+x2))))
 (∃a23 n24 c25 x26 a27 n28 c29,readAt g18 h.nx 0 3=some [.slice a23 n24 c25,.int .i64 x26,.slice a27 n28 c29]∧
 vreq (canW g18 g1.nx 0 [.slice a23 n24 c25,.int .i64 x26,.slice a27 n28 c29])
 (let g30:=g18.wr g1.nx 0 [.slice a23 n24 c25,.int .i64 x26,.slice a27 n28 c29]
 ∃a31 n32 c33 x34 a35 n36 c37,readAt g30 g1.nx 0 3=some [.slice a31 n32 c33,.int .i64 x34,.slice a35 n36 c37]∧
 Q (.tuple #[.agg #[.slice a31 n32 c33,.int .i64 x34,.slice a35 n36 c37],.slice a1 n1 c1,.bool true]) g30))
 (∃a38 n39 c40,readAt g18 h.nx 2 1=some [.slice a38 n39 c40]∧
 ∃a41 n42 c43,readAt g18 h.nx 2 1=some [.slice a41 n42 c43]∧
 ∃a44 n45 c46 h47,appendV Tryz.prog g18 22 22 (.slice a41 n42 c43) (.slice a1 n1 c1)=some (.slice a44 n45 c46,h47)∧
 vreq (canW h47 h.nx 2 [.slice a44 n45 c46])
 (let g48:=h47.wr h.nx 2 [.slice a44 n45 c46]
 ∃a49 n50 c51 x52 a53 n54 c55,readAt g48 h.nx 0 3=some [.slice a49 n50 c51,.int .i64 x52,.slice a53 n54 c55]∧
 ∃a56 n57 c58 x59 a60 n61 c62 h63,EvC Tryz.prog O 64 [.agg #[.slice a49 n50 c51,.int .i64 x52,.slice a53 n54 c55]] g48 (.agg #[.slice a56 n57 c58,.int .i64 x59,.slice a60 n61 c62]) h63∧
 vreq (canW h63 h.nx 0 [.slice a56 n57 c58,.int .i64 x59,.slice a60 n61 c62])
 (let g64:=h63.wr h.nx 0 [.slice a56 n57 c58,.int .i64 x59,.slice a60 n61 c62]
 ∃a65 n66 c67,readAt g64 h.nx 2 1=some [.slice a65 n66 c67]∧
 ∃a68 n69 c70,sliceV Tryz.prog g64 22 (.slice a65 n66 c67) (some (.int .i64 (Int.ofNat n39))) none none=some (.slice a68 n69 c70)∧
 ∃a71 n72 c73 h74,appendV Tryz.prog g64 22 22 (.slice none 0 0) (.slice a68 n69 c70)=some (.slice a71 n72 c73,h74)∧
 ∃a75 n76 c77,readAt h74 h.nx 2 1=some [.slice a75 n76 c77]∧
 ∃a78 n79 c80,sliceV Tryz.prog h74 22 (.slice a75 n76 c77) none (some (.int .i64 (Int.ofNat n39))) none=some (.slice a78 n79 c80)∧
 vreq (canW h74 h.nx 2 [.slice a78 n79 c80])
 (let g81:=h74.wr h.nx 2 [.slice a78 n79 c80]
 let g82:=g81.rsv 13
 ∃a83 n84 c85 x86 a87 n88 c89,readAt g82 h.nx 0 3=some [.slice a83 n84 c85,.int .i64 x86,.slice a87 n88 c89]∧
 ∃x90,readAt g82 h.nx 1 1=some [.int .i64 x90]∧
 ∃a91 n92 c93,readAt g82 h.nx 0 1=some [.slice a91 n92 c93]∧
 vreq (canW (g82.grd [h.nx,h.nx]) g1.nx 0 [.slice a83 n84 c85,.int .i64 x86,.slice a87 n88 c89])
 (let g94:=(g82.grd [h.nx,h.nx]).wr g1.nx 0 [.slice a83 n84 c85,.int .i64 x86,.slice a87 n88 c89]
 let g95:=g94.rst g82
 ∃a96 n97 c98 x99 a100 n101 c102,readAt g95 g1.nx 0 3=some [.slice a96 n97 c98,.int .i64 x99,.slice a100 n101 c102]∧
 Q (.tuple #[.agg #[.slice a96 n97 c98,.int .i64 x99,.slice a100 n101 c102],.slice a71 n72 c73,(.bool (!(ltI (Int.ofNat n92) (wrapF .i64 (x90+x2)))))]) g95))))))
theorem rk83 {O Q} (a0_0 n0_0 c0_0 x0_1 a0_2 n0_2 c0_2 a1 n1 c1 x2){h:Hp}(hO:O 83 [.agg #[.slice a0_0 n0_0 c0_0,.int .i64 x0_1,.slice a0_2 n0_2 c0_2],.slice a1 n1 c1,.int .i64 x2] h=none)(hh:T83 O Q a0_0 n0_0 c0_0 x0_1 a0_2 n0_2 c0_2 a1 n1 c1 x2 h):Ret Tryz.prog O 83 [.agg #[.slice a0_0 n0_0 c0_0,.int .i64 x0_1,.slice a0_2 n0_2 c0_2],.slice a1 n1 c1,.int .i64 x2] h Q:=
 .of (c:=b83) Tryz.func83 (by kernel_rfl) hO (V_ok (tb:=lv83) (cuts:=[]) 500 (Eq.mp (by kernel_rfl) hh))
noncomputable def b84:Code:=(Tryz.f84.body).getD .skip
noncomputable def stk84_0:List KI:=[.code (sub [1,1,1,0,1,0] b84),.blk 0,.code (sub [1,1,1,1] b84)]
def lv84:List (Nat×List Nat):=[(0,[2,3,6,7,8,9])]
def I84_0 (O:CallF)(Q:Value→Hp→Prop)(a0_0:Option Addr)(n0_0 c0_0:Nat)(x0_1:Int)(a0_2:Option Addr)(n0_2 c0_2:Nat)(x1:Int)(a2:Option Addr)(n2 c2 b3 f3 b6 f6:Nat)(x8 x9:Int)(h:Hp):Prop:=RKL Tryz.prog O Tryz.f84 stk84_0 47 [2,3,6,7,8,9] [.slice a2 n2 c2,.pointer (some ⟨b3,f3,none⟩),.pointer (some ⟨b6,f6,none⟩),.int .i64 0,.int .i64 x8,.int .i64 x9] h Q
def T84 (O:CallF)(Q:Value→Hp→Prop)(a0_0:Option Addr)(n0_0 c0_0:Nat)(x0_1:Int)(a0_2:Option Addr)(n0_2 c0_2:Nat)(x1:Int)(a2:Option Addr)(n2 c2:Nat)(h:Hp):Prop:=
 let g1:=h.add (.cells [.slice a0_0 n0_0 c0_0,.int .i64 x0_1,.slice a0_2 n0_2 c0_2] 24 .fix)
 let g2:=g1.add (.cells [.slice none 0 0,.int .i64 0,.slice none 0 0] 24 .fix)
 ∃x3,readAt g2 h.nx 1 1=some [.int .i64 x3]∧
 ∃a4 n5 c6,readAt g2 h.nx 0 1=some [.slice a4 n5 c6]∧
 isNat x3 fun n7=>
 isAddr a4 fun b8 f9=>
 vreq (Nat.blt n7 n5)
 (vreq (canW g2 b8 (f9+(n7*1)) [(.int .i64 (wrapF .i64 ((wrapF .i64 (8*(Int.ofNat n2)))+x1)))])
 (let g10:=g2.wr b8 (f9+(n7*1)) [(.int .i64 (wrapF .i64 ((wrapF .i64 (8*(Int.ofNat n2)))+x1)))]
 I84_0 O Q a0_0 n0_0 c0_0 x0_1 a0_2 n0_2 c0_2 x1 a2 n2 c2 h.nx 0 g1.nx 0 x3 0 g10))
theorem rk84 {O Q} (a0_0 n0_0 c0_0 x0_1 a0_2 n0_2 c0_2 x1 a2 n2 c2){h:Hp}(hO:O 84 [.agg #[.slice a0_0 n0_0 c0_0,.int .i64 x0_1,.slice a0_2 n0_2 c0_2],.int .i64 x1,.slice a2 n2 c2] h=none)(hh:T84 O Q a0_0 n0_0 c0_0 x0_1 a0_2 n0_2 c0_2 x1 a2 n2 c2 h):Ret Tryz.prog O 84 [.agg #[.slice a0_0 n0_0 c0_0,.int .i64 x0_1,.slice a0_2 n0_2 c0_2],.int .i64 x1,.slice a2 n2 c2] h Q:=
 .of (c:=b84) Tryz.func84 (by kernel_rfl) hO (V_ok (tb:=lv84) (cuts:=[]) 500 (Eq.mp (by kernel_rfl) hh))
def T84_0 (O:CallF)(Q:Value→Hp→Prop)(a0_0:Option Addr)(n0_0 c0_0:Nat)(x0_1:Int)(a0_2:Option Addr)(n0_2 c0_2:Nat)(x1:Int)(a2:Option Addr)(n2 c2 b3 f3 b6 f6:Nat)(x8 x9:Int)(h:Hp):Prop:=
 vcond (ltI x9 (Int.ofNat n2))
 (let g101:=h.rsv 12
 ∃a102 n103 c104,readAt g101 b3 (f3+0) 1=some [.slice a102 n103 c104]∧
 isNat x9 fun n105=>
 isAddr a2 fun b106 f107=>
 vreq (Nat.blt n105 n2)
 (∃x108,readAt g101 b106 (f107+(n105*1)) 1=some [.int .i64 x108]∧
 isNat (wrapF .i64 ((wrapF .i64 (x8+1))+x9)) fun n109=>
 isAddr a102 fun b110 f111=>
 vreq (Nat.blt n109 n103)
 (vreq (canW (g101.grd []) b110 (f111+(n109*1)) [.int .i64 x108])
 (let g112:=(g101.grd []).wr b110 (f111+(n109*1)) [.int .i64 x108]
 let g113:=g112.rst g101
 I84_0 O Q a0_0 n0_0 c0_0 x0_1 a0_2 n0_2 c0_2 x1 a2 n2 c2 b3 f3 b6 f6 x8 (wrapF .i64 (x9+1)) g113))))
 (vreq (canW h b3 (f3+1) [(.int .i64 (wrapF .i64 ((wrapF .i64 (x8+1))+(Int.ofNat n2))))])
 (let g114:=h.wr b3 (f3+1) [(.int .i64 (wrapF .i64 ((wrapF .i64 (x8+1))+(Int.ofNat n2))))]
 ∃a115 n116 c117 x118 a119 n120 c121,readAt g114 b3 f3 3=some [.slice a115 n116 c117,.int .i64 x118,.slice a119 n120 c121]∧
 vreq (canW g114 b6 f6 [.slice a115 n116 c117,.int .i64 x118,.slice a119 n120 c121])
 (let g122:=g114.wr b6 f6 [.slice a115 n116 c117,.int .i64 x118,.slice a119 n120 c121]
 ∃a123 n124 c125 x126 a127 n128 c129,readAt g122 b6 f6 3=some [.slice a123 n124 c125,.int .i64 x126,.slice a127 n128 c129]∧
 Q (.tuple #[.agg #[.slice a123 n124 c125,.int .i64 x126,.slice a127 n128 c129],.int .i64 (wrapF .i64 (2*x8))]) g122)))
theorem I84_0.of {O Q} (a0_0 n0_0 c0_0 x0_1 a0_2 n0_2 c0_2 x1 a2 n2 c2 b3 f3 b6 f6 x8 x9){h:Hp}(hh:T84_0 O Q a0_0 n0_0 c0_0 x0_1 a0_2 n0_2 c0_2 x1 a2 n2 c2 b3 f3 b6 f6 x8 x9 h):I84_0 O Q a0_0 n0_0 c0_0 x0_1 a0_2 n0_2 c0_2 x1 a2 n2 c2 b3 f3 b6 f6 x8 x9 h:=
 RKL.of (tb:=lv84) (cuts:=[]) 500 fun _=>Eq.mp (by kernel_rfl) hh
noncomputable def b87:Code:=(Tryz.f87.body).getD .skip
def lv87:List (Nat×List Nat):=[]
def T87 (O:CallF)(Q:Value→Hp→Prop)(a0_0:Option Addr)(n0_0 c0_0:Nat)(x0_1:Int)(a0_2:Option Addr)(n0_2 c0_2:Nat)(h:Hp):Prop:=
 let g1:=h.add (.cells [.slice a0_0 n0_0 c0_0,.int .i64 x0_1,.slice a0_2 n0_2 c0_2] 24 .fix)
 let g2:=g1.add (.cells [.slice none 0 0,.int .i64 0,.slice none 0 0] 24 .fix)
 let g3:=g2.rsv 10
 ∃a4 n5 c6,readAt g3 h.nx 0 1=some [.slice a4 n5 c6]∧
 ∃x7,readAt g3 h.nx 1 1=some [.int .i64 x7]∧
 ∃a8 n9 c10,readAt g3 h.nx 2 1=some [.slice a8 n9 c10]∧
 ∃a11 n12 c13 h14,EvC Tryz.prog O 46 [.slice a4 n5 c6] (g3.grd [h.nx,h.nx]) (.slice a11 n12 c13) h14∧
 let g15:=h14.rst g3
 ∃a16 n17 c18 h19,EvC Tryz.prog O 46 [.slice a8 n9 c10] (g15.grd [h.nx]) (.slice a16 n17 c18) h19∧
 let g20:=h19.rst g15
 vreq (canW (g20.grd []) g1.nx 0 [.slice a11 n12 c13,.int .i64 x7,.slice a16 n17 c18])
 (let g21:=(g20.grd []).wr g1.nx 0 [.slice a11 n12 c13,.int .i64 x7,.slice a16 n17 c18]
 let g22:=g21.rst g20
 ∃a23 n24 c25 x26 a27 n28 c29,readAt g22 g1.nx 0 3=some [.slice a23 n24 c25,.int .i64 x26,.slice a27 n28 c29]∧
 Q (.agg #[.slice a23 n24 c25,.int .i64 x26,.slice a27 n28 c29]) g22)
theorem rk87 {O Q} (a0_0 n0_0 c0_0 x0_1 a0_2 n0_2 c0_2){h:Hp}(hO:O 87 [.agg #[.slice a0_0 n0_0 c0_0,.int .i64 x0_1,.slice a0_2 n0_2 c0_2]] h=none)(hh:T87 O Q a0_0 n0_0 c0_0 x0_1 a0_2 n0_2 c0_2 h):Ret Tryz.prog O 87 [.agg #[.slice a0_0 n0_0 c0_0,.int .i64 x0_1,.slice a0_2 n0_2 c0_2]] h Q:=
 .of (c:=b87) Tryz.func87 (by kernel_rfl) hO (V_ok (tb:=lv87) (cuts:=[]) 500 (Eq.mp (by kernel_rfl) hh))
noncomputable def b91:Code:=(Tryz.f91.body).getD .skip
def lv91:List (Nat×List Nat):=[]
def T91 (O:CallF)(Q:Value→Hp→Prop)(a0_0:Option Addr)(n0_0 c0_0:Nat)(x0_1:Int)(a0_2:Option Addr)(n0_2 c0_2:Nat)(h:Hp):Prop:=
 let g1:=h.add (.cells [.slice a0_0 n0_0 c0_0,.int .i64 x0_1,.slice a0_2 n0_2 c0_2] 24 .fix)
 let g2:=g1.add (.cells [.slice none 0 0,.int .i64 0,.slice none 0 0] 24 .fix)
 let g3:=g2.rsv 11
 ∃a4 n5 c6,readAt g3 h.nx 0 1=some [.slice a4 n5 c6]∧
 ∃x7,readAt g3 h.nx 1 1=some [.int .i64 x7]∧
 ∃a8 n9 c10,readAt g3 h.nx 2 1=some [.slice a8 n9 c10]∧
 vreq (g3.free (g2.nx+0))
 (let g11:=g3.lay (g2.nx+0) (.cells [] 3 .fix)
 ∃a12 n13 c14 h15,appendV Tryz.prog (g11.grd [h.nx,h.nx]) 22 22 (.slice (some ⟨(g2.nx+0),0,none⟩) 0 0) (.slice a4 n5 c6)=some (.slice a12 n13 c14,h15)∧
 let g16:=h15.rst g11
 ∃a17 n18 c19 h20,appendV Tryz.prog (g16.grd [h.nx]) 22 22 (.slice none 0 0) (.slice a8 n9 c10)=some (.slice a17 n18 c19,h20)∧
 let g21:=h20.rst g16
 vreq (canW (g21.grd []) g1.nx 0 [.slice a12 n13 c14,.int .i64 x7,.slice a17 n18 c19])
 (let g22:=(g21.grd []).wr g1.nx 0 [.slice a12 n13 c14,.int .i64 x7,.slice a17 n18 c19]
 let g23:=g22.rst g21
 ∃a24 n25 c26 x27 a28 n29 c30,readAt g23 g1.nx 0 3=some [.slice a24 n25 c26,.int .i64 x27,.slice a28 n29 c30]∧
 Q (.agg #[.slice a24 n25 c26,.int .i64 x27,.slice a28 n29 c30]) g23))
theorem rk91 {O Q} (a0_0 n0_0 c0_0 x0_1 a0_2 n0_2 c0_2){h:Hp}(hO:O 91 [.agg #[.slice a0_0 n0_0 c0_0,.int .i64 x0_1,.slice a0_2 n0_2 c0_2]] h=none)(hh:T91 O Q a0_0 n0_0 c0_0 x0_1 a0_2 n0_2 c0_2 h):Ret Tryz.prog O 91 [.agg #[.slice a0_0 n0_0 c0_0,.int .i64 x0_1,.slice a0_2 n0_2 c0_2]] h Q:=
 .of (c:=b91) Tryz.func91 (by kernel_rfl) hO (V_ok (tb:=lv91) (cuts:=[]) 500 (Eq.mp (by kernel_rfl) hh))
abbrev iv (xs:List Int):List Value:=xs.map (Value.int .i64)
theorem iv_one (xs:List Int):(iv xs).all one=true:=by rw[List.all_map];exact List.all_eq_true.2 fun _ _=>rfl
theorem isAddr_i {b off:Nat}{K:Nat→Nat→Prop}(h:K b off):isAddr (some ⟨b,off,none⟩) K:=h
section
variable {O:CallF}(hO:Oth O)
include hO
theorem ct46 {g:Hp}(ok:g.Ok){a:Option Addr}{n c:Nat}{xs:List Int}(X:IntsAt g a n xs)(hl:xs.length<1000000):Ret Tryz.prog O 46 [.slice a n c] g fun v h'=> ∃a' n' c',v= .slice a' n' c'∧Know g h' [acc g.nx 3 1 a' n' c' (iv xs)]:=by
 refine rk46 (hO:=hO _ _ _ (by decide)) (hh:= ?_) ..
 unfold T46
 have hn:=X.1
 cases a with
 |none=>
  have:xs=[]:=by
   rcases X.2 with ⟨h,_⟩|⟨_,_,_,_,_,h,_⟩
   · exact h
   · cases h
  subst this
  exact⟨_,_,_,rfl,(Know.nil ok).accNil g.nx 3 1⟩
 |some ad=>
  show let g1:Hp:=g.add (.cells [] 3 .fix)
   _
  intro g1
  have S:Know g g1 [_]:=((Know.nil ok).add _).acc0 0 rfl g.nx (Nat.le_refl _) 3 1
  haveI:=S.ft
  obtain⟨a',n',c',h',e,hn',S⟩:=S.app 0 rfl (Nat.le_refl _) S.lo AppT22 ⟨_,_,_,rfl⟩ (IntsAt.src (SlAt.to g1 X)) (by rw[List.length_map];omega) (iv_one xs) (by omega) (by unfold big;omega)
  exact⟨a',n',c',h',e,_,_,_,rfl,S⟩
def QCopy (g:Hp)(W:List Int)(top:Int)(R:List Int):Value→Hp→Prop:=fun v h'=> ∃oW ar nr cr lo,v= .agg #[.slice (some ⟨oW,0,none⟩) W.length unk,.int .i64 top,.slice ar nr cr]∧g.nx≤lo∧Know g h' [ob oW (.cells (iv W) 3 .grow),acc lo 3 1 ar nr cr (iv R)]
theorem ct87 {g:Hp}(ok:g.Ok){aw:Option Addr}{nw cw:Nat}{W:List Int}{top:Int}{ar:Option Addr}{nr cr:Nat}{R:List Int}(A:HA g aw nw cw W ar nr cr R)(hW:W≠ [])(lW:W.length<1000000)(lR:R.length<1000000):
 Ret Tryz.prog O 87 [.agg #[.slice aw nw cw,.int .i64 top,.slice ar nr cr]] g (QCopy g W top R):=by
 refine rk87 (hO:=hO _ _ _ (by decide)) (hh:= ?_) ..
 unfold T87
 intro g1 g2 g3
 have S:Know g g3 [_,_]:=(((Know.nil ok).add _).add _).rsv 10
 have:=S.lo
 have n3:g3.nx=g.nx+12:=rfl
 have n1:g1.nx=g.nx+1:=rfl
 haveI:=S.ftg [g.nx,g.nx]
 obtain⟨v,h14,e14,a1,m1,c1,rfl,T⟩:=ct46 hO (S.okg (l:=[g.nx,g.nx]) (by intro q hq;have:q=g.nx:=(by simpa using hq);omega)) (A.sw.at_.to (g3.grd [g.nx,g.nx])) lW (c:=cw)
 refine⟨_,_,_,S.rd 1 rfl rfl rfl,_,S.rd 1 rfl rfl rfl,_,_,_,S.rd 1 rfl rfl rfl,_,_,_,_,e14,?_⟩
 intro g15
 have S:Know g g15 [_,_,_]:=S.compg T
 have m15:g3.nx≤g15.nx:=T.kp.nx
 haveI:=S.ftg [g.nx]
 obtain⟨v,h19,e19,a2,m2,c2,rfl,T⟩:=ct46 hO (S.okg (l:=[g.nx]) (by intro q hq;have:q=g.nx:=(by simpa using hq);omega)) (A.sr.at_.to (g15.grd [g.nx])) lR (c:=cr)
 refine⟨_,_,_,_,e19,?_⟩
 intro g20
 have S:Know g g20 [_,_,_,_]:=S.compg T
 refine vreq_t (S.cwg 2 rfl (fun _ h=>by cases h) (by decide) rfl rfl) ?_
 intro g21 g22
 have S:Know g g22 [_,_,_,_]:=S.wrg 2 rfl (fun _ h=>by cases h) (by decide) rfl rfl
 obtain⟨o,rfl,rfl,hm,_,S⟩:=S.accOb 1 rfl (by simpa using hW)
 refine⟨_,_,_,_,_,_,_,S.rd 2 rfl rfl rfl,o,_,_,_,_,?_,?_,S.sel [1,0] (by decide) rfl⟩
 · rw[show W.length=m1 by simpa using hm.symm]
 · show g.nx≤g15.nx;omega
end
theorem iv_putAt: ∀(ds xs:List Int)(k:Nat),iv (putAt ds k xs)=putAt (iv ds) k (iv xs):=by
 intro ds
 induction ds with
 |nil=>intro xs k;cases k<;>cases xs<;>rfl
 |cons d ds ih=>
  intro xs k
  cases k with
  |zero=>cases xs with
   |nil=>rfl
   |cons x xs=>show _::_=_::_;rw[←ih]
  |succ k=>show _::_=_::_;rw[←ih]
theorem putAt_two {α:Type}: ∀(ds xs:List α)(k:Nat)(x:α),putAt (putAt ds k [x]) (k+1) xs=putAt ds k (x::xs):=by
 intro ds
 induction ds with
 |nil=>intro xs k x;cases k<;>cases xs<;>rfl
 |cons d ds ih=>
  intro xs k x
  cases k with
  |zero=>
   show x::putAt (putAt ds 0 []) 0 xs=x::putAt ds 0 xs
   rw[putAt_nil]
  |succ k=>show d::_=d::_;rw[ih]
theorem putAt_snoc' {α:Type}{ds c:List α}{k:Nat}{v:α}(h:k+c.length<ds.length):putAt (putAt ds k c) (k+c.length) [v]=putAt ds k (c++[v]):=by
 rw[←putAt_snoc h]
 refine List.ext_getElem? fun i=> ?_
 rw[putAt_get _ _ _ (by rw[putAt_length];simp;omega),List.getElem?_set,putAt_length]
 simp only[List.length_cons,List.length_nil]
 by_cases hi:k+c.length=i
 · subst hi;simp[h]
 · rw[if_neg (by omega),if_neg hi]
def layP (W:List Int)(top:Nat)(k:Int)(xs:List Int):List Int:=putAt W top ((8*(xs.length:Int)+k)::xs)
theorem layP_length (W:List Int)(top:Nat)(k:Int)(xs:List Int):(layP W top k xs).length=W.length:=putAt_length ..
def CapOk (m:Md)(cw n:Nat):Prop:=(m= .fix∧cw=n)∨(m= .grow∧cw=unk)
theorem CapOk.ro {m:Md}{cw n:Nat}(c:CapOk m cw n):m≠ .ro:=by rcases c with ⟨rfl,_⟩|⟨rfl,_⟩<;>decide
theorem SI.own {h:Hp}{o cw:Nat}{m:Md}{W:List Int}(hg:h.get o=some (.cells (iv W) 3 m))(ho:o<h.nx)(c:CapOk m cw W.length)(hl:W.length<1000000):SI h (some ⟨o,0,none⟩) W.length cw W:=by
 rcases c with ⟨rfl,rfl⟩|⟨rfl,rfl⟩
 · exact SI.cells hg ho rfl hl
 · exact SI.acc (base:=0) (.inr ⟨o,rfl,rfl,by simp,Nat.zero_le _,ho,hg⟩) (by omega)
theorem slice_lo {h:Hp}{o n c:Nat}{W:List Int}(s:SI h (some ⟨o,0,none⟩) n c W){l:Nat}(hl:l<n): ∃c',sliceV Tryz.prog h 22 (.slice (some ⟨o,0,none⟩) n c) (some (.int .i64 (Int.ofNat l))) none none=some (.slice (some ⟨o,l,none⟩) (n-l) c'):=by
 obtain⟨vis,hs,hv,hvu,_⟩:=s.cap
 unfold sliceV
 rw[Tryz.underlying22]
 simp only[sz3,bind,Option.bind_some,hs,bounds_lo (vis:=vis) (show l≤n by omega)]
 by_cases hc:c=unk
 · subst hc
   simp only[Nat.beq_refl,Option.isNone_none,Bool.and_self,cond_true]
   exact⟨_,by rw[Nat.zero_add,Nat.mul_one]⟩
 · have hcb:Nat.beq c unk=false:=by rw[Bool.eq_false_iff];intro hh;exact hc (Nat.eq_of_beq_eq_true hh)
   simp only[hcb,Bool.false_and,cond_false]
   rw[blt_t hvu]
   have hlb:Nat.beq vis l=false:=by rw[Bool.eq_false_iff];intro hh;have:=Nat.eq_of_beq_eq_true hh;omega
   simp only[hlb,cond_true,cond_false]
   exact⟨_,by rw[Nat.zero_add,Nat.mul_one]⟩
section
variable {O:CallF}(hO:Oth O)
include hO
theorem ct81 {h0 h:Hp}{L:List Rs}(S:Know h0 h L)(i j:Nat){b oW cw top:Nat}{ar:Option Addr}{nr cr:Nat}{W:List Int}{m:Md}
 (hi:L[i]? =some (ob b (.cells [.slice (some ⟨oW,0,none⟩) W.length cw,.int .i64 (Int.ofNat top),.slice ar nr cr] 24 .fix))) (hj:L[j]? =some (ob oW (.cells (iv W) 3 m))) (hij:i≠j) (hc:CapOk m cw W.length)
 {a2:Option Addr} {n2 c2:Nat} {xs:List Int} (X:IntsAt h a2 n2 xs) (hx: ∀o off,a2=some ⟨o,off,none⟩→o≠oW) (hfit:top+1+xs.length≤W.length) (lW:W.length<1000000) {k:Int} (hk:0≤k∧k≤10):
 Ret Tryz.prog O 81 [.pointer (some ⟨b,0,none⟩),.int .i64 k,.slice a2 n2 c2] h fun v h'=>v= .int .i64 (2*(top:Int))∧Know h0 h' ((L.set j (ob oW (.cells (iv (layP W top k xs)) 3 m))).set i (ob b (.cells [.slice (some ⟨oW,0,none⟩) W.length cw,.int .i64 (Int.ofNat (top+1+xs.length)),.slice ar nr cr] 24 .fix))):=by
 refine rk81 (hO:=hO _ _ _ (by decide)) (hh:= ?_) ..
 unfold T81
 have hn2:=X.1
 have lj:=S.len hj
 have li:=S.len hi
 have e1:wrapF .i64 (wrapF .i64 (8*Int.ofNat n2)+k)=8*(xs.length:Int)+k:=by
  rw[wrap64 (n:=8*Int.ofNat n2) (by rw[hn2];show _≤8*(xs.length:Int);omega) (by rw[hn2];show 8*(xs.length:Int)<_;omega),hn2]
  exact wrap64 (by show _≤8*(xs.length:Int)+k;omega) (by show 8*(xs.length:Int)+k<_;omega)
 rw[e1]
 refine⟨_,S.rd i hi rfl rfl,_,_,_,S.rd i hi rfl rfl,isNat_i (isAddr_i (vreq_t (blt_t (by omega)) (vreq_t (S.cw j hj hc.ro (ble_t (by rw[List.length_map];show 0+top*1+1≤_;omega)) rfl) ?_)))⟩
 intro g8 g9
 have S8:Know h0 g8 _:=S.wr j hj hc.ro (ble_t (by rw[List.length_map];show 0+top*1+1≤_;omega)) rfl
 have S9:Know h0 g9 _:=S8.rsv 18
 rw[show 0+top*1=top by omega,show [Value.int .i64 (8*(xs.length:Int)+k)]=iv [8*(xs.length:Int)+k] from rfl,←iv_putAt]at S9
 generalize hW1:putAt W top [8*(xs.length:Int)+k]=W1 at S9
 have lW1:W1.length=W.length:=by rw[←hW1,putAt_length]
 have hj9:(L.set j (ob oW (.cells (iv W1) 3 m)))[j]? =some (ob oW (.cells (iv W1) 3 m)):=by rw[List.getElem?_set_self lj]
 have hi9:(L.set j (ob oW (.cells (iv W1) 3 m)))[i]? =some (ob b (.cells [.slice (some ⟨oW,0,none⟩) W.length cw,.int .i64 (Int.ofNat top),.slice ar nr cr] 24 .fix)):=by rw[List.getElem?_set_ne (Ne.symm hij)];exact hi
 have hget:g9.get oW=some (.cells (iv W1) 3 m):=S9.obj j hj9
 have s9:SI g9 (some ⟨oW,0,none⟩) W.length cw W1:=by
  rw[←lW1]
  exact SI.own hget (S9.orng j hj9).2 (by rw[lW1];exact hc) (by omega)
 have X9:IntsAt g9 a2 n2 xs:=SlAt.keep X (fun o off ha=>wr_get_ne _ _ _ _ (hx o off ha)) (by show h.nx≤g8.nx+18;rw[show g8.nx=h.nx from nx_wr ..];omega) (fun _ _ h=>h)
 have hne:b≠oW:=S.ne i j hi hj hij
 have etop:wrapF .i64 (Int.ofNat top+1)=Int.ofNat (top+1):=wrap_succ (by omega)
 rw[etop]
 have fin: ∀(g18:Hp),Know h0 (g18.rst g9) (L.set j (ob oW (.cells (iv (layP W top k xs)) 3 m)))→vreq (canW ((g18.rst g9).grd []) b 1 [.int .i64 (wrapF .i64 (Int.ofNat top+wrapF .i64 (1+Int.ofNat xs.length)))])
  (Know h0 ((((g18.rst g9).grd []).wr b 1 [.int .i64 (wrapF .i64 (Int.ofNat top+wrapF .i64 (1+Int.ofNat xs.length)))]).rst (g18.rst g9)) ((L.set j (ob oW (.cells (iv (layP W top k xs)) 3 m))).set i (ob b (.cells [.slice (some ⟨oW,0,none⟩) W.length cw,.int .i64 (Int.ofNat (top+1+xs.length)),.slice ar nr cr] 24 .fix)))):=by
  intro g18 S18
  have hi18:(L.set j (ob oW (.cells (iv (layP W top k xs)) 3 m)))[i]? =some (ob b (.cells [.slice (some ⟨oW,0,none⟩) W.length cw,.int .i64 (Int.ofNat top),.slice ar nr cr] 24 .fix)):=by rw[List.getElem?_set_ne (Ne.symm hij)];exact hi
  have e2:wrapF .i64 (Int.ofNat top+wrapF .i64 (1+Int.ofNat xs.length))=Int.ofNat (top+1+xs.length):=by
   rw[wrap64 (n:=1+Int.ofNat xs.length) (by show _≤1+(xs.length:Int);omega) (by show 1+(xs.length:Int)<_;omega)]
   rw[wrap64 (by show _≤(top:Int)+(1+(xs.length:Int));omega) (by show(top:Int)+(1+(xs.length:Int))<_;omega)]
   show(top:Int)+(1+(xs.length:Int))=((top+1+xs.length:Nat):Int)
   omega
  rw[e2]
  exact vreq_t (S18.cwg i hi18 (fun _ h=>by cases h) (by decide) rfl rfl) (S18.wrg i hi18 (fun _ h=>by cases h) (by decide) rfl rfl)
 have e3:wrapF .i64 (2*Int.ofNat top)=2*(top:Int):=dbl64 (n:=W.length) (by omega) lW
 by_cases hz:xs=[]
 · subst hz
   obtain⟨a14,c16,es,sp⟩:=s9.part (l:=top+1) (r:=W.length) (by omega) (by omega) (lo:=some (.int .i64 (Int.ofNat (top+1)))) (hi:=none) fun vis hv=>bounds_lo (by omega)
   have hn0:n2=0:=hn2
   have cz: ∃h18,copyV Tryz.prog (g9.grd [b]) 22 (.slice a14 (W.length-(top+1)) c16) (.slice a2 n2 c2)=some (.int .i64 (Int.ofNat 0),h18)∧h18=g9.grd [b]:=by
    refine⟨_,?_,rfl⟩
    unfold copyV
    rw[el22]
    simp only[Option.bind_some,sz3,lenV,hn0]
    rcases sp.at_.2 with ⟨_,rfl⟩|⟨b',off,_,_,_,rfl,_⟩
    · rfl
    · show(bif Nat.beq (Nat.min 0 _) 0 then _ else _)=_
      rw[show Nat.min 0 (W.length-(top+1))=0 from Nat.zero_min _];rfl
   obtain⟨h18,ec,rfl⟩:=cz
   refine⟨_,S9.rd i hi9 rfl rfl,_,_,_,S9.rd i hi9 rfl rfl,_,_,_,es,_,_,ec,?_⟩
   have:=fin (g9.grd [b]) (by
    rw[rst_grd]
    have:layP W top k []=W1:=by rw[←hW1];rfl
    rw[this];exact S9)
   intro g19
   obtain⟨q1,q2⟩:=(vreq_eq _ _).mp this
   exact vreq_t q1 ⟨by rw[e3],q2⟩
 · have hpos:0<xs.length:=List.length_pos_iff.2 hz
   obtain⟨c',es⟩:=slice_lo s9 (l:=top+1) (by omega)
   have gf:(g9.grd [b]).guarded oW=false:=S9.gdfg (S9.orng j hj9).1 fun q hq=>by rw[List.mem_singleton.1 hq];exact hne
   obtain⟨h18,ec,hg18,ho18,hn18,hgd18,hf18⟩:=copy_ints (h:=g9.grd [b]) (o:=oW) (off:=top+1) (n:=W.length-(top+1)) (m:=n2) (c2:=c2) (c1:=c') hget hc.ro gf (by omega) X9
   have hmin:Nat.min n2 (W.length-(top+1))=xs.length:=by rw[hn2];exact Nat.min_eq_left (by omega)
   rw[hmin]at ec hg18
   rw[List.take_length]at hg18
   refine⟨_,S9.rd i hi9 rfl rfl,_,_,_,S9.rd i hi9 rfl rfl,_,_,_,es,_,_,ec,?_⟩
   have eL:putAt W1 (top+1) xs=layP W top k xs:=by rw[←hW1,putAt_two];rfl
   rw[eL]at hg18
   have S18:Know h0 (h18.rst g9) ((L.set j (ob oW (.cells (iv W1) 3 m))).set j (ob oW (.cells (iv (layP W top k xs)) 3 m))):=
    S9.upd j hj9 (r':=ob oW (.cells (iv (layP W top k xs)) 3 m)) ⟨fun o _ ho=>ho18 o ho,by show g9.nx≤h18.nx;rw[hn18];exact Nat.le_refl _,rfl,fun f=>hf18 f⟩ (ob.loc _ _) hg18 fun _ h=> .inl h
   rw[List.set_set]at S18
   have:=fin h18 S18
   intro g19
   obtain⟨q1,q2⟩:=(vreq_eq _ _).mp this
   exact vreq_t q1 ⟨by rw[e3],q2⟩
end
section
variable {O:CallF}(hO:Oth O)
include hO
theorem ct91 {g:Hp}(ok:g.Ok){aw:Option Addr}{nw cw:Nat}{W:List Int}{top:Int}{ar:Option Addr}{nr cr:Nat}{R:List Int}(A:HA g aw nw cw W ar nr cr R)(hW:W≠ [])(lW:W.length<1000000)(lR:R.length<1000000):
 Ret Tryz.prog O 91 [.agg #[.slice aw nw cw,.int .i64 top,.slice ar nr cr]] g (QCopy g W top R):=by
 refine rk91 (hO:=hO _ _ _ (by decide)) (hh:= ?_) ..
 unfold T91
 intro g1 g2 g3
 have S:Know g g1 [_]:=(Know.nil ok).add _
 have S:Know g g2 [_,_]:=S.add _
 have S:Know g g3 [_,_,_]:=S.rsvK 11
 have n1:g1.nx=g.nx+1:=rfl
 have n2:g2.nx=g.nx+2:=rfl
 have n3:g3.nx=g.nx+13:=rfl
 refine⟨_,_,_,S.rd 2 rfl rfl rfl,_,S.rd 2 rfl rfl rfl,_,_,_,S.rd 2 rfl rfl rfl,vreq_t (S.fre 0 rfl (Nat.le_add_right ..) (by omega) (by simp)) ?_⟩
 intro g11
 have S:Know g g11 [_,_,_,_]:=S.lay 0 rfl (Nat.le_add_right ..) (by omega) (by simp) _
 have S:Know g g11 [_,_,_,_]:=S.acc0 0 rfl g2.nx (Nat.le_add_right ..) 3 1
 have n11:g11.nx=g.nx+13:=rfl
 have lgd: ∀q∈ [g.nx,g.nx],q<g2.nx:=fun q hq=>by have:q=g.nx:=(by simpa using hq);omega
 haveI:=S.ft
 have hnw:=A.sw.at_.1
 have hnr:=A.sr.at_.1
 obtain⟨a',n',c',h',e,hn',S⟩:=S.appg 0 rfl (by omega) (by omega) AppT22 lgd ⟨_,_,_,rfl⟩ (c:=0) (x:= .slice aw nw cw) (IntsAt.src (SlAt.to g11 A.sw.at_)) (by rw[List.length_map];omega) (iv_one W) (by omega) (by unfold big;omega)
 refine⟨_,_,_,_,e,?_⟩
 intro g16
 have S:Know g g16 [_,_,_,_]:=S
 have S:Know g g16 [_,_,_,_,_]:=S.accNil g2.nx 3 1
 have m16:=S.lo
 have lgd: ∀q∈ [g.nx],q<g2.nx:=fun q hq=>by have:q=g.nx:=(by simpa using hq);omega
 have r16:=(S.orng 3 rfl).2
 haveI:=S.ft
 obtain⟨a2',n2',c2',h2',e2,hn2',S⟩:=S.appg 0 rfl (by omega) (by omega) AppT22 lgd ⟨_,_,_,rfl⟩ (c:=0) (x:= .slice ar nr cr) (IntsAt.src (SlAt.to g16 A.sr.at_)) (by rw[List.length_map];omega) (iv_one R) (by omega) (by unfold big;omega)
 refine⟨_,_,_,_,e2,?_⟩
 intro g21
 have S:Know g g21 [_,_,_,_,_]:=S
 refine vreq_t (S.cwg 3 rfl (fun _ h=>by cases h) (by decide) rfl rfl) ?_
 intro g22 g23
 have S:Know g g23 [_,_,_,_,_]:=S.wrg 3 rfl (fun _ h=>by cases h) (by decide) rfl rfl
 obtain⟨o,rfl,rfl,hm,_,S⟩:=S.accOb 1 rfl (by simpa using hW)
 refine⟨_,_,_,_,_,_,_,S.rd 3 rfl rfl rfl,o,_,_,_,g2.nx,?_,by omega,S.sel [1,0] (by decide) rfl⟩
 rw[show W.length=n' by simpa using hm.symm]
theorem ct84 {h0 h:Hp}{L:List Rs}(S:Know h0 h L)(j:Nat){oW cw top:Nat}{ar:Option Addr}{nr cr:Nat}{W:List Int}{m:Md}
 (hj:L[j]? =some (ob oW (.cells (iv W) 3 m))) (hc:CapOk m cw W.length)
 {a2:Option Addr} {n2 c2:Nat} {xs:List Int} (X:IntsAt h a2 n2 xs) (hx: ∀o off,a2=some ⟨o,off,none⟩→o≠oW) (hfit:top+1+xs.length≤W.length) (lW:W.length<1000000) {k:Int} (hk:0≤k∧k≤10):
 Ret Tryz.prog O 84 [.agg #[.slice (some ⟨oW,0,none⟩) W.length cw,.int .i64 (Int.ofNat top),.slice ar nr cr],.int .i64 k,.slice a2 n2 c2] h fun v h'=>v= .tuple #[.agg #[.slice (some ⟨oW,0,none⟩) W.length cw,.int .i64 (Int.ofNat (top+1+xs.length)),.slice ar nr cr],.int .i64 (2*(top:Int))]∧Know h0 h' (L.set j (ob oW (.cells (iv (layP W top k xs)) 3 m))):=by
 refine rk84 (hO:=hO _ _ _ (by decide)) (hh:= ?_) ..
 unfold T84
 intro g1 g2
 have hn2:=X.1
 have lj:=S.len hj
 have e1:wrapF .i64 (wrapF .i64 (8*Int.ofNat n2)+k)=8*(xs.length:Int)+k:=by
  rw[wrap64 (n:=8*Int.ofNat n2) (by rw[hn2];show _≤8*(xs.length:Int);omega) (by rw[hn2];show 8*(xs.length:Int)<_;omega),hn2]
  exact wrap64 (by show _≤8*(xs.length:Int)+k;omega) (by show 8*(xs.length:Int)+k<_;omega)
 rw[e1]
 have S1:Know h0 g1 _:=S.add _
 have S2:Know h0 g2 _:=S1.add _
 have hb:Nat.ble (0+top*1+ [Value.int .i64 (8*(xs.length:Int)+k)].length) (iv W).length=true:=ble_t (by rw[List.length_map];show 0+top*1+1≤_;omega)
 refine⟨_,S2.rd 1 rfl rfl rfl,_,_,_,S2.rd 1 rfl rfl rfl,isNat_i (isAddr_i (vreq_t (blt_t (by omega)) (vreq_t (S2.cw (j+2) hj hc.ro hb rfl) ?_)))⟩
 intro g10
 have S10:Know h0 g10 (_::_::L.set j _):=S2.wr (j+2) hj hc.ro hb rfl
 rw[show 0+top*1=top by omega,show [Value.int .i64 (8*(xs.length:Int)+k)]=iv [8*(xs.length:Int)+k] from rfl,←iv_putAt]at S10
 have X10:IntsAt g10 a2 n2 xs:=SlAt.keep X (fun o off ha=>(wr_get_ne _ _ _ _ (hx o off ha)).trans ?_) (by rw[show g10.nx=h.nx+2 from nx_wr ..];omega) (fun _ _ h=>h)
 rotate_left
 · have:o<h.nx:=by
    rcases X.2 with ⟨_,e⟩|⟨b,off',_,_,_,e,h2,_⟩
    · rw[e]at ha;cases ha
    · rw[e]at ha;injection ha with ha;injection ha with ha;omega
   exact((((Kp.refl _ h).add (Nat.le_refl _) _).add (Nat.le_succ _) _).get o this)
 have lp: ∀(d q:Nat) (y:Hp),q+d=xs.length→Know h0 y (ob g1.nx (.cells [.slice none 0 0,.int .i64 0,.slice none 0 0] 24 .fix)::ob h.nx (.cells [.slice (some ⟨oW,0,none⟩) W.length cw,.int .i64 (Int.ofNat top),.slice ar nr cr] 24 .fix)::L.set j (ob oW (.cells (iv (putAt W top ((8*(xs.length:Int)+k)::xs.take q))) 3 m)))→IntsAt y a2 n2 xs→I84_0 O (fun v h'=>v= .tuple #[.agg #[.slice (some ⟨oW,0,none⟩) W.length cw,.int .i64 (Int.ofNat (top+1+xs.length)),.slice ar nr cr],.int .i64 (2*(top:Int))]∧Know h0 h' (L.set j (ob oW (.cells (iv (layP W top k xs)) 3 m)))) (some ⟨oW,0,none⟩) W.length cw (Int.ofNat top) ar nr cr k a2 n2 c2 h.nx 0 g1.nx 0 (Int.ofNat top) (Int.ofNat q) y:=by
  intro d
  induction d with
  |zero=>
   intro q y hq S X
   refine I84_0.of _ _ _ _ _ _ _ _ _ _ _ _ _ _ _ _ _ ?_
   unfold T84_0
   refine vcond_f (by rw[ltI_nat];exact blt_f (by omega)) ?_
   have e2:wrapF .i64 (wrapF .i64 (Int.ofNat top+1)+Int.ofNat n2)=Int.ofNat (top+1+xs.length):=by
    rw[wrap_succ (by omega),hn2]
    rw[wrap64 (by show _≤((top+1:Nat):Int)+(xs.length:Int);omega) (by show((top+1:Nat):Int)+(xs.length:Int)<_;omega)]
    rfl
   rw[e2]
   refine vreq_t (S.cw 1 rfl (by decide) rfl rfl) ?_
   intro g114
   have S:Know h0 g114 (_::_::_):=S.wr 1 rfl (by decide) rfl rfl
   refine⟨_,_,_,_,_,_,_,S.rd 1 rfl rfl rfl,vreq_t (S.cw 0 rfl (by decide) rfl rfl) ?_⟩
   intro g122
   have S:Know h0 g122 (_::_::_):=S.wr 0 rfl (by decide) rfl rfl
   refine⟨_,_,_,_,_,_,_,S.rd 0 rfl rfl rfl,?_,?_⟩
   · rw[dbl64 (n:=W.length) (by omega) lW]
   · have:xs.take q=xs:=List.take_of_length_le (by omega)
     rw[this]at S
     exact S.sub _ ((List.sublist_cons_self ..).trans (List.sublist_cons_self ..))
  |succ d ih=>
   intro q y hq S X
   refine I84_0.of _ _ _ _ _ _ _ _ _ _ _ _ _ _ _ _ _ ?_
   unfold T84_0
   refine vcond_t (by rw[ltI_nat];exact blt_t (by omega)) ?_
   intro g101
   have S:Know h0 g101 (_::_::_):=S.rsv 12
   have hq':q<xs.length:=by omega
   have lset:(L.set j (ob oW (.cells (iv (putAt W top ((8*(xs.length:Int)+k)::xs.take q))) 3 m)))[j]? =some (ob oW (.cells (iv (putAt W top ((8*(xs.length:Int)+k)::xs.take q))) 3 m)):=List.getElem?_set_self lj
   haveI:Ft y g101:=⟨fun _ _=>rfl,Nat.le_add_right ..⟩
   refine⟨_,_,_,S.rd 1 rfl rfl rfl,isNat_i (X.rd (k:=q) hq' ?_)⟩
   have e3:wrapF .i64 (wrapF .i64 (Int.ofNat top+1)+Int.ofNat q)=Int.ofNat (top+1+q):=by
    rw[wrap_succ (by omega)]
    rw[wrap64 (by show _≤((top+1:Nat):Int)+(q:Int);omega) (by show((top+1:Nat):Int)+(q:Int)<_;omega)]
    rfl
   rw[e3]
   have hb2:Nat.ble (0+(top+1+q)*1+ [Value.int .i64 xs[q]].length) (iv (putAt W top ((8*(xs.length:Int)+k)::xs.take q))).length=true:=ble_t (by rw[List.length_map,putAt_length];show 0+(top+1+q)*1+1≤_;omega)
   refine isNat_i (isAddr_i (vreq_t (blt_t (by omega)) (vreq_t (S.cwg (j+2) lset (fun _ h=>by cases h) hc.ro hb2 rfl) ?_)))
   intro g112 g113
   have S':Know h0 g113 (_::_::(L.set j _).set j _):=S.wrg (j+2) lset (fun _ h=>by cases h) hc.ro hb2 rfl
   have e4:putAt (iv (putAt W top ((8*(xs.length:Int)+k)::xs.take q))) (0+(top+1+q)*1) [Value.int .i64 xs[q]]=iv (putAt W top ((8*(xs.length:Int)+k)::xs.take (q+1))):=by
    rw[show [Value.int .i64 xs[q]]=iv [xs[q]] from rfl,←iv_putAt]
    have e5:0+(top+1+q)*1=top+((8*(xs.length:Int)+k)::xs.take q).length:=by rw[List.length_cons,List.length_take];omega
    rw[e5,putAt_snoc' (by rw[List.length_cons,List.length_take];omega),List.take_add_one,List.getElem?_eq_getElem hq']
    rfl
   rw[e4,List.set_set]at S'
   rw[wrap_succ (by omega)]
   have hne: ∀o off,a2=some ⟨o,off,none⟩→g113.get o=g101.get o:=fun o off ha=>wr_get_ne _ _ _ _ (hx o off ha)
   exact ih (q+1) g113 (by omega) S' (SlAt.keep (X.to g101) hne (Nat.le_of_eq (nx_wr ..).symm) (fun _ _ h=>h))
 exact lp xs.length 0 g10 (by omega) (by rw[List.take_zero];exact S10) X10
end
def slr (a:Option Addr)(n c:Nat)(xs:List Int):Rs:=⟨fun o=> ∃off,a=some ⟨o,off,none⟩,fun h=>SI h a n c xs⟩
theorem slr.loc (a:Option Addr)(n c:Nat)(xs:List Int):(slr a n c xs).Loc:=fun _ _ hn h s=>s.upd (fun o off ha=>h o ⟨off,ha⟩) hn
theorem SI.accE {h:Hp}{base:Nat}{a:Option Addr}{n c:Nat}{W:List Int}(s:AccE h base 3 1 a n c (iv W))(hl:W.length<1000000):SI h a n c W:=by
 rcases s with s|⟨h1,h2,h3,o,h4,h5,h6,e2,m,h7⟩
 · exact SI.acc s (by omega)
 · have hx:W=[]:=by
    cases W with
    |nil=>rfl
    |cons x xs=>cases h1
   subst hx h2 h3 h4
   exact SI.fix ⟨rfl,.inr ⟨o,0,_,_,_,rfl,h6,h7,by simp,fun i hi=>by simp at hi⟩⟩ (Nat.le_refl _) (by decide) (fun h=>by cases h)
theorem AccE.off {h:Hp}{base:Nat}{e:TypeId}{esz:Nat}{a:Option Addr}{n c:Nat}{xs:List Value}(s:AccE h base e esz a n c xs){o off:Nat}(ha:a=some ⟨o,off,none⟩):off=0:=by
 rcases s with (⟨h1,_⟩|⟨q,h1,_⟩)|⟨_,_,_,q,h1,_⟩
 · rw[h1]at ha;cases ha
 · rw[h1]at ha;injection ha with ha;injection ha with _ ha;exact ha.symm
 · rw[h1]at ha;injection ha with ha;injection ha with _ ha;exact ha.symm
theorem Know.accSlr {h0 g:Hp}{L:List Rs}(S:Know h0 g L)(i:Nat){lo:Nat}{a:Option Addr}{n c:Nat}{xs:List Int}(hi:L[i]? =some (acc lo 3 1 a n c (iv xs)))(hl:xs.length<1000000):Know h0 g (L.set i (slr a n c xs)):=by
 have A:AccE g lo 3 1 a n c (iv xs):=S.get i hi
 exact S.upd i hi (Ch.refl _ g) (slr.loc _ _ _ _) (SI.accE A hl) fun b ⟨off,hb⟩=> .inl (by have:=AccE.off A hb;subst this;exact hb)
theorem sliceV_blk {h:Hp}{t:TypeId}{a a':Option Addr}{n c n' c':Nat}{lo hi mx:Option Value}(e:sliceV Tryz.prog h t (.slice a n c) lo hi mx=some (.slice a' n' c')){o off:Nat}(ha:a'=some ⟨o,off,none⟩): ∃off0,a=some ⟨o,off0,none⟩:=by
 unfold sliceV at e
 split at e
 · rename_i hx
   injection hx with hx1 hx2 hx3
   subst hx1
   simp only[bind,Option.bind_eq_some_iff]at e
   obtain⟨_,_,_,_,r,_,e⟩:=e
   split at e
   · obtain⟨_,e⟩:=cond_some e
     injection e with e
     injection e with e
     rw[←e]at ha;cases ha
   · rename_i o1 off1
     cases hc:(Nat.beq _ unk&&mx.isNone)with
     |true=>
      rw[hc,cond_true]at e
      injection e with e
      injection e with e
      rw[←e]at ha;injection ha with ha;injection ha with ha _;subst ha;exact⟨_,rfl⟩
     |false=>
      rw[hc,cond_false]at e
      obtain⟨_,e⟩:=cond_some e
      injection e with e
      injection e with e
      rw[←e]at ha;injection ha with ha;injection ha with ha _;subst ha;exact⟨_,rfl⟩
   · cases e
 · rename_i hx
   cases hx
 · cases e
theorem acc_fix {h:Hp}{base:Nat}{a:Option Addr}{n c o:Nat}{xs ys:List Value}{e:TypeId}(A:Acc h base 3 1 a n c xs)(hg:h.get o=some (.cells ys e .fix)):a≠some ⟨o,0,none⟩:=by
 rcases A with ⟨h1,_⟩|⟨q,h1,_,_,_,_,h6⟩
 · rw[h1];intro h;cases h
 · rw[h1];intro h;injection h with h;injection h with h;subst h;rw[h6]at hg;injection hg with hg;injection hg with _ _ hg;cases hg
theorem RunQ.know {g:Hp}{W:List Int}{fr:Nat}{s:Mv}{rs ks:List Int}{v:Value}{h:Hp}(okg:g.Ok)(q:RunQ g W fr s rs ks v h): ∃oW lo ar nr cr ak nk ck ptr,v= .tuple #[.agg #[.slice (some ⟨oW,0,none⟩) W.length W.length,.int .i64 (Int.ofNat s.top),.slice ar nr cr],.slice ak nk ck,.pointer ptr]∧s.D.length=W.length∧g.nx≤lo∧Know g h [ob oW (.cells (iv s.D) 3 .fix),acc lo 3 1 ar nr cr (iv rs),acc lo 3 1 ak nk ck (iv ks)]:=by
 obtain⟨p,ao,no,co,ar',nr',cr',ak,nk,ck,rfl,P,pn,pf,m,Ar,Ak,d1,d2,d3,k2,ok2⟩:=q
 have:=P.tM
 have:=P.wM
 have hB:=P.B
 have:=P.oW
 have:=P.M
 have:=m.nx
 refine⟨p.oW,p.B,_,_,_,_,_,_,_,by rw[pn],by rw[m.lD,pn],by omega,⟨ok2,k2,fun r hr=> ?_,?_,okg⟩⟩
 · rcases List.mem_cons.1 hr with rfl|hr
   · exact⟨ob.loc _ _,m.D,fun b hb=>by cases hb;omega⟩
   · rcases List.mem_cons.1 hr with rfl|hr
     · exact⟨acc.loc _ _ _ _ _ _ _,.inl Ar,fun b hb=>by have:=Ar.lt hb;omega⟩
     · obtain rfl:=List.mem_singleton.1 hr
       exact⟨acc.loc _ _ _ _ _ _ _,.inl Ak,fun b hb=>by have:=Ak.lt hb;omega⟩
 · refine List.pairwise_cons.2 ⟨fun r hr b hb hrb=> ?_,List.pairwise_cons.2 ⟨fun r hr b hb hrb=> ?_,List.pairwise_cons.2 ⟨fun r hr=>(by cases hr),.nil⟩⟩⟩
   · cases hb
     rcases List.mem_cons.1 hr with rfl|hr
     · have:=Ar.lt hrb;omega
     · obtain rfl:=List.mem_singleton.1 hr
       have:=Ak.lt hrb;omega
   · obtain rfl:=List.mem_singleton.1 hr
     exact d3 b 0 0 hb hrb
section
variable {O:CallF}(hO:Oth O)
include hO
theorem ct64k {g:Hp}(ok:g.Ok){aw:Option Addr}{nw cw:Nat}{W:List Int}{tp:Nat}{ar:Option Addr}{nr cr:Nat}{R:List Int}(A:HA g aw nw cw W ar nr cr R)(lW:W.length≤200)(lR:R.length≤1000)(h1:1≤tp)(ht:tp≤W.length){all res:List Nat}(hall:cellsR W tp (tp+1) 1=some all){f:Nat}(hres:reachO W 1 f 0 (withP 1 R [])=some res)(hl: ∀p∈res,CellAt W p)(hfit:1+totalW W res≤W.length):
 Ret Tryz.prog O 64 [.agg #[.slice aw nw cw,.int .i64 (Int.ofNat tp),.slice ar nr cr]] g fun v h'=> ∃oD ac nc cc lo,v= .agg #[.slice (some ⟨oD,0,none⟩) W.length W.length,.int .i64 (Int.ofNat (1+totalW W res)),.slice ac nc cc]∧g.nx≤lo∧Know g h' [ob oD (.cells (iv (colD W 1 all res)) 3 .fix),acc lo 3 1 ac nc cc (iv (R.map (mvw W 1 res)))]:=by
 refine rk64 (hO:=hO _ _ _ (by decide)) (hh:= ?_) ..
 unfold T64
 intro g1 g2 g3
 have S:Know g g1 [_]:=(Know.nil ok).add _
 have S:Know g g2 [_,_]:=S.add _
 have S:Know g g3 [_,_]:=S.rsv 7
 have n1:g1.nx=g.nx+1:=rfl
 have n3:g3.nx=g.nx+9:=rfl
 have hnw:=A.sw.at_.1
 haveI:=S.ftg [g.nx]
 refine⟨_,_,_,_,_,_,_,S.rd 1 rfl rfl rfl,_,_,_,_,_,_,_,S.rd 1 rfl rfl rfl,_,_,_,S.rd 1 rfl rfl rfl,ct70 hO (g0:=g) (S.okg fun q hq=>by rw[List.mem_singleton.1 hq];omega) A.sw A.w (by omega) (fr:=1) (A.sr.at_.to (g3.grd [g.nx])) A.r (by omega) hres fun a n c h24 A24 k24=> ?_⟩
 intro g25
 have S:Know g g25 [_,_]:=S.callg k24
 have m25:=S.lo
 haveI:=S.ftg []
 have L25:IntsAt (g25.grd []) a n (res.map Int.ofNat):=SlAt.keep A24.ints (fun _ _ _=>rfl) (Nat.le_refl _) (fun _ _ h=>h)
 subst hnw
 obtain⟨oD,x,ac,nc,cc,h33,e33,rfl,⟨B,hB,AB⟩,hD,hoD,hgo,ok33,k33⟩:=ct69 hO (g0:=g) (g:=g25.grd []) (S.okg fun _ h=>by cases h) A.sw A.w (by omega) h1 ht A.sr.at_ A.r (by omega) L25 (Nat.le_refl 1) hall hl hfit (K:=fun oD x ac nc cc h=>x=Int.ofNat (1+totalW W res)∧(∃B,g25.nx≤B∧AccI 3 h B ac nc cc (R.map (mvw W 1 res)))∧h.get oD=some (.cells ((colD W 1 all res).map (Value.int .i64)) 3 .fix)∧oD<h.nx∧g25.nx≤oD∧h.Ok∧Kp g25.nx (g25.grd []) h) (fun oD ac nc cc h _ hB hD hx hg hok hkp=>⟨rfl,hB,hD,hx,hg,hok,hkp⟩)
 refine⟨_,_,_,_,_,_,_,_,e33,?_⟩
 intro g34
 have T:Know (g25.grd []) h33 [ob oD (.cells (iv (colD W 1 all res)) 3 .fix),acc B 3 1 ac nc cc (iv (R.map (mvw W 1 res)))]:=by
  refine⟨ok33,k33,fun r hr=> ?_,?_,S.okg fun _ h=>by cases h⟩
  · rcases List.mem_cons.1 hr with rfl|hr
    · exact⟨ob.loc _ _,hD,fun b hb=>by cases hb;exact⟨hgo,hoD⟩⟩
    · obtain rfl:=List.mem_singleton.1 hr
      exact⟨acc.loc _ _ _ _ _ _ _,.inl AB,fun b hb=>by have:=AB.lt hb;exact⟨by show g25.nx≤b;omega,this.2⟩⟩
  · refine List.pairwise_cons.2 ⟨fun r hr b hb hrb=> ?_,List.pairwise_cons.2 ⟨fun r hr=>(by cases hr),.nil⟩⟩
    cases hb
    obtain rfl:=List.mem_singleton.1 hr
    exact acc_fix AB hD hrb
 have S:Know g g34 [_,_,_,_]:=S.compg T
 refine vreq_t (S.cwg 2 rfl (fun _ h=>by cases h) (by decide) rfl rfl) ?_
 intro g35 g36
 have S:Know g g36 [_,_,_,_]:=S.wrg 2 rfl (fun _ h=>by cases h) (by decide) rfl rfl
 exact⟨_,_,_,_,_,_,_,S.rd 2 rfl rfl rfl,oD,_,_,_,B,rfl,by omega,S.sel [0,1] (by decide) rfl⟩
structure Room where
 W:List Int
 top:Nat
 R:List Int
 l:List Int
 is:Bool
def roomC (W:List Int)(top:Nat)(R l:List Int)(need:Nat)(s:Mv):Room:=if top+need≤W.length then ⟨W,top,R,l,true⟩else ⟨s.D,s.top,R.map (mvw W 1 s.ord),l.map (mvw W 1 s.ord),decide (s.top+need≤W.length)⟩
def QRoom (g:Hp)(r:Room):Value→Hp→Prop:=fun v h'=> ∃oW cw m ar nr cr al nl cl,v= .tuple #[.agg #[.slice (some ⟨oW,0,none⟩) r.W.length cw,.int .i64 (Int.ofNat r.top),.slice ar nr cr],.slice al nl cl,.bool r.is]∧CapOk m cw r.W.length∧Know g h' [ob oW (.cells (iv r.W) 3 m),slr ar nr cr r.R]∧IntsAt h' al nl r.l∧ ∀o off,al=some ⟨o,off,none⟩→o≠oW
theorem ct80 {g:Hp}(ok:g.Ok){aw:Option Addr}{nw cw:Nat}{W:List Int}{tp:Nat}{ar:Option Addr}{nr cr:Nat}{R:List Int}(A:HA g aw nw cw W ar nr cr R)(hW:W≠ [])(lW:W.length≤1000)(lR:R.length≤1000)(ht:tp≤W.length){a2:Option Addr}{n2 c2:Nat}{l:List Int}(X:IntsAt g a2 n2 l)(hX: ∀x∈l,In64 x)(lX:l.length≤1000){need:Nat}(hneed:need≤1000000){s:Mv}(hrun: ¬tp+need≤W.length→runO W 1 R l=some (s,R.map (mvw W 1 s.ord),l.map (mvw W 1 s.ord))∧s.top≤1000):
 Ret Tryz.prog O 80 [.agg #[.slice aw nw cw,.int .i64 (Int.ofNat tp),.slice ar nr cr],.int .i64 (Int.ofNat need),.slice a2 n2 c2] g (QRoom g (roomC W tp R l need s)):=by
 refine rk80 (hO:=hO _ _ _ (by decide)) (hh:= ?_) ..
 unfold T80
 intro g1 g2
 have S:Know g g1 [_]:=(Know.nil ok).add _
 have S:Know g g2 [_,_]:=S.add _
 have n1:g1.nx=g.nx+1:=rfl
 have n2':g2.nx=g.nx+2:=rfl
 have hnw:=A.sw.at_.1
 have esum: ∀x:Nat,x≤1000→wrapF .i64 (Int.ofNat x+Int.ofNat need)=Int.ofNat (x+need):=fun x hx=>wrap64 (n:=((x+need:Nat):Int)) (by omega) (by omega)
 haveI:=S.ft
 refine⟨_,S.rd 1 rfl rfl rfl,_,_,_,S.rd 1 rfl rfl rfl,?_⟩
 rw[esum tp (by omega),ltI_nat]
 unfold roomC
 by_cases hfit:tp+need≤W.length
 · rw[if_pos hfit]
   refine vcond_t (by rw[blt_f (by omega)];rfl) ?_
   obtain⟨v,h21,e21,oW,ar',nr',cr',lo,rfl,hlo,T⟩:=ct87 hO S.ok (A.to g2) hW (by omega) (by omega) (top:=Int.ofNat tp)
   refine⟨_,_,_,_,_,_,_,S.rd 1 rfl rfl rfl,_,_,_,_,_,_,_,_,e21,?_⟩
   have S:Know g h21 [_,_,_,_]:=S.comp T
   refine vreq_t (S.cw 2 rfl (by decide) rfl rfl) ?_
   intro g22
   have S:Know g g22 [_,_,_,_]:=S.wr 2 rfl (by decide) rfl rfl
   have S:Know g g22 [_,_,_,_]:=Know.accSlr S 1 rfl (by omega)
   haveI:=S.ft
   refine⟨_,_,_,_,_,_,_,S.rd 2 rfl rfl rfl,_,_,.grow,_,_,_,_,_,_,rfl,.inr ⟨rfl,rfl⟩,S.sel [0,1] (by decide) rfl,X.to g22,fun o off ha=> ?_⟩
   have h1:o<g.nx:=by
    rcases X.2 with ⟨_,e⟩|⟨b,off',_,_,_,e,h2,_⟩
    · rw[e]at ha;cases ha
    · rw[e]at ha;injection ha with ha;injection ha with ha;omega
   have:=(S.orng 0 rfl).1
   omega
 · rw[if_neg hfit]
   obtain⟨hrun,hst⟩:=hrun hfit
   refine vcond_f (by rw[blt_t (by omega)];rfl) ?_
   obtain⟨v,h48,e48,q⟩:=ct62 hO S.ok (A.sw.to g2) A.w (by omega) (A.sr.at_.to g2) A.r (by omega) (top:=Int.ofNat tp) (cr:=cr) (X.to g2) hX (by omega) (cm:=c2) (fr:=1) (by have:=List.length_pos_iff.2 hW;omega) hrun
   obtain⟨oW,lo,ar',nr',cr',ak,nk,ck,ptr,rfl,lD,hlo,T⟩:=q.know S.ok
   refine⟨_,_,_,_,_,_,_,S.rd 1 rfl rfl rfl,_,_,_,_,_,_,_,_,_,_,_,_,e48,?_⟩
   have S:Know g h48 [_,_,_,_,_]:=S.comp T
   refine vreq_t (S.cw 4 rfl (by decide) rfl rfl) ?_
   intro g49 g50
   have S:Know g g49 [_,_,_,_,_]:=S.wr 4 rfl (by decide) rfl rfl
   have S:Know g g50 [_,_,_,_,_]:=S.rsv 13
   have hgr: ∀q∈ [g.nx,g.nx],q≠g1.nx:=fun q hq=>by have:q=g.nx:=(by simpa using hq);omega
   refine⟨_,_,_,_,_,_,_,S.rd 4 rfl rfl rfl,_,S.rd 4 rfl rfl rfl,_,_,_,S.rd 4 rfl rfl rfl,vreq_t (S.cwg 3 rfl hgr (by decide) rfl rfl) ?_⟩
   intro g62 g63
   have S:Know g g63 [_,_,_,_,_]:=S.wrg 3 rfl hgr (by decide) rfl rfl
   have S:Know g g63 [_,_,_,_,_]:=Know.accSlr S 1 rfl (by rw[List.length_map];omega)
   have hak:AccE g63 lo 3 1 ak nk ck (iv (l.map (mvw W 1 s.ord))):=S.get 2 rfl
   refine⟨_,_,_,_,_,_,_,S.rd 3 rfl rfl rfl,oW,s.D.length,.fix,ar',nr',cr',ak,nk,ck,?_,.inl ⟨rfl,rfl⟩,S.sel [0,1] (by decide) rfl,AccE.ints hak,fun o off ha=> ?_⟩
   · show Value.tuple #[.agg #[.slice (some ⟨oW,0,none⟩) W.length W.length,_,_],_,_]=_
     rw[esum s.top hst,ltI_nat]
     have e1:(!(Nat.blt W.length (s.top+need)))=decide (s.top+need≤W.length):=by
      by_cases h:s.top+need≤W.length
      · rw[blt_f (by omega),decide_eq_true h];rfl
      · rw[blt_t (by omega),decide_eq_false h];rfl
     rw[e1]
     show _=Value.tuple #[.agg #[.slice (some ⟨oW,0,none⟩) s.D.length s.D.length,_,_],_,_]
     rw[lD]
   · have:=AccE.off hak ha
     subst this
     intro hh
     exact S.sep 2 0 rfl rfl (by decide) o ha hh
end
theorem Know.accLow {h0 g:Hp}{L:List Rs}(S:Know h0 g L)(i:Nat){lo:Nat}{e:TypeId}{esz:Nat}{a:Option Addr}{n c:Nat}{xs:List Value}(hi:L[i]? =some (acc lo e esz a n c xs)):Know h0 g (L.set i (acc h0.nx e esz a n c xs)):=by
 have A:AccE g lo e esz a n c xs:=S.get i hi
 refine S.upd i hi (Ch.refl _ g) (acc.loc _ _ _ _ _ _ _) ?_ fun b hb=> .inl hb
 rcases A with (A|⟨o,h1,h2,h3,h4,h5,h6⟩)|⟨h1,h2,h3,o,h4,h5,h6,h7⟩
 · exact .inl (.inl A)
 · exact .inl (.inr ⟨o,h1,h2,h3,(S.arng i hi h1).1,h5,h6⟩)
 · exact .inr ⟨h1,h2,h3,o,h4,(S.arng i hi h4).1,h6,h7⟩
section
variable {O:CallF}(hO:Oth O)
include hO
theorem ct83 {g:Hp}(ok:g.Ok){aw:Option Addr}{nw cw:Nat}{W:List Int}{tp:Nat}{ar:Option Addr}{nr cr:Nat}{R:List Int}(A:HA g aw nw cw W ar nr cr R)(hW:W≠ [])(lW:W.length≤200)(lR:R.length≤500)(h1:1≤tp)(ht:tp≤W.length){a2:Option Addr}{n2 c2:Nat}{l:List Int}(X:IntsAt g a2 n2 l)(hX: ∀x∈l,In64 x)(lX:l.length≤500){need:Nat}(hneed:need≤1000000){s:Mv}{all:List Nat}{f:Nat}(hcol: ¬tp+need≤W.length→cellsR W tp (tp+1) 1=some all∧reachO W 1 f 0 (withP 1 (R++l) [])=some s.ord∧colD W 1 all s.ord=s.D∧1+totalW W s.ord=s.top∧(∀p∈s.ord,CellAt W p)∧1+totalW W s.ord≤W.length):
 Ret Tryz.prog O 83 [.agg #[.slice aw nw cw,.int .i64 (Int.ofNat tp),.slice ar nr cr],.slice a2 n2 c2,.int .i64 (Int.ofNat need)] g (QRoom g (roomC W tp R l need s)):=by
 refine rk83 (hO:=hO _ _ _ (by decide)) (hh:= ?_) ..
 unfold T83
 intro g1 g2
 have S:Know g g1 [_]:=(Know.nil ok).add _
 have S:Know g g2 [_,_]:=S.add _
 have n1:g1.nx=g.nx+1:=rfl
 have n2':g2.nx=g.nx+2:=rfl
 have hnw:=A.sw.at_.1
 have esum: ∀x:Nat,x≤1000→wrapF .i64 (Int.ofNat x+Int.ofNat need)=Int.ofNat (x+need):=fun x hx=>wrap64 (n:=((x+need:Nat):Int)) (by omega) (by omega)
 haveI:=S.ft
 obtain⟨v,h17,e17,oW,ar',nr',cr',lo,rfl,hlo,T⟩:=ct91 hO S.ok (A.to g2) hW (by omega) (by omega) (top:=Int.ofNat tp)
 refine⟨_,_,_,_,_,_,_,S.rd 1 rfl rfl rfl,_,_,_,_,_,_,_,_,e17,?_⟩
 have S:Know g h17 [_,_,_,_]:=S.comp T
 refine vreq_t (S.cw 3 rfl (by decide) rfl rfl) ?_
 intro g18
 have S:Know g g18 [_,_,_,_]:=S.wr 3 rfl (by decide) rfl rfl
 refine⟨_,S.rd 3 rfl rfl rfl,_,_,_,S.rd 3 rfl rfl rfl,?_⟩
 rw[esum tp (by omega),ltI_nat]
 unfold roomC
 haveI:=S.ft
 by_cases hfit:tp+need≤W.length
 · rw[if_pos hfit]
   refine vcond_t (by rw[blt_f (by omega)];rfl) ?_
   refine⟨_,_,_,_,_,_,_,S.rd 3 rfl rfl rfl,vreq_t (S.cw 2 rfl (by decide) rfl rfl) ?_⟩
   intro g30
   have S:Know g g30 [_,_,_,_]:=S.wr 2 rfl (by decide) rfl rfl
   have S:Know g g30 [_,_,_,_]:=Know.accSlr S 1 rfl (by omega)
   haveI:=S.ft
   refine⟨_,_,_,_,_,_,_,S.rd 2 rfl rfl rfl,_,_,.grow,_,_,_,_,_,_,rfl,.inr ⟨rfl,rfl⟩,S.sel [0,1] (by decide) rfl,X.to g30,fun o off ha=> ?_⟩
   have h1:o<g.nx:=by
    rcases X.2 with ⟨_,e⟩|⟨b,off',_,_,_,e,h2,_⟩
    · rw[e]at ha;cases ha
    · rw[e]at ha;injection ha with ha;injection ha with ha;omega
   have:=(S.orng 0 rfl).1
   omega
 · rw[if_neg hfit]
   obtain⟨c1,c2',c3,c4,c5,c6⟩:=hcol hfit
   refine vcond_f (by rw[blt_t (by omega)];rfl) ?_
   have S:Know g g18 [_,_,_,_]:=Know.accLow S 1 rfl
   have hR':AccE g18 g.nx 3 1 ar' nr' cr' (iv R):=S.get 1 rfl
   have hnr:nr'=R.length:=(AccE.ints hR').1
   obtain⟨a44,n45,c46,h47,e47,hn45,S47⟩:=S.app 1 rfl (Nat.le_refl _) S.lo AppT22 ⟨_,_,_,rfl⟩ (c:=cr') (x:= .slice a2 n2 c2) (IntsAt.src (X.to g18)) (by rw[List.length_map];have:=X.1;omega) (iv_one l) (by have:=X.1;omega) (by have:=X.1;unfold big;omega)
   refine⟨_,_,_,S.rd 3 rfl rfl rfl,_,_,_,S.rd 3 rfl rfl rfl,_,_,_,_,e47,?_⟩
   rw[←List.map_append]at S47
   have S:Know g h47 [_,_,_,_]:=S47
   refine vreq_t (S.cw 3 rfl (by decide) rfl rfl) ?_
   intro g48
   have S:Know g g48 [_,_,_,_]:=S.wr 3 rfl (by decide) rfl rfl
   have A48:HA g48 (some ⟨oW,0,none⟩) W.length unk W a44 n45 c46 (R++l):=⟨SI.own (S.obj 0 rfl) (S.orng 0 rfl).2 (.inr ⟨rfl,rfl⟩) (by omega),SI.accE (S.get 1 rfl) (by rw[List.length_append];omega),A.w,fun x hx=>(List.mem_append.1 hx).elim (A.r x) (hX x)⟩
   obtain⟨v,h63,e63,oD,ac,nc,cc,lo2,rfl,hlo2,T⟩:=ct64k hO S.ok A48 lW (by rw[List.length_append];omega) h1 ht c1 c2' c5 c6
   refine⟨_,_,_,_,_,_,_,S.rd 3 rfl rfl rfl,_,_,_,_,_,_,_,_,e63,?_⟩
   have S:Know g h63 [_,_,_,_,_,_]:=S.comp T
   refine vreq_t (S.cw 5 rfl (by decide) rfl rfl) ?_
   intro g64
   have S:Know g g64 [_,_,_,_,_,_]:=S.wr 5 rfl (by decide) rfl rfl
   have lm:((R++l).map (mvw W 1 s.ord)).length=R.length+l.length:=by rw[List.length_map,List.length_append]
   have s64:SI g64 ac nc cc ((R++l).map (mvw W 1 s.ord)):=SI.accE (S.get 1 rfl) (by omega)
   have hnc:=s64.at_.1
   obtain⟨a68,c70,es,sp⟩:=s64.part (l:=R.length) (r:=R.length+l.length) (by omega) (by omega) (lo:=some (.int .i64 (Int.ofNat nr'))) (hi:=none) fun vis hv=>by rw[hnr,show R.length+l.length=nc by omega];exact bounds_lo (by omega)
   refine⟨_,_,_,S.rd 5 rfl rfl rfl,_,_,_,es,?_⟩
   have elR:(((R++l).map (mvw W 1 s.ord)).drop R.length).take (R.length+l.length-R.length)=l.map (mvw W 1 s.ord):=by
    rw[List.map_append,List.drop_left' (by rw[List.length_map]),List.take_of_length_le (by rw[List.length_map];omega)]
   have eR:(((R++l).map (mvw W 1 s.ord)).drop 0).take (R.length-0)=R.map (mvw W 1 s.ord):=by
    rw[List.drop_zero,List.map_append,List.take_left' (by rw[List.length_map];omega)]
   rw[elR]at sp
   have S:Know g g64 [_,_,_,_,_,_,_]:=S.accNil g.nx 3 1
   obtain⟨a71,n72,c73,h74,e74,hn72,S⟩:=S.app 0 rfl (Nat.le_refl _) S.lo AppT22 ⟨_,_,_,rfl⟩ (c:=0) (x:= .slice a68 (R.length+l.length-R.length) c70) (IntsAt.src sp.at_) (by rw[List.length_map,List.length_map];omega) (iv_one _) (by omega) (by unfold big;omega)
   have S:Know g h74 [_,_,_,_,_,_,_]:=S
   refine⟨_,_,_,_,e74,_,_,_,S.rd 6 rfl rfl rfl,?_⟩
   have s74:SI h74 ac nc cc ((R++l).map (mvw W 1 s.ord)):=SI.accE (S.get 2 rfl) (by omega)
   obtain⟨a78,c80,es2,sp2⟩:=s74.part (l:=0) (r:=R.length) (by omega) (by omega) (lo:=none) (hi:=some (.int .i64 (Int.ofNat nr'))) fun vis hv=>by rw[hnr];exact bounds_hi (by omega)
   rw[eR]at sp2
   refine⟨_,_,_,es2,?_⟩
   have A74:AccE h74 lo2 3 1 ac nc cc _:=S.get 2 rfl
   have S:Know g h74 [_,_,slr a78 (R.length-0) c80 (R.map (mvw W 1 s.ord)),_,_,_,_]:=S.upd 2 rfl (Ch.refl _ h74) (slr.loc _ _ _ _) sp2 fun b ⟨off,hb⟩=> .inl (by
    obtain⟨off0,e0⟩:=sliceV_blk es2 hb
    have:=AccE.off A74 e0
    subst this;exact e0)
   refine vreq_t (S.cw 6 rfl (by decide) rfl rfl) ?_
   intro g81 g82
   have S:Know g g81 [_,_,_,_,_,_,_]:=S.wr 6 rfl (by decide) rfl rfl
   have S:Know g g82 [_,_,_,_,_,_,_]:=S.rsv 13
   have hgr: ∀q∈ [g.nx,g.nx],q≠g1.nx:=fun q hq=>by have:q=g.nx:=(by simpa using hq);omega
   refine⟨_,_,_,_,_,_,_,S.rd 6 rfl rfl rfl,_,S.rd 6 rfl rfl rfl,_,_,_,S.rd 6 rfl rfl rfl,vreq_t (S.cwg 5 rfl hgr (by decide) rfl rfl) ?_⟩
   intro g94 g95
   have S:Know g g95 [_,_,_,_,_,_,_]:=S.wrg 5 rfl hgr (by decide) rfl rfl
   have S':=S
   have lD:s.D.length=W.length:=by rw[←c3,colD_length]
   have hal:AccE g95 g.nx 3 1 a71 n72 c73 (iv (l.map (mvw W 1 s.ord))):=S.get 0 rfl
   have S:Know g g95 [ob oD (.cells (iv s.D) 3 .fix),slr a78 (R.length-0) c80 (R.map (mvw W 1 s.ord)),acc g.nx 3 1 a71 n72 c73 (iv (l.map (mvw W 1 s.ord)))]:=by
    rw[←c3];exact S.sel [1,2,0] (by decide) rfl
   refine⟨_,_,_,_,_,_,_,S'.rd 5 rfl rfl rfl,oD,s.D.length,.fix,a78,R.length-0,c80,a71,n72,c73,?_,.inl ⟨rfl,rfl⟩,S.sel [0,1] (by decide) rfl,AccE.ints hal,fun o off ha=> ?_⟩
   · show Value.tuple #[.agg #[.slice (some ⟨oD,0,none⟩) W.length W.length,.int .i64 (Int.ofNat (1+totalW W s.ord)),_],_,_]=_
     rw[c4,esum s.top (by omega),ltI_nat]
     have e1:(!(Nat.blt W.length (s.top+need)))=decide (s.top+need≤W.length):=by
      by_cases h:s.top+need≤W.length
      · rw[blt_f (by omega),decide_eq_true h];rfl
      · rw[blt_t (by omega),decide_eq_false h];rfl
     rw[e1]
     show _=Value.tuple #[.agg #[.slice (some ⟨oD,0,none⟩) s.D.length s.D.length,_,_],_,_]
     rw[lD]
   · have:=AccE.off hal ha
     subst this
     intro hh
     exact S.sep 2 0 rfl rfl (by decide) o ha hh
end
theorem Know.nilS {h0 g:Hp}{L:List Rs}(S:Know h0 g L):Know h0 g (slr none 0 0 []::L):=
 S.push (Kp.refl _ g) (slr.loc _ _ _ _) (SI.fix (SlAt.nil ..) (Nat.le_refl _) (by decide) (fun _=>rfl)) fun b ⟨_,hb⟩=>by cases hb
theorem Know.obSlr {h0 g:Hp}{L:List Rs}(S:Know h0 g L)(i:Nat){o cw:Nat}{m:Md}{W:List Int}(hi:L[i]? =some (ob o (.cells (iv W) 3 m)))(c:CapOk m cw W.length)(hl:W.length<1000000):Know h0 g (L.set i (slr (some ⟨o,0,none⟩) W.length cw W)):=
 S.upd i hi (Ch.refl _ g) (slr.loc _ _ _ _) (SI.own (S.obj i hi) (S.orng i hi).2 c hl) fun b ⟨off,hb⟩=> .inl (by injection hb with hb;injection hb with hb;exact hb.symm)
def HK (g:Hp)(o:Out)(u:Value)(h:Hp):Prop:= ∃aw nw cw ar nr cr,u= .agg #[.slice aw nw cw,.int .i64 (Int.ofNat o.top),.slice ar nr cr]∧Know g h [slr aw nw cw o.W,slr ar nr cr o.R]
theorem HK.zero {h0 g:Hp}{L:List Rs}(S:Know h0 g L)(e:Int):HK h0 ⟨[],0,[],e⟩ (.agg #[.slice none 0 0,.int .i64 0,.slice none 0 0]) g:=
 ⟨_,_,_,_,_,_,rfl,(Know.nilS (Know.nilS S)).sel [0,1] (by decide) rfl⟩
def QA (g:Hp)(o:Out)(r:Int):Value→Hp→Prop:=fun v h=> ∃u,v= .tuple #[u,.int .i64 r,.int .i64 o.e]∧HK g o u h
end Go.Proofs.YtngcjpkccnfjiaaGreatDoor
