/- CollectValues: its law. -/
import Derived.Test.YtngcjpkccnfjiaaGreatDoorYH
import Derived.Test.YtngcjpkccnfjiaaGreatDoorYD
import Derived.Lib.LaidTab
import Derived.WalkKit
import Derived.ProofKit
import Derived.OpenShut
import Derived.Deep.DeepHandedRow
import Derived.Test.YtngcjpkccnfjiaaGreatDoorYF
import Derived.Test.YtngcjpkccnfjiaaGreatDoorCards
import Derived.Test.YtngcjpkccnfjiaaGreatDoorTie
namespace Go.Proofs.YtngcjpkccnfjiaaGreatDoor
set_option maxRecDepth 100000
open Go Go.Ev
mutual
theorem eqF_refl: ∀(v:Vl),eqF v v=true
 | .mk k n t ps=>by
   simp only[eqF]
   rw[eqI_t rfl,eqI_t rfl,sEq_refl,Nat.beq_refl,eqL_refl ps];rfl
theorem eqL_refl: ∀(ps:List Vl),eqL ps ps=true
 | []=>by simp only[eqL]
 |p::ps=>by simp only[eqL];rw[eqF_refl p,eqL_refl ps];rfl
end
theorem buildO_len {c:Option (List Nat)}{W:List Int}{top:Nat}{R:List Int}{v:Vl}{s:Mv}(hW:W.length<1000000)(hR:R.length<1000000)(hs: ∀l,c=some l→s.D.length=W.length):(buildO c W top R v s).1.W.length<1000000∧(buildO c W top R v s).1.R.length<1000000:=by
 cases c with
 |none=>exact⟨by show 0<_;decide,by show 0<_;decide⟩
 |some l=>
  have hs:=hs l rfl
  rw[buildO_some]
  by_cases h1:validF v=true
  · rw[if_pos h1]
    by_cases h2:deepF v=true
    · rw[if_pos h2];exact⟨by show 0<_;decide,by show 0<_;decide⟩
    · rw[if_neg h2]
      by_cases h3:(roomC W top R [] (needF v) s).is=true
      · rw[if_pos h3]
        have hv:shapedF v=true:=by unfold validF at h1;rw[Bool.and_eq_true]at h1;exact h1.2
        have hrW:(roomC W top R [] (needF v) s).W.length<1000000∧(roomC W top R [] (needF v) s).R.length<1000000:=by
         unfold roomC
         split
         · exact⟨hW,hR⟩
         · exact⟨by show s.D.length<_;omega,by show(R.map _).length<_;rw[List.length_map];exact hR⟩
        refine⟨?_,hrW.2⟩
        show(buildF v _ _).1.length<_
        rw[(buildF_spec v _ _ hv).1];exact hrW.1
      · rw[if_neg h3];exact⟨by show 0<_;decide,by show 0<_;decide⟩
  · rw[if_neg h1];exact⟨by show 0<_;decide,by show 0<_;decide⟩
theorem few_zV:Few zV:=⟨1,1,by omega,by omega,by simp[weighF,weighL]⟩
theorem readO_few (W:List Int)(top:Int)(R:List Int)(w:Int):Few (readO (checkP W top R) W w).1:=by
 cases hc:checkP W top R with
 |none=>exact few_zV
 |some l=>
  unfold readO
  by_cases h:wordR l w=true
  · simp only[if_pos h]
    by_cases he:(rdF W 8 w 200).2.2=0
    · exact(Good.valid (rd_good (Wk.of hc).1 8 w 200 h (by omega)) he (by omega) (by omega) (by omega)).2.1
    · rw[rdF_zV he];exact few_zV
  · simp only[if_neg h];exact few_zV
theorem build_run {W:List Int}{top:Int}{R:List Int}: ∃s f,∀l,checkP W top R=some l→(runO W 1 R []=some (s,R.map (mvw W 1 s.ord),([]:List Int).map (mvw W 1 s.ord))∧s.top≤1000∧s.D.length=W.length)∧reachO W 1 f 0 (withP 1 (R++[]) [])=some s.ord∧colD W 1 l s.ord=s.D∧1+totalW W s.ord=s.top∧(∀p∈s.ord,CellAt W p)∧1+totalW W s.ord≤W.length:=by
 obtain⟨s,f,h⟩:=alloc_run (W:=W) (top:=top) (R:=R) 3 []
 exact⟨s,f,fun l hl=>h l hl (by unfold fieldsR;simp)⟩
theorem nice_of {v:Vl}(h:smallF v=true):Nice v:=by
 unfold smallF at h
 rw[Bool.and_eq_true]at h
 have h1: ¬weighF v 260 12<0:=not_lt_of_f (by simpa using h.1)
 exact⟨⟨260,12,by omega,by omega,by omega⟩,h.2⟩
theorem law5 {h:Hp}{aw:Option Addr}{nw cw:Nat}{W:List Int}{top:Int}{ar:Option Addr}{nr cr:Nat}{R:List Int}(ok:h.Ok)(ht:Tb h)(A:HA h aw nw cw W ar nr cr R){v:Vl}{vs:List Value}(V:VA h v vs){w:Int}(hw:In64 w):
 Ret Tryz.prog Ow 5 [.agg #[.slice aw nw cw,.int .i64 top,.slice ar nr cr],.agg vs.toArray,.int .i64 w] h Yes4:=by
 have hO:Oth Ow:=Ow_oth
 have n0:0<h.nx:=by have:=ht.1;omega
 have c30:=fun g6 (k6:Kp h.nx h g6) ok6=>ct30 hO (V.up k6) (h:=g6) ok6
 have c31:=fun(N:Nice v) g6 (F6:Ft h g6) ok6 (A6:HA g6 aw nw cw W ar nr cr R) tb6=> @ct31 Ow hO h g6 F6 ok6 aw nw cw W top ar nr cr R A6 tb6 v vs V N
 have c32:=fun(N:Nice v) g6 (K6:Kp h.nx h g6) ok6 (A6:HA g6 aw nw cw W ar nr cr R)=> @ct32 Ow hO h g6 K6 ok6 aw nw cw W top ar nr cr R A6 v vs V N
 obtain⟨v1,v2,v3,v4,v5,v6,rfl⟩:=V.form
 refine rk5 (hO:=hO _ _ _ (by decide)) (hh:= ?_) ..
 unfold T5
 intro g1 g2
 have S:Know h g1 [_]:=(Know.nil ok).add _
 have S:Know h g2 [_,_]:=S.add _
 obtain⟨q,h11,e11,rfl,k11⟩:=ct13 hO (g:=g2) (top:=top) (aw:=aw) (cw:=cw) (ar:=ar) (cr:=cr) A.sw.at_.1 A.sr.at_.1 none 0 0
 have S:Know h h11 [_,_]:=S.call k11
 refine⟨_,_,_,_,_,_,_,(Know.rd (by assumption) 1 rfl rfl rfl),_,_,e11,vcond_split (fun hl=>⟨_,_,works_true (ht.kp S.kp n0),rfl⟩) fun hl=> ?_⟩
 have hl0:W.length≤250∧R.length≤40:=by
  unfold largeB at hl
  simp only[Bool.or_eq_false_iff,decide_eq_false_iff_not]at hl
  omega
 obtain⟨q,h21,e21,rfl,k21⟩:=c30 h11 S.kp S.ok
 refine⟨_,_,_,_,_,_,S.rd 0 rfl rfl rfl,_,_,e21,?_⟩
 have S:Know h h21 [_,_]:=S.call k21
 cases hsm:smallF v with
 |false=>exact vcond_t rfl ⟨_,_,works_true (ht.kp S.kp n0),rfl⟩
 |true=>
 have N:=nice_of hsm
 obtain⟨s,f,hr⟩:=build_run (W:=W) (top:=top) (R:=R)
 haveI:=S.ft
 obtain⟨q,h46,e46,u,rfl,aw1,nw1,cw1,ar1,nr1,cr1,rfl,T⟩:=c31 N h21 S.ft S.ok (A.to h21) (ht.kp S.kp n0) (s:=s) (fun l hl _=>(hr l hl).1)
 have e31:=buildO_len (c:=checkP W top R) (W:=W) (top:=top.toNat) (R:=R) (v:=v) (s:=s) (by omega) (by omega) fun l hl=>(hr l hl).1.2.2
 refine vcond_f rfl ⟨_,_,_,_,_,_,_,S.rd 1 rfl rfl rfl,_,_,_,_,_,_,S.rd 0 rfl rfl rfl,_,_,_,_,_,_,_,_,_,_,e46,?_⟩
 have S:Know h h46 [_,_,_,_]:=S.comp T
 intro g47
 have S:Know h g47 [_,_,_,_,_]:=S.add _
 refine vreq_t (S.cw 0 rfl (by decide) rfl rfl) ?_
 intro g48
 have S:Know h g48 [_,_,_,_,_]:=S.wr 0 rfl (by decide) rfl rfl
 haveI:=S.ft
 obtain⟨q,h71,e71,u,rfl,aw2,nw2,cw2,ar2,nr2,cr2,rfl,T⟩:=c32 N g48 S.kp S.ok (A.to g48) (s:=s) (f:=f) (fun l hl _=>(hr l hl).2)
 refine⟨_,_,_,_,_,_,_,S.rd 4 rfl rfl rfl,_,_,_,_,_,_,S.rd 3 rfl rfl rfl,_,_,_,_,_,_,_,_,_,_,e71,?_⟩
 have S:Know h h71 [_,_,_,_,_,_,_]:=S.comp T
 intro g72
 have S:Know h g72 [_,_,_,_,_,_,_,_]:=S.add _
 refine vreq_t (S.cw 0 rfl (by decide) rfl rfl) ?_
 intro g73
 have S:Know h g73 [_,_,_,_,_,_,_,_]:=S.wr 0 rfl (by decide) rfl rfl
 haveI:=S.ft
 obtain⟨q,h88,e88,ws,own,rfl,T⟩:=ct33 hO S.ok (ht.kp S.kp n0) (A.to g73) hw (top:=top)
 have hva:VA h88 (readO (checkP W top R) W w).1 ws:=clo.get (T.get 0 rfl)
 obtain⟨x1,x2,x3,x4,x5,x6,rfl⟩:=hva.form
 refine⟨_,_,_,_,_,_,_,S.rd 7 rfl rfl rfl,_,_,_,_,_,_,_,_,e88,?_⟩
 have S:Know h h88 [_,_,_,_,_,_,_,_,_]:=S.comp T
 intro g89
 have S:Know h g89 [_,_,_,_,_,_,_,_,_,_]:=S.add _
 refine vreq_t (S.cw 0 rfl (by decide) rfl rfl) ?_
 intro g90
 have S:Know h g90 [_,_,_,_,_,_,_,_,_,_]:=S.wr 0 rfl (by decide) rfl rfl
 haveI:=S.ft
 obtain⟨q,h105,e105,us,own2,rfl,T⟩:=ct34 hO S.ok (A.to g90) hw (top:=top)
 have hvb:VA h105 (readO (checkP W top R) W w).1 us:=clo.get (T.get 0 rfl)
 obtain⟨y1,y2,y3,y4,y5,y6,rfl⟩:=hvb.form
 refine⟨_,_,_,_,_,_,_,S.rd 9 rfl rfl rfl,_,_,_,_,_,_,_,_,e105,?_⟩
 have S:Know h h105 [_,_,_,_,_,_,_,_,_,_,_]:=S.comp T
 intro g106
 have S:Know h g106 [_,_,_,_,_,_,_,_,_,_,_,_]:=S.add _
 refine vreq_t (S.cw 0 rfl (by decide) rfl rfl) ?_
 intro g107
 have S:Know h g107 [_,_,_,_,_,_,_,_,_,_,_,_]:=S.wr 0 rfl (by decide) rfl rfl
 have i1:SI g107 aw1 nw1 cw1 _:=S.get 8 rfl
 have i2:SI g107 ar1 nr1 cr1 _:=S.get 9 rfl
 have i3:SI g107 aw2 nw2 cw2 _:=S.get 5 rfl
 have i4:SI g107 ar2 nr2 cr2 _:=S.get 6 rfl
 obtain⟨q,h123,e123,rfl,k123⟩:=ct19 hO (g:=g107) (t:=Int.ofNat (buildO (checkP W top R) W top.toNat R v s).1.top) (c12:=cw1) (c16:=cr1) (c30:=cw2) (c34:=cr2) i1.at_ i2.at_ i3.at_ i4.at_ e31.1 e31.2
 refine⟨_,_,_,_,_,_,_,S.rd 7 rfl rfl rfl,_,_,_,_,_,_,_,S.rd 4 rfl rfl rfl,_,_,e123,vcond_t rfl (vcond_t (eqI_t rfl) (vcond_t (eqI_t rfl) ?_))⟩
 have S:Know h h123 [_,_,_,_,_,_,_,_,_,_,_,_]:=S.call k123
 have va1:VA h123 (readO (checkP W top R) W w).1 _:=clo.get (S.get 3 rfl)
 have va2:VA h123 (readO (checkP W top R) W w).1 _:=clo.get (S.get 1 rfl)
 obtain⟨q,h137,e137,rfl,k137⟩:=ct35 hO va1 (readO_few W top R w) va2 (Kp.refl _ _) S.ok
 rw[eqF_refl]at e137
 refine⟨_,_,_,_,_,_,S.rd 2 rfl rfl rfl,_,_,_,_,_,_,S.rd 0 rfl rfl rfl,_,_,e137,vcond_t rfl (vcond_t (eqI_t rfl) ?_)⟩
 have S:Know h h137 [_,_,_,_,_,_,_,_,_,_,_,_]:=S.call k137
 exact⟨_,_,works_true (ht.kp S.kp n0),rfl⟩
end Go.Proofs.YtngcjpkccnfjiaaGreatDoor
namespace Go.Ev
open Go
def layOk (P:Program):Nat→List Field→Nat→Bool
 |off,[],n=>Nat.beq off n
 |off,f::fs,n=>Nat.beq f.offset off&&layOk P (off+P.cellsOf f.type) fs n
def Plain (P:Program):Nat→TypeId→Bool
 |0,_=>false
 |n+1,t=>match P.underlying t with
  |some .bool=>true
  |some (.int _)=>true
  |some .string=>true
  |some (.slice _)=>true
  |some (.struct fs)=>fs.toList.all (fun f=>Plain P n f.type)&&layOk P 0 fs.toList (P.cellsOf t)
  |some (.array m e)=>Plain P n e&&Nat.beq (m*P.cellsOf e) (P.cellsOf t)
  |_=>false
def DE {H:Type}(P:Program)(h:Hp):Nat→TypeId→List Value→DataW H→Prop
 |0,_,_,_=>False
 |n+1,t,cs,d=>match P.underlying t,d with
  |some .bool,.lit (.bool b)=>cs=[.bool b]
  |some (.int k),.lit (.int k' x)=>k'=k∧cs=[.int k x]∧(Lit.int k x).wf=true
  |some .string,.lit (.string b)=>cs=[.string ⟨b.toArray⟩]
  |some (.slice _),.nil=>cs=[.slice none 0 0]
  |some (.slice e),.slice elems _=> ∃k cap c e',cs=[.slice (some ⟨k,0,none⟩) elems.length cap]∧cap<unk∧elems.length≤cap∧k<h.nx∧h.get k=some (.cells c e' .ro)∧elems.length*P.cellsOf e≤c.length∧
    ∀i (hi:i<elems.length),DE P h n e ((c.drop (i*P.cellsOf e)).take (P.cellsOf e)) elems[i]
  |some (.struct fs),.agg parts=>cs.length=P.cellsOf t∧parts.length=fs.size∧ ∀i (hi:i<parts.length) f,fs[i]? =some f→DE P h n f.type ((cs.drop f.offset).take (P.cellsOf f.type)) parts[i]
  |some (.array m e),.agg parts=>cs.length=P.cellsOf t∧parts.length=m∧ ∀i (hi:i<parts.length),DE P h n e ((cs.drop (i*P.cellsOf e)).take (P.cellsOf e)) parts[i]
  |_,_=>False
structure Ext1 (h:Hp)(ι:Inj)(h':Hp)(ι':Inj):Prop where
 nx:h.nx≤h'.nx
 gd:h'.gd=h.gd
 get: ∀o,o<h.nx→h'.get o=h.get o
 inj: ∀o,o<h.nx→ι' o=ι o
theorem Ext1.refl (h:Hp)(ι:Inj):Ext1 h ι h ι:=⟨Nat.le_refl _,rfl,fun _ _=>rfl,fun _ _=>rfl⟩
theorem Ext1.trans {h h' h'':Hp}{ι ι' ι'':Inj}(a:Ext1 h ι h' ι')(b:Ext1 h' ι' h'' ι''):Ext1 h ι h'' ι'':=
 ⟨Nat.le_trans a.nx b.nx,b.gd.trans a.gd,fun o ho=>(b.get o (Nat.lt_of_lt_of_le ho a.nx)).trans (a.get o ho),fun o ho=>(b.inj o (Nat.lt_of_lt_of_le ho a.nx)).trans (a.inj o ho)⟩
theorem DE.mono {H:Type}{P:Program}{h h':Hp}(hn:h.nx≤h'.nx)(hg: ∀o,o<h.nx→h'.get o=h.get o): ∀ {n:Nat}{t:TypeId}{cs:List Value}{d:DataW H},DE P h n t cs d→DE P h' n t cs d:=by
 intro n
 induction n with
 |zero=>intro t cs d h;exact h
 |succ n ih=>
  intro t cs d hd
  unfold DE at hd ⊢
  split at hd
  · exact hd
  · exact hd
  · exact hd
  · exact hd
  · obtain⟨k,cap,c,e',h1,h2,h3,h4,h5,h6,h7⟩:=hd
    exact⟨k,cap,c,e',h1,h2,h3,Nat.lt_of_lt_of_le h4 hn,by rw[hg k h4];exact h5,h6,fun i hi=>ih (h7 i hi)⟩
  · exact⟨hd.1,hd.2.1,fun i hi f hf=>ih (hd.2.2 i hi f hf)⟩
  · exact⟨hd.1,hd.2.1,fun i hi=>ih (hd.2.2 i hi)⟩
  · exact hd
section
variable {H:Type}{enc:TypeId×Value→H}{P:Program}{W:World}
structure Base (P:Program)(ι:Inj)(h:Hp)(W:World):Prop where
 rh:RH P ι h W
 ro: ∀o x,h.get o=some x→x.wr=false
 gd:h.gd=[]
 some0: ∃x v,h.get 0=some x∧ι 0=some v∧0<h.nx∧ ∃c e,x= .cells c e .ro
theorem Base.push {ι:Inj}{h:Hp}(B:Base P ι h W){c:List Value}{e:TypeId}{v:Vw}(h1:c.all one=true){c':Array Value}{e':TypeId}{fr:Nat×Nat}(hb:W.heap[v.blk]? =some (.cells c' e' fr))(hc: ∀(j:Nat) x,c[j]? =some x→ ∃y,c'[v.base+j]? =some y∧VR ι x y):
 Base P (ι.set h.nx v) (h.add (.cells c e .ro)) W∧Ext1 h ι (h.add (.cells c e .ro)) (ι.set h.nx v):=by
 have hfresh:ι h.nx=none:=B.rh.fresh _ (Nat.le_refl _)
 have mono:=Inj.set_mono (v:=v) hfresh
 have hE:Ext1 h ι (h.add (.cells c e .ro)) (ι.set h.nx v):=⟨by rw[nx_add];omega,rfl,fun o ho=>get_add_ne (by omega),fun o ho=>Inj.set_other _ _ _ (by omega)⟩
 have hget: ∀o x,(h.add (.cells c e .ro)).get o=some x→(o=h.nx∧x= .cells c e .ro)∨h.get o=some x:=fun o x ho=>by
  rw[get_add]at ho
  split at ho
  · exact .inl ⟨‹_›,(Option.some.inj ho).symm⟩
  · exact .inr ho
 have hro: ∀o x,(h.add (.cells c e .ro)).get o=some x→x.wr=false:=fun o x ho=>by
  rcases hget o x ho with ⟨_,rfl⟩|ho
  · rfl
  · exact B.ro o x ho
 refine⟨⟨⟨fun o x ho=> ?_,fun o q x y vo vq _ ho hx=> ?_,fun o ho=> ?_,fun g hg=> ?_,?_⟩,hro,B.gd,?_⟩,hE⟩
 · rcases hget o x ho with ⟨rfl,rfl⟩|ho
   · refine⟨by rw[nx_add];omega,v,Inj.set_same ..,h1,c',e',fr,hb,fun j x hx=> ?_,fun h=>absurd rfl h,fun h=>by cases h⟩
     obtain⟨y,hy,hv⟩:=hc j x hx
     exact⟨y,hy,hv.mono mono⟩
   · obtain⟨h2,u,hu,hor⟩:=B.rh.live o x ho
     exact⟨by rw[nx_add];omega,u,mono _ _ hu,hor.of_block mono rfl⟩
 · rw[hro o x ho]at hx;cases hx
 · rw[nx_add]at ho
   rw[Inj.set_other _ _ _ (by omega)];exact B.rh.fresh o (by omega)
 · rw[Inj.set_other _ _ _ (by have:=B.rh.gsize;omega)];exact B.rh.glob g hg
 · rw[nx_add];have:=B.rh.gsize;omega
 · obtain⟨x,u,a1,a2,a3,a4⟩:=B.some0
   exact⟨x,u,by rw[get_add_ne (by omega)];exact a1,by rw[Inj.set_other _ _ _ (by omega)];exact a2,by rw[nx_add];omega,a4⟩
theorem cells_take {a:Addr}{n:Nat}{cs:List Value}(h:W.cells? 0 a n=some cs):cs.length=n∧ ∀j,j<n→W.cell? (a.add j)=cs[j]? :=by
 unfold World.cells? at h
 rw[if_pos (Nat.zero_le _)]at h
 have hl:=Lib.mapM_length h
 rw[List.length_range]at hl
 refine⟨hl,fun j hj=> ?_⟩
 obtain⟨b,h1,h2⟩:=Lib.mapM_at h j j (by simp[hj])
 rw[h1,h2]
def Builds (H:Type)(enc:TypeId×Value→H)(P:Program)(W:World)(n:Nat)(t:TypeId):Prop:= ∀(cs:List Value)(d:DataW H)(ps:List MemPlace),DataW.trod enc P W 0 (fun _=>true) true n t cs=some (d,ps)→
 ∀ι h,Base P ι h W→ ∃ι' h' ev,Ext1 h ι h' ι'∧Base P ι' h' W∧VRs ι' ev cs∧ev.all one=true∧DE P h' n t ev d
theorem VRs.mono1 {ι ι':Inj}{h h':Hp}(E:Ext1 h ι h' ι')(R: ∀o,h.nx≤o→ι o=none){a b:List Value}(hv:VRs ι a b):VRs ι' a b:=hv.mono fun o v hv=>by
 have:o<h.nx:=by
  rcases Nat.lt_or_ge o h.nx with hh|hh
  · exact hh
  · rw[R o hh]at hv;cases hv
 rw[E.inj o this];exact hv
theorem build_list {n:Nat}: ∀(l:List (TypeId×List Value×DataW H)),(∀p∈l,Builds H enc P W n p.1∧ ∃ps,DataW.trod enc P W 0 (fun _=>true) true n p.1 p.2.1=some (p.2.2,ps))→ ∀ι h,Base P ι h W→
 ∃ι' h',∃evs:List (List Value),Ext1 h ι h' ι'∧Base P ι' h' W∧evs.length=l.length∧VRs ι' evs.flatten (l.map (·.2.1)).flatten∧evs.flatten.all one=true∧
  ∀i (hi:i<l.length),∃ev,evs[i]? =some ev∧VRs ι' ev l[i].2.1∧DE P h' n l[i].1 ev l[i].2.2:=by
 intro l
 induction l with
 |nil=>intro _ ι h B;exact⟨ι,h,[],.refl _ _,B,rfl,.nil _,rfl,fun i hi=>absurd hi (Nat.not_lt_zero _)⟩
 |cons p l ih=>
  intro hl ι h B
  obtain⟨hb,ps,hp⟩:=hl p (List.mem_cons_self ..)
  obtain⟨ι1,h1,ev,E1,B1,V1,O1,D1⟩:=hb _ _ _ hp ι h B
  obtain⟨ι2,h2,evs,E2,B2,L2,V2,O2,D2⟩:=ih (fun q hq=>hl q (List.mem_cons_of_mem _ hq)) ι1 h1 B1
  have V1':=VRs.mono1 E2 B1.rh.fresh V1
  refine⟨ι2,h2,ev::evs,E1.trans E2,B2,by simp[L2],?_,?_,fun i hi=> ?_⟩
  · rw[List.flatten_cons,List.map_cons,List.flatten_cons];exact V1'.append V2
  · rw[List.flatten_cons,List.all_append,O1,O2];rfl
  · cases i with
    |zero=>exact⟨ev,rfl,V1',D1.mono E2.nx E2.get⟩
    |succ i=>exact D2 i (by simpa using hi)
theorem flat_row {l:List (List Value)}{w:Nat}(hw: ∀x∈l,x.length=w):l.flatten.length=l.length*w∧ ∀i x,l[i]? =some x→(l.flatten.drop (i*w)).take w=x:=by
 induction l with
 |nil=>exact⟨by simp,fun i x h=>by simp at h⟩
 |cons y l ih=>
  obtain⟨h1,h2⟩:=ih fun x hx=>hw x (List.mem_cons_of_mem _ hx)
  have hy:=hw y (List.mem_cons_self ..)
  refine⟨by rw[List.flatten_cons,List.length_append,h1,hy,List.length_cons,Nat.add_mul];omega,fun i x hx=> ?_⟩
  rw[List.flatten_cons]
  cases i with
  |zero=>
   simp at hx
   subst hx
   rw[Nat.zero_mul,List.drop_zero,←hy,List.take_left]
  |succ i=>
   rw[List.drop_append,List.drop_of_length_le (by rw[hy,Nat.add_mul];omega),List.nil_append,hy,show(i+1)*w-w=i*w by rw[Nat.add_mul];omega]
   exact h2 i x (by simpa using hx)
theorem trod_slice {n:Nat}{e t:TypeId}(hu:P.underlying t=some (.slice e)){cs:List Value}{d:DataW H}{ps:List MemPlace}(h:DataW.trod enc P W 0 (fun _=>true) true (n+1) t cs=some (d,ps)):
 (cs=[.slice none 0 0]∧d= .nil)∨ ∃(a:Addr) (len cap:Nat) (elems rest:List (DataW H×List MemPlace)),cs=[.slice (some a) len cap]∧len≤cap∧cap≤maxLen∧
   (List.range len).mapM (fun i=>(W.cells? 0 (a.add (i*P.cellsOf e)) (P.cellsOf e)).bind (DataW.trod enc P W 0 (fun _=>true) true n e))=some elems∧
   (List.range (cap-len)).mapM (fun j=>(W.cells? 0 (a.add ((len+j)*P.cellsOf e)) (P.cellsOf e)).bind (DataW.trod enc P W 0 (fun _=>true) true n e))=some rest∧d= .slice (elems.map (·.1)) (rest.map (·.1)):=by
 unfold DataW.trod at h
 rw[hu]at h
 rcases cs with _|⟨v,_|⟨w,r⟩⟩
 · cases h
 · cases v with
   |slice a len cap=>
    rcases a with _|a
    · rcases len with _|len
      · rcases cap with _|cap
        · injection h with h;injection h with h1 h2;exact .inl ⟨rfl,h1.symm⟩
        · cases h
      · cases h
    · right
      simp only at h
      split at h
      · rename_i hc
        obtain⟨elems,h1,h2⟩:=Option.bind_eq_some_iff.1 h
        obtain⟨rest,h3,h4⟩:=Option.map_eq_some_iff.1 h2
        injection h4 with h4 h5
        rw[if_pos trivial]at h3
        exact⟨a,len,cap,elems,rest,rfl,hc.2.1,hc.2.2,h1,h3,h4.symm⟩
      · cases h
   |_=>cases h
 · cases v with
   |slice a len cap=>cases a<;>cases len<;>cases cap<;>cases h
   |_=>cases h
theorem cell_block {a:Addr}{v:Value}(h:W.cell? a=some v): ∃c e fr,W.heap[a.block]? =some (.cells c e fr)∧a.spot=none∧c[a.off]? =some v:=by
 unfold World.cell? at h
 split at h
 · rename_i c e fr hb
   split at h
   · cases h
   · rename_i hs
     exact⟨c,e,fr,hb,by simpa using hs,h⟩
 · cases h
theorem add_add (a:Addr)(i j:Nat):((a.add i).add j).block=a.block∧((a.add i).add j).off=a.off+i+j:=by
 unfold Addr.add
 by_cases hi:i=0
 · subst hi;by_cases hj:j=0
   · subst hj;exact⟨rfl,rfl⟩
   · simp[hj]
 · by_cases hj:j=0
   · subst hj;simp[hi]
   · simp[hi,hj]
theorem build_slice {n:Nat}{e t:TypeId}(he:Builds H enc P W n e)(hs:P.cellsOf e≠0)(hu:P.underlying t=some (.slice e)):Builds H enc P W (n+1) t:=by
 intro cs d ps h ι hp B
 rcases trod_slice hu h with ⟨rfl,rfl⟩|⟨a,len,cap,elems,rest,rfl,hlc,hcap,h1,h2,rfl⟩
 · exact⟨ι,hp,[.slice none 0 0],.refl _ _,B,.of_flat rfl,rfl,by unfold DE;rw[hu]⟩
 have hcl:cap<unk:=by
  have:unk=18446744073709551616:=rfl
  have:maxLen=2^63-1:=rfl
  omega
 have hcu:cap≠unk:=Nat.ne_of_lt hcl
 have l1:=Lib.mapM_length h1
 have l2:=Lib.mapM_length h2
 rw[List.length_range]at l1 l2
 let cell (i:Nat):List Value:=(W.cells? 0 (a.add (i*P.cellsOf e)) (P.cellsOf e)).getD []
 have el: ∀i (hi:i<len),W.cells? 0 (a.add (i*P.cellsOf e)) (P.cellsOf e)=some (cell i)∧DataW.trod enc P W 0 (fun _=>true) true n e (cell i)=some (elems[i]'(by omega)):=by
  intro i hi
  obtain⟨b,e1,e2⟩:=Lib.mapM_at h1 i i (by simp[hi])
  obtain⟨c,e3,e4⟩:=Option.bind_eq_some_iff.1 e2
  have hc:cell i=c:=by show(W.cells? 0 _ _).getD []=c;rw[e3];rfl
  rw[hc]
  refine⟨e3,?_⟩
  rw[e4,←e1,List.getElem?_eq_getElem]
 by_cases hcap0:cap=0
 ·
  subst hcap0
  obtain rfl:len=0:=by omega
  obtain⟨x,v,g1,g2,g3,c,e',rfl⟩:=B.some0
  have he0:elems=[]:=List.length_eq_zero_iff.1 l1
  subst he0
  refine⟨ι,hp,[.slice (some ⟨0,0,none⟩) 0 0],.refl _ _,B,.cons (.sl0 g2 (.inr rfl)) (.nil _),rfl,?_⟩
  unfold DE
  rw[hu]
  have hm: ∃c' e'',hp.get 0=some (.cells c' e'' .ro):=by
   refine⟨c,e',?_⟩
   have:=B.ro 0 _ g1
   rw[g1]
  obtain⟨c',e'',hm⟩:=hm
  exact⟨0,0,c',e'',rfl,hcl,Nat.le_refl _,g3,hm,by simp,fun i hi=>absurd hi (Nat.not_lt_zero _)⟩
 ·
  have hblk: ∃c' e' fr,W.heap[a.block]? =some (.cells c' e' fr)∧a.spot=none:=by
   have first: ∃c,W.cells? 0 a (P.cellsOf e)=some c:=by
    rcases Nat.eq_zero_or_pos len with h0|h0
    · obtain⟨b,_,e2⟩:=Lib.mapM_at h2 0 0 (by rw[List.getElem?_eq_getElem (by simp;omega)];simp)
      obtain⟨c,e3,_⟩:=Option.bind_eq_some_iff.1 e2
      rw[h0,Nat.zero_add,Nat.zero_mul]at e3
      exact⟨c,e3⟩
    · have:=(el 0 h0).1
      rw[Nat.zero_mul]at this
      exact⟨_,this⟩
   obtain⟨c,hc⟩:=first
   obtain⟨g1,g2⟩:=cells_take hc
   have:=g2 0 (by omega)
   obtain⟨v,hv⟩: ∃v,c[0]? =some v:=⟨c[0]'(by omega),List.getElem?_eq_getElem _⟩
   rw[hv]at this
   obtain⟨c',e',fr,q1,q2,_⟩:=cell_block this
   exact⟨c',e',fr,q1,q2⟩
  obtain⟨c',e',fr,hb,hsp⟩:=hblk
  let l:List (TypeId×List Value×DataW H):=(List.range len).map fun i=>(e,cell i,((elems.map (·.1))[i]?).getD .nil)
  have hll:l.length=len:=by simp[l]
  have lget: ∀i (hi:i<l.length),l[i]=(e,cell i,(elems[i]'(by omega)).1):=by
   intro i hi
   have hi':i<elems.length:=by omega
   simp[l,hi']
  obtain⟨ι1,h3,evs,E1,B1,L1,V1,O1,D1⟩:=build_list l (fun p hpm=>by
   obtain⟨i,hi,rfl⟩:=List.getElem_of_mem hpm
   rw[lget i hi]
   exact⟨he,_,(el i (by omega)).2⟩) ι hp B
  have hw: ∀x∈evs,x.length=P.cellsOf e:=by
   intro x hx
   obtain⟨i,hi,rfl⟩:=List.getElem_of_mem hx
   obtain⟨ev,e1,e2,_⟩:=D1 i (by omega)
   rw[List.getElem?_eq_getElem hi]at e1
   obtain rfl:=Option.some.inj e1
   rw[←e2.1,lget i (by omega)]
   exact(cells_take (el i (by omega)).1).1
  obtain⟨f1,f2⟩:=flat_row hw
  obtain⟨B2,E2⟩:=B1.push (c:=evs.flatten) (e:=e) (v:=⟨a.block,a.off,0,0⟩) O1 hb (fun j x hx=>by
   have hj:j<evs.flatten.length:=(List.getElem?_eq_some_iff.1 hx).1
   rw[f1,L1,hll]at hj
   have hlt:j/P.cellsOf e<len:=Nat.div_lt_of_lt_mul (by rw[Nat.mul_comm];exact hj)
   have hmod:j%P.cellsOf e<P.cellsOf e:=Nat.mod_lt _ (by omega)
   have hdm:j=j/P.cellsOf e*P.cellsOf e+j%P.cellsOf e:=by rw[Nat.mul_comm];exact(Nat.div_add_mod j _).symm
   obtain⟨ev,e1,e2,_⟩:=D1 (j/P.cellsOf e) (by omega)
   have e3:=f2 _ _ e1
   have hx':ev[j%P.cellsOf e]? =some x:=by
    rw[←e3,List.getElem?_take,if_pos hmod,List.getElem?_drop,←hdm];exact hx
   obtain⟨y,hy,hv⟩:=e2.get hx'
   rw[lget _ (by omega)]at hy
   have hy:(cell (j/P.cellsOf e))[j%P.cellsOf e]? =some y:=hy
   have:=(cells_take (el _ hlt).1).2 _ hmod
   rw[hy]at this
   obtain⟨c2,e2',fr2,q1,_,q3⟩:=cell_block this
   obtain⟨p1,p2⟩:=add_add a (j/P.cellsOf e*P.cellsOf e) (j%P.cellsOf e)
   rw[p1]at q1
   rw[p2]at q3
   rw[hb]at q1
   injection q1 with q1
   injection q1 with q1 _ _
   subst q1
   exact⟨y,by rw[show a.off+j=a.off+j/P.cellsOf e*P.cellsOf e+j%P.cellsOf e by omega];exact q3,hv⟩)
  refine⟨_,_,[.slice (some ⟨h3.nx,0,none⟩) len cap],E1.trans E2,B2,.cons ?_ (.nil _),rfl,?_⟩
  · have ha:a=⟨a.block,a.off+0,none⟩:=by cases a;simp at hsp;subst hsp;rfl
    rw[ha]
    exact .slc (w:=⟨a.block,a.off,0,0⟩) (Inj.set_same ..) hcu
  · unfold DE
    rw[hu]
    have hel:(elems.map (·.1)).length=len:=by simp[l1]
    refine⟨h3.nx,cap,evs.flatten,e,by rw[hel],hcl,by rw[hel];exact hlc,by rw[nx_add];omega,get_add_same ..,Nat.le_of_eq (by rw[hel,f1,L1,hll]),fun i hi=> ?_⟩
    rw[hel]at hi
    obtain⟨ev,e1,_,e3⟩:=D1 i (by omega)
    rw[f2 i ev e1]
    rw[lget i (by omega)]at e3
    have:(elems.map (·.1))[i]'(by rw[hel];exact hi)=(elems[i]'(by omega)).1:=by simp
    rw[this]
    exact e3.mono (by rw[nx_add];omega) fun o ho=>get_add_ne (by omega)
theorem build_int {n:Nat}{t:TypeId}{k:IntKind}(hu:P.underlying t=some (.int k)):Builds H enc P W (n+1) t:=by
 intro cs d ps h ι hp B
 unfold DataW.trod at h
 rw[hu]at h
 rcases cs with _|⟨v,_|⟨w,r⟩⟩
 · cases h
 · cases v with
   |int k' x=>
    simp only at h
    split at h
    · rename_i hc
      injection h with h;injection h with h _
      subst h
      obtain⟨rfl,hw⟩:=hc
      exact⟨ι,hp,[.int k' x],.refl _ _,B,.of_flat rfl,rfl,by unfold DE;rw[hu];exact⟨rfl,rfl,hw⟩⟩
    · cases h
   |slice a len cap=>cases a<;>cases len<;>cases cap<;>cases h
   |_=>cases h
 · cases v with
   |slice a len cap=>cases a<;>cases len<;>cases cap<;>cases h
   |_=>cases h
theorem build_string {n:Nat}{t:TypeId}(hu:P.underlying t=some .string):Builds H enc P W (n+1) t:=by
 intro cs d ps h ι hp B
 unfold DataW.trod at h
 rw[hu]at h
 rcases cs with _|⟨v,_|⟨w,r⟩⟩
 · cases h
 · cases v with
   |string b=>
    simp only at h
    split at h
    · injection h with h;injection h with h _
      subst h
      exact⟨ι,hp,[.string b],.refl _ _,B,.of_flat rfl,rfl,by unfold DE;rw[hu]⟩
    · cases h
   |slice a len cap=>cases a<;>cases len<;>cases cap<;>cases h
   |_=>cases h
 · cases v with
   |slice a len cap=>cases a<;>cases len<;>cases cap<;>cases h
   |_=>cases h
end
end Go.Ev
namespace Go.Ev
open Go Go.ChangeShapes Go.WideShapes Go.ChangeAt Go.RowKit
section
variable {H:Type}{enc:TypeId×Value→H}{P:Program}{W:World}
def DEs (P:Program)(h:Hp):List TypeId→List Value→List (DataW H)→Prop
 | [],[],[]=>True
 |t::ts,v::vs,d::ds=>((∃n,DE P h n t v.cells.toList d)∧(aggT P t=some true∨v.cells.toList=[v]))∧DEs P h ts vs ds
 |_,_,_=>False
def Shaped1 (P:Program)(t:TypeId)(v:Value):Prop:=v.cells.toList=[v]∨(∃cs,v= .agg cs)∧aggT P t=some true
theorem args_build: ∀ {ts:List TypeId}{vs:List Value}{ds:List (DataW H)}{p:List MemPlace},DataW.TrodAll enc P W 0 (fun _=>true) true ts vs ds p→(∀t∈ts,∀n,Builds H enc P W n t)→(∀(i:Nat) t v,ts[i]? =some t→vs[i]? =some v→Shaped1 P t v)→ ∀ι h,Base P ι h W→
 ∃ι' h' evs,Ext1 h ι h' ι'∧Base P ι' h' W∧VRs ι' evs vs∧DEs P h' ts evs ds
 | [],[],[],_,_,_,_,ι,h,B=>⟨ι,h,[],.refl _ _,B,.nil _,trivial⟩
 |t::ts,v::vs,d::ds,_,⟨p,q,⟨n,h1⟩,h2,_⟩,hb,hs,ι,h,B=>by
  obtain⟨ι1,h3,ev,E1,B1,V1,O1,D1⟩:=hb t (List.mem_cons_self ..) n _ _ _ h1 ι h B
  obtain⟨ι2,h4,evs,E2,B2,V2,D2⟩:=args_build h2 (fun t ht=>hb t (List.mem_cons_of_mem _ ht)) (fun i t v a b=>hs (i+1) t v (by simpa using a) (by simpa using b)) ι1 h3 B1
  have V1':=VRs.mono1 E2 B1.rh.fresh V1
  rcases hs 0 t v rfl rfl with hc|⟨⟨cs,rfl⟩,hag⟩
  · rw[hc]at V1'
    have hl:ev.length=1:=by have:=V1'.1;simpa using this.symm
    obtain⟨x,rfl⟩: ∃x,ev=[x]:=List.length_eq_one_iff.1 hl
    have hx:x.cells.toList=[x]:=by
     have:one x=true:=by simpa using O1
     cases x<;>first|rfl|cases this
    obtain⟨y,c,e1,e2,_⟩:=V1'.head
    injection e1 with e1 _
    subst e1
    refine⟨ι2,h4,x::evs,E1.trans E2,B2,.cons e2 V2,⟨⟨n,?_⟩,.inr hx⟩,D2⟩
    rw[hx];exact D1.mono E2.nx E2.get
  · refine⟨ι2,h4,.agg ev.toArray::evs,E1.trans E2,B2,.cons ?_ V2,⟨⟨n,?_⟩,.inl hag⟩,D2⟩
    · have V1'':VRs ι2 ev.toArray.toList cs.toList:=by rw[List.toList_toArray];exact V1'
      obtain⟨a1,a2⟩:=VRs.arr.1 V1''
      exact .agg a1 a2
    · show DE P h4 n t (ev.toArray).toList d
      simpa using D1.mono E2.nx E2.get
theorem shaped_of {r:Reach}{base n:Nat}{t:TypeId}{v:Value}(hp:Plain P n t=true)(h:Value.okWide P W r base t v):Shaped1 P t v:=by
 cases n with
 |zero=>cases hp
 |succ n=>
  unfold Plain at hp
  unfold Value.okWide at h
  split at hp
  · rename_i hu
    rw[hu]at h
    unfold Cell.okWide Cell.ok at h
    rw[hu]at h
    cases v<;>first|exact .inl rfl|exact h.elim
  · rename_i hu
    rw[hu]at h
    unfold Cell.okWide Cell.ok at h
    rw[hu]at h
    cases v<;>first|exact .inl rfl|exact h.elim
  · rename_i hu
    rw[hu]at h
    unfold Cell.okWide Cell.ok at h
    rw[hu]at h
    cases v<;>first|exact .inl rfl|exact h.elim
  · rename_i hu
    rw[hu]at h
    unfold Cell.okWide Cell.ok at h
    rw[hu]at h
    cases v<;>first|exact .inl rfl|exact h.elim
  · rename_i hu
    rw[hu]at h
    obtain⟨cs,rfl,_⟩:=h
    exact .inr ⟨⟨cs,rfl⟩,by unfold aggT;rw[hu]⟩
  · rename_i hu
    rw[hu]at h
    obtain⟨cs,rfl,_⟩:=h
    exact .inr ⟨⟨cs,rfl⟩,by unfold aggT;rw[hu]⟩
  · cases hp
theorem DE_int {h:Hp}{n:Nat}{t:TypeId}{k:IntKind}(hu:P.underlying t=some (.int k)){cs:List Value}{d:DataW H}(hd:DE P h n t cs d): ∃x,cs=[.int k x]∧(Lit.int k x).wf=true:=by
 cases n with
 |zero=>exact hd.elim
 |succ n=>
  unfold DE at hd
  rw[hu]at hd
  split at hd
  all_goals first|(rename_i heq;cases heq;done)|skip
  · rename_i k' k2 x heq
    injection heq with heq;injection heq with heq
    subst heq
    exact⟨x,hd.2⟩
  all_goals first|exact hd.elim|skip
theorem post_of_old {f:Func}{s:ChangeSpec}{apart fresh handsOn again:Bool}{W W':World}{args:Array Value}{v:Value}{ds gs:List (DataW H)}{before pa pv:List MemPlace}
 (hW:DataW.Whole enc P f.params.toList s.vars apart W args.toList ds gs before)
 (hres: ∀(b:Nat) (sp:Nat→Bool) (hd:Bool),DataW.TrodAll enc P W' b sp hd f.resultTypes.toList (v.resultList f.resultTypes.size) (s.fn H (ds++gs)).results [])
 (hargs: ∀sp:Nat→Bool,(∀p∈before,sp p.block=true)→DataW.TrodAll enc P W' 0 sp true f.params.toList args.toList (s.fn H (ds++gs)).args pa)
 (hvars: ∀sp:Nat→Bool,(∀p∈before,sp p.block=true)→DataW.TrodVars enc P W' sp s.vars (s.fn H (ds++gs)).vars pv)
 (hps:before=pa++pv) (hk:W.keptBut W' (· ∈before)) (hfz: ∀a:Addr,a.block<W.heap.size→W'.frozen? a=W.frozen? a)
 (hok: ∀(j:Nat) (t:TypeId) (r:Value),f.resultTypes[j]? =some t→(v.resultList f.resultTypes.size)[j]? =some r→Value.okWide P W' .any 0 t r):
 s.post enc P f apart fresh handsOn again W args v W':=by
 have hold: ∀p∈before,(fun b=>decide (b<W.heap.size)) p.block=true:=fun p hp=>by simpa using hW.lt p hp
 have hlt:=hW.lt
 refine⟨ds,gs,before,[],pa,pv,hW,hres _ _ _,hargs _ hold,hvars _ hold,World.keptBut_mono (fun p hp=>⟨hp,?_⟩) hk,fun _=> ?_⟩
 · rw[hps,List.mem_append]at hp
   exact Or.inr hp
 · obtain⟨_,_,_,_,_,hz,hn⟩:=hW
   refine⟨hok,_,_,([]++pa)++pv,⟨[]++pa,pv,trodAll_append (hargs _ (fun _ _=>rfl)) (hres _ _ _),hvars _ (fun _ _=>rfl),rfl,?_,?_⟩,?_⟩
   · intro b off hp
     have hp2:MemPlace.cell b off∈before:=by rw[hps];simpa using hp
     rw[hfz _ (hlt _ hp2)]
     exact hz b off hp2
   · intro ha
     have:=hn ha
     rw[hps]at this
     simpa using this
   · intro p hp _
     rw[hps]
     simpa using hp
theorem again {ts:List TypeId}{vs:List Value}{ds:List (DataW H)}{p:List MemPlace}{W':World}(K:Kids P (· <P.types.size))(full: ∀t e,t<P.types.size→P.underlying t=some (.slice e)→0<P.cellsOf e)(hts: ∀t∈ts,t<P.types.size)
 (hA:DataW.TrodAll enc P W 0 (fun _=>true) true ts vs ds p) (hb:Below W.heap.size W W') (hlt: ∀q∈p,q.block<W.heap.size) (sp:Nat→Bool) (hs: ∀q∈p,sp q.block=true):DataW.TrodAll enc P W' 0 sp true ts vs ds p:=by
 have hA':=DataW.TrodAll.respare K full hts hA hs
 clear hA hs hts
 induction ts generalizing vs ds p with
 |nil=>match vs,ds,hA' with
  | [],[],h=>exact h
 |cons t ts ih=>match vs,ds,hA' with
  |v::vs,d::ds,⟨p1,p2,⟨n,h1⟩,h2,e⟩=>
   subst e
   exact⟨p1,p2,⟨n,DataW.trod_carry n _ _ _ h1 fun q hq=>hb.same (hlt q (List.mem_append_left _ hq))⟩,ih (fun q hq=>hlt q (List.mem_append_right _ hq)) h2,rfl⟩
end
end Go.Ev
namespace Go.Ev
open Go Go.ChangeShapes Go.WideShapes Go.ChangeAt Go.RowKit
section
variable {H:Type}{enc:TypeId×Value→H}{P:Program}{W:World}
theorem lay_flat {n:Nat}: ∀(fs:List Field)(off:Nat),layOk P off fs n=true→ ∀(cs:List Value),cs.length=n→(fs.map fun f=>(cs.drop f.offset).take (P.cellsOf f.type)).flatten=cs.drop off:=by
 intro fs
 induction fs with
 |nil=>
  intro off h cs hc
  have:off=n:=Nat.eq_of_beq_eq_true h
  rw[List.drop_of_length_le (by omega)];rfl
 |cons f fs ih=>
  intro off h cs hc
  simp only[layOk,Bool.and_eq_true]at h
  have h1:f.offset=off:=Nat.eq_of_beq_eq_true h.1
  rw[List.map_cons,List.flatten_cons,ih _ h.2 cs hc,h1,←List.drop_drop,List.take_append_drop]
theorem lay_part {n:Nat}: ∀(fs:List Field)(off:Nat),layOk P off fs n=true→ ∀(evs:List (List Value)),evs.length=fs.length→(∀(i:Nat) f ev,fs[i]? =some f→evs[i]? =some ev→ev.length=P.cellsOf f.type)→
 ∀(i:Nat) f ev,fs[i]? =some f→evs[i]? =some ev→off≤f.offset∧(evs.flatten.drop (f.offset-off)).take (P.cellsOf f.type)=ev:=by
 intro fs
 induction fs with
 |nil=>intro off _ evs _ _ i f ev hf;simp at hf
 |cons g fs ih=>
  intro off h evs hl hlen i f ev hf he
  simp only[layOk,Bool.and_eq_true]at h
  have h1:g.offset=off:=Nat.eq_of_beq_eq_true h.1
  rcases evs with _|⟨e0,evs⟩
  · simp at hl
  have hl0:e0.length=P.cellsOf g.type:=hlen 0 g e0 rfl rfl
  cases i with
  |zero=>
   simp at hf he
   subst hf he
   refine⟨by omega,?_⟩
   rw[h1,Nat.sub_self,List.drop_zero,List.flatten_cons,←hl0,List.take_left]
  |succ i=>
   obtain⟨g1,g2⟩:=ih _ h.2 evs (by simpa using hl) (fun i f ev a b=>hlen (i+1) f ev (by simpa using a) (by simpa using b)) i f ev (by simpa using hf) (by simpa using he)
   refine⟨by omega,?_⟩
   rw[List.flatten_cons,List.drop_append,List.drop_of_length_le (by omega),List.nil_append,show f.offset-off-e0.length=f.offset-(off+P.cellsOf g.type) by omega]
   exact g2
theorem lay_fit {n:Nat}: ∀(fs:List Field)(off:Nat),layOk P off fs n=true→off≤n∧ ∀f∈fs,f.offset+P.cellsOf f.type≤n:=by
 intro fs
 induction fs with
 |nil=>intro off h;exact⟨Nat.le_of_eq (Nat.eq_of_beq_eq_true h),fun f hf=>by cases hf⟩
 |cons g fs ih=>
  intro off h
  simp only[layOk,Bool.and_eq_true]at h
  have h1:g.offset=off:=Nat.eq_of_beq_eq_true h.1
  obtain⟨a,b⟩:=ih _ h.2
  refine⟨by omega,fun f hf=> ?_⟩
  rcases List.mem_cons.1 hf with rfl|hf
  · omega
  · exact b f hf
theorem build_struct {n:Nat}{fs:Array Field}{t:TypeId}(he: ∀f∈fs.toList,Builds H enc P W n f.type)(hlay:layOk P 0 fs.toList (P.cellsOf t)=true)(hu:P.underlying t=some (.struct fs)):Builds H enc P W (n+1) t:=by
 intro cs d ps h ι hp B
 have h:(if cs.length=P.cellsOf t then (fs.toList.mapM fun f=>DataW.trod enc P W 0 (fun _=>true) true n f.type ((cs.drop f.offset).take (P.cellsOf f.type))).map fun xs=>(DataW.agg (xs.map (·.1)),xs.flatMap (·.2))else none)=some (d,ps):=by
  unfold DataW.trod at h
  rw[hu]at h
  exact h
 split at h
 · rename_i hc
   obtain⟨xs,h1,h2⟩:=Option.map_eq_some_iff.1 h
   injection h2 with h2 _
   subst h2
   have l1:=Lib.mapM_length h1
   let l:List (TypeId×List Value×DataW H):=(fs.toList.zip (xs.map (·.1))).map fun p=>(p.1.type,(cs.drop p.1.offset).take (P.cellsOf p.1.type),p.2)
   have hll:l.length=fs.toList.length:=by simp[l,l1]
   have lget: ∀i (hi:i<l.length),∃f x,fs.toList[i]? =some f∧xs[i]? =some x∧l[i]=(f.type,(cs.drop f.offset).take (P.cellsOf f.type),x.1)∧DataW.trod enc P W 0 (fun _=>true) true n f.type ((cs.drop f.offset).take (P.cellsOf f.type))=some x:=by
    intro i hi
    have hi1:i<fs.toList.length:=by omega
    have hi2:i<xs.length:=by omega
    obtain⟨b,e1,e2⟩:=Lib.mapM_at h1 i _ (List.getElem?_eq_getElem hi1)
    rw[List.getElem?_eq_getElem hi2]at e1
    obtain rfl:=Option.some.inj e1
    exact⟨_,_,List.getElem?_eq_getElem hi1,List.getElem?_eq_getElem hi2,by simp[l],e2⟩
   obtain⟨ι1,h3,evs,E1,B1,L1,V1,O1,D1⟩:=build_list l (fun p hpm=>by
    obtain⟨i,hi,rfl⟩:=List.getElem_of_mem hpm
    obtain⟨f,x,a1,a2,a3,a4⟩:=lget i hi
    rw[a3]
    exact⟨he f (List.mem_of_getElem? a1),_,a4⟩) ι hp B
   have hcells:l.map (·.2.1)=fs.toList.map fun f=>(cs.drop f.offset).take (P.cellsOf f.type):=by
    refine List.ext_getElem (by simp[hll]) fun i hi hi'=> ?_
    have hi3:i<l.length:=by simpa using hi
    obtain⟨f,x,a1,a2,a3,a4⟩:=lget i hi3
    have hi4:i<fs.toList.length:=by omega
    have hf:fs.toList[i]=f:=by rw[List.getElem?_eq_getElem hi4]at a1;exact Option.some.inj a1
    simp only[List.getElem_map]
    rw[a3,hf]
   rw[hcells,lay_flat fs.toList 0 hlay cs hc,List.drop_zero]at V1
   refine⟨ι1,h3,evs.flatten,E1,B1,V1,O1,?_⟩
   unfold DE
   rw[hu]
   have hlen: ∀(i:Nat) f ev,fs.toList[i]? =some f→evs[i]? =some ev→ev.length=P.cellsOf f.type:=by
    intro i f ev hf hev
    have hi:i<l.length:=by have:=(List.getElem?_eq_some_iff.1 hf).1;omega
    obtain⟨ev',e1,e2,_⟩:=D1 i hi
    rw[hev]at e1
    obtain rfl:=Option.some.inj e1
    obtain⟨f',x,a1,a2,a3,a4⟩:=lget i hi
    rw[hf]at a1
    obtain rfl:=Option.some.inj a1
    rw[←e2.1,a3]
    have hfit:=(lay_fit fs.toList 0 hlay).2 f (List.mem_of_getElem? hf)
    show((cs.drop f.offset).take (P.cellsOf f.type)).length=_
    rw[List.length_take,List.length_drop];omega
   refine⟨by rw[←V1.1];exact hc,by simp[l1],fun i hi f hf=> ?_⟩
   have hi2:i<l.length:=by simp at hi;omega
   obtain⟨ev,e1,e2,e3⟩:=D1 i hi2
   obtain⟨f',x,a1,a2,a3,a4⟩:=lget i hi2
   have hf':fs.toList[i]? =some f:=by rw[Array.getElem?_toList];exact hf
   rw[hf']at a1
   obtain rfl:=Option.some.inj a1
   have:=(lay_part fs.toList 0 hlay evs (by omega) hlen i f ev hf' e1).2
   rw[Nat.sub_zero]at this
   rw[this]
   rw[a3]at e3
   have hx:(xs.map (·.1))[i]'(by simpa using hi)=x.1:=by
    have hi3:i<xs.length:=by simpa using hi
    rw[List.getElem?_eq_getElem hi3]at a2
    obtain rfl:=Option.some.inj a2
    simp
   rw[hx];exact e3
 · cases h
theorem DE_struct {h:Hp}{n:Nat}{t:TypeId}{fs:Array Field}(hu:P.underlying t=some (.struct fs)){cs:List Value}{d:DataW H}(hd:DE P h (n+1) t cs d):
 cs.length=P.cellsOf t∧ ∀(i:Nat) (f:Field),fs[i]? =some f→ ∃d':DataW H,DE P h n f.type ((cs.drop f.offset).take (P.cellsOf f.type)) d':=by
 unfold DE at hd
 rw[hu]at hd
 split at hd
 all_goals first|(rename_i heq;cases heq;done)|skip
 · rename_i fs' parts heq
   injection heq with heq;injection heq with heq
   subst heq
   obtain⟨h1,h2,h3⟩:=hd
   refine⟨h1,fun i f hf=> ?_⟩
   have hi:i<parts.length:=by rw[h2];exact(Array.getElem?_eq_some_iff.1 hf).1
   exact⟨_,h3 i hi f hf⟩
 all_goals first|exact hd.elim|skip
theorem two_of {cs:List Value}{x y:Value}(hl:cs.length=2)(h1:(cs.drop 0).take 1=[x])(h2:(cs.drop 1).take 1=[y]):cs=[x,y]:=by
 rcases cs with _|⟨a,_|⟨b,_|⟨c,r⟩⟩⟩
 · cases hl
 · cases hl
 · simp at h1 h2;rw[h1,h2]
 · simp at hl
end
end Go.Ev
namespace Go.Ev
open Go Go.ChangeShapes Go.WideShapes Go.ChangeAt Go.RowKit
end Go.Ev
namespace Go.Proofs.YtngcjpkccnfjiaaGreatDoor
open Go Go.Ev Go.ChangeShapes Go.WideShapes Go.ChangeAt Go.RowKit
theorem own:ownKnob Tryz.prog.godebug=none:=by kernel_rfl
theorem gTab : Tryz.prog.globalNamed "sward/collect.truth" = some 0 := by kernel_rfl
theorem gTabType:(Tryz.prog.globals[0]?).map (·.type)=some 117:=by kernel_rfl
theorem cellsInt:Tryz.prog.cellsOf 3=1:=by kernel_rfl
theorem cellsKind:Tryz.prog.cellsOf 37=1:=by kernel_rfl
theorem cells117:Tryz.prog.cellsOf 117=2:=by kernel_rfl
theorem cells22:Tryz.prog.cellsOf 22=1:=by kernel_rfl
theorem cells24:Tryz.prog.cellsOf 24=3:=by kernel_rfl
set_option maxRecDepth 100000 in
theorem kids:Kids Tryz.prog (· <Tryz.prog.types.size):=kids_rows (by kernel_rfl) (by kernel_rfl)
set_option maxRecDepth 100000 in
theorem full: ∀t e,t<Tryz.prog.types.size→Tryz.prog.underlying t=some (.slice e)→0<Tryz.prog.cellsOf e:=slices_full_of _ (by kernel_rfl)
set_option maxRecDepth 100000 in
theorem truth_of {W : World} {x : DataW Unit} (hx : x = .agg [.lit (.int .i64 1), .lit (.int .i64 4)]) (h : laidMet Tryz.prog [("sward/collect.truth", x)] W) : W.var? Tryz.prog "sward/collect.truth" = some tab.toArray := by
 obtain⟨ps,⟨g',t',cs,fuel,p,q,hg',ht',hvar,hd,_,_⟩,_⟩:=h
 obtain rfl:=Option.some.inj (gTab.symm.trans hg')
 obtain rfl:=Option.some.inj (gTabType.symm.trans ht')
 rw[hvar]
 subst hx
 obtain⟨y0,y1,n,hx,hl,h0,h1⟩:=trod_struct2 Tryz.underlying117 hd
 injection hx with hx _
 injection hx with hx
 injection hx with e0 hx
 injection hx with e1 _
 have h0:DataW.trod _ Tryz.prog W _ _ _ n 3 ((cs.toList.drop 0).take (Tryz.prog.cellsOf 3))=some y0:=h0
 have h1:DataW.trod _ Tryz.prog W _ _ _ n 37 ((cs.toList.drop 1).take (Tryz.prog.cellsOf 37))=some y1:=h1
 rw[cellsInt]at h0
 rw[cellsKind]at h1
 obtain⟨z0,hc0,hy0,_⟩:=DataW.trod_int Tryz.underlying3 (x:=y0) h0
 obtain⟨z1,hc1,hy1,_⟩:=DataW.trod_int Tryz.underlying37 (x:=y1) h1
 rw[hy0]at e0
 rw[hy1]at e1
 injection e0 with e0;injection e0 with _ e0
 injection e1 with e1;injection e1 with _ e1
 have:=two_of (hl.trans cells117) hc0 hc1
 congr 1
 rw[←Array.toList_inj,this,←e0,←e1]
 rfl
theorem tab_cells {W : World} (h : W.var? Tryz.prog "sward/collect.truth" = some tab.toArray) : ∀ j x, tab[j]? = some x → W.cell? ⟨0, j, none⟩ = some x := by
 intro j x hj
 have:=World.var?_cell gTab h j
 rw[this,←hj]
 simp
def iota0:Inj:=fun o=>if o<2 then some ⟨o,0,0,0⟩else none
theorem start_RH {W:World}(ht: ∀j x,tab[j]? =some x→W.cell? ⟨0,j,none⟩=some x):RH Tryz.prog iota0 h0 W:=by
 have h00:=ht 0 _ rfl
 have hblk: ∃c e fr,W.heap[0]? =some (.cells c e fr):=by
  cases hb:W.heap[0]? with
  |none=>simp[World.cell?,hb]at h00
  |some y=>
   cases y with
   |cells c e fr=>exact⟨c,e,fr,rfl⟩
   |_=>simp[World.cell?,hb]at h00
 obtain⟨c,e,fr,hb⟩:=hblk
 refine⟨fun o x ho=> ?_,fun o q x y vo vq _ ho hx=> ?_,fun o ho=>if_neg (by have:2≤o:=ho;omega),fun g hg=> ?_,by rw[gsz];exact Nat.le_refl _⟩
 · obtain⟨rfl,rfl⟩:=h0_get o x ho
   refine⟨Nat.zero_lt_two,⟨0,0,0,0⟩,rfl,tab_one,c,e,fr,hb,fun j x hx=> ?_,fun h=>absurd rfl h,fun h=>by cases h⟩
   have:=ht j x hx
   refine⟨x,?_,.flat (all_get tab_flat hx)⟩
   simpa[World.cell?,hb] using this
 · obtain⟨rfl,rfl⟩:=h0_get o x ho
   cases hx
 · rw[gsz]at hg
   exact⟨0,0,if_pos hg⟩
set_option maxRecDepth 100000 in
theorem h0_tab:h0.get 0=some (.cells tab 0 .ro):=by kernel_rfl
set_option maxRecDepth 100000 in
theorem start_base {W:World}(ht: ∀j x,tab[j]? =some x→W.cell? ⟨0,j,none⟩=some x):Base Tryz.prog iota0 h0 W:=
 ⟨start_RH ht,fun o x ho=>by obtain⟨rfl,rfl⟩:=h0_get o x ho;rfl,rfl,⟨_,⟨0,0,0,0⟩,h0_tab,rfl,Nat.zero_lt_two,tab,0,rfl⟩⟩
set_option maxRecDepth 100000 in
theorem law_calls {H:Type}{enc:TypeId×Value→H}{f:FuncId}{fn:Func}(hf:Tryz.prog.funcs[f]? =some fn)(hb:fn.body.isSome=true)(h14:f≠14∧f≠54){W:World}(ht: ∀j x,tab[j]? =some x→W.cell? ⟨0,j,none⟩=some x)
 {ts:List TypeId} {args:Array Value} {ds:List (DataW H)} {p:List MemPlace} (hA:DataW.TrodAll enc Tryz.prog W 0 (fun _=>true) true ts args.toList ds p) (hbd: ∀t∈ts,∀n,Builds H enc Tryz.prog W n t) (hs: ∀(i:Nat) t v,ts[i]? =some t→args.toList[i]? =some v→Shaped1 Tryz.prog t v)
 (hR: ∀(h:Hp) (evs:List Value),Tb h→h.Ok→h.gd=[]→DEs Tryz.prog h ts evs ds→Ret Tryz.prog Ow f evs h fun v _=>v= .bool true) (hlt:f<yB:=by decide):
 Calls Tryz.prog f args W fun e W'=>e= .returned (.bool true)∧Below W.heap.size W W':=by
 obtain⟨ι,h,evs,E,B,V,D⟩:=args_build hA hbd hs iota0 h0 (start_base ht)
 have hg:h.gd=[]:=B.gd
 have htb:Tb h:=⟨Nat.lt_of_lt_of_le (by decide:1<2) E.nx,by rw[E.get 0 Nat.zero_lt_two];exact h0_tab⟩
 have hfr:h.Fresh:=fun o ho=>by
  cases ho2:h.get o with
  |none=>rfl
  |some x=>have:=(B.rh.live o x ho2).1;omega
 obtain⟨v,h',he,rfl⟩:=hR h evs htb ⟨fun q hq=>(by rw[hg]at hq;cases hq),hfr⟩ hg D
 have:=calls_of_EvC mixed noNum Ow_ok hlt hf hb (Ow_oth f evs h h14) he B.rh V
 have e:args.toList.toArray=args:=by simp
 rw[e]at this
 refine this.mono fun e W' ⟨ι',v',h1,h2,h3⟩=> ?_
 obtain rfl:=VR.of_flat rfl h3
 exact⟨h1,h2.fr.os,h2.fr.tape,h2.fr.output,h2.fr.size,fun k hk=>h2.fr.rest k hk fun o x _ ho hx=>by rw[B.ro o x ho]at hx;cases hx⟩
noncomputable def laidWorld (os:Os):World:=
 { World.holding Tryz.prog os ⟨#[],#[],[]⟩with heap:=(World.holding Tryz.prog os ⟨#[],#[],[]⟩).heap.modify 0 fun
  | .cells _ t frozen=> .cells tab.toArray t frozen
  |o=>o }
section
variable {H:Type}{P:Program}
theorem DE_ints2 {h:Hp}{n:Nat}{t e:TypeId}(hu:P.underlying t=some (.slice e))(he:P.underlying e=some (.int .i64))(hc:P.cellsOf e=1){cs:List Value}{d:DataW H}(hd:DE P h n t cs d):
 ∃a m c xs,cs=[.slice a m c]∧SI h a m c xs∧ ∀x∈xs,In64 x:=by
 cases n with
 |zero=>exact hd.elim
 |succ n=>
  unfold DE at hd
  rw[hu]at hd
  split at hd
  all_goals first|(rename_i heq;cases heq;done)|skip
  · exact⟨none,0,0,[],hd,SI.fix (SlAt.nil ..) (Nat.le_refl _) (by decide) (fun _=>rfl),fun x hx=>by cases hx⟩
  · rename_i e2 elems sp heq
    injection heq with heq;injection heq with heq
    subst heq
    obtain⟨k,cap,c,e',h1,h2,h3,h4,h5,h6,h7⟩:=hd
    rw[hc]at h6
    have hx: ∀i (hi:i<elems.length),∃x,(c.drop (i*1)).take 1=[.int .i64 x]∧(Lit.int .i64 x).wf=true:=fun i hi=>by
     have:=h7 i hi
     rw[hc]at this
     obtain⟨x,hx,hy⟩:=DE_int he this
     exact⟨x,hx,hy⟩
    let xs:List Int:=(List.range elems.length).map fun i=>if hi:i<elems.length then (hx i hi).choose else 0
    have hl:xs.length=elems.length:=by simp[xs]
    refine⟨some ⟨k,0,none⟩,elems.length,cap,xs,h1,SI.fix ⟨hl.symm,.inr ⟨k,0,c,e',.ro,rfl,h4,h5,by rw[hl];omega,fun i hi=> ?_⟩⟩ h3 h2 (fun h=>by cases h),fun x hx'=> ?_⟩
    · rw[hl]at hi
      show(c.drop (0+i*1)).take 1=[.int .i64 xs[i]]
      have:xs[i]'(by rw[hl];exact hi)=(hx i hi).choose:=by simp[xs,hi]
      rw[this,Nat.zero_add]
      exact(hx i hi).choose_spec.1
    · obtain⟨i,hi,rfl⟩:=List.getElem_of_mem hx'
      rw[hl]at hi
      have:xs[i]'(by rw[hl];exact hi)=(hx i hi).choose:=by simp[xs,hi]
      rw[this]
      have h9:=(hx i hi).choose_spec.2
      generalize (hx i hi).choose=z at h9
      have h9:(decide (IntKind.i64.min≤z)&&decide (z≤IntKind.i64.max))=true:=h9
      simp only[Bool.and_eq_true,decide_eq_true_eq]at h9
      have m1:IntKind.i64.min= -9223372036854775808:=rfl
      have m2:IntKind.i64.max=9223372036854775807:=rfl
      exact⟨by omega,by omega⟩
  all_goals first|exact hd.elim|skip
end
section
variable {H:Type}{enc:TypeId×Value→H}{W:World}
theorem build0 (t:TypeId):Builds H enc Tryz.prog W 0 t:=fun cs d ps h=>by simp[DataW.trod]at h
theorem bld3: ∀n,Builds H enc Tryz.prog W n 3
 |0=>build0 3
 |_+1=>build_int Tryz.underlying3
theorem bld22: ∀n,Builds H enc Tryz.prog W n 22
 |0=>build0 22
 |n+1=>build_slice (bld3 n) (by rw[cellsInt];decide) Tryz.underlying22
theorem bld24: ∀n,Builds H enc Tryz.prog W n 24
 |0=>build0 24
 |n+1=>build_struct (fun f hf=>by
   simp at hf
   rcases hf with rfl|rfl|rfl
   · exact bld22 n
   · exact bld3 n
   · exact bld22 n) (by kernel_rfl) Tryz.underlying24
theorem agg_of_three {v x y z:Value}(h:v.cells.toList=[x,y,z]):v= .agg #[x,y,z]:=by
 cases v with
 |agg cs=>
  have h:cs.toList=[x,y,z]:=h
  obtain⟨l⟩:=cs
  have h:l=[x,y,z]:=h
  rw[h]
 |_=>cases h
theorem three_of {cs:List Value}{x y z:Value}(hl:cs.length=3)(h1:(cs.drop 0).take 1=[x])(h2:(cs.drop 1).take 1=[y])(h3:(cs.drop 2).take 1=[z]):cs=[x,y,z]:=by
 rcases cs with _|⟨a,_|⟨b,_|⟨c,_|⟨d,r⟩⟩⟩⟩
 · cases hl
 · cases hl
 · cases hl
 · simp at h1 h2 h3;rw[h1,h2,h3]
 · simp at hl
set_option maxRecDepth 100000 in
theorem heap_of {h:Hp}{n:Nat}{v:Value}{d:DataW H}(D:DE Tryz.prog h n 24 v.cells.toList d): ∃aw nw cw W top ar nr cr R,v= .agg #[.slice aw nw cw,.int .i64 top,.slice ar nr cr]∧HA h aw nw cw W ar nr cr R:=by
 cases n with
 |zero=>exact D.elim
 |succ n=>
  obtain⟨h1,h2⟩:=DE_struct Tryz.underlying24 D
  obtain⟨d1,D1⟩:=h2 0 _ rfl
  obtain⟨d2,D2⟩:=h2 1 _ rfl
  obtain⟨d3,D3⟩:=h2 2 _ rfl
  have D1:DE Tryz.prog h n 22 ((v.cells.toList.drop 0).take (Tryz.prog.cellsOf 22)) d1:=D1
  have D2:DE Tryz.prog h n 3 ((v.cells.toList.drop 1).take (Tryz.prog.cellsOf 3)) d2:=D2
  have D3:DE Tryz.prog h n 22 ((v.cells.toList.drop 2).take (Tryz.prog.cellsOf 22)) d3:=D3
  rw[cellsInt]at D2
  rw[cells22]at D1 D3
  obtain⟨aw,nw,cw,W,z1,A1,r1⟩:=DE_ints2 Tryz.underlying22 Tryz.underlying3 cellsInt D1
  obtain⟨x,z2,_⟩:=DE_int Tryz.underlying3 D2
  obtain⟨ar,nr,cr,R,z3,A3,r3⟩:=DE_ints2 Tryz.underlying22 Tryz.underlying3 cellsInt D3
  exact⟨aw,nw,cw,W,x,ar,nr,cr,R,agg_of_three (three_of (h1.trans cells24) z1 z2 z3),A1,A3,r1,r3⟩
end
end Go.Proofs.YtngcjpkccnfjiaaGreatDoor
namespace Go.Proofs.YtngcjpkccnfjiaaGreatDoor
set_option maxRecDepth 100000
open Go Go.Ev Go.ChangeShapes Go.WideShapes Go.ChangeAt Go.RowKit
theorem n58:Tryz.prog.cellsOf 58=9:=by kernel_rfl
theorem n62:Tryz.prog.cellsOf 62=51:=by kernel_rfl
end Go.Proofs.YtngcjpkccnfjiaaGreatDoor
namespace Go.Proofs.YtngcjpkccnfjiaaGreatDoor
set_option maxRecDepth 100000
open Go Go.Ev Go.ChangeShapes Go.WideShapes Go.ChangeAt Go.RowKit
theorem und9:Tryz.prog.underlying 9=some .string:=by kernel_rfl
theorem und43:Tryz.prog.underlying 43=some (.int .i64):=by kernel_rfl
theorem und44:Tryz.prog.underlying 44=some (.slice 46):=by kernel_rfl
theorem n43:Tryz.prog.cellsOf 43=1:=by kernel_rfl
theorem n9:Tryz.prog.cellsOf 9=1:=by kernel_rfl
theorem n44:Tryz.prog.cellsOf 44=1:=by kernel_rfl
theorem n46:Tryz.prog.cellsOf 46=4:=by kernel_rfl
theorem gather {h:Hp}{cells:List Value}: ∀ {q:Nat},(∀i,i<q→ ∃v,VA h v ((cells.drop (i*4)).take 4))→ ∃ps:List Vl,ps.length=q∧ ∀i (hi:i<ps.length),VA h ps[i] ((cells.drop (i*4)).take 4):=by
 intro q
 induction q with
 |zero=>exact fun _=>⟨[],rfl,fun i hi=>absurd hi (Nat.not_lt_zero _)⟩
 |succ q ihq=>
  intro hv
  obtain⟨ps,e1,e2⟩:=ihq (fun i hi=>hv i (by omega))
  obtain⟨v,hvv⟩:=hv q (by omega)
  refine⟨ps++[v],by rw[List.length_append,e1];rfl,fun i hi=> ?_⟩
  rcases Nat.lt_or_ge i ps.length with h3|h3
  · rw[List.getElem_append_left h3];exact e2 i h3
  · rw[List.length_append,List.length_singleton]at hi
    obtain rfl:i=ps.length:=by omega
    have h5:(ps++[v])[ps.length]=v:=by simp
    rw[h5]
    subst e1
    exact hvv
theorem VA.len' {h:Hp}{v:Vl}{vs:List Value}(H:VA h v vs):vs.length=4:=by cases H<;>rfl
section
variable {H:Type}{enc:TypeId×Value→H}{W:World}
theorem bld9: ∀n,Builds H enc Tryz.prog W n 9
 |0=>build0 9
 |_+1=>build_string und9
theorem bld43: ∀n,Builds H enc Tryz.prog W n 43
 |0=>build0 43
 |_+1=>build_int und43
theorem bld46: ∀n,Builds H enc Tryz.prog W n 46
 |0=>build0 46
 |n+1=>build_struct (fun f hf=>by
   simp at hf
   rcases hf with rfl|rfl|rfl|rfl
   · exact bld43 n
   · exact bld3 n
   · exact bld9 n
   · show Builds H enc Tryz.prog W n 44
     cases n with
     |zero=>exact build0 44
     |succ m=>exact build_slice (bld46 m) (by rw[n46];decide) und44) (by kernel_rfl) Tryz.underlying46
theorem DE_string {h:Hp}{n:Nat}{t:TypeId}(hu:Tryz.prog.underlying t=some .string){cs:List Value}{d:DataW H}(hd:DE Tryz.prog h n t cs d): ∃s:ByteArray,cs=[.string s]:=by
 cases n with
 |zero=>exact hd.elim
 |succ n=>
  unfold DE at hd
  rw[hu]at hd
  split at hd
  all_goals first|(rename_i heq;cases heq;done)|exact⟨_,hd⟩|exact hd.elim
theorem DE_parts {h:Hp}{n:Nat}{cs:List Value}{d:DataW H}(hd:DE Tryz.prog h (n+1) 44 cs d):(cs=[.slice none 0 0])∨ ∃(b m c:Nat)(cells:List Value)(e:TypeId),cs=[.slice (some ⟨b,0,none⟩) m c]∧b<h.nx∧h.get b=some (.cells cells e .ro)∧m*4≤cells.length∧ ∀i,i<m→ ∃d':DataW H,DE Tryz.prog h n 46 ((cells.drop (i*4)).take 4) d':=by
 unfold DE at hd
 rw[und44]at hd
 split at hd
 all_goals first|(rename_i heq;cases heq;done)|skip
 · exact .inl hd
 · rename_i e2 elems sp heq
   injection heq with heq;injection heq with heq
   subst heq
   obtain⟨k,cap,c,e',h1,h2,h3,h4,h5,h6,h7⟩:=hd
   rw[n46]at h6
   refine .inr ⟨k,elems.length,cap,c,e',h1,h4,h5,h6,fun i hi=>⟨elems[i],?_⟩⟩
   have:=h7 i hi
   rw[n46]at this
   exact this
 all_goals first|exact hd.elim|skip
theorem value_of {h:Hp}: ∀(n:Nat){cs:List Value}{d:DataW H},DE Tryz.prog h n 46 cs d→ ∃v,VA h v cs:=by
 intro n
 induction n using Nat.strongRecOn with
 |_ n ih=>
  intro cs d D
  match n,ih,D with
  |0,_,D=>exact D.elim
  |n+1,ih,D=>
   obtain⟨h1,h2⟩:=DE_struct Tryz.underlying46 D
   obtain⟨d1,D1⟩:=h2 0 _ rfl
   obtain⟨d2,D2⟩:=h2 1 _ rfl
   obtain⟨d3,D3⟩:=h2 2 _ rfl
   obtain⟨d4,D4⟩:=h2 3 _ rfl
   have D1:DE Tryz.prog h n 43 ((cs.drop 0).take (Tryz.prog.cellsOf 43)) d1:=D1
   have D2:DE Tryz.prog h n 3 ((cs.drop 1).take (Tryz.prog.cellsOf 3)) d2:=D2
   have D3:DE Tryz.prog h n 9 ((cs.drop 2).take (Tryz.prog.cellsOf 9)) d3:=D3
   have D4:DE Tryz.prog h n 44 ((cs.drop 3).take (Tryz.prog.cellsOf 44)) d4:=D4
   rw[n43]at D1
   rw[cellsInt]at D2
   rw[n9]at D3
   rw[n44]at D4
   rw[n46]at h1
   obtain⟨k,z1,_⟩:=DE_int und43 D1
   obtain⟨m,z2,_⟩:=DE_int Tryz.underlying3 D2
   obtain⟨s,z3⟩:=DE_string und9 D3
   rcases cs with _|⟨c1,_|⟨c2,_|⟨c3,_|⟨c4,_|⟨c5,r⟩⟩⟩⟩⟩
   · cases h1
   · cases h1
   · cases h1
   · cases h1
   · simp at z1 z2 z3
     subst z1 z2 z3
     cases n with
     |zero=>exact D4.elim
     |succ n=>
      have D4:DE Tryz.prog h (n+1) 44 [c4] d4:=D4
      rcases DE_parts D4 with z4|⟨b,m',c,cells,e,z4,hb,hg,hl,hp⟩
      · injection z4 with z4 _
        subst z4
        exact⟨.mk k m s [],.nil k m s 0⟩
      · injection z4 with z4 _
        subst z4
        have hv: ∀i,i<m'→ ∃v,VA h v ((cells.drop (i*4)).take 4):=fun i hi=>by
         obtain⟨d',D'⟩:=hp i hi
         exact ih n (by omega) D'
        have hps:=gather hv
        obtain⟨ps,e1,e2⟩:=hps
        subst e1
        refine⟨.mk k m s ps,.at_ k m s ps b 0 c cells e .ro hb hg (by omega) fun i hi=> ?_⟩
        rw[Nat.zero_add]
        exact e2 i hi
   · simp at h1
theorem agg_of_VA {h:Hp}{n:Nat}{v:Value}{d:DataW H}(D:DE Tryz.prog h n 46 v.cells.toList d): ∃(x:Vl)(vs:List Value),v= .agg vs.toArray∧VA h x vs:=by
 obtain⟨x,hx⟩:=value_of n D
 refine⟨x,v.cells.toList,?_,hx⟩
 have hl:v.cells.toList.length=4:=VA.len' hx
 cases v with
 |agg cs=>rfl
 |_=>simp[Value.cells]at hl
end
end Go.Proofs.YtngcjpkccnfjiaaGreatDoor
