/- Contracts: Alloc of the code, the whole. -/
import Derived.Test.YtngcjpkccnfjiaaGreatDoorYG
import Derived.Test.YtngcjpkccnfjiaaGreatDoorYE
import Derived.Test.YtngcjpkccnfjiaaGreatDoorProg
import Derived.Test.YtngcjpkccnfjiaaGreatDoorYC
import Derived.KernelRfl
import Derived.Test.YtngcjpkccnfjiaaGreatDoorYD
namespace Go.Proofs.YtngcjpkccnfjiaaGreatDoor
set_option maxRecDepth 100000
open Go Go.Ev
theorem room_fit {W:List Int}{top:Nat}{R l:List Int}{need:Nat}{s:Mv}(hs: ¬top+need≤W.length→s.D.length=W.length)(his:(roomC W top R l need s).is=true):(roomC W top R l need s).top+need≤(roomC W top R l need s).W.length∧(roomC W top R l need s).W.length=W.length∧(roomC W top R l need s).l.length=l.length:=by
 by_cases h:top+need≤W.length
 · have e:roomC W top R l need s=⟨W,top,R,l,true⟩:=by unfold roomC;rw[if_pos h]
   rw[e];exact⟨h,rfl,rfl⟩
 · have e:roomC W top R l need s=⟨s.D,s.top,R.map (mvw W 1 s.ord),l.map (mvw W 1 s.ord),decide (s.top+need≤W.length)⟩:=by unfold roomC;rw[if_neg h]
   rw[e]at his ⊢
   have h1:s.top+need≤W.length:=of_decide_eq_true his
   exact⟨by show s.top+need≤s.D.length;rw[hs h];exact h1,hs h,by show(l.map _).length=_;rw[List.length_map]⟩
structure FieldAt (W:List Int)(l:List Nat)(x n:Int)(m i:Nat):Prop where
 ex:x=Int.ofNat m
 en:n=Int.ofNat i
 mem:m∈l
 lt:m<W.length
 sz:hdS (W.getD m 0)=Int.ofNat (hdS (W.getD m 0)).toNat
 il:i<(hdS (W.getD m 0)).toNat
 fit:m+1+i<W.length
 wr:wrapF .i64 (wrapF .i64 (x+1)+n)=Int.ofNat (m+1+i)
theorem putAt_one (W:List Int)(i:Nat)(w:Int)(hi:i<W.length):putAt (iv W) (0+i*1) [.int .i64 w]=iv (W.set i w):=by
 rw[show 0+i*1=i by omega]
 exact putAt_map (Value.int .i64) hi
theorem alloc_run {W:List Int}{top:Int}{R:List Int}(k:Int)(xs:List Int): ∃s f,∀l,checkP W top R=some l→fieldsR l k xs=true→(runO W 1 R (if refB k then xs else [])=some (s,R.map (mvw W 1 s.ord),(if refB k then xs else []).map (mvw W 1 s.ord))∧s.top≤1000∧s.D.length=W.length)∧reachO W 1 f 0 (withP 1 (R++(if refB k then xs else [])) [])=some s.ord∧colD W 1 l s.ord=s.D∧1+totalW W s.ord=s.top∧(∀p∈s.ord,CellAt W p)∧1+totalW W s.ord≤W.length:=by
 cases hc:checkP W top R with
 |none=>exact⟨startM W 1,0,fun l h=>by cases h⟩
 |some l=>
  cases hgf:fieldsR l k xs with
  |false=>
   refine⟨startM W 1,0,fun l' h h2=> ?_⟩
   obtain rfl:=Option.some.inj h
   rw[hgf]at h2;cases h2
  |true=>
   obtain⟨f1,f2,_⟩:=checkP_cells hc
   obtain⟨C,hR⟩:=col_of hc
   have hM: ∀w∈(if refB k then xs else []),Vw l w:=by
    intro w hw
    cases hk:refB k with
    |false=>rw[hk]at hw;cases hw
    |true=>
     rw[hk,if_pos rfl]at hw
     unfold fieldsR at hgf
     split at hgf
     · cases hgf
     · have:=List.all_eq_true.1 hgf w hw
       unfold fieldR at this
       rw[if_neg (fun h=>by rw[h]at hk;cases hk),if_neg (fun h=>by rw[h]at hk;cases hk)]at this
       exact Vw.of this
   obtain⟨s,h1,h2,h3⟩:=run_all C f1 (by omega) hR hM
   refine⟨s,W.length+2,fun l' h _=> ?_⟩
   obtain rfl:=Option.some.inj h
   obtain⟨a,b,c,d⟩:=laid_run hc h3
   exact⟨⟨h1,by omega,by rw[←a,colD_length]⟩,h2,a,b,c,d⟩
abbrev Yes4:Value→Hp→Prop:=fun v _=>v= .bool true
theorem shaped_parts {k n:Int}{t:ByteArray}{ps:List Vl}(h:shapedF (.mk k n t ps)=true):(∀p∈ps,shapedF p=true)∧formF k n t ps=true:=by
 rw[shapedF_mk,Bool.and_eq_true]at h
 exact⟨shapedL_all h.1,h.2⟩
theorem sEq_size {t:ByteArray}(h:sEq t (ByteArray.mk #[])=true):t.size=0:=by
 unfold sEq at h
 rw[ByteArray.toList_eq,ByteArray.toList_eq]at h
 have h:t.data.toList=[]:=by simpa using h
 show t.data.size=0
 rw[←Array.length_toList,h];rfl
theorem ofNat_zero {n:Nat}(h:eqI (Int.ofNat n) 0=true):n=0:=Int.ofNat.inj (eqI_iff.1 h)
theorem form_cases {k n:Int}{t:ByteArray}{ps:List Vl}(h:formF k n t ps=true):
 (k=1∧ps=[]∧t.size=0∧ -1000000000≤n∧n≤1000000000)∨(k=2∧ps=[]∧t.size=0∧0≤n∧n≤1)∨(k=3∧ps=[]∧n=0∧lettersF t=true)∨(k=4∧t.size=0∧n=0∧2≤ps.length∧ps.length≤6)∨(k=5∧t.size=0∧n=0∧incF ps=true):=by
 unfold formF at h
 by_cases k1:k=1
 · left
   simp only[eqI_t k1,cond_true,Bool.and_eq_true,Bool.not_eq_true']at h
   have a1:=not_lt_of_f h.1.1
   have a2:=not_lt_of_f h.1.2
   exact⟨k1,List.length_eq_zero_iff.1 (ofNat_zero h.2.2),sEq_size h.2.1,by omega,by omega⟩
 · right
   by_cases k2:k=2
   · left
     simp only[eqI_f k1,eqI_t k2,cond_true,cond_false,Bool.and_eq_true,Bool.not_eq_true']at h
     have a1:=not_lt_of_f h.1.1
     have a2:=not_lt_of_f h.1.2
     exact⟨k2,List.length_eq_zero_iff.1 (ofNat_zero h.2.2),sEq_size h.2.1,by omega,by omega⟩
   · right
     by_cases k3:k=3
     · left
       simp only[eqI_f k1,eqI_f k2,eqI_t k3,cond_true,cond_false,Bool.and_eq_true]at h
       exact⟨k3,List.length_eq_zero_iff.1 (ofNat_zero h.2.2),eqI_iff.1 h.1,h.2.1⟩
     · right
       by_cases k4:k=4
       · left
         simp only[eqI_f k1,eqI_f k2,eqI_f k3,eqI_t k4,cond_true,cond_false,Bool.and_eq_true,Bool.not_eq_true']at h
         have a1:=not_lt_of_f h.2.2.1
         have a2:=not_lt_of_f h.2.2.2
         simp only[Int.ofNat_eq_natCast]at a1 a2
         exact⟨k4,sEq_size h.2.1,eqI_iff.1 h.1,by omega,by omega⟩
       · right
         by_cases k5:k=5
         · simp only[eqI_f k1,eqI_f k2,eqI_f k3,eqI_f k4,eqI_t k5,cond_true,cond_false,Bool.and_eq_true]at h
           exact⟨k5,sEq_size h.2.2,eqI_iff.1 h.2.1,h.1⟩
         · simp only[eqI_f k1,eqI_f k2,eqI_f k3,eqI_f k4,eqI_f k5,cond_false]at h
           cases h
section
variable {O:CallF}(hO:Oth O)
include hO
theorem ct95 {h:Hp}: ∀(v:Vl){vs:List Value}(_:VA h v vs),Nice v→shapedF v=true→ ∀ {g:Hp},Ft h g→g.Ok→Ret Tryz.prog O 95 [.agg vs.toArray] g fun r g'=>r= .tuple #[.int .i64 (Int.ofNat (needF v)),.bool (!deepF v)]∧Kp g.nx g g':=by
 refine Vl.ind fun k n t ps ih=> ?_
 intro vs V N sh g F ok
 obtain⟨fl,ft,fp⟩:=N.parts
 obtain⟨sp,fm⟩:=shaped_parts sh
 have nl:=N.needL
 obtain⟨a,m,c,rfl,P⟩:=PA.of V
 have p1:=P.1
 subst p1
 refine rk95 (hO:=hO _ _ _ (by decide)) (hh:= ?_) ..
 unfold T95
 intro g1
 have S:Know g g1 [ob g.nx (.cells [.int .i64 k,.int .i64 n,.string t,.slice a ps.length c] 46 .fix)]:=(Know.nil ok).add _
 rw[needF_mk,deepF_mk]
 refine⟨_,S.rd 0 rfl rfl rfl,?_⟩
 by_cases k1:k=1
 · obtain rfl:ps=[]:=by
    rcases form_cases fm with h|h|h|h|h
    · exact h.2.1
    all_goals omega
   exact vcond_t (eqI_t k1) ⟨by rw[if_pos k1];rfl,S.kp⟩
 refine vcond_f (eqI_f k1) ?_
 intro g3
 have S:Know g g3 [ob g.nx (.cells [.int .i64 k,.int .i64 n,.string t,.slice a ps.length c] 46 .fix)]:=S.rsv 14
 have go: ∀(j i:Nat),i+j=ps.length→ ∀(x N0:Nat) (q:Bool) (g2:Hp),x+needL (ps.drop i)=N0→N0<90000000→Know g g2 []→
  I95_0 O (fun r g'=>r= .tuple #[.int .i64 (Int.ofNat N0),.bool (q&& !deepL (ps.drop i))]∧Kp g.nx g g') k n t a ps.length c (Int.ofNat x) q a ps.length c (Int.ofNat ps.length) (Int.ofNat i) g2:=by
  intro j
  induction j with
  |zero=>
   intro i hi x N0 q g2 hx hN S
   refine I95_0.of (hh:= ?_) ..
   unfold T95_0
   rw[List.drop_of_length_le (by omega),needL]at hx
   refine vcond_f (by rw[ltI_nat];exact blt_f (by omega)) ⟨?_,S.kp⟩
   rw[List.drop_of_length_le (by omega),deepL,←hx]
   simp
  |succ j ihj=>
   intro i hi x N0 q g2 hx hN S
   have i1:i<ps.length:=by omega
   refine I95_0.of (hh:= ?_) ..
   unfold T95_0
   obtain⟨b,off,ea,ws,V',rv⟩:=P.2 i i1
   have rv:=rv (F.tr S.ft).get
   have hb:=(fp _ (List.getElem_mem i1)).need
   have ih6:=fun g6 f6 ok6=>ih i i1 V' (fp _ (List.getElem_mem i1)) (sp _ (List.getElem_mem i1)) (g:=g6) f6 ok6
   obtain⟨v1,v2,v3,v4,v5,v6,rfl⟩:=V'.form
   rw[needL_drop ps i i1]at hx
   rw[ea]
   refine vcond_t (by rw[ltI_nat];exact blt_t i1) (isNat_i (show isAddr (some ⟨b,off,none⟩) _ from vreq_t (blt_t i1) ⟨_,_,_,_,_,_,rv,?_⟩))
   intro g110
   have S:Know g g110 [_]:=S.add _
   refine vreq_t (S.cw 0 rfl (by decide) rfl rfl) ?_
   intro g111
   have S:Know g g111 [ob g2.nx (.cells [.int .i64 v1,.int .i64 v2,.string v3,.slice v4 v5 v6] 46 .fix)]:=S.wr 0 rfl (by decide) rfl rfl
   obtain⟨r,g4,e4,rfl,K4⟩:=ih6 g111 (F.tr S.ft) S.ok
   refine⟨_,_,_,_,_,_,S.rd 0 rfl rfl rfl,_,_,_,e4,?_⟩
   have e:wrapF .i64 (Int.ofNat x+Int.ofNat (needF ps[i]))=Int.ofNat (x+needF ps[i]):=wrap64 (n:=((x+needF ps[i]:Nat):Int)) (by omega) (by omega)
   rw[e,wrap_succ (by omega),←ea,List.drop_eq_getElem_cons i1,deepL]
   have S4:=(S.call K4).sub [] (List.nil_sublist _)
   cases q with
   |true=>
    refine vcond_t rfl ?_
    have:=ihj (i+1) (by omega) (x+needF ps[i]) N0 (!deepF ps[i]) g4 (by omega) hN S4
    rw[Bool.true_and,Bool.not_or]
    exact this
   |false=>
    refine vcond_f rfl ?_
    have:=ihj (i+1) (by omega) (x+needF ps[i]) N0 false g4 (by omega) hN S4
    rw[Bool.false_and]at this ⊢
    exact this
 refine⟨_,S.rd 0 rfl rfl rfl,_,_,_,S.rd 0 rfl rfl rfl,_,_,_,S.rd 0 rfl rfl rfl,_,S.rd 0 rfl rfl rfl,?_⟩
 rw[if_neg k1]
 have S0:=S.sub [] (List.nil_sublist _)
 have eq1: ∀q:Bool,(q&& !deepL ps)=(!(deepL ps|| !q)):=by intro q;cases q<;>cases deepL ps<;>rfl
 by_cases k2:k=2
 · refine vcond_t (eqI_t k2) ⟨_,_,_,S.rd 0 rfl rfl rfl,?_⟩
   obtain rfl:ps=[]:=by
    rcases form_cases fm with h|h|h|h|h
    · omega
    · exact h.2.1
    all_goals omega
   rw[if_pos k2]
   exact go 0 0 rfl 2 2 true g3 rfl (by omega) S0
 · refine vcond_f (eqI_f k2) ⟨_,_,_,S.rd 0 rfl rfl rfl,?_⟩
   rw[if_neg k2,wrap64 (n:=1+Int.ofNat t.size) (by simp only[Int.ofNat_eq_natCast];omega) (by simp only[Int.ofNat_eq_natCast];omega),wrap64 (n:=1+Int.ofNat t.size+Int.ofNat ps.length) (by simp only[Int.ofNat_eq_natCast];omega) (by simp only[Int.ofNat_eq_natCast];omega)]
   have:=go ps.length 0 (by omega) (1+t.size+ps.length) (1+t.size+ps.length+needL ps) (!(ltI 20 (Int.ofNat ps.length))) g3 rfl (by omega) S0
   rw[List.drop_zero,eq1,Bool.not_not]at this
   exact this
end
def bytesI (t:ByteArray):List Int:=t.data.toList.map fun b=>Int.ofNat b.toNat
mutual
def buildF:Vl→List Int→Nat→List Int×Nat×Int
 | .mk k n t ps,W,top=>if k=1 then (W,top,2*n+1)else
    let r:=buildL ps W top
    let xs:=if k=2 then [n]else if k=3 then bytesI t else r.2.2
    (layP r.1 r.2.1 (if k=2 then 4 else if k=4 then 1 else if k=5 then 2 else 3) xs,r.2.1+1+xs.length,2*(r.2.1:Int))
def buildL:List Vl→List Int→Nat→List Int×Nat×List Int
 | [],W,top=>(W,top,[])
 |v::r,W,top=>let a:=buildF v W top;let b:=buildL r a.1 a.2.1;(b.1,b.2.1,a.2.2::b.2.2)
end
theorem buildF_mk (k n:Int)(t:ByteArray)(ps:List Vl)(W:List Int)(top:Nat):buildF (.mk k n t ps) W top=if k=1 then (W,top,2*n+1)else
 (layP (buildL ps W top).1 (buildL ps W top).2.1 (if k=2 then 4 else if k=4 then 1 else if k=5 then 2 else 3) (if k=2 then [n]else if k=3 then bytesI t else (buildL ps W top).2.2),(buildL ps W top).2.1+1+(if k=2 then [n]else if k=3 then bytesI t else (buildL ps W top).2.2).length,2*((buildL ps W top).2.1:Int)):=by rw[buildF]
theorem bytesI_length (t:ByteArray):(bytesI t).length=t.size:=by unfold bytesI;rw[List.length_map];rfl
mutual
theorem buildF_spec: ∀(v:Vl)(W:List Int)(top:Nat),shapedF v=true→(buildF v W top).1.length=W.length∧(buildF v W top).2.1=top+needF v
 | .mk k n t ps,W,top,h=>by
   obtain⟨sp,fm⟩:=shaped_parts h
   obtain⟨a1,a2,a3⟩:=buildL_spec ps W top sp
   rw[buildF_mk,needF_mk]
   by_cases k1:k=1
   · rw[if_pos k1,if_pos k1];exact⟨rfl,rfl⟩
   rw[if_neg k1,if_neg k1]
   refine⟨by rw[layP_length];exact a1,?_⟩
   simp only
   rcases form_cases fm with h|h|h|h|h
   · exact absurd h.1 k1
   · obtain⟨rfl,rfl,_⟩:=h
     rw[a2,needL];rfl
   · obtain⟨rfl,rfl,_⟩:=h
     rw[a2,needL,if_neg (by decide),if_pos rfl,if_neg (by decide),bytesI_length];simp only[List.length_nil];omega
   · obtain⟨rfl,e,_⟩:=h
     rw[a2,if_neg (by decide),if_neg (by decide),if_neg (by decide),a3];omega
   · obtain⟨rfl,e,_⟩:=h
     rw[a2,if_neg (by decide),if_neg (by decide),if_neg (by decide),a3];omega
theorem buildL_spec: ∀(ps:List Vl)(W:List Int)(top:Nat),(∀p∈ps,shapedF p=true)→(buildL ps W top).1.length=W.length∧(buildL ps W top).2.1=top+needL ps∧(buildL ps W top).2.2.length=ps.length
 | [],W,top,_=>by rw[buildL,needL];exact⟨rfl,rfl,rfl⟩
 |v::r,W,top,h=>by
  obtain⟨a1,a2⟩:=buildF_spec v W top (h v List.mem_cons_self)
  obtain⟨b1,b2,b3⟩:=buildL_spec r (buildF v W top).1 (buildF v W top).2.1 (fun p hp=>h p (List.mem_cons_of_mem _ hp))
  rw[buildL,needL]
  simp only
  exact⟨b1.trans a1,by rw[b2,a2];omega,by rw[List.length_cons,List.length_cons,b3]⟩
end
def bl (L:List Rs)(i j b oW cw:Nat)(ar:Option Addr)(nr cr:Nat)(m:Md)(W:List Int)(top:Nat):List Rs:=
 (L.set j (ob oW (.cells (iv W) 3 m))).set i (ob b (.cells [.slice (some ⟨oW,0,none⟩) W.length cw,.int .i64 (Int.ofNat top),.slice ar nr cr] 24 .fix))
section
variable {L:List Rs}{i j b oW cw:Nat}{ar:Option Addr}{nr cr:Nat}{m:Md}{W W':List Int}{top top':Nat}
theorem bl_i (li:i<L.length):(bl L i j b oW cw ar nr cr m W top)[i]? =some (ob b (.cells [.slice (some ⟨oW,0,none⟩) W.length cw,.int .i64 (Int.ofNat top),.slice ar nr cr] 24 .fix)):=by
 unfold bl;rw[List.getElem?_set_self (by rw[List.length_set];exact li)]
theorem bl_j (lj:j<L.length)(hij:i≠j):(bl L i j b oW cw ar nr cr m W top)[j]? =some (ob oW (.cells (iv W) 3 m)):=by
 unfold bl;rw[List.getElem?_set_ne hij,List.getElem?_set_self lj]
theorem bl_set (hij:i≠j)(hW:W'.length=W.length):((bl L i j b oW cw ar nr cr m W top).set j (ob oW (.cells (iv W') 3 m))).set i (ob b (.cells [.slice (some ⟨oW,0,none⟩) W.length cw,.int .i64 (Int.ofNat top'),.slice ar nr cr] 24 .fix))=bl L i j b oW cw ar nr cr m W' top':=by
 unfold bl
 rw[hW,List.set_comm _ _ hij,List.set_set,List.set_set,List.set_comm _ _ (Ne.symm hij)]
end
theorem Know.accX {h0 g:Hp}{L:List Rs}(S:Know h0 g L)(i j:Nat){lo:Nat}{e:TypeId}{esz:Nat}{a:Option Addr}{n c:Nat}{xs:List Value}(hi:L[i]? =some (acc lo e esz a n c xs)){oW:Nat}{x:Ob}(hj:L[j]? =some (ob oW x))(hij:i≠j): ∀o off,a=some ⟨o,off,none⟩→o≠oW:=by
 intro o off ha ho
 have A:AccE g lo e esz a n c xs:=S.get i hi
 have:=AccE.off A ha
 subst this
 exact S.sep i j hi hj hij o ha ho
section
variable {O:CallF}(hO:Oth O)
include hO
theorem lay_bl {h0 h:Hp}{L:List Rs}{i j b oW cw:Nat}{ar:Option Addr}{nr cr:Nat}{m:Md}{W:List Int}{top:Nat}(S:Know h0 h (bl L i j b oW cw ar nr cr m W top))(li:i<L.length)(lj:j<L.length)(hij:i≠j)(hc:CapOk m cw W.length)
 {a2:Option Addr} {n2 c2:Nat} {xs:List Int} (X:IntsAt h a2 n2 xs) (hx: ∀o off,a2=some ⟨o,off,none⟩→o≠oW) (hfit:top+1+xs.length≤W.length) (lW:W.length<1000000) {k:Int} (hk:0≤k∧k≤10):
 Ret Tryz.prog O 81 [.pointer (some ⟨b,0,none⟩),.int .i64 k,.slice a2 n2 c2] h fun v h'=>v= .int .i64 (2*(top:Int))∧Know h0 h' (bl L i j b oW cw ar nr cr m (layP W top k xs) (top+1+xs.length)):=by
 obtain⟨v,h',e,rfl,S'⟩:=ct81 hO S i j (bl_i li) (bl_j lj hij) hij hc X hx hfit lW hk (c2:=c2)
 rw[bl_set hij (layP_length ..)]at S'
 exact⟨_,_,e,rfl,S'⟩
theorem ct96 {hv h0:Hp}(Fv:Ft hv h0){b oW cw:Nat}{ar:Option Addr}{nr cr:Nat}{m:Md}: ∀(v:Vl){vs:List Value}(_:VA hv v vs),Nice v→shapedF v=true→ ∀ {h:Hp}{L:List Rs}{i j:Nat}{W:List Int}{top:Nat},Know h0 h (bl L i j b oW cw ar nr cr m W top)→i<L.length→j<L.length→i≠j→CapOk m cw W.length→top+needF v≤W.length→W.length<1000000→
 Ret Tryz.prog O 96 [.pointer (some ⟨b,0,none⟩),.agg vs.toArray] h fun r h'=>r= .int .i64 (buildF v W top).2.2∧Know h0 h' (bl L i j b oW cw ar nr cr m (buildF v W top).1 (buildF v W top).2.1):=by
 refine Vl.ind fun k n t ps ih=> ?_
 intro vs V N sh h L i j W top S li lj hij hc hfit lW
 obtain⟨fl,ft,fp⟩:=N.parts
 obtain⟨sp,fm⟩:=shaped_parts sh
 obtain⟨a,mm,c,rfl,P⟩:=PA.of V
 have p1:=P.1
 subst p1
 refine rk96 (hO:=hO _ _ _ (by decide)) (hh:= ?_) ..
 unfold T96
 intro g1
 have S1:Know h0 g1 (ob h.nx (.cells [.int .i64 k,.int .i64 n,.string t,.slice a ps.length c] 46 .fix)::bl L i j b oW cw ar nr cr m W top):=S.add _
 refine⟨_,_,_,S1.rd 0 rfl rfl rfl,?_⟩
 have S2:Know h0 g1 (acc h0.nx 3 1 none 0 0 (iv [])::ob h.nx (.cells [.int .i64 k,.int .i64 n,.string t,.slice a ps.length c] 46 .fix)::bl L i j b oW cw ar nr cr m W top):=S1.accNil h0.nx 3 1
 obtain⟨b1,b2,b3⟩:=buildL_spec ps W top sp
 have hneed:=needF_mk k n t ps
 have hf1:k≠1→top+needL ps≤W.length∧(k≠2→top+needL ps+1+t.size+ps.length≤W.length)∧(k=2→top+2≤W.length):=by
  intro k1
  rw[if_neg k1]at hneed
  rcases form_cases fm with h|h|h|h|h
  · exact absurd h.1 k1
  · obtain⟨rfl,rfl,_⟩:=h
    rw[if_pos rfl]at hneed
    rw[needL]
    exact⟨by omega,fun h=>absurd rfl h,fun _=>by omega⟩
  all_goals
   have k2:k≠2:=by omega
   rw[if_neg k2]at hneed
   exact⟨by omega,fun _=>by omega,fun h=>absurd h k2⟩
 have hf0:k=1→ps=[]:=by
  intro k1
  rcases form_cases fm with h|h|h|h|h
  · exact h.2.1
  all_goals omega
 have txt:k=3→ ∀(Wf:List Int) (tf:Nat),Wf.length=W.length→tf=top→ ∀ {g4:Hp} {ll:Nat} {a5:Option Addr} {n5 c5:Nat} {L5:List Rs},Know h0 g4 (acc h0.nx 3 1 a5 n5 c5 (iv [])::ob h.nx (.cells [.int .i64 k,.int .i64 n,.string t,.slice a ps.length c] 46 .fix)::bl L i j b oW cw ar nr cr m Wf tf)→n5=0→
  let g136:Hp:=g4.add (.cells (List.map (fun b=>Value.int .u8 (Int.ofNat (UInt8.toNat b))) (Array.toList (ByteArray.data t))) 5 .ro)
  I96_1 O (fun r h'=>r= .int .i64 (2*(tf:Int))∧Know h0 h' (bl L i j b oW cw ar nr cr m (layP Wf tf 3 (bytesI t)) (tf+1+(bytesI t).length))) b 0 k n t a ps.length c a5 n5 c5 (some ⟨g4.nx,0,none⟩) (ByteArray.size t) 18446744073709551616 (Int.ofNat (ByteArray.size t)) 0 g136:=by
  intro k3 Wf tf hWf htf g4 ll a5 n5 c5 L5 S hn5
  intro g136
  have S:Know h0 g136 (ob g4.nx (.cells (List.map (fun b=>Value.int .u8 (Int.ofNat (UInt8.toNat b))) (Array.toList (ByteArray.data t))) 5 .ro)::acc h0.nx 3 1 a5 n5 c5 (iv [])::ob h.nx (.cells [.int .i64 k,.int .i64 n,.string t,.slice a ps.length c] 46 .fix)::bl L i j b oW cw ar nr cr m Wf tf):=S.add _
  have ltz:t.data.toList.length=t.size:=rfl
  have go: ∀(d q:Nat),q+d=t.size→ ∀(g5:Hp) (a6:Option Addr) (n6 c6:Nat),n6=q→Know h0 g5 (ob g4.nx (.cells (List.map (fun b=>Value.int .u8 (Int.ofNat (UInt8.toNat b))) (Array.toList (ByteArray.data t))) 5 .ro)::acc h0.nx 3 1 a6 n6 c6 (iv ((bytesI t).take q))::ob h.nx (.cells [.int .i64 k,.int .i64 n,.string t,.slice a ps.length c] 46 .fix)::bl L i j b oW cw ar nr cr m Wf tf)→
   I96_1 O (fun r h'=>r= .int .i64 (2*(tf:Int))∧Know h0 h' (bl L i j b oW cw ar nr cr m (layP Wf tf 3 (bytesI t)) (tf+1+(bytesI t).length))) b 0 k n t a ps.length c a6 n6 c6 (some ⟨g4.nx,0,none⟩) (ByteArray.size t) 18446744073709551616 (Int.ofNat (ByteArray.size t)) (Int.ofNat q) g5:=by
   intro d
   induction d with
   |zero=>
    intro q hq g5 a6 n6 c6 hn6 S
    refine I96_1.of (hh:= ?_) ..
    unfold T96_1
    rw[List.take_of_length_le (by rw[bytesI_length];omega)]at S
    have A:AccE g5 h0.nx 3 1 a6 n6 c6 (iv (bytesI t)):=S.get 1 rfl
    have X:=(SI.accE A (by rw[bytesI_length];omega)).at_
    have hx:=Know.accX S 1 (j+3) rfl (show(bl L i j b oW cw ar nr cr m Wf tf)[j]? =_ from bl_j lj hij) (by omega)
    obtain⟨r,h',e,rfl,S'⟩:=lay_bl hO (L:=_::_::_::L) (i:=i+3) (j:=j+3) (show Know h0 g5 (bl (_::_::_::L) (i+3) (j+3) b oW cw ar nr cr m Wf tf) from S) (by simp only[List.length_cons];omega) (by simp only[List.length_cons];omega) (by omega) (by rw[hWf];exact hc) X hx (by rw[bytesI_length,hWf];have:=(hf1 (by omega)).2.1 (by omega);omega) (by rw[hWf];exact lW) (k:=3) (by omega) (c2:=c6)
    refine vcond_f (by rw[ltI_nat];exact blt_f (by omega)) ⟨_,_,e,rfl,?_⟩
    exact S'.sub _ ((List.sublist_cons_self ..).trans ((List.sublist_cons_self ..).trans (List.sublist_cons_self ..)))
   |succ d ihd=>
    intro q hq g5 a6 n6 c6 hn6 S
    have q1:q<t.size:=by omega
    have q2:q<t.data.toList.length:=q1
    refine I96_1.of (hh:= ?_) ..
    unfold T96_1
    have hrd:readAt g5 g4.nx (0+q*1) 1=some [.int .u8 (Int.ofNat (t.data.toList[q]).toNat)]:=by
     refine S.rd 0 rfl ?_ (ble_t (by rw[List.length_map];omega))
     rw[show 0+q*1=q by omega,List.drop_eq_getElem_cons (by rw[List.length_map];exact q2)]
     simp only[List.getElem_map,List.take_succ_cons,List.take_zero]
    refine vcond_t (by rw[ltI_nat];exact blt_t q1) (isNat_i (show isAddr (some ⟨g4.nx,0,none⟩) _ from vreq_t (blt_t q1) ⟨_,hrd,?_⟩))
    intro g205
    have hlt:=(t.data.toList[q]).toNat_lt
    have ew:wrapF .i64 (Int.ofNat (t.data.toList[q]).toNat)=Int.ofNat (t.data.toList[q]).toNat:=wrap64 (by simp only[Int.ofNat_eq_natCast];omega) (by simp only[Int.ofNat_eq_natCast];omega)
    have S:Know h0 g205 (ob g5.nx (.cells [.int .i64 (Int.ofNat (t.data.toList[q]).toNat)] 3 .fix)::ob g4.nx (.cells (List.map (fun b=>Value.int .u8 (Int.ofNat (UInt8.toNat b))) (Array.toList (ByteArray.data t))) 5 .ro)::acc h0.nx 3 1 a6 n6 c6 (iv ((bytesI t).take q))::ob h.nx (.cells [.int .i64 k,.int .i64 n,.string t,.slice a ps.length c] 46 .fix)::bl L i j b oW cw ar nr cr m Wf tf):=by
     have:=S.add (.cells [.int .i64 (wrapF .i64 (Int.ofNat (t.data.toList[q]).toNat))] 3 .fix)
     rw[ew]at this
     show Know h0 (g5.add (.cells [.int .i64 (wrapF .i64 (Int.ofNat (t.data.toList[q]).toNat))] 3 .fix)) _
     rw[ew];exact this
    obtain⟨a',n',c',h',e,hn',S⟩:=S.app 2 rfl (Nat.le_refl _) S.lo AppT22 ⟨_,_,_,rfl⟩ (src_get (n:=1) (c:=1) (esz:=1) (off:=0) (S.rd 0 rfl (r:=[.int .i64 (Int.ofNat (t.data.toList[q]).toNat)]) rfl rfl)) rfl rfl (by omega) (by unfold big;omega)
    refine⟨_,_,_,_,e,?_⟩
    rw[wrap_succ (by omega)]
    refine ihd (q+1) (by omega) h' a' n' c' (by omega) ?_
    have e2:iv ((bytesI t).take q)++[.int .i64 (Int.ofNat (t.data.toList[q]).toNat)]=iv ((bytesI t).take (q+1)):=by
     have q3:q<(bytesI t).length:=by rw[bytesI_length];exact q1
     rw[List.take_succ_eq_append_getElem q3]
     simp only[iv,List.map_append,List.map_cons,List.map_nil,bytesI,List.getElem_map]
    have S:Know h0 h' (_::_::acc h0.nx 3 1 a' n' c' (iv ((bytesI t).take q)++[.int .i64 (Int.ofNat (t.data.toList[q]).toNat)])::_::bl L i j b oW cw ar nr cr m Wf tf):=S
    rw[e2]at S
    exact S.sub _ (List.sublist_cons_self ..)
  exact go t.size 0 (by omega) g136 a5 n5 c5 hn5 S
 have go: ∀(d q:Nat),q+d=ps.length→ ∀(Wq:List Int) (tq:Nat) (lq:List Int) (g2:Hp) (a5:Option Addr) (n5 c5:Nat),Wq.length=W.length→tq+needL (ps.drop q)=top+needL ps→(k≠1→True)→lq.length=q→n5=q→(buildL ps W top=((buildL (ps.drop q) Wq tq).1,(buildL (ps.drop q) Wq tq).2.1,lq++(buildL (ps.drop q) Wq tq).2.2))→Know h0 g2 (acc h0.nx 3 1 a5 n5 c5 (iv lq)::ob h.nx (.cells [.int .i64 k,.int .i64 n,.string t,.slice a ps.length c] 46 .fix)::bl L i j b oW cw ar nr cr m Wq tq)→
  I96_0 O (fun r h'=>r= .int .i64 (buildF (.mk k n t ps) W top).2.2∧Know h0 h' (bl L i j b oW cw ar nr cr m (buildF (.mk k n t ps) W top).1 (buildF (.mk k n t ps) W top).2.1)) b 0 k n t a ps.length c h.nx 0 a5 n5 c5 a ps.length c (Int.ofNat ps.length) (Int.ofNat q) g2:=by
  intro d
  induction d with
  |zero=>
   intro q hq Wq tq lq g2 a5 n5 c5 hWq htq _ hlq hn5 hb S
   refine I96_0.of (hh:= ?_) ..
   unfold T96_0
   rw[List.drop_of_length_le (by omega)]at hb htq
   rw[buildL]at hb
   rw[needL]at htq
   simp only[List.append_nil]at hb
   have hbF:buildF (.mk k n t ps) W top=if k=1 then (W,top,2*n+1)else
    (layP Wq tq (if k=2 then 4 else if k=4 then 1 else if k=5 then 2 else 3) (if k=2 then [n]else if k=3 then bytesI t else lq),tq+1+(if k=2 then [n]else if k=3 then bytesI t else lq).length,2*(tq:Int)):=by rw[buildF_mk,hb]
   rw[hbF]
   refine vcond_f (by rw[ltI_nat];exact blt_f (by omega)) ⟨_,S.rd 1 rfl rfl rfl,?_⟩
   rcases form_cases fm with hf|hf|hf|hf|hf
   · obtain⟨rfl,rfl,_,n1,n2⟩:=hf
     refine vcond_t rfl ⟨_,S.rd 1 rfl rfl rfl,?_,?_⟩
     · rw[if_pos rfl,wrap64 (n:=2*n) (by omega) (by omega),wrap64 (by omega) (by omega)]
     · rw[if_pos rfl]
       have e1:q=0:=by simpa using hq
       have e2:(buildL [] W top)=(W,top,[]):=by rw[buildL]
       rw[e2]at hb
       injection hb with hb1 hb2
       injection hb2 with hb2 hb3
       subst hb1 hb2
       exact S.sub _ ((List.sublist_cons_self ..).trans (List.sublist_cons_self ..))
   · obtain⟨rfl,rfl,_,n1,n2⟩:=hf
     refine vcond_f rfl (vcond_t rfl ⟨_,S.rd 1 rfl rfl rfl,?_⟩)
     intro g128
     have S:Know h0 g128 (ob g2.nx (.cells (iv [n]) 3 .fix)::_::_::bl L i j b oW cw ar nr cr m Wq tq):=S.add _
     have hne:=Know.ne S 0 (j+3) rfl (show(bl L i j b oW cw ar nr cr m Wq tq)[j]? =_ from bl_j lj hij) (by omega)
     have X:IntsAt g128 (some ⟨g2.nx,0,none⟩) 1 [n]:=(SI.own (S.obj 0 rfl) (S.orng 0 rfl).2 (cw:=1) (.inl ⟨rfl,rfl⟩) (show 1<1000000 by decide)).at_
     have hfit:=(hf1 (by decide)).2.2 rfl
     obtain⟨r,h',e,rfl,S'⟩:=lay_bl hO (L:=_::_::_::L) (i:=i+3) (j:=j+3) (show Know h0 g128 (bl (_::_::_::L) (i+3) (j+3) b oW cw ar nr cr m Wq tq) from S) (by simp only[List.length_cons];omega) (by simp only[List.length_cons];omega) (by omega) (by rw[hWq];exact hc) X (fun o off ha=>by injection ha with ha;injection ha with ha;rw[←ha];exact hne) (by rw[hWq];simp only[needL,List.length_cons,List.length_nil]at *; omega) (by rw[hWq];exact lW) (k:=4) (by omega) (c2:=1)
     refine⟨_,_,e,rfl,?_⟩
     exact S'.sub _ ((List.sublist_cons_self ..).trans ((List.sublist_cons_self ..).trans (List.sublist_cons_self ..)))
   · obtain⟨rfl,rfl,_,_⟩:=hf
     refine vcond_f rfl (vcond_f rfl (vcond_f rfl (vcond_f rfl ⟨_,S.rd 1 rfl rfl rfl,?_⟩)))
     have e1:q=0:=by simpa using hq
     have e0:lq=[]:=List.length_eq_zero_iff.1 (hlq.trans e1)
     subst e0
     exact txt rfl Wq tq hWq (by rw[needL]at htq;omega) (ll:=0) (L5:=[]) S (by omega)
   · obtain⟨rfl,ts,_,_⟩:=hf
     have A:AccE g2 h0.nx 3 1 a5 n5 c5 (iv lq):=S.get 0 rfl
     have X:=(SI.accE A (by omega)).at_
     have hx:=Know.accX S 0 (j+2) rfl (show(bl L i j b oW cw ar nr cr m Wq tq)[j]? =_ from bl_j lj hij) (by omega)
     have hfit:=(hf1 (by decide)).2.1 (by decide)
     obtain⟨r,h',e,rfl,S'⟩:=lay_bl hO (L:=_::_::L) (i:=i+2) (j:=j+2) (show Know h0 g2 (bl (_::_::L) (i+2) (j+2) b oW cw ar nr cr m Wq tq) from S) (by simp only[List.length_cons];omega) (by simp only[List.length_cons];omega) (by omega) (by rw[hWq];exact hc) X hx (by rw[hWq];omega) (by rw[hWq];exact lW) (k:=1) (by omega) (c2:=c5)
     refine vcond_f rfl (vcond_f rfl (vcond_t rfl ⟨_,_,e,rfl,?_⟩))
     exact S'.sub _ ((List.sublist_cons_self ..).trans (List.sublist_cons_self ..))
   · obtain⟨rfl,ts,_,_⟩:=hf
     have A:AccE g2 h0.nx 3 1 a5 n5 c5 (iv lq):=S.get 0 rfl
     have X:=(SI.accE A (by omega)).at_
     have hx:=Know.accX S 0 (j+2) rfl (show(bl L i j b oW cw ar nr cr m Wq tq)[j]? =_ from bl_j lj hij) (by omega)
     have hfit:=(hf1 (by decide)).2.1 (by decide)
     obtain⟨r,h',e,rfl,S'⟩:=lay_bl hO (L:=_::_::L) (i:=i+2) (j:=j+2) (show Know h0 g2 (bl (_::_::L) (i+2) (j+2) b oW cw ar nr cr m Wq tq) from S) (by simp only[List.length_cons];omega) (by simp only[List.length_cons];omega) (by omega) (by rw[hWq];exact hc) X hx (by rw[hWq];omega) (by rw[hWq];exact lW) (k:=2) (by omega) (c2:=c5)
     refine vcond_f rfl (vcond_f rfl (vcond_f rfl (vcond_t rfl ⟨_,_,e,rfl,?_⟩)))
     exact S'.sub _ ((List.sublist_cons_self ..).trans (List.sublist_cons_self ..))
  |succ d ihd=>
   intro q hq Wq tq lq g2 a5 n5 c5 hWq htq _ hlq hn5 hb S
   have q1:q<ps.length:=by omega
   refine I96_0.of (hh:= ?_) ..
   unfold T96_0
   obtain⟨pb,off,ea,ws,V',rv⟩:=P.2 q q1
   have rv:=rv (Fv.tr S.ft).get
   have k1:k≠1:=fun e=>by rw[hf0 e]at q1;cases q1
   have hfit:=(hf1 k1).1
   have shp:=sp _ (List.getElem_mem q1)
   rw[needL_drop ps q q1]at htq
   have ih6:= @ih q q1 _ V' (fp _ (List.getElem_mem q1)) shp
   obtain⟨v1,v2,v3,v4,v5,v6,rfl⟩:=V'.form
   rw[ea]
   refine vcond_t (by rw[ltI_nat];exact blt_t q1) (isNat_i (show isAddr (some ⟨pb,off,none⟩) _ from vreq_t (blt_t q1) ⟨_,_,_,_,_,_,rv,?_⟩))
   intro g110
   have S:Know h0 g110 (_::_::_::bl L i j b oW cw ar nr cr m Wq tq):=S.add _
   refine vreq_t (S.cw 0 rfl (by decide) rfl rfl) ?_
   intro g111
   have S:Know h0 g111 (ob g2.nx (.cells [.int .i64 v1,.int .i64 v2,.string v3,.slice v4 v5 v6] 46 .fix)::_::_::bl L i j b oW cw ar nr cr m Wq tq):=S.wr 0 rfl (by decide) rfl rfl
   obtain⟨r,h119,e119,rfl,S'⟩:= @ih6 g111 (_::_::_::L) (i+3) (j+3) Wq tq S (by simp only[List.length_cons];omega) (by simp only[List.length_cons];omega) (by omega) (by rw[hWq];exact hc) (by rw[hWq];omega) (by rw[hWq];exact lW)
   refine⟨_,_,_,_,_,_,S.rd 0 rfl rfl rfl,_,_,e119,?_⟩
   obtain⟨f1,f2⟩:=buildF_spec ps[q] Wq tq shp
   generalize hr:buildF ps[q] Wq tq=rr at *
   obtain⟨W1,t1,w1⟩:=rr
   simp only at f1 f2
   intro g120
   have S:Know h0 g120 (ob h119.nx (.cells [.int .i64 w1] 3 .fix)::ob g2.nx (.cells [.int .i64 v1,.int .i64 v2,.string v3,.slice v4 v5 v6] 46 .fix)::acc h0.nx 3 1 a5 n5 c5 (iv lq)::ob h.nx (.cells [.int .i64 k,.int .i64 n,.string t,.slice a ps.length c] 46 .fix)::bl L i j b oW cw ar nr cr m W1 t1):=S'.add _
   obtain⟨a',n',c',h',e,hn',S⟩:=S.app 2 rfl (Nat.le_refl _) S.lo AppT22 ⟨_,_,_,rfl⟩ (src_get (n:=1) (c:=1) (esz:=1) (off:=0) (S.rd 0 rfl (r:=[.int .i64 w1]) rfl rfl)) rfl rfl (by omega) (by unfold big;omega)
   refine⟨_,_,_,_,e,?_⟩
   rw[wrap_succ (by omega),←ea]
   have S:Know h0 h' (_::_::acc h0.nx 3 1 a' n' c' (iv lq++[.int .i64 w1])::ob h.nx (.cells [.int .i64 k,.int .i64 n,.string t,.slice a ps.length c] 46 .fix)::bl L i j b oW cw ar nr cr m W1 t1):=S
   have e2:iv lq++[.int .i64 w1]=iv (lq++[w1]):=by simp only[iv,List.map_append,List.map_cons,List.map_nil]
   rw[e2]at S
   refine ihd (q+1) (by omega) W1 t1 (lq++[w1]) h' a' n' c' (f1.trans hWq) (by omega) (fun _=>trivial) (by rw[List.length_append,hlq];rfl) (by omega) ?_ (S.sub _ ((List.sublist_cons_self ..).trans (List.sublist_cons_self ..)))
   rw[hb,List.drop_eq_getElem_cons q1,buildL,hr]
   simp only[List.append_assoc,List.singleton_append]
 exact go ps.length 0 (by omega) W top [] g1 none 0 0 rfl rfl (fun _=>trivial) rfl rfl (by simp) S2
end
end Go.Proofs.YtngcjpkccnfjiaaGreatDoor
namespace Go.Proofs.YtngcjpkccnfjiaaGreatDoor
set_option maxRecDepth 100000
open Go Go.Ev
theorem rst_eq {h' g:Hp}(e:h'.gd=g.gd):h'.rst g=h':=by
 show({ h' with gd:=g.gd }:Hp)=h'
 rw[←e]
def wl (L:List Rs)(j oW:Nat)(m:Md)(W:List Int):List Rs:=L.set j (ob oW (.cells (iv W) 3 m))
theorem wl_j {L:List Rs}{j oW:Nat}{m:Md}{W:List Int}(lj:j<L.length):(wl L j oW m W)[j]? =some (ob oW (.cells (iv W) 3 m)):=List.getElem?_set_self lj
theorem wl_set {L:List Rs}{j oW:Nat}{m:Md}{W W':List Int}:(wl L j oW m W).set j (ob oW (.cells (iv W') 3 m))=wl L j oW m W':=by unfold wl;rw[List.set_set]
theorem bytesI_get {t:ByteArray}{q:Nat}(h:q<t.size):(bytesI t)[q]? =some (byteI t q)∧0≤byteI t q∧byteI t q<256:=by
 have q2:q<t.data.toList.length:=h
 unfold bytesI byteI
 rw[List.getElem?_map,List.getElem?_eq_getElem q2]
 have:=(t.data.toList[q]).toNat_lt
 refine⟨rfl,Int.natCast_nonneg _,?_⟩
 show((t.data.toList[q]).toNat:Int)<256
 omega
section
variable {O:CallF}(hO:Oth O)
include hO
theorem lay_wl {h0 h:Hp}{L:List Rs}{j oW cw:Nat}{ar:Option Addr}{nr cr:Nat}{m:Md}{W:List Int}{top:Nat}(S:Know h0 h (wl L j oW m W))(lj:j<L.length)(hc:CapOk m cw W.length)
 {a2:Option Addr} {n2 c2:Nat} {xs:List Int} (X:IntsAt h a2 n2 xs) (hx: ∀o off,a2=some ⟨o,off,none⟩→o≠oW) (hfit:top+1+xs.length≤W.length) (lW:W.length<1000000) {k:Int} (hk:0≤k∧k≤10):
 Ret Tryz.prog O 84 [.agg #[.slice (some ⟨oW,0,none⟩) W.length cw,.int .i64 (Int.ofNat top),.slice ar nr cr],.int .i64 k,.slice a2 n2 c2] h fun v h'=>v= .tuple #[.agg #[.slice (some ⟨oW,0,none⟩) W.length cw,.int .i64 (Int.ofNat (top+1+xs.length)),.slice ar nr cr],.int .i64 (2*(top:Int))]∧Know h0 h' (wl L j oW m (layP W top k xs)):=by
 obtain⟨v,h',e,rfl,S'⟩:=ct84 hO S j (wl_j lj) hc X hx hfit lW hk (c2:=c2) (ar:=ar) (nr:=nr) (cr:=cr)
 rw[wl_set]at S'
 exact⟨_,_,e,rfl,S'⟩
theorem ct99 {hv h0:Hp}(Fv:Ft hv h0){oW cw:Nat}{ar:Option Addr}{nr cr:Nat}{m:Md}: ∀(v:Vl){vs:List Value}(_:VA hv v vs),Nice v→shapedF v=true→ ∀ {h:Hp}{L:List Rs}{j:Nat}{W:List Int}{top:Nat},Know h0 h (wl L j oW m W)→j<L.length→CapOk m cw W.length→top+needF v≤W.length→W.length<1000000→
 Ret Tryz.prog O 99 [.agg #[.slice (some ⟨oW,0,none⟩) W.length cw,.int .i64 (Int.ofNat top),.slice ar nr cr],.agg vs.toArray] h fun r h'=>r= .tuple #[.agg #[.slice (some ⟨oW,0,none⟩) W.length cw,.int .i64 (Int.ofNat (buildF v W top).2.1),.slice ar nr cr],.int .i64 (buildF v W top).2.2]∧Know h0 h' (wl L j oW m (buildF v W top).1):=by
 refine Vl.ind fun k n t ps ih=> ?_
 intro vs V N sh h L j W top S lj hc hfit lW
 obtain⟨fl,ft,fp⟩:=N.parts
 obtain⟨sp,fm⟩:=shaped_parts sh
 obtain⟨a,mm,c,rfl,P⟩:=PA.of V
 have p1:=P.1
 subst p1
 refine rk99 (hO:=hO _ _ _ (by decide)) (hh:= ?_) ..
 unfold T99
 intro g1 g2 g3
 have S1:Know h0 g1 (ob h.nx (.cells [.slice (some ⟨oW,0,none⟩) W.length cw,.int .i64 (Int.ofNat top),.slice ar nr cr] 24 .fix)::wl L j oW m W):=S.add _
 have S2:Know h0 g2 (ob g1.nx (.cells [.int .i64 k,.int .i64 n,.string t,.slice a ps.length c] 46 .fix)::ob h.nx (.cells [.slice (some ⟨oW,0,none⟩) W.length cw,.int .i64 (Int.ofNat top),.slice ar nr cr] 24 .fix)::wl L j oW m W):=S1.add _
 have S3:Know h0 g3 (ob g2.nx (.cells [.slice none 0 0,.int .i64 0,.slice none 0 0] 24 .fix)::ob g1.nx (.cells [.int .i64 k,.int .i64 n,.string t,.slice a ps.length c] 46 .fix)::ob h.nx (.cells [.slice (some ⟨oW,0,none⟩) W.length cw,.int .i64 (Int.ofNat top),.slice ar nr cr] 24 .fix)::wl L j oW m W):=S2.add _
 obtain⟨b1,b2,b3⟩:=buildL_spec ps W top sp
 have hneed:=needF_mk k n t ps
 have hf1:k≠1→top+needL ps≤W.length∧(k≠2→top+needL ps+1+t.size+ps.length≤W.length)∧(k=2→top+2≤W.length):=by
  intro k1
  rw[if_neg k1]at hneed
  rcases form_cases fm with h|h|h|h|h
  · exact absurd h.1 k1
  · obtain⟨rfl,rfl,_⟩:=h
    rw[if_pos rfl]at hneed
    rw[needL]
    exact⟨by omega,fun h=>absurd rfl h,fun _=>by omega⟩
  all_goals
   have k2:k≠2:=by omega
   rw[if_neg k2]at hneed
   exact⟨by omega,fun _=>by omega,fun h=>absurd h k2⟩
 refine⟨_,S3.rd 1 rfl rfl rfl,?_⟩
 by_cases k1:k=1
 · obtain⟨rfl,n1,n2⟩:ps=[]∧ -1000000000≤n∧n≤1000000000:=by
    rcases form_cases fm with h|h|h|h|h
    · exact⟨h.2.1,h.2.2.2.1,h.2.2.2.2⟩
    all_goals omega
   refine vcond_t (eqI_t k1) ?_
   intro g5
   have S5:Know h0 g5 (_::_::_::wl L j oW m W):=S3.rsv 7
   refine⟨_,_,_,_,_,_,_,S5.rd 2 rfl rfl rfl,_,S5.rd 1 rfl rfl rfl,?_⟩
   have hne: ∀q∈ [g1.nx],q≠g2.nx:=fun q hq=>by rw[List.mem_singleton.1 hq];exact Know.ne S5 1 0 rfl rfl (by decide)
   refine vreq_t (S5.cwg 0 rfl hne (by decide) rfl rfl) ?_
   intro g14 g15
   have S15:Know h0 g15 (_::_::_::wl L j oW m W):=S5.wrg 0 rfl hne (by decide) rfl rfl
   refine⟨_,_,_,_,_,_,_,S15.rd 0 rfl rfl rfl,?_,?_⟩
   · rw[buildF_mk,if_pos k1,wrap64 (n:=2*n) (by omega) (by omega),wrap64 (by omega) (by omega)]
   · rw[buildF_mk,if_pos k1]
     exact S15.sub _ ((List.sublist_cons_self ..).trans ((List.sublist_cons_self ..).trans (List.sublist_cons_self ..)))
 refine vcond_f (eqI_f k1) ?_
 by_cases k2:k=2
 · subst k2
   obtain rfl:ps=[]:=by
    rcases form_cases fm with h|h|h|h|h
    · omega
    · exact h.2.1
    all_goals omega
   refine vcond_t rfl ⟨_,_,_,_,_,_,_,S3.rd 2 rfl rfl rfl,_,S3.rd 1 rfl rfl rfl,?_⟩
   intro g31
   have S4:Know h0 g31 (ob g3.nx (.cells (iv [n]) 3 .fix)::_::_::_::wl L j oW m W):=S3.add _
   have hne:=Know.ne S4 0 (j+4) rfl (show(wl L j oW m W)[j]? =_ from wl_j lj) (by omega)
   have X:IntsAt g31 (some ⟨g3.nx,0,none⟩) 1 [n]:=(SI.own (S4.obj 0 rfl) (S4.orng 0 rfl).2 (cw:=1) (.inl ⟨rfl,rfl⟩) (show 1<1000000 by decide)).at_
   obtain⟨r,h',e,rfl,S'⟩:=lay_wl hO (L:=_::_::_::_::L) (j:=j+4) (show Know h0 g31 (wl (_::_::_::_::L) (j+4) oW m W) from S4) (by simp only[List.length_cons];omega) hc X (fun o off ha=>by injection ha with ha;injection ha with ha;rw[←ha];exact hne) ((hf1 k1).2.2 rfl) lW (k:=4) (by omega) (c2:=1) (ar:=ar) (nr:=nr) (cr:=cr)
   refine⟨_,_,_,_,_,_,_,_,_,e,?_⟩
   have S':Know h0 h' (_::_::_::_::wl L j oW m (layP W top 4 [n])):=S'
   refine vreq_t (S'.cw 1 rfl (by decide) rfl rfl) ?_
   intro g41
   have S5:Know h0 g41 (_::_::_::_::wl L j oW m (layP W top 4 [n])):=S'.wr 1 rfl (by decide) rfl rfl
   have e2:buildF (.mk 2 n t []) W top=(layP W top 4 [n],top+1+ [n].length,2*(top:Int)):=by rw[buildF_mk,if_neg (by decide),buildL];rfl
   rw[e2]
   exact⟨_,_,_,_,_,_,_,S5.rd 1 rfl rfl rfl,rfl,S5.sub _ ((List.sublist_cons_self ..).trans ((List.sublist_cons_self ..).trans ((List.sublist_cons_self ..).trans (List.sublist_cons_self ..))))⟩
 refine vcond_f (eqI_f k2) ?_
 have fin: ∀(kk:Int) (Wq:List Int) (tq:Nat) (xs:List Int) (g4:Hp) (a5:Option Addr) (n5 c5:Nat),(0≤kk∧kk≤10)→Wq.length=W.length→tq+1+xs.length≤W.length→buildF (.mk k n t ps) W top=(layP Wq tq kk xs,tq+1+xs.length,2*(tq:Int))→
  Know h0 g4 (acc h0.nx 3 1 a5 n5 c5 (iv xs)::ob g2.nx (.cells [.slice none 0 0,.int .i64 0,.slice none 0 0] 24 .fix)::ob g1.nx (.cells [.int .i64 k,.int .i64 n,.string t,.slice a ps.length c] 46 .fix)::ob h.nx (.cells [.slice (some ⟨oW,0,none⟩) Wq.length cw,.int .i64 (Int.ofNat tq),.slice ar nr cr] 24 .fix)::wl L j oW m Wq)→
  I99_2 O (fun r h'=>r= .tuple #[.agg #[.slice (some ⟨oW,0,none⟩) W.length cw,.int .i64 (Int.ofNat (buildF (.mk k n t ps) W top).2.1),.slice ar nr cr],.int .i64 (buildF (.mk k n t ps) W top).2.2]∧Know h0 h' (wl L j oW m (buildF (.mk k n t ps) W top).1)) (some ⟨oW,0,none⟩) W.length cw (Int.ofNat top) ar nr cr k n t a ps.length c h.nx 0 g2.nx 0 0 a5 n5 c5 kk g4:=by
  intro kk Wq tq xs g4 a5 n5 c5 hk hWq hf hb S
  refine I99_2.of (hh:= ?_) ..
  unfold T99_2
  have A:AccE g4 h0.nx 3 1 a5 n5 c5 (iv xs):=S.get 0 rfl
  have X:=(SI.accE A (by omega)).at_
  have hx:=Know.accX S 0 (j+4) rfl (show(wl L j oW m Wq)[j]? =_ from wl_j lj) (by omega)
  obtain⟨r,h',e,rfl,S'⟩:=lay_wl hO (L:=_::_::_::_::L) (j:=j+4) (show Know h0 g4 (wl (_::_::_::_::L) (j+4) oW m Wq) from S) (by simp only[List.length_cons];omega) (by rw[hWq];exact hc) X hx (by rw[hWq];exact hf) (by rw[hWq];exact lW) hk (c2:=c5) (ar:=ar) (nr:=nr) (cr:=cr)
  refine⟨_,_,_,_,_,_,_,S.rd 3 rfl rfl rfl,_,_,_,_,_,_,_,_,_,e,?_⟩
  have S':Know h0 h' (_::_::_::_::wl L j oW m (layP Wq tq kk xs)):=S'
  refine vreq_t (S'.cw 1 rfl (by decide) rfl rfl) ?_
  intro g317
  have S5:Know h0 g317 (_::_::_::_::wl L j oW m (layP Wq tq kk xs)):=S'.wr 1 rfl (by decide) rfl rfl
  rw[hb]
  exact⟨_,_,_,_,_,_,_,S5.rd 1 rfl rfl rfl,by rw[hWq],S5.sub _ ((List.sublist_cons_self ..).trans ((List.sublist_cons_self ..).trans ((List.sublist_cons_self ..).trans (List.sublist_cons_self ..))))⟩
 have hk35:k=3∨k=4∨k=5:=by
  rcases form_cases fm with h|h|h|h|h
  · exact absurd h.1 k1
  · exact absurd h.1 k2
  · exact .inl h.1
  · exact .inr (.inl h.1)
  · exact .inr (.inr h.1)
 have go: ∀(d q:Nat),q+d=ps.length→ ∀(Wq:List Int) (tq:Nat) (lq:List Int) (g4:Hp) (a5:Option Addr) (n5 c5:Nat),Wq.length=W.length→tq+needL (ps.drop q)=top+needL ps→(k=3→lq=bytesI t∧Wq=W∧tq=top)→(k≠3→lq.length=q)→n5=lq.length→(k≠3→buildL ps W top=((buildL (ps.drop q) Wq tq).1,(buildL (ps.drop q) Wq tq).2.1,lq++(buildL (ps.drop q) Wq tq).2.2))→
  Know h0 g4 (acc h0.nx 3 1 a5 n5 c5 (iv lq)::ob g2.nx (.cells [.slice none 0 0,.int .i64 0,.slice none 0 0] 24 .fix)::ob g1.nx (.cells [.int .i64 k,.int .i64 n,.string t,.slice a ps.length c] 46 .fix)::ob h.nx (.cells [.slice (some ⟨oW,0,none⟩) Wq.length cw,.int .i64 (Int.ofNat tq),.slice ar nr cr] 24 .fix)::wl L j oW m Wq)→
  I99_1 O (fun r h'=>r= .tuple #[.agg #[.slice (some ⟨oW,0,none⟩) W.length cw,.int .i64 (Int.ofNat (buildF (.mk k n t ps) W top).2.1),.slice ar nr cr],.int .i64 (buildF (.mk k n t ps) W top).2.2]∧Know h0 h' (wl L j oW m (buildF (.mk k n t ps) W top).1)) (some ⟨oW,0,none⟩) W.length cw (Int.ofNat top) ar nr cr k n t a ps.length c h.nx 0 g1.nx 0 g2.nx 0 a5 n5 c5 (Int.ofNat q) g4:=by
  intro d
  induction d with
  |zero=>
   intro q hq Wq tq lq g4 a5 n5 c5 hWq htq h3 h4 hn5 hb S
   refine I99_1.of (hh:= ?_) ..
   unfold T99_1
   rw[List.drop_of_length_le (by omega)]at hb htq
   rw[buildL]at hb
   rw[needL]at htq
   simp only[List.append_nil]at hb
   refine⟨_,_,_,S.rd 2 rfl rfl rfl,vcond_f (by rw[ltI_nat];exact blt_f (by omega)) ⟨_,S.rd 2 rfl rfl rfl,?_⟩⟩
   have hfit:=(hf1 k1).2.1 k2
   rcases hk35 with rfl|rfl|rfl
   · obtain⟨rfl,rfl,rfl⟩:=h3 rfl
     obtain rfl:ps=[]:=by
      rcases form_cases fm with h|h|h|h|h
      · omega
      · omega
      · exact h.2.1
      · omega
      · omega
     have hF:buildF (.mk 3 n t []) Wq tq=(layP Wq tq 3 (bytesI t),tq+1+(bytesI t).length,2*(tq:Int)):=by rw[buildF_mk,if_neg (by decide),buildL];rfl
     exact vcond_f rfl ⟨_,S.rd 2 rfl rfl rfl,vcond_f rfl (fin 3 _ _ _ _ _ _ _ (by omega) rfl (by rw[bytesI_length];have hz:needL []=0:=(by rw[needL]);omega) hF S)⟩
   · have hF:buildF (.mk 4 n t ps) W top=(layP Wq tq 1 lq,tq+1+lq.length,2*(tq:Int)):=by rw[buildF_mk,if_neg (by decide),hb (by decide)];rfl
     have l4:=h4 (by decide)
     exact vcond_t rfl ⟨_,S.rd 2 rfl rfl rfl,vcond_f rfl (fin 1 _ _ _ _ _ _ _ (by omega) hWq (by omega) hF S)⟩
   · have hF:buildF (.mk 5 n t ps) W top=(layP Wq tq 2 lq,tq+1+lq.length,2*(tq:Int)):=by rw[buildF_mk,if_neg (by decide),hb (by decide)];rfl
     have l4:=h4 (by decide)
     exact vcond_f rfl ⟨_,S.rd 2 rfl rfl rfl,vcond_t rfl (fin 2 _ _ _ _ _ _ _ (by omega) hWq (by omega) hF S)⟩
  |succ d ihd=>
   intro q hq Wq tq lq g4 a5 n5 c5 hWq htq h3 h4 hn5 hb S
   have q1:q<ps.length:=by omega
   have k3:k≠3:=fun e=>by
    rcases form_cases fm with h|h|h|h|h
    · omega
    · omega
    · rw[h.2.1]at q1;cases q1
    · omega
    · omega
   have l4:=h4 k3
   refine I99_1.of (hh:= ?_) ..
   unfold T99_1
   obtain⟨pb,off,ea,ws,V',rv⟩:=P.2 q q1
   have hfit:=(hf1 k1).1
   have shp:=sp _ (List.getElem_mem q1)
   rw[needL_drop ps q q1]at htq
   have ih6:= @ih q q1 _ V' (fp _ (List.getElem_mem q1)) shp
   refine⟨_,_,_,S.rd 2 rfl rfl rfl,vcond_t (by rw[ltI_nat];exact blt_t q1) ?_⟩
   intro g204
   have S:Know h0 g204 (hole g4.nx 13 []::acc h0.nx 3 1 a5 n5 c5 (iv lq)::ob g2.nx (.cells [.slice none 0 0,.int .i64 0,.slice none 0 0] 24 .fix)::ob g1.nx (.cells [.int .i64 k,.int .i64 n,.string t,.slice a ps.length c] 46 .fix)::ob h.nx (.cells [.slice (some ⟨oW,0,none⟩) Wq.length cw,.int .i64 (Int.ofNat tq),.slice ar nr cr] 24 .fix)::wl L j oW m Wq):=S.rsvK 13
   have rv:=rv (Fv.tr S.ft).get
   obtain⟨v1,v2,v3,v4,v5,v6,rfl⟩:=V'.form
   refine⟨_,_,_,_,_,_,_,S.rd 4 rfl rfl rfl,_,_,_,S.rd 3 rfl rfl rfl,isNat_i ?_⟩
   rw[ea]
   refine(show isAddr (some ⟨pb,off,none⟩) _ from vreq_t (blt_t q1) ⟨_,_,_,_,_,_,rv,?_⟩)
   obtain⟨r,h232,e232,rfl,S'⟩:= @ih6 (g204.grd []) (_::_::_::_::_::L) (j+5) Wq tq S (by simp only[List.length_cons];omega) (by rw[hWq];exact hc) (by rw[hWq];omega) (by rw[hWq];exact lW)
   refine⟨_,_,_,_,_,_,_,_,_,e232,?_⟩
   obtain⟨f1,f2⟩:=buildF_spec ps[q] Wq tq shp
   generalize hr:buildF ps[q] Wq tq=rr at *
   obtain⟨W1,t1,w1⟩:=rr
   simp only at f1 f2
   intro g233
   have S:Know h0 g233 (hole g4.nx 13 []::acc h0.nx 3 1 a5 n5 c5 (iv lq)::ob g2.nx (.cells [.slice none 0 0,.int .i64 0,.slice none 0 0] 24 .fix)::ob g1.nx (.cells [.int .i64 k,.int .i64 n,.string t,.slice a ps.length c] 46 .fix)::ob h.nx (.cells [.slice (some ⟨oW,0,none⟩) Wq.length cw,.int .i64 (Int.ofNat tq),.slice ar nr cr] 24 .fix)::wl L j oW m W1):=by
    have:g233=h232:=rst_eq (S'.kp.gd.trans S.kp.gd.symm)
    rw[this];exact S'
   refine vreq_t (S.fre 0 rfl (Nat.le_add_right ..) (by omega) (by simp)) ?_
   intro g234
   have S:Know h0 g234 (ob (g4.nx+10) (.cells [.slice none 0 0,.int .i64 0,.slice none 0 0] 24 .fix)::hole g4.nx 13 [g4.nx+10]::acc h0.nx 3 1 a5 n5 c5 (iv lq)::ob g2.nx (.cells [.slice none 0 0,.int .i64 0,.slice none 0 0] 24 .fix)::ob g1.nx (.cells [.int .i64 k,.int .i64 n,.string t,.slice a ps.length c] 46 .fix)::ob h.nx (.cells [.slice (some ⟨oW,0,none⟩) Wq.length cw,.int .i64 (Int.ofNat tq),.slice ar nr cr] 24 .fix)::wl L j oW m W1):=S.lay 0 rfl (Nat.le_add_right ..) (by omega) (by simp) _
   refine vreq_t (S.cwg 0 rfl (fun _ h=>by cases h) (by decide) rfl rfl) ?_
   intro g235 g236
   have S:Know h0 g236 (_::_::_::_::_::_::wl L j oW m W1):=S.wrg 0 rfl (fun _ h=>by cases h) (by decide) rfl rfl
   refine⟨_,_,_,_,_,_,_,S.rd 0 rfl rfl rfl,vreq_t (S.cw 5 rfl (by decide) rfl rfl) ?_⟩
   intro g244
   have S:Know h0 g244 (_::_::_::_::_::ob h.nx (.cells [.slice (some ⟨oW,0,none⟩) Wq.length cw,.int .i64 (Int.ofNat t1),.slice ar nr cr] 24 .fix)::wl L j oW m W1):=S.wr 5 rfl (by decide) rfl rfl
   intro g245
   have S:Know h0 g245 (ob g244.nx (.cells [.int .i64 w1] 3 .fix)::_::_::_::_::_::_::wl L j oW m W1):=S.add _
   obtain⟨a',n',c',h',e,hn',S⟩:=S.app 3 rfl (Nat.le_refl _) S.lo AppT22 ⟨_,_,_,rfl⟩ (src_get (n:=1) (c:=1) (esz:=1) (off:=0) (S.rd 0 rfl (r:=[.int .i64 w1]) rfl rfl)) rfl rfl (by omega) (by unfold big;omega)
   refine⟨_,_,_,_,e,?_⟩
   rw[wrap_succ (by omega),←ea]
   have S:Know h0 h' (_::_::_::acc h0.nx 3 1 a' n' c' (iv lq++[.int .i64 w1])::ob g2.nx (.cells [.slice none 0 0,.int .i64 0,.slice none 0 0] 24 .fix)::ob g1.nx (.cells [.int .i64 k,.int .i64 n,.string t,.slice a ps.length c] 46 .fix)::ob h.nx (.cells [.slice (some ⟨oW,0,none⟩) Wq.length cw,.int .i64 (Int.ofNat t1),.slice ar nr cr] 24 .fix)::wl L j oW m W1):=S
   have e2:iv lq++[.int .i64 w1]=iv (lq++[w1]):=by simp only[iv,List.map_append,List.map_cons,List.map_nil]
   rw[e2,←f1]at S
   refine ihd (q+1) (by omega) W1 t1 (lq++[w1]) h' a' n' c' (f1.trans hWq) (by omega) (fun e=>absurd e k3) (fun _=>by rw[List.length_append,l4];rfl) (by rw[List.length_append,hn',hn5];rfl) (fun _=> ?_) (S.sub _ ((List.sublist_cons_self ..).trans ((List.sublist_cons_self ..).trans (List.sublist_cons_self ..))))
   rw[hb k3,List.drop_eq_getElem_cons q1,buildL,hr]
   simp only[List.append_assoc,List.singleton_append]
 have S4:Know h0 g3 (acc h0.nx 3 1 none 0 0 (iv [])::_::_::_::wl L j oW m W):=S3.accNil h0.nx 3 1
 have txt: ∀(d q:Nat),q+d=t.size→ ∀(g4:Hp) (a5:Option Addr) (n5 c5:Nat),n5=q→
  Know h0 g4 (acc h0.nx 3 1 a5 n5 c5 (iv ((bytesI t).take q))::ob g2.nx (.cells [.slice none 0 0,.int .i64 0,.slice none 0 0] 24 .fix)::ob g1.nx (.cells [.int .i64 k,.int .i64 n,.string t,.slice a ps.length c] 46 .fix)::ob h.nx (.cells [.slice (some ⟨oW,0,none⟩) W.length cw,.int .i64 (Int.ofNat top),.slice ar nr cr] 24 .fix)::wl L j oW m W)→
  I99_0 O (fun r h'=>r= .tuple #[.agg #[.slice (some ⟨oW,0,none⟩) W.length cw,.int .i64 (Int.ofNat (buildF (.mk k n t ps) W top).2.1),.slice ar nr cr],.int .i64 (buildF (.mk k n t ps) W top).2.2]∧Know h0 h' (wl L j oW m (buildF (.mk k n t ps) W top).1)) (some ⟨oW,0,none⟩) W.length cw (Int.ofNat top) ar nr cr k n t a ps.length c h.nx 0 g1.nx 0 g2.nx 0 a5 n5 c5 (Int.ofNat q) g4:=by
  intro d
  induction d with
  |zero=>
   intro q hq g4 a5 n5 c5 hn5 S
   refine I99_0.of (hh:= ?_) ..
   unfold T99_0
   rw[List.take_of_length_le (by rw[bytesI_length];omega)]at S
   refine⟨_,S.rd 2 rfl rfl rfl,vcond_f (by rw[ltI_nat];exact blt_f (by omega)) ?_⟩
   refine go ps.length 0 (by omega) W top (bytesI t) g4 a5 n5 c5 rfl rfl (fun _=>⟨rfl,rfl,rfl⟩) (fun h3=> ?_) (by rw[bytesI_length];omega) (fun h3=> ?_) S
   · rw[bytesI_length]
     rcases form_cases fm with h|h|h|h|h
     · omega
     · omega
     · omega
     · exact h.2.1
     · exact h.2.1
   · have:bytesI t=[]:=by
      rw[←List.length_eq_zero_iff,bytesI_length]
      rcases form_cases fm with h|h|h|h|h
      · omega
      · omega
      · omega
      · exact h.2.1
      · exact h.2.1
     rw[this];rfl
  |succ d ihd=>
   intro q hq g4 a5 n5 c5 hn5 S
   have q1:q<t.size:=by omega
   obtain⟨g1b,g2b,g3b⟩:=bytesI_get q1
   refine I99_0.of (hh:= ?_) ..
   unfold T99_0
   refine⟨_,S.rd 2 rfl rfl rfl,vcond_t (by rw[ltI_nat];exact blt_t q1) ⟨_,S.rd 2 rfl rfl rfl,isNat_i (vreq_t (blt_t q1) ?_)⟩⟩
   rw[wrap64 (n:=byteI t q) (by omega) (by omega)]
   intro g104
   have S:Know h0 g104 (ob g4.nx (.cells [.int .i64 (byteI t q)] 3 .fix)::_::_::_::_::wl L j oW m W):=S.add _
   obtain⟨a',n',c',h',e,hn',S⟩:=S.app 1 rfl (Nat.le_refl _) S.lo AppT22 ⟨_,_,_,rfl⟩ (src_get (n:=1) (c:=1) (esz:=1) (off:=0) (S.rd 0 rfl (r:=[.int .i64 (byteI t q)]) rfl rfl)) rfl rfl (by omega) (by unfold big;omega)
   refine⟨_,_,_,_,e,?_⟩
   rw[wrap_succ (by omega)]
   have S:Know h0 h' (_::acc h0.nx 3 1 a' n' c' (iv ((bytesI t).take q)++[.int .i64 (byteI t q)])::ob g2.nx (.cells [.slice none 0 0,.int .i64 0,.slice none 0 0] 24 .fix)::ob g1.nx (.cells [.int .i64 k,.int .i64 n,.string t,.slice a ps.length c] 46 .fix)::ob h.nx (.cells [.slice (some ⟨oW,0,none⟩) W.length cw,.int .i64 (Int.ofNat top),.slice ar nr cr] 24 .fix)::wl L j oW m W):=S
   have e2:iv ((bytesI t).take q)++[.int .i64 (byteI t q)]=iv ((bytesI t).take (q+1)):=by
    rw[List.take_add_one,g1b]
    simp only[iv,List.map_append,Option.toList_some,List.map_cons,List.map_nil]
   rw[e2]at S
   exact ihd (q+1) (by omega) h' a' n' c' (by omega) (S.sub _ (List.sublist_cons_self ..))
 exact txt t.size 0 (by omega) g3 none 0 0 rfl S4
end
end Go.Proofs.YtngcjpkccnfjiaaGreatDoor
namespace Go.Proofs.YtngcjpkccnfjiaaGreatDoor
set_option maxRecDepth 100000
open Go Go.Ev
def buildO (c:Option (List Nat))(W:List Int)(top:Nat)(R:List Int)(v:Vl)(s:Mv):Out×Int:=match c with
 |none=>(⟨[],0,[],2⟩,0)
 |some _=>if validF v=true then (if deepF v=true then (⟨[],0,[],3⟩,0)
   else if (roomC W top R [] (needF v) s).is=true then (⟨(buildF v (roomC W top R [] (needF v) s).W (roomC W top R [] (needF v) s).top).1,(buildF v (roomC W top R [] (needF v) s).W (roomC W top R [] (needF v) s).top).2.1,(roomC W top R [] (needF v) s).R,0⟩,(buildF v (roomC W top R [] (needF v) s).W (roomC W top R [] (needF v) s).top).2.2)
   else (⟨[],0,[],3⟩,0))
  else (⟨[],0,[],2⟩,0)
theorem buildO_some (l:List Nat)(W:List Int)(top:Nat)(R:List Int)(v:Vl)(s:Mv):buildO (some l) W top R v s=(if validF v=true then (if deepF v=true then (⟨[],0,[],3⟩,0)
 else if (roomC W top R [] (needF v) s).is=true then (⟨(buildF v (roomC W top R [] (needF v) s).W (roomC W top R [] (needF v) s).top).1,(buildF v (roomC W top R [] (needF v) s).W (roomC W top R [] (needF v) s).top).2.1,(roomC W top R [] (needF v) s).R,0⟩,(buildF v (roomC W top R [] (needF v) s).W (roomC W top R [] (needF v) s).top).2.2)
 else (⟨[],0,[],3⟩,0))
 else (⟨[],0,[],2⟩,0)):=rfl
theorem valid_need {v:Vl}(N:Nice v)(h:validF v=true):needF v≤6600∧shapedF v=true:=by
 unfold validF fitsF at h
 rw[Bool.and_eq_true]at h
 have h1: ¬weighF v 200 8<0:=not_lt_of_f (by simpa using h.1)
 have:=need_le v 200 8 (by omega) (by omega) N.2
 exact⟨by omega,h.2⟩
section
variable {O:CallF}(hO:Oth O)
include hO
theorem ct31 {hv g:Hp}(Fv:Ft hv g)(ok:g.Ok){aw:Option Addr}{nw cw:Nat}{W:List Int}{top:Int}{ar:Option Addr}{nr cr:Nat}{R:List Int}(A:HA g aw nw cw W ar nr cr R)(tb:Tb g){v:Vl}{vs:List Value}(V:VA hv v vs)(N:Nice v)
 {s:Mv} (hrun: ∀l,checkP W top R=some l→ ¬top.toNat+needF v≤W.length→runO W 1 R []=some (s,R.map (mvw W 1 s.ord),([]:List Int).map (mvw W 1 s.ord))∧s.top≤1000∧s.D.length=W.length):
 Ret Tryz.prog O 31 [.agg #[.slice aw nw cw,.int .i64 top,.slice ar nr cr],.agg vs.toArray] g (QA g (buildO (checkP W top R) W top.toNat R v s).1 (buildO (checkP W top R) W top.toNat R v s).2):=by
 have n0:0<g.nx:=by have:=tb.1;omega
 have c94:=fun g6 f6 ok6=>ct94 hO v V N (g:=g6) f6 ok6
 have c95:=fun hs g6 f6 ok6=>ct95 hO v V N hs (g:=g6) f6 ok6
 have c96:= @ct96 O hO hv g Fv
 have c96:=fun b oW cw ar nr cr m hs=> @c96 b oW cw ar nr cr m v vs V N hs
 obtain⟨v1,v2,v3,v4,v5,v6,rfl⟩:=V.form
 refine rk31 (hO:=hO _ _ _ (by decide)) (hh:= ?_) ..
 unfold T31
 intro g1 g2 g3
 have S:Know g g1 [_]:=(Know.nil ok).add _
 have S:Know g g2 [_,_]:=S.add _
 have S:Know g g3 [_,_,_]:=S.add _
 haveI:=S.ft
 obtain⟨r,h12,e12,rfl,K12⟩:=ct41 hO S.ok (A.to g3) (tb.kp S.kp n0) (top:=top)
 refine⟨_,_,_,_,_,_,_,S.rd 2 rfl rfl rfl,_,_,e12,?_⟩
 have S:Know g h12 [_,_,_]:=S.call K12
 have zero: ∀ {x:Hp} {L:List Rs} {w1 w2 w3:Value} (_:Know g x (ob g2.nx (.cells [w1,w2,w3] 24 .fix)::L)) (e:Int),vreq (canW x g2.nx 0 [.slice none 0 0,.int .i64 0,.slice none 0 0])
  (∃a22' n23' c24',∃x25',∃a26' n27' c28',readAt (x.wr g2.nx 0 [.slice none 0 0,.int .i64 0,.slice none 0 0]) g2.nx 0 3=some [.slice a22' n23' c24',.int .i64 x25',.slice a26' n27' c28']∧
    QA g ⟨[],0,[],e⟩ 0 (.tuple #[.agg #[.slice a22' n23' c24',.int .i64 x25',.slice a26' n27' c28'],.int .i64 0,.int .i64 e]) (x.wr g2.nx 0 [.slice none 0 0,.int .i64 0,.slice none 0 0])):=by
  intro x L w1 w2 w3 S e
  refine vreq_t (S.cw 0 rfl (by decide) rfl rfl) ?_
  have S:Know g (x.wr g2.nx 0 [.slice none 0 0,.int .i64 0,.slice none 0 0]) (ob g2.nx (.cells [.slice none 0 0,.int .i64 0,.slice none 0 0] 24 .fix)::L):=S.wr 0 rfl (by decide) rfl rfl
  exact⟨_,_,_,_,_,_,_,S.rd 0 rfl rfl rfl,_,rfl,HK.zero S e⟩
 cases hc:checkP W top R with
 |none=>
  exact vcond_f rfl (vcond_t rfl (zero S 2))
 |some l=>
 refine vcond_t rfl ?_
 obtain⟨f1,f2,f3,f4,f5,_⟩:=checkP_cells hc
 obtain⟨tp,rfl⟩: ∃tp:Nat,top=Int.ofNat tp:=⟨top.toNat,by show top=(top.toNat:Int);omega⟩
 obtain⟨r,h20,e20,rfl,K20⟩:=c94 h12 (Fv.tr S.ft) S.ok
 refine⟨_,_,_,_,_,_,S.rd 1 rfl rfl rfl,_,_,e20,?_⟩
 have S:Know g h20 [_,_,_]:=S.call K20
 rw[buildO_some]
 cases hvv:validF v with
 |false=>exact vcond_t rfl (zero S 2)
 |true=>
 obtain⟨hn,hs⟩:=valid_need N hvv
 refine vcond_f rfl ?_
 obtain⟨r,h37,e37,rfl,K37⟩:=c95 hs h20 (Fv.tr S.ft) S.ok
 refine⟨_,_,_,_,_,_,S.rd 1 rfl rfl rfl,_,_,_,e37,?_⟩
 have S:Know g h37 [_,_,_]:=S.call K37
 rw[if_pos rfl]
 cases hd:deepF v with
 |true=>exact vcond_t rfl (zero S 3)
 |false=>
 rw[if_neg (by decide)]
 refine vcond_f rfl ?_
 haveI:=S.ft
 have hrun:=hrun l hc
 rw[show(Int.ofNat tp).toNat=tp from rfl]at hrun ⊢
 have hW:W≠ []:=fun h=>by subst h;exact absurd f1 (by decide)
 have ftp:tp≤W.length:=Int.ofNat_le.1 f4
 obtain⟨r,h64,e64,q⟩:=ct80 hO S.ok (A.to h37) hW (by omega) (by omega) ftp (SlAt.nil 1 EInt h37:IntsAt h37 none 0 []) (fun x hx=>by cases hx) (by decide) (need:=needF v) (by omega) (fun h=>⟨(hrun h).1,(hrun h).2.1⟩) (c2:=0)
 generalize hr:roomC W tp R [] (needF v) s=rr at q ⊢
 obtain⟨oW,cw',m,ar',nr',cr',al,nl,cl,rfl,hcap,T,XL,hal⟩:=q
 refine⟨_,_,_,_,_,_,_,S.rd 2 rfl rfl rfl,_,_,_,_,_,_,_,_,_,_,_,_,e64,?_⟩
 have S:Know g h64 [_,_,_,_,_]:=S.comp T
 intro g65
 have S:Know g g65 [_,_,_,_,_,_]:=S.add _
 refine vreq_t (S.cw 0 rfl (by decide) rfl rfl) ?_
 intro g66
 have S:Know g g66 [ob h64.nx (.cells [.slice (some ⟨oW,0,none⟩) rr.W.length cw',.int .i64 (Int.ofNat rr.top),.slice ar' nr' cr'] 24 .fix),ob oW (.cells (iv rr.W) 3 m),slr ar' nr' cr' rr.R,ob g2.nx (.cells [.slice none 0 0,.int .i64 0,.slice none 0 0] 24 .fix),_,_]:=S.wr 0 rfl (by decide) rfl rfl
 cases his:rr.is with
 |false=>
  exact vcond_t rfl (zero (S.sel [3,0] (by decide) rfl) 3)
 |true=>
 rw[if_pos rfl]
 refine vcond_f rfl ?_
 obtain⟨r1,r2,_⟩:=room_fit (W:=W) (top:=tp) (R:=R) (l:=[]) (need:=needF v) (s:=s) (fun h=>(hrun h).2.2) (by rw[hr];exact his)
 rw[hr]at r1 r2
 obtain⟨r,h82,e82,rfl,S'⟩:= @c96 h64.nx oW cw' ar' nr' cr' m hs g66 [ob h64.nx (.cells [.slice (some ⟨oW,0,none⟩) rr.W.length cw',.int .i64 (Int.ofNat rr.top),.slice ar' nr' cr'] 24 .fix),ob oW (.cells (iv rr.W) 3 m),slr ar' nr' cr' rr.R,ob g2.nx (.cells [.slice none 0 0,.int .i64 0,.slice none 0 0] 24 .fix),_,_] 0 1 rr.W rr.top S (by simp) (by simp) (by decide) hcap r1 (by omega)
 refine⟨_,_,_,_,_,_,S.rd 4 rfl rfl rfl,_,_,e82,?_⟩
 obtain⟨b1,_⟩:=buildF_spec v rr.W rr.top hs
 generalize buildF v rr.W rr.top=bb at *
 have S:Know g h82 [ob h64.nx (.cells [.slice (some ⟨oW,0,none⟩) bb.1.length cw',.int .i64 (Int.ofNat bb.2.1),.slice ar' nr' cr'] 24 .fix),ob oW (.cells (iv bb.1) 3 m),slr ar' nr' cr' rr.R,ob g2.nx (.cells [.slice none 0 0,.int .i64 0,.slice none 0 0] 24 .fix),_,_]:=S'
 refine⟨_,_,_,_,_,_,_,S.rd 0 rfl rfl rfl,vreq_t (S.cw 3 rfl (by decide) rfl rfl) ?_⟩
 intro g90
 have S:Know g g90 [_,_,_,_,_,_]:=S.wr 3 rfl (by decide) rfl rfl
 have S2:Know g g90 [_,_,_,_,_,_]:=Know.obSlr S 1 rfl (cw:=cw') (by rw[b1];exact hcap) (by omega)
 exact⟨_,_,_,_,_,_,_,S.rd 3 rfl rfl rfl,_,rfl,_,_,_,_,_,_,rfl,S2.sel [1,2] (by decide) rfl⟩
end
end Go.Proofs.YtngcjpkccnfjiaaGreatDoor
namespace Go.Proofs.YtngcjpkccnfjiaaGreatDoor
set_option maxRecDepth 100000
open Go Go.Ev
section
variable {O:CallF}(hO:Oth O)
include hO
theorem ct32 {hv g:Hp}(Kv:Kp hv.nx hv g)(ok:g.Ok){aw:Option Addr}{nw cw:Nat}{W:List Int}{top:Int}{ar:Option Addr}{nr cr:Nat}{R:List Int}(A:HA g aw nw cw W ar nr cr R){v:Vl}{vs:List Value}(V:VA hv v vs)(N:Nice v)
 {s:Mv} {f:Nat} (hcol: ∀l,checkP W top R=some l→ ¬top.toNat+needF v≤W.length→reachO W 1 f 0 (withP 1 (R++[]) [])=some s.ord∧colD W 1 l s.ord=s.D∧1+totalW W s.ord=s.top∧(∀p∈s.ord,CellAt W p)∧1+totalW W s.ord≤W.length):
 Ret Tryz.prog O 32 [.agg #[.slice aw nw cw,.int .i64 top,.slice ar nr cr],.agg vs.toArray] g (QA g (buildO (checkP W top R) W top.toNat R v s).1 (buildO (checkP W top R) W top.toNat R v s).2):=by
 have Fv:Ft hv g:=Kv.ex (Nat.le_refl _)
 have c44:=fun g6 k6 ok6=>ct44 hO v V N (g:=g6) k6 ok6
 have c97:=fun g6 f6 ok6=>ct97 hO v V N (g:=g6) f6 ok6
 have c98:=fun g6 f6 ok6=>ct98 hO v V N (g:=g6) f6 ok6
 have c99:= @ct99 O hO hv g Fv
 have c99:=fun oW cw ar nr cr m hs=> @c99 oW cw ar nr cr m v vs V N hs
 obtain⟨v1,v2,v3,v4,v5,v6,rfl⟩:=V.form
 refine rk32 (hO:=hO _ _ _ (by decide)) (hh:= ?_) ..
 unfold T32
 intro g1 g2 g3
 have S:Know g g1 [_]:=(Know.nil ok).add _
 have S:Know g g2 [_,_]:=S.add _
 have S:Know g g3 [_,_,_]:=S.add _
 have zero: ∀ {x:Hp} {L:List Rs} {w1 w2 w3:Value} (_:Know g x (ob g2.nx (.cells [w1,w2,w3] 24 .fix)::L)) (e:Int),vreq (canW x g2.nx 0 [.slice none 0 0,.int .i64 0,.slice none 0 0])
  (∃a22' n23' c24',∃x25',∃a26' n27' c28',readAt (x.wr g2.nx 0 [.slice none 0 0,.int .i64 0,.slice none 0 0]) g2.nx 0 3=some [.slice a22' n23' c24',.int .i64 x25',.slice a26' n27' c28']∧
    QA g ⟨[],0,[],e⟩ 0 (.tuple #[.agg #[.slice a22' n23' c24',.int .i64 x25',.slice a26' n27' c28'],.int .i64 0,.int .i64 e]) (x.wr g2.nx 0 [.slice none 0 0,.int .i64 0,.slice none 0 0])):=by
  intro x L w1 w2 w3 S e
  refine vreq_t (S.cw 0 rfl (by decide) rfl rfl) ?_
  have S:Know g (x.wr g2.nx 0 [.slice none 0 0,.int .i64 0,.slice none 0 0]) (ob g2.nx (.cells [.slice none 0 0,.int .i64 0,.slice none 0 0] 24 .fix)::L):=S.wr 0 rfl (by decide) rfl rfl
  exact⟨_,_,_,_,_,_,_,S.rd 0 rfl rfl rfl,_,rfl,HK.zero S e⟩
 haveI:=S.ft
 obtain⟨r,h12,e12,rfl,K12⟩:=ct63 hO S.ok (A.to g3) (top:=top)
 refine⟨_,_,_,_,_,_,_,S.rd 2 rfl rfl rfl,_,_,e12,?_⟩
 have S:Know g h12 [_,_,_]:=S.call K12
 rw[formed_check]
 cases hc:checkP W top R with
 |none=>exact vcond_t rfl (zero S 2)
 |some l=>
 refine vcond_f rfl ?_
 obtain⟨f1,f2,f3,f4,f5,f6,f7,f8,f9⟩:=checkP_cells hc
 obtain⟨tp,rfl⟩: ∃tp:Nat,top=Int.ofNat tp:=⟨top.toNat,by show top=(top.toNat:Int);omega⟩
 obtain⟨r,h28,e28,rfl,K28⟩:=c44 h12 (Kv.trans (S.kp.le Kv.nx)) S.ok
 refine⟨_,_,_,_,_,_,S.rd 1 rfl rfl rfl,_,_,e28,?_⟩
 have S:Know g h28 [_,_,_]:=S.call K28
 rw[buildO_some]
 cases hvv:validF v with
 |false=>exact vcond_t rfl (zero S 2)
 |true=>
 obtain⟨hn,hs⟩:=valid_need N hvv
 refine vcond_f rfl ?_
 rw[if_pos rfl]
 intro g37
 have S:Know g g37 [_,_,_,_]:=S.rsvK 12
 have og:(g37.grd [g.nx]).Ok:=S.okg fun q hq=>by rw[List.mem_singleton.1 hq];exact(S.orng 3 rfl).2
 obtain⟨r,h52,e52,rfl,K52⟩:=c97 (g37.grd [g.nx]) (Fv.tr (S.ftg _)) og
 refine⟨_,_,_,_,_,_,_,S.rd 3 rfl rfl rfl,_,_,_,_,_,_,S.rd 2 rfl rfl rfl,_,_,e52,?_⟩
 intro g53
 have S:Know g g53 [_,_,_,_]:=S.callg K52
 haveI:=S.ftg []
 have hcol:=hcol l hc
 rw[show(Int.ofNat tp).toNat=tp from rfl]at hcol ⊢
 have hW:W≠ []:=fun h=>by subst h;exact absurd f1 (by decide)
 have ftp:tp≤W.length:=Int.ofNat_le.1 f4
 have ftp1:1≤tp:=Int.ofNat_le.1 f3
 obtain⟨r,h65,e65,q⟩:=ct83 hO (S.okg (l:=[]) fun q hq=>by cases hq) (A.to (g53.grd [])) hW f2 (by omega) ftp1 ftp (SlAt.nil 1 EInt (g53.grd []):IntsAt (g53.grd []) none 0 []) (fun x hx=>by cases hx) (by decide) (need:=needF v) (by omega) (fun h=>⟨cellsG_R f7,hcol h⟩) (c2:=0)
 have hro:(¬tp+needF v≤W.length→s.D.length=W.length):=fun h=>by
  obtain⟨_,c,_⟩:=hcol h
  rw[←c,colD_length]
 obtain⟨rr,hr⟩: ∃rr,roomC W tp R [] (needF v) s=rr:=⟨_,rfl⟩
 rw[hr]at q
 obtain⟨oW,cw',m,ar',nr',cr',al,nl,cl,rfl,hcap,T,XL,hal⟩:=q
 refine⟨_,_,_,_,_,_,_,_,_,_,_,_,e65,?_⟩
 intro g66
 have S:Know g g66 [_,_,_,_,_,_]:=S.compg T
 refine vreq_t (S.fre 2 rfl (Nat.le_add_right ..) (by omega) (by simp)) ?_
 intro g67
 have S:Know g g67 [_,_,_,_,_,_,_]:=S.lay 2 rfl (Nat.le_add_right ..) (by omega) (by simp) _
 refine vreq_t (S.cwg 0 rfl (fun _ h=>by cases h) (by decide) rfl rfl) ?_
 intro g68 g69
 have S:Know g g69 [ob (h28.nx+8) (.cells [.slice (some ⟨oW,0,none⟩) rr.W.length cw',.int .i64 (Int.ofNat rr.top),.slice ar' nr' cr'] 24 .fix),ob oW (.cells (iv rr.W) 3 m),slr ar' nr' cr' rr.R,_,ob g2.nx (.cells [.slice none 0 0,.int .i64 0,.slice none 0 0] 24 .fix),_,_]:=S.wrg 0 rfl (fun _ h=>by cases h) (by decide) rfl rfl
 obtain⟨r,h77,e77,rfl,K77⟩:=c98 g69 (Fv.tr S.ft) S.ok
 refine⟨_,_,_,_,_,_,S.rd 5 rfl rfl rfl,_,_,e77,?_⟩
 have S:Know g h77 [ob (h28.nx+8) (.cells [.slice (some ⟨oW,0,none⟩) rr.W.length cw',.int .i64 (Int.ofNat rr.top),.slice ar' nr' cr'] 24 .fix),ob oW (.cells (iv rr.W) 3 m),slr ar' nr' cr' rr.R,_,ob g2.nx (.cells [.slice none 0 0,.int .i64 0,.slice none 0 0] 24 .fix),_,_]:=S.call K77
 cases hd:deepF v with
 |true=>exact vcond_t rfl (zero (S.sel [4,0] (by decide) rfl) 3)
 |false=>
 rw[if_neg (by decide),hr]
 refine vcond_f rfl ?_
 cases his:rr.is with
 |false=>exact vcond_t rfl (zero (S.sel [4,0] (by decide) rfl) 3)
 |true=>
 rw[if_pos rfl]
 refine vcond_f rfl ?_
 obtain⟨r1,r2,_⟩:=room_fit (W:=W) (top:=tp) (R:=R) (l:=[]) (need:=needF v) (s:=s) hro (by rw[hr];exact his)
 rw[hr]at r1 r2
 obtain⟨r,h115,e115,rfl,S'⟩:= @c99 oW cw' ar' nr' cr' m hs h77 [ob (h28.nx+8) (.cells [.slice (some ⟨oW,0,none⟩) rr.W.length cw',.int .i64 (Int.ofNat rr.top),.slice ar' nr' cr'] 24 .fix),ob oW (.cells (iv rr.W) 3 m),slr ar' nr' cr' rr.R,_,ob g2.nx (.cells [.slice none 0 0,.int .i64 0,.slice none 0 0] 24 .fix),_,_] 1 rr.W rr.top S (by simp) hcap r1 (by omega)
 refine⟨_,_,_,_,_,_,_,S.rd 0 rfl rfl rfl,_,_,_,_,_,_,S.rd 5 rfl rfl rfl,_,_,_,_,_,_,_,_,_,e115,?_⟩
 obtain⟨b1,_⟩:=buildF_spec v rr.W rr.top hs
 generalize buildF v rr.W rr.top=bb at *
 have S:Know g h115 [ob (h28.nx+8) (.cells [.slice (some ⟨oW,0,none⟩) rr.W.length cw',.int .i64 (Int.ofNat rr.top),.slice ar' nr' cr'] 24 .fix),ob oW (.cells (iv bb.1) 3 m),slr ar' nr' cr' rr.R,_,ob g2.nx (.cells [.slice none 0 0,.int .i64 0,.slice none 0 0] 24 .fix),_,_]:=S'
 refine vreq_t (S.cw 0 rfl (by decide) rfl rfl) ?_
 intro g116
 have S:Know g g116 [_,_,_,_,_,_,_]:=S.wr 0 rfl (by decide) rfl rfl
 refine⟨_,_,_,_,_,_,_,S.rd 0 rfl rfl rfl,vreq_t (S.cw 4 rfl (by decide) rfl rfl) ?_⟩
 intro g124
 have S:Know g g124 [_,_,_,_,_,_,_]:=S.wr 4 rfl (by decide) rfl rfl
 have S2:Know g g124 [_,_,_,_,_,_,_]:=Know.obSlr S 1 rfl (cw:=cw') (by rw[b1];exact hcap) (by omega)
 rw[b1]at S2
 exact⟨_,_,_,_,_,_,_,S.rd 4 rfl rfl rfl,_,rfl,_,_,_,_,_,_,rfl,S2.sel [1,2] (by decide) rfl⟩
end
end Go.Proofs.YtngcjpkccnfjiaaGreatDoor
namespace Go.Proofs.YtngcjpkccnfjiaaGreatDoor
set_option maxRecDepth 100000
open Go Go.Ev
theorem sEq_refl (t:ByteArray):sEq t t=true:=by unfold sEq;exact beq_self_eq_true _
abbrev zV:Vl:= .mk 0 0 eS []
def rdT (fs:List Int):ByteArray:=ByteArray.mk (fs.map fun x=>UInt8.ofNat x.toNat).toArray
abbrev Rdd:=Vl×Int×Int
def rdL (f:Int→Int→Rdd):List Int→Int→List Vl×Int×Int
 | [],left=>([],left,0)
 |w::r,left=>if (f w left).2.2≠0 then ([],(f w left).2.1,(f w left).2.2)else
  if (rdL f r (f w left).2.1).2.2≠0 then ([],(rdL f r (f w left).2.1).2.1,(rdL f r (f w left).2.1).2.2)
  else ((f w left).1::(rdL f r (f w left).2.1).1,(rdL f r (f w left).2.1).2.1,0)
def rdP (f:Int→Int→Rdd)(kk:Int)(fs:List Int)(left:Int):Rdd:=
 if (rdL f fs left).2.2≠0 then (zV,(rdL f fs left).2.1,(rdL f fs left).2.2)
 else if kk=5∧incF (rdL f fs left).1=false then (zV,(rdL f fs left).2.1,7)
 else (.mk kk 0 eS (rdL f fs left).1,(rdL f fs left).2.1,0)
def rdF (W:List Int):Nat→Int→Int→Rdd
 |0,_,left=>(zV,left-1,3)
 |d+1,w,left=>
  if left<1 then (zV,left-1,3)
  else if Int.tmod w 2≠0 then (.mk 1 (Int.tdiv (w-1) 2) eS [],left-1,0)
  else if w=0 then (zV,left-1,7)
  else if hdK (W.getD (Int.tdiv w 2).toNat 0)=4 then (.mk 2 ((fieldsW W (Int.tdiv w 2).toNat).getD 0 0) eS [],left-1,0)
  else if hdK (W.getD (Int.tdiv w 2).toNat 0)=3 then (.mk 3 0 (rdT (fieldsW W (Int.tdiv w 2).toNat)) [],left-1,0)
  else if hdK (W.getD (Int.tdiv w 2).toNat 0)=1 then (if (fieldsW W (Int.tdiv w 2).toNat).length<2∨6<(fieldsW W (Int.tdiv w 2).toNat).length then (zV,left-1,7)else rdP (rdF W d) 4 (fieldsW W (Int.tdiv w 2).toNat) (left-1))
  else if hdK (W.getD (Int.tdiv w 2).toNat 0)=2 then rdP (rdF W d) 5 (fieldsW W (Int.tdiv w 2).toNat) (left-1)
  else (zV,left-1,7)
structure Wk (W:List Int)(l:List Nat):Prop where
 at_: ∀p∈l,CellAt W p
 ok: ∀p∈l,fieldsR l (hdK (W.getD p 0)) (fieldsW W p)=true
 pos: ∀p∈l,1≤p
 l200:W.length≤200
theorem Wk.of {W:List Int}{top:Int}{R:List Int}{l:List Nat}(h:checkP W top R=some l):Wk W l∧ ∀w∈R,wordR l w=true:=by
 obtain⟨f1,f2,f3,f4,f5,f6,f7,f8,f9⟩:=checkP_cells h
 have hm:=(cellsR_mem (cellsG_R f7)).2
 have hfm:formedR W top R=some l:=by rw[formed_check,h]
 have hok:(cellsOk W l l&&R.all (wordR l))=true:=by
  unfold formedR at hfm
  split at hfm
  · cases hfm
  · split at hfm
    · cases hfm
    · split at hfm
      · cases hfm
      · rename_i l' _
        split at hfm
        · rename_i hc
          obtain rfl:=Option.some.inj hfm
          exact hc
        · cases hfm
 rw[Bool.and_eq_true]at hok
 refine⟨⟨fun p hp=> ?_,fun p hp=> ?_,fun p hp=>(hm p hp).1,f2⟩,fun w hw=>List.all_eq_true.1 hok.2 w hw⟩
 · have:=hm p hp
   exact⟨by omega,this.2.2.1,this.2.2.2.1,by omega⟩
 · have:=hok.1
   unfold cellsOk at this
   exact List.all_eq_true.1 this p hp
theorem Wk.form {W:List Int}{l:List Nat}(k:Wk W l){p:Nat}(hp:p∈l):1≤hdK (W.getD p 0)∧hdK (W.getD p 0)≤5∧(fieldsW W p).length≤20∧(hdK (W.getD p 0)=4→(fieldsW W p).length=1)∧ ∀x∈fieldsW W p,fieldR l (hdK (W.getD p 0)) x=true:=by
 have:=k.ok p hp
 unfold fieldsR at this
 split at this
 · cases this
 · rename_i hc
   exact⟨by omega,by omega,by omega,fun h=>by omega,List.all_eq_true.1 this⟩
theorem wordR_even {l:List Nat}{w:Int}(h:wordR l w=true)(h2: ¬Int.tmod w 2≠0)(h0:w≠0): ∃p∈l,w=2*(p:Int)∧(Int.tdiv w 2).toNat=p∧Int.tdiv w 2=(p:Int):=by
 unfold wordR at h
 rw[if_neg h0,if_neg h2,List.contains_iff_mem,List.mem_map]at h
 obtain⟨p,hp,e⟩:=h
 have e:Int.tdiv w 2=(p:Int):=e.symm
 have h2:Int.tmod w 2=0:=by simpa using h2
 have:=Int.mul_tdiv_add_tmod w 2
 exact⟨p,hp,by omega,by rw[e];rfl,e⟩
mutual
theorem weigh_mono: ∀(v:Vl)(l d l' d':Int),-1≤l→l≤l'→d≤d'→0≤weighF v l d→weighF v l' d'=weighF v l d+(l'-l)
 | .mk k n t ps,l,d,l',d',h1,hl,hd,h=>by
   simp only[weighF]at h ⊢
   split at h
   · omega
   · rename_i hc
     rw[if_neg hc,if_neg (by omega),weighL_mono ps (l-1) (d-1) (l'-1) (d'-1) (by omega) (by omega) (by omega) h]
     omega
theorem weighL_mono: ∀(ps:List Vl)(l d l' d':Int),-1≤l→l≤l'→d≤d'→0≤weighL ps l d→weighL ps l' d'=weighL ps l d+(l'-l)
 | [],l,d,l',d',h1,hl,hd,h=>by simp only[weighL];omega
 |v::r,l,d,l',d',h1,hl,hd,h=>by
  simp only[weighL]at h ⊢
  split at h
  · omega
  · rename_i hc
    have a:=weighF_le v l d h1
    have b:=weighL_le r (weighF v l d) d a.1
    rw[if_neg hc,if_neg (by omega),weigh_mono v l d l' d' h1 hl hd (by omega),weighL_mono r (weighF v l d) d (weighF v l d+(l'-l)) d' a.1 (by omega) hd h]
    omega
end
theorem briefL_of: ∀ {ps:List Vl},(∀p∈ps,briefF p=true)→briefL ps=true
 | [],_=>rfl
 |v::r,h=>by simp only[briefL,h v List.mem_cons_self,briefL_of fun p hp=>h p (List.mem_cons_of_mem _ hp),Bool.and_self]
theorem shapedL_of: ∀ {ps:List Vl},(∀p∈ps,shapedF p=true)→shapedL ps=true
 | [],_=>by simp only[shapedL]
 |v::r,h=>by simp only[shapedL,h v List.mem_cons_self,shapedL_of fun p hp=>h p (List.mem_cons_of_mem _ hp),Bool.and_self]
def Good (d:Int)(left:Int)(r:Rdd):Prop:=r.2.2=0→shapedF r.1=true∧briefF r.1=true∧weighF r.1 left d=r.2.1∧0≤r.2.1
theorem rdL_good {f:Int→Int→Rdd}{d:Int}: ∀(fs:List Int)(left:Int),0≤left→(∀w∈fs,∀left,0≤left→Good d left (f w left))→(rdL f fs left).2.2=0→
 (rdL f fs left).1.length=fs.length∧(∀p∈(rdL f fs left).1,shapedF p=true∧briefF p=true)∧weighL (rdL f fs left).1 left d=(rdL f fs left).2.1∧0≤(rdL f fs left).2.1
 | [],left,h0,hf,he=>by
   simp only[rdL]
   exact⟨rfl,fun p hp=>(by cases hp),by simp only[weighL],h0⟩
 |w::r,left,h0,hf,he=>by
  have g:=hf w List.mem_cons_self left h0
  unfold rdL at he ⊢
  by_cases h1:(f w left).2.2≠0
  · rw[if_pos h1]at he;exact absurd he h1
  · rw[if_neg h1]at he ⊢
    obtain⟨g1,g2,g3,g4⟩:=g (by omega)
    by_cases h2:(rdL f r (f w left).2.1).2.2≠0
    · rw[if_pos h2]at he;exact absurd he h2
    · rw[if_neg h2]
      obtain⟨a1,a2,a3,a4⟩:=rdL_good r (f w left).2.1 g4 (fun w hw=>hf w (List.mem_cons_of_mem _ hw)) (by omega)
      refine⟨by simp only[List.length_cons,a1],fun p hp=> ?_,?_,a4⟩
      · rcases List.mem_cons.1 hp with rfl|hp
        · exact⟨g1,g2⟩
        · exact a2 p hp
      · simp only[weighL]
        rw[if_neg (by omega),g3,a3]
theorem letters_rdT {fs:List Int}{l:List Nat}(h: ∀x∈fs,fieldR l 3 x=true)(h20:fs.length≤20):lettersF (rdT fs)=true∧(rdT fs).size=fs.length∧bytesI (rdT fs)=fs:=by
 have hsz:(rdT fs).size=fs.length:=by
  show(fs.map _).toArray.size=_
  simp
 have hx: ∀x∈fs,32≤x∧x≤126∧x≠34∧x≠92:=by
  intro x hx
  have:=h x hx
  unfold fieldR letterB at this
  simp only[if_pos,Bool.and_eq_true,decide_eq_true_eq,Bool.not_eq_true',beq_eq_false_iff_ne]at this
  exact⟨this.1.1.1,this.1.1.2,this.1.2,this.2⟩
 have hb: ∀i (hi:i<fs.length),byteI (rdT fs) i=fs[i]:=by
  intro i hi
  unfold byteI rdT
  have:=hx _ (List.getElem_mem hi)
  rw[List.getElem?_eq_getElem (by simpa using hi)]
  simp only[List.getElem_map]
  show Int.ofNat (UInt8.ofNat fs[i].toNat).toNat=fs[i]
  rw[UInt8.toNat_ofNat_of_lt' (by show fs[i].toNat<256;omega)]
  show((fs[i].toNat:Nat):Int)=fs[i]
  omega
 refine⟨?_,hsz,?_⟩
 · unfold lettersF
   rw[hsz,Bool.and_eq_true]
   refine⟨List.all_eq_true.2 fun i hi=> ?_,?_⟩
   · rw[List.mem_range]at hi
     have:=hx _ (List.getElem_mem hi)
     rw[hb i hi]
     unfold okByte
     rw[lt_f (by omega),lt_f (by omega),eqI_f (by omega),eqI_f (by omega)]
     rfl
   · rw[lt_f (by simp only[Int.ofNat_eq_natCast];omega)];rfl
 · refine List.ext_getElem (by rw[bytesI_length,hsz]) fun i h1 h2=> ?_
   have h3:i<(rdT fs).size:=by rw[hsz];exact h2
   have:=(bytesI_get h3).1
   rw[List.getElem?_eq_getElem h1]at this
   rw[←hb i h2]
   exact Option.some.inj this
theorem rd_good {W:List Int}{l:List Nat}(k:Wk W l): ∀(d:Nat)(w left:Int),wordR l w=true→0≤left→Good (d:Int) left (rdF W d w left):=by
 intro d
 induction d with
 |zero=>intro w left hw h0 he;exact absurd he (by show(3:Int)≠0;decide)
 |succ d ih=>
  intro w left hw h0
  have part: ∀(kk:Int) (fs:List Int),(kk=4∨kk=5)→(kk=4→2≤fs.length∧fs.length≤6)→1≤left→(∀x∈fs,wordR l x=true)→Good ((d+1:Nat):Int) left (rdP (rdF W d) kk fs (left-1)):=by
   intro kk fs hk h4 h1 hfs he
   unfold rdP at he ⊢
   by_cases e1:(rdL (rdF W d) fs (left-1)).2.2≠0
   · rw[if_pos e1]at he;exact absurd he e1
   · rw[if_neg e1]at he ⊢
     obtain⟨a1,a2,a3,a4⟩:=rdL_good (d:=(d:Int)) fs (left-1) (by omega) (fun x hx l' h0=>ih x l' (hfs x hx) h0) (by omega)
     by_cases e2:kk=5∧incF (rdL (rdF W d) fs (left-1)).1=false
     · rw[if_pos e2]at he;exact absurd he (by show(7:Int)≠0;decide)
     · rw[if_neg e2]
       refine⟨?_,?_,?_,a4⟩
       · rw[shapedF_mk,shapedL_of fun p hp=>(a2 p hp).1,Bool.true_and]
         rcases hk with rfl|rfl
         · have:=h4 rfl
           show(eqI 0 0&&(sEq eS eS&&(!(ltI (Int.ofNat _) 2)&& !(ltI 6 (Int.ofNat _)))))=true
           rw[a1,lt_f (by simp only[Int.ofNat_eq_natCast];omega),lt_f (by simp only[Int.ofNat_eq_natCast];omega),sEq_refl]
           rfl
         · have:incF (rdL (rdF W d) fs (left-1)).1=true:=by
            cases hi:incF (rdL (rdF W d) fs (left-1)).1 with
            |true=>rfl
            |false=>exact absurd ⟨rfl,hi⟩ e2
           show(incF _&&(eqI 0 0&&sEq eS eS))=true
           rw[this,sEq_refl];rfl
       · simp only[briefF,briefL_of fun p hp=>(a2 p hp).2,Bool.true_and]
         decide
       · simp only[weighF]
         rw[if_neg (by omega),show(((d+1:Nat):Int)-1)=(d:Int) by omega,a3]
  unfold rdF
  by_cases c1:left<1
  · rw[if_pos c1];intro he;exact absurd he (by show(3:Int)≠0;decide)
  rw[if_neg c1]
  have leaf: ∀(kk n:Int) (t:ByteArray),formF kk n t []=true→t.size≤30→Good ((d+1:Nat):Int) left (.mk kk n t [],left-1,0):=by
   intro kk n t hf ht _
   refine⟨by rw[shapedF_mk,hf];simp only[shapedL,Bool.and_self],?_,?_,by show 0≤left-1;omega⟩
   · simp only[briefF,briefL,Bool.true_and]
     rw[lt_f (by simp only[Int.ofNat_eq_natCast];omega)];rfl
   · simp only[weighF,weighL]
     rw[if_neg (by omega)]
  by_cases c2:Int.tmod w 2≠0
  · rw[if_pos c2]
    refine leaf 1 _ eS ?_ (by decide)
    have hw':=hw
    unfold wordR at hw'
    have c0:w≠0:=fun h=>by subst h;exact c2 rfl
    rw[if_neg c0,if_pos c2,Bool.and_eq_true,decide_eq_true_eq,decide_eq_true_eq]at hw'
    have e:Int.tdiv (w-1) 2≥ -1000000000∧Int.tdiv (w-1) 2≤1000000000:=by
     rw[tdiv_eq];split<;>omega
    show((!(ltI _ (-1000000000))&& !(ltI 1000000000 _))&&(sEq eS eS&&eqI (Int.ofNat 0) 0))=true
    rw[lt_f (by omega),lt_f (by omega),sEq_refl]
    rfl
  rw[if_neg c2]
  by_cases c3:w=0
  · rw[if_pos c3];intro he;exact absurd he (by show(7:Int)≠0;decide)
  rw[if_neg c3]
  obtain⟨p,hp,_,ep,_⟩:=wordR_even hw c2 c3
  rw[ep]
  obtain⟨k1,k2,k3,k4,k5⟩:=k.form hp
  by_cases h4:hdK (W.getD p 0)=4
  · rw[if_pos h4]
    have:=k4 h4
    obtain⟨x,hx⟩:=List.length_eq_one_iff.1 this
    have hf:=k5 x (by rw[hx];exact List.mem_singleton.2 rfl)
    rw[hx]
    refine leaf 2 x eS ?_ (by decide)
    unfold fieldR at hf
    rw[h4,if_neg (by decide),if_pos rfl,Bool.or_eq_true,beq_iff_eq,beq_iff_eq]at hf
    rcases hf with rfl|rfl
    · show((!(ltI 0 0)&& !(ltI 1 0))&&(sEq eS eS&&eqI (Int.ofNat 0) 0))=true
      rw[sEq_refl];rfl
    · show((!(ltI 1 0)&& !(ltI 1 1))&&(sEq eS eS&&eqI (Int.ofNat 0) 0))=true
      rw[sEq_refl];rfl
  rw[if_neg h4]
  by_cases h3:hdK (W.getD p 0)=3
  · rw[if_pos h3]
    rw[h3]at k5
    obtain⟨q1,q2,_⟩:=letters_rdT k5 k3
    refine leaf 3 0 _ ?_ (by omega)
    show(eqI 0 0&&(lettersF _&&eqI (Int.ofNat 0) 0))=true
    rw[q1];decide
  rw[if_neg h3]
  have hwf:hdK (W.getD p 0)≠3→hdK (W.getD p 0)≠4→ ∀x∈fieldsW W p,wordR l x=true:=fun a b x hx=>by
   have:=k5 x hx
   unfold fieldR at this
   rw[if_neg a,if_neg b]at this
   exact this
  by_cases h1:hdK (W.getD p 0)=1
  · rw[if_pos h1]
    by_cases c:(fieldsW W p).length<2∨6<(fieldsW W p).length
    · rw[if_pos c];intro he;exact absurd he (by show(7:Int)≠0;decide)
    · rw[if_neg c]
      exact part 4 _ (.inl rfl) (fun _=>by omega) (by omega) (hwf h3 h4)
  rw[if_neg h1]
  by_cases h2:hdK (W.getD p 0)=2
  · rw[if_pos h2]
    exact part 5 _ (.inr rfl) (fun h=>by omega) (by omega) (hwf h3 h4)
  · rw[if_neg h2];intro he;exact absurd he (by show(7:Int)≠0;decide)
theorem Good.valid {d:Int}{left:Int}{r:Rdd}(g:Good d left r)(he:r.2.2=0)(h0:0≤left)(hl:left≤200)(hd:d≤8):validF r.1=true∧Nice r.1:=by
 obtain⟨g1,g2,g3,g4⟩:=g he
 have h:=weigh_mono r.1 left d 200 8 (by omega) hl hd (by omega)
 refine⟨?_,⟨left,d,by omega,by omega,by omega⟩,g2⟩
 unfold validF fitsF
 rw[g1,lt_f (by omega)];rfl
end Go.Proofs.YtngcjpkccnfjiaaGreatDoor
namespace Go.Proofs.YtngcjpkccnfjiaaGreatDoor
open Go Go.Ev
set_option maxRecDepth 100000
set_option linter.unusedVariables false
noncomputable def b10:Code:=(Tryz.f10.body).getD .skip
noncomputable def b43:Code:=(Tryz.f43.body).getD .skip
end Go.Proofs.YtngcjpkccnfjiaaGreatDoor
namespace Go.Proofs.YtngcjpkccnfjiaaGreatDoor
set_option maxRecDepth 100000
open Go Go.Ev
def fdE (f:Fd):List Value:=[.int .i64 f.n,.bool f.refs]
abbrev FdsAt:=SlAt 2 (ECells fdE)
def ECl:Enc Cl:=fun h c vs=> ∃a n cp,vs=[.int .i64 c.kind,.slice a n cp]∧FdsAt h a n c.fs
instance:EUp ECl:=⟨fun _ h' _ _ _ ⟨a,n,c,h1,h2⟩=>⟨a,n,c,h1,h2.to h'⟩⟩
end Go.Proofs.YtngcjpkccnfjiaaGreatDoor
namespace Go.Proofs.YtngcjpkccnfjiaaGreatDoor
set_option maxRecDepth 100000
open Go Go.Ev
end Go.Proofs.YtngcjpkccnfjiaaGreatDoor
namespace Go.Ev
open Go
def clo (own:Nat→Prop)(F:Hp→Prop):Rs:=⟨own,fun h=> ∀h':Hp,h.nx≤h'.nx→(∀b,own b→h'.get b=h.get b)→F h'⟩
theorem clo.loc (own:Nat→Prop)(F:Hp→Prop):(clo own F).Loc:=fun _ _ hn he hP h'' hn2 he2=>hP h'' (Nat.le_trans hn hn2) fun b hb=>(he2 b hb).trans (he b hb)
theorem clo.get {own:Nat→Prop}{F:Hp→Prop}{h:Hp}(hP:(clo own F).P h):F h:=hP h (Nat.le_refl _) fun _ _=>rfl
theorem Know.merge {h0 g:Hp}{r s:Rs}{L:List Rs}(S:Know h0 g (r::s::L))(F:Hp→Prop)(hF: ∀h',r.P h'→s.P h'→F h'):Know h0 g (clo (fun o=>r.own o∨s.own o) F::L):=by
 obtain⟨r1,r2,r3⟩:=S.at_ r (List.mem_cons_self ..)
 obtain⟨s1,s2,s3⟩:=S.at_ s (List.mem_cons_of_mem _ (List.mem_cons_self ..))
 obtain⟨d1,d2⟩:=List.pairwise_cons.1 S.dis
 obtain⟨d3,d4⟩:=List.pairwise_cons.1 d2
 refine⟨S.ok,S.kp,fun q hq=> ?_,List.pairwise_cons.2 ⟨fun q hq b hb hqb=> ?_,d4⟩,S.ok0⟩
 · rcases List.mem_cons.1 hq with rfl|hq
   · exact⟨clo.loc _ _,fun h' hn he=>hF h' (r1 g h' hn (fun b hb=>he b (.inl hb)) r2) (s1 g h' hn (fun b hb=>he b (.inr hb)) s2),fun b hb=>hb.elim (r3 b) (s3 b)⟩
   · exact S.at_ q (List.mem_cons_of_mem _ (List.mem_cons_of_mem _ hq))
 · rcases hb with hb|hb
   · exact d1 q (List.mem_cons_of_mem _ hq) b hb hqb
   · exact d3 q hq b hb hqb
end Go.Ev
namespace Go.Proofs.YtngcjpkccnfjiaaGreatDoor
set_option maxRecDepth 100000
open Go Go.Ev
abbrev bv (xs:List Nat):List Value:=xs.map fun x=>Value.int .u8 (Int.ofNat x)
structure Bytes (v0:Array Value)(xs:List Nat):Prop where
 v:v0.toList=bv xs
 len:xs.length=51
 lt: ∀x∈xs,x<256
end Go.Proofs.YtngcjpkccnfjiaaGreatDoor
namespace Go.Proofs.YtngcjpkccnfjiaaGreatDoor
set_option maxRecDepth 100000
open Go Go.Ev
end Go.Proofs.YtngcjpkccnfjiaaGreatDoor
namespace Go.Ev
open Go
end Go.Ev
namespace Go.Proofs.YtngcjpkccnfjiaaGreatDoor
set_option maxRecDepth 100000
open Go Go.Ev
end Go.Proofs.YtngcjpkccnfjiaaGreatDoor
namespace Go.Proofs.YtngcjpkccnfjiaaGreatDoor
set_option maxRecDepth 100000
open Go Go.Ev
end Go.Proofs.YtngcjpkccnfjiaaGreatDoor
namespace Go.Proofs.YtngcjpkccnfjiaaGreatDoor
set_option maxRecDepth 100000
open Go Go.Ev
end Go.Proofs.YtngcjpkccnfjiaaGreatDoor
namespace Go.Proofs.YtngcjpkccnfjiaaGreatDoor
set_option maxRecDepth 100000
open Go Go.Ev
end Go.Proofs.YtngcjpkccnfjiaaGreatDoor
namespace Go.Proofs.YtngcjpkccnfjiaaGreatDoor
set_option maxRecDepth 100000
open Go Go.Ev
structure LayOk (L:List Cl)(o:List Nat)(rs:List Fd)(fr:Nat):Prop where
 nd:o.Nodup
 lt: ∀i∈o,i<L.length
 refs: ∀i∈o,∀f∈(clAt L i).fs,f.refs=true→f.n=(f.n.toNat:Int)∧f.n.toNat∈o
 roots: ∀f∈rs,f.refs=true→f.n=(f.n.toNat:Int)∧f.n.toNat∈o
 kind: ∀i∈o,0≤(clAt L i).kind∧(clAt L i).kind≤10
 lL:L.length≤1000
 lr:rs.length≤1000
 fit:layT L o+fr≤100000
end Go.Proofs.YtngcjpkccnfjiaaGreatDoor
namespace Go.Proofs.YtngcjpkccnfjiaaGreatDoor
set_option maxRecDepth 100000
open Go Go.Ev
end Go.Proofs.YtngcjpkccnfjiaaGreatDoor
namespace Go.Proofs.YtngcjpkccnfjiaaGreatDoor
set_option maxRecDepth 100000
open Go Go.Ev
end Go.Proofs.YtngcjpkccnfjiaaGreatDoor
namespace Go.Ev
open Go
end Go.Ev
namespace Go.Proofs.YtngcjpkccnfjiaaGreatDoor
set_option maxRecDepth 100000
open Go Go.Ev
end Go.Proofs.YtngcjpkccnfjiaaGreatDoor
namespace Go.Proofs.YtngcjpkccnfjiaaGreatDoor
set_option maxRecDepth 100000
open Go Go.Ev
def VAs (x:Hp)(xs:List Value)(ps:List Vl):Prop:=xs.length=ps.length*4∧ ∀(i:Nat)(hi:i<ps.length),VA x ps[i] ((xs.drop (i*4)).take 4)
theorem VAs.snoc {x:Hp}{xs vs:List Value}{ps:List Vl}{v:Vl}(h:VAs x xs ps)(hv:VA x v vs)(h4:vs.length=4):VAs x (xs++vs) (ps++[v]):=by
 refine⟨by rw[List.length_append,List.length_append,h.1,h4,List.length_singleton];omega,fun i hi=> ?_⟩
 rcases Nat.lt_or_ge i ps.length with h1|h1
 · rw[List.getElem_append_left h1]
   have:=h.2 i h1
   rw[List.drop_append_of_le_length (by rw[h.1];omega),List.take_append_of_le_length (by rw[List.length_drop,h.1];omega)]
   exact this
 · rw[List.length_append,List.length_singleton]at hi
   obtain rfl:i=ps.length:=by omega
   rw[←h.1,List.drop_left,List.take_of_length_le (by omega)]
   simpa using hv
theorem app44:AppT Tryz.prog 44 46 4 56:=⟨Tryz.underlying44,by kernel_rfl⟩
def QRd (h0:Hp)(L:List Rs)(i:Nat)(M:Int→Rs)(r:Rdd):Value→Hp→Prop:=fun u h'=> ∃vs lf own,u= .tuple #[.agg vs.toArray,.int .i64 r.2.2]∧(r.2.2=0→lf=r.2.1)∧Know h0 h' (clo own (fun x=>VA x r.1 vs)::L.set i (M lf))
theorem rleaf {h0 x:Hp}{L:List Rs}{i:Nat}{M:Int→Rs}{bz:Nat}{w1 w2 w3 w4:Value}{lf:Int}(S:Know h0 x (ob bz (.cells [w1,w2,w3,w4] 46 .fix)::L.set i (M lf)))(k n:Int)(t:ByteArray)(lf' e:Int)(he:e=0→lf=lf'):
 vreq (canW x bz 0 [.int .i64 k,.int .i64 n,.string t,.slice none 0 0]) (∃x6' x7' s8' a9' n10' c11',readAt (x.wr bz 0 [.int .i64 k,.int .i64 n,.string t,.slice none 0 0]) bz 0 4=some [.int .i64 x6',.int .i64 x7',.string s8',.slice a9' n10' c11']∧
  QRd h0 L i M (.mk k n t [],lf',e) (.tuple #[.agg #[.int .i64 x6',.int .i64 x7',.string s8',.slice a9' n10' c11'],.int .i64 e]) (x.wr bz 0 [.int .i64 k,.int .i64 n,.string t,.slice none 0 0])):=by
 refine vreq_t (S.cw 0 rfl (by decide) rfl rfl) ?_
 have S2:Know h0 (x.wr bz 0 [.int .i64 k,.int .i64 n,.string t,.slice none 0 0]) (ob bz (.cells [.int .i64 k,.int .i64 n,.string t,.slice none 0 0] 46 .fix)::L.set i (M lf)):=S.wr 0 rfl (by decide) rfl rfl
 refine⟨_,_,_,_,_,_,S2.rd 0 rfl rfl rfl,[.int .i64 k,.int .i64 n,.string t,.slice none 0 0],lf,fun _=>False,rfl,he,?_⟩
 have S3:=S2.sub (L.set i (M lf)) (List.sublist_cons_self ..)
 exact S3.push (r':=clo (fun _=>False) (fun y=>VA y (.mk k n t []) [.int .i64 k,.int .i64 n,.string t,.slice none 0 0])) (Kp.refl _ _) (clo.loc _ _) (fun _ _ _=> .nil k n t 0) fun _ h=>h.elim
theorem rcopy {h0 x:Hp}{L:List Rs}{i:Nat}{M:Int→Rs}{bz:Nat}{w1 w2 w3 w4:Value}{lf:Int}{own:Nat→Prop}{r:Rdd}{k n:Int}{t:ByteArray}{a:Option Addr}{m c:Nat}(S:Know h0 x (clo own (fun y=>VA y r.1 [.int .i64 k,.int .i64 n,.string t,.slice a m c])::ob bz (.cells [w1,w2,w3,w4] 46 .fix)::L.set i (M lf)))(he:r.2.2=0→lf=r.2.1):
 vreq (canW x bz 0 [.int .i64 k,.int .i64 n,.string t,.slice a m c]) (∃x6' x7' s8' a9' n10' c11',readAt (x.wr bz 0 [.int .i64 k,.int .i64 n,.string t,.slice a m c]) bz 0 4=some [.int .i64 x6',.int .i64 x7',.string s8',.slice a9' n10' c11']∧
  QRd h0 L i M r (.tuple #[.agg #[.int .i64 x6',.int .i64 x7',.string s8',.slice a9' n10' c11'],.int .i64 r.2.2]) (x.wr bz 0 [.int .i64 k,.int .i64 n,.string t,.slice a m c])):=by
 refine vreq_t (S.cw 1 rfl (by decide) rfl rfl) ?_
 have S2:Know h0 (x.wr bz 0 [.int .i64 k,.int .i64 n,.string t,.slice a m c]) (clo own (fun y=>VA y r.1 [.int .i64 k,.int .i64 n,.string t,.slice a m c])::ob bz (.cells [.int .i64 k,.int .i64 n,.string t,.slice a m c] 46 .fix)::L.set i (M lf)):=S.wr 1 rfl (by decide) rfl rfl
 exact⟨_,_,_,_,_,_,S2.rd 1 rfl rfl rfl,[.int .i64 k,.int .i64 n,.string t,.slice a m c],lf,own,rfl,he,S2.sub _ (.cons_cons _ (List.sublist_cons_self ..))⟩
theorem rdL_shape {f:Int→Int→Rdd}(fs:List Int)(left:Int):rdL f fs left=if (rdL f fs left).2.2≠0 then ([],(rdL f fs left).2.1,(rdL f fs left).2.2)else ((rdL f fs left).1,(rdL f fs left).2.1,0):=by
 cases fs with
 |nil=>rfl
 |cons w r=>
  rw[rdL]
  by_cases h1:(f w left).2.2≠0
  · rw[if_pos h1,if_pos h1]
  · rw[if_neg h1]
    by_cases h2:(rdL f r (f w left).2.1).2.2≠0
    · rw[if_pos h2,if_pos h2]
    · rw[if_neg h2,if_neg (by simp)]
theorem rdP_err {f:Int→Int→Rdd}{kk:Int}{fs:List Int}{left:Int}(h:(rdL f fs left).2.2≠0):rdP f kk fs left=(zV,(rdL f fs left).2.1,(rdL f fs left).2.2):=by unfold rdP;rw[if_pos h]
section
variable {O:CallF}(hO:Oth O)
include hO
theorem ct135 {hv h0:Hp}(Fv:Ft hv h0){f:Int→Int→Rdd}{kk dp:Int}{d:Int}{b:Nat}{M:Int→Rs}{fs:List Int}(lfs:fs.length≤20)(hk:kk=4∨kk=5)(hd:0≤d∧d≤7)(hdp: -100≤dp∧dp<100)
 (good: ∀w∈fs,∀left,0≤left→Good d left (f w left))
 (ih: ∀w∈fs,∀ {h:Hp} {L:List Rs} {i:Nat} (left:Int),0≤left→left≤200→Know h0 h (L.set i (M left))→i<L.length→Ret Tryz.prog O 101 [.pointer (some ⟨b,0,none⟩),.int .i64 w,.int .i64 (dp+1)] h (QRd h0 L i M (f w left)))
 {h:Hp} {L:List Rs} {i:Nat} (left:Int) (l0:0≤left) (l2:left≤200) (S:Know h0 h (L.set i (M left))) (li:i<L.length) {a2:Option Addr} {n2 c2:Nat} (X:SI hv a2 n2 c2 fs):
 Ret Tryz.prog O 135 [.pointer (some ⟨b,0,none⟩),.int .i64 kk,.slice a2 n2 c2,.int .i64 dp] h (QRd h0 L i M (rdP f kk fs left)):=by
 have hn2:=X.at_.1
 subst hn2
 refine rk135 (hO:=hO _ _ _ (by decide)) (hh:= ?_) ..
 unfold T135
 intro g1 g2
 have S1:Know h0 g1 (_::L.set i (M left)):=S.add _
 have S2:Know h0 g2 (_::ob h.nx (.cells [.int .i64 0,.int .i64 0,.string (ByteArray.mk #[]),.slice none 0 0] 46 .fix)::L.set i (M left)):=S1.add _
 refine vreq_t (S2.cw 0 rfl (by decide) rfl rfl) ?_
 intro g3
 have S3:Know h0 g3 (ob g1.nx (.cells [.int .i64 kk,.int .i64 0,.string (ByteArray.mk #[]),.slice none 0 0] 46 .fix)::ob h.nx (.cells [.int .i64 0,.int .i64 0,.string (ByteArray.mk #[]),.slice none 0 0] 46 .fix)::L.set i (M left)):=S2.wr 0 rfl (by decide) rfl rfl
 have S4:=S3.push (r':=clo (fun _=>False) (fun y=>VAs y [] [])) (Kp.refl _ _) (clo.loc _ _) (fun _ _ _=>⟨rfl,fun i hi=>absurd hi (Nat.not_lt_zero _)⟩) fun _ h=>h.elim
 have S5:=S4.accNil h0.nx 46 4
 have es: ∀q,q<fs.length→fs.drop q=fs.getD q 0::fs.drop (q+1):=fun q hq=>by rw[List.drop_eq_getElem_cons hq];simp[List.getD,List.getElem?_eq_getElem hq]
 have tail: ∀(ps:List Vl) (xs:List Value) (lf:Int) (own:Nat→Prop) (a:Option Addr) (n c:Nat) (g4:Hp),n=ps.length→ps.length≤20→rdL f fs left=(ps,lf,0)→
  Know h0 g4 (acc h0.nx 46 4 a n c xs::clo own (fun y=>VAs y xs ps)::ob g1.nx (.cells [.int .i64 kk,.int .i64 0,.string (ByteArray.mk #[]),.slice a n c] 46 .fix)::ob h.nx (.cells [.int .i64 0,.int .i64 0,.string (ByteArray.mk #[]),.slice none 0 0] 46 .fix)::L.set i (M lf))→
  I135_1 O (QRd h0 L i M (rdP f kk fs left)) b 0 kk a2 fs.length c2 dp h.nx 0 0 g1.nx 0 (Int.ofNat n) 0 g4:=by
  intro ps xs lf own a n c g4 hn lps hr S
  subst hn
  have hgood:=rdL_good fs left l0 good (by rw[hr])
  rw[hr]at hgood
  simp only at hgood
  have hval: ∀p∈ps,validF p=true∧Nice p:=by
   intro p hp
   obtain⟨q,hq,rfl⟩:=List.getElem_of_mem hp
   have hw:=hgood.2.2.1
   have h4:=hgood.2.2.2
   obtain⟨_,e2⟩:=weighL_ok ps left d (by omega) (by omega)
   obtain⟨l',q1,q2,q3⟩:=e2 _ (List.getElem_mem hq)
   obtain⟨s1,s2⟩:=hgood.2.1 _ (List.getElem_mem hq)
   have hm:=weigh_mono ps[q] l' d 200 8 (by omega) (by omega) (by omega) q3
   refine⟨?_,⟨l',d,by omega,by omega,q3⟩,s2⟩
   unfold validF fitsF
   rw[s1,lt_f (by omega)];rfl
  have fin: ∀(g5:Hp) {x47:Int},rdP f kk fs left=(.mk kk 0 eS ps,lf,0)→Know h0 g5 (acc h0.nx 46 4 a ps.length c xs::clo own (fun y=>VAs y xs ps)::ob g1.nx (.cells [.int .i64 kk,.int .i64 0,.string (ByteArray.mk #[]),.slice a ps.length c] 46 .fix)::ob h.nx (.cells [.int .i64 0,.int .i64 0,.string (ByteArray.mk #[]),.slice none 0 0] 46 .fix)::L.set i (M lf))→
   (∃x244' x245' s246' a247' n248' c249',readAt g5 g1.nx 0 4=some [.int .i64 x244',.int .i64 x245',.string s246',.slice a247' n248' c249']∧
     vreq (canW g5 h.nx 0 [.int .i64 x244',.int .i64 x245',.string s246',.slice a247' n248' c249']) (∃x251' x252' s253' a254' n255' c256',readAt (g5.wr h.nx 0 [.int .i64 x244',.int .i64 x245',.string s246',.slice a247' n248' c249']) h.nx 0 4=some [.int .i64 x251',.int .i64 x252',.string s253',.slice a254' n255' c256']∧
      QRd h0 L i M (rdP f kk fs left) (.tuple #[.agg #[.int .i64 x251',.int .i64 x252',.string s253',.slice a254' n255' c256'],.int .i64 0]) (g5.wr h.nx 0 [.int .i64 x244',.int .i64 x245',.string s246',.slice a247' n248' c249']))):=by
   intro g5 x47 hrp S
   refine⟨_,_,_,_,_,_,S.rd 2 rfl rfl rfl,?_⟩
   have S6:Know h0 g5 (clo (fun o=>(acc h0.nx 46 4 a ps.length c xs).own o∨(clo own (fun y=>VAs y xs ps)).own o) (fun y=>VA y (.mk kk 0 eS ps) [.int .i64 kk,.int .i64 0,.string eS,.slice a ps.length c])::_::ob h.nx (.cells [.int .i64 0,.int .i64 0,.string (ByteArray.mk #[]),.slice none 0 0] 46 .fix)::L.set i (M lf)):=S.merge (fun y=>VA y (.mk kk 0 eS ps) [.int .i64 kk,.int .i64 0,.string eS,.slice a ps.length c]) fun y A N=>by
    have N:VAs y xs ps:=clo.get N
    have A:AccE y h0.nx 46 4 a ps.length c xs:=A
    rcases A with (⟨e1,e2,e3,e4⟩|⟨o,rfl,e2,e3,e4,e5,e6⟩)|⟨e1,e2,e3,o,rfl,e5,e6,e7,m,e8⟩
    · have:ps=[]:=List.length_eq_zero_iff.1 e2
      subst this e1 e3
      exact .nil kk 0 eS 0
    · exact .at_ kk 0 eS ps o 0 c xs 46 .grow e5 e6 (by rw[N.1];omega) fun q hq=>by rw[Nat.zero_add];exact N.2 q hq
    · have:ps=[]:=List.length_eq_zero_iff.1 e2
      subst this
      exact .at_ kk 0 eS [] o 0 c [] _ m e6 e8 (by simp) fun q hq=>absurd hq (Nat.not_lt_zero _)
   have S7:=S6.sub _ (.cons_cons _ (.cons _ (.refl _)))
   have:=rcopy (r:=(.mk kk 0 eS ps,lf,0)) S7 (fun _=>rfl)
   rw[hrp]
   exact this
  rcases hk with rfl|rfl
  · have hrp:rdP f 4 fs left=(.mk 4 0 eS ps,lf,0):=by unfold rdP;rw[hr];simp
    have go: ∀(e q:Nat),q+e=ps.length→ ∀g5,Know h0 g5 (acc h0.nx 46 4 a ps.length c xs::clo own (fun y=>VAs y xs ps)::ob g1.nx (.cells [.int .i64 4,.int .i64 0,.string (ByteArray.mk #[]),.slice a ps.length c] 46 .fix)::ob h.nx (.cells [.int .i64 0,.int .i64 0,.string (ByteArray.mk #[]),.slice none 0 0] 46 .fix)::L.set i (M lf))→I135_1 O (QRd h0 L i M (rdP f 4 fs left)) b 0 4 a2 fs.length c2 dp h.nx 0 0 g1.nx 0 (Int.ofNat ps.length) (Int.ofNat q) g5:=by
     intro e
     induction e with
     |zero=>
      intro q hq g5 S
      refine I135_1.of (hh:= ?_) ..
      unfold T135_1
      exact vcond_f (by rw[ltI_nat];exact blt_f (by omega)) (fin g5 (x47:=0) hrp S)
     |succ e ihe=>
      intro q hq g5 S
      refine I135_1.of (hh:= ?_) ..
      unfold T135_1
      rw[wrap_succ (by omega)]
      exact vcond_t (by rw[ltI_nat];exact blt_t (by omega)) (vcond_t rfl (ihe (q+1) (by omega) g5 S))
    exact go ps.length 0 (by omega) g4 S
  · have hrp:rdP f 5 fs left=if incF ps=false then (zV,lf,7)else (.mk 5 0 eS ps,lf,0):=by unfold rdP;rw[hr];simp
    have go: ∀(e q:Nat),q+1+e=max 1 ps.length→(incF ps=incF (ps.drop q))→ ∀g5,Know h0 g5 (acc h0.nx 46 4 a ps.length c xs::clo own (fun y=>VAs y xs ps)::ob g1.nx (.cells [.int .i64 5,.int .i64 0,.string (ByteArray.mk #[]),.slice a ps.length c] 46 .fix)::ob h.nx (.cells [.int .i64 0,.int .i64 0,.string (ByteArray.mk #[]),.slice none 0 0] 46 .fix)::L.set i (M lf))→I135_1 O (QRd h0 L i M (rdP f 5 fs left)) b 0 5 a2 fs.length c2 dp h.nx 0 0 g1.nx 0 (Int.ofNat ps.length) (Int.ofNat (q+1)) g5:=by
     intro e
     induction e with
     |zero=>
      intro q hq hinc g5 S
      refine I135_1.of (hh:= ?_) ..
      unfold T135_1
      have e:incF (ps.drop q)=true:=by
       match hd:ps.drop q with
       | []=>rfl
       | [_]=>rfl
       |_::_::_=>
        have:=congrArg List.length hd
        simp only[List.length_drop,List.length_cons]at this
        omega
      exact vcond_f (by rw[ltI_nat];exact blt_f (by omega)) (fin g5 (x47:=0) (by rw[hrp,hinc,e];rfl) S)
     |succ e ihe=>
      intro q hq hinc g5 S
      have i1:q+1<ps.length:=by omega
      have i0:q<ps.length:=by omega
      refine I135_1.of (hh:= ?_) ..
      unfold T135_1
      refine vcond_t (by rw[ltI_nat];exact blt_t i1) (vcond_f rfl (vcond_f (eqI_f (by simp only[Int.ofNat_eq_natCast];omega)) ?_))
      intro g201
      have S:Know h0 g201 (acc h0.nx 46 4 a ps.length c xs::clo own (fun y=>VAs y xs ps)::ob g1.nx (.cells [.int .i64 5,.int .i64 0,.string (ByteArray.mk #[]),.slice a ps.length c] 46 .fix)::ob h.nx (.cells [.int .i64 0,.int .i64 0,.string (ByteArray.mk #[]),.slice none 0 0] 46 .fix)::L.set i (M lf)):=S.rsv 17
      have N:VAs g201 xs ps:=clo.get (S.get 1 rfl)
      have A:AccE g201 h0.nx 46 4 a ps.length c xs:=S.get 0 rfl
      obtain⟨o,ea,hgo⟩: ∃o,a=some ⟨o,0,none⟩∧g201.get o=some (.cells xs 46 .grow):=by
       rcases A with (⟨e1,e2,e3,e4⟩|⟨o,h1,_,_,_,_,h2⟩)|⟨e1,e2,_⟩
       · omega
       · exact⟨o,h1,h2⟩
       · omega
      have r0:readAt g201 o (0+q*4) 4=some ((xs.drop (0+q*4)).take 4):=readAt_get hgo (by rw[N.1];omega)
      have r1:readAt g201 o (0+(q+1)*4) 4=some ((xs.drop (0+(q+1)*4)).take 4):=readAt_get hgo (by rw[N.1];omega)
      have v0:=N.2 q i0
      have v1:=N.2 (q+1) i1
      rw[Nat.zero_add]at r0 r1
      obtain⟨z0,n0⟩:=hval _ (List.getElem_mem i0)
      obtain⟨z1,n1⟩:=hval _ (List.getElem_mem i1)
      have c148:=ct148 hO ps[q] ps[q+1] v0 v1 n0 n1 (g:=g201.grd []) (inferInstanceAs (Ft g201 g201)) S.ok
      rw[z0,z1]at c148
      simp only[Bool.and_self,cond_true]at c148
      generalize (xs.drop (q*4)).take 4=ws at r0 v0 c148
      generalize (xs.drop ((q+1)*4)).take 4=us at r1 v1 c148
      obtain⟨_,_,_,_,_,_,rfl⟩:=v0.form
      obtain⟨_,_,_,_,_,_,rfl⟩:=v1.form
      have ew:wrapF .i64 (Int.ofNat (q+1)-1)=Int.ofNat q:=by
       simp only[Int.ofNat_eq_natCast]
       rw[wrap64 (by omega) (by omega)];omega
      rw[ew]
      refine⟨_,_,_,S.rd 2 rfl rfl rfl,isNat_i ?_⟩
      rw[ea]
      refine(show isAddr (some ⟨o,0,none⟩) _ from vreq_t (blt_t i0) ⟨_,_,_,_,_,_,by rw[Nat.zero_add];exact r0,_,_,_,(ea▸S).rd 2 rfl rfl rfl,isNat_i (show isAddr (some ⟨o,0,none⟩) _ from vreq_t (blt_t i1) ⟨_,_,_,_,_,_,by rw[Nat.zero_add];exact r1,?_⟩)⟩)
      obtain⟨r,h228,e228,rfl,K228⟩:=c148
      refine⟨_,_,_,e228,?_⟩
      intro g229
      have S:Know h0 g229 (acc h0.nx 46 4 a ps.length c xs::clo own (fun y=>VAs y xs ps)::ob g1.nx (.cells [.int .i64 5,.int .i64 0,.string (ByteArray.mk #[]),.slice a ps.length c] 46 .fix)::ob h.nx (.cells [.int .i64 0,.int .i64 0,.string (ByteArray.mk #[]),.slice none 0 0] 46 .fix)::L.set i (M lf)):=S.callg K228
      have hinc2:incF (ps.drop q)=(ltI (cmpF ps[q] ps[q+1]) 0&&incF (ps.drop (q+1))):=by
       rw[List.drop_eq_getElem_cons i0,List.drop_eq_getElem_cons i1,incF]
      refine vcond_f rfl ?_
      cases hlt:ltI (cmpF ps[q] ps[q+1]) 0 with
      |false=>
       have S8:=S.sub (ob h.nx (.cells [.int .i64 0,.int .i64 0,.string (ByteArray.mk #[]),.slice none 0 0] 46 .fix)::L.set i (M lf)) ((List.sublist_cons_self ..).trans ((List.sublist_cons_self ..).trans (List.sublist_cons_self ..)))
       have:=rleaf S8 0 0 eS lf 7 (fun e=>by cases e)
       refine vcond_t rfl ?_
       rw[hrp,hinc,hinc2,hlt,Bool.false_and,if_pos rfl]
       exact this
      |true=>
       refine vcond_f rfl ?_
       rw[wrap_succ (by omega)]
       exact ihe (q+1) (by omega) (by rw[hinc,hinc2,hlt,Bool.true_and]) g229 S
    by_cases h00:ps.length=0
    · refine I135_1.of (hh:= ?_) ..
      unfold T135_1
      have:ps=[]:=List.length_eq_zero_iff.1 h00
      exact vcond_f (by rw[h00];rfl) (fin g4 (x47:=0) (by rw[hrp,this];rfl) S)
    · refine I135_1.of (hh:= ?_) ..
      unfold T135_1
      refine vcond_t (by show ltI (Int.ofNat 0) _=true;rw[ltI_nat];exact blt_t (by omega)) (vcond_f rfl (vcond_t rfl ?_))
      exact go (max 1 ps.length-1) 0 (by omega) rfl g4 S
 have go: ∀(e q:Nat),q+e=fs.length→ ∀(ps:List Vl) (xs:List Value) (lf:Int) (own:Nat→Prop) (a:Option Addr) (n c:Nat) (g4:Hp),n=q→ps.length=q→0≤lf→lf≤200→(rdL f fs left=if (rdL f (fs.drop q) lf).2.2≠0 then ([],(rdL f (fs.drop q) lf).2.1,(rdL f (fs.drop q) lf).2.2)else (ps++(rdL f (fs.drop q) lf).1,(rdL f (fs.drop q) lf).2.1,0))→
  Know h0 g4 (acc h0.nx 46 4 a n c xs::clo own (fun y=>VAs y xs ps)::ob g1.nx (.cells [.int .i64 kk,.int .i64 0,.string (ByteArray.mk #[]),.slice a n c] 46 .fix)::ob h.nx (.cells [.int .i64 0,.int .i64 0,.string (ByteArray.mk #[]),.slice none 0 0] 46 .fix)::L.set i (M lf))→
  I135_0 O (QRd h0 L i M (rdP f kk fs left)) b 0 kk a2 fs.length c2 dp h.nx 0 0 g1.nx 0 (Int.ofNat q) g4:=by
  intro e
  induction e with
  |zero=>
   intro q hq ps xs lf own a n c g4 hn hps l0' l2' hr S
   refine I135_0.of (hh:= ?_) ..
   unfold T135_0
   rw[List.drop_of_length_le (by omega)]at hr
   have hr:rdL f fs left=(ps,lf,0):=by rw[hr];simp[rdL]
   exact vcond_f (by rw[ltI_nat];exact blt_f (by omega)) ⟨_,_,_,S.rd 2 rfl rfl rfl,tail ps xs lf own a n c g4 (by omega) (by omega) hr S⟩
  |succ e ihe=>
   intro q hq ps xs lf own a n c g4 hn hps l0' l2' hr S
   have q1:q<fs.length:=by omega
   have hw:=List.getElem_mem q1
   refine I135_0.of (hh:= ?_) ..
   unfold T135_0
   haveI:Ft hv g4:=Fv.tr S.ft
   obtain⟨r,h112,e112,vs,lf',own2,rfl,hlf,S'⟩:= @ih fs[q] hw g4 (_::_::_::_::L) (i+4) lf l0' l2' S (by simp only[List.length_cons];omega)
   refine vcond_t (by rw[ltI_nat];exact blt_t q1) (isNat_i (X.at_.rd q1 ?_))
   rw[wrap64 (n:=dp+1) (by omega) (by omega)]
   have S':Know h0 h112 (clo own2 (fun x=>VA x (f fs[q] lf).1 vs)::acc h0.nx 46 4 a n c xs::clo own (fun y=>VAs y xs ps)::ob g1.nx (.cells [.int .i64 kk,.int .i64 0,.string (ByteArray.mk #[]),.slice a n c] 46 .fix)::ob h.nx (.cells [.int .i64 0,.int .i64 0,.string (ByteArray.mk #[]),.slice none 0 0] 46 .fix)::L.set i (M lf')):=S'
   have hva:VA h112 (f fs[q] lf).1 vs:=clo.get (S'.get 0 rfl)
   obtain⟨v1,v2,v3,v4,v5,v6,rfl⟩:=hva.form
   refine⟨_,_,_,_,_,_,_,_,e112,?_⟩
   intro g113
   have S:Know h0 g113 (_::_::_::_::_::_::L.set i (M lf')):=S'.add _
   refine vreq_t (S.cw 0 rfl (by decide) rfl rfl) ?_
   intro g114
   have S:Know h0 g114 (ob h112.nx (.cells [.int .i64 v1,.int .i64 v2,.string v3,.slice v4 v5 v6] 46 .fix)::clo own2 (fun x=>VA x (f fs[q] lf).1 [.int .i64 v1,.int .i64 v2,.string v3,.slice v4 v5 v6])::acc h0.nx 46 4 a n c xs::clo own (fun y=>VAs y xs ps)::ob g1.nx (.cells [.int .i64 kk,.int .i64 0,.string (ByteArray.mk #[]),.slice a n c] 46 .fix)::ob h.nx (.cells [.int .i64 0,.int .i64 0,.string (ByteArray.mk #[]),.slice none 0 0] 46 .fix)::L.set i (M lf')):=S.wr 0 rfl (by decide) rfl rfl
   have hdr:rdL f (fs.drop q) lf=if (f fs[q] lf).2.2≠0 then ([],(f fs[q] lf).2.1,(f fs[q] lf).2.2)else
    if (rdL f (fs.drop (q+1)) (f fs[q] lf).2.1).2.2≠0 then ([],(rdL f (fs.drop (q+1)) (f fs[q] lf).2.1).2.1,(rdL f (fs.drop (q+1)) (f fs[q] lf).2.1).2.2)
    else ((f fs[q] lf).1::(rdL f (fs.drop (q+1)) (f fs[q] lf).2.1).1,(rdL f (fs.drop (q+1)) (f fs[q] lf).2.1).2.1,0):=by rw[List.drop_eq_getElem_cons q1,rdL]
   by_cases he:(f fs[q] lf).2.2=0
   · rw[if_neg (by omega)]at hdr
     have hlf:=hlf he
     have gd:=good fs[q] hw lf l0' he
     have ub:=(weighF_le (f fs[q] lf).1 lf d (by omega)).2 l0'
     refine vcond_f (by rw[eqI_t he];rfl) ⟨_,_,_,S.rd 4 rfl rfl rfl,_,_,_,_,_,_,S.rd 0 rfl rfl rfl,?_⟩
     intro g131
     have S:Know h0 g131 (ob g114.nx (.cells [.int .i64 v1,.int .i64 v2,.string v3,.slice v4 v5 v6] 46 .fix)::_::_::_::_::_::_::L.set i (M lf')):=S.add _
     obtain⟨a',n',c',h135,e135,hn',S⟩:=S.app 3 rfl (Nat.le_refl _) S.lo app44 ⟨_,_,_,rfl⟩ (src_get (n:=1) (c:=1) (esz:=4) (off:=0) (S.rd 0 rfl (r:=[.int .i64 v1,.int .i64 v2,.string v3,.slice v4 v5 v6]) rfl rfl)) rfl rfl (by omega) (by unfold big;omega)
     refine⟨_,_,_,_,e135,?_⟩
     have S:Know h0 h135 (_::_::clo own2 (fun x=>VA x (f fs[q] lf).1 [.int .i64 v1,.int .i64 v2,.string v3,.slice v4 v5 v6])::acc h0.nx 46 4 a' n' c' (xs++[.int .i64 v1,.int .i64 v2,.string v3,.slice v4 v5 v6])::clo own (fun y=>VAs y xs ps)::ob g1.nx (.cells [.int .i64 kk,.int .i64 0,.string (ByteArray.mk #[]),.slice a n c] 46 .fix)::ob h.nx (.cells [.int .i64 0,.int .i64 0,.string (ByteArray.mk #[]),.slice none 0 0] 46 .fix)::L.set i (M lf')):=S
     refine vreq_t (S.cw 5 rfl (by decide) rfl rfl) ?_
     intro g136
     have S:Know h0 g136 (_::_::clo own2 (fun x=>VA x (f fs[q] lf).1 [.int .i64 v1,.int .i64 v2,.string v3,.slice v4 v5 v6])::acc h0.nx 46 4 a' n' c' (xs++[.int .i64 v1,.int .i64 v2,.string v3,.slice v4 v5 v6])::clo own (fun y=>VAs y xs ps)::ob g1.nx (.cells [.int .i64 kk,.int .i64 0,.string (ByteArray.mk #[]),.slice a' n' c'] 46 .fix)::ob h.nx (.cells [.int .i64 0,.int .i64 0,.string (ByteArray.mk #[]),.slice none 0 0] 46 .fix)::L.set i (M lf')):=S.wr 5 rfl (by decide) rfl rfl
     have S:Know h0 g136 (clo own2 (fun x=>VA x (f fs[q] lf).1 [.int .i64 v1,.int .i64 v2,.string v3,.slice v4 v5 v6])::acc h0.nx 46 4 a' n' c' (xs++[.int .i64 v1,.int .i64 v2,.string v3,.slice v4 v5 v6])::clo own (fun y=>VAs y xs ps)::ob g1.nx (.cells [.int .i64 kk,.int .i64 0,.string (ByteArray.mk #[]),.slice a' n' c'] 46 .fix)::ob h.nx (.cells [.int .i64 0,.int .i64 0,.string (ByteArray.mk #[]),.slice none 0 0] 46 .fix)::L.set i (M lf')):=S.sub _ ((List.sublist_cons_self ..).trans (List.sublist_cons_self ..))
     have S:Know h0 g136 (clo own2 (fun x=>VA x (f fs[q] lf).1 [.int .i64 v1,.int .i64 v2,.string v3,.slice v4 v5 v6])::clo own (fun y=>VAs y xs ps)::acc h0.nx 46 4 a' n' c' (xs++[.int .i64 v1,.int .i64 v2,.string v3,.slice v4 v5 v6])::ob g1.nx (.cells [.int .i64 kk,.int .i64 0,.string (ByteArray.mk #[]),.slice a' n' c'] 46 .fix)::ob h.nx (.cells [.int .i64 0,.int .i64 0,.string (ByteArray.mk #[]),.slice none 0 0] 46 .fix)::L.set i (M lf')):=⟨S.ok,S.kp,fun r hr=>S.at_ r (by simp only[List.mem_cons]at hr ⊢; rcases hr with h|h|h|h<;>simp[h]),(List.Perm.pairwise_iff (fun {a b} hab x hb ha=>hab x ha hb) (.cons _ (.swap _ _ _))).1 S.dis,S.ok0⟩
     have S:=S.merge (fun y=>VAs y (xs++[.int .i64 v1,.int .i64 v2,.string v3,.slice v4 v5 v6]) (ps++[(f fs[q] lf).1])) fun y N A=>(clo.get A).snoc (clo.get N) rfl
     have S:Know h0 g136 (acc h0.nx 46 4 a' n' c' (xs++[.int .i64 v1,.int .i64 v2,.string v3,.slice v4 v5 v6])::clo (fun o=>own2 o∨own o) (fun y=>VAs y (xs++[.int .i64 v1,.int .i64 v2,.string v3,.slice v4 v5 v6]) (ps++[(f fs[q] lf).1]))::ob g1.nx (.cells [.int .i64 kk,.int .i64 0,.string (ByteArray.mk #[]),.slice a' n' c'] 46 .fix)::ob h.nx (.cells [.int .i64 0,.int .i64 0,.string (ByteArray.mk #[]),.slice none 0 0] 46 .fix)::L.set i (M lf')):=⟨S.ok,S.kp,fun r hr=>S.at_ r (by simp only[List.mem_cons]at hr ⊢; rcases hr with h|h|h<;>simp[h];exact .inl rfl),(List.Perm.pairwise_iff (fun {a b} hab x hb ha=>hab x ha hb) (.swap _ _ _)).1 S.dis,S.ok0⟩
     rw[wrap_succ (by omega)]
     refine ihe (q+1) (by omega) (ps++[(f fs[q] lf).1]) _ lf' _ a' n' c' g136 (by omega) (by rw[List.length_append,hps];rfl) (by omega) (by omega) ?_ S
     rw[hr,hdr,hlf]
     by_cases h3:(rdL f (fs.drop (q+1)) (f fs[q] lf).2.1).2.2≠0
     · rw[if_pos h3,if_pos h3]
       simp only[if_pos h3]
     · rw[if_neg h3,if_neg h3]
       simp
   · rw[if_pos he]at hdr
     refine vcond_t (by rw[eqI_f he];rfl) ?_
     have hr2:rdL f fs left=([],(f fs[q] lf).2.1,(f fs[q] lf).2.2):=by rw[hr,hdr,if_pos he]
     have S8:=S.sub (ob h.nx (.cells [.int .i64 0,.int .i64 0,.string (ByteArray.mk #[]),.slice none 0 0] 46 .fix)::L.set i (M lf')) (.cons _ (.cons _ (.cons _ (.cons _ (.cons _ (.refl _))))))
     have:=rleaf S8 0 0 eS (f fs[q] lf).2.1 (f fs[q] lf).2.2 (fun e=>absurd e he)
     rw[rdP_err (by rw[hr2];exact he),hr2]
     exact this
 exact go fs.length 0 (by omega) [] [] left (fun _=>False) none 0 0 g3 rfl rfl l0 l2 (by rw[List.drop_zero,List.nil_append];exact rdL_shape fs left) S5
end
end Go.Proofs.YtngcjpkccnfjiaaGreatDoor
namespace Go.Proofs.YtngcjpkccnfjiaaGreatDoor
set_option maxRecDepth 100000
open Go Go.Ev
def ro (b:Nat)(aw:Option Addr)(nw cw:Nat)(tp:Int)(ar:Option Addr)(nr cr:Nat)(lf:Int):Rs:=ob b (.cells [.slice aw nw cw,.int .i64 tp,.slice ar nr cr,.int .i64 lf] 141 .fix)
theorem fieldsW_mem {W:List Int}{p:Nat}{x:Int}(h:x∈fieldsW W p):x∈W:=List.mem_of_mem_drop (List.mem_of_mem_take h)
theorem app85:AppT Tryz.prog 85 5 1 1:=⟨Tryz.underlying85,by kernel_rfl⟩
abbrev u8s (bs:List UInt8):List Value:=bs.map fun b=> .int .u8 (Int.ofNat b.toNat)
theorem bytesOf_u8s: ∀(bs:List UInt8),bytesOf (u8s bs)=some bs
 | []=>rfl
 |b::r=>by
  show(bif Nat.blt b.toNat 256 then (bytesOf (u8s r)).map (UInt8.ofNat b.toNat:: ·)else none)=_
  rw[blt_t b.toNat_lt,bytesOf_u8s r]
  simp
theorem acc_bytes {g:Hp}{lo:Nat}{a:Option Addr}{n c:Nat}{bs:List UInt8}(A:AccE g lo 5 1 a n c (u8s bs)):bytesV g a n=some bs:=by
 rcases A with (⟨rfl,e2,e3,e4⟩|⟨o,rfl,e2,e3,e4,e5,e6⟩)|⟨e1,rfl,e3,o,rfl,e5,e6,e7,m,e8⟩
 · have:bs=[]:=List.map_eq_nil_iff.1 e4
   subst this;rfl
 · show(readAt g o 0 n).bind bytesOf=_
   rw[readAt_get e6 (by omega),List.drop_zero,List.take_of_length_le (by omega)]
   exact bytesOf_u8s bs
 · have:bs=[]:=List.map_eq_nil_iff.1 e1
   subst this
   show(readAt g o 0 0).bind bytesOf=_
   rw[readAt_get e8 (by simp)];rfl
theorem rdT_take {fs:List Int}{q:Nat}(h:q<fs.length):(fs.take (q+1)).map (fun x=>UInt8.ofNat x.toNat)=(fs.take q).map (fun x=>UInt8.ofNat x.toNat)++[UInt8.ofNat fs[q].toNat]:=by
 rw[List.take_succ_eq_append_getElem h,List.map_append];rfl
section
variable {O:CallF}(hO:Oth O)
include hO
theorem ct101 {hv h0:Hp}(Fv:Ft hv h0){aw:Option Addr}{nw cw:Nat}{W:List Int}(HW:SI hv aw nw cw W)(hW: ∀x∈W,In64 x){l:List Nat}(k:Wk W l){b:Nat}{tp:Int}{ar:Option Addr}{nr cr:Nat}:
 ∀(d:Nat),d≤8→ ∀ {h:Hp} {L:List Rs} {i:Nat} (w left:Int),wordR l w=true→In64 w→0≤left→left≤200→Know h0 h (L.set i (ro b aw nw cw tp ar nr cr left))→i<L.length→
 Ret Tryz.prog O 101 [.pointer (some ⟨b,0,none⟩),.int .i64 w,.int .i64 (9-(d:Int))] h (QRd h0 L i (ro b aw nw cw tp ar nr cr) (rdF W d w left)):=by
 intro d
 induction d with
 |zero=>
  intro _ h L i w left hw h64 l0 l2 S li
  refine rk101 (hO:=hO _ _ _ (by decide)) (hh:= ?_) ..
  unfold T101
  intro g1
  have S:Know h0 g1 (ob h.nx (.cells [.int .i64 0,.int .i64 0,.string (ByteArray.mk #[]),.slice none 0 0] 46 .fix)::L.set i (ro b aw nw cw tp ar nr cr left)):=S.add _
  have hi:(ob h.nx (.cells [.int .i64 0,.int .i64 0,.string (ByteArray.mk #[]),.slice none 0 0] 46 .fix)::L.set i (ro b aw nw cw tp ar nr cr left))[i+1]? =some (ro b aw nw cw tp ar nr cr left):=List.getElem?_set_self li
  refine⟨_,S.rd (i+1) hi rfl rfl,?_⟩
  rw[wrap64 (n:=left-1) (by omega) (by omega)]
  refine vreq_t (S.cw (i+1) hi (by decide) rfl rfl) ?_
  intro g3
  have S3:Know h0 g3 (ob h.nx (.cells [.int .i64 0,.int .i64 0,.string (ByteArray.mk #[]),.slice none 0 0] 46 .fix)::(L.set i (ro b aw nw cw tp ar nr cr left)).set i (ro b aw nw cw tp ar nr cr (left-1))):=S.wr (i+1) hi (by decide) rfl rfl
  rw[List.set_set]at S3
  have hi3:(ob h.nx (.cells [.int .i64 0,.int .i64 0,.string (ByteArray.mk #[]),.slice none 0 0] 46 .fix)::L.set i (ro b aw nw cw tp ar nr cr (left-1)))[i+1]? =some (ro b aw nw cw tp ar nr cr (left-1)):=List.getElem?_set_self li
  refine⟨_,S3.rd (i+1) hi3 rfl rfl,?_⟩
  have:=rleaf S3 0 0 eS (left-1) 3 (fun e=>by cases e)
  exact vcond_split (fun _=>this) fun _=>vcond_t rfl this
 |succ d ih=>
  intro hd h L i w left hw h64 l0 l2 S li
  refine rk101 (hO:=hO _ _ _ (by decide)) (hh:= ?_) ..
  unfold T101
  intro g1
  have S:Know h0 g1 (ob h.nx (.cells [.int .i64 0,.int .i64 0,.string (ByteArray.mk #[]),.slice none 0 0] 46 .fix)::L.set i (ro b aw nw cw tp ar nr cr left)):=S.add _
  have hi:(ob h.nx (.cells [.int .i64 0,.int .i64 0,.string (ByteArray.mk #[]),.slice none 0 0] 46 .fix)::L.set i (ro b aw nw cw tp ar nr cr left))[i+1]? =some (ro b aw nw cw tp ar nr cr left):=List.getElem?_set_self li
  refine⟨_,S.rd (i+1) hi rfl rfl,?_⟩
  rw[wrap64 (n:=left-1) (by omega) (by omega)]
  refine vreq_t (S.cw (i+1) hi (by decide) rfl rfl) ?_
  intro g3
  have S3:Know h0 g3 (ob h.nx (.cells [.int .i64 0,.int .i64 0,.string (ByteArray.mk #[]),.slice none 0 0] 46 .fix)::(L.set i (ro b aw nw cw tp ar nr cr left)).set i (ro b aw nw cw tp ar nr cr (left-1))):=S.wr (i+1) hi (by decide) rfl rfl
  rw[List.set_set]at S3
  have hi3:(ob h.nx (.cells [.int .i64 0,.int .i64 0,.string (ByteArray.mk #[]),.slice none 0 0] 46 .fix)::L.set i (ro b aw nw cw tp ar nr cr (left-1)))[i+1]? =some (ro b aw nw cw tp ar nr cr (left-1)):=List.getElem?_set_self li
  refine⟨_,S3.rd (i+1) hi3 rfl rfl,?_⟩
  have leaf:=fun(k n:Int) (t:ByteArray) (e:Int)=>rleaf S3 k n t (left-1) e (fun _=>rfl)
  unfold rdF
  by_cases c1:left<1
  · rw[if_pos c1]
    exact vcond_t (lt_t (by omega)) (leaf 0 0 eS 3)
  rw[if_neg c1]
  refine vcond_f (lt_f (by omega)) (vcond_f (lt_f (by omega)) ?_)
  by_cases c2:Int.tmod w 2≠0
  · rw[if_pos c2]
    have e1:wrapF .i64 (w-1)=w-1:=by
     have hw':=hw
     unfold wordR at hw'
     have c0:w≠0:=fun h=>by subst h;exact c2 rfl
     rw[if_neg c0,if_pos c2,Bool.and_eq_true,decide_eq_true_eq,decide_eq_true_eq]at hw'
     exact wrap64 (by omega) (by omega)
    have e2:wrapF .i64 (Int.tdiv (w-1) 2)=Int.tdiv (w-1) 2:=by
     have h1:=h64.1
     have h2:=h64.2
     refine wrap64 ?_ ?_<;>(rw[tdiv_eq];split<;>omega)
    rw[e1,e2]
    exact vcond_t (by rw[eqI_f c2];rfl) (leaf 1 _ eS 0)
  rw[if_neg c2]
  refine vcond_f (by rw[eqI_t (by simpa using c2)];rfl) ?_
  by_cases c3:w=0
  · rw[if_pos c3]
    exact vcond_t (eqI_t c3) (leaf 0 0 eS 7)
  rw[if_neg c3]
  refine vcond_f (eqI_f c3) ⟨_,_,_,S3.rd (i+1) hi3 rfl rfl,?_⟩
  obtain⟨p,hp,_,ep,ep2⟩:=wordR_even hw c2 c3
  rw[ep]
  obtain⟨q1,q2,q3,q4⟩:=k.at_ p hp
  have k200:=k.l200
  obtain⟨k1,k2,k3,k4,k5⟩:=k.form hp
  have ew:wrapF .i64 (Int.tdiv w 2)=Int.ofNat p:=by rw[ep2];exact wrap64 (by omega) (by omega)
  rw[ew]
  have gW:W.getD p 0=W[p]:=by simp[List.getD,List.getElem?_eq_getElem q1]
  have s0:0≤hdS (W.getD p 0):=by unfold hdS;rw[tdiv_eq,if_pos q2];omega
  obtain⟨sz,hsz⟩: ∃m:Nat,hdS (W.getD p 0)=Int.ofNat m:=Int.eq_ofNat_of_zero_le s0
  have tsz:(hdS (W.getD p 0)).toNat=sz:=by rw[hsz];rfl
  rw[tsz]at q4
  have lfs:(fieldsW W p).length=sz:=by unfold fieldsW;rw[List.length_take,List.length_drop,tsz];omega
  haveI:Ft hv g3:=Fv.tr S3.ft
  refine isNat_i (HW.at_.rd q1 (ct86 hO S3.ok (hW _ (List.getElem_mem q1)) fun h42 K42=> ?_))
  rw[←gW,hsz]
  generalize hkk:hdK (W.getD p 0)=kk at *
  have S4:=S3.call K42
  intro g43
  have S5:Know h0 g43 (_::ob h.nx (.cells [.int .i64 0,.int .i64 0,.string (ByteArray.mk #[]),.slice none 0 0] 46 .fix)::L.set i (ro b aw nw cw tp ar nr cr (left-1))):=S4.add _
  refine vreq_t (S5.cw 0 rfl (by decide) rfl rfl) ?_
  intro g44 g45
  have S6:Know h0 g44 (ob h42.nx (.cells [.int .i64 (Int.ofNat sz),.int .i64 kk] 117 .fix)::ob h.nx (.cells [.int .i64 0,.int .i64 0,.string (ByteArray.mk #[]),.slice none 0 0] 46 .fix)::L.set i (ro b aw nw cw tp ar nr cr (left-1))):=S5.wr 0 rfl (by decide) rfl rfl
  have S7:Know h0 g45 (ob h42.nx (.cells [.int .i64 (Int.ofNat sz),.int .i64 kk] 117 .fix)::ob h.nx (.cells [.int .i64 0,.int .i64 0,.string (ByteArray.mk #[]),.slice none 0 0] 46 .fix)::L.set i (ro b aw nw cw tp ar nr cr (left-1))):=S6.rsv 16
  have hi7:(ob h42.nx (.cells [.int .i64 (Int.ofNat sz),.int .i64 kk] 117 .fix)::ob h.nx (.cells [.int .i64 0,.int .i64 0,.string (ByteArray.mk #[]),.slice none 0 0] 46 .fix)::L.set i (ro b aw nw cw tp ar nr cr (left-1)))[i+2]? =some (ro b aw nw cw tp ar nr cr (left-1)):=List.getElem?_set_self li
  haveI:Ft hv g45:=Fv.tr S7.ft
  have e0:wrapF .i64 (Int.ofNat p+1)=Int.ofNat (p+1):=wrap_succ (by omega)
  have e1:wrapF .i64 (Int.ofNat (p+1)+Int.ofNat sz)=Int.ofNat (p+1+sz):=by
   rw[wrap64 (by simp;omega) (by simp;omega)];simp
  refine⟨_,_,_,S7.rd (i+2) hi7 rfl rfl,_,S7.rd 0 rfl rfl rfl,?_⟩
  rw[e0,e1]
  obtain⟨a',c',es,sp⟩:=HW.part (l:=p+1) (r:=p+1+sz) (by omega) q4 (lo:=some (.int .i64 (Int.ofNat (p+1)))) (hi:=some (.int .i64 (Int.ofNat (p+1+sz)))) (fun vis hv=>bounds_lh (by omega) (by have:=HW.at_.1;omega))
  refine⟨_,_,_,(HW.slice_to g45 _ _).trans es,_,S7.rd 0 rfl rfl rfl,?_⟩
  have hf:(W.drop (p+1)).take (p+1+sz-(p+1))=fieldsW W p:=by
   unfold fieldsW
   rw[tsz]
   congr 1
   omega
  rw[hf]at sp
  have e5:p+1+sz-(p+1)=sz:=by omega
  rw[e5]at sp ⊢
  have S8:=S7.sub (ob h.nx (.cells [.int .i64 0,.int .i64 0,.string (ByteArray.mk #[]),.slice none 0 0] 46 .fix)::L.set i (ro b aw nw cw tp ar nr cr (left-1))) (List.sublist_cons_self ..)
  have leaf2:=fun(k n:Int) (t:ByteArray) (e:Int)=>rleaf S8 k n t (left-1) e (fun _=>rfl)
  by_cases h4:kk=4
  · subst h4
    rw[if_pos rfl]
    have l1:=k4 rfl
    have:0<(fieldsW W p).length:=by omega
    refine vcond_t rfl ?_
    refine sp.at_.rd (k:=0) this ?_
    have e9:(fieldsW W p).getD 0 0=(fieldsW W p)[0]:=by simp[List.getD,List.getElem?_eq_getElem this]
    rw[e9]
    exact leaf2 2 _ eS 0
  rw[if_neg h4]
  refine vcond_f (eqI_f h4) ?_
  by_cases h3:kk=3
  · subst h3
    rw[if_pos rfl]
    refine vcond_t rfl ?_
    have hl: ∀x∈fieldsW W p,0≤x∧x<256:=fun x hx=>by
     have:=k5 x hx
     unfold fieldR letterB at this
     simp only[if_pos,Bool.and_eq_true,decide_eq_true_eq]at this
     omega
    have go: ∀(e q:Nat),q+e=sz→ ∀(a:Option Addr) (n c:Nat) (g5:Hp),n=q→Know h0 g5 (acc h0.nx 5 1 a n c (u8s (((fieldsW W p).take q).map fun x=>UInt8.ofNat x.toNat))::ob h.nx (.cells [.int .i64 0,.int .i64 0,.string (ByteArray.mk #[]),.slice none 0 0] 46 .fix)::L.set i (ro b aw nw cw tp ar nr cr (left-1)))→
     I101_0 O (QRd h0 L i (ro b aw nw cw tp ar nr cr) (.mk 3 0 (rdT (fieldsW W p)) [],left-1,0)) b 0 w (9-((d+1:Nat):Int)) h.nx 0 a n c a' sz c' (Int.ofNat sz) (Int.ofNat q) g5:=by
     intro e
     induction e with
     |zero=>
      intro q hq a n c g5 hn S
      refine I101_0.of (hh:= ?_) ..
      unfold T101_0
      rw[List.take_of_length_le (by omega)]at S
      have A:AccE g5 h0.nx 5 1 a n c _:=S.get 0 rfl
      refine vcond_f (by rw[ltI_nat];exact blt_f (by omega)) ⟨_,acc_bytes A,?_⟩
      have:=rleaf (S.sub _ (List.sublist_cons_self ..)) 3 0 (rdT (fieldsW W p)) (left-1) 0 (fun _=>rfl)
      exact this
     |succ e ihe=>
      intro q hq a n c g5 hn S
      have q9:q<(fieldsW W p).length:=by omega
      refine I101_0.of (hh:= ?_) ..
      unfold T101_0
      haveI:Ft hv g5:=Fv.tr S.ft
      refine vcond_t (by rw[ltI_nat];exact blt_t (by omega)) (isNat_i (sp.at_.rd q9 ?_))
      obtain⟨b1,b2⟩:=hl _ (List.getElem_mem q9)
      obtain⟨m,hm⟩: ∃m:Nat,(fieldsW W p)[q]=Int.ofNat m:=Int.eq_ofNat_of_zero_le b1
      have eu:wrapF .u8 (fieldsW W p)[q]=Int.ofNat (UInt8.ofNat (fieldsW W p)[q].toNat).toNat:=by
       rw[hm]
       show Int.ofNat (m%256)=Int.ofNat (UInt8.ofNat m).toNat
       rw[UInt8.toNat_ofNat']
      rw[eu]
      intro g105
      have S:Know h0 g105 (ob g5.nx (.cells [.int .u8 (Int.ofNat (UInt8.ofNat (fieldsW W p)[q].toNat).toNat)] 5 .fix)::_::_::L.set i (ro b aw nw cw tp ar nr cr (left-1))):=S.add _
      obtain⟨a1,n1,c1,h109,e109,hn',S⟩:=S.app 1 rfl (Nat.le_refl _) S.lo app85 ⟨_,_,_,rfl⟩ (src_get (n:=1) (c:=1) (esz:=1) (off:=0) (S.rd 0 rfl (r:=[.int .u8 (Int.ofNat (UInt8.ofNat (fieldsW W p)[q].toNat).toNat)]) rfl rfl)) rfl rfl (by omega) (by unfold big;omega)
      refine⟨_,_,_,_,e109,?_⟩
      have S:Know h0 h109 (_::acc h0.nx 5 1 a1 n1 c1 (u8s (((fieldsW W p).take q).map fun x=>UInt8.ofNat x.toNat)++[.int .u8 (Int.ofNat (UInt8.ofNat (fieldsW W p)[q].toNat).toNat)])::ob h.nx (.cells [.int .i64 0,.int .i64 0,.string (ByteArray.mk #[]),.slice none 0 0] 46 .fix)::L.set i (ro b aw nw cw tp ar nr cr (left-1))):=S
      have e2:u8s (((fieldsW W p).take q).map fun x=>UInt8.ofNat x.toNat)++[.int .u8 (Int.ofNat (UInt8.ofNat (fieldsW W p)[q].toNat).toNat)]=u8s (((fieldsW W p).take (q+1)).map fun x=>UInt8.ofNat x.toNat):=by
       rw[rdT_take q9];simp only[u8s,List.map_append,List.map_cons,List.map_nil]
      rw[e2]at S
      rw[wrap_succ (by omega)]
      exact ihe (q+1) (by omega) a1 n1 c1 h109 (by omega) (S.sub _ (List.sublist_cons_self ..))
    exact go sz 0 (by omega) none 0 0 g45 rfl (S8.accNil h0.nx 5 1)
  rw[if_neg h3]
  refine vcond_f (eqI_f h3) ?_
  have hwf: ∀x∈fieldsW W p,wordR l x=true:=fun x hx=>by
   have:=k5 x hx
   unfold fieldR at this
   rw[if_neg h3,if_neg h4]at this
   exact this
  have part: ∀(k5:Int),(k5=4∨k5=5)→ ∃x80' x81' s82' a83' n84' c85',∃x86' h87',EvC Tryz.prog O 135 [.pointer (some ⟨b,0,none⟩),.int .i64 k5,.slice a' sz c',.int .i64 (9-((d+1:Nat):Int))] g45 (.tuple #[.agg #[.int .i64 x80',.int .i64 x81',.string s82',.slice a83' n84' c85'],.int .i64 x86']) h87'∧
   vreq (canW h87' h.nx 0 [.int .i64 x80',.int .i64 x81',.string s82',.slice a83' n84' c85']) (∃x89' x90' s91' a92' n93' c94',readAt (h87'.wr h.nx 0 [.int .i64 x80',.int .i64 x81',.string s82',.slice a83' n84' c85']) h.nx 0 4=some [.int .i64 x89',.int .i64 x90',.string s91',.slice a92' n93' c94']∧
    QRd h0 L i (ro b aw nw cw tp ar nr cr) (rdP (rdF W d) k5 (fieldsW W p) (left-1)) (.tuple #[.agg #[.int .i64 x89',.int .i64 x90',.string s91',.slice a92' n93' c94'],.int .i64 x86']) (h87'.wr h.nx 0 [.int .i64 x80',.int .i64 x81',.string s82',.slice a83' n84' c85'])):=by
   intro kq hq
   obtain⟨r,h87,e87,vs,lf,own,rfl,hlf,S9⟩:=ct135 hO Fv (f:=rdF W d) (kk:=kq) (dp:=9-((d+1:Nat):Int)) (d:=(d:Int)) (b:=b) (M:=ro b aw nw cw tp ar nr cr) (by omega) hq (by omega) (by omega) (fun w hw left l0=>rd_good k d w left (hwf w hw) l0)
    (fun w hw h' L' i' left l0 l2 S li=>by
      have:= @ih (by omega) h' L' i' w left (hwf w hw) (hW _ (fieldsW_mem hw)) l0 l2 S li
      rw[show(9-((d+1:Nat):Int)+1)=9-(d:Int) by omega]
      exact this)
    (L:=ob h.nx (.cells [.int .i64 0,.int .i64 0,.string (ByteArray.mk #[]),.slice none 0 0] 46 .fix)::L) (i:=i+1) (left-1) (by omega) (by omega) (show Know h0 g45 ((ob h.nx (.cells [.int .i64 0,.int .i64 0,.string (ByteArray.mk #[]),.slice none 0 0] 46 .fix)::L).set (i+1) (ro b aw nw cw tp ar nr cr (left-1))) from S8) (by simp only[List.length_cons];omega) sp
   have hva:VA h87 (rdP (rdF W d) kq (fieldsW W p) (left-1)).1 vs:=clo.get (S9.get 0 rfl)
   obtain⟨v1,v2,v3,v4,v5,v6,rfl⟩:=hva.form
   exact⟨_,_,_,_,_,_,_,_,e87,rcopy (L:=L) (i:=i) (r:=rdP (rdF W d) kq (fieldsW W p) (left-1)) S9 hlf⟩
  by_cases h1:kk=1
  · subst h1
    rw[if_pos rfl,lfs]
    refine vcond_t rfl ⟨_,S7.rd 0 rfl rfl rfl,?_⟩
    by_cases c4:sz<2
    · rw[if_pos (.inl c4)]
      exact vcond_t (by show ltI (Int.ofNat sz) (Int.ofNat 2)=true;rw[ltI_nat];exact blt_t c4) (leaf2 0 0 eS 7)
    refine vcond_f (by show ltI (Int.ofNat sz) (Int.ofNat 2)=false;rw[ltI_nat];exact blt_f c4) ⟨_,S7.rd 0 rfl rfl rfl,?_⟩
    by_cases c5:6<sz
    · rw[if_pos (.inr c5)]
      exact vcond_t (by show ltI (Int.ofNat 6) (Int.ofNat sz)=true;rw[ltI_nat];exact blt_t c5) (leaf2 0 0 eS 7)
    rw[if_neg (by omega)]
    exact vcond_f (by show ltI (Int.ofNat 6) (Int.ofNat sz)=false;rw[ltI_nat];exact blt_f c5) (part 4 (.inl rfl))
  rw[if_neg h1]
  refine vcond_f (eqI_f h1) ?_
  by_cases h2:kk=2
  · subst h2
    rw[if_pos rfl]
    exact vcond_t rfl (part 5 (.inr rfl))
  rw[if_neg h2]
  exact vcond_f (eqI_f h2) (leaf2 0 0 eS 7)
end
end Go.Proofs.YtngcjpkccnfjiaaGreatDoor
namespace Go.Proofs.YtngcjpkccnfjiaaGreatDoor
set_option maxRecDepth 100000
open Go Go.Ev
def readO (c:Option (List Nat))(W:List Int)(w:Int):Vl×Int:=match c with
 |none=>(zV,2)
 |some l=>if wordR l w=true then ((rdF W 8 w 200).1,(rdF W 8 w 200).2.2)else (zV,2)
def QV (g:Hp)(r:Vl×Int):Value→Hp→Prop:=fun u h'=> ∃vs own,u= .tuple #[.agg vs.toArray,.int .i64 r.2]∧Know g h' [clo own (fun x=>VA x r.1 vs)]
theorem qleaf {h0 x:Hp}{L:List Rs}{bz:Nat}{w1 w2 w3 w4:Value}(S:Know h0 x (ob bz (.cells [w1,w2,w3,w4] 46 .fix)::L))(k n:Int)(t:ByteArray)(e:Int):
 vreq (canW x bz 0 [.int .i64 k,.int .i64 n,.string t,.slice none 0 0]) (∃x6' x7' s8' a9' n10' c11',readAt (x.wr bz 0 [.int .i64 k,.int .i64 n,.string t,.slice none 0 0]) bz 0 4=some [.int .i64 x6',.int .i64 x7',.string s8',.slice a9' n10' c11']∧
  QV h0 (.mk k n t [],e) (.tuple #[.agg #[.int .i64 x6',.int .i64 x7',.string s8',.slice a9' n10' c11'],.int .i64 e]) (x.wr bz 0 [.int .i64 k,.int .i64 n,.string t,.slice none 0 0])):=by
 refine vreq_t (S.cw 0 rfl (by decide) rfl rfl) ?_
 have S2:Know h0 (x.wr bz 0 [.int .i64 k,.int .i64 n,.string t,.slice none 0 0]) (ob bz (.cells [.int .i64 k,.int .i64 n,.string t,.slice none 0 0] 46 .fix)::L):=S.wr 0 rfl (by decide) rfl rfl
 refine⟨_,_,_,_,_,_,S2.rd 0 rfl rfl rfl,[.int .i64 k,.int .i64 n,.string t,.slice none 0 0],fun _=>False,rfl,?_⟩
 have S3:=S2.sub [] (List.nil_sublist _)
 exact S3.push (r':=clo (fun _=>False) (fun y=>VA y (.mk k n t []) [.int .i64 k,.int .i64 n,.string t,.slice none 0 0])) (Kp.refl _ _) (clo.loc _ _) (fun _ _ _=> .nil k n t 0) fun _ h=>h.elim
theorem wrap32 {m:Nat}(h:m<128):wrapF .i32 (Int.ofNat m)=Int.ofNat m:=by
 have: ∀m,m<128→wrapF .i32 (Int.ofNat m)=Int.ofNat m:=by decide
 exact this m h
theorem enc_small {m:Nat}(h:m<128):Utf8.encode (Int.ofNat m)=ByteArray.mk #[UInt8.ofNat m]:=by
 have hv:Utf8.valid (Int.ofNat m)=true:=by
  unfold Utf8.valid
  have h1:decide ((0:Int)≤Int.ofNat m)=true:=decide_eq_true (Int.natCast_nonneg m)
  have h2:decide (Int.ofNat m<0xD800)=true:=decide_eq_true (by show((m:Nat):Int)<0xD800;omega)
  rw[h1,h2];rfl
 unfold Utf8.encode
 simp only[hv,if_true]
 rw[if_pos (show(Int.ofNat m).toNat<0x80 from h)]
 rfl
section
variable {O:CallF}(hO:Oth O)
include hO
theorem ct33 {g:Hp}(ok:g.Ok)(tb:Tb g){aw:Option Addr}{nw cw:Nat}{W:List Int}{top:Int}{ar:Option Addr}{nr cr:Nat}{R:List Int}(A:HA g aw nw cw W ar nr cr R){w:Int}(hw:In64 w):
 Ret Tryz.prog O 33 [.agg #[.slice aw nw cw,.int .i64 top,.slice ar nr cr],.int .i64 w] g (QV g (readO (checkP W top R) W w)):=by
 have n0:0<g.nx:=by have:=tb.1;omega
 refine rk33 (hO:=hO _ _ _ (by decide)) (hh:= ?_) ..
 unfold T33
 intro g1 g2
 have S:Know g g1 [_]:=(Know.nil ok).add _
 have S:Know g g2 [ob g1.nx (.cells [.int .i64 0,.int .i64 0,.string (ByteArray.mk #[]),.slice none 0 0] 46 .fix),ob g.nx (.cells [.slice aw nw cw,.int .i64 top,.slice ar nr cr] 24 .fix)]:=S.add _
 haveI:=S.ft
 obtain⟨v,h14,e14,a10,n11,c12,x13,rfl,k14,hx⟩:=ct65 hO S.ok (A.sw.to g2) A.w (A.sr.at_.to g2) A.r (tb.kp S.kp n0) (top:=top)
 refine⟨_,_,_,_,_,_,_,S.rd 1 rfl rfl rfl,_,_,_,_,_,e14,?_⟩
 have S:Know g h14 [ob g1.nx (.cells [.int .i64 0,.int .i64 0,.string (ByteArray.mk #[]),.slice none 0 0] 46 .fix),ob g.nx (.cells [.slice aw nw cw,.int .i64 top,.slice ar nr cr] 24 .fix)]:=S.call k14
 cases hc:checkP W top R with
 |none=>
  rw[hc]at hx
  have hx:x13=2:=hx
  subst hx
  exact vcond_f rfl (vcond_t rfl (qleaf S 0 0 eS 2))
 |some l=>
  rw[hc]at hx
  obtain⟨rfl,B⟩:x13=0∧BoolsAt h14 a10 n11 (beginP W l):=hx
  obtain⟨f1,f2,f3,f4,f5,f6,f7,f8,f9⟩:=checkP_cells hc
  have hm:=(cellsR_mem (cellsG_R f7)).2
  have hwr:wordB (beginP W l) w=wordR l w:=word_RB (fun x hx=>by have:=hm x hx;omega) f1 w
  refine vcond_t rfl ⟨_,_,ct100 hO B hw,?_⟩
  rw[hwr]
  have eF:wordR l w=false→readO (some l) W w=(zV,2):=fun h=>by unfold readO;simp[h]
  have eT:wordR l w=true→readO (some l) W w=((rdF W 8 w 200).1,(rdF W 8 w 200).2.2):=fun h=>by unfold readO;simp[h]
  cases hq:wordR l w with
  |false=>rw[eF hq];exact vcond_t rfl (qleaf S 0 0 eS 2)
  |true=>
   rw[eT hq]
   refine vcond_f rfl (vcond_f rfl ⟨_,_,_,_,_,_,_,S.rd 1 rfl rfl rfl,?_⟩)
   intro g38
   have S2:Know g g38 ([ob h14.nx (.cells [.slice aw nw cw,.int .i64 top,.slice ar nr cr,.int .i64 200] 141 .fix),ob g1.nx (.cells [.int .i64 0,.int .i64 0,.string (ByteArray.mk #[]),.slice none 0 0] 46 .fix),ob g.nx (.cells [.slice aw nw cw,.int .i64 top,.slice ar nr cr] 24 .fix)].set 0 (ro h14.nx aw nw cw top ar nr cr 200)):=S.add _
   obtain⟨r,h46,e46,vs,lf,own,rfl,hlf,S3⟩:=ct101 hO (hv:=g) (h0:=g) inferInstance A.sw A.w (Wk.of hc).1 (b:=h14.nx) (tp:=top) (ar:=ar) (nr:=nr) (cr:=cr) 8 (by omega) w 200 hq hw (by omega) (by omega) S2 (by simp)
   have hva:VA h46 (rdF W 8 w 200).1 vs:=clo.get (S3.get 0 rfl)
   obtain⟨v1,v2,v3,v4,v5,v6,rfl⟩:=hva.form
   refine⟨_,_,_,_,_,_,_,_,e46,?_⟩
   have S3:Know g h46 [clo own (fun x=>VA x (rdF W 8 w 200).1 [.int .i64 v1,.int .i64 v2,.string v3,.slice v4 v5 v6]),_,ob g1.nx (.cells [.int .i64 0,.int .i64 0,.string (ByteArray.mk #[]),.slice none 0 0] 46 .fix),_]:=S3
   refine vreq_t (S3.cw 2 rfl (by decide) rfl rfl) ?_
   intro g47
   have S4:Know g g47 [clo own (fun x=>VA x (rdF W 8 w 200).1 [.int .i64 v1,.int .i64 v2,.string v3,.slice v4 v5 v6]),_,ob g1.nx (.cells [.int .i64 v1,.int .i64 v2,.string v3,.slice v4 v5 v6] 46 .fix),_]:=S3.wr 2 rfl (by decide) rfl rfl
   exact⟨_,_,_,_,_,_,S4.rd 2 rfl rfl rfl,_,own,rfl,S4.sel [0] (by decide) rfl⟩
theorem ct58 (n:Int){g:Hp}(ok:g.Ok):Ret Tryz.prog O 58 [.int .i64 n] g fun r g'=>r= .agg #[.int .i64 1,.int .i64 n,.string eS,.slice none 0 0]∧Kp g.nx g g':=by
 refine rk58 (hO:=hO _ _ _ (by decide)) (hh:= ?_) ..
 unfold T58
 intro g1
 have S:Know g g1 [_]:=(Know.nil ok).add _
 refine vreq_t (S.cw 0 rfl (by decide) rfl rfl) ?_
 intro g2
 have S:Know g g2 [_]:=S.wr 0 rfl (by decide) rfl rfl
 exact⟨_,_,_,_,_,_,S.rd 0 rfl rfl rfl,rfl,S.kp⟩
theorem ct59 (t:ByteArray){g:Hp}(ok:g.Ok):Ret Tryz.prog O 59 [.string t] g fun r g'=>r= .agg #[.int .i64 3,.int .i64 0,.string t,.slice none 0 0]∧Kp g.nx g g':=by
 refine rk59 (hO:=hO _ _ _ (by decide)) (hh:= ?_) ..
 unfold T59
 intro g1
 have S:Know g g1 [_]:=(Know.nil ok).add _
 refine vreq_t (S.cw 0 rfl (by decide) rfl rfl) ?_
 intro g2
 have S:Know g g2 [_]:=S.wr 0 rfl (by decide) rfl rfl
 exact⟨_,_,_,_,_,_,S.rd 0 rfl rfl rfl,rfl,S.kp⟩
theorem ct149 (q:Bool){g:Hp}(ok:g.Ok):Ret Tryz.prog O 149 [.bool q] g fun r g'=>r= .agg #[.int .i64 2,.int .i64 (bif q then 1 else 0),.string eS,.slice none 0 0]∧Kp g.nx g g':=by
 refine rk149 (hO:=hO _ _ _ (by decide)) (hh:= ?_) ..
 unfold T149
 intro g1
 have S:Know g g1 [_]:=(Know.nil ok).add _
 cases q with
 |true=>
  refine vcond_t rfl (vreq_t (S.cw 0 rfl (by decide) rfl rfl) ?_)
  intro g2
  have S:Know g g2 [_]:=S.wr 0 rfl (by decide) rfl rfl
  exact⟨_,_,_,_,_,_,S.rd 0 rfl rfl rfl,rfl,S.kp⟩
 |false=>
  refine vcond_f rfl (vreq_t (S.cw 0 rfl (by decide) rfl rfl) ?_)
  intro g2
  have S:Know g g2 [_]:=S.wr 0 rfl (by decide) rfl rfl
  exact⟨_,_,_,_,_,_,S.rd 0 rfl rfl rfl,rfl,S.kp⟩
def plF (W:List Int)(p:Nat):Int×Int×ByteArray×Int:=if hdK (W.getD p 0)=4 then (2,(fieldsW W p).getD 0 0,eS,0)else if hdK (W.getD p 0)=3 then (3,0,rdT (fieldsW W p),0)else (0,0,eS,7)
theorem ct136 {hv g:Hp}(Fv:Ft hv g)(ok:g.Ok){aw:Option Addr}{nw cw:Nat}{W:List Int}(HW:SI hv aw nw cw W)(hW: ∀x∈W,In64 x){l:List Nat}(k:Wk W l){tp:Int}{ar:Option Addr}{nr cr:Nat}{p:Nat}(hp:p∈l):
 Ret Tryz.prog O 136 [.agg #[.slice aw nw cw,.int .i64 tp,.slice ar nr cr],.int .i64 (Int.ofNat p)] g fun r g'=>r= .tuple #[.agg #[.int .i64 (plF W p).1,.int .i64 (plF W p).2.1,.string (plF W p).2.2.1,.slice none 0 0],.int .i64 (plF W p).2.2.2]∧Kp g.nx g g':=by
 obtain⟨q1,q2,q3,q4⟩:=k.at_ p hp
 obtain⟨k1,k2,k3,k4,k5⟩:=k.form hp
 have k200:=k.l200
 refine rk136 (hO:=hO _ _ _ (by decide)) (hh:= ?_) ..
 unfold T136
 intro g1 g2
 have S:Know g g1 [_]:=(Know.nil ok).add _
 have S:Know g g2 [ob g1.nx (.cells [.int .i64 0,.int .i64 0,.string (ByteArray.mk #[]),.slice none 0 0] 46 .fix),ob g.nx (.cells [.slice aw nw cw,.int .i64 tp,.slice ar nr cr] 24 .fix)]:=S.add _
 haveI:Ft hv g2:=Fv.tr S.ft
 refine⟨_,_,_,_,_,_,_,S.rd 1 rfl rfl rfl,ct122 hO HW hW (by omega) q1 q2 q3 q4 fun a n c h13 X K13=> ?_⟩
 have S:Know g h13 [ob g1.nx (.cells [.int .i64 0,.int .i64 0,.string (ByteArray.mk #[]),.slice none 0 0] 46 .fix),ob g.nx (.cells [.slice aw nw cw,.int .i64 tp,.slice ar nr cr] 24 .fix)]:=S.call K13
 haveI:Ft hv h13:=Fv.tr S.ft
 have hn:=X.at_.1
 have gW:W.getD p 0=W[p]:=by simp[List.getD,List.getElem?_eq_getElem q1]
 refine⟨_,_,_,S.rd 1 rfl rfl rfl,isNat_i (HW.at_.rd q1 ⟨_,_,ct90 hO _ _,?_⟩)⟩
 rw[←gW]
 unfold plF
 generalize hkk:hdK (W.getD p 0)=kk at *
 by_cases h4:kk=4
 · subst h4
   rw[if_pos rfl]
   have l1:=k4 rfl
   have hl:0<(fieldsW W p).length:=by omega
   have e9:(fieldsW W p).getD 0 0=(fieldsW W p)[0]:=by simp[List.getD,List.getElem?_eq_getElem hl]
   have hf:=k5 _ (List.getElem_mem hl)
   unfold fieldR at hf
   rw[if_neg (by decide),if_pos rfl,Bool.or_eq_true,beq_iff_eq,beq_iff_eq]at hf
   obtain⟨r,h32,e32,rfl,K32⟩:=ct149 hO (eqI (fieldsW W p)[0] 1) S.ok
   have e10:(bif eqI (fieldsW W p)[0] 1 then (1:Int)else 0)=(fieldsW W p)[0]:=by
    rcases hf with h|h<;>rw[h]<;>rfl
   rw[e10]at e32
   refine vcond_t rfl ?_
   refine X.at_.rd (k:=0) hl ⟨_,_,_,_,_,_,_,e32,?_⟩
   have S:Know g h32 [ob g1.nx (.cells [.int .i64 0,.int .i64 0,.string (ByteArray.mk #[]),.slice none 0 0] 46 .fix),_]:=S.call K32
   refine vreq_t (S.cw 0 rfl (by decide) rfl rfl) ?_
   intro g33
   have S:Know g g33 [_,_]:=S.wr 0 rfl (by decide) rfl rfl
   exact⟨_,_,_,_,_,_,S.rd 0 rfl rfl rfl,by rw[e9],S.kp⟩
 rw[if_neg h4]
 refine vcond_f (eqI_f h4) ⟨_,_,_,S.rd 1 rfl rfl rfl,isNat_i (HW.at_.rd q1 ⟨_,_,ct90 hO _ _,?_⟩)⟩
 rw[←gW,hkk]
 by_cases h3:kk=3
 · subst h3
   rw[if_pos rfl]
   refine vcond_f rfl ?_
   have hl: ∀x∈fieldsW W p,0≤x∧x<128:=fun x hx=>by
    have:=k5 x hx
    unfold fieldR letterB at this
    simp only[if_pos,Bool.and_eq_true,decide_eq_true_eq]at this
    omega
   have go: ∀(e q:Nat),q+e=(fieldsW W p).length→ ∀(t:ByteArray),t=rdT ((fieldsW W p).take q)→I136_0 O (fun r g'=>r= .tuple #[.agg #[.int .i64 3,.int .i64 0,.string (rdT (fieldsW W p)),.slice none 0 0],.int .i64 0]∧Kp g.nx g g') aw nw cw tp ar nr cr (Int.ofNat p) g1.nx 0 a n c t (Int.ofNat q) h13:=by
    intro e
    induction e with
    |zero=>
     intro q hq t ht
     refine I136_0.of (hh:= ?_) ..
     unfold T136_0
     rw[List.take_of_length_le (by omega)]at ht
     subst ht
     obtain⟨r,h111,e111,rfl,K111⟩:=ct59 hO (rdT (fieldsW W p)) S.ok
     refine vcond_f (by rw[ltI_nat];exact blt_f (by omega)) ⟨_,_,_,_,_,_,_,e111,?_⟩
     have S:Know g h111 [ob g1.nx (.cells [.int .i64 0,.int .i64 0,.string (ByteArray.mk #[]),.slice none 0 0] 46 .fix),_]:=S.call K111
     refine vreq_t (S.cw 0 rfl (by decide) rfl rfl) ?_
     intro g112
     have S:Know g g112 [_,_]:=S.wr 0 rfl (by decide) rfl rfl
     exact⟨_,_,_,_,_,_,S.rd 0 rfl rfl rfl,rfl,S.kp⟩
    |succ e ihe=>
     intro q hq t ht
     have q9:q<(fieldsW W p).length:=by omega
     refine I136_0.of (hh:= ?_) ..
     unfold T136_0
     refine vcond_t (by rw[ltI_nat];exact blt_t (by omega)) (isNat_i (X.at_.rd q9 ?_))
     obtain⟨b1,b2⟩:=hl _ (List.getElem_mem q9)
     obtain⟨m,hm⟩: ∃m:Nat,(fieldsW W p)[q]=Int.ofNat m:=Int.eq_ofNat_of_zero_le b1
     have hm2:m<128:=by rw[hm]at b2;exact Int.ofNat_lt.1 b2
     rw[hm,wrap32 hm2,enc_small hm2,wrap_succ (by omega)]
     have hts:t.size=q:=by
      rw[ht]
      show(((fieldsW W p).take q).map _).toArray.size=q
      simp;omega
     refine vreq_t (ble_t (by rw[hts];show q+1≤_;omega)) (ihe (q+1) (by omega) _ ?_)
     rw[ht]
     unfold rdT
     rw[rdT_take q9,hm]
     apply ByteArray.ext
     rw[ByteArray.data_append]
     simp
   exact go (fieldsW W p).length 0 (by omega) _ rfl
 · rw[if_neg h3]
   refine vcond_t (by rw[eqI_f h3];rfl) (vreq_t (S.cw 0 rfl (by decide) rfl rfl) ?_)
   intro g49
   have S:Know g g49 [_,_]:=S.wr 0 rfl (by decide) rfl rfl
   exact⟨_,_,_,_,_,_,S.rd 0 rfl rfl rfl,rfl,S.kp⟩
end
end Go.Proofs.YtngcjpkccnfjiaaGreatDoor
namespace Go.Proofs.YtngcjpkccnfjiaaGreatDoor
set_option maxRecDepth 100000
open Go Go.Ev
def QR (h0:Hp)(r:Rdd):Value→Hp→Prop:=fun u h'=> ∃vs lf own,u= .agg (vs++[.int .i64 lf,.int .i64 r.2.2]).toArray∧(r.2.2=0→lf=r.2.1)∧Know h0 h' [clo own (fun x=>VA x r.1 vs)]
theorem sleaf {h0 x:Hp}{L:List Rs}{bz:Nat}{w1 w2 w3 w4 w5 w6:Value}(S:Know h0 x (ob bz (.cells [w1,w2,w3,w4,w5,w6] 144 .fix)::L))(k n:Int)(t:ByteArray)(lf lf' e:Int)(he:e=0→lf=lf'):
 vreq (canW x bz 0 [.int .i64 k,.int .i64 n,.string t,.slice none 0 0,.int .i64 lf,.int .i64 e]) (∃x4' x5' s6' a7' n8' c9' x10' x11',readAt (x.wr bz 0 [.int .i64 k,.int .i64 n,.string t,.slice none 0 0,.int .i64 lf,.int .i64 e]) bz 0 6=some [.int .i64 x4',.int .i64 x5',.string s6',.slice a7' n8' c9',.int .i64 x10',.int .i64 x11']∧
  QR h0 (.mk k n t [],lf',e) (.agg #[.int .i64 x4',.int .i64 x5',.string s6',.slice a7' n8' c9',.int .i64 x10',.int .i64 x11']) (x.wr bz 0 [.int .i64 k,.int .i64 n,.string t,.slice none 0 0,.int .i64 lf,.int .i64 e])):=by
 refine vreq_t (S.cw 0 rfl (by decide) rfl rfl) ?_
 have S2:Know h0 (x.wr bz 0 [.int .i64 k,.int .i64 n,.string t,.slice none 0 0,.int .i64 lf,.int .i64 e]) (ob bz (.cells [.int .i64 k,.int .i64 n,.string t,.slice none 0 0,.int .i64 lf,.int .i64 e] 144 .fix)::L):=S.wr 0 rfl (by decide) rfl rfl
 refine⟨_,_,_,_,_,_,_,_,S2.rd 0 rfl rfl rfl,[.int .i64 k,.int .i64 n,.string t,.slice none 0 0],lf,fun _=>False,rfl,he,?_⟩
 have S3:=S2.sub [] (List.nil_sublist _)
 exact S3.push (r':=clo (fun _=>False) (fun y=>VA y (.mk k n t []) [.int .i64 k,.int .i64 n,.string t,.slice none 0 0])) (Kp.refl _ _) (clo.loc _ _) (fun _ _ _=> .nil k n t 0) fun _ h=>h.elim
theorem scopy {h0 x:Hp}{L:List Rs}{bz:Nat}{w1 w2 w3 w4 w5 w6:Value}{lf:Int}{own:Nat→Prop}{r:Rdd}{k n:Int}{t:ByteArray}{a:Option Addr}{m c:Nat}(S:Know h0 x (clo own (fun y=>VA y r.1 [.int .i64 k,.int .i64 n,.string t,.slice a m c])::ob bz (.cells [w1,w2,w3,w4,w5,w6] 144 .fix)::L))(he:r.2.2=0→lf=r.2.1):
 vreq (canW x bz 0 [.int .i64 k,.int .i64 n,.string t,.slice a m c,.int .i64 lf,.int .i64 r.2.2]) (∃x4' x5' s6' a7' n8' c9' x10' x11',readAt (x.wr bz 0 [.int .i64 k,.int .i64 n,.string t,.slice a m c,.int .i64 lf,.int .i64 r.2.2]) bz 0 6=some [.int .i64 x4',.int .i64 x5',.string s6',.slice a7' n8' c9',.int .i64 x10',.int .i64 x11']∧
  QR h0 r (.agg #[.int .i64 x4',.int .i64 x5',.string s6',.slice a7' n8' c9',.int .i64 x10',.int .i64 x11']) (x.wr bz 0 [.int .i64 k,.int .i64 n,.string t,.slice a m c,.int .i64 lf,.int .i64 r.2.2])):=by
 refine vreq_t (S.cw 1 rfl (by decide) rfl rfl) ?_
 have S2:Know h0 (x.wr bz 0 [.int .i64 k,.int .i64 n,.string t,.slice a m c,.int .i64 lf,.int .i64 r.2.2]) (clo own (fun y=>VA y r.1 [.int .i64 k,.int .i64 n,.string t,.slice a m c])::ob bz (.cells [.int .i64 k,.int .i64 n,.string t,.slice a m c,.int .i64 lf,.int .i64 r.2.2] 144 .fix)::L):=S.wr 1 rfl (by decide) rfl rfl
 exact⟨_,_,_,_,_,_,_,_,S2.rd 1 rfl rfl rfl,[.int .i64 k,.int .i64 n,.string t,.slice a m c],lf,own,rfl,he,S2.sub _ (.cons_cons _ (List.nil_sublist _))⟩
theorem rdP_zV {f:Int→Int→Rdd}{kk:Int}{fs:List Int}{left:Int}(h:(rdP f kk fs left).2.2≠0):(rdP f kk fs left).1=zV:=by
 unfold rdP at h ⊢
 by_cases h1:(rdL f fs left).2.2≠0
 · rw[if_pos h1]
 · rw[if_neg h1]at h ⊢
   by_cases h2:kk=5∧incF (rdL f fs left).1=false
   · rw[if_pos h2]
   · rw[if_neg h2]at h;exact absurd rfl h
theorem rdF_zV {W:List Int}: ∀ {d:Nat}{w left:Int},(rdF W d w left).2.2≠0→(rdF W d w left).1=zV
 |0,_,_,_=>rfl
 |d+1,w,left,h=>by
  unfold rdF at h ⊢
  by_cases c1:left<1
  · rw[if_pos c1]
  rw[if_neg c1]at h ⊢
  by_cases c2:Int.tmod w 2≠0
  · rw[if_pos c2]at h;exact absurd rfl h
  rw[if_neg c2]at h ⊢
  by_cases c3:w=0
  · rw[if_pos c3]
  rw[if_neg c3]at h ⊢
  by_cases c4:hdK (W.getD (Int.tdiv w 2).toNat 0)=4
  · rw[if_pos c4]at h;exact absurd rfl h
  rw[if_neg c4]at h ⊢
  by_cases c5:hdK (W.getD (Int.tdiv w 2).toNat 0)=3
  · rw[if_pos c5]at h;exact absurd rfl h
  rw[if_neg c5]at h ⊢
  by_cases c6:hdK (W.getD (Int.tdiv w 2).toNat 0)=1
  · rw[if_pos c6]at h ⊢
    by_cases c7:(fieldsW W (Int.tdiv w 2).toNat).length<2∨6<(fieldsW W (Int.tdiv w 2).toNat).length
    · rw[if_pos c7]
    · rw[if_neg c7]at h ⊢; exact rdP_zV h
  rw[if_neg c6]at h ⊢
  by_cases c7:hdK (W.getD (Int.tdiv w 2).toNat 0)=2
  · rw[if_pos c7]at h ⊢; exact rdP_zV h
  · rw[if_neg c7]
section
variable {O:CallF}(hO:Oth O)
include hO
theorem lp103 {hv g:Hp}(Fv:Ft hv g){aw:Option Addr}{nw cw:Nat}{tp:Int}{ar:Option Addr}{nr cr:Nat}{f:Int→Int→Rdd}{kk:Int}{d:Nat}{fs:List Int}(lfs:fs.length≤20)(hk:kk=1∨kk=2)(hd:d≤7){w0 left0:Int}
 (good: ∀w∈fs,∀left,0≤left→Good (d:Int) left (f w left)) (zv: ∀w∈fs,∀left,(f w left).2.2≠0→(f w left).1=zV)
 (ih: ∀w∈fs,∀ {g:Hp} (left:Int),0≤left→left≤200→Ft hv g→g.Ok→Ret Tryz.prog O 103 [.agg #[.slice aw nw cw,.int .i64 tp,.slice ar nr cr],.int .i64 w,.int .i64 left,.int .i64 (d:Int)] g (QR g (f w left)))
 {h:Hp} {b4 b8:Nat} (l1:1≤left0) (l2:left0≤200) (S:Know g h [ob b8 (.cells [.int .i64 0,.int .i64 0,.string (ByteArray.mk #[]),.slice none 0 0,.int .i64 0,.int .i64 0] 144 .fix),ob b4 (.cells [.slice aw nw cw,.int .i64 tp,.slice ar nr cr] 24 .fix)]) {a2:Option Addr} {n2 c2:Nat} (X:IntsAt hv a2 n2 fs):
 I103_1 O (QR g (rdP f (if kk=1 then 4 else 5) fs (left0-1))) aw nw cw tp ar nr cr w0 left0 ((d+1:Nat):Int) b4 0 b8 0 a2 n2 c2 kk h:=by
 have hn2:=X.1
 subst hn2
 refine I103_1.of (hh:= ?_) ..
 unfold T103_1
 intro g201
 have S1:Know g g201 (_::ob b8 (.cells [.int .i64 0,.int .i64 0,.string (ByteArray.mk #[]),.slice none 0 0,.int .i64 0,.int .i64 0] 144 .fix)::[ob b4 (.cells [.slice aw nw cw,.int .i64 tp,.slice ar nr cr] 24 .fix)]):=S.add _
 refine vreq_t (S1.cw 0 rfl (by decide) rfl rfl) ?_
 rw[wrap64 (n:=left0-1) (by omega) (by omega)]
 intro g202
 have S2:Know g g202 (ob h.nx (.cells [.int .i64 5,.int .i64 0,.string (ByteArray.mk #[]),.slice none 0 0,.int .i64 (left0-1),.int .i64 0] 144 .fix)::ob b8 (.cells [.int .i64 0,.int .i64 0,.string (ByteArray.mk #[]),.slice none 0 0,.int .i64 0,.int .i64 0] 144 .fix)::[ob b4 (.cells [.slice aw nw cw,.int .i64 tp,.slice ar nr cr] 24 .fix)]):=S1.wr 0 rfl (by decide) rfl rfl
 generalize hkq:(if kk=1 then (4:Int)else 5)=kq
 suffices main: ∀(g3:Hp),Know g g3 (ob h.nx (.cells [.int .i64 kq,.int .i64 0,.string (ByteArray.mk #[]),.slice none 0 0,.int .i64 (left0-1),.int .i64 0] 144 .fix)::ob b8 (.cells [.int .i64 0,.int .i64 0,.string (ByteArray.mk #[]),.slice none 0 0,.int .i64 0,.int .i64 0] 144 .fix)::[ob b4 (.cells [.slice aw nw cw,.int .i64 tp,.slice ar nr cr] 24 .fix)])→
  I103_2 O (QR g (rdP f kq fs (left0-1))) aw nw cw tp ar nr cr w0 left0 ((d+1:Nat):Int) b4 0 b8 0 a2 fs.length c2 kk h.nx 0 0 g3 by
  rcases hk with rfl|rfl
  · refine vcond_t rfl (vreq_t (S2.cw 0 rfl (by decide) rfl rfl) ?_)
    intro g203
    have S3:Know g g203 (_::_::[_]):=S2.wr 0 rfl (by decide) rfl rfl
    subst hkq
    exact main g203 S3
  · subst hkq
    exact vcond_f rfl (main g202 S2)
 intro g3 S3
 have hkq2:(kk=1∧kq=4)∨(kk=2∧kq=5):=by
  rcases hk with rfl|rfl
  · exact .inl ⟨rfl,by rw[←hkq];rfl⟩
  · exact .inr ⟨rfl,by rw[←hkq];rfl⟩
 have S4:=S3.push (r':=clo (fun _=>False) (fun y=>VAs y [] [])) (Kp.refl _ _) (clo.loc _ _) (fun _ _ _=>⟨rfl,fun i hi=>absurd hi (Nat.not_lt_zero _)⟩) fun _ h=>h.elim
 have S5:=S4.accNil g.nx 46 4
 have tail: ∀(ps:List Vl) (xs:List Value) (lf:Int) (own:Nat→Prop) (a:Option Addr) (n c:Nat) (g4:Hp),n=ps.length→ps.length=fs.length→rdL f fs (left0-1)=(ps,lf,0)→
  Know g g4 (acc g.nx 46 4 a n c xs::clo own (fun y=>VAs y xs ps)::ob h.nx (.cells [.int .i64 kq,.int .i64 0,.string (ByteArray.mk #[]),.slice a n c,.int .i64 lf,.int .i64 0] 144 .fix)::ob b8 (.cells [.int .i64 0,.int .i64 0,.string (ByteArray.mk #[]),.slice none 0 0,.int .i64 0,.int .i64 0] 144 .fix)::[ob b4 (.cells [.slice aw nw cw,.int .i64 tp,.slice ar nr cr] 24 .fix)])→
  I103_3 O (QR g (rdP f kq fs (left0-1))) aw nw cw tp ar nr cr w0 left0 ((d+1:Nat):Int) b8 0 a2 fs.length c2 kk h.nx 0 1 g4:=by
  intro ps xs lf own a n c g4 hn lps hr S
  subst hn
  have hgood:=rdL_good fs (left0-1) (by omega) good (by rw[hr])
  rw[hr]at hgood
  simp only at hgood
  have hval: ∀p∈ps,Few p:=by
   intro p hp
   have hw:=hgood.2.2.1
   have h4:=hgood.2.2.2
   obtain⟨_,e2⟩:=weighL_ok ps (left0-1) (d:Int) (by omega) (by omega)
   obtain⟨l',q1,q2,q3⟩:=e2 _ hp
   exact⟨l',d,by omega,by omega,q3⟩
  have fin: ∀(g5:Hp),rdP f kq fs (left0-1)=(.mk kq 0 eS ps,lf,0)→Know g g5 (acc g.nx 46 4 a ps.length c xs::clo own (fun y=>VAs y xs ps)::ob h.nx (.cells [.int .i64 kq,.int .i64 0,.string (ByteArray.mk #[]),.slice a ps.length c,.int .i64 lf,.int .i64 0] 144 .fix)::ob b8 (.cells [.int .i64 0,.int .i64 0,.string (ByteArray.mk #[]),.slice none 0 0,.int .i64 0,.int .i64 0] 144 .fix)::[ob b4 (.cells [.slice aw nw cw,.int .i64 tp,.slice ar nr cr] 24 .fix)])→
   (∃x438' x439' s440' a441' n442' c443' x444' x445',readAt g5 h.nx 0 6=some [.int .i64 x438',.int .i64 x439',.string s440',.slice a441' n442' c443',.int .i64 x444',.int .i64 x445']∧
     vreq (canW g5 b8 0 [.int .i64 x438',.int .i64 x439',.string s440',.slice a441' n442' c443',.int .i64 x444',.int .i64 x445']) (∃x4' x5' s6' a7' n8' c9' x10' x11',readAt (g5.wr b8 0 [.int .i64 x438',.int .i64 x439',.string s440',.slice a441' n442' c443',.int .i64 x444',.int .i64 x445']) b8 0 6=some [.int .i64 x4',.int .i64 x5',.string s6',.slice a7' n8' c9',.int .i64 x10',.int .i64 x11']∧
      QR g (rdP f kq fs (left0-1)) (.agg #[.int .i64 x4',.int .i64 x5',.string s6',.slice a7' n8' c9',.int .i64 x10',.int .i64 x11']) (g5.wr b8 0 [.int .i64 x438',.int .i64 x439',.string s440',.slice a441' n442' c443',.int .i64 x444',.int .i64 x445']))):=by
   intro g5 hrp S
   refine⟨_,_,_,_,_,_,_,_,S.rd 2 rfl rfl rfl,?_⟩
   have S6:Know g g5 (clo (fun o=>(acc g.nx 46 4 a ps.length c xs).own o∨(clo own (fun y=>VAs y xs ps)).own o) (fun y=>VA y (.mk kq 0 eS ps) [.int .i64 kq,.int .i64 0,.string eS,.slice a ps.length c])::_::ob b8 (.cells [.int .i64 0,.int .i64 0,.string (ByteArray.mk #[]),.slice none 0 0,.int .i64 0,.int .i64 0] 144 .fix)::[ob b4 (.cells [.slice aw nw cw,.int .i64 tp,.slice ar nr cr] 24 .fix)]):=S.merge (fun y=>VA y (.mk kq 0 eS ps) [.int .i64 kq,.int .i64 0,.string eS,.slice a ps.length c]) fun y A N=>by
    have N:VAs y xs ps:=clo.get N
    have A:AccE y g.nx 46 4 a ps.length c xs:=A
    rcases A with (⟨e1,e2,e3,e4⟩|⟨o,rfl,e2,e3,e4,e5,e6⟩)|⟨e1,e2,e3,o,rfl,e5,e6,e7,m,e8⟩
    · have:ps=[]:=List.length_eq_zero_iff.1 e2
      subst this e1 e3
      exact .nil kq 0 eS 0
    · exact .at_ kq 0 eS ps o 0 c xs 46 .grow e5 e6 (by rw[N.1];omega) fun q hq=>by rw[Nat.zero_add];exact N.2 q hq
    · have:ps=[]:=List.length_eq_zero_iff.1 e2
      subst this
      exact .at_ kq 0 eS [] o 0 c [] _ m e6 e8 (by simp) fun q hq=>absurd hq (Nat.not_lt_zero _)
   have S7:=S6.sub _ (.cons_cons _ (.cons _ (.refl _)))
   have:=scopy (r:=(.mk kq 0 eS ps,lf,0)) S7 (lf:=lf) (fun _=>rfl)
   rw[hrp]
   exact this
  rcases hkq2 with ⟨rfl,rfl⟩|⟨rfl,rfl⟩
  · have hrp:rdP f 4 fs (left0-1)=(.mk 4 0 eS ps,lf,0):=by unfold rdP;rw[hr];simp
    refine I103_3.of (hh:= ?_) ..
    unfold T103_3
    have:=fin g4 hrp S
    exact vcond_split (fun _=>vcond_f rfl this) fun _=>this
  · have hrp:rdP f 5 fs (left0-1)=if incF ps=false then (zV,lf,7)else (.mk 5 0 eS ps,lf,0):=by unfold rdP;rw[hr];simp
    have go: ∀(e q:Nat),q+1+e=max 1 ps.length→(incF ps=incF (ps.drop q))→ ∀g5,Know g g5 (acc g.nx 46 4 a ps.length c xs::clo own (fun y=>VAs y xs ps)::ob h.nx (.cells [.int .i64 5,.int .i64 0,.string (ByteArray.mk #[]),.slice a ps.length c,.int .i64 lf,.int .i64 0] 144 .fix)::ob b8 (.cells [.int .i64 0,.int .i64 0,.string (ByteArray.mk #[]),.slice none 0 0,.int .i64 0,.int .i64 0] 144 .fix)::[ob b4 (.cells [.slice aw nw cw,.int .i64 tp,.slice ar nr cr] 24 .fix)])→I103_3 O (QR g (rdP f 5 fs (left0-1))) aw nw cw tp ar nr cr w0 left0 ((d+1:Nat):Int) b8 0 a2 fs.length c2 2 h.nx 0 (Int.ofNat (q+1)) g5:=by
     intro e
     induction e with
     |zero=>
      intro q hq hinc g5 S
      refine I103_3.of (hh:= ?_) ..
      unfold T103_3
      have e:incF (ps.drop q)=true:=by
       match hd:ps.drop q with
       | []=>rfl
       | [_]=>rfl
       |_::_::_=>
        have:=congrArg List.length hd
        simp only[List.length_drop,List.length_cons]at this
        omega
      exact vcond_f (by rw[ltI_nat];exact blt_f (by omega)) (fin g5 (by rw[hrp,hinc,e];rfl) S)
     |succ e ihe=>
      intro q hq hinc g5 S
      have i1:q+1<ps.length:=by omega
      have i0:q<ps.length:=by omega
      refine I103_3.of (hh:= ?_) ..
      unfold T103_3
      refine vcond_t (by rw[ltI_nat];exact blt_t (by omega)) (vcond_t rfl ?_)
      intro g401
      have S:Know g g401 (acc g.nx 46 4 a ps.length c xs::clo own (fun y=>VAs y xs ps)::ob h.nx (.cells [.int .i64 5,.int .i64 0,.string (ByteArray.mk #[]),.slice a ps.length c,.int .i64 lf,.int .i64 0] 144 .fix)::ob b8 (.cells [.int .i64 0,.int .i64 0,.string (ByteArray.mk #[]),.slice none 0 0,.int .i64 0,.int .i64 0] 144 .fix)::[ob b4 (.cells [.slice aw nw cw,.int .i64 tp,.slice ar nr cr] 24 .fix)]):=S.rsv 15
      have N:VAs g401 xs ps:=clo.get (S.get 1 rfl)
      have A:AccE g401 g.nx 46 4 a ps.length c xs:=S.get 0 rfl
      obtain⟨o,ea,hgo⟩: ∃o,a=some ⟨o,0,none⟩∧g401.get o=some (.cells xs 46 .grow):=by
       rcases A with (⟨e1,e2,e3,e4⟩|⟨o,h1,_,_,_,_,h2⟩)|⟨e1,e2,_⟩
       · omega
       · exact⟨o,h1,h2⟩
       · omega
      have r0:readAt g401 o (0+q*4) 4=some ((xs.drop (0+q*4)).take 4):=readAt_get hgo (by rw[N.1];omega)
      have r1:readAt g401 o (0+(q+1)*4) 4=some ((xs.drop (0+(q+1)*4)).take 4):=readAt_get hgo (by rw[N.1];omega)
      have v0:=N.2 q i0
      have v1:=N.2 (q+1) i1
      rw[Nat.zero_add]at r0 r1
      have z0:=hval _ (List.getElem_mem i0)
      have c137:=ct137 hO v0 z0 v1 (g:=g401.grd []) (show Kp g401.nx g401 g401 from Kp.refl _ _) S.ok
      generalize (xs.drop (q*4)).take 4=ws at r0 v0 c137
      generalize (xs.drop ((q+1)*4)).take 4=us at r1 v1 c137
      obtain⟨_,_,_,_,_,_,rfl⟩:=v0.form
      obtain⟨_,_,_,_,_,_,rfl⟩:=v1.form
      have ew:wrapF .i64 (Int.ofNat (q+1)-1)=Int.ofNat q:=by
       simp only[Int.ofNat_eq_natCast]
       rw[wrap64 (by omega) (by omega)];omega
      rw[ew]
      refine⟨_,_,_,S.rd 2 rfl rfl rfl,isNat_i ?_⟩
      rw[ea]
      refine(show isAddr (some ⟨o,0,none⟩) _ from vreq_t (blt_t i0) ⟨_,_,_,_,_,_,by rw[Nat.zero_add];exact r0,_,_,_,(ea▸S).rd 2 rfl rfl rfl,isNat_i (show isAddr (some ⟨o,0,none⟩) _ from vreq_t (blt_t i1) ⟨_,_,_,_,_,_,by rw[Nat.zero_add];exact r1,?_⟩)⟩)
      obtain⟨r,h427,e427,rfl,K427⟩:=c137
      refine⟨_,_,e427,?_⟩
      intro g428
      have S:Know g g428 (acc g.nx 46 4 a ps.length c xs::clo own (fun y=>VAs y xs ps)::ob h.nx (.cells [.int .i64 5,.int .i64 0,.string (ByteArray.mk #[]),.slice a ps.length c,.int .i64 lf,.int .i64 0] 144 .fix)::ob b8 (.cells [.int .i64 0,.int .i64 0,.string (ByteArray.mk #[]),.slice none 0 0,.int .i64 0,.int .i64 0] 144 .fix)::[ob b4 (.cells [.slice aw nw cw,.int .i64 tp,.slice ar nr cr] 24 .fix)]):=S.callg K427
      have hinc2:incF (ps.drop q)=(ltI (cmpF ps[q] ps[q+1]) 0&&incF (ps.drop (q+1))):=by
       rw[List.drop_eq_getElem_cons i0,List.drop_eq_getElem_cons i1,incF]
      cases hlt:ltI (cmpF ps[q] ps[q+1]) 0 with
      |false=>
       have S8:=S.sub (ob b8 (.cells [.int .i64 0,.int .i64 0,.string (ByteArray.mk #[]),.slice none 0 0,.int .i64 0,.int .i64 0] 144 .fix)::[ob b4 (.cells [.slice aw nw cw,.int .i64 tp,.slice ar nr cr] 24 .fix)]) ((List.sublist_cons_self ..).trans ((List.sublist_cons_self ..).trans (List.sublist_cons_self ..)))
       have:=sleaf S8 0 0 eS 0 lf 7 (fun e=>by cases e)
       refine vcond_t rfl ?_
       rw[hrp,hinc,hinc2,hlt,Bool.false_and,if_pos rfl]
       exact this
      |true=>
       refine vcond_f rfl ?_
       rw[wrap_succ (by omega)]
       exact ihe (q+1) (by omega) (by rw[hinc,hinc2,hlt,Bool.true_and]) g428 S
    exact go (max 1 ps.length-1) 0 (by omega) rfl g4 S
 have go: ∀(e q:Nat),q+e=fs.length→ ∀(ps:List Vl) (xs:List Value) (lf:Int) (own:Nat→Prop) (a:Option Addr) (n c:Nat) (g4:Hp),n=q→ps.length=q→0≤lf→lf≤200→(rdL f fs (left0-1)=if (rdL f (fs.drop q) lf).2.2≠0 then ([],(rdL f (fs.drop q) lf).2.1,(rdL f (fs.drop q) lf).2.2)else (ps++(rdL f (fs.drop q) lf).1,(rdL f (fs.drop q) lf).2.1,0))→
  Know g g4 (acc g.nx 46 4 a n c xs::clo own (fun y=>VAs y xs ps)::ob h.nx (.cells [.int .i64 kq,.int .i64 0,.string (ByteArray.mk #[]),.slice a n c,.int .i64 lf,.int .i64 0] 144 .fix)::ob b8 (.cells [.int .i64 0,.int .i64 0,.string (ByteArray.mk #[]),.slice none 0 0,.int .i64 0,.int .i64 0] 144 .fix)::[ob b4 (.cells [.slice aw nw cw,.int .i64 tp,.slice ar nr cr] 24 .fix)])→
  I103_2 O (QR g (rdP f kq fs (left0-1))) aw nw cw tp ar nr cr w0 left0 ((d+1:Nat):Int) b4 0 b8 0 a2 fs.length c2 kk h.nx 0 (Int.ofNat q) g4:=by
  intro e
  induction e with
  |zero=>
   intro q hq ps xs lf own a n c g4 hn hps l0' l2' hr S
   refine I103_2.of (hh:= ?_) ..
   unfold T103_2
   rw[List.drop_of_length_le (by omega)]at hr
   have hr:rdL f fs (left0-1)=(ps,lf,0):=by rw[hr];simp[rdL]
   exact vcond_f (by rw[ltI_nat];exact blt_f (by omega)) (tail ps xs lf own a n c g4 (by omega) (by omega) hr S)
  |succ e ihe=>
   intro q hq ps xs lf own a n c g4 hn hps l0' l2' hr S
   have q1:q<fs.length:=by omega
   have hw:=List.getElem_mem q1
   refine I103_2.of (hh:= ?_) ..
   unfold T103_2
   refine vcond_t (by rw[ltI_nat];exact blt_t q1) ?_
   intro g301
   have S:Know g g301 (hole g4.nx 12 []::acc g.nx 46 4 a n c xs::clo own (fun y=>VAs y xs ps)::ob h.nx (.cells [.int .i64 kq,.int .i64 0,.string (ByteArray.mk #[]),.slice a n c,.int .i64 lf,.int .i64 0] 144 .fix)::ob b8 (.cells [.int .i64 0,.int .i64 0,.string (ByteArray.mk #[]),.slice none 0 0,.int .i64 0,.int .i64 0] 144 .fix)::[ob b4 (.cells [.slice aw nw cw,.int .i64 tp,.slice ar nr cr] 24 .fix)]):=S.rsvK 12
   haveI:Ft hv g301:=Fv.tr S.ft
   refine⟨_,_,_,_,_,_,_,S.rd 5 rfl rfl rfl,isNat_i (X.rd q1 ⟨_,S.rd 3 rfl rfl rfl,?_⟩)⟩
   obtain⟨r,h322,e322,vs,lf',own2,rfl,hlf,T⟩:=ih fs[q] hw (g:=g301.grd []) lf l0' l2' (Fv.tr (S.ftg [])) (S.okg fun _ h=>by cases h)
   rw[wrap64 (n:=((d+1:Nat):Int)-1) (by omega) (by omega),show((d+1:Nat):Int)-1=(d:Int) by omega]
   have hva:VA h322 (f fs[q] lf).1 vs:=clo.get (T.get 0 rfl)
   obtain⟨v1,v2,v3,v4,v5,v6,rfl⟩:=hva.form
   refine⟨_,_,_,_,_,_,_,_,_,e322,?_⟩
   intro g323
   have S:Know g g323 (clo own2 (fun x=>VA x (f fs[q] lf).1 [.int .i64 v1,.int .i64 v2,.string v3,.slice v4 v5 v6])::hole g4.nx 12 []::acc g.nx 46 4 a n c xs::clo own (fun y=>VAs y xs ps)::ob h.nx (.cells [.int .i64 kq,.int .i64 0,.string (ByteArray.mk #[]),.slice a n c,.int .i64 lf,.int .i64 0] 144 .fix)::ob b8 (.cells [.int .i64 0,.int .i64 0,.string (ByteArray.mk #[]),.slice none 0 0,.int .i64 0,.int .i64 0] 144 .fix)::[ob b4 (.cells [.slice aw nw cw,.int .i64 tp,.slice ar nr cr] 24 .fix)]):=S.compg T
   refine vreq_t (S.fre 1 rfl (Nat.le_add_right ..) (by omega) (by simp)) ?_
   intro g324
   have S:Know g g324 (_::_::_::_::_::_::_::[_]):=S.lay 1 rfl (Nat.le_add_right ..) (by omega) (by simp) _
   refine vreq_t (S.cwg 0 rfl (fun _ h=>by cases h) (by decide) rfl rfl) ?_
   intro g325 g326
   have S:Know g g326 (ob (g4.nx+10) (.cells [.int .i64 v1,.int .i64 v2,.string v3,.slice v4 v5 v6,.int .i64 lf',.int .i64 (f fs[q] lf).2.2] 144 .fix)::clo own2 (fun x=>VA x (f fs[q] lf).1 [.int .i64 v1,.int .i64 v2,.string v3,.slice v4 v5 v6])::hole g4.nx 12 [g4.nx+10]::acc g.nx 46 4 a n c xs::clo own (fun y=>VAs y xs ps)::ob h.nx (.cells [.int .i64 kq,.int .i64 0,.string (ByteArray.mk #[]),.slice a n c,.int .i64 lf,.int .i64 0] 144 .fix)::ob b8 (.cells [.int .i64 0,.int .i64 0,.string (ByteArray.mk #[]),.slice none 0 0,.int .i64 0,.int .i64 0] 144 .fix)::[ob b4 (.cells [.slice aw nw cw,.int .i64 tp,.slice ar nr cr] 24 .fix)]):=S.wrg 0 rfl (fun _ h=>by cases h) (by decide) rfl rfl
   have hdr:rdL f (fs.drop q) lf=if (f fs[q] lf).2.2≠0 then ([],(f fs[q] lf).2.1,(f fs[q] lf).2.2)else
    if (rdL f (fs.drop (q+1)) (f fs[q] lf).2.1).2.2≠0 then ([],(rdL f (fs.drop (q+1)) (f fs[q] lf).2.1).2.1,(rdL f (fs.drop (q+1)) (f fs[q] lf).2.1).2.2)
    else ((f fs[q] lf).1::(rdL f (fs.drop (q+1)) (f fs[q] lf).2.1).1,(rdL f (fs.drop (q+1)) (f fs[q] lf).2.1).2.1,0):=by rw[List.drop_eq_getElem_cons q1,rdL]
   refine⟨_,S.rd 0 rfl rfl rfl,?_⟩
   by_cases he:(f fs[q] lf).2.2=0
   · rw[if_neg (by omega)]at hdr
     have hlf:=hlf he
     have gd:=good fs[q] hw lf l0' he
     have ub:=(weighF_le (f fs[q] lf).1 lf d (by omega)).2 l0'
     refine vcond_f (by rw[eqI_t he];rfl) ⟨_,_,_,S.rd 5 rfl rfl rfl,_,_,_,_,_,_,S.rd 0 rfl rfl rfl,?_⟩
     intro g354
     have S:Know g g354 (ob g326.nx (.cells [.int .i64 v1,.int .i64 v2,.string v3,.slice v4 v5 v6] 46 .fix)::_::_::_::_::_::_::_::[_]):=S.add _
     obtain⟨a',n',c',h358,e358,hn',S⟩:=S.app 4 rfl (Nat.le_refl _) S.lo app44 ⟨_,_,_,rfl⟩ (src_get (n:=1) (c:=1) (esz:=4) (off:=0) (S.rd 0 rfl (r:=[.int .i64 v1,.int .i64 v2,.string v3,.slice v4 v5 v6]) rfl rfl)) rfl rfl (by omega) (by unfold big;omega)
     refine⟨_,_,_,_,e358,?_⟩
     have S:Know g h358 (_::ob (g4.nx+10) (.cells [.int .i64 v1,.int .i64 v2,.string v3,.slice v4 v5 v6,.int .i64 lf',.int .i64 (f fs[q] lf).2.2] 144 .fix)::clo own2 (fun x=>VA x (f fs[q] lf).1 [.int .i64 v1,.int .i64 v2,.string v3,.slice v4 v5 v6])::_::acc g.nx 46 4 a' n' c' (xs++[.int .i64 v1,.int .i64 v2,.string v3,.slice v4 v5 v6])::clo own (fun y=>VAs y xs ps)::ob h.nx (.cells [.int .i64 kq,.int .i64 0,.string (ByteArray.mk #[]),.slice a n c,.int .i64 lf,.int .i64 0] 144 .fix)::ob b8 (.cells [.int .i64 0,.int .i64 0,.string (ByteArray.mk #[]),.slice none 0 0,.int .i64 0,.int .i64 0] 144 .fix)::[ob b4 (.cells [.slice aw nw cw,.int .i64 tp,.slice ar nr cr] 24 .fix)]):=S
     refine vreq_t (S.cw 6 rfl (by decide) rfl rfl) ?_
     intro g359
     have S:Know g g359 (_::ob (g4.nx+10) (.cells [.int .i64 v1,.int .i64 v2,.string v3,.slice v4 v5 v6,.int .i64 lf',.int .i64 (f fs[q] lf).2.2] 144 .fix)::clo own2 (fun x=>VA x (f fs[q] lf).1 [.int .i64 v1,.int .i64 v2,.string v3,.slice v4 v5 v6])::_::acc g.nx 46 4 a' n' c' (xs++[.int .i64 v1,.int .i64 v2,.string v3,.slice v4 v5 v6])::clo own (fun y=>VAs y xs ps)::ob h.nx (.cells [.int .i64 kq,.int .i64 0,.string (ByteArray.mk #[]),.slice a' n' c',.int .i64 lf,.int .i64 0] 144 .fix)::ob b8 (.cells [.int .i64 0,.int .i64 0,.string (ByteArray.mk #[]),.slice none 0 0,.int .i64 0,.int .i64 0] 144 .fix)::[ob b4 (.cells [.slice aw nw cw,.int .i64 tp,.slice ar nr cr] 24 .fix)]):=S.wr 6 rfl (by decide) rfl rfl
     refine⟨_,S.rd 1 rfl rfl rfl,vreq_t (S.cw 6 rfl (by decide) rfl rfl) ?_⟩
     intro g361
     have S:Know g g361 (_::_::clo own2 (fun x=>VA x (f fs[q] lf).1 [.int .i64 v1,.int .i64 v2,.string v3,.slice v4 v5 v6])::_::acc g.nx 46 4 a' n' c' (xs++[.int .i64 v1,.int .i64 v2,.string v3,.slice v4 v5 v6])::clo own (fun y=>VAs y xs ps)::ob h.nx (.cells [.int .i64 kq,.int .i64 0,.string (ByteArray.mk #[]),.slice a' n' c',.int .i64 lf',.int .i64 0] 144 .fix)::ob b8 (.cells [.int .i64 0,.int .i64 0,.string (ByteArray.mk #[]),.slice none 0 0,.int .i64 0,.int .i64 0] 144 .fix)::[ob b4 (.cells [.slice aw nw cw,.int .i64 tp,.slice ar nr cr] 24 .fix)]):=S.wr 6 rfl (by decide) rfl rfl
     have S:=S.sel [2,5,4,6,7,8] (by decide) rfl
     have S:=S.merge (fun y=>VAs y (xs++[.int .i64 v1,.int .i64 v2,.string v3,.slice v4 v5 v6]) (ps++[(f fs[q] lf).1])) fun y N A=>(clo.get A).snoc (clo.get N) rfl
     have S:=S.sel [1,0,2,3,4] (by decide) rfl
     rw[wrap_succ (by omega)]
     refine ihe (q+1) (by omega) (ps++[(f fs[q] lf).1]) _ lf' _ a' n' c' g361 (by omega) (by rw[List.length_append,hps];rfl) (by omega) (by omega) ?_ S
     rw[hr,hdr,hlf]
     by_cases h3:(rdL f (fs.drop (q+1)) (f fs[q] lf).2.1).2.2≠0
     · rw[if_pos h3,if_pos h3]
       simp only[if_pos h3]
     · rw[if_neg h3,if_neg h3]
       simp
   · rw[if_pos he]at hdr
     refine vcond_t (by rw[eqI_f he];rfl) ⟨_,_,_,_,_,_,_,_,S.rd 0 rfl rfl rfl,?_⟩
     have hr2:rdL f fs (left0-1)=([],(f fs[q] lf).2.1,(f fs[q] lf).2.2):=by rw[hr,hdr,if_pos he]
     have S8:=S.sel [1,6,7] (by decide) rfl
     rw[rdP_err (by rw[hr2];exact he),hr2]
     have hz:=zv fs[q] hw lf he
     rw[hz]at S8
     have:=scopy (r:=(zV,(f fs[q] lf).2.1,(f fs[q] lf).2.2)) (lf:=lf') S8 (fun e=>absurd e he)
     exact this
 exact go fs.length 0 (by omega) [] [] (left0-1) (fun _=>False) none 0 0 g3 rfl rfl (by omega) (by omega) (by rw[List.drop_zero,List.nil_append];exact rdL_shape fs (left0-1)) S5
end
end Go.Proofs.YtngcjpkccnfjiaaGreatDoor
namespace Go.Proofs.YtngcjpkccnfjiaaGreatDoor
set_option maxRecDepth 100000
open Go Go.Ev
section
variable {O:CallF}(hO:Oth O)
include hO
theorem ct103 {hv:Hp}{aw:Option Addr}{nw cw:Nat}{W:List Int}(HW:SI hv aw nw cw W)(hW: ∀x∈W,In64 x){l:List Nat}(k:Wk W l){tp:Int}{ar:Option Addr}{nr cr:Nat}:
 ∀(d:Nat),d≤8→ ∀ {g:Hp} (w left:Int),wordR l w=true→In64 w→0≤left→left≤200→Ft hv g→g.Ok→
 Ret Tryz.prog O 103 [.agg #[.slice aw nw cw,.int .i64 tp,.slice ar nr cr],.int .i64 w,.int .i64 left,.int .i64 (d:Int)] g (QR g (rdF W d w left)):=by
 intro d
 induction d with
 |zero=>
  intro _ g w left hw h64 l0 l2 Fv ok
  refine rk103 (hO:=hO _ _ _ (by decide)) (hh:= ?_) ..
  unfold T103
  intro g1 g2
  have S:Know g g1 [_]:=(Know.nil ok).add _
  have S:Know g g2 (ob g1.nx (.cells [.int .i64 0,.int .i64 0,.string (ByteArray.mk #[]),.slice none 0 0,.int .i64 0,.int .i64 0] 144 .fix)::[ob g.nx (.cells [.slice aw nw cw,.int .i64 tp,.slice ar nr cr] 24 .fix)]):=S.add _
  have:=sleaf S 0 0 eS 0 (left-1) 3 (fun e=>by cases e)
  exact vcond_split (fun _=>this) fun _=>vcond_t rfl this
 |succ d ih=>
  intro hd g w left hw h64 l0 l2 Fv ok
  refine rk103 (hO:=hO _ _ _ (by decide)) (hh:= ?_) ..
  unfold T103
  intro g1 g2
  have S:Know g g1 [_]:=(Know.nil ok).add _
  have S:Know g g2 (ob g1.nx (.cells [.int .i64 0,.int .i64 0,.string (ByteArray.mk #[]),.slice none 0 0,.int .i64 0,.int .i64 0] 144 .fix)::[ob g.nx (.cells [.slice aw nw cw,.int .i64 tp,.slice ar nr cr] 24 .fix)]):=S.add _
  unfold rdF
  by_cases c1:left<1
  · rw[if_pos c1]
    exact vcond_t (lt_t c1) (sleaf S 0 0 eS 0 (left-1) 3 (fun e=>by cases e))
  rw[if_neg c1]
  refine vcond_f (lt_f c1) (vcond_f (lt_f (by omega)) ?_)
  by_cases c2:Int.tmod w 2≠0
  · rw[if_pos c2]
    have e1:wrapF .i64 (w-1)=w-1:=by
     have hw':=hw
     unfold wordR at hw'
     have c0:w≠0:=fun h=>by subst h;exact c2 rfl
     rw[if_neg c0,if_pos c2,Bool.and_eq_true,decide_eq_true_eq,decide_eq_true_eq]at hw'
     exact wrap64 (by omega) (by omega)
    have e2:wrapF .i64 (Int.tdiv (w-1) 2)=Int.tdiv (w-1) 2:=by
     have h1:=h64.1
     have h2:=h64.2
     refine wrap64 ?_ ?_<;>(rw[tdiv_eq];split<;>omega)
    rw[e1,e2,wrap64 (n:=left-1) (by omega) (by omega)]
    obtain⟨r,h27,e27,rfl,K27⟩:=ct58 hO (Int.tdiv (w-1) 2) S.ok
    have S:Know g h27 (ob g1.nx (.cells [.int .i64 0,.int .i64 0,.string (ByteArray.mk #[]),.slice none 0 0,.int .i64 0,.int .i64 0] 144 .fix)::[_]):=S.call K27
    exact vcond_t (by rw[eqI_f c2];rfl) ⟨_,_,_,_,_,_,_,e27,sleaf S 1 _ eS (left-1) (left-1) 0 (fun _=>rfl)⟩
  rw[if_neg c2]
  refine vcond_f (by rw[eqI_t (by simpa using c2)];rfl) ?_
  by_cases c3:w=0
  · rw[if_pos c3]
    subst c3
    exact vcond_t rfl (sleaf S 0 0 eS 0 (left-1) 7 (fun e=>by cases e))
  rw[if_neg c3]
  obtain⟨p,hp,ew0,ep,ep2⟩:=wordR_even hw c2 c3
  rw[ep]
  obtain⟨q1,q2,q3,q4⟩:=k.at_ p hp
  have k200:=k.l200
  obtain⟨k1,k2,k3,k4,k5⟩:=k.form hp
  have ew:wrapF .i64 (Int.tdiv w 2)=Int.ofNat p:=by rw[ep2];exact wrap64 (by omega) (by omega)
  rw[ew]
  have gW:W.getD p 0=W[p]:=by simp[List.getD,List.getElem?_eq_getElem q1]
  have lfs:(fieldsW W p).length=(hdS (W.getD p 0)).toNat:=by unfold fieldsW;rw[List.length_take,List.length_drop];omega
  haveI:Ft hv g2:=Fv.tr S.ft
  have hp1:=k.pos p hp
  refine vcond_f (eqI_f (by simp only[Int.ofNat_eq_natCast];omega)) ⟨_,_,_,_,_,_,_,S.rd 1 rfl rfl rfl,ct68 hO HW hW (by omega) ⟨q1,q2,q3,q4⟩ fun a n c h56 X K56=> ?_⟩
  have S:Know g h56 (ob g1.nx (.cells [.int .i64 0,.int .i64 0,.string (ByteArray.mk #[]),.slice none 0 0,.int .i64 0,.int .i64 0] 144 .fix)::[ob g.nx (.cells [.slice aw nw cw,.int .i64 tp,.slice ar nr cr] 24 .fix)]):=S.call K56
  haveI:Ft hv h56:=Fv.tr S.ft
  refine⟨_,_,_,S.rd 1 rfl rfl rfl,isNat_i (HW.at_.rd q1 ⟨_,_,ct90 hO _ _,?_⟩)⟩
  rw[←gW]
  rw[wrap64 (n:=left-1) (by omega) (by omega)]
  have c136:=ct136 hO (g:=h56) (Fv.tr S.ft) S.ok HW hW k (tp:=tp) (ar:=ar) (nr:=nr) (cr:=cr) hp
  unfold plF at c136
  have hstr:hdK (W.getD p 0)=1∨hdK (W.getD p 0)=2→strongP W p=fieldsW W p:=fun h=>by
   unfold strongP keepB
   rcases h with h|h<;>rw[h]<;>rfl
  generalize hkk:hdK (W.getD p 0)=kk at *
  have plain:kk≠1→kk≠2→ ∀ {kq nq:Int} {tq:ByteArray} {eq:Int},Ret Tryz.prog O 136 [.agg #[.slice aw nw cw,.int .i64 tp,.slice ar nr cr],.int .i64 (Int.ofNat p)] h56 (fun r g'=>r= .tuple #[.agg #[.int .i64 kq,.int .i64 nq,.string tq,.slice none 0 0],.int .i64 eq]∧Kp h56.nx h56 g')→
   ∃a66' n67' c68' x69' a70' n71' c72',readAt h56 g.nx 0 3=some [.slice a66' n67' c68',.int .i64 x69',.slice a70' n71' c72']∧
   ∃x73' x74' s75' a76' n77' c78',∃x79' h80',EvC Tryz.prog O 136 [.agg #[.slice a66' n67' c68',.int .i64 x69',.slice a70' n71' c72'],.int .i64 (Int.ofNat p)] h56 (.tuple #[.agg #[.int .i64 x73',.int .i64 x74',.string s75',.slice a76' n77' c78'],.int .i64 x79']) h80'∧
   vreq (canW (h80'.add (.cells [.int .i64 0,.int .i64 0,.string (ByteArray.mk #[]),.slice none 0 0] 46 .fix)) h80'.nx 0 [.int .i64 x73',.int .i64 x74',.string s75',.slice a76' n77' c78'])
   (∃x83' x84' s85' a86' n87' c88',readAt ((h80'.add (.cells [.int .i64 0,.int .i64 0,.string (ByteArray.mk #[]),.slice none 0 0] 46 .fix)).wr h80'.nx 0 [.int .i64 x73',.int .i64 x74',.string s75',.slice a76' n77' c78']) h80'.nx 0 4=some [.int .i64 x83',.int .i64 x84',.string s85',.slice a86' n87' c88']∧
     vreq (canW ((h80'.add (.cells [.int .i64 0,.int .i64 0,.string (ByteArray.mk #[]),.slice none 0 0] 46 .fix)).wr h80'.nx 0 [.int .i64 x73',.int .i64 x74',.string s75',.slice a76' n77' c78']) g1.nx 0 [.int .i64 x83',.int .i64 x84',.string s85',.slice a86' n87' c88',.int .i64 (left-1),.int .i64 x79'])
     (∃x90' x91' s92' a93' n94' c95' x96' x97',readAt (((h80'.add (.cells [.int .i64 0,.int .i64 0,.string (ByteArray.mk #[]),.slice none 0 0] 46 .fix)).wr h80'.nx 0 [.int .i64 x73',.int .i64 x74',.string s75',.slice a76' n77' c78']).wr g1.nx 0 [.int .i64 x83',.int .i64 x84',.string s85',.slice a86' n87' c88',.int .i64 (left-1),.int .i64 x79']) g1.nx 0 6=some [.int .i64 x90',.int .i64 x91',.string s92',.slice a93' n94' c95',.int .i64 x96',.int .i64 x97']∧
       QR g (.mk kq nq tq [],left-1,eq) (.agg #[.int .i64 x90',.int .i64 x91',.string s92',.slice a93' n94' c95',.int .i64 x96',.int .i64 x97']) (((h80'.add (.cells [.int .i64 0,.int .i64 0,.string (ByteArray.mk #[]),.slice none 0 0] 46 .fix)).wr h80'.nx 0 [.int .i64 x73',.int .i64 x74',.string s75',.slice a76' n77' c78']).wr g1.nx 0 [.int .i64 x83',.int .i64 x84',.string s85',.slice a86' n87' c88',.int .i64 (left-1),.int .i64 x79']))):=by
   intro _ _ kq nq tq eq hr
   obtain⟨r,h80,e80,rfl,K80⟩:=hr
   refine⟨_,_,_,_,_,_,_,S.rd 1 rfl rfl rfl,_,_,_,_,_,_,_,_,e80,?_⟩
   have S1:=(S.call K80).add (.cells [.int .i64 0,.int .i64 0,.string (ByteArray.mk #[]),.slice none 0 0] 46 .fix)
   refine vreq_t (S1.cw 0 rfl (by decide) rfl rfl) ?_
   have S2:Know g ((h80.add (.cells [.int .i64 0,.int .i64 0,.string (ByteArray.mk #[]),.slice none 0 0] 46 .fix)).wr h80.nx 0 [.int .i64 kq,.int .i64 nq,.string tq,.slice none 0 0]) (ob h80.nx (.cells [.int .i64 kq,.int .i64 nq,.string tq,.slice none 0 0] 46 .fix)::ob g1.nx (.cells [.int .i64 0,.int .i64 0,.string (ByteArray.mk #[]),.slice none 0 0,.int .i64 0,.int .i64 0] 144 .fix)::[ob g.nx (.cells [.slice aw nw cw,.int .i64 tp,.slice ar nr cr] 24 .fix)]):=S1.wr 0 rfl (by decide) rfl rfl
   refine⟨_,_,_,_,_,_,S2.rd 0 rfl rfl rfl,?_⟩
   exact sleaf (S2.sel [1,2] (by decide) rfl) kq nq tq (left-1) (left-1) eq (fun _=>rfl)
  by_cases h4:kk=4
  · subst h4
    rw[if_pos rfl]at c136 ⊢
    exact vcond_t rfl (vcond_t rfl (plain (by decide) (by decide) c136))
  rw[if_neg h4]at c136 ⊢
  by_cases h3:kk=3
  · subst h3
    rw[if_pos rfl]at c136 ⊢
    exact vcond_t rfl (vcond_t rfl (plain (by decide) (by decide) c136))
  rw[if_neg h3]at c136 ⊢
  have hwf: ∀x∈fieldsW W p,wordR l x=true:=fun x hx=>by
   have:=k5 x hx
   unfold fieldR at this
   rw[if_neg h3,if_neg h4]at this
   exact this
  have part:kk=1∨kk=2→I103_1 O (QR g (rdP (rdF W d) (if kk=1 then 4 else 5) (fieldsW W p) (left-1))) aw nw cw tp ar nr cr w left ((d+1:Nat):Int) g.nx 0 g1.nx 0 a n c kk h56:=fun h12=>by
   rw[hstr h12]at X
   have hn:=X.1
   subst hn
   exact lp103 hO Fv (f:=rdF W d) k3 h12 (by omega) (fun w hw left l0=>rd_good k d w left (hwf w hw) l0) (fun w hw left h=>rdF_zV h)
    (fun w hw g' left l0 l2 Fv ok=> @ih (by omega) g' w left (hwf w hw) (hW _ (fieldsW_mem hw)) l0 l2 Fv ok) (by omega) l2 S X
  have bad:I103_0 O (QR g (zV,left-1,7)) aw nw cw tp ar nr cr w left ((d+1:Nat):Int) g.nx 0 g1.nx 0 a n c kk h56:=by
   refine I103_0.of (hh:= ?_) ..
   unfold T103_0
   exact sleaf S 0 0 eS 0 (left-1) 7 (fun e=>by cases e)
  by_cases h1:kk=1
  · subst h1
    rw[if_pos rfl]
    have hn:=X.1
    rw[hstr (.inl rfl)]at hn
    refine vcond_f rfl (vcond_t rfl ?_)
    by_cases c4:(fieldsW W p).length<2
    · rw[if_pos (.inl c4)]
      exact vcond_t (by show ltI (Int.ofNat n) (Int.ofNat 2)=true;rw[ltI_nat];exact blt_t (by omega)) bad
    refine vcond_f (by show ltI (Int.ofNat n) (Int.ofNat 2)=false;rw[ltI_nat];exact blt_f (by omega)) ?_
    by_cases c5:6<(fieldsW W p).length
    · rw[if_pos (.inr c5)]
      exact vcond_t (by show ltI (Int.ofNat 6) (Int.ofNat n)=true;rw[ltI_nat];exact blt_t (by omega)) bad
    rw[if_neg (by omega)]
    exact vcond_f (by show ltI (Int.ofNat 6) (Int.ofNat n)=false;rw[ltI_nat];exact blt_f (by omega)) (part (.inl rfl))
  rw[if_neg h1]
  by_cases h2:kk=2
  · subst h2
    rw[if_pos rfl]
    exact vcond_t rfl (vcond_f rfl (vcond_f rfl (part (.inr rfl))))
  rw[if_neg h2]
  exact vcond_t (by rw[eqI_f h1];rfl) (vcond_t (by rw[eqI_f h2];rfl) (plain h1 h2 c136))
theorem ct34 {g:Hp}(ok:g.Ok){aw:Option Addr}{nw cw:Nat}{W:List Int}{top:Int}{ar:Option Addr}{nr cr:Nat}{R:List Int}(A:HA g aw nw cw W ar nr cr R){w:Int}(hw:In64 w):
 Ret Tryz.prog O 34 [.agg #[.slice aw nw cw,.int .i64 top,.slice ar nr cr],.int .i64 w] g (QV g (readO (checkP W top R) W w)):=by
 refine rk34 (hO:=hO _ _ _ (by decide)) (hh:= ?_) ..
 unfold T34
 intro g1 g2
 have S:Know g g1 [_]:=(Know.nil ok).add _
 have S:Know g g2 [ob g1.nx (.cells [.int .i64 0,.int .i64 0,.string (ByteArray.mk #[]),.slice none 0 0] 46 .fix),ob g.nx (.cells [.slice aw nw cw,.int .i64 top,.slice ar nr cr] 24 .fix)]:=S.add _
 haveI:=S.ft
 obtain⟨v,h14,e14,a10,n11,c12,rfl,XL,k14⟩:=ct37 hO S.ok (A.to g2) (top:=top)
 refine⟨_,_,_,_,_,_,_,S.rd 1 rfl rfl rfl,_,_,_,_,_,e14,?_⟩
 have S:Know g h14 [ob g1.nx (.cells [.int .i64 0,.int .i64 0,.string (ByteArray.mk #[]),.slice none 0 0] 46 .fix),ob g.nx (.cells [.slice aw nw cw,.int .i64 top,.slice ar nr cr] 24 .fix)]:=S.call k14
 rw[formed_check]at XL ⊢
 cases hc:checkP W top R with
 |none=>exact vcond_f rfl (vcond_t rfl (qleaf S 0 0 eS 2))
 |some l=>
  rw[hc]at XL
  obtain⟨f1,f2,f3,f4,f5,f6,f7,f8,f9⟩:=checkP_cells hc
  have ll:l.length<1000000:=by have:=cellsG_total f7;have:=length_total W l;omega
  refine vcond_t rfl ⟨_,_,ct102 hO XL ll hw,?_⟩
  have eF:wordR l w=false→readO (some l) W w=(zV,2):=fun h=>by unfold readO;simp[h]
  have eT:wordR l w=true→readO (some l) W w=((rdF W 8 w 200).1,(rdF W 8 w 200).2.2):=fun h=>by unfold readO;simp[h]
  cases hq:wordR l w with
  |false=>rw[eF hq];exact vcond_t (by show(!(wordR l w))=true;rw[hq];rfl) (qleaf S 0 0 eS 2)
  |true=>
   rw[eT hq]
   refine vcond_f (by show(!(wordR l w))=false;rw[hq];rfl) (vcond_f rfl ⟨_,_,_,_,_,_,_,S.rd 1 rfl rfl rfl,?_⟩)
   obtain⟨r,h46,e46,vs,lf,own,rfl,hlf,T⟩:=ct103 hO A.sw A.w (Wk.of hc).1 (tp:=top) (ar:=ar) (nr:=nr) (cr:=cr) 8 (by omega) (g:=h14) w 200 hq hw (by omega) (by omega) S.ft S.ok
   have hva:VA h46 (rdF W 8 w 200).1 vs:=clo.get (T.get 0 rfl)
   obtain⟨v1,v2,v3,v4,v5,v6,rfl⟩:=hva.form
   refine⟨_,_,_,_,_,_,_,_,_,e46,?_⟩
   have S:Know g h46 [clo own (fun x=>VA x (rdF W 8 w 200).1 [.int .i64 v1,.int .i64 v2,.string v3,.slice v4 v5 v6]),ob g1.nx (.cells [.int .i64 0,.int .i64 0,.string (ByteArray.mk #[]),.slice none 0 0] 46 .fix),_]:=S.comp T
   intro g47
   have S:Know g g47 (_::[_,_,_]):=S.add _
   refine vreq_t (S.cw 0 rfl (by decide) rfl rfl) ?_
   intro g48
   have S:Know g g48 [ob h46.nx (.cells [.int .i64 v1,.int .i64 v2,.string v3,.slice v4 v5 v6,.int .i64 lf,.int .i64 (rdF W 8 w 200).2.2] 144 .fix),clo own (fun x=>VA x (rdF W 8 w 200).1 [.int .i64 v1,.int .i64 v2,.string v3,.slice v4 v5 v6]),ob g1.nx (.cells [.int .i64 0,.int .i64 0,.string (ByteArray.mk #[]),.slice none 0 0] 46 .fix),_]:=S.wr 0 rfl (by decide) rfl rfl
   refine⟨_,S.rd 0 rfl rfl rfl,?_⟩
   by_cases he:(rdF W 8 w 200).2.2=0
   · refine vcond_f (by rw[eqI_t he];rfl) ⟨_,_,_,_,_,_,S.rd 0 rfl rfl rfl,vreq_t (S.cw 2 rfl (by decide) rfl rfl) ?_⟩
     intro g66
     have S:Know g g66 [_,clo own (fun x=>VA x (rdF W 8 w 200).1 [.int .i64 v1,.int .i64 v2,.string v3,.slice v4 v5 v6]),ob g1.nx (.cells [.int .i64 v1,.int .i64 v2,.string v3,.slice v4 v5 v6] 46 .fix),_]:=S.wr 2 rfl (by decide) rfl rfl
     exact⟨_,_,_,_,_,_,S.rd 2 rfl rfl rfl,_,own,by rw[he],S.sel [1] (by decide) rfl⟩
   · refine vcond_t (by rw[eqI_f he];rfl) ?_
     intro g50
     have S:Know g g50 [_,_,_,_]:=S.rsv 5
     have hne: ∀q∈ [h46.nx],q≠g1.nx:=fun q hq=>by rw[List.mem_singleton.1 hq];exact Know.ne S 0 2 rfl rfl (by decide)
     refine⟨_,S.rd 0 rfl rfl rfl,vreq_t (S.cwg 2 rfl hne (by decide) rfl rfl) ?_⟩
     intro g52 g53
     have S:Know g g53 [_,_,ob g1.nx (.cells [.int .i64 0,.int .i64 0,.string (ByteArray.mk #[]),.slice none 0 0] 46 .fix),_]:=S.wrg 2 rfl hne (by decide) rfl rfl
     refine⟨_,_,_,_,_,_,S.rd 2 rfl rfl rfl,[.int .i64 0,.int .i64 0,.string eS,.slice none 0 0],fun _=>False,rfl,?_⟩
     have S3:=S.sub [] (List.nil_sublist _)
     have hz:=rdF_zV he
     rw[hz]
     exact S3.push (r':=clo (fun _=>False) (fun y=>VA y zV [.int .i64 0,.int .i64 0,.string eS,.slice none 0 0])) (Kp.refl _ _) (clo.loc _ _) (fun _ _ _=> .nil 0 0 eS 0) fun _ h=>h.elim
end
end Go.Proofs.YtngcjpkccnfjiaaGreatDoor
namespace Go.Proofs.YtngcjpkccnfjiaaGreatDoor
open Go Go.Ev
set_option maxRecDepth 100000
set_option linter.unusedVariables false
noncomputable def b5:Code:=(Tryz.f5.body).getD .skip
def lv5:List (Nat×List Nat):=[]
def T5 (O:CallF)(Q:Value→Hp→Prop)(a0_0:Option Addr)(n0_0 c0_0:Nat)(x0_1:Int)(a0_2:Option Addr)(n0_2 c0_2:Nat)(x1_0 x1_1:Int)(s1_2:ByteArray)(a1_3:Option Addr)(n1_3 c1_3:Nat)(x2:Int)(h:Hp):Prop:=
 let g1:=h.add (.cells [.slice a0_0 n0_0 c0_0,.int .i64 x0_1,.slice a0_2 n0_2 c0_2] 24 .fix)
 let g2:=g1.add (.cells [.int .i64 x1_0,.int .i64 x1_1,.string s1_2,.slice a1_3 n1_3 c1_3] 46 .fix)
 ∃a3 n4 c5 x6 a7 n8 c9,readAt g2 h.nx 0 3=some [.slice a3 n4 c5,.int .i64 x6,.slice a7 n8 c9]∧
 ∃q10 h11,EvC Tryz.prog O 13 [.agg #[.slice a3 n4 c5,.int .i64 x6,.slice a7 n8 c9],.slice none 0 0] g2 (.bool q10) h11∧
 vcond q10
 (∃q12 h13,EvC Tryz.prog O 14 [] h11 (.bool q12) h13∧
 Q (.bool q12) h13)
 (∃x14 x15 s16 a17 n18 c19,readAt h11 g1.nx 0 4=some [.int .i64 x14,.int .i64 x15,.string s16,.slice a17 n18 c19]∧
 ∃q20 h21,EvC Tryz.prog O 30 [.agg #[.int .i64 x14,.int .i64 x15,.string s16,.slice a17 n18 c19]] h11 (.bool q20) h21∧
 vcond (!q20)
 (∃q22 h23,EvC Tryz.prog O 14 [] h21 (.bool q22) h23∧
 Q (.bool q22) h23)
 (∃a24 n25 c26 x27 a28 n29 c30,readAt h21 h.nx 0 3=some [.slice a24 n25 c26,.int .i64 x27,.slice a28 n29 c30]∧
 ∃x31 x32 s33 a34 n35 c36,readAt h21 g1.nx 0 4=some [.int .i64 x31,.int .i64 x32,.string s33,.slice a34 n35 c36]∧
 ∃a37 n38 c39 x40 a41 n42 c43 x44 x45 h46,EvC Tryz.prog O 31 [.agg #[.slice a24 n25 c26,.int .i64 x27,.slice a28 n29 c30],.agg #[.int .i64 x31,.int .i64 x32,.string s33,.slice a34 n35 c36]] h21 (.tuple #[.agg #[.slice a37 n38 c39,.int .i64 x40,.slice a41 n42 c43],.int .i64 x44,.int .i64 x45]) h46∧
 let g47:=h46.add (.cells [.slice none 0 0,.int .i64 0,.slice none 0 0] 24 .fix)
 vreq (canW g47 h46.nx 0 [.slice a37 n38 c39,.int .i64 x40,.slice a41 n42 c43])
 (let g48:=g47.wr h46.nx 0 [.slice a37 n38 c39,.int .i64 x40,.slice a41 n42 c43]
 ∃a49 n50 c51 x52 a53 n54 c55,readAt g48 h.nx 0 3=some [.slice a49 n50 c51,.int .i64 x52,.slice a53 n54 c55]∧
 ∃x56 x57 s58 a59 n60 c61,readAt g48 g1.nx 0 4=some [.int .i64 x56,.int .i64 x57,.string s58,.slice a59 n60 c61]∧
 ∃a62 n63 c64 x65 a66 n67 c68 x69 x70 h71,EvC Tryz.prog O 32 [.agg #[.slice a49 n50 c51,.int .i64 x52,.slice a53 n54 c55],.agg #[.int .i64 x56,.int .i64 x57,.string s58,.slice a59 n60 c61]] g48 (.tuple #[.agg #[.slice a62 n63 c64,.int .i64 x65,.slice a66 n67 c68],.int .i64 x69,.int .i64 x70]) h71∧
 let g72:=h71.add (.cells [.slice none 0 0,.int .i64 0,.slice none 0 0] 24 .fix)
 vreq (canW g72 h71.nx 0 [.slice a62 n63 c64,.int .i64 x65,.slice a66 n67 c68])
 (let g73:=g72.wr h71.nx 0 [.slice a62 n63 c64,.int .i64 x65,.slice a66 n67 c68]
 ∃a74 n75 c76 x77 a78 n79 c80,readAt g73 h.nx 0 3=some [.slice a74 n75 c76,.int .i64 x77,.slice a78 n79 c80]∧
 ∃x81 x82 s83 a84 n85 c86 x87 h88,EvC Tryz.prog O 33 [.agg #[.slice a74 n75 c76,.int .i64 x77,.slice a78 n79 c80],.int .i64 x2] g73 (.tuple #[.agg #[.int .i64 x81,.int .i64 x82,.string s83,.slice a84 n85 c86],.int .i64 x87]) h88∧
 let g89:=h88.add (.cells [.int .i64 0,.int .i64 0,.string (ByteArray.mk #[]),.slice none 0 0] 46 .fix)
 vreq (canW g89 h88.nx 0 [.int .i64 x81,.int .i64 x82,.string s83,.slice a84 n85 c86])
 (let g90:=g89.wr h88.nx 0 [.int .i64 x81,.int .i64 x82,.string s83,.slice a84 n85 c86]
 ∃a91 n92 c93 x94 a95 n96 c97,readAt g90 h.nx 0 3=some [.slice a91 n92 c93,.int .i64 x94,.slice a95 n96 c97]∧
 ∃x98 x99 s100 a101 n102 c103 x104 h105,EvC Tryz.prog O 34 [.agg #[.slice a91 n92 c93,.int .i64 x94,.slice a95 n96 c97],.int .i64 x2] g90 (.tuple #[.agg #[.int .i64 x98,.int .i64 x99,.string s100,.slice a101 n102 c103],.int .i64 x104]) h105∧
 let g106:=h105.add (.cells [.int .i64 0,.int .i64 0,.string (ByteArray.mk #[]),.slice none 0 0] 46 .fix)
 vreq (canW g106 h105.nx 0 [.int .i64 x98,.int .i64 x99,.string s100,.slice a101 n102 c103])
 (let g107:=g106.wr h105.nx 0 [.int .i64 x98,.int .i64 x99,.string s100,.slice a101 n102 c103]
 ∃a108 n109 c110 x111 a112 n113 c114,readAt g107 h46.nx 0 3=some [.slice a108 n109 c110,.int .i64 x111,.slice a112 n113 c114]∧
 ∃a115 n116 c117 x118 a119 n120 c121,readAt g107 h71.nx 0 3=some [.slice a115 n116 c117,.int .i64 x118,.slice a119 n120 c121]∧
 ∃q122 h123,EvC Tryz.prog O 19 [.agg #[.slice a108 n109 c110,.int .i64 x111,.slice a112 n113 c114],.agg #[.slice a115 n116 c117,.int .i64 x118,.slice a119 n120 c121]] g107 (.bool q122) h123∧
 vcond q122
 (vcond (eqI x44 x69)
 (vcond (eqI x45 x70)
 (∃x124 x125 s126 a127 n128 c129,readAt h123 h88.nx 0 4=some [.int .i64 x124,.int .i64 x125,.string s126,.slice a127 n128 c129]∧
 ∃x130 x131 s132 a133 n134 c135,readAt h123 h105.nx 0 4=some [.int .i64 x130,.int .i64 x131,.string s132,.slice a133 n134 c135]∧
 ∃q136 h137,EvC Tryz.prog O 35 [.agg #[.int .i64 x124,.int .i64 x125,.string s126,.slice a127 n128 c129],.agg #[.int .i64 x130,.int .i64 x131,.string s132,.slice a133 n134 c135]] h123 (.bool q136) h137∧
 vcond q136
 (vcond (eqI x87 x104)
 (∃q138 h139,EvC Tryz.prog O 14 [] h137 (.bool q138) h139∧
 Q (.bool q138) h139)
 (Q (.bool false) h137))
 (Q (.bool false) h137))
 (Q (.bool false) h123))
 (Q (.bool false) h123))
 (Q (.bool false) h123)))))))
theorem rk5 {O Q} (a0_0 n0_0 c0_0 x0_1 a0_2 n0_2 c0_2 x1_0 x1_1 s1_2 a1_3 n1_3 c1_3 x2){h:Hp}(hO:O 5 [.agg #[.slice a0_0 n0_0 c0_0,.int .i64 x0_1,.slice a0_2 n0_2 c0_2],.agg #[.int .i64 x1_0,.int .i64 x1_1,.string s1_2,.slice a1_3 n1_3 c1_3],.int .i64 x2] h=none)(hh:T5 O Q a0_0 n0_0 c0_0 x0_1 a0_2 n0_2 c0_2 x1_0 x1_1 s1_2 a1_3 n1_3 c1_3 x2 h):Ret Tryz.prog O 5 [.agg #[.slice a0_0 n0_0 c0_0,.int .i64 x0_1,.slice a0_2 n0_2 c0_2],.agg #[.int .i64 x1_0,.int .i64 x1_1,.string s1_2,.slice a1_3 n1_3 c1_3],.int .i64 x2] h Q:=
 .of (c:=b5) Tryz.func5 (by kernel_rfl) hO (V_okE (tb:=lv5) (cuts:=[]) 500 hh (by kernel_rfl))
end Go.Proofs.YtngcjpkccnfjiaaGreatDoor
