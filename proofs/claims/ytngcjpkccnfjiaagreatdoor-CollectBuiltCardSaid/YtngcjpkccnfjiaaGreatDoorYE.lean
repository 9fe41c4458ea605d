/- weigh, fits, of, the parts of a kind, in, spelled: their contracts. -/
import Derived.Test.YtngcjpkccnfjiaaGreatDoorYD
import Derived.Lib.Bytealg
import Derived.Test.YtngcjpkccnfjiaaGreatDoorProg
import Derived.Test.YtngcjpkccnfjiaaGreatDoorYC
import Derived.KernelRfl
namespace Go.Proofs.YtngcjpkccnfjiaaGreatDoor
open Go Go.Ev
theorem lt_t {a b:Int}(h:a<b):ltI a b=true:=by rw[ltI_eq];exact decide_eq_true h
theorem lt_f {a b:Int}(h: ¬a<b):ltI a b=false:=by rw[ltI_eq];exact decide_eq_false h
theorem Know.put {h0 g:Hp}{L:List Rs}(S:Know h0 g L)(i:Nat){b:Nat}{x:Ob}(hi:L[i]? =some (ob b x))(y:Ob): ∃g',g.put b (some y)=some g'∧Know h0 g' (L.set i (ob b y)):=by
 have hr:=S.orng i hi;have hg:g.guarded b=false:=S.gdf hr.1;have: ∃g',g.put b (some y)=some g':=by unfold Hp.put;rw[hg];exact⟨_,rfl⟩
 obtain⟨g',hp⟩:=this;obtain⟨p1,p2,_,p4⟩:=Hp.get_put hp;have p4: ∀q,g'.get q=if q=b then some y else g.get q:=p4
 refine⟨g',hp,S.upd i hi (r':=ob b y) ⟨fun o _ hb=>by rw[p4];exact if_neg hb,by rw[p1];exact Nat.le_refl _,p2,fun f o ho=> ?_⟩ (ob.loc _ _) (by show g'.get b=_;rw[p4,if_pos rfl]) fun _ h=> .inl h⟩;have h2:=hr.2;rw[p1]at ho;rw[p4,if_neg (by omega)];exact f o ho
section
variable {O:CallF}(hO:Oth O)
include hO
def WeighR (v:Vl)(most d:Int)(r:Value):Prop:= ∃x y:Int,r= .agg #[.int .i64 x,.int .i64 y]∧(0≤weighF v most d→x=most-weighF v most d∧0≤y∧y≤d)∧(weighF v most d<0→x=most+1∧y=d+1)
theorem ct154 {h:Hp}: ∀(v:Vl) {vs:List Value} (_:VA h v vs) {g:Hp},Ft h g→g.Ok→ ∀(most d:Int),-1≤most→most<1000000→ -1000≤d→d<1000000→
 Ret Tryz.prog O 154 [.agg vs.toArray,.int .i64 most,.int .i64 d] g fun r g'=>WeighR v most d r∧Kp g.nx g g':=by
 refine Vl.ind fun k n t ps ih=> ?_;intro vs V g F ok most d h1 h2 h3 h4;obtain⟨a,m,c,rfl,P⟩:=PA.of V;have p1:=P.1;subst p1;refine rk154 (hO:=hO _ _ _ (by decide)) (hh:= ?_) ..;unfold T154;intro g1;have S:Know g g1 [ob g.nx (.cells [.int .i64 k,.int .i64 n,.string t,.slice a ps.length c] 46 .fix)]:=(Know.nil ok).add _;intro g2;have S:Know g g2 [ob g1.nx (.cells [.int .i64 0,.int .i64 0] 188 .fix),ob g.nx (.cells [.int .i64 k,.int .i64 n,.string t,.slice a ps.length c] 46 .fix)]:=S.add _;intro g3;have S:Know g g3 [_,_,_]:=S.add _;refine vreq_t (S.cw 0 rfl (by decide) rfl rfl) ?_;intro g4;have S:Know g g4 [ob g2.nx (.cells [.int .i64 1,.int .i64 0] 188 .fix),ob g1.nx (.cells [.int .i64 0,.int .i64 0] 188 .fix),ob g.nx (.cells [.int .i64 k,.int .i64 n,.string t,.slice a ps.length c] 46 .fix)]:=S.wr 0 rfl (by decide) rfl rfl;have wm:wrapF .i64 (most+1)=most+1:=wrap64 (by omega) (by omega);have wd:wrapF .i64 (d+1)=d+1:=wrap64 (by omega) (by omega);have wd1:wrapF .i64 (d-1)=d-1:=wrap64 (by omega) (by omega);have small: ∀ {g5:Hp} {vs:List Value},Know g g5 [ob g2.nx (.cells vs 188 .fix),ob g1.nx (.cells [.int .i64 0,.int .i64 0] 188 .fix),ob g.nx (.cells [.int .i64 k,.int .i64 n,.string t,.slice a ps.length c] 46 .fix)]→weighF (.mk k n t ps) most d<0→
  vreq (canW g5 g1.nx 0 [.int .i64 (most+1),.int .i64 (d+1)]) (∃x6' x7',readAt (g5.wr g1.nx 0 [.int .i64 (most+1),.int .i64 (d+1)]) g1.nx 0 2=some [.int .i64 x6',.int .i64 x7']∧(WeighR (.mk k n t ps) most d (.agg #[.int .i64 x6',.int .i64 x7'])∧Kp g.nx g (g5.wr g1.nx 0 [.int .i64 (most+1),.int .i64 (d+1)]))):=by
  intro g5 vs S hw;refine vreq_t (S.cw 1 rfl (by decide) rfl rfl) ?_;have S:Know g (g5.wr g1.nx 0 [.int .i64 (most+1),.int .i64 (d+1)]) [ob g2.nx (.cells vs 188 .fix),ob g1.nx (.cells [.int .i64 (most+1),.int .i64 (d+1)] 188 .fix),ob g.nx (.cells [.int .i64 k,.int .i64 n,.string t,.slice a ps.length c] 46 .fix)]:=S.wr 1 rfl (by decide) rfl rfl;exact⟨_,_,S.rd 1 rfl rfl rfl,⟨_,_,rfl,fun e=>absurd hw (by omega),fun _=>⟨rfl,rfl⟩⟩,S.kp⟩
 rw[wm,wd];have hbad:most<1∨d<1→weighF (.mk k n t ps) most d<0:=fun e=>by simp only[weighF];rw[if_pos e];omega
 refine vcond_split (fun e=>small S (hbad (.inl (lt_of_t e)))) fun e=>vcond_split (fun e2=>small S (hbad (.inr (lt_of_t e2)))) fun e2=>⟨_,_,_,S.rd 2 rfl rfl rfl,?_⟩;have e:=not_lt_of_f e;have e2:=not_lt_of_f e2;have hw:weighF (.mk k n t ps) most d=weighL ps (most-1) (d-1):=by simp only[weighF];rw[if_neg (by omega)]
 have go: ∀(j i:Nat),i+j=ps.length→ ∀(nd dp:Int) (g5:Hp),(i:Int)+1≤nd→nd≤most→0≤dp→dp≤d-1→weighF (.mk k n t ps) most d=weighL (ps.drop i) (most-nd) (d-1)→
  Know g g5 [ob g2.nx (.cells [.int .i64 nd,.int .i64 dp] 188 .fix),ob g1.nx (.cells [.int .i64 0,.int .i64 0] 188 .fix),ob g.nx (.cells [.int .i64 k,.int .i64 n,.string t,.slice a ps.length c] 46 .fix)]→
  I154_0 O (fun r g'=>WeighR (.mk k n t ps) most d r∧Kp g.nx g g') k n t a ps.length c most d g1.nx 0 g2.nx 0 a ps.length c (Int.ofNat ps.length) (Int.ofNat i) g5:=by
  intro j
  induction j with
  |zero=>
   intro i hi nd dp g5 n1 n2 d1 d2 hW S;refine I154_0.of (hh:= ?_) ..;unfold T154_0;rw[List.drop_of_length_le (by omega),weighL]at hW;refine vcond_f (by rw[ltI_nat];exact blt_f (by omega)) ⟨_,S.rd 0 rfl rfl rfl,_,S.rd 0 rfl rfl rfl,?_⟩;rw[wrap64 (n:=dp+1) (by omega) (by omega)];refine vreq_t (S.cw 1 rfl (by decide) rfl rfl) ?_;intro g135;have S:Know g g135 [_,ob g1.nx (.cells [.int .i64 nd,.int .i64 (dp+1)] 188 .fix),_]:=S.wr 1 rfl (by decide) rfl rfl;exact⟨_,_,S.rd 1 rfl rfl rfl,⟨_,_,rfl,fun _=>by omega,fun e=>by omega⟩,S.kp⟩
  |succ j ihj=>
   intro i hi nd dp g5 n1 n2 d1 d2 hW S;have hi':i<ps.length:=by omega
   refine I154_0.of (hh:= ?_) ..;unfold T154_0;rw[List.drop_eq_getElem_cons hi',weighL,if_neg (by omega)]at hW;have kk:Ft h g5:=F.tr S.ft;obtain⟨b,off,ea,ws,V',rv⟩:=P.2 i hi';have rv:=rv kk.get;have ihi:=fun g6 k6 ok6=>ih i hi' V' (g:=g6) k6 ok6 (most-nd) (d-1) (by omega) (by omega) (by omega) (by omega);have wl:=weighF_le ps[i] (most-nd) (d-1) (by omega);obtain⟨v1,v2,v3,v4,v5,v6,rfl⟩:=V'.form;rw[ea];refine vcond_t (by rw[ltI_nat];exact blt_t (by omega)) (isNat_i (show isAddr (some ⟨b,off,none⟩) _ from vreq_t (blt_t hi') ⟨_,_,_,_,_,_,rv,?_⟩));intro g110;have S:Know g g110 [ob g5.nx (.cells [.int .i64 0,.int .i64 0,.string (ByteArray.mk #[]),.slice none 0 0] 46 .fix),ob g2.nx (.cells [.int .i64 nd,.int .i64 dp] 188 .fix),ob g1.nx (.cells [.int .i64 0,.int .i64 0] 188 .fix),ob g.nx (.cells [.int .i64 k,.int .i64 n,.string t,.slice a ps.length c] 46 .fix)]:=S.add _;refine vreq_t (S.cw 0 rfl (by decide) rfl rfl) ?_;intro g111;have S:Know g g111 [ob g5.nx (.cells [.int .i64 v1,.int .i64 v2,.string v3,.slice v4 v5 v6] 46 .fix),ob g2.nx (.cells [.int .i64 nd,.int .i64 dp] 188 .fix),ob g1.nx (.cells [.int .i64 0,.int .i64 0] 188 .fix),ob g.nx (.cells [.int .i64 k,.int .i64 n,.string t,.slice a ps.length c] 46 .fix)]:=S.wr 0 rfl (by decide) rfl rfl;obtain⟨r,h121,e121,⟨x,y,rfl,q1,q2⟩,K121⟩:=ihi g111 (F.tr S.ft) S.ok;refine⟨_,_,_,_,_,_,S.rd 0 rfl rfl rfl,_,S.rd 1 rfl rfl rfl,?_⟩;rw[wrap64 (n:=most-nd) (by omega) (by omega),wd1];refine⟨_,_,_,e121,?_⟩;have S:Know g h121 [ob g5.nx (.cells [.int .i64 v1,.int .i64 v2,.string v3,.slice v4 v5 v6] 46 .fix),ob g2.nx (.cells [.int .i64 nd,.int .i64 dp] 188 .fix),ob g1.nx (.cells [.int .i64 0,.int .i64 0] 188 .fix),ob g.nx (.cells [.int .i64 k,.int .i64 n,.string t,.slice a ps.length c] 46 .fix)]:=S.call K121;intro g122;have S:Know g g122 [_,_,_,_,_]:=S.add _;refine vreq_t (S.cw 0 rfl (by decide) rfl rfl) ?_;intro g123;have S:Know g g123 [ob h121.nx (.cells [.int .i64 x,.int .i64 y] 188 .fix),ob g5.nx (.cells [.int .i64 v1,.int .i64 v2,.string v3,.slice v4 v5 v6] 46 .fix),ob g2.nx (.cells [.int .i64 nd,.int .i64 dp] 188 .fix),ob g1.nx (.cells [.int .i64 0,.int .i64 0] 188 .fix),ob g.nx (.cells [.int .i64 k,.int .i64 n,.string t,.slice a ps.length c] 46 .fix)]:=S.wr 0 rfl (by decide) rfl rfl;refine⟨_,S.rd 2 rfl rfl rfl,_,S.rd 0 rfl rfl rfl,_,S.rd 2 rfl rfl rfl,_,S.rd 0 rfl rfl rfl,?_⟩;have hx:0≤x∧x≤most+1:=by
    rcases Int.lt_or_le (weighF ps[i] (most-nd) (d-1)) 0 with e|e
    · have:=q2 e;omega
    · have:=q1 e;omega
   rw[wrap64 (n:=nd+x) (by omega) (by omega)];refine vreq_t (S.cw 2 rfl (by decide) rfl rfl) ?_;intro g128;have S:Know g g128 [ob h121.nx (.cells [.int .i64 x,.int .i64 y] 188 .fix),ob g5.nx (.cells [.int .i64 v1,.int .i64 v2,.string v3,.slice v4 v5 v6] 46 .fix),ob g2.nx (.cells [.int .i64 (nd+x),.int .i64 (maxI dp y)] 188 .fix),ob g1.nx (.cells [.int .i64 0,.int .i64 0] 188 .fix),ob g.nx (.cells [.int .i64 k,.int .i64 n,.string t,.slice a ps.length c] 46 .fix)]:=S.wr 2 rfl (by decide) rfl rfl;refine⟨_,S.rd 2 rfl rfl rfl,?_⟩;rw[wm,wd];have S:=S.sub [ob g2.nx (.cells [.int .i64 (nd+x),.int .i64 (maxI dp y)] 188 .fix),ob g1.nx (.cells [.int .i64 0,.int .i64 0] 188 .fix),ob g.nx (.cells [.int .i64 k,.int .i64 n,.string t,.slice a ps.length c] 46 .fix)] (.cons _ (.cons _ (.refl _)));rcases Int.lt_or_le (weighF ps[i] (most-nd) (d-1)) 0 with e3|e3
   · have:=q2 e3;have hneg:weighF (.mk k n t ps) most d<0:=by
      rw[hW];have:=(weighL_le (ps.drop (i+1)) (weighF ps[i] (most-nd) (d-1)) (d-1) (by omega)).2;omega
     exact vcond_t (lt_t (by omega)) (small S hneg)
   · have:=q1 e3;refine vcond_f (lt_f (by omega)) ?_;rw[wrap_succ (by omega),←ea];have hm:maxI dp y=max dp y:=by
      unfold maxI;rw[Int.max_def];by_cases hxy:dp≤y
      · rw[if_pos hxy];rcases Int.lt_or_le dp y with h5|h5
        · rw[lt_t h5];rfl
        · rw[lt_f (by omega)];simp only[cond_false];omega
      · rw[if_neg hxy,lt_f (by omega)];rfl
     exact ihj (i+1) (by omega) (nd+x) (maxI dp y) g128 (by omega) (by omega) (by rw[hm];omega) (by rw[hm];omega) (by rw[hW];congr 1;omega) S
 exact go ps.length 0 (by omega) 1 0 g4 (by omega) (by omega) (by omega) (by omega) (by rw[hw];rfl) S
def fitsF (v:Vl):Bool:= !(ltI (weighF v 200 8) 0)
theorem ct146 {h:Hp}(v:Vl){vs:List Value}(V:VA h v vs){g:Hp}(F:Ft h g)(ok:g.Ok):Ret Tryz.prog O 146 [.agg vs.toArray] g fun r g'=>r= .bool (fitsF v)∧Kp g.nx g g':=by
 have ih:=fun g6 k6 ok6=>ct154 hO v V (g:=g6) k6 ok6 200 8 (by omega) (by omega) (by omega) (by omega);obtain⟨v1,v2,v3,v4,v5,v6,rfl⟩:=V.form;refine rk146 (hO:=hO _ _ _ (by decide)) (hh:= ?_) ..;unfold T146;intro g1;have S:Know g g1 [_]:=(Know.nil ok).add _;obtain⟨r,h10,e10,⟨x,y,rfl,q1,q2⟩,K10⟩:=ih g1 (F.tr S.ft) S.ok;refine⟨_,_,_,_,_,_,S.rd 0 rfl rfl rfl,_,_,_,e10,?_⟩;have S:Know g h10 [_]:=S.call K10;intro g11;have S:Know g g11 [_,_]:=S.add _;refine vreq_t (S.cw 0 rfl (by decide) rfl rfl) ?_;intro g12;have S:Know g g12 [_,_]:=S.wr 0 rfl (by decide) rfl rfl;refine⟨_,S.rd 0 rfl rfl rfl,?_⟩;unfold fitsF;have wl:=weighF_le v 200 8 (by omega);rcases Int.lt_or_le (weighF v 200 8) 0 with e|e
 · have:=q2 e;rw[lt_t e];exact vcond_f (by rw[lt_t (by omega)];rfl) ⟨rfl,S.kp⟩
 · have:=q1 e;rw[lt_f (show¬weighF v 200 8<0 by omega)];exact vcond_t (by rw[lt_f (show¬200<x by omega)];rfl) ⟨_,S.rd 0 rfl rfl rfl,by rw[lt_f (show¬8<y by omega)],S.kp⟩
theorem ct158 (x lo hi:Int)(h:Hp):EvT O 158 [.int .i64 x,.int .i64 lo,.int .i64 hi] h (.bool (!(ltI x lo)&& !(ltI hi x))) h:=by
 refine ev_ret (rk158 (hO:=hO _ _ _ (by decide)) (hh:= ?_) ..);unfold T158;cases h1:ltI x lo with
 |false=>exact vcond_t rfl ⟨by simp,rfl⟩
 |true=>exact vcond_f rfl ⟨rfl,rfl⟩
end
theorem bytes_cmp: ∀(a b:List UInt8),Lib.compareBytes a b=bif a==b then 0 else bif Op.bytesLess a b then-1 else 1
 | [],[]=>rfl
 | [],_::_=>rfl
 |_::_,[]=>rfl
 |a::al,b::bl=>by
  unfold Lib.compareBytes Op.bytesLess;rw[bytes_cmp al bl];by_cases h1:a<b
  · rw[if_pos h1];have hne:a≠b:=fun e=>by subst e;exact UInt8.lt_irrefl a h1
    rw[show(a::al==b::bl)=false by simp[hne],show decide (a<b)=true from decide_eq_true h1];rfl
  · rw[if_neg h1];by_cases h2:b<a
    · have hne:a≠b:=fun e=>by subst e;exact UInt8.lt_irrefl a h2
      rw[if_pos h2,show(a::al==b::bl)=false by simp[hne],show decide (a<b)=false from decide_eq_false h1,show(a==b)=false by simpa using hne];rfl
    · obtain rfl:a=b:=by
       rcases Classical.em (a=b)with h|h
       · exact h
       · rcases UInt8.lt_or_lt_of_ne h with h|h
         · exact absurd h h1
         · exact absurd h h2
      rw[if_neg h2,show decide (a<a)=false from decide_eq_false h1];simp
def strF (a b:ByteArray):Int:=bif sEq a b then 0 else bif sLt a b then-1 else 1
theorem str_cmp (a b:ByteArray):Extern.BytealgCompare.cmp a b=strF a b:=by
 rw[Lib.cmp_eq,bytes_cmp];unfold strF sEq sLt;rw[ByteArray.toList_eq,ByteArray.toList_eq]
theorem ext172 (a b:ByteArray):pureRun Tryz.prog (callFunc 172 #[.string a,.string b])=some (.value (.int .i64 (Extern.BytealgCompare.cmp a b))):=by kernel_rfl
theorem dec_byte (t:ByteArray)(p:Nat)(hp:p<t.size):(byteI t p<128∧((Utf8.decode t p).1:Int)=byteI t p∧(Utf8.decode t p).2=1)∨(128≤byteI t p∧128≤(Utf8.decode t p).1):=by
 have e:byteI t p=((t.get! (p+0)).toNat:Int):=by
  unfold byteI;obtain⟨⟨l⟩⟩:=t;have hp:p<l.length:=hp;rw[List.getElem?_eq_getElem hp];show Int.ofNat l[p].toNat=_;have:(ByteArray.mk ⟨l⟩).get! (p+0)=l[p]:=by
   show(Array.mk l)[p+0]! =_;rw[Nat.add_zero,getElem!_pos (Array.mk l) p hp];rfl
  rw[this];rfl
 rw[e];unfold Utf8.decode;by_cases h:(t.get! (p+0)).toNat<0x80
 · left;simp only[if_pos h];exact⟨by omega,trivial,trivial⟩
 · right;refine⟨by omega,?_⟩;simp only[if_neg h];split
   · split
     · show 128≤_;omega
     · show 128≤Utf8.runeError;decide
   · split
     · split
       · rename_i h1;have:=(Bool.and_eq_true _ _▸h1:_∧_).1;have:=of_decide_eq_true this;show 128≤_;omega
       · show 128≤Utf8.runeError;decide
     · split
       · split
         · rename_i h1;have:=(Bool.and_eq_true _ _▸h1:_∧_).1;have:=of_decide_eq_true this;show 128≤_;omega
         · show 128≤Utf8.runeError;decide
       · show 128≤Utf8.runeError;decide
abbrev eS:ByteArray:=ByteArray.mk #[]
def kindV (k n:Int)(t:ByteArray)(a:Option Addr)(m c:Nat):Value:=
 bif eqI k 1&&(sEq t eS&&eqI (Int.ofNat m) 0)then .iface 196 (.agg #[.int .i64 n])
 else bif eqI k 2&&(sEq t eS&&eqI (Int.ofNat m) 0)then .iface 197 (.agg #[.int .i64 n])
 else bif eqI k 3&&(eqI n 0&&eqI (Int.ofNat m) 0)then .iface 199 (.agg #[.string t])
 else bif eqI k 4&&(eqI n 0&&sEq t eS)then .iface 201 (.agg #[.slice a m c])
 else bif eqI k 5&&(eqI n 0&&sEq t eS)then .iface 202 (.agg #[.slice a m c])
 else .iface 204 (.agg #[])
section
variable {O:CallF}(hO:Oth O)
include hO
theorem ct155 (k n:Int)(t:ByteArray)(a:Option Addr)(m c:Nat){g:Hp}(ok:g.Ok):Ret Tryz.prog O 155 [.agg #[.int .i64 k,.int .i64 n,.string t,.slice a m c]] g fun r g'=>r=kindV k n t a m c∧Kp g.nx g g':=by
 refine rk155 (hO:=hO _ _ _ (by decide)) (hh:= ?_) ..;unfold T155;intro g1;have S:Know g g1 [ob g.nx (.cells [.int .i64 k,.int .i64 n,.string t,.slice a m c] 46 .fix)]:=(Know.nil ok).add _;have i1:kindV k n t a m c=(bif eqI k 5&&(eqI n 0&&sEq t eS)then .iface 202 (.agg #[.slice a m c])else .iface 204 (.agg #[]))→I155_1 O (fun r g'=>r=kindV k n t a m c∧Kp g.nx g g') k n t a m c g.nx 0 .nilIface g1:=by
  intro hk;refine I155_1.of (hh:= ?_) ..;unfold T155_1;rw[hk]
  repeat' (first
   |refine⟨_,S.rd 0 rfl rfl rfl,?_⟩
   |refine⟨_,_,_,S.rd 0 rfl rfl rfl,?_⟩
   |refine vcond_split (fun _=> ?_) fun _=> ?_)
  all_goals exact⟨by simp only[*,Bool.true_and,Bool.false_and,Bool.and_false,cond_true,cond_false],S.kp⟩
 have i0:kindV k n t a m c=(bif eqI k 3&&(eqI n 0&&eqI (Int.ofNat m) 0)then .iface 199 (.agg #[.string t])
  else bif eqI k 4&&(eqI n 0&&sEq t eS)then .iface 201 (.agg #[.slice a m c])
  else bif eqI k 5&&(eqI n 0&&sEq t eS)then .iface 202 (.agg #[.slice a m c])else .iface 204 (.agg #[]))→I155_0 O (fun r g'=>r=kindV k n t a m c∧Kp g.nx g g') k n t a m c g.nx 0 .nilIface g1:=by
  intro hk;refine I155_0.of (hh:= ?_) ..;unfold T155_0
  repeat' (first
   |refine⟨_,S.rd 0 rfl rfl rfl,?_⟩
   |refine⟨_,_,_,S.rd 0 rfl rfl rfl,?_⟩
   |refine vcond_split (fun _=> ?_) fun _=> ?_)
  all_goals first
   |(exfalso;clear S i1 hk;simp_all only[Bool.true_eq_false,Bool.false_eq_true];done)
   |exact⟨by rw[hk];simp only[*,Bool.true_and,Bool.false_and,Bool.and_false,cond_true,cond_false],S.kp⟩
   |exact i1 (by rw[hk];simp only[*,Bool.true_and,Bool.false_and,Bool.and_false,cond_false])
 repeat' (first
  |refine⟨_,S.rd 0 rfl rfl rfl,?_⟩
  |refine⟨_,_,_,S.rd 0 rfl rfl rfl,?_⟩
  |refine vcond_split (fun _=> ?_) fun _=> ?_)
 all_goals first
  |(exfalso;clear S i0 i1;simp_all only[Bool.true_eq_false,Bool.false_eq_true];done)
  |exact⟨by unfold kindV;simp only[*,Bool.true_and,Bool.false_and,cond_true,cond_false],S.kp⟩
  |exact i0 (by unfold kindV;simp only[*,Bool.false_and,Bool.and_false,cond_false])
theorem ct188 (n:Int)(g:Hp)(ok:g.Ok):Ret Tryz.prog O 188 [.agg #[.int .i64 n]] g fun r g'=>r= .slice none 0 0∧Kp g.nx g g':=by
 refine rk188 (hO:=hO _ _ _ (by decide)) (hh:= ?_) ..;exact⟨rfl,((Know.nil ok).add _).kp⟩
theorem ct189 (n:Int)(g:Hp)(ok:g.Ok):Ret Tryz.prog O 189 [.agg #[.int .i64 n]] g fun r g'=>r= .slice none 0 0∧Kp g.nx g g':=by
 refine rk189 (hO:=hO _ _ _ (by decide)) (hh:= ?_) ..;exact⟨rfl,((Know.nil ok).add _).kp⟩
theorem ct190 (t:ByteArray)(g:Hp)(ok:g.Ok):Ret Tryz.prog O 190 [.agg #[.string t]] g fun r g'=>r= .slice none 0 0∧Kp g.nx g g':=by
 refine rk190 (hO:=hO _ _ _ (by decide)) (hh:= ?_) ..;exact⟨rfl,((Know.nil ok).add _).kp⟩
theorem ct191 (a:Option Addr)(m c:Nat)(g:Hp)(ok:g.Ok):Ret Tryz.prog O 191 [.agg #[.slice a m c]] g fun r g'=>r= .slice a m c∧Kp g.nx g g':=by
 refine rk191 (hO:=hO _ _ _ (by decide)) (hh:= ?_) ..;have S:Know g _ [_]:=(Know.nil ok).add (.cells [.slice a m c] 201 .fix);exact⟨_,_,_,S.rd 0 rfl rfl rfl,rfl,S.kp⟩
theorem ct192 (a:Option Addr)(m c:Nat)(g:Hp)(ok:g.Ok):Ret Tryz.prog O 192 [.agg #[.slice a m c]] g fun r g'=>r= .slice a m c∧Kp g.nx g g':=by
 refine rk192 (hO:=hO _ _ _ (by decide)) (hh:= ?_) ..;have S:Know g _ [_]:=(Know.nil ok).add (.cells [.slice a m c] 202 .fix);exact⟨_,_,_,S.rd 0 rfl rfl rfl,rfl,S.kp⟩
theorem ct193 (g:Hp)(ok:g.Ok):Ret Tryz.prog O 193 [.agg #[]] g fun r g'=>r= .slice none 0 0∧Kp g.nx g g':=by
 refine rk193 (hO:=hO _ _ _ (by decide)) (hh:= ?_) ..;exact⟨rfl,((Know.nil ok).add _).kp⟩
theorem ct159 (t:ByteArray){g:Hp}(ok:g.Ok):Ret Tryz.prog O 159 [.string t] g fun r g'=>r= .bool (lettersF t)∧Kp g.nx g g':=by
 refine rk159 (hO:=hO _ _ _ (by decide)) (hh:= ?_) ..;unfold T159;intro g1;have S:Know g g1 [ob g.nx (.siter t 0)]:=(Know.nil ok).add _;have go: ∀(d p:Nat),p+d=t.size→(∀i,i<p→okByte (byteI t i)=true)→ ∀(g2:Hp),Know g g2 [ob g.nx (.siter t p)]→I159_0 O (fun r g'=>r= .bool (lettersF t)∧Kp g.nx g g') t t false g.nx 0 g2:=by
  intro d
  induction d with
  |zero=>
   intro p hp ha g2 S;refine I159_0.of (hh:= ?_) ..;unfold T159_0;refine vreq_t rfl ⟨_,_,S.obj 0 rfl,vcond_f (blt_f (by omega)) ⟨?_,S.kp⟩⟩;unfold lettersF;rw[List.all_eq_true.2 fun i hi=>ha i (by rw[List.mem_range]at hi;omega),Bool.true_and]
  |succ d ih=>
   intro p hp ha g2 S;have hpl:p<t.size:=by omega
   refine I159_0.of (hh:= ?_) ..;unfold T159_0;have bad:okByte (byteI t p)=false→lettersF t=false:=fun e=>by
    unfold lettersF;have:((List.range t.size).all fun i=>okByte (byteI t i))=false:=by
     rw[List.all_eq_false];exact⟨p,List.mem_range.2 hpl,by rw[e];decide⟩
    rw[this];rfl
   have S0:=S;obtain⟨g3,hg,S⟩:=Know.put S 0 rfl (.siter t (p+(Utf8.decode t p).2));refine vreq_t rfl ⟨_,_,S0.obj 0 rfl,vcond_t (blt_t hpl) ⟨g3,hg,?_⟩⟩;rcases dec_byte t p hpl with ⟨h0,h1,h2⟩|⟨h0,h1⟩
   · have S:Know g g3 [ob g.nx (.siter t (p+1))]:=by rw[h2]at S;exact S
     rw[h1];refine vcond_split (fun h1=> ?_) fun h1=>vcond_split (fun h2=> ?_) fun h2=>vcond_split (fun h3=> ?_) fun h3=>vcond_split (fun h4=> ?_) fun h4=> ?_
     · exact⟨by rw[bad (by unfold okByte;rw[h1];rfl)],S.kp⟩
     · exact⟨by rw[bad (by unfold okByte;rw[h1,h2];rfl)],S.kp⟩
     · exact⟨by rw[bad (by unfold okByte;rw[h1,h2,h3];rfl)],S.kp⟩
     · exact⟨by rw[bad (by unfold okByte;rw[h1,h2,h3,h4];rfl)],S.kp⟩
     · refine ih (p+1) (by omega) (fun i hi=> ?_) g3 S;rcases Nat.lt_or_ge i p with h5|h5
       · exact ha i h5
       · obtain rfl:i=p:=by omega
         unfold okByte;rw[h1,h2,h3,h4];rfl
   · have b:=bad (by unfold okByte;rw[lt_t (show(126:Int)<byteI t p by omega)];simp);refine vcond_f (lt_f (by omega)) (vcond_t (lt_t (by omega)) ⟨by rw[b],S.kp⟩)
 exact go t.size 0 (by omega) (fun i hi=>absurd hi (Nat.not_lt_zero _)) g1 S
end
mutual
def cmpC:Vl→Vl→Int
 | .mk k n t ps,.mk k' n' t' qs=>
   bif !(eqI k k')then orderF k k'
   else bif ltI k 1||ltI 5 k then 0
   else bif eqI k 1||eqI k 2 then orderF n n'
   else bif eqI k 3 then strF t t'
   else bif !(eqI (Int.ofNat ps.length) (Int.ofNat qs.length))then orderF (Int.ofNat ps.length) (Int.ofNat qs.length)
   else cmpCL ps qs
def cmpCL:List Vl→List Vl→Int
 |p::ps,q::qs=>bif eqI (cmpC p q) 0 then cmpCL ps qs else cmpC p q
 |_,_=>0
end
theorem cmpC_mk (k n:Int)(t:ByteArray)(ps:List Vl)(k' n':Int)(t':ByteArray)(qs:List Vl):cmpC (.mk k n t ps) (.mk k' n' t' qs)=
 bif !(eqI k k')then orderF k k'
 else bif ltI k 1||ltI 5 k then 0
 else bif eqI k 1||eqI k 2 then orderF n n'
 else bif eqI k 3 then strF t t'
 else bif !(eqI (Int.ofNat ps.length) (Int.ofNat qs.length))then orderF (Int.ofNat ps.length) (Int.ofNat qs.length)
 else cmpCL ps qs:=by simp only[cmpC]
theorem eqI_iff {a b:Int}:eqI a b=true↔a=b:=by
 constructor
 · intro h;by_cases e:a=b
   · exact e
   · rw[eqI_f e]at h;cases h
 · exact fun h=>eqI_t h
theorem orderF_zero (a b:Int):eqI (orderF a b) 0=eqI a b:=by
 unfold orderF;by_cases h:a<b
 · rw[if_pos h,eqI_f (by omega:a≠b)];rfl
 · rw[if_neg h];by_cases h2:b<a
   · rw[if_pos h2,eqI_f (by omega:a≠b)];rfl
   · rw[if_neg h2,eqI_t (by omega:a=b)];rfl
section
variable {O:CallF}(hO:Oth O)
include hO
theorem ct166 (x:Int)(h:Hp):EvT O 166 [.int .i64 x] h (.bool false) h:=by
 refine ev_ret (rk166 (hO:=hO _ _ _ (by decide)) (hh:= ?_) ..);exact⟨by rw[eqI_t rfl];rfl,rfl⟩
theorem ct170 (x:Int)(h:Hp):EvT O 170 [.int .i64 x] h (.bool false) h:=by
 refine ev_ret (rk170 (hO:=hO _ _ _ (by decide)) (hh:= ?_) ..);exact⟨by rw[eqI_t rfl];rfl,rfl⟩
theorem ct162 (a b:Int)(h:Hp):EvT O 162 [.int .i64 a,.int .i64 b] h (.int .i64 (orderF a b)) h:=by
 refine ev_ret (rk162 (hO:=hO _ _ _ (by decide)) (hh:= ?_) ..);unfold T162 orderF;refine⟨_,_,ct166 hO _ _,_,_,ct166 hO _ _,vcond_f rfl (vcond_f rfl (vcond_split (fun h1=> ?_) fun h1=>vcond_split (fun h2=> ?_) fun h2=> ?_))⟩
 · exact⟨by rw[if_pos (lt_of_t h1)],rfl⟩
 · exact⟨by rw[if_neg (not_lt_of_f h1),if_pos (lt_of_t h2)],rfl⟩
 · exact⟨by rw[if_neg (not_lt_of_f h1),if_neg (not_lt_of_f h2)],rfl⟩
theorem ct167 (a b:Int)(h:Hp):EvT O 167 [.int .i64 a,.int .i64 b] h (.int .i64 (orderF a b)) h:=by
 refine ev_ret (rk167 (hO:=hO _ _ _ (by decide)) (hh:= ?_) ..);unfold T167 orderF;refine⟨_,_,ct170 hO _ _,_,_,ct170 hO _ _,vcond_f rfl (vcond_f rfl (vcond_split (fun h1=> ?_) fun h1=>vcond_split (fun h2=> ?_) fun h2=> ?_))⟩
 · exact⟨by rw[if_pos (lt_of_t h1)],rfl⟩
 · exact⟨by rw[if_neg (not_lt_of_f h1),if_pos (lt_of_t h2)],rfl⟩
 · exact⟨by rw[if_neg (not_lt_of_f h1),if_neg (not_lt_of_f h2)],rfl⟩
theorem ct172 (a b:ByteArray)(h:Hp):EvT O 172 [.string a,.string b] h (.int .i64 (strF a b)) h:=by
 refine⟨1,?_⟩;show(match O 172 [.string a,.string b] h with
  |some r=>some r
  |none=>evBody Tryz.prog (evW Tryz.prog O 1 0) 1 172 [.string a,.string b] h)=_
 rw[hO _ _ _ (by decide)];show evBody Tryz.prog (evW Tryz.prog O 1 0) 1 172 [.string a,.string b] h=_;unfold evBody;rw[show Nat.ble yB 172=false from by decide,cond_false,Tryz.func172,Option.bind_some];have hb:Tryz.f172.body=none:=by kernel_rfl
 simp only[hb];rw[show [Value.string a,Value.string b].all flat=true from rfl,cond_true,show [Value.string a,Value.string b].toArray= #[.string a,.string b] from rfl,ext172,str_cmp];rfl
theorem ct171 (a b:ByteArray)(h:Hp):EvT O 171 [.string a,.string b] h (.int .i64 (strF a b)) h:=by
 refine ev_ret (rk171 (hO:=hO _ _ _ (by decide)) (hh:= ?_) ..);exact⟨_,_,ct172 hO _ _ _,rfl,rfl⟩
theorem ct168 (a b:ByteArray)(h:Hp):EvT O 168 [.string a,.string b] h (.int .i64 (strF a b)) h:=by
 refine ev_ret (rk168 (hO:=hO _ _ _ (by decide)) (hh:= ?_) ..);exact⟨_,_,ct171 hO _ _ _,rfl,rfl⟩
theorem ct163 (k n:Int)(t:ByteArray)(a:Option Addr)(m c:Nat)(k' n':Int)(t':ByteArray)(a':Option Addr)(m' c':Nat){g:Hp}(ok:g.Ok):
 Ret Tryz.prog O 163 [.agg #[.int .i64 k,.int .i64 n,.string t,.slice a m c,.int .i64 k',.int .i64 n',.string t',.slice a' m' c']] g fun r g'=>r= .int .i64 (orderF n n')∧Kp g.nx g g':=by
 refine rk163 (hO:=hO _ _ _ (by decide)) (hh:= ?_) ..;unfold T163;refine vreq_t rfl ?_;intro g1;have S:Know g g1 [ob g.nx (.cells [.int .i64 k,.int .i64 n,.string t,.slice a m c,.int .i64 k',.int .i64 n',.string t',.slice a' m' c'] 210 .fix)]:=(Know.nil ok).add _;exact⟨_,S.rd 0 rfl rfl rfl,_,S.rd 0 rfl rfl rfl,_,_,ct167 hO _ _ _,rfl,S.kp⟩
theorem ct164 (k n:Int)(t:ByteArray)(a:Option Addr)(m c:Nat)(k' n':Int)(t':ByteArray)(a':Option Addr)(m' c':Nat){g:Hp}(ok:g.Ok):
 Ret Tryz.prog O 164 [.agg #[.int .i64 k,.int .i64 n,.string t,.slice a m c,.int .i64 k',.int .i64 n',.string t',.slice a' m' c']] g fun r g'=>r= .int .i64 (strF t t')∧Kp g.nx g g':=by
 refine rk164 (hO:=hO _ _ _ (by decide)) (hh:= ?_) ..;unfold T164;refine vreq_t rfl ?_;intro g1;have S:Know g g1 [ob g.nx (.cells [.int .i64 k,.int .i64 n,.string t,.slice a m c,.int .i64 k',.int .i64 n',.string t',.slice a' m' c'] 210 .fix)]:=(Know.nil ok).add _;exact⟨_,S.rd 0 rfl rfl rfl,_,S.rd 0 rfl rfl rfl,_,_,ct168 hO _ _ _,rfl,S.kp⟩
theorem ct169 {h:Hp}{a a':Option Addr}{n n' c c':Nat}{ps qs:List Vl}(P:PA h a n ps)(Q':PA h a' n' qs)(hl:ps.length<1000000)(hlen:ps.length=qs.length)
 (ih: ∀(i:Nat) (hi:i<ps.length) {ws:List Value},VA h ps[i] ws→ ∀ {q:Vl} {us:List Value},VA h q us→ ∀ {g:Hp},Ft h g→g.Ok→Ret Tryz.prog O 160 [.agg ws.toArray,.agg us.toArray] g fun r g'=>r= .int .i64 (cmpC ps[i] q)∧Kp g.nx g g') {g:Hp} (F:Ft h g) (ok:g.Ok):
 Ret Tryz.prog O 169 [.slice a n c,.slice a' n' c',.func (.func 160) #[] #[]] g fun r g'=>r= .int .i64 (cmpCL ps qs)∧Kp g.nx g g':=by
 have p1:=P.1;have q1:=Q'.1;subst p1 q1;refine rk169 (hO:=hO _ _ _ (by decide)) (hh:= ?_) ..;unfold T169;have go: ∀(j i:Nat),i+j=ps.length→ ∀(g2:Hp),Know g g2 []→I169_0 O (fun r g'=>r= .int .i64 (cmpCL (ps.drop i) (qs.drop i))∧Kp g.nx g g') a ps.length c a' qs.length c' 160 #[] #[] 160 #[] #[] 0 (Int.ofNat i) g2:=by
  intro j
  induction j with
  |zero=>
   intro i hi g2 S;refine I169_0.of (hh:= ?_) ..;unfold T169_0;refine vcond_f (by rw[ltI_nat];exact blt_f (by omega)) (vcond_f (by rw[ltI_nat];exact blt_f (by omega)) ⟨?_,S.kp⟩);rw[List.drop_of_length_le (by omega),cmpCL]
   intros;contradiction
  |succ j ihj=>
   intro i hi g2 S;have i1:i<ps.length:=by omega
   have i2:i<qs.length:=by omega
   refine I169_0.of (hh:= ?_) ..;unfold T169_0;rw[List.drop_eq_getElem_cons i1,List.drop_eq_getElem_cons i2,cmpCL];refine vcond_t (by rw[ltI_nat];exact blt_t (by omega)) ?_;have f2:Ft h g2:=F.tr S.ft;obtain⟨b,off,ea,ws,V,rv⟩:=P.2 i i1;obtain⟨b',off',ea',us,U,ru⟩:=Q'.2 i i2;have rv:=rv f2.get;have ih6:=fun g6 f6 ok6=>ih i i1 V U (g:=g6) f6 ok6;obtain⟨v1,v2,v3,v4,v5,v6,rfl⟩:=V.form;obtain⟨u1,u2,u3,u4,u5,u6,rfl⟩:=U.form;rw[ea];refine isNat_i (show isAddr (some ⟨b,off,none⟩) _ from vreq_t (blt_t i1) ⟨_,_,_,_,_,_,rv,?_⟩);intro g110;have S1:Know g g110 [ob g2.nx (.cells [.int .i64 0,.int .i64 0,.string (ByteArray.mk #[]),.slice none 0 0] 46 .fix)]:=S.add _;refine vreq_t (S1.cw 0 rfl (by decide) rfl rfl) ?_;intro g111;have S1:Know g g111 [ob g2.nx (.cells [.int .i64 v1,.int .i64 v2,.string v3,.slice v4 v5 v6] 46 .fix)]:=S1.wr 0 rfl (by decide) rfl rfl;have ru:=ru (F.tr S1.ft).get;rw[ea'];refine vcond_f (by rw[ltI_nat,blt_t i2];rfl) (isNat_i (show isAddr (some ⟨b',off',none⟩) _ from vreq_t (blt_t i2) ⟨_,_,_,_,_,_,ru,?_⟩));intro g121;have S1:Know g g121 [_,ob g2.nx (.cells [.int .i64 v1,.int .i64 v2,.string v3,.slice v4 v5 v6] 46 .fix)]:=S1.add _;refine vreq_t (S1.cw 0 rfl (by decide) rfl rfl) ?_;intro g122;have S1:Know g g122 [ob g111.nx (.cells [.int .i64 u1,.int .i64 u2,.string u3,.slice u4 u5 u6] 46 .fix),ob g2.nx (.cells [.int .i64 v1,.int .i64 v2,.string v3,.slice v4 v5 v6] 46 .fix)]:=S1.wr 0 rfl (by decide) rfl rfl;obtain⟨r,g4,e4,rfl,K3⟩:=ih6 g122 (F.tr S1.ft) S1.ok;refine⟨_,_,_,_,_,_,S1.rd 1 rfl rfl rfl,_,_,_,_,_,_,S1.rd 0 rfl rfl rfl,_,g4,e4,?_⟩;have S3:Know g g4 []:=(S1.call K3).sub [] (List.nil_sublist _);rw[wrap_succ (by omega),←ea,←ea'];cases hbf:eqI (cmpC ps[i] qs[i]) 0 with
   |false=>exact vcond_t rfl ⟨rfl,S3.kp⟩
   |true=>exact vcond_f rfl (ihj (i+1) (by omega) g4 S3)
 exact go ps.length 0 (by omega) g (Know.nil ok)
theorem ct165 {h:Hp}{k n:Int}{t:ByteArray}{a:Option Addr}{m c:Nat}{k' n':Int}{t':ByteArray}{a':Option Addr}{m' c':Nat}{ps qs:List Vl}(P:PA h a m ps)(Q':PA h a' m' qs)(hl:ps.length<1000000)
 (ih: ∀(i:Nat) (hi:i<ps.length) {ws:List Value},VA h ps[i] ws→ ∀ {q:Vl} {us:List Value},VA h q us→ ∀ {g:Hp},Ft h g→g.Ok→Ret Tryz.prog O 160 [.agg ws.toArray,.agg us.toArray] g fun r g'=>r= .int .i64 (cmpC ps[i] q)∧Kp g.nx g g') {g:Hp} (F:Ft h g) (ok:g.Ok):
 Ret Tryz.prog O 165 [.agg #[.int .i64 k,.int .i64 n,.string t,.slice a m c,.int .i64 k',.int .i64 n',.string t',.slice a' m' c']] g fun r g'=>r= .int .i64 (bif !(eqI (Int.ofNat ps.length) (Int.ofNat qs.length))then orderF (Int.ofNat ps.length) (Int.ofNat qs.length)else cmpCL ps qs)∧Kp g.nx g g':=by
 have p1:=P.1;have q1:=Q'.1;subst p1 q1;refine rk165 (hO:=hO _ _ _ (by decide)) (hh:= ?_) ..;unfold T165;refine vreq_t rfl ?_;intro g1;have S:Know g g1 [ob g.nx (.cells [.int .i64 k,.int .i64 n,.string t,.slice a ps.length c,.int .i64 k',.int .i64 n',.string t',.slice a' qs.length c'] 210 .fix)]:=(Know.nil ok).add _;refine⟨_,_,_,S.rd 0 rfl rfl rfl,_,_,_,S.rd 0 rfl rfl rfl,_,_,ct167 hO _ _ _,?_⟩;cases he:eqI (Int.ofNat ps.length) (Int.ofNat qs.length)with
 |false=>exact vcond_t (by rw[orderF_zero,he];rfl) ⟨rfl,S.kp⟩
 |true=>
  have hlen:ps.length=qs.length:=by have:=eqI_iff.1 he;exact Int.ofNat.inj this
  obtain⟨r,g4,e4,rfl,K3⟩:=ct169 hO P Q' hl hlen ih (F.tr S.ft) S.ok (c:=c) (c':=c');exact vcond_f (by rw[orderF_zero,he];rfl) ⟨_,_,_,S.rd 0 rfl rfl rfl,_,_,_,S.rd 0 rfl rfl rfl,_,_,e4,rfl,(S.call K3).kp⟩
theorem ct160 {h:Hp}: ∀(v:Vl) {vs:List Value} (_:VA h v vs),Few v→ ∀ {w:Vl} {us:List Value},VA h w us→ ∀ {g:Hp},Ft h g→g.Ok→Ret Tryz.prog O 160 [.agg vs.toArray,.agg us.toArray] g fun r g'=>r= .int .i64 (cmpC v w)∧Kp g.nx g g':=by
 refine Vl.ind fun k n t ps ih=> ?_;intro vs V F w us U g Fg ok;obtain⟨k',n',t',qs⟩:=w;obtain⟨a,m,c,rfl,P⟩:=PA.of V;obtain⟨a',m',c',rfl,Q'⟩:=PA.of U;have ih6:=fun i hi=> @ih i hi;refine rk160 (hO:=hO _ _ _ (by decide)) (hh:= ?_) ..;unfold T160;intro g1;have S:Know g g1 [ob g.nx (.cells [.int .i64 k,.int .i64 n,.string t,.slice a m c] 46 .fix)]:=(Know.nil ok).add _;intro g2;have S:Know g g2 [ob g1.nx (.cells [.int .i64 k',.int .i64 n',.string t',.slice a' m' c'] 46 .fix),ob g.nx (.cells [.int .i64 k,.int .i64 n,.string t,.slice a m c] 46 .fix)]:=S.add _;rw[cmpC_mk];refine⟨_,S.rd 1 rfl rfl rfl,_,S.rd 0 rfl rfl rfl,_,_,ct162 hO _ _ _,?_⟩;cases h1:eqI k k' with
 |false=>exact vcond_t (by rw[orderF_zero,h1];rfl) ⟨rfl,S.kp⟩
 |true=>
 refine vcond_f (by rw[orderF_zero,h1];rfl) ?_;intro g7;have S:Know g g7 [_,ob g1.nx (.cells [.int .i64 k',.int .i64 n',.string t',.slice a' m' c'] 46 .fix),ob g.nx (.cells [.int .i64 k,.int .i64 n,.string t,.slice a m c] 46 .fix)]:=S.add _;refine vreq_t (S.cw 0 rfl (by decide) rfl rfl) ?_;intro g8;have S:Know g g8 [ob g2.nx (.cells [.nilFunc,(.func (.func 163) #[] #[]),(.func (.func 163) #[] #[]),(.func (.func 164) #[] #[]),(.func (.func 165) #[] #[]),(.func (.func 165) #[] #[])] 211 .fix),ob g1.nx (.cells [.int .i64 k',.int .i64 n',.string t',.slice a' m' c'] 46 .fix),ob g.nx (.cells [.int .i64 k,.int .i64 n,.string t,.slice a m c] 46 .fix)]:=S.wr 0 rfl (by decide) rfl rfl;refine⟨_,S.rd 2 rfl rfl rfl,?_⟩;cases h2:ltI k 1 with
 |true=>exact vcond_t rfl ⟨rfl,S.kp⟩
 |false=>
 refine vcond_f rfl ⟨_,S.rd 2 rfl rfl rfl,?_⟩;cases h3:ltI 5 k with
 |true=>exact vcond_t rfl ⟨rfl,S.kp⟩
 |false=>
 refine vcond_f rfl ?_;intro g11;have S:Know g g11 [ob g2.nx (.cells [.nilFunc,(.func (.func 163) #[] #[]),(.func (.func 163) #[] #[]),(.func (.func 164) #[] #[]),(.func (.func 165) #[] #[]),(.func (.func 165) #[] #[])] 211 .fix),ob g1.nx (.cells [.int .i64 k',.int .i64 n',.string t',.slice a' m' c'] 46 .fix),ob g.nx (.cells [.int .i64 k,.int .i64 n,.string t,.slice a m c] 46 .fix)]:=S.rsv 9;have okg: ∀ {l:List Nat},(∀q∈l,q∈ [g1.nx,g.nx,g2.nx])→(g11.grd l).Ok:=fun hl=>S.okg fun q hq=>by
  have l1:=(S.orng 0 rfl).2;have l2:=(S.orng 1 rfl).2;have l3:=(S.orng 2 rfl).2;have:=hl q hq;simp only[List.mem_cons,List.not_mem_nil,or_false]at this;rcases this with rfl|rfl|rfl<;>assumption
 have ftg: ∀(l:List Nat),Ft h (g11.grd l):=fun l=>Fg.tr (S.ftg l);refine⟨_,S.rd 2 rfl rfl rfl,?_⟩;have h4:=not_lt_of_f h2;have h5:=not_lt_of_f h3;have hk:k=1∨k=2∨k=3∨k=4∨k=5:=by omega
 rcases hk with rfl|rfl|rfl|rfl|rfl
 · refine(show isNat (Int.ofNat 1) _ from isNat_i (vreq_t rfl ⟨_,_,_,S.rd 0 rfl rfl rfl,_,_,_,_,_,_,S.rd 2 rfl rfl rfl,_,_,_,_,_,_,S.rd 1 rfl rfl rfl,?_⟩));obtain⟨r,g4,e4,rfl,K3⟩:=ct163 hO 1 n t a m c k' n' t' a' m' c' (okg (l:=[]) (fun q hq=>by cases hq));exact⟨_,_,e4,rfl,(S.callg K3).kp⟩
 · refine(show isNat (Int.ofNat 2) _ from isNat_i (vreq_t rfl ⟨_,_,_,S.rd 0 rfl rfl rfl,_,_,_,_,_,_,S.rd 2 rfl rfl rfl,_,_,_,_,_,_,S.rd 1 rfl rfl rfl,?_⟩));obtain⟨r,g4,e4,rfl,K3⟩:=ct163 hO 2 n t a m c k' n' t' a' m' c' (okg (l:=[]) (fun q hq=>by cases hq));exact⟨_,_,e4,rfl,(S.callg K3).kp⟩
 · refine(show isNat (Int.ofNat 3) _ from isNat_i (vreq_t rfl ⟨_,_,_,S.rd 0 rfl rfl rfl,_,_,_,_,_,_,S.rd 2 rfl rfl rfl,_,_,_,_,_,_,S.rd 1 rfl rfl rfl,?_⟩));obtain⟨r,g4,e4,rfl,K3⟩:=ct164 hO 3 n t a m c k' n' t' a' m' c' (okg (l:=[]) (fun q hq=>by cases hq));exact⟨_,_,e4,rfl,(S.callg K3).kp⟩
 · refine(show isNat (Int.ofNat 4) _ from isNat_i (vreq_t rfl ⟨_,_,_,S.rd 0 rfl rfl rfl,_,_,_,_,_,_,S.rd 2 rfl rfl rfl,_,_,_,_,_,_,S.rd 1 rfl rfl rfl,?_⟩));obtain⟨r,g4,e4,rfl,K3⟩:=ct165 hO (k:=4) (n:=n) (t:=t) (c:=c) (k':=k') (n':=n') (t':=t') (c':=c') P Q' F.parts.1 (fun i hi ws V' q us' U' g F' ok=>ih6 i hi V' (F.parts.2 _ (List.getElem_mem hi)) U' F' ok) (ftg []) (okg (l:=[]) (fun q hq=>by cases hq));exact⟨_,_,e4,rfl,(S.callg K3).kp⟩
 · refine(show isNat (Int.ofNat 5) _ from isNat_i (vreq_t rfl ⟨_,_,_,S.rd 0 rfl rfl rfl,_,_,_,_,_,_,S.rd 2 rfl rfl rfl,_,_,_,_,_,_,S.rd 1 rfl rfl rfl,?_⟩));obtain⟨r,g4,e4,rfl,K3⟩:=ct165 hO (k:=5) (n:=n) (t:=t) (c:=c) (k':=k') (n':=n') (t':=t') (c':=c') P Q' F.parts.1 (fun i hi ws V' q us' U' g F' ok=>ih6 i hi V' (F.parts.2 _ (List.getElem_mem hi)) U' F' ok) (ftg []) (okg (l:=[]) (fun q hq=>by cases hq));exact⟨_,_,e4,rfl,(S.callg K3).kp⟩
end
end Go.Proofs.YtngcjpkccnfjiaaGreatDoor
namespace Go.Proofs.YtngcjpkccnfjiaaGreatDoor
open Go Go.Ev
theorem shapedL_all {ps:List Vl}(h:shapedL ps=true): ∀p∈ps,shapedF p=true:=by
 induction ps with
 |nil=>intro p hp;cases hp
 |cons v r ih=>
  simp only[shapedL,Bool.and_eq_true]at h;intro p hp;rcases List.mem_cons.1 hp with rfl|hp
  · exact h.1
  · exact ih h.2 p hp
theorem shapedF_mk {k n:Int}{t:ByteArray}{ps:List Vl}:shapedF (.mk k n t ps)=(shapedL ps&&formF k n t ps):=by simp only[shapedF]
theorem cmpL_same: ∀(ps qs:List Vl),(∀p∈ps,∀q∈qs,cmpC p q=cmpF p q)→cmpCL ps qs=cmpL ps qs
 | [],_,_=>by simp only[cmpCL,cmpL]
 |_::_,[],_=>by simp only[cmpCL,cmpL]
 |p::ps,q::qs,h=>by
  simp only[cmpCL,cmpL];rw[h p (List.mem_cons_self) q (List.mem_cons_self),cmpL_same ps qs fun a ha b hb=>h a (List.mem_cons_of_mem _ ha) b (List.mem_cons_of_mem _ hb)]
theorem cmp_same: ∀(v:Vl),shapedF v=true→ ∀(w:Vl),shapedF w=true→cmpC v w=cmpF v w:=by
 refine Vl.ind fun k n t ps ih=> ?_;intro hv w hw;obtain⟨k',n',t',qs⟩:=w;rw[shapedF_mk,Bool.and_eq_true]at hv hw;obtain⟨sp,fv⟩:=hv;obtain⟨sq,fw⟩:=hw;rw[cmpC_mk,cmpF_mk];by_cases hk:k=k'
 · subst hk;rw[eqI_t (rfl:k=k),Bool.not_true,cond_false,cond_false];have hl:cmpCL ps qs=cmpL ps qs:=cmpL_same ps qs fun p hp q hq=>by
    obtain⟨i,hi,rfl⟩:=List.getElem_of_mem hp;exact ih i hi (shapedL_all sp _ hp) q (shapedL_all sq _ hq)
   by_cases k3:k=3
   · subst k3;rfl
   · unfold formF at fv fw;rw[eqI_f k3,cond_false]at *;by_cases k1:k=1
     · subst k1;simp only[show eqI 1 1=true from rfl,cond_true,Bool.and_eq_true]at fv fw;have e1:=eqI_iff.1 fv.2.2;have e2:=eqI_iff.1 fw.2.2;rw[e1,e2,show orderF 0 0=0 from rfl,Int.add_zero];rfl
     · by_cases k2:k=2
       · subst k2;simp only[show eqI 2 1=false from rfl,show eqI 2 2=true from rfl,cond_true,cond_false,Bool.and_eq_true]at fv fw;have e1:=eqI_iff.1 fv.2.2;have e2:=eqI_iff.1 fw.2.2;rw[e1,e2,show orderF 0 0=0 from rfl,Int.add_zero];rfl
       · rw[eqI_f k1,eqI_f k2]at *;have h45:(k=4∨k=5)∧n=0∧n'=0:=by
          by_cases k4:k=4
          · subst k4;simp only[cond_false,show eqI 4 4=true from rfl,cond_true,Bool.and_eq_true]at fv fw;exact⟨.inl rfl,eqI_iff.1 fv.1,eqI_iff.1 fw.1⟩
          · by_cases k5:k=5
            · subst k5;simp only[cond_false,show eqI 5 4=false from rfl,show eqI 5 5=true from rfl,cond_true,Bool.and_eq_true]at fv fw;exact⟨.inr rfl,eqI_iff.1 fv.2.1,eqI_iff.1 fw.2.1⟩
            · rw[eqI_f k4,eqI_f k5]at fv;cases fv
         obtain⟨h45,rfl,rfl⟩:=h45;rw[lt_f (show¬k<1 by omega),lt_f (show¬5<k by omega),hl,show orderF 0 0=0 from rfl,Int.zero_add];rfl
 · rw[eqI_f hk];rfl
theorem isIface_i {t:TypeId}{w:Value}{K:TypeId→Value→Prop}(h:K t w):isIface (.iface t w) K:=h
theorem PA.none (h:Hp):PA h none 0 []:=⟨rfl,fun _ hi=>absurd hi (Nat.not_lt_zero _)⟩
section
variable {O:CallF}(hO:Oth O)
include hO
theorem ct157 {vs:List Value}{h:Hp}{v:Vl}(V:VA h v vs)(ih: ∀ {g:Hp},Ft h g→g.Ok→Ret Tryz.prog O 147 [.agg vs.toArray] g fun r g'=>r= .bool (shapedF v)∧Kp g.nx g g'){g:Hp}(F:Ft h g)(ok:g.Ok):
 Ret Tryz.prog O 157 [.agg vs.toArray] g fun r g'=>r= .bool (!shapedF v)∧Kp g.nx g g':=by
 obtain⟨v1,v2,v3,v4,v5,v6,rfl⟩:=V.form;refine rk157 (hO:=hO _ _ _ (by decide)) (hh:= ?_) ..;unfold T157;intro g1;have S:Know g g1 [_]:=(Know.nil ok).add _;obtain⟨r,g2,e,rfl,K⟩:=ih (F.tr S.ft) S.ok;exact⟨_,_,_,_,_,_,S.rd 0 rfl rfl rfl,_,_,e,rfl,(S.call K).kp⟩
theorem ct156 {h:Hp}{a:Option Addr}{n c:Nat}{ps:List Vl}(P:PA h a n ps)(hl:ps.length<1000000)
 (ih: ∀(i:Nat) (hi:i<ps.length) {ws:List Value},VA h ps[i] ws→ ∀ {g:Hp},Ft h g→g.Ok→Ret Tryz.prog O 147 [.agg ws.toArray] g fun r g'=>r= .bool (shapedF ps[i])∧Kp g.nx g g') {g:Hp} (F:Ft h g) (ok:g.Ok):
 Ret Tryz.prog O 156 [.slice a n c,.func (.func 157) #[] #[]] g fun r g'=>r= .bool (!shapedL ps)∧Kp g.nx g g':=by
 have p1:=P.1;subst p1;have c161:Ret Tryz.prog O 161 [.slice a ps.length c,.func (.func 157) #[] #[]] g fun r g'=> ∃x:Int,r= .int .i64 x∧ltI x 0=shapedL ps∧Kp g.nx g g':=by
  refine rk161 (hO:=hO _ _ _ (by decide)) (hh:= ?_) ..;unfold T161;have go: ∀(j i:Nat),i+j=ps.length→ ∀(g2:Hp),Know g g2 []→I161_0 O (fun r g'=> ∃x:Int,r= .int .i64 x∧ltI x 0=shapedL (ps.drop i)∧Kp g.nx g g') a ps.length c 157 #[] #[] 157 #[] #[] 0 (Int.ofNat i) g2:=by
   intro j
   induction j with
   |zero=>
    intro i hi g2 S;refine I161_0.of (hh:= ?_) ..;unfold T161_0;refine vcond_f (by rw[ltI_nat];exact blt_f (by omega)) ⟨_,rfl,?_,S.kp⟩;rw[List.drop_of_length_le (by omega),shapedL];rfl
   |succ j ihj=>
    intro i hi g2 S;have i1:i<ps.length:=by omega
    refine I161_0.of (hh:= ?_) ..;unfold T161_0;rw[List.drop_eq_getElem_cons i1,shapedL];have f2:Ft h g2:=F.tr S.ft;obtain⟨b,off,ea,ws,V,rv⟩:=P.2 i i1;have rv:=rv f2.get;obtain⟨r,g4,e4,rfl,K3⟩:=ct157 hO V (ih i i1 V) f2 S.ok;obtain⟨v1,v2,v3,v4,v5,v6,rfl⟩:=V.form;rw[ea];refine vcond_t (by rw[ltI_nat];exact blt_t i1) (isNat_i (show isAddr (some ⟨b,off,none⟩) _ from vreq_t (blt_t i1) ⟨_,_,_,_,_,_,rv,_,g4,e4,?_⟩));have S3:Know g g4 []:=S.call K3;rw[wrap_succ (by omega),←ea];cases hbf:shapedF ps[i]with
    |false=>exact vcond_t rfl ⟨_,rfl,by simp only[Bool.false_and];rfl,S3.kp⟩
    |true=>exact vcond_f rfl (by simpa only[Bool.true_and] using ihj (i+1) (by omega) g4 S3)
  exact go ps.length 0 (by omega) g (Know.nil ok)
 obtain⟨r,g4,e4,x,rfl,hx,K⟩:=c161;refine rk156 (hO:=hO _ _ _ (by decide)) (hh:= ?_) ..;exact⟨_,_,e4,by rw[hx],K⟩
theorem ct147 {h:Hp}: ∀(v:Vl) {vs:List Value} (_:VA h v vs),Nice v→ ∀ {g:Hp},Ft h g→g.Ok→Ret Tryz.prog O 147 [.agg vs.toArray] g fun r g'=>r= .bool (shapedF v)∧Kp g.nx g g':=by
 refine Vl.ind fun k n t ps ih=> ?_;intro vs V N g F ok;obtain⟨fl,ft,fp⟩:=N.parts;obtain⟨a,m,c,rfl,P⟩:=PA.of V;have p1:=P.1;subst p1;have ih6: ∀(i:Nat) (hi:i<ps.length) {ws:List Value},VA h ps[i] ws→ ∀ {g:Hp},Ft h g→g.Ok→Ret Tryz.prog O 147 [.agg ws.toArray] g fun r g'=>r= .bool (shapedF ps[i])∧Kp g.nx g g':=fun i hi ws V' g F' ok=>ih i hi V' (fp _ (List.getElem_mem hi)) F' ok;refine rk147 (hO:=hO _ _ _ (by decide)) (hh:= ?_) ..;unfold T147;intro g1;have S1:Know g g1 [ob g.nx (.cells [.int .i64 k,.int .i64 n,.string t,.slice a ps.length c] 46 .fix)]:=(Know.nil ok).add _;obtain⟨r,h9,e9,rfl,K9⟩:=ct155 hO k n t a ps.length c S1.ok;refine⟨_,_,_,_,_,_,S1.rd 0 rfl rfl rfl,_,h9,e9,?_⟩;have S:Know g h9 []:=(S1.call K9).sub [] (List.nil_sublist _);have none0: ∀ {g2:Hp},Know g g2 []→Ret Tryz.prog O 156 [.slice none 0 0,.func (.func 157) #[] #[]] g2 fun r g'=>r= .bool false∧Kp g2.nx g2 g':=fun S=>ct156 hO (PA.none h) (by decide) (fun i hi=>absurd hi (Nat.not_lt_zero _)) (F.tr S.ft) S.ok;rw[shapedF_mk];unfold kindV;cases c1:eqI k 1&&(sEq t eS&&eqI (Int.ofNat ps.length) 0)with
 |true=>
  rw[cond_true];obtain⟨q1,q2⟩:=(Bool.and_eq_true _ _▸c1:_∧_);obtain⟨q2,q3⟩:=(Bool.and_eq_true _ _▸q2:_∧_);obtain rfl:=List.length_eq_zero_iff.1 (Int.ofNat.inj (eqI_iff.1 q3));refine isIface_i (vcond_t rfl ⟨_,rfl,?_⟩);obtain⟨r,h16,e16,rfl,K16⟩:=ct188 hO n h9 S.ok;have S:=S.call K16;obtain⟨r,h18,e18,rfl,K18⟩:=none0 S;have S:=S.call K18;refine⟨_,_,_,_,e16,_,_,e18,vcond_f rfl ?_⟩;intro g19;have S:Know g g19 [_]:=S.add _;refine vreq_t (S.cw 0 rfl (by decide) rfl rfl) ?_;intro g20;have S:Know g g20 [_]:=S.wr 0 rfl (by decide) rfl rfl;refine⟨_,S.rd 0 rfl rfl rfl,_,_,ct158 hO _ _ _ _,?_,S.kp⟩;unfold formF;rw[q1,cond_true,q2];simp[shapedL]
 |false=>
 rw[cond_false];cases c2:eqI k 2&&(sEq t eS&&eqI (Int.ofNat ps.length) 0)with
 |true=>
  rw[cond_true];obtain⟨q1,q2⟩:=(Bool.and_eq_true _ _▸c2:_∧_);obtain⟨q2,q3⟩:=(Bool.and_eq_true _ _▸q2:_∧_);obtain rfl:=List.length_eq_zero_iff.1 (Int.ofNat.inj (eqI_iff.1 q3));refine isIface_i (vcond_f rfl (vcond_t rfl ⟨_,rfl,?_⟩));obtain⟨r,h16,e16,rfl,K16⟩:=ct189 hO n h9 S.ok;have S:=S.call K16;obtain⟨r,h18,e18,rfl,K18⟩:=none0 S;have S:=S.call K18;refine⟨_,_,_,_,e16,_,_,e18,vcond_f rfl ?_⟩;intro g19;have S:Know g g19 [_]:=S.add _;refine vreq_t (S.cw 0 rfl (by decide) rfl rfl) ?_;intro g20;have S:Know g g20 [_]:=S.wr 0 rfl (by decide) rfl rfl;refine⟨_,S.rd 0 rfl rfl rfl,_,_,ct158 hO _ _ _ _,?_,S.kp⟩;obtain rfl:=eqI_iff.1 q1;unfold formF;rw[show eqI 2 1=false from rfl,q1,cond_true,cond_false,q2];simp[shapedL]
 |false=>
 rw[cond_false];cases c3:eqI k 3&&(eqI n 0&&eqI (Int.ofNat ps.length) 0)with
 |true=>
  rw[cond_true];obtain⟨q1,q2⟩:=(Bool.and_eq_true _ _▸c3:_∧_);obtain⟨q2,q3⟩:=(Bool.and_eq_true _ _▸q2:_∧_);obtain rfl:=List.length_eq_zero_iff.1 (Int.ofNat.inj (eqI_iff.1 q3));refine isIface_i (vcond_f rfl (vcond_f rfl (vcond_t rfl ⟨_,rfl,?_⟩)));obtain⟨r,h16,e16,rfl,K16⟩:=ct190 hO t h9 S.ok;have S:=S.call K16;obtain⟨r,h18,e18,rfl,K18⟩:=none0 S;have S:=S.call K18;refine⟨_,_,_,_,e16,_,_,e18,vcond_f rfl ?_⟩;intro g19;have S:Know g g19 [_]:=S.add _;refine vreq_t (S.cw 0 rfl (by decide) rfl rfl) ?_;intro g20;have S:Know g g20 [_]:=S.wr 0 rfl (by decide) rfl rfl;obtain⟨r,h21,e21,rfl,K21⟩:=ct159 hO t S.ok;refine⟨_,S.rd 0 rfl rfl rfl,_,_,e21,?_,(S.call K21).kp⟩;obtain rfl:=eqI_iff.1 q1;unfold formF;rw[show eqI 3 1=false from rfl,show eqI 3 2=false from rfl,q1,cond_true,cond_false,cond_false];have q4:=(Bool.and_eq_true _ _▸q2:_∧_).1;rw[q4];simp[shapedL,show eqI 0 0=true from rfl]
 |false=>
 rw[cond_false];cases c4:eqI k 4&&(eqI n 0&&sEq t eS)with
 |true=>
  rw[cond_true];obtain⟨q1,q2⟩:=(Bool.and_eq_true _ _▸c4:_∧_);obtain⟨q2,q3⟩:=(Bool.and_eq_true _ _▸q2:_∧_);refine isIface_i (vcond_f rfl (vcond_f rfl (vcond_f rfl (vcond_t rfl ⟨_,_,_,rfl,?_⟩))));obtain⟨r,h16,e16,rfl,K16⟩:=ct191 hO a ps.length c h9 S.ok;have S:=S.call K16;obtain⟨r,h18,e18,rfl,K18⟩:=ct156 hO P fl ih6 (F.tr S.ft) S.ok (c:=c);have S:=S.call K18;obtain rfl:=eqI_iff.1 q1;have e:formF 4 n t ps=(!(ltI (Int.ofNat ps.length) 2)&& !(ltI 6 (Int.ofNat ps.length))):=by
   unfold formF;rw[show eqI 4 1=false from rfl,show eqI 4 2=false from rfl,show eqI 4 3=false from rfl,q1,cond_true,cond_false,cond_false,cond_false,q2,q3];simp
  rw[e];refine⟨_,_,_,_,e16,_,_,e18,?_⟩;cases hs:shapedL ps with
  |false=>exact vcond_t rfl ⟨by rw[Bool.false_and],S.kp⟩
  |true=>
  refine vcond_f rfl ?_;intro g19;have S:Know g g19 [_]:=S.add _;refine vreq_t (S.cw 0 rfl (by decide) rfl rfl) ?_;intro g20;have S:Know g g20 [ob h18.nx (.cells [.slice a ps.length c] 201 .fix)]:=S.wr 0 rfl (by decide) rfl rfl;exact⟨_,_,_,S.rd 0 rfl rfl rfl,_,_,ct158 hO _ _ _ _,by rw[Bool.true_and],S.kp⟩
 |false=>
 rw[cond_false];cases c5:eqI k 5&&(eqI n 0&&sEq t eS)with
 |true=>
  rw[cond_true];obtain⟨q1,q2⟩:=(Bool.and_eq_true _ _▸c5:_∧_);obtain⟨q2,q3⟩:=(Bool.and_eq_true _ _▸q2:_∧_);refine isIface_i (vcond_f rfl (vcond_f rfl (vcond_f rfl (vcond_f rfl (vcond_t rfl ⟨_,_,_,rfl,?_⟩)))));obtain⟨r,h16,e16,rfl,K16⟩:=ct192 hO a ps.length c h9 S.ok;have S:=S.call K16;obtain⟨r,h18,e18,rfl,K18⟩:=ct156 hO P fl ih6 (F.tr S.ft) S.ok (c:=c);have S:=S.call K18;obtain rfl:=eqI_iff.1 q1;have e:formF 5 n t ps=incF ps:=by
   unfold formF;rw[show eqI 5 1=false from rfl,show eqI 5 2=false from rfl,show eqI 5 3=false from rfl,show eqI 5 4=false from rfl,q1,cond_true,cond_false,cond_false,cond_false,cond_false,q2,q3];simp
  rw[e];refine⟨_,_,_,_,e16,_,_,e18,?_⟩;cases hs:shapedL ps with
  |false=>exact vcond_t rfl ⟨by rw[Bool.false_and],S.kp⟩
  |true=>
  refine vcond_f rfl ?_;intro g19;have S:Know g g19 [_]:=S.add _;refine vreq_t (S.cw 0 rfl (by decide) rfl rfl) ?_;intro g20;have S:Know g g20 [ob h18.nx (.cells [.slice a ps.length c] 202 .fix)]:=S.wr 0 rfl (by decide) rfl rfl;rw[Bool.true_and];have inc: ∀(j i:Nat),i+1+j=max 1 ps.length→ ∀(g3:Hp),Know g g3 [ob h18.nx (.cells [.slice a ps.length c] 202 .fix)]→
   I147_0 O (fun r g'=>r= .bool (incF (ps.drop i))∧Kp g.nx g g') 5 n t a ps.length c false h18.nx 0 (Int.ofNat (i+1)) g3:=by
   intro j
   induction j with
   |zero=>
    intro i hi g3 S;refine I147_0.of (hh:= ?_) ..;unfold T147_0;refine⟨_,_,_,S.rd 0 rfl rfl rfl,vcond_f (by rw[ltI_nat];exact blt_f (by omega)) ⟨?_,S.kp⟩⟩;have e:incF (ps.drop i)=true:=by
     match hd:ps.drop i with
     | []=>rfl
     | [_]=>rfl
     |_::_::_=>
      have:=congrArg List.length hd;simp only[List.length_drop,List.length_cons]at this;omega
    rw[e]
   |succ j ihj=>
    intro i hi g3 S;have i1:i+1<ps.length:=by omega
    have i0:i<ps.length:=by omega
    refine I147_0.of (hh:= ?_) ..;unfold T147_0;rw[List.drop_eq_getElem_cons i0,List.drop_eq_getElem_cons i1,incF,←List.drop_eq_getElem_cons i1];refine⟨_,_,_,S.rd 0 rfl rfl rfl,vcond_t (by rw[ltI_nat];exact blt_t i1) ?_⟩;intro g104;have S1:Know g g104 [ob h18.nx (.cells [.slice a ps.length c] 202 .fix)]:=S.rsv 13;obtain⟨b,off,ea,ws,V,rv⟩:=P.2 i i0;obtain⟨b',off',e',us,U,ru⟩:=P.2 (i+1) i1;obtain⟨rfl,rfl⟩:b=b'∧off=off':=by rw[ea]at e';simpa using e'
    have fg:=F.tr S1.ft;have rv:=rv fg.get;have ru:=ru fg.get;have ihi:=ct160 hO ps[i] V (fp _ (List.getElem_mem i0)).1 U (g:=g104.grd []) (F.tr (S1.ftg [])) (S1.ok.grd fun q hq=>by cases hq);rw[cmp_same _ (shapedL_all hs _ (List.getElem_mem i0)) _ (shapedL_all hs _ (List.getElem_mem i1))]at ihi;obtain⟨_,_,_,_,_,_,rfl⟩:=V.form;obtain⟨_,_,_,_,_,_,rfl⟩:=U.form;have ew:wrapF .i64 (Int.ofNat (i+1)-1)=Int.ofNat i:=by
     simp only[Int.ofNat_eq_natCast];rw[wrap64 (by omega) (by omega)];omega
    rw[ew,ea];refine⟨_,_,_,(ea▸S1).rd 0 rfl rfl rfl,isNat_i (show isAddr (some ⟨b,off,none⟩) _ from vreq_t (blt_t i0) ⟨_,_,_,_,_,_,rv,_,_,_,(ea▸S1).rd 0 rfl rfl rfl,isNat_i (show isAddr (some ⟨b,off,none⟩) _ from vreq_t (blt_t i1) ⟨_,_,_,_,_,_,ru,?_⟩)⟩)⟩;obtain⟨r,g4,e4,rfl,K3⟩:=ihi;refine⟨_,g4,e4,?_⟩;intro g131;have S3:Know g g131 [ob h18.nx (.cells [.slice a ps.length c] 202 .fix)]:=S1.callg K3;rw[wrap_succ (by omega),←ea];cases hbf:ltI (cmpF ps[i] ps[i+1]) 0 with
    |false=>exact vcond_t rfl ⟨rfl,S3.kp⟩
    |true=>exact vcond_f rfl (ihj (i+1) (by omega) g131 S3)
  exact inc (max 1 ps.length-1) 0 (by omega) g20 S
 |false=>
 rw[cond_false];refine isIface_i (vcond_f rfl (vcond_f rfl (vcond_f rfl (vcond_f rfl (vcond_f rfl (vcond_t rfl ⟨rfl,?_⟩))))));obtain⟨r,h16,e16,rfl,K16⟩:=ct193 hO h9 S.ok;have S:=S.call K16;obtain⟨r,h18,e18,rfl,K18⟩:=none0 S;have S:=S.call K18;refine⟨_,_,_,_,e16,_,_,e18,vcond_f rfl ⟨?_,S.kp⟩⟩;have e:formF k n t ps=false:=by
  unfold formF;cases e1:eqI k 1 with
  |true=>rw[e1,Bool.true_and]at c1;rw[cond_true,c1,Bool.and_false]
  |false=>
  cases e2:eqI k 2 with
  |true=>rw[e2,Bool.true_and]at c2;rw[cond_true,cond_false,c2,Bool.and_false]
  |false=>
  cases e3:eqI k 3 with
  |true=>rw[e3,Bool.true_and]at c3;rw[cond_true,cond_false,cond_false,Bool.and_left_comm,c3,Bool.and_false]
  |false=>
  cases e4:eqI k 4 with
  |true=>rw[e4,Bool.true_and]at c4;rw[cond_true,cond_false,cond_false,cond_false,←Bool.and_assoc,c4,Bool.false_and]
  |false=>
  cases e5:eqI k 5 with
  |true=>rw[e5,Bool.true_and]at c5;rw[cond_true,cond_false,cond_false,cond_false,cond_false,c5,Bool.and_false]
  |false=>rfl
 rw[e,Bool.and_false]
end
end Go.Proofs.YtngcjpkccnfjiaaGreatDoor
namespace Go.Proofs.YtngcjpkccnfjiaaGreatDoor
open Go Go.Ev
set_option maxRecDepth 100000
set_option linter.unusedVariables false
noncomputable def b134:Code:=(Tryz.f134.body).getD .skip
def lv134:List (Nat×List Nat):=[]
def T134 (O:CallF)(Q:VQ)(x0_0 x0_1:Int)(s0_2:ByteArray)(a0_3:OA)(n0_3 c0_3:Nat)(h:Hp):Prop:=
 let g1:=h.add (.cells (v46 x0_0 x0_1 s0_2 a0_3 n0_3 c0_3) 46 .fix)
 ∃x2 x3 s4 a5 n6 c7,readAt g1 h.nx 0 4=some (v46 x2 x3 s4 a5 n6 c7)∧
 ∃q8 h9,EvC Tryz.prog O 146 [.agg (w46 x2 x3 s4 a5 n6 c7)] g1 (.bool q8) h9∧
 vcond q8
 (∃x10 x11 s12 a13 n14 c15,readAt h9 h.nx 0 4=some (v46 x10 x11 s12 a13 n14 c15)∧
 ∃q16 h17,EvC Tryz.prog O 147 [.agg (w46 x10 x11 s12 a13 n14 c15)] h9 (.bool q16) h17∧
 Q (.bool q16) h17)
 (Q (.bool false) h9)
theorem rk134 {O Q} (x0_0 x0_1 s0_2 a0_3 n0_3 c0_3){h:Hp}(hO:O 134 [.agg (w46 x0_0 x0_1 s0_2 a0_3 n0_3 c0_3)] h=none)(hh:T134 O Q x0_0 x0_1 s0_2 a0_3 n0_3 c0_3 h):Ret Tryz.prog O 134 [.agg (w46 x0_0 x0_1 s0_2 a0_3 n0_3 c0_3)] h Q:=
 .of (c:=b134) Tryz.func134 (by kernel_rfl) hO (V_okE (tb:=lv134) (cuts:=[]) 500 hh (by kernel_rfl))
noncomputable def b148:Code:=(Tryz.f148.body).getD .skip
def lv148:List (Nat×List Nat):=[]
def T148 (O:CallF)(Q:VQ)(x0_0 x0_1:Int)(s0_2:ByteArray)(a0_3:OA)(n0_3 c0_3:Nat)(x1_0 x1_1:Int)(s1_2:ByteArray)(a1_3:OA)(n1_3 c1_3:Nat)(h:Hp):Prop:=
 let g1:=h.add (.cells (v46 x0_0 x0_1 s0_2 a0_3 n0_3 c0_3) 46 .fix)
 let g2:=g1.add (.cells (v46 x1_0 x1_1 s1_2 a1_3 n1_3 c1_3) 46 .fix)
 ∃x3 x4 s5 a6 n7 c8,readAt g2 h.nx 0 4=some (v46 x3 x4 s5 a6 n7 c8)∧
 ∃q9 h10,EvC Tryz.prog O 134 [.agg (w46 x3 x4 s5 a6 n7 c8)] g2 (.bool q9) h10∧
 vcond (!q9)
 (Q (.tuple #[.int .i64 0,.int .i64 2]) h10)
 (∃x11 x12 s13 a14 n15 c16,readAt h10 g1.nx 0 4=some (v46 x11 x12 s13 a14 n15 c16)∧
 ∃q17 h18,EvC Tryz.prog O 134 [.agg (w46 x11 x12 s13 a14 n15 c16)] h10 (.bool q17) h18∧
 vcond (!q17)
 (Q (.tuple #[.int .i64 0,.int .i64 2]) h18)
 (∃x19 x20 s21 a22 n23 c24,readAt h18 h.nx 0 4=some (v46 x19 x20 s21 a22 n23 c24)∧
 ∃x25 x26 s27 a28 n29 c30,readAt h18 g1.nx 0 4=some (v46 x25 x26 s27 a28 n29 c30)∧
 ∃x31 h32,EvC Tryz.prog O 160 [.agg (w46 x19 x20 s21 a22 n23 c24),.agg (w46 x25 x26 s27 a28 n29 c30)] h18 (.int .i64 x31) h32∧
 Q (.tuple #[.int .i64 x31,.int .i64 0]) h32))
theorem rk148 {O Q} (x0_0 x0_1 s0_2 a0_3 n0_3 c0_3 x1_0 x1_1 s1_2 a1_3 n1_3 c1_3){h:Hp}(hO:O 148 [.agg (w46 x0_0 x0_1 s0_2 a0_3 n0_3 c0_3),.agg (w46 x1_0 x1_1 s1_2 a1_3 n1_3 c1_3)] h=none)(hh:T148 O Q x0_0 x0_1 s0_2 a0_3 n0_3 c0_3 x1_0 x1_1 s1_2 a1_3 n1_3 c1_3 h):Ret Tryz.prog O 148 [.agg (w46 x0_0 x0_1 s0_2 a0_3 n0_3 c0_3),.agg (w46 x1_0 x1_1 s1_2 a1_3 n1_3 c1_3)] h Q:=
 .of (c:=b148) Tryz.func148 (by kernel_rfl) hO (V_okE (tb:=lv148) (cuts:=[]) 500 hh (by kernel_rfl))
noncomputable def b94:Code:=(Tryz.f94.body).getD .skip
def lv94:List (Nat×List Nat):=[]
def T94 (O:CallF)(Q:VQ)(x0_0 x0_1:Int)(s0_2:ByteArray)(a0_3:OA)(n0_3 c0_3:Nat)(h:Hp):Prop:=
 let g1:=h.add (.cells (v46 x0_0 x0_1 s0_2 a0_3 n0_3 c0_3) 46 .fix)
 ∃x2 x3 s4 a5 n6 c7,readAt g1 h.nx 0 4=some (v46 x2 x3 s4 a5 n6 c7)∧
 ∃q8 h9,EvC Tryz.prog O 134 [.agg (w46 x2 x3 s4 a5 n6 c7)] g1 (.bool q8) h9∧
 vcond (!q8)
 (Q (.int .i64 2) h9)
 (Q (.int .i64 0) h9)
theorem rk94 {O Q} (x0_0 x0_1 s0_2 a0_3 n0_3 c0_3){h:Hp}(hO:O 94 [.agg (w46 x0_0 x0_1 s0_2 a0_3 n0_3 c0_3)] h=none)(hh:T94 O Q x0_0 x0_1 s0_2 a0_3 n0_3 c0_3 h):Ret Tryz.prog O 94 [.agg (w46 x0_0 x0_1 s0_2 a0_3 n0_3 c0_3)] h Q:=
 .of (c:=b94) Tryz.func94 (by kernel_rfl) hO (V_okE (tb:=lv94) (cuts:=[]) 500 hh (by kernel_rfl))
noncomputable def b95:Code:=(Tryz.f95.body).getD .skip
noncomputable def stk95_0:List KI:=[.code (sub [1,1,1,1,0,1,0] b95),.blk 0,.code (sub [1,1,1,1,1] b95)]
def lv95:List (Nat×List Nat):=[(0,[2,3,4,5,29,30,31])]
def I95_0 (O:CallF)(Q:VQ)(x0_0 x0_1:Int)(s0_2:ByteArray)(a0_3:OA)(n0_3 c0_3:Nat)(x4:Int)(q5:Bool)(a29:OA)(n29 c29:Nat)(x30 x31:Int)(h:Hp):Prop:=RKL Tryz.prog O Tryz.f95 stk95_0 50 [2,3,4,5,29,30,31] [.int .i64 0,.bool false,.int .i64 x4,.bool q5,.slice a29 n29 c29,.int .i64 x30,.int .i64 x31] h Q
def T95 (O:CallF)(Q:VQ)(x0_0 x0_1:Int)(s0_2:ByteArray)(a0_3:OA)(n0_3 c0_3:Nat)(h:Hp):Prop:=
 let g1:=h.add (.cells (v46 x0_0 x0_1 s0_2 a0_3 n0_3 c0_3) 46 .fix)
 ∃x2,readAt g1 h.nx 0 1=some [.int .i64 x2]∧
 vcond (eqI x2 1)
 (Q (.tuple #[.int .i64 0,.bool true]) g1)
 (let g3:=g1.rsv 14
 ∃s4,readAt g3 h.nx 2 1=some [.string s4]∧
 ∃a5 n6 c7,readAt g3 h.nx 3 1=some [.slice a5 n6 c7]∧
 ∃a8 n9 c10,readAt g3 h.nx 3 1=some [.slice a8 n9 c10]∧
 ∃x11,readAt g3 h.nx 0 1=some [.int .i64 x11]∧
 vcond (eqI x11 2)
 (∃a12 n13 c14,readAt g3 h.nx 3 1=some [.slice a12 n13 c14]∧
 I95_0 O Q x0_0 x0_1 s0_2 a0_3 n0_3 c0_3 2 (!(ltI 20 (Int.ofNat n9))) a12 n13 c14 (Int.ofNat n13) 0 g3)
 (∃a15 n16 c17,readAt g3 h.nx 3 1=some [.slice a15 n16 c17]∧
 I95_0 O Q x0_0 x0_1 s0_2 a0_3 n0_3 c0_3 (wrapF .i64 ((wrapF .i64 (1+(Int.ofNat (ByteArray.size s4))))+(Int.ofNat n6))) (!(ltI 20 (Int.ofNat n9))) a15 n16 c17 (Int.ofNat n16) 0 g3))
theorem rk95 {O Q} (x0_0 x0_1 s0_2 a0_3 n0_3 c0_3){h:Hp}(hO:O 95 [.agg (w46 x0_0 x0_1 s0_2 a0_3 n0_3 c0_3)] h=none)(hh:T95 O Q x0_0 x0_1 s0_2 a0_3 n0_3 c0_3 h):Ret Tryz.prog O 95 [.agg (w46 x0_0 x0_1 s0_2 a0_3 n0_3 c0_3)] h Q:=
 .of (c:=b95) Tryz.func95 (by kernel_rfl) hO (V_okE (tb:=lv95) (cuts:=[]) 500 hh (by kernel_rfl))
def T95_0 (O:CallF)(Q:VQ)(x0_0 x0_1:Int)(s0_2:ByteArray)(a0_3:OA)(n0_3 c0_3:Nat)(x4:Int)(q5:Bool)(a29:OA)(n29 c29:Nat)(x30 x31:Int)(h:Hp):Prop:=
 vcond (ltI x31 x30)
 (isNat x31 fun n101=>
 isAddr a29 fun b102 f103=>
 vreq (Nat.blt n101 n29)
 (∃x104 x105 s106 a107 n108 c109,readAt h b102 (f103+(n101*4)) 4=some (v46 x104 x105 s106 a107 n108 c109)∧
 let g110:=h.add (.cells (v46 0 0 (ByteArray.mk #[]) none 0 0) 46 .fix)
 vreq (canW g110 h.nx 0 (v46 x104 x105 s106 a107 n108 c109))
 (let g111:=g110.wr h.nx 0 (v46 x104 x105 s106 a107 n108 c109)
 ∃x112 x113 s114 a115 n116 c117,readAt g111 h.nx 0 4=some (v46 x112 x113 s114 a115 n116 c117)∧
 ∃x118 q119 h120,EvC Tryz.prog O 95 [.agg (w46 x112 x113 s114 a115 n116 c117)] g111 (.tuple #[.int .i64 x118,.bool q119]) h120∧
 vcond q5
 (I95_0 O Q x0_0 x0_1 s0_2 a0_3 n0_3 c0_3 (wrapF .i64 (x4+x118)) q119 a29 n29 c29 x30 (wrapF .i64 (x31+1)) h120)
 (I95_0 O Q x0_0 x0_1 s0_2 a0_3 n0_3 c0_3 (wrapF .i64 (x4+x118)) false a29 n29 c29 x30 (wrapF .i64 (x31+1)) h120))))
 (Q (.tuple #[.int .i64 x4,.bool q5]) h)
theorem I95_0.of {O Q} (x0_0 x0_1 s0_2 a0_3 n0_3 c0_3 x4 q5 a29 n29 c29 x30 x31){h:Hp}(hh:T95_0 O Q x0_0 x0_1 s0_2 a0_3 n0_3 c0_3 x4 q5 a29 n29 c29 x30 x31 h):I95_0 O Q x0_0 x0_1 s0_2 a0_3 n0_3 c0_3 x4 q5 a29 n29 c29 x30 x31 h:=
 RKL.ofE (tb:=lv95) (cuts:=[]) 500 hh fun _=>by kernel_rfl
noncomputable def b96:Code:=(Tryz.f96.body).getD .skip
noncomputable def stk96_0:List KI:=[.code (sub [1,1,0,1,0] b96),.blk 0,.code (sub [1,1,1] b96)]
noncomputable def stk96_1:List KI:=[.code (sub [1,1,1,1,0,1,0] b96),.blk 3,.code (sub [1,1,1,1,1] b96)]
def lv96:List (Nat×List Nat):=[(0,[0,3,4,5,11,12,13]),(3,[0,4,5,51,52,53])]
def I96_0 (O:CallF)(Q:VQ)(b0 f0:Nat)(x1_0 x1_1:Int)(s1_2:ByteArray)(a1_3:OA)(n1_3 c1_3 b3 f3:Nat)(a5:OA)(n5 c5:Nat)(a11:OA)(n11 c11:Nat)(x12 x13:Int)(h:Hp):Prop:=RKL Tryz.prog O Tryz.f96 stk96_0 66 [0,3,4,5,11,12,13] [.pointer (some ⟨b0,f0,none⟩),.pointer (some ⟨b3,f3,none⟩),.int .i64 0,.slice a5 n5 c5,.slice a11 n11 c11,.int .i64 x12,.int .i64 x13] h Q
def I96_1 (O:CallF)(Q:VQ)(b0 f0:Nat)(x1_0 x1_1:Int)(s1_2:ByteArray)(a1_3:OA)(n1_3 c1_3:Nat)(a5:OA)(n5 c5:Nat)(a51:OA)(n51 c51:Nat)(x52 x53:Int)(h:Hp):Prop:=RKL Tryz.prog O Tryz.f96 stk96_1 66 [0,4,5,51,52,53] [.pointer (some ⟨b0,f0,none⟩),.int .i64 0,.slice a5 n5 c5,.slice a51 n51 c51,.int .i64 x52,.int .i64 x53] h Q
def T96 (O:CallF)(Q:VQ)(b0 f0:Nat)(x1_0 x1_1:Int)(s1_2:ByteArray)(a1_3:OA)(n1_3 c1_3:Nat)(h:Hp):Prop:=
 let g1:=h.add (.cells (v46 x1_0 x1_1 s1_2 a1_3 n1_3 c1_3) 46 .fix)
 ∃a2 n3 c4,readAt g1 h.nx 3 1=some [.slice a2 n3 c4]∧
 I96_0 O Q b0 f0 x1_0 x1_1 s1_2 a1_3 n1_3 c1_3 h.nx 0 none 0 0 a2 n3 c4 (Int.ofNat n3) 0 g1
theorem rk96 {O Q} (b0 f0 x1_0 x1_1 s1_2 a1_3 n1_3 c1_3){h:Hp}(hO:O 96 [.pointer (some ⟨b0,f0,none⟩),.agg (w46 x1_0 x1_1 s1_2 a1_3 n1_3 c1_3)] h=none)(hh:T96 O Q b0 f0 x1_0 x1_1 s1_2 a1_3 n1_3 c1_3 h):Ret Tryz.prog O 96 [.pointer (some ⟨b0,f0,none⟩),.agg (w46 x1_0 x1_1 s1_2 a1_3 n1_3 c1_3)] h Q:=
 .of (c:=b96) Tryz.func96 (by kernel_rfl) hO (V_okE (tb:=lv96) (cuts:=[]) 500 hh (by kernel_rfl))
def T96_0 (O:CallF)(Q:VQ)(b0 f0:Nat)(x1_0 x1_1:Int)(s1_2:ByteArray)(a1_3:OA)(n1_3 c1_3 b3 f3:Nat)(a5:OA)(n5 c5:Nat)(a11:OA)(n11 c11:Nat)(x12 x13:Int)(h:Hp):Prop:=
 vcond (ltI x13 x12)
 (isNat x13 fun n101=>
 isAddr a11 fun b102 f103=>
 vreq (Nat.blt n101 n11)
 (∃x104 x105 s106 a107 n108 c109,readAt h b102 (f103+(n101*4)) 4=some (v46 x104 x105 s106 a107 n108 c109)∧
 let g110:=h.add (.cells (v46 0 0 (ByteArray.mk #[]) none 0 0) 46 .fix)
 vreq (canW g110 h.nx 0 (v46 x104 x105 s106 a107 n108 c109))
 (let g111:=g110.wr h.nx 0 (v46 x104 x105 s106 a107 n108 c109)
 ∃x112 x113 s114 a115 n116 c117,readAt g111 h.nx 0 4=some (v46 x112 x113 s114 a115 n116 c117)∧
 ∃x118 h119,EvC Tryz.prog O 96 [.pointer (some ⟨b0,f0,none⟩),.agg (w46 x112 x113 s114 a115 n116 c117)] g111 (.int .i64 x118) h119∧
 let g120:=h119.add (.cells [.int .i64 x118] 3 .fix)
 ∃a121 n122 c123 h124,appendV Tryz.prog g120 22 22 (.slice a5 n5 c5) (.slice (some ⟨h119.nx,0,none⟩) 1 1)=some (.slice a121 n122 c123,h124)∧
 I96_0 O Q b0 f0 x1_0 x1_1 s1_2 a1_3 n1_3 c1_3 b3 f3 a121 n122 c123 a11 n11 c11 x12 (wrapF .i64 (x13+1)) h124)))
 (∃x125,readAt h b3 (f3+0) 1=some [.int .i64 x125]∧
 vcond (eqI x125 1)
 (∃x126,readAt h b3 (f3+1) 1=some [.int .i64 x126]∧
 Q (.int .i64 (wrapF .i64 ((wrapF .i64 (2*x126))+1))) h)
 (vcond (eqI x125 2)
 (∃x127,readAt h b3 (f3+1) 1=some [.int .i64 x127]∧
 let g128:=h.add (.cells [.int .i64 x127] 3 .fix)
 ∃x129 h130,EvC Tryz.prog O 81 [.pointer (some ⟨b0,f0,none⟩),.int .i64 4,.slice (some ⟨h.nx,0,none⟩) 1 1] g128 (.int .i64 x129) h130∧
 Q (.int .i64 x129) h130)
 (vcond (eqI x125 4)
 (∃x131 h132,EvC Tryz.prog O 81 [.pointer (some ⟨b0,f0,none⟩),.int .i64 1,.slice a5 n5 c5] h (.int .i64 x131) h132∧
 Q (.int .i64 x131) h132)
 (vcond (eqI x125 5)
 (∃x133 h134,EvC Tryz.prog O 81 [.pointer (some ⟨b0,f0,none⟩),.int .i64 2,.slice a5 n5 c5] h (.int .i64 x133) h134∧
 Q (.int .i64 x133) h134)
 (∃s135,readAt h b3 (f3+2) 1=some [.string s135]∧
 let g136:=h.add (.cells (List.map (fun b=>Value.int .u8 (Int.ofNat (UInt8.toNat b))) (Array.toList (ByteArray.data s135))) 5 .ro)
 I96_1 O Q b0 f0 x1_0 x1_1 s1_2 a1_3 n1_3 c1_3 a5 n5 c5 (some ⟨h.nx,0,none⟩) (ByteArray.size s135) 18446744073709551616 (Int.ofNat (ByteArray.size s135)) 0 g136)))))
theorem I96_0.of {O Q} (b0 f0 x1_0 x1_1 s1_2 a1_3 n1_3 c1_3 b3 f3 a5 n5 c5 a11 n11 c11 x12 x13){h:Hp}(hh:T96_0 O Q b0 f0 x1_0 x1_1 s1_2 a1_3 n1_3 c1_3 b3 f3 a5 n5 c5 a11 n11 c11 x12 x13 h):I96_0 O Q b0 f0 x1_0 x1_1 s1_2 a1_3 n1_3 c1_3 b3 f3 a5 n5 c5 a11 n11 c11 x12 x13 h:=
 RKL.ofE (tb:=lv96) (cuts:=[]) 500 hh fun _=>by kernel_rfl
def T96_1 (O:CallF)(Q:VQ)(b0 f0:Nat)(x1_0 x1_1:Int)(s1_2:ByteArray)(a1_3:OA)(n1_3 c1_3:Nat)(a5:OA)(n5 c5:Nat)(a51:OA)(n51 c51:Nat)(x52 x53:Int)(h:Hp):Prop:=
 vcond (ltI x53 x52)
 (isNat x53 fun n201=>
 isAddr a51 fun b202 f203=>
 vreq (Nat.blt n201 n51)
 (∃x204,readAt h b202 (f203+(n201*1)) 1=some [.int .u8 x204]∧
 let g205:=h.add (.cells [.int .i64 (wrapF .i64 x204)] 3 .fix)
 ∃a206 n207 c208 h209,appendV Tryz.prog g205 22 22 (.slice a5 n5 c5) (.slice (some ⟨h.nx,0,none⟩) 1 1)=some (.slice a206 n207 c208,h209)∧
 I96_1 O Q b0 f0 x1_0 x1_1 s1_2 a1_3 n1_3 c1_3 a206 n207 c208 a51 n51 c51 x52 (wrapF .i64 (x53+1)) h209))
 (∃x210 h211,EvC Tryz.prog O 81 [.pointer (some ⟨b0,f0,none⟩),.int .i64 3,.slice a5 n5 c5] h (.int .i64 x210) h211∧
 Q (.int .i64 x210) h211)
theorem I96_1.of {O Q} (b0 f0 x1_0 x1_1 s1_2 a1_3 n1_3 c1_3 a5 n5 c5 a51 n51 c51 x52 x53){h:Hp}(hh:T96_1 O Q b0 f0 x1_0 x1_1 s1_2 a1_3 n1_3 c1_3 a5 n5 c5 a51 n51 c51 x52 x53 h):I96_1 O Q b0 f0 x1_0 x1_1 s1_2 a1_3 n1_3 c1_3 a5 n5 c5 a51 n51 c51 x52 x53 h:=
 RKL.ofE (tb:=lv96) (cuts:=[]) 500 hh fun _=>by kernel_rfl
noncomputable def b31:Code:=(Tryz.f31.body).getD .skip
def lv31:List (Nat×List Nat):=[]
def T31 (O:CallF)(Q:VQ)(a0_0:OA)(n0_0 c0_0:Nat)(x0_1:Int)(a0_2:OA)(n0_2 c0_2:Nat)(x1_0 x1_1:Int)(s1_2:ByteArray)(a1_3:OA)(n1_3 c1_3:Nat)(h:Hp):Prop:=
 let g1:=h.add (.cells (v24 a0_0 n0_0 c0_0 x0_1 a0_2 n0_2 c0_2) 24 .fix)
 let g2:=g1.add (.cells (v46 x1_0 x1_1 s1_2 a1_3 n1_3 c1_3) 46 .fix)
 let g3:=g2.add (.cells (v24 none 0 0 0 none 0 0) 24 .fix)
 ∃a4 n5 c6 x7 a8 n9 c10,readAt g3 h.nx 0 3=some (v24 a4 n5 c6 x7 a8 n9 c10)∧
 ∃x11 h12,EvC Tryz.prog O 41 [.agg (w24 a4 n5 c6 x7 a8 n9 c10)] g3 (.int .i64 x11) h12∧
 vcond (eqI x11 0)
 (∃x13 x14 s15 a16 n17 c18,readAt h12 g1.nx 0 4=some (v46 x13 x14 s15 a16 n17 c18)∧
 ∃x19 h20,EvC Tryz.prog O 94 [.agg (w46 x13 x14 s15 a16 n17 c18)] h12 (.int .i64 x19) h20∧
 vcond (!(eqI x19 0))
 (vreq (canW h20 g2.nx 0 (v24 none 0 0 0 none 0 0))
 (let g21:=h20.wr g2.nx 0 (v24 none 0 0 0 none 0 0)
 ∃a22 n23 c24 x25 a26 n27 c28,readAt g21 g2.nx 0 3=some (v24 a22 n23 c24 x25 a26 n27 c28)∧
 Q (.tuple #[.agg (w24 a22 n23 c24 x25 a26 n27 c28),.int .i64 0,.int .i64 x19]) g21))
 (∃x29 x30 s31 a32 n33 c34,readAt h20 g1.nx 0 4=some (v46 x29 x30 s31 a32 n33 c34)∧
 ∃x35 q36 h37,EvC Tryz.prog O 95 [.agg (w46 x29 x30 s31 a32 n33 c34)] h20 (.tuple #[.int .i64 x35,.bool q36]) h37∧
 vcond (!q36)
 (vreq (canW h37 g2.nx 0 (v24 none 0 0 0 none 0 0))
 (let g38:=h37.wr g2.nx 0 (v24 none 0 0 0 none 0 0)
 ∃a39 n40 c41 x42 a43 n44 c45,readAt g38 g2.nx 0 3=some (v24 a39 n40 c41 x42 a43 n44 c45)∧
 Q (.tuple #[.agg (w24 a39 n40 c41 x42 a43 n44 c45),.int .i64 0,.int .i64 3]) g38))
 (∃a46 n47 c48 x49 a50 n51 c52,readAt h37 h.nx 0 3=some (v24 a46 n47 c48 x49 a50 n51 c52)∧
 ∃a53 n54 c55 x56 a57 n58 c59 a60 n61 c62 q63 h64,EvC Tryz.prog O 80 [.agg (w24 a46 n47 c48 x49 a50 n51 c52),.int .i64 x35,.slice none 0 0] h37 (.tuple #[.agg (w24 a53 n54 c55 x56 a57 n58 c59),.slice a60 n61 c62,.bool q63]) h64∧
 let g65:=h64.add (.cells (v24 none 0 0 0 none 0 0) 24 .fix)
 vreq (canW g65 h64.nx 0 (v24 a53 n54 c55 x56 a57 n58 c59))
 (let g66:=g65.wr h64.nx 0 (v24 a53 n54 c55 x56 a57 n58 c59)
 vcond (!q63)
 (vreq (canW g66 g2.nx 0 (v24 none 0 0 0 none 0 0))
 (let g67:=g66.wr g2.nx 0 (v24 none 0 0 0 none 0 0)
 ∃a68 n69 c70 x71 a72 n73 c74,readAt g67 g2.nx 0 3=some (v24 a68 n69 c70 x71 a72 n73 c74)∧
 Q (.tuple #[.agg (w24 a68 n69 c70 x71 a72 n73 c74),.int .i64 0,.int .i64 3]) g67))
 (∃x75 x76 s77 a78 n79 c80,readAt g66 g1.nx 0 4=some (v46 x75 x76 s77 a78 n79 c80)∧
 ∃x81 h82,EvC Tryz.prog O 96 [.pointer (some ⟨h64.nx,0,none⟩),.agg (w46 x75 x76 s77 a78 n79 c80)] g66 (.int .i64 x81) h82∧
 ∃a83 n84 c85 x86 a87 n88 c89,readAt h82 h64.nx 0 3=some (v24 a83 n84 c85 x86 a87 n88 c89)∧
 vreq (canW h82 g2.nx 0 (v24 a83 n84 c85 x86 a87 n88 c89))
 (let g90:=h82.wr g2.nx 0 (v24 a83 n84 c85 x86 a87 n88 c89)
 ∃a91 n92 c93 x94 a95 n96 c97,readAt g90 g2.nx 0 3=some (v24 a91 n92 c93 x94 a95 n96 c97)∧
 Q (.tuple #[.agg (w24 a91 n92 c93 x94 a95 n96 c97),.int .i64 x81,.int .i64 0]) g90))))))
 (vcond (!(eqI x11 0))
 (vreq (canW h12 g2.nx 0 (v24 none 0 0 0 none 0 0))
 (let g98:=h12.wr g2.nx 0 (v24 none 0 0 0 none 0 0)
 ∃a99 n100 c101 x102 a103 n104 c105,readAt g98 g2.nx 0 3=some (v24 a99 n100 c101 x102 a103 n104 c105)∧
 Q (.tuple #[.agg (w24 a99 n100 c101 x102 a103 n104 c105),.int .i64 0,.int .i64 x11]) g98))
 (∃x106 x107 s108 a109 n110 c111,readAt h12 g1.nx 0 4=some (v46 x106 x107 s108 a109 n110 c111)∧
 ∃x112 q113 h114,EvC Tryz.prog O 95 [.agg (w46 x106 x107 s108 a109 n110 c111)] h12 (.tuple #[.int .i64 x112,.bool q113]) h114∧
 vcond (!q113)
 (vreq (canW h114 g2.nx 0 (v24 none 0 0 0 none 0 0))
 (let g115:=h114.wr g2.nx 0 (v24 none 0 0 0 none 0 0)
 ∃a116 n117 c118 x119 a120 n121 c122,readAt g115 g2.nx 0 3=some (v24 a116 n117 c118 x119 a120 n121 c122)∧
 Q (.tuple #[.agg (w24 a116 n117 c118 x119 a120 n121 c122),.int .i64 0,.int .i64 3]) g115))
 (∃a123 n124 c125 x126 a127 n128 c129,readAt h114 h.nx 0 3=some (v24 a123 n124 c125 x126 a127 n128 c129)∧
 ∃a130 n131 c132 x133 a134 n135 c136 a137 n138 c139 q140 h141,EvC Tryz.prog O 80 [.agg (w24 a123 n124 c125 x126 a127 n128 c129),.int .i64 x112,.slice none 0 0] h114 (.tuple #[.agg (w24 a130 n131 c132 x133 a134 n135 c136),.slice a137 n138 c139,.bool q140]) h141∧
 let g142:=h141.add (.cells (v24 none 0 0 0 none 0 0) 24 .fix)
 vreq (canW g142 h141.nx 0 (v24 a130 n131 c132 x133 a134 n135 c136))
 (let g143:=g142.wr h141.nx 0 (v24 a130 n131 c132 x133 a134 n135 c136)
 vcond (!q140)
 (vreq (canW g143 g2.nx 0 (v24 none 0 0 0 none 0 0))
 (let g144:=g143.wr g2.nx 0 (v24 none 0 0 0 none 0 0)
 ∃a145 n146 c147 x148 a149 n150 c151,readAt g144 g2.nx 0 3=some (v24 a145 n146 c147 x148 a149 n150 c151)∧
 Q (.tuple #[.agg (w24 a145 n146 c147 x148 a149 n150 c151),.int .i64 0,.int .i64 3]) g144))
 (∃x152 x153 s154 a155 n156 c157,readAt g143 g1.nx 0 4=some (v46 x152 x153 s154 a155 n156 c157)∧
 ∃x158 h159,EvC Tryz.prog O 96 [.pointer (some ⟨h141.nx,0,none⟩),.agg (w46 x152 x153 s154 a155 n156 c157)] g143 (.int .i64 x158) h159∧
 ∃a160 n161 c162 x163 a164 n165 c166,readAt h159 h141.nx 0 3=some (v24 a160 n161 c162 x163 a164 n165 c166)∧
 vreq (canW h159 g2.nx 0 (v24 a160 n161 c162 x163 a164 n165 c166))
 (let g167:=h159.wr g2.nx 0 (v24 a160 n161 c162 x163 a164 n165 c166)
 ∃a168 n169 c170 x171 a172 n173 c174,readAt g167 g2.nx 0 3=some (v24 a168 n169 c170 x171 a172 n173 c174)∧
 Q (.tuple #[.agg (w24 a168 n169 c170 x171 a172 n173 c174),.int .i64 x158,.int .i64 0]) g167))))))
theorem rk31 {O Q} (a0_0 n0_0 c0_0 x0_1 a0_2 n0_2 c0_2 x1_0 x1_1 s1_2 a1_3 n1_3 c1_3){h:Hp}(hO:O 31 [.agg (w24 a0_0 n0_0 c0_0 x0_1 a0_2 n0_2 c0_2),.agg (w46 x1_0 x1_1 s1_2 a1_3 n1_3 c1_3)] h=none)(hh:T31 O Q a0_0 n0_0 c0_0 x0_1 a0_2 n0_2 c0_2 x1_0 x1_1 s1_2 a1_3 n1_3 c1_3 h):Ret Tryz.prog O 31 [.agg (w24 a0_0 n0_0 c0_0 x0_1 a0_2 n0_2 c0_2),.agg (w46 x1_0 x1_1 s1_2 a1_3 n1_3 c1_3)] h Q:=
 .of (c:=b31) Tryz.func31 (by kernel_rfl) hO (V_okE (tb:=lv31) (cuts:=[]) 500 hh (by kernel_rfl))
noncomputable def b101:Code:=(Tryz.f101.body).getD .skip
noncomputable def stk101_0:List KI:=[.code (sub [1,1,1,1,1,1,1,0,1,0,1,1,1,0,1,0,1,0] b101),.blk 1,.code (sub [1,1,1,1,1,1,1,0,1,0,1,1,1,0,1,1] b101),.blk 0,.code (sub [1,1,1,1,1,1,1,1] b101)]
def lv101:List (Nat×List Nat):=[(1,[6,7,10,75,76,77])]
def I101_0 (O:CallF)(Q:VQ)(b0 f0:Nat)(x1 x2:Int)(b6 f6:Nat)(a10:OA)(n10 c10:Nat)(a75:OA)(n75 c75:Nat)(x76 x77:Int)(h:Hp):Prop:=RKL Tryz.prog O Tryz.f101 stk101_0 116 [6,7,10,75,76,77] [.pointer (some ⟨b6,f6,none⟩),.int .i64 0,.slice a10 n10 c10,.slice a75 n75 c75,.int .i64 x76,.int .i64 x77] h Q
def T101 (O:CallF)(Q:VQ)(b0 f0:Nat)(x1 x2:Int)(h:Hp):Prop:=
 let g1:=h.add (.cells (v46 0 0 (ByteArray.mk #[]) none 0 0) 46 .fix)
 ∃x2',readAt g1 b0 (f0+3) 1=some [.int .i64 x2']∧
 vreq (canW g1 b0 (f0+3) [.int .i64 (wrapF .i64 (x2'-1))])
 (let g3:=g1.wr b0 (f0+3) [.int .i64 (wrapF .i64 (x2'-1))]
 ∃x4,readAt g3 b0 (f0+3) 1=some [.int .i64 x4]∧
 vcond (ltI x4 0)
 (vreq (canW g3 h.nx 0 (v46 0 0 (ByteArray.mk #[]) none 0 0))
 (let g5:=g3.wr h.nx 0 (v46 0 0 (ByteArray.mk #[]) none 0 0)
 ∃x6 x7 s8 a9 n10 c11,readAt g5 h.nx 0 4=some (v46 x6 x7 s8 a9 n10 c11)∧
 Q (.tuple #[.agg (w46 x6 x7 s8 a9 n10 c11),.int .i64 3]) g5))
 (vcond (ltI 8 x2)
 (vreq (canW g3 h.nx 0 (v46 0 0 (ByteArray.mk #[]) none 0 0))
 (let g12:=g3.wr h.nx 0 (v46 0 0 (ByteArray.mk #[]) none 0 0)
 ∃x13 x14 s15 a16 n17 c18,readAt g12 h.nx 0 4=some (v46 x13 x14 s15 a16 n17 c18)∧
 Q (.tuple #[.agg (w46 x13 x14 s15 a16 n17 c18),.int .i64 3]) g12))
 (vcond (!(eqI (Int.tmod x1 2) 0))
 (vreq (canW g3 h.nx 0 [.int .i64 1,(.int .i64 (wrapF .i64 (Int.tdiv (wrapF .i64 (x1-1)) 2))),.string (ByteArray.mk #[]),.slice none 0 0])
 (let g19:=g3.wr h.nx 0 [.int .i64 1,(.int .i64 (wrapF .i64 (Int.tdiv (wrapF .i64 (x1-1)) 2))),.string (ByteArray.mk #[]),.slice none 0 0]
 ∃x20 x21 s22 a23 n24 c25,readAt g19 h.nx 0 4=some (v46 x20 x21 s22 a23 n24 c25)∧
 Q (.tuple #[.agg (w46 x20 x21 s22 a23 n24 c25),.int .i64 0]) g19))
 (vcond (eqI x1 0)
 (vreq (canW g3 h.nx 0 (v46 0 0 (ByteArray.mk #[]) none 0 0))
 (let g26:=g3.wr h.nx 0 (v46 0 0 (ByteArray.mk #[]) none 0 0)
 ∃x27 x28 s29 a30 n31 c32,readAt g26 h.nx 0 4=some (v46 x27 x28 s29 a30 n31 c32)∧
 Q (.tuple #[.agg (w46 x27 x28 s29 a30 n31 c32),.int .i64 7]) g26))
 (∃a33 n34 c35,readAt g3 b0 ((f0+0)+0) 1=some [.slice a33 n34 c35]∧
 isNat (wrapF .i64 (Int.tdiv x1 2)) fun n36=>
 isAddr a33 fun b37 f38=>
 vreq (Nat.blt n36 n34)
 (∃x39,readAt g3 b37 (f38+(n36*1)) 1=some [.int .i64 x39]∧
 ∃x40 x41 h42,EvC Tryz.prog O 86 [.int .i64 x39] g3 (.agg #[.int .i64 x40,.int .i64 x41]) h42∧
 let g43:=h42.add (.cells [.int .i64 0,.int .i64 0] 117 .fix)
 vreq (canW g43 h42.nx 0 [.int .i64 x40,.int .i64 x41])
 (let g44:=g43.wr h42.nx 0 [.int .i64 x40,.int .i64 x41]
 let g45:=g44.rsv 16
 ∃a46 n47 c48,readAt g45 b0 ((f0+0)+0) 1=some [.slice a46 n47 c48]∧
 ∃x49,readAt g45 h42.nx 0 1=some [.int .i64 x49]∧
 ∃a50 n51 c52,sliceV Tryz.prog g45 22 (.slice a46 n47 c48) (some (.int .i64 (wrapF .i64 ((wrapF .i64 (Int.tdiv x1 2))+1)))) (some (.int .i64 (wrapF .i64 ((wrapF .i64 ((wrapF .i64 (Int.tdiv x1 2))+1))+x49)))) none=some (.slice a50 n51 c52)∧
 ∃x53,readAt g45 h42.nx 1 1=some [.int .i64 x53]∧
 vcond (eqI x53 4)
 (isAddr a50 fun b54 f55=>
 vreq (Nat.blt 0 n51)
 (∃x56,readAt g45 b54 (f55+0) 1=some [.int .i64 x56]∧
 vreq (canW g45 h.nx 0 (v46 2 x56 (ByteArray.mk #[]) none 0 0))
 (let g57:=g45.wr h.nx 0 (v46 2 x56 (ByteArray.mk #[]) none 0 0)
 ∃x58 x59 s60 a61 n62 c63,readAt g57 h.nx 0 4=some (v46 x58 x59 s60 a61 n62 c63)∧
 Q (.tuple #[.agg (w46 x58 x59 s60 a61 n62 c63),.int .i64 0]) g57)))
 (vcond (eqI x53 3)
 (I101_0 O Q b0 f0 x1 x2 h.nx 0 none 0 0 a50 n51 c52 (Int.ofNat n51) 0 g45)
 (vcond (eqI x53 1)
 (∃x64,readAt g45 h42.nx 0 1=some [.int .i64 x64]∧
 vcond (ltI x64 2)
 (vreq (canW g45 h.nx 0 (v46 0 0 (ByteArray.mk #[]) none 0 0))
 (let g65:=g45.wr h.nx 0 (v46 0 0 (ByteArray.mk #[]) none 0 0)
 ∃x66 x67 s68 a69 n70 c71,readAt g65 h.nx 0 4=some (v46 x66 x67 s68 a69 n70 c71)∧
 Q (.tuple #[.agg (w46 x66 x67 s68 a69 n70 c71),.int .i64 7]) g65))
 (∃x72,readAt g45 h42.nx 0 1=some [.int .i64 x72]∧
 vcond (ltI 6 x72)
 (vreq (canW g45 h.nx 0 (v46 0 0 (ByteArray.mk #[]) none 0 0))
 (let g73:=g45.wr h.nx 0 (v46 0 0 (ByteArray.mk #[]) none 0 0)
 ∃x74 x75 s76 a77 n78 c79,readAt g73 h.nx 0 4=some (v46 x74 x75 s76 a77 n78 c79)∧
 Q (.tuple #[.agg (w46 x74 x75 s76 a77 n78 c79),.int .i64 7]) g73))
 (∃x80 x81 s82 a83 n84 c85 x86 h87,EvC Tryz.prog O 135 [.pointer (some ⟨b0,f0,none⟩),.int .i64 4,.slice a50 n51 c52,.int .i64 x2] g45 (.tuple #[.agg (w46 x80 x81 s82 a83 n84 c85),.int .i64 x86]) h87∧
 vreq (canW h87 h.nx 0 (v46 x80 x81 s82 a83 n84 c85))
 (let g88:=h87.wr h.nx 0 (v46 x80 x81 s82 a83 n84 c85)
 ∃x89 x90 s91 a92 n93 c94,readAt g88 h.nx 0 4=some (v46 x89 x90 s91 a92 n93 c94)∧
 Q (.tuple #[.agg (w46 x89 x90 s91 a92 n93 c94),.int .i64 x86]) g88))))
 (vcond (eqI x53 2)
 (∃x95 x96 s97 a98 n99 c100 x101 h102,EvC Tryz.prog O 135 [.pointer (some ⟨b0,f0,none⟩),.int .i64 5,.slice a50 n51 c52,.int .i64 x2] g45 (.tuple #[.agg (w46 x95 x96 s97 a98 n99 c100),.int .i64 x101]) h102∧
 vreq (canW h102 h.nx 0 (v46 x95 x96 s97 a98 n99 c100))
 (let g103:=h102.wr h.nx 0 (v46 x95 x96 s97 a98 n99 c100)
 ∃x104 x105 s106 a107 n108 c109,readAt g103 h.nx 0 4=some (v46 x104 x105 s106 a107 n108 c109)∧
 Q (.tuple #[.agg (w46 x104 x105 s106 a107 n108 c109),.int .i64 x101]) g103))
 (vreq (canW g45 h.nx 0 (v46 0 0 (ByteArray.mk #[]) none 0 0))
 (let g110:=g45.wr h.nx 0 (v46 0 0 (ByteArray.mk #[]) none 0 0)
 ∃x111 x112 s113 a114 n115 c116,readAt g110 h.nx 0 4=some (v46 x111 x112 s113 a114 n115 c116)∧
 Q (.tuple #[.agg (w46 x111 x112 s113 a114 n115 c116),.int .i64 7]) g110))))))))))))
theorem rk101 {O Q} (b0 f0 x1 x2){h:Hp}(hO:O 101 [.pointer (some ⟨b0,f0,none⟩),.int .i64 x1,.int .i64 x2] h=none)(hh:T101 O Q b0 f0 x1 x2 h):Ret Tryz.prog O 101 [.pointer (some ⟨b0,f0,none⟩),.int .i64 x1,.int .i64 x2] h Q:=
 .of (c:=b101) Tryz.func101 (by kernel_rfl) hO (V_okE (tb:=lv101) (cuts:=[]) 500 hh (by kernel_rfl))
def T101_0 (O:CallF)(Q:VQ)(b0 f0:Nat)(x1 x2:Int)(b6 f6:Nat)(a10:OA)(n10 c10:Nat)(a75:OA)(n75 c75:Nat)(x76 x77:Int)(h:Hp):Prop:=
 vcond (ltI x77 x76)
 (isNat x77 fun n101=>
 isAddr a75 fun b102 f103=>
 vreq (Nat.blt n101 n75)
 (∃x104,readAt h b102 (f103+(n101*1)) 1=some [.int .i64 x104]∧
 let g105:=h.add (.cells [.int .u8 (wrapF .u8 x104)] 5 .fix)
 ∃a106 n107 c108 h109,appendV Tryz.prog g105 85 85 (.slice a10 n10 c10) (.slice (some ⟨h.nx,0,none⟩) 1 1)=some (.slice a106 n107 c108,h109)∧
 I101_0 O Q b0 f0 x1 x2 b6 f6 a106 n107 c108 a75 n75 c75 x76 (wrapF .i64 (x77+1)) h109))
 (∃l110,bytesV h a10 n10=some l110∧
 vreq (canW h b6 f6 (v46 3 0 (ByteArray.mk (List.toArray l110)) none 0 0))
 (let g111:=h.wr b6 f6 (v46 3 0 (ByteArray.mk (List.toArray l110)) none 0 0)
 ∃x112 x113 s114 a115 n116 c117,readAt g111 b6 f6 4=some (v46 x112 x113 s114 a115 n116 c117)∧
 Q (.tuple #[.agg (w46 x112 x113 s114 a115 n116 c117),.int .i64 0]) g111))
theorem I101_0.of {O Q} (b0 f0 x1 x2 b6 f6 a10 n10 c10 a75 n75 c75 x76 x77){h:Hp}(hh:T101_0 O Q b0 f0 x1 x2 b6 f6 a10 n10 c10 a75 n75 c75 x76 x77 h):I101_0 O Q b0 f0 x1 x2 b6 f6 a10 n10 c10 a75 n75 c75 x76 x77 h:=
 RKL.ofE (tb:=lv101) (cuts:=[]) 500 hh fun _=>by kernel_rfl
noncomputable def b135:Code:=(Tryz.f135.body).getD .skip
noncomputable def stk135_0:List KI:=[.code (sub [1,1,0,1,0] b135),.blk 0,.code (sub [1,1,1] b135)]
noncomputable def stk135_1:List KI:=[.code (sub [1,1,1,0,1,0] b135),.blk 2,.code (sub [1,1,1,1] b135)]
def lv135:List (Nat×List Nat):=[(0,[0,1,3,8,9,10,20,21,22]),(2,[1,8,9,10,47,48])]
def I135_0 (O:CallF)(Q:VQ)(b0 f0:Nat)(x1:Int)(a2:OA)(n2 c2:Nat)(x3:Int)(b8 f8:Nat)(x9:Int)(b10 f10:Nat)(x22:Int)(h:Hp):Prop:=RKL Tryz.prog O Tryz.f135 stk135_0 81 [0,1,3,8,9,10,20,21,22] [.pointer (some ⟨b0,f0,none⟩),.int .i64 x1,.int .i64 x3,.pointer (some ⟨b8,f8,none⟩),.int .i64 x9,.pointer (some ⟨b10,f10,none⟩),.slice a2 n2 c2,.int .i64 (Int.ofNat n2),.int .i64 x22] h Q
def I135_1 (O:CallF)(Q:VQ)(b0 f0:Nat)(x1:Int)(a2:OA)(n2 c2:Nat)(x3:Int)(b8 f8:Nat)(x9:Int)(b10 f10:Nat)(x47 x48:Int)(h:Hp):Prop:=RKL Tryz.prog O Tryz.f135 stk135_1 81 [1,8,9,10,47,48] [.int .i64 x1,.pointer (some ⟨b8,f8,none⟩),.int .i64 x9,.pointer (some ⟨b10,f10,none⟩),.int .i64 x47,.int .i64 x48] h Q
def T135 (O:CallF)(Q:VQ)(b0 f0:Nat)(x1:Int)(a2:OA)(n2 c2:Nat)(x3:Int)(h:Hp):Prop:=
 let g1:=h.add (.cells (v46 0 0 (ByteArray.mk #[]) none 0 0) 46 .fix)
 let g2:=g1.add (.cells (v46 0 0 (ByteArray.mk #[]) none 0 0) 46 .fix)
 vreq (canW g2 g1.nx 0 (v46 x1 0 (ByteArray.mk #[]) none 0 0))
 (let g3:=g2.wr g1.nx 0 (v46 x1 0 (ByteArray.mk #[]) none 0 0)
 I135_0 O Q b0 f0 x1 a2 n2 c2 x3 h.nx 0 0 g1.nx 0 0 g3)
theorem rk135 {O Q} (b0 f0 x1 a2 n2 c2 x3){h:Hp}(hO:O 135 [.pointer (some ⟨b0,f0,none⟩),.int .i64 x1,.slice a2 n2 c2,.int .i64 x3] h=none)(hh:T135 O Q b0 f0 x1 a2 n2 c2 x3 h):Ret Tryz.prog O 135 [.pointer (some ⟨b0,f0,none⟩),.int .i64 x1,.slice a2 n2 c2,.int .i64 x3] h Q:=
 .of (c:=b135) Tryz.func135 (by kernel_rfl) hO (V_okE (tb:=lv135) (cuts:=[]) 500 hh (by kernel_rfl))
def T135_0 (O:CallF)(Q:VQ)(b0 f0:Nat)(x1:Int)(a2:OA)(n2 c2:Nat)(x3:Int)(b8 f8:Nat)(x9:Int)(b10 f10:Nat)(x22:Int)(h:Hp):Prop:=
 vcond (ltI x22 (Int.ofNat n2))
 (isNat x22 fun n101=>
 isAddr a2 fun b102 f103=>
 vreq (Nat.blt n101 n2)
 (∃x104,readAt h b102 (f103+(n101*1)) 1=some [.int .i64 x104]∧
 ∃x105 x106 s107 a108 n109 c110 x111 h112,EvC Tryz.prog O 101 [.pointer (some ⟨b0,f0,none⟩),.int .i64 x104,.int .i64 (wrapF .i64 (x3+1))] h (.tuple #[.agg (w46 x105 x106 s107 a108 n109 c110),.int .i64 x111]) h112∧
 let g113:=h112.add (.cells (v46 0 0 (ByteArray.mk #[]) none 0 0) 46 .fix)
 vreq (canW g113 h112.nx 0 (v46 x105 x106 s107 a108 n109 c110))
 (let g114:=g113.wr h112.nx 0 (v46 x105 x106 s107 a108 n109 c110)
 vcond (!(eqI x111 0))
 (vreq (canW g114 b8 f8 (v46 0 0 (ByteArray.mk #[]) none 0 0))
 (let g115:=g114.wr b8 f8 (v46 0 0 (ByteArray.mk #[]) none 0 0)
 ∃x116 x117 s118 a119 n120 c121,readAt g115 b8 f8 4=some (v46 x116 x117 s118 a119 n120 c121)∧
 Q (.tuple #[.agg (w46 x116 x117 s118 a119 n120 c121),.int .i64 x111]) g115))
 (∃a122 n123 c124,readAt g114 b10 (f10+3) 1=some [.slice a122 n123 c124]∧
 ∃x125 x126 s127 a128 n129 c130,readAt g114 h112.nx 0 4=some (v46 x125 x126 s127 a128 n129 c130)∧
 let g131:=g114.add (.cells (v46 x125 x126 s127 a128 n129 c130) 46 .fix)
 ∃a132 n133 c134 h135,appendV Tryz.prog g131 44 44 (.slice a122 n123 c124) (.slice (some ⟨g114.nx,0,none⟩) 1 1)=some (.slice a132 n133 c134,h135)∧
 vreq (canW h135 b10 (f10+3) [.slice a132 n133 c134])
 (let g136:=h135.wr b10 (f10+3) [.slice a132 n133 c134]
 I135_0 O Q b0 f0 x1 a2 n2 c2 x3 b8 f8 x9 b10 f10 (wrapF .i64 (x22+1)) g136)))))
 (∃a137 n138 c139,readAt h b10 (f10+3) 1=some [.slice a137 n138 c139]∧
 I135_1 O Q b0 f0 x1 a2 n2 c2 x3 b8 f8 x9 b10 f10 (Int.ofNat n138) 0 h)
theorem I135_0.of {O Q} (b0 f0 x1 a2 n2 c2 x3 b8 f8 x9 b10 f10 x22){h:Hp}(hh:T135_0 O Q b0 f0 x1 a2 n2 c2 x3 b8 f8 x9 b10 f10 x22 h):I135_0 O Q b0 f0 x1 a2 n2 c2 x3 b8 f8 x9 b10 f10 x22 h:=
 RKL.ofE (tb:=lv135) (cuts:=[]) 500 hh fun _=>by kernel_rfl
def T135_1 (O:CallF)(Q:VQ)(b0 f0:Nat)(x1:Int)(a2:OA)(n2 c2:Nat)(x3:Int)(b8 f8:Nat)(x9:Int)(b10 f10:Nat)(x47 x48:Int)(h:Hp):Prop:=
 vcond (ltI x48 x47)
 (vcond (eqI x1 4)
 (I135_1 O Q b0 f0 x1 a2 n2 c2 x3 b8 f8 x9 b10 f10 x47 (wrapF .i64 (x48+1)) h)
 (vcond (eqI x48 0)
 (I135_1 O Q b0 f0 x1 a2 n2 c2 x3 b8 f8 x9 b10 f10 x47 (wrapF .i64 (x48+1)) h)
 (let g201:=h.rsv 17
 ∃a202 n203 c204,readAt g201 b10 (f10+3) 1=some [.slice a202 n203 c204]∧
 isNat (wrapF .i64 (x48-1)) fun n205=>
 isAddr a202 fun b206 f207=>
 vreq (Nat.blt n205 n203)
 (∃x208 x209 s210 a211 n212 c213,readAt g201 b206 (f207+(n205*4)) 4=some (v46 x208 x209 s210 a211 n212 c213)∧
 ∃a214 n215 c216,readAt g201 b10 (f10+3) 1=some [.slice a214 n215 c216]∧
 isNat x48 fun n217=>
 isAddr a214 fun b218 f219=>
 vreq (Nat.blt n217 n215)
 (∃x220 x221 s222 a223 n224 c225,readAt g201 b218 (f219+(n217*4)) 4=some (v46 x220 x221 s222 a223 n224 c225)∧
 ∃x226 x227 h228,EvC Tryz.prog O 148 [.agg (w46 x208 x209 s210 a211 n212 c213),.agg (w46 x220 x221 s222 a223 n224 c225)] (g201.grd []) (.tuple #[.int .i64 x226,.int .i64 x227]) h228∧
 let g229:=h228.rst g201
 vcond (!(eqI x227 0))
 (vreq (canW g229 b8 f8 (v46 0 0 (ByteArray.mk #[]) none 0 0))
 (let g230:=g229.wr b8 f8 (v46 0 0 (ByteArray.mk #[]) none 0 0)
 ∃x231 x232 s233 a234 n235 c236,readAt g230 b8 f8 4=some (v46 x231 x232 s233 a234 n235 c236)∧
 Q (.tuple #[.agg (w46 x231 x232 s233 a234 n235 c236),.int .i64 7]) g230))
 (vcond (!(ltI x226 0))
 (vreq (canW g229 b8 f8 (v46 0 0 (ByteArray.mk #[]) none 0 0))
 (let g237:=g229.wr b8 f8 (v46 0 0 (ByteArray.mk #[]) none 0 0)
 ∃x238 x239 s240 a241 n242 c243,readAt g237 b8 f8 4=some (v46 x238 x239 s240 a241 n242 c243)∧
 Q (.tuple #[.agg (w46 x238 x239 s240 a241 n242 c243),.int .i64 7]) g237))
 (I135_1 O Q b0 f0 x1 a2 n2 c2 x3 b8 f8 x9 b10 f10 x47 (wrapF .i64 (x48+1)) g229)))))))
 (∃x244 x245 s246 a247 n248 c249,readAt h b10 f10 4=some (v46 x244 x245 s246 a247 n248 c249)∧
 vreq (canW h b8 f8 (v46 x244 x245 s246 a247 n248 c249))
 (let g250:=h.wr b8 f8 (v46 x244 x245 s246 a247 n248 c249)
 ∃x251 x252 s253 a254 n255 c256,readAt g250 b8 f8 4=some (v46 x251 x252 s253 a254 n255 c256)∧
 Q (.tuple #[.agg (w46 x251 x252 s253 a254 n255 c256),.int .i64 0]) g250))
theorem I135_1.of {O Q} (b0 f0 x1 a2 n2 c2 x3 b8 f8 x9 b10 f10 x47 x48){h:Hp}(hh:T135_1 O Q b0 f0 x1 a2 n2 c2 x3 b8 f8 x9 b10 f10 x47 x48 h):I135_1 O Q b0 f0 x1 a2 n2 c2 x3 b8 f8 x9 b10 f10 x47 x48 h:=
 RKL.ofE (tb:=lv135) (cuts:=[]) 500 hh fun _=>by kernel_rfl
noncomputable def b33:Code:=(Tryz.f33.body).getD .skip
def lv33:List (Nat×List Nat):=[]
def T33 (O:CallF)(Q:VQ)(a0_0:OA)(n0_0 c0_0:Nat)(x0_1:Int)(a0_2:OA)(n0_2 c0_2:Nat)(x1:Int)(h:Hp):Prop:=
 let g1:=h.add (.cells (v24 a0_0 n0_0 c0_0 x0_1 a0_2 n0_2 c0_2) 24 .fix)
 let g2:=g1.add (.cells (v46 0 0 (ByteArray.mk #[]) none 0 0) 46 .fix)
 ∃a3 n4 c5 x6 a7 n8 c9,readAt g2 h.nx 0 3=some (v24 a3 n4 c5 x6 a7 n8 c9)∧
 ∃a10 n11 c12 x13 h14,EvC Tryz.prog O 65 [.agg (w24 a3 n4 c5 x6 a7 n8 c9)] g2 (.tuple #[.slice a10 n11 c12,.int .i64 x13]) h14∧
 vcond (eqI x13 0)
 (∃q15 h16,EvC Tryz.prog O 100 [.slice a10 n11 c12,.int .i64 x1] h14 (.bool q15) h16∧
 vcond (!q15)
 (vreq (canW h16 g1.nx 0 (v46 0 0 (ByteArray.mk #[]) none 0 0))
 (let g17:=h16.wr g1.nx 0 (v46 0 0 (ByteArray.mk #[]) none 0 0)
 ∃x18 x19 s20 a21 n22 c23,readAt g17 g1.nx 0 4=some (v46 x18 x19 s20 a21 n22 c23)∧
 Q (.tuple #[.agg (w46 x18 x19 s20 a21 n22 c23),.int .i64 2]) g17))
 (vcond (!(eqI x13 0))
 (vreq (canW h16 g1.nx 0 (v46 0 0 (ByteArray.mk #[]) none 0 0))
 (let g24:=h16.wr g1.nx 0 (v46 0 0 (ByteArray.mk #[]) none 0 0)
 ∃x25 x26 s27 a28 n29 c30,readAt g24 g1.nx 0 4=some (v46 x25 x26 s27 a28 n29 c30)∧
 Q (.tuple #[.agg (w46 x25 x26 s27 a28 n29 c30),.int .i64 x13]) g24))
 (∃a31 n32 c33 x34 a35 n36 c37,readAt h16 h.nx 0 3=some (v24 a31 n32 c33 x34 a35 n36 c37)∧
 let g38:=h16.add (.cells [.slice a31 n32 c33,.int .i64 x34,.slice a35 n36 c37,.int .i64 200] 141 .fix)
 ∃x39 x40 s41 a42 n43 c44 x45 h46,EvC Tryz.prog O 101 [.pointer (some ⟨h16.nx,0,none⟩),.int .i64 x1,.int .i64 1] g38 (.tuple #[.agg (w46 x39 x40 s41 a42 n43 c44),.int .i64 x45]) h46∧
 vreq (canW h46 g1.nx 0 (v46 x39 x40 s41 a42 n43 c44))
 (let g47:=h46.wr g1.nx 0 (v46 x39 x40 s41 a42 n43 c44)
 ∃x48 x49 s50 a51 n52 c53,readAt g47 g1.nx 0 4=some (v46 x48 x49 s50 a51 n52 c53)∧
 Q (.tuple #[.agg (w46 x48 x49 s50 a51 n52 c53),.int .i64 x45]) g47))))
 (vcond (!(eqI x13 0))
 (vreq (canW h14 g1.nx 0 (v46 0 0 (ByteArray.mk #[]) none 0 0))
 (let g54:=h14.wr g1.nx 0 (v46 0 0 (ByteArray.mk #[]) none 0 0)
 ∃x55 x56 s57 a58 n59 c60,readAt g54 g1.nx 0 4=some (v46 x55 x56 s57 a58 n59 c60)∧
 Q (.tuple #[.agg (w46 x55 x56 s57 a58 n59 c60),.int .i64 x13]) g54))
 (∃a61 n62 c63 x64 a65 n66 c67,readAt h14 h.nx 0 3=some (v24 a61 n62 c63 x64 a65 n66 c67)∧
 let g68:=h14.add (.cells [.slice a61 n62 c63,.int .i64 x64,.slice a65 n66 c67,.int .i64 200] 141 .fix)
 ∃x69 x70 s71 a72 n73 c74 x75 h76,EvC Tryz.prog O 101 [.pointer (some ⟨h14.nx,0,none⟩),.int .i64 x1,.int .i64 1] g68 (.tuple #[.agg (w46 x69 x70 s71 a72 n73 c74),.int .i64 x75]) h76∧
 vreq (canW h76 g1.nx 0 (v46 x69 x70 s71 a72 n73 c74))
 (let g77:=h76.wr g1.nx 0 (v46 x69 x70 s71 a72 n73 c74)
 ∃x78 x79 s80 a81 n82 c83,readAt g77 g1.nx 0 4=some (v46 x78 x79 s80 a81 n82 c83)∧
 Q (.tuple #[.agg (w46 x78 x79 s80 a81 n82 c83),.int .i64 x75]) g77)))
theorem rk33 {O Q} (a0_0 n0_0 c0_0 x0_1 a0_2 n0_2 c0_2 x1){h:Hp}(hO:O 33 [.agg (w24 a0_0 n0_0 c0_0 x0_1 a0_2 n0_2 c0_2),.int .i64 x1] h=none)(hh:T33 O Q a0_0 n0_0 c0_0 x0_1 a0_2 n0_2 c0_2 x1 h):Ret Tryz.prog O 33 [.agg (w24 a0_0 n0_0 c0_0 x0_1 a0_2 n0_2 c0_2),.int .i64 x1] h Q:=
 .of (c:=b33) Tryz.func33 (by kernel_rfl) hO (V_okE (tb:=lv33) (cuts:=[]) 500 hh (by kernel_rfl))
noncomputable def b44:Code:=(Tryz.f44.body).getD .skip
def lv44:List (Nat×List Nat):=[]
def T44 (O:CallF)(Q:VQ)(x0_0 x0_1:Int)(s0_2:ByteArray)(a0_3:OA)(n0_3 c0_3:Nat)(h:Hp):Prop:=
 let g1:=h.add (.cells (v46 x0_0 x0_1 s0_2 a0_3 n0_3 c0_3) 46 .fix)
 ∃x2 x3 s4 a5 n6 c7,readAt g1 h.nx 0 4=some (v46 x2 x3 s4 a5 n6 c7)∧
 ∃x8 h9,EvC Tryz.prog O 92 [.agg (w46 x2 x3 s4 a5 n6 c7),.int .i64 200,.int .i64 8] g1 (.int .i64 x8) h9∧
 vcond (!(ltI x8 0))
 (∃x10 x11 s12 a13 n14 c15,readAt h9 h.nx 0 4=some (v46 x10 x11 s12 a13 n14 c15)∧
 ∃q16 h17,EvC Tryz.prog O 107 [.agg (w46 x10 x11 s12 a13 n14 c15)] h9 (.bool q16) h17∧
 Q (.bool q16) h17)
 (Q (.bool false) h9)
theorem rk44 {O Q} (x0_0 x0_1 s0_2 a0_3 n0_3 c0_3){h:Hp}(hO:O 44 [.agg (w46 x0_0 x0_1 s0_2 a0_3 n0_3 c0_3)] h=none)(hh:T44 O Q x0_0 x0_1 s0_2 a0_3 n0_3 c0_3 h):Ret Tryz.prog O 44 [.agg (w46 x0_0 x0_1 s0_2 a0_3 n0_3 c0_3)] h Q:=
 .of (c:=b44) Tryz.func44 (by kernel_rfl) hO (V_okE (tb:=lv44) (cuts:=[]) 500 hh (by kernel_rfl))
end Go.Proofs.YtngcjpkccnfjiaaGreatDoor
namespace Go.Proofs.YtngcjpkccnfjiaaGreatDoor
open Go Go.Ev
def validF (v:Vl):Bool:=fitsF v&&shapedF v
mutual
def needF:Vl→Nat
 | .mk k _ t ps=>if k=1 then 0 else if k=2 then 2 else 1+t.size+ps.length+needL ps
def needL:List Vl→Nat
 | []=>0
 |v::r=>needF v+needL r
end
theorem needF_mk (k n:Int)(t:ByteArray)(ps:List Vl):needF (.mk k n t ps)=if k=1 then 0 else if k=2 then 2 else 1+t.size+ps.length+needL ps:=by rw[needF]
mutual
def deepF:Vl→Bool
 | .mk _ _ _ ps=>deepL ps||ltI 20 (Int.ofNat ps.length)
def deepL:List Vl→Bool
 | []=>false
 |v::r=>deepF v||deepL r
end
theorem deepF_mk (k n:Int)(t:ByteArray)(ps:List Vl):deepF (.mk k n t ps)=(deepL ps||ltI 20 (Int.ofNat ps.length)):=by rw[deepF]
mutual
theorem need_le: ∀(v:Vl) (l d:Int),-1≤l→0≤weighF v l d→briefF v=true→(needF v:Int)+1≤33*(l-weighF v l d)
 | .mk k n t ps,l,d,h1,h,hb=>by
   have hb':=hb;simp only[briefF,Bool.and_eq_true]at hb';have ht:t.size≤30:=by
    have:=hb'.2;rw[Bool.not_eq_true',show(30:Int)=Int.ofNat 30 from rfl,ltI_nat]at this;have: ¬(30<t.size):=fun h=>by rw[blt_t h]at this;cases this
    omega
   simp only[weighF]at h ⊢;split at h
   · omega
   · rename_i hc;rw[if_neg hc,needF_mk];have:=needL_le ps (l-1) (d-1) (by omega) h hb'.1;have:=(weighL_le ps (l-1) (d-1) (by omega)).2;split
     · omega
     · split<;>omega
theorem needL_le: ∀(ps:List Vl) (l d:Int),-1≤l→0≤weighL ps l d→briefL ps=true→(needL ps:Int)+ps.length≤33*(l-weighL ps l d)
 | [],l,d,h1,h,hb=>by simp only[weighL,needL,List.length_nil];omega
 |v::r,l,d,h1,h,hb=>by
  simp only[briefL,Bool.and_eq_true]at hb;simp only[weighL]at h ⊢;split at h
  · omega
  · rename_i hc;rw[if_neg hc];have a:=weighF_le v l d h1;have b:=weighL_le r (weighF v l d) d a.1;have:=need_le v l d h1 (by omega) hb.1;have:=needL_le r (weighF v l d) d a.1 h hb.2;simp only[needL,List.length_cons];omega
end
theorem Nice.need {v:Vl}(N:Nice v):needF v<40000000:=by
 obtain⟨⟨l,d,h1,h2,h3⟩,hb⟩:=N;have:=need_le v l d h1 h3 hb;omega
theorem Nice.needL {k n:Int}{t:ByteArray}{ps:List Vl}(N:Nice (.mk k n t ps)):needL ps+ps.length<40000000:=by
 obtain⟨⟨l,d,h1,h2,h3⟩,hb⟩:=N;simp only[briefF,Bool.and_eq_true]at hb;simp only[weighF]at h3;split at h3
 · omega
 · have:=needL_le ps (l-1) (d-1) (by omega) h3 hb.1;omega
theorem needL_drop: ∀(ps:List Vl) (i:Nat) (hi:i<ps.length),needL (ps.drop i)=needF ps[i]+needL (ps.drop (i+1)):=by
 intro ps i hi;rw[List.drop_eq_getElem_cons hi,needL]
section
variable {O:CallF}(hO:Oth O)
include hO
theorem ct134 {h:Hp}(v:Vl){vs:List Value}(V:VA h v vs)(N:Nice v){g:Hp}(F:Ft h g)(ok:g.Ok):Ret Tryz.prog O 134 [.agg vs.toArray] g fun r g'=>r= .bool (validF v)∧Kp g.nx g g':=by
 have c1:=fun g6 f6 ok6=>ct146 hO v V (g:=g6) f6 ok6;have c2:=fun g6 f6 ok6=>ct147 hO v V N (g:=g6) f6 ok6;obtain⟨v1,v2,v3,v4,v5,v6,rfl⟩:=V.form;refine rk134 (hO:=hO _ _ _ (by decide)) (hh:= ?_) ..;unfold T134;intro g1;have S:Know g g1 [_]:=(Know.nil ok).add _;obtain⟨r,h9,e9,rfl,K9⟩:=c1 g1 (F.tr S.ft) S.ok;refine⟨_,_,_,_,_,_,S.rd 0 rfl rfl rfl,_,_,e9,?_⟩;have S:Know g h9 [_]:=S.call K9;unfold validF;cases hf:fitsF v with
 |false=>exact vcond_f rfl ⟨rfl,S.kp⟩
 |true=>
  obtain⟨r,h17,e17,rfl,K17⟩:=c2 h9 (F.tr S.ft) S.ok;exact vcond_t rfl ⟨_,_,_,_,_,_,S.rd 0 rfl rfl rfl,_,_,e17,by rw[Bool.true_and],(S.call K17).kp⟩
theorem ct94 {h:Hp}(v:Vl){vs:List Value}(V:VA h v vs)(N:Nice v){g:Hp}(F:Ft h g)(ok:g.Ok):Ret Tryz.prog O 94 [.agg vs.toArray] g fun r g'=>r= .int .i64 (bif validF v then 0 else 2)∧Kp g.nx g g':=by
 have c1:=fun g6 f6 ok6=>ct134 hO v V N (g:=g6) f6 ok6;obtain⟨v1,v2,v3,v4,v5,v6,rfl⟩:=V.form;refine rk94 (hO:=hO _ _ _ (by decide)) (hh:= ?_) ..;unfold T94;intro g1;have S:Know g g1 [_]:=(Know.nil ok).add _;obtain⟨r,h9,e9,rfl,K9⟩:=c1 g1 (F.tr S.ft) S.ok;refine⟨_,_,_,_,_,_,S.rd 0 rfl rfl rfl,_,_,e9,?_⟩;have S:Know g h9 [_]:=S.call K9;cases hf:validF v with
 |false=>exact vcond_t rfl ⟨rfl,S.kp⟩
 |true=>exact vcond_f rfl ⟨rfl,S.kp⟩
theorem ct148 {h:Hp}(v w:Vl){vs us:List Value}(V:VA h v vs)(U:VA h w us)(N:Nice v)(M:Nice w){g:Hp}(F:Ft h g)(ok:g.Ok):Ret Tryz.prog O 148 [.agg vs.toArray,.agg us.toArray] g fun r g'=>r=(bif validF v&&validF w then .tuple #[.int .i64 (cmpF v w),.int .i64 0]else .tuple #[.int .i64 0,.int .i64 2])∧Kp g.nx g g':=by
 have c1:=fun g6 f6 ok6=>ct134 hO v V N (g:=g6) f6 ok6;have c2:=fun g6 f6 ok6=>ct134 hO w U M (g:=g6) f6 ok6;have c3:=fun g6 f6 ok6=>ct160 hO v V N.1 U (g:=g6) f6 ok6;obtain⟨v1,v2,v3,v4,v5,v6,rfl⟩:=V.form;obtain⟨u1,u2,u3,u4,u5,u6,rfl⟩:=U.form;refine rk148 (hO:=hO _ _ _ (by decide)) (hh:= ?_) ..;unfold T148;intro g1;have S:Know g g1 [_]:=(Know.nil ok).add _;intro g2;have S:Know g g2 [_,_]:=S.add _;obtain⟨r,h10,e10,rfl,K10⟩:=c1 g2 (F.tr S.ft) S.ok;refine⟨_,_,_,_,_,_,S.rd 1 rfl rfl rfl,_,_,e10,?_⟩;have S:Know g h10 [_,_]:=S.call K10;cases hf:validF v with
 |false=>exact vcond_t rfl ⟨rfl,S.kp⟩
 |true=>
 obtain⟨r,h18,e18,rfl,K18⟩:=c2 h10 (F.tr S.ft) S.ok;refine vcond_f rfl ⟨_,_,_,_,_,_,S.rd 0 rfl rfl rfl,_,_,e18,?_⟩;have S:Know g h18 [_,_]:=S.call K18;cases hg:validF w with
 |false=>exact vcond_t rfl ⟨rfl,S.kp⟩
 |true=>
 obtain⟨r,h32,e32,rfl,K32⟩:=c3 h18 (F.tr S.ft) S.ok;unfold validF at hf hg;rw[Bool.and_eq_true]at hf hg;exact vcond_f rfl ⟨_,_,_,_,_,_,S.rd 1 rfl rfl rfl,_,_,_,_,_,_,S.rd 0 rfl rfl rfl,_,_,e32,by rw[cmp_same v hf.2 w hg.2];rfl,(S.call K32).kp⟩
theorem ct44 {h:Hp}(v:Vl){vs:List Value}(V:VA h v vs)(N:Nice v){g:Hp}(K:Kp h.nx h g)(ok:g.Ok):Ret Tryz.prog O 44 [.agg vs.toArray] g fun r g'=>r= .bool (validF v)∧Kp g.nx g g':=by
 have c1:=fun g6 k6 ok6=>ct92 hO V (g:=g6) k6 ok6 200 8 (by omega) (by omega) (by omega) (by omega);have c2:=fun g6 k6 ok6=>ct107 hO v V N (g:=g6) k6 ok6;obtain⟨v1,v2,v3,v4,v5,v6,rfl⟩:=V.form;refine rk44 (hO:=hO _ _ _ (by decide)) (hh:= ?_) ..;unfold T44;intro g1;have S:Know g g1 [_]:=(Know.nil ok).add _;obtain⟨r,h9,e9,rfl,K9⟩:=c1 g1 (K.trans (S.kp.le K.nx)) S.ok;refine⟨_,_,_,_,_,_,S.rd 0 rfl rfl rfl,_,_,e9,?_⟩;have S:Know g h9 [_]:=S.call K9;unfold validF fitsF;cases hf: !(ltI (weighF v 200 8) 0)with
 |false=>exact vcond_f rfl ⟨rfl,S.kp⟩
 |true=>
  obtain⟨r,h17,e17,rfl,K17⟩:=c2 h9 (K.trans (S.kp.le K.nx)) S.ok;exact vcond_t rfl ⟨_,_,_,_,_,_,S.rd 0 rfl rfl rfl,_,_,e17,by rw[Bool.true_and],(S.call K17).kp⟩
end
end Go.Proofs.YtngcjpkccnfjiaaGreatDoor
namespace Go.Proofs.YtngcjpkccnfjiaaGreatDoor
open Go Go.Ev
theorem putAt_map {α β:Type}(f:α→β){ts:List α}{k:Nat}{z:α}(hk:k<ts.length):putAt (ts.map f) k [f z]=(ts.set k z).map f:=by
 refine List.ext_getElem? fun i=> ?_;rw[putAt_get _ _ _ (by simp;omega)];simp only[List.length_cons,List.length_nil,List.getElem?_map,List.getElem?_set];by_cases hi:k=i
 · subst hi;simp[hk]
 · rw[if_neg (by omega),if_neg hi]
def cellsG (W:List Int)(top:Nat):Nat→Nat→Option (List Nat)
 |0,_=>none
 |f+1,p=>if p<top then (if W.getD p 0<0∨goodB (hdS (W.getD p 0)) (hdK (W.getD p 0))=false then none else (cellsG W top f (p+1+(hdS (W.getD p 0)).toNat)).map (p:: ·))else if p=top then some []else none
def setAll (B:List Bool)(l:List Nat):List Bool:=l.foldl (fun b i=>b.set i true) B
theorem setAll_length (l:List Nat): ∀(B:List Bool),(setAll B l).length=B.length:=by
 induction l with
 |nil=>intro B;rfl
 |cons x l ih=>intro B;show(setAll (B.set x true) l).length=_;rw[ih];simp
theorem hdS_bnd {w:Int}(_h0:0≤w)(hg:goodB (hdS w) (hdK w)=true):0≤hdS w∧hdS w≤20:=by
 unfold goodB at hg;split at hg
 · have:hdS w=1:=by simpa using hg
   omega
 · simp only[Bool.and_eq_true,decide_eq_true_eq]at hg;omega
section
variable {O:CallF}(hO:Oth O)
include hO
theorem lp124 {g:Hp}{aw:Option Addr}{nw cw:Nat}{W:List Int}{top:Nat}(HW:IntsAt g aw nw W)(hR: ∀x∈W,In64 x)(htop:top≤W.length)(hl:W.length<1000000)(tb:Tb g){b1 o:Nat}(_hb1:g.nx≤b1)(ho:g.nx≤o)(hbo:b1≠o){rw1:Value}{c4:Nat}{B0:List Bool}(hB0:B0.length=W.length)
 {Q:Value→Hp→Prop} (a0:Option Addr) (n0 c0:Nat) (x0:Int) (a2:Option Addr) (n2 c2:Nat) (ax:Option Addr) (nx cx:Nat) (q3:Bool):
 ∀(f p:Nat) (B:List Bool) (h:Hp),1≤f→top<p+f→1≤p→p≤top+21→B.length=W.length→h.Ok→GdLt h g.nx→Kp g.nx g h→b1<h.nx→o<h.nx→h.get b1=some (.cells [.slice aw nw cw,.int .i64 (Int.ofNat top),rw1] 24 .fix)→h.get o=some (.cells (B.map Value.bool) 4 .fix)→
 (cellsG W top f p=none→ ∀a n c h',Kp g.nx g h'→Q (.tuple #[.slice a n c,.bool false]) h')→
 (∀l h',cellsG W top f p=some l→Kp g.nx g h'→o<h'.nx→h'.get o=some (.cells ((setAll B l).map Value.bool) 4 .fix)→Q (.tuple #[.slice (some ⟨o,0,none⟩) B0.length c4,.bool true]) h')→
 I124_0 O Q a0 n0 c0 x0 a2 n2 c2 b1 0 ax nx cx q3 (some ⟨o,0,none⟩) B0.length c4 (Int.ofNat p) h:=by
 intro f
 induction f with
 |zero=>intro p B h h1;omega
 |succ f ih=>
  intro p B h _ hf hp1 hp2 hBl ok gd kp hb1n hon gb go Qf Qt;refine I124_0.of _ _ _ _ _ _ _ _ _ _ _ _ _ _ _ _ _ ?_;unfold T124_0;refine⟨_,read1 (i:=1) gb rfl,vcond_split (fun h1=> ?_) fun h1=> ?_⟩
  · have hpt:p<top:=by rw[ltI_nat]at h1;exact lt_of_blt h1
    have hpW:p<W.length:=by omega
    have x64:In64 W[p]:=hR _ (List.getElem_mem hpW);have gW:W.getD p 0=W[p]:=by simp[List.getD,List.getElem?_eq_getElem hpW]
    haveI f1:Ft g h:=kp.ex (Nat.le_refl _);refine⟨_,_,_,read1 (i:=0) gb rfl,isNat_i (HW.rd hpW (ct86 hO ok x64 fun h2 k2=> ?_))⟩;intro g3;have ok2:=ok.kp k2;have gd2:=gd.kp k2;have kp2:Kp g.nx g h2:=kp.trans (k2.le kp.nx);have gb2:h2.get b1=_:=(k2.get b1 hb1n).trans gb;have go2:h2.get o=_:=(k2.get o hon).trans go;have n2:=k2.nx;obtain⟨c1,w1⟩:=two_wr ok2 117 (.int .i64 0) (.int .i64 0) (.int .i64 (hdS W[p])) (.int .i64 (hdK W[p])) rfl;refine vreq_t c1 ?_;intro g4;have k4:Kp h2.nx h2 g4:=((Kp.refl _ h2).add (Nat.le_refl _) _).wr (Nat.le_refl _) _ _;have n4:g4.nx=h2.nx+1:=by show(Hp.wr _ _ _ _).nx=_;rw[nx_wr,nx_add]
    have kp4:Kp g.nx g g4:=kp2.trans (k4.le kp2.nx);have gb4:g4.get b1=_:=(k4.get b1 (by omega)).trans gb2;have go4:g4.get o=_:=(k4.get o (by omega)).trans go2;haveI f4:Ft g g4:=kp4.ex (Nat.le_refl _);refine⟨_,_,_,read1 (i:=0) gb4 rfl,isNat_i (HW.rd hpW (vcond_split (fun h3=> ?_) fun h3=> ?_))⟩
    · have h3:=lt_of_t h3;exact Qf (by unfold cellsG;rw[if_pos hpt,gW,if_pos (.inl h3)]) _ _ _ _ kp4
    · have h3:=not_lt_of_f h3;refine⟨_,_,by rw[readAt_get w1 (by simp)];rfl,ct75 hO (tb.kp kp4 (by have:=tb.1;omega)) fun h5 k5=> ?_⟩;have kp5:Kp g.nx g h5:=kp4.trans (k5.le (by have:=kp4.nx;omega));refine vcond_split (fun h6=>Qf (by unfold cellsG;rw[if_pos hpt,gW,if_pos (.inr (by simpa using h6))]) _ _ _ _ kp5) fun h6=> ?_;have hgood:goodB (hdS W[p]) (hdK W[p])=true:=by simpa using h6
      have gb5:h5.get b1=_:=(k5.get b1 (by omega)).trans gb4;have go5:h5.get o=_:=(k5.get o (by omega)).trans go4;have gd5:GdLt h5 g.nx:=(gd2.kp k4).kp k5;have ok5:h5.Ok:=(ok2.kp k4).kp k5;have n5:=k5.nx;have hlen:0+p*1+ [Value.bool true].length≤(B.map Value.bool).length:=by simp;omega
      refine isNat_i ?_;show vreq _ _;refine vreq_t (blt_t (by omega)) (vreq_t (canW_t go5 (by decide) (gd5.free ho) hlen rfl) ?_);intro g6;have hw6:=wr_get go5 (by decide) (gd5.free ho) hlen rfl;have kp6:Kp g.nx g g6:=kp5.wr ho _ _;have go6:g6.get o=some (.cells ((B.set p true).map Value.bool) 4 .fix):=by
       rw[show g6.get o=_ from hw6,Nat.zero_add,Nat.mul_one,putAt_map Value.bool (by omega)]
      have gb6:g6.get b1=_:=(wr_get_ne _ _ _ _ hbo).trans gb5;have n6:g6.nx=h5.nx:=nx_wr ..;refine⟨_,read1 (i:=0) (by show g6.get h2.nx=_;rw[show g6.get h2.nx=h5.get h2.nx from wr_get_ne _ _ _ _ (by omega),k5.get _ (by omega)];exact w1) rfl,?_⟩;obtain⟨s1,s2⟩:=hdS_bnd (by omega) hgood;obtain⟨m,hm⟩: ∃m:Nat,hdS W[p]=Int.ofNat m:=Int.eq_ofNat_of_zero_le s1;have hm2:m≤20:=by rw[hm]at s2;exact Int.ofNat_le.1 s2
      have e1:wrapF .i64 (Int.ofNat p+wrapF .i64 (1+hdS W[p]))=Int.ofNat (p+1+m):=by
       rw[hm,wrap64 (n:=1+Int.ofNat m) (by simp;omega) (by simp;omega),wrap64 (by simp;omega) (by simp;omega)];simp;omega
      rw[e1];refine ih (p+1+m) (B.set p true) g6 (by omega) (by omega) (by omega) (by omega) (by simpa using hBl) (ok5.wr _ _ _) (fun q hq=>gd5 q (by rwa [show g6.gd=h5.gd from gd_wr ..]at hq)) kp6 (by omega) (by omega) gb6 go6 (fun hc=>Qf ?_) fun l h' hc k' on gl=> ?_
      · unfold cellsG;rw[if_pos hpt,gW,if_neg (by rw[hgood];simp;omega),hm];show(cellsG W top f (p+1+m)).map _=_;rw[hc];rfl
      refine Qt (p::l) h' ?_ k' on gl;unfold cellsG;rw[if_pos hpt,gW,if_neg (by rw[hgood];simp;omega),hm];show(cellsG W top f (p+1+m)).map _=_;rw[hc];rfl
  · have hpt: ¬p<top:=by rw[ltI_nat]at h1;exact not_lt_of_blt h1
    intro g7;refine⟨_,read1 (i:=1) (by show(h.rsv 7).get b1=_;rw[get_rsv];exact gb) rfl,?_⟩;have kp7:Kp g.nx g g7:=kp.rsv 7;cases he:eqI (Int.ofNat p) (Int.ofNat top)with
    |false=>
     refine Qf ?_ _ _ _ _ kp7;unfold cellsG;rw[if_neg hpt,if_neg (fun hh=>by rw[hh]at he;simp[eqI_eq]at he)]
    |true=>
     have:p=top:=by have:=eq_of_t he;exact Int.ofNat_inj.1 this
     refine Qt [] g7 ?_ kp7 (by rw[nx_rsv];omega) (by rw[get_rsv];exact go);unfold cellsG;rw[if_neg hpt,if_pos this]
theorem ct124 {g:Hp}(ok:g.Ok){aw:Option Addr}{nw cw:Nat}{W:List Int}{top:Nat}(HW:IntsAt g aw nw W)(hR: ∀x∈W,In64 x)(h1:1≤top)(htop:top≤W.length)(hl:W.length<1000000)(tb:Tb g){ar:Option Addr}{nr cr:Nat}
 {K:Option Addr→Nat→Nat→Bool→Hp→Prop} (Qf: ∀a n c h',Kp g.nx g h'→cellsG W top (top+1) 1=none→K a n c false h')
 (Qt: ∀l a n c h',cellsG W top (top+1) 1=some l→Kp g.nx g h'→BoolsAt h' a n (setAll (List.replicate W.length false) l)→(∀b off,a=some ⟨b,off,none⟩→g.nx≤b)→K a n c true h'):
 ∃a n c q h',EvT O 124 [.agg #[.slice aw nw cw,.int .i64 (Int.ofNat top),.slice ar nr cr]] g (.tuple #[.slice a n c,.bool q]) h'∧K a n c q h':=by
 have r:Ret Tryz.prog O 124 [.agg #[.slice aw nw cw,.int .i64 (Int.ofNat top),.slice ar nr cr]] g fun v h'=> ∃a n c q,v= .tuple #[.slice a n c,.bool q]∧Kp g.nx g h'∧match cellsG W top (top+1) 1 with
  |none=>q=false
  |some l=>q=true∧BoolsAt h' a n (setAll (List.replicate W.length false) l)∧ ∀b off,a=some ⟨b,off,none⟩→g.nx≤b:=by
  refine rk124 _ _ _ _ _ _ _ (hO _ _ _ (by decide)) ?_;unfold T124;intro g1;refine⟨_,_,_,read1 (i:=0) (get_add_same ..) rfl,vreq_t (ble_t (Nat.le_refl _)) (vreq_t (ble_t ?_) (vreq_t (blt_t ?_) ?_))⟩
  · have:=HW.1;omega
  · have:=HW.1;unfold big;omega
  · intro g2;have n1:g1.nx=g.nx+1:=rfl;have n2:g2.nx=g.nx+2:=rfl;have hW1:=HW.1;have e1:List.flatten (List.replicate nw [Value.bool false])=(List.replicate W.length false).map Value.bool:=by
     rw[hW1,List.map_replicate]
     induction W.length with
     |zero=>rfl
     |succ n ih=>rw[List.replicate_succ,List.replicate_succ,List.flatten_cons,ih];rfl
    have k2:Kp g.nx g g2:=((Kp.refl _ g).add (Nat.le_refl _) _).add (Nat.le_succ _) _;have:=lp124 hO HW hR htop hl tb (b1:=g.nx) (o:=g1.nx) (Nat.le_refl _) (by omega) (by omega) (rw1:= .slice ar nr cr) (c4:=nw) (B0:=List.replicate W.length false) (by simp) (Q:=fun v h'=> ∃a n c q,v= .tuple #[.slice a n c,.bool q]∧Kp g.nx g h'∧match cellsG W top (top+1) 1 with
     |none=>q=false
     |some l=>q=true∧BoolsAt h' a n (setAll (List.replicate W.length false) l)∧ ∀b off,a=some ⟨b,off,none⟩→g.nx≤b) aw nw cw (Int.ofNat top) ar nr cr none 0 0 false (top+1) 1 (List.replicate W.length false) g2 (by omega) (by omega) (Nat.le_refl _) (by omega) (by simp) ((ok.add _).add _) (fun q hq=>ok.lt q hq) k2 (by omega) (by omega) ((get_add_ne (by rw[nx_add];omega)).trans (get_add_same ..)) (by rw[show g2.get g1.nx=_ from get_add_same ..,e1]) (fun hc a n c h' k'=>⟨a,n,c,false,rfl,k',by rw[hc]⟩) (fun l h' hc k' on gl=>⟨_,_,_,true,rfl,k',by
      rw[hc];refine⟨rfl,⟨?_,.inr ⟨_,_,_,_,_,rfl,on,gl,by simp,fun i hi=> ?_⟩⟩,fun b off hb=>by injection hb with hb;injection hb with hb;omega⟩
      · rw[setAll_length]
      · show _=[Value.bool _];rw[Nat.zero_add,Nat.mul_one,List.drop_eq_getElem_cons (by simpa using hi)];simp⟩)
    have e0:(List.replicate W.length false).length=nw:=by simp[hW1]
    rw[e0]at this;exact this
 obtain⟨v,h',e,a,n,c,q,rfl,k,hm⟩:=r;refine⟨a,n,c,q,h',e,?_⟩;cases hc:cellsG W top (top+1) 1 with
 |none=>rw[hc]at hm;rw[show q=false from hm];exact Qf _ _ _ _ k hc
 |some l=>rw[hc]at hm;rw[hm.1];exact Qt l _ _ _ _ hc k hm.2.1 hm.2.2
end
end Go.Proofs.YtngcjpkccnfjiaaGreatDoor
namespace Go.Proofs.YtngcjpkccnfjiaaGreatDoor
open Go Go.Ev
structure SI (h:Hp)(a:Option Addr)(n c:Nat)(W:List Int):Prop where
 at_:IntsAt h a n W
 cap: ∃vis,Ev.seen h 3 1 (.slice a n c)=some vis∧n≤vis∧vis<unk∧(a=none→vis=0)
theorem SI.to {h:Hp}(h':Hp) [k:Ft h h'] {a:Option Addr}{n c:Nat}{W:List Int}(s:SI h a n c W):SI h' a n c W:=by
 obtain⟨vis,e,q⟩:=s.cap;refine⟨s.at_.to h',vis,?_,q⟩;rw[←e];cases a with
 |none=>rfl
 |some ad=>
  obtain⟨o,off,vw⟩:=ad;cases vw with
  |some _=>rfl
  |none=>
   simp only[Ev.seen];rcases s.at_.2 with ⟨_,h0⟩|⟨b,off',cs,e',m,h1,h2,h3,_⟩
   · cases h0
   · injection h1 with h1;injection h1 with h1;subst h1;rw[k.get o h2]
theorem SI.seen_to {h:Hp}(h':Hp) [k:Ft h h'] {a:Option Addr}{n c:Nat}{W:List Int}(s:SI h a n c W):Ev.seen h' 3 1 (.slice a n c)=Ev.seen h 3 1 (.slice a n c):=by
 cases a with
 |none=>rfl
 |some ad=>
  obtain⟨o,off,vw⟩:=ad;cases vw with
  |some _=>rfl
  |none=>
   simp only[Ev.seen];rcases s.at_.2 with ⟨_,h0⟩|⟨b,off',cs,e',m,h1,h2,h3,_⟩
   · cases h0
   · injection h1 with h1;injection h1 with h1;subst h1;rw[k.get o h2]
theorem SI.fix {h:Hp}{a:Option Addr}{n c:Nat}{W:List Int}(s:IntsAt h a n W)(hn:n≤c)(hc:c<unk)(h0:a=none→c=0):SI h a n c W:=by
 refine⟨s,c,?_,hn,hc,h0⟩;have hb:Nat.beq c unk=false:=by rw[Bool.eq_false_iff];intro hh;have:=Nat.eq_of_beq_eq_true hh;omega
 rcases s.2 with ⟨_,rfl⟩|⟨b,off',cs,e',m,rfl,h2,h3,_⟩
 · rfl
 · simp only[Ev.seen,hb,cond_false]
theorem SI.acc {h:Hp}{base:Nat}{a:Option Addr}{n c:Nat}{W:List Int}(s:AccI 3 h base a n c W)(hl:W.length<1000000000):SI h a n c W:=by
 have X:=s.ints;have hn:=X.1;refine⟨X,n,?_,Nat.le_refl _,by rw[hn];unfold unk;omega,?_⟩
 · rcases s with ⟨rfl,rfl,rfl,h4⟩|⟨o,rfl,rfl,h3,h4,h5,h6⟩
   · rfl
   · simp only[Ev.seen,Nat.beq_refl,cond_true,h6];have e5:Nat.blt 0 1=true:=rfl;rw[e5];show some (((W.map (Value.int .i64)).length-0)/1)=some n;rw[List.length_map,Nat.sub_zero,Nat.div_one,hn]
 · rintro rfl;rcases s with ⟨_,h0,_⟩|⟨o,h0,_⟩
   · exact h0
   · cases h0
theorem bounds_lo {n vis l:Nat}(h1:l≤n):bounds n vis (some (.int .i64 (Int.ofNat l))) none none=some (l,n,vis):=by
 unfold bounds boundM boundH boundL boundV;simp only[Option.bind_some];rw[ble_t h1];rfl
theorem bounds_hi {n vis r:Nat}(h2:r≤vis):bounds n vis none (some (.int .i64 (Int.ofNat r))) none=some (0,r,vis):=by
 unfold bounds boundM boundH boundL boundV;simp only[Option.bind_some,Option.map_some];rw[ble_t h2];rfl
theorem bounds_lh {n vis l r:Nat}(h1:l≤r)(h2:r≤vis):bounds n vis (some (.int .i64 (Int.ofNat l))) (some (.int .i64 (Int.ofNat r))) none=some (l,r,vis):=by
 unfold bounds boundM boundH boundL boundV;simp only[Option.bind_some];rw[ble_t h2];simp only[cond_true,Option.bind_some];rw[ble_t h1];rfl
theorem sz3:sz Tryz.prog 3=some 1:=by kernel_rfl
theorem SI.part {h:Hp}{a:Option Addr}{n c:Nat}{W:List Int}(s:SI h a n c W){l r:Nat}(h1:l≤r)(h2:r≤W.length){lo hi:Option Value}(hb: ∀vis,n≤vis→bounds n vis lo hi none=some (l,r,vis)):
 ∃a' c',sliceV Tryz.prog h 22 (.slice a n c) lo hi none=some (.slice a' (r-l) c')∧SI h a' (r-l) c' ((W.drop l).take (r-l)):=by
 obtain⟨vis,hs,hv,hvu,h0⟩:=s.cap;have hn:=s.at_.1;have hlen:((W.drop l).take (r-l)).length=r-l:=by simp;omega
 unfold sliceV;rw[Tryz.underlying22];simp only[sz3,bind,Option.bind_some,hs,hb vis hv];rcases s.at_.2 with ⟨rfl,rfl⟩|⟨b,off,cs,e',m,rfl,h3,h4,h5,h6⟩
 · have h0:=h0 rfl;have hn:n=0:=hn;subst h0 hn;have:r=0:=by simpa using h2
   subst this;have:l=0:=by omega
   subst this;refine⟨none,0,rfl,?_⟩;simp only[Nat.sub_self,List.take_zero];exact SI.fix (SlAt.nil ..) (Nat.le_refl _) (by decide) fun _=>rfl
 · have part: ∀o2,(r-l=0∧o2=off∨o2=off+l*1)→IntsAt h (some ⟨b,o2,none⟩) (r-l) ((W.drop l).take (r-l)):=by
    intro o2 ho2;refine⟨hlen.symm,.inr ⟨b,o2,cs,e',m,rfl,h3,h4,?_,fun i hi=> ?_⟩⟩
    · rw[hlen];omega
    · have hi2:i<r-l:=by rw[hlen]at hi;exact hi
      rcases ho2 with ⟨h0,_⟩|rfl
      · omega
      · have:=h6 (l+i) (by omega);rw[show off+l*1+i*1=off+(l+i)*1 by omega];rw[show((W.drop l).take (r-l))[i]=W[l+i] by simp];exact this
   by_cases hc:c=unk
   · subst hc;simp only[Nat.beq_refl,Option.isNone_none,Bool.and_self,cond_true];refine⟨_,_,rfl,part _ (.inr rfl),?_⟩;have hs:Ev.seen h 3 1 (.slice (some ⟨b,off,none⟩) n unk)=some vis:=hs;simp only[Ev.seen,Nat.beq_refl,cond_true,h4]at hs ⊢;cases m with
     |ro=>cases hs
     |fix=>cases hs
     |grow=>
      obtain⟨hq,hs⟩:=cond_some hs;simp only[hq,cond_true];refine⟨_,rfl,?_,?_,fun h=>by cases h⟩
      · rw[Nat.div_one];omega
      · have:=Option.some.inj hs;rw[Nat.div_one]at this ⊢;omega
   · have hcb:Nat.beq c unk=false:=by rw[Bool.eq_false_iff];intro hh;exact hc (Nat.eq_of_beq_eq_true hh)
     have hs:Ev.seen h 3 1 (.slice (some ⟨b,off,none⟩) n c)=some vis:=hs;simp only[Ev.seen,hcb,cond_false]at hs;have hcv:c=vis:=Option.some.inj hs;subst hcv;simp only[hcb,Bool.false_and,cond_false];rw[blt_t hvu];simp only[cond_true];refine⟨_,_,rfl,SI.fix (part _ ?_) (by omega) (by omega) (fun h=>by cases h)⟩;cases hml:Nat.beq c l with
     |true=>have:=Nat.eq_of_beq_eq_true hml;exact .inl ⟨by omega,rfl⟩
     |false=>exact .inr rfl
theorem lp132 {O:CallF}{h:Hp}{a:Option Addr}{n c:Nat}{xs:List Int}(X:IntsAt h a n xs)(hl:xs.length<1000000){g1:Nat}{fi ca:Array Value}{p:Int→Bool}(hp: ∀x∈xs,EvT O g1 (fi.toList++[.int .i64 x]++ca.toList) h (.bool (p x)) h){Q:Value→Hp→Prop}(Qt: ∀x:Int,0≤x→xs.any p=true→Q (.int .i64 x) h)(Qf:xs.any p=false→Q (.int .i64 (-1)) h)(x4:Int):
 ∀(d k:Nat),k+d=xs.length→(xs.take k).any p=false→I132_0 O Q a n c g1 fi ca g1 fi ca x4 (Int.ofNat k) h:=by
 have hn:=X.1;intro d
 induction d with
 |zero=>
  intro k hk ht;refine I132_0.of _ _ _ _ _ _ _ _ _ _ _ ?_;unfold T132_0;refine vcond_f (by rw[ltI_nat];exact blt_f (by omega)) (Qf ?_)
  rwa [List.take_of_length_le (by omega)]at ht
 |succ d ih=>
  intro k hk ht;refine I132_0.of _ _ _ _ _ _ _ _ _ _ _ ?_;unfold T132_0;have hk':k<xs.length:=by omega
  refine vcond_t (by rw[ltI_nat];exact blt_t (by omega)) (isNat_i (X.rd hk' ⟨_,_,hp _ (List.getElem_mem hk'),vcond_split (fun h1=>Qt _ (Int.natCast_nonneg k) ?_) fun h1=> ?_⟩))
  · exact List.any_eq_true.2 ⟨_,List.getElem_mem hk',h1⟩
  · rw[wrap_succ (by omega)];refine ih (k+1) (by omega) ?_;rw[List.take_add_one,List.any_append,ht,List.getElem?_eq_getElem hk'];simp[h1]
theorem SI.slice_to {h:Hp}(h':Hp) [k:Ft h h'] {a:Option Addr}{n c:Nat}{W:List Int}(s:SI h a n c W)(lo hi:Option Value):sliceV Tryz.prog h' 22 (.slice a n c) lo hi none=sliceV Tryz.prog h 22 (.slice a n c) lo hi none:=by
 unfold sliceV;rw[Tryz.underlying22];simp only[sz3,bind,Option.bind_some,s.seen_to h']
section
variable {O:CallF}(hO:Oth O)
include hO
theorem ct76 {h:Hp}{a:Option Addr}{n c:Nat}{xs:List Int}(X:IntsAt h a n xs)(hl:xs.length<1000000){g1:Nat}{fi ca:Array Value}{p:Int→Bool}(hp: ∀x∈xs,EvT O g1 (fi.toList++[.int .i64 x]++ca.toList) h (.bool (p x)) h):
 EvT O 76 [.slice a n c,.func (.func g1) fi ca] h (.bool (xs.any p)) h:=by
 have r:Ret Tryz.prog O 132 [.slice a n c,.func (.func g1) fi ca] h fun v h'=> ∃x,v= .int .i64 x∧h'=h∧(ltI x 0= !(xs.any p)):=by
  refine rk132 _ _ _ _ _ _ (hO _ _ _ (by decide)) ?_;unfold T132;exact lp132 X hl hp (fun x hx ha=>⟨x,rfl,rfl,by rw[ha];exact ltI_f (by omega)⟩) (fun ha=>⟨-1,rfl,rfl,by rw[ha];rfl⟩) 0 xs.length 0 (by omega) rfl
 obtain⟨v,h',e,x,rfl,rfl,hx⟩:=r;have r2:Ret Tryz.prog O 76 [.slice a n c,.func (.func g1) fi ca] h' fun v h2=>v= .bool (xs.any p)∧h2=h':=by
  refine rk76 _ _ _ _ _ _ (hO _ _ _ (by decide)) ?_;unfold T76;refine⟨_,_,e,?_,rfl⟩;rw[hx,Bool.not_not]
 obtain⟨v,h2,e2,rfl,rfl⟩:=r2;exact e2
theorem ct123 (x:Int)(h:Hp):EvT O 123 [.int .i64 x] h (.bool (x !=0)) h:=by
 have r:Ret Tryz.prog O 123 [.int .i64 x] h fun v h2=>v= .bool (x !=0)∧h2=h:=by
  refine rk123 _ (hO _ _ _ (by decide)) ?_;unfold T123;refine⟨?_,rfl⟩;congr 1;rw[Bool.eq_iff_iff];simp[eqI_eq]
 obtain⟨v,h2,e2,rfl,rfl⟩:=r;exact e2
theorem ct125 {h:Hp}{a:Option Addr}{n c:Nat}{begin:List Bool}(B:BoolsAt h a n begin){w:Int}(hw:In64 w){b1:Nat}(hb:readAt h b1 0 1=some [.slice a n c]):EvT O 125 [.int .i64 w,.pointer (some ⟨b1,0,none⟩)] h (.bool (!(wordB begin w))) h:=by
 have r:Ret Tryz.prog O 125 [.int .i64 w,.pointer (some ⟨b1,0,none⟩)] h fun v h2=>v= .bool (!(wordB begin w))∧h2=h:=by
  refine rk125 _ _ _ (hO _ _ _ (by decide)) ?_;unfold T125;exact⟨_,_,_,hb,_,_,ct100 hO B hw,rfl,rfl⟩
 obtain⟨v,h2,e2,rfl,rfl⟩:=r;exact e2
theorem ct126 {h:Hp}{a:Option Addr}{n c:Nat}{begin:List Bool}(B:BoolsAt h a n begin){w k:Int}(hw:In64 w){b1 b2:Nat}(hb:readAt h b1 0 1=some [.slice a n c])(hb2:readAt h b2 0 1=some [.int .i64 k]):EvT O 126 [.int .i64 w,.pointer (some ⟨b1,0,none⟩),.pointer (some ⟨b2,0,none⟩)] h (.bool (!(fieldB begin k w))) h:=by
 have r:Ret Tryz.prog O 126 [.int .i64 w,.pointer (some ⟨b1,0,none⟩),.pointer (some ⟨b2,0,none⟩)] h fun v h2=>v= .bool (!(fieldB begin k w))∧h2=h:=by
  refine rk126 _ _ _ _ _ (hO _ _ _ (by decide)) ?_;unfold T126;exact⟨_,_,_,hb,_,hb2,_,_,ct78 hO B hw,rfl,rfl⟩
 obtain⟨v,h2,e2,rfl,rfl⟩:=r;exact e2
end
end Go.Proofs.YtngcjpkccnfjiaaGreatDoor
namespace Go.Proofs.YtngcjpkccnfjiaaGreatDoor
set_option maxRecDepth 100000
open Go Go.Ev
def Lp.begun (r:Lp):Lp:=⟨1,r.pend,r.t,r.ps,r.asg,r.body⟩
structure But (L:Nat)(h h':Hp):Prop where
 get: ∀o,o≠L→h'.get o=h.get o
 nx:h'.nx=h.nx
 gd:h'.gd=h.gd
theorem put_but {h:Hp}{L:Nat}{x:Option Ob}(hg:h.guarded L=false): ∃h',h.put L x=some h'∧h'.get L=x∧But L h h':=by
 have: ∃h',h.put L x=some h':=by unfold Hp.put;rw[hg];exact⟨_,rfl⟩
 obtain⟨h',hp⟩:=this;obtain⟨p1,p2,_,p4⟩:=Hp.get_put hp;have p4: ∀q,h'.get q=if q=L then x else h.get q:=p4
 exact⟨h',hp,by rw[p4,if_pos rfl],fun o ho=>by rw[p4,if_neg ho],p1,p2⟩
theorem vbeg_t {L:Nat}{h:Hp}{K:Hp→Prop}{r:Lp}(hg:h.get L=some (.loop r))(hs:r.st=0)(hu:h.guarded L=false)(next: ∀h',h'.get L=some (.loop (Lp.begun r))→But L h h'→K h'):vbeg L h K:=by
 unfold vbeg roundIn;rw[hg];simp only[hs,Nat.beq_refl,cond_true];obtain⟨h',hp,g,b⟩:=put_but (x:=some (.loop (Lp.begun r))) hu;rw[show h.put L (some (.loop ⟨1,r.pend,r.t,r.ps,r.asg,r.body⟩))=some h' from hp];exact next h' g b
theorem vout_n {L:Nat}{h:Hp}{Q:Value→Hp→Prop}{r:Lp}(hg:h.get L=some (.loop (Lp.begun r)))(hs:r.st=0)(hp:r.pend=none)(hu:h.guarded L=false)(next: ∀h',h'.get L=some (.loop r)→But L h h'→Q (.bool true) h'):vout L .normal h Q:=by
 unfold vout roundOut;rw[hg];obtain⟨h',hq,g,b⟩:=put_but (x:=some (.loop r)) hu;have e:(⟨bif isNone (jumpOf .normal)then 0 else 2,jumpOf .normal,(Lp.begun r).t,(Lp.begun r).ps,(Lp.begun r).asg,(Lp.begun r).body⟩:Lp)=r:=by
  obtain⟨st,pend,t,ps,asg,body⟩:=r;simp only at hs hp;subst hs hp;rfl
 simp only[e,hq,Option.map_some];exact next h' g b
theorem vout_r {L:Nat}{h:Hp}{Q:Value→Hp→Prop}{r:Lp}(hg:h.get L=some (.loop (Lp.begun r)))(hu:h.guarded L=false)(next: ∀h' r',h'.get L=some (.loop r')→r'.st=2→r'.pend=some .ret→But L h h'→Q (.bool false) h'):vout L .ret h Q:=by
 unfold vout roundOut;rw[hg];obtain⟨h',hq,g,b⟩:=put_but (x:=some (.loop ⟨2,some .ret,r.t,r.ps,r.asg,r.body⟩)) hu;show(match (h.put L (some (.loop ⟨2,some .ret,r.t,r.ps,r.asg,r.body⟩))).map fun h'=>(Value.bool false,h')with
  |some r=>Q r.1 r.2
  |none=>False)
 rw[hq];exact next h' _ g rfl rfl b
theorem del_but (h:Hp)(L:Nat):But L h (h.del L):=⟨fun o ho=>by show Tr.get none (Tr.upd none h.t L none) o=_;rw[Tr.get_upd,if_neg ho];rfl,rfl,rfl⟩
theorem vend_n {L:Nat}{h:Hp}{N R:Hp→Prop}{r:Lp}(hg:h.get L=some (.loop r))(hs:r.st≠1)(hp:r.pend=none)(hu:h.guarded L=false)(next:But L h (h.del L)→N (h.del L)):vend L h N R:=by
 unfold vend;refine vreq_t (by rw[hu];rfl) ?_;have:h.pend L=some none:=by
  unfold Hp.pend;rw[hg];have:Nat.beq r.st 1=false:=by rw[Bool.eq_false_iff];intro hh;exact hs (Nat.eq_of_beq_eq_true hh)
  simp only[this,cond_false,hp]
 rw[this];exact next (del_but h L)
theorem vend_r {L:Nat}{h:Hp}{N R:Hp→Prop}{r:Lp}(hg:h.get L=some (.loop r))(hs:r.st≠1)(hp:r.pend=some .ret)(hu:h.guarded L=false)(next:But L h (h.del L)→R (h.del L)):vend L h N R:=by
 unfold vend;refine vreq_t (by rw[hu];rfl) ?_;have:h.pend L=some (some .ret):=by
  unfold Hp.pend;rw[hg];have:Nat.beq r.st 1=false:=by rw[Bool.eq_false_iff];intro hh;exact hs (Nat.eq_of_beq_eq_true hh)
  simp only[this,cond_false,hp]
 rw[this];exact next (del_but h L)
theorem But.kp {L m:Nat}{h h':Hp}(b:But L h h')(hm:m≤L)(hL:L<h.nx):Kp m h h':=⟨fun o ho=>b.get o (by omega),by rw[b.nx];exact Nat.le_refl _,b.gd,fun f o ho=>by rw[b.nx]at ho;rw[b.get o (by omega)];exact f o ho⟩
def fieldsW (W:List Int)(p:Nat):List Int:=(W.drop (p+1)).take (hdS (W.getD p 0)).toNat
theorem cellsG_le {W:List Int}{top:Nat}: ∀ {f p:Nat} {l:List Nat},cellsG W top f p=some l→p≤top:=by
 intro f p l h;cases f with
 |zero=>cases h
 |succ f=>
  unfold cellsG at h;split at h
  · omega
  · split at h
    · omega
    · cases h
theorem cellsG_cons {W:List Int}{top:Nat}{f p:Nat}{l:List Nat}(h:cellsG W top (f+1) p=some l):(p<top∧0≤W.getD p 0∧goodB (hdS (W.getD p 0)) (hdK (W.getD p 0))=true∧ ∃l',l=p::l'∧cellsG W top f (p+1+(hdS (W.getD p 0)).toNat)=some l')∨(p=top∧l=[]):=by
 unfold cellsG at h;split at h
 · split at h
   · cases h
   · rename_i h1 h2;obtain⟨l',h3,h4⟩:=Option.map_eq_some_iff.1 h;exact .inl ⟨h1,by omega,by cases hg:goodB (hdS (W.getD p 0)) (hdK (W.getD p 0))<;>simp_all,l',h4.symm,h3⟩
 · split at h
   · exact .inr ⟨‹_›,(Option.some.inj h).symm⟩
   · cases h
section
variable {O:CallF}(hO:Oth O)
include hO
theorem lp138 {aw:Option Addr}{nw cw:Nat}{W:List Int}{top:Nat}(hR: ∀x∈W,In64 x)(htop:top≤W.length)(hl:W.length<1000000){y b1 b2 b3:Nat}{Inv:List Nat→Hp→Prop}{Brk:Hp→Prop}
 (hI: ∀l g,Inv l g→g.Ok∧readAt g b2 0 1=some [.int .i64 (Int.ofNat top)]∧readAt g b3 0 1=some [.slice aw nw cw]∧SI g aw nw cw W)
 (hS: ∀l g g',Inv l g→Kp g.nx g g'→Inv l g')
 (hr: ∀p l g a n c,Inv (p::l) g→p<top→0≤W.getD p 0→goodB (hdS (W.getD p 0)) (hdK (W.getD p 0))=true→SI g a n c (fieldsW W p)→Ret Tryz.prog O (yB+y) [.int .i64 (Int.ofNat p),.slice a n c] g fun v g'=>(v= .bool true∧Inv l g')∨(v= .bool false∧Brk g')):
 ∀(f p:Nat) (l:List Nat) (g:Hp),cellsG W top f p=some l→Inv l g→I138_0 O (fun v g'=>v=undef∧(Inv [] g'∨Brk g')) y b1 0 b2 0 b3 0 (Int.ofNat p) g:=by
 intro f
 induction f with
 |zero=>intro p l g hc;cases hc
 |succ f ih=>
  intro p l g hc hi;refine I138_0.of _ _ _ _ _ _ _ _ ?_;unfold T138_0;obtain⟨ok,r2,r3,si⟩:=hI _ _ hi;refine⟨_,r2,?_⟩;rcases cellsG_cons hc with ⟨h1,h2,h3,l',rfl,h4⟩|⟨rfl,rfl⟩
  · have hpW:p<W.length:=by omega
    have gW:W.getD p 0=W[p]:=by simp[List.getD,List.getElem?_eq_getElem hpW]
    refine vcond_t (by rw[ltI_nat];exact blt_t h1) ⟨_,_,_,r3,isNat_i (si.at_.rd hpW (ct86 hO ok (hR _ (List.getElem_mem hpW)) fun g2 k2=> ?_))⟩;have hi2:=hS _ _ _ hi k2;obtain⟨ok2,_,r32,si2⟩:=hI _ _ hi2;have hle:=cellsG_le h4;obtain⟨s1,s2⟩:=hdS_bnd h2 h3;rw[gW]at s1 s2 hle h4;obtain⟨m,hm⟩: ∃m:Nat,hdS W[p]=Int.ofNat m:=Int.eq_ofNat_of_zero_le s1;have hm2:m≤20:=by rw[hm]at s2;exact Int.ofNat_le.1 s2
    rw[hm]at hle h4;have hle:p+1+m≤top:=hle;have e0:wrapF .i64 (Int.ofNat p+1)=Int.ofNat (p+1):=wrap_succ (by omega);have e1:wrapF .i64 (Int.ofNat (p+1)+hdS W[p])=Int.ofNat (p+1+m):=by
     rw[hm,wrap64 (by simp;omega) (by simp;omega)];simp
    rw[e0,e1];obtain⟨a',c',es,sp⟩:=si2.part (l:=p+1) (r:=p+1+m) (by omega) (by omega) (lo:=some (.int .i64 (Int.ofNat (p+1)))) (hi:=some (.int .i64 (Int.ofNat (p+1+m)))) (fun vis hv=>bounds_lh (by omega) (by have:=si2.at_.1;omega));refine⟨_,_,_,r32,_,_,_,es,?_⟩;have hf:(W.drop (p+1)).take (p+1+m-(p+1))=fieldsW W p:=by
     unfold fieldsW;rw[gW,hm];congr 1;show p+1+m-(p+1)=m;omega
    rw[hf]at sp;obtain⟨v,g3,e3,hv⟩:=hr p l' g2 _ _ _ hi2 h1 h2 h3 sp;rcases hv with ⟨rfl,hi3⟩|⟨rfl,hb⟩
    · refine⟨_,_,e3,vcond_f rfl ?_⟩;exact ih (p+1+m) l' g3 h4 hi3
    · exact⟨_,_,e3,vcond_t rfl ⟨rfl,.inr hb⟩⟩
  · exact vcond_f (by rw[ltI_nat];exact blt_f (by omega)) ⟨rfl,.inl hi⟩
theorem range138 {aw:Option Addr}{nw cw:Nat}{W:List Int}{top:Nat}(hR: ∀x∈W,In64 x)(htop:top≤W.length)(hl:W.length<1000000){b1 b2 b3:Nat}{Inv:Lp→List Nat→Hp→Prop}{Brk:Hp→Prop}{h:Hp}{r0:Lp}{p f:Nat}{l:List Nat}
 (hc:cellsG W top f p=some l) (rb:readAt (h.add (.loop r0)) b1 0 1=some [.int .i64 (Int.ofNat p)]) (h0:Inv r0 l (h.add (.loop r0)))
 (hI: ∀l g,Inv r0 l g→g.Ok∧readAt g b2 0 1=some [.int .i64 (Int.ofNat top)]∧readAt g b3 0 1=some [.slice aw nw cw]∧SI g aw nw cw W)
 (hS: ∀l g g',Inv r0 l g→Kp g.nx g g'→Inv r0 l g')
 (hr: ∀p l g a n c,Inv r0 (p::l) g→p<top→0≤W.getD p 0→goodB (hdS (W.getD p 0)) (hdK (W.getD p 0))=true→SI g a n c (fieldsW W p)→Ret Tryz.prog O (yB+h.nx) [.int .i64 (Int.ofNat p),.slice a n c] g fun v g'=>(v= .bool true∧Inv r0 l g')∨(v= .bool false∧Brk g'))
 {N R:Hp→Prop} (hN: ∀g,Inv r0 [] g→vend h.nx g N R) (hB: ∀g,Brk g→vend h.nx g N R):
 ∃h2,EvT O 138 [.func (.yield h.nx) #[] #[],.pointer (some ⟨b1,0,none⟩),.pointer (some ⟨b2,0,none⟩),.pointer (some ⟨b3,0,none⟩)] (h.add (.loop r0)) undef h2∧vend h.nx h2 N R:=by
 have r:Ret Tryz.prog O 138 [.func (.yield h.nx) #[] #[],.pointer (some ⟨b1,0,none⟩),.pointer (some ⟨b2,0,none⟩),.pointer (some ⟨b3,0,none⟩)] (h.add (.loop r0)) fun v g'=>v=undef∧(Inv r0 [] g'∨Brk g'):=by
  refine rk138 _ _ _ _ _ _ _ (hO _ _ _ (by decide)) ?_;unfold T138;exact⟨_,rb,lp138 hO (Inv:=Inv r0) hR htop hl hI hS hr f p l _ hc h0⟩
 obtain⟨v,h2,e,rfl,hv⟩:=r;exact⟨h2,e,hv.elim (hN _) (hB _)⟩
theorem ct105 {h:Hp}{a:Option Addr}{n c:Nat}{x y:Int}{K:Nat→Array Value→Array Value→Hp→Prop}(next: ∀g1 g2 g3,g1=h.add (.cells [.slice a n c] 22 .fix)→g2=g1.add (.cells [.int .i64 x] 3 .fix)→g3=g2.add (.cells [.int .i64 y] 3 .fix)→K 138 #[] #[.pointer (some ⟨g1.nx,0,none⟩),.pointer (some ⟨g2.nx,0,none⟩),.pointer (some ⟨h.nx,0,none⟩)] g3):
 ∃k fi ca h',EvT O 105 [.slice a n c,.int .i64 x,.int .i64 y] h (.func (.func k) fi ca) h'∧K k fi ca h':=by
 have r:Ret Tryz.prog O 105 [.slice a n c,.int .i64 x,.int .i64 y] h fun v h'=> ∃k fi ca,v= .func (.func k) fi ca∧K k fi ca h':=by
  refine rk105 _ _ _ _ _ (hO _ _ _ (by decide)) ?_;unfold T105;intro g1 g2 g3;exact⟨138,#[],_,rfl,next g1 g2 g3 rfl rfl rfl⟩
 obtain⟨v,h',e,k,fi,ca,rfl,hk⟩:=r;exact⟨k,fi,ca,h',e,hk⟩
omit hO in
theorem body138:(Nat.blt 138 yB&&hasBody Tryz.prog 138)=true:=by kernel_rfl
end
end Go.Proofs.YtngcjpkccnfjiaaGreatDoor
namespace Go.Proofs.YtngcjpkccnfjiaaGreatDoor
set_option maxRecDepth 100000
open Go Go.Ev
def beginP (W:List Int)(l:List Nat):List Bool:=setAll (List.replicate W.length false) l
def okc (W:List Int)(begin:List Bool)(p:Nat):Bool:=(fieldsW W p).all (fieldB begin (hdK (W.getD p 0)))
def checkP (W:List Int)(top:Int)(R:List Int):Option (List Nat):=
 if W.length<1∨200<W.length∨top<1∨(W.length:Int)<top∨W.getD 0 0≠0∨10<R.length then none
 else if (W.drop top.toNat).any (· !=0)then none
 else match cellsG W top.toNat (top.toNat+1) 1 with
  |none=>none
  |some l=>if R.any (fun w=> !(wordB (beginP W l) w))then none else if l.all (okc W (beginP W l))then some l else none
theorem SlAt.but {α:Type}{w:Nat}{R:Enc α}(hR: ∀h h' x vs,R h x vs→R h' x vs){h h':Hp}{L:Nat}{r:Lp}(b:But L h h')(hL:h.get L=some (.loop r)){a:Option Addr}{n:Nat}{xs:List α}(H:SlAt w R h a n xs):SlAt w R h' a n xs:=by
 refine⟨H.1,H.2.imp id ?_⟩;rintro⟨o,off,c,e,m,h1,h2,h3,h4,h5⟩;refine⟨o,off,c,e,m,h1,by rw[b.nx];exact h2,?_,h4,fun i hi=>hR _ _ _ _ (h5 i hi)⟩;rw[b.get o (fun hh=>by subst hh;rw[hL]at h3;cases h3)];exact h3
theorem IntsAt.but {h h':Hp}{L:Nat}{r:Lp}(b:But L h h')(hL:h.get L=some (.loop r)){a:Option Addr}{n:Nat}{xs:List Int}(H:IntsAt h a n xs):IntsAt h' a n xs:=SlAt.but (fun _ _ _ _ h=>h) b hL H
theorem yB_ne {L:Nat}:yB+L≠14∧yB+L≠54:=⟨Nat.ne_of_gt (Nat.lt_of_lt_of_le (by decide:14<yB) (Nat.le_add_right ..)),Nat.ne_of_gt (Nat.lt_of_lt_of_le (by decide:54<yB) (Nat.le_add_right ..))⟩
theorem one_wr {h:Hp}{b:Nat}{v w:Value}{e:TypeId}(g:h.get b=some (.cells [v] e .fix))(gd:h.guarded b=false)(h1:one w=true):canW h b 0 [w]=true∧(h.wr b 0 [w]).get b=some (.cells [w] e .fix):=by
 have a:[w].all one=true:=by simp[h1]
 exact⟨canW_t g (by decide) gd (by simp) a,wr_get g (by decide) gd (by simp) a⟩
theorem IntsAt.rd0 {g h:Hp}{a:Option Addr}{n:Nat}{xs:List Int}(H:IntsAt g a n xs) [Ft g h] (hk:0<xs.length){K:Int→Prop}(next:K xs[0]):
 isAddr a fun b off=>vreq (Nat.blt 0 n) (∃x,readAt h b (off+0) 1=some [.int .i64 x]∧K x):=IntsAt.rd H hk next
section
variable {O:CallF}(hO:Oth O)
include hO
def QC (g:Hp)(W:List Int)(top:Int)(R:List Int):Value→Hp→Prop:=fun v h'=> ∃a n c x,v= .tuple #[.slice a n c,.int .i64 x]∧Kp g.nx g h'∧match checkP W top R with
 |none=>x=2
 |some l=>x=0∧BoolsAt h' a n (beginP W l)
omit hO in
theorem bad_block {g h:Hp}{b2 b3:Nat}{v w:Value}(ok:g.Ok)(kp:Kp g.nx g h)(g2:h.get b2=some (.cells [v] 102 .fix))(g3:h.get b3=some (.cells [w] 27 .fix))(h2:g.nx≤b2)(h3:g.nx≤b3)(hne:b2≠b3){K:Value→Hp→Prop}
 (next: ∀h',Kp g.nx g h'→h'.get b2=some (.cells [.slice none 0 0] 102 .fix)→h'.get b3=some (.cells [.int .i64 2] 27 .fix)→(∀o,o≠b2→o≠b3→h'.get o=h.get o)→h'.nx=h.nx→K (.tuple #[.slice none 0 0,.int .i64 2]) h'):
 vreq (canW h b2 0 [.slice none 0 0]) (let k1:Hp:=h.wr b2 0 [.slice none 0 0]
  vreq (canW k1 b3 0 [.int .i64 2]) (let k2:Hp:=k1.wr b3 0 [.int .i64 2]
   ∃a n c,readAt k2 b2 0 1=some [.slice a n c]∧ ∃x,readAt k2 b3 0 1=some [.int .i64 x]∧K (.tuple #[.slice a n c,.int .i64 x]) k2)):=by
 have gd:GdLt h g.nx:=ok.lt.kp kp;obtain⟨c1,w1⟩:=one_wr g2 (gd.free h2) (w:= .slice none 0 0) rfl;refine vreq_t c1 ?_;intro k1;have g3':k1.get b3=some (.cells [w] 27 .fix):=(wr_get_ne _ _ _ _ (Ne.symm hne)).trans g3;have gd1:GdLt k1 g.nx:=fun q hq=>gd q (by rwa [show k1.gd=h.gd from gd_wr ..]at hq);obtain⟨c2,w2⟩:=one_wr g3' (gd1.free h3) (w:= .int .i64 2) rfl;refine vreq_t c2 ?_;intro k2;have w1':k2.get b2=some (.cells [.slice none 0 0] 102 .fix):=(wr_get_ne _ _ _ _ hne).trans w1;refine⟨_,_,_,read1 (i:=0) w1' rfl,_,read1 (i:=0) w2 rfl,next k2 ((kp.wr h2 _ _).wr h3 _ _) w1' w2 (fun o h4 h5=>(wr_get_ne _ _ _ _ h5).trans (wr_get_ne _ _ _ _ h4)) ?_⟩;rw[nx_wr,nx_wr]
theorem ct65 {g:Hp}(ok:g.Ok){aw:Option Addr}{nw cw:Nat}{W:List Int}{top:Int}(HW:SI g aw nw cw W)(hW: ∀x∈W,In64 x){ar:Option Addr}{nr cr:Nat}{R:List Int}(HR:IntsAt g ar nr R)(hR: ∀x∈R,In64 x)(tb:Tb g):
 Ret Tryz.prog O 65 [.agg #[.slice aw nw cw,.int .i64 top,.slice ar nr cr]] g (QC g W top R):=by
 refine rk65 _ _ _ _ _ _ _ (hO _ _ _ (by decide)) ?_;unfold T65;intro g1 g2 g3;have hn:=HW.at_.1;have hnr:=HR.1;have n1:g1.nx=g.nx+1:=rfl;have n2:g2.nx=g.nx+2:=rfl;have n3:g3.nx=g.nx+3:=rfl;have k3:Kp g.nx g g3:=(((Kp.refl _ g).add (Nat.le_refl _) _).add (Nat.le_succ _) _).add (by rw[nx_add,nx_add];omega) _;have s3:g3.get g.nx=some (.cells [.slice aw nw cw,.int .i64 top,.slice ar nr cr] 24 .fix):=by
  rw[show g3.get g.nx=_ from get_add_ne (by omega),show g2.get g.nx=_ from get_add_ne (by omega)];exact get_add_same ..
 have p2:g3.get g1.nx=some (.cells [.slice none 0 0] 102 .fix):=by
  rw[show g3.get g1.nx=_ from get_add_ne (by omega)];exact get_add_same ..
 have p3:g3.get g2.nx=some (.cells [.int .i64 0] 27 .fix):=get_add_same ..;have bad:checkP W top R=none→I65_0 O (QC g W top R) aw nw cw top ar nr cr g.nx 0 g1.nx 0 g2.nx 0 g3:=fun hc=>by
  refine I65_0.of _ _ _ _ _ _ _ _ _ _ _ _ _ ?_;unfold T65_0;exact bad_block ok k3 p2 p3 (by omega) (by omega) (by omega) fun h' k _ _ _ _=>⟨_,_,_,_,rfl,k,by rw[hc]⟩
 haveI f3:Ft g g3:=k3.ex (Nat.le_refl _);refine⟨_,_,_,read1 (i:=0) s3 rfl,vcond_split (fun h1=>bad ?_) fun h1=>vcond_split (fun h2=>bad ?_) fun h2=> ?_⟩
 · have h1:=lt_of_t h1;unfold checkP;rw[if_pos (.inl (by rw[hn]at h1;exact Int.ofNat_lt.1 h1))]
 · have h2:=lt_of_t h2;unfold checkP;rw[if_pos (.inr (.inl (by rw[hn]at h2;exact Int.ofNat_lt.1 h2)))]
 have h1:1≤W.length:=by have:=not_lt_of_f h1;rw[hn]at this;simp at this;omega
 have h2:W.length≤200:=by have:=not_lt_of_f h2;rw[hn]at this;simp at this;omega
 refine⟨_,read1 (i:=1) s3 rfl,vcond_split (fun h3=>bad ?_) fun h3=> ?_⟩
 · unfold checkP;rw[if_pos (.inr (.inr (.inl (lt_of_t h3))))]
 refine⟨_,read1 (i:=1) s3 rfl,vcond_split (fun h4=>bad ?_) fun h4=> ?_⟩
 · unfold checkP;rw[if_pos (.inr (.inr (.inr (.inl (by have:=lt_of_t h4;rw[hn]at this;exact this)))))]
 obtain⟨tp,rfl⟩: ∃m:Nat,top=Int.ofNat m:=Int.eq_ofNat_of_zero_le (by have:=not_lt_of_f h3;omega);have h3:1≤tp:=by have:=not_lt_of_f h3;simp at this;omega
 have h4:tp≤W.length:=by have:=not_lt_of_f h4;rw[hn]at this;exact Int.ofNat_le.1 (by simpa using this)
 have gW:W.getD 0 0=W[0]:=by simp[List.getD,List.getElem?_eq_getElem h1]
 refine⟨_,_,_,read1 (i:=0) s3 rfl,?_⟩;refine IntsAt.get HW.at_ (k:=0) h1 fun b0 f0 _ hb0 hr0=>vreq_t (blt_t (by omega)) ⟨_,by rw[readAt_ex (g:=g) hb0];exact hr0,?_⟩;refine vcond_split (fun h5=>bad ?_) fun h5=> ?_
 · unfold checkP;rw[if_pos (.inr (.inr (.inr (.inr (.inl (by rw[gW];exact ne_of_f (by simpa using h5)))))))]
 have h5:W.getD 0 0=0:=by rw[gW];exact eq_of_t (by simpa using h5)
 refine⟨_,_,_,read1 (i:=2) s3 rfl,vcond_split (fun h6=>bad ?_) fun h6=> ?_⟩
 · unfold checkP;rw[if_pos (.inr (.inr (.inr (.inr (.inr (by have:=lt_of_t h6;rw[hnr]at this;simp at this;omega))))))]
 have h6:R.length≤10:=by have:=not_lt_of_f h6;rw[hnr]at this;simp at this;omega
 have c0:checkP W (Int.ofNat tp) R=if (W.drop tp).any (· !=0)then none
  else match cellsG W tp (tp+1) 1 with
   |none=>none
   |some l=>if R.any (fun w=> !(wordB (beginP W l) w))then none else if l.all (okc W (beginP W l))then some l else none:=by
  unfold checkP;rw[if_neg ?_]
  · rfl
  · rintro(h|h|h|h|h|h)
    · omega
    · omega
    · have:(Int.ofNat tp:Int)=(tp:Int):=rfl;omega
    · have:(Int.ofNat tp:Int)=(tp:Int):=rfl;omega
    · exact h h5
    · omega
 obtain⟨a',c',es,sp⟩:=(HW.to g3).part (l:=tp) (r:=W.length) h4 (Nat.le_refl _) (lo:=some (.int .i64 (Int.ofNat tp))) (hi:=none) (fun vis hv=>by rw[hn];exact bounds_lo h4);refine⟨_,_,_,read1 (i:=0) s3 rfl,_,read1 (i:=1) s3 rfl,_,_,_,es,_,_,ct76 hO sp.at_ (by simp;omega) (p:=fun x=>x !=0) (fun x _=>ct123 hO x g3),?_⟩;have hdt:(W.drop tp).take (W.length-tp)=W.drop tp:=List.take_of_length_le (by simp);rw[hdt];refine vcond_split (fun h7=> ?_) fun h7=> ?_
 · exact bad_block ok k3 p2 p3 (by omega) (by omega) (by omega) fun h' k _ _ _ _=>⟨_,_,_,_,rfl,k,by rw[c0,if_pos h7]⟩
 rw[if_neg (by rw[h7];exact Bool.false_ne_true)]at c0;refine⟨_,_,_,_,_,_,_,by rw[readAt_get s3 (by simp)];rfl,?_⟩;have ok3:g3.Ok:=ok.kp k3;have n0:0<g.nx:=by have:=tb.1;omega
 refine ct124 hO ok3 (HW.at_.to g3) hW h3 h4 (by omega) (tb.kp k3 n0) (fun a n c h44 k4 hc=> ?_) fun l a n c h44 hc k4 B fresh=> ?_
 · intro g45;have k44:Kp g.nx g h44:=k3.trans (k4.le (by omega));have ok44:h44.Ok:=ok.kp k44;have m4:=k4.nx;have q2:h44.get g1.nx=_:=(k4.get g1.nx (by omega)).trans p2;have q3:h44.get g2.nx=_:=(k4.get g2.nx (by omega)).trans p3;have k45:Kp g.nx g g45:=k44.add k44.nx _;have gd45:GdLt g45 g.nx:=ok.lt.kp k45;obtain⟨c1,w1⟩:=one_wr (show g45.get h44.nx=_ from get_add_same ..) (gd45.free k44.nx) (w:= .slice a n c) rfl;refine vreq_t c1 ?_;intro g46;have k46:Kp g.nx g g46:=k45.wr k44.nx _ _;refine vcond_t rfl ?_;have r2:g46.get g1.nx=_:=(wr_get_ne _ _ _ _ (by omega)).trans ((get_add_ne (by omega)).trans q2);have r3:g46.get g2.nx=_:=(wr_get_ne _ _ _ _ (by omega)).trans ((get_add_ne (by omega)).trans q3);exact bad_block ok k46 r2 r3 (by omega) (by omega) (by omega) fun h' k _ _ _ _=>⟨_,_,_,_,rfl,k,by rw[c0,hc]⟩
 · intro g45;rw[hc]at c0;simp only at c0;have k44:Kp g.nx g h44:=k3.trans (k4.le (by omega));have ok44:h44.Ok:=ok.kp k44;have m4:=k4.nx;have q1:h44.get g.nx=_:=(k4.get g.nx (by omega)).trans s3;have q2:h44.get g1.nx=_:=(k4.get g1.nx (by omega)).trans p2;have q3:h44.get g2.nx=_:=(k4.get g2.nx (by omega)).trans p3;have k45:Kp g.nx g g45:=k44.add k44.nx _;have gd45:GdLt g45 g.nx:=ok.lt.kp k45;obtain⟨c1,w1⟩:=one_wr (show g45.get h44.nx=_ from get_add_same ..) (gd45.free k44.nx) (w:= .slice a n c) rfl;refine vreq_t c1 ?_;intro g46;have n46:g46.nx=h44.nx+1:=by show(Hp.wr _ _ _ _).nx=_;rw[nx_wr,nx_add]
   have e46:Kp h44.nx h44 g46:=((Kp.refl _ h44).add (Nat.le_refl _) _).wr (Nat.le_refl _) _ _;have k46:Kp g.nx g g46:=k45.wr k44.nx _ _;have r1:g46.get g.nx=_:=(e46.get _ (by omega)).trans q1;have r2:g46.get g1.nx=_:=(e46.get _ (by omega)).trans q2;have r3:g46.get g2.nx=_:=(e46.get _ (by omega)).trans q3;haveI f46:Ft g g46:=k46.ex (Nat.le_refl _);haveI e46':Ft h44 g46:=e46.ex (Nat.le_refl _);have B46:BoolsAt g46 a n (beginP W l):=B.to g46;refine vcond_f rfl ⟨_,_,_,read1 (i:=2) r1 rfl,_,_,ct76 hO (HR.to g46) (by omega) (p:=fun w=> !(wordB (beginP W l) w)) (fun x hx=>ct125 hO B46 (hR x hx) (read1 (i:=0) w1 rfl)),vcond_split (fun h8=> ?_) fun h8=> ?_⟩
   · exact bad_block ok k46 r2 r3 (by omega) (by omega) (by omega) fun h' k _ _ _ _=>⟨_,_,_,_,rfl,k,by rw[c0,if_pos h8]⟩
   rw[if_neg (by rw[h8];exact Bool.false_ne_true)]at c0;refine⟨_,_,_,read1 (i:=0) r1 rfl,_,read1 (i:=1) r1 rfl,ct105 hO fun u1 u2 u3 eu1 eu2 eu3=>vreq_t body138 ?_⟩;have nu1:u1.nx=h44.nx+2:=by rw[eu1,nx_add,n46]
   have nu2:u2.nx=h44.nx+3:=by rw[eu2,nx_add,nu1]
   have nu3:u3.nx=h44.nx+4:=by rw[eu3,nx_add,nu2]
   have eu:Kp h44.nx h44 u3:=by
    rw[eu3,eu2,eu1];exact((e46.add e46.nx _).add (by rw[nx_add];omega) _).add (by rw[nx_add,nx_add];omega) _
   have v5:u3.get h44.nx=some (.cells [.slice a n c] 102 .fix):=by
    rw[eu3,get_add_ne (by omega),eu2,get_add_ne (by omega),eu1,get_add_ne (by omega)];exact w1
   have vw:u3.get g46.nx=some (.cells [.slice aw nw cw] 22 .fix):=by
    rw[eu3,get_add_ne (by omega),eu2,get_add_ne (by omega),eu1];exact get_add_same ..
   have vf:u3.get u1.nx=some (.cells [.int .i64 1] 3 .fix):=by
    rw[eu3,get_add_ne (by omega),eu2];exact get_add_same ..
   have vt:u3.get u2.nx=some (.cells [.int .i64 (Int.ofNat tp)] 3 .fix):=by rw[eu3];exact get_add_same ..
   have ku:Kp g.nx g u3:=k44.trans (eu.le k44.nx);have hne:u3.nx≠g.nx:=by have:=ku.nx;omega
   refine range138 hO (aw:=aw) (nw:=nw) (cw:=cw) (h:=u3) (Inv:=fun r0 l' x=>Kp u3.nx (u3.add (.loop r0)) x∧x.Ok∧u3.nx<x.nx∧x.get u3.nx=some (.loop r0)∧l.all (okc W (beginP W l))=l'.all (okc W (beginP W l)))
    (Brk:=fun x=>Kp g.nx g x∧u3.nx<x.nx∧(∃r',x.get u3.nx=some (.loop r')∧r'.st=2∧r'.pend=some .ret)∧x.get g1.nx=some (.cells [.slice none 0 0] 102 .fix)∧x.get g2.nx=some (.cells [.int .i64 2] 27 .fix)∧l.all (okc W (beginP W l))=false)
    hW h4 (by omega) hc (read1 (i:=0) ((get_add_ne (by omega)).trans vf) rfl) ⟨Kp.refl _ _,(ok.kp ku).add _,Nat.lt_succ_self _,get_add_same ..,rfl⟩ ?_ ?_ ?_ ?_ ?_
   · rintro l' x ⟨kx,okx,nx,gx,_⟩;have kx0:Kp u3.nx u3 x:=((Kp.refl _ u3).add (Nat.le_refl _) _).trans kx;refine⟨okx,read1 (i:=0) ((kx0.get _ (by omega)).trans vt) rfl,read1 (i:=0) ((kx0.get _ (by omega)).trans vw) rfl,?_⟩;haveI:Ft g x:=(ku.trans (kx0.le ku.nx)).ex (Nat.le_refl _);exact HW.to x
   · rintro l' x x' ⟨kx,okx,nx,gx,ha⟩ k;exact⟨kx.trans (k.le (by omega)),okx.kp k,Nat.lt_of_lt_of_le nx k.nx,(k.get _ nx).trans gx,ha⟩
   · rintro p l' x a3 n3 c3 ⟨kx,okx,nx,gx,ha⟩ hpt hp0 hgd sp;have kx0:Kp u3.nx u3 x:=((Kp.refl _ u3).add (Nat.le_refl _) _).trans kx;have kgx:Kp g.nx g x:=ku.trans (kx0.le ku.nx);have gdx:GdLt x g.nx:=ok.lt.kp kgx;refine rd65_0 (hO:=hO _ _ _ yB_ne) (hg:=gx) (hh:= ?_) ..;unfold TR65_0;refine vbeg_t gx rfl (gdx.free ku.nx) fun x1 gx1 bx1=> ?_;have b1:Kp u3.nx x x1:=bx1.kp (Nat.le_refl _) nx;have nx1:x1.nx=x.nx:=bx1.nx;have u1k:Kp u3.nx u3 x1:=kx0.trans b1;have s1:x1.get g.nx=_:=(u1k.get _ (by omega)).trans ((eu.get _ (by omega)).trans q1);have kg1:Kp g.nx g x1:=kgx.trans (b1.le ku.nx);have ok1:x1.Ok:=okx.kp b1;haveI:Ft g x1:=kg1.ex (Nat.le_refl _);have hpW:p<W.length:=by omega
     have gWp:W.getD p 0=W[p]:=by simp[List.getD,List.getElem?_eq_getElem hpW]
     refine⟨_,_,_,read1 (i:=0) s1 rfl,isNat_i (HW.at_.rd (k:=p) hpW (ct86 hO ok1 (hW _ (List.getElem_mem hpW)) fun x2 k2=> ?_))⟩;intro x3;have ok2:x2.Ok:=ok1.kp k2;have m2:=k2.nx;have k2u:Kp u3.nx x x2:=b1.trans (k2.le (by omega));have gd2:GdLt x2 g.nx:=ok.lt.kp (kgx.trans (k2u.le ku.nx));obtain⟨d1,w2⟩:=one_wr (show x3.get x2.nx=_ from get_add_same ..) (gd2.free (h:=x3) (by have:=(kgx.trans (k2u.le ku.nx)).nx;omega)) (w:= .int .i64 (hdK W[p])) rfl;refine vreq_t d1 ?_;intro x4;have k4':Kp x2.nx x2 x4:=((Kp.refl _ x2).add (Nat.le_refl _) _).wr (Nat.le_refl _) _ _;have n4:x4.nx=x2.nx+1:=by show(Hp.wr _ _ _ _).nx=_;rw[nx_wr,nx_add]
     have k4u:Kp u3.nx x x4:=k2u.trans (k4'.le (by omega));have k41:Kp x1.nx x1 x4:=k2.trans (k4'.le m2);haveI:Ft x1 x4:=k41.ex (Nat.le_refl _);have F4:IntsAt x4 a3 n3 (fieldsW W p):=(IntsAt.but bx1 gx sp.at_).to x4;have u4k:Kp u3.nx u3 x4:=kx0.trans k4u;haveI:Ft h44 x4:=(eu.trans (u4k.le (by omega))).ex (Nat.le_refl _);have B4:BoolsAt x4 a n (beginP W l):=B.to x4;have v54:x4.get h44.nx=_:=(u4k.get _ (by omega)).trans v5;have fl:(fieldsW W p).length<1000000:=by unfold fieldsW;simp;omega
     have kg4:Kp g.nx g x4:=kgx.trans (k4u.le ku.nx);have gd4:GdLt x4 g.nx:=ok.lt.kp kg4;have gl4:x4.get u3.nx=_:=(k41.get _ (by omega)).trans gx1;have r42:x4.get g1.nx=_:=(u4k.get _ (by omega)).trans ((eu.get _ (by omega)).trans q2);have r43:x4.get g2.nx=_:=(u4k.get _ (by omega)).trans ((eu.get _ (by omega)).trans q3);refine⟨_,_,ct76 hO F4 fl (p:=fun w=> !(fieldB (beginP W l) (hdK W[p]) w)) (fun w hw=>ct126 hO B4 (hW _ (List.mem_of_mem_drop (List.mem_of_mem_take hw))) (read1 (i:=0) v54 rfl) (read1 (i:=0) w2 rfl)),vcond_split (fun h9=> ?_) fun h9=> ?_⟩
     · obtain⟨d2,w3⟩:=one_wr r42 (gd4.free (by omega)) (w:= .slice none 0 0) rfl;refine vreq_t d2 ?_;intro x5;have gd5:GdLt x5 g.nx:=fun q hq=>gd4 q (by rwa [show x5.gd=x4.gd from gd_wr ..]at hq);have r53:x5.get g2.nx=_:=(wr_get_ne _ _ _ _ (by omega)).trans r43;obtain⟨d3,w4⟩:=one_wr r53 (gd5.free (by omega)) (w:= .int .i64 2) rfl;refine vreq_t d3 ?_;intro x6;have gd6:GdLt x6 g.nx:=fun q hq=>gd5 q (by rwa [show x6.gd=x5.gd from gd_wr ..]at hq);have gl6:x6.get u3.nx=_:=(wr_get_ne _ _ _ _ (by omega)).trans ((wr_get_ne _ _ _ _ (by omega)).trans gl4);have w36:x6.get g1.nx=_:=(wr_get_ne _ _ _ _ (by omega)).trans w3;have n6:x6.nx=x4.nx:=by show(Hp.wr _ _ _ _).nx=_;rw[nx_wr];exact nx_wr ..
       refine vout_r gl6 (gd6.free ku.nx) fun x7 r' gr e1 e2 b7=> .inr ⟨rfl,?_,by rw[b7.nx];omega,⟨r',gr,e1,e2⟩,(b7.get _ (by omega)).trans w36,(b7.get _ (by omega)).trans w4,?_⟩
       · exact((kg4.wr (by omega) _ _).wr (by omega) _ _).trans (b7.kp ku.nx (by omega))
       · rw[ha,List.all_cons];have:okc W (beginP W l) p=false:=by
          unfold okc;rw[gWp];cases hall:(fieldsW W p).all (fieldB (beginP W l) (hdK W[p]))with
          |false=>rfl
          |true=>
           obtain⟨w,hw,hf⟩:=List.any_eq_true.1 h9;rw[List.all_eq_true.1 hall w hw]at hf;cases hf
         rw[this,Bool.false_and]
     · refine vout_n gl4 rfl rfl (gd4.free ku.nx) fun x7 gl7 b7=> .inl ⟨rfl,?_,?_,by rw[b7.nx];omega,gl7,?_⟩
       · exact kx.trans (k4u.trans (b7.kp (Nat.le_refl _) (by omega)))
       · exact okx.kp (k4u.trans (b7.kp (Nat.le_refl _) (by omega)))
       · rw[ha,List.all_cons];have:okc W (beginP W l) p=true:=by
          unfold okc;rw[gWp,List.all_eq_true];intro w hw;have:=List.any_eq_false.1 h9 w hw;simpa using this
         rw[this,Bool.true_and]
   · rintro x ⟨kx,okx,nx,gx,ha⟩;have kx0:Kp u3.nx u3 x:=((Kp.refl _ u3).add (Nat.le_refl _) _).trans kx;have kgx:Kp g.nx g x:=ku.trans (kx0.le ku.nx);have gdx:GdLt x g.nx:=ok.lt.kp kgx;refine vend_n gx (by show(0:Nat)≠1;decide) rfl (gdx.free ku.nx) fun bd=> ?_;have kd:Kp u3.nx x (x.del u3.nx):=bd.kp (Nat.le_refl _) nx;have nd:(x.del u3.nx).nx=x.nx:=bd.nx;have kud:Kp u3.nx u3 (x.del u3.nx):=kx0.trans kd;have kgd:Kp g.nx g (x.del u3.nx):=kgx.trans (kd.le ku.nx);have gdd:GdLt (x.del u3.nx) g.nx:=ok.lt.kp kgd;have v5d:(x.del u3.nx).get h44.nx=_:=(kud.get _ (by omega)).trans v5;have rd2:(x.del u3.nx).get g1.nx=_:=(kud.get _ (by omega)).trans ((eu.get _ (by omega)).trans q2);have rd3:(x.del u3.nx).get g2.nx=_:=(kud.get _ (by omega)).trans ((eu.get _ (by omega)).trans q3);generalize hy:x.del u3.nx=y at *;refine⟨_,_,_,read1 (i:=0) v5d rfl,?_⟩;obtain⟨d2,w3⟩:=one_wr rd2 (gdd.free (by omega)) (w:= .slice a n c) rfl;refine vreq_t d2 ?_;intro y1;have gd1:GdLt y1 g.nx:=fun q hq=>gdd q (by rwa [show y1.gd=y.gd from gd_wr ..]at hq);have rd3':y1.get g2.nx=_:=(wr_get_ne _ _ _ _ (by omega)).trans rd3;obtain⟨d3,w4⟩:=one_wr rd3' (gd1.free (by omega)) (w:= .int .i64 0) rfl;refine vreq_t d3 ?_;intro y2;have w3':y2.get g1.nx=_:=(wr_get_ne _ _ _ _ (by omega)).trans w3;refine⟨_,_,_,read1 (i:=0) w3' rfl,_,read1 (i:=0) w4 rfl,_,_,_,_,rfl,(kgd.wr (by omega) _ _).wr (by omega) _ _,?_⟩;rw[c0,if_pos (by rw[ha];rfl)];refine⟨rfl,?_⟩;haveI:Ft h44 y:=(eu.trans (kud.le (by omega))).ex (Nat.le_refl _);refine(B.to y).keep (fun b off hb=> ?_) (by rw[show y2.nx=y.nx by show(Hp.wr _ _ _ _).nx=_;rw[nx_wr];exact nx_wr ..];exact Nat.le_refl _) (fun _ _ h=>h);have:=fresh b off hb;exact(wr_get_ne _ _ _ _ (by omega)).trans (wr_get_ne _ _ _ _ (by omega))
   · rintro x ⟨kx,nx,⟨r',gr,e1,e2⟩,x2,x3,ha⟩;have gdx:GdLt x g.nx:=ok.lt.kp kx;refine vend_r gr (by rw[e1];decide) e2 (gdx.free ku.nx) fun bd=> ?_;refine⟨_,_,_,read1 (i:=0) ((bd.get _ (by omega)).trans x2) rfl,_,read1 (i:=0) ((bd.get _ (by omega)).trans x3) rfl,_,_,_,_,rfl,kx.trans (bd.kp ku.nx nx),?_⟩;rw[c0,if_neg (by rw[ha];exact Bool.false_ne_true)]
end
end Go.Proofs.YtngcjpkccnfjiaaGreatDoor
namespace Go.Proofs.YtngcjpkccnfjiaaGreatDoor
open Go Go.Ev
set_option maxRecDepth 100000
set_option linter.unusedVariables false
noncomputable def b62:Code:=(Tryz.f62.body).getD .skip
noncomputable def stk62_0:List KI:=[.code (sub [1,1,1,1,0,1,0] b62),.blk 0,.code (sub [1,1,1,1,1] b62)]
noncomputable def stk62_1:List KI:=[.code (sub [1,1,1,1,1,1,0,1,0] b62),.blk 2,.code (sub [1,1,1,1,1,1,1] b62)]
def lv62:List (Nat×List Nat):=[(0,[2,6,7,8,9,10,41,42,43]),(2,[6,7,8,9,10,13,56,57,58])]
def I62_0 (O:CallF)(Q:VQ)(a0_0:OA)(n0_0 c0_0:Nat)(x0_1:Int)(a0_2:OA)(n0_2 c0_2:Nat)(x1:Int)(a2:OA)(n2 c2 b6 f6 b9 f9 b10 f10:Nat)(a41:OA)(n41 c41:Nat)(x42 x43:Int)(h:Hp):Prop:=RKL Tryz.prog O Tryz.f62 stk62_0 90 [2,6,7,8,9,10,41,42,43] [.slice a2 n2 c2,.pointer (some ⟨b6,f6,none⟩),.slice none 0 0,.pointer none,.pointer (some ⟨b9,f9,none⟩),.pointer (some ⟨b10,f10,none⟩),.slice a41 n41 c41,.int .i64 x42,.int .i64 x43] h Q
def I62_1 (O:CallF)(Q:VQ)(a0_0:OA)(n0_0 c0_0:Nat)(x0_1:Int)(a0_2:OA)(n0_2 c0_2:Nat)(x1:Int)(a2:OA)(n2 c2 b6 f6 b9 f9 b10 f10:Nat)(a13:OA)(n13 c13:Nat)(x58:Int)(h:Hp):Prop:=RKL Tryz.prog O Tryz.f62 stk62_1 90 [6,7,8,9,10,13,56,57,58] [.pointer (some ⟨b6,f6,none⟩),.slice none 0 0,.pointer none,.pointer (some ⟨b9,f9,none⟩),.pointer (some ⟨b10,f10,none⟩),.slice a13 n13 c13,.slice a2 n2 c2,.int .i64 (Int.ofNat n2),.int .i64 x58] h Q
def T62 (O:CallF)(Q:VQ)(a0_0:OA)(n0_0 c0_0:Nat)(x0_1:Int)(a0_2:OA)(n0_2 c0_2:Nat)(x1:Int)(a2:OA)(n2 c2:Nat)(h:Hp):Prop:=
 let g1:=h.add (.cells (v24 a0_0 n0_0 c0_0 x0_1 a0_2 n0_2 c0_2) 24 .fix)
 let g2:=g1.add (.cells (v24 none 0 0 0 none 0 0) 24 .fix)
 let g3:=g2.rsv 15
 ∃a4 n5 c6,readAt g3 h.nx 0 1=some [.slice a4 n5 c6]∧
 ∃a7 n8 c9,readAt g3 h.nx 0 1=some [.slice a7 n8 c9]∧
 ∃a10 n11 c12,readAt g3 h.nx 0 1=some [.slice a10 n11 c12]∧
 vreq (Nat.ble n8 n8)
 (vreq (Nat.ble (n8*8) 281474976710656)
 (vreq (Nat.blt n8 big)
 (vreq (g3.free (g2.nx+6))
 (let g13:=g3.lay (g2.nx+6) (.cells (List.flatten (List.replicate n8 [.int .i64 0])) 3 .fix)
 vreq (Nat.ble n11 n11)
 (vreq (Nat.ble (n11*8) 281474976710656)
 (vreq (Nat.blt n11 big)
 (vreq (g13.free (g2.nx+10))
 (let g14:=g13.lay (g2.nx+10) (.cells (List.flatten (List.replicate n11 [.int .i64 0])) 3 .fix)
 vreq (g14.free (g2.nx+13))
 (let g15:=g14.lay (g2.nx+13) (.cells [.slice a4 n5 c6,.int .i64 x1,.slice (some ⟨(g2.nx+6),0,none⟩) n8 n8,.slice none 0 0,.slice (some ⟨(g2.nx+10),0,none⟩) n11 n11,.int .i64 x1] 113 .fix)
 let g16:=g15.rsv 9
 ∃a17 n18 c19,readAt g16 (g2.nx+13) 4 1=some [.slice a17 n18 c19]∧
 ∃a20 n21 c22,readAt g16 h.nx 0 1=some [.slice a20 n21 c22]∧
 ∃a23 n24 c25,sliceV Tryz.prog g16 22 (.slice a20 n21 c22) none (some (.int .i64 x1)) none=some (.slice a23 n24 c25)∧
 ∃x26 h27,copyV Tryz.prog (g16.grd []) 22 (.slice a17 n18 c19) (.slice a23 n24 c25)=some (.int .i64 x26,h27)∧
 let g28:=h27.rst g16
 let g29:=g28.add (.cells (v24 none 0 0 0 none 0 0) 24 .fix)
 vreq (canW g29 g28.nx 0 (v24 none 0 0 0 none 0 0))
 (let g30:=g29.wr g28.nx 0 (v24 none 0 0 0 none 0 0)
 ∃a31 n32 c33,readAt g30 h.nx 2 1=some [.slice a31 n32 c33]∧
 I62_0 O Q a0_0 n0_0 c0_0 x0_1 a0_2 n0_2 c0_2 x1 a2 n2 c2 g1.nx 0 (g2.nx+13) 0 g28.nx 0 a31 n32 c33 (Int.ofNat n32) 0 g30))))))))))
theorem rk62 {O Q} (a0_0 n0_0 c0_0 x0_1 a0_2 n0_2 c0_2 x1 a2 n2 c2){h:Hp}(hO:O 62 [.agg (w24 a0_0 n0_0 c0_0 x0_1 a0_2 n0_2 c0_2),.int .i64 x1,.slice a2 n2 c2] h=none)(hh:T62 O Q a0_0 n0_0 c0_0 x0_1 a0_2 n0_2 c0_2 x1 a2 n2 c2 h):Ret Tryz.prog O 62 [.agg (w24 a0_0 n0_0 c0_0 x0_1 a0_2 n0_2 c0_2),.int .i64 x1,.slice a2 n2 c2] h Q:=
 .of (c:=b62) Tryz.func62 (by kernel_rfl) hO (V_ok (tb:=lv62) (cuts:=[]) 500 (Eq.mp (by kernel_rfl) hh))
def T62_0 (O:CallF)(Q:VQ)(a0_0:OA)(n0_0 c0_0:Nat)(x0_1:Int)(a0_2:OA)(n0_2 c0_2:Nat)(x1:Int)(a2:OA)(n2 c2 b6 f6 b9 f9 b10 f10:Nat)(a41:OA)(n41 c41:Nat)(x42 x43:Int)(h:Hp):Prop:=
 vcond (ltI x43 x42)
 (isNat x43 fun n101=>
 isAddr a41 fun b102 f103=>
 vreq (Nat.blt n101 n41)
 (∃x104,readAt h b102 (f103+(n101*1)) 1=some [.int .i64 x104]∧
 let g105:=h.rsv 9
 ∃a106 n107 c108,readAt g105 b10 (f10+2) 1=some [.slice a106 n107 c108]∧
 ∃x109 h110,EvC Tryz.prog O 117 [.pointer (some ⟨b9,f9,none⟩),.int .i64 x104] (g105.grd [b10]) (.int .i64 x109) h110∧
 let g111:=h110.rst g105
 vreq (g111.free (h.nx+5))
 (let g112:=g111.lay (h.nx+5) (.cells [.int .i64 x109] 3 .fix)
 ∃a113 n114 c115 h116,appendV Tryz.prog (g112.grd []) 22 22 (.slice a106 n107 c108) (.slice (some ⟨(h.nx+5),0,none⟩) 1 1)=some (.slice a113 n114 c115,h116)∧
 let g117:=h116.rst g112
 vreq (canW (g117.grd []) b10 (f10+2) [.slice a113 n114 c115])
 (let g118:=(g117.grd []).wr b10 (f10+2) [.slice a113 n114 c115]
 let g119:=g118.rst g117
 I62_0 O Q a0_0 n0_0 c0_0 x0_1 a0_2 n0_2 c0_2 x1 a2 n2 c2 b6 f6 b9 f9 b10 f10 a41 n41 c41 x42 (wrapF .i64 (x43+1)) g119))))
 (I62_1 O Q a0_0 n0_0 c0_0 x0_1 a0_2 n0_2 c0_2 x1 a2 n2 c2 b6 f6 b9 f9 b10 f10 none 0 0 0 h)
theorem I62_0.of {O Q} (a0_0 n0_0 c0_0 x0_1 a0_2 n0_2 c0_2 x1 a2 n2 c2 b6 f6 b9 f9 b10 f10 a41 n41 c41 x42 x43){h:Hp}(hh:T62_0 O Q a0_0 n0_0 c0_0 x0_1 a0_2 n0_2 c0_2 x1 a2 n2 c2 b6 f6 b9 f9 b10 f10 a41 n41 c41 x42 x43 h):I62_0 O Q a0_0 n0_0 c0_0 x0_1 a0_2 n0_2 c0_2 x1 a2 n2 c2 b6 f6 b9 f9 b10 f10 a41 n41 c41 x42 x43 h:=
 RKL.of (tb:=lv62) (cuts:=[]) 500 fun _=>Eq.mp (by kernel_rfl) hh
def T62_1 (O:CallF)(Q:VQ)(a0_0:OA)(n0_0 c0_0:Nat)(x0_1:Int)(a0_2:OA)(n0_2 c0_2:Nat)(x1:Int)(a2:OA)(n2 c2 b6 f6 b9 f9 b10 f10:Nat)(a13:OA)(n13 c13:Nat)(x58:Int)(h:Hp):Prop:=
 vcond (ltI x58 (Int.ofNat n2))
 (isNat x58 fun n201=>
 isAddr a2 fun b202 f203=>
 vreq (Nat.blt n201 n2)
 (∃x204,readAt h b202 (f203+(n201*1)) 1=some [.int .i64 x204]∧
 ∃x205 h206,EvC Tryz.prog O 117 [.pointer (some ⟨b9,f9,none⟩),.int .i64 x204] h (.int .i64 x205) h206∧
 let g207:=h206.add (.cells [.int .i64 x205] 3 .fix)
 ∃a208 n209 c210 h211,appendV Tryz.prog g207 22 22 (.slice a13 n13 c13) (.slice (some ⟨h206.nx,0,none⟩) 1 1)=some (.slice a208 n209 c210,h211)∧
 I62_1 O Q a0_0 n0_0 c0_0 x0_1 a0_2 n0_2 c0_2 x1 a2 n2 c2 b6 f6 b9 f9 b10 f10 a208 n209 c210 (wrapF .i64 (x58+1)) h211))
 (∃h212,EvC Tryz.prog O 118 [.pointer (some ⟨b9,f9,none⟩),.int .i64 1,.func (.func 119) #[] #[],.func (.func 117) #[.pointer (some ⟨b9,f9,none⟩)] #[]] h undef h212∧
 ∃h213,EvC Tryz.prog O 118 [.pointer (some ⟨b9,f9,none⟩),.int .i64 1,.func (.func 120) #[] #[],.func (.func 121) #[.pointer (some ⟨b9,f9,none⟩)] #[]] h212 undef h213∧
 let g214:=h213.rsv 12
 ∃a215 n216 c217,readAt g214 b9 (f9+4) 1=some [.slice a215 n216 c217]∧
 ∃x218,readAt g214 b9 (f9+5) 1=some [.int .i64 x218]∧
 vreq (canW (g214.grd [b9]) b10 (f10+0) [.slice a215 n216 c217])
 (let g219:=(g214.grd [b9]).wr b10 (f10+0) [.slice a215 n216 c217]
 let g220:=g219.rst g214
 vreq (canW (g220.grd []) b10 (f10+1) [.int .i64 x218])
 (let g221:=(g220.grd []).wr b10 (f10+1) [.int .i64 x218]
 let g222:=g221.rst g220
 ∃a223 n224 c225 x226 a227 n228 c229,readAt g222 b10 f10 3=some (v24 a223 n224 c225 x226 a227 n228 c229)∧
 vreq (canW g222 b6 f6 (v24 a223 n224 c225 x226 a227 n228 c229))
 (let g230:=g222.wr b6 f6 (v24 a223 n224 c225 x226 a227 n228 c229)
 ∃a231 n232 c233 x234 a235 n236 c237,readAt g230 b6 f6 3=some (v24 a231 n232 c233 x234 a235 n236 c237)∧
 Q (.tuple #[.agg (w24 a231 n232 c233 x234 a235 n236 c237),.slice a13 n13 c13,.pointer (some ⟨b9,f9,none⟩)]) g230))))
theorem I62_1.of {O Q} (a0_0 n0_0 c0_0 x0_1 a0_2 n0_2 c0_2 x1 a2 n2 c2 b6 f6 b9 f9 b10 f10 a13 n13 c13 x58){h:Hp}(hh:T62_1 O Q a0_0 n0_0 c0_0 x0_1 a0_2 n0_2 c0_2 x1 a2 n2 c2 b6 f6 b9 f9 b10 f10 a13 n13 c13 x58 h):I62_1 O Q a0_0 n0_0 c0_0 x0_1 a0_2 n0_2 c0_2 x1 a2 n2 c2 b6 f6 b9 f9 b10 f10 a13 n13 c13 x58 h:=
 RKL.of (tb:=lv62) (cuts:=[]) 500 fun _=>Eq.mp (by kernel_rfl) hh
noncomputable def b117:Code:=(Tryz.f117.body).getD .skip
def lv117:List (Nat×List Nat):=[]
def T117 (O:CallF)(Q:VQ)(b0 f0:Nat)(x1:Int)(h:Hp):Prop:=
 vcond (!(eqI (Int.tmod x1 2) 0))
 (Q (.int .i64 x1) h)
 (∃x1',readAt h b0 (f0+1) 1=some [.int .i64 x1']∧
 vcond (ltI (wrapF .i64 (Int.tdiv x1 2)) (maxI x1' 1))
 (Q (.int .i64 x1) h)
 (∃a2 n3 c4,readAt h b0 (f0+2) 1=some [.slice a2 n3 c4]∧
 isNat (wrapF .i64 (Int.tdiv x1 2)) fun n5=>
 isAddr a2 fun b6 f7=>
 vreq (Nat.blt n5 n3)
 (∃x8,readAt h b6 (f7+(n5*1)) 1=some [.int .i64 x8]∧
 vcond (!(eqI x8 0))
 (∃a9 n10 c11,readAt h b0 (f0+2) 1=some [.slice a9 n10 c11]∧
 isNat (wrapF .i64 (Int.tdiv x1 2)) fun n12=>
 isAddr a9 fun b13 f14=>
 vreq (Nat.blt n12 n10)
 (∃x15,readAt h b13 (f14+(n12*1)) 1=some [.int .i64 x15]∧
 Q (.int .i64 (wrapF .i64 (2*x15))) h))
 (let g16:=h.rsv 11
 ∃a17 n18 c19,readAt g16 b0 (f0+2) 1=some [.slice a17 n18 c19]∧
 ∃x20,readAt g16 b0 (f0+5) 1=some [.int .i64 x20]∧
 isNat (wrapF .i64 (Int.tdiv x1 2)) fun n21=>
 isAddr a17 fun b22 f23=>
 vreq (Nat.blt n21 n18)
 (vreq (canW (g16.grd []) b22 (f23+(n21*1)) [.int .i64 x20])
 (let g24:=(g16.grd []).wr b22 (f23+(n21*1)) [.int .i64 x20]
 let g25:=g24.rst g16
 ∃a26 n27 c28,readAt g25 b0 (f0+3) 1=some [.slice a26 n27 c28]∧
 let g29:=g25.add (.cells [.int .i64 (wrapF .i64 (Int.tdiv x1 2))] 3 .fix)
 ∃a30 n31 c32 h33,appendV Tryz.prog g29 22 22 (.slice a26 n27 c28) (.slice (some ⟨g25.nx,0,none⟩) 1 1)=some (.slice a30 n31 c32,h33)∧
 vreq (canW h33 b0 (f0+3) [.slice a30 n31 c32])
 (let g34:=h33.wr b0 (f0+3) [.slice a30 n31 c32]
 let g35:=g34.rsv 36
 ∃x36,readAt g35 b0 (f0+5) 1=some [.int .i64 x36]∧
 ∃a37 n38 c39,readAt g35 b0 (f0+4) 1=some [.slice a37 n38 c39]∧
 ∃x40,readAt g35 b0 (f0+5) 1=some [.int .i64 x40]∧
 ∃a41 n42 c43,sliceV Tryz.prog g35 22 (.slice a37 n38 c39) (some (.int .i64 x40)) none none=some (.slice a41 n42 c43)∧
 ∃a44 n45 c46,readAt g35 b0 (f0+0) 1=some [.slice a44 n45 c46]∧
 ∃a47 n48 c49,readAt g35 b0 (f0+0) 1=some [.slice a47 n48 c49]∧
 isNat (wrapF .i64 (Int.tdiv x1 2)) fun n50=>
 isAddr a47 fun b51 f52=>
 vreq (Nat.blt n50 n48)
 (∃x53,readAt g35 b51 (f52+(n50*1)) 1=some [.int .i64 x53]∧
 ∃x54 x55 h56,EvC Tryz.prog O 86 [.int .i64 x53] (g35.grd (b0::(blocksOf (.slice a37 n38 c39)++(b0::(b0::(b0::[])))))) (.agg #[.int .i64 x54,.int .i64 x55]) h56∧
 let g57:=h56.rst g35
 ∃a58 n59 c60,sliceV Tryz.prog g57 22 (.slice a44 n45 c46) (some (.int .i64 (wrapF .i64 (Int.tdiv x1 2)))) (some (.int .i64 (wrapF .i64 ((wrapF .i64 ((wrapF .i64 (Int.tdiv x1 2))+1))+x54)))) none=some (.slice a58 n59 c60)∧
 ∃x61 h62,copyV Tryz.prog (g57.grd [b0]) 22 (.slice a41 n42 c43) (.slice a58 n59 c60)=some (.int .i64 x61,h62)∧
 let g63:=h62.rst g57
 vreq (canW (g63.grd []) b0 (f0+5) [.int .i64 (wrapF .i64 (x36+x61))])
 (let g64:=(g63.grd []).wr b0 (f0+5) [.int .i64 (wrapF .i64 (x36+x61))]
 let g65:=g64.rst g63
 ∃a66 n67 c68,readAt g65 b0 (f0+2) 1=some [.slice a66 n67 c68]∧
 isNat (wrapF .i64 (Int.tdiv x1 2)) fun n69=>
 isAddr a66 fun b70 f71=>
 vreq (Nat.blt n69 n67)
 (∃x72,readAt g65 b70 (f71+(n69*1)) 1=some [.int .i64 x72]∧
 Q (.int .i64 (wrapF .i64 (2*x72))) g65))))))))))
theorem rk117 {O Q} (b0 f0 x1){h:Hp}(hO:O 117 [.pointer (some ⟨b0,f0,none⟩),.int .i64 x1] h=none)(hh:T117 O Q b0 f0 x1 h):Ret Tryz.prog O 117 [.pointer (some ⟨b0,f0,none⟩),.int .i64 x1] h Q:=
 .of (c:=b117) Tryz.func117 (by kernel_rfl) hO (V_ok (tb:=lv117) (cuts:=[]) 500 (Eq.mp (by kernel_rfl) hh))
noncomputable def b118:Code:=(Tryz.f118.body).getD .skip
noncomputable def stk118_0:List KI:=[.code (sub [1,0] b118),.blk 0]
noncomputable def stk118_1:List KI:=[.code (sub [1,0,0,1,0,1,0,1,0,1,0] b118),.blk 2,.code (sub [1,0,0,1,0,1,1] b118),.blk 1,.code (sub [1,0] b118),.blk 0]
def lv118:List (Nat×List Nat):=[(0,[0,2,3,8]),(2,[0,2,3,8,9,10])]
def I118_0 (O:CallF)(Q:VQ)(b0 f0:Nat)(x1:Int)(g2:Nat)(fi2 ca2:Array Value)(g3:Nat)(fi3 ca3:Array Value)(g2s:Nat)(fi2s ca2s:Array Value)(g3s:Nat)(fi3s ca3s:Array Value)(x8:Int)(h:Hp):Prop:=RKL Tryz.prog O Tryz.f118 stk118_0 61 [0,2,3,8] [.pointer (some ⟨b0,f0,none⟩),.func (.func g2s) fi2s ca2s,.func (.func g3s) fi3s ca3s,.int .i64 x8] h Q
def I118_1 (O:CallF)(Q:VQ)(b0 f0:Nat)(x1:Int)(g2:Nat)(fi2 ca2:Array Value)(g3:Nat)(fi3 ca3:Array Value)(g2s:Nat)(fi2s ca2s:Array Value)(g3s:Nat)(fi3s ca3s:Array Value)(x8:Int)(b9 f9:Nat)(x10:Int)(h:Hp):Prop:=RKL Tryz.prog O Tryz.f118 stk118_1 61 [0,2,3,8,9,10] [.pointer (some ⟨b0,f0,none⟩),.func (.func g2s) fi2s ca2s,.func (.func g3s) fi3s ca3s,.int .i64 x8,.pointer (some ⟨b9,f9,none⟩),.int .i64 x10] h Q
def T118 (O:CallF)(Q:VQ)(b0 f0:Nat)(x1:Int)(g2:Nat)(fi2 ca2:Array Value)(g3:Nat)(fi3 ca3:Array Value)(h:Hp):Prop:=
 I118_0 O Q b0 f0 x1 g2 fi2 ca2 g3 fi3 ca3 g2 fi2 ca2 g3 fi3 ca3 x1 h
theorem rk118 {O Q} (b0 f0 x1 g2 fi2 ca2 g3 fi3 ca3){h:Hp}(hO:O 118 [.pointer (some ⟨b0,f0,none⟩),.int .i64 x1,.func (.func g2) fi2 ca2,.func (.func g3) fi3 ca3] h=none)(hh:T118 O Q b0 f0 x1 g2 fi2 ca2 g3 fi3 ca3 h):Ret Tryz.prog O 118 [.pointer (some ⟨b0,f0,none⟩),.int .i64 x1,.func (.func g2) fi2 ca2,.func (.func g3) fi3 ca3] h Q:=
 .of (c:=b118) Tryz.func118 (by kernel_rfl) hO (V_ok (tb:=lv118) (cuts:=[]) 500 (Eq.mp (by kernel_rfl) hh))
def T118_0 (O:CallF)(Q:VQ)(b0 f0:Nat)(x1:Int)(g2:Nat)(fi2 ca2:Array Value)(g3:Nat)(fi3 ca3:Array Value)(g2s:Nat)(fi2s ca2s:Array Value)(g3s:Nat)(fi3s ca3s:Array Value)(x8:Int)(h:Hp):Prop:=
 ∃x101,readAt h b0 (f0+5) 1=some [.int .i64 x101]∧
 vcond (ltI x8 x101)
 (∃a102 n103 c104,readAt h b0 (f0+4) 1=some [.slice a102 n103 c104]∧
 isNat x8 fun n105=>
 isAddr a102 fun b106 f107=>
 vreq (Nat.blt n105 n103)
 (∃x108,readAt h b106 (f107+(n105*1)) 1=some [.int .i64 x108]∧
 ∃x109 x110 h111,EvC Tryz.prog O 86 [.int .i64 x108] h (.agg #[.int .i64 x109,.int .i64 x110]) h111∧
 let g112:=h111.add (.cells [.int .i64 0,.int .i64 0] 117 .fix)
 vreq (canW g112 h111.nx 0 [.int .i64 x109,.int .i64 x110])
 (let g113:=g112.wr h111.nx 0 [.int .i64 x109,.int .i64 x110]
 ∃x114 x115,readAt g113 h111.nx 0 2=some [.int .i64 x114,.int .i64 x115]∧
 ∃q116 h117,EvC Tryz.prog O g2s (fi2s.toList++[.agg #[.int .i64 x114,.int .i64 x115]]++ca2s.toList) g113 (.bool q116) h117∧
 vcond q116
 (I118_1 O Q b0 f0 x1 g2 fi2 ca2 g3 fi3 ca3 g2s fi2s ca2s g3s fi3s ca3s x8 h111.nx 0 (wrapF .i64 (x8+1)) h117)
 (∃x118,readAt h117 h111.nx 0 1=some [.int .i64 x118]∧
 I118_0 O Q b0 f0 x1 g2 fi2 ca2 g3 fi3 ca3 g2s fi2s ca2s g3s fi3s ca3s (wrapF .i64 (x8+(wrapF .i64 (1+x118)))) h117))))
 (Q undef h)
theorem I118_0.of {O Q} (b0 f0 x1 g2 fi2 ca2 g3 fi3 ca3 g2s fi2s ca2s g3s fi3s ca3s x8){h:Hp}(hh:T118_0 O Q b0 f0 x1 g2 fi2 ca2 g3 fi3 ca3 g2s fi2s ca2s g3s fi3s ca3s x8 h):I118_0 O Q b0 f0 x1 g2 fi2 ca2 g3 fi3 ca3 g2s fi2s ca2s g3s fi3s ca3s x8 h:=
 RKL.of (tb:=lv118) (cuts:=[]) 500 fun _=>Eq.mp (by kernel_rfl) hh
def T118_1 (O:CallF)(Q:VQ)(b0 f0:Nat)(x1:Int)(g2:Nat)(fi2 ca2:Array Value)(g3:Nat)(fi3 ca3:Array Value)(g2s:Nat)(fi2s ca2s:Array Value)(g3s:Nat)(fi3s ca3s:Array Value)(x8:Int)(b9 f9:Nat)(x10:Int)(h:Hp):Prop:=
 ∃x201,readAt h b9 (f9+0) 1=some [.int .i64 x201]∧
 vcond (!(ltI (wrapF .i64 (x8+x201)) x10))
 (∃a202 n203 c204,readAt h b0 (f0+4) 1=some [.slice a202 n203 c204]∧
 isNat x10 fun n205=>
 isAddr a202 fun b206 f207=>
 vreq (Nat.blt n205 n203)
 (∃x208,readAt h b206 (f207+(n205*1)) 1=some [.int .i64 x208]∧
 ∃x209 h210,EvC Tryz.prog O g3s (fi3s.toList++[.int .i64 x208]++ca3s.toList) h (.int .i64 x209) h210∧
 ∃a211 n212 c213,readAt h210 b0 (f0+4) 1=some [.slice a211 n212 c213]∧
 isNat x10 fun n214=>
 isAddr a211 fun b215 f216=>
 vreq (Nat.blt n214 n212)
 (vreq (canW h210 b215 (f216+(n214*1)) [.int .i64 x209])
 (let g217:=h210.wr b215 (f216+(n214*1)) [.int .i64 x209]
 I118_1 O Q b0 f0 x1 g2 fi2 ca2 g3 fi3 ca3 g2s fi2s ca2s g3s fi3s ca3s x8 b9 f9 (wrapF .i64 (x10+1)) g217))))
 (∃x218,readAt h b9 (f9+0) 1=some [.int .i64 x218]∧
 I118_0 O Q b0 f0 x1 g2 fi2 ca2 g3 fi3 ca3 g2s fi2s ca2s g3s fi3s ca3s (wrapF .i64 (x8+(wrapF .i64 (1+x218)))) h)
theorem I118_1.of {O Q} (b0 f0 x1 g2 fi2 ca2 g3 fi3 ca3 g2s fi2s ca2s g3s fi3s ca3s x8 b9 f9 x10){h:Hp}(hh:T118_1 O Q b0 f0 x1 g2 fi2 ca2 g3 fi3 ca3 g2s fi2s ca2s g3s fi3s ca3s x8 b9 f9 x10 h):I118_1 O Q b0 f0 x1 g2 fi2 ca2 g3 fi3 ca3 g2s fi2s ca2s g3s fi3s ca3s x8 b9 f9 x10 h:=
 RKL.of (tb:=lv118) (cuts:=[]) 500 fun _=>Eq.mp (by kernel_rfl) hh
noncomputable def b120:Code:=(Tryz.f120.body).getD .skip
def lv120:List (Nat×List Nat):=[]
def T120 (O:CallF)(Q:VQ)(x0_0 x0_1:Int)(h:Hp):Prop:=
 let g1:=h.add (.cells [.int .i64 x0_0,.int .i64 x0_1] 117 .fix)
 ∃x2,readAt g1 h.nx 1 1=some [.int .i64 x2]∧
 Q (.bool (eqI x2 5)) g1
theorem rk120 {O Q} (x0_0 x0_1){h:Hp}(hO:O 120 [.agg #[.int .i64 x0_0,.int .i64 x0_1]] h=none)(hh:T120 O Q x0_0 x0_1 h):Ret Tryz.prog O 120 [.agg #[.int .i64 x0_0,.int .i64 x0_1]] h Q:=
 .of (c:=b120) Tryz.func120 (by kernel_rfl) hO (V_ok (tb:=lv120) (cuts:=[]) 500 (Eq.mp (by kernel_rfl) hh))
noncomputable def b121:Code:=(Tryz.f121.body).getD .skip
def lv121:List (Nat×List Nat):=[]
def T121 (O:CallF)(Q:VQ)(b0 f0:Nat)(x1:Int)(h:Hp):Prop:=
 vcond (!(eqI (Int.tmod x1 2) 0))
 (Q (.int .i64 x1) h)
 (∃x1',readAt h b0 (f0+1) 1=some [.int .i64 x1']∧
 vcond (ltI (wrapF .i64 (Int.tdiv x1 2)) (maxI x1' 1))
 (Q (.int .i64 x1) h)
 (∃a2 n3 c4,readAt h b0 (f0+2) 1=some [.slice a2 n3 c4]∧
 isNat (wrapF .i64 (Int.tdiv x1 2)) fun n5=>
 isAddr a2 fun b6 f7=>
 vreq (Nat.blt n5 n3)
 (∃x8,readAt h b6 (f7+(n5*1)) 1=some [.int .i64 x8]∧
 Q (.int .i64 (wrapF .i64 (2*x8))) h)))
theorem rk121 {O Q} (b0 f0 x1){h:Hp}(hO:O 121 [.pointer (some ⟨b0,f0,none⟩),.int .i64 x1] h=none)(hh:T121 O Q b0 f0 x1 h):Ret Tryz.prog O 121 [.pointer (some ⟨b0,f0,none⟩),.int .i64 x1] h Q:=
 .of (c:=b121) Tryz.func121 (by kernel_rfl) hO (V_ok (tb:=lv121) (cuts:=[]) 500 (Eq.mp (by kernel_rfl) hh))
noncomputable def b38:Code:=(Tryz.f38.body).getD .skip
noncomputable def b15:Code:=(Tryz.f15.body).getD .skip
def lv15:List (Nat×List Nat):=[]
def T15 (O:CallF)(Q:VQ)(a0_0:OA)(n0_0 c0_0:Nat)(x0_1:Int)(a0_2:OA)(n0_2 c0_2:Nat)(h:Hp):Prop:=
 let g1:=h.add (.cells (v24 a0_0 n0_0 c0_0 x0_1 a0_2 n0_2 c0_2) 24 .fix)
 let g2:=g1.add (.cells (v24 none 0 0 0 none 0 0) 24 .fix)
 ∃a3 n4 c5 x6 a7 n8 c9,readAt g2 h.nx 0 3=some (v24 a3 n4 c5 x6 a7 n8 c9)∧
 ∃x10 h11,EvC Tryz.prog O 41 [.agg (w24 a3 n4 c5 x6 a7 n8 c9)] g2 (.int .i64 x10) h11∧
 vcond (!(eqI x10 0))
 (vreq (canW h11 g1.nx 0 (v24 none 0 0 0 none 0 0))
 (let g12:=h11.wr g1.nx 0 (v24 none 0 0 0 none 0 0)
 ∃a13 n14 c15 x16 a17 n18 c19,readAt g12 g1.nx 0 3=some (v24 a13 n14 c15 x16 a17 n18 c19)∧
 Q (.tuple #[.agg (w24 a13 n14 c15 x16 a17 n18 c19),.int .i64 x10]) g12))
 (∃a20 n21 c22 x23 a24 n25 c26,readAt h11 h.nx 0 3=some (v24 a20 n21 c22 x23 a24 n25 c26)∧
 ∃a27 n28 c29 x30 a31 n32 c33 a34 n35 c36 a37 h38,EvC Tryz.prog O 62 [.agg (w24 a20 n21 c22 x23 a24 n25 c26),.int .i64 1,.slice none 0 0] h11 (.tuple #[.agg (w24 a27 n28 c29 x30 a31 n32 c33),.slice a34 n35 c36,.pointer a37]) h38∧
 let g39:=h38.add (.cells (v24 none 0 0 0 none 0 0) 24 .fix)
 vreq (canW g39 h38.nx 0 (v24 a27 n28 c29 x30 a31 n32 c33))
 (let g40:=g39.wr h38.nx 0 (v24 a27 n28 c29 x30 a31 n32 c33)
 ∃a41 n42 c43 x44 a45 n46 c47,readAt g40 h38.nx 0 3=some (v24 a41 n42 c43 x44 a45 n46 c47)∧
 vreq (canW g40 g1.nx 0 (v24 a41 n42 c43 x44 a45 n46 c47))
 (let g48:=g40.wr g1.nx 0 (v24 a41 n42 c43 x44 a45 n46 c47)
 ∃a49 n50 c51 x52 a53 n54 c55,readAt g48 g1.nx 0 3=some (v24 a49 n50 c51 x52 a53 n54 c55)∧
 Q (.tuple #[.agg (w24 a49 n50 c51 x52 a53 n54 c55),.int .i64 0]) g48)))
theorem rk15 {O Q} (a0_0 n0_0 c0_0 x0_1 a0_2 n0_2 c0_2){h:Hp}(hO:O 15 [.agg (w24 a0_0 n0_0 c0_0 x0_1 a0_2 n0_2 c0_2)] h=none)(hh:T15 O Q a0_0 n0_0 c0_0 x0_1 a0_2 n0_2 c0_2 h):Ret Tryz.prog O 15 [.agg (w24 a0_0 n0_0 c0_0 x0_1 a0_2 n0_2 c0_2)] h Q:=
 .of (c:=b15) Tryz.func15 (by kernel_rfl) hO (V_ok (tb:=lv15) (cuts:=[]) 500 (Eq.mp (by kernel_rfl) hh))
noncomputable def b20:Code:=(Tryz.f20.body).getD .skip
end Go.Proofs.YtngcjpkccnfjiaaGreatDoor
