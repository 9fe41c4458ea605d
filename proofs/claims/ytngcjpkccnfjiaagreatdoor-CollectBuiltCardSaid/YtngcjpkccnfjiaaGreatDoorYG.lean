/- Contracts of the reference: cells are laid. -/
import Derived.Test.YtngcjpkccnfjiaaGreatDoorYF
import Derived.Test.YtngcjpkccnfjiaaGreatDoorProg
import Derived.Test.YtngcjpkccnfjiaaGreatDoorYC
import Derived.KernelRfl
import Derived.Test.YtngcjpkccnfjiaaGreatDoorYD
import Derived.Test.YtngcjpkccnfjiaaGreatDoorYE
namespace Go.Proofs.YtngcjpkccnfjiaaGreatDoor
set_option maxRecDepth 100000
open Go Go.Ev
def addrs (W:List Int):Nat→List Nat→List Nat
 |_,[]=>[]
 |b,x::xs=>b::addrs W (b+szW W x) xs
theorem addrs_length (W:List Int): ∀(l:List Nat) (b:Nat),(addrs W b l).length=l.length:=by
 intro l
 induction l with
 |nil=>intro b;rfl
 |cons x l ih=>intro b;show(addrs W (b+szW W x) l).length+1=l.length+1;rw[ih]
theorem addrs_app (W:List Int): ∀(l m:List Nat) (b:Nat),addrs W b (l++m)=addrs W b l++addrs W (b+totalW W l) m:=by
 intro l
 induction l with
 |nil=>intro m b;rfl
 |cons x l ih=>
  intro m b;show b::addrs W (b+szW W x) (l++m)=b::(addrs W (b+szW W x) l++addrs W (b+(szW W x+totalW W l)) m);rw[ih,Nat.add_assoc]
theorem addrs_get (W:List Int)(l:List Nat)(b k:Nat)(hk:k<l.length):(addrs W b l)[k]? =some (b+totalW W (l.take k)):=by
 have:l=l.take k++l.drop k:=(List.take_append_drop k l).symm
 conv=>lhs;rw[this]
 rw[addrs_app,List.getElem?_append_right (by rw[addrs_length,List.length_take];omega),addrs_length];rw[List.drop_eq_getElem_cons hk];have:k-(l.take k).length=0:=by simp;omega
 rw[this];rfl
structure Wr (oD:Nat)(h h':Hp):Prop where
 get: ∀o,o<h.nx→o≠oD→h'.get o=h.get o
 nx:h.nx≤h'.nx
 gd:h'.gd=h.gd
 fr:h.Fresh→h'.Fresh
theorem Wr.trans {oD:Nat}{h h' h'':Hp}(a:Wr oD h h')(b:Wr oD h' h''):Wr oD h h'':=⟨fun o ho hne=>(b.get o (Nat.lt_of_lt_of_le ho a.nx) hne).trans (a.get o ho hne),Nat.le_trans a.nx b.nx,b.gd.trans a.gd,fun f=>b.fr (a.fr f)⟩
theorem Wr.kp {oD:Nat}{h h':Hp}(k:Kp h.nx h h'):Wr oD h h':=⟨fun o ho _=>k.get o ho,k.nx,k.gd,k.fr⟩
theorem Wr.wr {oD:Nat}(h:Hp)(off:Nat)(vs:List Value):Wr oD h (h.wr oD off vs):=⟨fun _ _ hne=>wr_get_ne _ _ _ _ hne,by rw[nx_wr];exact Nat.le_refl _,gd_wr ..,fun f=>f.wr _ _ _⟩
theorem Wr.ft {oD:Nat}{g h h':Hp}(w:Wr oD h h')(f:Ft g h)(hg:g.nx≤oD):Ft g h':=⟨fun o ho=>(w.get o (Nat.lt_of_lt_of_le ho f.nx) (by omega)).trans (f.get o ho),Nat.le_trans f.nx w.nx⟩
theorem putAt_snoc {α:Type}{D c:List α}{k:Nat}{v:α}(h:k+c.length<D.length):(putAt D k c).set (k+c.length) v=putAt D k (c++[v]):=by
 refine List.ext_getElem? fun i=> ?_;rw[putAt_get _ _ _ (by simp;omega),List.getElem?_set,putAt_length,putAt_get _ _ _ (by omega)];simp only[List.length_append,List.length_cons,List.length_nil];by_cases h1:k+c.length=i
 · subst h1;rw[if_pos rfl,if_pos h,if_pos ⟨by omega,by omega⟩];rw[show k+c.length-k=c.length by omega];simp
 · rw[if_neg h1];by_cases h2:k≤i∧i<k+c.length
   · rw[if_pos h2,if_pos ⟨h2.1,by omega⟩,List.getElem?_append_left (by omega)]
   · rw[if_neg h2,if_neg (by omega)]
theorem putAt_nil {α:Type}: ∀(D:List α) (k:Nat),putAt D k []=D:=by
 intro D
 induction D with
 |nil=>intro k;cases k<;>rfl
 |cons d D ih=>intro k;cases k with
  |zero=>rfl
  |succ k=>show d::putAt D k []=_;rw[ih]
section
variable {O:CallF}(hO:Oth O)
include hO
theorem lp129 {h:Hp}{W:List Int}{a1:Option Addr}{n1 c1:Nat}{l:List Nat}(L:IntsAt h a1 n1 (l.map Int.ofNat)){a2:Option Addr}{n2 c2:Nat}{fr:Nat}(T:IntsAt h a2 n2 ((addrs W fr l).map Int.ofNat))(lt:fr+totalW W l<1000000)(x0 x3 x8:Int){a:Nat}{Q:Value→Hp→Prop}(hQ:Q (.int .i64 (2*(posF W fr l a:Int))) h):
 ∀(d k:Nat),k+d=l.length→posF W fr l a=posF W (fr+totalW W (l.take k)) (l.drop k) a→I129_0 O Q x0 a1 n1 c1 a2 n2 c2 x3 x8 (Int.ofNat a) (Int.ofNat k) h:=by
 have _:=hO;have hn:=L.1;rw[List.length_map]at hn;have hn2:=T.1;rw[List.length_map,addrs_length]at hn2;have hll:=length_total W l;intro d
 induction d with
 |zero=>
  intro k hk hp;refine I129_0.of _ _ _ _ _ _ _ _ _ _ _ ?_;unfold T129_0;refine vcond_f (by rw[ltI_nat];exact blt_f (by omega)) ?_;rw[List.drop_of_length_le (by omega)]at hp;rw[show posF W fr l a=0 from hp]at hQ;exact hQ
 |succ d ih=>
  intro k hk hp;have hk':k<l.length:=by omega
  refine I129_0.of _ _ _ _ _ _ _ _ _ _ _ ?_;unfold T129_0;rw[List.drop_eq_getElem_cons hk']at hp;refine vcond_t (by rw[ltI_nat];exact blt_t (by omega)) (isNat_i (L.rd (k:=k) (by simpa using hk') ?_));rw[List.getElem_map];refine vcond_split (fun h1=> ?_) fun h1=> ?_
  · have h1:l[k]=a:=Int.ofNat_inj.1 (eq_of_t h1);have hpos:posF W fr l a=fr+totalW W (l.take k):=by
     rw[hp];unfold posF;rw[if_pos h1]
    refine isNat_i (T.rd (k:=k) (by rw[List.length_map,addrs_length];exact hk') ?_);rw[List.getElem_map];have ha:=addrs_get W l fr k hk';rw[List.getElem?_eq_getElem (by rw[addrs_length];exact hk')]at ha;rw[Option.some.inj ha,←hpos];have hle:posF W fr l a≤fr+totalW W l:=by
     rw[hpos];have:=totalW_app W (l.take k) (l.drop k);rw[List.take_append_drop]at this;omega
    rw[dbl64 (n:=fr+totalW W l) hle (by omega)];exact hQ
  · have h1:l[k]≠a:=fun hh=>ne_of_f h1 (by rw[hh]);rw[wrap_succ (by omega)];refine ih (k+1) (by omega) ?_;rw[hp]
    conv=>lhs;unfold posF
    rw[if_neg h1];congr 1;rw[List.take_add_one,totalW_app,List.getElem?_eq_getElem hk'];show _=fr+(totalW W (l.take k)+(szW W l[k]+0));omega
theorem ct129 {h:Hp}{W:List Int}{a1:Option Addr}{n1 c1:Nat}{l:List Nat}(L:IntsAt h a1 n1 (l.map Int.ofNat)){a2:Option Addr}{n2 c2:Nat}{fr:Nat}(hfr:1≤fr)(T:IntsAt h a2 n2 ((addrs W fr l).map Int.ofNat))(lt:fr+totalW W l<1000000){w:Int}(hw:In64 w):
 EvT O 129 [.int .i64 w,.slice a1 n1 c1,.slice a2 n2 c2,.int .i64 (Int.ofNat fr)] h (.int .i64 (mvw W fr l w)) h:=by
 refine evt hO (rk129 _ _ _ _ _ _ _ _ (hO _ _ _ (by decide)) ?_);unfold T129;refine⟨_,_,ct145 hO hw h,?_⟩;have hmax:((max fr 1:Nat):Int)=(fr:Int):=by rw[Nat.max_eq_left hfr]
 unfold mvw refd;by_cases h1:Int.tmod w 2≠0
 · rw[if_pos h1,if_pos h1];exact vcond_t (eqI_t rfl) ⟨rfl,rfl⟩
 rw[if_neg h1,if_neg h1,hmax];refine vcond_split (fun h2=> ?_) fun h2=> ?_
 · rw[if_pos (by rw[eq_of_t h2];omega)];exact⟨rfl,rfl⟩
 refine vcond_split (fun h3=> ?_) fun h3=> ?_
 · have h3:Int.tdiv w 2<(fr:Int):=lt_of_t h3;rw[if_pos h3];exact⟨rfl,rfl⟩
 have h3: ¬Int.tdiv w 2<(fr:Int):=not_lt_of_f h3;rw[if_neg h3];obtain⟨a,ha⟩: ∃a:Nat,Int.tdiv w 2=Int.ofNat a:=Int.eq_ofNat_of_zero_le (by omega);rw[ha];exact lp129 hO L T lt w (Int.ofNat fr) 0 (a:=a) ⟨rfl,rfl⟩ l.length 0 (by omega) rfl
def putF (W:List Int)(fr:Nat)(l:List Nat)(k w:Int):Int:=if k=3∨k=4 then w else mvw W fr l w
theorem lp128 {gB:Hp}{W:List Int}{fr:Nat}(hfr:1≤fr){l:List Nat}{a1:Option Addr}{n1 c1:Nat}(L:IntsAt gB a1 n1 (l.map Int.ofNat)){a2:Option Addr}{n2 c2:Nat}(T:IntsAt gB a2 n2 ((addrs W fr l).map Int.ofNat))(lt:fr+totalW W l<1000000){a15:Option Addr}{n15 c15:Nat}{fs:List Int}(F:IntsAt gB a15 n15 fs)(hF: ∀x∈fs,In64 x){k:Int}{oD n:Nat}{c0:Nat}(hoD:gB.nx≤oD){D:List Int}(hDn:D.length=n)(hn:n<1000000){p:Nat}{hd:Int}(hp:p+1+fs.length≤n)
 (b0:Option Addr) (m0 e0:Nat) (x0:Int) (b2:Option Addr) (m2 e2:Nat) (x3:Int) {h0:Hp} {Q:Value→Hp→Prop} (next: ∀h,Wr oD h0 h→h.get oD=some (.cells ((putAt D p (hd::fs.map (putF W fr l k))).map (Value.int .i64)) 3 .fix)→Q undef h):
 ∀(d i:Nat) (h:Hp),i+d=fs.length→Ft gB h→h.guarded oD=false→Wr oD h0 h→h.get oD=some (.cells ((putAt D p (hd::(fs.take i).map (putF W fr l k))).map (Value.int .i64)) 3 .fix)→
 I128_0 O Q (some ⟨oD,0,none⟩) n c0 (Int.ofNat p) b0 m0 e0 x0 b2 m2 e2 x3 a1 n1 c1 a2 n2 c2 (Int.ofNat fr) k a15 n15 c15 (Int.ofNat i) h:=by
 have hn15:=F.1;intro d
 induction d with
 |zero=>
  intro i h hi ft hu wr hg;refine I128_0.of (hh:= ?_) ..;unfold T128_0;rw[List.take_of_length_le (by omega)]at hg;exact vcond_f (by rw[ltI_nat];exact blt_f (by omega)) (next h wr hg)
 |succ d ih=>
  intro i h hi ft hu wr hg;refine I128_0.of (hh:= ?_) ..;unfold T128_0;have hi':i<fs.length:=by omega
  have w1:wrapF .i64 (wrapF .i64 (Int.ofNat p+1)+Int.ofNat i)=Int.ofNat (p+1+i):=by
   rw[wrap_succ (by omega),wrap64 (by simp;omega) (by simp;omega)];simp
  rw[w1,wrap_succ (by omega)];have dl: ∀(c:List Int),(putAt D p c).length=n:=fun c=>by rw[putAt_length];exact hDn
  refine vcond_t (by rw[ltI_nat];exact blt_t (by omega)) (isNat_i (F.rd hi' (isNat_i ?_)));show vreq _ _;have l1:0+(p+1+i)*1+ [Value.int .i64 fs[i]].length≤((putAt D p (hd::(fs.take i).map (putF W fr l k))).map (Value.int .i64)).length:=by
   rw[List.length_map,dl];simp;omega
  refine vreq_t (blt_t (by omega)) (vreq_t (canW_t hg (by decide) hu l1 rfl) ?_);intro g108;have wr1:Wr oD h g108:=Wr.wr h _ _;have g1:g108.get oD=some (.cells (((putAt D p (hd::(fs.take i).map (putF W fr l k))).set (p+1+i) fs[i]).map (Value.int .i64)) 3 .fix):=by
   rw[show g108.get oD=_ from wr_get hg (by decide) hu l1 rfl,Nat.zero_add,Nat.mul_one,putAt_map (Value.int .i64) (by rw[dl];omega)]
  have hu1:g108.guarded oD=false:=by
   unfold Hp.guarded at hu ⊢;rw[wr1.gd];exact hu
  have ft1:Ft gB g108:=wr1.ft ft hoD;have step: ∀v,(putAt D p (hd::(fs.take i).map (putF W fr l k))).set (p+1+i) v=putAt D p (hd::(fs.take i).map (putF W fr l k)++[v]):=fun v=>by
   have:=putAt_snoc (D:=D) (c:=hd::(fs.take i).map (putF W fr l k)) (k:=p) (v:=v) (by simp;omega);rw[←this];congr 1;simp;omega
  have tk: ∀v,v=putF W fr l k fs[i]→hd::(fs.take i).map (putF W fr l k)++[v]=hd::(fs.take (i+1)).map (putF W fr l k):=fun v hv=>by
   rw[List.take_add_one,List.getElem?_eq_getElem hi',hv,List.map_append];rfl
  have raw:k=3∨k=4→I128_0 O Q (some ⟨oD,0,none⟩) n c0 (Int.ofNat p) b0 m0 e0 x0 b2 m2 e2 x3 a1 n1 c1 a2 n2 c2 (Int.ofNat fr) k a15 n15 c15 (Int.ofNat (i+1)) g108:=fun hk=>by
   refine ih (i+1) g108 (by omega) ft1 hu1 (wr.trans wr1) ?_;rw[g1,step,tk _ (by unfold putF;rw[if_pos hk])]
  refine vcond_split (fun h3=>vcond_split (fun h4=> ?_) fun h4=>raw (.inr (eq_of_t (nt_t h4)))) fun h3=>raw (.inl (eq_of_t (nt_t h3)));have h3:=ne_of_f (nt_f h3);have h4:=ne_of_f (nt_f h4);refine isNat_i (F.rd hi' ?_);refine⟨_,_,ct129 hO (L.to g108) hfr (T.to g108) lt (hF _ (List.getElem_mem hi')),isNat_i ?_⟩;show vreq _ _;have l2:0+(p+1+i)*1+ [Value.int .i64 (mvw W fr l fs[i])].length≤(((putAt D p (hd::(fs.take i).map (putF W fr l k))).set (p+1+i) fs[i]).map (Value.int .i64)).length:=by
   rw[List.length_map,List.length_set,dl];simp;omega
  refine vreq_t (blt_t (by omega)) (vreq_t (canW_t g1 (by decide) hu1 l2 rfl) ?_);intro g118;have wr2:Wr oD g108 g118:=Wr.wr g108 _ _;refine ih (i+1) g118 (by omega) (wr2.ft ft1 hoD) (by unfold Hp.guarded at hu1 ⊢; rw[wr2.gd];exact hu1) (wr.trans (wr1.trans wr2)) ?_;rw[show g118.get oD=_ from wr_get g1 (by decide) hu1 l2 rfl,Nat.zero_add,Nat.mul_one,putAt_map (Value.int .i64) (by rw[List.length_set,dl];omega),List.set_set,step,tk _ (by unfold putF;rw[if_neg (by simp[h3,h4])])]
theorem ct128 {gB h:Hp} [ft:Ft gB h] {W:List Int}{aw:Option Addr}{nw cw:Nat}{top:Int}{ar:Option Addr}{nr cr:Nat}(HW:SI gB aw nw cw W)(hW: ∀x∈W,In64 x)(lW:W.length<1000000){fr:Nat}(hfr:1≤fr){l:List Nat}{a1:Option Addr}{n1 c1:Nat}(L:IntsAt gB a1 n1 (l.map Int.ofNat)){a2:Option Addr}{n2 c2:Nat}(T:IntsAt gB a2 n2 ((addrs W fr l).map Int.ofNat))(lt:fr+totalW W l<1000000){q:Nat}(hq:CellAt W q){oD n c0:Nat}(hoD:gB.nx≤oD)(hDx:oD<h.nx)(hu:h.guarded oD=false){D:List Int}(hD:h.get oD=some (.cells (D.map (Value.int .i64)) 3 .fix))(hDn:D.length=n)(hn:n<1000000){p:Nat}(hp:p+1+(fieldsW W q).length≤n):
 Ret Tryz.prog O 128 [.slice (some ⟨oD,0,none⟩) n c0,.int .i64 (Int.ofNat p),.agg #[.slice aw nw cw,.int .i64 top,.slice ar nr cr],.int .i64 (Int.ofNat q),.slice a1 n1 c1,.slice a2 n2 c2,.int .i64 (Int.ofNat fr)] h fun v h'=>v=undef∧Wr oD h h'∧h'.get oD=some (.cells ((putAt D p (W.getD q 0::(fieldsW W q).map (putF W fr l (hdK (W.getD q 0))))).map (Value.int .i64)) 3 .fix):=by
 refine rk128 (hO:=hO _ _ _ (by decide)) (hh:= ?_) ..;unfold T128;intro g1;obtain⟨q1,q2,q3,q4⟩:=hq;have k1:Kp h.nx h g1:=(Kp.refl _ h).add (Nat.le_refl _) _;have f1:Ft gB g1:=ft.tr (k1.ex (Nat.le_refl _));have s1:g1.get h.nx=some (.cells [.slice aw nw cw,.int .i64 top,.slice ar nr cr] 24 .fix):=get_add_same ..;have gq:W.getD q 0=W[q]:=by simp[List.getD,List.getElem?_eq_getElem q1]
 have D1:g1.get oD=_:=(k1.get _ hDx).trans hD;refine⟨_,_,_,read1 (i:=0) s1 rfl,isNat_i (HW.at_.rd q1 (isNat_i ?_))⟩;show vreq _ _;have l1:0+p*1+ [Value.int .i64 W[q]].length≤(D.map (Value.int .i64)).length:=by rw[List.length_map,hDn];simp;omega
 refine vreq_t (blt_t (by omega)) (vreq_t (canW_t D1 (by decide) hu l1 rfl) ?_);intro g12;have wr1:Wr oD h g12:=(Wr.kp k1).trans (Wr.wr g1 _ _);have D2:g12.get oD=some (.cells ((D.set p W[q]).map (Value.int .i64)) 3 .fix):=by
  rw[show g12.get oD=_ from wr_get D1 (by decide) hu l1 rfl,Nat.zero_add,Nat.mul_one,putAt_map (Value.int .i64) (by omega)]
 have s12:g12.get h.nx=_:=(wr_get_ne _ _ _ _ (by omega)).trans s1;have f12:Ft gB g12:=wr1.ft ft hoD;have n12:g12.nx=h.nx+1:=by show(Hp.wr _ _ _ _).nx=_;rw[nx_wr,nx_add]
 refine⟨_,_,_,read1 (i:=0) s12 rfl,isNat_i (HW.at_.rd q1 ⟨_,_,ct90 hO _ _,_,_,_,_,_,_,_,rd3 s12,?_⟩)⟩;refine ct122 hO HW hW lW q1 q2 q3 q4 fun a n' c h' F k'=> ?_;have wr2:Wr oD h h':=wr1.trans (Wr.kp k');have D3:h'.get oD=_:=(k'.get _ (by omega)).trans D2;have e0:D.set p W[q]=putAt D p (W[q]::((fieldsW W q).take 0).map (putF W fr l (hdK W[q]))):=by
  have:=putAt_snoc (D:=D) (c:=[]) (k:=p) (v:=W[q]) (by simp;omega);rw[putAt_nil]at this;exact this
 rw[e0]at D3;rw[←gq]at D3 ⊢;exact lp128 hO hfr L T lt F.at_ (fun x hx=>hW _ (List.mem_of_mem_drop (List.mem_of_mem_take hx))) hoD hDn hn (hd:=W.getD q 0) hp aw nw cw top ar nr cr (Int.ofNat q) (fun h w g=>⟨rfl,w,g⟩) (fieldsW W q).length 0 h' (by omega) (f12.tr (k'.ex (Nat.le_refl _))) (by unfold Hp.guarded at hu ⊢; rw[wr2.gd];exact hu) wr2 D3
theorem lp72 {g:Hp}(okg:g.Ok){aw:Option Addr}{nw cw:Nat}{W:List Int}{top:Int}(HW:SI g aw nw cw W)(hW: ∀x∈W,In64 x){ar:Option Addr}{nr cr:Nat}{a1:Option Addr}{n1 c1:Nat}{l:List Nat}(L:IntsAt g a1 n1 (l.map Int.ofNat))(hc: ∀p∈l,CellAt W p){fr:Nat}(lt:fr+totalW W l<1000000){Q:Value→Hp→Prop}(a0:Option Addr)(n0 c0:Nat)(x0:Int)(a2:Option Addr)(n2 c2:Nat)(x2:Int)
 (next: ∀a n c h,AccI 3 h (g.nx+1) a n c ((addrs W fr l).map Int.ofNat)→Kp g.nx g h→Q (.tuple #[.slice a n c,.int .i64 (Int.ofNat (fr+totalW W l))]) h):
 ∀(d k:Nat) (h:Hp) (a:Option Addr) (n c:Nat),k+d=l.length→h.Ok→Kp g.nx g h→g.nx+1≤h.nx→h.get g.nx=some (.cells [.slice aw nw cw,.int .i64 top,.slice ar nr cr] 24 .fix)→AccI 3 h (g.nx+1) a n c ((addrs W fr (l.take k)).map Int.ofNat)→
 I72_0 O Q a0 n0 c0 x0 a2 n2 c2 a1 n1 c1 x2 (Int.ofNat (fr+totalW W (l.take k))) g.nx 0 a n c (Int.ofNat k) h:=by
 have hn:=L.1;rw[List.length_map]at hn;have hll:=length_total W l;intro d
 induction d with
 |zero=>
  intro k h a n c hk ok kp hBn gb A;refine I72_0.of (hh:= ?_) ..;unfold T72_0;rw[List.take_of_length_le (by omega)]at A ⊢;exact vcond_f (by rw[ltI_nat];exact blt_f (by omega)) (next a n c h A kp)
 |succ d ih=>
  intro k h a n c hk ok kp hBn gb A;refine I72_0.of (hh:= ?_) ..;unfold T72_0;have hk':k<l.length:=by omega
  obtain⟨q1,q2,q3,q4⟩:=hc l[k] (List.getElem_mem hk');have gq:W.getD l[k] 0=W[l[k]]:=by simp[List.getD,List.getElem?_eq_getElem q1]
  have tk:totalW W (l.take (k+1))=totalW W (l.take k)+szW W l[k]:=by
   rw[List.take_add_one,totalW_app,List.getElem?_eq_getElem hk'];rfl
  have tle:totalW W (l.take (k+1))≤totalW W l:=by
   have:=totalW_app W (l.take (k+1)) (l.drop (k+1));rw[List.take_append_drop]at this;omega
  refine vcond_t (by rw[ltI_nat];exact blt_t (by omega)) ?_;intro g101;refine appI2 AppT22 A hBn (fun q hq=>by have:=okg.lt.kp kp q hq;omega) (by rw[List.length_map,addrs_length];simp;omega) fun a' n' c' h' A' k' kB new=> ?_;intro g106;have kp':Kp g.nx g h':=kp.trans (kB.le (Nat.le_succ _));have kp6:Kp g.nx g g106:=kp'.rsv 13;haveI:Ft g g106:=kp6.ex (Nat.le_refl _);have gb':h'.get g.nx=_:=(kB.get _ (Nat.lt_succ_self _)).trans gb;refine⟨_,_,_,read1 (i:=0) (show g106.get g.nx=_ from gb') rfl,isNat_i (L.rd (k:=k) (by simpa using hk') ?_)⟩;rw[List.getElem_map];refine isNat_i (HW.at_.rd q1 ⟨_,_,ct127 hO (hW _ (List.getElem_mem q1)) _,?_⟩);intro g120;have s0:0≤hdS (W.getD l[k] 0):=by unfold hdS;rw[tdiv_eq,if_pos q2];omega
  obtain⟨sz,hsz⟩: ∃m:Nat,hdS (W.getD l[k] 0)=Int.ofNat m:=Int.eq_ofNat_of_zero_le s0;have hss:szW W l[k]=1+sz:=by unfold szW;rw[hsz];rfl
  have w1:wrapF .i64 (wrapF .i64 (Int.ofNat (fr+totalW W (l.take k))+1)+hdS W[l[k]])=Int.ofNat (fr+totalW W (l.take (k+1))):=by
   rw[wrap_succ (by omega),←gq,hsz,wrap64 (by simp;omega) (by simp;omega),tk,hss];simp;omega
  rw[w1,wrap_succ (by omega)];refine ih (k+1) g120 a' n' c' (by omega) ((ok.kp kB).rsv 13) kp6 (Nat.le_trans hBn (Nat.le_trans k'.nx (Nat.le_add_right ..))) gb' ?_;have e:addrs W fr (l.take (k+1))=addrs W fr (l.take k)++[fr+totalW W (l.take k)]:=by
   rw[List.take_add_one,addrs_app,List.getElem?_eq_getElem hk'];rfl
  rw[e,List.map_append];exact A'.keep (fun _ _ _=>rfl) (Nat.le_add_right ..)
theorem ct72 {g0 g:Hp} [f0:Ft g0 g] (ok:g.Ok){aw:Option Addr}{nw cw:Nat}{W:List Int}{top:Int}(HW:SI g0 aw nw cw W)(hW: ∀x∈W,In64 x){ar:Option Addr}{nr cr:Nat}{a1:Option Addr}{n1 c1:Nat}{l:List Nat}(L:IntsAt g a1 n1 (l.map Int.ofNat))(hc: ∀p∈l,CellAt W p){fr:Nat}(lt:fr+totalW W l<1000000){K:Option Addr→Nat→Nat→Int→Hp→Prop}
 (next: ∀a n c h,AccI 3 h (g.nx+1) a n c ((addrs W fr l).map Int.ofNat)→Kp g.nx g h→K a n c (Int.ofNat (fr+totalW W l)) h):
 ∃a n c x h',EvT O 72 [.agg #[.slice aw nw cw,.int .i64 top,.slice ar nr cr],.slice a1 n1 c1,.int .i64 (Int.ofNat fr)] g (.tuple #[.slice a n c,.int .i64 x]) h'∧K a n c x h':=by
 refine Ret.si (R:=K) ?_ fun _ _ _ _ _ q=>q;refine rk72 (hO:=hO _ _ _ (by decide)) (hh:= ?_) ..;unfold T72;intro g1;have k1:Kp g.nx g g1:=(Kp.refl _ g).add (Nat.le_refl _) _;exact lp72 hO ok (HW.to g) hW L hc lt aw nw cw top ar nr cr (Int.ofNat fr) (fun a n c h A k=>⟨a,n,c,_,rfl,next a n c h A k⟩) l.length 0 g1 none 0 0 (by omega) (ok.add _) k1 (Nat.le_refl _) (get_add_same ..) (AccI.nil ..)
end
def putsP (W:List Int)(fr:Nat)(l:List Nat):List (Nat×Nat)→List Int→List Int
 | [],D=>D
 |(a,q)::r,D=>putsP W fr l r (putAt D a (W.getD q 0::(fieldsW W q).map (putF W fr l (hdK (W.getD q 0)))))
theorem putsP_length (W:List Int)(fr:Nat)(l:List Nat): ∀(r:List (Nat×Nat)) (D:List Int),(putsP W fr l r D).length=D.length:=by
 intro r
 induction r with
 |nil=>intro D;rfl
 |cons x r ih=>intro D;obtain⟨a,q⟩:=x;show(putsP W fr l r _).length=_;rw[ih,putAt_length]
theorem putsP_app (W:List Int)(fr:Nat)(l:List Nat): ∀(r s:List (Nat×Nat)) (D:List Int),putsP W fr l (r++s) D=putsP W fr l s (putsP W fr l r D):=by
 intro r
 induction r with
 |nil=>intro s D;rfl
 |cons x r ih=>intro s D;obtain⟨a,q⟩:=x;exact ih s _
structure LaidI (gB:Hp)(b3 b9 oD n:Nat)(v1 v2 v3:Value)(x:Int)(D:List Int)(ar:Option Addr)(nr cr:Nat)(h:Hp):Prop where
 ok:h.Ok
 ft:Ft gB h
 gd:h.gd=gB.gd
 s3:h.get b3=some (.cells [v1,v2,v3] 24 .fix)
 cD:h.get oD=some (.cells (D.map (Value.int .i64)) 3 .fix)
 out:h.get b9=some (.cells [.slice (some ⟨oD,0,none⟩) n n,.int .i64 x,.slice ar nr cr] 24 .fix)
 lD:D.length=n
 b9:b9<h.nx
section
variable {O:CallF}(hO:Oth O)
include hO
theorem put_step {gB h:Hp}{b3 b9 oD n:Nat}{x:Int}{D:List Int}{W:List Int}{aw:Option Addr}{nw cw:Nat}{top:Int}{ar:Option Addr}{nr cr:Nat}{ao:Option Addr}{no co:Nat}(okB:gB.Ok)(I:LaidI gB b3 b9 oD n (.slice aw nw cw) (.int .i64 top) (.slice ar nr cr) x D ao no co h)(HW:SI gB aw nw cw W)(hW: ∀x∈W,In64 x)(lW:W.length<1000000){fr:Nat}(hfr:1≤fr){l:List Nat}{a1:Option Addr}{n1 c1:Nat}(L:IntsAt gB a1 n1 (l.map Int.ofNat)){a2:Option Addr}{n2 c2:Nat}(T:IntsAt gB a2 n2 ((addrs W fr l).map Int.ofNat))(lt:fr+totalW W l<1000000)(hoD:gB.nx≤oD)(h39:oD≠b9)(h3:b3<gB.nx)(hob:oD<b9)(hn:n<1000000){q p:Nat}(hq:CellAt W q)(hp:p+szW W q≤n):
 ∃h',EvT O 128 [.slice (some ⟨oD,0,none⟩) n n,.int .i64 (Int.ofNat p),.agg #[.slice aw nw cw,.int .i64 top,.slice ar nr cr],.int .i64 (Int.ofNat q),.slice a1 n1 c1,.slice a2 n2 c2,.int .i64 (Int.ofNat fr)] ((h.rsv 15).grd []) undef h'∧LaidI gB b3 b9 oD n (.slice aw nw cw) (.int .i64 top) (.slice ar nr cr) x (putsP W fr l [(p,q)] D) ao no co (h'.rst (h.rsv 15))∧(∀o,o<h.nx→o≠oD→(h'.rst (h.rsv 15)).get o=h.get o)∧h.nx≤(h'.rst (h.rsv 15)).nx:=by
 have hb9:=I.b9;haveI:Ft gB ((h.rsv 15).grd []):=⟨I.ft.get,by show gB.nx≤h.nx+15;have:=I.ft.nx;omega⟩;have hfl:=fieldsW_length (W:=W) (p:=q) hq.2.2.2;have hsz:szW W q=1+(hdS (W.getD q 0)).toNat:=rfl;have hu:((h.rsv 15).grd []).guarded oD=false:=okB.lt.free (h:=gB) hoD |> fun e=>by unfold Hp.guarded at e ⊢; show h.gd.any _=false;rw[I.gd];exact e
 obtain⟨v,h',e,rfl,wr,hD'⟩:=ct128 hO (gB:=gB) (h:=(h.rsv 15).grd []) (top:=top) (ar:=ar) (nr:=nr) (cr:=cr) (c0:=n) HW hW lW hfr L T lt hq hoD (by show oD<h.nx+15;omega) hu (D:=D) I.cD I.lD hn (p:=p) (by omega);have m:=wr.nx;have m15:h.nx+15≤h'.nx:=m;refine⟨h',e,⟨⟨fun q hq=> ?_,wr.fr (I.ok.rsv 15).fr⟩,⟨(wr.ft this hoD).get,(wr.ft this hoD).nx⟩,I.gd,(wr.get b3 (by show b3<h.nx+15;omega) (by omega)).trans I.s3,hD',(wr.get b9 (by show b9<h.nx+15;omega) (Ne.symm h39)).trans I.out,by rw[putsP_length];exact I.lD,by show b9<h'.nx;omega⟩,fun o ho hne=>wr.get o (by show o<h.nx+15;omega) hne,by show h.nx≤h'.nx;omega⟩;have:=I.ok.gd q hq;show q<h'.nx;omega
section
variable {gB:Hp}{b3 b6 b9 oD n:Nat}{x:Int}{W:List Int}{aw:Option Addr}{nw cw:Nat}{top:Int}{ar:Option Addr}{nr cr:Nat}(okB:gB.Ok)(HW:SI gB aw nw cw W)(hW: ∀x∈W,In64 x)(lW:W.length<1000000){fr:Nat}(hfr:1≤fr){l:List Nat}{a1:Option Addr}{n1 c1:Nat}(L:IntsAt gB a1 n1 (l.map Int.ofNat)){a2:Option Addr}{n2 c2:Nat}(T:IntsAt gB a2 n2 ((addrs W fr l).map Int.ofNat))(lt:fr+totalW W l<1000000)(hoD:gB.nx≤oD)(h3:b3<gB.nx)(hob:oD<b9)(hn:n<1000000)
include okB HW hW lW hfr L T lt hoD h3 hob hn
theorem lp69_0 {a0:Option Addr}{n0 c0:Nat}{x0:Int}{a00:Option Addr}{n00 c00:Nat}{x2:Int}(hx2:x2=Int.ofNat fr){a10:Option Addr}{n10 c10:Nat}{all:List Nat}{B:Nat}(hB:b9<B)(hall: ∀p∈all,p<fr→CellAt W p∧p+szW W p≤n){Q:Value→Hp→Prop}:
 ∀(d k:Nat) (D:List Int) (h:Hp),k+d=all.length→all.length<100000→LaidI gB b3 b9 oD n (.slice aw nw cw) (.int .i64 top) (.slice ar nr cr) x D none 0 0 h→AccI 3 h B a10 n10 c10 (all.map Int.ofNat)→
 (∀h',LaidI gB b3 b9 oD n (.slice aw nw cw) (.int .i64 top) (.slice ar nr cr) x (putsP W fr l (((all.drop k).takeWhile (fun p=>decide (p<fr))).map fun p=>(p,p)) D) none 0 0 h'→(∀o,o<gB.nx→h'.get o=h.get o)→I69_1 O Q a0 n0 c0 x0 a00 n00 c00 a1 n1 c1 x2 b3 0 b6 0 a2 n2 c2 b9 0 0 h')→
 I69_0 O Q a0 n0 c0 x0 a00 n00 c00 a1 n1 c1 x2 b3 0 b6 0 a2 n2 c2 b9 0 a10 n10 c10 (Int.ofNat k) h:=by
 subst hx2;intro d
 induction d with
 |zero=>
  intro k D h hk la I A next
  have hn10:=A.ints.1;rw[List.length_map]at hn10;refine I69_0.of (hh:= ?_) ..;unfold T69_0;rw[List.drop_of_length_le (by omega)]at next
  exact vcond_f (by rw[ltI_nat];exact blt_f (by omega)) (next h I (fun _ _=>rfl))
 |succ d ih=>
  intro k D h hk la I A next
  have hn10:=A.ints.1;rw[List.length_map]at hn10;have X:=A.ints;have hk':k<all.length:=by omega
  refine I69_0.of (hh:= ?_) ..;unfold T69_0;rw[List.drop_eq_getElem_cons hk']at next
  refine vcond_t (by rw[ltI_nat];exact blt_t (by omega)) (isNat_i (X.rd (k:=k) (by simpa using hk') ?_));rw[List.getElem_map];refine vcond_split (fun h1=> ?_) fun h1=> ?_
  · have h1:all[k]<fr:=Int.ofNat_lt.1 (lt_of_t h1);rw[List.takeWhile_cons_of_pos (by simpa using h1)]at next
    obtain⟨hc,hp⟩:=hall _ (List.getElem_mem hk') h1;intro g105;haveI:Ft h g105:=⟨fun _ _=>rfl,Nat.le_add_right ..⟩;have b9h:=I.b9;refine⟨_,_,_,read1 (i:=0) (show g105.get b9=_ from I.out) rfl,isNat_i (X.rd (k:=k) (by simpa using hk') ?_)⟩;rw[List.getElem_map];refine⟨_,_,_,_,_,_,_,rd3 (show g105.get b3=_ from I.s3),isNat_i (X.rd (k:=k) (by simpa using hk') ?_)⟩;rw[List.getElem_map];obtain⟨h',e,I',fr',m'⟩:=put_step hO okB I HW hW lW hfr L T lt hoD (by omega) h3 hob hn hc hp;refine⟨_,e,?_⟩;intro g125;rw[wrap_succ (by omega)];have hft:=I.ft.nx;have A':AccI 3 g125 B a10 n10 c10 (all.map Int.ofNat):=A.keep (fun o ho ha=>by have:=A.fresh ha;exact fr' o ho (by omega)) m';exact ih (k+1) _ g125 (by omega) la I' A' fun h2 I2 f2=>next h2 I2 fun o ho=>(f2 o ho).trans (fr' o (by omega) (by omega))
  · have h1: ¬all[k]<fr:=fun hh=>not_lt_of_f h1 (Int.ofNat_lt.2 hh);rw[List.takeWhile_cons_of_neg (by simpa using h1)]at next
    exact next h I (fun _ _=>rfl)
theorem lp69_1 {a0:Option Addr}{n0 c0:Nat}{x0:Int}{a00:Option Addr}{n00 c00:Nat}(hl: ∀p∈l,CellAt W p)(hfit:fr+totalW W l≤n){Q:Value→Hp→Prop}:
 ∀(d k:Nat) (D:List Int) (h:Hp),k+d=l.length→LaidI gB b3 b9 oD n (.slice aw nw cw) (.int .i64 top) (.slice ar nr cr) x D none 0 0 h→
 (∀h',LaidI gB b3 b9 oD n (.slice aw nw cw) (.int .i64 top) (.slice ar nr cr) x (putsP W fr l (((addrs W fr l).zip l).drop k) D) none 0 0 h'→(∀o,o<gB.nx→h'.get o=h.get o)→I69_2 O Q a0 n0 c0 x0 a00 n00 c00 a1 n1 c1 (Int.ofNat fr) b3 0 b6 0 a2 n2 c2 b9 0 0 h')→
 I69_1 O Q a0 n0 c0 x0 a00 n00 c00 a1 n1 c1 (Int.ofNat fr) b3 0 b6 0 a2 n2 c2 b9 0 (Int.ofNat k) h:=by
 have hn1:=L.1;rw[List.length_map]at hn1;have hll:=length_total W l;have hzl:((addrs W fr l).zip l).length=l.length:=by rw[List.length_zip,addrs_length,Nat.min_self]
 intro d
 induction d with
 |zero=>
  intro k D h hk I next
  refine I69_1.of (hh:= ?_) ..;unfold T69_1;rw[List.drop_of_length_le (by omega)]at next
  exact vcond_f (by rw[ltI_nat];exact blt_f (by omega)) (next h I (fun _ _=>rfl))
 |succ d ih=>
  intro k D h hk I next
  have hk':k<l.length:=by omega
  have hka:k<(addrs W fr l).length:=by rw[addrs_length];exact hk'
  refine I69_1.of (hh:= ?_) ..;unfold T69_1;rw[List.drop_eq_getElem_cons (by omega),List.getElem_zip]at next
  have ha:=addrs_get W l fr k hk';rw[List.getElem?_eq_getElem hka]at ha;have ha:=Option.some.inj ha;have tk:totalW W (l.take (k+1))=totalW W (l.take k)+szW W l[k]:=by
   rw[List.take_add_one,totalW_app,List.getElem?_eq_getElem hk'];rfl
  have tle:totalW W (l.take (k+1))≤totalW W l:=by
   have:=totalW_app W (l.take (k+1)) (l.drop (k+1));rw[List.take_append_drop]at this;omega
  refine vcond_t (by rw[ltI_nat];exact blt_t (by omega)) ?_;intro g201;haveI:Ft gB g201:=I.ft.tr ⟨fun _ _=>rfl,Nat.le_add_right ..⟩;have b9h:=I.b9;refine⟨_,_,_,read1 (i:=0) (show g201.get b9=_ from I.out) rfl,isNat_i (T.rd (k:=k) (by simpa using hka) ?_)⟩;rw[List.getElem_map];refine⟨_,_,_,_,_,_,_,rd3 (show g201.get b3=_ from I.s3),isNat_i (L.rd (k:=k) (by simpa using hk') ?_)⟩;rw[List.getElem_map];obtain⟨h',e,I',fr',m'⟩:=put_step hO okB I HW hW lW hfr L T lt hoD (by omega) h3 hob hn (hl _ (List.getElem_mem hk')) (p:=(addrs W fr l)[k]) (by rw[ha];omega);refine⟨_,e,?_⟩;intro g221;rw[wrap_succ (by omega)];have hft:=I.ft.nx;exact ih (k+1) _ g221 (by omega) I' fun h2 I2 f2=>next h2 I2 fun o ho=>(f2 o ho).trans (fr' o (by omega) (by omega))
omit hW lW HW hn in
theorem lp69_2 {a0:Option Addr}{n0 c0:Nat}{x0:Int}{a00:Option Addr}{n00 c00:Nat}{R:List Int}(HR:IntsAt gB ar nr R)(hR: ∀w∈R,In64 w)(lR:R.length<100000){B:Nat}(hB:b9<B)(hgB:gB.nx≤B)(h6:b6<gB.nx)(hu6:gB.guarded b6=false){D:List Int}{Q:Value→Hp→Prop}
 (next: ∀h ac nc cc,(∀o,o≠b6→o<b9→h.get o=h.get o)→AccI 3 h B ac nc cc (R.map (mvw W fr l))→h.get oD=some (.cells (D.map (Value.int .i64)) 3 .fix)→oD<h.nx→h.gd=gB.gd→h.Ok→(∀o,o<gB.nx→o≠b6→h.get o=gB.get o)→gB.nx≤h.nx→Q (.agg #[.slice (some ⟨oD,0,none⟩) n n,.int .i64 x,.slice ac nc cc]) h):
 ∀(d k:Nat) (h:Hp) (ac:Option Addr) (nc cc:Nat),k+d=R.length→LaidI gB b3 b9 oD n (.slice aw nw cw) (.int .i64 top) (.slice ar nr cr) x D ac nc cc h→B≤h.nx→AccI 3 h B ac nc cc ((R.take k).map (mvw W fr l))→h.get b6=some (.cells [.slice none 0 0,.int .i64 0,.slice none 0 0] 24 .fix)→
 I69_2 O Q a0 n0 c0 x0 a00 n00 c00 a1 n1 c1 (Int.ofNat fr) b3 0 b6 0 a2 n2 c2 b9 0 (Int.ofNat k) h:=by
 have hnR:=HR.1;intro d
 induction d with
 |zero=>
  intro k h ac nc cc hk I hBn A g6;refine I69_2.of (hh:= ?_) ..;unfold T69_2;rw[List.take_of_length_le (by omega)]at A;have hft:=I.ft.nx;have l3:0+ [Value.slice (some ⟨oD,0,none⟩) n n,.int .i64 x,.slice ac nc cc].length≤ [Value.slice none 0 0,.int .i64 0,.slice none 0 0].length:=by show 3≤3;decide
  have u6:h.guarded b6=false:=by unfold Hp.guarded at hu6 ⊢; rw[I.gd];exact hu6
  refine⟨_,_,_,read1 (i:=2) I.s3 rfl,vcond_f (by rw[ltI_nat];exact blt_f (by omega)) ⟨_,_,_,_,_,_,_,rd3 I.out,vreq_t (canW_t g6 (by decide) u6 l3 rfl) ?_⟩⟩;intro g333;have w:=wr_get g6 (by decide) u6 l3 rfl;have ne: ∀o,o≠b6→g333.get o=h.get o:=fun o ho=>wr_get_ne _ _ _ _ ho;have n3:g333.nx=h.nx:=nx_wr ..;refine⟨_,_,_,_,_,_,_,rd3 (show g333.get b6=_ from w),next g333 ac nc cc (fun _ _ _=>rfl) (A.keep (fun o ho ha=>by have:=A.fresh ha;exact ne o (by omega)) (by omega)) ((ne oD (by omega)).trans I.cD) (by have:=I.b9;omega) ((gd_wr ..).trans I.gd) (I.ok.wr _ _ _) (fun o ho hne=>(ne o hne).trans (I.ft.get o ho)) (by omega)⟩
 |succ d ih=>
  intro k h ac nc cc hk I hBn A g6;have hk':k<R.length:=by omega
  have hft:=I.ft.nx;have b9h:=I.b9;refine I69_2.of (hh:= ?_) ..;unfold T69_2;refine⟨_,_,_,read1 (i:=2) I.s3 rfl,vcond_t (by rw[ltI_nat];exact blt_t (by omega)) ?_⟩;intro g304;haveI:Ft gB g304:=I.ft.tr ⟨fun _ _=>rfl,Nat.le_add_right ..⟩;haveI:Ft gB (g304.grd [b9]):=I.ft.tr ⟨fun _ _=>rfl,Nat.le_add_right ..⟩;refine⟨_,_,_,read1 (i:=2) (show g304.get b9=_ from I.out) rfl,_,_,_,read1 (i:=2) (show g304.get b3=_ from I.s3) rfl,isNat_i (HR.rd hk' ⟨_,_,ct129 hO (L.to (g304.grd [b9])) hfr (T.to (g304.grd [b9])) lt (hR _ (List.getElem_mem hk')),?_⟩)⟩;intro g317;have gdl:GdLt g317 B:=fun q hq=>by have:=okB.lt q (by rw[←I.gd];exact hq);omega
  have A7:AccI 3 g317 B ac nc cc ((R.take k).map (mvw W fr l)):=A.keep (fun _ _ _=>rfl) (Nat.le_add_right ..);refine appRI A7 (Nat.le_trans hBn (Nat.le_add_right ..)) gdl (show h.get (h.nx+11)=none from I.ok.fr _ (by omega)) (by show h.nx+11<h.nx+15;omega) (by omega) (l:=[]) (fun i hi=>by cases hi) (by simp;omega) fun a' n' c' h322 A' fr' k1 k2=> ?_;intro g323;have m23:h.nx+15≤g323.nx:=k1.nx;have d23:g323.gd=gB.gd:=k1.gd.trans I.gd;have ok23:g323.Ok:=⟨fun q hq=>by rw[d23,←I.gd]at hq;have:=I.ok.gd q hq;omega,k1.fr (((I.ok.rsv 15).fr:g304.Fresh).lay (by show h.nx+11<h.nx+15;omega) _)⟩;have out3:g323.get b9=_:=(k2.get _ hB).trans I.out;have u9:g323.guarded b9=false:=by
   have e:=okB.lt.free (h:=gB) (o:=b9) (by omega);unfold Hp.guarded at e ⊢;rw[d23];exact e
  have l7:0+2+ [Value.slice a' n' c'].length≤ [Value.slice (some ⟨oD,0,none⟩) n n,.int .i64 x,.slice ac nc cc].length:=by show 3≤3;decide
  refine vreq_t (canW_t (h:=g323.grd []) out3 (by decide) u9 l7 rfl) ?_;intro g324 g325;have w5:g325.get b9=some (.cells [.slice (some ⟨oD,0,none⟩) n n,.int .i64 x,.slice a' n' c'] 24 .fix):=wr_get (h:=g323.grd []) out3 (by decide) u9 l7 rfl;have e5: ∀o,o≠b9→g325.get o=g323.get o:=fun o ho=>wr_get_ne _ _ _ _ ho;have n5:g325.nx=g323.nx:=nx_wr ..;have lo: ∀o,o<B→o≠b9→g325.get o=h.get o:=fun o h1 h2=>(e5 o h2).trans (k2.get o h1);rw[wrap_succ (by omega)];refine ih (k+1) g325 a' n' c' (by omega) ⟨⟨fun q hq=> ?_,fun q hq=> ?_⟩,⟨fun o ho=>(lo o (by omega) (by omega)).trans (I.ft.get o ho),by omega⟩,d23,(lo b3 (by omega) (by omega)).trans I.s3,(lo oD (by omega) (by omega)).trans I.cD,w5,I.lD,by omega⟩ (by omega) ?_ ((lo b6 (by omega) (by omega)).trans g6)
  · have:=ok23.gd q hq;omega
  · rw[n5]at hq;rw[e5 q (by omega)];exact ok23.fr q hq
  · have e:(R.take (k+1)).map (mvw W fr l)=(R.take k).map (mvw W fr l)++[mvw W fr l R[k]]:=by
     rw[List.take_add_one,List.getElem?_eq_getElem hk',List.map_append];rfl
    rw[e];exact A'.keep (fun o ho ha=>by have:=A'.fresh ha;exact e5 o (by omega)) (by rw[n5];exact Nat.le_refl _)
end
theorem ct69 {g0 g:Hp} [f0:Ft g0 g] (ok:g.Ok){aw:Option Addr}{nw cw:Nat}{W:List Int}{tp:Nat}(HW:SI g0 aw nw cw W)(hW: ∀x∈W,In64 x)(lW:W.length<100000)(h1:1≤tp)(ht:tp≤W.length){ar:Option Addr}{nr cr:Nat}{R:List Int}(HR:IntsAt g0 ar nr R)(hR: ∀w∈R,In64 w)(lR:R.length<100000){a1:Option Addr}{n1 c1:Nat}{l:List Nat}(L:IntsAt g a1 n1 (l.map Int.ofNat)){fr:Nat}(hfr:1≤fr){all:List Nat}(hall:cellsR W tp (tp+1) 1=some all)(hl: ∀p∈l,CellAt W p)(hfit:fr+totalW W l≤W.length){K:Nat→Int→Option Addr→Nat→Nat→Hp→Prop}
 (next: ∀oD ac nc cc h,IntsAt h ac nc (R.map (mvw W fr l))→(∃B,g.nx≤B∧AccI 3 h B ac nc cc (R.map (mvw W fr l)))→h.get oD=some (.cells ((putsP W fr l (((all.takeWhile fun p=>decide (p<fr)).map fun p=>(p,p))++(addrs W fr l).zip l) (List.replicate W.length 0)).map (Value.int .i64)) 3 .fix)→oD<h.nx→g.nx≤oD→h.Ok→Kp g.nx g h→K oD (Int.ofNat (fr+totalW W l)) ac nc cc h):
 ∃oD x ac nc cc h',EvT O 69 [.agg #[.slice aw nw cw,.int .i64 (Int.ofNat tp),.slice ar nr cr],.slice a1 n1 c1,.int .i64 (Int.ofNat fr)] g (.agg #[.slice (some ⟨oD,0,none⟩) W.length W.length,.int .i64 x,.slice ac nc cc]) h'∧K oD x ac nc cc h':=by
 have r:Ret Tryz.prog O 69 [.agg #[.slice aw nw cw,.int .i64 (Int.ofNat tp),.slice ar nr cr],.slice a1 n1 c1,.int .i64 (Int.ofNat fr)] g fun v h'=> ∃oD x ac nc cc,v= .agg #[.slice (some ⟨oD,0,none⟩) W.length W.length,.int .i64 x,.slice ac nc cc]∧K oD x ac nc cc h':=by
  have hn:=HW.at_.1;subst hn;refine rk69 (hO:=hO _ _ _ (by decide)) (hh:= ?_) ..;unfold T69;intro g1 g2;have n1':g1.nx=g.nx+1:=rfl;have n2:g2.nx=g.nx+2:=rfl;have k2:Kp g.nx g g2:=((Kp.refl _ g).add (Nat.le_refl _) _).add (Nat.le_succ _) _;have s2:g2.get g.nx=some (.cells [.slice aw W.length cw,.int .i64 (Int.ofNat tp),.slice ar nr cr] 24 .fix):=(get_add_ne (by omega)).trans (get_add_same ..);have r2:g2.get g1.nx=some (.cells [.slice none 0 0,.int .i64 0,.slice none 0 0] 24 .fix):=get_add_same ..;have ok2:g2.Ok:=ok.kp k2;haveI:Ft g g2:=k2.ex (Nat.le_refl _);haveI:Ft g0 g2:=f0.tr inferInstance;refine⟨_,_,_,_,_,_,_,rd3 s2,ct72 hO ok2 HW hW (L.to g2) hl (by omega) fun a2 n2' c2 h14 T k14=> ?_⟩;have s14:=(k14.get g.nx (by omega)).trans s2;have r14:=(k14.get g1.nx (by omega)).trans r2;have m14:=k14.nx;have ok14:h14.Ok:=ok2.kp k14;have kg14:Kp g.nx g h14:=k2.trans (k14.le (by omega));refine⟨_,_,_,read1 (i:=0) s14 rfl,vreq_t (ble_t (Nat.le_refl _)) (vreq_t (ble_t (by omega)) (vreq_t (blt_t (by unfold big;omega)) ?_))⟩;intro g18 g19;have n18:g18.nx=h14.nx+1:=rfl;have n19:g19.nx=h14.nx+2:=rfl;have o19:g19.get g18.nx=some (.cells [.slice none 0 0,.int .i64 0,.slice none 0 0] 24 .fix):=get_add_same ..;have gd14:GdLt h14 g.nx:=ok.lt.kp kg14;have u19:g19.guarded g18.nx=false:=gd14.free (h:=g19) (by omega);have l19:0+ [Value.slice (some ⟨h14.nx,0,none⟩) W.length W.length,.int .i64 (Int.ofNat (fr+totalW W l)),.slice none 0 0].length≤ [Value.slice none 0 0,.int .i64 0,.slice none 0 0].length:=by show 3≤3;decide
  refine vreq_t (canW_t o19 (by decide) u19 l19 rfl) ?_;intro g20;have o20:g20.get g18.nx=some (.cells [.slice (some ⟨h14.nx,0,none⟩) W.length W.length,.int .i64 (Int.ofNat (fr+totalW W l)),.slice none 0 0] 24 .fix):=wr_get o19 (by decide) u19 l19 rfl;have n20:g20.nx=h14.nx+2:=nx_wr ..;have zs:List.flatten (List.replicate W.length [Value.int .i64 0])=(List.replicate W.length (0:Int)).map (Value.int .i64):=by
   rw[List.map_replicate]
   induction W.length with
   |zero=>rfl
   |succ n ih=>rw[List.replicate_succ,List.replicate_succ,List.flatten_cons,ih];rfl
  have D20:g20.get h14.nx=some (.cells ((List.replicate W.length (0:Int)).map (Value.int .i64)) 3 .fix):=by
   rw[show g20.get h14.nx=g19.get h14.nx from wr_get_ne _ _ _ _ (by omega),show g19.get h14.nx=g18.get h14.nx from get_add_ne (by omega),←zs];exact get_add_same ..
  have e20:Kp h14.nx h14 g20:=(((Kp.refl _ h14).add (Nat.le_refl _) _).add (Nat.le_succ _) _).wr (by omega) _ _;have s20:=(e20.get g.nx (by omega)).trans s14;have r20:=(e20.get g1.nx (by omega)).trans r14;have ok20:g20.Ok:=ok14.kp e20;have kg20:Kp g.nx g g20:=kg14.trans (e20.le (by omega));have F20:Ft g0 g20:=f0.tr (kg20.ex (Nat.le_refl _));refine⟨_,_,_,_,_,_,_,rd3 s20,ct66 hO ok20 (HW.at_.to g20) hW h1 ht (by omega) (fun a n c h' k' hc=> ?_) fun l' a n c h32 hc k32 A32=> ?_⟩
  · rw[hall]at hc;cases hc
  obtain rfl:all=l':=Option.some.inj (hall.symm.trans hc);have m32:=k32.nx;have hm:=cellsR_mem hall;have hlen:all.length<100000:=by
   have: ∀(f p:Nat) (l:List Nat),cellsR W tp f p=some l→l.length+p≤tp:=by
    intro f
    induction f with
    |zero=>intro p l h;cases h
    |succ f ih=>
     intro p l h;rcases cellsR_cons h with ⟨_,_,_,l',rfl,h4⟩|⟨rfl,rfl⟩
     · have:=ih _ _ h4;simp only[List.length_cons];omega
     · simp
   have:=this _ _ _ hall;omega
  have LB:IntsAt h14 a1 n1 (l.map Int.ofNat):=by
   haveI:Ft g h14:=kg14.ex (Nat.le_refl _);exact L.to h14
  have HWB:SI h14 aw W.length cw W:=by
   haveI:Ft g0 h14:=f0.tr (kg14.ex (Nat.le_refl _));exact HW.to h14
  have HRB:IntsAt h14 ar nr R:=by
   haveI:Ft g0 h14:=f0.tr (kg14.ex (Nat.le_refl _));exact HR.to h14
  have lk: ∀ {o},o<g20.nx→h32.get o=g20.get o:=fun h=>k32.get _ h;have I:LaidI h14 g.nx g18.nx h14.nx W.length (.slice aw W.length cw) (.int .i64 (Int.ofNat tp)) (.slice ar nr cr) (Int.ofNat (fr+totalW W l)) (List.replicate W.length 0) none 0 0 h32:=⟨ok20.kp k32,⟨fun o ho=>(lk (by omega)).trans (e20.get o ho),by omega⟩,k32.gd.trans e20.gd,(lk (by omega)).trans s20,(lk (by omega)).trans D20,(lk (by omega)).trans o20,by simp,by omega⟩;refine lp69_0 hO (b6:=g1.nx) ok14 HWB hW (by omega) hfr LB T.ints (by omega) (Nat.le_refl _) (by omega) (by omega) (by omega) rfl (B:=g20.nx+1) (by omega) (fun p hp _=> ?_) all.length 0 _ h32 (by omega) hlen I A32 fun h' I' f'=> ?_
  · obtain⟨m1,m2,m3,m4,m5⟩:=hm.2 p hp;refine⟨⟨by omega,m3,m4,by omega⟩,?_⟩;unfold szW;omega
  refine lp69_1 hO (b6:=g1.nx) ok14 HWB hW (by omega) hfr LB T.ints (by omega) (Nat.le_refl _) (by omega) (by omega) (by omega) hl hfit l.length 0 _ h' (by omega) I' fun h2 I2 f2=> ?_;have b2:=I2.b9;refine lp69_2 hO (b6:=g1.nx) ok14 hfr LB T.ints (by omega) (Nat.le_refl _) (by omega) (by omega) HRB hR lR (B:=g20.nx) (by omega) (by omega) (by omega) (gd14.free (by omega)) (fun h3 ac nc cc _ A3 c3 m3 g3 ok3 f3 n3=> ?_) R.length 0 h2 none 0 0 (by omega) I2 (by omega) (AccI.nil ..) ?_
  · refine⟨h14.nx,_,ac,nc,cc,rfl,next _ ac nc cc h3 A3.ints ⟨g20.nx,by omega,A3⟩ ?_ m3 (by omega) ok3 ⟨fun o ho=>(f3 o (by omega) (by omega)).trans (kg14.get o ho),by omega,g3.trans kg14.gd,fun _=>ok3.fr⟩⟩;rw[putsP_app];exact c3
  · rw[f2 _ (by omega),f' _ (by omega),lk (by omega)];exact r20
 obtain⟨v,h',e,oD,x,ac,nc,cc,rfl,hk⟩:=r;exact⟨oD,x,ac,nc,cc,h',e,hk⟩
end
def HO (g:Hp)(W:List Int)(top:Nat)(R:List Int)(v:Value)(h:Hp):Prop:= ∃aw nw cw ar nr cr,v= .agg #[.slice aw nw cw,.int .i64 (Int.ofNat top),.slice ar nr cr]∧SI h aw nw cw W∧SI h ar nr cr R∧Kp g.nx g h∧h.Ok∧(∀o off,aw=some ⟨o,off,none⟩→g.nx≤o)∧ ∀o off,ar=some ⟨o,off,none⟩→g.nx≤o
theorem SI.cells {h:Hp}{o n:Nat}{e:TypeId}{m:Md}{xs:List Int}(hg:h.get o=some (.cells (xs.map (Value.int .i64)) e m))(ho:o<h.nx)(hn:n=xs.length)(hl:xs.length<1000000):SI h (some ⟨o,0,none⟩) n n xs:=by
 subst hn;exact SI.fix (intsCells hg ho) (Nat.le_refl _) (by have:unk=18446744073709551616:=rfl;omega) (fun h=>by cases h)
theorem SI.upd {h h':Hp}{a:Option Addr}{n c:Nat}{W:List Int}(s:SI h a n c W)(hk: ∀o off,a=some ⟨o,off,none⟩→h'.get o=h.get o)(hn:h.nx≤h'.nx):SI h' a n c W:=by
 obtain⟨vis,e,q⟩:=s.cap;refine⟨s.at_.keep (fun b off hb=>hk b off hb) hn (fun _ _ h=>h),vis,?_,q⟩;rw[←e];cases a with
 |none=>rfl
 |some ad=>
  obtain⟨o,off,vw⟩:=ad;cases vw with
  |some _=>rfl
  |none=>simp only[Ev.seen];rw[hk o off rfl]
theorem three_wr {h:Hp}{b:Nat}{v1 v2 v3 w1 w2 w3:Value}{e:TypeId}(g:h.get b=some (.cells [v1,v2,v3] e .fix))(gd:h.guarded b=false)(h1:[w1,w2,w3].all one=true):canW h b 0 [w1,w2,w3]=true∧(h.wr b 0 [w1,w2,w3]).get b=some (.cells [w1,w2,w3] e .fix):=by
 have l:0+ [w1,w2,w3].length≤ [v1,v2,v3].length:=by show 3≤3;decide
 exact⟨canW_t g (by decide) gd l h1,wr_get g (by decide) gd l h1⟩
section
variable {O:CallF}(hO:Oth O){g:Hp}(ok:g.Ok){aw:Option Addr}{nw cw:Nat}{W:List Int}{tp:Nat}{ar:Option Addr}{nr cr:Nat}{R:List Int}(A:HA g aw nw cw W ar nr cr R)
include hO ok A
def colD (W:List Int)(fr:Nat)(all res:List Nat):List Int:=putsP W fr res (((all.takeWhile fun p=>decide (p<fr)).map fun p=>(p,p))++(addrs W fr res).zip res) (List.replicate W.length 0)
theorem ct64 (lW:W.length≤200)(lR:R.length≤10)(h1:1≤tp)(ht:tp≤W.length){all res:List Nat}(hall:cellsR W tp (tp+1) 1=some all){f:Nat}(hres:reachO W 1 f 0 (withP 1 R [])=some res)(hl: ∀p∈res,CellAt W p)(hfit:1+totalW W res≤W.length):
 Ret Tryz.prog O 64 [.agg #[.slice aw nw cw,.int .i64 (Int.ofNat tp),.slice ar nr cr]] g (HO g (colD W 1 all res) (1+totalW W res) (R.map (mvw W 1 res))):=by
 refine rk64 (hO:=hO _ _ _ (by decide)) (hh:= ?_) ..;unfold T64;intro g1 g2 g3;have n1':g1.nx=g.nx+1:=rfl;have n2:g2.nx=g.nx+2:=rfl;have n3:g3.nx=g.nx+9:=rfl;have k3:Kp g.nx g g3:=(((Kp.refl _ g).add (Nat.le_refl _) _).add (Nat.le_succ _) _).rsv 7;have s3:g3.get g.nx=some (.cells [.slice aw nw cw,.int .i64 (Int.ofNat tp),.slice ar nr cr] 24 .fix):=(get_add_ne (show g.nx≠g1.nx by omega)).trans (get_add_same ..);have r3:g3.get g1.nx=some (.cells [.slice none 0 0,.int .i64 0,.slice none 0 0] 24 .fix):=get_add_same ..;have ok3:g3.Ok:=ok.kp k3;have okg:(g3.grd [g.nx]).Ok:=ok3.grd fun q hq=>by have:=List.mem_singleton.1 hq;omega
 haveI f3:Ft g (g3.grd [g.nx]):=⟨fun o ho=>k3.get o ho,k3.nx⟩;have hnw:=A.sw.at_.1;refine⟨_,_,_,_,_,_,_,rd3 s3,_,_,_,_,_,_,_,rd3 s3,_,_,_,read1 (i:=2) s3 rfl,ct70 hO (g0:=g) okg A.sw A.w (by omega) (fr:=1) (A.sr.at_.to (g3.grd [g.nx])) A.r (by omega) hres fun a n c h24 A24 k24=> ?_⟩;intro g25;have m24:g3.nx≤h24.nx:=k24.nx;have k25:Kp g3.nx g3 g25:=⟨k24.get,m24,rfl,fun f=>k24.fr f⟩;have kg25:Kp g.nx g g25:=k3.trans (k25.le (by omega));have s25:=(k25.get g.nx (by omega)).trans s3;have r25:=(k25.get g1.nx (by omega)).trans r3;have ok25:g25.Ok:=ok.kp kg25;haveI f25:Ft g (g25.grd []):=⟨fun o ho=>kg25.get o ho,kg25.nx⟩;have L25:IntsAt (g25.grd []) a n (res.map Int.ofNat):=SlAt.keep A24.ints (fun _ _ _=>rfl) (Nat.le_refl _) (fun _ _ h=>h);subst hnw;obtain⟨oD,x,ac,nc,cc,h33,e33,hk⟩:=ct69 hO (g0:=g) (g:=g25.grd []) ok25 A.sw A.w (by omega) h1 ht A.sr.at_ A.r (by omega) L25 (Nat.le_refl 1) hall hl hfit (K:=fun oD x ac nc cc h=>x=Int.ofNat (1+totalW W res)∧(∃B,g25.nx≤B∧AccI 3 h B ac nc cc (R.map (mvw W 1 res)))∧h.get oD=some (.cells ((colD W 1 all res).map (Value.int .i64)) 3 .fix)∧oD<h.nx∧g25.nx≤oD∧h.Ok∧Kp g25.nx (g25.grd []) h) (fun oD ac nc cc h _ hB hD hx hg hok hkp=>⟨rfl,hB,hD,hx,hg,hok,hkp⟩);obtain⟨rfl,⟨B,hB,AB⟩,hD,hoD,hgo,ok33,k33⟩:=hk;refine⟨_,_,_,_,_,_,_,_,e33,?_⟩;intro g34;have m33:g25.nx≤h33.nx:=k33.nx;have r34:g34.get g1.nx=_:=(k33.get g1.nx (by show g1.nx<g25.nx;have:=k25.nx;omega)).trans r25;have gd34:GdLt g34 g.nx:=fun q hq=>ok.lt.kp kg25 q hq;obtain⟨c1,w1⟩:=three_wr (h:=g34.grd []) r34 (gd34.free (by omega)) (w1:= .slice (some ⟨oD,0,none⟩) W.length W.length) (w2:= .int .i64 (Int.ofNat (1+totalW W res))) (w3:= .slice ac nc cc) rfl;refine vreq_t c1 ?_;intro g35 g36;have e36: ∀o,o≠g1.nx→g36.get o=h33.get o:=fun o ho=>wr_get_ne _ _ _ _ ho;have n36:g36.nx=h33.nx:=nx_wr ..;have n25:=k25.nx;have lD:(colD W 1 all res).length=W.length:=by unfold colD;rw[putsP_length];simp
 have ok36:g36.Ok:=⟨fun q hq=>by have:q<g.nx:=ok.lt.kp kg25 q hq;omega,fun q hq=>by rw[e36 q (by omega)];exact ok33.fr q (by omega)⟩;refine⟨_,_,_,_,_,_,_,rd3 (show g36.get g1.nx=_ from w1),_,_,_,_,_,_,rfl,SI.cells ((e36 oD (by omega)).trans hD) (by omega) lD.symm (by omega),?_,⟨fun o ho=>(e36 o (by omega)).trans ((k33.get o (by show o<g25.nx;omega)).trans (kg25.get o ho)),by omega,kg25.gd,fun _=>ok36.fr⟩,ok36,fun o off ha=> ?_,fun o off ha=> ?_⟩
 rotate_left
 · injection ha with ha;injection ha with ha;omega
 · have:=AB.fresh ha;omega
 refine(SI.acc AB (by rw[List.length_map];omega)).upd (fun o off ha=>e36 o fun hh=> ?_) (by omega);have:=AB.fresh ha;omega
def HE (g:Hp)(W:List Int)(top:Nat)(R:List Int)(e:Int)(v:Value)(h:Hp):Prop:= ∃u,v= .tuple #[u,.int .i64 e]∧HO g W top R u h
omit hO ok A in
theorem hand_on {g g1 h:Hp}{b:Nat}{v1 v2 v3:Value}{W':List Int}{top:Nat}{R':List Int}{aw:Option Addr}{nw cw:Nat}{ar:Option Addr}{nr cr:Nat}(okg:g.Ok)(hb:g.nx≤b)(hb1:b<g1.nx)(k1:Kp g.nx g g1)(H:HO g1 W' top R' (.agg #[.slice aw nw cw,.int .i64 (Int.ofNat top),.slice ar nr cr]) h)(r:h.get b=some (.cells [v1,v2,v3] 24 .fix)){K:Option Addr→Nat→Nat→Int→Option Addr→Nat→Nat→Hp→Prop}
 (next: ∀k,HO g W' top R' (.agg #[.slice aw nw cw,.int .i64 (Int.ofNat top),.slice ar nr cr]) k→K aw nw cw (Int.ofNat top) ar nr cr k):
 vreq (canW h b 0 [.slice aw nw cw,.int .i64 (Int.ofNat top),.slice ar nr cr]) (let k:Hp:=h.wr b 0 [.slice aw nw cw,.int .i64 (Int.ofNat top),.slice ar nr cr]
  ∃a n c,∃x,∃a' n' c',readAt k b 0 3=some [.slice a n c,.int .i64 x,.slice a' n' c']∧K a n c x a' n' c' k):=by
 obtain⟨aw',nw',cw',ar',nr',cr',e,S1,S2,kp,okh,f1,f2⟩:=H;injection e with e;have e:=congrArg Array.toList e;injection e with e1 e;injection e with e2 e;injection e with e3 _;injection e1 with e11 e12 e13;injection e3 with e31 e32 e33;subst e11 e12 e13 e31 e32 e33;have kgh:Kp g.nx g h:=k1.trans (kp.le k1.nx);have gd:GdLt h g.nx:=okg.lt.kp kgh;obtain⟨c1,w1⟩:=three_wr r (gd.free hb) (w1:= .slice aw nw cw) (w2:= .int .i64 (Int.ofNat top)) (w3:= .slice ar nr cr) rfl;refine vreq_t c1 ?_;intro k;have ne: ∀o,o≠b→k.get o=h.get o:=fun o ho=>wr_get_ne _ _ _ _ ho;have nk:k.nx=h.nx:=nx_wr ..;have n1:=k1.nx;refine⟨_,_,_,_,_,_,_,rd3 w1,next k ⟨_,_,_,_,_,_,rfl,S1.upd (fun o off ha=>ne o (by have:=f1 o off ha;omega)) (by omega),S2.upd (fun o off ha=>ne o (by have:=f2 o off ha;omega)) (by omega),kgh.wr hb _ _,okh.wr _ _ _,fun o off ha=>by have:=f1 o off ha;omega,fun o off ha=>by have:=f2 o off ha;omega⟩⟩
omit hO ok A in
theorem HO.zero {g h:Hp}(k:Kp g.nx g h)(ok:h.Ok):HO g [] 0 [] (.agg #[.slice none 0 0,.int .i64 (Int.ofNat 0),.slice none 0 0]) h:=⟨_,_,_,_,_,_,rfl,SI.fix (SlAt.nil ..) (Nat.le_refl _) (by decide) (fun _=>rfl),SI.fix (SlAt.nil ..) (Nat.le_refl _) (by decide) (fun _=>rfl),k,ok,fun _ _ h=>(by cases h),fun _ _ h=>(by cases h)⟩
theorem ct16 {top:Int}{res:List Nat}{f:Nat}(hres: ∀l,formedR W top R=some l→reachO W 1 f 0 (withP 1 R [])=some res∧(∀p∈res,CellAt W p)∧1+totalW W res≤W.length):
 Ret Tryz.prog O 16 [.agg #[.slice aw nw cw,.int .i64 top,.slice ar nr cr]] g (match formedR W top R with
  |none=>HE g [] 0 [] 2
  |some all=>HE g (colD W 1 all res) (1+totalW W res) (R.map (mvw W 1 res)) 0):=by
 refine rk16 (hO:=hO _ _ _ (by decide)) (hh:= ?_) ..;unfold T16;intro g1 g2;have n1':g1.nx=g.nx+1:=rfl;have n2:g2.nx=g.nx+2:=rfl;have k2:Kp g.nx g g2:=((Kp.refl _ g).add (Nat.le_refl _) _).add (Nat.le_succ _) _;have s2:g2.get g.nx=some (.cells [.slice aw nw cw,.int .i64 top,.slice ar nr cr] 24 .fix):=(get_add_ne (show g.nx≠g1.nx by omega)).trans (get_add_same ..);have r2:g2.get g1.nx=some (.cells [.slice none 0 0,.int .i64 0,.slice none 0 0] 24 .fix):=get_add_same ..;have ok2:g2.Ok:=ok.kp k2;haveI:Ft g g2:=k2.ex (Nat.le_refl _);obtain⟨v,h11,e11,rfl,k11⟩:=ct63 hO ok2 (A.to g2) (top:=top);have kg11:Kp g.nx g h11:=k2.trans (k11.le (by omega));have ok11:h11.Ok:=ok2.kp k11;have r11:=(k11.get g1.nx (by omega)).trans r2;have s11:=(k11.get g.nx (by omega)).trans s2;have m11:=k11.nx;refine⟨_,_,_,_,_,_,_,rd3 s2,_,_,e11,?_⟩;cases hf:formedR W top R with
 |none=>
  refine vcond_t rfl ?_;exact hand_on ok (by omega) (by omega) kg11 (HO.zero (Kp.refl h11.nx h11) ok11) r11 fun k hk=>⟨_,rfl,hk⟩
 |some all=>
  obtain⟨f1,f2,f3,f4,f5,f6,f7,f8,f9⟩:=formedR_cells hf;obtain⟨tp,rfl⟩: ∃m:Nat,top=Int.ofNat m:=Int.eq_ofNat_of_zero_le (by omega);obtain⟨q1,q2,q3⟩:=hres all hf;haveI:Ft g h11:=kg11.ex (Nat.le_refl _);obtain⟨v,h34,e34,H⟩:=ct64 hO ok11 (A.to h11) f2 f5 (Int.ofNat_le.1 f3) (Int.ofNat_le.1 f4) (show cellsR W tp (tp+1) 1=some all from f7) q1 q2 q3;have H0:=H;obtain⟨aw',nw',cw',ar',nr',cr',rfl,_,_,kp,_⟩:=H0;refine vcond_f rfl ⟨_,_,_,_,_,_,_,rd3 s11,_,_,_,_,_,_,_,_,e34,?_⟩;exact hand_on ok (by omega) (by omega) kg11 H ((kp.get g1.nx (by omega)).trans r11) fun k hk=>⟨_,rfl,hk⟩
omit hO ok A in
theorem RunQ.ho {W:List Int}{fr:Nat}{s:Mv}{rs ks:List Int}{v:Value}{h:Hp}(q:RunQ g W fr s rs ks v h)(lr:rs.length<1000000): ∃u kept ptr,v= .tuple #[u,kept,ptr]∧HO g s.D s.top rs u h:=by
 obtain⟨p,ao,no,co,ar',nr',cr',ak,nk,ck,rfl,P,pn,pf,m,Ar,Ak,d1,d2,d3,k2,ok2⟩:=q;have:=P.tM;have:=P.wM;have:=P.B;have:=P.oW;have:=P.M;have:=m.nx;refine⟨_,_,_,rfl,_,_,_,_,_,_,rfl,SI.cells m.D (by omega) m.lD.symm (by rw[m.lD];exact P.n),SI.acc Ar (by omega),k2,ok2,fun o off ha=> ?_,fun o off ha=> ?_⟩
 · injection ha with ha;injection ha with ha;omega
 · have:=Ar.fresh ha;omega
theorem ct15 (tb:Tb g){top:Int}{s:Mv}{rs ks:List Int}(hrun: ∀l,checkP W top R=some l→runO W 1 R []=some (s,rs,ks))(lrs:rs.length<1000000):
 Ret Tryz.prog O 15 [.agg #[.slice aw nw cw,.int .i64 top,.slice ar nr cr]] g (match checkP W top R with
  |none=>HE g [] 0 [] 2
  |some _=>HE g s.D s.top rs 0):=by
 refine rk15 (hO:=hO _ _ _ (by decide)) (hh:= ?_) ..;unfold T15;intro g1 g2;have n1':g1.nx=g.nx+1:=rfl;have n2:g2.nx=g.nx+2:=rfl;have n0:0<g.nx:=by have:=tb.1;omega
 have k2:Kp g.nx g g2:=((Kp.refl _ g).add (Nat.le_refl _) _).add (Nat.le_succ _) _;have s2:g2.get g.nx=some (.cells [.slice aw nw cw,.int .i64 top,.slice ar nr cr] 24 .fix):=(get_add_ne (show g.nx≠g1.nx by omega)).trans (get_add_same ..);have r2:g2.get g1.nx=some (.cells [.slice none 0 0,.int .i64 0,.slice none 0 0] 24 .fix):=get_add_same ..;have ok2:g2.Ok:=ok.kp k2;haveI:Ft g g2:=k2.ex (Nat.le_refl _);obtain⟨v,h11,e11,rfl,k11⟩:=ct41 hO ok2 (A.to g2) (top:=top) (tb.kp k2 n0);have kg11:Kp g.nx g h11:=k2.trans (k11.le (by omega));have ok11:h11.Ok:=ok2.kp k11;have r11:=(k11.get g1.nx (by omega)).trans r2;have s11:=(k11.get g.nx (by omega)).trans s2;have m11:=k11.nx;refine⟨_,_,_,_,_,_,_,rd3 s2,_,_,e11,?_⟩;cases hf:checkP W top R with
 |none=>
  refine vcond_t rfl ?_;exact hand_on ok (by omega) (by omega) kg11 (HO.zero (Kp.refl h11.nx h11) ok11) r11 fun k hk=>⟨_,rfl,hk⟩
 |some l=>
  obtain⟨f1,f2,f3,f4,f5,f6,f7,f8,f9⟩:=checkP_cells hf;haveI:Ft g h11:=kg11.ex (Nat.le_refl _);obtain⟨v,h38,e38,q⟩:=ct62 hO ok11 (A.sw.to h11) A.w (by omega) (A.sr.at_.to h11) A.r (by omega) (top:=top) (SlAt.nil 1 EInt h11:IntsAt h11 none 0 []) (fun x hx=>by cases hx) (by decide) (cm:=0) (fr:=1) (by omega) (hrun l hf);have q0:=q;obtain⟨p,ao,no,co,ar',nr',cr',ak,nk,ck,rfl,_⟩:=q0;obtain⟨u,kept,ptr,e,H⟩:=q.ho lrs;injection e with e;have e:=congrArg Array.toList e;injection e with e1 _;subst e1;refine vcond_f rfl ⟨_,_,_,_,_,_,_,rd3 s11,_,_,_,_,_,_,_,_,_,_,_,_,e38,?_⟩;intro g39;have H0:=H;obtain⟨_,_,_,_,_,_,_,S1,S2,kp,ok38,fr1,fr2⟩:=H0;have o39:g39.get h38.nx=some (.cells [.slice none 0 0,.int .i64 0,.slice none 0 0] 24 .fix):=get_add_same ..;have u39:g39.guarded h38.nx=false:=ok38.lt.free (h:=g39) (Nat.le_refl _);obtain⟨c1,w1⟩:=three_wr o39 u39 (w1:= .slice (some ⟨p.oW,0,none⟩) p.n p.n) (w2:= .int .i64 (Int.ofNat s.top)) (w3:= .slice ar' nr' cr') rfl;refine vreq_t c1 ?_;intro g40;have k40:Kp h38.nx h38 g40:=((Kp.refl _ h38).add (Nat.le_refl _) _).wr (Nat.le_refl _) _ _;haveI:Ft h38 g40:=k40.ex (Nat.le_refl _);have m38:=kp.nx;have H40:HO h11 s.D s.top rs (.agg #[.slice (some ⟨p.oW,0,none⟩) p.n p.n,.int .i64 (Int.ofNat s.top),.slice ar' nr' cr']) g40:=by
   obtain⟨aw',nw',cw',ar2,nr2,cr2,e,S1,S2,kp,ok38,fr1,fr2⟩:=H;exact⟨aw',nw',cw',ar2,nr2,cr2,e,S1.to g40,S2.to g40,kp.trans (k40.le m38),ok38.kp k40,fr1,fr2⟩
  refine⟨_,_,_,_,_,_,_,rd3 w1,?_⟩;exact hand_on ok (by omega) (by omega) kg11 H40 ((k40.get g1.nx (by omega)).trans ((kp.get g1.nx (by omega)).trans r11)) fun k hk=>⟨_,rfl,hk⟩
end
theorem kind_of {W:List Int}{p:Nat}(hg:goodB (hdS (W.getD p 0)) (hdK (W.getD p 0))=true):1≤hdK (W.getD p 0)∧hdK (W.getD p 0)≤5:=by
 unfold goodB at hg;split at hg
 · omega
 · simp only[Bool.and_eq_true,decide_eq_true_eq]at hg;exact⟨hg.1.2,hg.2⟩
theorem put_cell {W:List Int}{fr:Nat}{o:List Nat}{p:Nat}(hk:1≤hdK (W.getD p 0)∧hdK (W.getD p 0)≤5):W.getD p 0::(fieldsW W p).map (putF W fr o (hdK (W.getD p 0)))=cellF W fr o p:=by
 unfold cellF;generalize hdK (W.getD p 0)=k at hk;congr 1;have hc:k=1∨k=2∨k=3∨k=4∨k=5:=by omega
 have mv: ∀k:Int,¬(k=3∨k=4)→(fieldsW W p).map (putF W fr o k)=(fieldsW W p).map (mvw W fr o):=fun k hk=>List.map_congr_left fun w _=>by unfold putF;rw[if_neg hk]
 have id': ∀k:Int,(k=3∨k=4)→(fieldsW W p).map (putF W fr o k)=fieldsW W p:=fun k hk=>by
  have:putF W fr o k=id:=by funext w;unfold putF;rw[if_pos hk];rfl
  rw[this,List.map_id]
 rcases hc with rfl|rfl|rfl|rfl|rfl
 · rw[mv 1 (by omega),if_pos (by decide)]
 · rw[mv 2 (by omega),if_pos (by decide)]
 · rw[id' 3 (by omega),if_neg (by decide)]
 · rw[id' 4 (by omega),if_neg (by decide)]
 · rw[mv 5 (by omega),if_pos (by decide)]
section
variable {W:List Int}{fr tp:Nat}{l new:List Nat}(C:Col W fr tp l new)(hk: ∀p∈l,1≤hdK (W.getD p 0)∧hdK (W.getD p 0)≤5)
include C hk
theorem cellF_length {o:List Nat}{p:Nat}(hp:p∈l):(cellF W fr o p).length=szW W p:=by
 have _:=hk;have fl:=fields_len C hp;unfold cellF szW;split<;>(rw[List.length_cons];first|(rw[List.length_map,fl];omega)|(rw[fl];omega))
theorem puts_zip {o:List Nat}: ∀(rest:List Nat) (Y:List Int) (z:Nat),(∀p∈rest,p∈l)→totalW W rest≤z→putsP W fr o ((addrs W Y.length rest).zip rest) (Y++List.replicate z 0)=Y++rest.flatMap (cellF W fr o)++List.replicate (z-totalW W rest) 0:=by
 intro rest
 induction rest with
 |nil=>intro Y z _ _;simp[putsP,totalW,addrs]
 |cons p rest ih=>
  intro Y z hl hz;have hp:=hl p (List.mem_cons_self ..);have ht:totalW W (p::rest)=szW W p+totalW W rest:=rfl;show putsP W fr o ((addrs W (Y.length+szW W p) rest).zip rest) (putAt (Y++List.replicate z 0) Y.length (W.getD p 0::(fieldsW W p).map (putF W fr o (hdK (W.getD p 0)))))=_;rw[put_cell (hk p hp),putAt_zeros C Y _ _ (by rw[cellF_length C hk hp];omega),cellF_length C hk hp];have hlen:(Y++cellF W fr o p).length=Y.length+szW W p:=by rw[List.length_append,cellF_length C hk hp]
  have:=ih (Y++cellF W fr o p) (z-szW W p) (fun q hq=>hl q (List.mem_cons_of_mem _ hq)) (by omega);rw[hlen]at this;rw[this,List.flatMap_cons,ht,Nat.sub_sub];simp only[List.append_assoc]
end
theorem laid_run {W:List Int}{top:Int}{R:List Int}{l:List Nat}(h:checkP W top R=some l){s:Mv}(S:St W 1 l s (W.take 1++s.ord.flatMap (cellF W 1 s.ord))):colD W 1 l s.ord=s.D∧1+totalW W s.ord=s.top∧(∀p∈s.ord,CellAt W p)∧1+totalW W s.ord≤W.length:=by
 obtain⟨C,_⟩:=col_of h;obtain⟨f1,f2,f3,f4,f5,f6,f7,f8,f9⟩:=checkP_cells h;have hm:=(cellsR_mem (cellsG_R f7)).2;have hgood: ∀(f p:Nat) (l':List Nat),cellsG W top.toNat f p=some l'→ ∀x∈l',goodB (hdS (W.getD x 0)) (hdK (W.getD x 0))=true:=by
  intro f
  induction f with
  |zero=>intro p l' h;cases h
  |succ f ih=>
   intro p l' h x hx;rcases cellsG_cons h with ⟨_,_,h3,l2,rfl,h4⟩|⟨rfl,rfl⟩
   · rcases List.mem_cons.1 hx with rfl|hx
     · exact h3
     · exact ih _ _ h4 x hx
   · cases hx
 have hk: ∀p∈l,1≤hdK (W.getD p 0)∧hdK (W.getD p 0)≤5:=fun p hp=>kind_of (hgood _ _ _ f7 p hp);have hfit:=C.fit S;have htop:=S.top;have htn:=C.tpn;refine⟨?_,htop.symm,fun p hp=>cellAt C (S.sub p hp),by omega⟩;have ht:(l.takeWhile fun p=>decide (p<1))=[]:=by
  cases l with
  |nil=>rfl
  |cons x l=>
   have:=hm x (List.mem_cons_self ..);rw[List.takeWhile_cons_of_neg];simp;omega
 unfold colD;rw[ht];have hW0:W.take 1=[0]:=by
  have h0:W.getD 0 0=0:=by
   unfold checkP at h;split at h
   · cases h
   · rename_i hn;exact Classical.not_not.1 fun hh=>hn (.inr (.inr (.inr (.inr (.inl hh)))))
  cases W with
  |nil=>simp at f1
  |cons w W=>simp at h0;rw[h0];rfl
 have e:List.replicate W.length (0:Int)=[0]++List.replicate (W.length-1) 0:=by
  cases W with
  |nil=>simp at f1
  |cons w W=>rfl
 show putsP W 1 s.ord ((addrs W 1 s.ord).zip s.ord) (List.replicate W.length 0)=s.D;rw[e];have:=puts_zip C hk (o:=s.ord) s.ord [0] (W.length-1) S.sub (by omega);rw[show([0]:List Int).length=1 from rfl]at this;rw[this,S.D,hW0,htop,Nat.sub_sub]
structure Out where
 W:List Int
 top:Nat
 R:List Int
 e:Int
theorem colD_length (W:List Int)(fr:Nat)(all res:List Nat):(colD W fr all res).length=W.length:=by unfold colD;rw[putsP_length];simp
theorem AccE.ints {e:TypeId}{h:Hp}{base:Nat}{a:Option Addr}{n c:Nat}{xs:List Int}(H:AccE h base e 1 a n c (xs.map (Value.int .i64))):IntsAt h a n xs:=by
 rcases H with H|⟨h1,h2,h3,o,h4,h5,h6,e2,m,h7⟩
 · exact AccI.ints (e:=e) (base:=base) (c:=c) H
 · have hx:xs=[]:=by
    cases xs with
    |nil=>rfl
    |cons x xs=>cases h1
   subst hx h2 h4;exact⟨rfl,.inr ⟨o,0,_,_,_,rfl,h6,h7,by simp,fun i hi=>by simp at hi⟩⟩
structure Fd where
 n:Int
 refs:Bool
 deriving DecidableEq
structure Cl where
 kind:Int
 fs:List Fd
def Cl.no:Cl:=⟨0,[]⟩
def clAt (L:List Cl)(i:Nat):Cl:=L.getD i Cl.no
def szC (L:List Cl)(i:Nat):Nat:=1+(clAt L i).fs.length
def posS (sz:Nat→Nat):Nat→List Nat→Nat→Nat
 |_,[],_=>0
 |b,x::xs,a=>if x=a then b else posS sz (b+sz x) xs a
def totS (sz:Nat→Nat)(o:List Nat):Nat:=(o.map sz).sum
def addrS (sz:Nat→Nat):Nat→List Nat→List Nat
 |_,[]=>[]
 |b,x::xs=>b::addrS sz (b+sz x) xs
theorem posF_S (W:List Int): ∀(o:List Nat) (b a:Nat),posF W b o a=posS (szW W) b o a:=by
 intro o
 induction o with
 |nil=>intro b a;rfl
 |cons x o ih=>intro b a;show(if x=a then b else posF W (b+szW W x) o a)=if x=a then b else _;rw[ih]
theorem totS_app (sz:Nat→Nat)(a b:List Nat):totS sz (a++b)=totS sz a+totS sz b:=by simp[totS]
theorem totS_cons (sz:Nat→Nat)(a:Nat)(b:List Nat):totS sz (a::b)=sz a+totS sz b:=rfl
theorem posS_app {sz:Nat→Nat}: ∀ {o e:List Nat} {b a:Nat},a ∉ o→posS sz b (o++e) a=posS sz (b+totS sz o) e a:=by
 intro o
 induction o with
 |nil=>intro e b a _;rfl
 |cons x o ih=>
  intro e b a h;show(if x=a then b else posS sz (b+sz x) (o++e) a)=_;rw[if_neg (fun hh=>h (by rw[hh];exact List.mem_cons_self ..)),ih (fun hh=>h (List.mem_cons_of_mem _ hh)),totS_cons,Nat.add_assoc]
theorem posS_at {sz:Nat→Nat}{o1 o2:List Nat}{b a:Nat}(h:a ∉ o1):posS sz b (o1++a::o2) a=b+totS sz o1:=by
 rw[posS_app h];show(if a=a then _ else _)=_;rw[if_pos rfl]
theorem posS_not {sz:Nat→Nat}: ∀ {o:List Nat} {b a:Nat},a ∉ o→posS sz b o a=0:=by
 intro o
 induction o with
 |nil=>intro b a _;rfl
 |cons x xs ih=>
  intro b a h;unfold posS;rw[if_neg (fun hh=>h (by rw[hh];exact List.mem_cons_self ..)),ih (fun hh=>h (List.mem_cons_of_mem _ hh))]
theorem posS_ge {sz:Nat→Nat}: ∀ {o:List Nat} {b a:Nat},a∈o→b≤posS sz b o a:=by
 intro o
 induction o with
 |nil=>intro b a h;cases h
 |cons x xs ih=>
  intro b a h;unfold posS;split
  · exact Nat.le_refl _
  · rcases List.mem_cons.1 h with rfl|h
    · exact absurd rfl ‹_›
    · have:=ih (b:=b+sz x) h;omega
theorem posS_lt {sz:Nat→Nat}: ∀ {o:List Nat} {b a:Nat},a∈o→posS sz b o a+sz a≤b+totS sz o:=by
 intro o
 induction o with
 |nil=>intro b a h;cases h
 |cons x xs ih=>
  intro b a h;unfold posS;rw[totS_cons];split
  · rename_i e;subst e;omega
  · rcases List.mem_cons.1 h with rfl|h
    · exact absurd rfl ‹_›
    · have:=ih (b:=b+sz x) h;omega
theorem posS_inj {sz:Nat→Nat}(h1: ∀i,0<sz i): ∀ {o:List Nat} {b a c:Nat},a∈o→posS sz b o a=posS sz b o c→c∈o→a=c:=by
 intro o
 induction o with
 |nil=>intro b a c h;cases h
 |cons x xs ih=>
  intro b a c ha e hc;unfold posS at e;by_cases hxa:x=a
  · rw[if_pos hxa]at e;by_cases hxc:x=c
    · rw[←hxa,hxc]
    · rw[if_neg hxc]at e;have:=posS_ge (sz:=sz) (b:=b+sz x) ((List.mem_cons.1 hc).resolve_left (fun h=>hxc h.symm));have:=h1 x;omega
  · rw[if_neg hxa]at e;by_cases hxc:x=c
    · rw[if_pos hxc]at e;have:=posS_ge (sz:=sz) (b:=b+sz x) ((List.mem_cons.1 ha).resolve_left (fun h=>hxa h.symm));have:=h1 x;omega
    · rw[if_neg hxc]at e;exact ih ((List.mem_cons.1 ha).resolve_left (fun h=>hxa h.symm)) e ((List.mem_cons.1 hc).resolve_left (fun h=>hxc h.symm))
theorem posS_congr {s1 s2:Nat→Nat}: ∀ {o:List Nat} {b a:Nat},(∀i∈o,s1 i=s2 i)→posS s1 b o a=posS s2 b o a:=by
 intro o
 induction o with
 |nil=>intro b a _;rfl
 |cons x o ih=>
  intro b a h;show(if x=a then b else posS s1 (b+s1 x) o a)=if x=a then b else posS s2 (b+s2 x) o a
  rw[h x (List.mem_cons_self ..),ih fun i hi=>h i (List.mem_cons_of_mem _ hi)]
theorem totS_congr {s1 s2:Nat→Nat}{o:List Nat}(h: ∀i∈o,s1 i=s2 i):totS s1 o=totS s2 o:=by
 unfold totS;rw[List.map_congr_left h]
theorem posS_map {sz:Nat→Nat}{f:Nat→Nat}: ∀ {o:List Nat} {b a:Nat},(∀i∈o,f i=f a→i=a)→posS sz b (o.map f) (f a)=posS (fun i=>sz (f i)) b o a:=by
 intro o
 induction o with
 |nil=>intro b a _;rfl
 |cons x o ih=>
  intro b a h;show(if f x=f a then b else posS sz (b+sz (f x)) (o.map f) (f a))=if x=a then b else posS (fun i=>sz (f i)) (b+sz (f x)) o a
  by_cases hx:x=a
  · rw[if_pos hx,if_pos (by rw[hx])]
  · rw[if_neg hx,if_neg (fun hh=>hx (h x (List.mem_cons_self ..) hh)),ih fun i hi=>h i (List.mem_cons_of_mem _ hi)]
theorem totS_map {sz:Nat→Nat}{f:Nat→Nat}{o:List Nat}:totS sz (o.map f)=totS (fun i=>sz (f i)) o:=by
 unfold totS;rw[List.map_map];rfl
theorem addrS_map {sz:Nat→Nat}: ∀ {o:List Nat} {b:Nat},o.Nodup→o.map (posS sz b o)=addrS sz b o:=by
 intro o
 induction o with
 |nil=>intro b _;rfl
 |cons x o ih=>
  intro b h;obtain⟨h1,h2⟩:=List.nodup_cons.1 h;show(if x=x then b else _)::o.map _=b::addrS sz (b+sz x) o;rw[if_pos rfl,←ih h2];congr 1;refine List.map_congr_left fun i hi=> ?_;show(if x=i then b else _)=_;rw[if_neg (fun hh=>h1 (by rw[hh];exact hi))]
def wd (at_:Nat→Nat)(f:Fd):Int:=if f.refs then 2*(at_ f.n.toNat:Int)else f.n
theorem wd_n {at_:Nat→Nat}{f:Fd}(h:f.refs=false):wd at_ f=f.n:=by unfold wd;rw[h];rfl
theorem wd_r {at_:Nat→Nat}{f:Fd}(h:f.refs=true):wd at_ f=2*(at_ f.n.toNat:Int):=by unfold wd;rw[h];rfl
def hdC (c:Cl):Int:=8*(c.fs.length:Int)+c.kind
def cellC (L:List Cl)(at_:Nat→Nat)(i:Nat):List Int:=hdC (clAt L i)::(clAt L i).fs.map (wd at_)
theorem cellC_length (L:List Cl)(at_:Nat→Nat)(i:Nat):(cellC L at_ i).length=szC L i:=by
 unfold cellC szC;rw[List.length_cons,List.length_map];omega
theorem cells_length (L:List Cl)(at_:Nat→Nat): ∀(o:List Nat),(o.flatMap (cellC L at_)).length=totS (szC L) o:=by
 intro o
 induction o with
 |nil=>rfl
 |cons x o ih=>rw[List.flatMap_cons,List.length_append,cellC_length,ih,totS_cons]
def atC (L:List Cl)(o:List Nat):Nat→Nat:=posS (szC L) 1 o
def layT (L:List Cl)(o:List Nat):Nat:=1+totS (szC L) o
def layW (L:List Cl)(o:List Nat)(free:Nat):List Int:=0::(o.flatMap (cellC L (atC L o))++List.replicate free 0)
def layR (L:List Cl)(o:List Nat)(roots:List Fd):List Int:=roots.map (wd (atC L o))
theorem layW_length (L:List Cl)(o:List Nat)(free:Nat):(layW L o free).length=layT L o+free:=by
 unfold layW layT;rw[List.length_cons,List.length_append,cells_length,List.length_replicate];omega
theorem totS_len (L:List Cl)(o:List Nat):o.length≤totS (szC L) o:=by
 induction o with
 |nil=>exact Nat.zero_le _
 |cons x o ih=>rw[totS_cons,List.length_cons];have:0<szC L x:=(by unfold szC;omega);omega
theorem szC_pos (L:List Cl)(i:Nat):0<szC L i:=by unfold szC;omega
def FdOk (o:List Nat)(k:Int)(f:Fd):Prop:=
 if k=3 then f.refs=false∧letterB f.n=true else if k=4 then f.refs=false∧(f.n=0∨f.n=1)else
 (f.refs=true∧ ∃j∈o,f.n=(j:Int))∨(f.refs=false∧(f.n=0∨(Int.tmod f.n 2≠0∧ -1999999999≤f.n∧f.n≤2000000001)))
structure Gr (L:List Cl)(o:List Nat):Prop where
 nd:o.Nodup
 kind: ∀i∈o,1≤(clAt L i).kind∧(clAt L i).kind≤5
 size: ∀i∈o,(clAt L i).fs.length≤20
 truth: ∀i∈o,(clAt L i).kind=4→(clAt L i).fs.length=1
 fok: ∀i∈o,∀f∈(clAt L i).fs,FdOk o (clAt L i).kind f
theorem hdC_S {c:Cl}(h1:1≤c.kind)(h5:c.kind≤5):hdS (hdC c)=(c.fs.length:Int):=by
 unfold hdS hdC;rw[tdiv_eq];split<;>omega
theorem hdC_K {c:Cl}(h1:1≤c.kind)(h5:c.kind≤5):hdK (hdC c)=c.kind:=by
 have e:=Int.mul_tdiv_add_tmod (hdC c) 8;have:Int.tdiv (hdC c) 8=(c.fs.length:Int):=hdC_S h1 h5;rw[this]at e;unfold hdK;have:hdC c=8*(c.fs.length:Int)+c.kind:=rfl;omega
section
variable {L:List Cl}{o:List Nat}{free:Nat}(G:Gr L o)
include G
theorem lay_split {i:Nat}(hi:i∈o): ∃pre post,layW L o free=pre++cellC L (atC L o) i++post∧pre.length=atC L o i:=by
 obtain⟨o1,o2,rfl⟩:=List.append_of_mem hi;have hn:i ∉ o1:=fun h=>by
  have:=List.nodup_append.1 G.nd;exact this.2.2 i h i (List.mem_cons_self ..) rfl
 refine⟨0::o1.flatMap (cellC L (atC L (o1++i::o2))),o2.flatMap (cellC L (atC L (o1++i::o2)))++List.replicate free 0,?_,?_⟩
 · unfold layW;rw[List.flatMap_append,List.flatMap_cons];simp only[List.append_assoc,List.cons_append]
 · rw[List.length_cons,cells_length];show _=posS (szC L) 1 _ i;rw[posS_at hn];omega
theorem lay_head {i:Nat}(hi:i∈o):(layW L o free).getD (atC L o i) 0=hdC (clAt L i):=by
 obtain⟨pre,post,e,l⟩:=lay_split (free:=free) G hi;rw[e,←l,List.append_assoc];simp[cellC,List.getD]
theorem lay_size {i:Nat}(hi:i∈o):szW (layW L o free) (atC L o i)=szC L i:=by
 obtain⟨h1,h2⟩:=G.kind i hi;unfold szW szC;rw[lay_head G hi,hdC_S h1 h2];rfl
theorem lay_kind {i:Nat}(hi:i∈o):hdK ((layW L o free).getD (atC L o i) 0)=(clAt L i).kind:=by
 obtain⟨h1,h2⟩:=G.kind i hi;rw[lay_head G hi,hdC_K h1 h2]
theorem lay_fields {i:Nat}(hi:i∈o):fieldsW (layW L o free) (atC L o i)=(clAt L i).fs.map (wd (atC L o)):=by
 obtain⟨h1,h2⟩:=G.kind i hi;obtain⟨pre,post,e,l⟩:=lay_split (free:=free) G hi;unfold fieldsW;rw[lay_head G hi,hdC_S h1 h2,e,←l];have:pre++cellC L (atC L o) i++post=(pre++[hdC (clAt L i)])++((clAt L i).fs.map (wd (atC L o))++post):=by simp[cellC]
 rw[this,List.drop_left' (by simp)];rw[List.take_left' (by simp)]
theorem lay_inj {i j:Nat}(hi:i∈o)(hj:j∈o)(e:atC L o i=atC L o j):i=j:=by
 have _:=G;exact posS_inj (szC_pos L) hi e hj
theorem lay_pos {i:Nat}(hi:i∈o):1≤atC L o i∧atC L o i+szC L i≤layT L o:=by
 have _:=G;exact⟨posS_ge hi,posS_lt hi⟩
theorem lay_cellsR: ∀(rest:List Nat) (f b:Nat) (pre post:List Int),(∀i∈rest,i∈o)→layW L o free=pre++rest.flatMap (cellC L (atC L o))++post→pre.length=b→b+totS (szC L) rest=layT L o→rest.length<f→cellsR (layW L o free) (layT L o) f b=some (addrS (szC L) b rest):=by
 intro rest
 induction rest with
 |nil=>
  intro f b pre post _ _ _ ht hf;cases f with
  |zero=>cases hf
  |succ f=>
   have:b=layT L o:=by rw[←ht];rfl
   unfold cellsR;rw[if_neg (by omega),if_pos this];rfl
 |cons i rest ih=>
  intro f b pre post hm e hl ht hf;cases f with
  |zero=>cases hf
  |succ f=>
   have hi:=hm i (List.mem_cons_self ..);obtain⟨h1,h2⟩:=G.kind i hi;have h3:=G.size i hi;rw[totS_cons]at ht;have hs:=szC_pos L i;have hd:(layW L o free).getD b 0=hdC (clAt L i):=by
    rw[e,←hl,List.flatMap_cons];simp[cellC,List.getD]
   unfold cellsR;rw[if_pos (by omega),hd,hdC_S h1 h2,hdC_K h1 h2];rw[if_neg]
   · have e2:b+1+((clAt L i).fs.length:Int).toNat=b+szC L i:=by unfold szC;omega
     rw[e2,ih f (b+szC L i) (pre++cellC L (atC L o) i) post (fun j hj=>hm j (List.mem_cons_of_mem _ hj)) (by rw[e,List.flatMap_cons];simp only[List.append_assoc]) (by rw[List.length_append,cellC_length,hl]) (by omega) (by simpa using hf)];rfl
   · intro hh;rcases hh with hh|hh
     · unfold hdC at hh;omega
     · unfold goodR at hh;simp only[Bool.and_eq_false_iff,decide_eq_false_iff_not]at hh;omega
theorem lay_word {k:Int}{f:Fd}(hk:k≠3)(hk4:k≠4)(hf:FdOk o k f):wordR (o.map (atC L o)) (wd (atC L o) f)=true:=by
 have _:=G;unfold FdOk at hf;rw[if_neg hk,if_neg hk4]at hf;unfold wd;rcases hf with ⟨h1,j,hj,e⟩|⟨h1,h2⟩
 · rw[if_pos h1,e];unfold wordR;split
   · rfl
   · split
     · rename_i h2;exfalso;apply h2;rw[Int.mul_tmod_right]
     · rw[Int.mul_tdiv_cancel_left _ (by decide),List.contains_iff_mem];refine List.mem_map.2 ⟨atC L o j,List.mem_map.2 ⟨j,hj,rfl⟩,?_⟩;simp
 · rw[if_neg (by rw[h1];decide)];unfold wordR;split
   · rfl
   · rename_i h0;rcases h2 with h2|⟨h2,h3,h4⟩
     · exact absurd h2 h0
     · rw[if_pos h2];simp only[Bool.and_eq_true,decide_eq_true_eq];exact⟨h3,h4⟩
theorem lay_field {k:Int}{f:Fd}(hf:FdOk o k f):fieldR (o.map (atC L o)) k (wd (atC L o) f)=true:=by
 unfold fieldR;by_cases h3:k=3
 · unfold FdOk at hf;rw[if_pos h3]at hf ⊢;unfold wd;rw[hf.1];exact hf.2
 · by_cases h4:k=4
   · unfold FdOk at hf;rw[if_neg h3,if_pos h4]at hf;rw[if_neg h3,if_pos h4];unfold wd;rw[hf.1];rcases hf.2 with h|h<;>simp[h]
   · rw[if_neg h3,if_neg h4];exact lay_word G h3 h4 hf
theorem lay_check {roots:List Fd}(hr: ∀f∈roots,FdOk o 1 f)(lr:roots.length≤10)(hfit:layT L o+free≤200):checkP (layW L o free) (layT L o:Nat) (layR L o roots)=some (o.map (atC L o)):=by
 rw[←formed_check];unfold formedR;have hl:=layW_length L o free;have hT:1≤layT L o:=by unfold layT;omega
 have h0:(layW L o free).getD 0 0=0:=rfl;rw[if_neg (by rw[hl,h0];unfold layR;rw[List.length_map];omega)];have hd:(layW L o free).drop (layT L o)=List.replicate free 0:=by
  unfold layW layT;rw[Nat.add_comm,List.drop_succ_cons,List.drop_left' (cells_length ..)]
 rw[Int.toNat_natCast,hd];rw[if_neg (by simp)];have hc:=lay_cellsR (free:=free) G o (layT L o+1) 1 [0] (List.replicate free 0) (fun _ h=>h) rfl rfl rfl (by have:=totS_len L o;unfold layT;omega);rw[hc,←addrS_map G.nd];show(if (cellsOk (layW L o free) (o.map (atC L o)) (o.map (atC L o))&&(layR L o roots).all (wordR (o.map (atC L o))))=true then _ else _)=_;rw[if_pos]
 · rfl
 rw[Bool.and_eq_true];constructor
 · unfold cellsOk;rw[List.all_eq_true];intro p hp;obtain⟨i,hi,rfl⟩:=List.mem_map.1 hp;rw[lay_kind G hi,lay_fields G hi];obtain⟨h1,h2⟩:=G.kind i hi;have h3:=G.size i hi;unfold fieldsR;rw[if_neg (by rw[List.length_map];have:=G.truth i hi;omega),List.all_eq_true];intro w hw;obtain⟨f,hf,rfl⟩:=List.mem_map.1 hw;exact lay_field G (G.fok i hi f hf)
 · unfold layR;rw[List.all_eq_true];intro w hw;obtain⟨f,hf,rfl⟩:=List.mem_map.1 hw;exact lay_word G (by decide) (by decide) (hr f hf)
end
def addC (l:List Nat)(f:Fd):List Nat:=if f.refs&& !(l.contains f.n.toNat)then l++[f.n.toNat]else l
def withC (fs:List Fd)(l:List Nat):List Nat:=fs.foldl addC l
def strongC (L:List Cl)(i:Nat):List Fd:=if keepB (clAt L i).kind then (clAt L i).fs else []
def reachC (L:List Cl):Nat→Nat→List Nat→Option (List Nat)
 |0,_,_=>none
 |f+1,i,l=>if i<l.length then reachC L f (i+1) (withC (strongC L (l.getD i 0)) l)else some l
theorem withC_cons (f:Fd)(fs:List Fd)(l:List Nat):withC (f::fs) l=withC fs (addC l f):=rfl
theorem addC_nodup {l:List Nat}{f:Fd}(h:l.Nodup):(addC l f).Nodup:=by
 unfold addC;split
 · rename_i hc;rw[Bool.and_eq_true,Bool.not_eq_true',←Bool.not_eq_true,List.contains_iff_mem]at hc;rw[List.nodup_append];exact⟨h,by simp,fun a ha b hb=>by rw[List.mem_singleton.1 hb];intro hh;exact hc.2 (hh▸ha)⟩
 · exact h
theorem addC_sub {o l:List Nat}{f:Fd}(h: ∀i∈l,i∈o)(hf:f.refs=true→f.n.toNat∈o): ∀i∈addC l f,i∈o:=by
 unfold addC;split
 · rename_i hc;rw[Bool.and_eq_true]at hc;intro i hi;rcases List.mem_append.1 hi with hi|hi
   · exact h i hi
   · rw[List.mem_singleton.1 hi];exact hf hc.1
 · exact h
theorem withC_inv {o:List Nat}: ∀ {fs:List Fd} {l:List Nat},l.Nodup→(∀i∈l,i∈o)→(∀f∈fs,f.refs=true→f.n.toNat∈o)→(withC fs l).Nodup∧ ∀i∈withC fs l,i∈o:=by
 intro fs
 induction fs with
 |nil=>intro l h1 h2 _;exact⟨h1,h2⟩
 |cons f fs ih=>
  intro l h1 h2 h3;rw[withC_cons];exact ih (addC_nodup h1) (addC_sub h2 (h3 f (List.mem_cons_self ..))) fun g hg=>h3 g (List.mem_cons_of_mem _ hg)
theorem addC_mem (l:List Nat)(f:Fd):(∀i∈l,i∈addC l f)∧(f.refs=true→f.n.toNat∈addC l f):=by
 unfold addC;split
 · exact⟨fun i hi=>List.mem_append.2 (.inl hi),fun _=>List.mem_append.2 (.inr (List.mem_singleton.2 rfl))⟩
 · rename_i hc;refine⟨fun i hi=>hi,fun h=> ?_⟩;rw[h,Bool.true_and,Bool.not_eq_true',←Bool.not_eq_true,List.contains_iff_mem]at hc;exact Classical.not_not.1 hc
theorem withC_mem: ∀(fs:List Fd) (l:List Nat),(∀i∈l,i∈withC fs l)∧ ∀f∈fs,f.refs=true→f.n.toNat∈withC fs l:=by
 intro fs
 induction fs with
 |nil=>intro l;exact⟨fun _ h=>h,fun _ h=>by cases h⟩
 |cons g fs ih=>
  intro l;obtain⟨a,b⟩:=ih (addC l g);obtain⟨c,d⟩:=addC_mem l g;refine⟨fun i hi=>a i (c i hi),fun f hf hr=> ?_⟩;rcases List.mem_cons.1 hf with rfl|hf
  · exact a _ (d hr)
  · exact b f hf hr
theorem withC_pre: ∀(fs:List Fd) (l:List Nat),∃e,withC fs l=l++e:=by
 intro fs
 induction fs with
 |nil=>intro l;exact⟨[],(List.append_nil l).symm⟩
 |cons f fs ih=>
  intro l;rw[withC_cons];obtain⟨e,he⟩:=ih (addC l f);rw[he];unfold addC;split
  · exact⟨[f.n.toNat]++e,by rw[List.append_assoc]⟩
  · exact⟨e,rfl⟩
theorem nodup_len {o:List Nat}: ∀ {l:List Nat},l.Nodup→(∀i∈l,i∈o)→l.length≤o.length:=fun {l} h1 h2=>by
 induction l generalizing o with
 |nil=>exact Nat.zero_le _
 |cons x l ih=>
  obtain⟨a,b⟩:=List.nodup_cons.1 h1;have hx:=h2 x (List.mem_cons_self ..);have:=ih (o:=o.erase x) b fun i hi=>(List.mem_erase_of_ne (fun hh=>by subst hh;exact a hi)).2 (h2 i (List.mem_cons_of_mem _ hi));rw[List.length_erase_of_mem hx]at this;have:0<o.length:=List.length_pos_of_mem hx;rw[List.length_cons];omega
theorem reachC_some {L:List Cl}{o:List Nat}(hc: ∀i∈o,∀f∈strongC L i,f.refs=true→f.n.toNat∈o): ∀(d f i:Nat) (l:List Nat),o.length+1≤d+i→d≤f→i≤l.length→l.Nodup→(∀i∈l,i∈o)→(∀k,k<i→ ∀f∈strongC L (l.getD k 0),f.refs=true→f.n.toNat∈l)→
 ∃r e,reachC L f i l=some r∧r=l++e∧r.Nodup∧(∀i∈r,i∈o)∧ ∀i∈r,∀f∈strongC L i,f.refs=true→f.n.toNat∈r:=by
 intro d
 induction d with
 |zero=>
  intro f i l h1 _ h3 h4 h5 _;have:=nodup_len h4 h5;omega
 |succ d ih=>
  intro f i l h1 h2 h3 h4 h5 h6;cases f with
  |zero=>omega
  |succ f=>
   unfold reachC;by_cases hi:i<l.length
   · rw[if_pos hi];have hli:l.getD i 0∈l:=by rw[List.getD,List.getElem?_eq_getElem hi];exact List.getElem_mem hi
     obtain⟨a,b⟩:=withC_inv (fs:=strongC L (l.getD i 0)) h4 h5 (hc _ (h5 _ hli));obtain⟨e1,he1⟩:=withC_pre (strongC L (l.getD i 0)) l;obtain⟨m1,m2⟩:=withC_mem (strongC L (l.getD i 0)) l;have hgd: ∀k,k<l.length→(withC (strongC L (l.getD i 0)) l).getD k 0=l.getD k 0:=fun k hk=>by
      rw[he1,List.getD,List.getElem?_append_left hk];rfl
     obtain⟨r,e,r1,r2,r3⟩:=ih f (i+1) _ (by omega) (by omega) (by rw[he1,List.length_append];omega) a b (fun k hk g hg hr=>by
      by_cases hki:k<i
      · rw[hgd k (by omega)]at hg;exact m1 _ (h6 k hki g hg hr)
      · have:k=i:=by omega
        subst this;rw[hgd k hi]at hg;exact m2 g hg hr)
     refine⟨r,e1++e,r1,by rw[r2,he1,List.append_assoc],r3⟩
   · rw[if_neg hi];refine⟨l,[],rfl,(List.append_nil l).symm,h4,h5,fun j hj g hg hr=> ?_⟩;obtain⟨k,hk,rfl⟩:=List.mem_iff_getElem.1 hj;refine h6 k (by omega) g ?_ hr;rw[List.getD,List.getElem?_eq_getElem hk];exact hg
section
variable {L:List Cl}{o:List Nat}{free:Nat}(G:Gr L o)
include G
theorem FdOk.mem {k:Int}{f:Fd}(hf:FdOk o k f)(hr:f.refs=true):f.n.toNat∈o∧f.n=(f.n.toNat:Int):=by
 have _:=G;unfold FdOk at hf;split at hf
 · rw[hf.1]at hr;cases hr
 · split at hf
   · rw[hf.1]at hr;cases hr
   · rcases hf with ⟨_,j,hj,e⟩|⟨h,_⟩
     · rw[e];exact⟨hj,rfl⟩
     · rw[h]at hr;cases hr
theorem lay_with {k:Int}(hk:k≠3)(hk4:k≠4): ∀(fs:List Fd) (l:List Nat),(∀f∈fs,FdOk o k f)→(∀i∈l,i∈o)→withP 1 (fs.map (wd (atC L o))) (l.map (atC L o))=(withC fs l).map (atC L o):=by
 intro fs
 induction fs with
 |nil=>intro l _ _;rfl
 |cons f fs ih=>
  intro l hf hl;have hf0:=hf f (List.mem_cons_self ..);have hfs: ∀g∈fs,FdOk o k g:=fun g hg=>hf g (List.mem_cons_of_mem _ hg);rw[withC_cons,List.map_cons];unfold withP;cases hr:f.refs with
  |false=>
   have e1:addC l f=l:=by unfold addC;rw[hr];rfl
   rw[e1];have e2:refd (wd (atC L o) f)=0:=by
    unfold FdOk at hf0;rw[if_neg hk,if_neg hk4]at hf0;rw[wd_n hr];unfold refd;rcases hf0 with ⟨h,_⟩|⟨_,h|⟨h,_⟩⟩
    · rw[hr]at h;cases h
    · rw[h];rfl
    · rw[if_pos h]
   rw[if_pos (by rw[e2];decide)];exact ih l hfs hl
  |true=>
   obtain⟨hm,he⟩:=FdOk.mem G hf0 hr;have hp:=lay_pos G hm;have e2:refd (wd (atC L o) f)=(atC L o f.n.toNat:Int):=by
    unfold wd refd;rw[if_pos hr,if_neg (by rw[Int.mul_tmod_right];decide),Int.mul_tdiv_cancel_left _ (by decide)]
   rw[e2,if_neg (by show¬((atC L o f.n.toNat:Int)<1);omega)];have hc:((l.map (atC L o)).map Int.ofNat).contains (atC L o f.n.toNat:Int)=l.contains f.n.toNat:=by
    rw[Bool.eq_iff_iff,List.contains_iff_mem,List.contains_iff_mem];constructor
    · intro h;obtain⟨a,ha,e⟩:=List.mem_map.1 h;obtain⟨j,hj,rfl⟩:=List.mem_map.1 ha;have:atC L o j=atC L o f.n.toNat:=Int.ofNat_inj.1 e;rw[←lay_inj G (hl j hj) hm this];exact hj
    · intro h;exact List.mem_map.2 ⟨_,List.mem_map.2 ⟨_,h,rfl⟩,rfl⟩
   rw[hc];cases hq:l.contains f.n.toNat with
   |true=>
    have e1:addC l f=l:=by unfold addC;rw[hr,hq];rfl
    rw[if_pos rfl,e1];exact ih l hfs hl
   |false=>
    have e1:addC l f=l++[f.n.toNat]:=by unfold addC;rw[hr,hq];rfl
    rw[if_neg (by decide),e1];have e3:l.map (atC L o)++[((atC L o f.n.toNat:Nat):Int).toNat]=(l++[f.n.toNat]).map (atC L o):=by rw[List.map_append];rfl
    rw[e3];exact ih _ hfs fun i hi=>by
     rcases List.mem_append.1 hi with hi|hi
     · exact hl i hi
     · rw[List.mem_singleton.1 hi];exact hm
theorem strong_ok {i:Nat}(hi:i∈o):(∀f∈strongC L i,FdOk o 1 f)∧strongP (layW L o free) (atC L o i)=(strongC L i).map (wd (atC L o)):=by
 unfold strongC strongP;rw[lay_kind G hi,lay_fields G hi];cases hk:keepB (clAt L i).kind with
 |false=>exact⟨fun f hf=>by simp at hf,by simp⟩
 |true=>
  rw[if_pos rfl,if_pos rfl];refine⟨fun f hf=> ?_,rfl⟩;have:=G.fok i hi f hf;unfold FdOk at this ⊢;unfold keepB at hk;have h3:(clAt L i).kind≠3:=fun h=>by rw[h]at hk;cases hk
  have h4:(clAt L i).kind≠4:=fun h=>by rw[h]at hk;cases hk
  rw[if_neg h3,if_neg h4]at this;rw[if_neg (by decide),if_neg (by decide)];exact this
theorem lay_cellAt {i:Nat}(hi:i∈o):CellAt (layW L o free) (atC L o i):=by
 have hp:=lay_pos G hi;have hl:=layW_length L o free;obtain⟨h1,h2⟩:=G.kind i hi;have h3:=G.size i hi;have hz:szC L i=1+(clAt L i).fs.length:=rfl;unfold CellAt;rw[lay_head G hi,hdC_S h1 h2,hl];refine⟨by omega,by unfold hdC;omega,by omega,by rw[Int.toNat_natCast];omega⟩
theorem lay_reach (hfit:layT L o≤1000): ∀(f i:Nat) (l:List Nat),l.Nodup→(∀i∈l,i∈o)→reachO (layW L o free) 1 f i (l.map (atC L o))=(reachC L f i l).map (fun r=>r.map (atC L o)):=by
 intro f
 induction f with
 |zero=>intro i l _ _;rfl
 |succ f ih=>
  intro i l hn hl;unfold reachO reachC;rw[List.length_map];by_cases hi:i<l.length
  · rw[if_pos hi,if_pos hi];have hli:l.getD i 0∈l:=by rw[List.getD,List.getElem?_eq_getElem hi];exact List.getElem_mem hi
    have hg:(l.map (atC L o)).getD i 0=atC L o (l.getD i 0):=by
     rw[List.getD,List.getElem?_map,List.getD,List.getElem?_eq_getElem hi];rfl
    rw[hg];obtain⟨s1,s2⟩:=strong_ok (free:=free) G (hl _ hli);have hlen:=nodup_len hn hl;have:=totS_len L o;have ht:layT L o=1+totS (szC L) o:=rfl;rw[if_pos ⟨lay_cellAt G (hl _ hli),by omega⟩,s2,lay_with G (by decide) (by decide) _ _ s1 hl];obtain⟨a,b⟩:=withC_inv (fs:=strongC L (l.getD i 0)) hn hl fun f hf hr=>(FdOk.mem G (s1 f hf) hr).1;exact ih (i+1) _ a b
  · rw[if_neg hi,if_neg hi];rfl
theorem strong_closed: ∀i∈o,∀f∈strongC L i,f.refs=true→f.n.toNat∈o:=fun _ hi f hf hr=>(FdOk.mem G ((strong_ok (free:=0) G hi).1 f hf) hr).1
end
def prunedF (kept:List Nat)(k:Int)(f:Fd):Fd:=if f.refs&& !(kept.contains f.n.toNat)&&k==5 then ⟨0,false⟩else f
def prunedC (kept:List Nat)(c:Cl):Cl:=⟨c.kind,c.fs.map (prunedF kept c.kind)⟩
def prunedL (L:List Cl)(kept:List Nat):List Cl:=L.map (prunedC kept)
theorem pruned_at (L:List Cl)(kept:List Nat)(i:Nat):clAt (prunedL L kept) i=prunedC kept (clAt L i):=by
 unfold clAt prunedL;rw[List.getD,List.getElem?_map,List.getD];cases L[i]? <;>rfl
theorem pruned_sz (L:List Cl)(kept:List Nat):szC (prunedL L kept)=szC L:=by
 funext i;unfold szC;rw[pruned_at];show 1+((clAt L i).fs.map _).length=_;rw[List.length_map]
theorem pruned_hd (kept:List Nat)(c:Cl):hdC (prunedC kept c)=hdC c:=by
 show 8*(((c.fs.map _).length:Nat):Int)+c.kind=_;rw[List.length_map];rfl
section
variable {L:List Cl}{o:List Nat}{free:Nat}(G:Gr L o){kept:List Nat}(hs: ∀i∈kept,i∈o)
include G hs
theorem lay_posF {j:Nat}(hj:j∈o):posF (layW L o free) 1 (kept.map (atC L o)) (atC L o j)=atC (prunedL L kept) kept j:=by
 rw[posF_S,posS_map fun i hi e=>lay_inj G (hs i hi) hj e];unfold atC;rw[pruned_sz];exact posS_congr fun i hi=>lay_size G (hs i hi)
theorem lay_totalW:1+totalW (layW L o free) (kept.map (atC L o))=layT (prunedL L kept) kept:=by
 show 1+totS (szW _) (kept.map (atC L o))=1+totS (szC (prunedL L kept)) kept;rw[totS_map,pruned_sz];rw[totS_congr fun i hi=>lay_size G (hs i hi)]
theorem lay_mvw {k k':Int}{f:Fd}(hk:k≠3)(hk4:k≠4)(hf:FdOk o k f):mvw (layW L o free) 1 (kept.map (atC L o)) (wd (atC L o) f)=wd (atC (prunedL L kept) kept) (prunedF kept k' f):=by
 cases hr:f.refs with
 |false=>
  have e1:prunedF kept k' f=f:=by unfold prunedF;rw[hr];rfl
  rw[e1];unfold FdOk at hf;rw[if_neg hk,if_neg hk4]at hf;rw[wd_n hr,wd_n hr];unfold mvw;rcases hf with ⟨h,_⟩|⟨_,h|⟨h,_⟩⟩
  · rw[hr]at h;cases h
  · rw[h];rfl
  · rw[if_pos h]
 |true=>
  obtain⟨hm,he⟩:=FdOk.mem G hf hr;have hp:=lay_pos G hm;have e0:wd (atC L o) f=2*(atC L o f.n.toNat:Int):=by unfold wd;rw[if_pos hr]
  rw[e0];unfold mvw;rw[if_neg (by rw[Int.mul_tmod_right];decide),Int.mul_tdiv_cancel_left _ (by decide),if_neg (by show¬((atC L o f.n.toNat:Int)<1);omega),Int.toNat_natCast,lay_posF G hs hm];by_cases hc:(f.refs&& !(kept.contains f.n.toNat)&&k'==5)=true
  · have e1:prunedF kept k' f=⟨0,false⟩:=by unfold prunedF;rw[if_pos hc]
    rw[e1];rw[Bool.and_eq_true,Bool.and_eq_true,Bool.not_eq_true',←Bool.not_eq_true,List.contains_iff_mem]at hc;have:atC (prunedL L kept) kept f.n.toNat=0:=posS_not hc.1.2;rw[this];rfl
  · have e1:prunedF kept k' f=f:=by unfold prunedF;rw[if_neg hc]
    rw[e1];unfold wd;rw[if_pos hr]
theorem lay_cellF {i:Nat}(hi:i∈o):cellF (layW L o free) 1 (kept.map (atC L o)) (atC L o i)=cellC (prunedL L kept) (atC (prunedL L kept) kept) i:=by
 unfold cellF cellC;rw[lay_kind G hi,lay_head G hi,lay_fields G hi,pruned_at,pruned_hd];congr 1;show _=((clAt L i).fs.map (prunedF kept (clAt L i).kind)).map (wd _);rw[List.map_map];cases hk:refB (clAt L i).kind with
 |true=>
  rw[if_pos rfl,List.map_map];refine List.map_congr_left fun f hf=> ?_;have h3:(clAt L i).kind≠3:=fun h=>by rw[h]at hk;cases hk
  have h4:(clAt L i).kind≠4:=fun h=>by rw[h]at hk;cases hk
  exact lay_mvw G hs h3 h4 (G.fok i hi f hf)
 |false=>
  rw[if_neg (by decide),List.map_map];refine List.map_congr_left fun f hf=> ?_;have hf0:=G.fok i hi f hf;have hr:f.refs=false:=by
   have hkk:=G.kind i hi;unfold FdOk at hf0;split at hf0
   · exact hf0.1
   · split at hf0
     · exact hf0.1
     · exfalso;unfold refB keepB at hk;simp at hk;omega
  show wd _ f=wd _ (prunedF kept _ f);have e1:prunedF kept (clAt L i).kind f=f:=by unfold prunedF;rw[hr];rfl
  rw[e1];unfold wd;rw[hr];rfl
theorem lay_cellFs: ∀(q:List Nat),(∀i∈q,i∈o)→(q.map (atC L o)).flatMap (cellF (layW L o free) 1 (kept.map (atC L o)))=q.flatMap (cellC (prunedL L kept) (atC (prunedL L kept) kept)):=by
 intro q
 induction q with
 |nil=>intro _;rfl
 |cons i q ih=>
  intro hq;rw[List.map_cons,List.flatMap_cons,List.flatMap_cons,lay_cellF G hs (hq i (List.mem_cons_self ..)),ih fun j hj=>hq j (List.mem_cons_of_mem _ hj)]
theorem lay_roots {roots:List Fd}(hr: ∀f∈roots,FdOk o 1 f):(layR L o roots).map (mvw (layW L o free) 1 (kept.map (atC L o)))=layR (prunedL L kept) kept roots:=by
 unfold layR;rw[List.map_map];refine List.map_congr_left fun f hf=> ?_;have:=lay_mvw (free:=free) (k':=1) G hs (by decide) (by decide) (hr f hf);show mvw _ _ _ (wd _ f)=_;rw[this];have e1:prunedF kept 1 f=f:=by unfold prunedF;rw[show((1:Int)==5)=false from rfl,Bool.and_false];rfl
 rw[e1]
end
theorem lay_collect {L:List Cl}{o:List Nat}{free:Nat}(G:Gr L o){roots more:List Fd}(hr: ∀f∈roots,FdOk o 1 f)(hm: ∀f∈more,FdOk o 1 f)(lr:roots.length≤10)(hfit:layT L o+free≤200):
 ∃kept s,(∀f,o.length+1≤f→reachC L f 0 (withC (roots++more) [])=some kept)∧kept.Nodup∧(∀i∈kept,i∈o)∧(∀i∈kept,∀f∈strongC L i,f.refs=true→f.n.toNat∈kept)∧(∀f∈roots++more,f.refs=true→f.n.toNat∈kept)∧
  runO (layW L o free) 1 (layR L o roots) (layR L o more)=some (s,layR (prunedL L kept) kept roots,layR (prunedL L kept) kept more)∧s.ord=kept.map (atC L o)∧layT (prunedL L kept) kept≤layT L o∧s.top=layT (prunedL L kept) kept∧s.D=layW (prunedL L kept) kept (layT L o+free-layT (prunedL L kept) kept)∧ ∀i∈o,s.T.getD (atC L o i) 0=atC (prunedL L kept) kept i:=by
 have hW:=layW_length L o free;have hT:1≤layT L o:=by unfold layT;omega
 have hcl:=strong_closed G;obtain⟨w1,w2⟩:=withC_inv (o:=o) (fs:=roots++more) (l:=[]) List.nodup_nil (fun i h=>by cases h) fun f hf hrf=>by
  rcases List.mem_append.1 hf with hf|hf
  · exact(FdOk.mem G (hr f hf) hrf).1
  · exact(FdOk.mem G (hm f hf) hrf).1
 obtain⟨kept,e,k1,k2,k3,k4,k5⟩:=reachC_some hcl (o.length+1) (o.length+1) 0 _ (by omega) (Nat.le_refl _) (Nat.zero_le _) w1 w2 fun k hk=>by omega
 have hany: ∀f,o.length+1≤f→reachC L f 0 (withC (roots++more) [])=some kept:=fun f hf=>by
  obtain⟨kept',e',k1',k2',k3',k4',k5'⟩:=reachC_some hcl (o.length+1) f 0 _ (by omega) hf (Nat.zero_le _) w1 w2 fun k hk=>by omega
  have mono: ∀(f i:Nat) (l r:List Nat),reachC L f i l=some r→reachC L (f+1) i l=some r:=by
   intro f
   induction f with
   |zero=>intro i l r h;cases h
   |succ f ih=>
    intro i l r h;unfold reachC at h ⊢;split at h
    · rename_i hc;rw[if_pos hc];exact ih _ _ _ h
    · rename_i hc;rw[if_neg hc];exact h
  obtain⟨d,rfl⟩:=Nat.exists_eq_add_of_le hf;clear k1' k2' k3' k4' k5' hf
  induction d with
  |zero=>exact k1
  |succ d ih=>exact mono _ _ _ _ ih
 have hchk:=lay_check G hr lr hfit;obtain⟨C,hR⟩:=col_of hchk;rw[Int.toNat_natCast]at C;have hVw: ∀f,FdOk o 1 f→Vw (o.map (atC L o)) (wd (atC L o) f):=fun f hf=>Vw.of (lay_word G (by decide) (by decide) hf);obtain⟨s,h1,h2,h3⟩:=run_all C (by omega) (by omega) (R:=layR L o roots) (more:=layR L o more) (fun w hw=>hR w hw) fun w hw=>by
  obtain⟨f,hf,rfl⟩:=List.mem_map.1 hw;exact hVw f (hm f hf)
 have hord:s.ord=kept.map (atC L o):=by
  have e1:layR L o roots++layR L o more=(roots++more).map (wd (atC L o)):=by unfold layR;rw[List.map_append]
  have e2:=lay_with G (k:=1) (by decide) (by decide) (roots++more) [] (fun f hf=>by
   rcases List.mem_append.1 hf with hf|hf
   · exact hr f hf
   · exact hm f hf) (fun i h=>by cases h)
  rw[e1,show([]:List Nat)=([]:List Nat).map (atC L o) from rfl,e2,lay_reach G (by omega) _ _ _ w1 w2,hany _ (by have:=totS_len L o;unfold layT at hW;omega)]at h2;exact(Option.some.inj h2).symm
 have hfit2:=C.fit h3;have htop:s.top=layT (prunedL L kept) kept:=by rw[h3.top,hord,lay_totalW G k4]
 refine⟨kept,s,hany,k3,k4,k5,fun f hf hrf=> ?_,?_,hord,by omega,htop,?_,fun i hi=> ?_⟩
 · rw[k2];exact List.mem_append.2 (.inl ((withC_mem (roots++more) []).2 f hf hrf))
 · rw[h1,hord,lay_roots G k4 hr,lay_roots G k4 hm]
 · rw[h3.D,hord,lay_cellFs G k4 kept k4,hW,htop];unfold layW;rw[List.take_succ_cons];rfl
 · rw[h3.T _ (by have:=lay_pos G hi;have:=szC_pos L i;omega),hord,lay_posF G k4 hi]
set_option linter.unusedVariables false
noncomputable def b25:Code:=(Tryz.f25.body).getD .skip
noncomputable def stk25_0:List KI:=[.code (sub [1,1,1,1,1,0] b25),.code (sub [1,1,1,1,1,1] b25)]
def I25_0 (O:CallF)(Q:VQ)(a0_0:OA)(n0_0 c0_0:Nat)(x0_1:Int)(a0_2:OA)(n0_2 c0_2:Nat)(x1:Int)(a2:OA)(n2 c2 b3 f3 b6 f6:Nat)(q11:Bool)(h:Hp):Prop:=RKL Tryz.prog O Tryz.f25 stk25_0 67 [1,2,3,6,7,8,11] [.int .i64 x1,.slice a2 n2 c2,.pointer (some ⟨b3,f3,none⟩),.pointer (some ⟨b6,f6,none⟩),.int .i64 0,.int .i64 0,.bool q11] h Q
def T25 (O:CallF)(Q:VQ)(a0_0:OA)(n0_0 c0_0:Nat)(x0_1:Int)(a0_2:OA)(n0_2 c0_2:Nat)(x1:Int)(a2:OA)(n2 c2:Nat)(h:Hp):Prop:=
 let g1:=h.add (.cells (v24 a0_0 n0_0 c0_0 x0_1 a0_2 n0_2 c0_2) 24 .fix)
 let g2:=g1.add (.cells (v24 none 0 0 0 none 0 0) 24 .fix)
 ∃a3 n4 c5 x6 a7 n8 c9,readAt g2 h.nx 0 3=some (v24 a3 n4 c5 x6 a7 n8 c9)∧
 ∃a10 n11 c12 x13 h14,EvC Tryz.prog O 37 [.agg (w24 a3 n4 c5 x6 a7 n8 c9)] g2 (.tuple #[.slice a10 n11 c12,.int .i64 x13]) h14∧
 vcond (eqI x13 0)
 (∃q15 h16,EvC Tryz.prog O 82 (v24 a10 n11 c12 x1 a2 n2 c2) h14 (.bool q15) h16∧
 vcond (!q15)
 (vreq (canW h16 g1.nx 0 (v24 none 0 0 0 none 0 0))
 (let g17:=h16.wr g1.nx 0 (v24 none 0 0 0 none 0 0)
 ∃a18 n19 c20 x21 a22 n23 c24,readAt g17 g1.nx 0 3=some (v24 a18 n19 c20 x21 a22 n23 c24)∧
 Q (.tuple #[.agg (w24 a18 n19 c20 x21 a22 n23 c24),.int .i64 0,.int .i64 2]) g17))
 (vcond (!(eqI x13 0))
 (vreq (canW h16 g1.nx 0 (v24 none 0 0 0 none 0 0))
 (let g25:=h16.wr g1.nx 0 (v24 none 0 0 0 none 0 0)
 ∃a26 n27 c28 x29 a30 n31 c32,readAt g25 g1.nx 0 3=some (v24 a26 n27 c28 x29 a30 n31 c32)∧
 Q (.tuple #[.agg (w24 a26 n27 c28 x29 a30 n31 c32),.int .i64 0,.int .i64 x13]) g25))
 (vcond (eqI x1 3)
 (I25_0 O Q a0_0 n0_0 c0_0 x0_1 a0_2 n0_2 c0_2 x1 a2 n2 c2 h.nx 0 g1.nx 0 true h16)
 (I25_0 O Q a0_0 n0_0 c0_0 x0_1 a0_2 n0_2 c0_2 x1 a2 n2 c2 h.nx 0 g1.nx 0 (eqI x1 4) h16))))
 (vcond (!(eqI x13 0))
 (vreq (canW h14 g1.nx 0 (v24 none 0 0 0 none 0 0))
 (let g33:=h14.wr g1.nx 0 (v24 none 0 0 0 none 0 0)
 ∃a34 n35 c36 x37 a38 n39 c40,readAt g33 g1.nx 0 3=some (v24 a34 n35 c36 x37 a38 n39 c40)∧
 Q (.tuple #[.agg (w24 a34 n35 c36 x37 a38 n39 c40),.int .i64 0,.int .i64 x13]) g33))
 (vcond (eqI x1 3)
 (I25_0 O Q a0_0 n0_0 c0_0 x0_1 a0_2 n0_2 c0_2 x1 a2 n2 c2 h.nx 0 g1.nx 0 true h14)
 (I25_0 O Q a0_0 n0_0 c0_0 x0_1 a0_2 n0_2 c0_2 x1 a2 n2 c2 h.nx 0 g1.nx 0 (eqI x1 4) h14)))
noncomputable def b46:Code:=(Tryz.f46.body).getD .skip
def lv46:List (Nat×List Nat):=[]
def T46 (O:CallF)(Q:VQ)(a0:OA)(n0 c0:Nat)(h:Hp):Prop:=
 vnil a0
 (Q (.slice none 0 0) h)
 (let g1:=h.add (.cells [] 3 .fix)
 ∃a2 n3 c4 h5,appendV Tryz.prog g1 22 22 (.slice (some ⟨h.nx,0,none⟩) 0 0) (.slice a0 n0 c0)=some (.slice a2 n3 c4,h5)∧
 Q (.slice a2 n3 c4) h5)
theorem rk46 {O Q} (a0 n0 c0){h:Hp}(hO:O 46 [.slice a0 n0 c0] h=none)(hh:T46 O Q a0 n0 c0 h):Ret Tryz.prog O 46 [.slice a0 n0 c0] h Q:=
 .of (c:=b46) Tryz.func46 (by kernel_rfl) hO (V_ok (tb:=lv46) (cuts:=[]) 500 (Eq.mp (by kernel_rfl) hh))
noncomputable def b80:Code:=(Tryz.f80.body).getD .skip
def lv80:List (Nat×List Nat):=[]
def T80 (O:CallF)(Q:VQ)(a0_0:OA)(n0_0 c0_0:Nat)(x0_1:Int)(a0_2:OA)(n0_2 c0_2:Nat)(x1:Int)(a2:OA)(n2 c2:Nat)(h:Hp):Prop:=
 let g1:=h.add (.cells (v24 a0_0 n0_0 c0_0 x0_1 a0_2 n0_2 c0_2) 24 .fix)
 let g2:=g1.add (.cells (v24 none 0 0 0 none 0 0) 24 .fix)
 ∃x3,readAt g2 h.nx 1 1=some [.int .i64 x3]∧
 ∃a4 n5 c6,readAt g2 h.nx 0 1=some [.slice a4 n5 c6]∧
 vcond (!(ltI (Int.ofNat n5) (wrapF .i64 (x3+x1))))
 (∃a7 n8 c9 x10 a11 n12 c13,readAt g2 h.nx 0 3=some (v24 a7 n8 c9 x10 a11 n12 c13)∧
 ∃a14 n15 c16 x17 a18 n19 c20 h21,EvC Tryz.prog O 87 [.agg (w24 a7 n8 c9 x10 a11 n12 c13)] g2 (.agg (w24 a14 n15 c16 x17 a18 n19 c20)) h21∧
 vreq (canW h21 g1.nx 0 (v24 a14 n15 c16 x17 a18 n19 c20))
 (let g22:=h21.wr g1.nx 0 (v24 a14 n15 c16 x17 a18 n19 c20)
 ∃a23 n24 c25 x26 a27 n28 c29,readAt g22 g1.nx 0 3=some (v24 a23 n24 c25 x26 a27 n28 c29)∧
 Q (.tuple #[.agg (w24 a23 n24 c25 x26 a27 n28 c29),.slice a2 n2 c2,.bool true]) g22))
 (∃a30 n31 c32 x33 a34 n35 c36,readAt g2 h.nx 0 3=some (v24 a30 n31 c32 x33 a34 n35 c36)∧
 ∃a37 n38 c39 x40 a41 n42 c43 a44 n45 c46 a47 h48,EvC Tryz.prog O 62 [.agg (w24 a30 n31 c32 x33 a34 n35 c36),.int .i64 1,.slice a2 n2 c2] g2 (.tuple #[.agg (w24 a37 n38 c39 x40 a41 n42 c43),.slice a44 n45 c46,.pointer a47]) h48∧
 vreq (canW h48 h.nx 0 (v24 a37 n38 c39 x40 a41 n42 c43))
 (let g49:=h48.wr h.nx 0 (v24 a37 n38 c39 x40 a41 n42 c43)
 let g50:=g49.rsv 13
 ∃a51 n52 c53 x54 a55 n56 c57,readAt g50 h.nx 0 3=some (v24 a51 n52 c53 x54 a55 n56 c57)∧
 ∃x58,readAt g50 h.nx 1 1=some [.int .i64 x58]∧
 ∃a59 n60 c61,readAt g50 h.nx 0 1=some [.slice a59 n60 c61]∧
 vreq (canW (g50.grd [h.nx,h.nx]) g1.nx 0 (v24 a51 n52 c53 x54 a55 n56 c57))
 (let g62:=(g50.grd [h.nx,h.nx]).wr g1.nx 0 (v24 a51 n52 c53 x54 a55 n56 c57)
 let g63:=g62.rst g50
 ∃a64 n65 c66 x67 a68 n69 c70,readAt g63 g1.nx 0 3=some (v24 a64 n65 c66 x67 a68 n69 c70)∧
 Q (.tuple #[.agg (w24 a64 n65 c66 x67 a68 n69 c70),.slice a44 n45 c46,(.bool (!(ltI (Int.ofNat n60) (wrapF .i64 (x58+x1)))))]) g63)))
theorem rk80 {O Q} (a0_0 n0_0 c0_0 x0_1 a0_2 n0_2 c0_2 x1 a2 n2 c2){h:Hp}(hO:O 80 [.agg (w24 a0_0 n0_0 c0_0 x0_1 a0_2 n0_2 c0_2),.int .i64 x1,.slice a2 n2 c2] h=none)(hh:T80 O Q a0_0 n0_0 c0_0 x0_1 a0_2 n0_2 c0_2 x1 a2 n2 c2 h):Ret Tryz.prog O 80 [.agg (w24 a0_0 n0_0 c0_0 x0_1 a0_2 n0_2 c0_2),.int .i64 x1,.slice a2 n2 c2] h Q:=
 .of (c:=b80) Tryz.func80 (by kernel_rfl) hO (V_ok (tb:=lv80) (cuts:=[]) 500 (Eq.mp (by kernel_rfl) hh))
noncomputable def b81:Code:=(Tryz.f81.body).getD .skip
def lv81:List (Nat×List Nat):=[]
def T81 (O:CallF)(Q:VQ)(b0 f0:Nat)(x1:Int)(a2:OA)(n2 c2:Nat)(h:Hp):Prop:=
 ∃x1',readAt h b0 (f0+1) 1=some [.int .i64 x1']∧
 ∃a2' n3 c4,readAt h b0 (f0+0) 1=some [.slice a2' n3 c4]∧
 isNat x1' fun n5=>
 isAddr a2' fun b6 f7=>
 vreq (Nat.blt n5 n3)
 (vreq (canW h b6 (f7+(n5*1)) [(.int .i64 (wrapF .i64 ((wrapF .i64 (8*(Int.ofNat n2)))+x1)))])
 (let g8:=h.wr b6 (f7+(n5*1)) [(.int .i64 (wrapF .i64 ((wrapF .i64 (8*(Int.ofNat n2)))+x1)))]
 let g9:=g8.rsv 18
 ∃x10,readAt g9 b0 (f0+1) 1=some [.int .i64 x10]∧
 ∃a11 n12 c13,readAt g9 b0 (f0+0) 1=some [.slice a11 n12 c13]∧
 ∃a14 n15 c16,sliceV Tryz.prog g9 22 (.slice a11 n12 c13) (some (.int .i64 (wrapF .i64 (x1'+1)))) none none=some (.slice a14 n15 c16)∧
 ∃x17 h18,copyV Tryz.prog (g9.grd [b0]) 22 (.slice a14 n15 c16) (.slice a2 n2 c2)=some (.int .i64 x17,h18)∧
 let g19:=h18.rst g9
 vreq (canW (g19.grd []) b0 (f0+1) [(.int .i64 (wrapF .i64 (x10+(wrapF .i64 (1+x17)))))])
 (let g20:=(g19.grd []).wr b0 (f0+1) [(.int .i64 (wrapF .i64 (x10+(wrapF .i64 (1+x17)))))]
 let g21:=g20.rst g19
 Q (.int .i64 (wrapF .i64 (2*x1'))) g21)))
theorem rk81 {O Q} (b0 f0 x1 a2 n2 c2){h:Hp}(hO:O 81 [.pointer (some ⟨b0,f0,none⟩),.int .i64 x1,.slice a2 n2 c2] h=none)(hh:T81 O Q b0 f0 x1 a2 n2 c2 h):Ret Tryz.prog O 81 [.pointer (some ⟨b0,f0,none⟩),.int .i64 x1,.slice a2 n2 c2] h Q:=
 .of (c:=b81) Tryz.func81 (by kernel_rfl) hO (V_ok (tb:=lv81) (cuts:=[]) 500 (Eq.mp (by kernel_rfl) hh))
noncomputable def b87:Code:=(Tryz.f87.body).getD .skip
def lv87:List (Nat×List Nat):=[]
def T87 (O:CallF)(Q:VQ)(a0_0:OA)(n0_0 c0_0:Nat)(x0_1:Int)(a0_2:OA)(n0_2 c0_2:Nat)(h:Hp):Prop:=
 let g1:=h.add (.cells (v24 a0_0 n0_0 c0_0 x0_1 a0_2 n0_2 c0_2) 24 .fix)
 let g2:=g1.add (.cells (v24 none 0 0 0 none 0 0) 24 .fix)
 let g3:=g2.rsv 10
 ∃a4 n5 c6,readAt g3 h.nx 0 1=some [.slice a4 n5 c6]∧
 ∃x7,readAt g3 h.nx 1 1=some [.int .i64 x7]∧
 ∃a8 n9 c10,readAt g3 h.nx 2 1=some [.slice a8 n9 c10]∧
 ∃a11 n12 c13 h14,EvC Tryz.prog O 46 [.slice a4 n5 c6] (g3.grd [h.nx,h.nx]) (.slice a11 n12 c13) h14∧
 let g15:=h14.rst g3
 ∃a16 n17 c18 h19,EvC Tryz.prog O 46 [.slice a8 n9 c10] (g15.grd [h.nx]) (.slice a16 n17 c18) h19∧
 let g20:=h19.rst g15
 vreq (canW (g20.grd []) g1.nx 0 (v24 a11 n12 c13 x7 a16 n17 c18))
 (let g21:=(g20.grd []).wr g1.nx 0 (v24 a11 n12 c13 x7 a16 n17 c18)
 let g22:=g21.rst g20
 ∃a23 n24 c25 x26 a27 n28 c29,readAt g22 g1.nx 0 3=some (v24 a23 n24 c25 x26 a27 n28 c29)∧
 Q (.agg (w24 a23 n24 c25 x26 a27 n28 c29)) g22)
theorem rk87 {O Q} (a0_0 n0_0 c0_0 x0_1 a0_2 n0_2 c0_2){h:Hp}(hO:O 87 [.agg (w24 a0_0 n0_0 c0_0 x0_1 a0_2 n0_2 c0_2)] h=none)(hh:T87 O Q a0_0 n0_0 c0_0 x0_1 a0_2 n0_2 c0_2 h):Ret Tryz.prog O 87 [.agg (w24 a0_0 n0_0 c0_0 x0_1 a0_2 n0_2 c0_2)] h Q:=
 .of (c:=b87) Tryz.func87 (by kernel_rfl) hO (V_ok (tb:=lv87) (cuts:=[]) 500 (Eq.mp (by kernel_rfl) hh))
abbrev iv (xs:List Int):List Value:=xs.map (Value.int .i64)
theorem iv_one (xs:List Int):(iv xs).all one=true:=by rw[List.all_map];exact List.all_eq_true.2 fun _ _=>rfl
theorem isAddr_i {b off:Nat}{K:Nat→Nat→Prop}(h:K b off):isAddr (some ⟨b,off,none⟩) K:=h
section
variable {O:CallF}(hO:Oth O)
include hO
theorem ct46 {g:Hp}(ok:g.Ok){a:Option Addr}{n c:Nat}{xs:List Int}(X:IntsAt g a n xs)(hl:xs.length<1000000):Ret Tryz.prog O 46 [.slice a n c] g fun v h'=> ∃a' n' c',v= .slice a' n' c'∧Know g h' [acc g.nx 3 1 a' n' c' (iv xs)]:=by
 refine rk46 (hO:=hO _ _ _ (by decide)) (hh:= ?_) ..;unfold T46;have hn:=X.1;cases a with
 |none=>
  have:xs=[]:=by
   rcases X.2 with ⟨h,_⟩|⟨_,_,_,_,_,h,_⟩
   · exact h
   · cases h
  subst this;exact⟨_,_,_,rfl,(Know.nil ok).accNil g.nx 3 1⟩
 |some ad=>
  show let g1:Hp:=g.add (.cells [] 3 .fix)
   _
  intro g1;have S:Know g g1 [_]:=((Know.nil ok).add _).acc0 0 rfl g.nx (Nat.le_refl _) 3 1;haveI:=S.ft;obtain⟨a',n',c',h',e,hn',S⟩:=S.app 0 rfl (Nat.le_refl _) S.lo AppT22 ⟨_,_,_,rfl⟩ (IntsAt.src (SlAt.to g1 X)) (by rw[List.length_map];omega) (iv_one xs) (by omega) (by unfold big;omega);exact⟨a',n',c',h',e,_,_,_,rfl,S⟩
def QCopy (g:Hp)(W:List Int)(top:Int)(R:List Int):Value→Hp→Prop:=fun v h'=> ∃oW ar nr cr lo,v= .agg #[.slice (some ⟨oW,0,none⟩) W.length unk,.int .i64 top,.slice ar nr cr]∧g.nx≤lo∧Know g h' [ob oW (.cells (iv W) 3 .grow),acc lo 3 1 ar nr cr (iv R)]
theorem ct87 {g:Hp}(ok:g.Ok){aw:Option Addr}{nw cw:Nat}{W:List Int}{top:Int}{ar:Option Addr}{nr cr:Nat}{R:List Int}(A:HA g aw nw cw W ar nr cr R)(hW:W≠ [])(lW:W.length<1000000)(lR:R.length<1000000):
 Ret Tryz.prog O 87 [.agg #[.slice aw nw cw,.int .i64 top,.slice ar nr cr]] g (QCopy g W top R):=by
 refine rk87 (hO:=hO _ _ _ (by decide)) (hh:= ?_) ..;unfold T87;intro g1 g2 g3;have S:Know g g3 [_,_]:=(((Know.nil ok).add _).add _).rsv 10;have:=S.lo;have n3:g3.nx=g.nx+12:=rfl;have n1:g1.nx=g.nx+1:=rfl;haveI:=S.ftg [g.nx,g.nx];obtain⟨v,h14,e14,a1,m1,c1,rfl,T⟩:=ct46 hO (S.okg (l:=[g.nx,g.nx]) (by intro q hq;have:q=g.nx:=(by simpa using hq);omega)) (A.sw.at_.to (g3.grd [g.nx,g.nx])) lW (c:=cw);refine⟨_,_,_,S.rd 1 rfl rfl rfl,_,S.rd 1 rfl rfl rfl,_,_,_,S.rd 1 rfl rfl rfl,_,_,_,_,e14,?_⟩;intro g15;have S:Know g g15 [_,_,_]:=S.compg T;have m15:g3.nx≤g15.nx:=T.kp.nx;haveI:=S.ftg [g.nx];obtain⟨v,h19,e19,a2,m2,c2,rfl,T⟩:=ct46 hO (S.okg (l:=[g.nx]) (by intro q hq;have:q=g.nx:=(by simpa using hq);omega)) (A.sr.at_.to (g15.grd [g.nx])) lR (c:=cr);refine⟨_,_,_,_,e19,?_⟩;intro g20;have S:Know g g20 [_,_,_,_]:=S.compg T;refine vreq_t (S.cwg 2 rfl (fun _ h=>by cases h) (by decide) rfl rfl) ?_;intro g21 g22;have S:Know g g22 [_,_,_,_]:=S.wrg 2 rfl (fun _ h=>by cases h) (by decide) rfl rfl;obtain⟨o,rfl,rfl,hm,_,S⟩:=S.accOb 1 rfl (by simpa using hW);refine⟨_,_,_,_,_,_,_,S.rd 2 rfl rfl rfl,o,_,_,_,_,?_,?_,S.sel [1,0] (by decide) rfl⟩
 · rw[show W.length=m1 by simpa using hm.symm]
 · show g.nx≤g15.nx;omega
end
theorem iv_putAt: ∀(ds xs:List Int) (k:Nat),iv (putAt ds k xs)=putAt (iv ds) k (iv xs):=by
 intro ds
 induction ds with
 |nil=>intro xs k;cases k<;>cases xs<;>rfl
 |cons d ds ih=>
  intro xs k;cases k with
  |zero=>cases xs with
   |nil=>rfl
   |cons x xs=>show _::_=_::_;rw[←ih]
  |succ k=>show _::_=_::_;rw[←ih]
theorem putAt_two {α:Type}: ∀(ds xs:List α) (k:Nat) (x:α),putAt (putAt ds k [x]) (k+1) xs=putAt ds k (x::xs):=by
 intro ds
 induction ds with
 |nil=>intro xs k x;cases k<;>cases xs<;>rfl
 |cons d ds ih=>
  intro xs k x;cases k with
  |zero=>
   show x::putAt (putAt ds 0 []) 0 xs=x::putAt ds 0 xs;rw[putAt_nil]
  |succ k=>show d::_=d::_;rw[ih]
def layP (W:List Int)(top:Nat)(k:Int)(xs:List Int):List Int:=putAt W top ((8*(xs.length:Int)+k)::xs)
theorem layP_length (W:List Int)(top:Nat)(k:Int)(xs:List Int):(layP W top k xs).length=W.length:=putAt_length ..
def CapOk (m:Md)(cw n:Nat):Prop:=(m= .fix∧cw=n)∨(m= .grow∧cw=unk)
theorem CapOk.ro {m:Md}{cw n:Nat}(c:CapOk m cw n):m≠ .ro:=by rcases c with ⟨rfl,_⟩|⟨rfl,_⟩<;>decide
theorem SI.own {h:Hp}{o cw:Nat}{m:Md}{W:List Int}(hg:h.get o=some (.cells (iv W) 3 m))(ho:o<h.nx)(c:CapOk m cw W.length)(hl:W.length<1000000):SI h (some ⟨o,0,none⟩) W.length cw W:=by
 rcases c with ⟨rfl,rfl⟩|⟨rfl,rfl⟩
 · exact SI.cells hg ho rfl hl
 · exact SI.acc (base:=0) (.inr ⟨o,rfl,rfl,by simp,Nat.zero_le _,ho,hg⟩) (by omega)
theorem slice_lo {h:Hp}{o n c:Nat}{W:List Int}(s:SI h (some ⟨o,0,none⟩) n c W){l:Nat}(hl:l<n): ∃c',sliceV Tryz.prog h 22 (.slice (some ⟨o,0,none⟩) n c) (some (.int .i64 (Int.ofNat l))) none none=some (.slice (some ⟨o,l,none⟩) (n-l) c'):=by
 obtain⟨vis,hs,hv,hvu,_⟩:=s.cap;unfold sliceV;rw[Tryz.underlying22];simp only[sz3,bind,Option.bind_some,hs,bounds_lo (vis:=vis) (show l≤n by omega)];by_cases hc:c=unk
 · subst hc;simp only[Nat.beq_refl,Option.isNone_none,Bool.and_self,cond_true];exact⟨_,by rw[Nat.zero_add,Nat.mul_one]⟩
 · have hcb:Nat.beq c unk=false:=by rw[Bool.eq_false_iff];intro hh;exact hc (Nat.eq_of_beq_eq_true hh)
   simp only[hcb,Bool.false_and,cond_false];rw[blt_t hvu];have hlb:Nat.beq vis l=false:=by rw[Bool.eq_false_iff];intro hh;have:=Nat.eq_of_beq_eq_true hh;omega
   simp only[hlb,cond_true,cond_false];exact⟨_,by rw[Nat.zero_add,Nat.mul_one]⟩
section
variable {O:CallF}(hO:Oth O)
include hO
theorem ct81 {h0 h:Hp}{L:List Rs}(S:Know h0 h L)(i j:Nat){b oW cw top:Nat}{ar:Option Addr}{nr cr:Nat}{W:List Int}{m:Md}
 (hi:L[i]? =some (ob b (.cells [.slice (some ⟨oW,0,none⟩) W.length cw,.int .i64 (Int.ofNat top),.slice ar nr cr] 24 .fix))) (hj:L[j]? =some (ob oW (.cells (iv W) 3 m))) (hij:i≠j) (hc:CapOk m cw W.length)
 {a2:Option Addr} {n2 c2:Nat} {xs:List Int} (X:IntsAt h a2 n2 xs) (hx: ∀o off,a2=some ⟨o,off,none⟩→o≠oW) (hfit:top+1+xs.length≤W.length) (lW:W.length<1000000) {k:Int} (hk:0≤k∧k≤10):
 Ret Tryz.prog O 81 [.pointer (some ⟨b,0,none⟩),.int .i64 k,.slice a2 n2 c2] h fun v h'=>v= .int .i64 (2*(top:Int))∧Know h0 h' ((L.set j (ob oW (.cells (iv (layP W top k xs)) 3 m))).set i (ob b (.cells [.slice (some ⟨oW,0,none⟩) W.length cw,.int .i64 (Int.ofNat (top+1+xs.length)),.slice ar nr cr] 24 .fix))):=by
 refine rk81 (hO:=hO _ _ _ (by decide)) (hh:= ?_) ..;unfold T81;have hn2:=X.1;have lj:=S.len hj;have li:=S.len hi;have e1:wrapF .i64 (wrapF .i64 (8*Int.ofNat n2)+k)=8*(xs.length:Int)+k:=by
  rw[wrap64 (n:=8*Int.ofNat n2) (by rw[hn2];show _≤8*(xs.length:Int);omega) (by rw[hn2];show 8*(xs.length:Int)<_;omega),hn2];exact wrap64 (by show _≤8*(xs.length:Int)+k;omega) (by show 8*(xs.length:Int)+k<_;omega)
 rw[e1];refine⟨_,S.rd i hi rfl rfl,_,_,_,S.rd i hi rfl rfl,isNat_i (isAddr_i (vreq_t (blt_t (by omega)) (vreq_t (S.cw j hj hc.ro (ble_t (by rw[List.length_map];show 0+top*1+1≤_;omega)) rfl) ?_)))⟩;intro g8 g9;have S8:Know h0 g8 _:=S.wr j hj hc.ro (ble_t (by rw[List.length_map];show 0+top*1+1≤_;omega)) rfl;have S9:Know h0 g9 _:=S8.rsv 18;rw[show 0+top*1=top by omega,show [Value.int .i64 (8*(xs.length:Int)+k)]=iv [8*(xs.length:Int)+k] from rfl,←iv_putAt]at S9;generalize hW1:putAt W top [8*(xs.length:Int)+k]=W1 at S9;have lW1:W1.length=W.length:=by rw[←hW1,putAt_length]
 have hj9:(L.set j (ob oW (.cells (iv W1) 3 m)))[j]? =some (ob oW (.cells (iv W1) 3 m)):=by rw[List.getElem?_set_self lj]
 have hi9:(L.set j (ob oW (.cells (iv W1) 3 m)))[i]? =some (ob b (.cells [.slice (some ⟨oW,0,none⟩) W.length cw,.int .i64 (Int.ofNat top),.slice ar nr cr] 24 .fix)):=by rw[List.getElem?_set_ne (Ne.symm hij)];exact hi
 have hget:g9.get oW=some (.cells (iv W1) 3 m):=S9.obj j hj9;have s9:SI g9 (some ⟨oW,0,none⟩) W.length cw W1:=by
  rw[←lW1];exact SI.own hget (S9.orng j hj9).2 (by rw[lW1];exact hc) (by omega)
 have X9:IntsAt g9 a2 n2 xs:=SlAt.keep X (fun o off ha=>wr_get_ne _ _ _ _ (hx o off ha)) (by show h.nx≤g8.nx+18;rw[show g8.nx=h.nx from nx_wr ..];omega) (fun _ _ h=>h);have hne:b≠oW:=S.ne i j hi hj hij;have etop:wrapF .i64 (Int.ofNat top+1)=Int.ofNat (top+1):=wrap_succ (by omega);rw[etop];have fin: ∀(g18:Hp),Know h0 (g18.rst g9) (L.set j (ob oW (.cells (iv (layP W top k xs)) 3 m)))→vreq (canW ((g18.rst g9).grd []) b 1 [.int .i64 (wrapF .i64 (Int.ofNat top+wrapF .i64 (1+Int.ofNat xs.length)))])
  (Know h0 ((((g18.rst g9).grd []).wr b 1 [.int .i64 (wrapF .i64 (Int.ofNat top+wrapF .i64 (1+Int.ofNat xs.length)))]).rst (g18.rst g9)) ((L.set j (ob oW (.cells (iv (layP W top k xs)) 3 m))).set i (ob b (.cells [.slice (some ⟨oW,0,none⟩) W.length cw,.int .i64 (Int.ofNat (top+1+xs.length)),.slice ar nr cr] 24 .fix)))):=by
  intro g18 S18;have hi18:(L.set j (ob oW (.cells (iv (layP W top k xs)) 3 m)))[i]? =some (ob b (.cells [.slice (some ⟨oW,0,none⟩) W.length cw,.int .i64 (Int.ofNat top),.slice ar nr cr] 24 .fix)):=by rw[List.getElem?_set_ne (Ne.symm hij)];exact hi
  have e2:wrapF .i64 (Int.ofNat top+wrapF .i64 (1+Int.ofNat xs.length))=Int.ofNat (top+1+xs.length):=by
   rw[wrap64 (n:=1+Int.ofNat xs.length) (by show _≤1+(xs.length:Int);omega) (by show 1+(xs.length:Int)<_;omega)];rw[wrap64 (by show _≤(top:Int)+(1+(xs.length:Int));omega) (by show(top:Int)+(1+(xs.length:Int))<_;omega)];show(top:Int)+(1+(xs.length:Int))=((top+1+xs.length:Nat):Int);omega
  rw[e2];exact vreq_t (S18.cwg i hi18 (fun _ h=>by cases h) (by decide) rfl rfl) (S18.wrg i hi18 (fun _ h=>by cases h) (by decide) rfl rfl)
 have e3:wrapF .i64 (2*Int.ofNat top)=2*(top:Int):=dbl64 (n:=W.length) (by omega) lW;by_cases hz:xs=[]
 · subst hz;obtain⟨a14,c16,es,sp⟩:=s9.part (l:=top+1) (r:=W.length) (by omega) (by omega) (lo:=some (.int .i64 (Int.ofNat (top+1)))) (hi:=none) fun vis hv=>bounds_lo (by omega);have hn0:n2=0:=hn2;have cz: ∃h18,copyV Tryz.prog (g9.grd [b]) 22 (.slice a14 (W.length-(top+1)) c16) (.slice a2 n2 c2)=some (.int .i64 (Int.ofNat 0),h18)∧h18=g9.grd [b]:=by
    refine⟨_,?_,rfl⟩;unfold copyV;rw[el22];simp only[Option.bind_some,sz3,lenV,hn0];rcases sp.at_.2 with ⟨_,rfl⟩|⟨b',off,_,_,_,rfl,_⟩
    · rfl
    · show(bif Nat.beq (Nat.min 0 _) 0 then _ else _)=_;rw[show Nat.min 0 (W.length-(top+1))=0 from Nat.zero_min _];rfl
   obtain⟨h18,ec,rfl⟩:=cz;refine⟨_,S9.rd i hi9 rfl rfl,_,_,_,S9.rd i hi9 rfl rfl,_,_,_,es,_,_,ec,?_⟩;have:=fin (g9.grd [b]) (by
    rw[rst_grd];have:layP W top k []=W1:=by rw[←hW1];rfl
    rw[this];exact S9)
   intro g19;obtain⟨q1,q2⟩:=(vreq_eq _ _).mp this;exact vreq_t q1 ⟨by rw[e3],q2⟩
 · have hpos:0<xs.length:=List.length_pos_iff.2 hz;obtain⟨c',es⟩:=slice_lo s9 (l:=top+1) (by omega);have gf:(g9.grd [b]).guarded oW=false:=S9.gdfg (S9.orng j hj9).1 fun q hq=>by rw[List.mem_singleton.1 hq];exact hne
   obtain⟨h18,ec,hg18,ho18,hn18,hgd18,hf18⟩:=copy_ints (h:=g9.grd [b]) (o:=oW) (off:=top+1) (n:=W.length-(top+1)) (m:=n2) (c2:=c2) (c1:=c') hget hc.ro gf (by omega) X9;have hmin:Nat.min n2 (W.length-(top+1))=xs.length:=by rw[hn2];exact Nat.min_eq_left (by omega)
   rw[hmin]at ec hg18;rw[List.take_length]at hg18;refine⟨_,S9.rd i hi9 rfl rfl,_,_,_,S9.rd i hi9 rfl rfl,_,_,_,es,_,_,ec,?_⟩;have eL:putAt W1 (top+1) xs=layP W top k xs:=by rw[←hW1,putAt_two];rfl
   rw[eL]at hg18;have S18:Know h0 (h18.rst g9) ((L.set j (ob oW (.cells (iv W1) 3 m))).set j (ob oW (.cells (iv (layP W top k xs)) 3 m))):=
    S9.upd j hj9 (r':=ob oW (.cells (iv (layP W top k xs)) 3 m)) ⟨fun o _ ho=>ho18 o ho,by show g9.nx≤h18.nx;rw[hn18];exact Nat.le_refl _,rfl,fun f=>hf18 f⟩ (ob.loc _ _) hg18 fun _ h=> .inl h
   rw[List.set_set]at S18;have:=fin h18 S18;intro g19;obtain⟨q1,q2⟩:=(vreq_eq _ _).mp this;exact vreq_t q1 ⟨by rw[e3],q2⟩
end
def slr (a:Option Addr)(n c:Nat)(xs:List Int):Rs:=⟨fun o=> ∃off,a=some ⟨o,off,none⟩,fun h=>SI h a n c xs⟩
theorem slr.loc (a:Option Addr)(n c:Nat)(xs:List Int):(slr a n c xs).Loc:=fun _ _ hn h s=>s.upd (fun o off ha=>h o ⟨off,ha⟩) hn
theorem SI.accE {h:Hp}{base:Nat}{a:Option Addr}{n c:Nat}{W:List Int}(s:AccE h base 3 1 a n c (iv W))(hl:W.length<1000000):SI h a n c W:=by
 rcases s with s|⟨h1,h2,h3,o,h4,h5,h6,e2,m,h7⟩
 · exact SI.acc s (by omega)
 · have hx:W=[]:=by
    cases W with
    |nil=>rfl
    |cons x xs=>cases h1
   subst hx h2 h3 h4;exact SI.fix ⟨rfl,.inr ⟨o,0,_,_,_,rfl,h6,h7,by simp,fun i hi=>by simp at hi⟩⟩ (Nat.le_refl _) (by decide) (fun h=>by cases h)
theorem AccE.off {h:Hp}{base:Nat}{e:TypeId}{esz:Nat}{a:Option Addr}{n c:Nat}{xs:List Value}(s:AccE h base e esz a n c xs){o off:Nat}(ha:a=some ⟨o,off,none⟩):off=0:=by
 rcases s with (⟨h1,_⟩|⟨q,h1,_⟩)|⟨_,_,_,q,h1,_⟩
 · rw[h1]at ha;cases ha
 · rw[h1]at ha;injection ha with ha;injection ha with _ ha;exact ha.symm
 · rw[h1]at ha;injection ha with ha;injection ha with _ ha;exact ha.symm
theorem Know.accSlr {h0 g:Hp}{L:List Rs}(S:Know h0 g L)(i:Nat){lo:Nat}{a:Option Addr}{n c:Nat}{xs:List Int}(hi:L[i]? =some (acc lo 3 1 a n c (iv xs)))(hl:xs.length<1000000):Know h0 g (L.set i (slr a n c xs)):=by
 have A:AccE g lo 3 1 a n c (iv xs):=S.get i hi;exact S.upd i hi (Ch.refl _ g) (slr.loc _ _ _ _) (SI.accE A hl) fun b ⟨off,hb⟩=> .inl (by have:=AccE.off A hb;subst this;exact hb)
theorem RunQ.know {g:Hp}{W:List Int}{fr:Nat}{s:Mv}{rs ks:List Int}{v:Value}{h:Hp}(okg:g.Ok)(q:RunQ g W fr s rs ks v h): ∃oW lo ar nr cr ak nk ck ptr,v= .tuple #[.agg #[.slice (some ⟨oW,0,none⟩) W.length W.length,.int .i64 (Int.ofNat s.top),.slice ar nr cr],.slice ak nk ck,.pointer ptr]∧s.D.length=W.length∧g.nx≤lo∧Know g h [ob oW (.cells (iv s.D) 3 .fix),acc lo 3 1 ar nr cr (iv rs),acc lo 3 1 ak nk ck (iv ks)]:=by
 obtain⟨p,ao,no,co,ar',nr',cr',ak,nk,ck,rfl,P,pn,pf,m,Ar,Ak,d1,d2,d3,k2,ok2⟩:=q;have:=P.tM;have:=P.wM;have hB:=P.B;have:=P.oW;have:=P.M;have:=m.nx;refine⟨p.oW,p.B,_,_,_,_,_,_,_,by rw[pn],by rw[m.lD,pn],by omega,⟨ok2,k2,fun r hr=> ?_,?_,okg⟩⟩
 · rcases List.mem_cons.1 hr with rfl|hr
   · exact⟨ob.loc _ _,m.D,fun b hb=>by cases hb;omega⟩
   · rcases List.mem_cons.1 hr with rfl|hr
     · exact⟨acc.loc _ _ _ _ _ _ _,.inl Ar,fun b hb=>by have:=Ar.lt hb;omega⟩
     · obtain rfl:=List.mem_singleton.1 hr;exact⟨acc.loc _ _ _ _ _ _ _,.inl Ak,fun b hb=>by have:=Ak.lt hb;omega⟩
 · refine List.pairwise_cons.2 ⟨fun r hr b hb hrb=> ?_,List.pairwise_cons.2 ⟨fun r hr b hb hrb=> ?_,List.pairwise_cons.2 ⟨fun r hr=>(by cases hr),.nil⟩⟩⟩
   · cases hb;rcases List.mem_cons.1 hr with rfl|hr
     · have:=Ar.lt hrb;omega
     · obtain rfl:=List.mem_singleton.1 hr;have:=Ak.lt hrb;omega
   · obtain rfl:=List.mem_singleton.1 hr;exact d3 b 0 0 hb hrb
section
variable {O:CallF}(hO:Oth O)
include hO
structure Room where
 W:List Int
 top:Nat
 R:List Int
 l:List Int
 is:Bool
def roomC (W:List Int)(top:Nat)(R l:List Int)(need:Nat)(s:Mv):Room:=if top+need≤W.length then ⟨W,top,R,l,true⟩else ⟨s.D,s.top,R.map (mvw W 1 s.ord),l.map (mvw W 1 s.ord),decide (s.top+need≤W.length)⟩
def QRoom (g:Hp)(r:Room):Value→Hp→Prop:=fun v h'=> ∃oW cw m ar nr cr al nl cl,v= .tuple #[.agg #[.slice (some ⟨oW,0,none⟩) r.W.length cw,.int .i64 (Int.ofNat r.top),.slice ar nr cr],.slice al nl cl,.bool r.is]∧CapOk m cw r.W.length∧Know g h' [ob oW (.cells (iv r.W) 3 m),slr ar nr cr r.R]∧IntsAt h' al nl r.l∧ ∀o off,al=some ⟨o,off,none⟩→o≠oW
theorem ct80 {g:Hp}(ok:g.Ok){aw:Option Addr}{nw cw:Nat}{W:List Int}{tp:Nat}{ar:Option Addr}{nr cr:Nat}{R:List Int}(A:HA g aw nw cw W ar nr cr R)(hW:W≠ [])(lW:W.length≤1000)(lR:R.length≤1000)(ht:tp≤W.length){a2:Option Addr}{n2 c2:Nat}{l:List Int}(X:IntsAt g a2 n2 l)(hX: ∀x∈l,In64 x)(lX:l.length≤1000){need:Nat}(hneed:need≤1000000){s:Mv}(hrun: ¬tp+need≤W.length→runO W 1 R l=some (s,R.map (mvw W 1 s.ord),l.map (mvw W 1 s.ord))∧s.top≤1000):
 Ret Tryz.prog O 80 [.agg #[.slice aw nw cw,.int .i64 (Int.ofNat tp),.slice ar nr cr],.int .i64 (Int.ofNat need),.slice a2 n2 c2] g (QRoom g (roomC W tp R l need s)):=by
 refine rk80 (hO:=hO _ _ _ (by decide)) (hh:= ?_) ..;unfold T80;intro g1 g2;have S:Know g g1 [_]:=(Know.nil ok).add _;have S:Know g g2 [_,_]:=S.add _;have n1:g1.nx=g.nx+1:=rfl;have n2':g2.nx=g.nx+2:=rfl;have hnw:=A.sw.at_.1;have esum: ∀x:Nat,x≤1000→wrapF .i64 (Int.ofNat x+Int.ofNat need)=Int.ofNat (x+need):=fun x hx=>wrap64 (n:=((x+need:Nat):Int)) (by omega) (by omega);haveI:=S.ft;refine⟨_,S.rd 1 rfl rfl rfl,_,_,_,S.rd 1 rfl rfl rfl,?_⟩;rw[esum tp (by omega),ltI_nat];unfold roomC;by_cases hfit:tp+need≤W.length
 · rw[if_pos hfit];refine vcond_t (by rw[blt_f (by omega)];rfl) ?_;obtain⟨v,h21,e21,oW,ar',nr',cr',lo,rfl,hlo,T⟩:=ct87 hO S.ok (A.to g2) hW (by omega) (by omega) (top:=Int.ofNat tp);refine⟨_,_,_,_,_,_,_,S.rd 1 rfl rfl rfl,_,_,_,_,_,_,_,_,e21,?_⟩;have S:Know g h21 [_,_,_,_]:=S.comp T;refine vreq_t (S.cw 2 rfl (by decide) rfl rfl) ?_;intro g22;have S:Know g g22 [_,_,_,_]:=S.wr 2 rfl (by decide) rfl rfl;have S:Know g g22 [_,_,_,_]:=Know.accSlr S 1 rfl (by omega);haveI:=S.ft;refine⟨_,_,_,_,_,_,_,S.rd 2 rfl rfl rfl,_,_,.grow,_,_,_,_,_,_,rfl,.inr ⟨rfl,rfl⟩,S.sel [0,1] (by decide) rfl,X.to g22,fun o off ha=> ?_⟩;have h1:o<g.nx:=by
    rcases X.2 with ⟨_,e⟩|⟨b,off',_,_,_,e,h2,_⟩
    · rw[e]at ha;cases ha
    · rw[e]at ha;injection ha with ha;injection ha with ha;omega
   have:=(S.orng 0 rfl).1;omega
 · rw[if_neg hfit];obtain⟨hrun,hst⟩:=hrun hfit;refine vcond_f (by rw[blt_t (by omega)];rfl) ?_;obtain⟨v,h48,e48,q⟩:=ct62 hO S.ok (A.sw.to g2) A.w (by omega) (A.sr.at_.to g2) A.r (by omega) (top:=Int.ofNat tp) (cr:=cr) (X.to g2) hX (by omega) (cm:=c2) (fr:=1) (by have:=List.length_pos_iff.2 hW;omega) hrun;obtain⟨oW,lo,ar',nr',cr',ak,nk,ck,ptr,rfl,lD,hlo,T⟩:=q.know S.ok;refine⟨_,_,_,_,_,_,_,S.rd 1 rfl rfl rfl,_,_,_,_,_,_,_,_,_,_,_,_,e48,?_⟩;have S:Know g h48 [_,_,_,_,_]:=S.comp T;refine vreq_t (S.cw 4 rfl (by decide) rfl rfl) ?_;intro g49 g50;have S:Know g g49 [_,_,_,_,_]:=S.wr 4 rfl (by decide) rfl rfl;have S:Know g g50 [_,_,_,_,_]:=S.rsv 13;have hgr: ∀q∈ [g.nx,g.nx],q≠g1.nx:=fun q hq=>by have:q=g.nx:=(by simpa using hq);omega
   refine⟨_,_,_,_,_,_,_,S.rd 4 rfl rfl rfl,_,S.rd 4 rfl rfl rfl,_,_,_,S.rd 4 rfl rfl rfl,vreq_t (S.cwg 3 rfl hgr (by decide) rfl rfl) ?_⟩;intro g62 g63;have S:Know g g63 [_,_,_,_,_]:=S.wrg 3 rfl hgr (by decide) rfl rfl;have S:Know g g63 [_,_,_,_,_]:=Know.accSlr S 1 rfl (by rw[List.length_map];omega);have hak:AccE g63 lo 3 1 ak nk ck (iv (l.map (mvw W 1 s.ord))):=S.get 2 rfl;refine⟨_,_,_,_,_,_,_,S.rd 3 rfl rfl rfl,oW,s.D.length,.fix,ar',nr',cr',ak,nk,ck,?_,.inl ⟨rfl,rfl⟩,S.sel [0,1] (by decide) rfl,AccE.ints hak,fun o off ha=> ?_⟩
   · show Value.tuple #[.agg #[.slice (some ⟨oW,0,none⟩) W.length W.length,_,_],_,_]=_;rw[esum s.top hst,ltI_nat];have e1:(!(Nat.blt W.length (s.top+need)))=decide (s.top+need≤W.length):=by
      by_cases h:s.top+need≤W.length
      · rw[blt_f (by omega),decide_eq_true h];rfl
      · rw[blt_t (by omega),decide_eq_false h];rfl
     rw[e1];show _=Value.tuple #[.agg #[.slice (some ⟨oW,0,none⟩) s.D.length s.D.length,_,_],_,_];rw[lD]
   · have:=AccE.off hak ha;subst this;intro hh;exact S.sep 2 0 rfl rfl (by decide) o ha hh
end
theorem Know.accLow {h0 g:Hp}{L:List Rs}(S:Know h0 g L)(i:Nat){lo:Nat}{e:TypeId}{esz:Nat}{a:Option Addr}{n c:Nat}{xs:List Value}(hi:L[i]? =some (acc lo e esz a n c xs)):Know h0 g (L.set i (acc h0.nx e esz a n c xs)):=by
 have A:AccE g lo e esz a n c xs:=S.get i hi;refine S.upd i hi (Ch.refl _ g) (acc.loc _ _ _ _ _ _ _) ?_ fun b hb=> .inl hb;rcases A with (A|⟨o,h1,h2,h3,h4,h5,h6⟩)|⟨h1,h2,h3,o,h4,h5,h6,h7⟩
 · exact .inl (.inl A)
 · exact .inl (.inr ⟨o,h1,h2,h3,(S.arng i hi h1).1,h5,h6⟩)
 · exact .inr ⟨h1,h2,h3,o,h4,(S.arng i hi h4).1,h6,h7⟩
theorem Know.nilS {h0 g:Hp}{L:List Rs}(S:Know h0 g L):Know h0 g (slr none 0 0 []::L):=
 S.push (Kp.refl _ g) (slr.loc _ _ _ _) (SI.fix (SlAt.nil ..) (Nat.le_refl _) (by decide) (fun _=>rfl)) fun b ⟨_,hb⟩=>by cases hb
theorem Know.obSlr {h0 g:Hp}{L:List Rs}(S:Know h0 g L)(i:Nat){o cw:Nat}{m:Md}{W:List Int}(hi:L[i]? =some (ob o (.cells (iv W) 3 m)))(c:CapOk m cw W.length)(hl:W.length<1000000):Know h0 g (L.set i (slr (some ⟨o,0,none⟩) W.length cw W)):=
 S.upd i hi (Ch.refl _ g) (slr.loc _ _ _ _) (SI.own (S.obj i hi) (S.orng i hi).2 c hl) fun b ⟨off,hb⟩=> .inl (by injection hb with hb;injection hb with hb;exact hb.symm)
def HK (g:Hp)(o:Out)(u:Value)(h:Hp):Prop:= ∃aw nw cw ar nr cr,u= .agg #[.slice aw nw cw,.int .i64 (Int.ofNat o.top),.slice ar nr cr]∧Know g h [slr aw nw cw o.W,slr ar nr cr o.R]
theorem HK.zero {h0 g:Hp}{L:List Rs}(S:Know h0 g L)(e:Int):HK h0 ⟨[],0,[],e⟩ (.agg #[.slice none 0 0,.int .i64 0,.slice none 0 0]) g:=
 ⟨_,_,_,_,_,_,rfl,(Know.nilS (Know.nilS S)).sel [0,1] (by decide) rfl⟩
def QA (g:Hp)(o:Out)(r:Int):Value→Hp→Prop:=fun v h=> ∃u,v= .tuple #[u,.int .i64 r,.int .i64 o.e]∧HK g o u h
theorem room_fit {W:List Int}{top:Nat}{R l:List Int}{need:Nat}{s:Mv}(hs: ¬top+need≤W.length→s.D.length=W.length)(his:(roomC W top R l need s).is=true):(roomC W top R l need s).top+need≤(roomC W top R l need s).W.length∧(roomC W top R l need s).W.length=W.length∧(roomC W top R l need s).l.length=l.length:=by
 by_cases h:top+need≤W.length
 · have e:roomC W top R l need s=⟨W,top,R,l,true⟩:=by unfold roomC;rw[if_pos h]
   rw[e];exact⟨h,rfl,rfl⟩
 · have e:roomC W top R l need s=⟨s.D,s.top,R.map (mvw W 1 s.ord),l.map (mvw W 1 s.ord),decide (s.top+need≤W.length)⟩:=by unfold roomC;rw[if_neg h]
   rw[e]at his ⊢;have h1:s.top+need≤W.length:=of_decide_eq_true his;exact⟨by show s.top+need≤s.D.length;rw[hs h];exact h1,hs h,by show(l.map _).length=_;rw[List.length_map]⟩
structure FieldAt (W:List Int)(l:List Nat)(x n:Int)(m i:Nat):Prop where
 ex:x=Int.ofNat m
 en:n=Int.ofNat i
 mem:m∈l
 lt:m<W.length
 sz:hdS (W.getD m 0)=Int.ofNat (hdS (W.getD m 0)).toNat
 il:i<(hdS (W.getD m 0)).toNat
 fit:m+1+i<W.length
 wr:wrapF .i64 (wrapF .i64 (x+1)+n)=Int.ofNat (m+1+i)
theorem putAt_one (W:List Int)(i:Nat)(w:Int)(hi:i<W.length):putAt (iv W) (0+i*1) [.int .i64 w]=iv (W.set i w):=by
 rw[show 0+i*1=i by omega];exact putAt_map (Value.int .i64) hi
theorem alloc_run {W:List Int}{top:Int}{R:List Int}(k:Int)(xs:List Int): ∃s f,∀l,checkP W top R=some l→fieldsR l k xs=true→(runO W 1 R (if refB k then xs else [])=some (s,R.map (mvw W 1 s.ord),(if refB k then xs else []).map (mvw W 1 s.ord))∧s.top≤1000∧s.D.length=W.length)∧reachO W 1 f 0 (withP 1 (R++(if refB k then xs else [])) [])=some s.ord∧colD W 1 l s.ord=s.D∧1+totalW W s.ord=s.top∧(∀p∈s.ord,CellAt W p)∧1+totalW W s.ord≤W.length:=by
 cases hc:checkP W top R with
 |none=>exact⟨startM W 1,0,fun l h=>by cases h⟩
 |some l=>
  cases hgf:fieldsR l k xs with
  |false=>
   refine⟨startM W 1,0,fun l' h h2=> ?_⟩;obtain rfl:=Option.some.inj h;rw[hgf]at h2;cases h2
  |true=>
   obtain⟨f1,f2,_⟩:=checkP_cells hc;obtain⟨C,hR⟩:=col_of hc;have hM: ∀w∈(if refB k then xs else []),Vw l w:=by
    intro w hw;cases hk:refB k with
    |false=>rw[hk]at hw;cases hw
    |true=>
     rw[hk,if_pos rfl]at hw;unfold fieldsR at hgf;split at hgf
     · cases hgf
     · have:=List.all_eq_true.1 hgf w hw;unfold fieldR at this;rw[if_neg (fun h=>by rw[h]at hk;cases hk),if_neg (fun h=>by rw[h]at hk;cases hk)]at this;exact Vw.of this
   obtain⟨s,h1,h2,h3⟩:=run_all C f1 (by omega) hR hM;refine⟨s,W.length+2,fun l' h _=> ?_⟩;obtain rfl:=Option.some.inj h;obtain⟨a,b,c,d⟩:=laid_run hc h3;exact⟨⟨h1,by omega,by rw[←a,colD_length]⟩,h2,a,b,c,d⟩
abbrev Yes4:Value→Hp→Prop:=fun v _=>v= .bool true
theorem shaped_parts {k n:Int}{t:ByteArray}{ps:List Vl}(h:shapedF (.mk k n t ps)=true):(∀p∈ps,shapedF p=true)∧formF k n t ps=true:=by
 rw[shapedF_mk,Bool.and_eq_true]at h;exact⟨shapedL_all h.1,h.2⟩
theorem sEq_size {t:ByteArray}(h:sEq t (ByteArray.mk #[])=true):t.size=0:=by
 unfold sEq at h;rw[ByteArray.toList_eq,ByteArray.toList_eq]at h;have h:t.data.toList=[]:=by simpa using h
 show t.data.size=0;rw[←Array.length_toList,h];rfl
theorem ofNat_zero {n:Nat}(h:eqI (Int.ofNat n) 0=true):n=0:=Int.ofNat.inj (eqI_iff.1 h)
theorem form_cases {k n:Int}{t:ByteArray}{ps:List Vl}(h:formF k n t ps=true):
 (k=1∧ps=[]∧t.size=0∧ -1000000000≤n∧n≤1000000000)∨(k=2∧ps=[]∧t.size=0∧0≤n∧n≤1)∨(k=3∧ps=[]∧n=0∧lettersF t=true)∨(k=4∧t.size=0∧n=0∧2≤ps.length∧ps.length≤6)∨(k=5∧t.size=0∧n=0∧incF ps=true):=by
 unfold formF at h;by_cases k1:k=1
 · left;simp only[eqI_t k1,cond_true,Bool.and_eq_true,Bool.not_eq_true']at h;have a1:=not_lt_of_f h.1.1;have a2:=not_lt_of_f h.1.2;exact⟨k1,List.length_eq_zero_iff.1 (ofNat_zero h.2.2),sEq_size h.2.1,by omega,by omega⟩
 · right;by_cases k2:k=2
   · left;simp only[eqI_f k1,eqI_t k2,cond_true,cond_false,Bool.and_eq_true,Bool.not_eq_true']at h;have a1:=not_lt_of_f h.1.1;have a2:=not_lt_of_f h.1.2;exact⟨k2,List.length_eq_zero_iff.1 (ofNat_zero h.2.2),sEq_size h.2.1,by omega,by omega⟩
   · right;by_cases k3:k=3
     · left;simp only[eqI_f k1,eqI_f k2,eqI_t k3,cond_true,cond_false,Bool.and_eq_true]at h;exact⟨k3,List.length_eq_zero_iff.1 (ofNat_zero h.2.2),eqI_iff.1 h.1,h.2.1⟩
     · right;by_cases k4:k=4
       · left;simp only[eqI_f k1,eqI_f k2,eqI_f k3,eqI_t k4,cond_true,cond_false,Bool.and_eq_true,Bool.not_eq_true']at h;have a1:=not_lt_of_f h.2.2.1;have a2:=not_lt_of_f h.2.2.2;simp only[Int.ofNat_eq_natCast]at a1 a2;exact⟨k4,sEq_size h.2.1,eqI_iff.1 h.1,by omega,by omega⟩
       · right;by_cases k5:k=5
         · simp only[eqI_f k1,eqI_f k2,eqI_f k3,eqI_f k4,eqI_t k5,cond_true,cond_false,Bool.and_eq_true]at h;exact⟨k5,sEq_size h.2.2,eqI_iff.1 h.2.1,h.1⟩
         · simp only[eqI_f k1,eqI_f k2,eqI_f k3,eqI_f k4,eqI_f k5,cond_false]at h;cases h
section
variable {O:CallF}(hO:Oth O)
include hO
theorem ct95 {h:Hp}: ∀(v:Vl) {vs:List Value} (_:VA h v vs),Nice v→shapedF v=true→ ∀ {g:Hp},Ft h g→g.Ok→Ret Tryz.prog O 95 [.agg vs.toArray] g fun r g'=>r= .tuple #[.int .i64 (Int.ofNat (needF v)),.bool (!deepF v)]∧Kp g.nx g g':=by
 refine Vl.ind fun k n t ps ih=> ?_;intro vs V N sh g F ok;obtain⟨fl,ft,fp⟩:=N.parts;obtain⟨sp,fm⟩:=shaped_parts sh;have nl:=N.needL;obtain⟨a,m,c,rfl,P⟩:=PA.of V;have p1:=P.1;subst p1;refine rk95 (hO:=hO _ _ _ (by decide)) (hh:= ?_) ..;unfold T95;intro g1;have S:Know g g1 [ob g.nx (.cells [.int .i64 k,.int .i64 n,.string t,.slice a ps.length c] 46 .fix)]:=(Know.nil ok).add _;rw[needF_mk,deepF_mk];refine⟨_,S.rd 0 rfl rfl rfl,?_⟩;by_cases k1:k=1
 · obtain rfl:ps=[]:=by
    rcases form_cases fm with h|h|h|h|h
    · exact h.2.1
    all_goals omega
   exact vcond_t (eqI_t k1) ⟨by rw[if_pos k1];rfl,S.kp⟩
 refine vcond_f (eqI_f k1) ?_;intro g3;have S:Know g g3 [ob g.nx (.cells [.int .i64 k,.int .i64 n,.string t,.slice a ps.length c] 46 .fix)]:=S.rsv 14;have go: ∀(j i:Nat),i+j=ps.length→ ∀(x N0:Nat) (q:Bool) (g2:Hp),x+needL (ps.drop i)=N0→N0<90000000→Know g g2 []→
  I95_0 O (fun r g'=>r= .tuple #[.int .i64 (Int.ofNat N0),.bool (q&& !deepL (ps.drop i))]∧Kp g.nx g g') k n t a ps.length c (Int.ofNat x) q a ps.length c (Int.ofNat ps.length) (Int.ofNat i) g2:=by
  intro j
  induction j with
  |zero=>
   intro i hi x N0 q g2 hx hN S;refine I95_0.of (hh:= ?_) ..;unfold T95_0;rw[List.drop_of_length_le (by omega),needL]at hx;refine vcond_f (by rw[ltI_nat];exact blt_f (by omega)) ⟨?_,S.kp⟩;rw[List.drop_of_length_le (by omega),deepL,←hx];simp
  |succ j ihj=>
   intro i hi x N0 q g2 hx hN S;have i1:i<ps.length:=by omega
   refine I95_0.of (hh:= ?_) ..;unfold T95_0;obtain⟨b,off,ea,ws,V',rv⟩:=P.2 i i1;have rv:=rv (F.tr S.ft).get;have hb:=(fp _ (List.getElem_mem i1)).need;have ih6:=fun g6 f6 ok6=>ih i i1 V' (fp _ (List.getElem_mem i1)) (sp _ (List.getElem_mem i1)) (g:=g6) f6 ok6;obtain⟨v1,v2,v3,v4,v5,v6,rfl⟩:=V'.form;rw[needL_drop ps i i1]at hx;rw[ea];refine vcond_t (by rw[ltI_nat];exact blt_t i1) (isNat_i (show isAddr (some ⟨b,off,none⟩) _ from vreq_t (blt_t i1) ⟨_,_,_,_,_,_,rv,?_⟩));intro g110;have S:Know g g110 [_]:=S.add _;refine vreq_t (S.cw 0 rfl (by decide) rfl rfl) ?_;intro g111;have S:Know g g111 [ob g2.nx (.cells [.int .i64 v1,.int .i64 v2,.string v3,.slice v4 v5 v6] 46 .fix)]:=S.wr 0 rfl (by decide) rfl rfl;obtain⟨r,g4,e4,rfl,K4⟩:=ih6 g111 (F.tr S.ft) S.ok;refine⟨_,_,_,_,_,_,S.rd 0 rfl rfl rfl,_,_,_,e4,?_⟩;have e:wrapF .i64 (Int.ofNat x+Int.ofNat (needF ps[i]))=Int.ofNat (x+needF ps[i]):=wrap64 (n:=((x+needF ps[i]:Nat):Int)) (by omega) (by omega);rw[e,wrap_succ (by omega),←ea,List.drop_eq_getElem_cons i1,deepL];have S4:=(S.call K4).sub [] (List.nil_sublist _);cases q with
   |true=>
    refine vcond_t rfl ?_;have:=ihj (i+1) (by omega) (x+needF ps[i]) N0 (!deepF ps[i]) g4 (by omega) hN S4;rw[Bool.true_and,Bool.not_or];exact this
   |false=>
    refine vcond_f rfl ?_;have:=ihj (i+1) (by omega) (x+needF ps[i]) N0 false g4 (by omega) hN S4;rw[Bool.false_and]at this ⊢;exact this
 refine⟨_,S.rd 0 rfl rfl rfl,_,_,_,S.rd 0 rfl rfl rfl,_,_,_,S.rd 0 rfl rfl rfl,_,S.rd 0 rfl rfl rfl,?_⟩;rw[if_neg k1];have S0:=S.sub [] (List.nil_sublist _);have eq1: ∀q:Bool,(q&& !deepL ps)=(!(deepL ps|| !q)):=by intro q;cases q<;>cases deepL ps<;>rfl
 by_cases k2:k=2
 · refine vcond_t (eqI_t k2) ⟨_,_,_,S.rd 0 rfl rfl rfl,?_⟩;obtain rfl:ps=[]:=by
    rcases form_cases fm with h|h|h|h|h
    · omega
    · exact h.2.1
    all_goals omega
   rw[if_pos k2];exact go 0 0 rfl 2 2 true g3 rfl (by omega) S0
 · refine vcond_f (eqI_f k2) ⟨_,_,_,S.rd 0 rfl rfl rfl,?_⟩;rw[if_neg k2,wrap64 (n:=1+Int.ofNat t.size) (by simp only[Int.ofNat_eq_natCast];omega) (by simp only[Int.ofNat_eq_natCast];omega),wrap64 (n:=1+Int.ofNat t.size+Int.ofNat ps.length) (by simp only[Int.ofNat_eq_natCast];omega) (by simp only[Int.ofNat_eq_natCast];omega)];have:=go ps.length 0 (by omega) (1+t.size+ps.length) (1+t.size+ps.length+needL ps) (!(ltI 20 (Int.ofNat ps.length))) g3 rfl (by omega) S0;rw[List.drop_zero,eq1,Bool.not_not]at this;exact this
end
def bytesI (t:ByteArray):List Int:=t.data.toList.map fun b=>Int.ofNat b.toNat
mutual
def buildF:Vl→List Int→Nat→List Int×Nat×Int
 | .mk k n t ps,W,top=>if k=1 then (W,top,2*n+1)else
    let r:=buildL ps W top
    let xs:=if k=2 then [n]else if k=3 then bytesI t else r.2.2
    (layP r.1 r.2.1 (if k=2 then 4 else if k=4 then 1 else if k=5 then 2 else 3) xs,r.2.1+1+xs.length,2*(r.2.1:Int))
def buildL:List Vl→List Int→Nat→List Int×Nat×List Int
 | [],W,top=>(W,top,[])
 |v::r,W,top=>let a:=buildF v W top;let b:=buildL r a.1 a.2.1;(b.1,b.2.1,a.2.2::b.2.2)
end
theorem buildF_mk (k n:Int)(t:ByteArray)(ps:List Vl)(W:List Int)(top:Nat):buildF (.mk k n t ps) W top=if k=1 then (W,top,2*n+1)else
 (layP (buildL ps W top).1 (buildL ps W top).2.1 (if k=2 then 4 else if k=4 then 1 else if k=5 then 2 else 3) (if k=2 then [n]else if k=3 then bytesI t else (buildL ps W top).2.2),(buildL ps W top).2.1+1+(if k=2 then [n]else if k=3 then bytesI t else (buildL ps W top).2.2).length,2*((buildL ps W top).2.1:Int)):=by rw[buildF]
theorem bytesI_length (t:ByteArray):(bytesI t).length=t.size:=by unfold bytesI;rw[List.length_map];rfl
mutual
theorem buildF_spec: ∀(v:Vl) (W:List Int) (top:Nat),shapedF v=true→(buildF v W top).1.length=W.length∧(buildF v W top).2.1=top+needF v
 | .mk k n t ps,W,top,h=>by
   obtain⟨sp,fm⟩:=shaped_parts h;obtain⟨a1,a2,a3⟩:=buildL_spec ps W top sp;rw[buildF_mk,needF_mk];by_cases k1:k=1
   · rw[if_pos k1,if_pos k1];exact⟨rfl,rfl⟩
   rw[if_neg k1,if_neg k1];refine⟨by rw[layP_length];exact a1,?_⟩;simp only;rcases form_cases fm with h|h|h|h|h
   · exact absurd h.1 k1
   · obtain⟨rfl,rfl,_⟩:=h;rw[a2,needL];rfl
   · obtain⟨rfl,rfl,_⟩:=h;rw[a2,needL,if_neg (by decide),if_pos rfl,if_neg (by decide),bytesI_length];simp only[List.length_nil];omega
   · obtain⟨rfl,e,_⟩:=h;rw[a2,if_neg (by decide),if_neg (by decide),if_neg (by decide),a3];omega
   · obtain⟨rfl,e,_⟩:=h;rw[a2,if_neg (by decide),if_neg (by decide),if_neg (by decide),a3];omega
theorem buildL_spec: ∀(ps:List Vl) (W:List Int) (top:Nat),(∀p∈ps,shapedF p=true)→(buildL ps W top).1.length=W.length∧(buildL ps W top).2.1=top+needL ps∧(buildL ps W top).2.2.length=ps.length
 | [],W,top,_=>by rw[buildL,needL];exact⟨rfl,rfl,rfl⟩
 |v::r,W,top,h=>by
  obtain⟨a1,a2⟩:=buildF_spec v W top (h v List.mem_cons_self);obtain⟨b1,b2,b3⟩:=buildL_spec r (buildF v W top).1 (buildF v W top).2.1 (fun p hp=>h p (List.mem_cons_of_mem _ hp));rw[buildL,needL];simp only;exact⟨b1.trans a1,by rw[b2,a2];omega,by rw[List.length_cons,List.length_cons,b3]⟩
end
def bl (L:List Rs)(i j b oW cw:Nat)(ar:Option Addr)(nr cr:Nat)(m:Md)(W:List Int)(top:Nat):List Rs:=
 (L.set j (ob oW (.cells (iv W) 3 m))).set i (ob b (.cells [.slice (some ⟨oW,0,none⟩) W.length cw,.int .i64 (Int.ofNat top),.slice ar nr cr] 24 .fix))
section
variable {L:List Rs}{i j b oW cw:Nat}{ar:Option Addr}{nr cr:Nat}{m:Md}{W W':List Int}{top top':Nat}
theorem bl_i (li:i<L.length):(bl L i j b oW cw ar nr cr m W top)[i]? =some (ob b (.cells [.slice (some ⟨oW,0,none⟩) W.length cw,.int .i64 (Int.ofNat top),.slice ar nr cr] 24 .fix)):=by
 unfold bl;rw[List.getElem?_set_self (by rw[List.length_set];exact li)]
theorem bl_j (lj:j<L.length)(hij:i≠j):(bl L i j b oW cw ar nr cr m W top)[j]? =some (ob oW (.cells (iv W) 3 m)):=by
 unfold bl;rw[List.getElem?_set_ne hij,List.getElem?_set_self lj]
theorem bl_set (hij:i≠j)(hW:W'.length=W.length):((bl L i j b oW cw ar nr cr m W top).set j (ob oW (.cells (iv W') 3 m))).set i (ob b (.cells [.slice (some ⟨oW,0,none⟩) W.length cw,.int .i64 (Int.ofNat top'),.slice ar nr cr] 24 .fix))=bl L i j b oW cw ar nr cr m W' top':=by
 unfold bl;rw[hW,List.set_comm _ _ hij,List.set_set,List.set_set,List.set_comm _ _ (Ne.symm hij)]
end
theorem Know.accX {h0 g:Hp}{L:List Rs}(S:Know h0 g L)(i j:Nat){lo:Nat}{e:TypeId}{esz:Nat}{a:Option Addr}{n c:Nat}{xs:List Value}(hi:L[i]? =some (acc lo e esz a n c xs)){oW:Nat}{x:Ob}(hj:L[j]? =some (ob oW x))(hij:i≠j): ∀o off,a=some ⟨o,off,none⟩→o≠oW:=by
 intro o off ha ho;have A:AccE g lo e esz a n c xs:=S.get i hi;have:=AccE.off A ha;subst this;exact S.sep i j hi hj hij o ha ho
section
variable {O:CallF}(hO:Oth O)
include hO
theorem lay_bl {h0 h:Hp}{L:List Rs}{i j b oW cw:Nat}{ar:Option Addr}{nr cr:Nat}{m:Md}{W:List Int}{top:Nat}(S:Know h0 h (bl L i j b oW cw ar nr cr m W top))(li:i<L.length)(lj:j<L.length)(hij:i≠j)(hc:CapOk m cw W.length)
 {a2:Option Addr} {n2 c2:Nat} {xs:List Int} (X:IntsAt h a2 n2 xs) (hx: ∀o off,a2=some ⟨o,off,none⟩→o≠oW) (hfit:top+1+xs.length≤W.length) (lW:W.length<1000000) {k:Int} (hk:0≤k∧k≤10):
 Ret Tryz.prog O 81 [.pointer (some ⟨b,0,none⟩),.int .i64 k,.slice a2 n2 c2] h fun v h'=>v= .int .i64 (2*(top:Int))∧Know h0 h' (bl L i j b oW cw ar nr cr m (layP W top k xs) (top+1+xs.length)):=by
 obtain⟨v,h',e,rfl,S'⟩:=ct81 hO S i j (bl_i li) (bl_j lj hij) hij hc X hx hfit lW hk (c2:=c2);rw[bl_set hij (layP_length ..)]at S';exact⟨_,_,e,rfl,S'⟩
theorem ct96 {hv h0:Hp}(Fv:Ft hv h0){b oW cw:Nat}{ar:Option Addr}{nr cr:Nat}{m:Md}: ∀(v:Vl) {vs:List Value} (_:VA hv v vs),Nice v→shapedF v=true→ ∀ {h:Hp} {L:List Rs} {i j:Nat} {W:List Int} {top:Nat},Know h0 h (bl L i j b oW cw ar nr cr m W top)→i<L.length→j<L.length→i≠j→CapOk m cw W.length→top+needF v≤W.length→W.length<1000000→
 Ret Tryz.prog O 96 [.pointer (some ⟨b,0,none⟩),.agg vs.toArray] h fun r h'=>r= .int .i64 (buildF v W top).2.2∧Know h0 h' (bl L i j b oW cw ar nr cr m (buildF v W top).1 (buildF v W top).2.1):=by
 refine Vl.ind fun k n t ps ih=> ?_;intro vs V N sh h L i j W top S li lj hij hc hfit lW;obtain⟨fl,ft,fp⟩:=N.parts;obtain⟨sp,fm⟩:=shaped_parts sh;obtain⟨a,mm,c,rfl,P⟩:=PA.of V;have p1:=P.1;subst p1;refine rk96 (hO:=hO _ _ _ (by decide)) (hh:= ?_) ..;unfold T96;intro g1;have S1:Know h0 g1 (ob h.nx (.cells [.int .i64 k,.int .i64 n,.string t,.slice a ps.length c] 46 .fix)::bl L i j b oW cw ar nr cr m W top):=S.add _;refine⟨_,_,_,S1.rd 0 rfl rfl rfl,?_⟩;have S2:Know h0 g1 (acc h0.nx 3 1 none 0 0 (iv [])::ob h.nx (.cells [.int .i64 k,.int .i64 n,.string t,.slice a ps.length c] 46 .fix)::bl L i j b oW cw ar nr cr m W top):=S1.accNil h0.nx 3 1;obtain⟨b1,b2,b3⟩:=buildL_spec ps W top sp;have hneed:=needF_mk k n t ps;have hf1:k≠1→top+needL ps≤W.length∧(k≠2→top+needL ps+1+t.size+ps.length≤W.length)∧(k=2→top+2≤W.length):=by
  intro k1;rw[if_neg k1]at hneed;rcases form_cases fm with h|h|h|h|h
  · exact absurd h.1 k1
  · obtain⟨rfl,rfl,_⟩:=h;rw[if_pos rfl]at hneed;rw[needL];exact⟨by omega,fun h=>absurd rfl h,fun _=>by omega⟩
  all_goals
   have k2:k≠2:=by omega
   rw[if_neg k2]at hneed;exact⟨by omega,fun _=>by omega,fun h=>absurd h k2⟩
 have hf0:k=1→ps=[]:=by
  intro k1;rcases form_cases fm with h|h|h|h|h
  · exact h.2.1
  all_goals omega
 have txt:k=3→ ∀(Wf:List Int) (tf:Nat),Wf.length=W.length→tf=top→ ∀ {g4:Hp} {ll:Nat} {a5:Option Addr} {n5 c5:Nat} {L5:List Rs},Know h0 g4 (acc h0.nx 3 1 a5 n5 c5 (iv [])::ob h.nx (.cells [.int .i64 k,.int .i64 n,.string t,.slice a ps.length c] 46 .fix)::bl L i j b oW cw ar nr cr m Wf tf)→n5=0→
  let g136:Hp:=g4.add (.cells (List.map (fun b=>Value.int .u8 (Int.ofNat (UInt8.toNat b))) (Array.toList (ByteArray.data t))) 5 .ro)
  I96_1 O (fun r h'=>r= .int .i64 (2*(tf:Int))∧Know h0 h' (bl L i j b oW cw ar nr cr m (layP Wf tf 3 (bytesI t)) (tf+1+(bytesI t).length))) b 0 k n t a ps.length c a5 n5 c5 (some ⟨g4.nx,0,none⟩) (ByteArray.size t) 18446744073709551616 (Int.ofNat (ByteArray.size t)) 0 g136:=by
  intro k3 Wf tf hWf htf g4 ll a5 n5 c5 L5 S hn5;intro g136;have S:Know h0 g136 (ob g4.nx (.cells (List.map (fun b=>Value.int .u8 (Int.ofNat (UInt8.toNat b))) (Array.toList (ByteArray.data t))) 5 .ro)::acc h0.nx 3 1 a5 n5 c5 (iv [])::ob h.nx (.cells [.int .i64 k,.int .i64 n,.string t,.slice a ps.length c] 46 .fix)::bl L i j b oW cw ar nr cr m Wf tf):=S.add _;have ltz:t.data.toList.length=t.size:=rfl;have go: ∀(d q:Nat),q+d=t.size→ ∀(g5:Hp) (a6:Option Addr) (n6 c6:Nat),n6=q→Know h0 g5 (ob g4.nx (.cells (List.map (fun b=>Value.int .u8 (Int.ofNat (UInt8.toNat b))) (Array.toList (ByteArray.data t))) 5 .ro)::acc h0.nx 3 1 a6 n6 c6 (iv ((bytesI t).take q))::ob h.nx (.cells [.int .i64 k,.int .i64 n,.string t,.slice a ps.length c] 46 .fix)::bl L i j b oW cw ar nr cr m Wf tf)→
   I96_1 O (fun r h'=>r= .int .i64 (2*(tf:Int))∧Know h0 h' (bl L i j b oW cw ar nr cr m (layP Wf tf 3 (bytesI t)) (tf+1+(bytesI t).length))) b 0 k n t a ps.length c a6 n6 c6 (some ⟨g4.nx,0,none⟩) (ByteArray.size t) 18446744073709551616 (Int.ofNat (ByteArray.size t)) (Int.ofNat q) g5:=by
   intro d
   induction d with
   |zero=>
    intro q hq g5 a6 n6 c6 hn6 S;refine I96_1.of (hh:= ?_) ..;unfold T96_1;rw[List.take_of_length_le (by rw[bytesI_length];omega)]at S;have A:AccE g5 h0.nx 3 1 a6 n6 c6 (iv (bytesI t)):=S.get 1 rfl;have X:=(SI.accE A (by rw[bytesI_length];omega)).at_;have hx:=Know.accX S 1 (j+3) rfl (show(bl L i j b oW cw ar nr cr m Wf tf)[j]? =_ from bl_j lj hij) (by omega);obtain⟨r,h',e,rfl,S'⟩:=lay_bl hO (L:=_::_::_::L) (i:=i+3) (j:=j+3) (show Know h0 g5 (bl (_::_::_::L) (i+3) (j+3) b oW cw ar nr cr m Wf tf) from S) (by simp only[List.length_cons];omega) (by simp only[List.length_cons];omega) (by omega) (by rw[hWf];exact hc) X hx (by rw[bytesI_length,hWf];have:=(hf1 (by omega)).2.1 (by omega);omega) (by rw[hWf];exact lW) (k:=3) (by omega) (c2:=c6);refine vcond_f (by rw[ltI_nat];exact blt_f (by omega)) ⟨_,_,e,rfl,?_⟩;exact S'.sub _ ((List.sublist_cons_self ..).trans ((List.sublist_cons_self ..).trans (List.sublist_cons_self ..)))
   |succ d ihd=>
    intro q hq g5 a6 n6 c6 hn6 S;have q1:q<t.size:=by omega
    have q2:q<t.data.toList.length:=q1;refine I96_1.of (hh:= ?_) ..;unfold T96_1;have hrd:readAt g5 g4.nx (0+q*1) 1=some [.int .u8 (Int.ofNat (t.data.toList[q]).toNat)]:=by
     refine S.rd 0 rfl ?_ (ble_t (by rw[List.length_map];omega));rw[show 0+q*1=q by omega,List.drop_eq_getElem_cons (by rw[List.length_map];exact q2)];simp only[List.getElem_map,List.take_succ_cons,List.take_zero]
    refine vcond_t (by rw[ltI_nat];exact blt_t q1) (isNat_i (show isAddr (some ⟨g4.nx,0,none⟩) _ from vreq_t (blt_t q1) ⟨_,hrd,?_⟩));intro g205;have hlt:=(t.data.toList[q]).toNat_lt;have ew:wrapF .i64 (Int.ofNat (t.data.toList[q]).toNat)=Int.ofNat (t.data.toList[q]).toNat:=wrap64 (by simp only[Int.ofNat_eq_natCast];omega) (by simp only[Int.ofNat_eq_natCast];omega);have S:Know h0 g205 (ob g5.nx (.cells [.int .i64 (Int.ofNat (t.data.toList[q]).toNat)] 3 .fix)::ob g4.nx (.cells (List.map (fun b=>Value.int .u8 (Int.ofNat (UInt8.toNat b))) (Array.toList (ByteArray.data t))) 5 .ro)::acc h0.nx 3 1 a6 n6 c6 (iv ((bytesI t).take q))::ob h.nx (.cells [.int .i64 k,.int .i64 n,.string t,.slice a ps.length c] 46 .fix)::bl L i j b oW cw ar nr cr m Wf tf):=by
     have:=S.add (.cells [.int .i64 (wrapF .i64 (Int.ofNat (t.data.toList[q]).toNat))] 3 .fix);rw[ew]at this;show Know h0 (g5.add (.cells [.int .i64 (wrapF .i64 (Int.ofNat (t.data.toList[q]).toNat))] 3 .fix)) _;rw[ew];exact this
    obtain⟨a',n',c',h',e,hn',S⟩:=S.app 2 rfl (Nat.le_refl _) S.lo AppT22 ⟨_,_,_,rfl⟩ (src_get (n:=1) (c:=1) (esz:=1) (off:=0) (S.rd 0 rfl (r:=[.int .i64 (Int.ofNat (t.data.toList[q]).toNat)]) rfl rfl)) rfl rfl (by omega) (by unfold big;omega);refine⟨_,_,_,_,e,?_⟩;rw[wrap_succ (by omega)];refine ihd (q+1) (by omega) h' a' n' c' (by omega) ?_;have e2:iv ((bytesI t).take q)++[.int .i64 (Int.ofNat (t.data.toList[q]).toNat)]=iv ((bytesI t).take (q+1)):=by
     have q3:q<(bytesI t).length:=by rw[bytesI_length];exact q1
     rw[List.take_succ_eq_append_getElem q3];simp only[iv,List.map_append,List.map_cons,List.map_nil,bytesI,List.getElem_map]
    have S:Know h0 h' (_::_::acc h0.nx 3 1 a' n' c' (iv ((bytesI t).take q)++[.int .i64 (Int.ofNat (t.data.toList[q]).toNat)])::_::bl L i j b oW cw ar nr cr m Wf tf):=S;rw[e2]at S;exact S.sub _ (List.sublist_cons_self ..)
  exact go t.size 0 (by omega) g136 a5 n5 c5 hn5 S
 have go: ∀(d q:Nat),q+d=ps.length→ ∀(Wq:List Int) (tq:Nat) (lq:List Int) (g2:Hp) (a5:Option Addr) (n5 c5:Nat),Wq.length=W.length→tq+needL (ps.drop q)=top+needL ps→(k≠1→True)→lq.length=q→n5=q→(buildL ps W top=((buildL (ps.drop q) Wq tq).1,(buildL (ps.drop q) Wq tq).2.1,lq++(buildL (ps.drop q) Wq tq).2.2))→Know h0 g2 (acc h0.nx 3 1 a5 n5 c5 (iv lq)::ob h.nx (.cells [.int .i64 k,.int .i64 n,.string t,.slice a ps.length c] 46 .fix)::bl L i j b oW cw ar nr cr m Wq tq)→
  I96_0 O (fun r h'=>r= .int .i64 (buildF (.mk k n t ps) W top).2.2∧Know h0 h' (bl L i j b oW cw ar nr cr m (buildF (.mk k n t ps) W top).1 (buildF (.mk k n t ps) W top).2.1)) b 0 k n t a ps.length c h.nx 0 a5 n5 c5 a ps.length c (Int.ofNat ps.length) (Int.ofNat q) g2:=by
  intro d
  induction d with
  |zero=>
   intro q hq Wq tq lq g2 a5 n5 c5 hWq htq _ hlq hn5 hb S;refine I96_0.of (hh:= ?_) ..;unfold T96_0;rw[List.drop_of_length_le (by omega)]at hb htq;rw[buildL]at hb;rw[needL]at htq;simp only[List.append_nil]at hb;have hbF:buildF (.mk k n t ps) W top=if k=1 then (W,top,2*n+1)else
    (layP Wq tq (if k=2 then 4 else if k=4 then 1 else if k=5 then 2 else 3) (if k=2 then [n]else if k=3 then bytesI t else lq),tq+1+(if k=2 then [n]else if k=3 then bytesI t else lq).length,2*(tq:Int)):=by rw[buildF_mk,hb]
   rw[hbF];refine vcond_f (by rw[ltI_nat];exact blt_f (by omega)) ⟨_,S.rd 1 rfl rfl rfl,?_⟩;rcases form_cases fm with hf|hf|hf|hf|hf
   · obtain⟨rfl,rfl,_,n1,n2⟩:=hf;refine vcond_t rfl ⟨_,S.rd 1 rfl rfl rfl,?_,?_⟩
     · rw[if_pos rfl,wrap64 (n:=2*n) (by omega) (by omega),wrap64 (by omega) (by omega)]
     · rw[if_pos rfl];have e1:q=0:=by simpa using hq
       have e2:(buildL [] W top)=(W,top,[]):=by rw[buildL]
       rw[e2]at hb;injection hb with hb1 hb2;injection hb2 with hb2 hb3;subst hb1 hb2;exact S.sub _ ((List.sublist_cons_self ..).trans (List.sublist_cons_self ..))
   · obtain⟨rfl,rfl,_,n1,n2⟩:=hf;refine vcond_f rfl (vcond_t rfl ⟨_,S.rd 1 rfl rfl rfl,?_⟩);intro g128;have S:Know h0 g128 (ob g2.nx (.cells (iv [n]) 3 .fix)::_::_::bl L i j b oW cw ar nr cr m Wq tq):=S.add _;have hne:=Know.ne S 0 (j+3) rfl (show(bl L i j b oW cw ar nr cr m Wq tq)[j]? =_ from bl_j lj hij) (by omega);have X:IntsAt g128 (some ⟨g2.nx,0,none⟩) 1 [n]:=(SI.own (S.obj 0 rfl) (S.orng 0 rfl).2 (cw:=1) (.inl ⟨rfl,rfl⟩) (show 1<1000000 by decide)).at_;have hfit:=(hf1 (by decide)).2.2 rfl;obtain⟨r,h',e,rfl,S'⟩:=lay_bl hO (L:=_::_::_::L) (i:=i+3) (j:=j+3) (show Know h0 g128 (bl (_::_::_::L) (i+3) (j+3) b oW cw ar nr cr m Wq tq) from S) (by simp only[List.length_cons];omega) (by simp only[List.length_cons];omega) (by omega) (by rw[hWq];exact hc) X (fun o off ha=>by injection ha with ha;injection ha with ha;rw[←ha];exact hne) (by rw[hWq];simp only[needL,List.length_cons,List.length_nil]at *; omega) (by rw[hWq];exact lW) (k:=4) (by omega) (c2:=1);refine⟨_,_,e,rfl,?_⟩;exact S'.sub _ ((List.sublist_cons_self ..).trans ((List.sublist_cons_self ..).trans (List.sublist_cons_self ..)))
   · obtain⟨rfl,rfl,_,_⟩:=hf;refine vcond_f rfl (vcond_f rfl (vcond_f rfl (vcond_f rfl ⟨_,S.rd 1 rfl rfl rfl,?_⟩)));have e1:q=0:=by simpa using hq
     have e0:lq=[]:=List.length_eq_zero_iff.1 (hlq.trans e1);subst e0;exact txt rfl Wq tq hWq (by rw[needL]at htq;omega) (ll:=0) (L5:=[]) S (by omega)
   · obtain⟨rfl,ts,_,_⟩:=hf;have A:AccE g2 h0.nx 3 1 a5 n5 c5 (iv lq):=S.get 0 rfl;have X:=(SI.accE A (by omega)).at_;have hx:=Know.accX S 0 (j+2) rfl (show(bl L i j b oW cw ar nr cr m Wq tq)[j]? =_ from bl_j lj hij) (by omega);have hfit:=(hf1 (by decide)).2.1 (by decide);obtain⟨r,h',e,rfl,S'⟩:=lay_bl hO (L:=_::_::L) (i:=i+2) (j:=j+2) (show Know h0 g2 (bl (_::_::L) (i+2) (j+2) b oW cw ar nr cr m Wq tq) from S) (by simp only[List.length_cons];omega) (by simp only[List.length_cons];omega) (by omega) (by rw[hWq];exact hc) X hx (by rw[hWq];omega) (by rw[hWq];exact lW) (k:=1) (by omega) (c2:=c5);refine vcond_f rfl (vcond_f rfl (vcond_t rfl ⟨_,_,e,rfl,?_⟩));exact S'.sub _ ((List.sublist_cons_self ..).trans (List.sublist_cons_self ..))
   · obtain⟨rfl,ts,_,_⟩:=hf;have A:AccE g2 h0.nx 3 1 a5 n5 c5 (iv lq):=S.get 0 rfl;have X:=(SI.accE A (by omega)).at_;have hx:=Know.accX S 0 (j+2) rfl (show(bl L i j b oW cw ar nr cr m Wq tq)[j]? =_ from bl_j lj hij) (by omega);have hfit:=(hf1 (by decide)).2.1 (by decide);obtain⟨r,h',e,rfl,S'⟩:=lay_bl hO (L:=_::_::L) (i:=i+2) (j:=j+2) (show Know h0 g2 (bl (_::_::L) (i+2) (j+2) b oW cw ar nr cr m Wq tq) from S) (by simp only[List.length_cons];omega) (by simp only[List.length_cons];omega) (by omega) (by rw[hWq];exact hc) X hx (by rw[hWq];omega) (by rw[hWq];exact lW) (k:=2) (by omega) (c2:=c5);refine vcond_f rfl (vcond_f rfl (vcond_f rfl (vcond_t rfl ⟨_,_,e,rfl,?_⟩)));exact S'.sub _ ((List.sublist_cons_self ..).trans (List.sublist_cons_self ..))
  |succ d ihd=>
   intro q hq Wq tq lq g2 a5 n5 c5 hWq htq _ hlq hn5 hb S;have q1:q<ps.length:=by omega
   refine I96_0.of (hh:= ?_) ..;unfold T96_0;obtain⟨pb,off,ea,ws,V',rv⟩:=P.2 q q1;have rv:=rv (Fv.tr S.ft).get;have k1:k≠1:=fun e=>by rw[hf0 e]at q1;cases q1
   have hfit:=(hf1 k1).1;have shp:=sp _ (List.getElem_mem q1);rw[needL_drop ps q q1]at htq;have ih6:= @ih q q1 _ V' (fp _ (List.getElem_mem q1)) shp;obtain⟨v1,v2,v3,v4,v5,v6,rfl⟩:=V'.form;rw[ea];refine vcond_t (by rw[ltI_nat];exact blt_t q1) (isNat_i (show isAddr (some ⟨pb,off,none⟩) _ from vreq_t (blt_t q1) ⟨_,_,_,_,_,_,rv,?_⟩));intro g110;have S:Know h0 g110 (_::_::_::bl L i j b oW cw ar nr cr m Wq tq):=S.add _;refine vreq_t (S.cw 0 rfl (by decide) rfl rfl) ?_;intro g111;have S:Know h0 g111 (ob g2.nx (.cells [.int .i64 v1,.int .i64 v2,.string v3,.slice v4 v5 v6] 46 .fix)::_::_::bl L i j b oW cw ar nr cr m Wq tq):=S.wr 0 rfl (by decide) rfl rfl;obtain⟨r,h119,e119,rfl,S'⟩:= @ih6 g111 (_::_::_::L) (i+3) (j+3) Wq tq S (by simp only[List.length_cons];omega) (by simp only[List.length_cons];omega) (by omega) (by rw[hWq];exact hc) (by rw[hWq];omega) (by rw[hWq];exact lW);refine⟨_,_,_,_,_,_,S.rd 0 rfl rfl rfl,_,_,e119,?_⟩;obtain⟨f1,f2⟩:=buildF_spec ps[q] Wq tq shp;generalize hr:buildF ps[q] Wq tq=rr at *;obtain⟨W1,t1,w1⟩:=rr;simp only at f1 f2;intro g120;have S:Know h0 g120 (ob h119.nx (.cells [.int .i64 w1] 3 .fix)::ob g2.nx (.cells [.int .i64 v1,.int .i64 v2,.string v3,.slice v4 v5 v6] 46 .fix)::acc h0.nx 3 1 a5 n5 c5 (iv lq)::ob h.nx (.cells [.int .i64 k,.int .i64 n,.string t,.slice a ps.length c] 46 .fix)::bl L i j b oW cw ar nr cr m W1 t1):=S'.add _;obtain⟨a',n',c',h',e,hn',S⟩:=S.app 2 rfl (Nat.le_refl _) S.lo AppT22 ⟨_,_,_,rfl⟩ (src_get (n:=1) (c:=1) (esz:=1) (off:=0) (S.rd 0 rfl (r:=[.int .i64 w1]) rfl rfl)) rfl rfl (by omega) (by unfold big;omega);refine⟨_,_,_,_,e,?_⟩;rw[wrap_succ (by omega),←ea];have S:Know h0 h' (_::_::acc h0.nx 3 1 a' n' c' (iv lq++[.int .i64 w1])::ob h.nx (.cells [.int .i64 k,.int .i64 n,.string t,.slice a ps.length c] 46 .fix)::bl L i j b oW cw ar nr cr m W1 t1):=S;have e2:iv lq++[.int .i64 w1]=iv (lq++[w1]):=by simp only[iv,List.map_append,List.map_cons,List.map_nil]
   rw[e2]at S;refine ihd (q+1) (by omega) W1 t1 (lq++[w1]) h' a' n' c' (f1.trans hWq) (by omega) (fun _=>trivial) (by rw[List.length_append,hlq];rfl) (by omega) ?_ (S.sub _ ((List.sublist_cons_self ..).trans (List.sublist_cons_self ..)));rw[hb,List.drop_eq_getElem_cons q1,buildL,hr];simp only[List.append_assoc,List.singleton_append]
 exact go ps.length 0 (by omega) W top [] g1 none 0 0 rfl rfl (fun _=>trivial) rfl rfl (by simp) S2
end
end Go.Proofs.YtngcjpkccnfjiaaGreatDoor
namespace Go.Proofs.YtngcjpkccnfjiaaGreatDoor
set_option maxRecDepth 100000
open Go Go.Ev
theorem rst_eq {h' g:Hp}(e:h'.gd=g.gd):h'.rst g=h':=by
 show({ h' with gd:=g.gd }:Hp)=h';rw[←e]
theorem bytesI_get {t:ByteArray}{q:Nat}(h:q<t.size):(bytesI t)[q]? =some (byteI t q)∧0≤byteI t q∧byteI t q<256:=by
 have q2:q<t.data.toList.length:=h;unfold bytesI byteI;rw[List.getElem?_map,List.getElem?_eq_getElem q2];have:=(t.data.toList[q]).toNat_lt;refine⟨rfl,Int.natCast_nonneg _,?_⟩;show((t.data.toList[q]).toNat:Int)<256;omega
end Go.Proofs.YtngcjpkccnfjiaaGreatDoor
namespace Go.Proofs.YtngcjpkccnfjiaaGreatDoor
set_option maxRecDepth 100000
open Go Go.Ev
def buildO (c:Option (List Nat))(W:List Int)(top:Nat)(R:List Int)(v:Vl)(s:Mv):Out×Int:=match c with
 |none=>(⟨[],0,[],2⟩,0)
 |some _=>if validF v=true then (if deepF v=true then (⟨[],0,[],3⟩,0)
   else if (roomC W top R [] (needF v) s).is=true then (⟨(buildF v (roomC W top R [] (needF v) s).W (roomC W top R [] (needF v) s).top).1,(buildF v (roomC W top R [] (needF v) s).W (roomC W top R [] (needF v) s).top).2.1,(roomC W top R [] (needF v) s).R,0⟩,(buildF v (roomC W top R [] (needF v) s).W (roomC W top R [] (needF v) s).top).2.2)
   else (⟨[],0,[],3⟩,0))
  else (⟨[],0,[],2⟩,0)
theorem buildO_some (l:List Nat)(W:List Int)(top:Nat)(R:List Int)(v:Vl)(s:Mv):buildO (some l) W top R v s=(if validF v=true then (if deepF v=true then (⟨[],0,[],3⟩,0)
 else if (roomC W top R [] (needF v) s).is=true then (⟨(buildF v (roomC W top R [] (needF v) s).W (roomC W top R [] (needF v) s).top).1,(buildF v (roomC W top R [] (needF v) s).W (roomC W top R [] (needF v) s).top).2.1,(roomC W top R [] (needF v) s).R,0⟩,(buildF v (roomC W top R [] (needF v) s).W (roomC W top R [] (needF v) s).top).2.2)
 else (⟨[],0,[],3⟩,0))
 else (⟨[],0,[],2⟩,0)):=rfl
theorem valid_need {v:Vl}(N:Nice v)(h:validF v=true):needF v≤6600∧shapedF v=true:=by
 unfold validF fitsF at h;rw[Bool.and_eq_true]at h;have h1: ¬weighF v 200 8<0:=not_lt_of_f (by simpa using h.1);have:=need_le v 200 8 (by omega) (by omega) N.2;exact⟨by omega,h.2⟩
section
variable {O:CallF}(hO:Oth O)
include hO
theorem ct31 {hv g:Hp}(Fv:Ft hv g)(ok:g.Ok){aw:Option Addr}{nw cw:Nat}{W:List Int}{top:Int}{ar:Option Addr}{nr cr:Nat}{R:List Int}(A:HA g aw nw cw W ar nr cr R)(tb:Tb g){v:Vl}{vs:List Value}(V:VA hv v vs)(N:Nice v)
 {s:Mv} (hrun: ∀l,checkP W top R=some l→ ¬top.toNat+needF v≤W.length→runO W 1 R []=some (s,R.map (mvw W 1 s.ord),([]:List Int).map (mvw W 1 s.ord))∧s.top≤1000∧s.D.length=W.length):
 Ret Tryz.prog O 31 [.agg #[.slice aw nw cw,.int .i64 top,.slice ar nr cr],.agg vs.toArray] g (QA g (buildO (checkP W top R) W top.toNat R v s).1 (buildO (checkP W top R) W top.toNat R v s).2):=by
 have n0:0<g.nx:=by have:=tb.1;omega
 have c94:=fun g6 f6 ok6=>ct94 hO v V N (g:=g6) f6 ok6;have c95:=fun hs g6 f6 ok6=>ct95 hO v V N hs (g:=g6) f6 ok6;have c96:= @ct96 O hO hv g Fv;have c96:=fun b oW cw ar nr cr m hs=> @c96 b oW cw ar nr cr m v vs V N hs;obtain⟨v1,v2,v3,v4,v5,v6,rfl⟩:=V.form;refine rk31 (hO:=hO _ _ _ (by decide)) (hh:= ?_) ..;unfold T31;intro g1 g2 g3;have S:Know g g1 [_]:=(Know.nil ok).add _;have S:Know g g2 [_,_]:=S.add _;have S:Know g g3 [_,_,_]:=S.add _;haveI:=S.ft;obtain⟨r,h12,e12,rfl,K12⟩:=ct41 hO S.ok (A.to g3) (tb.kp S.kp n0) (top:=top);refine⟨_,_,_,_,_,_,_,S.rd 2 rfl rfl rfl,_,_,e12,?_⟩;have S:Know g h12 [_,_,_]:=S.call K12;have zero: ∀ {x:Hp} {L:List Rs} {w1 w2 w3:Value} (_:Know g x (ob g2.nx (.cells [w1,w2,w3] 24 .fix)::L)) (e:Int),vreq (canW x g2.nx 0 [.slice none 0 0,.int .i64 0,.slice none 0 0])
  (∃a22' n23' c24',∃x25',∃a26' n27' c28',readAt (x.wr g2.nx 0 [.slice none 0 0,.int .i64 0,.slice none 0 0]) g2.nx 0 3=some [.slice a22' n23' c24',.int .i64 x25',.slice a26' n27' c28']∧
    QA g ⟨[],0,[],e⟩ 0 (.tuple #[.agg #[.slice a22' n23' c24',.int .i64 x25',.slice a26' n27' c28'],.int .i64 0,.int .i64 e]) (x.wr g2.nx 0 [.slice none 0 0,.int .i64 0,.slice none 0 0])):=by
  intro x L w1 w2 w3 S e;refine vreq_t (S.cw 0 rfl (by decide) rfl rfl) ?_;have S:Know g (x.wr g2.nx 0 [.slice none 0 0,.int .i64 0,.slice none 0 0]) (ob g2.nx (.cells [.slice none 0 0,.int .i64 0,.slice none 0 0] 24 .fix)::L):=S.wr 0 rfl (by decide) rfl rfl;exact⟨_,_,_,_,_,_,_,S.rd 0 rfl rfl rfl,_,rfl,HK.zero S e⟩
 cases hc:checkP W top R with
 |none=>
  exact vcond_f rfl (vcond_t rfl (zero S 2))
 |some l=>
 refine vcond_t rfl ?_;obtain⟨f1,f2,f3,f4,f5,_⟩:=checkP_cells hc;obtain⟨tp,rfl⟩: ∃tp:Nat,top=Int.ofNat tp:=⟨top.toNat,by show top=(top.toNat:Int);omega⟩;obtain⟨r,h20,e20,rfl,K20⟩:=c94 h12 (Fv.tr S.ft) S.ok;refine⟨_,_,_,_,_,_,S.rd 1 rfl rfl rfl,_,_,e20,?_⟩;have S:Know g h20 [_,_,_]:=S.call K20;rw[buildO_some];cases hvv:validF v with
 |false=>exact vcond_t rfl (zero S 2)
 |true=>
 obtain⟨hn,hs⟩:=valid_need N hvv;refine vcond_f rfl ?_;obtain⟨r,h37,e37,rfl,K37⟩:=c95 hs h20 (Fv.tr S.ft) S.ok;refine⟨_,_,_,_,_,_,S.rd 1 rfl rfl rfl,_,_,_,e37,?_⟩;have S:Know g h37 [_,_,_]:=S.call K37;rw[if_pos rfl];cases hd:deepF v with
 |true=>exact vcond_t rfl (zero S 3)
 |false=>
 rw[if_neg (by decide)];refine vcond_f rfl ?_;haveI:=S.ft;have hrun:=hrun l hc;rw[show(Int.ofNat tp).toNat=tp from rfl]at hrun ⊢;have hW:W≠ []:=fun h=>by subst h;exact absurd f1 (by decide)
 have ftp:tp≤W.length:=Int.ofNat_le.1 f4;obtain⟨r,h64,e64,q⟩:=ct80 hO S.ok (A.to h37) hW (by omega) (by omega) ftp (SlAt.nil 1 EInt h37:IntsAt h37 none 0 []) (fun x hx=>by cases hx) (by decide) (need:=needF v) (by omega) (fun h=>⟨(hrun h).1,(hrun h).2.1⟩) (c2:=0);generalize hr:roomC W tp R [] (needF v) s=rr at q ⊢;obtain⟨oW,cw',m,ar',nr',cr',al,nl,cl,rfl,hcap,T,XL,hal⟩:=q;refine⟨_,_,_,_,_,_,_,S.rd 2 rfl rfl rfl,_,_,_,_,_,_,_,_,_,_,_,_,e64,?_⟩;have S:Know g h64 [_,_,_,_,_]:=S.comp T;intro g65;have S:Know g g65 [_,_,_,_,_,_]:=S.add _;refine vreq_t (S.cw 0 rfl (by decide) rfl rfl) ?_;intro g66;have S:Know g g66 [ob h64.nx (.cells [.slice (some ⟨oW,0,none⟩) rr.W.length cw',.int .i64 (Int.ofNat rr.top),.slice ar' nr' cr'] 24 .fix),ob oW (.cells (iv rr.W) 3 m),slr ar' nr' cr' rr.R,ob g2.nx (.cells [.slice none 0 0,.int .i64 0,.slice none 0 0] 24 .fix),_,_]:=S.wr 0 rfl (by decide) rfl rfl;cases his:rr.is with
 |false=>
  exact vcond_t rfl (zero (S.sel [3,0] (by decide) rfl) 3)
 |true=>
 rw[if_pos rfl];refine vcond_f rfl ?_;obtain⟨r1,r2,_⟩:=room_fit (W:=W) (top:=tp) (R:=R) (l:=[]) (need:=needF v) (s:=s) (fun h=>(hrun h).2.2) (by rw[hr];exact his);rw[hr]at r1 r2;obtain⟨r,h82,e82,rfl,S'⟩:= @c96 h64.nx oW cw' ar' nr' cr' m hs g66 [ob h64.nx (.cells [.slice (some ⟨oW,0,none⟩) rr.W.length cw',.int .i64 (Int.ofNat rr.top),.slice ar' nr' cr'] 24 .fix),ob oW (.cells (iv rr.W) 3 m),slr ar' nr' cr' rr.R,ob g2.nx (.cells [.slice none 0 0,.int .i64 0,.slice none 0 0] 24 .fix),_,_] 0 1 rr.W rr.top S (by simp) (by simp) (by decide) hcap r1 (by omega);refine⟨_,_,_,_,_,_,S.rd 4 rfl rfl rfl,_,_,e82,?_⟩;obtain⟨b1,_⟩:=buildF_spec v rr.W rr.top hs;generalize buildF v rr.W rr.top=bb at *;have S:Know g h82 [ob h64.nx (.cells [.slice (some ⟨oW,0,none⟩) bb.1.length cw',.int .i64 (Int.ofNat bb.2.1),.slice ar' nr' cr'] 24 .fix),ob oW (.cells (iv bb.1) 3 m),slr ar' nr' cr' rr.R,ob g2.nx (.cells [.slice none 0 0,.int .i64 0,.slice none 0 0] 24 .fix),_,_]:=S';refine⟨_,_,_,_,_,_,_,S.rd 0 rfl rfl rfl,vreq_t (S.cw 3 rfl (by decide) rfl rfl) ?_⟩;intro g90;have S:Know g g90 [_,_,_,_,_,_]:=S.wr 3 rfl (by decide) rfl rfl;have S2:Know g g90 [_,_,_,_,_,_]:=Know.obSlr S 1 rfl (cw:=cw') (by rw[b1];exact hcap) (by omega);exact⟨_,_,_,_,_,_,_,S.rd 3 rfl rfl rfl,_,rfl,_,_,_,_,_,_,rfl,S2.sel [1,2] (by decide) rfl⟩
end
end Go.Proofs.YtngcjpkccnfjiaaGreatDoor
namespace Go.Proofs.YtngcjpkccnfjiaaGreatDoor
set_option maxRecDepth 100000
open Go Go.Ev
end Go.Proofs.YtngcjpkccnfjiaaGreatDoor
namespace Go.Proofs.YtngcjpkccnfjiaaGreatDoor
set_option maxRecDepth 100000
open Go Go.Ev
theorem sEq_refl (t:ByteArray):sEq t t=true:=by unfold sEq;exact beq_self_eq_true _
abbrev zV:Vl:= .mk 0 0 eS []
def rdT (fs:List Int):ByteArray:=ByteArray.mk (fs.map fun x=>UInt8.ofNat x.toNat).toArray
abbrev Rdd:=Vl×Int×Int
def rdL (f:Int→Int→Rdd):List Int→Int→List Vl×Int×Int
 | [],left=>([],left,0)
 |w::r,left=>if (f w left).2.2≠0 then ([],(f w left).2.1,(f w left).2.2)else
  if (rdL f r (f w left).2.1).2.2≠0 then ([],(rdL f r (f w left).2.1).2.1,(rdL f r (f w left).2.1).2.2)
  else ((f w left).1::(rdL f r (f w left).2.1).1,(rdL f r (f w left).2.1).2.1,0)
def rdP (f:Int→Int→Rdd)(kk:Int)(fs:List Int)(left:Int):Rdd:=
 if (rdL f fs left).2.2≠0 then (zV,(rdL f fs left).2.1,(rdL f fs left).2.2)
 else if kk=5∧incF (rdL f fs left).1=false then (zV,(rdL f fs left).2.1,7)
 else (.mk kk 0 eS (rdL f fs left).1,(rdL f fs left).2.1,0)
def rdF (W:List Int):Nat→Int→Int→Rdd
 |0,_,left=>(zV,left-1,3)
 |d+1,w,left=>
  if left<1 then (zV,left-1,3)
  else if Int.tmod w 2≠0 then (.mk 1 (Int.tdiv (w-1) 2) eS [],left-1,0)
  else if w=0 then (zV,left-1,7)
  else if hdK (W.getD (Int.tdiv w 2).toNat 0)=4 then (.mk 2 ((fieldsW W (Int.tdiv w 2).toNat).getD 0 0) eS [],left-1,0)
  else if hdK (W.getD (Int.tdiv w 2).toNat 0)=3 then (.mk 3 0 (rdT (fieldsW W (Int.tdiv w 2).toNat)) [],left-1,0)
  else if hdK (W.getD (Int.tdiv w 2).toNat 0)=1 then (if (fieldsW W (Int.tdiv w 2).toNat).length<2∨6<(fieldsW W (Int.tdiv w 2).toNat).length then (zV,left-1,7)else rdP (rdF W d) 4 (fieldsW W (Int.tdiv w 2).toNat) (left-1))
  else if hdK (W.getD (Int.tdiv w 2).toNat 0)=2 then rdP (rdF W d) 5 (fieldsW W (Int.tdiv w 2).toNat) (left-1)
  else (zV,left-1,7)
structure Wk (W:List Int)(l:List Nat):Prop where
 at_: ∀p∈l,CellAt W p
 ok: ∀p∈l,fieldsR l (hdK (W.getD p 0)) (fieldsW W p)=true
 pos: ∀p∈l,1≤p
 l200:W.length≤200
theorem Wk.of {W:List Int}{top:Int}{R:List Int}{l:List Nat}(h:checkP W top R=some l):Wk W l∧ ∀w∈R,wordR l w=true:=by
 obtain⟨f1,f2,f3,f4,f5,f6,f7,f8,f9⟩:=checkP_cells h;have hm:=(cellsR_mem (cellsG_R f7)).2;have hfm:formedR W top R=some l:=by rw[formed_check,h]
 have hok:(cellsOk W l l&&R.all (wordR l))=true:=by
  unfold formedR at hfm;split at hfm
  · cases hfm
  · split at hfm
    · cases hfm
    · split at hfm
      · cases hfm
      · rename_i l' _;split at hfm
        · rename_i hc;obtain rfl:=Option.some.inj hfm;exact hc
        · cases hfm
 rw[Bool.and_eq_true]at hok;refine⟨⟨fun p hp=> ?_,fun p hp=> ?_,fun p hp=>(hm p hp).1,f2⟩,fun w hw=>List.all_eq_true.1 hok.2 w hw⟩
 · have:=hm p hp;exact⟨by omega,this.2.2.1,this.2.2.2.1,by omega⟩
 · have:=hok.1;unfold cellsOk at this;exact List.all_eq_true.1 this p hp
theorem Wk.form {W:List Int}{l:List Nat}(k:Wk W l){p:Nat}(hp:p∈l):1≤hdK (W.getD p 0)∧hdK (W.getD p 0)≤5∧(fieldsW W p).length≤20∧(hdK (W.getD p 0)=4→(fieldsW W p).length=1)∧ ∀x∈fieldsW W p,fieldR l (hdK (W.getD p 0)) x=true:=by
 have:=k.ok p hp;unfold fieldsR at this;split at this
 · cases this
 · rename_i hc;exact⟨by omega,by omega,by omega,fun h=>by omega,List.all_eq_true.1 this⟩
theorem wordR_even {l:List Nat}{w:Int}(h:wordR l w=true)(h2: ¬Int.tmod w 2≠0)(h0:w≠0): ∃p∈l,w=2*(p:Int)∧(Int.tdiv w 2).toNat=p∧Int.tdiv w 2=(p:Int):=by
 unfold wordR at h;rw[if_neg h0,if_neg h2,List.contains_iff_mem,List.mem_map]at h;obtain⟨p,hp,e⟩:=h;have e:Int.tdiv w 2=(p:Int):=e.symm;have h2:Int.tmod w 2=0:=by simpa using h2
 have:=Int.mul_tdiv_add_tmod w 2;exact⟨p,hp,by omega,by rw[e];rfl,e⟩
mutual
theorem weigh_mono: ∀(v:Vl) (l d l' d':Int),-1≤l→l≤l'→d≤d'→0≤weighF v l d→weighF v l' d'=weighF v l d+(l'-l)
 | .mk k n t ps,l,d,l',d',h1,hl,hd,h=>by
   simp only[weighF]at h ⊢;split at h
   · omega
   · rename_i hc;rw[if_neg hc,if_neg (by omega),weighL_mono ps (l-1) (d-1) (l'-1) (d'-1) (by omega) (by omega) (by omega) h];omega
theorem weighL_mono: ∀(ps:List Vl) (l d l' d':Int),-1≤l→l≤l'→d≤d'→0≤weighL ps l d→weighL ps l' d'=weighL ps l d+(l'-l)
 | [],l,d,l',d',h1,hl,hd,h=>by simp only[weighL];omega
 |v::r,l,d,l',d',h1,hl,hd,h=>by
  simp only[weighL]at h ⊢;split at h
  · omega
  · rename_i hc;have a:=weighF_le v l d h1;have b:=weighL_le r (weighF v l d) d a.1;rw[if_neg hc,if_neg (by omega),weigh_mono v l d l' d' h1 hl hd (by omega),weighL_mono r (weighF v l d) d (weighF v l d+(l'-l)) d' a.1 (by omega) hd h];omega
end
theorem briefL_of: ∀ {ps:List Vl},(∀p∈ps,briefF p=true)→briefL ps=true
 | [],_=>rfl
 |v::r,h=>by simp only[briefL,h v List.mem_cons_self,briefL_of fun p hp=>h p (List.mem_cons_of_mem _ hp),Bool.and_self]
theorem shapedL_of: ∀ {ps:List Vl},(∀p∈ps,shapedF p=true)→shapedL ps=true
 | [],_=>by simp only[shapedL]
 |v::r,h=>by simp only[shapedL,h v List.mem_cons_self,shapedL_of fun p hp=>h p (List.mem_cons_of_mem _ hp),Bool.and_self]
def Good (d:Int)(left:Int)(r:Rdd):Prop:=r.2.2=0→shapedF r.1=true∧briefF r.1=true∧weighF r.1 left d=r.2.1∧0≤r.2.1
theorem rdL_good {f:Int→Int→Rdd}{d:Int}: ∀(fs:List Int) (left:Int),0≤left→(∀w∈fs,∀left,0≤left→Good d left (f w left))→(rdL f fs left).2.2=0→
 (rdL f fs left).1.length=fs.length∧(∀p∈(rdL f fs left).1,shapedF p=true∧briefF p=true)∧weighL (rdL f fs left).1 left d=(rdL f fs left).2.1∧0≤(rdL f fs left).2.1
 | [],left,h0,hf,he=>by
   simp only[rdL];exact⟨rfl,fun p hp=>(by cases hp),by simp only[weighL],h0⟩
 |w::r,left,h0,hf,he=>by
  have g:=hf w List.mem_cons_self left h0;unfold rdL at he ⊢;by_cases h1:(f w left).2.2≠0
  · rw[if_pos h1]at he;exact absurd he h1
  · rw[if_neg h1]at he ⊢;obtain⟨g1,g2,g3,g4⟩:=g (by omega);by_cases h2:(rdL f r (f w left).2.1).2.2≠0
    · rw[if_pos h2]at he;exact absurd he h2
    · rw[if_neg h2];obtain⟨a1,a2,a3,a4⟩:=rdL_good r (f w left).2.1 g4 (fun w hw=>hf w (List.mem_cons_of_mem _ hw)) (by omega);refine⟨by simp only[List.length_cons,a1],fun p hp=> ?_,?_,a4⟩
      · rcases List.mem_cons.1 hp with rfl|hp
        · exact⟨g1,g2⟩
        · exact a2 p hp
      · simp only[weighL];rw[if_neg (by omega),g3,a3]
theorem letters_rdT {fs:List Int}{l:List Nat}(h: ∀x∈fs,fieldR l 3 x=true)(h20:fs.length≤20):lettersF (rdT fs)=true∧(rdT fs).size=fs.length∧bytesI (rdT fs)=fs:=by
 have hsz:(rdT fs).size=fs.length:=by
  show(fs.map _).toArray.size=_;simp
 have hx: ∀x∈fs,32≤x∧x≤126∧x≠34∧x≠92:=by
  intro x hx;have:=h x hx;unfold fieldR letterB at this;simp only[if_pos,Bool.and_eq_true,decide_eq_true_eq,Bool.not_eq_true',beq_eq_false_iff_ne]at this;exact⟨this.1.1.1,this.1.1.2,this.1.2,this.2⟩
 have hb: ∀i (hi:i<fs.length),byteI (rdT fs) i=fs[i]:=by
  intro i hi;unfold byteI rdT;have:=hx _ (List.getElem_mem hi);rw[List.getElem?_eq_getElem (by simpa using hi)];simp only[List.getElem_map];show Int.ofNat (UInt8.ofNat fs[i].toNat).toNat=fs[i];rw[UInt8.toNat_ofNat_of_lt' (by show fs[i].toNat<256;omega)];show((fs[i].toNat:Nat):Int)=fs[i];omega
 refine⟨?_,hsz,?_⟩
 · unfold lettersF;rw[hsz,Bool.and_eq_true];refine⟨List.all_eq_true.2 fun i hi=> ?_,?_⟩
   · rw[List.mem_range]at hi;have:=hx _ (List.getElem_mem hi);rw[hb i hi];unfold okByte;rw[lt_f (by omega),lt_f (by omega),eqI_f (by omega),eqI_f (by omega)];rfl
   · rw[lt_f (by simp only[Int.ofNat_eq_natCast];omega)];rfl
 · refine List.ext_getElem (by rw[bytesI_length,hsz]) fun i h1 h2=> ?_;have h3:i<(rdT fs).size:=by rw[hsz];exact h2
   have:=(bytesI_get h3).1;rw[List.getElem?_eq_getElem h1]at this;rw[←hb i h2];exact Option.some.inj this
theorem rd_good {W:List Int}{l:List Nat}(k:Wk W l): ∀(d:Nat) (w left:Int),wordR l w=true→0≤left→Good (d:Int) left (rdF W d w left):=by
 intro d
 induction d with
 |zero=>intro w left hw h0 he;exact absurd he (by show(3:Int)≠0;decide)
 |succ d ih=>
  intro w left hw h0;have part: ∀(kk:Int) (fs:List Int),(kk=4∨kk=5)→(kk=4→2≤fs.length∧fs.length≤6)→1≤left→(∀x∈fs,wordR l x=true)→Good ((d+1:Nat):Int) left (rdP (rdF W d) kk fs (left-1)):=by
   intro kk fs hk h4 h1 hfs he;unfold rdP at he ⊢;by_cases e1:(rdL (rdF W d) fs (left-1)).2.2≠0
   · rw[if_pos e1]at he;exact absurd he e1
   · rw[if_neg e1]at he ⊢;obtain⟨a1,a2,a3,a4⟩:=rdL_good (d:=(d:Int)) fs (left-1) (by omega) (fun x hx l' h0=>ih x l' (hfs x hx) h0) (by omega);by_cases e2:kk=5∧incF (rdL (rdF W d) fs (left-1)).1=false
     · rw[if_pos e2]at he;exact absurd he (by show(7:Int)≠0;decide)
     · rw[if_neg e2];refine⟨?_,?_,?_,a4⟩
       · rw[shapedF_mk,shapedL_of fun p hp=>(a2 p hp).1,Bool.true_and];rcases hk with rfl|rfl
         · have:=h4 rfl;show(eqI 0 0&&(sEq eS eS&&(!(ltI (Int.ofNat _) 2)&& !(ltI 6 (Int.ofNat _)))))=true;rw[a1,lt_f (by simp only[Int.ofNat_eq_natCast];omega),lt_f (by simp only[Int.ofNat_eq_natCast];omega),sEq_refl];rfl
         · have:incF (rdL (rdF W d) fs (left-1)).1=true:=by
            cases hi:incF (rdL (rdF W d) fs (left-1)).1 with
            |true=>rfl
            |false=>exact absurd ⟨rfl,hi⟩ e2
           show(incF _&&(eqI 0 0&&sEq eS eS))=true;rw[this,sEq_refl];rfl
       · simp only[briefF,briefL_of fun p hp=>(a2 p hp).2,Bool.true_and]
         decide
       · simp only[weighF];rw[if_neg (by omega),show(((d+1:Nat):Int)-1)=(d:Int) by omega,a3]
  unfold rdF;by_cases c1:left<1
  · rw[if_pos c1];intro he;exact absurd he (by show(3:Int)≠0;decide)
  rw[if_neg c1];have leaf: ∀(kk n:Int) (t:ByteArray),formF kk n t []=true→t.size≤30→Good ((d+1:Nat):Int) left (.mk kk n t [],left-1,0):=by
   intro kk n t hf ht _;refine⟨by rw[shapedF_mk,hf];simp only[shapedL,Bool.and_self],?_,?_,by show 0≤left-1;omega⟩
   · simp only[briefF,briefL,Bool.true_and];rw[lt_f (by simp only[Int.ofNat_eq_natCast];omega)];rfl
   · simp only[weighF,weighL];rw[if_neg (by omega)]
  by_cases c2:Int.tmod w 2≠0
  · rw[if_pos c2];refine leaf 1 _ eS ?_ (by decide);have hw':=hw;unfold wordR at hw';have c0:w≠0:=fun h=>by subst h;exact c2 rfl
    rw[if_neg c0,if_pos c2,Bool.and_eq_true,decide_eq_true_eq,decide_eq_true_eq]at hw';have e:Int.tdiv (w-1) 2≥ -1000000000∧Int.tdiv (w-1) 2≤1000000000:=by
     rw[tdiv_eq];split<;>omega
    show((!(ltI _ (-1000000000))&& !(ltI 1000000000 _))&&(sEq eS eS&&eqI (Int.ofNat 0) 0))=true;rw[lt_f (by omega),lt_f (by omega),sEq_refl];rfl
  rw[if_neg c2];by_cases c3:w=0
  · rw[if_pos c3];intro he;exact absurd he (by show(7:Int)≠0;decide)
  rw[if_neg c3];obtain⟨p,hp,_,ep,_⟩:=wordR_even hw c2 c3;rw[ep];obtain⟨k1,k2,k3,k4,k5⟩:=k.form hp;by_cases h4:hdK (W.getD p 0)=4
  · rw[if_pos h4];have:=k4 h4;obtain⟨x,hx⟩:=List.length_eq_one_iff.1 this;have hf:=k5 x (by rw[hx];exact List.mem_singleton.2 rfl);rw[hx];refine leaf 2 x eS ?_ (by decide);unfold fieldR at hf;rw[h4,if_neg (by decide),if_pos rfl,Bool.or_eq_true,beq_iff_eq,beq_iff_eq]at hf;rcases hf with rfl|rfl
    · show((!(ltI 0 0)&& !(ltI 1 0))&&(sEq eS eS&&eqI (Int.ofNat 0) 0))=true;rw[sEq_refl];rfl
    · show((!(ltI 1 0)&& !(ltI 1 1))&&(sEq eS eS&&eqI (Int.ofNat 0) 0))=true;rw[sEq_refl];rfl
  rw[if_neg h4];by_cases h3:hdK (W.getD p 0)=3
  · rw[if_pos h3];rw[h3]at k5;obtain⟨q1,q2,_⟩:=letters_rdT k5 k3;refine leaf 3 0 _ ?_ (by omega);show(eqI 0 0&&(lettersF _&&eqI (Int.ofNat 0) 0))=true;rw[q1];decide
  rw[if_neg h3];have hwf:hdK (W.getD p 0)≠3→hdK (W.getD p 0)≠4→ ∀x∈fieldsW W p,wordR l x=true:=fun a b x hx=>by
   have:=k5 x hx;unfold fieldR at this;rw[if_neg a,if_neg b]at this;exact this
  by_cases h1:hdK (W.getD p 0)=1
  · rw[if_pos h1];by_cases c:(fieldsW W p).length<2∨6<(fieldsW W p).length
    · rw[if_pos c];intro he;exact absurd he (by show(7:Int)≠0;decide)
    · rw[if_neg c];exact part 4 _ (.inl rfl) (fun _=>by omega) (by omega) (hwf h3 h4)
  rw[if_neg h1];by_cases h2:hdK (W.getD p 0)=2
  · rw[if_pos h2];exact part 5 _ (.inr rfl) (fun h=>by omega) (by omega) (hwf h3 h4)
  · rw[if_neg h2];intro he;exact absurd he (by show(7:Int)≠0;decide)
end Go.Proofs.YtngcjpkccnfjiaaGreatDoor
