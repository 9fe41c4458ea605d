/- The mover: a cell is moved. -/
import Derived.Test.YtngcjpkccnfjiaaGreatDoorYE
import Derived.Test.YtngcjpkccnfjiaaGreatDoorProg
import Derived.Test.YtngcjpkccnfjiaaGreatDoorYC
import Derived.KernelRfl
namespace Go.Proofs.YtngcjpkccnfjiaaGreatDoor
set_option maxRecDepth 100000
open Go Go.Ev
structure Mv where
 T:List Nat
 ord:List Nat
 D:List Int
 top:Nat
def chunkW (W:List Int)(a:Nat):List Int:=(W.drop a).take (1+(hdS (W.getD a 0)).toNat)
def moveO (W:List Int)(fr:Nat)(s:Mv)(w:Int):Option (Mv×Int):=
 if Int.tmod w 2≠0 then some (s,w)
 else if Int.tdiv w 2<((max fr 1:Nat):Int)then some (s,w)
 else if (Int.tdiv w 2).toNat<s.T.length then
  (if s.T.getD (Int.tdiv w 2).toNat 0≠0 then some (s,2*(s.T.getD (Int.tdiv w 2).toNat 0:Int))
  else if (Int.tdiv w 2).toNat<W.length∧0≤hdS (W.getD (Int.tdiv w 2).toNat 0)∧hdS (W.getD (Int.tdiv w 2).toNat 0)≤20∧(Int.tdiv w 2).toNat+1+(hdS (W.getD (Int.tdiv w 2).toNat 0)).toNat≤W.length∧1≤s.top∧s.top+1+(hdS (W.getD (Int.tdiv w 2).toNat 0)).toNat≤s.D.length∧s.ord.length≤s.D.length then
   some (⟨s.T.set (Int.tdiv w 2).toNat s.top,s.ord++[(Int.tdiv w 2).toNat],putAt s.D s.top (chunkW W (Int.tdiv w 2).toNat),s.top+1+(hdS (W.getD (Int.tdiv w 2).toNat 0)).toNat⟩,2*(s.top:Int))
  else none)
 else none
def weakO (_W:List Int)(fr:Nat)(s:Mv)(w:Int):Option (Mv×Int):=
 if Int.tmod w 2≠0 then some (s,w)
 else if Int.tdiv w 2<((max fr 1:Nat):Int)then some (s,w)
 else if (Int.tdiv w 2).toNat<s.T.length then some (s,2*(s.T.getD (Int.tdiv w 2).toNat 0:Int))else none
structure Pl where
 M:Nat
 oT:Nat
 oW:Nat
 aw:Option Addr
 nw:Nat
 cw:Nat
 fr:Nat
 n:Nat
 B:Nat
structure Pl.Ok (p:Pl)(g:Hp)(W:List Int):Prop where
 M:g.nx≤p.M
 oT:g.nx≤p.oT
 oW:g.nx≤p.oW
 tM:p.oT<p.M
 wM:p.oW<p.M
 tw:p.oT≠p.oW
 B:p.M<p.B
 HW:SI g p.aw p.nw p.cw W
 r: ∀x∈W,In64 x
 l:W.length<1000000
 n:p.n<1000000
structure MvAt (p:Pl)(h:Hp)(s:Mv)(ao:Option Addr)(no co:Nat):Prop where
 M:h.get p.M=some (.cells [.slice p.aw p.nw p.cw,.int .i64 (Int.ofNat p.fr),.slice (some ⟨p.oT,0,none⟩) p.n p.n,.slice ao no co,.slice (some ⟨p.oW,0,none⟩) p.n p.n,.int .i64 (Int.ofNat s.top)] 113 .fix)
 T:h.get p.oT=some (.cells (s.T.map fun t=>Value.int .i64 (Int.ofNat t)) 3 .fix)
 D:h.get p.oW=some (.cells (s.D.map (Value.int .i64)) 3 .fix)
 A:AccI 3 h p.B ao no co (s.ord.map Int.ofNat)
 lT:s.T.length=p.n
 lD:s.D.length=p.n
 bT: ∀t∈s.T,t≤p.n
 bD: ∀x∈s.D,In64 x
 nx:p.B≤h.nx
structure Mvd (p:Pl)(h h':Hp)(ao ao':Option Addr):Prop where
 get: ∀o,o<h.nx→o≠p.M→o≠p.oT→o≠p.oW→(∀off,ao≠some ⟨o,off,none⟩)→h'.get o=h.get o
 nx:h.nx≤h'.nx
 gd:h'.gd=h.gd
 fr:h.Fresh→h'.Fresh
 ao:ao'=ao∨ ∀b off,ao'=some ⟨b,off,none⟩→h.nx≤b
theorem Mvd.refl (p:Pl)(h:Hp)(ao:Option Addr):Mvd p h h ao ao:=⟨fun _ _ _ _ _ _=>rfl,Nat.le_refl _,rfl,id,.inl rfl⟩
theorem Mvd.trans {p:Pl}{h h' h'':Hp}{a a' a'':Option Addr}(x:Mvd p h h' a a')(y:Mvd p h' h'' a' a''):Mvd p h h'' a a'':=by
 refine⟨fun o ho h1 h2 h3 h4=>(y.get o (Nat.lt_of_lt_of_le ho x.nx) h1 h2 h3 fun off=> ?_).trans (x.get o ho h1 h2 h3 h4),Nat.le_trans x.nx y.nx,y.gd.trans x.gd,fun f=>y.fr (x.fr f),?_⟩
 · rcases x.ao with e|e
   · rw[e];exact h4 off
   · intro hh;have:=e o off hh;omega
 · rcases y.ao with e|e
   · rw[e];exact x.ao
   · exact .inr fun b off hb=>Nat.le_trans x.nx (e b off hb)
theorem Mvd.kp {p:Pl}{g h h':Hp}{W:List Int}{a a':Option Addr}{s:Mv}{no co:Nat}(x:Mvd p h h' a a')(P:p.Ok g W)(k:Kp g.nx g h)(m:MvAt p h s a no co):Kp g.nx g h':=by
 refine⟨fun o ho=>(x.get o (Nat.lt_of_lt_of_le ho k.nx) (by have:=P.M;omega) (by have:=P.oT;omega) (by have:=P.oW;omega) fun off hh=> ?_).trans (k.get o ho),Nat.le_trans k.nx x.nx,x.gd.trans k.gd,fun f=>x.fr (k.fr f)⟩;have:=m.A.fresh hh;have:=P.M;have:=P.B;omega
theorem Mvd.ok {p:Pl}{h h':Hp}{a a':Option Addr}(x:Mvd p h h' a a')(ok:h.Ok):h'.Ok:=⟨fun q hq=>by rw[x.gd]at hq;exact Nat.lt_of_lt_of_le (ok.gd q hq) x.nx,x.fr ok.fr⟩
theorem Mvd.kpn {p:Pl}{h h':Hp}{a:Option Addr}(k:Kp h.nx h h'):Mvd p h h' a a:=⟨fun o ho _ _ _ _=>k.get o ho,k.nx,k.gd,k.fr,.inl rfl⟩
theorem MvAt.kp {p:Pl}{g h h':Hp}{W:List Int}{s:Mv}{a:Option Addr}{n c:Nat}(m:MvAt p h s a n c)(P:p.Ok g W)(k:Kp h.nx h h'):MvAt p h' s a n c:=by
 have:=m.nx;have:=P.tM;have:=P.wM;have:=P.B;exact⟨(k.get _ (by omega)).trans m.M,(k.get _ (by omega)).trans m.T,(k.get _ (by omega)).trans m.D,m.A.keep (fun o ho _=>k.get o ho) k.nx,m.lT,m.lD,m.bT,m.bD,Nat.le_trans m.nx k.nx⟩
theorem MvAt.ne {p:Pl}{h:Hp}{s:Mv}{a:Option Addr}{n c:Nat}(m:MvAt p h s a n c){o off:Nat}(ho:o<p.B):a≠some ⟨o,off,none⟩:=fun hh=>by have:=m.A.fresh hh;omega
structure Gd (p:Pl)(h:Hp):Prop where
 lt:GdLt h p.B
 M:h.guarded p.M=false
 T:h.guarded p.oT=false
 W:h.guarded p.oW=false
theorem Gd.of {p:Pl}{h h':Hp}(g:Gd p h)(e:h'.gd=h.gd):Gd p h':=by
 have: ∀o,h'.guarded o=h.guarded o:=fun o=>by unfold Hp.guarded;rw[e]
 exact⟨fun q hq=>g.lt q (by rwa [e]at hq),by rw[this];exact g.M,by rw[this];exact g.T,by rw[this];exact g.W⟩
theorem intsCells {h:Hp}{o:Nat}{e:TypeId}{m:Md}{xs:List Int}(hg:h.get o=some (.cells (xs.map (Value.int .i64)) e m))(ho:o<h.nx):IntsAt h (some ⟨o,0,none⟩) xs.length xs:=by
 refine⟨rfl,.inr ⟨o,0,_,e,m,rfl,ho,hg,by simp,fun i hi=> ?_⟩⟩;show _=[Value.int .i64 _];rw[Nat.zero_add,Nat.mul_one,List.drop_eq_getElem_cons (by simpa using hi)];simp
theorem AppT22:AppT Tryz.prog 22 3 1 8:=⟨Tryz.underlying22,by kernel_rfl⟩
theorem el22:elemT Tryz.prog 22=some 3:=by unfold elemT;rw[Tryz.underlying22]
theorem copy_ints {h:Hp}{o off n m c2 c1:Nat}{ds xs:List Int}{a:Option Addr}{e:TypeId}{md:Md}(hg:h.get o=some (.cells (ds.map (Value.int .i64)) e md))(hm:md≠ .ro)(hu:h.guarded o=false)(hn:off+n≤ds.length)(X:IntsAt h a m xs):
 ∃h',copyV Tryz.prog h 22 (.slice (some ⟨o,off,none⟩) n c1) (.slice a m c2)=some (.int .i64 (Int.ofNat (Nat.min m n)),h')∧h'.get o=some (.cells ((putAt ds off (xs.take (Nat.min m n))).map (Value.int .i64)) e md)∧(∀q,q≠o→h'.get q=h.get q)∧h'.nx=h.nx∧h'.gd=h.gd∧(h.Fresh→h'.Fresh):=by
 have hX:=X.1;unfold copyV;rw[el22];simp only[Option.bind_some,sz3,lenV];have pm: ∀(ds xs:List Int) (k:Nat),(putAt ds k xs).map (Value.int .i64)=putAt (ds.map (Value.int .i64)) k (xs.map (Value.int .i64)):=by
  intro ds
  induction ds with
  |nil=>intro xs k;cases k<;>cases xs<;>rfl
  |cons d ds ih=>
   intro xs k;cases k with
   |zero=>cases xs with
    |nil=>rfl
    |cons x xs=>show _::_=_::_;rw[ih]
   |succ k=>show _::_=_::_;rw[ih]
 cases hz:Nat.beq (Nat.min m n) 0 with
 |true=>
  have hz:=Nat.eq_of_beq_eq_true hz;rw[hz];refine⟨h,rfl,?_,fun _ _=>rfl,rfl,rfl,id⟩;rw[List.take_zero,hg];have: ∀(ds:List Int) (k:Nat),k≤ds.length→putAt ds k []=ds:=by
   intro ds
   induction ds with
   |nil=>intro k hk;cases k<;>rfl
   |cons d ds ih=>intro k hk;cases k with
    |zero=>rfl
    |succ k=>show d::putAt ds k []=_;rw[ih k (by simpa using hk)]
  rw[this _ _ (by omega)]
 |false=>
  simp only[cond_false];have hpos:0<Nat.min m n:=by
   rcases Nat.eq_zero_or_pos (Nat.min m n)with h0|h0
   · rw[h0]at hz;cases hz
   · exact h0
  have hmin:Nat.min m n≤m:=Nat.min_le_left _ _;have hmin2:Nat.min m n≤n:=Nat.min_le_right _ _;have src:copySrc h 1 (Nat.min m n) (.slice a m c2)=some ((xs.take (Nat.min m n)).map (Value.int .i64)):=by
   rcases X.2 with ⟨rfl,rfl⟩|⟨b,off',cs,e',m',rfl,h2,h3,h4,h5⟩
   · simp at hX;omega
   · simp only[copySrc];rw[Nat.mul_one,readAt_get h3 (by omega)];congr 1;refine List.ext_getElem (by simp;omega) fun i hi hi'=> ?_;have hi2:i<xs.length:=by simp at hi';omega
     have h7:(cs.drop (off'+i*1)).take 1=[.int .i64 xs[i]]:=h5 i hi2;rw[Nat.mul_one,List.drop_eq_getElem_cons (show off'+i<cs.length by omega)]at h7;simp only[List.take_succ_cons,List.take_zero,List.cons.injEq,and_true]at h7;simp[h7]
  rw[src];have h1:((xs.take (Nat.min m n)).map (Value.int .i64)).all one=true:=by rw[List.all_map];exact List.all_eq_true.2 fun _ _=>rfl
  simp only[Option.bind_some,h1,cond_true];have hl:off+((xs.take (Nat.min m n)).map (Value.int .i64)).length≤(ds.map (Value.int .i64)).length:=by simp;omega
  obtain⟨h',hw,hg'⟩:=writeAt_mk hg hm hu hl h1;have hwr:h.wr o off ((xs.take (Nat.min m n)).map (Value.int .i64))=h':=by unfold Hp.wr;rw[hw]
  rw[hw];refine⟨h',rfl,by rw[hg',pm],fun q hq=> ?_,?_,?_,fun f=> ?_⟩
  · rw[←hwr];exact wr_get_ne _ _ _ _ hq
  · rw[←hwr];exact nx_wr ..
  · rw[←hwr];exact gd_wr ..
  · rw[←hwr];exact f.wr _ _ _
theorem MvAt.rd {p:Pl}{h:Hp}{s:Mv}{a:Option Addr}{n c:Nat}(m:MvAt p h s a n c){i:Nat}{v:Value}(hv:[Value.slice p.aw p.nw p.cw,.int .i64 (Int.ofNat p.fr),.slice (some ⟨p.oT,0,none⟩) p.n p.n,.slice a n c,.slice (some ⟨p.oW,0,none⟩) p.n p.n,.int .i64 (Int.ofNat s.top)][i]? =some v):readAt h p.M i 1=some [v]:=read1 m.M hv
theorem MvAt.rdT {p:Pl}{h:Hp}{s:Mv}{a:Option Addr}{n c:Nat}(m:MvAt p h s a n c){i:Nat}(hi:i<s.T.length):readAt h p.oT (0+i*1) 1=some [.int .i64 (Int.ofNat (s.T.getD i 0))]:=by
 rw[Nat.zero_add,Nat.mul_one];exact read1 m.T (by simp[List.getElem?_eq_getElem hi,List.getD])
theorem appI2 {P:Program}{e sT:TypeId}(T:AppT P sT e 1 8){h:Hp}{base:Nat}{a:Option Addr}{n c:Nat}{xs:List Int}(A:AccI e h base a n c xs)(hb:base≤h.nx)(hg:GdLt h base)(hl:xs.length<1000000000){x:Int}
 {K:Option Addr→Nat→Nat→Hp→Prop} (next: ∀a' n' c' h',AccI e h' base a' n' c' (xs++[x])→AppK h h' a→Kp base h h'→a'=some ⟨h.nx+1,0,none⟩→K a' n' c' h'):
 ∃a' n' c' h',appendV P (h.add (.cells [.int .i64 x] e .fix)) sT sT (.slice a n c) (.slice (some ⟨h.nx,0,none⟩) 1 1)=some (.slice a' n' c',h')∧K a' n' c' h':=by
 obtain⟨a',n',c',h',e1,A',k⟩:=app_int T A hb hg hl x;have A1:AccI e (h.add (.cells [.int .i64 x] e .fix)) base a n c xs:=A.keep (fun o ho _=>get_add_ne (by omega)) (by rw[nx_add];omega);exact⟨a',n',c',h',e1,next a' n' c' h' A' k (k.kp A hb) (append_new T A1 ⟨_,_,_,rfl⟩ (src_get (n:=1) (c:=1) (esz:=1) (off:=0) (read1 (i:=0) (v:= .int .i64 x) (get_add_same ..) rfl)) rfl (by decide) e1)⟩
theorem mem_putAt {α:Type}{x:α}: ∀(ds xs:List α) (k:Nat),x∈putAt ds k xs→x∈ds∨x∈xs:=by
 intro ds
 induction ds with
 |nil=>intro xs k h;cases k<;>cases xs<;>exact .inl h
 |cons d ds ih=>
  intro xs k h;cases k with
  |zero=>cases xs with
   |nil=>exact .inl h
   |cons y ys=>
    rcases List.mem_cons.1 (show x∈y::putAt ds 0 ys from h)with rfl|h
    · exact .inr (List.mem_cons_self ..)
    · exact(ih ys 0 h).imp (List.mem_cons_of_mem _) (List.mem_cons_of_mem _)
  |succ k=>
   rcases List.mem_cons.1 (show x∈d::putAt ds k xs from h)with rfl|h
   · exact .inl (List.mem_cons_self ..)
   · exact(ih xs k h).imp (List.mem_cons_of_mem _) id
theorem slice_fix {h:Hp}{o n l:Nat}(hl:l<n)(hn:n<1000000):sliceV Tryz.prog h 22 (.slice (some ⟨o,0,none⟩) n n) (some (.int .i64 (Int.ofNat l))) none none=some (.slice (some ⟨o,l,none⟩) (n-l) (n-l)):=by
 have hb:Nat.beq n unk=false:=by rw[Bool.eq_false_iff];intro hh;have:=Nat.eq_of_beq_eq_true hh;have:unk=18446744073709551616:=rfl;omega
 have hs:Ev.seen h 3 1 (.slice (some ⟨o,0,none⟩) n n)=some n:=by simp only[Ev.seen,hb,cond_false]
 have hlb:Nat.beq n l=false:=by rw[Bool.eq_false_iff];intro hh;have:=Nat.eq_of_beq_eq_true hh;omega
 unfold sliceV;rw[Tryz.underlying22];simp only[sz3,bind,Option.bind_some,hs,bounds_lo (vis:=n) (show l≤n by omega),hb,Bool.false_and,cond_false,hlb];rw[blt_t (by have:unk=18446744073709551616:=rfl;omega)];simp
theorem nt_f {b:Bool}(h:(!b)=true):b=false:=by cases b;rfl;cases h
theorem nt_t {b:Bool}(h:(!b)=false):b=true:=by cases b;cases h;rfl
theorem dbl64 {x n:Nat}(h:x≤n)(hn:n<1000000):wrapF .i64 (2*Int.ofNat x)=2*(x:Int):=by
 rw[wrap64 (by simp;omega) (by simp;omega)];rfl
theorem maxI_nat (a b:Nat):maxI (Int.ofNat a) (Int.ofNat b)=((max a b:Nat):Int):=by
 unfold maxI;rw[ltI_nat];by_cases h:a<b
 · rw[blt_t h];show Int.ofNat b=_;rw[Nat.max_eq_right (by omega)];rfl
 · rw[blt_f h];show Int.ofNat a=_;rw[Nat.max_eq_left (by omega)];rfl
section
variable {O:CallF}(hO:Oth O)
include hO
theorem ct121 {p:Pl}{g h:Hp}{W:List Int}{s s':Mv}{ao:Option Addr}{no co:Nat}(P:p.Ok g W)(m:MvAt p h s ao no co){w v:Int}(hw:In64 w)(hs:weakO W p.fr s w=some (s',v)):
 Ret Tryz.prog O 121 [.pointer (some ⟨p.M,0,none⟩),.int .i64 w] h fun v' h'=>v'= .int .i64 v∧s'=s∧h'=h:=by
 refine rk121 _ _ _ (hO _ _ _ (by decide)) ?_;unfold T121;unfold weakO at hs;rw[hw.half];refine vcond_split (fun h1=> ?_) fun h1=> ?_
 · rw[if_pos (ne_of_f (by simpa using h1))]at hs;injection hs with hs;injection hs with e1 e2;subst e1 e2;exact⟨rfl,rfl,rfl⟩
 have h1:=eq_of_t (by simpa using h1);rw[if_neg (by simpa using h1)]at hs;refine⟨_,m.rd (i:=1) rfl,?_⟩;rw[show maxI (Int.ofNat p.fr) 1=((max p.fr 1:Nat):Int) from maxI_nat p.fr 1];refine vcond_split (fun h2=> ?_) fun h2=> ?_
 · rw[if_pos (lt_of_t h2)]at hs;injection hs with hs;injection hs with e1 e2;subst e1 e2;exact⟨rfl,rfl,rfl⟩
 have h2:=not_lt_of_f h2;rw[if_neg h2]at hs;have h0:0≤Int.tdiv w 2:=by have:(0:Int)≤((max p.fr 1:Nat):Int):=Int.natCast_nonneg _;omega
 obtain⟨a,ha⟩: ∃a:Nat,Int.tdiv w 2=Int.ofNat a:=Int.eq_ofNat_of_zero_le h0;rw[ha]at hs ⊢;simp only[show(Int.ofNat a).toNat=a from rfl]at hs;split at hs
 · rename_i h3;injection hs with hs;injection hs with e1 e2;subst e1 e2;refine⟨_,_,_,m.rd (i:=2) rfl,isNat_i ?_⟩;show vreq _ _;refine vreq_t (blt_t (by have:=m.lT;omega)) ⟨_,m.rdT h3,?_,rfl,rfl⟩;have hb:s.T.getD a 0≤p.n:=by
    rw[show s.T.getD a 0=s.T[a] by simp[List.getD,List.getElem?_eq_getElem h3]];exact m.bT _ (List.getElem_mem h3)
   rw[dbl64 hb P.n]
 · cases hs
theorem ct117 {p:Pl}{g h:Hp}{W:List Int}{s s':Mv}{ao:Option Addr}{no co:Nat}(P:p.Ok g W)(ok:h.Ok)(gd:Gd p h)(k:Ft g h)(m:MvAt p h s ao no co){w v:Int}(hw:In64 w)(hs:moveO W p.fr s w=some (s',v)):
 Ret Tryz.prog O 117 [.pointer (some ⟨p.M,0,none⟩),.int .i64 w] h fun v' h'=>v'= .int .i64 v∧ ∃ao' no' co',MvAt p h' s' ao' no' co'∧Mvd p h h' ao ao':=by
 refine rk117 _ _ _ (hO _ _ _ (by decide)) ?_;unfold T117;unfold moveO at hs;rw[hw.half];refine vcond_split (fun h1=> ?_) fun h1=> ?_
 · rw[if_pos (ne_of_f (by simpa using h1))]at hs;injection hs with hs;injection hs with e1 e2;subst e1 e2;exact⟨rfl,_,_,_,m,.refl ..⟩
 have h1:=eq_of_t (by simpa using h1);rw[if_neg (by simpa using h1)]at hs;refine⟨_,m.rd (i:=1) rfl,?_⟩;rw[show maxI (Int.ofNat p.fr) 1=((max p.fr 1:Nat):Int) from maxI_nat p.fr 1];refine vcond_split (fun h2=> ?_) fun h2=> ?_
 · rw[if_pos (lt_of_t h2)]at hs;injection hs with hs;injection hs with e1 e2;subst e1 e2;exact⟨rfl,_,_,_,m,.refl ..⟩
 have h2:=not_lt_of_f h2;rw[if_neg h2]at hs;have h0:0≤Int.tdiv w 2:=by have:(0:Int)≤((max p.fr 1:Nat):Int):=Int.natCast_nonneg _;omega
 obtain⟨a,ha⟩: ∃a:Nat,Int.tdiv w 2=Int.ofNat a:=Int.eq_ofNat_of_zero_le h0;rw[ha]at hs ⊢;simp only[show(Int.ofNat a).toNat=a from rfl]at hs;have Pn:=P.n;split at hs
 · rename_i h3;have h3n:a<p.n:=by have:=m.lT;omega
   refine⟨_,_,_,m.rd (i:=2) rfl,isNat_i ?_⟩;show vreq _ _;refine vreq_t (blt_t h3n) ⟨_,m.rdT h3,vcond_split (fun h4=> ?_) fun h4=> ?_⟩
   · have h4:s.T.getD a 0≠0:=fun hh=>ne_of_f (nt_f h4) (by rw[hh];rfl);rw[if_pos h4]at hs;injection hs with hs;injection hs with e1 e2;subst e1 e2;refine⟨_,_,_,m.rd (i:=2) rfl,isNat_i ?_⟩;show vreq _ _;refine vreq_t (blt_t h3n) ⟨_,m.rdT h3,?_,_,_,_,m,.refl ..⟩;have hb:s.T.getD a 0≤p.n:=by
      rw[show s.T.getD a 0=s.T[a] by simp[List.getD,List.getElem?_eq_getElem h3]];exact m.bT _ (List.getElem_mem h3)
     rw[dbl64 hb P.n]
   · have h4:s.T.getD a 0=0:=Int.ofNat_inj.1 (eq_of_t (nt_t h4));rw[if_neg (not_not_intro h4)]at hs;split at hs
     · rename_i h5;injection hs with hs;injection hs with e1 e2;subst e1 e2;obtain⟨h5,h6,h7,h8,h9,h10,h11⟩:=h5;obtain⟨sz,hsz⟩: ∃m:Nat,hdS (W.getD a 0)=Int.ofNat m:=Int.eq_ofNat_of_zero_le h6;have hsz2:sz≤20:=by rw[hsz]at h7;exact Int.ofNat_le.1 h7
       have tsz:(hdS (W.getD a 0)).toNat=sz:=by rw[hsz];rfl
       rw[tsz]at h8 h10 ⊢;have hTl:=m.lT;have hDl:=m.lD;have PM:=P.M;have PT:=P.oT;have PW:=P.oW;have PtM:=P.tM;have PwM:=P.wM;have Ptw:=P.tw;have PB:=P.B;have mnx:=m.nx;have gWa:W.getD a 0=W[a]:=by simp[List.getD,List.getElem?_eq_getElem h5]
       intro g16;have e16: ∀q,g16.get q=h.get q:=fun q=>rfl;have r16: ∀ {i v},[Value.slice p.aw p.nw p.cw,.int .i64 (Int.ofNat p.fr),.slice (some ⟨p.oT,0,none⟩) p.n p.n,.slice ao no co,.slice (some ⟨p.oW,0,none⟩) p.n p.n,.int .i64 (Int.ofNat s.top)][i]? =some v→readAt g16 p.M i 1=some [v]:=fun hv=>read1 (by rw[e16];exact m.M) hv;refine⟨_,_,_,r16 (i:=2) rfl,_,r16 (i:=5) rfl,isNat_i ?_⟩;show vreq _ _;have T16:(g16.grd []).get p.oT=some (.cells (s.T.map fun t=>Value.int .i64 (Int.ofNat t)) 3 .fix):=m.T;have u16:(g16.grd []).guarded p.oT=false:=gd.T;have l16:0+a*1+ [Value.int .i64 (Int.ofNat s.top)].length≤(s.T.map fun t=>Value.int .i64 (Int.ofNat t)).length:=by simp;omega
       refine vreq_t (blt_t h3n) (vreq_t (canW_t T16 (by decide) u16 l16 rfl) ?_);intro g24 g25;have T25:g25.get p.oT=some (.cells ((s.T.set a s.top).map fun t=>Value.int .i64 (Int.ofNat t)) 3 .fix):=by
        have:=wr_get T16 (by decide) u16 l16 rfl;rw[show g25.get p.oT=_ from this,Nat.zero_add,Nat.mul_one,putAt_map (fun t:Nat=>Value.int .i64 (Int.ofNat t)) h3]
       have e25: ∀q,q≠p.oT→g25.get q=h.get q:=fun q hq=>by show Hp.get _ q=_;rw[show g25.get q=_ from wr_get_ne _ _ _ _ hq];rfl
       have n25:g25.nx=h.nx+11:=nx_wr ..;have d25:g25.gd=h.gd:=rfl;have ok25:g25.Ok:=⟨fun q hq=>Nat.lt_of_lt_of_le (ok.gd q hq) (by rw[n25];omega),fun q hq=>by
        rw[n25]at hq;rw[e25 q (by omega)];exact ok.fr q (by omega)⟩
       have A25:AccI 3 g25 p.B ao no co (s.ord.map Int.ofNat):=m.A.keep (fun o ho ha=>e25 o fun hh=>m.ne (o:=o) (off:=0) (by omega) ha) (by omega);have M25:=(e25 p.M (by omega)).trans m.M;have D25:=(e25 p.oW (Ne.symm Ptw)).trans m.D;refine⟨_,_,_,read1 M25 (i:=3) rfl,?_⟩;intro g29;refine appI2 AppT22 A25 (by omega) gd.lt (by simp;omega) fun a30 n31 c32 h33 A33 k33 kB new=> ?_;have n33:=k33.nx;have d33:h33.gd=h.gd:=k33.gd;have gd33:Gd p h33:=gd.of d33;have M33:=(kB.get p.M PB).trans M25;have l33:0+3+ [Value.slice a30 n31 c32].length≤ [Value.slice p.aw p.nw p.cw,.int .i64 (Int.ofNat p.fr),.slice (some ⟨p.oT,0,none⟩) p.n p.n,.slice ao no co,.slice (some ⟨p.oW,0,none⟩) p.n p.n,.int .i64 (Int.ofNat s.top)].length:=by show 4≤6;decide
       refine vreq_t (canW_t M33 (by decide) gd33.M l33 rfl) ?_;intro g34 g35;have M35:g35.get p.M=some (.cells [.slice p.aw p.nw p.cw,.int .i64 (Int.ofNat p.fr),.slice (some ⟨p.oT,0,none⟩) p.n p.n,.slice a30 n31 c32,.slice (some ⟨p.oW,0,none⟩) p.n p.n,.int .i64 (Int.ofNat s.top)] 113 .fix):=wr_get M33 (by decide) gd33.M l33 rfl;have e35: ∀q,q≠p.M→g35.get q=h33.get q:=fun q hq=>wr_get_ne _ _ _ _ hq;have n35:g35.nx=h33.nx+36:=by show(Hp.wr _ _ _ _).nx+36=_;rw[nx_wr]
       have d35:g35.gd=h.gd:=by show(Hp.wr _ _ _ _).gd=_;rw[gd_wr];exact d33
       have T35:g35.get p.oT=_:=(e35 _ (by omega)).trans ((kB.get _ (by omega)).trans T25);have D35:g35.get p.oW=_:=(e35 _ (by omega)).trans ((kB.get _ (by omega)).trans D25);have ok35:g35.Ok:=((ok25.kp kB).wr _ _ _).rsv _;refine⟨_,read1 M35 (i:=5) rfl,_,_,_,read1 M35 (i:=4) rfl,_,read1 M35 (i:=5) rfl,_,_,_,slice_fix (by omega) Pn,_,_,_,read1 M35 (i:=0) rfl,_,_,_,read1 M35 (i:=0) rfl,isNat_i ?_⟩;have kg35:Ft g g35:=⟨fun o ho=>(e35 o (by omega)).trans ((kB.get o (by omega)).trans ((e25 o (by omega)).trans (k.get o ho))),by have:=k.nx;omega⟩;haveI:Ft g g35:=kg35;have hk:=k.nx;refine P.HW.at_.rd (k:=a) h5 ?_;have okg:(g35.grd (p.M::(blocksOf (.slice (some ⟨p.oW,0,none⟩) p.n p.n)++(p.M::(p.M::(p.M::[])))))).Ok:=ok35.grd fun q hq=>by
        simp only[blocksOf,List.mem_cons,List.mem_append,List.not_mem_nil,or_false]at hq;omega
       refine ct86 hO okg (P.r _ (List.getElem_mem h5)) fun h56 k56=> ?_;intro g57;rw[←gWa,hsz];have n56:g35.nx≤h56.nx:=k56.nx;have e57: ∀q,q<g35.nx→g57.get q=g35.get q:=fun q hq=>k56.get q hq;have d57:g57.gd=h.gd:=d35;have ok57:g57.Ok:=⟨fun q hq=>Nat.lt_of_lt_of_le (ok35.gd q hq) n56,k56.fr okg.fr⟩;have w1:wrapF .i64 (Int.ofNat a+1)=Int.ofNat (a+1):=wrap_succ (by have:=P.l;omega);have w2:wrapF .i64 (Int.ofNat (a+1)+Int.ofNat sz)=Int.ofNat (a+1+sz):=by
        rw[wrap64 (by simp;omega) (by have:=P.l;simp;omega)];simp
       rw[w1,w2];have kg57:Ft g g57:=⟨fun o ho=>(e57 o (by omega)).trans (kg35.get o ho),by show g.nx≤h56.nx;omega⟩;haveI:Ft g g57:=kg57;obtain⟨a',c',es,sp⟩:=(P.HW.to g57).part (l:=a) (r:=a+1+sz) (by omega) h8 (lo:=some (.int .i64 (Int.ofNat a))) (hi:=some (.int .i64 (Int.ofNat (a+1+sz)))) (fun vis hv=>bounds_lh (by omega) (by have:=P.HW.at_.1;omega));refine⟨_,_,_,es,?_⟩;have D57:(g57.grd [p.M]).get p.oW=_:=(e57 _ (by omega)).trans D35;have u57:(g57.grd [p.M]).guarded p.oW=false:=by
        have:=(gd.of d57).W;unfold Hp.guarded at this ⊢;show(p.M::g57.gd).any _=false;rw[List.any_cons,this,Bool.or_false,Bool.eq_false_iff];intro hh;have:=Nat.eq_of_beq_eq_true hh;omega
       have X57:IntsAt (g57.grd [p.M]) a' (a+1+sz-a) ((W.drop a).take (a+1+sz-a)):=sp.at_.keep (fun _ _ _=>rfl) (Nat.le_refl _) (fun _ _ h=>h);obtain⟨h62,ec,D62,e62,n62,d62,f62⟩:=copy_ints (c1:=p.n-s.top) (c2:=c') D57 (by decide) u57 (off:=s.top) (n:=p.n-s.top) (by omega) X57;have hmin:Nat.min (a+1+sz-a) (p.n-s.top)=1+sz:=by
        show min _ _=_;omega
       rw[hmin]at ec D62;have hch:((W.drop a).take (a+1+sz-a)).take (1+sz)=chunkW W a:=by
        unfold chunkW;rw[tsz,List.take_take];congr 1;omega
       rw[hch]at D62;refine⟨_,_,ec,?_⟩;intro g63;have M63:(g63.grd []).get p.M=_:=(e62 _ (by omega)).trans ((e57 _ (by omega)).trans M35);have d63:g63.gd=h.gd:=d57;have gd63:Gd p (g63.grd []):=gd.of d63;have l63:0+5+ [Value.int .i64 (wrapF .i64 (Int.ofNat s.top+Int.ofNat (1+sz)))].length≤ [Value.slice p.aw p.nw p.cw,.int .i64 (Int.ofNat p.fr),.slice (some ⟨p.oT,0,none⟩) p.n p.n,.slice a30 n31 c32,.slice (some ⟨p.oW,0,none⟩) p.n p.n,.int .i64 (Int.ofNat s.top)].length:=by show 6≤6;decide
       refine vreq_t (canW_t M63 (by decide) gd63.M l63 rfl) ?_;intro g64 g65;have w3:wrapF .i64 (Int.ofNat s.top+Int.ofNat (1+sz))=Int.ofNat (s.top+1+sz):=by
        rw[wrap64 (by simp;omega) (by simp;omega)];simp;omega
       have M65:g65.get p.M=some (.cells [.slice p.aw p.nw p.cw,.int .i64 (Int.ofNat p.fr),.slice (some ⟨p.oT,0,none⟩) p.n p.n,.slice a30 n31 c32,.slice (some ⟨p.oW,0,none⟩) p.n p.n,.int .i64 (Int.ofNat (s.top+1+sz))] 113 .fix):=by
        have:=wr_get M63 (by decide) gd63.M l63 rfl;rw[show g65.get p.M=_ from this,w3];rfl
       have e65: ∀q,q≠p.M→g65.get q=h62.get q:=fun q hq=>wr_get_ne _ _ _ _ hq;have n65:g65.nx=h56.nx:=by show(Hp.wr _ _ _ _).nx=_;rw[nx_wr];exact n62
       have d65:g65.gd=h.gd:=d63;have T65:g65.get p.oT=_:=(e65 _ (by omega)).trans ((e62 _ Ptw).trans ((e57 _ (by omega)).trans T35));have D65:g65.get p.oW=_:=(e65 _ (by omega)).trans D62;have e65h: ∀q,q<h33.nx→q≠p.M→q≠p.oW→g65.get q=h33.get q:=fun q hq h1 h2=>(e65 q h1).trans ((e62 q h2).trans ((e57 q (by omega)).trans (e35 q h1)));have f65:h.Fresh→g65.Fresh:=fun f q hq=>by
        rw[n65]at hq;rw[e65 q (by omega),e62 q (by omega)];exact ok57.fr q hq
       have A65:AccI 3 g65 p.B a30 n31 c32 ((s.ord++[a]).map Int.ofNat):=by
        rw[List.map_append];exact A33.keep (fun o ho ha=>by
         have:=A33.fresh ha;exact e65h o ho (by omega) (by omega)) (by omega)
       have m':MvAt p g65 ⟨s.T.set a s.top,s.ord++[a],putAt s.D s.top (chunkW W a),s.top+1+sz⟩ a30 n31 c32:=by
        refine⟨M65,T65,D65,A65,by simpa using hTl,by show(putAt _ _ _).length=_;rw[putAt_length];exact hDl,fun t ht=> ?_,fun x hx=> ?_,by omega⟩
        · rcases List.mem_or_eq_of_mem_set ht with h|rfl
          · exact m.bT t h
          · omega
        · rcases mem_putAt _ _ _ hx with h|h
          · exact m.bD x h
          · exact P.r x (List.mem_of_mem_drop (List.mem_of_mem_take h))
       refine⟨_,_,_,m'.rd (i:=2) rfl,isNat_i ?_⟩;show vreq _ _;refine vreq_t (blt_t h3n) ⟨_,m'.rdT (i:=a) (by simpa using h3),?_,_,_,_,m',?_⟩
       · have:(s.T.set a s.top).getD a 0=s.top:=by simp[List.getD,h3]
         rw[this,dbl64 (n:=p.n) (by omega) Pn]
       · refine⟨fun o ho h1 h2 h3 h4=> ?_,by omega,d65,f65,?_⟩
         · rw[e65h o (by omega) h1 h3];rw[k33.get o (by omega) (h4 0)];exact e25 o h2
         · refine .inr fun b off hb=> ?_;rw[new]at hb;injection hb with hb;injection hb with hb;omega
     · cases hs
 · cases hs
end
set_option linter.unusedVariables false
noncomputable def b145:Code:=(Tryz.f145.body).getD .skip
def lv145:List (Nat×List Nat):=[]
def T145 (O:CallF)(Q:VQ)(x0:Int)(h:Hp):Prop:=
 vcond (!(eqI (Int.tmod x0 2) 0))
 (Q (.int .i64 0) h)
 (Q (.int .i64 (wrapF .i64 (Int.tdiv x0 2))) h)
theorem rk145 {O Q} (x0){h:Hp}(hO:O 145 [.int .i64 x0] h=none)(hh:T145 O Q x0 h):Ret Tryz.prog O 145 [.int .i64 x0] h Q:=
 .of (c:=b145) Tryz.func145 (by kernel_rfl) hO (V_ok (tb:=lv145) (cuts:=[]) 500 (Eq.mp (by kernel_rfl) hh))
noncomputable def b130:Code:=(Tryz.f130.body).getD .skip
noncomputable def stk130_0:List KI:=[.code (sub [1,0,1,0] b130),.blk 0,.code (sub [1,1] b130)]
def lv130:List (Nat×List Nat):=[(0,[0,1,2,6,7])]
def I130_0 (O:CallF)(Q:VQ)(a0:OA)(n0 c0:Nat)(a1:OA)(n1 c1:Nat)(x2:Int)(a0s:OA)(n0s c0s:Nat)(x7:Int)(h:Hp):Prop:=RKL Tryz.prog O Tryz.f130 stk130_0 35 [0,1,2,6,7] [.slice a0s n0s c0s,.slice a1 n1 c1,.int .i64 x2,.slice none 0 0,.int .i64 x7] h Q
def T130 (O:CallF)(Q:VQ)(a0:OA)(n0 c0:Nat)(a1:OA)(n1 c1:Nat)(x2:Int)(h:Hp):Prop:=
 I130_0 O Q a0 n0 c0 a1 n1 c1 x2 a0 n0 c0 0 h
theorem rk130 {O Q} (a0 n0 c0 a1 n1 c1 x2){h:Hp}(hO:O 130 [.slice a0 n0 c0,.slice a1 n1 c1,.int .i64 x2] h=none)(hh:T130 O Q a0 n0 c0 a1 n1 c1 x2 h):Ret Tryz.prog O 130 [.slice a0 n0 c0,.slice a1 n1 c1,.int .i64 x2] h Q:=
 .of (c:=b130) Tryz.func130 (by kernel_rfl) hO (V_ok (tb:=lv130) (cuts:=[]) 500 (Eq.mp (by kernel_rfl) hh))
def T130_0 (O:CallF)(Q:VQ)(a0:OA)(n0 c0:Nat)(a1:OA)(n1 c1:Nat)(x2:Int)(a0s:OA)(n0s c0s:Nat)(x7:Int)(h:Hp):Prop:=
 vcond (ltI x7 (Int.ofNat n1))
 (isNat x7 fun n101=>
 isAddr a1 fun b102 f103=>
 vreq (Nat.blt n101 n1)
 (∃x104,readAt h b102 (f103+(n101*1)) 1=some [.int .i64 x104]∧
 ∃x105 h106,EvC Tryz.prog O 145 [.int .i64 x104] h (.int .i64 x105) h106∧
 vcond (!(ltI x105 (maxI x2 1)))
 (∃q107 h108,EvC Tryz.prog O 67 [.slice a0s n0s c0s,.int .i64 x105] h106 (.bool q107) h108∧
 vcond (!q107)
 (let g109:=h108.add (.cells [.int .i64 x105] 3 .fix)
 ∃a110 n111 c112 h113,appendV Tryz.prog g109 22 22 (.slice a0s n0s c0s) (.slice (some ⟨h108.nx,0,none⟩) 1 1)=some (.slice a110 n111 c112,h113)∧
 I130_0 O Q a0 n0 c0 a1 n1 c1 x2 a110 n111 c112 (wrapF .i64 (x7+1)) h113)
 (I130_0 O Q a0 n0 c0 a1 n1 c1 x2 a0s n0s c0s (wrapF .i64 (x7+1)) h108))
 (I130_0 O Q a0 n0 c0 a1 n1 c1 x2 a0s n0s c0s (wrapF .i64 (x7+1)) h106)))
 (Q (.slice a0s n0s c0s) h)
theorem I130_0.of {O Q} (a0 n0 c0 a1 n1 c1 x2 a0s n0s c0s x7){h:Hp}(hh:T130_0 O Q a0 n0 c0 a1 n1 c1 x2 a0s n0s c0s x7 h):I130_0 O Q a0 n0 c0 a1 n1 c1 x2 a0s n0s c0s x7 h:=
 RKL.of (tb:=lv130) (cuts:=[]) 500 fun _=>Eq.mp (by kernel_rfl) hh
noncomputable def b68:Code:=(Tryz.f68.body).getD .skip
def lv68:List (Nat×List Nat):=[]
def T68 (O:CallF)(Q:VQ)(a0_0:OA)(n0_0 c0_0:Nat)(x0_1:Int)(a0_2:OA)(n0_2 c0_2:Nat)(x1:Int)(h:Hp):Prop:=
 let g1:=h.add (.cells (v24 a0_0 n0_0 c0_0 x0_1 a0_2 n0_2 c0_2) 24 .fix)
 ∃a2 n3 c4,readAt g1 h.nx 0 1=some [.slice a2 n3 c4]∧
 isNat x1 fun n5=>
 isAddr a2 fun b6 f7=>
 vreq (Nat.blt n5 n3)
 (∃x8,readAt g1 b6 (f7+(n5*1)) 1=some [.int .i64 x8]∧
 ∃x9 h10,EvC Tryz.prog O 90 [.int .i64 x8] g1 (.int .i64 x9) h10∧
 vcond (eqI x9 1)
 (∃a11 n12 c13 x14 a15 n16 c17,readAt h10 h.nx 0 3=some (v24 a11 n12 c13 x14 a15 n16 c17)∧
 ∃a18 n19 c20 h21,EvC Tryz.prog O 122 [.agg (w24 a11 n12 c13 x14 a15 n16 c17),.int .i64 x1] h10 (.slice a18 n19 c20) h21∧
 Q (.slice a18 n19 c20) h21)
 (vcond (eqI x9 2)
 (∃a22 n23 c24 x25 a26 n27 c28,readAt h10 h.nx 0 3=some (v24 a22 n23 c24 x25 a26 n27 c28)∧
 ∃a29 n30 c31 h32,EvC Tryz.prog O 122 [.agg (w24 a22 n23 c24 x25 a26 n27 c28),.int .i64 x1] h10 (.slice a29 n30 c31) h32∧
 Q (.slice a29 n30 c31) h32)
 (Q (.slice none 0 0) h10)))
theorem rk68 {O Q} (a0_0 n0_0 c0_0 x0_1 a0_2 n0_2 c0_2 x1){h:Hp}(hO:O 68 [.agg (w24 a0_0 n0_0 c0_0 x0_1 a0_2 n0_2 c0_2),.int .i64 x1] h=none)(hh:T68 O Q a0_0 n0_0 c0_0 x0_1 a0_2 n0_2 c0_2 x1 h):Ret Tryz.prog O 68 [.agg (w24 a0_0 n0_0 c0_0 x0_1 a0_2 n0_2 c0_2),.int .i64 x1] h Q:=
 .of (c:=b68) Tryz.func68 (by kernel_rfl) hO (V_ok (tb:=lv68) (cuts:=[]) 500 (Eq.mp (by kernel_rfl) hh))
noncomputable def b70:Code:=(Tryz.f70.body).getD .skip
noncomputable def stk70_0:List KI:=[.code (sub [1,1,0,1,0] b70),.blk 0,.code (sub [1,1,1] b70)]
def lv70:List (Nat×List Nat):=[(0,[2,3,6,7,8])]
def I70_0 (O:CallF)(Q:VQ)(a0_0:OA)(n0_0 c0_0:Nat)(x0_1:Int)(a0_2:OA)(n0_2 c0_2:Nat)(a1:OA)(n1 c1:Nat)(x2:Int)(b3 f3:Nat)(a7:OA)(n7 c7:Nat)(x8:Int)(h:Hp):Prop:=RKL Tryz.prog O Tryz.f70 stk70_0 28 [2,3,6,7,8] [.int .i64 x2,.pointer (some ⟨b3,f3,none⟩),.slice none 0 0,.slice a7 n7 c7,.int .i64 x8] h Q
def T70 (O:CallF)(Q:VQ)(a0_0:OA)(n0_0 c0_0:Nat)(x0_1:Int)(a0_2:OA)(n0_2 c0_2:Nat)(a1:OA)(n1 c1:Nat)(x2:Int)(h:Hp):Prop:=
 let g1:=h.add (.cells (v24 a0_0 n0_0 c0_0 x0_1 a0_2 n0_2 c0_2) 24 .fix)
 ∃a2 n3 c4 h5,EvC Tryz.prog O 130 [.slice none 0 0,.slice a1 n1 c1,.int .i64 x2] g1 (.slice a2 n3 c4) h5∧
 I70_0 O Q a0_0 n0_0 c0_0 x0_1 a0_2 n0_2 c0_2 a1 n1 c1 x2 h.nx 0 a2 n3 c4 0 h5
theorem rk70 {O Q} (a0_0 n0_0 c0_0 x0_1 a0_2 n0_2 c0_2 a1 n1 c1 x2){h:Hp}(hO:O 70 [.agg (w24 a0_0 n0_0 c0_0 x0_1 a0_2 n0_2 c0_2),.slice a1 n1 c1,.int .i64 x2] h=none)(hh:T70 O Q a0_0 n0_0 c0_0 x0_1 a0_2 n0_2 c0_2 a1 n1 c1 x2 h):Ret Tryz.prog O 70 [.agg (w24 a0_0 n0_0 c0_0 x0_1 a0_2 n0_2 c0_2),.slice a1 n1 c1,.int .i64 x2] h Q:=
 .of (c:=b70) Tryz.func70 (by kernel_rfl) hO (V_ok (tb:=lv70) (cuts:=[]) 500 (Eq.mp (by kernel_rfl) hh))
def T70_0 (O:CallF)(Q:VQ)(a0_0:OA)(n0_0 c0_0:Nat)(x0_1:Int)(a0_2:OA)(n0_2 c0_2:Nat)(a1:OA)(n1 c1:Nat)(x2:Int)(b3 f3:Nat)(a7:OA)(n7 c7:Nat)(x8:Int)(h:Hp):Prop:=
 vcond (ltI x8 (Int.ofNat n7))
 (let g101:=h.rsv 10
 ∃a102 n103 c104 x105 a106 n107 c108,readAt g101 b3 f3 3=some (v24 a102 n103 c104 x105 a106 n107 c108)∧
 isNat x8 fun n109=>
 isAddr a7 fun b110 f111=>
 vreq (Nat.blt n109 n7)
 (∃x112,readAt g101 b110 (f111+(n109*1)) 1=some [.int .i64 x112]∧
 ∃a113 n114 c115 h116,EvC Tryz.prog O 68 [.agg (w24 a102 n103 c104 x105 a106 n107 c108),.int .i64 x112] (g101.grd []) (.slice a113 n114 c115) h116∧
 let g117:=h116.rst g101
 ∃a118 n119 c120 h121,EvC Tryz.prog O 130 [.slice a7 n7 c7,.slice a113 n114 c115,.int .i64 x2] (g117.grd []) (.slice a118 n119 c120) h121∧
 let g122:=h121.rst g117
 I70_0 O Q a0_0 n0_0 c0_0 x0_1 a0_2 n0_2 c0_2 a1 n1 c1 x2 b3 f3 a118 n119 c120 (wrapF .i64 (x8+1)) g122))
 (Q (.slice a7 n7 c7) h)
theorem I70_0.of {O Q} (a0_0 n0_0 c0_0 x0_1 a0_2 n0_2 c0_2 a1 n1 c1 x2 b3 f3 a7 n7 c7 x8){h:Hp}(hh:T70_0 O Q a0_0 n0_0 c0_0 x0_1 a0_2 n0_2 c0_2 a1 n1 c1 x2 b3 f3 a7 n7 c7 x8 h):I70_0 O Q a0_0 n0_0 c0_0 x0_1 a0_2 n0_2 c0_2 a1 n1 c1 x2 b3 f3 a7 n7 c7 x8 h:=
 RKL.of (tb:=lv70) (cuts:=[]) 500 fun _=>Eq.mp (by kernel_rfl) hh
noncomputable def b72:Code:=(Tryz.f72.body).getD .skip
noncomputable def stk72_0:List KI:=[.code (sub [1,1,0,1,0] b72),.blk 0,.code (sub [1,1,1] b72)]
def lv72:List (Nat×List Nat):=[(0,[1,2,3,6,7,8,9])]
def I72_0 (O:CallF)(Q:VQ)(a0_0:OA)(n0_0 c0_0:Nat)(x0_1:Int)(a0_2:OA)(n0_2 c0_2:Nat)(a1:OA)(n1 c1:Nat)(x2 x2s:Int)(b3 f3:Nat)(a8:OA)(n8 c8:Nat)(x9:Int)(h:Hp):Prop:=RKL Tryz.prog O Tryz.f72 stk72_0 34 [1,2,3,6,7,8,9] [.slice a1 n1 c1,.int .i64 x2s,.pointer (some ⟨b3,f3,none⟩),.slice none 0 0,.int .i64 0,.slice a8 n8 c8,.int .i64 x9] h Q
def T72 (O:CallF)(Q:VQ)(a0_0:OA)(n0_0 c0_0:Nat)(x0_1:Int)(a0_2:OA)(n0_2 c0_2:Nat)(a1:OA)(n1 c1:Nat)(x2:Int)(h:Hp):Prop:=
 let g1:=h.add (.cells (v24 a0_0 n0_0 c0_0 x0_1 a0_2 n0_2 c0_2) 24 .fix)
 I72_0 O Q a0_0 n0_0 c0_0 x0_1 a0_2 n0_2 c0_2 a1 n1 c1 x2 x2 h.nx 0 none 0 0 0 g1
theorem rk72 {O Q} (a0_0 n0_0 c0_0 x0_1 a0_2 n0_2 c0_2 a1 n1 c1 x2){h:Hp}(hO:O 72 [.agg (w24 a0_0 n0_0 c0_0 x0_1 a0_2 n0_2 c0_2),.slice a1 n1 c1,.int .i64 x2] h=none)(hh:T72 O Q a0_0 n0_0 c0_0 x0_1 a0_2 n0_2 c0_2 a1 n1 c1 x2 h):Ret Tryz.prog O 72 [.agg (w24 a0_0 n0_0 c0_0 x0_1 a0_2 n0_2 c0_2),.slice a1 n1 c1,.int .i64 x2] h Q:=
 .of (c:=b72) Tryz.func72 (by kernel_rfl) hO (V_ok (tb:=lv72) (cuts:=[]) 500 (Eq.mp (by kernel_rfl) hh))
def T72_0 (O:CallF)(Q:VQ)(a0_0:OA)(n0_0 c0_0:Nat)(x0_1:Int)(a0_2:OA)(n0_2 c0_2:Nat)(a1:OA)(n1 c1:Nat)(x2 x2s:Int)(b3 f3:Nat)(a8:OA)(n8 c8:Nat)(x9:Int)(h:Hp):Prop:=
 vcond (ltI x9 (Int.ofNat n1))
 (let g101:=h.add (.cells [.int .i64 x2s] 3 .fix)
 ∃a102 n103 c104 h105,appendV Tryz.prog g101 22 22 (.slice a8 n8 c8) (.slice (some ⟨h.nx,0,none⟩) 1 1)=some (.slice a102 n103 c104,h105)∧
 let g106:=h105.rsv 13
 ∃a107 n108 c109,readAt g106 b3 (f3+0) 1=some [.slice a107 n108 c109]∧
 isNat x9 fun n110=>
 isAddr a1 fun b111 f112=>
 vreq (Nat.blt n110 n1)
 (∃x113,readAt g106 b111 (f112+(n110*1)) 1=some [.int .i64 x113]∧
 isNat x113 fun n114=>
 isAddr a107 fun b115 f116=>
 vreq (Nat.blt n114 n108)
 (∃x117,readAt g106 b115 (f116+(n114*1)) 1=some [.int .i64 x117]∧
 ∃x118 h119,EvC Tryz.prog O 127 [.int .i64 x117] (g106.grd []) (.int .i64 x118) h119∧
 let g120:=h119.rst g106
 I72_0 O Q a0_0 n0_0 c0_0 x0_1 a0_2 n0_2 c0_2 a1 n1 c1 x2 (wrapF .i64 ((wrapF .i64 (x2s+1))+x118)) b3 f3 a102 n103 c104 (wrapF .i64 (x9+1)) g120)))
 (Q (.tuple #[.slice a8 n8 c8,.int .i64 x2s]) h)
theorem I72_0.of {O Q} (a0_0 n0_0 c0_0 x0_1 a0_2 n0_2 c0_2 a1 n1 c1 x2 x2s b3 f3 a8 n8 c8 x9){h:Hp}(hh:T72_0 O Q a0_0 n0_0 c0_0 x0_1 a0_2 n0_2 c0_2 a1 n1 c1 x2 x2s b3 f3 a8 n8 c8 x9 h):I72_0 O Q a0_0 n0_0 c0_0 x0_1 a0_2 n0_2 c0_2 a1 n1 c1 x2 x2s b3 f3 a8 n8 c8 x9 h:=
 RKL.of (tb:=lv72) (cuts:=[]) 500 fun _=>Eq.mp (by kernel_rfl) hh
noncomputable def b129:Code:=(Tryz.f129.body).getD .skip
noncomputable def stk129_0:List KI:=[.code (sub [1,1,1,0,1,0] b129),.blk 0,.code (sub [1,1,1,1] b129)]
def lv129:List (Nat×List Nat):=[(0,[1,2,8,9,10])]
def I129_0 (O:CallF)(Q:VQ)(x0:Int)(a1:OA)(n1 c1:Nat)(a2:OA)(n2 c2:Nat)(x3 x8 x9 x10:Int)(h:Hp):Prop:=RKL Tryz.prog O Tryz.f129 stk129_0 38 [1,2,8,9,10] [.slice a1 n1 c1,.slice a2 n2 c2,.int .i64 x8,.int .i64 x9,.int .i64 x10] h Q
def T129 (O:CallF)(Q:VQ)(x0:Int)(a1:OA)(n1 c1:Nat)(a2:OA)(n2 c2:Nat)(x3:Int)(h:Hp):Prop:=
 ∃x1 h2,EvC Tryz.prog O 145 [.int .i64 x0] h (.int .i64 x1) h2∧
 vcond (eqI x1 0)
 (Q (.int .i64 x0) h2)
 (vcond (ltI x1 x3)
 (Q (.int .i64 x0) h2)
 (I129_0 O Q x0 a1 n1 c1 a2 n2 c2 x3 0 x1 0 h2))
theorem rk129 {O Q} (x0 a1 n1 c1 a2 n2 c2 x3){h:Hp}(hO:O 129 [.int .i64 x0,.slice a1 n1 c1,.slice a2 n2 c2,.int .i64 x3] h=none)(hh:T129 O Q x0 a1 n1 c1 a2 n2 c2 x3 h):Ret Tryz.prog O 129 [.int .i64 x0,.slice a1 n1 c1,.slice a2 n2 c2,.int .i64 x3] h Q:=
 .of (c:=b129) Tryz.func129 (by kernel_rfl) hO (V_ok (tb:=lv129) (cuts:=[]) 500 (Eq.mp (by kernel_rfl) hh))
def T129_0 (O:CallF)(Q:VQ)(x0:Int)(a1:OA)(n1 c1:Nat)(a2:OA)(n2 c2:Nat)(x3 x8 x9 x10:Int)(h:Hp):Prop:=
 vcond (ltI x10 (Int.ofNat n1))
 (isNat x10 fun n101=>
 isAddr a1 fun b102 f103=>
 vreq (Nat.blt n101 n1)
 (∃x104,readAt h b102 (f103+(n101*1)) 1=some [.int .i64 x104]∧
 vcond (eqI x104 x9)
 (isNat x10 fun n105=>
 isAddr a2 fun b106 f107=>
 vreq (Nat.blt n105 n2)
 (∃x108,readAt h b106 (f107+(n105*1)) 1=some [.int .i64 x108]∧
 Q (.int .i64 (wrapF .i64 (2*x108))) h))
 (I129_0 O Q x0 a1 n1 c1 a2 n2 c2 x3 x8 x9 (wrapF .i64 (x10+1)) h)))
 (Q (.int .i64 0) h)
theorem I129_0.of {O Q} (x0 a1 n1 c1 a2 n2 c2 x3 x8 x9 x10){h:Hp}(hh:T129_0 O Q x0 a1 n1 c1 a2 n2 c2 x3 x8 x9 x10 h):I129_0 O Q x0 a1 n1 c1 a2 n2 c2 x3 x8 x9 x10 h:=
 RKL.of (tb:=lv129) (cuts:=[]) 500 fun _=>Eq.mp (by kernel_rfl) hh
noncomputable def b128:Code:=(Tryz.f128.body).getD .skip
noncomputable def stk128_0:List KI:=[.code (sub [1,1,1,1,1,0] b128),.blk 0]
def lv128:List (Nat×List Nat):=[(0,[0,1,4,5,6,14,15,16])]
def I128_0 (O:CallF)(Q:VQ)(a0:OA)(n0 c0:Nat)(x1:Int)(a2_0:OA)(n2_0 c2_0:Nat)(x2_1:Int)(a2_2:OA)(n2_2 c2_2:Nat)(x3:Int)(a4:OA)(n4 c4:Nat)(a5:OA)(n5 c5:Nat)(x6 x14:Int)(a15:OA)(n15 c15:Nat)(x16:Int)(h:Hp):Prop:=RKL Tryz.prog O Tryz.f128 stk128_0 70 [0,1,4,5,6,14,15,16] [.slice a0 n0 c0,.int .i64 x1,.slice a4 n4 c4,.slice a5 n5 c5,.int .i64 x6,.int .i64 x14,.slice a15 n15 c15,.int .i64 x16] h Q
def T128 (O:CallF)(Q:VQ)(a0:OA)(n0 c0:Nat)(x1:Int)(a2_0:OA)(n2_0 c2_0:Nat)(x2_1:Int)(a2_2:OA)(n2_2 c2_2:Nat)(x3:Int)(a4:OA)(n4 c4:Nat)(a5:OA)(n5 c5:Nat)(x6:Int)(h:Hp):Prop:=
 let g1:=h.add (.cells (v24 a2_0 n2_0 c2_0 x2_1 a2_2 n2_2 c2_2) 24 .fix)
 ∃a2 n3 c4',readAt g1 h.nx 0 1=some [.slice a2 n3 c4']∧
 isNat x3 fun n5'=>
 isAddr a2 fun b6 f7=>
 vreq (Nat.blt n5' n3)
 (∃x8,readAt g1 b6 (f7+(n5'*1)) 1=some [.int .i64 x8]∧
 isNat x1 fun n9=>
 isAddr a0 fun b10 f11=>
 vreq (Nat.blt n9 n0)
 (vreq (canW g1 b10 (f11+(n9*1)) [.int .i64 x8])
 (let g12:=g1.wr b10 (f11+(n9*1)) [.int .i64 x8]
 ∃a13 n14 c15,readAt g12 h.nx 0 1=some [.slice a13 n14 c15]∧
 isNat x3 fun n16=>
 isAddr a13 fun b17 f18=>
 vreq (Nat.blt n16 n14)
 (∃x19,readAt g12 b17 (f18+(n16*1)) 1=some [.int .i64 x19]∧
 ∃x20 h21,EvC Tryz.prog O 90 [.int .i64 x19] g12 (.int .i64 x20) h21∧
 ∃a22 n23 c24 x25 a26 n27 c28,readAt h21 h.nx 0 3=some (v24 a22 n23 c24 x25 a26 n27 c28)∧
 ∃a29 n30 c31 h32,EvC Tryz.prog O 122 [.agg (w24 a22 n23 c24 x25 a26 n27 c28),.int .i64 x3] h21 (.slice a29 n30 c31) h32∧
 I128_0 O Q a0 n0 c0 x1 a2_0 n2_0 c2_0 x2_1 a2_2 n2_2 c2_2 x3 a4 n4 c4 a5 n5 c5 x6 x20 a29 n30 c31 0 h32))))
theorem rk128 {O Q} (a0 n0 c0 x1 a2_0 n2_0 c2_0 x2_1 a2_2 n2_2 c2_2 x3 a4 n4 c4 a5 n5 c5 x6){h:Hp}(hO:O 128 [.slice a0 n0 c0,.int .i64 x1,.agg (w24 a2_0 n2_0 c2_0 x2_1 a2_2 n2_2 c2_2),.int .i64 x3,.slice a4 n4 c4,.slice a5 n5 c5,.int .i64 x6] h=none)(hh:T128 O Q a0 n0 c0 x1 a2_0 n2_0 c2_0 x2_1 a2_2 n2_2 c2_2 x3 a4 n4 c4 a5 n5 c5 x6 h):Ret Tryz.prog O 128 [.slice a0 n0 c0,.int .i64 x1,.agg (w24 a2_0 n2_0 c2_0 x2_1 a2_2 n2_2 c2_2),.int .i64 x3,.slice a4 n4 c4,.slice a5 n5 c5,.int .i64 x6] h Q:=
 .of (c:=b128) Tryz.func128 (by kernel_rfl) hO (V_ok (tb:=lv128) (cuts:=[]) 500 (Eq.mp (by kernel_rfl) hh))
def T128_0 (O:CallF)(Q:VQ)(a0:OA)(n0 c0:Nat)(x1:Int)(a2_0:OA)(n2_0 c2_0:Nat)(x2_1:Int)(a2_2:OA)(n2_2 c2_2:Nat)(x3:Int)(a4:OA)(n4 c4:Nat)(a5:OA)(n5 c5:Nat)(x6 x14:Int)(a15:OA)(n15 c15:Nat)(x16:Int)(h:Hp):Prop:=
 vcond (ltI x16 (Int.ofNat n15))
 (isNat x16 fun n101=>
 isAddr a15 fun b102 f103=>
 vreq (Nat.blt n101 n15)
 (∃x104,readAt h b102 (f103+(n101*1)) 1=some [.int .i64 x104]∧
 isNat (wrapF .i64 ((wrapF .i64 (x1+1))+x16)) fun n105=>
 isAddr a0 fun b106 f107=>
 vreq (Nat.blt n105 n0)
 (vreq (canW h b106 (f107+(n105*1)) [.int .i64 x104])
 (let g108:=h.wr b106 (f107+(n105*1)) [.int .i64 x104]
 vcond (!(eqI x14 3))
 (vcond (!(eqI x14 4))
 (isNat x16 fun n109=>
 isAddr a15 fun b110 f111=>
 vreq (Nat.blt n109 n15)
 (∃x112,readAt g108 b110 (f111+(n109*1)) 1=some [.int .i64 x112]∧
 ∃x113 h114,EvC Tryz.prog O 129 [.int .i64 x112,.slice a4 n4 c4,.slice a5 n5 c5,.int .i64 x6] g108 (.int .i64 x113) h114∧
 isNat (wrapF .i64 ((wrapF .i64 (x1+1))+x16)) fun n115=>
 isAddr a0 fun b116 f117=>
 vreq (Nat.blt n115 n0)
 (vreq (canW h114 b116 (f117+(n115*1)) [.int .i64 x113])
 (let g118:=h114.wr b116 (f117+(n115*1)) [.int .i64 x113]
 I128_0 O Q a0 n0 c0 x1 a2_0 n2_0 c2_0 x2_1 a2_2 n2_2 c2_2 x3 a4 n4 c4 a5 n5 c5 x6 x14 a15 n15 c15 (wrapF .i64 (x16+1)) g118))))
 (I128_0 O Q a0 n0 c0 x1 a2_0 n2_0 c2_0 x2_1 a2_2 n2_2 c2_2 x3 a4 n4 c4 a5 n5 c5 x6 x14 a15 n15 c15 (wrapF .i64 (x16+1)) g108))
 (I128_0 O Q a0 n0 c0 x1 a2_0 n2_0 c2_0 x2_1 a2_2 n2_2 c2_2 x3 a4 n4 c4 a5 n5 c5 x6 x14 a15 n15 c15 (wrapF .i64 (x16+1)) g108)))))
 (Q undef h)
theorem I128_0.of {O Q} (a0 n0 c0 x1 a2_0 n2_0 c2_0 x2_1 a2_2 n2_2 c2_2 x3 a4 n4 c4 a5 n5 c5 x6 x14 a15 n15 c15 x16){h:Hp}(hh:T128_0 O Q a0 n0 c0 x1 a2_0 n2_0 c2_0 x2_1 a2_2 n2_2 c2_2 x3 a4 n4 c4 a5 n5 c5 x6 x14 a15 n15 c15 x16 h):I128_0 O Q a0 n0 c0 x1 a2_0 n2_0 c2_0 x2_1 a2_2 n2_2 c2_2 x3 a4 n4 c4 a5 n5 c5 x6 x14 a15 n15 c15 x16 h:=
 RKL.of (tb:=lv128) (cuts:=[]) 500 fun _=>Eq.mp (by kernel_rfl) hh
noncomputable def b69:Code:=(Tryz.f69.body).getD .skip
noncomputable def stk69_0:List KI:=[.code (sub [1,1,1,1,0,1,0] b69),.blk 0,.code (sub [1,1,1,1,1] b69)]
noncomputable def stk69_1:List KI:=[.code (sub [1,1,1,1,1,0,1,0] b69),.blk 2,.code (sub [1,1,1,1,1,1] b69)]
noncomputable def stk69_2:List KI:=[.code (sub [1,1,1,1,1,1,0,1,0] b69),.blk 4,.code (sub [1,1,1,1,1,1,1] b69)]
def lv69:List (Nat×List Nat):=[(0,[1,2,3,6,7,9,10,12]),(2,[1,2,3,6,7,9,13]),(4,[1,2,3,6,7,9,14])]
def I69_0 (O:CallF)(Q:VQ)(a0_0:OA)(n0_0 c0_0:Nat)(x0_1:Int)(a0_2:OA)(n0_2 c0_2:Nat)(a1:OA)(n1 c1:Nat)(x2:Int)(b3 f3 b6 f6:Nat)(a7:OA)(n7 c7 b9 f9:Nat)(a10:OA)(n10 c10:Nat)(x12:Int)(h:Hp):Prop:=RKL Tryz.prog O Tryz.f69 stk69_0 105 [1,2,3,6,7,9,10,12] [.slice a1 n1 c1,.int .i64 x2,.pointer (some ⟨b3,f3,none⟩),.pointer (some ⟨b6,f6,none⟩),.slice a7 n7 c7,.pointer (some ⟨b9,f9,none⟩),.slice a10 n10 c10,.int .i64 x12] h Q
def I69_1 (O:CallF)(Q:VQ)(a0_0:OA)(n0_0 c0_0:Nat)(x0_1:Int)(a0_2:OA)(n0_2 c0_2:Nat)(a1:OA)(n1 c1:Nat)(x2:Int)(b3 f3 b6 f6:Nat)(a7:OA)(n7 c7 b9 f9:Nat)(x13:Int)(h:Hp):Prop:=RKL Tryz.prog O Tryz.f69 stk69_1 105 [1,2,3,6,7,9,13] [.slice a1 n1 c1,.int .i64 x2,.pointer (some ⟨b3,f3,none⟩),.pointer (some ⟨b6,f6,none⟩),.slice a7 n7 c7,.pointer (some ⟨b9,f9,none⟩),.int .i64 x13] h Q
def I69_2 (O:CallF)(Q:VQ)(a0_0:OA)(n0_0 c0_0:Nat)(x0_1:Int)(a0_2:OA)(n0_2 c0_2:Nat)(a1:OA)(n1 c1:Nat)(x2:Int)(b3 f3 b6 f6:Nat)(a7:OA)(n7 c7 b9 f9:Nat)(x14:Int)(h:Hp):Prop:=RKL Tryz.prog O Tryz.f69 stk69_2 105 [1,2,3,6,7,9,14] [.slice a1 n1 c1,.int .i64 x2,.pointer (some ⟨b3,f3,none⟩),.pointer (some ⟨b6,f6,none⟩),.slice a7 n7 c7,.pointer (some ⟨b9,f9,none⟩),.int .i64 x14] h Q
def T69 (O:CallF)(Q:VQ)(a0_0:OA)(n0_0 c0_0:Nat)(x0_1:Int)(a0_2:OA)(n0_2 c0_2:Nat)(a1:OA)(n1 c1:Nat)(x2:Int)(h:Hp):Prop:=
 let g1:=h.add (.cells (v24 a0_0 n0_0 c0_0 x0_1 a0_2 n0_2 c0_2) 24 .fix)
 let g2:=g1.add (.cells (v24 none 0 0 0 none 0 0) 24 .fix)
 ∃a3 n4 c5 x6 a7 n8 c9,readAt g2 h.nx 0 3=some (v24 a3 n4 c5 x6 a7 n8 c9)∧
 ∃a10 n11 c12 x13 h14,EvC Tryz.prog O 72 [.agg (w24 a3 n4 c5 x6 a7 n8 c9),.slice a1 n1 c1,.int .i64 x2] g2 (.tuple #[.slice a10 n11 c12,.int .i64 x13]) h14∧
 ∃a15 n16 c17,readAt h14 h.nx 0 1=some [.slice a15 n16 c17]∧
 vreq (Nat.ble n16 n16)
 (vreq (Nat.ble (n16*8) 281474976710656)
 (vreq (Nat.blt n16 big)
 (let g18:=h14.add (.cells (List.flatten (List.replicate n16 [.int .i64 0])) 3 .fix)
 let g19:=g18.add (.cells (v24 none 0 0 0 none 0 0) 24 .fix)
 vreq (canW g19 g18.nx 0 (v24 (some ⟨h14.nx,0,none⟩) n16 n16 x13 none 0 0))
 (let g20:=g19.wr g18.nx 0 (v24 (some ⟨h14.nx,0,none⟩) n16 n16 x13 none 0 0)
 ∃a21 n22 c23 x24 a25 n26 c27,readAt g20 h.nx 0 3=some (v24 a21 n22 c23 x24 a25 n26 c27)∧
 ∃a28 n29 c30 q31 h32,EvC Tryz.prog O 66 [.agg (w24 a21 n22 c23 x24 a25 n26 c27)] g20 (.tuple #[.slice a28 n29 c30,.bool q31]) h32∧
 I69_0 O Q a0_0 n0_0 c0_0 x0_1 a0_2 n0_2 c0_2 a1 n1 c1 x2 h.nx 0 g1.nx 0 a10 n11 c12 g18.nx 0 a28 n29 c30 0 h32))))
theorem rk69 {O Q} (a0_0 n0_0 c0_0 x0_1 a0_2 n0_2 c0_2 a1 n1 c1 x2){h:Hp}(hO:O 69 [.agg (w24 a0_0 n0_0 c0_0 x0_1 a0_2 n0_2 c0_2),.slice a1 n1 c1,.int .i64 x2] h=none)(hh:T69 O Q a0_0 n0_0 c0_0 x0_1 a0_2 n0_2 c0_2 a1 n1 c1 x2 h):Ret Tryz.prog O 69 [.agg (w24 a0_0 n0_0 c0_0 x0_1 a0_2 n0_2 c0_2),.slice a1 n1 c1,.int .i64 x2] h Q:=
 .of (c:=b69) Tryz.func69 (by kernel_rfl) hO (V_ok (tb:=lv69) (cuts:=[]) 500 (Eq.mp (by kernel_rfl) hh))
def T69_0 (O:CallF)(Q:VQ)(a0_0:OA)(n0_0 c0_0:Nat)(x0_1:Int)(a0_2:OA)(n0_2 c0_2:Nat)(a1:OA)(n1 c1:Nat)(x2:Int)(b3 f3 b6 f6:Nat)(a7:OA)(n7 c7 b9 f9:Nat)(a10:OA)(n10 c10:Nat)(x12:Int)(h:Hp):Prop:=
 vcond (ltI x12 (Int.ofNat n10))
 (isNat x12 fun n101=>
 isAddr a10 fun b102 f103=>
 vreq (Nat.blt n101 n10)
 (∃x104,readAt h b102 (f103+(n101*1)) 1=some [.int .i64 x104]∧
 vcond (ltI x104 x2)
 (let g105:=h.rsv 15
 ∃a106 n107 c108,readAt g105 b9 (f9+0) 1=some [.slice a106 n107 c108]∧
 isNat x12 fun n109=>
 isAddr a10 fun b110 f111=>
 vreq (Nat.blt n109 n10)
 (∃x112,readAt g105 b110 (f111+(n109*1)) 1=some [.int .i64 x112]∧
 ∃a113 n114 c115 x116 a117 n118 c119,readAt g105 b3 f3 3=some (v24 a113 n114 c115 x116 a117 n118 c119)∧
 isNat x12 fun n120=>
 isAddr a10 fun b121 f122=>
 vreq (Nat.blt n120 n10)
 (∃x123,readAt g105 b121 (f122+(n120*1)) 1=some [.int .i64 x123]∧
 ∃h124,EvC Tryz.prog O 128 [.slice a106 n107 c108,.int .i64 x112,.agg (w24 a113 n114 c115 x116 a117 n118 c119),.int .i64 x123,.slice a1 n1 c1,.slice a7 n7 c7,.int .i64 x2] (g105.grd []) undef h124∧
 let g125:=h124.rst g105
 I69_0 O Q a0_0 n0_0 c0_0 x0_1 a0_2 n0_2 c0_2 a1 n1 c1 x2 b3 f3 b6 f6 a7 n7 c7 b9 f9 a10 n10 c10 (wrapF .i64 (x12+1)) g125)))
 (I69_1 O Q a0_0 n0_0 c0_0 x0_1 a0_2 n0_2 c0_2 a1 n1 c1 x2 b3 f3 b6 f6 a7 n7 c7 b9 f9 0 h)))
 (I69_1 O Q a0_0 n0_0 c0_0 x0_1 a0_2 n0_2 c0_2 a1 n1 c1 x2 b3 f3 b6 f6 a7 n7 c7 b9 f9 0 h)
theorem I69_0.of {O Q} (a0_0 n0_0 c0_0 x0_1 a0_2 n0_2 c0_2 a1 n1 c1 x2 b3 f3 b6 f6 a7 n7 c7 b9 f9 a10 n10 c10 x12){h:Hp}(hh:T69_0 O Q a0_0 n0_0 c0_0 x0_1 a0_2 n0_2 c0_2 a1 n1 c1 x2 b3 f3 b6 f6 a7 n7 c7 b9 f9 a10 n10 c10 x12 h):I69_0 O Q a0_0 n0_0 c0_0 x0_1 a0_2 n0_2 c0_2 a1 n1 c1 x2 b3 f3 b6 f6 a7 n7 c7 b9 f9 a10 n10 c10 x12 h:=
 RKL.of (tb:=lv69) (cuts:=[]) 500 fun _=>Eq.mp (by kernel_rfl) hh
def T69_1 (O:CallF)(Q:VQ)(a0_0:OA)(n0_0 c0_0:Nat)(x0_1:Int)(a0_2:OA)(n0_2 c0_2:Nat)(a1:OA)(n1 c1:Nat)(x2:Int)(b3 f3 b6 f6:Nat)(a7:OA)(n7 c7 b9 f9:Nat)(x13:Int)(h:Hp):Prop:=
 vcond (ltI x13 (Int.ofNat n1))
 (let g201:=h.rsv 15
 ∃a202 n203 c204,readAt g201 b9 (f9+0) 1=some [.slice a202 n203 c204]∧
 isNat x13 fun n205=>
 isAddr a7 fun b206 f207=>
 vreq (Nat.blt n205 n7)
 (∃x208,readAt g201 b206 (f207+(n205*1)) 1=some [.int .i64 x208]∧
 ∃a209 n210 c211 x212 a213 n214 c215,readAt g201 b3 f3 3=some (v24 a209 n210 c211 x212 a213 n214 c215)∧
 isNat x13 fun n216=>
 isAddr a1 fun b217 f218=>
 vreq (Nat.blt n216 n1)
 (∃x219,readAt g201 b217 (f218+(n216*1)) 1=some [.int .i64 x219]∧
 ∃h220,EvC Tryz.prog O 128 [.slice a202 n203 c204,.int .i64 x208,.agg (w24 a209 n210 c211 x212 a213 n214 c215),.int .i64 x219,.slice a1 n1 c1,.slice a7 n7 c7,.int .i64 x2] (g201.grd []) undef h220∧
 let g221:=h220.rst g201
 I69_1 O Q a0_0 n0_0 c0_0 x0_1 a0_2 n0_2 c0_2 a1 n1 c1 x2 b3 f3 b6 f6 a7 n7 c7 b9 f9 (wrapF .i64 (x13+1)) g221)))
 (I69_2 O Q a0_0 n0_0 c0_0 x0_1 a0_2 n0_2 c0_2 a1 n1 c1 x2 b3 f3 b6 f6 a7 n7 c7 b9 f9 0 h)
theorem I69_1.of {O Q} (a0_0 n0_0 c0_0 x0_1 a0_2 n0_2 c0_2 a1 n1 c1 x2 b3 f3 b6 f6 a7 n7 c7 b9 f9 x13){h:Hp}(hh:T69_1 O Q a0_0 n0_0 c0_0 x0_1 a0_2 n0_2 c0_2 a1 n1 c1 x2 b3 f3 b6 f6 a7 n7 c7 b9 f9 x13 h):I69_1 O Q a0_0 n0_0 c0_0 x0_1 a0_2 n0_2 c0_2 a1 n1 c1 x2 b3 f3 b6 f6 a7 n7 c7 b9 f9 x13 h:=
 RKL.of (tb:=lv69) (cuts:=[]) 500 fun _=>Eq.mp (by kernel_rfl) hh
def T69_2 (O:CallF)(Q:VQ)(a0_0:OA)(n0_0 c0_0:Nat)(x0_1:Int)(a0_2:OA)(n0_2 c0_2:Nat)(a1:OA)(n1 c1:Nat)(x2:Int)(b3 f3 b6 f6:Nat)(a7:OA)(n7 c7 b9 f9:Nat)(x14:Int)(h:Hp):Prop:=
 ∃a301 n302 c303,readAt h b3 (f3+2) 1=some [.slice a301 n302 c303]∧
 vcond (ltI x14 (Int.ofNat n302))
 (let g304:=h.rsv 15
 ∃a305 n306 c307,readAt g304 b9 (f9+2) 1=some [.slice a305 n306 c307]∧
 ∃a308 n309 c310,readAt g304 b3 (f3+2) 1=some [.slice a308 n309 c310]∧
 isNat x14 fun n311=>
 isAddr a308 fun b312 f313=>
 vreq (Nat.blt n311 n309)
 (∃x314,readAt g304 b312 (f313+(n311*1)) 1=some [.int .i64 x314]∧
 ∃x315 h316,EvC Tryz.prog O 129 [.int .i64 x314,.slice a1 n1 c1,.slice a7 n7 c7,.int .i64 x2] (g304.grd [b9]) (.int .i64 x315) h316∧
 let g317:=h316.rst g304
 vreq (g317.free (h.nx+11))
 (let g318:=g317.lay (h.nx+11) (.cells [.int .i64 x315] 3 .fix)
 ∃a319 n320 c321 h322,appendV Tryz.prog (g318.grd []) 22 22 (.slice a305 n306 c307) (.slice (some ⟨(h.nx+11),0,none⟩) 1 1)=some (.slice a319 n320 c321,h322)∧
 let g323:=h322.rst g318
 vreq (canW (g323.grd []) b9 (f9+2) [.slice a319 n320 c321])
 (let g324:=(g323.grd []).wr b9 (f9+2) [.slice a319 n320 c321]
 let g325:=g324.rst g323
 I69_2 O Q a0_0 n0_0 c0_0 x0_1 a0_2 n0_2 c0_2 a1 n1 c1 x2 b3 f3 b6 f6 a7 n7 c7 b9 f9 (wrapF .i64 (x14+1)) g325))))
 (∃a326 n327 c328 x329 a330 n331 c332,readAt h b9 f9 3=some (v24 a326 n327 c328 x329 a330 n331 c332)∧
 vreq (canW h b6 f6 (v24 a326 n327 c328 x329 a330 n331 c332))
 (let g333:=h.wr b6 f6 (v24 a326 n327 c328 x329 a330 n331 c332)
 ∃a334 n335 c336 x337 a338 n339 c340,readAt g333 b6 f6 3=some (v24 a334 n335 c336 x337 a338 n339 c340)∧
 Q (.agg (w24 a334 n335 c336 x337 a338 n339 c340)) g333))
theorem I69_2.of {O Q} (a0_0 n0_0 c0_0 x0_1 a0_2 n0_2 c0_2 a1 n1 c1 x2 b3 f3 b6 f6 a7 n7 c7 b9 f9 x14){h:Hp}(hh:T69_2 O Q a0_0 n0_0 c0_0 x0_1 a0_2 n0_2 c0_2 a1 n1 c1 x2 b3 f3 b6 f6 a7 n7 c7 b9 f9 x14 h):I69_2 O Q a0_0 n0_0 c0_0 x0_1 a0_2 n0_2 c0_2 a1 n1 c1 x2 b3 f3 b6 f6 a7 n7 c7 b9 f9 x14 h:=
 RKL.of (tb:=lv69) (cuts:=[]) 500 fun _=>Eq.mp (by kernel_rfl) hh
noncomputable def b64:Code:=(Tryz.f64.body).getD .skip
def lv64:List (Nat×List Nat):=[]
def T64 (O:CallF)(Q:VQ)(a0_0:OA)(n0_0 c0_0:Nat)(x0_1:Int)(a0_2:OA)(n0_2 c0_2:Nat)(h:Hp):Prop:=
 let g1:=h.add (.cells (v24 a0_0 n0_0 c0_0 x0_1 a0_2 n0_2 c0_2) 24 .fix)
 let g2:=g1.add (.cells (v24 none 0 0 0 none 0 0) 24 .fix)
 let g3:=g2.rsv 7
 ∃a4 n5 c6 x7 a8 n9 c10,readAt g3 h.nx 0 3=some (v24 a4 n5 c6 x7 a8 n9 c10)∧
 ∃a11 n12 c13 x14 a15 n16 c17,readAt g3 h.nx 0 3=some (v24 a11 n12 c13 x14 a15 n16 c17)∧
 ∃a18 n19 c20,readAt g3 h.nx 2 1=some [.slice a18 n19 c20]∧
 ∃a21 n22 c23 h24,EvC Tryz.prog O 70 [.agg (w24 a11 n12 c13 x14 a15 n16 c17),.slice a18 n19 c20,.int .i64 1] (g3.grd [h.nx]) (.slice a21 n22 c23) h24∧
 let g25:=h24.rst g3
 ∃a26 n27 c28 x29 a30 n31 c32 h33,EvC Tryz.prog O 69 [.agg (w24 a4 n5 c6 x7 a8 n9 c10),.slice a21 n22 c23,.int .i64 1] (g25.grd []) (.agg (w24 a26 n27 c28 x29 a30 n31 c32)) h33∧
 let g34:=h33.rst g25
 vreq (canW (g34.grd []) g1.nx 0 (v24 a26 n27 c28 x29 a30 n31 c32))
 (let g35:=(g34.grd []).wr g1.nx 0 (v24 a26 n27 c28 x29 a30 n31 c32)
 let g36:=g35.rst g34
 ∃a37 n38 c39 x40 a41 n42 c43,readAt g36 g1.nx 0 3=some (v24 a37 n38 c39 x40 a41 n42 c43)∧
 Q (.agg (w24 a37 n38 c39 x40 a41 n42 c43)) g36)
theorem rk64 {O Q} (a0_0 n0_0 c0_0 x0_1 a0_2 n0_2 c0_2){h:Hp}(hO:O 64 [.agg (w24 a0_0 n0_0 c0_0 x0_1 a0_2 n0_2 c0_2)] h=none)(hh:T64 O Q a0_0 n0_0 c0_0 x0_1 a0_2 n0_2 c0_2 h):Ret Tryz.prog O 64 [.agg (w24 a0_0 n0_0 c0_0 x0_1 a0_2 n0_2 c0_2)] h Q:=
 .of (c:=b64) Tryz.func64 (by kernel_rfl) hO (V_ok (tb:=lv64) (cuts:=[]) 500 (Eq.mp (by kernel_rfl) hh))
noncomputable def b16:Code:=(Tryz.f16.body).getD .skip
def lv16:List (Nat×List Nat):=[]
def T16 (O:CallF)(Q:VQ)(a0_0:OA)(n0_0 c0_0:Nat)(x0_1:Int)(a0_2:OA)(n0_2 c0_2:Nat)(h:Hp):Prop:=
 let g1:=h.add (.cells (v24 a0_0 n0_0 c0_0 x0_1 a0_2 n0_2 c0_2) 24 .fix)
 let g2:=g1.add (.cells (v24 none 0 0 0 none 0 0) 24 .fix)
 ∃a3 n4 c5 x6 a7 n8 c9,readAt g2 h.nx 0 3=some (v24 a3 n4 c5 x6 a7 n8 c9)∧
 ∃q10 h11,EvC Tryz.prog O 63 [.agg (w24 a3 n4 c5 x6 a7 n8 c9)] g2 (.bool q10) h11∧
 vcond (!q10)
 (vreq (canW h11 g1.nx 0 (v24 none 0 0 0 none 0 0))
 (let g12:=h11.wr g1.nx 0 (v24 none 0 0 0 none 0 0)
 ∃a13 n14 c15 x16 a17 n18 c19,readAt g12 g1.nx 0 3=some (v24 a13 n14 c15 x16 a17 n18 c19)∧
 Q (.tuple #[.agg (w24 a13 n14 c15 x16 a17 n18 c19),.int .i64 2]) g12))
 (∃a20 n21 c22 x23 a24 n25 c26,readAt h11 h.nx 0 3=some (v24 a20 n21 c22 x23 a24 n25 c26)∧
 ∃a27 n28 c29 x30 a31 n32 c33 h34,EvC Tryz.prog O 64 [.agg (w24 a20 n21 c22 x23 a24 n25 c26)] h11 (.agg (w24 a27 n28 c29 x30 a31 n32 c33)) h34∧
 vreq (canW h34 g1.nx 0 (v24 a27 n28 c29 x30 a31 n32 c33))
 (let g35:=h34.wr g1.nx 0 (v24 a27 n28 c29 x30 a31 n32 c33)
 ∃a36 n37 c38 x39 a40 n41 c42,readAt g35 g1.nx 0 3=some (v24 a36 n37 c38 x39 a40 n41 c42)∧
 Q (.tuple #[.agg (w24 a36 n37 c38 x39 a40 n41 c42),.int .i64 0]) g35))
theorem rk16 {O Q} (a0_0 n0_0 c0_0 x0_1 a0_2 n0_2 c0_2){h:Hp}(hO:O 16 [.agg (w24 a0_0 n0_0 c0_0 x0_1 a0_2 n0_2 c0_2)] h=none)(hh:T16 O Q a0_0 n0_0 c0_0 x0_1 a0_2 n0_2 c0_2 h):Ret Tryz.prog O 16 [.agg (w24 a0_0 n0_0 c0_0 x0_1 a0_2 n0_2 c0_2)] h Q:=
 .of (c:=b16) Tryz.func16 (by kernel_rfl) hO (V_ok (tb:=lv16) (cuts:=[]) 500 (Eq.mp (by kernel_rfl) hh))
def goodR (s k:Int):Bool:=decide (s≤20)&&decide (1≤k)&&decide (k≤5)
def cellsR (W:List Int)(top:Nat):Nat→Nat→Option (List Nat)
 |0,_=>none
 |f+1,p=>if p<top then (if W.getD p 0<0∨goodR (hdS (W.getD p 0)) (hdK (W.getD p 0))=false then none else (cellsR W top f (p+1+(hdS (W.getD p 0)).toNat)).map (p:: ·))else if p=top then some []else none
def wordR (l:List Nat)(w:Int):Bool:=
 if w=0 then true else if Int.tmod w 2≠0 then decide (-1999999999≤w)&&decide (w≤2000000001)else (l.map Int.ofNat).contains (Int.tdiv w 2)
def fieldR (l:List Nat)(k n:Int):Bool:=if k=3 then letterB n else if k=4 then n==0||n==1 else wordR l n
def fieldsR (l:List Nat)(k:Int)(xs:List Int):Bool:=
 if k<1∨5<k∨20<xs.length∨(k=4∧xs.length≠1)then false else xs.all (fieldR l k)
def cellsOk (W:List Int)(l:List Nat):List Nat→Bool:=fun r=>r.all fun p=>fieldsR l (hdK (W.getD p 0)) (fieldsW W p)
def formedR (W:List Int)(top:Int)(R:List Int):Option (List Nat):=
 if W.length<1∨200<W.length∨top<1∨(W.length:Int)<top∨W.getD 0 0≠0∨10<R.length then none
 else if (W.drop top.toNat).any (· !=0)then none
 else match cellsR W top.toNat (top.toNat+1) 1 with
  |none=>none
  |some l=>if cellsOk W l l&&R.all (wordR l)then some l else none
section
variable {O:CallF}(hO:Oth O)
include hO
theorem evt {f:FuncId}{az:List Value}{h:Hp}{v:Value}(r:Ret Tryz.prog O f az h fun a b=>a=v∧b=h):EvT O f az h v h:=by
 have _:=hO;obtain⟨a,b,e,rfl,rfl⟩:=r;exact e
theorem ct90 (x:Int)(h:Hp):EvT O 90 [.int .i64 x] h (.int .i64 (hdK x)) h:=by
 refine evt hO (rk90 _ (hO _ _ _ (by decide)) ?_);unfold T90;exact⟨rfl,rfl⟩
theorem ct127 {x:Int}(hx:In64 x)(h:Hp):EvT O 127 [.int .i64 x] h (.int .i64 (hdS x)) h:=by
 refine evt hO (rk127 _ (hO _ _ _ (by decide)) ?_);unfold T127;rw[hx.div];exact⟨rfl,rfl⟩
theorem ct133 (w:Int)(h:Hp):EvT O 133 [.int .i64 w] h (.bool (letterB w)) h:=by
 refine evt hO (rk133 _ (hO _ _ _ (by decide)) ?_);unfold T133 letterB;refine vcond_split (fun h2=> ?_) fun h2=> ?_
 · have h2:=not_lt_of_f (by simpa using h2);rw[decide_eq_true (show(32:Int)≤w by omega),Bool.true_and];refine vcond_split (fun h3=> ?_) fun h3=> ?_
   · have h3:=not_lt_of_f (by simpa using h3);rw[decide_eq_true (show w≤(126:Int) by omega),Bool.true_and];refine vcond_split (fun h4=> ?_) fun h4=> ?_
     · have h4:=ne_of_f (by simpa using h4);refine⟨?_,rfl⟩;congr 1;rw[Bool.eq_iff_iff];simp[h4,eqI_eq]
     · have h4:=eq_of_t (by simpa using h4);rw[h4];exact⟨rfl,rfl⟩
   · have h3:=lt_of_t (by simpa using h3);rw[decide_eq_false (show¬w≤(126:Int) by omega)];exact⟨rfl,rfl⟩
 · have h2:=lt_of_t (by simpa using h2);rw[decide_eq_false (show¬(32:Int)≤w by omega)];exact⟨rfl,rfl⟩
theorem lp67 {h:Hp}{a:Option Addr}{n c:Nat}{xs:List Int}(X:IntsAt h a n xs)(hl:xs.length<1000000){x:Int}{Q:Value→Hp→Prop}(hQ:Q (.bool (xs.contains x)) h)(q4:Bool):
 ∀(d k:Nat),k+d=xs.length→(xs.take k).contains x=false→I67_0 O Q a n c x q4 (Int.ofNat k) h:=by
 have _:=hO;have hn:=X.1;intro d
 induction d with
 |zero=>
  intro k hk ht;refine I67_0.of _ _ _ _ _ _ ?_;unfold T67_0;refine vcond_f (by rw[ltI_nat];exact blt_f (by omega)) ?_;rw[List.take_of_length_le (by omega)]at ht;rw[ht]at hQ;exact hQ
 |succ d ih=>
  intro k hk ht;refine I67_0.of _ _ _ _ _ _ ?_;unfold T67_0;have hk':k<xs.length:=by omega
  refine vcond_t (by rw[ltI_nat];exact blt_t (by omega)) (isNat_i (X.rd hk' (vcond_split (fun h1=> ?_) fun h1=> ?_)))
  · have:xs.contains x=true:=by rw[List.contains_iff_mem,←eq_of_t h1];exact List.getElem_mem hk'
    rw[this]at hQ;exact hQ
  · rw[wrap_succ (by omega)];refine ih (k+1) (by omega) ?_;rw[Bool.eq_false_iff,ne_eq,List.contains_iff_mem]at ht ⊢;rw[List.take_add_one,List.mem_append,List.getElem?_eq_getElem hk'];rintro(h|h)
    · exact ht h
    · exact ne_of_f h1 (by simp at h;exact h.symm)
theorem ct67 {h:Hp}{a:Option Addr}{n c:Nat}{xs:List Int}(X:IntsAt h a n xs)(hl:xs.length<1000000)(x:Int):EvT O 67 [.slice a n c,.int .i64 x] h (.bool (xs.contains x)) h:=by
 refine evt hO (rk67 _ _ _ _ (hO _ _ _ (by decide)) ?_);unfold T67;exact lp67 hO X hl ⟨rfl,rfl⟩ false xs.length 0 (by omega) rfl
theorem ct102 {h:Hp}{a:Option Addr}{n c:Nat}{l:List Nat}(X:IntsAt h a n (l.map Int.ofNat))(hl:l.length<1000000){w:Int}(hw:In64 w):EvT O 102 [.slice a n c,.int .i64 w] h (.bool (wordR l w)) h:=by
 refine evt hO (rk102 _ _ _ _ (hO _ _ _ (by decide)) ?_);unfold T102 wordR;rw[hw.half];refine vcond_split (fun h1=> ?_) fun h1=> ?_
 · rw[if_pos (eq_of_t h1)];exact⟨rfl,rfl⟩
 rw[if_neg (ne_of_f h1)];refine vcond_split (fun h1=> ?_) fun h1=> ?_
 · rw[if_pos (ne_of_f (by simpa using h1))];refine vcond_split (fun h2=> ?_) fun h2=> ?_
   · have h2:=not_lt_of_f (by simpa using h2);rw[decide_eq_true (by omega),Bool.true_and];refine⟨?_,rfl⟩;congr 1;rw[ltI_eq,Bool.eq_iff_iff];simp
   · have h2:=lt_of_t (by simpa using h2);rw[decide_eq_false (by omega),Bool.false_and];exact⟨rfl,rfl⟩
 · have h1:=eq_of_t (by simpa using h1);rw[if_neg (by simpa using h1)];exact⟨_,_,ct67 hO X (by simpa using hl) _,rfl,rfl⟩
theorem ct89 {h:Hp}{a:Option Addr}{n c:Nat}{l:List Nat}(X:IntsAt h a n (l.map Int.ofNat))(hl:l.length<1000000){k w:Int}(hw:In64 w):EvT O 89 [.slice a n c,.int .i64 k,.int .i64 w] h (.bool (fieldR l k w)) h:=by
 refine evt hO (rk89 _ _ _ _ _ (hO _ _ _ (by decide)) ?_);unfold T89 fieldR;refine vcond_split (fun h1=> ?_) fun h1=> ?_
 · rw[if_pos (eq_of_t h1)];exact⟨_,_,ct133 hO w h,rfl,rfl⟩
 rw[if_neg (ne_of_f h1)];refine vcond_split (fun h2=> ?_) fun h2=> ?_
 · rw[if_pos (eq_of_t h2)];refine vcond_split (fun h3=> ?_) fun h3=> ?_
   · rw[eq_of_t h3];exact⟨rfl,rfl⟩
   · have h3:=ne_of_f h3;refine⟨?_,rfl⟩;congr 1;rw[Bool.eq_iff_iff];simp[h3,eqI_eq]
 · rw[if_neg (ne_of_f h2)];exact⟨_,_,ct102 hO X hl hw,rfl,rfl⟩
theorem lp82 {h:Hp}{a:Option Addr}{n c:Nat}{l:List Nat}(X:IntsAt h a n (l.map Int.ofNat))(hl:l.length<1000000){k:Int}{a2:Option Addr}{n2 c2:Nat}{xs:List Int}(Y:IntsAt h a2 n2 xs)(hY: ∀x∈xs,In64 x)(lY:xs.length<1000000){Q:Value→Hp→Prop}(q6:Bool):
 ∀(d i:Nat),i+d=xs.length→Q (.bool ((xs.drop i).all (fieldR l k))) h→I82_0 O Q a n c k a2 n2 c2 q6 (Int.ofNat i) h:=by
 have hn:=Y.1;intro d
 induction d with
 |zero=>
  intro i hi hQ;refine I82_0.of _ _ _ _ _ _ _ _ _ ?_;unfold T82_0;rw[List.drop_of_length_le (by omega)]at hQ;exact vcond_f (by rw[ltI_nat];exact blt_f (by omega)) hQ
 |succ d ih=>
  intro i hi hQ;refine I82_0.of _ _ _ _ _ _ _ _ _ ?_;unfold T82_0;have hi':i<xs.length:=by omega
  rw[List.drop_eq_getElem_cons hi',List.all_cons]at hQ;refine vcond_t (by rw[ltI_nat];exact blt_t (by omega)) (isNat_i (Y.rd hi' ⟨_,_,ct89 hO X hl (hY _ (List.getElem_mem hi')),vcond_split (fun h1=> ?_) fun h1=> ?_⟩))
  · have h1:fieldR l k xs[i]=false:=by simpa using h1
    rw[h1,Bool.false_and]at hQ;exact hQ
  · have h1:fieldR l k xs[i]=true:=by simpa using h1
    rw[h1,Bool.true_and]at hQ;rw[wrap_succ (by omega)];exact ih (i+1) (by omega) hQ
theorem ct82 {h:Hp}{a:Option Addr}{n c:Nat}{l:List Nat}(X:IntsAt h a n (l.map Int.ofNat))(hl:l.length<1000000)(k:Int){a2:Option Addr}{n2 c2:Nat}{xs:List Int}(Y:IntsAt h a2 n2 xs)(hY: ∀x∈xs,In64 x)(lY:xs.length<1000000):EvT O 82 [.slice a n c,.int .i64 k,.slice a2 n2 c2] h (.bool (fieldsR l k xs)) h:=by
 refine evt hO (rk82 _ _ _ _ _ _ _ (hO _ _ _ (by decide)) ?_);unfold T82 fieldsR;have hn:=Y.1;subst hn;refine vcond_split (fun h1=> ?_) fun h1=> ?_
 · rw[if_pos (.inl (lt_of_t h1))];exact⟨rfl,rfl⟩
 refine vcond_split (fun h2=> ?_) fun h2=> ?_
 · rw[if_pos (.inr (.inl (lt_of_t h2)))];exact⟨rfl,rfl⟩
 refine vcond_split (fun h3=> ?_) fun h3=> ?_
 · rw[if_pos (.inr (.inr (.inl (Int.ofNat_lt.1 (lt_of_t h3)))))];exact⟨rfl,rfl⟩
 have h1:=not_lt_of_f h1;have h2:=not_lt_of_f h2;have h3: ¬20<xs.length:=fun hh=>not_lt_of_f h3 (Int.ofNat_lt.2 hh);have run: ¬(k<1∨5<k∨20<xs.length∨(k=4∧xs.length≠1))→I82_0 O (fun a b=>a= .bool (if k<1∨5<k∨20<xs.length∨(k=4∧xs.length≠1)then false else xs.all (fieldR l k))∧b=h) a n c k a2 xs.length c2 false 0 h:=fun hn=>by
  rw[if_neg hn];exact lp82 hO X hl Y hY lY false xs.length 0 (by omega) ⟨rfl,rfl⟩
 refine vcond_split (fun h4=>vcond_split (fun h5=> ?_) fun h5=>run ?_) fun h4=>run ?_
 · rw[if_pos (.inr (.inr (.inr ⟨eq_of_t h4,fun hh=>ne_of_f (by simpa using h5) (by rw[hh];rfl)⟩)))];exact⟨rfl,rfl⟩
 · rintro(h|h|h|⟨_,h⟩)
   · exact h1 h
   · exact h2 h
   · exact h3 h
   · exact h (Int.ofNat_inj.1 (eq_of_t (by simpa using h5)))
 · rintro(h|h|h|⟨h,_⟩)
   · exact h1 h
   · exact h2 h
   · exact h3 h
   · exact ne_of_f h4 h
theorem ct122 {g0 g:Hp} [f0:Ft g0 g] {aw:Option Addr}{nw cw:Nat}{W:List Int}{top:Int}(HW:SI g0 aw nw cw W)(hW: ∀x∈W,In64 x)(lW:W.length<1000000){ar:Option Addr}{nr cr:Nat}{p:Nat}(hp:p<W.length)(h0:0≤W.getD p 0)(_h20:hdS (W.getD p 0)≤20)(hle:p+1+(hdS (W.getD p 0)).toNat≤W.length){K:Option Addr→Nat→Nat→Hp→Prop}(next: ∀a n c h',SI g0 a n c (fieldsW W p)→Kp g.nx g h'→K a n c h'):
 ∃a n c h',EvT O 122 [.agg #[.slice aw nw cw,.int .i64 top,.slice ar nr cr],.int .i64 (Int.ofNat p)] g (.slice a n c) h'∧K a n c h':=by
 refine Ret.s (R:=fun a n c h'=>SI g0 a n c (fieldsW W p)∧Kp g.nx g h') ?_ (fun a n c h' q=>next a n c h' q.1 q.2);refine rk122 _ _ _ _ _ _ _ _ (hO _ _ _ (by decide)) ?_;unfold T122;intro g1 g2;have s2:g2.get g.nx=some (.cells [.slice aw nw cw,.int .i64 top,.slice ar nr cr] 24 .fix):=get_add_same ..;have k2:Kp g.nx g g2:=((Kp.refl _ g).add (Nat.le_refl _) _).rsv 15;haveI:Ft g0 g2:=f0.tr (k2.ex (Nat.le_refl _));have gW:W.getD p 0=W[p]:=by simp[List.getD,List.getElem?_eq_getElem hp]
 have s0:0≤hdS (W.getD p 0):=by unfold hdS;rw[tdiv_eq,if_pos h0];omega
 obtain⟨sz,hsz⟩: ∃m:Nat,hdS (W.getD p 0)=Int.ofNat m:=Int.eq_ofNat_of_zero_le s0;have tsz:(hdS (W.getD p 0)).toNat=sz:=by rw[hsz];rfl
 rw[tsz]at hle;refine⟨_,_,_,read1 (i:=0) s2 rfl,_,_,_,read1 (i:=0) s2 rfl,isNat_i (HW.at_.rd hp ⟨_,_,ct127 hO (hW _ (List.getElem_mem hp)) _,?_⟩)⟩;intro g15;rw[←gW,hsz];have e15:g15=g2:=rfl;have e0:wrapF .i64 (Int.ofNat p+1)=Int.ofNat (p+1):=wrap_succ (by omega);have e1:wrapF .i64 (Int.ofNat (p+1)+Int.ofNat sz)=Int.ofNat (p+1+sz):=by
  rw[wrap64 (by simp;omega) (by simp;omega)];simp
 rw[e0,e1];obtain⟨a',c',es,sp⟩:=HW.part (l:=p+1) (r:=p+1+sz) (by omega) hle (lo:=some (.int .i64 (Int.ofNat (p+1)))) (hi:=some (.int .i64 (Int.ofNat (p+1+sz)))) (fun vis hv=>bounds_lh (by omega) (by have:=HW.at_.1;omega));refine⟨_,_,_,(HW.slice_to g2 _ _).trans es,_,_,_,rfl,?_,k2⟩;have hf:(W.drop (p+1)).take (p+1+sz-(p+1))=fieldsW W p:=by
  unfold fieldsW;rw[tsz];congr 1;omega
 rw[hf]at sp;exact sp
end
theorem cellsR_bnd {w:Int}(h0: ¬w<0)(hg:goodR (hdS w) (hdK w)=true):0≤hdS w∧hdS w≤20:=by
 unfold goodR at hg;simp only[Bool.and_eq_true,decide_eq_true_eq]at hg;refine⟨?_,hg.1.1⟩;unfold hdS;rw[tdiv_eq,if_pos (by omega)];omega
section
variable {O:CallF}(hO:Oth O)
include hO
theorem lp66 {g:Hp}(okg:g.Ok){aw:Option Addr}{nw cw:Nat}{W:List Int}{top:Nat}(HW:IntsAt g aw nw W)(hR: ∀x∈W,In64 x)(htop:top≤W.length)(hl:W.length<1000000){rw1:Value}
 {Q:Value→Hp→Prop} (a0:Option Addr) (n0 c0:Nat) (x0:Int) (a2:Option Addr) (n2 c2:Nat) (ax:Option Addr) (nx cx:Nat) (q3:Bool):
 ∀(f p:Nat) (acc:List Nat) (h:Hp) (a:Option Addr) (n c:Nat),1≤f→top<p+f→p≤top+21→acc.length≤p→Kp g.nx g h→h.Ok→g.nx+1≤h.nx→h.get g.nx=some (.cells [.slice aw nw cw,.int .i64 (Int.ofNat top),rw1] 24 .fix)→AccI 3 h (g.nx+1) a n c (acc.map Int.ofNat)→
 (cellsR W top f p=none→ ∀a n c h',Kp g.nx g h'→Q (.tuple #[.slice a n c,.bool false]) h')→
 (∀l a n c h',cellsR W top f p=some l→Kp g.nx g h'→AccI 3 h' (g.nx+1) a n c ((acc++l).map Int.ofNat)→Q (.tuple #[.slice a n c,.bool true]) h')→
 I66_0 O Q a0 n0 c0 x0 a2 n2 c2 g.nx 0 ax nx cx q3 a n c (Int.ofNat p) h:=by
 intro f
 induction f with
 |zero=>intro p acc h a n c h1;omega
 |succ f ih=>
  intro p acc h a n c _ hf hp2 hacc kp ok hnx gb A Qf Qt;refine I66_0.of _ _ _ _ _ _ _ _ _ _ _ _ _ _ _ _ _ ?_;unfold T66_0;refine⟨_,read1 (i:=1) gb rfl,vcond_split (fun h1=> ?_) fun h1=> ?_⟩
  · have hpt:p<top:=by rw[ltI_nat]at h1;exact lt_of_blt h1
    have hpW:p<W.length:=by omega
    have gW:W.getD p 0=W[p]:=by simp[List.getD,List.getElem?_eq_getElem hpW]
    haveI f1:Ft g h:=kp.ex (Nat.le_refl _);refine⟨_,_,_,read1 (i:=0) gb rfl,isNat_i (HW.rd hpW (vcond_split (fun h3=> ?_) fun h3=> ?_))⟩
    · exact Qf (by unfold cellsR;rw[if_pos hpt,gW,if_pos (.inl (lt_of_t h3))]) _ _ _ _ kp
    have h3:=not_lt_of_f h3;refine⟨_,_,ct90 hO _ _,vcond_split (fun h4=> ?_) fun h4=> ?_⟩
    · refine Qf (by unfold cellsR;rw[if_pos hpt,gW,if_pos (.inr ?_)]) _ _ _ _ kp;unfold goodR;rw[decide_eq_false (show¬1≤hdK W[p] by have:=lt_of_t h4;omega),Bool.and_false,Bool.false_and]
    refine⟨_,_,ct90 hO _ _,vcond_split (fun h5=> ?_) fun h5=> ?_⟩
    · refine Qf (by unfold cellsR;rw[if_pos hpt,gW,if_pos (.inr ?_)]) _ _ _ _ kp;unfold goodR;rw[decide_eq_false (show¬hdK W[p]≤5 by have:=lt_of_t h5;omega),Bool.and_false]
    refine⟨_,_,ct127 hO (hR _ (List.getElem_mem hpW)) _,vcond_split (fun h6=> ?_) fun h6=> ?_⟩
    · refine Qf (by unfold cellsR;rw[if_pos hpt,gW,if_pos (.inr ?_)]) _ _ _ _ kp;unfold goodR;rw[decide_eq_false (show¬hdS W[p]≤20 by have:=lt_of_t h6;omega),Bool.false_and,Bool.false_and]
    have hg:goodR (hdS W[p]) (hdK W[p])=true:=by
     unfold goodR;have:=not_lt_of_f h4;have:=not_lt_of_f h5;have:=not_lt_of_f h6;rw[decide_eq_true (show hdS W[p]≤20 by omega),decide_eq_true (show 1≤hdK W[p] by omega),decide_eq_true (show hdK W[p]≤5 by omega)];rfl
    obtain⟨s1,s2⟩:=cellsR_bnd h3 hg;obtain⟨m,hm⟩: ∃m:Nat,hdS W[p]=Int.ofNat m:=Int.eq_ofNat_of_zero_le s1;have hm2:m≤20:=by rw[hm]at s2;exact Int.ofNat_le.1 s2
    intro g115;have gdh:GdLt h (g.nx+1):=fun q hq=>by have:=okg.lt.kp kp q hq;omega
    refine appI2 AppT22 A hnx gdh (by simp;omega) fun a' n' c' h' A' k' kB new=>⟨_,_,ct127 hO (hR _ (List.getElem_mem hpW)) _,?_⟩;have e0:wrapF .i64 (Int.ofNat p+1)=Int.ofNat (p+1):=wrap_succ (by omega);have e1:wrapF .i64 (Int.ofNat (p+1)+hdS W[p])=Int.ofNat (p+1+m):=by
     rw[hm,wrap64 (by simp;omega) (by simp;omega)];simp
    rw[e0,e1];have cc: ∀r,cellsR W top f (p+1+m)=r→cellsR W top (f+1) p=r.map (p:: ·):=fun r hr=>by
     conv=>lhs;unfold cellsR
     rw[if_pos hpt,gW,if_neg (by rw[hg];simp;omega),hm];show(cellsR W top f (p+1+m)).map _=_;rw[hr]
    refine ih (p+1+m) (acc++[p]) h' a' n' c' (by omega) (by omega) (by omega) (by simp;omega) (kp.trans (kB.le (by omega))) (ok.kp kB) (Nat.le_trans hnx k'.nx) ((kB.get _ (Nat.lt_succ_self _)).trans gb) (by rw[List.map_append];exact A') (fun hc=>Qf (cc _ hc)) fun l a n c h2 hc k2 A2=>Qt (p::l) a n c h2 (cc _ hc) k2 (by simpa using A2)
  · have hpt: ¬p<top:=by rw[ltI_nat]at h1;exact not_lt_of_blt h1
    intro g7;refine⟨_,read1 (i:=1) (show g7.get g.nx=_ from gb) rfl,?_⟩;have kp7:Kp g.nx g g7:=kp.rsv 7;cases he:eqI (Int.ofNat p) (Int.ofNat top)with
    |false=>
     refine Qf ?_ _ _ _ _ kp7;unfold cellsR;rw[if_neg hpt,if_neg (fun hh=>by rw[hh]at he;simp[eqI_eq]at he)]
    |true=>
     have:p=top:=by have:=eq_of_t he;exact Int.ofNat_inj.1 this
     refine Qt [] _ _ _ g7 ?_ kp7 (by rw[List.append_nil];exact A.keep (fun _ _ _=>rfl) (Nat.le_add_right ..));unfold cellsR;rw[if_neg hpt,if_pos this]
theorem ct66 {g:Hp}(ok:g.Ok){aw:Option Addr}{nw cw:Nat}{W:List Int}{top:Nat}(HW:IntsAt g aw nw W)(hR: ∀x∈W,In64 x)(h1:1≤top)(htop:top≤W.length)(hl:W.length<1000000){ar:Option Addr}{nr cr:Nat}
 {K:Option Addr→Nat→Nat→Bool→Hp→Prop} (Qf: ∀a n c h',Kp g.nx g h'→cellsR W top (top+1) 1=none→K a n c false h')
 (Qt: ∀l a n c h',cellsR W top (top+1) 1=some l→Kp g.nx g h'→AccI 3 h' (g.nx+1) a n c (l.map Int.ofNat)→K a n c true h'):
 ∃a n c q h',EvT O 66 [.agg #[.slice aw nw cw,.int .i64 (Int.ofNat top),.slice ar nr cr]] g (.tuple #[.slice a n c,.bool q]) h'∧K a n c q h':=by
 have r:Ret Tryz.prog O 66 [.agg #[.slice aw nw cw,.int .i64 (Int.ofNat top),.slice ar nr cr]] g fun v h'=> ∃a n c q,v= .tuple #[.slice a n c,.bool q]∧K a n c q h':=by
  refine rk66 _ _ _ _ _ _ _ (hO _ _ _ (by decide)) ?_;unfold T66;intro g1;have k1:Kp g.nx g g1:=(Kp.refl _ g).add (Nat.le_refl _) _;exact lp66 hO ok HW hR htop hl (rw1:= .slice ar nr cr) aw nw cw (Int.ofNat top) ar nr cr none 0 0 false (top+1) 1 [] g1 none 0 0 (by omega) (by omega) (by omega) (by simp) k1 (ok.add _) (Nat.le_refl _) (get_add_same ..) (AccI.nil ..) (fun hc a n c h' k=>⟨a,n,c,false,rfl,Qf a n c h' k hc⟩) (fun l a n c h' hc k A=>⟨a,n,c,true,rfl,Qt l a n c h' hc k A⟩)
 obtain⟨v,h',e,a,n,c,q,rfl,hk⟩:=r;exact⟨a,n,c,q,h',e,hk⟩
def QF (g:Hp)(W:List Int)(top:Int)(R:List Int):Value→Hp→Prop:=fun v h'=>v= .bool (formedR W top R).isSome∧Kp g.nx g h'
theorem lp63_2 {g:Hp}{R:List Int}{ar:Option Addr}{nr cr:Nat}(HR:IntsAt g ar nr R)(hR: ∀x∈R,In64 x)(lR:R.length<1000000){rw1:Value}{x1:Value}{b1:Nat}{a5:Option Addr}{n5 c5:Nat}{l:List Nat}(ll:l.length<1000000){Q:Value→Hp→Prop}(a0:Option Addr)(n0 c0:Nat)(x0:Int)(a2:Option Addr)(n2 c2:Nat)(q2:Bool){h:Hp}(kp:Kp g.nx g h)(gb:h.get b1=some (.cells [rw1,x1,.slice ar nr cr] 24 .fix)):
 ∀(d i:Nat) (q:Bool),(q=true→IntsAt h a5 n5 (l.map Int.ofNat))→i+d=R.length→Q (.bool (q&&(R.drop i).all (wordR l))) h→I63_2 O Q a0 n0 c0 x0 a2 n2 c2 b1 0 q2 a5 n5 c5 q (Int.ofNat i) h:=by
 have hn:=HR.1;haveI:Ft g h:=kp.ex (Nat.le_refl _);intro d
 induction d with
 |zero=>
  intro i q hq hi hQ;refine I63_2.of _ _ _ _ _ _ _ _ _ _ _ _ _ _ _ ?_;unfold T63_2;rw[List.drop_of_length_le (by omega)]at hQ;refine⟨_,_,_,read1 (i:=2) gb rfl,vcond_f (by rw[ltI_nat];exact blt_f (by omega)) ?_⟩;simpa using hQ
 |succ d ih=>
  intro i q hq hi hQ;refine I63_2.of _ _ _ _ _ _ _ _ _ _ _ _ _ _ _ ?_;unfold T63_2;have hi':i<R.length:=by omega
  rw[List.drop_eq_getElem_cons hi',List.all_cons]at hQ;refine⟨_,_,_,read1 (i:=2) gb rfl,vcond_t (by rw[ltI_nat];exact blt_t (by omega)) (vcond_split (fun h1=> ?_) fun h1=> ?_)⟩
  · subst h1;refine⟨_,_,_,read1 (i:=2) gb rfl,isNat_i (HR.rd hi' ⟨_,_,ct102 hO (hq rfl) ll (hR _ (List.getElem_mem hi')),?_⟩)⟩;rw[wrap_succ (by omega)];refine ih (i+1) _ (fun _=>hq rfl) (by omega) ?_;simpa using hQ
  · subst h1;simpa using hQ
omit hO in
theorem cellsR_mem {W:List Int}{top:Nat}: ∀ {f p:Nat} {l:List Nat},cellsR W top f p=some l→p≤top∧ ∀x∈l,p≤x∧x<top∧0≤W.getD x 0∧hdS (W.getD x 0)≤20∧x+1+(hdS (W.getD x 0)).toNat≤top:=by
 intro f
 induction f with
 |zero=>intro p l h;cases h
 |succ f ih=>
  intro p l h;unfold cellsR at h;split at h
  · rename_i hpt;split at h
    · cases h
    · rename_i hn;obtain⟨l',h3,rfl⟩:=Option.map_eq_some_iff.1 h;obtain⟨i1,i2⟩:=ih h3;refine⟨by omega,fun x hx=> ?_⟩;rcases List.mem_cons.1 hx with rfl|hx
      · have hg:goodR (hdS (W.getD x 0)) (hdK (W.getD x 0))=true:=by
         cases hg:goodR (hdS (W.getD x 0)) (hdK (W.getD x 0))with
         |true=>rfl
         |false=>exact absurd (.inr hg) hn
        have h0: ¬W.getD x 0<0:=fun hh=>hn (.inl hh);exact⟨Nat.le_refl _,hpt,by omega,(cellsR_bnd h0 hg).2,i1⟩
      · have:=i2 x hx;exact⟨by omega,this.2⟩
  · split at h
    · obtain rfl:=Option.some.inj h;exact⟨by omega,fun x hx=>by cases hx⟩
    · cases h
theorem lp63_1 {g:Hp}{aw:Option Addr}{nw cw:Nat}{W:List Int}{top:Nat}(HW:SI g aw nw cw W)(hW: ∀x∈W,In64 x)(lW:W.length<100000){R:List Int}{ar:Option Addr}{nr cr:Nat}(HR:IntsAt g ar nr R)(hR: ∀x∈R,In64 x)(lR:R.length<1000000){b1 B:Nat}(_hB:g.nx≤B)(hb1:b1<B){a5:Option Addr}{c5:Nat}{l:List Nat}(hc: ∀x∈l,x<W.length∧0≤W.getD x 0∧hdS (W.getD x 0)≤20∧x+1+(hdS (W.getD x 0)).toNat≤W.length)(ll:l.length<100000){Q:Value→Hp→Prop}(a0:Option Addr)(n0 c0:Nat)(x0:Int)(a2:Option Addr)(n2 c2:Nat)(q2:Bool):
 ∀(d i:Nat) (q:Bool) (h:Hp),i+d=l.length→h.Ok→Kp g.nx g h→B≤h.nx→h.get b1=some (.cells [.slice aw nw cw,.int .i64 (Int.ofNat top),.slice ar nr cr] 24 .fix)→AccI 3 h B a5 l.length c5 (l.map Int.ofNat)→(∀h',Kp g.nx g h'→Q (.bool (q&&cellsOk W l (l.drop i)&&R.all (wordR l))) h')→
 I63_1 O Q a0 n0 c0 x0 a2 n2 c2 b1 0 q2 a5 l.length c5 q (Int.ofNat i) h:=by
 intro d
 induction d with
 |zero=>
  intro i q h hi ok kp hBn gb A hQ;refine I63_1.of _ _ _ _ _ _ _ _ _ _ _ _ _ _ _ ?_;unfold T63_1;refine vcond_f (by rw[ltI_nat];exact blt_f (by omega)) ?_;refine lp63_2 hO (l:=l) HR hR lR (by omega) a0 n0 c0 x0 a2 n2 c2 q2 kp gb R.length 0 q (fun _=>A.ints) (by omega) ?_;have:=hQ h kp;rw[List.drop_of_length_le (by omega)]at this;simpa[cellsOk] using this
 |succ d ih=>
  intro i q h hi ok kp hBn gb A hQ;refine I63_1.of _ _ _ _ _ _ _ _ _ _ _ _ _ _ _ ?_;unfold T63_1;have hi':i<l.length:=by omega
  have hA:IntsAt h a5 l.length (l.map Int.ofNat):=A.ints;rw[List.drop_eq_getElem_cons hi']at hQ;refine vcond_t (by rw[ltI_nat];exact blt_t (by omega)) (vcond_split (fun h1=> ?_) fun h1=> ?_)
  · subst h1;intro g201;obtain⟨c1,c2',c3,c4⟩:=hc l[i] (List.getElem_mem hi');have kp1:Kp g.nx g g201:=kp.rsv 9;haveI:Ft g g201:=kp1.ex (Nat.le_refl _);refine⟨_,_,_,read1 (i:=0) (show g201.get b1=_ from gb) rfl,isNat_i (IntsAt.get hA (k:=i) (by simpa using hi') fun b f ha hb hr=>vreq_t (blt_t hi') ⟨_,hr,?_⟩)⟩;rw[List.getElem_map];have gW:W.getD l[i] 0=W[l[i]]:=by simp[List.getD,List.getElem?_eq_getElem c1]
    refine isNat_i (HW.at_.rd c1 ?_);intro g213;refine⟨_,_,_,_,_,_,_,by rw[readAt_get (show g213.get b1=_ from gb) (by simp)];rfl,isNat_i (IntsAt.get hA (k:=i) (by simpa using hi') fun b f ha hb hr=>vreq_t (blt_t hi') ⟨_,hr,_,_,ct90 hO _ _,?_⟩)⟩;rw[List.getElem_map];intro g227;have ok213:g213.Ok:=(ok.rsv 9).rsv 11;have kp213:Kp g.nx g g213:=kp1.rsv 11;have okr:(g227.grd []).Ok:=ok213;haveI f227:Ft g (g227.grd []):=kp213.ex (Nat.le_refl _);refine ct122 hO HW hW (by omega) c1 c2' c3 c4 fun a3 n3 c3' h231 F k231=> ?_;intro g232;have k232:Kp h.nx h g232:=⟨fun o ho=>(k231.get o (by show o<h.nx+9+11;omega)),by have:h.nx+9+11≤h231.nx:=k231.nx;show h.nx≤h231.nx;omega,rfl,fun f=>k231.fr ((ok213.fr:g213.Fresh))⟩;have kpg:Kp g.nx g g232:=kp.trans (k232.le kp.nx);have A232:AccI 3 g232 B a5 l.length c5 (l.map Int.ofNat):=A.keep (fun o ho _=>k232.get o ho) k232.nx;haveI:Ft g (g232.grd []):=kpg.ex (Nat.le_refl _);have F232:IntsAt (g232.grd []) a3 n3 (fieldsW W l[i]):=F.at_.to _;have X232:IntsAt (g232.grd []) a5 l.length (l.map Int.ofNat):=SlAt.keep A232.ints (fun _ _ _=>rfl) (Nat.le_refl _) (fun _ _ h=>h);have fl:(fieldsW W l[i]).length<1000000:=by unfold fieldsW;simp;omega
    refine⟨_,_,ct82 hO X232 (by omega) _ F232 (fun x hx=>hW _ (List.mem_of_mem_drop (List.mem_of_mem_take hx))) fl,?_⟩;intro g235;rw[wrap_succ (by omega)];refine ih (i+1) _ g235 (by omega) ⟨fun q hq=>by have:=ok.gd q hq;have:=k232.nx;show q<g232.nx;omega,k231.fr ok213.fr⟩ kpg (Nat.le_trans hBn k232.nx) ((k232.get b1 (by omega)).trans gb) A232 fun h' k'=> ?_;have:=hQ h' k';rw[Bool.true_and]at this;rw[←gW];exact this
  · subst h1;refine lp63_2 hO (l:=l) HR hR lR (by omega) a0 n0 c0 x0 a2 n2 c2 q2 kp gb R.length 0 false (fun h=>by cases h) (by omega) ?_;have:=hQ h kp;simpa using this
theorem lp63_0 {g:Hp}(_okg:g.Ok){aw:Option Addr}{nw cw:Nat}{W:List Int}{top:Nat}(HW:SI g aw nw cw W)(hW: ∀x∈W,In64 x)(lW:W.length≤200)(h1:1≤top)(ht:top≤W.length){R:List Int}{ar:Option Addr}{nr cr:Nat}(HR:IntsAt g ar nr R)(hR: ∀x∈R,In64 x)(lR:R.length≤10){Q:Value→Hp→Prop}(a0:Option Addr)(n0 c0:Nat)(x0:Int)(a2:Option Addr)(n2 c2:Nat)(q2:Bool){h:Hp}(ok:h.Ok)(kp:Kp g.nx g h){b1:Nat}(hb:b1<h.nx)(gb:h.get b1=some (.cells [.slice aw nw cw,.int .i64 (Int.ofNat top),.slice ar nr cr] 24 .fix)):
 ∀(d i:Nat),i+d=W.length→top≤i→(∀h',Kp g.nx g h'→Q (.bool (if (W.drop i).any (· !=0)then none else match cellsR W top (top+1) 1 with
 |none=>none
 |some l=>if cellsOk W l l&&R.all (wordR l)then some l else none:Option (List Nat)).isSome) h')→
 I63_0 O Q a0 n0 c0 x0 a2 n2 c2 b1 0 q2 (Int.ofNat nw) (Int.ofNat i) h:=by
 have hn:=HW.at_.1;haveI:Ft g h:=kp.ex (Nat.le_refl _);intro d
 induction d with
 |zero=>
  intro i hi hti hQ;refine I63_0.of _ _ _ _ _ _ _ _ _ _ _ _ ?_;unfold T63_0;rw[List.drop_of_length_le (by omega)]at hQ;refine vcond_f (by rw[ltI_nat];exact blt_f (by omega)) ⟨_,_,_,_,_,_,_,by rw[readAt_get gb (by simp)];rfl,?_⟩;refine ct66 hO ok (HW.at_.to h) hW h1 ht (by omega) (fun a n c h' k' hc=> ?_) fun l a n c h' hc k' A=> ?_
  · have kph:Kp g.nx g h':=kp.trans (k'.le kp.nx);have gb':h'.get b1=_:=(k'.get b1 hb).trans gb;have fin:I63_2 O Q a0 n0 c0 x0 a2 n2 c2 b1 0 q2 a n c false (Int.ofNat 0) h':=by
     refine lp63_2 hO (l:=[]) HR hR (by omega) (by decide) a0 n0 c0 x0 a2 n2 c2 q2 kph gb' R.length 0 false (fun h=>by cases h) (by omega) ?_;have:=hQ h' kph;rw[hc]at this;simpa using this
    refine I63_1.of _ _ _ _ _ _ _ _ _ _ _ _ _ _ _ ?_;unfold T63_1;exact vcond_split (fun _=>vcond_f rfl fin) fun _=>fin
  · have kph:Kp g.nx g h':=kp.trans (k'.le kp.nx);have gb':h'.get b1=_:=(k'.get b1 hb).trans gb;have hnl:n=l.length:=by have:=A.ints.1;rwa [List.length_map]at this
    subst hnl;have hm:=cellsR_mem hc;have hll:l.length≤top:=by
     have: ∀(f p:Nat) (l:List Nat),cellsR W top f p=some l→l.length+p≤top:=by
      intro f
      induction f with
      |zero=>intro p l h;cases h
      |succ f ih=>
       intro p l h;unfold cellsR at h;split at h
       · split at h
         · cases h
         · obtain⟨l',h3,rfl⟩:=Option.map_eq_some_iff.1 h;have:=ih _ _ h3;simp only[List.length_cons];omega
       · split at h
         · obtain rfl:=Option.some.inj h;simp;omega
         · cases h
     have:=this _ _ _ hc;omega
    rcases Nat.eq_zero_or_pos l.length with h0|h0
    · have hl0:l=[]:=List.length_eq_zero_iff.1 h0;subst hl0;refine I63_1.of _ _ _ _ _ _ _ _ _ _ _ _ _ _ _ ?_;unfold T63_1;refine vcond_f rfl ?_;refine lp63_2 hO (l:=[]) HR hR (by omega) (by decide) a0 n0 c0 x0 a2 n2 c2 q2 kph gb' R.length 0 true (fun _=>A.ints) (by omega) ?_;have:=hQ h' kph;rw[hc]at this;simp only[List.any_nil,cellsOk,List.all_nil,Bool.true_and]at this;cases hr:R.all (wordR [])with
      |true=>rw[hr]at this;simpa[hr] using this
      |false=>rw[hr]at this;simpa[hr] using this
    · have hBn:h.nx+1≤h'.nx:=by
       rcases A with ⟨_,_,_,e⟩|⟨o,_,_,_,h2,h3,_⟩
       · have:l.length=0:=by have:=congrArg List.length e;simpa using this
         omega
       · omega
      refine lp63_1 hO HW hW (by omega) HR hR (by omega) (b1:=b1) (B:=h.nx+1) (by have:=kp.nx;omega) (by omega) (fun x hx=> ?_) (by omega) a0 n0 c0 x0 a2 n2 c2 q2 l.length 0 true h' (by omega) (ok.kp k') kph hBn gb' A fun h2 k2=> ?_
      · obtain⟨_,m1,m2,m3,m4⟩:=hm.2 x hx;exact⟨by omega,m2,m3,by omega⟩
      · have:=hQ h2 k2;rw[hc]at this;simp only[List.any_nil,Bool.false_eq_true,if_false]at this;rw[List.drop_zero,Bool.true_and];cases hr:cellsOk W l l&&R.all (wordR l)with
        |true=>rw[hr]at this;simpa using this
        |false=>rw[hr]at this;simpa using this
 |succ d ih=>
  intro i hi hti hQ;refine I63_0.of _ _ _ _ _ _ _ _ _ _ _ _ ?_;unfold T63_0;have hi':i<W.length:=by omega
  rw[List.drop_eq_getElem_cons hi']at hQ;refine vcond_t (by rw[ltI_nat];exact blt_t (by omega)) ⟨_,_,_,read1 (i:=0) gb rfl,isNat_i (HW.at_.rd hi' (vcond_split (fun h2=> ?_) fun h2=> ?_))⟩
  · have h2:=ne_of_f (by simpa using h2);have:=hQ h kp;rw[List.any_cons,show(W[i] !=0)=true by simpa using h2,Bool.true_or]at this;simpa using this
  · have h2:=eq_of_t (by simpa using h2);rw[wrap_succ (by omega)];refine ih (i+1) (by omega) (by omega) fun h' k'=> ?_;have:=hQ h' k';rw[List.any_cons,show(W[i] !=0)=false by simpa using h2,Bool.false_or]at this;exact this
end
structure HA (g:Hp)(aw:Option Addr)(nw cw:Nat)(W:List Int)(ar:Option Addr)(nr cr:Nat)(R:List Int):Prop where
 sw:SI g aw nw cw W
 sr:SI g ar nr cr R
 w: ∀x∈W,In64 x
 r: ∀x∈R,In64 x
theorem HA.to {g:Hp}(h:Hp) [Ft g h] {aw:Option Addr}{nw cw:Nat}{W:List Int}{ar:Option Addr}{nr cr:Nat}{R:List Int}(a:HA g aw nw cw W ar nr cr R):HA h aw nw cw W ar nr cr R:=⟨a.sw.to h,a.sr.to h,a.w,a.r⟩
theorem rd3 {h:Hp}{b:Nat}{v1 v2 v3:Value}{e:TypeId}{m:Md}(g:h.get b=some (.cells [v1,v2,v3] e m)):readAt h b 0 3=some [v1,v2,v3]:=by rw[readAt_get g (by simp)];rfl
section
variable {O:CallF}(hO:Oth O){g:Hp}(ok:g.Ok){aw:Option Addr}{nw cw:Nat}{W:List Int}{top:Int}{ar:Option Addr}{nr cr:Nat}{R:List Int}(A:HA g aw nw cw W ar nr cr R)
include hO ok A
theorem ct63:Ret Tryz.prog O 63 [.agg #[.slice aw nw cw,.int .i64 top,.slice ar nr cr]] g (QF g W top R):=by
 refine rk63 _ _ _ _ _ _ _ (hO _ _ _ (by decide)) ?_;unfold T63;intro g1;have HW:=A.sw;have HR:=A.sr;have hn:=HW.at_.1;have hnr:=HR.at_.1;have k1:Kp g.nx g g1:=(Kp.refl _ g).add (Nat.le_refl _) _;haveI:Ft g g1:=k1.ex (Nat.le_refl _);have s1:g1.get g.nx=some (.cells [.slice aw nw cw,.int .i64 top,.slice ar nr cr] 24 .fix):=get_add_same ..;have bad:(W.length<1∨200<W.length∨top<1∨(W.length:Int)<top∨W.getD 0 0≠0∨10<R.length)→QF g W top R (.bool false) g1:=fun hh=>⟨by unfold formedR;rw[if_pos hh];rfl,k1⟩;refine⟨_,_,_,read1 (i:=0) s1 rfl,vcond_split (fun h1=>bad ?_) fun h1=>vcond_split (fun h2=>bad ?_) fun h2=> ?_⟩
 · have h1:=lt_of_t h1;exact .inl (by rw[hn]at h1;exact Int.ofNat_lt.1 h1)
 · have h2:=lt_of_t h2;exact .inr (.inl (by rw[hn]at h2;exact Int.ofNat_lt.1 h2))
 have h1:1≤W.length:=by have:=not_lt_of_f h1;rw[hn]at this;simp at this;omega
 have h2:W.length≤200:=by have:=not_lt_of_f h2;rw[hn]at this;simp at this;omega
 refine⟨_,read1 (i:=1) s1 rfl,vcond_split (fun h3=>bad (.inr (.inr (.inl (lt_of_t h3))))) fun h3=> ?_⟩;refine⟨_,read1 (i:=1) s1 rfl,vcond_split (fun h4=>bad (.inr (.inr (.inr (.inl (by have:=lt_of_t h4;rw[hn]at this;exact this)))))) fun h4=> ?_⟩;obtain⟨tp,rfl⟩: ∃m:Nat,top=Int.ofNat m:=Int.eq_ofNat_of_zero_le (by have:=not_lt_of_f h3;omega);have h3:1≤tp:=by have:=not_lt_of_f h3;simp at this;omega
 have h4:tp≤W.length:=by have:=not_lt_of_f h4;rw[hn]at this;exact Int.ofNat_le.1 (by simpa using this)
 have gW:W.getD 0 0=W[0]:=by simp[List.getD,List.getElem?_eq_getElem h1]
 refine⟨_,_,_,read1 (i:=0) s1 rfl,IntsAt.rd0 HW.at_ h1 (vcond_split (fun h5=>bad (.inr (.inr (.inr (.inr (.inl (by rw[gW];exact ne_of_f (by simpa using h5)))))))) fun h5=> ?_)⟩;have h5:W.getD 0 0=0:=by rw[gW];exact eq_of_t (by simpa using h5)
 refine⟨_,_,_,read1 (i:=2) s1 rfl,vcond_split (fun h6=>bad (.inr (.inr (.inr (.inr (.inr (by have:=lt_of_t h6;rw[hnr]at this;simp at this;omega))))))) fun h6=> ?_⟩;have h6:R.length≤10:=by have:=not_lt_of_f h6;rw[hnr]at this;simp at this;omega
 refine⟨_,read1 (i:=1) s1 rfl,?_⟩;refine lp63_0 hO ok HW A.w h2 h3 h4 HR.at_ A.r h6 aw nw cw (Int.ofNat tp) ar nr cr false (ok.add _) k1 (Nat.lt_succ_self _) s1 (W.length-tp) tp (by omega) (Nat.le_refl _) fun h' k'=>⟨?_,k'⟩;have e:formedR W (Int.ofNat tp) R=(if (W.drop tp).any (· !=0)then none else match cellsR W tp (tp+1) 1 with
  |none=>none
  |some l=>if cellsOk W l l&&R.all (wordR l)then some l else none):=by
  unfold formedR;rw[if_neg ?_]
  · rfl
  rintro(h|h|h|h|h|h)
  · omega
  · omega
  · have:(Int.ofNat tp:Int)=(tp:Int):=rfl;omega
  · have:(Int.ofNat tp:Int)=(tp:Int):=rfl;omega
  · exact h h5
  · omega
 exact congrArg (fun o:Option (List Nat)=>Value.bool o.isSome) e.symm
omit hO ok A in
theorem formedR_cells {W:List Int}{top:Int}{R:List Int}{l:List Nat}(h:formedR W top R=some l):1≤W.length∧W.length≤200∧1≤top∧top≤W.length∧R.length≤10∧(W.drop top.toNat).any (· !=0)=false∧cellsR W top.toNat (top.toNat+1) 1=some l∧cellsOk W l l=true∧R.all (wordR l)=true:=by
 unfold formedR at h;split at h
 · cases h
 · rename_i hn;split at h
   · cases h
   · rename_i hz;split at h
     · cases h
     · rename_i l' hc;split at h
       · rename_i hk;obtain rfl:=Option.some.inj h;rw[Bool.and_eq_true]at hk;have e1: ¬W.length<1:=fun hh=>hn (.inl hh);have e2: ¬200<W.length:=fun hh=>hn (.inr (.inl hh));have e3: ¬top<1:=fun hh=>hn (.inr (.inr (.inl hh)));have e4: ¬(W.length:Int)<top:=fun hh=>hn (.inr (.inr (.inr (.inl hh))));have e5: ¬10<R.length:=fun hh=>hn (.inr (.inr (.inr (.inr (.inr hh)))));exact⟨by omega,by omega,by omega,by omega,by omega,by simpa using hz,hc,hk.1,hk.2⟩
       · cases h
theorem ct41 (tb:Tb g):Ret Tryz.prog O 41 [.agg #[.slice aw nw cw,.int .i64 top,.slice ar nr cr]] g fun v h'=>v= .int .i64 (if (checkP W top R).isSome then 0 else 2)∧Kp g.nx g h':=by
 refine rk41 _ _ _ _ _ _ _ (hO _ _ _ (by decide)) ?_;unfold T41;intro g1;have k1:Kp g.nx g g1:=(Kp.refl _ g).add (Nat.le_refl _) _;haveI:Ft g g1:=k1.ex (Nat.le_refl _);have ok1:g1.Ok:=ok.add _;have n0:0<g.nx:=by have:=tb.1;omega
 obtain⟨v,h',e,a,n,c,x,rfl,k,hx⟩:=ct65 hO ok1 (A.sw.to g1) A.w (A.sr.at_.to g1) A.r (tb.kp k1 n0) (top:=top);refine⟨_,_,_,_,_,_,_,rd3 (get_add_same ..),_,_,_,_,h',e,?_,k1.trans (k.le (Nat.le_succ _))⟩;cases hc:checkP W top R with
 |none=>rw[hc]at hx;rw[show x=2 from hx];rfl
 |some l=>rw[hc]at hx;rw[hx.1];rfl
end
def refd (w:Int):Int:=if Int.tmod w 2≠0 then 0 else Int.tdiv w 2
def withP (fr:Nat):List Int→List Nat→List Nat
 | [],l=>l
 |w::ws,l=>if refd w<((max fr 1:Nat):Int)then withP fr ws l else if (l.map Int.ofNat).contains (refd w)then withP fr ws l else withP fr ws (l++[(refd w).toNat])
def strongP (W:List Int)(p:Nat):List Int:=if keepB (hdK (W.getD p 0))then fieldsW W p else []
def CellAt (W:List Int)(p:Nat):Prop:=p<W.length∧0≤W.getD p 0∧hdS (W.getD p 0)≤20∧p+1+(hdS (W.getD p 0)).toNat≤W.length
instance (W:List Int)(p:Nat):Decidable (CellAt W p):=by unfold CellAt;infer_instance
def reachO (W:List Int)(fr:Nat):Nat→Nat→List Nat→Option (List Nat)
 |0,_,_=>none
 |f+1,i,l=>if i<l.length then (if CellAt W (l.getD i 0)∧l.length≤1000 then reachO W fr f (i+1) (withP fr (strongP W (l.getD i 0)) l)else none)else some l
theorem withP_length (fr:Nat): ∀(ws:List Int) (l:List Nat),l.length≤(withP fr ws l).length∧(withP fr ws l).length≤l.length+ws.length:=by
 intro ws
 induction ws with
 |nil=>intro l;exact⟨Nat.le_refl _,Nat.le_refl _⟩
 |cons w ws ih=>
  intro l;unfold withP;split
  · have:=ih l;simp only[List.length_cons];omega
  · split
    · have:=ih l;simp only[List.length_cons];omega
    · have:=ih (l++[(refd w).toNat]);simp only[List.length_append,List.length_cons,List.length_nil]at this ⊢; omega
theorem fieldsW_len {W:List Int}{p:Nat}:(fieldsW W p).length≤(hdS (W.getD p 0)).toNat:=by
 unfold fieldsW;exact List.length_take_le ..
theorem strong_len {W:List Int}{p:Nat}(hc:CellAt W p):(strongP W p).length≤20:=by
 unfold strongP;split
 · have:=fieldsW_len (W:=W) (p:=p);have:=hc.2.2.1;omega
 · exact Nat.zero_le _
theorem strong_mem {W:List Int}{p:Nat}{x:Int}(hx:x∈strongP W p):x∈W:=by
 unfold strongP at hx;split at hx
 · exact List.mem_of_mem_drop (List.mem_of_mem_take hx)
 · cases hx
theorem keepB_f {k:Int}(h1:k≠1)(h2:k≠2):keepB k=false:=by
 unfold keepB;rw[beq_eq_false_iff_ne.2 h1,beq_eq_false_iff_ne.2 h2];rfl
section
variable {O:CallF}(hO:Oth O)
include hO
theorem ct145 {w:Int}(hw:In64 w)(h:Hp):EvT O 145 [.int .i64 w] h (.int .i64 (refd w)) h:=by
 refine evt hO (rk145 _ (hO _ _ _ (by decide)) ?_);unfold T145 refd;rw[hw.half];refine vcond_split (fun h1=> ?_) fun h1=> ?_
 · rw[if_pos (ne_of_f (by simpa using h1))];exact⟨rfl,rfl⟩
 · rw[if_neg (by simpa using eq_of_t (by simpa using h1))];exact⟨rfl,rfl⟩
theorem lp130 {g0 h0:Hp}{B:Nat}(hB:g0.nx≤B){aw:Option Addr}{nw cw:Nat}{ws:List Int}(X:IntsAt g0 aw nw ws)(hX: ∀x∈ws,In64 x)(lX:ws.length<100000){fr:Nat}{Q:Value→Hp→Prop}(a0:Option Addr)(n0 c0:Nat){res:List Nat}(next: ∀a n c h,AccI 3 h B a n c (res.map Int.ofNat)→Kp B h0 h→Q (.slice a n c) h):
 ∀(d i:Nat) (l:List Nat) (h:Hp) (a:Option Addr) (n c:Nat),i+d=ws.length→l.length≤100000+i→B≤h.nx→h.Ok→GdLt h B→Ft g0 h→Kp B h0 h→AccI 3 h B a n c (l.map Int.ofNat)→withP fr (ws.drop i) l=res→
 I130_0 O Q a0 n0 c0 aw nw cw (Int.ofNat fr) a n c (Int.ofNat i) h:=by
 have hn:=X.1;intro d
 induction d with
 |zero=>
  intro i l h a n c hi hl hBn ok gd ft kp A hres;refine I130_0.of _ _ _ _ _ _ _ _ _ _ _ ?_;unfold T130_0;rw[List.drop_of_length_le (by omega)]at hres;refine vcond_f (by rw[ltI_nat];exact blt_f (by omega)) (next _ _ _ _ ?_ kp);rw[←hres];exact A
 |succ d ih=>
  intro i l h a n c hi hl hBn ok gd ft kp A hres;refine I130_0.of _ _ _ _ _ _ _ _ _ _ _ ?_;unfold T130_0;have hi':i<ws.length:=by omega
  rw[List.drop_eq_getElem_cons hi']at hres;unfold withP at hres;have x64:=hX _ (List.getElem_mem hi');rw[show maxI (Int.ofNat fr) 1=((max fr 1:Nat):Int) from maxI_nat fr 1,wrap_succ (by omega)];refine vcond_t (by rw[ltI_nat];exact blt_t (by omega)) (isNat_i (X.rd hi' ⟨_,_,ct145 hO x64 h,vcond_split (fun h1=> ?_) fun h1=> ?_⟩))
  · have h1:=not_lt_of_f (by simpa using h1);rw[if_neg h1]at hres;have L:IntsAt h a n (l.map Int.ofNat):=A.ints;refine⟨_,_,ct67 hO L (by simp;omega) _,vcond_split (fun h2=> ?_) fun h2=> ?_⟩
    · rw[if_neg (by simpa using h2)]at hres;intro g109;have hz:0≤refd ws[i]:=by have:(0:Int)≤((max fr 1:Nat):Int):=Int.natCast_nonneg _;omega
      obtain⟨m,hm⟩: ∃m:Nat,refd ws[i]=Int.ofNat m:=Int.eq_ofNat_of_zero_le hz;refine appI2 AppT22 A hBn gd (by simp;omega) fun a' n' c' h' A' k' kB new=> ?_;refine ih (i+1) (l++[m]) h' a' n' c' (by omega) (by simp;omega) (Nat.le_trans hBn k'.nx) (ok.kp kB) (gd.kp kB) ⟨fun o ho=>(kB.get o (by omega)).trans (ft.get o ho),Nat.le_trans ft.nx kB.nx⟩ (kp.trans kB) (by rw[List.map_append];rw[hm]at A';exact A') (by rw[hm]at hres;exact hres)
    · rw[if_pos (by simpa using h2)]at hres;exact ih (i+1) l h a n c (by omega) (by omega) hBn ok gd ft kp A hres
  · have h1:=lt_of_t (by simpa using h1);rw[if_pos h1]at hres;exact ih (i+1) l h a n c (by omega) (by omega) hBn ok gd ft kp A hres
theorem ct130 {g0 h:Hp}{B:Nat}(hB:g0.nx≤B)(hBn:B≤h.nx)(ok:h.Ok)(gd:GdLt h B) [ft:Ft g0 h] {aw:Option Addr}{nw cw:Nat}{ws:List Int}(X:IntsAt g0 aw nw ws)(hX: ∀x∈ws,In64 x)(lX:ws.length<100000){fr:Nat}{l:List Nat}(ll:l.length≤100000){a:Option Addr}{n c:Nat}(A:AccI 3 h B a n c (l.map Int.ofNat)){K:Option Addr→Nat→Nat→Hp→Prop}(next: ∀a n c h',AccI 3 h' B a n c ((withP fr ws l).map Int.ofNat)→Kp B h h'→K a n c h'):
 ∃a' n' c' h',EvT O 130 [.slice a n c,.slice aw nw cw,.int .i64 (Int.ofNat fr)] h (.slice a' n' c') h'∧K a' n' c' h':=by
 refine Ret.s (R:=fun a n c h'=>AccI 3 h' B a n c ((withP fr ws l).map Int.ofNat)∧Kp B h h') ?_ (fun a n c h' q=>next a n c h' q.1 q.2);refine rk130 _ _ _ _ _ _ _ (hO _ _ _ (by decide)) ?_;unfold T130;exact lp130 hO hB X hX lX a n c (fun a n c h' A' k=>⟨a,n,c,rfl,A',k⟩) ws.length 0 l h a n c (by omega) ll hBn ok gd ft (Kp.refl _ _) A rfl
theorem ct68 {g0 g:Hp} [f0:Ft g0 g] {aw:Option Addr}{nw cw:Nat}{W:List Int}{top:Int}(HW:SI g0 aw nw cw W)(hW: ∀x∈W,In64 x)(lW:W.length<1000000){ar:Option Addr}{nr cr:Nat}{p:Nat}(hc:CellAt W p){K:Option Addr→Nat→Nat→Hp→Prop}(next: ∀a n c h',IntsAt g0 a n (strongP W p)→Kp g.nx g h'→K a n c h'):
 ∃a n c h',EvT O 68 [.agg #[.slice aw nw cw,.int .i64 top,.slice ar nr cr],.int .i64 (Int.ofNat p)] g (.slice a n c) h'∧K a n c h':=by
 refine Ret.s (R:=fun a n c h'=>IntsAt g0 a n (strongP W p)∧Kp g.nx g h') ?_ (fun a n c h' q=>next a n c h' q.1 q.2);refine rk68 _ _ _ _ _ _ _ _ (hO _ _ _ (by decide)) ?_;unfold T68;intro g1;obtain⟨c1,c2,c3,c4⟩:=hc;have s1:g1.get g.nx=some (.cells [.slice aw nw cw,.int .i64 top,.slice ar nr cr] 24 .fix):=get_add_same ..;have k1:Kp g.nx g g1:=(Kp.refl _ g).add (Nat.le_refl _) _;haveI:Ft g0 g1:=f0.tr (k1.ex (Nat.le_refl _));have gW:W.getD p 0=W[p]:=by simp[List.getD,List.getElem?_eq_getElem c1]
 refine⟨_,_,_,read1 (i:=0) s1 rfl,isNat_i (HW.at_.rd c1 ⟨_,_,ct90 hO _ _,?_⟩)⟩;rw[←gW];have part:keepB (hdK (W.getD p 0))=true→ ∃a n c h',EvT O 122 [.agg #[.slice aw nw cw,.int .i64 top,.slice ar nr cr],.int .i64 (Int.ofNat p)] g1 (.slice a n c) h'∧ ∃a2 n2 c2,Value.slice a n c= .slice a2 n2 c2∧IntsAt g0 a2 n2 (strongP W p)∧Kp g.nx g h':=fun hk=>by
  refine ct122 hO HW hW lW c1 c2 c3 c4 fun a n c h' F k=>⟨a,n,c,rfl,?_,k1.trans (k.le (Nat.le_succ _))⟩;unfold strongP;rw[if_pos hk];exact F.at_
 refine vcond_split (fun h1=> ?_) fun h1=> ?_
 · exact⟨_,_,_,_,_,_,_,rd3 s1,part (by rw[eq_of_t h1];rfl)⟩
 · refine vcond_split (fun h2=> ?_) fun h2=> ?_
   · exact⟨_,_,_,_,_,_,_,rd3 s1,part (by rw[eq_of_t h2];rfl)⟩
   · refine⟨none,0,0,rfl,?_,k1⟩;unfold strongP;rw[if_neg (by rw[keepB_f (ne_of_f h1) (ne_of_f h2)];exact Bool.false_ne_true)];exact SlAt.nil ..
theorem lp70 {g:Hp}(okg:g.Ok){aw:Option Addr}{nw cw:Nat}{W:List Int}{top:Int}(HW:SI g aw nw cw W)(hW: ∀x∈W,In64 x)(lW:W.length<1000000){ar:Option Addr}{nr cr:Nat}{fr:Nat}{Q:Value→Hp→Prop}(a0:Option Addr)(n0 c0:Nat)(x0:Int)(a2:Option Addr)(n2 c2:Nat)(a1:Option Addr)(n1 c1:Nat){res:List Nat}(next: ∀a n c h,AccI 3 h (g.nx+1) a n c (res.map Int.ofNat)→Kp g.nx g h→Q (.slice a n c) h):
 ∀(f i:Nat) (l:List Nat) (h:Hp) (a:Option Addr) (n c:Nat),i≤100000→reachO W fr f i l=some res→l.length≤100000→g.nx+1≤h.nx→h.Ok→Kp g.nx g h→h.get g.nx=some (.cells [.slice aw nw cw,.int .i64 top,.slice ar nr cr] 24 .fix)→AccI 3 h (g.nx+1) a n c (l.map Int.ofNat)→
 I70_0 O Q a0 n0 c0 x0 a2 n2 c2 a1 n1 c1 (Int.ofNat fr) g.nx 0 a n c (Int.ofNat i) h:=by
 intro f
 induction f with
 |zero=>intro i l h a n c _ hr;cases hr
 |succ f ih=>
  intro i l h a n c hi hr ll hBn ok kp gb A;have L:IntsAt h a n (l.map Int.ofNat):=A.ints;have hn:=L.1;rw[List.length_map]at hn;subst hn;refine I70_0.of _ _ _ _ _ _ _ _ _ _ _ _ _ _ _ _ _ ?_;unfold T70_0;unfold reachO at hr;by_cases hil:i<l.length
  · rw[if_pos hil]at hr;split at hr
    · rename_i hcl;obtain⟨hc,h1000⟩:=hcl;have gl:l.getD i 0=l[i]:=by simp[List.getD,List.getElem?_eq_getElem hil]
      rw[gl]at hc hr;refine vcond_t (by rw[ltI_nat];exact blt_t hil) ?_;intro g101;have kp1:Kp g.nx g g101:=kp.rsv 10;haveI:Ft g (g101.grd []):=kp1.ex (Nat.le_refl _);refine⟨_,_,_,_,_,_,_,rd3 (show g101.get g.nx=_ from gb),isNat_i (IntsAt.get L (k:=i) (by simpa using hil) fun b off ha hb hr'=>vreq_t (blt_t hil) ⟨_,hr',?_⟩)⟩;rw[List.getElem_map];refine ct68 hO HW hW lW hc fun a3 n3 c3 h116 S k116=> ?_;intro g117;have n116:h.nx+10≤h116.nx:=k116.nx;have k117:Kp h.nx h g117:=⟨fun o ho=>k116.get o (by show o<h.nx+10;omega),by show h.nx≤h116.nx;omega,rfl,fun f=>k116.fr (ok.rsv 10).fr⟩;have kpg:Kp g.nx g g117:=kp.trans (k117.le kp.nx);haveI:Ft g (g117.grd []):=kpg.ex (Nat.le_refl _);have okg7:(g117.grd []).Ok:=ok.kp k117;have A7:AccI 3 (g117.grd []) (g.nx+1) a l.length c (l.map Int.ofNat):=A.keep (fun o ho _=>k117.get o ho) k117.nx;have gd7:GdLt (g117.grd []) (g.nx+1):=fun q hq=>by have:=okg.lt.kp kpg q hq;omega
      have l20:=strong_len hc;refine ct130 hO (h:=g117.grd []) (Nat.le_succ _) (Nat.le_trans hBn k117.nx) okg7 gd7 S (fun x hx=>hW x (strong_mem hx)) (by omega) ll A7 fun a' n' c' h121 A' k121=> ?_;intro g122;have n121:h116.nx≤h121.nx:=k121.nx;have l2:=(withP_length fr (strongP W l[i]) l).2;rw[wrap_succ (by omega)];refine ih (i+1) _ g122 a' n' c' (by omega) hr (by omega) (by show g.nx+1≤h121.nx;omega) ⟨fun q hq=>by have:=ok.gd q hq;show q<h121.nx;omega,k121.fr okg7.fr⟩ ⟨fun o ho=>(k121.get o (by omega)).trans (kpg.get o ho),by have:=kp.nx;show g.nx≤h121.nx;omega,kp.gd,fun _=>k121.fr okg7.fr⟩ ((k121.get _ (Nat.lt_succ_self _)).trans ((k117.get _ (by omega)).trans gb)) (A'.keep (fun _ _ _=>rfl) (Nat.le_refl _))
    · cases hr
  · rw[if_neg hil]at hr;obtain rfl:=Option.some.inj hr;exact vcond_f (by rw[ltI_nat];exact blt_f hil) (next _ _ _ _ A kp)
theorem ct70 {g0 g:Hp} [f0:Ft g0 g] (okg:g.Ok){aw:Option Addr}{nw cw:Nat}{W:List Int}{top:Int}(HW:SI g0 aw nw cw W)(hW: ∀x∈W,In64 x)(lW:W.length<1000000){ar:Option Addr}{nr cr:Nat}{fr:Nat}{a1:Option Addr}{n1 c1:Nat}{ws:List Int}(X:IntsAt g a1 n1 ws)(hX: ∀x∈ws,In64 x)(lX:ws.length<100000){f:Nat}{res:List Nat}(hr:reachO W fr f 0 (withP fr ws [])=some res){K:Option Addr→Nat→Nat→Hp→Prop}(next: ∀a n c h',AccI 3 h' (g.nx+1) a n c (res.map Int.ofNat)→Kp g.nx g h'→K a n c h'):
 ∃a n c h',EvT O 70 [.agg #[.slice aw nw cw,.int .i64 top,.slice ar nr cr],.slice a1 n1 c1,.int .i64 (Int.ofNat fr)] g (.slice a n c) h'∧K a n c h':=by
 refine Ret.s (R:=fun a n c h'=>AccI 3 h' (g.nx+1) a n c (res.map Int.ofNat)∧Kp g.nx g h') ?_ (fun a n c h' q=>next a n c h' q.1 q.2);refine rk70 _ _ _ _ _ _ _ _ _ _ _ (hO _ _ _ (by decide)) ?_;unfold T70;intro g1;have k1:Kp g.nx g g1:=(Kp.refl _ g).add (Nat.le_refl _) _;haveI:Ft g g1:=k1.ex (Nat.le_refl _);have ok1:g1.Ok:=okg.add _;refine ct130 hO (g0:=g) (B:=g.nx+1) (Nat.le_succ _) (Nat.le_refl _) ok1 (fun q hq=>by have:=okg.gd q hq;omega) X hX (by omega) (l:=[]) (by simp) (AccI.nil ..) fun a n c h' A k=> ?_;have l2:=(withP_length fr ws []).2;simp only[List.length_nil]at l2;exact lp70 hO okg (HW.to g) hW lW aw nw cw top ar nr cr a1 n1 c1 (fun a n c h A k=>⟨a,n,c,rfl,A,k⟩) f 0 _ h' a n c (by omega) hr (by omega) (Nat.le_trans (Nat.le_refl _) k.nx) (ok1.kp k) (k1.trans (k.le (Nat.le_succ _))) ((k.get _ (Nat.lt_succ_self _)).trans (get_add_same ..)) A
end
abbrev By:=Mv→Int→Option (Mv×Int)
def Mv.put (s:Mv)(i:Nat)(v:Int):Mv:= { s with D:=s.D.set i v }
def chgIn (by_:By):Nat→Nat→Mv→Option Mv
 |0,_,s=>some s
 |k+1,i,s=>if i<s.D.length then (by_ s (s.D.getD i 0)).bind fun r=>chgIn by_ k (i+1) (r.1.put i r.2)else none
def chgO (isF:Int→Bool)(by_:By):Nat→Nat→Mv→Option Mv
 |0,_,_=>none
 |f+1,p,s=>if p<s.top then
   (if p<s.D.length∧0≤hdS (s.D.getD p 0)∧hdS (s.D.getD p 0)≤20 then
     (if isF (hdK (s.D.getD p 0))then (chgIn by_ (hdS (s.D.getD p 0)).toNat (p+1) s).bind fun s'=>chgO isF by_ f (p+1+(hdS (s.D.getD p 0)).toNat) s'
     else chgO isF by_ f (p+1+(hdS (s.D.getD p 0)).toNat) s)
   else none)
  else some s
theorem MvAt.put {p:Pl}{g h:Hp}{W:List Int}{s:Mv}{a:Option Addr}{no co:Nat}(P:p.Ok g W)(gd:Gd p h)(m:MvAt p h s a no co){i:Nat}(hi:i<s.D.length){v:Int}(hv:In64 v):
 canW h p.oW (0+i*1) [.int .i64 v]=true∧MvAt p (h.wr p.oW (0+i*1) [.int .i64 v]) (s.put i v) a no co∧Mvd p h (h.wr p.oW (0+i*1) [.int .i64 v]) a a:=by
 have l:0+i*1+ [Value.int .i64 v].length≤(s.D.map (Value.int .i64)).length:=by simp;omega
 have w:=wr_get m.D (by decide) gd.W l rfl;have mnx:=m.nx;have:=P.tM;have:=P.wM;have:=P.tw;have:=P.B;refine⟨canW_t m.D (by decide) gd.W l rfl,⟨(wr_get_ne _ _ _ _ (by omega)).trans m.M,(wr_get_ne _ _ _ _ (by omega)).trans m.T,?_,m.A.keep (fun o ho ha=>wr_get_ne _ _ _ _ fun hh=>m.ne (o:=o) (off:=0) (by omega) ha) (by rw[nx_wr];exact Nat.le_refl _),m.lT,by show(s.D.set i v).length=_;rw[List.length_set];exact m.lD,m.bT,fun x hx=> ?_,by rw[nx_wr];exact m.nx⟩,⟨fun o _ _ _ h3 _=>wr_get_ne _ _ _ _ h3,by rw[nx_wr];exact Nat.le_refl _,gd_wr ..,fun f=>f.wr _ _ _,.inl rfl⟩⟩
 · rw[w,Nat.zero_add,Nat.mul_one,putAt_map (Value.int .i64) hi];rfl
 · rcases List.mem_or_eq_of_mem_set hx with h|rfl
   · exact m.bD x h
   · exact hv
theorem MvAt.rdD {p:Pl}{h:Hp}{s:Mv}{a:Option Addr}{n c:Nat}(m:MvAt p h s a n c){i:Nat}(hi:i<s.D.length):readAt h p.oW (0+i*1) 1=some [.int .i64 (s.D.getD i 0)]:=by
 rw[Nat.zero_add,Nat.mul_one];exact read1 m.D (by simp[List.getElem?_eq_getElem hi,List.getD])
theorem MvAt.inD {p:Pl}{h:Hp}{s:Mv}{a:Option Addr}{n c:Nat}(m:MvAt p h s a n c){i:Nat}(hi:i<s.D.length):In64 (s.D.getD i 0):=by
 rw[show s.D.getD i 0=s.D[i] by simp[List.getD,List.getElem?_eq_getElem hi]];exact m.bD _ (List.getElem_mem hi)
section
variable {O:CallF}(hO:Oth O)
include hO
def ByOk (O:CallF)(p:Pl)(g:Hp)(g3:Nat)(fi ca:Array Value)(by_:By):Prop:= ∀h s ao no co w s' v,h.Ok→Gd p h→Kp g.nx g h→MvAt p h s ao no co→In64 w→by_ s w=some (s',v)→
 Ret Tryz.prog O g3 (fi.toList++[.int .i64 w]++ca.toList) h fun v' h'=>v'= .int .i64 v∧In64 v∧ ∃ao' no' co',MvAt p h' s' ao' no' co'∧Mvd p h h' ao ao'
def IsOk (O:CallF)(g2:Nat)(fi ca:Array Value)(isF:Int→Bool):Prop:= ∀(h:Hp) (s k:Int),Ret Tryz.prog O g2 (fi.toList++[.agg #[.int .i64 s,.int .i64 k]]++ca.toList) h fun v h'=>v= .bool (isF k)∧Kp h.nx h h'
omit hO in
theorem lp118_1 {p:Pl}{g h0:Hp}{W:List Int}(P:p.Ok g W){g2 g3 g2s:Nat}{fi2 ca2 fi3 ca3 fi2s ca2s:Array Value}{g30:Nat}{fi30 ca30:Array Value}{by_:By}(hby:ByOk O p g g30 fi30 ca30 by_){Q:Value→Hp→Prop}{x1:Int}{a0:Option Addr}{p0 sz:Nat}{kd:Int}{b9:Nat}(hb9:p.B≤b9){s2:Mv}(hp0:p0+1+sz<2000000)
 (next: ∀h ao no co,h.Ok→Gd p h→Kp g.nx g h→MvAt p h s2 ao no co→Mvd p h0 h a0 ao→I118_0 O Q p.M 0 x1 g2 fi2 ca2 g3 fi3 ca3 g2s fi2s ca2s g30 fi30 ca30 (Int.ofNat (p0+1+sz)) h):
 ∀(k i:Nat) (s:Mv) (h:Hp) (ao:Option Addr) (no co:Nat),chgIn by_ k i s=some s2→i+k=p0+1+sz→h.Ok→Gd p h→Kp g.nx g h→MvAt p h s ao no co→Mvd p h0 h a0 ao→b9<h.nx→h.get b9=some (.cells [.int .i64 (Int.ofNat sz),.int .i64 kd] 117 .fix)→(∀off,ao≠some ⟨b9,off,none⟩)→
 I118_1 O Q p.M 0 x1 g2 fi2 ca2 g3 fi3 ca3 g2s fi2s ca2s g30 fi30 ca30 (Int.ofNat p0) b9 0 (Int.ofNat i) h:=by
 have PM:=P.M;have PtM:=P.tM;have PwM:=P.wM;have PB:=P.B;intro k
 induction k with
 |zero=>
  intro i s h ao no co hc hi ok gd kp m md hbn hb hne;obtain rfl:=Option.some.inj (show some s=some s2 from hc);refine I118_1.of _ _ _ _ _ _ _ _ _ _ _ _ _ _ _ _ _ _ _ ?_;unfold T118_1;have w1:wrapF .i64 (Int.ofNat p0+Int.ofNat sz)=Int.ofNat (p0+sz):=by rw[wrap64 (by simp;omega) (by simp;omega)];simp
  have w2:wrapF .i64 (Int.ofNat p0+wrapF .i64 (1+Int.ofNat sz))=Int.ofNat (p0+1+sz):=by
   rw[wrap64 (n:=1+Int.ofNat sz) (by simp;omega) (by simp;omega),wrap64 (by simp;omega) (by simp;omega)];simp;omega
  refine⟨_,read1 (i:=0) hb rfl,?_⟩;rw[w1];refine vcond_f (by rw[ltI_nat,blt_t (by omega)];rfl) ⟨_,read1 (i:=0) hb rfl,?_⟩;rw[w2];exact next h ao no co ok gd kp m md
 |succ k ih=>
  intro i s h ao no co hc hi ok gd kp m md hbn hb hne;unfold chgIn at hc;split at hc
  · rename_i hiD;obtain⟨⟨s',v⟩,h1,h2⟩:=Option.bind_eq_some_iff.1 hc;refine I118_1.of _ _ _ _ _ _ _ _ _ _ _ _ _ _ _ _ _ _ _ ?_;unfold T118_1;have w1:wrapF .i64 (Int.ofNat p0+Int.ofNat sz)=Int.ofNat (p0+sz):=by rw[wrap64 (by simp;omega) (by simp;omega)];simp
    refine⟨_,read1 (i:=0) hb rfl,?_⟩;rw[w1];have hin:i<p.n:=by have:=m.lD;omega
    refine vcond_t (by rw[ltI_nat,blt_f (by omega)];rfl) ⟨_,_,_,m.rd (i:=4) rfl,isNat_i ?_⟩;show vreq _ _;refine vreq_t (blt_t hin) ⟨_,m.rdD hiD,?_⟩;obtain⟨v',h3,e3,rfl,hv,ao',no',co',m',md'⟩:=hby h s ao no co _ s' v ok gd kp m (m.inD hiD) h1;have gd3:=gd.of md'.gd;have kp3:=md'.kp P kp m;have hb3:h3.get b9=_:=(md'.get b9 hbn (by omega) (by omega) (by omega) hne).trans hb;have hiD':i<s'.D.length:=by have:=m'.lD;omega
    obtain⟨c1,m4,md4⟩:=m'.put P gd3 hiD' hv;refine⟨_,_,e3,_,_,_,m'.rd (i:=4) rfl,isNat_i ?_⟩;show vreq _ _;refine vreq_t (blt_t hin) (vreq_t c1 ?_);intro g217;rw[wrap_succ (by omega)];have PW:=P.oW;refine ih (i+1) _ g217 ao' no' co' h2 (by omega) (md4.ok (md'.ok ok)) (gd3.of md4.gd) (md4.kp P kp3 m') m4 (md.trans (md'.trans md4)) (Nat.lt_of_lt_of_le hbn (Nat.le_trans md'.nx md4.nx)) ((wr_get_ne _ _ _ _ (by omega)).trans hb3) fun off hh=> ?_;rcases md'.ao with e|e
    · rw[e]at hh;exact hne off hh
    · have:=e b9 off hh;omega
  · cases hc
theorem lp118 {p:Pl}{g h0:Hp}{W:List Int}(P:p.Ok g W){g2 g3 g20:Nat}{fi2 ca2 fi3 ca3 fi20 ca20:Array Value}{g30:Nat}{fi30 ca30:Array Value}{by_:By}{isF:Int→Bool}(hby:ByOk O p g g30 fi30 ca30 by_)(his:IsOk O g20 fi20 ca20 isF){Q:Value→Hp→Prop}{x1:Int}{a0:Option Addr}{s2:Mv}
 (next: ∀h ao no co,MvAt p h s2 ao no co→Mvd p h0 h a0 ao→Q undef h):
 ∀(f i:Nat) (s:Mv) (h:Hp) (ao:Option Addr) (no co:Nat),chgO isF by_ f i s=some s2→h.Ok→Gd p h→Kp g.nx g h→MvAt p h s ao no co→Mvd p h0 h a0 ao→
 I118_0 O Q p.M 0 x1 g2 fi2 ca2 g3 fi3 ca3 g20 fi20 ca20 g30 fi30 ca30 (Int.ofNat i) h:=by
 intro f
 induction f with
 |zero=>intro i s h ao no co hc;cases hc
 |succ f ih=>
  intro i s h ao no co hc ok gd kp m md;have PM:=P.M;have PtM:=P.tM;have PwM:=P.wM;have PB:=P.B;refine I118_0.of _ _ _ _ _ _ _ _ _ _ _ _ _ _ _ _ ?_;unfold T118_0;refine⟨_,m.rd (i:=5) rfl,?_⟩;unfold chgO at hc;by_cases hit:i<s.top
  · rw[if_pos hit]at hc;split at hc
    · rename_i hd;obtain⟨hiD,s0,s20⟩:=hd;have hin:i<p.n:=by have:=m.lD;omega
      have Pn:=P.n;refine vcond_t (by rw[ltI_nat];exact blt_t hit) ⟨_,_,_,m.rd (i:=4) rfl,isNat_i ?_⟩;show vreq _ _;refine vreq_t (blt_t hin) ⟨_,m.rdD hiD,ct86 hO ok (m.inD hiD) fun h2 k2=> ?_⟩;obtain⟨sz,hsz⟩: ∃m:Nat,hdS (s.D.getD i 0)=Int.ofNat m:=Int.eq_ofNat_of_zero_le s0;have hsz2:sz≤20:=by rw[hsz]at s20;exact Int.ofNat_le.1 s20
      have tsz:(hdS (s.D.getD i 0)).toNat=sz:=by rw[hsz];rfl
      rw[tsz]at hc;rw[hsz];generalize hkd:hdK (s.D.getD i 0)=kd at hc ⊢;intro g3';have ok2:=ok.kp k2;obtain⟨c1,w1⟩:=two_wr ok2 117 (.int .i64 0) (.int .i64 0) (.int .i64 (Int.ofNat sz)) (.int .i64 kd) rfl;refine vreq_t c1 ?_;intro g4;have k4:Kp h2.nx h2 g4:=((Kp.refl _ h2).add (Nat.le_refl _) _).wr (Nat.le_refl _) _ _;have n4:g4.nx=h2.nx+1:=by show(Hp.wr _ _ _ _).nx=_;rw[nx_wr,nx_add]
      refine⟨_,_,by rw[readAt_get w1 (by simp)];rfl,?_⟩;obtain⟨v,h5,e5,rfl,k5⟩:=his g4 (Int.ofNat sz) kd;have n2:=k2.nx;have n5:=k5.nx;have mnx:=m.nx;have k05:Kp h.nx h h5:=(k2.trans (k4.le n2)).trans (k5.le (by omega));have m5:=m.kp P k05;have md5:=md.trans (Mvd.kpn k05);have ok5:=ok.kp k05;have gd5:=gd.of k05.gd;have kp5:=kp.trans (k05.le kp.nx);have w5:h5.get h2.nx=_:=(k5.get _ (by omega)).trans w1;refine⟨_,_,e5,vcond_split (fun h6=> ?_) fun h6=> ?_⟩
      · rw[if_pos h6]at hc;obtain⟨s',h7,h8⟩:=Option.bind_eq_some_iff.1 hc;rw[wrap_succ (by omega)];refine lp118_1 P hby (b9:=h2.nx) (by omega) (s2:=s') (by omega) (fun h9 ao9 no9 co9 ok9 gd9 kp9 m9 md9=>ih _ s' h9 ao9 no9 co9 h8 ok9 gd9 kp9 m9 md9) sz (i+1) s h5 ao no co h7 (by omega) ok5 gd5 kp5 m5 md5 (by omega) w5 fun off hh=> ?_;rcases m.A with ⟨e,_⟩|⟨o,e,_,_,_,ho,_⟩
        · rw[e]at hh;cases hh
        · rw[e]at hh;injection hh with hh;injection hh with hh;omega
      · rw[if_neg (by rw[h6];exact Bool.false_ne_true)]at hc;refine⟨_,read1 (i:=0) w5 rfl,?_⟩;have w2:wrapF .i64 (Int.ofNat i+wrapF .i64 (1+Int.ofNat sz))=Int.ofNat (i+1+sz):=by
         rw[wrap64 (n:=1+Int.ofNat sz) (by simp;omega) (by simp;omega),wrap64 (by simp;omega) (by simp;omega)];simp;omega
        rw[w2];exact ih _ s h5 ao no co hc ok5 gd5 kp5 m5 md5
    · cases hc
  · rw[if_neg hit]at hc;obtain rfl:=Option.some.inj hc;exact vcond_f (by rw[ltI_nat];exact blt_f hit) (next h ao no co m md)
theorem ct118 {p:Pl}{g h:Hp}{W:List Int}(P:p.Ok g W){g2 g3:Nat}{fi2 ca2 fi3 ca3:Array Value}{by_:By}{isF:Int→Bool}(hby:ByOk O p g g3 fi3 ca3 by_)(his:IsOk O g2 fi2 ca2 isF){s s2:Mv}{ao:Option Addr}{no co:Nat}{i f:Nat}(hc:chgO isF by_ f i s=some s2)(ok:h.Ok)(gd:Gd p h)(kp:Kp g.nx g h)(m:MvAt p h s ao no co):
 Ret Tryz.prog O 118 [.pointer (some ⟨p.M,0,none⟩),.int .i64 (Int.ofNat i),.func (.func g2) fi2 ca2,.func (.func g3) fi3 ca3] h fun v' h'=>v'=undef∧ ∃ao' no' co',MvAt p h' s2 ao' no' co'∧Mvd p h h' ao ao':=by
 refine rk118 _ _ _ _ _ _ _ _ _ (hO _ _ _ (by decide)) ?_;unfold T118;exact lp118 hO P hby his (fun h' ao' no' co' m' md'=>⟨rfl,ao',no',co',m',md'⟩) f i s h ao no co hc ok gd kp m (.refl ..)
theorem is119:IsOk O 119 #[] #[] keepB:=fun h s k=>by
 obtain⟨q,h',e,hk⟩:=ct119 hO (h:=h) (s:=s) (k:=k) (K:=fun q h'=>q=keepB k∧Kp h.nx h h') fun h' k'=>⟨rfl,k'⟩;exact⟨_,h',e,by rw[hk.1],hk.2⟩
theorem is120:IsOk O 120 #[] #[] (fun k=>k==5):=fun h s k=>by
 show Ret Tryz.prog O 120 [.agg #[.int .i64 s,.int .i64 k]] h _;refine rk120 _ _ (hO _ _ _ (by decide)) ?_;unfold T120;intro g1;refine⟨_,read1 (i:=1) (get_add_same ..) rfl,?_,(Kp.refl _ h).add (Nat.le_refl _) _⟩;congr 1;rw[Bool.eq_iff_iff,eqI_eq]
omit hO in
theorem dblIn {x n:Nat}(h:x≤n)(hn:n<1000000):In64 (2*(x:Int)):=⟨by omega,by omega⟩
omit hO in
theorem MvAt.tIn {p:Pl}{h:Hp}{s:Mv}{a:Option Addr}{n c:Nat}(m:MvAt p h s a n c)(i:Nat):s.T.getD i 0≤p.n:=by
 by_cases hi:i<s.T.length
 · rw[show s.T.getD i 0=s.T[i] by simp[List.getD,List.getElem?_eq_getElem hi]];exact m.bT _ (List.getElem_mem hi)
 · rw[show s.T.getD i 0=0 by simp[List.getD,List.getElem?_eq_none (Nat.le_of_not_lt hi)]];exact Nat.zero_le _
theorem by117 {p:Pl}{g:Hp}{W:List Int}(P:p.Ok g W):ByOk O p g 117 #[.pointer (some ⟨p.M,0,none⟩)] #[] (moveO W p.fr):=fun h s ao no co w s' v ok gd kp m hw hs=>by
 obtain⟨v',h',e,rfl,q⟩:=ct117 hO P ok gd (kp.ex (Nat.le_refl _)) m hw hs;refine⟨_,h',e,rfl,?_,q⟩;unfold moveO at hs;split at hs
 · injection hs with hs;injection hs with e1 e2;subst e2;exact hw
 split at hs
 · injection hs with hs;injection hs with e1 e2;subst e2;exact hw
 split at hs
 · split at hs
   · injection hs with hs;injection hs with e1 e2;subst e2;exact dblIn (m.tIn _) P.n
   · split at hs
     · rename_i h5;injection hs with hs;injection hs with e1 e2;subst e2;have:=m.lD;exact dblIn (n:=p.n) (by omega) P.n
     · cases hs
 · cases hs
theorem by121 {p:Pl}{g:Hp}{W:List Int}(P:p.Ok g W):ByOk O p g 121 #[.pointer (some ⟨p.M,0,none⟩)] #[] (weakO W p.fr):=fun h s ao no co w s' v ok gd kp m hw hs=>by
 obtain⟨v',h',e,rfl,rfl,rfl⟩:=ct121 hO P m hw hs;refine⟨_,_,e,rfl,?_,_,_,_,m,.refl ..⟩;unfold weakO at hs;split at hs
 · injection hs with hs;injection hs with e1 e2;subst e2;exact hw
 split at hs
 · injection hs with hs;injection hs with e1 e2;subst e2;exact hw
 split at hs
 · injection hs with hs;injection hs with e1 e2;subst e2;exact dblIn (m.tIn _) P.n
 · cases hs
end
def movesO (W:List Int)(fr:Nat):List Int→Mv→Option (Mv×List Int)
 | [],s=>some (s,[])
 |w::ws,s=>(moveO W fr s w).bind fun r=>(movesO W fr ws r.1).map fun q=>(q.1,r.2::q.2)
def startM (W:List Int)(fr:Nat):Mv:=⟨List.replicate W.length 0,[],putAt (List.replicate W.length 0) 0 (W.take fr),fr⟩
def runO (W:List Int)(fr:Nat)(R more:List Int):Option (Mv×List Int×List Int):=
 (movesO W fr R (startM W fr)).bind fun a=>(movesO W fr more a.1).bind fun b=>(chgO keepB (moveO W fr) (W.length+2) 1 b.1).bind fun c=>(chgO (fun k=>k==5) (weakO W fr) (W.length+2) 1 c).map fun d=>(d,a.2,b.2)
def Dis (a b:Option Addr):Prop:= ∀o off off',a=some ⟨o,off,none⟩→b≠some ⟨o,off',none⟩
theorem Dis.new {a a' b:Option Addr}{n:Nat}(d:Dis a b)(h:a'=a∨ ∀o off,a'=some ⟨o,off,none⟩→n≤o)(hb: ∀o off,b=some ⟨o,off,none⟩→o<n):Dis a' b:=by
 rcases h with rfl|h
 · exact d
 · intro o off off' e1 e2;have:=h o off e1;have:=hb o off' e2;omega
theorem Dis.of {a b:Option Addr}{n:Nat}(h: ∀o off,a=some ⟨o,off,none⟩→n≤o)(hb: ∀o off,b=some ⟨o,off,none⟩→o<n):Dis a b:=fun o off off' e1 e2=>by
 have:=h o off e1;have:=hb o off' e2;omega
theorem Dis.symm {a b:Option Addr}(d:Dis a b):Dis b a:=fun o off off' e1 e2=>d o off' off e2 e1
theorem Acc.blk {h:Hp}{base:Nat}{e:TypeId}{w:Nat}{a:Option Addr}{n c:Nat}{xs:List Value}(A:Acc h base e w a n c xs): ∀o off,a=some ⟨o,off,none⟩→o<h.nx:=fun o off ha=>by
 rcases A with ⟨h1,_⟩|⟨q,h1,_,_,_,h2,_⟩
 · rw[h1]at ha;cases ha
 · rw[h1]at ha;injection ha with ha;injection ha with ha;omega
theorem Acc.off {h:Hp}{base:Nat}{e:TypeId}{w:Nat}{a:Option Addr}{n c:Nat}{xs:List Value}(A:Acc h base e w a n c xs): ∀o off,a=some ⟨o,off,none⟩→off=0:=fun o off ha=>by
 rcases A with ⟨h1,_⟩|⟨q,h1,_⟩
 · rw[h1]at ha;cases ha
 · rw[h1]at ha;injection ha with ha;injection ha with ha hb;exact hb.symm
theorem MvAt.upd {p:Pl}{h h':Hp}{s:Mv}{a:Option Addr}{n c:Nat}(m:MvAt p h s a n c)(hM:h'.get p.M=h.get p.M)(hT:h'.get p.oT=h.get p.oT)(hW:h'.get p.oW=h.get p.oW)(ha: ∀o,a=some ⟨o,0,none⟩→o<h.nx→h'.get o=h.get o)(nx:h.nx≤h'.nx):MvAt p h' s a n c:=
 ⟨hM.trans m.M,hT.trans m.T,hW.trans m.D,m.A.keep (fun o ho ha'=>ha o ha' ho) nx,m.lT,m.lD,m.bT,m.bD,Nat.le_trans m.nx nx⟩
theorem fm_map (f:Int→Value)(xs:List Int):(xs.flatMap fun x=>[f x])=xs.map f:=by
 induction xs with
 |nil=>rfl
 |cons x xs ih=>rw[List.flatMap_cons,ih];rfl
theorem appRI {h:Hp}{base:Nat}{a:Option Addr}{n c:Nat}{xs:List Int}(A:AccI 3 h base a n c xs)(hb:base≤h.nx)(hg:GdLt h base){q:Nat}(hq:h.get q=none)(hq2:q<h.nx)(hqb:base≤q){l:List Nat}(hlE: ∀i∈l,i<base){x:Int}(hl:xs.length<1000000)
 {K:Option Addr→Nat→Nat→Hp→Prop} (next: ∀a' n' c' h',AccI 3 (h'.rst (h.lay q (.cells [.int .i64 x] 3 .fix))) base a' n' c' (xs++[x])→(∀p,a'=some ⟨p,0,none⟩→h.nx≤p)→AppK (h.lay q (.cells [.int .i64 x] 3 .fix)) (h'.rst (h.lay q (.cells [.int .i64 x] 3 .fix))) a→Kp base h (h'.rst (h.lay q (.cells [.int .i64 x] 3 .fix)))→K a' n' c' h'):
 vreq (h.free q) (let g:=h.lay q (.cells [.int .i64 x] 3 .fix); ∃a' n' c' h',appendV Tryz.prog (g.grd l) 22 22 (.slice a n c) (.slice (some ⟨q,0,none⟩) 1 1)=some (.slice a' n' c',h')∧K a' n' c' h'):=by
 have hn:n=xs.length:=A.ints.1;have A2:Acc h base 3 1 a n c (xs.flatMap fun x=>[.int .i64 x]):=by rw[fm_map];exact A
 exact appR (enc:=fun x=>[.int .i64 x]) (fun _=>rfl) (fun _=>rfl) AppT22 A2 hb hg hq hq2 hqb hlE (x:=x) (by omega) (by unfold big;omega) fun a' c' h' A' fr k1 k2=>next a' _ c' h' (by rw[fm_map]at A';exact A') fr k1 k2
structure RunI (p:Pl)(g:Hp)(b6 b10:Nat)(s:Mv)(ao:Option Addr)(no co:Nat)(ar:Option Addr)(nr cr:Nat)(r:List Int)(h:Hp):Prop where
 ok:h.Ok
 kp:Kp g.nx g h
 m:MvAt p h s ao no co
 out:h.get b10=some (.cells [.slice none 0 0,.int .i64 0,.slice ar nr cr] 24 .fix)
 r6:h.get b6=some (.cells [.slice none 0 0,.int .i64 0,.slice none 0 0] 24 .fix)
 A:AccI 3 h p.B ar nr cr r
 dis:Dis ao ar
structure Two (p:Pl)(g:Hp)(b6 b10:Nat):Prop where
 g6:g.nx≤b6
 g10:g.nx≤b10
 l6:b6<p.B
 l10:b10<p.B
 m6:b6≠p.M∧b6≠p.oT∧b6≠p.oW
 m10:b10≠p.M∧b10≠p.oT∧b10≠p.oW
 ne:b6≠b10
theorem Gd.low {p:Pl}{g h:Hp}{W:List Int}(P:p.Ok g W)(ok:g.Ok)(k:Kp g.nx g h):Gd p h:=by
 have gd:=ok.lt.kp k;have:=P.M;have:=P.B;exact⟨fun q hq=>by have:=gd q hq;omega,gd.free P.M,gd.free P.oT,gd.free P.oW⟩
theorem grd_free {h:Hp}{q o:Nat}(hu:h.guarded o=false)(hq:q≠o):(h.grd [q]).guarded o=false:=by
 unfold Hp.guarded at hu ⊢;show(q::h.gd).any _=false;rw[List.any_cons,hu,Bool.or_false,Bool.eq_false_iff];intro hh;have:=Nat.eq_of_beq_eq_true hh;omega
section
variable {O:CallF}(hO:Oth O)
include hO
theorem lp62_0 {p:Pl}{g:Hp}{W R:List Int}(P:p.Ok g W)(okg:g.Ok){b6 b10:Nat}(tw:Two p g b6 b10){a0:Option Addr}{n0 c0:Nat}{x0:Int}{a2:Option Addr}{n2 c2:Nat}{x1:Int}{a3:Option Addr}{n3 c3:Nat}{aR:Option Addr}{nR cR:Nat}(HR:IntsAt g aR nR R)(hR: ∀x∈R,In64 x)(lR:R.length<100000){s2:Mv}{rs:List Int}{Q:Value→Hp→Prop}
 (next: ∀h ao no co ar nr cr,RunI p g b6 b10 s2 ao no co ar nr cr rs h→I62_1 O Q a0 n0 c0 x0 a2 n2 c2 x1 a3 n3 c3 b6 0 p.M 0 b10 0 none 0 0 0 h):
 ∀(d k:Nat) (s:Mv) (r r':List Int) (h:Hp) (ao:Option Addr) (no co:Nat) (ar:Option Addr) (nr cr:Nat),k+d=R.length→r.length=k→movesO W p.fr (R.drop k) s=some (s2,r')→rs=r++r'→RunI p g b6 b10 s ao no co ar nr cr r h→
 I62_0 O Q a0 n0 c0 x0 a2 n2 c2 x1 a3 n3 c3 b6 0 p.M 0 b10 0 aR nR cR (Int.ofNat nR) (Int.ofNat k) h:=by
 have hnR:=HR.1;intro d
 induction d with
 |zero=>
  intro k s r r' h ao no co ar nr cr hk hrl hm hrs I;rw[List.drop_of_length_le (by omega)]at hm;obtain⟨rfl,rfl⟩:s=s2∧[]=r':=by injection hm with hm;injection hm with a b;exact⟨a,b⟩
  refine I62_0.of _ _ _ _ _ _ _ _ _ _ _ _ _ _ _ _ _ _ _ _ _ _ ?_;unfold T62_0;refine vcond_f (by rw[ltI_nat];exact blt_f (by omega)) ?_;rw[List.append_nil]at hrs;subst hrs;exact next h ao no co ar nr cr I
 |succ d ih=>
  intro k s r r' h ao no co ar nr cr hk hrl hm hrs I;have hkR:k<R.length:=by omega
  rw[List.drop_eq_getElem_cons hkR]at hm;obtain⟨⟨s',v⟩,h1,h2⟩:=Option.bind_eq_some_iff.1 (show(moveO W p.fr s R[k]).bind (fun r=>(movesO W p.fr (R.drop (k+1)) r.1).map fun q=>(q.1,r.2::q.2))=some (s2,r') from hm);obtain⟨⟨s3,r2⟩,h3,h4⟩:=Option.map_eq_some_iff.1 h2;injection h4 with e1 e2;subst e1 e2;refine I62_0.of _ _ _ _ _ _ _ _ _ _ _ _ _ _ _ _ _ _ _ _ _ _ ?_;unfold T62_0;have kp:=I.kp;have ok:=I.ok;have m:=I.m;haveI:Ft g h:=kp.ex (Nat.le_refl _);refine vcond_t (by rw[ltI_nat];exact blt_t (by omega)) (isNat_i (HR.rd hkR ?_));intro g105;have PM:=P.M;have PB:=P.B;have mnx:=m.nx;have k105:Kp h.nx h g105:=(Kp.refl _ h).rsv 9;have out5:g105.get b10=_:=I.out;have ok5:(g105.grd [b10]).Ok:=(ok.rsv 9).grd fun q hq=>by
   have:=List.mem_singleton.1 hq;have:=tw.l10;rw[nx_rsv];omega
  have gdh:=Gd.low P okg kp;have gd5:Gd p (g105.grd [b10]):=⟨fun q hq=>by
   rcases List.mem_append.1 hq with hq|hq
   · have:=List.mem_singleton.1 hq;have:=tw.l10;omega
   · exact gdh.lt q hq,grd_free (h:=g105) gdh.M tw.m10.1,grd_free (h:=g105) gdh.T tw.m10.2.1,grd_free (h:=g105) gdh.W tw.m10.2.2⟩
  have m5:MvAt p (g105.grd [b10]) s ao no co:=m.upd rfl rfl rfl (fun _ _ _=>rfl) (Nat.le_add_right ..);refine⟨_,_,_,read1 (i:=2) out5 rfl,?_⟩;haveI:Ft g (g105.grd [b10]):=⟨fun o ho=>kp.get o ho,by show g.nx≤h.nx+9;have:=kp.nx;omega⟩;have call:=ct117 hO P ok5 gd5 inferInstance m5 (hR _ (List.getElem_mem hkR)) h1;obtain⟨v',h110,e110,rfl,ao',no',co',m',md'⟩:=call;refine⟨_,h110,e110,?_⟩;intro g111;have n111:h.nx+9≤g111.nx:=md'.nx;have n110:g111.nx=h110.nx:=rfl;have q5:g111.get (h.nx+5)=none:=by
   have:=md'.get (h.nx+5) (by show h.nx+5<h.nx+9;omega) (by omega) (by have:=P.tM;omega) (by have:=P.wM;omega) (fun off hh=>by have:=Acc.blk m.A _ _ hh;omega);rw[show g111.get (h.nx+5)=_ from this];exact ok.fr _ (by omega)
  have A111:AccI 3 g111 p.B ar nr cr r:=I.A.keep (fun o ho ha=>md'.get o (by show o<h.nx+9;omega) (fun hh=>by have:=I.A.fresh ha;omega) (fun hh=>by have:=I.A.fresh ha;have:=P.tM;omega) (fun hh=>by have:=I.A.fresh ha;have:=P.wM;omega) (fun off hh=>I.dis o off 0 hh ha)) (by omega);have gd111:GdLt g111 p.B:=gdh.lt;refine appRI A111 (by omega) gd111 q5 (by omega) (by omega) (l:=[]) (fun i hi=>by cases hi) (by omega) fun ar' nr' cr' h116 A' fr' k1 k2=> ?_;intro g117;have n117:g111.nx≤g117.nx:=k1.nx;have d117:g117.gd=h.gd:=k1.gd;have gdg:GdLt g117 g.nx:=fun q hq=>okg.lt.kp kp q (by rwa [d117]at hq);have out7:g117.get b10=some (.cells [.slice none 0 0,.int .i64 0,.slice ar nr cr] 24 .fix):=(k2.get _ tw.l10).trans ((md'.get b10 (by show b10<h.nx+9;have:=tw.l10;omega) tw.m10.1 tw.m10.2.1 tw.m10.2.2 (fun off hh=>by have:=m.A.fresh hh;have:=tw.l10;omega)).trans out5);have l7:0+2+ [Value.slice ar' nr' cr'].length≤ [Value.slice none 0 0,.int .i64 0,.slice ar nr cr].length:=by show 3≤3;decide
  refine vreq_t (canW_t (h:=g117.grd []) out7 (by decide) (gdg.free tw.g10) l7 rfl) ?_;intro g118 g119;have w9:g119.get b10=some (.cells [.slice none 0 0,.int .i64 0,.slice ar' nr' cr'] 24 .fix):=wr_get (h:=g117.grd []) out7 (by decide) (gdg.free tw.g10) l7 rfl;have e9: ∀q,q≠b10→g119.get q=g117.get q:=fun q hq=>wr_get_ne _ _ _ _ hq;have n9:g119.nx=g117.nx:=nx_wr ..;have d9:g119.gd=h.gd:=d117;have hl9:=tw.l10;have hl6:=tw.l6;have hg10:=tw.g10;have hg6:=tw.g6;have PtM:=P.tM;have PwM:=P.wM;have PoT:=P.oT;have PoW:=P.oW;have e79: ∀q,q<p.B→q≠b10→g119.get q=h110.get q:=fun q h1 h2=>(e9 q h2).trans (k2.get q h1);have ok119:g119.Ok:=⟨fun q hq=>by
   rw[d9]at hq;have:=ok.gd q hq;rw[n9];omega,fun q hq=>by
   rw[n9]at hq;rw[e9 q (by omega)];exact k1.fr ((md'.fr ok5.fr:g111.Fresh).lay (by omega) _) q hq⟩
  have kp119:Kp g.nx g g119:=⟨fun o ho=>(e79 o (by omega) (by omega)).trans ((md'.get o (by show o<h.nx+9;have:=kp.nx;omega) (by omega) (by omega) (by omega) (fun off hh=>by have:=m.A.fresh hh;omega)).trans (kp.get o ho)),by have:=kp.nx;omega,d9.trans kp.gd,fun _=>ok119.fr⟩;have hm9:=tw.m10;have dis1:Dis ao' ar:=I.dis.new md'.ao (fun o off hh=>by have:=Acc.blk I.A _ _ hh;show o<h.nx+9;omega);have m9:MvAt p g119 s' ao' no' co':=m'.upd (e79 _ PB (Ne.symm hm9.1)) (e79 _ (by omega) (Ne.symm hm9.2.1)) (e79 _ (by omega) (Ne.symm hm9.2.2)) (fun o ha ho=>by
   have ho2:=m'.A.fresh ha;rw[e9 o (by omega),show g117.get o=_ from k1.get o (by rw[nx_lay];exact ho) (fun hh=>dis1 o 0 0 ha hh),get_lay,if_neg (fun hh=>by
    subst hh;rcases m'.A with ⟨e,_⟩|⟨q,e,_,_,_,_,hq⟩
    · rw[e]at ha;cases ha
    · rw[e]at ha;injection ha with ha;injection ha with ha;subst ha;rw[show h110.get (h.nx+5)=none from q5]at hq;cases hq)]
   rfl) (by rw[n9];exact n117)
  have A9:AccI 3 g119 p.B ar' nr' cr' (r++[v]):=A'.keep (fun o ho ha=>by have:=A'.fresh ha;exact e9 o (by omega)) (by rw[n9];exact Nat.le_refl _);rw[wrap_succ (by omega)];refine ih (k+1) s' (r++[v]) r2 g119 ao' no' co' ar' nr' cr' (by omega) (by simp;omega) h3 (by rw[hrs];simp) ⟨ok119,kp119,m9,w9,?_,A9,?_⟩
  · rw[e79 _ hl6 tw.ne];exact(md'.get b6 (by show b6<h.nx+9;omega) tw.m6.1 tw.m6.2.1 tw.m6.2.2 (fun off hh=>by have:=m.A.fresh hh;omega)).trans I.r6
  · refine(Dis.of (n:=g111.nx) (fun o off hh=> ?_) (fun o off hh=> ?_)).symm
    · have:=Acc.off A' _ _ hh;subst this;exact fr' o hh
    · exact Acc.blk m'.A _ _ hh
def RunQ (g:Hp)(W:List Int)(fr:Nat)(s:Mv)(rs ks:List Int):Value→Hp→Prop:=fun v h'=> ∃(p:Pl) (ao:Option Addr) (no co:Nat) (ar:Option Addr) (nr cr:Nat) (ak:Option Addr) (nk ck:Nat),
 v= .tuple #[.agg #[.slice (some ⟨p.oW,0,none⟩) p.n p.n,.int .i64 (Int.ofNat s.top),.slice ar nr cr],.slice ak nk ck,.pointer (some ⟨p.M,0,none⟩)]∧p.Ok g W∧p.n=W.length∧p.fr=fr∧MvAt p h' s ao no co∧AccI 3 h' p.B ar nr cr rs∧AccI 3 h' p.B ak nk ck ks∧Dis ao ar∧Dis ao ak∧Dis ar ak∧Kp g.nx g h'∧h'.Ok
theorem lp62_1 {p:Pl}{g:Hp}{W more:List Int}(P:p.Ok g W)(okg:g.Ok)(pn:p.n=W.length){b6 b10:Nat}(tw:Two p g b6 b10){a0:Option Addr}{n0 c0:Nat}{x0:Int}{a2:Option Addr}{n2 c2:Nat}{x1:Int}{aR:Option Addr}{nR cR:Nat}(HR:IntsAt g aR nR more)(hR: ∀x∈more,In64 x)(lR:more.length<100000){s2 s3 s4:Mv}{rs ks:List Int}{f1 f2:Nat}(hc1:chgO keepB (moveO W p.fr) f1 1 s2=some s3)(hc2:chgO (fun k=>k==5) (weakO W p.fr) f2 1 s3=some s4):
 ∀(d k:Nat) (s:Mv) (r r':List Int) (h:Hp) (ao:Option Addr) (no co:Nat) (ar:Option Addr) (nr cr:Nat) (ak:Option Addr) (nk ck:Nat),k+d=more.length→r.length=k→movesO W p.fr (more.drop k) s=some (s2,r')→ks=r++r'→RunI p g b6 b10 s ao no co ar nr cr rs h→AccI 3 h p.B ak nk ck r→Dis ao ak→Dis ar ak→
 I62_1 O (RunQ g W p.fr s4 rs ks) a0 n0 c0 x0 a2 n2 c2 x1 aR nR cR b6 0 p.M 0 b10 0 ak nk ck (Int.ofNat k) h:=by
 have hnR:=HR.1;have PM:=P.M;have PB:=P.B;have PtM:=P.tM;have PwM:=P.wM;have PoT:=P.oT;have PoW:=P.oW;have hl9:=tw.l10;have hl6:=tw.l6;have hg10:=tw.g10;have hg6:=tw.g6;intro d
 induction d with
 |zero=>
  intro k s r r' h ao no co ar nr cr ak nk ck hk hrl hm hrs I Ak d1 d2;rw[List.drop_of_length_le (by omega)]at hm;obtain⟨rfl,rfl⟩:s=s2∧[]=r':=by injection hm with hm;injection hm with a b;exact⟨a,b⟩
  rw[List.append_nil]at hrs;subst hrs;refine I62_1.of _ _ _ _ _ _ _ _ _ _ _ _ _ _ _ _ _ _ _ _ _ ?_;unfold T62_1;refine vcond_f (by rw[ltI_nat];exact blt_f (by omega)) ?_;have mnx:=I.m.nx;obtain⟨v1,h1,e1,rfl,ao1,no1,co1,m1,md1⟩:=ct118 hO P (by117 hO P) (is119 hO) hc1 I.ok (Gd.low P okg I.kp) I.kp I.m;have kp1:=md1.kp P I.kp I.m;have ok1:=md1.ok I.ok;obtain⟨v2,h2,e2,rfl,ao2,no2,co2,m2,md2⟩:=ct118 hO P (by121 hO P) (is120 hO) hc2 ok1 (Gd.low P okg kp1) kp1 m1;have kp2:=md2.kp P kp1 m1;have ok2:=md2.ok ok1;have md:=md1.trans md2;refine⟨h1,e1,h2,e2,?_⟩;intro g214;have n2h:h.nx≤h2.nx:=md.nx;have r14: ∀ {i v},[Value.slice p.aw p.nw p.cw,.int .i64 (Int.ofNat p.fr),.slice (some ⟨p.oT,0,none⟩) p.n p.n,.slice ao2 no2 co2,.slice (some ⟨p.oW,0,none⟩) p.n p.n,.int .i64 (Int.ofNat s4.top)][i]? =some v→readAt g214 p.M i 1=some [v]:=fun hv=>read1 (show g214.get p.M=_ from m2.M) hv;have gd2:GdLt h2 g.nx:=okg.lt.kp kp2;have out2:h2.get b10=_:=(md.get b10 (by omega) tw.m10.1 tw.m10.2.1 tw.m10.2.2 (fun off hh=>by have:=I.m.A.fresh hh;omega)).trans I.out;have r62:h2.get b6=_:=(md.get b6 (by omega) tw.m6.1 tw.m6.2.1 tw.m6.2.2 (fun off hh=>by have:=I.m.A.fresh hh;omega)).trans I.r6;have u10:h2.guarded b10=false:=gd2.free hg10;have u6:h2.guarded b6=false:=gd2.free hg6;have l1:0+0+ [Value.slice (some ⟨p.oW,0,none⟩) p.n p.n].length≤ [Value.slice none 0 0,.int .i64 0,.slice ar nr cr].length:=by show 1≤3;decide
  have u10':(g214.grd [p.M]).guarded b10=false:=grd_free (h:=g214) u10 (Ne.symm tw.m10.1);refine⟨_,_,_,r14 (i:=4) rfl,_,r14 (i:=5) rfl,vreq_t (canW_t (h:=g214.grd [p.M]) out2 (by decide) u10' l1 rfl) ?_⟩;intro g219 g220;have w20:g220.get b10=some (.cells [.slice (some ⟨p.oW,0,none⟩) p.n p.n,.int .i64 0,.slice ar nr cr] 24 .fix):=wr_get (h:=g214.grd [p.M]) out2 (by decide) u10' l1 rfl;have e20: ∀q,q≠b10→g220.get q=h2.get q:=fun q hq=>wr_get_ne _ _ _ _ hq;have n20:g220.nx=h2.nx+12:=nx_wr ..;have u20:(g220.grd []).guarded b10=false:=u10;have l2:0+1+ [Value.int .i64 (Int.ofNat s4.top)].length≤ [Value.slice (some ⟨p.oW,0,none⟩) p.n p.n,.int .i64 0,.slice ar nr cr].length:=by show 2≤3;decide
  refine vreq_t (canW_t (h:=g220.grd []) w20 (by decide) u20 l2 rfl) ?_;intro g221 g222;have w22:g222.get b10=some (.cells [.slice (some ⟨p.oW,0,none⟩) p.n p.n,.int .i64 (Int.ofNat s4.top),.slice ar nr cr] 24 .fix):=wr_get (h:=g220.grd []) w20 (by decide) u20 l2 rfl;have e22: ∀q,q≠b10→g222.get q=h2.get q:=fun q hq=>(wr_get_ne _ _ _ _ hq).trans (e20 q hq);have n22:g222.nx=h2.nx+12:=by show(Hp.wr _ _ _ _).nx=_;rw[nx_wr];exact n20
  have u22:g222.guarded b6=false:=u6;have r22:g222.get b6=_:=(e22 _ tw.ne).trans r62;have l3:0+ [Value.slice (some ⟨p.oW,0,none⟩) p.n p.n,.int .i64 (Int.ofNat s4.top),.slice ar nr cr].length≤ [Value.slice none 0 0,.int .i64 0,.slice none 0 0].length:=by show 3≤3;decide
  refine⟨_,_,_,_,_,_,_,by rw[readAt_get w22 (by simp)];rfl,vreq_t (canW_t r22 (by decide) u22 l3 rfl) ?_⟩;intro g230;have w30:g230.get b6=some (.cells [.slice (some ⟨p.oW,0,none⟩) p.n p.n,.int .i64 (Int.ofNat s4.top),.slice ar nr cr] 24 .fix):=wr_get r22 (by decide) u22 l3 rfl;have e30: ∀q,q≠b10→q≠b6→g230.get q=h2.get q:=fun q h1 h2=>(wr_get_ne _ _ _ _ h2).trans (e22 q h1);have n30:g230.nx=h2.nx+12:=by show(Hp.wr _ _ _ _).nx=_;rw[nx_wr];exact n22
  have d30:g230.gd=h2.gd:=gd_wr ..;have hm9:=tw.m10;have hm6:=tw.m6;have mine: ∀ {a:Option Addr} {n c:Nat} {xs:List Value},Acc h p.B 3 1 a n c xs→Dis ao a→Acc g230 p.B 3 1 a n c xs:=fun {a n c xs} A dd=>A.keep (fun o ho ha=>by
   have:=A.fresh ha;rw[e30 o (by omega) (by omega)];exact md.get o ho (by omega) (by omega) (by omega) (fun off hh=>dd o off 0 hh ha)) (by omega)
  have m30:MvAt p g230 s4 ao2 no2 co2:=m2.upd (e30 _ (Ne.symm hm9.1) (Ne.symm hm6.1)) (e30 _ (Ne.symm hm9.2.1) (Ne.symm hm6.2.1)) (e30 _ (Ne.symm hm9.2.2) (Ne.symm hm6.2.2)) (fun o ha ho=>by have:=m2.A.fresh ha;exact e30 o (by omega) (by omega)) (by omega);have ok30:g230.Ok:=⟨fun q hq=>by rw[d30]at hq;have:=ok2.gd q hq;omega,fun q hq=>by rw[e30 q (by have:=m2.nx;omega) (by have:=m2.nx;omega)];exact ok2.fr q (by omega)⟩;refine⟨_,_,_,_,_,_,_,by rw[readAt_get w30 (by simp)];rfl,?_⟩;refine⟨p,ao2,no2,co2,ar,nr,cr,ak,nk,ck,rfl,P,pn,rfl,m30,mine I.A I.dis,mine Ak d1,I.dis.new md.ao (fun o off hh=>Acc.blk I.A _ _ hh),d1.new md.ao (fun o off hh=>Acc.blk Ak _ _ hh),d2,?_,ok30⟩;exact⟨fun o ho=>(e30 o (by omega) (by omega)).trans (kp2.get o ho),by have:=kp2.nx;omega,d30.trans kp2.gd,fun _=>ok30.fr⟩
 |succ d ih=>
  intro k s r r' h ao no co ar nr cr ak nk ck hk hrl hm hrs I Ak d1 d2;have hkR:k<more.length:=by omega
  rw[List.drop_eq_getElem_cons hkR]at hm;obtain⟨⟨s',v⟩,h1,h2⟩:=Option.bind_eq_some_iff.1 (show(moveO W p.fr s more[k]).bind (fun r=>(movesO W p.fr (more.drop (k+1)) r.1).map fun q=>(q.1,r.2::q.2))=some (s2,r') from hm);obtain⟨⟨s3',r2⟩,h3,h4⟩:=Option.map_eq_some_iff.1 h2;injection h4 with e1 e2;subst e1 e2;refine I62_1.of _ _ _ _ _ _ _ _ _ _ _ _ _ _ _ _ _ _ _ _ _ ?_;unfold T62_1;have kp:=I.kp;have ok:=I.ok;have m:=I.m;have mnx:=m.nx;haveI:Ft g h:=kp.ex (Nat.le_refl _);refine vcond_t (by rw[ltI_nat];exact blt_t (by omega)) (isNat_i (HR.rd hkR ?_));obtain⟨v',h6,e6,rfl,ao',no',co',m',md'⟩:=ct117 hO P ok (Gd.low P okg kp) inferInstance m (hR _ (List.getElem_mem hkR)) h1;refine⟨_,h6,e6,?_⟩;intro g207;have n6:=md'.nx;have kp6:=md'.kp P kp m;have ok6:=md'.ok ok;have Ak6:AccI 3 h6 p.B ak nk ck r:=Ak.keep (fun o ho ha=>by have:=Ak.fresh ha;exact md'.get o ho (by omega) (by omega) (by omega) (fun off hh=>d1 o off 0 hh ha)) n6;have Ar6:AccI 3 h6 p.B ar nr cr rs:=I.A.keep (fun o ho ha=>by have:=I.A.fresh ha;exact md'.get o ho (by omega) (by omega) (by omega) (fun off hh=>I.dis o off 0 hh ha)) n6;have d1':Dis ao' ak:=d1.new md'.ao (fun o off hh=>Acc.blk Ak _ _ hh);have dr':Dis ao' ar:=I.dis.new md'.ao (fun o off hh=>Acc.blk I.A _ _ hh);refine appI2 AppT22 Ak6 (by omega) (Gd.low P okg kp6).lt (by omega) fun ak' nk' ck' h7 A7 k7 kB new=> ?_;have n7:=k7.nx;rw[wrap_succ (by omega)];have m7:MvAt p h7 s' ao' no' co':=m'.upd (kB.get _ PB) (kB.get _ (by omega)) (kB.get _ (by omega)) (fun o ha ho=>k7.get o ho (fun hh=>d1' o 0 0 ha hh)) n7;have Ar7:AccI 3 h7 p.B ar nr cr rs:=Ar6.keep (fun o ho ha=>k7.get o ho (fun hh=>d2 o 0 0 ha hh)) n7;refine ih (k+1) s' (r++[v]) r2 h7 ao' no' co' ar nr cr ak' nk' ck' (by omega) (by simp;omega) h3 (by rw[hrs];simp) ⟨ok6.kp kB,kp6.trans (kB.le (by omega)),m7,(kB.get _ hl9).trans ((md'.get b10 (by omega) tw.m10.1 tw.m10.2.1 tw.m10.2.2 (fun off hh=>by have:=m.A.fresh hh;omega)).trans I.out),(kB.get _ hl6).trans ((md'.get b6 (by omega) tw.m6.1 tw.m6.2.1 tw.m6.2.2 (fun off hh=>by have:=m.A.fresh hh;omega)).trans I.r6),Ar7,dr'⟩ A7 ?_ ?_
  · refine(Dis.of (n:=h6.nx) (fun o off hh=> ?_) (fun o off hh=>Acc.blk m'.A _ _ hh)).symm;rw[new]at hh;injection hh with hh;injection hh with hh;omega
  · refine(Dis.of (n:=h6.nx) (fun o off hh=> ?_) (fun o off hh=>Acc.blk Ar6 _ _ hh)).symm;rw[new]at hh;injection hh with hh;injection hh with hh;omega
theorem ct62 {g:Hp}(ok:g.Ok){aw:Option Addr}{nw cw:Nat}{W:List Int}{top:Int}(HW:SI g aw nw cw W)(hW: ∀x∈W,In64 x)(lW:W.length<1000000){ar:Option Addr}{nr cr:Nat}{R:List Int}(HR:IntsAt g ar nr R)(hR: ∀x∈R,In64 x)(lR:R.length<100000){am:Option Addr}{nm cm:Nat}{more:List Int}(HM:IntsAt g am nm more)(hM: ∀x∈more,In64 x)(lM:more.length<100000){fr:Nat}(hfr:fr≤W.length){s:Mv}{rs ks:List Int}(hrun:runO W fr R more=some (s,rs,ks)):
 Ret Tryz.prog O 62 [.agg #[.slice aw nw cw,.int .i64 top,.slice ar nr cr],.int .i64 (Int.ofNat fr),.slice am nm cm] g (RunQ g W fr s rs ks):=by
 have hn:=HW.at_.1;subst hn;refine rk62 _ _ _ _ _ _ _ _ _ _ _ (hO _ _ _ (by decide)) ?_;unfold T62;intro g1 g2 g3;have n1:g1.nx=g.nx+1:=rfl;have n2:g2.nx=g.nx+2:=rfl;have n3:g3.nx=g.nx+17:=rfl;have s3:g3.get g.nx=some (.cells [.slice aw W.length cw,.int .i64 top,.slice ar nr cr] 24 .fix):=(get_add_ne (show g.nx≠g1.nx by omega)).trans (get_add_same ..);have b63:g3.get g1.nx=some (.cells [.slice none 0 0,.int .i64 0,.slice none 0 0] 24 .fix):=get_add_same ..;have f2:g2.Fresh:=(ok.fr.add _).add _;have k3: ∀q,q<g.nx→g3.get q=g.get q:=fun q hq=>(get_add_ne (show q≠g1.nx by omega)).trans (get_add_ne (by omega));have v8:W.length*8≤281474976710656:=by omega
 have vb:W.length<big:=by unfold big;omega
 refine⟨_,_,_,read1 (i:=0) s3 rfl,_,_,_,read1 (i:=0) s3 rfl,_,_,_,read1 (i:=0) s3 rfl,vreq_t (ble_t (Nat.le_refl _)) (vreq_t (ble_t v8) (vreq_t (blt_t vb) (vreq_t (free_t (f2 _ (Nat.le_add_right ..))) ?_)))⟩;intro g13;have e13: ∀q,q≠g2.nx+6→g13.get q=g3.get q:=fun q hq=>by show(g3.lay _ _).get q=_;rw[get_lay,if_neg hq]
 refine vreq_t (ble_t (Nat.le_refl _)) (vreq_t (ble_t v8) (vreq_t (blt_t vb) (vreq_t (free_t ((e13 _ (by omega)).trans (f2 _ (Nat.le_add_right ..)))) ?_)));intro g14;have e14: ∀q,q≠g2.nx+10→g14.get q=g13.get q:=fun q hq=>by show(g13.lay _ _).get q=_;rw[get_lay,if_neg hq]
 refine vreq_t (free_t ((e14 _ (by omega)).trans ((e13 _ (by omega)).trans (f2 _ (Nat.le_add_right ..))))) ?_;intro g15 g16;have e15: ∀q,q≠g2.nx+13→g16.get q=g14.get q:=fun q hq=>by show(g14.lay _ _).get q=_;rw[get_lay,if_neg hq]
 have zs: ∀(n:Nat),List.flatten (List.replicate n [Value.int .i64 0])=(List.replicate n (0:Int)).map (Value.int .i64):=by
  intro n
  induction n with
  |zero=>rfl
  |succ n ih=>rw[List.replicate_succ,List.replicate_succ,List.flatten_cons,ih];rfl
 have M16:g16.get (g2.nx+13)=some (.cells [.slice aw W.length cw,.int .i64 (Int.ofNat fr),.slice (some ⟨g2.nx+6,0,none⟩) W.length W.length,.slice none 0 0,.slice (some ⟨g2.nx+10,0,none⟩) W.length W.length,.int .i64 (Int.ofNat fr)] 113 .fix):=by
  show(g14.lay _ _).get _=_;rw[get_lay,if_pos rfl]
 have T16:g16.get (g2.nx+6)=some (.cells ((List.replicate W.length (0:Nat)).map fun t=>Value.int .i64 (Int.ofNat t)) 3 .fix):=by
  rw[e15 _ (by omega),e14 _ (by omega)];show(g3.lay _ _).get _=_;rw[get_lay,if_pos rfl,zs];simp
 have D16:g16.get (g2.nx+10)=some (.cells ((List.replicate W.length (0:Int)).map (Value.int .i64)) 3 .fix):=by
  rw[e15 _ (by omega)];show(g13.lay _ _).get _=_;rw[get_lay,if_pos rfl,zs]
 have lo16: ∀q,q<g2.nx→g16.get q=g3.get q:=fun q hq=>(e15 q (by omega)).trans ((e14 q (by omega)).trans (e13 q (by omega)));have n16:g16.nx=g.nx+26:=rfl;have d16:g16.gd=g.gd:=rfl;have s16:=(lo16 g.nx (by omega)).trans s3;have b616:=(lo16 g1.nx (by omega)).trans b63;haveI f16:Ft g g16:=⟨fun q hq=>(lo16 q (by omega)).trans (k3 q hq),by omega⟩;have F16:g16.Fresh:=fun q hq=>by
  rw[e15 q (by omega),e14 q (by omega),e13 q (by omega)];exact f2 q (by omega)
 obtain⟨a',c',es,sp⟩:=(HW.to g16).part (l:=0) (r:=fr) (Nat.zero_le _) hfr (lo:=none) (hi:=some (.int .i64 (Int.ofNat fr))) (fun vis hv=>bounds_hi (by omega));refine⟨_,_,_,read1 (i:=4) M16 rfl,_,_,_,read1 (i:=0) s16 rfl,_,_,_,es,?_⟩;have X16:IntsAt (g16.grd []) a' (fr-0) ((W.drop 0).take (fr-0)):=sp.at_.keep (fun _ _ _=>rfl) (Nat.le_refl _) (fun _ _ h=>h);have u16: ∀q,g.nx≤q→g16.guarded q=false:=fun q hq=>ok.lt.free (h:=g16) hq;obtain⟨h27,ec,D27,e27,n27,d27,f27⟩:=copy_ints (c1:=W.length) (c2:=c') (show(g16.grd []).get (g2.nx+10)=_ from D16) (by decide) (u16 _ (by omega)) (off:=0) (n:=W.length) (by simp) X16;have hmin:Nat.min (fr-0) W.length=fr:=by show min _ _=_;omega
 rw[hmin,Nat.sub_zero,List.drop_zero,List.take_take,Nat.min_self]at D27;refine⟨_,_,ec,?_⟩;intro g28 g29;have n28:g28.nx=g.nx+26:=n27;have e28: ∀q,q≠g2.nx+10→g28.get q=g16.get q:=fun q hq=>e27 q hq;have D28:g28.get (g2.nx+10)=_:=D27;have d28:g28.gd=g.gd:=rfl;have F28:g28.Fresh:=f27 F16;have o29:g29.get g28.nx=some (.cells [.slice none 0 0,.int .i64 0,.slice none 0 0] 24 .fix):=get_add_same ..;have u29:g29.guarded g28.nx=false:=ok.lt.free (h:=g29) (by omega);have l29:0+ [Value.slice none 0 0,.int .i64 0,.slice none 0 0].length≤ [Value.slice none 0 0,.int .i64 0,.slice none 0 0].length:=by show 3≤3;decide
 refine vreq_t (canW_t o29 (by decide) u29 l29 rfl) ?_;intro g30;have o30:g30.get g28.nx=some (.cells [.slice none 0 0,.int .i64 0,.slice none 0 0] 24 .fix):=wr_get o29 (by decide) u29 l29 rfl;have e30: ∀q,q≠g28.nx→g30.get q=g28.get q:=fun q hq=>(wr_get_ne _ _ _ _ hq).trans (get_add_ne hq);have n30:g30.nx=g.nx+27:=by show(Hp.wr _ _ _ _).nx=_;rw[nx_wr,nx_add,n28]
 have d30:g30.gd=g.gd:=gd_wr ..;have s30:g30.get g.nx=_:=(e30 _ (by omega)).trans ((e28 _ (by omega)).trans s16);refine⟨_,_,_,read1 (i:=2) s30 rfl,?_⟩;have F30:g30.Fresh:=(F28.add _).wr _ _ _;have kp30:Kp g.nx g g30:=⟨fun q hq=>(e30 q (by omega)).trans ((e28 q (by omega)).trans (f16.get q hq)),by omega,d30,fun _=>F30⟩
 let p:Pl:=⟨g2.nx+13,g2.nx+6,g2.nx+10,aw,W.length,cw,fr,W.length,g28.nx+1⟩
 have pM:p.M=g2.nx+13:=rfl;have pT:p.oT=g2.nx+6:=rfl;have pW:p.oW=g2.nx+10:=rfl;have pB:p.B=g28.nx+1:=rfl;have P:p.Ok g W:=by
  refine⟨?_,?_,?_,?_,?_,?_,?_,HW,hW,lW,lW⟩
  · show g.nx≤g2.nx+13;omega
  · show g.nx≤g2.nx+6;omega
  · show g.nx≤g2.nx+10;omega
  · show g2.nx+6<g2.nx+13;omega
  · show g2.nx+10<g2.nx+13;omega
  · show g2.nx+6≠g2.nx+10;omega
  · show g2.nx+13<g28.nx+1;omega
 have m30:MvAt p g30 (startM W fr) none 0 0:=by
  refine⟨(e30 _ (by omega)).trans ((e28 _ (by omega)).trans M16),(e30 _ (by omega)).trans ((e28 _ (by omega)).trans T16),(e30 _ (by omega)).trans D28,AccI.nil ..,by simp[startM,p],by show(putAt _ _ _).length=_;rw[putAt_length];simp[p],fun t ht=> ?_,fun x hx=> ?_,by show g28.nx+1≤_;omega⟩
  · rw[List.eq_of_mem_replicate ht];exact Nat.zero_le _
  · rcases mem_putAt _ _ _ hx with h|h
    · rw[List.eq_of_mem_replicate h];exact⟨by decide,by decide⟩
    · exact hW x (List.mem_of_mem_take h)
 have tw:Two p g g1.nx g28.nx:=by
  refine⟨by omega,by omega,?_,?_,⟨?_,?_,?_⟩,⟨?_,?_,?_⟩,by omega⟩
  · show g1.nx<g28.nx+1;omega
  · show g28.nx<g28.nx+1;omega
  · show g1.nx≠g2.nx+13;omega
  · show g1.nx≠g2.nx+6;omega
  · show g1.nx≠g2.nx+10;omega
  · show g28.nx≠g2.nx+13;omega
  · show g28.nx≠g2.nx+6;omega
  · show g28.nx≠g2.nx+10;omega
 obtain⟨⟨s1,r1⟩,h1,h2⟩:=Option.bind_eq_some_iff.1 hrun;obtain⟨⟨s2,r2⟩,h3,h4⟩:=Option.bind_eq_some_iff.1 h2;obtain⟨s3',h5,h6⟩:=Option.bind_eq_some_iff.1 h4;obtain⟨s4,h7,h8⟩:=Option.map_eq_some_iff.1 h6;injection h8 with e1 h8;injection h8 with e2 e3;subst e1 e2 e3;have b6:g30.get g1.nx=_:=(e30 _ (by omega)).trans ((e28 _ (by omega)).trans b616);exact lp62_0 hO (p:=p) P ok tw HR hR lR (s2:=s1) (rs:=r1) (fun h ao no co ar' nr' cr' I=>lp62_1 hO (p:=p) P ok rfl tw HM hM lM h5 h7 more.length 0 s1 [] r2 h ao no co ar' nr' cr' none 0 0 (by omega) rfl h3 rfl I (AccI.nil ..) (fun _ _ _ _ h=>by cases h) (fun _ _ _ _ h=>by cases h)) R.length 0 (startM W fr) [] r1 g30 none 0 0 none 0 0 (by omega) rfl h1 rfl ⟨⟨fun q hq=>by rw[d30]at hq;have:=ok.gd q hq;omega,F30⟩,kp30,m30,o30,b6,AccI.nil ..,fun _ _ _ h=>by cases h⟩
end
theorem checkP_cells {W:List Int}{top:Int}{R:List Int}{l:List Nat}(h:checkP W top R=some l):1≤W.length∧W.length≤200∧1≤top∧top≤W.length∧R.length≤10∧(W.drop top.toNat).any (· !=0)=false∧cellsG W top.toNat (top.toNat+1) 1=some l∧R.any (fun w=> !(wordB (beginP W l) w))=false∧l.all (okc W (beginP W l))=true:=by
 unfold checkP at h;split at h
 · cases h
 · rename_i hn;split at h
   · cases h
   · rename_i hz;split at h
     · cases h
     · rename_i l' hc;split at h
       · cases h
       · rename_i hr;split at h
         · rename_i hk;obtain rfl:=Option.some.inj h;have e1: ¬W.length<1:=fun hh=>hn (.inl hh);have e2: ¬200<W.length:=fun hh=>hn (.inr (.inl hh));have e3: ¬top<1:=fun hh=>hn (.inr (.inr (.inl hh)));have e4: ¬(W.length:Int)<top:=fun hh=>hn (.inr (.inr (.inr (.inl hh))));have e5: ¬10<R.length:=fun hh=>hn (.inr (.inr (.inr (.inr (.inr hh)))));exact⟨by omega,by omega,by omega,by omega,by omega,by simpa using hz,hc,by simpa using hr,hk⟩
         · cases h
theorem goodB_R {s k:Int}(h:goodB s k=true):goodR s k=true:=by
 unfold goodB at h;unfold goodR;split at h
 · rename_i hk;have:s=1:=by simpa using h
   subst hk this;rfl
 · simp only[Bool.and_eq_true,decide_eq_true_eq]at h ⊢;exact⟨⟨h.1.1.2,h.1.2⟩,h.2⟩
theorem cellsG_R {W:List Int}{top:Nat}: ∀ {f p:Nat} {l:List Nat},cellsG W top f p=some l→cellsR W top f p=some l:=by
 intro f
 induction f with
 |zero=>intro p l h;cases h
 |succ f ih=>
  intro p l h;rcases cellsG_cons h with ⟨h1,h2,h3,l',rfl,h4⟩|⟨rfl,rfl⟩
  · unfold cellsR;rw[if_pos h1,if_neg (fun hh=>hh.elim (fun h=>by omega) (fun h=>by rw[goodB_R h3]at h;cases h)),ih h4];rfl
  · unfold cellsR;rw[if_neg (Nat.lt_irrefl _),if_pos rfl]
theorem cellsR_cons {W:List Int}{top:Nat}{f p:Nat}{l:List Nat}(h:cellsR W top (f+1) p=some l):(p<top∧0≤W.getD p 0∧goodR (hdS (W.getD p 0)) (hdK (W.getD p 0))=true∧ ∃l',l=p::l'∧cellsR W top f (p+1+(hdS (W.getD p 0)).toNat)=some l')∨(p=top∧l=[]):=by
 unfold cellsR at h;split at h
 · split at h
   · cases h
   · rename_i h1 h2;obtain⟨l',h3,h4⟩:=Option.map_eq_some_iff.1 h;exact .inl ⟨h1,by omega,by cases hg:goodR (hdS (W.getD p 0)) (hdK (W.getD p 0))<;>simp_all,l',h4.symm,h3⟩
 · split at h
   · exact .inr ⟨‹_›,(Option.some.inj h).symm⟩
   · cases h
theorem fieldsW_length {W:List Int}{p:Nat}(h:p+1+(hdS (W.getD p 0)).toNat≤W.length):(fieldsW W p).length=(hdS (W.getD p 0)).toNat:=by
 unfold fieldsW;rw[List.length_take,List.length_drop];omega
theorem cellsR_G {W:List Int}{top:Nat}(htop:top≤W.length)(L:List Nat): ∀ {f p:Nat} {l:List Nat},cellsR W top f p=some l→cellsOk W L l=true→cellsG W top f p=some l:=by
 intro f
 induction f with
 |zero=>intro p l h;cases h
 |succ f ih=>
  intro p l h hk;rcases cellsR_cons h with ⟨h1,h2,h3,l',rfl,h4⟩|⟨rfl,rfl⟩
  · unfold cellsOk at hk;rw[List.all_cons,Bool.and_eq_true]at hk;have hle:=(cellsR_mem h4).1;have hfl:=fieldsW_length (W:=W) (p:=p) (by omega);obtain⟨s1,s2⟩:=cellsR_bnd (by omega) h3;have g:goodB (hdS (W.getD p 0)) (hdK (W.getD p 0))=true:=by
     have hf:=hk.1;unfold fieldsR at hf;split at hf
     · cases hf
     · rename_i hn;unfold goodB;split
       · rename_i hk4;have: ¬(fieldsW W p).length≠1:=fun hh=>hn (.inr (.inr (.inr ⟨hk4,hh⟩)));have:hdS (W.getD p 0)=1:=by omega
         rw[this];rfl
       · unfold goodR at h3;simp only[Bool.and_eq_true,decide_eq_true_eq]at h3 ⊢;exact⟨⟨⟨s1,h3.1.1⟩,h3.1.2⟩,h3.2⟩
    unfold cellsG;rw[if_pos h1,if_neg (fun hh=>hh.elim (fun h=>by omega) (fun h=>by rw[g]at h;cases h)),ih h4 hk.2];rfl
  · unfold cellsG;rw[if_neg (Nat.lt_irrefl _),if_pos rfl]
theorem setAll_get (l:List Nat): ∀(B:List Bool) (i:Nat),i<B.length→((setAll B l).getD i false=true↔i∈l∨B.getD i false=true):=by
 induction l with
 |nil=>intro B i hi;simp[setAll]
 |cons x l ih=>
  intro B i hi;show(setAll (B.set x true) l).getD i false=true↔_;rw[ih _ _ (by simpa using hi)];have:(B.set x true).getD i false=if x=i then true else B.getD i false:=by
   simp only[List.getD,List.getElem?_set];by_cases hx:x=i
   · subst hx;simp[hi]
   · simp[hx]
  rw[this];by_cases hx:x=i
  · subst hx;simp
  · rw[if_neg hx];simp only[List.mem_cons];constructor
    · rintro(h|h)
      · exact .inl (.inr h)
      · exact .inr h
    · rintro((h|h)|h)
      · exact absurd h.symm hx
      · exact .inl h
      · exact .inr h
theorem begin_get {W:List Int}{l:List Nat}{i:Nat}(hi:i<W.length):(beginP W l).getD i false=true↔i∈l:=by
 unfold beginP;rw[setAll_get _ _ _ (by simpa using hi)];simp[List.getD,hi]
theorem begin_length {W:List Int}{l:List Nat}:(beginP W l).length=W.length:=by
 unfold beginP;rw[setAll_length];simp
theorem word_RB {W:List Int}{l:List Nat}(hl: ∀x∈l,x<W.length)(h1:1≤W.length)(w:Int):wordB (beginP W l) w=wordR l w:=by
 unfold wordB wordR;by_cases h2:Int.tmod w 2≠0
 · rw[if_pos h2];rw[if_neg (fun hh=>by subst hh;exact h2 rfl),if_pos h2]
 · rw[if_neg h2,if_neg h2];by_cases h0:w<0
   · rw[if_pos h0,if_neg (by omega)]
     symm
     rw[Bool.eq_false_iff,ne_eq,List.contains_iff_mem,List.mem_map];rintro⟨a,_,ha⟩;have h5:=Int.mul_tdiv_add_tmod w 2;have h6:Int.tmod w 2=0:=by simpa using h2
     have h3:(0:Int)≤Int.ofNat a:=Int.natCast_nonneg a;omega
   · rw[if_neg h0];obtain⟨m,hm⟩: ∃m:Nat,Int.tdiv w 2=Int.ofNat m:=Int.eq_ofNat_of_zero_le (by rw[tdiv_eq,if_pos (by omega)];omega);rw[hm,begin_length];have key:(l.map Int.ofNat).contains (Int.ofNat m)=decide (m∈l):=by
      rw[Bool.eq_iff_iff,List.contains_iff_mem,List.mem_map,decide_eq_true_eq];exact⟨fun⟨a,h,e⟩=>Int.ofNat_inj.1 e▸h,fun h=>⟨m,h,rfl⟩⟩
     rw[key];by_cases hw0:w=0
     · subst hw0;have hm0:m=0:=(Int.ofNat_inj.1 (show Int.ofNat 0=Int.ofNat m from hm)).symm;subst hm0;rw[if_neg (not_not_intro (by show(0:Int)<W.length;omega)),if_pos rfl,if_pos rfl]
     · rw[if_neg hw0,if_neg hw0];by_cases hmn:m<W.length
       · rw[if_neg (by simpa using hmn)];show(beginP W l).getD m false=_;rw[Bool.eq_iff_iff,begin_get hmn,decide_eq_true_eq]
       · rw[if_pos (by simpa using hmn)]
         symm
         rw[decide_eq_false_iff_not];exact fun hh=>hmn (hl m hh)
theorem field_RB {W:List Int}{l:List Nat}(hl: ∀x∈l,x<W.length)(h1:1≤W.length)(k w:Int):fieldB (beginP W l) k w=fieldR l k w:=by
 unfold fieldB fieldR;rw[word_RB hl h1]
theorem all_congr {α:Type}{p q:α→Bool}{l:List α}(h: ∀x∈l,p x=q x):l.all p=l.all q:=by
 induction l with
 |nil=>rfl
 |cons x l ih=>rw[List.all_cons,List.all_cons,h x (List.mem_cons_self ..),ih fun y hy=>h y (List.mem_cons_of_mem _ hy)]
theorem any_not {α:Type}(p:α→Bool): ∀(l:List α),l.any (fun w=> !(p w))= !(l.all p):=by
 intro l
 induction l with
 |nil=>rfl
 |cons x l ih=>rw[List.any_cons,List.all_cons,ih,Bool.not_and]
theorem formed_check (W:List Int)(top:Int)(R:List Int):formedR W top R=checkP W top R:=by
 unfold formedR checkP;split
 · rfl
 · rename_i hn;split
   · rfl
   · have h1:1≤W.length:=by have: ¬W.length<1:=fun hh=>hn (.inl hh);omega
     have ht:top.toNat≤W.length:=by
      have: ¬(W.length:Int)<top:=fun hh=>hn (.inr (.inr (.inr (.inl hh))));omega
     generalize top.toNat=tp at ht;cases hG:cellsG W tp (tp+1) 1 with
     |some l=>
      have hR:=cellsG_R hG;rw[hR];simp only;have hm:=cellsR_mem hR;have hl: ∀x∈l,x<W.length:=fun x hx=>by have:=hm.2 x hx;omega
      have e1:R.any (fun w=> !(wordB (beginP W l) w))= !(R.all (wordR l)):=by
       have:(fun w=> !(wordB (beginP W l) w))=fun w=> !(wordR l w):=by funext w;rw[word_RB hl h1]
       rw[this];exact any_not _ R
      have hgood: ∀(f p:Nat) (l':List Nat),cellsG W tp f p=some l'→ ∀x∈l',goodB (hdS (W.getD x 0)) (hdK (W.getD x 0))=true:=by
       intro f
       induction f with
       |zero=>intro p l' h;cases h
       |succ f ih=>
        intro p l' h x hx;rcases cellsG_cons h with ⟨_,_,h3,l2,rfl,h4⟩|⟨rfl,rfl⟩
        · rcases List.mem_cons.1 hx with rfl|hx
          · exact h3
          · exact ih _ _ h4 x hx
        · cases hx
      have e2:l.all (okc W (beginP W l))=cellsOk W l l:=by
       unfold cellsOk;refine all_congr fun x hx=> ?_;obtain⟨m1,m2,m3,m4,m5⟩:=hm.2 x hx;have hg:=hgood _ _ _ hG x hx;have hfl:=fieldsW_length (W:=W) (p:=x) (by omega);unfold okc fieldsR;rw[if_neg ?_]
       · exact all_congr fun w _=>field_RB hl h1 _ w
       · obtain⟨s1,s2⟩:=hdS_bnd m3 hg;unfold goodB at hg;split at hg
         · rename_i hk;have:hdS (W.getD x 0)=1:=by simpa using hg
           rintro(h|h|h|⟨_,h⟩)<;>omega
         · rename_i hk;simp only[Bool.and_eq_true,decide_eq_true_eq]at hg;rintro(h|h|h|⟨h,_⟩)
           · omega
           · omega
           · omega
           · exact hk h
      rw[e1,e2];cases R.all (wordR l)<;>cases cellsOk W l l<;>rfl
     |none=>
      cases hR:cellsR W tp (tp+1) 1 with
      |none=>rfl
      |some l=>
       simp only;cases hk:cellsOk W l l with
       |false=>rfl
       |true=>rw[cellsR_G ht l hR hk]at hG;cases hG
def szW (W:List Int)(p:Nat):Nat:=1+(hdS (W.getD p 0)).toNat
def totalW (W:List Int)(o:List Nat):Nat:=(o.map (szW W)).sum
def posF (W:List Int):Nat→List Nat→Nat→Nat
 |_,[],_=>0
 |b,x::xs,a=>if x=a then b else posF W (b+szW W x) xs a
theorem posF_mem {W:List Int}: ∀ {o:List Nat} {b a:Nat},a∈o→b≤posF W b o a:=by
 intro o
 induction o with
 |nil=>intro b a h;cases h
 |cons x xs ih=>
  intro b a h;unfold posF;split
  · exact Nat.le_refl _
  · rcases List.mem_cons.1 h with rfl|h
    · exact absurd rfl ‹_›
    · have:=ih (b:=b+szW W x) h;omega
theorem posF_not {W:List Int}: ∀ {o:List Nat} {b a:Nat},a ∉ o→posF W b o a=0:=by
 intro o
 induction o with
 |nil=>intro b a _;rfl
 |cons x xs ih=>
  intro b a h;unfold posF;rw[if_neg (fun hh=>h (by rw[hh];exact List.mem_cons_self ..)),ih (fun hh=>h (List.mem_cons_of_mem _ hh))]
theorem posF_app {W:List Int}: ∀ {o e:List Nat} {b a:Nat},a∈o→posF W b (o++e) a=posF W b o a:=by
 intro o
 induction o with
 |nil=>intro e b a h;cases h
 |cons x xs ih=>
  intro e b a h;show(if x=a then b else posF W (b+szW W x) (xs++e) a)=if x=a then b else posF W (b+szW W x) xs a
  split
  · rfl
  · rcases List.mem_cons.1 h with rfl|h
    · exact absurd rfl ‹_›
    · exact ih h
theorem posF_last {W:List Int}: ∀ {o:List Nat} {b a:Nat},a ∉ o→posF W b (o++[a]) a=b+totalW W o:=by
 intro o
 induction o with
 |nil=>intro b a _;show(if a=a then b else _)=_;rw[if_pos rfl];rfl
 |cons x xs ih=>
  intro b a h;show(if x=a then b else posF W (b+szW W x) (xs++[a]) a)=_;rw[if_neg (fun hh=>h (by rw[hh];exact List.mem_cons_self ..)),ih (fun hh=>h (List.mem_cons_of_mem _ hh))];show _=b+(szW W x+totalW W xs);omega
theorem totalW_app (W:List Int)(a b:List Nat):totalW W (a++b)=totalW W a+totalW W b:=by simp[totalW]
theorem totalW_erase {W:List Int}: ∀ {l:List Nat} {a:Nat},a∈l→totalW W l=szW W a+totalW W (l.erase a):=by
 intro l
 induction l with
 |nil=>intro a h;cases h
 |cons x l ih=>
  intro a h;by_cases hx:x=a
  · subst hx;rw[List.erase_cons_head];rfl
  · rw[List.erase_cons_tail (by simpa using hx)];have:=ih (a:=a) ((List.mem_cons.1 h).resolve_left (fun hh=>hx hh.symm));show szW W x+totalW W l=szW W a+(szW W x+totalW W (l.erase a));omega
theorem totalW_sub {W:List Int}: ∀ {o l:List Nat},o.Nodup→(∀a∈o,a∈l)→totalW W o≤totalW W l:=by
 intro o
 induction o with
 |nil=>intro l _ _;exact Nat.zero_le _
 |cons x o ih=>
  intro l hn hs;obtain⟨h1,h2⟩:=List.nodup_cons.1 hn;rw[totalW_erase (hs x (List.mem_cons_self ..))];have:=ih (l:=l.erase x) h2 fun a ha=>(List.mem_erase_of_ne (fun hh=>by subst hh;exact h1 ha)).2 (hs a (List.mem_cons_of_mem _ ha));show szW W x+totalW W o≤_;omega
theorem length_total (W:List Int)(o:List Nat):o.length≤totalW W o:=by
 induction o with
 |nil=>exact Nat.zero_le _
 |cons x o ih=>show o.length+1≤szW W x+totalW W o;unfold szW;omega
def Vw (l:List Nat)(w:Int):Prop:=Int.tmod w 2≠0∨ ∃a:Nat,w=2*(a:Int)∧(a=0∨a∈l)
structure Col (W:List Int)(fr tp:Nat)(l new:List Nat):Prop where
 fr1:1≤fr
 tpn:tp≤W.length
 cell: ∀p∈l,1≤p∧p<tp∧0≤W.getD p 0∧0≤hdS (W.getD p 0)∧hdS (W.getD p 0)≤20∧p+szW W p≤tp
 word: ∀p∈l,refB (hdK (W.getD p 0))=true→ ∀w∈fieldsW W p,Vw l w
 mem: ∀p,p∈new↔p∈l∧fr≤p
 tot:fr+totalW W new≤tp
def mvw (W:List Int)(fr:Nat)(o:List Nat)(w:Int):Int:=if Int.tmod w 2≠0 then w else if Int.tdiv w 2<((max fr 1:Nat):Int)then w else 2*(posF W fr o (Int.tdiv w 2).toNat:Int)
structure St (W:List Int)(fr:Nat)(new:List Nat)(s:Mv)(Y:List Int):Prop where
 D:s.D=Y++List.replicate (W.length-s.top) 0
 lY:Y.length=s.top
 top:s.top=fr+totalW W s.ord
 nd:s.ord.Nodup
 sub: ∀a∈s.ord,a∈new
 lT:s.T.length=W.length
 T: ∀a,a<W.length→s.T.getD a 0=posF W fr s.ord a
section
variable {W:List Int}{fr tp:Nat}{l new:List Nat}(C:Col W fr tp l new)
include C
theorem chunk_length {p:Nat}(hp:p∈l):(chunkW W p).length=szW W p:=by
 obtain⟨h1,h2,h3,h4,h5,h6⟩:=C.cell p hp;have:=C.tpn;unfold chunkW;rw[List.length_take,List.length_drop];unfold szW at h6 ⊢;omega
theorem Col.fit {s:Mv}{Y:List Int}(S:St W fr new s Y):s.top≤tp:=by
 have:=totalW_sub (W:=W) S.nd S.sub;have:=C.tot;have:=S.top;omega
theorem putAt_zeros: ∀(Y c:List Int) (z:Nat),c.length≤z→putAt (Y++List.replicate z 0) Y.length c=Y++c++List.replicate (z-c.length) 0:=by
 have _:=C;intro Y
 induction Y with
 |nil=>
  intro c
  induction c with
  |nil=>
   intro z _;show putAt (List.replicate z (0:Int)) 0 []=_;cases z<;>rfl
  |cons x c ih=>
   intro z hz;cases z with
   |zero=>simp at hz
   |succ z=>
    show x::putAt (List.replicate z 0) 0 c=_;have:=ih z (by simpa using hz);simp only[List.nil_append,List.length_nil]at this;rw[this];simp
 |cons y Y ih=>
  intro c z hz;show y::putAt (Y++List.replicate z 0) Y.length c=_;rw[ih c z hz];rfl
theorem move_st {s:Mv}{Y:List Int}(S:St W fr new s Y){w:Int}(hw:Vw l w):
 ∃s' ext,moveO W fr s w=some (s',mvw W fr s'.ord w)∧s'.ord=s.ord++ext∧withP fr [w] s.ord=s.ord++ext∧St W fr new s' (Y++ext.flatMap (chunkW W))∧(Int.tmod w 2=0→((max fr 1:Nat):Int)≤Int.tdiv w 2→(Int.tdiv w 2).toNat∈s'.ord):=by
 have same: ∀ {v:Int},v=mvw W fr s.ord w→withP fr [w] s.ord=s.ord→(Int.tmod w 2=0→((max fr 1:Nat):Int)≤Int.tdiv w 2→(Int.tdiv w 2).toNat∈s.ord)→moveO W fr s w=some (s,v)→ ∃s' ext,moveO W fr s w=some (s',mvw W fr s'.ord w)∧s'.ord=s.ord++ext∧withP fr [w] s.ord=s.ord++ext∧St W fr new s' (Y++ext.flatMap (chunkW W))∧(Int.tmod w 2=0→((max fr 1:Nat):Int)≤Int.tdiv w 2→(Int.tdiv w 2).toNat∈s'.ord):=fun {v} hv hwp hin hm=>⟨s,[],by rw[hm,hv],by simp,by rw[hwp];simp,by simpa using S,hin⟩;have hmax:((max fr 1:Nat):Int)=(fr:Int):=by rw[Nat.max_eq_left C.fr1]
 by_cases h1:Int.tmod w 2≠0
 · refine same (v:=w) (by unfold mvw;rw[if_pos h1]) ?_ (fun h=>absurd h h1) (by unfold moveO;rw[if_pos h1]);unfold withP refd;rw[if_pos h1,if_pos (by have:=C.fr1;omega)];rfl
 by_cases h2:Int.tdiv w 2<((max fr 1:Nat):Int)
 · refine same (v:=w) (by unfold mvw;rw[if_neg h1,if_pos h2]) ?_ (fun _ h=>by omega) (by unfold moveO;rw[if_neg h1,if_pos h2]);unfold withP refd;rw[if_neg h1,if_pos h2];rfl
 obtain⟨a,rfl,ha⟩: ∃a:Nat,w=2*(a:Int)∧(a=0∨a∈l):=hw.resolve_left h1;have hd:Int.tdiv (2*(a:Int)) 2=(a:Int):=by rw[tdiv_eq,if_pos (by omega)];omega
 rw[hd]at h2;have hfa:fr≤a:=by omega
 have hfr:=C.fr1;have hal:a∈l:=ha.resolve_left (by omega);obtain⟨c1,c2,c3,c4,c5,c6⟩:=C.cell a hal;have htn:=C.tpn;have haW:a<W.length:=by omega
 have hTa:=S.T a haW;have hlT:=S.lT;have rd:refd (2*(a:Int))=(a:Int):=by unfold refd;rw[if_neg h1,hd]
 have mv: ∀o,mvw W fr o (2*(a:Int))=2*(posF W fr o a:Int):=fun o=>by
  unfold mvw;rw[if_neg h1,hd,if_neg h2];rfl
 have tn:(a:Int).toNat=a:=rfl;by_cases hin:a∈s.ord
 · have hpos:=posF_mem (W:=W) (b:=fr) hin;refine same (v:=2*(posF W fr s.ord a:Int)) (mv _).symm ?_ (fun _ _=>by rw[hd,tn];exact hin) ?_
   · unfold withP;rw[rd,if_neg h2,if_pos (by rw[List.contains_iff_mem];exact List.mem_map.2 ⟨a,hin,rfl⟩)];rfl
   · unfold moveO;rw[if_neg h1,hd,if_neg h2,tn,if_pos (by omega),if_pos (by rw[hTa];omega),hTa]
 · have hT0:s.T.getD a 0=0:=by rw[hTa];exact posF_not hin
   have hnd:(s.ord++[a]).Nodup:=by
    rw[List.nodup_append];exact⟨S.nd,by simp,fun x hx y hy hxy=>by rw[List.mem_singleton.1 hy]at hxy;exact hin (hxy▸hx)⟩
   have hsub: ∀x∈s.ord++[a],x∈new:=fun x hx=>by
    rcases List.mem_append.1 hx with hx|hx
    · exact S.sub x hx
    · rw[List.mem_singleton.1 hx];exact(C.mem a).2 ⟨hal,hfa⟩
   have htot:=totalW_sub (W:=W) hnd hsub;rw[totalW_app]at htot;have ht1:totalW W [a]=szW W a:=by simp[totalW]
   have hct:=C.tot;have hst:=S.top;have hlen:=length_total W s.ord;have hsz:szW W a=1+(hdS (W.getD a 0)).toNat:=rfl;have hDl:s.D.length=W.length:=by
    rw[S.D,List.length_append,S.lY,List.length_replicate];have:=C.fit S;omega
   refine⟨⟨s.T.set a s.top,s.ord++[a],putAt s.D s.top (chunkW W a),s.top+1+(hdS (W.getD a 0)).toNat⟩,[a],?_,rfl,?_,?_,fun _ _=>by rw[hd,tn];simp⟩
   · unfold moveO;rw[if_neg h1,hd,if_neg h2,tn,if_pos (by omega),if_neg (by rw[hT0];simp),if_pos ⟨haW,c4,c5,by omega,by omega,by omega,by omega⟩,mv];rw[posF_last hin,hst]
   · unfold withP;rw[rd,if_neg h2,if_neg (by
      rw[List.contains_iff_mem];intro hh;obtain⟨x,hx,e⟩:=List.mem_map.1 hh;exact hin (Int.ofNat_inj.1 e▸hx))]
     rfl
   · refine⟨?_,?_,?_,hnd,hsub,by simpa using hlT,fun b hb=> ?_⟩
     · show putAt s.D s.top (chunkW W a)=_;have e0:putAt s.D s.top (chunkW W a)=Y++chunkW W a++List.replicate (W.length-s.top-szW W a) 0:=by
        have:=putAt_zeros C Y (chunkW W a) (W.length-s.top) (by rw[chunk_length C hal];omega);rw[S.lY,←S.D,chunk_length C hal]at this;exact this
       rw[e0];show _=Y++List.flatMap (chunkW W) [a]++List.replicate (W.length-(s.top+1+(hdS (W.getD a 0)).toNat)) 0;have e1:W.length-s.top-szW W a=W.length-(s.top+1+(hdS (W.getD a 0)).toNat):=by rw[hsz];omega
       rw[e1];simp
     · show(Y++List.flatMap (chunkW W) [a]).length=s.top+1+(hdS (W.getD a 0)).toNat;rw[List.length_append,S.lY];simp only[List.flatMap_cons,List.flatMap_nil,List.append_nil,chunk_length C hal,hsz];omega
     · show s.top+1+(hdS (W.getD a 0)).toNat=fr+totalW W (s.ord++[a]);rw[totalW_app,ht1,hsz];omega
     · show(s.T.set a s.top).getD b 0=posF W fr (s.ord++[a]) b;by_cases hba:a=b
       · subst hba;rw[posF_last hin];simp only[List.getD,List.getElem?_set,if_true];rw[if_pos (by omega)];exact hst
       · have e:(s.T.set a s.top).getD b 0=s.T.getD b 0:=by simp only[List.getD,List.getElem?_set,if_neg hba]
         rw[e,S.T b hb];by_cases hbo:b∈s.ord
         · rw[posF_app hbo]
         · rw[posF_not hbo,posF_not (by
            rw[List.mem_append,List.mem_singleton];rintro(h|h)
            · exact hbo h
            · exact hba h.symm)]
omit C in
theorem withP_cons (w:Int)(ws:List Int)(o:List Nat):withP fr (w::ws) o=withP fr ws (withP fr [w] o):=by
 show(if refd w<((max fr 1:Nat):Int)then withP fr ws o else if (o.map Int.ofNat).contains (refd w)then withP fr ws o else withP fr ws (o++[(refd w).toNat]))=withP fr ws (if refd w<((max fr 1:Nat):Int)then o else if (o.map Int.ofNat).contains (refd w)then o else o++[(refd w).toNat]);split
 · rfl
 · split<;>rfl
def Tin (fr:Nat)(o:List Nat)(w:Int):Prop:=Int.tmod w 2=0→((max fr 1:Nat):Int)≤Int.tdiv w 2→(Int.tdiv w 2).toNat∈o
omit C in
theorem Tin.app {o:List Nat}{w:Int}(t:Tin fr o w)(e:List Nat):Tin fr (o++e) w:=fun h1 h2=>List.mem_append.2 (.inl (t h1 h2))
omit C in
theorem mvw_app {o:List Nat}{w:Int}(t:Tin fr o w)(e:List Nat):mvw W fr (o++e) w=mvw W fr o w:=by
 unfold mvw;split
 · rfl
 · rename_i h1;split
   · rfl
   · rename_i h2;rw[posF_app (t (by simpa using h1) (by omega))]
theorem moves_st: ∀(ws:List Int) {s:Mv} {Y:List Int},St W fr new s Y→(∀w∈ws,Vw l w)→ ∃s' ext,movesO W fr ws s=some (s',ws.map (mvw W fr s'.ord))∧s'.ord=s.ord++ext∧withP fr ws s.ord=s'.ord∧St W fr new s' (Y++ext.flatMap (chunkW W))∧ ∀w∈ws,Tin fr s'.ord w:=by
 intro ws
 induction ws with
 |nil=>intro s Y S _;exact⟨s,[],rfl,by simp,rfl,by simpa using S,fun w h=>by cases h⟩
 |cons w ws ih=>
  intro s Y S hv;obtain⟨s1,e1,m1,o1,p1,S1,t1⟩:=move_st C S (hv w (List.mem_cons_self ..));obtain⟨s2,e2,m2,o2,p2,S2,t2⟩:=ih S1 fun x hx=>hv x (List.mem_cons_of_mem _ hx);refine⟨s2,e1++e2,?_,by rw[o2,o1,List.append_assoc],?_,by simpa using S2,fun x hx=> ?_⟩
  · show(moveO W fr s w).bind _=_;rw[m1];show(movesO W fr ws s1).map _=_;rw[m2];show some (s2,mvw W fr s1.ord w::_)=_;rw[List.map_cons,o2,mvw_app t1]
  · rw[withP_cons,p1,←o1,p2]
  · rcases List.mem_cons.1 hx with rfl|hx
    · rw[o2];exact Tin.app t1 e2
    · exact t2 x hx
omit C in
theorem St.put {s:Mv}{Y:List Int}(S:St W fr new s Y){i:Nat}(hi:i<Y.length)(v:Int):St W fr new (s.put i v) (Y.set i v):=by
 refine⟨?_,by rw[List.length_set];exact S.lY,S.top,S.nd,S.sub,S.lT,S.T⟩;show s.D.set i v=_;rw[S.D,List.set_append_left _ _ hi];rfl
omit C in
theorem St.getD {s:Mv}{Y:List Int}(S:St W fr new s Y){i:Nat}(hi:i<Y.length):s.D.getD i 0=Y.getD i 0∧i<s.D.length:=by
 rw[S.D];constructor
 · simp only[List.getD];rw[List.getElem?_append_left hi]
 · rw[List.length_append];omega
theorem chgIn_st: ∀(todo X Z:List Int) {s:Mv},St W fr new s (X++todo++Z)→(∀w∈todo,Vw l w)→ ∃s' ext,chgIn (moveO W fr) todo.length X.length s=some s'∧s'.ord=s.ord++ext∧withP fr todo s.ord=s'.ord∧St W fr new s' (X++todo.map (mvw W fr s'.ord)++Z++ext.flatMap (chunkW W))∧ ∀w∈todo,Tin fr s'.ord w:=by
 intro todo
 induction todo with
 |nil=>intro X Z s S _;exact⟨s,[],rfl,by simp,rfl,by simpa using S,fun w h=>by cases h⟩
 |cons w ws ih=>
  intro X Z s S hv;have hX:X.length<(X++w::ws++Z).length:=by simp
  obtain⟨g1,g2⟩:=S.getD hX;have gw:(X++w::ws++Z).getD X.length 0=w:=by simp[List.getD]
  obtain⟨s1,e1,m1,o1,p1,S1,t1⟩:=move_st C S (hv w (List.mem_cons_self ..));have S2:=S1.put (i:=X.length) (by rw[List.length_append];omega) (mvw W fr s1.ord w);have eY:((X++w::ws++Z)++e1.flatMap (chunkW W)).set X.length (mvw W fr s1.ord w)=(X++[mvw W fr s1.ord w])++ws++(Z++e1.flatMap (chunkW W)):=by
   simp[List.append_assoc]
  rw[eY]at S2;obtain⟨s3,e3,m3,o3,p3,S3,t3⟩:=ih (X++[mvw W fr s1.ord w]) (Z++e1.flatMap (chunkW W)) S2 fun x hx=>hv x (List.mem_cons_of_mem _ hx);have o3':s3.ord=s1.ord++e3:=o3;refine⟨s3,e1++e3,?_,by rw[o3',o1,List.append_assoc],?_,?_,fun x hx=> ?_⟩
  · show(if X.length<s.D.length then (moveO W fr s (s.D.getD X.length 0)).bind fun r=>chgIn (moveO W fr) ws.length (X.length+1) (r.1.put X.length r.2)else none)=_;rw[if_pos g2,g1,gw,m1];show chgIn (moveO W fr) ws.length (X.length+1) _=_;rw[List.length_append]at m3;exact m3
  · rw[withP_cons,p1,←o1];exact p3
  · have:X++(w::ws).map (mvw W fr s3.ord)++Z++(e1++e3).flatMap (chunkW W)=X++[mvw W fr s1.ord w]++ws.map (mvw W fr s3.ord)++(Z++e1.flatMap (chunkW W))++e3.flatMap (chunkW W):=by
     rw[List.map_cons,o3',mvw_app t1];simp[List.append_assoc]
    rw[this];exact S3
  · rcases List.mem_cons.1 hx with rfl|hx
    · rw[o3'];exact Tin.app t1 e3
    · exact t3 x hx
theorem chunk_eq {p:Nat}(hp:p∈l):chunkW W p=W.getD p 0::fieldsW W p:=by
 obtain⟨h1,h2,h3,h4,h5,h6⟩:=C.cell p hp;have:=C.tpn;have hpW:p<W.length:=by omega
 unfold chunkW fieldsW;rw[List.drop_eq_getElem_cons hpW,Nat.add_comm 1,List.take_succ_cons];congr 1;simp[List.getD,List.getElem?_eq_getElem hpW]
theorem fields_len {p:Nat}(hp:p∈l):(fieldsW W p).length=(hdS (W.getD p 0)).toNat:=by
 obtain⟨h1,h2,h3,h4,h5,h6⟩:=C.cell p hp;have:=C.tpn;refine fieldsW_length ?_;unfold szW at h6;omega
theorem cellAt {p:Nat}(hp:p∈l):CellAt W p:=by
 obtain⟨h1,h2,h3,h4,h5,h6⟩:=C.cell p hp;have:=C.tpn;refine⟨by omega,h3,h5,?_⟩;unfold szW at h6;omega
def cellM (W:List Int)(fr:Nat)(o:List Nat)(p:Nat):List Int:=W.getD p 0::if keepB (hdK (W.getD p 0))then (fieldsW W p).map (mvw W fr o)else fieldsW W p
theorem chg_st (hW:W.length≤1000): ∀(f i:Nat) (done:List Int) {s:Mv},St W fr new s (done++(s.ord.drop i).flatMap (chunkW W))→i≤s.ord.length→W.length<f+i+fr→ ∃s' ext,chgO keepB (moveO W fr) f done.length s=some s'∧reachO W fr f i s.ord=some s'.ord∧s'.ord=s.ord++ext∧St W fr new s' (done++(s'.ord.drop i).flatMap (cellM W fr s'.ord))∧ ∀p∈s'.ord.drop i,keepB (hdK (W.getD p 0))=true→ ∀w∈fieldsW W p,Tin fr s'.ord w:=by
 intro f
 induction f with
 |zero=>
  intro i done s S hi hf;have:=length_total W s.ord;have:=C.fit S;have:=S.top;have:=C.tpn;omega
 |succ f ih=>
  intro i done s S hi hf;have htop:s.top=done.length+((s.ord.drop i).flatMap (chunkW W)).length:=by rw[←S.lY,List.length_append]
  have hlt:=length_total W s.ord;have hfit:=C.fit S;have hst:=S.top;have htn:=C.tpn;by_cases hil:i<s.ord.length
  · have hd:=List.drop_eq_getElem_cons hil;generalize hp:s.ord[i]=p at hd;have hpo:p∈s.ord:=hp▸List.getElem_mem hil;have hpl:p∈l:=((C.mem p).1 (S.sub p hpo)).1;obtain⟨c1,c2,c3,c4,c5,c6⟩:=C.cell p hpl;rw[hd,List.flatMap_cons,chunk_eq C hpl]at S htop;have hdl:done.length<s.top:=by rw[htop];simp
    have hlen:done.length<(done++(W.getD p 0::fieldsW W p++(s.ord.drop (i+1)).flatMap (chunkW W))).length:=by simp
    obtain⟨g1,g2⟩:=S.getD hlen;have gw:(done++(W.getD p 0::fieldsW W p++(s.ord.drop (i+1)).flatMap (chunkW W))).getD done.length 0=W.getD p 0:=by simp[List.getD]
    rw[gw]at g1;have fl:=fields_len C hpl;have gl:s.ord.getD i 0=p:=by simp[List.getD,List.getElem?_eq_getElem hil,hp]
    have hchg:chgO keepB (moveO W fr) (f+1) done.length s=(if keepB (hdK (W.getD p 0))then (chgIn (moveO W fr) (hdS (W.getD p 0)).toNat (done.length+1) s).bind fun s'=>chgO keepB (moveO W fr) f (done.length+1+(hdS (W.getD p 0)).toNat) s' else chgO keepB (moveO W fr) f (done.length+1+(hdS (W.getD p 0)).toNat) s):=by
     conv=>lhs;unfold chgO
     rw[if_pos hdl,g1,if_pos ⟨g2,c4,c5⟩]
    have hrch:reachO W fr (f+1) i s.ord=reachO W fr f (i+1) (withP fr (strongP W p) s.ord):=by
     conv=>lhs;unfold reachO
     rw[if_pos hil,gl,if_pos ⟨cellAt C hpl,by omega⟩]
    rw[hchg,hrch];cases hk:keepB (hdK (W.getD p 0))with
    |true=>
     rw[if_pos rfl];have hs:strongP W p=fieldsW W p:=by unfold strongP;rw[if_pos hk]
     rw[hs];have S1:St W fr new s ((done++[W.getD p 0])++fieldsW W p++(s.ord.drop (i+1)).flatMap (chunkW W)):=by simpa[List.append_assoc] using S
     obtain⟨s1,e1,m1,o1,p1,S2,t1⟩:=chgIn_st C (fieldsW W p) (done++[W.getD p 0]) ((s.ord.drop (i+1)).flatMap (chunkW W)) S1 (C.word p hpl (by unfold refB;rw[hk];rfl));have m1':chgIn (moveO W fr) (hdS (W.getD p 0)).toNat (done.length+1) s=some s1:=by
      rw[←fl];simpa using m1
     rw[m1',p1];have d1:s1.ord.drop (i+1)=s.ord.drop (i+1)++e1:=by rw[o1,List.drop_append_of_le_length (by omega)]
     have S3:St W fr new s1 ((done++W.getD p 0::(fieldsW W p).map (mvw W fr s1.ord))++(s1.ord.drop (i+1)).flatMap (chunkW W)):=by
      rw[d1];simpa[List.append_assoc] using S2
     have hl1:(done++W.getD p 0::(fieldsW W p).map (mvw W fr s1.ord)).length=done.length+1+(hdS (W.getD p 0)).toNat:=by simp[fl];omega
     obtain⟨s4,e4,m4,r4,o4,S4,t4⟩:=ih (i+1) _ S3 (by rw[o1,List.length_append];omega) (by omega);rw[hl1]at m4;have hti: ∀w∈fieldsW W p,Tin fr s4.ord w:=fun w hw=>by rw[o4];exact(t1 w hw).app e4
     have d4:s4.ord.drop i=p::s4.ord.drop (i+1):=by
      have:i<s4.ord.length:=by rw[o4,o1];simp;omega
      rw[List.drop_eq_getElem_cons this];congr 1;simp only[o4,o1];rw[List.getElem_append_left (by simp;omega),List.getElem_append_left hil,hp]
     refine⟨s4,e1++e4,m4,r4,by rw[o4,o1,List.append_assoc],?_,fun q hq hkq w hw=> ?_⟩
     · have em:(fieldsW W p).map (mvw W fr s4.ord)=(fieldsW W p).map (mvw W fr s1.ord):=List.map_congr_left fun w hw=>by rw[o4,mvw_app (t1 w hw)]
       rw[d4,List.flatMap_cons];have:cellM W fr s4.ord p=W.getD p 0::(fieldsW W p).map (mvw W fr s1.ord):=by unfold cellM;rw[if_pos hk,em]
       rw[this];simpa[List.append_assoc] using S4
     · rw[d4]at hq;rcases List.mem_cons.1 hq with rfl|hq
       · exact hti w hw
       · exact t4 q hq hkq w hw
    |false=>
     rw[if_neg Bool.false_ne_true];have hs:strongP W p=[]:=by unfold strongP;rw[if_neg (by rw[hk];exact Bool.false_ne_true)]
     rw[hs];have S3:St W fr new s ((done++W.getD p 0::fieldsW W p)++(s.ord.drop (i+1)).flatMap (chunkW W)):=by simpa[List.append_assoc] using S
     have hl1:(done++W.getD p 0::fieldsW W p).length=done.length+1+(hdS (W.getD p 0)).toNat:=by simp[fl];omega
     obtain⟨s4,e4,m4,r4,o4,S4,t4⟩:=ih (i+1) _ S3 (by omega) (by omega);rw[hl1]at m4;have d4:s4.ord.drop i=p::s4.ord.drop (i+1):=by
      have:i<s4.ord.length:=by rw[o4];simp;omega
      rw[List.drop_eq_getElem_cons this];congr 1;simp only[o4];rw[List.getElem_append_left hil,hp]
     refine⟨s4,e4,m4,r4,o4,?_,fun q hq hkq w hw=> ?_⟩
     · rw[d4,List.flatMap_cons];have:cellM W fr s4.ord p=W.getD p 0::fieldsW W p:=by unfold cellM;rw[if_neg (by rw[hk];exact Bool.false_ne_true)]
       rw[this];simpa[List.append_assoc] using S4
     · rw[d4]at hq;rcases List.mem_cons.1 hq with rfl|hq
       · rw[hk]at hkq;cases hkq
       · exact t4 q hq hkq w hw
  · have hd:s.ord.drop i=[]:=List.drop_of_length_le (by omega);rw[hd]at S htop;refine⟨s,[],?_,?_,by simp,?_,fun q hq=>by rw[hd]at hq;cases hq⟩
    · unfold chgO;rw[if_neg (by rw[htop];simp)]
    · unfold reachO;rw[if_neg hil]
    · rw[hd];exact S
end
def cellF (W:List Int)(fr:Nat)(o:List Nat)(p:Nat):List Int:=W.getD p 0::if refB (hdK (W.getD p 0))then (fieldsW W p).map (mvw W fr o)else fieldsW W p
section
variable {W:List Int}{fr tp:Nat}{l new:List Nat}(C:Col W fr tp l new)
include C
theorem weak_st {s:Mv}{Y:List Int}(S:St W fr new s Y){w:Int}(hw:Vw l w):weakO W fr s w=some (s,mvw W fr s.ord w):=by
 unfold weakO mvw;by_cases h1:Int.tmod w 2≠0
 · rw[if_pos h1,if_pos h1]
 rw[if_neg h1,if_neg h1];by_cases h2:Int.tdiv w 2<((max fr 1:Nat):Int)
 · rw[if_pos h2,if_pos h2]
 rw[if_neg h2,if_neg h2];obtain⟨a,rfl,ha⟩:=hw.resolve_left h1;have hd:Int.tdiv (2*(a:Int)) 2=(a:Int):=by rw[tdiv_eq,if_pos (by omega)];omega
 rw[hd]at h2 ⊢;have tn:(a:Int).toNat=a:=rfl;have hal:a∈l:=ha.resolve_left (by omega);have:=C.cell a hal;have htn:=C.tpn;have hlT:=S.lT;rw[tn,if_pos (by omega),S.T a (by omega)]
theorem chgInW_st: ∀(todo X Z:List Int) {s:Mv},St W fr new s (X++todo++Z)→(∀w∈todo,Vw l w)→ ∃s',chgIn (weakO W fr) todo.length X.length s=some s'∧s'.ord=s.ord∧St W fr new s' (X++todo.map (mvw W fr s.ord)++Z):=by
 intro todo
 induction todo with
 |nil=>intro X Z s S _;exact⟨s,rfl,rfl,by simpa using S⟩
 |cons w ws ih=>
  intro X Z s S hv;have hX:X.length<(X++w::ws++Z).length:=by simp
  obtain⟨g1,g2⟩:=S.getD hX;have gw:(X++w::ws++Z).getD X.length 0=w:=by simp[List.getD]
  have m1:=weak_st C S (hv w (List.mem_cons_self ..));have S2:=S.put hX (mvw W fr s.ord w);have eY:(X++w::ws++Z).set X.length (mvw W fr s.ord w)=(X++[mvw W fr s.ord w])++ws++Z:=by
   simp[List.append_assoc]
  rw[eY]at S2;obtain⟨s3,m3,o3,S3⟩:=ih (X++[mvw W fr s.ord w]) Z S2 fun x hx=>hv x (List.mem_cons_of_mem _ hx);refine⟨s3,?_,o3,?_⟩
  · show(if X.length<s.D.length then (weakO W fr s (s.D.getD X.length 0)).bind fun r=>chgIn (weakO W fr) ws.length (X.length+1) (r.1.put X.length r.2)else none)=_;rw[if_pos g2,g1,gw,m1];show chgIn (weakO W fr) ws.length (X.length+1) _=_;rw[List.length_append]at m3;exact m3
  · have e:(s.put X.length (mvw W fr s.ord w)).ord=s.ord:=rfl;rw[e]at S3;simpa[List.append_assoc] using S3
theorem chgW_st: ∀(rest:List Nat) (f:Nat) (done:List Int) {s:Mv},(∀p∈rest,p∈l)→St W fr new s (done++rest.flatMap (cellM W fr s.ord))→rest.length<f→ ∃s',chgO (fun k=>k==5) (weakO W fr) f done.length s=some s'∧s'.ord=s.ord∧St W fr new s' (done++rest.flatMap (cellF W fr s.ord)):=by
 intro rest
 induction rest with
 |nil=>
  intro f done s _ S hf;obtain⟨f,rfl⟩: ∃g,f=g+1:=⟨f-1,by simp at hf;omega⟩;refine⟨s,?_,rfl,S⟩;unfold chgO;rw[if_neg (by rw[←S.lY];simp)]
 |cons p rest ih=>
  intro f done s hl S hf;obtain⟨f,rfl⟩: ∃g,f=g+1:=⟨f-1,by simp at hf;omega⟩;have hpl:=hl p (List.mem_cons_self ..);obtain⟨c1,c2,c3,c4,c5,c6⟩:=C.cell p hpl;have fl:=fields_len C hpl;have hcl:(cellM W fr s.ord p).length=1+(hdS (W.getD p 0)).toNat:=by
   unfold cellM;split<;>simp[fl]<;>omega
  rw[List.flatMap_cons]at S;have htop:s.top=(done++(cellM W fr s.ord p++rest.flatMap (cellM W fr s.ord))).length:=S.lY.symm;have hdl:done.length<s.top:=by rw[htop,List.length_append,List.length_append,hcl];omega
  have hlen:done.length<(done++(cellM W fr s.ord p++rest.flatMap (cellM W fr s.ord))).length:=by rw[←htop];exact hdl
  obtain⟨g1,g2⟩:=S.getD hlen;have gw:(done++(cellM W fr s.ord p++rest.flatMap (cellM W fr s.ord))).getD done.length 0=W.getD p 0:=by simp[List.getD,cellM]
  rw[gw]at g1;have hchg:chgO (fun k=>k==5) (weakO W fr) (f+1) done.length s=(if (hdK (W.getD p 0)==5)then (chgIn (weakO W fr) (hdS (W.getD p 0)).toNat (done.length+1) s).bind fun s'=>chgO (fun k=>k==5) (weakO W fr) f (done.length+1+(hdS (W.getD p 0)).toNat) s' else chgO (fun k=>k==5) (weakO W fr) f (done.length+1+(hdS (W.getD p 0)).toNat) s):=by
   conv=>lhs;unfold chgO
   rw[if_pos hdl,g1,if_pos ⟨g2,c4,c5⟩]
  rw[hchg];by_cases hk:hdK (W.getD p 0)=5
  · have hkb:(hdK (W.getD p 0)==5)=true:=by rw[hk];rfl
    have hkk:keepB (hdK (W.getD p 0))=false:=by rw[hk];rfl
    have hrr:refB (hdK (W.getD p 0))=true:=by rw[hk];rfl
    have eM:cellM W fr s.ord p=W.getD p 0::fieldsW W p:=by unfold cellM;rw[if_neg (by rw[hkk];exact Bool.false_ne_true)]
    have eF:cellF W fr s.ord p=W.getD p 0::(fieldsW W p).map (mvw W fr s.ord):=by unfold cellF;rw[if_pos hrr]
    rw[if_pos hkb];rw[eM]at S;have S1:St W fr new s ((done++[W.getD p 0])++fieldsW W p++rest.flatMap (cellM W fr s.ord)):=by simpa[List.append_assoc] using S
    obtain⟨s1,m1,o1,S2⟩:=chgInW_st C (fieldsW W p) (done++[W.getD p 0]) _ S1 (C.word p hpl hrr);have m1':chgIn (weakO W fr) (hdS (W.getD p 0)).toNat (done.length+1) s=some s1:=by
     rw[←fl];simpa using m1
    have S3:St W fr new s1 ((done++W.getD p 0::(fieldsW W p).map (mvw W fr s.ord))++rest.flatMap (cellM W fr s1.ord)):=by
     rw[o1];simpa[List.append_assoc] using S2
    have hl1:(done++W.getD p 0::(fieldsW W p).map (mvw W fr s.ord)).length=done.length+1+(hdS (W.getD p 0)).toNat:=by simp[fl];omega
    obtain⟨s4,m4,o4,S4⟩:=ih f _ (fun q hq=>hl q (List.mem_cons_of_mem _ hq)) S3 (by simp at hf;omega);rw[hl1]at m4;rw[m1'];refine⟨s4,m4,o4.trans o1,?_⟩;rw[List.flatMap_cons,eF];rw[o1]at S4;simpa[List.append_assoc] using S4
  · have hkb:(hdK (W.getD p 0)==5)=false:=beq_eq_false_iff_ne.2 hk;have eF:cellF W fr s.ord p=cellM W fr s.ord p:=by
     unfold cellF cellM refB;rw[hkb,Bool.or_false]
    rw[if_neg (by rw[hkb];exact Bool.false_ne_true)];have S3:St W fr new s ((done++cellM W fr s.ord p)++rest.flatMap (cellM W fr s.ord)):=by simpa[List.append_assoc] using S
    have hl1:(done++cellM W fr s.ord p).length=done.length+1+(hdS (W.getD p 0)).toNat:=by rw[List.length_append,hcl];omega
    obtain⟨s4,m4,o4,S4⟩:=ih f _ (fun q hq=>hl q (List.mem_cons_of_mem _ hq)) S3 (by simp at hf;omega);rw[hl1]at m4;refine⟨s4,m4,o4,?_⟩;rw[List.flatMap_cons,eF];simpa[List.append_assoc] using S4
end
theorem cellsG_total {W:List Int}{top:Nat}: ∀ {f p:Nat} {l:List Nat},cellsG W top f p=some l→p+totalW W l=top:=by
 intro f
 induction f with
 |zero=>intro p l h;cases h
 |succ f ih=>
  intro p l h;rcases cellsG_cons h with ⟨h1,h2,h3,l',rfl,h4⟩|⟨rfl,rfl⟩
  · have:=ih h4;show p+(szW W p+totalW W l')=top;unfold szW;omega
  · rfl
theorem Vw.of {l:List Nat}{w:Int}(h:wordR l w=true):Vw l w:=by
 unfold wordR at h;split at h
 · rename_i h0;subst h0;exact .inr ⟨0,rfl,.inl rfl⟩
 · split at h
   · exact .inl ‹_›
   · rename_i h1;rw[List.contains_iff_mem]at h;obtain⟨a,ha,e⟩:=List.mem_map.1 h;refine .inr ⟨a,?_,.inr ha⟩;have:=Int.mul_tdiv_add_tmod w 2;have h1:Int.tmod w 2=0:=by simpa using h1
     rw[h1,←e]at this;have e2:Int.ofNat a=(a:Int):=rfl;omega
theorem col_of {W:List Int}{top:Int}{R:List Int}{l:List Nat}(h:checkP W top R=some l):Col W 1 top.toNat l l∧ ∀w∈R,Vw l w:=by
 obtain⟨f1,f2,f3,f4,f5,f6,f7,f8,f9⟩:=checkP_cells h;have hR:=cellsG_R f7;have hm:=cellsR_mem hR;have htn:top.toNat≤W.length:=by omega
 have hl: ∀x∈l,x<W.length:=fun x hx=>by have:=hm.2 x hx;omega
 refine⟨⟨Nat.le_refl _,htn,fun p hp=> ?_,fun p hp hk w hw=> ?_,fun p=>⟨fun hp=>⟨hp,(hm.2 p hp).1⟩,fun hp=>hp.1⟩,Nat.le_of_eq (cellsG_total f7)⟩,fun w hw=> ?_⟩
 · obtain⟨m1,m2,m3,m4,m5⟩:=hm.2 p hp;refine⟨m1,m2,m3,?_,m4,?_⟩
   · unfold hdS;rw[tdiv_eq,if_pos m3];omega
   · unfold szW;omega
 · have:=List.all_eq_true.1 (List.all_eq_true.1 f9 p hp) w hw;have hk2:fieldB (beginP W l) (hdK (W.getD p 0)) w=wordB (beginP W l) w:=by
    unfold fieldB;unfold refB keepB at hk;rw[if_neg (fun h3=>by rw[h3]at hk;cases hk),if_neg (fun h3=>by rw[h3]at hk;cases hk)]
   rw[hk2,word_RB hl f1]at this;exact Vw.of this
 · have:=List.any_eq_false.1 f8 w hw;rw[word_RB hl f1]at this;exact Vw.of (by simpa using this)
theorem start_st {W:List Int}{fr tp:Nat}{l new:List Nat}(C:Col W fr tp l new)(hfr:fr≤W.length):St W fr new (startM W fr) (W.take fr):=by
 refine⟨?_,by rw[List.length_take];show min fr _=fr;omega,rfl,List.nodup_nil,fun a h=>(by cases h),(by show(List.replicate W.length 0).length=_;simp),fun a ha=> ?_⟩
 rotate_left
 · show(List.replicate W.length 0).getD a 0=0;simp[List.getD,ha]
 show putAt (List.replicate W.length (0:Int)) 0 (W.take fr)=_;have:=putAt_zeros C [] (W.take fr) W.length (by rw[List.length_take];omega);simp only[List.nil_append,List.length_nil]at this;rw[this,List.length_take,Nat.min_eq_left hfr];rfl
theorem run_all {W:List Int}{tp:Nat}{l:List Nat}(C:Col W 1 tp l l)(hW1:1≤W.length)(hW:W.length≤1000){R more:List Int}(hR: ∀w∈R,Vw l w)(hM: ∀w∈more,Vw l w):
 ∃s,runO W 1 R more=some (s,R.map (mvw W 1 s.ord),more.map (mvw W 1 s.ord))∧reachO W 1 (W.length+2) 0 (withP 1 (R++more) [])=some s.ord∧St W 1 l s (W.take 1++s.ord.flatMap (cellF W 1 s.ord)):=by
 have S0:=start_st C hW1;obtain⟨s1,e1,m1,o1,p1,S1,t1⟩:=moves_st C R S0 hR;obtain⟨s2,e2,m2,o2,p2,S2,t2⟩:=moves_st C more S1 hM;have o1':s1.ord=e1:=by rw[o1];rfl
 have o2':s2.ord=e1++e2:=by rw[o2,o1']
 have S2':St W 1 l s2 (W.take 1++(s2.ord.drop 0).flatMap (chunkW W)):=by
  rw[List.drop_zero,o2'];simpa[List.append_assoc] using S2
 have d1:(W.take 1).length=1:=by rw[List.length_take];omega
 obtain⟨s3,e3,m3,r3,o3,S3,t3⟩:=chg_st C hW (W.length+2) 0 (W.take 1) S2' (Nat.zero_le _) (by omega);rw[List.drop_zero]at S3;rw[d1]at m3;have hl3: ∀p∈s3.ord,p∈l:=S3.sub;have hlen:=length_total W s3.ord;have hfit:=C.fit S3;have htop:=S3.top;have htn:=C.tpn;obtain⟨s4,m4,o4,S4⟩:=chgW_st C s3.ord (W.length+2) (W.take 1) hl3 S3 (by omega);rw[d1]at m4;have w12:withP 1 (R++more) []=s2.ord:=by
  have app: ∀(a b:List Int) (o:List Nat),withP 1 (a++b) o=withP 1 b (withP 1 a o):=by
   intro a
   induction a with
   |nil=>intro b o;rfl
   |cons x a ih=>intro b o;rw[List.cons_append,withP_cons,ih,←withP_cons]
  rw[app,show withP 1 R []=s1.ord from p1,p2]
 refine⟨s4,?_,by rw[w12,r3,o4],by rw[o4];exact S4⟩;unfold runO;rw[m1];show(movesO W 1 more s1).bind _=_;rw[m2];show(chgO keepB (moveO W 1) (W.length+2) 1 s2).bind _=_;rw[m3];show(chgO (fun k=>k==5) (weakO W 1) (W.length+2) 1 s3).map _=_;rw[m4];show some (s4,R.map (mvw W 1 s1.ord),more.map (mvw W 1 s2.ord))=_;have a1:R.map (mvw W 1 s1.ord)=R.map (mvw W 1 s4.ord):=List.map_congr_left fun w hw=>by rw[o4,o3,o2,List.append_assoc,mvw_app (t1 w hw)]
 have a2:more.map (mvw W 1 s2.ord)=more.map (mvw W 1 s4.ord):=List.map_congr_left fun w hw=>by rw[o4,o3,mvw_app (t2 w hw)]
 rw[a1,a2]
theorem works_true {h:Hp}(ht:Tb h):EvT Ow 14 [] h (.bool true) h:=Ow_works ht.1 ht.2
section
variable {O:CallF}(hO:Oth O)
include hO
theorem ct40 {g:Hp}{a a1:Option Addr}{n c n1 c1:Nat}{xs:List Int}(X:IntsAt g a n xs)(Y:IntsAt g a1 n1 xs)(hl:xs.length<1000000):Ret Tryz.prog O 40 [.slice a n c,.slice a1 n1 c1] g fun v h'=>v= .bool true∧Kp g.nx g h':=by
 have hx:=X.1;have hy:=Y.1;refine rk40 _ _ _ _ _ _ (hO _ _ _ (by decide)) ?_;unfold T40;refine vcond_f (by rw[hx,hy,eqI_t rfl];rfl) ?_;have lp: ∀(d k:Nat) (h:Hp),k+d=xs.length→Kp g.nx g h→I40_0 O (fun v h'=>v= .bool true∧Kp g.nx g h') a n c a1 n1 c1 false (Int.ofNat k) h:=by
  intro d
  induction d with
  |zero=>
   intro k h hk kp;refine I40_0.of _ _ _ _ _ _ _ _ ?_;unfold T40_0;exact vcond_f (by rw[ltI_nat];exact blt_f (by omega)) ⟨rfl,kp⟩
  |succ d ih=>
   intro k h hk kp;refine I40_0.of _ _ _ _ _ _ _ _ ?_;unfold T40_0;have hk':k<xs.length:=by omega
   refine vcond_t (by rw[ltI_nat];exact blt_t (by omega)) ?_;intro g101;have kp1:Kp g.nx g g101:=kp.rsv 9;haveI:Ft g g101:=kp1.ex (Nat.le_refl _);refine isNat_i (X.rd hk' (isNat_i (Y.rd hk' (vcond_f (by rw[eqI_t rfl];rfl) ?_))));rw[wrap_succ (by omega)];exact ih (k+1) g101 (by omega) kp1
 exact lp xs.length 0 g (by omega) (Kp.refl _ _)
end
end Go.Proofs.YtngcjpkccnfjiaaGreatDoor
