/- Plain law for CollectBuilt: what is built is laid. -/
import Derived.Test.YtngcjpkccnfjiaaGreatDoorYH
import Derived.Test.YtngcjpkccnfjiaaGreatDoorProg
import Derived.Test.YtngcjpkccnfjiaaGreatDoorYC
import Derived.KernelRfl
import Derived.Test.YtngcjpkccnfjiaaGreatDoorYD
import Derived.Lib.LaidTab
import Derived.WalkKit
import Derived.ProofKit
import Derived.OpenShut
import Derived.Deep.DeepHandedRow
import Derived.Test.YtngcjpkccnfjiaaGreatDoorYF
import Derived.Test.YtngcjpkccnfjiaaGreatDoorCards
import Derived.Test.YtngcjpkccnfjiaaGreatDoorTie
namespace Go.Proofs.YtngcjpkccnfjiaaGreatDoor
set_option maxRecDepth 100000
open Go Go.Ev
structure Bd (S:Cst)(z:Nat)(v:Vl):Prop where
 g:Gr (cF v S).1.1 (cF v S).1.2
 x:Xt S (cF v S).1
 fd:FdOk (cF v S).1.2 1 (cF v S).2
 t:layT (cF v S).1.1 (cF v S).1.2=layT S.1 S.2+needF v
 b:buildF v (layW S.1 S.2 z) (layT S.1 S.2)=(layW (cF v S).1.1 (cF v S).1.2 (z-needF v),layT (cF v S).1.1 (cF v S).1.2,wd (atC (cF v S).1.1 (cF v S).1.2) (cF v S).2)
 rep:RepF (cF v S).1 v (cF v S).2
structure BdL (S:Cst)(z:Nat)(ps:List Vl):Prop where
 g:Gr (cL ps S).1.1 (cL ps S).1.2
 x:Xt S (cL ps S).1
 fd: ∀f∈(cL ps S).2,FdOk (cL ps S).1.2 1 f
 t:layT (cL ps S).1.1 (cL ps S).1.2=layT S.1 S.2+needL ps
 b:buildL ps (layW S.1 S.2 z) (layT S.1 S.2)=(layW (cL ps S).1.1 (cL ps S).1.2 (z-needL ps),layT (cL ps S).1.1 (cL ps S).1.2,(cL ps S).2.map (wd (atC (cL ps S).1.1 (cL ps S).1.2)))
 rep:RepL (cL ps S).1 ps (cL ps S).2
 len:(cL ps S).2.length=ps.length
theorem bd_cell {k n:Int}{t:ByteArray}{ps:List Vl}{S:Cst}{z:Nat}(A:BdL S z ps)(k1:k≠1)(hk:1≤kindC k∧kindC k≤5)(hs:(leafC k n t (cL ps S).2).length≤20)(ht:kindC k=4→(leafC k n t (cL ps S).2).length=1)
 (hf: ∀f∈leafC k n t (cL ps S).2,FdOk (cL ps S).1.2 (kindC k) f) (hn:needF (.mk k n t ps)=needL ps+(1+(leafC k n t (cL ps S).2).length)) (hz:needF (.mk k n t ps)≤z)
 (hw:(if k=2 then [n]else if k=3 then bytesI t else (cL ps S).2.map (wd (atC (cL ps S).1.1 (cL ps S).1.2)))=(leafC k n t (cL ps S).2).map (wd (atC (cL ps S).1.1 (cL ps S).1.2))):Bd S z (.mk k n t ps):=by
 have e:cF (.mk k n t ps) S=(((cL ps S).1.1++[⟨kindC k,leafC k n t (cL ps S).2⟩],(cL ps S).1.2++[(cL ps S).1.1.length]),⟨((cL ps S).1.1.length:Int),true⟩):=by rw[cF,if_neg k1]
 generalize hS1:(cL ps S).1=S1 at *;generalize hfs:leafC k n t (cL ps S).2=fs at *;have lt:=hS1▸A.x.lt';have G:=hS1▸A.g;have hg:Gr (S1.1++[⟨kindC k,fs⟩]) (S1.2++[S1.1.length]):=snoc_gr G lt hk hs ht hf;have hT:layT (S1.1++[⟨kindC k,fs⟩]) (S1.2++[S1.1.length])=layT S1.1 S1.2+(1+fs.length):=more_T lt;have xs:Xt S1 (S1.1++[⟨kindC k,fs⟩],S1.2++[S1.1.length]):=Xt.snoc lt _;have tA:layT S1.1 S1.2=layT S.1 S.2+needL ps:=hS1▸A.t;have nat:(⟨(S1.1.length:Int),true⟩:Fd).n.toNat=S1.1.length:=Int.toNat_natCast _;refine⟨?_,?_,?_,?_,?_,?_⟩
 · rw[e];exact hg
 · rw[e];exact(hS1▸A.x).trans xs
 · rw[e];unfold FdOk;rw[if_neg (by decide),if_neg (by decide)];exact .inl ⟨rfl,S1.1.length,List.mem_append.2 (.inr (List.mem_singleton.2 rfl)),rfl⟩
 · rw[e,hn];show layT (S1.1++[⟨kindC k,fs⟩]) (S1.2++[S1.1.length])=_;rw[hT,tA];omega
 · have bA:=A.b;rw[hS1]at bA;rw[e,buildF_mk,if_neg k1,bA];simp only;rw[hw];have e1:=more_W (c:=⟨kindC k,fs⟩) lt (fun i hi f hf' hr=>fd_mem (G.fok i hi f hf') hr) (fun f hf' hr=>fd_mem (hf f hf') hr) (z-needL ps) (by show 1+fs.length≤_;omega);have e2:(if k=2 then (4:Int)else if k=4 then 1 else if k=5 then 2 else 3)=kindC k:=rfl;rw[e2,←e1,hT,List.length_map,show z-needF (.mk k n t ps)=z-needL ps-(1+fs.length) by omega,wd_r rfl,nat,more_new lt,Nat.add_assoc]
 · rw[e];simp only[RepF];refine .inr ⟨k1,trivial,?_,?_,(cL ps S).2,xs.repL ps _ (hS1▸A.rep),?_⟩
   · rw[nat];exact List.mem_append.2 (.inr (List.mem_singleton.2 rfl))
   · rw[nat,clAt_new]
   · rw[nat,clAt_new];exact hfs.symm
mutual
theorem build_F: ∀(v:Vl) (S:Cst) (z:Nat),shapedF v=true→deepF v=false→Gr S.1 S.2→(∀i∈S.2,i<S.1.length)→needF v≤z→Bd S z v
 | .mk k n t ps,S,z,hs,hd,G,lt,hz=>by
   obtain⟨sp,fm⟩:=shaped_parts hs;rw[deepF_mk,Bool.or_eq_false_iff]at hd;have l20:ps.length≤20:=by have:=not_lt_of_f hd.2;have e:Int.ofNat ps.length=(ps.length:Int):=rfl;omega
   have nL:needL ps≤needF (.mk k n t ps):=by
    rw[needF_mk];rcases form_cases fm with h|h|h|h|h
    · obtain⟨rfl,rfl,_⟩:=h;rw[needL];omega
    · obtain⟨rfl,rfl,_⟩:=h;rw[needL];omega
    · obtain⟨rfl,_⟩:=h;rw[if_neg (by decide),if_neg (by decide)];omega
    · obtain⟨rfl,_⟩:=h;rw[if_neg (by decide),if_neg (by decide)];omega
    · obtain⟨rfl,_⟩:=h;rw[if_neg (by decide),if_neg (by decide)];omega
   have A:=build_L ps S z sp hd.1 G lt (by omega);rcases form_cases fm with h|h|h|h|h
   · obtain⟨rfl,rfl,h0,h1,h2⟩:=h;have e:cF (.mk 1 n t []) S=(S,⟨2*n+1,false⟩):=by rw[cF,if_pos rfl]
     refine⟨?_,?_,?_,?_,?_,?_⟩
     · rw[e];exact G
     · rw[e];exact Xt.refl lt
     · rw[e];unfold FdOk;rw[if_neg (by decide),if_neg (by decide)];exact .inr ⟨rfl,.inr ⟨odd_ne (q:=n) rfl,by show-1999999999≤2*n+1;omega,by show 2*n+1≤_;omega⟩⟩
     · rw[e,needF_mk,if_pos rfl];rfl
     · rw[e,buildF_mk,if_pos rfl,needF_mk,if_pos rfl,wd_n rfl,Nat.sub_zero]
     · rw[e];simp only[RepF];exact .inl ⟨trivial,trivial⟩
   · obtain⟨rfl,rfl,h0,h1,h2⟩:=h;refine bd_cell A (by decide) (by decide) (by show 1≤20;decide) (fun _=>rfl) (fun f hf=> ?_) (by rw[needF_mk,needL];rfl) hz rfl;rw[show leafC 2 n t (cL [] S).2=[⟨n,false⟩] from rfl,List.mem_singleton]at hf;subst hf;exact⟨rfl,by show n=0∨n=1;omega⟩
   · obtain⟨rfl,rfl,rfl,h1⟩:=h;obtain⟨t20,tl⟩:=letters_of h1;have e:leafC 3 0 t (cL [] S).2=(bytesI t).map (⟨·,false⟩):=rfl;have el:(leafC 3 0 t (cL [] S).2).length=t.size:=by rw[e,List.length_map,bytesI_length]
     refine bd_cell A (by decide) (by decide) (by omega) (fun h=>absurd h (by decide)) (fun f hf=> ?_) (by rw[needF_mk,needL,if_neg (by decide),if_neg (by decide),el];simp only[List.length_nil];omega) hz ?_
     · rw[e]at hf;obtain⟨x,hx,rfl⟩:=List.mem_map.1 hf;exact⟨rfl,tl x hx⟩
     · rw[e,if_neg (by decide),if_pos rfl,List.map_map];exact(List.map_id'' (fun x=>wd_n rfl) _).symm
   · obtain⟨rfl,h0,rfl,h1,h2⟩:=h;have e:leafC 4 0 t (cL ps S).2=(cL ps S).2:=rfl;have el:=A.len;refine bd_cell A (by decide) (by decide) (by rw[e,el];omega) (fun h=>absurd h (by decide)) (fun f hf=> ?_) (by rw[needF_mk,if_neg (by decide),if_neg (by decide),e,el];omega) hz ?_
     · rw[e]at hf;exact fd_kind (A.fd f hf) (by decide) (by decide) (by decide) (by decide)
     · rw[e,if_neg (by decide),if_neg (by decide)]
   · obtain⟨rfl,h0,rfl,h1⟩:=h;have e:leafC 5 0 t (cL ps S).2=(cL ps S).2:=rfl;have el:=A.len;refine bd_cell A (by decide) (by decide) (by rw[e,el];omega) (fun h=>absurd h (by decide)) (fun f hf=> ?_) (by rw[needF_mk,if_neg (by decide),if_neg (by decide),e,el];omega) hz ?_
     · rw[e]at hf;exact fd_kind (A.fd f hf) (by decide) (by decide) (by decide) (by decide)
     · rw[e,if_neg (by decide),if_neg (by decide)]
theorem build_L: ∀(ps:List Vl) (S:Cst) (z:Nat),(∀p∈ps,shapedF p=true)→deepL ps=false→Gr S.1 S.2→(∀i∈S.2,i<S.1.length)→needL ps≤z→BdL S z ps
 | [],S,z,hs,hd,G,lt,hz=>by
   have e:cL [] S=(S,[]):=by rw[cL]
   refine⟨?_,?_,?_,?_,?_,?_,?_⟩
   · rw[e];exact G
   · rw[e];exact Xt.refl lt
   · rw[e];exact fun f hf=>by cases hf
   · rw[e,needL];rfl
   · rw[e,buildL,needL];rfl
   · rw[e];simp only[RepL]
   · rw[e];rfl
 |v::r,S,z,hs,hd,G,lt,hz=>by
  rw[deepL,Bool.or_eq_false_iff]at hd;rw[needL]at hz;have A:=build_F v S z (hs v List.mem_cons_self) hd.1 G lt (by omega);have B:=build_L r (cF v S).1 (z-needF v) (fun p hp=>hs p (List.mem_cons_of_mem _ hp)) hd.2 A.g A.x.lt' (by omega);have e:cL (v::r) S=((cL r (cF v S).1).1,(cF v S).2::(cL r (cF v S).1).2):=by rw[cL]
  refine⟨?_,?_,?_,?_,?_,?_,?_⟩
  · rw[e];exact B.g
  · rw[e];exact A.x.trans B.x
  · rw[e];intro f hf;rcases List.mem_cons.1 hf with rfl|hf
    · exact B.x.fd A.fd
    · exact B.fd f hf
  · rw[e,needL];show layT (cL r (cF v S).1).1.1 (cL r (cF v S).1).1.2=_;rw[B.t,A.t];omega
  · rw[e,buildL,needL,A.b];simp only;rw[B.b,Nat.sub_sub,List.map_cons,B.x.wd A.fd]
  · rw[e];simp only[RepL];exact⟨_,_,rfl,B.x.rep v _ A.rep,B.rep⟩
  · rw[e,List.length_cons,List.length_cons,B.len]
end
end Go.Proofs.YtngcjpkccnfjiaaGreatDoor
namespace Go.Proofs.YtngcjpkccnfjiaaGreatDoor
set_option maxRecDepth 100000
open Go Go.Ev
theorem rdT_bytes (t:ByteArray):rdT (bytesI t)=t:=by
 unfold rdT bytesI;rw[List.map_map];have:(fun x:Int=>UInt8.ofNat x.toNat)∘(fun b:UInt8=>Int.ofNat b.toNat)=id:=by
  funext b;show UInt8.ofNat (Int.ofNat b.toNat).toNat=b;simp
 rw[this,List.map_id]
theorem empty_of {t:ByteArray}(h:t.size=0):t=eS:=by
 have:t.data= #[]:=Array.eq_empty_of_size_eq_zero h;cases t;simp only at this;subst this;rfl
theorem read_len {S:Cst}: ∀(ps:List Vl) (fs:List Fd),RepL S ps fs→fs.length=ps.length
 | [],fs,h=>by simp only[RepL]at h;rw[h];rfl
 |v::r,fs,h=>by
  simp only[RepL]at h;obtain⟨f,fs',e,h1,h2⟩:=h;rw[e,List.length_cons,List.length_cons,read_len r fs' h2]
theorem even_wd {S:Cst}(G:Gr S.1 S.2){f:Fd}(hr:f.refs=true)(hm:f.n.toNat∈S.2): ¬Int.tmod (wd (atC S.1 S.2) f) 2≠0∧wd (atC S.1 S.2) f≠0∧(Int.tdiv (wd (atC S.1 S.2) f) 2).toNat=atC S.1 S.2 f.n.toNat:=by
 have h1:=(lay_pos G hm).1;rw[wd_r hr];refine⟨?_,by omega,?_⟩
 · rw[Int.mul_tmod_right];exact fun h=>h rfl
 · rw[Int.mul_tdiv_cancel_left _ (by decide),Int.toNat_natCast]
mutual
theorem read_F {S:Cst}{free:Nat}(G:Gr S.1 S.2): ∀(v:Vl) (f:Fd) (d:Nat) (left:Int),RepF S v f→shapedF v=true→0≤left→0≤weighF v left d→rdF (layW S.1 S.2 free) d (wd (atC S.1 S.2) f) left=(v,weighF v left d,0)
 | .mk k n t ps,f,d,left,h,hs,h0,hw=>by
   obtain⟨sp,fm⟩:=shaped_parts hs;simp only[weighF]at hw ⊢;split at hw
   · omega
   · rename_i hc;rw[if_neg hc];cases d with
     |zero=>exact absurd (.inr (by decide)) hc
     |succ d=>
      have ed:((d+1:Nat):Int)-1=(d:Int):=by omega
      rw[ed]at hw ⊢;unfold rdF;rw[if_neg (by omega)];simp only[RepF]at h;rcases h with ⟨rfl,rfl⟩|⟨k1,hr,hm,hk,fs,hR,hfs⟩
      · rcases form_cases fm with ⟨_,rfl,a2,_⟩|⟨a,_⟩|⟨a,_⟩|⟨a,_⟩|⟨a,_⟩
        · rw[wd_n rfl,if_pos (odd_ne (q:=n) rfl)];simp only[weighL];obtain rfl:=empty_of a2;rw[show 2*n+1-1=2*n by omega,Int.mul_tdiv_cancel_left _ (by decide)]
        all_goals cases a
      · obtain⟨e1,e2,e3⟩:=even_wd G hr hm;rw[if_neg e1,if_neg e2,e3,lay_kind G hm,hk,lay_fields G hm,hfs];rcases form_cases fm with ⟨a,_⟩|⟨rfl,rfl,a2,_⟩|⟨rfl,rfl,rfl,a2⟩|⟨rfl,a2,rfl,a3,a4⟩|⟨rfl,a2,rfl,a3⟩
        · exact absurd a k1
        · rw[if_pos (by decide)];simp only[weighL];obtain rfl:=empty_of a2;rfl
        · rw[if_neg (by decide),if_pos (by decide)];simp only[weighL];have:(leafC 3 0 t fs).map (wd (atC S.1 S.2))=bytesI t:=by
           rw[show leafC 3 0 t fs=(bytesI t).map (fun x=>(⟨x,false⟩:Fd)) from rfl,List.map_map];exact List.map_id'' (fun x=>wd_n rfl) _
          rw[this,rdT_bytes]
        · obtain rfl:=empty_of a2;have hl:=read_len ps fs hR;obtain⟨b1,b2⟩:=read_L (free:=free) G ps fs d (left-1) hR sp (by omega) hw;rw[if_neg (by decide),if_neg (by decide),if_pos (by decide),show leafC 4 0 eS fs=fs from rfl,List.length_map,if_neg (by omega)];unfold rdP;rw[b1,if_neg (fun h:(0:Int)≠0=>h rfl),if_neg (fun h=>absurd h.1 (by decide))]
        · obtain rfl:=empty_of a2;obtain⟨b1,b2⟩:=read_L (free:=free) G ps fs d (left-1) hR sp (by omega) hw;rw[if_neg (by decide),if_neg (by decide),if_neg (by decide),if_pos (by decide),show leafC 5 0 eS fs=fs from rfl];unfold rdP;rw[b1,if_neg (fun h:(0:Int)≠0=>h rfl),if_neg (fun h=>by have:=h.2;rw[a3]at this;cases this)]
theorem read_L {S:Cst}{free:Nat}(G:Gr S.1 S.2): ∀(ps:List Vl) (fs:List Fd) (d:Nat) (left:Int),RepL S ps fs→(∀p∈ps,shapedF p=true)→0≤left→0≤weighL ps left d→rdL (rdF (layW S.1 S.2 free) d) (fs.map (wd (atC S.1 S.2))) left=(ps,weighL ps left d,0)∧True
 | [],fs,d,left,h,hs,h0,hw=>by
   simp only[RepL]at h;rw[h];simp only[weighL];exact⟨by rw[List.map_nil,rdL],trivial⟩
 |v::r,fs,d,left,h,hs,h0,hw=>by
  simp only[RepL]at h;obtain⟨f,fs',e,h1,h2⟩:=h;simp only[weighL]at hw ⊢;rw[if_neg (by omega)]at hw ⊢;have hv:0≤weighF v left d:=by
   rcases(show weighF v left d<0∨0≤weighF v left d by omega)with h9|h9
   · exfalso;cases r with
     |nil=>simp only[weighL]at hw;omega
     |cons x r=>simp only[weighL]at hw;rw[if_pos h9]at hw;omega
   · exact h9
  have A:=read_F (free:=free) G v f d left h1 (hs v List.mem_cons_self) h0 hv;obtain⟨B,_⟩:=read_L (free:=free) G r fs' d (weighF v left d) h2 (fun p hp=>hs p (List.mem_cons_of_mem _ hp)) hv hw;refine⟨?_,trivial⟩;rw[e,List.map_cons,rdL,A];simp only;rw[if_neg (fun h:(0:Int)≠0=>h rfl),B];simp only;rw[if_neg (fun h:(0:Int)≠0=>h rfl)]
end
theorem keep_kind {L:List Cl}{kept:List Nat}{i:Nat}(h:(clAt L i).kind≠5):clAt (prunedL L kept) i=clAt L i:=by
 rw[pruned_at];unfold prunedC;have: ∀f,prunedF kept (clAt L i).kind f=f:=fun f=>by
  unfold prunedF;have e:((clAt L i).kind==5)=false:=by rw[beq_eq_false_iff_ne];exact h
  rw[e,Bool.and_false];rfl
 have e:prunedF kept (clAt L i).kind=id:=funext this;rw[e,List.map_id]
theorem kindC_ne (k:Int):kindC k≠5:=by
 unfold kindC;split
 · decide
 · split
   · decide
   · split<;>decide
mutual
theorem keep_F {L:List Cl}{o kept:List Nat}(hc: ∀i∈kept,∀f∈strongC L i,f.refs=true→f.n.toNat∈kept): ∀(v:Vl) (f:Fd),RepF (L,o) v f→shapedF v=true→(f.refs=true→f.n.toNat∈kept)→RepF (prunedL L kept,kept) v f
 | .mk k n t ps,f,h,hs,hm=>by
   obtain⟨sp,fm⟩:=shaped_parts hs;simp only[RepF]at h ⊢;rcases h with h|⟨k1,hr,hm',hk,fs,hR,hfs⟩
   · exact .inl h
   · have e:clAt (prunedL L kept) f.n.toNat=clAt L f.n.toNat:=keep_kind (by rw[hk];exact kindC_ne k);refine .inr ⟨k1,hr,hm hr,by rw[e];exact hk,fs,keep_L hc ps fs hR sp fun g hg hgr=> ?_,by rw[e];exact hfs⟩;rcases form_cases fm with ⟨a,_⟩|⟨rfl,rfl,_⟩|⟨rfl,rfl,_⟩|⟨rfl,a2,rfl,a3,a4⟩|⟨rfl,a2,rfl,a3⟩
     · exact absurd a k1
     · simp only[RepL]at hR;rw[hR]at hg;cases hg
     · simp only[RepL]at hR;rw[hR]at hg;cases hg
     · refine hc _ (hm hr) g ?_ hgr;unfold strongC;rw[hk,if_pos (by decide),hfs];exact hg
     · refine hc _ (hm hr) g ?_ hgr;unfold strongC;rw[hk,if_pos (by decide),hfs];exact hg
theorem keep_L {L:List Cl}{o kept:List Nat}(hc: ∀i∈kept,∀f∈strongC L i,f.refs=true→f.n.toNat∈kept): ∀(ps:List Vl) (fs:List Fd),RepL (L,o) ps fs→(∀p∈ps,shapedF p=true)→(∀f∈fs,f.refs=true→f.n.toNat∈kept)→RepL (prunedL L kept,kept) ps fs
 | [],fs,h,_,_=>by simp only[RepL]at h ⊢; exact h
 |v::r,fs,h,hs,hm=>by
  simp only[RepL]at h ⊢;obtain⟨f,fs',e,h1,h2⟩:=h;subst e;exact⟨f,fs',rfl,keep_F hc v f h1 (hs v List.mem_cons_self) (hm f List.mem_cons_self),keep_L hc r fs' h2 (fun p hp=>hs p (List.mem_cons_of_mem _ hp)) fun g hg=>hm g (List.mem_cons_of_mem _ hg)⟩
end
end Go.Proofs.YtngcjpkccnfjiaaGreatDoor
namespace Go.Proofs.YtngcjpkccnfjiaaGreatDoor
open Go Go.Ev
set_option maxRecDepth 100000
set_option linter.unusedVariables false
noncomputable def b45:Code:=(Tryz.f45.body).getD .skip
noncomputable def stk45_0:List KI:=[.code (sub [1,1,1,0,1,0] b45),.blk 1,.code (sub [1,1,1,1] b45)]
def lv45:List (Nat×List Nat):=[(1,[1,2,3,4,5,27,28,29])]
def I45_0 (O:CallF)(Q:VQ)(x0_0 x0_1:Int)(s0_2:ByteArray)(a0_3:OA)(n0_3 c0_3 b1 f1:Nat)(x4:Int)(q5:Bool)(a27:OA)(n27 c27:Nat)(x28 x29:Int)(h:Hp):Prop:=RKL Tryz.prog O Tryz.f45 stk45_0 53 [1,2,3,4,5,27,28,29] [.pointer (some ⟨b1,f1,none⟩),.int .i64 0,.bool false,.int .i64 x4,.bool q5,.slice a27 n27 c27,.int .i64 x28,.int .i64 x29] h Q
def T45 (O:CallF)(Q:VQ)(x0_0 x0_1:Int)(s0_2:ByteArray)(a0_3:OA)(n0_3 c0_3:Nat)(h:Hp):Prop:=
 let g1:=h.add (.cells (v46 x0_0 x0_1 s0_2 a0_3 n0_3 c0_3) 46 .fix)
 let g2:=g1.rsv 6
 ∃a3 n4 c5,readAt g2 h.nx 3 1=some [.slice a3 n4 c5]∧
 ∃x6,readAt g2 h.nx 0 1=some [.int .i64 x6]∧
 vcond (eqI x6 1)
 (Q (.tuple #[.int .i64 0,.bool false]) g2)
 (vcond (eqI x6 2)
 (Q (.tuple #[.int .i64 2,.bool false]) g2)
 (vcond (eqI x6 3)
 (∃s7,readAt g2 h.nx 2 1=some [.string s7]∧
 Q (.tuple #[(.int .i64 (wrapF .i64 (1+(Int.ofNat (ByteArray.size s7))))),.bool false]) g2)
 (∃a8 n9 c10,readAt g2 h.nx 3 1=some [.slice a8 n9 c10]∧
 I45_0 O Q x0_0 x0_1 s0_2 a0_3 n0_3 c0_3 h.nx 0 0 (ltI 20 (Int.ofNat n4)) a8 n9 c10 (Int.ofNat n9) 0 g2)))
theorem rk45 {O Q} (x0_0 x0_1 s0_2 a0_3 n0_3 c0_3){h:Hp}(hO:O 45 [.agg (w46 x0_0 x0_1 s0_2 a0_3 n0_3 c0_3)] h=none)(hh:T45 O Q x0_0 x0_1 s0_2 a0_3 n0_3 c0_3 h):Ret Tryz.prog O 45 [.agg (w46 x0_0 x0_1 s0_2 a0_3 n0_3 c0_3)] h Q:=
 .of (c:=b45) Tryz.func45 (by kernel_rfl) hO (V_okE (tb:=lv45) (cuts:=[]) 500 hh (by kernel_rfl))
def T45_0 (O:CallF)(Q:VQ)(x0_0 x0_1:Int)(s0_2:ByteArray)(a0_3:OA)(n0_3 c0_3 b1 f1:Nat)(x4:Int)(q5:Bool)(a27:OA)(n27 c27:Nat)(x28 x29:Int)(h:Hp):Prop:=
 vcond (ltI x29 x28)
 (isNat x29 fun n101=>
 isAddr a27 fun b102 f103=>
 vreq (Nat.blt n101 n27)
 (∃x104 x105 s106 a107 n108 c109,readAt h b102 (f103+(n101*4)) 4=some (v46 x104 x105 s106 a107 n108 c109)∧
 let g110:=h.add (.cells (v46 0 0 (ByteArray.mk #[]) none 0 0) 46 .fix)
 vreq (canW g110 h.nx 0 (v46 x104 x105 s106 a107 n108 c109))
 (let g111:=g110.wr h.nx 0 (v46 x104 x105 s106 a107 n108 c109)
 ∃x112 x113 s114 a115 n116 c117,readAt g111 h.nx 0 4=some (v46 x112 x113 s114 a115 n116 c117)∧
 ∃x118 q119 h120,EvC Tryz.prog O 45 [.agg (w46 x112 x113 s114 a115 n116 c117)] g111 (.tuple #[.int .i64 x118,.bool q119]) h120∧
 vcond q5
 (I45_0 O Q x0_0 x0_1 s0_2 a0_3 n0_3 c0_3 b1 f1 (wrapF .i64 (x4+x118)) true a27 n27 c27 x28 (wrapF .i64 (x29+1)) h120)
 (I45_0 O Q x0_0 x0_1 s0_2 a0_3 n0_3 c0_3 b1 f1 (wrapF .i64 (x4+x118)) q119 a27 n27 c27 x28 (wrapF .i64 (x29+1)) h120))))
 (∃a121 n122 c123,readAt h b1 (f1+3) 1=some [.slice a121 n122 c123]∧
 Q (.tuple #[(.int .i64 (wrapF .i64 ((wrapF .i64 (x4+1))+(Int.ofNat n122)))),.bool q5]) h)
theorem I45_0.of {O Q} (x0_0 x0_1 s0_2 a0_3 n0_3 c0_3 b1 f1 x4 q5 a27 n27 c27 x28 x29){h:Hp}(hh:T45_0 O Q x0_0 x0_1 s0_2 a0_3 n0_3 c0_3 b1 f1 x4 q5 a27 n27 c27 x28 x29 h):I45_0 O Q x0_0 x0_1 s0_2 a0_3 n0_3 c0_3 b1 f1 x4 q5 a27 n27 c27 x28 x29 h:=
 RKL.ofE (tb:=lv45) (cuts:=[]) 500 hh fun _=>by kernel_rfl
end Go.Proofs.YtngcjpkccnfjiaaGreatDoor
namespace Go.Proofs.YtngcjpkccnfjiaaGreatDoor
set_option maxRecDepth 100000
open Go Go.Ev
section
variable {O:CallF}(hO:Oth O)
include hO
theorem ct45 {h:Hp}: ∀(v:Vl) {vs:List Value} (_:VA h v vs),Nice v→shapedF v=true→ ∀ {g:Hp},Ft h g→g.Ok→Ret Tryz.prog O 45 [.agg vs.toArray] g fun r g'=>r= .tuple #[.int .i64 (Int.ofNat (needF v)),.bool (deepF v)]∧Kp g.nx g g':=by
 refine Vl.ind fun k n t ps ih=> ?_;intro vs V N hs g F ok;obtain⟨fl,ft,fp⟩:=N.parts;have nl:=N.needL;obtain⟨sp,fm⟩:=shaped_parts hs;obtain⟨a,m,c,rfl,P⟩:=PA.of V;have p1:=P.1;subst p1;refine rk45 (hO:=hO _ _ _ (by decide)) (hh:= ?_) ..;unfold T45;intro g1 g2;have S:Know g g1 [ob g.nx (.cells [.int .i64 k,.int .i64 n,.string t,.slice a ps.length c] 46 .fix)]:=(Know.nil ok).add _;have S:Know g g2 [ob g.nx (.cells [.int .i64 k,.int .i64 n,.string t,.slice a ps.length c] 46 .fix)]:=S.rsv 6;rw[needF_mk,deepF_mk];refine⟨_,_,_,S.rd 0 rfl rfl rfl,_,S.rd 0 rfl rfl rfl,?_⟩;by_cases k1:k=1
 · refine vcond_t (eqI_t k1) ⟨?_,S.kp⟩;rw[if_pos k1];rcases form_cases fm with ⟨_,rfl,_⟩|⟨b,_⟩|⟨b,_⟩|⟨b,_⟩|⟨b,_⟩
   · rfl
   all_goals (rw[k1]at b;cases b)
 refine vcond_f (eqI_f k1) ?_;by_cases k2:k=2
 · refine vcond_t (eqI_t k2) ⟨?_,S.kp⟩;rw[if_neg k1,if_pos k2];rcases form_cases fm with ⟨b,_⟩|⟨_,rfl,_⟩|⟨b,_⟩|⟨b,_⟩|⟨b,_⟩
   · rw[k2]at b;cases b
   · rfl
   all_goals (rw[k2]at b;cases b)
 refine vcond_f (eqI_f k2) ?_;rw[if_neg k1,if_neg k2];by_cases k3:k=3
 · refine vcond_t (eqI_t k3) ⟨_,S.rd 0 rfl rfl rfl,?_,S.kp⟩;rcases form_cases fm with ⟨b,_⟩|⟨b,_⟩|⟨_,rfl,_⟩|⟨b,_⟩|⟨b,_⟩
   · rw[k3]at b;cases b
   · rw[k3]at b;cases b
   · rw[wrap64 (n:=1+Int.ofNat t.size) (by simp only[Int.ofNat_eq_natCast];omega) (by simp only[Int.ofNat_eq_natCast];omega)];simp only[needL,deepL];rfl
   all_goals (rw[k3]at b;cases b)
 refine vcond_f (eqI_f k3) ⟨_,_,_,S.rd 0 rfl rfl rfl,?_⟩;have t0:t.size=0:=by
  rcases form_cases fm with ⟨b,_⟩|⟨b,_⟩|⟨b,_⟩|⟨_,b,_⟩|⟨_,b,_⟩
  · exact absurd b k1
  · exact absurd b k2
  · exact absurd b k3
  · exact b
  · exact b
 have go: ∀(j i:Nat),i+j=ps.length→ ∀(x:Nat) (q:Bool) (g2:Hp),x+needL (ps.drop i)=needL ps→(q||deepL (ps.drop i))=(deepL ps||ltI 20 (Int.ofNat ps.length))→Know g g2 [ob g.nx (.cells [.int .i64 k,.int .i64 n,.string t,.slice a ps.length c] 46 .fix)]→
  I45_0 O (fun r g'=>r= .tuple #[.int .i64 (Int.ofNat (1+t.size+ps.length+needL ps)),.bool (deepL ps||ltI 20 (Int.ofNat ps.length))]∧Kp g.nx g g') k n t a ps.length c g.nx 0 (Int.ofNat x) q a ps.length c (Int.ofNat ps.length) (Int.ofNat i) g2:=by
  intro j
  induction j with
  |zero=>
   intro i hi x q g2 hx hq S;refine I45_0.of (hh:= ?_) ..;unfold T45_0;rw[List.drop_of_length_le (by omega),needL]at hx;rw[List.drop_of_length_le (by omega),deepL,Bool.or_false]at hq;refine vcond_f (by rw[ltI_nat];exact blt_f (by omega)) ⟨_,_,_,S.rd 0 rfl rfl rfl,?_,S.kp⟩;rw[hq,wrap64 (n:=Int.ofNat x+1) (by simp only[Int.ofNat_eq_natCast];omega) (by simp only[Int.ofNat_eq_natCast];omega),wrap64 (n:=Int.ofNat x+1+Int.ofNat ps.length) (by simp only[Int.ofNat_eq_natCast];omega) (by simp only[Int.ofNat_eq_natCast];omega)];have e:Int.ofNat x+1+Int.ofNat ps.length=Int.ofNat (1+t.size+ps.length+needL ps):=by simp only[Int.ofNat_eq_natCast];omega
   rw[e]
  |succ j ihj=>
   intro i hi x q g2 hx hq S;have i1:i<ps.length:=by omega
   refine I45_0.of (hh:= ?_) ..;unfold T45_0;obtain⟨b,off,ea,ws,V',rv⟩:=P.2 i i1;have rv:=rv (F.tr S.ft).get;have hb:=(fp _ (List.getElem_mem i1)).need;refine vcond_t (by rw[ltI_nat];exact blt_t i1) (isNat_i ?_);have hv: ∀g4,Ft h g4→g4.Ok→ ∃g5,EvT O 45 [.agg ws.toArray] g4 (.tuple #[.int .i64 (Int.ofNat (needF ps[i])),.bool (deepF ps[i])]) g5∧Kp g4.nx g4 g5:=fun g4 F4 ok4=>by
    obtain⟨r,g5,e5,rfl,K5⟩:=ih i i1 V' (fp _ (List.getElem_mem i1)) (sp _ (List.getElem_mem i1)) F4 ok4;exact⟨g5,e5,K5⟩
   obtain⟨v1,v2,v3,v4,v5,v6,rfl⟩:=V'.form;rw[ea];refine(show isAddr (some ⟨b,off,none⟩) _ from vreq_t (blt_t i1) ⟨_,_,_,_,_,_,rv,?_⟩);intro g110;have S1:Know g g110 [_,_]:=S.add _;refine vreq_t (S1.cw 0 rfl (by decide) rfl rfl) ?_;intro g111;have S2:Know g g111 [ob g2.nx (.cells [.int .i64 v1,.int .i64 v2,.string v3,.slice v4 v5 v6] 46 .fix),_]:=S1.wr 0 rfl (by decide) rfl rfl;obtain⟨g120,e5,K5⟩:=hv g111 (F.tr S2.ft) S2.ok;refine⟨_,_,_,_,_,_,S2.rd 0 rfl rfl rfl,_,_,_,e5,?_⟩;have S3:Know g g120 [ob g.nx (.cells [.int .i64 k,.int .i64 n,.string t,.slice a ps.length c] 46 .fix)]:=(S2.call K5).sub _ (List.sublist_cons_self _ _);rw[needL_drop ps i i1]at hx;rw[List.drop_eq_getElem_cons i1,deepL]at hq;have e:wrapF .i64 (Int.ofNat x+Int.ofNat (needF ps[i]))=Int.ofNat (x+needF ps[i]):=wrap64 (n:=((x+needF ps[i]:Nat):Int)) (by omega) (by omega);rw[e,wrap_succ (by omega),←ea];cases q with
   |true=>exact vcond_t rfl (ihj (i+1) (by omega) _ true g120 (by omega) (by rw[Bool.true_or]at hq ⊢; exact hq) S3)
   |false=>exact vcond_f rfl (ihj (i+1) (by omega) _ _ g120 (by omega) (by rw[Bool.false_or]at hq;exact hq) S3)
 exact go ps.length 0 (by omega) 0 (ltI 20 (Int.ofNat ps.length)) g2 (by rw[List.drop_zero];omega) (by rw[List.drop_zero,Bool.or_comm]) S
end
end Go.Proofs.YtngcjpkccnfjiaaGreatDoor
namespace Go.Proofs.YtngcjpkccnfjiaaGreatDoor
set_option maxRecDepth 100000
open Go Go.Ev
theorem putAt_take {α:Type}: ∀(D c:List α) (k t:Nat),t≤k→(putAt D k c).take t=D.take t
 |D,c,k,0,_=>by rw[List.take_zero,List.take_zero]
 | [],c,k+1,t+1,_=>by unfold putAt;rfl
 |x::D,c,k+1,t+1,h=>by
  unfold putAt;rw[List.take_succ_cons,List.take_succ_cons,putAt_take D c k t (by omega)]
mutual
theorem build_take: ∀(v:Vl) (W:List Int) (top t:Nat),shapedF v=true→t≤top→(buildF v W top).1.take t=W.take t
 | .mk k n t' ps,W,top,t,hs,ht=>by
   obtain⟨sp,_⟩:=shaped_parts hs;rw[buildF_mk];by_cases k1:k=1
   · rw[if_pos k1]
   · rw[if_neg k1];have e:=(buildL_spec ps W top sp).2.1;show(layP _ _ _ _).take t=_;unfold layP;rw[putAt_take _ _ _ _ (by omega)];exact buildL_take ps W top t sp ht
theorem buildL_take: ∀(ps:List Vl) (W:List Int) (top t:Nat),(∀p∈ps,shapedF p=true)→t≤top→(buildL ps W top).1.take t=W.take t
 | [],W,top,t,_,_=>by rw[buildL]
 |v::r,W,top,t,hs,ht=>by
  have e:=(buildF_spec v W top (hs v List.mem_cons_self)).2;rw[buildL];show(buildL r _ _).1.take t=_;rw[buildL_take r _ _ t (fun p hp=>hs p (List.mem_cons_of_mem _ hp)) (by omega)];exact build_take v W top t (hs v List.mem_cons_self) ht
end
theorem layW_more (L:List Cl)(o:List Nat)(m n:Nat):layW L o m++List.replicate n 0=layW L o (m+n):=by
 unfold layW;rw[List.cons_append,List.append_assoc,List.replicate_append_replicate]
theorem fd_kept {o kept:List Nat}{k:Int}{f:Fd}(h:FdOk o k f)(hm:f.refs=true→f.n.toNat∈kept):FdOk kept k f:=by
 unfold FdOk at h ⊢;by_cases h3:k=3
 · rw[if_pos h3]at h ⊢; exact h
 rw[if_neg h3]at h ⊢;by_cases h4:k=4
 · rw[if_pos h4]at h ⊢; exact h
 rw[if_neg h4]at h ⊢;rcases h with ⟨a,j,b,c⟩|h
 · exact .inl ⟨a,f.n.toNat,hm a,by rw[c,Int.toNat_natCast]⟩
 · exact .inr h
theorem valid_parts {v:Vl}(h:validF v=true):shapedF v=true∧0≤weighF v 200 8:=by
 unfold validF fitsF at h;rw[Bool.and_eq_true]at h;have:=not_lt_of_f (by simpa using h.1);exact⟨h.2,by omega⟩
section
variable {S:Cst}{free:Nat}{R:List Fd}(G:Gr S.1 S.2)(hr: ∀f∈R,FdOk S.2 1 f)(lr:R.length≤10)(fit:layT S.1 S.2+free≤200)
include G hr lr fit
theorem laid_check:checkP (layW S.1 S.2 free) (Int.ofNat (layT S.1 S.2)) (layR S.1 S.2 R)=some (S.2.map (atC S.1 S.2)):=lay_check G hr lr fit
theorem laid_read {v:Vl}{f:Fd}(rep:RepF S v f)(fd:FdOk S.2 1 f)(hv:validF v=true):readO (checkP (layW S.1 S.2 free) (Int.ofNat (layT S.1 S.2)) (layR S.1 S.2 R)) (layW S.1 S.2 free) (wd (atC S.1 S.2) f)=(v,0):=by
 obtain⟨hs,hw⟩:=valid_parts hv;rw[laid_check G hr lr fit];unfold readO;simp only;rw[if_pos (lay_word G (by decide) (by decide) fd),read_F (free:=free) G v f 8 200 rep hs (by omega) hw]
end
theorem laid_kept {S:Cst}{free:Nat}{R:List Fd}(G:Gr S.1 S.2)(hr: ∀f∈R,FdOk S.2 1 f)(lr:R.length≤10)(fit:layT S.1 S.2+free≤200){v:Vl}{f:Fd}(hf:f∈R)(rep:RepF S v f)(hv:validF v=true):
 ∃(K:Cst) (z:Nat) (s:Mv),Gr K.1 K.2∧(∀f∈R,FdOk K.2 1 f)∧layT K.1 K.2+z≤200∧RepF K v f∧runO (layW S.1 S.2 free) 1 (layR S.1 S.2 R) []=some (s,layR K.1 K.2 R,[])∧s.D=layW K.1 K.2 z∧s.top=layT K.1 K.2:=by
 obtain⟨kept,s,hreach,kn,ks,kc,kr,hrun,hord,hTle,htop,hD,hT⟩:=lay_collect (free:=free) G (more:=[]) hr (fun _ h=>by cases h) lr fit;refine⟨(prunedL S.1 kept,kept),_,s,young_gr G kn ks kc,fun g hg=>fd_kept (hr g hg) (kr g (List.mem_append.2 (.inl hg))),?_,keep_F kc v f rep (valid_parts hv).1 (kr f (List.mem_append.2 (.inl hf))),hrun,hD,htop⟩;show layT (prunedL S.1 kept) kept+_≤200;omega
end Go.Proofs.YtngcjpkccnfjiaaGreatDoor
namespace Go.Proofs.YtngcjpkccnfjiaaGreatDoor
set_option maxRecDepth 100000
open Go Go.Ev
end Go.Proofs.YtngcjpkccnfjiaaGreatDoor
namespace Go.Proofs.YtngcjpkccnfjiaaGreatDoor
set_option maxRecDepth 100000
open Go Go.Ev
end Go.Proofs.YtngcjpkccnfjiaaGreatDoor
namespace Go.Proofs.YtngcjpkccnfjiaaGreatDoor
open Go Go.Ev
set_option maxRecDepth 100000
set_option linter.unusedVariables false
end Go.Proofs.YtngcjpkccnfjiaaGreatDoor
namespace Go.Proofs.YtngcjpkccnfjiaaGreatDoor
set_option maxRecDepth 100000
open Go Go.Ev
mutual
theorem eqF_refl: ∀(v:Vl),eqF v v=true
 | .mk k n t ps=>by
   simp only[eqF];rw[eqI_t rfl,eqI_t rfl,sEq_refl,Nat.beq_refl,eqL_refl ps];rfl
theorem eqL_refl: ∀(ps:List Vl),eqL ps ps=true
 | []=>by simp only[eqL]
 |p::ps=>by simp only[eqL];rw[eqF_refl p,eqL_refl ps];rfl
end
theorem build_run {W:List Int}{top:Int}{R:List Int}: ∃s f,∀l,checkP W top R=some l→(runO W 1 R []=some (s,R.map (mvw W 1 s.ord),([]:List Int).map (mvw W 1 s.ord))∧s.top≤1000∧s.D.length=W.length)∧reachO W 1 f 0 (withP 1 (R++[]) [])=some s.ord∧colD W 1 l s.ord=s.D∧1+totalW W s.ord=s.top∧(∀p∈s.ord,CellAt W p)∧1+totalW W s.ord≤W.length:=by
 obtain⟨s,f,h⟩:=alloc_run (W:=W) (top:=top) (R:=R) 3 [];exact⟨s,f,fun l hl=>h l hl (by unfold fieldsR;simp)⟩
theorem nice_of {v:Vl}(h:smallF v=true):Nice v:=by
 unfold smallF at h;rw[Bool.and_eq_true]at h;have h1: ¬weighF v 260 12<0:=not_lt_of_f (by simpa using h.1);exact⟨⟨260,12,by omega,by omega,by omega⟩,h.2⟩
end Go.Proofs.YtngcjpkccnfjiaaGreatDoor
namespace Go.Proofs.YtngcjpkccnfjiaaGreatDoor
set_option maxRecDepth 100000
open Go Go.Ev
end Go.Proofs.YtngcjpkccnfjiaaGreatDoor
namespace Go.Proofs.YtngcjpkccnfjiaaGreatDoor
set_option maxRecDepth 100000
open Go Go.Ev
theorem own_src {h:Hp}{o:Nat}{w:Int}{m:Md}(hg:h.get o=some (.cells [.int .i64 w] 3 m))(ho:o<h.nx):srcCells h 1 (.slice (some ⟨o,0,none⟩) 1 1)=some ([.int .i64 w],1):=by
 have:=(intsCells (xs:=[w]) hg ho).src (c2:=1);exact this
theorem law7 {h:Hp}(ok:h.Ok)(ht:Tb h){v0:Array Value}{xs:List Nat}(B:Bytes v0 xs){v:Vl}{vs:List Value}(V:VA h v vs):Ret Tryz.prog Ow 7 [.agg v0,.agg vs.toArray] h Yes4:=by
 have hO:Oth Ow:=Ow_oth;have n0:0<h.nx:=by have:=ht.1;omega
 have hlen:=B.len;have hfit:=pFit B;have G:=drawn_gr B;have hR:=drawn_roots B;have hn:(drawnL xs).length=pMany xs:=drawnL_len xs;have hoL: ∀i∈pO xs,i<(drawnL xs).length:=fun i hi=>by rw[hn];exact List.mem_range.1 hi
 have c30:=fun g6 (k6:Kp h.nx h g6) ok6=>ct30 hO (V.up k6) (h:=g6) ok6;have c31:=fun(N:Nice v) g6 (F6:Ft h g6) ok6 {aw nw cw W top ar nr cr R} (A6:HA g6 aw nw cw W ar nr cr R) tb6=> @ct31 Ow hO h g6 F6 ok6 aw nw cw W top ar nr cr R A6 tb6 v vs V N;have c44:=fun(N:Nice v) g6 (K6:Kp h.nx h g6) ok6=>ct44 hO v V N (g:=g6) K6 ok6;have c45:=fun(N:Nice v) hs g6 (F6:Ft h g6) ok6=>ct45 hO v V N hs (g:=g6) F6 ok6;have c35:=fun g6 (k6:Kp h.nx h g6) {us} (U:VA g6 v us) (F:Few v) ok6=>ct35 hO U F (V.up k6) (Kp.refl _ _) ok6;obtain⟨v1,v2,v3,v4,v5,v6,rfl⟩:=V.form;refine rk7 (hO:=hO _ _ _ (by decide)) (hh:= ?_) ..;unfold T7;refine vreq_t (by rw[B.v];exact bv_one xs) ?_;intro g1 g2;have S:Know h g1 [_]:=(Know.nil ok).add _;rw[B.v]at S;have S:Know h g2 [_,_]:=S.add _;obtain⟨q,h10,e10,rfl,k10⟩:=c30 g2 S.kp S.ok;refine⟨_,_,_,_,_,_,S.rd 0 rfl rfl rfl,_,_,e10,?_⟩;have S:Know h h10 [_,_]:=S.call k10;cases hsm:smallF v with
 |false=>exact vcond_t rfl ⟨_,_,works_true (ht.kp S.kp n0),rfl⟩
 |true=>
 have N:=nice_of hsm;refine vcond_f rfl ?_;have B2:Bytes (bv xs).toArray xs:=⟨rfl,B.len,B.lt⟩;obtain⟨u,h30,e30,oW,ar,nr,cr,ac,cc,af,nf,cf,oA,own,rfl,T⟩:=ct43 hO S.ok B2;refine⟨bv xs,S.rd 1 rfl (by rw[List.drop_zero,List.take_of_length_le (by rw[List.length_map];omega)]) (ble_t (by rw[List.length_map];omega)),_,_,_,_,_,_,_,_,_,_,_,_,_,_,_,_,_,e30,?_⟩;have S:Know h h30 [_,_,_,_,_,_,_]:=S.comp T;intro g31;have S:Know h g31 [_,_,_,_,_,_,_,_]:=S.add _;refine vreq_t (S.cw 0 rfl (by decide) rfl rfl) ?_;intro g32;have S:Know h g32 [_,_,_,_,_,_,_,_]:=S.wr 0 rfl (by decide) rfl rfl;have lW:=layW_length (drawnL xs) (pO xs) (pFree xs);obtain⟨T0,hT0⟩: ∃t,t=layT (drawnL xs) (pO xs):=⟨_,rfl⟩;obtain⟨ex,hex⟩: ∃e,e=130-(layT (drawnL xs) (pO xs)+pFree xs):=⟨_,rfl⟩;have esub:wrapF .i64 (130-Int.ofNat (layT (drawnL xs) (pO xs)+pFree xs))=Int.ofNat ex:=by
  have e1:Int.ofNat (layT (drawnL xs) (pO xs)+pFree xs)=((layT (drawnL xs) (pO xs)+pFree xs:Nat):Int):=rfl;have e3:Int.ofNat ex=(ex:Int):=rfl;rw[e1,e3,wrap64 (by omega) (by omega)];omega
 obtain⟨a39,c41,h42,e42,S42⟩:=app_zeros S 3 rfl ex (by omega);rw[lW]at e42 S42;refine⟨_,_,_,S.rd 0 rfl rfl rfl,_,_,_,S.rd 0 rfl rfl rfl,?_⟩;rw[esub];refine⟨_,_,_,_,e42,?_⟩;have S:Know h h42 [_,_,_,_,_,_,_,_]:=S42;rw[layW_more]at S;refine vreq_t (S.cw 0 rfl (by decide) rfl rfl) ?_;intro g43;have S:Know h g43 [_,_,_,_,_,_,_,_]:=S.wr 0 rfl (by decide) rfl rfl;have hl0:T0+(pFree xs+ex)=130:=by omega
 have gsm:=fun {S:Cst} {z:Nat} (G:Gr S.1 S.2) (hf:layT S.1 S.2+z≤200) {w:Int} (hw:w∈layW S.1 S.2 z)=>(layW_small G (by omega) w hw).in64;have rsm:=fun {S:Cst} {R:List Fd} (G:Gr S.1 S.2) (hf:layT S.1 S.2≤200) (hr: ∀f∈R,FdOk S.2 1 f) {w:Int} (hw:w∈layR S.1 S.2 R)=>(layR_small G (by omega) hr w hw).in64;have A:HA g43 a39 (layT (drawnL xs) (pO xs)+pFree xs+ex) c41 (layW (drawnL xs) (pO xs) (pFree xs+ex)) ar nr cr (layR (drawnL xs) (pO xs) (drawnR xs)):=⟨S.get 3 rfl,SI.accE (S.get 4 rfl) (by unfold layR;rw[List.length_map];omega),fun x hx=>gsm (S:=(drawnL xs,pO xs)) G (by show layT (drawnL xs) (pO xs)+_≤_;omega) hx,fun x hx=>rsm (S:=(drawnL xs,pO xs)) G (by show layT (drawnL xs) (pO xs)≤_;omega) hR.1 hx⟩;have hck:=laid_check (S:=(drawnL xs,pO xs)) (free:=pFree xs+ex) G hR.1 (by omega) (by show layT (drawnL xs) (pO xs)+_≤_;omega);simp only at hck;obtain⟨s,f0,hr⟩:=build_run (W:=layW (drawnL xs) (pO xs) (pFree xs+ex)) (top:=Int.ofNat (layT (drawnL xs) (pO xs))) (R:=layR (drawnL xs) (pO xs) (drawnR xs));obtain⟨q,h66,e66,u,rfl,aw1,nw1,cw1,ar1,nr1,cr1,rfl,T⟩:=c31 N g43 S.ft S.ok A (ht.kp S.kp n0) (s:=s) (fun l hl _=>(hr l hl).1);have hb:=buildO_some ((pO xs).map (atC (drawnL xs) (pO xs))) (layW (drawnL xs) (pO xs) (pFree xs+ex)) (Int.ofNat (layT (drawnL xs) (pO xs))).toNat (layR (drawnL xs) (pO xs) (drawnR xs)) v s;rw[←hck]at hb;generalize buildO (checkP (layW (drawnL xs) (pO xs) (pFree xs+ex)) (Int.ofNat (layT (drawnL xs) (pO xs))) (layR (drawnL xs) (pO xs) (drawnR xs))) (layW (drawnL xs) (pO xs) (pFree xs+ex)) (Int.ofNat (layT (drawnL xs) (pO xs))).toNat (layR (drawnL xs) (pO xs) (drawnR xs)) v s=bo at e66 T hb;refine⟨_,_,_,_,_,_,_,S.rd 0 rfl rfl rfl,_,_,_,_,_,_,S.rd 6 rfl rfl rfl,_,_,_,_,_,_,_,_,_,_,e66,?_⟩;have S:Know h h66 [_,_,_,_,_,_,_,_,_,_]:=S.comp T;intro g67;have S:Know h g67 [_,_,_,_,_,_,_,_,_,_,_]:=S.add _;refine vreq_t (S.cw 0 rfl (by decide) rfl rfl) ?_;intro g68;have S:Know h g68 [_,_,_,_,_,_,_,_,_,_,_]:=S.wr 0 rfl (by decide) rfl rfl;obtain⟨q,h76,e76,rfl,k76⟩:=c44 N g68 S.kp S.ok;refine⟨_,_,_,_,_,_,S.rd 9 rfl rfl rfl,_,_,e76,?_⟩;have S:Know h h76 [_,_,_,_,_,_,_,_,_,_,_]:=S.call k76;cases hval:validF v with
 |false=>
  rw[hval,if_neg Bool.false_ne_true]at hb;subst hb;exact vcond_t rfl (vcond_t (eqI_t rfl) ⟨_,_,works_true (ht.kp S.kp n0),rfl⟩)
 |true=>
 rw[hval,if_pos rfl]at hb;obtain⟨hs,hw8⟩:=valid_parts hval;have need:=valid_need N hval;refine vcond_f rfl ?_;obtain⟨q,h87,e87,rfl,k87⟩:=c45 N hs h76 S.ft S.ok;refine⟨_,_,_,_,_,_,S.rd 9 rfl rfl rfl,_,_,_,e87,_,(S.call k87).rd 3 rfl rfl rfl,?_⟩;have S:Know h h87 [_,_,_,_,_,_,_,_,_,_,_]:=S.call k87;have e130:wrapF .i64 (130-Int.ofNat (layT (drawnL xs) (pO xs)))=Int.ofNat (pFree xs+ex):=by
  have e1:Int.ofNat (layT (drawnL xs) (pO xs))=((layT (drawnL xs) (pO xs):Nat):Int):=rfl;have e3:Int.ofNat (pFree xs+ex)=((pFree xs+ex:Nat):Int):=rfl;rw[e1,e3,wrap64 (by omega) (by omega)];omega
 rw[e130];have tn:(Int.ofNat (layT (drawnL xs) (pO xs))).toNat=layT (drawnL xs) (pO xs):=rfl;rw[tn]at hb;have wk: ∃q h',EvC Tryz.prog Ow 14 [] h87 (.bool q) h'∧Yes4 (.bool q) h':=⟨_,_,works_true (ht.kp S.kp n0),rfl⟩;have three: ∀ {P:Prop},bo.1.e=3→vcond (eqI bo.1.e 3) (∃q h',EvC Tryz.prog Ow 14 [] h87 (.bool q) h'∧Yes4 (.bool q) h') P:=fun h3=>vcond_t (eqI_t h3) wk;cases hdp:deepF v with
 |true=>
  rw[hdp,if_pos rfl]at hb;have h3:bo.1.e=3:=by rw[hb]
  exact vcond_split (fun _=>three h3) fun _=>vcond_t rfl (three h3)
 |false=>
 rw[hdp,if_neg Bool.false_ne_true]at hb;by_cases hfit7:needF v≤pFree xs+ex
 · have er:roomC (layW (drawnL xs) (pO xs) (pFree xs+ex)) (layT (drawnL xs) (pO xs)) (layR (drawnL xs) (pO xs) (drawnR xs)) [] (needF v) s=⟨layW (drawnL xs) (pO xs) (pFree xs+ex),layT (drawnL xs) (pO xs),layR (drawnL xs) (pO xs) (drawnR xs),[],true⟩:=by
    unfold roomC;rw[if_pos (by rw[layW_length];omega)]
   rw[er,if_pos rfl]at hb;have Bv:=build_F v (drawnL xs,pO xs) (pFree xs+ex) hs hdp G hoL hfit7;have bg:=Bv.g;have bx:=Bv.x;have bf:=Bv.fd;have bt:=Bv.t;have bb:buildF v (layW (drawnL xs) (pO xs) (pFree xs+ex)) (layT (drawnL xs) (pO xs))=_:=Bv.b;have brep:=Bv.rep;clear Bv;have et0:=build_take v (layW (drawnL xs) (pO xs) (pFree xs+ex)) (layT (drawnL xs) (pO xs)) (layT (drawnL xs) (pO xs)) hs (Nat.le_refl _);generalize cF v (drawnL xs,pO xs)=c0 at bg bx bf bt bb brep;obtain⟨S1,f⟩:=c0;simp only at bg bx bf bt bb brep;obtain⟨z1,hz1⟩: ∃z,z=pFree xs+ex-needF v:=⟨_,rfl⟩;rw[←hz1]at bb;rw[bb]at hb et0;simp only at hb et0;subst hb;have hl1:layT S1.1 S1.2+z1=130:=by omega
   have eR:layR S1.1 S1.2 (drawnR xs)=layR (drawnL xs) (pO xs) (drawnR xs):=List.map_congr_left fun g hg=>bx.wd (hR.1 g hg);have hR1: ∀g∈drawnR xs,FdOk S1.2 1 g:=fun g hg=>bx.fd (hR.1 g hg);have hR2: ∀g∈drawnR xs++[f],FdOk S1.2 1 g:=fun g hg=>by
    rcases List.mem_append.1 hg with h1|h1
    · exact hR1 g h1
    · rw[List.mem_singleton.1 h1];exact bf
   have lr2:(drawnR xs++[f]).length≤10:=by rw[List.length_append];have:[f].length=1:=rfl;omega
   have eR2:layR (drawnL xs) (pO xs) (drawnR xs)++[wd (atC S1.1 S1.2) f]=layR S1.1 S1.2 (drawnR xs++[f]):=by
    rw[←eR];unfold layR;rw[List.map_append];rfl
   have hw1:In64 (wd (atC S1.1 S1.2) f):=rsm bg (by omega) hR2 (w:=wd (atC S1.1 S1.2) f) (by rw[←eR2];exact List.mem_append.2 (.inr (List.mem_singleton.2 rfl)));refine vcond_f (by rw[ltI_nat];exact blt_f (by omega)) (vcond_f rfl ?_);intro g97;have S:Know h g97 [_,_,_,_,_,_,_,_,_,_,_]:=S.rsv 39;have etop:wrapF .i64 (Int.ofNat (layT (drawnL xs) (pO xs))+Int.ofNat (needF v))=Int.ofNat (layT S1.1 S1.2):=by
    have e1:Int.ofNat (layT (drawnL xs) (pO xs))=((layT (drawnL xs) (pO xs):Nat):Int):=rfl;have e2:Int.ofNat (needF v)=((needF v:Nat):Int):=rfl;have e3:Int.ofNat (layT S1.1 S1.2)=((layT S1.1 S1.2:Nat):Int):=rfl;rw[e1,e2,e3,wrap64 (by omega) (by omega),bt];omega
   refine vcond_f (by rw[eqI_t rfl];rfl) ⟨_,S.rd 0 rfl rfl rfl,_,S.rd 3 rfl rfl rfl,?_⟩;rw[etop];refine vcond_f (by rw[eqI_t rfl];rfl) ?_;have w1:SI g97 aw1 nw1 cw1 (layW S1.1 S1.2 z1):=S.get 1 rfl;have w0:SI g97 a39 (layT (drawnL xs) (pO xs)+pFree xs+ex) c41 (layW (drawnL xs) (pO xs) (pFree xs+ex)):=S.get 6 rfl;have hnw:nw1=130:=by have:=w1.at_.1;rw[layW_length]at this;omega
   obtain⟨a',c',es,sp⟩:=w1.part (l:=0) (r:=layT (drawnL xs) (pO xs)) (Nat.zero_le _) (by rw[layW_length];omega) (lo:=none) (hi:=some (.int .i64 (Int.ofNat (layT (drawnL xs) (pO xs))))) (fun vis hv=>bounds_hi (by omega));obtain⟨a'',c'',es2,sp2⟩:=w0.part (l:=0) (r:=layT (drawnL xs) (pO xs)) (Nat.zero_le _) (by rw[layW_length];omega) (lo:=none) (hi:=some (.int .i64 (Int.ofNat (layT (drawnL xs) (pO xs))))) (fun vis hv=>bounds_hi (by omega));rw[List.drop_zero,Nat.sub_zero]at sp sp2;rw[Nat.sub_zero]at es es2;rw[et0]at sp;haveI fg:Ft g97 (g97.grd []):=⟨fun _ _=>rfl,Nat.le_refl _⟩;obtain⟨q,h118,e118,rfl,k118⟩:=ct40 hO (c:=c') (c1:=c'') (sp.at_.to (g97.grd [])) (sp2.at_.to (g97.grd [])) (by rw[List.length_take,layW_length];omega);refine⟨_,_,_,S.rd 0 rfl rfl rfl,vcond_f (by rw[hnw];rfl) ⟨_,_,_,S.rd 0 rfl rfl rfl,_,S.rd 3 rfl rfl rfl,_,_,_,es,_,_,_,S.rd 3 rfl rfl rfl,_,S.rd 3 rfl rfl rfl,_,_,_,es2,_,_,e118,?_⟩⟩;intro g119;have S:Know h g119 [_,_,_,_,_,_,_,_,_,_,_]:=S.callg k118;have r1:SI g119 ar1 nr1 cr1 (layR (drawnL xs) (pO xs) (drawnR xs)):=S.get 2 rfl;have r0:IntsAt g119 ar nr (layR (drawnL xs) (pO xs) (drawnR xs)):=AccE.ints (S.get 7 rfl);have lR:(layR (drawnL xs) (pO xs) (drawnR xs)).length=(drawnR xs).length:=by unfold layR;rw[List.length_map]
   haveI fg2:Ft g119 (g119.grd []):=⟨fun _ _=>rfl,Nat.le_refl _⟩;obtain⟨q,h127,e127,rfl,k127⟩:=ct40 hO (c:=cr1) (c1:=cr) (r1.at_.to (g119.grd [])) (r0.to (g119.grd [])) (by omega);refine vcond_f rfl ⟨_,_,_,S.rd 0 rfl rfl rfl,_,_,_,S.rd 3 rfl rfl rfl,_,_,e127,?_⟩;intro g128;have S:Know h g128 [_,_,_,_,_,_,_,_,_,_,_]:=S.callg k127;have wsm: ∀x∈layW S1.1 S1.2 z1,In64 x:=fun x hx=>gsm bg (by omega) hx;have A1:HA g128 aw1 nw1 cw1 (layW S1.1 S1.2 z1) ar1 nr1 cr1 (layR (drawnL xs) (pO xs) (drawnR xs)):=⟨S.get 1 rfl,S.get 2 rfl,wsm,fun x hx=>rsm (S:=(drawnL xs,pO xs)) G (by show layT (drawnL xs) (pO xs)≤_;omega) hR.1 hx⟩;have hrd:=laid_read (free:=z1) bg hR1 (by omega) (by omega) brep bf hval;rw[eR]at hrd;obtain⟨q,h143,e143,ws,own1,rfl,T⟩:=ct33 hO S.ok (ht.kp S.kp n0) A1 hw1 (top:=Int.ofNat (layT S1.1 S1.2));rw[hrd]at e143 T;have hva:VA h143 v ws:=clo.get (T.get 0 rfl);obtain⟨x1,x2,x3,x4,x5,x6,rfl⟩:=hva.form;refine vcond_f rfl ⟨_,_,_,_,_,_,_,S.rd 0 rfl rfl rfl,_,_,_,_,_,_,_,_,e143,?_⟩;have S:Know h h143 [_,_,_,_,_,_,_,_,_,_,_,_]:=S.comp T;intro g144;have S:Know h g144 [_,_,_,_,_,_,_,_,_,_,_,_,_]:=S.add _;refine vreq_t (S.cw 0 rfl (by decide) rfl rfl) ?_;intro g145;have S:Know h g145 [_,_,_,_,_,_,_,_,_,_,_,_,_]:=S.wr 0 rfl (by decide) rfl rfl;obtain⟨q,h159,e159,rfl,k159⟩:=c35 g145 S.kp (clo.get (S.get 1 rfl)) N.1 S.ok;rw[eqF_refl]at e159;refine vcond_f (by rw[eqI_t rfl];rfl) ⟨_,_,_,_,_,_,S.rd 0 rfl rfl rfl,_,_,_,_,_,_,S.rd 11 rfl rfl rfl,_,_,e159,vcond_f rfl ?_⟩;have S:Know h h159 [_,_,_,_,_,_,_,_,_,_,_,_,_]:=S.call k159;have r1:SI h159 ar1 nr1 cr1 (layR (drawnL xs) (pO xs) (drawnR xs)):=S.get 4 rfl;obtain⟨q,h166,e166,a2,n2,c2,rfl,T⟩:=ct46 hO S.ok r1.at_ (by omega) (c:=cr1);have lo159:=S.lo;have lo166:=T.lo;refine⟨_,_,_,S.rd 2 rfl rfl rfl,_,_,_,_,e166,?_⟩;have S:Know h h166 [_,_,_,_,_,_,_,_,_,_,_,_,_,_]:=S.comp T;intro g167;have S:Know h g167 [_,_,_,_,_,_,_,_,_,_,_,_,_,_,_]:=S.add _;have hn2:=(AccE.ints (S.get 1 rfl)).1;obtain⟨a3,n3,c3,h171,e171,hn3,S171⟩:=S.app 1 rfl lo159 (Nat.le_succ_of_le lo166) AppT22 ⟨_,_,_,rfl⟩ (own_src (S.obj 0 rfl) (S.orng 0 rfl).2) rfl rfl (by omega) (by unfold big;omega);have eiv:iv (layR (drawnL xs) (pO xs) (drawnR xs))++[Value.int .i64 (wd (atC S1.1 S1.2) f)]=iv (layR S1.1 S1.2 (drawnR xs++[f])):=by rw[←eR2];unfold iv;rw[List.map_append];rfl
   rw[eiv]at S171;have S:Know h h171 [_,_,_,_,_,_,_,_,_,_,_,_,_,_,_]:=S171;refine⟨_,_,_,_,e171,vreq_t (S.cw 4 rfl (by decide) rfl rfl) ?_⟩;intro g172;have S:Know h g172 [_,_,_,_,_,_,_,_,_,_,_,_,_,_,_]:=S.wr 4 rfl (by decide) rfl rfl;have lR2:(layR S1.1 S1.2 (drawnR xs++[f])).length=(drawnR xs).length+1:=by unfold layR;rw[List.length_map,List.length_append];rfl
   have A2:HA g172 aw1 nw1 cw1 (layW S1.1 S1.2 z1) a3 n3 c3 (layR S1.1 S1.2 (drawnR xs++[f])):=⟨S.get 5 rfl,SI.accE (S.get 1 rfl) (by omega),wsm,fun x hx=>rsm bg (by omega) hR2 hx⟩;obtain⟨K,z2,s2,GK,hRK,fitK,repK,hrun2,hD2,htop2⟩:=laid_kept (free:=z1) bg hR2 lr2 (by omega) (f:=f) (List.mem_append.2 (.inr (List.mem_singleton.2 rfl))) brep hval;have lRK:(layR K.1 K.2 (drawnR xs++[f])).length=(drawnR xs).length+1:=by unfold layR;rw[List.length_map,List.length_append];rfl
   obtain⟨q,h188,e188,qq⟩:=ct15 hO S.ok A2 (ht.kp S.kp n0) (top:=Int.ofNat (layT S1.1 S1.2)) (s:=s2) (rs:=layR K.1 K.2 (drawnR xs++[f])) (ks:=[]) (fun _ _=>hrun2) (by omega);rw[laid_check bg hR2 lr2 (by omega)]at qq;obtain⟨u,rfl,H⟩:=qq;rw[hD2,htop2]at H;obtain⟨aw4,nw4,cw4,ar4,nr4,cr4,own3,rfl,T⟩:=H.know S.ok;refine⟨_,_,_,_,_,_,_,S.rd 4 rfl rfl rfl,_,_,_,_,_,_,_,_,_,e188,?_⟩;have hn3':=A2.sr.at_.1;have S:Know h h188 [_,_,_,_,_,_,_,_,_,_,_,_,_,_,_,_]:=S.comp T;intro g189;have S:Know h g189 [_,_,_,_,_,_,_,_,_,_,_,_,_,_,_,_,_]:=S.add _;refine vreq_t (S.cw 0 rfl (by decide) rfl rfl) ?_;intro g190;have S:Know h g190 [_,_,_,_,_,_,_,_,_,_,_,_,_,_,_,_,_]:=S.wr 0 rfl (by decide) rfl rfl;have cc0:SI g190 aw4 nw4 cw4 (layW K.1 K.2 z2)∧SI g190 ar4 nr4 cr4 (layR K.1 K.2 (drawnR xs++[f])):=clo.get (S.get 1 rfl);have hn4:=cc0.2.at_.1;refine vcond_f (by rw[eqI_t rfl];rfl) ⟨_,_,_,S.rd 0 rfl rfl rfl,_,_,_,S.rd 6 rfl rfl rfl,vcond_f (by rw[eqI_t (by rw[hn4,hn3',lRK,lR2])];rfl) ?_⟩;intro g197;have S:Know h g197 [_,_,_,_,_,_,_,_,_,_,_,_,_,_,_,_,_]:=S.rsv 15;have cc0:SI g197 aw4 nw4 cw4 (layW K.1 K.2 z2)∧SI g197 ar4 nr4 cr4 (layR K.1 K.2 (drawnR xs++[f])):=clo.get (S.get 1 rfl);haveI fg3:Ft g197 (g197.grd []):=⟨fun _ _=>rfl,Nat.le_refl _⟩;haveI fg4:Ft g197 g197:=⟨fun _ _=>rfl,Nat.le_refl _⟩;have A3:HA (g197.grd []) aw4 nw4 cw4 (layW K.1 K.2 z2) ar4 nr4 cr4 (layR K.1 K.2 (drawnR xs++[f])):=⟨cc0.1.to _,cc0.2.to _,fun x hx=>gsm GK fitK hx,fun x hx=>rsm GK (by omega) hRK hx⟩;have em:wrapF .i64 (Int.ofNat nr4-1)=Int.ofNat (drawnR xs).length:=by
    have e1:Int.ofNat nr4=(nr4:Int):=rfl;have e2:Int.ofNat (drawnR xs).length=((drawnR xs).length:Int):=rfl;rw[e1,e2,wrap64 (by omega) (by omega)];omega
   have ew:(layR K.1 K.2 (drawnR xs++[f]))[(drawnR xs).length]'(by omega)=wd (atC K.1 K.2) f:=by
    unfold layR;simp
   have fK:=hRK f (List.mem_append.2 (.inr (List.mem_singleton.2 rfl)));have hw2:In64 (wd (atC K.1 K.2) f):=rsm GK (by omega) hRK (w:=wd (atC K.1 K.2) f) (List.mem_map.2 ⟨f,List.mem_append.2 (.inr (List.mem_singleton.2 rfl)),rfl⟩);have hrd2:=laid_read (free:=z2) GK hRK lr2 fitK repK fK hval;obtain⟨q,h222,e222,us,own4,rfl,T⟩:=ct33 hO (S.okg fun _ h=>by cases h) ((ht.kp S.kp n0).grd []) A3 hw2 (top:=Int.ofNat (layT K.1 K.2));rw[hrd2]at e222 T;have hvb:VA h222 v us:=clo.get (T.get 0 rfl);obtain⟨y1,y2,y3,y4,y5,y6,rfl⟩:=hvb.form;refine⟨_,_,_,_,_,_,_,S.rd 0 rfl rfl rfl,_,_,_,S.rd 0 rfl rfl rfl,_,_,_,S.rd 0 rfl rfl rfl,?_⟩;rw[em];refine isNat_i (cc0.2.at_.rd (k:=(drawnR xs).length) (by omega) ?_);rw[ew];refine⟨_,_,_,_,_,_,_,_,e222,?_⟩;intro g223;have S:Know h g223 [_,_,_,_,_,_,_,_,_,_,_,_,_,_,_,_,_,_]:=S.compg T;refine vreq_t (S.cwg 5 rfl (fun _ h=>by cases h) (by decide) rfl rfl) ?_;intro g224 g225;have S:Know h g225 [_,_,_,_,_,_,_,_,_,_,_,_,_,_,_,_,_,_]:=S.wrg 5 rfl (fun _ h=>by cases h) (by decide) rfl rfl;obtain⟨q,h239,e239,rfl,k239⟩:=c35 g225 S.kp (clo.get (S.get 0 rfl)) N.1 S.ok;rw[eqF_refl]at e239;exact vcond_t (eqI_t rfl) ⟨_,_,_,_,_,_,S.rd 5 rfl rfl rfl,_,_,_,_,_,_,S.rd 16 rfl rfl rfl,_,_,e239,vcond_t rfl ⟨_,_,works_true (ht.kp (S.call k239).kp n0),rfl⟩⟩
 · refine vcond_t (by rw[ltI_nat];exact blt_t (by omega)) ?_;split at hb
   · subst hb;exact vcond_f (eqI_f (show(0:Int)≠3 by decide)) (vcond_t (eqI_t rfl) (vcond_t rfl wk))
   · have h3:bo.1.e=3:=by rw[hb]
     exact three h3
end Go.Proofs.YtngcjpkccnfjiaaGreatDoor
namespace Go.Ev
open Go
def layOk (P:Program):Nat→List Field→Nat→Bool
 |off,[],n=>Nat.beq off n
 |off,f::fs,n=>Nat.beq f.offset off&&layOk P (off+P.cellsOf f.type) fs n
def Plain (P:Program):Nat→TypeId→Bool
 |0,_=>false
 |n+1,t=>match P.underlying t with
  |some .bool=>true
  |some (.int _)=>true
  |some .string=>true
  |some (.slice _)=>true
  |some (.struct fs)=>fs.toList.all (fun f=>Plain P n f.type)&&layOk P 0 fs.toList (P.cellsOf t)
  |some (.array m e)=>Plain P n e&&Nat.beq (m*P.cellsOf e) (P.cellsOf t)
  |_=>false
def DE {H:Type}(P:Program)(h:Hp):Nat→TypeId→List Value→DataW H→Prop
 |0,_,_,_=>False
 |n+1,t,cs,d=>match P.underlying t,d with
  |some .bool,.lit (.bool b)=>cs=[.bool b]
  |some (.int k),.lit (.int k' x)=>k'=k∧cs=[.int k x]∧(Lit.int k x).wf=true
  |some .string,.lit (.string b)=>cs=[.string ⟨b.toArray⟩]
  |some (.slice _),.nil=>cs=[.slice none 0 0]
  |some (.slice e),.slice elems _=> ∃k cap c e',cs=[.slice (some ⟨k,0,none⟩) elems.length cap]∧cap<unk∧elems.length≤cap∧k<h.nx∧h.get k=some (.cells c e' .ro)∧elems.length*P.cellsOf e≤c.length∧
    ∀i (hi:i<elems.length),DE P h n e ((c.drop (i*P.cellsOf e)).take (P.cellsOf e)) elems[i]
  |some (.struct fs),.agg parts=>cs.length=P.cellsOf t∧parts.length=fs.size∧ ∀i (hi:i<parts.length) f,fs[i]? =some f→DE P h n f.type ((cs.drop f.offset).take (P.cellsOf f.type)) parts[i]
  |some (.array m e),.agg parts=>cs.length=P.cellsOf t∧parts.length=m∧ ∀i (hi:i<parts.length),DE P h n e ((cs.drop (i*P.cellsOf e)).take (P.cellsOf e)) parts[i]
  |_,_=>False
structure Ext1 (h:Hp)(ι:Inj)(h':Hp)(ι':Inj):Prop where
 nx:h.nx≤h'.nx
 gd:h'.gd=h.gd
 get: ∀o,o<h.nx→h'.get o=h.get o
 inj: ∀o,o<h.nx→ι' o=ι o
theorem Ext1.refl (h:Hp)(ι:Inj):Ext1 h ι h ι:=⟨Nat.le_refl _,rfl,fun _ _=>rfl,fun _ _=>rfl⟩
theorem Ext1.trans {h h' h'':Hp}{ι ι' ι'':Inj}(a:Ext1 h ι h' ι')(b:Ext1 h' ι' h'' ι''):Ext1 h ι h'' ι'':=
 ⟨Nat.le_trans a.nx b.nx,b.gd.trans a.gd,fun o ho=>(b.get o (Nat.lt_of_lt_of_le ho a.nx)).trans (a.get o ho),fun o ho=>(b.inj o (Nat.lt_of_lt_of_le ho a.nx)).trans (a.inj o ho)⟩
theorem DE.mono {H:Type}{P:Program}{h h':Hp}(hn:h.nx≤h'.nx)(hg: ∀o,o<h.nx→h'.get o=h.get o): ∀ {n:Nat} {t:TypeId} {cs:List Value} {d:DataW H},DE P h n t cs d→DE P h' n t cs d:=by
 intro n
 induction n with
 |zero=>intro t cs d h;exact h
 |succ n ih=>
  intro t cs d hd;unfold DE at hd ⊢;split at hd
  · exact hd
  · exact hd
  · exact hd
  · exact hd
  · obtain⟨k,cap,c,e',h1,h2,h3,h4,h5,h6,h7⟩:=hd;exact⟨k,cap,c,e',h1,h2,h3,Nat.lt_of_lt_of_le h4 hn,by rw[hg k h4];exact h5,h6,fun i hi=>ih (h7 i hi)⟩
  · exact⟨hd.1,hd.2.1,fun i hi f hf=>ih (hd.2.2 i hi f hf)⟩
  · exact⟨hd.1,hd.2.1,fun i hi=>ih (hd.2.2 i hi)⟩
  · exact hd
section
variable {H:Type}{enc:TypeId×Value→H}{P:Program}{W:World}
structure Base (P:Program)(ι:Inj)(h:Hp)(W:World):Prop where
 rh:RH P ι h W
 ro: ∀o x,h.get o=some x→x.wr=false
 gd:h.gd=[]
 some0: ∃x v,h.get 0=some x∧ι 0=some v∧0<h.nx∧ ∃c e,x= .cells c e .ro
theorem Base.push {ι:Inj}{h:Hp}(B:Base P ι h W){c:List Value}{e:TypeId}{v:Vw}(h1:c.all one=true){c':Array Value}{e':TypeId}{fr:Nat×Nat}(hb:W.heap[v.blk]? =some (.cells c' e' fr))(hc: ∀(j:Nat) x,c[j]? =some x→ ∃y,c'[v.base+j]? =some y∧VR ι x y):
 Base P (ι.set h.nx v) (h.add (.cells c e .ro)) W∧Ext1 h ι (h.add (.cells c e .ro)) (ι.set h.nx v):=by
 have hfresh:ι h.nx=none:=B.rh.fresh _ (Nat.le_refl _);have mono:=Inj.set_mono (v:=v) hfresh;have hE:Ext1 h ι (h.add (.cells c e .ro)) (ι.set h.nx v):=⟨by rw[nx_add];omega,rfl,fun o ho=>get_add_ne (by omega),fun o ho=>Inj.set_other _ _ _ (by omega)⟩;have hget: ∀o x,(h.add (.cells c e .ro)).get o=some x→(o=h.nx∧x= .cells c e .ro)∨h.get o=some x:=fun o x ho=>by
  rw[get_add]at ho;split at ho
  · exact .inl ⟨‹_›,(Option.some.inj ho).symm⟩
  · exact .inr ho
 have hro: ∀o x,(h.add (.cells c e .ro)).get o=some x→x.wr=false:=fun o x ho=>by
  rcases hget o x ho with ⟨_,rfl⟩|ho
  · rfl
  · exact B.ro o x ho
 refine⟨⟨⟨fun o x ho=> ?_,fun o q x y vo vq _ ho hx=> ?_,fun o ho=> ?_,fun g hg=> ?_,?_⟩,hro,B.gd,?_⟩,hE⟩
 · rcases hget o x ho with ⟨rfl,rfl⟩|ho
   · refine⟨by rw[nx_add];omega,v,Inj.set_same ..,h1,c',e',fr,hb,fun j x hx=> ?_,fun h=>absurd rfl h,fun h=>by cases h⟩;obtain⟨y,hy,hv⟩:=hc j x hx;exact⟨y,hy,hv.mono mono⟩
   · obtain⟨h2,u,hu,hor⟩:=B.rh.live o x ho;exact⟨by rw[nx_add];omega,u,mono _ _ hu,hor.of_block mono rfl⟩
 · rw[hro o x ho]at hx;cases hx
 · rw[nx_add]at ho;rw[Inj.set_other _ _ _ (by omega)];exact B.rh.fresh o (by omega)
 · rw[Inj.set_other _ _ _ (by have:=B.rh.gsize;omega)];exact B.rh.glob g hg
 · rw[nx_add];have:=B.rh.gsize;omega
 · obtain⟨x,u,a1,a2,a3,a4⟩:=B.some0;exact⟨x,u,by rw[get_add_ne (by omega)];exact a1,by rw[Inj.set_other _ _ _ (by omega)];exact a2,by rw[nx_add];omega,a4⟩
theorem cells_take {a:Addr}{n:Nat}{cs:List Value}(h:W.cells? 0 a n=some cs):cs.length=n∧ ∀j,j<n→W.cell? (a.add j)=cs[j]? :=by
 unfold World.cells? at h;rw[if_pos (Nat.zero_le _)]at h;have hl:=Lib.mapM_length h;rw[List.length_range]at hl;refine⟨hl,fun j hj=> ?_⟩;obtain⟨b,h1,h2⟩:=Lib.mapM_at h j j (by simp[hj]);rw[h1,h2]
def Builds (H:Type)(enc:TypeId×Value→H)(P:Program)(W:World)(n:Nat)(t:TypeId):Prop:= ∀(cs:List Value) (d:DataW H) (ps:List MemPlace),DataW.trod enc P W 0 (fun _=>true) true n t cs=some (d,ps)→
 ∀ι h,Base P ι h W→ ∃ι' h' ev,Ext1 h ι h' ι'∧Base P ι' h' W∧VRs ι' ev cs∧ev.all one=true∧DE P h' n t ev d
theorem VRs.mono1 {ι ι':Inj}{h h':Hp}(E:Ext1 h ι h' ι')(R: ∀o,h.nx≤o→ι o=none){a b:List Value}(hv:VRs ι a b):VRs ι' a b:=hv.mono fun o v hv=>by
 have:o<h.nx:=by
  rcases Nat.lt_or_ge o h.nx with hh|hh
  · exact hh
  · rw[R o hh]at hv;cases hv
 rw[E.inj o this];exact hv
theorem build_list {n:Nat}: ∀(l:List (TypeId×List Value×DataW H)),(∀p∈l,Builds H enc P W n p.1∧ ∃ps,DataW.trod enc P W 0 (fun _=>true) true n p.1 p.2.1=some (p.2.2,ps))→ ∀ι h,Base P ι h W→
 ∃ι' h',∃evs:List (List Value),Ext1 h ι h' ι'∧Base P ι' h' W∧evs.length=l.length∧VRs ι' evs.flatten (l.map (·.2.1)).flatten∧evs.flatten.all one=true∧
  ∀i (hi:i<l.length),∃ev,evs[i]? =some ev∧VRs ι' ev l[i].2.1∧DE P h' n l[i].1 ev l[i].2.2:=by
 intro l
 induction l with
 |nil=>intro _ ι h B;exact⟨ι,h,[],.refl _ _,B,rfl,.nil _,rfl,fun i hi=>absurd hi (Nat.not_lt_zero _)⟩
 |cons p l ih=>
  intro hl ι h B;obtain⟨hb,ps,hp⟩:=hl p (List.mem_cons_self ..);obtain⟨ι1,h1,ev,E1,B1,V1,O1,D1⟩:=hb _ _ _ hp ι h B;obtain⟨ι2,h2,evs,E2,B2,L2,V2,O2,D2⟩:=ih (fun q hq=>hl q (List.mem_cons_of_mem _ hq)) ι1 h1 B1;have V1':=VRs.mono1 E2 B1.rh.fresh V1;refine⟨ι2,h2,ev::evs,E1.trans E2,B2,by simp[L2],?_,?_,fun i hi=> ?_⟩
  · rw[List.flatten_cons,List.map_cons,List.flatten_cons];exact V1'.append V2
  · rw[List.flatten_cons,List.all_append,O1,O2];rfl
  · cases i with
    |zero=>exact⟨ev,rfl,V1',D1.mono E2.nx E2.get⟩
    |succ i=>exact D2 i (by simpa using hi)
theorem flat_row {l:List (List Value)}{w:Nat}(hw: ∀x∈l,x.length=w):l.flatten.length=l.length*w∧ ∀i x,l[i]? =some x→(l.flatten.drop (i*w)).take w=x:=by
 induction l with
 |nil=>exact⟨by simp,fun i x h=>by simp at h⟩
 |cons y l ih=>
  obtain⟨h1,h2⟩:=ih fun x hx=>hw x (List.mem_cons_of_mem _ hx);have hy:=hw y (List.mem_cons_self ..);refine⟨by rw[List.flatten_cons,List.length_append,h1,hy,List.length_cons,Nat.add_mul];omega,fun i x hx=> ?_⟩;rw[List.flatten_cons];cases i with
  |zero=>
   simp at hx;subst hx;rw[Nat.zero_mul,List.drop_zero,←hy,List.take_left]
  |succ i=>
   rw[List.drop_append,List.drop_of_length_le (by rw[hy,Nat.add_mul];omega),List.nil_append,hy,show(i+1)*w-w=i*w by rw[Nat.add_mul];omega];exact h2 i x (by simpa using hx)
theorem trod_slice {n:Nat}{e t:TypeId}(hu:P.underlying t=some (.slice e)){cs:List Value}{d:DataW H}{ps:List MemPlace}(h:DataW.trod enc P W 0 (fun _=>true) true (n+1) t cs=some (d,ps)):
 (cs=[.slice none 0 0]∧d= .nil)∨ ∃(a:Addr) (len cap:Nat) (elems rest:List (DataW H×List MemPlace)),cs=[.slice (some a) len cap]∧len≤cap∧cap≤maxLen∧
   (List.range len).mapM (fun i=>(W.cells? 0 (a.add (i*P.cellsOf e)) (P.cellsOf e)).bind (DataW.trod enc P W 0 (fun _=>true) true n e))=some elems∧
   (List.range (cap-len)).mapM (fun j=>(W.cells? 0 (a.add ((len+j)*P.cellsOf e)) (P.cellsOf e)).bind (DataW.trod enc P W 0 (fun _=>true) true n e))=some rest∧d= .slice (elems.map (·.1)) (rest.map (·.1)):=by
 unfold DataW.trod at h;rw[hu]at h;rcases cs with _|⟨v,_|⟨w,r⟩⟩
 · cases h
 · cases v with
   |slice a len cap=>
    rcases a with _|a
    · rcases len with _|len
      · rcases cap with _|cap
        · injection h with h;injection h with h1 h2;exact .inl ⟨rfl,h1.symm⟩
        · cases h
      · cases h
    · right;simp only at h;split at h
      · rename_i hc;obtain⟨elems,h1,h2⟩:=Option.bind_eq_some_iff.1 h;obtain⟨rest,h3,h4⟩:=Option.map_eq_some_iff.1 h2;injection h4 with h4 h5;rw[if_pos trivial]at h3;exact⟨a,len,cap,elems,rest,rfl,hc.2.1,hc.2.2,h1,h3,h4.symm⟩
      · cases h
   |_=>cases h
 · cases v with
   |slice a len cap=>cases a<;>cases len<;>cases cap<;>cases h
   |_=>cases h
theorem cell_block {a:Addr}{v:Value}(h:W.cell? a=some v): ∃c e fr,W.heap[a.block]? =some (.cells c e fr)∧a.spot=none∧c[a.off]? =some v:=by
 unfold World.cell? at h;split at h
 · rename_i c e fr hb;split at h
   · cases h
   · rename_i hs;exact⟨c,e,fr,hb,by simpa using hs,h⟩
 · cases h
theorem add_add (a:Addr)(i j:Nat):((a.add i).add j).block=a.block∧((a.add i).add j).off=a.off+i+j:=by
 unfold Addr.add;by_cases hi:i=0
 · subst hi;by_cases hj:j=0
   · subst hj;exact⟨rfl,rfl⟩
   · simp[hj]
 · by_cases hj:j=0
   · subst hj;simp[hi]
   · simp[hi,hj]
theorem build_slice {n:Nat}{e t:TypeId}(he:Builds H enc P W n e)(hs:P.cellsOf e≠0)(hu:P.underlying t=some (.slice e)):Builds H enc P W (n+1) t:=by
 intro cs d ps h ι hp B;rcases trod_slice hu h with ⟨rfl,rfl⟩|⟨a,len,cap,elems,rest,rfl,hlc,hcap,h1,h2,rfl⟩
 · exact⟨ι,hp,[.slice none 0 0],.refl _ _,B,.of_flat rfl,rfl,by unfold DE;rw[hu]⟩
 have hcl:cap<unk:=by
  have:unk=18446744073709551616:=rfl;have:maxLen=2^63-1:=rfl;omega
 have hcu:cap≠unk:=Nat.ne_of_lt hcl;have l1:=Lib.mapM_length h1;have l2:=Lib.mapM_length h2;rw[List.length_range]at l1 l2
 let cell (i:Nat):List Value:=(W.cells? 0 (a.add (i*P.cellsOf e)) (P.cellsOf e)).getD []
 have el: ∀i (hi:i<len),W.cells? 0 (a.add (i*P.cellsOf e)) (P.cellsOf e)=some (cell i)∧DataW.trod enc P W 0 (fun _=>true) true n e (cell i)=some (elems[i]'(by omega)):=by
  intro i hi;obtain⟨b,e1,e2⟩:=Lib.mapM_at h1 i i (by simp[hi]);obtain⟨c,e3,e4⟩:=Option.bind_eq_some_iff.1 e2;have hc:cell i=c:=by show(W.cells? 0 _ _).getD []=c;rw[e3];rfl
  rw[hc];refine⟨e3,?_⟩;rw[e4,←e1,List.getElem?_eq_getElem]
 by_cases hcap0:cap=0
 ·
  subst hcap0;obtain rfl:len=0:=by omega
  obtain⟨x,v,g1,g2,g3,c,e',rfl⟩:=B.some0;have he0:elems=[]:=List.length_eq_zero_iff.1 l1;subst he0;refine⟨ι,hp,[.slice (some ⟨0,0,none⟩) 0 0],.refl _ _,B,.cons (.sl0 g2 (.inr rfl)) (.nil _),rfl,?_⟩;unfold DE;rw[hu];have hm: ∃c' e'',hp.get 0=some (.cells c' e'' .ro):=by
   refine⟨c,e',?_⟩;have:=B.ro 0 _ g1;rw[g1]
  obtain⟨c',e'',hm⟩:=hm;exact⟨0,0,c',e'',rfl,hcl,Nat.le_refl _,g3,hm,by simp,fun i hi=>absurd hi (Nat.not_lt_zero _)⟩
 ·
  have hblk: ∃c' e' fr,W.heap[a.block]? =some (.cells c' e' fr)∧a.spot=none:=by
   have first: ∃c,W.cells? 0 a (P.cellsOf e)=some c:=by
    rcases Nat.eq_zero_or_pos len with h0|h0
    · obtain⟨b,_,e2⟩:=Lib.mapM_at h2 0 0 (by rw[List.getElem?_eq_getElem (by simp;omega)];simp);obtain⟨c,e3,_⟩:=Option.bind_eq_some_iff.1 e2;rw[h0,Nat.zero_add,Nat.zero_mul]at e3;exact⟨c,e3⟩
    · have:=(el 0 h0).1;rw[Nat.zero_mul]at this;exact⟨_,this⟩
   obtain⟨c,hc⟩:=first
   obtain⟨g1,g2⟩:=cells_take hc;have:=g2 0 (by omega);obtain⟨v,hv⟩: ∃v,c[0]? =some v:=⟨c[0]'(by omega),List.getElem?_eq_getElem _⟩;rw[hv]at this;obtain⟨c',e',fr,q1,q2,_⟩:=cell_block this;exact⟨c',e',fr,q1,q2⟩
  obtain⟨c',e',fr,hb,hsp⟩:=hblk
  let l:List (TypeId×List Value×DataW H):=(List.range len).map fun i=>(e,cell i,((elems.map (·.1))[i]?).getD .nil)
  have hll:l.length=len:=by simp[l]
  have lget: ∀i (hi:i<l.length),l[i]=(e,cell i,(elems[i]'(by omega)).1):=by
   intro i hi;have hi':i<elems.length:=by omega
   simp[l,hi']
  obtain⟨ι1,h3,evs,E1,B1,L1,V1,O1,D1⟩:=build_list l (fun p hpm=>by
   obtain⟨i,hi,rfl⟩:=List.getElem_of_mem hpm;rw[lget i hi];exact⟨he,_,(el i (by omega)).2⟩) ι hp B
  have hw: ∀x∈evs,x.length=P.cellsOf e:=by
   intro x hx;obtain⟨i,hi,rfl⟩:=List.getElem_of_mem hx;obtain⟨ev,e1,e2,_⟩:=D1 i (by omega);rw[List.getElem?_eq_getElem hi]at e1;obtain rfl:=Option.some.inj e1;rw[←e2.1,lget i (by omega)];exact(cells_take (el i (by omega)).1).1
  obtain⟨f1,f2⟩:=flat_row hw;obtain⟨B2,E2⟩:=B1.push (c:=evs.flatten) (e:=e) (v:=⟨a.block,a.off,0,0⟩) O1 hb (fun j x hx=>by
   have hj:j<evs.flatten.length:=(List.getElem?_eq_some_iff.1 hx).1;rw[f1,L1,hll]at hj;have hlt:j/P.cellsOf e<len:=Nat.div_lt_of_lt_mul (by rw[Nat.mul_comm];exact hj);have hmod:j%P.cellsOf e<P.cellsOf e:=Nat.mod_lt _ (by omega);have hdm:j=j/P.cellsOf e*P.cellsOf e+j%P.cellsOf e:=by rw[Nat.mul_comm];exact(Nat.div_add_mod j _).symm
   obtain⟨ev,e1,e2,_⟩:=D1 (j/P.cellsOf e) (by omega);have e3:=f2 _ _ e1;have hx':ev[j%P.cellsOf e]? =some x:=by
    rw[←e3,List.getElem?_take,if_pos hmod,List.getElem?_drop,←hdm];exact hx
   obtain⟨y,hy,hv⟩:=e2.get hx';rw[lget _ (by omega)]at hy;have hy:(cell (j/P.cellsOf e))[j%P.cellsOf e]? =some y:=hy;have:=(cells_take (el _ hlt).1).2 _ hmod;rw[hy]at this;obtain⟨c2,e2',fr2,q1,_,q3⟩:=cell_block this;obtain⟨p1,p2⟩:=add_add a (j/P.cellsOf e*P.cellsOf e) (j%P.cellsOf e);rw[p1]at q1;rw[p2]at q3;rw[hb]at q1;injection q1 with q1;injection q1 with q1 _ _;subst q1;exact⟨y,by rw[show a.off+j=a.off+j/P.cellsOf e*P.cellsOf e+j%P.cellsOf e by omega];exact q3,hv⟩)
  refine⟨_,_,[.slice (some ⟨h3.nx,0,none⟩) len cap],E1.trans E2,B2,.cons ?_ (.nil _),rfl,?_⟩
  · have ha:a=⟨a.block,a.off+0,none⟩:=by cases a;simp at hsp;subst hsp;rfl
    rw[ha];exact .slc (w:=⟨a.block,a.off,0,0⟩) (Inj.set_same ..) hcu
  · unfold DE;rw[hu];have hel:(elems.map (·.1)).length=len:=by simp[l1]
    refine⟨h3.nx,cap,evs.flatten,e,by rw[hel],hcl,by rw[hel];exact hlc,by rw[nx_add];omega,get_add_same ..,Nat.le_of_eq (by rw[hel,f1,L1,hll]),fun i hi=> ?_⟩;rw[hel]at hi;obtain⟨ev,e1,_,e3⟩:=D1 i (by omega);rw[f2 i ev e1];rw[lget i (by omega)]at e3;have:(elems.map (·.1))[i]'(by rw[hel];exact hi)=(elems[i]'(by omega)).1:=by simp
    rw[this];exact e3.mono (by rw[nx_add];omega) fun o ho=>get_add_ne (by omega)
theorem build_int {n:Nat}{t:TypeId}{k:IntKind}(hu:P.underlying t=some (.int k)):Builds H enc P W (n+1) t:=by
 intro cs d ps h ι hp B;unfold DataW.trod at h;rw[hu]at h;rcases cs with _|⟨v,_|⟨w,r⟩⟩
 · cases h
 · cases v with
   |int k' x=>
    simp only at h;split at h
    · rename_i hc;injection h with h;injection h with h _;subst h;obtain⟨rfl,hw⟩:=hc;exact⟨ι,hp,[.int k' x],.refl _ _,B,.of_flat rfl,rfl,by unfold DE;rw[hu];exact⟨rfl,rfl,hw⟩⟩
    · cases h
   |slice a len cap=>cases a<;>cases len<;>cases cap<;>cases h
   |_=>cases h
 · cases v with
   |slice a len cap=>cases a<;>cases len<;>cases cap<;>cases h
   |_=>cases h
theorem build_string {n:Nat}{t:TypeId}(hu:P.underlying t=some .string):Builds H enc P W (n+1) t:=by
 intro cs d ps h ι hp B;unfold DataW.trod at h;rw[hu]at h;rcases cs with _|⟨v,_|⟨w,r⟩⟩
 · cases h
 · cases v with
   |string b=>
    simp only at h;split at h
    · injection h with h;injection h with h _;subst h;exact⟨ι,hp,[.string b],.refl _ _,B,.of_flat rfl,rfl,by unfold DE;rw[hu]⟩
    · cases h
   |slice a len cap=>cases a<;>cases len<;>cases cap<;>cases h
   |_=>cases h
 · cases v with
   |slice a len cap=>cases a<;>cases len<;>cases cap<;>cases h
   |_=>cases h
end
end Go.Ev
namespace Go.Ev
open Go Go.ChangeShapes Go.WideShapes Go.ChangeAt Go.RowKit
section
variable {H:Type}{enc:TypeId×Value→H}{P:Program}{W:World}
def DEs (P:Program)(h:Hp):List TypeId→List Value→List (DataW H)→Prop
 | [],[],[]=>True
 |t::ts,v::vs,d::ds=>((∃n,DE P h n t v.cells.toList d)∧(aggT P t=some true∨v.cells.toList=[v]))∧DEs P h ts vs ds
 |_,_,_=>False
def Shaped1 (P:Program)(t:TypeId)(v:Value):Prop:=v.cells.toList=[v]∨(∃cs,v= .agg cs)∧aggT P t=some true
theorem args_build: ∀ {ts:List TypeId} {vs:List Value} {ds:List (DataW H)} {p:List MemPlace},DataW.TrodAll enc P W 0 (fun _=>true) true ts vs ds p→(∀t∈ts,∀n,Builds H enc P W n t)→(∀(i:Nat) t v,ts[i]? =some t→vs[i]? =some v→Shaped1 P t v)→ ∀ι h,Base P ι h W→
 ∃ι' h' evs,Ext1 h ι h' ι'∧Base P ι' h' W∧VRs ι' evs vs∧DEs P h' ts evs ds
 | [],[],[],_,_,_,_,ι,h,B=>⟨ι,h,[],.refl _ _,B,.nil _,trivial⟩
 |t::ts,v::vs,d::ds,_,⟨p,q,⟨n,h1⟩,h2,_⟩,hb,hs,ι,h,B=>by
  obtain⟨ι1,h3,ev,E1,B1,V1,O1,D1⟩:=hb t (List.mem_cons_self ..) n _ _ _ h1 ι h B;obtain⟨ι2,h4,evs,E2,B2,V2,D2⟩:=args_build h2 (fun t ht=>hb t (List.mem_cons_of_mem _ ht)) (fun i t v a b=>hs (i+1) t v (by simpa using a) (by simpa using b)) ι1 h3 B1;have V1':=VRs.mono1 E2 B1.rh.fresh V1;rcases hs 0 t v rfl rfl with hc|⟨⟨cs,rfl⟩,hag⟩
  · rw[hc]at V1';have hl:ev.length=1:=by have:=V1'.1;simpa using this.symm
    obtain⟨x,rfl⟩: ∃x,ev=[x]:=List.length_eq_one_iff.1 hl;have hx:x.cells.toList=[x]:=by
     have:one x=true:=by simpa using O1
     cases x<;>first|rfl|cases this
    obtain⟨y,c,e1,e2,_⟩:=V1'.head;injection e1 with e1 _;subst e1;refine⟨ι2,h4,x::evs,E1.trans E2,B2,.cons e2 V2,⟨⟨n,?_⟩,.inr hx⟩,D2⟩;rw[hx];exact D1.mono E2.nx E2.get
  · refine⟨ι2,h4,.agg ev.toArray::evs,E1.trans E2,B2,.cons ?_ V2,⟨⟨n,?_⟩,.inl hag⟩,D2⟩
    · have V1'':VRs ι2 ev.toArray.toList cs.toList:=by rw[List.toList_toArray];exact V1'
      obtain⟨a1,a2⟩:=VRs.arr.1 V1'';exact .agg a1 a2
    · show DE P h4 n t (ev.toArray).toList d;simpa using D1.mono E2.nx E2.get
theorem shaped_of {r:Reach}{base n:Nat}{t:TypeId}{v:Value}(hp:Plain P n t=true)(h:Value.okWide P W r base t v):Shaped1 P t v:=by
 cases n with
 |zero=>cases hp
 |succ n=>
  unfold Plain at hp;unfold Value.okWide at h;split at hp
  · rename_i hu;rw[hu]at h;unfold Cell.okWide Cell.ok at h;rw[hu]at h;cases v<;>first|exact .inl rfl|exact h.elim
  · rename_i hu;rw[hu]at h;unfold Cell.okWide Cell.ok at h;rw[hu]at h;cases v<;>first|exact .inl rfl|exact h.elim
  · rename_i hu;rw[hu]at h;unfold Cell.okWide Cell.ok at h;rw[hu]at h;cases v<;>first|exact .inl rfl|exact h.elim
  · rename_i hu;rw[hu]at h;unfold Cell.okWide Cell.ok at h;rw[hu]at h;cases v<;>first|exact .inl rfl|exact h.elim
  · rename_i hu;rw[hu]at h;obtain⟨cs,rfl,_⟩:=h;exact .inr ⟨⟨cs,rfl⟩,by unfold aggT;rw[hu]⟩
  · rename_i hu;rw[hu]at h;obtain⟨cs,rfl,_⟩:=h;exact .inr ⟨⟨cs,rfl⟩,by unfold aggT;rw[hu]⟩
  · cases hp
theorem DE_int {h:Hp}{n:Nat}{t:TypeId}{k:IntKind}(hu:P.underlying t=some (.int k)){cs:List Value}{d:DataW H}(hd:DE P h n t cs d): ∃x,cs=[.int k x]∧(Lit.int k x).wf=true:=by
 cases n with
 |zero=>exact hd.elim
 |succ n=>
  unfold DE at hd;rw[hu]at hd;split at hd
  all_goals first|(rename_i heq;cases heq;done)|skip
  · rename_i k' k2 x heq;injection heq with heq;injection heq with heq;subst heq;exact⟨x,hd.2⟩
  all_goals first|exact hd.elim|skip
theorem post_of_old {f:Func}{s:ChangeSpec}{apart fresh handsOn again:Bool}{W W':World}{args:Array Value}{v:Value}{ds gs:List (DataW H)}{before pa pv:List MemPlace}
 (hW:DataW.Whole enc P f.params.toList s.vars apart W args.toList ds gs before)
 (hres: ∀(b:Nat) (sp:Nat→Bool) (hd:Bool),DataW.TrodAll enc P W' b sp hd f.resultTypes.toList (v.resultList f.resultTypes.size) (s.fn H (ds++gs)).results [])
 (hargs: ∀sp:Nat→Bool,(∀p∈before,sp p.block=true)→DataW.TrodAll enc P W' 0 sp true f.params.toList args.toList (s.fn H (ds++gs)).args pa)
 (hvars: ∀sp:Nat→Bool,(∀p∈before,sp p.block=true)→DataW.TrodVars enc P W' sp s.vars (s.fn H (ds++gs)).vars pv)
 (hps:before=pa++pv) (hk:W.keptBut W' (· ∈before)) (hfz: ∀a:Addr,a.block<W.heap.size→W'.frozen? a=W.frozen? a)
 (hok: ∀(j:Nat) (t:TypeId) (r:Value),f.resultTypes[j]? =some t→(v.resultList f.resultTypes.size)[j]? =some r→Value.okWide P W' .any 0 t r):
 s.post enc P f apart fresh handsOn again W args v W':=by
 have hold: ∀p∈before,(fun b=>decide (b<W.heap.size)) p.block=true:=fun p hp=>by simpa using hW.lt p hp
 have hlt:=hW.lt;refine⟨ds,gs,before,[],pa,pv,hW,hres _ _ _,hargs _ hold,hvars _ hold,World.keptBut_mono (fun p hp=>⟨hp,?_⟩) hk,fun _=> ?_⟩
 · rw[hps,List.mem_append]at hp;exact Or.inr hp
 · obtain⟨_,_,_,_,_,hz,hn⟩:=hW;refine⟨hok,_,_,([]++pa)++pv,⟨[]++pa,pv,trodAll_append (hargs _ (fun _ _=>rfl)) (hres _ _ _),hvars _ (fun _ _=>rfl),rfl,?_,?_⟩,?_⟩
   · intro b off hp;have hp2:MemPlace.cell b off∈before:=by rw[hps];simpa using hp
     rw[hfz _ (hlt _ hp2)];exact hz b off hp2
   · intro ha;have:=hn ha;rw[hps]at this;simpa using this
   · intro p hp _;rw[hps];simpa using hp
theorem again {ts:List TypeId}{vs:List Value}{ds:List (DataW H)}{p:List MemPlace}{W':World}(K:Kids P (· <P.types.size))(full: ∀t e,t<P.types.size→P.underlying t=some (.slice e)→0<P.cellsOf e)(hts: ∀t∈ts,t<P.types.size)
 (hA:DataW.TrodAll enc P W 0 (fun _=>true) true ts vs ds p) (hb:Below W.heap.size W W') (hlt: ∀q∈p,q.block<W.heap.size) (sp:Nat→Bool) (hs: ∀q∈p,sp q.block=true):DataW.TrodAll enc P W' 0 sp true ts vs ds p:=by
 have hA':=DataW.TrodAll.respare K full hts hA hs;clear hA hs hts
 induction ts generalizing vs ds p with
 |nil=>match vs,ds,hA' with
  | [],[],h=>exact h
 |cons t ts ih=>match vs,ds,hA' with
  |v::vs,d::ds,⟨p1,p2,⟨n,h1⟩,h2,e⟩=>
   subst e;exact⟨p1,p2,⟨n,DataW.trod_carry n _ _ _ h1 fun q hq=>hb.same (hlt q (List.mem_append_left _ hq))⟩,ih (fun q hq=>hlt q (List.mem_append_right _ hq)) h2,rfl⟩
end
end Go.Ev
namespace Go.Ev
open Go Go.ChangeShapes Go.WideShapes Go.ChangeAt Go.RowKit
section
variable {H:Type}{enc:TypeId×Value→H}{P:Program}{W:World}
theorem lay_flat {n:Nat}: ∀(fs:List Field) (off:Nat),layOk P off fs n=true→ ∀(cs:List Value),cs.length=n→(fs.map fun f=>(cs.drop f.offset).take (P.cellsOf f.type)).flatten=cs.drop off:=by
 intro fs
 induction fs with
 |nil=>
  intro off h cs hc;have:off=n:=Nat.eq_of_beq_eq_true h;rw[List.drop_of_length_le (by omega)];rfl
 |cons f fs ih=>
  intro off h cs hc;simp only[layOk,Bool.and_eq_true]at h;have h1:f.offset=off:=Nat.eq_of_beq_eq_true h.1;rw[List.map_cons,List.flatten_cons,ih _ h.2 cs hc,h1,←List.drop_drop,List.take_append_drop]
theorem lay_part {n:Nat}: ∀(fs:List Field) (off:Nat),layOk P off fs n=true→ ∀(evs:List (List Value)),evs.length=fs.length→(∀(i:Nat) f ev,fs[i]? =some f→evs[i]? =some ev→ev.length=P.cellsOf f.type)→
 ∀(i:Nat) f ev,fs[i]? =some f→evs[i]? =some ev→off≤f.offset∧(evs.flatten.drop (f.offset-off)).take (P.cellsOf f.type)=ev:=by
 intro fs
 induction fs with
 |nil=>intro off _ evs _ _ i f ev hf;simp at hf
 |cons g fs ih=>
  intro off h evs hl hlen i f ev hf he;simp only[layOk,Bool.and_eq_true]at h;have h1:g.offset=off:=Nat.eq_of_beq_eq_true h.1;rcases evs with _|⟨e0,evs⟩
  · simp at hl
  have hl0:e0.length=P.cellsOf g.type:=hlen 0 g e0 rfl rfl;cases i with
  |zero=>
   simp at hf he;subst hf he;refine⟨by omega,?_⟩;rw[h1,Nat.sub_self,List.drop_zero,List.flatten_cons,←hl0,List.take_left]
  |succ i=>
   obtain⟨g1,g2⟩:=ih _ h.2 evs (by simpa using hl) (fun i f ev a b=>hlen (i+1) f ev (by simpa using a) (by simpa using b)) i f ev (by simpa using hf) (by simpa using he);refine⟨by omega,?_⟩;rw[List.flatten_cons,List.drop_append,List.drop_of_length_le (by omega),List.nil_append,show f.offset-off-e0.length=f.offset-(off+P.cellsOf g.type) by omega];exact g2
theorem lay_fit {n:Nat}: ∀(fs:List Field) (off:Nat),layOk P off fs n=true→off≤n∧ ∀f∈fs,f.offset+P.cellsOf f.type≤n:=by
 intro fs
 induction fs with
 |nil=>intro off h;exact⟨Nat.le_of_eq (Nat.eq_of_beq_eq_true h),fun f hf=>by cases hf⟩
 |cons g fs ih=>
  intro off h;simp only[layOk,Bool.and_eq_true]at h;have h1:g.offset=off:=Nat.eq_of_beq_eq_true h.1;obtain⟨a,b⟩:=ih _ h.2;refine⟨by omega,fun f hf=> ?_⟩;rcases List.mem_cons.1 hf with rfl|hf
  · omega
  · exact b f hf
theorem build_struct {n:Nat}{fs:Array Field}{t:TypeId}(he: ∀f∈fs.toList,Builds H enc P W n f.type)(hlay:layOk P 0 fs.toList (P.cellsOf t)=true)(hu:P.underlying t=some (.struct fs)):Builds H enc P W (n+1) t:=by
 intro cs d ps h ι hp B;have h:(if cs.length=P.cellsOf t then (fs.toList.mapM fun f=>DataW.trod enc P W 0 (fun _=>true) true n f.type ((cs.drop f.offset).take (P.cellsOf f.type))).map fun xs=>(DataW.agg (xs.map (·.1)),xs.flatMap (·.2))else none)=some (d,ps):=by
  unfold DataW.trod at h;rw[hu]at h;exact h
 split at h
 · rename_i hc;obtain⟨xs,h1,h2⟩:=Option.map_eq_some_iff.1 h;injection h2 with h2 _;subst h2;have l1:=Lib.mapM_length h1
   let l:List (TypeId×List Value×DataW H):=(fs.toList.zip (xs.map (·.1))).map fun p=>(p.1.type,(cs.drop p.1.offset).take (P.cellsOf p.1.type),p.2)
   have hll:l.length=fs.toList.length:=by simp[l,l1]
   have lget: ∀i (hi:i<l.length),∃f x,fs.toList[i]? =some f∧xs[i]? =some x∧l[i]=(f.type,(cs.drop f.offset).take (P.cellsOf f.type),x.1)∧DataW.trod enc P W 0 (fun _=>true) true n f.type ((cs.drop f.offset).take (P.cellsOf f.type))=some x:=by
    intro i hi;have hi1:i<fs.toList.length:=by omega
    have hi2:i<xs.length:=by omega
    obtain⟨b,e1,e2⟩:=Lib.mapM_at h1 i _ (List.getElem?_eq_getElem hi1);rw[List.getElem?_eq_getElem hi2]at e1;obtain rfl:=Option.some.inj e1;exact⟨_,_,List.getElem?_eq_getElem hi1,List.getElem?_eq_getElem hi2,by simp[l],e2⟩
   obtain⟨ι1,h3,evs,E1,B1,L1,V1,O1,D1⟩:=build_list l (fun p hpm=>by
    obtain⟨i,hi,rfl⟩:=List.getElem_of_mem hpm;obtain⟨f,x,a1,a2,a3,a4⟩:=lget i hi;rw[a3];exact⟨he f (List.mem_of_getElem? a1),_,a4⟩) ι hp B
   have hcells:l.map (·.2.1)=fs.toList.map fun f=>(cs.drop f.offset).take (P.cellsOf f.type):=by
    refine List.ext_getElem (by simp[hll]) fun i hi hi'=> ?_;have hi3:i<l.length:=by simpa using hi
    obtain⟨f,x,a1,a2,a3,a4⟩:=lget i hi3;have hi4:i<fs.toList.length:=by omega
    have hf:fs.toList[i]=f:=by rw[List.getElem?_eq_getElem hi4]at a1;exact Option.some.inj a1
    simp only[List.getElem_map];rw[a3,hf]
   rw[hcells,lay_flat fs.toList 0 hlay cs hc,List.drop_zero]at V1;refine⟨ι1,h3,evs.flatten,E1,B1,V1,O1,?_⟩;unfold DE;rw[hu];have hlen: ∀(i:Nat) f ev,fs.toList[i]? =some f→evs[i]? =some ev→ev.length=P.cellsOf f.type:=by
    intro i f ev hf hev;have hi:i<l.length:=by have:=(List.getElem?_eq_some_iff.1 hf).1;omega
    obtain⟨ev',e1,e2,_⟩:=D1 i hi;rw[hev]at e1;obtain rfl:=Option.some.inj e1;obtain⟨f',x,a1,a2,a3,a4⟩:=lget i hi;rw[hf]at a1;obtain rfl:=Option.some.inj a1;rw[←e2.1,a3];have hfit:=(lay_fit fs.toList 0 hlay).2 f (List.mem_of_getElem? hf);show((cs.drop f.offset).take (P.cellsOf f.type)).length=_;rw[List.length_take,List.length_drop];omega
   refine⟨by rw[←V1.1];exact hc,by simp[l1],fun i hi f hf=> ?_⟩;have hi2:i<l.length:=by simp at hi;omega
   obtain⟨ev,e1,e2,e3⟩:=D1 i hi2;obtain⟨f',x,a1,a2,a3,a4⟩:=lget i hi2;have hf':fs.toList[i]? =some f:=by rw[Array.getElem?_toList];exact hf
   rw[hf']at a1;obtain rfl:=Option.some.inj a1;have:=(lay_part fs.toList 0 hlay evs (by omega) hlen i f ev hf' e1).2;rw[Nat.sub_zero]at this;rw[this];rw[a3]at e3;have hx:(xs.map (·.1))[i]'(by simpa using hi)=x.1:=by
    have hi3:i<xs.length:=by simpa using hi
    rw[List.getElem?_eq_getElem hi3]at a2;obtain rfl:=Option.some.inj a2;simp
   rw[hx];exact e3
 · cases h
theorem DE_struct {h:Hp}{n:Nat}{t:TypeId}{fs:Array Field}(hu:P.underlying t=some (.struct fs)){cs:List Value}{d:DataW H}(hd:DE P h (n+1) t cs d):
 cs.length=P.cellsOf t∧ ∀(i:Nat) (f:Field),fs[i]? =some f→ ∃d':DataW H,DE P h n f.type ((cs.drop f.offset).take (P.cellsOf f.type)) d':=by
 unfold DE at hd;rw[hu]at hd;split at hd
 all_goals first|(rename_i heq;cases heq;done)|skip
 · rename_i fs' parts heq;injection heq with heq;injection heq with heq;subst heq;obtain⟨h1,h2,h3⟩:=hd;refine⟨h1,fun i f hf=> ?_⟩;have hi:i<parts.length:=by rw[h2];exact(Array.getElem?_eq_some_iff.1 hf).1
   exact⟨_,h3 i hi f hf⟩
 all_goals first|exact hd.elim|skip
theorem two_of {cs:List Value}{x y:Value}(hl:cs.length=2)(h1:(cs.drop 0).take 1=[x])(h2:(cs.drop 1).take 1=[y]):cs=[x,y]:=by
 rcases cs with _|⟨a,_|⟨b,_|⟨c,r⟩⟩⟩
 · cases hl
 · cases hl
 · simp at h1 h2;rw[h1,h2]
 · simp at hl
end
end Go.Ev
namespace Go.Ev
open Go Go.ChangeShapes Go.WideShapes Go.ChangeAt Go.RowKit
section
variable {H:Type}{enc:TypeId×Value→H}{P:Program}{W:World}
theorem row_flat {w:Nat}: ∀(m:Nat) (cs:List Value),cs.length=m*w→((List.range m).map fun i=>(cs.drop (i*w)).take w).flatten=cs:=by
 intro m
 induction m with
 |zero=>intro cs h;rw[Nat.zero_mul]at h;rw[List.length_eq_zero_iff.1 h];rfl
 |succ m ih=>
  intro cs h;have e:cs=cs.take (m*w)++cs.drop (m*w):=(List.take_append_drop ..).symm;have hm:(cs.take (m*w)).length=m*w:=by rw[List.length_take,h,Nat.add_mul];omega
  rw[List.range_succ,List.map_append,List.flatten_append];have e1:((List.range m).map fun i=>(cs.drop (i*w)).take w)=(List.range m).map fun i=>((cs.take (m*w)).drop (i*w)).take w:=by
   refine List.map_congr_left fun i hi=> ?_;have hi:=List.mem_range.1 hi;have:(i+1)*w≤m*w:=Nat.mul_le_mul_right w hi;rw[Nat.add_mul]at this;rw[List.drop_take,List.take_take,Nat.min_eq_left (by omega)]
  rw[e1,ih _ hm];simp only[List.map_cons,List.map_nil,List.flatten_cons,List.flatten_nil,List.append_nil];rw[List.take_of_length_le (l:=cs.drop (m*w)) (by rw[List.length_drop,h,Nat.add_mul];omega)];exact List.take_append_drop ..
theorem build_array {n m:Nat}{e t:TypeId}(he:Builds H enc P W n e)(hsz:P.cellsOf t=m*P.cellsOf e)(hu:P.underlying t=some (.array m e)):Builds H enc P W (n+1) t:=by
 intro cs d ps h ι hp B;have h:(if cs.length=P.cellsOf t then ((List.range m).mapM fun i=>DataW.trod enc P W 0 (fun _=>true) true n e ((cs.drop (i*P.cellsOf e)).take (P.cellsOf e))).map fun xs=>(DataW.agg (xs.map (·.1)),xs.flatMap (·.2))else none)=some (d,ps):=by
  unfold DataW.trod at h;rw[hu]at h;exact h
 split at h
 · rename_i hc;obtain⟨xs,h1,h2⟩:=Option.map_eq_some_iff.1 h;injection h2 with h2 _;subst h2;have l1:=Lib.mapM_length h1;rw[List.length_range]at l1
   let l:List (TypeId×List Value×DataW H):=(List.range m).map fun i=>(e,(cs.drop (i*P.cellsOf e)).take (P.cellsOf e),((xs.map (·.1))[i]?).getD .nil)
   have hll:l.length=m:=by simp[l]
   have lget: ∀i (hi:i<l.length),∃x,xs[i]? =some x∧l[i]=(e,(cs.drop (i*P.cellsOf e)).take (P.cellsOf e),x.1)∧DataW.trod enc P W 0 (fun _=>true) true n e ((cs.drop (i*P.cellsOf e)).take (P.cellsOf e))=some x:=by
    intro i hi;have hi1:i<m:=by omega
    have hi2:i<xs.length:=by omega
    obtain⟨b,e1,e2⟩:=Lib.mapM_at h1 i i (by simp[hi1]);rw[List.getElem?_eq_getElem hi2]at e1;obtain rfl:=Option.some.inj e1;exact⟨_,List.getElem?_eq_getElem hi2,by simp[l,hi2],e2⟩
   obtain⟨ι1,h3,evs,E1,B1,L1,V1,O1,D1⟩:=build_list l (fun p hpm=>by
    obtain⟨i,hi,rfl⟩:=List.getElem_of_mem hpm;obtain⟨x,a2,a3,a4⟩:=lget i hi;rw[a3];exact⟨he,_,a4⟩) ι hp B
   have hcells:l.map (·.2.1)=(List.range m).map fun i=>(cs.drop (i*P.cellsOf e)).take (P.cellsOf e):=by simp[l]
   rw[hcells,row_flat m cs (by rw[hc,hsz])]at V1;refine⟨ι1,h3,evs.flatten,E1,B1,V1,O1,?_⟩;unfold DE;rw[hu];have hw: ∀x∈evs,x.length=P.cellsOf e:=by
    intro x hx;obtain⟨i,hi,rfl⟩:=List.getElem_of_mem hx;obtain⟨ev,e1,e2,_⟩:=D1 i (by omega);rw[List.getElem?_eq_getElem hi]at e1;obtain rfl:=Option.some.inj e1;obtain⟨x,a2,a3,a4⟩:=lget i (by omega);rw[←e2.1,a3];have:(i+1)*P.cellsOf e≤m*P.cellsOf e:=Nat.mul_le_mul_right _ (by omega);rw[Nat.add_mul]at this;show((cs.drop (i*P.cellsOf e)).take (P.cellsOf e)).length=_;rw[List.length_take,List.length_drop,hc,hsz];omega
   refine⟨by rw[←V1.1];exact hc,by simp[l1],fun i hi=> ?_⟩;have hi2:i<l.length:=by simp at hi;omega
   obtain⟨ev,e1,e2,e3⟩:=D1 i hi2;obtain⟨x,a2,a3,a4⟩:=lget i hi2;rw[(flat_row hw).2 i ev e1];rw[a3]at e3;have hx:(xs.map (·.1))[i]'(by simpa using hi)=x.1:=by
    have hi3:i<xs.length:=by simpa using hi
    rw[List.getElem?_eq_getElem hi3]at a2;obtain rfl:=Option.some.inj a2;simp
   rw[hx];exact e3
 · cases h
def AllInt (k:IntKind)(cs:List Value):Prop:= ∀v∈cs,∃x,v= .int k x∧(Lit.int k x).wf=true
theorem AllInt.list {k:IntKind}: ∀ {cs:List Value},AllInt k cs→ ∃xs:List Int,cs=xs.map (Value.int k)∧ ∀x∈xs,(Lit.int k x).wf=true:=by
 intro cs
 induction cs with
 |nil=>intro _;exact⟨[],rfl,fun x h=>by cases h⟩
 |cons v cs ih=>
  intro h;obtain⟨x,rfl,hx⟩:=h v (List.mem_cons_self ..);obtain⟨xs,rfl,hxs⟩:=ih fun w hw=>h w (List.mem_cons_of_mem _ hw);exact⟨x::xs,rfl,fun y hy=>by
   rcases List.mem_cons.1 hy with rfl|hy
   · exact hx
   · exact hxs y hy⟩
theorem DE_allInt {h:Hp}{n:Nat}{t:TypeId}{k:IntKind}(hu:P.underlying t=some (.int k)){cs:List Value}{d:DataW H}(hd:DE P h n t cs d):AllInt k cs:=by
 obtain⟨x,rfl,hx⟩:=DE_int hu hd;intro v hv;exact⟨x,List.mem_singleton.1 hv,hx⟩
theorem DE_array {h:Hp}{n m:Nat}{t e:TypeId}(hu:P.underlying t=some (.array m e))(hsz:P.cellsOf t=m*P.cellsOf e){k:IntKind}(he: ∀n cs (d:DataW H),DE P h n e cs d→AllInt k cs){cs:List Value}{d:DataW H}(hd:DE P h n t cs d):cs.length=P.cellsOf t∧AllInt k cs:=by
 cases n with
 |zero=>exact hd.elim
 |succ n=>
  unfold DE at hd;rw[hu]at hd;split at hd
  all_goals first|(rename_i heq;cases heq;done)|skip
  · rename_i m' e' parts heq;injection heq with heq;injection heq with h1 h2;subst h1 h2;obtain⟨h1,h2,h3⟩:=hd;refine⟨h1,fun v hv=> ?_⟩;obtain⟨j,hj,rfl⟩:=List.getElem_of_mem hv;have hw:0<P.cellsOf e:=by
     rcases Nat.eq_zero_or_pos (P.cellsOf e)with h0|h0
     · rw[h1,hsz,h0]at hj;omega
     · exact h0
    have hi:j/P.cellsOf e<parts.length:=by
     rw[h2];exact Nat.div_lt_of_lt_mul (by rw[Nat.mul_comm,←hsz,←h1];exact hj)
    refine he _ _ _ (h3 _ hi) _ ?_;have hmod:=Nat.mod_lt j hw;have hdm:=Nat.div_add_mod j (P.cellsOf e);refine List.mem_iff_getElem?.2 ⟨j%P.cellsOf e,?_⟩;rw[List.getElem?_take_of_lt hmod,List.getElem?_drop,Nat.mul_comm,hdm,List.getElem?_eq_getElem hj]
  all_goals first|exact hd.elim|skip
theorem wf_rng {k:IntKind}{x:Int}(h:(Lit.int k x).wf=true):k.min≤x∧x≤k.max:=by
 have h:(decide (k.min≤x)&&decide (x≤k.max))=true:=h;simpa using h
end
end Go.Ev
namespace Go.Proofs.YtngcjpkccnfjiaaGreatDoor
open Go Go.Ev Go.ChangeShapes Go.WideShapes Go.ChangeAt Go.RowKit
theorem own:ownKnob Tryz.prog.godebug=none:=by kernel_rfl
theorem gTab : Tryz.prog.globalNamed "sward/collect.truth" = some 0 := by kernel_rfl
theorem gTabType:(Tryz.prog.globals[0]?).map (·.type)=some 117:=by kernel_rfl
theorem cellsInt:Tryz.prog.cellsOf 3=1:=by kernel_rfl
theorem cellsKind:Tryz.prog.cellsOf 37=1:=by kernel_rfl
theorem cells117:Tryz.prog.cellsOf 117=2:=by kernel_rfl
set_option maxRecDepth 100000 in
theorem kids:Kids Tryz.prog (· <Tryz.prog.types.size):=kids_rows (by kernel_rfl) (by kernel_rfl)
set_option maxRecDepth 100000 in
theorem full: ∀t e,t<Tryz.prog.types.size→Tryz.prog.underlying t=some (.slice e)→0<Tryz.prog.cellsOf e:=slices_full_of _ (by kernel_rfl)
set_option maxRecDepth 100000 in
theorem truth_of {W : World} {x : DataW Unit} (hx : x = .agg [.lit (.int .i64 1), .lit (.int .i64 4)]) (h : laidMet Tryz.prog [("sward/collect.truth", x)] W) : W.var? Tryz.prog "sward/collect.truth" = some tab.toArray := by
 obtain⟨ps,⟨g',t',cs,fuel,p,q,hg',ht',hvar,hd,_,_⟩,_⟩:=h;obtain rfl:=Option.some.inj (gTab.symm.trans hg');obtain rfl:=Option.some.inj (gTabType.symm.trans ht');rw[hvar];subst hx;obtain⟨y0,y1,n,hx,hl,h0,h1⟩:=trod_struct2 Tryz.underlying117 hd;injection hx with hx _;injection hx with hx;injection hx with e0 hx;injection hx with e1 _;have h0:DataW.trod _ Tryz.prog W _ _ _ n 3 ((cs.toList.drop 0).take (Tryz.prog.cellsOf 3))=some y0:=h0;have h1:DataW.trod _ Tryz.prog W _ _ _ n 37 ((cs.toList.drop 1).take (Tryz.prog.cellsOf 37))=some y1:=h1;rw[cellsInt]at h0;rw[cellsKind]at h1;obtain⟨z0,hc0,hy0,_⟩:=DataW.trod_int Tryz.underlying3 (x:=y0) h0;obtain⟨z1,hc1,hy1,_⟩:=DataW.trod_int Tryz.underlying37 (x:=y1) h1;rw[hy0]at e0;rw[hy1]at e1;injection e0 with e0;injection e0 with _ e0;injection e1 with e1;injection e1 with _ e1;have:=two_of (hl.trans cells117) hc0 hc1;congr 1;rw[←Array.toList_inj,this,←e0,←e1];rfl
theorem tab_cells {W : World} (h : W.var? Tryz.prog "sward/collect.truth" = some tab.toArray) : ∀ j x, tab[j]? = some x → W.cell? ⟨0, j, none⟩ = some x := by
 intro j x hj;have:=World.var?_cell gTab h j;rw[this,←hj];simp
def iota0:Inj:=fun o=>if o<2 then some ⟨o,0,0,0⟩else none
theorem start_RH {W:World}(ht: ∀j x,tab[j]? =some x→W.cell? ⟨0,j,none⟩=some x):RH Tryz.prog iota0 h0 W:=by
 have h00:=ht 0 _ rfl;have hblk: ∃c e fr,W.heap[0]? =some (.cells c e fr):=by
  cases hb:W.heap[0]? with
  |none=>simp[World.cell?,hb]at h00
  |some y=>
   cases y with
   |cells c e fr=>exact⟨c,e,fr,rfl⟩
   |_=>simp[World.cell?,hb]at h00
 obtain⟨c,e,fr,hb⟩:=hblk;refine⟨fun o x ho=> ?_,fun o q x y vo vq _ ho hx=> ?_,fun o ho=>if_neg (by have:2≤o:=ho;omega),fun g hg=> ?_,by rw[gsz];exact Nat.le_refl _⟩
 · obtain⟨rfl,rfl⟩:=h0_get o x ho;refine⟨Nat.zero_lt_two,⟨0,0,0,0⟩,rfl,tab_one,c,e,fr,hb,fun j x hx=> ?_,fun h=>absurd rfl h,fun h=>by cases h⟩;have:=ht j x hx;refine⟨x,?_,.flat (all_get tab_flat hx)⟩;simpa[World.cell?,hb] using this
 · obtain⟨rfl,rfl⟩:=h0_get o x ho;cases hx
 · rw[gsz]at hg;exact⟨0,0,if_pos hg⟩
set_option maxRecDepth 100000 in
theorem h0_tab:h0.get 0=some (.cells tab 0 .ro):=by kernel_rfl
set_option maxRecDepth 100000 in
theorem start_base {W:World}(ht: ∀j x,tab[j]? =some x→W.cell? ⟨0,j,none⟩=some x):Base Tryz.prog iota0 h0 W:=
 ⟨start_RH ht,fun o x ho=>by obtain⟨rfl,rfl⟩:=h0_get o x ho;rfl,rfl,⟨_,⟨0,0,0,0⟩,h0_tab,rfl,Nat.zero_lt_two,tab,0,rfl⟩⟩
set_option maxRecDepth 100000 in
theorem law_calls {H:Type}{enc:TypeId×Value→H}{f:FuncId}{fn:Func}(hf:Tryz.prog.funcs[f]? =some fn)(hb:fn.body.isSome=true)(h14:f≠14∧f≠54){W:World}(ht: ∀j x,tab[j]? =some x→W.cell? ⟨0,j,none⟩=some x)
 {ts:List TypeId} {args:Array Value} {ds:List (DataW H)} {p:List MemPlace} (hA:DataW.TrodAll enc Tryz.prog W 0 (fun _=>true) true ts args.toList ds p) (hbd: ∀t∈ts,∀n,Builds H enc Tryz.prog W n t) (hs: ∀(i:Nat) t v,ts[i]? =some t→args.toList[i]? =some v→Shaped1 Tryz.prog t v)
 (hR: ∀(h:Hp) (evs:List Value),Tb h→h.Ok→h.gd=[]→DEs Tryz.prog h ts evs ds→Ret Tryz.prog Ow f evs h fun v _=>v= .bool true) (hlt:f<yB:=by decide):
 Calls Tryz.prog f args W fun e W'=>e= .returned (.bool true)∧Below W.heap.size W W':=by
 obtain⟨ι,h,evs,E,B,V,D⟩:=args_build hA hbd hs iota0 h0 (start_base ht);have hg:h.gd=[]:=B.gd;have htb:Tb h:=⟨Nat.lt_of_lt_of_le (by decide:1<2) E.nx,by rw[E.get 0 Nat.zero_lt_two];exact h0_tab⟩;have hfr:h.Fresh:=fun o ho=>by
  cases ho2:h.get o with
  |none=>rfl
  |some x=>have:=(B.rh.live o x ho2).1;omega
 obtain⟨v,h',he,rfl⟩:=hR h evs htb ⟨fun q hq=>(by rw[hg]at hq;cases hq),hfr⟩ hg D;have:=calls_of_EvC mixed noNum Ow_ok hlt hf hb (Ow_oth f evs h h14) he B.rh V;have e:args.toList.toArray=args:=by simp
 rw[e]at this;refine this.mono fun e W' ⟨ι',v',h1,h2,h3⟩=> ?_;obtain rfl:=VR.of_flat rfl h3;exact⟨h1,h2.fr.os,h2.fr.tape,h2.fr.output,h2.fr.size,fun k hk=>h2.fr.rest k hk fun o x _ ho hx=>by rw[B.ro o x ho]at hx;cases hx⟩
noncomputable def laidWorld (os:Os):World:=
 { World.holding Tryz.prog os ⟨#[],#[],[]⟩with heap:=(World.holding Tryz.prog os ⟨#[],#[],[]⟩).heap.modify 0 fun
  | .cells _ t frozen=> .cells tab.toArray t frozen
  |o=>o }
section
variable {H:Type}{enc:TypeId×Value→H}{W:World}
theorem build0 (t:TypeId):Builds H enc Tryz.prog W 0 t:=fun cs d ps h=>by simp[DataW.trod]at h
theorem bld3: ∀n,Builds H enc Tryz.prog W n 3
 |0=>build0 3
 |_+1=>build_int Tryz.underlying3
end
end Go.Proofs.YtngcjpkccnfjiaaGreatDoor
namespace Go.Proofs.YtngcjpkccnfjiaaGreatDoor
set_option maxRecDepth 100000
open Go Go.Ev Go.ChangeShapes Go.WideShapes Go.ChangeAt Go.RowKit
theorem und5:Tryz.prog.underlying 5=some (.int .u8):=by kernel_rfl
theorem und58:Tryz.prog.underlying 58=some (.array 9 5):=by kernel_rfl
theorem und60:Tryz.prog.underlying 60=some (.array 9 59):=by kernel_rfl
theorem sz58:Tryz.prog.cellsOf 58=9*Tryz.prog.cellsOf 5:=by kernel_rfl
theorem sz59:Tryz.prog.cellsOf 59=4*Tryz.prog.cellsOf 5:=by kernel_rfl
theorem sz60:Tryz.prog.cellsOf 60=9*Tryz.prog.cellsOf 59:=by kernel_rfl
theorem n5:Tryz.prog.cellsOf 5=1:=by kernel_rfl
theorem n58:Tryz.prog.cellsOf 58=9:=by kernel_rfl
theorem n59:Tryz.prog.cellsOf 59=4:=by kernel_rfl
theorem n60:Tryz.prog.cellsOf 60=36:=by kernel_rfl
theorem n62:Tryz.prog.cellsOf 62=51:=by kernel_rfl
section
variable {H:Type}{enc:TypeId×Value→H}{W:World}
theorem bld5: ∀n,Builds H enc Tryz.prog W n 5
 |0=>build0 5
 |_+1=>build_int und5
theorem bld58: ∀n,Builds H enc Tryz.prog W n 58
 |0=>build0 58
 |n+1=>build_array (bld5 n) sz58 und58
theorem bld59: ∀n,Builds H enc Tryz.prog W n 59
 |0=>build0 59
 |n+1=>build_array (bld5 n) sz59 Tryz.underlying59
theorem bld60: ∀n,Builds H enc Tryz.prog W n 60
 |0=>build0 60
 |n+1=>build_array (bld59 n) sz60 und60
set_option maxRecDepth 100000 in
theorem bld62: ∀n,Builds H enc Tryz.prog W n 62
 |0=>build0 62
 |n+1=>build_struct (fun f hf=>by
   simp at hf;rcases hf with rfl|rfl|rfl|rfl|rfl
   · exact bld5 n
   · exact bld5 n
   · exact bld58 n
   · exact bld60 n
   · exact bld59 n) (by kernel_rfl) Tryz.underlying62
theorem agg_of_list {v:Value}{l:List Value}(h:v.cells.toList=l)(hl:l.length≠1):v= .agg l.toArray:=by
 cases v with
 |agg cs=>
  have h:cs.toList=l:=h;obtain⟨k⟩:=cs;have h:k=l:=h;rw[h]
 |_=>exact absurd (by rw[←h];rfl) hl
theorem int5 {h:Hp}: ∀n cs (d:DataW H),DE Tryz.prog h n 5 cs d→AllInt .u8 cs:=fun _ _ _ D=>DE_allInt und5 D
theorem int59 {h:Hp}: ∀n cs (d:DataW H),DE Tryz.prog h n 59 cs d→AllInt .u8 cs:=fun _ _ _ D=>(DE_array Tryz.underlying59 sz59 int5 D).2
theorem int58 {h:Hp}: ∀n cs (d:DataW H),DE Tryz.prog h n 58 cs d→AllInt .u8 cs:=fun _ _ _ D=>(DE_array und58 sz58 int5 D).2
theorem int60 {h:Hp}: ∀n cs (d:DataW H),DE Tryz.prog h n 60 cs d→AllInt .u8 cs:=fun _ _ _ D=>(DE_array und60 sz60 int59 D).2
theorem bytes_list {cs:List Value}(h:AllInt .u8 cs): ∃xs:List Nat,cs=bv xs∧ ∀x∈xs,x<256:=by
 obtain⟨zs,e,hz⟩:=h.list;have hb: ∀z∈zs,0≤z∧z<256:=fun z hz'=>by
  have:=wf_rng (hz z hz');have m1:IntKind.min .u8=0:=rfl;have m2:IntKind.max .u8=255:=rfl;omega
 refine⟨zs.map Int.toNat,?_,fun x hx=> ?_⟩
 · rw[e];unfold bv;rw[List.map_map];refine List.map_congr_left fun z hz'=> ?_;have:=hb z hz';show Value.int .u8 z= .int .u8 (Int.ofNat z.toNat);rw[Int.ofNat_eq_natCast,Int.toNat_of_nonneg this.1]
 · obtain⟨z,hz',rfl⟩:=List.mem_map.1 hx;have:=hb z hz';omega
set_option maxRecDepth 100000 in
theorem pile_of {h:Hp}{n:Nat}{v:Value}{d:DataW H}(D:DE Tryz.prog h n 62 v.cells.toList d): ∃v0 xs,v= .agg v0∧Bytes v0 xs:=by
 cases n with
 |zero=>exact D.elim
 |succ n=>
  obtain⟨hl,hf⟩:=DE_struct Tryz.underlying62 D;rw[n62]at hl;obtain⟨d0,D0⟩:=hf 0 _ rfl;obtain⟨d1,D1⟩:=hf 1 _ rfl;obtain⟨d2,D2⟩:=hf 2 _ rfl;obtain⟨d3,D3⟩:=hf 3 _ rfl;obtain⟨d4,D4⟩:=hf 4 _ rfl;have a0:AllInt .u8 ((v.cells.toList.drop 0).take (Tryz.prog.cellsOf 5)):=int5 _ _ _ D0;have a1:AllInt .u8 ((v.cells.toList.drop 1).take (Tryz.prog.cellsOf 5)):=int5 _ _ _ D1;have a2:AllInt .u8 ((v.cells.toList.drop 2).take (Tryz.prog.cellsOf 58)):=int58 _ _ _ D2;have a3:AllInt .u8 ((v.cells.toList.drop 11).take (Tryz.prog.cellsOf 60)):=int60 _ _ _ D3;have a4:AllInt .u8 ((v.cells.toList.drop 47).take (Tryz.prog.cellsOf 59)):=int59 _ _ _ D4;rw[n5]at a0 a1;rw[n58]at a2;rw[n60]at a3;rw[n59]at a4;have e:v.cells.toList=(v.cells.toList.drop 0).take 1++((v.cells.toList.drop 1).take 1++((v.cells.toList.drop 2).take 9++((v.cells.toList.drop 11).take 36++(v.cells.toList.drop 47).take 4))):=by
   generalize v.cells.toList=cs at hl;have s: ∀(a b:Nat),cs.drop a=(cs.drop a).take b++cs.drop (a+b):=fun a b=>by rw[←List.drop_drop,List.take_append_drop]
   conv=>lhs;rw[←List.drop_zero (l:=cs),s 0 1,s (0+1) 1,s (0+1+1) 9,s (0+1+1+9) 36,s (0+1+1+9+36) 4,List.drop_of_length_le (i:=0+1+1+9+36+4) (by omega),List.append_nil]
  have all:AllInt .u8 v.cells.toList:=fun w hw=>by
   rw[e]at hw;rcases List.mem_append.1 hw with hw|hw
   · exact a0 w hw
   rcases List.mem_append.1 hw with hw|hw
   · exact a1 w hw
   rcases List.mem_append.1 hw with hw|hw
   · exact a2 w hw
   rcases List.mem_append.1 hw with hw|hw
   · exact a3 w hw
   · exact a4 w hw
  obtain⟨xs,ex,hx⟩:=bytes_list all;have lx:xs.length=51:=by
   have:=congrArg List.length ex;rw[hl,List.length_map]at this;exact this.symm
  exact⟨(bv xs).toArray,xs,agg_of_list ex (by rw[List.length_map];omega),rfl,lx,hx⟩
end
end Go.Proofs.YtngcjpkccnfjiaaGreatDoor
namespace Go.Proofs.YtngcjpkccnfjiaaGreatDoor
set_option maxRecDepth 100000
open Go Go.Ev Go.ChangeShapes Go.WideShapes Go.ChangeAt Go.RowKit
theorem und9:Tryz.prog.underlying 9=some .string:=by kernel_rfl
theorem und43:Tryz.prog.underlying 43=some (.int .i64):=by kernel_rfl
theorem und44:Tryz.prog.underlying 44=some (.slice 46):=by kernel_rfl
theorem n43:Tryz.prog.cellsOf 43=1:=by kernel_rfl
theorem n9:Tryz.prog.cellsOf 9=1:=by kernel_rfl
theorem n44:Tryz.prog.cellsOf 44=1:=by kernel_rfl
theorem n46:Tryz.prog.cellsOf 46=4:=by kernel_rfl
theorem gather {h:Hp}{cells:List Value}: ∀ {q:Nat},(∀i,i<q→ ∃v,VA h v ((cells.drop (i*4)).take 4))→ ∃ps:List Vl,ps.length=q∧ ∀i (hi:i<ps.length),VA h ps[i] ((cells.drop (i*4)).take 4):=by
 intro q
 induction q with
 |zero=>exact fun _=>⟨[],rfl,fun i hi=>absurd hi (Nat.not_lt_zero _)⟩
 |succ q ihq=>
  intro hv;obtain⟨ps,e1,e2⟩:=ihq (fun i hi=>hv i (by omega));obtain⟨v,hvv⟩:=hv q (by omega);refine⟨ps++[v],by rw[List.length_append,e1];rfl,fun i hi=> ?_⟩;rcases Nat.lt_or_ge i ps.length with h3|h3
  · rw[List.getElem_append_left h3];exact e2 i h3
  · rw[List.length_append,List.length_singleton]at hi;obtain rfl:i=ps.length:=by omega
    have h5:(ps++[v])[ps.length]=v:=by simp
    rw[h5];subst e1;exact hvv
theorem VA.len' {h:Hp}{v:Vl}{vs:List Value}(H:VA h v vs):vs.length=4:=by cases H<;>rfl
section
variable {H:Type}{enc:TypeId×Value→H}{W:World}
theorem bld9: ∀n,Builds H enc Tryz.prog W n 9
 |0=>build0 9
 |_+1=>build_string und9
theorem bld43: ∀n,Builds H enc Tryz.prog W n 43
 |0=>build0 43
 |_+1=>build_int und43
theorem bld46: ∀n,Builds H enc Tryz.prog W n 46
 |0=>build0 46
 |n+1=>build_struct (fun f hf=>by
   simp at hf;rcases hf with rfl|rfl|rfl|rfl
   · exact bld43 n
   · exact bld3 n
   · exact bld9 n
   · show Builds H enc Tryz.prog W n 44;cases n with
     |zero=>exact build0 44
     |succ m=>exact build_slice (bld46 m) (by rw[n46];decide) und44) (by kernel_rfl) Tryz.underlying46
theorem DE_string {h:Hp}{n:Nat}{t:TypeId}(hu:Tryz.prog.underlying t=some .string){cs:List Value}{d:DataW H}(hd:DE Tryz.prog h n t cs d): ∃s:ByteArray,cs=[.string s]:=by
 cases n with
 |zero=>exact hd.elim
 |succ n=>
  unfold DE at hd;rw[hu]at hd;split at hd
  all_goals first|(rename_i heq;cases heq;done)|exact⟨_,hd⟩|exact hd.elim
theorem DE_parts {h:Hp}{n:Nat}{cs:List Value}{d:DataW H}(hd:DE Tryz.prog h (n+1) 44 cs d):(cs=[.slice none 0 0])∨ ∃(b m c:Nat) (cells:List Value) (e:TypeId),cs=[.slice (some ⟨b,0,none⟩) m c]∧b<h.nx∧h.get b=some (.cells cells e .ro)∧m*4≤cells.length∧ ∀i,i<m→ ∃d':DataW H,DE Tryz.prog h n 46 ((cells.drop (i*4)).take 4) d':=by
 unfold DE at hd;rw[und44]at hd;split at hd
 all_goals first|(rename_i heq;cases heq;done)|skip
 · exact .inl hd
 · rename_i e2 elems sp heq;injection heq with heq;injection heq with heq;subst heq;obtain⟨k,cap,c,e',h1,h2,h3,h4,h5,h6,h7⟩:=hd;rw[n46]at h6;refine .inr ⟨k,elems.length,cap,c,e',h1,h4,h5,h6,fun i hi=>⟨elems[i],?_⟩⟩;have:=h7 i hi;rw[n46]at this;exact this
 all_goals first|exact hd.elim|skip
theorem value_of {h:Hp}: ∀(n:Nat) {cs:List Value} {d:DataW H},DE Tryz.prog h n 46 cs d→ ∃v,VA h v cs:=by
 intro n
 induction n using Nat.strongRecOn with
 |_ n ih=>
  intro cs d D
  match n,ih,D with
  |0,_,D=>exact D.elim
  |n+1,ih,D=>
   obtain⟨h1,h2⟩:=DE_struct Tryz.underlying46 D;obtain⟨d1,D1⟩:=h2 0 _ rfl;obtain⟨d2,D2⟩:=h2 1 _ rfl;obtain⟨d3,D3⟩:=h2 2 _ rfl;obtain⟨d4,D4⟩:=h2 3 _ rfl;have D1:DE Tryz.prog h n 43 ((cs.drop 0).take (Tryz.prog.cellsOf 43)) d1:=D1;have D2:DE Tryz.prog h n 3 ((cs.drop 1).take (Tryz.prog.cellsOf 3)) d2:=D2;have D3:DE Tryz.prog h n 9 ((cs.drop 2).take (Tryz.prog.cellsOf 9)) d3:=D3;have D4:DE Tryz.prog h n 44 ((cs.drop 3).take (Tryz.prog.cellsOf 44)) d4:=D4;rw[n43]at D1;rw[cellsInt]at D2;rw[n9]at D3;rw[n44]at D4;rw[n46]at h1;obtain⟨k,z1,_⟩:=DE_int und43 D1;obtain⟨m,z2,_⟩:=DE_int Tryz.underlying3 D2;obtain⟨s,z3⟩:=DE_string und9 D3;rcases cs with _|⟨c1,_|⟨c2,_|⟨c3,_|⟨c4,_|⟨c5,r⟩⟩⟩⟩⟩
   · cases h1
   · cases h1
   · cases h1
   · cases h1
   · simp at z1 z2 z3;subst z1 z2 z3;cases n with
     |zero=>exact D4.elim
     |succ n=>
      have D4:DE Tryz.prog h (n+1) 44 [c4] d4:=D4;rcases DE_parts D4 with z4|⟨b,m',c,cells,e,z4,hb,hg,hl,hp⟩
      · injection z4 with z4 _;subst z4;exact⟨.mk k m s [],.nil k m s 0⟩
      · injection z4 with z4 _;subst z4;have hv: ∀i,i<m'→ ∃v,VA h v ((cells.drop (i*4)).take 4):=fun i hi=>by
         obtain⟨d',D'⟩:=hp i hi;exact ih n (by omega) D'
        have hps:=gather hv;obtain⟨ps,e1,e2⟩:=hps;subst e1;refine⟨.mk k m s ps,.at_ k m s ps b 0 c cells e .ro hb hg (by omega) fun i hi=> ?_⟩;rw[Nat.zero_add];exact e2 i hi
   · simp at h1
theorem agg_of_VA {h:Hp}{n:Nat}{v:Value}{d:DataW H}(D:DE Tryz.prog h n 46 v.cells.toList d): ∃(x:Vl) (vs:List Value),v= .agg vs.toArray∧VA h x vs:=by
 obtain⟨x,hx⟩:=value_of n D;refine⟨x,v.cells.toList,?_,hx⟩;have hl:v.cells.toList.length=4:=VA.len' hx;cases v with
 |agg cs=>rfl
 |_=>simp[Value.cells]at hl
end
end Go.Proofs.YtngcjpkccnfjiaaGreatDoor
