/- The evaluator's steps that change memory are the model's: one operation. -/
import Derived.Test.YtngcjpkccnfjiaaGreatDoorYA
import Derived.OrdersIn
import Derived.TacticsIn
import Derived.RangeFuncLeaves
import Derived.Scope
import Derived.RangeFuncRecord
import Derived.RangeFuncIn
import Derived.Orders
namespace Go.Ev
open Go
def rdF (r:Option Nat):Fence:= { Fence.wide with round:=r }
theorem wpIn_of {r:Option Nat}{P:Program}{o:Oper}{a:Act}{w:World}{next:Act→World→Prop}{Q:Exit→Act→World→Prop}(hnd: ∀c,o.op≠ .defer c)(h:o.uponIn (rdF r) 0 P a next Q ((execOp a.eval o).run P w)):o.wpIn (rdF r) 0 P a w next Q:=
 ⟨fun _ _=>trivial,by rw[Oper.semAt_eq _ _ _ hnd];exact h⟩
def COk (P:Program)(cf:CallF):Prop:= ∀f args h v h',cf f args h=some (v,h')→ ∀ι w args',RH P ι h w→VRs ι args args'→
 ∀(r:Option Nat) (o:Oper) (a:Act) (next:Act→World→Prop) (Q:Exit→Act→World→Prop),(∀ι' v' w',Went P h ι w h' ι' w'→VR ι' v v'→next (a.put o.dst v') w')→
  (f<yB→o.uponIn (rdF r) 0 P a next Q ((callFunc f args'.toArray).run P w))∧ ∀l,f=yB+l→ ∀vw,ι l=some vw→o.uponIn (rdF r) 0 P a next Q ((Instr.yield vw.blk args'.toArray).run P w)
section
variable {P:Program}{ι:Inj}{h h':Hp}{w:World}(R:RH P ι h w)
include R
theorem storeV_sound {ty:TypeId}{av av' v v':Value}(ha:VR ι av av')(hv:VR ι v v')(hs:storeV P h ty av v=some h'):
 ∃w',(Instr.storeAt ty av' v').run P w= .ok () w'∧Went P h ι w h' ι w':=by
 unfold storeV at hs;obtain⟨n,hn,hs1⟩:=Option.bind_eq_some_iff.1 hs;clear hs;split at hs1
 · rename_i b off;obtain⟨hl,hw⟩:=cond_some hs1;have hl:=Nat.eq_of_beq_eq_true hl;cases ha with
   |flat hf=>exact Bool.noConfusion (show false=true from hf)
   |ptr hb=>
    obtain⟨s1,s2⟩:=storeCells_sound R hw hb hv.cells;refine⟨_,?_,s2⟩;have hsz:v'.cells.size=n:=by rw[←hl,←hv.cells.1];simp
    simp[Instr.storeAt,Instr.sureAddr,storeVar,run_size hn,hsz,s1]
 · cases hs1
theorem nextV_sound {v v' r:Value}(hv:VR ι v v')(hs:nextV h v=some (r,h'))(ty:TypeId):Does P ι h w (Instr.next v' true ty) r h':=by
 unfold nextV at hs;split at hs
 · rename_i b;split at hs
   · rename_i s pos hg;obtain⟨_,vw,hvw,h0,hb⟩:=R.live b _ hg;cases hv with
     |flat hf=>exact Bool.noConfusion (show false=true from hf)
     |ptr hw1=>
      rw[hvw]at hw1;obtain rfl:=Option.some.inj hw1;rw[h0];have hgo:(getObj vw.blk).run P w= .ok (.stringIter s pos) w:=by simp[getObj,Sem.run,hb]
      cases hp:Nat.blt pos s.size with
      |true=>
       have hlt:pos<s.size:=by simpa using hp
       rw[hp,cond_true]at hs;obtain⟨h1,hput,hh⟩:=Option.map_eq_some_iff.1 hs;injection hh with hh1 hh2;subst hh1 hh2;obtain⟨p1,p2,p3,p4⟩:=Hp.get_put hput;have hheap: ∀q,({ w with heap:=w.heap.setIfInBounds vw.blk (.stringIter s (pos+(Utf8.decode s pos).2)) }:World).heap[q]? =if q=vw.blk then some (.stringIter s (pos+(Utf8.decode s pos).2))else w.heap[q]? :=fun q=>by
        have:=(Array.getElem?_eq_some_iff.1 hb).1;show(w.heap.setIfInBounds vw.blk _)[q]? =_;rw[Array.getElem?_setIfInBounds];by_cases hq:vw.blk=q
        · subst hq;simp[this]
        · rw[if_neg hq,if_neg (Ne.symm hq)]
       have hget: ∀q y,h1.get q=some y→(q=b∧y= .siter s (pos+(Utf8.decode s pos).2))∨(q≠b∧h.get q=some y):=fun q y hq=>by
        rw[p4]at hq;split at hq
        · split at hq
          · exact .inl ⟨‹_›,(Option.some.inj hq).symm⟩
          · cases hq
        · exact .inr ⟨‹_›,hq⟩
       have old: ∀q y,h1.get q=some y→ ∃z,h.get q=some z∧z.wr=y.wr:=fun q y hq=>by
        rcases hget q y hq with ⟨rfl,rfl⟩|⟨_,hq⟩
        · exact⟨_,hg,rfl⟩
        · exact⟨y,hq,rfl⟩
       refine⟨ι,_,{ w with heap:=w.heap.setIfInBounds vw.blk (.stringIter s (pos+(Utf8.decode s pos).2)) },?_,⟨.refl _ _,⟨fun q y hq=> ?_,fun q r y z vq vr hne hq hy hr hvq hvr=> ?_,fun q hq=>R.fresh q (by rw[←p1];exact hq),R.glob,by rw[p1];exact R.gsize⟩,⟨rfl,rfl,rfl,by simp,fun k hk hall=> ?_⟩,by rw[p1];exact Nat.le_refl _,p2,fun q x hx hq=> ?_,fun q y _ hy=> ?_,fun q y u hq hu=> ?_⟩,.flat rfl⟩
       · have hso:(setObj vw.blk (.stringIter s (pos+(Utf8.decode s pos).2))).run P w= .ok () { w with heap:=w.heap.setIfInBounds vw.blk (.stringIter s (pos+(Utf8.decode s pos).2)) }:=by simp[setObj,Sem.run,hb]
         simp only[Instr.next,Nat.zero_add,Sem.run_bind,hgo,Result.andThen_ok,if_pos hlt,hso,Sem.run_pure]
       · rcases hget q y hq with ⟨rfl,rfl⟩|⟨hqb,hq⟩
         · exact⟨by rw[p1];exact(R.live q _ hg).1,vw,hvw,h0,by rw[hheap,if_pos rfl]⟩
         · obtain⟨hl,u,hu,hor⟩:=R.live q y hq;exact⟨by rw[p1];exact hl,u,hu,hor.of_block (fun _ _ h=>h) (by rw[hheap,if_neg (Ne.symm (R.apart b q _ y vw u (Ne.symm hqb) hg rfl hq hvw hu))])⟩
       · obtain⟨y0,hy0,hw0⟩:=old q y hq;obtain⟨z0,hz0,_⟩:=old r z hr;exact R.apart q r y0 z0 vq vr hne hy0 (hw0.trans hy) hz0 hvq hvr
       · rw[hheap,if_neg (Ne.symm (hall b _ vw hg rfl hvw))]
       · rw[p4,if_neg]
         · exact hx
         rintro rfl;rw[p3]at hq;cases hq
       · obtain⟨y0,hy0,_⟩:=old q y hy;exact⟨y0,hy0⟩
       · obtain⟨y0,hy0,hw0⟩:=old q y hq;exact .inl ⟨q,y0,u,hy0,hw0,hu,rfl⟩
      |false=>
       have hlt: ¬pos<s.size:=by
        intro hh;have:Nat.blt pos s.size=true:=by simpa using hh
        rw[hp]at this;cases this
       rw[hp,cond_false]at hs;injection hs with hh;injection hh with hh1 hh2;subst hh1 hh2;refine⟨ι,_,w,?_,.refl R,.flat rfl⟩;simp only[Instr.next,Nat.zero_add,Sem.run_bind,hgo,Result.andThen_ok,if_neg hlt,Sem.run_pure]
   · cases hs
 · cases hs
theorem upon_does {r:Option Nat}{o:Oper}{a:Act}{next:Act→World→Prop}{Q:Exit→Act→World→Prop}{s:Sem Value}{v:Value}(hd:Does P ι h w s v h')(hn: ∀ι' v' w',Went P h ι w h' ι' w'→VR ι' v v'→next (a.put o.dst v') w'):
 o.uponIn (rdF r) 0 P a next Q ((do pure (Next.value (←s)):Sem Next).run P w):=by
 have _:=R;obtain⟨ι',v',w',h1,h2,h3⟩:=hd;rw[run_value h1];exact hn ι' v' w' h2 h3
omit R in
theorem run_callMethod {t:TypeId}{name:String}{f:FuncId}(h:invF P t name=some f)(v:Value)(args:Array Value)(w:World):(callMethod (.iface t v) name args).run P w=(callFunc f (#[v]++args)).run P w:=by
 unfold invF at h;obtain⟨info,hi,h⟩:=Option.bind_eq_some_iff.1 h;obtain⟨m,hm,h⟩:=Option.bind_eq_some_iff.1 h;obtain⟨hp,h⟩:=cond_some h;have hp:m.path.toList=[]:=by simpa using hp
 have run: ∀n,(method (n+1) t v name).run P w= .ok (f,v) w:=fun n=>by
  unfold method;rw[Sem.run_bind,run_info hi w,Result.andThen_ok];simp only[hm];rw[Sem.run_bind,hp];simp only[follow,Sem.run_pure,Result.andThen_ok];split at h
  · rename_i g pr hg;rw[hg];simp only;rw[Sem.run_bind];have fin: ∀wr,(receiverAt t (.val v) pr wr).run P w= .ok v w∧g=f:=fun wr=>by
     unfold receiverAt;split at h
     · rename_i e hu;obtain rfl:=Option.some.inj h;rw[Sem.run_bind,run_underlying hu w,Result.andThen_ok];exact⟨rfl,rfl⟩
     · cases h
     · rename_i d hnp hu;obtain rfl:=Option.some.inj h;rw[Sem.run_bind,run_underlying hu w,Result.andThen_ok];refine⟨?_,rfl⟩;cases d<;>first|rfl|exact absurd rfl (hnp _)
     · cases h
    rw[(fin _).1,Result.andThen_ok,(fin none).2];rfl
  · cases h
 unfold callMethod;simp only;rw[Sem.run_bind];show Sem.run P (method ((P.types.size+99)+1) t v name >>= fun x=>callFunc x.1 (#[x.2]++args)) w=_;rw[Sem.run_bind,run,Result.andThen_ok]
omit R in
theorem string_bytes (s:ByteArray)(cap:Nat): ∀(j:Nat) (x:Value),(s.data.toList.map fun b=>Value.int .u8 (Int.ofNat b.toNat))[j]? =some x→(bytesRow s cap)[j]? =some x:=by
 intro j x hx;rw[List.getElem?_map]at hx;obtain⟨b,hb,rfl⟩:=Option.map_eq_some_iff.1 hx;rw[Array.getElem?_toList]at hb;have hj:=(Array.getElem?_eq_some_iff.1 hb).1;unfold bytesRow;rw[Array.getElem?_append,if_pos (by simpa using hj),Array.getElem?_map,hb];rfl
theorem stepEff_sound {r:Option Nat}{t:Fr}{n:Nat}{a:Act}(hr:RT ι t n a){cf:CallF}(hc:COk P cf){o:Oper}{v:Value}(hs:stepEff P cf t o h=some (v,h')){next:Act→World→Prop}{Q:Exit→Act→World→Prop}
 (hn: ∀ι' v' w',Went P h ι w h' ι' w'→VR ι' v v'→next (a.put o.dst v') w'):o.wpIn (rdF r) 0 P a w next Q:=by
 obtain⟨dst,op,ty,pos,af,gu⟩:=o;cases op with
 |store t' x y=>
  refine wpIn_of (fun c h=>by cases h) ?_;simp only[stepEff]at hs;obtain⟨av,hav,hs1⟩:=Option.bind_eq_some_iff.1 hs;obtain⟨xv,hxv,hs2⟩:=Option.bind_eq_some_iff.1 hs1;obtain⟨h1,hst,hs3⟩:=Option.bind_eq_some_iff.1 hs2;injection hs3 with hh;injection hh with hh1 hh2;subst hh1 hh2;obtain⟨w',g1,g2⟩:=storeV_sound R (opv_sound R.glob hr hav) (opv_sound R.glob hr hxv) hst;simp only[execOp];rw[run_skip g1];exact hn ι undef w' g2 (.flat rfl)
 |range t' x=>
  refine wpIn_of (fun c h=>by cases h) ?_;simp only[stepEff]at hs;obtain⟨xv,hxv,hs1⟩:=Option.bind_eq_some_iff.1 hs;clear hs;split at hs1
  · rename_i s hu;injection hs1 with hh;injection hh with hh1 hh2;subst hh1 hh2;have hx:=(opv_sound R.glob hr hxv).string_iff;simp only[execOp];refine upon_does R ⟨ι.set h.nx ⟨w.heap.size,0,0,0⟩,_,_,?_,Went.add R (x:= .siter s 0) (b:= .stringIter s 0) rfl ⟨rfl,by rw[alloc_get];exact if_pos rfl⟩,.ptr (off:=0) (Inj.set_same ..)⟩ hn;simp[Instr.range,hx,run_underlying hu]
  · cases hs1
 |next x is=>
  refine wpIn_of (fun c h=>by cases h) ?_;simp only[stepEff]at hs;obtain⟨xv,hxv,hs1⟩:=Option.bind_eq_some_iff.1 hs;obtain⟨h1,h2⟩:=cond_some hs1;subst h1;simp only[execOp];exact upon_does R (nextV_sound R (opv_sound R.glob hr hxv) h2 ty) hn
 |convert src d x=>
  refine wpIn_of (fun c h=>by cases h) ?_;simp only[stepEff]at hs;obtain⟨xv,hxv,hs1⟩:=Option.bind_eq_some_iff.1 hs;obtain⟨e,hb,hs2⟩:=Option.bind_eq_some_iff.1 hs1;clear hs hs1;obtain⟨b1,b2⟩:=bytesT_some hb;split at hs2
  · rename_i s hu;injection hs2 with hh;injection hh with hh1 hh2;subst hh1 hh2;have hx:=(opv_sound R.glob hr hxv).string_iff;have hge:=grownCap_ge w s.size 0 e;have G1:=Went.drew R;have ho:OR P (ι.set h.nx ⟨w.drew.heap.size,0,grownCap w s.size 0 e,1⟩) ⟨w.drew.heap.size,0,grownCap w s.size 0 e,1⟩ (.cells (s.data.toList.map fun b=> .int .u8 (Int.ofNat b.toNat)) e .ro) (w.drew.alloc (.cells (bytesRow s (grownCap w s.size 0 e)) e ((bytesRow s (grownCap w s.size 0 e)).size,(bytesRow s (grownCap w s.size 0 e)).size+1))):=by
     refine⟨List.all_eq_true.2 fun v hv=> ?_,_,e,_,by rw[alloc_get,if_pos rfl],fun j x hx=>⟨x,?_,?_⟩,fun hm=>absurd rfl hm,fun hm=>by cases hm⟩
     · obtain⟨b,_,rfl⟩:=List.mem_map.1 hv;rfl
     · rw[Nat.zero_add];exact string_bytes s _ j x hx
     · rw[List.getElem?_map]at hx;obtain⟨b,_,rfl⟩:=Option.map_eq_some_iff.1 hx;exact .flat rfl
    have G2:=Went.add G1.rh (x:= .cells (s.data.toList.map fun b=> .int .u8 (Int.ofNat b.toNat)) e .ro) (v:=⟨w.drew.heap.size,0,grownCap w s.size 0 e,1⟩) rfl ho;have D:Does P ι h w (convert src d (a.eval x)) (.slice (some ⟨h.nx,0,none⟩) s.size unk) (h.add (.cells (s.data.toList.map fun b=> .int .u8 (Int.ofNat b.toNat)) e .ro)):=by
     refine⟨_,.slice (some ⟨w.heap.size,0,none⟩) s.size (grownCap w s.size 0 e),_,?_,G1.trans G2,?_⟩
     · rw[hx];exact run_bytes_of_string w src d e s hu b1 b2
     · have:=VR.slu (ι:=ι.set h.nx ⟨w.drew.heap.size,0,grownCap w s.size 0 e,1⟩) (o:=h.nx) (off:=0) (len:=s.size) (c:=grownCap w s.size 0 e) (Inj.set_same ..) (by simp) hge;exact this
    simp only[execOp];exact upon_does R D hn
  · cases hs2
 |call c=>
  refine wpIn_of (fun c h=>by cases h) ?_;obtain⟨callee,args,argTypes⟩:=c;cases callee with
  |invoke x nm=>
   simp only[stepEff]at hs;obtain⟨xv,hx,hs1⟩:=Option.bind_eq_some_iff.1 hs;obtain⟨az,has,hs2⟩:=Option.bind_eq_some_iff.1 hs1;clear hs hs1;split at hs2
   · rename_i t' x';obtain⟨f,hf,hs3⟩:=Option.bind_eq_some_iff.1 hs2;obtain⟨hlt,hs4⟩:=cond_some hs3;have hlt:f<yB:=by simpa using hlt
     obtain⟨x2,he,hxv⟩:=(opv_sound R.glob hr hx).iface_iff;have h3:=opvs_sound R.glob hr has;have hargs:VRs ι (x'::az) (x2::args.toList.map a.eval):= .cons hxv h3;have:=(hc _ _ _ _ _ hs4 ι w _ R hargs r ⟨dst,.call ⟨.invoke x nm,args,argTypes⟩,ty,pos,af,gu⟩ a next Q hn).1 hlt;have he2:(execOp a.eval ⟨dst,.call ⟨.invoke x nm,args,argTypes⟩,ty,pos,af,gu⟩).run P w=(callFunc f (x2::args.toList.map a.eval).toArray).run P w:=by
      simp only[execOp,resolve,Sem.run_bind,Sem.run_pure,Result.andThen_ok,invoke,he];rw[show(#[Value.iface t' x2]++args.map a.eval)[0]? =some (Value.iface t' x2) by rw[Array.getElem?_append_left (by simp)];rfl];simp only;rw[run_callMethod hf x2 _ w];congr 2;apply Array.ext';simp;exact List.take_of_length_le (by simp)
     rw[he2];exact this
   · cases hs2
  |value f=>
   simp only[stepEff]at hs;obtain⟨fv,hf,hs1⟩:=Option.bind_eq_some_iff.1 hs;obtain⟨az,has,hs2⟩:=Option.bind_eq_some_iff.1 hs1;clear hs hs1;split at hs2
   · rename_i g first cap
     have hfv:=opv_sound R.glob hr hf;have hgl:g<yB:=by simpa[noY] using hfv.func_lt
     obtain⟨first',cap',hfe,h1,h2⟩:=hfv.func_iff hfv.func_lt;have h3:=opvs_sound R.glob hr has;have hargs:VRs ι (first.toList++az++cap.toList) (first'.toList++args.toList.map a.eval++cap'.toList):=by
      have app: ∀ {x y x' y':List Value},VRs ι x x'→VRs ι y y'→VRs ι (x++y) (x'++y'):=fun {x y x' y'} hx hy=>⟨by simp[hx.1,hy.1],fun i u v hu hv=>by
       rw[List.getElem?_append]at hu hv;rw[hx.1]at hv;split at hu
       · rename_i hi;rw[if_pos hi]at hv;exact hx.2 i u v hu hv
       · rename_i hi;rw[if_neg hi]at hv;exact hy.2 _ u v hu hv⟩
      exact app (app h1 h3) h2
     have:=(hc _ _ _ _ _ hs2 ι w _ R hargs r ⟨dst,.call ⟨.value f,args,argTypes⟩,ty,pos,af,gu⟩ a next Q hn).1 hgl;have he:(execOp a.eval ⟨dst,.call ⟨.value f,args,argTypes⟩,ty,pos,af,gu⟩).run P w=(callFunc g (first'.toList++args.toList.map a.eval++cap'.toList).toArray).run P w:=by
      simp only[execOp,resolve,hfe,Deferred.ofValue,Sem.run_bind,Sem.run_pure,Result.andThen_ok,invoke];congr 2;apply Array.ext';simp
     rw[he];exact this
   · rename_i l first cap
     obtain⟨hsz,hs2⟩:=cond_some hs2;rw[Bool.and_eq_true]at hsz;obtain rfl:=Array.eq_empty_of_size_eq_zero (Nat.eq_of_beq_eq_true hsz.1);obtain rfl:=Array.eq_empty_of_size_eq_zero (Nat.eq_of_beq_eq_true hsz.2);obtain⟨vw,hv,hfe⟩:=(opv_sound R.glob hr hf).yield_iff;have h3:=opvs_sound R.glob hr has;have:=(hc _ _ _ _ _ hs2 ι w _ R h3 r ⟨dst,.call ⟨.value f,args,argTypes⟩,ty,pos,af,gu⟩ a next Q hn).2 l rfl vw hv;have he:(execOp a.eval ⟨dst,.call ⟨.value f,args,argTypes⟩,ty,pos,af,gu⟩).run P w=(Instr.yield vw.blk (args.toList.map a.eval).toArray).run P w:=by
      simp only[execOp,resolve,hfe,Deferred.ofValue,Sem.run_bind,Sem.run_pure,Result.andThen_ok,invoke];congr 2;apply Array.ext';simp
     rw[he];exact this
   · cases hs2
  |builtin b=>
   simp only[stepEff]at hs;obtain⟨az,has,hs1⟩:=Option.bind_eq_some_iff.1 hs;clear hs;have h3:=opvs_sound R.glob hr has;have hmap:(args.map a.eval)=(args.toList.map a.eval).toArray:=by rw[←Array.toList_map]
   have he: ∃cs,(execOp a.eval ⟨dst,.call ⟨.builtin b,args,argTypes⟩,ty,pos,af,gu⟩).run P w=(builtin b argTypes ty cs (args.toList.map a.eval).toArray).run P w:=⟨_,by
    simp only[execOp,resolve,Sem.run_bind,Sem.run_pure,Result.andThen_ok,invoke,hmap];rfl⟩
   obtain⟨cs,he⟩:=he;rw[he];clear he;generalize args.toList.map a.eval=az' at h3;have hta: ∀l,argTypes.toList=l→argTypes=l.toArray:=fun l hl=>by rw[←hl]
   split at hs1
   · rename_i s x sT xT hty;obtain⟨s',r1,rfl,hs',k1⟩:=h3.head;obtain⟨x',r2,rfl,hx',k2⟩:=k1.head;obtain rfl:r2=[]:=List.length_eq_zero_iff.1 k2.1;rw[hta _ hty];exact upon_does R (appendV_sound R hs' hx' hs1 ty) hn
   · rename_i d s dT sT hty;obtain⟨s',r1,rfl,hs',k1⟩:=h3.head;obtain⟨x',r2,rfl,hx',k2⟩:=k1.head;obtain rfl:r2=[]:=List.length_eq_zero_iff.1 k2.1;rw[hta _ hty];exact upon_does R (copyV_sound R hs' hx' hs1 ty) hn
   · rename_i s sT hty;obtain⟨s',r1,rfl,hs',k1⟩:=h3.head;obtain rfl:r1=[]:=List.length_eq_zero_iff.1 k1.1;rw[hta _ hty];split at hs1
     · rename_i b l c;obtain⟨e,he,hs2⟩:=Option.bind_eq_some_iff.1 hs1;cases hcu:Nat.beq c unk with
       |true=>rw[hcu]at hs2;cases hs2
       |false=>
        rw[hcu,cond_false]at hs2;injection hs2 with hh;injection hh with hh1 hh2;subst hh1 hh2;have hne:c≠unk:=fun hh=>by rw[hh]at hcu;exact absurd (Nat.beq_refl unk) (by rw[hcu];decide)
        refine upon_does R ⟨ι,_,w,?_,.refl R,.flat rfl⟩ hn;have ht:=elemT_some he;cases hs' with
        |flat=>simp[Builtin.cap_,run_underlying ht];rfl
        |slc=>simp[Builtin.cap_,run_underlying ht];rfl
        |slu=>exact absurd rfl hne
        |sl0 hw hcc=>
         rcases hcc with ⟨h0,_⟩|h0
         · exact absurd h0 hne
         · subst h0;simp[Builtin.cap_,run_underlying ht];rfl
     · cases hs1
   · rename_i s sT hty;obtain⟨s',r1,rfl,hs',k1⟩:=h3.head;obtain rfl:r1=[]:=List.length_eq_zero_iff.1 k1.1;rw[hta _ hty];exact upon_does R (clearV_sound R hs' hs1 ty) hn
   · cases hs1
 |_=>cases hs
end
theorem RT.put {ι:Inj}{s:St}{a:Act}{d:Option Nat}{v v':Value}(hr:RT ι s.t s.n a)(hv:VR ι v v'):RT ι (s.setT d v) s.n (a.put d v'):=by
 cases d with
 |none=>exact hr
 |some d=>
  simp only[St.setT];cases hd:Nat.blt d s.n with
  |true=>
   have hd:d<s.n:=by simpa using hd
   refine⟨by simp[Act.put,hr.size],fun i=> ?_,fun k hk=> ?_⟩
   · simp only[cond_true,slot,Tr.get_set,Act.put,Array.getD_eq_getD_getElem?,Array.getElem?_setIfInBounds];by_cases hi:i=d
     · subst hi;rw[if_pos rfl,if_pos (hr.has _ hd),if_pos rfl];simp[hr.size,hd,hv]
     · rw[if_neg hi,if_neg (Ne.symm hi)];have:=hr.slots i;simpa[slot,Array.getD_eq_getD_getElem?] using this
   · simp only[cond_true,Tr.has_set];exact hr.has k hk
  |false=>
   have hd: ¬d<s.n:=by intro hh;have:Nat.blt d s.n=true:=by simpa using hh
                       rw[hd]at this;cases this
   have he:a.put (some d) v'=a:=by
    simp only[Act.put];rw[Array.setIfInBounds_eq_of_size_le (by rw[hr.size];omega)]
   rw[he];exact hr
theorem put_defers (a:Act)(d:Option Nat)(v:Value):(a.put d v).defers=a.defers:=by cases d<;>rfl
theorem VR.bool_of {ι:Inj}{v:Value}{b:Bool}(h:VR ι v (.bool b)):v= .bool b:=by cases h;rfl
theorem wanted_sound {ι:Inj}{t:Fr}{n:Nat}{a:Act}(hr:RT ι t n a)(ops:Array Oper)(o:Oper):Region.wanted o (yielded ops a.tmps)=wantedF ops t o:=by
 unfold Region.wanted wantedF;cases o.guard with
 |none=>rfl
 |some q=>
  obtain⟨j,want⟩:=q;have hy:yielded ops a.tmps j=yieldedL ops t j:=by
   unfold yielded yieldedL;rw[nth_eq,Array.getElem?_toList];cases hd:(ops[j]?).bind (·.dst)with
   |none=>rfl
   |some d=>
    have hs:=hr.slots d;simp only[Option.bind_some];cases htm:a.tmps[d]? with
    |none=>
     have:a.tmps.getD d undef=undef:=by simp[Array.getD_eq_getD_getElem?,htm]
     rw[this]at hs;cases hsl:slot t d with
     |bool b=>rw[hsl]at hs;have:=hs.bool_iff;cases this
     |_=>rfl
    |some v=>
     have:a.tmps.getD d undef=v:=by simp[Array.getD_eq_getD_getElem?,htm]
     rw[this]at hs;cases hsl:slot t d with
     |bool b=>rw[hsl]at hs;rw[hs.bool_iff]
     |_=>
      cases v with
      |bool b=>rw[hs.bool_of]at hsl;cases hsl
      |_=>rfl
  simp only[hy];cases yieldedL ops t j with
  |none=>rfl
  |some b=>cases b<;>cases want<;>rfl
section
variable {P:Program}{cf:CallF}(hc:COk P cf)
include hc
theorem stepOp_sound {r:Option Nat}{ops:Array Oper}{o:Oper}{s s':St}{ι:Inj}{a:Act}{w:World}(hr:RT ι s.t s.n a)(R:RH P ι s.h w)(hs:stepOp P cf ops o s=some s'){K:Act→World→Prop}{Q:Exit→Act→World→Prop}
 (hK: ∀ι' v v' w',Went P s.h ι w s'.h ι' w'→VR ι' v v'→s'.t=s.setT o.dst v→s'.n=s.n→K (a.put o.dst v') w'):
 if Region.wanted o (yielded ops a.tmps)then o.wpIn (rdF r) 0 P a w K Q else (∀f,o.about P w a.eval=some f→(rdF r).fn f)∧K (a.put o.dst undef) w:=by
 rw[wanted_sound hr];unfold stepOp at hs;cases hw:wantedF ops s.t o with
 |false=>
  rw[hw,cond_false]at hs;obtain rfl:=Option.some.inj hs;simp only[Bool.false_eq_true,if_false];exact⟨fun _ _=>trivial,hK ι undef undef w (.refl R) (.flat rfl) rfl rfl⟩
 |true=>
  rw[hw,cond_true]at hs;simp only[if_true];split at hs
  · rename_i hk;obtain⟨v,hv,rfl⟩:=Option.map_eq_some_iff.1 hs;obtain⟨v',h1,h2⟩:=stepPure_sound R.glob hr hk hv;refine wpIn_of (fun c hc'=>by rw[hc']at hk;cases hk) ?_;rw[h2 w];exact hK ι v v' w (.refl R) h1 rfl rfl
  · rename_i hk;obtain⟨⟨v,ids⟩,hv,rfl⟩:=Option.map_eq_some_iff.1 hs;obtain⟨v',h1,h2⟩:=stepRead_sound hr R hv;refine wpIn_of (fun c hc'=>by rw[hc']at hk;cases hk) ?_;rw[h2];exact hK ι v v' w (.refl R) h1 rfl rfl
  · rename_i hk;obtain⟨⟨x,f⟩,hv,rfl⟩:=Option.map_eq_some_iff.1 hs;obtain⟨c,c',e,e',v',rfl,ho,hcc,h2,h3⟩:=stepMk_sound R.glob hr hv w;refine wpIn_of (fun c hc'=>by rw[hc']at hk;cases hk) ?_;rw[h2];refine hK (ι.set s.h.nx ⟨w.heap.size,0,0,0⟩) _ v' _ (Went.add R rfl ⟨ho,_,e',(0,0),by rw[alloc_get];exact if_pos rfl,fun j x hx=> ?_,fun _=>rfl,fun hm=>by cases hm⟩) (h3 _ _ (Inj.set_same ..)) rfl rfl;obtain⟨y,hy,hv⟩:=hcc.get hx;exact⟨y,by simpa using hy,hv.mono (Inj.set_mono (R.fresh _ (Nat.le_refl _)))⟩
  · obtain⟨⟨v,h'⟩,hv,rfl⟩:=Option.map_eq_some_iff.1 hs;exact stepEff_sound R hr hc hv fun ι' v' w' g1 g2=>hK ι' v v' w' g1 g2 rfl rfl
theorem runOps_sound {rd:Option Nat}{ops:Array Oper}{Q:Exit→Act→World→Prop}: ∀(l:List Oper) {s s':St} {ι:Inj} {a:Act} {w:World},RT ι s.t s.n a→RH P ι s.h w→runOps P cf ops l s=some s'→
 (∀ι' a' w',Went P s.h ι w s'.h ι' w'→RT ι' s'.t s'.n a'→s'.n=s.n→a'.defers=a.defers→Q .normal a' w')→wpListIn (rdF rd) 0 P ops Q l a w:=by
 intro l
 induction l with
 |nil=>
  intro s s' ι a w hr R hs hQ;obtain rfl:=Option.some.inj hs;exact hQ ι a w (.refl R) hr rfl rfl
 |cons o l ih=>
  intro s s' ι a w hr R hs hQ;obtain⟨s1,h1,h2⟩:=Option.bind_eq_some_iff.1 (show(stepOp P cf ops o s).bind (runOps P cf ops l)=some s' from hs);refine stepOp_sound hc hr R h1 fun ι' v v' w' g1 g2 g3 g4=> ?_;have hr':RT ι' s1.t s1.n (a.put o.dst v'):=by rw[g3,g4];exact(hr.mono (g1.mono R)).put g2
  exact ih hr' g1.rh h2 fun ι2 a2 w2 k1 k2 k3 k4=>hQ ι2 a2 w2 (g1.trans k1) k2 (k3.trans g4) (k4.trans (put_defers ..))
end
def RegOk (P:Program)(cf:CallF):Prop:= ∀(r:Option Nat) (id:Nat) ops draw (s s':St) ι a w,runRegion P cf ops draw s=some s'→RT ι s.t s.n a→RH P ι s.h w→ ∀Q:Exit→Act→World→Prop,
 (∀ι' a' w',Went P s.h ι w s'.h ι' w'→RT ι' s'.t s'.n a'→s'.n=s.n→a'.defers=a.defers→Q .normal a' w')→(Code.region id ops draw).wpIn (rdF r) 0 P Q a w
structure Mk (r:Option Nat)(lo:Nat)(ds:List Deferred)(h:Hp)(ι:Inj)(w:World):Prop where
 low:lo≤w.heap.size
 round:r.isSome=true→ds=[]
 each: ∀d∈ds,∃D,d=({ target:= .collected D,args:= #[] }:Deferred)∧lo≤D∧w.heap[D]? =some (.deferred (some []))∧ ∀o x v,h.get o=some x→x.wr=true→ι o=some v→v.blk≠D
 apart:ds.Pairwise fun d e=>d.target≠e.target
theorem Mk.nil (r:Option Nat){lo:Nat}(h:Hp)(ι:Inj)(w:World)(hl:lo≤w.heap.size):Mk r lo [] h ι w:=⟨hl,fun _=>rfl,fun _ h=>(by cases h),List.Pairwise.nil⟩
theorem Mk.went {P:Program}{r:Option Nat}{lo:Nat}{ds:List Deferred}{h h':Hp}{ι ι':Inj}{w w':World}(m:Mk r lo ds h ι w)(g:Went P h ι w h' ι' w'):Mk r lo ds h' ι' w':=
 ⟨Nat.le_trans m.low g.fr.size,m.round,fun d hd=>by
  obtain⟨D,e,h0,h1,h2⟩:=m.each d hd;have hlt:=(Array.getElem?_eq_some_iff.1 h1).1;refine⟨D,e,h0,(g.fr.rest D hlt h2).trans h1,fun o x v ho hx hv=> ?_⟩;rcases g.old o x v ho hv with ⟨q,y,vq,k1,k2,k3,k4⟩|hge
  · rw[←k4];exact h2 q y vq k1 (k2.trans hx) k3
  · omega,m.apart⟩
def Ex.to:Ex→Exit
 | .normal=> .normal
 | .exit id=> .exit id
 | .ret=> .ret
 | .goto l=> .goto l
theorem wp_loop_n {r:Option Nat}{P:Program}{Q:Exit→Act→World→Prop}{c:Code}(I:Nat→Act→World→Prop)
 (round: ∀n a w,I n a w→c.wpIn (rdF r) 0 P (Exit.then (fun a' w'=> ∃m,m<n∧I m a' w') Q) a w) {n:Nat} {a:Act} {w:World} (h₀:I n a w):(Code.loop c).wpIn (rdF r) 0 P Q a w:=by
 intro b k cs hro hb hr;have key: ∀n a w,I n a w→ ∃e a' w',Q e a' w'∧ArrivesIn (Machine.fenced P (rdF r)) P (lone (b.atR a (.code c:: .inLoop c::k)) cs w) b k cs e a' w':=by
  intro n
  induction n using Nat.strongRecOn with
  |_ n ih=>
   intro a w hI;obtain⟨e,a₁,w₁,hq,harr⟩:=round n a w hI b (.inLoop c::k) cs hro hb hr;cases e with
   |normal=>
    obtain⟨m,hlt,hI₁⟩:=hq;obtain⟨e₂,a₂,w₂,hq₂,harr₂⟩:=ih m hlt a₁ w₁ hI₁;exact⟨e₂,a₂,w₂,hq₂,.of_steps (StepsIn.trans harr (.one (fenced_calm hb hr rfl) stepR_inLoop)) harr₂⟩
   |exit id=>exact⟨_,a₁,w₁,hq,.pass (x:= .inLoop c) rfl (fun _ _=> .inl (by simp)) harr⟩
   |goto l=>exact⟨_,a₁,w₁,hq,.pass (x:= .inLoop c) rfl (fun _ _=> .inl (by simp)) harr⟩
   |ret=>exact⟨_,a₁,w₁,hq,.pass (x:= .inLoop c) rfl (fun _ _=> .inl (by simp)) harr⟩
   |panic ch=>exact⟨_,a₁,w₁,hq,.pass (x:= .inLoop c) rfl (fun _ _=> .inl (by simp)) harr⟩
   |outgrown=>exact⟨_,a₁,w₁,hq,.pass (x:= .inLoop c) rfl (fun _ _=> .inl (by simp)) harr⟩
 obtain⟨e,a',w',hq,harr⟩:=key _ a w h₀;exact⟨e,a',w',hq,.of_steps (.one (fenced_calm hb hr rfl) stepR_loop) harr⟩
theorem stepR_scope' {P:Program}{b:Frame}{a:Act}{k:List Item}{cs:List Frame}{w:World}{c:Code}:
 step P (lone (b.atR a (.code (.scope c)::k)) cs w)= .next (lone (b.atR a (.code c:: .inScope c::k)) cs w):=
 step_lone_go (by simp[stepG,stepG.exec,Frame.atR])
theorem stepR_inScope' {P:Program}{b:Frame}{a:Act}{k:List Item}{cs:List Frame}{w:World}{c:Code}:
 step P (lone (b.atR a (.inScope c::k)) cs w)= .next (lone (b.atR a k) cs w):=
 step_lone_go (by simp[stepG,stepG.exec,Frame.atR])
theorem wp_scope_n {r:Option Nat}{P:Program}{Q:Exit→Act→World→Prop}{b:Code}(I:Nat→Code→Act→World→Prop)
 (round: ∀n c a w,I n c a w→c.wpIn (rdF r) 0 P (fun e a' w'=>match e with
   | .goto l=>(match findLabel b l with
     |some rest=> ∃m,m<n∧I m rest a' w'
     |none=>Q (.goto l) a' w')
   |e=>Q e a' w') a w) {n:Nat} {a:Act} {w:World} (h₀:I n b a w):(Code.scope b).wpIn (rdF r) 0 P Q a w:=by
 intro fr k cs hro hb hr;have key: ∀n c a w,I n c a w→ ∃e a' w',Q e a' w'∧ArrivesIn (Machine.fenced P (rdF r)) P (lone (fr.atR a (.code c:: .inScope b::k)) cs w) fr k cs e a' w':=by
  intro n
  induction n using Nat.strongRecOn with
  |_ n ih=>
   intro c a w hI;obtain⟨e,a₁,w₁,hq,harr⟩:=round n c a w hI fr (.inScope b::k) cs hro hb hr;cases e with
   |normal=>exact⟨.normal,a₁,w₁,hq,StepsIn.trans harr (.one (fenced_calm hb hr rfl) stepR_inScope')⟩
   |exit id=>
    have hx:exitTo id (.inScope b::k)=exitTo id k:=by simp[exitTo]
    exact⟨.exit id,a₁,w₁,hq,fun k' hk=>harr.1 k' (by rw[hx];exact hk),fun hr' hk=>harr.2 hr' (by rw[hx];exact hk)⟩
   |goto l=>
    cases hf:findLabel b l with
    |none=>
     simp only[hf]at hq;have hx:gotoIn l (.inScope b::k)=gotoIn l k:=by simp[gotoIn,hf]
     exact⟨.goto l,a₁,w₁,hq,fun k' hk=>harr.1 k' (by rw[hx];exact hk),fun hr' hk=>harr.2 hr' (by rw[hx];exact hk)⟩
    |some rest=>
     simp only[hf]at hq;obtain⟨m,hm,hI'⟩:=hq;obtain⟨e₂,a₂,w₂,hq₂,harr₂⟩:=ih m hm rest a₁ w₁ hI';exact⟨e₂,a₂,w₂,hq₂,.of_steps (harr.1 _ (by simp[gotoIn,hf])) harr₂⟩
   |ret=>exact⟨_,a₁,w₁,hq,harr⟩
   |panic ch=>exact⟨_,a₁,w₁,hq,harr⟩
   |outgrown=>exact⟨_,a₁,w₁,hq,harr⟩
 obtain⟨e,a',w',hq,harr⟩:=key n b a w h₀;exact⟨e,a',w',hq,.of_steps (.one (fenced_calm hb hr rfl) stepR_scope') harr⟩
theorem scopeF_succ (run:Code→St→Option (Ex×St))(b:Code)(k:Nat)(c:Code)(s:St):scopeF run b (k+1) c s=(run c s).bind fun r=>match r.1 with
 | .goto l=>match findLabel b l with
   |some rest=>scopeF run b k rest r.2
   |none=>some r
 |_=>some r:=rfl
theorem ev_succ (P:Program)(cf:CallF)(n:Nat)(c:Code)(s:St):ev P cf (n+1) c s=(match c with
 | .skip| .label _=>some (.normal,s)
 | .ret=>some (.ret,s)
 | .exit id=>some (.exit id,s)
 | .seq a b=>(ev P cf n a s).bind fun r=>match r.1 with
   | .normal=>ev P cf n b r.2
   |_=>some r
 | .cond c a b=>(opv P s.t c).bind fun v=>match v with
   | .bool true=>ev P cf n a s
   | .bool false=>ev P cf n b s
   |_=>none
 | .block id b=>(ev P cf n b s).map fun r=>match r.1 with
   | .exit id'=>bif Nat.beq id' id then (.normal,r.2)else r
   |_=>r
 | .loop b=>(ev P cf n b s).bind fun r=>match r.1 with
   | .normal=>ev P cf n (.loop b) r.2
   |_=>some r
 | .goto l=>some (.goto l,s)
 | .scope b=>scopeF (ev P cf n) b n b s
 | .region _ ops draw=>(runRegion P cf ops draw s).map fun s'=>(.normal,s')
 | .rangeFunc g ps assign body=>(opv P s.t g).bind fun gv=>match gv with
   | .func (.func gf) first cap=>bif hasBody P gf then
      (cf gf (first.toList++[.func (.yield s.h.nx) #[] #[]]++cap.toList) (s.h.add (.loop ⟨0,none,tmpsOf s,ps,assign,body⟩))).bind fun r=>afterLoop s.h.nx s r.2
     else none
   |_=>none
 |_=>none):=by cases c<;>rfl
def EvOk (P:Program)(r:Option Nat)(lo:Nat)(s:St)(ι:Inj)(w:World)(q:Ex×St)(Q:Exit→Act→World→Prop):Prop:=
 ∀ι' a' w',Went P s.h ι w q.2.h ι' w'→RT ι' q.2.t q.2.n a'→q.2.n=s.n→Mk r lo a'.defers q.2.h ι' w'→Q q.1.to a' w'
theorem noRange_find: ∀ {b rest:Code} {l:Nat},noRange b=true→findLabel b l=some rest→noRange rest=true:=by
 intro b
 induction b with
 |seq x y ihx ihy=>
  intro rest l h hf;have h:(noRange x&&noRange y)=true:=h;rw[Bool.and_eq_true]at h;unfold findLabel at hf;cases hx:findLabel x l with
  |some r=>
   rw[hx]at hf;obtain rfl:=Option.some.inj hf;show(noRange r&&noRange y)=true;rw[ihx h.1 hx,h.2];rfl
  |none=>rw[hx]at hf;exact ihy h.2 hf
 |label l'=>
  intro rest l h hf;unfold findLabel at hf;split at hf
  · obtain rfl:=Option.some.inj hf;rfl
  · cases hf
 |_=>intro rest l h hf;cases hf
def NoNum (P : Program) : Prop := ∀ (f : FuncId) (fn : Func), P.funcs[f]? = some fn → (fn.name == "runtime.NumGoroutine") = false
theorem call_enter {P:Program}(hN:NoNum P){f:FuncId}(hb:hasBody P f=true)(args:Array Value)(w:World):(callFunc f args).run P w= .ok (.enter f args) w:=by
 unfold hasBody at hb;cases hf:P.funcs[f]? with
 |none=>rw[hf]at hb;cases hb
 |some fn=>
  rw[hf]at hb;cases hbd:fn.body with
  |none=>simp only[hbd]at hb;cases hb
  |some c=>
   have hname:=hN f fn hf;simp[callFunc,hf,hbd];simpa using hname
section
variable {P:Program}{h h':Hp}{ι:Inj}{w:World}
theorem tmpsOf_sound {ι:Inj}{s:St}{a:Act}(hr:RT ι s.t s.n a):VRs ι (tmpsOf s) a.tmps.toList:=by
 refine⟨by simp[tmpsOf,hr.size],fun i x y hx hy=> ?_⟩;unfold tmpsOf at hx;rw[List.getElem?_map]at hx;obtain⟨k,hk,rfl⟩:=Option.map_eq_some_iff.1 hx;obtain⟨hi,rfl⟩:=List.getElem?_eq_some_iff.1 hk;rw[List.getElem_range];have:=hr.slots i;rw[Array.getD_eq_getD_getElem?,←Array.getElem?_toList,hy]at this;exact this
theorem Went.waste (R:RH P ι h w)(o:Obj):Went P h ι w h ι (w.alloc o):=by
 have heap: ∀k,k<w.heap.size→(w.alloc o).heap[k]? =w.heap[k]? :=fun k hk=>by rw[alloc_get,if_neg (by omega)]
 refine⟨.refl _ _,⟨fun q x hq=> ?_,R.apart,R.fresh,R.glob,R.gsize⟩,⟨rfl,rfl,rfl,by show w.heap.size≤(w.heap.push o).size;rw[Array.size_push];omega,fun k hk _=>heap k hk⟩,Nat.le_refl _,rfl,fun _ _ hq _=>hq,fun _ y _ hq=>⟨y,hq⟩,fun q x v hq hv=> .inl ⟨q,x,v,hq,rfl,hv,rfl⟩⟩;obtain⟨hl,v,hv,ho⟩:=R.live q x hq;exact⟨hl,v,hv,ho.of_block (fun _ _ h=>h) (heap _ ho.block)⟩
theorem Went.record (R:RH P ι h w){l:Nat}{r:Lp}(hl:h.get l=some (.loop r)){v:Vw}(hv:ι l=some v){x:Option Ob}{y:Obj}(hx: ∀r',x=some r'→r'.wr=true∧OR P ι v r' (w.putObj v.blk y))(hp:h.put l x=some h'):Went P h ι w h' ι (w.putObj v.blk y):=by
 obtain⟨p1,p2,p3,p4⟩:=Hp.get_put hp;have get: ∀q z,h'.get q=some z→(q=l∧x=some z)∨(q≠l∧h.get q=some z):=fun q z hq=>by
  rw[p4]at hq;split at hq
  · split at hq
    · exact .inl ⟨‹_›,hq⟩
    · cases hq
  · exact .inr ⟨‹_›,hq⟩
 have old: ∀q z,h'.get q=some z→ ∃z0,h.get q=some z0∧z0.wr=z.wr:=fun q z hq=>by
  rcases get q z hq with ⟨rfl,hz⟩|⟨_,hq⟩
  · exact⟨_,hl,(hx z hz).1.symm⟩
  · exact⟨z,hq,rfl⟩
 refine⟨.refl _ _,⟨fun q z hq=> ?_,fun q p y z vq vp hne hq hy hz h1 h2=> ?_,fun q hq=>R.fresh q (by rw[←p1];exact hq),R.glob,by rw[p1];exact R.gsize⟩,⟨rfl,rfl,rfl,by simp,fun k _ hall=>World.putObj_heap_other (Ne.symm (hall l _ v hl rfl hv))⟩,by rw[p1];exact Nat.le_refl _,p2,fun q z hq hg=> ?_,fun q z _ hz=>let ⟨z0,h1,_⟩:=old q z hz;⟨z0,h1⟩,fun q z u hq hu=>let ⟨z0,h1,h2⟩:=old q z hq; .inl ⟨q,z0,u,h1,h2,hu,rfl⟩⟩
 · rcases get q z hq with ⟨rfl,hz⟩|⟨hne,hq⟩
   · exact⟨by rw[p1];exact(R.live _ _ hl).1,v,hv,(hx z hz).2⟩
   · obtain⟨hlt,u,hu,ho⟩:=R.live q z hq;refine⟨by rw[p1];exact hlt,u,hu,ho.of_block (fun _ _ h=>h) (World.putObj_heap_other ?_)⟩;exact Ne.symm (R.apart l q _ z v u (Ne.symm hne) hl rfl hq hv hu)
 · obtain⟨y0,h3,h4⟩:=old q y hq;obtain⟨z0,h5,_⟩:=old p z hz;exact R.apart q p y0 z0 vq vp hne h3 (h4.trans hy) h5 h1 h2
 · rw[p4,if_neg]
   · exact hq
   rintro rfl;rw[p3]at hg;cases hg
end
section
variable {P:Program}{cf:CallF}(hg:RegOk P cf)(hc:COk P cf)(hN:NoNum P)
include hg hc hN
theorem ev_sound {rd:Option Nat}{lo:Nat}: ∀(n:Nat) (c:Code) {s:St} {r:Ex×St} {ι:Inj} {a:Act} {w:World},ev P cf n c s=some r→(rd=none∨noRange c=true)→RT ι s.t s.n a→RH P ι s.h w→Mk rd lo a.defers s.h ι w→ ∀Q,EvOk P rd lo s ι w r Q→c.wpIn (rdF rd) 0 P Q a w:=by
 intro n
 induction n using Nat.strongRecOn with
 |_ n ihs=>
 cases n with
 |zero=>intro c s r ι a w h;cases h
 |succ n=>
  have ih:=ihs n (Nat.lt_succ_self n);intro c s r ι a w h nr hr R hd Q hQ;rw[ev_succ]at h;cases c with
  |skip=>obtain rfl:=Option.some.inj h;exact wpIn_skip (hQ ι a w (.refl R) hr rfl hd)
  |label l=>obtain rfl:=Option.some.inj h;exact wpIn_label (hQ ι a w (.refl R) hr rfl hd)
  |ret=>obtain rfl:=Option.some.inj h;exact wpIn_ret (hQ ι a w (.refl R) hr rfl hd)
  |exit id=>obtain rfl:=Option.some.inj h;exact wpIn_exit (hQ ι a w (.refl R) hr rfl hd)
  |seq x y=>
   obtain⟨⟨e,s1⟩,h1,h2⟩:=Option.bind_eq_some_iff.1 h;refine wpIn_seq (ih x h1 (nr.imp id fun h=>(Bool.and_eq_true _ _▸(show(noRange x&&noRange y)=true from h)).1) hr R hd _ fun ι' a' w' g1 g2 g3 g4=> ?_);cases e with
   |normal=>exact ih y h2 (nr.imp id fun h=>(Bool.and_eq_true _ _▸(show(noRange x&&noRange y)=true from h)).2) g2 g1.rh g4 Q fun ι2 a2 w2 k1 k2 k3 k4=>hQ ι2 a2 w2 (g1.trans k1) k2 (k3.trans g3) k4
   |exit id=>obtain rfl:=Option.some.inj h2;exact hQ ι' a' w' g1 g2 g3 g4
   |ret=>obtain rfl:=Option.some.inj h2;exact hQ ι' a' w' g1 g2 g3 g4
   |goto l=>obtain rfl:=Option.some.inj h2;exact hQ ι' a' w' g1 g2 g3 g4
  |cond c x y=>
   obtain⟨v,h1,h2⟩:=Option.bind_eq_some_iff.1 h;have hv:=opv_sound R.glob hr h1;split at h2
   · exact wpIn_cond_true hv.bool_iff (ih x h2 (nr.imp id fun h=>(Bool.and_eq_true _ _▸(show(noRange x&&noRange y)=true from h)).1) hr R hd Q hQ)
   · exact wpIn_cond_false hv.bool_iff (ih y h2 (nr.imp id fun h=>(Bool.and_eq_true _ _▸(show(noRange x&&noRange y)=true from h)).2) hr R hd Q hQ)
   · cases h2
  |block id b=>
   obtain⟨⟨e,s1⟩,h1,rfl⟩:=Option.map_eq_some_iff.1 h;refine wpIn_block (ih b h1 nr hr R hd _ fun ι' a' w' g1 g2 g3 g4=> ?_);cases e with
   |normal=>exact hQ ι' a' w' g1 g2 g3 g4
   |ret=>exact hQ ι' a' w' g1 g2 g3 g4
   |goto l=>exact hQ ι' a' w' g1 g2 g3 g4
   |exit id'=>
    show if id'=id then _ else _
    by_cases hi:id'=id
    · subst hi;rw[if_pos rfl];simp only[show Nat.beq id' id'=true from Nat.beq_refl _,cond_true]at hQ;exact hQ ι' a' w' g1 g2 g3 g4
    · rw[if_neg hi];have hb:Nat.beq id' id=false:=by rw[Bool.eq_false_iff];intro hh;exact hi (Nat.eq_of_beq_eq_true hh)
      simp only[hb,cond_false]at hQ;exact hQ ι' a' w' g1 g2 g3 g4
  |loop b=>
   refine wp_loop_n (fun m a' w'=>m≤n+1∧ ∃s' ι',ev P cf m (.loop b) s'=some r∧Went P s.h ι w s'.h ι' w'∧RT ι' s'.t s'.n a'∧s'.n=s.n∧Mk rd lo a'.defers s'.h ι' w') (n:=n+1) ?_ ⟨Nat.le_refl _,s,ι,by rw[ev_succ];exact h,.refl R,hr,rfl,hd⟩;rintro m a' w' ⟨hm,s',ι',hev,g1,g2,g3,g4⟩;cases m with
   |zero=>cases hev
   |succ m=>
    rw[ev_succ]at hev;obtain⟨⟨e,s1⟩,h1,h2⟩:=Option.bind_eq_some_iff.1 hev;refine ihs m hm b h1 nr g2 g1.rh g4 _ fun ι2 a2 w2 k1 k2 k3 k4=> ?_;cases e with
    |normal=>exact⟨m,Nat.lt_succ_self m,Nat.le_of_succ_le hm,s1,ι2,h2,g1.trans k1,k2,k3.trans g3,k4⟩
    |exit id=>obtain rfl:=Option.some.inj h2;exact hQ ι2 a2 w2 (g1.trans k1) k2 (k3.trans g3) k4
    |ret=>obtain rfl:=Option.some.inj h2;exact hQ ι2 a2 w2 (g1.trans k1) k2 (k3.trans g3) k4
    |goto l=>obtain rfl:=Option.some.inj h2;exact hQ ι2 a2 w2 (g1.trans k1) k2 (k3.trans g3) k4
  |goto l=>obtain rfl:=Option.some.inj h;exact wpIn_goto (hQ ι a w (.refl R) hr rfl hd)
  |scope b=>
   refine wp_scope_n (fun m c' a' w'=>(rd=none∨noRange c'=true)∧ ∃s' ι',scopeF (ev P cf n) b m c' s'=some r∧Went P s.h ι w s'.h ι' w'∧RT ι' s'.t s'.n a'∧s'.n=s.n∧Mk rd lo a'.defers s'.h ι' w') (n:=n) ?_ ⟨nr,s,ι,h,.refl R,hr,rfl,hd⟩;rintro m c' a' w' ⟨nr',s',ι',hev,g1,g2,g3,g4⟩;cases m with
   |zero=>cases hev
   |succ m=>
    rw[scopeF_succ]at hev;obtain⟨⟨e,s1⟩,h1,h2⟩:=Option.bind_eq_some_iff.1 hev;refine ih c' h1 nr' g2 g1.rh g4 _ fun ι2 a2 w2 k1 k2 k3 k4=> ?_;cases e with
    |normal=>obtain rfl:=Option.some.inj h2;exact hQ ι2 a2 w2 (g1.trans k1) k2 (k3.trans g3) k4
    |exit id=>obtain rfl:=Option.some.inj h2;exact hQ ι2 a2 w2 (g1.trans k1) k2 (k3.trans g3) k4
    |ret=>obtain rfl:=Option.some.inj h2;exact hQ ι2 a2 w2 (g1.trans k1) k2 (k3.trans g3) k4
    |goto l=>
     show match findLabel b l with
      |some rest=>_
      |none=>_
     cases hf:findLabel b l with
     |none=>
      simp only[hf]at h2;obtain rfl:=Option.some.inj h2;exact hQ ι2 a2 w2 (g1.trans k1) k2 (k3.trans g3) k4
     |some rest=>
      simp only[hf]at h2;exact⟨m,Nat.lt_succ_self m,nr.imp id fun h=>noRange_find (show noRange b=true from h) hf,s1,ι2,h2,g1.trans k1,k2,k3.trans g3,k4⟩
  |region id ops draw=>
   obtain⟨s1,h1,rfl⟩:=Option.map_eq_some_iff.1 h;exact hg rd id ops draw s s1 ι a w h1 hr R Q fun ι' a' w' g1 g2 g3 g4=>hQ ι' a' w' g1 g2 g3 (by rw[g4];exact hd.went g1)
  |rangeFunc g ps asg body=>
   obtain rfl:rd=none:=nr.resolve_right (fun h=>by cases h);obtain⟨gv,hgv,h1⟩:=Option.bind_eq_some_iff.1 h;have hgR:=opv_sound R.glob hr hgv;split at h1
   · rename_i gf first cap
     obtain⟨hb2,h1⟩:=cond_some h1;have hb1:gf<yB:=by simpa[noY] using hgR.func_lt
     obtain⟨⟨v,h2⟩,hcall,h3⟩:=Option.bind_eq_some_iff.1 h1;obtain⟨first',cap',hfe,f1,f2⟩:=hgR.func_iff hgR.func_lt;refine wpIn_rangeFunc fun fn _=> ?_
     let w1:World:=w.alloc (.deferred (some []))
     let rec1:Loop:= { state:= .ready,pending:=none,fn,tmps:=a.tmps,params:=ps,assign:=asg,body,defers:=w.heap.size }
     let w2:World:=w1.alloc (.loop rec1)
     have e1:w1.heap.size=w.heap.size+1:=by show(w.heap.push _).size=_;rw[Array.size_push]
     have G1:Went P s.h ι w s.h ι w1:=Went.waste R _;have hor:OR P (ι.set s.h.nx ⟨w1.heap.size,0,0,0⟩) ⟨w1.heap.size,0,0,0⟩ (.loop ⟨0,none,tmpsOf s,ps,asg,body⟩) w2:=⟨rec1,by show w2.heap[w1.heap.size]? =_;rw[alloc_get,if_pos rfl],rfl,rfl,(tmpsOf_sound hr).mono (Inj.set_mono (R.fresh _ (Nat.le_refl _))),rfl,rfl,rfl⟩;have G2:=Went.add G1.rh (v:=⟨w1.heap.size,0,0,0⟩) rfl hor;have G12:=G1.trans G2
     let yv:Value:=Value.func (.yield (w.heap.size+1)) #[] #[]
     refine⟨w.heap.size+1,[{ target:= .collected w.heap.size,args:= #[] }],w2,{ target:= .fn (.func gf) cap',args:=first'++ #[yv] },w2,gf,first'++ #[yv]++cap',w2,run_enterLoop_outer ..,?_,fun _ _=>trivial,?_,fun h=>(by cases h),?_⟩
     · simp only[resolve,hfe,Deferred.ofValue,Sem.run_pure];rw[show Array.map a.eval #[Operand.const (Value.func (Fn.yield (w.heap.size+1)) #[] #[])]= #[yv] by simp[Act.eval,yv]]
     · show(callFunc gf (first'++ #[yv]++cap')).run P w2=_;exact call_enter hN hb2 _ _
     · have hargs:VRs (ι.set s.h.nx ⟨w1.heap.size,0,0,0⟩) (first.toList++[Value.func (.yield s.h.nx) #[] #[]]++cap.toList) (first'.toList++[yv]++cap'.toList):=by
        have m:=Inj.set_mono (ι:=ι) (o:=s.h.nx) (v:=⟨w1.heap.size,0,0,0⟩) (R.fresh _ (Nat.le_refl _));refine((f1.mono m).append (.cons ?_ (.nil _))).append (f2.mono m);have:=VR.yld (ι:=ι.set s.h.nx ⟨w1.heap.size,0,0,0⟩) (l:=s.h.nx) (Inj.set_same ..);rw[show(⟨w1.heap.size,0,0,0⟩:Vw).blk=w.heap.size+1 from e1]at this;exact this
       have ea:(first'.toList++[yv]++cap'.toList).toArray=first'++ #[yv]++cap':=by apply Array.ext';simp
       have key:=(hc _ _ _ _ _ hcall _ w2 _ G12.rh hargs none { dst:=none,op:= .move (.const undef),type:=0,pos:=default,after:= #[],guard:=none } a (fun _ w'=>rangePost (rdF none) 0 P (w.heap.size+1) Q { a with defers:=[{ target:= .collected w.heap.size,args:= #[] }]++a.defers } (.returned undef) w') (fun _ _ _=>False) (fun ι' v' w' g1 g2=> ?_)).1 hb1
       · rw[call_enter hN hb2,ea]at key;refine CallsIn.mono key.2 fun e w' he=> ?_;cases e with
         |returned v=>exact he
         |panicked ch=>exact he.elim
         |outgrown=>obtain⟨_,_,h⟩:=he;exact h.elim
       · unfold afterLoop at h3;split at h3
         · rename_i r0 hr0;have hst:Nat.beq r0.st 1=false:=by
            cases hb:Nat.beq r0.st 1 with
            |false=>rfl
            |true=>rw[hb]at h3;cases h3
           rw[hst,cond_false]at h3;obtain⟨e,he,h4⟩:=Option.bind_eq_some_iff.1 h3;obtain⟨h5,hput,rfl⟩:=Option.map_eq_some_iff.1 h4;obtain⟨_,vw,hvw,q,q1,q2,q3,_⟩:=g1.rh.live _ _ hr0;have hvw2:vw=⟨w1.heap.size,0,0,0⟩:=by
            have:=g1.ext s.h.nx (by show s.h.nx<s.h.nx+1;omega);rw[hvw,Inj.set_same]at this;exact Option.some.inj this
           subst hvw2;have eb:(⟨w1.heap.size,0,0,0⟩:Vw).blk=w.heap.size+1:=e1;have G3:=Went.record g1.rh hr0 hvw (x:=none) (y:= .loop { q with state:= .exhausted }) (fun r' h=>by cases h) hput;rw[eb]at q1 G3;have hnb:q.state≠ .busy:=by
            rw[q2];intro hh;have h1:r0.st≠1:=fun h=>by rw[h]at hst;cases hst
            match hs:r0.st with
            |0=>rw[hs]at hh;cases hh
            |1=>exact h1 hs
            |2=>rw[hs]at hh;cases hh
            |n+3=>rw[hs]at hh;cases hh
           have GA:=G2.trans (g1.trans G3);have G:=G1.trans GA;refine⟨q.pending,_,run_endLoop q1 hnb,?_⟩;have M1:Mk none lo ([{ target:= .collected w.heap.size,args:= #[] }]++a.defers) s.h ι w1:=by
            have md:=hd.went G1;refine⟨md.low,fun h=>(by cases h),fun d hdm=> ?_,?_⟩
            · rcases List.mem_append.1 hdm with hdm|hdm
              · rw[List.mem_singleton]at hdm;refine⟨w.heap.size,hdm,hd.low,by rw[alloc_get,if_pos rfl],fun o x v ho _ hv=> ?_⟩;obtain⟨_,v',hv',hor⟩:=R.live o x ho;rw[hv]at hv';obtain rfl:=Option.some.inj hv';exact Nat.ne_of_lt hor.block
              · exact md.each d hdm
            · show List.Pairwise _ (_::a.defers);refine List.Pairwise.cons (fun d hdm ht=> ?_) md.apart;obtain⟨D,ed,_,hD,_⟩:=hd.each d hdm;rw[ed]at ht;have ht:Target.collected w.heap.size=Target.collected D:=ht;injection ht with ht;have:=(Array.getElem?_eq_some_iff.1 hD).1;omega
           have M:=M1.went GA;have fin:Q e.to { a with defers:=[{ target:= .collected w.heap.size,args:= #[] }]++a.defers } (w'.putObj (w.heap.size+1) (.loop { q with state:= .exhausted })):=
            hQ ι' _ _ G ⟨hr.size,fun i=>(hr.slots i).mono (G.mono R),hr.has⟩ rfl M
           have H: ∀(j:Option Code) (A:Act) (W:World),j=r0.pend→Q e.to A W→(match j with
            |none=>Q .normal A W
            |some c=>c.wpIn (rdF none) 0 P Q A W):=fun j A W hj fin=>by
            subst hj;cases hp:r0.pend with
            |none=>
             rw[hp]at he;obtain rfl:=Option.some.inj he;exact fin
            |some c=>
             rw[hp]at he;cases c with
             |ret=>obtain rfl:=Option.some.inj he;exact wpIn_ret fin
             |exit id=>obtain rfl:=Option.some.inj he;exact wpIn_exit fin
             |goto l=>obtain rfl:=Option.some.inj he;exact wpIn_goto fin
             |_=>cases he
           exact H _ _ _ q3 fin
         · cases h3
   · cases h1
  |_=>cases h
end
theorem mapO_congr {α β:Type}{f g:α→Option β}: ∀ {l:List α},(∀x∈l,f x=g x)→mapO f l=mapO g l:=by
 intro l
 induction l with
 |nil=>intro _;rfl
 |cons a l ih=>intro h;rw[mapO_cons,mapO_cons,h a (by simp),ih fun x hx=>h x (by simp[hx])]
section
variable {P:Program}{t t':Fr}
theorem opw_congr {x:Operand}(h:opv P t x=opv P t' x):opw t x=opw t' x:=by
 cases x with
 |tmp i=>exact Option.some.inj h
 |_=>rfl
theorem flatRun_congr {o:Oper}(hs: ∀cs b,o.op≠ .select cs b)(h: ∀x∈o.op.operands,opv P t x=opv P t' x):flatRun P t o=flatRun P t' o:=by
 unfold flatRun;rw[mapO_congr (g:=opv P t') fun x hx=>h x (Array.mem_toList_iff.1 hx),execOp_congr o hs fun x hx=>opw_congr (h x hx)]
theorem kind_convert {s d:TypeId}{x:Operand}:kindOf P (.convert s d x)= .pure_∨kindOf P (.convert s d x)= .read∨kindOf P (.convert s d x)= .eff:=by
 have:kindOf P (.convert s d x)=(match P.underlying d with
  |some (.slice _)=> .eff
  |some .string=>(match P.underlying s with
   |some (.slice _)=> .read
   |_=> .pure_)
  |_=> .pure_):=rfl
 rw[this];split
 · exact .inr (.inr rfl)
 · split
   · exact .inr (.inl rfl)
   · exact .inl rfl
 · exact .inl rfl
theorem stepPure_congr {o:Oper}(hk:kindOf P o.op= .pure_)(h: ∀x∈o.op.operands,opv P t x=opv P t' x):stepPure P t o=stepPure P t' o:=by
 have hf:flatRun P t o=flatRun P t' o:=flatRun_congr (fun cs b hh=>by rw[hh]at hk;cases hk) h;obtain⟨dst,op,ty,pos,af,gu⟩:=o;cases op with
 |call c=>
  obtain⟨callee,args,argTypes⟩:=c;cases callee with
  |builtin b=>
   cases b<;>first|exact hf|skip
   simp only[stepPure];rw[hf];have h0:opv P t (args.getD 0 (.const undef))=opv P t' (args.getD 0 (.const undef)):=by
    rcases Nat.eq_zero_or_pos args.size with h0|h0
    · have:args.getD 0 (.const undef)= .const undef:=by simp[Array.getD,h0]
      rw[this];rfl
    · refine h _ ?_;simp only[Op.operands,Call.operands];have:args.getD 0 (.const undef)=args[0]:=by simp[Array.getD,h0]
      rw[this];simp
   rw[h0]
  |_=>exact hf
 |build s ps=>
  simp only[stepPure];have:mapO (fun(p:Nat×Operand)=>(opv P t p.2).map fun v=>(p.1,v)) ps.toList=mapO (fun(p:Nat×Operand)=>(opv P t' p.2).map fun v=>(p.1,v)) ps.toList:=mapO_congr fun x hx=>by
   rw[h x.2 (by simp only[Op.operands];simpa using ⟨x.1,by simpa using hx⟩)]
  rw[this]
 |makeFunc fn a b=>
  simp only[stepPure];rw[mapO_congr (g:=opv P t') (l:=a.toList) fun x hx=>h x (by simp[Op.operands,Array.mem_toList_iff.1 hx]),mapO_congr (g:=opv P t') (l:=b.toList) fun x hx=>h x (by simp[Op.operands,Array.mem_toList_iff.1 hx])]
 |pick c a b=>simp only[stepPure];rw[h c (by simp[Op.operands]),h a (by simp[Op.operands]),h b (by simp[Op.operands])]
 |indexAddr s a b=>simp only[stepPure];rw[h a (by simp[Op.operands]),h b (by simp[Op.operands])]
 |binOp op xt a b q=>simp only[stepPure];rw[h a (by simp[Op.operands]),h b (by simp[Op.operands]),hf]
 |convert s d x=>simp only[stepPure];rw[h x (by simp[Op.operands]),hf]
 |fieldAddr s x f=>simp only[stepPure];rw[h x (by simp[Op.operands])]
 |move x=>simp only[stepPure];rw[h x (by simp[Op.operands])]
 |assign x=>simp only[stepPure];rw[h x (by simp[Op.operands])]
 |extract x i=>simp only[stepPure];rw[h x (by simp[Op.operands])]
 |field s x f=>simp only[stepPure];rw[h x (by simp[Op.operands])]
 |makeInterface s x=>simp only[stepPure];rw[h x (by simp[Op.operands])]
 |nilCheck x=>simp only[stepPure];rw[h x (by simp[Op.operands])]
 |typeAssert x xt as_ ok=>simp only[stepPure];rw[h x (by simp[Op.operands]),hf]
 |_=>first|exact hf|cases hk
theorem opq_congr {q:Option Operand}(h: ∀x,q=some x→opv P t x=opv P t' x):opq P t q=opq P t' q:=by
 cases q with
 |none=>rfl
 |some x=>simp only[opq];rw[h x rfl]
theorem stepRead_congr {o:Oper}{h:Hp}(hh: ∀x∈o.op.operands,opv P t x=opv P t' x)(hk:kindOf P o.op= .read):stepRead P t o h=stepRead P t' o h:=by
 obtain⟨dst,op,ty,pos,af,gu⟩:=o;cases op with
 |load s x=>simp only[stepRead];rw[hh x (by simp[Op.operands])]
 |convert s d x=>simp only[stepRead];rw[hh x (by simp[Op.operands])]
 |slice s x lo hi mx=>
  simp only[stepRead];rw[hh x (by simp[Op.operands]),opq_congr (t':=t') (q:=lo) fun y hy=>hh y (by simp[Op.operands,hy]),opq_congr (t':=t') (q:=hi) fun y hy=>hh y (by simp[Op.operands,hy]),opq_congr (t':=t') (q:=mx) fun y hy=>hh y (by simp[Op.operands,hy]),
   flatRun_congr (fun _ _ hq=>by cases hq) hh]
 |call c=>obtain⟨callee,args,argTypes⟩:=c;cases callee with
  |builtin b=>cases b<;>cases hk
  |_=>cases hk
 |_=>cases hk
theorem stepMk_congr {o:Oper}(hh: ∀x∈o.op.operands,opv P t x=opv P t' x)(hk:kindOf P o.op= .mk):stepMk P t o=stepMk P t' o:=by
 obtain⟨dst,op,ty,pos,af,gu⟩:=o;cases op with
 |alloc e=>rfl
 |convert s d x=>rcases kind_convert (P:=P) (s:=s) (d:=d) (x:=x)with h|h|h<;>exact absurd (h.symm.trans hk) (by decide)
 |box e x=>simp only[stepMk];rw[hh x (by simp[Op.operands])]
 |makeSlice s a b=>simp only[stepMk];rw[hh a (by simp[Op.operands]),hh b (by simp[Op.operands])]
 |buildSlice s n ps=>
  simp only[stepMk];have:mapO (fun(p:Nat×Operand)=>(opv P t p.2).map fun v=>(p.1,v)) ps.toList=mapO (fun(p:Nat×Operand)=>(opv P t' p.2).map fun v=>(p.1,v)) ps.toList:=mapO_congr fun x hx=>by
   rw[hh x.2 (by simp only[Op.operands];simpa using ⟨x.1,by simpa using hx⟩)]
  rw[this]
 |call c=>obtain⟨callee,args,argTypes⟩:=c;cases callee with
  |builtin b=>cases b<;>cases hk
  |_=>cases hk
 |_=>cases hk
theorem stepEff_congr {cf:CallF}{o:Oper}{h:Hp}(hh: ∀x∈o.op.operands,opv P t x=opv P t' x):stepEff P cf t o h=stepEff P cf t' o h:=by
 obtain⟨dst,op,ty,pos,af,gu⟩:=o;cases op with
 |store s x y=>simp only[stepEff];rw[hh x (by simp[Op.operands]),hh y (by simp[Op.operands])]
 |range s x=>simp only[stepEff];rw[hh x (by simp[Op.operands])]
 |convert s d x=>simp only[stepEff];rw[hh x (by simp[Op.operands])]
 |next x s=>simp only[stepEff];rw[hh x (by simp[Op.operands])]
 |call c=>
  obtain⟨callee,args,argTypes⟩:=c;cases callee with
  |builtin b=>
   simp only[stepEff];rw[mapO_congr (g:=opv P t') (l:=args.toList) fun x hx=>hh x (by simp[Op.operands,Call.operands,Array.mem_toList_iff.1 hx])]
  |value f=>
   simp only[stepEff];rw[mapO_congr (g:=opv P t') (l:=args.toList) fun x hx=>hh x (by simp[Op.operands,Call.operands,Array.mem_toList_iff.1 hx]),hh f (by simp[Op.operands,Call.operands])]
  |invoke x nm=>
   simp only[stepEff];rw[mapO_congr (g:=opv P t') (l:=args.toList) fun x hx=>hh x (by simp[Op.operands,Call.operands,Array.mem_toList_iff.1 hx]),hh x (by simp[Op.operands,Call.operands])]
 |_=>rfl
end
def Tr.ofFn {α:Type}(f:Nat→α):Nat→Tr α
 |0=> .nil
 |k+1=> .node (f 0) (Tr.ofFn (fun m=>f (2*m+1)) k) (Tr.ofFn (fun m=>f (2*m+2)) k)
theorem Tr.get_ofFn {α:Type}(d:α): ∀(k:Nat) (f:Nat→α) (n:Nat),n+1<2^k→(Tr.ofFn f k).get d n=f n:=by
 intro k
 induction k with
 |zero=>intro f n h;simp at h
 |succ k ih=>
  intro f n h;cases n with
  |zero=>rfl
  |succ m=>
   have h':m/2+1<2^k:=by rw[Nat.pow_succ]at h;omega
   rw[Tr.ofFn,Tr.get_node_succ];split
   · rw[ih _ _ h'];congr 1;omega
   · rw[ih _ _ h'];congr 1;omega
theorem Tr.has_ofFn {α:Type}: ∀(k:Nat) (f:Nat→α) (n:Nat),n+1<2^k→(Tr.ofFn f k).has n=true:=by
 intro k
 induction k with
 |zero=>intro f n h;simp at h
 |succ k ih=>
  intro f n h;cases n with
  |zero=>rfl
  |succ m=>
   have h':m/2+1<2^k:=by rw[Nat.pow_succ]at h;omega
   show(if m%2=0 then _ else _)=true;split<;>exact ih _ _ h'
def mkHp (f:Nat→Option Ob)(n:Nat)(g:List Nat):Hp:=⟨Tr.ofFn (fun o=>if o<n then f o else none) (n+2),n,g⟩
theorem Tr.get_ofFn_none {α:Type}: ∀(k:Nat) (f:Nat→Option α) (n:Nat),f n=none→(Tr.ofFn f k).get none n=none:=by
 intro k
 induction k with
 |zero=>intro f n h;rfl
 |succ k ih=>
  intro f n h;cases n with
  |zero=>exact h
  |succ m=>
   rw[Tr.ofFn,Tr.get_node_succ];split
   · exact ih _ _ (by rw[show 2*(m/2)+1=m+1 by omega];exact h)
   · exact ih _ _ (by rw[show 2*(m/2)+2=m+1 by omega];exact h)
theorem get_mkHp (f:Nat→Option Ob)(n:Nat)(g:List Nat)(o:Nat):(mkHp f n g).get o=if o<n then f o else none:=by
 unfold mkHp Hp.get;by_cases h:o<n
 · rw[Tr.get_ofFn _ _ _ _ (by have:n+2<2^(n+2):=Nat.lt_two_pow_self;omega),if_pos h]
 · simp only[if_neg h];exact Tr.get_ofFn_none _ _ _ (by simp[h])
def maskOf (acc:List Nat)(o:Oper):Nat:=o.after.toList.foldl (fun m e=>bif Region.binds .any e then (m ||| 2^e.on ||| acc.getD e.on 0)else m) 0
theorem fold_bit (acc:List Nat)(k:Nat): ∀(es:List Edge) (m:Nat),(es.foldl (fun m e=>bif Region.binds .any e then (m ||| 2^e.on ||| acc.getD e.on 0)else m) m).testBit k=true↔m.testBit k=true∨ ∃e∈es,Region.binds .any e=true∧(k=e.on∨(acc.getD e.on 0).testBit k=true):=by
 intro es
 induction es with
 |nil=>intro m;simp
 |cons e es ih=>
  intro m;rw[List.foldl_cons,ih];cases hb:Region.binds .any e with
  |false=>simp[hb]
  |true=>
   simp only[cond_true,Nat.testBit_or,Bool.or_eq_true,Nat.testBit_two_pow,decide_eq_true_eq,List.mem_cons,exists_eq_or_imp,hb,true_and];constructor
   · rintro(((h|h)|h)|h)
     · exact .inl h
     · exact .inr (.inl (.inl h.symm))
     · exact .inr (.inl (.inr h))
     · exact .inr (.inr h)
   · rintro(h|(h|h)|h)
     · exact .inl (.inl (.inl h))
     · exact .inl (.inl (.inr h.symm))
     · exact .inl (.inr h)
     · exact .inr h
theorem masksF_cons (o:Oper)(rest:List Oper)(acc:List Nat):masksF (o::rest) acc=masksF rest (acc++[maskOf acc o]):=rfl
theorem masksF_spec: ∀(l:List Oper) (acc:List Nat),(masksF l acc).take acc.length=acc∧(masksF l acc).length=acc.length+l.length∧
 ∀(j:Nat) o,l[j]? =some o→(masksF l acc).getD (acc.length+j) 0=maskOf ((masksF l acc).take (acc.length+j)) o:=by
 intro l
 induction l with
 |nil=>intro acc;exact⟨List.take_length,by simp[masksF],fun j o h=>by simp at h⟩
 |cons o l ih=>
  intro acc;rw[masksF_cons];obtain⟨h1,h2,h3⟩:=ih (acc++[maskOf acc o]);simp only[List.length_append,List.length_cons,List.length_nil,Nat.zero_add]at h1 h2 h3;refine⟨?_,by rw[h2];simp;omega,fun j q hj=> ?_⟩
  · have:=congrArg (List.take acc.length) h1;rw[List.take_take,Nat.min_eq_left (by omega),List.take_left' rfl]at this;exact this
  · cases j with
    |zero=>
     simp at hj;subst hj;have h4:(masksF l (acc++[maskOf acc o])).take acc.length=acc:=by
      have:=congrArg (List.take acc.length) h1;rw[List.take_take,Nat.min_eq_left (by omega),List.take_left' rfl]at this;exact this
     rw[Nat.add_zero,h4];have h5:(masksF l (acc++[maskOf acc o]))[acc.length]? =(acc++[maskOf acc o])[acc.length]? :=by
      rw[←h1,List.getElem?_take,if_pos (by omega)];rw[h1]
     simp[List.getD_eq_getElem?_getD,h5]
    |succ j=>
     have:=h3 j q (by simpa using hj);rw[show acc.length+(j+1)=acc.length+1+j by omega];exact this
theorem masks_bit {l:List Oper}{i:Nat}{o:Oper}(hi:l[i]? =some o)(k:Nat):((masks l).getD i 0).testBit k=true↔ ∃e∈o.after.toList,Region.binds .any e=true∧(k=e.on∨(e.on<i∧((masks l).getD e.on 0).testBit k=true)):=by
 obtain⟨_,h2,h3⟩:=masksF_spec l [];have h3:=h3 i o hi;simp only[List.length_nil,Nat.zero_add]at h3 h2;show((masksF l []).getD i 0).testBit k=true↔_;rw[h3];unfold maskOf;rw[fold_bit];have hin:i<l.length:=(List.getElem?_eq_some_iff.1 hi).1;have hg: ∀j,((masksF l []).take i).getD j 0=if j<i then (masks l).getD j 0 else 0:=fun j=>by
  rw[List.getD_eq_getElem?_getD,List.getElem?_take];split
  · rw[List.getD_eq_getElem?_getD];rfl
  · rfl
 constructor
 · rintro(h|⟨e,he,hb,h⟩)
   · simp at h
   · refine⟨e,he,hb,h.imp id fun h=> ?_⟩;rw[hg]at h;split at h
     · exact⟨‹_›,h⟩
     · simp at h
 · rintro⟨e,he,hb,h⟩;refine .inr ⟨e,he,hb,h.imp id fun h=> ?_⟩;rw[hg,if_pos h.1];exact h.2
theorem sub_bits {m done:Nat}(h:Nat.beq (m &&& done) m=true){k:Nat}(hk:m.testBit k=true):done.testBit k=true:=by
 have:=Nat.eq_of_beq_eq_true h;have h2:(m &&& done).testBit k=true:=by rw[this];exact hk
 rw[Nat.testBit_and,Bool.and_eq_true]at h2;exact h2.2
theorem linearOk_spec {ms:List Nat}: ∀(pl:List Nat) (done:Nat),linearOk ms done pl=true→pl.Nodup∧(∀i∈pl,done.testBit i=false)∧
 ∀(p i:Nat),pl[p]? =some i→ ∀k,(ms.getD i 0).testBit k=true→done.testBit k=true∨ ∃r,r<p∧pl[r]? =some k:=by
 intro pl
 induction pl with
 |nil=>intro done _;exact⟨List.nodup_nil,fun i h=>by simp at h,fun p i h=>by simp at h⟩
 |cons x pl ih=>
  intro done h;simp only[linearOk,Bool.and_eq_true,Bool.not_eq_true']at h;obtain⟨⟨h1,h2⟩,h3⟩:=h;obtain⟨k1,k2,k3⟩:=ih _ h3;have hx:x ∉ pl:=fun hx=>by
   have:=k2 x hx;simp[Nat.testBit_or]at this
  refine⟨List.nodup_cons.2 ⟨hx,k1⟩,fun i hi=> ?_,fun p i hp k hk=> ?_⟩
  · rcases List.mem_cons.1 hi with rfl|hi
    · exact h1
    · have:=k2 i hi;rw[Nat.testBit_or,Bool.or_eq_false_iff]at this;exact this.1
  · cases p with
    |zero=>
     simp at hp;subst hp;exact .inl (sub_bits h2 hk)
    |succ p=>
     rcases k3 p i (by simpa using hp) k hk with h|⟨r,hr,hrk⟩
     · rw[Nat.testBit_or,Bool.or_eq_true,Nat.testBit_two_pow,decide_eq_true_eq]at h;rcases h with h|h
       · exact .inl h
       · exact .inr ⟨0,by omega,by simp[h]⟩
     · exact .inr ⟨r+1,by omega,by simpa using hrk⟩
theorem pairsOk_spec {P:Program}{ops:List Oper}{ms:List Nat}: ∀(pl:List Nat),pairsOk P ops ms pl=true→ ∀(p r i j:Nat) a b,p<r→pl[p]? =some i→pl[r]? =some j→ops[i]? =some a→ops[j]? =some b→(ms.getD j 0).testBit i=true∨swapOk P ops a b=true:=by
 intro pl
 induction pl with
 |nil=>intro _ p r i j a b _ hp;simp at hp
 |cons x pl ih=>
  intro h p r i j a b hpr hp hr ha hb;simp only[pairsOk,Bool.and_eq_true]at h;obtain⟨h1,h2⟩:=h;cases r with
  |zero=>omega
  |succ r=>
   have hr:pl[r]? =some j:=by simpa using hr
   cases p with
   |zero=>
    simp at hp;subst hp;have:=List.all_eq_true.1 h1 j (List.mem_of_getElem? hr);rw[Bool.or_eq_true]at this;rcases this with h|h
    · exact .inl h
    · rw[ha,hb]at h;exact .inr h
   |succ p=>exact ih h2 p r i j a b (by omega) (by simpa using hp) hr ha hb
theorem nodup_length_le: ∀(n:Nat) (l:List Nat),l.Nodup→(∀x∈l,x<n)→l.length≤n:=by
 intro n
 induction n with
 |zero=>intro l _ h;cases l with
  |nil=>simp
  |cons x l=>exact absurd (h x (by simp)) (by omega)
 |succ n ih=>
  intro l hn h;have h1:=ih (l.erase n) (hn.erase n) fun x hx=>by
   have:=h x (List.mem_of_mem_erase hx);have hne:x≠n:=fun he=>by rw[he]at hx;exact(List.Nodup.mem_erase_iff hn |>.1 hx).1 rfl
   omega
  have h2:l.length≤(l.erase n).length+1:=by
   rw[List.length_erase];split<;>omega
  omega
theorem plan_full {l:List Nat}{n:Nat}(hn:l.Nodup)(h: ∀x∈l,x<n)(hl:l.length=n){i:Nat}(hi:i<n): ∃p:Nat,l[p]? =some i:=by
 by_cases hm:i∈l
 · exact List.getElem?_of_mem hm
 · have:=nodup_length_le n (i::l) (List.nodup_cons.2 ⟨hm,hn⟩) (fun x hx=>by
    rcases List.mem_cons.1 hx with rfl|hx
    · exact hi
    · exact h x hx)
   simp at this;omega
structure W0 (P:Program)(n:Nat)(h:Hp)(ι:Inj)(w:World)(h':Hp)(ι':Inj)(w':World):Prop where
 rh:RH P ι' h' w'
 fr:Fr' h ι w w'
 nx:h.nx≤h'.nx
 gd:h'.gd=h.gd
 grd: ∀q x,q<n→h.get q=some x→h.guarded q=true→h'.get q=some x
 born: ∀q y,q<n→h'.get q=some y→ ∃x,h.get q=some x
 old: ∀o x v,h'.get o=some x→ι' o=some v→(∃q y vq,h.get q=some y∧y.wr=x.wr∧ι q=some vq∧vq.blk=v.blk)∨w.heap.size≤v.blk
theorem W0.trans {P:Program}{n:Nat}{h h' h'':Hp}{ι ι' ι'':Inj}{w w' w'':World}(a:W0 P n h ι w h' ι' w')(b:W0 P n h' ι' w' h'' ι'' w''):W0 P n h ι w h'' ι'' w'' where
 rh:=b.rh
 fr:=⟨b.fr.tape.trans a.fr.tape,b.fr.os.trans a.fr.os,b.fr.output.trans a.fr.output,Nat.le_trans a.fr.size b.fr.size,fun k hk hall=>by
  rw[b.fr.rest k (Nat.lt_of_lt_of_le hk a.fr.size) ?_]
  · exact a.fr.rest k hk hall
  · intro o x v ho hx hv;rcases a.old o x v ho hv with ⟨q,y,vq,h1,h2,h3,h4⟩|hge
    · rw[←h4];exact hall q y vq h1 (h2.trans hx) h3
    · omega⟩
 nx:=Nat.le_trans a.nx b.nx
 gd:=b.gd.trans a.gd
 grd:=fun q x hn hq hg=>b.grd q x hn (a.grd q x hn hq hg) (by unfold Hp.guarded;rw[a.gd];exact hg)
 born:=fun q y hq hy=>let ⟨x,hx⟩:=b.born q y hq hy;a.born q x hq hx
 old:=fun o x v ho hv=>by
  rcases b.old o x v ho hv with ⟨q,y,vq,h1,h2,h3,h4⟩|hge
  · rcases a.old q y vq h1 h3 with ⟨r,z,vr,k1,k2,k3,k4⟩|hge
    · exact .inl ⟨r,z,vr,k1,k2.trans h2,k3,k4.trans h4⟩
    · right;rw[←h4];exact hge
  · right;exact Nat.le_trans a.fr.size hge
theorem runPlan_seq {P:Program}{cf:CallF}{ops:Array Oper}{ms:List Nat}{n0:Nat}: ∀(l:List Nat) (q:Rds×St) (s':St),runPlan P cf ops ms n0 l q=some s'→
 ∃qs:Nat→Rds×St,qs 0=q∧(∀(p i:Nat),l[p]? =some i→planStep P cf ops ms n0 i (qs p)=some (qs (p+1)))∧(qs l.length).2=s':=by
 intro l
 induction l with
 |nil=>intro q s' h;exact⟨fun _=>q,rfl,fun p i hp=>by simp at hp,Option.some.inj h⟩
 |cons x l ih=>
  intro q s' h;obtain⟨q1,h1,h2⟩:=Option.bind_eq_some_iff.1 (show(planStep P cf ops ms n0 x q).bind (runPlan P cf ops ms n0 l)=some s' from h);obtain⟨qs,g1,g2,g3⟩:=ih q1 s' h2;refine⟨fun p=>Nat.rec q (fun p _=>qs p) p,rfl,fun p i hp=> ?_,g3⟩;cases p with
  |zero=>
   simp at hp;subst hp;show planStep P cf ops ms n0 x q=some (qs 0);rw[g1];exact h1
  |succ p=>exact g2 p i (by simpa using hp)
inductive Did (P:Program)(cf:CallF)(ops:Array Oper)(ms:List Nat)(n0 i:Nat)(o:Oper)(q q':Rds×St):Prop where
 |skip (hw:wantedF ops q.2.t o=false) (ht:q'.2.t=q.2.setT o.dst undef) (hh:q'.2.h=q.2.h) (hr:q'.1=q.1)
 |pure (hw:wantedF ops q.2.t o=true) (hk:kindOf P o.op= .pure_) (v:Value) (hv:stepPure P q.2.t o=some v) (ht:q'.2.t=q.2.setT o.dst v) (hh:q'.2.h=q.2.h) (hr:q'.1=q.1)
 |read (hw:wantedF ops q.2.t o=true) (hk:kindOf P o.op= .read) (v:Value) (ids:List Nat) (hv:stepRead P q.2.t o q.2.h=some (v,ids)) (ht:q'.2.t=q.2.setT o.dst v) (hh:q'.2.h=q.2.h) (hr:q'.1=(i,ids)::q.1)
 |mk (hw:wantedF ops q.2.t o=true) (hk:kindOf P o.op= .mk) (x:Ob) (f:Nat→Value) (hv:stepMk P q.2.t o=some (x,f)) (ht:q'.2.t=q.2.setT o.dst (f (n0+i))) (hh:q.2.h.addAt (n0+i) x=some q'.2.h) (hr:q'.1=q.1)
 |eff (hw:wantedF ops q.2.t o=true) (hk:kindOf P o.op= .eff) (v:Value) (h2:Hp) (hv:stepEff P cf q.2.t o { q.2.h with gd:=(q.1.filter fun r=> !((ms.getD i 0).testBit r.1)).flatMap (·.2)++q.2.h.gd }=some (v,h2)) (ht:q'.2.t=q.2.setT o.dst v) (hh:q'.2.h= { h2 with gd:=q.2.h.gd }) (hr:q'.1=q.1)
theorem planStep_did {P:Program}{cf:CallF}{ops:Array Oper}{ms:List Nat}{n0 i:Nat}{q q':Rds×St}(h:planStep P cf ops ms n0 i q=some q'): ∃o,ops[i]? =some o∧q'.2.n=q.2.n∧Did P cf ops ms n0 i o q q':=by
 unfold planStep at h;obtain⟨o,ho,h1⟩:=Option.bind_eq_some_iff.1 h;rw[nth_eq,Array.getElem?_toList]at ho;refine⟨o,ho,?_⟩;cases hw:wantedF ops q.2.t o with
 |false=>
  rw[hw,cond_false]at h1;obtain rfl:=Option.some.inj h1;exact⟨rfl,.skip hw rfl rfl rfl⟩
 |true=>
  rw[hw,cond_true]at h1;split at h1
  · obtain⟨v,hv,rfl⟩:=Option.map_eq_some_iff.1 h1;exact⟨rfl,.pure hw ‹_› v hv rfl rfl rfl⟩
  · obtain⟨⟨v,ids⟩,hv,rfl⟩:=Option.map_eq_some_iff.1 h1;exact⟨rfl,.read hw ‹_› v ids hv rfl rfl rfl⟩
  · obtain⟨⟨x,f⟩,hv,h2⟩:=Option.bind_eq_some_iff.1 h1;obtain⟨h',hh,rfl⟩:=Option.map_eq_some_iff.1 h2;exact⟨rfl,.mk hw ‹_› x f hv rfl hh rfl⟩
  · obtain⟨⟨v,h2⟩,hv,rfl⟩:=Option.map_eq_some_iff.1 h1;exact⟨rfl,.eff hw ‹_› v h2 hv rfl rfl rfl⟩
structure PlanOk (P:Program)(ops:Array Oper)(ms pl:List Nat):Prop where
 len:pl.length=ops.size
 nodup:pl.Nodup
 full: ∀i,i<ops.size→ ∃p:Nat,pl[p]? =some i
 lin: ∀(p i:Nat),pl[p]? =some i→ ∀k,(ms.getD i 0).testBit k=true→ ∃r,r<p∧pl[r]? =some k
 pairs: ∀(p r i j:Nat) a b,p<r→pl[p]? =some i→pl[r]? =some j→ops[i]? =some a→ops[j]? =some b→(ms.getD j 0).testBit i=true∨swapOk P ops.toList a b=true
theorem planOk_ok {P:Program}{ops:Array Oper}{pl:List Nat}(h:planOk P ops.toList (masks ops.toList) pl=true):PlanOk P ops (masks ops.toList) pl:=by
 unfold planOk at h;simp only[Bool.and_eq_true]at h;obtain⟨⟨⟨h1,h2⟩,h3⟩,h4⟩:=h;have hl:pl.length=ops.size:=by rw[Nat.eq_of_beq_eq_true h1];simp
 have h2: ∀x∈pl,x<ops.size:=fun x hx=>by simpa using List.all_eq_true.1 h2 x hx
 obtain⟨l1,l2,l3⟩:=linearOk_spec pl 0 h3;refine⟨hl,l1,fun i hi=>plan_full l1 h2 hl hi,fun p i hp k hk=>(l3 p i hp k hk).resolve_left (by simp),fun p r i j a b hpr hp hr ha hb=>pairsOk_spec pl h4 p r i j a b hpr hp hr (by simpa using ha) (by simpa using hb)⟩
def Laid (P:Program)(ops:Array Oper)(pl:List Nat)(n0:Nat)(qs:Nat→Rds×St)(r o:Nat)(x:Ob):Prop:=
 ∃i op f,pl[r]? =some i∧ops[i]? =some op∧kindOf P op.op= .mk∧wantedF ops (qs r).2.t op=true∧stepMk P (qs r).2.t op=some (x,f)∧o=n0+i
def guardOf (ms:List Nat)(i:Nat)(q:Rds×St):List Nat:=(q.1.filter fun r=> !((ms.getD i 0).testBit r.1)).flatMap (·.2)++q.2.h.gd
structure EffF (ms:List Nat)(i:Nat)(q q':Rds×St):Prop where
 grd: ∀o x,q.2.h.get o=some x→(guardOf ms i q).any (Nat.beq o)=true→q'.2.h.get o=some x
 born: ∀o y,o<q.2.h.nx→q'.2.h.get o=some y→ ∃x,q.2.h.get o=some x
 nx:q.2.h.nx≤q'.2.h.nx
section
variable (P:Program)(cf:CallF)(ops:Array Oper)(pl:List Nat)(s0:St)(qs:Nat→Rds×St)(ι0:Inj)(w0:World)(ds:List Deferred)(ds:List Deferred)
structure InvP (L:Nat→Bool)(a:Act)(w:World)(p0:Nat)(H:Hp)(ι:Inj):Prop where
 p0N:p0≤pl.length
 closed: ∀i,i<ops.size→L i=true→ ∀k,((masks ops.toList).getD i 0).testBit k=true→L k=true
 c1: ∀r i o,pl[r]? =some i→ops[i]? =some o→kindOf P o.op= .eff→(L i=true↔r<p0)
 c2: ∀r i o,r<p0→pl[r]? =some i→ops[i]? =some o→kindOf P o.op= .mk→L i=true
 cH: ∀o x,H.get o=some x↔((qs p0).2.h.get o=some x∨ ∃r i,p0≤r∧pl[r]? =some i∧L i=true∧Laid P ops pl s0.h.nx qs r o x)
 nx:H.nx=(qs p0).2.h.nx
 gd:H.gd=s0.h.gd
 eff: ∀r i o,r<p0→pl[r]? =some i→ops[i]? =some o→kindOf P o.op= .eff→EffF (masks ops.toList) i (qs r) (qs (r+1))
 idn: ∀i,i<ops.size→L i=false→ι (s0.h.nx+i)=none
 ext:Ext s0.h.nx ι0 ι
 went:W0 P s0.h.nx s0.h ι0 w0 H ι w
 size:a.tmps.size=s0.n
 any: ∀d,∃u,VR ι u (a.tmps.getD d undef)
 slots: ∀d p,p≤pl.length→(∀r i o,pl[r]? =some i→ops[i]? =some o→o.dst=some d→(L i=true↔r<p))→VR ι (slot (qs p).2.t d) (a.tmps.getD d undef)
 dfr:a.defers=ds
end
section
variable {P:Program}{cf:CallF}{ops:Array Oper}{pl:List Nat}{s0:St}{qs:Nat→Rds×St}{ι0:Inj}{w0:World}{ds:List Deferred}
 (hp:PlanOk P ops (masks ops.toList) pl)
 (h0:qs 0=([],{ s0 with h:= { s0.h with nx:=s0.h.nx+ops.size } }))
 (hq: ∀(p i:Nat),pl[p]? =some i→ ∃o,ops[i]? =some o∧(qs (p+1)).2.n=(qs p).2.n∧Did P cf ops (masks ops.toList) s0.h.nx i o (qs p) (qs (p+1)))
 (R0:RH P ι0 s0.h w0)
include hq in
theorem quiet_step {r i:Nat}{o:Oper}(hr:pl[r]? =some i)(ho:ops[i]? =some o)(hk:kindOf P o.op≠ .eff∨wantedF ops (qs r).2.t o=false):
 (∀b x,(qs (r+1)).2.h.get b=some x→(qs r).2.h.get b=some x∨Laid P ops pl s0.h.nx qs r b x)∧(∀b x,(qs r).2.h.get b=some x→(qs (r+1)).2.h.get b=some x)∧(qs (r+1)).2.h.nx=(qs r).2.h.nx∧(qs (r+1)).2.h.gd=(qs r).2.h.gd:=by
 obtain⟨o',ho',_,hd⟩:=hq r i hr;rw[ho]at ho';obtain rfl:=Option.some.inj ho';cases hd with
 |skip _ _ hh _=>rw[hh];exact⟨fun _ _ h=> .inl h,fun _ _ h=>h,rfl,rfl⟩
 |pure _ _ _ _ _ hh _=>rw[hh];exact⟨fun _ _ h=> .inl h,fun _ _ h=>h,rfl,rfl⟩
 |read _ _ _ _ _ _ hh _=>rw[hh];exact⟨fun _ _ h=> .inl h,fun _ _ h=>h,rfl,rfl⟩
 |mk hw hk' x f hv _ hh _=>
  obtain⟨g1,g2,g3,g4⟩:=Hp.get_addAt hh;refine⟨fun b y hb=> ?_,fun b y hb=> ?_,g1,g2⟩
  · rw[g4]at hb;split at hb
    · split at hb
      · obtain rfl:=Option.some.inj hb;exact .inr ⟨i,o,f,hr,ho,hk',hw,hv,‹_›⟩
      · cases hb
    · exact .inl hb
  · rw[g4,if_neg]
    · exact hb
    · rintro rfl;rw[g3]at hb;cases hb
 |eff hw hk'=>
  rcases hk with hk|hk
  · exact absurd hk' hk
  · rw[hk]at hw;cases hw
include hq in
theorem quiet_run {p0:Nat}: ∀(k:Nat),p0+k≤pl.length→(∀r i o,p0≤r→r<p0+k→pl[r]? =some i→ops[i]? =some o→kindOf P o.op≠ .eff)→
 (∀b x,(qs (p0+k)).2.h.get b=some x→(qs p0).2.h.get b=some x∨ ∃r,p0≤r∧r<p0+k∧Laid P ops pl s0.h.nx qs r b x)∧(∀b x,(qs p0).2.h.get b=some x→(qs (p0+k)).2.h.get b=some x)∧(qs (p0+k)).2.h.nx=(qs p0).2.h.nx∧(qs (p0+k)).2.h.gd=(qs p0).2.h.gd:=by
 intro k
 induction k with
 |zero=>intro _ _;exact⟨fun _ _ h=> .inl h,fun _ _ h=>h,rfl,rfl⟩
 |succ k ih=>
  intro hl hno;obtain⟨i1,i2,i3,i4⟩:=ih (by omega) (fun r i o h1 h2=>hno r i o h1 (by omega));obtain⟨i,hi⟩: ∃i,pl[p0+k]? =some i:=⟨_,List.getElem?_eq_getElem (show p0+k<pl.length by omega)⟩;obtain⟨o,ho,_,_⟩:=hq _ i hi;obtain⟨s1,s2,s3,s4⟩:=quiet_step hq hi ho (.inl (hno _ i o (by omega) (by omega) hi ho));refine⟨fun b x hb=> ?_,fun b x hb=>s2 b x (i2 b x hb),s3.trans i3,s4.trans i4⟩;rcases s1 b x hb with hb|hl
  · rcases i1 b x hb with hb|⟨r,h1,h2,h3⟩
    · exact .inl hb
    · exact .inr ⟨r,h1,by omega,h3⟩
  · exact .inr ⟨p0+k,by omega,by omega,hl⟩
end
theorem VR.undef_of {ι:Inj}{v:Value}(h:VR ι v undef):v=undef:=by
 cases h with
 |flat=>rfl
 |tup ha=>
  rename_i a _;have:a= #[]:=Array.eq_empty_of_size_eq_zero ha.symm;rw[this];rfl
theorem Tr.get_ofFn_d {α:Type}(d:α): ∀(k:Nat) (f:Nat→α) (n:Nat),f n=d→(Tr.ofFn f k).get d n=d:=by
 intro k
 induction k with
 |zero=>intro f n h;rfl
 |succ k ih=>
  intro f n h;cases n with
  |zero=>exact h
  |succ m=>
   rw[Tr.ofFn,Tr.get_node_succ];split
   · exact ih _ _ (by rw[show 2*(m/2)+1=m+1 by omega];exact h)
   · exact ih _ _ (by rw[show 2*(m/2)+2=m+1 by omega];exact h)
theorem slot_setT {s:St}{d:Option Nat}{v:Value}{k:Nat}(h:d≠some k∨s.n≤k):slot (s.setT d v) k=slot s.t k:=by
 cases d with
 |none=>rfl
 |some d=>
  simp only[St.setT];cases hd:Nat.blt d s.n with
  |false=>rfl
  |true=>
   have hd:d<s.n:=by simpa using hd
   have:k≠d:=by
    rcases h with h|h
    · rintro rfl;exact h rfl
    · omega
   simp only[cond_true,slot,Tr.get_set,if_neg this]
theorem slot_setT_same {s:St}{d:Nat}{v:Value}(h:d<s.n)(hh:s.t.has d=true):slot (s.setT (some d) v) d=v:=by
 have:Nat.blt d s.n=true:=by simpa using h
 simp only[St.setT,this,cond_true,slot,Tr.get_set,if_pos,hh]
theorem has_setT {s:St}{d:Option Nat}{v:Value}{k:Nat}:(s.setT d v).has k=s.t.has k:=by
 cases d with
 |none=>rfl
 |some d=>
  simp only[St.setT];cases Nat.blt d s.n with
  |false=>rfl
  |true=>simp only[cond_true,Tr.has_set]
theorem Did.set {P:Program}{cf:CallF}{ops:Array Oper}{ms:List Nat}{n0 i:Nat}{o:Oper}{q q':Rds×St}(h:Did P cf ops ms n0 i o q q'): ∃v,q'.2.t=q.2.setT o.dst v:=by
 cases h with
 |skip _ ht=>exact⟨_,ht⟩
 |pure _ _ _ _ ht=>exact⟨_,ht⟩
 |read _ _ _ _ _ ht=>exact⟨_,ht⟩
 |mk _ _ _ _ _ ht=>exact⟨_,ht⟩
 |eff _ _ _ _ _ ht=>exact⟨_,ht⟩
section
variable {P:Program}{cf:CallF}{ops:Array Oper}{pl:List Nat}{s0:St}{qs:Nat→Rds×St}
 (h0:qs 0=([],{ s0 with h:= { s0.h with nx:=s0.h.nx+ops.size } }))
 (hq: ∀(p i:Nat),pl[p]? =some i→ ∃o,ops[i]? =some o∧(qs (p+1)).2.n=(qs p).2.n∧Did P cf ops (masks ops.toList) s0.h.nx i o (qs p) (qs (p+1)))
include h0 hq
theorem seq_n: ∀p,p≤pl.length→(qs p).2.n=s0.n:=by
 intro p
 induction p with
 |zero=>intro _;rw[h0]
 |succ p ih=>
  intro h;obtain⟨o,_,h2,_⟩:=hq p _ (List.getElem?_eq_getElem (show p<pl.length by omega));rw[h2];exact ih (by omega)
theorem seq_has (hh: ∀d,d<s0.n→s0.t.has d=true): ∀p,p≤pl.length→ ∀d,d<s0.n→(qs p).2.t.has d=true:=by
 intro p
 induction p with
 |zero=>intro _ d hd;rw[h0];exact hh d hd
 |succ p ih=>
  intro h d hd;obtain⟨o,_,_,h3⟩:=hq p _ (List.getElem?_eq_getElem (show p<pl.length by omega));obtain⟨v,hv⟩:=h3.set;rw[hv,has_setT];exact ih (by omega) d hd
theorem seq_slot {d p:Nat}: ∀k,p+k≤pl.length→((∀r i o,p≤r→r<p+k→pl[r]? =some i→ops[i]? =some o→o.dst≠some d)∨s0.n≤d)→slot (qs (p+k)).2.t d=slot (qs p).2.t d:=by
 intro k
 induction k with
 |zero=>intro _ _;rfl
 |succ k ih=>
  intro h hno;obtain⟨o,ho,_,h3⟩:=hq (p+k) _ (List.getElem?_eq_getElem (show p+k<pl.length by omega));obtain⟨v,hv⟩:=h3.set;show slot (qs (p+k+1)).2.t d=_;rw[hv,slot_setT]
  · exact ih (by omega) (hno.imp (fun hno r i o h1 h2=>hno r i o h1 (by omega)) id)
  · rcases hno with hno|hno
    · exact .inl (hno (p+k) _ o (by omega) (by omega) (List.getElem?_eq_getElem (show p+k<pl.length by omega)) ho)
    · right;rw[seq_n h0 hq (p+k) (by omega)];exact hno
theorem seq_slot_to {d p p':Nat}(hpp:p≤p')(hl:p'≤pl.length)(hno:(∀r i o,p≤r→r<p'→pl[r]? =some i→ops[i]? =some o→o.dst≠some d)∨s0.n≤d):slot (qs p').2.t d=slot (qs p).2.t d:=by
 obtain⟨k,rfl⟩:=Nat.exists_eq_add_of_le hpp;exact seq_slot h0 hq k hl hno
end
section
variable {P:Program}{ops:Array Oper}{pl:List Nat}(hp:PlanOk P ops (masks ops.toList) pl){L:Nat→Bool}(hcl: ∀i,i<ops.size→L i=true→ ∀k,((masks ops.toList).getD i 0).testBit k=true→L k=true)
 {i p:Nat} {o:Oper} (hi:ops[i]? =some o) (hpi:pl[p]? =some i) (hLi:L i=false) (hr: ∀k,((masks ops.toList).getD i 0).testBit k=true→L k=true)
include hp hi hpi hr
theorem before_in {r j:Nat}{b:Oper}(hrp:r<p)(hrj:pl[r]? =some j)(hj:ops[j]? =some b)(hs:swapOk P ops.toList b o=false):L j=true:=by
 rcases hp.pairs r p j i b o hrp hrj hpi hj hi with h|h
 · exact hr j h
 · rw[hs]at h;cases h
omit hr
include hcl hLi
theorem behind_out {r j:Nat}{b:Oper}(hrp:p<r)(hrj:pl[r]? =some j)(hj:ops[j]? =some b)(hs:swapOk P ops.toList o b=false):L j=false:=by
 rcases hp.pairs p r i j o b hrp hpi hrj hi hj with h|h
 · cases hL:L j with
   |false=>rfl
   |true=>rw[hcl j (Array.getElem?_eq_some_iff.1 hj).1 hL i h]at hLi;cases hLi
 · rw[hs]at h;cases h
include hr
theorem cut_at {d:Nat}(hd:d∈namesOf ops.toList o): ∀r j b,pl[r]? =some j→ops[j]? =some b→b.dst=some d→(L j=true↔r<p):=by
 intro r j b hrj hj hb;have hany:(namesOf ops.toList o).any (Nat.beq d)=true:=List.any_eq_true.2 ⟨d,hd,Nat.beq_refl d⟩;rcases Nat.lt_trichotomy r p with h|h|h
 · have:=before_in hp hi hpi hr h hrj hj (by unfold swapOk;rw[hb];simp[hany]);exact⟨fun _=>h,fun _=>this⟩
 · subst h;rw[hpi]at hrj;obtain rfl:=Option.some.inj hrj;rw[hLi];exact⟨fun h=>(by cases h),fun h=>absurd h (Nat.lt_irrefl _)⟩
 · have:=behind_out hp hcl hi hpi hLi h hrj hj (by
    unfold swapOk;rw[hb];simp only[hany,Bool.not_true,Bool.and_false,Bool.false_and])
   rw[this];exact⟨fun h=>(by cases h),fun h'=>by omega⟩
end
theorem stepRead_heap {P:Program}{t:Fr}{o:Oper}{h h':Hp}{v:Value}{ids:List Nat}(hs:stepRead P t o h=some (v,ids))(hi: ∀b∈ids,∀x,h.get b=some x→h'.get b=some x):stepRead P t o h'=some (v,ids):=by
 obtain⟨dst,op,ty,pos,af,gu⟩:=o;cases op with
 |load s x=>
  simp only[stepRead]at hs ⊢;obtain⟨xv,hx,hs1⟩:=Option.bind_eq_some_iff.1 hs;rw[hx];split at hs1
  · rename_i b off;obtain⟨ag,hag,hs2⟩:=Option.bind_eq_some_iff.1 hs1;have key: ∀ {n l},ids=[b]→readAt h b off n=some l→readAt h' b off n=some l:=fun {n l} he hr=>by
     obtain⟨c,e,m,hg,_,_⟩:=readAt_some hr;have:=hi b (by rw[he];simp) _ hg;unfold readAt at hr ⊢;rw[hg]at hr;rw[this];exact hr
    simp only[Option.bind_eq_bind,Option.bind_some,hag]at hs2 ⊢;cases ag with
    |true=>
     simp only[cond_true]at hs2 ⊢;obtain⟨n,hn,hs3⟩:=Option.bind_eq_some_iff.1 hs2;obtain⟨l,hl,hs4⟩:=Option.bind_eq_some_iff.1 hs3;have he:ids=[b]:=by injection hs4 with hs4;injection hs4 with _ h2;exact h2.symm
     rw[hn];simp only[Option.bind_some,key he hl];exact hs4
    |false=>
     simp only[cond_false]at hs2 ⊢;obtain⟨l,hl,hs4⟩:=Option.bind_eq_some_iff.1 hs2;have he:ids=[b]:=by injection hs4 with hs4;injection hs4 with _ h2;exact h2.symm
     simp only[key he hl,Option.bind_some];exact hs4
  · cases hs1
 |slice s x lo hi' mx=>
  simp only[stepRead]at hs ⊢;obtain⟨xv,hx,hs1⟩:=Option.bind_eq_some_iff.1 hs;rw[hx];simp only[Option.bind_eq_bind,Option.bind_some]at hs1 ⊢;split at hs1
  · exact hs1
  · obtain⟨l,hl,hs2⟩:=Option.bind_eq_some_iff.1 hs1;obtain⟨m,hm,hs3⟩:=Option.bind_eq_some_iff.1 hs2;obtain⟨q,hq,hs4⟩:=Option.bind_eq_some_iff.1 hs3;obtain⟨r,hr,hs5⟩:=Option.bind_eq_some_iff.1 hs4;have he:ids=blocksOf xv:=by injection hs5 with hs5;injection hs5 with _ h2;exact h2.symm
    rw[hl];simp only[Option.bind_some,hm,hq];have:sliceV P h' s xv l m q=some r:=by
     unfold sliceV at hr ⊢;split at hr
     · rename_i e a len cap hu _;obtain⟨esz,hz,hr1⟩:=Option.bind_eq_some_iff.1 hr;obtain⟨vis,hvis,hr2⟩:=Option.bind_eq_some_iff.1 hr1;have hv':seen h' e esz (.slice a len cap)=some vis:=by
        cases a with
        |none=>exact hvis
        |some ad=>
         obtain⟨b,off,vw⟩:=ad;cases vw with
         |some _=>cases hvis
         |none=>
          simp only[seen]at hvis ⊢;cases hc:Nat.beq cap unk with
          |false=>rw[hc]at hvis;exact hvis
          |true=>
           rw[hc,cond_true]at hvis;simp only[cond_true];cases hg:h.get b with
           |none=>rw[hg]at hvis;cases hvis
           |some y=>
            rw[hg]at hvis;rw[hi b (by rw[he];simp[blocksOf]) y hg];exact hvis
       simp only[Option.bind_eq_bind,hz,Option.bind_some,hv'];exact hr2
     · exact hr
     · cases hr
    rw[this];exact hs5
 |convert src d x=>
  simp only[stepRead]at hs ⊢;obtain⟨xv,hx,hs1⟩:=Option.bind_eq_some_iff.1 hs;obtain⟨e,hb,hs2⟩:=Option.bind_eq_some_iff.1 hs1;clear hs hs1;rw[hx];simp only[Option.bind_eq_bind,Option.bind_some,hb]at hs2 ⊢;split at hs2
  · exact hs2
  · rename_i b off n cap hd;obtain⟨l,hl,hs3⟩:=Option.bind_eq_some_iff.1 hs2;obtain⟨bs,hbs,hs4⟩:=Option.bind_eq_some_iff.1 hs3;have he:ids=[b]:=by injection hs4 with hs4;injection hs4 with _ h2;exact h2.symm
    have hl':readAt h' b off n=some l:=by
     obtain⟨c,e,m,hg,_,_⟩:=readAt_some hl;have:=hi b (by rw[he];simp) _ hg;unfold readAt at hl ⊢;rw[hg]at hl;rw[this];exact hl
    simp only[hl',Option.bind_some,hbs];exact hs4
  · cases hs2
 |_=>cases hs
section
variable {P:Program}{cf:CallF}{ops:Array Oper}{pl:List Nat}{s0:St}{qs:Nat→Rds×St}{ι0 ι:Inj}{w0 w:World}{ds:List Deferred}{L:Nat→Bool}{a:Act}{p0:Nat}{H:Hp}
 (hp:PlanOk P ops (masks ops.toList) pl)
 (h0:qs 0=([],{ s0 with h:= { s0.h with nx:=s0.h.nx+ops.size } }))
 (hq: ∀(p i:Nat),pl[p]? =some i→ ∃o,ops[i]? =some o∧(qs (p+1)).2.n=(qs p).2.n∧Did P cf ops (masks ops.toList) s0.h.nx i o (qs p) (qs (p+1)))
 (R0:RH P ι0 s0.h w0) (I:InvP P ops pl s0 qs ι0 w0 ds L a w p0 H ι)
include hp h0 hq R0 I
omit hp in
theorem z_run: ∀r,r≤p0→s0.h.nx+ops.size≤(qs r).2.h.nx∧(qs r).2.h.gd=s0.h.gd∧ ∀j y,(qs r).2.h.get (s0.h.nx+j)=some y→j<ops.size→ ∃r',r'<r∧pl[r']? =some j:=by
 intro r
 induction r with
 |zero=>
  intro _;rw[h0];refine⟨Nat.le_refl _,rfl,fun j y hj _=> ?_⟩;have:=(R0.live _ y hj).1;omega
 |succ r ih=>
  intro hr;obtain⟨i1,i2,i3⟩:=ih (by omega);have hlen:=I.p0N;obtain⟨i,hi⟩: ∃i,pl[r]? =some i:=⟨_,List.getElem?_eq_getElem (show r<pl.length by omega)⟩;obtain⟨o,ho,_,hd⟩:=hq r i hi;by_cases hk:kindOf P o.op= .eff
  · have F:=I.eff r i o (by omega) hi ho hk;refine⟨Nat.le_trans i1 F.nx,?_,fun j y hj hjs=> ?_⟩
    · cases hd with
      |skip _ _ hh _=>rw[hh];exact i2
      |pure _ _ _ _ _ hh _=>rw[hh];exact i2
      |read _ _ _ _ _ _ hh _=>rw[hh];exact i2
      |mk _ hk'=>rw[hk]at hk';cases hk'
      |eff _ _ _ _ _ _ hh _=>rw[hh];exact i2
    · obtain⟨x,hx⟩:=F.born _ y (by omega) hj;obtain⟨r',h1,h2⟩:=i3 j x hx hjs;exact⟨r',by omega,h2⟩
  · obtain⟨s1,s2,s3,s4⟩:=quiet_step hq hi ho (.inl hk);refine⟨by rw[s3];exact i1,s4.trans i2,fun j y hj hjs=> ?_⟩;rcases s1 _ y hj with hj|⟨i',op,f,g1,g2,g3,g4,g5,g6⟩
    · obtain⟨r',h1,h2⟩:=i3 j y hj hjs;exact⟨r',by omega,h2⟩
    · rw[hi]at g1;obtain rfl:=Option.some.inj g1;obtain rfl:j=i:=by omega
      exact⟨r,by omega,hi⟩
variable {i p:Nat}{o:Oper}(hi:ops[i]? =some o)(hpi:pl[p]? =some i)(hLi:L i=false)(hr: ∀k,((masks ops.toList).getD i 0).testBit k=true→L k=true)
include hi hpi hLi hr
omit h0 R0 in
theorem no_eff (hsw: ∀b,kindOf P b.op= .eff→swapOk P ops.toList b o=false): ∀r j b,p0≤r→r<p→pl[r]? =some j→ops[j]? =some b→kindOf P b.op≠ .eff:=by
 have _:=hq;have _:=hLi;intro r j b h1 h2 h3 h4 h5;have:=before_in hp hi hpi hr h2 h3 h4 (hsw b h5);have:=(I.c1 r j b h3 h4 h5).1 this;omega
omit h0 R0 in
theorem plan_sub (hle:p0≤p)(hsw: ∀b,kindOf P b.op= .eff→swapOk P ops.toList b o=false)(hsm: ∀b,kindOf P b.op= .mk→swapOk P ops.toList b o=false):
 (∀b x,(qs p).2.h.get b=some x→H.get b=some x)∧(qs p).2.h.nx=H.nx:=by
 obtain⟨k,rfl⟩:=Nat.exists_eq_add_of_le hle;have hlt:p0+k<pl.length:=(List.getElem?_eq_some_iff.1 hpi).1;have hno:=no_eff hp hq I hi hpi hLi hr hsw;obtain⟨q1,q2,q3,q4⟩:=quiet_run hq k (by omega) hno;refine⟨fun b x hb=> ?_,by rw[q3,I.nx]⟩;rcases q1 b x hb with hb|⟨r,h1,h2,hl⟩
 · exact(I.cH b x).2 (.inl hb)
 · obtain⟨j,op,f,g1,g2,g3,g4,g5,g6⟩:=hl;exact(I.cH b x).2 (.inr ⟨r,j,h1,g1,before_in hp hi hpi hr h2 g1 g2 (hsm op g3),⟨j,op,f,g1,g2,g3,g4,g5,g6⟩⟩)
omit h0 R0 in
theorem read_stays (hk:kindOf P o.op= .read){ids:List Nat}(hrd:(qs (p+1)).1=(i,ids)::(qs p).1)(hh:(qs (p+1)).2.h=(qs p).2.h): ∀b∈ids,∀x,(qs p).2.h.get b=some x→H.get b=some x:=by
 have swe: ∀b:Oper,kindOf P b.op= .eff→swapOk P ops.toList b o=false:=fun b hb=>by unfold swapOk;rw[hb,hk];simp
 have swm: ∀b:Oper,kindOf P b.op= .mk→swapOk P ops.toList b o=false:=fun b hb=>by unfold swapOk;rw[hb,hk];simp
 intro b hb x hx;rcases Nat.lt_or_ge p p0 with hlt|hge
 · have key: ∀k,p+1+k≤p0→(i,ids)∈(qs (p+1+k)).1∧(qs (p+1+k)).2.h.get b=some x:=by
    intro k
    induction k with
    |zero=>intro _;exact⟨by rw[Nat.add_zero,hrd];simp,by rw[Nat.add_zero,hh];exact hx⟩
    |succ k ih=>
     intro hle;obtain⟨k1,k2⟩:=ih (by omega);have hlen:=I.p0N;obtain⟨j,hj⟩: ∃j,pl[p+1+k]? =some j:=⟨_,List.getElem?_eq_getElem (show p+1+k<pl.length by omega)⟩;obtain⟨q,hqj,_,hd⟩:=hq _ j hj;refine⟨?_,?_⟩
     · show(i,ids)∈(qs (p+1+k+1)).1;cases hd with
       |skip _ _ _ h=>rw[h];exact k1
       |pure _ _ _ _ _ _ h=>rw[h];exact k1
       |read _ _ _ _ _ _ _ h=>rw[h];exact List.mem_cons_of_mem _ k1
       |mk _ _ _ _ _ _ _ h=>rw[h];exact k1
       |eff _ _ _ _ _ _ _ h=>rw[h];exact k1
     · show(qs (p+1+k+1)).2.h.get b=some x;by_cases he:kindOf P q.op= .eff
       · refine(I.eff (p+1+k) j q (by omega) hj hqj he).grd b x k2 ?_;have hLj:L j=true:=(I.c1 _ j q hj hqj he).2 (by omega);have hnm:((masks ops.toList).getD j 0).testBit i=false:=by
          cases hm:((masks ops.toList).getD j 0).testBit i with
          |false=>rfl
          |true=>rw[I.closed j (Array.getElem?_eq_some_iff.1 hqj).1 hLj i hm]at hLi;cases hLi
         refine List.any_eq_true.2 ⟨b,?_,Nat.beq_refl b⟩;unfold guardOf;refine List.mem_append_left _ (List.mem_flatMap.2 ⟨(i,ids),List.mem_filter.2 ⟨k1,by show(!((masks ops.toList).getD j 0).testBit i)=true;rw[hnm];rfl⟩,hb⟩)
       · exact(quiet_step hq hj hqj (.inl he)).2.1 b x k2
   obtain⟨k,hk⟩:=Nat.exists_eq_add_of_le (show p+1≤p0 by omega);have:=(key k (by omega)).2;rw[←hk]at this;exact(I.cH b x).2 (.inl this)
 · exact(plan_sub hp hq I hi hpi hLi hr hge swe swm).1 b x hx
end
theorem stepMk_fix {P:Program}{t:Fr}{o:Oper}{x:Ob}{f:Nat→Value}(hs:stepMk P t o=some (x,f)):x.wr=true:=by
 have key: ∀ {z:Option (Ob×(Nat→Value))},z=some (x,f)→(∀y g,z=some (y,g)→y.wr=true)→x.wr=true:=fun h k=>k _ _ h;obtain⟨dst,op,ty,pos,af,gu⟩:=o;cases op with
 |alloc e=>
  simp only[stepMk,Option.bind_eq_bind,Option.bind_eq_some_iff]at hs;obtain⟨_,_,_,_,_,_,hs⟩:=hs;injection hs with hs;injection hs with h1 _;subst h1;rfl
 |box e y=>
  simp only[stepMk,Option.bind_eq_bind,Option.bind_eq_some_iff]at hs;obtain⟨_,_,_,_,hs⟩:=hs;injection hs with hs;injection hs with h1 _;subst h1;rfl
 |buildSlice s n ps=>
  simp only[stepMk,Option.bind_eq_bind,Option.bind_eq_some_iff]at hs;obtain⟨_,_,_,_,_,_,_,_,_,_,_,_,_,_,_,_,hs⟩:=hs;injection hs with hs;injection hs with h1 _;subst h1;rfl
 |makeSlice s a b=>
  simp only[stepMk,Option.bind_eq_bind,Option.bind_eq_some_iff]at hs;obtain⟨_,_,_,_,_,_,_,_,_,_,hs⟩:=hs;split at hs
  · obtain⟨_,hs⟩:=cond_some hs;injection hs with hs;injection hs with h1 _;subst h1;rfl
  · cases hs
 |_=>cases hs
section
variable {P:Program}{cf:CallF}{ops:Array Oper}{pl:List Nat}{s0:St}{qs:Nat→Rds×St}{ι0 ι:Inj}{w0 w:World}{ds:List Deferred}{L:Nat→Bool}{a:Act}{p0:Nat}{H:Hp}
 (hc:COk P cf)
 (hp:PlanOk P ops (masks ops.toList) pl)
 (h0:qs 0=([],{ s0 with h:= { s0.h with nx:=s0.h.nx+ops.size } }))
 (hq: ∀(p i:Nat),pl[p]? =some i→ ∃o,ops[i]? =some o∧(qs (p+1)).2.n=(qs p).2.n∧Did P cf ops (masks ops.toList) s0.h.nx i o (qs p) (qs (p+1)))
 (R0:RH P ι0 s0.h w0) (hhas: ∀d,d<s0.n→s0.t.has d=true) (hbig: ∀d,s0.n≤d→slot s0.t d=undef) (I:InvP P ops pl s0 qs ι0 w0 ds L a w p0 H ι)
include hc hp h0 hq R0 hhas hbig I
def more (L:Nat→Bool)(i:Nat):Nat→Bool:=fun k=>L k||Nat.beq k i
omit hc hp h0 hq R0 hhas hbig I in
theorem more_iff {L:Nat→Bool}{i k:Nat}:more L i k=true↔L k=true∨k=i:=by
 unfold more;rw[Bool.or_eq_true];exact or_congr Iff.rfl ⟨Nat.eq_of_beq_eq_true,fun h=>by rw[h];exact Nat.beq_refl i⟩
theorem inv_step {i:Nat}(hiN:i<ops.size)(hLi:L i=false)(hr: ∀k,((masks ops.toList).getD i 0).testBit k=true→L k=true){rd:Option Nat}{Q:Exit→Act→World→Prop}:
 wpOpIn (rdF rd) 0 P ops Q i (fun a' w'=> ∃p0' H' ι',InvP P ops pl s0 qs ι0 w0 ds (more L i) a' w' p0' H' ι') a w:=by
 obtain⟨p,hpi⟩:=hp.full i hiN;have hpl:p<pl.length:=(List.getElem?_eq_some_iff.1 hpi).1;obtain⟨o,ho,hn,hd⟩:=hq p i hpi;have cut:=fun {d}=>cut_at (d:=d) hp I.closed ho hpi hLi hr;have hnp:(qs p).2.n=s0.n:=seq_n h0 hq p (by omega);have names: ∀d∈namesOf ops.toList o,VR ι (slot (qs p).2.t d) (a.tmps.getD d undef):=fun d hd=>I.slots d p (by omega) (cut hd);obtain⟨u,hu⟩:=Classical.axiomOfChoice I.any;have tdef: ∃t:Fr,(∀d∈namesOf ops.toList o,slot t d=slot (qs p).2.t d)∧RT ι t s0.n a:=by
  classical
  let f:Nat→Value:=fun d=>if d<s0.n then (if d∈namesOf ops.toList o then slot (qs p).2.t d else u d)else undef
  have hf: ∀d,slot (Tr.ofFn f (s0.n+2)) d=f d:=fun d=>by
   by_cases hd:d<s0.n
   · exact Tr.get_ofFn _ _ _ _ (by have:s0.n+2<2^(s0.n+2):=Nat.lt_two_pow_self;omega)
   · have:f d=undef:=if_neg hd;rw[this];exact Tr.get_ofFn_d _ _ _ _ this
  have hout: ∀d,s0.n≤d→a.tmps.getD d undef=undef:=fun d hd=>by
   rw[Array.getD_eq_getD_getElem?,Array.getElem?_eq_none (by rw[I.size];exact hd)];rfl
  refine⟨Tr.ofFn f (s0.n+2),fun d hd=> ?_,I.size,fun d=> ?_,fun d hd=>Tr.has_ofFn _ _ _ (by have:s0.n+2<2^(s0.n+2):=Nat.lt_two_pow_self;omega)⟩
  · rw[hf];by_cases hdn:d<s0.n
    · simp only[f,if_pos hdn,if_pos hd]
    · simp only[f,if_neg hdn];have:=names d hd;rw[hout d (by omega)]at this;exact this.undef_of.symm
  · rw[hf];by_cases hdn:d<s0.n
    · simp only[f,if_pos hdn];split
      · exact names d ‹_›
      · exact hu d
    · simp only[f,if_neg hdn];rw[hout d (by omega)];exact .flat rfl
 obtain⟨t,ht,hrt⟩:=tdef;have hops: ∀x∈o.op.operands,opv P t x=opv P (qs p).2.t x:=fun x hx=>by
  cases x with
  |tmp d=>
   show some (slot t d)=some (slot (qs p).2.t d);rw[ht];unfold namesOf;refine List.mem_append_left _ (List.mem_append_right _ (List.mem_filterMap.2 ⟨.tmp d,Array.mem_toList_iff.2 hx,rfl⟩))
  |_=>rfl
 have hwant:wantedF ops t o=wantedF ops (qs p).2.t o:=by
  unfold wantedF;cases hg:o.guard with
  |none=>rfl
  |some q=>
   obtain⟨j,b⟩:=q;have:yieldedL ops t j=yieldedL ops (qs p).2.t j:=by
    unfold yieldedL;rw[nth_eq];cases hd:(ops.toList[j]?).bind (·.dst)with
    |none=>rfl
    |some d=>
     have:d∈namesOf ops.toList o:=by
      unfold namesOf;rw[hg];exact List.mem_append_right _ (by simp only[hd];simp)
     simp only[ht d this]
   simp only[this]
 have closed': ∀k,k<ops.size→more L i k=true→ ∀m,((masks ops.toList).getD k 0).testBit m=true→more L i m=true:=fun k hk hm m hb=>by
  rcases more_iff.1 hm with hm|rfl
  · exact more_iff.2 (.inl (I.closed k hk hm m hb))
  · exact more_iff.2 (.inl (hr m hb))
 have uniq: ∀ {r},pl[r]? =some i→r=p:=fun {r} hri=>by
  have h1:=(List.getElem?_eq_some_iff.1 hri).1;exact(List.getElem_inj hp.nodup (h₀:=h1) (h₁:=hpl)).1 ((List.getElem?_eq_some_iff.1 hri).2.trans (List.getElem?_eq_some_iff.1 hpi).2.symm)
 have slots': ∀ {ι':Inj} {v v':Value},(∀o x,ι o=some x→ι' o=some x)→VR ι' v v'→(qs (p+1)).2.t=(qs p).2.setT o.dst v→
  (a.put o.dst v').tmps.size=s0.n∧(∀d,∃u,VR ι' u ((a.put o.dst v').tmps.getD d undef))∧(∀d q,q≤pl.length→(∀r j b,pl[r]? =some j→ops[j]? =some b→b.dst=some d→(more L i j=true↔r<q))→VR ι' (slot (qs q).2.t d) ((a.put o.dst v').tmps.getD d undef))∧(a.put o.dst v').defers=ds:=by
  intro ι' v v' hm hv hset;have hsz:(a.put o.dst v').tmps.size=s0.n:=by rw[←I.size];cases o.dst<;>simp[Act.put]
  have hat: ∀d,(o.dst=some d∧d<s0.n∧(a.put o.dst v').tmps.getD d undef=v')∨((o.dst≠some d∨s0.n≤d)∧(a.put o.dst v').tmps.getD d undef=a.tmps.getD d undef):=fun d=>by
   cases hod:o.dst with
   |none=>exact .inr ⟨.inl (by simp),rfl⟩
   |some d0=>
    by_cases hdd:d0=d
    · subst hdd;by_cases hlt:d0<s0.n
      · left;refine⟨rfl,hlt,?_⟩;simp[Act.put,Array.getD_eq_getD_getElem?,I.size,hlt]
      · right;refine⟨.inr (Nat.le_of_not_lt hlt),?_⟩;simp[Act.put,Array.getD_eq_getD_getElem?,I.size,hlt]
    · right;refine⟨.inl (by simpa using hdd),?_⟩;simp[Act.put,Array.getD_eq_getD_getElem?,hdd]
  refine⟨hsz,fun d=> ?_,fun d q hql hcut=> ?_,by rw[put_defers];exact I.dfr⟩
  · rcases hat d with ⟨_,_,he⟩|⟨_,he⟩
    · rw[he];exact⟨v,hv⟩
    · rw[he];exact⟨u d,(hu d).mono hm⟩
  · rcases hat d with ⟨hod,hlt,he⟩|⟨hod,he⟩
    · rw[he];have hpq:p<q:=(hcut p i o hpi ho hod).1 (more_iff.2 (.inr rfl));have hdn:d∈namesOf ops.toList o:=by
       unfold namesOf;exact List.mem_append_left _ (List.mem_append_left _ (by simp[hod]))
      rw[seq_slot_to h0 hq (p:=p+1) (by omega) hql (.inl fun r j b h1 h2 h3 h4 h5=> ?_),hset,hod,slot_setT_same (by rw[hnp];exact hlt) (seq_has h0 hq hhas p (by omega) d hlt)]
      · exact hv
      · have h6:=(hcut r j b h3 h4 h5).2 h2;rcases more_iff.1 h6 with h7|h7
        · have:=(cut hdn r j b h3 h4 h5).1 h7;omega
        · subst h7;have:=uniq h3;omega
    · rw[he];by_cases hbg:s0.n≤d
      · have hout:a.tmps.getD d undef=undef:=by rw[Array.getD_eq_getD_getElem?,Array.getElem?_eq_none (by rw[I.size];exact hbg)];rfl
        rw[hout,seq_slot_to h0 hq (p:=0) (by omega) hql (.inr hbg),h0];show VR ι' (slot s0.t d) undef;rw[hbig d hbg];exact .flat rfl
      · refine(I.slots d q hql fun r j b h1 h2 h3=> ?_).mono hm;rw[←hcut r j b h1 h2 h3,more_iff];refine⟨.inl,fun h=>h.resolve_right fun hji=> ?_⟩;subst hji;rw[ho]at h2;obtain rfl:=Option.some.inj h2;rcases hod with hod|hod
        · exact hod h3
        · omega
 have same: ∀ {v v':Value},kindOf P o.op≠ .eff→(∀b x,¬Laid P ops pl s0.h.nx qs p b x)→VR ι v v'→(qs (p+1)).2.t=(qs p).2.setT o.dst v→ ∃p0' H' ι',InvP P ops pl s0 qs ι0 w0 ds (more L i) (a.put o.dst v') w p0' H' ι':=by
  intro v v' hk hnl hv hset;obtain⟨z1,z2,z3,z4⟩:=slots' (fun _ _ h=>h) hv hset;refine⟨p0,H,ι,I.p0N,closed',fun r j b h1 h2 h3=> ?_,fun r j b h1 h2 h3 h4=>more_iff.2 (.inl (I.c2 r j b h1 h2 h3 h4)),fun b x=> ?_,I.nx,I.gd,I.eff,fun j hj hL=>I.idn j hj (by
   cases hLj:L j with
   |false=>rfl
   |true=>rw[more_iff.2 (.inl hLj)]at hL;cases hL),I.ext,I.went,z1,z2,z3,z4⟩
  · rw[←I.c1 r j b h1 h2 h3,more_iff];refine⟨fun h=>h.resolve_right fun hji=> ?_,.inl⟩;subst hji;rw[ho]at h2;obtain rfl:=Option.some.inj h2;exact hk h3
  · rw[I.cH];refine or_congr Iff.rfl ⟨fun⟨r,j,h1,h2,h3,h4⟩=>⟨r,j,h1,h2,more_iff.2 (.inl h3),h4⟩,fun⟨r,j,h1,h2,h3,h4⟩=> ?_⟩;rcases more_iff.1 h3 with h5|h5
    · exact⟨r,j,h1,h2,h5,h4⟩
    · subst h5;obtain rfl:=uniq h2;exact absurd h4 (hnl b x)
 have notLaid:(kindOf P o.op≠ .mk∨wantedF ops (qs p).2.t o=false)→ ∀b x,¬Laid P ops pl s0.h.nx qs p b x:=by
  rintro hh b x ⟨j,op,f,g1,g2,g3,g4,g5,g6⟩;rw[hpi]at g1;obtain rfl:=Option.some.inj g1;rw[ho]at g2;obtain rfl:=Option.some.inj g2;rcases hh with hh|hh
  · exact hh g3
  · rw[hh]at g4;cases g4
 have acts:kindOf P o.op= .eff→ ∀ {v v':Value} {ι':Inj} {h2:Hp} {w':World},Went P { (qs p).2.h with gd:=guardOf (masks ops.toList) i (qs p) } ι w h2 ι' w'→(qs (p+1)).2.h= { h2 with gd:=(qs p).2.h.gd }→VR ι' v v'→(qs (p+1)).2.t=(qs p).2.setT o.dst v→
  ∃p0' H' ι',InvP P ops pl s0 qs ι0 w0 ds (more L i) (a.put o.dst v') w' p0' H' ι':=by
  intro hk v v' ι' h2 w' g hh hv hset;have hle:p0≤p:=by
   rcases Nat.lt_or_ge p p0 with h|h
   · rw[(I.c1 p i o hpi ho hk).2 h]at hLi;cases hLi
   · exact h
  have swe: ∀b:Oper,kindOf P b.op= .eff→swapOk P ops.toList b o=false:=fun b hb=>by unfold swapOk;rw[hb,hk];simp
  have swm: ∀b:Oper,kindOf P b.op= .mk→swapOk P ops.toList b o=false:=fun b hb=>by unfold swapOk;rw[hb,hk];simp
  obtain⟨sub,nxe⟩:=plan_sub hp hq I ho hpi hLi hr hle swe swm;have hno:=no_eff hp hq I ho hpi hLi hr swe;obtain⟨k0,rfl⟩:=Nat.exists_eq_add_of_le hle;obtain⟨q1,q2,q3,q4⟩:=quiet_run hq k0 (by omega) hno;obtain⟨z1,z2,z3⟩:=z_run h0 hq R0 I p0 (Nat.le_refl _);have hgd:(qs (p0+k0)).2.h.gd=s0.h.gd:=q4.trans z2;have hnx2:(qs (p0+k0+1)).2.h.nx=h2.nx:=by rw[hh]
  have hget2: ∀b,(qs (p0+k0+1)).2.h.get b=h2.get b:=fun b=>by rw[hh];rfl
  have hnxg:(qs (p0+k0)).2.h.nx≤h2.nx:=g.nx;have zp: ∀r b y,p0+k0<r→Laid P ops pl s0.h.nx qs r b y→(qs (p0+k0)).2.h.get b=none∧h2.get b=none:=by
   rintro r b y hrp ⟨j,op,f,k1,k2,k3,k4,k5,rfl⟩;have hjs:j<ops.size:=(Array.getElem?_eq_some_iff.1 k2).1;have inj: ∀ {r1 r2:Nat} {j:Nat},pl[r1]? =some j→pl[r2]? =some j→r1=r2:=fun {r1 r2 j} e1 e2=>
    (List.getElem_inj hp.nodup (h₀:=(List.getElem?_eq_some_iff.1 e1).1) (h₁:=(List.getElem?_eq_some_iff.1 e2).1)).1 ((List.getElem?_eq_some_iff.1 e1).2.trans (List.getElem?_eq_some_iff.1 e2).2.symm)
   have h1:(qs (p0+k0)).2.h.get (s0.h.nx+j)=none:=by
    cases hg:(qs (p0+k0)).2.h.get (s0.h.nx+j)with
    |none=>rfl
    |some y2=>
     rcases q1 _ y2 hg with hg|⟨r',m1,m2,j',op',f',e1,e2,e3,e4,e5,e6⟩
     · obtain⟨r',m1,m2⟩:=z3 j y2 hg hjs;have:=inj m2 k1;omega
     · obtain rfl:j=j':=by omega
       have:=inj e1 k1;omega
   refine⟨h1,?_⟩;cases hg:h2.get (s0.h.nx+j)with
   |none=>rfl
   |some y2=>
    obtain⟨x,hx⟩:=g.born _ y2 (by show s0.h.nx+j<(qs (p0+k0)).2.h.nx;omega) hg;have hx:(qs (p0+k0)).2.h.get (s0.h.nx+j)=some x:=hx;rw[h1]at hx;cases hx
  classical
  let pend:Nat→Prop:=fun b=> ∃r j y,p0+k0<r∧pl[r]? =some j∧L j=true∧Laid P ops pl s0.h.nx qs r b y
  let H':=mkHp (fun b=>if pend b then H.get b else h2.get b) h2.nx s0.h.gd
  have hl2: ∀b x,h2.get b=some x→b<h2.nx:=fun b x hb=>(g.rh.live b x hb).1;have hlH: ∀b x,H.get b=some x→b<h2.nx:=fun b x hb=>by have:=(I.went.rh.live b x hb).1;omega
  have getH: ∀b,H'.get b=if pend b then H.get b else h2.get b:=fun b=>by
   rw[show H'.get b=_ from get_mkHp _ _ _ b];split
   · rfl
   · rename_i hb;split
     · cases hg:H.get b with
       |none=>rfl
       |some x=>exact absurd (hlH b x hg) hb
     · cases hg:h2.get b with
       |none=>rfl
       |some x=>exact absurd (hl2 b x hg) hb
  have pnone: ∀b,pend b→(qs (p0+k0)).2.h.get b=none∧h2.get b=none:=fun b ⟨r,j,y,h1,h2,h3,h4⟩=>zp r b y h1 h4;have pin: ∀b,pend b→ ∃y,H.get b=some y∧y.wr=true:=fun b ⟨r,j,y,h1,h2,h3,h4⟩=>⟨y,(I.cH b y).2 (.inr ⟨r,j,by omega,h2,h3,h4⟩),by
   obtain⟨j',op,f,k1,k2,k3,k4,k5,k6⟩:=h4;have:=stepMk_fix k5;exact this⟩
  have R1:RH P ι { (qs (p0+k0)).2.h with gd:=guardOf (masks ops.toList) i (qs (p0+k0)) } w:=I.went.rh.sub sub (by rw[←nxe];exact Nat.le_refl _);have gm: ∀o v,ι o=some v→ι' o=some v:=g.mono R1;have pge: ∀b,pend b→s0.h.nx≤b:=fun b ⟨r,j,y,_,_,_,_,_,_,_,_,_,_,_,e⟩=>by omega
  have up: ∀ {o v},ι' o=some v→ ∀y,H.get o=some y→ι o=some v:=fun {o v} hv y hy=>by
   obtain⟨_,v2,hv2,_⟩:=I.went.rh.live o y hy;rw[gm o v2 hv2]at hv;rw[hv2];exact hv
  have blk: ∀o y v,H.get o=some y→ι o=some v→v.blk<w.heap.size:=fun o y v hy hv=>by
   obtain⟨_,v2,hv2,hor⟩:=I.went.rh.live o y hy;rw[hv]at hv2;obtain rfl:=Option.some.inj hv2;exact hor.block
  have neP: ∀ {o b x},pend b→(qs (p0+k0)).2.h.get o=some x→o≠b:=fun {o b x} hb hx he=>by
   rw[he,(pnone b hb).1]at hx;cases hx
  obtain⟨s1,s2,s3,s4⟩:=slots' gm hv hset;refine⟨p0+k0+1,H',ι',by omega,closed',fun r j b e1 e2 e3=> ?_,fun r j b e1 e2 e3 e4=> ?_,fun b x=> ?_,hnx2.symm,rfl,fun r j b e1 e2 e3 e4=> ?_,fun j hj hL=> ?_,fun q hql=> ?_,I.went.trans ⟨⟨fun b x hb=> ?_,fun b q x y vb vq hne hb hx hq2 hvb hvq=> ?_,g.rh.fresh,g.rh.glob,g.rh.gsize⟩,⟨g.fr.tape,g.fr.os,g.fr.output,g.fr.size,fun b hb hall=>g.fr.rest b hb fun o x v e1 e2 e3=>hall o x v (sub o x e1) e2 e3⟩,by rw[←nxe];exact hnxg,I.gd.symm,fun q x hqn hqx hqg=> ?_,fun q y hqn hqy=> ?_,fun b x v hb hvb=> ?_⟩,s1,s2,s3,s4⟩
  · rw[more_iff,I.c1 r j b e1 e2 e3];constructor
    · rintro(h|rfl)
      · omega
      · have:=uniq e1;omega
    · intro h;rcases Nat.lt_or_ge r p0 with h1|h1
      · exact .inl h1
      · rcases Nat.lt_or_ge r (p0+k0)with h2'|h2'
        · exact absurd e3 (hno r j b h1 h2' e1 e2)
        · have:r=p0+k0:=by omega
          subst this;rw[hpi]at e1;exact .inr (Option.some.inj e1).symm
  · rcases Nat.lt_or_ge r (p0+k0)with h2'|h2'
    · exact more_iff.2 (.inl (before_in hp ho hpi hr h2' e2 e3 (swm b e4)))
    · have:r=p0+k0:=by omega
      subst this;rw[hpi]at e2;exact more_iff.2 (.inr (Option.some.inj e2).symm)
  · rw[getH];constructor
    · split
      · rename_i hpb;intro hb;right;rcases(I.cH b x).1 hb with hb|⟨r,j,e1,e2,e3,e4⟩
        · have:=q2 b x hb;rw[(pnone b hpb).1]at this;cases this
        · obtain⟨r2,j2,y2,f1,f2,f3,f4⟩:=hpb;have hj:j=j2:=by
           obtain⟨_,_,_,a1,_,_,_,_,a2⟩:=e4;obtain⟨_,_,_,b1,_,_,_,_,b2⟩:=f4;rw[e2]at a1;rw[f2]at b1;have:=Option.some.inj a1;have:=Option.some.inj b1;omega
          subst hj;have hrr:r=r2:=(List.getElem_inj hp.nodup (h₀:=(List.getElem?_eq_some_iff.1 e2).1) (h₁:=(List.getElem?_eq_some_iff.1 f2).1)).1 ((List.getElem?_eq_some_iff.1 e2).2.trans (List.getElem?_eq_some_iff.1 f2).2.symm);exact⟨r,j,by omega,e2,more_iff.2 (.inl e3),e4⟩
      · intro hb;left;rw[hget2];exact hb
    · rintro(hb|⟨r,j,e1,e2,e3,e4⟩)
      · rw[hget2]at hb;rw[if_neg]
        · exact hb
        · intro hpb;rw[(pnone b hpb).2]at hb;cases hb
      · have hLj:L j=true:=by
         rcases more_iff.1 e3 with h|rfl
         · exact h
         · have:=uniq e2;omega
        rw[if_pos ⟨r,j,x,by omega,e2,hLj,e4⟩];exact(I.cH b x).2 (.inr ⟨r,j,by omega,e2,hLj,e4⟩)
  · rcases Nat.lt_or_ge r p0 with h1|h1
    · exact I.eff r j b h1 e2 e3 e4
    · rcases Nat.lt_or_ge r (p0+k0)with h2'|h2'
      · exact absurd e4 (hno r j b h1 h2' e2 e3)
      · have:r=p0+k0:=by omega
        subst this;rw[hpi]at e2;obtain rfl:=Option.some.inj e2;exact⟨fun o x hx hg2=>by rw[hget2];exact g.grd o x hx hg2,fun o y hlt hy=>by rw[hget2]at hy;exact g.born o y hlt hy,by rw[hnx2];exact hnxg⟩
  · have hLj:L j=false:=by
     cases hLj:L j with
     |false=>rfl
     |true=>rw[more_iff.2 (.inl hLj)]at hL;cases hL
    rw[g.ext _ (show s0.h.nx+j<(qs (p0+k0)).2.h.nx by omega)];exact I.idn j hj hLj
  · rw[g.ext _ (show q<(qs (p0+k0)).2.h.nx by omega)];exact I.ext q hql
  · rw[getH]at hb;split at hb
    · rename_i hpb;obtain⟨hl,v2,hv2,hor⟩:=I.went.rh.live b x hb;refine⟨hlH b x hb,v2,gm _ _ hv2,hor.of_block gm (g.fr.rest _ hor.block fun o y v e1 e2 e3=> ?_)⟩;exact I.went.rh.apart o b y x v v2 (neP hpb e1) (sub o y e1) e2 hb e3 hv2
    · exact g.rh.live b x hb
  · rw[getH]at hb hq2;split at hb
    · rename_i hpb;have hvb2:=up hvb x hb;split at hq2
      · exact I.went.rh.apart b q x y vb vq hne hb hx hq2 hvb2 (up hvq y hq2)
      · rcases g.old q y vq hq2 hvq with ⟨q0,y0,v0,e1,e2,e3,e4⟩|hge
        · rw[←e4];exact I.went.rh.apart b q0 x y0 vb v0 (Ne.symm (neP hpb e1)) hb hx (sub _ _ e1) hvb2 e3
        · have:=blk b x vb hb hvb2;omega
    · split at hq2
      · rename_i hpq;have hvq2:=up hvq y hq2;rcases g.old b x vb hb hvb with ⟨q0,y0,v0,e1,e2,e3,e4⟩|hge
        · rw[←e4];exact I.went.rh.apart q0 q y0 y v0 vq (neP hpq e1) (sub _ _ e1) (e2.trans hx) hq2 e3 hvq2
        · have:=blk q y vq hq2 hvq2;omega
      · exact g.rh.apart b q x y vb vq hne hb hx hq2 hvb hvq
  · rw[getH,if_neg (fun hpq=>by have:=pge q hpq;omega)];have hq0:(qs (p0+k0)).2.h.get q=some x:=by
     rcases(I.cH q x).1 hqx with h|⟨r,j,e1,e2,e3,_,_,_,_,_,_,_,_,e⟩
     · exact q2 q x h
     · omega
    refine g.grd q x hq0 ?_;have:s0.h.gd.any (Nat.beq q)=true:=by have:=hqg;unfold Hp.guarded at this;rw[I.gd]at this;exact this
    show(guardOf (masks ops.toList) i (qs (p0+k0))).any (Nat.beq q)=true;unfold guardOf;rw[List.any_append,hgd,this,Bool.or_true]
  · rw[getH,if_neg (fun hpq=>by have:=pge q hpq;omega)]at hqy;obtain⟨x,hx⟩:=g.born q y (by show q<(qs (p0+k0)).2.h.nx;omega) hqy;exact⟨x,sub q x hx⟩
  · rw[getH]at hb;split at hb
    · exact .inl ⟨b,x,v,hb,rfl,up hvb x hb,rfl⟩
    · exact(g.old b x v hb hvb).imp (fun⟨q,y,vq,e1,e2,e3,e4⟩=>⟨q,y,vq,sub q y e1,e2,e3,e4⟩) id
 unfold wpOpIn;rw[ho];simp only;rw[wanted_sound hrt,hwant];have hpRH:p0≤p→kindOf P o.op= .eff→RH P ι { (qs p).2.h with gd:=guardOf (masks ops.toList) i (qs p) } w:=fun hle hk=>by
  obtain⟨q1,q2⟩:=plan_sub hp hq I ho hpi hLi hr hle (fun b hb=>by unfold swapOk;rw[hb,hk];simp) (fun b hb=>by unfold swapOk;rw[hb,hk];simp);exact I.went.rh.sub q1 (by rw[←q2];exact Nat.le_refl _)
 have hle:kindOf P o.op= .eff→p0≤p:=fun hk=>by
  rcases Nat.lt_or_ge p p0 with h|h
  · rw[(I.c1 p i o hpi ho hk).2 h]at hLi;cases hLi
  · exact h
 cases hd with
 |skip hw hset hh hrd=>
  rw[hw];simp only[Bool.false_eq_true,if_false];refine⟨fun _ _=>trivial,?_⟩;by_cases hk:kindOf P o.op= .eff
  · exact acts hk (.refl (hpRH (hle hk) hk)) (by rw[hh]) (.flat rfl) hset
  · exact same hk (notLaid (.inr hw)) (.flat rfl) hset
 |pure hw hk v hv hset hh hrd=>
  rw[hw];simp only[if_true];rw[←stepPure_congr hk hops]at hv;obtain⟨v',g1,g2⟩:=stepPure_sound I.went.rh.glob hrt hk hv;refine wpIn_of (fun c hc'=>by rw[hc']at hk;cases hk) ?_;rw[g2 w];exact same (by rw[hk];decide) (notLaid (.inl (by rw[hk];decide))) g1 hset
 |read hw hk v ids hv hset hh hrd=>
  rw[hw];simp only[if_true];rw[←stepRead_congr hops hk]at hv;have hv2:=stepRead_heap hv (read_stays hp hq I ho hpi hLi hr hk hrd hh);obtain⟨v',g1,g2⟩:=stepRead_sound hrt I.went.rh hv2;refine wpIn_of (fun c hc'=>by rw[hc']at hk;cases hk) ?_;rw[g2];exact same (by rw[hk];decide) (notLaid (.inl (by rw[hk];decide))) g1 hset
 |mk hw hk x f hv hset hh hrd=>
  rw[hw];simp only[if_true];have hv0:=hv;rw[←stepMk_congr hops hk]at hv;obtain⟨c,c',e,e',v',rfl,hone,hcc,g2,g3⟩:=stepMk_sound I.went.rh.glob hrt hv w;refine wpIn_of (fun c hc'=>by rw[hc']at hk;cases hk) ?_;rw[g2];have hp0:p0≤p:=by
   rcases Nat.lt_or_ge p p0 with h|h
   · rw[I.c2 p i o h hpi ho hk]at hLi;cases hLi
   · exact h
  have hidn:=I.idn i hiN hLi;obtain⟨z1,z2,z3⟩:=z_run h0 hq R0 I p0 (Nat.le_refl _);have hidx:s0.h.nx+i<H.nx:=by rw[I.nx];omega
  let x:Ob:= .cells c e .fix
  let H':=mkHp (fun q=>if q=s0.h.nx+i then some x else H.get q) H.nx H.gd
  have getH: ∀q,H'.get q=if q<H.nx then (if q=s0.h.nx+i then some x else H.get q)else none:=get_mkHp _ _ _
  have notIn:H.get (s0.h.nx+i)=none:=by
   cases hg:H.get (s0.h.nx+i)with
   |none=>rfl
   |some y=>obtain⟨_,v,hv,_⟩:=I.went.rh.live _ y hg;rw[hidn]at hv;cases hv
  have inH: ∀q y,H.get q=some y→H'.get q=some y:=fun q y hqy=>by
   rw[getH,if_pos (I.went.rh.live q y hqy).1,if_neg]
   · exact hqy
   · rintro rfl;rw[notIn]at hqy;cases hqy
  have hmono:=Inj.set_mono (v:=⟨w.heap.size,0,0,0⟩) hidn;obtain⟨l1,l2,l3⟩:=I.went.rh.lay (h':=H') (id:=s0.h.nx+i) (x:=x) (b:= .cells c'.toArray e' (0,0)) (v:=⟨w.heap.size,0,0,0⟩) rfl hidn
   ⟨hone,_,e',(0,0),by rw[alloc_get];exact if_pos rfl,fun j y hj=>by
    obtain⟨y',hy,hyv⟩:=hcc.get hj;exact⟨y',by simpa using hy,hyv.mono hmono⟩,fun _=>rfl,fun hm=>by cases hm⟩ (Nat.le_refl _) hidx (fun q y hqy=>by
    rw[getH]at hqy;split at hqy
    · split at hqy
      · exact .inl ⟨‹_›,(Option.some.inj hqy).symm⟩
      · exact .inr ⟨‹_›,hqy⟩
    · cases hqy)
  obtain⟨s1,s2,s3,s4⟩:=slots' hmono (g3 (s0.h.nx+i) _ (Inj.set_same ..)) hset;refine⟨p0,H',_,I.p0N,closed',fun r j b h1 h2 h3=> ?_,fun r j b h1 h2 h3 h4=>more_iff.2 (.inl (I.c2 r j b h1 h2 h3 h4)),fun b y=> ?_,I.nx,I.gd,I.eff,fun j hj hL=> ?_,fun q hql=> ?_,I.went.trans ⟨l1,l2,Nat.le_refl _,rfl,fun q y _ hqy _=>inH q y hqy,fun q y hq2 hqy=> ?_,l3⟩,s1,s2,s3,s4⟩
  · rw[←I.c1 r j b h1 h2 h3,more_iff];refine⟨fun h=>h.resolve_right fun hji=> ?_,.inl⟩;subst hji;rw[ho]at h2;obtain rfl:=Option.some.inj h2;rw[hk]at h3;cases h3
  · constructor
    · intro hb;rw[getH]at hb;split at hb
      · split at hb
        · rename_i _ hbi;obtain rfl:=Option.some.inj hb;exact .inr ⟨p,i,hp0,hpi,more_iff.2 (.inr rfl),i,o,f,hpi,ho,hk,hw,hv0,hbi⟩
        · exact((I.cH b y).1 hb).imp id fun⟨r,j,h1,h2,h3,h4⟩=>⟨r,j,h1,h2,more_iff.2 (.inl h3),h4⟩
      · cases hb
    · rintro(hb|⟨r,j,h1,h2,h3,h4⟩)
      · exact inH b y ((I.cH b y).2 (.inl hb))
      · rcases more_iff.1 h3 with h5|h5
        · exact inH b y ((I.cH b y).2 (.inr ⟨r,j,h1,h2,h5,h4⟩))
        · subst h5;obtain rfl:=uniq h2;obtain⟨j',op,f',k1,k2,k3,k4,k5,k6⟩:=h4;rw[hpi]at k1;obtain rfl:=Option.some.inj k1;rw[ho]at k2;obtain rfl:=Option.some.inj k2;rw[hv0]at k5;injection k5 with k5;injection k5 with k5 _;subst k5;rw[getH,k6,if_pos hidx,if_pos rfl]
  · have hLj:L j=false:=by
     cases hLj:L j with
     |false=>rfl
     |true=>rw[more_iff.2 (.inl hLj)]at hL;cases hL
    have hji:j≠i:=fun hji=>by rw[more_iff.2 (.inr hji)]at hL;cases hL
    rw[Inj.set_other _ _ _ (by omega)];exact I.idn j hj hLj
  · rw[Inj.set_other _ _ _ (by omega)];exact I.ext q hql
  · rw[getH]at hqy;split at hqy
    · rw[if_neg (by omega)]at hqy;exact⟨y,hqy⟩
    · cases hqy
 |eff hw hk v h2 hv hset hh hrd=>
  rw[hw];simp only[if_true];rw[←stepEff_congr hops]at hv;exact stepEff_sound (hpRH (hle hk) hk) hrt hc hv fun ι' v' w' k1 k2=>acts hk k1 hh k2 hset
end
section
variable {P:Program}{cf:CallF}{ops:Array Oper}{pl:List Nat}{s0:St}{qs:Nat→Rds×St}{ι0:Inj}{w0:World}{ds:List Deferred}
 (hc:COk P cf)
 (hp:PlanOk P ops (masks ops.toList) pl)
 (h0:qs 0=([],{ s0 with h:= { s0.h with nx:=s0.h.nx+ops.size } }))
 (hq: ∀(p i:Nat),pl[p]? =some i→ ∃o,ops[i]? =some o∧(qs (p+1)).2.n=(qs p).2.n∧Did P cf ops (masks ops.toList) s0.h.nx i o (qs p) (qs (p+1)))
 (R0:RH P ι0 s0.h w0) (hhas: ∀d,d<s0.n→s0.t.has d=true) (hbig: ∀d,s0.n≤d→slot s0.t d=undef)
include hp h0 hq R0 hhas in
theorem inv_end {L:Nat→Bool}{a:Act}{w:World}{p0:Nat}{H:Hp}{ι:Inj}(I:InvP P ops pl s0 qs ι0 w0 ds L a w p0 H ι)(hall: ∀k,k<ops.size→L k=true):
 Went P s0.h ι0 w0 (qs pl.length).2.h ι w∧RT ι (qs pl.length).2.t (qs pl.length).2.n a∧(qs pl.length).2.n=s0.n∧a.defers=ds:=by
 have _:=hp;have hn:=seq_n h0 hq pl.length (Nat.le_refl _);have hno: ∀r i o,p0≤r→r<pl.length→pl[r]? =some i→ops[i]? =some o→kindOf P o.op≠ .eff:=fun r i o h1 h2 h3 h4 h5=>by
  have:=(I.c1 r i o h3 h4 h5).1 (hall i (Array.getElem?_eq_some_iff.1 h4).1);omega
 obtain⟨k,hk⟩:=Nat.exists_eq_add_of_le I.p0N;obtain⟨q1,q2,q3,q4⟩:=quiet_run hq k (by omega) (fun r i o h1 h2=>hno r i o h1 (by omega));rw[←hk]at q1 q2 q3 q4;obtain⟨z1,z2,z3⟩:=z_run h0 hq R0 I p0 (Nat.le_refl _);have sub: ∀b x,(qs pl.length).2.h.get b=some x→H.get b=some x:=fun b x hb=>by
  rcases q1 b x hb with hb|⟨r,h1,h2,h3⟩
  · exact(I.cH b x).2 (.inl hb)
  · obtain⟨j,op,f,g1,g2,g3,g4,g5,g6⟩:=h3;exact(I.cH b x).2 (.inr ⟨r,j,h1,g1,hall j (Array.getElem?_eq_some_iff.1 g2).1,⟨j,op,f,g1,g2,g3,g4,g5,g6⟩⟩)
 have hnx:(qs pl.length).2.h.nx=H.nx:=by rw[q3,I.nx]
 refine⟨⟨I.ext,I.went.rh.sub sub (by rw[hnx];exact Nat.le_refl _),I.went.fr,by rw[hnx];exact I.went.nx,q4.trans z2,fun q x hqx hqg=> ?_,fun q y hql hy=>I.went.born q y hql (sub q y hy),fun b x v hb hv=>I.went.old b x v (sub b x hb) hv⟩,⟨by rw[hn];exact I.size,fun d=>I.slots d pl.length (Nat.le_refl _) fun r i o h1 h2 h3=> ?_,fun d hd=>seq_has h0 hq hhas pl.length (Nat.le_refl _) d (by rw[←hn];exact hd)⟩,hn,I.dfr⟩
 · have hql:=(R0.live q x hqx).1;rcases(I.cH q x).1 (I.went.grd q x hql hqx hqg)with h|⟨r,j,e1,e2,e3,_,_,_,_,_,_,_,_,e⟩
   · exact q2 q x h
   · omega
 · exact⟨fun _=>(List.getElem?_eq_some_iff.1 h1).1,fun _=>hall i (Array.getElem?_eq_some_iff.1 h2).1⟩
include hp in
theorem masks_in {L:Nat→Bool}(hcl: ∀i,i<ops.size→L i=true→ ∀k,((masks ops.toList).getD i 0).testBit k=true→L k=true)(hout: ∀k,L k=true→k<ops.size){i:Nat}{o:Oper}(hi:ops[i]? =some o)
 (he: ∀e∈o.after.toList,Region.binds .any e=true→L e.on=true): ∀k,((masks ops.toList).getD i 0).testBit k=true→L k=true:=by
 have _:=hp;intro k hk;obtain⟨e,h1,h2,h3⟩:=(masks_bit (by simpa using hi) k).1 hk;rcases h3 with rfl|⟨h3,h4⟩
 · exact he e h1 h2
 · exact hcl e.on (hout _ (he e h1 h2)) (he e h1 h2) k h4
theorem getD_more {listed:Array Bool}{n i:Nat}(hs:listed.size=n)(hi:i<n):(fun k=>(listed.setIfInBounds i true).getD k false)=more (fun k=>listed.getD k false) i:=by
 funext k;unfold more;simp only[Array.getD_eq_getD_getElem?,Array.getElem?_setIfInBounds];by_cases hk:i=k
 · subst hk;simp[hs,hi]
 · have:Nat.beq k i=false:=by rw[Bool.eq_false_iff];intro h;exact hk (Nat.eq_of_beq_eq_true h).symm
   simp[hk,this]
include hc hp h0 hq R0 hhas hbig in
theorem any_sound {rd:Option Nat}{Q:Exit→Act→World→Prop}(hQ: ∀ι' a' w',Went P s0.h ι0 w0 (qs pl.length).2.h ι' w'→RT ι' (qs pl.length).2.t (qs pl.length).2.n a'→(qs pl.length).2.n=s0.n→a'.defers=ds→Q .normal a' w'):
 ∀(fuel:Nat) (listed:Array Bool) (a:Act) (w:World),listed.size=ops.size→((List.range ops.size).filter fun k=> !(listed.getD k false)).length≤fuel→
  (∃p0 H ι,InvP P ops pl s0 qs ι0 w0 ds (fun k=>listed.getD k false) a w p0 H ι)→wpAnyIn (rdF rd) 0 P .any ops Q fuel listed a w:=by
 intro fuel;have hout: ∀ {listed:Array Bool},listed.size=ops.size→ ∀k,listed.getD k false=true→k<ops.size:=fun {listed} hs k hk=>by
  rcases Nat.lt_or_ge k ops.size with h|h
  · exact h
  · rw[Array.getD_eq_getD_getElem?,Array.getElem?_eq_none (by omega)]at hk;cases hk
 have rdy: ∀ {listed:Array Bool} {i:Nat},listed.size=ops.size→(i∈Region.ready .any ops listed↔ ∃o,ops[i]? =some o∧listed.getD i false=false∧ ∀e∈o.after.toList,Region.binds .any e=true→listed.getD e.on false=true):=fun {listed i} hs=>by
  unfold Region.ready;rw[List.mem_filter,List.mem_range];constructor
  · rintro⟨h1,h2⟩;rw[Bool.and_eq_true]at h2;refine⟨ops[i],Array.getElem?_eq_getElem h1,?_,fun e he hb=> ?_⟩
    · have:=h2.1;simpa[Array.getD_eq_getD_getElem?,hs,h1] using this
    · have:=h2.2;rw[Array.getElem?_eq_getElem h1]at this;simp only[Option.map_some,Option.getD_some,Array.all_eq_true_iff_forall_mem]at this;have:=this e (Array.mem_toList_iff.1 he);rw[hb]at this;simpa using this
  · rintro⟨o,h1,h2,h3⟩;have hlt:=(Array.getElem?_eq_some_iff.1 h1).1;refine⟨hlt,?_⟩;rw[Bool.and_eq_true];refine⟨by simpa[Array.getD_eq_getD_getElem?,hs,hlt] using h2,?_⟩;rw[h1];simp only[Option.map_some,Option.getD_some,Array.all_eq_true_iff_forall_mem];intro e he;cases hb:Region.binds .any e with
    |false=>rfl
    |true=>simpa using h3 e (Array.mem_toList_iff.2 he) hb
 have done: ∀ {listed:Array Bool} {a w},listed.size=ops.size→(∃p0 H ι,InvP P ops pl s0 qs ι0 w0 ds (fun k=>listed.getD k false) a w p0 H ι)→Region.ready .any ops listed=[]→Q .normal a w:=by
  rintro listed a w hs ⟨p0,H,ι,I⟩ hr;have all: ∀(p:Nat) j,pl[p]? =some j→listed.getD j false=true:=by
   intro p
   induction p using Nat.strongRecOn with
   |_ p ih=>
    intro j hj;cases hL:listed.getD j false with
    |true=>rfl
    |false=>
     obtain⟨o,ho,_,_⟩:=hq p j hj;have:j∈Region.ready .any ops listed:=(rdy hs).2 ⟨o,ho,hL,fun e he hb=>by
      obtain⟨r,hr1,hr2⟩:=hp.lin p j hj e.on ((masks_bit (by simpa using ho) e.on).2 ⟨e,he,hb,.inl rfl⟩);exact ih r hr1 e.on hr2⟩
     rw[hr]at this;cases this
  obtain⟨g1,g2,g3,g4⟩:=inv_end hp h0 hq R0 hhas I fun k hk=>by
   obtain⟨p,hpk⟩:=hp.full k hk;exact all p k hpk
  exact hQ ι a w g1 g2 g3 g4
 induction fuel with
 |zero=>
  intro listed a w hs hf hI;have hr:Region.ready .any ops listed=[]:=by
   refine List.eq_nil_iff_forall_not_mem.2 fun i hi=> ?_;obtain⟨o,h1,h2,_⟩:=(rdy hs).1 hi;have:i∈((List.range ops.size).filter fun k=> !(listed.getD k false)):=List.mem_filter.2 ⟨List.mem_range.2 (Array.getElem?_eq_some_iff.1 h1).1,by rw[h2];rfl⟩;rw[List.length_eq_zero_iff.1 (Nat.le_zero.1 hf)]at this;cases this
  exact⟨hr,done hs hI hr⟩
 |succ fuel ih=>
  intro listed a w hs hf hI;refine⟨done hs hI,fun i hi=> ?_⟩;obtain⟨o,h1,h2,h3⟩:=(rdy hs).1 hi;have hiN:=(Array.getElem?_eq_some_iff.1 h1).1;obtain⟨p0,H,ι,I⟩:=hI;have hmask:=masks_in hp I.closed (hout hs) h1 h3;refine wpOpIn_mono (fun a' w' hI'=> ?_) (inv_step hc hp h0 hq R0 hhas hbig I hiN h2 hmask);refine ih _ a' w' (by simp[hs]) ?_ ?_
  · have hi':i∈((List.range ops.size).filter fun k=> !(listed.getD k false)):=List.mem_filter.2 ⟨List.mem_range.2 hiN,by rw[h2];rfl⟩;have hfe:((List.range ops.size).filter fun k=> !((listed.setIfInBounds i true).getD k false))=(((List.range ops.size).filter fun k=> !(listed.getD k false)).filter fun k=> !(Nat.beq k i)):=by
     rw[List.filter_filter];congr 1;funext k;rw[congrFun (getD_more hs hiN) k];unfold more;rw[Bool.not_or,Bool.and_comm]
    rw[hfe];have:=List.length_filter_lt_length_iff_exists.2 (⟨i,hi',by simp⟩: ∃x∈((List.range ops.size).filter fun k=> !(listed.getD k false)),¬((fun k=> !(Nat.beq k i)) x=true));omega
  · rw[getD_more hs hiN];exact hI'
end
theorem reg_ok {P:Program}(hm:P.follows .mixedOrders=true){cf:CallF}(hc:COk P cf):RegOk P cf:=by
 intro rd id ops draw s s' ι a w hs hr R Q hQ;cases draw with
 |false=>
  exact wpIn_region_list (runOps_sound hc ops.toList hr R hs hQ)
 |true=>
  unfold runRegion at hs;simp only[cond_true]at hs;obtain⟨hpl,hs⟩:=cond_some hs;have hp:=planOk_ok hpl;obtain⟨qs,h0,hq,he⟩:=runPlan_seq _ _ _ hs;have hbig: ∀d,s.n≤d→slot s.t d=undef:=fun d hd=>by
   have:=hr.slots d;rw[Array.getD_eq_getD_getElem?,Array.getElem?_eq_none (by rw[hr.size];exact hd)]at this;exact VR.undef_of this
  have hq':=fun p i h=>planStep_did (hq p i h);refine wpIn_region_any hm (any_sound (ds:=a.defers) hc hp h0 hq' R hr.has hbig (fun ι' a' w' g1 g2 g3 g4=>hQ ι' a' w' (by rw[←he];exact g1) (by rw[←he];exact g2) (by rw[←he];exact g3) g4) ops.size _ a _ (by simp) (Nat.le_trans (List.length_filter_le _ _) (by simp)) ?_);have hf: ∀k,(Array.replicate ops.size false).getD k false=false:=fun k=>by
   rw[Array.getD_eq_getD_getElem?,Array.getElem?_replicate];split<;>rfl
  have hnx:(qs 0).2.h= { s.h with nx:=s.h.nx+ops.size }:=by rw[h0]
  refine⟨0,{ s.h with nx:=s.h.nx+ops.size },ι,Nat.zero_le _,fun i _ h=> ?_,fun r i o _ _ _=> ?_,fun r i o h=>absurd h (Nat.not_lt_zero _),fun b x=> ?_,by rw[hnx],rfl,fun r i o h=>absurd h (Nat.not_lt_zero _),fun i _ _=>R.fresh _ (Nat.le_add_right _ _),.refl _ _,
   ⟨(R.up (Nat.le_add_right _ _)).world rfl,⟨rfl,rfl,rfl,Nat.le_refl _,fun _ _ _=>rfl⟩,Nat.le_add_right _ _,rfl,fun _ _ _ h _=>h,fun _ y _ h=>⟨y,h⟩,fun o x v h1 h2=> .inl ⟨o,x,v,h1,rfl,h2,rfl⟩⟩,hr.size,fun d=>⟨_,hr.slots d⟩,fun d p hpl hcut=> ?_,rfl⟩
  · rw[hf]at h;cases h
  · rw[hf];exact⟨fun h=>(by cases h),fun h=>absurd h (Nat.not_lt_zero _)⟩
  · rw[hnx];exact⟨.inl,fun h=>h.resolve_right fun⟨r,i,_,_,h3,_⟩=>by rw[hf]at h3;cases h3⟩
  · rw[seq_slot_to h0 hq' (p:=0) (Nat.zero_le _) hpl (.inl fun r i o _ h2 h3 h4 h5=>by
     have:=(hcut r i o h3 h4 h5).2 h2;rw[hf]at this;cases this),h0]
    exact hr.slots d
theorem argsIn_spec: ∀(l:List Value) (i:Nat) (t:Fr),(∀k,(argsIn i l t).has k=t.has k)∧ ∀k,slot (argsIn i l t) k=if i≤k∧k<i+l.length then (if t.has k then l.getD (k-i) undef else undef)else slot t k:=by
 intro l
 induction l with
 |nil=>intro i t;exact⟨fun _=>rfl,fun k=>by rw[if_neg (by simp)];rfl⟩
 |cons v l ih=>
  intro i t;obtain⟨h1,h2⟩:=ih (i+1) (t.set i v);refine⟨fun k=>by rw[argsIn,h1,Tr.has_set],fun k=> ?_⟩;rw[argsIn,h2,Tr.has_set];by_cases hk:k=i
  · subst hk;rw[if_neg (by omega),if_pos ⟨Nat.le_refl _,by simp⟩];simp[slot,Tr.get_set]
  · by_cases hr:i+1≤k∧k<i+1+l.length
    · rw[if_pos hr,if_pos (show i≤k∧k<i+(v::l).length from⟨by omega,by simp;omega⟩),show k-i=(k-(i+1))+1 by omega];simp
    · rw[if_neg hr,if_neg (by simp;omega)];simp[slot,Tr.get_set,hk]
theorem frame_RT {ι:Inj}{args args':List Value}(h:VRs ι args args')(n:Nat)(hp:Hp):
 RT ι (frame n args hp).t (frame n args hp).n { tmps:=args'.toArray++Array.replicate (n-args'.toArray.size) undef,defers:=[] }:=by
 have hm:(frame n args hp).n=max n args.length:=rfl;have hf: ∀k,k<max n args.length→(Tr.full undef (max n args.length+1)).has k=true:=fun k hk=>Tr.has_full _ _ _ (by have:max n args.length+1<2^(max n args.length+1):=Nat.lt_two_pow_self;omega);obtain⟨h1,h2⟩:=argsIn_spec args 0 (Tr.full undef (max n args.length+1));refine⟨by rw[hm];simp[h.1];omega,fun k=> ?_,fun d hd=> ?_⟩
 · show VR ι (slot (argsIn 0 args (Tr.full undef (max n args.length+1))) k) _;rw[h2,Array.getD_eq_getD_getElem?,Array.getElem?_append];by_cases hk:k<args.length
   · rw[if_pos ⟨Nat.zero_le _,by omega⟩,if_pos (hf k (by omega)),if_pos (by simp[h.1,hk])];have hk':k<args'.length:=by rw[h.1];exact hk
     simpa[hk,hk'] using h.2 k _ _ (List.getElem?_eq_getElem hk) (List.getElem?_eq_getElem hk')
   · rw[if_neg (by omega),if_neg (by simp[h.1,hk])];have e1:slot (Tr.full undef (max n args.length+1)) k=undef:=Tr.get_full ..;rw[e1,Array.getElem?_replicate];split<;>exact .flat rfl
 · show(argsIn 0 args (Tr.full undef (max n args.length+1))).has d=true;rw[h1];exact hf d (by rw[hm]at hd;exact hd)
noncomputable def resV (P:Program)(s:St)(r:ResultVar):Option Value:=match r with
 | .tmp i=>some (slot s.t i)
 | .cell a ty=>match slot s.t a with
   | .pointer (some ⟨b,off,none⟩)=>do
     let ag←aggT P ty
     bif ag then do
      let n←sz P ty
      let l←readAt s.h b off n
      some (.agg l.toArray)
     else (readAt s.h b off 1).map fun l=>l.headD undef
   |_=>none
theorem results_sound {P:Program}{fn:Func}{s:St}{v:Value}{ι:Inj}{a:Act}{w:World}(hr:RT ι s.t s.n a)(R:RH P ι s.h w)(h:resultsOf P fn s=some v): ∃v',(results fn a.tmps).run P w= .ok v' w∧VR ι v v':=by
 unfold resultsOf at h;obtain⟨vs,hvs,h1⟩:=Option.bind_eq_some_iff.1 h;have hvs:mapO (resV P s) fn.results.toList=some vs:=hvs
 let f:ResultVar→Sem Value:=fun r=>match r with
  | .tmp t=>pure (a.tmps.getD t undef)
  | .cell x t=>do loadVar t (←asAddr (a.tmps.getD x undef))
 have one: ∀r v,resV P s r=some v→ ∃v',(f r).run P w= .ok v' w∧VR ι v v':=by
  intro r v hv;cases r with
  |tmp i=>obtain rfl:=Option.some.inj hv;exact⟨_,rfl,hr.slots i⟩
  |cell x t=>
   simp only[resV]at hv;have hs:=hr.slots x;split at hv
   · rename_i b off he;rw[he]at hs;generalize hg:a.tmps.getD x undef=y at hs;cases hs with
     |flat hf=>exact Bool.noConfusion (show false=true from hf)
     | @ptr _ _ vw hvw=>
       obtain⟨v',k1,k2⟩:=load_sound hr R (ty:=t) (off:=off) (v:=v) hvw (by
        obtain⟨ag,hag,hv⟩:=Option.bind_eq_some_iff.1 hv;rw[hag];cases ag with
        |true=>
         obtain⟨m,hm,hv⟩:=Option.bind_eq_some_iff.1 hv;obtain⟨l,hl,hv⟩:=Option.bind_eq_some_iff.1 hv;simp only[Option.bind_some,cond_true,hm,hl,Option.map_some];exact hv
        |false=>exact hv)
       refine⟨v',?_,k1⟩;simp only[f,hg,asAddr,Sem.run_bind,Sem.run_pure,Result.andThen_ok,k2]
   · cases hv
 have all: ∀(l:List ResultVar) vs,mapO (resV P s) l=some vs→ ∃vs',(l.mapM f).run P w= .ok vs' w∧VRs ι vs vs':=by
  intro l
  induction l with
  |nil=>intro vs h;obtain rfl:=Option.some.inj h;exact⟨[],rfl,.nil ι⟩
  |cons r l ih=>
   intro vs h;rw[mapO_cons]at h;obtain⟨b,hb,h1⟩:=Option.bind_eq_some_iff.1 h;obtain⟨c,hc,rfl⟩:=Option.map_eq_some_iff.1 h1;obtain⟨b',g1,g2⟩:=one r b hb;obtain⟨c',k1,k2⟩:=ih c hc;refine⟨b'::c',?_,.cons g2 k2⟩;rw[List.mapM_cons];simp only[Sem.run_bind,g1,Result.andThen_ok,k1,Sem.run_pure]
 obtain⟨vs',g1,g2⟩:=all _ _ hvs;have run:(fn.results.mapM f).run P w= .ok vs'.toArray w:=by
  rw[Array.mapM_eq_mapM_toList,Sem.run_map,g1];rfl
 have hres:(results fn a.tmps).run P w= .ok (if h:vs'.toArray.size=1 then vs'.toArray[0]else .tuple vs'.toArray) w:=by
  unfold results;rw[Sem.run_bind];have run': ∀g:ResultVar→Sem Value,(∀r,g r=f r)→(fn.results.mapM g).run P w= .ok vs'.toArray w:=fun g hg=>by rw[show g=f from funext hg];exact run
  rw[run' _ (fun r=>by cases r<;>rfl)];rfl
 rw[hres];refine⟨_,rfl,?_⟩
 match vs,h1,g2 with
 | [x],h1,g2=>
   obtain rfl:=Option.some.inj h1;obtain⟨y,c,rfl,hxy,hc⟩:=g2.head;obtain rfl:=List.length_eq_zero_iff.1 hc.1;exact hxy
 | [],h1,g2=>
   obtain rfl:=Option.some.inj h1;obtain rfl:=List.length_eq_zero_iff.1 g2.1;exact .flat rfl
 |x::y::r,h1,g2=>
  obtain rfl:=Option.some.inj h1;rw[dif_neg (by simp[g2.1])];have:=VRs.arr (a:=(x::y::r).toArray) (a':=vs'.toArray) (ι:=ι) |>.1 (by simpa using g2);exact .tup this.1 this.2
theorem Went.put {P:Program}{h h':Hp}{ι ι':Inj}{w w':World}(g:Went P h ι w h' ι' w'){D:Nat}(hD:w.heap.size≤D)(hn: ∀o x v,h'.get o=some x→ι' o=some v→v.blk≠D)(y:Obj):Went P h ι w h' ι' (w'.putObj D y) where
 ext:=g.ext
 rh:=⟨fun o x ho=>let ⟨a,v,hv,ho'⟩:=g.rh.live o x ho;⟨a,v,hv,ho'.of_block (fun _ _ h=>h) (World.putObj_heap_other (hn o x v ho hv))⟩,g.rh.apart,g.rh.fresh,g.rh.glob,g.rh.gsize⟩
 fr:=⟨g.fr.tape,g.fr.os,g.fr.output,by rw[World.putObj_size];exact g.fr.size,fun b hb hall=>by
  rw[World.putObj_heap_other (by omega)];exact g.fr.rest b hb hall⟩
 nx:=g.nx
 gd:=g.gd
 grd:=g.grd
 born:=g.born
 old:=g.old
theorem leaves {P:Program}{h h':Hp}{ι ι':Inj}{w:World}{fn:Func}{tmps:Array Value}{K:Ending→World→Prop}(done: ∀w',Went P h ι w h' ι' w'→ ∃v,(results fn tmps).run P w'= .ok v w'∧K (.returned v) w'):
 ∀(ds:List Deferred) (w':World),Went P h ι w h' ι' w'→Mk none w.heap.size ds h' ι' w'→LeavesInM (rdF none) 0 P fn tmps K ds .returning w':=by
 intro ds
 induction ds with
 |nil=>intro w' g _;exact done w' g
 |cons d ds ih=>
  intro w' g m;obtain⟨D,e,h0,h1,h2⟩:=m.each d (by simp);have ne: ∀o x v,h'.get o=some x→ι' o=some v→v.blk≠D:=fun o x v ho hv hD=>by
   cases hx:x.wr with
   |true=>exact h2 o x v ho hx hv hD
   |false=>
    obtain⟨_,v',hv',hor⟩:=g.rh.live o x ho;rw[hv]at hv';obtain rfl:=Option.some.inj hv';cases x with
    |cells c e m=>obtain⟨_,_,_,_,hb,_⟩:=hor;rw[hD,h1]at hb;cases hb
    |siter=>cases hx
    |loop=>cases hx
  have g2:=g.put h0 ne (.deferred none);refine⟨(fun h=>by cases h),.inl ⟨D,w'.putObj D (.deferred none),by rw[e],run_takeDeferred h1,ih _ g2 ⟨g2.fr.size,fun h=>(by cases h),fun d' hd'=> ?_,(List.pairwise_cons.1 m.apart).2⟩⟩⟩;obtain⟨D',e',h0',h1',h2'⟩:=m.each d' (by simp[hd']);have hne:D'≠D:=fun hh=>by
   have:=(List.pairwise_cons.1 m.apart).1 d' hd';rw[e,e',hh]at this;exact this rfl
  exact⟨D',e',h0',by rw[World.putObj_heap_other hne];exact h1',h2'⟩
theorem mkFr_RT {ι:Inj}{l:List Value}{tmps:Array Value}(h:VRs ι l tmps.toList):RT ι (mkFr l) l.length { tmps:=tmps,defers:=[] }:=by
 have:=frame_RT h 0 ⟨.nil,0,[]⟩;have e1:(frame 0 l ⟨.nil,0,[]⟩).t=mkFr l:=by
  show argsIn 0 l (Tr.full undef (max 0 l.length+1))=_;rw[Nat.zero_max];rfl
 have e2:(frame 0 l ⟨.nil,0,[]⟩).n=l.length:=Nat.zero_max _;rw[e1,e2]at this;have e3:tmps.toList.toArray++Array.replicate (0-tmps.toList.toArray.size) undef=tmps:=by
  rw[Nat.zero_sub];simp
 rw[e3]at this;exact this
theorem setPs_sound {ι:Inj}{n:Nat}: ∀(ps:List Tmp) {vs vs':List Value} {t:Fr} {tmps:Array Value},VRs ι vs vs'→(∀p∈ps,p<n)→RT ι t n { tmps:=tmps,defers:=[] }→RT ι (setPs ps vs t) n { tmps:=(ps.zip vs').foldl (fun tmps (x:Tmp×Value)=>tmps.setIfInBounds x.1 x.2) tmps,defers:=[] }:=by
 intro ps
 induction ps with
 |nil=>intro vs vs' t tmps _ _ r;exact r
 |cons p ps ih=>
  intro vs vs' t tmps h hp r;cases vs with
  |nil=>obtain rfl:=h.of_nil;exact r
  |cons v vs=>
   obtain⟨v',c,rfl,h1,h2⟩:=h.head;refine ih h2 (fun q hq=>hp q (by simp[hq])) ?_;have:=RT.put (s:=⟨t,n,⟨.nil,0,[]⟩⟩) (d:=some p) r h1;have e:(St.setT ⟨t,n,⟨.nil,0,[]⟩⟩ (some p) v)=t.set p v:=by
    show(bif Nat.blt p n then _ else _)=_;rw[show Nat.blt p n=true from by simpa using hp p (by simp)];rfl
   rw[e]at this;exact this
section
variable {P:Program}(hm:P.follows .mixedOrders=true)(hN:NoNum P)
include hm hN
theorem body_sound {cf:CallF}(hc:COk P cf){r:Option Nat}{f:FuncId}{fn:Func}{c:Code}(hf:P.funcs[f]? =some fn)(hb:fn.body=some c){fuel:Nat}{args args':List Value}{h:Hp}{q:Ex×St}{v:Value}{ι:Inj}{w:World}
 (hev:ev P cf fuel c (frame fn.ntmps args h)=some q) (hnr:q.1= .normal∨q.1= .ret) (hv:resultsOf P fn q.2=some v) (R:RH P ι h w) (ha:VRs ι args args') {K:Ending→World→Prop}
 (hK: ∀ι' v' w',Went P h ι w q.2.h ι' w'→VR ι' v v'→K (.returned v') w'):CallsIn (rdF r) 0 P f args'.toArray w K:=by
 show CallsIn (rdF none) 0 P f args'.toArray w K;refine callsIn_of_wp_marks hf hb trivial (ev_sound (rd:=none) (lo:=w.heap.size) (reg_ok hm hc) hc hN fuel c hev (.inl rfl) (frame_RT ha fn.ntmps h) R (Mk.nil _ _ _ _ (Nat.le_refl _)) _ fun ι' a' w' g1 g2 g3 g4=> ?_);have key:LeavesInM (rdF none) 0 P fn a'.tmps K a'.defers .returning w':=leaves (fun w2 k=>by
  obtain⟨v',k1,k2⟩:=results_sound g2 k.rh hv;exact⟨v',k1,hK ι' v' w2 k k2⟩) _ _ g1 g4
 rcases hnr with e|e<;>rw[e]<;>exact key
theorem round_sound {cf:CallF}(hc:COk P cf){fuel l:Nat}{args args':List Value}{h h':Hp}{v:Value}{ι:Inj}{w:World}(hs:evRound P cf fuel l args h=some (v,h'))(R:RH P ι h w)(ha:VRs ι args args'){vw:Vw}(hvw:ι l=some vw)
 {r:Option Nat} {o:Oper} {a:Act} {next:Act→World→Prop} {Q:Exit→Act→World→Prop} (hn: ∀ι' v' w',Went P h ι w h' ι' w'→VR ι' v v'→next (a.put o.dst v') w'):o.uponIn (rdF r) 0 P a next Q ((Instr.yield vw.blk args'.toArray).run P w):=by
 unfold evRound at hs;split at hs
 · rename_i r0 hr0;obtain⟨hcnd,hs⟩:=cond_some hs;rw[Bool.and_eq_true,Bool.and_eq_true,Bool.and_eq_true]at hcnd;obtain⟨⟨⟨hlen,hps⟩,na⟩,nb⟩:=hcnd;have hlen:=Nat.eq_of_beq_eq_true hlen;obtain⟨⟨e1,s1⟩,h1,hs2⟩:=Option.bind_eq_some_iff.1 hs;obtain⟨hlt,vw',hvw',q,q1,q2,q3,q4,q5,q6,q7⟩:=R.live l _ hr0;rw[hvw]at hvw';obtain rfl:=Option.some.inj hvw';rw[run_yield q1 (by rw[q5];simp[ha.1,hlen])];refine⟨fun h=>(by cases h),?_⟩;cases e1 with
   |normal=>
    obtain⟨h2,hin,hs3⟩:=Option.bind_eq_some_iff.1 hs2;obtain⟨⟨e2,s2⟩,h3,hout⟩:=Option.bind_eq_some_iff.1 hs3;have et:((q.params.zip args'.toArray).foldl (fun tmps (t,a)=>tmps.setIfInBounds t a) q.tmps)=(r0.ps.toList.zip args').foldl (fun tmps (x:Tmp×Value)=>tmps.setIfInBounds x.1 x.2) q.tmps:=by
     rw[q5,←Array.foldl_toList,Array.toList_zip]
    have RT0:RT ι (setPs r0.ps.toList args (mkFr r0.t)) r0.t.length { tmps:=(r0.ps.toList.zip args').foldl (fun tmps (x:Tmp×Value)=>tmps.setIfInBounds x.1 x.2) q.tmps,defers:=[] }:=setPs_sound r0.ps.toList ha (fun p hp=>by simpa using List.all_eq_true.1 hps p hp) (mkFr_RT q4);have base:=roundIn_of_wpIn (F:=rdF r) (n:=0) (P:=P) (l:=vw.blk) (f:=q.fn) (tmps:=(r0.ps.toList.zip args').foldl (fun tmps (x:Tmp×Value)=>tmps.setIfInBounds x.1 x.2) q.tmps) (assign:=q.assign) (body:=q.body) (w:=w) (R:=fun e w''=>match e with
     | .returned v=>next (a.put o.dst v) w''
     | .panicked chain=>Q (.panic chain) a w''
     | .outgrown=>LetsOut Q) trivial ?_
    · have:=base;rw[←et]at this;exact this.mono fun e w' he=>by cases e<;>exact he
    rw[q6,q7];show r0.asg.wpIn (rdF (some vw.blk)) 0 P _ _ w;refine ev_sound (rd:=some vw.blk) (lo:=w.heap.size) (reg_ok hm hc) hc hN fuel r0.asg h1 (.inr na) RT0 R (Mk.nil _ _ _ _ (Nat.le_refl _)) _ fun ι1 a1 w1 g1 g2 g3 g4=> ?_;have hv1:ι1 l=some vw:=(g1.ext l hlt).trans hvw;unfold roundIn at hin;split at hin
    · rename_i r1 hr1;obtain⟨hst,hput⟩:=cond_some hin;have hst:=Nat.eq_of_beq_eq_true hst;obtain⟨_,vw1,hvw1,p,p1,p2,p3,p4,p5,p6,p7⟩:=g1.rh.live l _ hr1;rw[hv1]at hvw1;obtain rfl:=Option.some.inj hvw1;have hlt1:=(Array.getElem?_eq_some_iff.1 p1).1;have G2:=Went.record g1.rh hr1 hv1 (x:=some (.loop ⟨1,r1.pend,r1.t,r1.ps,r1.asg,r1.body⟩)) (y:= .loop { p with state:= .busy }) (fun r' h=>by
       obtain rfl:=Option.some.inj h;exact⟨rfl,{ p with state:= .busy },World.putObj_heap_same hlt1,rfl,p3,p4,p5,p6,p7⟩) hput
      refine⟨_,run_beginRound p1 (by rw[p2,hst];rfl),?_⟩;have hd1:=g4.round rfl;refine ev_sound (rd:=some vw.blk) (lo:=w.heap.size) (reg_ok hm hc) hc hN fuel r0.body h3 (.inr nb) (s:=⟨s1.t,s1.n,h2⟩) g2 G2.rh (by rw[hd1];exact Mk.nil _ _ _ _ (Nat.le_trans g4.low G2.fr.size)) _ fun ι3 a3 w3 k1 k2 k3 k4=> ?_;have G3:=g1.trans (G2.trans k1);have hv3:ι3 l=some vw:=(G3.ext l hlt).trans hvw;unfold roundOut at hout;split at hout
      · rename_i r2 hr2;obtain⟨h4,hput2,he⟩:=Option.map_eq_some_iff.1 hout;injection he with he1 he2;subst he1 he2;obtain⟨_,vw2,hvw2,p',u1,u2,u3,u4,u5,u6,u7⟩:=k1.rh.live l _ hr2;rw[hv3]at hvw2;obtain rfl:=Option.some.inj hvw2;have hlt2:=(Array.getElem?_eq_some_iff.1 u1).1;have fin: ∀(jump:Option Code),jumpOf e2=jump→next (a.put o.dst (.bool jump.isNone)) (w3.putObj vw.blk (.loop { p' with state:=if jump.isNone then .ready else .done,pending:=jump })):=fun jump hj=>by
         have G4:=Went.record k1.rh hr2 hv3 (x:=some (.loop ⟨bif isNone (jumpOf e2)then 0 else 2,jumpOf e2,r2.t,r2.ps,r2.asg,r2.body⟩)) (y:= .loop { p' with state:=if jump.isNone then .ready else .done,pending:=jump }) (fun r' h=>by
          obtain rfl:=Option.some.inj h;refine⟨rfl,{ p' with state:=if jump.isNone then .ready else .done,pending:=jump },World.putObj_heap_same hlt2,?_,hj.symm,u4,u5,u6,u7⟩;rw[hj];cases jump<;>rfl) hput2
         refine hn ι3 _ _ (G3.trans G4) ?_;rw[hj];cases jump<;>exact .flat rfl
        cases e2 with
        |normal=>exact⟨_,_,run_endRound none u1,fin none rfl⟩
        |ret=>exact⟨_,_,run_endRound (some .ret) u1,fin (some .ret) rfl⟩
        |exit id=>exact⟨_,_,run_endRound (some (.exit id)) u1,fin (some (.exit id)) rfl⟩
        |goto t=>exact⟨_,_,run_endRound (some (.goto t)) u1,fin (some (.goto t)) rfl⟩
      · cases hout
    · cases hin
   |_=>cases hs2
 · cases hs
omit hm hN in
theorem evCall_succ (P:Program)(fuel d:Nat)(f:FuncId)(args:List Value)(h:Hp):evCall P fuel (d+1) f args h=(bif Nat.ble yB f then evRound P (evCall P fuel d) fuel (f-yB) args h else (P.funcs[f]?).bind (fun fn=>match fn.body with
 |none=>bif args.all flat then (match pureRun P (callFunc f args.toArray)with
   |some (.value v)=>bif flat v then some (v,h)else none
   |_=>none)else none
 |some c=>(ev P (evCall P fuel d) fuel c (frame fn.ntmps args h)).bind fun r=>match r.1 with
  | .normal| .ret=>(resultsOf P fn r.2).map fun v=>(v,r.2.h)
  |_=>none)):=rfl
theorem evCall_sound (fuel:Nat): ∀d,COk P (evCall P fuel d):=by
 intro d
 induction d with
 |zero=>intro f args h v h' hs;cases hs
 |succ d ih=>
  intro f args h v h' hs ι w args' R ha rd o a next Q hn
  rw[evCall_succ]at hs;refine⟨fun hlt=> ?_,fun l hl vw hvw=> ?_⟩
  · have hb:Nat.ble yB f=false:=by
     rw[Bool.eq_false_iff];intro hh;have:yB≤f:=by simpa using hh
     exact absurd this (Nat.not_le.2 hlt)
    rw[hb,cond_false]at hs;obtain⟨fn,hf,h1⟩:=Option.bind_eq_some_iff.1 hs;cases hb:fn.body with
    |none=>
     rw[hb]at h1;obtain⟨hfl,h2⟩:=cond_some h1;obtain rfl:=ha.flat_eq hfl;split at h2
     · rename_i v0 hrun;obtain⟨hfv,h3⟩:=cond_some h2;injection h3 with h3;injection h3 with e1 e2;subst e1 e2;rw[pureRun_sound hrun w];exact hn ι v0 w (.refl R) (.flat hfv)
     · cases h2
    |some c=>
     rw[hb]at h1;obtain⟨r,hev,h2⟩:=Option.bind_eq_some_iff.1 h1;have he:(callFunc f args'.toArray).run P w= .ok (.enter f args'.toArray) w:=by
      have hname:=hN f fn hf;simp[callFunc,hf,hb];simpa using hname
     rw[he];have key:(r.1= .normal∨r.1= .ret)∧(resultsOf P fn r.2).map (fun v=>(v,r.2.h))=some (v,h'):=by
      cases hr1:r.1 with
      |normal=>rw[hr1]at h2;exact⟨.inl rfl,h2⟩
      |ret=>rw[hr1]at h2;exact⟨.inr rfl,h2⟩
      |exit id=>rw[hr1]at h2;cases h2
      |goto l=>rw[hr1]at h2;cases h2
     obtain⟨v0,hv0,e0⟩:=Option.map_eq_some_iff.1 key.2;injection e0 with e1 e2;subst e1 e2;exact⟨fun h=>(by cases h),body_sound hm hN ih hf hb hev key.1 hv0 R ha fun ι' v' w' g1 g2=>hn ι' v' w' g1 g2⟩
  · subst hl;have hb:Nat.ble yB (yB+l)=true:=by simp
    rw[hb,cond_true,Nat.add_sub_cancel_left]at hs;exact round_sound hm hN ih hs R ha hvw hn
theorem calls_of_ev {fuel d:Nat}{f:FuncId}{fn:Func}(hlt:f<yB)(hf:P.funcs[f]? =some fn)(hb:fn.body.isSome=true){args args':List Value}{h h':Hp}{v:Value}(hs:evCall P fuel d f args h=some (v,h')){ι:Inj}{w:World}(R:RH P ι h w)(ha:VRs ι args args'):
 Calls P f args'.toArray w fun e w'=> ∃ι' v',e= .returned v'∧Went P h ι w h' ι' w'∧VR ι' v v':=by
 cases d with
 |zero=>cases hs
 |succ d=>
  rw[evCall_succ]at hs;have hb1:Nat.ble yB f=false:=by
   rw[Bool.eq_false_iff];intro hh;have:yB≤f:=by simpa using hh
   exact absurd this (Nat.not_le.2 hlt)
  rw[hb1,cond_false]at hs;rw[hf]at hs;cases hbd:fn.body with
  |none=>rw[hbd]at hb;cases hb
  |some c=>
   simp only[Option.bind_some,hbd]at hs;obtain⟨r,hev,h2⟩:=Option.bind_eq_some_iff.1 hs;have key:(r.1= .normal∨r.1= .ret)∧(resultsOf P fn r.2).map (fun v=>(v,r.2.h))=some (v,h'):=by
    cases hr1:r.1 with
    |normal=>rw[hr1]at h2;exact⟨.inl rfl,h2⟩
    |ret=>rw[hr1]at h2;exact⟨.inr rfl,h2⟩
    |exit id=>rw[hr1]at h2;cases h2
    |goto l=>rw[hr1]at h2;cases h2
   obtain⟨v0,hv0,e0⟩:=Option.map_eq_some_iff.1 key.2;injection e0 with e1 e2;subst e1 e2;exact callsIn_wide.1 (body_sound (r:=none) hm hN (evCall_sound hm hN fuel d) hf hbd hev key.1 hv0 R ha fun ι' v' w' g1 g2=>⟨ι',v',rfl,g1,g2⟩)
end
theorem run_callFunc {P:Program}(hN:NoNum P){f:FuncId}{fn:Func}(hf:P.funcs[f]? =some fn)(hb:fn.body.isSome=true)(args:Array Value)(w:World):(callFunc f args).run P w= .ok (.enter f args) w:=by
 have hname:=hN f fn hf;cases hc:fn.body with
 |none=>rw[hc]at hb;cases hb
 |some c=>
  simp[callFunc,hf,hc];simpa using hname
theorem closed_call {P:Program}(hm:P.follows .mixedOrders=true)(hN:NoNum P){fuel d:Nat}{f:FuncId}{fn:Func}(hlt:f<yB)(hf:P.funcs[f]? =some fn)(hb:fn.body.isSome=true){args:List Value}{h0 h1 h:Hp}{v:Value}
 (hs:evCall P fuel d f args h0=some (v,h1)) (ha:args.all flat=true) (hv:flat v=true) (hro0: ∀o x,h0.get o=some x→ ∃c e,x= .cells c e .ro∧c.all Ev.flat=true) (hsub: ∀o x,h0.get o=some x→h.get o=some x∧o<h0.nx) (hnx:P.globals.size≤h0.nx)
 {ι:Inj} {w:World} (R:RH P ι h w):Calls P f args.toArray w fun e w'=>e= .returned v∧Went P h ι w h ι w':=by
 have hro: ∀o x,h0.get o=some x→x.wr=false:=fun o x ho=>by obtain⟨c,e,rfl,_⟩:=hro0 o x ho;rfl
 let ι0:Inj:=fun o=>if o<h0.nx then ι o else none
 have hι: ∀o,o<h0.nx→ι0 o=ι o:=fun o ho=>if_pos ho;have mono: ∀o u,ι0 o=some u→ι o=some u:=fun o u ho=>by
  by_cases h:o<h0.nx
  · rw[←hι o h];exact ho
  · rw[show ι0 o=none from if_neg h]at ho;cases ho
 have R0:RH P ι0 h0 w:=by
  refine⟨fun o x ho=> ?_,fun o q x y vo vq _ ho hx=> ?_,fun o ho=>if_neg (by omega),fun g hg=> ?_,hnx⟩
  · obtain⟨ho2,hlt⟩:=hsub o x ho;obtain⟨_,u,hu,hor⟩:=R.live o x ho2;obtain⟨c,e,rfl,hfl⟩:=hro0 o x ho;obtain⟨h1,c',e',fr,h2,h3,h4,h5⟩:=hor;refine⟨hlt,u,by rw[hι o hlt];exact hu,h1,c',e',fr,h2,fun j y hj=> ?_,h4,fun hm=>by cases hm⟩;obtain⟨z,hz,hyz⟩:=h3 j y hj;have hfy:=all_get hfl hj;obtain rfl:=VR.of_flat hfy hyz;exact⟨z,hz,.flat hfy⟩
  · rw[hro o x ho]at hx;cases hx
  · rw[hι g (by omega)];exact R.glob g hg
 refine(calls_of_ev hm hN hlt hf hb hs R0 (.of_flat ha)).mono fun e w' ⟨ι',v',he,g,hvv⟩=> ?_;obtain rfl:=VR.of_flat hv hvv;have rest: ∀b,b<w.heap.size→w'.heap[b]? =w.heap[b]? :=fun b hb=>g.fr.rest b hb fun o x _ ho hx=>by rw[hro o x ho]at hx;cases hx
 refine⟨he,.refl _ _,⟨fun o x ho=> ?_,R.apart,R.fresh,R.glob,R.gsize⟩,⟨g.fr.tape,g.fr.os,g.fr.output,g.fr.size,fun b hb _=>rest b hb⟩,Nat.le_refl _,rfl,fun _ _ h _=>h,fun _ y _ h=>⟨y,h⟩,fun o x u ho hu=> .inl ⟨o,x,u,ho,rfl,hu,rfl⟩⟩;obtain⟨hl,u,hu,hor⟩:=R.live o x ho;exact⟨hl,u,hu,hor.of_block (fun _ _ h=>h) (rest _ hor.block)⟩
theorem calls_rd {P:Program}{r:Option Nat}{n:Nat}{f:FuncId}{args:Array Value}{w:World}{K:Ending→World→Prop}(h:Calls P f args w K):CallsIn (rdF r) n P f args w K:=(callsIn_wide (n:=n)).2 h
def CfLe (cf cf':CallF):Prop:= ∀f args h r,cf f args h=some r→cf' f args h=some r
section
variable {P:Program}{cf cf':CallF}(hle:CfLe cf cf')
include hle
theorem stepEff_mono {t:Fr}{o:Oper}{h:Hp}{r:Value×Hp}(hs:stepEff P cf t o h=some r):stepEff P cf' t o h=some r:=by
 obtain⟨dst,op,ty,pos,af,gu⟩:=o;cases op with
 |call c=>
  obtain⟨callee,args,argTypes⟩:=c;cases callee with
  |value f=>
   have hs:((opv P t f).bind fun fv=>(mapO (opv P t) args.toList).bind fun az=>match fv with
    | .func (.func g) first cap=>cf g (first.toList++az++cap.toList) h
    | .func (.yield l) first cap=>bif Nat.beq first.size 0&&Nat.beq cap.size 0 then cf (yB+l) az h else none
    |_=>none)=some r:=hs
   show((opv P t f).bind fun fv=>(mapO (opv P t) args.toList).bind fun az=>match fv with
    | .func (.func g) first cap=>cf' g (first.toList++az++cap.toList) h
    | .func (.yield l) first cap=>bif Nat.beq first.size 0&&Nat.beq cap.size 0 then cf' (yB+l) az h else none
    |_=>none)=some r
   obtain⟨fv,h1,h2⟩:=Option.bind_eq_some_iff.1 hs;obtain⟨az,h3,h4⟩:=Option.bind_eq_some_iff.1 h2;rw[h1,Option.bind_some,h3,Option.bind_some];split at h4
   · exact hle _ _ _ _ h4
   · obtain⟨h5,h6⟩:=cond_some h4;rw[h5];exact hle _ _ _ _ h6
   · cases h4
  |invoke x nm=>
   have hs:((opv P t x).bind fun xv=>(mapO (opv P t) args.toList).bind fun az=>match xv with
    | .iface ty v=>(invF P ty nm).bind fun f=>bif Nat.blt f yB then cf f (v::az) h else none
    |_=>none)=some r:=hs
   show((opv P t x).bind fun xv=>(mapO (opv P t) args.toList).bind fun az=>match xv with
    | .iface ty v=>(invF P ty nm).bind fun f=>bif Nat.blt f yB then cf' f (v::az) h else none
    |_=>none)=some r
   obtain⟨fv,h1,h2⟩:=Option.bind_eq_some_iff.1 hs;obtain⟨az,h3,h4⟩:=Option.bind_eq_some_iff.1 h2;rw[h1,Option.bind_some,h3,Option.bind_some];split at h4
   · obtain⟨f,h5,h6⟩:=Option.bind_eq_some_iff.1 h4;obtain⟨h7,h8⟩:=cond_some h6;rw[h5,Option.bind_some,h7];exact hle _ _ _ _ h8
   · cases h4
  |builtin b=>exact hs
 |_=>exact hs
theorem stepOp_mono {ops:Array Oper}{o:Oper}{s s':St}(hs:stepOp P cf ops o s=some s'):stepOp P cf' ops o s=some s':=by
 unfold stepOp at *;cases hw:wantedF ops s.t o with
 |false=>rw[hw]at hs;exact hs
 |true=>
  rw[hw,cond_true]at hs;rw[cond_true];split at hs
  · exact hs
  · exact hs
  · exact hs
  · obtain⟨r,h1,rfl⟩:=Option.map_eq_some_iff.1 hs;rw[stepEff_mono hle h1];rfl
theorem runOps_mono {ops:Array Oper}: ∀(l:List Oper) {s s':St},runOps P cf ops l s=some s'→runOps P cf' ops l s=some s':=by
 intro l
 induction l with
 |nil=>intro s s' h;exact h
 |cons o l ih=>
  intro s s' h;obtain⟨s1,h1,h2⟩:=Option.bind_eq_some_iff.1 (show(stepOp P cf ops o s).bind (runOps P cf ops l)=some s' from h);show(stepOp P cf' ops o s).bind (runOps P cf' ops l)=some s';rw[stepOp_mono hle h1];exact ih h2
theorem planStep_mono {ops:Array Oper}{ms:List Nat}{n0 i:Nat}{q q':Rds×St}(hs:planStep P cf ops ms n0 i q=some q'):planStep P cf' ops ms n0 i q=some q':=by
 unfold planStep at *;obtain⟨o,ho,h1⟩:=Option.bind_eq_some_iff.1 hs;simp only[ho,Option.bind_some];cases hw:wantedF ops q.2.t o with
 |false=>simp only[hw]at h1;exact h1
 |true=>
  simp only[hw,cond_true]at h1;simp only[cond_true];split at h1
  · exact h1
  · exact h1
  · exact h1
  · obtain⟨r,h2,rfl⟩:=Option.map_eq_some_iff.1 h1;rw[stepEff_mono hle h2];rfl
theorem runPlan_mono {ops:Array Oper}{ms:List Nat}{n0:Nat}: ∀(l:List Nat) {q:Rds×St} {s':St},runPlan P cf ops ms n0 l q=some s'→runPlan P cf' ops ms n0 l q=some s':=by
 intro l
 induction l with
 |nil=>intro q s' h;exact h
 |cons o l ih=>
  intro q s' h;obtain⟨s1,h1,h2⟩:=Option.bind_eq_some_iff.1 (show(planStep P cf ops ms n0 o q).bind (runPlan P cf ops ms n0 l)=some s' from h);show(planStep P cf' ops ms n0 o q).bind (runPlan P cf' ops ms n0 l)=some s';rw[planStep_mono hle h1];exact ih h2
theorem runRegion_mono {ops:Array Oper}{draw:Bool}{s s':St}(hs:runRegion P cf ops draw s=some s'):runRegion P cf' ops draw s=some s':=by
 unfold runRegion at *;cases draw with
 |false=>exact runOps_mono hle _ hs
 |true=>
  simp only[cond_true]at *;obtain⟨hp,h1⟩:=cond_some hs;rw[hp];exact runPlan_mono hle _ h1
omit hle in
theorem scopeF_mono {run run':Code→St→Option (Ex×St)}(hr: ∀c s r,run c s=some r→run' c s=some r)(b:Code): ∀(n m:Nat),n≤m→ ∀(c:Code) (s:St) (r:Ex×St),scopeF run b n c s=some r→scopeF run' b m c s=some r:=by
 intro n
 induction n with
 |zero=>intro m _ c s r h;cases h
 |succ n ih=>
  intro m hm c s r h;obtain⟨m,rfl⟩: ∃k,m=k+1:=⟨m-1,by omega⟩;have h:((run c s).bind fun r=>match r.1 with
   | .goto l=>match findLabel b l with
     |some rest=>scopeF run b n rest r.2
     |none=>some r
   |_=>some r)=some r:=h
  show((run' c s).bind fun r=>match r.1 with
   | .goto l=>match findLabel b l with
     |some rest=>scopeF run' b m rest r.2
     |none=>some r
   |_=>some r)=some r
  obtain⟨⟨e,s1⟩,h1,h2⟩:=Option.bind_eq_some_iff.1 h;rw[hr _ _ _ h1,Option.bind_some];cases e with
  |goto l=>
   simp only at *;cases hl:findLabel b l with
   |none=>rw[hl]at h2;exact h2
   |some rest=>rw[hl]at h2;exact ih m (by omega) _ _ _ h2
  |_=>exact h2
theorem ev_mono: ∀(n m:Nat),n≤m→ ∀(c:Code) {s:St} {r:Ex×St},ev P cf n c s=some r→ev P cf' m c s=some r:=by
 intro n
 induction n with
 |zero=>intro m _ c s r h;cases h
 |succ n ih=>
  intro m hm c s r h;obtain⟨m,rfl⟩: ∃k,m=k+1:=⟨m-1,by omega⟩;have hm:n≤m:=by omega
  rw[ev_succ]at h ⊢;cases c with
  |seq x y=>
   obtain⟨⟨e,s1⟩,h1,h2⟩:=Option.bind_eq_some_iff.1 h;simp only[ih m hm x h1,Option.bind_some];cases e with
   |normal=>exact ih m hm y h2
   |_=>exact h2
  |cond c x y=>
   obtain⟨v,h1,h2⟩:=Option.bind_eq_some_iff.1 h;simp only[h1,Option.bind_some];split at h2
   · exact ih m hm x h2
   · exact ih m hm y h2
   · cases h2
  |block id b=>
   obtain⟨⟨e,s1⟩,h1,rfl⟩:=Option.map_eq_some_iff.1 h;simp only[ih m hm b h1,Option.map_some]
  |loop b=>
   obtain⟨⟨e,s1⟩,h1,h2⟩:=Option.bind_eq_some_iff.1 h;simp only[ih m hm b h1,Option.bind_some];cases e with
   |normal=>exact ih m hm (.loop b) h2
   |_=>exact h2
  |scope b=>exact scopeF_mono (fun c s r h=>ih m hm c h) b n m hm b s r h
  |region id ops draw=>
   obtain⟨s1,h1,rfl⟩:=Option.map_eq_some_iff.1 h;simp only[runRegion_mono hle h1,Option.map_some]
  |rangeFunc g ps asg body=>
   obtain⟨gv,h1,h2⟩:=Option.bind_eq_some_iff.1 h;simp only[h1,Option.bind_some];split at h2
   · obtain⟨h3,h4⟩:=cond_some h2;obtain⟨q,h5,h6⟩:=Option.bind_eq_some_iff.1 h4;simp only[h3,cond_true,hle _ _ _ _ h5,Option.bind_some];exact h6
   · cases h2
  |_=>exact h
theorem evRound_mono {n m:Nat}(hm:n≤m){l:Nat}{args:List Value}{h:Hp}{r:Value×Hp}(hs:evRound P cf n l args h=some r):evRound P cf' m l args h=some r:=by
 unfold evRound at *;split at hs
 · obtain⟨h1,h2⟩:=cond_some hs;rw[h1,cond_true];obtain⟨⟨e,s1⟩,h3,h4⟩:=Option.bind_eq_some_iff.1 h2;rw[ev_mono hle n m hm _ h3,Option.bind_some];cases e with
   |normal=>
    obtain⟨h5,h6,h7⟩:=Option.bind_eq_some_iff.1 h4;obtain⟨q,h8,h9⟩:=Option.bind_eq_some_iff.1 h7;simp only[h6,Option.bind_some,ev_mono hle n m hm _ h8];exact h9
   |_=>cases h4
 · cases hs
end
noncomputable def evBody (P:Program)(cf:CallF)(fuel:Nat)(f:FuncId)(args:List Value)(h:Hp):Option (Value×Hp):=bif Nat.ble yB f then evRound P cf fuel (f-yB) args h else
 (P.funcs[f]?).bind fun fn=>match fn.body with
   |none=>bif args.all flat then (match pureRun P (callFunc f args.toArray)with
     |some (.value v)=>bif flat v then some (v,h)else none
     |_=>none)else none
   |some c=>(ev P cf fuel c (frame fn.ntmps args h)).bind fun r=>match r.1 with
    | .normal| .ret=>(resultsOf P fn r.2).map fun v=>(v,r.2.h)
    |_=>none
theorem evBody_mono {P:Program}{cf cf':CallF}(hle:CfLe cf cf'){n m:Nat}(hm:n≤m):CfLe (evBody P cf n) (evBody P cf' m):=by
 intro f args h r hs;unfold evBody at *;cases hy:Nat.ble yB f with
 |true=>
  rw[hy,cond_true]at hs;rw[cond_true];exact evRound_mono hle hm hs
 |false=>
 rw[hy,cond_false]at hs;rw[cond_false];obtain⟨fn,hf,h1⟩:=Option.bind_eq_some_iff.1 hs;rw[hf,Option.bind_some];cases hb:fn.body with
 |none=>rw[hb]at h1;exact h1
 |some c=>
  rw[hb]at h1;obtain⟨q,hev,h2⟩:=Option.bind_eq_some_iff.1 h1;simp only[ev_mono hle n m hm c hev,Option.bind_some];exact h2
noncomputable def evW (P:Program)(O:CallF)(fuel:Nat):Nat→CallF
 |0,f,args,h=>O f args h
 |d+1,f,args,h=>match O f args h with
  |some r=>some r
  |none=>evBody P (evW P O fuel d) fuel f args h
theorem evW_mono {P:Program}{O:CallF}{n m:Nat}(hm:n≤m): ∀d e,d≤e→CfLe (evW P O n d) (evW P O m e):=by
 intro d
 induction d with
 |zero=>
  intro e _ f args h r hs;cases e with
  |zero=>exact hs
  |succ e=>show(match O f args h with|some r=>some r|none=>_)=_;rw[show O f args h=some r from hs]
 |succ d ih=>
  intro e he f args h r hs;obtain⟨e,rfl⟩: ∃k,e=k+1:=⟨e-1,by omega⟩;unfold evW at *;cases hO:O f args h with
  |some q=>rw[hO]at hs;exact hs
  |none=>rw[hO]at hs;exact evBody_mono (ih e (by omega)) hm f args h r hs
def EvC (P:Program)(O:CallF)(f:FuncId)(args:List Value)(h:Hp)(v:Value)(h':Hp):Prop:= ∃k,evW P O k k f args h=some (v,h')
section
variable {P:Program}(hm:P.follows .mixedOrders=true)(hN:NoNum P)
include hm hN
omit hm hN in
theorem yB_f {f:FuncId}(h:f<yB):Nat.ble yB f=false:=by
 rw[Bool.eq_false_iff];intro hh;have:yB≤f:=by simpa using hh
 exact absurd this (Nat.not_le.2 h)
theorem evBody_ok {cf:CallF}(hc:COk P cf)(fuel:Nat):COk P (evBody P cf fuel):=by
 intro f args h v h' hs ι w args' R ha rd o a next Q hn
 unfold evBody at hs;refine⟨fun hlt=> ?_,fun l hl vw hvw=> ?_⟩
 rotate_left
 · subst hl;have hb:Nat.ble yB (yB+l)=true:=by simp
   rw[hb,cond_true,Nat.add_sub_cancel_left]at hs;exact round_sound hm hN hc hs R ha hvw hn
 rw[yB_f hlt,cond_false]at hs;obtain⟨fn,hf,h1⟩:=Option.bind_eq_some_iff.1 hs;cases hb:fn.body with
 |none=>
  rw[hb]at h1;obtain⟨hfl,h2⟩:=cond_some h1;obtain rfl:=ha.flat_eq hfl;split at h2
  · rename_i v0 hrun;obtain⟨hfv,h3⟩:=cond_some h2;injection h3 with h3;injection h3 with e1 e2;subst e1 e2;rw[pureRun_sound hrun w];exact hn ι v0 w (.refl R) (.flat hfv)
  · cases h2
 |some c=>
  rw[hb]at h1;obtain⟨r,hev,h2⟩:=Option.bind_eq_some_iff.1 h1;have he:(callFunc f args'.toArray).run P w= .ok (.enter f args'.toArray) w:=by
   have hname:=hN f fn hf;simp[callFunc,hf,hb];simpa using hname
  rw[he];have key:(r.1= .normal∨r.1= .ret)∧(resultsOf P fn r.2).map (fun v=>(v,r.2.h))=some (v,h'):=by
   cases hr1:r.1 with
   |normal=>rw[hr1]at h2;exact⟨.inl rfl,h2⟩
   |ret=>rw[hr1]at h2;exact⟨.inr rfl,h2⟩
   |exit id=>rw[hr1]at h2;cases h2
   |goto l=>rw[hr1]at h2;cases h2
  obtain⟨v0,hv0,e0⟩:=Option.map_eq_some_iff.1 key.2;injection e0 with e1 e2;subst e1 e2;exact⟨fun h=>(by cases h),body_sound hm hN hc hf hb hev key.1 hv0 R ha fun ι' v' w' g1 g2=>hn ι' v' w' g1 g2⟩
theorem evW_ok {O:CallF}(hO:COk P O)(fuel:Nat): ∀d,COk P (evW P O fuel d):=by
 intro d
 induction d with
 |zero=>exact hO
 |succ d ih=>
  intro f args h v h' hs;unfold evW at hs;cases hq:O f args h with
  |some r=>rw[hq]at hs;injection hs with hs;subst hs;exact hO f args h v h' hq
  |none=>rw[hq]at hs;exact evBody_ok hm hN ih fuel f args h v h' hs
theorem calls_of_EvC {O:CallF}(hO:COk P O){f:FuncId}{fn:Func}(hlt:f<yB)(hf:P.funcs[f]? =some fn)(hb:fn.body.isSome=true){args args':List Value}{h h':Hp}{v:Value}(hq:O f args h=none)(hs:EvC P O f args h v h'){ι:Inj}{w:World}(R:RH P ι h w)(ha:VRs ι args args'):
 Calls P f args'.toArray w fun e w'=> ∃ι' v',e= .returned v'∧Went P h ι w h' ι' w'∧VR ι' v v':=by
 obtain⟨k,hs⟩:=hs;cases k with
 |zero=>rw[show evW P O 0 0 f args h=O f args h from rfl,hq]at hs;cases hs
 |succ d=>
  have hs:(match O f args h with
   |some r=>some r
   |none=>evBody P (evW P O (d+1) d) (d+1) f args h)=some (v,h'):=hs
  rw[hq]at hs;simp only[evBody,yB_f hlt,cond_false,hf,Option.bind_some]at hs;cases hbd:fn.body with
  |none=>rw[hbd]at hb;cases hb
  |some c=>
   simp only[hbd]at hs;obtain⟨r,hev,h2⟩:=Option.bind_eq_some_iff.1 hs;have key:(r.1= .normal∨r.1= .ret)∧(resultsOf P fn r.2).map (fun v=>(v,r.2.h))=some (v,h'):=by
    cases hr1:r.1 with
    |normal=>rw[hr1]at h2;exact⟨.inl rfl,h2⟩
    |ret=>rw[hr1]at h2;exact⟨.inr rfl,h2⟩
    |exit id=>rw[hr1]at h2;cases h2
    |goto l=>rw[hr1]at h2;cases h2
   obtain⟨v0,hv0,e0⟩:=Option.map_eq_some_iff.1 key.2;injection e0 with e1 e2;subst e1 e2;exact callsIn_wide.1 (body_sound (r:=none) hm hN (evW_ok hm hN hO (d+1) d) hf hbd hev key.1 hv0 R ha fun ι' v' w' g1 g2=>⟨ι',v',rfl,g1,g2⟩)
end
abbrev LF:=List Value
noncomputable section
def gt (l:LF)(i:Nat):Value:=match nth l i with
 |some v=>v
 |none=>undef
def setL (l:LF)(d:Nat)(v:Value):LF:=List.rec (motive:=fun _=>Nat→LF) (fun _=>[]) (fun a r ih d=>Nat.rec (motive:=fun _=>LF) (v::r) (fun m _=>a::ih m) d) l d
def stL (l:LF)(d:Option Nat)(v:Value):LF:=match d with
 |some d=>setL l d v
 |none=>l
def frL (l:LF):Fr:=mkFr l
def vreq (b:Bool)(K:Prop):Prop:=match b with
 |true=>K
 |false=>False
def vcond (b:Bool)(A B:Prop):Prop:=match b with
 |true=>A
 |false=>B
def isNat (x:Int)(K:Nat→Prop):Prop:=match x with
 | .ofNat n=>K n
 | .negSucc _=>False
def isAddr (a:Option Addr)(K:Nat→Nat→Prop):Prop:=match a with
 |some ⟨b,off,none⟩=>K b off
 |_=>False
def isFn (v:Value)(K:FuncId→List Value→List Value→Prop):Prop:=match v with
 | .func (.func g) a b=>K g a.toList b.toList
 | .func (.yield l) a b=>vreq (Nat.beq a.size 0&&Nat.beq b.size 0) (K (yB+l) [] [])
 |_=>False
def Fls:Prop:=vreq false (vcond true (isNat 0 fun _=>isAddr none fun _ _=>isFn .nilFunc fun _ _ _=>True) True)
def vsome {α:Type}(o:Option α)(K:α→Prop):Prop:=match o with
 |some a=>K a
 |none=>Fls
def isInt (v:Value)(K:IntKind→Int→Prop):Prop:=match v with
 | .int k x=>K k x
 |_=>Fls
def isBool (v:Value)(K:Bool→Prop):Prop:=match v with
 | .bool b=>K b
 |_=>Fls
def isPtr (v:Value)(K:Nat→Nat→Prop):Prop:=match v with
 | .pointer a=>isAddr a K
 |_=>Fls
def isSlc (v:Value)(K:Option Addr→Nat→Nat→Prop):Prop:=match v with
 | .slice a n c=>K a n c
 |_=>Fls
def vnil (a:Option Addr)(A B:Prop):Prop:=match a with
 |none=>A
 |some _=>B
def intsOf (k:IntKind):List Value→Option (List Int)
 | []=>some []
 | .int k' x::r=>bif kindB k k' then (match intsOf k r with
   |some l=>some (x::l)
   |none=>none)else none
 |_::_=>none
def landI (x y:Int):Int:=match x,y with
 | .ofNat a,.ofNat b=> .ofNat (Nat.land a b)
 |_,_=>0
def lorI (x y:Int):Int:=match x,y with
 | .ofNat a,.ofNat b=> .ofNat (Nat.lor a b)
 |_,_=>0
def andnI (x y:Int):Int:=match x,y with
 | .ofNat a,.ofNat b=> .ofNat (a-Nat.land a b)
 |_,_=>0
def inD (m:Nat):Int→Bool
 | .ofNat a=>Nat.blt a m
 | .negSucc _=>false
def le0:Int→Bool
 | .ofNat _=>true
 | .negSucc _=>false
def shlF (k:IntKind)(x:Int)(n:Nat):Int:=k.wrap (x*2^(min n k.bits))
def shrF (k:IntKind)(x:Int)(n:Nat):Int:=x.fdiv (2^(min n k.bits))
def eqB:Bool→Bool→Bool
 |true,true=>true
 |false,false=>true
 |_,_=>false
def maxI (x y:Int):Int:=bif ltI x y then y else x
def minI (x y:Int):Int:=bif ltI y x then y else x
def vdig (k:IntKind)(x y:Int)(A:Prop):Prop:=match dig k with
 |some m=>vreq (inD m x) (vreq (inD m y) A)
 |none=>False
def vint (op:BinOp)(k:IntKind)(x y:Int)(K:Value→Prop):Prop:=match op with
 | .quo=>vreq (!(eqI y 0)) (K (.int k (wrapF k (x.tdiv y))))
 | .rem=>vreq (!(eqI y 0)) (K (.int k (x.tmod y)))
 | .and=>vdig k x y (K (.int k (landI x y)))
 | .or=>vdig k x y (K (.int k (lorI x y)))
 | .andNot=>vdig k x y (K (.int k (andnI x y)))
 | .xor| .shl| .shr=>False
 |op=>vsome (binF op k x y) K
def vshift (op:BinOp)(k:IntKind)(x y:Int)(K:Value→Prop):Prop:=vreq (le0 y) (match op with
 | .shl=>K (.int k (shlF k x y.toNat))
 | .shr=>K (.int k (shrF k x y.toNat))
 |_=>False)
section
variable (P:Program)
def vop (l:LF)(x:Operand)(K:Value→Prop):Prop:=match x with
 | .tmp i=>K (gt l i)
 | .const v=>match v with
   | .int k n=>K (.int k n)
   | .bool b=>K (.bool b)
   |v=>vreq (flat v) (K v)
 | .global g=>vreq (Nat.blt g P.globals.size) (K (.pointer (some ⟨g,0,none⟩)))
 | .func f=>vreq (Nat.blt f yB) (K (.func (.func f) #[] #[]))
def vopO (l:LF)(x:Option Operand)(K:Option Value→Prop):Prop:=match x with
 |none=>K none
 |some x=>vop P l x fun v=>K (some v)
def vopL (l:LF)(xs:List Operand)(K:List Value→Prop):Prop:=
 List.rec (motive:=fun _=>(List Value→Prop)→Prop) (fun K=>K []) (fun x _ ih K=>vop P l x fun v=>ih fun vs=>K (v::vs)) xs K
def exCell (ty:TypeId)(K:Value→Prop):Prop:=match P.underlying ty with
 |some (.int k)=> ∃x:Int,K (.int k x)
 |some .bool=> ∃b:Bool,K (.bool b)
 |some (.slice _)=> ∃(a:Option Addr) (n c:Nat),K (.slice a n c)
 |some (.pointer _)=> ∃a:Option Addr,K (.pointer a)
 |some .string=> ∃s:ByteArray,K (.string s)
 |some (.func ..)=> ∃(g:Nat) (fi ca:Array Value),K (.func (.func g) fi ca)
 |_=> ∃v:Value,K v
def exCells (tys:List TypeId)(K:List Value→Prop):Prop:=
 List.rec (motive:=fun _=>(List Value→Prop)→Prop) (fun K=>K []) (fun ty _ ih K=>exCell P ty fun v=>ih fun vs=>K (v::vs)) tys K
def cellTys:Nat→TypeId→List TypeId
 |0,ty=>[ty]
 |n+1,ty=>match P.underlying ty with
  |some (.struct fs)=>fs.toList.flatMap fun f=>cellTys n f.type
  |some (.array k e)=>(List.replicate k (cellTys n e)).flatten
  |_=>[ty]
def exV (ty:TypeId)(K:Value→Prop):Prop:=match aggT P ty with
 |some true=>exCells P (cellTys P 6 ty) fun vs=>K (.agg vs.toArray)
 |_=>exCell P ty K
def exVs (tys:List TypeId)(K:List Value→Prop):Prop:=
 List.rec (motive:=fun _=>(List Value→Prop)→Prop) (fun K=>K []) (fun ty _ ih K=>exV P ty fun v=>ih fun vs=>K (v::vs)) tys K
def exRes (ty:TypeId)(K:Value→Prop):Prop:=match P.underlying ty with
 |some (.tuple tys)=>exVs P tys.toList fun vs=>K (.tuple vs.toArray)
 |_=>exV P ty K
def byteI (b:ByteArray)(k:Nat):Int:=match b.data.toList[k]? with
 |some x=>Int.ofNat x.toNat
 |none=>0
def fieldOff (s:TypeId)(f:Nat):Option Nat:=match P.underlying s with
 |some (.struct fs)=>(fs[f]?).bind fun fl=>(sz P fl.type).bind fun n=>bif Nat.beq n 0 then none else some fl.offset
 |_=>none
def vidx (s:TypeId)(v:Value)(k:Nat)(K:Value→Prop):Prop:=match P.underlying s with
 |some (.slice e)=>isSlc v fun a len _=>isAddr a fun b off=>vsome (sz P e) fun n=>vreq (Nat.blt k len) (K (.pointer (some ⟨b,off+k*n,none⟩)))
 |some (.array len e)=>isPtr v fun b off=>vsome (sz P e) fun n=>vreq (Nat.blt k len) (K (.pointer (some ⟨b,off+k*n,none⟩)))
 |_=>False
def sEq (x y:ByteArray):Bool:=x.toList==y.toList
def sLt (x y:ByteArray):Bool:=Op.bytesLess x.toList y.toList
def sOp (op:BinOp)(x y:ByteArray):Option Bool:=match op with
 | .eql=>some (sEq x y)
 | .neq=>some (!(sEq x y))
 | .lss=>some (sLt x y)
 | .leq=>some (sLt x y||sEq x y)
 | .gtr=>some (!(sLt x y||sEq x y))
 | .geq=>some (!(sLt x y))
 |_=>none
def two (t:TypeId)(k1 k2:IntKind):Bool:=match P.underlying t with
 |some (.struct fs)=>(match fs.toList with
  | [f,g]=>(match P.underlying f.type,P.underlying g.type,aggT P f.type,aggT P g.type with
    | some (.int a), some (.int b), some false, some false => kindB a k1 && kindB b k2 && Nat.beq f.offset 0 && Nat.beq g.offset 1 && !(f.name == "_") && !(g.name == "_") && !(P.stoodInHeld t) && !(P.eqGuardType P.depth t)
    |_,_,_,_=>false)
  |_=>false)
 |_=>false
def vbin (l:LF)(o:Oper)(op:BinOp)(xt:TypeId)(a b:Value)(K:Value→Prop):Prop:=match op with
 | .shl| .shr=>isInt a fun k x=>isInt b fun _ y=>vshift op k x y K
 |op=>match a,b with
  | .int k x,.int k' y=>vreq (kindB k k') (vint op k x y K)
  | .bool x,.bool y=>(match op,P.underlying xt with
    | .eql,some .bool=>K (.bool (eqB x y))
    | .neq,some .bool=>K (.bool (!(eqB x y)))
    |_,_=>False)
  | .slice x _ _,.slice none _ _=>vsome (elemT P xt) fun _=>vsome (nilE op) fun q=>vsome (nilV op) fun r=>vnil x (K q) (K r)
  | .pointer x,.pointer none=>vsome (ptrT P xt) fun _=>vsome (nilE op) fun q=>vsome (nilV op) fun r=>vnil x (K q) (K r)
  | .string x,.string y=>(match op with
    | .add=>vreq (Nat.ble (x.size+y.size) 9223372036854775807) (K (.string (x++y)))
    |op=>vsome (sOp op x y) fun q=>K (.bool q))
  | .agg ⟨[.int k1 x1,.int k2 x2]⟩,.agg ⟨[.int l1 y1,.int l2 y2]⟩=>(match op with
    | .eql=>vreq (two P xt k1 k2&&kindB k1 l1&&kindB k2 l2) (K (.bool (eqI x1 y1&&eqI x2 y2)))
    |_=>False)
  |a,b=>vsome (binV P op xt a b (flatRun P (frL l) o)) K
def vpure (l:LF)(o:Oper)(K:Value→Prop):Prop:=match o.op with
 | .fieldAddr s x f=>vop P l x fun v=>isPtr v fun b off=>vsome (fieldOff P s f) fun d=>K (.pointer (some ⟨b,off+d,none⟩))
 | .indexAddr s x i=>vop P l x fun v=>vop P l i fun iv=>isInt iv fun _ xi=>isNat xi fun k=>vidx P s v k K
 | .call { callee:= .builtin .len,args,argTypes }=>vop P l (args.getD 0 (.const undef)) fun v=>(match v,(argTypes[0]?).bind P.underlying with
   | .slice _ n _,some (.slice _)=>vreq (Nat.beq args.size 1) (K (.int .i64 (n:Nat)))
   | .string b,some .string=>vreq (Nat.beq args.size 1) (K (.int .i64 (b.size:Nat)))
   |_,_=>vsome (stepPure P (frL l) o) K)
 | .call { callee:= .builtin .max,args, .. }=>vopL P l args.toList fun vs=>(match vs with
   | [.int k x,.int k' y]=>vreq (kindB k k') (K (.int k (maxI x y)))
   |_=>vsome (stepPure P (frL l) o) K)
 | .call { callee:= .builtin .min,args, .. }=>vopL P l args.toList fun vs=>(match vs with
   | [.int k x,.int k' y]=>vreq (kindB k k') (K (.int k (minI x y)))
   |_=>vsome (stepPure P (frL l) o) K)
 | .index s x i=>vop P l x fun v=>vop P l i fun iv=>(match v,P.underlying s with
   | .string b,some .string=>isInt iv fun _ n=>isNat n fun k=>vreq (Nat.blt k b.size) (K (.int .u8 (byteI b k)))
   | .agg cs,some (.array len e)=>isInt iv fun _ n=>isNat n fun k=>(match P.underlying e with
     |some (.int kd)=>vsome (intsOf kd cs.toList) fun xs=>vsome (sz P e) fun q=>vreq (Nat.beq q 1&&Nat.beq xs.length len) (vreq (Nat.blt k len) (K (.int kd (xs.getD k 0))))
     |_=>vsome (stepPure P (frL l) o) K)
   |_,_=>vsome (stepPure P (frL l) o) K)
 | .move x=>vop P l x K
 | .assign x=>vop P l x K
 | .pick c a b=>vop P l c fun v=>isBool v fun q=>vop P l a fun x=>vop P l b fun y=>vcond q (K x) (K y)
 | .binOp op xt x y _=>vop P l x fun a=>vop P l y fun b=>vbin P l o op xt a b K
 | .unOp op _ x=>vop P l x fun v=>(match op,v with
   | .neg,.int k n=>K (.int k (wrapF k (0-n)))
   | .not,.bool b=>K (.bool (!b))
   |_,_=>vsome (stepPure P (frL l) o) K)
 | .convert src dst x=>vop P l x fun v=>(match v,P.underlying dst with
   | .int _ n,some (.int k)=>vsome (P.underlying src) fun _=>K (.int k (wrapF k n))
   | .int _ n,some .string=>(match P.underlying src with
     |some (.int _)=>K (.string (Utf8.encode n))
     |_=>Fls)
   |_,_=>vsome (stepPure P (frL l) o) K)
 | .nilCheck x=>vop P l x fun v=>(match v with
   | .pointer a=>isAddr a fun b off=>K (.pointer (some ⟨b,off,none⟩))
   |_=>vsome (stepPure P (frL l) o) K)
 |_=>vsome (stepPure P (frL l) o) K
def vload (h:Hp)(ty:TypeId)(b off:Nat)(K:Value→Prop):Prop:=match aggT P ty with
 |some true=>vsome (sz P ty) fun n=>(match Nat.blt 6 n with
  |true=> ∃cs:List Value,readAt h b off n=some cs∧K (.agg cs.toArray)
  |false=>exCells P (cellTys P 6 ty) fun vs=>readAt h b off n=some vs∧K (.agg vs.toArray))
 |some false=>exCell P ty fun v=>readAt h b off 1=some [v]∧K v
 |none=>False
def vbO (v:Option Value)(d:Nat)(K:Nat→Prop):Prop:=match v with
 |none=>K d
 |some v=>isInt v fun _ x=>isNat x K
def bytesV (h:Hp)(a:Option Addr)(n:Nat):Option (List UInt8):=match a with
 |none=>some []
 |some ⟨b,off,none⟩=>(readAt h b off n).bind bytesOf
 |some _=>none
def vread (l:LF)(h:Hp)(o:Oper)(K:Value→List Nat→Prop):Prop:=match o.op with
 | .load ty x=>vop P l x fun v=>isPtr v fun b off=>vload P h ty b off fun r=>K r [b]
 | .slice ty x lo hi mx=>vop P l x fun v=>(match v with
   | .string s=>(match P.underlying ty,mx with
     |some .string,none=>vopO P l lo fun a=>vopO P l hi fun b=>vbO b s.size fun hh=>vbO a 0 fun ll=>vreq (Nat.ble hh s.size) (vreq (Nat.ble ll hh) (K (.string (s.extract ll hh)) []))
     |_,_=>vsome (flatRun P (frL l) o) fun r=>K r [])
   |v=>vopO P l lo fun a=>vopO P l hi fun b=>vopO P l mx fun c=> ∃(q:Option Addr) (m k:Nat),sliceV P h ty v a b c=some (.slice q m k)∧K (.slice q m k) (blocksOf v))
 | .convert src dst x=>vop P l x fun v=>vsome (bytesT P src) fun _=>(match P.underlying dst,v with
   |some .string,.slice a n _=> ∃bs:List UInt8,bytesV h a n=some bs∧K (.string (ByteArray.mk bs.toArray)) (blocksOf v)
   |_,_=>Fls)
 |_=>False
def vmk (l:LF)(o:Oper)(K:Ob→(Nat→Value)→Prop):Prop:=match o.op with
 | .makeSlice ty a c=>vsome (elemT P ty) fun e=>vsome (P.info? e) fun info=>vsome info.zero fun z=>vop P l a fun lv=>vop P l c fun cv=>isInt lv fun _ x=>isInt cv fun _ y=>isNat x fun m=>isNat y fun k=>
   vreq (Nat.ble m k) (vreq (Nat.ble (k*info.bytes) 281474976710656) (vreq (Nat.blt k big) (vreq (!(Nat.beq info.size 0)&&Nat.beq z.cells.size info.size&&z.cells.toList.all (fun v=>flat v&&one v))
    (K (.cells (List.flatten (List.replicate k z.cells.toList)) e .fix) fun q=> .slice (some ⟨q,0,none⟩) m k))))
 | .box e x=>vop P l x fun v=>vreq (v.cells.toList.all one) (K (.cells v.cells.toList e .fix) fun q=> .pointer (some ⟨q,0,none⟩))
 |_=>vsome (stepMk P (frL l) o) fun r=>K r.1 r.2
def canW (h:Hp)(b off:Nat)(vs:List Value):Bool:=(writeAt h b off vs).isSome
def Hp.wr (h:Hp)(b off:Nat)(vs:List Value):Hp:=match writeAt h b off vs with
 |some h'=>h'
 |none=>h
def Hp.grd (h:Hp)(g:List Nat):Hp:= { h with gd:=g++h.gd }
def Hp.rst (h' h:Hp):Hp:= { h' with gd:=h.gd }
def Hp.rsv (h:Hp)(k:Nat):Hp:= { h with nx:=h.nx+k }
def Hp.free (h:Hp)(k:Nat):Bool:=(h.get k).isNone
def Hp.lay (h:Hp)(k:Nat)(x:Ob):Hp:= { h with t:=h.t.upd none k (some x) }
variable (O:CallF)
def implOf (rt:TypeId):List TypeId:=match P.underlying rt with
 |some (.interface ms)=>(match ms.toList with
  | []=>[]
  |ms=>(List.range P.types.size).filter fun t=>ms.all fun m=>(match invF P t m.1 with
   |some _=>true
   |none=>false))
 |_=>[]
def isIface (v:Value)(K:TypeId→Value→Prop):Prop:=match v with
 | .iface t w=>K t w
 |_=>Fls
def vsw (t:TypeId)(ts:List TypeId)(K:TypeId→Prop):Prop:=
 List.rec (motive:=fun _=>Prop) Fls (fun a _ ih=>vcond (Nat.beq t a) (K a) ih) ts
def vdyn (rt:TypeId)(v:Value)(K:Value→Prop):Prop:=match implOf P rt with
 | []=>K v
 |a::ts=>isIface v fun t w=>vsw t (a::ts) fun a=>exV P a fun w'=>w=w'∧K (.iface a w')
def vcall (rt:TypeId)(g:FuncId)(az:List Value)(h:Hp)(K:Value→Hp→Prop):Prop:=exRes P rt fun v=> ∃h',EvC P O g az h v h'∧vdyn P rt v fun v'=>K v' h'
def veff (l:LF)(h:Hp)(o:Oper)(K:Value→Hp→Prop):Prop:=match o.op with
 | .store ty a x=>vop P l a fun av=>vop P l x fun v=>vsome (sz P ty) fun n=>isPtr av fun b off=>vreq (Nat.beq v.cells.toList.length n) (vreq (canW h b off v.cells.toList) (K undef (h.wr b off v.cells.toList)))
 | .call { callee:= .value f,args, .. }=>vop P l f fun fv=>vopL P l args.toList fun az=>isFn fv fun g first cap=>vcall P O o.type g (first++az++cap) h K
 | .call { callee:= .builtin b,args,argTypes }=>(match b,argTypes.toList with
   | .append,[sT,xT]=>vopL P l args.toList fun az=>(match az with
     | [s,x]=> ∃(a:Option Addr) (n c:Nat) (h':Hp),appendV P h sT xT s x=some (.slice a n c,h')∧K (.slice a n c) h'
     |_=>False)
   | .copy,[dT,_]=>vopL P l args.toList fun az=>(match az with
     | [d,s]=> ∃(x:Int) (h':Hp),copyV P h dT d s=some (.int .i64 x,h')∧K (.int .i64 x) h'
     |_=>False)
   | .clear,[sT]=>vopL P l args.toList fun az=>(match az with
     | [s]=> ∃h':Hp,clearV P h sT s=some (undef,h')∧K undef h'
     |_=>False)
   | .cap,[sT]=>vopL P l args.toList fun az=>(match az with
     | [s]=>isSlc s fun _ _ c=>vsome (elemT P sT) fun _=>vreq (!(Nat.beq c unk)) (K (.int .i64 (c:Nat)) h)
     |_=>False)
   |_,_=>False)
 | .call { callee:= .invoke x name,args, .. }=>vop P l x fun xv=>vopL P l args.toList fun az=>(match xv with
   | .iface ty v=>vsome (invF P ty name) fun f=>vreq (Nat.blt f yB) (vcall P O o.type f (v::az) h K)
   |_=>Fls)
 | .next x is=>vreq is (vop P l x fun v=>isPtr v fun b off=>vreq (Nat.beq off 0) (∃(s:ByteArray) (pos:Nat),h.get b=some (.siter s pos)∧vcond (Nat.blt pos s.size)
   (∃h':Hp,h.put b (some (.siter s (pos+(Utf8.decode s pos).2)))=some h'∧K (.tuple #[.bool true,.int .i64 (pos:Nat),.int .i32 (Utf8.decode s pos).1]) h')
   (K (.tuple #[.bool false]) h)))
 | .convert src dst x=>vop P l x fun v=>vsome (bytesT P dst) fun e=>(match P.underlying src,v with
   |some .string,.string s=>K (.slice (some ⟨h.nx,0,none⟩) s.size unk) (h.add (.cells (s.data.toList.map fun b=> .int .u8 (Int.ofNat b.toNat)) e .ro))
   |_,_=>Fls)
 | .range .. =>vsome (stepEff P (fun _ _ _=>none) (frL l) o h) fun r=>K r.1 r.2
 |_=>False
def vwant (ops:Array Oper)(l:LF)(o:Oper)(A B:LF→Prop):Prop:=match o.guard with
 |none=>A l
 |some (j,w)=>match (nth ops.toList j).bind (·.dst)with
  |some d=>(match gt l d with
   | .tuple _=>B l
   |v=>isBool v fun b=>(match w with
    |true=>vcond b (A (setL l d (.bool true))) (B (setL l d (.bool false)))
    |false=>vcond b (B (setL l d (.bool true))) (A (setL l d (.bool false)))))
  |none=>B l
def vstep (l:LF)(h:Hp)(o:Oper)(K:Value→Hp→Prop):Prop:=match kindOf P o.op with
 | .pure_=>vpure P l o fun v=>K v h
 | .read=>vread P l h o fun v _=>K v h
 | .mk=>vmk P l o fun x f=>K (f h.nx) (h.add x)
 | .eff=>veff P O l h o K
def vops (ops:Array Oper)(xs:List Oper):LF→Hp→(LF→Hp→Prop)→Prop:=
 List.rec (motive:=fun _=>LF→Hp→(LF→Hp→Prop)→Prop) (fun l h K=>K l h)
  (fun o _ ih l h K=>vwant ops l o (fun l=>vstep P O l h o fun v h'=>ih (stL l o.dst v) h' K) (fun l=>ih (stL l o.dst undef) h K)) xs
def vgrd (h:Hp)(g:List Nat)(F:Hp→(Value→Hp→Prop)→Prop)(K:Value→Hp→Prop):Prop:=F (h.grd g) fun v h'=>K v (h'.rst h)
def vplan (ops:Array Oper)(ms:List Nat)(n0:Nat)(xs:List Nat):Rds→LF→Hp→(LF→Hp→Prop)→Prop:=
 List.rec (motive:=fun _=>Rds→LF→Hp→(LF→Hp→Prop)→Prop) (fun _ l h K=>K l h)
  (fun i _ ih rds l h K=>vsome (nth ops.toList i) fun o=>vwant ops l o
    (fun l=>match kindOf P o.op with
      | .pure_=>vpure P l o fun v=>ih rds (stL l o.dst v) h K
      | .read=>vread P l h o fun v bs=>ih ((i,bs)::rds) (stL l o.dst v) h K
      | .mk=>vmk P l o fun x f=>vreq (h.free (n0+i)) (ih rds (stL l o.dst (f (n0+i))) (h.lay (n0+i) x) K)
      | .eff=>vgrd h ((rds.filter fun r=> !((ms.getD i 0).testBit r.1)).flatMap (·.2)) (fun h1 K1=>veff P O l h1 o K1) fun v h'=>ih rds (stL l o.dst v) h' K)
    (fun l=>ih rds (stL l o.dst undef) h K)) xs
def vregion (ops:Array Oper)(draw:Bool)(l:LF)(h:Hp)(K:LF→Hp→Prop):Prop:=match draw with
 |false=>vops P O ops ops.toList l h K
 |true=>vreq (planOk P ops.toList (masks ops.toList) (plan P ops.toList (masks ops.toList) ops.size 0))
   (vplan P O ops (masks ops.toList) h.nx (plan P ops.toList (masks ops.toList) ops.size 0) [] l (h.rsv ops.size) K)
def setB (l:LF)(c:Operand)(b:Bool):LF:=match c with
 | .tmp i=>setL l i (.bool b)
 |_=>l
inductive KI where
 |code (c:Code)
 |blk (id:Nat)
 |scp (b:Code)
 |beg (l:Nat)
def runStk (cf:CallF)(m:Nat):List KI→Ex×St→Option (Ex×St)
 | [],r=>some r
 | .code c::k,r=>match r.1 with
   | .normal=>(ev P cf m c r.2).bind (runStk cf m k)
   |_=>runStk cf m k r
 | .blk id::k,r=>match r.1 with
   | .exit id'=>bif Nat.beq id' id then runStk cf m k (.normal,r.2)else runStk cf m k r
   |_=>runStk cf m k r
 | .scp b::k,r=>match r.1 with
   | .goto l=>match findLabel b l with
     |some rest=>(scopeF (ev P cf m) b m rest r.2).bind (runStk cf m k)
     |none=>runStk cf m k r
   |_=>runStk cf m k r
 | .beg l::k,r=>match r.1 with
   | .normal=>(roundIn l r.2.h).bind fun h=>runStk cf m k (.normal,⟨r.2.t,r.2.n,h⟩)
   |_=>none
structure Ag (t:Fr)(n:Nat)(l:LF):Prop where
 len:l.length=n
 slots: ∀i,slot t i=gt l i
 has: ∀d,d<n→t.has d=true
inductive FinK where
 |fn (f:Func)
 |rd (l:Nat)
instance:Coe Func FinK:=⟨.fn⟩
def finOf:FinK→Ex→St→Option (Value×Hp)
 | .fn f,e,s=>match e with
   | .normal| .ret=>(resultsOf P f s).map fun v=>(v,s.h)
   |_=>none
 | .rd l,e,s=>roundOut l e s.h
structure RK (fn:FinK)(k:List KI)(l:LF)(h:Hp)(Q:Value→Hp→Prop):Prop where
 run: ∀t n,Ag t n l→ ∃m e s' v h',runStk P (evW P O m m) m k (.normal,⟨t,n,h⟩)=some (e,s')∧finOf P fn e s'=some (v,h')∧Q v h'
structure RKL (fn:FinK)(k:List KI)(n:Nat)(is:List Nat)(vs:LF)(h:Hp)(Q:Value→Hp→Prop):Prop where
 run: ∀l,l.length=n→is.map (gt l)=vs→RK P O fn k l h Q
def firstBlk:List KI→Option Nat
 | []=>none
 | .blk id::_=>some id
 |_::k=>firstBlk k
def lkup (id:Nat):List (Nat×List Nat)→Option (List Nat)
 | []=>none
 |x::r=>bif Nat.beq x.1 id then some x.2 else lkup id r
def lvOf (tb:List (Nat×List Nat))(k:List KI)(n:Nat):List Nat:=match firstBlk k with
 |some id=>match lkup id tb with
  |some is=>is
  |none=>List.range n
 |none=>List.range n
def lvR (tb:List (Nat×List Nat))(id n:Nat):List Nat:=match lkup (1000000+id) tb with
 |some is=>is
 |none=>List.range n
def look:List Nat→LF→Nat→Value→Value
 |j::is,v::vs,i,d=>bif Nat.beq j i then v else look is vs i d
 |_,_,_,d=>d
def spr (is:List Nat)(vs:LF)(w:Nat→Value)(n:Nat):Nat→LF:=Nat.rec (motive:=fun _=>Nat→LF) (fun _=>[]) (fun _ ih i=>look is vs i (w i)::ih (i+1)) n
def unwind (id:Nat):List KI→Option (List KI)
 | []=>none
 | .blk id'::k=>bif Nat.beq id id' then some k else unwind id k
 | .code _::k=>unwind id k
 | .scp _::k=>unwind id k
 | .beg _::_=>none
def unwindG (lab:Nat):List KI→Option (List KI)
 | []=>none
 | .blk _::k=>unwindG lab k
 | .code _::k=>unwindG lab k
 | .beg _::_=>none
 | .scp b::k=>match findLabel b lab with
   |some rest=>some (.code rest:: .scp b::k)
   |none=>unwindG lab k
def vresL (l:LF)(h:Hp)(rs:List ResultVar)(K:List Value→Prop):Prop:=
 List.rec (motive:=fun _=>(List Value→Prop)→Prop) (fun K=>K []) (fun r _ ih K=>(match r with
  | .tmp i=>ih fun vs=>K (gt l i::vs)
  | .cell a ty=>isPtr (gt l a) fun b off=>vload P h ty b off fun v=>ih fun vs=>K (v::vs))) rs K
def vres (fn:Func)(l:LF)(h:Hp)(Q:Value→Hp→Prop):Prop:=vresL P l h fn.results.toList fun vs=>(match vs with
 | [v]=>Q v h
 |vs=>Q (.tuple vs.toArray) h)
def vout (L:Nat)(e:Ex)(h:Hp)(Q:Value→Hp→Prop):Prop:=match roundOut L e h with
 |some r=>Q r.1 r.2
 |none=>False
def vfin (fn:FinK)(e:Ex)(l:LF)(h:Hp)(Q:Value→Hp→Prop):Prop:=match fn with
 | .fn f=>vres P f l h Q
 | .rd L=>vout L e h Q
def vbeg (L:Nat)(h:Hp)(K:Hp→Prop):Prop:=match roundIn L h with
 |some h'=>K h'
 |none=>False
def Hp.pend (h:Hp)(L:Nat):Option (Option Code):=match h.get L with
 |some (.loop r)=>bif Nat.beq r.st 1 then none else some r.pend
 |_=>none
def Hp.del (h:Hp)(L:Nat):Hp:= { h with t:=h.t.upd none L none }
def vend (L:Nat)(h:Hp)(N R:Hp→Prop):Prop:=vreq (!(h.guarded L)) (match h.pend L with
 |some none=>N (h.del L)
 |some (some .ret)=>R (h.del L)
 |_=>False)
def yieldV (L:Nat):Value:= .func (.yield L) #[] #[]
def noBeg:List KI→Bool
 | []=>true
 | .beg _::_=>false
 | .code _::k=>noBeg k
 | .blk _::k=>noBeg k
 | .scp _::k=>noBeg k
def V (fn:FinK)(tb:List (Nat×List Nat))(cuts:List Nat)(Q:Value→Hp→Prop)(n:Nat):List KI→LF→Hp→Prop:=
 Nat.rec (motive:=fun _=>List KI→LF→Hp→Prop) (fun _ _ _=>False) (fun _ ih k l h=>match k with
  | []=>vfin P fn .normal l h Q
  | .blk _::k=>ih k l h
  | .scp _::k=>ih k l h
  | .beg L::k=>vbeg L h fun h'=>ih k l h'
  | .code c::k=>match c with
    | .skip| .label _=>ih k l h
    | .ret=>vreq (noBeg k) (vfin P fn .ret l h Q)
    | .exit id=>vsome (unwind id k) fun k'=>ih k' l h
    | .goto lab=>vsome (unwindG lab k) fun k'=>ih k' l h
    | .seq a b=>ih (.code a:: .code b::k) l h
    | .cond c a b=>vop P l c fun v=>isBool v fun q=>vcond q (ih (.code a::k) (setB l c true) h) (ih (.code b::k) (setB l c false) h)
    | .block id b=>ih (.code b:: .blk id::k) l h
    | .scope b=>ih (.code b:: .scp b::k) l h
    | .loop b=>RKL P O fn (.code (.loop b)::k) l.length (lvOf tb k l.length) ((lvOf tb k l.length).map (gt l)) h Q
    | .region id ops draw=>match cuts.any (Nat.beq id)with
      |true=>RKL P O fn (.code (.region id ops draw)::k) l.length (lvR tb id l.length) ((lvR tb id l.length).map (gt l)) h Q
      |false=>vregion P O ops draw l h fun l' h'=>ih k l' h'
    | .rangeFunc g ps asg body=>vop P l g fun v=>isFn v fun gf first cap=>vreq (Nat.blt gf yB&&hasBody P gf) (∃h2:Hp,EvC P O gf (first++[yieldV h.nx]++cap) (h.add (.loop ⟨0,none,l,ps,asg,body⟩)) undef h2∧vend h.nx h2 (fun h3=>ih k l h3) (fun h3=>vreq (noBeg k) (vfin P fn .ret l h3 Q)))
    |_=>False) n
def V0 (fn:FinK)(tb:List (Nat×List Nat))(cuts:List Nat)(Q:Value→Hp→Prop)(n:Nat)(k:List KI)(l:LF)(h:Hp):Prop:=match k with
 | .code (.loop b)::k=>V P O fn tb cuts Q n (.code b:: .code (.loop b)::k) l h
 | .code (.region _ ops draw)::k=>vregion P O ops draw l h fun l' h'=>V P O fn tb cuts Q n k l' h'
 |k=>V P O fn tb cuts Q n k l h
end
end
end Go.Ev
