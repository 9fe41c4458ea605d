/- Conditions of code: what they are good for. Operations. -/
import Derived.Test.YtngcjpkccnfjiaaGreatDoorYB
import Derived.Laws.StructEq
import Derived.Test.YtngcjpkccnfjiaaGreatDoorProg
import Derived.KernelRfl
namespace Go.Ev
open Go
theorem vsome_iff {α:Type}{o:Option α}{K:α→Prop}(h:vsome o K): ∃a,o=some a∧K a:=by
 cases o with
 |none=>cases h
 |some a=>exact⟨a,rfl,h⟩
theorem vreq_iff {b:Bool}{K:Prop}(h:vreq b K):b=true∧K:=by
 cases b with
 |false=>cases h
 |true=>exact⟨rfl,h⟩
theorem isInt_iff {v:Value}{K:IntKind→Int→Prop}(h:isInt v K): ∃k x,v= .int k x∧K k x:=by
 cases v with
 |int k x=>exact⟨k,x,rfl,h⟩
 |_=>cases h
theorem isNat_iff {x:Int}{K:Nat→Prop}(h:isNat x K): ∃n,x= .ofNat n∧K n:=by
 cases x with
 |ofNat n=>exact⟨n,rfl,h⟩
 |negSucc _=>cases h
theorem isBool_iff {v:Value}{K:Bool→Prop}(h:isBool v K): ∃b,v= .bool b∧K b:=by
 cases v with
 |bool b=>exact⟨b,rfl,h⟩
 |_=>cases h
theorem isAddr_iff {a:Option Addr}{K:Nat→Nat→Prop}(h:isAddr a K): ∃b off,a=some ⟨b,off,none⟩∧K b off:=by
 match a,h with
 |some ⟨b,off,none⟩,h=>exact⟨b,off,rfl,h⟩
theorem isPtr_iff {v:Value}{K:Nat→Nat→Prop}(h:isPtr v K): ∃b off,v= .pointer (some ⟨b,off,none⟩)∧K b off:=by
 cases v with
 |pointer a=>obtain⟨b,off,rfl,h⟩:=isAddr_iff h;exact⟨b,off,rfl,h⟩
 |_=>cases h
theorem isSlc_iff {v:Value}{K:Option Addr→Nat→Nat→Prop}(h:isSlc v K): ∃a n c,v= .slice a n c∧K a n c:=by
 cases v with
 |slice a n c=>exact⟨a,n,c,rfl,h⟩
 |_=>cases h
theorem isFn_iff {v:Value}{K:FuncId→List Value→List Value→Prop}(h:isFn v K):(∃g a b,v= .func (.func g) a b∧K g a.toList b.toList)∨ ∃l a b,v= .func (.yield l) a b∧(Nat.beq a.size 0&&Nat.beq b.size 0)=true∧K (yB+l) [] []:=by
 match v,h with
 | .func (.func g) a b,h=>exact .inl ⟨g,a,b,rfl,h⟩
 | .func (.yield l) a b,h=>
   have h:vreq (Nat.beq a.size 0&&Nat.beq b.size 0) (K (yB+l) [] []):=h;cases hb:(Nat.beq a.size 0&&Nat.beq b.size 0)with
   |true=>rw[hb]at h;exact .inr ⟨l,a,b,rfl,hb,h⟩
   |false=>rw[hb]at h;cases h
theorem vcond_iff {b:Bool}{A B:Prop}(h:vcond b A B):(b=true∧A)∨(b=false∧B):=by
 cases b with
 |false=>exact .inr ⟨rfl,h⟩
 |true=>exact .inl ⟨rfl,h⟩
theorem gt_eq (l:LF)(i:Nat):gt l i=l.getD i undef:=by
 unfold gt;rw[nth_eq,List.getD_eq_getElem?_getD];cases l[i]? <;>rfl
theorem setL_length: ∀(l:LF) (d:Nat) (v:Value),(setL l d v).length=l.length:=by
 intro l
 induction l with
 |nil=>intro d v;rfl
 |cons a l ih=>
  intro d v;cases d with
  |zero=>rfl
  |succ d=>show(a::setL l d v).length=_;simp[ih]
theorem gt_setL: ∀(l:LF) (d:Nat) (v:Value) (i:Nat),gt (setL l d v) i=if i=d∧d<l.length then v else gt l i:=by
 intro l
 induction l with
 |nil=>intro d v i;simp[setL]
 |cons a l ih=>
  intro d v i;cases d with
  |zero=>cases i with
   |zero=>show v=_;simp
   |succ i=>show gt l i=_;simp;rfl
  |succ d=>cases i with
   |zero=>show a=_;simp;rfl
   |succ i=>
    show gt (setL l d v) i=_;rw[ih];simp;rfl
theorem Ag.put {t:Fr}{n:Nat}{l:LF}(h:Ag t n l)(hp:Hp)(d:Option Nat)(v:Value):Ag (St.setT ⟨t,n,hp⟩ d v) n (stL l d v):=by
 cases d with
 |none=>exact h
 |some d=>
  simp only[St.setT,stL];cases hd:Nat.blt d n with
  |true=>
   have hd:d<n:=by simpa using hd
   refine⟨by rw[setL_length];exact h.len,fun i=> ?_,fun k hk=> ?_⟩
   · simp only[cond_true,slot,Tr.get_set,gt_setL];by_cases hi:i=d
     · subst hi;rw[if_pos rfl,if_pos (h.has _ hd),if_pos ⟨rfl,by rw[h.len];exact hd⟩]
     · rw[if_neg hi,if_neg (fun hh=>hi hh.1)];exact h.slots i
   · simp only[cond_true,Tr.has_set];exact h.has k hk
  |false=>
   have hd: ¬d<n:=by intro hh;have:Nat.blt d n=true:=by simpa using hh
                     rw[hd]at this;cases this
   refine⟨by rw[setL_length];exact h.len,fun i=> ?_,fun k hk=> ?_⟩
   · simp only[cond_false,gt_setL];rw[if_neg (fun hh=>hd (by rw[←h.len];exact hh.2))];exact h.slots i
   · exact h.has k hk
theorem Ag.same {t:Fr}{n:Nat}{l:LF}(h:Ag t n l){d:Nat}{v:Value}(hv:gt l d=v):Ag t n (setL l d v):=
 ⟨by rw[setL_length];exact h.len,fun i=>by
  rw[gt_setL];split
  · rename_i hi;rw[h.slots,hi.1,hv]
  · exact h.slots i,h.has⟩
theorem frL_ag (l:LF):Ag (frL l) l.length l:=by
 obtain⟨h1,h2⟩:=argsIn_spec l 0 (Tr.full undef (l.length+1));have hf: ∀k,k<l.length→(Tr.full undef (l.length+1)).has k=true:=fun k hk=>Tr.has_full _ _ _ (by have:l.length+1<2^(l.length+1):=Nat.lt_two_pow_self;omega);refine⟨rfl,fun i=> ?_,fun d hd=> ?_⟩
 · show slot (argsIn 0 l _) i=_;rw[h2,gt_eq];by_cases hi:i<l.length
   · rw[if_pos ⟨Nat.zero_le _,by omega⟩,if_pos (hf i hi)];simp
   · rw[if_neg (by omega),List.getD_eq_getElem?_getD,List.getElem?_eq_none (by omega)];exact Tr.get_full ..
 · show(argsIn 0 l _).has d=true;rw[h1];exact hf d hd
section
variable {P:Program}{t:Fr}{n:Nat}{l:LF}(ag:Ag t n l)
include ag
theorem vop_ok {x:Operand}{K:Value→Prop}(h:vop P l x K): ∃v,opv P t x=some v∧K v:=by
 cases x with
 |tmp i=>exact⟨_,by show some (slot t i)=some (gt l i);rw[ag.slots],h⟩
 |const v=>
  simp only[vop]at h;split at h
  · exact⟨_,rfl,h⟩
  · exact⟨_,rfl,h⟩
  · rename_i h1 h2;obtain⟨h3,h4⟩:=vreq_iff h;have e:opv P t (.const v)=bif flat v then some v else none:=by cases v<;>first|rfl|exact absurd rfl (h1 _ _)|exact absurd rfl (h2 _)
    exact⟨v,by rw[e,h3];rfl,h4⟩
 |global g=>
  obtain⟨h1,h2⟩:=vreq_iff h;refine⟨_,?_,h2⟩;show(bif _ then _ else _)=_;rw[h1];rfl
 |func f=>
  obtain⟨h1,h2⟩:=vreq_iff h;refine⟨_,?_,h2⟩;show(bif _ then _ else _)=_;rw[h1];rfl
theorem vopO_ok {x:Option Operand}{K:Option Value→Prop}(h:vopO P l x K): ∃v,opq P t x=some v∧K v:=by
 cases x with
 |none=>exact⟨_,rfl,h⟩
 |some x=>
  obtain⟨v,h1,h2⟩:=vop_ok ag (show vop P l x (fun v=>K (some v)) from h);refine⟨some v,?_,h2⟩;show(opv P t x).map some=_;rw[h1];rfl
theorem vopL_ok: ∀ {xs:List Operand} {K:List Value→Prop},vopL P l xs K→ ∃vs,mapO (opv P t) xs=some vs∧K vs:=by
 intro xs
 induction xs with
 |nil=>intro K h;exact⟨[],rfl,h⟩
 |cons x xs ih=>
  intro K h;obtain⟨v,h1,h2⟩:=vop_ok ag (show vop P l x fun v=>vopL P l xs fun vs=>K (v::vs) from h);obtain⟨vs,h3,h4⟩:=ih h2;exact⟨v::vs,by rw[mapO_cons,h1,h3];rfl,h4⟩
theorem opv_frL (x:Operand):opv P t x=opv P (frL l) x:=by
 cases x with
 |tmp i=>show some (slot t i)=some (slot (frL l) i);rw[ag.slots,(frL_ag l).slots]
 |_=>rfl
omit ag in
theorem opw_of {x:Operand}{v:Value}(h:opv P t x=some v):opw t x=v:=by
 cases x with
 |tmp i=>exact Option.some.inj h
 |const c=>exact(opv_const h).2.symm
 |global g=>exact(opv_global h).2.symm
 |func f=>obtain⟨h1,rfl⟩:=opv_func h;rfl
end
section
variable {P:Program}
theorem exCell_ok {ty:TypeId}{K:Value→Prop}(h:exCell P ty K): ∃v,K v:=by
 unfold exCell at h;split at h
 · obtain⟨x,h⟩:=h;exact⟨_,h⟩
 · obtain⟨x,h⟩:=h;exact⟨_,h⟩
 · obtain⟨a,n,c,h⟩:=h;exact⟨_,h⟩
 · obtain⟨x,h⟩:=h;exact⟨_,h⟩
 · obtain⟨x,h⟩:=h;exact⟨_,h⟩
 · obtain⟨g,fi,ca,h⟩:=h;exact⟨_,h⟩
 · exact h
theorem exCells_ok: ∀ {tys:List TypeId} {K:List Value→Prop},exCells P tys K→ ∃vs,K vs:=by
 intro tys
 induction tys with
 |nil=>intro K h;exact⟨[],h⟩
 |cons ty tys ih=>
  intro K h;obtain⟨v,h⟩:=exCell_ok (show exCell P ty fun v=>exCells P tys fun vs=>K (v::vs) from h);obtain⟨vs,h⟩:=ih h;exact⟨_,h⟩
theorem exV_ok {ty:TypeId}{K:Value→Prop}(h:exV P ty K): ∃v,K v:=by
 unfold exV at h;split at h
 · obtain⟨vs,h⟩:=exCells_ok h;exact⟨_,h⟩
 · exact exCell_ok h
theorem exVs_ok: ∀ {tys:List TypeId} {K:List Value→Prop},exVs P tys K→ ∃vs,K vs:=by
 intro tys
 induction tys with
 |nil=>intro K h;exact⟨[],h⟩
 |cons ty tys ih=>
  intro K h;obtain⟨v,h⟩:=exV_ok (show exV P ty fun v=>exVs P tys fun vs=>K (v::vs) from h);obtain⟨vs,h⟩:=ih h;exact⟨_,h⟩
theorem exRes_ok {ty:TypeId}{K:Value→Prop}(h:exRes P ty K): ∃v,K v:=by
 unfold exRes at h;split at h
 · obtain⟨vs,h⟩:=exVs_ok h;exact⟨_,h⟩
 · exact exV_ok h
end
theorem inD_iff {m:Nat}{x:Int}(h:inD m x=true): ∃a:Nat,x= .ofNat a∧Nat.blt a m=true:=by
 cases x with
 |ofNat a=>exact⟨a,rfl,h⟩
 |negSucc _=>cases h
theorem bitsF_ok {f:Nat→Nat→Nat}{k:IntKind}{x y:Int}{m:Nat}(hd:dig k=some m)(hx:inD m x=true)(hy:inD m y=true): ∃a b:Nat,x= .ofNat a∧y= .ofNat b∧bitsF f k x y=some (.int k (.ofNat (f a b))):=by
 obtain⟨a,rfl,ha⟩:=inD_iff hx;obtain⟨b,rfl,hb⟩:=inD_iff hy;refine⟨a,b,rfl,rfl,?_⟩;unfold bitsF;rw[hd];simp only[ha,hb,Bool.and_self,cond_true]
theorem vdig_iff {k:IntKind}{x y:Int}{A:Prop}(h:vdig k x y A):(∃m,dig k=some m∧inD m x=true∧inD m y=true)∧A:=by
 unfold vdig at h;split at h
 · rename_i m hm;obtain⟨h1,h⟩:=vreq_iff h;obtain⟨h2,h⟩:=vreq_iff h;exact⟨⟨m,hm,h1,h2⟩,h⟩
 · cases h
theorem vint_ok {op:BinOp}{k:IntKind}{x y:Int}{K:Value→Prop}(h:vint op k x y K): ∃v,binF op k x y=some v∧K v:=by
 unfold vint at h;split at h
 · obtain⟨h1,h2⟩:=vreq_iff h;refine⟨_,?_,h2⟩;show(bif eqI y 0 then _ else _)=_;rw[Bool.not_eq_true']at h1;rw[h1];rfl
 · obtain⟨h1,h2⟩:=vreq_iff h;refine⟨_,?_,h2⟩;show(bif eqI y 0 then _ else _)=_;rw[Bool.not_eq_true']at h1;rw[h1];rfl
 · obtain⟨⟨m,h1,h2,h3⟩,h4⟩:=vdig_iff h;obtain⟨a,b,rfl,rfl,h5⟩:=bitsF_ok (f:=Nat.land) h1 h2 h3;exact⟨_,h5,h4⟩
 · obtain⟨⟨m,h1,h2,h3⟩,h4⟩:=vdig_iff h;obtain⟨a,b,rfl,rfl,h5⟩:=bitsF_ok (f:=Nat.lor) h1 h2 h3;exact⟨_,h5,h4⟩
 · obtain⟨⟨m,h1,h2,h3⟩,h4⟩:=vdig_iff h;obtain⟨a,b,rfl,rfl,h5⟩:=bitsF_ok (f:=fun a b=>a-Nat.land a b) h1 h2 h3;exact⟨_,h5,h4⟩
 · cases h
 · cases h
 · cases h
 · exact vsome_iff h
section
variable {P:Program}{t:Fr}{n:Nat}{l:LF}(ag:Ag t n l)
include ag
theorem flatRun_frL {o:Oper}(hs: ∀cs b,o.op≠ .select cs b):flatRun P (frL l) o=flatRun P t o:=flatRun_congr hs fun x _=>(opv_frL ag x).symm
theorem stepPure_frL {o:Oper}(hk:kindOf P o.op= .pure_):stepPure P (frL l) o=stepPure P t o:=stepPure_congr hk fun x _=>(opv_frL ag x).symm
omit ag in
theorem flatRun_of {o:Oper}{vs:List Value}{r:Value}(h1:mapO (opv P t) o.op.operands.toList=some vs)(h2:vs.all flat=true)(h3:pureRun P (execOp (opw t) o)=some (.value r))(h4:flat r=true):flatRun P t o=some r:=by
 unfold flatRun;rw[h1];simp only[h2,cond_true,h3,h4]
omit ag in
theorem shift_ok {o:Oper}{op:BinOp}{xt yt:TypeId}{x y:Operand}(ho:o.op= .binOp op xt x y yt){k k':IntKind}{a:Int}{b:Nat}(hx:opv P t x=some (.int k a))(hy:opv P t y=some (.int k' (.ofNat b))):
 (op= .shl→flatRun P t o=some (.int k (shlF k a b)))∧(op= .shr→flatRun P t o=some (.int k (shrF k a b))):=by
 have hlt: ¬(Int.ofNat b<0):=by intro h;exact absurd h (by have:=Int.natCast_nonneg b;exact Int.not_lt.2 this)
 have hm:mapO (opv P t) o.op.operands.toList=some [.int k a,.int k' (.ofNat b)]:=by
  rw[ho];show mapO (opv P t) [x,y]=_;rw[mapO_cons,hx,mapO_cons,hy];rfl
 have he: ∀op,o.op= .binOp op xt x y yt→execOp (opw t) o=(do let r←(do eqGuard op xt x y (.int k a) (.int k' (.ofNat b));binOp op xt (.int k a) (.int k' (.ofNat b)));pure (.value r)):=by
  intro op ho;unfold execOp;simp only[ho,opw_of hx,opw_of hy]
 constructor
 · rintro rfl;refine flatRun_of hm rfl ?_ rfl;rw[he _ ho];have:binOp .shl xt (.int k a) (.int k' (.ofNat b))=pure (.int k (shlF k a b)):=by
    show Op.shift .shl k a k' (.ofNat b)=_;unfold Op.shift;rw[if_neg hlt];rfl
   rw[this];rfl
 · rintro rfl;refine flatRun_of hm rfl ?_ rfl;rw[he _ ho];have:binOp .shr xt (.int k a) (.int k' (.ofNat b))=pure (.int k (shrF k a b)):=by
    show Op.shift .shr k a k' (.ofNat b)=_;unfold Op.shift;rw[if_neg hlt];rfl
   rw[this];rfl
omit ag in
theorem eqB_ok {o:Oper}{op:BinOp}{xt yt:TypeId}{x y:Operand}(ho:o.op= .binOp op xt x y yt){a b:Bool}(hx:opv P t x=some (.bool a))(hy:opv P t y=some (.bool b))(ht:P.underlying xt=some .bool):
 (op= .eql→flatRun P t o=some (.bool (eqB a b)))∧(op= .neq→flatRun P t o=some (.bool (!(eqB a b)))):=by
 have hm:mapO (opv P t) o.op.operands.toList=some [.bool a,.bool b]:=by
  rw[ho];show mapO (opv P t) [x,y]=_;rw[mapO_cons,hx,mapO_cons,hy];rfl
 have he: ∀op,o.op= .binOp op xt x y yt→execOp (opw t) o=(do let r←(do eqGuard op xt x y (.bool a) (.bool b);binOp op xt (.bool a) (.bool b));pure (.value r)):=by
  intro op ho;unfold execOp;simp only[ho,opw_of hx,opw_of hy]
 have heq: ∀ {β γ:Type} (f:Bool→Sem β) (g:β→Sem γ),pureRun P (((Op.equal xt (.bool a) (.bool b)) >>= f) >>= g)=pureRun P (f (eqB a b) >>= g):=by
  intro β γ f g;have e:(a==b)=eqB a b:=by cases a<;>cases b<;>rfl
  have e1:Op.equal xt (.bool a) (.bool b)=Op.equalIn (9999+1) xt (.bool a) (.bool b):=rfl;rw[e1];unfold Op.equalIn;have e3: ∀ {δ:Type} (k:TypeDesc→Sem δ) (f:δ→Sem β),pureRun P (((underlying xt >>= k) >>= f) >>= g)=pureRun P ((k .bool >>= f) >>= g):=by
   intro δ k f;unfold underlying;show pureRun P ((((match P.underlying xt with
    |some d=>(pure d:Sem TypeDesc)
    | none => stuck "no such type") >>= k) >>= f) >>= g) = _
   rw[ht];rfl
  rw[e3,←e];rfl
 constructor
 · rintro rfl;refine flatRun_of hm rfl ?_ rfl;rw[he _ ho];exact heq (fun r=>pure (Value.bool r)) fun r=>pure (Next.value r)
 · rintro rfl;refine flatRun_of hm rfl ?_ rfl;rw[he _ ho];exact heq (fun r=>pure (Value.bool (!r))) fun r=>pure (Next.value r)
end
theorem pureRun_bind {α β:Type}{P:Program}(f:α→Sem β): ∀(s:Sem α),pureRun P (s >>= f)=(pureRun P s).bind fun a=>pureRun P (f a):=by
 intro s
 induction s with
 |pure a=>rfl
 |program k ih=>exact ih P
 |mark m k ih=>exact ih
 |_=>rfl
theorem pureRun_pure {α:Type}{P:Program}(a:α):pureRun P (pure a:Sem α)=some a:=rfl
theorem pureRun_underlying {P:Program}{t:TypeId}{d:TypeDesc}(h:P.underlying t=some d):pureRun P (underlying t)=some d:=by
 unfold underlying;rw[pureRun_bind];show pureRun P (match P.underlying t with
  |some d=>(pure d:Sem TypeDesc)
  | none => stuck "no such type") = _
 rw[h];rfl
theorem pureRun_part {P:Program}{t:TypeId}(h:aggT P t=some false){cs:Array Value}{off:Nat}{v:Value}(hv:cs[off]? =some v):pureRun P (part t cs off)=some v:=by
 unfold part;rw[pureRun_bind];have:pureRun P (isAgg t)=some false:=by
  unfold isAgg;unfold aggT at h;rw[pureRun_bind];cases hu:P.underlying t with
  |none=>rw[hu]at h;cases h
  |some d=>
   rw[pureRun_underlying hu,Option.bind_some];rw[hu]at h;cases d<;>first|rfl|(simp at h)
 rw[this];simp only[Option.bind_some,Bool.false_eq_true,if_false,hv];rfl
theorem pureRun_int {P:Program}{t:TypeId}{k':IntKind}(h:P.underlying t=some (.int k'))(d:Nat)(k:IntKind)(a b:Int):pureRun P (Op.equalIn (d+1) t (.int k a) (.int k b))=some (a==b):=by
 simp only[Op.equalIn,pureRun_bind,pureRun_underlying h,Option.bind_some,if_true,pureRun_pure]
theorem pureRun_two {P:Program}{t:TypeId}{k1 k2:IntKind}(h:two P t k1 k2=true)(d:Nat)(a b c e:Int):
 pureRun P (Op.equalIn (d+2) t (.agg #[.int k1 a,.int k2 b]) (.agg #[.int k1 c,.int k2 e]))=some (eqI a c&&eqI b e):=by
 unfold two at h;split at h
 · rename_i fs hu;split at h
   · rename_i f g hfs;split at h
     · rename_i x y u1 u2 g1 g2;simp only[Bool.and_eq_true,Bool.not_eq_true']at h;obtain⟨⟨⟨⟨⟨⟨⟨h1,h2⟩,h3⟩,h4⟩,h5⟩,h6⟩,h7⟩,h8⟩:=h;have h3:=Nat.eq_of_beq_eq_true h3;have h4:=Nat.eq_of_beq_eq_true h4;have h5 : f.name ≠ "_" := by simpa using h5
       have h6 : g.name ≠ "_" := by simpa using h6
       have e1:eqI a c=(a==c):=by rw[Bool.eq_iff_iff,eqI_eq,beq_iff_eq]
       have e2:eqI b e=(b==e):=by rw[Bool.eq_iff_iff,eqI_eq,beq_iff_eq]
       have i1:=pureRun_int u1 d k1 a c;have i2:=pureRun_int u2 d k2 b e;obtain⟨n,hn⟩: ∃n,n=d+1:=⟨_,rfl⟩;rw[←hn]at i1 i2;have hd:d+2=n+1:=by omega
       rw[hd];clear hn hd;rw[e1,e2];clear e1 e2;generalize (a==c)=q1 at i1 ⊢;generalize (b==e)=q2 at i2 ⊢;have hp:pureRun P (program:Sem Program)=some P:=rfl;simp only[Op.equalIn,pureRun_bind,pureRun_underlying hu,Option.bind_some,hp,h7,Bool.false_eq_true,if_false];rw[←Array.forIn_toList,hfs];simp only[List.forIn_cons,List.forIn_nil,pureRun_bind];simp only[ne_eq,h5,h6,not_false_eq_true,if_true];simp only[pureRun_bind,pureRun_part g1 (off:=f.offset) (v:= .int k1 a) (cs:= #[.int k1 a,.int k2 b]) (by rw[h3];rfl),pureRun_part g1 (off:=f.offset) (v:= .int k1 c) (cs:= #[.int k1 c,.int k2 e]) (by rw[h3];rfl),Option.bind_some,i1];have p1:=pureRun_part (P:=P) g2 (off:=g.offset) (v:= .int k2 b) (cs:= #[.int k1 a,.int k2 b]) (by rw[h4];rfl);have p2:=pureRun_part (P:=P) g2 (off:=g.offset) (v:= .int k2 e) (cs:= #[.int k1 c,.int k2 e]) (by rw[h4];rfl);cases q1<;>cases q2<;>simp[pureRun_pure,pureRun_bind,p1,p2,i2]
     · cases h
   · cases h
 · cases h
section
variable {P:Program}{t:Fr}
theorem eqTwo_ok {o:Oper}{xt yt:TypeId}{x y:Operand}(ho:o.op= .binOp .eql xt x y yt){k1 k2:IntKind}{a b c e:Int}(hx:opv P t x=some (.agg #[.int k1 a,.int k2 b]))(hy:opv P t y=some (.agg #[.int k1 c,.int k2 e]))(ht:two P xt k1 k2=true):
 flatRun P t o=some (.bool (eqI a c&&eqI b e)):=by
 have hm:mapO (opv P t) o.op.operands.toList=some [.agg #[.int k1 a,.int k2 b],.agg #[.int k1 c,.int k2 e]]:=by
  rw[ho];show mapO (opv P t) [x,y]=_;rw[mapO_cons,hx,mapO_cons,hy];rfl
 have he:execOp (opw t) o=(do let r←(do eqGuard .eql xt x y (.agg #[.int k1 a,.int k2 b]) (.agg #[.int k1 c,.int k2 e]);binOp .eql xt (.agg #[.int k1 a,.int k2 b]) (.agg #[.int k1 c,.int k2 e]));pure (.value r)):=by
  unfold execOp;simp only[ho,opw_of hx,opw_of hy]
 refine flatRun_of hm rfl ?_ rfl;have hg:P.eqGuardType P.depth xt=false:=by
  unfold two at ht;split at ht
  · split at ht
    · split at ht
      · simp only[Bool.and_eq_true,Bool.not_eq_true']at ht;exact ht.2
      · cases ht
    · cases ht
  · cases ht
 have hp:pureRun P (program:Sem Program)=some P:=rfl;have h1:pureRun P (eqGuard .eql xt x y (.agg #[.int k1 a,.int k2 b]) (.agg #[.int k1 c,.int k2 e]))=some ():=by
  simp[eqGuard,pureRun_bind,hp,hg,pureRun_pure]
 have h2:pureRun P (binOp .eql xt (.agg #[.int k1 a,.int k2 b]) (.agg #[.int k1 c,.int k2 e]))=some (.bool (eqI a c&&eqI b e)):=by
  have:=pureRun_two ht 9998 a b c e;simp only[binOp];rw[pureRun_bind];show(pureRun P (Op.equalIn (9998+2) xt _ _)).bind _=_;rw[this];rfl
 rw[he,pureRun_bind,pureRun_bind,h1];simp only[Option.bind_some,h2];rfl
end
theorem List.two_of {α β:Type}{f:α→Option β}{l:List α}{a b:β}(h:mapO f l=some [a,b]): ∃x y,l=[x,y]∧f x=some a∧f y=some b:=by
 match l,h with
 | [],h=>cases h
 | [x],h=>
   rw[mapO_cons]at h;obtain⟨v,h1,h2⟩:=Option.bind_eq_some_iff.1 h;obtain⟨w,h3,h4⟩:=Option.map_eq_some_iff.1 h2;cases h3;cases h4
 | [x,y],h=>
   rw[mapO_cons]at h;obtain⟨v,h1,h2⟩:=Option.bind_eq_some_iff.1 h;obtain⟨w,h3,h4⟩:=Option.map_eq_some_iff.1 h2;rw[mapO_cons]at h3;obtain⟨v2,h5,h6⟩:=Option.bind_eq_some_iff.1 h3;obtain⟨w2,h7,h8⟩:=Option.map_eq_some_iff.1 h6;cases h7;subst h8;injection h4 with e1 e2;injection e2 with e3;subst e1 e3;exact⟨x,y,rfl,h1,h5⟩
 |x::y::z::r,h=>have:=(mapO_some h).1;simp at this
section
variable {P:Program}{t:Fr}{n:Nat}{l:LF}(ag:Ag t n l)
include ag
theorem vidx_ok {s:TypeId}{v:Value}{k:Nat}{kd:IntKind}{K:Value→Prop}(h:vidx P s v k K): ∃r,(match P.underlying s,v,Value.int kd (.ofNat k)with
 |some (.slice e),.slice (some ⟨b,off,none⟩) len _,.int _ (.ofNat k)=>do
  let n←sz P e
  bif Nat.blt k len then some (Value.pointer (some ⟨b,off+k*n,none⟩))else none
 |some (.array len e),.pointer (some ⟨b,off,none⟩),.int _ (.ofNat k)=>do
  let n←sz P e
  bif Nat.blt k len then some (Value.pointer (some ⟨b,off+k*n,none⟩))else none
 |_,_,_=>none)=some r∧K r:=by
 have _:=ag;unfold vidx at h;split at h
 · rename_i e he;obtain⟨a,m,c,rfl,h⟩:=isSlc_iff h;obtain⟨b,off,rfl,h⟩:=isAddr_iff h;obtain⟨z,hz,h⟩:=vsome_iff h;obtain⟨hb,h⟩:=vreq_iff h;refine⟨_,?_,h⟩;rw[he];simp only[hz,bind,Option.bind_some,hb,cond_true]
 · rename_i m e he;obtain⟨b,off,rfl,h⟩:=isPtr_iff h;obtain⟨z,hz,h⟩:=vsome_iff h;obtain⟨hb,h⟩:=vreq_iff h;refine⟨_,?_,h⟩;rw[he];simp only[hz,bind,Option.bind_some,hb,cond_true]
 · cases h
omit ag in
theorem str_ok {o:Oper}{op:BinOp}{xt yt:TypeId}{x y:Operand}(ho:o.op= .binOp op xt x y yt){a b:ByteArray}(hx:opv P t x=some (.string a))(hy:opv P t y=some (.string b)){r:Bool}(hr:sOp op a b=some r):flatRun P t o=some (.bool r):=by
 have hm:mapO (opv P t) o.op.operands.toList=some [.string a,.string b]:=by
  rw[ho];show mapO (opv P t) [x,y]=_;rw[mapO_cons,hx,mapO_cons,hy];rfl
 have he: ∀op,o.op= .binOp op xt x y yt→execOp (opw t) o=(do let r←(do eqGuard op xt x y (.string a) (.string b);binOp op xt (.string a) (.string b));pure (.value r)):=by
  intro op ho;unfold execOp;simp only[ho,opw_of hx,opw_of hy]
 refine flatRun_of hm rfl ?_ rfl;cases op<;>first|(simp[sOp]at hr;done)|(obtain rfl:=Option.some.inj hr;rw[he _ ho];rfl)
omit ag in
theorem add_str_ok {o:Oper}{xt yt:TypeId}{x y:Operand}(ho:o.op= .binOp .add xt x y yt){a b:ByteArray}(hx:opv P t x=some (.string a))(hy:opv P t y=some (.string b))(hl:a.size+b.size≤9223372036854775807):flatRun P t o=some (.string (a++b)):=by
 have hm:mapO (opv P t) o.op.operands.toList=some [.string a,.string b]:=by
  rw[ho];show mapO (opv P t) [x,y]=_;rw[mapO_cons,hx,mapO_cons,hy];rfl
 have he:execOp (opw t) o=(do let r←(do eqGuard .add xt x y (.string a) (.string b);binOp .add xt (.string a) (.string b));pure (.value r)):=by
  unfold execOp;simp only[ho,opw_of hx,opw_of hy]
 refine flatRun_of hm rfl ?_ rfl;rw[he];have e:binOp .add xt (.string a) (.string b)=(pure (.string (a++b)):Sem Value):=by
  show Op.stringOp .add a b=_;unfold Op.stringOp;have: ¬(((a.size+b.size:Nat):Int)>IntKind.i64.max):=by
   show¬(((a.size+b.size:Nat):Int)>9223372036854775807);omega
  simp only[if_neg this]
 rw[e];rfl
omit ag in
theorem conv_str_ok {o:Oper}{src dst:TypeId}{x:Operand}(ho:o.op= .convert src dst x){k k':IntKind}{n:Int}(hs:P.underlying src=some (.int k'))(hd:P.underlying dst=some .string)(hx:opv P t x=some (.int k n)):flatRun P t o=some (.string (Utf8.encode n)):=by
 have hm:mapO (opv P t) o.op.operands.toList=some [.int k n]:=by
  rw[ho];show mapO (opv P t) [x]=_;rw[mapO_cons,hx];rfl
 have he:execOp (opw t) o=(do let r←convert src dst (.int k n);pure (.value r)):=by
  unfold execOp;simp only[ho,opw_of hx]
 refine flatRun_of hm rfl ?_ rfl;rw[he];unfold convert;have e3: ∀ {δ:Type} (s:TypeId) (d:TypeDesc) (_:P.underlying s=some d) (f:TypeDesc→Sem δ) (g:δ→Sem Next),pureRun P ((underlying s >>= f) >>= g)=pureRun P (f d >>= g):=by
  intro δ s d hu f g;unfold underlying;show pureRun P (((match P.underlying s with
   |some d=>(pure d:Sem TypeDesc)
   | none => stuck "no such type") >>= f) >>= g) = _
  rw[hu];rfl
 rw[e3 src _ hs,e3 dst _ hd];rfl
omit ag in
theorem len_str_ok {o:Oper}{p:Operand}{ts:Array TypeId}(ho:o.op= .call { callee:= .builtin .len,args:= #[p],argTypes:=ts }){s:ByteArray}(hu:(ts[0]?).bind P.underlying=some .string)(hx:opv P t p=some (.string s)):flatRun P t o=some (.int .i64 (s.size:Nat)):=by
 have hm:mapO (opv P t) o.op.operands.toList=some [.string s]:=by
  rw[ho];show mapO (opv P t) [p]=_;rw[mapO_cons,hx];rfl
 have he:execOp (opw t) o=(do let d←resolve (opw t) { callee:= .builtin .len,args:= #[p],argTypes:=ts } o.type;invoke d.target d.args):=by
  unfold execOp;simp only[ho]
 have hmap:(#[p]:Array Operand).map (opw t)= #[.string s]:=by simp[opw_of hx]
 obtain⟨t0,h0,hu0⟩:=Option.bind_eq_some_iff.1 hu;refine flatRun_of hm rfl ?_ rfl;rw[he];unfold resolve;simp only[hmap];have e3: ∀ {δ:Type} (f:TypeDesc→Sem δ) (g:δ→Sem Next),pureRun P ((underlying t0 >>= f) >>= g)=pureRun P (f .string >>= g):=by
  intro δ f g;unfold underlying;show pureRun P (((match P.underlying t0 with
   |some d=>(pure d:Sem TypeDesc)
   | none => stuck "no such type") >>= f) >>= g) = _
  rw[hu0];rfl
 show pureRun P (do let r←Builtin.len_ ts o.type #[.string s];pure (Next.value r))=_;unfold Builtin.len_;simp only[h0,show(#[Value.string s]:Array Value)[0]? =some (.string s) from rfl];rw[e3];rfl
theorem vbin_ok {o:Oper}{op:BinOp}{xt yt:TypeId}{x y:Operand}(ho:o.op= .binOp op xt x y yt){a b:Value}(hx:opv P t x=some a)(hy:opv P t y=some b){K:Value→Prop}(h:vbin P l o op xt a b K):
 ∃v,binV P op xt a b (flatRun P t o)=some v∧K v:=by
 have hfl:flatRun P (frL l) o=flatRun P t o:=flatRun_frL ag fun cs b hh=>by rw[ho]at hh;cases hh
 have sh: ∀op',op=op'→(op'= .shl∨op'= .shr)→(isInt a fun k x=>isInt b fun _ y=>vshift op' k x y K)→ ∃v,binV P op' xt a b (flatRun P t o)=some v∧K v:=by
  intro op' e hop h;obtain⟨k,x',rfl,h⟩:=isInt_iff h
  replace h:isInt b (fun _ y=>vshift op' k x' y K):=h
  obtain⟨k',y',rfl,h⟩:=isInt_iff h
  replace h:vshift op' k x' y' K:=h
  unfold vshift at h;obtain⟨h0,h⟩:=vreq_iff h;obtain⟨m,rfl⟩: ∃m:Nat,y'= .ofNat m:=by
   cases y' with
   |ofNat m=>exact⟨m,rfl⟩
   |negSucc _=>cases h0
  have hb: ∀fb,binV P op' xt (.int k x') (.int k' (.ofNat m)) fb=fb:=by
   intro fb;show(bif kindB k k' then (match binF op' k x' (.ofNat m)with
    |some r=>some r
    |none=>fb)else fb)=fb
   cases kindB k k' with
   |false=>rfl
   |true=>rcases hop with rfl|rfl<;>rfl
  rw[hb];have:=shift_ok (e▸ho) hx hy;rcases hop with rfl|rfl
  · exact⟨_,this.1 rfl,h⟩
  · exact⟨_,this.2 rfl,h⟩
 unfold vbin at h;split at h
 · exact sh _ rfl (.inl rfl) h
 · exact sh _ rfl (.inr rfl) h
 · split at h
   · obtain⟨h1,h⟩:=vreq_iff h;obtain⟨v,h2,h3⟩:=vint_ok h;refine⟨v,?_,h3⟩;simp only[binV,h1,h2,cond_true]
   · split at h
     · exact⟨_,(eqB_ok ho hx hy ‹_›).1 rfl,h⟩
     · exact⟨_,(eqB_ok ho hx hy ‹_›).2 rfl,h⟩
     · cases h
   · obtain⟨e,h1,h⟩:=vsome_iff h;obtain⟨q,h2,h⟩:=vsome_iff h;obtain⟨r,h3,h⟩:=vsome_iff h;unfold vnil at h;split at h
     · exact⟨q,by simp only[binV,h1,Option.bind_some,h2],h⟩
     · exact⟨r,by simp only[binV,h1,Option.bind_some,h3],h⟩
   · obtain⟨e,h1,h⟩:=vsome_iff h;obtain⟨q,h2,h⟩:=vsome_iff h;obtain⟨r,h3,h⟩:=vsome_iff h;unfold vnil at h;split at h
     · exact⟨q,by simp only[binV,h1,Option.bind_some,h2],h⟩
     · exact⟨r,by simp only[binV,h1,Option.bind_some,h3],h⟩
   · split at h
     · obtain⟨h1,h⟩:=vreq_iff h;exact⟨_,add_str_ok ho hx hy (Nat.le_of_ble_eq_true h1),h⟩
     · obtain⟨q,h1,h⟩:=vsome_iff h;exact⟨_,str_ok ho hx hy h1,h⟩
   · split at h
     · obtain⟨ht,hq⟩:=vreq_iff h;simp only[Bool.and_eq_true]at ht;obtain⟨⟨h1,h2⟩,h3⟩:=ht;obtain rfl:=kindB_eq h2;obtain rfl:=kindB_eq h3;exact⟨_,eqTwo_ok ho hx hy h1,hq⟩
     · cases h
   · rw[hfl]at h;exact vsome_iff h
omit ag in
theorem maxmin_ok {o:Oper}{b:Builtin}{args:Array Operand}{ts:Array TypeId}(ho:o.op= .call { callee:= .builtin b,args:=args,argTypes:=ts }){k k':IntKind}{x y:Int}(h:mapO (opv P t) args.toList=some [.int k x,.int k' y]):
 (b= .max→flatRun P t o=some (.int k (maxI x y)))∧(b= .min→flatRun P t o=some (.int k (minI x y))):=by
 obtain⟨p,q,hl,hp,hq⟩:=List.two_of h;obtain rfl:args= #[p,q]:=by rw[←Array.toList_inj,hl]
 have hm:mapO (opv P t) o.op.operands.toList=some [.int k x,.int k' y]:=by
  rw[ho];show mapO (opv P t) (#[]++ #[p,q]:Array Operand).toList=_;simpa using h
 have he: ∀b,o.op= .call { callee:= .builtin b,args:= #[p,q],argTypes:=ts }→execOp (opw t) o=(do let d←resolve (opw t) { callee:= .builtin b,args:= #[p,q],argTypes:=ts } o.type;invoke d.target d.args):=by
  intro b ho;unfold execOp;simp only[ho]
 have hmap:(#[p,q]:Array Operand).map (opw t)= #[.int k x,.int k' y]:=by simp[opw_of hp,opw_of hq]
 constructor
 · rintro rfl;refine flatRun_of hm rfl ?_ rfl;rw[he _ ho];unfold resolve;simp only[hmap];have e:Builtin.max2 (.int k x) (.int k' y)=pure (.int k (maxI x y)):=by
    show pure (Value.int k (if y>x then y else x))=_;unfold maxI;rw[ltI_eq];by_cases hh:x<y
    · simp[hh]
    · simp[hh]
   show pureRun P (do let r←Builtin.max2 (.int k x) (.int k' y);pure (Next.value r))=_;rw[e];rfl
 · rintro rfl;refine flatRun_of hm rfl ?_ rfl;rw[he _ ho];unfold resolve;simp only[hmap];have e:Builtin.min2 (.int k x) (.int k' y)=pure (.int k (minI x y)):=by
    show pure (Value.int k (if y<x then y else x))=_;unfold minI;rw[ltI_eq];by_cases hh:y<x
    · simp[hh]
    · simp[hh]
   show pureRun P (do let r←Builtin.min2 (.int k x) (.int k' y);pure (Next.value r))=_;rw[e];rfl
omit ag in
theorem un_ok {o:Oper}{op:UnOp}{xt:TypeId}{x:Operand}(ho:o.op= .unOp op xt x){v r:Value}(hx:opv P t x=some v)(hf:flat v=true)(hr:Op.unary op v=pure r)(hfr:flat r=true):flatRun P t o=some r:=by
 have hm:mapO (opv P t) o.op.operands.toList=some [v]:=by
  rw[ho];show mapO (opv P t) [x]=_;rw[mapO_cons,hx];rfl
 refine flatRun_of hm (by simp[hf]) ?_ hfr;have he:execOp (opw t) o=(do let r←Op.unary op (opw t x);pure (Next.value r)):=by
  unfold execOp;simp only[ho]
 rw[he,opw_of hx,hr];rfl
omit ag in
theorem index_ok {o:Oper}{s:TypeId}{x i:Operand}(ho:o.op= .index s x i){b:ByteArray}{kd:IntKind}{k:Nat}(hu:P.underlying s=some .string)(hx:opv P t x=some (.string b))(hi:opv P t i=some (.int kd (.ofNat k)))(hk:k<b.size):flatRun P t o=some (.int .u8 (byteI b k)):=by
 have hm:mapO (opv P t) o.op.operands.toList=some [.string b,.int kd (.ofNat k)]:=by
  rw[ho];show mapO (opv P t) [x,i]=_;rw[mapO_cons,hx,mapO_cons,hi];rfl
 refine flatRun_of hm rfl ?_ rfl;have he:execOp (opw t) o=(do let r←Instr.index s (.string b) (.int kd (.ofNat k));pure (Next.value r)):=by
  unfold execOp;simp only[ho,opw_of hx,opw_of hi]
 have hb:b[k]? =some b[k]:=by simp[hk]
 have hbi:byteI b k=Int.ofNat b[k].toNat:=by
  have hk':k<b.data.toList.length:=by simpa using hk
  unfold byteI;rw[List.getElem?_eq_getElem hk'];rfl
 have e3: ∀ {δ:Type} (f:TypeDesc→Sem δ) (g:δ→Sem Next),pureRun P ((underlying s >>= f) >>= g)=pureRun P (f .string >>= g):=by
  intro δ f g;unfold underlying;show pureRun P (((match P.underlying s with
   |some d=>(pure d:Sem TypeDesc)
   | none => stuck "no such type") >>= f) >>= g) = _
  rw[hu];rfl
 rw[he];have e4:Instr.index s (.string b) (.int kd (.ofNat k))=underlying s >>= fun d=>(match d,Value.string b with
  | .array len elem,.agg cs=>if 0≤Int.ofNat k∧Int.ofNat k<len then do let q←sizeOf elem;part elem cs ((Int.ofNat k).toNat*q)else boundsPanic kd (.ofNat k) len .index
  | .string,.string s=>match (if 0≤Int.ofNat k then s[(Int.ofNat k).toNat]? else none)with
    |some b=>pure (.int .u8 b.toNat)
    |none=>boundsPanic kd (.ofNat k) s.size .index
  | _, _ => stuck "Index: array or string expected") := rfl
 rw[e4,e3];have h0:(0:Int)≤Int.ofNat k:=Int.natCast_nonneg k;simp only[h0,if_true];rw[show(Int.ofNat k).toNat=k from rfl,hb,hbi];rfl
omit ag in
theorem intsOf_get {kd:IntKind}: ∀ {cs:List Value} {xs:List Int},intsOf kd cs=some xs→xs.length=cs.length∧(∀i,i<cs.length→cs[i]? =some (.int kd (xs.getD i 0)))∧ ∀v∈cs,∃x,v= .int kd x:=by
 intro cs
 induction cs with
 |nil=>intro xs h;obtain rfl:=Option.some.inj h;exact⟨rfl,fun i hi=>absurd hi (Nat.not_lt_zero i),fun v hv=>by cases hv⟩
 |cons v cs ih=>
  intro xs h;cases v with
  |int k' x=>
   have h:(bif kindB kd k' then (match intsOf kd cs with
    |some l=>some (x::l)
    |none=>none)else none)=some xs:=h
   cases hk:kindB kd k' with
   |false=>rw[hk]at h;cases h
   |true=>
    obtain rfl:=kindB_eq hk;rw[hk]at h;simp only[cond_true]at h;cases hi:intsOf kd cs with
    |none=>rw[hi]at h;cases h
    |some l=>
     rw[hi]at h;obtain rfl:=Option.some.inj h;obtain⟨h1,h2,h3⟩:=ih hi;refine⟨by simp[h1],fun i hlt=> ?_,fun v hv=> ?_⟩
     · cases i with
       |zero=>rfl
       |succ i=>simpa using h2 i (by simpa using hlt)
     · rcases List.mem_cons.1 hv with rfl|hv
       · exact⟨_,rfl⟩
       · exact h3 v hv
  |_=>cases h
omit ag in
theorem flat_agg {cs:Array Value}{kd:IntKind}(h: ∀v∈cs.toList,∃x,v= .int kd x):flat (.agg cs)=true:=by
 show cs.toList.all _=true;rw[List.all_eq_true];intro v hv;obtain⟨x,rfl⟩:=h v hv;rfl
omit ag in
theorem index2_ok {o:Oper}{s e:TypeId}{len:Nat}{x i:Operand}(ho:o.op= .index s x i){cs:Array Value}{kd kx:IntKind}{xs:List Int}{k q:Nat}(hu:P.underlying s=some (.array len e))(hue:P.underlying e=some (.int kx))(hxs:intsOf kx cs.toList=some xs)(hsz:sz P e=some q)(hq:q=1)(hl:xs.length=len)(hx:opv P t x=some (.agg cs))(hi:opv P t i=some (.int kd (.ofNat k)))(hk:k<len)(hfa:flat (.agg cs)=true):flatRun P t o=some (.int kx (xs.getD k 0)):=by
 obtain⟨g1,g2,_⟩:=intsOf_get hxs;have hm:mapO (opv P t) o.op.operands.toList=some [.agg cs,.int kd (.ofNat k)]:=by
  rw[ho];show mapO (opv P t) [x,i]=_;rw[mapO_cons,hx,mapO_cons,hi];rfl
 refine flatRun_of hm (by simp[hfa];rfl) ?_ rfl;have he:execOp (opw t) o=(do let r←Instr.index s (.agg cs) (.int kd (.ofNat k));pure (Next.value r)):=by
  unfold execOp;simp only[ho,opw_of hx,opw_of hi]
 have e3: ∀ {s:TypeId} {d:TypeDesc} (_:P.underlying s=some d) {δ:Type} (f:TypeDesc→Sem δ) (g:δ→Sem Next),pureRun P ((underlying s >>= f) >>= g)=pureRun P (f d >>= g):=by
  intro s d hu δ f g;unfold underlying;show pureRun P (((match P.underlying s with
   |some d=>(pure d:Sem TypeDesc)
   | none => stuck "no such type") >>= f) >>= g) = _
  rw[hu];rfl
 rw[he];have e4:Instr.index s (.agg cs) (.int kd (.ofNat k))=underlying s >>= fun d=>(match d,Value.agg cs with
  | .array len elem,.agg cs=>if 0≤Int.ofNat k∧Int.ofNat k<len then do let q←sizeOf elem;part elem cs ((Int.ofNat k).toNat*q)else boundsPanic kd (.ofNat k) len .index
  | .string,.string s=>match (if 0≤Int.ofNat k then s[(Int.ofNat k).toNat]? else none)with
    |some b=>pure (.int .u8 b.toNat)
    |none=>boundsPanic kd (.ofNat k) s.size .index
  | _, _ => stuck "Index: array or string expected") := rfl
 rw[e4,e3 hu];have h0:(0:Int)≤Int.ofNat k∧Int.ofNat k<len:=⟨Int.natCast_nonneg k,by simp only[Int.ofNat_eq_natCast];omega⟩;simp only[h0,and_self,if_true];obtain⟨info,hinfo,hq2⟩:=Option.map_eq_some_iff.1 hsz;have e5: ∀ {δ:Type} (f:Nat→Sem δ) (g:δ→Sem Next),pureRun P ((sizeOf e >>= f) >>= g)=pureRun P (f q >>= g):=by
  intro δ f g;unfold sizeOf typeInfo;show pureRun P ((((match P.info? e with
   |some d=>(pure d:Sem TypeInfo)
   | none => stuck "no such type") >>= fun i => pure i.size) >>= f) >>= g) = _
  rw[hinfo,←hq2];rfl
 rw[e5];have hc:cs[k]? =some (.int kx (xs.getD k 0)):=by
  have:=g2 k (by omega)
  rwa [Array.getElem?_toList]at this
 subst hq;rw[show(Int.ofNat k).toNat*1=k by simp];have e6:part e cs k=(underlying e >>= fun d=>(match d with
  | .struct _| .array _ _=>pure true
  |_=>pure false:Sem Bool)) >>= fun b=>if b then (do let m←sizeOf e;pure (.agg (cs.extract k (k+m))))else match cs[k]? with
   |some v=>pure v
   | none => stuck "part: no such cell" := rfl
 have e7: ∀ {δ ε:Type} (f:TypeDesc→Sem δ) (g1:δ→Sem ε) (g:ε→Sem Next),pureRun P (((underlying e >>= f) >>= g1) >>= g)=pureRun P ((f (.int kx) >>= g1) >>= g):=by
  intro δ ε f g1 g;unfold underlying;show pureRun P ((((match P.underlying e with
   |some d=>(pure d:Sem TypeDesc)
   | none => stuck "no such type") >>= f) >>= g1) >>= g) = _
  rw[hue];rfl
 rw[e6,e7,hc];rfl
theorem vpure_ok {o:Oper}(hk:kindOf P o.op= .pure_){K:Value→Prop}(h:vpure P l o K): ∃v,stepPure P t o=some v∧K v:=by
 have hgen:vsome (stepPure P (frL l) o) K→ ∃v,stepPure P t o=some v∧K v:=fun h=>by rw[stepPure_frL ag hk]at h;exact vsome_iff h
 obtain⟨dst,op,ty,pos,af,gu⟩:=o;cases op with
 |fieldAddr s x f=>
  simp only[vpure]at h;obtain⟨v,h1,h⟩:=vop_ok ag h;obtain⟨b,off,rfl,h⟩:=isPtr_iff h;obtain⟨d,h2,h⟩:=vsome_iff h;refine⟨_,?_,h⟩;unfold fieldOff at h2;split at h2
  · rename_i fs hs;obtain⟨fl,h3,h4⟩:=Option.bind_eq_some_iff.1 h2;obtain⟨m,h5,h6⟩:=Option.bind_eq_some_iff.1 h4;cases hm:Nat.beq m 0 with
    |true=>rw[hm]at h6;cases h6
    |false=>
     rw[hm]at h6;obtain rfl:=Option.some.inj h6;simp only[stepPure,h1,bind,Option.bind_some,hs,h3,h5,hm,cond_false]
  · cases h2
 |indexAddr s x i=>
  simp only[vpure]at h;obtain⟨v,h1,h⟩:=vop_ok ag h;obtain⟨iv,h2,h⟩:=vop_ok ag h;obtain⟨kd,xi,rfl,h⟩:=isInt_iff h;obtain⟨k,rfl,h⟩:=isNat_iff h;obtain⟨r,h3,h4⟩:=vidx_ok ag (kd:=kd) h;refine⟨r,?_,h4⟩;simp only[stepPure,h1,h2,bind,Option.bind_some];exact h3
 |index s x i=>
  simp only[vpure]at h;obtain⟨v,h1,h⟩:=vop_ok ag h;obtain⟨iv,h2,h⟩:=vop_ok ag h;generalize hu:P.underlying s=us at h;split at h
  · obtain⟨kd,xi,rfl,h⟩:=isInt_iff h;obtain⟨k,rfl,h⟩:=isNat_iff h;obtain⟨h3,h⟩:=vreq_iff h;exact⟨_,index_ok rfl hu h1 h2 (by simpa using h3),h⟩
  · rename_i cs len e;obtain⟨kd,xi,rfl,h⟩:=isInt_iff h;obtain⟨k,rfl,h⟩:=isNat_iff h;split at h
    · rename_i kx hue;obtain⟨xs,h3,h⟩:=vsome_iff h;obtain⟨q,h4,h⟩:=vsome_iff h;obtain⟨h5,h⟩:=vreq_iff h;obtain⟨h6,h⟩:=vreq_iff h;rw[Bool.and_eq_true]at h5;exact⟨_,index2_ok rfl hu hue h3 h4 (Nat.eq_of_beq_eq_true h5.1) (Nat.eq_of_beq_eq_true h5.2) h1 h2 (by simpa using h6) (flat_agg (intsOf_get h3).2.2),h⟩
    · exact hgen h
  · exact hgen h
 |move x=>exact vop_ok ag h
 |assign x=>exact vop_ok ag h
 |pick c a b=>
  simp only[vpure]at h;obtain⟨v,h1,h⟩:=vop_ok ag h;obtain⟨q,rfl,g⟩:=isBool_iff h;obtain⟨x,h2,g⟩:=vop_ok ag g;obtain⟨y,h3,g⟩:=vop_ok ag g;rcases vcond_iff g with ⟨rfl,g⟩|⟨rfl,g⟩
  · exact⟨x,by simp only[stepPure,h1,h2,h3,Option.bind_some],g⟩
  · exact⟨y,by simp only[stepPure,h1,h2,h3,Option.bind_some],g⟩
 |binOp op xt x y yt=>
  simp only[vpure]at h;obtain⟨a,h1,h⟩:=vop_ok ag h;obtain⟨b,h2,h⟩:=vop_ok ag h;obtain⟨v,h3,h4⟩:=vbin_ok ag rfl h1 h2 h;exact⟨v,by simp only[stepPure,h1,h2,Option.bind_some];exact h3,h4⟩
 |unOp op xt x=>
  simp only[vpure]at h;obtain⟨v,h1,h⟩:=vop_ok ag h;split at h
  · exact⟨_,un_ok rfl h1 rfl (by
     show Op.intArith .sub _ 0 _=_;unfold Op.intArith;simp only[wrapF_eq]) rfl,h⟩
  · exact⟨_,un_ok rfl h1 rfl rfl rfl,h⟩
  · exact hgen h
 |convert src dst x=>
  simp only[vpure]at h;obtain⟨v,h1,h⟩:=vop_ok ag h;split at h
  · rename_i k0 m k hd;obtain⟨d,h2,h⟩:=vsome_iff h;refine⟨_,?_,h⟩;simp only[stepPure,h1,Option.bind_some,hd,h2]
  · rename_i k0 m hd;split at h
    · rename_i k1 hs;refine⟨_,?_,h⟩;simp only[stepPure,h1,Option.bind_some,hd];exact conv_str_ok rfl hs hd h1
    · exact absurd h id
  · exact hgen h
 |nilCheck x=>
  simp only[vpure]at h;obtain⟨v,h1,h⟩:=vop_ok ag h;split at h
  · obtain⟨b,off,rfl,h⟩:=isAddr_iff h;exact⟨_,by simp only[stepPure,h1,Option.bind_some],h⟩
  · exact hgen h
 |call c=>
  obtain⟨callee,args,argTypes⟩:=c;cases callee with
  |builtin b=>
   cases b with
   |len=>
    simp only[vpure]at h;obtain⟨v,h1,h⟩:=vop_ok ag h;split at h
    · rename_i a m c e hu;obtain⟨h2,h⟩:=vreq_iff h;refine⟨_,?_,h⟩;simp only[stepPure,h1,bind,Option.bind_some];rw[show((argTypes[0]?).bind P.underlying)=some (.slice e) from hu];simp only[h2,cond_true]
    · rename_i b hu;obtain⟨h2,h⟩:=vreq_iff h;obtain⟨p,rfl⟩: ∃p,args= #[p]:=by
       obtain⟨l⟩:=args
       match l,Nat.eq_of_beq_eq_true h2 with
       | [p],_=>exact⟨p,rfl⟩
      refine⟨_,?_,h⟩;simp only[stepPure,h1,bind,Option.bind_some];exact len_str_ok rfl hu h1
    · exact hgen h
   |max=>
    simp only[vpure]at h;obtain⟨vs,h1,h⟩:=vopL_ok ag h;split at h
    · obtain⟨_,h⟩:=vreq_iff h;exact⟨_,(maxmin_ok rfl h1).1 rfl,h⟩
    · exact hgen h
   |min=>
    simp only[vpure]at h;obtain⟨vs,h1,h⟩:=vopL_ok ag h;split at h
    · obtain⟨_,h⟩:=vreq_iff h;exact⟨_,(maxmin_ok rfl h1).2 rfl,h⟩
    · exact hgen h
   |_=>exact hgen h
  |_=>exact hgen h
 |_=>exact hgen h
end
section
variable {P:Program}{t:Fr}{n:Nat}{l:LF}(ag:Ag t n l)
theorem vload_ok {h:Hp}{ty:TypeId}{b off:Nat}{K:Value→Prop}(hv:vload P h ty b off K):
 ∃v,((aggT P ty).bind fun ag=>bif ag then (sz P ty).bind fun n=>(readAt h b off n).bind fun l=>some (Value.agg l.toArray)else (readAt h b off 1).bind fun l=>some (l.headD undef))=some v∧K v:=by
 unfold vload at hv;split at hv
 · rename_i ha;obtain⟨m,hm,hv⟩:=vsome_iff hv;split at hv
   · obtain⟨vs,h1,h2⟩:=hv;exact⟨_,by rw[ha];simp only[Option.bind_some,cond_true,hm,h1],h2⟩
   · obtain⟨vs,h1,h2⟩:=exCells_ok hv;exact⟨_,by rw[ha];simp only[Option.bind_some,cond_true,hm,h1],h2⟩
 · rename_i ha;obtain⟨v,h1,h2⟩:=exCell_ok hv;exact⟨v,by rw[ha];simp only[Option.bind_some,cond_false,h1,List.headD_cons],h2⟩
 · cases hv
omit ag in
theorem sl_bnd (k:IntKind)(x y:Nat)(c:BoundsCode)(hxy:x≤y):Instr.sliceBound (.int k (.ofNat x)) y c=(pure x:Sem Nat):=by
 unfold Instr.sliceBound;show(if 0≤Int.ofNat x∧Int.ofNat x≤(y:Int)then (pure (Int.ofNat x).toNat:Sem Nat)else boundsPanic k (.ofNat x) y c)=_;have:0≤Int.ofNat x∧Int.ofNat x≤(y:Int):=⟨Int.natCast_nonneg x,Int.ofNat_le.2 hxy⟩;rw[if_pos this];rfl
omit ag in
theorem sl_b1 (n:Nat):Instr.sliceBounds false n n none none none=(pure (0,n,n):Sem (Nat×Nat×Nat)):=rfl
omit ag in
theorem sl_b2 (n:Nat)(k2:IntKind)(ll:Nat)(h4:ll≤n):Instr.sliceBounds false n n (some (.int k2 (.ofNat ll))) none none=(pure (ll,n,n):Sem (Nat×Nat×Nat)):=by
 unfold Instr.sliceBounds;simp only[pure_bind,sl_bnd _ _ _ _ h4]
omit ag in
theorem sl_b3 (n:Nat)(k1:IntKind)(hh:Nat)(h4:hh≤n):Instr.sliceBounds false n n none (some (.int k1 (.ofNat hh))) none=(pure (0,hh,n):Sem (Nat×Nat×Nat)):=by
 unfold Instr.sliceBounds;simp only[pure_bind,sl_bnd _ _ _ _ h4]
omit ag in
theorem sl_b4 (n:Nat)(k1 k2:IntKind)(hh ll:Nat)(h3:ll≤hh)(h4:hh≤n):Instr.sliceBounds false n n (some (.int k2 (.ofNat ll))) (some (.int k1 (.ofNat hh))) none=(pure (ll,hh,n):Sem (Nat×Nat×Nat)):=by
 unfold Instr.sliceBounds;simp only[pure_bind,sl_bnd _ _ _ _ h4,sl_bnd _ _ _ _ h3]
omit ag in
theorem slice_str_ok {o:Oper}{ty:TypeId}{x:Operand}{lo hi:Option Operand}(ho:o.op= .slice ty x lo hi none){s:ByteArray}(hu:P.underlying ty=some .string)(hx:opv P t x=some (.string s)){a b:Option Value}(ha:opq P t lo=some a)(hb:opq P t hi=some b){ll hh:Nat}
 (h1:(b=none∧hh=s.size)∨ ∃k,b=some (.int k (.ofNat hh))) (h2:(a=none∧ll=0)∨ ∃k,a=some (.int k (.ofNat ll))) (h3:hh≤s.size) (h4:ll≤hh):flatRun P t o=some (.string (s.extract ll hh)):=by
 have hw: ∀ {q:Option Operand} {v:Option Value},opq P t q=some v→q.map (opw t)=v∧ ∀rest vs,mapO (opv P t) rest=some vs→mapO (opv P t) (q.toList++rest)=some (v.toList++vs):=by
  intro q v hq;cases q with
  |none=>obtain rfl:=Option.some.inj hq;exact⟨rfl,fun rest vs h=>h⟩
  |some q=>
   obtain⟨w,hw,rfl⟩:=Option.map_eq_some_iff.1 (show(opv P t q).map some=some v from hq);exact⟨by rw[Option.map_some,opw_of hw],fun rest vs h=>by show mapO (opv P t) (q::rest)=_;rw[mapO_cons,hw,h];rfl⟩
 obtain⟨wa,ma⟩:=hw ha;obtain⟨wb,mb⟩:=hw hb;have hm:mapO (opv P t) o.op.operands.toList=some (.string s::(a.toList++(b.toList++[]))):=by
  rw[ho];have:(Op.slice ty x lo hi none).operands.toList=x::(lo.toList++(hi.toList++[])):=by
   show(#[x]++lo.toArray++hi.toArray++(none:Option Operand).toArray).toList=_;cases lo<;>cases hi<;>rfl
  rw[this,mapO_cons,hx,ma _ _ (mb _ _ rfl)];rfl
 have hfl:(Value.string s::(a.toList++(b.toList++[]))).all flat=true:=by
  rcases h1 with ⟨rfl,_⟩|⟨_,rfl⟩<;>rcases h2 with ⟨rfl,_⟩|⟨_,rfl⟩<;>rfl
 refine flatRun_of hm hfl ?_ rfl;have he:execOp (opw t) o=(do let r←Instr.sliceAt ty (.string s) a b none;pure (.value r)):=by
  unfold execOp;simp only[ho,opw_of hx,wa,wb];rfl
 rw[he];unfold Instr.sliceAt Instr.slice;have e3: ∀ {δ:Type} (f:TypeDesc→Sem δ) (g:δ→Sem Next),pureRun P ((underlying ty >>= f) >>= g)=pureRun P (f .string >>= g):=by
  intro δ f g;unfold underlying;show pureRun P (((match P.underlying ty with
   |some d=>(pure d:Sem TypeDesc)
   | none => stuck "no such type") >>= f) >>= g) = _
  rw[hu];rfl
 rw[e3];have hbs:Instr.sliceBounds false s.size s.size a b none=(pure (ll,hh,s.size):Sem (Nat×Nat×Nat)):=by
  rcases h1 with ⟨rfl,rfl⟩|⟨k1,rfl⟩<;>rcases h2 with ⟨rfl,rfl⟩|⟨k2,rfl⟩
  · exact sl_b1 _
  · exact sl_b2 _ _ _ h4
  · exact sl_b3 _ _ _ h3
  · exact sl_b4 _ _ _ _ _ h4 h3
 show pureRun P (Instr.slice ty (.string s) a b none >>= fun r=>pure (Next.value r))=_;unfold Instr.slice;rw[e3];show pureRun P ((Instr.sliceBounds false s.size s.size a b none >>= fun q=>pure (Value.string (s.extract q.1 q.2.1))) >>= fun r=>pure (Next.value r))=_;rw[hbs];rfl
omit ag in
theorem vbO_iff {v:Option Value}{d:Nat}{K:Nat→Prop}(h:vbO v d K): ∃n,((v=none∧n=d)∨ ∃k,v=some (.int k (.ofNat n)))∧K n:=by
 unfold vbO at h;split at h
 · exact⟨d,.inl ⟨rfl,rfl⟩,h⟩
 · obtain⟨k,x,rfl,h⟩:=isInt_iff h;obtain⟨n,rfl,h⟩:=isNat_iff h;exact⟨n,.inr ⟨k,rfl⟩,h⟩
include ag
theorem vread_ok {h:Hp}{o:Oper}{K:Value→List Nat→Prop}(hv:vread P l h o K): ∃v ids,stepRead P t o h=some (v,ids)∧K v ids:=by
 have hfl:(∀cs b,o.op≠ .select cs b)→flatRun P (frL l) o=flatRun P t o:=flatRun_frL ag;obtain⟨dst,op,ty,pos,af,gu⟩:=o;cases op with
 |load ty' x=>
  simp only[vread]at hv;obtain⟨v,h1,g⟩:=vop_ok ag hv;obtain⟨b,off,rfl,g1⟩:=isPtr_iff g;obtain⟨r,h2,g2⟩:=vload_ok g1;refine⟨r,[b],?_,g2⟩;simp only[stepRead,h1,bind,Option.bind_some];obtain⟨q,hq,h3⟩:=Option.bind_eq_some_iff.1 h2;rw[hq,Option.bind_some];cases q with
  |true=>
   obtain⟨m,hm,h4⟩:=Option.bind_eq_some_iff.1 h3;obtain⟨c,hc,h5⟩:=Option.bind_eq_some_iff.1 h4;obtain rfl:=Option.some.inj h5;simp only[cond_true,hm,hc,Option.bind_some]
  |false=>
   obtain⟨c,hc,h5⟩:=Option.bind_eq_some_iff.1 h3;obtain rfl:=Option.some.inj h5;simp only[cond_false,hc,Option.bind_some]
 |slice ty' x lo hi mx=>
  simp only[vread]at hv;obtain⟨v,h1,g⟩:=vop_ok ag hv;split at g
  · split at g
    · rename_i hu;obtain⟨a,h2,g⟩:=vopO_ok ag g;obtain⟨b,h3,g⟩:=vopO_ok ag g;obtain⟨hh,h4,g⟩:=vbO_iff g;obtain⟨ll,h5,g⟩:=vbO_iff g;obtain⟨h6,g⟩:=vreq_iff g;obtain⟨h7,g⟩:=vreq_iff g;refine⟨_,[],?_,g⟩;simp only[stepRead,h1,bind,Option.bind_some];rw[slice_str_ok rfl hu h1 h2 h3 h4 h5 (Nat.le_of_ble_eq_true h6) (Nat.le_of_ble_eq_true h7)];rfl
    · rw[hfl (fun cs b hh=>by cases hh)]at g;obtain⟨r,h2,g⟩:=vsome_iff g;refine⟨r,[],?_,g⟩;simp only[stepRead,h1,bind,Option.bind_some,h2,Option.map_some]
  · rename_i hns;obtain⟨a,h2,g⟩:=vopO_ok ag g;obtain⟨b,h3,g⟩:=vopO_ok ag g;obtain⟨c,h4,g⟩:=vopO_ok ag g;obtain⟨q,m,k,h5,g⟩:=g;refine⟨_,_,?_,g⟩;cases v with
    |string s=>exact absurd rfl (hns s)
    |_=>simp only[stepRead,h1,bind,h2,h3,h4,h5,Option.bind_some]
 |convert src dst x=>
  simp only[vread]at hv;obtain⟨v,h1,g⟩:=vop_ok ag hv;obtain⟨e,h2,g⟩:=vsome_iff g;split at g
  · rename_i a m c hd hq;obtain⟨bs,h3,g⟩:=g;refine⟨_,_,?_,g⟩;simp only[stepRead,h1,bind,h2,Option.bind_some,hd];unfold bytesV at h3;split at h3
    · obtain rfl:=Option.some.inj h3;rfl
    · rename_i b off;obtain⟨r,h4,h5⟩:=Option.bind_eq_some_iff.1 h3;simp only[h4,h5,Option.bind_some];rfl
    · cases h3
  · exact absurd g fun h=>h
 |_=>cases hv
theorem vmk_ok {o:Oper}(hk:kindOf P o.op= .mk){K:Ob→(Nat→Value)→Prop}(hv:vmk P l o K): ∃x f,stepMk P t o=some (x,f)∧K x f:=by
 have hgen:(vsome (stepMk P (frL l) o) fun r=>K r.1 r.2)→ ∃x f,stepMk P t o=some (x,f)∧K x f:=fun h=>by
  rw[show stepMk P (frL l) o=stepMk P t o from stepMk_congr (fun x _=>(opv_frL ag x).symm) hk]at h;obtain⟨⟨x,f⟩,h1,h2⟩:=vsome_iff h;exact⟨x,f,h1,h2⟩
 obtain⟨dst,op,ty,pos,af,gu⟩:=o;cases op with
 |makeSlice ty' a c=>
  simp only[vmk]at hv;obtain⟨e,h1,g⟩:=vsome_iff hv;obtain⟨info,h2,g⟩:=vsome_iff g;obtain⟨z,h3,g⟩:=vsome_iff g;obtain⟨lv,h4,g⟩:=vop_ok ag g;obtain⟨cv,h5,g⟩:=vop_ok ag g;obtain⟨k1,x,rfl,g1⟩:=isInt_iff g;obtain⟨k2,y,rfl,g2⟩:=isInt_iff g1;obtain⟨m,rfl,g3⟩:=isNat_iff g2;obtain⟨k,rfl,g4⟩:=isNat_iff g3;obtain⟨b1,g5⟩:=vreq_iff g4;obtain⟨b2,g6⟩:=vreq_iff g5;obtain⟨b3,g7⟩:=vreq_iff g6;obtain⟨b4,g8⟩:=vreq_iff g7;refine⟨_,_,?_,g8⟩;have b5:(Nat.ble m k&&Nat.ble (k*info.bytes) 281474976710656&&Nat.blt k big&& !(Nat.beq info.size 0)&&Nat.beq z.cells.size info.size&&z.cells.toList.all (fun v=>flat v&&one v))=true:=by
   rw[b1,b2,b3,Bool.true_and,Bool.true_and,Bool.true_and];exact b4
  simp only[stepMk,bind,h1,h2,h3,h4,h5,Option.bind_some];rw[b5];rfl
 |box e x=>
  simp only[vmk]at hv;obtain⟨v,h1,g⟩:=vop_ok ag hv;obtain⟨h2,g⟩:=vreq_iff g;exact⟨_,_,by simp only[stepMk,bind,h1,h2,Option.bind_some];rfl,g⟩
 |_=>exact hgen hv
omit ag in
theorem fls_no: ¬Fls:=fun h=>h
variable {O:CallF}
theorem vsw_ok {t:TypeId}{ts:List TypeId}{K:TypeId→Prop}(hv:vsw t ts K):K t:=by
 have _:=ag
 induction ts with
 |nil=>exact absurd hv fls_no
 |cons a r ih=>
  have hv:vcond (Nat.beq t a) (K a) (vsw t r K):=hv;rcases vcond_iff hv with ⟨e,hv⟩|⟨_,hv⟩
  · obtain rfl:=Nat.eq_of_beq_eq_true e;exact hv
  · exact ih hv
theorem vdyn_ok {rt:TypeId}{v:Value}{K:Value→Prop}(hv:vdyn P rt v K):K v:=by
 unfold vdyn at hv;split at hv
 · exact hv
 · unfold isIface at hv;split at hv
   · have hv:=vsw_ok ag hv;obtain⟨w',rfl,hv⟩:=exV_ok hv;exact hv
   · exact absurd hv fls_no
theorem vcall_ok {rt:TypeId}{g:FuncId}{az:List Value}{h:Hp}{K:Value→Hp→Prop}(hv:vcall P O rt g az h K): ∃v h',EvC P O g az h v h'∧K v h':=by
 obtain⟨v,h',h1,h2⟩:=exRes_ok hv;exact⟨v,h',h1,vdyn_ok ag h2⟩
theorem veff_ok {h:Hp}{o:Oper}{K:Value→Hp→Prop}(hv:veff P O l h o K): ∃k v h',stepEff P (evW P O k k) t o h=some (v,h')∧K v h':=by
 have hgen:(vsome (stepEff P (fun _ _ _=>none) (frL l) o h) fun r=>K r.1 r.2)→ ∃k v h',stepEff P (evW P O k k) t o h=some (v,h')∧K v h':=fun hh=>by
  rw[show stepEff P (fun _ _ _=>none) (frL l) o h=stepEff P (fun _ _ _=>none) t o h from stepEff_congr fun x _=>(opv_frL ag x).symm]at hh;obtain⟨⟨v,h'⟩,h1,h2⟩:=vsome_iff hh;exact⟨0,v,h',stepEff_mono (fun f args h r hr=>by cases hr) h1,h2⟩
 obtain⟨dst,op,ty,pos,af,gu⟩:=o;cases op with
 |store ty' a x=>
  simp only[veff]at hv;obtain⟨av,h1,g⟩:=vop_ok ag hv;obtain⟨v,h2,g⟩:=vop_ok ag g;obtain⟨m,h3,g⟩:=vsome_iff g;obtain⟨b,off,rfl,g1⟩:=isPtr_iff g;obtain⟨h4,g2⟩:=vreq_iff g1;obtain⟨h5,g3⟩:=vreq_iff g2;unfold canW at h5;unfold Hp.wr at g3;cases hw:writeAt h b off v.cells.toList with
  |none=>rw[hw]at h5;cases h5
  |some h'=>
   rw[hw]at g3;refine⟨0,undef,h',?_,g3⟩;simp only[stepEff,storeV,bind,h1,h2,h3,Option.bind_some,h4,cond_true,hw]
 |call c=>
  obtain⟨callee,args,argTypes⟩:=c;cases callee with
  |value f=>
   simp only[veff]at hv;obtain⟨fv,h1,g⟩:=vop_ok ag hv;obtain⟨az,h2,g⟩:=vopL_ok ag g;rcases isFn_iff g with ⟨f',fi,ca,rfl,g1⟩|⟨f',fi,ca,rfl,hz,g1⟩
   · obtain⟨v,h',⟨k,h3⟩,g2⟩:=vcall_ok ag g1;refine⟨k,v,h',?_,g2⟩;simp only[stepEff,bind,h1,h2,Option.bind_some];exact h3
   · obtain⟨v,h',⟨k,h3⟩,g2⟩:=vcall_ok ag g1;refine⟨k,v,h',?_,g2⟩;simp only[stepEff,bind,h1,h2,Option.bind_some,hz,cond_true];simpa using h3
  |builtin b=>
   simp only[veff]at hv;split at hv
   · rename_i sT xT hT;obtain⟨az,h1,g⟩:=vopL_ok ag hv;split at g
     · obtain⟨a,m,c,h',h2,g⟩:=g;refine⟨0,_,h',?_,g⟩;simp only[stepEff,bind,h1,Option.bind_some,hT];exact h2
     · cases g
   · rename_i dT sT hT;obtain⟨az,h1,g⟩:=vopL_ok ag hv;split at g
     · obtain⟨x,h',h2,g⟩:=g;refine⟨0,_,h',?_,g⟩;simp only[stepEff,bind,h1,Option.bind_some,hT];exact h2
     · cases g
   · rename_i sT hT;obtain⟨az,h1,g⟩:=vopL_ok ag hv;split at g
     · obtain⟨h',h2,g⟩:=g;refine⟨0,_,h',?_,g⟩;simp only[stepEff,bind,h1,Option.bind_some,hT];exact h2
     · cases g
   · rename_i sT hT;obtain⟨az,h1,g⟩:=vopL_ok ag hv;split at g
     · obtain⟨a,m,c,rfl,g1⟩:=isSlc_iff g;obtain⟨e,h2,g2⟩:=vsome_iff g1;obtain⟨h3,g3⟩:=vreq_iff g2;rw[Bool.not_eq_true']at h3;refine⟨0,_,h,?_,g3⟩;simp only[stepEff,bind,h1,Option.bind_some,hT,h2,h3,cond_false]
     · cases g
   · cases hv
  |invoke x name=>
   simp only[veff]at hv;obtain⟨xv,h1,g⟩:=vop_ok ag hv;obtain⟨az,h2,g⟩:=vopL_ok ag g;split at g
   · rename_i ty' v;obtain⟨f,h3,g⟩:=vsome_iff g;obtain⟨h4,g⟩:=vreq_iff g;obtain⟨r,h',⟨k,h5⟩,g⟩:=vcall_ok ag g;refine⟨k,r,h',?_,g⟩;simp only[stepEff,bind,h1,h2,Option.bind_some,h3,h4,cond_true];exact h5
   · exact absurd g fls_no
 |convert src dst x=>
  simp only[veff]at hv;obtain⟨v,h1,g⟩:=vop_ok ag hv;obtain⟨e,h2,g⟩:=vsome_iff g;split at g
  · rename_i s hs hq;refine⟨0,_,_,?_,g⟩;simp only[stepEff,h1,bind,h2,Option.bind_some,hs]
  · exact absurd g fls_no
 |range xt x=>exact hgen hv
 |next x is=>
  simp only[veff]at hv;obtain⟨h0,g⟩:=vreq_iff hv;obtain⟨v,h1,g⟩:=vop_ok ag g;obtain⟨b,off,rfl,g⟩:=isPtr_iff g;obtain⟨h2,g⟩:=vreq_iff g;obtain rfl:=Nat.eq_of_beq_eq_true h2;obtain⟨s,pos,h3,g⟩:=g;rcases vcond_iff g with ⟨h4,h',h5,g⟩|⟨h4,g⟩
  · refine⟨0,_,h',?_,g⟩;simp only[stepEff,bind,h1,Option.bind_some,h0,cond_true,nextV,h3,h4,h5,Option.map_some];rfl
  · refine⟨0,_,h,?_,g⟩;simp only[stepEff,bind,h1,Option.bind_some,h0,cond_true,nextV,h3,h4,cond_false]
 |_=>cases hv
theorem vwant_iff {ops:Array Oper}{o:Oper}{A B:LF→Prop}(hv:vwant ops l o A B): ∃l',Ag t n l'∧((wantedF ops t o=true∧A l')∨(wantedF ops t o=false∧B l')):=by
 unfold vwant at hv;unfold wantedF;split at hv
 · rename_i hg;rw[hg];exact⟨l,ag,.inl ⟨rfl,hv⟩⟩
 · rename_i j w hg;rw[hg];simp only[yieldedL];split at hv
   · rename_i d hd;rw[hd];split at hv
     · rename_i vs hu;have hs:slot t d= .tuple vs:=(ag.slots d).trans hu;simp only[hs];exact⟨l,ag,.inr ⟨trivial,hv⟩⟩
     obtain⟨b,hb,hv⟩:=isBool_iff hv;have hs:slot t d= .bool b:=by rw[ag.slots,hb]
     simp only[hs];split at hv
     · rcases vcond_iff hv with ⟨rfl,hv⟩|⟨rfl,hv⟩
       · exact⟨_,ag.same hb,.inl ⟨rfl,hv⟩⟩
       · exact⟨_,ag.same hb,.inr ⟨rfl,hv⟩⟩
     · rcases vcond_iff hv with ⟨rfl,hv⟩|⟨rfl,hv⟩
       · exact⟨_,ag.same hb,.inr ⟨rfl,hv⟩⟩
       · exact⟨_,ag.same hb,.inl ⟨rfl,hv⟩⟩
   · rename_i hd;rw[hd];exact⟨l,ag,.inr ⟨rfl,hv⟩⟩
end
section
variable {P:Program}{O:CallF}
theorem vstep_ok {t:Fr}{n:Nat}{l:LF}(ag:Ag t n l){h:Hp}{o:Oper}{ops:Array Oper}(hw:wantedF ops t o=true){K:Value→Hp→Prop}(hv:vstep P O l h o K):
 ∃k v h',stepOp P (evW P O k k) ops o ⟨t,n,h⟩=some ⟨St.setT ⟨t,n,h⟩ o.dst v,n,h'⟩∧K v h':=by
 unfold vstep at hv;unfold stepOp;simp only[hw,cond_true];split at hv
 · rename_i hk;obtain⟨v,h1,g⟩:=vpure_ok ag hk hv;exact⟨0,v,h,by rw[hk];simp only[h1,Option.map_some],g⟩
 · rename_i hk;obtain⟨v,ids,h1,g⟩:=vread_ok ag hv;exact⟨0,v,h,by rw[hk];simp only[h1,Option.map_some],g⟩
 · rename_i hk;obtain⟨x,f,h1,g⟩:=vmk_ok ag hk hv;exact⟨0,_,_,by rw[hk];simp only[h1,Option.map_some],g⟩
 · rename_i hk;obtain⟨k,v,h',h1,g⟩:=veff_ok ag hv;exact⟨k,v,h',by rw[hk];simp only[h1,Option.map_some],g⟩
theorem kk_le {a b:Nat}(h:a≤b):CfLe (evW P O a a) (evW P O b b):=evW_mono h a b h
theorem vops_ok {ops:Array Oper}: ∀(xs:List Oper) {t:Fr} {n:Nat} {l:LF} (_:Ag t n l) {h:Hp} {K:LF→Hp→Prop},vops P O ops xs l h K→
 ∃k s' l',runOps P (evW P O k k) ops xs ⟨t,n,h⟩=some s'∧s'.n=n∧Ag s'.t n l'∧K l' s'.h:=by
 intro xs
 induction xs with
 |nil=>intro t n l ag h K hv;exact⟨0,_,l,rfl,rfl,ag,hv⟩
 |cons o xs ih=>
  intro t n l ag h K hv;have hv:vwant ops l o (fun l=>vstep P O l h o fun v h'=>vops P O ops xs (stL l o.dst v) h' K) (fun l=>vops P O ops xs (stL l o.dst undef) h K):=hv;have hrun: ∀k s,runOps P (evW P O k k) ops (o::xs) s=(stepOp P (evW P O k k) ops o s).bind (runOps P (evW P O k k) ops xs):=fun _ _=>rfl;obtain⟨l,ag,hwd⟩:=vwant_iff ag hv;rcases hwd with ⟨hw,hv⟩|⟨hw,hv⟩
  · obtain⟨k,v,h',h1,g⟩:=vstep_ok ag hw hv;obtain⟨k2,s',l',h2,h3,h4,h5⟩:=ih (ag.put h o.dst v) g;refine⟨max k k2,s',l',?_,h3,h4,h5⟩;rw[hrun,stepOp_mono (kk_le (Nat.le_max_left k k2)) h1,Option.bind_some];exact runOps_mono (kk_le (Nat.le_max_right k k2)) _ h2
  · obtain⟨k2,s',l',h2,h3,h4,h5⟩:=ih (ag.put h o.dst undef) hv;refine⟨k2,s',l',?_,h3,h4,h5⟩;rw[hrun];unfold stepOp;simp only[hw,cond_false,Option.bind_some];exact h2
theorem vplan_ok {ops:Array Oper}{ms:List Nat}{n0:Nat}: ∀(xs:List Nat) {rds:Rds} {t:Fr} {n:Nat} {l:LF} (_:Ag t n l) {h:Hp} {K:LF→Hp→Prop},vplan P O ops ms n0 xs rds l h K→
 ∃k s' l',runPlan P (evW P O k k) ops ms n0 xs (rds,⟨t,n,h⟩)=some s'∧s'.n=n∧Ag s'.t n l'∧K l' s'.h:=by
 intro xs
 induction xs with
 |nil=>intro rds t n l ag h K hv;exact⟨0,_,l,rfl,rfl,ag,hv⟩
 |cons i xs ih=>
  intro rds t n l ag h K hv;obtain⟨o,ho,hv⟩:=vsome_iff (show vsome (nth ops.toList i) _ from hv);have hrun: ∀k s,runPlan P (evW P O k k) ops ms n0 (i::xs) s=(planStep P (evW P O k k) ops ms n0 i s).bind (runPlan P (evW P O k k) ops ms n0 xs):=fun _ _=>rfl;obtain⟨l,ag,hwd⟩:=vwant_iff ag hv;have go: ∀ {k:Nat} {rds':Rds} {v:Value} {h':Hp},planStep P (evW P O k k) ops ms n0 i (rds,⟨t,n,h⟩)=some (rds',⟨St.setT ⟨t,n,h⟩ o.dst v,n,h'⟩)→vplan P O ops ms n0 xs rds' (stL l o.dst v) h' K→
   ∃k s' l',runPlan P (evW P O k k) ops ms n0 (i::xs) (rds,⟨t,n,h⟩)=some s'∧s'.n=n∧Ag s'.t n l'∧K l' s'.h:=by
   intro k rds' v h' h1 g;obtain⟨k2,s',l',h2,h3,h4,h5⟩:=ih (ag.put h o.dst v) g;refine⟨max k k2,s',l',?_,h3,h4,h5⟩;rw[hrun,planStep_mono (kk_le (Nat.le_max_left k k2)) h1,Option.bind_some];exact runPlan_mono (kk_le (Nat.le_max_right k k2)) _ h2
  rcases hwd with ⟨hw,hv⟩|⟨hw,hv⟩
  · split at hv
    · rename_i hk;obtain⟨v,h1,g⟩:=vpure_ok ag hk hv;exact go (k:=0) (by unfold planStep;simp only[ho,Option.bind_some,hw,cond_true,hk,h1,Option.map_some]) g
    · rename_i hk;obtain⟨v,ids,h1,g⟩:=vread_ok ag hv;exact go (k:=0) (by unfold planStep;simp only[ho,Option.bind_some,hw,cond_true,hk,h1,Option.map_some]) g
    · rename_i hk;obtain⟨x,f,h1,g⟩:=vmk_ok ag hk hv;obtain⟨h2,g⟩:=vreq_iff g;have h3:h.addAt (n0+i) x=some (h.lay (n0+i) x):=by
       unfold Hp.free at h2;unfold Hp.addAt;cases hg:h.get (n0+i)with
       |none=>rfl
       |some y=>rw[hg]at h2;cases h2
      exact go (k:=0) (by unfold planStep;simp only[ho,Option.bind_some,hw,cond_true,hk,h1,h3,Option.map_some]) g
    · rename_i hk;unfold vgrd at hv;obtain⟨k,v,h',h1,g⟩:=veff_ok ag hv;exact go (k:=k) (by unfold planStep;simp only[ho,Option.bind_some,hw,cond_true,hk];rw[show stepEff P (evW P O k k) t o { t:=h.t,nx:=h.nx,gd:=_ }=some (v,h') from h1];rfl) g
  · exact go (k:=0) (v:=undef) (by unfold planStep;simp only[ho,Option.bind_some,hw,cond_false]) hv
theorem vregion_ok {ops:Array Oper}{draw:Bool}{t:Fr}{n:Nat}{l:LF}(ag:Ag t n l){h:Hp}{K:LF→Hp→Prop}(hv:vregion P O ops draw l h K):
 ∃k s' l',runRegion P (evW P O k k) ops draw ⟨t,n,h⟩=some s'∧s'.n=n∧Ag s'.t n l'∧K l' s'.h:=by
 cases draw with
 |false=>exact vops_ok _ ag hv
 |true=>
  obtain⟨h1,hv⟩:=vreq_iff (show vreq _ _ from hv);obtain⟨k,s',l',h2,h3⟩:=vplan_ok _ ag hv;refine⟨k,s',l',?_,h3⟩;unfold runRegion;simp only[cond_true,h1];exact h2
end
section
variable {P:Program}{O:CallF}
theorem runStk_mono {cf cf':CallF}(hle:CfLe cf cf'){n m:Nat}(hm:n≤m): ∀(k:List KI) {r r':Ex×St},runStk P cf n k r=some r'→runStk P cf' m k r=some r':=by
 intro k
 induction k with
 |nil=>intro r r' h;exact h
 |cons a k ih=>
  intro r r' h;obtain⟨e,s⟩:=r;cases a with
  |code c=>
   cases e with
   |normal=>
    obtain⟨q,h1,h2⟩:=Option.bind_eq_some_iff.1 (show(ev P cf n c s).bind (runStk P cf n k)=some r' from h);show(ev P cf' m c s).bind (runStk P cf' m k)=some r';rw[ev_mono hle n m hm c h1];exact ih h2
   |exit id=>exact ih (show runStk P cf n k _=_ from h)
   |ret=>exact ih (show runStk P cf n k _=_ from h)
   |goto l=>exact ih (show runStk P cf n k _=_ from h)
  |blk id=>
   cases e with
   |exit id'=>
    have h:(bif Nat.beq id' id then runStk P cf n k (.normal,s)else runStk P cf n k (.exit id',s))=some r':=h;show(bif Nat.beq id' id then runStk P cf' m k (.normal,s)else runStk P cf' m k (.exit id',s))=some r';cases hb:Nat.beq id' id with
    |true=>rw[hb]at h;exact ih h
    |false=>rw[hb]at h;exact ih h
   |normal=>exact ih (show runStk P cf n k _=_ from h)
   |ret=>exact ih (show runStk P cf n k _=_ from h)
   |goto l=>exact ih (show runStk P cf n k _=_ from h)
  |scp b=>
   cases e with
   |goto lab=>
    have h:(match findLabel b lab with
     |some rest=>(scopeF (ev P cf n) b n rest s).bind (runStk P cf n k)
     |none=>runStk P cf n k (.goto lab,s))=some r':=h
    show(match findLabel b lab with
     |some rest=>(scopeF (ev P cf' m) b m rest s).bind (runStk P cf' m k)
     |none=>runStk P cf' m k (.goto lab,s))=some r'
    cases hl:findLabel b lab with
    |none=>rw[hl]at h;exact ih h
    |some rest=>
     rw[hl]at h;obtain⟨q,h1,h2⟩:=Option.bind_eq_some_iff.1 h;simp only[scopeF_mono (fun c s r h=>ev_mono hle n m hm c h) b n m hm rest s q h1,Option.bind_some];exact ih h2
   |normal=>exact ih (show runStk P cf n k _=_ from h)
   |ret=>exact ih (show runStk P cf n k _=_ from h)
   |exit id=>exact ih (show runStk P cf n k _=_ from h)
  |beg L=>
   cases e with
   |normal=>
    obtain⟨h1,h2,h3⟩:=Option.bind_eq_some_iff.1 (show(roundIn L s.h).bind (fun h1=>runStk P cf n k (.normal,⟨s.t,s.n,h1⟩))=some r' from h);show(roundIn L s.h).bind (fun h1=>runStk P cf' m k (.normal,⟨s.t,s.n,h1⟩))=some r';rw[h2,Option.bind_some];exact ih h3
   |_=>cases h
theorem runStk_ret {cf:CallF}{m:Nat}{s:St}: ∀(k:List KI),noBeg k=true→runStk P cf m k (.ret,s)=some (.ret,s):=by
 intro k
 induction k with
 |nil=>intro _;rfl
 |cons a k ih=>
  intro h;cases a with
  |beg L=>cases h
  |_=>exact ih h
theorem runStk_exit {cf:CallF}{m id:Nat}{s:St}: ∀(k k':List KI),unwind id k=some k'→runStk P cf m k (.exit id,s)=runStk P cf m k' (.normal,s):=by
 intro k
 induction k with
 |nil=>intro k' h;cases h
 |cons a k ih=>
  intro k' h;cases a with
  |code c=>exact ih k' h
  |scp b=>exact ih k' h
  |beg L=>cases h
  |blk id'=>
   have h:(bif Nat.beq id id' then some k else unwind id k)=some k':=h;show(bif Nat.beq id id' then runStk P cf m k (.normal,s)else runStk P cf m k (.exit id,s))=_;cases hb:Nat.beq id id' with
   |true=>rw[hb]at h;obtain rfl:=Option.some.inj h;rfl
   |false=>rw[hb]at h;exact ih k' h
theorem scopeF_one {run:Code→St→Option (Ex×St)}{b:Code}{n:Nat}{c:Code}{s:St}:scopeF run b (n+1) c s=(run c s).bind fun r=>match r.1 with
 | .goto l=>match findLabel b l with
   |some rest=>scopeF run b n rest r.2
   |none=>some r
 |_=>some r:=rfl
theorem scopeF_runStk {cf:CallF}{m:Nat}{b c:Code}{s:St}{k:List KI}{r:Ex×St}(h:runStk P cf m (.code c:: .scp b::k) (.normal,s)=some r): ∃q,scopeF (ev P cf (m+1)) b (m+1) c s=some q∧runStk P cf (m+1) k q=some r:=by
 obtain⟨⟨e,s1⟩,h1,h2⟩:=Option.bind_eq_some_iff.1 (show(ev P cf m c s).bind (runStk P cf m (.scp b::k))=some r from h);have h1':=ev_mono (cf:=cf) (cf':=cf) (fun _ _ _ _ h=>h) m (m+1) (Nat.le_succ m) c h1;rw[scopeF_one,h1',Option.bind_some];have up: ∀q,runStk P cf m k q=some r→runStk P cf (m+1) k q=some r:=fun q hq=>runStk_mono (fun _ _ _ _ h=>h) (Nat.le_succ m) k hq;cases e with
 |goto lab=>
  have h2:(match findLabel b lab with
   |some rest=>(scopeF (ev P cf m) b m rest s1).bind (runStk P cf m k)
   |none=>runStk P cf m k (.goto lab,s1))=some r:=h2
  simp only;cases hl:findLabel b lab with
  |none=>rw[hl]at h2;exact⟨_,rfl,up _ h2⟩
  |some rest=>
   rw[hl]at h2;obtain⟨q,h3,h4⟩:=Option.bind_eq_some_iff.1 h2;refine⟨q,?_,up _ h4⟩;exact scopeF_mono (fun c s r h=>ev_mono (fun _ _ _ _ h=>h) m (m+1) (Nat.le_succ m) c h) b m m (Nat.le_refl m) rest s1 q h3
 |normal=>exact⟨_,rfl,up _ h2⟩
 |ret=>exact⟨_,rfl,up _ h2⟩
 |exit id=>exact⟨_,rfl,up _ h2⟩
theorem runStk_goto {cf:CallF}{m lab:Nat}{s:St}{r:Ex×St}: ∀(k k':List KI),unwindG lab k=some k'→runStk P cf m k' (.normal,s)=some r→runStk P cf (m+1) k (.goto lab,s)=some r:=by
 intro k
 induction k with
 |nil=>intro k' h;cases h
 |cons a k ih=>
  intro k' h hr;cases a with
  |code c=>exact ih k' h hr
  |blk id=>exact ih k' h hr
  |beg L=>cases h
  |scp b=>
   have h:(match findLabel b lab with
    |some rest=>some (.code rest:: .scp b::k)
    |none=>unwindG lab k)=some k':=h
   show(match findLabel b lab with
    |some rest=>(scopeF (ev P cf (m+1)) b (m+1) rest s).bind (runStk P cf (m+1) k)
    |none=>runStk P cf (m+1) k (.goto lab,s))=some r
   cases hl:findLabel b lab with
   |none=>rw[hl]at h;exact ih k' h hr
   |some rest=>
    rw[hl]at h;obtain rfl:=Option.some.inj h;obtain⟨q,h1,h2⟩:=scopeF_runStk hr;simp only[h1,Option.bind_some];exact h2
theorem RK.of {fn:FinK}{k k':List KI}{l l':LF}{h h':Hp}{Q:Value→Hp→Prop}(hk:RK P O fn k' l' h' Q)
 (hs: ∀t n,Ag t n l→ ∃t' n',Ag t' n' l'∧ ∀m r,runStk P (evW P O m m) m k' (.normal,⟨t',n',h'⟩)=some r→ ∃m2,m≤m2∧runStk P (evW P O m2 m2) m2 k (.normal,⟨t,n,h⟩)=some r):RK P O fn k l h Q:=by
 refine⟨fun t n ag=> ?_⟩;obtain⟨t',n',ag',hs⟩:=hs t n ag;obtain⟨m,e,s',v,hv,h1,h2⟩:=hk.run t' n' ag';obtain⟨m2,_,h3⟩:=hs m _ h1;exact⟨m2,e,s',v,hv,h3,h2⟩
theorem RK.step {fn:FinK}{k k':List KI}{l:LF}{h:Hp}{Q:Value→Hp→Prop}(hk:RK P O fn k' l h Q)
 (hs: ∀(cf:CallF) m s r,runStk P cf m k' (.normal,s)=some r→runStk P cf (m+1) k (.normal,s)=some r):RK P O fn k l h Q:=
 hk.of fun t n ag=>⟨t,n,ag,fun m r hr=>⟨m+1,Nat.le_succ m,hs _ m _ r (runStk_mono (kk_le (Nat.le_succ m)) (Nat.le_refl m) k' hr)⟩⟩
theorem RK.step2 {fn:FinK}{k k':List KI}{l:LF}{h:Hp}{Q:Value→Hp→Prop}(hk:RK P O fn k' l h Q)
 (hs: ∀(cf:CallF) m s r,runStk P cf m k' (.normal,s)=some r→runStk P cf (m+2) k (.normal,s)=some r):RK P O fn k l h Q:=
 hk.of fun t n ag=>⟨t,n,ag,fun m r hr=>⟨m+2,Nat.le_add_right ..,hs _ m _ r (runStk_mono (kk_le (Nat.le_add_right ..)) (Nat.le_refl m) k' hr)⟩⟩
theorem runStk_up {cf:CallF}{m:Nat}{k:List KI}{q r:Ex×St}(h:runStk P cf m k q=some r):runStk P cf (m+1) k q=some r:=runStk_mono (fun _ _ _ _ h=>h) (Nat.le_succ m) k h
theorem RK.loop {fn:FinK}{b:Code}{k:List KI}{l:LF}{h:Hp}{Q:Value→Hp→Prop}(hk:RK P O fn (.code b:: .code (.loop b)::k) l h Q):RK P O fn (.code (.loop b)::k) l h Q:=by
 refine hk.step fun cf m s r hr=> ?_;obtain⟨⟨e,s1⟩,h1,h2⟩:=Option.bind_eq_some_iff.1 (show(ev P cf m b s).bind (runStk P cf m (.code (.loop b)::k))=some r from hr);show(ev P cf (m+1) (.loop b) s).bind (runStk P cf (m+1) k)=some r;rw[ev_succ];simp only[h1,Option.bind_some];cases e with
 |normal=>
  obtain⟨q,h3,h4⟩:=Option.bind_eq_some_iff.1 (show(ev P cf m (.loop b) s1).bind (runStk P cf m k)=some r from h2);simp only[h3,Option.bind_some];exact runStk_up h4
 |exit id=>exact runStk_up h2
 |ret=>exact runStk_up h2
 |goto lab=>exact runStk_up h2
theorem vresL_ok {t:Fr}{n:Nat}{l:LF}(ag:Ag t n l){h:Hp}: ∀ {rs:List ResultVar} {K:List Value→Prop},vresL P l h rs K→ ∃vs,mapO (resV P ⟨t,n,h⟩) rs=some vs∧K vs:=by
 intro rs
 induction rs with
 |nil=>intro K hv;exact⟨[],rfl,hv⟩
 |cons r rs ih=>
  intro K hv;cases r with
  |tmp i=>
   obtain⟨vs,h1,h2⟩:=ih (show vresL P l h rs (fun vs=>K (gt l i::vs)) from hv);refine⟨_,?_,h2⟩;rw[mapO_cons];show(some (slot t i)).bind _=_;rw[ag.slots,Option.bind_some,h1];rfl
  |cell a ty=>
   obtain⟨b,off,e,hv⟩:=isPtr_iff (show isPtr (gt l a) (fun b off=>vload P h ty b off fun v=>vresL P l h rs fun vs=>K (v::vs)) from hv);obtain⟨v,h1,hv⟩:=vload_ok hv;obtain⟨vs,h2,h3⟩:=ih hv;refine⟨_,?_,h3⟩;rw[mapO_cons];have hr:resV P ⟨t,n,h⟩ (.cell a ty)=some v:=by
    simp only[resV];rw[ag.slots,e];simp only[bind];obtain⟨q,hq,h4⟩:=Option.bind_eq_some_iff.1 h1;rw[hq,Option.bind_some];cases q with
    |true=>exact h4
    |false=>
     obtain⟨c,hc,h5⟩:=Option.bind_eq_some_iff.1 h4;rw[hc];exact h5
   rw[hr,Option.bind_some,h2];rfl
theorem vres_ok {fn:Func}{t:Fr}{n:Nat}{l:LF}(ag:Ag t n l){h:Hp}{Q:Value→Hp→Prop}(hv:vres P fn l h Q): ∃v,resultsOf P fn ⟨t,n,h⟩=some v∧Q v h:=by
 obtain⟨vs,h1,h2⟩:=vresL_ok ag (show vresL P l h fn.results.toList _ from hv);have e:resultsOf P fn ⟨t,n,h⟩=(mapO (resV P ⟨t,n,h⟩) fn.results.toList).bind fun vs=>match vs with
  | [v]=>some v
  |vs=>some (.tuple vs.toArray):=rfl
 rw[e,h1,Option.bind_some]
 match vs,h2 with
 | [v],h2=>exact⟨v,rfl,h2⟩
 | [],h2=>exact⟨_,rfl,h2⟩
 |x::y::r,h2=>exact⟨_,rfl,h2⟩
theorem vfin_ok {fn:FinK}{e:Ex}(he:e= .normal∨e= .ret){t:Fr}{n:Nat}{l:LF}(ag:Ag t n l){h:Hp}{Q:Value→Hp→Prop}(hv:vfin P fn e l h Q): ∃v h',finOf P fn e ⟨t,n,h⟩=some (v,h')∧Q v h':=by
 cases fn with
 |fn f=>
  obtain⟨v,h1,h2⟩:=vres_ok ag (show vres P f l h Q from hv);refine⟨v,h,?_,h2⟩;rcases he with rfl|rfl<;>simp only[finOf,h1,Option.map_some]
 |rd L=>
  have hv:vout L e h Q:=hv;unfold vout at hv;split at hv
  · rename_i r hr;exact⟨r.1,r.2,hr,hv⟩
  · exact hv.elim
theorem RK.region {fn:FinK}{id:Nat}{ops:Array Oper}{draw:Bool}{k:List KI}{l:LF}{h:Hp}{K:LF→Hp→Prop}{Q:Value→Hp→Prop}(hv:vregion P O ops draw l h K)(hK: ∀l' h',K l' h'→RK P O fn k l' h' Q):RK P O fn (.code (.region id ops draw)::k) l h Q:=by
 refine⟨fun t n ag=> ?_⟩;obtain⟨m1,s1,l1,h1,h2,h3,h4⟩:=vregion_ok ag hv;obtain⟨m2,e,s',v,hv',h5,h6⟩:=(hK _ _ h4).run s1.t n h3;refine⟨max (m1+1) m2,e,s',v,hv',?_,h6⟩;have hev:ev P (evW P O m1 m1) (m1+1) (.region id ops draw) ⟨t,n,h⟩=some (.normal,s1):=by
  rw[ev_succ];simp only[h1,Option.map_some]
 show(ev P (evW P O (max (m1+1) m2) (max (m1+1) m2)) (max (m1+1) m2) (.region id ops draw) ⟨t,n,h⟩).bind (runStk P _ _ k)=_;rw[ev_mono (kk_le (Nat.le_trans (Nat.le_succ m1) (Nat.le_max_left ..))) (m1+1) _ (Nat.le_max_left ..) _ hev,Option.bind_some];refine runStk_mono (kk_le (Nat.le_max_right ..)) (Nat.le_max_right ..) k ?_;have:s1=⟨s1.t,n,s1.h⟩:=by rw[←h2]
 rw[this];exact h5
theorem V_ok {fn:FinK}{tb:List (Nat×List Nat)}{cuts:List Nat}{Q:Value→Hp→Prop}: ∀(n:Nat) {k:List KI} {l:LF} {h:Hp},V P O fn tb cuts Q n k l h→RK P O fn k l h Q:=by
 intro n
 induction n with
 |zero=>intro k l h hv;cases hv
 |succ n ih=>
  intro k l h hv
  match k,hv with
  | [],hv=>
    refine⟨fun t n' ag=> ?_⟩;obtain⟨v,h',h1,h2⟩:=vfin_ok (.inl rfl) ag (show vfin P fn .normal l h Q from hv);exact⟨0,.normal,_,v,h',rfl,h1,h2⟩
  | .beg L::k,hv=>
    have hv:vbeg L h fun h'=>V P O fn tb cuts Q n k l h':=hv;unfold vbeg at hv;split at hv
    · rename_i h1 hr;refine(ih hv).of fun t n' ag=>⟨t,n',ag,fun m r hr'=>⟨m,Nat.le_refl m,?_⟩⟩;show(roundIn L h).bind (fun h1=>runStk P _ m k (.normal,⟨t,n',h1⟩))=some r;rw[hr,Option.bind_some];exact hr'
    · exact hv.elim
  | .blk id::k,hv=>exact(ih (show V P O fn tb cuts Q n k l h from hv)).step fun cf m s r hr=>runStk_up hr
  | .scp id::k,hv=>exact(ih (show V P O fn tb cuts Q n k l h from hv)).step fun cf m s r hr=>runStk_up hr
  | .code c::k,hv=>
    cases c with
    |skip=>
     refine(ih (show V P O fn tb cuts Q n k l h from hv)).step fun cf m s r hr=> ?_;show(ev P cf (m+1) .skip s).bind _=_;rw[ev_succ];exact runStk_up hr
    |label lab=>
     refine(ih (show V P O fn tb cuts Q n k l h from hv)).step fun cf m s r hr=> ?_;show(ev P cf (m+1) (.label lab) s).bind _=_;rw[ev_succ];exact runStk_up hr
    |ret=>
     refine⟨fun t n' ag=> ?_⟩;obtain⟨hnb,hv⟩:=vreq_iff (show vreq (noBeg k) (vfin P fn .ret l h Q) from hv);obtain⟨v,h',h1,h2⟩:=vfin_ok (.inr rfl) ag hv;refine⟨1,.ret,_,v,h',?_,h1,h2⟩;show(ev P (evW P O 1 1) 1 .ret _).bind (runStk P (evW P O 1 1) 1 k)=_;rw[ev_succ];exact runStk_ret k hnb
    |exit id=>
     obtain⟨k',h1,hv⟩:=vsome_iff (show vsome (unwind id k) fun k'=>V P O fn tb cuts Q n k' l h from hv);refine(ih hv).step fun cf m s r hr=> ?_;show(ev P cf (m+1) (.exit id) s).bind _=_;rw[ev_succ];show runStk P cf (m+1) k (.exit id,s)=_;rw[runStk_exit k k' h1];exact runStk_up hr
    |goto lab=>
     obtain⟨k',h1,hv⟩:=vsome_iff (show vsome (unwindG lab k) fun k'=>V P O fn tb cuts Q n k' l h from hv);refine(ih hv).step fun cf m s r hr=> ?_;show(ev P cf (m+1) (.goto lab) s).bind _=_;rw[ev_succ];exact runStk_goto k k' h1 hr
    |seq a b=>
     refine(ih (show V P O fn tb cuts Q n (.code a:: .code b::k) l h from hv)).step fun cf m s r hr=> ?_;obtain⟨⟨e,s1⟩,h1,h2⟩:=Option.bind_eq_some_iff.1 (show(ev P cf m a s).bind (runStk P cf m (.code b::k))=some r from hr);show(ev P cf (m+1) (.seq a b) s).bind (runStk P cf (m+1) k)=some r;rw[ev_succ];simp only[h1,Option.bind_some];cases e with
     |normal=>
      obtain⟨q,h3,h4⟩:=Option.bind_eq_some_iff.1 (show(ev P cf m b s1).bind (runStk P cf m k)=some r from h2);simp only[h3,Option.bind_some];exact runStk_up h4
     |exit id=>exact runStk_up h2
     |ret=>exact runStk_up h2
     |goto lab=>exact runStk_up h2
    |block id b=>
     refine(ih (show V P O fn tb cuts Q n (.code b:: .blk id::k) l h from hv)).step fun cf m s r hr=> ?_;obtain⟨⟨e,s1⟩,h1,h2⟩:=Option.bind_eq_some_iff.1 (show(ev P cf m b s).bind (runStk P cf m (.blk id::k))=some r from hr);show(ev P cf (m+1) (.block id b) s).bind (runStk P cf (m+1) k)=some r;rw[ev_succ];simp only[h1,Option.map_some,Option.bind_some];cases e with
     |normal=>exact runStk_up h2
     |exit id'=>
      have h2:(bif Nat.beq id' id then runStk P cf m k (.normal,s1)else runStk P cf m k (.exit id',s1))=some r:=h2;simp only;cases hb:Nat.beq id' id with
      |true=>rw[hb]at h2;exact runStk_up h2
      |false=>rw[hb]at h2;exact runStk_up h2
     |ret=>exact runStk_up h2
     |goto lab=>exact runStk_up h2
    |scope b=>
     refine(ih (show V P O fn tb cuts Q n (.code b:: .scp b::k) l h from hv)).step2 fun cf m s r hr=> ?_;show(ev P cf (m+1+1) (.scope b) s).bind (runStk P cf (m+2) k)=some r;rw[ev_succ];obtain⟨q,h1,h2⟩:=scopeF_runStk hr;show(scopeF (ev P cf (m+1)) b (m+1) b s).bind _=_;rw[h1,Option.bind_some];exact runStk_up h2
    |loop b=>exact RKL.run (show RKL P O fn (.code (.loop b)::k) _ _ _ h Q from hv) l rfl rfl
    |cond c a b=>
     refine⟨fun t n' ag=> ?_⟩;obtain⟨v,h1,g⟩:=vop_ok ag (show vop P l c fun v=>isBool v fun q=>vcond q (V P O fn tb cuts Q n (.code a::k) (setB l c true) h) (V P O fn tb cuts Q n (.code b::k) (setB l c false) h) from hv);obtain⟨q,hvq,g1⟩:=isBool_iff g;subst hvq;have agB:Ag t n' (setB l c q):=by
      cases c with
      |tmp i=>exact ag.same (by rw[←ag.slots];exact Option.some.inj h1)
      |_=>exact ag
     have fin: ∀x l',Ag t n' l'→RK P O fn (.code x::k) l' h Q→(∀cf m,ev P cf (m+1) (.cond c a b) ⟨t,n',h⟩=ev P cf m x ⟨t,n',h⟩)→ ∃m e s' v h',runStk P (evW P O m m) m (.code (.cond c a b)::k) (.normal,⟨t,n',h⟩)=some (e,s')∧finOf P fn e s'=some (v,h')∧Q v h':=by
      intro x l' ag' hx he;obtain⟨m,e,s',v,hv',h2,h3⟩:=hx.run t n' ag';refine⟨m+1,e,s',v,hv',?_,h3⟩;obtain⟨r1,h4,h5⟩:=Option.bind_eq_some_iff.1 (show(ev P _ m x ⟨t,n',h⟩).bind (runStk P _ m k)=some (e,s') from h2);show(ev P _ (m+1) (.cond c a b) ⟨t,n',h⟩).bind (runStk P _ (m+1) k)=some (e,s');rw[he,ev_mono (kk_le (Nat.le_succ m)) m m (Nat.le_refl m) x h4,Option.bind_some];exact runStk_mono (kk_le (Nat.le_succ m)) (Nat.le_succ m) k h5
     rcases vcond_iff g1 with ⟨rfl,g2⟩|⟨rfl,g2⟩
     · exact fin a _ agB (ih g2) fun cf m=>by rw[ev_succ];simp only[h1,Option.bind_some]
     · exact fin b _ agB (ih g2) fun cf m=>by rw[ev_succ];simp only[h1,Option.bind_some]
    |region id ops draw=>
     have hv:(match cuts.any (Nat.beq id)with
      |true=>RKL P O fn (.code (.region id ops draw)::k) l.length (lvR tb id l.length) ((lvR tb id l.length).map (gt l)) h Q
      |false=>vregion P O ops draw l h fun l' h'=>V P O fn tb cuts Q n k l' h'):=hv
     split at hv
     · exact hv.run l rfl rfl
     · exact .region hv fun l' h' g=>ih g
    |rangeFunc g ps az b=>
     refine⟨fun t n' ag=> ?_⟩;obtain⟨gv,h1,g1⟩:=vop_ok ag (show vop P l g fun v=>isFn v fun gf first cap=>vreq (Nat.blt gf yB&&hasBody P gf) (∃h2:Hp,EvC P O gf (first++[yieldV h.nx]++cap) (h.add (.loop ⟨0,none,l,ps,az,b⟩)) undef h2∧vend h.nx h2 (fun h3=>V P O fn tb cuts Q n k l h3) (fun h3=>vreq (noBeg k) (vfin P fn .ret l h3 Q))) from hv);have et:tmpsOf ⟨t,n',h⟩=l:=by
      refine List.ext_getElem (by simp[tmpsOf,ag.len]) fun i h3 h4=> ?_;simp only[tmpsOf,List.getElem_map,List.getElem_range];rw[ag.slots,gt_eq,List.getD_eq_getElem?_getD,List.getElem?_eq_getElem h4];rfl
     rcases isFn_iff g1 with ⟨gf,first,cap,rfl,g2⟩|⟨L,fi,ca,rfl,_,g2⟩
     · obtain⟨hb,h2,⟨m1,hcall⟩,hend⟩:=vreq_iff g2;rw[Bool.and_eq_true]at hb;obtain⟨hgd,hend⟩:=vreq_iff hend;have hgd:h2.guarded h.nx=false:=by simpa using hgd
       have hput:h2.put h.nx none=some (h2.del h.nx):=by unfold Hp.put;rw[hgd];rfl
       have go: ∀e,(∃r,h2.get h.nx=some (.loop r)∧Nat.beq r.st 1=false∧exOf r.pend=some e)→ ∀m,m1≤m→ev P (evW P O m m) (m+1) (.rangeFunc g ps az b) ⟨t,n',h⟩=some (e,⟨t,n',h2.del h.nx⟩):=by
        rintro e ⟨r,hr,hst,he⟩ m hm;rw[ev_succ];simp only[h1,Option.bind_some,hb.2,cond_true,et];rw[show evW P O m m gf (first.toList++[Value.func (.yield h.nx) #[] #[]]++cap.toList) (h.add (.loop ⟨0,none,l,ps,az,b⟩))=some (undef,h2) from kk_le hm _ _ _ _ hcall,Option.bind_some];unfold afterLoop;simp only[hr,hst,cond_false,he,Option.bind_some,hput,Option.map_some]
       have pend: ∀p,h2.pend h.nx=some p→ ∃r,h2.get h.nx=some (.loop r)∧Nat.beq r.st 1=false∧r.pend=p:=fun p hp=>by
        unfold Hp.pend at hp;split at hp
        · rename_i r hr;cases hst:Nat.beq r.st 1 with
          |true=>rw[hst]at hp;cases hp
          |false=>rw[hst]at hp;exact⟨r,hr,hst,Option.some.inj hp⟩
        · cases hp
       split at hend
       · rename_i hp;obtain⟨r,h3,h4,h5⟩:=pend _ hp;obtain⟨m2,e,s',v,h',h6,h7⟩:=(ih hend).run t n' ag;refine⟨max m1 m2+1,e,s',v,h',?_,h7⟩;have hev:=go .normal ⟨r,h3,h4,by rw[h5];rfl⟩ (max m1 m2) (Nat.le_max_left ..);show(ev P _ (max m1 m2+1) (.rangeFunc g ps az b) ⟨t,n',h⟩).bind (runStk P _ _ k)=_;rw[ev_mono (kk_le (Nat.le_succ _)) _ _ (Nat.le_refl _) _ hev,Option.bind_some];exact runStk_mono (kk_le (Nat.le_trans (Nat.le_max_right m1 m2) (Nat.le_succ _))) (Nat.le_trans (Nat.le_max_right m1 m2) (Nat.le_succ _)) k h6
       · rename_i hp;obtain⟨r,h3,h4,h5⟩:=pend _ hp;obtain⟨hnb,hend⟩:=vreq_iff hend;obtain⟨v,h',h6,h7⟩:=vfin_ok (.inr rfl) ag hend;refine⟨m1+1,.ret,_,v,h',?_,h6,h7⟩;have hev:=go .ret ⟨r,h3,h4,by rw[h5];rfl⟩ m1 (Nat.le_refl _);show(ev P _ (m1+1) (.rangeFunc g ps az b) ⟨t,n',h⟩).bind (runStk P _ _ k)=_;rw[ev_mono (kk_le (Nat.le_succ _)) _ _ (Nat.le_refl _) _ hev,Option.bind_some];exact runStk_ret k hnb
       · exact hend.elim
     · obtain⟨hb,_⟩:=vreq_iff g2;rw[Bool.and_eq_true]at hb;have:yB+L<yB:=by simpa using hb.1
       omega
    |refuse w=>cases hv
def sub:List Nat→Code→Code
 | [],c=>c
 |i::p,c=>match c with
  | .seq a b=>match i with
    |0=>sub p a
    |_=>sub p b
  | .cond _ a b=>match i with
    |0=>sub p a
    |_=>sub p b
  | .block _ b=>sub p b
  | .loop b=>sub p b
  | .scope b=>sub p b
  | .rangeFunc _ _ a b=>match i with
    |0=>sub p a
    |_=>sub p b
  |c=>c
theorem V0_ok {fn:FinK}{tb:List (Nat×List Nat)}{cuts:List Nat}{Q:Value→Hp→Prop}{n:Nat}{k:List KI}{l:LF}{h:Hp}(hv:V0 P O fn tb cuts Q n k l h):RK P O fn k l h Q:=by
 unfold V0 at hv;split at hv
 · exact .loop (V_ok n hv)
 · exact .region hv fun l' h' g=>V_ok n g
 · exact V_ok n hv
theorem look_gt (l:LF): ∀ {is:List Nat} {vs:LF},is.map (gt l)=vs→ ∀i,look is vs i (gt l i)=gt l i:=by
 intro is
 induction is with
 |nil=>intro vs h i;subst h;rfl
 |cons j is ih=>
  intro vs h i;subst h;show(bif Nat.beq j i then gt l j else look is (is.map (gt l)) i (gt l i))=_;cases hb:Nat.beq j i with
  |true=>rw[Nat.eq_of_beq_eq_true hb];rfl
  |false=>exact ih rfl i
theorem spr_gt {is:List Nat}{vs l:LF}(hv:is.map (gt l)=vs): ∀(n i:Nat),i+n=l.length→spr is vs (gt l) n i=l.drop i:=by
 intro n
 induction n with
 |zero=>intro i hi;rw[List.drop_of_length_le (by omega)];rfl
 |succ n ih=>
  intro i hi;show look is vs i (gt l i)::spr is vs (gt l) n (i+1)=_;rw[look_gt l hv,ih (i+1) (by omega),List.drop_eq_getElem_cons (show i<l.length by omega)];congr 1;rw[gt_eq,List.getD_eq_getElem?_getD,List.getElem?_eq_getElem (by omega)];rfl
theorem RKL.of {fn:FinK}{k:List KI}{n:Nat}{is:List Nat}{vs:LF}{h:Hp}{Q:Value→Hp→Prop}{tb:List (Nat×List Nat)}{cuts:List Nat}(m:Nat)(hv: ∀w,V0 P O fn tb cuts Q m k (spr is vs w n 0) h):RKL P O fn k n is vs h Q:=
 ⟨fun l hl hm=>by
  have:=V0_ok (hv (gt l));rw[spr_gt hm n 0 (by omega)]at this;exact this⟩
theorem RKL.ofE {fn:FinK}{k:List KI}{n:Nat}{is:List Nat}{vs:LF}{h:Hp}{Q:Value→Hp→Prop}{tb:List (Nat×List Nat)}{cuts:List Nat}(m:Nat){T:Prop}(hh:T)(e: ∀w,T=V0 P O fn tb cuts Q m k (spr is vs w n 0) h):RKL P O fn k n is vs h Q:=
 .of (tb:=tb) (cuts:=cuts) m fun w=>Eq.mp (e w) hh
theorem V_okE {fn:FinK}{tb:List (Nat×List Nat)}{cuts:List Nat}{Q:Value→Hp→Prop}(n:Nat){k:List KI}{l:LF}{h:Hp}{T:Prop}(hh:T)(e:T=V P O fn tb cuts Q n k l h):RK P O fn k l h Q:=V_ok (tb:=tb) (cuts:=cuts) n (Eq.mp e hh)
def fr0 (n:Nat)(args:List Value):LF:=args++List.replicate (n-args.length) undef
theorem frame_ag (n:Nat)(args:List Value)(h:Hp):Ag (frame n args h).t (frame n args h).n (fr0 n args):=by
 have hm:(frame n args h).n=max n args.length:=rfl;have hf: ∀k,k<max n args.length→(Tr.full undef (max n args.length+1)).has k=true:=fun k hk=>Tr.has_full _ _ _ (by have:max n args.length+1<2^(max n args.length+1):=Nat.lt_two_pow_self;omega);obtain⟨h1,h2⟩:=argsIn_spec args 0 (Tr.full undef (max n args.length+1));refine⟨by rw[hm];simp[fr0];omega,fun i=> ?_,fun d hd=> ?_⟩
 · show slot (argsIn 0 args (Tr.full undef (max n args.length+1))) i=_;rw[h2,gt_eq,fr0];simp only[List.getD_eq_getElem?_getD,List.getElem?_append];by_cases hi:i<args.length
   · rw[if_pos ⟨Nat.zero_le _,by omega⟩,if_pos (hf i (by omega)),if_pos hi];simp
   · rw[if_neg (by omega),if_neg hi,List.getElem?_replicate];have e1:slot (Tr.full undef (max n args.length+1)) i=undef:=Tr.get_full ..;rw[e1];split<;>rfl
 · show(argsIn 0 args (Tr.full undef (max n args.length+1))).has d=true;rw[h1];exact hf d (by rw[hm]at hd;exact hd)
def Ret (P:Program)(O:CallF)(f:FuncId)(args:List Value)(h:Hp)(Q:Value→Hp→Prop):Prop:= ∃v h',EvC P O f args h v h'∧Q v h'
theorem Ret.of {f:FuncId}{fn:Func}{c:Code}(hf:P.funcs[f]? =some fn)(hb:fn.body=some c){args:List Value}{h:Hp}{Q:Value→Hp→Prop}(hO:O f args h=none)(hk:RK P O fn [.code c] (fr0 fn.ntmps args) h Q)(hlt:f<yB:=by decide):Ret P O f args h Q:=by
 obtain⟨m,e,s',v,h',h1,h2,h4⟩:=hk.run _ _ (frame_ag fn.ntmps args h);refine⟨v,h',⟨m+1,?_⟩,h4⟩;have hev:ev P (evW P O m m) m c (frame fn.ntmps args h)=some (e,s'):=by
  obtain⟨q,h5,h6⟩:=Option.bind_eq_some_iff.1 (show(ev P (evW P O m m) m c (frame fn.ntmps args h)).bind (fun r=>some r)=some (e,s') from h1);rw[h5];exact h6
 show(match O f args h with
  |some r=>some r
  |none=>evBody P (evW P O (m+1) m) (m+1) f args h)=_
 rw[hO];simp only[evBody,yB_f hlt,cond_false,hf,Option.bind_some,hb];rw[ev_mono (evW_mono (Nat.le_succ m) m m (Nat.le_refl m)) m (m+1) (Nat.le_succ m) c hev,Option.bind_some];exact h2
noncomputable def setPsL:List Tmp→List Value→LF→LF
 |p::ps,v::vs,l=>setPsL ps vs (setL l p v)
 |_,_,l=>l
theorem mkFr_ag (l:List Value):Ag (mkFr l) l.length l:=by
 have:=frame_ag 0 l ⟨.nil,0,[]⟩;have e1:(frame 0 l ⟨.nil,0,[]⟩).t=mkFr l:=by
  show argsIn 0 l (Tr.full undef (max 0 l.length+1))=_;rw[Nat.zero_max];rfl
 have e2:(frame 0 l ⟨.nil,0,[]⟩).n=l.length:=Nat.zero_max _;rw[e1,e2]at this;have e3:fr0 0 l=l:=by unfold fr0;rw[Nat.zero_sub];simp
 rw[e3]at this;exact this
theorem setPs_ag: ∀(ps:List Tmp) {vs:List Value} {t:Fr} {n:Nat} {l:LF},Ag t n l→(∀p∈ps,p<n)→Ag (setPs ps vs t) n (setPsL ps vs l):=by
 intro ps
 induction ps with
 |nil=>intro vs t n l ag _;exact ag
 |cons p ps ih=>
  intro vs t n l ag hp;cases vs with
  |nil=>exact ag
  |cons v vs=>
   refine ih (l:=setL l p v) ?_ fun q hq=>hp q (by simp[hq]);have:=Ag.put ag ⟨.nil,0,[]⟩ (some p) v;have e:(St.setT ⟨t,n,⟨.nil,0,[]⟩⟩ (some p) v)=t.set p v:=by
    show(bif Nat.blt p n then _ else _)=_;rw[show Nat.blt p n=true from by simpa using hp p (by simp)];rfl
   rw[e]at this;exact this
theorem Ret.round {L:Nat}{r:Lp}{args:List Value}{h:Hp}{Q:Value→Hp→Prop}(hO:O (yB+L) args h=none)(hg:h.get L=some (.loop r))(hc:(Nat.beq args.length r.ps.size&&r.ps.toList.all (fun p=>Nat.blt p r.t.length)&&noRange r.asg&&noRange r.body)=true)
 (hk:RK P O (.rd L) [.code r.asg,.beg L,.code r.body] (setPsL r.ps.toList args r.t) h Q):Ret P O (yB+L) args h Q:=by
 have hps: ∀p∈r.ps.toList,p<r.t.length:=fun p hp=>by
  rw[Bool.and_eq_true,Bool.and_eq_true,Bool.and_eq_true]at hc;simpa using List.all_eq_true.1 hc.1.1.2 p hp
 obtain⟨m,e,s',v,h',h1,h2,h4⟩:=hk.run _ _ (setPs_ag r.ps.toList (mkFr_ag r.t) hps);refine⟨v,h',⟨m+1,?_⟩,h4⟩;show(match O (yB+L) args h with
  |some r=>some r
  |none=>evBody P (evW P O (m+1) m) (m+1) (yB+L) args h)=_
 rw[hO];have hb:Nat.ble yB (yB+L)=true:=by simp
 simp only[evBody,hb,cond_true,Nat.add_sub_cancel_left];refine evRound_mono (evW_mono (Nat.le_succ m) m m (Nat.le_refl m)) (Nat.le_succ m) ?_;unfold evRound;simp only[hg,hc,cond_true];obtain⟨⟨e1,s1⟩,h5,h6⟩:=Option.bind_eq_some_iff.1 (show(ev P (evW P O m m) m r.asg ⟨setPs r.ps.toList args (mkFr r.t),r.t.length,h⟩).bind (runStk P (evW P O m m) m [.beg L,.code r.body])=some (e,s') from h1);rw[h5,Option.bind_some];cases e1 with
 |normal=>
  obtain⟨h7,h8,h9⟩:=Option.bind_eq_some_iff.1 (show(roundIn L s1.h).bind (fun h1=>runStk P (evW P O m m) m [.code r.body] (.normal,⟨s1.t,s1.n,h1⟩))=some (e,s') from h6);simp only[h8,Option.bind_some];obtain⟨q,h10,h11⟩:=Option.bind_eq_some_iff.1 (show(ev P (evW P O m m) m r.body ⟨s1.t,s1.n,h7⟩).bind (fun r=>some r)=some (e,s') from h9);obtain rfl:=Option.some.inj h11;rw[h10,Option.bind_some];exact h2
 |_=>cases h6
end
abbrev VQ:=Value→Hp→Prop
abbrev OA:=Option Addr
abbrev v46 (x y:Int)(s:ByteArray)(a:OA)(n c:Nat):List Value:=[.int .i64 x,.int .i64 y,.string s,.slice a n c]
abbrev w46 (x y:Int)(s:ByteArray)(a:OA)(n c:Nat):Array Value:=#[.int .i64 x,.int .i64 y,.string s,.slice a n c]
abbrev v24 (a:OA)(n c:Nat)(x:Int)(b:OA)(m d:Nat):List Value:=[.slice a n c,.int .i64 x,.slice b m d]
abbrev w24 (a:OA)(n c:Nat)(x:Int)(b:OA)(m d:Nat):Array Value:=#[.slice a n c,.int .i64 x,.slice b m d]
end Go.Ev
namespace Go.Proofs.YtngcjpkccnfjiaaGreatDoor
open Go Go.Ev
set_option maxRecDepth 100000
set_option linter.unusedVariables false
noncomputable def b92:Code:=(Tryz.f92.body).getD .skip
noncomputable def stk92_0:List KI:=[.code (sub [1,1,1,0,1,0] b92),.blk 0,.code (sub [1,1,1,1] b92)]
def lv92:List (Nat×List Nat):=[(0,[1,2,3,6,7])]
def I92_0 (O:CallF)(Q:VQ)(x0_0 x0_1:Int)(s0_2:ByteArray)(a0_3:OA)(n0_3 c0_3:Nat)(x1 x2 x1s:Int)(b3 f3:Nat)(x7:Int)(h:Hp):Prop:=RKL Tryz.prog O Tryz.f92 stk92_0 37 [1,2,3,6,7] [.int .i64 x1s,.int .i64 x2,.pointer (some ⟨b3,f3,none⟩),.int .i64 0,.int .i64 x7] h Q
def T92 (O:CallF)(Q:VQ)(x0_0 x0_1:Int)(s0_2:ByteArray)(a0_3:OA)(n0_3 c0_3:Nat)(x1 x2:Int)(h:Hp):Prop:=
 let g1:=h.add (.cells (v46 x0_0 x0_1 s0_2 a0_3 n0_3 c0_3) 46 .fix)
 vcond (ltI x1 1)
 (Q (.int .i64 (-1)) g1)
 (vcond (ltI x2 1)
 (Q (.int .i64 (-1)) g1)
 (I92_0 O Q x0_0 x0_1 s0_2 a0_3 n0_3 c0_3 x1 x2 (wrapF .i64 (x1-1)) h.nx 0 0 g1))
theorem rk92 {O Q} (x0_0 x0_1 s0_2 a0_3 n0_3 c0_3 x1 x2){h:Hp}(hO:O 92 [.agg (w46 x0_0 x0_1 s0_2 a0_3 n0_3 c0_3),.int .i64 x1,.int .i64 x2] h=none)(hh:T92 O Q x0_0 x0_1 s0_2 a0_3 n0_3 c0_3 x1 x2 h):Ret Tryz.prog O 92 [.agg (w46 x0_0 x0_1 s0_2 a0_3 n0_3 c0_3),.int .i64 x1,.int .i64 x2] h Q:=
 .of (c:=b92) Tryz.func92 (by kernel_rfl) hO (V_okE (tb:=lv92) (cuts:=[]) 500 hh (by kernel_rfl))
def T92_0 (O:CallF)(Q:VQ)(x0_0 x0_1:Int)(s0_2:ByteArray)(a0_3:OA)(n0_3 c0_3:Nat)(x1 x2 x1s:Int)(b3 f3:Nat)(x7:Int)(h:Hp):Prop:=
 ∃a101 n102 c103,readAt h b3 (f3+3) 1=some [.slice a101 n102 c103]∧
 vcond (ltI x7 (Int.ofNat n102))
 (vcond (!(ltI x1s 0))
 (∃a104 n105 c106,readAt h b3 (f3+3) 1=some [.slice a104 n105 c106]∧
 isNat x7 fun n107=>
 isAddr a104 fun b108 f109=>
 vreq (Nat.blt n107 n105)
 (∃x110 x111 s112 a113 n114 c115,readAt h b108 (f109+(n107*4)) 4=some (v46 x110 x111 s112 a113 n114 c115)∧
 ∃x116 h117,EvC Tryz.prog O 92 [.agg (w46 x110 x111 s112 a113 n114 c115),.int .i64 x1s,.int .i64 (wrapF .i64 (x2-1))] h (.int .i64 x116) h117∧
 I92_0 O Q x0_0 x0_1 s0_2 a0_3 n0_3 c0_3 x1 x2 x116 b3 f3 (wrapF .i64 (x7+1)) h117))
 (Q (.int .i64 x1s) h))
 (Q (.int .i64 x1s) h)
theorem I92_0.of {O Q} (x0_0 x0_1 s0_2 a0_3 n0_3 c0_3 x1 x2 x1s b3 f3 x7){h:Hp}(hh:T92_0 O Q x0_0 x0_1 s0_2 a0_3 n0_3 c0_3 x1 x2 x1s b3 f3 x7 h):I92_0 O Q x0_0 x0_1 s0_2 a0_3 n0_3 c0_3 x1 x2 x1s b3 f3 x7 h:=
 RKL.ofE (tb:=lv92) (cuts:=[]) 500 hh fun _=>by kernel_rfl
noncomputable def b93:Code:=(Tryz.f93.body).getD .skip
noncomputable def stk93_0:List KI:=[.code (sub [1,0,1,0] b93),.blk 0,.code (sub [1,1] b93)]
def lv93:List (Nat×List Nat):=[(0,[1,2,3])]
def I93_0 (O:CallF)(Q:VQ)(x0_0 x0_1:Int)(s0_2:ByteArray)(a0_3:OA)(n0_3 c0_3 b1 f1:Nat)(q2:Bool)(x3:Int)(h:Hp):Prop:=RKL Tryz.prog O Tryz.f93 stk93_0 22 [1,2,3] [.pointer (some ⟨b1,f1,none⟩),.bool q2,.int .i64 x3] h Q
def T93 (O:CallF)(Q:VQ)(x0_0 x0_1:Int)(s0_2:ByteArray)(a0_3:OA)(n0_3 c0_3:Nat)(h:Hp):Prop:=
 let g1:=h.add (.cells (v46 x0_0 x0_1 s0_2 a0_3 n0_3 c0_3) 46 .fix)
 I93_0 O Q x0_0 x0_1 s0_2 a0_3 n0_3 c0_3 h.nx 0 false 0 g1
theorem rk93 {O Q} (x0_0 x0_1 s0_2 a0_3 n0_3 c0_3){h:Hp}(hO:O 93 [.agg (w46 x0_0 x0_1 s0_2 a0_3 n0_3 c0_3)] h=none)(hh:T93 O Q x0_0 x0_1 s0_2 a0_3 n0_3 c0_3 h):Ret Tryz.prog O 93 [.agg (w46 x0_0 x0_1 s0_2 a0_3 n0_3 c0_3)] h Q:=
 .of (c:=b93) Tryz.func93 (by kernel_rfl) hO (V_okE (tb:=lv93) (cuts:=[]) 500 hh (by kernel_rfl))
def T93_0 (O:CallF)(Q:VQ)(x0_0 x0_1:Int)(s0_2:ByteArray)(a0_3:OA)(n0_3 c0_3 b1 f1:Nat)(q2:Bool)(x3:Int)(h:Hp):Prop:=
 ∃a101 n102 c103,readAt h b1 (f1+3) 1=some [.slice a101 n102 c103]∧
 vcond (ltI x3 (Int.ofNat n102))
 (∃a104 n105 c106,readAt h b1 (f1+3) 1=some [.slice a104 n105 c106]∧
 isNat x3 fun n107=>
 isAddr a104 fun b108 f109=>
 vreq (Nat.blt n107 n105)
 (∃x110 x111 s112 a113 n114 c115,readAt h b108 (f109+(n107*4)) 4=some (v46 x110 x111 s112 a113 n114 c115)∧
 ∃q116 h117,EvC Tryz.prog O 93 [.agg (w46 x110 x111 s112 a113 n114 c115)] h (.bool q116) h117∧
 vcond (!q116)
 (Q (.bool false) h117)
 (I93_0 O Q x0_0 x0_1 s0_2 a0_3 n0_3 c0_3 b1 f1 q2 (wrapF .i64 (x3+1)) h117)))
 (∃s118,readAt h b1 (f1+2) 1=some [.string s118]∧
 Q (.bool (!(ltI 30 (Int.ofNat (ByteArray.size s118))))) h)
theorem I93_0.of {O Q} (x0_0 x0_1 s0_2 a0_3 n0_3 c0_3 b1 f1 q2 x3){h:Hp}(hh:T93_0 O Q x0_0 x0_1 s0_2 a0_3 n0_3 c0_3 b1 f1 q2 x3 h):I93_0 O Q x0_0 x0_1 s0_2 a0_3 n0_3 c0_3 b1 f1 q2 x3 h:=
 RKL.ofE (tb:=lv93) (cuts:=[]) 500 hh fun _=>by kernel_rfl
noncomputable def b30:Code:=(Tryz.f30.body).getD .skip
def lv30:List (Nat×List Nat):=[]
def T30 (O:CallF)(Q:VQ)(x0_0 x0_1:Int)(s0_2:ByteArray)(a0_3:OA)(n0_3 c0_3:Nat)(h:Hp):Prop:=
 let g1:=h.add (.cells (v46 x0_0 x0_1 s0_2 a0_3 n0_3 c0_3) 46 .fix)
 ∃x2 x3 s4 a5 n6 c7,readAt g1 h.nx 0 4=some (v46 x2 x3 s4 a5 n6 c7)∧
 ∃x8 h9,EvC Tryz.prog O 92 [.agg (w46 x2 x3 s4 a5 n6 c7),.int .i64 260,.int .i64 12] g1 (.int .i64 x8) h9∧
 vcond (!(ltI x8 0))
 (∃x10 x11 s12 a13 n14 c15,readAt h9 h.nx 0 4=some (v46 x10 x11 s12 a13 n14 c15)∧
 ∃q16 h17,EvC Tryz.prog O 93 [.agg (w46 x10 x11 s12 a13 n14 c15)] h9 (.bool q16) h17∧
 Q (.bool q16) h17)
 (Q (.bool false) h9)
theorem rk30 {O Q} (x0_0 x0_1 s0_2 a0_3 n0_3 c0_3){h:Hp}(hO:O 30 [.agg (w46 x0_0 x0_1 s0_2 a0_3 n0_3 c0_3)] h=none)(hh:T30 O Q x0_0 x0_1 s0_2 a0_3 n0_3 c0_3 h):Ret Tryz.prog O 30 [.agg (w46 x0_0 x0_1 s0_2 a0_3 n0_3 c0_3)] h Q:=
 .of (c:=b30) Tryz.func30 (by kernel_rfl) hO (V_okE (tb:=lv30) (cuts:=[]) 500 hh (by kernel_rfl))
noncomputable def b154:Code:=(Tryz.f154.body).getD .skip
noncomputable def stk154_0:List KI:=[.code (sub [1,1,1,0,1,0] b154),.blk 0,.code (sub [1,1,1,1] b154)]
def lv154:List (Nat×List Nat):=[(0,[1,2,6,7,24,25,26])]
def I154_0 (O:CallF)(Q:VQ)(x0_0 x0_1:Int)(s0_2:ByteArray)(a0_3:OA)(n0_3 c0_3:Nat)(x1 x2:Int)(b6 f6 b7 f7:Nat)(a24:OA)(n24 c24:Nat)(x25 x26:Int)(h:Hp):Prop:=RKL Tryz.prog O Tryz.f154 stk154_0 65 [1,2,6,7,24,25,26] [.int .i64 x1,.int .i64 x2,.pointer (some ⟨b6,f6,none⟩),.pointer (some ⟨b7,f7,none⟩),.slice a24 n24 c24,.int .i64 x25,.int .i64 x26] h Q
def T154 (O:CallF)(Q:VQ)(x0_0 x0_1:Int)(s0_2:ByteArray)(a0_3:OA)(n0_3 c0_3:Nat)(x1 x2:Int)(h:Hp):Prop:=
 let g1:=h.add (.cells (v46 x0_0 x0_1 s0_2 a0_3 n0_3 c0_3) 46 .fix)
 let g2:=g1.add (.cells [.int .i64 0,.int .i64 0] 188 .fix)
 let g3:=g2.add (.cells [.int .i64 0,.int .i64 0] 188 .fix)
 vreq (canW g3 g2.nx 0 [.int .i64 1,.int .i64 0])
 (let g4:=g3.wr g2.nx 0 [.int .i64 1,.int .i64 0]
 vcond (ltI x1 1)
 (vreq (canW g4 g1.nx 0 [.int .i64 (wrapF .i64 (x1+1)),.int .i64 (wrapF .i64 (x2+1))])
 (let g5:=g4.wr g1.nx 0 [.int .i64 (wrapF .i64 (x1+1)),.int .i64 (wrapF .i64 (x2+1))]
 ∃x6 x7,readAt g5 g1.nx 0 2=some [.int .i64 x6,.int .i64 x7]∧
 Q (.agg #[.int .i64 x6,.int .i64 x7]) g5))
 (vcond (ltI x2 1)
 (vreq (canW g4 g1.nx 0 [.int .i64 (wrapF .i64 (x1+1)),.int .i64 (wrapF .i64 (x2+1))])
 (let g8:=g4.wr g1.nx 0 [.int .i64 (wrapF .i64 (x1+1)),.int .i64 (wrapF .i64 (x2+1))]
 ∃x9 x10,readAt g8 g1.nx 0 2=some [.int .i64 x9,.int .i64 x10]∧
 Q (.agg #[.int .i64 x9,.int .i64 x10]) g8))
 (∃a11 n12 c13,readAt g4 h.nx 3 1=some [.slice a11 n12 c13]∧
 I154_0 O Q x0_0 x0_1 s0_2 a0_3 n0_3 c0_3 x1 x2 g1.nx 0 g2.nx 0 a11 n12 c13 (Int.ofNat n12) 0 g4)))
theorem rk154 {O Q} (x0_0 x0_1 s0_2 a0_3 n0_3 c0_3 x1 x2){h:Hp}(hO:O 154 [.agg (w46 x0_0 x0_1 s0_2 a0_3 n0_3 c0_3),.int .i64 x1,.int .i64 x2] h=none)(hh:T154 O Q x0_0 x0_1 s0_2 a0_3 n0_3 c0_3 x1 x2 h):Ret Tryz.prog O 154 [.agg (w46 x0_0 x0_1 s0_2 a0_3 n0_3 c0_3),.int .i64 x1,.int .i64 x2] h Q:=
 .of (c:=b154) Tryz.func154 (by kernel_rfl) hO (V_okE (tb:=lv154) (cuts:=[]) 500 hh (by kernel_rfl))
def T154_0 (O:CallF)(Q:VQ)(x0_0 x0_1:Int)(s0_2:ByteArray)(a0_3:OA)(n0_3 c0_3:Nat)(x1 x2:Int)(b6 f6 b7 f7:Nat)(a24:OA)(n24 c24:Nat)(x25 x26:Int)(h:Hp):Prop:=
 vcond (ltI x26 x25)
 (isNat x26 fun n101=>
 isAddr a24 fun b102 f103=>
 vreq (Nat.blt n101 n24)
 (∃x104 x105 s106 a107 n108 c109,readAt h b102 (f103+(n101*4)) 4=some (v46 x104 x105 s106 a107 n108 c109)∧
 let g110:=h.add (.cells (v46 0 0 (ByteArray.mk #[]) none 0 0) 46 .fix)
 vreq (canW g110 h.nx 0 (v46 x104 x105 s106 a107 n108 c109))
 (let g111:=g110.wr h.nx 0 (v46 x104 x105 s106 a107 n108 c109)
 ∃x112 x113 s114 a115 n116 c117,readAt g111 h.nx 0 4=some (v46 x112 x113 s114 a115 n116 c117)∧
 ∃x118,readAt g111 b7 (f7+0) 1=some [.int .i64 x118]∧
 ∃x119 x120 h121,EvC Tryz.prog O 154 [.agg (w46 x112 x113 s114 a115 n116 c117),.int .i64 (wrapF .i64 (x1-x118)),.int .i64 (wrapF .i64 (x2-1))] g111 (.agg #[.int .i64 x119,.int .i64 x120]) h121∧
 let g122:=h121.add (.cells [.int .i64 0,.int .i64 0] 188 .fix)
 vreq (canW g122 h121.nx 0 [.int .i64 x119,.int .i64 x120])
 (let g123:=g122.wr h121.nx 0 [.int .i64 x119,.int .i64 x120]
 ∃x124,readAt g123 b7 (f7+0) 1=some [.int .i64 x124]∧
 ∃x125,readAt g123 h121.nx 0 1=some [.int .i64 x125]∧
 ∃x126,readAt g123 b7 (f7+1) 1=some [.int .i64 x126]∧
 ∃x127,readAt g123 h121.nx 1 1=some [.int .i64 x127]∧
 vreq (canW g123 b7 f7 [.int .i64 (wrapF .i64 (x124+x125)),.int .i64 (maxI x126 x127)])
 (let g128:=g123.wr b7 f7 [.int .i64 (wrapF .i64 (x124+x125)),.int .i64 (maxI x126 x127)]
 ∃x129,readAt g128 b7 (f7+0) 1=some [.int .i64 x129]∧
 vcond (ltI x1 x129)
 (vreq (canW g128 b6 f6 [.int .i64 (wrapF .i64 (x1+1)),.int .i64 (wrapF .i64 (x2+1))])
 (let g130:=g128.wr b6 f6 [.int .i64 (wrapF .i64 (x1+1)),.int .i64 (wrapF .i64 (x2+1))]
 ∃x131 x132,readAt g130 b6 f6 2=some [.int .i64 x131,.int .i64 x132]∧
 Q (.agg #[.int .i64 x131,.int .i64 x132]) g130))
 (I154_0 O Q x0_0 x0_1 s0_2 a0_3 n0_3 c0_3 x1 x2 b6 f6 b7 f7 a24 n24 c24 x25 (wrapF .i64 (x26+1)) g128))))))
 (∃x133,readAt h b7 (f7+0) 1=some [.int .i64 x133]∧
 ∃x134,readAt h b7 (f7+1) 1=some [.int .i64 x134]∧
 vreq (canW h b6 f6 [.int .i64 x133,.int .i64 (wrapF .i64 (x134+1))])
 (let g135:=h.wr b6 f6 [.int .i64 x133,.int .i64 (wrapF .i64 (x134+1))]
 ∃x136 x137,readAt g135 b6 f6 2=some [.int .i64 x136,.int .i64 x137]∧
 Q (.agg #[.int .i64 x136,.int .i64 x137]) g135))
theorem I154_0.of {O Q} (x0_0 x0_1 s0_2 a0_3 n0_3 c0_3 x1 x2 b6 f6 b7 f7 a24 n24 c24 x25 x26){h:Hp}(hh:T154_0 O Q x0_0 x0_1 s0_2 a0_3 n0_3 c0_3 x1 x2 b6 f6 b7 f7 a24 n24 c24 x25 x26 h):I154_0 O Q x0_0 x0_1 s0_2 a0_3 n0_3 c0_3 x1 x2 b6 f6 b7 f7 a24 n24 c24 x25 x26 h:=
 RKL.ofE (tb:=lv154) (cuts:=[]) 500 hh fun _=>by kernel_rfl
noncomputable def b146:Code:=(Tryz.f146.body).getD .skip
def lv146:List (Nat×List Nat):=[]
def T146 (O:CallF)(Q:VQ)(x0_0 x0_1:Int)(s0_2:ByteArray)(a0_3:OA)(n0_3 c0_3:Nat)(h:Hp):Prop:=
 let g1:=h.add (.cells (v46 x0_0 x0_1 s0_2 a0_3 n0_3 c0_3) 46 .fix)
 ∃x2 x3 s4 a5 n6 c7,readAt g1 h.nx 0 4=some (v46 x2 x3 s4 a5 n6 c7)∧
 ∃x8 x9 h10,EvC Tryz.prog O 154 [.agg (w46 x2 x3 s4 a5 n6 c7),.int .i64 200,.int .i64 8] g1 (.agg #[.int .i64 x8,.int .i64 x9]) h10∧
 let g11:=h10.add (.cells [.int .i64 0,.int .i64 0] 188 .fix)
 vreq (canW g11 h10.nx 0 [.int .i64 x8,.int .i64 x9])
 (let g12:=g11.wr h10.nx 0 [.int .i64 x8,.int .i64 x9]
 ∃x13,readAt g12 h10.nx 0 1=some [.int .i64 x13]∧
 vcond (!(ltI 200 x13))
 (∃x14,readAt g12 h10.nx 1 1=some [.int .i64 x14]∧
 Q (.bool (!(ltI 8 x14))) g12)
 (Q (.bool false) g12))
theorem rk146 {O Q} (x0_0 x0_1 s0_2 a0_3 n0_3 c0_3){h:Hp}(hO:O 146 [.agg (w46 x0_0 x0_1 s0_2 a0_3 n0_3 c0_3)] h=none)(hh:T146 O Q x0_0 x0_1 s0_2 a0_3 n0_3 c0_3 h):Ret Tryz.prog O 146 [.agg (w46 x0_0 x0_1 s0_2 a0_3 n0_3 c0_3)] h Q:=
 .of (c:=b146) Tryz.func146 (by kernel_rfl) hO (V_okE (tb:=lv146) (cuts:=[]) 500 hh (by kernel_rfl))
noncomputable def b155:Code:=(Tryz.f155.body).getD .skip
noncomputable def stk155_0:List KI:=[.code (sub [1,0,0,1,1,1,1,0] b155),.code (sub [1,0,0,1,1,1,1,1] b155),.blk 0,.code (sub [1,1] b155)]
noncomputable def stk155_1:List KI:=[.code (sub [1,0,0,1,1,1,1,1,1,1,1,0] b155),.code (sub [1,0,0,1,1,1,1,1,1,1,1,1] b155),.blk 0,.code (sub [1,1] b155)]
def lv155:List (Nat×List Nat):=[(1000005,[1,2]),(1000009,[1,2])]
def I155_0 (O:CallF)(Q:VQ)(x0_0 x0_1:Int)(s0_2:ByteArray)(a0_3:OA)(n0_3 c0_3 b1 f1:Nat)(v2:Value)(h:Hp):Prop:=RKL Tryz.prog O Tryz.f155 stk155_0 98 [1,2] [.pointer (some ⟨b1,f1,none⟩),v2] h Q
def I155_1 (O:CallF)(Q:VQ)(x0_0 x0_1:Int)(s0_2:ByteArray)(a0_3:OA)(n0_3 c0_3 b1 f1:Nat)(v2:Value)(h:Hp):Prop:=RKL Tryz.prog O Tryz.f155 stk155_1 98 [1,2] [.pointer (some ⟨b1,f1,none⟩),v2] h Q
def T155 (O:CallF)(Q:VQ)(x0_0 x0_1:Int)(s0_2:ByteArray)(a0_3:OA)(n0_3 c0_3:Nat)(h:Hp):Prop:=
 let g1:=h.add (.cells (v46 x0_0 x0_1 s0_2 a0_3 n0_3 c0_3) 46 .fix)
 ∃x2,readAt g1 h.nx 0 1=some [.int .i64 x2]∧
 vcond (eqI x2 1)
 (∃s3,readAt g1 h.nx 2 1=some [.string s3]∧
 vcond (sEq s3 (ByteArray.mk #[]))
 (∃a4 n5 c6,readAt g1 h.nx 3 1=some [.slice a4 n5 c6]∧
 vcond (eqI (Int.ofNat n5) 0)
 (∃x7,readAt g1 h.nx 1 1=some [.int .i64 x7]∧
 Q (.iface 196 (.agg #[.int .i64 x7])) g1)
 (∃x8,readAt g1 h.nx 0 1=some [.int .i64 x8]∧
 vcond (eqI x8 2)
 (∃s9,readAt g1 h.nx 2 1=some [.string s9]∧
 vcond (sEq s9 (ByteArray.mk #[]))
 (∃a10 n11 c12,readAt g1 h.nx 3 1=some [.slice a10 n11 c12]∧
 vcond (eqI (Int.ofNat n11) 0)
 (∃x13,readAt g1 h.nx 1 1=some [.int .i64 x13]∧
 Q (.iface 197 (.agg #[.int .i64 x13])) g1)
 (I155_0 O Q x0_0 x0_1 s0_2 a0_3 n0_3 c0_3 h.nx 0 .nilIface g1))
 (I155_0 O Q x0_0 x0_1 s0_2 a0_3 n0_3 c0_3 h.nx 0 .nilIface g1))
 (I155_0 O Q x0_0 x0_1 s0_2 a0_3 n0_3 c0_3 h.nx 0 .nilIface g1)))
 (∃x14,readAt g1 h.nx 0 1=some [.int .i64 x14]∧
 vcond (eqI x14 2)
 (∃s15,readAt g1 h.nx 2 1=some [.string s15]∧
 vcond (sEq s15 (ByteArray.mk #[]))
 (∃a16 n17 c18,readAt g1 h.nx 3 1=some [.slice a16 n17 c18]∧
 vcond (eqI (Int.ofNat n17) 0)
 (∃x19,readAt g1 h.nx 1 1=some [.int .i64 x19]∧
 Q (.iface 197 (.agg #[.int .i64 x19])) g1)
 (I155_0 O Q x0_0 x0_1 s0_2 a0_3 n0_3 c0_3 h.nx 0 .nilIface g1))
 (I155_0 O Q x0_0 x0_1 s0_2 a0_3 n0_3 c0_3 h.nx 0 .nilIface g1))
 (I155_0 O Q x0_0 x0_1 s0_2 a0_3 n0_3 c0_3 h.nx 0 .nilIface g1)))
 (∃x20,readAt g1 h.nx 0 1=some [.int .i64 x20]∧
 vcond (eqI x20 2)
 (∃s21,readAt g1 h.nx 2 1=some [.string s21]∧
 vcond (sEq s21 (ByteArray.mk #[]))
 (∃a22 n23 c24,readAt g1 h.nx 3 1=some [.slice a22 n23 c24]∧
 vcond (eqI (Int.ofNat n23) 0)
 (∃x25,readAt g1 h.nx 1 1=some [.int .i64 x25]∧
 Q (.iface 197 (.agg #[.int .i64 x25])) g1)
 (I155_0 O Q x0_0 x0_1 s0_2 a0_3 n0_3 c0_3 h.nx 0 .nilIface g1))
 (I155_0 O Q x0_0 x0_1 s0_2 a0_3 n0_3 c0_3 h.nx 0 .nilIface g1))
 (I155_0 O Q x0_0 x0_1 s0_2 a0_3 n0_3 c0_3 h.nx 0 .nilIface g1))
theorem rk155 {O Q} (x0_0 x0_1 s0_2 a0_3 n0_3 c0_3){h:Hp}(hO:O 155 [.agg (w46 x0_0 x0_1 s0_2 a0_3 n0_3 c0_3)] h=none)(hh:T155 O Q x0_0 x0_1 s0_2 a0_3 n0_3 c0_3 h):Ret Tryz.prog O 155 [.agg (w46 x0_0 x0_1 s0_2 a0_3 n0_3 c0_3)] h Q:=
 .of (c:=b155) Tryz.func155 (by kernel_rfl) hO (V_okE (tb:=lv155) (cuts:=[5,9]) 500 hh (by kernel_rfl))
def T155_0 (O:CallF)(Q:VQ)(x0_0 x0_1:Int)(s0_2:ByteArray)(a0_3:OA)(n0_3 c0_3 b1 f1:Nat)(v2:Value)(h:Hp):Prop:=
 ∃x101,readAt h b1 (f1+0) 1=some [.int .i64 x101]∧
 vcond (eqI x101 3)
 (∃x102,readAt h b1 (f1+1) 1=some [.int .i64 x102]∧
 vcond (eqI x102 0)
 (∃a103 n104 c105,readAt h b1 (f1+3) 1=some [.slice a103 n104 c105]∧
 vcond (eqI (Int.ofNat n104) 0)
 (∃s106,readAt h b1 (f1+2) 1=some [.string s106]∧
 Q (.iface 199 (.agg #[.string s106])) h)
 (∃x107,readAt h b1 (f1+0) 1=some [.int .i64 x107]∧
 vcond (eqI x107 4)
 (∃x108,readAt h b1 (f1+1) 1=some [.int .i64 x108]∧
 vcond (eqI x108 0)
 (∃s109,readAt h b1 (f1+2) 1=some [.string s109]∧
 vcond (sEq s109 (ByteArray.mk #[]))
 (∃a110 n111 c112,readAt h b1 (f1+3) 1=some [.slice a110 n111 c112]∧
 Q (.iface 201 (.agg #[.slice a110 n111 c112])) h)
 (I155_1 O Q x0_0 x0_1 s0_2 a0_3 n0_3 c0_3 b1 f1 v2 h))
 (I155_1 O Q x0_0 x0_1 s0_2 a0_3 n0_3 c0_3 b1 f1 v2 h))
 (I155_1 O Q x0_0 x0_1 s0_2 a0_3 n0_3 c0_3 b1 f1 v2 h)))
 (∃x113,readAt h b1 (f1+0) 1=some [.int .i64 x113]∧
 vcond (eqI x113 4)
 (∃x114,readAt h b1 (f1+1) 1=some [.int .i64 x114]∧
 vcond (eqI x114 0)
 (∃s115,readAt h b1 (f1+2) 1=some [.string s115]∧
 vcond (sEq s115 (ByteArray.mk #[]))
 (∃a116 n117 c118,readAt h b1 (f1+3) 1=some [.slice a116 n117 c118]∧
 Q (.iface 201 (.agg #[.slice a116 n117 c118])) h)
 (I155_1 O Q x0_0 x0_1 s0_2 a0_3 n0_3 c0_3 b1 f1 v2 h))
 (I155_1 O Q x0_0 x0_1 s0_2 a0_3 n0_3 c0_3 b1 f1 v2 h))
 (I155_1 O Q x0_0 x0_1 s0_2 a0_3 n0_3 c0_3 b1 f1 v2 h)))
 (∃x119,readAt h b1 (f1+0) 1=some [.int .i64 x119]∧
 vcond (eqI x119 4)
 (∃x120,readAt h b1 (f1+1) 1=some [.int .i64 x120]∧
 vcond (eqI x120 0)
 (∃s121,readAt h b1 (f1+2) 1=some [.string s121]∧
 vcond (sEq s121 (ByteArray.mk #[]))
 (∃a122 n123 c124,readAt h b1 (f1+3) 1=some [.slice a122 n123 c124]∧
 Q (.iface 201 (.agg #[.slice a122 n123 c124])) h)
 (I155_1 O Q x0_0 x0_1 s0_2 a0_3 n0_3 c0_3 b1 f1 v2 h))
 (I155_1 O Q x0_0 x0_1 s0_2 a0_3 n0_3 c0_3 b1 f1 v2 h))
 (I155_1 O Q x0_0 x0_1 s0_2 a0_3 n0_3 c0_3 b1 f1 v2 h))
theorem I155_0.of {O Q} (x0_0 x0_1 s0_2 a0_3 n0_3 c0_3 b1 f1 v2){h:Hp}(hh:T155_0 O Q x0_0 x0_1 s0_2 a0_3 n0_3 c0_3 b1 f1 v2 h):I155_0 O Q x0_0 x0_1 s0_2 a0_3 n0_3 c0_3 b1 f1 v2 h:=
 RKL.ofE (tb:=lv155) (cuts:=[5,9]) 500 hh fun _=>by kernel_rfl
def T155_1 (O:CallF)(Q:VQ)(x0_0 x0_1:Int)(s0_2:ByteArray)(a0_3:OA)(n0_3 c0_3 b1 f1:Nat)(v2:Value)(h:Hp):Prop:=
 ∃x201,readAt h b1 (f1+0) 1=some [.int .i64 x201]∧
 vcond (eqI x201 5)
 (∃x202,readAt h b1 (f1+1) 1=some [.int .i64 x202]∧
 vcond (eqI x202 0)
 (∃s203,readAt h b1 (f1+2) 1=some [.string s203]∧
 vcond (sEq s203 (ByteArray.mk #[]))
 (∃a204 n205 c206,readAt h b1 (f1+3) 1=some [.slice a204 n205 c206]∧
 Q (.iface 202 (.agg #[.slice a204 n205 c206])) h)
 (Q (.iface 204 (.agg #[])) h))
 (Q (.iface 204 (.agg #[])) h))
 (Q (.iface 204 (.agg #[])) h)
theorem I155_1.of {O Q} (x0_0 x0_1 s0_2 a0_3 n0_3 c0_3 b1 f1 v2){h:Hp}(hh:T155_1 O Q x0_0 x0_1 s0_2 a0_3 n0_3 c0_3 b1 f1 v2 h):I155_1 O Q x0_0 x0_1 s0_2 a0_3 n0_3 c0_3 b1 f1 v2 h:=
 RKL.ofE (tb:=lv155) (cuts:=[5,9]) 500 hh fun _=>by kernel_rfl
noncomputable def b158:Code:=(Tryz.f158.body).getD .skip
def lv158:List (Nat×List Nat):=[]
def T158 (O:CallF)(Q:VQ)(x0 x1 x2:Int)(h:Hp):Prop:=
 vcond (!(ltI x0 x1))
 (Q (.bool (!(ltI x2 x0))) h)
 (Q (.bool false) h)
theorem rk158 {O Q} (x0 x1 x2){h:Hp}(hO:O 158 [.int .i64 x0,.int .i64 x1,.int .i64 x2] h=none)(hh:T158 O Q x0 x1 x2 h):Ret Tryz.prog O 158 [.int .i64 x0,.int .i64 x1,.int .i64 x2] h Q:=
 .of (c:=b158) Tryz.func158 (by kernel_rfl) hO (V_okE (tb:=lv158) (cuts:=[]) 500 hh (by kernel_rfl))
noncomputable def b159:Code:=(Tryz.f159.body).getD .skip
noncomputable def stk159_0:List KI:=[.code (sub [1,0,1,0] b159),.blk 0,.code (sub [1,1] b159)]
def lv159:List (Nat×List Nat):=[(0,[0,2,6])]
def I159_0 (O:CallF)(Q:VQ)(s0 s0s:ByteArray)(q2:Bool)(b6 f6:Nat)(h:Hp):Prop:=RKL Tryz.prog O Tryz.f159 stk159_0 27 [0,2,6] [.string s0s,.bool q2,.pointer (some ⟨b6,f6,none⟩)] h Q
def T159 (O:CallF)(Q:VQ)(s0:ByteArray)(h:Hp):Prop:=
 let g1:=h.add (.siter s0 0)
 I159_0 O Q s0 s0 false h.nx 0 g1
theorem rk159 {O Q} (s0){h:Hp}(hO:O 159 [.string s0] h=none)(hh:T159 O Q s0 h):Ret Tryz.prog O 159 [.string s0] h Q:=
 .of (c:=b159) Tryz.func159 (by kernel_rfl) hO (V_okE (tb:=lv159) (cuts:=[]) 500 hh (by kernel_rfl))
def T159_0 (O:CallF)(Q:VQ)(s0 s0s:ByteArray)(q2:Bool)(b6 f6:Nat)(h:Hp):Prop:=
 vreq (Nat.beq f6 0)
 (∃s101 p102,h.get b6=some (.siter s101 p102)∧
 vcond (Nat.blt p102 (ByteArray.size s101))
 (∃h103,h.put b6 (some (.siter s101 (p102+(Utf8.decode s101 p102).2)))=some h103∧
 vcond (ltI (Utf8.decode s101 p102).1 32)
 (Q (.bool false) h103)
 (vcond (ltI 126 (Utf8.decode s101 p102).1)
 (Q (.bool false) h103)
 (vcond (eqI (Utf8.decode s101 p102).1 34)
 (Q (.bool false) h103)
 (vcond (eqI (Utf8.decode s101 p102).1 92)
 (Q (.bool false) h103)
 (I159_0 O Q s0 s0s q2 b6 f6 h103)))))
 (Q (.bool (!(ltI 20 (Int.ofNat (ByteArray.size s0s))))) h))
theorem I159_0.of {O Q} (s0 s0s q2 b6 f6){h:Hp}(hh:T159_0 O Q s0 s0s q2 b6 f6 h):I159_0 O Q s0 s0s q2 b6 f6 h:=
 RKL.ofE (tb:=lv159) (cuts:=[]) 500 hh fun _=>by kernel_rfl
noncomputable def b160:Code:=(Tryz.f160.body).getD .skip
def lv160:List (Nat×List Nat):=[]
def T160 (O:CallF)(Q:VQ)(x0_0 x0_1:Int)(s0_2:ByteArray)(a0_3:OA)(n0_3 c0_3:Nat)(x1_0 x1_1:Int)(s1_2:ByteArray)(a1_3:OA)(n1_3 c1_3:Nat)(h:Hp):Prop:=
 let g1:=h.add (.cells (v46 x0_0 x0_1 s0_2 a0_3 n0_3 c0_3) 46 .fix)
 let g2:=g1.add (.cells (v46 x1_0 x1_1 s1_2 a1_3 n1_3 c1_3) 46 .fix)
 ∃x3,readAt g2 h.nx 0 1=some [.int .i64 x3]∧
 ∃x4,readAt g2 g1.nx 0 1=some [.int .i64 x4]∧
 ∃x5 h6,EvC Tryz.prog O 162 [.int .i64 x3,.int .i64 x4] g2 (.int .i64 x5) h6∧
 vcond (!(eqI x5 0))
 (Q (.int .i64 x5) h6)
 (let g7:=h6.add (.cells [.nilFunc,.nilFunc,.nilFunc,.nilFunc,.nilFunc,.nilFunc] 211 .fix)
 vreq (canW g7 h6.nx 0 [.nilFunc,.func (.func 163) #[] #[],.func (.func 163) #[] #[],.func (.func 164) #[] #[],.func (.func 165) #[] #[],.func (.func 165) #[] #[]])
 (let g8:=g7.wr h6.nx 0 [.nilFunc,.func (.func 163) #[] #[],.func (.func 163) #[] #[],.func (.func 164) #[] #[],.func (.func 165) #[] #[],.func (.func 165) #[] #[]]
 ∃x9,readAt g8 h.nx 0 1=some [.int .i64 x9]∧
 vcond (ltI x9 1)
 (Q (.int .i64 0) g8)
 (∃x10,readAt g8 h.nx 0 1=some [.int .i64 x10]∧
 vcond (ltI 5 x10)
 (Q (.int .i64 0) g8)
 (let g11:=g8.rsv 9
 ∃x12,readAt g11 h.nx 0 1=some [.int .i64 x12]∧
 isNat x12 fun n13=>
 vreq (Nat.blt n13 6)
 (∃k14 fi15 ca16,readAt g11 h6.nx (0+(n13*1)) 1=some [.func (.func k14) fi15 ca16]∧
 ∃x17 x18 s19 a20 n21 c22,readAt g11 h.nx 0 4=some (v46 x17 x18 s19 a20 n21 c22)∧
 ∃x23 x24 s25 a26 n27 c28,readAt g11 g1.nx 0 4=some (v46 x23 x24 s25 a26 n27 c28)∧
 ∃x29 h30,EvC Tryz.prog O k14 (fi15.toList++[.agg #[.int .i64 x17,.int .i64 x18,.string s19,.slice a20 n21 c22,.int .i64 x23,.int .i64 x24,.string s25,.slice a26 n27 c28]]++ca16.toList) (g11.grd []) (.int .i64 x29) h30∧
 let g31:=h30.rst g11
 Q (.int .i64 x29) g31)))))
theorem rk160 {O Q} (x0_0 x0_1 s0_2 a0_3 n0_3 c0_3 x1_0 x1_1 s1_2 a1_3 n1_3 c1_3){h:Hp}(hO:O 160 [.agg (w46 x0_0 x0_1 s0_2 a0_3 n0_3 c0_3),.agg (w46 x1_0 x1_1 s1_2 a1_3 n1_3 c1_3)] h=none)(hh:T160 O Q x0_0 x0_1 s0_2 a0_3 n0_3 c0_3 x1_0 x1_1 s1_2 a1_3 n1_3 c1_3 h):Ret Tryz.prog O 160 [.agg (w46 x0_0 x0_1 s0_2 a0_3 n0_3 c0_3),.agg (w46 x1_0 x1_1 s1_2 a1_3 n1_3 c1_3)] h Q:=
 .of (c:=b160) Tryz.func160 (by kernel_rfl) hO (V_okE (tb:=lv160) (cuts:=[]) 500 hh (by kernel_rfl))
noncomputable def b147:Code:=(Tryz.f147.body).getD .skip
noncomputable def stk147_0:List KI:=[.code (sub [1,1,1,0,1,0,1,1,1,1,1,1,1,1,1,0,1,0,1,0] b147),.blk 1,.code (sub [1,1,1,0,1,0,1,1,1,1,1,1,1,1,1,0,1,1] b147),.blk 0,.code (sub [1,1,1,1] b147)]
def lv147:List (Nat×List Nat):=[(1,[2,8,9])]
def I147_0 (O:CallF)(Q:VQ)(x0_0 x0_1:Int)(s0_2:ByteArray)(a0_3:OA)(n0_3 c0_3:Nat)(q2:Bool)(b8 f8:Nat)(x9:Int)(h:Hp):Prop:=RKL Tryz.prog O Tryz.f147 stk147_0 64 [2,8,9] [.bool q2,.pointer (some ⟨b8,f8,none⟩),.int .i64 x9] h Q
def T147 (O:CallF)(Q:VQ)(x0_0 x0_1:Int)(s0_2:ByteArray)(a0_3:OA)(n0_3 c0_3:Nat)(h:Hp):Prop:=
 let g1:=h.add (.cells (v46 x0_0 x0_1 s0_2 a0_3 n0_3 c0_3) 46 .fix)
 ∃x2 x3 s4 a5 n6 c7,readAt g1 h.nx 0 4=some (v46 x2 x3 s4 a5 n6 c7)∧
 ∃v8 h9,EvC Tryz.prog O 155 [.agg (w46 x2 x3 s4 a5 n6 c7)] g1 v8 h9∧
 isIface v8 fun t10 w11=>
 vcond (Nat.beq t10 196)
 (∃x12,w11=(.agg #[.int .i64 x12])∧
 ∃a13 n14 c15 h16,EvC Tryz.prog O 188 [.agg #[.int .i64 x12]] h9 (.slice a13 n14 c15) h16∧
 ∃q17 h18,EvC Tryz.prog O 156 [.slice a13 n14 c15,.func (.func 157) #[] #[]] h16 (.bool q17) h18∧
 vcond q17
 (Q (.bool false) h18)
 (let g19:=h18.add (.cells [.int .i64 0] 196 .fix)
 vreq (canW g19 h18.nx 0 [.int .i64 x12])
 (let g20:=g19.wr h18.nx 0 [.int .i64 x12]
 ∃x21,readAt g20 h18.nx 0 1=some [.int .i64 x21]∧
 ∃q22 h23,EvC Tryz.prog O 158 [.int .i64 x21,.int .i64 (-1000000000),.int .i64 1000000000] g20 (.bool q22) h23∧
 Q (.bool q22) h23)))
 (vcond (Nat.beq t10 197)
 (∃x24,w11=(.agg #[.int .i64 x24])∧
 ∃a25 n26 c27 h28,EvC Tryz.prog O 189 [.agg #[.int .i64 x24]] h9 (.slice a25 n26 c27) h28∧
 ∃q29 h30,EvC Tryz.prog O 156 [.slice a25 n26 c27,.func (.func 157) #[] #[]] h28 (.bool q29) h30∧
 vcond q29
 (Q (.bool false) h30)
 (let g31:=h30.add (.cells [.int .i64 0] 197 .fix)
 vreq (canW g31 h30.nx 0 [.int .i64 x24])
 (let g32:=g31.wr h30.nx 0 [.int .i64 x24]
 ∃x33,readAt g32 h30.nx 0 1=some [.int .i64 x33]∧
 ∃q34 h35,EvC Tryz.prog O 158 [.int .i64 x33,.int .i64 0,.int .i64 1] g32 (.bool q34) h35∧
 Q (.bool q34) h35)))
 (vcond (Nat.beq t10 199)
 (∃s36,w11=(.agg #[.string s36])∧
 ∃a37 n38 c39 h40,EvC Tryz.prog O 190 [.agg #[.string s36]] h9 (.slice a37 n38 c39) h40∧
 ∃q41 h42,EvC Tryz.prog O 156 [.slice a37 n38 c39,.func (.func 157) #[] #[]] h40 (.bool q41) h42∧
 vcond q41
 (Q (.bool false) h42)
 (let g43:=h42.add (.cells [.string (ByteArray.mk #[])] 199 .fix)
 vreq (canW g43 h42.nx 0 [.string s36])
 (let g44:=g43.wr h42.nx 0 [.string s36]
 ∃s45,readAt g44 h42.nx 0 1=some [.string s45]∧
 ∃q46 h47,EvC Tryz.prog O 159 [.string s45] g44 (.bool q46) h47∧
 Q (.bool q46) h47)))
 (vcond (Nat.beq t10 201)
 (∃a48 n49 c50,w11=(.agg #[.slice a48 n49 c50])∧
 ∃a51 n52 c53 h54,EvC Tryz.prog O 191 [.agg #[.slice a48 n49 c50]] h9 (.slice a51 n52 c53) h54∧
 ∃q55 h56,EvC Tryz.prog O 156 [.slice a51 n52 c53,.func (.func 157) #[] #[]] h54 (.bool q55) h56∧
 vcond q55
 (Q (.bool false) h56)
 (let g57:=h56.add (.cells [.slice none 0 0] 201 .fix)
 vreq (canW g57 h56.nx 0 [.slice a48 n49 c50])
 (let g58:=g57.wr h56.nx 0 [.slice a48 n49 c50]
 ∃a59 n60 c61,readAt g58 h56.nx 0 1=some [.slice a59 n60 c61]∧
 ∃q62 h63,EvC Tryz.prog O 158 [.int .i64 (Int.ofNat n60),.int .i64 2,.int .i64 6] g58 (.bool q62) h63∧
 Q (.bool q62) h63)))
 (vcond (Nat.beq t10 202)
 (∃a64 n65 c66,w11=(.agg #[.slice a64 n65 c66])∧
 ∃a67 n68 c69 h70,EvC Tryz.prog O 192 [.agg #[.slice a64 n65 c66]] h9 (.slice a67 n68 c69) h70∧
 ∃q71 h72,EvC Tryz.prog O 156 [.slice a67 n68 c69,.func (.func 157) #[] #[]] h70 (.bool q71) h72∧
 vcond q71
 (Q (.bool false) h72)
 (let g73:=h72.add (.cells [.slice none 0 0] 202 .fix)
 vreq (canW g73 h72.nx 0 [.slice a64 n65 c66])
 (let g74:=g73.wr h72.nx 0 [.slice a64 n65 c66]
 I147_0 O Q x0_0 x0_1 s0_2 a0_3 n0_3 c0_3 false h72.nx 0 1 g74)))
 (vcond (Nat.beq t10 204)
 (w11=(.agg #[])∧
 ∃a75 n76 c77 h78,EvC Tryz.prog O 193 [.agg #[]] h9 (.slice a75 n76 c77) h78∧
 ∃q79 h80,EvC Tryz.prog O 156 [.slice a75 n76 c77,.func (.func 157) #[] #[]] h78 (.bool q79) h80∧
 vcond q79
 (Q (.bool false) h80)
 (Q (.bool false) h80))
 (Fls))))))
theorem rk147 {O Q} (x0_0 x0_1 s0_2 a0_3 n0_3 c0_3){h:Hp}(hO:O 147 [.agg (w46 x0_0 x0_1 s0_2 a0_3 n0_3 c0_3)] h=none)(hh:T147 O Q x0_0 x0_1 s0_2 a0_3 n0_3 c0_3 h):Ret Tryz.prog O 147 [.agg (w46 x0_0 x0_1 s0_2 a0_3 n0_3 c0_3)] h Q:=
 .of (c:=b147) Tryz.func147 (by kernel_rfl) hO (V_okE (tb:=lv147) (cuts:=[]) 500 hh (by kernel_rfl))
def T147_0 (O:CallF)(Q:VQ)(x0_0 x0_1:Int)(s0_2:ByteArray)(a0_3:OA)(n0_3 c0_3:Nat)(q2:Bool)(b8 f8:Nat)(x9:Int)(h:Hp):Prop:=
 ∃a101 n102 c103,readAt h b8 (f8+0) 1=some [.slice a101 n102 c103]∧
 vcond (ltI x9 (Int.ofNat n102))
 (let g104:=h.rsv 13
 ∃a105 n106 c107,readAt g104 b8 (f8+0) 1=some [.slice a105 n106 c107]∧
 isNat (wrapF .i64 (x9-1)) fun n108=>
 isAddr a105 fun b109 f110=>
 vreq (Nat.blt n108 n106)
 (∃x111 x112 s113 a114 n115 c116,readAt g104 b109 (f110+(n108*4)) 4=some (v46 x111 x112 s113 a114 n115 c116)∧
 ∃a117 n118 c119,readAt g104 b8 (f8+0) 1=some [.slice a117 n118 c119]∧
 isNat x9 fun n120=>
 isAddr a117 fun b121 f122=>
 vreq (Nat.blt n120 n118)
 (∃x123 x124 s125 a126 n127 c128,readAt g104 b121 (f122+(n120*4)) 4=some (v46 x123 x124 s125 a126 n127 c128)∧
 ∃x129 h130,EvC Tryz.prog O 160 [.agg (w46 x111 x112 s113 a114 n115 c116),.agg (w46 x123 x124 s125 a126 n127 c128)] (g104.grd []) (.int .i64 x129) h130∧
 let g131:=h130.rst g104
 vcond (!(ltI x129 0))
 (Q (.bool false) g131)
 (I147_0 O Q x0_0 x0_1 s0_2 a0_3 n0_3 c0_3 q2 b8 f8 (wrapF .i64 (x9+1)) g131))))
 (Q (.bool true) h)
theorem I147_0.of {O Q} (x0_0 x0_1 s0_2 a0_3 n0_3 c0_3 q2 b8 f8 x9){h:Hp}(hh:T147_0 O Q x0_0 x0_1 s0_2 a0_3 n0_3 c0_3 q2 b8 f8 x9 h):I147_0 O Q x0_0 x0_1 s0_2 a0_3 n0_3 c0_3 q2 b8 f8 x9 h:=
 RKL.ofE (tb:=lv147) (cuts:=[]) 500 hh fun _=>by kernel_rfl
noncomputable def b157:Code:=(Tryz.f157.body).getD .skip
def lv157:List (Nat×List Nat):=[]
def T157 (O:CallF)(Q:VQ)(x0_0 x0_1:Int)(s0_2:ByteArray)(a0_3:OA)(n0_3 c0_3:Nat)(h:Hp):Prop:=
 let g1:=h.add (.cells (v46 x0_0 x0_1 s0_2 a0_3 n0_3 c0_3) 46 .fix)
 ∃x2 x3 s4 a5 n6 c7,readAt g1 h.nx 0 4=some (v46 x2 x3 s4 a5 n6 c7)∧
 ∃q8 h9,EvC Tryz.prog O 147 [.agg (w46 x2 x3 s4 a5 n6 c7)] g1 (.bool q8) h9∧
 Q (.bool (!q8)) h9
theorem rk157 {O Q} (x0_0 x0_1 s0_2 a0_3 n0_3 c0_3){h:Hp}(hO:O 157 [.agg (w46 x0_0 x0_1 s0_2 a0_3 n0_3 c0_3)] h=none)(hh:T157 O Q x0_0 x0_1 s0_2 a0_3 n0_3 c0_3 h):Ret Tryz.prog O 157 [.agg (w46 x0_0 x0_1 s0_2 a0_3 n0_3 c0_3)] h Q:=
 .of (c:=b157) Tryz.func157 (by kernel_rfl) hO (V_okE (tb:=lv157) (cuts:=[]) 500 hh (by kernel_rfl))
noncomputable def b156:Code:=(Tryz.f156.body).getD .skip
def lv156:List (Nat×List Nat):=[]
def T156 (O:CallF)(Q:VQ)(a0:OA)(n0 c0 g1:Nat)(fi1 ca1:Array Value)(h:Hp):Prop:=
 ∃x1 h2,EvC Tryz.prog O 161 [.slice a0 n0 c0,.func (.func g1) fi1 ca1] h (.int .i64 x1) h2∧
 Q (.bool (!(ltI x1 0))) h2
theorem rk156 {O Q} (a0 n0 c0 g1 fi1 ca1){h:Hp}(hO:O 156 [.slice a0 n0 c0,.func (.func g1) fi1 ca1] h=none)(hh:T156 O Q a0 n0 c0 g1 fi1 ca1 h):Ret Tryz.prog O 156 [.slice a0 n0 c0,.func (.func g1) fi1 ca1] h Q:=
 .of (c:=b156) Tryz.func156 (by kernel_rfl) hO (V_okE (tb:=lv156) (cuts:=[]) 500 hh (by kernel_rfl))
noncomputable def b161:Code:=(Tryz.f161.body).getD .skip
noncomputable def stk161_0:List KI:=[.code (sub [1,0,1,0] b161),.blk 0,.code (sub [1,1] b161)]
def lv161:List (Nat×List Nat):=[(0,[0,1,4,7,8])]
def I161_0 (O:CallF)(Q:VQ)(a0:OA)(n0 c0 g1:Nat)(fi1 ca1:Array Value)(g1s:Nat)(fi1s ca1s:Array Value)(x4 x8:Int)(h:Hp):Prop:=RKL Tryz.prog O Tryz.f161 stk161_0 19 [0,1,4,7,8] [.slice a0 n0 c0,.func (.func g1s) fi1s ca1s,.int .i64 x4,.int .i64 (Int.ofNat n0),.int .i64 x8] h Q
def T161 (O:CallF)(Q:VQ)(a0:OA)(n0 c0 g1:Nat)(fi1 ca1:Array Value)(h:Hp):Prop:=
 I161_0 O Q a0 n0 c0 g1 fi1 ca1 g1 fi1 ca1 0 0 h
theorem rk161 {O Q} (a0 n0 c0 g1 fi1 ca1){h:Hp}(hO:O 161 [.slice a0 n0 c0,.func (.func g1) fi1 ca1] h=none)(hh:T161 O Q a0 n0 c0 g1 fi1 ca1 h):Ret Tryz.prog O 161 [.slice a0 n0 c0,.func (.func g1) fi1 ca1] h Q:=
 .of (c:=b161) Tryz.func161 (by kernel_rfl) hO (V_okE (tb:=lv161) (cuts:=[]) 500 hh (by kernel_rfl))
def T161_0 (O:CallF)(Q:VQ)(a0:OA)(n0 c0 g1:Nat)(fi1 ca1:Array Value)(g1s:Nat)(fi1s ca1s:Array Value)(x4 x8:Int)(h:Hp):Prop:=
 vcond (ltI x8 (Int.ofNat n0))
 (isNat x8 fun n101=>
 isAddr a0 fun b102 f103=>
 vreq (Nat.blt n101 n0)
 (∃x104 x105 s106 a107 n108 c109,readAt h b102 (f103+(n101*4)) 4=some (v46 x104 x105 s106 a107 n108 c109)∧
 ∃q110 h111,EvC Tryz.prog O g1s (fi1s.toList++[.agg (w46 x104 x105 s106 a107 n108 c109)]++ca1s.toList) h (.bool q110) h111∧
 vcond q110
 (Q (.int .i64 x8) h111)
 (I161_0 O Q a0 n0 c0 g1 fi1 ca1 g1s fi1s ca1s x4 (wrapF .i64 (x8+1)) h111)))
 (Q (.int .i64 (-1)) h)
theorem I161_0.of {O Q} (a0 n0 c0 g1 fi1 ca1 g1s fi1s ca1s x4 x8){h:Hp}(hh:T161_0 O Q a0 n0 c0 g1 fi1 ca1 g1s fi1s ca1s x4 x8 h):I161_0 O Q a0 n0 c0 g1 fi1 ca1 g1s fi1s ca1s x4 x8 h:=
 RKL.ofE (tb:=lv161) (cuts:=[]) 500 hh fun _=>by kernel_rfl
noncomputable def b162:Code:=(Tryz.f162.body).getD .skip
def lv162:List (Nat×List Nat):=[]
def T162 (O:CallF)(Q:VQ)(x0 x1:Int)(h:Hp):Prop:=
 ∃q1 h2,EvC Tryz.prog O 166 [.int .i64 x0] h (.bool q1) h2∧
 ∃q3 h4,EvC Tryz.prog O 166 [.int .i64 x1] h2 (.bool q3) h4∧
 vcond q1
 (vcond q3
 (Q (.int .i64 0) h4)
 (Q (.int .i64 (-1)) h4))
 (vcond q3
 (Q (.int .i64 1) h4)
 (vcond (ltI x0 x1)
 (Q (.int .i64 (-1)) h4)
 (vcond (ltI x1 x0)
 (Q (.int .i64 1) h4)
 (Q (.int .i64 0) h4))))
theorem rk162 {O Q} (x0 x1){h:Hp}(hO:O 162 [.int .i64 x0,.int .i64 x1] h=none)(hh:T162 O Q x0 x1 h):Ret Tryz.prog O 162 [.int .i64 x0,.int .i64 x1] h Q:=
 .of (c:=b162) Tryz.func162 (by kernel_rfl) hO (V_okE (tb:=lv162) (cuts:=[]) 500 hh (by kernel_rfl))
noncomputable def b163:Code:=(Tryz.f163.body).getD .skip
def lv163:List (Nat×List Nat):=[]
def T163 (O:CallF)(Q:VQ)(v0:Array Value)(h:Hp):Prop:=
 vreq (v0.toList.all one)
 (let g1:=h.add (.cells v0.toList 210 .fix)
 ∃x2,readAt g1 h.nx 1 1=some [.int .i64 x2]∧
 ∃x3,readAt g1 h.nx 5 1=some [.int .i64 x3]∧
 ∃x4 h5,EvC Tryz.prog O 167 [.int .i64 x2,.int .i64 x3] g1 (.int .i64 x4) h5∧
 Q (.int .i64 x4) h5)
theorem rk163 {O Q} (v0){h:Hp}(hO:O 163 [.agg v0] h=none)(hh:T163 O Q v0 h):Ret Tryz.prog O 163 [.agg v0] h Q:=
 .of (c:=b163) Tryz.func163 (by kernel_rfl) hO (V_okE (tb:=lv163) (cuts:=[]) 500 hh (by kernel_rfl))
noncomputable def b164:Code:=(Tryz.f164.body).getD .skip
def lv164:List (Nat×List Nat):=[]
def T164 (O:CallF)(Q:VQ)(v0:Array Value)(h:Hp):Prop:=
 vreq (v0.toList.all one)
 (let g1:=h.add (.cells v0.toList 210 .fix)
 ∃s2,readAt g1 h.nx 2 1=some [.string s2]∧
 ∃s3,readAt g1 h.nx 6 1=some [.string s3]∧
 ∃x4 h5,EvC Tryz.prog O 168 [.string s2,.string s3] g1 (.int .i64 x4) h5∧
 Q (.int .i64 x4) h5)
theorem rk164 {O Q} (v0){h:Hp}(hO:O 164 [.agg v0] h=none)(hh:T164 O Q v0 h):Ret Tryz.prog O 164 [.agg v0] h Q:=
 .of (c:=b164) Tryz.func164 (by kernel_rfl) hO (V_okE (tb:=lv164) (cuts:=[]) 500 hh (by kernel_rfl))
noncomputable def b165:Code:=(Tryz.f165.body).getD .skip
def lv165:List (Nat×List Nat):=[]
def T165 (O:CallF)(Q:VQ)(v0:Array Value)(h:Hp):Prop:=
 vreq (v0.toList.all one)
 (let g1:=h.add (.cells v0.toList 210 .fix)
 ∃a2 n3 c4,readAt g1 h.nx 3 1=some [.slice a2 n3 c4]∧
 ∃a5 n6 c7,readAt g1 h.nx 7 1=some [.slice a5 n6 c7]∧
 ∃x8 h9,EvC Tryz.prog O 167 [.int .i64 (Int.ofNat n3),.int .i64 (Int.ofNat n6)] g1 (.int .i64 x8) h9∧
 vcond (!(eqI x8 0))
 (Q (.int .i64 x8) h9)
 (∃a10 n11 c12,readAt h9 h.nx 3 1=some [.slice a10 n11 c12]∧
 ∃a13 n14 c15,readAt h9 h.nx 7 1=some [.slice a13 n14 c15]∧
 ∃x16 h17,EvC Tryz.prog O 169 [.slice a10 n11 c12,.slice a13 n14 c15,.func (.func 160) #[] #[]] h9 (.int .i64 x16) h17∧
 Q (.int .i64 x16) h17))
theorem rk165 {O Q} (v0){h:Hp}(hO:O 165 [.agg v0] h=none)(hh:T165 O Q v0 h):Ret Tryz.prog O 165 [.agg v0] h Q:=
 .of (c:=b165) Tryz.func165 (by kernel_rfl) hO (V_okE (tb:=lv165) (cuts:=[]) 500 hh (by kernel_rfl))
noncomputable def b166:Code:=(Tryz.f166.body).getD .skip
def lv166:List (Nat×List Nat):=[]
def T166 (O:CallF)(Q:VQ)(x0:Int)(h:Hp):Prop:=
 Q (.bool (!(eqI x0 x0))) h
theorem rk166 {O Q} (x0){h:Hp}(hO:O 166 [.int .i64 x0] h=none)(hh:T166 O Q x0 h):Ret Tryz.prog O 166 [.int .i64 x0] h Q:=
 .of (c:=b166) Tryz.func166 (by kernel_rfl) hO (V_okE (tb:=lv166) (cuts:=[]) 500 hh (by kernel_rfl))
noncomputable def b167:Code:=(Tryz.f167.body).getD .skip
def lv167:List (Nat×List Nat):=[]
def T167 (O:CallF)(Q:VQ)(x0 x1:Int)(h:Hp):Prop:=
 ∃q1 h2,EvC Tryz.prog O 170 [.int .i64 x0] h (.bool q1) h2∧
 ∃q3 h4,EvC Tryz.prog O 170 [.int .i64 x1] h2 (.bool q3) h4∧
 vcond q1
 (vcond q3
 (Q (.int .i64 0) h4)
 (Q (.int .i64 (-1)) h4))
 (vcond q3
 (Q (.int .i64 1) h4)
 (vcond (ltI x0 x1)
 (Q (.int .i64 (-1)) h4)
 (vcond (ltI x1 x0)
 (Q (.int .i64 1) h4)
 (Q (.int .i64 0) h4))))
theorem rk167 {O Q} (x0 x1){h:Hp}(hO:O 167 [.int .i64 x0,.int .i64 x1] h=none)(hh:T167 O Q x0 x1 h):Ret Tryz.prog O 167 [.int .i64 x0,.int .i64 x1] h Q:=
 .of (c:=b167) Tryz.func167 (by kernel_rfl) hO (V_okE (tb:=lv167) (cuts:=[]) 500 hh (by kernel_rfl))
noncomputable def b168:Code:=(Tryz.f168.body).getD .skip
def lv168:List (Nat×List Nat):=[]
def T168 (O:CallF)(Q:VQ)(s0 s1:ByteArray)(h:Hp):Prop:=
 ∃x1 h2,EvC Tryz.prog O 171 [.string s0,.string s1] h (.int .i64 x1) h2∧
 Q (.int .i64 x1) h2
theorem rk168 {O Q} (s0 s1){h:Hp}(hO:O 168 [.string s0,.string s1] h=none)(hh:T168 O Q s0 s1 h):Ret Tryz.prog O 168 [.string s0,.string s1] h Q:=
 .of (c:=b168) Tryz.func168 (by kernel_rfl) hO (V_okE (tb:=lv168) (cuts:=[]) 500 hh (by kernel_rfl))
noncomputable def b169:Code:=(Tryz.f169.body).getD .skip
noncomputable def stk169_0:List KI:=[.code (sub [1,0,1,0] b169),.blk 0,.code (sub [1,1] b169)]
def lv169:List (Nat×List Nat):=[(0,[0,1,2,6,11,12,13])]
def I169_0 (O:CallF)(Q:VQ)(a0:OA)(n0 c0:Nat)(a1:OA)(n1 c1 g2:Nat)(fi2 ca2:Array Value)(g2s:Nat)(fi2s ca2s:Array Value)(x6 x13:Int)(h:Hp):Prop:=RKL Tryz.prog O Tryz.f169 stk169_0 39 [0,1,2,6,11,12,13] [.slice a0 n0 c0,.slice a1 n1 c1,.func (.func g2s) fi2s ca2s,.int .i64 x6,.slice a0 n0 c0,.int .i64 (Int.ofNat n0),.int .i64 x13] h Q
def T169 (O:CallF)(Q:VQ)(a0:OA)(n0 c0:Nat)(a1:OA)(n1 c1 g2:Nat)(fi2 ca2:Array Value)(h:Hp):Prop:=
 I169_0 O Q a0 n0 c0 a1 n1 c1 g2 fi2 ca2 g2 fi2 ca2 0 0 h
theorem rk169 {O Q} (a0 n0 c0 a1 n1 c1 g2 fi2 ca2){h:Hp}(hO:O 169 [.slice a0 n0 c0,.slice a1 n1 c1,.func (.func g2) fi2 ca2] h=none)(hh:T169 O Q a0 n0 c0 a1 n1 c1 g2 fi2 ca2 h):Ret Tryz.prog O 169 [.slice a0 n0 c0,.slice a1 n1 c1,.func (.func g2) fi2 ca2] h Q:=
 .of (c:=b169) Tryz.func169 (by kernel_rfl) hO (V_okE (tb:=lv169) (cuts:=[]) 500 hh (by kernel_rfl))
def T169_0 (O:CallF)(Q:VQ)(a0:OA)(n0 c0:Nat)(a1:OA)(n1 c1 g2:Nat)(fi2 ca2:Array Value)(g2s:Nat)(fi2s ca2s:Array Value)(x6 x13:Int)(h:Hp):Prop:=
 vcond (ltI x13 (Int.ofNat n0))
 (isNat x13 fun n101=>
 isAddr a0 fun b102 f103=>
 vreq (Nat.blt n101 n0)
 (∃x104 x105 s106 a107 n108 c109,readAt h b102 (f103+(n101*4)) 4=some (v46 x104 x105 s106 a107 n108 c109)∧
 let g110:=h.add (.cells (v46 0 0 (ByteArray.mk #[]) none 0 0) 46 .fix)
 vreq (canW g110 h.nx 0 (v46 x104 x105 s106 a107 n108 c109))
 (let g111:=g110.wr h.nx 0 (v46 x104 x105 s106 a107 n108 c109)
 vcond (!(ltI x13 (Int.ofNat n1)))
 (Q (.int .i64 1) g111)
 (isNat x13 fun n112=>
 isAddr a1 fun b113 f114=>
 vreq (Nat.blt n112 n1)
 (∃x115 x116 s117 a118 n119 c120,readAt g111 b113 (f114+(n112*4)) 4=some (v46 x115 x116 s117 a118 n119 c120)∧
 let g121:=g111.add (.cells (v46 0 0 (ByteArray.mk #[]) none 0 0) 46 .fix)
 vreq (canW g121 g111.nx 0 (v46 x115 x116 s117 a118 n119 c120))
 (let g122:=g121.wr g111.nx 0 (v46 x115 x116 s117 a118 n119 c120)
 ∃x123 x124 s125 a126 n127 c128,readAt g122 h.nx 0 4=some (v46 x123 x124 s125 a126 n127 c128)∧
 ∃x129 x130 s131 a132 n133 c134,readAt g122 g111.nx 0 4=some (v46 x129 x130 s131 a132 n133 c134)∧
 ∃x135 h136,EvC Tryz.prog O g2s (fi2s.toList++[.agg (w46 x123 x124 s125 a126 n127 c128),.agg (w46 x129 x130 s131 a132 n133 c134)]++ca2s.toList) g122 (.int .i64 x135) h136∧
 vcond (!(eqI x135 0))
 (Q (.int .i64 x135) h136)
 (I169_0 O Q a0 n0 c0 a1 n1 c1 g2 fi2 ca2 g2s fi2s ca2s x6 (wrapF .i64 (x13+1)) h136)))))))
 (vcond (ltI (Int.ofNat n0) (Int.ofNat n1))
 (Q (.int .i64 (-1)) h)
 (Q (.int .i64 0) h))
theorem I169_0.of {O Q} (a0 n0 c0 a1 n1 c1 g2 fi2 ca2 g2s fi2s ca2s x6 x13){h:Hp}(hh:T169_0 O Q a0 n0 c0 a1 n1 c1 g2 fi2 ca2 g2s fi2s ca2s x6 x13 h):I169_0 O Q a0 n0 c0 a1 n1 c1 g2 fi2 ca2 g2s fi2s ca2s x6 x13 h:=
 RKL.ofE (tb:=lv169) (cuts:=[]) 500 hh fun _=>by kernel_rfl
noncomputable def b107:Code:=(Tryz.f107.body).getD .skip
noncomputable def stk107_0:List KI:=[.code (sub [1,0,1,0] b107),.blk 0,.code (sub [1,1] b107)]
noncomputable def stk107_1:List KI:=[.code (sub [1,1,0,1,0,1,1,1,1,1,1,1,1,1,0,0,1,0] b107),.blk 3,.code (sub [1,1,0,1,0,1,1,1,1,1,1,1,1,1,0,1] b107),.blk 2,.code (sub [1,1,1] b107)]
def lv107:List (Nat×List Nat):=[(0,[1,2,3]),(3,[1,2,4])]
def I107_0 (O:CallF)(Q:VQ)(x0_0 x0_1:Int)(s0_2:ByteArray)(a0_3:OA)(n0_3 c0_3 b1 f1:Nat)(q2:Bool)(x3:Int)(h:Hp):Prop:=RKL Tryz.prog O Tryz.f107 stk107_0 115 [1,2,3] [.pointer (some ⟨b1,f1,none⟩),.bool q2,.int .i64 x3] h Q
def I107_1 (O:CallF)(Q:VQ)(x0_0 x0_1:Int)(s0_2:ByteArray)(a0_3:OA)(n0_3 c0_3 b1 f1:Nat)(q2:Bool)(x4:Int)(h:Hp):Prop:=RKL Tryz.prog O Tryz.f107 stk107_1 115 [1,2,4] [.pointer (some ⟨b1,f1,none⟩),.bool q2,.int .i64 x4] h Q
def T107 (O:CallF)(Q:VQ)(x0_0 x0_1:Int)(s0_2:ByteArray)(a0_3:OA)(n0_3 c0_3:Nat)(h:Hp):Prop:=
 let g1:=h.add (.cells (v46 x0_0 x0_1 s0_2 a0_3 n0_3 c0_3) 46 .fix)
 I107_0 O Q x0_0 x0_1 s0_2 a0_3 n0_3 c0_3 h.nx 0 false 0 g1
theorem rk107 {O Q} (x0_0 x0_1 s0_2 a0_3 n0_3 c0_3){h:Hp}(hO:O 107 [.agg (w46 x0_0 x0_1 s0_2 a0_3 n0_3 c0_3)] h=none)(hh:T107 O Q x0_0 x0_1 s0_2 a0_3 n0_3 c0_3 h):Ret Tryz.prog O 107 [.agg (w46 x0_0 x0_1 s0_2 a0_3 n0_3 c0_3)] h Q:=
 .of (c:=b107) Tryz.func107 (by kernel_rfl) hO (V_okE (tb:=lv107) (cuts:=[]) 500 hh (by kernel_rfl))
def T107_0 (O:CallF)(Q:VQ)(x0_0 x0_1:Int)(s0_2:ByteArray)(a0_3:OA)(n0_3 c0_3 b1 f1:Nat)(q2:Bool)(x3:Int)(h:Hp):Prop:=
 ∃a101 n102 c103,readAt h b1 (f1+3) 1=some [.slice a101 n102 c103]∧
 vcond (ltI x3 (Int.ofNat n102))
 (∃a104 n105 c106,readAt h b1 (f1+3) 1=some [.slice a104 n105 c106]∧
 isNat x3 fun n107=>
 isAddr a104 fun b108 f109=>
 vreq (Nat.blt n107 n105)
 (∃x110 x111 s112 a113 n114 c115,readAt h b108 (f109+(n107*4)) 4=some (v46 x110 x111 s112 a113 n114 c115)∧
 ∃q116 h117,EvC Tryz.prog O 107 [.agg (w46 x110 x111 s112 a113 n114 c115)] h (.bool q116) h117∧
 vcond (!q116)
 (Q (.bool false) h117)
 (I107_0 O Q x0_0 x0_1 s0_2 a0_3 n0_3 c0_3 b1 f1 q2 (wrapF .i64 (x3+1)) h117)))
 (∃x118,readAt h b1 (f1+0) 1=some [.int .i64 x118]∧
 vcond (eqI x118 1)
 (∃x119,readAt h b1 (f1+1) 1=some [.int .i64 x119]∧
 ∃q120 h121,EvC Tryz.prog O 140 [.int .i64 x119,.int .i64 (-1000000000),.int .i64 1000000000] h (.bool q120) h121∧
 vcond q120
 (∃s122,readAt h121 b1 (f1+2) 1=some [.string s122]∧
 vcond (sEq s122 (ByteArray.mk #[]))
 (∃a123 n124 c125,readAt h121 b1 (f1+3) 1=some [.slice a123 n124 c125]∧
 Q (.bool (eqI (Int.ofNat n124) 0)) h121)
 (Q (.bool false) h121))
 (Q (.bool false) h121))
 (vcond (eqI x118 2)
 (∃x126,readAt h b1 (f1+1) 1=some [.int .i64 x126]∧
 ∃q127 h128,EvC Tryz.prog O 140 [.int .i64 x126,.int .i64 0,.int .i64 1] h (.bool q127) h128∧
 vcond q127
 (∃s129,readAt h128 b1 (f1+2) 1=some [.string s129]∧
 vcond (sEq s129 (ByteArray.mk #[]))
 (∃a130 n131 c132,readAt h128 b1 (f1+3) 1=some [.slice a130 n131 c132]∧
 Q (.bool (eqI (Int.ofNat n131) 0)) h128)
 (Q (.bool false) h128))
 (Q (.bool false) h128))
 (vcond (eqI x118 3)
 (∃x133,readAt h b1 (f1+1) 1=some [.int .i64 x133]∧
 vcond (eqI x133 0)
 (∃s134,readAt h b1 (f1+2) 1=some [.string s134]∧
 ∃q135 h136,EvC Tryz.prog O 141 [.string s134] h (.bool q135) h136∧
 vcond q135
 (∃a137 n138 c139,readAt h136 b1 (f1+3) 1=some [.slice a137 n138 c139]∧
 Q (.bool (eqI (Int.ofNat n138) 0)) h136)
 (Q (.bool false) h136))
 (Q (.bool false) h))
 (vcond (eqI x118 4)
 (∃x140,readAt h b1 (f1+1) 1=some [.int .i64 x140]∧
 vcond (eqI x140 0)
 (∃s141,readAt h b1 (f1+2) 1=some [.string s141]∧
 vcond (sEq s141 (ByteArray.mk #[]))
 (∃a142 n143 c144,readAt h b1 (f1+3) 1=some [.slice a142 n143 c144]∧
 ∃q145 h146,EvC Tryz.prog O 140 [.int .i64 (Int.ofNat n143),.int .i64 2,.int .i64 6] h (.bool q145) h146∧
 Q (.bool q145) h146)
 (Q (.bool false) h))
 (Q (.bool false) h))
 (vcond (eqI x118 5)
 (I107_1 O Q x0_0 x0_1 s0_2 a0_3 n0_3 c0_3 b1 f1 q2 1 h)
 (Q (.bool false) h))))))
theorem I107_0.of {O Q} (x0_0 x0_1 s0_2 a0_3 n0_3 c0_3 b1 f1 q2 x3){h:Hp}(hh:T107_0 O Q x0_0 x0_1 s0_2 a0_3 n0_3 c0_3 b1 f1 q2 x3 h):I107_0 O Q x0_0 x0_1 s0_2 a0_3 n0_3 c0_3 b1 f1 q2 x3 h:=
 RKL.ofE (tb:=lv107) (cuts:=[]) 500 hh fun _=>by kernel_rfl
def T107_1 (O:CallF)(Q:VQ)(x0_0 x0_1:Int)(s0_2:ByteArray)(a0_3:OA)(n0_3 c0_3 b1 f1:Nat)(q2:Bool)(x4:Int)(h:Hp):Prop:=
 ∃a201 n202 c203,readAt h b1 (f1+3) 1=some [.slice a201 n202 c203]∧
 vcond (ltI x4 (Int.ofNat n202))
 (let g204:=h.rsv 13
 ∃a205 n206 c207,readAt g204 b1 (f1+3) 1=some [.slice a205 n206 c207]∧
 isNat (wrapF .i64 (x4-1)) fun n208=>
 isAddr a205 fun b209 f210=>
 vreq (Nat.blt n208 n206)
 (∃x211 x212 s213 a214 n215 c216,readAt g204 b209 (f210+(n208*4)) 4=some (v46 x211 x212 s213 a214 n215 c216)∧
 ∃a217 n218 c219,readAt g204 b1 (f1+3) 1=some [.slice a217 n218 c219]∧
 isNat x4 fun n220=>
 isAddr a217 fun b221 f222=>
 vreq (Nat.blt n220 n218)
 (∃x223 x224 s225 a226 n227 c228,readAt g204 b221 (f222+(n220*4)) 4=some (v46 x223 x224 s225 a226 n227 c228)∧
 ∃x229 h230,EvC Tryz.prog O 137 [.agg (w46 x211 x212 s213 a214 n215 c216),.agg (w46 x223 x224 s225 a226 n227 c228)] (g204.grd []) (.int .i64 x229) h230∧
 let g231:=h230.rst g204
 vcond (!(ltI x229 0))
 (Q (.bool false) g231)
 (I107_1 O Q x0_0 x0_1 s0_2 a0_3 n0_3 c0_3 b1 f1 q2 (wrapF .i64 (x4+1)) g231))))
 (∃x232,readAt h b1 (f1+1) 1=some [.int .i64 x232]∧
 vcond (eqI x232 0)
 (∃s233,readAt h b1 (f1+2) 1=some [.string s233]∧
 Q (.bool (sEq s233 (ByteArray.mk #[]))) h)
 (Q (.bool false) h))
theorem I107_1.of {O Q} (x0_0 x0_1 s0_2 a0_3 n0_3 c0_3 b1 f1 q2 x4){h:Hp}(hh:T107_1 O Q x0_0 x0_1 s0_2 a0_3 n0_3 c0_3 b1 f1 q2 x4 h):I107_1 O Q x0_0 x0_1 s0_2 a0_3 n0_3 c0_3 b1 f1 q2 x4 h:=
 RKL.ofE (tb:=lv107) (cuts:=[]) 500 hh fun _=>by kernel_rfl
noncomputable def b137:Code:=(Tryz.f137.body).getD .skip
noncomputable def stk137_0:List KI:=[.code (sub [1,1,1,1,0,1,0] b137),.blk 0,.code (sub [1,1,1,1,1] b137)]
def lv137:List (Nat×List Nat):=[(0,[2,3,4,5])]
def I137_0 (O:CallF)(Q:VQ)(x0_0 x0_1:Int)(s0_2:ByteArray)(a0_3:OA)(n0_3 c0_3:Nat)(x1_0 x1_1:Int)(s1_2:ByteArray)(a1_3:OA)(n1_3 c1_3 b2 f2 b3 f3:Nat)(x4 x5:Int)(h:Hp):Prop:=RKL Tryz.prog O Tryz.f137 stk137_0 81 [2,3,4,5] [.pointer (some ⟨b2,f2,none⟩),.pointer (some ⟨b3,f3,none⟩),.int .i64 x4,.int .i64 x5] h Q
def T137 (O:CallF)(Q:VQ)(x0_0 x0_1:Int)(s0_2:ByteArray)(a0_3:OA)(n0_3 c0_3:Nat)(x1_0 x1_1:Int)(s1_2:ByteArray)(a1_3:OA)(n1_3 c1_3:Nat)(h:Hp):Prop:=
 let g1:=h.add (.cells (v46 x0_0 x0_1 s0_2 a0_3 n0_3 c0_3) 46 .fix)
 let g2:=g1.add (.cells (v46 x1_0 x1_1 s1_2 a1_3 n1_3 c1_3) 46 .fix)
 ∃x3,readAt g2 h.nx 0 1=some [.int .i64 x3]∧
 ∃x4,readAt g2 g1.nx 0 1=some [.int .i64 x4]∧
 vcond (!(eqI x3 x4))
 (∃x5,readAt g2 h.nx 0 1=some [.int .i64 x5]∧
 ∃x6,readAt g2 g1.nx 0 1=some [.int .i64 x6]∧
 ∃x7 h8,EvC Tryz.prog O 150 [.int .i64 x5,.int .i64 x6] g2 (.int .i64 x7) h8∧
 Q (.int .i64 x7) h8)
 (∃x9,readAt g2 h.nx 0 1=some [.int .i64 x9]∧
 vcond (eqI x9 3)
 (∃s10,readAt g2 h.nx 2 1=some [.string s10]∧
 ∃s11,readAt g2 g1.nx 2 1=some [.string s11]∧
 vcond (sEq s10 s11)
 (Q (.int .i64 0) g2)
 (∃s12,readAt g2 h.nx 2 1=some [.string s12]∧
 ∃s13,readAt g2 g1.nx 2 1=some [.string s13]∧
 vcond (sLt s12 s13)
 (Q (.int .i64 (-1)) g2)
 (Q (.int .i64 1) g2)))
 (∃x14,readAt g2 h.nx 0 1=some [.int .i64 x14]∧
 vcond (eqI x14 1)
 (let g15:=g2.rsv 14
 ∃x16,readAt g15 h.nx 1 1=some [.int .i64 x16]∧
 ∃x17,readAt g15 g1.nx 1 1=some [.int .i64 x17]∧
 ∃a18 n19 c20,readAt g15 h.nx 3 1=some [.slice a18 n19 c20]∧
 ∃a21 n22 c23,readAt g15 g1.nx 3 1=some [.slice a21 n22 c23]∧
 ∃x24 h25,EvC Tryz.prog O 150 [.int .i64 x16,.int .i64 x17] (g15.grd [g1.nx,h.nx]) (.int .i64 x24) h25∧
 let g26:=h25.rst g15
 ∃x27 h28,EvC Tryz.prog O 150 [.int .i64 (Int.ofNat n19),.int .i64 (Int.ofNat n22)] (g26.grd []) (.int .i64 x27) h28∧
 let g29:=h28.rst g26
 Q (.int .i64 (wrapF .i64 (x24+x27))) g29)
 (∃x30,readAt g2 h.nx 0 1=some [.int .i64 x30]∧
 vcond (eqI x30 2)
 (let g31:=g2.rsv 14
 ∃x32,readAt g31 h.nx 1 1=some [.int .i64 x32]∧
 ∃x33,readAt g31 g1.nx 1 1=some [.int .i64 x33]∧
 ∃a34 n35 c36,readAt g31 h.nx 3 1=some [.slice a34 n35 c36]∧
 ∃a37 n38 c39,readAt g31 g1.nx 3 1=some [.slice a37 n38 c39]∧
 ∃x40 h41,EvC Tryz.prog O 150 [.int .i64 x32,.int .i64 x33] (g31.grd [g1.nx,h.nx]) (.int .i64 x40) h41∧
 let g42:=h41.rst g31
 ∃x43 h44,EvC Tryz.prog O 150 [.int .i64 (Int.ofNat n35),.int .i64 (Int.ofNat n38)] (g42.grd []) (.int .i64 x43) h44∧
 let g45:=h44.rst g42
 Q (.int .i64 (wrapF .i64 (x40+x43))) g45)
 (∃a46 n47 c48,readAt g2 h.nx 3 1=some [.slice a46 n47 c48]∧
 ∃a49 n50 c51,readAt g2 g1.nx 3 1=some [.slice a49 n50 c51]∧
 vcond (!(eqI (Int.ofNat n47) (Int.ofNat n50)))
 (let g52:=g2.rsv 14
 ∃x53,readAt g52 h.nx 1 1=some [.int .i64 x53]∧
 ∃x54,readAt g52 g1.nx 1 1=some [.int .i64 x54]∧
 ∃a55 n56 c57,readAt g52 h.nx 3 1=some [.slice a55 n56 c57]∧
 ∃a58 n59 c60,readAt g52 g1.nx 3 1=some [.slice a58 n59 c60]∧
 ∃x61 h62,EvC Tryz.prog O 150 [.int .i64 x53,.int .i64 x54] (g52.grd [g1.nx,h.nx]) (.int .i64 x61) h62∧
 let g63:=h62.rst g52
 ∃x64 h65,EvC Tryz.prog O 150 [.int .i64 (Int.ofNat n56),.int .i64 (Int.ofNat n59)] (g63.grd []) (.int .i64 x64) h65∧
 let g66:=h65.rst g63
 Q (.int .i64 (wrapF .i64 (x61+x64))) g66)
 (I137_0 O Q x0_0 x0_1 s0_2 a0_3 n0_3 c0_3 x1_0 x1_1 s1_2 a1_3 n1_3 c1_3 h.nx 0 g1.nx 0 0 0 g2)))))
theorem rk137 {O Q} (x0_0 x0_1 s0_2 a0_3 n0_3 c0_3 x1_0 x1_1 s1_2 a1_3 n1_3 c1_3){h:Hp}(hO:O 137 [.agg (w46 x0_0 x0_1 s0_2 a0_3 n0_3 c0_3),.agg (w46 x1_0 x1_1 s1_2 a1_3 n1_3 c1_3)] h=none)(hh:T137 O Q x0_0 x0_1 s0_2 a0_3 n0_3 c0_3 x1_0 x1_1 s1_2 a1_3 n1_3 c1_3 h):Ret Tryz.prog O 137 [.agg (w46 x0_0 x0_1 s0_2 a0_3 n0_3 c0_3),.agg (w46 x1_0 x1_1 s1_2 a1_3 n1_3 c1_3)] h Q:=
 .of (c:=b137) Tryz.func137 (by kernel_rfl) hO (V_okE (tb:=lv137) (cuts:=[]) 500 hh (by kernel_rfl))
def T137_0 (O:CallF)(Q:VQ)(x0_0 x0_1:Int)(s0_2:ByteArray)(a0_3:OA)(n0_3 c0_3:Nat)(x1_0 x1_1:Int)(s1_2:ByteArray)(a1_3:OA)(n1_3 c1_3 b2 f2 b3 f3:Nat)(x4 x5:Int)(h:Hp):Prop:=
 ∃a101 n102 c103,readAt h b2 (f2+3) 1=some [.slice a101 n102 c103]∧
 vcond (ltI x5 (Int.ofNat n102))
 (let g104:=h.rsv 12
 ∃a105 n106 c107,readAt g104 b2 (f2+3) 1=some [.slice a105 n106 c107]∧
 isNat x5 fun n108=>
 isAddr a105 fun b109 f110=>
 vreq (Nat.blt n108 n106)
 (∃x111 x112 s113 a114 n115 c116,readAt g104 b109 (f110+(n108*4)) 4=some (v46 x111 x112 s113 a114 n115 c116)∧
 ∃a117 n118 c119,readAt g104 b3 (f3+3) 1=some [.slice a117 n118 c119]∧
 isNat x5 fun n120=>
 isAddr a117 fun b121 f122=>
 vreq (Nat.blt n120 n118)
 (∃x123 x124 s125 a126 n127 c128,readAt g104 b121 (f122+(n120*4)) 4=some (v46 x123 x124 s125 a126 n127 c128)∧
 ∃x129 h130,EvC Tryz.prog O 137 [.agg (w46 x111 x112 s113 a114 n115 c116),.agg (w46 x123 x124 s125 a126 n127 c128)] (g104.grd []) (.int .i64 x129) h130∧
 let g131:=h130.rst g104
 vcond (!(eqI x129 0))
 (Q (.int .i64 x129) g131)
 (I137_0 O Q x0_0 x0_1 s0_2 a0_3 n0_3 c0_3 x1_0 x1_1 s1_2 a1_3 n1_3 c1_3 b2 f2 b3 f3 x4 (wrapF .i64 (x5+1)) g131))))
 (Q (.int .i64 0) h)
theorem I137_0.of {O Q} (x0_0 x0_1 s0_2 a0_3 n0_3 c0_3 x1_0 x1_1 s1_2 a1_3 n1_3 c1_3 b2 f2 b3 f3 x4 x5){h:Hp}(hh:T137_0 O Q x0_0 x0_1 s0_2 a0_3 n0_3 c0_3 x1_0 x1_1 s1_2 a1_3 n1_3 c1_3 b2 f2 b3 f3 x4 x5 h):I137_0 O Q x0_0 x0_1 s0_2 a0_3 n0_3 c0_3 x1_0 x1_1 s1_2 a1_3 n1_3 c1_3 b2 f2 b3 f3 x4 x5 h:=
 RKL.ofE (tb:=lv137) (cuts:=[]) 500 hh fun _=>by kernel_rfl
noncomputable def b141:Code:=(Tryz.f141.body).getD .skip
noncomputable def stk141_0:List KI:=[.code (sub [1,0,1,0] b141),.blk 0,.code (sub [1,1] b141)]
def lv141:List (Nat×List Nat):=[(0,[0,2,3])]
def I141_0 (O:CallF)(Q:VQ)(s0 s0s:ByteArray)(q2:Bool)(x3:Int)(h:Hp):Prop:=RKL Tryz.prog O Tryz.f141 stk141_0 35 [0,2,3] [.string s0s,.bool q2,.int .i64 x3] h Q
def T141 (O:CallF)(Q:VQ)(s0:ByteArray)(h:Hp):Prop:=
 I141_0 O Q s0 s0 false 0 h
theorem rk141 {O Q} (s0){h:Hp}(hO:O 141 [.string s0] h=none)(hh:T141 O Q s0 h):Ret Tryz.prog O 141 [.string s0] h Q:=
 .of (c:=b141) Tryz.func141 (by kernel_rfl) hO (V_okE (tb:=lv141) (cuts:=[]) 500 hh (by kernel_rfl))
def T141_0 (O:CallF)(Q:VQ)(s0 s0s:ByteArray)(q2:Bool)(x3:Int)(h:Hp):Prop:=
 vcond (ltI x3 (Int.ofNat (ByteArray.size s0s)))
 (isNat x3 fun n101=>
 vreq (Nat.blt n101 (ByteArray.size s0s))
 (vcond (ltI (byteI s0s n101) 32)
 (Q (.bool false) h)
 (isNat x3 fun n102=>
 vreq (Nat.blt n102 (ByteArray.size s0s))
 (vcond (ltI 126 (byteI s0s n102))
 (Q (.bool false) h)
 (isNat x3 fun n103=>
 vreq (Nat.blt n103 (ByteArray.size s0s))
 (vcond (eqI (byteI s0s n103) 34)
 (Q (.bool false) h)
 (isNat x3 fun n104=>
 vreq (Nat.blt n104 (ByteArray.size s0s))
 (vcond (eqI (byteI s0s n104) 92)
 (Q (.bool false) h)
 (I141_0 O Q s0 s0s q2 (wrapF .i64 (x3+1)) h)))))))))
 (Q (.bool (!(ltI 20 (Int.ofNat (ByteArray.size s0s))))) h)
theorem I141_0.of {O Q} (s0 s0s q2 x3){h:Hp}(hh:T141_0 O Q s0 s0s q2 x3 h):I141_0 O Q s0 s0s q2 x3 h:=
 RKL.ofE (tb:=lv141) (cuts:=[]) 500 hh fun _=>by kernel_rfl
noncomputable def b104:Code:=(Tryz.f104.body).getD .skip
noncomputable def stk104_0:List KI:=[.code (sub [1,1,0,1,0] b104),.blk 0,.code (sub [1,1,1] b104)]
def lv104:List (Nat×List Nat):=[(0,[0,1,4,5])]
def I104_0 (O:CallF)(Q:VQ)(a0:OA)(n0 c0:Nat)(a1:OA)(n1 c1:Nat)(q4:Bool)(x5:Int)(h:Hp):Prop:=RKL Tryz.prog O Tryz.f104 stk104_0 27 [0,1,4,5] [.slice a0 n0 c0,.slice a1 n1 c1,.bool q4,.int .i64 x5] h Q
def T104 (O:CallF)(Q:VQ)(a0:OA)(n0 c0:Nat)(a1:OA)(n1 c1:Nat)(h:Hp):Prop:=
 vcond (!(eqI (Int.ofNat n0) (Int.ofNat n1)))
 (Q (.bool false) h)
 (I104_0 O Q a0 n0 c0 a1 n1 c1 false 0 h)
theorem rk104 {O Q} (a0 n0 c0 a1 n1 c1){h:Hp}(hO:O 104 [.slice a0 n0 c0,.slice a1 n1 c1] h=none)(hh:T104 O Q a0 n0 c0 a1 n1 c1 h):Ret Tryz.prog O 104 [.slice a0 n0 c0,.slice a1 n1 c1] h Q:=
 .of (c:=b104) Tryz.func104 (by kernel_rfl) hO (V_okE (tb:=lv104) (cuts:=[]) 500 hh (by kernel_rfl))
def T104_0 (O:CallF)(Q:VQ)(a0:OA)(n0 c0:Nat)(a1:OA)(n1 c1:Nat)(q4:Bool)(x5:Int)(h:Hp):Prop:=
 vcond (ltI x5 (Int.ofNat n0))
 (let g101:=h.rsv 10
 isNat x5 fun n102=>
 isAddr a0 fun b103 f104=>
 vreq (Nat.blt n102 n0)
 (∃x105 x106 s107 a108 n109 c110,readAt g101 b103 (f104+(n102*4)) 4=some (v46 x105 x106 s107 a108 n109 c110)∧
 isNat x5 fun n111=>
 isAddr a1 fun b112 f113=>
 vreq (Nat.blt n111 n1)
 (∃x114 x115 s116 a117 n118 c119,readAt g101 b112 (f113+(n111*4)) 4=some (v46 x114 x115 s116 a117 n118 c119)∧
 ∃q120 h121,EvC Tryz.prog O 35 [.agg (w46 x105 x106 s107 a108 n109 c110),.agg (w46 x114 x115 s116 a117 n118 c119)] (g101.grd []) (.bool q120) h121∧
 let g122:=h121.rst g101
 vcond (!q120)
 (Q (.bool false) g122)
 (I104_0 O Q a0 n0 c0 a1 n1 c1 q4 (wrapF .i64 (x5+1)) g122))))
 (Q (.bool true) h)
theorem I104_0.of {O Q} (a0 n0 c0 a1 n1 c1 q4 x5){h:Hp}(hh:T104_0 O Q a0 n0 c0 a1 n1 c1 q4 x5 h):I104_0 O Q a0 n0 c0 a1 n1 c1 q4 x5 h:=
 RKL.ofE (tb:=lv104) (cuts:=[]) 500 hh fun _=>by kernel_rfl
noncomputable def b35:Code:=(Tryz.f35.body).getD .skip
def lv35:List (Nat×List Nat):=[]
def T35 (O:CallF)(Q:VQ)(x0_0 x0_1:Int)(s0_2:ByteArray)(a0_3:OA)(n0_3 c0_3:Nat)(x1_0 x1_1:Int)(s1_2:ByteArray)(a1_3:OA)(n1_3 c1_3:Nat)(h:Hp):Prop:=
 let g1:=h.add (.cells (v46 x0_0 x0_1 s0_2 a0_3 n0_3 c0_3) 46 .fix)
 let g2:=g1.add (.cells (v46 x1_0 x1_1 s1_2 a1_3 n1_3 c1_3) 46 .fix)
 ∃x3,readAt g2 h.nx 0 1=some [.int .i64 x3]∧
 ∃x4,readAt g2 g1.nx 0 1=some [.int .i64 x4]∧
 vcond (!(eqI x3 x4))
 (Q (.bool false) g2)
 (∃x5,readAt g2 h.nx 1 1=some [.int .i64 x5]∧
 ∃x6,readAt g2 g1.nx 1 1=some [.int .i64 x6]∧
 vcond (!(eqI x5 x6))
 (Q (.bool false) g2)
 (∃s7,readAt g2 h.nx 2 1=some [.string s7]∧
 ∃s8,readAt g2 g1.nx 2 1=some [.string s8]∧
 vcond (!(sEq s7 s8))
 (Q (.bool false) g2)
 (∃a9 n10 c11,readAt g2 h.nx 3 1=some [.slice a9 n10 c11]∧
 ∃a12 n13 c14,readAt g2 g1.nx 3 1=some [.slice a12 n13 c14]∧
 ∃q15 h16,EvC Tryz.prog O 104 [.slice a9 n10 c11,.slice a12 n13 c14] g2 (.bool q15) h16∧
 Q (.bool q15) h16)))
theorem rk35 {O Q} (x0_0 x0_1 s0_2 a0_3 n0_3 c0_3 x1_0 x1_1 s1_2 a1_3 n1_3 c1_3){h:Hp}(hO:O 35 [.agg (w46 x0_0 x0_1 s0_2 a0_3 n0_3 c0_3),.agg (w46 x1_0 x1_1 s1_2 a1_3 n1_3 c1_3)] h=none)(hh:T35 O Q x0_0 x0_1 s0_2 a0_3 n0_3 c0_3 x1_0 x1_1 s1_2 a1_3 n1_3 c1_3 h):Ret Tryz.prog O 35 [.agg (w46 x0_0 x0_1 s0_2 a0_3 n0_3 c0_3),.agg (w46 x1_0 x1_1 s1_2 a1_3 n1_3 c1_3)] h Q:=
 .of (c:=b35) Tryz.func35 (by kernel_rfl) hO (V_okE (tb:=lv35) (cuts:=[]) 500 hh (by kernel_rfl))
noncomputable def b140:Code:=(Tryz.f140.body).getD .skip
def lv140:List (Nat×List Nat):=[]
def T140 (O:CallF)(Q:VQ)(x0 x1 x2:Int)(h:Hp):Prop:=
 vcond (!(ltI x0 x1))
 (Q (.bool (!(ltI x2 x0))) h)
 (Q (.bool false) h)
theorem rk140 {O Q} (x0 x1 x2){h:Hp}(hO:O 140 [.int .i64 x0,.int .i64 x1,.int .i64 x2] h=none)(hh:T140 O Q x0 x1 x2 h):Ret Tryz.prog O 140 [.int .i64 x0,.int .i64 x1,.int .i64 x2] h Q:=
 .of (c:=b140) Tryz.func140 (by kernel_rfl) hO (V_okE (tb:=lv140) (cuts:=[]) 500 hh (by kernel_rfl))
noncomputable def b188:Code:=(Tryz.f188.body).getD .skip
def lv188:List (Nat×List Nat):=[]
def T188 (O:CallF)(Q:VQ)(x0_0:Int)(h:Hp):Prop:=
 let g1:=h.add (.cells [.int .i64 x0_0] 196 .fix)
 Q (.slice none 0 0) g1
theorem rk188 {O Q} (x0_0){h:Hp}(hO:O 188 [.agg #[.int .i64 x0_0]] h=none)(hh:T188 O Q x0_0 h):Ret Tryz.prog O 188 [.agg #[.int .i64 x0_0]] h Q:=
 .of (c:=b188) Tryz.func188 (by kernel_rfl) hO (V_okE (tb:=lv188) (cuts:=[]) 500 hh (by kernel_rfl))
noncomputable def b189:Code:=(Tryz.f189.body).getD .skip
def lv189:List (Nat×List Nat):=[]
def T189 (O:CallF)(Q:VQ)(x0_0:Int)(h:Hp):Prop:=
 let g1:=h.add (.cells [.int .i64 x0_0] 197 .fix)
 Q (.slice none 0 0) g1
theorem rk189 {O Q} (x0_0){h:Hp}(hO:O 189 [.agg #[.int .i64 x0_0]] h=none)(hh:T189 O Q x0_0 h):Ret Tryz.prog O 189 [.agg #[.int .i64 x0_0]] h Q:=
 .of (c:=b189) Tryz.func189 (by kernel_rfl) hO (V_okE (tb:=lv189) (cuts:=[]) 500 hh (by kernel_rfl))
noncomputable def b190:Code:=(Tryz.f190.body).getD .skip
def lv190:List (Nat×List Nat):=[]
def T190 (O:CallF)(Q:VQ)(s0_0:ByteArray)(h:Hp):Prop:=
 let g1:=h.add (.cells [.string s0_0] 199 .fix)
 Q (.slice none 0 0) g1
theorem rk190 {O Q} (s0_0){h:Hp}(hO:O 190 [.agg #[.string s0_0]] h=none)(hh:T190 O Q s0_0 h):Ret Tryz.prog O 190 [.agg #[.string s0_0]] h Q:=
 .of (c:=b190) Tryz.func190 (by kernel_rfl) hO (V_okE (tb:=lv190) (cuts:=[]) 500 hh (by kernel_rfl))
noncomputable def b191:Code:=(Tryz.f191.body).getD .skip
def lv191:List (Nat×List Nat):=[]
def T191 (O:CallF)(Q:VQ)(a0_0:OA)(n0_0 c0_0:Nat)(h:Hp):Prop:=
 let g1:=h.add (.cells [.slice a0_0 n0_0 c0_0] 201 .fix)
 ∃a2 n3 c4,readAt g1 h.nx 0 1=some [.slice a2 n3 c4]∧
 Q (.slice a2 n3 c4) g1
theorem rk191 {O Q} (a0_0 n0_0 c0_0){h:Hp}(hO:O 191 [.agg #[.slice a0_0 n0_0 c0_0]] h=none)(hh:T191 O Q a0_0 n0_0 c0_0 h):Ret Tryz.prog O 191 [.agg #[.slice a0_0 n0_0 c0_0]] h Q:=
 .of (c:=b191) Tryz.func191 (by kernel_rfl) hO (V_okE (tb:=lv191) (cuts:=[]) 500 hh (by kernel_rfl))
noncomputable def b192:Code:=(Tryz.f192.body).getD .skip
def lv192:List (Nat×List Nat):=[]
def T192 (O:CallF)(Q:VQ)(a0_0:OA)(n0_0 c0_0:Nat)(h:Hp):Prop:=
 let g1:=h.add (.cells [.slice a0_0 n0_0 c0_0] 202 .fix)
 ∃a2 n3 c4,readAt g1 h.nx 0 1=some [.slice a2 n3 c4]∧
 Q (.slice a2 n3 c4) g1
theorem rk192 {O Q} (a0_0 n0_0 c0_0){h:Hp}(hO:O 192 [.agg #[.slice a0_0 n0_0 c0_0]] h=none)(hh:T192 O Q a0_0 n0_0 c0_0 h):Ret Tryz.prog O 192 [.agg #[.slice a0_0 n0_0 c0_0]] h Q:=
 .of (c:=b192) Tryz.func192 (by kernel_rfl) hO (V_okE (tb:=lv192) (cuts:=[]) 500 hh (by kernel_rfl))
noncomputable def b193:Code:=(Tryz.f193.body).getD .skip
def lv193:List (Nat×List Nat):=[]
def T193 (O:CallF)(Q:VQ)(h:Hp):Prop:=
 let g1:=h.add (.cells [] 204 .fix)
 Q (.slice none 0 0) g1
theorem rk193 {O Q}{h:Hp}(hO:O 193 [.agg #[]] h=none)(hh:T193 O Q h):Ret Tryz.prog O 193 [.agg #[]] h Q:=
 .of (c:=b193) Tryz.func193 (by kernel_rfl) hO (V_okE (tb:=lv193) (cuts:=[]) 500 hh (by kernel_rfl))
noncomputable def b170:Code:=(Tryz.f170.body).getD .skip
def lv170:List (Nat×List Nat):=[]
def T170 (O:CallF)(Q:VQ)(x0:Int)(h:Hp):Prop:=
 Q (.bool (!(eqI x0 x0))) h
theorem rk170 {O Q} (x0){h:Hp}(hO:O 170 [.int .i64 x0] h=none)(hh:T170 O Q x0 h):Ret Tryz.prog O 170 [.int .i64 x0] h Q:=
 .of (c:=b170) Tryz.func170 (by kernel_rfl) hO (V_okE (tb:=lv170) (cuts:=[]) 500 hh (by kernel_rfl))
noncomputable def b171:Code:=(Tryz.f171.body).getD .skip
def lv171:List (Nat×List Nat):=[]
def T171 (O:CallF)(Q:VQ)(s0 s1:ByteArray)(h:Hp):Prop:=
 ∃x1 h2,EvC Tryz.prog O 172 [.string s0,.string s1] h (.int .i64 x1) h2∧
 Q (.int .i64 x1) h2
theorem rk171 {O Q} (s0 s1){h:Hp}(hO:O 171 [.string s0,.string s1] h=none)(hh:T171 O Q s0 s1 h):Ret Tryz.prog O 171 [.string s0,.string s1] h Q:=
 .of (c:=b171) Tryz.func171 (by kernel_rfl) hO (V_okE (tb:=lv171) (cuts:=[]) 500 hh (by kernel_rfl))
end Go.Proofs.YtngcjpkccnfjiaaGreatDoor
