/- A deterministic evaluator over named memory: its definitions (no program in sight). -/
import Derived.OrdersHeld
import Derived.Laws.Cells
import Derived.Laws.Entries
import Derived.IntWalk
import Derived.Laws.Alloc2
import Derived.Deep.AppendSrc
import Derived.Deep.MidRow
import Derived.Laws.IdiomStrings
import Derived.Laws.BytesArg
import Derived.Laws.MakeOwn
import Derived.Lib.AppendZerosOnto
import Derived.Deep.Upon
import Derived.Laws.AppendOwn
namespace Go.Ev
open Go
def unk:Nat:=18446744073709551616
def big:Nat:=4611686018427387904
inductive Md where
 |ro|fix|grow
 deriving DecidableEq
inductive Tr (α:Type) where
 |nil
 |node (v:α) (l r:Tr α)
structure Lp where
 st:Nat
 pend:Option Code
 t:List Value
 ps:Array Tmp
 asg:Code
 body:Code
inductive Ob where
 |cells (c:List Value) (elem:TypeId) (m:Md)
 |siter (s:ByteArray) (pos:Nat)
 |loop (r:Lp)
noncomputable section
def Tr.get {α:Type}(d:α)(t:Tr α):Nat→α:=
 Tr.rec (motive:=fun _=>Nat→α) (fun _=>d)
  (fun v _ _ gl gr n=>Nat.rec (motive:=fun _=>α) v (fun m _=>Nat.rec (motive:=fun _=>α) (gl (m/2)) (fun _ _=>gr (m/2)) (m%2)) n) t
def Tr.set {α:Type}(t:Tr α):Nat→α→Tr α:=
 Tr.rec (motive:=fun _=>Nat→α→Tr α) (fun _ _=> .nil)
  (fun v l r sl sr n x=>Nat.rec (motive:=fun _=>Tr α) (.node x l r) (fun m _=>Nat.rec (motive:=fun _=>Tr α) (.node v (sl (m/2) x) r) (fun _ _=> .node v l (sr (m/2) x)) (m%2)) n) t
def Tr.full {α:Type}(d:α)(n:Nat):Tr α:=Nat.rec (motive:=fun _=>Tr α) .nil (fun _ t=> .node d t t) n
def Tr.pathN {α:Type}(d x:α)(k:Nat):Nat→Tr α:=
 Nat.rec (motive:=fun _=>Nat→Tr α) (fun _=> .node x .nil .nil)
  (fun _ ih n=>Nat.rec (motive:=fun _=>Tr α) (.node x .nil .nil) (fun m _=>Nat.rec (motive:=fun _=>Tr α) (.node d (ih (m/2)) .nil) (fun _ _=> .node d .nil (ih (m/2))) (m%2)) n) k
def Tr.upd {α:Type}(d:α)(t:Tr α):Nat→α→Tr α:=
 Tr.rec (motive:=fun _=>Nat→α→Tr α) (fun n x=>Tr.pathN d x n n)
  (fun v l r sl sr n x=>Nat.rec (motive:=fun _=>Tr α) (.node x l r) (fun m _=>Nat.rec (motive:=fun _=>Tr α) (.node v (sl (m/2) x) r) (fun _ _=> .node v l (sr (m/2) x)) (m%2)) n) t
structure Hp where
 t:Tr (Option Ob)
 nx:Nat
 gd:List Nat
def Hp.get (h:Hp)(o:Nat):Option Ob:=h.t.get none o
def Hp.guarded (h:Hp)(o:Nat):Bool:=h.gd.any (Nat.beq o)
def Hp.put (h:Hp)(o:Nat)(x:Option Ob):Option Hp:=bif h.guarded o then none else some { h with t:=h.t.upd none o x }
def Hp.add (h:Hp)(x:Ob):Hp:= { h with t:=h.t.upd none h.nx (some x),nx:=h.nx+1 }
def wrapF (k:IntKind)(n:Int):Int:=match k,n with
 | .i64,.ofNat m=>bif Nat.blt m 9223372036854775808 then n else IntKind.wrap .i64 n
 | .i64,.negSucc m=>bif Nat.blt m 9223372036854775808 then n else IntKind.wrap .i64 n
 | .u32,.ofNat m=> .ofNat (m%4294967296)
 | .u8,.ofNat m=> .ofNat (m%256)
 |k,n=>k.wrap n
def ltI:Int→Int→Bool
 | .ofNat a,.ofNat b=>Nat.blt a b
 | .negSucc a,.negSucc b=>Nat.blt b a
 | .negSucc _,.ofNat _=>true
 | .ofNat _,.negSucc _=>false
def eqI:Int→Int→Bool
 | .ofNat a,.ofNat b=>Nat.beq a b
 | .negSucc a,.negSucc b=>Nat.beq a b
 |_,_=>false
def kindB:IntKind→IntKind→Bool
 | .i8,.i8| .i16,.i16| .i32,.i32| .i64,.i64| .u8,.u8| .u16,.u16| .u32,.u32| .u64,.u64=>true
 |_,_=>false
def dig (k:IntKind):Option Nat:=match k with
 | .u32=>some 4294967296
 | .u8=>some 256
 | .i64=>some 9223372036854775808
 | .u64=>some 18446744073709551616
 |_=>none
def bitsF (f:Nat→Nat→Nat)(k:IntKind)(a b:Int):Option Value:=match dig k,a,b with
 |some m,.ofNat a,.ofNat b=>bif Nat.blt a m&&Nat.blt b m then some (.int k (.ofNat (f a b)))else none
 |_,_,_=>none
def binF (op:BinOp)(k:IntKind)(a b:Int):Option Value:=match op with
 | .add=>some (.int k (wrapF k (a+b)))
 | .sub=>some (.int k (wrapF k (a-b)))
 | .mul=>some (.int k (wrapF k (a*b)))
 | .quo=>bif eqI b 0 then none else some (.int k (wrapF k (a.tdiv b)))
 | .rem=>bif eqI b 0 then none else some (.int k (a.tmod b))
 | .eql=>some (.bool (eqI a b))
 | .neq=>some (.bool (!(eqI a b)))
 | .lss=>some (.bool (ltI a b))
 | .leq=>some (.bool (!(ltI b a)))
 | .gtr=>some (.bool (ltI b a))
 | .geq=>some (.bool (!(ltI a b)))
 | .and=>bitsF Nat.land k a b
 | .or=>bitsF Nat.lor k a b
 | .andNot=>bitsF (fun a b=>a-Nat.land a b) k a b
 |_=>none
def nth {α:Type}(l:List α):Nat→Option α:=
 List.rec (motive:=fun _=>Nat→Option α) (fun _=>none) (fun a _ ih n=>Nat.rec (motive:=fun _=>Option α) (some a) (fun m _=>ih m) n) l
def mapO {α β:Type}(f:α→Option β)(l:List α):Option (List β):=
 List.rec (motive:=fun _=>Option (List β)) (some []) (fun a _ ih=>(f a).bind fun b=>ih.map (b:: ·)) l
def yB:Nat:=1099511627776
def noY:Fn→Bool
 | .yield _=>false
 | .func f=>Nat.blt f yB
 |_=>true
def flatN:Nat→Value→Bool
 |0,_=>false
 |n+1,v=>match v with
  | .bool _| .int _ _| .string _| .nilFunc| .nilIface| .float _ _| .complex _ _ _=>true
  | .pointer none| .map none| .chan none| .slice none 0 0=>true
  | .func f a b=>noY f&&(a.toList.all (flatN n)&&b.toList.all (flatN n))
  | .iface _ v=>flatN n v
  | .agg cs=>cs.toList.all (flatN n)
  | .tuple cs=>cs.toList.all (flatN n)
  |_=>false
def flat (v:Value):Bool:=flatN 5 v
def one:Value→Bool
 | .agg _| .tuple _=>false
 |_=>true
def pureRun {α:Type}(P:Program):Sem α→Option α
 | .pure a=>some a
 | .program k=>pureRun P (k P)
 | .mark _ k=>pureRun P k
 |_=>none
abbrev Fr:=Tr Value
def slot (t:Fr)(i:Nat):Value:=t.get undef i
def opv (P:Program)(t:Fr):Operand→Option Value
 | .tmp i=>some (slot t i)
 | .const v=>match v with
   | .int _ _| .bool _=>some v
   |v=>bif flat v then some v else none
 | .global g=>bif Nat.blt g P.globals.size then some (.pointer (some ⟨g,0,none⟩))else none
 | .func f=>bif Nat.blt f yB then some (.func (.func f) #[] #[])else none
def opw (t:Fr):Operand→Value
 | .tmp i=>slot t i
 | .const v=>v
 | .global g=> .pointer (some ⟨g,0,none⟩)
 | .func f=> .func (.func f) #[] #[]
def aggT (P:Program)(t:TypeId):Option Bool:=match P.underlying t with
 |some (.struct _)|some (.array _ _)=>some true
 |some _=>some false
 |none=>none
def sz (P:Program)(t:TypeId):Option Nat:=(P.info? t).map (·.size)
def elemT (P:Program)(t:TypeId):Option TypeId:=match P.underlying t with
 |some (.slice e)=>some e
 |_=>none
def putAt {α:Type}:List α→Nat→List α→List α
 |xs,0,[]=>xs
 |_::xs,0,v::vs=>v::putAt xs 0 vs
 |x::xs,n+1,vs=>x::putAt xs n vs
 | [],_,_=>[]
def readAt (h:Hp)(o off n:Nat):Option (List Value):=match h.get o with
 |some (.cells c _ _)=>let l:=(c.drop off).take n;bif Nat.beq l.length n then some l else none
 |_=>none
def writeAt (h:Hp)(o off:Nat)(vs:List Value):Option Hp:=match h.get o with
 |some (.cells c e m)=>match m with
  | .ro=>none
  |m=>bif Nat.ble (off+vs.length) c.length&&vs.all one then h.put o (some (.cells (putAt c off vs) e m))else none
 |_=>none
def srcCells (h:Hp)(esz:Nat):Value→Option (List Value×Nat)
 | .slice none _ _=>some ([],0)
 | .slice (some ⟨o,off,none⟩) len _=>(readAt h o off (len*esz)).map fun l=>(l,len)
 | .string s=>bif Nat.beq esz 1 then some (s.data.toList.map fun b=> .int .u8 b.toNat,s.size)else none
 |_=>none
def seen (h:Hp)(e:TypeId)(esz:Nat):Value→Option Nat
 | .slice none _ c=>some c
 | .slice (some ⟨o,off,none⟩) _ c=>bif Nat.beq c unk then (match h.get o with
    |some (.cells cs e' .grow)=>bif Nat.beq e e'&&Nat.blt 0 esz then some ((cs.length-off)/esz)else none
    |_=>none)else some c
 |_=>none
def need (b:Bool):Option Unit:=bif b then some ()else none
def appSrc (P:Program)(h:Hp)(info:TypeInfo)(z:Value)(xT:TypeId)(x:Value):Option (List Value×Nat):=match P.underlying xT with
 |some (.int _)=>match x with
  | .int _ (.ofNat n)=>bif Nat.ble (n*info.bytes) 281474976710656&&Nat.blt n big then some (List.flatten (List.replicate n z.cells.toList),n)else none
  |_=>none
 |some (.slice _)=>match x with
  | .slice _ _ _=>srcCells h info.size x
  |_=>none
 |some .string=>match x with
  | .string _=>srcCells h info.size x
  |_=>none
 |_=>none
def appNone (h:Hp)(s:Value):Option (Value×Hp):=match s with
 | .slice none 0 0=>some (s,h)
 | .slice (some _) len cap=>bif Nat.ble len cap then some (s,h)else none
 |_=>none
def appNew (h:Hp)(e:TypeId)(bytes:Nat)(old xs:List Value)(m:Nat):Option (Value×Hp):=
 bif Nat.ble ((m+m)*bytes) 281474976710656&&Nat.blt m big then some (.slice (some ⟨h.nx,0,none⟩) m unk,h.add (.cells (old++xs) e .grow))else none
def isGrow:Md→Bool
 | .grow=>true
 |_=>false
def appSome (h:Hp)(e:TypeId)(bytes esz:Nat)(s:Value)(xs:List Value)(n:Nat):Option (Value×Hp):=match s with
 | .slice none 0 0=>appNew h e bytes [] xs n
 | .slice (some ⟨o,off,none⟩) len cap=>match h.get o with
   |some (.cells c e' m)=>
    bif Nat.beq cap unk then
     bif Nat.beq e e'&&isGrow m then
      bif Nat.ble (off+(len+n)*esz) c.length then (writeAt h o (off+len*esz) xs).map fun h'=>(.slice (some ⟨o,off,none⟩) (len+n) unk,h')
      else bif Nat.beq (off+len*esz) c.length then (appNew h e bytes (c.drop off) xs (len+n)).bind fun r=>(r.2.put o none).map fun h'=>(r.1,h')
      else none
     else none
    else bif Nat.ble (len+n) cap then (writeAt h o (off+len*esz) xs).map fun h'=>(.slice (some ⟨o,off,none⟩) (len+n) cap,h')
    else (readAt h o off (len*esz)).bind fun old=>appNew h e bytes old xs (len+n)
   |_=>none
 |_=>none
def appendV (P:Program)(h:Hp)(sT xT:TypeId)(s x:Value):Option (Value×Hp):=do
 let e←elemT P sT
 let info←P.info? e
 let z←info.zero
 need (!(Nat.beq info.size 0)&&Nat.beq z.cells.size info.size&&z.cells.toList.all (fun v=>flat v&&one v))
 let r←appSrc P h info z xT x
 need (r.1.all one)
 bif Nat.beq r.2 0 then appNone h s else appSome h e info.bytes info.size s r.1 r.2
def lenV:Value→Option Nat
 | .slice _ m _=>some m
 | .string b=>some b.size
 |_=>none
def copySrc (h:Hp)(esz k:Nat):Value→Option (List Value)
 | .slice (some ⟨q,at_,none⟩) _ _=>readAt h q at_ (k*esz)
 | .string b=>some ((b.data.toList.take k).map fun b=> .int .u8 b.toNat)
 |_=>none
def copyV (P:Program)(h:Hp)(dT:TypeId)(d s:Value):Option (Value×Hp):=(elemT P dT).bind fun e=>(sz P e).bind fun esz=>(lenV s).bind fun m=>match d with
 | .slice none _ _=>some (.int .i64 0,h)
 | .slice (some ⟨o,off,none⟩) n _=>
   bif Nat.beq (Nat.min m n) 0 then some (.int .i64 0,h)else
   (copySrc h esz (Nat.min m n) s).bind fun xs=>bif xs.all one then (writeAt h o off xs).map fun h'=>(.int .i64 (Int.ofNat (Nat.min m n)),h')else none
 |_=>none
def clearV (P:Program)(h:Hp)(sT:TypeId)(s:Value):Option (Value×Hp):=(elemT P sT).bind fun e=>match s with
 | .slice none _ _=>some (.tuple #[],h)
 | .slice (some ⟨o,off,none⟩) n _=>
   bif Nat.beq n 0 then some (.tuple #[],h)else
   (P.info? e).bind fun info=>info.zero.bind fun z=>
   bif z.cells.toList.all (fun v=>flat v&&one v)then
    (writeAt h o off (List.flatten (List.replicate n z.cells.toList))).map fun h'=>(.tuple #[],h')
   else none
 |_=>none
def storeV (P:Program)(h:Hp)(ty:TypeId)(av v:Value):Option Hp:=(sz P ty).bind fun n=>match av with
 | .pointer (some ⟨b,off,none⟩)=>bif Nat.beq v.cells.toList.length n then writeAt h b off v.cells.toList else none
 |_=>none
def nextV (h:Hp)(v:Value):Option (Value×Hp):=match v with
 | .pointer (some ⟨b,0,none⟩)=>match h.get b with
   |some (.siter s pos)=>
    bif Nat.blt pos s.size then
     (h.put b (some (.siter s (pos+(Utf8.decode s pos).2)))).map fun h'=>(.tuple #[.bool true,goInt pos,.int .i32 (Utf8.decode s pos).1],h')
    else some (.tuple #[.bool false],h)
   |_=>none
 |_=>none
def boundV (x:Value)(m:Nat):Option Nat:=match x with
 | .int _ (.ofNat i)=>bif Nat.ble i m then some i else none
 |_=>none
def boundM (mx:Option Value)(vis:Nat):Option Nat:=match mx with
 |some v=>boundV v vis
 |none=>some vis
def boundH (hi mx:Option Value)(m len:Nat):Option Nat:=match hi,mx with
 |some v,_=>boundV v m
 |none,none=>some len
 |none,some _=>none
def boundL (lo:Option Value)(hh:Nat):Option Nat:=match lo with
 |some v=>boundV v hh
 |none=>some 0
def bounds (len vis:Nat)(lo hi mx:Option Value):Option (Nat×Nat×Nat):=
 (boundM mx vis).bind fun m=>(boundH hi mx m len).bind fun hh=>(boundL lo hh).map fun l=>(l,hh,m)
def sliceV (P:Program)(h:Hp)(t:TypeId)(x:Value)(lo hi mx:Option Value):Option Value:=
 match P.underlying t,x with
 |some (.slice e),.slice a len cap=>do
  let esz←sz P e
  let vis←seen h e esz x
  let r←bounds len vis lo hi mx
  let l:=r.1
  let hh:=r.2.1
  let m:=r.2.2
  match a with
  |none=>bif Nat.beq vis 0&&Nat.beq len 0 then some (.slice none 0 0)else none
  |some ⟨o,off,none⟩=>
   bif Nat.beq cap unk&&mx.isNone then some (.slice (some ⟨o,off+l*esz,none⟩) (hh-l) unk)
   else bif Nat.blt m unk then some (.slice (some ⟨o,bif Nat.beq m l then off else off+l*esz,none⟩) (hh-l) (m-l))else none
  |_=>none
 |some (.array n e),.pointer (some ⟨o,off,none⟩)=>do
  let esz←sz P e
  let r←bounds n n lo hi mx
  let l:=r.1
  let hh:=r.2.1
  let m:=r.2.2
  bif Nat.blt m unk then some (.slice (some ⟨o,bif Nat.beq m l then off else off+l*esz,none⟩) (hh-l) (m-l))else none
 |_,_=>none
inductive Kd where
 |pure_|read|mk|eff
 deriving DecidableEq
def kindOf (P:Program):Op→Kd
 | .load _ _=> .read
 | .alloc _| .box .. | .buildSlice .. | .makeSlice .. => .mk
 | .store .. | .next .. | .range .. | .makeMap .. | .mapUpdate .. | .lookup .. | .insert .. | .entry _| .mapEntry .. | .entryStore .. => .eff
 | .slice .. => .read
 | .convert src dst _=>match P.underlying dst with
   |some (.slice _)=> .eff
   |some .string=>(match P.underlying src with
    |some (.slice _)=> .read
    |_=> .pure_)
   |_=> .pure_
 | .call c=>match c.callee with
   | .builtin .len| .builtin .max| .builtin .min=> .pure_
   |_=> .eff
 | .panic _| .defer _| .go _| .send .. | .recv .. | .select .. | .makeChan .. | .ready _| .waits _=> .eff
 |_=> .pure_
def flatRun (P:Program)(t:Fr)(o:Oper):Option Value:=match mapO (opv P t) o.op.operands.toList with
 |some l=>bif l.all flat then (match pureRun P (execOp (opw t) o)with
  |some (.value r)=>bif flat r then some r else none
  |_=>none)else none
 |none=>none
def ptrT (P:Program)(t:TypeId):Option TypeId:=match P.underlying t with
 |some (.pointer e)=>some e
 |_=>none
def nilV (op:BinOp):Option Value:=match op with
 | .eql=>some (.bool false)
 | .neq=>some (.bool true)
 |_=>none
def nilE (op:BinOp):Option Value:=match op with
 | .eql=>some (.bool true)
 | .neq=>some (.bool false)
 |_=>none
def binV (P:Program)(op:BinOp)(xt:TypeId)(a b:Value)(fb:Option Value):Option Value:=match a,b with
 | .int k x,.int k' y=>bif kindB k k' then (match binF op k x y with
   |some r=>some r
   |none=>fb)else fb
 | .slice (some _) _ _,.slice none _ _=>(elemT P xt).bind fun _=>nilV op
 | .pointer (some _),.pointer none=>(ptrT P xt).bind fun _=>nilV op
 | .slice none _ _,.slice none _ _=>(elemT P xt).bind fun _=>nilE op
 | .pointer none,.pointer none=>(ptrT P xt).bind fun _=>nilE op
 |_,_=>fb
def stepPure (P:Program)(t:Fr)(o:Oper):Option Value:=
 match o.op with
 | .fieldAddr s x f=>do
   let v←opv P t x
   match P.underlying s,v with
   |some (.struct fs),.pointer (some ⟨b,off,none⟩)=>do
    let fl←fs[f]?
    let n←sz P fl.type
    bif Nat.beq n 0 then none else some (.pointer (some ⟨b,off+fl.offset,none⟩))
   |_,_=>none
 | .indexAddr s x i=>do
   let v←opv P t x
   let iv←opv P t i
   match P.underlying s,v,iv with
   |some (.slice e),.slice (some ⟨b,off,none⟩) len _,.int _ (.ofNat k)=>do
    let n←sz P e
    bif Nat.blt k len then some (.pointer (some ⟨b,off+k*n,none⟩))else none
   |some (.array len e),.pointer (some ⟨b,off,none⟩),.int _ (.ofNat k)=>do
    let n←sz P e
    bif Nat.blt k len then some (.pointer (some ⟨b,off+k*n,none⟩))else none
   |_,_,_=>none
 | .call { callee:= .builtin .len,args,argTypes }=>do
   let v←opv P t (args.getD 0 (.const undef))
   match v,(argTypes[0]?).bind P.underlying with
   | .slice _ n _,some (.slice _)=>bif Nat.beq args.size 1 then some (.int .i64 (n:Nat))else none
   |_,_=>flatRun P t o
 | .move x=>opv P t x
 | .assign x=>opv P t x
 | .pick c a b=>(opv P t c).bind fun v=>match v with
   | .bool true=>(opv P t b).bind fun _=>opv P t a
   | .bool false=>(opv P t a).bind fun _=>opv P t b
   |_=>none
 | .extract x i=>(opv P t x).bind fun v=>match v with
   | .tuple vs=>nth vs.toList i
   |_=>none
 | .field ty x f=>(opv P t x).bind fun v=>match P.underlying ty,v with
   |some (.struct fs),.agg cs=>(nth fs.toList f).bind fun fl=>(aggT P fl.type).bind fun ag=>bif ag then (sz P fl.type).map fun n=> .agg (cs.extract fl.offset (fl.offset+n))else nth cs.toList fl.offset
   |_,_=>none
 | .makeInterface ty x=>(opv P t x).bind fun v=>match P.underlying ty with
   |some (.interface _)=>none
   |some _=>some (.iface ty v)
   |none=>none
 | .makeFunc fn a b=>bif noY fn then (mapO (opv P t) a.toList).bind fun a=>(mapO (opv P t) b.toList).map fun b=> .func fn a.toArray b.toArray else none
 | .nilCheck x=>(opv P t x).bind fun v=>match v with
   | .pointer (some _)=>some v
   | .func (.func _) _ _=>some v
   |_=>none
 | .build ty parts=>do
   let z←(P.info? ty).bind (·.zero)
   need (z.cells.toList.all flat)
   let ps←mapO (fun(p:Nat×Operand)=>(opv P t p.2).map fun v=>(p.1,v)) parts.toList
   match P.underlying ty with
   |some (.struct fs)=>do
    let places←mapO (fun(f:Field)=>(sz P f.type).map fun n=>(f.offset,n)) fs.toList
    (Instr.fill (fun i=>nth places i) z.cells ps).map fun cs=> .agg cs
   |some (.array _ e)=>do
    let n←sz P e
    (Instr.fill (fun i=>some (i*n,n)) z.cells ps).map fun cs=> .agg cs
   |_=>none
 | .binOp op xt x y _=>(opv P t x).bind fun a=>(opv P t y).bind fun b=>binV P op xt a b (flatRun P t o)
 | .typeAssert x _ asserted ok=>(opv P t x).bind fun v=>match P.underlying asserted,v with
   |some (.interface _),_=>flatRun P t o
   |some _,.iface ty w=>bif Nat.beq ty asserted then some (bif ok then .tuple #[w,.bool true]else w)else (bif ok then ((P.info? asserted).bind (·.zero)).bind fun z=>bif flat z then some (.tuple #[z,.bool false])else none else none)
   |_,_=>flatRun P t o
 | .convert src dst x=>(opv P t x).bind fun v=>match v,P.underlying dst with
   | .int _ n,some (.int k)=>(P.underlying src).bind fun _=>some (.int k (wrapF k n))
   |_,_=>flatRun P t o
 |_=>flatRun P t o
def opq (P:Program)(t:Fr)(q:Option Operand):Option (Option Value):=match q with
 |none=>some none
 |some q=>(opv P t q).map some
def blocksOf (v:Value):List Nat:=match v with
 | .slice (some a) _ _=>[a.block]
 |_=>[]
def bytesOf:List Value→Option (List UInt8)
 | []=>some []
 | .int .u8 (.ofNat n)::r=>bif Nat.blt n 256 then (bytesOf r).map (UInt8.ofNat n:: ·)else none
 |_::_=>none
def bytesT (P:Program)(t:TypeId):Option TypeId:=match P.underlying t with
 |some (.slice e)=>(match P.underlying e with
  |some (.int .u8)=>some e
  |_=>none)
 |_=>none
def stepRead (P:Program)(t:Fr)(o:Oper)(h:Hp):Option (Value×List Nat):=
 match o.op with
 | .load ty x=>do
   let v←opv P t x
   match v with
   | .pointer (some ⟨b,off,none⟩)=>do
     let ag←aggT P ty
     bif ag then do
      let n←sz P ty
      let l←readAt h b off n
      some (.agg l.toArray,[b])
     else do
      let l←readAt h b off 1
      some (l.headD undef,[b])
   |_=>none
 | .convert src dst x=>do
   let v←opv P t x
   let _←bytesT P src
   match P.underlying dst,v with
   |some .string,.slice none _ _=>some (.string .empty,[])
   |some .string,.slice (some ⟨b,off,none⟩) n _=>do
    let l←readAt h b off n
    let bs←bytesOf l
    some (.string ⟨bs.toArray⟩,[b])
   |_,_=>none
 | .slice ty x lo hi mx=>do
   let v←opv P t x
   match v with
   | .string _=>(flatRun P t o).map fun r=>(r,[])
   |_=>do
    let l←opq P t lo
    let m←opq P t hi
    let n←opq P t mx
    let r←sliceV P h ty v l m n
    some (r,blocksOf v)
 |_=>none
def stepMk (P:Program)(t:Fr)(o:Oper):Option (Ob×(Nat→Value)):=
 match o.op with
 | .alloc e=>do
   let info←P.info? e
   let z←info.zero
   need (z.cells.toList.all (fun v=>flat v&&one v))
   some (.cells z.cells.toList e .fix,fun n=> .pointer (some ⟨n,0,none⟩))
 | .box e x=>do
   let v←opv P t x
   need (v.cells.toList.all one)
   some (.cells v.cells.toList e .fix,fun n=> .pointer (some ⟨n,0,none⟩))
 | .buildSlice ty n parts=>do
   let e←elemT P ty
   let info←P.info? e
   let z←info.zero
   need (Nat.ble (n*info.size) 16777216&& !(Nat.beq info.size 0))
   let zs:=z.cells
   need (zs.toList.all (fun v=>flat v&&one v)&&Nat.beq zs.size info.size)
   let ps←mapO (fun(p:Nat×Operand)=>(opv P t p.2).map fun v=>(p.1,v)) parts.toList
   let cells←Instr.fill (fun i=>some (i*info.size,info.size)) ((Array.range (n*info.size)).map (zs[· %zs.size]!)) ps
   need (cells.toList.all one)
   some (.cells cells.toList e .fix,fun k=> .slice (some ⟨k,0,none⟩) n n)
 | .makeSlice ty l c=>do
   let e←elemT P ty
   let info←P.info? e
   let z←info.zero
   let lv←opv P t l
   let cv←opv P t c
   match lv,cv with
   | .int _ (.ofNat l),.int _ (.ofNat c)=>
     bif Nat.ble l c&&Nat.ble (c*info.bytes) 281474976710656&&Nat.blt c big&& !(Nat.beq info.size 0)&&Nat.beq z.cells.size info.size&&z.cells.toList.all (fun v=>flat v&&one v)then
      some (.cells (List.flatten (List.replicate c z.cells.toList)) e .fix,fun k=> .slice (some ⟨k,0,none⟩) l c)
     else none
   |_,_=>none
 |_=>none
abbrev CallF:=FuncId→List Value→Hp→Option (Value×Hp)
def invF (P:Program)(t:TypeId)(name:String):Option FuncId:=(P.info? t).bind fun info=>(info.methods.find? (·.name==name)).bind fun m=>
 bif m.path.isEmpty then (match m.func with
  |some (f,pr)=>(match P.underlying t,pr with
   |some (.pointer _),true=>some f
   |some (.pointer _),false=>none
   |some _,false=>some f
   |_,_=>none)
  |none=>none)else none
def stepEff (P:Program)(cf:CallF)(t:Fr)(o:Oper)(h:Hp):Option (Value×Hp):=
 match o.op with
 | .store ty a x=>do
   let av←opv P t a
   let v←opv P t x
   let h'←storeV P h ty av v
   some (undef,h')
 | .convert src dst x=>do
   let v←opv P t x
   let e←bytesT P dst
   match P.underlying src,v with
   |some .string,.string s=>some (.slice (some ⟨h.nx,0,none⟩) s.size unk,h.add (.cells (s.data.toList.map fun b=> .int .u8 (Int.ofNat b.toNat)) e .ro))
   |_,_=>none
 | .range xt x=>do
   let v←opv P t x
   match P.underlying xt,v with
   |some .string,.string s=>some (.pointer (some ⟨h.nx,0,none⟩),h.add (.siter s 0))
   |_,_=>none
 | .next x is=>do
   let v←opv P t x
   bif is then nextV h v else none
 | .call { callee:= .value f,args, .. }=>do
   let fv←opv P t f
   let az←mapO (opv P t) args.toList
   match fv with
   | .func (.func g) first cap=>cf g (first.toList++az++cap.toList) h
   | .func (.yield l) first cap=>bif Nat.beq first.size 0&&Nat.beq cap.size 0 then cf (yB+l) az h else none
   |_=>none
 | .call { callee:= .invoke x name,args, .. }=>do
   let xv←opv P t x
   let az←mapO (opv P t) args.toList
   match xv with
   | .iface ty v=>(invF P ty name).bind fun f=>bif Nat.blt f yB then cf f (v::az) h else none
   |_=>none
 | .call { callee:= .builtin b,args,argTypes }=>do
   let az←mapO (opv P t) args.toList
   match b,az,argTypes.toList with
   | .append,[s,x],[sT,xT]=>appendV P h sT xT s x
   | .copy,[d,s],[dT,_]=>copyV P h dT d s
   | .cap,[s],[sT]=>match s with
     | .slice _ _ c=>(elemT P sT).bind fun _=>bif Nat.beq c unk then none else some (.int .i64 (c:Nat),h)
     |_=>none
   | .clear,[s],[sT]=>clearV P h sT s
   |_,_,_=>none
 |_=>none
structure St where
 t:Fr
 n:Nat
 h:Hp
inductive Ex where
 |normal
 |exit (id:Nat)
 |ret
 |goto (l:Nat)
def St.setT (s:St)(d:Option Nat)(v:Value):Fr:=match d with
 |some d=>bif Nat.blt d s.n then s.t.set d v else s.t
 |none=>s.t
def yieldedL (ops:Array Oper)(t:Fr)(j:Nat):Option Bool:=
 match (nth ops.toList j).bind (·.dst)with
 |some d=>match slot t d with
  | .bool b=>some b
  |_=>none
 |none=>none
def wantedF (ops:Array Oper)(t:Fr)(o:Oper):Bool:=match o.guard with
 |none=>true
 |some (j,w)=>match yieldedL ops t j with
  |some b=>bif w then b else !b
  |none=>false
def stepOp (P:Program)(cf:CallF)(ops:Array Oper)(o:Oper)(s:St):Option St:=
 bif wantedF ops s.t o then
  match kindOf P o.op with
  | .pure_=>(stepPure P s.t o).map fun v=>⟨s.setT o.dst v,s.n,s.h⟩
  | .read=>(stepRead P s.t o s.h).map fun r=>⟨s.setT o.dst r.1,s.n,s.h⟩
  | .mk=>(stepMk P s.t o).map fun r=>⟨s.setT o.dst (r.2 s.h.nx),s.n,s.h.add r.1⟩
  | .eff=>(stepEff P cf s.t o s.h).map fun r=>⟨s.setT o.dst r.1,s.n,r.2⟩
 else some ⟨s.setT o.dst undef,s.n,s.h⟩
def runOps (P:Program)(cf:CallF)(ops:Array Oper)(l:List Oper):St→Option St:=
 List.rec (motive:=fun _=>St→Option St) (fun s=>some s) (fun o _ ih s=>(stepOp P cf ops o s).bind ih) l
def masksF:List Oper→List Nat→List Nat
 | [],acc=>acc
 |o::rest,acc=>masksF rest (acc++[o.after.toList.foldl (fun m e=>bif Region.binds .any e then (m ||| 2^e.on ||| acc.getD e.on 0)else m) 0])
def masks (ops:List Oper):List Nat:=masksF ops []
def kindAt (P:Program)(ops:List Oper)(i:Nat):Kd:=match ops[i]? with
 |some o=>kindOf P o.op
 |none=> .eff
def plan (P:Program)(ops:List Oper)(ms:List Nat):Nat→Nat→List Nat
 |0,_=>[]
 |f+1,done=>
  let rs:=(List.range ops.length).filter fun i=> !(done.testBit i)&&Nat.beq (ms.getD i 0 &&& done) (ms.getD i 0)
  let pick (k:Kd→Bool):Option Nat:=rs.find? fun i=>k (kindAt P ops i)
  let nexte:Nat:=(((List.range ops.length).find? fun i=> !(done.testBit i)&&(kindAt P ops i== .eff)).map fun e=>ms.getD e 0).getD 0
  match pick (fun k=>k== .pure_||k== .read)with
  |some i=>i::plan P ops ms f (done ||| 2^i)
  |none=>match pick (fun k=>k== .eff)with
   |some i=>i::plan P ops ms f (done ||| 2^i)
   |none=>match rs.find? fun i=>nexte.testBit i with
    |some i=>i::plan P ops ms f (done ||| 2^i)
    |none=>match rs with
     |i::_=>i::plan P ops ms f (done ||| 2^i)
     | []=>[]
def namesOf (ops:List Oper)(o:Oper):List Nat:=
 o.dst.toList++o.op.operands.toList.filterMap (fun| .tmp t=>some t|_=>none)++
  (match o.guard with|some (j,_)=>((ops[j]?).bind (·.dst)).toList|none=>[])
def swapOk (P:Program)(ops:List Oper)(a b:Oper):Bool:=
 (match a.dst with|some d=> !((namesOf ops b).any (Nat.beq d))|none=>true)&&
 (match b.dst with|some d=> !((namesOf ops a).any (Nat.beq d))|none=>true)&&
 (match kindOf P a.op,kindOf P b.op with
 | .pure_,_|_,.pure_| .read,_| .mk,.mk| .eff,.mk=>true
 |_,_=>false)
def pairsOk (P:Program)(ops:List Oper)(ms:List Nat):List Nat→Bool
 | []=>true
 |i::rest=>rest.all (fun j=>(ms.getD j 0).testBit i||(match ops[i]?,ops[j]? with|some a,some b=>swapOk P ops a b|_,_=>false))&&pairsOk P ops ms rest
def linearOk (ms:List Nat):Nat→List Nat→Bool
 |_,[]=>true
 |done,i::rest=> !(done.testBit i)&&Nat.beq (ms.getD i 0 &&& done) (ms.getD i 0)&&linearOk ms (done ||| 2^i) rest
def planOk (P:Program)(ops:List Oper)(ms:List Nat)(pl:List Nat):Bool:=
 Nat.beq pl.length ops.length&&pl.all (fun i=>Nat.blt i ops.length)&&linearOk ms 0 pl&&pairsOk P ops ms pl
def Hp.addAt (h:Hp)(k:Nat)(x:Ob):Option Hp:=match h.get k with
 |none=>some { h with t:=h.t.upd none k (some x) }
 |some _=>none
abbrev Rds:=List (Nat×List Nat)
def planStep (P:Program)(cf:CallF)(ops:Array Oper)(ms:List Nat)(n0:Nat)(i:Nat)(q:Rds×St):Option (Rds×St):=
 let rds:=q.1
 let s:=q.2
 (nth ops.toList i).bind fun o=>
   bif wantedF ops s.t o then
    match kindOf P o.op with
    | .pure_=>(stepPure P s.t o).map fun v=>(rds,⟨s.setT o.dst v,s.n,s.h⟩)
    | .read=>(stepRead P s.t o s.h).map fun r=>((i,r.2)::rds,⟨s.setT o.dst r.1,s.n,s.h⟩)
    | .mk=>(stepMk P s.t o).bind fun r=>(s.h.addAt (n0+i) r.1).map fun h'=>(rds,⟨s.setT o.dst (r.2 (n0+i)),s.n,h'⟩)
    | .eff=>
      let g:=(rds.filter fun r=> !((ms.getD i 0).testBit r.1)).flatMap (·.2)
      (stepEff P cf s.t o { s.h with gd:=g++s.h.gd }).map fun r=>(rds,⟨s.setT o.dst r.1,s.n,{ r.2 with gd:=s.h.gd }⟩)
   else some (rds,⟨s.setT o.dst undef,s.n,s.h⟩)
def runPlan (P:Program)(cf:CallF)(ops:Array Oper)(ms:List Nat)(n0:Nat)(l:List Nat):Rds×St→Option St:=
 List.rec (motive:=fun _=>Rds×St→Option St) (fun q=>some q.2) (fun i _ ih q=>(planStep P cf ops ms n0 i q).bind ih) l
def runRegion (P:Program)(cf:CallF)(ops:Array Oper)(draw:Bool)(s:St):Option St:=
 bif draw then
  let ol:=ops.toList
  let ms:=masks ol
  let pl:=plan P ol ms ops.size 0
  bif planOk P ol ms pl then runPlan P cf ops ms s.h.nx pl ([],{ s with h:= { s.h with nx:=s.h.nx+ops.size } })
  else none
 else runOps P cf ops ops.toList s
def scopeF (run:Code→St→Option (Ex×St))(b:Code)(n:Nat):Code→St→Option (Ex×St):=
 Nat.rec (motive:=fun _=>Code→St→Option (Ex×St)) (fun _ _=>none) (fun _ ih c s=>(run c s).bind fun r=>match r.1 with
  | .goto l=>match findLabel b l with
    |some rest=>ih rest r.2
    |none=>some r
  |_=>some r) n
def argsIn:Nat→List Value→Fr→Fr
 |_,[],t=>t
 |i,v::rest,t=>argsIn (i+1) rest (t.set i v)
def mkFr (l:List Value):Fr:=argsIn 0 l (Tr.full undef (l.length+1))
def tmpsOf (s:St):List Value:=(List.range s.n).map (slot s.t)
def exOf:Option Code→Option Ex
 |none=>some .normal
 |some .ret=>some .ret
 |some (.exit id)=>some (.exit id)
 |some (.goto l)=>some (.goto l)
 |_=>none
def jumpOf:Ex→Option Code
 | .normal=>none
 | .ret=>some .ret
 | .exit id=>some (.exit id)
 | .goto l=>some (.goto l)
def isNone {α:Type}:Option α→Bool
 |none=>true
 |some _=>false
def hasBody (P:Program)(f:FuncId):Bool:=match P.funcs[f]? with
 |some fn=>(match fn.body with
  |some _=>true
  |none=>false)
 |none=>false
def afterLoop (l:Nat)(s:St)(h:Hp):Option (Ex×St):=match h.get l with
 |some (.loop r)=>bif Nat.beq r.st 1 then none else (exOf r.pend).bind fun e=>(h.put l none).map fun h'=>(e,⟨s.t,s.n,h'⟩)
 |_=>none
def noRange:Code→Bool
 | .rangeFunc _ _ _ _=>false
 | .seq a b=>noRange a&&noRange b
 | .cond _ a b=>noRange a&&noRange b
 | .block _ b=>noRange b
 | .loop b=>noRange b
 | .scope b=>noRange b
 |_=>true
def setPs:List Tmp→List Value→Fr→Fr
 |p::ps,v::vs,t=>setPs ps vs (t.set p v)
 |_,_,t=>t
def roundIn (l:Nat)(h:Hp):Option Hp:=match h.get l with
 |some (.loop r)=>bif Nat.beq r.st 0 then h.put l (some (.loop ⟨1,r.pend,r.t,r.ps,r.asg,r.body⟩))else none
 |_=>none
def roundOut (l:Nat)(e:Ex)(h:Hp):Option (Value×Hp):=match h.get l with
 |some (.loop r)=>(h.put l (some (.loop ⟨bif isNone (jumpOf e)then 0 else 2,jumpOf e,r.t,r.ps,r.asg,r.body⟩))).map fun h'=>(.bool (isNone (jumpOf e)),h')
 |_=>none
def ev (P:Program)(cf:CallF)(n:Nat):Code→St→Option (Ex×St):=
 Nat.rec (motive:=fun _=>Code→St→Option (Ex×St)) (fun _ _=>none) (fun n ih c s=>match c with
  | .skip| .label _=>some (.normal,s)
  | .ret=>some (.ret,s)
  | .exit id=>some (.exit id,s)
  | .seq a b=>(ih a s).bind fun r=>match r.1 with
    | .normal=>ih b r.2
    |_=>some r
  | .cond c a b=>(opv P s.t c).bind fun v=>match v with
    | .bool true=>ih a s
    | .bool false=>ih b s
    |_=>none
  | .block id b=>(ih b s).map fun r=>match r.1 with
    | .exit id'=>bif Nat.beq id' id then (.normal,r.2)else r
    |_=>r
  | .loop b=>(ih b s).bind fun r=>match r.1 with
    | .normal=>ih (.loop b) r.2
    |_=>some r
  | .goto l=>some (.goto l,s)
  | .scope b=>scopeF ih b n b s
  | .region _ ops draw=>(runRegion P cf ops draw s).map fun s'=>(.normal,s')
  | .rangeFunc g ps assign body=>(opv P s.t g).bind fun gv=>match gv with
    | .func (.func gf) first cap=>bif hasBody P gf then
       (cf gf (first.toList++[.func (.yield s.h.nx) #[] #[]]++cap.toList) (s.h.add (.loop ⟨0,none,tmpsOf s,ps,assign,body⟩))).bind fun r=>afterLoop s.h.nx s r.2
      else none
    |_=>none
  |_=>none) n
def resultsOf (P:Program)(fn:Func)(s:St):Option Value:=do
 let vs←mapO (fun(r:ResultVar)=>match r with
  | .tmp i=>some (slot s.t i)
  | .cell a ty=>match slot s.t a with
    | .pointer (some ⟨b,off,none⟩)=>do
      let ag←aggT P ty
      bif ag then do
       let n←sz P ty
       let l←readAt s.h b off n
       some (.agg l.toArray)
      else (readAt s.h b off 1).map fun l=>l.headD undef
    |_=>none) fn.results.toList
 match vs with
 | [v]=>some v
 |vs=>some (.tuple vs.toArray)
def frame (n:Nat)(args:List Value)(h:Hp):St:=
 let m:=max n args.length
 ⟨argsIn 0 args (Tr.full undef (m+1)),m,h⟩
def evRound (P:Program)(cf:CallF)(fuel:Nat)(l:Nat)(args:List Value)(h:Hp):Option (Value×Hp):=match h.get l with
 |some (.loop r)=>bif Nat.beq args.length r.ps.size&&r.ps.toList.all (fun p=>Nat.blt p r.t.length)&&noRange r.asg&&noRange r.body then
   (ev P cf fuel r.asg ⟨setPs r.ps.toList args (mkFr r.t),r.t.length,h⟩).bind fun q=>match q.1 with
     | .normal=>(roundIn l q.2.h).bind fun h1=>(ev P cf fuel r.body ⟨q.2.t,q.2.n,h1⟩).bind fun p=>roundOut l p.1 p.2.h
     |_=>none
  else none
 |_=>none
def evCall (P:Program)(fuel:Nat):Nat→CallF
 |0,_,_,_=>none
 |d+1,f,args,h=>bif Nat.ble yB f then evRound P (evCall P fuel d) fuel (f-yB) args h else do
  let fn←P.funcs[f]?
  match fn.body with
  |none=>
   bif args.all flat then
    match pureRun P (callFunc f args.toArray)with
    |some (.value v)=>bif flat v then some (v,h)else none
    |_=>none
   else none
  |some c=>
   let r←ev P (evCall P fuel d) fuel c (frame fn.ntmps args h)
   match r.1 with
   | .normal| .ret=>(resultsOf P fn r.2).map fun v=>(v,r.2.h)
   |_=>none
end
end Go.Ev
namespace Go.Ev
open Go
theorem Tr.get_node_zero {α:Type}(d v:α)(l r:Tr α):(Tr.node v l r).get d 0=v:=rfl
theorem Tr.get_node_succ {α:Type}(d v:α)(l r:Tr α)(m:Nat):(Tr.node v l r).get d (m+1)=if m%2=0 then l.get d (m/2)else r.get d (m/2):=by
 have h:m%2=0∨m%2=1:=by omega
 show Nat.rec (motive:=fun _=>α) (l.get d (m/2)) (fun _ _=>r.get d (m/2)) (m%2)=_;rcases h with h|h<;>rw[h]<;>rfl
theorem Tr.get_nil {α:Type}(d:α)(n:Nat):(Tr.nil:Tr α).get d n=d:=rfl
theorem Tr.set_nil {α:Type}(n:Nat)(x:α):(Tr.nil:Tr α).set n x= .nil:=rfl
theorem Tr.set_node_zero {α:Type}(v x:α)(l r:Tr α):(Tr.node v l r).set 0 x= .node x l r:=rfl
theorem Tr.set_node_succ {α:Type}(v x:α)(l r:Tr α)(m:Nat):(Tr.node v l r).set (m+1) x=if m%2=0 then .node v (l.set (m/2) x) r else .node v l (r.set (m/2) x):=by
 have h:m%2=0∨m%2=1:=by omega
 show Nat.rec (motive:=fun _=>Tr α) (Tr.node v (l.set (m/2) x) r) (fun _ _=> .node v l (r.set (m/2) x)) (m%2)=_;rcases h with h|h<;>rw[h]<;>rfl
def Tr.has {α:Type}:Tr α→Nat→Bool
 | .nil,_=>false
 | .node _ l r,n=>match n with
   |0=>true
   |m+1=>if m%2=0 then l.has (m/2)else r.has (m/2)
theorem Tr.get_set {α:Type}(d x:α)(t:Tr α): ∀n m,(t.set n x).get d m=if m=n then (if t.has n then x else d)else t.get d m:=by
 induction t with
 |nil=>intro n m;rw[Tr.set_nil,Tr.get_nil];simp[Tr.has]
 |node v l r ihl ihr=>
  intro n m;cases n with
  |zero=>
   rw[Tr.set_node_zero];cases m with
   |zero=>simp[Tr.get_node_zero,Tr.has]
   |succ m=>rw[Tr.get_node_succ,Tr.get_node_succ];simp
  |succ n=>
   rw[Tr.set_node_succ];cases m with
   |zero=>split<;>simp[Tr.get_node_zero]
   |succ m=>
    rw[Tr.get_node_succ];by_cases hn:n%2=0
    · rw[if_pos hn,Tr.get_node_succ];by_cases hm:m%2=0
      · rw[if_pos hm,if_pos hm,ihl];by_cases e:m=n
        · subst e;simp[Tr.has,hm]
        · rw[if_neg (by omega),if_neg (by omega)]
      · rw[if_neg hm,if_neg hm,if_neg (by omega)]
    · rw[if_neg hn,Tr.get_node_succ];by_cases hm:m%2=0
      · rw[if_pos hm,if_pos hm,if_neg (by omega)]
      · rw[if_neg hm,if_neg hm,ihr];by_cases e:m=n
        · subst e;simp[Tr.has,hm]
        · rw[if_neg (by omega),if_neg (by omega)]
theorem Tr.has_set {α:Type}(x:α)(t:Tr α): ∀n m,(t.set n x).has m=t.has m:=by
 induction t with
 |nil=>intro n m;rfl
 |node v l r ihl ihr=>
  intro n m;cases n with
  |zero=>cases m<;>rfl
  |succ n=>
   rw[Tr.set_node_succ];cases m with
   |zero=>split<;>rfl
   |succ m=>
    split
    · show(if m%2=0 then (l.set (n/2) x).has (m/2)else r.has (m/2))=_;rw[ihl];rfl
    · show(if m%2=0 then l.has (m/2)else (r.set (n/2) x).has (m/2))=_;rw[ihr];rfl
theorem Tr.full_succ {α:Type}(d:α)(k:Nat):Tr.full d (k+1)= .node d (Tr.full d k) (Tr.full d k):=rfl
theorem Tr.has_full {α:Type}(d:α): ∀k n,n+1<2^k→(Tr.full d k).has n=true:=by
 intro k
 induction k with
 |zero=>intro n h;simp at h
 |succ k ih=>
  intro n h;rw[Tr.full_succ];cases n with
  |zero=>rfl
  |succ m=>
   have h':m/2+1<2^k:=by rw[Nat.pow_succ]at h;omega
   show(if m%2=0 then _ else _)=true;split<;>exact ih _ h'
theorem Tr.get_full {α:Type}(d:α): ∀k n,(Tr.full d k).get d n=d:=by
 intro k
 induction k with
 |zero=>intro n;rfl
 |succ k ih=>
  intro n;rw[Tr.full_succ];cases n with
  |zero=>rfl
  |succ m=>rw[Tr.get_node_succ];split<;>exact ih _
theorem Tr.get_pathN {α:Type}(d x:α): ∀(k n m:Nat),n≤k→(Tr.pathN d x k n).get d m=if m=n then x else d:=by
 intro k
 induction k with
 |zero=>
  intro n m hn;obtain rfl:n=0:=by omega
  show(Tr.node x .nil .nil).get d m=_;cases m with
  |zero=>rfl
  |succ m=>rw[Tr.get_node_succ,Tr.get_nil];simp
 |succ k ih=>
  intro n m hn;cases n with
  |zero=>
   show(Tr.node x .nil .nil).get d m=_;cases m with
   |zero=>rfl
   |succ m=>rw[Tr.get_node_succ,Tr.get_nil];simp
  |succ n=>
   have e:Tr.pathN d x (k+1) (n+1)=if n%2=0 then .node d (Tr.pathN d x k (n/2)) .nil else .node d .nil (Tr.pathN d x k (n/2)):=by
    have h:n%2=0∨n%2=1:=by omega
    show Nat.rec (motive:=fun _=>Tr α) (Tr.node d (Tr.pathN d x k (n/2)) .nil) (fun _ _=> .node d .nil (Tr.pathN d x k (n/2))) (n%2)=_;rcases h with h|h<;>rw[h]<;>rfl
   rw[e];cases m with
   |zero=>split<;>simp[Tr.get_node_zero]
   |succ m=>
    by_cases hn2:n%2=0
    · rw[if_pos hn2,Tr.get_node_succ];by_cases hm:m%2=0
      · rw[if_pos hm,ih _ _ (by omega)];by_cases e:m=n
        · subst e;simp
        · rw[if_neg (by omega),if_neg (by omega)]
      · rw[if_neg hm,Tr.get_nil,if_neg (by omega)]
    · rw[if_neg hn2,Tr.get_node_succ];by_cases hm:m%2=0
      · rw[if_pos hm,Tr.get_nil,if_neg (by omega)]
      · rw[if_neg hm,ih _ _ (by omega)];by_cases e:m=n
        · subst e;simp
        · rw[if_neg (by omega),if_neg (by omega)]
theorem Tr.upd_node_zero {α:Type}(d v x:α)(l r:Tr α):(Tr.node v l r).upd d 0 x= .node x l r:=rfl
theorem Tr.upd_node_succ {α:Type}(d v x:α)(l r:Tr α)(m:Nat):(Tr.node v l r).upd d (m+1) x=if m%2=0 then .node v (l.upd d (m/2) x) r else .node v l (r.upd d (m/2) x):=by
 have h:m%2=0∨m%2=1:=by omega
 show Nat.rec (motive:=fun _=>Tr α) (Tr.node v (l.upd d (m/2) x) r) (fun _ _=> .node v l (r.upd d (m/2) x)) (m%2)=_;rcases h with h|h<;>rw[h]<;>rfl
theorem Tr.get_upd {α:Type}(d x:α)(t:Tr α): ∀n m,(t.upd d n x).get d m=if m=n then x else t.get d m:=by
 induction t with
 |nil=>intro n m;exact Tr.get_pathN d x n n m (Nat.le_refl _)
 |node v l r ihl ihr=>
  intro n m;cases n with
  |zero=>
   rw[Tr.upd_node_zero];cases m with
   |zero=>simp[Tr.get_node_zero]
   |succ m=>rw[Tr.get_node_succ,Tr.get_node_succ];simp
  |succ n=>
   rw[Tr.upd_node_succ];cases m with
   |zero=>split<;>simp[Tr.get_node_zero]
   |succ m=>
    rw[Tr.get_node_succ];by_cases hn:n%2=0
    · rw[if_pos hn,Tr.get_node_succ];by_cases hm:m%2=0
      · rw[if_pos hm,if_pos hm,ihl];by_cases e:m=n
        · subst e;simp
        · rw[if_neg (by omega),if_neg (by omega)]
      · rw[if_neg hm,if_neg hm,if_neg (by omega)]
    · rw[if_neg hn,Tr.get_node_succ];by_cases hm:m%2=0
      · rw[if_pos hm,if_pos hm,if_neg (by omega)]
      · rw[if_neg hm,if_neg hm,ihr];by_cases e:m=n
        · subst e;simp
        · rw[if_neg (by omega),if_neg (by omega)]
def Hp.hs (_:Hp)(_:Nat):Bool:=true
theorem Hp.get_put {h h':Hp}{o:Nat}{x:Option Ob}(hp:h.put o x=some h'):h'.nx=h.nx∧h'.gd=h.gd∧h.guarded o=false∧
 ∀q,h'.get q=if q=o then (if h.hs o then x else none)else h.get q:=by
 unfold Hp.put at hp;cases hg:h.guarded o with
 |true=>rw[hg]at hp;cases hp
 |false=>
  rw[hg]at hp;obtain rfl:=Option.some.inj hp;exact⟨rfl,rfl,rfl,fun q=>Tr.get_upd ..⟩
theorem Hp.get_add (h:Hp)(x:Ob)(q:Nat):(h.add x).get q=if q=h.nx then (if h.hs h.nx then some x else none)else h.get q:=Tr.get_upd ..
theorem Hp.get_addAt {h h':Hp}{k:Nat}{x:Ob}(hp:h.addAt k x=some h'):h'.nx=h.nx∧h'.gd=h.gd∧h.get k=none∧
 ∀q,h'.get q=if q=k then (if h.hs k then some x else none)else h.get q:=by
 unfold Hp.addAt at hp;split at hp
 · rename_i hk;obtain rfl:=Option.some.inj hp;exact⟨rfl,rfl,hk,fun q=>Tr.get_upd ..⟩
 · cases hp
theorem nth_eq {α:Type}(l:List α): ∀n,nth l n=l[n]? :=by
 induction l with
 |nil=>intro n;rfl
 |cons a l ih=>
  intro n;cases n with
  |zero=>rfl
  |succ n=>show nth l n=_;rw[ih];rfl
theorem mapO_cons {α β:Type}(f:α→Option β)(a:α)(l:List α):mapO f (a::l)=(f a).bind fun b=>(mapO f l).map (b:: ·):=rfl
theorem mapO_some {α β:Type}{f:α→Option β}: ∀ {l:List α} {r:List β},mapO f l=some r→r.length=l.length∧ ∀(i:Nat) a,l[i]? =some a→ ∃b,r[i]? =some b∧f a=some b:=by
 intro l
 induction l with
 |nil=>intro r h;obtain rfl:=Option.some.inj h;exact⟨rfl,fun i a h=>by simp at h⟩
 |cons x l ih=>
  intro r h;rw[mapO_cons]at h;obtain⟨b,hb,h⟩:=Option.bind_eq_some_iff.1 h;obtain⟨r',hr',rfl⟩:=Option.map_eq_some_iff.1 h;obtain⟨h1,h2⟩:=ih hr';refine⟨by simp[h1],fun i a hi=> ?_⟩;cases i with
  |zero=>simp at hi;subst hi;exact⟨b,rfl,hb⟩
  |succ i=>simpa using h2 i a (by simpa using hi)
theorem putAt_length {α:Type}: ∀(l:List α) (n:Nat) (v:List α),(putAt l n v).length=l.length:=by
 intro l
 induction l with
 |nil=>intro n v;cases n<;>cases v<;>rfl
 |cons x l ih=>
  intro n v;cases n with
  |zero=>cases v with
   |nil=>rfl
   |cons y v=>simp[putAt,ih]
  |succ n=>simp[putAt,ih]
theorem putAt_get {α:Type}: ∀(l:List α) (n:Nat) (v:List α),n+v.length≤l.length→ ∀i,(putAt l n v)[i]? =if n≤i∧i<n+v.length then v[i-n]? else l[i]? :=by
 intro l
 induction l with
 |nil=>
  intro n v h i;have h1:n=0:=by simp at h;omega
  have h2:v=[]:=by cases v<;>simp_all
  subst h1;subst h2;simp[putAt]
 |cons x l ih=>
  intro n v h i;cases n with
  |zero=>cases v with
   |nil=>simp[putAt]
   |cons y v=>
    cases i with
    |zero=>simp[putAt]
    |succ i=>
     have:=ih 0 v (by simp at h ⊢; omega) i;simp only[putAt,List.getElem?_cons_succ,this];by_cases hi:i<v.length
     · rw[if_pos ⟨by omega,by omega⟩,if_pos ⟨by omega,by simp;omega⟩];simp
     · rw[if_neg (by omega),if_neg (by simp;omega)]
  |succ n=>
   cases i with
   |zero=>simp[putAt]
   |succ i=>
    have:=ih n v (by simp at h;omega) i;simp only[putAt,List.getElem?_cons_succ,this];by_cases hi:n≤i∧i<n+v.length
    · rw[if_pos hi,if_pos (by omega)];congr 1;omega
    · rw[if_neg hi,if_neg (by omega)]
end Go.Ev
namespace Go.Ev
open Go
structure Vw where
 blk:Nat
 base:Nat
 fin:Nat
 esz:Nat
abbrev Inj:=Nat→Option Vw
inductive VR (ι:Inj):Value→Value→Prop where
 |flat {v} (h:flat v=true):VR ι v v
 |ptr {o off w} (h:ι o=some w):VR ι (.pointer (some ⟨o,off,none⟩)) (.pointer (some ⟨w.blk,w.base+off,none⟩))
 |slc {o off len cap w} (h:ι o=some w) (hc:cap≠unk):VR ι (.slice (some ⟨o,off,none⟩) len cap) (.slice (some ⟨w.blk,w.base+off,none⟩) len cap)
 |slu {o off len c w} (h:ι o=some w) (hc:w.base+off+c*w.esz=w.fin) (hl:len≤c):VR ι (.slice (some ⟨o,off,none⟩) len unk) (.slice (some ⟨w.blk,w.base+off,none⟩) len c)
 |sl0 {o off w a cap} (h:ι o=some w) (hc:(cap=unk∧w.base+off=w.fin)∨cap=0):VR ι (.slice (some ⟨o,off,none⟩) 0 cap) (.slice (some a) 0 0)
 |yld {l w} (h:ι l=some w):VR ι (.func (.yield l) #[] #[]) (.func (.yield w.blk) #[] #[])
 |fn {f a b a' b'} (hf:noY f=true) (ha:a'.size=a.size) (hb:b'.size=b.size) (h1: ∀(i:Nat) x y,a[i]? =some x→a'[i]? =some y→VR ι x y) (h2: ∀(i:Nat) x y,b[i]? =some x→b'[i]? =some y→VR ι x y):
   VR ι (.func f a b) (.func f a' b')
 |iface {t v v'} (h:VR ι v v'):VR ι (.iface t v) (.iface t v')
 |agg {a a'} (ha:a'.size=a.size) (h1: ∀(i:Nat) x y,a[i]? =some x→a'[i]? =some y→VR ι x y):VR ι (.agg a) (.agg a')
 |tup {a a'} (ha:a'.size=a.size) (h1: ∀(i:Nat) x y,a[i]? =some x→a'[i]? =some y→VR ι x y):VR ι (.tuple a) (.tuple a')
def VRs (ι:Inj)(a b:List Value):Prop:=b.length=a.length∧ ∀(i:Nat) x y,a[i]? =some x→b[i]? =some y→VR ι x y
theorem VRs.nil (ι:Inj):VRs ι [] []:=⟨rfl,fun i x y h=>by simp at h⟩
theorem VRs.cons {ι:Inj}{x y:Value}{a b:List Value}(h:VR ι x y)(t:VRs ι a b):VRs ι (x::a) (y::b):=
 ⟨by simp[t.1],fun i u v hu hv=>by
  cases i with
  |zero=>simp at hu hv;subst hu;subst hv;exact h
  |succ i=>exact t.2 i u v (by simpa using hu) (by simpa using hv)⟩
theorem VRs.head {ι:Inj}{x:Value}{a b:List Value}(h:VRs ι (x::a) b): ∃y c,b=y::c∧VR ι x y∧VRs ι a c:=by
 obtain⟨hl,h⟩:=h;cases b with
 |nil=>simp at hl
 |cons y c=>exact⟨y,c,rfl,h 0 x y rfl rfl,by simpa using hl,fun i u v hu hv=>h (i+1) u v (by simpa using hu) (by simpa using hv)⟩
theorem VRs.of_nil {ι:Inj}{b:List Value}(h:VRs ι [] b):b=[]:=List.eq_nil_of_length_eq_zero (by simpa using h.1)
theorem VRs.append {ι:Inj}{a b c d:List Value}(h:VRs ι a b)(k:VRs ι c d):VRs ι (a++c) (b++d):=by
 induction a generalizing b with
 |nil=>rw[h.of_nil];exact k
 |cons x a ih=>obtain⟨y,b,rfl,h1,h2⟩:=h.head;exact .cons h1 (ih h2)
theorem VRs.get {ι:Inj}{a b:List Value}(h:VRs ι a b){i:Nat}{x:Value}(hx:a[i]? =some x): ∃y,b[i]? =some y∧VR ι x y:=by
 have hi:i<a.length:=(List.getElem?_eq_some_iff.1 hx).1;refine⟨b[i]'(by rw[h.1];exact hi),List.getElem?_eq_getElem _,h.2 i x _ hx (List.getElem?_eq_getElem _)⟩
theorem VRs.take {ι:Inj}{a b:List Value}(h:VRs ι a b)(n:Nat):VRs ι (a.take n) (b.take n):=
 ⟨by simp[h.1],fun i x y hx hy=>by
  rw[List.getElem?_take]at hx hy;split at hx
  · rename_i hi;rw[if_pos hi]at hy;exact h.2 i x y hx hy
  · cases hx⟩
theorem VRs.drop {ι:Inj}{a b:List Value}(h:VRs ι a b)(n:Nat):VRs ι (a.drop n) (b.drop n):=
 ⟨by simp[h.1],fun i x y hx hy=>by rw[List.getElem?_drop]at hx hy;exact h.2 _ x y hx hy⟩
theorem all_get {p:Value→Bool}{l:List Value}(h:l.all p=true){i:Nat}{x:Value}(hx:l[i]? =some x):p x=true:=
 List.all_eq_true.1 h x (List.mem_of_getElem? hx)
theorem flat_of_flatN: ∀(n:Nat) (v v':Value) (ι:Inj),flatN n v=true→VR ι v v'→v'=v:=by
 intro n
 induction n with
 |zero=>intro v v' ι h;simp[flatN]at h
 |succ n ih=>
  intro v v' ι h r;cases r with
  |flat=>rfl
  |ptr=>simp[flatN]at h
  |slc=>simp[flatN]at h
  |slu=>simp[flatN]at h
  |sl0=>simp[flatN]at h
  |yld hy=>simp[flatN,noY]at h
  |fn hf ha hb h1 h2=>
   simp only[flatN,Bool.and_eq_true]at h;obtain⟨_,h⟩:=h;have e1: ∀ {a a':Array Value},a'.size=a.size→a.toList.all (flatN n)=true→(∀(i:Nat) x y,a[i]? =some x→a'[i]? =some y→VR ι x y)→a'=a:=by
    intro a a' hs hf hr;refine Array.ext hs fun i hi hi'=> ?_;have hx:a[i]? =some a[i]:=Array.getElem?_eq_getElem hi';exact ih _ _ ι (all_get hf (i:=i) (by rw[Array.getElem?_toList];exact hx)) (hr i _ _ hx (Array.getElem?_eq_getElem hi))
   rw[e1 ha h.1 h1,e1 hb h.2 h2]
  |iface hv=>simp only[flatN]at h;rw[ih _ _ ι h hv]
  |agg ha h1=>
   simp only[flatN]at h;congr 1;refine Array.ext ha fun i hi hi'=> ?_;have hx:=Array.getElem?_eq_getElem hi';exact ih _ _ ι (all_get h (i:=i) (by rw[Array.getElem?_toList];exact hx)) (h1 i _ _ hx (Array.getElem?_eq_getElem hi))
  |tup ha h1=>
   simp only[flatN]at h;congr 1;refine Array.ext ha fun i hi hi'=> ?_;have hx:=Array.getElem?_eq_getElem hi';exact ih _ _ ι (all_get h (i:=i) (by rw[Array.getElem?_toList];exact hx)) (h1 i _ _ hx (Array.getElem?_eq_getElem hi))
theorem VR.of_flat {ι:Inj}{v v':Value}(h:Ev.flat v=true)(r:VR ι v v'):v'=v:=flat_of_flatN 5 v v' ι h r
theorem VR.mono {ι ι':Inj}(hm: ∀o w,ι o=some w→ι' o=some w){v v':Value}(h:VR ι v v'):VR ι' v v':=by
 induction h with
 |flat h=>exact .flat h
 |ptr h=>exact .ptr (hm _ _ h)
 |slc h hc=>exact .slc (hm _ _ h) hc
 |slu h hc hl=>exact .slu (hm _ _ h) hc hl
 |sl0 h hc=>exact .sl0 (hm _ _ h) hc
 |yld h=>exact .yld (hm _ _ h)
 |fn hf ha hb _ _ i1 i2=>exact .fn hf ha hb i1 i2
 |iface _ i=>exact .iface i
 |agg ha _ i=>exact .agg ha i
 |tup ha _ i=>exact .tup ha i
theorem VRs.mono {ι ι':Inj}(hm: ∀o w,ι o=some w→ι' o=some w){a b:List Value}(h:VRs ι a b):VRs ι' a b:=⟨h.1,fun i x y hx hy=>(h.2 i x y hx hy).mono hm⟩
theorem VRs.flat_eq {ι:Inj}{a b:List Value}(hf:a.all Ev.flat=true)(h:VRs ι a b):b=a:=
 List.ext_getElem h.1 fun i hi hi'=>VR.of_flat (all_get hf (List.getElem?_eq_getElem hi')) (h.2 i _ _ (List.getElem?_eq_getElem hi') (List.getElem?_eq_getElem hi))
theorem VRs.of_flat {ι:Inj}{a:List Value}(hf:a.all Ev.flat=true):VRs ι a a:=⟨rfl,fun i x y hx hy=>by
 rw[hx]at hy;obtain rfl:=Option.some.inj hy;exact .flat (all_get hf hx)⟩
theorem VRs.arr {ι:Inj}{a a':Array Value}:VRs ι a.toList a'.toList↔(a'.size=a.size∧ ∀(i:Nat) x y,a[i]? =some x→a'[i]? =some y→VR ι x y):=by
 unfold VRs;simp only[Array.length_toList,Array.getElem?_toList]
theorem flatN_more: ∀(n:Nat) (x:Value),flatN n x=true→flatN (n+1) x=true:=by
 intro n
 induction n with
 |zero=>intro x h;simp[flatN]at h
 |succ n ih=>
  intro x h;have hl: ∀l:List Value,l.all (flatN n)=true→l.all (flatN (n+1))=true:=fun l hl=>List.all_eq_true.2 fun y hy=>ih y (List.all_eq_true.1 hl y hy);cases x with
  |func f a b=>rw[flatN,Bool.and_eq_true,Bool.and_eq_true]at h ⊢; exact⟨h.1,hl _ h.2.1,hl _ h.2.2⟩
  |iface t v=>rw[flatN]at h ⊢; exact ih _ h
  |agg cs=>rw[flatN]at h ⊢; exact hl _ h
  |tuple cs=>rw[flatN]at h ⊢; exact hl _ h
  |pointer a=>cases a<;>simp_all [flatN]
  |map a=>cases a<;>simp_all [flatN]
  |chan a=>cases a<;>simp_all [flatN]
  |slice a l c=>
   cases a with
   |none=>cases l<;>cases c<;>simp_all [flatN]
   |some a=>simp[flatN]at h
  |_=>simp[flatN]
theorem all_flat4 {ι:Inj}{l:List Value}(hl:l.all (flatN 4)=true):VRs ι l l:=VRs.of_flat (List.all_eq_true.2 fun x hx=>flatN_more 4 x (List.all_eq_true.1 hl x hx))
theorem VR.agg_iff {ι:Inj}{a:Array Value}{v:Value}(h:VR ι (.agg a) v): ∃a',v= .agg a'∧VRs ι a.toList a'.toList:=by
 cases h with
 |flat h=>exact⟨a,rfl,all_flat4 h⟩
 |agg ha h1=>exact⟨_,rfl,VRs.arr.2 ⟨ha,h1⟩⟩
theorem VR.tup_iff {ι:Inj}{a:Array Value}{v:Value}(h:VR ι (.tuple a) v): ∃a',v= .tuple a'∧VRs ι a.toList a'.toList:=by
 cases h with
 |flat h=>exact⟨a,rfl,all_flat4 h⟩
 |tup ha h1=>exact⟨_,rfl,VRs.arr.2 ⟨ha,h1⟩⟩
theorem VR.func_iff {ι:Inj}{f:Fn}(hf:noY f=true){a b:Array Value}{v:Value}(h:VR ι (.func f a b) v): ∃a' b',v= .func f a' b'∧VRs ι a.toList a'.toList∧VRs ι b.toList b'.toList:=by
 cases h with
 |flat h=>
  have h5:(noY f&&(a.toList.all (flatN 4)&&b.toList.all (flatN 4)))=true:=h;rw[Bool.and_eq_true,Bool.and_eq_true]at h5;exact⟨a,b,rfl,all_flat4 h5.2.1,all_flat4 h5.2.2⟩
 |yld=>cases hf
 |fn _ ha hb h1 h2=>exact⟨_,_,rfl,VRs.arr.2 ⟨ha,h1⟩,VRs.arr.2 ⟨hb,h2⟩⟩
theorem VR.iface_iff {ι:Inj}{t:TypeId}{v v':Value}(h:VR ι (.iface t v) v'): ∃w,v'= .iface t w∧VR ι v w:=by
 cases h with
 |flat h=>exact⟨v,rfl,.flat (flatN_more 4 v h)⟩
 |iface h=>exact⟨_,rfl,h⟩
theorem VR.func_lt {ι:Inj}{g:FuncId}{a b:Array Value}{v:Value}(h:VR ι (.func (.func g) a b) v):noY (.func g)=true:=by
 cases h with
 |flat h=>
  have h5:(noY (.func g)&&(a.toList.all (flatN 4)&&b.toList.all (flatN 4)))=true:=h;exact(Bool.and_eq_true _ _▸h5).1
 |fn hf=>exact hf
theorem VR.yield_iff {ι:Inj}{l:Nat}{v:Value}(h:VR ι (.func (.yield l) #[] #[]) v): ∃w,ι l=some w∧v= .func (.yield w.blk) #[] #[]:=by
 cases h with
 |flat h=>exact absurd h (by simp[Ev.flat,flatN,noY])
 |yld h=>exact⟨_,h,rfl⟩
 |fn hf=>cases hf
theorem VR.int_iff {ι:Inj}{k:IntKind}{n:Int}{v:Value}(h:VR ι (.int k n) v):v= .int k n:=by cases h;rfl
theorem VR.bool_iff {ι:Inj}{b:Bool}{v:Value}(h:VR ι (.bool b) v):v= .bool b:=by cases h;rfl
theorem VR.string_iff {ι:Inj}{b:ByteArray}{v:Value}(h:VR ι (.string b) v):v= .string b:=by cases h;rfl
theorem VR.one {ι:Inj}{v v':Value}(h:VR ι v v'):Ev.one v'=Ev.one v:=by
 cases h<;>rfl
theorem VRs.single {ι:Inj}{x y:Value}(h:VR ι x y):VRs ι [x] [y]:= .cons h (.nil ι)
theorem VR.cells {ι:Inj}{v v':Value}(h:VR ι v v'):VRs ι v.cells.toList v'.cells.toList:=by
 cases ho:Ev.one v with
 |false=>
  cases v with
  |agg a=>obtain⟨a',rfl,h'⟩:=h.agg_iff;exact h'
  |tuple a=>obtain⟨a',rfl,h'⟩:=h.tup_iff;exact .single h
  |_=>simp[Ev.one]at ho
 |true=>
  have e: ∀ {x:Value},Ev.one x=true→x.cells.toList=[x]:=by intro x hx;cases x<;>first|rfl|(simp[Ev.one]at hx)
  rw[e ho,e (h.one.trans ho)];exact .single h
theorem VRs.one {ι:Inj}{a b:List Value}(h:VRs ι a b)(ho:a.all Ev.one=true):b.all Ev.one=true:=
 List.all_eq_true.2 fun y hy=>by
  obtain⟨i,hi,rfl⟩:=List.getElem_of_mem hy;have hi':i<a.length:=by rw[←h.1];exact hi
  rw[(h.2 i _ _ (List.getElem?_eq_getElem hi') (List.getElem?_eq_getElem hi)).one];exact all_get ho (List.getElem?_eq_getElem hi')
end Go.Ev
namespace Go.Ev
open Go
def GR (P:Program)(ι:Inj):Prop:= ∀g,g<P.globals.size→ ∃f e,ι g=some ⟨g,0,f,e⟩
structure RT (ι:Inj)(t:Fr)(n:Nat)(a:Act):Prop where
 size:a.tmps.size=n
 slots: ∀i,VR ι (slot t i) (a.tmps.getD i undef)
 has: ∀d,d<n→t.has d=true
theorem cond_some {α:Type}{b:Bool}{x:Option α}{v:α}(h:(bif b then x else none)=some v):b=true∧x=some v:=by
 cases b
 · cases h
 · exact⟨rfl,h⟩
theorem opv_const {P:Program}{t:Fr}{c v:Value}(h:opv P t (.const c)=some v):flat c=true∧v=c:=by
 simp only[opv]at h;split at h
 · exact⟨rfl,(Option.some.inj h).symm⟩
 · exact⟨rfl,(Option.some.inj h).symm⟩
 · obtain⟨h1,h2⟩:=cond_some h;exact⟨h1,(Option.some.inj h2).symm⟩
theorem opv_global {P:Program}{t:Fr}{g:Nat}{v:Value}(h:opv P t (.global g)=some v):g<P.globals.size∧v= .pointer (some ⟨g,0,none⟩):=by
 simp only[opv]at h;obtain⟨h1,h2⟩:=cond_some h;exact⟨by simpa using h1,(Option.some.inj h2).symm⟩
theorem opv_func {P:Program}{t:Fr}{f:FuncId}{v:Value}(h:opv P t (.func f)=some v):Nat.blt f yB=true∧v= .func (.func f) #[] #[]:=by
 obtain⟨h1,h2⟩:=cond_some (show(bif Nat.blt f yB then some (Value.func (.func f) #[] #[])else none)=some v from h);exact⟨h1,(Option.some.inj h2).symm⟩
section
variable {P:Program}{ι:Inj}{t:Fr}{n:Nat}{a:Act}(hg:GR P ι)(hr:RT ι t n a)
include hg hr
theorem opv_sound {x:Operand}{v:Value}(h:opv P t x=some v):VR ι v (a.eval x):=by
 cases x with
 |tmp i=>obtain rfl:=Option.some.inj h;exact hr.slots i
 |const c=>obtain⟨hf,rfl⟩:=opv_const h;exact .flat hf
 |global g=>
  obtain⟨h1,rfl⟩:=opv_global h;obtain⟨f,e,he⟩:=hg g h1;exact VR.ptr (off:=0) he
 |func f=>
  obtain⟨h1,rfl⟩:=opv_func h;refine .flat ?_;show((Nat.blt f yB&&(([]:List Value).all _&&([]:List Value).all _)))=true;rw[h1];rfl
omit hg hr in
theorem opw_eq {x:Operand}{v:Value}(h:opv P t x=some v):opw t x=v:=by
 cases x with
 |tmp i=>obtain rfl:=Option.some.inj h;rfl
 |const c=>obtain⟨hf,rfl⟩:=opv_const h;rfl
 |global g=>obtain⟨h1,rfl⟩:=opv_global h;rfl
 |func f=>obtain⟨h1,rfl⟩:=opv_func h;rfl
theorem opvs_sound {xs:List Operand}{vs:List Value}(h:mapO (opv P t) xs=some vs):VRs ι vs (xs.map a.eval):=by
 obtain⟨h1,h2⟩:=mapO_some h;refine⟨by simp[h1],fun i x y hx hy=> ?_⟩;rw[List.getElem?_map]at hy;obtain⟨q,hq,rfl⟩:=Option.map_eq_some_iff.1 hy;obtain⟨b,hb,hv⟩:=h2 i q hq;rw[hx]at hb;obtain rfl:=Option.some.inj hb;exact opv_sound hg hr hv
omit hg hr
theorem pureRun_sound {α:Type}{P:Program}: ∀ {s:Sem α} {v:α},pureRun P s=some v→ ∀w,s.run P w= .ok v w:=by
 intro s
 induction s with
 |pure a=>intro v h w;obtain rfl:=Option.some.inj h;rfl
 |program k ih=>intro v h w;exact ih P h w
 |mark m k ih=>intro v h w;exact ih h w
 |_=>intro v h;cases h
include hg hr
theorem flatRun_sound {o:Oper}(hs: ∀cs b,o.op≠ .select cs b){v:Value}(h:flatRun P t o=some v):flat v=true∧ ∀w,(execOp a.eval o).run P w= .ok (.value v) w:=by
 unfold flatRun at h;split at h
 · rename_i l hl;cases hf:l.all flat with
   |false=>rw[hf]at h;cases h
   |true=>
    rw[hf]at h;simp only[cond_true]at h;split at h
    · rename_i r hrun;cases hfr:flat r with
      |false=>rw[hfr]at h;cases h
      |true=>
       rw[hfr]at h;obtain rfl:=Option.some.inj h;refine⟨hfr,fun w=> ?_⟩;have he:execOp a.eval o=execOp (opw t) o:=by
        refine execOp_congr o hs fun x hx=> ?_;obtain⟨_,h2⟩:=mapO_some hl;obtain⟨i,hi,hxi⟩:=Array.getElem_of_mem hx;obtain⟨b,hb,hv⟩:=h2 i x (by rw[Array.getElem?_toList,Array.getElem?_eq_getElem hi,hxi]);rw[opw_eq hv];exact VR.of_flat (all_get hf hb) (opv_sound hg hr hv)
       rw[he];exact pureRun_sound hrun w
    · cases h
 · cases h
end
end Go.Ev
namespace Go.Ev
open Go
theorem add_none (b o n:Nat):(⟨b,o,none⟩:Addr).add n=⟨b,o+n,none⟩:=by
 unfold Addr.add;split
 · rename_i h;subst h;rfl
 · rfl
theorem run_info {P:Program}{t:TypeId}{i:TypeInfo}(h:P.info? t=some i)(w:World):(typeInfo t).run P w= .ok i w:=by
 simp[typeInfo,program,h,Sem.run,bind,Sem.bind,pure]
theorem run_size {P:Program}{t:TypeId}{n:Nat}(h:sz P t=some n)(w:World):(sizeOf t).run P w= .ok n w:=by
 obtain⟨i,hi,rfl⟩:=Option.map_eq_some_iff.1 h;unfold sizeOf;rw[Sem.run_bind,run_info hi w];rfl
theorem run_isAgg {P:Program}{t:TypeId}{b:Bool}(h:aggT P t=some b)(w:World):(isAgg t).run P w= .ok b w:=by
 unfold isAgg;unfold aggT at h;cases hu:P.underlying t with
 |none=>rw[hu]at h;cases h
 |some d=>
  rw[Sem.run_bind,run_underlying hu w];simp only[Result.andThen_ok];rw[hu]at h;cases d<;>(simp at h;subst h;rfl)
theorem run_zero {P:Program}{t:TypeId}{i:TypeInfo}{z:Value}(h:P.info? t=some i)(hz:i.zero=some z)(w:World):(zeroValue t).run P w= .ok z w:=by
 unfold zeroValue;rw[Sem.run_bind,run_info h w];simp[hz]
theorem run_value {P:Program}{s:Sem Value}{v:Value}{w w':World}(h:s.run P w= .ok v w'):(do pure (Next.value (←s)):Sem Next).run P w= .ok (.value v) w':=by
 rw[Sem.run_bind,h];rfl
theorem run_skip {P:Program}{s:Sem Unit}{w w':World}(h:s.run P w= .ok () w'):(do s;pure Next.skip:Sem Next).run P w= .ok .skip w':=by
 rw[Sem.run_bind,h];rfl
theorem wrap64_small {n:Int}(h0: -9223372036854775808≤n)(h1:n<9223372036854775808):IntKind.wrap .i64 n=n:=
 IntWalk.i64_in n ⟨h0,by omega⟩
theorem wrap_u32 (m:Nat):IntKind.wrap .u32 (Int.ofNat m)=Int.ofNat (m%4294967296):=by rw[IntKind.wrap_u32];rfl
theorem wrap_u8 (m:Nat):IntKind.wrap .u8 (Int.ofNat m)=Int.ofNat (m%256):=by rw[IntKind.wrap_u8];rfl
theorem wrap_u64 (m:Nat):IntKind.wrap .u64 (Int.ofNat m)=Int.ofNat (m%18446744073709551616):=by simp[IntKind.wrap,IntKind.bits,IntKind.signed]
theorem wrapF_eq (k:IntKind)(n:Int):wrapF k n=k.wrap n:=by
 unfold wrapF;split
 · rename_i m;cases hb:Nat.blt m 9223372036854775808 with
   |true=>
    have:m<9223372036854775808:=by simpa using hb
    rw[cond_true,wrap64_small (by rw[Int.ofNat_eq_natCast];omega) (by rw[Int.ofNat_eq_natCast];omega)]
   |false=>rw[cond_false]
 · rename_i m;cases hb:Nat.blt m 9223372036854775808 with
   |true=>
    have:m<9223372036854775808:=by simpa using hb
    rw[cond_true,wrap64_small (by omega) (by omega)]
   |false=>rw[cond_false]
 · exact(wrap_u32 _).symm
 · exact(wrap_u8 _).symm
 · rfl
theorem ltI_eq (a b:Int):ltI a b=decide (a<b):=by
 cases a with
 |ofNat a=>cases b with
  |ofNat b=>simp only[ltI];rw[Bool.eq_iff_iff];simp
  |negSucc b=>simp only[ltI];symm;simp;omega
 |negSucc a=>cases b with
  |ofNat b=>simp only[ltI];symm;simp;omega
  |negSucc b=>simp only[ltI];rw[Bool.eq_iff_iff];simp;omega
theorem eqI_eq (a b:Int):eqI a b=(a==b):=by
 cases a with
 |ofNat a=>cases b with
  |ofNat b=>simp only[eqI];rw[Bool.eq_iff_iff];simp;omega
  |negSucc b=>simp only[eqI];symm;rw[beq_eq_false_iff_ne];simp
 |negSucc a=>cases b with
  |ofNat b=>simp only[eqI];symm;rw[beq_eq_false_iff_ne];simp
  |negSucc b=>simp only[eqI];rw[Bool.eq_iff_iff];simp
theorem kindB_eq {k k':IntKind}(h:kindB k k'=true):k=k':=by cases k<;>cases k'<;>first|rfl|cases h
theorem ofInt_toNat {n m:Nat}(h:m<2^n):(BitVec.ofInt n (Int.ofNat m)).toNat=m:=by
 rw[BitVec.toNat_ofInt];simp only[Int.ofNat_eq_natCast];have:((m:Int)%((2^n:Nat):Int))=m:=Int.emod_eq_of_lt (by omega) (by omega);rw[this];simp
theorem dig_small {k:IntKind}{m:Nat}(h:dig k=some m):m≤2^k.bits∧ ∀a:Nat,a<m→k.wrap (Int.ofNat a)=Int.ofNat a:=by
 unfold dig at h;split at h
 · obtain rfl:=Option.some.inj h;exact⟨by decide,fun a ha=>by rw[wrap_u32,Nat.mod_eq_of_lt ha]⟩
 · obtain rfl:=Option.some.inj h;exact⟨by decide,fun a ha=>by rw[wrap_u8,Nat.mod_eq_of_lt ha]⟩
 · obtain rfl:=Option.some.inj h;exact⟨by decide,fun a ha=>wrap64_small (by rw[Int.ofNat_eq_natCast];omega) (by rw[Int.ofNat_eq_natCast];omega)⟩
 · obtain rfl:=Option.some.inj h;exact⟨by decide,fun a ha=>by rw[wrap_u64,Nat.mod_eq_of_lt ha]⟩
 · cases h
theorem dig_pow {k:IntKind}{m:Nat}(h:dig k=some m): ∃j,m=2^j∧j≤k.bits:=by
 unfold dig at h;split at h
 · exact⟨32,by obtain rfl:=Option.some.inj h;rfl,by decide⟩
 · exact⟨8,by obtain rfl:=Option.some.inj h;rfl,by decide⟩
 · exact⟨63,by obtain rfl:=Option.some.inj h;rfl,by decide⟩
 · exact⟨64,by obtain rfl:=Option.some.inj h;rfl,by decide⟩
 · cases h
theorem andNot_nat {n:Nat}(a b:BitVec n):(a &&& ~~~b).toNat=a.toNat-(a.toNat &&& b.toNat):=by
 have h:(a &&& b) &&& (a &&& ~~~b)=0#n:=by
  ext i;simp;intro _ h1 _;exact h1
 have h2:=BitVec.toNat_add_of_and_eq_zero h;have h3:(a &&& b)+(a &&& ~~~b)=a:=by
  rw[BitVec.add_eq_or_of_and_eq_zero _ _ h]
  ext i;simp;cases a[i]<;>cases b[i]<;>simp
 rw[h3,BitVec.toNat_and]at h2;omega
theorem bitsF_some {f:Nat→Nat→Nat}{k:IntKind}{a b:Int}{r:Value}(h:bitsF f k a b=some r): ∃(m x y:Nat),dig k=some m∧a= .ofNat x∧b= .ofNat y∧x<m∧y<m∧r= .int k (.ofNat (f x y)):=by
 unfold bitsF at h;split at h
 · rename_i m x y hm;obtain⟨h1,h2⟩:=cond_some h;rw[Bool.and_eq_true]at h1;exact⟨m,x,y,hm,rfl,rfl,by simpa using h1.1,by simpa using h1.2,(Option.some.inj h2).symm⟩
 · cases h
theorem binF_sound {P:Program}{op:BinOp}{k:IntKind}{x y:Int}{r:Value}{xt:TypeId}(h:binF op k x y=some r)(w:World):(binOp op xt (.int k x) (.int k y)).run P w= .ok r w:=by
 have hd: ∀ {m:Nat},eqI y 0=false→y≠0:=fun he=>by rw[eqI_eq]at he;simpa using he
 cases op with
 |add=>obtain rfl:=Option.some.inj h;simp[binOp,Op.intArith,wrapF_eq]
 |sub=>obtain rfl:=Option.some.inj h;simp[binOp,Op.intArith,wrapF_eq]
 |mul=>obtain rfl:=Option.some.inj h;simp[binOp,Op.intArith,wrapF_eq]
 |quo=>
  unfold binF at h;cases he:eqI y 0 with
  |true=>rw[he]at h;cases h
  |false=>
   rw[he]at h;obtain rfl:=Option.some.inj h;simp[binOp,Op.intDiv,wrapF_eq,hd (m:=0) he]
 |rem=>
  unfold binF at h;cases he:eqI y 0 with
  |true=>rw[he]at h;cases h
  |false=>
   rw[he]at h;obtain rfl:=Option.some.inj h;simp[binOp,Op.intDiv,hd (m:=0) he]
 |eql=>obtain rfl:=Option.some.inj h;simp[binOp,Op.intCmp,eqI_eq]
 |neq=>obtain rfl:=Option.some.inj h;simp[binOp,Op.intCmp,eqI_eq];rfl
 |lss=>obtain rfl:=Option.some.inj h;simp[binOp,Op.intCmp,ltI_eq]
 |leq=>obtain rfl:=Option.some.inj h;simp[binOp,Op.intCmp,ltI_eq];rw[Bool.eq_iff_iff];simp
 |gtr=>obtain rfl:=Option.some.inj h;simp[binOp,Op.intCmp,ltI_eq]
 |geq=>obtain rfl:=Option.some.inj h;simp[binOp,Op.intCmp,ltI_eq];rw[Bool.eq_iff_iff];simp
 |and=>
  obtain⟨m,x,y,hm,rfl,rfl,hx,hy,rfl⟩:=bitsF_some h;obtain⟨h1,h2⟩:=dig_small hm;have hlt:Nat.land x y<m:=Nat.lt_of_le_of_lt (Nat.and_le_left) hx;have e:(BitVec.ofInt k.bits (Int.ofNat x) &&& BitVec.ofInt k.bits (Int.ofNat y)).toNat=Nat.land x y:=by
   rw[BitVec.toNat_and,ofInt_toNat (by omega),ofInt_toNat (by omega)];rfl
  simp only[binOp,Op.intBits,ne_eq,not_true_eq_false,if_false,Sem.run_pure,e];have:=h2 _ hlt;simp only[Int.ofNat_eq_natCast]at this ⊢;rw[this]
 |or=>
  obtain⟨m,x,y,hm,rfl,rfl,hx,hy,rfl⟩:=bitsF_some h;obtain⟨h1,h2⟩:=dig_small hm;obtain⟨j,rfl,hj⟩:=dig_pow hm;have hlt:Nat.lor x y<2^j:=Nat.or_lt_two_pow hx hy;have e:(BitVec.ofInt k.bits (Int.ofNat x) ||| BitVec.ofInt k.bits (Int.ofNat y)).toNat=Nat.lor x y:=by
   rw[BitVec.toNat_or,ofInt_toNat (by omega),ofInt_toNat (by omega)];rfl
  simp only[binOp,Op.intBits,ne_eq,not_true_eq_false,if_false,Sem.run_pure,e];have:=h2 _ hlt;simp only[Int.ofNat_eq_natCast]at this ⊢;rw[this]
 |andNot=>
  obtain⟨m,x,y,hm,rfl,rfl,hx,hy,rfl⟩:=bitsF_some h;obtain⟨h1,h2⟩:=dig_small hm;have hlt:x-Nat.land x y<m:=by omega
  have e:(BitVec.ofInt k.bits (Int.ofNat x) &&& ~~~ BitVec.ofInt k.bits (Int.ofNat y)).toNat=x-Nat.land x y:=by
   rw[andNot_nat,ofInt_toNat (by omega),ofInt_toNat (by omega)];rfl
  simp only[binOp,Op.intBits,ne_eq,not_true_eq_false,if_false,Sem.run_pure,e];have:=h2 _ hlt;simp only[Int.ofNat_eq_natCast]at this ⊢;rw[this]
 |_=>cases h
end Go.Ev
namespace Go.Ev
open Go
section
variable {P:Program}{ι:Inj}{t:Fr}{n:Nat}{a:Act}(hg:GR P ι)(hr:RT ι t n a)
def PureOk (P:Program)(ι:Inj)(a:Act)(o:Oper)(v:Value):Prop:= ∃v',VR ι v v'∧ ∀w,(execOp a.eval o).run P w= .ok (.value v') w
include hg hr
theorem PureOk.of_flat {o:Oper}(hs: ∀cs b,o.op≠ .select cs b){v:Value}(h:flatRun P t o=some v):PureOk P ι a o v:=
 let ⟨h1,h2⟩:=flatRun_sound hg hr hs h
 ⟨v,.flat h1,h2⟩
theorem pure_move {dst ty pos af gu x v}(h:opv P t x=some v):PureOk P ι a ⟨dst,.move x,ty,pos,af,gu⟩ v:=⟨_,opv_sound hg hr h,fun _=>rfl⟩
theorem pure_assign {dst ty pos af gu x v}(h:opv P t x=some v):PureOk P ι a ⟨dst,.assign x,ty,pos,af,gu⟩ v:=⟨_,opv_sound hg hr h,fun _=>rfl⟩
theorem pure_pick {dst ty pos af gu c x y v}(h:stepPure P t ⟨dst,.pick c x y,ty,pos,af,gu⟩=some v):PureOk P ι a ⟨dst,.pick c x y,ty,pos,af,gu⟩ v:=by
 simp only[stepPure]at h;obtain⟨cv,hc,h⟩:=Option.bind_eq_some_iff.1 h;split at h
 · obtain⟨_,_,h⟩:=Option.bind_eq_some_iff.1 h;refine⟨_,opv_sound hg hr h,fun w=> ?_⟩;have e:=(opv_sound hg hr hc).bool_iff;simp[execOp,e,asBool]
 · obtain⟨_,_,h⟩:=Option.bind_eq_some_iff.1 h;refine⟨_,opv_sound hg hr h,fun w=> ?_⟩;have e:=(opv_sound hg hr hc).bool_iff;simp[execOp,e,asBool]
 · cases h
theorem pure_extract {dst ty pos af gu x i v}(h:stepPure P t ⟨dst,.extract x i,ty,pos,af,gu⟩=some v):PureOk P ι a ⟨dst,.extract x i,ty,pos,af,gu⟩ v:=by
 simp only[stepPure]at h;obtain⟨xv,hx,h⟩:=Option.bind_eq_some_iff.1 h;split at h
 · rename_i vs;obtain⟨vs',he,hvs⟩:=(opv_sound hg hr hx).tup_iff;rw[nth_eq]at h;obtain⟨y,hy,hv⟩:=hvs.get h;rw[Array.getElem?_toList]at hy;refine⟨y,hv,fun w=> ?_⟩;simp[execOp,he,Instr.extract,hy]
 · cases h
theorem pure_makeInterface {dst ty pos af gu t' x v}(h:stepPure P t ⟨dst,.makeInterface t' x,ty,pos,af,gu⟩=some v):PureOk P ι a ⟨dst,.makeInterface t' x,ty,pos,af,gu⟩ v:=by
 simp only[stepPure]at h;obtain⟨xv,hx,h⟩:=Option.bind_eq_some_iff.1 h;cases hu:P.underlying t' with
 |none=>rw[hu]at h;cases h
 |some d=>
  rw[hu]at h;have hd:(∀ms,d≠ .interface ms)∧v= .iface t' xv:=by
   cases d<;>first|(cases h;done)|exact⟨(fun ms hh=>by injection hh),(Option.some.inj h).symm⟩
  obtain⟨hd,rfl⟩:=hd;refine⟨.iface t' (a.eval x),.iface (opv_sound hg hr hx),fun w=> ?_⟩;simp only[execOp,Instr.makeInterface];refine run_value ?_;rw[Sem.run_bind,run_underlying hu w];simp only[Result.andThen_ok];cases d<;>first|exact absurd rfl (hd _)|rfl
theorem pure_makeFunc {dst ty pos af gu f x y v}(h:stepPure P t ⟨dst,.makeFunc f x y,ty,pos,af,gu⟩=some v):PureOk P ι a ⟨dst,.makeFunc f x y,ty,pos,af,gu⟩ v:=by
 simp only[stepPure]at h;obtain⟨hf,h⟩:=cond_some h;obtain⟨xs,hx,h⟩:=Option.bind_eq_some_iff.1 h;obtain⟨ys,hy,rfl⟩:=Option.map_eq_some_iff.1 h;refine⟨.func f (x.map a.eval) (y.map a.eval),?_,fun w=>rfl⟩;have h1:=opvs_sound hg hr hx;have h2:=opvs_sound hg hr hy;rw[←Array.toList_map]at h1 h2;have k1:=VRs.arr (a:=xs.toArray) (a':=x.map a.eval) (ι:=ι) |>.1 (by simpa using h1);have k2:=VRs.arr (a:=ys.toArray) (a':=y.map a.eval) (ι:=ι) |>.1 (by simpa using h2);exact .fn hf k1.1 k2.1 k1.2 k2.2
theorem pure_nilCheck {dst ty pos af gu x v}(h:stepPure P t ⟨dst,.nilCheck x,ty,pos,af,gu⟩=some v):PureOk P ι a ⟨dst,.nilCheck x,ty,pos,af,gu⟩ v:=by
 simp only[stepPure]at h;obtain⟨xv,hx,h⟩:=Option.bind_eq_some_iff.1 h;have hv:=opv_sound hg hr hx;split at h
 · rename_i q;obtain rfl:=Option.some.inj h;refine⟨_,hv,fun w=> ?_⟩;have: ∃q',a.eval x= .pointer (some q'):=by
    generalize a.eval x=y at hv;cases hv with
    |flat hf=>exact⟨_,rfl⟩
    |ptr=>exact⟨_,rfl⟩
   obtain⟨q',hq⟩:=this;simp[execOp,hq]
 · rename_i g y z;obtain rfl:=Option.some.inj h;refine⟨_,hv,fun w=> ?_⟩;obtain⟨y',z',he,_⟩:=hv.func_iff hv.func_lt;simp[execOp,he]
 · cases h
theorem pure_fieldAddr {dst ty pos af gu s x f v}(h:stepPure P t ⟨dst,.fieldAddr s x f,ty,pos,af,gu⟩=some v):PureOk P ι a ⟨dst,.fieldAddr s x f,ty,pos,af,gu⟩ v:=by
 simp only[stepPure]at h;obtain⟨xv,hx,h⟩:=Option.bind_eq_some_iff.1 h;have hv:=opv_sound hg hr hx;split at h
 · rename_i fs b off hu;obtain⟨fl,hfl,h⟩:=Option.bind_eq_some_iff.1 h;obtain⟨m,hm,h⟩:=Option.bind_eq_some_iff.1 h;cases hb:Nat.beq m 0 with
   |true=>rw[hb]at h;cases h
   |false=>
    rw[hb]at h;obtain rfl:=Option.some.inj h;have hm0:m≠0:=Nat.ne_of_beq_eq_false hb;obtain⟨w1,hw1,he⟩: ∃w1,ι b=some w1∧a.eval x= .pointer (some ⟨w1.blk,w1.base+off,none⟩):=by
     generalize a.eval x=y at hv;cases hv with
     |flat hf=>simp[flat,flatN]at hf
     |ptr hw=>exact⟨_,hw,rfl⟩
    refine⟨.pointer (some ⟨w1.blk,w1.base+(off+fl.offset),none⟩),.ptr hw1,fun w=> ?_⟩;simp only[execOp,Instr.fieldAt];refine run_value ?_;rw[Sem.run_bind,run_underlying hu w];simp only[Result.andThen_ok,hfl,he,Instr.sureAddr,Sem.run_bind,Sem.run_pure,fieldPlace,run_size hm,Sem.run_ite,if_neg hm0,add_none];rw[Nat.add_assoc]
 · cases h
theorem pure_indexAddr {dst ty pos af gu s x i v}(h:stepPure P t ⟨dst,.indexAddr s x i,ty,pos,af,gu⟩=some v):PureOk P ι a ⟨dst,.indexAddr s x i,ty,pos,af,gu⟩ v:=by
 simp only[stepPure]at h;obtain⟨xv,hx,h⟩:=Option.bind_eq_some_iff.1 h;obtain⟨iv,hi,h⟩:=Option.bind_eq_some_iff.1 h;have hv:=opv_sound hg hr hx;have hiv:=opv_sound hg hr hi;split at h
 · rename_i b off len cap k j hu z;obtain⟨m,hm,h⟩:=Option.bind_eq_some_iff.1 h;obtain⟨hlt,h⟩:=cond_some h;obtain rfl:=Option.some.inj h;have hlt':j<len:=by simpa using hlt
   have hie:=hiv.int_iff;obtain⟨w1,c',hw1,he⟩: ∃w1 c',ι b=some w1∧a.eval x= .slice (some ⟨w1.blk,w1.base+off,none⟩) len c':=by
    generalize a.eval x=y at hv;cases hv with
    |flat hf=>simp[flat,flatN]at hf
    |slc hw=>exact⟨_,_,hw,rfl⟩
    |slu hw=>exact⟨_,_,hw,rfl⟩
    |sl0=>omega
   refine⟨.pointer (some ⟨w1.blk,w1.base+(off+j*m),none⟩),.ptr hw1,fun w=> ?_⟩;simp only[execOp,Instr.indexAt];refine run_value ?_;have c1:(0:Int)≤Int.ofNat j∧Int.ofNat j<(len:Int):=⟨Int.natCast_nonneg _,by rw[Int.ofNat_eq_natCast];omega⟩;simp only[hie,asIntOf,Sem.run_bind,Sem.run_pure,Result.andThen_ok,run_underlying hu,he,Sem.run_ite,if_pos c1,run_size hm,add_none];simp only[Int.ofNat_eq_natCast,Int.toNat_natCast];rw[Nat.add_assoc]
 · rename_i len e b off k j hu z;obtain⟨m,hm,h⟩:=Option.bind_eq_some_iff.1 h;obtain⟨hlt,h⟩:=cond_some h;obtain rfl:=Option.some.inj h;have hlt':j<len:=by simpa using hlt
   have hie:=hiv.int_iff;obtain⟨w1,hw1,he⟩: ∃w1,ι b=some w1∧a.eval x= .pointer (some ⟨w1.blk,w1.base+off,none⟩):=by
    generalize a.eval x=y at hv;cases hv with
    |flat hf=>simp[flat,flatN]at hf
    |ptr hw=>exact⟨_,hw,rfl⟩
   refine⟨.pointer (some ⟨w1.blk,w1.base+(off+j*m),none⟩),.ptr hw1,fun w=> ?_⟩;simp only[execOp,Instr.indexAt];refine run_value ?_;have c1:(0:Int)≤Int.ofNat j∧Int.ofNat j<(len:Int):=⟨Int.natCast_nonneg _,by rw[Int.ofNat_eq_natCast];omega⟩;simp only[hie,asIntOf,Sem.run_bind,Sem.run_pure,Result.andThen_ok,run_underlying hu,he,Instr.sureAddr,Sem.run_ite,if_pos c1,run_size hm,add_none];simp only[Int.ofNat_eq_natCast,Int.toNat_natCast];rw[Nat.add_assoc]
 · cases h
theorem pure_field {dst ty pos af gu s x f v}(h:stepPure P t ⟨dst,.field s x f,ty,pos,af,gu⟩=some v):PureOk P ι a ⟨dst,.field s x f,ty,pos,af,gu⟩ v:=by
 simp only[stepPure]at h;obtain⟨xv,hx,h⟩:=Option.bind_eq_some_iff.1 h;have hv:=opv_sound hg hr hx;split at h
 · rename_i fs cs hu;obtain⟨fl,hfl,h⟩:=Option.bind_eq_some_iff.1 h;obtain⟨ag,hag,h⟩:=Option.bind_eq_some_iff.1 h;obtain⟨cs',he,hcs⟩:=hv.agg_iff;rw[nth_eq,Array.getElem?_toList]at hfl;cases ag with
   |true=>
    obtain⟨m,hm,rfl⟩:=Option.map_eq_some_iff.1 h;refine⟨.agg (cs'.extract fl.offset (fl.offset+m)),?_,fun w=> ?_⟩
    · have k:VRs ι (cs.extract fl.offset (fl.offset+m)).toList (cs'.extract fl.offset (fl.offset+m)).toList:=by
       rw[Array.toList_extract,Array.toList_extract];exact(hcs.drop _).take _
      have k1:=VRs.arr.1 k;exact .agg k1.1 k1.2
    · simp only[execOp,Instr.field];refine run_value ?_;simp only[Sem.run_bind,run_underlying hu,Result.andThen_ok,hfl,he,asAgg,Sem.run_pure,part,run_isAgg hag,if_true,run_size hm]
   |false=>
    simp only[cond_false]at h;rw[nth_eq]at h;obtain⟨y,hy,hvy⟩:=hcs.get h;rw[Array.getElem?_toList]at hy;refine⟨y,hvy,fun w=> ?_⟩;simp only[execOp,Instr.field];refine run_value ?_;simp only[Sem.run_bind,run_underlying hu,Result.andThen_ok,hfl,he,asAgg,Sem.run_pure,part,run_isAgg hag,Bool.false_eq_true,if_false,hy]
 · cases h
theorem pure_convert {dst ty pos af gu s d x v}(h:stepPure P t ⟨dst,.convert s d x,ty,pos,af,gu⟩=some v):PureOk P ι a ⟨dst,.convert s d x,ty,pos,af,gu⟩ v:=by
 simp only[stepPure]at h;obtain⟨xv,hx,h⟩:=Option.bind_eq_some_iff.1 h;split at h
 · rename_i k m k' hu;obtain⟨ds,hds,h⟩:=Option.bind_eq_some_iff.1 h;obtain rfl:=Option.some.inj h;refine⟨_,.flat rfl,fun w=> ?_⟩;simp only[execOp,convert];refine run_value ?_;have he:=(opv_sound hg hr hx).int_iff;simp only[Sem.run_bind,run_underlying hds,run_underlying hu,Result.andThen_ok,he];cases ds<;>simp[Conv.intToInt,wrapF_eq]
 · exact .of_flat hg hr (fun _ _ hh=>by cases hh) h
theorem pure_typeAssert {dst ty pos af gu x xt as_ ok v}(h:stepPure P t ⟨dst,.typeAssert x xt as_ ok,ty,pos,af,gu⟩=some v):PureOk P ι a ⟨dst,.typeAssert x xt as_ ok,ty,pos,af,gu⟩ v:=by
 simp only[stepPure]at h;obtain⟨xv,hx,h⟩:=Option.bind_eq_some_iff.1 h;have hv:=opv_sound hg hr hx;split at h
 · exact .of_flat hg hr (fun _ _ hh=>by cases hh) h
 · rename_i d t' w hni hu;obtain⟨w',he,hw⟩:=hv.iface_iff;have run : ∀ (W : World) (r : Value), (if t' = as_ then (pure (if ok then Value.tuple #[w', .bool true] else w') : Sem Value) else if ok then (do pure (Value.tuple #[← zeroValue as_, .bool false])) else runtimePanic (.typeAssertion (some xt) (some t') as_ "")).run P W = .ok r W → (Instr.typeAssert (a.eval x) xt as_ ok).run P W = .ok r W := fun W r hr => by
    unfold Instr.typeAssert;rw[Sem.run_bind,run_underlying hu W,Result.andThen_ok,he];cases d<;>first|exact absurd rfl (hni _)|exact hr
   cases hb:Nat.beq t' as_ with
   |true=>
    rw[hb,cond_true]at h;obtain rfl:=Option.some.inj h;have hta:t'=as_:=Nat.eq_of_beq_eq_true hb;refine⟨bif ok then .tuple #[w',.bool true]else w',?_,fun W=> ?_⟩
    · cases ok with
      |false=>exact hw
      |true=>
       have:=VRs.arr (a:= #[w,.bool true]) (a':= #[w',.bool true]) (ι:=ι) |>.1 (.cons hw (.cons (.flat rfl) (.nil _)));exact .tup this.1 this.2
    · simp only[execOp];refine run_value (run W _ ?_);rw[if_pos hta];cases ok<;>rfl
   |false=>
    rw[hb,cond_false]at h;have hta:t'≠as_:=fun hh=>by rw[hh]at hb;exact absurd (Nat.beq_refl as_) (by rw[hb];decide)
    cases ok with
    |false=>cases h
    |true=>
     rw[cond_true]at h;obtain⟨z,hz,h⟩:=Option.bind_eq_some_iff.1 h;obtain⟨info,hi,hz⟩:=Option.bind_eq_some_iff.1 hz;obtain⟨hf,h⟩:=cond_some h;obtain rfl:=Option.some.inj h;have hfl:VR ι (.tuple #[z,.bool false]) (.tuple #[z,.bool false]):=by
      have:=VRs.arr (a:= #[z,.bool false]) (a':= #[z,.bool false]) (ι:=ι) |>.1 (.cons (.flat hf) (.cons (.flat rfl) (.nil _)));exact .tup this.1 this.2
     refine⟨_,hfl,fun W=> ?_⟩;simp only[execOp];refine run_value (run W _ ?_);rw[if_neg hta];simp only[if_true,Sem.run_bind,run_zero hi hz W,Result.andThen_ok,Sem.run_pure]
 · exact .of_flat hg hr (fun _ _ hh=>by cases hh) h
end
end Go.Ev
namespace Go.Ev
open Go
theorem VRs.set {ι:Inj}{a b:Array Value}(h:VRs ι a.toList b.toList)(i:Nat){x y:Value}(hv:VR ι x y):VRs ι (a.setIfInBounds i x).toList (b.setIfInBounds i y).toList:=by
 rw[Array.toList_setIfInBounds,Array.toList_setIfInBounds];refine⟨by simp[h.1],fun j u v hu hv'=> ?_⟩;rw[List.getElem?_set]at hu hv';by_cases e:i=j
 · subst e;simp only[if_true]at hu hv';split at hu
   · rename_i hl;rw[if_pos (by rw[h.1];exact hl)]at hv';obtain rfl:=Option.some.inj hu;obtain rfl:=Option.some.inj hv';exact hv
   · cases hu
 · rw[if_neg e]at hu hv';exact h.2 j u v hu hv'
theorem fold_rel {ι:Inj}(off:Nat): ∀(l l':List Value) (k:Nat) (a b:Array Value),VRs ι l l'→VRs ι a.toList b.toList→
 VRs ι ((l.zipIdx k).foldl (fun(cs:Array Value) (p:Value×Nat)=>cs.setIfInBounds (off+p.2) p.1) a).toList ((l'.zipIdx k).foldl (fun(cs:Array Value) (p:Value×Nat)=>cs.setIfInBounds (off+p.2) p.1) b).toList:=by
 intro l
 induction l with
 |nil=>intro l' k a b hl h;rw[hl.of_nil];exact h
 |cons x l ih=>
  intro l' k a b hl h;obtain⟨y,l',rfl,h1,h2⟩:=hl.head;simp only[List.zipIdx_cons,List.foldl_cons];exact ih l' (k+1) _ _ h2 (h.set _ h1)
def PRs (ι:Inj)(a b:List (Nat×Value)):Prop:=b.map (·.1)=a.map (·.1)∧VRs ι (a.map (·.2)) (b.map (·.2))
theorem PRs.head {ι:Inj}{p:Nat×Value}{a b:List (Nat×Value)}(h:PRs ι (p::a) b): ∃y c,b=(p.1,y)::c∧VR ι p.2 y∧PRs ι a c:=by
 obtain⟨h1,h2⟩:=h;cases b with
 |nil=>simp at h1
 |cons q c=>
  simp only[List.map_cons,List.cons.injEq]at h1;obtain⟨y,c',he,hv,ht⟩:=h2.head;simp only[List.map_cons,List.cons.injEq]at he;obtain⟨rfl,rfl⟩:=he;exact⟨q.2,c,by rw[←h1.1],hv,h1.2,ht⟩
theorem VRs.size {ι:Inj}{a b:Array Value}(h:VRs ι a.toList b.toList):b.size=a.size:=by simpa using h.1
theorem fill_rel {ι:Inj}(place place':Nat→Option (Nat×Nat))(hp: ∀i,place' i=place i): ∀(ps ps':List (Nat×Value)) (c c':Array Value) (r:Array Value),PRs ι ps ps'→VRs ι c.toList c'.toList→Instr.fill place c ps=some r→
 ∃r',Instr.fill place' c' ps'=some r'∧VRs ι r.toList r'.toList:=by
 intro ps
 induction ps with
 |nil=>
  intro ps' c c' r h hc hf;obtain⟨h1,h2⟩:=h;have:ps'=[]:=by simpa using h1
  subst this;obtain rfl:=Option.some.inj hf;exact⟨c',rfl,hc⟩
 |cons p ps ih=>
  intro ps' c c' r h hc hf;obtain⟨y,ps',rfl,hv,ht⟩:=h.head;obtain⟨i,v⟩:=p;unfold Instr.fill at hf ⊢;simp only[hp];cases hpl:place i with
  |none=>rw[hpl]at hf;cases hf
  |some q=>
   obtain⟨off,size⟩:=q;rw[hpl]at hf;simp only at hf ⊢;have hs:y.cells.size=v.cells.size:=hv.cells.size;rw[hs,hc.size];split at hf
   · cases hf
   · rename_i hc0;rw[if_neg hc0];refine ih ps' _ _ r ht ?_ hf;have e: ∀(q c:Array Value),q.zipIdx.foldl (fun(cs:Array Value) (p:Value×Nat)=>cs.setIfInBounds (off+p.2) p.1) c=q.toList.zipIdx.foldl (fun(cs:Array Value) (p:Value×Nat)=>cs.setIfInBounds (off+p.2) p.1) c:=by
      intro q c;rw[←Array.foldl_toList,Array.toList_zipIdx]
     show VRs ι (v.cells.zipIdx.foldl (fun(cs:Array Value) (p:Value×Nat)=>cs.setIfInBounds (off+p.2) p.1) c).toList (y.cells.zipIdx.foldl (fun(cs:Array Value) (p:Value×Nat)=>cs.setIfInBounds (off+p.2) p.1) c').toList;rw[e,e];exact fold_rel off v.cells.toList y.cells.toList 0 c c' hv.cells hc
theorem run_eqGuard {P:Program}{op:BinOp}{t:TypeId}{x y:Operand}{a b:Value}(h1:a≠ .nilIface)(h2: ∀c,a≠ .agg c)(w:World):(eqGuard op t x y a b).run P w= .ok () w:=by
 unfold eqGuard;cases a<;>first
  |exact absurd rfl h1
  |exact absurd rfl (h2 _)
  |(cases op<;>rfl)
theorem elemT_some {P:Program}{t e:TypeId}(h:elemT P t=some e):P.underlying t=some (.slice e):=by
 unfold elemT at h;split at h
 · rename_i e' hu;rw[hu,Option.some.inj h]
 · cases h
theorem ptrT_some {P:Program}{t e:TypeId}(h:ptrT P t=some e):P.underlying t=some (.pointer e):=by
 unfold ptrT at h;split at h
 · rename_i e' hu;rw[hu,Option.some.inj h]
 · cases h
theorem run_equalIn_slice_none {P:Program}{t e:TypeId}(hu:P.underlying t=some (.slice e))(d:Nat)(q:Addr)(l c l' c':Nat)(w:World):(Op.equalIn (d+1) t (.slice (some q) l c) (.slice none l' c')).run P w= .ok false w:=by
 simp[Op.equalIn,run_underlying hu]
theorem run_equalIn_ptr_none {P:Program}{t e:TypeId}(hu:P.underlying t=some (.pointer e))(d:Nat)(q:Addr)(w:World):(Op.equalIn (d+1) t (.pointer (some q)) (.pointer none)).run P w= .ok false w:=by
 simp[Op.equalIn,run_underlying hu]
theorem run_equalIn_slice_nn {P:Program}{t e:TypeId}(hu:P.underlying t=some (.slice e))(d:Nat)(l c l' c':Nat)(w:World):(Op.equalIn (d+1) t (.slice none l c) (.slice none l' c')).run P w= .ok true w:=by
 simp[Op.equalIn,run_underlying hu]
theorem run_equalIn_ptr_nn {P:Program}{t e:TypeId}(hu:P.underlying t=some (.pointer e))(d:Nat)(w:World):(Op.equalIn (d+1) t (.pointer none) (.pointer none)).run P w= .ok true w:=by
 simp[Op.equalIn,run_underlying hu]
theorem run_places {P:Program}{fs:Array Field}{pl:List (Nat×Nat)}(h:mapO (fun(f:Field)=>(sz P f.type).map fun n=>(f.offset,n)) fs.toList=some pl)(w:World):
 (fs.mapM fun f=>do pure (f.offset,←sizeOf f.type):Sem (Array (Nat×Nat))).run P w= .ok pl.toArray w:=by
 rw[Array.mapM_eq_mapM_toList,Sem.run_map];have k: ∀(l:List Field) (pl:List (Nat×Nat)),mapO (fun(f:Field)=>(sz P f.type).map fun n=>(f.offset,n)) l=some pl→(l.mapM fun f=>(do pure (f.offset,←sizeOf f.type):Sem (Nat×Nat))).run P w= .ok pl w:=by
  intro l
  induction l with
  |nil=>intro pl h;obtain rfl:=Option.some.inj h;rfl
  |cons f l ih=>
   intro pl h;rw[mapO_cons]at h;obtain⟨b,hb,h1⟩:=Option.bind_eq_some_iff.1 h;obtain⟨r,hr,rfl⟩:=Option.map_eq_some_iff.1 h1;obtain⟨n,hn,rfl⟩:=Option.map_eq_some_iff.1 hb;rw[List.mapM_cons];simp only[Sem.run_bind,run_size hn,Result.andThen_ok,Sem.run_pure,ih r hr]
 rw[k _ _ h];rfl
section
variable {P:Program}{ι:Inj}{t:Fr}{n:Nat}{a:Act}(hg:GR P ι)(hr:RT ι t n a)
include hg hr
omit hg hr in
theorem binF_flat {op:BinOp}{k:IntKind}{x y:Int}{r:Value}(h:binF op k x y=some r):flat r=true:=by
 unfold binF at h;have hz: ∀ {b:Bool} {v:Value},flat v=true→(bif b then none else some v)=some r→flat r=true:=by
  intro b v hv h;cases b
  · obtain rfl:=Option.some.inj h;exact hv
  · cases h
 split at h<;>first
  |(obtain rfl:=Option.some.inj h;rfl)
  |exact hz rfl h
  |(obtain⟨_,_,_,_,_,_,_,_,rfl⟩:=bitsF_some h;rfl)
  |cases h
theorem pure_binOp {dst ty pos af gu op xt x y yt v}(h:stepPure P t ⟨dst,.binOp op xt x y yt,ty,pos,af,gu⟩=some v):PureOk P ι a ⟨dst,.binOp op xt x y yt,ty,pos,af,gu⟩ v:=by
 simp only[stepPure]at h;obtain⟨xv,hx,h1⟩:=Option.bind_eq_some_iff.1 h;obtain⟨yv,hy,h2⟩:=Option.bind_eq_some_iff.1 h1;clear h h1;have hxv:=opv_sound hg hr hx;have hyv:=opv_sound hg hr hy;have fl:flatRun P t ⟨dst,.binOp op xt x y yt,ty,pos,af,gu⟩=some v→PureOk P ι a ⟨dst,.binOp op xt x y yt,ty,pos,af,gu⟩ v:= .of_flat hg hr (fun _ _ hh=>by cases hh);generalize flatRun P t ⟨dst,.binOp op xt x y yt,ty,pos,af,gu⟩=fb at h2 fl;clear hx hy;generalize hex:a.eval x=ex at hxv;generalize hey:a.eval y=ey at hyv;unfold binV at h2;split at h2
 · rename_i k p k' q;cases hk:kindB k k' with
   |false=>rw[hk]at h2;exact fl h2
   |true=>
    rw[hk]at h2;simp only[cond_true]at h2;split at h2
    · rename_i r hb;obtain rfl:=Option.some.inj h2;obtain rfl:=kindB_eq hk;refine⟨r,.flat (binF_flat hb),fun w=> ?_⟩;simp only[execOp];refine run_value ?_;rw[hex,hey,hxv.int_iff,hyv.int_iff,Sem.run_bind,run_eqGuard (by simp) (by simp) w];exact binF_sound hb w
    · exact fl h2
 · obtain⟨e,he,h3⟩:=Option.bind_eq_some_iff.1 h2;have hu:=elemT_some he;obtain⟨q',l1,c1,rfl⟩: ∃q' l1 c1,ex= .slice (some q') l1 c1:=by cases hxv<;>exact⟨_,_,_,rfl⟩
   obtain⟨l2,c2,rfl⟩: ∃l2 c2,ey= .slice none l2 c2:=by cases hyv;exact⟨_,_,rfl⟩
   unfold nilV at h3;split at h3
   · obtain rfl:=Option.some.inj h3;refine⟨_,.flat rfl,fun w=> ?_⟩;simp only[execOp];refine run_value ?_;rw[hex,hey,Sem.run_bind,run_eqGuard (by simp) (by simp) w];simp only[Result.andThen_ok,binOp,Op.equal,Op.maxDepth,Sem.run_bind,run_equalIn_slice_none hu 9999];rfl
   · obtain rfl:=Option.some.inj h3;refine⟨_,.flat rfl,fun w=> ?_⟩;simp only[execOp];refine run_value ?_;rw[hex,hey,Sem.run_bind,run_eqGuard (by simp) (by simp) w];simp only[Result.andThen_ok,binOp,Op.equal,Op.maxDepth,Sem.run_bind,run_equalIn_slice_none hu 9999];rfl
   · cases h3
 · obtain⟨e,he,h3⟩:=Option.bind_eq_some_iff.1 h2;have hu:=ptrT_some he;obtain⟨q',rfl⟩: ∃q',ex= .pointer (some q'):=by cases hxv<;>exact⟨_,rfl⟩
   obtain rfl:ey= .pointer none:=by cases hyv;rfl
   unfold nilV at h3;split at h3
   · obtain rfl:=Option.some.inj h3;refine⟨_,.flat rfl,fun w=> ?_⟩;simp only[execOp];refine run_value ?_;rw[hex,hey,Sem.run_bind,run_eqGuard (by simp) (by simp) w];simp only[Result.andThen_ok,binOp,Op.equal,Op.maxDepth,Sem.run_bind,run_equalIn_ptr_none hu 9999];rfl
   · obtain rfl:=Option.some.inj h3;refine⟨_,.flat rfl,fun w=> ?_⟩;simp only[execOp];refine run_value ?_;rw[hex,hey,Sem.run_bind,run_eqGuard (by simp) (by simp) w];simp only[Result.andThen_ok,binOp,Op.equal,Op.maxDepth,Sem.run_bind,run_equalIn_ptr_none hu 9999];rfl
   · cases h3
 · obtain⟨e,he,h3⟩:=Option.bind_eq_some_iff.1 h2;have hu:=elemT_some he;obtain⟨l1,c1,rfl⟩: ∃l1 c1,ex= .slice none l1 c1:=by cases hxv;exact⟨_,_,rfl⟩
   obtain⟨l2,c2,rfl⟩: ∃l2 c2,ey= .slice none l2 c2:=by cases hyv;exact⟨_,_,rfl⟩
   unfold nilE at h3;split at h3
   · obtain rfl:=Option.some.inj h3;refine⟨_,.flat rfl,fun w=> ?_⟩;simp only[execOp];refine run_value ?_;rw[hex,hey,Sem.run_bind,run_eqGuard (by simp) (by simp) w];simp only[Result.andThen_ok,binOp,Op.equal,Op.maxDepth,Sem.run_bind,run_equalIn_slice_nn hu 9999];rfl
   · obtain rfl:=Option.some.inj h3;refine⟨_,.flat rfl,fun w=> ?_⟩;simp only[execOp];refine run_value ?_;rw[hex,hey,Sem.run_bind,run_eqGuard (by simp) (by simp) w];simp only[Result.andThen_ok,binOp,Op.equal,Op.maxDepth,Sem.run_bind,run_equalIn_slice_nn hu 9999];rfl
   · cases h3
 · obtain⟨e,he,h3⟩:=Option.bind_eq_some_iff.1 h2;have hu:=ptrT_some he;obtain rfl:ex= .pointer none:=by cases hxv;rfl
   obtain rfl:ey= .pointer none:=by cases hyv;rfl
   unfold nilE at h3;split at h3
   · obtain rfl:=Option.some.inj h3;refine⟨_,.flat rfl,fun w=> ?_⟩;simp only[execOp];refine run_value ?_;rw[hex,hey,Sem.run_bind,run_eqGuard (by simp) (by simp) w];simp only[Result.andThen_ok,binOp,Op.equal,Op.maxDepth,Sem.run_bind,run_equalIn_ptr_nn hu 9999];rfl
   · obtain rfl:=Option.some.inj h3;refine⟨_,.flat rfl,fun w=> ?_⟩;simp only[execOp];refine run_value ?_;rw[hex,hey,Sem.run_bind,run_eqGuard (by simp) (by simp) w];simp only[Result.andThen_ok,binOp,Op.equal,Op.maxDepth,Sem.run_bind,run_equalIn_ptr_nn hu 9999];rfl
   · cases h3
 · exact fl h2
theorem parts_sound {ps:Array (Nat×Operand)}{vs:List (Nat×Value)}(h:mapO (fun(p:Nat×Operand)=>(opv P t p.2).map fun v=>(p.1,v)) ps.toList=some vs):
 PRs ι vs (ps.map fun(i,x)=>(i,a.eval x)).toList:=by
 obtain⟨h1,h2⟩:=mapO_some h;have hat: ∀(i:Nat) p,ps.toList[i]? =some p→ ∃v,vs[i]? =some (p.1,v)∧opv P t p.2=some v:=by
  intro i p hp;obtain⟨b,hb,hv⟩:=h2 i p hp;obtain⟨v,hv1,rfl⟩:=Option.map_eq_some_iff.1 hv;exact⟨v,hb,hv1⟩
 rw[Array.toList_map];refine⟨?_,by simp[h1],fun i x y hx hy=> ?_⟩
 · refine List.ext_getElem? fun i=> ?_;simp only[List.map_map,List.getElem?_map];cases hp:ps.toList[i]? with
   |none=>
    have:vs[i]? =none:=by rw[List.getElem?_eq_none_iff]at hp ⊢; omega
    rw[this];rfl
   |some p=>
    obtain⟨v,hv,_⟩:=hat i p hp;rw[hv];rfl
 · simp only[List.map_map,List.getElem?_map]at hx hy;obtain⟨p,hp,rfl⟩:=Option.map_eq_some_iff.1 hy;obtain⟨v,hv,ho⟩:=hat i p hp;rw[hv]at hx;obtain rfl:=Option.some.inj hx;exact opv_sound hg hr ho
theorem pure_build {dst ty pos af gu s ps v}(h:stepPure P t ⟨dst,.build s ps,ty,pos,af,gu⟩=some v):PureOk P ι a ⟨dst,.build s ps,ty,pos,af,gu⟩ v:=by
 simp only[stepPure]at h;obtain⟨z,hz,h⟩:=Option.bind_eq_some_iff.1 h;obtain⟨info,hi,hz⟩:=Option.bind_eq_some_iff.1 hz;obtain⟨_,hn,h⟩:=Option.bind_eq_some_iff.1 h;obtain⟨hzf,_⟩:=cond_some hn;obtain⟨vs,hvs,h⟩:=Option.bind_eq_some_iff.1 h;have hps:=parts_sound hg hr hvs;have hzr:VRs ι z.cells.toList z.cells.toList:= .of_flat hzf;split at h
 · rename_i fs hu;obtain⟨pl,hpl,h⟩:=Option.bind_eq_some_iff.1 h;obtain⟨cs,hf,rfl⟩:=Option.map_eq_some_iff.1 h;have hpl2:=run_places hpl;obtain⟨r',hr',hrel⟩:=fill_rel (fun i=>nth pl i) (pl.toArray[·]?) (fun i=>by simp[nth_eq]) _ _ _ _ _ hps hzr hf;refine⟨.agg r',.agg (VRs.arr.1 hrel).1 (VRs.arr.1 hrel).2,fun w=> ?_⟩;simp only[execOp,Instr.build];refine run_value ?_;simp only[Sem.run_bind,run_zero hi hz,Result.andThen_ok,run_underlying hu,hpl2,hr'];rfl
 · rename_i k e hu;obtain⟨m,hm,h⟩:=Option.bind_eq_some_iff.1 h;obtain⟨cs,hf,rfl⟩:=Option.map_eq_some_iff.1 h;obtain⟨r',hr',hrel⟩:=fill_rel _ (fun i=>some (i*m,m)) (fun i=>rfl) _ _ _ _ _ hps hzr hf;refine⟨.agg r',.agg (VRs.arr.1 hrel).1 (VRs.arr.1 hrel).2,fun w=> ?_⟩;simp only[execOp,Instr.build];refine run_value ?_;simp only[Sem.run_bind,run_zero hi hz,Result.andThen_ok,run_underlying hu,run_size hm,hr'];rfl
 · cases h
end
end Go.Ev
namespace Go.Ev
open Go
section
variable {P:Program}{ι:Inj}{t:Fr}{n:Nat}{a:Act}(hg:GR P ι)(hr:RT ι t n a)
include hg hr
theorem pure_len {dst ty pos af gu args ats v}(h:stepPure P t ⟨dst,.call ⟨.builtin .len,args,ats⟩,ty,pos,af,gu⟩=some v):PureOk P ι a ⟨dst,.call ⟨.builtin .len,args,ats⟩,ty,pos,af,gu⟩ v:=by
 simp only[stepPure]at h;obtain⟨xv,hx,h1⟩:=Option.bind_eq_some_iff.1 h;have hxv:=opv_sound hg hr hx;split at h1
 · rename_i q l c e hu;obtain⟨hs,h2⟩:=cond_some h1;obtain rfl:=Option.some.inj h2;have hs1:args.size=1:=Nat.eq_of_beq_eq_true hs;obtain⟨x,rfl⟩: ∃x,args= #[x]:=by
    obtain⟨l⟩:=args
    match l,hs1 with
    | [x],_=>exact⟨x,rfl⟩
   obtain⟨t0,ht0,hu0⟩:=Option.bind_eq_some_iff.1 hu;have hxx:a.eval ((#[x]:Array Operand).getD 0 (.const undef))=a.eval x:=rfl;rw[hxx]at hxv;obtain⟨q',c',he⟩: ∃q' c',a.eval x= .slice q' l c':=by
    generalize a.eval x=z at hxv;cases hxv<;>exact⟨_,_,rfl⟩
   refine⟨_,.flat rfl,fun w=> ?_⟩;simp only[execOp,resolve,invoke,builtin,Sem.run_bind,Sem.run_pure,Result.andThen_ok,List.map_toArray,List.map_cons,List.map_nil,he,Builtin.len_,ht0,show(#[Value.slice q' l c']:Array Value)[0]? =some (.slice q' l c') from rfl,run_underlying hu0];rfl
 · exact .of_flat hg hr (fun _ _ hh=>by cases hh) h1
theorem stepPure_sound {o:Oper}(hk:kindOf P o.op= .pure_){v:Value}(h:stepPure P t o=some v):PureOk P ι a o v:=by
 obtain⟨dst,op,ty,pos,af,gu⟩:=o;cases op with
 |move x=>exact pure_move hg hr h
 |assign x=>exact pure_assign hg hr h
 |pick c x y=>exact pure_pick hg hr h
 |build s ps=>exact pure_build hg hr h
 |nilCheck x=>exact pure_nilCheck hg hr h
 |binOp op xt x y yt=>exact pure_binOp hg hr h
 |convert s d x=>exact pure_convert hg hr h
 |makeInterface t' x=>exact pure_makeInterface hg hr h
 |makeFunc f x y=>exact pure_makeFunc hg hr h
 |fieldAddr s x f=>exact pure_fieldAddr hg hr h
 |field s x f=>exact pure_field hg hr h
 |indexAddr s x i=>exact pure_indexAddr hg hr h
 |extract x i=>exact pure_extract hg hr h
 |call c=>
  obtain⟨callee,args,ats⟩:=c;cases callee with
  |value f=>cases hk
  |invoke r m=>cases hk
  |builtin b=>
   cases b with
   |len=>exact pure_len hg hr h
   |max=>exact .of_flat hg hr (fun _ _ hh=>by cases hh) h
   |min=>exact .of_flat hg hr (fun _ _ hh=>by cases hh) h
   |_=>cases hk
 |unOp op xt x=>exact .of_flat hg hr (fun _ _ hh=>by cases hh) h
 |sliceToArrayPointer d x=>exact .of_flat hg hr (fun _ _ hh=>by cases hh) h
 |index xt x i=>exact .of_flat hg hr (fun _ _ hh=>by cases hh) h
 |typeAssert x xt as_ ok=>exact pure_typeAssert hg hr h
 |_=>cases hk
end
end Go.Ev
namespace Go.Ev
open Go
theorem one_eq (v:Value):v.oneCell'=one v:=by cases v<;>rfl
theorem setCell_heap_same {w:World}{b o:Nat}{v:Value}{c:Array Value}{e:TypeId}{fr:Nat×Nat}(h:w.heap[b]? =some (.cells c e fr)):
 (w.setCell ⟨b,o,none⟩ v).heap[b]? =some (.cells (c.setIfInBounds o v) e fr):=by
 simp[World.setCell,Array.getElem?_modify,h]
theorem setCell_heap_other {w:World}{b o q:Nat}{v:Value}(h:q≠b):(w.setCell ⟨b,o,none⟩ v).heap[q]? =w.heap[q]? :=by
 simp[World.setCell,Array.getElem?_modify,Ne.symm h]
theorem setCells_facts (b:Nat): ∀(vs:List Value) (o:Nat) (w:World),(w.setCells b o vs).heap.size=w.heap.size∧(w.setCells b o vs).tape=w.tape∧(w.setCells b o vs).os=w.os∧(w.setCells b o vs).output=w.output∧
 (∀q,q≠b→(w.setCells b o vs).heap[q]? =w.heap[q]?)∧
 ∀c e fr,w.heap[b]? =some (.cells c e fr)→ ∃c',(w.setCells b o vs).heap[b]? =some (.cells c' e fr)∧c'.size=c.size∧(o+vs.length≤c.size→ ∀i,c'[i]? =if o≤i∧i<o+vs.length then vs[i-o]? else c[i]?):=by
 intro vs
 induction vs with
 |nil=>intro o w;exact⟨rfl,rfl,rfl,rfl,fun _ _=>rfl,fun c e fr h=>⟨c,h,rfl,fun _ i=>by rw[if_neg (by simp)]⟩⟩
 |cons v vs ih=>
  intro o w;obtain⟨h1,h2,h3,h4,h5,h6⟩:=ih (o+1) (w.setCell ⟨b,o,none⟩ v);refine⟨by rw[World.setCells,h1];simp[World.setCell],by rw[World.setCells,h2];rfl,by rw[World.setCells,h3];rfl,by rw[World.setCells,h4];rfl,fun q hq=>by rw[World.setCells,h5 q hq];exact setCell_heap_other hq,fun c e fr h=> ?_⟩;obtain⟨c',g1,g2,g3⟩:=h6 _ _ _ (setCell_heap_same (o:=o) (v:=v) h);refine⟨c',by rw[World.setCells];exact g1,by rw[g2];simp,fun hl i=> ?_⟩;have hl':o+(vs.length+1)≤c.size:=by simpa using hl
  rw[g3 (by simp;omega) i];by_cases h0:i=o
  · subst h0;rw[if_neg (by omega),if_pos ⟨Nat.le_refl _,by simp⟩,Nat.sub_self];simp[show i<c.size by omega]
  · by_cases hi:o+1≤i∧i<o+1+vs.length
    · rw[if_pos hi,if_pos ⟨by omega,by simp;omega⟩,show i-o=(i-(o+1))+1 by omega];rfl
    · rw[if_neg hi,if_neg (by simp;omega)];simp[Ne.symm h0]
def Ob.wr:Ob→Bool
 | .cells _ _ .ro=>false
 |_=>true
def stOf:Nat→LoopState
 |0=> .ready
 |1=> .busy
 |2=> .done
 |_=> .exhausted
theorem RT.mono {ι ι':Inj}{t:Fr}{n:Nat}{a:Act}(hr:RT ι t n a)(hm: ∀o v,ι o=some v→ι' o=some v):RT ι' t n a:=⟨hr.size,fun i=>(hr.slots i).mono hm,hr.has⟩
def OR (P:Program)(ι:Inj)(v:Vw)(x:Ob)(w:World):Prop:=match x with
 | .cells c e m=>c.all one=true∧ ∃c' e' fr,w.heap[v.blk]? =some (.cells c' e' fr)∧(∀(j:Nat) x,c[j]? =some x→ ∃y,c'[v.base+j]? =some y∧VR ι x y)∧
    (m≠ .ro→fr=(0,0))∧(m= .grow→v.fin=c'.size∧sz P e=some v.esz∧0<v.esz∧v.base+c.length≤v.fin∧v.fin≤9223372036854775807*v.esz)
 | .siter s pos=>v.base=0∧w.heap[v.blk]? =some (.stringIter s pos)
 | .loop r=> ∃q:Loop,w.heap[v.blk]? =some (.loop q)∧q.state=stOf r.st∧q.pending=r.pend∧VRs ι r.t q.tmps.toList∧q.params=r.ps∧q.assign=r.asg∧q.body=r.body
structure RH (P:Program)(ι:Inj)(h:Hp)(w:World):Prop where
 live: ∀o x,h.get o=some x→o<h.nx∧ ∃v,ι o=some v∧OR P ι v x w
 apart: ∀o q x y vo vq,o≠q→h.get o=some x→x.wr=true→h.get q=some y→ι o=some vo→ι q=some vq→vo.blk≠vq.blk
 fresh: ∀o,h.nx≤o→ι o=none
 glob:GR P ι
 gsize:P.globals.size≤h.nx
structure Fr' (h:Hp)(ι:Inj)(w w':World):Prop where
 tape:w'.tape=w.tape
 os:w'.os=w.os
 output:w'.output=w.output
 size:w.heap.size≤w'.heap.size
 rest: ∀b,b<w.heap.size→(∀o x v,h.get o=some x→x.wr=true→ι o=some v→v.blk≠b)→w'.heap[b]? =w.heap[b]?
def Ext (n:Nat)(ι ι':Inj):Prop:= ∀o,o<n→ι' o=ι o
theorem Ext.refl (n:Nat)(ι:Inj):Ext n ι ι:=fun _ _=>rfl
theorem RH.mono_of {P:Program}{ι ι':Inj}{h:Hp}{w:World}(R:RH P ι h w)(E:Ext h.nx ι ι'): ∀o v,ι o=some v→ι' o=some v:=fun o v ho=>by
 rcases Nat.lt_or_ge o h.nx with hl|hl
 · rw[E o hl];exact ho
 · rw[R.fresh o hl]at ho;cases ho
theorem OR.block {P:Program}{ι:Inj}{v:Vw}{x:Ob}{w:World}(h:OR P ι v x w):v.blk<w.heap.size:=by
 cases x with
 |cells c e m=>obtain⟨_,c',e',fr,hb,_⟩:=h;exact(Array.getElem?_eq_some_iff.1 hb).1
 |siter s pos=>exact(Array.getElem?_eq_some_iff.1 h.2).1
 |loop r=>obtain⟨q,h1,_⟩:=h;exact(Array.getElem?_eq_some_iff.1 h1).1
theorem OR.of_block {P:Program}{ι ι':Inj}(hm: ∀o v,ι o=some v→ι' o=some v){v:Vw}{x:Ob}{w w':World}(h:OR P ι v x w)(hb:w'.heap[v.blk]? =w.heap[v.blk]?):OR P ι' v x w':=by
 cases x with
 |cells c e m=>
  obtain⟨ho,c',e',fr,h1,h2,h3⟩:=h;exact⟨ho,c',e',fr,by rw[hb];exact h1,fun j x hx=>let ⟨y,hy,hv⟩:=h2 j x hx;⟨y,hy,hv.mono hm⟩,h3⟩
 |siter s pos=>exact⟨h.1,by rw[hb];exact h.2⟩
 |loop r=>obtain⟨q,h1,h2,h3,h4,h5⟩:=h;exact⟨q,by rw[hb];exact h1,h2,h3,h4.mono hm,h5⟩
theorem readAt_some {h:Hp}{o off n:Nat}{l:List Value}(hr:readAt h o off n=some l): ∃c e m,h.get o=some (.cells c e m)∧l=(c.drop off).take n∧l.length=n:=by
 unfold readAt at hr;split at hr
 · rename_i c e m hg;obtain⟨h1,h2⟩:=cond_some hr;obtain rfl:=Option.some.inj h2;exact⟨c,e,m,hg,rfl,Nat.eq_of_beq_eq_true h1⟩
 · cases hr
theorem RH.read {P:Program}{ι:Inj}{h:Hp}{w:World}(R:RH P ι h w){o off n:Nat}{l:List Value}(hr:readAt h o off n=some l){v:Vw}(hv:ι o=some v):
 ∃l',VRs ι l l'∧(∀(j:Nat) x,l'[j]? =some x→w.cell? (⟨v.blk,v.base+off+j,none⟩:Addr)=some x)∧l'.length=n∧l.all one=true:=by
 obtain⟨c,e,m,hg,rfl,hl⟩:=readAt_some hr;obtain⟨_,v',hv',ho,c',e',fr,hb,hc,_⟩:=R.live o _ hg;rw[hv]at hv';obtain rfl:=Option.some.inj hv';have hin: ∀j,j<n→ ∃x y,((c.drop off).take n)[j]? =some x∧c'[v.base+off+j]? =some y∧VR ι x y:=by
  intro j hj;have hx:((c.drop off).take n)[j]? =some (((c.drop off).take n)[j]'(by omega)):=List.getElem?_eq_getElem _;have hx2:=hx;rw[List.getElem?_take,if_pos hj,List.getElem?_drop]at hx2;obtain⟨y,hy,hvy⟩:=hc _ _ hx2;exact⟨_,y,hx,by rw[Nat.add_assoc];exact hy,hvy⟩
 refine⟨(List.range n).map fun j=>c'.getD (v.base+off+j) undef,⟨by simp[hl],fun i x y hx hy=> ?_⟩,fun j x hx=> ?_,by simp,List.all_eq_true.2 fun x hx=>List.all_eq_true.1 ho x (List.mem_of_mem_drop (List.mem_of_mem_take hx))⟩
 · rw[List.getElem?_map]at hy;obtain⟨k,hk,rfl⟩:=Option.map_eq_some_iff.1 hy;have hi:i<n:=by have:=(List.getElem?_eq_some_iff.1 hx).1;omega
   rw[List.getElem?_range hi]at hk;obtain rfl:=Option.some.inj hk;obtain⟨x',y',h1,h2,h3⟩:=hin i hi;rw[h1]at hx;obtain rfl:=Option.some.inj hx;simpa[Array.getD_eq_getD_getElem?,h2] using h3
 · rw[List.getElem?_map]at hx;obtain⟨k,hk,rfl⟩:=Option.map_eq_some_iff.1 hx;have hj:j<n:=by
    rcases Nat.lt_or_ge j n with h|h
    · exact h
    · rw[List.getElem?_eq_none (by simpa using h)]at hk;cases hk
   rw[List.getElem?_range hj]at hk;obtain rfl:=Option.some.inj hk;obtain⟨x',y',h1,h2,h3⟩:=hin j hj;simp[World.cell?,hb,Array.getD_eq_getD_getElem?,h2]
theorem writeAt_some {h h':Hp}{o off:Nat}{vs:List Value}(hw:writeAt h o off vs=some h'): ∃c e m,h.get o=some (.cells c e m)∧m≠ .ro∧off+vs.length≤c.length∧vs.all one=true∧h.put o (some (.cells (putAt c off vs) e m))=some h':=by
 unfold writeAt at hw;split at hw
 · rename_i c e m hg;have k: ∀m,(bif Nat.ble (off+vs.length) c.length&&vs.all one then h.put o (some (.cells (putAt c off vs) e m))else none)=some h'→off+vs.length≤c.length∧vs.all one=true∧h.put o (some (.cells (putAt c off vs) e m))=some h':=by
    intro m hw;obtain⟨h1,h2⟩:=cond_some hw;rw[Bool.and_eq_true]at h1;exact⟨Nat.le_of_ble_eq_true h1.1,h1.2,h2⟩
   cases m with
   |ro=>cases hw
   |fix=>exact⟨c,e,.fix,hg,by simp,k _ hw⟩
   |grow=>exact⟨c,e,.grow,hg,by simp,k _ hw⟩
 · cases hw
theorem putAt_one {c vs:List Value}{off:Nat}(hc:c.all one=true)(hv:vs.all one=true)(hl:off+vs.length≤c.length):(putAt c off vs).all one=true:=
 List.all_eq_true.2 fun x hx=>by
  obtain⟨i,hi⟩:=List.getElem?_of_mem hx;rw[putAt_get c off vs hl]at hi;split at hi
  · exact all_get hv hi
  · exact all_get hc hi
theorem RH.write {P:Program}{ι:Inj}{h h':Hp}{w:World}(R:RH P ι h w){o off:Nat}{vs vs':List Value}(hw:writeAt h o off vs=some h'){v:Vw}(hv:ι o=some v)(hvs:VRs ι vs vs'):
 RH P ι h' (w.setCells v.blk (v.base+off) vs')∧Fr' h ι w (w.setCells v.blk (v.base+off) vs')∧h'.nx=h.nx∧h'.gd=h.gd∧
 (∀j,j<vs'.length→(w.cell? ⟨v.blk,v.base+off+j,none⟩).isSome=true)∧(∀j,j<vs'.length→w.frozen? ⟨v.blk,v.base+off+j,none⟩=false)∧(∀u∈vs',u.oneCell'=true)∧
 (∀q,h.guarded q=true→h'.get q=h.get q):=by
 obtain⟨c,e,m,hg,hm,hl,hone,hp⟩:=writeAt_some hw;obtain⟨p1,p2,p3,p4⟩:=Hp.get_put hp;obtain⟨hlt,v',hv',ho,c',e',fr,hb,hc,hfr,hgr⟩:=R.live o _ hg;rw[hv]at hv';obtain rfl:=Option.some.inj hv';obtain rfl:=hfr hm;obtain⟨s1,s2,s3,s4,s5,s6⟩:=setCells_facts v.blk vs' (v.base+off) w;obtain⟨c2,g1,g2,g3⟩:=s6 _ _ _ hb;have hin: ∀j,j<vs'.length→ ∃y,c'[v.base+(off+j)]? =some y:=by
  intro j hj;have hj':off+j<c.length:=by rw[hvs.1]at hj;omega
  obtain⟨y,hy,_⟩:=hc (off+j) _ (List.getElem?_eq_getElem hj');exact⟨y,hy⟩
 have hsz:v.base+off+vs'.length≤c'.size∨vs'=[]:=by
  cases vs' with
  |nil=>exact .inr rfl
  |cons u r=>
   obtain⟨y,hy⟩:=hin r.length (by simp);have:=(Array.getElem?_eq_some_iff.1 hy).1;left;simp;omega
 have hget: ∀i,c2[i]? =if v.base+off≤i∧i<v.base+off+vs'.length then vs'[i-(v.base+off)]? else c'[i]? :=by
  rcases hsz with h|h
  · exact g3 h
  · subst h;intro i;rw[if_neg (by simp)];rw[World.setCells]at g1;rw[hb]at g1;injection g1 with g1;injection g1 with g1;rw[g1]
 refine⟨⟨fun q x hq=> ?_,fun q r x y vq vr hne hq hx hr h1 h2=> ?_,fun q hq=>R.fresh q (by rw[←p1];exact hq),R.glob,by rw[p1];exact R.gsize⟩,⟨s2,s3,s4,by rw[s1];exact Nat.le_refl _,fun b hbl hall=> ?_⟩,p1,p2,fun j hj=> ?_,fun j hj=> ?_,fun u hu=> ?_,fun q hq=> ?_⟩
 · rw[p4]at hq;by_cases hqo:q=o
   · subst hqo;rw[if_pos rfl]at hq;split at hq
     · obtain rfl:=Option.some.inj hq;refine⟨by rw[p1];exact hlt,v,hv,putAt_one ho hone hl,c2,e',(0,0),g1,fun j x hx=> ?_,fun _=>rfl,fun hmg=> ?_⟩
       · rw[putAt_get c off vs hl]at hx;rw[hget];by_cases hj:off≤j∧j<off+vs.length
         · rw[if_pos hj]at hx;rw[if_pos (by rw[hvs.1];omega),show v.base+j-(v.base+off)=j-off by omega];exact hvs.get hx
         · rw[if_neg hj]at hx;rw[if_neg (by rw[hvs.1];omega)];exact hc j x hx
       · obtain⟨k1,k2,k3,k4⟩:=hgr hmg;exact⟨by rw[g2];exact k1,k2,k3,by rw[putAt_length];exact k4⟩
     · cases hq
   · rw[if_neg hqo]at hq;obtain⟨hl2,vq,hvq,hor⟩:=R.live q x hq;refine⟨by rw[p1];exact hl2,vq,hvq,hor.of_block (fun _ _ h=>h) (s5 _ ?_)⟩;exact Ne.symm (R.apart o q _ _ v vq (Ne.symm hqo) hg (by cases m<;>first|rfl|exact absurd rfl hm) hq hv hvq)
 · have old: ∀ {q x},h'.get q=some x→ ∃x0,h.get q=some x0∧x0.wr=x.wr:=by
    intro q x hq;rw[p4]at hq;by_cases hqo:q=o
    · subst hqo;rw[if_pos rfl]at hq;split at hq
      · obtain rfl:=Option.some.inj hq;exact⟨_,hg,by cases m<;>rfl⟩
      · cases hq
    · rw[if_neg hqo]at hq;exact⟨x,hq,rfl⟩
   obtain⟨x0,hx0,hw0⟩:=old hq;obtain⟨y0,hy0,_⟩:=old hr;exact R.apart q r x0 y0 vq vr hne hx0 (by rw[hw0];exact hx) hy0 h1 h2
 · exact s5 b (Ne.symm (hall o _ v hg (by cases m<;>first|rfl|exact absurd rfl hm) hv))
 · obtain⟨y,hy⟩:=hin j hj;simp[World.cell?,hb,show v.base+off+j=v.base+(off+j) by omega,hy]
 · simp[World.frozen?,hb]
 · rw[one_eq];exact List.all_eq_true.1 (hvs.one hone) u hu
 · rw[p4,if_neg];rintro rfl;rw[p3]at hq;cases hq
end Go.Ev
namespace Go.Ev
open Go
theorem boundV_some {v:Value}{m i:Nat}(h:boundV v m=some i): ∃k,v= .int k (Int.ofNat i)∧i≤m:=by
 unfold boundV at h;split at h
 · rename_i k j;obtain⟨h1,h2⟩:=cond_some h;obtain rfl:=Option.some.inj h2;exact⟨k,rfl,Nat.le_of_ble_eq_true h1⟩
 · cases h
theorem run_bound {P:Program}{ι:Inj}{v v':Value}{m i M:Nat}(h:boundV v m=some i)(hM:m≤M)(hv:VR ι v v')(code:BoundsCode)(w:World):(Instr.sliceBound v' M code).run P w= .ok i w:=by
 obtain⟨k,rfl,hi⟩:=boundV_some h;rw[hv.int_iff];have c:(0:Int)≤Int.ofNat i∧Int.ofNat i≤(M:Int):=⟨Int.natCast_nonneg _,by rw[Int.ofNat_eq_natCast];omega⟩;simp only[Instr.sliceBound,asIntOf,Sem.run_bind,Sem.run_pure,Result.andThen_ok,Sem.run_ite,if_pos c];rfl
def QR (ι:Inj):Option Value→Option Value→Prop
 |none,none=>True
 |some v,some v'=>VR ι v v'
 |_,_=>False
theorem bounds_some {len vis:Nat}{lo hi mx:Option Value}{r:Nat×Nat×Nat}(h:bounds len vis lo hi mx=some r):r.1≤r.2.1∧(hi=none→mx=none∧r.2.1=len)∧(hi≠none→r.2.1≤r.2.2)∧(mx=none→r.2.2=vis)∧r.2.2≤vis:=by
 unfold bounds at h;obtain⟨m,hm,h⟩:=Option.bind_eq_some_iff.1 h;obtain⟨hh,hhh,h⟩:=Option.bind_eq_some_iff.1 h;obtain⟨l,hl,rfl⟩:=Option.map_eq_some_iff.1 h;have e1:(mx=none→m=vis)∧m≤vis:=by
  cases mx with
  |none=>obtain rfl:=Option.some.inj hm;exact⟨fun _=>rfl,Nat.le_refl _⟩
  |some v=>exact⟨(fun h=>by cases h),(boundV_some hm).choose_spec.2⟩
 have e2:(hi=none→mx=none∧hh=len)∧(hi≠none→hh≤m):=by
  cases hi with
  |none=>
   cases mx with
   |none=>obtain rfl:=Option.some.inj hhh;exact⟨fun _=>⟨rfl,rfl⟩,fun h=>absurd rfl h⟩
   |some v=>cases hhh
  |some v=>exact⟨fun h=>(by cases h),fun _=>(boundV_some hhh).choose_spec.2⟩
 have e3:l≤hh:=by
  cases lo with
  |none=>obtain rfl:=Option.some.inj hl;exact Nat.zero_le _
  |some v=>exact(boundV_some hl).choose_spec.2
 exact⟨e3,e2.1,e2.2,e1.1,e1.2⟩
theorem run_bounds {P:Program}{ι:Inj}{len vis M:Nat}{lo hi mx lo' hi' mx':Option Value}{r:Nat×Nat×Nat}(h:bounds len vis lo hi mx=some r)(hM:vis≤M)(h1:QR ι lo lo')(h2:QR ι hi hi')(h3:QR ι mx mx')(isS:Bool)(w:World):
 (Instr.sliceBounds isS len M lo' hi' mx').run P w= .ok (r.1,r.2.1,if mx.isSome then r.2.2 else M) w:=by
 unfold bounds at h;obtain⟨m,hm,h⟩:=Option.bind_eq_some_iff.1 h;obtain⟨hh,hhh,h⟩:=Option.bind_eq_some_iff.1 h;obtain⟨l,hl,rfl⟩:=Option.map_eq_some_iff.1 h;unfold Instr.sliceBounds;have kl: ∀code (K:Nat→Sem (Nat×Nat×Nat)),(match lo' with|some v=>(do let l←Instr.sliceBound v hh code;K l)|none=>(do let l←pure 0;K l)).run P w=(K l).run P w:=by
  intro code K;cases lo<;>cases lo'<;>first|exact h1.elim|skip
  · obtain rfl:=Option.some.inj hl;rfl
  · simp only[Sem.run_bind,run_bound hl (Nat.le_refl _) h1,Result.andThen_ok]
 cases mx<;>cases mx'<;>first|exact h3.elim|skip
 · obtain rfl:=Option.some.inj hm;cases hi<;>cases hi'<;>first|exact h2.elim|skip
   · obtain rfl:=Option.some.inj hhh;simp only[Sem.run_bind,Sem.run_pure,Result.andThen_ok,Option.isSome_none,Bool.false_eq_true,if_false];exact kl _ _
   · simp only[Sem.run_bind,Sem.run_pure,Result.andThen_ok,run_bound hhh hM h2,Option.isSome_none,Bool.false_eq_true,if_false];exact kl _ _
 · have hm1:=run_bound (P:=P) hm hM h3;cases hi<;>cases hi'<;>first|exact h2.elim|skip
   · cases hhh
   · simp only[Sem.run_bind,Result.andThen_ok,hm1,run_bound hhh (Nat.le_refl _) h2,Option.isSome_some,if_true];exact kl _ _
section
variable {P:Program}{ι:Inj}{t:Fr}{n:Nat}{a:Act}{h:Hp}{w:World}(hr:RT ι t n a)(R:RH P ι h w)
include hr R
theorem opq_sound {q:Option Operand}{r:Option Value}(hq:opq P t q=some r):QR ι r (q.map a.eval):=by
 cases q with
 |none=>obtain rfl:=Option.some.inj hq;trivial
 |some q=>
  obtain⟨v,hv,rfl⟩:=Option.map_eq_some_iff.1 hq;exact opv_sound R.glob hr hv
theorem load_sound {ty:TypeId}{o off:Nat}{v:Value}{vw:Vw}(hv:ι o=some vw)
 (hl:((aggT P ty).bind fun ag=>bif ag then (sz P ty).bind fun n=>(readAt h o off n).map fun l=>Value.agg l.toArray else (readAt h o off 1).map fun l=>l.headD undef)=some v):
 ∃v',VR ι v v'∧(loadVar ty ⟨vw.blk,vw.base+off,none⟩).run P w= .ok v' w:=by
 have _:=hr;obtain⟨ag,hag,hl⟩:=Option.bind_eq_some_iff.1 hl;unfold loadVar;cases ag with
 |true=>
  obtain⟨m,hm,hl⟩:=Option.bind_eq_some_iff.1 hl;obtain⟨l,hrd,rfl⟩:=Option.map_eq_some_iff.1 hl;obtain⟨l',h1,h2,h3,_⟩:=R.read hrd hv;have k:=VRs.arr (a:=l.toArray) (a':=l'.toArray) (ι:=ι) |>.1 (by simpa using h1);refine⟨.agg l'.toArray,.agg k.1 k.2,?_⟩;have hc:=run_loadCells_list (P:=P) w ⟨vw.blk,vw.base+off,none⟩ l' (fun j x hx=>by rw[add_none];exact h2 j x hx);rw[h3]at hc;simp only[Sem.run_bind,run_isAgg hag,Result.andThen_ok,if_true,run_size hm,hc];rfl
 |false=>
  simp only[cond_false]at hl;obtain⟨l,hrd,rfl⟩:=Option.map_eq_some_iff.1 hl;obtain⟨l',h1,h2,h3,_⟩:=R.read hrd hv;obtain⟨_,_,_,_,_,hl1⟩:=readAt_some hrd
  match l,hl1,h1 with
  | [x],_,h1=>
    obtain⟨y,c,rfl,hxy,_⟩:=h1.head;refine⟨y,hxy,?_⟩;have:=h2 0 y rfl;simp only[Sem.run_bind,run_isAgg hag,Result.andThen_ok,Bool.false_eq_true,if_false,run_load];rw[show vw.base+off=vw.base+off+0 from rfl,this]
theorem sliceV_sound {ty:TypeId}{x x' v:Value}{lo hi mx lo' hi' mx':Option Value}(hx:VR ι x x')(h1:QR ι lo lo')(h2:QR ι hi hi')(h3:QR ι mx mx')(hv:sliceV P h ty x lo hi mx=some v):
 ∃v',VR ι v v'∧(Instr.sliceAt ty x' lo' hi' mx').run P w= .ok v' w:=by
 have _:=hr;unfold sliceV at hv;split at hv
 · rename_i e q len cap hu;obtain⟨m,hm,hv0⟩:=Option.bind_eq_some_iff.1 hv;clear hv;obtain⟨vis,hvis,hv1⟩:=Option.bind_eq_some_iff.1 hv0;clear hv0;obtain⟨r,hb,hv⟩:=Option.bind_eq_some_iff.1 hv1;clear hv1;obtain⟨b1,b2,b3,b4,b5⟩:=bounds_some hb;have run: ∀ {q':Option Addr} {M:Nat},vis≤M→(Instr.sliceAt ty (.slice q' len M) lo' hi' mx').run P w=
    .ok (.slice (if (if mx.isSome then r.2.2 else M)=r.1 then q' else q'.map (·.add (r.1*m))) (r.2.1-r.1) ((if mx.isSome then r.2.2 else M)-r.1)) w:=by
    intro q' M hM;unfold Instr.sliceAt;simp only[Sem.run_bind,run_underlying hu,Result.andThen_ok];unfold Instr.slice;simp only[Sem.run_bind,run_underlying hu,Result.andThen_ok,run_bounds hb hM h1 h2 h3,run_size hm];rfl
   split at hv
   ·
    obtain⟨hc,hv⟩:=cond_some hv;rw[Bool.and_eq_true]at hc;obtain rfl:=Nat.eq_of_beq_eq_true hc.1;obtain rfl:=Nat.eq_of_beq_eq_true hc.2;obtain rfl:=Option.some.inj hv;obtain rfl:x'= .slice none 0 cap:=by cases hx;rfl
    have hcap:cap=0:=by simp only[seen]at hvis;exact Option.some.inj hvis
    subst hcap;have e0:r.2.2=0:=Nat.le_zero.1 b5;have e1:r.2.1=0:=by
     by_cases hn:hi=none
     · exact(b2 hn).2
     · have:=b3 hn;omega
    have e2:r.1=0:=by omega
    refine⟨.slice none 0 0,.flat rfl,?_⟩;rw[run (q':=none) (M:=0) (Nat.le_refl _),e0,e1,e2];cases mx<;>rfl
   · rename_i o off;by_cases hk:(Nat.beq cap unk&&mx.isNone)=true
     · rw[hk]at hv;obtain rfl:=Option.some.inj hv;rw[Bool.and_eq_true]at hk;have hcu:cap=unk:=Nat.eq_of_beq_eq_true hk.1;have hmx:mx=none:=by cases mx with
        |none=>rfl
        |some _=>cases hk.2
       subst hcu hmx;obtain⟨cs,hg,he,hvv⟩: ∃cs,h.get o=some (.cells cs e .grow)∧0<m∧vis=(cs.length-off)/m:=by
        simp only[seen]at hvis;rw[show Nat.beq unk unk=true from Nat.beq_refl unk,cond_true]at hvis;split at hvis
        · rename_i cs e' hg;obtain⟨hc,hvi2⟩:=cond_some hvis;rw[Bool.and_eq_true]at hc;obtain rfl:=Nat.eq_of_beq_eq_true hc.1;exact⟨cs,hg,by simpa using hc.2,(Option.some.inj hvi2).symm⟩
        · cases hvis
       obtain⟨_,vw,hvw,_,c',e'',fr,hbl,_,_,hgr⟩:=R.live o _ hg;obtain⟨g1,g2,g3,g4⟩:=hgr rfl;rw[hm]at g2;obtain rfl:=Option.some.inj g2;have hmul:vis*vw.esz≤cs.length-off:=by rw[hvv];exact Nat.div_mul_le_self _ _
       cases hx with
       |flat hf=>simp[flat,flatN]at hf
       |slc _ hne=>exact absurd rfl hne
       | @slu _ _ _ c w1 hw1 hc hl=>
         rw[hvw]at hw1;obtain rfl:=Option.some.inj hw1;have hvc:vis≤c:=by
          rcases Nat.eq_zero_or_pos vis with h0|h0
          · omega
          · have h5:vis*vw.esz≤c*vw.esz:=by
             have:0<vis*vw.esz:=Nat.mul_pos h0 g3;omega
            exact Nat.le_of_mul_le_mul_right h5 g3
         have hrc:r.2.1≤c:=by
          by_cases hn:hi=none
          · rw[(b2 hn).2];exact hl
          · have:=b3 hn;omega
         rw[run hvc];simp only[Option.isSome_none,Bool.false_eq_true,if_false];by_cases hcl:c=r.1
         · rw[if_pos hcl];have e1:r.2.1-r.1=0:=by omega
           have e2:c-r.1=0:=by omega
           rw[e1,e2];refine⟨_,.sl0 hvw (.inl ⟨rfl,?_⟩),rfl⟩;rw[←hc,hcl];omega
         · rw[if_neg hcl];simp only[Option.map_some,add_none];refine⟨_,?_,rfl⟩;have hcm:r.1*vw.esz+(c-r.1)*vw.esz=c*vw.esz:=by rw[←Nat.add_mul];congr 1;omega
           have:=VR.slu (off:=off+r.1*vw.esz) (len:=r.2.1-r.1) (c:=c-r.1) hvw (by omega) (by omega);rw[show vw.base+(off+r.1*vw.esz)=vw.base+off+r.1*vw.esz by omega]at this;exact this
       | @sl0 _ _ _ q0 _ hw1 hc=>
         rw[hvw]at hw1;obtain rfl:=Option.some.inj hw1;have hc2:vw.base+off=vw.fin:=by
          rcases hc with ⟨_,h⟩|h
          · exact h
          · exact absurd h (by decide)
         have hv0:vis=0:=by
          have:cs.length-off=0:=by omega
          rw[hvv,this];simp
         subst hv0;have e0:r.2.2=0:=Nat.le_zero.1 b5;have e1:r.2.1=0:=by
          by_cases hn:hi=none
          · exact(b2 hn).2
          · have:=b3 hn;omega
         have e2:r.1=0:=by omega
         rw[run (Nat.le_refl _),e1,e2];refine⟨.slice (some q0) 0 0,.sl0 hvw (.inl ⟨rfl,by omega⟩),?_⟩;simp
     · have hk':(Nat.beq cap unk&&mx.isNone)=false:=Bool.eq_false_iff.2 hk;rw[hk']at hv;simp only[cond_false]at hv;obtain⟨hmu,hv⟩:=cond_some hv;obtain rfl:=Option.some.inj hv;have hmu':r.2.2<unk:=by simpa using hmu
       have fin: ∀ {vw:Vw} {M:Nat},ι o=some vw→vis≤M→(mx=none→M=vis)→ ∃v',VR ι (.slice (some ⟨o,bif Nat.beq r.2.2 r.1 then off else off+r.1*m,none⟩) (r.2.1-r.1) (r.2.2-r.1)) v'∧(Instr.sliceAt ty (.slice (some ⟨vw.blk,vw.base+off,none⟩) len M) lo' hi' mx').run P w= .ok v' w:=by
        intro vw M hvw hM hMx;rw[run hM];have em:(if mx.isSome=true then r.2.2 else M)=r.2.2:=by
         cases mx with
         |none=>simp;rw[b4 rfl];exact hMx rfl
         |some _=>rfl
        rw[em];refine⟨_,?_,rfl⟩;have hne:r.2.2-r.1≠unk:=by omega
        by_cases hml:r.2.2=r.1
        · rw[if_pos hml,hml,show Nat.beq r.1 r.1=true from Nat.beq_refl _];have:=VR.slc (off:=off) (len:=r.2.1-r.1) (cap:=r.2.2-r.1) hvw hne;rw[hml]at this;exact this
        · rw[if_neg hml,show Nat.beq r.2.2 r.1=false from by rw[Bool.eq_false_iff];intro hh;exact hml (Nat.eq_of_beq_eq_true hh)];simp only[Option.map_some,add_none,cond_false];have:=VR.slc (off:=off+r.1*m) (len:=r.2.1-r.1) (cap:=r.2.2-r.1) hvw hne
          rwa [←Nat.add_assoc]at this
       have hseen:cap≠unk→vis=cap:=by
        intro hne;simp only[seen]at hvis;rw[show Nat.beq cap unk=false from by rw[Bool.eq_false_iff];intro hh;exact hne (Nat.eq_of_beq_eq_true hh),cond_false]at hvis;exact(Option.some.inj hvis).symm
       have hmxs:cap=unk→mx≠none:=by
        intro hcu hmx;subst hcu hmx;rw[show Nat.beq unk unk=true from Nat.beq_refl _]at hk';cases hk'
       have zero: ∀ {vw:Vw} {q:Addr},ι o=some vw→vis=0→len=0→ ∃v',VR ι (.slice (some ⟨o,bif Nat.beq r.2.2 r.1 then off else off+r.1*m,none⟩) (r.2.1-r.1) (r.2.2-r.1)) v'∧(Instr.sliceAt ty (.slice (some q) len 0) lo' hi' mx').run P w= .ok v' w:=by
        intro vw q hvw hv0 hl0;have e0:r.2.2=0:=by omega
        have e1:r.2.1=0:=by
         by_cases hn:hi=none
         · rw[(b2 hn).2];exact hl0
         · have:=b3 hn;omega
        have e2:r.1=0:=by omega
        rw[run (by omega),e0,e1,e2];refine⟨.slice (some q) 0 0,.sl0 hvw (.inr rfl),?_⟩;cases mx<;>simp
       cases hx with
       |flat hf=>simp[flat,flatN]at hf
       |slc hw1 hne=>exact fin hw1 (by rw[hseen hne];exact Nat.le_refl _) (fun _=>(hseen hne).symm)
       | @slu _ _ _ c w1 hw1 hc hl=>
         obtain⟨cs,hg,he,hvv⟩: ∃cs,h.get o=some (.cells cs e .grow)∧0<m∧vis=(cs.length-off)/m:=by
          simp only[seen]at hvis;rw[show Nat.beq unk unk=true from Nat.beq_refl unk,cond_true]at hvis;split at hvis
          · rename_i cs e' hg;obtain⟨hc,hvi2⟩:=cond_some hvis;rw[Bool.and_eq_true]at hc;obtain rfl:=Nat.eq_of_beq_eq_true hc.1;exact⟨cs,hg,by simpa using hc.2,(Option.some.inj hvi2).symm⟩
          · cases hvis
         obtain⟨_,vw,hvw,_,c',e'',fr,hbl,_,_,hgr⟩:=R.live o _ hg;obtain⟨g1,g2,g3,g4⟩:=hgr rfl;rw[hm]at g2;obtain rfl:=Option.some.inj g2;rw[hvw]at hw1;obtain rfl:=Option.some.inj hw1;have hmul:vis*vw.esz≤cs.length-off:=by rw[hvv];exact Nat.div_mul_le_self _ _
         have hvc:vis≤c:=by
          rcases Nat.eq_zero_or_pos vis with h0|h0
          · omega
          · have h5:vis*vw.esz≤c*vw.esz:=by
             have:0<vis*vw.esz:=Nat.mul_pos h0 g3;omega
            exact Nat.le_of_mul_le_mul_right h5 g3
         exact fin hvw hvc (fun hm=>absurd hm (hmxs rfl))
       | @sl0 _ _ w1 q cap hw1 hc=>
         refine zero hw1 ?_ rfl;rcases hc with ⟨rfl,hbf⟩|rfl
         · simp only[seen]at hvis;rw[show Nat.beq unk unk=true from Nat.beq_refl unk,cond_true]at hvis;split at hvis
           · rename_i cs e' hg;obtain⟨_,hvi2⟩:=cond_some hvis;obtain⟨_,vw,hvw,_,c',e'',fr,hbl,_,_,hgr⟩:=R.live o _ hg;obtain⟨g1,g2,g3,g4⟩:=hgr rfl;rw[hvw]at hw1;obtain rfl:=Option.some.inj hw1;have:cs.length-off=0:=by omega
             rw[←Option.some.inj hvi2,this];simp
           · cases hvis
         · exact hseen (by decide)
   · cases hv
 · rename_i len e o off hu;obtain⟨m,hm,hv⟩:=Option.bind_eq_some_iff.1 hv;obtain⟨r,hb,hv⟩:=Option.bind_eq_some_iff.1 hv;obtain⟨b1,b2,b3,b4,b5⟩:=bounds_some hb;obtain⟨hmu,hv⟩:=cond_some hv;obtain rfl:=Option.some.inj hv;have hmu':r.2.2<unk:=by simpa using hmu
   cases hx with
   |flat hf=>simp[flat,flatN]at hf
   | @ptr _ _ vw hvw=>
     have em:(if mx.isSome=true then r.2.2 else len)=r.2.2:=by
      cases mx with
      |none=>simp;rw[b4 rfl]
      |some _=>rfl
     have hne:r.2.2-r.1≠unk:=by omega
     have run:(Instr.sliceAt ty (.pointer (some ⟨vw.blk,vw.base+off,none⟩)) lo' hi' mx').run P w= .ok (.slice (some (if r.2.2=r.1 then ⟨vw.blk,vw.base+off,none⟩else (⟨vw.blk,vw.base+off,none⟩:Addr).add (r.1*m))) (r.2.1-r.1) (r.2.2-r.1)) w:=by
      unfold Instr.sliceAt;simp only[Sem.run_bind,run_underlying hu,Result.andThen_ok,Instr.sureAddr,Sem.run_pure,run_bounds hb (Nat.le_refl _) h1 h2 h3,run_size hm,em]
     rw[run];refine⟨_,?_,rfl⟩;by_cases hml:r.2.2=r.1
     · rw[if_pos hml,hml,show Nat.beq r.1 r.1=true from Nat.beq_refl _];have:=VR.slc (off:=off) (len:=r.2.1-r.1) (cap:=r.2.2-r.1) hvw hne;rw[hml]at this;exact this
     · rw[if_neg hml,show Nat.beq r.2.2 r.1=false from by rw[Bool.eq_false_iff];intro hh;exact hml (Nat.eq_of_beq_eq_true hh),add_none];simp only[cond_false];have:=VR.slc (off:=off+r.1*m) (len:=r.2.1-r.1) (cap:=r.2.2-r.1) hvw hne
       rwa [←Nat.add_assoc]at this
 · cases hv
omit hr R in
theorem bytesT_some {ty e:TypeId}(h:bytesT P ty=some e):P.underlying ty=some (.slice e)∧P.underlying e=some (.int .u8):=by
 unfold bytesT at h;split at h
 · split at h
   · obtain rfl:=Option.some.inj h;exact⟨‹_›,‹_›⟩
   · cases h
 · cases h
omit hr R in
theorem bytesOf_some: ∀ {l:List Value} {bs:List UInt8},bytesOf l=some bs→l=bs.map fun b=>Value.int .u8 (b.toNat:Int):=by
 intro l
 induction l with
 |nil=>intro bs h;obtain rfl:=Option.some.inj h;rfl
 |cons v l ih=>
  intro bs h;unfold bytesOf at h;split at h
  · rename_i h2;cases h2
  · rename_i n r h2;injection h2 with e1 e2;subst e1 e2;obtain⟨hn,h⟩:=cond_some h;obtain⟨b,hb,rfl⟩:=Option.map_eq_some_iff.1 h;have hn:n<256:=by simpa using hn
    rw[List.map_cons,←ih hb];congr 2;show Int.ofNat n=((UInt8.ofNat n).toNat:Int);rw[UInt8.toNat_ofNat',Nat.mod_eq_of_lt (by simpa using hn)];rfl
  · cases h
theorem stepRead_sound {o:Oper}{v:Value}{ids:List Nat}(hs:stepRead P t o h=some (v,ids)): ∃v',VR ι v v'∧(execOp a.eval o).run P w= .ok (.value v') w:=by
 obtain⟨dst,op,ty,pos,af,gu⟩:=o;cases op with
 |load t' x=>
  simp only[stepRead]at hs;obtain⟨xv,hx,hs⟩:=Option.bind_eq_some_iff.1 hs;have hxv:=opv_sound R.glob hr hx;split at hs
  · rename_i b off;generalize hex:a.eval x=ex at hxv;cases hxv with
    |flat hf=>simp[flat,flatN]at hf
    | @ptr _ _ vw hvw=>
      obtain⟨v',h1,h2⟩:=load_sound hr R (ty:=t') (off:=off) (v:=v) hvw (by
       obtain⟨ag,hag,hs⟩:=Option.bind_eq_some_iff.1 hs;rw[hag];cases ag with
       |true=>
        obtain⟨m,hm,hs⟩:=Option.bind_eq_some_iff.1 hs;obtain⟨l,hl,hs⟩:=Option.bind_eq_some_iff.1 hs;injection hs with hs;injection hs with hs _;subst hs;simp[hm,hl]
       |false=>
        obtain⟨l,hl,hs⟩:=Option.bind_eq_some_iff.1 hs;injection hs with hs;injection hs with hs _;subst hs;simp[hl])
      refine⟨v',h1,?_⟩;simp only[execOp,Instr.loadAt];refine run_value ?_;rw[hex];simp only[Instr.sureAddr,Sem.run_bind,Sem.run_pure,Result.andThen_ok,h2]
  · cases hs
 |slice t' x lo hi mx=>
  simp only[stepRead]at hs;obtain⟨xv,hx,hs⟩:=Option.bind_eq_some_iff.1 hs;have hxv:=opv_sound R.glob hr hx;split at hs
  · obtain⟨r,hf,he⟩:=Option.map_eq_some_iff.1 hs;injection he with he _;subst he;obtain⟨f1,f2⟩:=flatRun_sound R.glob hr (fun _ _ hh=>by cases hh) hf;exact⟨_,.flat f1,f2 w⟩
  · obtain⟨l,hl,hs⟩:=Option.bind_eq_some_iff.1 hs;obtain⟨m,hm,hs⟩:=Option.bind_eq_some_iff.1 hs;obtain⟨q,hq,hs⟩:=Option.bind_eq_some_iff.1 hs;obtain⟨r,hv,hs⟩:=Option.bind_eq_some_iff.1 hs;injection hs with hs;injection hs with hs _;subst hs;obtain⟨v',h1,h2⟩:=sliceV_sound hr R hxv (opq_sound hr R hl) (opq_sound hr R hm) (opq_sound hr R hq) hv;refine⟨v',h1,?_⟩;simp only[execOp];exact run_value h2
 |convert src d x=>
  simp only[stepRead]at hs;obtain⟨xv,hx,hs1⟩:=Option.bind_eq_some_iff.1 hs;obtain⟨e,hb,hs2⟩:=Option.bind_eq_some_iff.1 hs1;clear hs hs1;have hxv:=opv_sound R.glob hr hx;obtain⟨b1,b2⟩:=bytesT_some hb;split at hs2
  · rename_i hd;injection hs2 with hs2;injection hs2 with hs2 _;subst hs2;refine⟨_,.flat rfl,?_⟩;have he: ∃l c,a.eval x= .slice none l c:=by
     generalize a.eval x=y at hxv;cases hxv;exact⟨_,_,rfl⟩
    obtain⟨l,c,he⟩:=he;simp only[execOp,he];exact run_value (run_convert_bytes_nil w src e b1 b2 l c d hd)
  · rename_i b off n cap hd;obtain⟨l,hl,hs3⟩:=Option.bind_eq_some_iff.1 hs2;obtain⟨bs,hbs,hs4⟩:=Option.bind_eq_some_iff.1 hs3;injection hs4 with hs4;injection hs4 with hs4 _;subst hs4;refine⟨_,.flat rfl,?_⟩;have ebs:=bytesOf_some hbs;have run: ∀ {vw:Vw} (cap':Nat),ι b=some vw→a.eval x= .slice (some ⟨vw.blk,vw.base+off,none⟩) n cap'→(execOp a.eval ⟨dst,.convert src d x,ty,pos,af,gu⟩).run P w= .ok (.value (.string ⟨bs.toArray⟩)) w:=fun {vw} cap' hvw he=>by
     obtain⟨l',r1,r2,r3,_⟩:=R.read hl hvw;have hln:bs.length=n:=by
      have:=r1.1;rw[r3,ebs,List.length_map]at this;exact this.symm
     simp only[execOp,he];rw[←hln];refine run_value (run_convert_bytes_back w src d e ⟨vw.blk,vw.base+off,none⟩ cap' bs b1 b2 hd fun j hj=> ?_);rw[add_none];have hx:l[j]? =some (.int .u8 (bs[j].toNat:Int)):=by rw[ebs,List.getElem?_map,List.getElem?_eq_getElem hj];rfl
     obtain⟨y,hy,hvy⟩:=r1.get hx;obtain rfl:=hvy.int_iff;exact r2 j _ hy
    generalize hex:a.eval x=ex at hxv;cases hxv with
    |flat hf=>simp[flat,flatN]at hf
    |slc hw hc=>exact run _ hw hex
    |slu hw hc hle=>exact run _ hw hex
    |sl0 hw hc=>
     have hb0:bs=[]:=by
      obtain⟨_,_,_,_,_,hl0⟩:=readAt_some hl;rw[ebs,List.length_map]at hl0;exact List.length_eq_zero_iff.1 hl0
     subst hb0;simp only[execOp,hex];exact run_value (run_convert_bytes_back w src d e _ 0 [] b1 b2 hd fun j hj=>absurd hj (Nat.not_lt_zero _))
  · cases hs2
 |_=>cases hs
end
end Go.Ev
namespace Go.Ev
open Go
theorem getElem?_flatten_replicate {α:Type}(z:List α)(_hz:0<z.length): ∀(n i:Nat),i<n*z.length→(List.replicate n z).flatten[i]? =z[i%z.length]? :=by
 intro n
 induction n with
 |zero=>intro i h;simp at h
 |succ n ih=>
  intro i h;rw[List.replicate_succ,List.flatten_cons,List.getElem?_append];split
  · rename_i hi;rw[Nat.mod_eq_of_lt hi]
  · rename_i hi;rw[ih _ (by rw[Nat.succ_mul]at h;omega),Nat.mod_eq_sub_mod (a:=i) (by omega)]
theorem length_flatten_replicate {α:Type}(z:List α)(n:Nat):(List.replicate n z).flatten.length=n*z.length:=by
 induction n with
 |zero=>simp
 |succ n ih=>rw[List.replicate_succ,List.flatten_cons,List.length_append,ih,Nat.succ_mul];omega
theorem range_cells (z:Array Value)(n:Nat):((Array.range (n*z.size)).map (z[· %z.size]!)).toList=(List.replicate n z.toList).flatten:=by
 refine List.ext_getElem? fun i=> ?_;rcases Nat.lt_or_ge i (n*z.size)with h|h
 · have hz:0<z.size:=Nat.pos_of_ne_zero fun h0=>by rw[h0]at h;simp at h
   have hm:=Nat.mod_lt i hz;rw[getElem?_flatten_replicate _ (by simpa using hz) _ _ (by simpa using h)];simp[h];simp[hm]
 · rw[List.getElem?_eq_none (by simpa using h),List.getElem?_eq_none (by rw[length_flatten_replicate];simpa using h)]
theorem alloc_get (w:World)(o:Obj)(b:Nat):(w.alloc o).heap[b]? =if b=w.heap.size then some o else w.heap[b]? :=by
 show(w.heap.push o)[b]? =_;rw[Array.getElem?_push]
def MkOk (P:Program)(ι:Inj)(a:Act)(o:Oper)(w:World)(x:Ob)(f:Nat→Value):Prop:=
 ∃c c' e e' v',x= .cells c e .fix∧c.all one=true∧VRs ι c c'∧(execOp a.eval o).run P w= .ok (.value v') (w.alloc (.cells c'.toArray e' (0,0)))∧
  ∀(id:Nat) (ι':Inj),ι' id=some ⟨w.heap.size,0,0,0⟩→VR ι' (f id) v'
theorem need_some {b:Bool}{u:Unit}(h:need b=some u):b=true:=by
 cases b
 · cases h
 · rfl
theorem all_and {p q:Value→Bool}{l:List Value}(h:l.all (fun v=>p v&&q v)=true):l.all p=true∧l.all q=true:=by
 simp only[List.all_eq_true,Bool.and_eq_true]at h ⊢;exact⟨fun x hx=>(h x hx).1,fun x hx=>(h x hx).2⟩
section
variable {P:Program}{ι:Inj}{t:Fr}{n:Nat}{a:Act}(hg:GR P ι)(hr:RT ι t n a)
include hg hr
theorem stepMk_sound {o:Oper}{x:Ob}{f:Nat→Value}(hs:stepMk P t o=some (x,f))(w:World):MkOk P ι a o w x f:=by
 obtain⟨dst,op,ty,pos,af,gu⟩:=o;cases op with
 |alloc e=>
  simp only[stepMk]at hs;obtain⟨info,hi,hs⟩:=Option.bind_eq_some_iff.1 hs;obtain⟨z,hz,hs⟩:=Option.bind_eq_some_iff.1 hs;obtain⟨_,hn,hs⟩:=Option.bind_eq_some_iff.1 hs;obtain⟨h1,h2⟩:=all_and (need_some hn);injection hs with hs;injection hs with hs1 hs2;subst hs1 hs2;refine⟨_,z.cells.toList,_,e,.pointer (some ⟨w.heap.size,0,none⟩),rfl,h2,.of_flat h1,?_,fun id ι' hid=> .ptr (off:=0) hid⟩;simp only[execOp];refine run_value ?_;unfold Instr.alloc;simp[run_zero hi hz,newVar,newRow]
 |box e y=>
  simp only[stepMk]at hs;obtain⟨v,hv,hs⟩:=Option.bind_eq_some_iff.1 hs;obtain⟨_,hn,hs⟩:=Option.bind_eq_some_iff.1 hs;injection hs with hs;injection hs with hs1 hs2;subst hs1 hs2;have hvv:=opv_sound hg hr hv;refine⟨_,(a.eval y).cells.toList,_,e,.pointer (some ⟨w.heap.size,0,none⟩),rfl,need_some hn,hvv.cells,?_,fun id ι' hid=> .ptr (off:=0) hid⟩;simp only[execOp];refine run_value ?_;simp[Instr.box,newVar,newRow]
 |buildSlice s m parts=>
  simp only[stepMk]at hs;obtain⟨e,he,hs⟩:=Option.bind_eq_some_iff.1 hs;obtain⟨info,hi,hs⟩:=Option.bind_eq_some_iff.1 hs;obtain⟨z,hz,hs⟩:=Option.bind_eq_some_iff.1 hs;obtain⟨_,hn,hs⟩:=Option.bind_eq_some_iff.1 hs;obtain⟨_,hn2,hs⟩:=Option.bind_eq_some_iff.1 hs;obtain⟨ps,hps,hs⟩:=Option.bind_eq_some_iff.1 hs;obtain⟨cells,hf,hs⟩:=Option.bind_eq_some_iff.1 hs;obtain⟨_,hn3,hs⟩:=Option.bind_eq_some_iff.1 hs;injection hs with hs;injection hs with hs1 hs2;subst hs1 hs2;have hn:=need_some hn;have hn2:=need_some hn2;rw[Bool.and_eq_true]at hn hn2;obtain⟨z1,z2⟩:=all_and hn2.1;have zsz:z.cells.size=info.size:=Nat.eq_of_beq_eq_true hn2.2;have hlim:m*info.size≤16777216:=Nat.le_of_ble_eq_true hn.1;have hpos:info.size≠0:=by intro h0;rw[h0]at hn;simp at hn
  have hm16:m≤16777216:=Nat.le_trans (Nat.le_mul_of_pos_right m (Nat.pos_of_ne_zero hpos)) hlim;have base:VRs ι ((Array.range (m*info.size)).map (z.cells[· %z.cells.size]!)).toList ((Array.range (m*info.size)).map (z.cells[· %z.cells.size]!)).toList:=by
   refine .of_flat ?_;rw[←zsz,range_cells];refine List.all_eq_true.2 fun y hy=> ?_;obtain⟨l,hl,hy⟩:=List.mem_flatten.1 hy;rw[(List.mem_replicate.1 hl).2]at hy;exact List.all_eq_true.1 z1 y hy
  obtain⟨r',hf',hrr⟩:=fill_rel (ι:=ι) (fun i=>some (i*info.size,info.size)) (fun i=>some (i*info.size,info.size)) (fun _=>rfl) ps _ _ _ _ (parts_sound hg hr hps) base hf;refine⟨_,r'.toList,_,e,.slice (some ⟨w.heap.size,0,none⟩) m m,rfl,need_some hn3,hrr,?_,fun id ι' hid=> .slc (off:=0) hid (by unfold unk;omega)⟩;simp only[execOp];refine run_value ?_;unfold Instr.buildSlice;have c1: ¬(m*info.size>2^24):=by omega
  by_cases h0:m*info.size=0
  · have hm0:m=0:=by rcases Nat.mul_eq_zero.1 h0 with h|h;exact h;exact absurd h hpos
    subst hm0;simp only[Nat.zero_mul]at hf' ⊢;have e0: ∀g:Nat→Value,(Array.range 0).map g= #[]:=fun g=>by apply Array.ext<;>simp
    rw[e0]at hf';simp only[Array.toList_map]at hf';simp[run_underlying (elemT_some he),sizeOf,typeInfo,hi,newRow,e0,hf']
  · simp only[Array.toList_map]at hf';simp[run_underlying (elemT_some he),sizeOf,typeInfo,hi,newRow,run_zero hi hz,h0,hf',show¬(16777216<m*info.size) by omega]
 |makeSlice s l c=>
  simp only[stepMk]at hs;obtain⟨e,he,hs1⟩:=Option.bind_eq_some_iff.1 hs;obtain⟨info,hi,hs2⟩:=Option.bind_eq_some_iff.1 hs1;obtain⟨z,hz,hs3⟩:=Option.bind_eq_some_iff.1 hs2;obtain⟨lv,hl,hs4⟩:=Option.bind_eq_some_iff.1 hs3;obtain⟨cv,hc,hs5⟩:=Option.bind_eq_some_iff.1 hs4;clear hs hs1 hs2 hs3 hs4;split at hs5
  · rename_i k1 l k2 c;have hs:=hs5;clear hs5;obtain⟨hb,hs⟩:=cond_some hs;injection hs with hs;injection hs with hs1 hs2;subst hs1 hs2;simp only[Bool.and_eq_true]at hb;obtain⟨⟨⟨⟨⟨b1,b2⟩,b3⟩,b4⟩,b5⟩,b6⟩:=hb;obtain⟨z1,z2⟩:=all_and b6;have zsz:z.cells.size=info.size:=Nat.eq_of_beq_eq_true b5;have b1:=Nat.le_of_ble_eq_true b1;have b2:=Nat.le_of_ble_eq_true b2;have b3:c<big:=by simpa using b3
    have hcu:unk=18446744073709551616:=rfl;have hbg:big=4611686018427387904:=rfl;have hl':=(opv_sound hg hr hl).int_iff;have hc':=(opv_sound hg hr hc).int_iff;have all: ∀ {p:Value→Bool},z.cells.toList.all p=true→(List.replicate c z.cells.toList).flatten.all p=true:=fun {p} hp=>List.all_eq_true.2 fun y hy=>by
     obtain⟨q,hq,hy⟩:=List.mem_flatten.1 hy;rw[(List.mem_replicate.1 hq).2]at hy;exact List.all_eq_true.1 hp y hy
    refine⟨_,(List.replicate c z.cells.toList).flatten,_,e,.slice (some ⟨w.heap.size,0,none⟩) l c,rfl,all z2,.of_flat (all z1),?_,fun id ι' hid=> .slc (off:=0) hid ?_⟩
    · simp only[execOp];refine run_value ?_;have:=run_make (P:=P) w s e info z (elemT_some he) hi hz k1 k2 (Int.ofNat l) (Int.ofNat c) (Int.natCast_nonneg _) (by simpa using b1) (by rw[Int.mul_comm];simp only[Int.ofNat_eq_natCast];rw[←Int.natCast_mul];omega) (by simp only[Int.ofNat_eq_natCast];omega);rw[hl',hc',this];simp only[Int.ofNat_eq_natCast,Int.toNat_natCast,madeCells];congr 3;rw[←zsz,←range_cells]
    · omega
  · cases hs5
 |_=>cases hs
end
end Go.Ev
namespace Go.Ev
open Go
structure Went (P:Program)(h:Hp)(ι:Inj)(w:World)(h':Hp)(ι':Inj)(w':World):Prop where
 ext:Ext h.nx ι ι'
 rh:RH P ι' h' w'
 fr:Fr' h ι w w'
 nx:h.nx≤h'.nx
 gd:h'.gd=h.gd
 grd: ∀q x,h.get q=some x→h.guarded q=true→h'.get q=some x
 born: ∀q y,q<h.nx→h'.get q=some y→ ∃x,h.get q=some x
 old: ∀o x v,h'.get o=some x→ι' o=some v→(∃q y vq,h.get q=some y∧y.wr=x.wr∧ι q=some vq∧vq.blk=v.blk)∨w.heap.size≤v.blk
section
variable {P:Program}{h h' h'':Hp}{ι ι' ι'':Inj}{w w' w'':World}
theorem Went.refl (R:RH P ι h w):Went P h ι w h ι w:=
 ⟨.refl _ _,R,⟨rfl,rfl,rfl,Nat.le_refl _,fun _ _ _=>rfl⟩,Nat.le_refl _,rfl,fun _ _ hq _=>hq,fun _ y _ hq=>⟨y,hq⟩,fun o x v ho hv=> .inl ⟨o,x,v,ho,rfl,hv,rfl⟩⟩
theorem Went.mono (g:Went P h ι w h' ι' w')(R:RH P ι h w): ∀o v,ι o=some v→ι' o=some v:=R.mono_of g.ext
theorem Went.trans (a:Went P h ι w h' ι' w')(b:Went P h' ι' w' h'' ι'' w''):Went P h ι w h'' ι'' w'' where
 ext:=fun o ho=>(b.ext o (Nat.lt_of_lt_of_le ho a.nx)).trans (a.ext o ho)
 rh:=b.rh
 fr:=⟨b.fr.tape.trans a.fr.tape,b.fr.os.trans a.fr.os,b.fr.output.trans a.fr.output,Nat.le_trans a.fr.size b.fr.size,fun k hk hall=>by
  rw[b.fr.rest k (Nat.lt_of_lt_of_le hk a.fr.size) ?_]
  · exact a.fr.rest k hk hall
  · intro o x v ho hx hv;rcases a.old o x v ho hv with ⟨q,y,vq,h1,h2,h3,h4⟩|hge
    · rw[←h4];exact hall q y vq h1 (h2.trans hx) h3
    · omega⟩
 nx:=Nat.le_trans a.nx b.nx
 gd:=b.gd.trans a.gd
 grd:=fun q x hq hg=>b.grd q x (a.grd q x hq hg) (by unfold Hp.guarded;rw[a.gd];exact hg)
 born:=fun q y hq hy=>let ⟨x,hx⟩:=b.born q y (Nat.lt_of_lt_of_le hq a.nx) hy;a.born q x hq hx
 old:=fun o x v ho hv=>by
  rcases b.old o x v ho hv with ⟨q,y,vq,h1,h2,h3,h4⟩|hge
  · rcases a.old q y vq h1 h3 with ⟨r,z,vr,k1,k2,k3,k4⟩|hge
    · exact .inl ⟨r,z,vr,k1,k2.trans h2,k3,k4.trans h4⟩
    · right;rw[←h4];exact hge
  · right;exact Nat.le_trans a.fr.size hge
theorem RH.sub (R:RH P ι h w)(hs: ∀o x,h'.get o=some x→h.get o=some x)(hn:h.nx≤h'.nx):RH P ι h' w where
 live:=fun o x ho=>let ⟨a,b⟩:=R.live o x (hs o x ho);⟨Nat.lt_of_lt_of_le a hn,b⟩
 apart:=fun o q x y vo vq hne ho hx hq=>R.apart o q x y vo vq hne (hs o x ho) hx (hs q y hq)
 fresh:=fun o ho=>R.fresh o (Nat.le_trans hn ho)
 glob:=R.glob
 gsize:=Nat.le_trans R.gsize hn
theorem Went.drop (R:RH P ι h w){o:Nat}(hp:h.put o none=some h'):Went P h ι w h' ι w:=by
 obtain⟨p1,p2,p3,p4⟩:=Hp.get_put hp;have hs: ∀q y,h'.get q=some y→h.get q=some y:=fun q y hq=>by
  rw[p4]at hq;split at hq
  · split at hq<;>cases hq
  · exact hq
 refine⟨.refl _ _,R.sub hs (by rw[p1];exact Nat.le_refl _),⟨rfl,rfl,rfl,Nat.le_refl _,fun _ _ _=>rfl⟩,by rw[p1];exact Nat.le_refl _,p2,fun q x hx hq=> ?_,fun q y _ hy=>⟨y,hs q y hy⟩,fun q y v hq hv=> .inl ⟨q,y,v,hs q y hq,rfl,hv,rfl⟩⟩;rw[p4,if_neg]
 · exact hx
 rintro rfl;rw[p3]at hq;cases hq
theorem RH.up (R:RH P ι h w){n:Nat}(hn:h.nx≤n):RH P ι { h with nx:=n } w:=R.sub (fun _ _ h=>h) hn
theorem RH.world (R:RH P ι h w)(hh:w'.heap=w.heap):RH P ι h w' where
 live:=fun o x ho=>let ⟨a,v,hv,ho⟩:=R.live o x ho;⟨a,v,hv,ho.of_block (fun _ _ h=>h) (by rw[hh])⟩
 apart:=R.apart
 fresh:=R.fresh
 glob:=R.glob
 gsize:=R.gsize
theorem Went.drew (R:RH P ι h w):Went P h ι w h ι w.drew:=
 ⟨.refl _ _,R.world rfl,⟨rfl,rfl,rfl,Nat.le_refl _,fun _ _ _=>rfl⟩,Nat.le_refl _,rfl,fun _ _ hq _=>hq,fun _ y _ hq=>⟨y,hq⟩,fun o x v ho hv=> .inl ⟨o,x,v,ho,rfl,hv,rfl⟩⟩
def Inj.set (ι:Inj)(o:Nat)(v:Vw):Inj:=fun q=>if q=o then some v else ι q
theorem Inj.set_same (ι:Inj)(o:Nat)(v:Vw):ι.set o v o=some v:=if_pos rfl
theorem Inj.set_other (ι:Inj)(o:Nat)(v:Vw){q:Nat}(h:q≠o):ι.set o v q=ι q:=if_neg h
theorem Inj.set_mono {ι:Inj}{o:Nat}{v:Vw}(h:ι o=none): ∀q u,ι q=some u→ι.set o v q=some u:=fun q u hq=>by
 rw[Inj.set_other]
 · exact hq
 · rintro rfl;rw[h]at hq;cases hq
theorem RH.lay (R:RH P ι h w){id:Nat}{x:Ob}{b:Obj}{v:Vw}(hv:v.blk=w.heap.size)(hi:ι id=none)(hx:OR P (ι.set id v) v x (w.alloc b))(hn:h.nx≤h'.nx)(hid:id<h'.nx)
 (hg: ∀q y,h'.get q=some y→(q=id∧y=x)∨(q≠id∧h.get q=some y)):
 RH P (ι.set id v) h' (w.alloc b)∧Fr' h ι w (w.alloc b)∧ ∀o y u,h'.get o=some y→(ι.set id v) o=some u→(∃q z vq,h.get q=some z∧z.wr=y.wr∧ι q=some vq∧vq.blk=u.blk)∨w.heap.size≤u.blk:=by
 have heap: ∀k,k<w.heap.size→(w.alloc b).heap[k]? =w.heap[k]? :=fun k hk=>by rw[alloc_get,if_neg (by omega)]
 have blk: ∀o y u,h.get o=some y→ι o=some u→u.blk<w.heap.size:=fun o y u ho hu=>by
  obtain⟨_,u',hu',hor⟩:=R.live o y ho;rw[hu]at hu';obtain rfl:=Option.some.inj hu';exact hor.block
 refine⟨⟨fun o y ho=> ?_,fun o q y z vo vq hne ho hy hq hvo hvq=> ?_,fun o ho=> ?_,fun g hgl=> ?_,Nat.le_trans R.gsize hn⟩,⟨rfl,rfl,rfl,by show w.heap.size≤(w.heap.push b).size;rw[Array.size_push];omega,fun k hk _=>heap k hk⟩,fun o y u ho hu=> ?_⟩
 · rcases hg o y ho with ⟨rfl,rfl⟩|⟨hne,ho⟩
   · exact⟨hid,v,Inj.set_same ..,hx⟩
   · obtain⟨hl,u,hu,hor⟩:=R.live o y ho;exact⟨Nat.lt_of_lt_of_le hl hn,u,by rw[Inj.set_other _ _ _ hne];exact hu,hor.of_block (Inj.set_mono hi) (heap _ hor.block)⟩
 · rcases hg o y ho with ⟨rfl,rfl⟩|⟨hne1,ho⟩
   · rcases hg q z hq with ⟨rfl,rfl⟩|⟨hne2,hq⟩
     · exact absurd rfl hne
     · rw[Inj.set_same]at hvo;rw[Inj.set_other _ _ _ hne2]at hvq;obtain rfl:=Option.some.inj hvo;have:=blk q z vq hq hvq;omega
   · rw[Inj.set_other _ _ _ hne1]at hvo;rcases hg q z hq with ⟨rfl,rfl⟩|⟨hne2,hq⟩
     · rw[Inj.set_same]at hvq;obtain rfl:=Option.some.inj hvq;have:=blk o y vo ho hvo;omega
     · rw[Inj.set_other _ _ _ hne2]at hvq;exact R.apart o q y z vo vq hne ho hy hq hvo hvq
 · rw[Inj.set_other _ _ _ (by omega)];exact R.fresh o (Nat.le_trans hn ho)
 · obtain⟨f,e,he⟩:=R.glob g hgl;exact⟨f,e,Inj.set_mono hi _ _ he⟩
 · rcases hg o y ho with ⟨rfl,rfl⟩|⟨hne,ho⟩
   · rw[Inj.set_same]at hu;obtain rfl:=Option.some.inj hu;right;omega
   · rw[Inj.set_other _ _ _ hne]at hu;exact .inl ⟨o,y,u,ho,rfl,hu,rfl⟩
theorem Went.add (R:RH P ι h w){x:Ob}{b:Obj}{v:Vw}(hv:v.blk=w.heap.size)(hx:OR P (ι.set h.nx v) v x (w.alloc b)):Went P h ι w (h.add x) (ι.set h.nx v) (w.alloc b):=by
 have hnone:h.get h.nx=none:=by
  cases hh:h.get h.nx with
  |none=>rfl
  |some y=>exact absurd (R.live _ _ hh).1 (Nat.lt_irrefl _)
 obtain⟨h1,h2,h3⟩:=R.lay (h':=h.add x) hv (R.fresh _ (Nat.le_refl _)) hx (by show h.nx≤h.nx+1;omega) (by show h.nx<h.nx+1;omega) (fun q y hq=>by
  rw[Hp.get_add]at hq;split at hq
  · split at hq
    · exact .inl ⟨‹_›,(Option.some.inj hq).symm⟩
    · cases hq
  · exact .inr ⟨‹_›,hq⟩)
 refine⟨fun o ho=>Inj.set_other _ _ _ (by omega),h1,h2,by show h.nx≤h.nx+1;omega,rfl,fun q y hq _=> ?_,fun q y hq hy=> ?_,h3⟩
 · have:=(R.live q y hq).1;rw[Hp.get_add,if_neg (by omega)];exact hq
 · rw[Hp.get_add,if_neg (by omega)]at hy;exact⟨y,hy⟩
theorem Went.write (R:RH P ι h w){o off:Nat}{vs vs':List Value}(hw:writeAt h o off vs=some h'){v:Vw}(hv:ι o=some v)(hvs:VRs ι vs vs'):Went P h ι w h' ι (w.setCells v.blk (v.base+off) vs'):=by
 obtain⟨c,e,m,hg,hm,hl,hone,hp⟩:=writeAt_some hw;obtain⟨p1,p2,p3,p4⟩:=Hp.get_put hp;obtain⟨h1,h2,h3,h4,h5,h6,h7,h8⟩:=R.write hw hv hvs;refine⟨.refl _ _,h1,h2,by rw[h3];exact Nat.le_refl _,h4,fun q x hx hq=>(h8 q hq).trans hx,fun q y _ hy=> ?_,fun q y u hq hu=> .inl ?_⟩
 · rw[p4]at hy;by_cases hqo:q=o
   · exact⟨_,by rw[hqo];exact hg⟩
   · rw[if_neg hqo]at hy;exact⟨y,hy⟩
 rw[p4]at hq;by_cases hqo:q=o
 · subst hqo;rw[if_pos rfl]at hq;split at hq
   · obtain rfl:=Option.some.inj hq;exact⟨q,_,u,hg,by cases m<;>rfl,hu,rfl⟩
   · cases hq
 · rw[if_neg hqo]at hq;exact⟨q,y,u,hq,rfl,hu,rfl⟩
end
end Go.Ev
namespace Go.Ev
open Go
structure AppSrc (P:Program)(t tx e:TypeId)(i:TypeInfo)(z:Value)(x:Value)(n:Nat)(news:List Value)(w:World):Prop where
 len:news.length=n*i.size
 ones: ∀u∈news,u.oneCell'=true
 room: ∀ty b off sLen sCap,sLen+n≤sCap→(∀j,j<news.length→(w.cell? ⟨b,off+sLen*i.size+j,none⟩).isSome=true)→(∀j,j<news.length→w.frozen? ⟨b,off+sLen*i.size+j,none⟩=false)→
  (Builtin.append_ #[t,tx] ty #[.slice (some ⟨b,off,none⟩) sLen sCap,x]).run P w= .ok (.slice (some ⟨b,off,none⟩) (sLen+n) sCap) (w.setCells b (off+sLen*i.size) news)
 grow:0<n→ ∀ty base sLen sCap (olds:List Value),(Builtin.firstCells i.size sLen (.slice base sLen sCap)).run P w.drew= .ok olds.toArray w.drew→sCap<sLen+n→((sLen+n:Nat):Int)≤9223372036854775807→Builtin.nextslicecap (sLen+n) sCap*i.bytes≤281474976710656→
  (Builtin.append_ #[t,tx] ty #[.slice base sLen sCap,x]).run P w= .ok (.slice (some ⟨w.heap.size,0,none⟩) (sLen+n) (grownCap w (sLen+n) sCap e))
    (w.drew.alloc (.cells ((olds++news).toArray++Builtin.zeroCells z.cells (grownCap w (sLen+n) sCap e-(sLen+n))) e))
 none_:n=0→ ∀ty base sLen sCap,sLen≤sCap→(Builtin.append_ #[t,tx] ty #[.slice base sLen sCap,x]).run P w= .ok (.slice base sLen sCap) w
section
variable {P:Program}{w:World}{t tx e:TypeId}{i:TypeInfo}{z:Value}(ht:P.underlying t=some (.slice e))(hi:P.info? e=some i)(hz:i.zero=some z)
include ht hi hz
theorem AppSrc.ofSrc {x:Value}{n:Nat}{news:List Value}(hs:Src P i.size tx x n news w):AppSrc P t tx e i z x n news w where
 len:=hs.newsLen
 ones:=hs.one
 room:=fun ty b off sLen sCap hroom hc hf=>run_append_room_src w t tx ty e i ht hi b off sLen sCap x n news hs hroom hc hf
 grow:=fun _ ty base sLen sCap olds hold hg h63 hfit=>run_append_grow_src w t tx ty e i z ht hi hz base sLen sCap olds hold x n news hs hg h63 hfit
 none_:=fun hn ty base sLen sCap hle=>by
  subst hn;have h0:news=[]:=by have:=hs.newsLen;rw[Nat.zero_mul]at this;exact List.length_eq_zero_iff.1 this
  subst h0;exact run_append_nothing w t tx ty e i ht hi base sLen sCap hle x hs
theorem AppSrc.ofZeros {k:IntKind}{kq:IntKind}(htx:P.underlying tx=some (.int k)){n:Nat}(hn:0<n)(hsz:z.cells.size=i.size)(hpos:i.size≠0)(hone:z.cells.toList.all Ev.one=true)(h48:n*i.bytes≤281474976710656)(h62:n<big):
 AppSrc P t tx e i z (.int kq (n:Nat)) n (List.replicate n z.cells.toList).flatten w:=by
 have hu:big=4611686018427387904:=rfl;have hw:IntKind.i64.wrap (n:Int)=n:=by rw[IntKind.wrap_i64];omega
 have h48i: ¬(281474976710656<(n:Int)*(i.bytes:Int)):=by
  rw[←Int.natCast_mul];omega
 have hneg: ¬((n:Int)<0):=by omega
 have hn0:n≠0:=by omega
 have hl:(List.replicate n z.cells.toList).flatten.length=n*i.size:=by rw[length_flatten_replicate];simp[hsz]
 have ho: ∀u∈(List.replicate n z.cells.toList).flatten,u.oneCell'=true:=fun u hu=>by
  obtain⟨l,hl,hu⟩:=List.mem_flatten.1 hu;rw[(List.mem_replicate.1 hl).2]at hu;rw[one_eq];exact List.all_eq_true.1 hone u hu
 have hzc:Builtin.zeroCells z.cells n=(List.replicate n z.cells.toList).flatten.toArray:=by
  apply Array.ext';rw[Builtin.zeroCells,range_cells]
 refine⟨hl,ho,fun ty b off sLen sCap hroom hc hf=> ?_,fun _ ty base sLen sCap olds hold hg h63 hfit=> ?_,fun h0=>absurd h0 hn0⟩
 · have hst:=run_storeCells_cells (P:=P) b (off+sLen*i.size) (List.replicate n z.cells.toList).flatten 0 w (by simpa using hc) (by simpa using hf) ho;simp only[Nat.add_zero]at hst;simp[Builtin.append_,run_underlying ht,run_underlying htx,sizeOf,typeInfo,hi,asInt,asIntOf,hw,hneg,h48i,hroom,Addr.add_lit,zeroValue,hz,hzc,hst];intro h0;exact absurd h0 (Nat.mul_ne_zero hn0 hpos)
 · rw[Lib.run_append_grow_zeros (P:=P) w t tx ty e i z kq k ht htx hi hz base sLen sCap olds hold n hn (Nat.pos_of_ne_zero hpos) hg h63 h48 hfit,hzc];congr 4;simp
theorem AppSrc.ofZeros0 {k:IntKind}{kq:IntKind}(htx:P.underlying tx=some (.int k)):AppSrc P t tx e i z (.int kq ((0:Nat):Int)) 0 [] w:=by
 have _:=hz;have hw:IntKind.i64.wrap (0:Int)=0:=by rw[IntKind.wrap_i64];omega
 refine⟨by simp,fun u hu=>by simp at hu,fun ty b off sLen sCap hroom hc hf=> ?_,fun h0=>absurd h0 (Nat.lt_irrefl 0),fun _ ty base sLen sCap hle=> ?_⟩
 · have hst:=run_storeCells_cells (P:=P) b (off+sLen*i.size) [] 0 w (fun j hj=>by simp at hj) (fun j hj=>by simp at hj) (fun u hu=>by simp at hu);simp only[Nat.add_zero]at hst hroom ⊢;simp[Builtin.append_,run_underlying ht,run_underlying htx,sizeOf,typeInfo,hi,asInt,asIntOf,hw,hroom,Addr.add_lit,hst]
 · cases base with
   |none=>simp[Builtin.append_,run_underlying ht,run_underlying htx,sizeOf,typeInfo,hi,asInt,asIntOf,hw,hle]
   |some a=>simp[Builtin.append_,run_underlying ht,run_underlying htx,sizeOf,typeInfo,hi,asInt,asIntOf,hw,hle,storeCells]
end
theorem run_firstCells_zero {P:Program}(size:Nat)(base:Option Addr)(c:Nat)(w:World):(Builtin.firstCells size 0 (.slice base 0 c)).run P w= .ok #[] w:=by
 cases base with
 |none=>exact run_firstCells_none w size 0 0 c
 |some a=>exact run_firstCells_some w size 0 a 0 c [] (by simp) (by simp)
section
variable {P:Program}{ι:Inj}{h:Hp}{w:World}(R:RH P ι h w)
include R
theorem slice_cells {o off len cap esz:Nat}{v':Value}{l:List Value}(hv:VR ι (.slice (some ⟨o,off,none⟩) len cap) v')(hr:readAt h o off (len*esz)=some l):
 ∃(a:Addr) (c:Nat) (l':List Value),v'= .slice (some a) len c∧VRs ι l l'∧l'.length=len*esz∧(∀(j:Nat) x,l'[j]? =some x→w.cell? (a.add j)=some x):=by
 have key: ∀ {vw:Vw},ι o=some vw→ ∃l',VRs ι l l'∧l'.length=len*esz∧(∀(j:Nat) x,l'[j]? =some x→w.cell? ((⟨vw.blk,vw.base+off,none⟩:Addr).add j)=some x):=fun hvw=>by
  obtain⟨l',h1,h2,h3,_⟩:=R.read hr hvw;exact⟨l',h1,h3,fun j x hx=>by rw[add_none];exact h2 j x hx⟩
 cases hv with
 |flat hf=>simp[flat,flatN]at hf
 |slc hw _=>obtain⟨l',h1,h2,h3⟩:=key hw;exact⟨_,_,l',rfl,h1,h2,h3⟩
 |slu hw _ _=>obtain⟨l',h1,h2,h3⟩:=key hw;exact⟨_,_,l',rfl,h1,h2,h3⟩
 | @sl0 _ _ _ a _ hw _=>
   obtain⟨_,_,_,_,rfl,hl⟩:=readAt_some hr;have e0:(List.take (0*esz) (List.drop off ‹List Value›))=[]:=by simp
   rw[e0];exact⟨a,0,[],rfl,.nil ι,by simp,fun j x hx=>by simp at hx⟩
theorem src_sound {esz:Nat}{xT:TypeId}{x x':Value}{xs:List Value}{n:Nat}(hx:VR ι x x')(hk:(∃e,P.underlying xT=some (.slice e))∨P.underlying xT=some .string)(hs:srcCells h esz x=some (xs,n))(ho:xs.all Ev.one=true)
 (hks: ∀e,P.underlying xT=some (.slice e)→ ∀b,x≠ .string b) (hks':P.underlying xT=some .string→ ∀a l c,x≠ .slice a l c):
 ∃xs',VRs ι xs xs'∧Src P esz xT x' n xs' w:=by
 unfold srcCells at hs;split at hs
 · rename_i len c;injection hs with hs;injection hs with h1 h2;subst h1 h2;obtain⟨e,he⟩:=hk.resolve_right fun hh=>hks' hh _ _ _ rfl;cases hx with
   |flat hf=>
    have:len=0∧c=0:=by
     cases len<;>cases c<;>simp_all [flat,flatN]
    obtain⟨rfl,rfl⟩:=this;exact⟨[],.nil ι,Src.ofNil w he 0⟩
 · rename_i o off len c;obtain⟨e,he⟩:=hk.resolve_right fun hh=>hks' hh _ _ _ rfl;obtain⟨l,hl,hh⟩:=Option.map_eq_some_iff.1 hs;injection hh with h1 h2;subst h1 h2;obtain⟨a,c',l',rfl,g1,g2,g3⟩:=slice_cells R hx hl;exact⟨l',g1,Src.ofSlice w he a len c' l' g2 g3 (fun u hu=>by rw[one_eq];exact List.all_eq_true.1 (g1.one ho) u hu)⟩
 · rename_i s;have hu:=hk.resolve_left fun⟨e,he⟩=>hks e he s rfl;obtain⟨h1,h2⟩:=cond_some hs;obtain rfl:=Nat.eq_of_beq_eq_true h1;injection h2 with h2;injection h2 with h2 h3;subst h2 h3;rw[hx.string_iff];refine⟨_,.of_flat (List.all_eq_true.2 fun y hy=> ?_),Src.ofString w hu s⟩;obtain⟨_,_,rfl⟩:=List.mem_map.1 hy;rfl
 · cases hs
end
end Go.Ev
namespace Go.Ev
open Go
theorem isGrow_eq {m:Md}(h:isGrow m=true):m= .grow:=by cases m<;>first|rfl|cases h
section
variable {P:Program}{ι:Inj}{h h':Hp}{w:World}(R:RH P ι h w)
include R
theorem appNew_sound {e:TypeId}{bytes esz m g:Nat}{old xs old' xs':List Value}{z v:Value}(hsz:sz P e=some esz)(hpos:0<esz)(hz:z.cells.size=esz)(ho:VRs ι old old')(hx:VRs ι xs xs')(h1:old.all Ev.one=true)(h2:xs.all Ev.one=true)
 (hl:old.length+xs.length=m*esz) (hg:m≤g) (hgm:m<big→g≤9223372036854775807) (hv:appNew h e bytes old xs m=some (v,h')):
 ∃ι',Went P h ι w h' ι' (w.drew.alloc (.cells ((old'++xs').toArray++Builtin.zeroCells z.cells (g-m)) e))∧VR ι' v (.slice (some ⟨w.heap.size,0,none⟩) m g)∧(m+m)*bytes≤281474976710656∧m<big∧ι'=ι.set h.nx ⟨w.heap.size,0,g*esz,esz⟩∧h'=h.add (.cells (old++xs) e .grow):=by
 unfold appNew at hv;obtain⟨hb,hv⟩:=cond_some hv;rw[Bool.and_eq_true]at hb;injection hv with hv;injection hv with hv1 hv2;subst hv1 hv2;have hlen:((old'++xs').toArray++Builtin.zeroCells z.cells (g-m)).size=g*esz:=by
  simp only[Array.size_append,List.size_toArray,size_zeroCells,hz,List.length_append,ho.1,hx.1,hl];rw[←Nat.add_mul];congr 1;omega
 refine⟨ι.set h.nx ⟨w.heap.size,0,g*esz,esz⟩,(Went.drew R).trans ?_,VR.slu (off:=0) (Inj.set_same ..) (by simp) hg,Nat.le_of_ble_eq_true hb.1,by simpa using hb.2,rfl,rfl⟩;refine Went.add (R.world (w':=w.drew) rfl) rfl ⟨by rw[List.all_append,h1,h2];rfl,_,e,(0,0),by rw[alloc_get];exact if_pos rfl,fun j x hj=> ?_,fun _=>rfl,fun _=>⟨hlen.symm,hsz,hpos,?_,Nat.mul_le_mul_right _ (hgm (by simpa using hb.2))⟩⟩
 · have hj':j<(old'++xs').length:=by
    have:=(List.getElem?_eq_some_iff.1 hj).1;simp[ho.1,hx.1]at this ⊢; omega
   refine⟨(old'++xs')[j],?_,?_⟩
   · rw[Nat.zero_add,Array.getElem?_append,if_pos (by simpa using hj')];simp
   · refine VR.mono (Inj.set_mono (R.fresh _ (Nat.le_refl _))) ?_;have hboth:VRs ι (old++xs) (old'++xs'):=⟨by simp[ho.1,hx.1],fun i u v hu hv=>by
      rw[List.getElem?_append]at hu hv;rw[ho.1]at hv;split at hu
      · rename_i hi;rw[if_pos hi]at hv;exact ho.2 i u v hu hv
      · rename_i hi;rw[if_neg hi]at hv;exact hx.2 _ u v hu hv⟩
     exact hboth.2 j _ _ hj (List.getElem?_eq_getElem hj')
 · simp only[Nat.zero_add,List.length_append,hl];exact Nat.mul_le_mul_right _ hg
theorem appSome_sound {t tx e:TypeId}{i:TypeInfo}{z:Value}(_ht:P.underlying t=some (.slice e))(hi:P.info? e=some i)(_hz:i.zero=some z)(hpos:i.size≠0)(hzs:z.cells.size=i.size)
 {s s' x' v:Value} {xs xs':List Value} {n:Nat} (hn:n≠0) (hs:VR ι s s') (hxs:VRs ι xs xs') (hone:xs.all Ev.one=true) (hA:AppSrc P t tx e i z x' n xs' w)
 (hv:appSome h e i.bytes i.size s xs n=some (v,h')) (ty:TypeId):
 ∃ι' v' w',(Builtin.append_ #[t,tx] ty #[s',x']).run P w= .ok v' w'∧Went P h ι w h' ι' w'∧VR ι' v v':=by
 have hsz:sz P e=some i.size:=by unfold sz;rw[hi];rfl
 have hxl:xs.length=n*i.size:=by rw[←hxs.1,hA.len]
 have hu:big=4611686018427387904:=rfl;have grow: ∀ {base:Option Addr} {len cap:Nat} {old old':List Value},VRs ι old old'→old.all Ev.one=true→old.length=len*i.size→(Builtin.firstCells i.size len (.slice base len cap)).run P w.drew= .ok old'.toArray w.drew→cap<len+n→
  ∀ {v h'},appNew h e i.bytes old xs (len+n)=some (v,h')→ ∃ι' v' w',(Builtin.append_ #[t,tx] ty #[.slice base len cap,x']).run P w= .ok v' w'∧Went P h ι w h' ι' w'∧VR ι' v v'∧h'=h.add (.cells (old++xs) e .grow):=by
  intro base len cap old old' ho h1 hl hf hg v h' hnew;obtain⟨ι',g1,g2,g3,g4,_,g5⟩:=appNew_sound R (g:=grownCap w (len+n) cap e) hsz (Nat.pos_of_ne_zero hpos) hzs ho hxs h1 hone (by rw[hl,hxl,Nat.add_mul]) (grownCap_ge w (len+n) cap e) (fun hb=>grownCap_le_maxLen w (len+n) cap e (by unfold maxLen;omega)) hnew;have hle:=nextslicecap_le hg;have hfit:Builtin.nextslicecap (len+n) cap*i.bytes≤281474976710656:=Nat.le_trans (Nat.mul_le_mul_right _ hle) (by rw[Nat.two_mul];exact g3);exact⟨ι',_,_,hA.grow (Nat.pos_of_ne_zero hn) ty base len cap old' hf hg (by omega) hfit,g1,g2,g5⟩
 have place: ∀ {o off len cap c:Nat} {vw:Vw},ι o=some vw→len+n≤c→ ∀ {h'},writeAt h o (off+len*i.size) xs=some h'→ ∃w',(Builtin.append_ #[t,tx] ty #[.slice (some ⟨vw.blk,vw.base+off,none⟩) len c,x']).run P w= .ok (.slice (some ⟨vw.blk,vw.base+off,none⟩) (len+n) c) w'∧Went P h ι w h' ι w':=by
  intro o off len cap c vw hvw hroom h' hw;obtain⟨r1,r2,r3,r4,r5,r6,r7,r8⟩:=R.write hw hvw hxs;refine⟨_,hA.room ty vw.blk (vw.base+off) len c hroom (fun j hj=> ?_) (fun j hj=> ?_),?_⟩
  · have:=r5 j hj;rwa [←Nat.add_assoc]at this
  · have:=r6 j hj;rwa [←Nat.add_assoc]at this
  · have:=Went.write R hw hvw hxs;rwa [←Nat.add_assoc]at this
 unfold appSome at hv;split at hv
 ·
  obtain rfl:=hs.of_flat rfl;obtain⟨ι',v',w',g1,g2,g3,_⟩:=grow (base:=none) (len:=0) (cap:=0) (old:=[]) (old':=[]) (.nil ι) rfl (by simp) (run_firstCells_zero _ _ _ _) (by omega) (by rw[Nat.zero_add];exact hv);exact⟨ι',v',w',g1,g2,g3⟩
 · rename_i o off len cap;split at hv
   · rename_i c e' m hg;obtain⟨_,vwo,hvwo,hbl⟩:=R.live o _ hg;by_cases hc:Nat.beq cap unk=true
     · rw[hc,cond_true]at hv;obtain⟨hk,hvA⟩:=cond_some hv;clear hv;rw[Bool.and_eq_true]at hk;obtain rfl:=Nat.eq_of_beq_eq_true hk.1;obtain rfl:=isGrow_eq hk.2;obtain rfl:=Nat.eq_of_beq_eq_true hc;clear hk hc;obtain⟨hco,c',e'',fr,hb,hcells,_,hgr⟩:=hbl;obtain⟨g1,g2,g3,g4⟩:=hgr rfl;rw[hsz]at g2;obtain g2:=Option.some.inj g2;by_cases hr:Nat.ble (off+(len+n)*i.size) c.length=true
       ·
        rw[hr,cond_true]at hvA;have hr:=Nat.le_of_ble_eq_true hr;obtain⟨h1,hw,hh⟩:=Option.map_eq_some_iff.1 hvA;injection hh with hh1 hh2;subst hh1 hh2;have hmul:0<(len+n)*i.size:=Nat.mul_pos (by omega) (Nat.pos_of_ne_zero hpos);cases hs with
        |flat hf=>simp[flat,flatN]at hf
        |slc _ hne=>exact absurd rfl hne
        | @slu _ _ _ c0 vw hvw hcc hll=>
          rw[hvw]at hvwo;obtain rfl:=Option.some.inj hvwo;have hroom:len+n≤c0:=by
           have:(len+n)*i.size≤c0*i.size:=by rw[←g2]at hcc;omega
           exact Nat.le_of_mul_le_mul_right this (Nat.pos_of_ne_zero hpos)
          obtain⟨w',p1,p2⟩:=place (cap:=0) hvw hroom hw;exact⟨ι,_,w',p1,p2,.slu hvw hcc hroom⟩
        |sl0 hvw hcc=>
         rw[hvw]at hvwo;obtain rfl:=Option.some.inj hvwo;rcases hcc with ⟨_,hcc⟩|hcc
         · omega
         · exact absurd hcc (by decide)
       · rw[Bool.not_eq_true _ |>.mp hr,cond_false]at hvA;obtain⟨he,hvB⟩:=cond_some hvA;have he:=Nat.eq_of_beq_eq_true he;obtain⟨⟨v1,h1⟩,hnew,hvC⟩:=Option.bind_eq_some_iff.1 hvB;obtain⟨h2,hp,hh⟩:=Option.map_eq_some_iff.1 hvC;clear hvA hvB hvC;injection hh with hh1 hh2;subst hh1 hh2;have hdl:(c.drop off).length=len*i.size:=by simp;omega
         have hdone:(c.drop off).all Ev.one=true:=List.all_eq_true.2 fun x hx=>List.all_eq_true.1 hco x (List.mem_of_mem_drop hx);have hread:readAt h o off (len*i.size)=some (c.drop off):=by
          unfold readAt;rw[hg];have:(c.drop off).take (len*i.size)=c.drop off:=List.take_of_length_le (by omega);simp only[this,hdl,show Nat.beq (len*i.size) (len*i.size)=true from Nat.beq_refl _,cond_true]
         have full: ∀ {c0:Nat} {a:Addr},s'= .slice (some a) len c0→c0<len+n→(∀l',VRs ι (c.drop off) l'→True)→(∃l',VRs ι (c.drop off) l'∧(Builtin.firstCells i.size len (.slice (some a) len c0)).run P w.drew= .ok l'.toArray w.drew)→
          ∃ι' v' w',(Builtin.append_ #[t,tx] ty #[s',x']).run P w= .ok v' w'∧Went P h ι w h2 ι' w'∧VR ι' v1 v':=by
          intro c0 a hs' hg0 _ ⟨l',hl',hf⟩;subst hs';obtain⟨ι',v',w',k1,k2,k3,_⟩:=grow (base:=some a) hl' hdone hdl hf hg0 hnew;exact⟨ι',v',w',k1,k2.trans (Went.drop k2.rh hp),k3⟩
         obtain⟨a,c0,l',rfl,q1,q2,q3⟩:=slice_cells R hs hread;have hf:(Builtin.firstCells i.size len (.slice (some a) len c0)).run P w.drew= .ok l'.toArray w.drew:=run_firstCells_some w.drew i.size len a len c0 l' q2 (by simpa using q3);by_cases hroom:c0<len+n
         · exact full rfl hroom (fun _ _=>trivial) ⟨l',q1,hf⟩
         ·
          cases hs with
          |flat hff=>exact Bool.noConfusion (show false=true from hff)
          |slc _ hne=>exact absurd rfl hne
          | @slu _ _ _ _ vw hvw hcc hll=>
            rw[hvw]at hvwo;obtain rfl:=Option.some.inj hvwo;unfold appNew at hnew;obtain⟨_,hnew⟩:=cond_some hnew;injection hnew with hnew;injection hnew with hn1 hn2;subst hn1 hn2;have hroom:len+n≤c0:=Nat.le_of_not_lt hroom;have hmulr:(len+n)*i.size≤c0*i.size:=Nat.mul_le_mul_right _ hroom;rw[Nat.add_mul]at hmulr;obtain⟨s1,s2,s3,s4,s5,s6⟩:=setCells_facts vw.blk xs' (vw.base+off+len*i.size) w;obtain rfl:fr=(0,0):= ‹Md.grow≠Md.ro→fr=(0,0)› (by simp);obtain⟨c2,t1,t2,t3⟩:=s6 _ _ _ hb;have hsz2:vw.base+off+len*i.size+xs'.length≤c'.size:=by
             rw[hA.len,←g1];rw[←g2]at hcc;omega
            have t3:=t3 hsz2;obtain⟨p1,p2,p3,p4⟩:=Hp.get_put hp;have hnx:h.get h.nx=none:=by
             cases hh:h.get h.nx with
             |none=>rfl
             |some y=>exact absurd (R.live _ _ hh).1 (Nat.lt_irrefl _)
            have hon:o≠h.nx:=fun hh=>by rw[hh,hnx]at hg;cases hg
            have hget: ∀q y,h2.get q=some y→(q=h.nx∧y= .cells (c.drop off++xs) e .grow)∨(q≠h.nx∧q≠o∧h.get q=some y):=fun q y hq=>by
             rw[p4]at hq;by_cases hqo:q=o
             · rw[if_pos hqo]at hq;split at hq<;>cases hq
             · rw[if_neg hqo,Hp.get_add]at hq;by_cases hqn:q=h.nx
               · rw[if_pos hqn]at hq;split at hq
                 · exact .inl ⟨hqn,(Option.some.inj hq).symm⟩
                 · cases hq
               · rw[if_neg hqn]at hq;exact .inr ⟨hqn,hqo,hq⟩
            have nx2:h2.nx=h.nx+1:=p1;have live2: ∀q y u,q≠o→h.get q=some y→ι q=some u→u.blk≠vw.blk:=fun q y u hqo hq hu=>Ne.symm (R.apart o q _ y vw u (Ne.symm hqo) hg rfl hq hvw hu);refine⟨ι.set h.nx ⟨vw.blk,vw.base+off,vw.fin,i.size⟩,_,_,hA.room ty vw.blk (vw.base+off) len c0 hroom (fun j hj=> ?_) (fun j hj=> ?_),⟨fun q hq=>Inj.set_other _ _ _ (by omega),⟨fun q y hq=> ?_,fun q r y z vq vr hne hq hy hr hvq hvr=> ?_,fun q hq=> ?_,fun g hgl=> ?_,?_⟩,⟨s2,s3,s4,by rw[s1];exact Nat.le_refl _,fun b hbl hall=> ?_⟩,by omega,p2,fun q x hqx hgq=> ?_,fun q y hq hy=> ?_,fun q y u hq hu=> ?_⟩,?_⟩
            · have:vw.base+off+len*i.size+j<c'.size:=by omega
              simp[World.cell?,hb,this]
            · simp[World.frozen?,hb]
            · rcases hget q y hq with ⟨rfl,rfl⟩|⟨hqn,hqo,hq⟩
              · refine⟨by omega,_,Inj.set_same ..,by rw[List.all_append,hdone,hone];rfl,c2,e'',(0,0),t1,fun j x hj=> ?_,fun _=>rfl,fun _=>⟨by rw[t2];exact g1,hsz,Nat.pos_of_ne_zero hpos,?_,by have:=g4.2;rw[←g2]at this;exact this⟩⟩
                · have mono: ∀ {a b:Value},VR ι a b→VR (ι.set h.nx ⟨vw.blk,vw.base+off,vw.fin,i.size⟩) a b:=fun hab=>hab.mono (Inj.set_mono (R.fresh _ (Nat.le_refl _)));rw[List.getElem?_append,hdl]at hj;rw[t3];split at hj
                  · rename_i hjl;rw[if_neg (by simp only;omega)];rw[List.getElem?_drop]at hj;obtain⟨y,hy,hyv⟩:=hcells _ _ hj;exact⟨y,by simp only;rw[Nat.add_assoc];exact hy,mono hyv⟩
                  · rename_i hjl;have hjx:=(List.getElem?_eq_some_iff.1 hj).1;rw[if_pos (by simp only;rw[hxs.1];omega)];obtain⟨y,hy,hyv⟩:=hxs.get hj;exact⟨y,by simp only;rw[show vw.base+off+j-(vw.base+off+len*i.size)=j-len*i.size by omega];exact hy,mono hyv⟩
                · simp only[List.length_append,hdl,hxl];rw[←g2]at hcc;omega
              · obtain⟨hl,u,hu,hor⟩:=R.live q y hq;exact⟨by omega,u,by rw[Inj.set_other _ _ _ hqn];exact hu,hor.of_block (Inj.set_mono (R.fresh _ (Nat.le_refl _))) (s5 _ (live2 q y u hqo hq hu))⟩
            · rcases hget q y hq with ⟨rfl,rfl⟩|⟨hqn,hqo,hq⟩
              · rcases hget r z hr with ⟨rfl,rfl⟩|⟨hrn,hro,hr⟩
                · exact absurd rfl hne
                · rw[Inj.set_same]at hvq;rw[Inj.set_other _ _ _ hrn]at hvr;obtain rfl:=Option.some.inj hvq;exact Ne.symm (live2 r z vr hro hr hvr)
              · rw[Inj.set_other _ _ _ hqn]at hvq;rcases hget r z hr with ⟨rfl,rfl⟩|⟨hrn,hro,hr⟩
                · rw[Inj.set_same]at hvr;obtain rfl:=Option.some.inj hvr;exact live2 q y vq hqo hq hvq
                · rw[Inj.set_other _ _ _ hrn]at hvr;exact R.apart q r y z vq vr hne hq hy hr hvq hvr
            · rw[Inj.set_other _ _ _ (by omega)];exact R.fresh q (by omega)
            · obtain⟨f,e,he⟩:=R.glob g hgl;exact⟨f,e,Inj.set_mono (R.fresh _ (Nat.le_refl _)) _ _ he⟩
            · have:=R.gsize;omega
            · exact s5 b (Ne.symm (hall o _ vw hg rfl hvw))
            · have hql:=(R.live q x hqx).1;rw[p4,if_neg,Hp.get_add,if_neg (by omega)]
              · exact hqx
              rintro rfl;have:h.guarded q=false:=p3;rw[this]at hgq;cases hgq
            · rcases hget q y hy with ⟨rfl,_⟩|⟨_,_,hq2⟩
              · omega
              · exact⟨y,hq2⟩
            · rcases hget q y hq with ⟨rfl,rfl⟩|⟨hqn,hqo,hq⟩
              · rw[Inj.set_same]at hu;obtain rfl:=Option.some.inj hu;exact .inl ⟨o,_,vw,hg,rfl,hvw,rfl⟩
              · rw[Inj.set_other _ _ _ hqn]at hu;exact .inl ⟨q,y,u,hq,rfl,hu,rfl⟩
            · have:=VR.slu (ι:=ι.set h.nx ⟨vw.blk,vw.base+off,vw.fin,i.size⟩) (off:=0) (len:=len+n) (c:=c0) (Inj.set_same ..) (by simp only[Nat.add_zero];rw[←g2]at hcc;exact hcc) hroom;exact this
          |sl0 hvw hcc=>omega
     · rw[Bool.not_eq_true _ |>.mp hc,cond_false]at hv;have hcu:cap≠unk:=fun hh=>hc (by rw[hh];exact Nat.beq_refl _);by_cases hr:Nat.ble (len+n) cap=true
       · rw[hr,cond_true]at hv;have hr:=Nat.le_of_ble_eq_true hr;obtain⟨h1,hw,hh⟩:=Option.map_eq_some_iff.1 hv;injection hh with hh1 hh2;subst hh1 hh2;cases hs with
         |flat hf=>simp[flat,flatN]at hf
         |slc hvw hne=>
          obtain⟨w',p1,p2⟩:=place (cap:=0) hvw hr hw;exact⟨ι,_,w',p1,p2,.slc hvw hne⟩
         |slu=>exact absurd rfl hcu
         |sl0 hvw hcc=>rcases hcc with ⟨h0,_⟩|h0;exact absurd h0 hcu;omega
       · rw[Bool.not_eq_true _ |>.mp hr,cond_false]at hv;have hr: ¬(len+n≤cap):=fun hh=>hr (Nat.ble_eq_true_of_le hh);obtain⟨old,hold,hv⟩:=Option.bind_eq_some_iff.1 hv;obtain⟨a,c0,l',rfl,q1,q2,q3⟩:=slice_cells R hs hold;have hc0:c0=cap∨c0=0:=by
          cases hs with
          |flat hf=>simp[flat,flatN]at hf
          |slc=>exact .inl rfl
          |slu=>exact absurd rfl hcu
          |sl0=>exact .inr rfl
         have hf:(Builtin.firstCells i.size len (.slice (some a) len c0)).run P w.drew= .ok l'.toArray w.drew:=run_firstCells_some w.drew i.size len a len c0 l' q2 (by simpa using q3);have hoo:old.all Ev.one=true:=by
          obtain⟨_,_,_,_,_,_,_,h4⟩:=(⟨0,0,0,0,0,0,0,(R.read hold hvwo).choose_spec.2.2.2⟩: ∃_ _ _ _ _ _ _:Nat,old.all Ev.one=true);exact h4
         obtain⟨ι',v',w',k1,k2,k3,_⟩:=grow (base:=some a) q1 hoo (by rw[←q1.1,q2]) hf (by omega) hv;exact⟨ι',v',w',k1,k2,k3⟩
   · cases hv
 · cases hv
end
end Go.Ev
namespace Go.Ev
open Go
def Does (P:Program)(ι:Inj)(h:Hp)(w:World)(s:Sem Value)(v:Value)(h':Hp):Prop:=
 ∃ι' v' w',s.run P w= .ok v' w'∧Went P h ι w h' ι' w'∧VR ι' v v'
section
variable {P:Program}{ι:Inj}{h h':Hp}{w:World}(R:RH P ι h w)
include R
theorem appendV_sound {sT xT:TypeId}{s x s' x' v:Value}(hs:VR ι s s')(hx:VR ι x x')(hv:appendV P h sT xT s x=some (v,h'))(ty:TypeId):
 Does P ι h w (Builtin.append_ #[sT,xT] ty #[s',x']) v h':=by
 unfold appendV at hv;obtain⟨e,he,hv1⟩:=Option.bind_eq_some_iff.1 hv;obtain⟨i,hi,hv2⟩:=Option.bind_eq_some_iff.1 hv1;obtain⟨z,hz,hv3⟩:=Option.bind_eq_some_iff.1 hv2;obtain⟨_,hn,hv4⟩:=Option.bind_eq_some_iff.1 hv3;obtain⟨⟨xs,n⟩,hsrc,hv5⟩:=Option.bind_eq_some_iff.1 hv4;obtain⟨_,hone,hv6⟩:=Option.bind_eq_some_iff.1 hv5;have hn:=need_some hn;have hone:=need_some hone;simp only[Bool.and_eq_true]at hn;obtain⟨⟨n1,n2⟩,n3⟩:=hn;obtain⟨z1,z2⟩:=all_and n3;have hpos:i.size≠0:=by intro h0;rw[h0]at n1;cases n1
 have hzs:z.cells.size=i.size:=Nat.eq_of_beq_eq_true n2;have ht:=elemT_some he;have A: ∃xs',VRs ι xs xs'∧AppSrc P sT xT e i z x' n xs' w:=by
  unfold appSrc at hsrc;split at hsrc
  · rename_i k hk;split at hsrc
    · rename_i kq m;obtain⟨hb,hh⟩:=cond_some hsrc;injection hh with hh;injection hh with h1 h2;subst h1 h2;simp only[Bool.and_eq_true]at hb;rw[hx.int_iff];rcases Nat.eq_zero_or_pos m with rfl|hm0
      · exact⟨[],⟨rfl,fun i u v hu=>by simp at hu⟩,AppSrc.ofZeros0 ht hi hz hk⟩
      refine⟨_,.of_flat (List.all_eq_true.2 fun y hy=> ?_),AppSrc.ofZeros ht hi hz hk hm0 hzs hpos z2 (Nat.le_of_ble_eq_true hb.1) (by simpa using hb.2)⟩;obtain⟨l,hl,hy⟩:=List.mem_flatten.1 hy;rw[(List.mem_replicate.1 hl).2]at hy;exact List.all_eq_true.1 z1 y hy
    · cases hsrc
  · rename_i e' hk;split at hsrc
    · rename_i a l c;obtain⟨xs',g1,g2⟩:=src_sound R (xT:=xT) hx (.inl ⟨_,hk⟩) hsrc hone (fun _ _ _ hh=>by cases hh) (fun hh=>by rw[hk]at hh;cases hh);exact⟨xs',g1,.ofSrc ht hi hz g2⟩
    · cases hsrc
  · rename_i hk;split at hsrc
    · rename_i b;obtain⟨xs',g1,g2⟩:=src_sound R (xT:=xT) hx (.inr hk) hsrc hone (fun _ hh=>by rw[hk]at hh;cases hh) (fun _ _ _ _ hh=>by cases hh);exact⟨xs',g1,.ofSrc ht hi hz g2⟩
    · cases hsrc
  · cases hsrc
 obtain⟨xs',hxs,hA⟩:=A;cases hb:Nat.beq n 0 with
 |true=>
  have hn0:n=0:=Nat.eq_of_beq_eq_true hb
  replace hv6:(bif Nat.beq n 0 then appNone h s else appSome h e i.bytes i.size s xs n)=some (v,h'):=hv6
  rw[hb,cond_true]at hv6;unfold appNone at hv6;split at hv6
  · injection hv6 with hv6;injection hv6 with h1 h2;subst h1 h2;rw[hs.of_flat rfl];exact⟨ι,_,w,hA.none_ hn0 ty none 0 0 (Nat.le_refl _),.refl R,.flat rfl⟩
  · rename_i a len cap;obtain⟨hle,hv7⟩:=cond_some hv6;injection hv7 with hv7;injection hv7 with h1 h2;subst h1 h2;have hle:=Nat.le_of_ble_eq_true hle;cases hs with
    |flat hf=>exact⟨ι,_,w,hA.none_ hn0 ty _ _ _ hle,.refl R,.flat hf⟩
    |slc hw hc=>exact⟨ι,_,w,hA.none_ hn0 ty _ _ _ hle,.refl R,.slc hw hc⟩
    |slu hw hc hl=>exact⟨ι,_,w,hA.none_ hn0 ty _ _ _ hl,.refl R,.slu hw hc hl⟩
    |sl0 hw hc=>exact⟨ι,_,w,hA.none_ hn0 ty _ _ _ (Nat.le_refl _),.refl R,.sl0 hw hc⟩
  · cases hv6
 |false=>
  have hn0:n≠0:=fun h0=>by rw[h0]at hb;cases hb
  replace hv6:(bif Nat.beq n 0 then appNone h s else appSome h e i.bytes i.size s xs n)=some (v,h'):=hv6
  rw[hb,cond_false]at hv6;exact appSome_sound R ht hi hz hpos hzs hn0 hs hxs hone hA hv6 ty
theorem firstCells_nothing (size:Nat)(s:Value)(m:Nat)(hm:lenV s=some m):(Builtin.firstCells size 0 s).run P w= .ok #[] w:=by
 have _:=R;cases s with
 |slice b l c=>
  cases b with
  |none=>exact run_firstCells_none w size 0 l c
  |some a=>exact run_firstCells_some w size 0 a l c [] (by simp) (by simp)
 |string b=>simp[Builtin.firstCells]
 |_=>cases hm
theorem lenV_sound {s s':Value}{m:Nat}(hs:VR ι s s')(hm:lenV s=some m):lenV s'=some m∧ ∀w,(Builtin.lenOf s').run P w= .ok m w:=by
 have _:=R;cases s with
 |slice b l c=>
  obtain rfl:=Option.some.inj hm;cases hs<;>exact⟨rfl,fun _=>rfl⟩
 |string b=>
  obtain rfl:=Option.some.inj hm;rw[hs.string_iff];exact⟨rfl,fun _=>rfl⟩
 |_=>cases hm
theorem storeCells_sound {o off:Nat}{vs vs':List Value}{vw:Vw}(hw:writeAt h o off vs=some h')(hv:ι o=some vw)(hvs:VRs ι vs vs'):
 (storeCells ⟨vw.blk,vw.base+off,none⟩ vs').run P w= .ok () (w.setCells vw.blk (vw.base+off) vs')∧Went P h ι w h' ι (w.setCells vw.blk (vw.base+off) vs'):=by
 obtain⟨r1,r2,r3,r4,r5,r6,r7,r8⟩:=R.write hw hv hvs;refine⟨?_,Went.write R hw hv hvs⟩;have:=run_storeCells_cells (P:=P) vw.blk (vw.base+off) vs' 0 w (by simpa using r5) (by simpa using r6) r7;simpa using this
theorem copyV_sound {dT sT:TypeId}{d s d' s' v:Value}(hd:VR ι d d')(hs:VR ι s s')(hv:copyV P h dT d s=some (v,h'))(ty:TypeId):
 Does P ι h w (Builtin.copy_ #[dT,sT] ty #[d',s']) v h':=by
 unfold copyV at hv;obtain⟨e,he,hv1⟩:=Option.bind_eq_some_iff.1 hv;obtain⟨esz,hz,hv2⟩:=Option.bind_eq_some_iff.1 hv1;obtain⟨m,hm,hv3⟩:=Option.bind_eq_some_iff.1 hv2;clear hv hv1 hv2;obtain⟨hm',hlen⟩:=lenV_sound R hs hm;have ht:=elemT_some he;have nothing: ∀ {base:Option Addr} {n c:Nat},Nat.min m n=0→(Builtin.copy_ #[dT,sT] ty #[.slice base n c,s']).run P w= .ok (goInt 0) w:=fun {base n c} h0=>by
  have hf:=firstCells_nothing R esz s' m hm';cases base<;>simp[Builtin.copy_,run_underlying ht,hlen,h0,run_size hz,hf,storeCells]
 split at hv3
 · rename_i l c;injection hv3 with hh;injection hh with h1 h2;subst h1 h2;cases hd with
   |flat hf=>
    have:l=0:=by cases l<;>cases c<;>simp_all [flat,flatN]
    subst this;exact⟨ι,_,w,nothing (by simp),.refl R,.flat rfl⟩
 · rename_i o off n c;cases hk:Nat.beq (Nat.min m n) 0 with
   |true=>
    rw[hk,cond_true]at hv3;injection hv3 with hh;injection hh with h1 h2;subst h1 h2;have h0:Nat.min m n=0:=Nat.eq_of_beq_eq_true hk;cases hd with
    |flat hf=>exact Bool.noConfusion (show false=true from hf)
    |slc=>exact⟨ι,_,w,nothing h0,.refl R,.flat rfl⟩
    |slu=>exact⟨ι,_,w,nothing h0,.refl R,.flat rfl⟩
    |sl0=>exact⟨ι,_,w,nothing h0,.refl R,.flat rfl⟩
   |false=>
    rw[hk,cond_false]at hv3;have hk0:Nat.min m n≠0:=fun h0=>by rw[h0]at hk;cases hk
    obtain⟨xs,hx,hv4⟩:=Option.bind_eq_some_iff.1 hv3;obtain⟨hone,hv5⟩:=cond_some hv4;obtain⟨h1,hw,hh⟩:=Option.map_eq_some_iff.1 hv5;injection hh with hh1 hh2;subst hh1 hh2;have src: ∃xs',VRs ι xs xs'∧(Builtin.firstCells esz (Nat.min m n) s').run P w= .ok xs'.toArray w:=by
     unfold copySrc at hx;split at hx
     · rename_i q at_ l0 c0;obtain⟨_,_,_,hg,_,_⟩:=readAt_some hx;obtain⟨_,vq,hvq,_⟩:=R.live q _ hg;obtain⟨l',g1,g2,g3,_⟩:=R.read hx hvq;cases hs with
       |flat hf=>exact Bool.noConfusion (show false=true from hf)
       |slc hw2 _=>
        rw[hvq]at hw2;obtain rfl:=Option.some.inj hw2;exact⟨l',g1,run_firstCells_some w esz _ _ _ _ l' g3 (fun j u hj=>by rw[add_none];exact g2 j u hj)⟩
       |slu hw2 _ _=>
        rw[hvq]at hw2;obtain rfl:=Option.some.inj hw2;exact⟨l',g1,run_firstCells_some w esz _ _ _ _ l' g3 (fun j u hj=>by rw[add_none];exact g2 j u hj)⟩
       |sl0 hw2 _=>
        obtain rfl:=Option.some.inj hm;exact absurd (by simp:Nat.min 0 n=0) hk0
     · rename_i b;obtain rfl:=Option.some.inj hx;obtain rfl:=Option.some.inj hm;rw[hs.string_iff];refine⟨_,.of_flat (List.all_eq_true.2 fun y hy=> ?_),?_⟩
       · obtain⟨_,_,rfl⟩:=List.mem_map.1 hy;rfl
       · simp only[Builtin.firstCells,Sem.run_pure];congr 1;apply Array.ext';simp
     · cases hx
    obtain⟨xs',hxs,hf⟩:=src;have fin: ∀ {vw:Vw} {c:Nat},ι o=some vw→Does P ι h w (Builtin.copy_ #[dT,sT] ty #[.slice (some ⟨vw.blk,vw.base+off,none⟩) n c,s']) (.int .i64 (Int.ofNat (Nat.min m n))) h1:=fun {vw c} hvw=>by
     obtain⟨s1,s2⟩:=storeCells_sound R hw hvw hxs;refine⟨ι,goInt (Nat.min m n),_,?_,s2,.flat rfl⟩;simp[Builtin.copy_,run_underlying ht,hlen,run_size hz,hf,s1]
    cases hd with
    |flat hf=>exact Bool.noConfusion (show false=true from hf)
    |slc hw1=>exact fin hw1
    |slu hw1=>exact fin hw1
    |sl0=>exact absurd (by simp:Nat.min m 0=0) hk0
 · cases hv3
theorem clearV_sound {sT:TypeId}{s s' v:Value}(hs:VR ι s s')(hv:clearV P h sT s=some (v,h'))(ty:TypeId):Does P ι h w (Builtin.clear_ #[sT] ty #[s']) v h':=by
 unfold clearV at hv;obtain⟨e,he,hv1⟩:=Option.bind_eq_some_iff.1 hv;clear hv;have ht:=elemT_some he;split at hv1
 · injection hv1 with hh;injection hh with h1 h2;subst h1 h2;cases hs with
   |flat hf=>exact⟨ι,_,w,by simp[Builtin.clear_,run_underlying ht],.refl R,.flat rfl⟩
 · rename_i o off n c;cases hn:Nat.beq n 0 with
   |true=>
    obtain rfl:n=0:=Nat.eq_of_beq_eq_true hn;rw[hn,cond_true]at hv1;injection hv1 with hh;injection hh with h1 h2;subst h1 h2;cases hs with
    |flat hf=>exact Bool.noConfusion (show false=true from hf)
    |slc=>exact⟨ι,_,w,by simp[Builtin.clear_,run_underlying ht],.refl R,.flat rfl⟩
    |slu=>exact⟨ι,_,w,by simp[Builtin.clear_,run_underlying ht],.refl R,.flat rfl⟩
    |sl0=>exact⟨ι,_,w,by simp[Builtin.clear_,run_underlying ht],.refl R,.flat rfl⟩
   |false=>
    rw[hn,cond_false]at hv1;obtain⟨i,hi,hv2⟩:=Option.bind_eq_some_iff.1 hv1;obtain⟨z,hz,hv3⟩:=Option.bind_eq_some_iff.1 hv2;obtain⟨hall,hv4⟩:=cond_some hv3;obtain⟨h1,hw,hh⟩:=Option.map_eq_some_iff.1 hv4;injection hh with hh1 hh2;subst hh1 hh2;obtain⟨z1,z2⟩:=all_and hall;have fl:VRs ι (List.replicate n z.cells.toList).flatten (List.replicate n z.cells.toList).flatten:= .of_flat (List.all_eq_true.2 fun y hy=>by
     obtain⟨l,hl,hy⟩:=List.mem_flatten.1 hy;rw[(List.mem_replicate.1 hl).2]at hy;exact List.all_eq_true.1 z1 y hy)
    have hn0:n≠0:=fun h0=>by rw[h0]at hn;cases hn
    have fin: ∀ {vw:Vw} {c:Nat},ι o=some vw→Does P ι h w (Builtin.clear_ #[sT] ty #[.slice (some ⟨vw.blk,vw.base+off,none⟩) n c]) (.tuple #[]) h1:=fun {vw c} hvw=>by
     obtain⟨s1,s2⟩:=storeCells_sound R hw hvw fl;refine⟨ι,.tuple #[],_,?_,s2,.flat rfl⟩;obtain⟨n',rfl⟩:=Nat.exists_eq_succ_of_ne_zero hn0;have hzc:(Builtin.zeroCells z.cells (n'+1)).toList=(List.replicate (n'+1) z.cells.toList).flatten:=by rw[Builtin.zeroCells,range_cells]
     simp only[Builtin.clear_,List.getElem?_toArray,List.getElem?_cons_zero,Sem.run_bind,run_underlying ht,Result.andThen_ok,run_zero hi hz,hzc];simp only[Sem.run_pure,Result.andThen_ok,s1]
    cases hs with
    |flat hf=>exact Bool.noConfusion (show false=true from hf)
    |slc hw1=>exact fin hw1
    |slu hw1=>exact fin hw1
    |sl0=>exact absurd rfl hn0
 · cases hv1
end
end Go.Ev
