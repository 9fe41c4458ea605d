/- A deterministic evaluator over named memory: its definitions (no program in sight). -/
import Derived.OrdersHeld
namespace Go.Ev
open Go

/-- The capacity of a slice of which it is not said. -/
def unk : Nat := 4611686018427387904

/-- How an object may be used: read alone; read and written; and appended to. -/
inductive Md where
  | ro | fix | grow
  deriving DecidableEq

inductive Ob where
  | cells (c : List Value) (elem : TypeId) (m : Md)
  | siter (s : ByteArray) (pos : Nat)

/-- A table from numbers to things. -/
inductive Tr (α : Type) where
  | nil
  | node (v : α) (l r : Tr α)

noncomputable section
def Tr.get {α : Type} (d : α) (t : Tr α) : Nat → α :=
  Tr.rec (motive := fun _ => Nat → α) (fun _ => d)
    (fun v _ _ gl gr n => Nat.rec (motive := fun _ => α) v (fun m _ => Nat.rec (motive := fun _ => α) (gl (m / 2)) (fun _ _ => gr (m / 2)) (m % 2)) n) t
def Tr.set {α : Type} (t : Tr α) : Nat → α → Tr α :=
  Tr.rec (motive := fun _ => Nat → α → Tr α) (fun _ _ => .nil)
    (fun v l r sl sr n x => Nat.rec (motive := fun _ => Tr α) (.node x l r) (fun m _ => Nat.rec (motive := fun _ => Tr α) (.node v (sl (m / 2) x) r) (fun _ _ => .node v l (sr (m / 2) x)) (m % 2)) n) t
def Tr.full {α : Type} (d : α) (n : Nat) : Tr α := Nat.rec (motive := fun _ => Tr α) .nil (fun _ t => .node d t t) n

/-- The memory: objects by their numbers, the next number, those that must not be written now. -/
structure Hp where
  t : Tr (Option Ob)
  nx : Nat
  gd : List Nat

def Hp.get (h : Hp) (o : Nat) : Option Ob := h.t.get none o
def Hp.guarded (h : Hp) (o : Nat) : Bool := h.gd.any (Nat.beq o)
def Hp.put (h : Hp) (o : Nat) (x : Option Ob) : Option Hp := bif h.guarded o then none else some { h with t := h.t.set o x }
def Hp.add (h : Hp) (x : Ob) : Hp := { h with t := h.t.set h.nx (some x), nx := h.nx + 1 }

def wrapF (k : IntKind) (n : Int) : Int := match k, n with
  | .i64, .ofNat m => bif Nat.blt m 9223372036854775808 then n else IntKind.wrap .i64 n
  | .i64, .negSucc m => bif Nat.blt m 9223372036854775808 then n else IntKind.wrap .i64 n
  | .u32, .ofNat m => .ofNat (m % 4294967296)
  | .u8, .ofNat m => .ofNat (m % 256)
  | k, n => k.wrap n
def ltI : Int → Int → Bool
  | .ofNat a, .ofNat b => Nat.blt a b
  | .negSucc a, .negSucc b => Nat.blt b a
  | .negSucc _, .ofNat _ => true
  | .ofNat _, .negSucc _ => false
def eqI : Int → Int → Bool
  | .ofNat a, .ofNat b => Nat.beq a b
  | .negSucc a, .negSucc b => Nat.beq a b
  | _, _ => false
def kindB : IntKind → IntKind → Bool
  | .i8, .i8 | .i16, .i16 | .i32, .i32 | .i64, .i64 | .u8, .u8 | .u16, .u16 | .u32, .u32 | .u64, .u64 => true
  | _, _ => false
/-- A set of digits of 32. -/
def dig (k : IntKind) : Option Nat := match k with
  | .u32 => some 4294967296
  | .u8 => some 256
  | .i64 => some 9223372036854775808
  | _ => none
def bitsF (f : Nat → Nat → Nat) (k : IntKind) (a b : Int) : Option Value := match dig k, a, b with
  | some m, .ofNat a, .ofNat b => bif Nat.blt a m && Nat.blt b m then some (.int k (.ofNat (f a b))) else none
  | _, _, _ => none
/-- What an operation on whole numbers of one kind comes to. -/
def binF (op : BinOp) (k : IntKind) (a b : Int) : Option Value := match op with
  | .add => some (.int k (wrapF k (a + b)))
  | .sub => some (.int k (wrapF k (a - b)))
  | .mul => some (.int k (wrapF k (a * b)))
  | .quo => bif eqI b 0 then none else some (.int k (wrapF k (a.tdiv b)))
  | .rem => bif eqI b 0 then none else some (.int k (a.tmod b))
  | .eql => some (.bool (eqI a b))
  | .neq => some (.bool (!(eqI a b)))
  | .lss => some (.bool (ltI a b))
  | .leq => some (.bool (!(ltI b a)))
  | .gtr => some (.bool (ltI b a))
  | .geq => some (.bool (!(ltI a b)))
  | .and => bitsF Nat.land k a b
  | .or => bitsF Nat.lor k a b
  | .andNot => bitsF (fun a b => a - Nat.land a b) k a b
  | _ => none

def nth {α : Type} (l : List α) : Nat → Option α :=
  List.rec (motive := fun _ => Nat → Option α) (fun _ => none) (fun a _ ih n => Nat.rec (motive := fun _ => Option α) (some a) (fun m _ => ih m) n) l

def mapO {α β : Type} (f : α → Option β) (l : List α) : Option (List β) :=
  List.rec (motive := fun _ => Option (List β)) (some []) (fun a _ ih => (f a).bind fun b => ih.map (b :: ·)) l

/-- A value that names no memory. -/
def flatN : Nat → Value → Bool
  | 0, _ => false
  | n + 1, v => match v with
    | .bool _ | .int _ _ | .string _ | .nilFunc | .nilIface | .float _ _ | .complex _ _ _ => true
    | .pointer none | .map none | .chan none | .slice none 0 0 => true
    | .func _ a b => a.toList.all (flatN n) && b.toList.all (flatN n)
    | .iface _ v => flatN n v
    | .agg cs => cs.toList.all (flatN n)
    | .tuple cs => cs.toList.all (flatN n)
    | _ => false
def flat (v : Value) : Bool := flatN 5 v

def one : Value → Bool
  | .agg _ | .tuple _ => false
  | _ => true

/-- What a computation that asks nothing of memory comes to. -/
def pureRun {α : Type} (P : Program) : Sem α → Option α
  | .pure a => some a
  | .program k => pureRun P (k P)
  | .mark _ k => pureRun P k
  | _ => none

abbrev Fr := Tr Value
def slot (t : Fr) (i : Nat) : Value := t.get undef i

def opv (P : Program) (t : Fr) : Operand → Option Value
  | .tmp i => some (slot t i)
  | .const v => match v with
    | .int _ _ | .bool _ => some v
    | v => bif flat v then some v else none
  | .global g => bif Nat.blt g P.globals.size then some (.pointer (some ⟨g, 0, none⟩)) else none
  | .func f => some (.func (.func f) #[] #[])

/-- The same without a word on constants. -/
def opw (t : Fr) : Operand → Value
  | .tmp i => slot t i
  | .const v => v
  | .global g => .pointer (some ⟨g, 0, none⟩)
  | .func f => .func (.func f) #[] #[]

def aggT (P : Program) (t : TypeId) : Option Bool := match P.underlying t with
  | some (.struct _) | some (.array _ _) => some true
  | some _ => some false
  | none => none
def sz (P : Program) (t : TypeId) : Option Nat := (P.info? t).map (·.size)
def elemT (P : Program) (t : TypeId) : Option TypeId := match P.underlying t with
  | some (.slice e) => some e
  | _ => none

def putAt {α : Type} : List α → Nat → List α → List α
  | xs, 0, [] => xs
  | _ :: xs, 0, v :: vs => v :: putAt xs 0 vs
  | x :: xs, n + 1, vs => x :: putAt xs n vs
  | [], _, _ => []

/-- The cells of an object from a place on. -/
def readAt (h : Hp) (o off n : Nat) : Option (List Value) := match h.get o with
  | some (.cells c _ _) => let l := (c.drop off).take n; bif Nat.beq l.length n then some l else none
  | _ => none
def writeAt (h : Hp) (o off : Nat) (vs : List Value) : Option Hp := match h.get o with
  | some (.cells c e m) => match m with
    | .ro => none
    | m => bif Nat.ble (off + vs.length) c.length && vs.all one then h.put o (some (.cells (putAt c off vs) e m)) else none
  | _ => none

/-- What is appended, and how many elements: of a slice, or a string. -/
def srcCells (h : Hp) (esz : Nat) : Value → Option (List Value × Nat)
  | .slice none _ _ => some ([], 0)
  | .slice (some ⟨o, off, none⟩) len _ => (readAt h o off (len * esz)).map fun l => (l, len)
  | .string s => bif Nat.beq esz 1 then some (s.data.toList.map fun b => .int .u8 b.toNat, s.size) else none
  | _ => none

/-- How many elements stand from the beginning of a slice on, at least. -/
def seen (h : Hp) (e : TypeId) (esz : Nat) : Value → Option Nat
  | .slice none _ c => some c
  | .slice (some ⟨o, off, none⟩) _ c => bif Nat.beq c unk then (match h.get o with
      | some (.cells cs e' .grow) => bif Nat.beq e e' && Nat.blt 0 esz then some ((cs.length - off) / esz) else none
      | _ => none) else some c
  | _ => none

def need (b : Bool) : Option Unit := bif b then some () else none

/-- What an append adds, and how many elements: of a slice or a string, or zeros. -/
def appSrc (P : Program) (h : Hp) (info : TypeInfo) (z : Value) (xT : TypeId) (x : Value) : Option (List Value × Nat) := match P.underlying xT with
  | some (.int _) => match x with
    | .int _ (.ofNat n) => bif Nat.ble (n * info.bytes) 281474976710656 && Nat.blt n unk && Nat.blt 0 n then some (List.flatten (List.replicate n z.cells.toList), n) else none
    | _ => none
  | some (.slice _) => match x with
    | .slice _ _ _ => srcCells h info.size x
    | _ => none
  | some .string => match x with
    | .string _ => srcCells h info.size x
    | _ => none
  | _ => none
/-- Nothing is added. -/
def appNone (h : Hp) (s : Value) : Option (Value × Hp) := match s with
  | .slice none 0 0 => some (s, h)
  | .slice (some _) len cap => bif Nat.ble len cap then some (s, h) else none
  | _ => none
/-- A new row. -/
def appNew (h : Hp) (e : TypeId) (bytes : Nat) (old xs : List Value) (m : Nat) : Option (Value × Hp) :=
  bif Nat.ble ((m + m) * bytes) 281474976710656 && Nat.blt m unk then some (.slice (some ⟨h.nx, 0, none⟩) m unk, h.add (.cells (old ++ xs) e .grow)) else none
def isGrow : Md → Bool
  | .grow => true
  | _ => false
/-- Something is added. -/
def appSome (h : Hp) (e : TypeId) (bytes esz : Nat) (s : Value) (xs : List Value) (n : Nat) : Option (Value × Hp) := match s with
  | .slice none 0 0 => appNew h e bytes [] xs n
  | .slice (some ⟨o, off, none⟩) len cap => match h.get o with
    | some (.cells c e' m) =>
      bif Nat.beq cap unk then
        bif Nat.beq e e' && isGrow m then
          bif Nat.ble (off + (len + n) * esz) c.length then (writeAt h o (off + len * esz) xs).map fun h' => (.slice (some ⟨o, off, none⟩) (len + n) unk, h')
          else bif Nat.beq (off + len * esz) c.length then (appNew h e bytes (c.drop off) xs (len + n)).bind fun r => (r.2.put o none).map fun h' => (r.1, h')
          else none
        else none
      else bif Nat.ble (len + n) cap then (writeAt h o (off + len * esz) xs).map fun h' => (.slice (some ⟨o, off, none⟩) (len + n) cap, h')
      else (readAt h o off (len * esz)).bind fun old => appNew h e bytes old xs (len + n)
    | _ => none
  | _ => none
def appendV (P : Program) (h : Hp) (sT xT : TypeId) (s x : Value) : Option (Value × Hp) := do
  let e ← elemT P sT
  let info ← P.info? e
  let z ← info.zero
  need (!(Nat.beq info.size 0) && Nat.beq z.cells.size info.size && z.cells.toList.all (fun v => flat v && one v))
  let r ← appSrc P h info z xT x
  need (r.1.all one)
  bif Nat.beq r.2 0 then appNone h s else appSome h e info.bytes info.size s r.1 r.2

def lenV : Value → Option Nat
  | .slice _ m _ => some m
  | .string b => some b.size
  | _ => none
def copySrc (h : Hp) (esz k : Nat) : Value → Option (List Value)
  | .slice (some ⟨q, at_, none⟩) _ _ => readAt h q at_ (k * esz)
  | .string b => some ((b.data.toList.take k).map fun b => .int .u8 b.toNat)
  | _ => none
def copyV (P : Program) (h : Hp) (dT : TypeId) (d s : Value) : Option (Value × Hp) := (elemT P dT).bind fun e => (sz P e).bind fun esz => (lenV s).bind fun m => match d with
  | .slice none _ _ => some (.int .i64 0, h)
  | .slice (some ⟨o, off, none⟩) n _ =>
    bif Nat.beq (Nat.min m n) 0 then some (.int .i64 0, h) else
    (copySrc h esz (Nat.min m n) s).bind fun xs => bif xs.all one then (writeAt h o off xs).map fun h' => (.int .i64 (Int.ofNat (Nat.min m n)), h') else none
  | _ => none

def clearV (P : Program) (h : Hp) (sT : TypeId) (s : Value) : Option (Value × Hp) := (elemT P sT).bind fun e => match s with
  | .slice none _ _ => some (.tuple #[], h)
  | .slice (some ⟨o, off, none⟩) n _ =>
    bif Nat.beq n 0 then some (.tuple #[], h) else
    (P.info? e).bind fun info => info.zero.bind fun z =>
    bif z.cells.toList.all (fun v => flat v && one v) then
      (writeAt h o off (List.flatten (List.replicate n z.cells.toList))).map fun h' => (.tuple #[], h')
    else none
  | _ => none
def storeV (P : Program) (h : Hp) (ty : TypeId) (av v : Value) : Option Hp := (sz P ty).bind fun n => match av with
  | .pointer (some ⟨b, off, none⟩) => bif Nat.beq v.cells.toList.length n then writeAt h b off v.cells.toList else none
  | _ => none
def nextV (h : Hp) (v : Value) : Option (Value × Hp) := match v with
  | .pointer (some ⟨b, 0, none⟩) => match h.get b with
    | some (.siter s pos) =>
      bif Nat.blt pos s.size then
        (h.put b (some (.siter s (pos + (Utf8.decode s pos).2)))).map fun h' => (.tuple #[.bool true, goInt pos, .int .i32 (Utf8.decode s pos).1], h')
      else some (.tuple #[.bool false], h)
    | _ => none
  | _ => none

def boundV (x : Value) (m : Nat) : Option Nat := match x with
  | .int _ (.ofNat i) => bif Nat.ble i m then some i else none
  | _ => none

def boundM (mx : Option Value) (vis : Nat) : Option Nat := match mx with
  | some v => boundV v vis
  | none => some vis
def boundH (hi mx : Option Value) (m len : Nat) : Option Nat := match hi, mx with
  | some v, _ => boundV v m
  | none, none => some len
  | none, some _ => none
def boundL (lo : Option Value) (hh : Nat) : Option Nat := match lo with
  | some v => boundV v hh
  | none => some 0
/-- The three bounds of a slice expression. -/
def bounds (len vis : Nat) (lo hi mx : Option Value) : Option (Nat × Nat × Nat) :=
  (boundM mx vis).bind fun m => (boundH hi mx m len).bind fun hh => (boundL lo hh).map fun l => (l, hh, m)

/-- A slice of a slice, or of an array that is pointed to. -/
def sliceV (P : Program) (h : Hp) (t : TypeId) (x : Value) (lo hi mx : Option Value) : Option Value :=
  match P.underlying t, x with
  | some (.slice e), .slice a len cap => do
    let esz ← sz P e
    let vis ← seen h e esz x
    let r ← bounds len vis lo hi mx
    let l := r.1
    let hh := r.2.1
    let m := r.2.2
    match a with
    | none => bif Nat.beq vis 0 && Nat.beq len 0 then some (.slice none 0 0) else none
    | some ⟨o, off, none⟩ =>
      bif Nat.beq cap unk && mx.isNone then some (.slice (some ⟨o, off + l * esz, none⟩) (hh - l) unk)
      else bif Nat.blt m unk then some (.slice (some ⟨o, bif Nat.beq m l then off else off + l * esz, none⟩) (hh - l) (m - l)) else none
    | _ => none
  | some (.array n e), .pointer (some ⟨o, off, none⟩) => do
    let esz ← sz P e
    let r ← bounds n n lo hi mx
    let l := r.1
    let hh := r.2.1
    let m := r.2.2
    bif Nat.blt m unk then some (.slice (some ⟨o, bif Nat.beq m l then off else off + l * esz, none⟩) (hh - l) (m - l)) else none
  | _, _ => none

/-- What an operation does. -/
inductive Kd where
  | pure_ | read | mk | eff
  deriving DecidableEq

def kindOf : Op → Kd
  | .load _ _ => .read
  | .alloc _ | .box .. | .buildSlice .. | .makeSlice .. => .mk
  | .store .. | .next .. | .range .. | .makeMap .. | .mapUpdate .. | .lookup .. | .insert .. | .entry _ | .mapEntry .. | .entryStore .. => .eff
  | .slice .. => .read
  | .call c => match c.callee with
    | .builtin .len | .builtin .max | .builtin .min => .pure_
    | _ => .eff
  | .panic _ | .defer _ | .go _ | .send .. | .recv .. | .select .. | .makeChan .. | .ready _ | .waits _ => .eff
  | _ => .pure_

/-- An operation whose operands name no memory, and that asks nothing of it. -/
def flatRun (P : Program) (t : Fr) (o : Oper) : Option Value := match mapO (opv P t) o.op.operands.toList with
  | some l => bif l.all flat then (match pureRun P (execOp (opw t) o) with
    | some (.value r) => bif flat r then some r else none
    | _ => none) else none
  | none => none

def ptrT (P : Program) (t : TypeId) : Option TypeId := match P.underlying t with
  | some (.pointer e) => some e
  | _ => none
/-- What is not nil, held against nil. -/
def nilV (op : BinOp) : Option Value := match op with
  | .eql => some (.bool false)
  | .neq => some (.bool true)
  | _ => none
def binV (P : Program) (op : BinOp) (xt : TypeId) (a b : Value) (fb : Option Value) : Option Value := match a, b with
  | .int k x, .int k' y => bif kindB k k' then (match binF op k x y with
    | some r => some r
    | none => fb) else fb
  | .slice (some _) _ _, .slice none _ _ => (elemT P xt).bind fun _ => nilV op
  | .pointer (some _), .pointer none => (ptrT P xt).bind fun _ => nilV op
  | _, _ => fb

/-- An operation that asks nothing of memory. -/
def stepPure (P : Program) (t : Fr) (o : Oper) : Option Value :=
  match o.op with
  | .fieldAddr s x f => do
    let v ← opv P t x
    match P.underlying s, v with
    | some (.struct fs), .pointer (some ⟨b, off, none⟩) => do
      let fl ← fs[f]?
      let n ← sz P fl.type
      bif Nat.beq n 0 then none else some (.pointer (some ⟨b, off + fl.offset, none⟩))
    | _, _ => none
  | .indexAddr s x i => do
    let v ← opv P t x
    let iv ← opv P t i
    match P.underlying s, v, iv with
    | some (.slice e), .slice (some ⟨b, off, none⟩) len _, .int _ (.ofNat k) => do
      let n ← sz P e
      bif Nat.blt k len then some (.pointer (some ⟨b, off + k * n, none⟩)) else none
    | some (.array len e), .pointer (some ⟨b, off, none⟩), .int _ (.ofNat k) => do
      let n ← sz P e
      bif Nat.blt k len then some (.pointer (some ⟨b, off + k * n, none⟩)) else none
    | _, _, _ => none
  | .call { callee := .builtin .len, args, argTypes } => do
    let v ← opv P t (args.getD 0 (.const undef))
    match v, (argTypes[0]?).bind P.underlying with
    | .slice _ n _, some (.slice _) => bif Nat.beq args.size 1 then some (.int .i64 (n : Nat)) else none
    | _, _ => flatRun P t o
  | .move x => opv P t x
  | .assign x => opv P t x
  | .pick c a b => (opv P t c).bind fun v => match v with
    | .bool true => (opv P t b).bind fun _ => opv P t a
    | .bool false => (opv P t a).bind fun _ => opv P t b
    | _ => none
  | .extract x i => (opv P t x).bind fun v => match v with
    | .tuple vs => nth vs.toList i
    | _ => none
  | .field ty x f => (opv P t x).bind fun v => match P.underlying ty, v with
    | some (.struct fs), .agg cs => (nth fs.toList f).bind fun fl => (aggT P fl.type).bind fun ag => bif ag then (sz P fl.type).map fun n => .agg (cs.extract fl.offset (fl.offset + n)) else nth cs.toList fl.offset
    | _, _ => none
  | .makeInterface ty x => (opv P t x).bind fun v => match P.underlying ty with
    | some (.interface _) => none
    | some _ => some (.iface ty v)
    | none => none
  | .makeFunc fn a b => (mapO (opv P t) a.toList).bind fun a => (mapO (opv P t) b.toList).map fun b => .func fn a.toArray b.toArray
  | .nilCheck x => (opv P t x).bind fun v => match v with
    | .pointer (some _) => some v
    | .func (.func _) _ _ => some v
    | _ => none
  | .build ty parts => do
    let z ← (P.info? ty).bind (·.zero)
    need (z.cells.toList.all flat)
    let ps ← mapO (fun (p : Nat × Operand) => (opv P t p.2).map fun v => (p.1, v)) parts.toList
    match P.underlying ty with
    | some (.struct fs) => do
      let places ← mapO (fun (f : Field) => (sz P f.type).map fun n => (f.offset, n)) fs.toList
      (Instr.fill (fun i => nth places i) z.cells ps).map fun cs => .agg cs
    | some (.array _ e) => do
      let n ← sz P e
      (Instr.fill (fun i => some (i * n, n)) z.cells ps).map fun cs => .agg cs
    | _ => none
  | .binOp op xt x y _ => (opv P t x).bind fun a => (opv P t y).bind fun b => binV P op xt a b (flatRun P t o)
  | .convert src dst x => (opv P t x).bind fun v => match v, P.underlying dst with
    | .int _ n, some (.int k) => (P.underlying src).bind fun _ => some (.int k (wrapF k n))
    | _, _ => flatRun P t o
  | _ => flatRun P t o

/-- An operand that may not be there. -/
def opq (P : Program) (t : Fr) (q : Option Operand) : Option (Option Value) := match q with
  | none => some none
  | some q => (opv P t q).map some
def blocksOf (v : Value) : List Nat := match v with
  | .slice (some a) _ _ => [a.block]
  | _ => []

/-- An operation that reads memory. -/
def stepRead (P : Program) (t : Fr) (o : Oper) (h : Hp) : Option (Value × List Nat) :=
  match o.op with
  | .load ty x => do
    let v ← opv P t x
    match v with
    | .pointer (some ⟨b, off, none⟩) => do
      let ag ← aggT P ty
      bif ag then do
        let n ← sz P ty
        let l ← readAt h b off n
        some (.agg l.toArray, [b])
      else do
        let l ← readAt h b off 1
        some (l.headD undef, [b])
    | _ => none
  | .slice ty x lo hi mx => do
    let v ← opv P t x
    match v with
    | .string _ => (flatRun P t o).map fun r => (r, [])
    | _ => do
      let l ← opq P t lo
      let m ← opq P t hi
      let n ← opq P t mx
      let r ← sliceV P h ty v l m n
      some (r, blocksOf v)
  | _ => none

/-- What an operation lays, and the value that leads to it. -/
def stepMk (P : Program) (t : Fr) (o : Oper) : Option (Ob × (Nat → Value)) :=
  match o.op with
  | .alloc e => do
    let info ← P.info? e
    let z ← info.zero
    need (z.cells.toList.all (fun v => flat v && one v))
    some (.cells z.cells.toList e .fix, fun n => .pointer (some ⟨n, 0, none⟩))
  | .box e x => do
    let v ← opv P t x
    need (v.cells.toList.all one)
    some (.cells v.cells.toList e .fix, fun n => .pointer (some ⟨n, 0, none⟩))
  | .buildSlice ty n parts => do
    let e ← elemT P ty
    let info ← P.info? e
    let z ← info.zero
    need (Nat.ble (n * info.size) 16777216 && !(Nat.beq info.size 0))
    let zs := z.cells
    need (zs.toList.all (fun v => flat v && one v) && Nat.beq zs.size info.size)
    let ps ← mapO (fun (p : Nat × Operand) => (opv P t p.2).map fun v => (p.1, v)) parts.toList
    let cells ← Instr.fill (fun i => some (i * info.size, info.size)) ((Array.range (n * info.size)).map (zs[· % zs.size]!)) ps
    need (cells.toList.all one)
    some (.cells cells.toList e .fix, fun k => .slice (some ⟨k, 0, none⟩) n n)
  | .makeSlice ty l c => do
    let e ← elemT P ty
    let info ← P.info? e
    let z ← info.zero
    let lv ← opv P t l
    let cv ← opv P t c
    match lv, cv with
    | .int _ (.ofNat l), .int _ (.ofNat c) =>
      bif Nat.ble l c && Nat.ble (c * info.bytes) 281474976710656 && Nat.blt c unk && !(Nat.beq info.size 0) && Nat.beq z.cells.size info.size && z.cells.toList.all (fun v => flat v && one v) then
        some (.cells (List.flatten (List.replicate c z.cells.toList)) e .fix, fun k => .slice (some ⟨k, 0, none⟩) l c)
      else none
    | _, _ => none
  | _ => none

abbrev CallF := FuncId → List Value → Hp → Option (Value × Hp)

def stepEff (P : Program) (cf : CallF) (t : Fr) (o : Oper) (h : Hp) : Option (Value × Hp) :=
  match o.op with
  | .store ty a x => do
    let av ← opv P t a
    let v ← opv P t x
    let h' ← storeV P h ty av v
    some (undef, h')
  | .range xt x => do
    let v ← opv P t x
    match P.underlying xt, v with
    | some .string, .string s => some (.pointer (some ⟨h.nx, 0, none⟩), h.add (.siter s 0))
    | _, _ => none
  | .next x is => do
    let v ← opv P t x
    bif is then nextV h v else none
  | .call { callee := .value f, args, .. } => do
    let fv ← opv P t f
    let as ← mapO (opv P t) args.toList
    match fv with
    | .func (.func g) first cap => cf g (first.toList ++ as ++ cap.toList) h
    | _ => none
  | .call { callee := .builtin b, args, argTypes } => do
    let as ← mapO (opv P t) args.toList
    match b, as, argTypes.toList with
    | .append, [s, x], [sT, xT] => appendV P h sT xT s x
    | .copy, [d, s], [dT, _] => copyV P h dT d s
    | .cap, [s], [sT] => match s with
      | .slice _ _ c => (elemT P sT).bind fun _ => bif Nat.beq c unk then none else some (.int .i64 (c : Nat), h)
      | _ => none
    | .clear, [s], [sT] => clearV P h sT s
    | _, _, _ => none
  | _ => none

/-- The state of an act. -/
structure St where
  t : Fr
  n : Nat
  h : Hp

inductive Ex where
  | normal
  | exit (id : Nat)
  | ret

def St.setT (s : St) (d : Option Nat) (v : Value) : Fr := match d with
  | some d => bif Nat.blt d s.n then s.t.set d v else s.t
  | none => s.t

def yieldedL (ops : Array Oper) (t : Fr) (j : Nat) : Option Bool :=
  match (nth ops.toList j).bind (·.dst) with
  | some d => match slot t d with
    | .bool b => some b
    | _ => none
  | none => none
def wantedF (ops : Array Oper) (t : Fr) (o : Oper) : Bool := match o.guard with
  | none => true
  | some (j, w) => match yieldedL ops t j with
    | some b => bif w then b else !b
    | none => false

/-- An operation in its turn. -/
def stepOp (P : Program) (cf : CallF) (ops : Array Oper) (o : Oper) (s : St) : Option St :=
  bif wantedF ops s.t o then
    match kindOf o.op with
    | .pure_ => (stepPure P s.t o).map fun v => ⟨s.setT o.dst v, s.n, s.h⟩
    | .read => (stepRead P s.t o s.h).map fun r => ⟨s.setT o.dst r.1, s.n, s.h⟩
    | .mk => (stepMk P s.t o).map fun r => ⟨s.setT o.dst (r.2 s.h.nx), s.n, s.h.add r.1⟩
    | .eff => (stepEff P cf s.t o s.h).map fun r => ⟨s.setT o.dst r.1, s.n, r.2⟩
  else some ⟨s.setT o.dst undef, s.n, s.h⟩

def runOps (P : Program) (cf : CallF) (ops : Array Oper) (l : List Oper) : St → Option St :=
  List.rec (motive := fun _ => St → Option St) (fun s => some s) (fun o _ ih s => (stepOp P cf ops o s).bind ih) l

/-- Which operations come before which, in whatever order: the digits of a number each. -/
def masksF : List Oper → List Nat → List Nat
  | [], acc => acc
  | o :: rest, acc => masksF rest (acc ++ [o.after.toList.foldl (fun m e => bif Region.binds .any e then (m ||| 2 ^ e.on ||| acc.getD e.on 0) else m) 0])
def masks (ops : List Oper) : List Nat := masksF ops []

def kindAt (ops : List Oper) (i : Nat) : Kd := match ops[i]? with
  | some o => kindOf o.op
  | none => .eff

/-- The order in which a region that draws is gone through: what asks nothing or reads as soon as it may, then what acts, what lays as late as may be. -/
def plan (ops : List Oper) (ms : List Nat) : Nat → Nat → List Nat
  | 0, _ => []
  | f + 1, done =>
    let rs := (List.range ops.length).filter fun i => !(done.testBit i) && Nat.beq (ms.getD i 0 &&& done) (ms.getD i 0)
    let pick (k : Kd → Bool) : Option Nat := rs.find? fun i => k (kindAt ops i)
    let nexte : Nat := (((List.range ops.length).find? fun i => !(done.testBit i) && (kindAt ops i == .eff)).map fun e => ms.getD e 0).getD 0
    match pick (fun k => k == .pure_ || k == .read) with
    | some i => i :: plan ops ms f (done ||| 2 ^ i)
    | none => match pick (fun k => k == .eff) with
      | some i => i :: plan ops ms f (done ||| 2 ^ i)
      | none => match rs.find? fun i => nexte.testBit i with
        | some i => i :: plan ops ms f (done ||| 2 ^ i)
        | none => match rs with
          | i :: _ => i :: plan ops ms f (done ||| 2 ^ i)
          | [] => []

def namesOf (ops : List Oper) (o : Oper) : List Nat :=
  o.dst.toList ++ o.op.operands.toList.filterMap (fun | .tmp t => some t | _ => none) ++
    (match o.guard with | some (j, _) => ((ops[j]?).bind (·.dst)).toList | none => [])

/-- May the second one come ahead of the first one? -/
def swapOk (ops : List Oper) (a b : Oper) : Bool :=
  (match a.dst with | some d => !((namesOf ops b).any (Nat.beq d)) | none => true) &&
  (match b.dst with | some d => !((namesOf ops a).any (Nat.beq d)) | none => true) &&
  (match kindOf a.op, kindOf b.op with
  | .pure_, _ | _, .pure_ | .read, _ | .mk, .mk | .eff, .mk => true
  | _, _ => false)

def pairsOk (ops : List Oper) (ms : List Nat) : List Nat → Bool
  | [] => true
  | i :: rest => rest.all (fun j => (ms.getD j 0).testBit i || (match ops[i]?, ops[j]? with | some a, some b => swapOk ops a b | _, _ => false)) && pairsOk ops ms rest

/-- Each comes behind what it waits for. -/
def linearOk (ms : List Nat) : Nat → List Nat → Bool
  | _, [] => true
  | done, i :: rest => !(done.testBit i) && Nat.beq (ms.getD i 0 &&& done) (ms.getD i 0) && linearOk ms (done ||| 2 ^ i) rest

def planOk (ops : List Oper) (ms : List Nat) (pl : List Nat) : Bool :=
  Nat.beq pl.length ops.length && pl.all (fun i => Nat.blt i ops.length) && linearOk ms 0 pl && pairsOk ops ms pl

def Hp.addAt (h : Hp) (k : Nat) (x : Ob) : Option Hp := match h.get k with
  | none => some { h with t := h.t.set k (some x) }
  | some _ => none

/-- What has been read so far: by whom, of which objects. -/
abbrev Rds := List (Nat × List Nat)

/-- One operation of a region that draws. -/
def planStep (P : Program) (cf : CallF) (ops : Array Oper) (ms : List Nat) (n0 : Nat) (i : Nat) (q : Rds × St) : Option (Rds × St) :=
  let rds := q.1
  let s := q.2
  (nth ops.toList i).bind fun o =>
    bif wantedF ops s.t o then
      match kindOf o.op with
      | .pure_ => (stepPure P s.t o).map fun v => (rds, ⟨s.setT o.dst v, s.n, s.h⟩)
      | .read => (stepRead P s.t o s.h).map fun r => ((i, r.2) :: rds, ⟨s.setT o.dst r.1, s.n, s.h⟩)
      | .mk => (stepMk P s.t o).bind fun r => (s.h.addAt (n0 + i) r.1).map fun h' => (rds, ⟨s.setT o.dst (r.2 (n0 + i)), s.n, h'⟩)
      | .eff =>
        let g := (rds.filter fun r => !((ms.getD i 0).testBit r.1)).flatMap (·.2)
        (stepEff P cf s.t o { s.h with gd := g ++ s.h.gd }).map fun r => (rds, ⟨s.setT o.dst r.1, s.n, { r.2 with gd := s.h.gd }⟩)
    else some (rds, ⟨s.setT o.dst undef, s.n, s.h⟩)

def runPlan (P : Program) (cf : CallF) (ops : Array Oper) (ms : List Nat) (n0 : Nat) (l : List Nat) : Rds × St → Option St :=
  List.rec (motive := fun _ => Rds × St → Option St) (fun q => some q.2) (fun i _ ih q => (planStep P cf ops ms n0 i q).bind ih) l

def runRegion (P : Program) (cf : CallF) (ops : Array Oper) (draw : Bool) (s : St) : Option St :=
  bif draw then
    let ol := ops.toList
    let ms := masks ol
    let pl := plan ol ms ops.size 0
    bif planOk ol ms pl then runPlan P cf ops ms s.h.nx pl ([], { s with h := { s.h with nx := s.h.nx + ops.size } })
    else none
  else runOps P cf ops ops.toList s

def ev (P : Program) (cf : CallF) (n : Nat) : Code → St → Option (Ex × St) :=
  Nat.rec (motive := fun _ => Code → St → Option (Ex × St)) (fun _ _ => none) (fun _ ih c s => match c with
    | .skip | .label _ => some (.normal, s)
    | .ret => some (.ret, s)
    | .exit id => some (.exit id, s)
    | .seq a b => (ih a s).bind fun r => match r.1 with
      | .normal => ih b r.2
      | _ => some r
    | .cond c a b => (opv P s.t c).bind fun v => match v with
      | .bool true => ih a s
      | .bool false => ih b s
      | _ => none
    | .block id b => (ih b s).map fun r => match r.1 with
      | .exit id' => bif Nat.beq id' id then (.normal, r.2) else r
      | _ => r
    | .loop b => (ih b s).bind fun r => match r.1 with
      | .normal => ih (.loop b) r.2
      | _ => some r
    | .scope b => ih b s
    | .region _ ops draw => (runRegion P cf ops draw s).map fun s' => (.normal, s')
    | _ => none) n

def resultsOf (P : Program) (fn : Func) (s : St) : Option Value := do
  let vs ← mapO (fun (r : ResultVar) => match r with
    | .tmp i => some (slot s.t i)
    | .cell a ty => match slot s.t a with
      | .pointer (some ⟨b, off, none⟩) => do
        let ag ← aggT P ty
        bif ag then do
          let n ← sz P ty
          let l ← readAt s.h b off n
          some (.agg l.toArray)
        else (readAt s.h b off 1).map fun l => l.headD undef
      | _ => none) fn.results.toList
  match vs with
  | [v] => some v
  | vs => some (.tuple vs.toArray)

def argsIn : Nat → List Value → Fr → Fr
  | _, [], t => t
  | i, v :: rest, t => argsIn (i + 1) rest (t.set i v)
/-- The state in which a function begins. -/
def frame (n : Nat) (args : List Value) (h : Hp) : St :=
  let m := max n args.length
  ⟨argsIn 0 args (Tr.full undef (m + 1)), m, h⟩

/-- A call, to some depth. -/
def evCall (P : Program) (fuel : Nat) : Nat → CallF
  | 0, _, _, _ => none
  | d + 1, f, args, h => do
    let fn ← P.funcs[f]?
    match fn.body with
    | none =>
      bif args.all flat then
        match pureRun P (callFunc f args.toArray) with
        | some (.value v) => bif flat v then some (v, h) else none
        | _ => none
      else none
    | some c =>
      let r ← ev P (evCall P fuel d) fuel c (frame fn.ntmps args h)
      match r.1 with
      | .normal | .ret => (resultsOf P fn r.2).map fun v => (v, r.2.h)
      | _ => none
end
end Go.Ev
