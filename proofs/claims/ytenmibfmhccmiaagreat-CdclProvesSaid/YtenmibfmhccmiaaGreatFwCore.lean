/- The frame of the proofs: a weakest precondition over the loaded text that the kernel itself can reckon, and its soundness. -/
import Derived.Orders
import Derived.Scope
import Derived.KernelRfl
import Derived.Laws.World
import Derived.Laws.Sem
namespace Go.Fw
open Go
abbrev Fr:=Nat->Value
def Fr.set (f:Fr) (d:Option Nat) (v:Value):Fr:=
 match d with
 |none=>f
 |some j=>fun i=>bif Nat.beq i j then v else f i
def ev (f:Fr):Operand->Value
 | .tmp t=>f t
 | .const v=>v
 | .global g=> .pointer (some ⟨g,0,none⟩)
 | .func g=> .func (.func g) #[] #[]
inductive Bk where
 |int (k:IntKind)|bool|str|ptr|slice|map|any|FL|fn
def FC:Bk->(Value->Prop)->Prop
 | .int k,C=> ∃n:Int,C (.int k n)
 | .bool,C=> ∃b:Bool,C (.bool b)
 | .str,C=> ∃s:ByteArray,C (.string s)
 | .ptr,C=> ∃p:Option Addr,C (.pointer p)
 | .slice,C=> ∃ (p:Option Addr) (n c:Nat),C (.slice p n c)
 | .map,C=> ∃r:Option Nat,C (.map r)
 | .any,C=> ∃v:Value,C v
 | .FL,C=> ∃a:Addr,C (.pointer (some a))
 | .fn,C=> ∃ (g:FuncId) (c:Array Value),C (.func (.func g) #[] c)
def wX:List Bk->(List Value->Prop)->Prop
 | [],C=>C []
 |b::l,C=>FC b fun v=>wX l fun vs=>C (v::vs)
inductive Vk where
 |bH (b:Bk)
 |agg (l:List Bk)
def NM:Vk->(Value->Prop)->Prop
 | .bH b,C=>FC b C
 | .agg l,C=>wX l fun vs=>C (.agg vs.toArray)
def KI:List Vk->(List Value->Prop)->Prop
 | [],C=>C []
 |b::l,C=>NM b fun v=>KI l fun vs=>C (v::vs)
theorem rx {b:Bk} {C:Value->Prop} (h:FC b C): ∃v,C v:=by
 cases b<;>simp only [FC] at h
 case slice=>obtain ⟨p,n,c,h⟩:=h;exact ⟨_,h⟩
 case fn=>obtain ⟨p,c,h⟩:=h;exact ⟨_,h⟩
 all_goals (obtain ⟨x,h⟩:=h;exact ⟨_,h⟩)
theorem yx: ∀ {l:List Bk} {C:List Value->Prop},wX l C->∃vs,C vs
 | [],_,h=> ⟨[],h⟩
 |_::_,_,h=>let ⟨v,h⟩:=rx h;let ⟨vs,h⟩:=yx h;⟨v::vs,h⟩
theorem uO {b:Vk} {C:Value->Prop} (h:NM b C): ∃v,C v:=by
 cases b with
 |bH b=>exact rx h
 |agg l=>obtain ⟨vs,h⟩:=yx h;exact ⟨_,h⟩
theorem xz: ∀ {l:List Vk} {C:List Value->Prop},KI l C->∃vs,C vs
 | [],_,h=> ⟨[],h⟩
 |_::_,_,h=>let ⟨v,h⟩:=uO h;let ⟨vs,h⟩:=xz h;⟨v::vs,h⟩
def Jz (P:Program) (t:TypeId):Bk:=
 match P.underlying t with
 |some (.int k)=> .int k
 |some .bool=> .bool
 |some .string=> .str
 |some (.pointer _)=> .ptr
 |some (.slice _)=> .slice
 |some (.map _ _)=> .map
 |some (.func ..)=> .fn
 |_=> .any
def rD (P:Program):Nat->TypeId->List Bk
 |0,_=> []
 |n+1,t=>
  match P.underlying t with
  |some (.struct I)=>I.toList.flatMap fun f=>rD P n f.type
  |_=> [Jz P t]
def LZ (P:Program) (t:TypeId):Vk:=
 match P.underlying t with
 |some (.struct _)=> .agg (rD P 10 t)
 |_=> .bH (Jz P t)
def aB (w:World) (a:Addr):Nat->List Value->Prop
 |_,[]=>True
 |i,v::vs=>w.cell? (a.add i)=some v/\aB w a (i+1) vs
def iU:Value->Bool
 | .agg _| .tuple _=>false
 |_=>true
def ah (a:Addr):Nat->List Value->World->World->Prop
 |_,[],w,w'=>w'=w
 |i,v::vs,w,w'=> (∃u,w.cell? (a.add i)=some u)/\w.frozen? (a.add i)=false/\iU v=true/\ah a (i+1) vs (w.setCell (a.add i) v) w'
structure aY (o:Obj) (w:World) (n:Nat) (w':World):Prop where
 num:n=w.heap.size
 eq:w'=w.alloc o
def F9 (o:Obj) (w:World) (K:Nat->World->Prop):Prop:= ∀ (n:Nat) (w':World),aY o w n w'->K n w'
theorem nB {o:Obj} {w:World} {K:Nat->World->Prop} (h:F9 o w K):K w.heap.size (w.alloc o):=h _ _ ⟨rfl,rfl⟩
def se (P:Program) (t:TypeId):Option Bool:=
 match P.underlying t with
 |some (.struct _)|some (.array _ _)=>some true
 |some _=>some false
 |none=>none
def Lg (P:Program) (t:TypeId) (a:Addr) (w:World) (K:Value->Prop):Prop:=
 match se P t with
 |some false=>FC (Jz P t) fun v=>w.cell? a=some v/\K v
 |some true=>match P.info? t with
  |some i=>bif Nat.beq i.size (rD P 10 t).length then wX (rD P 10 t) fun vs=>aB w a 0 vs/\K (.agg vs.toArray) else False
  |none=>False
 |none=>False
def NX (P:Program) (t:TypeId) (a:Addr) (v:Value) (w:World) (K:World->Prop):Prop:=
 match P.info? t with
 |some i=>bif Nat.beq v.cells.size i.size then
   match v with
   | .agg cs=> ∃w',ah a 0 cs.toList w w'/\K w'
   | .tuple _=>False
   |v=> ∃w',ah a 0 [v] w w'/\K w'
   else False
 |none=>False
def Da (P:Program) (k:Vk) (s:Sem Value) (w:World) (K:Value->World->Prop):Prop:=
 ∃w',NM k fun v=>s.run P w= .ok v w'/\K v w'
def NJ (P:Program) (t:TypeId) (K:Value->Prop):Prop:=
 match P.underlying t with
 |some (.tuple I)=>KI (I.toList.map (LZ P)) fun vs=>K (.tuple vs.toArray)
 |_=>NM (LZ P t) K
theorem Bn {P:Program} {t:TypeId} {K:Value->Prop} (h:NJ P t K): ∃v,K v:=by
 unfold NJ at h;split at h
 . obtain ⟨vs,h⟩:=xz h;exact ⟨_,h⟩
 . exact uO h
def MJ (P:Program) (t:TypeId) (s:Sem Value) (w:World) (K:Value->World->Prop):Prop:=
 ∃w',NJ P t fun v=>s.run P w= .ok v w'/\K v w'
def Id (P:Program) (f:FuncId) (args:Array Value) (t:TypeId) (w:World) (K:Value->World->Prop):Prop:=
 Calls P f args w fun e w'=>NJ P t fun v=>e= .returned v/\K v w'
def fX (P:Program) (f:FuncId):Bool:=
 match P.funcs[f]? with
 |some fn=>fn.body.isSome && fn.name != "runtime.NumGoroutine"
 |none=>false
def Mr (v:Value) (K:Value->Prop):Prop:=
 match v with
 | .pointer p=> ∃a,p=some a/\K (.pointer (some a))
 | .func (.func g) x y=>K (.func (.func g) x y)
 |_=>False
def aP (p:Option Addr) (n:Nat) (i:Int) (size:Nat) (K:Addr->Prop):Prop:=
 ∃a,p=some a/\0<=i/\i<n/\K (a.add (i.toNat*size))
def nZ (p:Option Addr) (n c size:Nat) (lo hi mx:Option Int) (K:Option Addr->Nat->Nat->Prop):Prop:=
 ∃l h m:Nat,mx.getD (c:Int)=(m:Int)/\hi.getD (n:Int)=(h:Int)/\lo.getD 0=(l:Int)/\m<=c/\h<=m/\l<=h/\
  K (if m=l then p else p.map (·.add (l*size))) (h - l) (m - l)
def wO (b:BinOp) (isNil:Bool) (w:World) (K:Value->World->Prop):Prop:=
 match b with
 | .eql=>K (.bool isNil) w
 | .neq=>K (.bool (!isNil)) w
 |_=>False
def LK (P:Program) (b:BinOp) (t:TypeId) (x y:Operand) (u v:Value) (w:World) (K:Value->World->Prop):Prop:=
 match P.underlying t with
 |some (.int _)=>match u,v with
  | .int k a,.int I c=>
    match b with
    | .shl=>0<=c/\K (.int k (k.wrap (a*2 ^ (min c.toNat k.bits)))) w
    | .shr=>0<=c/\K (.int k (a.fdiv (2 ^ (min c.toNat k.bits)))) w
    |_=>bif k==I then
     match b with
     | .add=>K (.int k (k.wrap (a+c))) w
     | .sub=>K (.int k (k.wrap (a - c))) w
     | .mul=>K (.int k (k.wrap (a*c))) w
     | .quo=>c≠0/\K (.int k (k.wrap (a.tdiv c))) w
     | .rem=>c≠0/\K (.int k (a.tmod c)) w
     | .and=>K (.int k (k.wrap (BitVec.ofInt k.bits a &&& BitVec.ofInt k.bits c).toNat)) w
     | .or=>K (.int k (k.wrap (BitVec.ofInt k.bits a|||BitVec.ofInt k.bits c).toNat)) w
     | .xor=>K (.int k (k.wrap (BitVec.ofInt k.bits a ^^^ BitVec.ofInt k.bits c).toNat)) w
     | .andNot=>K (.int k (k.wrap (BitVec.ofInt k.bits a &&& ~~~ BitVec.ofInt k.bits c).toNat)) w
     | .eql=>K (.bool (a==c)) w
     | .neq=>K (.bool (a !=c)) w
     | .lss=>K (.bool (decide (a<c))) w
     | .leq=>K (.bool (decide (a<=c))) w
     | .gtr=>K (.bool (decide (a>c))) w
     | .geq=>K (.bool (decide (a>=c))) w
     |_=>False
     else False
  |_,_=>False
 |some .bool=>match u,v with
  | .bool a,.bool c=>wO b (a==c) w K
  |_,_=>False
 |some (.pointer _)=>match v with
  | .pointer none=>match u with
    | .pointer p=>wO b p.isNone w K
    |_=>False
  |_=>Da P (.bH .bool) (do eqGuard b t x y u v;binOp b t u v) w K
 |some (.slice _)=>match v with
  | .slice none 0 0=>match u with
    | .slice p _ _=>wO b p.isNone w K
    |_=>False
  |_=>False
 |_=>Da P (.bH .bool) (do eqGuard b t x y u v;binOp b t u v) w K
def uT (P:Program) (s:TypeId) (k:Nat):Option Nat:=
 match P.underlying s with
 |some (.struct I)=>
  match I[k]? with
  |some f=>match P.info? f.type with
   |some i=>if i.size=0 then none else some f.offset
   |none=>none
  |none=>none
 |_=>none
def lh (P:Program) (t:TypeId):Option Nat:=
 match P.underlying t with
 |some (.slice e)=> (P.info? e).map (·.size)
 |_=>none
def Im (P:Program) (t:TypeId) (cs:Array Value) (off:Nat) (K:Value->Prop):Prop:=
 match se P t with
 |some true=>match P.info? t with
  |some i=>K (.agg (cs.extract off (off+i.size)))
  |none=>False
 |some false=>match cs[off]? with
  |some v=>K v
  |none=>False
 |none=>False
def Do (P:Program) (s:TypeId) (v:Value) (k:Nat) (K:Value->Prop):Prop:=
 match P.underlying s with
 |some (.struct I)=>
  match I[k]?,v with
  |some f,.agg cs=>Im P f.type cs f.offset K
  |_,_=>False
 |_=>False
def KR:List Value->Option (List Int)
 | []=>some []
 | .int .i64 n::l=> (KR l).map (n:: ·)
 |_::_=>none
def uH (f:Fr):Option Operand->Option (Option Int)
 |none=>some none
 |some x=>match ev f x with
  | .int .i64 n=>some (some n)
  |_=>none
def aG (b:Bool) (A B:Prop):Prop:=
 match b with
 |true=>A
 |false=>B
theorem aj {b:Bool} {A B:Prop} (ha:b=true->A) (hb:b=false->B):aG b A B:=by
 cases b
 . exact hb rfl
 . exact ha rfl
theorem cu {b:Bool} {A B:Prop} (h:b=true) (ha:A):aG b A B:=by subst h;exact ha
theorem bm {b:Bool} {A B:Prop} (h:b=false) (hb:B):aG b A B:=by subst h;exact hb
def imax (a b:Int):Int:=if b>a then b else a
def ka (a b:Int):Int:=if b<a then b else a
def Ab (f:Fr):List Operand->List Value
 | []=> []
 |x::l=>ev f x::Ab f l
def rT (P:Program) (b:Builtin) (argTypes:Array TypeId) (type:TypeId) (args:List Value) (w:World) (K:Value->World->Prop):Prop:=
 match b with
 | .len=>match args with
   | [.slice _ n _]=>match (argTypes[0]?).bind P.underlying with
     |some (.slice _)=>K (.int .i64 n) w
     |_=>False
   | [.map r]=> ∃n:Int,(Builtin.len_ argTypes type #[.map r]).run P w= .ok (.int .i64 n) w/\K (.int .i64 n) w
   |_=>False
 | .append=>Da P (.bH .slice) (Builtin.append_ argTypes type args.toArray) w K
 | .copy=>Da P (.bH (.int .i64)) (Builtin.copy_ argTypes type args.toArray) w K
 | .max=>match args with
   | [.int .i64 a,.int .i64 c]=>K (.int .i64 (imax a c)) w
   | [.int .i64 a,.int .i64 c,.int .i64 d]=>K (.int .i64 (imax (imax a c) d)) w
   |_=>False
 | .min=>match args with
   | [.int .i64 a,.int .i64 c]=>K (.int .i64 (ka a c)) w
   | [.int .i64 a,.int .i64 c,.int .i64 d]=>K (.int .i64 (ka (ka a c) d)) w
   |_=>False
 | .delete=> ∃w',(Builtin.delete_ argTypes type args.toArray).run P w= .ok (.tuple #[]) w'/\K (.tuple #[]) w'
 | .clear=> ∃w',(Builtin.clear_ argTypes type args.toArray).run P w= .ok (.tuple #[]) w'/\K (.tuple #[]) w'
 |_=>False
def KE (t:Bool) (u v:Value) (K:Value->Prop):Prop:=
 match u,v with
 | .bool x,.bool y=>K (.bool (bif t then x else y))
 |u,v=>aG t (K u) (K v)
def xX (size:Nat):Nat->List (Nat × Operand)->Fr->Option (List Value)
 |_,[],_=>some []
 |k,(i,x)::l,f=>bif Nat.beq i k && Nat.beq (ev f x).cells.size size then (xX size (k+1) l f).map fun r=> (ev f x).cells.toList++r else none
def j9 (f:Fr):List (Nat × Operand)->List (Nat × Value)
 | []=> []
 | (i,x)::l=> (i,ev f x)::j9 f l
def mO (P:Program):List Field->Option (List (Nat × Nat))
 | []=>some []
 |fd::l=>match P.info? fd.type with
  |some i=> (mO P l).map ((fd.offset,i.size):: ·)
  |none=>none
def De (P:Program) (t:TypeId) (parts:List (Nat × Value)) (K:Value->Prop):Prop:=
 match P.info? t with
 |some i=>match i.zero,P.underlying t with
  |some z,some (.struct I)=>match mO P I.toList with
   |some ps=>match Instr.fill (fun k=>ps[k]?) z.cells parts with
    |some cells=>K (.agg cells)
    |none=>False
   |none=>False
  |_,_=>False
 |none=>False
def pP (P:Program) (o:Oper) (f:Fr) (w:World) (K:Value->World->Prop):Prop:=
 match o.op with
 | .move x| .assign x=>K (ev f x) w
 | .pick c a b=>match ev f c with
   | .bool t=>KE t (ev f a) (ev f b) fun v=>K v w
   |_=>False
 | .alloc t=>match P.info? t with
   |some i=>match i.zero with
    |some z=>F9 (.cells z.cells t) w fun n w'=>K (.pointer (some ⟨n,0,none⟩)) w'
    |none=>False
   |none=>False
 | .box t x=>F9 (.cells (ev f x).cells t) w fun n w'=>K (.pointer (some ⟨n,0,none⟩)) w'
 | .build t parts=>De P t (j9 f parts.toList) fun v=>K v w
 | .buildSlice t len parts=>match P.underlying t with
   |some (.slice e)=>match P.info? e with
    |some i=>bif Nat.blt (len*i.size) 16777217 && Nat.beq parts.toList.length len && i.zero.isSome then
     match xX i.size 0 parts.toList f with
     |some cs=>F9 (.cells cs.toArray e) w fun n w'=>K (.slice (some ⟨n,0,none⟩) len len) w'
     |none=>False
     else False
    |none=>False
   |_=>False
 | .load t x=>match ev f x with
   | .pointer (some a)=>Lg P t a w fun v=>K v w
   |_=>False
 | .store t x y=>match ev f x with
   | .pointer (some a)=>NX P t a (ev f y) w fun w'=>K undef w'
   |_=>False
 | .nilCheck x=>Mr (ev f x) fun v=>K v w
 | .binOp b t x y _=>LK P b t x y (ev f x) (ev f y) w K
 | .unOp u _ x=>match u,ev f x with
   | .neg,.int k n=>K (.int k (k.wrap (0 - n))) w
   | .not,.bool b=>K (.bool (!b)) w
   |_,_=>False
 | .convert src dst x=>match P.underlying src,P.underlying dst,ev f x with
   |some _,some (.int k),.int _ n=>K (.int k (k.wrap n)) w
   |_,_,_=>False
 | .makeFunc fn first captured=>K (.func fn (Ab f first.toList).toArray (Ab f captured.toList).toArray) w
 | .makeMap _ r=>match r with
   |none=>F9 (.map #[] 0) w fun n w'=>K (.map (some n)) w'
   |some _=>False
 | .makeSlice t l c=>Da P (.bH .slice) (Instr.makeSlice t (ev f l) (ev f c)) w K
 | .slice t x lo hi mx=>match ev f x,lh P t,uH f lo,uH f hi,uH f mx with
   | .slice p n c,some size,some l,some h,some m=>bif h.isSome||m.isNone then nZ p n c size l h m fun I n' c'=>K (.slice I n' c') w else False
   |_,_,_,_,_=>False
 | .fieldAddr s x k=>match ev f x,uT P s k with
   | .pointer (some a),some off=>K (.pointer (some (a.add off))) w
   |_,_=>False
 | .field s x k=>Do P s (ev f x) k fun v=>K v w
 | .indexAddr t x i=>match ev f x,lh P t,ev f i with
   | .slice p n _,some size,.int _ j=>aP p n j size fun a=>K (.pointer (some a)) w
   |_,_,_=>False
 | .index t x i=>match P.underlying t,ev f x,ev f i with
   |some .string,.string s,.int _ j=> ∃b,0<=j/\s[j.toNat]? =some b/\K (.int .u8 b.toNat) w
   |_,_,_=>False
 | .lookup t x i ok=>MJ P o.type (Instr.lookup t (ev f x) (ev f i) ok) w K
 | .mapUpdate t m k x=> ∃w',(Instr.mapUpdate t (ev f m) (ev f k) (ev f x)).run P w= .ok () w'/\K undef w'
 | .insert t m k x=> ∃w',(Instr.mapUpdate t (ev f m) (ev f k) (ev f x)).run P w= .ok () w'/\K undef w'
 | .range t x=>Da P (.bH .ptr) (Instr.range t (ev f x)) w K
 | .next x false=> (∃w',(Instr.next (ev f x) false o.type).run P w= .ok (.tuple #[.bool false]) w'/\K (.tuple #[.bool false]) w')\/
   (∃w',∃k v:Value,(Instr.next (ev f x) false o.type).run P w= .ok (.tuple #[.bool true,k,v]) w'/\K (.tuple #[.bool true,k,v]) w')
 | .entry x=> ∃w',∃k:Int,∃v:Value,(Instr.entry (ev f x)).run P w= .ok (.tuple #[.int .i64 k,v]) w'/\K (.tuple #[.int .i64 k,v]) w'
 | .extract x k=>match ev f x with
   | .tuple vs=>match vs[k]? with
     |some v=>K v w
     |none=>False
   |_=>False
 | .call c=>match c.callee with
   | .builtin b=>rT P b c.argTypes o.type (Ab f c.args.toList) w K
   | .value (.func g)=>Id P g (Ab f c.args.toList).toArray o.type w K
   | .value x=>match ev f x with
     | .func (.func g) first captured=>aG (fX P g) (Id P g (first++ (Ab f c.args.toList).toArray++captured) o.type w K) False
     |_=>False
   | .invoke _ _=>False
 |_=>False
def aZ (P:Program) (o:Oper):Nat:=
 match o.op with
 | .move _| .assign _| .pick _ _ _| .build _ _| .nilCheck _| .unOp _ _ _| .convert _ _ _| .makeFunc _ _ _| .slice _ _ _ _ _| .fieldAddr _ _ _
 | .field _ _ _| .indexAddr _ _ _| .index _ _ _| .extract _ _=>0
 | .binOp _ t _ y _=>match P.underlying t with
   |some (.int _)|some .bool|some (.slice _)=>0
   |some (.pointer _)=>match y with
    | .const (.pointer none)=>0
    |_=>2
   |_=>2
 | .load _ _=>1
 | .call c=>match c.callee with
   | .builtin .max| .builtin .min=>0
   | .builtin .len=>1
   |_=>2
 |_=>2
def AZ (P:Program) (I:Array Oper) (o:Oper) (f:Fr) (w:World) (C:Fr->World->Prop):Prop:=
 match o.guard with
 |none=>pP P o f w fun v w'=>C (f.set o.dst v) w'
 |some (j,want)=>
  match (I[j]?).bind (·.dst) with
  |none=>False
  |some t=>
   match f t with
   | .bool b=>aG b
      (bif want then pP P o (f.set (some t) (.bool true)) w fun v w'=>C ((f.set (some t) (.bool true)).set o.dst v) w'
        else C ((f.set (some t) (.bool true)).set o.dst undef) w)
      (bif want then C ((f.set (some t) (.bool false)).set o.dst undef) w
        else pP P o (f.set (some t) (.bool false)) w fun v w'=>C ((f.set (some t) (.bool false)).set o.dst v) w')
   | .tuple _=>C (f.set o.dst undef) w
   |_=>False
def L9 (P:Program) (I:Array Oper):List Oper->Fr->World->(Fr->World->Prop)->Prop
 | [],f,w,K=>K f w
 |o::rest,f,w,K=>AZ P I o f w fun J w'=>L9 P I rest J w' K
def yb (B:List Nat) (o:Oper):Nat:=go o.after.toList
where go:List Edge->Nat
 | []=>0
 |e::l=>bif Region.binds .any e then 2 ^ e.on|||B.getD e.on 0|||go l else go l
def kg:List Oper->List Nat->List Nat
 | [],B=>B
 |o::l,B=>kg l (B++ [yb B o])
def lE (k:Nat):List Edge->Bool
 | []=>true
 |e::l=> (!Region.binds .any e||Nat.blt e.on k) && lE k l
def vI (B:List Nat):Nat->List Oper->Bool
 |_,[]=>true
 |k,o::l=>Nat.beq (B.getD k 0) (yb B o) && lE k o.after.toList && vI B (k+1) l
def md (P:Program) (x y:Oper):Bool:=
 Nat.beq (aZ P x) 0||Nat.beq (aZ P y) 0|| (Nat.beq (aZ P x) 1 && Nat.beq (aZ P y) 1)
def yU (P:Program) (I:Array Oper) (x:Oper) (i:Nat) (B:List Nat):Nat->List Oper->Bool
 |_,[]=>true
 |j,y::l=> ((B.getD j 0).testBit i|| (x.apart I y && md P x y)) && yU P I x i B (j+1) l
def tT (P:Program) (I:Array Oper) (B:List Nat):Nat->List Oper->Bool
 |_,[]=>true
 |i,x::l=>yU P I x i B (i+1) l && tT P I B (i+1) l
def cP (I:Array Oper):Bool:=Region.noSelect I && vI (kg I.toList []) 0 I.toList
def oH (P:Program) (I:Array Oper):Bool:=cP I && tT P I (kg I.toList []) 0 I.toList
def K0 (P:Program) (I:Array Oper) (B:List Nat) (J:Array Bool) (i:Nat):Bool:=
 (List.range I.size).all fun j=>J.getD j true||Nat.beq j i|| (B.getD j 0).testBit i||
   (match I[i]?,I[j]? with
    |some x,some y=>x.apart I y && y.apart I x && md P x y
    |_,_=>false)
def DN (P:Program) (I:Array Oper) (i:Nat) (f:Fr) (w:World) (C:Fr->World->Prop):Prop:=
 match I[i]? with
 |none=>False
 |some o=>AZ P I o f w C
def Jp:List Nat->(Nat->Prop)->Prop
 | [],_=>True
 | [i],C=>C i
 |i::j::l,C=>C i/\Jp (j::l) C
def Nx (P:Program) (I:Array Oper) (B:List Nat):Nat->Array Bool->Fr->World->(Fr->World->Prop)->Prop
 |0,_,f,w,K=>K f w
 |n+1,listed,f,w,K=>
  match (Region.ready .any I listed).find? (K0 P I B listed) with
  |some i=>DN P I i f w fun J w'=>Nx P I B n (listed.setIfInBounds i true) J w' K
  |none=>Jp (Region.ready .any I listed) fun i=>DN P I i f w fun J w'=>Nx P I B n (listed.setIfInBounds i true) J w' K
def Dk (P:Program) (I:Array Oper) (f:Fr) (w:World) (K:Fr->World->Prop):Prop:=
 bif oH P I then L9 P I I.toList f w K
 else Nx P I (kg I.toList []) I.size (Array.replicate I.size false) f w K
def iH (W:World->Prop) (a:Addr) (v:Value):Prop:= ∀u,W u->u.cell? a=some v
def jB (W:World->Prop) (a:Addr) (vs:List Value):Prop:= ∀u,W u->aB u a 0 vs
def Ol (P:Program) (t:TypeId) (a:Addr) (W:World->Prop) (K:Value->Prop):Prop:=
 match se P t with
 |some false=>FC (Jz P t) fun v=>iH W a v/\K v
 |some true=>match P.info? t with
  |some i=>bif Nat.beq i.size (rD P 10 t).length then wX (rD P 10 t) fun vs=>jB W a vs/\K (.agg vs.toArray) else False
  |none=>False
 |none=>False
def Mo (P:Program) (argTypes:Array TypeId) (type:TypeId) (args:List Value) (W:World->Prop) (w:World) (K:Value->World->Prop):Prop:=
 match args with
 | [.slice _ n _]=>match (argTypes[0]?).bind P.underlying with
   |some (.slice _)=>K (.int .i64 n) w
   |_=>False
 | [.map r]=> ∃n:Int,(∀u,W u->(Builtin.len_ argTypes type #[.map r]).run P u= .ok (.int .i64 n) u)/\K (.int .i64 n) w
 |_=>False
def Ay (keep:Bool) (W:World->Prop) (w:World) (K:Prop):Prop:=
 match keep with
 |true=>W w/\K
 |false=>K
def KG (P:Program) (W:World->Prop) (keep:Bool) (o:Oper) (f:Fr) (w:World) (K:Value->World->Prop):Prop:=
 match o.op with
 | .load t x=>match ev f x with
   | .pointer (some a)=>Ol P t a W fun v=>K v w
   |_=>False
 | .call c=>match c.callee with
   | .builtin .len=>Mo P c.argTypes o.type (Ab f c.args.toList) W w K
   | .builtin .max| .builtin .min=>pP P o f w K
   |_=>pP P o f w fun v w'=>Ay keep W w' (K v w')
 |_=>bif Nat.ble (aZ P o) 0 then pP P o f w K else pP P o f w fun v w'=>Ay keep W w' (K v w')
def DH (P:Program) (I:Array Oper) (W:World->Prop) (keep:Bool) (o:Oper) (f:Fr) (w:World) (C:Fr->World->Prop):Prop:=
 match o.guard with
 |none=>KG P W keep o f w fun v w'=>C (f.set o.dst v) w'
 |some (j,want)=>
  match (I[j]?).bind (·.dst) with
  |none=>False
  |some t=>
   match f t with
   | .bool b=>aG b
      (bif want then KG P W keep o (f.set (some t) (.bool true)) w fun v w'=>C ((f.set (some t) (.bool true)).set o.dst v) w'
        else C ((f.set (some t) (.bool true)).set o.dst undef) w)
      (bif want then C ((f.set (some t) (.bool false)).set o.dst undef) w
        else KG P W keep o (f.set (some t) (.bool false)) w fun v w'=>C ((f.set (some t) (.bool false)).set o.dst v) w')
   | .tuple _=>C (f.set o.dst undef) w
   |_=>False
def rB (P:Program) (I:Array Oper) (B:List Nat) (i:Nat):Bool:=
 (List.range I.size).any fun k=> (match I[k]? with|some o=>Nat.beq (aZ P o) 1|none=>false) && !(B.getD i 0).testBit k
def KU (P:Program) (I:Array Oper) (W:World->Prop) (B:List Nat):Nat->List Oper->Fr->World->(Fr->World->Prop)->Prop
 |_,[],f,w,K=>K f w
 |k,o::rest,f,w,K=>DH P I W (rB P I B k) o f w fun J w'=>KU P I W B (k+1) rest J w' K
def lM (P:Program) (x y:Oper):Bool:=Nat.ble (aZ P x) 1||Nat.ble (aZ P y) 1
def tV (P:Program) (I:Array Oper) (x:Oper) (i:Nat) (B:List Nat):Nat->List Oper->Bool
 |_,[]=>true
 |j,y::l=> ((B.getD j 0).testBit i|| (x.apart I y && lM P x y)) && tV P I x i B (j+1) l
def rQ (P:Program) (I:Array Oper) (B:List Nat):Nat->List Oper->Bool
 |_,[]=>true
 |i,x::l=>tV P I x i B (i+1) l && rQ P I B (i+1) l
def rJ (P:Program) (I:Array Oper):Bool:=cP I && rQ P I (kg I.toList []) 0 I.toList
def I_ (P:Program) (I:Array Oper) (B:List Nat) (J:Array Bool) (i:Nat):Bool:=
 (List.range I.size).all fun j=>J.getD j true||Nat.beq j i|| (B.getD j 0).testBit i||
   (match I[i]?,I[j]? with
    |some x,some y=>x.apart I y && y.apart I x && lM P x y
    |_,_=>false)
def yX (P:Program) (I:Array Oper) (W:World->Prop) (B:List Nat) (i:Nat) (f:Fr) (w:World) (C:Fr->World->Prop):Prop:=
 match I[i]? with
 |none=>False
 |some o=>DH P I W (rB P I B i) o f w C
def FM (P:Program) (I:Array Oper) (W:World->Prop) (B:List Nat):Nat->Array Bool->Fr->World->(Fr->World->Prop)->Prop
 |0,_,f,w,K=>K f w
 |n+1,listed,f,w,K=>
  match (Region.ready .any I listed).find? (I_ P I B listed) with
  |some i=>yX P I W B i f w fun J w'=>FM P I W B n (listed.setIfInBounds i true) J w' K
  |none=>Jp (Region.ready .any I listed) fun i=>yX P I W B i f w fun J w'=>FM P I W B n (listed.setIfInBounds i true) J w' K
def Dw (P:Program) (I:Array Oper) (f:Fr) (w:World) (K:Fr->World->Prop):Prop:=
 ∃W:World->Prop,W w/\
 bif rJ P I then KU P I W (kg I.toList []) 0 I.toList f w K
 else FM P I W (kg I.toList []) I.size (Array.replicate I.size false) f w K
def Ff:Bk->Type->Type
 | .int _,R=>Int->R
 | .bool,R=>Bool->R
 | .str,R=>ByteArray->R
 | .ptr,R=>Option Addr->R
 | .slice,R=>Option Addr->Nat->Nat->R
 | .map,R=>Option Nat->R
 | .any,R=>Value->R
 | .FL,R=>Addr->R
 | .fn,R=>FuncId->Array Value->R
def xI:List Bk->Type->Type
 | [],R=>R
 |b::l,R=>Ff b (xI l R)
def H6:Vk->Type->Type
 | .bH b,R=>Ff b R
 | .agg l,R=>xI l R
def uM:List Vk->Type->Type
 | [],R=>R
 |k::l,R=>H6 k (uM l R)
def Df {R:Type}:(b:Bk)->Ff b R->Value->(R->Prop)->Prop
 | .int k,I,v,C=>match v with
   | .int J n=>bif k==J then C (I n) else False
   |_=>False
 | .bool,I,v,C=>match v with
   | .bool n=>C (I n)
   |_=>False
 | .str,I,v,C=>match v with
   | .string n=>C (I n)
   |_=>False
 | .ptr,I,v,C=>match v with
   | .pointer n=>C (I n)
   |_=>False
 | .slice,I,v,C=>match v with
   | .slice p n c=>C (I p n c)
   |_=>False
 | .map,I,v,C=>match v with
   | .map n=>C (I n)
   |_=>False
 | .any,I,v,C=>C (I v)
 | .FL,I,v,C=>match v with
   | .pointer (some a)=>C (I a)
   |_=>False
 | .fn,I,v,C=>match v with
   | .func (.func g) ⟨[]⟩ c=>C (I g c)
   |_=>False
def xo {R:Type}:(l:List Bk)->xI l R->List Value->(R->Prop)->Prop
 | [],I,vs,C=>match vs with
   | []=>C I
   |_::_=>False
 |b::l,I,vs,C=>match vs with
  | []=>False
  |v::vs=>Df b I v fun J=>xo l J vs C
def qG {R:Type}:(k:Vk)->H6 k R->Value->(R->Prop)->Prop
 | .bH b,I,v,C=>Df b I v C
 | .agg l,I,v,C=>match v with
   | .agg cs=>xo l I cs.toList C
   |_=>False
def ql {R:Type}:(l:List Vk)->uM l R->List Value->(R->Prop)->Prop
 | [],I,vs,C=>match vs with
   | []=>C I
   |_::_=>False
 |k::l,I,vs,C=>match vs with
  | []=>False
  |v::vs=>qG k I v fun J=>ql l J vs C
def NN {R:Type}:(b:Bk)->Ff b R->(Value->R->Prop)->Prop
 | .int k,I,C=> ∀n:Int,C (.int k n) (I n)
 | .bool,I,C=> ∀b:Bool,C (.bool b) (I b)
 | .str,I,C=> ∀s:ByteArray,C (.string s) (I s)
 | .ptr,I,C=> ∀p:Option Addr,C (.pointer p) (I p)
 | .slice,I,C=> ∀ (p:Option Addr) (n c:Nat),C (.slice p n c) (I p n c)
 | .map,I,C=> ∀r:Option Nat,C (.map r) (I r)
 | .any,I,C=> ∀v:Value,C v (I v)
 | .FL,I,C=> ∀a:Addr,C (.pointer (some a)) (I a)
 | .fn,I,C=> ∀ (g:FuncId) (c:Array Value),C (.func (.func g) #[] c) (I g c)
def LX {R:Type}:(l:List Bk)->xI l R->(List Value->R->Prop)->Prop
 | [],I,C=>C [] I
 |b::l,I,C=>NN b I fun v J=>LX l J fun vs r=>C (v::vs) r
def OD {R:Type}:(k:Vk)->H6 k R->(Value->R->Prop)->Prop
 | .bH b,I,C=>NN b I C
 | .agg l,I,C=>LX l I fun vs r=>C (.agg vs.toArray) r
def IP {R:Type}:(l:List Vk)->uM l R->(List Value->R->Prop)->Prop
 | [],I,C=>C [] I
 |k::l,I,C=>OD k I fun v J=>IP l J fun vs r=>C (v::vs) r
theorem DX {R:Type} {b:Bk} {I:Ff b R} {v:Value} {C:R->Prop} {D:Value->R->Prop} (h:Df b I v C) (g:NN b I D): ∃r,C r/\D v r:=by
 cases b<;>simp only [Df] at h<;>simp only [NN] at g
 case int k=>
  split at h
  . rename_i O n;cases J:k==O
    . simp [J] at h
    . rw [J] at h;obtain rfl:=eq_of_beq J;exact ⟨_,h,g n⟩
  . exact h.elim
 case any=>exact ⟨_,h,g v⟩
 case slice=>
  split at h
  . exact ⟨_,h,g _ _ _⟩
  . exact h.elim
 case fn=>
  split at h
  . exact ⟨_,h,g _ _⟩
  . exact h.elim
 all_goals
  split at h
  . exact ⟨_,h,g _⟩
  . exact h.elim
theorem HG {R:Type} (l:List Bk): ∀ {I:xI l R} {vs:List Value} {C:R->Prop} {D:List Value->R->Prop},xo l I vs C->LX l I D->∃r,C r/\D vs r:=by
 induction l with
 |nil=>
  intro I vs C D h g;cases vs with
  |nil=>exact ⟨_,h,g⟩
  |cons=>exact h.elim
 |cons b l ih=>
  intro I vs C D h g;cases vs with
  |nil=>exact h.elim
  |cons v vs=>
   obtain ⟨_,O,J⟩:=DX h g;exact ih (D:=fun vs r=>D (v::vs) r) O J
theorem Je {R:Type} {k:Vk} {I:H6 k R} {v:Value} {C:R->Prop} {D:Value->R->Prop} (h:qG k I v C) (g:OD k I D): ∃r,C r/\D v r:=by
 cases k with
 |bH b=>exact DX h g
 |agg l=>
  simp only [qG] at h;split at h
  . rename_i cs;obtain ⟨r,O,J⟩:=HG l h g;exact ⟨r,O,by simpa using J⟩
  . exact h.elim
theorem nh {R:Type} (l:List Vk): ∀ {I:uM l R} {vs:List Value} {C:R->Prop} {D:List Value->R->Prop},ql l I vs C->IP l I D->∃r,C r/\D vs r:=by
 induction l with
 |nil=>
  intro I vs C D h g;cases vs with
  |nil=>exact ⟨_,h,g⟩
  |cons=>exact h.elim
 |cons b l ih=>
  intro I vs C D h g;cases vs with
  |nil=>exact h.elim
  |cons v vs=>
   obtain ⟨_,O,J⟩:=Je h g;exact ih (D:=fun vs r=>D (v::vs) r) O J
def qF:Code->List (Nat × TypeId)
 | .region _ ops _=>ops.toList.filterMap fun o=>o.dst.map fun d=> (d,o.type)
 | .seq a b=>qF a++qF b
 | .cond _ a b=>qF a++qF b
 | .block _ c| .loop c| .scope c=>qF c
 |_=> []
def iG:List (Nat × TypeId)->Nat->Option TypeId
 | [],_=>none
 | (d,t)::l,i=>bif Nat.beq d i then some t else iG l i
def cA:List (Nat × TypeId)->List Value->Nat->Option Value
 | (a,_)::as,v::vs,i=>bif Nat.beq i a then some v else cA as vs i
 |_,_,_=>none
def IF (c:Code) (as:List (Nat × TypeId)) (vs:List Value) (f g:Fr):Fr:=fun i=>
 match cA as vs i with
 |some v=>v
 |none=>bif (iG (qF c) i).isNone then f i else g i
def nU (f:Fr):List (Nat × TypeId)->List Value
 | []=> []
 | (a,_)::l=>f a::nU f l
def j8 (P:Program):List (Nat × TypeId)->List Vk
 | []=> []
 | (_,t)::l=> (bif Nat.beq t 1000000 then .bH .FL else LZ P t)::j8 P l
inductive qf where
 |af
 |aE (a b:qf)
 |cut (as:List (Nat × TypeId)) (a b:qf)
 |bH (a:qf)
 |loop (as:List (Nat × TypeId)) (a:qf)
 |cJ
def qf.fst:qf->qf
 | .aE a _| .cut _ a _| .bH a| .loop _ a=>a
 |_=> .af
def qf.snd:qf->qf
 | .aE _ b| .cut _ _ b=>b
 |_=> .af
def qf.Ha:qf->Option (List (Nat × TypeId))
 | .cut as _ _=>some as
 |_=>none
def qf.vp:qf->List (Nat × TypeId)
 | .loop as _=>as
 |_=> []
def qf.drawn:qf->Bool
 | .cJ=>true
 |_=>false
abbrev H8:=Exit->Fr->World->Prop
def qN (P:Program):Code->qf->Fr->World->H8->Prop
 | .skip,_,f,w,Q=>Q .normal f w
 | .label _,_,f,w,Q=>Q .normal f w
 | .region _ ops cJ,n,f,w,Q=>bif cJ then (bif n.drawn then Dw P ops f w.drew fun O w'=>Q .normal O w' else Dk P ops f w.drew fun O w'=>Q .normal O w') else L9 P ops ops.toList f w fun O w'=>Q .normal O w'
 | .seq a b,n,f,w,Q=>
   match n.Ha with
   |some as=>
    ∃J:uM (j8 P as) (World->Prop),
     qN P a n.fst f w (fun e O w'=>match e with
      | .normal=>ql (j8 P as) J (nU O as) fun r=>r w'
      |e=>Q e O w')/\
     IP (j8 P as) J fun vs r=> ∀ (w:World) (g:Fr),r w->qN P b n.snd (IF a as vs f g) w Q
   |none=>qN P a n.fst f w fun e O w'=>match e with
    | .normal=>qN P b n.snd O w' Q
    |e=>Q e O w'
 | .cond c a b,n,f,w,Q=>match ev f c with
   | .bool t=>aG t (qN P a n.fst f w Q) (qN P b n.snd f w Q)
   |_=>False
 | .block id c,n,f,w,Q=>qN P c n.fst f w fun e O w'=>match e with
   | .exit i=>bif Nat.beq i id then Q .normal O w' else Q (.exit i) O w'
   |e=>Q e O w'
 | .scope c,n,f,w,Q=>qN P c n.fst f w fun e O w'=>match e with
   | .goto _=>False
   |e=>Q e O w'
 | .loop c,n,f,w,Q=>
   ∃I:uM (j8 P n.vp) (World->Nat->Prop),
    (ql (j8 P n.vp) I (nU f n.vp) fun r=> ∃k,r w k)/\
    IP (j8 P n.vp) I fun vs r=> ∀ (w:World) (k:Nat) (g:Fr),r w k->
     qN P c n.fst (IF c n.vp vs f g) w fun e O w'=>match e with
      | .normal=>ql (j8 P n.vp) I (nU O n.vp) fun r=> ∃U,U<k/\r w' U
      |e=>Q e O w'
 | .exit id,_,f,w,Q=>Q (.exit id) f w
 | .ret,_,f,w,Q=>Q .ret f w
 |_,_,_,_,_=>False
def ux (P:Program) (rs:List ResultVar) (f:Fr) (w:World) (K:List Value->Prop):Prop:=
 match rs with
 | []=>K []
 | .tmp t::l=>ux P l f w fun vs=>K (f t::vs)
 | .cell a t::l=>match f a with
   | .pointer (some p)=>Lg P t p w fun v=>ux P l f w fun vs=>K (v::vs)
   |_=>False
def ii:List Value->Value
 | [v]=>v
 |vs=> .tuple vs.toArray
def oK:List Value->Fr
 | [],_=>undef
 |v::_,0=>v
 |_::vs,i+1=>oK vs i
def Mh (P:Program) (fn:Func) (n:qf) (args:List Value) (w:World) (K:Value->World->Prop):Prop:=
 match fn.body with
 |none=>False
 |some c=>qN P c n (oK args) w fun e f w'=>match e with
  | .normal| .ret=>ux P fn.results.toList f w' fun vs=>K (ii vs) w'
  |_=>False
end Go.Fw
