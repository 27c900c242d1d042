/- The frame of the proofs: a weakest precondition over the loaded text that the kernel itself can reckon, and its soundness. -/
import Derived.Orders
import Derived.Scope
import Derived.KernelRfl
import Derived.Laws.World
import Derived.Laws.Sem
namespace Go.Fw
open Go
abbrev Fr:=Nat->Value
def Fr.set (f:Fr) (d:Option Nat) (v:Value):Fr:=
 match d with
 |none=>f
 |some j=>fun i=>bif Nat.beq i j then v else f i
def ev (f:Fr):Operand->Value
 | .tmp t=>f t
 | .const v=>v
 | .global g=> .pointer (some ⟨g,0,none⟩)
 | .func g=> .func (.func g) #[] #[]
inductive Bk where
 |int (k:IntKind)|bool|str|ptr|slice|map|any|GI|fn
def Eo:Bk->(Value->Prop)->Prop
 | .int k,C=> ∃n:Int,C (.int k n)
 | .bool,C=> ∃b:Bool,C (.bool b)
 | .str,C=> ∃s:ByteArray,C (.string s)
 | .ptr,C=> ∃p:Option Addr,C (.pointer p)
 | .slice,C=> ∃ (p:Option Addr) (n c:Nat),C (.slice p n c)
 | .map,C=> ∃r:Option Nat,C (.map r)
 | .any,C=> ∃v:Value,C v
 | .GI,C=> ∃a:Addr,C (.pointer (some a))
 | .fn,C=> ∃ (g:FuncId) (c:Array Value),C (.func (.func g) #[] c)
def vf:List Bk->(List Value->Prop)->Prop
 | [],C=>C []
 |b::l,C=>Eo b fun v=>vf l fun vs=>C (v::vs)
inductive Vk where
 |bS (b:Bk)
 |agg (l:List Bk)
def Mg:Vk->(Value->Prop)->Prop
 | .bS b,C=>Eo b C
 | .agg l,C=>vf l fun vs=>C (.agg vs.toArray)
def Kj:List Vk->(List Value->Prop)->Prop
 | [],C=>C []
 |b::l,C=>Mg b fun v=>Kj l fun vs=>C (v::vs)
theorem pY {b:Bk} {C:Value->Prop} (h:Eo b C): ∃v,C v:=by
 cases b<;>simp only [Eo] at h
 case slice=>obtain ⟨p,n,c,h⟩:=h;exact ⟨_,h⟩
 case fn=>obtain ⟨p,c,h⟩:=h;exact ⟨_,h⟩
 all_goals (obtain ⟨x,h⟩:=h;exact ⟨_,h⟩)
theorem wE: ∀ {l:List Bk} {C:List Value->Prop},vf l C->∃vs,C vs
 | [],_,h=> ⟨[],h⟩
 |_::_,_,h=>let ⟨v,h⟩:=pY h;let ⟨vs,h⟩:=wE h;⟨v::vs,h⟩
theorem uu {b:Vk} {C:Value->Prop} (h:Mg b C): ∃v,C v:=by
 cases b with
 |bS b=>exact pY h
 |agg l=>obtain ⟨vs,h⟩:=wE h;exact ⟨_,h⟩
theorem wZ: ∀ {l:List Vk} {C:List Value->Prop},Kj l C->∃vs,C vs
 | [],_,h=> ⟨[],h⟩
 |_::_,_,h=>let ⟨v,h⟩:=uu h;let ⟨vs,h⟩:=wZ h;⟨v::vs,h⟩
def Ho (P:Program) (t:TypeId):Bk:=
 match P.underlying t with
 |some (.int k)=> .int k
 |some .bool=> .bool
 |some .string=> .str
 |some (.pointer _)=> .ptr
 |some (.slice _)=> .slice
 |some (.map _ _)=> .map
 |some (.func ..)=> .fn
 |_=> .any
def pW (P:Program):Nat->TypeId->List Bk
 |0,_=> []
 |n+1,t=>
  match P.underlying t with
  |some (.struct I)=>I.toList.flatMap fun f=>pW P n f.type
  |_=> [Ho P t]
def JM (P:Program) (t:TypeId):Vk:=
 match P.underlying t with
 |some (.struct _)=> .agg (pW P 10 t)
 |_=> .bS (Ho P t)
def aD (w:World) (a:Addr):Nat->List Value->Prop
 |_,[]=>True
 |i,v::vs=>w.cell? (a.add i)=some v/\aD w a (i+1) vs
def iz:Value->Bool
 | .agg _| .tuple _=>false
 |_=>true
def af (a:Addr):Nat->List Value->World->World->Prop
 |_,[],w,w'=>w'=w
 |i,v::vs,w,w'=> (∃u,w.cell? (a.add i)=some u)/\w.frozen? (a.add i)=false/\iz v=true/\af a (i+1) vs (w.setCell (a.add i) v) w'
structure bc (o:Obj) (w:World) (n:Nat) (w':World):Prop where
 num:n=w.heap.size
 eq:w'=w.alloc o
def EV (o:Obj) (w:World) (K:Nat->World->Prop):Prop:= ∀ (n:Nat) (w':World),bc o w n w'->K n w'
theorem lL {o:Obj} {w:World} {K:Nat->World->Prop} (h:EV o w K):K w.heap.size (w.alloc o):=h _ _ ⟨rfl,rfl⟩
def rA (P:Program) (t:TypeId):Option Bool:=
 match P.underlying t with
 |some (.struct _)|some (.array _ _)=>some true
 |some _=>some false
 |none=>none
def JH (P:Program) (t:TypeId) (a:Addr) (w:World) (K:Value->Prop):Prop:=
 match rA P t with
 |some false=>Eo (Ho P t) fun v=>w.cell? a=some v/\K v
 |some true=>match P.info? t with
  |some i=>bif Nat.beq i.size (pW P 10 t).length then vf (pW P 10 t) fun vs=>aD w a 0 vs/\K (.agg vs.toArray) else False
  |none=>False
 |none=>False
def Mr (P:Program) (t:TypeId) (a:Addr) (v:Value) (w:World) (K:World->Prop):Prop:=
 match P.info? t with
 |some i=>bif Nat.beq v.cells.size i.size then
   match v with
   | .agg cs=> ∃w',af a 0 cs.toList w w'/\K w'
   | .tuple _=>False
   |v=> ∃w',af a 0 [v] w w'/\K w'
   else False
 |none=>False
def B0 (P:Program) (k:Vk) (s:Sem Value) (w:World) (K:Value->World->Prop):Prop:=
 ∃w',Mg k fun v=>s.run P w= .ok v w'/\K v w'
def Mc (P:Program) (t:TypeId) (K:Value->Prop):Prop:=
 match P.underlying t with
 |some (.tuple I)=>Kj (I.toList.map (JM P)) fun vs=>K (.tuple vs.toArray)
 |_=>Mg (JM P t) K
theorem zF {P:Program} {t:TypeId} {K:Value->Prop} (h:Mc P t K): ∃v,K v:=by
 unfold Mc at h;split at h
 . obtain ⟨vs,h⟩:=wZ h;exact ⟨_,h⟩
 . exact uu h
def Lt (P:Program) (t:TypeId) (s:Sem Value) (w:World) (K:Value->World->Prop):Prop:=
 ∃w',Mc P t fun v=>s.run P w= .ok v w'/\K v w'
def Fh (P:Program) (f:FuncId) (args:Array Value) (t:TypeId) (w:World) (K:Value->World->Prop):Prop:=
 Calls P f args w fun e w'=>Mc P t fun v=>e= .returned v/\K v w'
def fM (P:Program) (f:FuncId):Bool:=
 match P.funcs[f]? with
 |some fn=>fn.body.isSome && fn.name != "runtime.NumGoroutine"
 |none=>false
def LA (v:Value) (K:Value->Prop):Prop:=
 match v with
 | .pointer p=> ∃a,p=some a/\K (.pointer (some a))
 | .func (.func g) x y=>K (.func (.func g) x y)
 |_=>False
def aV (p:Option Addr) (n:Nat) (i:Int) (size:Nat) (K:Addr->Prop):Prop:=
 ∃a,p=some a/\0<=i/\i<n/\K (a.add (i.toNat*size))
def pP (p:Option Addr) (n c size:Nat) (lo hi mx:Option Int) (K:Option Addr->Nat->Nat->Prop):Prop:=
 ∃l h m:Nat,mx.getD (c:Int)=(m:Int)/\hi.getD (n:Int)=(h:Int)/\lo.getD 0=(l:Int)/\m<=c/\h<=m/\l<=h/\
  K (if m=l then p else p.map (·.add (l*size))) (h - l) (m - l)
def uN (b:BinOp) (isNil:Bool) (w:World) (K:Value->World->Prop):Prop:=
 match b with
 | .eql=>K (.bool isNil) w
 | .neq=>K (.bool (!isNil)) w
 |_=>False
def JU (P:Program) (b:BinOp) (t:TypeId) (x y:Operand) (u v:Value) (w:World) (K:Value->World->Prop):Prop:=
 match P.underlying t with
 |some (.int _)=>match u,v with
  | .int k a,.int I c=>
    match b with
    | .shl=>0<=c/\K (.int k (k.wrap (a*2 ^ (min c.toNat k.bits)))) w
    | .shr=>0<=c/\K (.int k (a.fdiv (2 ^ (min c.toNat k.bits)))) w
    |_=>bif k==I then
     match b with
     | .add=>K (.int k (k.wrap (a+c))) w
     | .sub=>K (.int k (k.wrap (a - c))) w
     | .mul=>K (.int k (k.wrap (a*c))) w
     | .quo=>c≠0/\K (.int k (k.wrap (a.tdiv c))) w
     | .rem=>c≠0/\K (.int k (a.tmod c)) w
     | .and=>K (.int k (k.wrap (BitVec.ofInt k.bits a &&& BitVec.ofInt k.bits c).toNat)) w
     | .or=>K (.int k (k.wrap (BitVec.ofInt k.bits a|||BitVec.ofInt k.bits c).toNat)) w
     | .xor=>K (.int k (k.wrap (BitVec.ofInt k.bits a ^^^ BitVec.ofInt k.bits c).toNat)) w
     | .andNot=>K (.int k (k.wrap (BitVec.ofInt k.bits a &&& ~~~ BitVec.ofInt k.bits c).toNat)) w
     | .eql=>K (.bool (a==c)) w
     | .neq=>K (.bool (a !=c)) w
     | .lss=>K (.bool (decide (a<c))) w
     | .leq=>K (.bool (decide (a<=c))) w
     | .gtr=>K (.bool (decide (a>c))) w
     | .geq=>K (.bool (decide (a>=c))) w
     |_=>False
     else False
  |_,_=>False
 |some .bool=>match u,v with
  | .bool a,.bool c=>uN b (a==c) w K
  |_,_=>False
 |some (.pointer _)=>match v with
  | .pointer none=>match u with
    | .pointer p=>uN b p.isNone w K
    |_=>False
  |_=>B0 P (.bS .bool) (do eqGuard b t x y u v;binOp b t u v) w K
 |some (.slice _)=>match v with
  | .slice none 0 0=>match u with
    | .slice p _ _=>uN b p.isNone w K
    |_=>False
  |_=>False
 |_=>B0 P (.bS .bool) (do eqGuard b t x y u v;binOp b t u v) w K
def uY (P:Program) (s:TypeId) (k:Nat):Option Nat:=
 match P.underlying s with
 |some (.struct I)=>
  match I[k]? with
  |some f=>match P.info? f.type with
   |some i=>if i.size=0 then none else some f.offset
   |none=>none
  |none=>none
 |_=>none
def kc (P:Program) (t:TypeId):Option Nat:=
 match P.underlying t with
 |some (.slice e)=> (P.info? e).map (·.size)
 |_=>none
def Fk (P:Program) (t:TypeId) (cs:Array Value) (off:Nat) (K:Value->Prop):Prop:=
 match rA P t with
 |some true=>match P.info? t with
  |some i=>K (.agg (cs.extract off (off+i.size)))
  |none=>False
 |some false=>match cs[off]? with
  |some v=>K v
  |none=>False
 |none=>False
def B6 (P:Program) (s:TypeId) (v:Value) (k:Nat) (K:Value->Prop):Prop:=
 match P.underlying s with
 |some (.struct I)=>
  match I[k]?,v with
  |some f,.agg cs=>Fk P f.type cs f.offset K
  |_,_=>False
 |_=>False
def JF:List Value->Option (List Int)
 | []=>some []
 | .int .i64 n::l=> (JF l).map (n:: ·)
 |_::_=>none
def tD (f:Fr):Option Operand->Option (Option Int)
 |none=>some none
 |some x=>match ev f x with
  | .int .i64 n=>some (some n)
  |_=>none
def aH (b:Bool) (A B:Prop):Prop:=
 match b with
 |true=>A
 |false=>B
theorem ao {b:Bool} {A B:Prop} (ha:b=true->A) (hb:b=false->B):aH b A B:=by
 cases b
 . exact hb rfl
 . exact ha rfl
theorem cj {b:Bool} {A B:Prop} (h:b=true) (ha:A):aH b A B:=by subst h;exact ha
theorem bm {b:Bool} {A B:Prop} (h:b=false) (hb:B):aH b A B:=by subst h;exact hb
def imax (a b:Int):Int:=if b>a then b else a
def jI (a b:Int):Int:=if b<a then b else a
def yw (f:Fr):List Operand->List Value
 | []=> []
 |x::l=>ev f x::yw f l
def pU (P:Program) (b:Builtin) (argTypes:Array TypeId) (type:TypeId) (args:List Value) (w:World) (K:Value->World->Prop):Prop:=
 match b with
 | .len=>match args with
   | [.slice _ n _]=>match (argTypes[0]?).bind P.underlying with
     |some (.slice _)=>K (.int .i64 n) w
     |_=>False
   | [.map r]=> ∃n:Int,(Builtin.len_ argTypes type #[.map r]).run P w= .ok (.int .i64 n) w/\K (.int .i64 n) w
   |_=>False
 | .append=>B0 P (.bS .slice) (Builtin.append_ argTypes type args.toArray) w K
 | .copy=>B0 P (.bS (.int .i64)) (Builtin.copy_ argTypes type args.toArray) w K
 | .max=>match args with
   | [.int .i64 a,.int .i64 c]=>K (.int .i64 (imax a c)) w
   | [.int .i64 a,.int .i64 c,.int .i64 d]=>K (.int .i64 (imax (imax a c) d)) w
   |_=>False
 | .min=>match args with
   | [.int .i64 a,.int .i64 c]=>K (.int .i64 (jI a c)) w
   | [.int .i64 a,.int .i64 c,.int .i64 d]=>K (.int .i64 (jI (jI a c) d)) w
   |_=>False
 | .delete=> ∃w',(Builtin.delete_ argTypes type args.toArray).run P w= .ok (.tuple #[]) w'/\K (.tuple #[]) w'
 | .clear=> ∃w',(Builtin.clear_ argTypes type args.toArray).run P w= .ok (.tuple #[]) w'/\K (.tuple #[]) w'
 |_=>False
def Jh (t:Bool) (u v:Value) (K:Value->Prop):Prop:=
 match u,v with
 | .bool x,.bool y=>K (.bool (bif t then x else y))
 |u,v=>aH t (K u) (K v)
def vW (size:Nat):Nat->List (Nat × Operand)->Fr->Option (List Value)
 |_,[],_=>some []
 |k,(i,x)::l,f=>bif Nat.beq i k && Nat.beq (ev f x).cells.size size then (vW size (k+1) l f).map fun r=> (ev f x).cells.toList++r else none
def jF (f:Fr):List (Nat × Operand)->List (Nat × Value)
 | []=> []
 | (i,x)::l=> (i,ev f x)::jF f l
def lR (P:Program):List Field->Option (List (Nat × Nat))
 | []=>some []
 |fd::l=>match P.info? fd.type with
  |some i=> (lR P l).map ((fd.offset,i.size):: ·)
  |none=>none
def AN (P:Program) (t:TypeId) (parts:List (Nat × Value)) (K:Value->Prop):Prop:=
 match P.info? t with
 |some i=>match i.zero,P.underlying t with
  |some z,some (.struct I)=>match lR P I.toList with
   |some ps=>match Instr.fill (fun k=>ps[k]?) z.cells parts with
    |some cells=>K (.agg cells)
    |none=>False
   |none=>False
  |_,_=>False
 |none=>False
def oG (P:Program) (o:Oper) (f:Fr) (w:World) (K:Value->World->Prop):Prop:=
 match o.op with
 | .move x| .assign x=>K (ev f x) w
 | .pick c a b=>match ev f c with
   | .bool t=>Jh t (ev f a) (ev f b) fun v=>K v w
   |_=>False
 | .alloc t=>match P.info? t with
   |some i=>match i.zero with
    |some z=>EV (.cells z.cells t) w fun n w'=>K (.pointer (some ⟨n,0,none⟩)) w'
    |none=>False
   |none=>False
 | .box t x=>EV (.cells (ev f x).cells t) w fun n w'=>K (.pointer (some ⟨n,0,none⟩)) w'
 | .build t parts=>AN P t (jF f parts.toList) fun v=>K v w
 | .buildSlice t len parts=>match P.underlying t with
   |some (.slice e)=>match P.info? e with
    |some i=>bif Nat.blt (len*i.size) 16777217 && Nat.beq parts.toList.length len && i.zero.isSome then
     match vW i.size 0 parts.toList f with
     |some cs=>EV (.cells cs.toArray e) w fun n w'=>K (.slice (some ⟨n,0,none⟩) len len) w'
     |none=>False
     else False
    |none=>False
   |_=>False
 | .load t x=>match ev f x with
   | .pointer (some a)=>JH P t a w fun v=>K v w
   |_=>False
 | .store t x y=>match ev f x with
   | .pointer (some a)=>Mr P t a (ev f y) w fun w'=>K undef w'
   |_=>False
 | .nilCheck x=>LA (ev f x) fun v=>K v w
 | .binOp b t x y _=>JU P b t x y (ev f x) (ev f y) w K
 | .unOp u _ x=>match u,ev f x with
   | .neg,.int k n=>K (.int k (k.wrap (0 - n))) w
   | .not,.bool b=>K (.bool (!b)) w
   |_,_=>False
 | .convert src dst x=>match P.underlying src,P.underlying dst,ev f x with
   |some _,some (.int k),.int _ n=>K (.int k (k.wrap n)) w
   |_,_,_=>False
 | .makeFunc fn first captured=>K (.func fn (yw f first.toList).toArray (yw f captured.toList).toArray) w
 | .makeMap _ r=>match r with
   |none=>EV (.map #[] 0) w fun n w'=>K (.map (some n)) w'
   |some _=>False
 | .makeSlice t l c=>B0 P (.bS .slice) (Instr.makeSlice t (ev f l) (ev f c)) w K
 | .slice t x lo hi mx=>match ev f x,kc P t,tD f lo,tD f hi,tD f mx with
   | .slice p n c,some size,some l,some h,some m=>bif h.isSome||m.isNone then pP p n c size l h m fun I n' c'=>K (.slice I n' c') w else False
   |_,_,_,_,_=>False
 | .fieldAddr s x k=>match ev f x,uY P s k with
   | .pointer (some a),some off=>K (.pointer (some (a.add off))) w
   |_,_=>False
 | .field s x k=>B6 P s (ev f x) k fun v=>K v w
 | .indexAddr t x i=>match ev f x,kc P t,ev f i with
   | .slice p n _,some size,.int _ j=>aV p n j size fun a=>K (.pointer (some a)) w
   |_,_,_=>False
 | .index t x i=>match P.underlying t,ev f x,ev f i with
   |some .string,.string s,.int _ j=> ∃b,0<=j/\s[j.toNat]? =some b/\K (.int .u8 b.toNat) w
   |_,_,_=>False
 | .lookup t x i ok=>Lt P o.type (Instr.lookup t (ev f x) (ev f i) ok) w K
 | .mapUpdate t m k x=> ∃w',(Instr.mapUpdate t (ev f m) (ev f k) (ev f x)).run P w= .ok () w'/\K undef w'
 | .insert t m k x=> ∃w',(Instr.mapUpdate t (ev f m) (ev f k) (ev f x)).run P w= .ok () w'/\K undef w'
 | .range t x=>B0 P (.bS .ptr) (Instr.range t (ev f x)) w K
 | .next x false=> (∃w',(Instr.next (ev f x) false o.type).run P w= .ok (.tuple #[.bool false]) w'/\K (.tuple #[.bool false]) w')\/
   (∃w',∃k v:Value,(Instr.next (ev f x) false o.type).run P w= .ok (.tuple #[.bool true,k,v]) w'/\K (.tuple #[.bool true,k,v]) w')
 | .entry x=> ∃w',∃k:Int,∃v:Value,(Instr.entry (ev f x)).run P w= .ok (.tuple #[.int .i64 k,v]) w'/\K (.tuple #[.int .i64 k,v]) w'
 | .extract x k=>match ev f x with
   | .tuple vs=>match vs[k]? with
     |some v=>K v w
     |none=>False
   |_=>False
 | .call c=>match c.callee with
   | .builtin b=>pU P b c.argTypes o.type (yw f c.args.toList) w K
   | .value (.func g)=>Fh P g (yw f c.args.toList).toArray o.type w K
   | .value x=>match ev f x with
     | .func (.func g) first captured=>aH (fM P g) (Fh P g (first++ (yw f c.args.toList).toArray++captured) o.type w K) False
     |_=>False
   | .invoke _ _=>False
 |_=>False
def aZ (P:Program) (o:Oper):Nat:=
 match o.op with
 | .move _| .assign _| .pick _ _ _| .build _ _| .nilCheck _| .unOp _ _ _| .convert _ _ _| .makeFunc _ _ _| .slice _ _ _ _ _| .fieldAddr _ _ _
 | .field _ _ _| .indexAddr _ _ _| .index _ _ _| .extract _ _=>0
 | .binOp _ t _ y _=>match P.underlying t with
   |some (.int _)|some .bool|some (.slice _)=>0
   |some (.pointer _)=>match y with
    | .const (.pointer none)=>0
    |_=>2
   |_=>2
 | .load _ _=>1
 | .call c=>match c.callee with
   | .builtin .max| .builtin .min=>0
   | .builtin .len=>1
   |_=>2
 |_=>2
def zJ (P:Program) (I:Array Oper) (o:Oper) (f:Fr) (w:World) (C:Fr->World->Prop):Prop:=
 match o.guard with
 |none=>oG P o f w fun v w'=>C (f.set o.dst v) w'
 |some (j,want)=>
  match (I[j]?).bind (·.dst) with
  |none=>False
  |some t=>
   match f t with
   | .bool b=>aH b
      (bif want then oG P o (f.set (some t) (.bool true)) w fun v w'=>C ((f.set (some t) (.bool true)).set o.dst v) w'
        else C ((f.set (some t) (.bool true)).set o.dst undef) w)
      (bif want then C ((f.set (some t) (.bool false)).set o.dst undef) w
        else oG P o (f.set (some t) (.bool false)) w fun v w'=>C ((f.set (some t) (.bool false)).set o.dst v) w')
   | .tuple _=>C (f.set o.dst undef) w
   |_=>False
def KL (P:Program) (I:Array Oper):List Oper->Fr->World->(Fr->World->Prop)->Prop
 | [],f,w,K=>K f w
 |o::rest,f,w,K=>zJ P I o f w fun J w'=>KL P I rest J w' K
def vK (B:List Nat) (o:Oper):Nat:=go o.after.toList
where go:List Edge->Nat
 | []=>0
 |e::l=>bif Region.binds .any e then 2 ^ e.on|||B.getD e.on 0|||go l else go l
def jL:List Oper->List Nat->List Nat
 | [],B=>B
 |o::l,B=>jL l (B++ [vK B o])
def kH (k:Nat):List Edge->Bool
 | []=>true
 |e::l=> (!Region.binds .any e||Nat.blt e.on k) && kH k l
def tH (B:List Nat):Nat->List Oper->Bool
 |_,[]=>true
 |k,o::l=>Nat.beq (B.getD k 0) (vK B o) && kH k o.after.toList && tH B (k+1) l
def lB (P:Program) (x y:Oper):Bool:=
 Nat.beq (aZ P x) 0||Nat.beq (aZ P y) 0|| (Nat.beq (aZ P x) 1 && Nat.beq (aZ P y) 1)
def ye (P:Program) (I:Array Oper) (x:Oper) (i:Nat) (B:List Nat):Nat->List Oper->Bool
 |_,[]=>true
 |j,y::l=> ((B.getD j 0).testBit i|| (x.apart I y && lB P x y)) && ye P I x i B (j+1) l
def sR (P:Program) (I:Array Oper) (B:List Nat):Nat->List Oper->Bool
 |_,[]=>true
 |i,x::l=>ye P I x i B (i+1) l && sR P I B (i+1) l
def cS (I:Array Oper):Bool:=Region.noSelect I && tH (jL I.toList []) 0 I.toList
def mK (P:Program) (I:Array Oper):Bool:=cS I && sR P I (jL I.toList []) 0 I.toList
def J1 (P:Program) (I:Array Oper) (B:List Nat) (J:Array Bool) (i:Nat):Bool:=
 (List.range I.size).all fun j=>J.getD j true||Nat.beq j i|| (B.getD j 0).testBit i||
   (match I[i]?,I[j]? with
    |some x,some y=>x.apart I y && y.apart I x && lB P x y
    |_,_=>false)
def CU (P:Program) (I:Array Oper) (i:Nat) (f:Fr) (w:World) (C:Fr->World->Prop):Prop:=
 match I[i]? with
 |none=>False
 |some o=>zJ P I o f w C
def HQ:List Nat->(Nat->Prop)->Prop
 | [],_=>True
 | [i],C=>C i
 |i::j::l,C=>C i/\HQ (j::l) C
def LF (P:Program) (I:Array Oper) (B:List Nat):Nat->Array Bool->Fr->World->(Fr->World->Prop)->Prop
 |0,_,f,w,K=>K f w
 |n+1,listed,f,w,K=>
  match (Region.ready .any I listed).find? (J1 P I B listed) with
  |some i=>CU P I i f w fun J w'=>LF P I B n (listed.setIfInBounds i true) J w' K
  |none=>HQ (Region.ready .any I listed) fun i=>CU P I i f w fun J w'=>LF P I B n (listed.setIfInBounds i true) J w' K
def AK (P:Program) (I:Array Oper) (f:Fr) (w:World) (K:Fr->World->Prop):Prop:=
 bif mK P I then KL P I I.toList f w K
 else LF P I (jL I.toList []) I.size (Array.replicate I.size false) f w K
def e_ (W:World->Prop) (a:Addr) (v:Value):Prop:= ∀u,W u->u.cell? a=some v
def kG (W:World->Prop) (a:Addr) (vs:List Value):Prop:= ∀u,W u->aD u a 0 vs
def Mz (P:Program) (t:TypeId) (a:Addr) (W:World->Prop) (K:Value->Prop):Prop:=
 match rA P t with
 |some false=>Eo (Ho P t) fun v=>e_ W a v/\K v
 |some true=>match P.info? t with
  |some i=>bif Nat.beq i.size (pW P 10 t).length then vf (pW P 10 t) fun vs=>kG W a vs/\K (.agg vs.toArray) else False
  |none=>False
 |none=>False
def Lz (P:Program) (argTypes:Array TypeId) (type:TypeId) (args:List Value) (W:World->Prop) (w:World) (K:Value->World->Prop):Prop:=
 match args with
 | [.slice _ n _]=>match (argTypes[0]?).bind P.underlying with
   |some (.slice _)=>K (.int .i64 n) w
   |_=>False
 | [.map r]=> ∃n:Int,(∀u,W u->(Builtin.len_ argTypes type #[.map r]).run P u= .ok (.int .i64 n) u)/\K (.int .i64 n) w
 |_=>False
def y8 (keep:Bool) (W:World->Prop) (w:World) (K:Prop):Prop:=
 match keep with
 |true=>W w/\K
 |false=>K
def KE (P:Program) (W:World->Prop) (keep:Bool) (o:Oper) (f:Fr) (w:World) (K:Value->World->Prop):Prop:=
 match o.op with
 | .load t x=>match ev f x with
   | .pointer (some a)=>Mz P t a W fun v=>K v w
   |_=>False
 | .call c=>match c.callee with
   | .builtin .len=>Lz P c.argTypes o.type (yw f c.args.toList) W w K
   | .builtin .max| .builtin .min=>oG P o f w K
   |_=>oG P o f w fun v w'=>y8 keep W w' (K v w')
 |_=>bif Nat.ble (aZ P o) 0 then oG P o f w K else oG P o f w fun v w'=>y8 keep W w' (K v w')
def Cd (P:Program) (I:Array Oper) (W:World->Prop) (keep:Bool) (o:Oper) (f:Fr) (w:World) (C:Fr->World->Prop):Prop:=
 match o.guard with
 |none=>KE P W keep o f w fun v w'=>C (f.set o.dst v) w'
 |some (j,want)=>
  match (I[j]?).bind (·.dst) with
  |none=>False
  |some t=>
   match f t with
   | .bool b=>aH b
      (bif want then KE P W keep o (f.set (some t) (.bool true)) w fun v w'=>C ((f.set (some t) (.bool true)).set o.dst v) w'
        else C ((f.set (some t) (.bool true)).set o.dst undef) w)
      (bif want then C ((f.set (some t) (.bool false)).set o.dst undef) w
        else KE P W keep o (f.set (some t) (.bool false)) w fun v w'=>C ((f.set (some t) (.bool false)).set o.dst v) w')
   | .tuple _=>C (f.set o.dst undef) w
   |_=>False
def qu (P:Program) (I:Array Oper) (B:List Nat) (i:Nat):Bool:=
 (List.range I.size).any fun k=> (match I[k]? with|some o=>Nat.beq (aZ P o) 1|none=>false) && !(B.getD i 0).testBit k
def J0 (P:Program) (I:Array Oper) (W:World->Prop) (B:List Nat):Nat->List Oper->Fr->World->(Fr->World->Prop)->Prop
 |_,[],f,w,K=>K f w
 |k,o::rest,f,w,K=>Cd P I W (qu P I B k) o f w fun J w'=>J0 P I W B (k+1) rest J w' K
def kO (P:Program) (x y:Oper):Bool:=Nat.ble (aZ P x) 1||Nat.ble (aZ P y) 1
def sH (P:Program) (I:Array Oper) (x:Oper) (i:Nat) (B:List Nat):Nat->List Oper->Bool
 |_,[]=>true
 |j,y::l=> ((B.getD j 0).testBit i|| (x.apart I y && kO P x y)) && sH P I x i B (j+1) l
def p8 (P:Program) (I:Array Oper) (B:List Nat):Nat->List Oper->Bool
 |_,[]=>true
 |i,x::l=>sH P I x i B (i+1) l && p8 P I B (i+1) l
def p6 (P:Program) (I:Array Oper):Bool:=cS I && p8 P I (jL I.toList []) 0 I.toList
def Im (P:Program) (I:Array Oper) (B:List Nat) (J:Array Bool) (i:Nat):Bool:=
 (List.range I.size).all fun j=>J.getD j true||Nat.beq j i|| (B.getD j 0).testBit i||
   (match I[i]?,I[j]? with
    |some x,some y=>x.apart I y && y.apart I x && kO P x y
    |_,_=>false)
def xD (P:Program) (I:Array Oper) (W:World->Prop) (B:List Nat) (i:Nat) (f:Fr) (w:World) (C:Fr->World->Prop):Prop:=
 match I[i]? with
 |none=>False
 |some o=>Cd P I W (qu P I B i) o f w C
def F5 (P:Program) (I:Array Oper) (W:World->Prop) (B:List Nat):Nat->Array Bool->Fr->World->(Fr->World->Prop)->Prop
 |0,_,f,w,K=>K f w
 |n+1,listed,f,w,K=>
  match (Region.ready .any I listed).find? (Im P I B listed) with
  |some i=>xD P I W B i f w fun J w'=>F5 P I W B n (listed.setIfInBounds i true) J w' K
  |none=>HQ (Region.ready .any I listed) fun i=>xD P I W B i f w fun J w'=>F5 P I W B n (listed.setIfInBounds i true) J w' K
def Cc (P:Program) (I:Array Oper) (f:Fr) (w:World) (K:Fr->World->Prop):Prop:=
 ∃W:World->Prop,W w/\
 bif p6 P I then J0 P I W (jL I.toList []) 0 I.toList f w K
 else F5 P I W (jL I.toList []) I.size (Array.replicate I.size false) f w K
def DU:Bk->Type->Type
 | .int _,R=>Int->R
 | .bool,R=>Bool->R
 | .str,R=>ByteArray->R
 | .ptr,R=>Option Addr->R
 | .slice,R=>Option Addr->Nat->Nat->R
 | .map,R=>Option Nat->R
 | .any,R=>Value->R
 | .GI,R=>Addr->R
 | .fn,R=>FuncId->Array Value->R
def wP:List Bk->Type->Type
 | [],R=>R
 |b::l,R=>DU b (wP l R)
def FS:Vk->Type->Type
 | .bS b,R=>DU b R
 | .agg l,R=>wP l R
def ux:List Vk->Type->Type
 | [],R=>R
 |k::l,R=>FS k (ux l R)
def BB {R:Type}:(b:Bk)->DU b R->Value->(R->Prop)->Prop
 | .int k,I,v,C=>match v with
   | .int J n=>bif k==J then C (I n) else False
   |_=>False
 | .bool,I,v,C=>match v with
   | .bool n=>C (I n)
   |_=>False
 | .str,I,v,C=>match v with
   | .string n=>C (I n)
   |_=>False
 | .ptr,I,v,C=>match v with
   | .pointer n=>C (I n)
   |_=>False
 | .slice,I,v,C=>match v with
   | .slice p n c=>C (I p n c)
   |_=>False
 | .map,I,v,C=>match v with
   | .map n=>C (I n)
   |_=>False
 | .any,I,v,C=>C (I v)
 | .GI,I,v,C=>match v with
   | .pointer (some a)=>C (I a)
   |_=>False
 | .fn,I,v,C=>match v with
   | .func (.func g) ⟨[]⟩ c=>C (I g c)
   |_=>False
def vP {R:Type}:(l:List Bk)->wP l R->List Value->(R->Prop)->Prop
 | [],I,vs,C=>match vs with
   | []=>C I
   |_::_=>False
 |b::l,I,vs,C=>match vs with
  | []=>False
  |v::vs=>BB b I v fun J=>vP l J vs C
def uZ {R:Type}:(k:Vk)->FS k R->Value->(R->Prop)->Prop
 | .bS b,I,v,C=>BB b I v C
 | .agg l,I,v,C=>match v with
   | .agg cs=>vP l I cs.toList C
   |_=>False
def oZ {R:Type}:(l:List Vk)->ux l R->List Value->(R->Prop)->Prop
 | [],I,vs,C=>match vs with
   | []=>C I
   |_::_=>False
 |k::l,I,vs,C=>match vs with
  | []=>False
  |v::vs=>uZ k I v fun J=>oZ l J vs C
def Ma {R:Type}:(b:Bk)->DU b R->(Value->R->Prop)->Prop
 | .int k,I,C=> ∀n:Int,C (.int k n) (I n)
 | .bool,I,C=> ∀b:Bool,C (.bool b) (I b)
 | .str,I,C=> ∀s:ByteArray,C (.string s) (I s)
 | .ptr,I,C=> ∀p:Option Addr,C (.pointer p) (I p)
 | .slice,I,C=> ∀ (p:Option Addr) (n c:Nat),C (.slice p n c) (I p n c)
 | .map,I,C=> ∀r:Option Nat,C (.map r) (I r)
 | .any,I,C=> ∀v:Value,C v (I v)
 | .GI,I,C=> ∀a:Addr,C (.pointer (some a)) (I a)
 | .fn,I,C=> ∀ (g:FuncId) (c:Array Value),C (.func (.func g) #[] c) (I g c)
def KN {R:Type}:(l:List Bk)->wP l R->(List Value->R->Prop)->Prop
 | [],I,C=>C [] I
 |b::l,I,C=>Ma b I fun v J=>KN l J fun vs r=>C (v::vs) r
def MY {R:Type}:(k:Vk)->FS k R->(Value->R->Prop)->Prop
 | .bS b,I,C=>Ma b I C
 | .agg l,I,C=>KN l I fun vs r=>C (.agg vs.toArray) r
def Hq {R:Type}:(l:List Vk)->ux l R->(List Value->R->Prop)->Prop
 | [],I,C=>C [] I
 |k::l,I,C=>MY k I fun v J=>Hq l J fun vs r=>C (v::vs) r
theorem CP {R:Type} {b:Bk} {I:DU b R} {v:Value} {C:R->Prop} {D:Value->R->Prop} (h:BB b I v C) (g:Ma b I D): ∃r,C r/\D v r:=by
 cases b<;>simp only [BB] at h<;>simp only [Ma] at g
 case int k=>
  split at h
  . rename_i O n;cases J:k==O
    . simp [J] at h
    . rw [J] at h;obtain rfl:=eq_of_beq J;exact ⟨_,h,g n⟩
  . exact h.elim
 case any=>exact ⟨_,h,g v⟩
 case slice=>
  split at h
  . exact ⟨_,h,g _ _ _⟩
  . exact h.elim
 case fn=>
  split at h
  . exact ⟨_,h,g _ _⟩
  . exact h.elim
 all_goals
  split at h
  . exact ⟨_,h,g _⟩
  . exact h.elim
theorem Fq {R:Type} (l:List Bk): ∀ {I:wP l R} {vs:List Value} {C:R->Prop} {D:List Value->R->Prop},vP l I vs C->KN l I D->∃r,C r/\D vs r:=by
 induction l with
 |nil=>
  intro I vs C D h g;cases vs with
  |nil=>exact ⟨_,h,g⟩
  |cons=>exact h.elim
 |cons b l ih=>
  intro I vs C D h g;cases vs with
  |nil=>exact h.elim
  |cons v vs=>
   obtain ⟨_,O,J⟩:=CP h g;exact ih (D:=fun vs r=>D (v::vs) r) O J
theorem IM {R:Type} {k:Vk} {I:FS k R} {v:Value} {C:R->Prop} {D:Value->R->Prop} (h:uZ k I v C) (g:MY k I D): ∃r,C r/\D v r:=by
 cases k with
 |bS b=>exact CP h g
 |agg l=>
  simp only [uZ] at h;split at h
  . rename_i cs;obtain ⟨r,O,J⟩:=Fq l h g;exact ⟨r,O,by simpa using J⟩
  . exact h.elim
theorem l6 {R:Type} (l:List Vk): ∀ {I:ux l R} {vs:List Value} {C:R->Prop} {D:List Value->R->Prop},oZ l I vs C->Hq l I D->∃r,C r/\D vs r:=by
 induction l with
 |nil=>
  intro I vs C D h g;cases vs with
  |nil=>exact ⟨_,h,g⟩
  |cons=>exact h.elim
 |cons b l ih=>
  intro I vs C D h g;cases vs with
  |nil=>exact h.elim
  |cons v vs=>
   obtain ⟨_,O,J⟩:=IM h g;exact ih (D:=fun vs r=>D (v::vs) r) O J
def pK:Code->List (Nat × TypeId)
 | .region _ ops _=>ops.toList.filterMap fun o=>o.dst.map fun d=> (d,o.type)
 | .seq a b=>pK a++pK b
 | .cond _ a b=>pK a++pK b
 | .block _ c| .loop c| .scope c=>pK c
 |_=> []
def ik:List (Nat × TypeId)->Nat->Option TypeId
 | [],_=>none
 | (d,t)::l,i=>bif Nat.beq d i then some t else ik l i
def di:List (Nat × TypeId)->List Value->Nat->Option Value
 | (a,_)::as,v::vs,i=>bif Nat.beq i a then some v else di as vs i
 |_,_,_=>none
def H_ (c:Code) (as:List (Nat × TypeId)) (vs:List Value) (f g:Fr):Fr:=fun i=>
 match di as vs i with
 |some v=>v
 |none=>bif (ik (pK c) i).isNone then f i else g i
def mM (f:Fr):List (Nat × TypeId)->List Value
 | []=> []
 | (a,_)::l=>f a::mM f l
def jC (P:Program):List (Nat × TypeId)->List Vk
 | []=> []
 | (_,t)::l=> (bif Nat.beq t 1000000 then .bS .GI else JM P t)::jC P l
inductive oW where
 |ae
 |aF (a b:oW)
 |cut (as:List (Nat × TypeId)) (a b:oW)
 |bS (a:oW)
 |loop (as:List (Nat × TypeId)) (a:oW)
 |dm
def oW.fst:oW->oW
 | .aF a _| .cut _ a _| .bS a| .loop _ a=>a
 |_=> .ae
def oW.snd:oW->oW
 | .aF _ b| .cut _ _ b=>b
 |_=> .ae
def oW.Fo:oW->Option (List (Nat × TypeId))
 | .cut as _ _=>some as
 |_=>none
def oW.tM:oW->List (Nat × TypeId)
 | .loop as _=>as
 |_=> []
def oW.drawn:oW->Bool
 | .dm=>true
 |_=>false
abbrev Gg:=Exit->Fr->World->Prop
def pA (P:Program):Code->oW->Fr->World->Gg->Prop
 | .skip,_,f,w,Q=>Q .normal f w
 | .label _,_,f,w,Q=>Q .normal f w
 | .region _ ops dm,n,f,w,Q=>bif dm then (bif n.drawn then Cc P ops f w.drew fun O w'=>Q .normal O w' else AK P ops f w.drew fun O w'=>Q .normal O w') else KL P ops ops.toList f w fun O w'=>Q .normal O w'
 | .seq a b,n,f,w,Q=>
   match n.Fo with
   |some as=>
    ∃J:ux (jC P as) (World->Prop),
     pA P a n.fst f w (fun e O w'=>match e with
      | .normal=>oZ (jC P as) J (mM O as) fun r=>r w'
      |e=>Q e O w')/\
     Hq (jC P as) J fun vs r=> ∀ (w:World) (g:Fr),r w->pA P b n.snd (H_ a as vs f g) w Q
   |none=>pA P a n.fst f w fun e O w'=>match e with
    | .normal=>pA P b n.snd O w' Q
    |e=>Q e O w'
 | .cond c a b,n,f,w,Q=>match ev f c with
   | .bool t=>aH t (pA P a n.fst f w Q) (pA P b n.snd f w Q)
   |_=>False
 | .block id c,n,f,w,Q=>pA P c n.fst f w fun e O w'=>match e with
   | .exit i=>bif Nat.beq i id then Q .normal O w' else Q (.exit i) O w'
   |e=>Q e O w'
 | .scope c,n,f,w,Q=>pA P c n.fst f w fun e O w'=>match e with
   | .goto _=>False
   |e=>Q e O w'
 | .loop c,n,f,w,Q=>
   ∃I:ux (jC P n.tM) (World->Nat->Prop),
    (oZ (jC P n.tM) I (mM f n.tM) fun r=> ∃k,r w k)/\
    Hq (jC P n.tM) I fun vs r=> ∀ (w:World) (k:Nat) (g:Fr),r w k->
     pA P c n.fst (H_ c n.tM vs f g) w fun e O w'=>match e with
      | .normal=>oZ (jC P n.tM) I (mM O n.tM) fun r=> ∃U,U<k/\r w' U
      |e=>Q e O w'
 | .exit id,_,f,w,Q=>Q (.exit id) f w
 | .ret,_,f,w,Q=>Q .ret f w
 |_,_,_,_,_=>False
def tf (P:Program) (rs:List ResultVar) (f:Fr) (w:World) (K:List Value->Prop):Prop:=
 match rs with
 | []=>K []
 | .tmp t::l=>tf P l f w fun vs=>K (f t::vs)
 | .cell a t::l=>match f a with
   | .pointer (some p)=>JH P t p w fun v=>tf P l f w fun vs=>K (v::vs)
   |_=>False
def gG:List Value->Value
 | [v]=>v
 |vs=> .tuple vs.toArray
def ng:List Value->Fr
 | [],_=>undef
 |v::_,0=>v
 |_::vs,i+1=>ng vs i
def Lp (P:Program) (fn:Func) (n:oW) (args:List Value) (w:World) (K:Value->World->Prop):Prop:=
 match fn.body with
 |none=>False
 |some c=>pA P c n (ng args) w fun e f w'=>match e with
  | .normal| .ret=>tf P fn.results.toList f w' fun vs=>K (gG vs) w'
  |_=>False
end Go.Fw
