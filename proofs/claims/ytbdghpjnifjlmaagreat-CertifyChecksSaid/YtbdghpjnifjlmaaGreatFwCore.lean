/- The frame of the proofs: a weakest precondition over the loaded text that the kernel itself can reckon, and its soundness. -/
import Derived.Orders
import Derived.Scope
import Derived.KernelRfl
import Derived.Laws.World
import Derived.Laws.Sem
namespace Go.Fw
open Go
abbrev Fr:=Nat→Value
def Fr.set (f:Fr) (d:Option Nat) (v:Value):Fr:=
 match d with
 |none=>f
 |some j=>fun i=>bif Nat.beq i j then v else f i
def ev (f:Fr):Operand→Value
 | .tmp t=>f t
 | .const v=>v
 | .global g=> .pointer (some ⟨g,0,none⟩)
 | .func g=> .func (.func g) #[] #[]
inductive Bk where
 |int (k:IntKind)|bool|str|ptr|slice|map|any|addr|fn
def exB:Bk→(Value→Prop)→Prop
 | .int k,C=> ∃n:Int,C (.int k n)
 | .bool,C=> ∃b:Bool,C (.bool b)
 | .str,C=> ∃s:ByteArray,C (.string s)
 | .ptr,C=> ∃p:Option Addr,C (.pointer p)
 | .slice,C=> ∃ (p:Option Addr) (n c:Nat),C (.slice p n c)
 | .map,C=> ∃r:Option Nat,C (.map r)
 | .any,C=> ∃v:Value,C v
 | .addr,C=> ∃a:Addr,C (.pointer (some a))
 | .fn,C=> ∃ (g:FuncId) (c:Array Value),C (.func (.func g) #[] c)
def exBs:List Bk→(List Value→Prop)→Prop
 | [],C=>C []
 |b::l,C=>exB b fun v=>exBs l fun vs=>C (v::vs)
inductive Vk where
 |one (b:Bk)
 |agg (l:List Bk)
def exV:Vk→(Value→Prop)→Prop
 | .one b,C=>exB b C
 | .agg l,C=>exBs l fun vs=>C (.agg vs.toArray)
def exVs:List Vk→(List Value→Prop)→Prop
 | [],C=>C []
 |b::l,C=>exV b fun v=>exVs l fun vs=>C (v::vs)
theorem exB_spec {b:Bk} {C:Value→Prop} (h:exB b C): ∃v,C v:=by
 cases b<;>simp only [exB] at h
 case slice=>obtain ⟨p,n,c,h⟩:=h;exact ⟨_,h⟩
 case fn=>obtain ⟨p,c,h⟩:=h;exact ⟨_,h⟩
 all_goals (obtain ⟨x,h⟩:=h;exact ⟨_,h⟩)
theorem exBs_spec: ∀ {l:List Bk} {C:List Value→Prop},exBs l C→∃vs,C vs
 | [],_,h=> ⟨[],h⟩
 |_::_,_,h=>let ⟨v,h⟩:=exB_spec h;let ⟨vs,h⟩:=exBs_spec h;⟨v::vs,h⟩
theorem exV_spec {b:Vk} {C:Value→Prop} (h:exV b C): ∃v,C v:=by
 cases b with
 |one b=>exact exB_spec h
 |agg l=>obtain ⟨vs,h⟩:=exBs_spec h;exact ⟨_,h⟩
theorem exVs_spec: ∀ {l:List Vk} {C:List Value→Prop},exVs l C→∃vs,C vs
 | [],_,h=> ⟨[],h⟩
 |_::_,_,h=>let ⟨v,h⟩:=exV_spec h;let ⟨vs,h⟩:=exVs_spec h;⟨v::vs,h⟩
def bkOf (P:Program) (t:TypeId):Bk:=
 match P.underlying t with
 |some (.int k)=> .int k
 |some .bool=> .bool
 |some .string=> .str
 |some (.pointer _)=> .ptr
 |some (.slice _)=> .slice
 |some (.map _ _)=> .map
 |some (.func ..)=> .fn
 |_=> .any
def bksOf (P:Program):Nat→TypeId→List Bk
 |0,_=> []
 |n+1,t=>
  match P.underlying t with
  |some (.struct fs)=>fs.toList.flatMap fun f=>bksOf P n f.type
  |_=> [bkOf P t]
def vkOf (P:Program) (t:TypeId):Vk:=
 match P.underlying t with
 |some (.struct _)=> .agg (bksOf P 10 t)
 |_=> .one (bkOf P t)
def CellsAt (w:World) (a:Addr):Nat→List Value→Prop
 |_,[]=>True
 |i,v::vs=>w.cell? (a.add i)=some v∧CellsAt w a (i+1) vs
def oneCell:Value→Bool
 | .agg _| .tuple _=>false
 |_=>true
def StoreAt (a:Addr):Nat→List Value→World→World→Prop
 |_,[],w,w'=>w'=w
 |i,v::vs,w,w'=> (∃u,w.cell? (a.add i)=some u)∧w.frozen? (a.add i)=false∧oneCell v=true∧StoreAt a (i+1) vs (w.setCell (a.add i) v) w'
structure New (o:Obj) (w:World) (n:Nat) (w':World):Prop where
 num:n=w.heap.size
 eq:w'=w.alloc o
def newK (o:Obj) (w:World) (K:Nat→World→Prop):Prop:= ∀ (n:Nat) (w':World),New o w n w'→K n w'
theorem newK_spec {o:Obj} {w:World} {K:Nat→World→Prop} (h:newK o w K):K w.heap.size (w.alloc o):=h _ _ ⟨rfl,rfl⟩
def isAggT (P:Program) (t:TypeId):Option Bool:=
 match P.underlying t with
 |some (.struct _)|some (.array _ _)=>some true
 |some _=>some false
 |none=>none
def ldK (P:Program) (t:TypeId) (a:Addr) (w:World) (K:Value→Prop):Prop:=
 match isAggT P t with
 |some false=>exB (bkOf P t) fun v=>w.cell? a=some v∧K v
 |some true=>match P.info? t with
  |some i=>bif Nat.beq i.size (bksOf P 10 t).length then exBs (bksOf P 10 t) fun vs=>CellsAt w a 0 vs∧K (.agg vs.toArray) else False
  |none=>False
 |none=>False
def stK (P:Program) (t:TypeId) (a:Addr) (v:Value) (w:World) (K:World→Prop):Prop:=
 match P.info? t with
 |some i=>bif Nat.beq v.cells.size i.size then
   match v with
   | .agg cs=> ∃w',StoreAt a 0 cs.toList w w'∧K w'
   | .tuple _=>False
   |v=> ∃w',StoreAt a 0 [v] w w'∧K w'
   else False
 |none=>False
def semK (P:Program) (k:Vk) (s:Sem Value) (w:World) (K:Value→World→Prop):Prop:=
 ∃w',exV k fun v=>s.run P w= .ok v w'∧K v w'
def rkK (P:Program) (t:TypeId) (K:Value→Prop):Prop:=
 match P.underlying t with
 |some (.tuple ts)=>exVs (ts.toList.map (vkOf P)) fun vs=>K (.tuple vs.toArray)
 |_=>exV (vkOf P t) K
theorem rkK_spec {P:Program} {t:TypeId} {K:Value→Prop} (h:rkK P t K): ∃v,K v:=by
 unfold rkK at h
 split at h
 · obtain ⟨vs,h⟩:=exVs_spec h;exact ⟨_,h⟩
 · exact exV_spec h
def semT (P:Program) (t:TypeId) (s:Sem Value) (w:World) (K:Value→World→Prop):Prop:=
 ∃w',rkK P t fun v=>s.run P w= .ok v w'∧K v w'
def callK (P:Program) (f:FuncId) (args:Array Value) (t:TypeId) (w:World) (K:Value→World→Prop):Prop:=
 Calls P f args w fun e w'=>rkK P t fun v=>e= .returned v∧K v w'
def entB (P:Program) (f:FuncId):Bool:=
 match P.funcs[f]? with
 |some fn=>fn.body.isSome && fn.name != "runtime.NumGoroutine"
 |none=>false
def nilK (v:Value) (K:Value→Prop):Prop:=
 match v with
 | .pointer p=> ∃a,p=some a∧K (.pointer (some a))
 | .func (.func g) x y=>K (.func (.func g) x y)
 |_=>False
def ixK (p:Option Addr) (n:Nat) (i:Int) (size:Nat) (K:Addr→Prop):Prop:=
 ∃a,p=some a∧0≤i∧i<n∧K (a.add (i.toNat*size))
def slK (p:Option Addr) (n c size:Nat) (lo hi mx:Option Int) (K:Option Addr→Nat→Nat→Prop):Prop:=
 ∃l h m:Nat,mx.getD (c:Int)=(m:Int)∧hi.getD (n:Int)=(h:Int)∧lo.getD 0=(l:Int)∧m≤c∧h≤m∧l≤h∧
  K (if m=l then p else p.map (·.add (l*size))) (h - l) (m - l)
def nilCmp (b:BinOp) (isNil:Bool) (w:World) (K:Value→World→Prop):Prop:=
 match b with
 | .eql=>K (.bool isNil) w
 | .neq=>K (.bool (!isNil)) w
 |_=>False
def binK (P:Program) (b:BinOp) (t:TypeId) (x y:Operand) (u v:Value) (w:World) (K:Value→World→Prop):Prop:=
 match P.underlying t with
 |some (.int _)=>match u,v with
  | .int k a,.int k' c=>
    match b with
    | .shl=>0≤c∧K (.int k (k.wrap (a*2 ^ (min c.toNat k.bits)))) w
    | .shr=>0≤c∧K (.int k (a.fdiv (2 ^ (min c.toNat k.bits)))) w
    |_=>bif k==k' then
     match b with
     | .add=>K (.int k (k.wrap (a+c))) w
     | .sub=>K (.int k (k.wrap (a - c))) w
     | .mul=>K (.int k (k.wrap (a*c))) w
     | .quo=>c≠0∧K (.int k (k.wrap (a.tdiv c))) w
     | .rem=>c≠0∧K (.int k (a.tmod c)) w
     | .and=>K (.int k (k.wrap (BitVec.ofInt k.bits a &&& BitVec.ofInt k.bits c).toNat)) w
     | .or=>K (.int k (k.wrap (BitVec.ofInt k.bits a|||BitVec.ofInt k.bits c).toNat)) w
     | .xor=>K (.int k (k.wrap (BitVec.ofInt k.bits a ^^^ BitVec.ofInt k.bits c).toNat)) w
     | .andNot=>K (.int k (k.wrap (BitVec.ofInt k.bits a &&& ~~~ BitVec.ofInt k.bits c).toNat)) w
     | .eql=>K (.bool (a==c)) w
     | .neq=>K (.bool (a !=c)) w
     | .lss=>K (.bool (decide (a<c))) w
     | .leq=>K (.bool (decide (a≤c))) w
     | .gtr=>K (.bool (decide (a>c))) w
     | .geq=>K (.bool (decide (a≥c))) w
     |_=>False
     else False
  |_,_=>False
 |some .bool=>match u,v with
  | .bool a,.bool c=>nilCmp b (a==c) w K
  |_,_=>False
 |some (.pointer _)=>match v with
  | .pointer none=>match u with
    | .pointer p=>nilCmp b p.isNone w K
    |_=>False
  |_=>semK P (.one .bool) (do eqGuard b t x y u v;binOp b t u v) w K
 |some (.slice _)=>match v with
  | .slice none 0 0=>match u with
    | .slice p _ _=>nilCmp b p.isNone w K
    |_=>False
  |_=>False
 |_=>semK P (.one .bool) (do eqGuard b t x y u v;binOp b t u v) w K
def fieldOff (P:Program) (s:TypeId) (k:Nat):Option Nat:=
 match P.underlying s with
 |some (.struct fs)=>
  match fs[k]? with
  |some f=>match P.info? f.type with
   |some i=>if i.size=0 then none else some f.offset
   |none=>none
  |none=>none
 |_=>none
def sliceElem (P:Program) (t:TypeId):Option Nat:=
 match P.underlying t with
 |some (.slice e)=> (P.info? e).map (·.size)
 |_=>none
def partK (P:Program) (t:TypeId) (cs:Array Value) (off:Nat) (K:Value→Prop):Prop:=
 match isAggT P t with
 |some true=>match P.info? t with
  |some i=>K (.agg (cs.extract off (off+i.size)))
  |none=>False
 |some false=>match cs[off]? with
  |some v=>K v
  |none=>False
 |none=>False
def fieldK (P:Program) (s:TypeId) (v:Value) (k:Nat) (K:Value→Prop):Prop:=
 match P.underlying s with
 |some (.struct fs)=>
  match fs[k]?,v with
  |some f,.agg cs=>partK P f.type cs f.offset K
  |_,_=>False
 |_=>False
def intsOf:List Value→Option (List Int)
 | []=>some []
 | .int .i64 n::l=> (intsOf l).map (n:: ·)
 |_::_=>none
def optInt (f:Fr):Option Operand→Option (Option Int)
 |none=>some none
 |some x=>match ev f x with
  | .int .i64 n=>some (some n)
  |_=>none
def cnd (b:Bool) (A B:Prop):Prop:=
 match b with
 |true=>A
 |false=>B
theorem cnd_i {b:Bool} {A B:Prop} (ha:b=true→A) (hb:b=false→B):cnd b A B:=by
 cases b
 · exact hb rfl
 · exact ha rfl
theorem cnd_t {b:Bool} {A B:Prop} (h:b=true) (ha:A):cnd b A B:=by subst h;exact ha
theorem cnd_f {b:Bool} {A B:Prop} (h:b=false) (hb:B):cnd b A B:=by subst h;exact hb
def imax (a b:Int):Int:=if b>a then b else a
def imin (a b:Int):Int:=if b<a then b else a
def evs (f:Fr):List Operand→List Value
 | []=> []
 |x::l=>ev f x::evs f l
def builtinK (P:Program) (b:Builtin) (argTypes:Array TypeId) (type:TypeId) (args:List Value) (w:World) (K:Value→World→Prop):Prop:=
 match b with
 | .len=>match args with
   | [.slice _ n _]=>match (argTypes[0]?).bind P.underlying with
     |some (.slice _)=>K (.int .i64 n) w
     |_=>False
   | [.map r]=> ∃n:Int,(Builtin.len_ argTypes type #[.map r]).run P w= .ok (.int .i64 n) w∧K (.int .i64 n) w
   |_=>False
 | .append=>semK P (.one .slice) (Builtin.append_ argTypes type args.toArray) w K
 | .copy=>semK P (.one (.int .i64)) (Builtin.copy_ argTypes type args.toArray) w K
 | .max=>match args with
   | [.int .i64 a,.int .i64 c]=>K (.int .i64 (imax a c)) w
   | [.int .i64 a,.int .i64 c,.int .i64 d]=>K (.int .i64 (imax (imax a c) d)) w
   |_=>False
 | .min=>match args with
   | [.int .i64 a,.int .i64 c]=>K (.int .i64 (imin a c)) w
   | [.int .i64 a,.int .i64 c,.int .i64 d]=>K (.int .i64 (imin (imin a c) d)) w
   |_=>False
 | .delete=> ∃w',(Builtin.delete_ argTypes type args.toArray).run P w= .ok (.tuple #[]) w'∧K (.tuple #[]) w'
 | .clear=> ∃w',(Builtin.clear_ argTypes type args.toArray).run P w= .ok (.tuple #[]) w'∧K (.tuple #[]) w'
 |_=>False
def pickK (t:Bool) (u v:Value) (K:Value→Prop):Prop:=
 match u,v with
 | .bool x,.bool y=>K (.bool (bif t then x else y))
 |u,v=>cnd t (K u) (K v)
def rowOf (size:Nat):Nat→List (Nat × Operand)→Fr→Option (List Value)
 |_,[],_=>some []
 |k,(i,x)::l,f=>bif Nat.beq i k && Nat.beq (ev f x).cells.size size then (rowOf size (k+1) l f).map fun r=> (ev f x).cells.toList++r else none
def partsOf (f:Fr):List (Nat × Operand)→List (Nat × Value)
 | []=> []
 | (i,x)::l=> (i,ev f x)::partsOf f l
def placesOf (P:Program):List Field→Option (List (Nat × Nat))
 | []=>some []
 |fd::l=>match P.info? fd.type with
  |some i=> (placesOf P l).map ((fd.offset,i.size):: ·)
  |none=>none
def buildK (P:Program) (t:TypeId) (parts:List (Nat × Value)) (K:Value→Prop):Prop:=
 match P.info? t with
 |some i=>match i.zero,P.underlying t with
  |some z,some (.struct fs)=>match placesOf P fs.toList with
   |some ps=>match Instr.fill (fun k=>ps[k]?) z.cells parts with
    |some cells=>K (.agg cells)
    |none=>False
   |none=>False
  |_,_=>False
 |none=>False
def opK (P:Program) (o:Oper) (f:Fr) (w:World) (K:Value→World→Prop):Prop:=
 match o.op with
 | .move x| .assign x=>K (ev f x) w
 | .pick c a b=>match ev f c with
   | .bool t=>pickK t (ev f a) (ev f b) fun v=>K v w
   |_=>False
 | .alloc t=>match P.info? t with
   |some i=>match i.zero with
    |some z=>newK (.cells z.cells t) w fun n w'=>K (.pointer (some ⟨n,0,none⟩)) w'
    |none=>False
   |none=>False
 | .box t x=>newK (.cells (ev f x).cells t) w fun n w'=>K (.pointer (some ⟨n,0,none⟩)) w'
 | .build t parts=>buildK P t (partsOf f parts.toList) fun v=>K v w
 | .buildSlice t len parts=>match P.underlying t with
   |some (.slice e)=>match P.info? e with
    |some i=>bif Nat.blt (len*i.size) 16777217 && Nat.beq parts.toList.length len && i.zero.isSome then
     match rowOf i.size 0 parts.toList f with
     |some cs=>newK (.cells cs.toArray e) w fun n w'=>K (.slice (some ⟨n,0,none⟩) len len) w'
     |none=>False
     else False
    |none=>False
   |_=>False
 | .load t x=>match ev f x with
   | .pointer (some a)=>ldK P t a w fun v=>K v w
   |_=>False
 | .store t x y=>match ev f x with
   | .pointer (some a)=>stK P t a (ev f y) w fun w'=>K undef w'
   |_=>False
 | .nilCheck x=>nilK (ev f x) fun v=>K v w
 | .binOp b t x y _=>binK P b t x y (ev f x) (ev f y) w K
 | .unOp u _ x=>match u,ev f x with
   | .neg,.int k n=>K (.int k (k.wrap (0 - n))) w
   | .not,.bool b=>K (.bool (!b)) w
   |_,_=>False
 | .convert src dst x=>match P.underlying src,P.underlying dst,ev f x with
   |some _,some (.int k),.int _ n=>K (.int k (k.wrap n)) w
   |_,_,_=>False
 | .makeFunc fn first captured=>K (.func fn (evs f first.toList).toArray (evs f captured.toList).toArray) w
 | .makeMap _ r=>match r with
   |none=>newK (.map #[] 0) w fun n w'=>K (.map (some n)) w'
   |some _=>False
 | .makeSlice t l c=>semK P (.one .slice) (Instr.makeSlice t (ev f l) (ev f c)) w K
 | .slice t x lo hi mx=>match ev f x,sliceElem P t,optInt f lo,optInt f hi,optInt f mx with
   | .slice p n c,some size,some l,some h,some m=>bif h.isSome||m.isNone then slK p n c size l h m fun p' n' c'=>K (.slice p' n' c') w else False
   |_,_,_,_,_=>False
 | .fieldAddr s x k=>match ev f x,fieldOff P s k with
   | .pointer (some a),some off=>K (.pointer (some (a.add off))) w
   |_,_=>False
 | .field s x k=>fieldK P s (ev f x) k fun v=>K v w
 | .indexAddr t x i=>match ev f x,sliceElem P t,ev f i with
   | .slice p n _,some size,.int _ j=>ixK p n j size fun a=>K (.pointer (some a)) w
   |_,_,_=>False
 | .index t x i=>match P.underlying t,ev f x,ev f i with
   |some .string,.string s,.int _ j=> ∃b,0≤j∧s[j.toNat]? =some b∧K (.int .u8 b.toNat) w
   |_,_,_=>False
 | .lookup t x i ok=>semT P o.type (Instr.lookup t (ev f x) (ev f i) ok) w K
 | .mapUpdate t m k x=> ∃w',(Instr.mapUpdate t (ev f m) (ev f k) (ev f x)).run P w= .ok () w'∧K undef w'
 | .insert t m k x=> ∃w',(Instr.mapUpdate t (ev f m) (ev f k) (ev f x)).run P w= .ok () w'∧K undef w'
 | .range t x=>semK P (.one .ptr) (Instr.range t (ev f x)) w K
 | .next x false=> (∃w',(Instr.next (ev f x) false o.type).run P w= .ok (.tuple #[.bool false]) w'∧K (.tuple #[.bool false]) w')∨
   (∃w',∃k v:Value,(Instr.next (ev f x) false o.type).run P w= .ok (.tuple #[.bool true,k,v]) w'∧K (.tuple #[.bool true,k,v]) w')
 | .entry x=> ∃w',∃k:Int,∃v:Value,(Instr.entry (ev f x)).run P w= .ok (.tuple #[.int .i64 k,v]) w'∧K (.tuple #[.int .i64 k,v]) w'
 | .extract x k=>match ev f x with
   | .tuple vs=>match vs[k]? with
     |some v=>K v w
     |none=>False
   |_=>False
 | .call c=>match c.callee with
   | .builtin b=>builtinK P b c.argTypes o.type (evs f c.args.toList) w K
   | .value (.func g)=>callK P g (evs f c.args.toList).toArray o.type w K
   | .value x=>match ev f x with
     | .func (.func g) first captured=>cnd (entB P g) (callK P g (first++ (evs f c.args.toList).toArray++captured) o.type w K) False
     |_=>False
   | .invoke _ _=>False
 |_=>False
def opKind (P:Program) (o:Oper):Nat:=
 match o.op with
 | .move _| .assign _| .pick _ _ _| .build _ _| .nilCheck _| .unOp _ _ _| .convert _ _ _| .makeFunc _ _ _| .slice _ _ _ _ _| .fieldAddr _ _ _
 | .field _ _ _| .indexAddr _ _ _| .index _ _ _| .extract _ _=>0
 | .binOp _ t _ y _=>match P.underlying t with
   |some (.int _)|some .bool|some (.slice _)=>0
   |some (.pointer _)=>match y with
    | .const (.pointer none)=>0
    |_=>2
   |_=>2
 | .load _ _=>1
 | .call c=>match c.callee with
   | .builtin .max| .builtin .min=>0
   | .builtin .len=>1
   |_=>2
 |_=>2
def stepO (P:Program) (ops:Array Oper) (o:Oper) (f:Fr) (w:World) (C:Fr→World→Prop):Prop:=
 match o.guard with
 |none=>opK P o f w fun v w'=>C (f.set o.dst v) w'
 |some (j,want)=>
  match (ops[j]?).bind (·.dst) with
  |none=>False
  |some t=>
   match f t with
   | .bool b=>cnd b
      (bif want then opK P o (f.set (some t) (.bool true)) w fun v w'=>C ((f.set (some t) (.bool true)).set o.dst v) w'
        else C ((f.set (some t) (.bool true)).set o.dst undef) w)
      (bif want then C ((f.set (some t) (.bool false)).set o.dst undef) w
        else opK P o (f.set (some t) (.bool false)) w fun v w'=>C ((f.set (some t) (.bool false)).set o.dst v) w')
   | .tuple _=>C (f.set o.dst undef) w
   |_=>False
def wpR (P:Program) (ops:Array Oper):List Oper→Fr→World→(Fr→World→Prop)→Prop
 | [],f,w,K=>K f w
 |o::rest,f,w,K=>stepO P ops o f w fun f' w'=>wpR P ops rest f' w' K
def hangs (B:List Nat) (o:Oper):Nat:=go o.after.toList
where go:List Edge→Nat
 | []=>0
 |e::l=>bif Region.binds .any e then 2 ^ e.on|||B.getD e.on 0|||go l else go l
def table:List Oper→List Nat→List Nat
 | [],B=>B
 |o::l,B=>table l (B++ [hangs B o])
def edgesBelow (k:Nat):List Edge→Bool
 | []=>true
 |e::l=> (!Region.binds .any e||Nat.blt e.on k) && edgesBelow k l
def rowsOk (B:List Nat):Nat→List Oper→Bool
 |_,[]=>true
 |k,o::l=>Nat.beq (B.getD k 0) (hangs B o) && edgesBelow k o.after.toList && rowsOk B (k+1) l
def kindsOk (P:Program) (x y:Oper):Bool:=
 Nat.beq (opKind P x) 0||Nat.beq (opKind P y) 0|| (Nat.beq (opKind P x) 1 && Nat.beq (opKind P y) 1)
def pairOk (P:Program) (ops:Array Oper) (x:Oper) (i:Nat) (B:List Nat):Nat→List Oper→Bool
 |_,[]=>true
 |j,y::l=> ((B.getD j 0).testBit i|| (x.apart ops y && kindsOk P x y)) && pairOk P ops x i B (j+1) l
def pairsOk (P:Program) (ops:Array Oper) (B:List Nat):Nat→List Oper→Bool
 |_,[]=>true
 |i,x::l=>pairOk P ops x i B (i+1) l && pairsOk P ops B (i+1) l
def tableOk (ops:Array Oper):Bool:=Region.noSelect ops && rowsOk (table ops.toList []) 0 ops.toList
def orderOk (P:Program) (ops:Array Oper):Bool:=tableOk ops && pairsOk P ops (table ops.toList []) 0 ops.toList
def safeAt (P:Program) (ops:Array Oper) (B:List Nat) (listed:Array Bool) (i:Nat):Bool:=
 (List.range ops.size).all fun j=>listed.getD j true||Nat.beq j i|| (B.getD j 0).testBit i||
   (match ops[i]?,ops[j]? with
    |some x,some y=>x.apart ops y && y.apart ops x && kindsOk P x y
    |_,_=>false)
def stepX (P:Program) (ops:Array Oper) (i:Nat) (f:Fr) (w:World) (C:Fr→World→Prop):Prop:=
 match ops[i]? with
 |none=>False
 |some o=>stepO P ops o f w C
def allX:List Nat→(Nat→Prop)→Prop
 | [],_=>True
 | [i],C=>C i
 |i::j::l,C=>C i∧allX (j::l) C
def wpX (P:Program) (ops:Array Oper) (B:List Nat):Nat→Array Bool→Fr→World→(Fr→World→Prop)→Prop
 |0,_,f,w,K=>K f w
 |n+1,listed,f,w,K=>
  match (Region.ready .any ops listed).find? (safeAt P ops B listed) with
  |some i=>stepX P ops i f w fun f' w'=>wpX P ops B n (listed.setIfInBounds i true) f' w' K
  |none=>allX (Region.ready .any ops listed) fun i=>stepX P ops i f w fun f' w'=>wpX P ops B n (listed.setIfInBounds i true) f' w' K
def wpDraw (P:Program) (ops:Array Oper) (f:Fr) (w:World) (K:Fr→World→Prop):Prop:=
 bif orderOk P ops then wpR P ops ops.toList f w K
 else wpX P ops (table ops.toList []) ops.size (Array.replicate ops.size false) f w K
def AtW (W:World→Prop) (a:Addr) (v:Value):Prop:= ∀u,W u→u.cell? a=some v
def CellsW (W:World→Prop) (a:Addr) (vs:List Value):Prop:= ∀u,W u→CellsAt u a 0 vs
def ldW (P:Program) (t:TypeId) (a:Addr) (W:World→Prop) (K:Value→Prop):Prop:=
 match isAggT P t with
 |some false=>exB (bkOf P t) fun v=>AtW W a v∧K v
 |some true=>match P.info? t with
  |some i=>bif Nat.beq i.size (bksOf P 10 t).length then exBs (bksOf P 10 t) fun vs=>CellsW W a vs∧K (.agg vs.toArray) else False
  |none=>False
 |none=>False
def lenW (P:Program) (argTypes:Array TypeId) (type:TypeId) (args:List Value) (W:World→Prop) (w:World) (K:Value→World→Prop):Prop:=
 match args with
 | [.slice _ n _]=>match (argTypes[0]?).bind P.underlying with
   |some (.slice _)=>K (.int .i64 n) w
   |_=>False
 | [.map r]=> ∃n:Int,(∀u,W u→(Builtin.len_ argTypes type #[.map r]).run P u= .ok (.int .i64 n) u)∧K (.int .i64 n) w
 |_=>False
def keepW (keep:Bool) (W:World→Prop) (w:World) (K:Prop):Prop:=
 match keep with
 |true=>W w∧K
 |false=>K
def opW (P:Program) (W:World→Prop) (keep:Bool) (o:Oper) (f:Fr) (w:World) (K:Value→World→Prop):Prop:=
 match o.op with
 | .load t x=>match ev f x with
   | .pointer (some a)=>ldW P t a W fun v=>K v w
   |_=>False
 | .call c=>match c.callee with
   | .builtin .len=>lenW P c.argTypes o.type (evs f c.args.toList) W w K
   | .builtin .max| .builtin .min=>opK P o f w K
   |_=>opK P o f w fun v w'=>keepW keep W w' (K v w')
 |_=>bif Nat.ble (opKind P o) 0 then opK P o f w K else opK P o f w fun v w'=>keepW keep W w' (K v w')
def stepW (P:Program) (ops:Array Oper) (W:World→Prop) (keep:Bool) (o:Oper) (f:Fr) (w:World) (C:Fr→World→Prop):Prop:=
 match o.guard with
 |none=>opW P W keep o f w fun v w'=>C (f.set o.dst v) w'
 |some (j,want)=>
  match (ops[j]?).bind (·.dst) with
  |none=>False
  |some t=>
   match f t with
   | .bool b=>cnd b
      (bif want then opW P W keep o (f.set (some t) (.bool true)) w fun v w'=>C ((f.set (some t) (.bool true)).set o.dst v) w'
        else C ((f.set (some t) (.bool true)).set o.dst undef) w)
      (bif want then C ((f.set (some t) (.bool false)).set o.dst undef) w
        else opW P W keep o (f.set (some t) (.bool false)) w fun v w'=>C ((f.set (some t) (.bool false)).set o.dst v) w')
   | .tuple _=>C (f.set o.dst undef) w
   |_=>False
def keepB (P:Program) (ops:Array Oper) (B:List Nat) (i:Nat):Bool:=
 (List.range ops.size).any fun k=> (match ops[k]? with|some o=>Nat.beq (opKind P o) 1|none=>false) && !(B.getD i 0).testBit k
def wpRW (P:Program) (ops:Array Oper) (W:World→Prop) (B:List Nat):Nat→List Oper→Fr→World→(Fr→World→Prop)→Prop
 |_,[],f,w,K=>K f w
 |k,o::rest,f,w,K=>stepW P ops W (keepB P ops B k) o f w fun f' w'=>wpRW P ops W B (k+1) rest f' w' K
def kindsOkW (P:Program) (x y:Oper):Bool:=Nat.ble (opKind P x) 1||Nat.ble (opKind P y) 1
def pairOkW (P:Program) (ops:Array Oper) (x:Oper) (i:Nat) (B:List Nat):Nat→List Oper→Bool
 |_,[]=>true
 |j,y::l=> ((B.getD j 0).testBit i|| (x.apart ops y && kindsOkW P x y)) && pairOkW P ops x i B (j+1) l
def pairsOkW (P:Program) (ops:Array Oper) (B:List Nat):Nat→List Oper→Bool
 |_,[]=>true
 |i,x::l=>pairOkW P ops x i B (i+1) l && pairsOkW P ops B (i+1) l
def orderOkW (P:Program) (ops:Array Oper):Bool:=tableOk ops && pairsOkW P ops (table ops.toList []) 0 ops.toList
def safeAtW (P:Program) (ops:Array Oper) (B:List Nat) (listed:Array Bool) (i:Nat):Bool:=
 (List.range ops.size).all fun j=>listed.getD j true||Nat.beq j i|| (B.getD j 0).testBit i||
   (match ops[i]?,ops[j]? with
    |some x,some y=>x.apart ops y && y.apart ops x && kindsOkW P x y
    |_,_=>false)
def stepXW (P:Program) (ops:Array Oper) (W:World→Prop) (B:List Nat) (i:Nat) (f:Fr) (w:World) (C:Fr→World→Prop):Prop:=
 match ops[i]? with
 |none=>False
 |some o=>stepW P ops W (keepB P ops B i) o f w C
def wpXW (P:Program) (ops:Array Oper) (W:World→Prop) (B:List Nat):Nat→Array Bool→Fr→World→(Fr→World→Prop)→Prop
 |0,_,f,w,K=>K f w
 |n+1,listed,f,w,K=>
  match (Region.ready .any ops listed).find? (safeAtW P ops B listed) with
  |some i=>stepXW P ops W B i f w fun f' w'=>wpXW P ops W B n (listed.setIfInBounds i true) f' w' K
  |none=>allX (Region.ready .any ops listed) fun i=>stepXW P ops W B i f w fun f' w'=>wpXW P ops W B n (listed.setIfInBounds i true) f' w' K
def wpDrawW (P:Program) (ops:Array Oper) (f:Fr) (w:World) (K:Fr→World→Prop):Prop:=
 ∃W:World→Prop,W w∧
 bif orderOkW P ops then wpRW P ops W (table ops.toList []) 0 ops.toList f w K
 else wpXW P ops W (table ops.toList []) ops.size (Array.replicate ops.size false) f w K
def CurB:Bk→Type→Type
 | .int _,R=>Int→R
 | .bool,R=>Bool→R
 | .str,R=>ByteArray→R
 | .ptr,R=>Option Addr→R
 | .slice,R=>Option Addr→Nat→Nat→R
 | .map,R=>Option Nat→R
 | .any,R=>Value→R
 | .addr,R=>Addr→R
 | .fn,R=>FuncId→Array Value→R
def CurBs:List Bk→Type→Type
 | [],R=>R
 |b::l,R=>CurB b (CurBs l R)
def CurV:Vk→Type→Type
 | .one b,R=>CurB b R
 | .agg l,R=>CurBs l R
def CurVs:List Vk→Type→Type
 | [],R=>R
 |k::l,R=>CurV k (CurVs l R)
def appB {R:Type}:(b:Bk)→CurB b R→Value→(R→Prop)→Prop
 | .int k,I,v,C=>match v with
   | .int k' n=>bif k==k' then C (I n) else False
   |_=>False
 | .bool,I,v,C=>match v with
   | .bool n=>C (I n)
   |_=>False
 | .str,I,v,C=>match v with
   | .string n=>C (I n)
   |_=>False
 | .ptr,I,v,C=>match v with
   | .pointer n=>C (I n)
   |_=>False
 | .slice,I,v,C=>match v with
   | .slice p n c=>C (I p n c)
   |_=>False
 | .map,I,v,C=>match v with
   | .map n=>C (I n)
   |_=>False
 | .any,I,v,C=>C (I v)
 | .addr,I,v,C=>match v with
   | .pointer (some a)=>C (I a)
   |_=>False
 | .fn,I,v,C=>match v with
   | .func (.func g) ⟨[]⟩ c=>C (I g c)
   |_=>False
def appBs {R:Type}:(l:List Bk)→CurBs l R→List Value→(R→Prop)→Prop
 | [],I,vs,C=>match vs with
   | []=>C I
   |_::_=>False
 |b::l,I,vs,C=>match vs with
  | []=>False
  |v::vs=>appB b I v fun I'=>appBs l I' vs C
def appV {R:Type}:(k:Vk)→CurV k R→Value→(R→Prop)→Prop
 | .one b,I,v,C=>appB b I v C
 | .agg l,I,v,C=>match v with
   | .agg cs=>appBs l I cs.toList C
   |_=>False
def appVs {R:Type}:(l:List Vk)→CurVs l R→List Value→(R→Prop)→Prop
 | [],I,vs,C=>match vs with
   | []=>C I
   |_::_=>False
 |k::l,I,vs,C=>match vs with
  | []=>False
  |v::vs=>appV k I v fun I'=>appVs l I' vs C
def faB {R:Type}:(b:Bk)→CurB b R→(Value→R→Prop)→Prop
 | .int k,I,C=> ∀n:Int,C (.int k n) (I n)
 | .bool,I,C=> ∀b:Bool,C (.bool b) (I b)
 | .str,I,C=> ∀s:ByteArray,C (.string s) (I s)
 | .ptr,I,C=> ∀p:Option Addr,C (.pointer p) (I p)
 | .slice,I,C=> ∀ (p:Option Addr) (n c:Nat),C (.slice p n c) (I p n c)
 | .map,I,C=> ∀r:Option Nat,C (.map r) (I r)
 | .any,I,C=> ∀v:Value,C v (I v)
 | .addr,I,C=> ∀a:Addr,C (.pointer (some a)) (I a)
 | .fn,I,C=> ∀ (g:FuncId) (c:Array Value),C (.func (.func g) #[] c) (I g c)
def faBs {R:Type}:(l:List Bk)→CurBs l R→(List Value→R→Prop)→Prop
 | [],I,C=>C [] I
 |b::l,I,C=>faB b I fun v I'=>faBs l I' fun vs r=>C (v::vs) r
def faV {R:Type}:(k:Vk)→CurV k R→(Value→R→Prop)→Prop
 | .one b,I,C=>faB b I C
 | .agg l,I,C=>faBs l I fun vs r=>C (.agg vs.toArray) r
def faVs {R:Type}:(l:List Vk)→CurVs l R→(List Value→R→Prop)→Prop
 | [],I,C=>C [] I
 |k::l,I,C=>faV k I fun v I'=>faVs l I' fun vs r=>C (v::vs) r
theorem appB_fa {R:Type} {b:Bk} {I:CurB b R} {v:Value} {C:R→Prop} {D:Value→R→Prop} (h:appB b I v C) (g:faB b I D): ∃r,C r∧D v r:=by
 cases b<;>simp only [appB] at h<;>simp only [faB] at g
 case int k=>
  split at h
  · rename_i k' n
    cases hk:k==k'
    · simp [hk] at h
    · rw [hk] at h;obtain rfl:=eq_of_beq hk;exact ⟨_,h,g n⟩
  · exact h.elim
 case any=>exact ⟨_,h,g v⟩
 case slice=>
  split at h
  · exact ⟨_,h,g _ _ _⟩
  · exact h.elim
 case fn=>
  split at h
  · exact ⟨_,h,g _ _⟩
  · exact h.elim
 all_goals
  split at h
  · exact ⟨_,h,g _⟩
  · exact h.elim
theorem appBs_fa {R:Type} (l:List Bk): ∀ {I:CurBs l R} {vs:List Value} {C:R→Prop} {D:List Value→R→Prop},appBs l I vs C→faBs l I D→∃r,C r∧D vs r:=by
 induction l with
 |nil=>
  intro I vs C D h g
  cases vs with
  |nil=>exact ⟨_,h,g⟩
  |cons=>exact h.elim
 |cons b l ih=>
  intro I vs C D h g
  cases vs with
  |nil=>exact h.elim
  |cons v vs=>
   obtain ⟨_,h',g'⟩:=appB_fa h g
   exact ih (D:=fun vs r=>D (v::vs) r) h' g'
theorem appV_fa {R:Type} {k:Vk} {I:CurV k R} {v:Value} {C:R→Prop} {D:Value→R→Prop} (h:appV k I v C) (g:faV k I D): ∃r,C r∧D v r:=by
 cases k with
 |one b=>exact appB_fa h g
 |agg l=>
  simp only [appV] at h
  split at h
  · rename_i cs
    obtain ⟨r,hc,hd⟩:=appBs_fa l h g
    exact ⟨r,hc,by simpa using hd⟩
  · exact h.elim
theorem appVs_fa {R:Type} (l:List Vk): ∀ {I:CurVs l R} {vs:List Value} {C:R→Prop} {D:List Value→R→Prop},appVs l I vs C→faVs l I D→∃r,C r∧D vs r:=by
 induction l with
 |nil=>
  intro I vs C D h g
  cases vs with
  |nil=>exact ⟨_,h,g⟩
  |cons=>exact h.elim
 |cons b l ih=>
  intro I vs C D h g
  cases vs with
  |nil=>exact h.elim
  |cons v vs=>
   obtain ⟨_,h',g'⟩:=appV_fa h g
   exact ih (D:=fun vs r=>D (v::vs) r) h' g'
def dsts:Code→List (Nat × TypeId)
 | .region _ ops _=>ops.toList.filterMap fun o=>o.dst.map fun d=> (d,o.type)
 | .seq a b=>dsts a++dsts b
 | .cond _ a b=>dsts a++dsts b
 | .block _ c| .loop c| .scope c=>dsts c
 |_=> []
def typeAt:List (Nat × TypeId)→Nat→Option TypeId
 | [],_=>none
 | (d,t)::l,i=>bif Nat.beq d i then some t else typeAt l i
def look:List (Nat × TypeId)→List Value→Nat→Option Value
 | (a,_)::as,v::vs,i=>bif Nat.beq i a then some v else look as vs i
 |_,_,_=>none
def mkFr (c:Code) (as:List (Nat × TypeId)) (vs:List Value) (f g:Fr):Fr:=fun i=>
 match look as vs i with
 |some v=>v
 |none=>bif (typeAt (dsts c) i).isNone then f i else g i
def valsOf (f:Fr):List (Nat × TypeId)→List Value
 | []=> []
 | (a,_)::l=>f a::valsOf f l
def kindsOf (P:Program):List (Nat × TypeId)→List Vk
 | []=> []
 | (_,t)::l=> (bif Nat.beq t 1000000 then .one .addr else vkOf P t)::kindsOf P l
inductive Ann where
 |leaf
 |two (a b:Ann)
 |cut (as:List (Nat × TypeId)) (a b:Ann)
 |one (a:Ann)
 |loop (as:List (Nat × TypeId)) (a:Ann)
 |draw
def Ann.fst:Ann→Ann
 | .two a _| .cut _ a _| .one a| .loop _ a=>a
 |_=> .leaf
def Ann.snd:Ann→Ann
 | .two _ b| .cut _ _ b=>b
 |_=> .leaf
def Ann.cuts:Ann→Option (List (Nat × TypeId))
 | .cut as _ _=>some as
 |_=>none
def Ann.told:Ann→List (Nat × TypeId)
 | .loop as _=>as
 |_=> []
def Ann.drawn:Ann→Bool
 | .draw=>true
 |_=>false
abbrev Post:=Exit→Fr→World→Prop
def wpC (P:Program):Code→Ann→Fr→World→Post→Prop
 | .skip,_,f,w,Q=>Q .normal f w
 | .label _,_,f,w,Q=>Q .normal f w
 | .region _ ops draw,n,f,w,Q=>bif draw then (bif n.drawn then wpDrawW P ops f w.drew fun f' w'=>Q .normal f' w' else wpDraw P ops f w.drew fun f' w'=>Q .normal f' w') else wpR P ops ops.toList f w fun f' w'=>Q .normal f' w'
 | .seq a b,n,f,w,Q=>
   match n.cuts with
   |some as=>
    ∃J:CurVs (kindsOf P as) (World→Prop),
     wpC P a n.fst f w (fun e f' w'=>match e with
      | .normal=>appVs (kindsOf P as) J (valsOf f' as) fun r=>r w'
      |e=>Q e f' w')∧
     faVs (kindsOf P as) J fun vs r=> ∀ (w:World) (g:Fr),r w→wpC P b n.snd (mkFr a as vs f g) w Q
   |none=>wpC P a n.fst f w fun e f' w'=>match e with
    | .normal=>wpC P b n.snd f' w' Q
    |e=>Q e f' w'
 | .cond c a b,n,f,w,Q=>match ev f c with
   | .bool t=>cnd t (wpC P a n.fst f w Q) (wpC P b n.snd f w Q)
   |_=>False
 | .block id c,n,f,w,Q=>wpC P c n.fst f w fun e f' w'=>match e with
   | .exit i=>bif Nat.beq i id then Q .normal f' w' else Q (.exit i) f' w'
   |e=>Q e f' w'
 | .scope c,n,f,w,Q=>wpC P c n.fst f w fun e f' w'=>match e with
   | .goto _=>False
   |e=>Q e f' w'
 | .loop c,n,f,w,Q=>
   ∃I:CurVs (kindsOf P n.told) (World→Nat→Prop),
    (appVs (kindsOf P n.told) I (valsOf f n.told) fun r=> ∃k,r w k)∧
    faVs (kindsOf P n.told) I fun vs r=> ∀ (w:World) (k:Nat) (g:Fr),r w k→
     wpC P c n.fst (mkFr c n.told vs f g) w fun e f' w'=>match e with
      | .normal=>appVs (kindsOf P n.told) I (valsOf f' n.told) fun r=> ∃k',k'<k∧r w' k'
      |e=>Q e f' w'
 | .exit id,_,f,w,Q=>Q (.exit id) f w
 | .ret,_,f,w,Q=>Q .ret f w
 |_,_,_,_,_=>False
def resK (P:Program) (rs:List ResultVar) (f:Fr) (w:World) (K:List Value→Prop):Prop:=
 match rs with
 | []=>K []
 | .tmp t::l=>resK P l f w fun vs=>K (f t::vs)
 | .cell a t::l=>match f a with
   | .pointer (some p)=>ldK P t p w fun v=>resK P l f w fun vs=>K (v::vs)
   |_=>False
def tupOf:List Value→Value
 | [v]=>v
 |vs=> .tuple vs.toArray
def argFr:List Value→Fr
 | [],_=>undef
 |v::_,0=>v
 |_::vs,i+1=>argFr vs i
def wpF (P:Program) (fn:Func) (n:Ann) (args:List Value) (w:World) (K:Value→World→Prop):Prop:=
 match fn.body with
 |none=>False
 |some c=>wpC P c n (argFr args) w fun e f w'=>match e with
  | .normal| .ret=>resK P fn.results.toList f w' fun vs=>K (tupOf vs) w'
  |_=>False
end Go.Fw
