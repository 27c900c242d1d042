/- The frame of the proofs: a weakest precondition over the loaded text that the kernel itself can reckon, and its soundness. -/
import Derived.Orders
import Derived.Scope
import Derived.KernelRfl
import Derived.Laws.World
import Derived.Laws.Sem
set_option linter.defProp false
namespace Go
def tn:=@Int.toNat_natCast
def ts:=@Bool.and_eq_true
def vx:=@Nat.zero_le
def vy:=@List.mem_cons_of_mem
def y4:=@Nat.le_refl
def y6:=@List.getD_eq_getElem?_getD
def Bs:=@List.mem_singleton
def F':=@List.mem_append
def GD:=@List.length_take
def I':=@List.mem_iff_getElem
def K':=@List.take_length
def LV:=@List.map_append
def L0:=@List.mem_map
def Mb:=@List.getElem?_eq_getElem
def UF:=@List.eq_nil_of_length_eq_zero
def UG:=@Nat.eq_of_beq_eq_true
def UH:=@List.length_append
def UI:=@List.mem_cons
def UJ:=@List.mem_cons_self
def UK:=@List.all_eq_true
def UL:=@List.length_map
def UM:=@List.take_of_length_le
def UN:=@List.mem_of_mem_take
def UO:=@List.take_append_of_le_length
def UP:=@Classical.byContradiction
def UQ:=@Array.getElem?_eq_none
def UR:=@List.take_add_one
def US:=@Option.getD_some
def UT:=@List.getElem?_append_left
def UU:=@Nat.lt_or_ge
def UW:=@List.mem_append_left
def UX:=@Nat.zero_add
def UY:=@Nat.le_trans
def UZ:=@Nat.eq_zero_or_pos
def U0:=@List.length_drop
def U1:=@List.mem_map_of_mem
def U2:=@List.pairwise_iff_getElem
def U3:=@Int.le_refl
def U4:=@Option.some.injEq
def U5:=@Bool.not_eq_true
def U6:=@List.append_assoc
def U7:=@Nat.min_eq_left
def U8:=@List.mem_filter
def U9:=@List.length_cons
def U_:=@Int.neg_neg
def Va:=@List.length_singleton
def Vb:=@List.length_pos_iff
def Vc:=@Ne.symm
def Vd:=@Nat.pow_le_pow_right
def Ve:=@Nat.sub_zero
def Vf:=@List.getElem?_take
def Vg:=@List.getElem?_eq_some_iff
def Vh:=@List.nil_append
def Vi:=@List.take_append_drop
def Vj:=@List.mem_range
def Vl:=@List.map_congr_left
def Vm:=@Nat.mul_le_mul_right
def Vn:=@List.Nodup.length_le_of_subset
def Vo:=@Option.some.inj
def Vp:=@List.getElem?_cons_succ
def Vq:=@List.countP_cons
def Vs:=@List.length_filter_le
def Vt:=@List.mem_append_right
def Vx:=@List.getElem?_map
def Vy:=@List.map_cons
def Vz:=@List.getElem?_eq_none
def VA:=@Array.getElem?_eq_some_iff
def VB:=@Array.getElem?_append_left
def VC:=@List.getElem?_set
def VD:=@Nat.lt_of_lt_of_le
def VE:=@List.length_nil
def VF:=@List.append_nil
def VG:=@Nat.two_pow_pos
def VH:=@List.ext_getElem
def VI:=@List.any_eq_true
def VJ:=@Option.isSome_iff_exists
def VK:=@List.countP_le_length
def VL:=@Bool.true_and
def VM:=@Bool.or_eq_true
def VN:=@List.drop_eq_getElem_cons
def VO:=@List.ext_getElem?
def VP:=@List.length_range
def VQ:=@List.nodup_append
def VS:=@Bool.and_false
def VT:=@List.length_set
def VU:=@List.map_map
def VV:=@Nat.add_sub_cancel
def VW:=@Bool.false_eq_true
def VX:=@List.getElem?_drop
def VY:=@List.countP_append
def VZ:=@List.pairwise_cons
def V6:=@List.drop_length
def V8:=@Option.bind_some
def V9:=@List.getElem_inj
def V_:=@List.getElem_mem
def V':=@Nat.add_mul
def Wa:=@List.getElem_map
def Wb:=@List.size_toArray
def Wc:=@Bool.not_eq_true'
def Wd:=@Array.toList_setIfInBounds
def We:=@List.getElem?_append_right
def Wg:=@Int.tdiv_eq_ediv_of_nonneg
def Wh:=@List.getElem_take
def Wi:=@Int.toNat_of_nonneg
def Wj:=@Option.map_some
def Wl:=@List.foldl_cons
def Wm:=@Bool.eq_iff_iff
def Wn:=@Array.getElem?_setIfInBounds_ne
def Wo:=@Array.getElem?_eq_getElem
def Wp:=@Array.mapM_eq_mapM_toList
def Wq:=@Option.toList_some
def Wr:=@List.Pairwise.imp_of_mem
def Ws:=@Nat.add_zero
def Wt:=@Nat.mul_one
def Wu:=@List.take_take
def Wv:=@List.pairwise_map
def Ww:=@List.getElem?_cons_zero
def Wx:=@List.filter_cons_of_pos
def Wy:=@List.filter_cons_of_neg
def Wz:=@List.flatMap_cons
def WA:=@List.range_succ
def WB:=@Array.length_toList
def WC:=@Nat.mul_le_mul_left
def WD:=@List.countP_eq_zero
def WE:=@List.flatMap_append
def WG:=@List.length_pos_of_mem
def WH:=@Option.map_eq_some_iff
def WI:=@Array.getD_eq_getD_getElem?
def WJ:=@Array.getElem?_append_right
def WK:=@Iff.rfl
def WL:=@Nat.add_assoc
def WM:=@Nat.one_mul
def WN:=@List.cons_append
def WO:=@List.not_mem_nil
def WQ:=@List.filter_cons
def WR:=@Int.fdiv_eq_ediv_of_nonneg
def WS:=@List.filter_append
def WT:=@List.map_singleton
def WU:=@List.mem_take_iff_getElem
def WV:=@List.nodup_cons
def WW:=@Nat.not_lt_zero
def WX:=@List.map_take
def WY:=@Array.getElem?_replicate
def WZ:=@Bool.and_true
def W2:=@List.filter_eq_self
def W4:=@Option.bind_eq_some_iff
def W5:=@List.drop_zero
def W6:=@List.sublist_cons_self
def W7:=@List.filter_eq_nil_iff
def W9:=@List.drop_of_length_le
def W_:=@List.countP_eq_length_filter
def Xa:=@List.countP_mono_left
def Xb:=@Array.getElem?_toList
def Xc:=@Classical.choose_spec
def Xd:=@List.Sublist.refl
def Xe:=@Nat.lt_trichotomy
def Xf:=@Bool.false_and
def Xg:=@Array.mem_toList_iff
def Xh:=@List.mem_of_mem_drop
def Xi:=@List.pairwise_append
def Xj:=@List.Pairwise.filter
def Xk:=@List.Perm.refl
def Xl:=@List.getElem?_append
def Xm:=@Option.getD_none
def Xn:=@List.mem_of_find?_eq_some
def Xo:=@List.take_succ_cons
def Xp:=@List.Sublist.append
def Xq:=@List.all_cons
def Xr:=@Bool.false_or
def Xt:=@Array.getElem?_push_size
def Xu:=@List.find?_some
def Xv:=@List.all_append
def Xw:=@List.set_cons_succ
def Xx:=@Prod.mk.inj
def Xy:=@Nat.le_mul_of_pos_right
def Xz:=@Nat.mul_div_cancel_left
def XA:=@Nat.add_comm
def XB:=@Nat.mul_comm
def XC:=@List.getElem_drop
def XD:=@List.foldl_append
def XE:=@Nat.mul_left_comm
def XF:=@Classical.em
def XG:=@List.drop_eq_nil_of_le
def XH:=@Array.getElem?_modify
def XI:=@Nat.le_of_ble_eq_true
def XJ:=@Array.mem_of_getElem?
def XK:=@List.filter_replicate
def XL:=@List.range'_succ
def XM:=@Prod.mk.injEq
def XN:=@List.range_eq_range'
def XO:=@List.mem_of_getElem?
def XP:=@List.exists_mem_of_length_pos
def XQ:=@List.drop_append_of_le_length
def XR:=@Int.natCast_mul
def XS:=@List.filter_nil
def XT:=@List.filter_sublist
def XU:=@Nat.pow_succ
def XV:=@Nat.succ_mul
def XW:=@Nat.beq_refl
def XX:=@Int.lt_or_le
def XY:=@List.mapM_cons
def XZ:=@Int.tmod_eq_emod_of_nonneg
def X0:=@List.getElem_range
def X2:=@Bool.not_eq_false'
def X3:=@List.isEmpty_eq_false_iff
def X4:=@Int.lt_trichotomy
def X5:=@Bool.and_self
def X6:=@Bool.or_false
def X7:=@Array.setIfInBounds_comm
def X8:=@List.any_cons
def X9:=@List.mem_reverse
def X_:=@List.take_append
def X':=@List.map_nil
def Ya:=@Nat.sub_self
def Yb:=@Nat.zero_mul
def Yc:=@List.countP_nil
def Yd:=@Bool.not_false
def Ye:=@List.drop_drop
def Yf:=@Nat.mul_le_mul
def Yg:=@List.take_zero
def Yh:=@List.take_set
end Go
namespace Go
abbrev sn:=Option Addr
abbrev qw (n:Nat):Addr:=.mk n 0 none
abbrev sT:=Value.int .i64
abbrev Value.i (x:Int):Value:=.int .i64 x
end Go
namespace Go.Fw
open Go
abbrev Fr:=Nat->Value
def Fr.set (f:Fr) (d:Option Nat) (v:Value):Fr:=
 match d with
 |none=>f
 |some j=>λi=>bif Nat.beq i j then v else f i
def ev (f:Fr):Operand->Value
 | .tmp t=>f t
 | .const v=>v
 | .global g=> .pointer (some ⟨g,0,none⟩)
 | .func g=> .func (.func g) #[] #[]
inductive Bk where
 |int (k:IntKind)|bool|str|ptr|slice|map|any|Mc|fn
def Kc:Bk->(Value->Prop)->Prop
 | .int k,C=>∃n:Int,C (.int k n)
 | .bool,C=>∃b:Bool,C (.bool b)
 | .str,C=>∃s:ByteArray,C (.string s)
 | .ptr,C=>∃p:Option Addr,C (.pointer p)
 | .slice,C=>∃ (p:Option Addr) (n c:Nat),C (.slice p n c)
 | .map,C=>∃r:Option Nat,C (.map r)
 | .any,C=>∃v:Value,C v
 | .Mc,C=>∃a:Addr,C (.pointer (some a))
 | .fn,C=>∃ (g:FuncId) (c:Array Value),C (.func (.func g) #[] c)
def AZ:List Bk->(List Value->Prop)->Prop
 | [],C=>C []
 |b::l,C=>Kc b λv=>AZ l λvs=>C (v::vs)
inductive Vk where
 |bJ (b:Bk)
 |agg (l:List Bk)
def TL:Vk->(Value->Prop)->Prop
 | .bJ b,C=>Kc b C
 | .agg l,C=>AZ l λvs=>C (.agg vs.toArray)
def RN:List Vk->(List Value->Prop)->Prop
 | [],C=>C []
 |b::l,C=>TL b λv=>RN l λvs=>C (v::vs)
theorem uU {b:Bk} {C:Value->Prop} (h:Kc b C):∃v,C v:=by
 cases b<;>simp only [Kc] at h
 case slice=>obtain ⟨p,n,c,h⟩:=h;exact ⟨_,h⟩
 case fn=>obtain ⟨p,c,h⟩:=h;exact ⟨_,h⟩
 all_goals (obtain ⟨x,h⟩:=h;exact ⟨_,h⟩)
theorem Ca:∀ {l:List Bk} {C:List Value->Prop},AZ l C->∃vs,C vs
 | [],_,h=>⟨[],h⟩
 |_::_,_,h=>let ⟨v,h⟩:=uU h;let ⟨vs,h⟩:=Ca h;⟨v::vs,h⟩
theorem zN {b:Vk} {C:Value->Prop} (h:TL b C):∃v,C v:=by
 cases b with
 |bJ b=>exact uU h
 |agg l=>obtain ⟨vs,h⟩:=Ca h;exact ⟨_,h⟩
theorem BG:∀ {l:List Vk} {C:List Value->Prop},RN l C->∃vs,C vs
 | [],_,h=>⟨[],h⟩
 |_::_,_,h=>let ⟨v,h⟩:=zN h;let ⟨vs,h⟩:=BG h;⟨v::vs,h⟩
def OC (P:Program) (t:TypeId):Bk:=
 match P.underlying t with
 |some (.int k)=> .int k
 |some .bool=> .bool
 |some .string=> .str
 |some (.pointer _)=> .ptr
 |some (.slice _)=> .slice
 |some (.map _ _)=> .map
 |some (.func ..)=> .fn
 |_=> .any
def uE (P:Program):Nat->TypeId->List Bk
 |0,_=> []
 |n+1,t=>
  match P.underlying t with
  |some (.struct I)=>I.toList.flatMap λf=>uE P n f.type
  |_=> [OC P t]
def QW (P:Program) (t:TypeId):Vk:=
 match P.underlying t with
 |some (.struct _)=> .agg (uE P 10 t)
 |_=> .bJ (OC P t)
def aK (w:World) (a:Addr):Nat->List Value->Prop
 |_,[]=>True
 |i,v::vs=>w.cell? (a.add i)=some v/\aK w a (i+1) vs
def km:Value->Bool
 | .agg _| .tuple _=>false
 |_=>true
def bB (a:Addr):Nat->List Value->World->World->Prop
 |_,[],w,w'=>w'=w
 |i,v::vs,w,w'=> (∃u,w.cell? (a.add i)=some u)/\w.frozen? (a.add i)=false/\km v=true/\bB a (i+1) vs (w.setCell (a.add i) v) w'
structure jI (o:Obj) (w:World) (n:Nat) (w':World):Prop where
 num:n=w.heap.size
 eq:w'=w.alloc o
def Ly (o:Obj) (w:World) (K:Nat->World->Prop):Prop:=∀ (n:Nat) (w':World),jI o w n w'->K n w'
theorem qt {o:Obj} {w:World} {K:Nat->World->Prop} (h:Ly o w K):K w.heap.size (w.alloc o):=h _ _ ⟨rfl,rfl⟩
def wh (P:Program) (t:TypeId):Option Bool:=
 match P.underlying t with
 |some (.struct _)|some (.array _ _)=>some true
 |some _=>some false
 |none=>none
def RD (P:Program) (t:TypeId) (a:Addr) (w:World) (K:Value->Prop):Prop:=
 match wh P t with
 |some false=>Kc (OC P t) λv=>w.cell? a=some v/\K v
 |some true=>match P.info? t with
  |some i=>bif Nat.beq i.size (uE P 10 t).length then AZ (uE P 10 t) λvs=>aK w a 0 vs/\K (.agg vs.toArray) else False
  |none=>False
 |none=>False
def Ug (P:Program) (t:TypeId) (a:Addr) (v:Value) (w:World) (K:World->Prop):Prop:=
 match P.info? t with
 |some i=>bif Nat.beq v.cells.size i.size then
   match v with
   | .agg cs=>∃w',bB a 0 cs.toList w w'/\K w'
   | .tuple _=>False
   |v=>∃w',bB a 0 [v] w w'/\K w'
   else False
 |none=>False
def GX (P:Program) (k:Vk) (s:Sem Value) (w:World) (K:Value->World->Prop):Prop:=
 ∃w',TL k λv=>s.run P w=.ok v w'/\K v w'
def TM (P:Program) (t:TypeId) (K:Value->Prop):Prop:=
 match P.underlying t with
 |some (.tuple I)=>RN (I.toList.map (QW P)) λvs=>K (.tuple vs.toArray)
 |_=>TL (QW P t) K
theorem D9 {P:Program} {t:TypeId} {K:Value->Prop} (h:TM P t K):∃v,K v:=by
 unfold TM at h;split at h
 . obtain ⟨vs,h⟩:=BG h;exact ⟨_,h⟩
 . exact zN h
def Tx (P:Program) (t:TypeId) (s:Sem Value) (w:World) (K:Value->World->Prop):Prop:=
 ∃w',TM P t λv=>s.run P w=.ok v w'/\K v w'
def Ks (P:Program) (f:FuncId) (args:Array Value) (t:TypeId) (w:World) (K:Value->World->Prop):Prop:=
 Calls P f args w λe w'=>TM P t λv=>e=.returned v/\K v w'
def gH (P:Program) (f:FuncId):Bool:=
 match P.funcs[f]? with
 |some fn=>fn.body.isSome && fn.name != "runtime.NumGoroutine"
 |none=>false
def SN (v:Value) (K:Value->Prop):Prop:=
 match v with
 | .pointer p=>∃a,p=some a/\K (.pointer (some a))
 | .func (.func g) x y=>K (.func (.func g) x y)
 |_=>False
def aW (p:Option Addr) (n:Nat) (i:Int) (size:Nat) (K:Addr->Prop):Prop:=
 ∃a,p=some a/\0<=i/\i<n/\K (a.add (i.toNat*size))
def pw (p:Option Addr) (n c size:Nat) (lo hi mx:Option Int) (K:Option Addr->Nat->Nat->Prop):Prop:=
 ∃l h m:Nat,mx.getD (c:Int)=(m:Int)/\hi.getD (n:Int)=(h:Int)/\lo.getD 0=(l:Int)/\m<=c/\h<=m/\l<=h/\
  K (if m=l then p else p.map (·.add (l*size))) (h - l) (m - l)
def zc (b:BinOp) (isNil:Bool) (w:World) (K:Value->World->Prop):Prop:=
 match b with
 | .eql=>K (.bool isNil) w
 | .neq=>K (.bool (!isNil)) w
 |_=>False
def Ra (P:Program) (b:BinOp) (t:TypeId) (x y:Operand) (u v:Value) (w:World) (K:Value->World->Prop):Prop:=
 match P.underlying t with
 |some (.int _)=>match u,v with
  | .int k a,.int I c=>
    match b with
    | .shl=>0<=c/\K (.int k (k.wrap (a*2 ^ (min c.toNat k.bits)))) w
    | .shr=>0<=c/\K (.int k (a.fdiv (2 ^ (min c.toNat k.bits)))) w
    |_=>bif k==I then
     match b with
     | .add=>K (.int k (k.wrap (a+c))) w
     | .sub=>K (.int k (k.wrap (a - c))) w
     | .mul=>K (.int k (k.wrap (a*c))) w
     | .quo=>c≠0/\K (.int k (k.wrap (a.tdiv c))) w
     | .rem=>c≠0/\K (.int k (a.tmod c)) w
     | .and=>K (.int k (k.wrap (BitVec.ofInt k.bits a &&& BitVec.ofInt k.bits c).toNat)) w
     | .or=>K (.int k (k.wrap (BitVec.ofInt k.bits a|||BitVec.ofInt k.bits c).toNat)) w
     | .xor=>K (.int k (k.wrap (BitVec.ofInt k.bits a ^^^ BitVec.ofInt k.bits c).toNat)) w
     | .andNot=>K (.int k (k.wrap (BitVec.ofInt k.bits a &&& ~~~ BitVec.ofInt k.bits c).toNat)) w
     | .eql=>K (.bool (a==c)) w
     | .neq=>K (.bool (a !=c)) w
     | .lss=>K (.bool (decide (a<c))) w
     | .leq=>K (.bool (decide (a<=c))) w
     | .gtr=>K (.bool (decide (a>c))) w
     | .geq=>K (.bool (decide (a>=c))) w
     |_=>False
     else False
  |_,_=>False
 |some .bool=>match u,v with
  | .bool a,.bool c=>zc b (a==c) w K
  |_,_=>False
 |some (.pointer _)=>match v with
  | .pointer none=>match u with
    | .pointer p=>zc b p.isNone w K
    |_=>False
  |_=>GX P (.bJ .bool) (do eqGuard b t x y u v;binOp b t u v) w K
 |some (.slice _)=>match v with
  | .slice none 0 0=>match u with
    | .slice p _ _=>zc b p.isNone w K
    |_=>False
  |_=>False
 |_=>GX P (.bJ .bool) (do eqGuard b t x y u v;binOp b t u v) w K
def zC (P:Program) (s:TypeId) (k:Nat):Option Nat:=
 match P.underlying s with
 |some (.struct I)=>
  match I[k]? with
  |some f=>match P.info? f.type with
   |some i=>if i.size=0 then none else some f.offset
   |none=>none
  |none=>none
 |_=>none
def nP (P:Program) (t:TypeId):Option Nat:=
 match P.underlying t with
 |some (.slice e)=> (P.info? e).map (·.size)
 |_=>none
def LG (P:Program) (t:TypeId) (cs:Array Value) (off:Nat) (K:Value->Prop):Prop:=
 match wh P t with
 |some true=>match P.info? t with
  |some i=>K (.agg (cs.extract off (off+i.size)))
  |none=>False
 |some false=>match cs[off]? with
  |some v=>K v
  |none=>False
 |none=>False
def F4 (P:Program) (s:TypeId) (v:Value) (k:Nat) (K:Value->Prop):Prop:=
 match P.underlying s with
 |some (.struct I)=>
  match I[k]?,v with
  |some f,.agg cs=>LG P f.type cs f.offset K
  |_,_=>False
 |_=>False
def Rj:List Value->Option (List Int)
 | []=>some []
 | .int .i64 n::l=> (Rj l).map (n:: ·)
 |_::_=>none
def zk (f:Fr):Option Operand->Option (Option Int)
 |none=>some none
 |some x=>match ev f x with
  | .int .i64 n=>some (some n)
  |_=>none
def aF (b:Bool) (A B:Prop):Prop:=
 match b with
 |true=>A
 |false=>B
theorem ah {b:Bool} {A B:Prop} (ha:b=true->A) (hb:b=false->B):aF b A B:=by
 cases b
 . exact hb rfl
 . exact ha rfl
theorem bP {b:Bool} {A B:Prop} (h:b=true) (ha:A):aF b A B:=by subst h;exact ha
theorem bA {b:Bool} {A B:Prop} (h:b=false) (hb:B):aF b A B:=by subst h;exact hb
def imax (a b:Int):Int:=if b>a then b else a
def mN (a b:Int):Int:=if b<a then b else a
def DF (f:Fr):List Operand->List Value
 | []=> []
 |x::l=>ev f x::DF f l
def vF (P:Program) (b:Builtin) (argTypes:Array TypeId) (type:TypeId) (args:List Value) (w:World) (K:Value->World->Prop):Prop:=
 match b with
 | .len=>match args with
   | [.slice _ n _]=>match (argTypes[0]?).bind P.underlying with
     |some (.slice _)=>K (.int .i64 n) w
     |_=>False
   | [.map r]=>∃n:Int,(Builtin.len_ argTypes type #[.map r]).run P w=.ok (.int .i64 n) w/\K (.int .i64 n) w
   |_=>False
 | .append=>GX P (.bJ .slice) (Builtin.append_ argTypes type args.toArray) w K
 | .copy=>GX P (.bJ (.int .i64)) (Builtin.copy_ argTypes type args.toArray) w K
 | .max=>match args with
   | [.int .i64 a,.int .i64 c]=>K (.int .i64 (imax a c)) w
   | [.int .i64 a,.int .i64 c,.int .i64 d]=>K (.int .i64 (imax (imax a c) d)) w
   |_=>False
 | .min=>match args with
   | [.int .i64 a,.int .i64 c]=>K (.int .i64 (mN a c)) w
   | [.int .i64 a,.int .i64 c,.int .i64 d]=>K (.int .i64 (mN (mN a c) d)) w
   |_=>False
 | .delete=>∃w',(Builtin.delete_ argTypes type args.toArray).run P w=.ok (.tuple #[]) w'/\K (.tuple #[]) w'
 | .clear=>∃w',(Builtin.clear_ argTypes type args.toArray).run P w=.ok (.tuple #[]) w'/\K (.tuple #[]) w'
 |_=>False
def Qk (t:Bool) (u v:Value) (K:Value->Prop):Prop:=
 match u,v with
 | .bool x,.bool y=>K (.bool (bif t then x else y))
 |u,v=>aF t (K u) (K v)
def Ch (size:Nat):Nat->List (Nat × Operand)->Fr->Option (List Value)
 |_,[],_=>some []
 |k,(i,x)::l,f=>bif Nat.beq i k && Nat.beq (ev f x).cells.size size then (Ch size (k+1) l f).map λr=> (ev f x).cells.toList++r else none
def mC (f:Fr):List (Nat × Operand)->List (Nat × Value)
 | []=> []
 | (i,x)::l=> (i,ev f x)::mC f l
def qj (P:Program):List Field->Option (List (Nat × Nat))
 | []=>some []
 |fd::l=>match P.info? fd.type with
  |some i=> (qj P l).map ((fd.offset,i.size):: ·)
  |none=>none
def F0 (P:Program) (t:TypeId) (parts:List (Nat × Value)) (K:Value->Prop):Prop:=
 match P.info? t with
 |some i=>match i.zero,P.underlying t with
  |some z,some (.struct I)=>match qj P I.toList with
   |some ps=>match Instr.fill (λk=>ps[k]?) z.cells parts with
    |some cells=>K (.agg cells)
    |none=>False
   |none=>False
  |_,_=>False
 |none=>False
def sP (P:Program) (o:Oper) (f:Fr) (w:World) (K:Value->World->Prop):Prop:=
 match o.op with
 | .move x| .assign x=>K (ev f x) w
 | .pick c a b=>match ev f c with
   | .bool t=>Qk t (ev f a) (ev f b) λv=>K v w
   |_=>False
 | .alloc t=>match P.info? t with
   |some i=>match i.zero with
    |some z=>Ly (.cells z.cells t) w λn w'=>K (.pointer (some ⟨n,0,none⟩)) w'
    |none=>False
   |none=>False
 | .box t x=>Ly (.cells (ev f x).cells t) w λn w'=>K (.pointer (some ⟨n,0,none⟩)) w'
 | .build t parts=>F0 P t (mC f parts.toList) λv=>K v w
 | .buildSlice t len parts=>match P.underlying t with
   |some (.slice e)=>match P.info? e with
    |some i=>bif Nat.blt (len*i.size) 16777217 && Nat.beq parts.toList.length len && i.zero.isSome then
     match Ch i.size 0 parts.toList f with
     |some cs=>Ly (.cells cs.toArray e) w λn w'=>K (.slice (some ⟨n,0,none⟩) len len) w'
     |none=>False
     else False
    |none=>False
   |_=>False
 | .load t x=>match ev f x with
   | .pointer (some a)=>RD P t a w λv=>K v w
   |_=>False
 | .store t x y=>match ev f x with
   | .pointer (some a)=>Ug P t a (ev f y) w λw'=>K undef w'
   |_=>False
 | .nilCheck x=>SN (ev f x) λv=>K v w
 | .binOp b t x y _=>Ra P b t x y (ev f x) (ev f y) w K
 | .unOp u _ x=>match u,ev f x with
   | .neg,.int k n=>K (.int k (k.wrap (0 - n))) w
   | .not,.bool b=>K (.bool (!b)) w
   |_,_=>False
 | .convert src dst x=>match P.underlying src,P.underlying dst,ev f x with
   |some _,some (.int k),.int _ n=>K (.int k (k.wrap n)) w
   |_,_,_=>False
 | .makeFunc fn first captured=>K (.func fn (DF f first.toList).toArray (DF f captured.toList).toArray) w
 | .makeMap _ r=>match r with
   |none=>Ly (.map #[] 0) w λn w'=>K (.map (some n)) w'
   |some _=>False
 | .makeSlice t l c=>GX P (.bJ .slice) (Instr.makeSlice t (ev f l) (ev f c)) w K
 | .slice t x lo hi mx=>match ev f x,nP P t,zk f lo,zk f hi,zk f mx with
   | .slice p n c,some size,some l,some h,some m=>bif h.isSome||m.isNone then pw p n c size l h m λI n' c'=>K (.slice I n' c') w else False
   |_,_,_,_,_=>False
 | .fieldAddr s x k=>match ev f x,zC P s k with
   | .pointer (some a),some off=>K (.pointer (some (a.add off))) w
   |_,_=>False
 | .field s x k=>F4 P s (ev f x) k λv=>K v w
 | .indexAddr t x i=>match ev f x,nP P t,ev f i with
   | .slice p n _,some size,.int _ j=>aW p n j size λa=>K (.pointer (some a)) w
   |_,_,_=>False
 | .index t x i=>match P.underlying t,ev f x,ev f i with
   |some .string,.string s,.int _ j=>∃b,0<=j/\s[j.toNat]? =some b/\K (.int .u8 b.toNat) w
   |_,_,_=>False
 | .lookup t x i ok=>Tx P o.type (Instr.lookup t (ev f x) (ev f i) ok) w K
 | .mapUpdate t m k x=>∃w',(Instr.mapUpdate t (ev f m) (ev f k) (ev f x)).run P w=.ok () w'/\K undef w'
 | .insert t m k x=>∃w',(Instr.mapUpdate t (ev f m) (ev f k) (ev f x)).run P w=.ok () w'/\K undef w'
 | .range t x=>GX P (.bJ .ptr) (Instr.range t (ev f x)) w K
 | .next x false=> (∃w',(Instr.next (ev f x) false o.type).run P w=.ok (.tuple #[.bool false]) w'/\K (.tuple #[.bool false]) w')\/
   (∃w',∃k v:Value,(Instr.next (ev f x) false o.type).run P w=.ok (.tuple #[.bool true,k,v]) w'/\K (.tuple #[.bool true,k,v]) w')
 | .entry x=>∃w',∃k:Int,∃v:Value,(Instr.entry (ev f x)).run P w=.ok (.tuple #[.int .i64 k,v]) w'/\K (.tuple #[.int .i64 k,v]) w'
 | .extract x k=>match ev f x with
   | .tuple vs=>match vs[k]? with
     |some v=>K v w
     |none=>False
   |_=>False
 | .call c=>match c.callee with
   | .builtin b=>vF P b c.argTypes o.type (DF f c.args.toList) w K
   | .value (.func g)=>Ks P g (DF f c.args.toList).toArray o.type w K
   | .value x=>match ev f x with
     | .func (.func g) first captured=>aF (gH P g) (Ks P g (first++ (DF f c.args.toList).toArray++captured) o.type w K) False
     |_=>False
   | .invoke _ _=>False
 |_=>False
def bC (P:Program) (o:Oper):Nat:=
 match o.op with
 | .move _| .assign _| .pick _ _ _| .build _ _| .nilCheck _| .unOp _ _ _| .convert _ _ _| .makeFunc _ _ _| .slice _ _ _ _ _| .fieldAddr _ _ _
 | .field _ _ _| .indexAddr _ _ _| .index _ _ _| .extract _ _=>0
 | .binOp _ t _ y _=>match P.underlying t with
   |some (.int _)|some .bool|some (.slice _)=>0
   |some (.pointer _)=>match y with
    | .const (.pointer none)=>0
    |_=>2
   |_=>2
 | .load _ _=>1
 | .call c=>match c.callee with
   | .builtin .max| .builtin .min=>0
   | .builtin .len=>1
   |_=>2
 |_=>2
def DS (P:Program) (I:Array Oper) (o:Oper) (f:Fr) (w:World) (C:Fr->World->Prop):Prop:=
 match o.guard with
 |none=>sP P o f w λv w'=>C (f.set o.dst v) w'
 |some (j,want)=>
  match (I[j]?).bind (·.dst) with
  |none=>False
  |some t=>
   match f t with
   | .bool b=>aF b
      (bif want then sP P o (f.set (some t) (.bool true)) w λv w'=>C ((f.set (some t) (.bool true)).set o.dst v) w'
        else C ((f.set (some t) (.bool true)).set o.dst undef) w)
      (bif want then C ((f.set (some t) (.bool false)).set o.dst undef) w
        else sP P o (f.set (some t) (.bool false)) w λv w'=>C ((f.set (some t) (.bool false)).set o.dst v) w')
   | .tuple _=>C (f.set o.dst undef) w
   |_=>False
def Qz (P:Program) (I:Array Oper):List Oper->Fr->World->(Fr->World->Prop)->Prop
 | [],f,w,K=>K f w
 |o::rest,f,w,K=>DS P I o f w λJ w'=>Qz P I rest J w' K
def Br (B:List Nat) (o:Oper):Nat:=go o.after.toList
where go:List Edge->Nat
 | []=>0
 |e::l=>bif Region.binds .any e then 2 ^ e.on|||B.getD e.on 0|||go l else go l
def mT:List Oper->List Nat->List Nat
 | [],B=>B
 |o::l,B=>mT l (B++ [Br B o])
def od (k:Nat):List Edge->Bool
 | []=>true
 |e::l=> (!Region.binds .any e||Nat.blt e.on k) && od k l
def zP (B:List Nat):Nat->List Oper->Bool
 |_,[]=>true
 |k,o::l=>Nat.beq (B.getD k 0) (Br B o) && od k o.after.toList && zP B (k+1) l
def oY (P:Program) (x y:Oper):Bool:=
 Nat.beq (bC P x) 0||Nat.beq (bC P y) 0|| (Nat.beq (bC P x) 1 && Nat.beq (bC P y) 1)
def Dc (P:Program) (I:Array Oper) (x:Oper) (i:Nat) (B:List Nat):Nat->List Oper->Bool
 |_,[]=>true
 |j,y::l=> ((B.getD j 0).testBit i|| (x.apart I y && oY P x y)) && Dc P I x i B (j+1) l
def yk (P:Program) (I:Array Oper) (B:List Nat):Nat->List Oper->Bool
 |_,[]=>true
 |i,x::l=>Dc P I x i B (i+1) l && yk P I B (i+1) l
def dC (I:Array Oper):Bool:=Region.noSelect I && zP (mT I.toList []) 0 I.toList
def qS (P:Program) (I:Array Oper):Bool:=dC I && yk P I (mT I.toList []) 0 I.toList
def QO (P:Program) (I:Array Oper) (B:List Nat) (J:Array Bool) (i:Nat):Bool:=
 (List.range I.size).all λj=>J.getD j true||Nat.beq j i|| (B.getD j 0).testBit i||
   (match I[i]?,I[j]? with
    |some x,some y=>x.apart I y && y.apart I x && oY P x y
    |_,_=>false)
def HW (P:Program) (I:Array Oper) (i:Nat) (f:Fr) (w:World) (C:Fr->World->Prop):Prop:=
 match I[i]? with
 |none=>False
 |some o=>DS P I o f w C
def NU:List Nat->(Nat->Prop)->Prop
 | [],_=>True
 | [i],C=>C i
 |i::j::l,C=>C i/\NU (j::l) C
def SZ (P:Program) (I:Array Oper) (B:List Nat):Nat->Array Bool->Fr->World->(Fr->World->Prop)->Prop
 |0,_,f,w,K=>K f w
 |n+1,listed,f,w,K=>
  match (Region.ready .any I listed).find? (QO P I B listed) with
  |some i=>HW P I i f w λJ w'=>SZ P I B n (listed.setIfInBounds i true) J w' K
  |none=>NU (Region.ready .any I listed) λi=>HW P I i f w λJ w'=>SZ P I B n (listed.setIfInBounds i true) J w' K
def Gt (P:Program) (I:Array Oper) (f:Fr) (w:World) (K:Fr->World->Prop):Prop:=
 bif qS P I then Qz P I I.toList f w K
 else SZ P I (mT I.toList []) I.size (Array.replicate I.size false) f w K
def xR (W:World->Prop) (a:Addr) (v:Value):Prop:=∀u,W u->u.cell? a=some v
def w_ (W:World->Prop) (a:Addr) (vs:List Value):Prop:=∀u,W u->aK u a 0 vs
def Ue (P:Program) (t:TypeId) (a:Addr) (W:World->Prop) (K:Value->Prop):Prop:=
 match wh P t with
 |some false=>Kc (OC P t) λv=>xR W a v/\K v
 |some true=>match P.info? t with
  |some i=>bif Nat.beq i.size (uE P 10 t).length then AZ (uE P 10 t) λvs=>w_ W a vs/\K (.agg vs.toArray) else False
  |none=>False
 |none=>False
def Tz (P:Program) (argTypes:Array TypeId) (type:TypeId) (args:List Value) (W:World->Prop) (w:World) (K:Value->World->Prop):Prop:=
 match args with
 | [.slice _ n _]=>match (argTypes[0]?).bind P.underlying with
   |some (.slice _)=>K (.int .i64 n) w
   |_=>False
 | [.map r]=>∃n:Int,(∀u,W u->(Builtin.len_ argTypes type #[.map r]).run P u=.ok (.int .i64 n) u)/\K (.int .i64 n) w
 |_=>False
def Fj (keep:Bool) (W:World->Prop) (w:World) (K:Prop):Prop:=
 match keep with
 |true=>W w/\K
 |false=>K
def QA (P:Program) (W:World->Prop) (keep:Bool) (o:Oper) (f:Fr) (w:World) (K:Value->World->Prop):Prop:=
 match o.op with
 | .load t x=>match ev f x with
   | .pointer (some a)=>Ue P t a W λv=>K v w
   |_=>False
 | .call c=>match c.callee with
   | .builtin .len=>Tz P c.argTypes o.type (DF f c.args.toList) W w K
   | .builtin .max| .builtin .min=>sP P o f w K
   |_=>sP P o f w λv w'=>Fj keep W w' (K v w')
 |_=>bif Nat.ble (bC P o) 0 then sP P o f w K else sP P o f w λv w'=>Fj keep W w' (K v w')
def Hq (P:Program) (I:Array Oper) (W:World->Prop) (keep:Bool) (o:Oper) (f:Fr) (w:World) (C:Fr->World->Prop):Prop:=
 match o.guard with
 |none=>QA P W keep o f w λv w'=>C (f.set o.dst v) w'
 |some (j,want)=>
  match (I[j]?).bind (·.dst) with
  |none=>False
  |some t=>
   match f t with
   | .bool b=>aF b
      (bif want then QA P W keep o (f.set (some t) (.bool true)) w λv w'=>C ((f.set (some t) (.bool true)).set o.dst v) w'
        else C ((f.set (some t) (.bool true)).set o.dst undef) w)
      (bif want then C ((f.set (some t) (.bool false)).set o.dst undef) w
        else QA P W keep o (f.set (some t) (.bool false)) w λv w'=>C ((f.set (some t) (.bool false)).set o.dst v) w')
   | .tuple _=>C (f.set o.dst undef) w
   |_=>False
def uK (P:Program) (I:Array Oper) (B:List Nat) (i:Nat):Bool:=
 (List.range I.size).any λk=> (match I[k]? with|some o=>Nat.beq (bC P o) 1|none=>false) && !(B.getD i 0).testBit k
def QC (P:Program) (I:Array Oper) (W:World->Prop) (B:List Nat):Nat->List Oper->Fr->World->(Fr->World->Prop)->Prop
 |_,[],f,w,K=>K f w
 |k,o::rest,f,w,K=>Hq P I W (uK P I B k) o f w λJ w'=>QC P I W B (k+1) rest J w' K
def oE (P:Program) (x y:Oper):Bool:=Nat.ble (bC P x) 1||Nat.ble (bC P y) 1
def xZ (P:Program) (I:Array Oper) (x:Oper) (i:Nat) (B:List Nat):Nat->List Oper->Bool
 |_,[]=>true
 |j,y::l=> ((B.getD j 0).testBit i|| (x.apart I y && oE P x y)) && xZ P I x i B (j+1) l
def vf (P:Program) (I:Array Oper) (B:List Nat):Nat->List Oper->Bool
 |_,[]=>true
 |i,x::l=>xZ P I x i B (i+1) l && vf P I B (i+1) l
def u7 (P:Program) (I:Array Oper):Bool:=dC I && vf P I (mT I.toList []) 0 I.toList
def OS (P:Program) (I:Array Oper) (B:List Nat) (J:Array Bool) (i:Nat):Bool:=
 (List.range I.size).all λj=>J.getD j true||Nat.beq j i|| (B.getD j 0).testBit i||
   (match I[i]?,I[j]? with
    |some x,some y=>x.apart I y && y.apart I x && oE P x y
    |_,_=>false)
def CV (P:Program) (I:Array Oper) (W:World->Prop) (B:List Nat) (i:Nat) (f:Fr) (w:World) (C:Fr->World->Prop):Prop:=
 match I[i]? with
 |none=>False
 |some o=>Hq P I W (uK P I B i) o f w C
def Ld (P:Program) (I:Array Oper) (W:World->Prop) (B:List Nat):Nat->Array Bool->Fr->World->(Fr->World->Prop)->Prop
 |0,_,f,w,K=>K f w
 |n+1,listed,f,w,K=>
  match (Region.ready .any I listed).find? (OS P I B listed) with
  |some i=>CV P I W B i f w λJ w'=>Ld P I W B n (listed.setIfInBounds i true) J w' K
  |none=>NU (Region.ready .any I listed) λi=>CV P I W B i f w λJ w'=>Ld P I W B n (listed.setIfInBounds i true) J w' K
def Io (P:Program) (I:Array Oper) (f:Fr) (w:World) (K:Fr->World->Prop):Prop:=
 ∃W:World->Prop,W w/\
 bif u7 P I then QC P I W (mT I.toList []) 0 I.toList f w K
 else Ld P I W (mT I.toList []) I.size (Array.replicate I.size false) f w K
def ID:Bk->Type->Type
 | .int _,R=>Int->R
 | .bool,R=>Bool->R
 | .str,R=>ByteArray->R
 | .ptr,R=>Option Addr->R
 | .slice,R=>Option Addr->Nat->Nat->R
 | .map,R=>Option Nat->R
 | .any,R=>Value->R
 | .Mc,R=>Addr->R
 | .fn,R=>FuncId->Array Value->R
def B6:List Bk->Type->Type
 | [],R=>R
 |b::l,R=>ID b (B6 l R)
def Mj:Vk->Type->Type
 | .bJ b,R=>ID b R
 | .agg l,R=>B6 l R
def yG:List Vk->Type->Type
 | [],R=>R
 |k::l,R=>Mj k (yG l R)
def FD {R:Type}:(b:Bk)->ID b R->Value->(R->Prop)->Prop
 | .int k,I,v,C=>match v with
   | .int J n=>bif k==J then C (I n) else False
   |_=>False
 | .bool,I,v,C=>match v with
   | .bool n=>C (I n)
   |_=>False
 | .str,I,v,C=>match v with
   | .string n=>C (I n)
   |_=>False
 | .ptr,I,v,C=>match v with
   | .pointer n=>C (I n)
   |_=>False
 | .slice,I,v,C=>match v with
   | .slice p n c=>C (I p n c)
   |_=>False
 | .map,I,v,C=>match v with
   | .map n=>C (I n)
   |_=>False
 | .any,I,v,C=>C (I v)
 | .Mc,I,v,C=>match v with
   | .pointer (some a)=>C (I a)
   |_=>False
 | .fn,I,v,C=>match v with
   | .func (.func g) ⟨[]⟩ c=>C (I g c)
   |_=>False
def BO {R:Type}:(l:List Bk)->B6 l R->List Value->(R->Prop)->Prop
 | [],I,vs,C=>match vs with
   | []=>C I
   |_::_=>False
 |b::l,I,vs,C=>match vs with
  | []=>False
  |v::vs=>FD b I v λJ=>BO l J vs C
def tD {R:Type}:(k:Vk)->Mj k R->Value->(R->Prop)->Prop
 | .bJ b,I,v,C=>FD b I v C
 | .agg l,I,v,C=>match v with
   | .agg cs=>BO l I cs.toList C
   |_=>False
def tO {R:Type}:(l:List Vk)->yG l R->List Value->(R->Prop)->Prop
 | [],I,vs,C=>match vs with
   | []=>C I
   |_::_=>False
 |k::l,I,vs,C=>match vs with
  | []=>False
  |v::vs=>tD k I v λJ=>tO l J vs C
def TF {R:Type}:(b:Bk)->ID b R->(Value->R->Prop)->Prop
 | .int k,I,C=>∀n:Int,C (.int k n) (I n)
 | .bool,I,C=>∀b:Bool,C (.bool b) (I b)
 | .str,I,C=>∀s:ByteArray,C (.string s) (I s)
 | .ptr,I,C=>∀p:Option Addr,C (.pointer p) (I p)
 | .slice,I,C=>∀ (p:Option Addr) (n c:Nat),C (.slice p n c) (I p n c)
 | .map,I,C=>∀r:Option Nat,C (.map r) (I r)
 | .any,I,C=>∀v:Value,C v (I v)
 | .Mc,I,C=>∀a:Addr,C (.pointer (some a)) (I a)
 | .fn,I,C=>∀ (g:FuncId) (c:Array Value),C (.func (.func g) #[] c) (I g c)
def R6 {R:Type}:(l:List Bk)->B6 l R->(List Value->R->Prop)->Prop
 | [],I,C=>C [] I
 |b::l,I,C=>TF b I λv J=>R6 l J λvs r=>C (v::vs) r
def Ut {R:Type}:(k:Vk)->Mj k R->(Value->R->Prop)->Prop
 | .bJ b,I,C=>TF b I C
 | .agg l,I,C=>R6 l I λvs r=>C (.agg vs.toArray) r
def NV {R:Type}:(l:List Vk)->yG l R->(List Value->R->Prop)->Prop
 | [],I,C=>C [] I
 |k::l,I,C=>Ut k I λv J=>NV l J λvs r=>C (v::vs) r
theorem Ij {R:Type} {b:Bk} {I:ID b R} {v:Value} {C:R->Prop} {D:Value->R->Prop} (h:FD b I v C) (g:TF b I D):∃r,C r/\D v r:=by
 cases b<;>simp only [FD] at h<;>simp only [TF] at g
 case int k=>
  split at h
  . rename_i O n;cases J:k==O
    . simp [J] at h
    . rw [J] at h;obtain rfl:=eq_of_beq J;exact ⟨_,h,g n⟩
  . exact h.elim
 case any=>exact ⟨_,h,g v⟩
 case slice=>
  split at h
  . exact ⟨_,h,g _ _ _⟩
  . exact h.elim
 case fn=>
  split at h
  . exact ⟨_,h,g _ _⟩
  . exact h.elim
 all_goals
  split at h
  . exact ⟨_,h,g _⟩
  . exact h.elim
theorem Nq {R:Type} (l:List Bk):∀ {I:B6 l R} {vs:List Value} {C:R->Prop} {D:List Value->R->Prop},BO l I vs C->R6 l I D->∃r,C r/\D vs r:=by
 induction l with
 |nil=>
  intro I vs C D h g;cases vs with
  |nil=>exact ⟨_,h,g⟩
  |cons=>exact h.elim
 |cons b l ih=>
  intro I vs C D h g;cases vs with
  |nil=>exact h.elim
  |cons v vs=>
   obtain ⟨_,O,J⟩:=Ij h g;exact ih (D:=λvs r=>D (v::vs) r) O J
theorem OQ {R:Type} {k:Vk} {I:Mj k R} {v:Value} {C:R->Prop} {D:Value->R->Prop} (h:tD k I v C) (g:Ut k I D):∃r,C r/\D v r:=by
 cases k with
 |bJ b=>exact Ij h g
 |agg l=>
  simp only [tD] at h;split at h
  . rename_i cs;obtain ⟨r,O,J⟩:=Nq l h g;exact ⟨r,O,by simpa using J⟩
  . exact h.elim
theorem qy {R:Type} (l:List Vk):∀ {I:yG l R} {vs:List Value} {C:R->Prop} {D:List Value->R->Prop},tO l I vs C->NV l I D->∃r,C r/\D vs r:=by
 induction l with
 |nil=>
  intro I vs C D h g;cases vs with
  |nil=>exact ⟨_,h,g⟩
  |cons=>exact h.elim
 |cons b l ih=>
  intro I vs C D h g;cases vs with
  |nil=>exact h.elim
  |cons v vs=>
   obtain ⟨_,O,J⟩:=OQ h g;exact ih (D:=λvs r=>D (v::vs) r) O J
def tQ:Code->List (Nat × TypeId)
 | .region _ ops _=>ops.toList.filterMap λo=>o.dst.map λd=> (d,o.type)
 | .seq a b=>tQ a++tQ b
 | .cond _ a b=>tQ a++tQ b
 | .block _ c| .loop c| .scope c=>tQ c
 |_=> []
def jR:List (Nat × TypeId)->Nat->Option TypeId
 | [],_=>none
 | (d,t)::l,i=>bif Nat.beq d i then some t else jR l i
def cP:List (Nat × TypeId)->List Value->Nat->Option Value
 | (a,_)::as,v::vs,i=>bif Nat.beq i a then some v else cP as vs i
 |_,_,_=>none
def Ov (c:Code) (as:List (Nat × TypeId)) (vs:List Value) (f g:Fr):Fr:=λi=>
 match cP as vs i with
 |some v=>v
 |none=>bif (jR (tQ c) i).isNone then f i else g i
def qN (f:Fr):List (Nat × TypeId)->List Value
 | []=> []
 | (a,_)::l=>f a::qN f l
def mE (P:Program):List (Nat × TypeId)->List Vk
 | []=> []
 | (_,t)::l=> (bif Nat.beq t 1000000 then .bJ .Mc else QW P t)::mE P l
inductive sM where
 |af
 |aC (a b:sM)
 |cut (as:List (Nat × TypeId)) (a b:sM)
 |bJ (a:sM)
 |loop (as:List (Nat × TypeId)) (a:sM)
 |dB
def sM.fst:sM->sM
 | .aC a _| .cut _ a _| .bJ a| .loop _ a=>a
 |_=> .af
def sM.snd:sM->sM
 | .aC _ b| .cut _ _ b=>b
 |_=> .af
def sM.Lv:sM->Option (List (Nat × TypeId))
 | .cut as _ _=>some as
 |_=>none
def sM.yO:sM->List (Nat × TypeId)
 | .loop as _=>as
 |_=> []
def sM.drawn:sM->Bool
 | .dB=>true
 |_=>false
abbrev Np:=Exit->Fr->World->Prop
def uf (P:Program):Code->sM->Fr->World->Np->Prop
 | .skip,_,f,w,Q=>Q .normal f w
 | .label _,_,f,w,Q=>Q .normal f w
 | .region _ ops dB,n,f,w,Q=>bif dB then (bif n.drawn then Io P ops f w.drew λO w'=>Q .normal O w' else Gt P ops f w.drew λO w'=>Q .normal O w') else Qz P ops ops.toList f w λO w'=>Q .normal O w'
 | .seq a b,n,f,w,Q=>
   match n.Lv with
   |some as=>
    ∃J:yG (mE P as) (World->Prop),
     uf P a n.fst f w (λe O w'=>match e with
      | .normal=>tO (mE P as) J (qN O as) λr=>r w'
      |e=>Q e O w')/\
     NV (mE P as) J λvs r=>∀ (w:World) (g:Fr),r w->uf P b n.snd (Ov a as vs f g) w Q
   |none=>uf P a n.fst f w λe O w'=>match e with
    | .normal=>uf P b n.snd O w' Q
    |e=>Q e O w'
 | .cond c a b,n,f,w,Q=>match ev f c with
   | .bool t=>aF t (uf P a n.fst f w Q) (uf P b n.snd f w Q)
   |_=>False
 | .block id c,n,f,w,Q=>uf P c n.fst f w λe O w'=>match e with
   | .exit i=>bif Nat.beq i id then Q .normal O w' else Q (.exit i) O w'
   |e=>Q e O w'
 | .scope c,n,f,w,Q=>uf P c n.fst f w λe O w'=>match e with
   | .goto _=>False
   |e=>Q e O w'
 | .loop c,n,f,w,Q=>
   ∃I:yG (mE P n.yO) (World->Nat->Prop),
    (tO (mE P n.yO) I (qN f n.yO) λr=>∃k,r w k)/\
    NV (mE P n.yO) I λvs r=>∀ (w:World) (k:Nat) (g:Fr),r w k->
     uf P c n.fst (Ov c n.yO vs f g) w λe O w'=>match e with
      | .normal=>tO (mE P n.yO) I (qN O n.yO) λr=>∃U,U<k/\r w' U
      |e=>Q e O w'
 | .exit id,_,f,w,Q=>Q (.exit id) f w
 | .ret,_,f,w,Q=>Q .ret f w
 |_,_,_,_,_=>False
def zA (P:Program) (rs:List ResultVar) (f:Fr) (w:World) (K:List Value->Prop):Prop:=
 match rs with
 | []=>K []
 | .tmp t::l=>zA P l f w λvs=>K (f t::vs)
 | .cell a t::l=>match f a with
   | .pointer (some p)=>RD P t p w λv=>zA P l f w λvs=>K (v::vs)
   |_=>False
def jt:List Value->Value
 | [v]=>v
 |vs=> .tuple vs.toArray
def ry:List Value->Fr
 | [],_=>undef
 |v::_,0=>v
 |_::vs,i+1=>ry vs i
def Sf (P:Program) (fn:Func) (n:sM) (args:List Value) (w:World) (K:Value->World->Prop):Prop:=
 match fn.body with
 |none=>False
 |some c=>uf P c n (ry args) w λe f w'=>match e with
  | .normal| .ret=>zA P fn.results.toList f w' λvs=>K (jt vs) w'
  |_=>False
end Go.Fw
