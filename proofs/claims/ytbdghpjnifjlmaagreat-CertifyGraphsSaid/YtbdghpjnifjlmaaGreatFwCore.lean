/- The frame of the proofs: a weakest precondition over the loaded text that the kernel itself can reckon, and its soundness. -/
import Derived.Orders
import Derived.Scope
import Derived.KernelRfl
import Derived.Laws.World
import Derived.Laws.Sem
set_option linter.all false
namespace Go
abbrev lq:=List (List Int)
def r8:=@if_neg
def v8:=@if_pos
def x7:=@decide_eq_true_eq
def x8:=@decide_eq_false_iff_not
def x9:=@decide_eq_false
def I4:=@decide_eq_true
def I5:=@if_true
def I6:=@cond_true
def I8:=@if_false
def I9:=@ge_iff_le
def J5:=@ne_eq
def J6:=@cond_false
def J8:=@beq_iff_eq
def W8:=@or_false
def ZH:=@bne_iff_ne
def ZI:=@beq_eq_false_iff_ne
def ZJ:=@not_true_eq_false
def tn:=@Int.toNat_natCast
def ts:=@Bool.and_eq_true
def vx:=@List.getD_eq_getElem?_getD
def vy:=@Nat.le_refl
def xc:=@Nat.zero_le
def xk:=@List.mem_cons_of_mem
def xv:=@List.mem_singleton
def y4:=@List.mem_append
def y6:=@List.length_take
def Bs:=@List.mem_iff_getElem
def GD:=@List.map_append
def I':=@List.length_append
def K':=@List.all_eq_true
def LV:=@List.mem_map
def L0:=@List.take_length
def V9:=@List.getElem?_eq_getElem
def V_:=@Nat.eq_of_beq_eq_true
def V':=@List.mem_cons
def Wa:=@List.eq_nil_of_length_eq_zero
def Wb:=@List.mem_cons_self
def Wc:=@Int.tdiv_eq_ediv_of_nonneg
def Wd:=@List.getElem?_append_left
def We:=@List.length_map
def Wg:=@List.take_append_of_le_length
def Wh:=@List.mem_of_mem_take
def Wi:=@List.take_of_length_le
def Wj:=@Classical.byContradiction
def Wl:=@Nat.le_trans
def Wm:=@Array.getElem?_eq_none
def Wn:=@Option.getD_some
def Wo:=@List.take_add_one
def Wp:=@Nat.lt_or_ge
def Wq:=@List.mem_append_left
def Wr:=@Nat.zero_add
def Ws:=@List.getElem?_eq_some_iff
def Wt:=@Nat.eq_zero_or_pos
def Wu:=@Option.some.injEq
def Wv:=@List.mem_range
def Ww:=@Int.le_refl
def Wx:=@List.length_pos_iff
def Wy:=@List.pairwise_iff_getElem
def Wz:=@List.length_cons
def WA:=@List.mem_map_of_mem
def WB:=@List.mem_append_right
def WC:=@List.mem_filter
def WD:=@List.length_drop
def WE:=@List.getElem?_take
def WG:=@List.length_singleton
def WH:=@List.append_assoc
def WI:=@Bool.not_eq_true
def WJ:=@Int.neg_neg
def WK:=@Nat.min_eq_left
def WL:=@Ne.symm
def WM:=@Nat.pow_le_pow_right
def WN:=@List.take_append_drop
def WO:=@Nat.sub_zero
def WQ:=@Nat.mul_le_mul_right
def WR:=@List.Nodup.length_le_of_subset
def WS:=@Option.some.inj
def WT:=@List.map_congr_left
def WU:=@Bool.not_eq_true'
def WV:=@List.getElem?_cons_succ
def WW:=@List.getElem?_map
def WX:=@List.countP_cons
def WY:=@List.nil_append
def WZ:=@List.length_filter_le
def W2:=@Bool.true_and
def W4:=@Bool.eq_iff_iff
def W5:=@List.not_mem_nil
def W6:=@List.getElem?_eq_none
def W7:=@Bool.or_eq_true
def W9:=@List.append_nil
def W_:=@Nat.two_pow_pos
def Xa:=@Bool.and_false
def Xb:=@Array.getElem?_eq_some_iff
def Xc:=@Array.getElem?_append_left
def Xd:=@List.getElem?_append_right
def Xe:=@List.getElem?_set
def Xf:=@Option.map_eq_some_iff
def Xg:=@Nat.lt_of_lt_of_le
def Xh:=@List.range_succ
def Xi:=@List.length_nil
def Xj:=@List.map_cons
def Xk:=@List.any_eq_true
def Xl:=@Option.isSome_iff_exists
def Xm:=@List.countP_le_length
def Xn:=@Option.toList_some
def Xo:=@Bool.false_eq_true
def Xp:=@List.getElem?_drop
def Xq:=@List.length_pos_of_mem
def Xr:=@List.ext_getElem?
def Xt:=@List.length_range
def Xu:=@List.nodup_append
def Xv:=@List.length_set
def Xw:=@Option.map_some
def Xx:=@Bool.not_eq_false'
def Xy:=@Nat.add_sub_cancel
def Xz:=@List.countP_append
def XA:=@List.pairwise_cons
def XB:=@List.getElem?_of_mem
def XC:=@List.ext_getElem
def XD:=@Option.bind_some
def XE:=@List.getElem_inj
def XF:=@List.getElem_mem
def XG:=@Nat.add_mul
def XH:=@List.getElem_map
def XI:=@Bool.and_true
def XJ:=@Bool.or_false
def XK:=@List.size_toArray
def XL:=@Int.fdiv_eq_ediv_of_nonneg
def XM:=@Int.tmod_eq_emod_of_nonneg
def XN:=@Nat.add_zero
def XO:=@Array.toList_setIfInBounds
def XP:=@List.getElem_take
def XQ:=@Int.toNat_of_nonneg
def XR:=@List.foldl_cons
def XS:=@Array.getElem?_setIfInBounds_ne
def XT:=@Array.getElem?_eq_getElem
def XU:=@Array.mapM_eq_mapM_toList
def XV:=@List.drop_eq_getElem_cons
def XW:=@List.map_map
def XX:=@List.Pairwise.imp_of_mem
def XY:=@Bool.false_and
def XZ:=@Nat.mul_one
def X0:=@List.take_take
def X2:=@List.pairwise_map
def X3:=@List.getElem?_cons_zero
def X4:=@List.filter_cons_of_pos
def X5:=@List.filter_cons_of_neg
def X6:=@List.flatMap_cons
def X7:=@Array.length_toList
def X8:=@Nat.mul_le_mul_left
def X9:=@List.countP_eq_zero
def X_:=@List.flatMap_append
def X':=@Array.getD_eq_getD_getElem?
def Ya:=@Array.getElem?_append_right
def Yb:=@Iff.rfl
def Yc:=@Bool.false_or
def Yd:=@List.any_cons
def Ye:=@Nat.add_assoc
def Yf:=@Nat.one_mul
def Yg:=@List.cons_append
def Yh:=@List.filter_cons
def Yi:=@List.filter_append
def Yj:=@List.map_singleton
def Yk:=@Classical.choose_spec
def Yl:=@List.mem_take_iff_getElem
def Ym:=@List.nodup_cons
def Yn:=@Nat.not_lt_zero
def Yo:=@Array.getElem?_replicate
def Yp:=@List.take_succ_cons
def Yq:=@List.filter_eq_self
def Yr:=@Nat.le_add_right
def Ys:=@Option.bind_eq_some_iff
def Yt:=@List.drop_length
def Yu:=@List.mem_flatMap
def Yv:=@List.drop_append_of_le_length
def Yw:=@List.mem_filterMap
def Yx:=@List.filter_eq_nil_iff
def Yy:=@List.drop_of_length_le
def Yz:=@List.all_append
def YA:=@List.countP_eq_length_filter
def YB:=@List.all_cons
def YC:=@List.map_take
def YD:=@List.countP_mono_left
def YE:=@Array.getElem?_toList
def YF:=@List.Sublist.refl
def YG:=@Nat.lt_trichotomy
def YH:=@Array.mem_toList_iff
def YI:=@List.mem_of_mem_drop
def YJ:=@List.pairwise_append
def YK:=@List.Pairwise.filter
def YL:=@List.Perm.refl
def YM:=@List.getElem?_append
def YN:=@Nat.mul_comm
def YO:=@Option.getD_none
def YP:=@List.mem_of_find?_eq_some
def YQ:=@List.Sublist.append
def YR:=@Prod.mk.injEq
def YS:=@Array.getElem?_push_size
def YT:=@List.find?_some
def YU:=@List.set_cons_succ
def YV:=@Prod.mk.inj
def YW:=@Nat.le_mul_of_pos_right
def YX:=@Nat.mul_div_cancel_left
def YY:=@Nat.pow_succ
def YZ:=@Nat.add_comm
def Y0:=@List.getElem_drop
def Y1:=@Bool.or_true
def Y2:=@List.foldl_append
def Y3:=@Nat.mul_left_comm
def Y4:=@List.drop_zero
def Y5:=@List.sublist_cons_self
def Y6:=@Classical.em
def Y7:=@Array.getElem?_modify
def Y8:=@Nat.le_of_ble_eq_true
def Y9:=@Array.mem_of_getElem?
def Y_:=@List.filter_replicate
def Y':=@List.range'_succ
def Za:=@List.range_eq_range'
def Zb:=@List.mem_of_getElem?
def Zc:=@List.exists_mem_of_length_pos
def Zd:=@Int.natCast_mul
def Ze:=@List.filter_nil
def Zf:=@List.getD_cons_zero
def Zg:=@List.getD_cons_succ
def Zh:=@Nat.succ_mul
def Zi:=@Nat.beq_refl
def Zj:=@Nat.sub_self
def Zk:=@Int.lt_or_le
def Zl:=@List.take_zero
def Zm:=@Int.natCast_nonneg
def Zo:=@List.mapM_cons
def Zp:=@List.getElem_range
def Zq:=@List.isEmpty_eq_false_iff
def Zr:=@Bool.and_self
def Zt:=@Array.setIfInBounds_comm
def Zu:=@List.mem_reverse
def Zv:=@List.take_append
def Zw:=@List.map_nil
def Zx:=@Nat.le_of_lt
def Zy:=@Nat.zero_mul
def Zz:=@List.any_nil
def ZA:=@List.countP_nil
def ZB:=@Nat.div_add_mod
def ZC:=@List.any_append
def ZD:=@Bool.not_false
def ZE:=@List.drop_drop
def ZF:=@Nat.mul_le_mul
def ZG:=@List.take_set
end Go
namespace Go
abbrev sn:=Option Addr
abbrev qw(n:Nat):Addr:=.mk n 0 none
abbrev sT:=Value.int .i64
abbrev Value.i(x:Int):Value:=.int .i64 x
end Go
namespace Go.Fw
open Go
abbrev Fr:=Nat->Value
def Fr.set(f:Fr)(d:Option Nat)(v:Value):Fr:=
 match d with
 |none=>f
 |some j=>λi=>bif Nat.beq i j then v else f i
def ev(f:Fr):Operand->Value
 | .tmp t=>f t
 | .const v=>v
 | .global g=> .pointer (some ⟨g,0,none⟩)
 | .func g=> .func (.func g) #[] #[]
inductive Bk where
 |int (k:IntKind)|bool|str|ptr|slice|map|any|Ly|fn
def Lo:Bk->(Value->Prop)->Prop
 | .int k,C=>∃n:Int,C (.int k n)
 | .bool,C=>∃b:Bool,C (.bool b)
 | .str,C=>∃s:ByteArray,C (.string s)
 | .ptr,C=>∃p:Option Addr,C (.pointer p)
 | .slice,C=>∃ (p:Option Addr) (n c:Nat),C (.slice p n c)
 | .map,C=>∃r:Option Nat,C (.map r)
 | .any,C=>∃v:Value,C v
 | .Ly,C=>∃a:Addr,C (.pointer (some a))
 | .fn,C=>∃ (g:FuncId) (c:Array Value),C (.func (.func g) #[] c)
def BK:List Bk->(List Value->Prop)->Prop
 | [],C=>C []
 |b::l,C=>Lo b λv=>BK l λvs=>C (v::vs)
inductive Vk where
 |bP (b:Bk)
 |agg (l:List Bk)
def U4:Vk->(Value->Prop)->Prop
 | .bP b,C=>Lo b C
 | .agg l,C=>BK l λvs=>C (.agg vs.toArray)
def Tw:List Vk->(List Value->Prop)->Prop
 | [],C=>C []
 |b::l,C=>U4 b λv=>Tw l λvs=>C (v::vs)
theorem wx{b:Bk}{C:Value->Prop}(h:Lo b C):∃v,C v:=by
 cases b<;>simp only[Lo]at h
 case slice=>obtain⟨p,n,c,h⟩:=h;exact⟨_,h⟩
 case fn=>obtain⟨p,c,h⟩:=h;exact⟨_,h⟩
 all_goals (obtain⟨x,h⟩:=h;exact⟨_,h⟩)
theorem Ct:∀ {l:List Bk} {C:List Value->Prop},BK l C->∃vs,C vs
 | [],_,h=>⟨[],h⟩
 |_::_,_,h=>let ⟨v,h⟩:=wx h;let ⟨vs,h⟩:=Ct h;⟨v::vs,h⟩
theorem A0{b:Vk}{C:Value->Prop}(h:U4 b C):∃v,C v:=by
 cases b with
 |bP b=>exact wx h
 |agg l=>obtain⟨vs,h⟩:=Ct h;exact⟨_,h⟩
theorem CM:∀ {l:List Vk} {C:List Value->Prop},Tw l C->∃vs,C vs
 | [],_,h=>⟨[],h⟩
 |_::_,_,h=>let ⟨v,h⟩:=A0 h;let ⟨vs,h⟩:=CM h;⟨v::vs,h⟩
def QZ(P:Program)(t:TypeId):Bk:=
 match P.underlying t with
 |some (.int k)=> .int k
 |some .bool=> .bool
 |some .string=> .str
 |some (.pointer _)=> .ptr
 |some (.slice _)=> .slice
 |some (.map _ _)=> .map
 |some (.func ..)=> .fn
 |_=> .any
def vg(P:Program):Nat->TypeId->List Bk
 |0,_=> []
 |n+1,t=>
  match P.underlying t with
  |some (.struct I)=>I.toList.flatMap λf=>vg P n f.type
  |_=> [QZ P t]
def Tb(P:Program)(t:TypeId):Vk:=
 match P.underlying t with
 |some (.struct _)=> .agg (vg P 10 t)
 |_=> .bP (QZ P t)
def aM(w:World)(a:Addr):Nat->List Value->Prop
 |_,[]=>True
 |i,v::vs=>w.cell? (a.add i)=some v/\aM w a (i+1) vs
def jA:Value->Bool
 | .agg _| .tuple _=>false
 |_=>true
def bD(a:Addr):Nat->List Value->World->World->Prop
 |_,[],w,w'=>w'=w
 |i,v::vs,w,w'=> (∃u,w.cell? (a.add i)=some u)/\w.frozen? (a.add i)=false/\jA v=true/\bD a (i+1) vs (w.setCell (a.add i) v) w'
structure jz(o:Obj)(w:World)(n:Nat)(w':World):Prop where
 num:n=w.heap.size
 eq:w'=w.alloc o
def Mf(o:Obj)(w:World)(K:Nat->World->Prop):Prop:=∀ (n:Nat) (w':World),jz o w n w'->K n w'
theorem qa{o:Obj}{w:World}{K:Nat->World->Prop}(h:Mf o w K):K w.heap.size (w.alloc o):=h _ _ ⟨rfl,rfl⟩
def xd(P:Program)(t:TypeId):Option Bool:=
 match P.underlying t with
 |some (.struct _)|some (.array _ _)=>some true
 |some _=>some false
 |none=>none
def TE(P:Program)(t:TypeId)(a:Addr)(w:World)(K:Value->Prop):Prop:=
 match xd P t with
 |some false=>Lo (QZ P t) λv=>w.cell? a=some v/\K v
 |some true=>match P.info? t with
  |some i=>bif Nat.beq i.size (vg P 10 t).length then BK (vg P 10 t) λvs=>aM w a 0 vs/\K (.agg vs.toArray) else False
  |none=>False
 |none=>False
def Vg(P:Program)(t:TypeId)(a:Addr)(v:Value)(w:World)(K:World->Prop):Prop:=
 match P.info? t with
 |some i=>bif Nat.beq v.cells.size i.size then
   match v with
   | .agg cs=>∃w',bD a 0 cs.toList w w'/\K w'
   | .tuple _=>False
   |v=>∃w',bD a 0 [v] w w'/\K w'
   else False
 |none=>False
def HL(P:Program)(k:Vk)(s:Sem Value)(w:World)(K:Value->World->Prop):Prop:=
 ∃w',U4 k λv=>s.run P w=.ok v w'/\K v w'
def U1(P:Program)(t:TypeId)(K:Value->Prop):Prop:=
 match P.underlying t with
 |some (.tuple I)=>Tw (I.toList.map (Tb P)) λvs=>K (.tuple vs.toArray)
 |_=>U4 (Tb P t) K
theorem EH{P:Program}{t:TypeId}{K:Value->Prop}(h:U1 P t K):∃v,K v:=by
 unfold U1 at h;split at h
 .obtain ⟨vs,h⟩:=CM h;exact⟨_,h⟩
 .exact A0 h
def T4(P:Program)(t:TypeId)(s:Sem Value)(w:World)(K:Value->World->Prop):Prop:=
 ∃w',U1 P t λv=>s.run P w=.ok v w'/\K v w'
def OF(P:Program)(f:FuncId)(args:Array Value)(t:TypeId)(w:World)(K:Value->World->Prop):Prop:=
 Calls P f args w λe w'=>U1 P t λv=>e=.returned v/\K v w'
def f_(P:Program)(f:FuncId):Bool:=
 match P.funcs[f]? with
 |some fn=>fn.body.isSome && fn.name != "runtime.NumGoroutine"
 |none=>false
def Uw(v:Value)(K:Value->Prop):Prop:=
 match v with
 | .pointer p=>∃a,p=some a/\K (.pointer (some a))
 | .func (.func g) x y=>K (.func (.func g) x y)
 |_=>False
def aV(p:Option Addr)(n:Nat)(i:Int)(size:Nat)(K:Addr->Prop):Prop:=
 ∃a,p=some a/\0<=i/\i<n/\K (a.add (i.toNat*size))
def rT(p:Option Addr)(n c size:Nat)(lo hi mx:Option Int)(K:Option Addr->Nat->Nat->Prop):Prop:=
 ∃l h m:Nat,mx.getD (c:Int)=(m:Int)/\hi.getD (n:Int)=(h:Int)/\lo.getD 0=(l:Int)/\m<=c/\h<=m/\l<=h/\
  K (if m=l then p else p.map (·.add (l*size))) (h - l) (m - l)
def Bu(b:BinOp)(isNil:Bool)(w:World)(K:Value->World->Prop):Prop:=
 match b with
 | .eql=>K (.bool isNil) w
 | .neq=>K (.bool (!isNil)) w
 |_=>False
def Sy(P:Program)(b:BinOp)(t:TypeId)(x y:Operand)(u v:Value)(w:World)(K:Value->World->Prop):Prop:=
 match P.underlying t with
 |some (.int _)=>match u,v with
  | .int k a,.int I c=>
    match b with
    | .shl=>0<=c/\K (.int k (k.wrap (a*2 ^ (min c.toNat k.bits)))) w
    | .shr=>0<=c/\K (.int k (a.fdiv (2 ^ (min c.toNat k.bits)))) w
    |_=>bif k==I then
     match b with
     | .add=>K (.int k (k.wrap (a+c))) w
     | .sub=>K (.int k (k.wrap (a - c))) w
     | .mul=>K (.int k (k.wrap (a*c))) w
     | .quo=>c≠0/\K (.int k (k.wrap (a.tdiv c))) w
     | .rem=>c≠0/\K (.int k (a.tmod c)) w
     | .and=>K (.int k (k.wrap (BitVec.ofInt k.bits a &&& BitVec.ofInt k.bits c).toNat)) w
     | .or=>K (.int k (k.wrap (BitVec.ofInt k.bits a|||BitVec.ofInt k.bits c).toNat)) w
     | .xor=>K (.int k (k.wrap (BitVec.ofInt k.bits a ^^^ BitVec.ofInt k.bits c).toNat)) w
     | .andNot=>K (.int k (k.wrap (BitVec.ofInt k.bits a &&& ~~~ BitVec.ofInt k.bits c).toNat)) w
     | .eql=>K (.bool (a==c)) w
     | .neq=>K (.bool (a !=c)) w
     | .lss=>K (.bool (decide (a<c))) w
     | .leq=>K (.bool (decide (a<=c))) w
     | .gtr=>K (.bool (decide (a>c))) w
     | .geq=>K (.bool (decide (a>=c))) w
     |_=>False
     else False
  |_,_=>False
 |some .bool=>match u,v with
  | .bool a,.bool c=>Bu b (a==c) w K
  |_,_=>False
 |some (.pointer _)=>match v with
  | .pointer none=>match u with
    | .pointer p=>Bu b p.isNone w K
    |_=>False
  |_=>HL P (.bP .bool) (do eqGuard b t x y u v;binOp b t u v) w K
 |some (.slice _)=>match v with
  | .slice none 0 0=>match u with
    | .slice p _ _=>Bu b p.isNone w K
    |_=>False
  |_=>False
 |_=>HL P (.bP .bool) (do eqGuard b t x y u v;binOp b t u v) w K
def Ac(P:Program)(s:TypeId)(k:Nat):Option Nat:=
 match P.underlying s with
 |some (.struct I)=>
  match I[k]? with
  |some f=>match P.info? f.type with
   |some i=>if i.size=0 then none else some f.offset
   |none=>none
  |none=>none
 |_=>none
def nR(P:Program)(t:TypeId):Option Nat:=
 match P.underlying t with
 |some (.slice e)=> (P.info? e).map (·.size)
 |_=>none
def NU(P:Program)(t:TypeId)(cs:Array Value)(off:Nat)(K:Value->Prop):Prop:=
 match xd P t with
 |some true=>match P.info? t with
  |some i=>K (.agg (cs.extract off (off+i.size)))
  |none=>False
 |some false=>match cs[off]? with
  |some v=>K v
  |none=>False
 |none=>False
def HG(P:Program)(s:TypeId)(v:Value)(k:Nat)(K:Value->Prop):Prop:=
 match P.underlying s with
 |some (.struct I)=>
  match I[k]?,v with
  |some f,.agg cs=>NU P f.type cs f.offset K
  |_,_=>False
 |_=>False
def Td:List Value->Option (List Int)
 | []=>some []
 | .int .i64 n::l=> (Td l).map (n:: ·)
 |_::_=>none
def Bo(f:Fr):Option Operand->Option (Option Int)
 |none=>some none
 |some x=>match ev f x with
  | .int .i64 n=>some (some n)
  |_=>none
def aD(b:Bool)(A B:Prop):Prop:=
 match b with
 |true=>A
 |false=>B
theorem ah{b:Bool}{A B:Prop}(ha:b=true->A)(hb:b=false->B):aD b A B:=by
 cases b
 .exact hb rfl
 .exact ha rfl
theorem bJ{b:Bool}{A B:Prop}(h:b=true)(ha:A):aD b A B:=by subst h;exact ha
theorem bq{b:Bool}{A B:Prop}(h:b=false)(hb:B):aD b A B:=by subst h;exact hb
def imax(a b:Int):Int:=if b>a then b else a
def mP(a b:Int):Int:=if b<a then b else a
def EB(f:Fr):List Operand->List Value
 | []=> []
 |x::l=>ev f x::EB f l
def ve(P:Program)(b:Builtin)(argTypes:Array TypeId)(type:TypeId)(args:List Value)(w:World)(K:Value->World->Prop):Prop:=
 match b with
 | .len=>match args with
   | [.slice _ n _]=>match (argTypes[0]?).bind P.underlying with
     |some (.slice _)=>K (.int .i64 n) w
     |_=>False
   | [.map r]=>∃n:Int,(Builtin.len_ argTypes type #[.map r]).run P w=.ok (.int .i64 n) w/\K (.int .i64 n) w
   |_=>False
 | .append=>HL P (.bP .slice) (Builtin.append_ argTypes type args.toArray) w K
 | .copy=>HL P (.bP (.int .i64)) (Builtin.copy_ argTypes type args.toArray) w K
 | .max=>match args with
   | [.int .i64 a,.int .i64 c]=>K (.int .i64 (imax a c)) w
   | [.int .i64 a,.int .i64 c,.int .i64 d]=>K (.int .i64 (imax (imax a c) d)) w
   |_=>False
 | .min=>match args with
   | [.int .i64 a,.int .i64 c]=>K (.int .i64 (mP a c)) w
   | [.int .i64 a,.int .i64 c,.int .i64 d]=>K (.int .i64 (mP (mP a c) d)) w
   |_=>False
 | .delete=>∃w',(Builtin.delete_ argTypes type args.toArray).run P w=.ok (.tuple #[]) w'/\K (.tuple #[]) w'
 | .clear=>∃w',(Builtin.clear_ argTypes type args.toArray).run P w=.ok (.tuple #[]) w'/\K (.tuple #[]) w'
 |_=>False
def RT(t:Bool)(u v:Value)(K:Value->Prop):Prop:=
 match u,v with
 | .bool x,.bool y=>K (.bool (bif t then x else y))
 |u,v=>aD t (K u) (K v)
def Cu(size:Nat):Nat->List (Nat × Operand)->Fr->Option (List Value)
 |_,[],_=>some []
 |k,(i,x)::l,f=>bif Nat.beq i k && Nat.beq (ev f x).cells.size size then (Cu size (k+1) l f).map λr=> (ev f x).cells.toList++r else none
def mE(f:Fr):List (Nat × Operand)->List (Nat × Value)
 | []=> []
 | (i,x)::l=> (i,ev f x)::mE f l
def qq(P:Program):List Field->Option (List (Nat × Nat))
 | []=>some []
 |fd::l=>match P.info? fd.type with
  |some i=> (qq P l).map ((fd.offset,i.size):: ·)
  |none=>none
def Hy(P:Program)(t:TypeId)(parts:List (Nat × Value))(K:Value->Prop):Prop:=
 match P.info? t with
 |some i=>match i.zero,P.underlying t with
  |some z,some (.struct I)=>match qq P I.toList with
   |some ps=>match Instr.fill (λk=>ps[k]?) z.cells parts with
    |some cells=>K (.agg cells)
    |none=>False
   |none=>False
  |_,_=>False
 |none=>False
def tu(P:Program)(o:Oper)(f:Fr)(w:World)(K:Value->World->Prop):Prop:=
 match o.op with
 | .move x| .assign x=>K (ev f x) w
 | .pick c a b=>match ev f c with
   | .bool t=>RT t (ev f a) (ev f b) λv=>K v w
   |_=>False
 | .alloc t=>match P.info? t with
   |some i=>match i.zero with
    |some z=>Mf (.cells z.cells t) w λn w'=>K (.pointer (some ⟨n,0,none⟩)) w'
    |none=>False
   |none=>False
 | .box t x=>Mf (.cells (ev f x).cells t) w λn w'=>K (.pointer (some ⟨n,0,none⟩)) w'
 | .build t parts=>Hy P t (mE f parts.toList) λv=>K v w
 | .buildSlice t len parts=>match P.underlying t with
   |some (.slice e)=>match P.info? e with
    |some i=>bif Nat.blt (len*i.size) 16777217 && Nat.beq parts.toList.length len && i.zero.isSome then
     match Cu i.size 0 parts.toList f with
     |some cs=>Mf (.cells cs.toArray e) w λn w'=>K (.slice (some ⟨n,0,none⟩) len len) w'
     |none=>False
     else False
    |none=>False
   |_=>False
 | .load t x=>match ev f x with
   | .pointer (some a)=>TE P t a w λv=>K v w
   |_=>False
 | .store t x y=>match ev f x with
   | .pointer (some a)=>Vg P t a (ev f y) w λw'=>K undef w'
   |_=>False
 | .nilCheck x=>Uw (ev f x) λv=>K v w
 | .binOp b t x y _=>Sy P b t x y (ev f x) (ev f y) w K
 | .unOp u _ x=>match u,ev f x with
   | .neg,.int k n=>K (.int k (k.wrap (0 - n))) w
   | .not,.bool b=>K (.bool (!b)) w
   |_,_=>False
 | .convert src dst x=>match P.underlying src,P.underlying dst,ev f x with
   |some _,some (.int k),.int _ n=>K (.int k (k.wrap n)) w
   |_,_,_=>False
 | .makeFunc fn first captured=>K (.func fn (EB f first.toList).toArray (EB f captured.toList).toArray) w
 | .makeMap _ r=>match r with
   |none=>Mf (.map #[] 0) w λn w'=>K (.map (some n)) w'
   |some _=>False
 | .makeSlice t l c=>HL P (.bP .slice) (Instr.makeSlice t (ev f l) (ev f c)) w K
 | .slice t x lo hi mx=>match ev f x,nR P t,Bo f lo,Bo f hi,Bo f mx with
   | .slice p n c,some size,some l,some h,some m=>bif h.isSome||m.isNone then rT p n c size l h m λI n' c'=>K (.slice I n' c') w else False
   |_,_,_,_,_=>False
 | .fieldAddr s x k=>match ev f x,Ac P s k with
   | .pointer (some a),some off=>K (.pointer (some (a.add off))) w
   |_,_=>False
 | .field s x k=>HG P s (ev f x) k λv=>K v w
 | .indexAddr t x i=>match ev f x,nR P t,ev f i with
   | .slice p n _,some size,.int _ j=>aV p n j size λa=>K (.pointer (some a)) w
   |_,_,_=>False
 | .index t x i=>match P.underlying t,ev f x,ev f i with
   |some .string,.string s,.int _ j=>∃b,0<=j/\s[j.toNat]? =some b/\K (.int .u8 b.toNat) w
   |_,_,_=>False
 | .lookup t x i ok=>T4 P o.type (Instr.lookup t (ev f x) (ev f i) ok) w K
 | .mapUpdate t m k x=>∃w',(Instr.mapUpdate t (ev f m) (ev f k) (ev f x)).run P w=.ok () w'/\K undef w'
 | .insert t m k x=>∃w',(Instr.mapUpdate t (ev f m) (ev f k) (ev f x)).run P w=.ok () w'/\K undef w'
 | .range t x=>HL P (.bP .ptr) (Instr.range t (ev f x)) w K
 | .next x false=> (∃w',(Instr.next (ev f x) false o.type).run P w=.ok (.tuple #[.bool false]) w'/\K (.tuple #[.bool false]) w')\/
   (∃w',∃k v:Value,(Instr.next (ev f x) false o.type).run P w=.ok (.tuple #[.bool true,k,v]) w'/\K (.tuple #[.bool true,k,v]) w')
 | .entry x=>∃w',∃k:Int,∃v:Value,(Instr.entry (ev f x)).run P w=.ok (.tuple #[.int .i64 k,v]) w'/\K (.tuple #[.int .i64 k,v]) w'
 | .extract x k=>match ev f x with
   | .tuple vs=>match vs[k]? with
     |some v=>K v w
     |none=>False
   |_=>False
 | .call c=>match c.callee with
   | .builtin b=>ve P b c.argTypes o.type (EB f c.args.toList) w K
   | .value (.func g)=>OF P g (EB f c.args.toList).toArray o.type w K
   | .value x=>match ev f x with
     | .func (.func g) first captured=>aD (f_ P g) (OF P g (first++ (EB f c.args.toList).toArray++captured) o.type w K) False
     |_=>False
   | .invoke _ _=>False
 |_=>False
def bF(P:Program)(o:Oper):Nat:=
 match o.op with
 | .move _| .assign _| .pick _ _ _| .build _ _| .nilCheck _| .unOp _ _ _| .convert _ _ _| .makeFunc _ _ _| .slice _ _ _ _ _| .fieldAddr _ _ _
 | .field _ _ _| .indexAddr _ _ _| .index _ _ _| .extract _ _=>0
 | .binOp _ t _ y _=>match P.underlying t with
   |some (.int _)|some .bool|some (.slice _)=>0
   |some (.pointer _)=>match y with
    | .const (.pointer none)=>0
    |_=>2
   |_=>2
 | .load _ _=>1
 | .call c=>match c.callee with
   | .builtin .max| .builtin .min=>0
   | .builtin .len=>1
   |_=>2
 |_=>2
def Gx(P:Program)(I:Array Oper)(o:Oper)(f:Fr)(w:World)(C:Fr->World->Prop):Prop:=
 match o.guard with
 |none=>tu P o f w λv w'=>C (f.set o.dst v) w'
 |some (j,want)=>
  match (I[j]?).bind (·.dst) with
  |none=>False
  |some t=>
   match f t with
   | .bool b=>aD b
      (bif want then tu P o (f.set (some t) (.bool true)) w λv w'=>C ((f.set (some t) (.bool true)).set o.dst v) w'
        else C ((f.set (some t) (.bool true)).set o.dst undef) w)
      (bif want then C ((f.set (some t) (.bool false)).set o.dst undef) w
        else tu P o (f.set (some t) (.bool false)) w λv w'=>C ((f.set (some t) (.bool false)).set o.dst v) w')
   | .tuple _=>C (f.set o.dst undef) w
   |_=>False
def Su(P:Program)(I:Array Oper):List Oper->Fr->World->(Fr->World->Prop)->Prop
 | [],f,w,K=>K f w
 |o::rest,f,w,K=>Gx P I o f w λJ w'=>Su P I rest J w' K
def Cw(B:List Nat)(o:Oper):Nat:=go o.after.toList
where go:List Edge->Nat
 | []=>0
 |e::l=>bif Region.binds .any e then 2 ^ e.on|||B.getD e.on 0|||go l else go l
def mV:List Oper->List Nat->List Nat
 | [],B=>B
 |o::l,B=>mV l (B++ [Cw B o])
def oC(k:Nat):List Edge->Bool
 | []=>true
 |e::l=> (!Region.binds .any e||Nat.blt e.on k) && oC k l
def AI(B:List Nat):Nat->List Oper->Bool
 |_,[]=>true
 |k,o::l=>Nat.beq (B.getD k 0) (Cw B o) && oC k o.after.toList && AI B (k+1) l
def pG(P:Program)(x y:Oper):Bool:=
 Nat.beq (bF P x) 0||Nat.beq (bF P y) 0|| (Nat.beq (bF P x) 1 && Nat.beq (bF P y) 1)
def D7(P:Program)(I:Array Oper)(x:Oper)(i:Nat)(B:List Nat):Nat->List Oper->Bool
 |_,[]=>true
 |j,y::l=> ((B.getD j 0).testBit i|| (x.apart I y && pG P x y)) && D7 P I x i B (j+1) l
def yP(P:Program)(I:Array Oper)(B:List Nat):Nat->List Oper->Bool
 |_,[]=>true
 |i,x::l=>D7 P I x i B (i+1) l && yP P I B (i+1) l
def dG(I:Array Oper):Bool:=Region.noSelect I && AI (mV I.toList []) 0 I.toList
def qT(P:Program)(I:Array Oper):Bool:=dG I && yP P I (mV I.toList []) 0 I.toList
def Ty(P:Program)(I:Array Oper)(B:List Nat)(J:Array Bool)(i:Nat):Bool:=
 (List.range I.size).all λj=>J.getD j true||Nat.beq j i|| (B.getD j 0).testBit i||
   (match I[i]?,I[j]? with
    |some x,some y=>x.apart I y && y.apart I x && pG P x y
    |_,_=>false)
def JF(P:Program)(I:Array Oper)(i:Nat)(f:Fr)(w:World)(C:Fr->World->Prop):Prop:=
 match I[i]? with
 |none=>False
 |some o=>Gx P I o f w C
def QM:List Nat->(Nat->Prop)->Prop
 | [],_=>True
 | [i],C=>C i
 |i::j::l,C=>C i/\QM (j::l) C
def Ub(P:Program)(I:Array Oper)(B:List Nat):Nat->Array Bool->Fr->World->(Fr->World->Prop)->Prop
 |0,_,f,w,K=>K f w
 |n+1,listed,f,w,K=>
  match (Region.ready .any I listed).find? (Ty P I B listed) with
  |some i=>JF P I i f w λJ w'=>Ub P I B n (listed.setIfInBounds i true) J w' K
  |none=>QM (Region.ready .any I listed) λi=>JF P I i f w λJ w'=>Ub P I B n (listed.setIfInBounds i true) J w' K
def GX(P:Program)(I:Array Oper)(f:Fr)(w:World)(K:Fr->World->Prop):Prop:=
 bif qT P I then Su P I I.toList f w K
 else Ub P I (mV I.toList []) I.size (Array.replicate I.size false) f w K
def yY(W:World->Prop)(a:Addr)(v:Value):Prop:=∀u,W u->u.cell? a=some v
def xi(W:World->Prop)(a:Addr)(vs:List Value):Prop:=∀u,W u->aM u a 0 vs
def Vq(P:Program)(t:TypeId)(a:Addr)(W:World->Prop)(K:Value->Prop):Prop:=
 match xd P t with
 |some false=>Lo (QZ P t) λv=>yY W a v/\K v
 |some true=>match P.info? t with
  |some i=>bif Nat.beq i.size (vg P 10 t).length then BK (vg P 10 t) λvs=>xi W a vs/\K (.agg vs.toArray) else False
  |none=>False
 |none=>False
def T6(P:Program)(argTypes:Array TypeId)(type:TypeId)(args:List Value)(W:World->Prop)(w:World)(K:Value->World->Prop):Prop:=
 match args with
 | [.slice _ n _]=>match (argTypes[0]?).bind P.underlying with
   |some (.slice _)=>K (.int .i64 n) w
   |_=>False
 | [.map r]=>∃n:Int,(∀u,W u->(Builtin.len_ argTypes type #[.map r]).run P u=.ok (.int .i64 n) u)/\K (.int .i64 n) w
 |_=>False
def EW(keep:Bool)(W:World->Prop)(w:World)(K:Prop):Prop:=
 match keep with
 |true=>W w/\K
 |false=>K
def SL(P:Program)(W:World->Prop)(keep:Bool)(o:Oper)(f:Fr)(w:World)(K:Value->World->Prop):Prop:=
 match o.op with
 | .load t x=>match ev f x with
   | .pointer (some a)=>Vq P t a W λv=>K v w
   |_=>False
 | .call c=>match c.callee with
   | .builtin .len=>T6 P c.argTypes o.type (EB f c.args.toList) W w K
   | .builtin .max| .builtin .min=>tu P o f w K
   |_=>tu P o f w λv w'=>EW keep W w' (K v w')
 |_=>bif Nat.ble (bF P o) 0 then tu P o f w K else tu P o f w λv w'=>EW keep W w' (K v w')
def Jq(P:Program)(I:Array Oper)(W:World->Prop)(keep:Bool)(o:Oper)(f:Fr)(w:World)(C:Fr->World->Prop):Prop:=
 match o.guard with
 |none=>SL P W keep o f w λv w'=>C (f.set o.dst v) w'
 |some (j,want)=>
  match (I[j]?).bind (·.dst) with
  |none=>False
  |some t=>
   match f t with
   | .bool b=>aD b
      (bif want then SL P W keep o (f.set (some t) (.bool true)) w λv w'=>C ((f.set (some t) (.bool true)).set o.dst v) w'
        else C ((f.set (some t) (.bool true)).set o.dst undef) w)
      (bif want then C ((f.set (some t) (.bool false)).set o.dst undef) w
        else SL P W keep o (f.set (some t) (.bool false)) w λv w'=>C ((f.set (some t) (.bool false)).set o.dst v) w')
   | .tuple _=>C (f.set o.dst undef) w
   |_=>False
def vR(P:Program)(I:Array Oper)(B:List Nat)(i:Nat):Bool:=
 (List.range I.size).any λk=> (match I[k]? with|some o=>Nat.beq (bF P o) 1|none=>false) && !(B.getD i 0).testBit k
def Sc(P:Program)(I:Array Oper)(W:World->Prop)(B:List Nat):Nat->List Oper->Fr->World->(Fr->World->Prop)->Prop
 |_,[],f,w,K=>K f w
 |k,o::rest,f,w,K=>Jq P I W (vR P I B k) o f w λJ w'=>Sc P I W B (k+1) rest J w' K
def oN(P:Program)(x y:Oper):Bool:=Nat.ble (bF P x) 1||Nat.ble (bF P y) 1
def yU(P:Program)(I:Array Oper)(x:Oper)(i:Nat)(B:List Nat):Nat->List Oper->Bool
 |_,[]=>true
 |j,y::l=> ((B.getD j 0).testBit i|| (x.apart I y && oN P x y)) && yU P I x i B (j+1) l
def u6(P:Program)(I:Array Oper)(B:List Nat):Nat->List Oper->Bool
 |_,[]=>true
 |i,x::l=>yU P I x i B (i+1) l && u6 P I B (i+1) l
def vB(P:Program)(I:Array Oper):Bool:=dG I && u6 P I (mV I.toList []) 0 I.toList
def P6(P:Program)(I:Array Oper)(B:List Nat)(J:Array Bool)(i:Nat):Bool:=
 (List.range I.size).all λj=>J.getD j true||Nat.beq j i|| (B.getD j 0).testBit i||
   (match I[i]?,I[j]? with
    |some x,some y=>x.apart I y && y.apart I x && oN P x y
    |_,_=>false)
def Du(P:Program)(I:Array Oper)(W:World->Prop)(B:List Nat)(i:Nat)(f:Fr)(w:World)(C:Fr->World->Prop):Prop:=
 match I[i]? with
 |none=>False
 |some o=>Jq P I W (vR P I B i) o f w C
def LF(P:Program)(I:Array Oper)(W:World->Prop)(B:List Nat):Nat->Array Bool->Fr->World->(Fr->World->Prop)->Prop
 |0,_,f,w,K=>K f w
 |n+1,listed,f,w,K=>
  match (Region.ready .any I listed).find? (P6 P I B listed) with
  |some i=>Du P I W B i f w λJ w'=>LF P I W B n (listed.setIfInBounds i true) J w' K
  |none=>QM (Region.ready .any I listed) λi=>Du P I W B i f w λJ w'=>LF P I W B n (listed.setIfInBounds i true) J w' K
def Jn(P:Program)(I:Array Oper)(f:Fr)(w:World)(K:Fr->World->Prop):Prop:=
 ∃W:World->Prop,W w/\
 bif vB P I then Sc P I W (mV I.toList []) 0 I.toList f w K
 else LF P I W (mV I.toList []) I.size (Array.replicate I.size false) f w K
def Kz:Bk->Type->Type
 | .int _,R=>Int->R
 | .bool,R=>Bool->R
 | .str,R=>ByteArray->R
 | .ptr,R=>Option Addr->R
 | .slice,R=>Option Addr->Nat->Nat->R
 | .map,R=>Option Nat->R
 | .any,R=>Value->R
 | .Ly,R=>Addr->R
 | .fn,R=>FuncId->Array Value->R
def CC:List Bk->Type->Type
 | [],R=>R
 |b::l,R=>Kz b (CC l R)
def OD:Vk->Type->Type
 | .bP b,R=>Kz b R
 | .agg l,R=>CC l R
def Bq:List Vk->Type->Type
 | [],R=>R
 |k::l,R=>OD k (Bq l R)
def Ic{R:Type}:(b:Bk)->Kz b R->Value->(R->Prop)->Prop
 | .int k,I,v,C=>match v with
   | .int J n=>bif k==J then C (I n) else False
   |_=>False
 | .bool,I,v,C=>match v with
   | .bool n=>C (I n)
   |_=>False
 | .str,I,v,C=>match v with
   | .string n=>C (I n)
   |_=>False
 | .ptr,I,v,C=>match v with
   | .pointer n=>C (I n)
   |_=>False
 | .slice,I,v,C=>match v with
   | .slice p n c=>C (I p n c)
   |_=>False
 | .map,I,v,C=>match v with
   | .map n=>C (I n)
   |_=>False
 | .any,I,v,C=>C (I v)
 | .Ly,I,v,C=>match v with
   | .pointer (some a)=>C (I a)
   |_=>False
 | .fn,I,v,C=>match v with
   | .func (.func g) ⟨[]⟩ c=>C (I g c)
   |_=>False
def CB{R:Type}:(l:List Bk)->CC l R->List Value->(R->Prop)->Prop
 | [],I,vs,C=>match vs with
   | []=>C I
   |_::_=>False
 |b::l,I,vs,C=>match vs with
  | []=>False
  |v::vs=>Ic b I v λJ=>CB l J vs C
def uv{R:Type}:(k:Vk)->OD k R->Value->(R->Prop)->Prop
 | .bP b,I,v,C=>Ic b I v C
 | .agg l,I,v,C=>match v with
   | .agg cs=>CB l I cs.toList C
   |_=>False
def ui{R:Type}:(l:List Vk)->Bq l R->List Value->(R->Prop)->Prop
 | [],I,vs,C=>match vs with
   | []=>C I
   |_::_=>False
 |k::l,I,vs,C=>match vs with
  | []=>False
  |v::vs=>uv k I v λJ=>ui l J vs C
def U2{R:Type}:(b:Bk)->Kz b R->(Value->R->Prop)->Prop
 | .int k,I,C=>∀n:Int,C (.int k n) (I n)
 | .bool,I,C=>∀b:Bool,C (.bool b) (I b)
 | .str,I,C=>∀s:ByteArray,C (.string s) (I s)
 | .ptr,I,C=>∀p:Option Addr,C (.pointer p) (I p)
 | .slice,I,C=>∀ (p:Option Addr) (n c:Nat),C (.slice p n c) (I p n c)
 | .map,I,C=>∀r:Option Nat,C (.map r) (I r)
 | .any,I,C=>∀v:Value,C v (I v)
 | .Ly,I,C=>∀a:Addr,C (.pointer (some a)) (I a)
 | .fn,I,C=>∀ (g:FuncId) (c:Array Value),C (.func (.func g) #[] c) (I g c)
def SN{R:Type}:(l:List Bk)->CC l R->(List Value->R->Prop)->Prop
 | [],I,C=>C [] I
 |b::l,I,C=>U2 b I λv J=>SN l J λvs r=>C (v::vs) r
def VI{R:Type}:(k:Vk)->OD k R->(Value->R->Prop)->Prop
 | .bP b,I,C=>U2 b I C
 | .agg l,I,C=>SN l I λvs r=>C (.agg vs.toArray) r
def Rb{R:Type}:(l:List Vk)->Bq l R->(List Value->R->Prop)->Prop
 | [],I,C=>C [] I
 |k::l,I,C=>VI k I λv J=>Rb l J λvs r=>C (v::vs) r
theorem Js{R:Type}{b:Bk}{I:Kz b R}{v:Value}{C:R->Prop}{D:Value->R->Prop}(h:Ic b I v C)(g:U2 b I D):∃r,C r/\D v r:=by
 cases b<;>simp only[Ic]at h<;>simp only[U2]at g
 case int k=>
  split at h
  .rename_i O n;cases J:k==O
   .simp [J]at h
   .rw [J]at h;obtain rfl:=eq_of_beq J;exact⟨_,h,g n⟩
  .exact h.elim
 case any=>exact⟨_,h,g v⟩
 case slice=>
  split at h
  .exact ⟨_,h,g _ _ _⟩
  .exact h.elim
 case fn=>
  split at h
  .exact ⟨_,h,g _ _⟩
  .exact h.elim
 all_goals
  split at h
  .exact ⟨_,h,g _⟩
  .exact h.elim
theorem O4{R:Type}(l:List Bk):∀ {I:CC l R} {vs:List Value} {C:R->Prop} {D:List Value->R->Prop},CB l I vs C->SN l I D->∃r,C r/\D vs r:=by
 induction l with
 |nil=>
  intro I vs C D h g;cases vs with
  |nil=>exact⟨_,h,g⟩
  |cons=>exact h.elim
 |cons b l ih=>
  intro I vs C D h g;cases vs with
  |nil=>exact h.elim
  |cons v vs=>
   obtain⟨_,O,J⟩:=Js h g;exact ih (D:=λvs r=>D (v::vs) r) O J
theorem Q5{R:Type}{k:Vk}{I:OD k R}{v:Value}{C:R->Prop}{D:Value->R->Prop}(h:uv k I v C)(g:VI k I D):∃r,C r/\D v r:=by
 cases k with
 |bP b=>exact Js h g
 |agg l=>
  simp only[uv]at h;split at h
  .rename_i cs;obtain⟨r,J,O⟩:=O4 l h g;exact⟨r,J,by simpa using O⟩
  .exact h.elim
theorem p8{R:Type}(l:List Vk):∀ {I:Bq l R} {vs:List Value} {C:R->Prop} {D:List Value->R->Prop},ui l I vs C->Rb l I D->∃r,C r/\D vs r:=by
 induction l with
 |nil=>
  intro I vs C D h g;cases vs with
  |nil=>exact⟨_,h,g⟩
  |cons=>exact h.elim
 |cons b l ih=>
  intro I vs C D h g;cases vs with
  |nil=>exact h.elim
  |cons v vs=>
   obtain⟨_,O,J⟩:=Q5 h g;exact ih (D:=λvs r=>D (v::vs) r) O J
def uE:Code->List (Nat × TypeId)
 | .region _ ops _=>ops.toList.filterMap λo=>o.dst.map λd=> (d,o.type)
 | .seq a b=>uE a++uE b
 | .cond _ a b=>uE a++uE b
 | .block _ c| .loop c| .scope c=>uE c
 |_=> []
def jH:List (Nat × TypeId)->Nat->Option TypeId
 | [],_=>none
 | (d,t)::l,i=>bif Nat.beq d i then some t else jH l i
def cY:List (Nat × TypeId)->List Value->Nat->Option Value
 | (a,_)::as,v::vs,i=>bif Nat.beq i a then some v else cY as vs i
 |_,_,_=>none
def Rj(c:Code)(as:List (Nat × TypeId))(vs:List Value)(f g:Fr):Fr:=λi=>
 match cY as vs i with
 |some v=>v
 |none=>bif (jH (uE c) i).isNone then f i else g i
def qX(f:Fr):List (Nat × TypeId)->List Value
 | []=> []
 | (a,_)::l=>f a::qX f l
def mH(P:Program):List (Nat × TypeId)->List Vk
 | []=> []
 | (_,t)::l=> (bif Nat.beq t 1000000 then .bP .Ly else Tb P t)::mH P l
inductive te where
 |af
 |aC (a b:te)
 |cut (as:List (Nat × TypeId)) (a b:te)
 |bP (a:te)
 |loop (as:List (Nat × TypeId)) (a:te)
 |dL
abbrev te.ny(x:te):te:=.aC .af x
def te.fst:te->te
 | .aC a _| .cut _ a _| .bP a| .loop _ a=>a
 |_=> .af
def te.snd:te->te
 | .aC _ b| .cut _ _ b=>b
 |_=> .af
def te.Mx:te->Option (List (Nat × TypeId))
 | .cut as _ _=>some as
 |_=>none
def te.zx:te->List (Nat × TypeId)
 | .loop as _=>as
 |_=> []
def te.drawn:te->Bool
 | .dL=>true
 |_=>false
abbrev MF:=Exit->Fr->World->Prop
def ux(P:Program):Code->te->Fr->World->MF->Prop
 | .skip,_,f,w,Q=>Q .normal f w
 | .label _,_,f,w,Q=>Q .normal f w
 | .region _ ops dL,n,f,w,Q=>bif dL then (bif n.drawn then Jn P ops f w.drew λO w'=>Q .normal O w' else GX P ops f w.drew λO w'=>Q .normal O w') else Su P ops ops.toList f w λO w'=>Q .normal O w'
 | .seq a b,n,f,w,Q=>
   match n.Mx with
   |some as=>
    ∃J:Bq (mH P as) (World->Prop),
     ux P a n.fst f w (λe O w'=>match e with
      | .normal=>ui (mH P as) J (qX O as) λr=>r w'
      |e=>Q e O w')/\
     Rb (mH P as) J λvs r=>∀ (w:World) (g:Fr),r w->ux P b n.snd (Rj a as vs f g) w Q
   |none=>ux P a n.fst f w λe O w'=>match e with
    | .normal=>ux P b n.snd O w' Q
    |e=>Q e O w'
 | .cond c a b,n,f,w,Q=>match ev f c with
   | .bool t=>aD t (ux P a n.fst f w Q) (ux P b n.snd f w Q)
   |_=>False
 | .block id c,n,f,w,Q=>ux P c n.fst f w λe O w'=>match e with
   | .exit i=>bif Nat.beq i id then Q .normal O w' else Q (.exit i) O w'
   |e=>Q e O w'
 | .scope c,n,f,w,Q=>ux P c n.fst f w λe O w'=>match e with
   | .goto _=>False
   |e=>Q e O w'
 | .loop c,n,f,w,Q=>
   ∃I:Bq (mH P n.zx) (World->Nat->Prop),
    (ui (mH P n.zx) I (qX f n.zx) λr=>∃k,r w k)/\
    Rb (mH P n.zx) I λvs r=>∀ (w:World) (k:Nat) (g:Fr),r w k->
     ux P c n.fst (Rj c n.zx vs f g) w λe O w'=>match e with
      | .normal=>ui (mH P n.zx) I (qX O n.zx) λr=>∃U,U<k/\r w' U
      |e=>Q e O w'
 | .exit id,_,f,w,Q=>Q (.exit id) f w
 | .ret,_,f,w,Q=>Q .ret f w
 |_,_,_,_,_=>False
def Ay(P:Program)(rs:List ResultVar)(f:Fr)(w:World)(K:List Value->Prop):Prop:=
 match rs with
 | []=>K []
 | .tmp t::l=>Ay P l f w λvs=>K (f t::vs)
 | .cell a t::l=>match f a with
   | .pointer (some p)=>TE P t p w λv=>Ay P l f w λvs=>K (v::vs)
   |_=>False
def jn:List Value->Value
 | [v]=>v
 |vs=> .tuple vs.toArray
def rP:List Value->Fr
 | [],_=>undef
 |v::_,0=>v
 |_::vs,i+1=>rP vs i
def TM(P:Program)(fn:Func)(n:te)(args:List Value)(w:World)(K:Value->World->Prop):Prop:=
 match fn.body with
 |none=>False
 |some c=>ux P c n (rP args) w λe f w'=>match e with
  | .normal| .ret=>Ay P fn.results.toList f w' λvs=>K (jn vs) w'
  |_=>False
