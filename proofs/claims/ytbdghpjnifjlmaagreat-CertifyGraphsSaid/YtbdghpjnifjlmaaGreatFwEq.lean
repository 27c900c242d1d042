/- Equality of structs whose fields are ints. -/
import Derived.Test.YtbdghpjnifjlmaaGreatFwMem
import Derived.Laws.StructEq
set_option linter.all false
namespace Go.Fw
open Go Go.RowKit
variable{P:Program}
def DN(P:Program):Nat->List Field->Bool
 |_,[]=>true
 |i,f::fs=>f.name != "_" && Nat.beq f.offset i && (match P.underlying f.type with|some (.int .i64)=>true|_=>false) && DN P (i+1) fs
def ky(P:Program)(t:TypeId)(n:Nat):Bool:=
 (match P.underlying t with|some (.struct _)=>true|_=>false) && DN P 0 (P.fieldsOf t).toList && Nat.beq (P.fieldsOf t).toList.length n && !P.stoodInHeld t && !P.eqGuardType P.depth t
theorem wH{t:TypeId}{k:IntKind}{cs:Array Value}{off:Nat}{v:Value}{w:World}(ht:P.underlying t=some (.int k))(hv:cs[off]? =some v):(part t cs off).run P w=.ok v w:=by
 unfold part isAgg;simp[Sem.run_bind,run_underlying ht,hv]
theorem AF(d:Nat)(O Q:Array Value):∀ (I:List Field) (i:Nat) (as bs:List Int) (w:World),DN P i I=true->I.length=as.length->as.length=bs.length->
 (∀j a,as[j]? =some a->O[i+j]? =some (.int .i64 a))->(∀j a,bs[j]? =some a->Q[i+j]? =some (.int .i64 a))->(Op.eqFields (d+1) O Q I).run P w=.ok (as==bs) w
 | [],i,[],[],w,_,_,_,_,_=>by simp[Op.eqFields]
 |f::I,i,a::as,b::bs,w,h,hl,hl2,hx,hy=>by
  simp only[DN,ts,ZH,J5]at h;obtain⟨⟨⟨h1,Y⟩,V⟩,h4⟩:=h;have X:f.offset=i:=V_ Y;have ht:P.underlying f.type=some (.int .i64):=by
   split at V
   .assumption
   .simp at V
  have e1:(part f.type O f.offset).run P w=.ok (.int .i64 a) w:=wH ht (by rw[X];exact hx 0 a rfl);have e2:(part f.type Q f.offset).run P w=.ok (.int .i64 b) w:=wH ht (by rw[X];exact hy 0 b rfl);simp only[Op.eqFields,J5,h1,not_false_eq_true,I5,Sem.run_bind,e1,e2,Result.andThen_ok,run_equalIn_int w d f.type .i64 .i64 a b ht];have Z:=AF d O Q I (i+1) as bs w h4 (by simpa using hl) (by simpa using hl2) (λj x U=>by have:=hx (j+1) x (by simpa using U);rwa [show i+1+j=i+ (j+1) by omega]) (λj x U=>by have:=hy (j+1) x (by simpa using U);rwa [show i+1+j=i+ (j+1) by omega]);cases J:(a==b) with
  |false=>simp[J]
  |true=>
   simp only[Bool.not_true,Xo,I8,Z,List.cons_beq_cons,J,W2]
 | [],_,_::_,_,_,_,hl,_,_,_=>by simp at hl
 |_::_,_,[],_,_,_,hl,_,_,_=>by simp at hl
 | [],_,[],_::_,_,_,_,hl,_,_=>by simp at hl
 |_::_,_,_::_,[],_,_,_,hl,_,_=>by simp at hl
theorem tY{t:TypeId}{n:Nat}(h:ky P t n=true)(I J:Array Value)(as bs:List Int)(w:World)(ha:as.length=n)(hb:bs.length=n)(U:I=(as.map (Value.int .i64)).toArray)(Y:J=(bs.map (Value.int .i64)).toArray):
 (Op.equalIn 10000 t (.agg I) (.agg J)).run P w=.ok (as==bs) w:=by
 simp only[ky,ts,WU]at h;obtain⟨⟨⟨⟨h1,O⟩,V⟩,Q⟩,h5⟩:=h;have ht:P.underlying t=some (.struct (P.fieldsOf t)):=by
  unfold Program.fieldsOf;split at h1
  .simp [*]
  .simp at h1
 rw[run_equalIn_agg w 9999 t I J ht Q];have hl:(P.fieldsOf t).toList.length=n:=V_ V;subst U Y;refine AF 9998 _ _ _ 0 as bs w O (by omega) (by omega) ?_ ?_<;>intro j a X<;>simp[X]
theorem ED{t:TypeId}(h:ky P t 2=true)(x y:Operand)(a b J I:Int)(w:World):
 (do eqGuard .neq t x y (.agg #[.int .i64 a,.int .i64 b]) (.agg #[.int .i64 J,.int .i64 I]);binOp .neq t (.agg #[.int .i64 a,.int .i64 b]) (.agg #[.int .i64 J,.int .i64 I])).run P w=.ok (.bool (!([a,b]== [J,I]))) w:=by
 have O:P.eqGuardType P.depth t=false:=by simp[ky]at h;exact h.2
 rw[Sem.run_bind,run_eqGuard_agg _ _ _ _ _ _ _ O,Result.andThen_ok,run_neq_struct,tY h #[.int .i64 a,.int .i64 b] #[.int .i64 J,.int .i64 I] [a,b] [J,I] w rfl rfl rfl rfl,Result.andThen_ok]
theorem Fq{t:TypeId}(h:ky P t 2=true)(x y:Operand)(a b J I:Int)(w:World):
 (do eqGuard .eql t x y (.agg #[.int .i64 a,.int .i64 b]) (.agg #[.int .i64 J,.int .i64 I]);binOp .eql t (.agg #[.int .i64 a,.int .i64 b]) (.agg #[.int .i64 J,.int .i64 I])).run P w=.ok (.bool ([a,b]== [J,I])) w:=by
 have O:P.eqGuardType P.depth t=false:=by simp[ky]at h;exact h.2
 rw[Sem.run_bind,run_eqGuard_agg _ _ _ _ _ _ _ O,Result.andThen_ok,run_eql_struct,tY h #[.int .i64 a,.int .i64 b] #[.int .i64 J,.int .i64 I] [a,b] [J,I] w rfl rfl rfl rfl,Result.andThen_ok]
