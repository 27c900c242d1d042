/- Equality of structs whose fields are ints. -/
import Derived.Test.YtddffgjagppimaaGreatFwMem
import Derived.Laws.StructEq
namespace Go.Fw
open Go Go.RowKit
variable {P:Program}
def allInt (P:Program):Nat→List Field→Bool
 |_,[]=>true
 |i,f::fs=>f.name != "_" && Nat.beq f.offset i && (match P.underlying f.type with|some (.int .i64)=>true|_=>false) && allInt P (i+1) fs
def structInts (P:Program) (t:TypeId) (n:Nat):Bool:=
 (match P.underlying t with|some (.struct _)=>true|_=>false) && allInt P 0 (P.fieldsOf t).toList && Nat.beq (P.fieldsOf t).toList.length n && !P.stoodInHeld t && !P.eqGuardType P.depth t
theorem run_part_int {t:TypeId} {k:IntKind} {cs:Array Value} {off:Nat} {v:Value} {w:World} (ht:P.underlying t=some (.int k)) (hv:cs[off]? =some v):(part t cs off).run P w= .ok v w:=by
 unfold part isAgg
 simp [Sem.run_bind,run_underlying ht,hv]
theorem run_eqInts (d:Nat) (xs ys:Array Value): ∀ (fs:List Field) (i:Nat) (as bs:List Int) (w:World),allInt P i fs=true→fs.length=as.length→as.length=bs.length→
 (∀j a,as[j]? =some a→xs[i+j]? =some (.int .i64 a))→(∀j a,bs[j]? =some a→ys[i+j]? =some (.int .i64 a))→(Op.eqFields (d+1) xs ys fs).run P w= .ok (as==bs) w
 | [],i,[],[],w,_,_,_,_,_=>by simp [Op.eqFields]
 |f::fs,i,a::as,b::bs,w,h,hl,hl2,hx,hy=>by
  simp only [allInt,Bool.and_eq_true,bne_iff_ne,ne_eq] at h
  obtain ⟨⟨⟨h1,h2⟩,h3⟩,h4⟩:=h
  have ho:f.offset=i:=Nat.eq_of_beq_eq_true h2
  have ht:P.underlying f.type=some (.int .i64):=by
   split at h3
   · assumption
   · simp at h3
  have e1:(part f.type xs f.offset).run P w= .ok (.int .i64 a) w:=run_part_int ht (by rw [ho];exact hx 0 a rfl)
  have e2:(part f.type ys f.offset).run P w= .ok (.int .i64 b) w:=run_part_int ht (by rw [ho];exact hy 0 b rfl)
  simp only [Op.eqFields,ne_eq,h1,not_false_eq_true,if_true,Sem.run_bind,e1,e2,Result.andThen_ok,run_equalIn_int w d f.type .i64 .i64 a b ht]
  have ih:=run_eqInts d xs ys fs (i+1) as bs w h4 (by simpa using hl) (by simpa using hl2) (fun j x hj=>by have:=hx (j+1) x (by simpa using hj);rwa [show i+1+j=i+ (j+1) by omega]) (fun j x hj=>by have:=hy (j+1) x (by simpa using hj);rwa [show i+1+j=i+ (j+1) by omega])
  cases hab:(a==b) with
  |false=>simp [hab]
  |true=>
   simp only [Bool.not_true,Bool.false_eq_true,if_false,ih,List.cons_beq_cons,hab,Bool.true_and]
 | [],_,_::_,_,_,_,hl,_,_,_=>by simp at hl
 |_::_,_,[],_,_,_,hl,_,_,_=>by simp at hl
 | [],_,[],_::_,_,_,_,hl,_,_=>by simp at hl
 |_::_,_,_::_,[],_,_,_,hl,_,_=>by simp at hl
theorem run_equalInts {t:TypeId} {n:Nat} (h:structInts P t n=true) (xs ys:Array Value) (as bs:List Int) (w:World) (ha:as.length=n) (hb:bs.length=n) (hx:xs=(as.map (Value.int .i64)).toArray) (hy:ys=(bs.map (Value.int .i64)).toArray):
 (Op.equalIn 10000 t (.agg xs) (.agg ys)).run P w= .ok (as==bs) w:=by
 simp only [structInts,Bool.and_eq_true,Bool.not_eq_true'] at h
 obtain ⟨⟨⟨⟨h1,h2⟩,h3⟩,h4⟩,h5⟩:=h
 have ht:P.underlying t=some (.struct (P.fieldsOf t)):=by
  unfold Program.fieldsOf
  split at h1
  · simp [*]
  · simp at h1
 rw [run_equalIn_agg w 9999 t xs ys ht h4]
 have hl:(P.fieldsOf t).toList.length=n:=Nat.eq_of_beq_eq_true h3
 subst hx hy
 refine run_eqInts 9998 _ _ _ 0 as bs w h2 (by omega) (by omega) ?_ ?_<;>intro j a hj<;>simp [hj]
theorem run_neq2 {t:TypeId} (h:structInts P t 2=true) (x y:Operand) (a b a' b':Int) (w:World):
 (do eqGuard .neq t x y (.agg #[.int .i64 a,.int .i64 b]) (.agg #[.int .i64 a',.int .i64 b']);binOp .neq t (.agg #[.int .i64 a,.int .i64 b]) (.agg #[.int .i64 a',.int .i64 b'])).run P w= .ok (.bool (!([a,b]== [a',b']))) w:=by
 have hg:P.eqGuardType P.depth t=false:=by simp [structInts] at h;exact h.2
 rw [Sem.run_bind,run_eqGuard_agg _ _ _ _ _ _ _ hg,Result.andThen_ok,run_neq_struct,run_equalInts h #[.int .i64 a,.int .i64 b] #[.int .i64 a',.int .i64 b'] [a,b] [a',b'] w rfl rfl rfl rfl,Result.andThen_ok]
end Go.Fw
