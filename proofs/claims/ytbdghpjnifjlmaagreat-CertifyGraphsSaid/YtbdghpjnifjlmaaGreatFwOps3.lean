/- Each operation of the frame does what the base does: all forms. -/
import Derived.Test.YtbdghpjnifjlmaaGreatFwOps2
set_option linter.all false
namespace Go.Fw
open Go
variable{P:Program}
theorem Fb{s:TypeId}{a:Addr}{k off:Nat}(h:Ac P s k=some off)(w:World):
 (Instr.fieldAt s (.pointer (some a)) k).run P w=.ok (.pointer (some (a.add off))) w:=by
 unfold Ac at h;split at h
 .rename_i J hu;split at h
  .rename_i O hf;split at h
   .rename_i i hi;split at h
    .simp at h
    .rename_i I;simp only[Wu]at h;subst h;unfold Instr.fieldAt;simp only[Sem.run_bind,cH hu,Result.andThen_ok,hf,Instr.sureAddr,fieldPlace,Sem.run_pure,eO hi,r8 I]
   .simp at h
  .simp at h
 .simp at h
theorem rU{t:TypeId}{size:Nat}(h:nR P t=some size):∃e i,P.underlying t=some (.slice e)/\P.info? e=some i/\i.size=size:=by
 unfold nR at h;split at h
 .rename_i e hu;cases hi:P.info? e with
  |none=>simp[hi]at h
  |some i=>exact⟨e,i,hu,hi,by simpa[hi]using h⟩
 .simp at h
theorem FW{t:TypeId}{p:Option Addr}{n c size:Nat}{k:IntKind}{j:Int}{K:Addr->Prop}(hs:nR P t=some size)(h:aV p n j size K):
 ∃a,(∀w,(Instr.indexAt t (.slice p n c) (.int k j)).run P w=.ok (.pointer (some a)) w)/\K a:=by
 obtain⟨a,rfl,J,h1,I⟩:=h;obtain⟨e,i,hu,hi,rfl⟩:=rU hs;refine⟨_,λw=>?_,I⟩;unfold Instr.indexAt;simp only[asIntOf,Sem.run_bind,Sem.run_pure,Result.andThen_ok,cH hu];simp[J,h1,eO hi]
theorem jy{x:Int}{y n:Nat}{k:IntKind}{c:BoundsCode}(h:x=(n:Int))(hn:n<=y)(w:World):(Instr.sliceBound (.int k x) y c).run P w=.ok n w:=by
 subst h;unfold Instr.sliceBound;simp only[asIntOf,Sem.run_bind,Sem.run_pure,Result.andThen_ok];rw[v8 ⟨by omega,by omega⟩];simp
theorem sU{f:Fr}{x:Option Operand}{r:Option Int}(h:Bo f x=some r):x.map (ev f)=r.map (Value.int .i64):=by
 unfold Bo at h;cases x with
 |none=>simp at h;subst h;rfl
 |some x=>
  simp only at h;split at h
  .rename_i n he;simp only[Wu]at h;subst h;simp[he]
  .simp at h
theorem FR{t:TypeId}{p:Option Addr}{n c size:Nat}{lo hi mx:Option Int}{K:Option Addr->Nat->Nat->Prop}(hs:nR P t=some size)(hm:hi=none->mx=none)
 (h:rT p n c size lo hi mx K):
 ∃X n' c',(∀w,(Instr.sliceAt t (.slice p n c) (lo.map (Value.int .i64)) (hi.map (Value.int .i64)) (mx.map (Value.int .i64))).run P w=.ok (.slice X n' c') w)/\K X n' c':=by
 obtain⟨l,u,m,h1,O,J,U,I,Q,Y⟩:=h;obtain⟨e,i,hu,V,rfl⟩:=rU hs;refine⟨_,_,_,λw=>?_,Y⟩;unfold Instr.sliceAt;simp only[Sem.run_bind,cH hu,Result.andThen_ok];unfold Instr.slice;simp only[Sem.run_bind,cH hu,Result.andThen_ok];have hb:(Instr.sliceBounds true n c (lo.map (Value.int .i64)) (hi.map (Value.int .i64)) (mx.map (Value.int .i64))).run P w=.ok (l,u,m) w:=by
  unfold Instr.sliceBounds;cases mx with
  |none=>
   simp only[YO]at h1;obtain rfl:m=c:=by omega
   cases hi with
   |none=>
    simp only[YO]at O;obtain rfl:u=n:=by omega
    cases lo with
    |none=>
     simp only[YO]at J;obtain rfl:l=0:=by omega
     simp
    |some x=>
     simp only[Wn]at J;simp[jy J Q]
   |some y=>
    simp only[Wn]at O;cases lo with
    |none=>
     simp only[YO]at J;obtain rfl:l=0:=by omega
     simp[jy O I]
    |some x=>
     simp only[Wn]at J;simp[jy O I,jy J Q]
  |some z=>
   simp only[Wn]at h1;cases hi with
   |none=>exact absurd (hm rfl) (by simp)
   |some y=>
    simp only[Wn]at O;cases lo with
    |none=>
     simp only[YO]at J;obtain rfl:l=0:=by omega
     simp[jy h1 U,jy O I]
    |some x=>
     simp only[Wn]at J;simp[jy h1 U,jy O I,jy J Q]
 rw[hb];simp only[Result.andThen_ok,eO V,Sem.run_pure]
theorem GW{t:TypeId}{cs:Array Value}{off:Nat}{K:Value->Prop}(h:NU P t cs off K):∃v,(∀w,(part t cs off).run P w=.ok v w)/\K v:=by
 unfold NU at h;unfold part;split at h
 .rename_i hb;split at h
  .rename_i i hi;exact⟨_,λw=>by simp only[Sem.run_bind,ti hb,Result.andThen_ok,I5,eO hi,Sem.run_pure],h⟩
  .exact h.elim
 .rename_i hb;split at h
  .rename_i v hv;exact⟨v,λw=>by simp only[Sem.run_bind,ti hb,Result.andThen_ok,Xo,I8,hv,Sem.run_pure],h⟩
  .exact h.elim
 .exact h.elim
theorem Ff{s:TypeId}{v:Value}{k:Nat}{K:Value->Prop}(h:HG P s v k K):∃u,(∀w,(Instr.field s v k).run P w=.ok u w)/\K u:=by
 unfold HG at h;split at h
 .rename_i J hu;split at h
  .rename_i O cs hf;obtain⟨u,hr,I⟩:=GW h;refine⟨u,λw=>?_,I⟩;unfold Instr.field;simp only[Sem.run_bind,cH hu,Result.andThen_ok,hf,asAgg,Sem.run_pure,hr]
  .exact h.elim
 .exact h.elim
theorem ES{t:TypeId}{f:Fr}{parts:Array (Nat × Operand)}{K:Value->Prop}(h:Hy P t (mE f parts.toList) K):
 ∃v,(∀w,(Instr.build t (parts.map λ(i,x)=> (i,ev f x))).run P w=.ok v w)/\K v:=by
 unfold Hy at h;split at h
 .rename_i i hi;split at h
  .rename_i z V Y hu;split at h
   .rename_i ps Q;split at h
    .rename_i cells X;refine⟨_,λw=>?_,h⟩;unfold Instr.build;have J:(zeroValue t).run P w=.ok z w:=by
      unfold zeroValue;simp only[Sem.run_bind,eS hi,Result.andThen_ok,Y,Sem.run_pure]
     have I:(V.mapM λU=> (do pure (U.offset,<- sizeOf U.type):Sem (Nat × Nat))).run P w=.ok ps.toArray w:=by
      rw[XU];simp only[Sem.run_map,Da _ _ Q,Result.andThen_ok]
     simp only[Sem.run_bind,J,Result.andThen_ok,cH hu];rw[I];simp only[Result.andThen_ok];have he:(parts.map λ(i,x)=> (i,ev f x)).toList=mE f parts.toList:=by
      rw[uM];simp
     have O:Instr.fill (λk=>ps.toArray[k]?) z.cells (parts.map λ(i,x)=> (i,ev f x)).toList=some cells:=by
      rw[he];simpa using X
     simp only[O,Sem.run_pure]
    .exact h.elim
   .exact h.elim
  .exact h.elim
 .exact h.elim
