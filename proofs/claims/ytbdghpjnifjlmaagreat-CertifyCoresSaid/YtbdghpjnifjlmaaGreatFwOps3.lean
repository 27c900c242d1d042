/- Each operation of the frame does what the base does: all forms. -/
import Derived.Test.YtbdghpjnifjlmaaGreatFwOps2
namespace Go.Fw
open Go
variable {P:Program}
theorem Ep {s:TypeId} {a:Addr} {k off:Nat} (h:zC P s k=some off) (w:World):
 (Instr.fieldAt s (.pointer (some a)) k).run P w=.ok (.pointer (some (a.add off))) w:=by
 unfold zC at h;split at h
 . rename_i O hu;split at h
   . rename_i J hf;split at h
     . rename_i i hi;split at h
       . simp at h
       . rename_i I;simp only [U4] at h;subst h;unfold Instr.fieldAt;simp only [Sem.run_bind,cH hu,Result.andThen_ok,hf,Instr.sureAddr,fieldPlace,Sem.run_pure,eJ hi,if_neg I]
     . simp at h
   . simp at h
 . simp at h
theorem sI {t:TypeId} {size:Nat} (h:nP P t=some size):∃e i,P.underlying t=some (.slice e)/\P.info? e=some i/\i.size=size:=by
 unfold nP at h;split at h
 . rename_i e hu;cases hi:P.info? e with
   |none=>simp [hi] at h
   |some i=>exact ⟨e,i,hu,hi,by simpa [hi] using h⟩
 . simp at h
theorem DO {t:TypeId} {p:Option Addr} {n c size:Nat} {k:IntKind} {j:Int} {K:Addr->Prop} (hs:nP P t=some size) (h:aW p n j size K):
 ∃a,(∀w,(Instr.indexAt t (.slice p n c) (.int k j)).run P w=.ok (.pointer (some a)) w)/\K a:=by
 obtain ⟨a,rfl,I,h1,J⟩:=h;obtain ⟨e,i,hu,hi,rfl⟩:=sI hs;refine ⟨_,λw=>?_,J⟩;unfold Instr.indexAt;simp only [asIntOf,Sem.run_bind,Sem.run_pure,Result.andThen_ok,cH hu];simp [I,h1,eJ hi]
theorem jF {x:Int} {y n:Nat} {k:IntKind} {c:BoundsCode} (h:x=(n:Int)) (hn:n<=y) (w:World):(Instr.sliceBound (.int k x) y c).run P w=.ok n w:=by
 subst h;unfold Instr.sliceBound;simp only [asIntOf,Sem.run_bind,Sem.run_pure,Result.andThen_ok];rw [if_pos ⟨by omega,by omega⟩];simp
theorem sg {f:Fr} {x:Option Operand} {r:Option Int} (h:zk f x=some r):x.map (ev f)=r.map (Value.int .i64):=by
 unfold zk at h;cases x with
 |none=>simp at h;subst h;rfl
 |some x=>
  simp only at h;split at h
  . rename_i n he;simp only [U4] at h;subst h;simp [he]
  . simp at h
theorem ED {t:TypeId} {p:Option Addr} {n c size:Nat} {lo hi mx:Option Int} {K:Option Addr->Nat->Nat->Prop} (hs:nP P t=some size) (hm:hi=none->mx=none)
 (h:pw p n c size lo hi mx K):
 ∃X n' c',(∀w,(Instr.sliceAt t (.slice p n c) (lo.map (Value.int .i64)) (hi.map (Value.int .i64)) (mx.map (Value.int .i64))).run P w=.ok (.slice X n' c') w)/\K X n' c':=by
 obtain ⟨l,u,m,h1,O,J,U,I,Q,Y⟩:=h;obtain ⟨e,i,hu,V,rfl⟩:=sI hs;refine ⟨_,_,_,λw=>?_,Y⟩;unfold Instr.sliceAt;simp only [Sem.run_bind,cH hu,Result.andThen_ok];unfold Instr.slice;simp only [Sem.run_bind,cH hu,Result.andThen_ok];have hb:(Instr.sliceBounds true n c (lo.map (Value.int .i64)) (hi.map (Value.int .i64)) (mx.map (Value.int .i64))).run P w=.ok (l,u,m) w:=by
  unfold Instr.sliceBounds;cases mx with
  |none=>
   simp only [Xm] at h1;obtain rfl:m=c:=by omega
   cases hi with
   |none=>
    simp only [Xm] at O;obtain rfl:u=n:=by omega
    cases lo with
    |none=>
     simp only [Xm] at J;obtain rfl:l=0:=by omega
     simp
    |some x=>
     simp only [US] at J;simp [jF J Q]
   |some y=>
    simp only [US] at O;cases lo with
    |none=>
     simp only [Xm] at J;obtain rfl:l=0:=by omega
     simp [jF O I]
    |some x=>
     simp only [US] at J;simp [jF O I,jF J Q]
  |some z=>
   simp only [US] at h1;cases hi with
   |none=>exact absurd (hm rfl) (by simp)
   |some y=>
    simp only [US] at O;cases lo with
    |none=>
     simp only [Xm] at J;obtain rfl:l=0:=by omega
     simp [jF h1 U,jF O I]
    |some x=>
     simp only [US] at J;simp [jF h1 U,jF O I,jF J Q]
 rw [hb];simp only [Result.andThen_ok,eJ V,Sem.run_pure]
theorem FX {t:TypeId} {cs:Array Value} {off:Nat} {K:Value->Prop} (h:LG P t cs off K):∃v,(∀w,(part t cs off).run P w=.ok v w)/\K v:=by
 unfold LG at h;unfold part;split at h
 . rename_i hb;split at h
   . rename_i i hi;exact ⟨_,λw=>by simp only [Sem.run_bind,sR hb,Result.andThen_ok,if_true,eJ hi,Sem.run_pure],h⟩
   . exact h.elim
 . rename_i hb;split at h
   . rename_i v hv;exact ⟨v,λw=>by simp only [Sem.run_bind,sR hb,Result.andThen_ok,VW,if_false,hv,Sem.run_pure],h⟩
   . exact h.elim
 . exact h.elim
theorem Fc {s:TypeId} {v:Value} {k:Nat} {K:Value->Prop} (h:F4 P s v k K):∃u,(∀w,(Instr.field s v k).run P w=.ok u w)/\K u:=by
 unfold F4 at h;split at h
 . rename_i O hu;split at h
   . rename_i J cs hf;obtain ⟨u,hr,I⟩:=FX h;refine ⟨u,λw=>?_,I⟩;unfold Instr.field;simp only [Sem.run_bind,cH hu,Result.andThen_ok,hf,asAgg,Sem.run_pure,hr]
   . exact h.elim
 . exact h.elim
theorem DY {t:TypeId} {f:Fr} {parts:Array (Nat × Operand)} {K:Value->Prop} (h:F0 P t (mC f parts.toList) K):
 ∃v,(∀w,(Instr.build t (parts.map λ(i,x)=> (i,ev f x))).run P w=.ok v w)/\K v:=by
 unfold F0 at h;split at h
 . rename_i i hi;split at h
   . rename_i z X V hu;split at h
     . rename_i ps Q;split at h
       . rename_i cells Y;refine ⟨_,λw=>?_,h⟩;unfold Instr.build;have I:(zeroValue t).run P w=.ok z w:=by
          unfold zeroValue;simp only [Sem.run_bind,eM hi,Result.andThen_ok,V,Sem.run_pure]
         have O:(X.mapM λU=> (do pure (U.offset,<- sizeOf U.type):Sem (Nat × Nat))).run P w=.ok ps.toArray w:=by
          rw [Wp];simp only [Sem.run_map,Bl _ _ Q,Result.andThen_ok]
         simp only [Sem.run_bind,I,Result.andThen_ok,cH hu];rw [O];simp only [Result.andThen_ok];have he:(parts.map λ(i,x)=> (i,ev f x)).toList=mC f parts.toList:=by
          rw [tS];simp
         have J:Instr.fill (λk=>ps.toArray[k]?) z.cells (parts.map λ(i,x)=> (i,ev f x)).toList=some cells:=by
          rw [he];simpa using Y
         simp only [J,Sem.run_pure]
       . exact h.elim
     . exact h.elim
   . exact h.elim
 . exact h.elim
end Go.Fw
