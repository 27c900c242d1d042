/- Each operation of the frame does what the base does: all forms. -/
import Derived.Test.YtenmibfmhccmiaaGreatFwOps2
namespace Go.Fw
open Go
variable {P:Program}
theorem AO {s:TypeId} {a:Addr} {k off:Nat} (h:uT P s k=some off) (w:World):
 (Instr.fieldAt s (.pointer (some a)) k).run P w= .ok (.pointer (some (a.add off))) w:=by
 unfold uT at h;split at h
 . rename_i O hu;split at h
   . rename_i J hf;split at h
     . rename_i i hi;split at h
       . simp at h
       . rename_i I;simp only [Option.some.injEq] at h;subst h;unfold Instr.fieldAt;simp only [Sem.run_bind,bT hu,Result.andThen_ok,hf,Instr.sureAddr,fieldPlace,Sem.run_pure,dC hi,if_neg I]
     . simp at h
   . simp at h
 . simp at h
theorem oW {t:TypeId} {size:Nat} (h:lh P t=some size): ∃e i,P.underlying t=some (.slice e)/\P.info? e=some i/\i.size=size:=by
 unfold lh at h;split at h
 . rename_i e hu;cases hi:P.info? e with
   |none=>simp [hi] at h
   |some i=>exact ⟨e,i,hu,hi,by simpa [hi] using h⟩
 . simp at h
theorem BE {t:TypeId} {p:Option Addr} {n c size:Nat} {k:IntKind} {j:Int} {K:Addr->Prop} (hs:lh P t=some size) (h:aP p n j size K):
 ∃a,(∀w,(Instr.indexAt t (.slice p n c) (.int k j)).run P w= .ok (.pointer (some a)) w)/\K a:=by
 obtain ⟨a,rfl,J,h1,I⟩:=h;obtain ⟨e,i,hu,hi,rfl⟩:=oW hs;refine ⟨_,fun w=> ?_,I⟩;unfold Instr.indexAt;simp only [asIntOf,Sem.run_bind,Sem.run_pure,Result.andThen_ok,bT hu];simp [J,h1,dC hi]
theorem iz {x:Int} {y n:Nat} {k:IntKind} {c:BoundsCode} (h:x=(n:Int)) (hn:n<=y) (w:World):(Instr.sliceBound (.int k x) y c).run P w= .ok n w:=by
 subst h;unfold Instr.sliceBound;simp only [asIntOf,Sem.run_bind,Sem.run_pure,Result.andThen_ok];rw [if_pos ⟨by omega,by omega⟩];simp
theorem oZ {f:Fr} {x:Option Operand} {r:Option Int} (h:uH f x=some r):x.map (ev f)=r.map (Value.int .i64):=by
 unfold uH at h;cases x with
 |none=>simp at h;subst h;rfl
 |some x=>
  simp only at h;split at h
  . rename_i n he;simp only [Option.some.injEq] at h;subst h;simp [he]
  . simp at h
theorem Bj {t:TypeId} {p:Option Addr} {n c size:Nat} {lo hi mx:Option Int} {K:Option Addr->Nat->Nat->Prop} (hs:lh P t=some size) (hm:hi=none->mx=none)
 (h:nZ p n c size lo hi mx K):
 ∃X n' c',(∀w,(Instr.sliceAt t (.slice p n c) (lo.map (Value.int .i64)) (hi.map (Value.int .i64)) (mx.map (Value.int .i64))).run P w= .ok (.slice X n' c') w)/\K X n' c':=by
 obtain ⟨l,u,m,h1,Q,J,U,I,O,Y⟩:=h;obtain ⟨e,i,hu,V,rfl⟩:=oW hs;refine ⟨_,_,_,fun w=> ?_,Y⟩;unfold Instr.sliceAt;simp only [Sem.run_bind,bT hu,Result.andThen_ok];unfold Instr.slice;simp only [Sem.run_bind,bT hu,Result.andThen_ok];have hb:(Instr.sliceBounds true n c (lo.map (Value.int .i64)) (hi.map (Value.int .i64)) (mx.map (Value.int .i64))).run P w= .ok (l,u,m) w:=by
  unfold Instr.sliceBounds;cases mx with
  |none=>
   simp only [Option.getD_none] at h1;obtain rfl:m=c:=by omega
   cases hi with
   |none=>
    simp only [Option.getD_none] at Q;obtain rfl:u=n:=by omega
    cases lo with
    |none=>
     simp only [Option.getD_none] at J;obtain rfl:l=0:=by omega
     simp
    |some x=>
     simp only [Option.getD_some] at J;simp [iz J O]
   |some y=>
    simp only [Option.getD_some] at Q;cases lo with
    |none=>
     simp only [Option.getD_none] at J;obtain rfl:l=0:=by omega
     simp [iz Q I]
    |some x=>
     simp only [Option.getD_some] at J;simp [iz Q I,iz J O]
  |some z=>
   simp only [Option.getD_some] at h1;cases hi with
   |none=>exact absurd (hm rfl) (by simp)
   |some y=>
    simp only [Option.getD_some] at Q;cases lo with
    |none=>
     simp only [Option.getD_none] at J;obtain rfl:l=0:=by omega
     simp [iz h1 U,iz Q I]
    |some x=>
     simp only [Option.getD_some] at J;simp [iz h1 U,iz Q I,iz J O]
 rw [hb];simp only [Result.andThen_ok,dC V,Sem.run_pure]
theorem Cr {t:TypeId} {cs:Array Value} {off:Nat} {K:Value->Prop} (h:Im P t cs off K): ∃v,(∀w,(part t cs off).run P w= .ok v w)/\K v:=by
 unfold Im at h;unfold part;split at h
 . rename_i hb;split at h
   . rename_i i hi;exact ⟨_,fun w=>by simp only [Sem.run_bind,pU hb,Result.andThen_ok,if_true,dC hi,Sem.run_pure],h⟩
   . exact h.elim
 . rename_i hb;split at h
   . rename_i v hv;exact ⟨v,fun w=>by simp only [Sem.run_bind,pU hb,Result.andThen_ok,Bool.false_eq_true,if_false,hv,Sem.run_pure],h⟩
   . exact h.elim
 . exact h.elim
theorem By {s:TypeId} {v:Value} {k:Nat} {K:Value->Prop} (h:Do P s v k K): ∃u,(∀w,(Instr.field s v k).run P w= .ok u w)/\K u:=by
 unfold Do at h;split at h
 . rename_i O hu;split at h
   . rename_i J cs hf;obtain ⟨u,hr,I⟩:=Cr h;refine ⟨u,fun w=> ?_,I⟩;unfold Instr.field;simp only [Sem.run_bind,bT hu,Result.andThen_ok,hf,asAgg,Sem.run_pure,hr]
   . exact h.elim
 . exact h.elim
theorem Am {t:TypeId} {f:Fr} {parts:Array (Nat × Operand)} {K:Value->Prop} (h:De P t (j9 f parts.toList) K):
 ∃v,(∀w,(Instr.build t (parts.map fun (i,x)=> (i,ev f x))).run P w= .ok v w)/\K v:=by
 unfold De at h;split at h
 . rename_i i hi;split at h
   . rename_i z X Y hu;split at h
     . rename_i ps Q;split at h
       . rename_i cells V;refine ⟨_,fun w=> ?_,h⟩;unfold Instr.build;have O:(zeroValue t).run P w= .ok z w:=by
          unfold zeroValue;simp only [Sem.run_bind,eS hi,Result.andThen_ok,Y,Sem.run_pure]
         have I:(X.mapM fun U=> (do pure (U.offset,<- sizeOf U.type):Sem (Nat × Nat))).run P w= .ok ps.toArray w:=by
          rw [Array.mapM_eq_mapM_toList];simp only [Sem.run_map,yE _ _ Q,Result.andThen_ok]
         simp only [Sem.run_bind,O,Result.andThen_ok,bT hu];rw [I];simp only [Result.andThen_ok];have he:(parts.map fun (i,x)=> (i,ev f x)).toList=j9 f parts.toList:=by
          rw [qE];simp
         have J:Instr.fill (fun k=>ps.toArray[k]?) z.cells (parts.map fun (i,x)=> (i,ev f x)).toList=some cells:=by
          rw [he];simpa using V
         simp only [J,Sem.run_pure]
       . exact h.elim
     . exact h.elim
   . exact h.elim
 . exact h.elim
end Go.Fw
