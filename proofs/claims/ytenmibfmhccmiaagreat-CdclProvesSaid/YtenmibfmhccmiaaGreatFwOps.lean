/- Each operation of the frame does what the base does. -/
import Derived.Test.YtenmibfmhccmiaaGreatFwCore
namespace Go.Fw
open Go
variable {P:Program}
theorem DI (t:TypeId) (w:World):(underlying t).run P w=match P.underlying t with
 |some d=> .ok d w
 |none=> .halt (.stuck "no such type") w:=by
 unfold underlying;simp only [Sem.run_bind,run_program,Result.andThen_ok];cases P.underlying t<;>simp
theorem bT {t:TypeId} {d:TypeDesc} (h:P.underlying t=some d) (w:World):(underlying t).run P w= .ok d w:=by
 rw [DI,h]
theorem eS {t:TypeId} {i:TypeInfo} (h:P.info? t=some i) (w:World):(typeInfo t).run P w= .ok i w:=by
 unfold typeInfo;simp only [Sem.run_bind,run_program,Result.andThen_ok,h,Sem.run_pure]
theorem dC {t:TypeId} {i:TypeInfo} (h:P.info? t=some i) (w:World):(sizeOf t).run P w= .ok i.size w:=by
 unfold sizeOf;simp only [Sem.run_bind,eS h,Result.andThen_ok,Sem.run_pure]
theorem pU {t:TypeId} {b:Bool} (h:se P t=some b) (w:World):(isAgg t).run P w= .ok b w:=by
 unfold isAgg se at*
 simp only [Sem.run_bind,DI];cases I:P.underlying t with
 |none=>simp [I] at h
 |some d=>
  rw [I] at h;cases d<;>simp_all
theorem qy (a:Addr): ∀ (vs:List Value) (i:Nat) (I:Array Value) (w:World),aB w a i vs->
 (loadCellsFrom a i vs.length I).run P w= .ok (I++vs.toArray) w
 | [],i,I,w,_=>by simp [loadCellsFrom]
 |v::vs,i,I,w,h=>by
  simp only [List.length_cons,loadCellsFrom,Sem.run_bind,run_load,h.1,Result.andThen_ok];rw [qy a vs (i+1) (I.push v) w h.2];simp
theorem Af {t:TypeId} {a:Addr} {w:World} {K:Value->Prop} (h:Lg P t a w K):
 ∃v,(loadVar t a).run P w= .ok v w/\K v:=by
 unfold Lg at h;unfold loadVar;cases hb:se P t with
 |none=>simp [hb] at h
 |some b=>
  cases b with
  |false=>
   simp only [hb] at h;obtain ⟨v,J,I⟩:=rx h;refine ⟨v,?_,I⟩;simp [Sem.run_bind,pU hb,J]
  |true=>
   simp only [hb] at h;cases hi:P.info? t with
   |none=>simp [hi] at h
   |some i=>
    simp only [hi] at h;cases hs:Nat.beq i.size (rD P 10 t).length with
    |false=>simp [hs] at h
    |true=>
     simp only [hs,cond_true] at h;have O:i.size=(rD P 10 t).length:=Nat.eq_of_beq_eq_true hs;have: ∀ (l:List Bk) (C:List Value->Prop),wX l C->∃vs,vs.length=l.length/\C vs:=by
      intro l
      induction l with
      |nil=>intro C h;exact ⟨[],rfl,h⟩
      |cons b l Q=>
       intro C h;obtain ⟨v,h⟩:=rx h;obtain ⟨vs,hl,h⟩:=Q _ h;exact ⟨v::vs,by simp [hl],h⟩
     obtain ⟨vs,hl,J,I⟩:=this _ _ h;refine ⟨_,?_,I⟩;simp only [Sem.run_bind,pU hb,Result.andThen_ok,if_true,dC hi,loadCells];rw [O,<- hl,qy a vs 0 #[] w J];simp
theorem jv (a:Addr): ∀ (vs:List Value) (i:Nat) (w w':World),ah a i vs w w'->
 (storeCells a vs i).run P w= .ok () w'
 | [],i,w,w',h=>by simp [storeCells,ah] at*;exact h.symm
 |v::vs,i,w,w',⟨⟨u,hu⟩,hf,hv,h⟩=>by
  have hs:(store (a.add i) v).run P w= .ok () (w.setCell (a.add i) v):=by
   cases v<;>simp_all [store,Sem.run,iU]
  simp only [storeCells,Sem.run_bind,hs,Result.andThen_ok];exact jv a vs (i+1) _ _ h
theorem Gp {t:TypeId} {a:Addr} {v:Value} {w:World} {K:World->Prop} (h:NX P t a v w K):
 ∃w',(storeVar t a v).run P w= .ok () w'/\K w':=by
 unfold NX at h;cases hi:P.info? t with
 |none=>simp [hi] at h
 |some i=>
  simp only [hi] at h;cases hs:Nat.beq v.cells.size i.size with
  |false=>simp [hs] at h
  |true=>
   simp only [hs,cond_true] at h;have J:v.cells.size=i.size:=Nat.eq_of_beq_eq_true hs;unfold storeVar;simp only [Sem.run_bind,dC hi,Result.andThen_ok,J,ne_eq,not_true_eq_false,if_false];have bH: ∀v:Value,v.cells= #[v]->iU v=true->(∃w',ah a 0 [v] w w'/\K w')->
    ∃w',((Pure.pure PUnit.unit:Sem PUnit).run P w).andThen (fun _ w=> (storeCells a v.cells.toList 0).run P w)= .ok () w'/\K w':=by
    intro v hv Q ⟨w',O,I⟩;refine ⟨w',?_,I⟩;simp only [Sem.run_pure,Result.andThen_ok,hv];exact jv a [v] 0 w _ O
   cases v
   case agg cs=>
    obtain ⟨w',O,I⟩:=h;exact ⟨w',by simpa [Value.cells] using jv (P:=P) a cs.toList 0 w w' O,I⟩
   case tuple=>exact h.elim
   all_goals exact bH _ rfl rfl h
def jA (P:Program) (K:Value->World->Prop):Result Next->Prop
 | .ok (.value v) w'=>K v w'
 | .ok .skip w'=>K undef w'
 | .ok (.enter g args) w'=>Calls P g args w' fun e I=> ∃v,e= .returned v/\K v I
 |_=>False
def tL (P:Program) (k:Nat) (s:Sem Next) (w:World) (K:Value->World->Prop):Prop:=
 match k with
 |0=> ∃v,(∀w',s.run P w'= .ok (.value v) w')/\K v w
 |1=> ∃v,s.run P w= .ok (.value v) w/\K v w
 |_=>jA P K (s.run P w)
theorem ze {k:Nat} {s:Sem Next} {w:World} {K:Value->World->Prop} {v:Value} (h: ∀w',s.run P w'= .ok (.value v) w') (I:K v w):tL P k s w K:=by
 match k with
 |0=>exact ⟨v,h,I⟩
 |1=>exact ⟨v,h w,I⟩
 |_+2=>simp only [tL,h w,jA];exact I
theorem cE {s:Sem Next} {w:World} {K:Value->World->Prop} (h:jA P K (s.run P w)):tL P 2 s w K:=h
theorem yP (f:Fr): ∀l:List Operand,Ab f l=l.map (ev f)
 | []=>rfl
 |x::l=>by simp [Ab,yP f l]
theorem qE (f:Fr): ∀l:List (Nat × Operand),j9 f l=l.map fun (i,x)=> (i,ev f x)
 | []=>rfl
 | (i,x)::l=>by simp [j9,qE f l]
theorem ua {α β:Type} (g:α->β) (I:Array α):I.map g=(I.toList.map g).toArray:=by
 cases I;simp
end Go.Fw
