/- Each operation of the frame does what the base does. -/
import Derived.Test.YtenmibfmhccmiaaGreatFwCore
namespace Go.Fw
open Go
variable {P:Program}
theorem Cl (t:TypeId) (w:World):(underlying t).run P w=match P.underlying t with
 |some d=> .ok d w
 |none=> .halt (.stuck "no such type") w:=by
 unfold underlying;simp only [Sem.run_bind,run_program,Result.andThen_ok];cases P.underlying t<;>simp
theorem bT {t:TypeId} {d:TypeDesc} (h:P.underlying t=some d) (w:World):(underlying t).run P w= .ok d w:=by
 rw [Cl,h]
theorem fD {t:TypeId} {i:TypeInfo} (h:P.info? t=some i) (w:World):(typeInfo t).run P w= .ok i w:=by
 unfold typeInfo;simp only [Sem.run_bind,run_program,Result.andThen_ok,h,Sem.run_pure]
theorem dP {t:TypeId} {i:TypeInfo} (h:P.info? t=some i) (w:World):(sizeOf t).run P w= .ok i.size w:=by
 unfold sizeOf;simp only [Sem.run_bind,fD h,Result.andThen_ok,Sem.run_pure]
theorem oR {t:TypeId} {b:Bool} (h:rA P t=some b) (w:World):(isAgg t).run P w= .ok b w:=by
 unfold isAgg rA at*
 simp only [Sem.run_bind,Cl];cases I:P.underlying t with
 |none=>simp [I] at h
 |some d=>
  rw [I] at h;cases d<;>simp_all
theorem pq (a:Addr): ∀ (vs:List Value) (i:Nat) (I:Array Value) (w:World),aD w a i vs->
 (loadCellsFrom a i vs.length I).run P w= .ok (I++vs.toArray) w
 | [],i,I,w,_=>by simp [loadCellsFrom]
 |v::vs,i,I,w,h=>by
  simp only [List.length_cons,loadCellsFrom,Sem.run_bind,run_load,h.1,Result.andThen_ok];rw [pq a vs (i+1) (I.push v) w h.2];simp
theorem zi {t:TypeId} {a:Addr} {w:World} {K:Value->Prop} (h:JH P t a w K):
 ∃v,(loadVar t a).run P w= .ok v w/\K v:=by
 unfold JH at h;unfold loadVar;cases hb:rA P t with
 |none=>simp [hb] at h
 |some b=>
  cases b with
  |false=>
   simp only [hb] at h;obtain ⟨v,O,J⟩:=pY h;refine ⟨v,?_,J⟩;simp [Sem.run_bind,oR hb,O]
  |true=>
   simp only [hb] at h;cases hi:P.info? t with
   |none=>simp [hi] at h
   |some i=>
    simp only [hi] at h;cases hs:Nat.beq i.size (pW P 10 t).length with
    |false=>simp [hs] at h
    |true=>
     simp only [hs,cond_true] at h;have I:i.size=(pW P 10 t).length:=Nat.eq_of_beq_eq_true hs;have: ∀ (l:List Bk) (C:List Value->Prop),vf l C->∃vs,vs.length=l.length/\C vs:=by
      intro l
      induction l with
      |nil=>intro C h;exact ⟨[],rfl,h⟩
      |cons b l Q=>
       intro C h;obtain ⟨v,h⟩:=pY h;obtain ⟨vs,hl,h⟩:=Q _ h;exact ⟨v::vs,by simp [hl],h⟩
     obtain ⟨vs,hl,O,J⟩:=this _ _ h;refine ⟨_,?_,J⟩;simp only [Sem.run_bind,oR hb,Result.andThen_ok,if_true,dP hi,loadCells];rw [I,<- hl,pq a vs 0 #[] w O];simp
theorem gI (a:Addr): ∀ (vs:List Value) (i:Nat) (w w':World),af a i vs w w'->
 (storeCells a vs i).run P w= .ok () w'
 | [],i,w,w',h=>by simp [storeCells,af] at*;exact h.symm
 |v::vs,i,w,w',⟨⟨u,hu⟩,hf,hv,h⟩=>by
  have hs:(store (a.add i) v).run P w= .ok () (w.setCell (a.add i) v):=by
   cases v<;>simp_all [store,Sem.run,iz]
  simp only [storeCells,Sem.run_bind,hs,Result.andThen_ok];exact gI a vs (i+1) _ _ h
theorem GQ {t:TypeId} {a:Addr} {v:Value} {w:World} {K:World->Prop} (h:Mr P t a v w K):
 ∃w',(storeVar t a v).run P w= .ok () w'/\K w':=by
 unfold Mr at h;cases hi:P.info? t with
 |none=>simp [hi] at h
 |some i=>
  simp only [hi] at h;cases hs:Nat.beq v.cells.size i.size with
  |false=>simp [hs] at h
  |true=>
   simp only [hs,cond_true] at h;have O:v.cells.size=i.size:=Nat.eq_of_beq_eq_true hs;unfold storeVar;simp only [Sem.run_bind,dP hi,Result.andThen_ok,O,ne_eq,not_true_eq_false,if_false];have bS: ∀v:Value,v.cells= #[v]->iz v=true->(∃w',af a 0 [v] w w'/\K w')->
    ∃w',((Pure.pure PUnit.unit:Sem PUnit).run P w).andThen (fun _ w=> (storeCells a v.cells.toList 0).run P w)= .ok () w'/\K w':=by
    intro v hv Q ⟨w',J,I⟩;refine ⟨w',?_,I⟩;simp only [Sem.run_pure,Result.andThen_ok,hv];exact gI a [v] 0 w _ J
   cases v
   case agg cs=>
    obtain ⟨w',J,I⟩:=h;exact ⟨w',by simpa [Value.cells] using gI (P:=P) a cs.toList 0 w w' J,I⟩
   case tuple=>exact h.elim
   all_goals exact bS _ rfl rfl h
def i4 (P:Program) (K:Value->World->Prop):Result Next->Prop
 | .ok (.value v) w'=>K v w'
 | .ok .skip w'=>K undef w'
 | .ok (.enter g args) w'=>Calls P g args w' fun e I=> ∃v,e= .returned v/\K v I
 |_=>False
def si (P:Program) (k:Nat) (s:Sem Next) (w:World) (K:Value->World->Prop):Prop:=
 match k with
 |0=> ∃v,(∀w',s.run P w'= .ok (.value v) w')/\K v w
 |1=> ∃v,s.run P w= .ok (.value v) w/\K v w
 |_=>i4 P K (s.run P w)
theorem xy {k:Nat} {s:Sem Next} {w:World} {K:Value->World->Prop} {v:Value} (h: ∀w',s.run P w'= .ok (.value v) w') (I:K v w):si P k s w K:=by
 match k with
 |0=>exact ⟨v,h,I⟩
 |1=>exact ⟨v,h w,I⟩
 |_+2=>simp only [si,h w,i4];exact I
theorem cF {s:Sem Next} {w:World} {K:Value->World->Prop} (h:i4 P K (s.run P w)):si P 2 s w K:=h
theorem xG (f:Fr): ∀l:List Operand,yw f l=l.map (ev f)
 | []=>rfl
 |x::l=>by simp [yw,xG f l]
theorem pH (f:Fr): ∀l:List (Nat × Operand),jF f l=l.map fun (i,x)=> (i,ev f x)
 | []=>rfl
 | (i,x)::l=>by simp [jF,pH f l]
theorem sM {α β:Type} (g:α->β) (I:Array α):I.map g=(I.toList.map g).toArray:=by
 cases I;simp
end Go.Fw
