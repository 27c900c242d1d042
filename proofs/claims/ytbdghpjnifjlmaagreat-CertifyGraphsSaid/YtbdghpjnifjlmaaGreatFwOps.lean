/- Each operation of the frame does what the base does. -/
import Derived.Test.YtbdghpjnifjlmaaGreatFwCore
set_option linter.all false
namespace Go.Fw
open Go
variable{P:Program}
theorem Ju(t:TypeId)(w:World):(underlying t).run P w=match P.underlying t with
 |some d=> .ok d w
 |none=> .halt (.stuck "no such type") w:=by
 unfold underlying;simp only[Sem.run_bind,run_program,Result.andThen_ok];cases P.underlying t<;>simp
theorem cH{t:TypeId}{d:TypeDesc}(h:P.underlying t=some d)(w:World):(underlying t).run P w=.ok d w:=by
 rw[Ju,h]
theorem eS{t:TypeId}{i:TypeInfo}(h:P.info? t=some i)(w:World):(typeInfo t).run P w=.ok i w:=by
 unfold typeInfo;simp only[Sem.run_bind,run_program,Result.andThen_ok,h,Sem.run_pure]
theorem eO{t:TypeId}{i:TypeInfo}(h:P.info? t=some i)(w:World):(sizeOf t).run P w=.ok i.size w:=by
 unfold sizeOf;simp only[Sem.run_bind,eS h,Result.andThen_ok,Sem.run_pure]
theorem ti{t:TypeId}{b:Bool}(h:xd P t=some b)(w:World):(isAgg t).run P w=.ok b w:=by
 unfold isAgg xd at*
 simp only[Sem.run_bind,Ju];cases I:P.underlying t with
 |none=>simp[I]at h
 |some d=>
  rw[I]at h;cases d<;>simp_all
theorem uh(a:Addr):∀ (vs:List Value) (i:Nat) (I:Array Value) (w:World),aM w a i vs->
 (loadCellsFrom a i vs.length I).run P w=.ok (I++vs.toArray) w
 | [],i,I,w,_=>by simp[loadCellsFrom]
 |v::vs,i,I,w,h=>by
  simp only[Wz,loadCellsFrom,Sem.run_bind,run_load,h.1,Result.andThen_ok];rw[uh a vs (i+1) (I.push v) w h.2];simp
theorem F4{t:TypeId}{a:Addr}{w:World}{K:Value->Prop}(h:TE P t a w K):
 ∃v,(loadVar t a).run P w=.ok v w/\K v:=by
 unfold TE at h;unfold loadVar;cases hb:xd P t with
 |none=>simp[hb]at h
 |some b=>
  cases b with
  |false=>
   simp only[hb]at h;obtain⟨v,J,I⟩:=wx h;refine⟨v,?_,I⟩;simp[Sem.run_bind,ti hb,J]
  |true=>
   simp only[hb]at h;cases hi:P.info? t with
   |none=>simp[hi]at h
   |some i=>
    simp only[hi]at h;cases hs:Nat.beq i.size (vg P 10 t).length with
    |false=>simp[hs]at h
    |true=>
     simp only[hs,I6]at h;have O:i.size=(vg P 10 t).length:=V_ hs;have:∀ (l:List Bk) (C:List Value->Prop),BK l C->∃vs,vs.length=l.length/\C vs:=by
      intro l
      induction l with
      |nil=>intro C h;exact⟨[],rfl,h⟩
      |cons b l Q=>
       intro C h;obtain⟨v,h⟩:=wx h;obtain⟨vs,hl,h⟩:=Q _ h;exact⟨v::vs,by simp[hl],h⟩
     obtain⟨vs,hl,J,I⟩:=this _ _ h;refine⟨_,?_,I⟩;simp only[Sem.run_bind,ti hb,Result.andThen_ok,I5,eO hi,loadCells];rw[O,<- hl,uh a vs 0 #[] w J];simp
theorem jo(a:Addr):∀ (vs:List Value) (i:Nat) (w w':World),bD a i vs w w'->
 (storeCells a vs i).run P w=.ok () w'
 | [],i,w,w',h=>by simp[storeCells,bD]at*;exact h.symm
 |v::vs,i,w,w',⟨⟨u,hu⟩,hf,hv,h⟩=>by
  have hs:(store (a.add i) v).run P w=.ok () (w.setCell (a.add i) v):=by
   cases v<;>simp_all[store,Sem.run,jA]
  simp only[storeCells,Sem.run_bind,hs,Result.andThen_ok];exact jo a vs (i+1) _ _ h
theorem N9{t:TypeId}{a:Addr}{v:Value}{w:World}{K:World->Prop}(h:Vg P t a v w K):
 ∃w',(storeVar t a v).run P w=.ok () w'/\K w':=by
 unfold Vg at h;cases hi:P.info? t with
 |none=>simp[hi]at h
 |some i=>
  simp only[hi]at h;cases hs:Nat.beq v.cells.size i.size with
  |false=>simp[hs]at h
  |true=>
   simp only[hs,I6]at h;have I:v.cells.size=i.size:=V_ hs;unfold storeVar;simp only[Sem.run_bind,eO hi,Result.andThen_ok,I,J5,ZJ,I8];have bP:∀v:Value,v.cells= #[v]->jA v=true->(∃w',bD a 0 [v] w w'/\K w')->
    ∃w',((Pure.pure PUnit.unit:Sem PUnit).run P w).andThen (λ_ w=> (storeCells a v.cells.toList 0).run P w)=.ok () w'/\K w':=by
    intro v hv Q ⟨w',J,O⟩;refine⟨w',?_,O⟩;simp only[Sem.run_pure,Result.andThen_ok,hv];exact jo a [v] 0 w _ J
   cases v
   case agg cs=>
    obtain⟨w',J,O⟩:=h;exact⟨w',by simpa[Value.cells]using jo (P:=P) a cs.toList 0 w w' J,O⟩
   case tuple=>exact h.elim
   all_goals exact bP _ rfl rfl h
def lK(P:Program)(K:Value->World->Prop):Result Next->Prop
 | .ok (.value v) w'=>K v w'
 | .ok .skip w'=>K undef w'
 | .ok (.enter g args) w'=>Calls P g args w' λe I=>∃v,e=.returned v/\K v I
 |_=>False
def yA(P:Program)(k:Nat)(s:Sem Next)(w:World)(K:Value->World->Prop):Prop:=
 match k with
 |0=>∃v,(∀w',s.run P w'=.ok (.value v) w')/\K v w
 |1=>∃v,s.run P w=.ok (.value v) w/\K v w
 |_=>lK P K (s.run P w)
theorem DD{k:Nat}{s:Sem Next}{w:World}{K:Value->World->Prop}{v:Value}(h:∀w',s.run P w'=.ok (.value v) w')(I:K v w):yA P k s w K:=by
 match k with
 |0=>exact⟨v,h,I⟩
 |1=>exact⟨v,h w,I⟩
 |_+2=>simp only[yA,h w,lK];exact I
theorem c9{s:Sem Next}{w:World}{K:Value->World->Prop}(h:lK P K (s.run P w)):yA P 2 s w K:=h
theorem D1(f:Fr):∀l:List Operand,EB f l=l.map (ev f)
 | []=>rfl
 |x::l=>by simp[EB,D1 f l]
theorem uM(f:Fr):∀l:List (Nat × Operand),mE f l=l.map λ(i,x)=> (i,ev f x)
 | []=>rfl
 | (i,x)::l=>by simp[mE,uM f l]
theorem zo{α β:Type}(g:α->β)(I:Array α):I.map g=(I.toList.map g).toArray:=by
 cases I;simp
