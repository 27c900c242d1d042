/- Each operation of the frame does what the base does. -/
import Derived.Test.YtbdghpjnifjlmaaGreatFwCore
namespace Go.Fw
open Go
variable {P:Program}
theorem run_und (t:TypeId) (w:World):(underlying t).run P w=match P.underlying t with
 |some d=> .ok d w
 |none=> .halt (.stuck "no such type") w:=by
 unfold underlying
 simp only [Sem.run_bind,run_program,Result.andThen_ok]
 cases P.underlying t<;>simp
theorem run_und_some {t:TypeId} {d:TypeDesc} (h:P.underlying t=some d) (w:World):(underlying t).run P w= .ok d w:=by
 rw [run_und,h]
theorem run_info_some {t:TypeId} {i:TypeInfo} (h:P.info? t=some i) (w:World):(typeInfo t).run P w= .ok i w:=by
 unfold typeInfo
 simp only [Sem.run_bind,run_program,Result.andThen_ok,h,Sem.run_pure]
theorem run_size_some {t:TypeId} {i:TypeInfo} (h:P.info? t=some i) (w:World):(sizeOf t).run P w= .ok i.size w:=by
 unfold sizeOf
 simp only [Sem.run_bind,run_info_some h,Result.andThen_ok,Sem.run_pure]
theorem run_isAgg {t:TypeId} {b:Bool} (h:isAggT P t=some b) (w:World):(isAgg t).run P w= .ok b w:=by
 unfold isAgg isAggT at*
 simp only [Sem.run_bind,run_und]
 cases hd:P.underlying t with
 |none=>simp [hd] at h
 |some d=>
  rw [hd] at h
  cases d<;>simp_all
theorem run_loadCells (a:Addr): ∀ (vs:List Value) (i:Nat) (acc:Array Value) (w:World),CellsAt w a i vs→
 (loadCellsFrom a i vs.length acc).run P w= .ok (acc++vs.toArray) w
 | [],i,acc,w,_=>by simp [loadCellsFrom]
 |v::vs,i,acc,w,h=>by
  simp only [List.length_cons,loadCellsFrom,Sem.run_bind,run_load,h.1,Result.andThen_ok]
  rw [run_loadCells a vs (i+1) (acc.push v) w h.2]
  simp
theorem ldK_spec {t:TypeId} {a:Addr} {w:World} {K:Value→Prop} (h:ldK P t a w K):
 ∃v,(loadVar t a).run P w= .ok v w∧K v:=by
 unfold ldK at h
 unfold loadVar
 cases hb:isAggT P t with
 |none=>simp [hb] at h
 |some b=>
  cases b with
  |false=>
   simp only [hb] at h
   obtain ⟨v,hc,hk⟩:=exB_spec h
   refine ⟨v,?_,hk⟩
   simp [Sem.run_bind,run_isAgg hb,hc]
  |true=>
   simp only [hb] at h
   cases hi:P.info? t with
   |none=>simp [hi] at h
   |some i=>
    simp only [hi] at h
    cases hs:Nat.beq i.size (bksOf P 10 t).length with
    |false=>simp [hs] at h
    |true=>
     simp only [hs,cond_true] at h
     have hs':i.size=(bksOf P 10 t).length:=Nat.eq_of_beq_eq_true hs
     have: ∀ (l:List Bk) (C:List Value→Prop),exBs l C→∃vs,vs.length=l.length∧C vs:=by
      intro l
      induction l with
      |nil=>intro C h;exact ⟨[],rfl,h⟩
      |cons b l ih=>
       intro C h
       obtain ⟨v,h⟩:=exB_spec h
       obtain ⟨vs,hl,h⟩:=ih _ h
       exact ⟨v::vs,by simp [hl],h⟩
     obtain ⟨vs,hl,hc,hk⟩:=this _ _ h
     refine ⟨_,?_,hk⟩
     simp only [Sem.run_bind,run_isAgg hb,Result.andThen_ok,if_true,run_size_some hi,loadCells]
     rw [hs',← hl,run_loadCells a vs 0 #[] w hc]
     simp
theorem run_storeCells (a:Addr): ∀ (vs:List Value) (i:Nat) (w w':World),StoreAt a i vs w w'→
 (storeCells a vs i).run P w= .ok () w'
 | [],i,w,w',h=>by simp [storeCells,StoreAt] at*;exact h.symm
 |v::vs,i,w,w',⟨⟨u,hu⟩,hf,hv,h⟩=>by
  have hs:(store (a.add i) v).run P w= .ok () (w.setCell (a.add i) v):=by
   cases v<;>simp_all [store,Sem.run,oneCell]
  simp only [storeCells,Sem.run_bind,hs,Result.andThen_ok]
  exact run_storeCells a vs (i+1) _ _ h
theorem stK_spec {t:TypeId} {a:Addr} {v:Value} {w:World} {K:World→Prop} (h:stK P t a v w K):
 ∃w',(storeVar t a v).run P w= .ok () w'∧K w':=by
 unfold stK at h
 cases hi:P.info? t with
 |none=>simp [hi] at h
 |some i=>
  simp only [hi] at h
  cases hs:Nat.beq v.cells.size i.size with
  |false=>simp [hs] at h
  |true=>
   simp only [hs,cond_true] at h
   have hs':v.cells.size=i.size:=Nat.eq_of_beq_eq_true hs
   unfold storeVar
   simp only [Sem.run_bind,run_size_some hi,Result.andThen_ok,hs',ne_eq,not_true_eq_false,if_false]
   have one: ∀v:Value,v.cells= #[v]→oneCell v=true→(∃w',StoreAt a 0 [v] w w'∧K w')→
    ∃w',((Pure.pure PUnit.unit:Sem PUnit).run P w).andThen (fun _ w=> (storeCells a v.cells.toList 0).run P w)= .ok () w'∧K w':=by
    intro v hv ho ⟨w',hw,hk⟩
    refine ⟨w',?_,hk⟩
    simp only [Sem.run_pure,Result.andThen_ok,hv]
    exact run_storeCells a [v] 0 w _ hw
   cases v
   case agg cs=>
    obtain ⟨w',hw,hk⟩:=h
    exact ⟨w',by simpa [Value.cells] using run_storeCells (P:=P) a cs.toList 0 w w' hw,hk⟩
   case tuple=>exact h.elim
   all_goals exact one _ rfl rfl h
def uponK (P:Program) (K:Value→World→Prop):Result Next→Prop
 | .ok (.value v) w'=>K v w'
 | .ok .skip w'=>K undef w'
 | .ok (.enter g args) w'=>Calls P g args w' fun e w''=> ∃v,e= .returned v∧K v w''
 |_=>False
def evid (P:Program) (k:Nat) (s:Sem Next) (w:World) (K:Value→World→Prop):Prop:=
 match k with
 |0=> ∃v,(∀w',s.run P w'= .ok (.value v) w')∧K v w
 |1=> ∃v,s.run P w= .ok (.value v) w∧K v w
 |_=>uponK P K (s.run P w)
theorem evid_of_pure {k:Nat} {s:Sem Next} {w:World} {K:Value→World→Prop} {v:Value} (h: ∀w',s.run P w'= .ok (.value v) w') (hk:K v w):evid P k s w K:=by
 match k with
 |0=>exact ⟨v,h,hk⟩
 |1=>exact ⟨v,h w,hk⟩
 |_+2=>simp only [evid,h w,uponK];exact hk
theorem evid_two {s:Sem Next} {w:World} {K:Value→World→Prop} (h:uponK P K (s.run P w)):evid P 2 s w K:=h
theorem evs_eq (f:Fr): ∀l:List Operand,evs f l=l.map (ev f)
 | []=>rfl
 |x::l=>by simp [evs,evs_eq f l]
theorem partsOf_eq (f:Fr): ∀l:List (Nat × Operand),partsOf f l=l.map fun (i,x)=> (i,ev f x)
 | []=>rfl
 | (i,x)::l=>by simp [partsOf,partsOf_eq f l]
theorem map_arr {α β:Type} (g:α→β) (xs:Array α):xs.map g=(xs.toList.map g).toArray:=by
 cases xs;simp
end Go.Fw
