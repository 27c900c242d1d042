/- What an argument that reads as data is in the heap: by the shape of its type. -/
import Derived.Test.YtbdghpjnifjlmaaGreatFwMem
import Derived.ChangeReads
import Derived.ChangeArms
import Derived.DataReads
import Derived.WideShapes
import Derived.RowKit
import Derived.ChangeOld
import Derived.Below
import Derived.DataShut
import Derived.ChangeSame
namespace Go.Fw
open Go Go.RowKit Go.ChangeShapes Go.WideShapes
inductive Sh where
 |int (k:IntKind)|bool|sl (e:Sh)|nil|cons (a b:Sh)
def Sh.size:Sh→Nat
 | .int _| .bool| .sl _=>1
 | .nil=>0
 | .cons a b=>a.size+b.size
def Rd (w:World):Sh→List Value→Prop
 | .int k,cs=> ∃n,cs= [.int k n]∧(Lit.int k n).wf=true
 | .bool,cs=> ∃b,cs= [.bool b]
 | .sl e,cs=>cs= [.slice none 0 0]∨∃ (a:Addr) (len cap:Nat),cs= [.slice (some a) len cap]∧len≤cap∧cap≤maxLen∧
    ∀i,i<len→∃es,es.length=e.size∧CellsAt w (a.add (i*e.size)) 0 es∧Rd w e es
 | .nil,cs=>cs= []
 | .cons a b,cs=> ∃x y,cs=x++y∧Rd w a x∧Rd w b y
def shFs (P:Program) (r:TypeId→Option Sh):Nat→List Field→Option Sh
 |_,[]=>some .nil
 |off,f::l=>match r f.type with
  |some s=>if f.offset=off∧P.cellsOf f.type=s.size then (shFs P r (off+s.size) l).map (.cons s ·) else none
  |none=>none
def shOf (P:Program):Nat→TypeId→Option Sh
 |0,_=>none
 |n+1,t=>match P.underlying t with
  |some (.int k)=>some (.int k)
  |some .bool=>some .bool
  |some (.slice e)=>match shOf P n e with
   |some s=>if P.cellsOf e=s.size then some (.sl s) else none
   |none=>none
  |some (.struct fs)=>match shFs P (shOf P n) 0 fs.toList with
   |some s=>if P.cellsOf t=s.size then some s else none
   |none=>none
  |_=>none
theorem shFs_not {P:Program} {r:TypeId→Option Sh}: ∀ {l:List Field} {off:Nat} {s:Sh},shFs P r off l=some s→s= .nil∨∃a b,s= .cons a b
 | [],_,s,h=>by simp [shFs] at h;exact .inl h.symm
 |f::l,off,s,h=>by
  simp only [shFs] at h
  split at h
  · split at h
    · simp only [Option.map_eq_some_iff] at h
      obtain ⟨b,_,rfl⟩:=h
      exact .inr ⟨_,_,rfl⟩
    · simp at h
  · simp at h
theorem CellsAt.of_get {w:World} {a:Addr}: ∀ {vs:List Value} {i:Nat},(∀j v,vs[j]? =some v→w.cell? (a.add (i+j))=some v)→CellsAt w a i vs
 | [],_,_=>trivial
 |v::vs,i,h=> ⟨by simpa using h 0 v rfl,CellsAt.of_get fun j u hj=>by
   have:=h (j+1) u (by simpa using hj)
   rwa [show i+1+j=i+ (j+1) by omega]⟩
section
variable {H:Type} {enc:TypeId × Value→H} {P:Program} {w:World} {base:Nat} {spare:Nat→Bool} {held:Bool}
theorem rd_fields {n m:Nat} {cs:List Value} (ih: ∀ (t:TypeId) (cs:List Value) (x:DataW H × List MemPlace) (s:Sh),DataW.trod enc P w base spare held m t cs=some x→shOf P n t=some s→Rd w s cs):
 ∀ (l:List Field) (off:Nat) (s:Sh),shFs P (shOf P n) off l=some s→cs.length=off+s.size→(∀f∈l,∃x,DataW.trod enc P w base spare held m f.type ((cs.drop f.offset).take (P.cellsOf f.type))=some x)→Rd w s (cs.drop off)
 | [],off,s,h,hl,_=>by
   simp only [shFs,Option.some.injEq] at h
   subst h
   simp only [Sh.size,Nat.add_zero] at hl
   simp only [Rd,List.drop_eq_nil_iff]
   omega
 |f::l,off,s,h,hl,hf=>by
  simp only [shFs] at h
  split at h
  · rename_i a ha
    split at h
    · rename_i hc
      simp only [Option.map_eq_some_iff] at h
      obtain ⟨b,hb,rfl⟩:=h
      simp only [Sh.size] at hl
      obtain ⟨x,hx⟩:=hf f (by simp)
      have h1:=ih _ _ _ _ hx ha
      rw [hc.1,hc.2] at h1
      have h2:=rd_fields ih l (off+a.size) b hb (by omega) fun g hg=>hf g (by simp [hg])
      refine ⟨_,_,?_,h1,h2⟩
      rw [← List.drop_drop,List.take_append_drop]
    · simp at h
  · simp at h
theorem rd_trod: ∀ (n m:Nat) (t:TypeId) (cs:List Value) (x:DataW H × List MemPlace) (s:Sh),DataW.trod enc P w base spare held m t cs=some x→shOf P n t=some s→Rd w s cs:=by
 intro n
 induction n with
 |zero=>intro m t cs x s _ h;simp [shOf] at h
 |succ n ih=>
  intro m t cs x s h hs
  simp only [shOf] at hs
  split at hs
  · rename_i k hu
    obtain ⟨n,rfl,_,hw⟩:=DataW.trod_int hu h
    cases hs
    exact ⟨n,rfl,hw⟩
  · rename_i hu
    obtain ⟨b,rfl,_⟩:=DataW.trod_bool hu h
    cases hs
    exact ⟨b,rfl⟩
  · rename_i e hu
    split at hs
    · rename_i a ha
      split at hs
      · rename_i hc
        cases hs
        rcases DataW.trod_slice hu h with ⟨rfl,_⟩| ⟨p,len,cap,elems,rest,m',_,rfl,_,_,h1,h2,h3,h4,_,_⟩
        · exact .inl rfl
        · refine .inr ⟨p,len,cap,rfl,h1,h2,fun i hi=> ?_⟩
          have hi':=h4 i hi
          rw [show elems[i]? =some (elems[i]'(by omega)) by simp [show i<elems.length by omega]] at hi'
          simp only [Option.bind_eq_some_iff] at hi'
          obtain ⟨es,he,hx⟩:=hi'
          obtain ⟨_,hl,hc'⟩:=World.cells?_some he
          rw [hc] at he hl hc'
          refine ⟨es,hl,CellsAt.of_get fun j v hj=> ?_,ih _ _ _ _ _ hx ha⟩
          have hjl:j<es.length:=(List.getElem?_eq_some_iff.1 hj).1
          rw [Nat.zero_add,hc' j (by omega),hj]
      · simp at hs
    · simp at hs
  · rename_i fs hu
    split at hs
    · rename_i a ha
      split at hs
      · rename_i hc
        cases hs
        obtain ⟨xs,m',rfl,_,hl,hx,hf⟩:=DataW.trod_struct hu h
        have:=rd_fields (n:=n) (m:=m') (cs:=cs) (fun t cs x s h h'=>ih m' t cs x s h h') fs.toList 0 _ ha (by rw [hl,hc];omega) ?_
        · simpa using this
        · intro f hf'
          obtain ⟨i,hi⟩:=List.getElem?_of_mem hf'
          have hi2:fs[i]? =some f:=by simpa using hi
          have:=hf i f hi2
          have hil:i<fs.size:=(Array.getElem?_eq_some_iff.1 hi2).1
          rw [this]
          exact ⟨xs[i]'(by omega),by simp [show i<xs.length by omega]⟩
      · simp at hs
    · simp at hs
  · simp at hs
def RdV (w:World):Sh→Value→Prop
 | .int k,v=> ∃n,v= .int k n∧(Lit.int k n).wf=true
 | .bool,v=> ∃b,v= .bool b
 | .sl e,v=>v= .slice none 0 0∨∃ (a:Addr) (len cap:Nat),v= .slice (some a) len cap∧len≤cap∧cap≤maxLen∧
    ∀i,i<len→∃es,es.length=e.size∧CellsAt w (a.add (i*e.size)) 0 es∧Rd w e es
 |s,v=> ∃cs:List Value,v= .agg cs.toArray∧Rd w s cs
theorem rd_val {r:Reach} {b0 n:Nat} {t:TypeId} {v:Value} {d:DataW H} {ps:List MemPlace} {s:Sh} (hs:shOf P n t=some s) (hv:Value.okWide P w r b0 t v) (hd:DataW.Trod enc P w base spare held t v d ps):RdV w s v:=by
 obtain ⟨m,hm⟩:=hd
 have hr:=rd_trod _ _ _ _ _ _ hm hs
 cases n with
 |zero=>simp [shOf] at hs
 |succ n=>
  simp only [shOf] at hs
  split at hs
  · rename_i k hu
    cases hs
    obtain ⟨n,rfl⟩:=okWide_int hu hv
    obtain ⟨n',h1,h2⟩:=hr
    simp [Value.cells] at h1
    subst h1
    exact ⟨n,rfl,h2⟩
  · rename_i hu
    cases hs
    obtain ⟨b,hb⟩:=hr
    simp only [Value.okWide,hu,Cell.okWide] at hv
    cases v<;>simp_all [Cell.ok,Value.cells,RdV]
  · rename_i e hu
    split at hs
    · split at hs
      · cases hs
        obtain ⟨a,len,cap,rfl⟩:=okWide_slice hu hv
        rcases hr with h| ⟨a',len',cap',h,h1⟩
        · simp [Value.cells] at h
          obtain ⟨rfl,rfl,rfl⟩:=h
          exact .inl rfl
        · simp [Value.cells] at h
          obtain ⟨rfl,rfl,rfl⟩:=h
          exact .inr ⟨_,_,_,rfl,h1⟩
      · simp at hs
    · simp at hs
  · rename_i fs hu
    obtain ⟨cs,rfl,_⟩:=okWide_struct hu hv
    split at hs
    · rename_i a ha
      split at hs
      · cases hs
        have hr':Rd w s cs.toList:=hr
        rcases shFs_not ha with rfl| ⟨a,b,rfl⟩<;>exact ⟨cs.toList,by simp,hr'⟩
      · simp at hs
    · simp at hs
  · simp at hs
theorem trodAll_carry {w':World}: ∀ {ts:List TypeId} {vs:List Value} {ds:List (DataW H)} {ps:List MemPlace},DataW.TrodAll enc P w base spare held ts vs ds ps→(∀p∈ps,w.sameAt w' p)→DataW.TrodAll enc P w' base spare held ts vs ds ps
 | [],[],[],_,h,_=>h
 |t::ts,v::vs,d::ds,ps,h,hs=>by
  obtain ⟨p,q,⟨n,h1⟩,h2,rfl⟩:=h
  exact ⟨p,q,⟨n,DataW.trod_carry n _ _ _ h1 fun x hx=>hs x (by simp [hx])⟩,trodAll_carry h2 fun x hx=>hs x (by simp [hx]),rfl⟩
 | [],[],_::_,_,h,_=>h.elim
 | [],_::_,_,_,h,_=>h.elim
 |_::_,[],_,_,h,_=>h.elim
 |_::_,_::_,[],_,h,_=>h.elim
def Sh.pos:Sh→Bool
 | .int _| .bool| .nil=>true
 | .sl e=>Nat.ble 1 e.size && e.pos
 | .cons a b=>a.pos && b.pos
theorem pos_fields {r:TypeId→Option Sh}: ∀ {l:List Field} {off:Nat} {s:Sh},shFs P r off l=some s→s.pos=true→∀f∈l,∃a,r f.type=some a∧a.pos=true
 | [],_,_,_,_,f,hf=>by simp at hf
 |g::l,off,s,h,hp,f,hf=>by
  simp only [shFs] at h
  split at h
  · rename_i a ha
    split at h
    · simp only [Option.map_eq_some_iff] at h
      obtain ⟨b,hb,rfl⟩:=h
      simp only [Sh.pos,Bool.and_eq_true] at hp
      rcases List.mem_cons.1 hf with rfl|hf
      · exact ⟨a,ha,hp.1⟩
      · exact pos_fields hb hp.2 f hf
    · simp at h
  · simp at h
theorem range_get {n i x:Nat} (h:(List.range n)[i]? =some x):i=x∧i<n:=by
 obtain ⟨h1,h2⟩:=List.getElem?_eq_some_iff.1 h
 simp at h1 h2
 exact ⟨h2,h1⟩
theorem trod_spare {spare':Nat→Bool} (hsp: ∀b,b<w.heap.size→spare' b=true): ∀ (n m:Nat) (t:TypeId) (cs:List Value) (x:DataW H × List MemPlace) (s:Sh),
 DataW.trod enc P w base (fun _=>true) held m t cs=some x→shOf P n t=some s→s.pos=true→DataW.trod enc P w base spare' held m t cs=some x:=by
 intro n
 induction n with
 |zero=>intro m t cs x s _ h;simp [shOf] at h
 |succ n ih=>
  intro m t cs x s h hs hp
  have h':=h
  simp only [shOf] at hs
  split at hs
  · rename_i k hu
    obtain ⟨n,rfl,rfl,hw⟩:=DataW.trod_int hu h
    cases m with
    |zero=>simp [DataW.trod] at h
    |succ m=>exact trod_int_mk m hu hw
  · rename_i hu
    obtain ⟨b,rfl,rfl⟩:=DataW.trod_bool hu h
    cases m with
    |zero=>simp [DataW.trod] at h
    |succ m=>simp [DataW.trod,hu]
  · rename_i e hu
    split at hs
    · rename_i a ha
      split at hs
      · rename_i hc
        cases hs
        simp only [Sh.pos,Bool.and_eq_true] at hp
        have hpos:1≤a.size:=Nat.le_of_ble_eq_true hp.1
        rcases DataW.trod_slice hu h with ⟨rfl,rfl⟩| ⟨p,len,cap,elems,rest,m',rfl,rfl,rfl,hb,h1,h2,h3,h4,h5,_⟩
        · cases m with
          |zero=>simp [DataW.trod] at h
          |succ m=>simp [DataW.trod,hu]
        · obtain ⟨h5,h6⟩:=h5 rfl
          have el: ∀i,i<len→(w.cells? base (p.add (i*P.cellsOf e)) (P.cellsOf e)).bind (DataW.trod enc P w base spare' held m' e)=elems[i]? :=by
           intro i hi
           rw [show elems[i]? =some (elems[i]'(by omega)) by simp [show i<elems.length by omega]]
           have:=h4 i hi
           rw [show elems[i]? =some (elems[i]'(by omega)) by simp [show i<elems.length by omega]] at this
           simp only [Option.bind_eq_some_iff] at this ⊢
           obtain ⟨es,he,hx⟩:=this
           exact ⟨es,he,ih _ _ _ _ _ hx ha hp.2⟩
          have er: ∀i,i<cap - len→(w.cells? base (p.add ((len+i)*P.cellsOf e)) (P.cellsOf e)).bind (DataW.trod enc P w base spare' held m' e)=rest[i]? :=by
           intro i hi
           rw [show rest[i]? =some (rest[i]'(by omega)) by simp [show i<rest.length by omega]]
           have:=h6 i hi
           rw [show rest[i]? =some (rest[i]'(by omega)) by simp [show i<rest.length by omega]] at this
           simp only [Option.bind_eq_some_iff] at this ⊢
           obtain ⟨es,he,hx⟩:=this
           exact ⟨es,he,ih _ _ _ _ _ hx ha hp.2⟩
          have e1:((List.range len).mapM fun i=> (w.cells? base (p.add (i*P.cellsOf e)) (P.cellsOf e)).bind (DataW.trod enc P w base spare' held m' e))=some elems:=
           mapM_some_of_get _ _ (by simpa using h3) fun i x hi=>by
            have hx:i=x∧i<len:=range_get hi
            rw [← hx.1];exact el i hx.2
          have e2:((List.range (cap - len)).mapM fun j=> (w.cells? base (p.add ((len+j)*P.cellsOf e)) (P.cellsOf e)).bind (DataW.trod enc P w base spare' held m' e))=some rest:=
           mapM_some_of_get _ _ (by simpa using h5) fun i x hi=>by
            have hx:i=x∧i<cap - len:=range_get hi
            rw [← hx.1];exact er i hx.2
          have e3:(if spare' p.block then some rest else some [])=some rest:=by
           by_cases h0:cap - len=0
           · have:rest= []:=List.eq_nil_of_length_eq_zero (by omega)
             subst this;simp
           · have:=h6 0 (by omega)
             rw [show rest[0]? =some (rest[0]'(by omega)) by simp [show 0<rest.length by omega]] at this
             simp only [Option.bind_eq_some_iff] at this
             obtain ⟨es,he,hx⟩:=this
             have hlt:=World.cells?_block he (by omega)
             have hbl:(p.add ((len+0)*P.cellsOf e)).block=p.block:=by unfold Addr.add;split<;>rfl
             rw [hbl] at hlt
             rw [hsp _ hlt];rfl
          unfold DataW.trod
          simp only [hu]
          rw [if_pos ⟨hb,h1,h2⟩,e1,Option.bind_some,e2,e3]
          rfl
      · simp at hs
    · simp at hs
  · rename_i fs hu
    split at hs
    · rename_i a ha
      split at hs
      · rename_i hc
        cases hs
        obtain ⟨xs,m',rfl,rfl,hl,hx,hf⟩:=DataW.trod_struct hu h
        refine trod_struct_mk hu hl (mapM_some_of_get _ _ (by simpa using hx) fun i f hi=> ?_)
        have hi2:fs[i]? =some f:=by simpa using hi
        have hil:i<fs.size:=(Array.getElem?_eq_some_iff.1 hi2).1
        obtain ⟨b,hb,hbp⟩:=pos_fields ha hp f (List.mem_of_getElem? hi)
        have:=hf i f hi2
        rw [show xs[i]? =some (xs[i]'(by omega)) by simp [show i<xs.length by omega]] at this ⊢
        exact ih _ _ _ _ _ this hb hbp
      · simp at hs
    · simp at hs
  · simp at hs
def shAll (P:Program) (n:Nat):List TypeId→Bool
 | []=>true
 |t::l=> (match shOf P n t with|some s=>s.pos|none=>false) && shAll P n l
theorem trodAll_spare {spare':Nat→Bool} (hsp: ∀b,b<w.heap.size→spare' b=true) {n:Nat}: ∀ {ts:List TypeId} {vs:List Value} {ds:List (DataW H)} {ps:List MemPlace},shAll P n ts=true→
 DataW.TrodAll enc P w base (fun _=>true) held ts vs ds ps→DataW.TrodAll enc P w base spare' held ts vs ds ps
 | [],[],[],_,_,h=>h
 |t::ts,v::vs,d::ds,ps,hs,h=>by
  simp only [shAll,Bool.and_eq_true] at hs
  obtain ⟨p,q,⟨m,h1⟩,h2,rfl⟩:=h
  obtain ⟨hs1,hs2⟩:=hs
  split at hs1
  · rename_i s hs'
    exact ⟨p,q,⟨m,trod_spare hsp n m t _ _ s h1 hs' hs1⟩,trodAll_spare hsp hs2 h2,rfl⟩
  · simp at hs1
 | [],[],_::_,_,_,h=>h.elim
 | [],_::_,_,_,_,h=>h.elim
 |_::_,[],_,_,_,h=>h.elim
 |_::_,_::_,[],_,_,h=>h.elim
theorem trodAll_grow {w':World} {n:Nat} {ts:List TypeId} {vs:List Value} {ds:List (DataW H)} {ps:List MemPlace} (hs:shAll P n ts=true) (h:DataW.TrodAll enc P w base (fun _=>true) held ts vs ds ps) (g:Grow w w'):
 DataW.TrodAll enc P w' base (fun b=>decide (b<w.heap.size)) held ts vs ds ps:=
 trodAll_carry (trodAll_spare (fun b hb=>by simpa using hb) hs h) fun p hp=>g.below.same (DataW.TrodAll.lt h p hp)
end
end Go.Fw
