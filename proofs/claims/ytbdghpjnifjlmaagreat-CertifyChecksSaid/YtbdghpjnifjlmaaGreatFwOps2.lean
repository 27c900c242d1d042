/- Each operation of the frame does what the base does, by the operation's form. -/
import Derived.Test.YtbdghpjnifjlmaaGreatFwOps
namespace Go.Fw
open Go
variable {P:Program}
def callOk (P:Program) (o:Oper):Bool:=
 match o.op with
 | .call c=>match c.callee with
   | .value (.func g)=>entB P g
   |_=>true
 |_=>true
theorem run_v (s:Sem Value) (w:World):((do pure (.value (← s))):Sem Next).run P w=(s.run P w).andThen fun v w'=> .ok (.value v) w':=by
 simp only [Sem.run_bind,Sem.run_pure]
theorem run_u (s:Sem Unit) (w:World):((do s;pure .skip):Sem Next).run P w=(s.run P w).andThen fun _ w'=> .ok .skip w':=by
 simp only [Sem.run_bind,Sem.run_pure]
theorem semK_upon {k:Vk} {s:Sem Value} {w:World} {K:Value→World→Prop} (h:semK P k s w K):
 uponK P K (((do pure (.value (← s))):Sem Next).run P w):=by
 obtain ⟨w',h⟩:=h
 obtain ⟨v,hr,hk⟩:=exV_spec h
 rw [run_v,hr]
 exact hk
theorem semT_upon {t:TypeId} {s:Sem Value} {w:World} {K:Value→World→Prop} (h:semT P t s w K):
 uponK P K (((do pure (.value (← s))):Sem Next).run P w):=by
 obtain ⟨w',h⟩:=h
 obtain ⟨v,hr,hk⟩:=rkK_spec h
 rw [run_v,hr]
 exact hk
theorem fill_row (size:Nat) (f:Fr): ∀ (l:List (Nat × Operand)) (k:Nat) (cs rest:List Value) (pre:List Value),
 rowOf size k l f=some cs→pre.length=k*size→rest.length=l.length*size→
 Instr.fill (fun i=>some (i*size,size)) (pre++rest).toArray (partsOf f l)=some (pre++cs).toArray
 | [],k,cs,rest,pre,h,hp,hr=>by
   simp only [rowOf,Option.some.injEq] at h
   subst h
   have:rest= []:=by simpa using hr
   simp [partsOf,Instr.fill,this]
 | (i,x)::l,k,cs,rest,pre,h,hp,hr=>by
   simp only [rowOf] at h
   cases hb:(Nat.beq i k && Nat.beq (ev f x).cells.size size) with
   |false=>simp [hb] at h
   |true=>
    rw [hb,cond_true] at h
    simp only [Bool.and_eq_true] at hb
    obtain rfl:i=k:=Nat.eq_of_beq_eq_true hb.1
    have hs:(ev f x).cells.size=size:=Nat.eq_of_beq_eq_true hb.2
    cases hr':rowOf size (i+1) l f with
    |none=>simp [hr'] at h
    |some r=>
     rw [hr'] at h
     simp only [Option.map_some,Option.some.injEq] at h
     subst h
     have hl:size≤rest.length:=by
      rw [hr,List.length_cons,Nat.succ_mul];omega
     have key: ∀ (vs:List Value) (pre rest:List Value) (m:Nat),m=pre.length→vs.length≤rest.length→
      (vs.zipIdx 0).foldl (fun cs (p:Value × Nat)=>cs.setIfInBounds (m+p.2) p.1) (pre++rest).toArray=(pre++vs++rest.drop vs.length).toArray:=by
      have gen: ∀ (vs:List Value) (j:Nat) (pre rest:List Value) (m:Nat),m+j=pre.length→vs.length≤rest.length→
       (vs.zipIdx j).foldl (fun cs (p:Value × Nat)=>cs.setIfInBounds (m+p.2) p.1) (pre++rest).toArray=(pre++vs++rest.drop vs.length).toArray:=by
       intro vs
       induction vs with
       |nil=>intro j pre rest m _ _;simp
       |cons v vs ih=>
        intro j pre rest m hm hle
        cases rest with
        |nil=>simp at hle
        |cons y rest=>
         simp only [List.zipIdx_cons,List.foldl_cons,List.setIfInBounds_toArray]
         have:(pre++y::rest).set (m+j) v=(pre++ [v])++rest:=by
          rw [hm,List.set_append_right _ _ (Nat.le_refl _)]
          simp
         rw [this,ih (j+1) (pre++ [v]) rest m (by simp;omega) (by simpa using hle)]
         simp
      intro vs pre rest m hm hle
      exact gen vs 0 pre rest m (by simpa using hm) hle
     simp only [partsOf,Instr.fill]
     have hcond: ¬((ev f x).cells.size≠size∨i*size+ (ev f x).cells.size> (pre++rest).toArray.size):=by
      simp only [hs,ne_eq,not_true_eq_false,false_or,List.size_toArray,List.length_append,hp]
      omega
     have hcond':((ev f x).cells.size≠size||decide (i*size+ (ev f x).cells.size> (pre++rest).toArray.size))=false:=by
      simp only [hs]
      simp only [ne_eq,not_true_eq_false,decide_false,Bool.false_or,decide_eq_false_iff_not,List.size_toArray,List.length_append,hp]
      omega
     rw [if_neg (by simpa using hcond')]
     have hz:(ev f x).cells.zipIdx.foldl (fun cs (p:Value × Nat)=>cs.setIfInBounds (i*size+p.2) p.1) (pre++rest).toArray=
      (pre++ (ev f x).cells.toList++rest.drop size).toArray:=by
      rw [← Array.foldl_toList,Array.toList_zipIdx,key _ _ _ _ hp.symm (by simpa [hs] using hl)]
      simp [hs]
     rw [hz]
     have:=fill_row size f l (i+1) r (rest.drop size) (pre++ (ev f x).cells.toList) hr' (by simp [hp,hs,Nat.succ_mul]) (by simp [hr,Nat.succ_mul])
     rw [this]
     simp
theorem places_eq: ∀ (l:List Field) (ps:List (Nat × Nat)),placesOf P l=some ps→∀w:World,
 (l.mapM fun fd=> (do pure (fd.offset,← sizeOf fd.type):Sem (Nat × Nat))).run P w= .ok ps w
 | [],ps,h,w=>by simp [placesOf] at h;subst h;simp
 |fd::l,ps,h,w=>by
  simp only [placesOf] at h
  cases hi:P.info? fd.type with
  |none=>simp [hi] at h
  |some i=>
   simp only [hi] at h
   cases hl:placesOf P l with
   |none=>simp [hl] at h
   |some qs=>
    simp only [hl,Option.map_some,Option.some.injEq] at h
    subst h
    simp only [List.mapM_cons,Sem.run_bind,run_size_some hi,Result.andThen_ok,Sem.run_pure,places_eq l qs hl]
end Go.Fw
