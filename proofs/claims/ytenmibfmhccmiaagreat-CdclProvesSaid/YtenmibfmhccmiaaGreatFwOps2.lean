/- Each operation of the frame does what the base does, by the operation's form. -/
import Derived.Test.YtenmibfmhccmiaaGreatFwOps
namespace Go.Fw
open Go
variable {P:Program}
def zj (P:Program) (o:Oper):Bool:=
 match o.op with
 | .call c=>match c.callee with
   | .value (.func g)=>fX P g
   |_=>true
 |_=>true
theorem gY (s:Sem Value) (w:World):((do pure (.value (<- s))):Sem Next).run P w=(s.run P w).andThen fun v w'=> .ok (.value v) w':=by
 simp only [Sem.run_bind,Sem.run_pure]
theorem G_ (s:Sem Unit) (w:World):((do s;pure .skip):Sem Next).run P w=(s.run P w).andThen fun _ w'=> .ok .skip w':=by
 simp only [Sem.run_bind,Sem.run_pure]
theorem kR {k:Vk} {s:Sem Value} {w:World} {K:Value->World->Prop} (h:Da P k s w K):
 jA P K (((do pure (.value (<- s))):Sem Next).run P w):=by
 obtain ⟨w',h⟩:=h;obtain ⟨v,hr,I⟩:=uO h;rw [gY,hr];exact I
theorem Ek {t:TypeId} {s:Sem Value} {w:World} {K:Value->World->Prop} (h:MJ P t s w K):
 jA P K (((do pure (.value (<- s))):Sem Next).run P w):=by
 obtain ⟨w',h⟩:=h;obtain ⟨v,hr,I⟩:=Bn h;rw [gY,hr];exact I
theorem Au (size:Nat) (f:Fr): ∀ (l:List (Nat × Operand)) (k:Nat) (cs rest:List Value) (cM:List Value),
 xX size k l f=some cs->cM.length=k*size->rest.length=l.length*size->
 Instr.fill (fun i=>some (i*size,size)) (cM++rest).toArray (j9 f l)=some (cM++cs).toArray
 | [],k,cs,rest,cM,h,hp,hr=>by
   simp only [xX,Option.some.injEq] at h;subst h;have:rest= []:=by simpa using hr
   simp [j9,Instr.fill,this]
 | (i,x)::l,k,cs,rest,cM,h,hp,hr=>by
   simp only [xX] at h;cases hb:(Nat.beq i k && Nat.beq (ev f x).cells.size size) with
   |false=>simp [hb] at h
   |true=>
    rw [hb,cond_true] at h;simp only [Bool.and_eq_true] at hb;obtain rfl:i=k:=Nat.eq_of_beq_eq_true hb.1;have hs:(ev f x).cells.size=size:=Nat.eq_of_beq_eq_true hb.2;cases O:xX size (i+1) l f with
    |none=>simp [O] at h
    |some r=>
     rw [O] at h;simp only [Option.map_some,Option.some.injEq] at h;subst h;have hl:size<=rest.length:=by
      rw [hr,List.length_cons,Nat.succ_mul];omega
     have key: ∀ (vs:List Value) (cM rest:List Value) (m:Nat),m=cM.length->vs.length<=rest.length->
      (vs.zipIdx 0).foldl (fun cs (p:Value × Nat)=>cs.setIfInBounds (m+p.2) p.1) (cM++rest).toArray=(cM++vs++rest.drop vs.length).toArray:=by
      have Q: ∀ (vs:List Value) (j:Nat) (cM rest:List Value) (m:Nat),m+j=cM.length->vs.length<=rest.length->
       (vs.zipIdx j).foldl (fun cs (p:Value × Nat)=>cs.setIfInBounds (m+p.2) p.1) (cM++rest).toArray=(cM++vs++rest.drop vs.length).toArray:=by
       intro vs
       induction vs with
       |nil=>intro j cM rest m _ _;simp
       |cons v vs V=>
        intro j cM rest m hm J;cases rest with
        |nil=>simp at J
        |cons y rest=>
         simp only [List.zipIdx_cons,List.foldl_cons,List.setIfInBounds_toArray];have:(cM++y::rest).set (m+j) v=(cM++ [v])++rest:=by
          rw [hm,List.set_append_right _ _ (Nat.le_refl _)];simp
         rw [this,V (j+1) (cM++ [v]) rest m (by simp;omega) (by simpa using J)];simp
      intro vs cM rest m hm J;exact Q vs 0 cM rest m (by simpa using hm) J
     simp only [j9,Instr.fill];have U: ¬((ev f x).cells.size≠size\/i*size+ (ev f x).cells.size> (cM++rest).toArray.size):=by
      simp only [hs,ne_eq,not_true_eq_false,false_or,List.size_toArray,List.length_append,hp];omega
     have I:((ev f x).cells.size≠size||decide (i*size+ (ev f x).cells.size> (cM++rest).toArray.size))=false:=by
      simp only [hs];simp only [ne_eq,not_true_eq_false,decide_false,Bool.false_or,decide_eq_false_iff_not,List.size_toArray,List.length_append,hp];omega
     rw [if_neg (by simpa using I)];have X:(ev f x).cells.zipIdx.foldl (fun cs (p:Value × Nat)=>cs.setIfInBounds (i*size+p.2) p.1) (cM++rest).toArray=
      (cM++ (ev f x).cells.toList++rest.drop size).toArray:=by
      rw [<- Array.foldl_toList,Array.toList_zipIdx,key _ _ _ _ hp.symm (by simpa [hs] using hl)];simp [hs]
     rw [X];have:=Au size f l (i+1) r (rest.drop size) (cM++ (ev f x).cells.toList) O (by simp [hp,hs,Nat.succ_mul]) (by simp [hr,Nat.succ_mul]);rw [this];simp
theorem yE: ∀ (l:List Field) (ps:List (Nat × Nat)),mO P l=some ps->∀w:World,
 (l.mapM fun I=> (do pure (I.offset,<- sizeOf I.type):Sem (Nat × Nat))).run P w= .ok ps w
 | [],ps,h,w=>by simp [mO] at h;subst h;simp
 |I::l,ps,h,w=>by
  simp only [mO] at h;cases hi:P.info? I.type with
  |none=>simp [hi] at h
  |some i=>
   simp only [hi] at h;cases hl:mO P l with
   |none=>simp [hl] at h
   |some qs=>
    simp only [hl,Option.map_some,Option.some.injEq] at h;subst h;simp only [List.mapM_cons,Sem.run_bind,dC hi,Result.andThen_ok,Sem.run_pure,yE l qs hl]
end Go.Fw
