/- Each operation of the frame does what the base does, by the operation's form. -/
import Derived.Test.YtenmibfmhccmiaaGreatFwOps
namespace Go.Fw
open Go
variable {P:Program}
def yh (P:Program) (o:Oper):Bool:=
 match o.op with
 | .call c=>match c.callee with
   | .value (.func g)=>fM P g
   |_=>true
 |_=>true
theorem gF (s:Sem Value) (w:World):((do pure (.value (<- s))):Sem Next).run P w=(s.run P w).andThen fun v w'=> .ok (.value v) w':=by
 simp only [Sem.run_bind,Sem.run_pure]
theorem E5 (s:Sem Unit) (w:World):((do s;pure .skip):Sem Next).run P w=(s.run P w).andThen fun _ w'=> .ok .skip w':=by
 simp only [Sem.run_bind,Sem.run_pure]
theorem kx {k:Vk} {s:Sem Value} {w:World} {K:Value->World->Prop} (h:B0 P k s w K):
 i4 P K (((do pure (.value (<- s))):Sem Next).run P w):=by
 obtain ⟨w',h⟩:=h;obtain ⟨v,hr,I⟩:=uu h;rw [gF,hr];exact I
theorem Ed {t:TypeId} {s:Sem Value} {w:World} {K:Value->World->Prop} (h:Lt P t s w K):
 i4 P K (((do pure (.value (<- s))):Sem Next).run P w):=by
 obtain ⟨w',h⟩:=h;obtain ⟨v,hr,I⟩:=zF h;rw [gF,hr];exact I
theorem Aa (size:Nat) (f:Fr): ∀ (l:List (Nat × Operand)) (k:Nat) (cs rest:List Value) (cP:List Value),
 vW size k l f=some cs->cP.length=k*size->rest.length=l.length*size->
 Instr.fill (fun i=>some (i*size,size)) (cP++rest).toArray (jF f l)=some (cP++cs).toArray
 | [],k,cs,rest,cP,h,hp,hr=>by
   simp only [vW,Option.some.injEq] at h;subst h;have:rest= []:=by simpa using hr
   simp [jF,Instr.fill,this]
 | (i,x)::l,k,cs,rest,cP,h,hp,hr=>by
   simp only [vW] at h;cases hb:(Nat.beq i k && Nat.beq (ev f x).cells.size size) with
   |false=>simp [hb] at h
   |true=>
    rw [hb,cond_true] at h;simp only [Bool.and_eq_true] at hb;obtain rfl:i=k:=Nat.eq_of_beq_eq_true hb.1;have hs:(ev f x).cells.size=size:=Nat.eq_of_beq_eq_true hb.2;cases O:vW size (i+1) l f with
    |none=>simp [O] at h
    |some r=>
     rw [O] at h;simp only [Option.map_some,Option.some.injEq] at h;subst h;have hl:size<=rest.length:=by
      rw [hr,List.length_cons,Nat.succ_mul];omega
     have key: ∀ (vs:List Value) (cP rest:List Value) (m:Nat),m=cP.length->vs.length<=rest.length->
      (vs.zipIdx 0).foldl (fun cs (p:Value × Nat)=>cs.setIfInBounds (m+p.2) p.1) (cP++rest).toArray=(cP++vs++rest.drop vs.length).toArray:=by
      have Q: ∀ (vs:List Value) (j:Nat) (cP rest:List Value) (m:Nat),m+j=cP.length->vs.length<=rest.length->
       (vs.zipIdx j).foldl (fun cs (p:Value × Nat)=>cs.setIfInBounds (m+p.2) p.1) (cP++rest).toArray=(cP++vs++rest.drop vs.length).toArray:=by
       intro vs
       induction vs with
       |nil=>intro j cP rest m _ _;simp
       |cons v vs V=>
        intro j cP rest m hm I;cases rest with
        |nil=>simp at I
        |cons y rest=>
         simp only [List.zipIdx_cons,List.foldl_cons,List.setIfInBounds_toArray];have:(cP++y::rest).set (m+j) v=(cP++ [v])++rest:=by
          rw [hm,List.set_append_right _ _ (Nat.le_refl _)];simp
         rw [this,V (j+1) (cP++ [v]) rest m (by simp;omega) (by simpa using I)];simp
      intro vs cP rest m hm I;exact Q vs 0 cP rest m (by simpa using hm) I
     simp only [jF,Instr.fill];have U: ¬((ev f x).cells.size≠size\/i*size+ (ev f x).cells.size> (cP++rest).toArray.size):=by
      simp only [hs,ne_eq,not_true_eq_false,false_or,List.size_toArray,List.length_append,hp];omega
     have J:((ev f x).cells.size≠size||decide (i*size+ (ev f x).cells.size> (cP++rest).toArray.size))=false:=by
      simp only [hs];simp only [ne_eq,not_true_eq_false,decide_false,Bool.false_or,decide_eq_false_iff_not,List.size_toArray,List.length_append,hp];omega
     rw [if_neg (by simpa using J)];have X:(ev f x).cells.zipIdx.foldl (fun cs (p:Value × Nat)=>cs.setIfInBounds (i*size+p.2) p.1) (cP++rest).toArray=
      (cP++ (ev f x).cells.toList++rest.drop size).toArray:=by
      rw [<- Array.foldl_toList,Array.toList_zipIdx,key _ _ _ _ hp.symm (by simpa [hs] using hl)];simp [hs]
     rw [X];have:=Aa size f l (i+1) r (rest.drop size) (cP++ (ev f x).cells.toList) O (by simp [hp,hs,Nat.succ_mul]) (by simp [hr,Nat.succ_mul]);rw [this];simp
theorem xc: ∀ (l:List Field) (ps:List (Nat × Nat)),lR P l=some ps->∀w:World,
 (l.mapM fun I=> (do pure (I.offset,<- sizeOf I.type):Sem (Nat × Nat))).run P w= .ok ps w
 | [],ps,h,w=>by simp [lR] at h;subst h;simp
 |I::l,ps,h,w=>by
  simp only [lR] at h;cases hi:P.info? I.type with
  |none=>simp [hi] at h
  |some i=>
   simp only [hi] at h;cases hl:lR P l with
   |none=>simp [hl] at h
   |some qs=>
    simp only [hl,Option.map_some,Option.some.injEq] at h;subst h;simp only [List.mapM_cons,Sem.run_bind,dP hi,Result.andThen_ok,Sem.run_pure,xc l qs hl]
end Go.Fw
