/- Each operation of the frame does what the base does, by the operation's form. -/
import Derived.Test.YtbdghpjnifjlmaaGreatFwOps
namespace Go.Fw
open Go
variable {P:Program}
def CM (P:Program) (o:Oper):Bool:=
 match o.op with
 | .call c=>match c.callee with
   | .value (.func g)=>gH P g
   |_=>true
 |_=>true
theorem jr (s:Sem Value) (w:World):((do pure (.value (<- s))):Sem Next).run P w=(s.run P w).andThen λv w'=> .ok (.value v) w':=by
 simp only [Sem.run_bind,Sem.run_pure]
theorem Lm (s:Sem Unit) (w:World):((do s;pure .skip):Sem Next).run P w=(s.run P w).andThen λ_ w'=> .ok .skip w':=by
 simp only [Sem.run_bind,Sem.run_pure]
theorem nI {k:Vk} {s:Sem Value} {w:World} {K:Value->World->Prop} (h:GX P k s w K):
 kV P K (((do pure (.value (<- s))):Sem Next).run P w):=by
 obtain ⟨w',h⟩:=h;obtain ⟨v,hr,I⟩:=zN h;rw [jr,hr];exact I
theorem IJ {t:TypeId} {s:Sem Value} {w:World} {K:Value->World->Prop} (h:Tx P t s w K):
 kV P K (((do pure (.value (<- s))):Sem Next).run P w):=by
 obtain ⟨w',h⟩:=h;obtain ⟨v,hr,I⟩:=D9 h;rw [jr,hr];exact I
theorem EC (size:Nat) (f:Fr):∀ (l:List (Nat × Operand)) (k:Nat) (cs rest:List Value) (dA:List Value),
 Ch size k l f=some cs->dA.length=k*size->rest.length=l.length*size->
 Instr.fill (λi=>some (i*size,size)) (dA++rest).toArray (mC f l)=some (dA++cs).toArray
 | [],k,cs,rest,dA,h,hp,hr=>by
   simp only [Ch,U4] at h;subst h;have:rest= []:=by simpa using hr
   simp [mC,Instr.fill,this]
 | (i,x)::l,k,cs,rest,dA,h,hp,hr=>by
   simp only [Ch] at h;cases hb:(Nat.beq i k && Nat.beq (ev f x).cells.size size) with
   |false=>simp [hb] at h
   |true=>
    rw [hb,cond_true] at h;simp only [ts] at hb;obtain rfl:i=k:=UG hb.1;have hs:(ev f x).cells.size=size:=UG hb.2;cases O:Ch size (i+1) l f with
    |none=>simp [O] at h
    |some r=>
     rw [O] at h;simp only [Wj,U4] at h;subst h;have hl:size<=rest.length:=by
      rw [hr,U9,XV];omega
     have key:∀ (vs:List Value) (dA rest:List Value) (m:Nat),m=dA.length->vs.length<=rest.length->
      (vs.zipIdx 0).foldl (λcs (p:Value × Nat)=>cs.setIfInBounds (m+p.2) p.1) (dA++rest).toArray=(dA++vs++rest.drop vs.length).toArray:=by
      have Q:∀ (vs:List Value) (j:Nat) (dA rest:List Value) (m:Nat),m+j=dA.length->vs.length<=rest.length->
       (vs.zipIdx j).foldl (λcs (p:Value × Nat)=>cs.setIfInBounds (m+p.2) p.1) (dA++rest).toArray=(dA++vs++rest.drop vs.length).toArray:=by
       intro vs
       induction vs with
       |nil=>intro j dA rest m _ _;simp
       |cons v vs X=>
        intro j dA rest m hm I;cases rest with
        |nil=>simp at I
        |cons y rest=>
         simp only [List.zipIdx_cons,Wl,List.setIfInBounds_toArray];have:(dA++y::rest).set (m+j) v=(dA++ [v])++rest:=by
          rw [hm,List.set_append_right _ _ (y4 _)];simp
         rw [this,X (j+1) (dA++ [v]) rest m (by simp;omega) (by simpa using I)];simp
      intro vs dA rest m hm I;exact Q vs 0 dA rest m (by simpa using hm) I
     simp only [mC,Instr.fill];have U: ¬((ev f x).cells.size≠size\/i*size+ (ev f x).cells.size> (dA++rest).toArray.size):=by
      simp only [hs,ne_eq,not_true_eq_false,false_or,Wb,UH,hp];omega
     have J:((ev f x).cells.size≠size||decide (i*size+ (ev f x).cells.size> (dA++rest).toArray.size))=false:=by
      simp only [hs];simp only [ne_eq,not_true_eq_false,decide_false,Xr,decide_eq_false_iff_not,Wb,UH,hp];omega
     rw [if_neg (by simpa using J)];have V:(ev f x).cells.zipIdx.foldl (λcs (p:Value × Nat)=>cs.setIfInBounds (i*size+p.2) p.1) (dA++rest).toArray=
      (dA++ (ev f x).cells.toList++rest.drop size).toArray:=by
      rw [<- Array.foldl_toList,Array.toList_zipIdx,key _ _ _ _ hp.symm (by simpa [hs] using hl)];simp [hs]
     rw [V];have:=EC size f l (i+1) r (rest.drop size) (dA++ (ev f x).cells.toList) O (by simp [hp,hs,XV]) (by simp [hr,XV]);rw [this];simp
theorem Bl:∀ (l:List Field) (ps:List (Nat × Nat)),qj P l=some ps->∀w:World,
 (l.mapM λI=> (do pure (I.offset,<- sizeOf I.type):Sem (Nat × Nat))).run P w=.ok ps w
 | [],ps,h,w=>by simp [qj] at h;subst h;simp
 |I::l,ps,h,w=>by
  simp only [qj] at h;cases hi:P.info? I.type with
  |none=>simp [hi] at h
  |some i=>
   simp only [hi] at h;cases hl:qj P l with
   |none=>simp [hl] at h
   |some qs=>
    simp only [hl,Wj,U4] at h;subst h;simp only [XY,Sem.run_bind,eJ hi,Result.andThen_ok,Sem.run_pure,Bl l qs hl]
end Go.Fw
