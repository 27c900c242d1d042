/- Each operation of the frame does what the base does, by the operation's form. -/
import Derived.Test.YtbdghpjnifjlmaaGreatFwOps
set_option linter.all false
namespace Go.Fw
open Go
variable{P:Program}
def En(P:Program)(o:Oper):Bool:=
 match o.op with
 | .call c=>match c.callee with
   | .value (.func g)=>f_ P g
   |_=>true
 |_=>true
theorem jh(s:Sem Value)(w:World):((do pure (.value (<- s))):Sem Next).run P w=(s.run P w).andThen λv w'=> .ok (.value v) w':=by
 simp only[Sem.run_bind,Sem.run_pure]
theorem OQ(s:Sem Unit)(w:World):((do s;pure .skip):Sem Next).run P w=(s.run P w).andThen λ_ w'=> .ok .skip w':=by
 simp only[Sem.run_bind,Sem.run_pure]
theorem nQ{k:Vk}{s:Sem Value}{w:World}{K:Value->World->Prop}(h:HL P k s w K):
 lK P K (((do pure (.value (<- s))):Sem Next).run P w):=by
 obtain⟨w',h⟩:=h;obtain⟨v,hr,I⟩:=A0 h;rw[jh,hr];exact I
theorem K8{t:TypeId}{s:Sem Value}{w:World}{K:Value->World->Prop}(h:T4 P t s w K):
 lK P K (((do pure (.value (<- s))):Sem Next).run P w):=by
 obtain⟨w',h⟩:=h;obtain⟨v,hr,I⟩:=EH h;rw[jh,hr];exact I
theorem Fx(size:Nat)(f:Fr):∀ (l:List (Nat × Operand)) (k:Nat) (cs rest:List Value) (df:List Value),
 Cu size k l f=some cs->df.length=k*size->rest.length=l.length*size->
 Instr.fill (λi=>some (i*size,size)) (df++rest).toArray (mE f l)=some (df++cs).toArray
 | [],k,cs,rest,df,h,hp,hr=>by
   simp only[Cu,Wu]at h;subst h;have:rest= []:=by simpa using hr
   simp[mE,Instr.fill,this]
 | (i,x)::l,k,cs,rest,df,h,hp,hr=>by
   simp only[Cu]at h;cases hb:(Nat.beq i k && Nat.beq (ev f x).cells.size size) with
   |false=>simp[hb]at h
   |true=>
    rw[hb,I6]at h;simp only[ts]at hb;obtain rfl:i=k:=V_ hb.1;have hs:(ev f x).cells.size=size:=V_ hb.2;cases O:Cu size (i+1) l f with
    |none=>simp[O]at h
    |some r=>
     rw[O]at h;simp only[Xw,Wu]at h;subst h;have hl:size<=rest.length:=by
      rw[hr,Wz,Zh];omega
     have key:∀ (vs:List Value) (df rest:List Value) (m:Nat),m=df.length->vs.length<=rest.length->
      (vs.zipIdx 0).foldl (λcs (p:Value × Nat)=>cs.setIfInBounds (m+p.2) p.1) (df++rest).toArray=(df++vs++rest.drop vs.length).toArray:=by
      have Q:∀ (vs:List Value) (j:Nat) (df rest:List Value) (m:Nat),m+j=df.length->vs.length<=rest.length->
       (vs.zipIdx j).foldl (λcs (p:Value × Nat)=>cs.setIfInBounds (m+p.2) p.1) (df++rest).toArray=(df++vs++rest.drop vs.length).toArray:=by
       intro vs
       induction vs with
       |nil=>intro j df rest m _ _;simp
       |cons v vs V=>
        intro j df rest m hm I;cases rest with
        |nil=>simp at I
        |cons y rest=>
         simp only[List.zipIdx_cons,XR,List.setIfInBounds_toArray];have:(df++y::rest).set (m+j) v=(df++ [v])++rest:=by
          rw[hm,List.set_append_right _ _ (vy _)];simp
         rw[this,V (j+1) (df++ [v]) rest m (by simp;omega) (by simpa using I)];simp
      intro vs df rest m hm I;exact Q vs 0 df rest m (by simpa using hm) I
     simp only[mE,Instr.fill];have U: ¬((ev f x).cells.size≠size\/i*size+ (ev f x).cells.size> (df++rest).toArray.size):=by
      simp only[hs,J5,ZJ,false_or,XK,I',hp];omega
     have J:((ev f x).cells.size≠size||decide (i*size+ (ev f x).cells.size> (df++rest).toArray.size))=false:=by
      simp only[hs];simp only[J5,ZJ,decide_false,Yc,x8,XK,I',hp];omega
     rw[r8 (by simpa using J)];have X:(ev f x).cells.zipIdx.foldl (λcs (p:Value × Nat)=>cs.setIfInBounds (i*size+p.2) p.1) (df++rest).toArray=
      (df++ (ev f x).cells.toList++rest.drop size).toArray:=by
      rw[<- Array.foldl_toList,Array.toList_zipIdx,key _ _ _ _ hp.symm (by simpa[hs]using hl)];simp[hs]
     rw[X];have:=Fx size f l (i+1) r (rest.drop size) (df++ (ev f x).cells.toList) O (by simp[hp,hs,Zh]) (by simp[hr,Zh]);rw[this];simp
theorem Da:∀ (l:List Field) (ps:List (Nat × Nat)),qq P l=some ps->∀w:World,
 (l.mapM λI=> (do pure (I.offset,<- sizeOf I.type):Sem (Nat × Nat))).run P w=.ok ps w
 | [],ps,h,w=>by simp[qq]at h;subst h;simp
 |I::l,ps,h,w=>by
  simp only[qq]at h;cases hi:P.info? I.type with
  |none=>simp[hi]at h
  |some i=>
   simp only[hi]at h;cases hl:qq P l with
   |none=>simp[hl]at h
   |some qs=>
    simp only[hl,Xw,Wu]at h;subst h;simp only[Zo,Sem.run_bind,eO hi,Result.andThen_ok,Sem.run_pure,Da l qs hl]
