/- The frame is sound: what it asks of a function is a contract of the function. -/
import Derived.Test.YtenmibfmhccmiaaGreatFwOrderW
import Derived.Deep.LoopGhost
namespace Go.Fw
open Go
variable {P:Program} {D:List Deferred}
def Ag (D:List Deferred) (n:Nat) (a:Act) (f:Fr):Prop:=a.tmps.size=n/\a.defers=D/\∀i,a.tmps.getD i undef=f i
theorem Ag.eval {n:Nat} {a:Act} {f:Fr} (h:Ag D n a f):a.eval=ev f:=by
 funext x;cases x<;>simp [Act.eval,ev];exact (by simpa using h.2.2 _)
theorem Aj (f:Fr) (j:Nat) (v:Value) (i:Nat):f.set (some j) v i=if i=j then v else f i:=by
 show (bif Nat.beq i j then v else f i)=_;cases hb:Nat.beq i j with
 |true=>rw [if_pos (Nat.eq_of_beq_eq_true hb)];rfl
 |false=>rw [if_neg (fun h=>by rw [h,Nat.beq_refl] at hb;cases hb)];rfl
theorem Ag.put {n:Nat} {a:Act} {f:Fr} (h:Ag D n a f) {d:Option Nat} (J: ∀j,d=some j->j<n) (v:Value):Ag D n (a.put d v) (f.set d v):=by
 cases d with
 |none=>exact h
 |some j=>
  obtain ⟨h1,U,O⟩:=h;refine ⟨by simpa [Act.put] using h1,U,fun i=> ?_⟩;rw [Aj];have Q:=J j rfl;by_cases I:i=j
  . subst I;simp [Act.put,h1,Q]
  . rw [if_neg I,<- O i];simp [Act.put,Array.getElem?_setIfInBounds_ne (Ne.symm I)]
theorem Bc (f:Fr) (t:Nat) (v:Value) (h:f t=v):f.set (some t) v=f:=by
 funext i;rw [Aj];by_cases hi:i=t
 . subst hi;simp [h]
 . simp [hi]
def rZ (n:Nat) (o:Oper):Bool:=
 match o.dst with
 |none=>true
 |some d=>Nat.blt d n
theorem jZ {n:Nat} {o:Oper} (h:rZ n o=true): ∀j,o.dst=some j->j<n:=by
 intro j I;simp only [rZ,I] at h;simpa using h
def m_ (P:Program) (n:Nat):List Oper->Bool
 | []=>true
 |o::l=>rZ n o && zj P o && m_ P n l
theorem vF {I:Array Oper} {n:Nat} {a:Act} {f:Fr} (h:Ag D n a f) {j t:Nat} (ht:(I[j]?).bind (·.dst)=some t) (O:t<n) {b:Bool} (hb:f t= .bool b):
 yielded I a.tmps j=some b:=by
 unfold yielded;rw [ht];have Q:=h.2.2 t;have J:t<a.tmps.size:=by rw [h.1];exact O
 simp only [Option.bind_some,Array.getElem?_eq_getElem J];simp [J] at Q;rw [Q,hb]
theorem nf {n:Nat}: ∀ {l:List Oper},m_ P n l=true->∀ (j:Nat) (o:Oper),l[j]? =some o->rZ n o=true/\zj P o=true
 | [],_,j,o,h=>by simp at h
 |x::l,h,j,o,ho=>by
  simp only [m_,Bool.and_eq_true] at h;cases j with
  |zero=>simp at ho;subst ho;exact h.1
  |succ j=>exact nf h.2 j o (by simpa using ho)
theorem mr {J:Array Oper} {n:Nat} (Z:m_ P n J.toList=true) {i:Nat} {o:Oper} (h0:J[i]? =some o) {f:Fr} {a:Act} {w:World} {C:Fr->World->Prop} (ha:Ag D n a f)
 (h:AZ P J o f w C):sP P J i (fun a' w'=> ∃U,Ag D n a' U/\C U w') a w:=by
 obtain ⟨hd,hc⟩:=nf Z i o (by simpa using h0);have Q:=jZ hd;unfold sP;simp only [h0];have O: ∀ {f:Fr},Ag D n a f->(pP P o f w fun v w'=>C (f.set o.dst v) w')->tL P (aZ P o) (execOp a.eval o) w fun v w'=> ∃U,Ag D n (a.put o.dst v) U/\C U w':=by
  intro f ha h;rw [ha.eval];exact yy (fun v w' hr=> ⟨_,ha.put Q v,hr⟩) (qg o f w _ hc h)
 have pass: ∀ {f:Fr},Ag D n a f->C (f.set o.dst undef) w->∃U,Ag D n (a.put o.dst undef) U/\C U w:=by
  intro f ha h;exact ⟨_,ha.put Q undef,h⟩
 unfold AZ at h;split at h
 . rename_i hg;exact vM (by simp [Region.wanted,hg]) (O ha h)
 . rename_i j want hg;split at h
   . exact h.elim
   . rename_i t ht;have aa:t<n:=by
      cases V:J[j]? with
      |none=>simp [V] at ht
      |some oj=>
       rw [V] at ht;exact jZ (nf Z j oj (by simpa using V)).1 t (by simpa using ht)
     split at h
     . rename_i b hb;have hy:=vF ha ht aa hb;have X:f.set (some t) (.bool b)=f:=Bc f t _ hb;have I:Region.wanted o (yielded J a.tmps)=(b==want):=by
        simp [Region.wanted,hg,hy]
       cases b<;>cases want<;>simp only [aG,cond_true,cond_false,X] at h
       . exact vM (by rw [I];rfl) (O ha h)
       . unfold qj;rw [if_neg (by rw [I];simp)];exact pass ha h
       . unfold qj;rw [if_neg (by rw [I];simp)];exact pass ha h
       . exact vM (by rw [I];rfl) (O ha h)
     . rename_i vs hb;have hy:yielded J a.tmps j=none:=by
        unfold yielded;rw [ht];have h3:=ha.2.2 t;have Y:t<a.tmps.size:=by rw [ha.1];exact aa
        simp only [Option.bind_some,Array.getElem?_eq_getElem Y];simp [Y] at h3;rw [h3,hb]
       have I:Region.wanted o (yielded J a.tmps)=false:=by
        simp [Region.wanted,hg,hy]
       unfold qj;rw [if_neg (by rw [I];simp)];exact pass ha h
     . exact h.elim
theorem qY {I:Array Oper} {n:Nat} (J:m_ P n I.toList=true) {K:Fr->World->Prop}: ∀ (l:List Oper) (k:Nat) (f:Fr) (a:Act) (w:World),(∀j,l[j]? =I[k+j]?)->Ag D n a f->
 L9 P I l f w K->oS P I (fun U w'=> ∃O,Ag D n U O/\K O w') (List.range' k l.length) a w
 | [],_,f,a,w,_,ha,h=> ⟨f,ha,h⟩
 |o::l,k,f,a,w,hl,ha,h=>by
  have X:I[k]? =some o:=by simpa using (hl 0).symm
  have Q: ∀j,l[j]? =I[k+1+j]? :=fun j=>by have:=hl (j+1);simpa [Nat.add_assoc,Nat.add_comm 1 j] using this
  rw [List.length_cons,List.range'_succ];exact dQ (fun U w' ⟨O,V,hr⟩=>qY J l (k+1) O U w' Q V hr) (mr J X ha h)
theorem wE {C:Nat->Prop}: ∀ {l:List Nat},Jp l C->∀i∈l,C i
 | [],_,i,hi=>by cases hi
 | [j],h,i,hi=>by simp at hi;subst hi;exact h
 |j::k::l,h,i,hi=>by
  rcases List.mem_cons.1 hi with rfl|hi
  . exact h.1
  . exact wE h.2 i hi
theorem ud {J:Array Oper} {n:Nat} (Q:cP J=true) (Z:m_ P n J.toList=true) {K:Fr->World->Prop}: ∀ (m:Nat) (I:Array Bool) (f:Fr) (a:Act) (w:World),
 I.size=J.size->tO J I->(I.toList.filter (·=false)).length=m->Ag D n a f->
 Nx P J (kg J.toList []) m I f w K->iE P J (fun a' w'=> ∃f',Ag D n a' f'/\K f' w') m I a w
 |0,I,f,a,w,V,hs,hm,ha,h=>by
  refine ⟨?_,f,ha,h⟩;cases hr:Region.ready .any J I with
  |nil=>rfl
  |cons x xs=>
   have hx:x∈Region.ready .any J I:=by rw [hr];exact List.mem_cons_self ..
   obtain ⟨O,o,ho,_⟩:=mem_ready.1 hx;have aa:x<I.size:=by
    rcases Nat.lt_or_ge x I.size with X|X
    . exact X
    . simp [Array.getElem?_eq_none X] at O
   have U:I[x]∈I.toList.filter (·=false):=by
    simp only [List.mem_filter];refine ⟨by simp,?_⟩;simp [aa] at O;simp [O]
   have:=List.length_pos_of_mem U;omega
 |m+1,I,f,a,w,V,hs,hm,ha,h=>by
  have count: ∀i,i∈Region.ready .any J I->((I.setIfInBounds i true).toList.filter (·=false)).length=m:=by
   intro i hi;obtain ⟨O,o,ho,_⟩:=mem_ready.1 hi;have aa:i<I.size:=by
    rcases Nat.lt_or_ge i I.size with X|X
    . exact X
    . simp [Array.getElem?_eq_none X] at O
   have key: ∀ (l:List Bool) (i:Nat),l[i]? =some false->((l.set i true).filter (·=false)).length+1=(l.filter (·=false)).length:=by
    intro l
    induction l with
    |nil=>intro i h;simp at h
    |cons b l ih=>
     intro i h;cases i with
     |zero=>simp at h;subst h;simp
     |succ i=>
      simp only [List.getElem?_cons_succ] at h;have:=ih i h;cases b<;>simp only [List.set_cons_succ,List.filter_cons]<;>simp<;>simpa using this
   have hf:I.toList[i]? =some false:=by
    simp [aa] at O;simp [aa,O]
   have:=key I.toList i hf;simp only [Array.toList_setIfInBounds];omega
  simp only [Nx] at h;split at h
  . rename_i i hi;have U:=List.mem_of_find?_eq_some hi;have ad:=List.find?_some hi;unfold DN at h;split at h
    . exact h.elim
    . rename_i o ho;refine yv Q m I a w V hs U ?_ ?_
      . intro oi j oj a7 ar O ay a_;have a6:j<J.size:=by
         rcases Nat.lt_or_ge j J.size with X|X
         . exact X
         . simp [Array.getElem?_eq_none X] at ar
        have:=List.all_eq_true.1 ad j (List.mem_range.2 a6);simp only [Bool.or_eq_true,a7,ar,Bool.and_eq_true] at this;rcases this with ((h1|h2)|h3)|h4
        . rw [O] at h1;cases h1
        . exact absurd (Nat.eq_of_beq_eq_true h2) ay
        . rw [a_] at h3;cases h3
        . exact ⟨h4.1.1,h4.2⟩
      . exact dQ (fun a' w' ⟨f',ag,hr⟩=>ud Q Z m _ f' a' w' (by simpa using V) (hs.set V U) (count i U) ag hr) (mr Z ho ha h)
  . rename_i aT;refine ⟨fun he=> ?_,fun i hi=> ?_⟩
    ·
     exfalso;have O: ∃k:Nat,k<J.size/\I.getD k true=false:=by
      have:0< (I.toList.filter (·=false)).length:=by omega
      obtain ⟨b,hb⟩:=List.exists_mem_of_length_pos this;simp only [List.mem_filter,decide_eq_true_eq] at hb;obtain ⟨k,hk,az⟩:=List.getElem_of_mem hb.1;refine ⟨k,by rw [<- V];simpa using hk,?_⟩;have ax:k<I.size:=by simpa using hk
      have:I[k]=b:=by simpa using az
      simp [ax,this,hb.2]
     obtain ⟨k,⟨hk,a8⟩,Y⟩:=exists_least O;simp only [cP,Bool.and_eq_true] at Q;have:k∈Region.ready .any J I:=by
      refine mem_ready.2 ⟨a8,J[k],by simp [hk],fun e bb hb=> ?_⟩;have ac:=(i4 J.toList 0 Q.2 k J[k] (by simp [hk])).2;rw [Nat.zero_add] at ac;have bu:=ee _ ac e (by simpa using bb) hb;cases hl:I.getD e.on true with
      |true=>
       have:e.on<I.size:=by omega
       simpa [this] using hl
      |false=>have:=Y e.on ⟨by omega,hl⟩;omega
     rw [he] at this;cases this
    . have:=wE h i hi;unfold DN at this;split at this
      . exact this.elim
      . rename_i o ho;exact dQ (fun a' w' ⟨f',ag,hr⟩=>ud Q Z m _ f' a' w' (by simpa using V) (hs.set V hi) (count i hi) ag hr) (mr Z ho ha this)
theorem Ch {keep:Bool} {W:World->Prop} {w:World} {K:Prop} (h:Ay keep W w K):(keep=true->W w)/\K:=by
 cases keep with
 |true=>exact ⟨fun _=>h.1,h.2⟩
 |false=>exact ⟨fun h=> (by cases h),h⟩
theorem vS {b:Bk} {C D:Value->Prop} (h: ∀v,C v->D v) (g:FC b C):FC b D:=by
 cases b<;>simp only [FC] at g ⊢
 case slice=>obtain ⟨p,n,c,g⟩:=g;exact ⟨p,n,c,h _ g⟩
 case fn=>obtain ⟨p,c,g⟩:=g;exact ⟨p,c,h _ g⟩
 all_goals (obtain ⟨x,g⟩:=g;exact ⟨x,h _ g⟩)
theorem Dx {b:Bk} {C:Value->Prop} (g:FC b C): ∃v,C v/\FC b fun I=>I=v:=by
 cases b<;>simp only [FC] at g ⊢
 case slice=>obtain ⟨p,n,c,g⟩:=g;exact ⟨_,g,p,n,c,rfl⟩
 case fn=>obtain ⟨p,c,g⟩:=g;exact ⟨_,g,p,c,rfl⟩
 all_goals (obtain ⟨x,g⟩:=g;exact ⟨_,g,x,rfl⟩)
theorem sA: ∀ {l:List Bk} {C D:List Value->Prop},(∀v,C v->D v)->wX l C->wX l D
 | [],_,_,h,g=>h _ g
 |_::_,_,_,h,g=>vS (fun _ g=>sA (fun _ g=>h _ g) g) g
theorem Ao: ∀ {l:List Bk} {C:List Value->Prop},wX l C->∃vs,C vs/\wX l fun I=>I=vs
 | [],_,g=> ⟨[],g,rfl⟩
 |_::_,_,g=>by
  obtain ⟨v,g,Q⟩:=Dx g;obtain ⟨vs,g,J⟩:=Ao g;exact ⟨v::vs,g,vS (fun U hv=>sA (fun I O=>by rw [hv,O]) J) Q⟩
theorem HH {t:TypeId} {a:Addr} {W:World->Prop} {K:Value->Prop} (h:Ol P t a W K): ∃v,(∀u,W u->Lg P t a u fun O=>O=v)/\K v:=by
 unfold Ol at h;split at h
 . rename_i ht;obtain ⟨v,⟨hv,J⟩,hb⟩:=Dx h;refine ⟨v,fun u hu=> ?_,J⟩;unfold Lg;simp only [ht];exact vS (fun O he=>by subst he;exact ⟨hv u hu,rfl⟩) hb
 . rename_i ht;split at h
   . rename_i i hi;cases I:Nat.beq i.size (rD P 10 t).length with
     |false=>rw [I] at h;exact h.elim
     |true=>
      rw [I,cond_true] at h;obtain ⟨vs,⟨hv,J⟩,hb⟩:=Ao h;refine ⟨_,fun u hu=> ?_,J⟩;unfold Lg;simp only [ht,hi,I,cond_true];exact sA (fun O he=>by subst he;exact ⟨hv u hu,rfl⟩) hb
   . exact h.elim
 . exact h.elim
theorem Fb {W:World->Prop} {keep:Bool} (o:Oper) (f:Fr) (w:World) (K:Value->World->Prop) (U:zj P o=true) (h:KG P W keep o f w K):
 qm P W keep (aZ P o) (execOp (ev f) o) w K:=by
 have J:(pP P o f w fun v w'=>Ay keep W w' (K v w'))->2<=aZ P o->qm P W keep (aZ P o) (execOp (ev f) o) w K:=by
  intro h I;have O:=qg o f w _ U h
  match hq:aZ P o with
  |0=>omega
  |1=>omega
  |n+2=>rw [hq] at O;exact jR (fun v w' Y=>Ch Y) O
 have pure:pP P o f w K->aZ P o=0->qm P W keep (aZ P o) (execOp (ev f) o) w K:=by
  intro h I;have O:=qg o f w _ U h;rw [I] at O ⊢;exact O
 have read: ∀v,(∀u,W u->pP P o f u fun V _=>V=v)->aZ P o=1->K v w->qm P W keep (aZ P o) (execOp (ev f) o) w K:=by
  intro v hv I X;rw [I];refine ⟨v,fun u hu=> ?_,X⟩;have O:=qg o f u _ U (hv u hu);rw [I] at O;obtain ⟨V,hr,rfl⟩:=O;exact hr
 have rest:(bif Nat.ble (aZ P o) 0 then pP P o f w K else pP P o f w fun v w'=>Ay keep W w' (K v w'))->aZ P o≠1->qm P W keep (aZ P o) (execOp (ev f) o) w K:=by
  intro h Z;cases hb:Nat.ble (aZ P o) 0 with
  |true=>rw [hb,cond_true] at h;exact pure h (by have:=Nat.le_of_ble_eq_true hb;omega)
  |false=>
   rw [hb,cond_false] at h;refine J h ?_;have: ¬aZ P o<=0:=fun Q=>by rw [Nat.ble_eq_true_of_le Q] at hb;cases hb
   omega
 obtain ⟨dst,op,type,pos,after,guard⟩:=o;cases op
 case load t x=>
  simp only [KG] at h;split at h
  . rename_i a ha;obtain ⟨v,hv,I⟩:=HH h;refine read v (fun u hu=> ?_) rfl I;simp only [pP,ha];exact hv u hu
  . exact h.elim
 case call c=>
  obtain ⟨callee,args,argTypes⟩:=c;cases callee with
  |invoke r m=>exact J h (by simp [aZ])
  |value x=>exact J h (by simp [aZ])
  |builtin b=>
   cases b
   case len=>
    simp only [KG,Mo] at h;split at h
    . rename_i p n c hl;split at h
      . rename_i e he;refine read _ (fun u hu=> ?_) rfl h;simp only [pP,rT,hl,he]
      . exact h.elim
    . rename_i r hl;obtain ⟨n,hn,I⟩:=h;refine read _ (fun u hu=> ?_) rfl I;simp only [pP,rT,hl];exact ⟨n,hn u hu,rfl⟩
    . exact h.elim
   case max=>exact pure h rfl
   case min=>exact pure h rfl
   all_goals exact J h (by simp [aZ])
 case binOp b t x y z=>
  refine rest h ?_;simp only [aZ];repeat' split
  all_goals simp
 all_goals exact rest h (by simp [aZ])
theorem pj {W:World->Prop} {B:List Nat} {J:Array Oper} {n:Nat} (Z:m_ P n J.toList=true) {i:Nat} {o:Oper} (h0:J[i]? =some o) {f:Fr} {a:Act} {w:World} {C:Fr->World->Prop} (ha:Ag D n a f)
 (h:DH P J W (rB P J B i) o f w C):mT P J W B i (fun a' w'=> ∃U,Ag D n a' U/\C U w') a w:=by
 obtain ⟨hd,hc⟩:=nf Z i o (by simpa using h0);have Q:=jZ hd;unfold mT;simp only [h0];have O: ∀ {f:Fr},Ag D n a f->(KG P W (rB P J B i) o f w fun v w'=>C (f.set o.dst v) w')->qm P W (rB P J B i) (aZ P o) (execOp a.eval o) w fun v w'=> ∃U,Ag D n (a.put o.dst v) U/\C U w':=by
  intro f ha h;rw [ha.eval];exact uW (fun v w' hr=> ⟨_,ha.put Q v,hr⟩) (Fb o f w _ hc h)
 have pass: ∀ {f:Fr},Ag D n a f->C (f.set o.dst undef) w->∃U,Ag D n (a.put o.dst undef) U/\C U w:=by
  intro f ha h;exact ⟨_,ha.put Q undef,h⟩
 unfold DH at h;split at h
 . rename_i hg;exact zE (by simp [Region.wanted,hg]) (O ha h)
 . rename_i j want hg;split at h
   . exact h.elim
   . rename_i t ht;have aa:t<n:=by
      cases V:J[j]? with
      |none=>simp [V] at ht
      |some oj=>
       rw [V] at ht;exact jZ (nf Z j oj (by simpa using V)).1 t (by simpa using ht)
     split at h
     . rename_i b hb;have hy:=vF ha ht aa hb;have X:f.set (some t) (.bool b)=f:=Bc f t _ hb;have I:Region.wanted o (yielded J a.tmps)=(b==want):=by
        simp [Region.wanted,hg,hy]
       cases b<;>cases want<;>simp only [aG,cond_true,cond_false,X] at h
       . exact zE (by rw [I];rfl) (O ha h)
       . unfold lH;rw [if_neg (by rw [I];simp)];exact pass ha h
       . unfold lH;rw [if_neg (by rw [I];simp)];exact pass ha h
       . exact zE (by rw [I];rfl) (O ha h)
     . rename_i vs hb;have hy:yielded J a.tmps j=none:=by
        unfold yielded;rw [ht];have h3:=ha.2.2 t;have Y:t<a.tmps.size:=by rw [ha.1];exact aa
        simp only [Option.bind_some,Array.getElem?_eq_getElem Y];simp [Y] at h3;rw [h3,hb]
       have I:Region.wanted o (yielded J a.tmps)=false:=by
        simp [Region.wanted,hg,hy]
       unfold lH;rw [if_neg (by rw [I];simp)];exact pass ha h
     . exact h.elim
theorem Bi {W:World->Prop} {B:List Nat} {I:Array Oper} {n:Nat} (J:m_ P n I.toList=true) {K:Fr->World->Prop}: ∀ (l:List Oper) (k:Nat) (f:Fr) (a:Act) (w:World),(∀j,l[j]? =I[k+j]?)->Ag D n a f->
 KU P I W B k l f w K->Ka P I W B (fun U w'=> ∃O,Ag D n U O/\K O w') (List.range' k l.length) a w
 | [],_,f,a,w,_,ha,h=> ⟨f,ha,h⟩
 |o::l,k,f,a,w,hl,ha,h=>by
  have X:I[k]? =some o:=by simpa using (hl 0).symm
  have Q: ∀j,l[j]? =I[k+1+j]? :=fun j=>by have:=hl (j+1);simpa [Nat.add_assoc,Nat.add_comm 1 j] using this
  rw [List.length_cons,List.range'_succ];exact kY (fun U w' ⟨O,V,hr⟩=>Bi J l (k+1) O U w' Q V hr) (pj J X ha h)
theorem uI {W:World->Prop} (ad: ∃u,W u) {J:Array Oper} {n:Nat} (Q:cP J=true) (Z:m_ P n J.toList=true) {K:Fr->World->Prop}: ∀ (m:Nat) (I:Array Bool) (f:Fr) (a:Act) (w:World),
 I.size=J.size->tO J I->(I.toList.filter (·=false)).length=m->Ag D n a f->
 FM P J W (kg J.toList []) m I f w K->qB P J W (kg J.toList []) (fun a' w'=> ∃f',Ag D n a' f'/\K f' w') m I a w
 |0,I,f,a,w,V,hs,hm,ha,h=>by
  refine ⟨?_,f,ha,h⟩;cases hr:Region.ready .any J I with
  |nil=>rfl
  |cons x xs=>
   have hx:x∈Region.ready .any J I:=by rw [hr];exact List.mem_cons_self ..
   obtain ⟨O,o,ho,_⟩:=mem_ready.1 hx;have aa:x<I.size:=by
    rcases Nat.lt_or_ge x I.size with X|X
    . exact X
    . simp [Array.getElem?_eq_none X] at O
   have U:I[x]∈I.toList.filter (·=false):=by
    simp only [List.mem_filter];refine ⟨by simp,?_⟩;simp [aa] at O;simp [O]
   have:=List.length_pos_of_mem U;omega
 |m+1,I,f,a,w,V,hs,hm,ha,h=>by
  have count: ∀i,i∈Region.ready .any J I->((I.setIfInBounds i true).toList.filter (·=false)).length=m:=by
   intro i hi;obtain ⟨O,o,ho,_⟩:=mem_ready.1 hi;have aa:i<I.size:=by
    rcases Nat.lt_or_ge i I.size with X|X
    . exact X
    . simp [Array.getElem?_eq_none X] at O
   have key: ∀ (l:List Bool) (i:Nat),l[i]? =some false->((l.set i true).filter (·=false)).length+1=(l.filter (·=false)).length:=by
    intro l
    induction l with
    |nil=>intro i h;simp at h
    |cons b l ih=>
     intro i h;cases i with
     |zero=>simp at h;subst h;simp
     |succ i=>
      simp only [List.getElem?_cons_succ] at h;have:=ih i h;cases b<;>simp only [List.set_cons_succ,List.filter_cons]<;>simp<;>simpa using this
   have hf:I.toList[i]? =some false:=by
    simp [aa] at O;simp [aa,O]
   have:=key I.toList i hf;simp only [Array.toList_setIfInBounds];omega
  simp only [FM] at h;split at h
  . rename_i i hi;have U:=List.mem_of_find?_eq_some hi;have ag:=List.find?_some hi;unfold yX at h;split at h
    . exact h.elim
    . rename_i o ho;refine wD ad Q m I a w V hs U ?_ ?_
      . intro oi j oj a8 av O az bb;have a7:j<J.size:=by
         rcases Nat.lt_or_ge j J.size with X|X
         . exact X
         . simp [Array.getElem?_eq_none X] at av
        have:=List.all_eq_true.1 ag j (List.mem_range.2 a7);simp only [Bool.or_eq_true,a8,av,Bool.and_eq_true] at this;rcases this with ((h1|h2)|h3)|h4
        . rw [O] at h1;cases h1
        . exact absurd (Nat.eq_of_beq_eq_true h2) az
        . rw [bb] at h3;cases h3
        . exact ⟨h4.1.1,h4.2⟩
      . exact kY (fun a' w' ⟨f',an,hr⟩=>uI ad Q Z m _ f' a' w' (by simpa using V) (hs.set V U) (count i U) an hr) (pj Z ho ha h)
  . rename_i a6;refine ⟨fun he=> ?_,fun i hi=> ?_⟩
    . exfalso;have O: ∃k:Nat,k<J.size/\I.getD k true=false:=by
       have:0< (I.toList.filter (·=false)).length:=by omega
       obtain ⟨b,hb⟩:=List.exists_mem_of_length_pos this;simp only [List.mem_filter,decide_eq_true_eq] at hb;obtain ⟨k,hk,aT⟩:=List.getElem_of_mem hb.1;refine ⟨k,by rw [<- V];simpa using hk,?_⟩;have ay:k<I.size:=by simpa using hk
       have:I[k]=b:=by simpa using aT
       simp [ay,this,hb.2]
      obtain ⟨k,⟨hk,a_⟩,Y⟩:=exists_least O;simp only [cP,Bool.and_eq_true] at Q;have:k∈Region.ready .any J I:=by
       refine mem_ready.2 ⟨a_,J[k],by simp [hk],fun e bc hb=> ?_⟩;have ac:=(i4 J.toList 0 Q.2 k J[k] (by simp [hk])).2;rw [Nat.zero_add] at ac;have bv:=ee _ ac e (by simpa using bc) hb;cases hl:I.getD e.on true with
       |true=>
        have:e.on<I.size:=by omega
        simpa [this] using hl
       |false=>have:=Y e.on ⟨by omega,hl⟩;omega
      rw [he] at this;cases this
    . have:=wE h i hi;unfold yX at this;split at this
      . exact this.elim
      . rename_i o ho;exact kY (fun a' w' ⟨f',an,hr⟩=>uI ad Q Z m _ f' a' w' (by simpa using V) (hs.set V hi) (count i hi) an hr) (pj Z ho ha this)
theorem yC {I:Array Oper} {n:Nat} (O:cP I=true) (Q:m_ P n I.toList=true) {K:Fr->World->Prop} {f:Fr} {a:Act} {w:World} (ha:Ag D n a f)
 (h:Dw P I f w K):iE P I (fun a' w'=> ∃Z,Ag D n a' Z/\K Z w') I.size (Array.replicate I.size false) a w:=by
 obtain ⟨W,V,h⟩:=h;have hs:tO I (Array.replicate I.size false):=fun j o ho hl=>by
  have X:j<I.size:=by
   rcases Nat.lt_or_ge j I.size with Y|Y
   . exact Y
   . simp [Array.getElem?_eq_none Y] at ho
  simp [X] at hl
 refine Gy O rfl I.size _ a w (by simp) hs (fun _=>V) ?_;cases J:rJ P I with
 |true=>
  rw [J,cond_true] at h;have U:=Bi Q I.toList 0 f a _ (by simp) ha h;exact tC ⟨w,V⟩ J I.size 0 _ a _ (by omega) (by simp) (fun j hj=>by simp [hj]) (by simpa using U)
 |false=>
  rw [J,cond_false] at h;exact uI ⟨w,V⟩ O Q I.size (Array.replicate I.size false) f a _ (by simp) hs (by simp [List.filter_replicate]) ha h
def dg (P:Program) (n:Nat):Code->Bool
 | .region _ ops cJ=>m_ P n ops.toList && (!cJ||cP ops)
 | .seq a b=>dg P n a && dg P n b
 | .cond _ a b=>dg P n a && dg P n b
 | .block _ c| .loop c| .scope c=>dg P n c
 | .skip| .label _| .exit _| .ret=>true
 |_=>false
def kJ (c:Code) (f I:Fr):Prop:= ∀i,iG (qF c) i=none->I i=f i
theorem eW: ∀ (l l':List (Nat × TypeId)) (i:Nat),iG (l++l') i=none↔iG l i=none/\iG l' i=none
 | [],l',i=>by simp [iG]
 | (d,t)::l,l',i=>by
   simp only [List.cons_append,iG];cases Nat.beq d i with
   |true=>simp
   |false=>simp only [cond_false];exact eW l l' i
theorem kV {I:Array Oper} {K O:Act->World->Prop}: ∀ (l:List Nat) (a:Act) (w:World),(∀a w,K a w->O a w)->oS P I K l a w->oS P I O l a w
 | [],_,_,h,J=>h _ _ J
 |_::l,_,_,h,J=>dQ (fun a w=>kV l a w h) J
theorem lN {l:List (Nat × TypeId)} {i d:Nat} {t:TypeId} (h:iG l i=none) (hm:(d,t)∈l):i≠d:=by
 induction l with
 |nil=>cases hm
 |cons x l J=>
  obtain ⟨I,O⟩:=x;simp only [iG] at h;cases hb:Nat.beq I i with
  |true=>rw [hb] at h;cases h
  |false=>
   rw [hb,cond_false] at h;rcases List.mem_cons.1 hm with he|hm
   . injection he with h1 Q;subst h1;intro he;rw [he,Nat.beq_refl] at hb;cases hb
   . exact J h hm
theorem jT {I:Array Oper} {K:Act->World->Prop} {ds:List (Nat × TypeId)} (J: ∀ (j:Nat) (o:Oper) (d:Nat),I[j]? =some o->o.dst=some d->(d,o.type)∈ds):
 ∀ (l:List Nat) (a:Act) (w:World),oS P I K l a w->oS P I (fun Q w'=>K Q w'/\∀i,iG ds i=none->Q.tmps.getD i undef=a.tmps.getD i undef) l a w
 | [],a,w,h=> ⟨h,fun _ _=>rfl⟩
 |k::l,a,w,h=>by
  change sP P I k (oS P I K l) a w at h;change sP P I k (oS P I _ l) a w;unfold sP at h ⊢;cases U:I[k]? with
  |none=>
   simp only [U] at h ⊢;exact jT J l a w h
  |some o=>
   simp only [U] at h ⊢;refine rC (fun v w' Y=> ?_) h;refine kV l _ _ (fun Q Z ⟨X,hi⟩=> ⟨X,fun i O=> ?_⟩) (jT J l _ w' Y);rw [hi i O];cases hd:o.dst with
   |none=>rfl
   |some d=>
    have V:=lN O (J k o d U hd);simp [Act.put,Array.getElem?_setIfInBounds_ne (Ne.symm V)]
theorem lg {J:Array Oper} {K Q:Act->World->Prop}: ∀ (m:Nat) (I:Array Bool) (a:Act) (w:World),(∀a w,K a w->Q a w)->iE P J K m I a w->iE P J Q m I a w
 |0,_,_,_,h,O=> ⟨O.1,h _ _ O.2⟩
 |m+1,_,_,_,h,O=> ⟨fun he=>h _ _ (O.1 he),fun i hi=>dQ (fun a w=>lg m _ a w h) (O.2 i hi)⟩
theorem jQ {J:Array Oper} {K:Act->World->Prop} {ds:List (Nat × TypeId)} (Q: ∀ (j:Nat) (o:Oper) (d:Nat),J[j]? =some o->o.dst=some d->(d,o.type)∈ds):
 ∀ (m:Nat) (I:Array Bool) (a:Act) (w:World),iE P J K m I a w->iE P J (fun X w'=>K X w'/\∀i,iG ds i=none->X.tmps.getD i undef=a.tmps.getD i undef) m I a w
 |0,_,a,w,h=> ⟨h.1,h.2,fun _ _=>rfl⟩
 |m+1,I,a,w,h=>by
  refine ⟨fun he=> ⟨h.1 he,fun _ _=>rfl⟩,fun k V=> ?_⟩;have O:=h.2 k V;unfold sP at O ⊢;cases Y:J[k]? with
  |none=>
   simp only [Y] at O ⊢;exact jQ Q m _ a w O
  |some o=>
   simp only [Y] at O ⊢;refine rC (fun v w' O=> ?_) O;refine lg m _ _ _ (fun X aa ⟨V,hi⟩=> ⟨V,fun i U=> ?_⟩) (jQ Q m _ _ w' O);rw [hi i U];cases hd:o.dst with
   |none=>rfl
   |some d=>
    have Z:=lN U (Q k o d Y hd);simp [Act.put,Array.getElem?_setIfInBounds_ne (Ne.symm Z)]
theorem wL {I:Array Oper} {id:Nat} {Q:Exit->Act->World->Prop} {a:Act} {w:World} (hm:P.follows .mixedOrders=true)
 (h:iE P I (fun a w=>Q .normal a w) I.size (Array.replicate I.size false) a w.drew):(Code.region id I true).wp P Q a w:=
 wp_region_any hm (qC (K:=fun a w=>Q .normal a w) (fun _ _ h=>h) _ _ _ _ h)
theorem tD (f:Fr): ∀ (as:List (Nat × TypeId)) (i:Nat),cA as (nU f as) i=if i∈as.map (·.1) then some (f i) else none
 | [],i=>by simp [cA]
 | (a,t)::as,i=>by
   simp only [nU,cA];cases hb:Nat.beq i a with
   |true=>
    obtain rfl:=Nat.eq_of_beq_eq_true hb;simp
   |false=>
    have J:i≠a:=fun he=>by rw [he,Nat.beq_refl] at hb;cases hb
    rw [cond_false,tD f as i];have I:(i∈((a,t)::as).map (·.1))↔i∈as.map (·.1):=by
     rw [List.map_cons,List.mem_cons];exact ⟨fun h=>h.resolve_left J,Or.inr⟩
    by_cases hm:i∈as.map (·.1)
    . rw [if_pos hm,if_pos (I.2 hm)]
    . rw [if_neg hm,if_neg (fun h=>hm (I.1 h))]
theorem kQ {c:Code} {as:List (Nat × TypeId)} {f I:Fr} (h:kJ c f I):IF c as (nU I as) f I=I:=by
 funext i;unfold IF;rw [tD];by_cases hm:i∈as.map (·.1)
 . rw [if_pos hm]
 . rw [if_neg hm];show (bif (iG (qF c) i).isNone then f i else I i)=I i;cases J:iG (qF c) i with
   |none=>exact (h i J).symm
   |some t=>rfl
theorem kJ.seq {a b:Code} {f g h:Fr} (h1:kJ a f g) (I:kJ b g h):kJ (.seq a b) f h:=fun i hi=>by
 obtain ⟨ha,hb⟩:=(eW _ _ _).1 hi;rw [I i hb,h1 i ha]
theorem kJ.left {a b:Code} {f g:Fr} (h1:kJ a f g):kJ (.seq a b) f g:=fun i hi=>h1 i ((eW _ _ _).1 hi).1
theorem yd {R:Type} (b:Bk) {I:Ff b R} {v:Value} {C:R->Prop} (h:Df b I v C): ∃r,C r/\∀J:R->Prop,J r->Df b I v J:=by
 cases b<;>simp only [Df] at h ⊢
 case int k=>
  split at h
  . rename_i U n';cases Q:k==U with
    |false=>rw [Q] at h;exact h.elim
    |true=>rw [Q,cond_true] at h;exact ⟨_,h,fun J O=>O⟩
  . exact h.elim
 case any=>exact ⟨_,h,fun J O=>O⟩
 all_goals
  split at h
  . exact ⟨_,h,fun J O=>O⟩
  . exact h.elim
theorem Ci {R:Type} (l:List Bk): ∀ {I:xI l R} {vs:List Value} {C:R->Prop},xo l I vs C->∃r,C r/\∀J:R->Prop,J r->xo l I vs J:=by
 induction l with
 |nil=>
  intro I vs C h;cases vs with
  |nil=>exact ⟨_,h,fun J O=>O⟩
  |cons=>exact h.elim
 |cons b l ih=>
  intro I vs C h;cases vs with
  |nil=>exact h.elim
  |cons v vs=>
   obtain ⟨r,h1,Y⟩:=yd b h;obtain ⟨X,Q,V⟩:=ih h1;exact ⟨X,Q,fun J O=>Y (fun U=>xo l U vs J) (V J O)⟩
theorem Eu {R:Type} (k:Vk) {I:H6 k R} {v:Value} {C:R->Prop} (h:qG k I v C): ∃r,C r/\∀J:R->Prop,J r->qG k I v J:=by
 cases k with
 |bH b=>exact yd b h
 |agg l=>
  simp only [qG] at h ⊢;split at h
  . obtain ⟨r,h1,Q⟩:=Ci l h;exact ⟨r,h1,fun J O=>Q J O⟩
  . exact h.elim
theorem oh {R:Type} (l:List Vk): ∀ {I:uM l R} {vs:List Value} {C:R->Prop},ql l I vs C->∃r,C r/\∀J:R->Prop,J r->ql l I vs J:=by
 induction l with
 |nil=>
  intro I vs C h;cases vs with
  |nil=>exact ⟨_,h,fun J O=>O⟩
  |cons=>exact h.elim
 |cons b l ih=>
  intro I vs C h;cases vs with
  |nil=>exact h.elim
  |cons v vs=>
   obtain ⟨r,h1,Y⟩:=Eu b h;obtain ⟨X,Q,V⟩:=ih h1;exact ⟨X,Q,fun J O=>Y (fun U=>ql l U vs J) (V J O)⟩
theorem it (hm:P.follows .mixedOrders=true) {n:Nat} (c:Code): ∀ {ann:qf} {f:Fr} {w:World} {Q:H8} {a:Act},dg P n c=true->Ag D n a f->qN P c ann f w Q->
 c.wp P (fun e a' w'=> ∃U,Ag D n a' U/\Q e U w'/\kJ c f U) a w:=by
 induction c with
 |skip=>intro ann f w Q a _ ha h;exact wp_skip ⟨f,ha,h,fun _ _=>rfl⟩
 |label l=>intro ann f w Q a _ ha h;exact wp_label ⟨f,ha,h,fun _ _=>rfl⟩
 |exit id=>intro ann f w Q a _ ha h;exact wp_exit ⟨f,ha,h,fun _ _=>rfl⟩
 |ret=>intro ann f w Q a _ ha h;exact wp_ret ⟨f,ha,h,fun _ _=>rfl⟩
 |goto l=>intro ann f w Q a h;cases h
 |refuse y=>intro ann f w Q a h;cases h
 |rangeFunc g ps x y=>intro ann f w Q a h;cases h
 |region id X cJ=>
  intro ann f w Q a Y ha h;simp only [dg,Bool.and_eq_true] at Y;have ap: ∀ (j:Nat) (o:Oper) (d:Nat),X[j]? =some o->o.dst=some d->(d,o.type)∈qF (.region id X cJ):=fun j o d ho hd=>by
   simp only [qF,List.mem_filterMap];refine ⟨o,?_,by rw [hd];rfl⟩;exact Array.mem_toList_iff.2 (Array.mem_of_getElem? ho)
  have dV: ∀a' w',((∃U,Ag D n a' U/\Q .normal U w')/\∀i,iG (qF (.region id X cJ)) i=none->a'.tmps.getD i undef=a.tmps.getD i undef)->
   ∃U,Ag D n a' U/\Q .normal U w'/\kJ (.region id X cJ) f U:=by
   rintro a' w' ⟨⟨U,O,hq⟩,hi⟩;exact ⟨U,O,hq,fun i b5=>by rw [<- O.2.2,hi i b5,ha.2.2]⟩
  cases cJ with
  |false=>
   have an:=qY Y.1 X.toList 0 f a _ (by simp) ha h;have V:=jT ap _ _ _ an;rw [Array.length_toList] at V;exact zo (kV _ _ _ dV V)
  |true=>
   have ar:cP X=true:=by simpa using Y.2
   simp only [qN,cond_true] at h;cases bk:ann.drawn with
   |true=>
    rw [bk,cond_true] at h;exact wL hm (lg _ _ _ _ dV (jQ ap _ _ _ _ (yC ar Y.1 ha h)))
   |false=>
   simp only [bk,cond_false,Dk] at h;cases ag:oH P X with
   |true=>
    rw [ag,cond_true] at h;have an:=qY Y.1 X.toList 0 f a _ (by simp) ha h;have V:=jT ap _ _ _ an;rw [Array.length_toList] at V;exact AK hm ag (kV _ _ _ dV V)
   |false=>
    rw [ag,cond_false] at h;have bb:=ud ar Y.1 X.size (Array.replicate X.size false) f a _ (by simp) (fun j o ho hl=>by
     have bx:j<X.size:=by
      rcases Nat.lt_or_ge j X.size with h'|h'
      . exact h'
      . simp [Array.getElem?_eq_none h'] at ho
     simp [bx] at hl) (by simp [List.filter_replicate]) ha h
    have V:=jQ ap _ _ _ _ bb;exact wL hm (lg _ _ _ _ dV V)
 |seq x y ihx ihy=>
  intro ann f w Q a Y ha h;simp only [dg,Bool.and_eq_true] at Y;simp only [qN] at h;refine wp_seq ?_;cases av:ann.Ha with
  |none=>
   simp only [av] at h;refine wp_mono (ihx Y.1 ha h) fun e a' w' ⟨U,O,hq,V⟩=> ?_;cases e with
   |normal=>exact wp_mono (ihy Y.2 O hq) fun e bc ax ⟨ac,Z,az,aw⟩=> ⟨ac,Z,az,V.seq aw⟩
   |_=>exact ⟨U,O,hq,V.left⟩
  |some as=>
   simp only [av] at h;obtain ⟨J,h1,h2⟩:=h;refine wp_mono (ihx Y.1 ha h1) fun e a' w' ⟨U,O,hq,V⟩=> ?_;cases e with
   |normal=>
    obtain ⟨r,hr,ad⟩:=nh _ hq h2;have:=ad w' U hr;rw [kQ V] at this;exact wp_mono (ihy Y.2 O this) fun e bc ax ⟨ac,Z,az,aw⟩=> ⟨ac,Z,az,V.seq aw⟩
   |_=>exact ⟨U,O,hq,V.left⟩
 |cond o x y ihx ihy=>
  intro ann f w Q a Y ha h;simp only [dg,Bool.and_eq_true] at Y;simp only [qN] at h;split at h
  . rename_i t ht;have a7:a.eval o= .bool t:=by rw [ha.eval];exact ht
    cases t with
    |true=>
     refine wp_cond_true a7 (wp_mono (ihx Y.1 ha h) fun e a' w' ⟨U,O,hq,V⟩=> ⟨U,O,hq,fun i hi=>V i ((eW _ _ _).1 hi).1⟩)
    |false=>
     refine wp_cond_false a7 (wp_mono (ihy Y.2 ha h) fun e a' w' ⟨U,O,hq,V⟩=> ⟨U,O,hq,fun i hi=>V i ((eW _ _ _).1 hi).2⟩)
  . exact h.elim
 |block id x ih=>
  intro ann f w Q a Y ha h;refine wp_block (wp_mono (ih Y ha h) fun e a' w' ⟨U,O,hq,V⟩=> ?_);cases e with
  |exit i=>
   simp only [Exit.inBlock];simp only at hq;cases hb:Nat.beq i id with
   |true=>
    obtain rfl:=Nat.eq_of_beq_eq_true hb;rw [hb,cond_true] at hq;rw [if_pos rfl];exact ⟨U,O,hq,V⟩
   |false=>
    rw [hb,cond_false] at hq;rw [if_neg (fun he=>by rw [he,Nat.beq_refl] at hb;cases hb)];exact ⟨U,O,hq,V⟩
  |_=>exact ⟨U,O,hq,V⟩
 |scope x ih=>
  intro ann f w Q a Y ha h;refine wp_scope_straight (wp_mono (ih Y ha h) fun e a' w' ⟨U,O,hq,V⟩=> ?_);cases e with
  |goto l=>exact hq.elim
  |_=>exact ⟨U,O,hq,V⟩
 |loop x ih=>
  intro ann f w Q a Y ha h;simp only [qN] at h;obtain ⟨I,h1,h2⟩:=h;have bY:=oh _ h1;obtain ⟨r0,⟨k0,bu⟩,ay⟩:=bY;refine wp_loop_ghost (fun k a' w'=> ∃U:Fr,Ag D n a' U/\kJ x f U/\ql (j8 P ann.vp) I (nU U ann.vp) fun r=>r w' k) k0 ⟨f,ha,fun _ _=>rfl,ay (fun r=>r w k0) bu⟩ ?_;intro k a' w' ⟨U,O,aT,hI⟩;obtain ⟨r,hr,ad⟩:=nh _ hI h2;have hb:=ad w' k U hr;rw [kQ aT] at hb;refine wp_mono (ih Y O hb) fun e bc ax ⟨ac,Z,hq,V⟩=> ?_;have a8:kJ x f ac:=fun i hi=> (V i hi).trans (aT i hi);cases e with
  |normal=>
   obtain ⟨r',⟨k',bv,b4⟩,a6⟩:=oh _ hq;exact ⟨k',bv,ac,Z,a8,a6 (fun r=>r ax k') b4⟩
  |_=>exact ⟨ac,Z,hq,a8⟩
theorem kX: ∀ {rs:List ResultVar} {f:Fr} {a:Act} {n:Nat} {w:World} {K:List Value->Prop},Ag D n a f->ux P rs f w K->
 ∃vs,(rs.mapM fun (x:ResultVar)=>match x with| .tmp t=> (pure (a.tmps.getD t undef):Sem Value)| .cell b t=>do loadVar t (<- asAddr (a.tmps.getD b undef))).run P w= .ok vs w/\K vs
 | [],_,_,_,_,_,_,h=> ⟨[],rfl,h⟩
 | .tmp t::l,f,a,n,w,K,ha,h=>by
   obtain ⟨vs,hr,I⟩:=kX (rs:=l) ha h;refine ⟨_,?_,I⟩;simp only [List.mapM_cons,Sem.run_bind,Sem.run_pure,Result.andThen_ok,hr];rw [ha.2.2]
 | .cell b t::l,f,a,n,w,K,ha,h=>by
   simp only [ux] at h;split at h
   . rename_i p hp;obtain ⟨v,hv,h⟩:=Af h;obtain ⟨vs,hr,I⟩:=kX (rs:=l) ha h;refine ⟨_,?_,I⟩;simp only [List.mapM_cons,Sem.run_bind];rw [ha.2.2,hp];rw [show (asAddr (.pointer (some p))).run P w= .ok p w from rfl];simp only [Result.andThen_ok,hv,hr,Sem.run_pure]
   . exact h.elim
theorem pM: ∀ (args:List Value) (i:Nat),oK args i=args.getD i undef
 | [],i=>by simp [oK]
 |v::vs,0=>by simp [oK]
 |v::vs,i+1=>by simp [oK,pM vs i]
def Fu (P:Program) (fn:Func) (args:Nat):Bool:=
 match fn.body with
 |none=>false
 |some c=>dg P fn.ntmps c && Nat.ble args fn.ntmps
theorem zK (hm:P.follows .mixedOrders=true) {f:FuncId} {fn:Func} (hf:P.funcs[f]? =some fn) {ann:qf} {args:List Value} {w:World} {K:Value->World->Prop}
 (I:Fu P fn args.length=true) (h:Mh P fn ann args w K):Calls P f args.toArray w fun e w'=> ∃v,e= .returned v/\K v w':=by
 unfold Mh at h;unfold Fu at I;split at h
 . exact h.elim
 . rename_i c hb;rw [hb] at I;simp only [Bool.and_eq_true] at I;have V:args.length<=fn.ntmps:=by simpa using I.2
   refine calls_of_wp hf hb ?_;have ha:Ag [] fn.ntmps {tmps:=args.toArray++Array.replicate (fn.ntmps - args.toArray.size) undef,defers:= []} (oK args):=by
    refine ⟨by simp;omega,rfl,fun i=> ?_⟩;rw [pM];simp only [Array.getD_eq_getD_getElem?,List.getD_eq_getElem?_getD];by_cases hi:i<args.length
    . rw [Array.getElem?_append_left (by simpa using hi)];simp
    . rw [Array.getElem?_append_right (by simpa using hi)];rw [List.getElem?_eq_none (by omega)];rw [Array.getElem?_replicate];split<;>rfl
   refine wp_mono (it hm c I.1 ha h) fun e O w' ⟨U,J,hq,_⟩=> ?_;have dV:ux P fn.results.toList U w' (fun vs=>K (ii vs) w')->O.defers= []/\∃v,(results fn O.tmps).run P w'= .ok v w'/\∃u,Ending.returned v= .returned u/\K u w':=by
    intro hr;obtain ⟨vs,hv,Q⟩:=kX J hr;refine ⟨J.2.1,ii vs,?_,_,rfl,Q⟩;unfold results;rw [Array.mapM_eq_mapM_toList];simp only [Sem.run_bind,Sem.run_map];refine (congrArg (fun r=>Result.andThen (Result.andThen r _) _) hv).trans ?_;simp only [Result.andThen_ok,Sem.run_pure]
    match vs with
    | []=>simp [ii]
    | [v]=>simp [ii]
    |u::v::l=>simp [ii]
   cases e with
   |normal=>exact dV hq
   |ret=>exact dV hq
   |_=>exact hq.elim
theorem Is {P:Program} (hm:P.follows .mixedOrders=true) {f:FuncId} {fn:Func} (hf:P.funcs[f]? =some fn) {ann:qf} {args:List Value} {n:Nat} (I:Fu P fn n=true) (hn:args.length=n)
 {w:World} {F:(Value->World->Prop)->Prop} (he: ∀K,Mh P fn ann args w K=F K) {R:Ending->World->Prop} (h:F fun v w'=>R (.returned v) w'):Calls P f args.toArray w R:=by
 subst hn;refine (zK hm hf I (Eq.mpr (he _) h)).mono ?_;rintro e w' ⟨v,rfl,J⟩;exact J
end Go.Fw
