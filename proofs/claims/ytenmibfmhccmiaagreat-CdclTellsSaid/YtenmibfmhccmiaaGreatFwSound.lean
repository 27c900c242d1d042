/- The frame is sound: what it asks of a function is a contract of the function. -/
import Derived.Test.YtenmibfmhccmiaaGreatFwOrderW
import Derived.Deep.LoopGhost
namespace Go.Fw
open Go
variable {P:Program} {D:List Deferred}
def Ag (D:List Deferred) (n:Nat) (a:Act) (f:Fr):Prop:=a.tmps.size=n/\a.defers=D/\∀i,a.tmps.getD i undef=f i
theorem Ag.eval {n:Nat} {a:Act} {f:Fr} (h:Ag D n a f):a.eval=ev f:=by
 funext x;cases x<;>simp [Act.eval,ev];exact (by simpa using h.2.2 _)
theorem zG (f:Fr) (j:Nat) (v:Value) (i:Nat):f.set (some j) v i=if i=j then v else f i:=by
 show (bif Nat.beq i j then v else f i)=_;cases hb:Nat.beq i j with
 |true=>rw [if_pos (Nat.eq_of_beq_eq_true hb)];rfl
 |false=>rw [if_neg (fun h=>by rw [h,Nat.beq_refl] at hb;cases hb)];rfl
theorem Ag.put {n:Nat} {a:Act} {f:Fr} (h:Ag D n a f) {d:Option Nat} (O: ∀j,d=some j->j<n) (v:Value):Ag D n (a.put d v) (f.set d v):=by
 cases d with
 |none=>exact h
 |some j=>
  obtain ⟨h1,J,U⟩:=h;refine ⟨by simpa [Act.put] using h1,J,fun i=> ?_⟩;rw [zG];have Q:=O j rfl;by_cases I:i=j
  . subst I;simp [Act.put,h1,Q]
  . rw [if_neg I,<- U i];simp [Act.put,Array.getElem?_setIfInBounds_ne (Ne.symm I)]
theorem yM (f:Fr) (t:Nat) (v:Value) (h:f t=v):f.set (some t) v=f:=by
 funext i;rw [zG];by_cases hi:i=t
 . subst hi;simp [h]
 . simp [hi]
def qx (n:Nat) (o:Oper):Bool:=
 match o.dst with
 |none=>true
 |some d=>Nat.blt d n
theorem jz {n:Nat} {o:Oper} (h:qx n o=true): ∀j,o.dst=some j->j<n:=by
 intro j I;simp only [qx,I] at h;simpa using h
def lM (P:Program) (n:Nat):List Oper->Bool
 | []=>true
 |o::l=>qx n o && yh P o && lM P n l
theorem tq {I:Array Oper} {n:Nat} {a:Act} {f:Fr} (h:Ag D n a f) {j t:Nat} (ht:(I[j]?).bind (·.dst)=some t) (O:t<n) {b:Bool} (hb:f t= .bool b):
 yielded I a.tmps j=some b:=by
 unfold yielded;rw [ht];have Q:=h.2.2 t;have J:t<a.tmps.size:=by rw [h.1];exact O
 simp only [Option.bind_some,Array.getElem?_eq_getElem J];simp [J] at Q;rw [Q,hb]
theorem mC {n:Nat}: ∀ {l:List Oper},lM P n l=true->∀ (j:Nat) (o:Oper),l[j]? =some o->qx n o=true/\yh P o=true
 | [],_,j,o,h=>by simp at h
 |x::l,h,j,o,ho=>by
  simp only [lM,Bool.and_eq_true] at h;cases j with
  |zero=>simp at ho;subst ho;exact h.1
  |succ j=>exact mC h.2 j o (by simpa using ho)
theorem lh {J:Array Oper} {n:Nat} (Z:lM P n J.toList=true) {i:Nat} {o:Oper} (h0:J[i]? =some o) {f:Fr} {a:Act} {w:World} {C:Fr->World->Prop} (ha:Ag D n a f)
 (h:zJ P J o f w C):rz P J i (fun a' w'=> ∃Q,Ag D n a' Q/\C Q w') a w:=by
 obtain ⟨hd,hc⟩:=mC Z i o (by simpa using h0);have U:=jz hd;unfold rz;simp only [h0];have O: ∀ {f:Fr},Ag D n a f->(oG P o f w fun v w'=>C (f.set o.dst v) w')->si P (aZ P o) (execOp a.eval o) w fun v w'=> ∃Q,Ag D n (a.put o.dst v) Q/\C Q w':=by
  intro f ha h;rw [ha.eval];exact vL (fun v w' hr=> ⟨_,ha.put U v,hr⟩) (oN o f w _ hc h)
 have pass: ∀ {f:Fr},Ag D n a f->C (f.set o.dst undef) w->∃Q,Ag D n (a.put o.dst undef) Q/\C Q w:=by
  intro f ha h;exact ⟨_,ha.put U undef,h⟩
 unfold zJ at h;split at h
 . rename_i hg;exact t7 (by simp [Region.wanted,hg]) (O ha h)
 . rename_i j want hg;split at h
   . exact h.elim
   . rename_i t ht;have X:t<n:=by
      cases V:J[j]? with
      |none=>simp [V] at ht
      |some oj=>
       rw [V] at ht;exact jz (mC Z j oj (by simpa using V)).1 t (by simpa using ht)
     split at h
     . rename_i b hb;have hy:=tq ha ht X hb;have Y:f.set (some t) (.bool b)=f:=yM f t _ hb;have I:Region.wanted o (yielded J a.tmps)=(b==want):=by
        simp [Region.wanted,hg,hy]
       cases b<;>cases want<;>simp only [aH,cond_true,cond_false,Y] at h
       . exact t7 (by rw [I];rfl) (O ha h)
       . unfold oU;rw [if_neg (by rw [I];simp)];exact pass ha h
       . unfold oU;rw [if_neg (by rw [I];simp)];exact pass ha h
       . exact t7 (by rw [I];rfl) (O ha h)
     . rename_i vs hb;have hy:yielded J a.tmps j=none:=by
        unfold yielded;rw [ht];have h3:=ha.2.2 t;have aa:t<a.tmps.size:=by rw [ha.1];exact X
        simp only [Option.bind_some,Array.getElem?_eq_getElem aa];simp [aa] at h3;rw [h3,hb]
       have I:Region.wanted o (yielded J a.tmps)=false:=by
        simp [Region.wanted,hg,hy]
       unfold oU;rw [if_neg (by rw [I];simp)];exact pass ha h
     . exact h.elim
theorem qd {I:Array Oper} {n:Nat} (J:lM P n I.toList=true) {K:Fr->World->Prop}: ∀ (l:List Oper) (k:Nat) (f:Fr) (a:Act) (w:World),(∀j,l[j]? =I[k+j]?)->Ag D n a f->
 KL P I l f w K->nu P I (fun U w'=> ∃O,Ag D n U O/\K O w') (List.range' k l.length) a w
 | [],_,f,a,w,_,ha,h=> ⟨f,ha,h⟩
 |o::l,k,f,a,w,hl,ha,h=>by
  have X:I[k]? =some o:=by simpa using (hl 0).symm
  have Q: ∀j,l[j]? =I[k+1+j]? :=fun j=>by have:=hl (j+1);simpa [Nat.add_assoc,Nat.add_comm 1 j] using this
  rw [List.length_cons,List.range'_succ];exact d6 (fun U w' ⟨O,V,hr⟩=>qd J l (k+1) O U w' Q V hr) (lh J X ha h)
theorem td {C:Nat->Prop}: ∀ {l:List Nat},HQ l C->∀i∈l,C i
 | [],_,i,hi=>by cases hi
 | [j],h,i,hi=>by simp at hi;subst hi;exact h
 |j::k::l,h,i,hi=>by
  rcases List.mem_cons.1 hi with rfl|hi
  . exact h.1
  . exact td h.2 i hi
theorem sV {J:Array Oper} {n:Nat} (U:cS J=true) (Y:lM P n J.toList=true) {K:Fr->World->Prop}: ∀ (m:Nat) (I:Array Bool) (f:Fr) (a:Act) (w:World),
 I.size=J.size->sb J I->(I.toList.filter (·=false)).length=m->Ag D n a f->
 LF P J (jL J.toList []) m I f w K->io P J (fun a' w'=> ∃f',Ag D n a' f'/\K f' w') m I a w
 |0,I,f,a,w,V,hs,hm,ha,h=>by
  refine ⟨?_,f,ha,h⟩;cases hr:Region.ready .any J I with
  |nil=>rfl
  |cons x xs=>
   have hx:x∈Region.ready .any J I:=by rw [hr];exact List.mem_cons_self ..
   obtain ⟨O,o,ho,_⟩:=mem_ready.1 hx;have aa:x<I.size:=by
    rcases Nat.lt_or_ge x I.size with X|X
    . exact X
    . simp [Array.getElem?_eq_none X] at O
   have Q:I[x]∈I.toList.filter (·=false):=by
    simp only [List.mem_filter];refine ⟨by simp,?_⟩;simp [aa] at O;simp [O]
   have:=List.length_pos_of_mem Q;omega
 |m+1,I,f,a,w,V,hs,hm,ha,h=>by
  have count: ∀i,i∈Region.ready .any J I->((I.setIfInBounds i true).toList.filter (·=false)).length=m:=by
   intro i hi;obtain ⟨O,o,ho,_⟩:=mem_ready.1 hi;have aa:i<I.size:=by
    rcases Nat.lt_or_ge i I.size with X|X
    . exact X
    . simp [Array.getElem?_eq_none X] at O
   have key: ∀ (l:List Bool) (i:Nat),l[i]? =some false->((l.set i true).filter (·=false)).length+1=(l.filter (·=false)).length:=by
    intro l
    induction l with
    |nil=>intro i h;simp at h
    |cons b l ih=>
     intro i h;cases i with
     |zero=>simp at h;subst h;simp
     |succ i=>
      simp only [List.getElem?_cons_succ] at h;have:=ih i h;cases b<;>simp only [List.set_cons_succ,List.filter_cons]<;>simp<;>simpa using this
   have hf:I.toList[i]? =some false:=by
    simp [aa] at O;simp [aa,O]
   have:=key I.toList i hf;simp only [Array.toList_setIfInBounds];omega
  simp only [LF] at h;split at h
  . rename_i i hi;have Q:=List.mem_of_find?_eq_some hi;have ag:=List.find?_some hi;unfold CU at h;split at h
    . exact h.elim
    . rename_i o ho;refine wJ U m I a w V hs Q ?_ ?_
      . intro oi j oj a6 ar O bk bb;have a7:j<J.size:=by
         rcases Nat.lt_or_ge j J.size with X|X
         . exact X
         . simp [Array.getElem?_eq_none X] at ar
        have:=List.all_eq_true.1 ag j (List.mem_range.2 a7);simp only [Bool.or_eq_true,a6,ar,Bool.and_eq_true] at this;rcases this with ((h1|h2)|h3)|h4
        . rw [O] at h1;cases h1
        . exact absurd (Nat.eq_of_beq_eq_true h2) bk
        . rw [bb] at h3;cases h3
        . exact ⟨h4.1.1,h4.2⟩
      . exact d6 (fun a' w' ⟨f',an,hr⟩=>sV U Y m _ f' a' w' (by simpa using V) (hs.set V Q) (count i Q) an hr) (lh Y ho ha h)
  . rename_i az;refine ⟨fun he=> ?_,fun i hi=> ?_⟩
    ·
     exfalso;have O: ∃k:Nat,k<J.size/\I.getD k true=false:=by
      have:0< (I.toList.filter (·=false)).length:=by omega
      obtain ⟨b,hb⟩:=List.exists_mem_of_length_pos this;simp only [List.mem_filter,decide_eq_true_eq] at hb;obtain ⟨k,hk,a8⟩:=List.getElem_of_mem hb.1;refine ⟨k,by rw [<- V];simpa using hk,?_⟩;have aT:k<I.size:=by simpa using hk
      have:I[k]=b:=by simpa using a8
      simp [aT,this,hb.2]
     obtain ⟨k,⟨hk,a_⟩,Z⟩:=exists_least O;simp only [cS,Bool.and_eq_true] at U;have:k∈Region.ready .any J I:=by
      refine mem_ready.2 ⟨a_,J[k],by simp [hk],fun e ay hb=> ?_⟩;have ac:=(iT J.toList 0 U.2 k J[k] (by simp [hk])).2;rw [Nat.zero_add] at ac;have b5:=eU _ ac e (by simpa using ay) hb;cases hl:I.getD e.on true with
      |true=>
       have:e.on<I.size:=by omega
       simpa [this] using hl
      |false=>have:=Z e.on ⟨by omega,hl⟩;omega
     rw [he] at this;cases this
    . have:=td h i hi;unfold CU at this;split at this
      . exact this.elim
      . rename_i o ho;exact d6 (fun a' w' ⟨f',an,hr⟩=>sV U Y m _ f' a' w' (by simpa using V) (hs.set V hi) (count i hi) an hr) (lh Y ho ha this)
theorem BZ {keep:Bool} {W:World->Prop} {w:World} {K:Prop} (h:y8 keep W w K):(keep=true->W w)/\K:=by
 cases keep with
 |true=>exact ⟨fun _=>h.1,h.2⟩
 |false=>exact ⟨fun h=> (by cases h),h⟩
theorem uV {b:Bk} {C D:Value->Prop} (h: ∀v,C v->D v) (g:Eo b C):Eo b D:=by
 cases b<;>simp only [Eo] at g ⊢
 case slice=>obtain ⟨p,n,c,g⟩:=g;exact ⟨p,n,c,h _ g⟩
 case fn=>obtain ⟨p,c,g⟩:=g;exact ⟨p,c,h _ g⟩
 all_goals (obtain ⟨x,g⟩:=g;exact ⟨x,h _ g⟩)
theorem CF {b:Bk} {C:Value->Prop} (g:Eo b C): ∃v,C v/\Eo b fun I=>I=v:=by
 cases b<;>simp only [Eo] at g ⊢
 case slice=>obtain ⟨p,n,c,g⟩:=g;exact ⟨_,g,p,n,c,rfl⟩
 case fn=>obtain ⟨p,c,g⟩:=g;exact ⟨_,g,p,c,rfl⟩
 all_goals (obtain ⟨x,g⟩:=g;exact ⟨_,g,x,rfl⟩)
theorem q6: ∀ {l:List Bk} {C D:List Value->Prop},(∀v,C v->D v)->vf l C->vf l D
 | [],_,_,h,g=>h _ g
 |_::_,_,_,h,g=>uV (fun _ g=>q6 (fun _ g=>h _ g) g) g
theorem zm: ∀ {l:List Bk} {C:List Value->Prop},vf l C->∃vs,C vs/\vf l fun I=>I=vs
 | [],_,g=> ⟨[],g,rfl⟩
 |_::_,_,g=>by
  obtain ⟨v,g,Q⟩:=CF g;obtain ⟨vs,g,O⟩:=zm g;exact ⟨v::vs,g,uV (fun U hv=>q6 (fun I J=>by rw [hv,J]) O) Q⟩
theorem Gp {t:TypeId} {a:Addr} {W:World->Prop} {K:Value->Prop} (h:Mz P t a W K): ∃v,(∀u,W u->JH P t a u fun O=>O=v)/\K v:=by
 unfold Mz at h;split at h
 . rename_i ht;obtain ⟨v,⟨hv,J⟩,hb⟩:=CF h;refine ⟨v,fun u hu=> ?_,J⟩;unfold JH;simp only [ht];exact uV (fun O he=>by subst he;exact ⟨hv u hu,rfl⟩) hb
 . rename_i ht;split at h
   . rename_i i hi;cases I:Nat.beq i.size (pW P 10 t).length with
     |false=>rw [I] at h;exact h.elim
     |true=>
      rw [I,cond_true] at h;obtain ⟨vs,⟨hv,J⟩,hb⟩:=zm h;refine ⟨_,fun u hu=> ?_,J⟩;unfold JH;simp only [ht,hi,I,cond_true];exact q6 (fun O he=>by subst he;exact ⟨hv u hu,rfl⟩) hb
   . exact h.elim
 . exact h.elim
theorem DW {W:World->Prop} {keep:Bool} (o:Oper) (f:Fr) (w:World) (K:Value->World->Prop) (U:yh P o=true) (h:KE P W keep o f w K):
 oY P W keep (aZ P o) (execOp (ev f) o) w K:=by
 have J:(oG P o f w fun v w'=>y8 keep W w' (K v w'))->2<=aZ P o->oY P W keep (aZ P o) (execOp (ev f) o) w K:=by
  intro h I;have O:=oN o f w _ U h
  match hq:aZ P o with
  |0=>omega
  |1=>omega
  |n+2=>rw [hq] at O;exact jq (fun v w' Y=>BZ Y) O
 have pure:oG P o f w K->aZ P o=0->oY P W keep (aZ P o) (execOp (ev f) o) w K:=by
  intro h I;have O:=oN o f w _ U h;rw [I] at O ⊢;exact O
 have read: ∀v,(∀u,W u->oG P o f u fun V _=>V=v)->aZ P o=1->K v w->oY P W keep (aZ P o) (execOp (ev f) o) w K:=by
  intro v hv I Z;rw [I];refine ⟨v,fun u hu=> ?_,Z⟩;have O:=oN o f u _ U (hv u hu);rw [I] at O;obtain ⟨V,hr,rfl⟩:=O;exact hr
 have rest:(bif Nat.ble (aZ P o) 0 then oG P o f w K else oG P o f w fun v w'=>y8 keep W w' (K v w'))->aZ P o≠1->oY P W keep (aZ P o) (execOp (ev f) o) w K:=by
  intro h X;cases hb:Nat.ble (aZ P o) 0 with
  |true=>rw [hb,cond_true] at h;exact pure h (by have:=Nat.le_of_ble_eq_true hb;omega)
  |false=>
   rw [hb,cond_false] at h;refine J h ?_;have: ¬aZ P o<=0:=fun Q=>by rw [Nat.ble_eq_true_of_le Q] at hb;cases hb
   omega
 obtain ⟨dst,op,type,pos,after,guard⟩:=o;cases op
 case load t x=>
  simp only [KE] at h;split at h
  . rename_i a ha;obtain ⟨v,hv,I⟩:=Gp h;refine read v (fun u hu=> ?_) rfl I;simp only [oG,ha];exact hv u hu
  . exact h.elim
 case call c=>
  obtain ⟨callee,args,argTypes⟩:=c;cases callee with
  |invoke r m=>exact J h (by simp [aZ])
  |value x=>exact J h (by simp [aZ])
  |builtin b=>
   cases b
   case len=>
    simp only [KE,Lz] at h;split at h
    . rename_i p n c hl;split at h
      . rename_i e he;refine read _ (fun u hu=> ?_) rfl h;simp only [oG,pU,hl,he]
      . exact h.elim
    . rename_i r hl;obtain ⟨n,hn,I⟩:=h;refine read _ (fun u hu=> ?_) rfl I;simp only [oG,pU,hl];exact ⟨n,hn u hu,rfl⟩
    . exact h.elim
   case max=>exact pure h rfl
   case min=>exact pure h rfl
   all_goals exact J h (by simp [aZ])
 case binOp b t x y z=>
  refine rest h ?_;simp only [aZ];repeat' split
  all_goals simp
 all_goals exact rest h (by simp [aZ])
theorem nC {W:World->Prop} {B:List Nat} {J:Array Oper} {n:Nat} (Z:lM P n J.toList=true) {i:Nat} {o:Oper} (h0:J[i]? =some o) {f:Fr} {a:Act} {w:World} {C:Fr->World->Prop} (ha:Ag D n a f)
 (h:Cd P J W (qu P J B i) o f w C):mj P J W B i (fun a' w'=> ∃Q,Ag D n a' Q/\C Q w') a w:=by
 obtain ⟨hd,hc⟩:=mC Z i o (by simpa using h0);have U:=jz hd;unfold mj;simp only [h0];have O: ∀ {f:Fr},Ag D n a f->(KE P W (qu P J B i) o f w fun v w'=>C (f.set o.dst v) w')->oY P W (qu P J B i) (aZ P o) (execOp a.eval o) w fun v w'=> ∃Q,Ag D n (a.put o.dst v) Q/\C Q w':=by
  intro f ha h;rw [ha.eval];exact uS (fun v w' hr=> ⟨_,ha.put U v,hr⟩) (DW o f w _ hc h)
 have pass: ∀ {f:Fr},Ag D n a f->C (f.set o.dst undef) w->∃Q,Ag D n (a.put o.dst undef) Q/\C Q w:=by
  intro f ha h;exact ⟨_,ha.put U undef,h⟩
 unfold Cd at h;split at h
 . rename_i hg;exact xE (by simp [Region.wanted,hg]) (O ha h)
 . rename_i j want hg;split at h
   . exact h.elim
   . rename_i t ht;have X:t<n:=by
      cases V:J[j]? with
      |none=>simp [V] at ht
      |some oj=>
       rw [V] at ht;exact jz (mC Z j oj (by simpa using V)).1 t (by simpa using ht)
     split at h
     . rename_i b hb;have hy:=tq ha ht X hb;have Y:f.set (some t) (.bool b)=f:=yM f t _ hb;have I:Region.wanted o (yielded J a.tmps)=(b==want):=by
        simp [Region.wanted,hg,hy]
       cases b<;>cases want<;>simp only [aH,cond_true,cond_false,Y] at h
       . exact xE (by rw [I];rfl) (O ha h)
       . unfold kP;rw [if_neg (by rw [I];simp)];exact pass ha h
       . unfold kP;rw [if_neg (by rw [I];simp)];exact pass ha h
       . exact xE (by rw [I];rfl) (O ha h)
     . rename_i vs hb;have hy:yielded J a.tmps j=none:=by
        unfold yielded;rw [ht];have h3:=ha.2.2 t;have aa:t<a.tmps.size:=by rw [ha.1];exact X
        simp only [Option.bind_some,Array.getElem?_eq_getElem aa];simp [aa] at h3;rw [h3,hb]
       have I:Region.wanted o (yielded J a.tmps)=false:=by
        simp [Region.wanted,hg,hy]
       unfold kP;rw [if_neg (by rw [I];simp)];exact pass ha h
     . exact h.elim
theorem yR {W:World->Prop} {B:List Nat} {I:Array Oper} {n:Nat} (J:lM P n I.toList=true) {K:Fr->World->Prop}: ∀ (l:List Oper) (k:Nat) (f:Fr) (a:Act) (w:World),(∀j,l[j]? =I[k+j]?)->Ag D n a f->
 J0 P I W B k l f w K->IJ P I W B (fun U w'=> ∃O,Ag D n U O/\K O w') (List.range' k l.length) a w
 | [],_,f,a,w,_,ha,h=> ⟨f,ha,h⟩
 |o::l,k,f,a,w,hl,ha,h=>by
  have X:I[k]? =some o:=by simpa using (hl 0).symm
  have Q: ∀j,l[j]? =I[k+1+j]? :=fun j=>by have:=hl (j+1);simpa [Nat.add_assoc,Nat.add_comm 1 j] using this
  rw [List.length_cons,List.range'_succ];exact km (fun U w' ⟨O,V,hr⟩=>yR J l (k+1) O U w' Q V hr) (nC J X ha h)
theorem tW {W:World->Prop} (ag: ∃u,W u) {J:Array Oper} {n:Nat} (U:cS J=true) (Y:lM P n J.toList=true) {K:Fr->World->Prop}: ∀ (m:Nat) (I:Array Bool) (f:Fr) (a:Act) (w:World),
 I.size=J.size->sb J I->(I.toList.filter (·=false)).length=m->Ag D n a f->
 F5 P J W (jL J.toList []) m I f w K->pJ P J W (jL J.toList []) (fun a' w'=> ∃f',Ag D n a' f'/\K f' w') m I a w
 |0,I,f,a,w,V,hs,hm,ha,h=>by
  refine ⟨?_,f,ha,h⟩;cases hr:Region.ready .any J I with
  |nil=>rfl
  |cons x xs=>
   have hx:x∈Region.ready .any J I:=by rw [hr];exact List.mem_cons_self ..
   obtain ⟨O,o,ho,_⟩:=mem_ready.1 hx;have aa:x<I.size:=by
    rcases Nat.lt_or_ge x I.size with X|X
    . exact X
    . simp [Array.getElem?_eq_none X] at O
   have Q:I[x]∈I.toList.filter (·=false):=by
    simp only [List.mem_filter];refine ⟨by simp,?_⟩;simp [aa] at O;simp [O]
   have:=List.length_pos_of_mem Q;omega
 |m+1,I,f,a,w,V,hs,hm,ha,h=>by
  have count: ∀i,i∈Region.ready .any J I->((I.setIfInBounds i true).toList.filter (·=false)).length=m:=by
   intro i hi;obtain ⟨O,o,ho,_⟩:=mem_ready.1 hi;have aa:i<I.size:=by
    rcases Nat.lt_or_ge i I.size with X|X
    . exact X
    . simp [Array.getElem?_eq_none X] at O
   have key: ∀ (l:List Bool) (i:Nat),l[i]? =some false->((l.set i true).filter (·=false)).length+1=(l.filter (·=false)).length:=by
    intro l
    induction l with
    |nil=>intro i h;simp at h
    |cons b l ih=>
     intro i h;cases i with
     |zero=>simp at h;subst h;simp
     |succ i=>
      simp only [List.getElem?_cons_succ] at h;have:=ih i h;cases b<;>simp only [List.set_cons_succ,List.filter_cons]<;>simp<;>simpa using this
   have hf:I.toList[i]? =some false:=by
    simp [aa] at O;simp [aa,O]
   have:=key I.toList i hf;simp only [Array.toList_setIfInBounds];omega
  simp only [F5] at h;split at h
  . rename_i i hi;have Q:=List.mem_of_find?_eq_some hi;have an:=List.find?_some hi;unfold xD at h;split at h
    . exact h.elim
    . rename_i o ho;refine tA ag U m I a w V hs Q ?_ ?_
      . intro oi j oj a7 av O bv bk;have a8:j<J.size:=by
         rcases Nat.lt_or_ge j J.size with X|X
         . exact X
         . simp [Array.getElem?_eq_none X] at av
        have:=List.all_eq_true.1 an j (List.mem_range.2 a8);simp only [Bool.or_eq_true,a7,av,Bool.and_eq_true] at this;rcases this with ((h1|h2)|h3)|h4
        . rw [O] at h1;cases h1
        . exact absurd (Nat.eq_of_beq_eq_true h2) bv
        . rw [bk] at h3;cases h3
        . exact ⟨h4.1.1,h4.2⟩
      . exact km (fun a' w' ⟨f',ap,hr⟩=>tW ag U Y m _ f' a' w' (by simpa using V) (hs.set V Q) (count i Q) ap hr) (nC Y ho ha h)
  . rename_i aT;refine ⟨fun he=> ?_,fun i hi=> ?_⟩
    . exfalso;have O: ∃k:Nat,k<J.size/\I.getD k true=false:=by
       have:0< (I.toList.filter (·=false)).length:=by omega
       obtain ⟨b,hb⟩:=List.exists_mem_of_length_pos this;simp only [List.mem_filter,decide_eq_true_eq] at hb;obtain ⟨k,hk,a_⟩:=List.getElem_of_mem hb.1;refine ⟨k,by rw [<- V];simpa using hk,?_⟩;have a6:k<I.size:=by simpa using hk
       have:I[k]=b:=by simpa using a_
       simp [a6,this,hb.2]
      obtain ⟨k,⟨hk,bb⟩,Z⟩:=exists_least O;simp only [cS,Bool.and_eq_true] at U;have:k∈Region.ready .any J I:=by
       refine mem_ready.2 ⟨bb,J[k],by simp [hk],fun e az hb=> ?_⟩;have ac:=(iT J.toList 0 U.2 k J[k] (by simp [hk])).2;rw [Nat.zero_add] at ac;have b6:=eU _ ac e (by simpa using az) hb;cases hl:I.getD e.on true with
       |true=>
        have:e.on<I.size:=by omega
        simpa [this] using hl
       |false=>have:=Z e.on ⟨by omega,hl⟩;omega
      rw [he] at this;cases this
    . have:=td h i hi;unfold xD at this;split at this
      . exact this.elim
      . rename_i o ho;exact km (fun a' w' ⟨f',ap,hr⟩=>tW ag U Y m _ f' a' w' (by simpa using V) (hs.set V hi) (count i hi) ap hr) (nC Y ho ha this)
theorem vX {I:Array Oper} {n:Nat} (O:cS I=true) (U:lM P n I.toList=true) {K:Fr->World->Prop} {f:Fr} {a:Act} {w:World} (ha:Ag D n a f)
 (h:Cc P I f w K):io P I (fun a' w'=> ∃Z,Ag D n a' Z/\K Z w') I.size (Array.replicate I.size false) a w:=by
 obtain ⟨W,V,h⟩:=h;have hs:sb I (Array.replicate I.size false):=fun j o ho hl=>by
  have Y:j<I.size:=by
   rcases Nat.lt_or_ge j I.size with X|X
   . exact X
   . simp [Array.getElem?_eq_none X] at ho
  simp [Y] at hl
 refine Gf O rfl I.size _ a w (by simp) hs (fun _=>V) ?_;cases J:p6 P I with
 |true=>
  rw [J,cond_true] at h;have Q:=yR U I.toList 0 f a _ (by simp) ha h;exact rS ⟨w,V⟩ J I.size 0 _ a _ (by omega) (by simp) (fun j hj=>by simp [hj]) (by simpa using Q)
 |false=>
  rw [J,cond_false] at h;exact tW ⟨w,V⟩ O U I.size (Array.replicate I.size false) f a _ (by simp) hs (by simp [List.filter_replicate]) ha h
def dD (P:Program) (n:Nat):Code->Bool
 | .region _ ops dm=>lM P n ops.toList && (!dm||cS ops)
 | .seq a b=>dD P n a && dD P n b
 | .cond _ a b=>dD P n a && dD P n b
 | .block _ c| .loop c| .scope c=>dD P n c
 | .skip| .label _| .exit _| .ret=>true
 |_=>false
def jS (c:Code) (f I:Fr):Prop:= ∀i,ik (pK c) i=none->I i=f i
theorem fx: ∀ (l l':List (Nat × TypeId)) (i:Nat),ik (l++l') i=none↔ik l i=none/\ik l' i=none
 | [],l',i=>by simp [ik]
 | (d,t)::l,l',i=>by
   simp only [List.cons_append,ik];cases Nat.beq d i with
   |true=>simp
   |false=>simp only [cond_false];exact fx l l' i
theorem ko {I:Array Oper} {K O:Act->World->Prop}: ∀ (l:List Nat) (a:Act) (w:World),(∀a w,K a w->O a w)->nu P I K l a w->nu P I O l a w
 | [],_,_,h,J=>h _ _ J
 |_::l,_,_,h,J=>d6 (fun a w=>ko l a w h) J
theorem kE {l:List (Nat × TypeId)} {i d:Nat} {t:TypeId} (h:ik l i=none) (hm:(d,t)∈l):i≠d:=by
 induction l with
 |nil=>cases hm
 |cons x l I=>
  obtain ⟨J,Q⟩:=x;simp only [ik] at h;cases hb:Nat.beq J i with
  |true=>rw [hb] at h;cases h
  |false=>
   rw [hb,cond_false] at h;rcases List.mem_cons.1 hm with he|hm
   . injection he with h1 O;subst h1;intro he;rw [he,Nat.beq_refl] at hb;cases hb
   . exact I h hm
theorem jp {I:Array Oper} {K:Act->World->Prop} {ds:List (Nat × TypeId)} (J: ∀ (j:Nat) (o:Oper) (d:Nat),I[j]? =some o->o.dst=some d->(d,o.type)∈ds):
 ∀ (l:List Nat) (a:Act) (w:World),nu P I K l a w->nu P I (fun V w'=>K V w'/\∀i,ik ds i=none->V.tmps.getD i undef=a.tmps.getD i undef) l a w
 | [],a,w,h=> ⟨h,fun _ _=>rfl⟩
 |k::l,a,w,h=>by
  change rz P I k (nu P I K l) a w at h;change rz P I k (nu P I _ l) a w;unfold rz at h ⊢;cases Q:I[k]? with
  |none=>
   simp only [Q] at h ⊢;exact jp J l a w h
  |some o=>
   simp only [Q] at h ⊢;refine qe (fun v w' Y=> ?_) h;refine ko l _ _ (fun V aa ⟨Z,hi⟩=> ⟨Z,fun i O=> ?_⟩) (jp J l _ w' Y);rw [hi i O];cases X:o.dst with
   |none=>rfl
   |some d=>
    have U:=kE O (J k o d Q X);simp [Act.put,Array.getElem?_setIfInBounds_ne (Ne.symm U)]
theorem ka {J:Array Oper} {K Q:Act->World->Prop}: ∀ (m:Nat) (I:Array Bool) (a:Act) (w:World),(∀a w,K a w->Q a w)->io P J K m I a w->io P J Q m I a w
 |0,_,_,_,h,O=> ⟨O.1,h _ _ O.2⟩
 |m+1,_,_,_,h,O=> ⟨fun he=>h _ _ (O.1 he),fun i hi=>d6 (fun a w=>ka m _ a w h) (O.2 i hi)⟩
theorem jr {J:Array Oper} {K:Act->World->Prop} {ds:List (Nat × TypeId)} (Q: ∀ (j:Nat) (o:Oper) (d:Nat),J[j]? =some o->o.dst=some d->(d,o.type)∈ds):
 ∀ (m:Nat) (I:Array Bool) (a:Act) (w:World),io P J K m I a w->io P J (fun Z w'=>K Z w'/\∀i,ik ds i=none->Z.tmps.getD i undef=a.tmps.getD i undef) m I a w
 |0,_,a,w,h=> ⟨h.1,h.2,fun _ _=>rfl⟩
 |m+1,I,a,w,h=>by
  refine ⟨fun he=> ⟨h.1 he,fun _ _=>rfl⟩,fun k X=> ?_⟩;have O:=h.2 k X;unfold rz at O ⊢;cases V:J[k]? with
  |none=>
   simp only [V] at O ⊢;exact jr Q m _ a w O
  |some o=>
   simp only [V] at O ⊢;refine qe (fun v w' O=> ?_) O;refine ka m _ _ _ (fun Z ac ⟨X,hi⟩=> ⟨X,fun i U=> ?_⟩) (jr Q m _ _ w' O);rw [hi i U];cases hd:o.dst with
   |none=>rfl
   |some d=>
    have Y:=kE U (Q k o d V hd);simp [Act.put,Array.getElem?_setIfInBounds_ne (Ne.symm Y)]
theorem uJ {I:Array Oper} {id:Nat} {Q:Exit->Act->World->Prop} {a:Act} {w:World} (hm:P.follows .mixedOrders=true)
 (h:io P I (fun a w=>Q .normal a w) I.size (Array.replicate I.size false) a w.drew):(Code.region id I true).wp P Q a w:=
 wp_region_any hm (pB (K:=fun a w=>Q .normal a w) (fun _ _ h=>h) _ _ _ _ h)
theorem rF (f:Fr): ∀ (as:List (Nat × TypeId)) (i:Nat),di as (mM f as) i=if i∈as.map (·.1) then some (f i) else none
 | [],i=>by simp [di]
 | (a,t)::as,i=>by
   simp only [mM,di];cases hb:Nat.beq i a with
   |true=>
    obtain rfl:=Nat.eq_of_beq_eq_true hb;simp
   |false=>
    have J:i≠a:=fun he=>by rw [he,Nat.beq_refl] at hb;cases hb
    rw [cond_false,rF f as i];have I:(i∈((a,t)::as).map (·.1))↔i∈as.map (·.1):=by
     rw [List.map_cons,List.mem_cons];exact ⟨fun h=>h.resolve_left J,Or.inr⟩
    by_cases hm:i∈as.map (·.1)
    . rw [if_pos hm,if_pos (I.2 hm)]
    . rw [if_neg hm,if_neg (fun h=>hm (I.1 h))]
theorem j9 {c:Code} {as:List (Nat × TypeId)} {f I:Fr} (h:jS c f I):H_ c as (mM I as) f I=I:=by
 funext i;unfold H_;rw [rF];by_cases hm:i∈as.map (·.1)
 . rw [if_pos hm]
 . rw [if_neg hm];show (bif (ik (pK c) i).isNone then f i else I i)=I i;cases J:ik (pK c) i with
   |none=>exact (h i J).symm
   |some t=>rfl
theorem jS.seq {a b:Code} {f g h:Fr} (h1:jS a f g) (I:jS b g h):jS (.seq a b) f h:=fun i hi=>by
 obtain ⟨ha,hb⟩:=(fx _ _ _).1 hi;rw [I i hb,h1 i ha]
theorem jS.left {a b:Code} {f g:Fr} (h1:jS a f g):jS (.seq a b) f g:=fun i hi=>h1 i ((fx _ _ _).1 hi).1
theorem vF {R:Type} (b:Bk) {I:DU b R} {v:Value} {C:R->Prop} (h:BB b I v C): ∃r,C r/\∀J:R->Prop,J r->BB b I v J:=by
 cases b<;>simp only [BB] at h ⊢
 case int k=>
  split at h
  . rename_i U n';cases Q:k==U with
    |false=>rw [Q] at h;exact h.elim
    |true=>rw [Q,cond_true] at h;exact ⟨_,h,fun J O=>O⟩
  . exact h.elim
 case any=>exact ⟨_,h,fun J O=>O⟩
 all_goals
  split at h
  . exact ⟨_,h,fun J O=>O⟩
  . exact h.elim
theorem AP {R:Type} (l:List Bk): ∀ {I:wP l R} {vs:List Value} {C:R->Prop},vP l I vs C->∃r,C r/\∀J:R->Prop,J r->vP l I vs J:=by
 induction l with
 |nil=>
  intro I vs C h;cases vs with
  |nil=>exact ⟨_,h,fun J O=>O⟩
  |cons=>exact h.elim
 |cons b l ih=>
  intro I vs C h;cases vs with
  |nil=>exact h.elim
  |cons v vs=>
   obtain ⟨r,h1,Q⟩:=vF b h;obtain ⟨V,Y,X⟩:=ih h1;exact ⟨V,Y,fun J O=>Q (fun U=>vP l U vs J) (X J O)⟩
theorem DH {R:Type} (k:Vk) {I:FS k R} {v:Value} {C:R->Prop} (h:uZ k I v C): ∃r,C r/\∀J:R->Prop,J r->uZ k I v J:=by
 cases k with
 |bS b=>exact vF b h
 |agg l=>
  simp only [uZ] at h ⊢;split at h
  . obtain ⟨r,h1,O⟩:=AP l h;exact ⟨r,h1,fun J Q=>O J Q⟩
  . exact h.elim
theorem mJ {R:Type} (l:List Vk): ∀ {I:ux l R} {vs:List Value} {C:R->Prop},oZ l I vs C->∃r,C r/\∀J:R->Prop,J r->oZ l I vs J:=by
 induction l with
 |nil=>
  intro I vs C h;cases vs with
  |nil=>exact ⟨_,h,fun J O=>O⟩
  |cons=>exact h.elim
 |cons b l ih=>
  intro I vs C h;cases vs with
  |nil=>exact h.elim
  |cons v vs=>
   obtain ⟨r,h1,Q⟩:=DH b h;obtain ⟨V,Y,X⟩:=ih h1;exact ⟨V,Y,fun J O=>Q (fun U=>oZ l U vs J) (X J O)⟩
theorem gY (hm:P.follows .mixedOrders=true) {n:Nat} (c:Code): ∀ {ann:oW} {f:Fr} {w:World} {Q:Gg} {a:Act},dD P n c=true->Ag D n a f->pA P c ann f w Q->
 c.wp P (fun e a' w'=> ∃U,Ag D n a' U/\Q e U w'/\jS c f U) a w:=by
 induction c with
 |skip=>intro ann f w Q a _ ha h;exact wp_skip ⟨f,ha,h,fun _ _=>rfl⟩
 |label l=>intro ann f w Q a _ ha h;exact wp_label ⟨f,ha,h,fun _ _=>rfl⟩
 |exit id=>intro ann f w Q a _ ha h;exact wp_exit ⟨f,ha,h,fun _ _=>rfl⟩
 |ret=>intro ann f w Q a _ ha h;exact wp_ret ⟨f,ha,h,fun _ _=>rfl⟩
 |goto l=>intro ann f w Q a h;cases h
 |refuse y=>intro ann f w Q a h;cases h
 |rangeFunc g ps x y=>intro ann f w Q a h;cases h
 |region id X dm=>
  intro ann f w Q a Y ha h;simp only [dD,Bool.and_eq_true] at Y;have ar: ∀ (j:Nat) (o:Oper) (d:Nat),X[j]? =some o->o.dst=some d->(d,o.type)∈pK (.region id X dm):=fun j o d ho hd=>by
   simp only [pK,List.mem_filterMap];refine ⟨o,?_,by rw [hd];rfl⟩;exact Array.mem_toList_iff.2 (Array.mem_of_getElem? ho)
  have fI: ∀a' w',((∃U,Ag D n a' U/\Q .normal U w')/\∀i,ik (pK (.region id X dm)) i=none->a'.tmps.getD i undef=a.tmps.getD i undef)->
   ∃U,Ag D n a' U/\Q .normal U w'/\jS (.region id X dm) f U:=by
   rintro a' w' ⟨⟨U,O,hq⟩,hi⟩;exact ⟨U,O,hq,fun i b_=>by rw [<- O.2.2,hi i b_,ha.2.2]⟩
  cases dm with
  |false=>
   have ap:=qd Y.1 X.toList 0 f a _ (by simp) ha h;have V:=jp ar _ _ _ ap;rw [Array.length_toList] at V;exact xC (ko _ _ _ fI V)
  |true=>
   have aw:cS X=true:=by simpa using Y.2
   simp only [pA,cond_true] at h;cases bk:ann.drawn with
   |true=>
    rw [bk,cond_true] at h;exact uJ hm (ka _ _ _ _ fI (jr ar _ _ _ _ (vX aw Y.1 ha h)))
   |false=>
   simp only [bk,cond_false,AK] at h;cases an:mK P X with
   |true=>
    rw [an,cond_true] at h;have ap:=qd Y.1 X.toList 0 f a _ (by simp) ha h;have V:=jp ar _ _ _ ap;rw [Array.length_toList] at V;exact zT hm an (ko _ _ _ fI V)
   |false=>
    rw [an,cond_false] at h;have a_:=sV aw Y.1 X.size (Array.replicate X.size false) f a _ (by simp) (fun j o ho hl=>by
     have b4:j<X.size:=by
      rcases Nat.lt_or_ge j X.size with h'|h'
      . exact h'
      . simp [Array.getElem?_eq_none h'] at ho
     simp [b4] at hl) (by simp [List.filter_replicate]) ha h
    have V:=jr ar _ _ _ _ a_;exact uJ hm (ka _ _ _ _ fI V)
 |seq x y ihx ihy=>
  intro ann f w Q a Y ha h;simp only [dD,Bool.and_eq_true] at Y;simp only [pA] at h;refine wp_seq ?_;cases av:ann.Fo with
  |none=>
   simp only [av] at h;refine wp_mono (ihx Y.1 ha h) fun e a' w' ⟨U,O,hq,V⟩=> ?_;cases e with
   |normal=>exact wp_mono (ihy Y.2 O hq) fun e bb ay ⟨ac,Z,az,ax⟩=> ⟨ac,Z,az,V.seq ax⟩
   |_=>exact ⟨U,O,hq,V.left⟩
  |some as=>
   simp only [av] at h;obtain ⟨J,h1,h2⟩:=h;refine wp_mono (ihx Y.1 ha h1) fun e a' w' ⟨U,O,hq,V⟩=> ?_;cases e with
   |normal=>
    obtain ⟨r,hr,aa⟩:=l6 _ hq h2;have:=aa w' U hr;rw [j9 V] at this;exact wp_mono (ihy Y.2 O this) fun e bb ay ⟨ac,Z,az,ax⟩=> ⟨ac,Z,az,V.seq ax⟩
   |_=>exact ⟨U,O,hq,V.left⟩
 |cond o x y ihx ihy=>
  intro ann f w Q a Y ha h;simp only [dD,Bool.and_eq_true] at Y;simp only [pA] at h;split at h
  . rename_i t ht;have a8:a.eval o= .bool t:=by rw [ha.eval];exact ht
    cases t with
    |true=>
     refine wp_cond_true a8 (wp_mono (ihx Y.1 ha h) fun e a' w' ⟨U,O,hq,V⟩=> ⟨U,O,hq,fun i hi=>V i ((fx _ _ _).1 hi).1⟩)
    |false=>
     refine wp_cond_false a8 (wp_mono (ihy Y.2 ha h) fun e a' w' ⟨U,O,hq,V⟩=> ⟨U,O,hq,fun i hi=>V i ((fx _ _ _).1 hi).2⟩)
  . exact h.elim
 |block id x ih=>
  intro ann f w Q a Y ha h;refine wp_block (wp_mono (ih Y ha h) fun e a' w' ⟨U,O,hq,V⟩=> ?_);cases e with
  |exit i=>
   simp only [Exit.inBlock];simp only at hq;cases hb:Nat.beq i id with
   |true=>
    obtain rfl:=Nat.eq_of_beq_eq_true hb;rw [hb,cond_true] at hq;rw [if_pos rfl];exact ⟨U,O,hq,V⟩
   |false=>
    rw [hb,cond_false] at hq;rw [if_neg (fun he=>by rw [he,Nat.beq_refl] at hb;cases hb)];exact ⟨U,O,hq,V⟩
  |_=>exact ⟨U,O,hq,V⟩
 |scope x ih=>
  intro ann f w Q a Y ha h;refine wp_scope_straight (wp_mono (ih Y ha h) fun e a' w' ⟨U,O,hq,V⟩=> ?_);cases e with
  |goto l=>exact hq.elim
  |_=>exact ⟨U,O,hq,V⟩
 |loop x ih=>
  intro ann f w Q a Y ha h;simp only [pA] at h;obtain ⟨I,h1,h2⟩:=h;have b9:=mJ _ h1;obtain ⟨r0,⟨k0,b5⟩,aT⟩:=b9;refine wp_loop_ghost (fun k a' w'=> ∃U:Fr,Ag D n a' U/\jS x f U/\oZ (jC P ann.tM) I (mM U ann.tM) fun r=>r w' k) k0 ⟨f,ha,fun _ _=>rfl,aT (fun r=>r w k0) b5⟩ ?_;intro k a' w' ⟨U,O,a6,hI⟩;obtain ⟨r,hr,aa⟩:=l6 _ hI h2;have hb:=aa w' k U hr;rw [j9 a6] at hb;refine wp_mono (ih Y O hb) fun e bb ay ⟨ac,Z,hq,V⟩=> ?_;have bv:jS x f ac:=fun i hi=> (V i hi).trans (a6 i hi);cases e with
  |normal=>
   obtain ⟨r',⟨k',b7,b3⟩,bx⟩:=mJ _ hq;exact ⟨k',b7,ac,Z,bv,bx (fun r=>r ay k') b3⟩
  |_=>exact ⟨ac,Z,hq,bv⟩
theorem kg: ∀ {rs:List ResultVar} {f:Fr} {a:Act} {n:Nat} {w:World} {K:List Value->Prop},Ag D n a f->tf P rs f w K->
 ∃vs,(rs.mapM fun (x:ResultVar)=>match x with| .tmp t=> (pure (a.tmps.getD t undef):Sem Value)| .cell b t=>do loadVar t (<- asAddr (a.tmps.getD b undef))).run P w= .ok vs w/\K vs
 | [],_,_,_,_,_,_,h=> ⟨[],rfl,h⟩
 | .tmp t::l,f,a,n,w,K,ha,h=>by
   obtain ⟨vs,hr,I⟩:=kg (rs:=l) ha h;refine ⟨_,?_,I⟩;simp only [List.mapM_cons,Sem.run_bind,Sem.run_pure,Result.andThen_ok,hr];rw [ha.2.2]
 | .cell b t::l,f,a,n,w,K,ha,h=>by
   simp only [tf] at h;split at h
   . rename_i p hp;obtain ⟨v,hv,h⟩:=zi h;obtain ⟨vs,hr,I⟩:=kg (rs:=l) ha h;refine ⟨_,?_,I⟩;simp only [List.mapM_cons,Sem.run_bind];rw [ha.2.2,hp];rw [show (asAddr (.pointer (some p))).run P w= .ok p w from rfl];simp only [Result.andThen_ok,hv,hr,Sem.run_pure]
   . exact h.elim
theorem nX: ∀ (args:List Value) (i:Nat),ng args i=args.getD i undef
 | [],i=>by simp [ng]
 |v::vs,0=>by simp [ng]
 |v::vs,i+1=>by simp [ng,nX vs i]
def F4 (P:Program) (fn:Func) (args:Nat):Bool:=
 match fn.body with
 |none=>false
 |some c=>dD P fn.ntmps c && Nat.ble args fn.ntmps
theorem xK (hm:P.follows .mixedOrders=true) {f:FuncId} {fn:Func} (hf:P.funcs[f]? =some fn) {ann:oW} {args:List Value} {w:World} {K:Value->World->Prop}
 (I:F4 P fn args.length=true) (h:Lp P fn ann args w K):Calls P f args.toArray w fun e w'=> ∃v,e= .returned v/\K v w':=by
 unfold Lp at h;unfold F4 at I;split at h
 . exact h.elim
 . rename_i c hb;rw [hb] at I;simp only [Bool.and_eq_true] at I;have U:args.length<=fn.ntmps:=by simpa using I.2
   refine calls_of_wp hf hb ?_;have ha:Ag [] fn.ntmps {tmps:=args.toArray++Array.replicate (fn.ntmps - args.toArray.size) undef,defers:= []} (ng args):=by
    refine ⟨by simp;omega,rfl,fun i=> ?_⟩;rw [nX];simp only [Array.getD_eq_getD_getElem?,List.getD_eq_getElem?_getD];by_cases hi:i<args.length
    . rw [Array.getElem?_append_left (by simpa using hi)];simp
    . rw [Array.getElem?_append_right (by simpa using hi)];rw [List.getElem?_eq_none (by omega)];rw [Array.getElem?_replicate];split<;>rfl
   refine wp_mono (gY hm c I.1 ha h) fun e O w' ⟨V,J,hq,_⟩=> ?_;have fI:tf P fn.results.toList V w' (fun vs=>K (gG vs) w')->O.defers= []/\∃v,(results fn O.tmps).run P w'= .ok v w'/\∃u,Ending.returned v= .returned u/\K u w':=by
    intro hr;obtain ⟨vs,hv,Q⟩:=kg J hr;refine ⟨J.2.1,gG vs,?_,_,rfl,Q⟩;unfold results;rw [Array.mapM_eq_mapM_toList];simp only [Sem.run_bind,Sem.run_map];refine (congrArg (fun r=>Result.andThen (Result.andThen r _) _) hv).trans ?_;simp only [Result.andThen_ok,Sem.run_pure]
    match vs with
    | []=>simp [gG]
    | [v]=>simp [gG]
    |u::v::l=>simp [gG]
   cases e with
   |normal=>exact fI hq
   |ret=>exact fI hq
   |_=>exact hq.elim
theorem aj {P:Program} (hm:P.follows .mixedOrders=true) {f:FuncId} {fn:Func} (hf:P.funcs[f]? =some fn) {ann:oW} {args:List Value} {n:Nat} (I:F4 P fn n=true) (hn:args.length=n)
 {w:World} {F:(Value->World->Prop)->Prop} (he: ∀K,Lp P fn ann args w K=F K) {R:Ending->World->Prop} (h:F fun v w'=>R (.returned v) w'):Calls P f args.toArray w R:=by
 subst hn;refine (xK hm hf I (Eq.mpr (he _) h)).mono ?_;rintro e w' ⟨v,rfl,J⟩;exact J
end Go.Fw
