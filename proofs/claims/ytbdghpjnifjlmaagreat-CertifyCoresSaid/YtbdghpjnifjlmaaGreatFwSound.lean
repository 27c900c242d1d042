/- The frame is sound: what it asks of a function is a contract of the function. -/
import Derived.Test.YtbdghpjnifjlmaaGreatFwOrderW
import Derived.Deep.LoopGhost
namespace Go.Fw
open Go
variable {P:Program} {D:List Deferred}
def Ag (D:List Deferred) (n:Nat) (a:Act) (f:Fr):Prop:=a.tmps.size=n/\a.defers=D/\∀i,a.tmps.getD i undef=f i
theorem Ag.eval {n:Nat} {a:Act} {f:Fr} (h:Ag D n a f):a.eval=ev f:=by
 funext x;cases x<;>simp [Act.eval,ev];exact (by simpa using h.2.2 _)
theorem Ej (f:Fr) (j:Nat) (v:Value) (i:Nat):f.set (some j) v i=if i=j then v else f i:=by
 show (bif Nat.beq i j then v else f i)=_;cases hb:Nat.beq i j with
 |true=>rw [if_pos (UG hb)];rfl
 |false=>rw [if_neg (λh=>by rw [h,XW] at hb;cases hb)];rfl
theorem Ag.put {n:Nat} {a:Act} {f:Fr} (h:Ag D n a f) {d:Option Nat} (Q:∀j,d=some j->j<n) (v:Value):Ag D n (a.put d v) (f.set d v):=by
 cases d with
 |none=>exact h
 |some j=>
  obtain ⟨h1,O,J⟩:=h;refine ⟨by simpa [Act.put] using h1,O,λi=>?_⟩;rw [Ej];have U:=Q j rfl;by_cases I:i=j
  . subst I;simp [Act.put,h1,U]
  . rw [if_neg I,<- J i];simp [Act.put,Wn (Vc I)]
theorem EG (f:Fr) (t:Nat) (v:Value) (h:f t=v):f.set (some t) v=f:=by
 funext i;rw [Ej];by_cases hi:i=t
 . subst hi;simp [h]
 . simp [hi]
def vg (n:Nat) (o:Oper):Bool:=
 match o.dst with
 |none=>true
 |some d=>Nat.blt d n
theorem mG {n:Nat} {o:Oper} (h:vg n o=true):∀j,o.dst=some j->j<n:=by
 intro j I;simp only [vg,I] at h;simpa using h
def qC (P:Program) (n:Nat):List Oper->Bool
 | []=>true
 |o::l=>vg n o && CM P o && qC P n l
theorem yY {I:Array Oper} {n:Nat} {a:Act} {f:Fr} (h:Ag D n a f) {j t:Nat} (ht:(I[j]?).bind (·.dst)=some t) (O:t<n) {b:Bool} (hb:f t=.bool b):
 yielded I a.tmps j=some b:=by
 unfold yielded;rw [ht];have Q:=h.2.2 t;have J:t<a.tmps.size:=by rw [h.1];exact O
 simp only [V8,Wo J];simp [J] at Q;rw [Q,hb]
theorem qv {n:Nat}:∀ {l:List Oper},qC P n l=true->∀ (j:Nat) (o:Oper),l[j]? =some o->vg n o=true/\CM P o=true
 | [],_,j,o,h=>by simp at h
 |x::l,h,j,o,ho=>by
  simp only [qC,ts] at h;cases j with
  |zero=>simp at ho;subst ho;exact h.1
  |succ j=>exact qv h.2 j o (by simpa using ho)
theorem pA {J:Array Oper} {n:Nat} (aa:qC P n J.toList=true) {i:Nat} {o:Oper} (h0:J[i]? =some o) {f:Fr} {a:Act} {w:World} {C:Fr->World->Prop} (ha:Ag D n a f)
 (h:DS P J o f w C):wH P J i (λa' w'=>∃Q,Ag D n a' Q/\C Q w') a w:=by
 obtain ⟨hd,hc⟩:=qv aa i o (by simpa using h0);have U:=mG hd;unfold wH;simp only [h0];have O:∀ {f:Fr},Ag D n a f->(sP P o f w λv w'=>C (f.set o.dst v) w')->xV P (bC P o) (execOp a.eval o) w λv w'=>∃Q,Ag D n (a.put o.dst v) Q/\C Q w':=by
  intro f ha h;rw [ha.eval];exact Bw (λv w' hr=>⟨_,ha.put U v,hr⟩) (sU o f w _ hc h)
 have pass:∀ {f:Fr},Ag D n a f->C (f.set o.dst undef) w->∃Q,Ag D n (a.put o.dst undef) Q/\C Q w:=by
  intro f ha h;exact ⟨_,ha.put U undef,h⟩
 unfold DS at h;split at h
 . rename_i hg;exact zM (by simp [Region.wanted,hg]) (O ha h)
 . rename_i j want hg;split at h
   . exact h.elim
   . rename_i t ht;have Y:t<n:=by
      cases V:J[j]? with
      |none=>simp [V] at ht
      |some oj=>
       rw [V] at ht;exact mG (qv aa j oj (by simpa using V)).1 t (by simpa using ht)
     split at h
     . rename_i b hb;have hy:=yY ha ht Y hb;have X:f.set (some t) (.bool b)=f:=EG f t _ hb;have I:Region.wanted o (yielded J a.tmps)=(b==want):=by
        simp [Region.wanted,hg,hy]
       cases b<;>cases want<;>simp only [aF,cond_true,cond_false,X] at h
       . exact zM (by rw [I];rfl) (O ha h)
       . unfold tA;rw [if_neg (by rw [I];simp)];exact pass ha h
       . unfold tA;rw [if_neg (by rw [I];simp)];exact pass ha h
       . exact zM (by rw [I];rfl) (O ha h)
     . rename_i vs hb;have hy:yielded J a.tmps j=none:=by
        unfold yielded;rw [ht];have h3:=ha.2.2 t;have Z:t<a.tmps.size:=by rw [ha.1];exact Y
        simp only [V8,Wo Z];simp [Z] at h3;rw [h3,hb]
       have I:Region.wanted o (yielded J a.tmps)=false:=by
        simp [Region.wanted,hg,hy]
       unfold tA;rw [if_neg (by rw [I];simp)];exact pass ha h
     . exact h.elim
theorem uV {I:Array Oper} {n:Nat} (J:qC P n I.toList=true) {K:Fr->World->Prop}:∀ (l:List Oper) (k:Nat) (f:Fr) (a:Act) (w:World),(∀j,l[j]? =I[k+j]?)->Ag D n a f->
 Qz P I l f w K->rF P I (λQ w'=>∃O,Ag D n Q O/\K O w') (List.range' k l.length) a w
 | [],_,f,a,w,_,ha,h=>⟨f,ha,h⟩
 |o::l,k,f,a,w,hl,ha,h=>by
  have X:I[k]? =some o:=by simpa using (hl 0).symm
  have U:∀j,l[j]? =I[k+1+j]? :=λj=>by have:=hl (j+1);simpa [WL,XA 1 j] using this
  rw [U9,XL];exact fx (λQ w' ⟨O,V,hr⟩=>uV J l (k+1) O Q w' U V hr) (pA J X ha h)
theorem AG {C:Nat->Prop}:∀ {l:List Nat},NU l C->∀i∈l,C i
 | [],_,i,hi=>by cases hi
 | [j],h,i,hi=>by simp at hi;subst hi;exact h
 |j::k::l,h,i,hi=>by
  rcases UI.1 hi with rfl|hi
  . exact h.1
  . exact AG h.2 i hi
theorem yj {J:Array Oper} {n:Nat} (Q:dC J=true) (aa:qC P n J.toList=true) {K:Fr->World->Prop}:∀ (m:Nat) (I:Array Bool) (f:Fr) (a:Act) (w:World),
 I.size=J.size->xO J I->(I.toList.filter (·=false)).length=m->Ag D n a f->
 SZ P J (mT J.toList []) m I f w K->jQ P J (λa' w'=>∃f',Ag D n a' f'/\K f' w') m I a w
 |0,I,f,a,w,V,hs,hm,ha,h=>by
  refine ⟨?_,f,ha,h⟩;cases hr:Region.ready .any J I with
  |nil=>rfl
  |cons x xs=>
   have hx:x∈Region.ready .any J I:=by rw [hr];exact UJ ..
   obtain ⟨O,o,ho,_⟩:=mem_ready.1 hx;have Y:x<I.size:=by
    rcases UU x I.size with X|X
    . exact X
    . simp [UQ X] at O
   have U:I[x]∈I.toList.filter (·=false):=by
    simp only [U8];refine ⟨by simp,?_⟩;simp [Y] at O;simp [O]
   have:=WG U;omega
 |m+1,I,f,a,w,V,hs,hm,ha,h=>by
  have count:∀i,i∈Region.ready .any J I->((I.setIfInBounds i true).toList.filter (·=false)).length=m:=by
   intro i hi;obtain ⟨O,o,ho,_⟩:=mem_ready.1 hi;have Y:i<I.size:=by
    rcases UU i I.size with X|X
    . exact X
    . simp [UQ X] at O
   have key:∀ (l:List Bool) (i:Nat),l[i]? =some false->((l.set i true).filter (·=false)).length+1=(l.filter (·=false)).length:=by
    intro l
    induction l with
    |nil=>intro i h;simp at h
    |cons b l ih=>
     intro i h;cases i with
     |zero=>simp at h;subst h;simp
     |succ i=>
      simp only [Vp] at h;have:=ih i h;cases b<;>simp only [Xw,WQ]<;>simp<;>simpa using this
   have hf:I.toList[i]? =some false:=by
    simp [Y] at O;simp [Y,O]
   have:=key I.toList i hf;simp only [Wd];omega
  simp only [SZ] at h;split at h
  . rename_i i hi;have U:=Xn hi;have ag:=Xu hi;unfold HW at h;split at h
    . exact h.elim
    . rename_i o ho;refine Cr Q m I a w V hs U ?_ ?_
      . intro oi j oj aT aw O a_ az;have a8:j<J.size:=by
         rcases UU j J.size with X|X
         . exact X
         . simp [UQ X] at aw
        have:=UK.1 ag j (Vj.2 a8);simp only [VM,aT,aw,ts] at this;rcases this with ((h1|h2)|h3)|h4
        . rw [O] at h1;cases h1
        . exact absurd (UG h2) a_
        . rw [az] at h3;cases h3
        . exact ⟨h4.1.1,h4.2⟩
      . exact fx (λa' w' ⟨f',an,hr⟩=>yj Q aa m _ f' a' w' (by simpa using V) (hs.set V U) (count i U) an hr) (pA aa ho ha h)
  . rename_i ay;refine ⟨λhe=>?_,λi hi=>?_⟩
    ·
     exfalso;have O:∃k:Nat,k<J.size/\I.getD k true=false:=by
      have:0< (I.toList.filter (·=false)).length:=by omega
      obtain ⟨b,hb⟩:=XP this;simp only [U8,decide_eq_true_eq] at hb;obtain ⟨k,hk,bb⟩:=List.getElem_of_mem hb.1;refine ⟨k,by rw [<- V];simpa using hk,?_⟩;have a6:k<I.size:=by simpa using hk
      have:I[k]=b:=by simpa using bb
      simp [a6,this,hb.2]
     obtain ⟨k,⟨hk,bc⟩,Z⟩:=exists_least O;simp only [dC,ts] at Q;have:k∈Region.ready .any J I:=by
      refine mem_ready.2 ⟨bc,J[k],by simp [hk],λe a7 hb=>?_⟩;have ac:=(kC J.toList 0 Q.2 k J[k] (by simp [hk])).2;rw [UX] at ac;have bk:=fQ _ ac e (by simpa using a7) hb;cases hl:I.getD e.on true with
      |true=>
       have:e.on<I.size:=by omega
       simpa [this] using hl
      |false=>have:=Z e.on ⟨by omega,hl⟩;omega
     rw [he] at this;cases this
    . have:=AG h i hi;unfold HW at this;split at this
      . exact this.elim
      . rename_i o ho;exact fx (λa' w' ⟨f',an,hr⟩=>yj Q aa m _ f' a' w' (by simpa using V) (hs.set V hi) (count i hi) an hr) (pA aa ho ha this)
theorem GL {keep:Bool} {W:World->Prop} {w:World} {K:Prop} (h:Fj keep W w K):(keep=true->W w)/\K:=by
 cases keep with
 |true=>exact ⟨λ_=>h.1,h.2⟩
 |false=>exact ⟨λh=> (by cases h),h⟩
theorem yK {b:Bk} {C D:Value->Prop} (h:∀v,C v->D v) (g:Kc b C):Kc b D:=by
 cases b<;>simp only [Kc] at g ⊢
 case slice=>obtain ⟨p,n,c,g⟩:=g;exact ⟨p,n,c,h _ g⟩
 case fn=>obtain ⟨p,c,g⟩:=g;exact ⟨p,c,h _ g⟩
 all_goals (obtain ⟨x,g⟩:=g;exact ⟨x,h _ g⟩)
theorem Im {b:Bk} {C:Value->Prop} (g:Kc b C):∃v,C v/\Kc b λI=>I=v:=by
 cases b<;>simp only [Kc] at g ⊢
 case slice=>obtain ⟨p,n,c,g⟩:=g;exact ⟨_,g,p,n,c,rfl⟩
 case fn=>obtain ⟨p,c,g⟩:=g;exact ⟨_,g,p,c,rfl⟩
 all_goals (obtain ⟨x,g⟩:=g;exact ⟨_,g,x,rfl⟩)
theorem wM:∀ {l:List Bk} {C D:List Value->Prop},(∀v,C v->D v)->AZ l C->AZ l D
 | [],_,_,h,g=>h _ g
 |_::_,_,_,h,g=>yK (λ_ g=>wM (λ_ g=>h _ g) g) g
theorem El:∀ {l:List Bk} {C:List Value->Prop},AZ l C->∃vs,C vs/\AZ l λI=>I=vs
 | [],_,g=>⟨[],g,rfl⟩
 |_::_,_,g=>by
  obtain ⟨v,g,Q⟩:=Im g;obtain ⟨vs,g,J⟩:=El g;exact ⟨v::vs,g,yK (λU hv=>wM (λI O=>by rw [hv,O]) J) Q⟩
theorem Lw {t:TypeId} {a:Addr} {W:World->Prop} {K:Value->Prop} (h:Ue P t a W K):∃v,(∀u,W u->RD P t a u λJ=>J=v)/\K v:=by
 unfold Ue at h;split at h
 . rename_i ht;obtain ⟨v,⟨hv,O⟩,hb⟩:=Im h;refine ⟨v,λu hu=>?_,O⟩;unfold RD;simp only [ht];exact yK (λJ he=>by subst he;exact ⟨hv u hu,rfl⟩) hb
 . rename_i ht;split at h
   . rename_i i hi;cases I:Nat.beq i.size (uE P 10 t).length with
     |false=>rw [I] at h;exact h.elim
     |true=>
      rw [I,cond_true] at h;obtain ⟨vs,⟨hv,O⟩,hb⟩:=El h;refine ⟨_,λu hu=>?_,O⟩;unfold RD;simp only [ht,hi,I,cond_true];exact wM (λJ he=>by subst he;exact ⟨hv u hu,rfl⟩) hb
   . exact h.elim
 . exact h.elim
theorem Jo {W:World->Prop} {keep:Bool} (o:Oper) (f:Fr) (w:World) (K:Value->World->Prop) (U:CM P o=true) (h:QA P W keep o f w K):
 tP P W keep (bC P o) (execOp (ev f) o) w K:=by
 have I:(sP P o f w λv w'=>Fj keep W w' (K v w'))->2<=bC P o->tP P W keep (bC P o) (execOp (ev f) o) w K:=by
  intro h J;have O:=sU o f w _ U h
  match hq:bC P o with
  |0=>omega
  |1=>omega
  |n+2=>rw [hq] at O;exact mi (λv w' Y=>GL Y) O
 have pure:sP P o f w K->bC P o=0->tP P W keep (bC P o) (execOp (ev f) o) w K:=by
  intro h J;have O:=sU o f w _ U h;rw [J] at O ⊢;exact O
 have read:∀v,(∀u,W u->sP P o f u λV _=>V=v)->bC P o=1->K v w->tP P W keep (bC P o) (execOp (ev f) o) w K:=by
  intro v hv J X;rw [J];refine ⟨v,λu hu=>?_,X⟩;have O:=sU o f u _ U (hv u hu);rw [J] at O;obtain ⟨V,hr,rfl⟩:=O;exact hr
 have rest:(bif Nat.ble (bC P o) 0 then sP P o f w K else sP P o f w λv w'=>Fj keep W w' (K v w'))->bC P o≠1->tP P W keep (bC P o) (execOp (ev f) o) w K:=by
  intro h Z;cases hb:Nat.ble (bC P o) 0 with
  |true=>rw [hb,cond_true] at h;exact pure h (by have:=XI hb;omega)
  |false=>
   rw [hb,cond_false] at h;refine I h ?_;have: ¬bC P o<=0:=λQ=>by rw [Nat.ble_eq_true_of_le Q] at hb;cases hb
   omega
 obtain ⟨dst,op,type,pos,after,guard⟩:=o;cases op
 case load t x=>
  simp only [QA] at h;split at h
  . rename_i a ha;obtain ⟨v,hv,J⟩:=Lw h;refine read v (λu hu=>?_) rfl J;simp only [sP,ha];exact hv u hu
  . exact h.elim
 case call c=>
  obtain ⟨callee,args,argTypes⟩:=c;cases callee with
  |invoke r m=>exact I h (by simp [bC])
  |value x=>exact I h (by simp [bC])
  |builtin b=>
   cases b
   case len=>
    simp only [QA,Tz] at h;split at h
    . rename_i p n c hl;split at h
      . rename_i e he;refine read _ (λu hu=>?_) rfl h;simp only [sP,vF,hl,he]
      . exact h.elim
    . rename_i r hl;obtain ⟨n,hn,J⟩:=h;refine read _ (λu hu=>?_) rfl J;simp only [sP,vF,hl];exact ⟨n,hn u hu,rfl⟩
    . exact h.elim
   case max=>exact pure h rfl
   case min=>exact pure h rfl
   all_goals exact I h (by simp [bC])
 case binOp b t x y z=>
  refine rest h ?_;simp only [bC];repeat' split
  all_goals simp
 all_goals exact rest h (by simp [bC])
theorem rR {W:World->Prop} {B:List Nat} {J:Array Oper} {n:Nat} (aa:qC P n J.toList=true) {i:Nat} {o:Oper} (h0:J[i]? =some o) {f:Fr} {a:Act} {w:World} {C:Fr->World->Prop} (ha:Ag D n a f)
 (h:Hq P J W (uK P J B i) o f w C):pT P J W B i (λa' w'=>∃Q,Ag D n a' Q/\C Q w') a w:=by
 obtain ⟨hd,hc⟩:=qv aa i o (by simpa using h0);have U:=mG hd;unfold pT;simp only [h0];have O:∀ {f:Fr},Ag D n a f->(QA P W (uK P J B i) o f w λv w'=>C (f.set o.dst v) w')->tP P W (uK P J B i) (bC P o) (execOp a.eval o) w λv w'=>∃Q,Ag D n (a.put o.dst v) Q/\C Q w':=by
  intro f ha h;rw [ha.eval];exact Au (λv w' hr=>⟨_,ha.put U v,hr⟩) (Jo o f w _ hc h)
 have pass:∀ {f:Fr},Ag D n a f->C (f.set o.dst undef) w->∃Q,Ag D n (a.put o.dst undef) Q/\C Q w:=by
  intro f ha h;exact ⟨_,ha.put U undef,h⟩
 unfold Hq at h;split at h
 . rename_i hg;exact CK (by simp [Region.wanted,hg]) (O ha h)
 . rename_i j want hg;split at h
   . exact h.elim
   . rename_i t ht;have Y:t<n:=by
      cases V:J[j]? with
      |none=>simp [V] at ht
      |some oj=>
       rw [V] at ht;exact mG (qv aa j oj (by simpa using V)).1 t (by simpa using ht)
     split at h
     . rename_i b hb;have hy:=yY ha ht Y hb;have X:f.set (some t) (.bool b)=f:=EG f t _ hb;have I:Region.wanted o (yielded J a.tmps)=(b==want):=by
        simp [Region.wanted,hg,hy]
       cases b<;>cases want<;>simp only [aF,cond_true,cond_false,X] at h
       . exact CK (by rw [I];rfl) (O ha h)
       . unfold oe;rw [if_neg (by rw [I];simp)];exact pass ha h
       . unfold oe;rw [if_neg (by rw [I];simp)];exact pass ha h
       . exact CK (by rw [I];rfl) (O ha h)
     . rename_i vs hb;have hy:yielded J a.tmps j=none:=by
        unfold yielded;rw [ht];have h3:=ha.2.2 t;have Z:t<a.tmps.size:=by rw [ha.1];exact Y
        simp only [V8,Wo Z];simp [Z] at h3;rw [h3,hb]
       have I:Region.wanted o (yielded J a.tmps)=false:=by
        simp [Region.wanted,hg,hy]
       unfold oe;rw [if_neg (by rw [I];simp)];exact pass ha h
     . exact h.elim
theorem DL {W:World->Prop} {B:List Nat} {I:Array Oper} {n:Nat} (J:qC P n I.toList=true) {K:Fr->World->Prop}:∀ (l:List Oper) (k:Nat) (f:Fr) (a:Act) (w:World),(∀j,l[j]? =I[k+j]?)->Ag D n a f->
 QC P I W B k l f w K->PD P I W B (λQ w'=>∃O,Ag D n Q O/\K O w') (List.range' k l.length) a w
 | [],_,f,a,w,_,ha,h=>⟨f,ha,h⟩
 |o::l,k,f,a,w,hl,ha,h=>by
  have X:I[k]? =some o:=by simpa using (hl 0).symm
  have U:∀j,l[j]? =I[k+1+j]? :=λj=>by have:=hl (j+1);simpa [WL,XA 1 j] using this
  rw [U9,XL];exact nO (λQ w' ⟨O,V,hr⟩=>DL J l (k+1) O Q w' U V hr) (rR J X ha h)
theorem zO {W:World->Prop} (an:∃u,W u) {J:Array Oper} {n:Nat} (Q:dC J=true) (aa:qC P n J.toList=true) {K:Fr->World->Prop}:∀ (m:Nat) (I:Array Bool) (f:Fr) (a:Act) (w:World),
 I.size=J.size->xO J I->(I.toList.filter (·=false)).length=m->Ag D n a f->
 Ld P J W (mT J.toList []) m I f w K->ud P J W (mT J.toList []) (λa' w'=>∃f',Ag D n a' f'/\K f' w') m I a w
 |0,I,f,a,w,V,hs,hm,ha,h=>by
  refine ⟨?_,f,ha,h⟩;cases hr:Region.ready .any J I with
  |nil=>rfl
  |cons x xs=>
   have hx:x∈Region.ready .any J I:=by rw [hr];exact UJ ..
   obtain ⟨O,o,ho,_⟩:=mem_ready.1 hx;have Y:x<I.size:=by
    rcases UU x I.size with X|X
    . exact X
    . simp [UQ X] at O
   have U:I[x]∈I.toList.filter (·=false):=by
    simp only [U8];refine ⟨by simp,?_⟩;simp [Y] at O;simp [O]
   have:=WG U;omega
 |m+1,I,f,a,w,V,hs,hm,ha,h=>by
  have count:∀i,i∈Region.ready .any J I->((I.setIfInBounds i true).toList.filter (·=false)).length=m:=by
   intro i hi;obtain ⟨O,o,ho,_⟩:=mem_ready.1 hi;have Y:i<I.size:=by
    rcases UU i I.size with X|X
    . exact X
    . simp [UQ X] at O
   have key:∀ (l:List Bool) (i:Nat),l[i]? =some false->((l.set i true).filter (·=false)).length+1=(l.filter (·=false)).length:=by
    intro l
    induction l with
    |nil=>intro i h;simp at h
    |cons b l ih=>
     intro i h;cases i with
     |zero=>simp at h;subst h;simp
     |succ i=>
      simp only [Vp] at h;have:=ih i h;cases b<;>simp only [Xw,WQ]<;>simp<;>simpa using this
   have hf:I.toList[i]? =some false:=by
    simp [Y] at O;simp [Y,O]
   have:=key I.toList i hf;simp only [Wd];omega
  simp only [Ld] at h;split at h
  . rename_i i hi;have U:=Xn hi;have ag:=Xu hi;unfold CV at h;split at h
    . exact h.elim
    . rename_i o ho;refine yS an Q m I a w V hs U ?_ ?_
      . intro oi j oj a6 ax O bb aT;have a_:j<J.size:=by
         rcases UU j J.size with X|X
         . exact X
         . simp [UQ X] at ax
        have:=UK.1 ag j (Vj.2 a_);simp only [VM,a6,ax,ts] at this;rcases this with ((h1|h2)|h3)|h4
        . rw [O] at h1;cases h1
        . exact absurd (UG h2) bb
        . rw [aT] at h3;cases h3
        . exact ⟨h4.1.1,h4.2⟩
      . exact nO (λa' w' ⟨f',ap,hr⟩=>zO an Q aa m _ f' a' w' (by simpa using V) (hs.set V U) (count i U) ap hr) (rR aa ho ha h)
  . rename_i az;refine ⟨λhe=>?_,λi hi=>?_⟩
    . exfalso;have O:∃k:Nat,k<J.size/\I.getD k true=false:=by
       have:0< (I.toList.filter (·=false)).length:=by omega
       obtain ⟨b,hb⟩:=XP this;simp only [U8,decide_eq_true_eq] at hb;obtain ⟨k,hk,bc⟩:=List.getElem_of_mem hb.1;refine ⟨k,by rw [<- V];simpa using hk,?_⟩;have a7:k<I.size:=by simpa using hk
       have:I[k]=b:=by simpa using bc
       simp [a7,this,hb.2]
      obtain ⟨k,⟨hk,bf⟩,Z⟩:=exists_least O;simp only [dC,ts] at Q;have:k∈Region.ready .any J I:=by
       refine mem_ready.2 ⟨bf,J[k],by simp [hk],λe a8 hb=>?_⟩;have ac:=(kC J.toList 0 Q.2 k J[k] (by simp [hk])).2;rw [UX] at ac;have bn:=fQ _ ac e (by simpa using a8) hb;cases hl:I.getD e.on true with
       |true=>
        have:e.on<I.size:=by omega
        simpa [this] using hl
       |false=>have:=Z e.on ⟨by omega,hl⟩;omega
      rw [he] at this;cases this
    . have:=AG h i hi;unfold CV at this;split at this
      . exact this.elim
      . rename_i o ho;exact nO (λa' w' ⟨f',ap,hr⟩=>zO an Q aa m _ f' a' w' (by simpa using V) (hs.set V hi) (count i hi) ap hr) (rR aa ho ha this)
theorem B0 {I:Array Oper} {n:Nat} (O:dC I=true) (U:qC P n I.toList=true) {K:Fr->World->Prop} {f:Fr} {a:Act} {w:World} (ha:Ag D n a f)
 (h:Io P I f w K):jQ P I (λa' w'=>∃Z,Ag D n a' Z/\K Z w') I.size (Array.replicate I.size false) a w:=by
 obtain ⟨W,V,h⟩:=h;have hs:xO I (Array.replicate I.size false):=λj o ho hl=>by
  have Y:j<I.size:=by
   rcases UU j I.size with X|X
   . exact X
   . simp [UQ X] at ho
  simp [Y] at hl
 refine Nf O rfl I.size _ a w (by simp) hs (λ_=>V) ?_;cases J:u7 P I with
 |true=>
  rw [J,cond_true] at h;have Q:=DL U I.toList 0 f a _ (by simp) ha h;exact xC ⟨w,V⟩ J I.size 0 _ a _ (by omega) (by simp) (λj hj=>by simp [hj]) (by simpa using Q)
 |false=>
  rw [J,cond_false] at h;exact zO ⟨w,V⟩ O U I.size (Array.replicate I.size false) f a _ (by simp) hs (by simp [XK]) ha h
def ee (P:Program) (n:Nat):Code->Bool
 | .region _ ops dB=>qC P n ops.toList && (!dB||dC ops)
 | .seq a b=>ee P n a && ee P n b
 | .cond _ a b=>ee P n a && ee P n b
 | .block _ c| .loop c| .scope c=>ee P n c
 | .skip| .label _| .exit _| .ret=>true
 |_=>false
def nh (c:Code) (f I:Fr):Prop:=∀i,jR (tQ c) i=none->I i=f i
theorem gC:∀ (l l':List (Nat × TypeId)) (i:Nat),jR (l++l') i=none↔jR l i=none/\jR l' i=none
 | [],l',i=>by simp [jR]
 | (d,t)::l,l',i=>by
   simp only [WN,jR];cases Nat.beq d i with
   |true=>simp
   |false=>simp only [cond_false];exact gC l l' i
theorem nN {I:Array Oper} {K O:Act->World->Prop}:∀ (l:List Nat) (a:Act) (w:World),(∀a w,K a w->O a w)->rF P I K l a w->rF P I O l a w
 | [],_,_,h,J=>h _ _ J
 |_::l,_,_,h,J=>fx (λa w=>nN l a w h) J
theorem oS {l:List (Nat × TypeId)} {i d:Nat} {t:TypeId} (h:jR l i=none) (hm:(d,t)∈l):i≠d:=by
 induction l with
 |nil=>cases hm
 |cons x l J=>
  obtain ⟨I,Q⟩:=x;simp only [jR] at h;cases hb:Nat.beq I i with
  |true=>rw [hb] at h;cases h
  |false=>
   rw [hb,cond_false] at h;rcases UI.1 hm with he|hm
   . injection he with h1 O;subst h1;intro he;rw [he,XW] at hb;cases hb
   . exact J h hm
theorem lY {I:Array Oper} {K:Act->World->Prop} {ds:List (Nat × TypeId)} (J:∀ (j:Nat) (o:Oper) (d:Nat),I[j]? =some o->o.dst=some d->(d,o.type)∈ds):
 ∀ (l:List Nat) (a:Act) (w:World),rF P I K l a w->rF P I (λQ w'=>K Q w'/\∀i,jR ds i=none->Q.tmps.getD i undef=a.tmps.getD i undef) l a w
 | [],a,w,h=>⟨h,λ_ _=>rfl⟩
 |k::l,a,w,h=>by
  change wH P I k (rF P I K l) a w at h;change wH P I k (rF P I _ l) a w;unfold wH at h ⊢;cases U:I[k]? with
  |none=>
   simp only [U] at h ⊢;exact lY J l a w h
  |some o=>
   simp only [U] at h ⊢;refine vD (λv w' Y=>?_) h;refine nN l _ _ (λQ X ⟨Z,hi⟩=>⟨Z,λi O=>?_⟩) (lY J l _ w' Y);rw [hi i O];cases hd:o.dst with
   |none=>rfl
   |some d=>
    have V:=oS O (J k o d U hd);simp [Act.put,Wn (Vc V)]
theorem nG {O:Array Oper} {K Q:Act->World->Prop}:∀ (m:Nat) (I:Array Bool) (a:Act) (w:World),(∀a w,K a w->Q a w)->jQ P O K m I a w->jQ P O Q m I a w
 |0,_,_,_,h,J=>⟨J.1,h _ _ J.2⟩
 |m+1,_,_,_,h,J=>⟨λhe=>h _ _ (J.1 he),λi hi=>fx (λa w=>nG m _ a w h) (J.2 i hi)⟩
theorem lZ {J:Array Oper} {K:Act->World->Prop} {ds:List (Nat × TypeId)} (O:∀ (j:Nat) (o:Oper) (d:Nat),J[j]? =some o->o.dst=some d->(d,o.type)∈ds):
 ∀ (m:Nat) (I:Array Bool) (a:Act) (w:World),jQ P J K m I a w->jQ P J (λV w'=>K V w'/\∀i,jR ds i=none->V.tmps.getD i undef=a.tmps.getD i undef) m I a w
 |0,_,a,w,h=>⟨h.1,h.2,λ_ _=>rfl⟩
 |m+1,I,a,w,h=>by
  refine ⟨λhe=>⟨h.1 he,λ_ _=>rfl⟩,λk Y=>?_⟩;have Q:=h.2 k Y;unfold wH at Q ⊢;cases X:J[k]? with
  |none=>
   simp only [X] at Q ⊢;exact lZ O m _ a w Q
  |some o=>
   simp only [X] at Q ⊢;refine vD (λv w' Q=>?_) Q;refine nG m _ _ _ (λV aa ⟨Y,hi⟩=>⟨Y,λi U=>?_⟩) (lZ O m _ _ w' Q);rw [hi i U];cases hd:o.dst with
   |none=>rfl
   |some d=>
    have Z:=oS U (O k o d X hd);simp [Act.put,Wn (Vc Z)]
theorem zX {I:Array Oper} {id:Nat} {Q:Exit->Act->World->Prop} {a:Act} {w:World} (hm:P.follows .mixedOrders=true)
 (h:jQ P I (λa w=>Q .normal a w) I.size (Array.replicate I.size false) a w.drew):(Code.region id I true).wp P Q a w:=
 wp_region_any hm (ug (K:=λa w=>Q .normal a w) (λ_ _ h=>h) _ _ _ _ h)
theorem xe (f:Fr):∀ (as:List (Nat × TypeId)) (i:Nat),cP as (qN f as) i=if i∈as.map (·.1) then some (f i) else none
 | [],i=>by simp [cP]
 | (a,t)::as,i=>by
   simp only [qN,cP];cases hb:Nat.beq i a with
   |true=>
    obtain rfl:=UG hb;simp
   |false=>
    have J:i≠a:=λhe=>by rw [he,XW] at hb;cases hb
    rw [cond_false,xe f as i];have I:(i∈((a,t)::as).map (·.1))↔i∈as.map (·.1):=by
     rw [Vy,UI];exact ⟨λh=>h.resolve_left J,Or.inr⟩
    by_cases hm:i∈as.map (·.1)
    . rw [if_pos hm,if_pos (I.2 hm)]
    . rw [if_neg hm,if_neg (λh=>hm (I.1 h))]
theorem nJ {c:Code} {as:List (Nat × TypeId)} {f I:Fr} (h:nh c f I):Ov c as (qN I as) f I=I:=by
 funext i;unfold Ov;rw [xe];by_cases hm:i∈as.map (·.1)
 . rw [if_pos hm]
 . rw [if_neg hm];show (bif (jR (tQ c) i).isNone then f i else I i)=I i;cases J:jR (tQ c) i with
   |none=>exact (h i J).symm
   |some t=>rfl
theorem nh.seq {a b:Code} {f g h:Fr} (h1:nh a f g) (I:nh b g h):nh (.seq a b) f h:=λi hi=>by
 obtain ⟨ha,hb⟩:=(gC _ _ _).1 hi;rw [I i hb,h1 i ha]
theorem nh.left {a b:Code} {f g:Fr} (h1:nh a f g):nh (.seq a b) f g:=λi hi=>h1 i ((gC _ _ _).1 hi).1
theorem BL {R:Type} (b:Bk) {I:ID b R} {v:Value} {C:R->Prop} (h:FD b I v C):∃r,C r/\∀J:R->Prop,J r->FD b I v J:=by
 cases b<;>simp only [FD] at h ⊢
 case int k=>
  split at h
  . rename_i U n';cases Q:k==U with
    |false=>rw [Q] at h;exact h.elim
    |true=>rw [Q,cond_true] at h;exact ⟨_,h,λJ O=>O⟩
  . exact h.elim
 case any=>exact ⟨_,h,λJ O=>O⟩
 all_goals
  split at h
  . exact ⟨_,h,λJ O=>O⟩
  . exact h.elim
theorem FR {R:Type} (l:List Bk):∀ {I:B6 l R} {vs:List Value} {C:R->Prop},BO l I vs C->∃r,C r/\∀J:R->Prop,J r->BO l I vs J:=by
 induction l with
 |nil=>
  intro I vs C h;cases vs with
  |nil=>exact ⟨_,h,λJ O=>O⟩
  |cons=>exact h.elim
 |cons b l ih=>
  intro I vs C h;cases vs with
  |nil=>exact h.elim
  |cons v vs=>
   obtain ⟨r,h1,Q⟩:=BL b h;obtain ⟨X,V,U⟩:=ih h1;exact ⟨X,V,λJ O=>Q (λY=>BO l Y vs J) (U J O)⟩
theorem IV {R:Type} (k:Vk) {I:Mj k R} {v:Value} {C:R->Prop} (h:tD k I v C):∃r,C r/\∀J:R->Prop,J r->tD k I v J:=by
 cases k with
 |bJ b=>exact BL b h
 |agg l=>
  simp only [tD] at h ⊢;split at h
  . obtain ⟨r,h1,Q⟩:=FR l h;exact ⟨r,h1,λJ O=>Q J O⟩
  . exact h.elim
theorem qO {R:Type} (l:List Vk):∀ {I:yG l R} {vs:List Value} {C:R->Prop},tO l I vs C->∃r,C r/\∀J:R->Prop,J r->tO l I vs J:=by
 induction l with
 |nil=>
  intro I vs C h;cases vs with
  |nil=>exact ⟨_,h,λJ O=>O⟩
  |cons=>exact h.elim
 |cons b l ih=>
  intro I vs C h;cases vs with
  |nil=>exact h.elim
  |cons v vs=>
   obtain ⟨r,h1,Q⟩:=IV b h;obtain ⟨X,V,U⟩:=ih h1;exact ⟨X,V,λJ O=>Q (λY=>tO l Y vs J) (U J O)⟩
theorem jJ (hm:P.follows .mixedOrders=true) {n:Nat} (c:Code):∀ {ann:sM} {f:Fr} {w:World} {Q:Np} {a:Act},ee P n c=true->Ag D n a f->uf P c ann f w Q->
 c.wp P (λe a' w'=>∃U,Ag D n a' U/\Q e U w'/\nh c f U) a w:=by
 induction c with
 |skip=>intro ann f w Q a _ ha h;exact wp_skip ⟨f,ha,h,λ_ _=>rfl⟩
 |label l=>intro ann f w Q a _ ha h;exact wp_label ⟨f,ha,h,λ_ _=>rfl⟩
 |exit id=>intro ann f w Q a _ ha h;exact wp_exit ⟨f,ha,h,λ_ _=>rfl⟩
 |ret=>intro ann f w Q a _ ha h;exact wp_ret ⟨f,ha,h,λ_ _=>rfl⟩
 |goto l=>intro ann f w Q a h;cases h
 |refuse y=>intro ann f w Q a h;cases h
 |rangeFunc g ps x y=>intro ann f w Q a h;cases h
 |region id X dB=>
  intro ann f w Q a Y ha h;simp only [ee,ts] at Y;have ar:∀ (j:Nat) (o:Oper) (d:Nat),X[j]? =some o->o.dst=some d->(d,o.type)∈tQ (.region id X dB):=λj o d ho hd=>by
   simp only [tQ,List.mem_filterMap];refine ⟨o,?_,by rw [hd];rfl⟩;exact Xg.2 (XJ ho)
  have dG:∀a' w',((∃U,Ag D n a' U/\Q .normal U w')/\∀i,jR (tQ (.region id X dB)) i=none->a'.tmps.getD i undef=a.tmps.getD i undef)->
   ∃U,Ag D n a' U/\Q .normal U w'/\nh (.region id X dB) f U:=by
   rintro a' w' ⟨⟨U,O,hq⟩,hi⟩;exact ⟨U,O,hq,λi b3=>by rw [<- O.2.2,hi i b3,ha.2.2]⟩
  cases dB with
  |false=>
   have ap:=uV Y.1 X.toList 0 f a _ (by simp) ha h;have V:=lY ar _ _ _ ap;rw [WB] at V;exact Dh (nN _ _ _ dG V)
  |true=>
   have av:dC X=true:=by simpa using Y.2
   simp only [uf,cond_true] at h;cases a_:ann.drawn with
   |true=>
    rw [a_,cond_true] at h;exact zX hm (nG _ _ _ _ dG (lZ ar _ _ _ _ (B0 av Y.1 ha h)))
   |false=>
   simp only [a_,cond_false,Gt] at h;cases an:qS P X with
   |true=>
    rw [an,cond_true] at h;have ap:=uV Y.1 X.toList 0 f a _ (by simp) ha h;have V:=lY ar _ _ _ ap;rw [WB] at V;exact EX hm an (nN _ _ _ dG V)
   |false=>
    rw [an,cond_false] at h;have bb:=yj av Y.1 X.size (Array.replicate X.size false) f a _ (by simp) (λj o ho hl=>by
     have bn:j<X.size:=by
      rcases UU j X.size with h'|h'
      . exact h'
      . simp [UQ h'] at ho
     simp [bn] at hl) (by simp [XK]) ha h
    have V:=lZ ar _ _ _ _ bb;exact zX hm (nG _ _ _ _ dG V)
 |seq x y ihx ihy=>
  intro ann f w Q a Y ha h;simp only [ee,ts] at Y;simp only [uf] at h;refine wp_seq ?_;cases aw:ann.Lv with
  |none=>
   simp only [aw] at h;refine wp_mono (ihx Y.1 ha h) λe a' w' ⟨U,O,hq,V⟩=>?_;cases e with
   |normal=>exact wp_mono (ihy Y.2 O hq) λe a8 az ⟨ac,Z,ay,ax⟩=>⟨ac,Z,ay,V.seq ax⟩
   |_=>exact ⟨U,O,hq,V.left⟩
  |some as=>
   simp only [aw] at h;obtain ⟨J,h1,h2⟩:=h;refine wp_mono (ihx Y.1 ha h1) λe a' w' ⟨U,O,hq,V⟩=>?_;cases e with
   |normal=>
    obtain ⟨r,hr,ag⟩:=qy _ hq h2;have:=ag w' U hr;rw [nJ V] at this;exact wp_mono (ihy Y.2 O this) λe a8 az ⟨ac,Z,ay,ax⟩=>⟨ac,Z,ay,V.seq ax⟩
   |_=>exact ⟨U,O,hq,V.left⟩
 |cond o x y ihx ihy=>
  intro ann f w Q a Y ha h;simp only [ee,ts] at Y;simp only [uf] at h;split at h
  . rename_i t ht;have bf:a.eval o=.bool t:=by rw [ha.eval];exact ht
    cases t with
    |true=>
     refine wp_cond_true bf (wp_mono (ihx Y.1 ha h) λe a' w' ⟨U,O,hq,V⟩=>⟨U,O,hq,λi hi=>V i ((gC _ _ _).1 hi).1⟩)
    |false=>
     refine wp_cond_false bf (wp_mono (ihy Y.2 ha h) λe a' w' ⟨U,O,hq,V⟩=>⟨U,O,hq,λi hi=>V i ((gC _ _ _).1 hi).2⟩)
  . exact h.elim
 |block id x ih=>
  intro ann f w Q a Y ha h;refine wp_block (wp_mono (ih Y ha h) λe a' w' ⟨U,O,hq,V⟩=>?_);cases e with
  |exit i=>
   simp only [Exit.inBlock];simp only at hq;cases hb:Nat.beq i id with
   |true=>
    obtain rfl:=UG hb;rw [hb,cond_true] at hq;rw [if_pos rfl];exact ⟨U,O,hq,V⟩
   |false=>
    rw [hb,cond_false] at hq;rw [if_neg (λhe=>by rw [he,XW] at hb;cases hb)];exact ⟨U,O,hq,V⟩
  |_=>exact ⟨U,O,hq,V⟩
 |scope x ih=>
  intro ann f w Q a Y ha h;refine wp_scope_straight (wp_mono (ih Y ha h) λe a' w' ⟨U,O,hq,V⟩=>?_);cases e with
  |goto l=>exact hq.elim
  |_=>exact ⟨U,O,hq,V⟩
 |loop x ih=>
  intro ann f w Q a Y ha h;simp only [uf] at h;obtain ⟨I,h1,h2⟩:=h;have bk:=qO _ h1;obtain ⟨r0,⟨k0,b4⟩,aT⟩:=bk;refine wp_loop_ghost (λk a' w'=>∃U:Fr,Ag D n a' U/\nh x f U/\tO (mE P ann.yO) I (qN U ann.yO) λr=>r w' k) k0 ⟨f,ha,λ_ _=>rfl,aT (λr=>r w k0) b4⟩ ?_;intro k a' w' ⟨U,O,bg,hI⟩;obtain ⟨r,hr,ag⟩:=qy _ hI h2;have hb:=ag w' k U hr;rw [nJ bg] at hb;refine wp_mono (ih Y O hb) λe a8 az ⟨ac,Z,hq,V⟩=>?_;have a7:nh x f ac:=λi hi=> (V i hi).trans (bg i hi);cases e with
  |normal=>
   obtain ⟨r',⟨k',bv,bY⟩,a6⟩:=qO _ hq;exact ⟨k',bv,ac,Z,a7,a6 (λr=>r az k') bY⟩
  |_=>exact ⟨ac,Z,hq,a7⟩
theorem nQ:∀ {rs:List ResultVar} {f:Fr} {a:Act} {n:Nat} {w:World} {K:List Value->Prop},Ag D n a f->zA P rs f w K->
 ∃vs,(rs.mapM λ(x:ResultVar)=>match x with| .tmp t=> (pure (a.tmps.getD t undef):Sem Value)| .cell b t=>do loadVar t (<- asAddr (a.tmps.getD b undef))).run P w=.ok vs w/\K vs
 | [],_,_,_,_,_,_,h=>⟨[],rfl,h⟩
 | .tmp t::l,f,a,n,w,K,ha,h=>by
   obtain ⟨vs,hr,I⟩:=nQ (rs:=l) ha h;refine ⟨_,?_,I⟩;simp only [XY,Sem.run_bind,Sem.run_pure,Result.andThen_ok,hr];rw [ha.2.2]
 | .cell b t::l,f,a,n,w,K,ha,h=>by
   simp only [zA] at h;split at h
   . rename_i p hp;obtain ⟨v,hv,h⟩:=D3 h;obtain ⟨vs,hr,I⟩:=nQ (rs:=l) ha h;refine ⟨_,?_,I⟩;simp only [XY,Sem.run_bind];rw [ha.2.2,hp];rw [show (asAddr (.pointer (some p))).run P w=.ok p w from rfl];simp only [Result.andThen_ok,hv,hr,Sem.run_pure]
   . exact h.elim
theorem sq:∀ (args:List Value) (i:Nat),ry args i=args.getD i undef
 | [],i=>by simp [ry]
 |v::vs,0=>by simp [ry]
 |v::vs,i+1=>by simp [ry,sq vs i]
def JL (P:Program) (fn:Func) (args:Nat):Bool:=
 match fn.body with
 |none=>false
 |some c=>ee P fn.ntmps c && Nat.ble args fn.ntmps
theorem C_ (hm:P.follows .mixedOrders=true) {f:FuncId} {fn:Func} (hf:P.funcs[f]? =some fn) {ann:sM} {args:List Value} {w:World} {K:Value->World->Prop}
 (I:JL P fn args.length=true) (h:Sf P fn ann args w K):Calls P f args.toArray w λe w'=>∃v,e=.returned v/\K v w':=by
 unfold Sf at h;unfold JL at I;split at h
 . exact h.elim
 . rename_i c hb;rw [hb] at I;simp only [ts] at I;have U:args.length<=fn.ntmps:=by simpa using I.2
   refine calls_of_wp hf hb ?_;have ha:Ag [] fn.ntmps {tmps:=args.toArray++Array.replicate (fn.ntmps - args.toArray.size) undef,defers:= []} (ry args):=by
    refine ⟨by simp;omega,rfl,λi=>?_⟩;rw [sq];simp only [WI,y6];by_cases hi:i<args.length
    . rw [VB (by simpa using hi)];simp
    . rw [WJ (by simpa using hi)];rw [Vz (by omega)];rw [WY];split<;>rfl
   refine wp_mono (jJ hm c I.1 ha h) λe O w' ⟨Q,J,hq,_⟩=>?_;have dG:zA P fn.results.toList Q w' (λvs=>K (jt vs) w')->O.defers= []/\∃v,(results fn O.tmps).run P w'=.ok v w'/\∃u,Ending.returned v=.returned u/\K u w':=by
    intro hr;obtain ⟨vs,hv,V⟩:=nQ J hr;refine ⟨J.2.1,jt vs,?_,_,rfl,V⟩;unfold results;rw [Wp];simp only [Sem.run_bind,Sem.run_map];refine (congrArg (λr=>Result.andThen (Result.andThen r _) _) hv).trans ?_;simp only [Result.andThen_ok,Sem.run_pure]
    match vs with
    | []=>simp [jt]
    | [v]=>simp [jt]
    |u::v::l=>simp [jt]
   cases e with
   |normal=>exact dG hq
   |ret=>exact dG hq
   |_=>exact hq.elim
theorem LN {P:Program} (hm:P.follows .mixedOrders=true) {f:FuncId} {fn:Func} (hf:P.funcs[f]? =some fn) {ann:sM} {args:List Value} {n:Nat} (I:JL P fn n=true) (hn:args.length=n)
 {w:World} {F:(Value->World->Prop)->Prop} (he:∀K,Sf P fn ann args w K=F K) {R:Ending->World->Prop} (h:F λv w'=>R (.returned v) w'):Calls P f args.toArray w R:=by
 subst hn;refine (C_ hm hf I (Eq.mpr (he _) h)).mono ?_;rintro e w' ⟨v,rfl,J⟩;exact J
end Go.Fw
