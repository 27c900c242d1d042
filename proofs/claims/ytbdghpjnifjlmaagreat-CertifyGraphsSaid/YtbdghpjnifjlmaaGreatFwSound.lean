/- The frame is sound: what it asks of a function is a contract of the function. -/
import Derived.Test.YtbdghpjnifjlmaaGreatFwOrderW
import Derived.Deep.LoopGhost
set_option linter.all false
namespace Go.Fw
open Go
variable{P:Program}{D:List Deferred}
def Ag(D:List Deferred)(n:Nat)(a:Act)(f:Fr):Prop:=a.tmps.size=n/\a.defers=D/\∀i,a.tmps.getD i undef=f i
theorem Ag.eval{n:Nat}{a:Act}{f:Fr}(h:Ag D n a f):a.eval=ev f:=by
 funext x;cases x<;>simp[Act.eval,ev];exact(by simpa using h.2.2 _)
theorem Gs(f:Fr)(j:Nat)(v:Value)(i:Nat):f.set (some j) v i=if i=j then v else f i:=by
 show (bif Nat.beq i j then v else f i)=_;cases hb:Nat.beq i j with
 |true=>rw[v8 (V_ hb)];rfl
 |false=>rw[r8 (λh=>by rw[h,Zi]at hb;cases hb)];rfl
theorem Ag.put{n:Nat}{a:Act}{f:Fr}(h:Ag D n a f){d:Option Nat}(U:∀j,d=some j->j<n)(v:Value):Ag D n (a.put d v) (f.set d v):=by
 cases d with
 |none=>exact h
 |some j=>
  obtain⟨h1,J,O⟩:=h;refine⟨by simpa[Act.put]using h1,J,λi=>?_⟩;rw[Gs];have Q:=U j rfl;by_cases I:i=j
  .subst I;simp[Act.put,h1,Q]
  .rw [r8 I,<- O i];simp[Act.put,XS (WL I)]
theorem EL(f:Fr)(t:Nat)(v:Value)(h:f t=v):f.set (some t) v=f:=by
 funext i;rw[Gs];by_cases hi:i=t
 .subst hi;simp[h]
 .simp [hi]
def wC(n:Nat)(o:Oper):Bool:=
 match o.dst with
 |none=>true
 |some d=>Nat.blt d n
theorem mI{n:Nat}{o:Oper}(h:wC n o=true):∀j,o.dst=some j->j<n:=by
 intro j I;simp only[wC,I]at h;simpa using h
def qK(P:Program)(n:Nat):List Oper->Bool
 | []=>true
 |o::l=>wC n o && En P o && qK P n l
theorem AR{J:Array Oper}{n:Nat}{a:Act}{f:Fr}(h:Ag D n a f){j t:Nat}(ht:(J[j]?).bind (·.dst)=some t)(O:t<n){b:Bool}(hb:f t=.bool b):
 yielded J a.tmps j=some b:=by
 unfold yielded;rw[ht];have Q:=h.2.2 t;have I:t<a.tmps.size:=by rw[h.1];exact O
 simp only[XD,XT I];simp[I]at Q;rw[Q,hb]
theorem qg{n:Nat}:∀ {l:List Oper},qK P n l=true->∀ (j:Nat) (o:Oper),l[j]? =some o->wC n o=true/\En P o=true
 | [],_,j,o,h=>by simp at h
 |x::l,h,j,o,ho=>by
  simp only[qK,ts]at h;cases j with
  |zero=>simp at ho;subst ho;exact h.1
  |succ j=>exact qg h.2 j o (by simpa using ho)
theorem pH{J:Array Oper}{n:Nat}(X:qK P n J.toList=true){i:Nat}{o:Oper}(h0:J[i]? =some o){f:Fr}{a:Act}{w:World}{C:Fr->World->Prop}(ha:Ag D n a f)
 (h:Gx P J o f w C):xB P J i (λa' w'=>∃U,Ag D n a' U/\C U w') a w:=by
 obtain⟨hd,hc⟩:=qg X i o (by simpa using h0);have Q:=mI hd;unfold xB;simp only[h0];have O:∀ {f:Fr},Ag D n a f->(tu P o f w λv w'=>C (f.set o.dst v) w')->yA P (bF P o) (execOp a.eval o) w λv w'=>∃U,Ag D n (a.put o.dst v) U/\C U w':=by
  intro f ha h;rw[ha.eval];exact Cd (λv w' hr=>⟨_,ha.put Q v,hr⟩) (tO o f w _ hc h)
 have pass:∀ {f:Fr},Ag D n a f->C (f.set o.dst undef) w->∃U,Ag D n (a.put o.dst undef) U/\C U w:=by
  intro f ha h;exact⟨_,ha.put Q undef,h⟩
 unfold Gx at h;split at h
 .rename_i hg;exact AN (by simp[Region.wanted,hg]) (O ha h)
 .rename_i j want hg;split at h
  .exact h.elim
  .rename_i t ht;have aa:t<n:=by
    cases V:J[j]? with
    |none=>simp[V]at ht
    |some oj=>
     rw[V]at ht;exact mI (qg X j oj (by simpa using V)).1 t (by simpa using ht)
   split at h
   .rename_i b hb;have hy:=AR ha ht aa hb;have Z:f.set (some t) (.bool b)=f:=EL f t _ hb;have I:Region.wanted o (yielded J a.tmps)=(b==want):=by
     simp[Region.wanted,hg,hy]
    cases b<;>cases want<;>simp only[aD,I6,J6,Z]at h
    .exact AN (by rw[I];rfl) (O ha h)
    .unfold tS;rw[r8 (by rw[I];simp)];exact pass ha h
    .unfold tS;rw[r8 (by rw[I];simp)];exact pass ha h
    .exact AN (by rw[I];rfl) (O ha h)
   .rename_i vs hb;have hy:yielded J a.tmps j=none:=by
     unfold yielded;rw[ht];have h3:=ha.2.2 t;have Y:t<a.tmps.size:=by rw[ha.1];exact aa
     simp only[XD,XT Y];simp[Y]at h3;rw[h3,hb]
    have I:Region.wanted o (yielded J a.tmps)=false:=by
     simp[Region.wanted,hg,hy]
    unfold tS;rw[r8 (by rw[I];simp)];exact pass ha h
   .exact h.elim
theorem u5{I:Array Oper}{n:Nat}(J:qK P n I.toList=true){K:Fr->World->Prop}:∀ (l:List Oper) (k:Nat) (f:Fr) (a:Act) (w:World),(∀j,l[j]? =I[k+j]?)->Ag D n a f->
 Su P I l f w K->rS P I (λV w'=>∃O,Ag D n V O/\K O w') (List.range' k l.length) a w
 | [],_,f,a,w,_,ha,h=>⟨f,ha,h⟩
 |o::l,k,f,a,w,hl,ha,h=>by
  have X:I[k]? =some o:=by simpa using(hl 0).symm
  have U:∀j,l[j]? =I[k+1+j]? :=λj=>by have:=hl (j+1);simpa[Ye,YZ 1 j]using this
  rw[Wz,Y'];exact fx (λV w' ⟨O,Q,hr⟩=>u5 J l (k+1) O V w' U Q hr) (pH J X ha h)
theorem AH{C:Nat->Prop}:∀ {l:List Nat},QM l C->∀i∈l,C i
 | [],_,i,hi=>by cases hi
 | [j],h,i,hi=>by simp at hi;subst hi;exact h
 |j::k::l,h,i,hi=>by
  rcases V'.1 hi with rfl|hi
  .exact h.1
  .exact AH h.2 i hi
theorem ze{J:Array Oper}{n:Nat}(U:dG J=true)(Y:qK P n J.toList=true){K:Fr->World->Prop}:∀ (m:Nat) (I:Array Bool) (f:Fr) (a:Act) (w:World),
 I.size=J.size->yF J I->(I.toList.filter (·=false)).length=m->Ag D n a f->
 Ub P J (mV J.toList []) m I f w K->jK P J (λa' w'=>∃f',Ag D n a' f'/\K f' w') m I a w
 |0,I,f,a,w,V,hs,hm,ha,h=>by
  refine⟨?_,f,ha,h⟩;cases hr:Region.ready .any J I with
  |nil=>rfl
  |cons x xs=>
   have hx:x∈Region.ready .any J I:=by rw[hr];exact Wb ..
   obtain⟨O,o,ho,_⟩:=mem_ready.1 hx;have Z:x<I.size:=by
    rcases Wp x I.size with X|X
    .exact X
    .simp [Wm X]at O
   have Q:I[x]∈I.toList.filter (·=false):=by
    simp only[WC];refine⟨by simp,?_⟩;simp[Z]at O;simp[O]
   have:=Xq Q;omega
 |m+1,I,f,a,w,V,hs,hm,ha,h=>by
  have count:∀i,i∈Region.ready .any J I->((I.setIfInBounds i true).toList.filter (·=false)).length=m:=by
   intro i hi;obtain⟨O,o,ho,_⟩:=mem_ready.1 hi;have Z:i<I.size:=by
    rcases Wp i I.size with X|X
    .exact X
    .simp [Wm X]at O
   have key:∀ (l:List Bool) (i:Nat),l[i]? =some false->((l.set i true).filter (·=false)).length+1=(l.filter (·=false)).length:=by
    intro l
    induction l with
    |nil=>intro i h;simp at h
    |cons b l ih=>
     intro i h;cases i with
     |zero=>simp at h;subst h;simp
     |succ i=>
      simp only[WV]at h;have:=ih i h;cases b<;>simp only[YU,Yh]<;>simp<;>simpa using this
   have hf:I.toList[i]? =some false:=by
    simp[Z]at O;simp[Z,O]
   have:=key I.toList i hf;simp only[XO];omega
  simp only[Ub]at h;split at h
  .rename_i i hi;have Q:=YP hi;have ag:=YT hi;unfold JF at h;split at h
   .exact h.elim
   .rename_i o ho;refine Cy U m I a w V hs Q ?_ ?_
    .intro oi j oj a_ ar O bf bb;have az:j<J.size:=by
      rcases Wp j J.size with X|X
      .exact X
      .simp [Wm X]at ar
     have:=K'.1 ag j (Wv.2 az);simp only[W7,a_,ar,ts]at this;rcases this with((h1|h2)|h3)|h4
     .rw [O]at h1;cases h1
     .exact absurd (V_ h2) bf
     .rw [bb]at h3;cases h3
     .exact ⟨h4.1.1,h4.2⟩
    .exact fx (λa' w' ⟨f',an,hr⟩=>ze U Y m _ f' a' w' (by simpa using V) (hs.set V Q) (count i Q) an hr) (pH Y ho ha h)
  .rename_i a8;refine⟨λhe=>?_,λi hi=>?_⟩
   ·
    exfalso;have O:∃k:Nat,k<J.size/\I.getD k true=false:=by
     have:0< (I.toList.filter (·=false)).length:=by omega
     obtain⟨b,hb⟩:=Zc this;simp only[WC,x7]at hb;obtain⟨k,hk,a7⟩:=List.getElem_of_mem hb.1;refine⟨k,by rw[<- V];simpa using hk,?_⟩;have aT:k<I.size:=by simpa using hk
     have:I[k]=b:=by simpa using a7
     simp[aT,this,hb.2]
    obtain⟨k,⟨hk,ay⟩,aa⟩:=exists_least O;simp only[dG,ts]at U;have:k∈Region.ready .any J I:=by
     refine mem_ready.2 ⟨ay,J[k],by simp[hk],λe a6 hb=>?_⟩;have ac:=(kJ J.toList 0 U.2 k J[k] (by simp[hk])).2;rw[Wr]at ac;have bn:=fQ _ ac e (by simpa using a6) hb;cases hl:I.getD e.on true with
     |true=>
      have:e.on<I.size:=by omega
      simpa[this]using hl
     |false=>have:=aa e.on ⟨by omega,hl⟩;omega
    rw[he]at this;cases this
   .have:=AH h i hi;unfold JF at this;split at this
    .exact this.elim
    .rename_i o ho;exact fx (λa' w' ⟨f',an,hr⟩=>ze U Y m _ f' a' w' (by simpa using V) (hs.set V hi) (count i hi) an hr) (pH Y ho ha this)
theorem Hz{keep:Bool}{W:World->Prop}{w:World}{K:Prop}(h:EW keep W w K):(keep=true->W w)/\K:=by
 cases keep with
 |true=>exact⟨λ_=>h.1,h.2⟩
 |false=>exact⟨λh=> (by cases h),h⟩
theorem zR{b:Bk}{C D:Value->Prop}(h:∀v,C v->D v)(g:Lo b C):Lo b D:=by
 cases b<;>simp only[Lo]at g ⊢
 case slice=>obtain⟨p,n,c,g⟩:=g;exact⟨p,n,c,h _ g⟩
 case fn=>obtain⟨p,c,g⟩:=g;exact⟨p,c,h _ g⟩
 all_goals (obtain⟨x,g⟩:=g;exact⟨x,h _ g⟩)
theorem Jy{b:Bk}{C:Value->Prop}(g:Lo b C):∃v,C v/\Lo b λI=>I=v:=by
 cases b<;>simp only[Lo]at g ⊢
 case slice=>obtain⟨p,n,c,g⟩:=g;exact⟨_,g,p,n,c,rfl⟩
 case fn=>obtain⟨p,c,g⟩:=g;exact⟨_,g,p,c,rfl⟩
 all_goals (obtain⟨x,g⟩:=g;exact⟨_,g,x,rfl⟩)
theorem xq:∀ {l:List Bk} {C D:List Value->Prop},(∀v,C v->D v)->BK l C->BK l D
 | [],_,_,h,g=>h _ g
 |_::_,_,_,h,g=>zR (λ_ g=>xq (λ_ g=>h _ g) g) g
theorem Fz:∀ {l:List Bk} {C:List Value->Prop},BK l C->∃vs,C vs/\BK l λI=>I=vs
 | [],_,g=>⟨[],g,rfl⟩
 |_::_,_,g=>by
  obtain⟨v,g,Q⟩:=Jy g;obtain⟨vs,g,O⟩:=Fz g;exact⟨v::vs,g,zR (λU hv=>xq (λI J=>by rw[hv,J]) O) Q⟩
theorem Om{t:TypeId}{a:Addr}{W:World->Prop}{K:Value->Prop}(h:Vq P t a W K):∃v,(∀u,W u->TE P t a u λO=>O=v)/\K v:=by
 unfold Vq at h;split at h
 .rename_i ht;obtain⟨v,⟨hv,J⟩,hb⟩:=Jy h;refine⟨v,λu hu=>?_,J⟩;unfold TE;simp only[ht];exact zR (λO he=>by subst he;exact⟨hv u hu,rfl⟩) hb
 .rename_i ht;split at h
  .rename_i i hi;cases I:Nat.beq i.size (vg P 10 t).length with
   |false=>rw[I]at h;exact h.elim
   |true=>
    rw[I,I6]at h;obtain⟨vs,⟨hv,J⟩,hb⟩:=Fz h;refine⟨_,λu hu=>?_,J⟩;unfold TE;simp only[ht,hi,I,I6];exact xq (λO he=>by subst he;exact⟨hv u hu,rfl⟩) hb
  .exact h.elim
 .exact h.elim
theorem J0{W:World->Prop}{keep:Bool}(o:Oper)(f:Fr)(w:World)(K:Value->World->Prop)(Q:En P o=true)(h:SL P W keep o f w K):
 ub P W keep (bF P o) (execOp (ev f) o) w K:=by
 have I:(tu P o f w λv w'=>EW keep W w' (K v w'))->2<=bF P o->ub P W keep (bF P o) (execOp (ev f) o) w K:=by
  intro h J;have O:=tO o f w _ Q h
  match hq:bF P o with
  |0=>omega
  |1=>omega
  |n+2=>rw[hq]at O;exact l9 (λv w' X=>Hz X) O
 have pure:tu P o f w K->bF P o=0->ub P W keep (bF P o) (execOp (ev f) o) w K:=by
  intro h J;have O:=tO o f w _ Q h;rw[J]at O ⊢;exact O
 have read:∀v,(∀u,W u->tu P o f u λV _=>V=v)->bF P o=1->K v w->ub P W keep (bF P o) (execOp (ev f) o) w K:=by
  intro v hv J Y;rw[J];refine⟨v,λu hu=>?_,Y⟩;have O:=tO o f u _ Q (hv u hu);rw[J]at O;obtain⟨V,hr,rfl⟩:=O;exact hr
 have rest:(bif Nat.ble (bF P o) 0 then tu P o f w K else tu P o f w λv w'=>EW keep W w' (K v w'))->bF P o≠1->ub P W keep (bF P o) (execOp (ev f) o) w K:=by
  intro h Z;cases hb:Nat.ble (bF P o) 0 with
  |true=>rw[hb,I6]at h;exact pure h (by have:=Y8 hb;omega)
  |false=>
   rw[hb,J6]at h;refine I h ?_;have: ¬bF P o<=0:=λU=>by rw[Nat.ble_eq_true_of_le U]at hb;cases hb
   omega
 obtain⟨dst,op,type,pos,after,guard⟩:=o;cases op
 case load t x=>
  simp only[SL]at h;split at h
  .rename_i a ha;obtain⟨v,hv,J⟩:=Om h;refine read v (λu hu=>?_) rfl J;simp only[tu,ha];exact hv u hu
  .exact h.elim
 case call c=>
  obtain⟨callee,args,argTypes⟩:=c;cases callee with
  |invoke r m=>exact I h (by simp[bF])
  |value x=>exact I h (by simp[bF])
  |builtin b=>
   cases b
   case len=>
    simp only[SL,T6]at h;split at h
    .rename_i p n c hl;split at h
     .rename_i e he;refine read _ (λu hu=>?_) rfl h;simp only[tu,ve,hl,he]
     .exact h.elim
    .rename_i r hl;obtain⟨n,hn,J⟩:=h;refine read _ (λu hu=>?_) rfl J;simp only[tu,ve,hl];exact⟨n,hn u hu,rfl⟩
    .exact h.elim
   case max=>exact pure h rfl
   case min=>exact pure h rfl
   all_goals exact I h (by simp[bF])
 case binOp b t x y z=>
  refine rest h ?_;simp only[bF];repeat' split
  all_goals simp
 all_goals exact rest h (by simp[bF])
theorem si{W:World->Prop}{B:List Nat}{J:Array Oper}{n:Nat}(X:qK P n J.toList=true){i:Nat}{o:Oper}(h0:J[i]? =some o){f:Fr}{a:Act}{w:World}{C:Fr->World->Prop}(ha:Ag D n a f)
 (h:Jq P J W (vR P J B i) o f w C):qo P J W B i (λa' w'=>∃U,Ag D n a' U/\C U w') a w:=by
 obtain⟨hd,hc⟩:=qg X i o (by simpa using h0);have Q:=mI hd;unfold qo;simp only[h0];have O:∀ {f:Fr},Ag D n a f->(SL P W (vR P J B i) o f w λv w'=>C (f.set o.dst v) w')->ub P W (vR P J B i) (bF P o) (execOp a.eval o) w λv w'=>∃U,Ag D n (a.put o.dst v) U/\C U w':=by
  intro f ha h;rw[ha.eval];exact Ba (λv w' hr=>⟨_,ha.put Q v,hr⟩) (J0 o f w _ hc h)
 have pass:∀ {f:Fr},Ag D n a f->C (f.set o.dst undef) w->∃U,Ag D n (a.put o.dst undef) U/\C U w:=by
  intro f ha h;exact⟨_,ha.put Q undef,h⟩
 unfold Jq at h;split at h
 .rename_i hg;exact D' (by simp[Region.wanted,hg]) (O ha h)
 .rename_i j want hg;split at h
  .exact h.elim
  .rename_i t ht;have aa:t<n:=by
    cases V:J[j]? with
    |none=>simp[V]at ht
    |some oj=>
     rw[V]at ht;exact mI (qg X j oj (by simpa using V)).1 t (by simpa using ht)
   split at h
   .rename_i b hb;have hy:=AR ha ht aa hb;have Z:f.set (some t) (.bool b)=f:=EL f t _ hb;have I:Region.wanted o (yielded J a.tmps)=(b==want):=by
     simp[Region.wanted,hg,hy]
    cases b<;>cases want<;>simp only[aD,I6,J6,Z]at h
    .exact D' (by rw[I];rfl) (O ha h)
    .unfold oY;rw[r8 (by rw[I];simp)];exact pass ha h
    .unfold oY;rw[r8 (by rw[I];simp)];exact pass ha h
    .exact D' (by rw[I];rfl) (O ha h)
   .rename_i vs hb;have hy:yielded J a.tmps j=none:=by
     unfold yielded;rw[ht];have h3:=ha.2.2 t;have Y:t<a.tmps.size:=by rw[ha.1];exact aa
     simp only[XD,XT Y];simp[Y]at h3;rw[h3,hb]
    have I:Region.wanted o (yielded J a.tmps)=false:=by
     simp[Region.wanted,hg,hy]
    unfold oY;rw[r8 (by rw[I];simp)];exact pass ha h
   .exact h.elim
theorem FN{W:World->Prop}{B:List Nat}{I:Array Oper}{n:Nat}(J:qK P n I.toList=true){K:Fr->World->Prop}:∀ (l:List Oper) (k:Nat) (f:Fr) (a:Act) (w:World),(∀j,l[j]? =I[k+j]?)->Ag D n a f->
 Sc P I W B k l f w K->Qg P I W B (λV w'=>∃O,Ag D n V O/\K O w') (List.range' k l.length) a w
 | [],_,f,a,w,_,ha,h=>⟨f,ha,h⟩
 |o::l,k,f,a,w,hl,ha,h=>by
  have X:I[k]? =some o:=by simpa using(hl 0).symm
  have U:∀j,l[j]? =I[k+1+j]? :=λj=>by have:=hl (j+1);simpa[Ye,YZ 1 j]using this
  rw[Wz,Y'];exact nM (λV w' ⟨O,Q,hr⟩=>FN J l (k+1) O V w' U Q hr) (si J X ha h)
theorem Ap{W:World->Prop}(an:∃u,W u){J:Array Oper}{n:Nat}(U:dG J=true)(Y:qK P n J.toList=true){K:Fr->World->Prop}:∀ (m:Nat) (I:Array Bool) (f:Fr) (a:Act) (w:World),
 I.size=J.size->yF J I->(I.toList.filter (·=false)).length=m->Ag D n a f->
 LF P J W (mV J.toList []) m I f w K->uI P J W (mV J.toList []) (λa' w'=>∃f',Ag D n a' f'/\K f' w') m I a w
 |0,I,f,a,w,V,hs,hm,ha,h=>by
  refine⟨?_,f,ha,h⟩;cases hr:Region.ready .any J I with
  |nil=>rfl
  |cons x xs=>
   have hx:x∈Region.ready .any J I:=by rw[hr];exact Wb ..
   obtain⟨O,o,ho,_⟩:=mem_ready.1 hx;have Z:x<I.size:=by
    rcases Wp x I.size with X|X
    .exact X
    .simp [Wm X]at O
   have Q:I[x]∈I.toList.filter (·=false):=by
    simp only[WC];refine⟨by simp,?_⟩;simp[Z]at O;simp[O]
   have:=Xq Q;omega
 |m+1,I,f,a,w,V,hs,hm,ha,h=>by
  have count:∀i,i∈Region.ready .any J I->((I.setIfInBounds i true).toList.filter (·=false)).length=m:=by
   intro i hi;obtain⟨O,o,ho,_⟩:=mem_ready.1 hi;have Z:i<I.size:=by
    rcases Wp i I.size with X|X
    .exact X
    .simp [Wm X]at O
   have key:∀ (l:List Bool) (i:Nat),l[i]? =some false->((l.set i true).filter (·=false)).length+1=(l.filter (·=false)).length:=by
    intro l
    induction l with
    |nil=>intro i h;simp at h
    |cons b l ih=>
     intro i h;cases i with
     |zero=>simp at h;subst h;simp
     |succ i=>
      simp only[WV]at h;have:=ih i h;cases b<;>simp only[YU,Yh]<;>simp<;>simpa using this
   have hf:I.toList[i]? =some false:=by
    simp[Z]at O;simp[Z,O]
   have:=key I.toList i hf;simp only[XO];omega
  simp only[LF]at h;split at h
  .rename_i i hi;have Q:=YP hi;have ag:=YT hi;unfold Du at h;split at h
   .exact h.elim
   .rename_i o ho;refine Ao an U m I a w V hs Q ?_ ?_
    .intro oi j oj bb av O bg bf;have aT:j<J.size:=by
      rcases Wp j J.size with X|X
      .exact X
      .simp [Wm X]at av
     have:=K'.1 ag j (Wv.2 aT);simp only[W7,bb,av,ts]at this;rcases this with((h1|h2)|h3)|h4
     .rw [O]at h1;cases h1
     .exact absurd (V_ h2) bg
     .rw [bf]at h3;cases h3
     .exact ⟨h4.1.1,h4.2⟩
    .exact nM (λa' w' ⟨f',ap,hr⟩=>Ap an U Y m _ f' a' w' (by simpa using V) (hs.set V Q) (count i Q) ap hr) (si Y ho ha h)
  .rename_i a_;refine⟨λhe=>?_,λi hi=>?_⟩
   .exfalso;have O:∃k:Nat,k<J.size/\I.getD k true=false:=by
     have:0< (I.toList.filter (·=false)).length:=by omega
     obtain⟨b,hb⟩:=Zc this;simp only[WC,x7]at hb;obtain⟨k,hk,a8⟩:=List.getElem_of_mem hb.1;refine⟨k,by rw[<- V];simpa using hk,?_⟩;have a6:k<I.size:=by simpa using hk
     have:I[k]=b:=by simpa using a8
     simp[a6,this,hb.2]
    obtain⟨k,⟨hk,az⟩,aa⟩:=exists_least O;simp only[dG,ts]at U;have:k∈Region.ready .any J I:=by
     refine mem_ready.2 ⟨az,J[k],by simp[hk],λe a7 hb=>?_⟩;have ac:=(kJ J.toList 0 U.2 k J[k] (by simp[hk])).2;rw[Wr]at ac;have bu:=fQ _ ac e (by simpa using a7) hb;cases hl:I.getD e.on true with
     |true=>
      have:e.on<I.size:=by omega
      simpa[this]using hl
     |false=>have:=aa e.on ⟨by omega,hl⟩;omega
    rw[he]at this;cases this
   .have:=AH h i hi;unfold Du at this;split at this
    .exact this.elim
    .rename_i o ho;exact nM (λa' w' ⟨f',ap,hr⟩=>Ap an U Y m _ f' a' w' (by simpa using V) (hs.set V hi) (count i hi) ap hr) (si Y ho ha this)
theorem CP{I:Array Oper}{n:Nat}(O:dG I=true)(Q:qK P n I.toList=true){K:Fr->World->Prop}{f:Fr}{a:Act}{w:World}(ha:Ag D n a f)
 (h:Jn P I f w K):jK P I (λa' w'=>∃Z,Ag D n a' Z/\K Z w') I.size (Array.replicate I.size false) a w:=by
 obtain⟨W,X,h⟩:=h;have hs:yF I (Array.replicate I.size false):=λj o ho hl=>by
  have V:j<I.size:=by
   rcases Wp j I.size with Y|Y
   .exact Y
   .simp [Wm Y]at ho
  simp[V]at hl
 refine ON O rfl I.size _ a w (by simp) hs (λ_=>X) ?_;cases J:vB P I with
 |true=>
  rw[J,I6]at h;have U:=FN Q I.toList 0 f a _ (by simp) ha h;exact yn ⟨w,X⟩ J I.size 0 _ a _ (by omega) (by simp) (λj hj=>by simp[hj]) (by simpa using U)
 |false=>
  rw[J,J6]at h;exact Ap ⟨w,X⟩ O Q I.size (Array.replicate I.size false) f a _ (by simp) hs (by simp[Y_]) ha h
def eB(P:Program)(n:Nat):Code->Bool
 | .region _ ops dL=>qK P n ops.toList && (!dL||dG ops)
 | .seq a b=>eB P n a && eB P n b
 | .cond _ a b=>eB P n a && eB P n b
 | .block _ c| .loop c| .scope c=>eB P n c
 | .skip| .label _| .exit _| .ret=>true
 |_=>false
def nE(c:Code)(f I:Fr):Prop:=∀i,jH (uE c) i=none->I i=f i
theorem gC:∀ (l l':List (Nat × TypeId)) (i:Nat),jH (l++l') i=none↔jH l i=none/\jH l' i=none
 | [],l',i=>by simp[jH]
 | (d,t)::l,l',i=>by
   simp only[Yg,jH];cases Nat.beq d i with
   |true=>simp
   |false=>simp only[J6];exact gC l l' i
theorem nW{I:Array Oper}{K O:Act->World->Prop}:∀ (l:List Nat) (a:Act) (w:World),(∀a w,K a w->O a w)->rS P I K l a w->rS P I O l a w
 | [],_,_,h,J=>h _ _ J
 |_::l,_,_,h,J=>fx (λa w=>nW l a w h) J
theorem oQ{l:List (Nat × TypeId)}{i d:Nat}{t:TypeId}(h:jH l i=none)(hm:(d,t)∈l):i≠d:=by
 induction l with
 |nil=>cases hm
 |cons x l I=>
  obtain⟨J,Q⟩:=x;simp only[jH]at h;cases hb:Nat.beq J i with
  |true=>rw[hb]at h;cases h
  |false=>
   rw[hb,J6]at h;rcases V'.1 hm with he|hm
   .injection he with h1 O;subst h1;intro he;rw[he,Zi]at hb;cases hb
   .exact I h hm
theorem mj{I:Array Oper}{K:Act->World->Prop}{ds:List (Nat × TypeId)}(J:∀ (j:Nat) (o:Oper) (d:Nat),I[j]? =some o->o.dst=some d->(d,o.type)∈ds):
 ∀ (l:List Nat) (a:Act) (w:World),rS P I K l a w->rS P I (λQ w'=>K Q w'/\∀i,jH ds i=none->Q.tmps.getD i undef=a.tmps.getD i undef) l a w
 | [],a,w,h=>⟨h,λ_ _=>rfl⟩
 |k::l,a,w,h=>by
  change xB P I k (rS P I K l) a w at h;change xB P I k (rS P I _ l) a w;unfold xB at h ⊢;cases V:I[k]? with
  |none=>
   simp only[V]at h ⊢;exact mj J l a w h
  |some o=>
   simp only[V]at h ⊢;refine uY (λv w' Y=>?_) h;refine nW l _ _ (λQ aa ⟨X,hi⟩=>⟨X,λi O=>?_⟩) (mj J l _ w' Y);rw[hi i O];cases Z:o.dst with
   |none=>rfl
   |some d=>
    have U:=oQ O (J k o d V Z);simp[Act.put,XS (WL U)]
theorem nP{O:Array Oper}{K Q:Act->World->Prop}:∀ (m:Nat) (I:Array Bool) (a:Act) (w:World),(∀a w,K a w->Q a w)->jK P O K m I a w->jK P O Q m I a w
 |0,_,_,_,h,J=>⟨J.1,h _ _ J.2⟩
 |m+1,_,_,_,h,J=>⟨λhe=>h _ _ (J.1 he),λi hi=>fx (λa w=>nP m _ a w h) (J.2 i hi)⟩
theorem mB{J:Array Oper}{K:Act->World->Prop}{ds:List (Nat × TypeId)}(Q:∀ (j:Nat) (o:Oper) (d:Nat),J[j]? =some o->o.dst=some d->(d,o.type)∈ds):
 ∀ (m:Nat) (I:Array Bool) (a:Act) (w:World),jK P J K m I a w->jK P J (λZ w'=>K Z w'/\∀i,jH ds i=none->Z.tmps.getD i undef=a.tmps.getD i undef) m I a w
 |0,_,a,w,h=>⟨h.1,h.2,λ_ _=>rfl⟩
 |m+1,I,a,w,h=>by
  refine⟨λhe=>⟨h.1 he,λ_ _=>rfl⟩,λk V=>?_⟩;have O:=h.2 k V;unfold xB at O ⊢;cases Y:J[k]? with
  |none=>
   simp only[Y]at O ⊢;exact mB Q m _ a w O
  |some o=>
   simp only[Y]at O ⊢;refine uY (λv w' O=>?_) O;refine nP m _ _ _ (λZ ac ⟨V,hi⟩=>⟨V,λi U=>?_⟩) (mB Q m _ _ w' O);rw[hi i U];cases hd:o.dst with
   |none=>rfl
   |some d=>
    have X:=oQ U (Q k o d Y hd);simp[Act.put,XS (WL X)]
theorem AE{I:Array Oper}{id:Nat}{Q:Exit->Act->World->Prop}{a:Act}{w:World}(hm:P.follows .mixedOrders=true)
 (h:jK P I (λa w=>Q .normal a w) I.size (Array.replicate I.size false) a w.drew):(Code.region id I true).wp P Q a w:=
 wp_region_any hm (uJ (K:=λa w=>Q .normal a w) (λ_ _ h=>h) _ _ _ _ h)
theorem yb(f:Fr):∀ (as:List (Nat × TypeId)) (i:Nat),cY as (qX f as) i=if i∈as.map (·.1) then some (f i) else none
 | [],i=>by simp[cY]
 | (a,t)::as,i=>by
   simp only[qX,cY];cases hb:Nat.beq i a with
   |true=>
    obtain rfl:=V_ hb;simp
   |false=>
    have J:i≠a:=λhe=>by rw[he,Zi]at hb;cases hb
    rw[J6,yb f as i];have I:(i∈((a,t)::as).map (·.1))↔i∈as.map (·.1):=by
     rw[Xj,V'];exact⟨λh=>h.resolve_left J,Or.inr⟩
    by_cases hm:i∈as.map (·.1)
    .rw [v8 hm,v8 (I.2 hm)]
    .rw [r8 hm,r8 (λh=>hm (I.1 h))]
theorem nS{c:Code}{as:List (Nat × TypeId)}{f I:Fr}(h:nE c f I):Rj c as (qX I as) f I=I:=by
 funext i;unfold Rj;rw[yb];by_cases hm:i∈as.map (·.1)
 .rw [v8 hm]
 .rw [r8 hm];show (bif (jH (uE c) i).isNone then f i else I i)=I i;cases J:jH (uE c) i with
  |none=>exact(h i J).symm
  |some t=>rfl
theorem nE.seq{a b:Code}{f g h:Fr}(h1:nE a f g)(I:nE b g h):nE (.seq a b) f h:=λi hi=>by
 obtain⟨ha,hb⟩:=(gC _ _ _).1 hi;rw[I i hb,h1 i ha]
theorem nE.left{a b:Code}{f g:Fr}(h1:nE a f g):nE (.seq a b) f g:=λi hi=>h1 i ((gC _ _ _).1 hi).1
theorem CS{R:Type}(b:Bk){I:Kz b R}{v:Value}{C:R->Prop}(h:Ic b I v C):∃r,C r/\∀J:R->Prop,J r->Ic b I v J:=by
 cases b<;>simp only[Ic]at h ⊢
 case int k=>
  split at h
  .rename_i U n';cases Q:k==U with
   |false=>rw[Q]at h;exact h.elim
   |true=>rw[Q,I6]at h;exact⟨_,h,λJ O=>O⟩
  .exact h.elim
 case any=>exact⟨_,h,λJ O=>O⟩
 all_goals
  split at h
  .exact ⟨_,h,λJ O=>O⟩
  .exact h.elim
theorem HM{R:Type}(l:List Bk):∀ {I:CC l R} {vs:List Value} {C:R->Prop},CB l I vs C->∃r,C r/\∀J:R->Prop,J r->CB l I vs J:=by
 induction l with
 |nil=>
  intro I vs C h;cases vs with
  |nil=>exact⟨_,h,λJ O=>O⟩
  |cons=>exact h.elim
 |cons b l ih=>
  intro I vs C h;cases vs with
  |nil=>exact h.elim
  |cons v vs=>
   obtain⟨r,h1,Q⟩:=CS b h;obtain⟨X,Y,V⟩:=ih h1;exact⟨X,Y,λJ O=>Q (λU=>CB l U vs J) (V J O)⟩
theorem Kq{R:Type}(k:Vk){I:OD k R}{v:Value}{C:R->Prop}(h:uv k I v C):∃r,C r/\∀J:R->Prop,J r->uv k I v J:=by
 cases k with
 |bP b=>exact CS b h
 |agg l=>
  simp only[uv]at h ⊢;split at h
  .obtain ⟨r,h1,O⟩:=HM l h;exact⟨r,h1,λJ Q=>O J Q⟩
  .exact h.elim
theorem qZ{R:Type}(l:List Vk):∀ {I:Bq l R} {vs:List Value} {C:R->Prop},ui l I vs C->∃r,C r/\∀J:R->Prop,J r->ui l I vs J:=by
 induction l with
 |nil=>
  intro I vs C h;cases vs with
  |nil=>exact⟨_,h,λJ O=>O⟩
  |cons=>exact h.elim
 |cons b l ih=>
  intro I vs C h;cases vs with
  |nil=>exact h.elim
  |cons v vs=>
   obtain⟨r,h1,Q⟩:=Kq b h;obtain⟨X,Y,V⟩:=ih h1;exact⟨X,Y,λJ O=>Q (λU=>ui l U vs J) (V J O)⟩
theorem jq(hm:P.follows .mixedOrders=true){n:Nat}(c:Code):∀ {ann:te} {f:Fr} {w:World} {Q:MF} {a:Act},eB P n c=true->Ag D n a f->ux P c ann f w Q->
 c.wp P (λe a' w'=>∃U,Ag D n a' U/\Q e U w'/\nE c f U) a w:=by
 induction c with
 |skip=>intro ann f w Q a _ ha h;exact wp_skip ⟨f,ha,h,λ_ _=>rfl⟩
 |label l=>intro ann f w Q a _ ha h;exact wp_label ⟨f,ha,h,λ_ _=>rfl⟩
 |exit id=>intro ann f w Q a _ ha h;exact wp_exit ⟨f,ha,h,λ_ _=>rfl⟩
 |ret=>intro ann f w Q a _ ha h;exact wp_ret ⟨f,ha,h,λ_ _=>rfl⟩
 |goto l=>intro ann f w Q a h;cases h
 |refuse y=>intro ann f w Q a h;cases h
 |rangeFunc g ps x y=>intro ann f w Q a h;cases h
 |region id X dL=>
  intro ann f w Q a Y ha h;simp only[eB,ts]at Y;have ar:∀ (j:Nat) (o:Oper) (d:Nat),X[j]? =some o->o.dst=some d->(d,o.type)∈uE (.region id X dL):=λj o d ho hd=>by
   simp only[uE,Yw];refine⟨o,?_,by rw[hd];rfl⟩;exact YH.2 (Y9 ho)
  have eh:∀a' w',((∃U,Ag D n a' U/\Q .normal U w')/\∀i,jH (uE (.region id X dL)) i=none->a'.tmps.getD i undef=a.tmps.getD i undef)->
   ∃U,Ag D n a' U/\Q .normal U w'/\nE (.region id X dL) f U:=by
   rintro a' w'⟨⟨U,O,hq⟩,hi⟩;exact⟨U,O,hq,λi bu=>by rw[<- O.2.2,hi i bu,ha.2.2]⟩
  cases dL with
  |false=>
   have ap:=u5 Y.1 X.toList 0 f a _ (by simp) ha h;have V:=mj ar _ _ _ ap;rw[X7]at V;exact Ds (nW _ _ _ eh V)
  |true=>
   have av:dG X=true:=by simpa using Y.2
   simp only[ux,I6]at h;cases bf:ann.drawn with
   |true=>
    rw[bf,I6]at h;exact AE hm (nP _ _ _ _ eh (mB ar _ _ _ _ (CP av Y.1 ha h)))
   |false=>
   simp only[bf,J6,GX]at h;cases an:qT P X with
   |true=>
    rw[an,I6]at h;have ap:=u5 Y.1 X.toList 0 f a _ (by simp) ha h;have V:=mj ar _ _ _ ap;rw[X7]at V;exact Fy hm an (nW _ _ _ eh V)
   |false=>
    rw[an,J6]at h;have a8:=ze av Y.1 X.size (Array.replicate X.size false) f a _ (by simp) (λj o ho hl=>by
     have bk:j<X.size:=by
      rcases Wp j X.size with h'|h'
      .exact h'
      .simp [Wm h']at ho
     simp[bk]at hl) (by simp[Y_]) ha h
    have V:=mB ar _ _ _ _ a8;exact AE hm (nP _ _ _ _ eh V)
 |seq x y ihx ihy=>
  intro ann f w Q a Y ha h;simp only[eB,ts]at Y;simp only[ux]at h;refine wp_seq ?_;cases aw:ann.Mx with
  |none=>
   simp only[aw]at h;refine wp_mono (ihx Y.1 ha h) λe a' w' ⟨U,O,hq,V⟩=>?_;cases e with
   |normal=>exact wp_mono (ihy Y.2 O hq) λe a_ ax ⟨ac,Z,az,ay⟩=>⟨ac,Z,az,V.seq ay⟩
   |_=>exact⟨U,O,hq,V.left⟩
  |some as=>
   simp only[aw]at h;obtain⟨J,h1,h2⟩:=h;refine wp_mono (ihx Y.1 ha h1) λe a' w' ⟨U,O,hq,V⟩=>?_;cases e with
   |normal=>
    obtain⟨r,hr,ag⟩:=p8 _ hq h2;have:=ag w' U hr;rw[nS V]at this;exact wp_mono (ihy Y.2 O this) λe a_ ax ⟨ac,Z,az,ay⟩=>⟨ac,Z,az,V.seq ay⟩
   |_=>exact⟨U,O,hq,V.left⟩
 |cond o x y ihx ihy=>
  intro ann f w Q a Y ha h;simp only[eB,ts]at Y;simp only[ux]at h;split at h
  .rename_i t ht;have bi:a.eval o=.bool t:=by rw[ha.eval];exact ht
   cases t with
   |true=>
    refine wp_cond_true bi (wp_mono (ihx Y.1 ha h) λe a' w' ⟨U,O,hq,V⟩=>⟨U,O,hq,λi hi=>V i ((gC _ _ _).1 hi).1⟩)
   |false=>
    refine wp_cond_false bi (wp_mono (ihy Y.2 ha h) λe a' w' ⟨U,O,hq,V⟩=>⟨U,O,hq,λi hi=>V i ((gC _ _ _).1 hi).2⟩)
  .exact h.elim
 |block id x ih=>
  intro ann f w Q a Y ha h;refine wp_block (wp_mono (ih Y ha h) λe a' w' ⟨U,O,hq,V⟩=>?_);cases e with
  |exit i=>
   simp only[Exit.inBlock];simp only at hq;cases hb:Nat.beq i id with
   |true=>
    obtain rfl:=V_ hb;rw[hb,I6]at hq;rw[v8 rfl];exact⟨U,O,hq,V⟩
   |false=>
    rw[hb,J6]at hq;rw[r8 (λhe=>by rw[he,Zi]at hb;cases hb)];exact⟨U,O,hq,V⟩
  |_=>exact⟨U,O,hq,V⟩
 |scope x ih=>
  intro ann f w Q a Y ha h;refine wp_scope_straight (wp_mono (ih Y ha h) λe a' w' ⟨U,O,hq,V⟩=>?_);cases e with
  |goto l=>exact hq.elim
  |_=>exact⟨U,O,hq,V⟩
 |loop x ih=>
  intro ann f w Q a Y ha h;simp only[ux]at h;obtain⟨I,h1,h2⟩:=h;have b3:=qZ _ h1;obtain⟨r0,⟨k0,bx⟩,aT⟩:=b3;refine wp_loop_ghost (λk a' w'=>∃U:Fr,Ag D n a' U/\nE x f U/\ui (mH P ann.zx) I (qX U ann.zx) λr=>r w' k) k0 ⟨f,ha,λ_ _=>rfl,aT (λr=>r w k0) bx⟩ ?_;intro k a' w' ⟨U,O,bg,hI⟩;obtain⟨r,hr,ag⟩:=p8 _ hI h2;have hb:=ag w' k U hr;rw[nS bg]at hb;refine wp_mono (ih Y O hb) λe a_ ax ⟨ac,Z,hq,V⟩=>?_;have a7:nE x f ac:=λi hi=> (V i hi).trans (bg i hi);cases e with
  |normal=>
   obtain⟨r',⟨k',bn,b5⟩,bb⟩:=qZ _ hq;exact⟨k',bn,ac,Z,a7,bb (λr=>r ax k') b5⟩
  |_=>exact⟨ac,Z,hq,a7⟩
theorem nN:∀ {rs:List ResultVar} {f:Fr} {a:Act} {n:Nat} {w:World} {K:List Value->Prop},Ag D n a f->Ay P rs f w K->
 ∃vs,(rs.mapM λ(x:ResultVar)=>match x with| .tmp t=> (pure (a.tmps.getD t undef):Sem Value)| .cell b t=>do loadVar t (<- asAddr (a.tmps.getD b undef))).run P w=.ok vs w/\K vs
 | [],_,_,_,_,_,_,h=>⟨[],rfl,h⟩
 | .tmp t::l,f,a,n,w,K,ha,h=>by
   obtain⟨vs,hr,I⟩:=nN (rs:=l) ha h;refine⟨_,?_,I⟩;simp only[Zo,Sem.run_bind,Sem.run_pure,Result.andThen_ok,hr];rw[ha.2.2]
 | .cell b t::l,f,a,n,w,K,ha,h=>by
   simp only[Ay]at h;split at h
   .rename_i p hp;obtain⟨v,hv,h⟩:=F4 h;obtain⟨vs,hr,I⟩:=nN (rs:=l) ha h;refine⟨_,?_,I⟩;simp only[Zo,Sem.run_bind];rw[ha.2.2,hp];rw[show (asAddr (.pointer (some p))).run P w=.ok p w from rfl];simp only[Result.andThen_ok,hv,hr,Sem.run_pure]
   .exact h.elim
theorem sA:∀ (args:List Value) (i:Nat),rP args i=args.getD i undef
 | [],i=>by simp[rP]
 |v::vs,0=>by simp[rP]
 |v::vs,i+1=>by simp[rP,sA vs i]
def Kg(P:Program)(fn:Func)(args:Nat):Bool:=
 match fn.body with
 |none=>false
 |some c=>eB P fn.ntmps c && Nat.ble args fn.ntmps
theorem DC(hm:P.follows .mixedOrders=true){f:FuncId}{fn:Func}(hf:P.funcs[f]? =some fn){ann:te}{args:List Value}{w:World}{K:Value->World->Prop}
 (I:Kg P fn args.length=true) (h:TM P fn ann args w K):Calls P f args.toArray w λe w'=>∃v,e=.returned v/\K v w':=by
 unfold TM at h;unfold Kg at I;split at h
 .exact h.elim
 .rename_i c hb;rw[hb]at I;simp only[ts]at I;have U:args.length<=fn.ntmps:=by simpa using I.2
  refine calls_of_wp hf hb ?_;have ha:Ag [] fn.ntmps {tmps:=args.toArray++Array.replicate (fn.ntmps - args.toArray.size) undef,defers:= []} (rP args):=by
   refine⟨by simp;omega,rfl,λi=>?_⟩;rw[sA];simp only[X',vx];by_cases hi:i<args.length
   .rw [Xc (by simpa using hi)];simp
   .rw [Ya (by simpa using hi)];rw[W6 (by omega)];rw[Yo];split<;>rfl
  refine wp_mono (jq hm c I.1 ha h) λe O w' ⟨Q,J,hq,_⟩=>?_;have eh:Ay P fn.results.toList Q w' (λvs=>K (jn vs) w')->O.defers= []/\∃v,(results fn O.tmps).run P w'=.ok v w'/\∃u,Ending.returned v=.returned u/\K u w':=by
   intro hr;obtain⟨vs,hv,V⟩:=nN J hr;refine⟨J.2.1,jn vs,?_,_,rfl,V⟩;unfold results;rw[XU];simp only[Sem.run_bind,Sem.run_map];refine(congrArg (λr=>Result.andThen (Result.andThen r _) _) hv).trans ?_;simp only[Result.andThen_ok,Sem.run_pure]
   match vs with
   | []=>simp[jn]
   | [v]=>simp[jn]
   |u::v::l=>simp[jn]
  cases e with
  |normal=>exact eh hq
  |ret=>exact eh hq
  |_=>exact hq.elim
theorem MT{P:Program}(hm:P.follows .mixedOrders=true){f:FuncId}{fn:Func}(hf:P.funcs[f]? =some fn){ann:te}{args:List Value}{n:Nat}(I:Kg P fn n=true)(hn:args.length=n)
 {w:World} {F:(Value->World->Prop)->Prop} (he:∀K,TM P fn ann args w K=F K) {R:Ending->World->Prop} (h:F λv w'=>R (.returned v) w'):Calls P f args.toArray w R:=by
 subst hn;refine(DC hm hf I (Eq.mpr (he _) h)).mono ?_;rintro e w'⟨v,rfl,J⟩;exact J
