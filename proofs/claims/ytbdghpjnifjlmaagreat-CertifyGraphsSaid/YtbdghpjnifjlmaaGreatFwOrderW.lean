/- A statement whose order is open, where reads hold in all worlds of a kind: only the orders of acts count. -/
import Derived.Test.YtbdghpjnifjlmaaGreatFwOrder2
set_option linter.all false
namespace Go.Fw
open Go
variable{P:Program}{ops:Array Oper}{W:World->Prop}{B:List Nat}
def ub(P:Program)(W:World->Prop)(keep:Bool)(k:Nat)(s:Sem Next)(w:World)(K:Value->World->Prop):Prop:=
 match k with
 |0=>∃v,(∀u,s.run P u=.ok (.value v) u)/\K v w
 |1=>∃v,(∀u,W u->s.run P u=.ok (.value v) u)/\K v w
 |_+2=>lK P (λv w'=> (keep=true->W w')/\K v w') (s.run P w)
theorem Ba{keep:Bool}{k:Nat}{s:Sem Next}{w:World}{K O:Value->World->Prop}(h:∀v w,K v w->O v w)(J:ub P W keep k s w K):ub P W keep k s w O:=by
 match k with
 |0=>obtain⟨v,h1,I⟩:=J;exact⟨v,h1,h _ _ I⟩
 |1=>obtain⟨v,h1,I⟩:=J;exact⟨v,h1,h _ _ I⟩
 |_+2=>exact l9 (λv w' ⟨a,b⟩=>⟨a,h _ _ b⟩) J
def oY(P:Program)(ops:Array Oper)(W:World->Prop)(keep:Bool)(o:Oper)(a:Act)(w:World)(K:Value->World->Prop):Prop:=
 if Region.wanted o (yielded ops a.tmps)=true then ub P W keep (bF P o) (execOp a.eval o) w K else K undef w
theorem D'{keep:Bool}{o:Oper}{a:Act}{w:World}{K:Value->World->Prop}(I:Region.wanted o (yielded ops a.tmps)=true)(h:ub P W keep (bF P o) (execOp a.eval o) w K):oY P ops W keep o a w K:=by
 unfold oY;rw[v8 I];exact h
theorem CF{keep:Bool}{o:Oper}{a:Act}{w:World}{K O:Value->World->Prop}(h:∀v w,K v w->O v w)(I:oY P ops W keep o a w K):oY P ops W keep o a w O:=by
 unfold oY at*
 split
 .rename_i J;rw[v8 J]at I;exact Ba h I
 .rename_i J;rw[r8 J]at I;exact h _ _ I
def lh(P:Program)(ops:Array Oper)(W:World->Prop)(o:Oper)(a:Act)(v:Value):Prop:=
 (Region.wanted o (yielded ops a.tmps)=true/\bF P o<=1/\∀u,(bF P o=1->W u)->(execOp a.eval o).run P u=.ok (.value v) u)\/
 (Region.wanted o (yielded ops a.tmps)=false/\v=undef)
theorem lh.bP(O:∃u,W u){o:Oper}{a:Act}{u v:Value}(h:lh P ops W o a u)(g:lh P ops W o a v):u=v:=by
 obtain⟨w0,J⟩:=O;rcases h with⟨h1,Q,X⟩| ⟨h1,Q⟩<;>rcases g with⟨I,U,V⟩| ⟨I,U⟩
 .have:=(X w0 λ_=>J).symm.trans (V w0 λ_=>J);injection this with this;injection this
 .rw [h1]at I;cases I
 .rw [h1]at I;cases I
 .rw [Q,U]
theorem lh.tS{keep:Bool}{o:Oper}{a:Act}{v:Value}{w:World}{K:Value->World->Prop}(h:lh P ops W o a v)(I:K v w):oY P ops W keep o a w K:=by
 unfold oY;rcases h with⟨h1,O,J⟩| ⟨h1,rfl⟩
 .rw [v8 h1]
  match hq:bF P o with
  |0=>exact⟨v,λu=>J u (λhe=>by rw[hq]at he;cases he),I⟩
  |1=>exact⟨v,λu hu=>J u (λ_=>hu),I⟩
  |n+2=>omega
 .rw [r8 (by simp[h1])];exact I
theorem lh.tJ{o:Oper}{v:Value}{a I:Act}(J:lh P ops W o a v)(he:execOp I.eval o=execOp a.eval o)
 (O:Region.wanted o (yielded ops I.tmps)=Region.wanted o (yielded ops a.tmps)):lh P ops W o I v:=by
 unfold lh at*
 rw[he,O];exact J
theorem uA{keep:Bool}{o:Oper}{a:Act}{w:World}{K:Value->World->Prop}(h:oY P ops W keep o a w K):
 (∃v,lh P ops W o a v/\K v w)\/
 (Region.wanted o (yielded ops a.tmps)=true/\2<=bF P o/\lK P (λv w'=> (keep=true->W w')/\K v w') ((execOp a.eval o).run P w)):=by
 unfold oY at h;by_cases I:Region.wanted o (yielded ops a.tmps)=true
 .rw [v8 I]at h
  match hk:bF P o with
  |0=>rw[hk]at h;obtain⟨v,h1,J⟩:=h;exact .inl ⟨v,.inl ⟨I,by omega,λu _=>h1 u⟩,J⟩
  |1=>rw[hk]at h;obtain⟨v,h1,J⟩:=h;exact .inl ⟨v,.inl ⟨I,by omega,λu hu=>h1 u (hu hk)⟩,J⟩
  |k+2=>rw[hk]at h;exact .inr ⟨I,by omega,h⟩
 .rw [r8 I]at h;exact .inl ⟨undef,.inr ⟨by simpa using I,rfl⟩,h⟩
theorem Kw{keep:Bool}{o:Oper}{a:Act}{w:World}{K:Value->World->Prop}(h:oY P ops W keep o a w K):∃v w,K v w:=by
 rcases uA h with⟨v,_,h⟩| ⟨_,_,h⟩
 .exact ⟨_,_,h⟩
 .obtain ⟨v,w,_,h⟩:=qQ h;exact⟨v,w,h⟩
def qo(P:Program)(ops:Array Oper)(W:World->Prop)(B:List Nat)(i:Nat)(K:Act->World->Prop)(a:Act)(w:World):Prop:=
 match ops[i]? with
 |none=>K a w
 |some o=>oY P ops W (vR P ops B i) o a w λv w'=>K (a.put o.dst v) w'
theorem nM{i:Nat}{K O:Act->World->Prop}{a:Act}{w:World}(h:∀a w,K a w->O a w)(I:qo P ops W B i K a w):qo P ops W B i O a w:=by
 unfold qo at*
 split
 .rename_i J;rw[J]at I;exact h _ _ I
 .rename_i o J;rw[J]at I;exact CF (λv w=>h _ _) I
theorem K3{i:Nat}{K:Act->World->Prop}{a:Act}{w:World}(I:qo P ops W B i K a w):∃J w',K J w':=by
 unfold qo at I;split at I
 .exact ⟨_,_,I⟩
 .obtain ⟨v,w,h⟩:=Kw I;exact⟨_,_,h⟩
theorem TU(av:∃u,W u){i j:Nat}{I J:Oper}(hi:ops[i]? =some I)(hj:ops[j]? =some J)(aw:I.apart ops J=true)(hk:oN P I J=true)
 (an:∀cs b,I.op≠ .select cs b) (aa:∀cs b,J.op≠ .select cs b) {K:Act->World->Prop} {a:Act} {w:World}
 (h:qo P ops W B i (qo P ops W B j K) a w):qo P ops W B j (qo P ops W B i K) a w:=by
 obtain⟨h1,h2,h3⟩:=Oper.apart_spec aw;have ei:∀ (a:Act) u,execOp (a.put J.dst u).eval I=execOp a.eval I:=λa u=>execOp_put I an a J.dst u h3;have ej:∀ (a:Act) u,execOp (a.put I.dst u).eval J=execOp a.eval J:=λa u=>execOp_put J aa a I.dst u h1;have wi:∀ (a:Act) u,Region.wanted I (yielded ops (a.put J.dst u).tmps)=Region.wanted I (yielded ops a.tmps):=λa u=>wanted_put I a J.dst u h3;have wj:∀ (a:Act) u,Region.wanted J (yielded ops (a.put I.dst u).tmps)=Region.wanted J (yielded ops a.tmps):=λa u=>wanted_put J a I.dst u h1;have cm:∀ (v u:Value),(a.put I.dst v).put J.dst u=(a.put J.dst u).put I.dst v:=λv u=>Act.put_comm a v u h2;unfold qo at*
 simp only[hi,hj]at*
 have V:∀ {kp:Bool} {v:Value} {w:World} {L:Value->World->Prop},oY P ops W kp J (a.put I.dst v) w L->oY P ops W kp J a w L:=by
  intro kp v w L Q;unfold oY at*
  rw[ej,wj]at Q;exact Q
 have U:∀ {kp:Bool} {u:Value} {w:World} {L:Value->World->Prop},oY P ops W kp I a w L->oY P ops W kp I (a.put J.dst u) w L:=by
  intro kp u w L Q;unfold oY at*
  rw[ei,wi];exact Q
 rcases uA h with⟨v,hp,Z⟩| ⟨ag,a8,hU⟩
 ·
  refine CF (λu w' hk=>?_) (V Z);refine(hp.tJ (ei a u) (wi a u)).tS ?_;rw[<- cm];exact hk
 ·
  have O:∀ {v:Value} {w:World} {kp:Bool} {L:Value->World->Prop},oY P ops W kp J (a.put I.dst v) w L->∃u,lh P ops W J a u/\L u w:=by
   intro v w kp L Q;rcases uA Q with⟨u,ac,hL⟩| ⟨a',a_,_⟩
   .exact ⟨u,ac.tJ (ej a v).symm (wj a v).symm,hL⟩
   .exfalso;simp only[oN,W7,Nat.ble_eq]at hk;omega
  obtain⟨v0,w0,_,ap⟩:=qQ hU;obtain⟨u0,Y,_⟩:=O ap;refine Y.tS ?_;refine U ?_;unfold oY;rw[v8 ag];have X:lK P (λv w'=> (vR P ops B i=true->W w')/\K ((a.put J.dst u0).put I.dst v) w') ((execOp a.eval I).run P w):=by
   refine l9 (λv w' Q=>?_) hU;obtain⟨u,hp,Z⟩:=O Q.2;rw[<- Y.bP av hp,cm]at Z;exact⟨Q.1,Z⟩
  match hq:bF P I with
  |0=>omega
  |1=>omega
  |_+2=>exact X
def uI(P:Program)(ops:Array Oper)(W:World->Prop)(B:List Nat)(K:Act->World->Prop):Nat->Array Bool->Act->World->Prop
 |0,I,a,w=>Region.ready .any ops I= []/\K a w
 |fuel+1,I,a,w=>
  (Region.ready .any ops I= []->K a w)/\
  ∀i∈Region.ready .any ops I,qo P ops W B i (uI P ops W B K fuel (I.setIfInBounds i true)) a w
theorem Tq{i:Nat}{o:Oper}(U:ops[i]? =some o){K:Act->World->Prop}{a:Act}{w:World}(Q:bF P o=1->W w)(h:qo P ops W B i K a w):
 xB P ops i (λV w'=> (w'=w\/(2<=bF P o/\(vR P ops B i=true->W w')))/\K V w') a w:=by
 unfold qo at h;unfold xB;simp only[U]at h ⊢;unfold oY at h;unfold tS;by_cases O:Region.wanted o (yielded ops a.tmps)=true
 .rw [v8 O]at h ⊢
  match hk:bF P o with
  |0=>rw[hk]at h;obtain⟨v,h1,I⟩:=h;exact⟨v,h1,.inl rfl,I⟩
  |1=>rw[hk]at h;obtain⟨v,h1,I⟩:=h;exact⟨v,h1 w (Q hk),.inl rfl,I⟩
  |k+2=>
   rw[hk]at h;exact l9 (λv w' J=>⟨.inr ⟨by omega,J.1⟩,J.2⟩) h
 .rw [r8 O]at h ⊢;exact⟨.inl rfl,h⟩
theorem ON(O:dG ops=true)(hB:B=mV ops.toList []){K:Act->World->Prop}:∀ (fuel:Nat) (I:Array Bool) (a:Act) (w:World),I.size=ops.size->yF ops I->
 ((∃ (k:Nat) (o:Oper),ops[k]? =some o/\bF P o=1/\I.getD k true=false)->W w)->
 uI P ops W B K fuel I a w->jK P ops K fuel I a w
 |0,_,_,_,_,_,_,h=>h
 |fuel+1,I,a,w,hsz,hs,hW,h=>by
  have Q:=O;simp only[dG,ts]at Q;obtain⟨aT,U⟩:=Q;refine⟨h.1,λi hi=>?_⟩;obtain⟨ag,o,ho,Z⟩:=mem_ready.1 hi;refine fx (λa' w' hh=>ON O hB fuel _ a' w' (by simpa using hsz) (hs.set hsz hi) ?_ hh.2) (Tq ho (λhk=>hW ⟨i,o,ho,hk,ag⟩) (h.2 i hi));rintro⟨k,ok,O,Y,J⟩;have aa:k≠i:=by
   rintro rfl;have ac:k<I.size:=by
    rcases Wp k ops.size with X|X
    .omega
    .simp [Wm X]at O
   rw[mG ac]at J;cases J
  rw[getD_set_ne true (WL aa)]at J;rcases hh.1 with he| ⟨h2,V⟩
  .rw [he];exact hW ⟨k,ok,O,Y,J⟩
  .refine V ?_;have an:k<ops.size:=by
    rcases Wp k ops.size with X|X
    .exact X
    .simp [Wm X]at O
   have ar:(B.getD i 0).testBit k=false:=by
    cases hb:(B.getD i 0).testBit k with
    |false=>rfl
    |true=>
     rw[hB]at hb;have:=nj U hs hsz i o ho (λe he ap=>Z e (by simpa using he) ap) hb;have aw:k<I.size:=by omega
     simp[aw]at this J;rw[this]at J;cases J
   unfold vR;refine Xk.2 ⟨k,Wv.2 an,?_⟩;simp only[O,ar,ZD,XI];rw[Y];rfl
theorem vK{x:Oper}{i:Nat}:∀ (l:List Oper) (k:Nat),yU P ops x i B k l=true->∀j y,l[j]? =some y->
 (B.getD (k+j) 0).testBit i=true\/(x.apart ops y=true/\oN P x y=true)
 | [],_,_,j,y,h=>by simp at h
 |z::l,k,h,j,y,hy=>by
  simp only[yU,ts,W7]at h;cases j with
  |zero=>
   simp only[X3,Wu]at hy;subst hy;exact h.1
  |succ j=>
   simp only[WV]at hy;rw[show k+ (j+1)=k+1+j from by omega];exact vK l (k+1) h.2 j y hy
theorem tW:∀ (l:List Oper) (k:Nat),u6 P ops B k l=true->∀i j x y,l[i]? =some x->l[j]? =some y->i<j->
 (B.getD (k+j) 0).testBit (k+i)=true\/(x.apart ops y=true/\oN P x y=true)
 | [],_,_,i,j,x,y,h,_,_=>by simp at h
 |z::l,k,h,i,j,x,y,hx,hy,hij=>by
  simp only[u6,ts]at h;cases j with
  |zero=>omega
  |succ j=>
   simp only[WV]at hy;cases i with
   |zero=>
    simp only[X3,Wu]at hx;subst hx;have:=vK l (k+1) h.1 j y hy;rw[show k+ (j+1)=k+1+j from by omega];exact this
   |succ i=>
    simp only[WV]at hx;have:=tW l (k+1) h.2 i j x y hx hy (by omega);rw[show k+ (j+1)=k+1+j from by omega,show k+ (i+1)=k+1+i from by omega];exact this
theorem Ao(bb:∃u,W u)(av:dG ops=true){K:Act->World->Prop}{i:Nat}:
 ∀ (fuel:Nat) (I:Array Bool) (a:Act) (w:World),I.size=ops.size->yF ops I->i∈Region.ready .any ops I->
   (∀ (oi:Oper) (j:Nat) (oj:Oper),ops[i]? =some oi->ops[j]? =some oj->I.getD j true=false->j≠i->((mV ops.toList []).getD j 0).testBit i=false->oi.apart ops oj=true/\oN P oi oj=true)->
   qo P ops W B i (uI P ops W B K fuel (I.setIfInBounds i true)) a w->uI P ops W B K (fuel+1) I a w:=by
 simp only[dG,ts]at av;obtain⟨a_,ac⟩:=av;have Z:=Region.noSelect_spec a_;intro fuel
 induction fuel with
 |zero=>
  intro I a w V hs hr hp H;refine⟨λh=> (by rw[h]at hr;cases hr),λj hj=>?_⟩;by_cases J:j=i
  .subst J;exact H
  .obtain ⟨a',w',h,_⟩:=K3 H;have:=ready_mono hj J;rw[h]at this;cases this
 |succ fuel ih=>
  intro I a w V hs hr hp H;refine⟨λh=> (by rw[h]at hr;cases hr),λj hj=>?_⟩;by_cases J:j=i
  .subst J;exact H
  .obtain ⟨az,oi,Q,bi⟩:=mem_ready.1 hr;obtain⟨X,oj,U,ag⟩:=mem_ready.1 hj;have a7:∀ {x:Nat} {o:Oper},ops[x]? =some o->x<I.size:=λ{x o} h=>by
    rcases Wp x ops.size with h'|h'
    .omega
    .simp [Wm h']at h
   have bf:I.getD i false=false:=by have:=a7 Q;simpa[this]using az
   have bg:((mV ops.toList []).getD j 0).testBit i=false:=by
    cases hb:((mV ops.toList []).getD j 0).testBit i with
    |false=>rfl
    |true=>
     have:=nj ac hs V j oj U (λe he a8=>ag e (by simpa using he) a8) hb;rw[bf]at this;cases this
   have O:=hp oi j oj Q U X J bg;have h1:qo P ops W B i (qo P ops W B j (uI P ops W B K fuel ((I.setIfInBounds i true).setIfInBounds j true))) a w:=
    nM (λa w h=>h.2 j (ready_mono hj J)) H
   have h2:=TU bb Q U O.1 O.2 (λcs b=>Z i oi cs b Q) (λcs b=>Z j oj cs b U) h1;refine nM (λa' w' h3=>ih (I.setIfInBounds j true) a' w' (by simpa using V) (hs.set V hj) (ready_mono hr (WL J)) ?_ ?_) h2
   .intro aw k ok aa Y ax ar aT;by_cases ay:k=j
    .subst ay;exact hp aw k ok aa Y X ar aT
    .rw [getD_set_ne true (WL ay)]at ax;exact hp aw k ok aa Y ax ar aT
   .rw [Zt _ _ J];exact h3
def Qg(P:Program)(ops:Array Oper)(W:World->Prop)(B:List Nat)(K:Act->World->Prop):List Nat->Act->World->Prop
 | []=>K
 |i::l=>qo P ops W B i (Qg P ops W B K l)
theorem yn(aw:∃u,W u)(an:vB P ops=true){K:Act->World->Prop}:∀ (n k:Nat) (I:Array Bool) (a:Act) (w:World),k+n=ops.size->I.size=ops.size->
 (∀j,j<ops.size->I.getD j true=decide (j<k))->Qg P ops W B K (List.range' k n) a w->uI P ops W B K n I a w
 |0,k,I,a,w,hk,aa,hl,h=>by
  refine⟨?_,by simpa[Qg]using h⟩;cases hr:Region.ready .any ops I with
  |nil=>rfl
  |cons x xs=>
   have hx:x∈Region.ready .any ops I:=by rw[hr];exact Wb ..
   obtain⟨Q,o,ho,_⟩:=mem_ready.1 hx;have aT:x<ops.size:=by
    rcases Wp x ops.size with J|J
    .exact J
    .simp [Wm J]at ho
   rw[hl x aT]at Q;simp at Q;omega
 |n+1,k,I,a,w,hk,aa,hl,h=>by
  have Z:k<ops.size:=by omega
  have X:=an;simp only[vB,dG,ts]at X;obtain⟨⟨a7,O⟩,U⟩:=X;have av:dG ops=true:=by simp only[dG,ts];exact⟨a7,O⟩
  have ay:∀j,j<ops.size->I.getD j false=decide (j<k):=λj hj=>by
   have:=hl j hj;have a_:j<I.size:=by omega
   simpa[a_]using this
  have below:∀j o,ops[j]? =some o->∀e∈o.after.toList,Region.binds .any e=true->e.on<j:=λj o ho e he hb=>by
   have:=(kJ ops.toList 0 O j o (by simpa using ho)).2;rw[Wr]at this;exact fQ _ this e he hb
  have hs:yF ops I:=by
   intro j o ho ap e he hb;have Y:j<ops.size:=by
    rcases Wp j ops.size with J|J
    .exact J
    .simp [Wm J]at ho
   rw[hl j Y]at ap;have:=below j o ho e he hb;rw[ay e.on (by omega)];simp at ap ⊢;omega
  have V:k∈Region.ready .any ops I:=by
   refine mem_ready.2 ⟨by rw[hl k Z];simp,ops[k],by simp[Z],λe he hb=>?_⟩;have:=below k ops[k] (by simp[Z]) e (by simpa using he) hb;rw[ay e.on (by omega)];simpa using this
  refine Ao aw av n I a w aa hs V ?_ ?_
  .intro oi j oj a6 ar Q ac ax;have Y:j<ops.size:=by
    rcases Wp j ops.size with J|J
    .exact J
    .simp [Wm J]at ar
   have az:k<j:=by
    rw[hl j Y]at Q;simp at Q;omega
   have:=tW ops.toList 0 U k j oi oj (by simpa using a6) (by simpa using ar) az;rw[Wr,Wr]at this;rcases this with hb|h
   .rw [hb]at ax;cases ax
   .exact h
  change qo P ops W B _ _ a w at h;refine nM (λa' w' J=>yn aw an n (k+1) (I.setIfInBounds k true) a' w' (by omega) (by simpa using aa) (λj hj=>?_) J) h;by_cases ac:j=k
  .subst ac;rw[mG (by omega)];simp
  .rw [getD_set_ne true (WL ac),hl j hj];simp;omega
