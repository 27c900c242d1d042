/- A statement whose order is open, where reads hold in all worlds of a kind: only the orders of acts count. -/
import Derived.Test.YtbdghpjnifjlmaaGreatFwOrder2
namespace Go.Fw
open Go
variable {P:Program} {ops:Array Oper} {W:World->Prop} {B:List Nat}
def tP (P:Program) (W:World->Prop) (keep:Bool) (k:Nat) (s:Sem Next) (w:World) (K:Value->World->Prop):Prop:=
 match k with
 |0=>∃v,(∀u,s.run P u=.ok (.value v) u)/\K v w
 |1=>∃v,(∀u,W u->s.run P u=.ok (.value v) u)/\K v w
 |_+2=>kV P (λv w'=> (keep=true->W w')/\K v w') (s.run P w)
theorem Au {keep:Bool} {k:Nat} {s:Sem Next} {w:World} {K O:Value->World->Prop} (h:∀v w,K v w->O v w) (I:tP P W keep k s w K):tP P W keep k s w O:=by
 match k with
 |0=>obtain ⟨v,h1,J⟩:=I;exact ⟨v,h1,h _ _ J⟩
 |1=>obtain ⟨v,h1,J⟩:=I;exact ⟨v,h1,h _ _ J⟩
 |_+2=>exact mi (λv w' ⟨a,b⟩=>⟨a,h _ _ b⟩) I
def oe (P:Program) (ops:Array Oper) (W:World->Prop) (keep:Bool) (o:Oper) (a:Act) (w:World) (K:Value->World->Prop):Prop:=
 if Region.wanted o (yielded ops a.tmps)=true then tP P W keep (bC P o) (execOp a.eval o) w K else K undef w
theorem CK {keep:Bool} {o:Oper} {a:Act} {w:World} {K:Value->World->Prop} (I:Region.wanted o (yielded ops a.tmps)=true) (h:tP P W keep (bC P o) (execOp a.eval o) w K):oe P ops W keep o a w K:=by
 unfold oe;rw [if_pos I];exact h
theorem Cp {keep:Bool} {o:Oper} {a:Act} {w:World} {K O:Value->World->Prop} (h:∀v w,K v w->O v w) (I:oe P ops W keep o a w K):oe P ops W keep o a w O:=by
 unfold oe at*
 split
 . rename_i J;rw [if_pos J] at I;exact Au h I
 . rename_i J;rw [if_neg J] at I;exact h _ _ I
def kO (P:Program) (ops:Array Oper) (W:World->Prop) (o:Oper) (a:Act) (v:Value):Prop:=
 (Region.wanted o (yielded ops a.tmps)=true/\bC P o<=1/\∀u,(bC P o=1->W u)->(execOp a.eval o).run P u=.ok (.value v) u)\/
 (Region.wanted o (yielded ops a.tmps)=false/\v=undef)
theorem kO.bJ (O:∃u,W u) {o:Oper} {a:Act} {u v:Value} (h:kO P ops W o a u) (g:kO P ops W o a v):u=v:=by
 obtain ⟨w0,I⟩:=O;rcases h with ⟨h1,Q,X⟩| ⟨h1,Q⟩<;>rcases g with ⟨J,U,V⟩| ⟨J,U⟩
 . have:=(X w0 λ_=>I).symm.trans (V w0 λ_=>I);injection this with this;injection this
 . rw [h1] at J;cases J
 . rw [h1] at J;cases J
 . rw [Q,U]
theorem kO.tA {keep:Bool} {o:Oper} {a:Act} {v:Value} {w:World} {K:Value->World->Prop} (h:kO P ops W o a v) (I:K v w):oe P ops W keep o a w K:=by
 unfold oe;rcases h with ⟨h1,O,J⟩| ⟨h1,rfl⟩
 . rw [if_pos h1]
   match hq:bC P o with
   |0=>exact ⟨v,λu=>J u (λhe=>by rw [hq] at he;cases he),I⟩
   |1=>exact ⟨v,λu hu=>J u (λ_=>hu),I⟩
   |n+2=>omega
 . rw [if_neg (by simp [h1])];exact I
theorem kO.tg {o:Oper} {v:Value} {a I:Act} (O:kO P ops W o a v) (he:execOp I.eval o=execOp a.eval o)
 (J:Region.wanted o (yielded ops I.tmps)=Region.wanted o (yielded ops a.tmps)):kO P ops W o I v:=by
 unfold kO at*
 rw [he,J];exact O
theorem uc {keep:Bool} {o:Oper} {a:Act} {w:World} {K:Value->World->Prop} (h:oe P ops W keep o a w K):
 (∃v,kO P ops W o a v/\K v w)\/
 (Region.wanted o (yielded ops a.tmps)=true/\2<=bC P o/\kV P (λv w'=> (keep=true->W w')/\K v w') ((execOp a.eval o).run P w)):=by
 unfold oe at h;by_cases I:Region.wanted o (yielded ops a.tmps)=true
 . rw [if_pos I] at h
   match hk:bC P o with
   |0=>rw [hk] at h;obtain ⟨v,h1,J⟩:=h;exact .inl ⟨v,.inl ⟨I,by omega,λu _=>h1 u⟩,J⟩
   |1=>rw [hk] at h;obtain ⟨v,h1,J⟩:=h;exact .inl ⟨v,.inl ⟨I,by omega,λu hu=>h1 u (hu hk)⟩,J⟩
   |k+2=>rw [hk] at h;exact .inr ⟨I,by omega,h⟩
 . rw [if_neg I] at h;exact .inl ⟨undef,.inr ⟨by simpa using I,rfl⟩,h⟩
theorem Jn {keep:Bool} {o:Oper} {a:Act} {w:World} {K:Value->World->Prop} (h:oe P ops W keep o a w K):∃v w,K v w:=by
 rcases uc h with ⟨v,_,h⟩| ⟨_,_,h⟩
 . exact ⟨_,_,h⟩
 . obtain ⟨v,w,_,h⟩:=qJ h;exact ⟨v,w,h⟩
def pT (P:Program) (ops:Array Oper) (W:World->Prop) (B:List Nat) (i:Nat) (K:Act->World->Prop) (a:Act) (w:World):Prop:=
 match ops[i]? with
 |none=>K a w
 |some o=>oe P ops W (uK P ops B i) o a w λv w'=>K (a.put o.dst v) w'
theorem nO {i:Nat} {K O:Act->World->Prop} {a:Act} {w:World} (h:∀a w,K a w->O a w) (I:pT P ops W B i K a w):pT P ops W B i O a w:=by
 unfold pT at*
 split
 . rename_i J;rw [J] at I;exact h _ _ I
 . rename_i o J;rw [J] at I;exact Cp (λv w=>h _ _) I
theorem Ju {i:Nat} {K:Act->World->Prop} {a:Act} {w:World} (I:pT P ops W B i K a w):∃J w',K J w':=by
 unfold pT at I;split at I
 . exact ⟨_,_,I⟩
 . obtain ⟨v,w,h⟩:=Jn I;exact ⟨_,_,h⟩
theorem Tt (aw:∃u,W u) {i j:Nat} {I J:Oper} (hi:ops[i]? =some I) (hj:ops[j]? =some J) (ap:I.apart ops J=true) (hk:oE P I J=true)
 (ar:∀cs b,I.op≠ .select cs b) (ag:∀cs b,J.op≠ .select cs b) {K:Act->World->Prop} {a:Act} {w:World}
 (h:pT P ops W B i (pT P ops W B j K) a w):pT P ops W B j (pT P ops W B i K) a w:=by
 obtain ⟨h1,h2,h3⟩:=Oper.apart_spec ap;have ei:∀ (a:Act) u,execOp (a.put J.dst u).eval I=execOp a.eval I:=λa u=>execOp_put I ar a J.dst u h3;have ej:∀ (a:Act) u,execOp (a.put I.dst u).eval J=execOp a.eval J:=λa u=>execOp_put J ag a I.dst u h1;have wi:∀ (a:Act) u,Region.wanted I (yielded ops (a.put J.dst u).tmps)=Region.wanted I (yielded ops a.tmps):=λa u=>wanted_put I a J.dst u h3;have wj:∀ (a:Act) u,Region.wanted J (yielded ops (a.put I.dst u).tmps)=Region.wanted J (yielded ops a.tmps):=λa u=>wanted_put J a I.dst u h1;have cm:∀ (v u:Value),(a.put I.dst v).put J.dst u=(a.put J.dst u).put I.dst v:=λv u=>Act.put_comm a v u h2;unfold pT at*
 simp only [hi,hj] at*
 have V:∀ {kp:Bool} {v:Value} {w:World} {L:Value->World->Prop},oe P ops W kp J (a.put I.dst v) w L->oe P ops W kp J a w L:=by
  intro kp v w L Q;unfold oe at*
  rw [ej,wj] at Q;exact Q
 have U:∀ {kp:Bool} {u:Value} {w:World} {L:Value->World->Prop},oe P ops W kp I a w L->oe P ops W kp I (a.put J.dst u) w L:=by
  intro kp u w L Q;unfold oe at*
  rw [ei,wi];exact Q
 rcases uc h with ⟨v,hp,Z⟩| ⟨an,bf,hU⟩
 ·
  refine Cp (λu w' hk=>?_) (V Z);refine (hp.tg (ei a u) (wi a u)).tA ?_;rw [<- cm];exact hk
 ·
  have O:∀ {v:Value} {w:World} {kp:Bool} {L:Value->World->Prop},oe P ops W kp J (a.put I.dst v) w L->∃u,kO P ops W J a u/\L u w:=by
   intro v w kp L Q;rcases uc Q with ⟨u,ac,hL⟩| ⟨bb,a8,_⟩
   . exact ⟨u,ac.tg (ej a v).symm (wj a v).symm,hL⟩
   . exfalso;simp only [oE,VM,Nat.ble_eq] at hk;omega
  obtain ⟨v0,w0,_,aa⟩:=qJ hU;obtain ⟨u0,Y,_⟩:=O aa;refine Y.tA ?_;refine U ?_;unfold oe;rw [if_pos an];have X:kV P (λv w'=> (uK P ops B i=true->W w')/\K ((a.put J.dst u0).put I.dst v) w') ((execOp a.eval I).run P w):=by
   refine mi (λv w' Q=>?_) hU;obtain ⟨u,hp,Z⟩:=O Q.2;rw [<- Y.bJ aw hp,cm] at Z;exact ⟨Q.1,Z⟩
  match hq:bC P I with
  |0=>omega
  |1=>omega
  |_+2=>exact X
def ud (P:Program) (ops:Array Oper) (W:World->Prop) (B:List Nat) (K:Act->World->Prop):Nat->Array Bool->Act->World->Prop
 |0,I,a,w=>Region.ready .any ops I= []/\K a w
 |fuel+1,I,a,w=>
  (Region.ready .any ops I= []->K a w)/\
  ∀i∈Region.ready .any ops I,pT P ops W B i (ud P ops W B K fuel (I.setIfInBounds i true)) a w
theorem Ru {i:Nat} {o:Oper} (U:ops[i]? =some o) {K:Act->World->Prop} {a:Act} {w:World} (V:bC P o=1->W w) (h:pT P ops W B i K a w):
 wH P ops i (λQ w'=> (w'=w\/(2<=bC P o/\(uK P ops B i=true->W w')))/\K Q w') a w:=by
 unfold pT at h;unfold wH;simp only [U] at h ⊢;unfold oe at h;unfold tA;by_cases O:Region.wanted o (yielded ops a.tmps)=true
 . rw [if_pos O] at h ⊢
   match hk:bC P o with
   |0=>rw [hk] at h;obtain ⟨v,h1,I⟩:=h;exact ⟨v,h1,.inl rfl,I⟩
   |1=>rw [hk] at h;obtain ⟨v,h1,I⟩:=h;exact ⟨v,h1 w (V hk),.inl rfl,I⟩
   |k+2=>
    rw [hk] at h;exact mi (λv w' J=>⟨.inr ⟨by omega,J.1⟩,J.2⟩) h
 . rw [if_neg O] at h ⊢;exact ⟨.inl rfl,h⟩
theorem Nf (O:dC ops=true) (hB:B=mT ops.toList []) {K:Act->World->Prop}:∀ (fuel:Nat) (I:Array Bool) (a:Act) (w:World),I.size=ops.size->xO ops I->
 ((∃ (k:Nat) (o:Oper),ops[k]? =some o/\bC P o=1/\I.getD k true=false)->W w)->
 ud P ops W B K fuel I a w->jQ P ops K fuel I a w
 |0,_,_,_,_,_,_,h=>h
 |fuel+1,I,a,w,hsz,hs,hW,h=>by
  have Q:=O;simp only [dC,ts] at Q;obtain ⟨a6,U⟩:=Q;refine ⟨h.1,λi hi=>?_⟩;obtain ⟨ap,o,ho,Y⟩:=mem_ready.1 hi;refine fx (λa' w' hh=>Nf O hB fuel _ a' w' (by simpa using hsz) (hs.set hsz hi) ?_ hh.2) (Ru ho (λhk=>hW ⟨i,o,ho,hk,ap⟩) (h.2 i hi));rintro ⟨k,ok,O,Z,J⟩;have ac:k≠i:=by
   rintro rfl;have aw:k<I.size:=by
    rcases UU k ops.size with X|X
    . omega
    . simp [UQ X] at O
   rw [mF aw] at J;cases J
  rw [getD_set_ne true (Vc ac)] at J;rcases hh.1 with he| ⟨h2,V⟩
  . rw [he];exact hW ⟨k,ok,O,Z,J⟩
  . refine V ?_;have an:k<ops.size:=by
     rcases UU k ops.size with X|X
     . exact X
     . simp [UQ X] at O
    have ag:(B.getD i 0).testBit k=false:=by
     cases hb:(B.getD i 0).testBit k with
     |false=>rfl
     |true=>
      rw [hB] at hb;have:=mY U hs hsz i o ho (λe he aa=>Y e (by simpa using he) aa) hb;have ar:k<I.size:=by omega
      simp [ar] at this J;rw [this] at J;cases J
    unfold uK;refine VI.2 ⟨k,Vj.2 an,?_⟩;simp only [O,ag,Yd,WZ];rw [Z];rfl
theorem vL {x:Oper} {i:Nat}:∀ (l:List Oper) (k:Nat),xZ P ops x i B k l=true->∀j y,l[j]? =some y->
 (B.getD (k+j) 0).testBit i=true\/(x.apart ops y=true/\oE P x y=true)
 | [],_,_,j,y,h=>by simp at h
 |z::l,k,h,j,y,hy=>by
  simp only [xZ,ts,VM] at h;cases j with
  |zero=>
   simp only [Ww,U4] at hy;subst hy;exact h.1
  |succ j=>
   simp only [Vp] at hy;rw [show k+ (j+1)=k+1+j from by omega];exact vL l (k+1) h.2 j y hy
theorem tL:∀ (l:List Oper) (k:Nat),vf P ops B k l=true->∀i j x y,l[i]? =some x->l[j]? =some y->i<j->
 (B.getD (k+j) 0).testBit (k+i)=true\/(x.apart ops y=true/\oE P x y=true)
 | [],_,_,i,j,x,y,h,_,_=>by simp at h
 |z::l,k,h,i,j,x,y,hx,hy,hij=>by
  simp only [vf,ts] at h;cases j with
  |zero=>omega
  |succ j=>
   simp only [Vp] at hy;cases i with
   |zero=>
    simp only [Ww,U4] at hx;subst hx;have:=vL l (k+1) h.1 j y hy;rw [show k+ (j+1)=k+1+j from by omega];exact this
   |succ i=>
    simp only [Vp] at hx;have:=tL l (k+1) h.2 i j x y hx hy (by omega);rw [show k+ (j+1)=k+1+j from by omega,show k+ (i+1)=k+1+i from by omega];exact this
theorem yS (bg:∃u,W u) (a6:dC ops=true) {K:Act->World->Prop} {i:Nat}:
 ∀ (fuel:Nat) (I:Array Bool) (a:Act) (w:World),I.size=ops.size->xO ops I->i∈Region.ready .any ops I->
   (∀ (oi:Oper) (j:Nat) (oj:Oper),ops[i]? =some oi->ops[j]? =some oj->I.getD j true=false->j≠i->((mT ops.toList []).getD j 0).testBit i=false->oi.apart ops oj=true/\oE P oi oj=true)->
   pT P ops W B i (ud P ops W B K fuel (I.setIfInBounds i true)) a w->ud P ops W B K (fuel+1) I a w:=by
 simp only [dC,ts] at a6;obtain ⟨bc,an⟩:=a6;have aa:=Region.noSelect_spec bc;intro fuel
 induction fuel with
 |zero=>
  intro I a w U hs hr hp H;refine ⟨λh=> (by rw [h] at hr;cases hr),λj hj=>?_⟩;by_cases J:j=i
  . subst J;exact H
  . obtain ⟨a',w',h,_⟩:=Ju H;have:=ready_mono hj J;rw [h] at this;cases this
 |succ fuel ih=>
  intro I a w U hs hr hp H;refine ⟨λh=> (by rw [h] at hr;cases hr),λj hj=>?_⟩;by_cases J:j=i
  . subst J;exact H
  . obtain ⟨ar,oi,Q,bb⟩:=mem_ready.1 hr;obtain ⟨X,oj,V,ag⟩:=mem_ready.1 hj;have a_:∀ {x:Nat} {o:Oper},ops[x]? =some o->x<I.size:=λ{x o} h=>by
     rcases UU x ops.size with h'|h'
     . omega
     . simp [UQ h'] at h
    have bf:I.getD i false=false:=by have:=a_ Q;simpa [this] using ar
    have a8:((mT ops.toList []).getD j 0).testBit i=false:=by
     cases hb:((mT ops.toList []).getD j 0).testBit i with
     |false=>rfl
     |true=>
      have:=mY an hs U j oj V (λe he a7=>ag e (by simpa using he) a7) hb;rw [bf] at this;cases this
    have O:=hp oi j oj Q V X J a8;have h1:pT P ops W B i (pT P ops W B j (ud P ops W B K fuel ((I.setIfInBounds i true).setIfInBounds j true))) a w:=
     nO (λa w h=>h.2 j (ready_mono hj J)) H
    have h2:=Tt bg Q V O.1 O.2 (λcs b=>aa i oi cs b Q) (λcs b=>aa j oj cs b V) h1;refine nO (λa' w' h3=>ih (I.setIfInBounds j true) a' w' (by simpa using U) (hs.set U hj) (ready_mono hr (Vc J)) ?_ ?_) h2
    . intro aw k ok Z Y aT az ax;by_cases av:k=j
      . subst av;exact hp aw k ok Z Y X az ax
      . rw [getD_set_ne true (Vc av)] at aT;exact hp aw k ok Z Y aT az ax
    . rw [X7 _ _ J];exact h3
def PD (P:Program) (ops:Array Oper) (W:World->Prop) (B:List Nat) (K:Act->World->Prop):List Nat->Act->World->Prop
 | []=>K
 |i::l=>pT P ops W B i (PD P ops W B K l)
theorem xC (ay:∃u,W u) (ax:u7 P ops=true) {K:Act->World->Prop}:∀ (n k:Nat) (I:Array Bool) (a:Act) (w:World),k+n=ops.size->I.size=ops.size->
 (∀j,j<ops.size->I.getD j true=decide (j<k))->PD P ops W B K (List.range' k n) a w->ud P ops W B K n I a w
 |0,k,I,a,w,hk,aa,hl,h=>by
  refine ⟨?_,by simpa [PD] using h⟩;cases hr:Region.ready .any ops I with
  |nil=>rfl
  |cons x xs=>
   have hx:x∈Region.ready .any ops I:=by rw [hr];exact UJ ..
   obtain ⟨Q,o,ho,_⟩:=mem_ready.1 hx;have az:x<ops.size:=by
    rcases UU x ops.size with J|J
    . exact J
    . simp [UQ J] at ho
   rw [hl x az] at Q;simp at Q;omega
 |n+1,k,I,a,w,hk,aa,hl,h=>by
  have Y:k<ops.size:=by omega
  have X:=ax;simp only [u7,dC,ts] at X;obtain ⟨⟨a8,O⟩,U⟩:=X;have ar:dC ops=true:=by simp only [dC,ts];exact ⟨a8,O⟩
  have av:∀j,j<ops.size->I.getD j false=decide (j<k):=λj hj=>by
   have:=hl j hj;have a_:j<I.size:=by omega
   simpa [a_] using this
  have below:∀j o,ops[j]? =some o->∀e∈o.after.toList,Region.binds .any e=true->e.on<j:=λj o ho e he hb=>by
   have:=(kC ops.toList 0 O j o (by simpa using ho)).2;rw [UX] at this;exact fQ _ this e he hb
  have hs:xO ops I:=by
   intro j o ho ap e he hb;have Z:j<ops.size:=by
    rcases UU j ops.size with J|J
    . exact J
    . simp [UQ J] at ho
   rw [hl j Z] at ap;have:=below j o ho e he hb;rw [av e.on (by omega)];simp at ap ⊢;omega
  have V:k∈Region.ready .any ops I:=by
   refine mem_ready.2 ⟨by rw [hl k Y];simp,ops[k],by simp [Y],λe he hb=>?_⟩;have:=below k ops[k] (by simp [Y]) e (by simpa using he) hb;rw [av e.on (by omega)];simpa using this
  refine yS ay ar n I a w aa hs V ?_ ?_
  . intro oi j oj a6 aw Q ac an;have Z:j<ops.size:=by
     rcases UU j ops.size with J|J
     . exact J
     . simp [UQ J] at aw
    have aT:k<j:=by
     rw [hl j Z] at Q;simp at Q;omega
    have:=tL ops.toList 0 U k j oi oj (by simpa using a6) (by simpa using aw) aT;rw [UX,UX] at this;rcases this with hb|h
    . rw [hb] at an;cases an
    . exact h
  change pT P ops W B _ _ a w at h;refine nO (λa' w' J=>xC ay ax n (k+1) (I.setIfInBounds k true) a' w' (by omega) (by simpa using aa) (λj hj=>?_) J) h;by_cases ac:j=k
  . subst ac;rw [mF (by omega)];simp
  . rw [getD_set_ne true (Vc ac),hl j hj];simp;omega
end Go.Fw
