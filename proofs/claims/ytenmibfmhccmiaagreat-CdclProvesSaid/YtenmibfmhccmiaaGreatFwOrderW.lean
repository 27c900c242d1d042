/- A statement whose order is open, where reads hold in all worlds of a kind: only the orders of acts count. -/
import Derived.Test.YtenmibfmhccmiaaGreatFwOrder2
namespace Go.Fw
open Go
variable {P:Program} {ops:Array Oper} {W:World->Prop} {B:List Nat}
def qm (P:Program) (W:World->Prop) (keep:Bool) (k:Nat) (s:Sem Next) (w:World) (K:Value->World->Prop):Prop:=
 match k with
 |0=> ∃v,(∀u,s.run P u= .ok (.value v) u)/\K v w
 |1=> ∃v,(∀u,W u->s.run P u= .ok (.value v) u)/\K v w
 |_+2=>jA P (fun v w'=> (keep=true->W w')/\K v w') (s.run P w)
theorem uW {keep:Bool} {k:Nat} {s:Sem Next} {w:World} {K O:Value->World->Prop} (h: ∀v w,K v w->O v w) (I:qm P W keep k s w K):qm P W keep k s w O:=by
 match k with
 |0=>obtain ⟨v,h1,J⟩:=I;exact ⟨v,h1,h _ _ J⟩
 |1=>obtain ⟨v,h1,J⟩:=I;exact ⟨v,h1,h _ _ J⟩
 |_+2=>exact jR (fun v w' ⟨a,b⟩=> ⟨a,h _ _ b⟩) I
def lH (P:Program) (ops:Array Oper) (W:World->Prop) (keep:Bool) (o:Oper) (a:Act) (w:World) (K:Value->World->Prop):Prop:=
 if Region.wanted o (yielded ops a.tmps)=true then qm P W keep (aZ P o) (execOp a.eval o) w K else K undef w
theorem zE {keep:Bool} {o:Oper} {a:Act} {w:World} {K:Value->World->Prop} (I:Region.wanted o (yielded ops a.tmps)=true) (h:qm P W keep (aZ P o) (execOp a.eval o) w K):lH P ops W keep o a w K:=by
 unfold lH;rw [if_pos I];exact h
theorem xr {keep:Bool} {o:Oper} {a:Act} {w:World} {K O:Value->World->Prop} (h: ∀v w,K v w->O v w) (I:lH P ops W keep o a w K):lH P ops W keep o a w O:=by
 unfold lH at*
 split
 . rename_i J;rw [if_pos J] at I;exact uW h I
 . rename_i J;rw [if_neg J] at I;exact h _ _ I
def ju (P:Program) (ops:Array Oper) (W:World->Prop) (o:Oper) (a:Act) (v:Value):Prop:=
 (Region.wanted o (yielded ops a.tmps)=true/\aZ P o<=1/\∀u,(aZ P o=1->W u)->(execOp a.eval o).run P u= .ok (.value v) u)\/
 (Region.wanted o (yielded ops a.tmps)=false/\v=undef)
theorem ju.bH (O: ∃u,W u) {o:Oper} {a:Act} {u v:Value} (h:ju P ops W o a u) (g:ju P ops W o a v):u=v:=by
 obtain ⟨w0,I⟩:=O;rcases h with ⟨h1,U,V⟩| ⟨h1,U⟩<;>rcases g with ⟨J,Q,X⟩| ⟨J,Q⟩
 . have:=(V w0 fun _=>I).symm.trans (X w0 fun _=>I);injection this with this;injection this
 . rw [h1] at J;cases J
 . rw [h1] at J;cases J
 . rw [U,Q]
theorem ju.qj {keep:Bool} {o:Oper} {a:Act} {v:Value} {w:World} {K:Value->World->Prop} (h:ju P ops W o a v) (I:K v w):lH P ops W keep o a w K:=by
 unfold lH;rcases h with ⟨h1,O,J⟩| ⟨h1,rfl⟩
 . rw [if_pos h1]
   match hq:aZ P o with
   |0=>exact ⟨v,fun u=>J u (fun he=>by rw [hq] at he;cases he),I⟩
   |1=>exact ⟨v,fun u hu=>J u (fun _=>hu),I⟩
   |n+2=>omega
 . rw [if_neg (by simp [h1])];exact I
theorem ju.pW {o:Oper} {v:Value} {a I:Act} (O:ju P ops W o a v) (he:execOp I.eval o=execOp a.eval o)
 (J:Region.wanted o (yielded ops I.tmps)=Region.wanted o (yielded ops a.tmps)):ju P ops W o I v:=by
 unfold ju at*
 rw [he,J];exact O
theorem qR {keep:Bool} {o:Oper} {a:Act} {w:World} {K:Value->World->Prop} (h:lH P ops W keep o a w K):
 (∃v,ju P ops W o a v/\K v w)\/
 (Region.wanted o (yielded ops a.tmps)=true/\2<=aZ P o/\jA P (fun v w'=> (keep=true->W w')/\K v w') ((execOp a.eval o).run P w)):=by
 unfold lH at h;by_cases I:Region.wanted o (yielded ops a.tmps)=true
 . rw [if_pos I] at h
   match hk:aZ P o with
   |0=>rw [hk] at h;obtain ⟨v,h1,J⟩:=h;exact .inl ⟨v,.inl ⟨I,by omega,fun u _=>h1 u⟩,J⟩
   |1=>rw [hk] at h;obtain ⟨v,h1,J⟩:=h;exact .inl ⟨v,.inl ⟨I,by omega,fun u hu=>h1 u (hu hk)⟩,J⟩
   |k+2=>rw [hk] at h;exact .inr ⟨I,by omega,h⟩
 . rw [if_neg I] at h;exact .inl ⟨undef,.inr ⟨by simpa using I,rfl⟩,h⟩
theorem Fc {keep:Bool} {o:Oper} {a:Act} {w:World} {K:Value->World->Prop} (h:lH P ops W keep o a w K): ∃v w,K v w:=by
 rcases qR h with ⟨v,_,h⟩| ⟨_,_,h⟩
 . exact ⟨_,_,h⟩
 . obtain ⟨v,w,_,h⟩:=oG h;exact ⟨v,w,h⟩
def mT (P:Program) (ops:Array Oper) (W:World->Prop) (B:List Nat) (i:Nat) (K:Act->World->Prop) (a:Act) (w:World):Prop:=
 match ops[i]? with
 |none=>K a w
 |some o=>lH P ops W (rB P ops B i) o a w fun v w'=>K (a.put o.dst v) w'
theorem kY {i:Nat} {K O:Act->World->Prop} {a:Act} {w:World} (h: ∀a w,K a w->O a w) (I:mT P ops W B i K a w):mT P ops W B i O a w:=by
 unfold mT at*
 split
 . rename_i J;rw [J] at I;exact h _ _ I
 . rename_i o J;rw [J] at I;exact xr (fun v w=>h _ _) I
theorem Fs {i:Nat} {K:Act->World->Prop} {a:Act} {w:World} (I:mT P ops W B i K a w): ∃J w',K J w':=by
 unfold mT at I;split at I
 . exact ⟨_,_,I⟩
 . obtain ⟨v,w,h⟩:=Fc I;exact ⟨_,_,h⟩
theorem Nk (ap: ∃u,W u) {i j:Nat} {I J:Oper} (hi:ops[i]? =some I) (hj:ops[j]? =some J) (ag:I.apart ops J=true) (hk:lM P I J=true)
 (an: ∀cs b,I.op≠ .select cs b) (ad: ∀cs b,J.op≠ .select cs b) {K:Act->World->Prop} {a:Act} {w:World}
 (h:mT P ops W B i (mT P ops W B j K) a w):mT P ops W B j (mT P ops W B i K) a w:=by
 obtain ⟨h1,h2,h3⟩:=Oper.apart_spec ag;have ei: ∀ (a:Act) u,execOp (a.put J.dst u).eval I=execOp a.eval I:=fun a u=>execOp_put I an a J.dst u h3;have ej: ∀ (a:Act) u,execOp (a.put I.dst u).eval J=execOp a.eval J:=fun a u=>execOp_put J ad a I.dst u h1;have wi: ∀ (a:Act) u,Region.wanted I (yielded ops (a.put J.dst u).tmps)=Region.wanted I (yielded ops a.tmps):=fun a u=>wanted_put I a J.dst u h3;have wj: ∀ (a:Act) u,Region.wanted J (yielded ops (a.put I.dst u).tmps)=Region.wanted J (yielded ops a.tmps):=fun a u=>wanted_put J a I.dst u h1;have cm: ∀ (v u:Value),(a.put I.dst v).put J.dst u=(a.put J.dst u).put I.dst v:=fun v u=>Act.put_comm a v u h2;unfold mT at*
 simp only [hi,hj] at*
 have X: ∀ {kp:Bool} {v:Value} {w:World} {L:Value->World->Prop},lH P ops W kp J (a.put I.dst v) w L->lH P ops W kp J a w L:=by
  intro kp v w L U;unfold lH at*
  rw [ej,wj] at U;exact U
 have Q: ∀ {kp:Bool} {u:Value} {w:World} {L:Value->World->Prop},lH P ops W kp I a w L->lH P ops W kp I (a.put J.dst u) w L:=by
  intro kp u w L U;unfold lH at*
  rw [ei,wi];exact U
 rcases qR h with ⟨v,hp,Z⟩| ⟨av,a8,hU⟩
 ·
  refine xr (fun u w' hk=> ?_) (X Z);refine (hp.pW (ei a u) (wi a u)).qj ?_;rw [<- cm];exact hk
 ·
  have O: ∀ {v:Value} {w:World} {kp:Bool} {L:Value->World->Prop},lH P ops W kp J (a.put I.dst v) w L->∃u,ju P ops W J a u/\L u w:=by
   intro v w kp L U;rcases qR U with ⟨u,ac,hL⟩| ⟨a',a7,_⟩
   . exact ⟨u,ac.pW (ej a v).symm (wj a v).symm,hL⟩
   . exfalso;simp only [lM,Bool.or_eq_true,Nat.ble_eq] at hk;omega
  obtain ⟨v0,w0,_,ar⟩:=oG hU;obtain ⟨u0,Y,_⟩:=O ar;refine Y.qj ?_;refine Q ?_;unfold lH;rw [if_pos av];have V:jA P (fun v w'=> (rB P ops B i=true->W w')/\K ((a.put J.dst u0).put I.dst v) w') ((execOp a.eval I).run P w):=by
   refine jR (fun v w' U=> ?_) hU;obtain ⟨u,hp,Z⟩:=O U.2;rw [<- Y.bH ap hp,cm] at Z;exact ⟨U.1,Z⟩
  match hq:aZ P I with
  |0=>omega
  |1=>omega
  |_+2=>exact V
def qB (P:Program) (ops:Array Oper) (W:World->Prop) (B:List Nat) (K:Act->World->Prop):Nat->Array Bool->Act->World->Prop
 |0,I,a,w=>Region.ready .any ops I= []/\K a w
 |fuel+1,I,a,w=>
  (Region.ready .any ops I= []->K a w)/\
  ∀i∈Region.ready .any ops I,mT P ops W B i (qB P ops W B K fuel (I.setIfInBounds i true)) a w
theorem LA {i:Nat} {o:Oper} (V:ops[i]? =some o) {K:Act->World->Prop} {a:Act} {w:World} (Q:aZ P o=1->W w) (h:mT P ops W B i K a w):
 sP P ops i (fun U w'=> (w'=w\/(2<=aZ P o/\(rB P ops B i=true->W w')))/\K U w') a w:=by
 unfold mT at h;unfold sP;simp only [V] at h ⊢;unfold lH at h;unfold qj;by_cases O:Region.wanted o (yielded ops a.tmps)=true
 . rw [if_pos O] at h ⊢
   match hk:aZ P o with
   |0=>rw [hk] at h;obtain ⟨v,h1,I⟩:=h;exact ⟨v,h1,.inl rfl,I⟩
   |1=>rw [hk] at h;obtain ⟨v,h1,I⟩:=h;exact ⟨v,h1 w (Q hk),.inl rfl,I⟩
   |k+2=>
    rw [hk] at h;exact jR (fun v w' J=> ⟨.inr ⟨by omega,J.1⟩,J.2⟩) h
 . rw [if_neg O] at h ⊢;exact ⟨.inl rfl,h⟩
theorem Gy (O:cP ops=true) (hB:B=kg ops.toList []) {K:Act->World->Prop}: ∀ (fuel:Nat) (I:Array Bool) (a:Act) (w:World),I.size=ops.size->tO ops I->
 ((∃ (k:Nat) (o:Oper),ops[k]? =some o/\aZ P o=1/\I.getD k true=false)->W w)->
 qB P ops W B K fuel I a w->iE P ops K fuel I a w
 |0,_,_,_,_,_,_,h=>h
 |fuel+1,I,a,w,hsz,hs,hW,h=>by
  have Q:=O;simp only [cP,Bool.and_eq_true] at Q;obtain ⟨a6,V⟩:=Q;refine ⟨h.1,fun i hi=> ?_⟩;obtain ⟨ar,o,ho,Y⟩:=mem_ready.1 hi;refine dQ (fun a' w' hh=>Gy O hB fuel _ a' w' (by simpa using hsz) (hs.set hsz hi) ?_ hh.2) (LA ho (fun hk=>hW ⟨i,o,ho,hk,ar⟩) (h.2 i hi));rintro ⟨k,ok,O,Z,J⟩;have aa:k≠i:=by
   rintro rfl;have an:k<I.size:=by
    rcases Nat.lt_or_ge k ops.size with X|X
    . omega
    . simp [Array.getElem?_eq_none X] at O
   rw [j6 an] at J;cases J
  rw [getD_set_ne true (Ne.symm aa)] at J;rcases hh.1 with he| ⟨h2,U⟩
  . rw [he];exact hW ⟨k,ok,O,Z,J⟩
  . refine U ?_;have ag:k<ops.size:=by
     rcases Nat.lt_or_ge k ops.size with X|X
     . exact X
     . simp [Array.getElem?_eq_none X] at O
    have ap:(B.getD i 0).testBit k=false:=by
     cases hb:(B.getD i 0).testBit k with
     |false=>rfl
     |true=>
      rw [hB] at hb;have:=kF V hs hsz i o ho (fun e he av=>Y e (by simpa using he) av) hb;have ac:k<I.size:=by omega
      simp [ac] at this J;rw [this] at J;cases J
    unfold rB;refine List.any_eq_true.2 ⟨k,List.mem_range.2 ag,?_⟩;simp only [O,ap,Bool.not_false,Bool.and_true];rw [Z];rfl
theorem rA {x:Oper} {i:Nat}: ∀ (l:List Oper) (k:Nat),tV P ops x i B k l=true->∀j y,l[j]? =some y->
 (B.getD (k+j) 0).testBit i=true\/(x.apart ops y=true/\lM P x y=true)
 | [],_,_,j,y,h=>by simp at h
 |z::l,k,h,j,y,hy=>by
  simp only [tV,Bool.and_eq_true,Bool.or_eq_true] at h;cases j with
  |zero=>
   simp only [List.getElem?_cons_zero,Option.some.injEq] at hy;subst hy;exact h.1
  |succ j=>
   simp only [List.getElem?_cons_succ] at hy;rw [show k+ (j+1)=k+1+j from by omega];exact rA l (k+1) h.2 j y hy
theorem qo: ∀ (l:List Oper) (k:Nat),rQ P ops B k l=true->∀i j x y,l[i]? =some x->l[j]? =some y->i<j->
 (B.getD (k+j) 0).testBit (k+i)=true\/(x.apart ops y=true/\lM P x y=true)
 | [],_,_,i,j,x,y,h,_,_=>by simp at h
 |z::l,k,h,i,j,x,y,hx,hy,hij=>by
  simp only [rQ,Bool.and_eq_true] at h;cases j with
  |zero=>omega
  |succ j=>
   simp only [List.getElem?_cons_succ] at hy;cases i with
   |zero=>
    simp only [List.getElem?_cons_zero,Option.some.injEq] at hx;subst hx;have:=rA l (k+1) h.1 j y hy;rw [show k+ (j+1)=k+1+j from by omega];exact this
   |succ i=>
    simp only [List.getElem?_cons_succ] at hx;have:=qo l (k+1) h.2 i j x y hx hy (by omega);rw [show k+ (j+1)=k+1+j from by omega,show k+ (i+1)=k+1+i from by omega];exact this
theorem wD (bc: ∃u,W u) (ax:cP ops=true) {K:Act->World->Prop} {i:Nat}:
 ∀ (fuel:Nat) (I:Array Bool) (a:Act) (w:World),I.size=ops.size->tO ops I->i∈Region.ready .any ops I->
   (∀ (oi:Oper) (j:Nat) (oj:Oper),ops[i]? =some oi->ops[j]? =some oj->I.getD j true=false->j≠i->((kg ops.toList []).getD j 0).testBit i=false->oi.apart ops oj=true/\lM P oi oj=true)->
   mT P ops W B i (qB P ops W B K fuel (I.setIfInBounds i true)) a w->qB P ops W B K (fuel+1) I a w:=by
 simp only [cP,Bool.and_eq_true] at ax;obtain ⟨a7,ag⟩:=ax;have Y:=Region.noSelect_spec a7;intro fuel
 induction fuel with
 |zero=>
  intro I a w U hs hr hp H;refine ⟨fun h=> (by rw [h] at hr;cases hr),fun j hj=> ?_⟩;by_cases J:j=i
  . subst J;exact H
  . obtain ⟨a',w',h,_⟩:=Fs H;have:=ready_mono hj J;rw [h] at this;cases this
 |succ fuel ih=>
  intro I a w U hs hr hp H;refine ⟨fun h=> (by rw [h] at hr;cases hr),fun j hj=> ?_⟩;by_cases J:j=i
  . subst J;exact H
  . obtain ⟨ap,oi,V,a8⟩:=mem_ready.1 hr;obtain ⟨X,oj,Q,ac⟩:=mem_ready.1 hj;have a_: ∀ {x:Nat} {o:Oper},ops[x]? =some o->x<I.size:=fun {x o} h=>by
     rcases Nat.lt_or_ge x ops.size with h'|h'
     . omega
     . simp [Array.getElem?_eq_none h'] at h
    have a6:I.getD i false=false:=by have:=a_ V;simpa [this] using ap
    have bk:((kg ops.toList []).getD j 0).testBit i=false:=by
     cases hb:((kg ops.toList []).getD j 0).testBit i with
     |false=>rfl
     |true=>
      have:=kF ag hs U j oj Q (fun e he bb=>ac e (by simpa using he) bb) hb;rw [a6] at this;cases this
    have O:=hp oi j oj V Q X J bk;have h1:mT P ops W B i (mT P ops W B j (qB P ops W B K fuel ((I.setIfInBounds i true).setIfInBounds j true))) a w:=
     kY (fun a w h=>h.2 j (ready_mono hj J)) H
    have h2:=Nk bc V Q O.1 O.2 (fun cs b=>Y i oi cs b V) (fun cs b=>Y j oj cs b Q) h1;refine kY (fun a' w' h3=>ih (I.setIfInBounds j true) a' w' (by simpa using U) (hs.set U hj) (ready_mono hr (Ne.symm J)) ?_ ?_) h2
    . intro az k ok aa Z aw ay av;by_cases ar:k=j
      . subst ar;exact hp az k ok aa Z X ay av
      . rw [getD_set_ne true (Ne.symm ar)] at aw;exact hp az k ok aa Z aw ay av
    . rw [Array.setIfInBounds_comm _ _ J];exact h3
def Ka (P:Program) (ops:Array Oper) (W:World->Prop) (B:List Nat) (K:Act->World->Prop):List Nat->Act->World->Prop
 | []=>K
 |i::l=>mT P ops W B i (Ka P ops W B K l)
theorem tC (ap: ∃u,W u) (ar:rJ P ops=true) {K:Act->World->Prop}: ∀ (n k:Nat) (I:Array Bool) (a:Act) (w:World),k+n=ops.size->I.size=ops.size->
 (∀j,j<ops.size->I.getD j true=decide (j<k))->Ka P ops W B K (List.range' k n) a w->qB P ops W B K n I a w
 |0,k,I,a,w,hk,ac,hl,h=>by
  refine ⟨?_,by simpa [Ka] using h⟩;cases hr:Region.ready .any ops I with
  |nil=>rfl
  |cons x xs=>
   have hx:x∈Region.ready .any ops I:=by rw [hr];exact List.mem_cons_self ..
   obtain ⟨O,o,ho,_⟩:=mem_ready.1 hx;have a7:x<ops.size:=by
    rcases Nat.lt_or_ge x ops.size with J|J
    . exact J
    . simp [Array.getElem?_eq_none J] at ho
   rw [hl x a7] at O;simp at O;omega
 |n+1,k,I,a,w,hk,ac,hl,h=>by
  have Z:k<ops.size:=by omega
  have X:=ar;simp only [rJ,cP,Bool.and_eq_true] at X;obtain ⟨⟨ay,Q⟩,V⟩:=X;have an:cP ops=true:=by simp only [cP,Bool.and_eq_true];exact ⟨ay,Q⟩
  have aw: ∀j,j<ops.size->I.getD j false=decide (j<k):=fun j hj=>by
   have:=hl j hj;have a6:j<I.size:=by omega
   simpa [a6] using this
  have below: ∀j o,ops[j]? =some o->∀e∈o.after.toList,Region.binds .any e=true->e.on<j:=fun j o ho e he hb=>by
   have:=(i4 ops.toList 0 Q j o (by simpa using ho)).2;rw [Nat.zero_add] at this;exact ee _ this e he hb
  have hs:tO ops I:=by
   intro j o ho av e he hb;have aa:j<ops.size:=by
    rcases Nat.lt_or_ge j ops.size with J|J
    . exact J
    . simp [Array.getElem?_eq_none J] at ho
   rw [hl j aa] at av;have:=below j o ho e he hb;rw [aw e.on (by omega)];simp at av ⊢;omega
  have U:k∈Region.ready .any ops I:=by
   refine mem_ready.2 ⟨by rw [hl k Z];simp,ops[k],by simp [Z],fun e he hb=> ?_⟩;have:=below k ops[k] (by simp [Z]) e (by simpa using he) hb;rw [aw e.on (by omega)];simpa using this
  refine wD ap an n I a w ac hs U ?_ ?_
  . intro oi j oj aT ag O Y ax;have aa:j<ops.size:=by
     rcases Nat.lt_or_ge j ops.size with J|J
     . exact J
     . simp [Array.getElem?_eq_none J] at ag
    have az:k<j:=by
     rw [hl j aa] at O;simp at O;omega
    have:=qo ops.toList 0 V k j oi oj (by simpa using aT) (by simpa using ag) az;rw [Nat.zero_add,Nat.zero_add] at this;rcases this with hb|h
    . rw [hb] at ax;cases ax
    . exact h
  change mT P ops W B _ _ a w at h;refine kY (fun a' w' J=>tC ap ar n (k+1) (I.setIfInBounds k true) a' w' (by omega) (by simpa using ac) (fun j hj=> ?_) J) h;by_cases Y:j=k
  . subst Y;rw [j6 (by omega)];simp
  . rw [getD_set_ne true (Ne.symm Y),hl j hj];simp;omega
end Go.Fw
