/- A statement whose order is open, where reads hold in all worlds of a kind: only the orders of acts count. -/
import Derived.Test.YtenmibfmhccmiaaGreatFwOrder2
namespace Go.Fw
open Go
variable {P:Program} {ops:Array Oper} {W:World->Prop} {B:List Nat}
def oY (P:Program) (W:World->Prop) (keep:Bool) (k:Nat) (s:Sem Next) (w:World) (K:Value->World->Prop):Prop:=
 match k with
 |0=> ∃v,(∀u,s.run P u= .ok (.value v) u)/\K v w
 |1=> ∃v,(∀u,W u->s.run P u= .ok (.value v) u)/\K v w
 |_+2=>i4 P (fun v w'=> (keep=true->W w')/\K v w') (s.run P w)
theorem uS {keep:Bool} {k:Nat} {s:Sem Next} {w:World} {K O:Value->World->Prop} (h: ∀v w,K v w->O v w) (J:oY P W keep k s w K):oY P W keep k s w O:=by
 match k with
 |0=>obtain ⟨v,h1,I⟩:=J;exact ⟨v,h1,h _ _ I⟩
 |1=>obtain ⟨v,h1,I⟩:=J;exact ⟨v,h1,h _ _ I⟩
 |_+2=>exact jq (fun v w' ⟨a,b⟩=> ⟨a,h _ _ b⟩) J
def kP (P:Program) (ops:Array Oper) (W:World->Prop) (keep:Bool) (o:Oper) (a:Act) (w:World) (K:Value->World->Prop):Prop:=
 if Region.wanted o (yielded ops a.tmps)=true then oY P W keep (aZ P o) (execOp a.eval o) w K else K undef w
theorem xE {keep:Bool} {o:Oper} {a:Act} {w:World} {K:Value->World->Prop} (I:Region.wanted o (yielded ops a.tmps)=true) (h:oY P W keep (aZ P o) (execOp a.eval o) w K):kP P ops W keep o a w K:=by
 unfold kP;rw [if_pos I];exact h
theorem wO {keep:Bool} {o:Oper} {a:Act} {w:World} {K O:Value->World->Prop} (h: ∀v w,K v w->O v w) (I:kP P ops W keep o a w K):kP P ops W keep o a w O:=by
 unfold kP at*
 split
 . rename_i J;rw [if_pos J] at I;exact uS h I
 . rename_i J;rw [if_neg J] at I;exact h _ _ I
def i5 (P:Program) (ops:Array Oper) (W:World->Prop) (o:Oper) (a:Act) (v:Value):Prop:=
 (Region.wanted o (yielded ops a.tmps)=true/\aZ P o<=1/\∀u,(aZ P o=1->W u)->(execOp a.eval o).run P u= .ok (.value v) u)\/
 (Region.wanted o (yielded ops a.tmps)=false/\v=undef)
theorem i5.bS (O: ∃u,W u) {o:Oper} {a:Act} {u v:Value} (h:i5 P ops W o a u) (g:i5 P ops W o a v):u=v:=by
 obtain ⟨w0,J⟩:=O;rcases h with ⟨h1,Q,X⟩| ⟨h1,Q⟩<;>rcases g with ⟨I,U,V⟩| ⟨I,U⟩
 . have:=(X w0 fun _=>J).symm.trans (V w0 fun _=>J);injection this with this;injection this
 . rw [h1] at I;cases I
 . rw [h1] at I;cases I
 . rw [Q,U]
theorem i5.oU {keep:Bool} {o:Oper} {a:Act} {v:Value} {w:World} {K:Value->World->Prop} (h:i5 P ops W o a v) (I:K v w):kP P ops W keep o a w K:=by
 unfold kP;rcases h with ⟨h1,O,J⟩| ⟨h1,rfl⟩
 . rw [if_pos h1]
   match hq:aZ P o with
   |0=>exact ⟨v,fun u=>J u (fun he=>by rw [hq] at he;cases he),I⟩
   |1=>exact ⟨v,fun u hu=>J u (fun _=>hu),I⟩
   |n+2=>omega
 . rw [if_neg (by simp [h1])];exact I
theorem i5.om {o:Oper} {v:Value} {a I:Act} (J:i5 P ops W o a v) (he:execOp I.eval o=execOp a.eval o)
 (O:Region.wanted o (yielded ops I.tmps)=Region.wanted o (yielded ops a.tmps)):i5 P ops W o I v:=by
 unfold i5 at*
 rw [he,O];exact J
theorem py {keep:Bool} {o:Oper} {a:Act} {w:World} {K:Value->World->Prop} (h:kP P ops W keep o a w K):
 (∃v,i5 P ops W o a v/\K v w)\/
 (Region.wanted o (yielded ops a.tmps)=true/\2<=aZ P o/\i4 P (fun v w'=> (keep=true->W w')/\K v w') ((execOp a.eval o).run P w)):=by
 unfold kP at h;by_cases I:Region.wanted o (yielded ops a.tmps)=true
 . rw [if_pos I] at h
   match hk:aZ P o with
   |0=>rw [hk] at h;obtain ⟨v,h1,J⟩:=h;exact .inl ⟨v,.inl ⟨I,by omega,fun u _=>h1 u⟩,J⟩
   |1=>rw [hk] at h;obtain ⟨v,h1,J⟩:=h;exact .inl ⟨v,.inl ⟨I,by omega,fun u hu=>h1 u (hu hk)⟩,J⟩
   |k+2=>rw [hk] at h;exact .inr ⟨I,by omega,h⟩
 . rw [if_neg I] at h;exact .inl ⟨undef,.inr ⟨by simpa using I,rfl⟩,h⟩
theorem DC {keep:Bool} {o:Oper} {a:Act} {w:World} {K:Value->World->Prop} (h:kP P ops W keep o a w K): ∃v w,K v w:=by
 rcases py h with ⟨v,_,h⟩| ⟨_,_,h⟩
 . exact ⟨_,_,h⟩
 . obtain ⟨v,w,_,h⟩:=mY h;exact ⟨v,w,h⟩
def mj (P:Program) (ops:Array Oper) (W:World->Prop) (B:List Nat) (i:Nat) (K:Act->World->Prop) (a:Act) (w:World):Prop:=
 match ops[i]? with
 |none=>K a w
 |some o=>kP P ops W (qu P ops B i) o a w fun v w'=>K (a.put o.dst v) w'
theorem km {i:Nat} {K O:Act->World->Prop} {a:Act} {w:World} (h: ∀a w,K a w->O a w) (I:mj P ops W B i K a w):mj P ops W B i O a w:=by
 unfold mj at*
 split
 . rename_i J;rw [J] at I;exact h _ _ I
 . rename_i o J;rw [J] at I;exact wO (fun v w=>h _ _) I
theorem D' {i:Nat} {K:Act->World->Prop} {a:Act} {w:World} (I:mj P ops W B i K a w): ∃J w',K J w':=by
 unfold mj at I;split at I
 . exact ⟨_,_,I⟩
 . obtain ⟨v,w,h⟩:=DC I;exact ⟨_,_,h⟩
theorem LH (ag: ∃u,W u) {i j:Nat} {I J:Oper} (hi:ops[i]? =some I) (hj:ops[j]? =some J) (ac:I.apart ops J=true) (hk:kO P I J=true)
 (av: ∀cs b,I.op≠ .select cs b) (an: ∀cs b,J.op≠ .select cs b) {K:Act->World->Prop} {a:Act} {w:World}
 (h:mj P ops W B i (mj P ops W B j K) a w):mj P ops W B j (mj P ops W B i K) a w:=by
 obtain ⟨h1,h2,h3⟩:=Oper.apart_spec ac;have ei: ∀ (a:Act) u,execOp (a.put J.dst u).eval I=execOp a.eval I:=fun a u=>execOp_put I av a J.dst u h3;have ej: ∀ (a:Act) u,execOp (a.put I.dst u).eval J=execOp a.eval J:=fun a u=>execOp_put J an a I.dst u h1;have wi: ∀ (a:Act) u,Region.wanted I (yielded ops (a.put J.dst u).tmps)=Region.wanted I (yielded ops a.tmps):=fun a u=>wanted_put I a J.dst u h3;have wj: ∀ (a:Act) u,Region.wanted J (yielded ops (a.put I.dst u).tmps)=Region.wanted J (yielded ops a.tmps):=fun a u=>wanted_put J a I.dst u h1;have cm: ∀ (v u:Value),(a.put I.dst v).put J.dst u=(a.put J.dst u).put I.dst v:=fun v u=>Act.put_comm a v u h2;unfold mj at*
 simp only [hi,hj] at*
 have V: ∀ {kp:Bool} {v:Value} {w:World} {L:Value->World->Prop},kP P ops W kp J (a.put I.dst v) w L->kP P ops W kp J a w L:=by
  intro kp v w L Q;unfold kP at*
  rw [ej,wj] at Q;exact Q
 have U: ∀ {kp:Bool} {u:Value} {w:World} {L:Value->World->Prop},kP P ops W kp I a w L->kP P ops W kp I (a.put J.dst u) w L:=by
  intro kp u w L Q;unfold kP at*
  rw [ei,wi];exact Q
 rcases py h with ⟨v,hp,Z⟩| ⟨ap,bb,hU⟩
 ·
  refine wO (fun u w' hk=> ?_) (V Z);refine (hp.om (ei a u) (wi a u)).oU ?_;rw [<- cm];exact hk
 ·
  have O: ∀ {v:Value} {w:World} {kp:Bool} {L:Value->World->Prop},kP P ops W kp J (a.put I.dst v) w L->∃u,i5 P ops W J a u/\L u w:=by
   intro v w kp L Q;rcases py Q with ⟨u,aw,hL⟩| ⟨a_,bk,_⟩
   . exact ⟨u,aw.om (ej a v).symm (wj a v).symm,hL⟩
   . exfalso;simp only [kO,Bool.or_eq_true,Nat.ble_eq] at hk;omega
  obtain ⟨v0,w0,_,ar⟩:=mY hU;obtain ⟨u0,Y,_⟩:=O ar;refine Y.oU ?_;refine U ?_;unfold kP;rw [if_pos ap];have X:i4 P (fun v w'=> (qu P ops B i=true->W w')/\K ((a.put J.dst u0).put I.dst v) w') ((execOp a.eval I).run P w):=by
   refine jq (fun v w' Q=> ?_) hU;obtain ⟨u,hp,Z⟩:=O Q.2;rw [<- Y.bS ag hp,cm] at Z;exact ⟨Q.1,Z⟩
  match hq:aZ P I with
  |0=>omega
  |1=>omega
  |_+2=>exact X
def pJ (P:Program) (ops:Array Oper) (W:World->Prop) (B:List Nat) (K:Act->World->Prop):Nat->Array Bool->Act->World->Prop
 |0,I,a,w=>Region.ready .any ops I= []/\K a w
 |fuel+1,I,a,w=>
  (Region.ready .any ops I= []->K a w)/\
  ∀i∈Region.ready .any ops I,mj P ops W B i (pJ P ops W B K fuel (I.setIfInBounds i true)) a w
theorem JK {i:Nat} {o:Oper} (Q:ops[i]? =some o) {K:Act->World->Prop} {a:Act} {w:World} (V:aZ P o=1->W w) (h:mj P ops W B i K a w):
 rz P ops i (fun U w'=> (w'=w\/(2<=aZ P o/\(qu P ops B i=true->W w')))/\K U w') a w:=by
 unfold mj at h;unfold rz;simp only [Q] at h ⊢;unfold kP at h;unfold oU;by_cases O:Region.wanted o (yielded ops a.tmps)=true
 . rw [if_pos O] at h ⊢
   match hk:aZ P o with
   |0=>rw [hk] at h;obtain ⟨v,h1,I⟩:=h;exact ⟨v,h1,.inl rfl,I⟩
   |1=>rw [hk] at h;obtain ⟨v,h1,I⟩:=h;exact ⟨v,h1 w (V hk),.inl rfl,I⟩
   |k+2=>
    rw [hk] at h;exact jq (fun v w' J=> ⟨.inr ⟨by omega,J.1⟩,J.2⟩) h
 . rw [if_neg O] at h ⊢;exact ⟨.inl rfl,h⟩
theorem Gf (O:cS ops=true) (hB:B=jL ops.toList []) {K:Act->World->Prop}: ∀ (fuel:Nat) (I:Array Bool) (a:Act) (w:World),I.size=ops.size->sb ops I->
 ((∃ (k:Nat) (o:Oper),ops[k]? =some o/\aZ P o=1/\I.getD k true=false)->W w)->
 pJ P ops W B K fuel I a w->io P ops K fuel I a w
 |0,_,_,_,_,_,_,h=>h
 |fuel+1,I,a,w,hsz,hs,hW,h=>by
  have Q:=O;simp only [cS,Bool.and_eq_true] at Q;obtain ⟨a7,U⟩:=Q;refine ⟨h.1,fun i hi=> ?_⟩;obtain ⟨ar,o,ho,Z⟩:=mem_ready.1 hi;refine d6 (fun a' w' hh=>Gf O hB fuel _ a' w' (by simpa using hsz) (hs.set hsz hi) ?_ hh.2) (JK ho (fun hk=>hW ⟨i,o,ho,hk,ar⟩) (h.2 i hi));rintro ⟨k,ok,O,Y,J⟩;have ag:k≠i:=by
   rintro rfl;have ac:k<I.size:=by
    rcases Nat.lt_or_ge k ops.size with X|X
    . omega
    . simp [Array.getElem?_eq_none X] at O
   rw [jE ac] at J;cases J
  rw [getD_set_ne true (Ne.symm ag)] at J;rcases hh.1 with he| ⟨h2,V⟩
  . rw [he];exact hW ⟨k,ok,O,Y,J⟩
  . refine V ?_;have aw:k<ops.size:=by
     rcases Nat.lt_or_ge k ops.size with X|X
     . exact X
     . simp [Array.getElem?_eq_none X] at O
    have av:(B.getD i 0).testBit k=false:=by
     cases hb:(B.getD i 0).testBit k with
     |false=>rfl
     |true=>
      rw [hB] at hb;have:=jR U hs hsz i o ho (fun e he an=>Z e (by simpa using he) an) hb;have ap:k<I.size:=by omega
      simp [ap] at this J;rw [this] at J;cases J
    unfold qu;refine List.any_eq_true.2 ⟨k,List.mem_range.2 aw,?_⟩;simp only [O,av,Bool.not_false,Bool.and_true];rw [Y];rfl
theorem qz {x:Oper} {i:Nat}: ∀ (l:List Oper) (k:Nat),sH P ops x i B k l=true->∀j y,l[j]? =some y->
 (B.getD (k+j) 0).testBit i=true\/(x.apart ops y=true/\kO P x y=true)
 | [],_,_,j,y,h=>by simp at h
 |z::l,k,h,j,y,hy=>by
  simp only [sH,Bool.and_eq_true,Bool.or_eq_true] at h;cases j with
  |zero=>
   simp only [List.getElem?_cons_zero,Option.some.injEq] at hy;subst hy;exact h.1
  |succ j=>
   simp only [List.getElem?_cons_succ] at hy;rw [show k+ (j+1)=k+1+j from by omega];exact qz l (k+1) h.2 j y hy
theorem pd: ∀ (l:List Oper) (k:Nat),p8 P ops B k l=true->∀i j x y,l[i]? =some x->l[j]? =some y->i<j->
 (B.getD (k+j) 0).testBit (k+i)=true\/(x.apart ops y=true/\kO P x y=true)
 | [],_,_,i,j,x,y,h,_,_=>by simp at h
 |z::l,k,h,i,j,x,y,hx,hy,hij=>by
  simp only [p8,Bool.and_eq_true] at h;cases j with
  |zero=>omega
  |succ j=>
   simp only [List.getElem?_cons_succ] at hy;cases i with
   |zero=>
    simp only [List.getElem?_cons_zero,Option.some.injEq] at hx;subst hx;have:=qz l (k+1) h.1 j y hy;rw [show k+ (j+1)=k+1+j from by omega];exact this
   |succ i=>
    simp only [List.getElem?_cons_succ] at hx;have:=pd l (k+1) h.2 i j x y hx hy (by omega);rw [show k+ (j+1)=k+1+j from by omega,show k+ (i+1)=k+1+i from by omega];exact this
theorem tA (a7: ∃u,W u) (aw:cS ops=true) {K:Act->World->Prop} {i:Nat}:
 ∀ (fuel:Nat) (I:Array Bool) (a:Act) (w:World),I.size=ops.size->sb ops I->i∈Region.ready .any ops I->
   (∀ (oi:Oper) (j:Nat) (oj:Oper),ops[i]? =some oi->ops[j]? =some oj->I.getD j true=false->j≠i->((jL ops.toList []).getD j 0).testBit i=false->oi.apart ops oj=true/\kO P oi oj=true)->
   mj P ops W B i (pJ P ops W B K fuel (I.setIfInBounds i true)) a w->pJ P ops W B K (fuel+1) I a w:=by
 simp only [cS,Bool.and_eq_true] at aw;obtain ⟨a8,ag⟩:=aw;have X:=Region.noSelect_spec a8;intro fuel
 induction fuel with
 |zero=>
  intro I a w V hs hr hp H;refine ⟨fun h=> (by rw [h] at hr;cases hr),fun j hj=> ?_⟩;by_cases J:j=i
  . subst J;exact H
  . obtain ⟨a',w',h,_⟩:=D' H;have:=ready_mono hj J;rw [h] at this;cases this
 |succ fuel ih=>
  intro I a w V hs hr hp H;refine ⟨fun h=> (by rw [h] at hr;cases hr),fun j hj=> ?_⟩;by_cases J:j=i
  . subst J;exact H
  . obtain ⟨av,oi,U,bx⟩:=mem_ready.1 hr;obtain ⟨Y,oj,Q,an⟩:=mem_ready.1 hj;have bb: ∀ {x:Nat} {o:Oper},ops[x]? =some o->x<I.size:=fun {x o} h=>by
     rcases Nat.lt_or_ge x ops.size with h'|h'
     . omega
     . simp [Array.getElem?_eq_none h'] at h
    have bv:I.getD i false=false:=by have:=bb U;simpa [this] using av
    have a_:((jL ops.toList []).getD j 0).testBit i=false:=by
     cases hb:((jL ops.toList []).getD j 0).testBit i with
     |false=>rfl
     |true=>
      have:=jR ag hs V j oj Q (fun e he bk=>an e (by simpa using he) bk) hb;rw [bv] at this;cases this
    have O:=hp oi j oj U Q Y J a_;have h1:mj P ops W B i (mj P ops W B j (pJ P ops W B K fuel ((I.setIfInBounds i true).setIfInBounds j true))) a w:=
     km (fun a w h=>h.2 j (ready_mono hj J)) H
    have h2:=LH a7 U Q O.1 O.2 (fun cs b=>X i oi cs b U) (fun cs b=>X j oj cs b Q) h1;refine km (fun a' w' h3=>ih (I.setIfInBounds j true) a' w' (by simpa using V) (hs.set V hj) (ready_mono hr (Ne.symm J)) ?_ ?_) h2
    . intro az k ok aa Z aT ax ar;by_cases ay:k=j
      . subst ay;exact hp az k ok aa Z Y ax ar
      . rw [getD_set_ne true (Ne.symm ay)] at aT;exact hp az k ok aa Z aT ax ar
    . rw [Array.setIfInBounds_comm _ _ J];exact h3
def IJ (P:Program) (ops:Array Oper) (W:World->Prop) (B:List Nat) (K:Act->World->Prop):List Nat->Act->World->Prop
 | []=>K
 |i::l=>mj P ops W B i (IJ P ops W B K l)
theorem rS (ap: ∃u,W u) (aw:p6 P ops=true) {K:Act->World->Prop}: ∀ (n k:Nat) (I:Array Bool) (a:Act) (w:World),k+n=ops.size->I.size=ops.size->
 (∀j,j<ops.size->I.getD j true=decide (j<k))->IJ P ops W B K (List.range' k n) a w->pJ P ops W B K n I a w
 |0,k,I,a,w,hk,aa,hl,h=>by
  refine ⟨?_,by simpa [IJ] using h⟩;cases hr:Region.ready .any ops I with
  |nil=>rfl
  |cons x xs=>
   have hx:x∈Region.ready .any ops I:=by rw [hr];exact List.mem_cons_self ..
   obtain ⟨Q,o,ho,_⟩:=mem_ready.1 hx;have a_:x<ops.size:=by
    rcases Nat.lt_or_ge x ops.size with J|J
    . exact J
    . simp [Array.getElem?_eq_none J] at ho
   rw [hl x a_] at Q;simp at Q;omega
 |n+1,k,I,a,w,hk,aa,hl,h=>by
  have ac:k<ops.size:=by omega
  have X:=aw;simp only [p6,cS,Bool.and_eq_true] at X;obtain ⟨⟨aT,O⟩,U⟩:=X;have ay:cS ops=true:=by simp only [cS,Bool.and_eq_true];exact ⟨aT,O⟩
  have ax: ∀j,j<ops.size->I.getD j false=decide (j<k):=fun j hj=>by
   have:=hl j hj;have a7:j<I.size:=by omega
   simpa [a7] using this
  have below: ∀j o,ops[j]? =some o->∀e∈o.after.toList,Region.binds .any e=true->e.on<j:=fun j o ho e he hb=>by
   have:=(iT ops.toList 0 O j o (by simpa using ho)).2;rw [Nat.zero_add] at this;exact eU _ this e he hb
  have hs:sb ops I:=by
   intro j o ho av e he hb;have Y:j<ops.size:=by
    rcases Nat.lt_or_ge j ops.size with J|J
    . exact J
    . simp [Array.getElem?_eq_none J] at ho
   rw [hl j Y] at av;have:=below j o ho e he hb;rw [ax e.on (by omega)];simp at av ⊢;omega
  have V:k∈Region.ready .any ops I:=by
   refine mem_ready.2 ⟨by rw [hl k ac];simp,ops[k],by simp [ac],fun e he hb=> ?_⟩;have:=below k ops[k] (by simp [ac]) e (by simpa using he) hb;rw [ax e.on (by omega)];simpa using this
  refine tA ap ay n I a w aa hs V ?_ ?_
  . intro oi j oj az an Q Z ar;have Y:j<ops.size:=by
     rcases Nat.lt_or_ge j ops.size with J|J
     . exact J
     . simp [Array.getElem?_eq_none J] at an
    have a6:k<j:=by
     rw [hl j Y] at Q;simp at Q;omega
    have:=pd ops.toList 0 U k j oi oj (by simpa using az) (by simpa using an) a6;rw [Nat.zero_add,Nat.zero_add] at this;rcases this with hb|h
    . rw [hb] at ar;cases ar
    . exact h
  change mj P ops W B _ _ a w at h;refine km (fun a' w' J=>rS ap aw n (k+1) (I.setIfInBounds k true) a' w' (by omega) (by simpa using aa) (fun j hj=> ?_) J) h;by_cases Z:j=k
  . subst Z;rw [jE (by omega)];simp
  . rw [getD_set_ne true (Ne.symm Z),hl j hj];simp;omega
end Go.Fw
