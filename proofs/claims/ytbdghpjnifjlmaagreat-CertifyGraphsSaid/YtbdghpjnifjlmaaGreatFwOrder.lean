/- A statement whose order is open: one walk of the text's order serves every order. -/
import Derived.Test.YtbdghpjnifjlmaaGreatFwOps4
set_option linter.all false
namespace Go.Fw
open Go
variable{P:Program}{ops:Array Oper}
theorem l9{K J:Value->World->Prop}{r:Result Next}(h:∀v w,K v w->J v w)(I:lK P K r):lK P J r:=by
 cases r with
 |halt=>exact I
 |ok n w=>
  cases n<;>simp only[lK]at I ⊢
  case value=>exact h _ _ I
  case skip=>exact h _ _ I
  case enter=>exact I.mono λe Q ⟨v,he,O⟩=>⟨v,he,h _ _ O⟩
theorem Calls.some{f:FuncId}{args:Array Value}{w:World}{R:Ending->World->Prop}(h:Calls P f args w R):∃e w',R e w':=
 let ⟨e,w',_,r,_⟩:=h [];⟨e,w',r⟩
theorem qQ{K:Value->World->Prop}{r:Result Next}(I:lK P K r):∃v w,K v w:=by
 cases r with
 |halt=>exact I.elim
 |ok n w=>
  cases n<;>simp only[lK]at I
  case value=>exact⟨_,_,I⟩
  case skip=>exact⟨_,_,I⟩
  case enter=>obtain⟨e,w',v,_,J⟩:=Calls.some I;exact⟨v,w',J⟩
theorem Cd{k:Nat}{s:Sem Next}{w:World}{K O:Value->World->Prop}(h:∀v w,K v w->O v w)(J:yA P k s w K):yA P k s w O:=by
 match k with
 |0=>obtain⟨v,h1,I⟩:=J;exact⟨v,h1,h _ _ I⟩
 |1=>obtain⟨v,h1,I⟩:=J;exact⟨v,h1,h _ _ I⟩
 |_+2=>exact l9 h J
def tS(P:Program)(ops:Array Oper)(o:Oper)(a:Act)(w:World)(K:Value->World->Prop):Prop:=
 if Region.wanted o (yielded ops a.tmps)=true then yA P (bF P o) (execOp a.eval o) w K else K undef w
theorem AN{o:Oper}{a:Act}{w:World}{K:Value->World->Prop}(I:Region.wanted o (yielded ops a.tmps)=true)(h:yA P (bF P o) (execOp a.eval o) w K):tS P ops o a w K:=by
 unfold tS;rw[v8 I];exact h
theorem uY{o:Oper}{a:Act}{w:World}{K O:Value->World->Prop}(h:∀v w,K v w->O v w)(I:tS P ops o a w K):tS P ops o a w O:=by
 unfold tS at*
 split
 .rename_i J;rw[v8 J]at I;exact Cd h I
 .rename_i J;rw[r8 J]at I;exact h _ _ I
def oF(P:Program)(ops:Array Oper)(o:Oper)(a:Act)(v:Value):Prop:=
 (Region.wanted o (yielded ops a.tmps)=true/\bF P o=0/\∀w,(execOp a.eval o).run P w=.ok (.value v) w)\/
 (Region.wanted o (yielded ops a.tmps)=false/\v=undef)
theorem oF.bP{o:Oper}{a:Act}{u v:Value}(h:oF P ops o a u)(g:oF P ops o a v):u=v:=by
 rcases h with⟨h1,J,U⟩| ⟨h1,J⟩<;>rcases g with⟨I,O,Q⟩| ⟨I,O⟩
 .have:=(U default).symm.trans (Q default);injection this with this;injection this
 .rw [h1]at I;cases I
 .rw [h1]at I;cases I
 .rw [J,O]
theorem oF.tS{o:Oper}{a:Act}{v:Value}{w:World}{K:Value->World->Prop}(h:oF P ops o a v)(I:K v w):tS P ops o a w K:=by
 unfold Go.Fw.tS;rcases h with⟨h1,J,O⟩| ⟨h1,rfl⟩
 .rw [v8 h1,J];exact⟨v,O,I⟩
 .rw [r8 (by simp[h1])];exact I
theorem oF.tJ{o:Oper}{v:Value}{a I:Act}(J:oF P ops o a v)(he:execOp I.eval o=execOp a.eval o)
 (O:Region.wanted o (yielded ops I.tmps)=Region.wanted o (yielded ops a.tmps)):oF P ops o I v:=by
 unfold oF at*
 rw[he,O];exact J
theorem tD{o:Oper}{a:Act}{w:World}{K:Value->World->Prop}(h:tS P ops o a w K):
 (∃v,oF P ops o a v/\K v w)\/
 (Region.wanted o (yielded ops a.tmps)=true/\bF P o=1/\∃v,(execOp a.eval o).run P w=.ok (.value v) w/\K v w)\/
 (Region.wanted o (yielded ops a.tmps)=true/\2<=bF P o/\lK P K ((execOp a.eval o).run P w)):=by
 unfold tS at h;by_cases I:Region.wanted o (yielded ops a.tmps)=true
 .rw [v8 I]at h;cases J:bF P o with
  |zero=>rw[J]at h;obtain⟨v,h1,O⟩:=h;exact .inl ⟨v,.inl ⟨I,J,h1⟩,O⟩
  |succ k=>
   cases k with
   |zero=>rw[J]at h;exact .inr (.inl ⟨I,rfl,h⟩)
   |succ k=>rw[J]at h;exact .inr (.inr ⟨I,by omega,h⟩)
 .rw [r8 I]at h;exact .inl ⟨undef,.inr ⟨by simpa using I,rfl⟩,h⟩
theorem M_{o:Oper}{a:Act}{w:World}{K:Value->World->Prop}(h:tS P ops o a w K):∃v w,K v w:=by
 rcases tD h with⟨v,_,h⟩| ⟨_,_,v,_,h⟩| ⟨_,_,h⟩
 .exact ⟨_,_,h⟩
 .exact ⟨_,_,h⟩
 .exact qQ h
def xB(P:Program)(ops:Array Oper)(i:Nat)(K:Act->World->Prop)(a:Act)(w:World):Prop:=
 match ops[i]? with
 |none=>K a w
 |some o=>tS P ops o a w λv w'=>K (a.put o.dst v) w'
theorem fx{i:Nat}{K O:Act->World->Prop}{a:Act}{w:World}(h:∀a w,K a w->O a w)(I:xB P ops i K a w):xB P ops i O a w:=by
 unfold xB at*
 split
 .rename_i J;rw[J]at I;exact h _ _ I
 .rename_i o J;rw[J]at I;exact uY (λv w=>h _ _) I
theorem LA{i:Nat}{K:Act->World->Prop}{a:Act}{w:World}(I:xB P ops i K a w):∃J w',K J w':=by
 unfold xB at I;split at I
 .exact ⟨_,_,I⟩
 .obtain ⟨v,w,h⟩:=M_ I;exact⟨_,_,h⟩
theorem comm{i j:Nat}{I J:Oper}(hi:ops[i]? =some I)(hj:ops[j]? =some J)(bg:I.apart ops J=true)(hk:pG P I J=true)
 (a_:∀cs b,I.op≠ .select cs b) (a6:∀cs b,J.op≠ .select cs b) {K:Act->World->Prop} {a:Act} {w:World}
 (h:xB P ops i (xB P ops j K) a w):xB P ops j (xB P ops i K) a w:=by
 obtain⟨h1,h2,h3⟩:=Oper.apart_spec bg;have ei:∀ (a:Act) u,execOp (a.put J.dst u).eval I=execOp a.eval I:=λa u=>execOp_put I a_ a J.dst u h3;have ej:∀ (a:Act) u,execOp (a.put I.dst u).eval J=execOp a.eval J:=λa u=>execOp_put J a6 a I.dst u h1;have wi:∀ (a:Act) u,Region.wanted I (yielded ops (a.put J.dst u).tmps)=Region.wanted I (yielded ops a.tmps):=λa u=>wanted_put I a J.dst u h3;have wj:∀ (a:Act) u,Region.wanted J (yielded ops (a.put I.dst u).tmps)=Region.wanted J (yielded ops a.tmps):=λa u=>wanted_put J a I.dst u h1;have cm:∀ (v u:Value),(a.put I.dst v).put J.dst u=(a.put J.dst u).put I.dst v:=λv u=>Act.put_comm a v u h2;unfold xB at*
 simp only[hi,hj]at*
 have an:∀ {v:Value} {w:World} {L:Value->World->Prop},tS P ops J (a.put I.dst v) w L->tS P ops J a w L:=by
  intro v w L hh;unfold tS at*
  rw[ej,wj]at hh;exact hh
 have O:∀ {u:Value} {w:World} {L:Value->World->Prop},tS P ops I a w L->tS P ops I (a.put J.dst u) w L:=by
  intro u w L hh;unfold tS at*
  rw[ei,wi];exact hh
 rcases tD h with⟨v,hp,hK⟩| ⟨Z,X,v,hr,hK⟩| ⟨Z,X,hU⟩
 ·
  refine uY (λu w' hk=>?_) (an hK);refine(hp.tJ (ei a u) (wi a u)).tS ?_;rw[<- cm];exact hk
 .rcases tD hK with⟨u,ac,U⟩| ⟨Q,Y,u,ax,U⟩| ⟨Q,Y,_⟩
  .refine (ac.tJ (ej a v).symm (wj a v).symm).tS ?_;refine O ?_;unfold tS;rw[v8 Z,X];exact⟨v,hr,by rw[cm]at U;exact U⟩
  .rw [wj]at Q;rw[ej]at ax;refine AN Q ?_;rw[Y];refine⟨u,ax,AN ((wi a u).trans Z) ?_⟩;rw[X,ei];exact⟨v,hr,by rw[cm]at U;exact U⟩
  .exfalso;have ag:Nat.beq (bF P I) 0=false:=by rw[X];rfl
   have ap:Nat.beq (bF P J) 0=false:=by
    cases hb:Nat.beq (bF P J) 0 with
    |false=>rfl
    |true=>have:=V_ hb;omega
   have bf:Nat.beq (bF P J) 1=false:=by
    cases hb:Nat.beq (bF P J) 1 with
    |false=>rfl
    |true=>have:=V_ hb;omega
   simp only[pG,ag,ap,bf,Xa,XJ,Yc]at hk;cases hk
 ·
  have V:∀ {v:Value} {w:World} {L:Value->World->Prop},tS P ops J (a.put I.dst v) w L->∃u,oF P ops J a u/\L u w:=by
   intro v w L hh;rcases tD hh with⟨u,ac,hL⟩| ⟨Q,Y,_⟩| ⟨Q,Y,_⟩
   .exact ⟨u,ac.tJ (ej a v).symm (wj a v).symm,hL⟩
   all_goals
    exfalso;have ag:Nat.beq (bF P I) 0=false:=by
     cases hb:Nat.beq (bF P I) 0 with
     |false=>rfl
     |true=>have:=V_ hb;omega
    have a8:Nat.beq (bF P I) 1=false:=by
     cases hb:Nat.beq (bF P I) 1 with
     |false=>rfl
     |true=>have:=V_ hb;omega
    have ap:Nat.beq (bF P J) 0=false:=by
     cases hb:Nat.beq (bF P J) 0 with
     |false=>rfl
     |true=>have:=V_ hb;omega
    simp only[pG,ag,a8,ap,XY,XJ]at hk;cases hk
  obtain⟨v0,w0,a'⟩:=qQ hU;obtain⟨u0,ay,_⟩:=V a';refine ay.tS ?_;refine O ?_;unfold tS;rw[v8 Z];have ar:lK P (λv w'=>K ((a.put J.dst u0).put I.dst v) w') ((execOp a.eval I).run P w):=by
   refine l9 (λv w' hh=>?_) hU;obtain⟨u,hp,hK⟩:=V hh;rw[<- ay.bP hp,cm]at hK;exact hK
  match hq:bF P I with
  |0=>omega
  |1=>omega
  |_+2=>exact ar
