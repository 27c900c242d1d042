/- A statement whose order is open: one walk of the text's order serves every order. -/
import Derived.Test.YtbdghpjnifjlmaaGreatFwOps4
namespace Go.Fw
open Go
variable {P:Program} {ops:Array Oper}
theorem mi {K J:Value->World->Prop} {r:Result Next} (h:∀v w,K v w->J v w) (I:kV P K r):kV P J r:=by
 cases r with
 |halt=>exact I
 |ok n w=>
  cases n<;>simp only [kV] at I ⊢
  case value=>exact h _ _ I
  case skip=>exact h _ _ I
  case enter=>exact I.mono λe O ⟨v,he,Q⟩=>⟨v,he,h _ _ Q⟩
theorem Calls.some {f:FuncId} {args:Array Value} {w:World} {R:Ending->World->Prop} (h:Calls P f args w R):∃e w',R e w':=
 let ⟨e,w',_,r,_⟩:=h [];⟨e,w',r⟩
theorem qJ {K:Value->World->Prop} {r:Result Next} (I:kV P K r):∃v w,K v w:=by
 cases r with
 |halt=>exact I.elim
 |ok n w=>
  cases n<;>simp only [kV] at I
  case value=>exact ⟨_,_,I⟩
  case skip=>exact ⟨_,_,I⟩
  case enter=>obtain ⟨e,w',v,_,J⟩:=Calls.some I;exact ⟨v,w',J⟩
theorem Bw {k:Nat} {s:Sem Next} {w:World} {K O:Value->World->Prop} (h:∀v w,K v w->O v w) (I:xV P k s w K):xV P k s w O:=by
 match k with
 |0=>obtain ⟨v,h1,J⟩:=I;exact ⟨v,h1,h _ _ J⟩
 |1=>obtain ⟨v,h1,J⟩:=I;exact ⟨v,h1,h _ _ J⟩
 |_+2=>exact mi h I
def tA (P:Program) (ops:Array Oper) (o:Oper) (a:Act) (w:World) (K:Value->World->Prop):Prop:=
 if Region.wanted o (yielded ops a.tmps)=true then xV P (bC P o) (execOp a.eval o) w K else K undef w
theorem zM {o:Oper} {a:Act} {w:World} {K:Value->World->Prop} (I:Region.wanted o (yielded ops a.tmps)=true) (h:xV P (bC P o) (execOp a.eval o) w K):tA P ops o a w K:=by
 unfold tA;rw [if_pos I];exact h
theorem vD {o:Oper} {a:Act} {w:World} {K O:Value->World->Prop} (h:∀v w,K v w->O v w) (I:tA P ops o a w K):tA P ops o a w O:=by
 unfold tA at*
 split
 . rename_i J;rw [if_pos J] at I;exact Bw h I
 . rename_i J;rw [if_neg J] at I;exact h _ _ I
def oQ (P:Program) (ops:Array Oper) (o:Oper) (a:Act) (v:Value):Prop:=
 (Region.wanted o (yielded ops a.tmps)=true/\bC P o=0/\∀w,(execOp a.eval o).run P w=.ok (.value v) w)\/
 (Region.wanted o (yielded ops a.tmps)=false/\v=undef)
theorem oQ.bJ {o:Oper} {a:Act} {u v:Value} (h:oQ P ops o a u) (g:oQ P ops o a v):u=v:=by
 rcases h with ⟨h1,J,U⟩| ⟨h1,J⟩<;>rcases g with ⟨I,O,Q⟩| ⟨I,O⟩
 . have:=(U default).symm.trans (Q default);injection this with this;injection this
 . rw [h1] at I;cases I
 . rw [h1] at I;cases I
 . rw [J,O]
theorem oQ.tA {o:Oper} {a:Act} {v:Value} {w:World} {K:Value->World->Prop} (h:oQ P ops o a v) (I:K v w):tA P ops o a w K:=by
 unfold Go.Fw.tA;rcases h with ⟨h1,J,O⟩| ⟨h1,rfl⟩
 . rw [if_pos h1,J];exact ⟨v,O,I⟩
 . rw [if_neg (by simp [h1])];exact I
theorem oQ.tg {o:Oper} {v:Value} {a I:Act} (O:oQ P ops o a v) (he:execOp I.eval o=execOp a.eval o)
 (J:Region.wanted o (yielded ops I.tmps)=Region.wanted o (yielded ops a.tmps)):oQ P ops o I v:=by
 unfold oQ at*
 rw [he,J];exact O
theorem sW {o:Oper} {a:Act} {w:World} {K:Value->World->Prop} (h:tA P ops o a w K):
 (∃v,oQ P ops o a v/\K v w)\/
 (Region.wanted o (yielded ops a.tmps)=true/\bC P o=1/\∃v,(execOp a.eval o).run P w=.ok (.value v) w/\K v w)\/
 (Region.wanted o (yielded ops a.tmps)=true/\2<=bC P o/\kV P K ((execOp a.eval o).run P w)):=by
 unfold tA at h;by_cases I:Region.wanted o (yielded ops a.tmps)=true
 . rw [if_pos I] at h;cases J:bC P o with
   |zero=>rw [J] at h;obtain ⟨v,h1,O⟩:=h;exact .inl ⟨v,.inl ⟨I,J,h1⟩,O⟩
   |succ k=>
    cases k with
    |zero=>rw [J] at h;exact .inr (.inl ⟨I,rfl,h⟩)
    |succ k=>rw [J] at h;exact .inr (.inr ⟨I,by omega,h⟩)
 . rw [if_neg I] at h;exact .inl ⟨undef,.inr ⟨by simpa using I,rfl⟩,h⟩
theorem K8 {o:Oper} {a:Act} {w:World} {K:Value->World->Prop} (h:tA P ops o a w K):∃v w,K v w:=by
 rcases sW h with ⟨v,_,h⟩| ⟨_,_,v,_,h⟩| ⟨_,_,h⟩
 . exact ⟨_,_,h⟩
 . exact ⟨_,_,h⟩
 . exact qJ h
def wH (P:Program) (ops:Array Oper) (i:Nat) (K:Act->World->Prop) (a:Act) (w:World):Prop:=
 match ops[i]? with
 |none=>K a w
 |some o=>tA P ops o a w λv w'=>K (a.put o.dst v) w'
theorem fx {i:Nat} {K O:Act->World->Prop} {a:Act} {w:World} (h:∀a w,K a w->O a w) (I:wH P ops i K a w):wH P ops i O a w:=by
 unfold wH at*
 split
 . rename_i J;rw [J] at I;exact h _ _ I
 . rename_i o J;rw [J] at I;exact vD (λv w=>h _ _) I
theorem KM {i:Nat} {K:Act->World->Prop} {a:Act} {w:World} (I:wH P ops i K a w):∃J w',K J w':=by
 unfold wH at I;split at I
 . exact ⟨_,_,I⟩
 . obtain ⟨v,w,h⟩:=K8 I;exact ⟨_,_,h⟩
theorem comm {i j:Nat} {I J:Oper} (hi:ops[i]? =some I) (hj:ops[j]? =some J) (bb:I.apart ops J=true) (hk:oY P I J=true)
 (bf:∀cs b,I.op≠ .select cs b) (a7:∀cs b,J.op≠ .select cs b) {K:Act->World->Prop} {a:Act} {w:World}
 (h:wH P ops i (wH P ops j K) a w):wH P ops j (wH P ops i K) a w:=by
 obtain ⟨h1,h2,h3⟩:=Oper.apart_spec bb;have ei:∀ (a:Act) u,execOp (a.put J.dst u).eval I=execOp a.eval I:=λa u=>execOp_put I bf a J.dst u h3;have ej:∀ (a:Act) u,execOp (a.put I.dst u).eval J=execOp a.eval J:=λa u=>execOp_put J a7 a I.dst u h1;have wi:∀ (a:Act) u,Region.wanted I (yielded ops (a.put J.dst u).tmps)=Region.wanted I (yielded ops a.tmps):=λa u=>wanted_put I a J.dst u h3;have wj:∀ (a:Act) u,Region.wanted J (yielded ops (a.put I.dst u).tmps)=Region.wanted J (yielded ops a.tmps):=λa u=>wanted_put J a I.dst u h1;have cm:∀ (v u:Value),(a.put I.dst v).put J.dst u=(a.put J.dst u).put I.dst v:=λv u=>Act.put_comm a v u h2;unfold wH at*
 simp only [hi,hj] at*
 have ag:∀ {v:Value} {w:World} {L:Value->World->Prop},tA P ops J (a.put I.dst v) w L->tA P ops J a w L:=by
  intro v w L hh;unfold tA at*
  rw [ej,wj] at hh;exact hh
 have O:∀ {u:Value} {w:World} {L:Value->World->Prop},tA P ops I a w L->tA P ops I (a.put J.dst u) w L:=by
  intro u w L hh;unfold tA at*
  rw [ei,wi];exact hh
 rcases sW h with ⟨v,hp,hK⟩| ⟨Y,Z,v,hr,hK⟩| ⟨Y,Z,hU⟩
 ·
  refine vD (λu w' hk=>?_) (ag hK);refine (hp.tg (ei a u) (wi a u)).tA ?_;rw [<- cm];exact hk
 . rcases sW hK with ⟨u,ac,Q⟩| ⟨V,X,u,ax,Q⟩| ⟨V,X,_⟩
   . refine (ac.tg (ej a v).symm (wj a v).symm).tA ?_;refine O ?_;unfold tA;rw [if_pos Y,Z];exact ⟨v,hr,by rw [cm] at Q;exact Q⟩
   . rw [wj] at V;rw [ej] at ax;refine zM V ?_;rw [X];refine ⟨u,ax,zM ((wi a u).trans Y) ?_⟩;rw [Z,ei];exact ⟨v,hr,by rw [cm] at Q;exact Q⟩
   . exfalso;have an:Nat.beq (bC P I) 0=false:=by rw [Z];rfl
     have ap:Nat.beq (bC P J) 0=false:=by
      cases hb:Nat.beq (bC P J) 0 with
      |false=>rfl
      |true=>have:=UG hb;omega
     have a8:Nat.beq (bC P J) 1=false:=by
      cases hb:Nat.beq (bC P J) 1 with
      |false=>rfl
      |true=>have:=UG hb;omega
     simp only [oY,an,ap,a8,VS,X6,Xr] at hk;cases hk
 ·
  have U:∀ {v:Value} {w:World} {L:Value->World->Prop},tA P ops J (a.put I.dst v) w L->∃u,oQ P ops J a u/\L u w:=by
   intro v w L hh;rcases sW hh with ⟨u,ac,hL⟩| ⟨V,X,_⟩| ⟨V,X,_⟩
   . exact ⟨u,ac.tg (ej a v).symm (wj a v).symm,hL⟩
   all_goals
    exfalso;have an:Nat.beq (bC P I) 0=false:=by
     cases hb:Nat.beq (bC P I) 0 with
     |false=>rfl
     |true=>have:=UG hb;omega
    have a':Nat.beq (bC P I) 1=false:=by
     cases hb:Nat.beq (bC P I) 1 with
     |false=>rfl
     |true=>have:=UG hb;omega
    have ap:Nat.beq (bC P J) 0=false:=by
     cases hb:Nat.beq (bC P J) 0 with
     |false=>rfl
     |true=>have:=UG hb;omega
    simp only [oY,an,a',ap,Xf,X6] at hk;cases hk
  obtain ⟨v0,w0,a6⟩:=qJ hU;obtain ⟨u0,ay,_⟩:=U a6;refine ay.tA ?_;refine O ?_;unfold tA;rw [if_pos Y];have ar:kV P (λv w'=>K ((a.put J.dst u0).put I.dst v) w') ((execOp a.eval I).run P w):=by
   refine mi (λv w' hh=>?_) hU;obtain ⟨u,hp,hK⟩:=U hh;rw [<- ay.bJ hp,cm] at hK;exact hK
  match hq:bC P I with
  |0=>omega
  |1=>omega
  |_+2=>exact ar
end Go.Fw
