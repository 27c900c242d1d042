/- A statement whose order is open: one walk of the text's order serves every order. -/
import Derived.Test.YtenmibfmhccmiaaGreatFwOps4
namespace Go.Fw
open Go
variable {P:Program} {ops:Array Oper}
theorem jq {K J:Value->World->Prop} {r:Result Next} (h: ∀v w,K v w->J v w) (I:i4 P K r):i4 P J r:=by
 cases r with
 |halt=>exact I
 |ok n w=>
  cases n<;>simp only [i4] at I ⊢
  case value=>exact h _ _ I
  case skip=>exact h _ _ I
  case enter=>exact I.mono fun e O ⟨v,he,Q⟩=> ⟨v,he,h _ _ Q⟩
theorem Calls.some {f:FuncId} {args:Array Value} {w:World} {R:Ending->World->Prop} (h:Calls P f args w R): ∃e w',R e w':=
 let ⟨e,w',_,r,_⟩:=h [];⟨e,w',r⟩
theorem mY {K:Value->World->Prop} {r:Result Next} (I:i4 P K r): ∃v w,K v w:=by
 cases r with
 |halt=>exact I.elim
 |ok n w=>
  cases n<;>simp only [i4] at I
  case value=>exact ⟨_,_,I⟩
  case skip=>exact ⟨_,_,I⟩
  case enter=>obtain ⟨e,w',v,_,J⟩:=Calls.some I;exact ⟨v,w',J⟩
theorem vL {k:Nat} {s:Sem Next} {w:World} {K O:Value->World->Prop} (h: ∀v w,K v w->O v w) (J:si P k s w K):si P k s w O:=by
 match k with
 |0=>obtain ⟨v,h1,I⟩:=J;exact ⟨v,h1,h _ _ I⟩
 |1=>obtain ⟨v,h1,I⟩:=J;exact ⟨v,h1,h _ _ I⟩
 |_+2=>exact jq h J
def oU (P:Program) (ops:Array Oper) (o:Oper) (a:Act) (w:World) (K:Value->World->Prop):Prop:=
 if Region.wanted o (yielded ops a.tmps)=true then si P (aZ P o) (execOp a.eval o) w K else K undef w
theorem t7 {o:Oper} {a:Act} {w:World} {K:Value->World->Prop} (I:Region.wanted o (yielded ops a.tmps)=true) (h:si P (aZ P o) (execOp a.eval o) w K):oU P ops o a w K:=by
 unfold oU;rw [if_pos I];exact h
theorem qe {o:Oper} {a:Act} {w:World} {K O:Value->World->Prop} (h: ∀v w,K v w->O v w) (I:oU P ops o a w K):oU P ops o a w O:=by
 unfold oU at*
 split
 . rename_i J;rw [if_pos J] at I;exact vL h I
 . rename_i J;rw [if_neg J] at I;exact h _ _ I
def kV (P:Program) (ops:Array Oper) (o:Oper) (a:Act) (v:Value):Prop:=
 (Region.wanted o (yielded ops a.tmps)=true/\aZ P o=0/\∀w,(execOp a.eval o).run P w= .ok (.value v) w)\/
 (Region.wanted o (yielded ops a.tmps)=false/\v=undef)
theorem kV.bS {o:Oper} {a:Act} {u v:Value} (h:kV P ops o a u) (g:kV P ops o a v):u=v:=by
 rcases h with ⟨h1,J,U⟩| ⟨h1,J⟩<;>rcases g with ⟨I,O,Q⟩| ⟨I,O⟩
 . have:=(U default).symm.trans (Q default);injection this with this;injection this
 . rw [h1] at I;cases I
 . rw [h1] at I;cases I
 . rw [J,O]
theorem kV.oU {o:Oper} {a:Act} {v:Value} {w:World} {K:Value->World->Prop} (h:kV P ops o a v) (I:K v w):oU P ops o a w K:=by
 unfold Go.Fw.oU;rcases h with ⟨h1,J,O⟩| ⟨h1,rfl⟩
 . rw [if_pos h1,J];exact ⟨v,O,I⟩
 . rw [if_neg (by simp [h1])];exact I
theorem kV.om {o:Oper} {v:Value} {a I:Act} (J:kV P ops o a v) (he:execOp I.eval o=execOp a.eval o)
 (O:Region.wanted o (yielded ops I.tmps)=Region.wanted o (yielded ops a.tmps)):kV P ops o I v:=by
 unfold kV at*
 rw [he,O];exact J
theorem ow {o:Oper} {a:Act} {w:World} {K:Value->World->Prop} (h:oU P ops o a w K):
 (∃v,kV P ops o a v/\K v w)\/
 (Region.wanted o (yielded ops a.tmps)=true/\aZ P o=1/\∃v,(execOp a.eval o).run P w= .ok (.value v) w/\K v w)\/
 (Region.wanted o (yielded ops a.tmps)=true/\2<=aZ P o/\i4 P K ((execOp a.eval o).run P w)):=by
 unfold oU at h;by_cases I:Region.wanted o (yielded ops a.tmps)=true
 . rw [if_pos I] at h;cases J:aZ P o with
   |zero=>rw [J] at h;obtain ⟨v,h1,O⟩:=h;exact .inl ⟨v,.inl ⟨I,J,h1⟩,O⟩
   |succ k=>
    cases k with
    |zero=>rw [J] at h;exact .inr (.inl ⟨I,rfl,h⟩)
    |succ k=>rw [J] at h;exact .inr (.inr ⟨I,by omega,h⟩)
 . rw [if_neg I] at h;exact .inl ⟨undef,.inr ⟨by simpa using I,rfl⟩,h⟩
theorem E_ {o:Oper} {a:Act} {w:World} {K:Value->World->Prop} (h:oU P ops o a w K): ∃v w,K v w:=by
 rcases ow h with ⟨v,_,h⟩| ⟨_,_,v,_,h⟩| ⟨_,_,h⟩
 . exact ⟨_,_,h⟩
 . exact ⟨_,_,h⟩
 . exact mY h
def rz (P:Program) (ops:Array Oper) (i:Nat) (K:Act->World->Prop) (a:Act) (w:World):Prop:=
 match ops[i]? with
 |none=>K a w
 |some o=>oU P ops o a w fun v w'=>K (a.put o.dst v) w'
theorem d6 {i:Nat} {K O:Act->World->Prop} {a:Act} {w:World} (h: ∀a w,K a w->O a w) (I:rz P ops i K a w):rz P ops i O a w:=by
 unfold rz at*
 split
 . rename_i J;rw [J] at I;exact h _ _ I
 . rename_i o J;rw [J] at I;exact qe (fun v w=>h _ _) I
theorem GK {i:Nat} {K:Act->World->Prop} {a:Act} {w:World} (I:rz P ops i K a w): ∃J w',K J w':=by
 unfold rz at I;split at I
 . exact ⟨_,_,I⟩
 . obtain ⟨v,w,h⟩:=E_ I;exact ⟨_,_,h⟩
theorem comm {i j:Nat} {J I:Oper} (hi:ops[i]? =some J) (hj:ops[j]? =some I) (a6:J.apart ops I=true) (hk:lB P J I=true)
 (bk: ∀cs b,J.op≠ .select cs b) (a_: ∀cs b,I.op≠ .select cs b) {K:Act->World->Prop} {a:Act} {w:World}
 (h:rz P ops i (rz P ops j K) a w):rz P ops j (rz P ops i K) a w:=by
 obtain ⟨h1,h2,h3⟩:=Oper.apart_spec a6;have ei: ∀ (a:Act) u,execOp (a.put I.dst u).eval J=execOp a.eval J:=fun a u=>execOp_put J bk a I.dst u h3;have ej: ∀ (a:Act) u,execOp (a.put J.dst u).eval I=execOp a.eval I:=fun a u=>execOp_put I a_ a J.dst u h1;have wi: ∀ (a:Act) u,Region.wanted J (yielded ops (a.put I.dst u).tmps)=Region.wanted J (yielded ops a.tmps):=fun a u=>wanted_put J a I.dst u h3;have wj: ∀ (a:Act) u,Region.wanted I (yielded ops (a.put J.dst u).tmps)=Region.wanted I (yielded ops a.tmps):=fun a u=>wanted_put I a J.dst u h1;have cm: ∀ (v u:Value),(a.put J.dst v).put I.dst u=(a.put I.dst u).put J.dst v:=fun v u=>Act.put_comm a v u h2;unfold rz at*
 simp only [hi,hj] at*
 have ag: ∀ {v:Value} {w:World} {L:Value->World->Prop},oU P ops I (a.put J.dst v) w L->oU P ops I a w L:=by
  intro v w L hh;unfold oU at*
  rw [ej,wj] at hh;exact hh
 have O: ∀ {u:Value} {w:World} {L:Value->World->Prop},oU P ops J a w L->oU P ops J (a.put I.dst u) w L:=by
  intro u w L hh;unfold oU at*
  rw [ei,wi];exact hh
 rcases ow h with ⟨v,hp,hK⟩| ⟨Z,X,v,hr,hK⟩| ⟨Z,X,hU⟩
 ·
  refine qe (fun u w' hk=> ?_) (ag hK);refine (hp.om (ei a u) (wi a u)).oU ?_;rw [<- cm];exact hk
 . rcases ow hK with ⟨u,ar,V⟩| ⟨Q,Y,u,ax,V⟩| ⟨Q,Y,_⟩
   . refine (ar.om (ej a v).symm (wj a v).symm).oU ?_;refine O ?_;unfold oU;rw [if_pos Z,X];exact ⟨v,hr,by rw [cm] at V;exact V⟩
   . rw [wj] at Q;rw [ej] at ax;refine t7 Q ?_;rw [Y];refine ⟨u,ax,t7 ((wi a u).trans Z) ?_⟩;rw [X,ei];exact ⟨v,hr,by rw [cm] at V;exact V⟩
   . exfalso;have ac:Nat.beq (aZ P J) 0=false:=by rw [X];rfl
     have ap:Nat.beq (aZ P I) 0=false:=by
      cases hb:Nat.beq (aZ P I) 0 with
      |false=>rfl
      |true=>have:=Nat.eq_of_beq_eq_true hb;omega
     have a':Nat.beq (aZ P I) 1=false:=by
      cases hb:Nat.beq (aZ P I) 1 with
      |false=>rfl
      |true=>have:=Nat.eq_of_beq_eq_true hb;omega
     simp only [lB,ac,ap,a',Bool.and_false,Bool.or_false,Bool.false_or] at hk;cases hk
 ·
  have U: ∀ {v:Value} {w:World} {L:Value->World->Prop},oU P ops I (a.put J.dst v) w L->∃u,kV P ops I a u/\L u w:=by
   intro v w L hh;rcases ow hh with ⟨u,ar,hL⟩| ⟨Q,Y,_⟩| ⟨Q,Y,_⟩
   . exact ⟨u,ar.om (ej a v).symm (wj a v).symm,hL⟩
   all_goals
    exfalso;have ac:Nat.beq (aZ P J) 0=false:=by
     cases hb:Nat.beq (aZ P J) 0 with
     |false=>rfl
     |true=>have:=Nat.eq_of_beq_eq_true hb;omega
    have bv:Nat.beq (aZ P J) 1=false:=by
     cases hb:Nat.beq (aZ P J) 1 with
     |false=>rfl
     |true=>have:=Nat.eq_of_beq_eq_true hb;omega
    have ap:Nat.beq (aZ P I) 0=false:=by
     cases hb:Nat.beq (aZ P I) 0 with
     |false=>rfl
     |true=>have:=Nat.eq_of_beq_eq_true hb;omega
    simp only [lB,ac,bv,ap,Bool.false_and,Bool.or_false] at hk;cases hk
  obtain ⟨v0,w0,bb⟩:=mY hU;obtain ⟨u0,ay,_⟩:=U bb;refine ay.oU ?_;refine O ?_;unfold oU;rw [if_pos Z];have an:i4 P (fun v w'=>K ((a.put I.dst u0).put J.dst v) w') ((execOp a.eval J).run P w):=by
   refine jq (fun v w' hh=> ?_) hU;obtain ⟨u,hp,hK⟩:=U hh;rw [<- ay.bS hp,cm] at hK;exact hK
  match hq:aZ P J with
  |0=>omega
  |1=>omega
  |_+2=>exact an
end Go.Fw
