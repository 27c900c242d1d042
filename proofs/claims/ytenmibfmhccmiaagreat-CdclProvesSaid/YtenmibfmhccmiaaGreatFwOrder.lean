/- A statement whose order is open: one walk of the text's order serves every order. -/
import Derived.Test.YtenmibfmhccmiaaGreatFwOps4
namespace Go.Fw
open Go
variable {P:Program} {ops:Array Oper}
theorem jR {K J:Value->World->Prop} {r:Result Next} (h: ∀v w,K v w->J v w) (I:jA P K r):jA P J r:=by
 cases r with
 |halt=>exact I
 |ok n w=>
  cases n<;>simp only [jA] at I ⊢
  case value=>exact h _ _ I
  case skip=>exact h _ _ I
  case enter=>exact I.mono fun e Q ⟨v,he,O⟩=> ⟨v,he,h _ _ O⟩
theorem Calls.some {f:FuncId} {args:Array Value} {w:World} {R:Ending->World->Prop} (h:Calls P f args w R): ∃e w',R e w':=
 let ⟨e,w',_,r,_⟩:=h [];⟨e,w',r⟩
theorem oG {K:Value->World->Prop} {r:Result Next} (I:jA P K r): ∃v w,K v w:=by
 cases r with
 |halt=>exact I.elim
 |ok n w=>
  cases n<;>simp only [jA] at I
  case value=>exact ⟨_,_,I⟩
  case skip=>exact ⟨_,_,I⟩
  case enter=>obtain ⟨e,w',v,_,J⟩:=Calls.some I;exact ⟨v,w',J⟩
theorem yy {k:Nat} {s:Sem Next} {w:World} {K O:Value->World->Prop} (h: ∀v w,K v w->O v w) (I:tL P k s w K):tL P k s w O:=by
 match k with
 |0=>obtain ⟨v,h1,J⟩:=I;exact ⟨v,h1,h _ _ J⟩
 |1=>obtain ⟨v,h1,J⟩:=I;exact ⟨v,h1,h _ _ J⟩
 |_+2=>exact jR h I
def qj (P:Program) (ops:Array Oper) (o:Oper) (a:Act) (w:World) (K:Value->World->Prop):Prop:=
 if Region.wanted o (yielded ops a.tmps)=true then tL P (aZ P o) (execOp a.eval o) w K else K undef w
theorem vM {o:Oper} {a:Act} {w:World} {K:Value->World->Prop} (I:Region.wanted o (yielded ops a.tmps)=true) (h:tL P (aZ P o) (execOp a.eval o) w K):qj P ops o a w K:=by
 unfold qj;rw [if_pos I];exact h
theorem rC {o:Oper} {a:Act} {w:World} {K O:Value->World->Prop} (h: ∀v w,K v w->O v w) (I:qj P ops o a w K):qj P ops o a w O:=by
 unfold qj at*
 split
 . rename_i J;rw [if_pos J] at I;exact yy h I
 . rename_i J;rw [if_neg J] at I;exact h _ _ I
def lB (P:Program) (ops:Array Oper) (o:Oper) (a:Act) (v:Value):Prop:=
 (Region.wanted o (yielded ops a.tmps)=true/\aZ P o=0/\∀w,(execOp a.eval o).run P w= .ok (.value v) w)\/
 (Region.wanted o (yielded ops a.tmps)=false/\v=undef)
theorem lB.bH {o:Oper} {a:Act} {u v:Value} (h:lB P ops o a u) (g:lB P ops o a v):u=v:=by
 rcases h with ⟨h1,O,Q⟩| ⟨h1,O⟩<;>rcases g with ⟨I,J,U⟩| ⟨I,J⟩
 . have:=(Q default).symm.trans (U default);injection this with this;injection this
 . rw [h1] at I;cases I
 . rw [h1] at I;cases I
 . rw [O,J]
theorem lB.qj {o:Oper} {a:Act} {v:Value} {w:World} {K:Value->World->Prop} (h:lB P ops o a v) (I:K v w):qj P ops o a w K:=by
 unfold Go.Fw.qj;rcases h with ⟨h1,O,J⟩| ⟨h1,rfl⟩
 . rw [if_pos h1,O];exact ⟨v,J,I⟩
 . rw [if_neg (by simp [h1])];exact I
theorem lB.pW {o:Oper} {v:Value} {a I:Act} (O:lB P ops o a v) (he:execOp I.eval o=execOp a.eval o)
 (J:Region.wanted o (yielded ops I.tmps)=Region.wanted o (yielded ops a.tmps)):lB P ops o I v:=by
 unfold lB at*
 rw [he,J];exact O
theorem qa {o:Oper} {a:Act} {w:World} {K:Value->World->Prop} (h:qj P ops o a w K):
 (∃v,lB P ops o a v/\K v w)\/
 (Region.wanted o (yielded ops a.tmps)=true/\aZ P o=1/\∃v,(execOp a.eval o).run P w= .ok (.value v) w/\K v w)\/
 (Region.wanted o (yielded ops a.tmps)=true/\2<=aZ P o/\jA P K ((execOp a.eval o).run P w)):=by
 unfold qj at h;by_cases I:Region.wanted o (yielded ops a.tmps)=true
 . rw [if_pos I] at h;cases J:aZ P o with
   |zero=>rw [J] at h;obtain ⟨v,h1,O⟩:=h;exact .inl ⟨v,.inl ⟨I,J,h1⟩,O⟩
   |succ k=>
    cases k with
    |zero=>rw [J] at h;exact .inr (.inl ⟨I,rfl,h⟩)
    |succ k=>rw [J] at h;exact .inr (.inr ⟨I,by omega,h⟩)
 . rw [if_neg I] at h;exact .inl ⟨undef,.inr ⟨by simpa using I,rfl⟩,h⟩
theorem Ge {o:Oper} {a:Act} {w:World} {K:Value->World->Prop} (h:qj P ops o a w K): ∃v w,K v w:=by
 rcases qa h with ⟨v,_,h⟩| ⟨_,_,v,_,h⟩| ⟨_,_,h⟩
 . exact ⟨_,_,h⟩
 . exact ⟨_,_,h⟩
 . exact oG h
def sP (P:Program) (ops:Array Oper) (i:Nat) (K:Act->World->Prop) (a:Act) (w:World):Prop:=
 match ops[i]? with
 |none=>K a w
 |some o=>qj P ops o a w fun v w'=>K (a.put o.dst v) w'
theorem dQ {i:Nat} {K O:Act->World->Prop} {a:Act} {w:World} (h: ∀a w,K a w->O a w) (I:sP P ops i K a w):sP P ops i O a w:=by
 unfold sP at*
 split
 . rename_i J;rw [J] at I;exact h _ _ I
 . rename_i o J;rw [J] at I;exact rC (fun v w=>h _ _) I
theorem HK {i:Nat} {K:Act->World->Prop} {a:Act} {w:World} (I:sP P ops i K a w): ∃J w',K J w':=by
 unfold sP at I;split at I
 . exact ⟨_,_,I⟩
 . obtain ⟨v,w,h⟩:=Ge I;exact ⟨_,_,h⟩
theorem comm {i j:Nat} {I J:Oper} (hi:ops[i]? =some I) (hj:ops[j]? =some J) (a7:I.apart ops J=true) (hk:md P I J=true)
 (a8: ∀cs b,I.op≠ .select cs b) (aT: ∀cs b,J.op≠ .select cs b) {K:Act->World->Prop} {a:Act} {w:World}
 (h:sP P ops i (sP P ops j K) a w):sP P ops j (sP P ops i K) a w:=by
 obtain ⟨h1,h2,h3⟩:=Oper.apart_spec a7;have ei: ∀ (a:Act) u,execOp (a.put J.dst u).eval I=execOp a.eval I:=fun a u=>execOp_put I a8 a J.dst u h3;have ej: ∀ (a:Act) u,execOp (a.put I.dst u).eval J=execOp a.eval J:=fun a u=>execOp_put J aT a I.dst u h1;have wi: ∀ (a:Act) u,Region.wanted I (yielded ops (a.put J.dst u).tmps)=Region.wanted I (yielded ops a.tmps):=fun a u=>wanted_put I a J.dst u h3;have wj: ∀ (a:Act) u,Region.wanted J (yielded ops (a.put I.dst u).tmps)=Region.wanted J (yielded ops a.tmps):=fun a u=>wanted_put J a I.dst u h1;have cm: ∀ (v u:Value),(a.put I.dst v).put J.dst u=(a.put J.dst u).put I.dst v:=fun v u=>Act.put_comm a v u h2;unfold sP at*
 simp only [hi,hj] at*
 have an: ∀ {v:Value} {w:World} {L:Value->World->Prop},qj P ops J (a.put I.dst v) w L->qj P ops J a w L:=by
  intro v w L hh;unfold qj at*
  rw [ej,wj] at hh;exact hh
 have O: ∀ {u:Value} {w:World} {L:Value->World->Prop},qj P ops I a w L->qj P ops I (a.put J.dst u) w L:=by
  intro u w L hh;unfold qj at*
  rw [ei,wi];exact hh
 rcases qa h with ⟨v,hp,hK⟩| ⟨Z,Y,v,hr,hK⟩| ⟨Z,Y,hU⟩
 ·
  refine rC (fun u w' hk=> ?_) (an hK);refine (hp.pW (ei a u) (wi a u)).qj ?_;rw [<- cm];exact hk
 . rcases qa hK with ⟨u,ad,V⟩| ⟨U,X,u,aw,V⟩| ⟨U,X,_⟩
   . refine (ad.pW (ej a v).symm (wj a v).symm).qj ?_;refine O ?_;unfold qj;rw [if_pos Z,Y];exact ⟨v,hr,by rw [cm] at V;exact V⟩
   . rw [wj] at U;rw [ej] at aw;refine vM U ?_;rw [X];refine ⟨u,aw,vM ((wi a u).trans Z) ?_⟩;rw [Y,ei];exact ⟨v,hr,by rw [cm] at V;exact V⟩
   . exfalso;have ap:Nat.beq (aZ P I) 0=false:=by rw [Y];rfl
     have ag:Nat.beq (aZ P J) 0=false:=by
      cases hb:Nat.beq (aZ P J) 0 with
      |false=>rfl
      |true=>have:=Nat.eq_of_beq_eq_true hb;omega
     have bb:Nat.beq (aZ P J) 1=false:=by
      cases hb:Nat.beq (aZ P J) 1 with
      |false=>rfl
      |true=>have:=Nat.eq_of_beq_eq_true hb;omega
     simp only [md,ap,ag,bb,Bool.and_false,Bool.or_false,Bool.false_or] at hk;cases hk
 ·
  have Q: ∀ {v:Value} {w:World} {L:Value->World->Prop},qj P ops J (a.put I.dst v) w L->∃u,lB P ops J a u/\L u w:=by
   intro v w L hh;rcases qa hh with ⟨u,ad,hL⟩| ⟨U,X,_⟩| ⟨U,X,_⟩
   . exact ⟨u,ad.pW (ej a v).symm (wj a v).symm,hL⟩
   all_goals
    exfalso;have ap:Nat.beq (aZ P I) 0=false:=by
     cases hb:Nat.beq (aZ P I) 0 with
     |false=>rfl
     |true=>have:=Nat.eq_of_beq_eq_true hb;omega
    have a6:Nat.beq (aZ P I) 1=false:=by
     cases hb:Nat.beq (aZ P I) 1 with
     |false=>rfl
     |true=>have:=Nat.eq_of_beq_eq_true hb;omega
    have ag:Nat.beq (aZ P J) 0=false:=by
     cases hb:Nat.beq (aZ P J) 0 with
     |false=>rfl
     |true=>have:=Nat.eq_of_beq_eq_true hb;omega
    simp only [md,ap,a6,ag,Bool.false_and,Bool.or_false] at hk;cases hk
  obtain ⟨v0,w0,bc⟩:=oG hU;obtain ⟨u0,ax,_⟩:=Q bc;refine ax.qj ?_;refine O ?_;unfold qj;rw [if_pos Z];have ac:jA P (fun v w'=>K ((a.put J.dst u0).put I.dst v) w') ((execOp a.eval I).run P w):=by
   refine jR (fun v w' hh=> ?_) hU;obtain ⟨u,hp,hK⟩:=Q hh;rw [<- ax.bH hp,cm] at hK;exact hK
  match hq:aZ P I with
  |0=>omega
  |1=>omega
  |_+2=>exact ac
end Go.Fw
