/- Layer 1: the models that numbers tell. -/
import Derived.Test.YtbdghpjnifjlmaaGreatSortA
import Derived.Test.YtbdghpjnifjlmaaGreatRupC
import Derived.Test.YtbdghpjnifjlmaaGreatLitA
set_option linter.unusedVariables false
namespace Go.Proofs.YtbdghpjnifjlmaaGreat.W
open Go Go.Fw Go.RowKit
section
theorem N5:nE Tryz.prog aE aq 8=true:=by kernel_rfl
theorem sH {k n:Nat} (hk:k<=1000000) (hn:n<=1000000000000) (w:World):
 Calls Tryz.prog dW.id #[.i (k:Int),.i (n:Int)] w λe w'=> (∃p c,e=.returned (.slice p k c)/\dz aq w' p c (ie k n)/\∀j,aG p=some j->w.heap.size<=j)/\ak w w':=by
 refine dW.aj ?_;intro n1 w2 h2;have e1:=h2.num;have O2:dz aq w2 (some ⟨n1,0,none⟩) 0 []:=Ow.df h2.at (y4 _) (vx _) rfl rfl;refine ⟨λb pm J cm v w' z=>∃ (t r:Nat) (o:List Int),b=r/\r<=1000000000000/\v=t/\t<=k/\o++ie (k - t) r=ie k n/\o.length=t/\J=t/\dz aq w' pm cm o/\(∀j,aG pm=some j->w.heap.size<=j)/\ak w w'/\z+t=k,
  ⟨k,0,n,[],rfl,hn,rfl,vx _,rfl,rfl,rfl,O2,λj Z=>by have:=aL Z;omega,h2.mod,rfl⟩,?_⟩
 clear O2;rintro b pm J cm v w9 z _ ⟨t,r,o,rfl,hr,rfl,ht,ho,hl,rfl,O,fr,G,hz⟩;refine ah (λs=>?_) (λs=>?_)<;>simp only [decide_eq_true_eq,decide_eq_false_iff_not] at s
 . have az:J<k:=by omega
   have ek:k - J=(k - (J+1))+1:=by omega
   rw [ek,ie] at ho;have d1:((r:Int)).tdiv 2=((r / 2:Nat):Int):=by rw [Wg (by omega)];omega
   have d2:((r:Int)).tmod 2=((r % 2:Nat):Int):=by rw [XZ (by omega)];omega
   have d3:IntKind.i64.wrap ((r / 2:Nat):Int)=((r / 2:Nat):Int):=aA (by omega) (by omega);have next:∀ (y:Int),y=(if r % 2=1 then 1 else -1)->∀Y X,jI (.cells #[.i y] 3) w9 Y X->
    ∃Q I U V,(Builtin.append_ #[aE,aE] aE #[.slice pm J cm,.slice (some (qw Y)) 1 1]).run Tryz.prog X=.ok (.slice I U V) Q/\
    (2:Int)≠0/\∃k5:Nat,k5<z/\∃ (t r':Nat) (o:List Int),((r / 2:Nat):Int)=r'/\r'<=1000000000000/\IntKind.i64.wrap ((J:Int)+1)=t/\t<=k/\o++ie (k - t) r'=ie k n/\o.length=t/\U=t/\dz aq Q I V o/\(∀j,aG I=some j->w.heap.size<=j)/\ak w Q/\k5+t=k:=by
    rintro y rfl Y X lU;refine (O.grow lU.mod).lP N5 _ lU.has rfl hl.symm fz (by omega) λQ ay a_ ap ar hp a6=>⟨by decide,z - 1,by omega,J+1,r / 2,_,rfl,by omega,by rw [aA (by omega) (by omega)];omega,by omega,?_,by simp [hl],by omega,ap,λj Z=>?_,(G.trans lU.mod).then ar λj Z e=>by have:=fr j e;omega,by omega⟩
    . rw [U6];exact ho
    . rcases hp with h1|h1<;>rw [h1] at Z
      . exact fr j Z
      . have:=aL Z;have:=(G.trans lU.mod).size;omega
   rw [d1,d2,d3];refine ⟨by decide,ah (λs2=>next 1 ?_) (λs2=>next (-1) ?_)⟩<;>simp only [beq_iff_eq,beq_eq_false_iff_ne] at s2
   . rw [if_pos (by omega)]
   . rw [if_neg (by omega)]
 . have:J=k:=by omega
   subst this;rw [Ya,ie,VF] at ho;subst ho;exact ⟨⟨pm,cm,rfl,O,fr⟩,G⟩
end
section
open Go.SoP Go.LiP
variable {cs:List (List Int)} {c d T:List Int} {P:Int->Prop}
def NM (P:Int->Prop) (cs:List (List Int)):Prop:=∀c∈cs,∃x∈c,P x
structure PY (P:Int->Prop):Prop where
 TE:∀x,P (-x)->¬P x
 tC:∀x,x≠0->P x\/P (-x)
theorem KC (U:NZ cs) (Y:∀x,P (-x)->¬P x) (O:NM P cs) (X:∀x∈d,P x) (h:zY cs d T):∀x∈T,P x:=by
 induction h with
 |refl=>exact X
 |step h1 h2 h3 Q=>
  rename_i t c;intro x I;rcases F'.1 I with I|I
  . exact Q x I
  . rw [Bs] at I;obtain ⟨a1,a2,a3,a4⟩:=mW (U _ h2) h3;obtain ⟨y,V,J⟩:=O _ h2;rcases a4 y V with e|e
    . rw [I,<- e];exact J
    . exact absurd J (Y y (Q _ e))
theorem CY (hz:NZ cs) (X:∀x,P (-x)->¬P x) (J:NM P cs) (Y:∀x∈c,P x\/P (-x)) (hu:uB cs c):∃x∈c,P x:=by
 rcases hu with ht| ⟨T,Z,y,hy,hb⟩
 . obtain ⟨x,I,O⟩:=lE.1 ht;exact (Y x I).elim (λh=>⟨x,I,h⟩) λh=>⟨-x,O,h⟩
 . refine UP λU=>?_;have hn:∀x∈pM c,P x:=λx I=>by
    rw [pQ] at I;have:=(Y _ I).resolve_left λh=>U ⟨_,I,h⟩
    rwa [U_] at this
   have hT:=KC hz X J hn Z;obtain ⟨z,Q,V⟩:=J y hy;exact X z (hT _ (cx.1 hb z Q)) V
def R4 (P:Int->Prop) (l:Int) (x:Int):Prop:=(bh x≠bh l/\P x)\/x=l
theorem K3 (h:PY P) {l:Int} (hl:l≠0):PY (R4 P l):=by
 refine ⟨λx J I=>?_,λx J=>?_⟩
 . rcases J with ⟨a,b⟩|e
   . rcases I with ⟨_,Q⟩|O
     . exact h.TE x b Q
     . rw [O,kX] at a;exact a rfl
   . rcases I with ⟨a,_⟩|O
     . rw [<- e,kX] at a;exact a rfl
     . omega
 . by_cases e:bh x=bh l
   . rcases wQ e with e|e
     . exact .inl (.inr e)
     . exact .inr (.inr (by omega))
   . rcases h.tC x J with h|h
     . exact .inl (.inl ⟨e,h⟩)
     . exact .inr (.inl ⟨by rw [kX];exact e,h⟩)
theorem O5 {k:List Int} (hz:NZ cs) (hk:∀x∈k,x≠0) (h:PY P) (J:NM P cs) (hf:fB cs k):∃X,PY X/\NM X cs/\∃x∈k,X x:=by
 by_cases hs:∃x∈k,P x
 . exact ⟨P,h,J,hs⟩
 obtain ⟨O,Q⟩:=hf;have h0:0<k.length:=Vb.2 O;have hm:=bE h0;have hl:=hk _ hm;have V: ¬P (k.getD 0 0):=λe=>hs ⟨_,hm,e⟩;refine ⟨R4 P (k.getD 0 0),K3 h hl,λc Z=>?_,_,hm,.inr rfl⟩;have ok:∀x∈c,x≠ -(k.getD 0 0)->P x->∃x∈c,R4 P (k.getD 0 0) x:=λx I O hp=>⟨x,I,.inl ⟨λe=> (wQ e).elim (λe=>V (e▸hp)) O,hp⟩⟩
 by_cases U: -(k.getD 0 0)∈c
 . obtain ⟨_,hu⟩:=Q c Z U;have Y:∀x∈wk k c,x≠0:=λx I=>by
    unfold wk at I;rcases F'.1 I with h|h
    . exact hk x h
    . exact hz c Z x (nY.1 h).1
   obtain ⟨x,I,hp⟩:=CY hz h.TE J (λx I=>h.tC x (Y x I)) hu;unfold wk at I;rcases F'.1 I with h|h
   . exact absurd ⟨x,h,hp⟩ hs
   . exact ok x (nY.1 h).1 (nY.1 h).2 hp
 . obtain ⟨x,I,hp⟩:=J c Z;exact ok x I (λe=>U (e▸I)) hp
theorem Ae {k:List Int}:∀ {cs:List (List Int)},c∈p8 k cs->c∈cs
 | [],h=>h
 |x::l,h=>by
  unfold p8 at h;split at h
  . exact vy _ h
  . rcases UI.1 h with h|h
    . exact h▸UJ ..
    . exact vy _ (Ae h)
theorem Oy {s:jb} (J:NZ cs) (hs:∀x∈s.2,x≠0):NZ (qq cs s):=by
 intro c I;cases h:s.1 with
 |true=>rw [(vn (k:=0) h).2.1] at I;exact J c (Ae I)
 |false=>
  by_cases O:uB cs s.2\/fB cs s.2
  . rw [(rH (k:=0) h O).2.1] at I;rcases F'.1 I with I|I
    . exact J c I
    . rw [Bs] at I;subst I;exact hs
  . rw [(vK (k:=0) h O).2.1] at I;exact J c I
theorem vW {s:jb} (U:NZ cs) (hs:∀x∈s.2,x≠0) (h:PY P) (I:NM P cs) (he:jV cs s=0):∃J,PY J/\NM J (qq cs s):=by
 cases h1:s.1 with
 |true=>rw [(vn (k:=0) h1).2.1];exact ⟨P,h,λc O=>I c (Ae O)⟩
 |false=>
  by_cases Q:uB cs s.2\/fB cs s.2
  . rw [(rH (k:=0) h1 Q).2.1];have dG:∀ {J},NM J cs->(∃x∈s.2,J x)->NM J (cs++ [s.2]):=λa b c O=>by
     rcases F'.1 O with O|O
     . exact a c O
     . rw [Bs] at O;subst O;exact b
    rcases Q with Q|Q
    . exact ⟨P,h,dG I (CY U h.TE I (λx V=>h.tC x (hs x V)) Q)⟩
    . obtain ⟨J,a,b,c⟩:=O5 U hs h I Q;exact ⟨J,a,dG b c⟩
  . rw [(vK (k:=0) h1 Q).1] at he;exact absurd he (by decide)
theorem Ir:∀ {al:List jb} {cs:List (List Int)} {P:Int->Prop},NZ cs->(∀s∈al,∀x∈s.2,x≠0)->PY P->NM P cs->(uu cs al).2≠0
 | [],cs,P,_,_,_,_=>by rw [uu];decide
 |s::l,cs,P,hz,hs,h,hcs=>by
  have I:=hs s (UJ ..);rw [uu];by_cases he:jV cs s≠0
  . rw [if_pos he];exact he
  . rw [if_neg he];have he:jV cs s=0:=by omega
    by_cases h1:s.1=false/\s.2= []
    . exfalso;have hu:uB cs s.2\/fB cs s.2:=UP λQ=>by
       rw [(vK (k:=0) h1.1 Q).1] at he;exact absurd he (by decide)
      rcases hu with hu|hu
      . obtain ⟨x,J,_⟩:=CY hz h.TE hcs (λx J=>h.tC x (I x J)) hu;rw [h1.2] at J;simp at J
      . exact hu.1 h1.2
    . rw [if_neg h1];obtain ⟨U,a,b⟩:=vW hz I h hcs he;exact Ir (Oy hz I) (λs O=>hs s (vy _ O)) a b
def TJ (m:List Int) (x:Int):Prop:=x≠0/\(decide (m.getD (bh x - 1).toNat 0>0)=decide (x>0))
theorem Oi (m:List Int):PY (TJ m):=by
 refine ⟨λx O I=>?_,λx O=>?_⟩
 . have h1:=O.2;have J:=I.2;have Q:=I.1;rw [kX] at h1;rw [h1] at J;rcases X4 x 0 with h|h|h
   . rw [decide_eq_true (by omega),decide_eq_false (by omega)] at J;cases J
   . omega
   . rw [decide_eq_false (by omega),decide_eq_true (by omega)] at J;cases J
 . unfold TJ;rw [kX];cases U:decide (m.getD (bh x - 1).toNat 0>0) with
   |true=>
    rcases X4 x 0 with h|h|h
    . exact .inr ⟨by omega,by rw [decide_eq_true (by omega)]⟩
    . omega
    . exact .inl ⟨O,by rw [decide_eq_true (by omega)]⟩
   |false=>
    rcases X4 x 0 with h|h|h
    . exact .inl ⟨O,by rw [decide_eq_false (by omega)]⟩
    . omega
    . exact .inr ⟨by omega,by rw [decide_eq_false (by omega)]⟩
theorem N9 {m:List Int} {x:Int} (h:iz m x=1):TJ m x:=by
 unfold iz at h;split at h
 . omega
 . rename_i h1;split at h
   . omega
   . split at h
     . rename_i I;have hl:bU x=true:=by
        cases J:bU x with
        |true=>rfl
        |false=>exact absurd (.inl J) h1
       exact ⟨qL hl,I⟩
     . omega
theorem Jp {m:List Int} (h:gU m cs=true):NM (TJ m) cs:=by
 unfold gU at h;rw [UK] at h;intro c J;obtain ⟨x,I,e⟩:=VI.1 (h c J);exact ⟨x,I,N9 (by simpa using e)⟩
end
section
open Go.SoP Go.LiP
variable {W w w' w0 w2 w3 u0 u u':World} {p q:sn} {n m c d:Nat} {k:Int} {hs ks:List Sl} {cs:List (List Int)} {l:List Int}
theorem zQ {α:Type} {f:α->Value} {b:Nat} {a:Array Value} {l:List α} (h:bT w b a) (J:a.toList=l.map f):Vw f w (some ⟨b,0,none⟩) l:=by
 intro j I;refine ⟨_,rfl,ae h ?_⟩;rw [UX,<- Xb,J,Vx,Mb I];rfl
end
section
open Go.SoP Go.LiP
variable {W w w' w0 w2 w3 u0 u u':World} {p q r:sn} {n m c d:Nat} {k:Int} {hs ks:List Sl} {cs:List (List Int)} {l:List Int}
theorem S_ (h:∀c∈cs,c.length<=4096/\∀x∈c,bU x=true/\bh x<=k):NZ cs:=λc J x I=>qL ((h c J).2 x I).1
end
end Go.Proofs.YtbdghpjnifjlmaaGreat.W
