/- Layer 7: where a proof ends, by the document; a short proof proves. -/
import Derived.Test.YtbdghpjnifjlmaaGreatRupC
import Derived.Test.YtbdghpjnifjlmaaGreatSortA
import Derived.Test.YtbdghpjnifjlmaaGreatLitA
set_option linter.all false
namespace Go.Proofs.YtbdghpjnifjlmaaGreat.W
open Go Go.Fw Go.RowKit Go.SoP Go.LiP
section
end
section
variable{W w w' w0 w2 w3 u0 u u':World}{p q:sn}{n m c d:Nat}{k:Int}{hs ks:List Sl}{cs:lq}{l:List Int}
theorem AD{α:Type}{f:α->Value}{b:Nat}{a:Array Value}{l:List α}(h:bO w b a)(I:a.toList=l.map f):Vw f w (some ⟨b,0,none⟩) l:=by
 intro j J;refine⟨_,rfl,ae h ?_⟩;rw[Wr,<- YE,I,WW,V9 J];rfl
end
section
variable{W w w' w0 w2 w3 u:World}{p q:sn}{n m d i c:Nat}{k:Int}{hs tl:List Sl}{cs:lq}{l:List Int}{ss:List So}{al:List jJ}
def F8:lq:= [[1,2],[-1,2],[-2],[3]]
end
section
variable{W w w' w0 w2 w3 u:World}{p q:sn}{n m d i c:Nat}{k:Int}{cs:lq}{l:List Int}{al:List jJ}
def P9:List jJ:= [(false,[])]
theorem G8:uB F8 []:=.inr ⟨[-2,1],.step (t:= [-2]) (c:= [1,2]) (.step (t:= []) (c:= [-2]) .refl (by decide) (by decide)) (by decide) (by decide),[-1,2],by decide,by decide⟩
theorem UG:pE P9 0:=⟨by decide,⟨rfl,rfl⟩,λj I=>by omega⟩
theorem Sj:∀i,i<=0->(P9.getD i dH).1=true\/uB ((iY F8 P9 i).map (·.1)) (P9.getD i dH).2:=by
 intro i hi;have:i=0:=by omega
 subst this;exact .inr G8
theorem Ue:uB (F8.take 3++ ([]:List Nat).map λj=>F8.getD j []) []:=
 .inr ⟨[-2,1],.step (t:= [-2]) (c:= [1,2]) (.step (t:= []) (c:= [-2]) .refl (by decide) (by decide)) (by decide) (by decide),[-1,2],by decide,by decide⟩
theorem UP: ¬uB (F8.take 2++ ([]:List Nat).map λj=>F8.getD j []) []:=Dr (T:= []) (by unfold NZ;decide) (by decide) .refl (by unfold TD;decide)
theorem UU: ¬uB (F8.take 1++ ([2]:List Nat).map λj=>F8.getD j []) []:=
 Dr (T:= [-2,1]) (by unfold NZ;decide) (by decide) (.step (t:= [-2]) (c:= [1,2]) (.step (t:= []) (c:= [-2]) .refl (by decide) (by decide)) (by decide) (by decide)) (by unfold TD;decide)
theorem UD: ¬uB (F8.take 0++ ([1,2]:List Nat).map λj=>F8.getD j []) []:=
 Dr (T:= [-2,-1]) (by unfold NZ;decide) (by decide) (.step (t:= [-2]) (c:= [-1,2]) (.step (t:= []) (c:= [-2]) .refl (by decide) (by decide)) (by decide) (by decide)) (by unfold TD;decide)
theorem Vc:Ec F8 P9 0= [0,1,2]:=by
 have:Ec F8 P9 0=CE F8 [] 4 []:=rfl;rw[this,Ae Ue,tw UP,tw UU,tw UD];rfl
theorem EF{j:Nat}:j∈q7 F8 P9 0↔j<3:=by
 rw[AY];have key:∀j:Nat,j<4->((iY F8 P9 0).getD j yo).2=(false,(j:Int)):=λj I=>by
  match j,I with
  |0,_=>rfl
  |1,_=>rfl
  |2,_=>rfl
  |3,_=>rfl
 have e0:Ln F8 P9 0=Th F8 P9 0 (λx=>x=(true,((0:Nat):Int))):=rfl;rw[e0];unfold Th;rw[Vc];constructor
 .rintro ⟨_,h| ⟨_,a,ha,e⟩⟩
  .cases h
  .have J:a<3:=by
    simp at ha;omega
   rw[key a (by omega)]at e;have e:=(YV e).2;omega
 .intro h;refine⟨by show j<4;omega,.inr ⟨rfl,j,?_,key j (by omega)⟩⟩;simp;omega
theorem LZ:(q7 F8 P9 0).length=3:=by
 have h1:=WR ((FC (cs:=F8) (al:=P9) (t:=0)).imp λh=>Nat.ne_of_lt h) (l₂:= [0,1,2]) λj I=>by
  have:=EF.1 I;simp;omega
 have J:=WR (l₁:= [0,1,2]) (by decide) (l₂:=q7 F8 P9 0) λj I=>by
  refine EF.2 ?_;simp at I;omega
 simp at h1 J;omega
end
section
variable{W w w' w0 w2 w3 u:World}{p q p1 p2:sn}{n m d i c t n1 n2 d1 d2:Nat}{k:Int}{hs tl:List Sl}{cs:lq}{l c1 c2:List Int}{ss:List So}{al bl:List jJ}
theorem qC{K:List Nat}{j:Nat}:(kc K).getD j 0=((K.getD j 0:Nat):Int):=yq
theorem Ol{K:List Nat}{n:Nat}(h1:K.Pairwise (·< ·))(I:∀j∈K,j<n):RU n (kc K):=by
 intro i hi;rw[fX]at hi;rw[qC,qC];have hm:K.getD i 0∈K:=by simp[List.getD,hi]
 have:=I _ hm;refine⟨by omega,by omega,λQ=>?_⟩;have hp:=Wy.1 h1 (i - 1) i (by omega) hi (by omega);have J:K.getD i 0=K[i]:=by simp[List.getD,hi]
 have O:K.getD (i - 1) 0=K[i - 1]'(by omega):=by simp[List.getD,show i - 1<K.length by omega]
 rw[J,O];omega
theorem PZ{C T:List Nat}{j:Nat}:lY cs al (kc C) (kc T) j=Qe cs al C T j:=by
 unfold lY Qe kc;rw[<- YC,XW,XW];rfl
theorem Nu{t:Nat}(J:c5 k cs=true)(O:ig al=true)(ht:pE al t)(hp:∀i,i<=t->(al.getD i dH).1=true\/uB ((iY cs al i).map (·.1)) (al.getD i dH).2):
 HN k cs al (kc (q7 cs al t)) (kc (ju cs al t))/\Cf cs al (kc (q7 cs al t)) (kc (ju cs al t)):=by
 have U:=ht.1;refine⟨⟨⟨J,O⟩,Ol FC λj I=> (AY.1 I).1,Ol Fi λj I=>by have:=(sX.1 I).1;omega,λj I=>?_⟩,λj I=>?_,?_⟩
 .rw [fX]at I;have hm:(ju cs al t).getD j 0∈ju cs al t:=by simp[List.getD,I]
  rw[qC];unfold B9;rw[tn];rcases MU ht _ (sX.1 hm).2 with⟨a,_,e⟩| ⟨a,_,Q,e⟩
  .cases e
  .have e:=(YV e).2;have:(ju cs al t).getD j 0=a:=by omega
   rw[this];exact Q
 .rw [fX]at I;rw[PZ,qC];unfold B9;rw[tn];exact Tc ht hp I
 .obtain ⟨j,I,e⟩:=Bs.1 (Fp (cs:=cs) (al:=al) (t:=t));refine⟨j,by rw[fX];exact I,?_⟩;rw[qC];unfold B9;rw[tn];have:(ju cs al t).getD j 0=t:=by simp[List.getD,I,e]
  rw[this];exact ht.2.1.2
end
