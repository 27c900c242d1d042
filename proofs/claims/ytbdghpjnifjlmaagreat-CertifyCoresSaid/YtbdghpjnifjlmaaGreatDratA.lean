/- Layer 8: the laws of plain proofs, and of which clauses one is at hand. -/
import Derived.Test.YtbdghpjnifjlmaaGreatRupC
import Derived.Test.YtbdghpjnifjlmaaGreatLitB
set_option linter.unusedVariables false
namespace Go.Proofs.YtbdghpjnifjlmaaGreat.W
open Go Go.Fw Go.RowKit Go.SoP Go.LiP
section
variable {W w w' w0 w2 w3 u:World} {p q:sn} {n m d i c:Nat} {k:Int} {hs tl:List Sl} {cs:List (List Int)} {l:List Int} {ss:List So} {al:List jb}
def F8:List (List Int):= [[1,2],[-1,2],[-2],[3]]
end
section
variable {W w w' w0 w2 w3 u:World} {p q:sn} {n m d i c:Nat} {k:Int} {cs:List (List Int)} {l:List Int} {al:List jb}
def P9:List jb:= [(false,[])]
theorem Gm:uB F8 []:=.inr ⟨[-2,1],.step (t:= [-2]) (c:= [1,2]) (.step (t:= []) (c:= [-2]) .refl (by decide) (by decide)) (by decide) (by decide),[-1,2],by decide,by decide⟩
theorem Sq:lX P9 0:=⟨by decide,⟨rfl,rfl⟩,λj I=>by omega⟩
theorem Q5:∀i,i<=0->(P9.getD i cS).1=true\/uB ((eI F8 P9 i).map (·.1)) (P9.getD i cS).2:=by
 intro i hi;have:i=0:=by omega
 subst this;exact .inr Gm
theorem Ss:uB (F8.take 3++ ([]:List Nat).map λj=>F8.getD j []) []:=
 .inr ⟨[-2,1],.step (t:= [-2]) (c:= [1,2]) (.step (t:= []) (c:= [-2]) .refl (by decide) (by decide)) (by decide) (by decide),[-1,2],by decide,by decide⟩
theorem Tv: ¬uB (F8.take 2++ ([]:List Nat).map λj=>F8.getD j []) []:=CJ (T:= []) (by unfold NZ;decide) (by decide) .refl (by unfold Rs;decide)
theorem Ts: ¬uB (F8.take 1++ ([2]:List Nat).map λj=>F8.getD j []) []:=
 CJ (T:= [-2,1]) (by unfold NZ;decide) (by decide) (.step (t:= [-2]) (c:= [1,2]) (.step (t:= []) (c:= [-2]) .refl (by decide) (by decide)) (by decide) (by decide)) (by unfold Rs;decide)
theorem Tg: ¬uB (F8.take 0++ ([1,2]:List Nat).map λj=>F8.getD j []) []:=
 CJ (T:= [-2,-1]) (by unfold NZ;decide) (by decide) (.step (t:= [-2]) (c:= [-1,2]) (.step (t:= []) (c:= [-2]) .refl (by decide) (by decide)) (by decide) (by decide)) (by unfold Rs;decide)
theorem T_:DB F8 P9 0= [0,1,2]:=by
 have:DB F8 P9 0=Bq F8 [] 4 []:=rfl;rw [this,AD Ss,tq Tv,tq Ts,tq Tg];rfl
theorem EM {j:Nat}:j∈lQ F8 P9 0↔j<3:=by
 rw [yW];have key:∀j:Nat,j<4->((eI F8 P9 0).getD j rA).2=(false,(j:Int)):=λj I=>by
  match j,I with
  |0,_=>rfl
  |1,_=>rfl
  |2,_=>rfl
  |3,_=>rfl
 have e0:J7 F8 P9 0=Qx F8 P9 0 (λx=>x=(true,((0:Nat):Int))):=rfl;rw [e0];unfold Qx;rw [T_];constructor
 . rintro ⟨_,h| ⟨_,a,ha,e⟩⟩
   . cases h
   . have J:a<3:=by
      simp at ha;omega
     rw [key a (by omega)] at e;have e:=(Xx e).2;omega
 . intro h;refine ⟨by show j<4;omega,.inr ⟨rfl,j,?_,key j (by omega)⟩⟩;simp;omega
theorem LK:(lQ F8 P9 0).length=3:=by
 have h1:=Vn ((Ee (cs:=F8) (al:=P9) (t:=0)).imp λh=>Nat.ne_of_lt h) (l₂:= [0,1,2]) λj I=>by
  have:=EM.1 I;simp;omega
 have J:=Vn (l₁:= [0,1,2]) (by decide) (l₂:=lQ F8 P9 0) λj I=>by
  refine EM.2 ?_;simp at I;omega
 simp at h1 J;omega
end
section
variable {W w w' w0 w2 w3 u:World} {p q p1 p2:sn} {n m d i c t n1 n2 d1 d2:Nat} {k:Int} {hs tl:List Sl} {cs:List (List Int)} {l c1 c2:List Int} {ss:List So} {al bl:List jb}
theorem HU:∀ {bl:List jb} {cs:List (List Int)},(∀j,j<bl.length->(bl.getD j cS).1=false/\uB (cs++ (bl.take j).map (·.2)) (bl.getD j cS).2)->(∃j,j<bl.length/\(bl.getD j cS).2= [])->(uu cs bl).2=0/\(uu cs bl).1<bl.length
 | [],_,_,⟨j,hj,_⟩=>by simp at hj
 |s::l,cs,h,⟨j,hj,hj2⟩=>by
  obtain ⟨h1,I⟩:=h 0 (by simp);have h1:s.1=false:=h1;have I:uB cs s.2:=by simpa using I
  obtain ⟨a1,a2,_⟩:=rH (k:=0) h1 (.inl I);rw [uu,if_neg (by rw [a1];simp)];by_cases e:s.1=false/\s.2= []
  . rw [if_pos e];exact ⟨rfl,by simp⟩
  . rw [if_neg e,a2];have Q:j≠0:=λU=>by subst U;exact e ⟨h1,hj2⟩
    obtain ⟨J,rfl⟩: ∃J,j=J+1:=⟨j - 1,by omega⟩
    have O:=HU (bl:=l) (cs:=cs++ [s.2]) (λi hi=>by
     obtain ⟨b1,b2⟩:=h (i+1) (by simp;omega);rw [List.getD_cons_succ] at b1 b2;rw [Xo,Vy] at b2;exact ⟨b1,by rw [U6];exact b2⟩) ⟨J,by simpa using hj,by simpa using hj2⟩
    refine ⟨O.1,?_⟩;rw [U9];have:=O.2;show (uu (cs++ [s.2]) l).1+1<_;omega
theorem pZ {K:List Nat} {j:Nat}:(gG K).getD j 0=((K.getD j 0:Nat):Int):=xh
theorem NI {K:List Nat} {n:Nat} (h1:K.Pairwise (·< ·)) (O:∀j∈K,j<n):RF n (gG K):=by
 intro i hi;rw [e_] at hi;rw [pZ,pZ];have hm:K.getD i 0∈K:=by simp [List.getD,hi]
 have:=O _ hm;refine ⟨by omega,by omega,λQ=>?_⟩;have hp:=U2.1 h1 (i - 1) i (by omega) hi (by omega);have J:K.getD i 0=K[i]:=by simp [List.getD,hi]
 have I:K.getD (i - 1) 0=K[i - 1]'(by omega):=by simp [List.getD,show i - 1<K.length by omega]
 rw [J,I];omega
theorem OT {C T:List Nat} {j:Nat}:lV cs al (gG C) (gG T) j=Of cs al C T j:=by
 unfold lV Of gG;rw [<- WX,VU,VU];rfl
theorem Nj {t:Nat} (J:cQ k cs=true) (O:fG al=true) (ht:lX al t) (hp:∀i,i<=t->(al.getD i cS).1=true\/uB ((eI cs al i).map (·.1)) (al.getD i cS).2):
 Ho k cs al (gG (lQ cs al t)) (gG (iP cs al t))/\ve cs al (gG (lQ cs al t)) (gG (iP cs al t)):=by
 have Q:=ht.1;refine ⟨⟨⟨J,O⟩,NI Ee λj I=> (yW.1 I).1,NI EL λj I=>by have:=(qD.1 I).1;omega,λj I=>?_⟩,λj I=>?_,?_⟩
 . rw [e_] at I;have hm:(iP cs al t).getD j 0∈iP cs al t:=by simp [List.getD,I]
   rw [pZ];unfold xH;rw [tn];rcases Mg ht _ (qD.1 hm).2 with ⟨a,_,e⟩| ⟨a,_,U,e⟩
   . cases e
   . have e:=(Xx e).2;have:(iP cs al t).getD j 0=a:=by omega
     rw [this];exact U
 . rw [e_] at I;rw [OT,pZ];unfold xH;rw [tn];exact QN ht hp I
 . obtain ⟨j,I,e⟩:=I'.1 (DP (cs:=cs) (al:=al) (t:=t));refine ⟨j,by rw [e_];exact I,?_⟩;rw [pZ];unfold xH;rw [tn];have:(iP cs al t).getD j 0=t:=by simp [List.getD,I,e]
   rw [this];exact ht.2.1.2
theorem DD:(vO al c2).length=c2.length:=by unfold vO;rw [UL]
theorem oZ {j:Nat} (h:j<c2.length):(vO al c2).getD j cS=(false,(xH al (c2.getD j 0)).2):=l6 _ _ _ _ _ h
theorem PS (h:ve cs al c1 c2):(uu (c1.map (xo cs)) (vO al c2)).2=0/\(uu (c1.map (xo cs)) (vO al c2)).1< (vO al c2).length:=by
 refine HU (λj I=>?_) ?_
 . rw [DD] at I;rw [oZ I];refine ⟨rfl,?_⟩;have e:((vO al c2).take j).map (·.2)=(c2.take j).map λv=> (xH al v).2:=by
    unfold vO;rw [<- WX,VU];rfl
   rw [e];exact h.1 j I
 . obtain ⟨j,I,e⟩:=h.2;exact ⟨j,by rw [DD];exact I,by rw [oZ I];exact e⟩
end
end Go.Proofs.YtbdghpjnifjlmaaGreat.W
