/- Layer 14: counting models, plain. -/
import Derived.Test.YtbdghpjnifjlmaaGreatPotA
import Derived.Test.YtbdghpjnifjlmaaGreatLitB
import Derived.Test.YtbdghpjnifjlmaaGreatPfA
import Derived.Test.YtbdghpjnifjlmaaGreatDratA
set_option linter.unusedVariables false
namespace Go.Proofs.YtbdghpjnifjlmaaGreat.W
open Go Go.Fw Go.RowKit Go.SoP Go.LiP
section
open Go.LeP
variable {N:Nat} {cs:List (List Int)} {m m':List Int} {ms:List (List Int)}
structure QS (N:Nat) (m:List Int):Prop where
 len:m.length=N
 pm:∀y∈m,y=1\/y= -1
theorem IL (N k:Nat):QS N (ie N k):=⟨ue N k,Cq N k⟩
theorem xk:∀ {N:Nat} {m:List Int},QS N m->∃k,k<2 ^ N/\ie N k=m
 |0,m,h=>⟨0,by simp,by rw [UF h.len];rfl⟩
 |N+1,[],h=>by have:=h.len;simp at this
 |N+1,y::t,h=>by
  obtain ⟨k,O,e⟩:=xk (N:=N) (m:=t) ⟨by have:=h.len;simpa using this,λz J=>h.pm z (vy _ J)⟩;rcases h.pm y (by simp) with I|I
  . refine ⟨2*k+1,by rw [XU];omega,?_⟩;rw [ie,if_pos (by omega),show (2*k+1) / 2=k by omega,e,I]
  . refine ⟨2*k,by rw [XU];omega,?_⟩;rw [ie,if_neg (by omega),show (2*k) / 2=k by omega,e,I]
theorem QS.at_ (h:QS N m) {i:Nat} (hi:i<N):m.getD i 0=1\/m.getD i 0= -1:=h.pm _ (by have:=h.len;simp [List.getD,show i<m.length by omega])
theorem tT:gU m cs=true↔∀c∈cs,∃l∈c,iz m l=1:=by
 unfold gU;rw [UK];constructor
 . intro h c I;have:=h c I;rw [VI] at this;obtain ⟨l,hl,e⟩:=this;exact ⟨l,hl,by simpa using e⟩
 . intro h c I;obtain ⟨l,hl,e⟩:=h c I;rw [VI];exact ⟨l,hl,by simpa using e⟩
theorem JF (l:Int):bU (-l)=bU l:=by
 unfold bU;refine decide_eq_decide.2 ?_;omega
theorem RI (hN:N<=1048576) (h:QS N m):R5 N (iz m):=by
 have J:∀l,bU l=false->iz m l=0:=λl hl=>by unfold iz;rw [if_pos (.inl hl)]
 refine ⟨λl=>?_,λl=>?_,λl hl=>?_⟩
 . cases hl:bU l with
   |true=>exact KE hl
   |false=>rw [J _ hl,J _ (by rw [JF];exact hl)];rfl
 . unfold iz;split
   . exact .inl rfl
   . split
     . exact .inl rfl
     . split
       . exact .inr (.inl rfl)
       . exact .inr (.inr rfl)
 . have I:=yo hN hl;have ha:=hl.bh;have hlen:=h.len;unfold iz;rw [if_neg (by rw [I];simp;omega)];have:=h.at_ (i:=(bh l - 1).toNat) (by omega);rw [if_neg (by omega)];split<;>decide
theorem Kh (hN:N<=1048576) (h:∀v,R5 N v->¬∀d∈cs,Dg v d) (hm:QS N m):gU m cs=false:=by
 cases e:gU m cs with
 |false=>rfl
 |true=>exact absurd (tT.1 e) (h _ (RI hN hm))
theorem JE {l:Int} (h1:1<=l) (J:l<=1048576):90000<Re.mM l 100:=by
 unfold Re.mM;have hm:Re.AS l 100=true:=by unfold Re.AS;rw [decide_eq_true];omega
 rw [if_pos hm];have I:QuP.quo 1 100<=QuP.quo l.toNat 100:=QuP.Ft (by omega) 100;have O:90000<QuP.quo 1 100:=by decide+kernel
 have:(100:Int).toNat=100:=rfl;rw [this];omega
end
section
open Go.LeP
variable {N:Nat}
theorem HG {a D v:Nat} (h:D<=QuP.quo a v / 10+1):∀w,v+1<=w->D<=QuP.quo a w - PotP.qp (QuP.quo a) w:=by
 intro w J;obtain ⟨m,rfl⟩: ∃m,w=m+1:=⟨w - 1,by omega⟩
 have h1:=QuP.yH a v m (by omega);have O:QuP.quo a (m+1)=QuP.quo a m+QuP.quo a m / 10+1:=rfl;have I:PotP.qp (QuP.quo a) (m+1)=QuP.quo a m:=rfl;omega
theorem Qi (a:Nat):∀d w,PotP.MA (QuP.quo a) d w+7*QuP.quo a w<=7*QuP.quo a (w+d)
 |0,w=>by simp [PotP.MA]
 |d+1,w=>by
  have I:=Qi a d (w+1);have J:QuP.quo a (w+1)=QuP.quo a w+QuP.quo a w / 10+1:=rfl;rw [show w+ (d+1)=w+1+d by omega];simp only [PotP.MA];omega
theorem IK (a b:Nat) (h:a<b):∃v,b<=QuP.quo a v/\QuP.quo a v<=b+b / 10:=by
 have key:∀n,b<=QuP.quo a n->∃v,b<=QuP.quo a v/\QuP.quo a v<=b+b / 10:=by
  intro n
  induction n with
  |zero=>intro e;have:QuP.quo a 0=a:=rfl;omega
  |succ n ih=>
   intro e;by_cases I:b<=QuP.quo a n
   . exact ih I
   . refine ⟨n+1,e,?_⟩;have J:QuP.quo a (n+1)=QuP.quo a n+QuP.quo a n / 10+1:=rfl;omega
 have up:∀n,n<=QuP.quo a n:=by
  intro n
  induction n with
  |zero=>exact vx _
  |succ n ih=>
   have J:QuP.quo a (n+1)=QuP.quo a n+QuP.quo a n / 10+1:=rfl;omega
 exact key b (up b)
end
section
open Go.LeP
variable {N i T:Nat} {cs:List (List Int)} {pr:List (Bool × List Int)} {k:Int} {c:List Int}
theorem DV (c:List Int):∀l:List Sr,(jO c l).map (·.1)=p8 c (l.map (·.1))
 | []=>rfl
 |x::l=>by
  unfold jO;rw [Vy,p8];by_cases e:aY x.1=aY c
  . rw [if_pos e,if_pos e]
  . rw [if_neg e,if_neg e,Vy,DV c l]
theorem Hz:∀i,(eI cs pr i).map (·.1)=Ak cs pr i
 |0=>by
  show (p6 cs cs.length).map (·.1)=cs;unfold p6;rw [VU];refine VH (by simp) λi h1 J=>?_;simp [List.getD,J]
 |i+1=>by
  have I:=Hz i;rw [uN];unfold vM Ak cS;by_cases h:(pr.getD i (false,[])).1=true
  . rw [if_pos h,if_pos h,DV,I]
  . rw [if_neg h,if_neg h,LV,I];rfl
theorem sZ {z:Bool × List Int}:sA z↔z=(false,[]):=by
 obtain ⟨a,b⟩:=z;unfold sA;simp
theorem PE.plain (h:PE cs N pr):rG cs pr:=by
 obtain ⟨t,ht,he,hn⟩:=h.dG;refine ⟨t,⟨by omega,sZ.2 he,λj I e=>hn j I (sZ.1 e)⟩,λi hi=>?_⟩;rw [Hz];exact h.up i (by omega)
theorem Fp.len (h:Fp N c):c.length<=N:=by
 have U:(c.map bh).Nodup:=by
  unfold List.Nodup;rw [Wv];refine Wr (λ{a b} ha hb J e=>?_) h.nd;have h1:=h.nt a ha;unfold bh at e;have:b=a\/b= -a:=by split at e<;>split at e<;>omega
  rcases this with I|I
  . exact J I.symm
  . rw [I] at hb;exact h1 hb
 have hs:=Vn U (l₂:=(List.range N).map λj:Nat=> (j:Int)+1) λy Q=>by
  obtain ⟨x,O,rfl⟩:=L0.1 Q;have:=(h.rO x O).bh;exact L0.2 ⟨(bh x - 1).toNat,Vj.2 (by omega),by show (((bh x - 1).toNat:Nat):Int)+1=_;omega⟩
 simpa using hs
theorem Fp.cl (h:Fp N c) (hN:N<=4096):jf c=true:=by
 unfold jf;simp only [ts,decide_eq_true_eq,UK];exact ⟨λl hl=>yo (n:=N) (by omega) (h.rO l hl),UY h.len hN⟩
theorem PE.RU (h:PE cs N pr) (hN:N<=4096):fG pr=true:=by
 unfold fG;rw [UK];exact λz I=> (h.rO z I).cl hN
end
section
variable {W w w' w1 w2 u:World} {p q p1 p2:sn} {n m d n1 n2 d1 d2:Nat} {k dU cf:Int} {hs:List Sl} {cs:List (List Int)} {mo:List Int} {al:List jb}
noncomputable def Jh (k:Int) (cs:List (List Int)) (dU:Int) (mo:List Int) (al:List jb):Int:=if cQ k cs=true/\fG al=true/\0<=dU/\dU<=2 then (if (dU=1/\(mo.length:Int)=k/\gU mo cs=true)\/(dU=2/\(uu cs al).2=0) then 0 else 7) else 1
theorem Dl (h: ¬(cQ k cs=true/\fG al=true/\0<=dU/\dU<=2)):1=Jh k cs dU mo al:=by unfold Jh;rw [if_neg h]
theorem ze (h:cQ k cs=true/\fG al=true/\0<=dU/\dU<=2) (I:(dU=1/\(mo.length:Int)=k/\gU mo cs=true)\/(dU=2/\(uu cs al).2=0)):0=Jh k cs dU mo al:=by unfold Jh;rw [if_pos h,if_pos I]
theorem yq (h:cQ k cs=true/\fG al=true/\0<=dU/\dU<=2) (I: ¬((dU=1/\(mo.length:Int)=k/\gU mo cs=true)\/(dU=2/\(uu cs al).2=0))):7=Jh k cs dU mo al:=by unfold Jh;rw [if_pos h,if_neg I]
theorem CU (hc:V2 sT w p hs cs) (hn:n=cs.length) (v1:Vw sT w p1 mo) (ax:n1=mo.length) (ar:n1<=maxLen) (hl:SV w p2 al) (Y:n2=al.length) (hB:cs.length+n2<262144):
 Calls Tryz.prog jU.id #[.agg #[.i k,.slice p n d],.agg #[.i dU,.slice p1 n1 d1,.slice p2 n2 d2,.i cf]] w λe w'=>e=.returned (.i (Jh k cs dU mo al))/\ak w w':=by
 refine jU.aj ?_;intro nf w2 h2 nc w4 h4;have G4:=h2.mod.trans h4.mod;have U:=h2.has.grow h4.mod;have bc:=h4.has;have R:∀ {u:World} {r:Int},ak w u->r=Jh k cs dU mo al->Ending.returned (Value.int .i64 r)=.returned (.i (Jh k cs dU mo al))/\ak w u:=λg e=>⟨by rw [e],g⟩
 refine ⟨_,_,_,_,bS U,(fS (hc.grow G4) hn).mono ?_⟩;rintro e w7 ⟨rfl,g7⟩;have G7:=G4.trans g7;refine ⟨_,rfl,?_⟩;cases J:cQ k cs with
 |false=>exact bP rfl (R G7 (Dl λh=>by rw [J] at h;cases h.1))
 |true=>
 refine bA rfl ⟨_,_,_,ae (bc.grow g7) rfl,(j8 (hl.grow G7) Y (by omega)).mono ?_⟩;rintro e a_ ⟨rfl,Q⟩;have I:=G7.trans Q;refine ⟨_,rfl,?_⟩;cases O:fG al with
 |false=>exact bP rfl (R I (Dl λh=>by rw [O] at h;cases h.2.1))
 |true=>
 have b:=bc.grow (g7.trans Q);have U:=U.grow (g7.trans Q);refine bA rfl ⟨_,ae b rfl,ah (λr=>R I (Dl λh=>?_)) (λr=>⟨_,ae b rfl,ah (λr2=>R I (Dl λh=>?_)) (λr2=>⟨_,ae b rfl,ah (λX=>?_) (λX=>?_)⟩)⟩)⟩
 . rw [decide_eq_true_eq] at r;omega
 . rw [decide_eq_true_eq] at r2;omega
 . rw [decide_eq_false_iff_not] at r r2;have hv:cQ k cs=true/\fG al=true/\0<=dU/\dU<=2:=⟨J,O,by omega,by omega⟩
   have X:dU=1:=by simpa using X
   refine ⟨_,_,_,ae b rfl,_,ae U rfl,ah (λZ=>R I (yq hv ?_)) (λZ=>⟨_,_,_,_,bS U,_,_,_,ae b rfl,(D0 (hc.grow I) hn (v1.grow I) ax ar).mono ?_⟩)⟩
   . have Z:(n1:Int)≠k:=by simpa using Z
     rintro (⟨_,h,_⟩| ⟨h,_⟩)<;>omega
   . have Z:(n1:Int)=k:=by simpa using Z
     rintro e a8 ⟨rfl,ac⟩;refine ⟨_,rfl,?_⟩;rw [J,VL];cases hh:gU mo cs with
     |false=>exact bP rfl (R (I.trans ac) (yq hv (λh=>h.elim (λh=> (by have h:=h.2.2;rw [hh] at h;cases h)) λh=> (by omega))))
     |true=>exact bA rfl (R (I.trans ac) (ze hv (.inl ⟨X,by omega,hh⟩)))
 . rw [decide_eq_false_iff_not] at r r2;have hv:cQ k cs=true/\fG al=true/\0<=dU/\dU<=2:=⟨J,O,by omega,by omega⟩
   have X:dU≠1:=by simpa using X
   refine ah (λV=>⟨_,_,_,_,bS U,_,_,_,ae b rfl,(Bc (hc.grow I) hn hB (hl.grow I) Y).mono ?_⟩) (λV=>R I (yq hv ?_))
   . have V:dU=2:=by simpa using V
     rintro e bb ⟨rfl,ag⟩;rw [J,O];refine ⟨_,_,rfl,ah (λr6=>R (I.trans ag) (yq hv ?_)) (λr6=>R (I.trans ag) (ze hv (.inr ⟨V,?_⟩)))⟩
     . have r6:(uu cs al).2≠0:=by simpa using r6
       rintro (⟨h,_⟩| ⟨_,h⟩)
       . omega
       . exact r6 h
     . simpa using r6
   . have V:dU≠2:=by simpa using V
     rintro (⟨h,_⟩| ⟨h,_⟩)<;>omega
theorem uQ {b uni lrn:Int} {A:Int->Nat->Nat->Int->Int->Prop} {B:Int->List Int->List Ps->Int->Prop} (hc:V2 sT w p hs cs) (hn:n=cs.length)
 (hS:∀u,ak w u->Calls Tryz.prog kA.id #[.agg #[.i k,.slice p n d],.agg #[.i b,.i uni,.i lrn]] u λe v=>∃ (dU:Int) (mp:sn) (J mc:Nat) (U:sn) (I pc:Nat) (cf de re dr er:Int),e=.returned (.tuple #[.agg #[.i dU,.slice mp J mc,.slice U I pc,.i cf,.i de,.i re,.i dr],.i er])/\ak u v/\
   ((er≠0/\A dU J I cf er)\/(er=0/\∃mo pr,Vw sT v mp mo/\(mo= []\/∀j,aG mp=some j->u.heap.size<=j)/\J=mo.length/\J<=maxLen/\Gl u.heap.size v U pr/\(∀u∈pr,u.2.2.length<=maxLen)/\I=pr.length/\I<=pc/\cs.length+I<262144/\Jh k cs dU mo (pr.map ik)=0/\B dU mo pr cf))):
 Calls Tryz.prog iU.id #[.agg #[.i k,.slice p n d],.agg #[.i b,.i uni,.i lrn]] w λe v=>∃ (dU:Int) (mp:sn) (J mc:Nat) (U:sn) (I pc:Nat) (cf er:Int),e=.returned (.tuple #[.agg #[.i dU,.slice mp J mc,.slice U I pc,.i cf],.i er])/\ak w v/\
  ((er≠0/\A dU J I cf er)\/(er=0/\∃mo pr,Vw sT v mp mo/\(mo= []\/∀j,aG mp=some j->w.heap.size<=j)/\J=mo.length/\J<=maxLen/\Gl w.heap.size v U pr/\(∀u∈pr,u.2.2.length<=maxLen)/\I=pr.length/\I<=pc/\cs.length+I<262144/\Jh k cs dU mo (pr.map ik)=0/\B dU mo pr cf)):=by
 refine iU.aj ?_;intro nf w2 h2 ns w4 h4 nr w6 h6;have d7:=h6.num;have z2:=h2.mod.size;have z4:=h4.mod.size;have z6:=h6.mod.size;have G6:=(h2.mod.trans h4.mod).trans h6.mod;have bf:=(h2.has.grow h4.mod).grow h6.mod;have bs:=h4.has.grow h6.mod;have br:=h6.has;refine ⟨_,_,_,_,bS bf,_,_,_,jq bs,(hS w6 G6).mono ?_⟩;rintro e b5 ⟨dU,mp,J,mc,U,I,pc,cf,de,re,dr,er,rfl,an,hP⟩;refine ⟨_,_,_,_,_,_,_,_,_,_,_,_,rfl,λn21 dq bi=>?_⟩;have d4:=bi.num;have d8:=an.size;refine bD bi.has rfl rfl λb4 Y c1=>?_;have Y:bT b4 n21 #[.i dU,.slice mp J mc,.slice U I pc,.i cf,.i de,.i re,.i dr]:=Y;have bx:ak b5 b4:=bi.mod.then c1 λj X e=>by omega
 refine ⟨_,ae Y rfl,_,_,_,ae Y rfl,_,_,_,ae Y rfl,_,ae Y rfl,λn28 dT bk=>?_⟩;have dd:=bk.num;have d':=bx.size;refine bD bk.has rfl rfl λar V cm=>?_;have V:bT ar n28 #[.i dU,.slice mp J mc,.slice U I pc,.i cf]:=V;have Q:ak b5 ar:=bx.trans (bk.mod.then cm λj X e=>by omega);have bn:=(G6.trans an).trans Q;have dp:=(an.trans Q).size;have ir:=br.lt;have dG:∀ {v:World} {K:Value->World->Prop},ak ar v->(∀v',aD (·=nr) v v'->K (.agg #[.i dU,.slice mp J mc,.slice U I pc,.i cf]) v')->∃b_ bb az ax a6 aT a_ b3,aK v (qw n28) 0 [.i b_,.slice bb az ax,.slice a6 aT a_,.i b3]/\
  ∃Z,bB (qw nr) 0 [.i b_,.slice bb az ax,.slice a6 aT a_,.i b3] v Z/\
  ∃b7 a' bc bg a7 ay a8 b9,aK Z (qw nr) 0 [.i b7,.slice a' bc bg,.slice a7 ay a8,.i b9]/\
  K (.agg #[.i b7,.slice a' bc bg,.slice a7 ay a8,.i b9]) Z:=by
  intro v K gv hK;have b:=V.grow gv;refine ⟨_,_,_,_,_,_,_,_,⟨ae b rfl,ae b rfl,ae b rfl,ae b rfl,trivial⟩,bD (br.grow ((an.trans Q).trans gv)) rfl rfl λZ aa c0=>?_⟩;have aa:bT Z nr #[.i dU,.slice mp J mc,.slice U I pc,.i cf]:=aa;exact ⟨_,_,_,_,_,_,_,_,⟨ae aa rfl,ae aa rfl,ae aa rfl,ae aa rfl,trivial⟩,hK Z c0⟩
 rcases hP with ⟨cc,hA⟩| ⟨rfl,mo,pr,hv,hf,bY,b',hl,cb,b6,co,hB,hR,hb⟩
 . refine bP (by simpa using cc) (dG (K:=λx v=>∃ (dU:Int) (mp:sn) (J mc:Nat) (U:sn) (I pc:Nat) (cf O:Int),Ending.returned (.tuple #[x,.i er])=.returned (.tuple #[.agg #[.i dU,.slice mp J mc,.slice U I pc,.i cf],.i O])/\ak w v/\
    ((O≠0/\A dU J I cf O)\/(O=0/\∃mo pr,Vw sT v mp mo/\(mo= []\/∀j,aG mp=some j->w.heap.size<=j)/\J=mo.length/\J<=maxLen/\Gl w.heap.size v U pr/\(∀u∈pr,u.2.2.length<=maxLen)/\I=pr.length/\I<=pc/\cs.length+I<262144/\Jh k cs dU mo (pr.map ik)=0/\B dU mo pr cf))) (aD.refl _) λv' m=>?_)
   exact ⟨_,_,_,_,_,_,_,_,_,rfl,bn.then m λj X e=>by omega,.inl ⟨cc,hA⟩⟩
 . have gk:ak w6 ar:=an.trans Q;refine bA rfl ⟨_,_,_,_,bS (bf.grow gk),_,_,_,_,_,_,_,_,⟨ae V rfl,ae V rfl,ae V rfl,ae V rfl,trivial⟩,(CU (hc.grow bn) hn (hv.grow Q) bY b' ((hl.sv cb).grow Q) (by rw [UL];exact b6) hB).mono ?_⟩;rintro e d6 ⟨rfl,av⟩;rw [hR];refine ⟨_,rfl,bA rfl (dG (K:=λx v=>∃ (dU:Int) (mp:sn) (J mc:Nat) (U:sn) (I pc:Nat) (cf O:Int),Ending.returned (.tuple #[x,.i 0])=.returned (.tuple #[.agg #[.i dU,.slice mp J mc,.slice U I pc,.i cf],.i O])/\ak w v/\
    ((O≠0/\A dU J I cf O)\/(O=0/\∃mo pr,Vw sT v mp mo/\(mo= []\/∀j,aG mp=some j->w.heap.size<=j)/\J=mo.length/\J<=maxLen/\Gl w.heap.size v U pr/\(∀u∈pr,u.2.2.length<=maxLen)/\I=pr.length/\I<=pc/\cs.length+I<262144/\Jh k cs dU mo (pr.map ik)=0/\B dU mo pr cf))) av λv' m=>?_)⟩
   have gv:ak w v':=(bn.trans av).then m λj X e=>by omega
   have ag:∀j,w6.heap.size<=j->w.heap.size<=j/\j≠nr:=λj X=>by omega
   have hv':Vw sT v' mp mo:=by
    rcases hf with rfl|hf
    . exact Vw.nil
    . exact ((hv.grow Q).grow av).keep m λj X=> (ag j (hf j X)).2
   have aw:=((hl.grow Q).grow av).keep m λj X=> (ag j X).2;exact ⟨_,_,_,_,_,_,_,_,_,rfl,gv,.inr ⟨rfl,mo,pr,hv',hf.imp id λh j X=> (ag j (h j X)).1,bY,b',⟨aw.v,aw.r,λe j X=> (ag j (aw.f e j X)).1,λu hu j X=> (ag j (aw.g u hu j X)).1⟩,cb,b6,co,hB,hR,hb⟩⟩
end
section
open Go.LeP
variable {w w' w1 w2 u u':World} {N n14:Nat} {cs:List (List Int)} {mo:List Int} {ms:List (List Int)} {hs':List Sl} {gp:sn} {gc:Nat}
theorem Ex (w:World):Calls Tryz.prog oH.id #[] w λe w'=>e=.returned (.agg #[.i (-1),.i 64,.i 200])/\ak w w':=by
 refine oH.aj ?_;intro n1 w2 J;refine bD J.has rfl rfl λw3 I m3=>?_;have I:bT w3 n1 #[.i (-1),.i 64,.i 200]:=I;exact ⟨_,_,_,⟨ae I rfl,ae I rfl,ae I rfl,trivial⟩,rfl,aD.cW J.mod m3 (by have:=J.num;omega)⟩
end
end Go.Proofs.YtbdghpjnifjlmaaGreat.W
