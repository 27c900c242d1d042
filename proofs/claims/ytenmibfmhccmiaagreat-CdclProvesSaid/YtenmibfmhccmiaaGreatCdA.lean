/- Layer 14: the statements CdclChecks and CdclCounts. -/
import Derived.Test.YtenmibfmhccmiaaGreatTellA
import Derived.Test.YtenmibfmhccmiaaGreatCountA
namespace Go.Proofs.YtenmibfmhccmiaaGreat.W
open Go Go.Fw Go.RowKit Go.SoP Go.LiP
open Go.Proofs.Tryz (prog)
section
open Go.LeP
variable {w w' w1 w2 u u':World} {N n14:Nat} {cs:List (List Int)} {mo:List Int} {ms:List (List Int)} {hs hs':List Sl} {gp q:Option Addr} {gc m d:Nat}
theorem AG (b u l:Int) (w:World):Calls prog gB.id #[.agg #[.int .i64 b,.int .i64 u,.int .i64 l]] w fun e w'=>e= .returned (.bool (qi u l))/\ao w w':=by
 refine gB.ak ?_;intro U w2 I;have F: ¬(1<=u/\u<=1048576/\1<=l/\l<=1048576)->Ending.returned (.bool false)= .returned (.bool (qi u l))/\ao w w2:=fun h=> ⟨by unfold qi;rw [decide_eq_false h],I.mod⟩
 refine ⟨_,ae I.has rfl,aj (fun Q=> ⟨_,ae I.has rfl,aj (fun O=> ⟨_,ae I.has rfl,aj (fun J=> ⟨_,ae I.has rfl,?_,I.mod⟩) (fun J=>F ?_)⟩) (fun O=>F ?_)⟩) (fun Q=>F ?_)⟩;all_goals simp only [decide_eq_true_eq,decide_eq_false_iff_not] at*
 all_goals first|omega|skip
 have:decide (l<=1048576)=qi u l:=by unfold qi;exact decide_eq_decide.2 (by omega)
 rw [this]
theorem xK {w0:World} (g:ao w0 w):Calls prog cG.id #[] w fun e w1=> ∃I,e= .returned (.bool I)/\(Ending.returned (.bool I)= .returned (.bool true)/\ao w0 w1):=by
 refine (Jh w).mono ?_;rintro e w1 ⟨rfl,J⟩;exact ⟨_,rfl,rfl,g.trans J⟩
theorem ES {v:Value} (h:FA w (.cons (.int .i64) (.cons (.int .i64) (.cons (.int .i64) .nil))) v): ∃a b c,v= .agg #[.int .i64 a,.int .i64 b,.int .i64 c]:=by
 obtain ⟨cs,rfl,x,y,rfl,⟨a,rfl,_⟩,Q,J,rfl,⟨b,rfl,_⟩,I,O,rfl,⟨c,rfl,_⟩,rfl⟩:=h;exact ⟨a,b,c,rfl⟩
end
section
open Go.LeP
variable {w w' w1 w2 u:World} {N m d:Nat} {cs:List (List Int)} {hs:List Sl} {q p:Option Addr} {k:Int} {mo:List Int} {n c:Nat}
theorem KM (U:V2 (Value.int .i64) w q hs cs) (hm:m=cs.length):Calls prog gE.id #[.agg #[.int .i64 k,.slice q m d]] w fun e w'=> ∃r:Bool,e= .returned (.bool r)/\(r=true->cs.length<=40/\ff k cs=true/\k<=10)/\ao w w':=by
 refine gE.ak ?_;intro n1 w2 I;refine ⟨_,_,_,_,eY I.has,(FV (U.grow I.mod) hm).mono ?_⟩;rintro e Y ⟨r,rfl,hr,O⟩;have J:=I.mod.trans O;refine ⟨_,rfl,aj (fun V=> ⟨_,_,_,_,eY (I.has.grow O),(E9 (U.grow J) hm).mono ?_⟩) (fun _=> ⟨_,rfl,fun e=> (by cases e),J⟩)⟩;rintro e Z ⟨rfl,Q⟩;refine ⟨_,rfl,aj (fun X=> ⟨_,ae (I.has.grow (O.trans Q)) rfl,_,rfl,fun e=> ⟨hr V,X,by simpa using e⟩,J.trans Q⟩) (fun _=> ⟨_,rfl,fun e=> (by cases e),J.trans Q⟩)⟩
theorem Oc {w:World} {n:Nat} {a1 a2 a3 a4 a5 V X b1 b2 U O J Q I:Value} (h:bA w n (wr #[a1,a2,a3,a4,a5,V,X] (0+0) [b1,b2,U,O,J,Q,I])):bA w n #[b1,b2,U,O,J,Q,I]:=(show wr #[a1,a2,a3,a4,a5,V,X] (0+0) [b1,b2,U,O,J,Q,I]= #[b1,b2,U,O,J,Q,I] by kernel_rfl)▸h
theorem Nd {pr:List Ps} (h:Vr 2 KF w p pr) (J: ∀u∈pr,u.2.1.n=u.2.2.length/\Vw (Value.int .i64) w u.2.1.p u.2.2) (hl: ∀u∈pr,u.2.2.length<=maxLen):SV w p (pr.map D8):=by
 intro i hi;have I:i<pr.length:=by simpa using hi
 obtain ⟨a,e,O⟩:=h i I;have hm:pr[i]∈pr:=List.getElem_mem I;have ex:(pr.map D8).getD i dR=D8 pr[i]:=by simp [List.getD,I]
 rw [ex];exact ⟨a,pr[i].2.1,e,O,(J _ hm).1,by rw [(J _ hm).1];exact hl _ hm,(J _ hm).2⟩
end
section
variable {w w' w0 w2 w3:World} {p q:Option Addr} {n m c d:Nat} {k:Int} {hs ks:List Sl} {cs:List (List Int)} {l:List Int}
noncomputable def tN:List (List Int)->List nu->Int × Int
 |_,[]=> (0,4)
 |cs,s::l=>if gX cs s≠0 then (0,gX cs s) else if s.1=false/\s.2= [] then (0,0) else ((tN (jl cs s) l).1+1,(tN (jl cs s) l).2)
theorem qD {α:Type} {l:List α} {i:Nat} (h:i<l.length) (d:α):l.drop i=l.getD i d::l.drop (i+1):=by
 rw [List.drop_eq_getElem_cons h];simp [List.getD,h]
def vG (cs:List (List Int)) (al:List nu) (i:Nat) (ci:List (List Int)):Prop:=tN cs al=((i:Int)+ (tN ci (al.drop i)).1,(tN ci (al.drop i)).2)
theorem vG.zero (cs:List (List Int)) (al:List nu):vG cs al 0 cs:=by unfold vG;simp
theorem vG.nM {al:List nu} {i:Nat} {ci:List (List Int)} (h:vG cs al i ci) (hi:i<al.length) (he:gX ci (al.getD i dR)≠0):tN cs al=((i:Int),gX ci (al.getD i dR)):=by
 unfold vG at h;rw [h,qD hi dR,tN,if_pos he];simp
theorem vG.dV {al:List nu} {i:Nat} {ci:List (List Int)} (h:vG cs al i ci) (hi:i<al.length) (he:gX ci (al.getD i dR)=0) (h1:(al.getD i dR).1=false/\(al.getD i dR).2= []):tN cs al=((i:Int),0):=by
 unfold vG at h;rw [h,qD hi dR,tN,if_neg (by simpa using he),if_pos h1];simp
theorem vG.next {al:List nu} {i:Nat} {ci:List (List Int)} (h:vG cs al i ci) (hi:i<al.length) (he:gX ci (al.getD i dR)=0) (h1: ¬((al.getD i dR).1=false/\(al.getD i dR).2= [])):vG cs al (i+1) (jl ci (al.getD i dR)):=by
 unfold vG at*
 rw [h,qD hi dR,tN,if_neg (by simpa using he),if_neg h1];congr 1;simp;omega
theorem vG.all {al:List nu} {ci:List (List Int)} (h:vG cs al al.length ci):tN cs al=((al.length:Int),4):=by
 unfold vG at h;rw [h,List.drop_length,tN];simp
theorem xi {al:List nu} (Y:V2 (Value.int .i64) w p hs cs) (hn:n=cs.length) (ef:cs.length+m<262144) (hl:SV w q al) (hm:m=al.length):
 Calls prog jK.id #[.agg #[.int .i64 k,.slice p n d],.slice q m c] w fun e w'=>e= .returned (.tuple #[.int .i64 (if ff k cs && jP al then tN cs al else (0,1)).1,.int .i64 (if ff k cs && jP al then tN cs al else (0,1)).2])/\ao w w':=by
 subst hn hm;refine jK.ak ?_;intro n1 w2 h2;have e1:=h2.num;refine ⟨_,_,_,_,eY h2.has,(l9 (Y.grow h2.mod) rfl).mono ?_⟩;rintro e w5 ⟨rfl,g5⟩;have G5:=h2.mod.trans g5;refine ⟨_,rfl,?_⟩;cases c2:ff k cs with
 |false=>exact cu rfl ⟨rfl,G5⟩
 |true=>
 refine bm rfl ((xd (hl.grow G5) rfl (by omega)).mono ?_);rintro e w7 ⟨rfl,g7⟩;have G7:=G5.trans g7;refine ⟨_,rfl,?_⟩;cases cT:jP al with
 |false=>exact cu rfl ⟨rfl,G7⟩
 |true=>
 have Q: ∀x∈al,iy x.2=true:=by
  have:=cT;unfold jP at this
  rwa [List.all_eq_true] at this
 refine bm rfl ?_;have gm: ∀i,i<al.length->al.getD i dR∈al:=fun i hi=>by simp [List.getD,hi]
 have z5:=G5.size;have z7:=g7.size;refine ⟨fun P N C I u z=> ∃ (i:Nat) (hs:List Sl),I=i/\i<=al.length/\z=al.length - i/\i=N/\hs.length=i/\ao w7 u/\OV (Value.int .i64) aI u P C hs ((al.take i).map (·.2))/\(∀j,aJ P=some j->w7.heap.size<=j),
  ⟨_,0,[],rfl,Nat.zero_le _,rfl,rfl,rfl,aF.refl _,OV.nil,fun j J=>by simp [aJ] at J⟩,?_⟩
 rintro P N C I u z _ ⟨i,eg,rfl,hi,rfl,rfl,hlen,gu,o,fP⟩;have Gu:=G7.trans gu;refine aj (fun r=> ?_) (fun r=> ?_)
 . have r:i<al.length:=by simpa using r
   refine hl.ix Gu rfl r fun a s ac h1 ar h3=> ⟨_,_,_,_,ac u Gu,?_⟩
   intro d5 d4 an;refine bj an.has rfl rfl fun b7 cg b3=> ⟨_,_,_,ae cg rfl,?_⟩
   have el:=an.num;have b6:ao u b7:=an.mod.then b3 fun j J e=>by omega
   intro n22 b4 bb;have V:ao u b4:=b6.trans bb.mod;have zu:=gu.size;refine (o.grow V).mN kS (ns:= [⟨s.p,s.n,s.c⟩]) (nrows:= [(al.getD i dR).2]) (q:=some ⟨n22,0,none⟩) (m:=1) (k:=1) (fun j J=>by
    have:j=0:=by simpa using J
    subst this;exact ⟨_,rfl,ae bb.has rfl⟩) (VR.bH (h3.grow (Gu.trans V)) h1 ar) hlen.symm rfl (fun j J e=> ?_) (by simp;omega) fun d' P' C' a6 cb c0 d8=> ?_
   . obtain ⟨x,O,h0,hk⟩:=J;rw [List.mem_singleton] at O;subst O;have h0:0<s.n:=h0;have:=h3.lt (fun e3=>by rw [e3] at h1;simp at h1;omega) j hk;have:=fP j e;omega
   . have ec:=V.size;have b_:(al.take (i+1)).map (·.2)=(al.take i).map (·.2)++ [(al.getD i dR).2]:=by rw [nK r dR,List.map_append];rfl
     rw [<- b_] at a6;refine ⟨_,?_,i+1,_,wN (by omega) (by omega),r,rfl,by simp [hlen],by simp [hlen],(gu.trans V).then cb fun j J e=>by have:=fP j e;omega,a6,fun j J=> ?_⟩
     . omega
     . rcases c0 with rfl|rfl
       . exact fP j J
       . have:=aO J;omega
 have r:i=al.length:=by simp at r;omega
 subst r;rw [List.take_length] at o;have b1:bA u n1 _:=(h2.has.grow (g5.trans g7)).grow gu;refine ⟨_,_,_,_,eY b1,?_⟩;have hL:=Bv c2;refine (FZ (Y.grow Gu) rfl o.v2 (by simp) (fun c Y=> ⟨(hL c Y).1,fun x O=> ((hL c Y).2 x O).1⟩) (fun c Y=>by
  obtain ⟨x,O,rfl⟩:=List.mem_map.1 Y;have:=(cX (Q x O)).2;exact ⟨by omega,(cX (Q x O)).1⟩) (by omega) (by simp;omega)).mono ?_
 rintro e ej ⟨nb,id,rfl,hW,hN⟩;rw [yN fun c Y x O=> ((hL c Y).2 x O).2] at hW;refine ⟨_,rfl,?_⟩;refine ⟨fun I v z=> ∃ (i:Nat) (ci:List (List Int)) (vi:Int),I=i/\i<=al.length/\z=al.length - i/\Wk true (fun _=>False) u v nb vi id ci (cs.length+i)/\vG cs al i ci,⟨_,0,cs,k,rfl,Nat.zero_le _,rfl,hW,vG.zero cs al⟩,?_⟩;rintro I v z _ ⟨i,ci,vi,rfl,hi,rfl,a',X⟩;have Gv:=Gu.trans a'.wg;refine aj (fun r=> ?_) (fun r=> ?_)
 . have r:i<al.length:=by simpa using r
   have Z:=gm i r;have bk:=cX (Q _ Z);refine hl.ix Gv rfl r fun a s ac h1 ar h3=> ⟨_,_,_,_,ac v Gv,?_⟩
   intro b5 eb ad;have ea:=ad.num;refine bj ad.has rfl rfl fun cc aa b'=> ⟨_,_,_,_,eY aa,?_⟩
   have cp:ao v cc:=ad.mod.then b' fun j J e=>by omega
   have c7:=aa.lt;refine ((a'.enter cp).step (s:=al.getD i dR) (h3.grow Gu) h1 bk.2 (fun x O=> ⟨bk.1 x O,hN _ (List.mem_append_right _ (List.mem_map_of_mem Z)) x O⟩) (by omega)).mono ?_;rintro e a_ ⟨rfl,ce,t,ht,ay⟩;have aw:bA a_ b5 _:=aa.keep ce fun e=>e (.inr ⟨by omega,c7⟩);have av:=Gu.trans ay.wg;have a8:=ay.MC (A':=fun _=>False) fun j J=>J.elim;refine ⟨_,rfl,aj (fun U=> ?_) (fun U=> ?_)⟩
   . have U:gX ci (al.getD i dR)≠0:=by simpa using U
     have:=X.nM r U;simp only [Bool.and_self,if_true];rw [this];exact ⟨rfl,av⟩
   . have U:gX ci (al.getD i dR)=0:=by simpa using U
     have next: ¬((al.getD i dR).1=false/\(al.getD i dR).2= [])->∃ax,ax<al.length - i/\∃ (i':Nat) (aT:List (List Int)) (cm:Int),IntKind.i64.wrap ((i:Int)+1)=i'/\i'<=al.length/\ax=al.length - i'/\Wk true (fun _=>False) u a_ nb cm id aT (cs.length+i')/\vG cs al i' aT:=fun a7=>by
      have hh:(al.getD i dR).1=true\/(al.getD i dR).2≠[]:=by
       cases h:(al.getD i dR).1 with
       |true=>exact .inl rfl
       |false=>exact .inr fun e=>a7 ⟨h,e⟩
      have:=ht U hh;subst this;exact ⟨_,by omega,i+1,_,_,wN (by omega) (by omega),r,rfl,a8,X.next r U a7⟩
     refine ⟨_,ae aw rfl,aj (fun r3=> ?_) (fun r3=>next fun e=>by rw [e.1] at r3;cases r3)⟩;have r3:(al.getD i dR).1=false:=by simpa using r3
     refine ⟨_,_,_,ae aw rfl,aj (fun r4=> ?_) (fun r4=>next fun e=> ?_)⟩
     . have r4:(al.getD i dR).2= []:=by
        have:(s.n:Int)=0:=by simpa using r4
        exact List.eq_nil_of_length_eq_zero (by omega)
       have:=X.dV r U ⟨r3,r4⟩;simp only [Bool.and_self,if_true];rw [this];exact ⟨rfl,av⟩
     . have:(s.n:Int)≠0:=by simpa using r4
       rw [e.2] at h1;simp at h1;omega
 . have r:i=al.length:=by simp at r;omega
   subst r;simp only [Bool.and_self,if_true];rw [X.all];exact ⟨rfl,Gv⟩
end
section
variable {w w' w0 w2 w3 u0 u u':World} {p q:Option Addr} {n m c d:Nat} {k:Int} {hs ks:List Sl} {cs:List (List Int)} {l:List Int}
structure Dz (u0 u:World) (sl:Sl) (v:Value) (r:Option (Option Addr × Nat × List Sl)) (l c:Option Nat):Prop where
 g:ao u0 u
 r: ∀p d hs,r=some (p,d,hs)->Ow Sl.v aI u p d hs/\∀k,aJ p=some k->u0.heap.size<=k/\l≠some k/\c≠some k
 l: ∀n,l=some n->bA u n #[.slice sl.p sl.n sl.c]/\u0.heap.size<=n
 c: ∀n,c=some n->bA u n #[.int .i64 0,.slice none 0 0]/\u0.heap.size<=n
variable {sl:Sl} {v:Value} {r:Option (Option Addr × Nat × List Sl)} {ol oc:Option Nat}
theorem Dz.E (D:Dz u0 u sl v none ol oc) {K:Nat->World->Prop} (O: ∀n u',Dz u0 u' sl v (some (some ⟨n,0,none⟩,0,[])) ol oc->ao u0 u'->K n u'):
 ∀ (n:Nat) (u':World),aY (.cells #[] aI) u n u'->ao u0 u'/\K n u':=by
 intro n u' h;have G:=D.g.trans h.mod;have e:=h.num;have z:=D.g.size;refine ⟨G,O n u' ⟨G,fun p d hs I=> ?_,fun J I=> ⟨(D.l J I).1.grow h.mod,(D.l J I).2⟩,fun J I=> ⟨(D.c J I).1.grow h.mod,(D.c J I).2⟩⟩ G⟩;simp only [Option.some.injEq,Prod.mk.injEq] at I;obtain ⟨rfl,rfl,rfl⟩:=I;refine ⟨aY.o0 h,fun k O=> ?_⟩;have:=aO O;subst this;exact ⟨by omega,fun I=>by have:=(D.l _ I).1.lt;omega,fun I=>by have:=(D.c _ I).1.lt;omega⟩
theorem Dz.L (D:Dz u0 u sl v r none oc) {K:Nat->World->Prop} (J: ∀n u',Dz u0 u' sl v r (some n) oc->ao u0 u'->K n u'):
 ∀ (n:Nat) (u':World),aY (.cells #[.slice sl.p sl.n sl.c] aI) u n u'->ao u0 u'/\K n u':=by
 intro n u' h;have G:=D.g.trans h.mod;have e:=h.num;have z:=D.g.size;refine ⟨G,J n u' ⟨G,fun p d hs I=> ⟨(D.r p d hs I).1.grow h.mod,fun k J=> ?_⟩,fun O I=> ?_,fun O I=> ⟨(D.c O I).1.grow h.mod,(D.c O I).2⟩⟩ G⟩
 . obtain ⟨a1,a2,a3⟩:=(D.r p d hs I).2 k J;have:=(D.r p d hs I).1.lt k J;exact ⟨a1,fun Q=>by injection Q;omega,a3⟩
 . injection I with I;subst I;exact ⟨h.has,by omega⟩
theorem Dz.C (D:Dz u0 u sl v r ol none) {K:Nat->World->Prop} (J: ∀n u',Dz u0 u' sl v r ol (some n)->ao u0 u'->K n u'):
 ∀ (n:Nat) (u':World),aY (.cells #[.int .i64 0,.slice none 0 0] Cz) u n u'->ao u0 u'/\K n u':=by
 intro n u' h;have G:=D.g.trans h.mod;have e:=h.num;have z:=D.g.size;refine ⟨G,J n u' ⟨G,fun p d hs I=> ⟨(D.r p d hs I).1.grow h.mod,fun k J=> ?_⟩,fun O I=> ⟨(D.l O I).1.grow h.mod,(D.l O I).2⟩,fun O I=> ?_⟩ G⟩
 . obtain ⟨a1,a2,a3⟩:=(D.r p d hs I).2 k J;have:=(D.r p d hs I).1.lt k J;exact ⟨a1,a2,fun Q=>by injection Q;omega⟩
 . injection I with I;subst I;exact ⟨h.has,by omega⟩
theorem Dz.mN {hs0 news:List Sl} {V:Option Addr} {d0 m0 X n0:Nat} (D:Dz u0 u sl v (some (V,d0,hs0)) ol oc) (hv:Vw Sl.v u q news) (hn:n0=hs0.length) (hm:m0=news.length) (hlen:hs0.length+news.length<=100000) {K:World->Option Addr->Nat->Nat->Prop}
 (O: ∀u' J c',Dz u0 u' sl v (some (J,c',hs0++news)) ol oc->ao u0 u'->K u' J (hs0++news).length c'):
 ∃u',∃J n' c',(Builtin.append_ #[cq,cq] cq #[.slice V n0 d0,.slice q m0 X]).run prog u= .ok (.slice J n' c') u'/\K u' J n' c':=by
 obtain ⟨o,f⟩:=D.r _ _ _ rfl;have z:=D.g.size;refine o.qG kS hv hn hm (fun _=>rfl) (by omega) fun u' J c' Z m' U Y=> ?_;have G:ao u0 u':=D.g.then m' fun k O e=>by have:=(f k e).1;omega
 refine O u' J c' ⟨G,fun p d hs I=> ?_,fun Q I=> ⟨(D.l Q I).1.keep m' fun e=> (f _ e).2.1 I,(D.l Q I).2⟩,fun Q I=> ⟨(D.c Q I).1.keep m' fun e=> (f _ e).2.2 I,(D.c Q I).2⟩⟩ G;simp only [Option.some.injEq,Prod.mk.injEq] at I;obtain ⟨rfl,rfl,rfl⟩:=I;refine ⟨Z,fun k O=> ?_⟩;rcases U with rfl|rfl
 . exact f k O
 . have:=aO O;subst this;exact ⟨by omega,fun I=>by have:=(D.l _ I).1.lt;omega,fun I=>by have:=(D.c _ I).1.lt;omega⟩
theorem Dz.A {n0:Nat} {d0:Nat} {J:Option Addr} {m0 Q:Nat} (D:Dz u0 u sl v (some (J,d0,[])) ol oc) (hv:Vw Sl.v u0 q hs) (hn:n0=0) (hm:m0=hs.length) (hlen:hs.length<=99999) {K:World->Option Addr->Nat->Nat->Prop}
 (O: ∀u' I c',Dz u0 u' sl v (some (I,c',hs)) ol oc->ao u0 u'->K u' I hs.length c'):
 ∃u',∃I n' c',(Builtin.append_ #[cq,cq] cq #[.slice J n0 d0,.slice q m0 Q]).run prog u= .ok (.slice I n' c') u'/\ao u0 u'/\K u' I n' c':=
 D.mN (hs0:= []) (hv.grow D.g) hn hm (by simp;omega) fun u' I c' U g=> ⟨g,O u' I c' U g⟩
theorem Dz.B {n0:Nat} {d0 nl Q:Nat} {J:Option Addr} (D:Dz u0 u sl v (some (J,d0,hs)) (some nl) oc) (hn:n0=hs.length) (hlen:hs.length<=99999) {K:World->Option Addr->Nat->Nat->Prop}
 (O: ∀u' I c',Dz u0 u' sl v (some (I,c',hs++ [sl])) (some nl) oc->ao u0 u'->K u' I (hs++ [sl]).length c'):
 ∃u',∃I n' c',(Builtin.append_ #[cq,cq] cq #[.slice J n0 d0,.slice (some (Addr.mk nl 0 none)) 1 Q]).run prog u= .ok (.slice I n' c') u'/\ao u0 u'/\K u' I n' c':=
 D.mN (news:= [sl]) (fun j V=>by
  have:j=0:=by simpa using V
  subst this;exact ⟨_,rfl,ae (D.l nl rfl).1 rfl⟩) hn rfl (by simp;omega) fun u' I c' U g=> ⟨g,O u' I c' U g⟩
def Dn (u0:World) (k:Int) (hs:List Sl) (a:Addr) (u:World):Prop:= ∃ (n:Nat) (p:Option Addr) (d:Nat),a=⟨n,0,none⟩/\bA u n #[.int .i64 k,.slice p hs.length d]/\Ow Sl.v aI u p d hs/\ao u0 u/\u0.heap.size<=n/\∀j,aJ p=some j->u0.heap.size<=j/\j≠n
theorem Dz.S {J:Option Addr} {d0 n0 nc:Nat} (D:Dz u0 u sl v (some (J,d0,hs)) ol (some nc)) (hn:n0=hs.length) (k:Int) {K:World->Prop} (Q: ∀u',Dn u0 k hs ⟨nc,0,none⟩ u'->K u'):
 ∃u',ah (Addr.mk nc 0 none) 0 [.int .i64 k,.slice J n0 d0] u u'/\K u':=by
 subst hn;obtain ⟨o,f⟩:=D.r _ _ _ rfl;obtain ⟨U,O⟩:=D.c _ rfl;refine bj U rfl rfl fun u' V m'=>Q u' ⟨nc,J,d0,rfl,V,o.keep m' fun j I e=> (f j I).2.2 (by rw [e]),D.g.then m' fun j I e=>by omega,O,fun j I=> ⟨(f j I).1,fun e=> (f j I).2.2 (by rw [e])⟩⟩
end
section
variable {w w' w0 w2 w3 u0 u u':World} {p q:Option Addr} {n m c d:Nat} {k:Int} {hs ks:List Sl} {cs:List (List Int)} {l:List Int}
theorem VR.part {α:Type} {f:α->Value} {rows:List (List α)} (h:VR f w hs rows) (i:Nat) (hi:i<rows.length):VR f w (hs.take i++hs.drop (i+1)) (rows.take i++rows.drop (i+1)):=by
 refine VR.mN ⟨by simp [h.n],fun j I=> ?_⟩ ⟨by simp [h.n],fun j I=> ?_⟩
 . rw [List.length_take] at I;have e: ∀ {β:Type} (l:List β) (d:β),(l.take i).getD j d=l.getD j d:=fun l d=>by
    simp only [List.getD_eq_getElem?_getD,List.getElem?_take];rw [if_pos (by omega)]
   rw [e,e];exact h.r j (by omega)
 . rw [List.length_drop] at I;have e: ∀ {β:Type} (l:List β) (d:β),(l.drop (i+1)).getD j d=l.getD (i+1+j) d:=fun l d=>by
    simp only [List.getD_eq_getElem?_getD,List.getElem?_drop]
   rw [e,e];exact h.r _ (by omega)
theorem Vw.Nh {α:Type} {f:α->Value} {l:List α} (h:Vw f w p l) {k:Nat} (I:k<=l.length):Vw f w p (l.take k):=by
 have:=h.part (i:=0) (m:=k) (by omega)
 rwa [IU,List.drop_zero] at this
theorem Vw.M4 {α:Type} {f:α->Value} {l:List α} (h:Vw f w p l) {k c:Nat} (I:k<=l.length) (J:l.length<=c):Vw f w (if c=k then p else p.map (·.add (k*1))) (l.drop k):=by
 by_cases e:c=k
 . rw [List.drop_eq_nil_of_le (by omega)];exact Vw.nil
 . rw [if_neg e];have:=h.part (i:=k) (m:=l.length - k) (by omega)
   rwa [List.take_of_length_le (by rw [List.length_drop];omega)] at this
theorem xN {b:Bool} (U:V2 (Value.int .i64) w p hs cs) (hn:n=cs.length) (hx:cs.length<=1000) (hd:n<=d) (av: ∀c∈cs,c.length<=4096/\∀x∈c,bq x=true) (hl:Vw (Value.int .i64) w q l) (hm:m=l.length) (ek:iy l=true):
 Calls prog ij.id #[.agg #[.int .i64 k,.slice p n d],.agg #[.bool b,.slice q m c]] w fun e w'=> ∃ (p':Option Addr) (d':Nat) (hs':List Sl),e= .returned (.tuple #[.agg #[.int .i64 (q_ k cs (b,l)),.slice p' (jl cs (b,l)).length d'],.int .i64 (gX cs (b,l))])/\V2 (Value.int .i64) w' p' hs' (jl cs (b,l))/\(jl cs (b,l)).length<=d'/\ao w w'/\∀j,td p' hs' j->td p hs j\/qq [⟨q,l.length,c⟩] j\/w.heap.size<=j:=by
 subst hn hm;have Y:=cX ek;refine ij.ak ?_;intro n1 w2 h2 n3 w4 h4 n5 w6 h6;have e5:=h6.num;have z2:=h2.mod.size;have z4:=h4.mod.size;have Q:ao w w6:=(h2.mod.trans h4.mod).trans h6.mod;have b1:bA w6 n1 #[.int .i64 k,.slice p cs.length d]:=(h2.has.grow h4.mod).grow h6.mod;have b3:bA w6 n3 #[.bool b,.slice q l.length c]:=h4.has.grow h6.mod;have b5:bA w6 n5 _:=h6.has;refine ⟨_,ae b3 rfl,?_⟩;cases b with
 |true=>
  obtain ⟨s1,s2,s3⟩:=oU (cs:=cs) (s:=((true,l):nu)) (k:=k) rfl;rw [s1,s2,s3];refine cu rfl ⟨_,_,_,ae b3 rfl,(l6 (hl.grow Q) rfl (by omega) Y.1).mono ?_⟩;rintro e w9 ⟨qw,dw,rfl,ow,g9⟩;refine ⟨_,_,_,rfl,?_⟩;refine ⟨fun I u z=> ∃i:Nat,I=i/\i<=cs.length/\z=cs.length - i/\ao w9 u/\∀j,j<i->aW (cs.getD j [])≠aW l,⟨_,0,rfl,Nat.zero_le _,rfl,aF.refl _,fun j J=>by omega⟩,?_⟩;rintro I u z _ ⟨i,rfl,hi,rfl,gu,bb⟩;have Gu:=g9.trans gu;refine ⟨_,_,_,ae (b1.grow Gu) rfl,aj (fun r=> ?_) (fun r=> ?_)⟩
  . have r:i<cs.length:=by simpa using r
    have du:=nE r;refine ⟨_,_,_,ae (b1.grow Gu) rfl,(U.grow (Q.trans Gu)).ix (by omega) rfl (by omega) fun a sl k1 k0 k2 k3 k4=> ⟨_,_,_,k1,?_⟩⟩;rw [Int.toNat_natCast] at k2 k4;have ec:=av _ du;refine (l6 k4 k2 (by omega) ec.2).mono ?_;rintro e e7 ⟨q2,d2,rfl,eg,a7⟩;have nl:=nN (cs.getD i []);have fj:=nN l;refine ⟨_,_,_,rfl,(vB eg.vw ((ow.grow gu).grow a7).vw rfl rfl (by unfold maxLen;omega)).mono ?_⟩;rintro e aa ⟨rfl,b7⟩;have O:ao w6 aa:=(Gu.trans a7).trans b7;refine ⟨_,rfl,aj (fun V=> ?_) (fun V=> ?_)⟩
    . have V:aW (cs.getD i [])=aW l:=by simpa using V
      rw [yT r bb V];intro n24 e2 ar;have fk:=ar.num;have c0:=O.trans ar.mod;have GG:=Q.trans c0;have vh:Vw Sl.v w p hs:=U.h;have a8:=U.n;refine ⟨_,_,_,ae (b1.grow c0) rfl,?_⟩;refine fe 0 i d rfl rfl rfl (by omega) (by omega) (by omega) ?_;have ei:(if d=0 then p else p.map (·.add (0*1)))=p:=by split;rfl;exact IU p
      rw [ei,Nat.sub_zero,Nat.sub_zero];refine Ow.qG (l:=([]:List Sl)) kS (aY.o0 ar) (Vw.Nh (vh.grow GG) (k:=i) (by omega)) rfl (by rw [List.length_take];omega) (fun _=>rfl) (by simp;omega) fun a' ef fv cg ey cm eH=> ?_;have z6:=Q.size;have z22:=O.size;have f28: ∀j,aJ ef=some j->aa.heap.size<=j:=fun j J=>by
       have z25:=ar.mod.size;rcases cm with rfl|rfl
       . have:=aO J;omega
       . have:=aO J;omega
      have aw:ao aa a':=ar.mod.then ey fun j J e=>by have:=aO e;omega
      refine ⟨ao aa,aw.drew,_,fun v g=>ae (b1.grow (O.trans g)) rfl,_,_,_,fun v g=>ae (b1.grow (O.trans g)) rfl,?_⟩;rw [wN (i:=i+1) (by omega) (by omega)];refine fe (i+1) cs.length d rfl rfl rfl (by omega) (by omega) (by omega) ?_;rw [List.nil_append] at cg;refine Ow.qG kS cg.drew (Vw.M4 ((vh.grow ((Q.trans O).trans aw)).drew) (k:=i+1) (by omega) (by omega)) (by simp) (by rw [List.length_drop];omega) (fun _=>rfl) (by simp;omega) fun et b' eb cp er b6 eA=> ?_;have f34: ∀j,aJ b'=some j->aa.heap.size<=j:=fun j J=>by
       have zz:a'.drew.heap.size=a'.heap.size:=rfl;have:=aw.size;rcases b6 with rfl|rfl
       . exact f28 j J
       . have:=aO J;omega
      have ax:ao aa et:=aw.drew.then er fun j J e=>by have:=f28 j e;omega
      have el:(hs.take i++hs.drop (i+1)).length=(cs.eraseIdx i).length:=by
       rw [List.length_eraseIdx,if_pos r,List.length_append,List.length_take,List.length_drop];omega
      rw [el];refine ⟨ax,bj (b5.grow (O.trans ax)) rfl rfl fun es ep a_=> ⟨_,_,_,_,eY ep,b',eb,hs.take i++hs.drop (i+1),rfl,?_,?_,((Q.trans O).trans ax).then a_ fun j J e=>by omega,fun j J=> ?_⟩⟩
      . rw [List.eraseIdx_eq_take_drop_succ];have GW:ao w es:=((Q.trans O).trans ax).then a_ fun j J e=>by omega
        have i5:=b5.lt;have:=O.size;exact ((VR.part U.vr i r).grow GW).v2 (cp.keep a_ fun j J e=>by have:=f34 j J;omega).vw
      . rw [<- el];rcases cp.un with ⟨_,_,e⟩| ⟨_,_,_,_,h,_⟩
        . rw [e];exact Nat.zero_le _
        . exact h
      . rcases J with ⟨_,J⟩| ⟨x,hx,h0,J⟩
        . have:=f34 j J;have:=O.size;exact .inr (.inr (by omega))
        . refine .inl (.inr ⟨x,?_,h0,J⟩);rcases List.mem_append.1 hx with hx|hx
          . exact List.mem_of_mem_take hx
          . exact List.mem_of_mem_drop hx
    . have V:aW (cs.getD i [])≠aW l:=by simpa using V
      refine ⟨_,by omega,i+1,wN (by omega) (by omega),r,rfl,(gu.trans a7).trans b7,fun j J=> ?_⟩;by_cases e:j<i
      . exact bb j e
      . obtain rfl:j=i:=by omega
        exact V
  . have r:i=cs.length:=by simp at r;omega
    subst r;rw [zH bb];refine ⟨_,_,_,_,eY (b1.grow Gu),bj (b5.grow Gu) rfl rfl fun fi ej dp=> ⟨_,_,_,_,eY ej,p,d,hs,rfl,U.grow ((Q.trans Gu).then dp fun j J e=>by omega),hd,(Q.trans Gu).then dp fun j J e=>by omega,fun j J=> .inl J⟩⟩
 |false=>
  refine bm rfl ⟨_,_,_,ae b1 rfl,bm (by simp;omega) ?_⟩;refine ⟨fun u=>ao w6 u/\(uB cs l\/fB cs l),⟨_,_,_,ae b1 rfl,_,_,_,ae b3 rfl,(pA (U.grow Q) rfl (by omega) (fun c U=> (av c U).2) (hl.grow Q) rfl (by omega) Y.1).mono ?_⟩,?_⟩
  . rintro e fu ⟨r,rfl,hr,ac⟩;refine ⟨_,rfl,aj (fun r1=> ?_) (fun r1=> ⟨ac,.inl (hr.1 (by simpa using r1))⟩)⟩;have r1: ¬uB cs l:=fun e=>by rw [hr.2 e] at r1;cases r1
    refine ⟨_,_,_,ae (b1.grow ac) rfl,_,_,_,ae (b3.grow ac) rfl,(yR (U.grow (Q.trans ac)) rfl (by omega) (fun c U=> (av c U).2) (fun c U=> (av c U).1) (hl.grow (Q.trans ac)) rfl (by omega) Y.1).mono ?_⟩;rintro e fA ⟨V,rfl,c3,ed⟩;have ap:=ac.trans ed;refine ⟨_,rfl,aj (fun r3=> ?_) (fun r3=> ⟨ap,.inr (c3.1 (by simpa using r3))⟩)⟩;have r3: ¬fB cs l:=fun e=>by rw [c3.2 e] at r3;cases r3
    obtain ⟨s1,s2,s3⟩:=rO (cs:=cs) (s:=((false,l):nu)) (k:=k) rfl (fun e=>e.elim r1 r3);rw [s1,s2,s3];exact ⟨_,_,_,_,eY (b1.grow ap),bj (b5.grow ap) rfl rfl fun fb ew dd=> ⟨_,_,_,_,eY ew,p,d,hs,rfl,U.grow ((Q.trans ap).then dd fun j J e=>by omega),hd,(Q.trans ap).then dd fun j J e=>by omega,fun j J=> .inl J⟩⟩
  . rintro X _ ⟨Z,eu⟩;obtain ⟨s1,s2,s3⟩:=pB (cs:=cs) (s:=((false,l):nu)) (k:=k) rfl eu;rw [s1,s2,s3];have vh:Vw Sl.v X.drew p hs:=(U.h.grow (Q.trans Z)).drew;have a8:=U.n;have D0:Dz X.drew X.drew ⟨q,l.length,c⟩ (.bool true) none none none:=⟨aF.refl _,fun _ _ _ e=> (by cases e),fun _ e=> (by cases e),fun _ e=> (by cases e)⟩
    refine ⟨Dn X.drew k (hs++ [⟨q,l.length,c⟩]),⟨ao X.drew,aF.refl _,_,fun v g=>ae ((b1.grow Z).drew.grow g) rfl,_,_,_,fun v g=>ae ((b1.grow Z).drew.grow g) rfl,_,_,_,fun v g=>ae ((b3.grow Z).drew.grow g) rfl,?_⟩,?_⟩
    . repeat' first
       | (with_reducible refine Dz.E (by assumption) fun _ _ _ _=> ?_)
       | (with_reducible refine Dz.L (by assumption) fun _ _ _ _=> ?_)
       | (with_reducible refine Dz.C (by assumption) fun _ _ _ _=> ?_)
       | (with_reducible refine Dz.A (by assumption) vh rfl a8.symm (by omega) fun _ _ _ _ _=> ?_)
       | (with_reducible refine Dz.B (by assumption) rfl (by omega) fun _ _ _ _ _=> ?_)
       | (with_reducible refine Dz.S (by assumption) rfl _ fun _ h=>h)
       |with_reducible refine And.intro ?_ ?_
    . rintro _ az _ ⟨nc,p',d',rfl,bc,o,gc,hz,hf⟩;have zd:X.drew.heap.size=X.heap.size:=rfl;have cb:ao w6 az:=Z.drew.trans gc;refine ⟨fun I u z=> ∃i:Nat,I=i/\i<=l.length/\z=l.length - i/\aF (·=nc) az u/\bA u nc #[.int .i64 (xm k (l.take i)),.slice p' (hs++ [(⟨q,l.length,c⟩:Sl)]).length d'],⟨_,0,rfl,Nat.zero_le _,rfl,aF.refl _,bc⟩,?_⟩;rintro I u z _ ⟨i,rfl,hi,rfl,mu,bu⟩;have e':=Z.size;have GU:ao w6 u:=cb.then mu fun j J e=>by omega
      refine ⟨_,_,_,ae (b3.grow GU) rfl,aj (fun r=> ?_) (fun r=> ?_)⟩
      . have r:i<l.length:=by simpa using r
        have hb:=l4 (Y.1 _ (bg r));refine ⟨_,_,_,ae (b3.grow GU) rfl,(hl.grow (Q.trans GU)).ix 0 (by omega) rfl (by omega) fun a e=> ⟨_,e,?_⟩⟩;rw [Int.toNat_natCast];refine (jO (by omega) u (by omega)).mono ?_;rintro e eT ⟨rfl,ag⟩;have ad:=bu.grow ag;have step: ∀ (W:World),xm k (l.take (i+1))=(if bf (l.getD i 0)>xm k (l.take i) then bf (l.getD i 0) else xm k (l.take i)):=fun _=>by
         rw [AL r];unfold imax bf;repeat' split
         all_goals omega
        have step:=step u;refine ⟨_,rfl,_,ae ad rfl,aj (fun V=> ?_) (fun V=> ?_)⟩
        . have V:bf (l.getD i 0)>xm k (l.take i):=by simpa using V
          rw [if_pos V] at step;refine bO ad rfl rfl fun eN cc dk=> ⟨_,by omega,i+1,wN (by omega) (by omega),r,rfl,(mu.grow ag).trans dk,by rw [step];exact cc⟩
        . have V: ¬bf (l.getD i 0)>xm k (l.take i):=by simpa using V
          rw [if_neg V] at step;exact ⟨_,by omega,i+1,wN (by omega) (by omega),r,rfl,mu.grow ag,by rw [step];exact ad⟩
      . have r:i=l.length:=by simp at r;omega
        subst r;rw [List.take_length] at bu;have i5:=b5.lt;have GW:ao w u:=Q.trans GU;have el:(hs++ [(⟨q,l.length,c⟩:Sl)]).length=(cs++ [l]).length:=by simp [a8]
        have o2:=o.keep mu fun j J=> (hf j J).2;rw [el] at bu;refine ⟨_,_,_,_,eY bu,bj (b5.grow GU) rfl rfl fun di c2 an=> ⟨_,_,_,_,eY c2,p',d',hs++ [⟨q,l.length,c⟩],rfl,?_,?_,GW.then an fun j J e=>by omega,fun j J=> ?_⟩⟩
        . have GX:ao w di:=GW.then an fun j J e=>by omega
          exact ((U.vr.mN (VR.bH (s:=⟨q,l.length,c⟩) hl rfl (by show l.length<=maxLen;unfold maxLen;omega))).grow GX).v2 (o2.keep an fun j J e=>by have:=(hf j J).1;omega).vw
        . rw [<- el];rcases o2.un with ⟨_,_,e⟩| ⟨_,_,_,_,h,_⟩
          . rw [e];exact Nat.zero_le _
          . exact h
        . rcases J with ⟨_,J⟩|J
          . have:=(hf j J).1;have:=Q.size;exact .inr (.inr (by omega))
          . rcases sk.1 J with J|J
            . exact .inl (.inr J)
            . exact .inr (.inl J)
end
section
variable {w w' w0 w2 w3 u0 u u':World} {p q:Option Addr} {n m c d:Nat} {k:Int} {hs ks:List Sl} {cs:List (List Int)} {l:List Int}
theorem CT {s:nu} (J: ∀c∈cs,c.length<=4096/\∀x∈c,bq x=true) (hs:iy s.2=true): ∀c∈jl cs s,c.length<=4096/\∀x∈c,bq x=true:=by
 intro c I;cases h:s.1 with
 |true=>
  rw [(oU (k:=0) h).2.1] at I;have: ∀ {cs:List (List Int)},c∈lX s.2 cs->c∈cs:=by
   intro cs
   induction cs with
   |nil=>exact fun h=>h
   |cons x l Q=>
    intro h;unfold lX at h;split at h
    . exact List.mem_cons_of_mem _ h
    . rcases List.mem_cons.1 h with h|h
      . exact h▸List.mem_cons_self ..
      . exact List.mem_cons_of_mem _ (Q h)
  exact J c (this I)
 |false=>
  by_cases O:uB cs s.2\/fB cs s.2
  . rw [(pB (k:=0) h O).2.1] at I;rcases List.mem_append.1 I with I|I
    . exact J c I
    . rw [List.mem_singleton] at I;subst I;exact ⟨(cX hs).2,(cX hs).1⟩
  . rw [(rO (k:=0) h O).2.1] at I;exact J c I
theorem E3 {s:nu}:(jl cs s).length<=cs.length+1:=by
 cases h:s.1 with
 |true=>
  rw [(oU (k:=0) h).2.1];have: ∀ {cs:List (List Int)},(lX s.2 cs).length<=cs.length:=by
   intro cs
   induction cs with
   |nil=>exact Nat.le_refl _
   |cons x l ih=>
    unfold lX;split
    . simp
    . simpa using ih
  have:=this (cs:=cs);omega
 |false=>
  by_cases I:uB cs s.2\/fB cs s.2
  . rw [(pB (k:=0) h I).2.1];simp
  . rw [(rO (k:=0) h I).2.1];omega
def PI (w:World) (Q:Nat) (cs:List (List Int)) (al:List nu) (I:Int) (u:World) (z:Nat):Prop:=
 ∃ (i:Nat) (ci:List (List Int)) (U:Int) (J:Option Addr) (O:Nat) (hi:List Sl),I=i/\i<=al.length/\z=al.length - i/\ao w u/\bA u Q #[.int .i64 U,.slice J ci.length O]/\V2 (Value.int .i64) u J hi ci/\ci.length<=O/\(∀j,td J hi j->j≠Q)/\(∀c∈ci,c.length<=4096/\∀x∈c,bq x=true)/\ci.length<=40+i/\vG cs al i ci
theorem xg {al:List nu} (hc:V2 (Value.int .i64) w p hs cs) (hn:n=cs.length) (el:cs.length<=40) (hd:n<=d) (d5:ff k cs=true) (hl:SV w q al) (hm:m=al.length) (ec:m<=60) (cc:jP al=true):
 Calls prog dP.id #[.agg #[.int .i64 k,.slice p n d],.slice q m c] w fun e w'=>e= .returned (.tuple #[.int .i64 (tN cs al).1,.int .i64 (tN cs al).2])/\ao w w':=by
 subst hn hm;have cp: ∀x∈al,iy x.2=true:=by unfold jP at cc;rwa [List.all_eq_true] at cc
 have gm: ∀i,i<al.length->al.getD i dR∈al:=fun i hi=>by simp [List.getD,hi]
 have hL:=Bv d5;refine dP.ak ?_;intro n1 w2 h2;have e1:=h2.num;refine ⟨PI w n1 cs al,⟨_,0,cs,k,p,d,hs,rfl,Nat.zero_le _,rfl,h2.mod,h2.has,hc.grow h2.mod,hd,fun j O e=>by have:=hc.Ki j O;omega,fun c hc=> ⟨(hL c hc).1,fun x hx=> ((hL c hc).2 x hx).1⟩,by omega,vG.zero cs al⟩,?_⟩;rintro I u z _ ⟨i,ci,vi,pi,di,hi,rfl,er,rfl,gu,bu,vu,b_,fo,li,ed,ax⟩;refine aj (fun r=> ?_) (fun r=> ?_)
 . have r:i<al.length:=by simpa using r
   have c0:=gm i r;have bb:=cp _ c0;have ef:=gu.size;have iu:=bu.lt;have gd:ao u u.drew:=(aF.refl u).drew;have tail: ∀ (J:World) (Q:Nat) (p':Option Addr) (d':Nat) (hs':List Sl) (sl:Sl),ao u J->u.heap.size<=Q->bA J Q #[.int .i64 (q_ vi ci (al.getD i dR)),.slice p' (jl ci (al.getD i dR)).length d']->V2 (Value.int .i64) J p' hs' (jl ci (al.getD i dR))->(jl ci (al.getD i dR)).length<=d'->
    (∀j,td p' hs' j->j≠n1)->
    aG (gX ci (al.getD i dR) !=(0:Int))
    ((fun (v:Value) (w':World)=>Ending.returned v= .returned (.tuple #[.int .i64 (tN cs al).1,.int .i64 (tN cs al).2])/\ao w w') (.tuple #[.int .i64 i,.int .i64 (gX ci (al.getD i dR))]) J)
    (aP q al.length i 2 fun c2=>
      ∃cb,J.cell? (c2.add 0)=some (.bool cb)/\
      aG (!cb)
      (aP q al.length i 2 fun dd=>
      ∃ce az cg,J.cell? (dd.add 1)=some (.slice ce az cg)/\
      aG ((az:Int)==(0:Int))
      ((fun (v:Value) (w':World)=>Ending.returned v= .returned (.tuple #[.int .i64 (tN cs al).1,.int .i64 (tN cs al).2])/\ao w w') (.tuple #[.int .i64 i,.int .i64 0]) J)
      (∃cm a7 a8 aT,aB J (Addr.mk Q 0 none) 0 [.int .i64 cm,.slice a7 a8 aT]/\
        ∃cT,ah (Addr.mk n1 0 none) 0 [.int .i64 cm,.slice a7 a8 aT] J cT/\
        ∃k5,k5<al.length - i/\PI w n1 cs al (IntKind.i64.wrap (i+ (1:Int))) cT k5))
      (∃ac Y Z X,aB J (Addr.mk Q 0 none) 0 [.int .i64 ac,.slice Y Z X]/\
      ∃aa,ah (Addr.mk n1 0 none) 0 [.int .i64 ac,.slice Y Z X] J aa/\
      ∃k5,k5<al.length - i/\PI w n1 cs al (IntKind.i64.wrap (i+ (1:Int))) aa k5)):=by
    intro J Q p' d' hs' sl b7 ea dT hv ap hf;have Gw:=gu.trans b7;have next:gX ci (al.getD i dR)=0->¬((al.getD i dR).1=false/\(al.getD i dR).2= [])->∃ac Y Z X,aB J (Addr.mk Q 0 none) 0 [.int .i64 ac,.slice Y Z X]/\
     ∃aa,ah (Addr.mk n1 0 none) 0 [.int .i64 ac,.slice Y Z X] J aa/\
     ∃k5,k5<al.length - i/\PI w n1 cs al (IntKind.i64.wrap (i+ (1:Int))) aa k5:=fun he c3=>by
     have hlen:=E3 (cs:=ci) (s:=al.getD i dR);exact ⟨_,_,_,_,eY dT,bj (bu.grow b7) rfl rfl fun aa d4 b8=> ⟨_,by omega,i+1,_,_,_,_,_,wN (by omega) (by omega),r,rfl,Gw.then b8 fun j O e=>by omega,d4,hv.jG b8 hf,ap,hf,CT li bb,by omega,ax.next r he c3⟩⟩
    refine aj (fun r2=> ?_) (fun r2=> ?_)
    . have r2:gX ci (al.getD i dR)≠0:=by simpa using r2
      rw [ax.nM r r2];exact ⟨rfl,Gw⟩
    . have r2:gX ci (al.getD i dR)=0:=by simpa using r2
      refine hl.ix Gw rfl r fun a s an h1 b5 h3=> ⟨_,aB.get (an J Gw) 0 _ rfl,aj (fun r3=> ?_) (fun r3=>next r2 fun e=>by rw [e.1] at r3;cases r3)⟩
      have r3:(al.getD i dR).1=false:=by simpa using r3
      refine hl.ix Gw rfl r fun a s an h1 b5 h3=> ⟨_,_,_,aB.get (an J Gw) 1 _ rfl,aj (fun r4=> ?_) (fun r4=>next r2 fun e=> ?_)⟩
      . have r4:(al.getD i dR).2= []:=by
         have:(s.n:Int)=0:=by simpa using r4
         exact List.eq_nil_of_length_eq_zero (by omega)
        rw [ax.dV r r2 ⟨r3,r4⟩];exact ⟨rfl,Gw⟩
      . have:(s.n:Int)≠0:=by simpa using r4
        rw [e.2] at h1;simp at h1;omega
   refine ⟨ao u,gd,_,_,_,_,fun v g=>eY (bu.grow g),hl.ix (gu.trans gd) rfl r fun a s an h1 b5 h3=> ⟨_,_,_,_,fun v g=>an v (gu.trans g),?_,?_⟩⟩
   . have G:=gu.trans gd;refine (xN (b:=(al.getD i dR).1) (vu.grow gd) rfl (by omega) b_ li (h3.grow G) h1 bb).mono ?_;rintro e dk ⟨p',d',hs',rfl,hv,ap,ag,f14⟩;refine ⟨_,_,_,_,_,rfl,?_⟩;intro Q a_ U;have V:=(gd.trans ag).trans U.mod;have dw:=U.num;have zz:u.drew.heap.size=u.heap.size:=rfl;have eb:=ag.size;refine ⟨V,bj U.has rfl rfl fun J bv ad=>tail J Q p' d' hs' s (V.then ad fun j O e=>by omega) (by omega) bv ((hv.grow U.mod).jG ad fun j O e=>by have:=hv.Ki j O;omega) ap fun j O e=> ?_⟩;rcases f14 j O with O| ⟨x,hx,h0,O⟩|O
     . exact fo j O e
     . rw [List.mem_singleton] at hx;subst hx;have:=h3.lt (fun e3=>by have h0:0< (al.getD i dR).2.length:=h0;rw [e3] at h0;simp at h0) j O;omega
     . omega
   . intro Q a_ U;have V:ao u a_:=gd.trans U.mod;have dw:=U.num;have zz:u.drew.heap.size=u.heap.size:=rfl;have G:=gu.trans V;have en:=V.size;have eg:=U.has.lt;refine ⟨V,(xN (b:=(al.getD i dR).1) (vu.grow V) rfl (by omega) b_ li (h3.grow G) h1 bb).mono ?_⟩;rintro e dk ⟨p',d',hs',rfl,hv,ap,ag,f14⟩;have key: ∀j,td p' hs' j->j<u.heap.size/\j≠n1\/a_.heap.size<=j:=fun j O=>by
      rcases f14 j O with O| ⟨x,hx,h0,O⟩|O
      . exact .inl ⟨vu.Ki j O,fo j O⟩
      . rw [List.mem_singleton] at hx;subst hx;have:=h3.lt (fun e3=>by have h0:0< (al.getD i dR).2.length:=h0;rw [e3] at h0;simp at h0) j O;exact .inl ⟨by omega,by omega⟩
      . exact .inr O
     refine ⟨_,_,_,_,_,rfl,bj (U.has.grow ag) rfl rfl fun J bv ad=>tail J Q p' d' hs' s ((V.trans ag).then ad fun j O e=>by omega) (by omega) bv (hv.jG ad fun j O e=>by have:=key j O;omega) ap fun j O e=>by have:=key j O;omega⟩
 . have r:i=al.length:=by simp at r;omega
   subst r;rw [ax.all];exact ⟨rfl,gu⟩
end
end Go.Proofs.YtenmibfmhccmiaaGreat.W
