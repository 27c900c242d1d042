/- Layer 8: the document's sources. -/
import Derived.Test.YtenmibfmhccmiaaGreatCountA
import Derived.Test.YtenmibfmhccmiaaGreatCdA
import Derived.Test.YtenmibfmhccmiaaGreatLitA
import Derived.DeepKeys4
namespace Go.Proofs.YtenmibfmhccmiaaGreat.W
open Go Go.Fw Go.RowKit Go.SoP Go.LiP
section
variable {W w w' w0 w2 w3 u:World} {p q:Option Addr} {n m d i c:Nat} {k:Int} {hs:List Sl} {cs:List (List Int)} {l:List Int} {ss:List So} {al:List nu}
theorem CH (hl:SV w q al) (hm:m=al.length) (ad:m<=1000000) {e:Nat}:Calls Tryz.prog gG.id #[.slice q m e] w fun e w'=>ao w w'/\((Nm al/\e= .returned (.int .i64 (-1)))\/∃t:Nat,ww al t/\e= .returned (.int .i64 (t:Int))):=by
 subst hm;refine gG.ak ?_;refine ⟨fun I u z=> ∃t:Nat,I=t/\t<=al.length/\z=al.length - t/\ao w u/\∀j,j<t->¬tF (al.getD j dR),⟨_,0,rfl,Nat.zero_le _,rfl,aF.refl _,fun j hj=>by omega⟩,?_⟩;rintro I u z _ ⟨t,rfl,ht,rfl,J,O⟩;refine aj (fun r=> ?_) (fun r=> ⟨J,.inl ⟨fun j hj=>O j (by simp at r;omega),rfl⟩⟩);have r:t<al.length:=by simpa using r
 have next: ¬tF (al.getD t dR)->∃Z,Z<al.length - t/\∃V:Nat,IntKind.i64.wrap ((t:Int)+1)=V/\V<=al.length/\Z=al.length - V/\ao w u/\∀j,j<V->¬tF (al.getD j dR):=fun h=>
  ⟨_,by omega,t+1,wN (by omega) (by omega),r,rfl,J,fun j hj=>by
    by_cases e:j<t
    . exact O j e
    . obtain rfl:j=t:=by omega
      exact h⟩
 refine hl.ix J rfl r fun a s Y h1 h2 h3=> ⟨_,aB.get (Y u J) 0 _ rfl,aj (fun X=> ?_) (fun X=>next fun e=>by rw [e.1] at X;cases X)⟩
 refine hl.ix J rfl r fun a2 s2 U k1 k2 Z=> ⟨_,_,_,aB.get (U u J) 1 _ rfl,aj (fun Q=> ⟨J,.inr ⟨t,⟨r,⟨by simpa using X,?_⟩,O⟩,rfl⟩⟩) (fun Q=>next fun e=> ?_)⟩
 . rw [k1] at Q;have Q:(((al.getD t dR).2.length:Nat):Int)=0:=by simpa using Q
   exact List.eq_nil_of_length_eq_zero (by omega)
 . rw [k1,e.2] at Q;cases Q
def NI (x:Bool × Int):Int:=if x.1=true then 1000000+x.2 else x.2
def AU (x:So):List Value:= [.slice x.1.p x.1.n x.1.c,.int .i64 (NI x.2)]
theorem tu:HJ 2 AU:=⟨fun _=>rfl,by omega,fun x v hv=>by
 simp only [AU,List.mem_cons,List.not_mem_nil,or_false] at hv;rcases hv with rfl|rfl<;>rfl⟩
theorem tW:q6 Tryz.prog mJ bI 2 32=true:=by kernel_rfl
theorem SW.OE {ss:List So} {l:List Sr} (h:SW W ss l) (o:Vr 2 AU u p ss) (hn:n=l.length) (hi:i<l.length) {K:Addr->Prop}
 (J: ∀a (s:Sl),aB u a 0 [.slice s.p s.n s.c,.int .i64 (NI (l.getD i zZ).2)]->s.n=(l.getD i zZ).1.length->s.n<=maxLen->Vw (Value.int .i64) W s.p (l.getD i zZ).1->K a):aP p n (i:Int) 2 K:=by
 subst hn;obtain ⟨h1,U,O,Q⟩:=h.r i hi;refine o.ix Mf (by omega) (by rw [h.n]) (by omega) fun a I=>J a (ss.getD i Mf).1 ?_ U O Q;rw [Int.toNat_natCast] at I;unfold AU at I;rw [h1] at I;exact I
theorem SW.NG {ss:List So} {l:List Sr} (h:SW W ss l) (o:Row 2 AU bI u p c ss) (hn:n=l.length) (hi:i<l.length) {K:Addr->Prop}
 (I: ∀a (s:Sl),aB u a 0 [.slice s.p s.n s.c,.int .i64 (NI (l.getD i zZ).2)]->s.n=(l.getD i zZ).1.length->s.n<=maxLen->Vw (Value.int .i64) W s.p (l.getD i zZ).1->K a):aP p n (i:Int) 2 K:=h.OE (o.vr tu) hn hi I
theorem Ea {s:So} {b:Nat} (h:bA u b #[.slice s.1.p s.1.n s.1.c,.int .i64 (NI s.2)]):Vr 2 AU u (some ⟨b,0,none⟩) [s]:=by
 intro j I;have:j=0:=by simpa using I
 subst this;exact ⟨_,rfl,bG h rfl,bG h rfl,trivial⟩
theorem wM {ss:List So} {al:List Sr} (o:Row 2 AU bI w p d ss) (sw:SW W ss al) (hW:ao W w) (hn:n=al.length) (hx:n<=10000) {e:Nat}:
 Calls Tryz.prog dv.id #[.slice p n e] w fun e w'=> ∃ (q:Option Addr) (d':Nat) (ks:List Sl),e= .returned (.slice q al.length d')/\V2 (Value.int .i64) w' q ks (al.map (·.1))/\al.length<=d'/\ao w w':=by
 subst hn;refine dv.ak ?_;intro n1 w2 U;have e1:=U.num;refine ⟨fun P N C I u z=> ∃ (i:Nat) (ks:List Sl),I=i/\i<=al.length/\z=al.length - i/\i=N/\ao w u/\Ow Sl.v aI u P C ks/\VR (Value.int .i64) W ks ((al.take i).map (·.1))/\∀j,aJ P=some j->w.heap.size<=j,
  ⟨_,0,[],rfl,Nat.zero_le _,rfl,rfl,U.mod,aY.o0 U,VR.nil,fun j V=>by have:=aO V;omega⟩,?_⟩
 rintro P N C I u z _ ⟨i,ks,rfl,hi,rfl,rfl,Q,ok,vr,fo⟩;have J:=vr.n;rw [List.length_map,List.length_take,Nat.min_eq_left hi] at J;refine aj (fun r=> ?_) (fun r=> ?_)
 . have r:i<al.length:=by simpa using r
   refine sw.NG (o.grow Q) rfl r fun a s Y h1 U h3=> ⟨_,_,_,aB.get Y 0 _ rfl,?_⟩
   intro ar az O;have ag:=O.num;have zu:=Q.size;refine Ow.qG kS (ok.grow O.mod) (Jo (sl:=s) O.has) J.symm rfl (fun _=>rfl) (by simp;omega) fun ay p' c' aa X Z aw=> ?_;have av:=O.mod.size;refine ⟨_,by omega,i+1,_,wN (by omega) (by omega),r,rfl,by simp [J],(Q.trans O.mod).then X fun j V e=>by have:=fo j e;omega,aa,?_,fun j V=> ?_⟩
   . rw [nK r zZ,List.map_append];exact vr.mN (VR.bH (s:=s) h3 h1 U)
   . rcases Z with rfl|rfl
     . exact fo j V
     . have:=aO V;omega
 . have r:i=al.length:=by simp at r;omega
   subst r;rw [List.take_length] at vr;exact ⟨P,C,ks,rfl,(vr.grow (hW.trans Q)).v2 ok.vw,by
    rcases ok.un with ⟨_,_,e⟩| ⟨_,_,_,_,h,_⟩
    . rw [e] at J;simp at J;omega
    . omega,Q⟩
end
section
variable {W w w' w0 w2 w3 u:World} {p q:Option Addr} {n m d i c:Nat} {k:Int} {hs:List Sl} {cs:List (List Int)} {l:List Int} {ss:List So} {al:List nu}
theorem Vr.LC {ss:List So} (h:Vr 2 AU w p ss) {k:Nat} (I:k<=ss.length):Vr 2 AU w p (ss.take k):=by
 have:=h.part (i:=0) (m:=k) (by omega)
 rwa [Ox,List.drop_zero] at this
theorem Vr.LF {ss:List So} (h:Vr 2 AU w p ss) {k c:Nat} (I:k<=ss.length) (J:ss.length<=c):Vr 2 AU w (if c=k then p else p.map (·.add (k*2))) (ss.drop k):=by
 by_cases e:c=k
 . rw [List.drop_eq_nil_of_le (by omega)];exact Vr.nil
 . rw [if_neg e];have:=h.part (i:=k) (m:=ss.length - k) (by omega)
   rwa [List.take_of_length_le (by rw [List.length_drop];omega)] at this
theorem Az {e:Nat} (hc:V2 (Value.int .i64) w p hs cs) (hn:n=cs.length) (hx:cs.length<=1000) (hl:SV w q al) (hm:m=al.length) (e6:m<=1000) (du: ∀c∈cs,iy c=true) (bx:jP al=true) (hi:i<=al.length):
 Calls Tryz.prog eJ.id #[.agg #[.int .i64 k,.slice p n d],.slice q m e,.int .i64 (i:Int)] w fun e w'=> ∃ (q':Option Addr) (d':Nat) (ss:List So),e= .returned (.slice q' (ng cs al i).length d')/\Row 2 AU bI w' q' d' ss/\SW w ss (ng cs al i)/\ao w w'/\∀j,aJ q'=some j->w.heap.size<=j:=by
 subst hn hm;refine eJ.ak ?_;intro n1 w2 h2 n3 w4 h4;have e1:=h2.num;have e3:=h4.num;have z2:=h2.mod.size;have G4:ao w w4:=h2.mod.trans h4.mod;have b4:=h2.has.grow h4.mod;have o4:Row 2 AU bI w4 (some ⟨n3,0,none⟩) 0 []:=Row.dx tu.len h4.at (Nat.le_refl _) (Nat.zero_le _) rfl rfl;refine ⟨fun P N C I u z=> ∃ (i:Nat) (ss:List So),I=i/\i<=cs.length/\z=cs.length - i/\i=N/\ao w2 u/\Row 2 AU bI u P C ss/\SW w ss (vX cs i)/\∀j,aJ P=some j->w2.heap.size<=j,
  ⟨_,0,[],rfl,Nat.zero_le _,rfl,rfl,h4.mod,o4,SW.nil,fun j O=>by have:=aO O;omega⟩,?_⟩
 rintro P N C I u z _ ⟨a,ss,rfl,ha,rfl,rfl,U,o,Y,fo⟩;have Gu:=h2.mod.trans U;have J:=Y.n;rw [uC] at J;have bu:=h2.has.grow U;have zu:=U.size;refine ⟨_,_,_,ae bu rfl,aj (fun r=> ?_) (fun r=> ?_)⟩
 . have r:a<cs.length:=by simpa using r
   refine ⟨_,_,_,ae bu rfl,(hc.grow Gu).ix (by omega) rfl (by omega) fun ad sl k1 k0 k2 k3 k4=> ⟨_,_,_,k1,?_⟩⟩;rw [Int.toNat_natCast] at k0 k2;obtain ⟨_,_,r3⟩:=hc.r a r;rw [<- k0] at r3;intro fm f0 qz;have eu:=qz.num;refine Row.mN tu tW (o.grow qz.mod) (Ea (s:=(sl,false,(a:Int))) qz.has) J.symm rfl (by simp;omega) fun fa p' c' dT dc aw cm=> ?_;refine ⟨_,by omega,a+1,_,wN (by omega) (by omega),r,rfl,by simp [J],(U.trans qz.mod).then dc fun j O e=>by have:=fo j e;omega,dT,by rw [Fd];exact Y.mN (SW.bH rfl k2 k3 r3),fun j O=> ?_⟩;have:=qz.mod.size;rcases aw with rfl|rfl
   . exact fo j O
   . have:=aO O;omega
 have r:a=cs.length:=by simp at r;omega
 subst r;refine ⟨fun P N C I u z=> ∃ (t:Nat) (ss:List So),I=t/\t<=i/\z=i - t/\N=(ng cs al t).length/\ao w2 u/\Row 2 AU bI u P C ss/\SW w ss (ng cs al t)/\∀j,aJ P=some j->w2.heap.size<=j,
  ⟨_,0,ss,rfl,Nat.zero_le _,rfl,by show _=(vX cs cs.length).length;rw [uC],U,o,Y,fo⟩,?_⟩
 clear r o Y fo J bu zu Gu;clear U ss;rintro P N C I u z _ ⟨t,ss,rfl,ht,rfl,rfl,U,o,Y,fo⟩;have Gu:=h2.mod.trans U;have J:=Y.n;have zu:=U.size;have e2:=zB (cs:=cs) (al:=al) (i:=t);refine aj (fun r=> ?_) (fun r=> ?_)
 . have r:t<i:=by simpa using r
   have b':=F6 (al:=al) (j:=t) (by omega);have cb:=uD bx _ b';have aT:=cX cb;refine hl.ix Gu rfl (by omega) fun a1 s1 a7 fu fk qz=> ⟨_,aB.get (a7 u Gu) 0 _ rfl,aj (fun r1=> ?_) (fun r1=> ?_)⟩
   . have hd:(al.getD t dR).1=false:=by simpa using r1
     refine hl.ix Gu rfl (by omega) fun a2 s2 a_ cg c0 di=> ⟨_,_,_,aB.get (a_ u Gu) 1 _ rfl,?_⟩
     intro n29 fd Q;have f1:=Q.num;rw [aD (x:=(1000000:Int)+t) (by omega) (by omega)] at Q;refine Row.mN tu tW (o.grow Q.mod) (Ea (s:=(s2,true,(t:Int))) Q.has) J.symm rfl (by simp;omega) fun e4 p' c' ed cc aw cm=> ?_;refine ⟨_,by omega,t+1,_,wN (by omega) (by omega),r,rfl,by rw [DK hd];simp [J],(U.trans Q.mod).then cc fun j O e=>by have:=fo j e;omega,ed,by rw [DK hd];exact Y.mN (SW.bH rfl cg c0 di),fun j O=> ?_⟩;have:=Q.mod.size;rcases aw with rfl|rfl
     . exact fo j O
     . have:=aO O;omega
   . have hd:(al.getD t dR).1=true:=by simpa using r1
     refine ⟨fun P' N' C' I v y=>P'=P/\N'=(ng cs al t).length/\C'=C/\∃x:Nat,I=x/\x<=(ng cs al t).length/\y=(ng cs al t).length - x/\ao u v/\∀j,j<x->aW ((ng cs al t).getD j zZ).1≠aW (al.getD t dR).2,
      ⟨_,rfl,rfl,rfl,0,rfl,Nat.zero_le _,rfl,aF.refl _,fun j O=>by omega⟩,?_⟩
     rintro P' N' C' I v y _ ⟨rfl,rfl,rfl,x,rfl,hx,rfl,gv,ax⟩;have Gv:=Gu.trans gv;refine aj (fun X=> ?_) (fun X=> ?_)
     . have X:x< (ng cs al t).length:=by simpa using X
       have eb:(ng cs al t).getD x zZ∈ng cs al t:=by simp [List.getD,X]
       have c7:=cX (DJ du bx (by omega) _ eb);have gd:ao v v.drew:=(aF.refl v).drew;refine ⟨ao v,gd,Y.NG (o.grow gv) rfl X fun a3 s3 bv dk fv d4=> ⟨_,_,_,fun v' g=>aB.get (aB.keep g id bv) 0 _ rfl,?_⟩⟩;refine (l6 (d4.grow (Gv.trans gd)) dk (by omega) c7.1).mono ?_;rintro ga fT ⟨q2,d2,rfl,o2,V⟩;have V:=gd.trans V;refine ⟨_,_,_,rfl,V,hl.ix Gu rfl (by omega) fun a4 s4 b5 dw fj d5=> ⟨_,_,_,fun v' g=>aB.get (b5 v' (Gv.trans g)) 1 _ rfl,?_⟩⟩;refine (l6 (d5.grow (Gv.trans V)) dw (by omega) aT.1).mono ?_;rintro fi e' ⟨q3,d3,rfl,o3,a'⟩;have bb:=V.trans a';have nl:=nN ((ng cs al t).getD x zZ).1;refine ⟨_,_,_,rfl,(vB (o2.grow a').vw o3.vw rfl rfl (by unfold maxLen;omega)).mono ?_⟩;rintro e7 Z ⟨rfl,ec⟩;have b8:=bb.trans ec;have an:ao u Z:=gv.trans b8;refine ⟨_,rfl,aj (fun r3=> ?_) (fun r3=> ?_)⟩
       . have cp:aW ((ng cs al t).getD x zZ).1=aW (al.getD t dR).2:=by simpa using r3
         intro n50 bk ag;have eg:=ag.num;have ek:n50=Z.heap.size:=eg;have b6:ao u bk:=(an.drew).trans ag.mod;have fs:=an.size;have d8:Row 2 AU bI bk (some ⟨n50,0,none⟩) 0 []:=Row.dx tu.len ag.at (Nat.le_refl _) (Nat.zero_le _) rfl rfl;have eN:=o.cap;have vo:Vr 2 AU u P' ss:=o.vr tu;refine fe 0 x C' rfl rfl rfl (by omega) (by omega) (by omega) ?_;have ei:(if C'=0 then P' else P'.map (·.add (0*2)))=P':=by split;rfl;exact Ox P'
         rw [ei,Nat.sub_zero];refine Row.mN tu tW d8 (Vr.LC (vo.grow b6) (k:=x) (by omega)) rfl (by rw [List.length_take];omega) (by simp;omega) fun ej d9 eT b_ ef b3 eH=> ?_;rw [List.nil_append] at b_;rw [wN (x:=(x:Int)+1) (i:=x+1) (by omega) (by omega)];have fq:=ag.mod.size;have es:Z.drew.heap.size=Z.heap.size:=rfl;have f53: ∀j,aJ d9=some j->Z.heap.size<=j:=fun j O=>by
          rcases b3 with rfl|rfl
          . have:=aO O;omega
          . have:=aO O;omega
         have ap:ao u ej:=b6.then ef fun j O e=>by have:=aO e;omega
         have z53:=ap.size;refine fe (x+1) (ng cs al t).length C' rfl rfl rfl (by omega) (by omega) (by omega) ?_;refine Row.mN tu tW b_ (Vr.LF (vo.grow ap) (k:=x+1) (by omega) (by omega)) (by simp) (by rw [List.length_drop];omega) (by simp;omega) fun fl fb fL cT dd bY eL=> ?_;have hg:lI (al.getD t dR).2 (ng cs al t)=(ng cs al t).take x++ (ng cs al t).drop (x+1):=BK X ax cp;have qI:=Y.part x X;refine ⟨_,by omega,t+1,_,wN (by omega) (by omega),r,rfl,by rw [ue hd,hg];exact qI.n,(U.trans ap).then dd fun j O e=>by have:=f53 j e;omega,cT,by rw [ue hd,hg];exact qI,fun j O=> ?_⟩;rcases bY with rfl|rfl
         . have:=f53 j O;omega
         . have:=aO O;omega
       . have c2:aW ((ng cs al t).getD x zZ).1≠aW (al.getD t dR).2:=by simpa using r3
         refine ⟨_,by omega,rfl,rfl,rfl,x+1,wN (by omega) (by omega),X,rfl,an,fun j O=> ?_⟩;by_cases e:j<x
         . exact ax j e
         . obtain rfl:j=x:=by omega
           exact c2
     . have X:x=(ng cs al t).length:=by simp at X;omega
       subst X;have hg:lI (al.getD t dR).2 (ng cs al t)=ng cs al t:=Ax ax;exact ⟨_,by omega,t+1,ss,wN (by omega) (by omega),r,rfl,by rw [ue hd,hg],U.trans gv,o.grow gv,by rw [ue hd,hg];exact Y,fo⟩
 . have r:t=i:=by simp at r;omega
   subst r;exact ⟨P,C,ss,rfl,o,Y,Gu,fun j O=>by have:=fo j O;omega⟩
end
section
open Go.Maps
variable {W w w' w0 w2 w3 u:World} {p q:Option Addr} {n m d i c:Nat} {k:Int} {hs tl:List Sl} {cs:List (List Int)} {l:List Int} {ss:List So} {al:List nu}
theorem ML (w:World):ao w w.drew:=(aF.refl w).drew
end
section
variable {W w w' w0 w2 w3 u:World} {p q:Option Addr} {n m d i c:Nat} {k:Int} {hs tl:List Sl} {cs:List (List Int)} {l:List Int} {ss:List So} {al:List nu}
theorem zm {e:Nat} (hc:V2 (Value.int .i64) w p hs cs) (hn:n=cs.length) (hx:cs.length<=40) (hl:SV w q al) (hm:m=al.length) (b_:m<=60) (av: ∀c∈cs,iy c=true) (X:jP al=true):
 Calls Tryz.prog eM.id #[.agg #[.int .i64 k,.slice p n d],.slice q m e] w fun e w'=> ∃r:Bool,e= .returned (.bool r)/\(r=true↔FK cs al)/\ao w w':=by
 subst hn hm;refine eM.ak ?_;intro n1 w2 h2;refine (CH (hl.grow h2.mod) rfl (by omega)).mono ?_;rintro e3 w3 ⟨g3,hE⟩;have G3:=h2.mod.trans g3;obtain ⟨T,E,hT,cb,U,aa,rfl⟩: ∃ (T:Nat) (E:Int),T<=al.length/\E=(T:Int) - 1/\(∀t,ww al t->T=t+1)/\(0<T->ww al (T - 1))/\e3= .returned (.int .i64 E):=by
  rcases hE with ⟨bb,rfl⟩| ⟨t,ht,rfl⟩
  . exact ⟨0,-1,Nat.zero_le _,rfl,fun t ht=>absurd ht.2.1 (bb t ht.1),fun h=>by omega,rfl⟩
  . exact ⟨t+1,t,ht.1,by omega,fun t' aT=>by rw [ht.LH aT],fun _=>ht,rfl⟩
 refine ⟨_,rfl,?_⟩;refine ⟨fun i w9 k6=> ∃O:Nat,i=O/\O<=T/\k6=T - O/\ao w3 w9/\∀j,j<O->(al.getD j dR).1=true\/uB ((ng cs al j).map (·.1)) (al.getD j dR).2,⟨_,0,rfl,Nat.zero_le _,rfl,aF.refl _,fun j hj=>by omega⟩,?_⟩;rintro I u z _ ⟨i,rfl,hi,rfl,gu,ap⟩;have Q:=G3.trans gu;refine aj (fun r=> ?_) (fun r=> ?_)
 . have r:i<T:=by rw [decide_eq_true_eq] at r;omega
   have aw:=F6 (al:=al) (j:=i) (by omega);have ag:=uD X _ aw;have Z:=cX ag;have Y:=ML u;have next: ∀ {v:World},ao u v->((al.getD i dR).1=true\/uB ((ng cs al i).map (·.1)) (al.getD i dR).2)->∃k7,k7<T - i/\∃O:Nat,IntKind.i64.wrap ((i:Int)+1)=O/\O<=T/\k7=T - O/\ao w3 v/\∀j,j<O->(al.getD j dR).1=true\/uB ((ng cs al j).map (·.1)) (al.getD j dR).2:=
    fun {v} g h=> ⟨_,by omega,i+1,wN (by omega) (by omega),r,rfl,gu.trans g,fun j hj=>by
     by_cases e:j<i
     . exact ap j e
     . obtain rfl:j=i:=by omega
       exact h⟩
   refine ⟨ao u,Y,hl.ix Q rfl (by omega) fun a s a' h1 b5 h3=> ⟨_,fun v g=>aB.get (a' v (Q.trans g)) 0 _ rfl,aj (fun r1=> ?_) (fun r1=>next Y (.inl (by simpa using r1)))⟩⟩;have hd:(al.getD i dR).1=false:=by simpa using r1
   have b3:=(h2.has.grow g3).grow gu;refine ⟨_,_,_,_,fun v g=>eY (b3.grow g),(Az (hc.grow (Q.trans Y)) rfl (by omega) (hl.grow (Q.trans Y)) rfl (by omega) av X (by omega)).mono ?_⟩;rintro dc bY ⟨q',d',ss,rfl,a8,an,ar,_⟩;have V:=Y.trans ar;have b7:=zB (cs:=cs) (al:=al) (i:=i);refine ⟨_,_,_,rfl,V,(wM a8 an ar rfl (by omega)).mono ?_⟩;rintro c2 cc ⟨b',dd,ks,rfl,a7,_,J⟩;have J:=V.trans J;refine ⟨_,_,_,rfl,J,hl.ix Q rfl (by omega) fun a2 s2 ac ay ce a_=> ⟨_,_,_,fun v g=>aB.get (ac v (Q.trans g)) 1 _ rfl,?_⟩⟩;refine (pA a7 (by rw [List.length_map]) (by omega) (fun c a6=>by
    obtain ⟨y,hy,rfl⟩:=List.mem_map.1 a6;exact (cX (DJ av X (by omega) y hy)).1) (a_.grow (Q.trans J)) ay (by omega) Z.1).mono ?_
   rintro b4 cp ⟨rr,rfl,hr,ad⟩;refine ⟨_,rfl,aj (fun r2=> ⟨false,rfl,⟨fun e=> (by cases e),fun ⟨t,ht,hp⟩=> ?_⟩,(Q.trans J).trans ad⟩) (fun r2=>next (J.trans ad) (.inr (hr.1 (by simpa using r2))))⟩;have:=U t ht;rw [hr.2 ((hp i (by omega)).resolve_left (by rw [hd];decide))] at r2;cases r2
 . have r:i=T:=by rw [decide_eq_false_iff_not] at r;omega
   subst r;refine ⟨_,rfl,?_,Q⟩;rw [decide_eq_true_eq];constructor
   . intro h;have:=aa (by omega);exact ⟨_,this,fun j hj=>ap j (by omega)⟩
   . rintro ⟨t,ht,_⟩;have:=U t ht;omega
end
end Go.Proofs.YtenmibfmhccmiaaGreat.W
