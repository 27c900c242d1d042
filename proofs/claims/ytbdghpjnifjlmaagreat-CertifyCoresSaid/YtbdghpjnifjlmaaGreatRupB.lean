/- Layer 7: steps as arguments; what is small. -/
import Derived.Test.YtbdghpjnifjlmaaGreatRupA
import Derived.Test.YtbdghpjnifjlmaaGreatPropC
import Derived.Test.YtbdghpjnifjlmaaGreatQuotaA
import Derived.Test.YtbdghpjnifjlmaaGreatSortA
import Derived.Test.YtbdghpjnifjlmaaGreatHeapA
import Derived.Test.YtbdghpjnifjlmaaGreatFwRead
import Derived.Test.YtbdghpjnifjlmaaGreatLubyA
import Derived.Test.YtbdghpjnifjlmaaGreatLearnA
set_option linter.unusedVariables false
namespace Go.Proofs.YtbdghpjnifjlmaaGreat.W
open Go Go.Fw Go.RowKit Go.SoP Go.LiP
open Go.Proofs.Tryz (prog)
open Go.IntKind (i64)
section
variable {w w' w0 w2 w3:World} {p q:sn} {n m c d:Nat} {k:Int} {hs:List Sl} {cs:List (List Int)} {l:List Int}
abbrev jb:=Bool × List Int
def cS:jb:=(false,[])
def SV (w:World) (p:sn) (al:List jb):Prop:=∀i,i<al.length->∃ (a:Addr) (s:Sl),p=some a/\aK w (a.add (i*2)) 0 [.bool (al.getD i cS).1,.slice s.p s.n s.c]/\
 s.n=(al.getD i cS).2.length/\s.n<=maxLen/\Vw sT w s.p (al.getD i cS).2
theorem SV.grow {al:List jb} (h:SV w p al) (g:ak w w'):SV w' p al:=by
 intro i hi;obtain ⟨a,s,rfl,O,h1,I,J⟩:=h i hi;exact ⟨a,s,rfl,aK.keep g id O,h1,I,J.grow g⟩
theorem SV.ix {al:List jb} (h:SV w p al) (g:ak w w') {i n:Nat} (hn:n=al.length) (hi:i<al.length) {K:Addr->Prop}
 (U:∀a (s:Sl),(∀u,ak w u->aK u a 0 [.bool (al.getD i cS).1,.slice s.p s.n s.c])->s.n=(al.getD i cS).2.length->s.n<=maxLen->Vw sT w s.p (al.getD i cS).2->K a):aW p n (i:Int) 2 K:=by
 subst hn;obtain ⟨a,s,rfl,O,h1,I,J⟩:=h i hi;refine ⟨a,rfl,by omega,by omega,U _ s (λu Q=>?_) h1 I J⟩;rw [tn];exact aK.keep Q id O
def fG (al:List jb):Bool:=al.all λx=>jf x.2
theorem ER:gH prog iZ.id=true:=by kernel_rfl
theorem FK {b:Bool} (h:Vw sT w p l) (hn:n=l.length) (hm:n<=maxLen):Calls prog iZ.id #[.agg #[.bool b,.slice p n c]] w λe w'=>e=.returned (.bool (!jf l))/\ak w w':=by
 refine iZ.aj ?_;intro O w2 I;refine ⟨_,_,_,ae I.has rfl,(gj (h.grow I.mod) hn hm).mono ?_⟩;rintro e J ⟨rfl,g⟩;refine ⟨_,rfl,?_,I.mod.trans g⟩;cases jf l<;>rfl
theorem j8 {al:List jb} (h:SV w p al) (hn:n=al.length) (hm:n<=262144):Calls prog mP.id #[.slice p n c] w λe w'=>e=.returned (.i (if fG al then 0 else 1))/\ak w w':=by
 subst hn;refine mP.aj (bA (by simp;omega) ?_);refine (bQ.aj (R:=λe w'=>e=.returned (.bool (!fG al))/\ak w w') ?_).mono ?_
 . refine (bG.aj (R:=λe w'=>∃r:Int,e=.returned (.i r)/\(decide (r>=0)= !fG al)/\ak w w') ?_).mono ?_
   . refine ⟨λI u z=>∃i:Nat,I=i/\z=al.length - i/\i<=al.length/\ak w u/\∀j,j<i->jf (al.getD j cS).2=true,⟨_,0,rfl,rfl,by omega,aD.refl w,λj U=>by omega⟩,?_⟩;rintro I u z _ ⟨i,rfl,rfl,hi,g,J⟩;refine ah (λr=>?_) (λr=>?_)
     . have r:i<al.length:=by simpa using r
       have O:al.getD i cS∈al:=by simp [List.getD,r]
       refine h.ix g rfl r λa s hc h1 Y Z=>⟨_,_,_,_,hc u g,?_⟩
       rw [ER];show Calls _ _ _ _ _;rw [KR];refine (FK (Z.grow g) h1 Y).mono ?_;rintro e w9 ⟨rfl,V⟩;refine ⟨_,rfl,ah (λQ=>⟨_,rfl,?_,g.trans V⟩) (λQ=>⟨_,by omega,i+1,wN,rfl,r,g.trans V,λj U=>?_⟩)⟩
       . have:fG al=false:=by
          rw [<- U5];intro e;unfold fG at e;rw [UK] at e;rw [e _ O] at Q;cases Q
         rw [this];simp
       . by_cases e:j<i
         . exact J j e
         . obtain rfl:j=i:=by omega
           simpa using Q
     . have r:i=al.length:=by simp at r;omega
       subst r;have:fG al=true:=by
        unfold fG;rw [UK];intro x X;obtain ⟨j,U,rfl⟩:=I'.1 X;have:=J j U;simpa [List.getD,U] using this
       rw [this];exact ⟨_,rfl,by decide,g⟩
   . rintro e w1 ⟨r,rfl,hr,g⟩;exact ⟨r,rfl,by rw [hr],g⟩
 . rintro e w1 ⟨rfl,g⟩;refine ⟨_,rfl,ah (λr=>?_) (λr=>?_)⟩
   . have:fG al=false:=by simpa using r
     rw [this];exact ⟨rfl,g⟩
   . have:fG al=true:=by simpa using r
     rw [this];exact ⟨rfl,g⟩
theorem bS {b:Nat} {x y:Value} (h:bT w b #[x,y]):aK w ⟨b,0,none⟩ 0 [x,y]:=⟨ae h rfl,ae h rfl,trivial⟩
theorem Lt (J:V2 sT w p hs cs) (hn:n=cs.length):Calls prog fY.id #[.agg #[.i k,.slice p n d]] w λe w'=>∃r:Bool,e=.returned (.bool r)/\(r=true->cs.length<=40)/\ak w w':=by
 subst hn;refine fY.aj ?_;intro O w2 I;refine ⟨_,_,_,_,bS I.has,(M0 (J.grow I.mod) rfl).mono ?_⟩;rintro e Q ⟨r,rfl,g⟩;refine ⟨_,rfl,ah (λ_=>?_) (λ_=>⟨false,rfl,λe=> (by cases e),I.mod.trans g⟩)⟩;exact ⟨_,_,_,ae (I.has.grow g) rfl,_,rfl,λe=>by rw [decide_eq_true_eq] at e;omega,I.mod.trans g⟩
theorem IS (U:V2 sT w p hs cs) (hn:n=cs.length) (hl:Vw sT w q l) (hm:m=l.length) (J:m<=maxLen) {c d:Nat}:Calls prog u9.id #[.agg #[.i k,.slice p n d],.slice q m c] w λe w'=>e=.returned (.bool (cQ k cs && jf l))/\ak w w':=by
 subst hn;refine u9.aj ?_;intro V w2 I;refine ⟨_,_,_,_,bS I.has,(fS (U.grow I.mod) rfl).mono ?_⟩;rintro e X ⟨rfl,g⟩;refine ⟨_,rfl,?_⟩;cases Q:cQ k cs with
 |false=>exact bA rfl ⟨rfl,I.mod.trans g⟩
 |true=>
  refine bP rfl ((gj (hl.grow (I.mod.trans g)) hm J).mono ?_);rintro e Y ⟨rfl,O⟩;refine ⟨_,rfl,?_,(I.mod.trans g).trans O⟩;cases jf l<;>rfl
end
section
variable {W w w' w0 w2 w3 u:World} {p q:sn} {n m d i c:Nat} {hs:List Sl} {cs:List (List Int)} {l:List Int}
abbrev So:=Sl × Bool × Int
abbrev Sr:=List Int × Bool × Int
def Ot:So:=(Sl.nil,false,0)
def rA:Sr:=([],false,0)
def yA (x:So):List Value:= [.slice x.1.p x.1.n x.1.c,.bool x.2.1,.i x.2.2]
theorem tG:GV 3 yA:=⟨λ_=>rfl,by omega,λx v hv=>by
 simp only [yA,UI,WO,or_false] at hv;rcases hv with rfl|rfl|rfl<;>rfl⟩
theorem wx:pR prog jd bF 3 40=true:=by kernel_rfl
structure SW (W:World) (ss:List So) (l:List Sr):Prop where
 n:ss.length=l.length
 r:∀j,j<l.length->(ss.getD j Ot).2=(l.getD j rA).2/\(ss.getD j Ot).1.n=(l.getD j rA).1.length/\(ss.getD j Ot).1.n<=maxLen/\Vw sT W (ss.getD j Ot).1.p (l.getD j rA).1
theorem SW.nil:SW W [] []:=⟨rfl,λj I=>by simp at I⟩
theorem SW.mA {ss I:List So} {l k:List Sr} (h:SW W ss l) (g:SW W I k):SW W (ss++I) (l++k):=by
 refine ⟨by simp [h.n,g.n],λj J=>?_⟩;rw [tj,tj,h.n];by_cases e:j<l.length
 . rw [if_pos e,if_pos e];exact h.r j e
 . rw [if_neg e,if_neg e];exact g.r (j - l.length) (by simp at J;omega)
theorem SW.bJ {s:So} {x:Sr} (h1:s.2=x.2) (I:s.1.n=x.1.length) (J:s.1.n<=maxLen) (Q:Vw sT W s.1.p x.1):SW W [s] [x]:=by
 refine ⟨rfl,λj O=>?_⟩;have:j=0:=by simpa using O
 subst this;exact ⟨h1,I,J,Q⟩
theorem SW.part {ss:List So} {l:List Sr} (h:SW W ss l) (i:Nat) (hi:i<l.length):SW W (ss.take i++ss.drop (i+1)) (l.take i++l.drop (i+1)):=by
 refine SW.mA ⟨by simp [h.n],λj I=>?_⟩ ⟨by simp [h.n],λj I=>?_⟩
 . rw [GD] at I;have e:∀ {β:Type} (l:List β) (d:β),(l.take i).getD j d=l.getD j d:=λl d=>by
    simp only [y6,Vf];rw [if_pos (by omega)]
   rw [e,e];exact h.r j (by omega)
 . rw [U0] at I;have e:∀ {β:Type} (l:List β) (d:β),(l.drop (i+1)).getD j d=l.getD (i+1+j) d:=λl d=>by
    simp only [y6,VX]
   rw [e,e];exact h.r _ (by omega)
theorem SW.ix {ss:List So} {l:List Sr} (h:SW W ss l) (o:Row 3 yA bF u p c ss) (hn:n=l.length) (hi:i<l.length) {K:Addr->Prop}
 (U:∀a (s:Sl),aK u a 0 [.slice s.p s.n s.c,.bool (l.getD i rA).2.1,.i (l.getD i rA).2.2]->s.n=(l.getD i rA).1.length->s.n<=maxLen->Vw sT W s.p (l.getD i rA).1->K a):aW p n (i:Int) 3 K:=by
 subst hn;obtain ⟨h1,J,Q,O⟩:=h.r i hi;refine (o.vr tG).ix Ot (by omega) (by rw [h.n]) (by omega) λa I=>U a (ss.getD i Ot).1 ?_ J Q O;rw [tn] at I;unfold yA at I;rw [h1] at I;exact I
theorem Gr {s:So} {b:Nat} (h:bT u b #[.slice s.1.p s.1.n s.1.c,.bool s.2.1,.i s.2.2]):Vr 3 yA u (some ⟨b,0,none⟩) [s]:=by
 intro j I;have:j=0:=by simpa using I
 subst this;exact ⟨_,rfl,bK h rfl,bK h rfl,bK h rfl,trivial⟩
def p6 (cs:List (List Int)) (k:Nat):List Sr:=(List.range k).map λi=> (cs.getD i [],false,(i:Int))
theorem qd (k:Nat):(p6 cs k).length=k:=by simp [p6]
theorem BF (k:Nat):p6 cs (k+1)=p6 cs k++ [(cs.getD k [],false,(k:Int))]:=by unfold p6;rw [WA,LV];rfl
theorem Al {k:Int} (hv:V2 sT w p hs cs) (hn:n=cs.length) (hx:n<=1000000):
 Calls prog lA.id #[.agg #[.i k,.slice p n d]] w λe w'=>∃ (q:sn) (d':Nat) (ss:List So),e=.returned (.slice q cs.length d')/\Row 3 yA bF w' q d' ss/\SW w ss (p6 cs cs.length)/\ak w w'/\∀j,aG q=some j->w.heap.size<=j:=by
 subst hn;refine lA.aj ?_;intro n1 w2 Q;have e1:=Q.num;refine ⟨_,_,_,ae Q.has rfl,?_⟩;refine ⟨λP N C I u z=>∃ (i:Nat) (ss:List So),I=i/\i<=cs.length/\z=cs.length - i/\i=N/\ak w2 u/\Row 3 yA bF u P C ss/\SW w ss (p6 cs i)/\∀j,aG P=some j->w2.heap.size<=j,
  ⟨_,0,[],rfl,vx _,rfl,rfl,aD.refl _,Row.nil _ _ _ _,SW.nil,λj O=>by simp [aG] at O⟩,?_⟩
 rintro P N C I u z _ ⟨i,ss,rfl,hi,rfl,rfl,Z,o,X,fo⟩;have Gu:=Q.mod.trans Z;have J:=X.n;rw [qd] at J;refine ah (λr=>?_) (λr=>?_)
 . have r:i<cs.length:=by simpa using r
   refine (hv.grow Gu).ix (by omega) rfl (by omega) λa sl k1 k0 k2 k3 k4=>⟨_,_,_,k1,?_⟩
   rw [tn] at k0 k2;obtain ⟨_,_,r3⟩:=hv.r i r;rw [<- k0] at r3;intro ay aT pO;have z2:=Z.size;refine Row.mA tG wx (o.grow pO.mod) (Gr (s:=(sl,false,(i:Int))) pO.has) J.symm rfl (by simp;omega) λa6 p' c' Y U V ax=>?_;have ar:=pO.num;refine ⟨_,?_,i+1,_,wN,r,rfl,by simp [J],(Z.trans pO.mod).then U λj O e=>by have:=fo j e;omega,Y,by rw [BF];exact X.mA (SW.bJ rfl k2 k3 r3),λj O=>?_⟩
   . omega
   . have:=pO.mod.size;rcases V with rfl|rfl
     . exact fo j O
     . have:=aL O;omega
 . have r:i=cs.length:=by simp at r;omega
   subst r;have s2:=Q.mod.size;exact ⟨P,C,ss,rfl,o,X,Gu,λj O=>by have:=fo j O;omega⟩
theorem xb {ss:List So} {al:List Sr} (o:Row 3 yA bF w p d ss) (sw:SW W ss al) (hW:ak W w) (hn:n=al.length) (hx:n<=1000000) {e:Nat}:
 Calls prog kQ.id #[.slice p n e] w λe w'=>∃ (q:sn) (d':Nat) (ks:List Sl),e=.returned (.slice q al.length d')/\V2 sT w' q ks (al.map (·.1))/\ak w w':=by
 subst hn;refine kQ.aj ?_;refine ⟨λP N C I u z=>∃ (i:Nat) (ks:List Sl),I=i/\i<=al.length/\z=al.length - i/\i=N/\ak w u/\Ow Sl.v aE u P C ks/\VR sT W ks ((al.take i).map (·.1))/\∀j,aG P=some j->w.heap.size<=j,
  ⟨_,0,[],rfl,vx _,rfl,rfl,aD.refl _,Ow.nil _ _ _,VR.nil,λj U=>by simp [aG] at U⟩,?_⟩
 rintro P N C I u z _ ⟨i,ks,rfl,hi,rfl,rfl,Y,ok,vr,fo⟩;have Q:=vr.n;rw [UL,GD,U7 hi] at Q;refine ah (λr=>?_) (λr=>?_)
 . have r:i<al.length:=by simpa using r
   refine sw.ix (o.grow Y) rfl r λa s Z h1 h2 h3=>⟨_,_,_,_,_,Z,?_⟩
   intro bc aT O;have a6:=O.num;refine bD O.has rfl rfl λap aa ar=>⟨_,_,_,ae aa rfl,?_⟩
   have X:ak u ap:=O.mod.then ar λj U e=>by omega
   intro n15 bg J;have aw:=J.num;have zu:=Y.size;have bf:=X.size;have V:=X.trans J.mod;refine Ow.tD jK (ok.grow V) (te (sl:=s) J.has) Q.symm rfl (λ_=>rfl) (by simp;omega) λay p' c' an ag ac a7=>?_;have ax:=J.mod.size;refine ⟨_,by omega,i+1,_,wN,r,rfl,by simp [Q],(Y.trans V).then ag λj U e=>by have:=fo j e;omega,an,?_,λj U=>?_⟩
   . rw [c8 r rA,LV];exact vr.mA (VR.bJ (s:=s) h3 h1 h2)
   . rcases ac with rfl|rfl
     . exact fo j U
     . have:=aL U;omega
 . have r:i=al.length:=by simp at r;omega
   subst r;rw [K'] at vr;exact ⟨P,C,ks,rfl,(vr.grow (hW.trans Y)).v2 ok.vw,Y⟩
end
section
variable {W w w' w0 w2 w3 u:World} {p q:sn} {n m d i c:Nat} {hs:List Sl} {cs:List (List Int)} {l:List Int} {ss:List So} {al:List Sr}
theorem vQ {e:Nat} (o:Row 3 yA bF w p d ss) (hn:n=ss.length) (Z:n<=1000000):Calls prog bm.id #[.slice p n e] w λe w'=>∃ (q:sn) (Q:Nat),e=.returned (.slice q ss.length Q)/\Row 3 yA bF w' q Q ss/\ak w w'/\∀j,aG q=some j->w.heap.size<=j:=by
 subst hn;refine bm.aj (ah (λr=>?_) (λr=>?_))
 . have hp:p=none:=by cases p<;>simp at r ⊢
   subst hp;have:ss= []:=by
    rcases o.un with ⟨_,_,h⟩| ⟨_,_,h,_⟩
    . exact h
    . cases h
   subst this;exact ⟨none,0,rfl,Row.nil _ _ _ _,aD.refl w,λj I=>by simp [aG] at I⟩
 . intro X w2 J;have e1:=J.num;have o2:Row 3 yA bF w2 (some ⟨X,0,none⟩) 0 []:=Row.df tG.len J.at (y4 _) (vx _) rfl rfl;refine Row.mA tG wx o2 ((o.vr tG).grow J.mod) rfl rfl (by simp;omega) λw3 U Y o3 m3 O V=>?_;rw [Vh] at o3 ⊢;have z2:=J.mod.size;refine ⟨U,Y,rfl,o3,J.mod.then m3 λj I e=>by have:=aL e;omega,λj I=>?_⟩;rcases O with rfl|rfl
   . have:=aL I;omega
   . have:=aL I;omega
theorem NH:∃v,(Tryz.prog.info? bF).bind (·.zero)=some v/\v.cells.toList=yA Ot:=⟨.agg #[.slice none 0 0,.bool false,.i 0],by kernel_rfl,rfl⟩
theorem UE (p:sn):p.map (·.add (0*3))=p:=by cases p<;>simp [Addr.add]
theorem Hh (o:Row 3 yA bF w p d ss) (hn:n=ss.length) (hx:n<=1000000) {i:Nat} (hi:i<n):
 Calls prog bj.id #[.slice p n d,.i (i:Int),.i ((i+1:Nat):Int)] w λe w'=>e=.returned (.slice p (ss.length - 1) d)/\Row 3 yA bF w' p d (ss.take i++ss.drop (i+1))/\aD (λb=>aG p=some b) w w':=by
 subst hn;have Y:=o.cap;refine bj.aj ?_;refine eh i (i+1) ss.length rfl rfl rfl (by omega) (by omega) (by omega) ?_;refine bA (by simp;omega) ?_;refine eh 0 i d rfl rfl rfl (by omega) (by omega) (by omega) ?_;refine eh (i+1) ss.length d rfl rfl rfl (by omega) (by omega) (by omega) ?_;rw [if_neg (by omega),UE,Ve,Ve];have hv:Vr 3 yA w.drew (if d=i+1 then p else p.map (·.add ((i+1)*3))) (ss.drop (i+1)):=by
  by_cases e:d=i+1
  . rw [XG (by omega)];exact Vr.nil
  . rw [if_neg e];have:=((o.drew).vr tG).part (i:=i+1) (m:=ss.length - (i+1)) (by omega)
    rwa [UM (by rw [U0];omega)] at this
 obtain ⟨I,hr,U,Z⟩:=Row.Dx tG wx o.drew (ty:=jd) (d:=d - (i+1)) (k:=i) hv (m:=ss.length - (i+1)) (by rw [U0]) (by omega) (K:=λI=>Row 3 yA bF I p d (ss.take i++ss.drop (i+1)++ss.drop (i+ (ss.length - (i+1))))/\aD (λb=>aG p=some b) w.drew I) λw' a b=>⟨a,b⟩
 have O:i+ (ss.length - (i+1))=ss.length - 1:=by omega
 rw [O] at hr U;have hlen:(ss.take i++ss.drop (i+1)).length=ss.length - 1:=by rw [UH,GD,U0];omega
 have J:(ss.take i++ss.drop (i+1)++ss.drop (ss.length - 1)).length=ss.length:=by rw [UH,hlen,U0];omega
 refine ⟨I,_,_,_,hr,?_⟩;refine eh (ss.length - 1) ss.length d rfl rfl rfl (by omega) (by omega) (by omega) ?_;rw [if_neg (by omega)];obtain ⟨vz,hz,Q⟩:=NH;rw [show ss.length - (ss.length - 1)=1 by omega];refine Row.clear tG wx hz Q U (k:=ss.length - 1) (by rw [J];omega) λw7 V X=>?_;rw [UO (by omega),UM (by omega)] at V;exact ⟨rfl,V,(aD.mono ((aD.refl w).drew:ak w w.drew) λ_ _ e=>e.elim).trans (Z.trans X)⟩
def jO (c:List Int):List Sr->List Sr
 | []=> []
 |x::l=>if aY x.1=aY c then l else x::jO c l
theorem y8 {c:List Int}:∀ {al:List Sr} {i:Nat},i<al.length->(∀j,j<i->aY (al.getD j rA).1≠aY c)->aY (al.getD i rA).1=aY c->jO c al=al.take i++al.drop (i+1)
 | [],_,h,_,_=>by simp at h
 |x::l,0,_,_,h=>by
  have h:aY x.1=aY c:=h;show (if aY x.1=aY c then l else _)=_;rw [if_pos h];rfl
 |x::l,i+1,hi,hj,h=>by
  have I:aY x.1≠aY c:=hj 0 (by omega);show (if aY x.1=aY c then l else x::jO c l)=_;rw [if_neg I,y8 (i:=i) (by simpa using hi) (λj h=>hj (j+1) (by omega)) h];rfl
theorem zV {c:List Int}:∀ {al:List Sr},(∀j,j<al.length->aY (al.getD j rA).1≠aY c)->jO c al=al
 | [],_=>rfl
 |x::l,h=>by
  have I:aY x.1≠aY c:=h 0 (by simp);show (if aY x.1=aY c then l else x::jO c l)=_;rw [if_neg I];exact congrArg _ (zV λj J=>h (j+1) (by simpa using J))
theorem IG:gH prog kM.id=true:=by kernel_rfl
theorem K2 {x c:List Int} {b:Bool} {a:Int} {nw m' V:Nat} {U:sn} (hv:Vw sT w p x) (hn:n=x.length) (Q:jf x=true) (hb:bT w nw #[.slice U m' V]) (Z:Vw sT w U (aY c)) (hm:m'=(aY c).length):
 Calls prog kM.id #[.agg #[.slice p n d,.bool b,.i a],.pointer (some ⟨nw,0,none⟩)] w λe w'=>e=.returned (.bool (decide (aY x=aY c)))/\ak w w':=by
 subst hn;have ac:=cy Q;have nl:=p9 x;refine kM.aj ?_;intro n1 w2 J;refine ⟨_,_,_,ae J.has rfl,(uy (hv.grow J.mod) rfl (by unfold maxLen;omega)).mono ?_⟩;rintro e w4 ⟨q,dq,mq,I,rfl,X,Y⟩;rw [Q] at I;simp only [if_true] at I;subst I;have O:=J.mod.trans Y;refine ⟨_,_,_,_,rfl,_,_,_,aV (hb.grow O) rfl,(E7 X.vw rfl (by unfold maxLen;omega) (Z.grow O) hm).mono ?_⟩;rintro e w8 ⟨rfl,g8⟩;exact ⟨_,rfl,rfl,O.trans g8⟩
end
section
variable {W w w' w0 w2 w3 u:World} {p q:sn} {n m d i c:Nat} {hs:List Sl} {cs:List (List Int)} {l:List Int} {ss:List So} {al:List Sr}
theorem HR {x:List Int} {e:Nat} (o:Row 3 yA bF w p d ss) (sw:SW W ss al) (hW:ak W w) (hn:n=al.length) (hx:n<=1000000) (ay:∀y∈al,jf y.1=true) (hv:Vw sT W q x) (hm:m=x.length) (X:jf x=true) (hd:n<=d):
 Calls prog qu.id #[.slice p n d,.slice q m e] w λe w'=>∃ (q':sn) (d':Nat) (tt:List So),e=.returned (.slice q' (jO x al).length d')/\Row 3 yA bF w' q' d' tt/\SW W tt (jO x al)/\ak w w'/\(jO x al).length<=d'/\∀j,aG q'=some j->aG p=some j\/w.heap.size<=j:=by
 subst hn hm;have bx:=cy X;have nl:=p9 x;have av:=sw.n;refine qu.aj ((uy (hv.grow hW) rfl (by unfold maxLen;omega)).mono ?_);rintro e1 w1 ⟨qn,dn,mn,Q,rfl,on,g1⟩;rw [X] at Q;simp only [if_true] at Q;subst Q;refine ⟨_,_,_,_,rfl,?_⟩;intro n4 w5 h5;have e5:=h5.num;refine bD h5.has rfl rfl λw6 b6 m6=>?_;have z1:=g1.size;have V:ak w w6:=(g1.trans h5.mod).then m6 λj O e=>by omega
 have aw:Vw sT w6 qn (aY x):=((on.grow h5.mod).keep m6 λk hk e=>by have:=on.lt k hk;omega).vw;refine (bL.aj (R:=λe w'=>ak w6 w'/\((e=.returned (.i (-1))/\∀t,t<al.length->aY (al.getD t rA).1≠aY x)\/
  ∃t:Nat,e=.returned (.i t)/\t<al.length/\aY (al.getD t rA).1=aY x/\∀j,j<t->aY (al.getD j rA).1≠aY x)) ?_).mono ?_
 . refine ⟨λI u z=>∃t:Nat,I=t/\t<=al.length/\z=al.length - t/\ak w6 u/\∀j,j<t->aY (al.getD j rA).1≠aY x,⟨_,0,rfl,vx _,rfl,aD.refl _,λj O=>by omega⟩,?_⟩;rintro I u z _ ⟨t,rfl,ht,rfl,U,J⟩;refine ah (λr=>?_) (λr=>⟨U,.inl ⟨rfl,λj O=>J j (by simp at r;omega)⟩⟩);have r:t<al.length:=by simpa using r
   have Y:al.getD t rA∈al:=by simp [List.getD,r]
   refine sw.ix (o.grow (V.trans U)) rfl r λa s an h1 h2 h3=>⟨_,_,_,_,_,an,?_⟩
   rw [IG];show Calls _ _ _ _ _;rw [wK];refine (K2 (h3.grow (hW.trans (V.trans U))) h1 (ay _ Y) (b6.grow U) (aw.grow U) rfl).mono ?_;rintro b4 bu ⟨rfl,Z⟩;refine ⟨_,rfl,ah (λr2=>⟨U.trans Z,.inr ⟨t,rfl,r,by simpa using r2,J⟩⟩) (λr2=>⟨_,by omega,t+1,wN,r,rfl,U.trans Z,λj O=>?_⟩)⟩;by_cases e:j<t
   . exact J j e
   . obtain rfl:j=t:=by omega
     simpa using r2
 . rintro e7 w7 ⟨g7,⟨rfl,J⟩| ⟨t,rfl,ht,ax,J⟩⟩
   . refine ⟨_,rfl,bP (by decide) ?_⟩;rw [zV J];exact ⟨p,d,ss,rfl,o.grow (V.trans g7),sw,V.trans g7,hd,λj O=> .inl O⟩
   . refine ⟨_,rfl,bA (by simp) ((vQ (o.grow (V.trans g7)) av.symm hx).mono ?_)⟩;rintro e9 w9 ⟨q9,d9,rfl,o9,g9,f9⟩;refine ⟨_,_,_,rfl,?_⟩;rw [wN (i:=t+1) (by omega) (by omega)];refine (Hh o9 rfl (by omega) (i:=t) (by omega)).mono ?_;rintro bn bk ⟨rfl,az,aT⟩;have G7:=V.trans g7;have z7:=G7.size;have hg:jO x al=al.take t++al.drop (t+1):=y8 ht J ax;have hl:(jO x al).length=ss.length - 1:=by rw [hg,UH,GD,U0];omega
     refine ⟨_,_,_,rfl,q9,d9,ss.take t++ss.drop (t+1),by rw [hl],az,by rw [hg];exact sw.part t ht,(G7.trans g9).then aT λj O e=>by have:=f9 j e;omega,?_,λj O=> .inr (by have:=f9 j O;omega)⟩;have:=o9.cap;omega
theorem xD {k:Int} {al:List jb} (hl:SV w q al) (hm:m=al.length) (hx:m<=1000000) (Z:∀x∈al,jf x.2=true) {e:Nat}:
 Calls prog ka.id #[.agg #[.i k,.slice p n d],.slice q m e] w λe w'=>e=.returned (.i ((al.map (·.2)).foldl uZ k))/\ak w w':=by
 subst hm;refine ka.aj ?_;intro n1 w2 h2;refine ⟨_,ae h2.has rfl,?_⟩;refine ⟨λN I u z=>∃i:Nat,I=i/\i<=al.length/\z=al.length - i/\N=((al.take i).map (·.2)).foldl uZ k/\ak w2 u,⟨_,0,rfl,vx _,rfl,rfl,aD.refl _⟩,?_⟩;rintro N I u z _ ⟨i,rfl,hi,rfl,rfl,gu⟩;have X:=h2.mod.trans gu;refine ah (λr=>?_) (λr=>?_)
 . have r:i<al.length:=by simpa using r
   have Q:al.getD i cS∈al:=by simp [List.getD,r]
   have an:=cy (Z _ Q);refine hl.ix X rfl r λa s Y h1 av h3=>⟨_,_,_,_,Y u X,?_⟩
   intro aT a6 O;have ax:=O.num;refine bD O.has rfl rfl λU ac aa=>⟨_,_,_,ae ac rfl,?_⟩
   have V:ak u U:=O.mod.then aa λj hj e=>by omega
   refine ⟨λN I y z=>∃j:Nat,I=j/\j<=(al.getD i cS).2.length/\z=(al.getD i cS).2.length - j/\N=uZ (((al.take i).map (·.2)).foldl uZ k) ((al.getD i cS).2.take j)/\ak U y,⟨_,0,rfl,vx _,rfl,rfl,aD.refl _⟩,?_⟩;rintro N I y z _ ⟨j,rfl,hj,rfl,rfl,gy⟩;have Gy:=(X.trans V).trans gy;refine ah (λJ=>?_) (λJ=>?_)
   . have J:j< (al.getD i cS).2.length:=by rw [h1] at J;simpa using J
     refine (h3.grow Gy).ix 0 (by omega) h1 (by omega) λa e=>⟨_,e,_,?_,j+1,wN,J,rfl,?_,gy⟩
     . omega
     . rw [tn,nw _ (nF (an.1 _ (bE J)))];exact (EE J).symm
   . have J:j=(al.getD i cS).2.length:=by rw [decide_eq_false_iff_not] at J;omega
     subst J;rw [K'];refine ⟨_,?_,i+1,wN,r,rfl,?_,(gu.trans V).trans gy⟩
     . omega
     . rw [c8 r cS,LV,XD];rfl
 . have r:i=al.length:=by simp at r;omega
   subst r;rw [K'];exact ⟨rfl,X⟩
end
section
open Go.LeP
variable {s t s':aI} {l c d:List Int} {x y:Int} {i j N:Nat} {cs:List (List Int)}
structure R5 (N:Nat) (v:Int->Int):Prop where
 neg:∀l,v (-l)= -v l
 val:∀l,v l=0\/v l=1\/v l= -1
 set:∀l,dN N l->v l≠0
def DN (N:Nat) (cs:List (List Int)) (c:List Int):Prop:=∀v,R5 N v->(∀d∈cs,Dg v d)->Dg v c
def Qo (s:aI) (c P:List Int):Prop:=(∃x∈c,x∈P)\/∃x∈c,∃y∈c,x≠y/\x ∉ P/\ -x ∉ P/\y ∉ P/\ -y ∉ P
def aI.dA (s:aI) (j:Nat):List Int:=(s.R .tr).take ((s.R .be).getD j 0).toNat
def Em (s:aI):Prop:=∀j,j< (s.R .be).length->∀i,s.aO i->Qo s (s.R (.a i)) (s.dA j)
theorem Em.ext (g:aN s) (h:Em s) (e:j7 s s'):Em s':=by
 intro j I i hi;rw [e.be] at I;have hi:=e.lW.1 hi;have hb:=g.bl j I;have O:s'.dA j=s.dA j:=by
  unfold aI.dA;obtain ⟨k,J⟩:=e.tr;rw [e.be,J,UO (by omega)]
 rw [e.a i,O];exact h j I i hi
theorem om (g:aN s) (I:dN s.vars x) (h:s.val x=0):x ∉ s.R .tr/\ -x ∉ s.R .tr:=by
 refine ⟨λhm=>?_,λhm=>?_⟩
 . have:=(g.v1 x I).2 hm;omega
 . have:=(g.v1 (-x) I.neg).2 hm;rw [pq I] at this;omega
theorem JV (g:aN s) (h:d_ s) (hi:s.aO i):Qo s (s.R (.a i)) (s.R .tr):=by
 rcases h i hi with h| ⟨x,O,y,J,I,h1,V⟩
 . exact .inl h
 . have U:=g.cv i hi x ((g.ca i hi x).2 O);have Y:=g.cv i hi y ((g.ca i hi y).2 J);obtain ⟨a,b⟩:=om g U h1;obtain ⟨Q,X⟩:=om g Y V;exact .inr ⟨x,O,y,J,I,a,b,Q,X⟩
theorem qG:(s.decide x).R (.a i)=s.R (.a i):=by
 unfold aI.decide;rw [kG (by simp) (by simp) (by simp) (by simp)];unfold aI.kL;rw [ao (by simp),ao (by simp)]
theorem sK:(s.decide x).R .be=s.R .be++ [((s.R .tr).length:Int)]:=by
 unfold aI.decide;rw [kG (by simp) (by simp) (by simp) (by simp)];unfold aI.kL;rw [ao (by simp),aS]
theorem wq:(s.decide x).R .tr=s.R .tr++ [x]:=by
 unfold aI.decide;rw [sF];unfold aI.kL;rw [ao (by simp),ao (by simp)]
theorem lC:(s.decide x).aO i↔s.aO i:=by
 unfold aI.decide aI.kL aI.put aI.aO aI.set;exact WK
theorem Em.decide (g:aN s) (h:Em s) (J:d_ s):Em (s.decide x):=by
 intro j O i hi;have hi:s.aO i:=lC.1 hi;rw [sK,UH,U9,VE] at O;unfold aI.dA;rw [sK,wq,qG];by_cases e:j< (s.R .be).length
 . have hb:=g.bl j e;have I:(s.R .be++ [((s.R .tr).length:Int)]).getD j 0=(s.R .be).getD j 0:=by simp [List.getD,UT e]
   rw [I,UO (by omega)];exact h j e i hi
 . have e0:j=(s.R .be).length:=by omega
   subst e0;have I:(s.R .be++ [((s.R .tr).length:Int)]).getD (s.R .be).length 0=((s.R .tr).length:Int):=by simp [List.getD]
   rw [I,tn,UO (y4 _),K'];exact JV g J hi
theorem CW (i:Nat):(s.bW i).R .be=(s.R .be).take i/\(s.bW i).R .tr=(s.R .tr).take ((s.R .be).getD i 0).toNat/\∀j,(s.bW i).R (.a j)=s.R (.a j):=by
 unfold aI.bW;simp only [aI.set];refine ⟨?_,?_,λj=>?_⟩<;>simp [bH]
theorem uH:(s.bW i).R .be=(s.R .be).take i:=(CW i).1
theorem Dw:(s.bW i).R .tr=(s.R .tr).take ((s.R .be).getD i 0).toNat:=(CW i).2.1
theorem pK:(s.bW i).R (.a j)=s.R (.a j):=(CW i).2.2 j
theorem Fi (g:aN s) (hi:i< (s.R .be).length) (I:j<i):(s.bW i).dA j=s.dA j:=by
 unfold aI.dA;rw [uH,Dw,gM I,Wu];have:=g.bs j i I hi;have:=g.bl j (by omega);rw [U7 (by omega)]
theorem Em.bW (g:aN s) (h:Em s) (hi:i< (s.R .be).length):Em (s.bW i):=by
 intro j J k I;have I:s.aO k:=I;rw [uH,GD] at J;rw [pK,Fi g hi (by omega)];exact h j (by omega) k I
theorem wE (g:aN s) {p:Nat} (I:j< (s.R .be).length):j< (s.R .be).countP (λe=>decide (e<=(p:Int)))↔(s.R .be).getD j 0<=(p:Int):=by
 have mono:∀a b,a<b->b< (s.R .be).length->(s.R .be).getD a 0< (s.R .be).getD b 0:=λa b h1 Q=>g.bs a b h1 Q;have key:∀ (be:List Int),(∀a b,a<b->b<be.length->be.getD a 0<be.getD b 0)->∀j,j<be.length->(j<be.countP (λe=>decide (e<=(p:Int)))↔be.getD j 0<=(p:Int)):=by
  intro be
  induction be with
  |nil=>intro _ j I;simp at I
  |cons a t O=>
   intro hm j I;have O:=O (λx y h1 Q=>by have:=hm (x+1) (y+1) (by omega) (by simpa using Q);simpa using this);rw [Vq];by_cases ha:a<=(p:Int)
   . rw [if_pos (by simpa using ha)];cases j with
     |zero=>simp [ha]
     |succ j=>
      have I:j<t.length:=by simpa using I
      have:=O j I;have J:(a::t).getD (j+1) 0=t.getD j 0:=by simp
      rw [J,<- this];omega
   . rw [if_neg (by simpa using ha)];have z:t.countP (λe=>decide (e<=(p:Int)))=0:=by
      rw [WD];intro e he;obtain ⟨k,U,rfl⟩:=I'.1 he;have:=hm 0 (k+1) (by omega) (by simpa using U);simp only [List.getD_cons_zero,List.getD_cons_succ] at this;rw [y6,Mb U,US] at this;simp;omega
     rw [z];cases j with
     |zero=>simp;omega
     |succ j=>
      have I:j<t.length:=by simpa using I
      have:=hm 0 (j+1) (by omega) (by simpa using I);have J:(a::t).getD (j+1) 0=t.getD j 0:=by simp
      have e0:(a::t).getD 0 0=a:=by simp
      rw [J,e0] at this;rw [J];omega
 exact key _ mono j I
theorem BH (I:x∈s.R .tr):∃p,p< (s.R .tr).length/\(s.R .tr).getD p 0=x:=by
 obtain ⟨p,hp,e⟩:=I'.1 I;exact ⟨p,hp,by simp [List.getD,hp,e]⟩
theorem Ny (g:aN s) {p q:Nat} (hp:p< (s.R .tr).length) (hq:q< (s.R .tr).length) (h:bh ((s.R .tr).getD p 0)=bh ((s.R .tr).getD q 0)):p=q:=by
 have J:(s.R .tr).getD p 0=(s.R .tr)[p]:=by simp [List.getD,hp]
 have I:(s.R .tr).getD q 0=(s.R .tr)[q]:=by simp [List.getD,hq]
 rw [J,I] at h;have:=(V9 (h₀:=show p< ((s.R .tr).map bh).length by simpa using hp) (h₁:=by simpa using hq) g.nd).1 (by simpa using h);exact this
theorem En {l:List Int} {k:Nat}:x∈l.take k↔∃p,p<k/\p<l.length/\l.getD p 0=x:=by
 constructor
 . intro h;obtain ⟨p,hp,e⟩:=I'.1 h;rw [GD] at hp;refine ⟨p,by omega,by omega,?_⟩;rw [Wh] at e;simp [List.getD,show p<l.length by omega,e]
 . rintro ⟨p,h1,I,rfl⟩;rw [I'];refine ⟨p,by rw [GD];omega,?_⟩;rw [Wh];simp [List.getD,I]
theorem sQ:s.bI (-x)=s.bI x:=by unfold aI.bI;rw [kX]
theorem tx (g:aN s) (Q: -x∈s.R .tr) (I:j< (s.R .be).length): -x∈s.dA j↔s.bI x<=j:=by
 obtain ⟨p,hp,e⟩:=BH Q;have hl:=g.lv p hp;rw [e,sQ] at hl;have U:=wE g (p:=p) I;have hb:=g.bl j I;unfold aI.dA;rw [En,hl];constructor
 . rintro ⟨q,h1,J,O⟩;have:=Ny g J hp (by rw [O,e]);subst this;omega
 . intro h;refine ⟨p,?_,hp,e⟩;omega
theorem iX (g:aN s) (J: -x∈s.R .tr):x ∉ s.R .tr:=by
 intro h;obtain ⟨p,hp,e⟩:=BH J;obtain ⟨q,hq,I⟩:=BH h;have:=Ny g hp hq (by rw [e,I,kX]);subst this;have:=(g.tv x h).1;omega
structure LS (s:aI) (l:List Int) (bl:Nat):Prop where
 ft:∀x∈l,-x∈s.R .tr
 qI:∃x∈l,s.bI x=(s.R .be).length/\∀y∈l,y≠x->s.bI y<=bl
 lt:bl< (s.R .be).length
 aC:bl=0\/∃y∈l,s.bI y=bl
 nd:l.Nodup
theorem LS.rO (g:aN s) (h:LS s l i) (I:x∈l):dN s.vars x:=by
 have:=(g.tv _ (h.ft x I)).neg
 rwa [U_] at this
theorem LS.new (g:aN s) (b:Em s) (h:LS s l i) (V:s.aO j): ¬∀x,x∈s.R (.a j)↔x∈l:=by
 intro e;have Y:=h.lt;obtain ⟨x,Z,h1,X⟩:=h.qI;have Q:(s.R .be).length - 1< (s.R .be).length:=by omega
 rcases b _ Q j V with ⟨y,J,O⟩| ⟨y,J,z,U,I,_,b1,_,b2⟩
 . exact iX g (h.ft y ((e y).1 J)) (UN O)
 . have key:∀u∈l,-u ∉ s.dA ((s.R .be).length - 1)->u=x:=λu hu hn=>by
    refine UP λI=>hn ((tx g (h.ft u hu) Q).2 ?_);have:=X u hu I;omega
   exact I ((key y ((e y).1 J) b1).trans (key z ((e z).1 U) b2).symm)
theorem LS.add (g:aN s) (b:Em s) (h:LS s l i) (ha:lS (s.bW i) l s'):Em s':=by
 intro j Z k U;have gb:=mj g h.lt;have aa:=h.lt;rw [ha.be,uH,GD] at Z;have ep:s'.dA j=s.dA j:=by
  have:s'.dA j=(s.bW i).dA j:=by unfold aI.dA;rw [ha.tr,ha.be]
  rw [this,Fi g h.lt (by omega)]
 have X:k< (s.bW i).nc+1:=by have:=U.1;rw [ha.n] at this;exact this
 rw [ep,ha.a];by_cases e:k=(s.bW i).nc
 . rw [if_pos e];obtain ⟨x,Q,h1,h2⟩:=h.qI;rcases h.aC with e0| ⟨y,O,e0⟩
   . omega
   . have I:j< (s.R .be).length:=by omega
     have Y:=iX g (h.ft x Q);have V:=iX g (h.ft y O);refine .inr ⟨x,Q,y,O,λe=>by rw [e,e0] at h1;omega,λhm=>Y (UN hm),λhm=>?_,λhm=>V (UN hm),λhm=>?_⟩
     . have:=(tx g (h.ft x Q) I).1 hm;omega
     . have:=(tx g (h.ft y O) I).1 hm;omega
 . rw [if_neg e];have hg:(s.bW i).gone k=false:=by have:=U.2;rw [ha.g,if_neg e] at this;exact this
   have J:s.aO k:=⟨by show k< (s.bW i).nc;omega,hg⟩
   rw [pK];exact b j (by omega) k J
def Kk (c:List Int) (v:Int):Nat:=if v∈c then 1 else if -v∈c then 2 else 0
def wc (c:List Int):Nat->Nat
 |0=>0
 |n+1=>Kk c ((n:Int)+1)+3*wc c n
theorem Mp (c:List Int) (v:Int):Kk c v<3:=by
 unfold Kk;split
 . omega
 . split<;>omega
theorem DT {c d:List Int}:∀ {n:Nat},wc c n=wc d n->∀v:Nat,v<n->Kk c ((v:Int)+1)=Kk d ((v:Int)+1)
 |0,_,v,hv=>by omega
 |n+1,h,v,hv=>by
  unfold wc at h;have h1:=Mp c ((n:Int)+1);have J:=Mp d ((n:Int)+1);have I:Kk c ((n:Int)+1)=Kk d ((n:Int)+1):=by omega
  by_cases e:v=n
  . subst e;exact I
  . exact DT (n:=n) (by omega) v (by omega)
structure Fp (N:Nat) (c:List Int):Prop where
 rO:∀x∈c,dN N x
 nt:∀x∈c,-x ∉ c
 nd:c.Nodup
theorem Fp.mem (h:Fp N c) (I:dN N x):x∈c↔(0<x/\Kk c (bh x)=1)\/(x<0/\Kk c (bh x)=2):=by
 obtain ⟨O,h1,J⟩:=I;unfold bh;by_cases e:x<0
 . rw [if_pos e];unfold Kk;rw [U_];constructor
   . intro hm;have:=h.nt x hm;rw [if_neg this,if_pos hm];exact .inr ⟨e,rfl⟩
   . rintro (⟨a,_⟩| ⟨_,b⟩)
     . omega
     . split at b
       . omega
       . split at b
         . assumption
         . omega
 . rw [if_neg e];unfold Kk;constructor
   . intro hm;rw [if_pos hm];exact .inl ⟨by omega,rfl⟩
   . rintro (⟨_,b⟩| ⟨a,_⟩)
     . split at b
       . assumption
       . split at b<;>omega
     . omega
theorem Fp.same (h:Fp N c) (k:Fp N d) (e:wc c N=wc d N):∀x,x∈c↔x∈d:=by
 have key:∀x,dN N x->(x∈c↔x∈d):=λx I=>by
  rw [h.mem I,k.mem I];have ha:=I.bh;have:=DT e ((bh x).toNat - 1) (by omega);rw [show (((bh x).toNat - 1:Nat):Int)+1=bh x by omega] at this;rw [this]
 intro x;exact ⟨λI=> (key x (h.rO x I)).1 I,λI=> (key x (k.rO x I)).2 I⟩
end
section
open Go.LeP
variable {s t s':aI} {l c d:List Int} {x y:Int} {i j N:Nat} {cs:List (List Int)} {hv:List (Nat × List Int)} {un:List (List Int)}
theorem js (g:aN s) (I:dN s.vars x):s.val x=0↔x ∉ s.R .tr/\ -x ∉ s.R .tr:=by
 refine ⟨om g I,λ⟨h1,J⟩=>?_⟩;have hb:=s.ri g.wf x;rcases hb with h|h|h
 . exact h
 . exact absurd ((g.v1 x I).1 h) h1
 . exact absurd ((g.v1 (-x) I.neg).1 (by rw [pq I];omega)) J
structure qR (N:Nat) (cs:List (List Int)) (s:aI) (hv:List (Nat × List Int)) (un:List (List Int)):Prop where
 g:aN s
 v:s.vars=N
 fc:∀j,j<cs.length->s.aO j/\s.R (.a j)=cs.getD j []
 imp:∀i,s.aO i->DN N cs (s.R (.a i))
 DE:∀h∈hv,cs.length<=h.1/\s.aO h.1/\s.R (.a h.1)=h.2
 hn:(hv.map (·.1)).Nodup
 PK:∀c∈un,∃i,cs.length<=i/\s.aO i/\s.R (.a i)=c/\i ∉ hv.map (·.1)
 J3:Em s
 dn:((hv.map (·.2)++un).map λc=>wc c N).Nodup
 ok:∀c∈hv.map (·.2)++un,Fp N c
theorem qR.run (h:qR N cs s hv un) (e:j7 s s') (O:aN s'):qR N cs s' hv un:=by
 have th:∀i,s'.aO i↔s.aO i:=λi=>e.lW;exact ⟨O,by rw [e.v,h.v],λj J=>⟨(th j).2 (h.fc j J).1,by rw [e.a];exact (h.fc j J).2⟩,λi hi=>by rw [e.a];exact h.imp i ((th i).1 hi),
  λk I=>⟨(h.DE k I).1,(th _).2 (h.DE k I).2.1,by rw [e.a];exact (h.DE k I).2.2⟩,h.hn,
  λc X=>by obtain ⟨i,h1,Q,V,U⟩:=h.PK c X;exact ⟨i,h1,(th i).2 Q,by rw [e.a];exact V,U⟩,h.J3.ext h.g e,h.dn,h.ok⟩
theorem qR.decide (h:qR N cs s hv un) (I:d_ s) (hl:dN s.vars x) (U:s.val x=0):qR N cs (s.decide x) hv un:=by
 exact ⟨oX h.g hl U,h.v,λj O=>⟨lC.2 (h.fc j O).1,by rw [qG];exact (h.fc j O).2⟩,λi hi=>by rw [qG];exact h.imp i (lC.1 hi),
  λk J=>⟨(h.DE k J).1,lC.2 (h.DE k J).2.1,by rw [qG];exact (h.DE k J).2.2⟩,h.hn,
  λc I=>by obtain ⟨i,h1,Q,X,V⟩:=h.PK c I;exact ⟨i,h1,lC.2 Q,by rw [qG];exact X,V⟩,h.J3.decide h.g I,h.dn,h.ok⟩
theorem qR.bW (h:qR N cs s hv un) (hi:i< (s.R .be).length):qR N cs (s.bW i) hv un:=by
 exact ⟨mj h.g hi,h.v,λj J=>⟨(h.fc j J).1,by rw [pK];exact (h.fc j J).2⟩,λk I=>by rw [pK];exact h.imp k I,
  λk I=>⟨(h.DE k I).1,(h.DE k I).2.1,by rw [pK];exact (h.DE k I).2.2⟩,h.hn,
  λc V=>by obtain ⟨k,h1,Q,O,U⟩:=h.PK c V;exact ⟨k,h1,Q,by rw [pK];exact O,U⟩,h.J3.bW h.g hi,h.dn,h.ok⟩
theorem LS.Si (h:qR N cs s hv un) (k:LS s l i):Fp N l:=
 ⟨λx I=>by have:=k.rO h.g I;rwa [h.v] at this,λx I hm=>iX h.g (k.ft x I) (by have:=k.ft _ hm;rwa [U_] at this),k.nd⟩
theorem LS.Nc (h:qR N cs s hv un) (k:LS s l i):wc l N ∉ (hv.map (·.2)++un).map λc=>wc c N:=by
 intro hm;obtain ⟨c,I,e⟩:=L0.1 hm;have same:=(h.ok c I).same (k.Si h) e;rcases F'.1 I with I|I
 . obtain ⟨p,hp,rfl⟩:=L0.1 I;obtain ⟨_,J,O⟩:=h.DE p hp;exact k.new h.g h.J3 J (by rw [O];exact same)
 . obtain ⟨q,_,J,O,_⟩:=h.PK c I;exact k.new h.g h.J3 J (by rw [O];exact same)
structure MU (N:Nat) (cs:List (List Int)) (s:aI) (hv:List (Nat × List Int)) (un:List (List Int)) (l:List Int) (nc:Nat):Prop where
 g:aN s
 v:s.vars=N
 fc:∀j,j<cs.length->s.aO j/\s.R (.a j)=cs.getD j []
 imp:∀i,s.aO i->DN N cs (s.R (.a i))
 DE:∀h∈hv,cs.length<=h.1/\s.aO h.1/\s.R (.a h.1)=h.2
 hn:(hv.map (·.1)).Nodup
 PK:∀c∈un,∃i,cs.length<=i/\s.aO i/\s.R (.a i)=c/\i ∉ hv.map (·.1)/\i<nc
 J3:Em s
 dn:((hv.map (·.2)++un).map λc=>wc c N).Nodup
 ok:∀c∈hv.map (·.2)++un,Fp N c
 lc:wc l N ∉ (hv.map (·.2)++un).map λc=>wc c N
 lo:Fp N l
 la:cs.length<=nc/\s.aO nc/\s.R (.a nc)=l
 hl:∀h∈hv,h.1<nc
theorem qR.SY (h:qR N cs s hv un) (k:LS s l i) (f:DN N cs l) (ha:lS (s.bW i) l s') (Y:aN s'):MU N cs s' hv un l s.nc:=by
 have enc:(s.bW i).nc=s.nc:=rfl;have U:cs.length<=s.nc:=by
  rcases UU s.nc cs.length with e|e
  . exact absurd (h.fc _ e).1.1 (Nat.lt_irrefl _)
  . exact e
 have th:∀ {j},s.aO j->s'.aO j/\s'.R (.a j)=s.R (.a j):=λ{j} I=>by
  have O:j≠s.nc:=by have:=I.1;omega
  refine ⟨⟨?_,?_⟩,?_⟩
  . rw [ha.n,enc];have:=I.1;omega
  . rw [ha.g,enc,if_neg O];exact I.2
  . rw [ha.a,enc,if_neg O,pK]
 have X:s'.aO s.nc/\s'.R (.a s.nc)=l:=by
  refine ⟨⟨?_,?_⟩,?_⟩
  . rw [ha.n,enc];omega
  . rw [ha.g,enc,if_pos rfl]
  . rw [ha.a,enc,if_pos rfl]
 refine ⟨Y,by rw [ha.v];exact h.v,λj I=>⟨(th (h.fc j I).1).1,by rw [(th (h.fc j I).1).2];exact (h.fc j I).2⟩,λj I=>?_,λp hp=>?_,h.hn,λc hc=>?_,k.add h.g h.J3 ha,h.dn,h.ok,k.Nc h,k.Si h,⟨U,X⟩,λp hp=> (h.DE p hp).2.1.1⟩
 . by_cases e:j=s.nc
   . subst e;rw [X.2];exact f
   . have Q:s.aO j:=by
      refine ⟨?_,?_⟩
      . have:=I.1;rw [ha.n,enc] at this;omega
      . have:=I.2;rw [ha.g,enc,if_neg e] at this;exact this
     rw [(th Q).2];exact h.imp j Q
 . obtain ⟨h1,J,V⟩:=h.DE p hp;exact ⟨h1,(th J).1,by rw [(th J).2];exact V⟩
 . obtain ⟨q,h1,J,V,Z⟩:=h.PK c hc;exact ⟨q,h1,(th J).1,by rw [(th J).2];exact V,Z,J.1⟩
theorem Dq {α:Type} {l:List α} {a:α} (h:l.Nodup) (ha:a ∉ l):(l++ [a]).Nodup:=by
 rw [VQ];exact ⟨h,by simp,λx J y I=>by rw [Bs] at I;subst I;rintro rfl;exact ha J⟩
theorem Rm {α:Type} {l m:List α} {a:α} (h:(l++m).Nodup) (ha:a ∉ l++m):(l++ [a]++m).Nodup:=by
 have hp:(l++ [a]++m).Perm (l++m++ [a]):=by
  rw [U6,U6];exact List.Perm.append_left _ (List.perm_append_comm)
 exact hp.nodup_iff.2 (Dq h ha)
theorem MU.MW (h:MU N cs s hv un l i):qR N cs s (hv++ [(i,l)]) un:=by
 obtain ⟨h1,V,X⟩:=h.la;refine ⟨h.g,h.v,h.fc,h.imp,λp hp=>?_,?_,λc I=>?_,h.J3,?_,λc I=>?_⟩
 . rcases F'.1 hp with hp|hp
   . exact h.DE p hp
   . rw [Bs] at hp;subst hp;exact ⟨h1,V,X⟩
 . rw [LV];exact Dq h.hn λhm=>by
    obtain ⟨p,hp,e⟩:=L0.1 hm;have:=h.hl p hp;simp at e;omega
 . obtain ⟨q,J,Q,O,U,Y⟩:=h.PK c I;refine ⟨q,J,Q,O,λhm=>?_⟩;rw [LV] at hm;rcases F'.1 hm with hm|hm
   . exact U hm
   . simp at hm;omega
 . rw [LV,LV,LV];have:=h.dn;have hl:=h.lc;rw [LV] at this hl;exact Rm this hl
 . rw [LV] at I;rcases F'.1 I with I|I
   . rcases F'.1 I with I|I
     . exact h.ok c (UW _ I)
     . simp at I;subst I;exact h.lo
   . exact h.ok c (Vt _ I)
theorem MU.Lh (h:MU N cs s hv un l i):qR N cs s hv (un++ [l]):=by
 obtain ⟨h1,Q,V⟩:=h.la;refine ⟨h.g,h.v,h.fc,h.imp,h.DE,h.hn,λc I=>?_,h.J3,?_,λc I=>?_⟩
 . rcases F'.1 I with I|I
   . obtain ⟨q,X,O,J,U,Y⟩:=h.PK c I;exact ⟨q,X,O,J,U⟩
   . rw [Bs] at I;subst I;exact ⟨i,h1,Q,V,λhm=>by
      obtain ⟨p,hp,e⟩:=L0.1 hm;have:=h.hl p hp;omega⟩
 . rw [<- U6,LV];exact Dq h.dn h.lc
 . rw [<- U6] at I;rcases F'.1 I with I|I
   . exact h.ok c I
   . rw [Bs] at I;subst I;exact h.lo
theorem wZ (h:j≠i):(s.drop i).R (.a j)=s.R (.a j):=by
 unfold aI.drop aI.del;show (((((oW i s ((s.R (.l i)).take 2)).set .lo _).set (.a i) []).set (.l i) []).R (.a j))=_;rw [ao (by simp),ao (by simpa using h),ao (by simp),jL _ (by simp)]
theorem zm {z:Pt} (h:z=.tr\/z=.be):(s.drop i).R z=s.R z:=by
 unfold aI.drop aI.del;show (((((oW i s ((s.R (.l i)).take 2)).set .lo _).set (.a i) []).set (.l i) []).R z)=_;rcases h with rfl|rfl<;>rw [ao (by simp),ao (by simp),ao (by simp),jL _ (by simp)]
theorem GJ:(s.drop i).vars=s.vars:=by
 obtain ⟨d1,d2,d3,_⟩:=jk (i:Int) ((s.R (.l i)).take 2) s;exact d1
theorem qR.drop {A B:List (Nat × List Int)} {p:Nat × List Int} (h:qR N cs s (A++p::B) un) (X:aN (s.drop p.1)):qR N cs (s.drop p.1) (A++B) un:=by
 have hp:=h.DE p (by simp);have hn:=h.hn;rw [LV,Vy] at hn;have Q:p.1 ∉ (A++B).map (·.1)/\((A++B).map (·.1)).Nodup:=by
  rw [LV];have hp:(A.map (·.1)++p.1::B.map (·.1)).Perm (p.1::(A.map (·.1)++B.map (·.1))):=List.perm_middle;exact WV.1 (hp.nodup_iff.1 hn)
 have sub:∀q∈A++B,q∈A++p::B:=λq hq=>by
  rcases F'.1 hq with hq|hq
  . exact UW _ hq
  . exact Vt _ (vy _ hq)
 have ne:∀q∈A++B,q.1≠p.1:=λq hq e=>Q.1 (by rw [<- e];exact L0.2 ⟨q,hq,rfl⟩);refine ⟨X,by rw [GJ];exact h.v,λj J=>?_,λj J=>?_,λq hq=>?_,Q.2,λc O=>?_,λj J k hk=>?_,?_,λc O=>?_⟩
 . have I:j≠p.1:=by omega
   exact ⟨gD.2 ⟨(h.fc j J).1,I⟩,by rw [wZ I];exact (h.fc j J).2⟩
 . obtain ⟨h1,U⟩:=gD.1 J;rw [wZ U];exact h.imp j h1
 . obtain ⟨h1,U,h3⟩:=h.DE q (sub q hq);exact ⟨h1,gD.2 ⟨U,ne q hq⟩,by rw [wZ (ne q hq)];exact h3⟩
 . obtain ⟨q,Y,q2,Z,V⟩:=h.PK c O;have I:q≠p.1:=λe=>V (by rw [e];exact L0.2 ⟨p,by simp,rfl⟩);exact ⟨q,Y,gD.2 ⟨q2,I⟩,by rw [wZ I];exact Z,λhm=>by
    obtain ⟨r,hr,e⟩:=L0.1 hm;exact V (L0.2 ⟨r,sub r hr,e⟩)⟩
 . obtain ⟨h1,U⟩:=gD.1 hk;rw [zm (.inr rfl)] at J;have:=h.J3 j J k h1;unfold aI.dA;rw [wZ U,zm (.inl rfl),zm (.inr rfl)];exact this
 . have:=h.dn;refine this.sublist (List.Sublist.map _ ?_);refine Xp ?_ (Xd _);exact List.Sublist.map _ (Xp (Xd _) (W6 _ _))
 . refine h.ok c ?_;rcases F'.1 O with O|O
   . obtain ⟨q,hq,rfl⟩:=L0.1 O;exact UW _ (L0.2 ⟨q,sub q hq,rfl⟩)
   . exact Vt _ O
def Cv (N:Nat) (s:aI) (S:Int->Prop):Prop:=∀v:Int,1<=v->v<=N->s.val v=0->S v
theorem Cv.run {S:Int->Prop} (h:Cv N s S) (k:qR N cs s hv un) (e:j7 s s') (O:aN s'):Cv N s' S:=by
 intro v v1 v2 Q;have J:dN s.vars v:=⟨by omega,by rw [k.v];omega,by rw [k.v];omega⟩
 have I:dN s'.vars v:=by rw [e.v];exact J
 obtain ⟨a,b⟩:=(js O I).1 Q;exact h v v1 v2 ((js k.g J).2 ⟨λm=>a (e.mem m),λm=>b (e.mem m)⟩)
end
section
open Go.LeP
variable {w0 w w' w1 w2:World} {B N:Nat} {L L':Nat->Nat}
structure Hc where
 i:Nat
 sl:Sl
 c:List Int
 lv:Int
 sz:Int
 lk:Bool
def JJ (h:Hc):List Value:= [.i h.i,h.sl.v,.i h.lv,.i h.sz,.bool h.lk]
theorem BE:GV 5 JJ:=⟨λ_=>rfl,by omega,λx v hv=>by
 simp only [JJ,UI,WO,or_false] at hv;rcases hv with rfl|rfl|rfl|rfl|rfl<;>rfl⟩
abbrev Us:=Sl × List Int
abbrev Ps:=Bool × Sl × List Int
def Rz (h:Ps):List Value:= [.bool h.1,h.2.1.v]
theorem Kl:GV 2 Rz:=⟨λ_=>rfl,by omega,λx v hv=>by
 simp only [Rz,UI,WO,or_false] at hv;rcases hv with rfl|rfl<;>rfl⟩
structure Me where
 n:Int
 f:Sl
 yJ:Int
 uni:Int
 lrn:Int
 pu:Int
 pa:Int
 pl:Int
 bZ:Int
 dU:Int
 cf:Int
 de:Int
 re:Int
 dr:Int
structure Xs where
 m:Me
 pb:Nat
 hb:Nat
 HI:Sl
 hs:Sl
 us:Sl
 ps:Sl
 ms:Sl
 s:aI
 S:Int->Prop
 ph:List Int
 hv:List Hc
 un:List Us
 pr:List Ps
 mo:List Int
def Xs.cells (x:Xs):Array Value:= #[.i x.m.n,x.m.f.v,.i x.m.yJ,.i x.m.uni,.i x.m.lrn,ck x.pb,ck x.hb,x.HI.v,.i x.m.pu,.i x.m.pa,.i x.m.pl,
 x.hs.v,x.us.v,.i x.m.bZ,.i x.m.dU,x.ms.v,x.ps.v,.i x.m.cf,.i x.m.de,.i x.m.re,.i x.m.dr]
structure RO (w:World) (L:Nat->Nat) (s:Sl) (c:List Int):Prop where
 n:s.n=c.length
 v:Vw sT w s.p c
 l:∀k,aG s.p=some k->L k=9/\k<w.heap.size
structure Ol (E:Nat->Prop) (w0 w:World) (B:Nat) (L:Nat->Nat) (N:Nat) (x:Xs):Prop where
 g:ak w0 w
 me: ¬E 1->bT w B x.cells
 ml:L B=1/\w0.heap.size<=B/\B<w.heap.size
 pm: ¬E 2->∃H,PM w x.pb H x.s/\∀y k,own x.pb H y=some k->L k=2/\w0.heap.size<=k
 hp: ¬E 3->∃z,Hp.cN w x.hb z/\Hp.o_ z N/\(∀u:Int,1<=u->u<=N->(0<HeapP.g z.at_ u↔x.S u))/\∀k,z.cq x.hb k->L k=3/\w0.heap.size<=k
 ph: ¬E 4->dz aq w x.HI.p x.HI.c x.ph/\x.HI.n=x.ph.length/\∀k,aG x.HI.p=some k->L k=4/\w0.heap.size<=k
 hv: ¬E 5->Row 5 JJ cK w x.hs.p x.hs.c x.hv/\x.hs.n=x.hv.length/\∀k,aG x.hs.p=some k->L k=5/\w0.heap.size<=k
 hr: ¬E 9->∀h∈x.hv,RO w L h.sl h.c
 un: ¬E 6->Ow Sl.v aE w x.us.p x.us.c (x.un.map (·.1))/\x.us.n=x.un.length/\∀k,aG x.us.p=some k->L k=6/\w0.heap.size<=k
 ur: ¬E 9->∀u∈x.un,RO w L u.1 u.2
 pr: ¬E 7->Row 2 Rz kD w x.ps.p x.ps.c x.pr/\x.ps.n=x.pr.length/\∀k,aG x.ps.p=some k->L k=7/\w0.heap.size<=k
 rr: ¬E 9->∀u∈x.pr,RO w L u.2.1 u.2.2
 mo: ¬E 8->dz aq w x.ms.p x.ms.c x.mo/\x.ms.n=x.mo.length/\∀k,aG x.ms.p=some k->L k=8/\w0.heap.size<=k
abbrev SR:=Ol λ_=>False
structure mI (E:Nat->Prop) (w0 w w':World) (L L':Nat->Nat):Prop where
 mod:aD (λk=>E (L k)/\w0.heap.size<=k) w w'
 DG:∀k,k<w.heap.size->L' k=L k
def lN (L:Nat->Nat) (n i:Nat):Nat->Nat:=λk=>if k<n then L k else i
theorem dD {n i k:Nat} (h:k<n):lN L n i k=L k:=by unfold lN;rw [if_pos h]
theorem jC {n i k:Nat} (h:n<=k):lN L n i k=i:=by unfold lN;rw [if_neg (by omega)]
abbrev Kp:=mI λi=>i≠9
theorem mI.trans {E:Nat->Prop} {I:Nat->Nat} (h:mI E w0 w w1 L I) (k:mI E w0 w1 w2 I L'):mI E w0 w w2 L L':=
 ⟨h.mod.then k.mod λb hb ⟨e,J⟩=>⟨by rw [<- h.DG b hb];exact e,J⟩,λb hb=>by rw [k.DG b (VD hb h.mod.size),h.DG b hb]⟩
theorem mI.grow {E:Nat->Prop} (g:ak w w'):mI E w0 w w' L L:=⟨g.mono λ_ _ e=>e.elim,λ_ _=>rfl⟩
theorem mI.new {E:Nat->Prop} (g:ak w w') (i:Nat):mI E w0 w w' L (lN L w.heap.size i):=⟨g.mono λ_ _ e=>e.elim,λ_ I=>dD I⟩
theorem mI.xU {E E':Nat->Prop} (h:mI E w0 w w' L L') (I:∀i,E i->E' i):mI E' w0 w w' L L':=⟨h.mod.mono λ_ _ e=>⟨I _ e.1,e.2⟩,h.DG⟩
theorem RO.keep {s:Sl} {c:List Int} {E:Nat->Prop} (h:RO w L s c) (k:mI E w0 w w' L L') (I: ¬E 9):RO w' L' s c:=
 ⟨h.n,h.v.keep k.mod λb hb ⟨e,_⟩=>I (by rw [<- (h.l b hb).1];exact e),λb hb=>⟨by rw [k.DG b (h.l b hb).2];exact (h.l b hb).1,VD (h.l b hb).2 k.mod.size⟩⟩
theorem Ol.PX {E E':Nat->Prop} {x:Xs} (h:Ol E w0 w B L N x) (k:mI E' w0 w w' L L'):Ol (λi=>E i\/E' i) w0 w' B L' N x:=by
 have nt:∀ {i:Nat} {j:Nat},¬(E i\/E' i)->L j=i->¬(E' (L j)/\w0.heap.size<=j):=λhi I V=>hi (.inr (by rw [<- I];exact V.1));refine ⟨h.g.then k.mod λb hb V=>by omega,λe=> (h.me λJ=>e (.inl J)).keep k.mod (nt e h.ml.1),⟨by rw [k.DG B h.ml.2.2];exact h.ml.1,h.ml.2.1,VD h.ml.2.2 k.mod.size⟩,λe=>?_,λe=>?_,λe=>?_,λe=>?_,λe u hu=> (h.hr (λJ=>e (.inl J)) u hu).keep k λJ=>e (.inr J),λe=>?_,λe u hu=> (h.ur (λJ=>e (.inl J)) u hu).keep k λJ=>e (.inr J),λe=>?_,λe u hu=> (h.rr (λJ=>e (.inl J)) u hu).keep k λJ=>e (.inr J),λe=>?_⟩
 . obtain ⟨H,h1,Q⟩:=h.pm λJ=>e (.inl J);exact ⟨H,h1.keep k.mod λy j I=>nt e (Q y j I).1,λy j I=>by rw [k.DG j (h1.lt y j I)];exact Q y j I⟩
 . obtain ⟨z,h1,Q,O,U⟩:=h.hp λJ=>e (.inl J);exact ⟨z,h1.keep k.mod λj I=>nt e (U j I).1,Q,O,λj I=>by rw [k.DG j (h1.lt j I)];exact U j I⟩
 . obtain ⟨h1,Q,O⟩:=h.ph λJ=>e (.inl J);exact ⟨h1.keep k.mod λj I=>nt e (O j I).1,Q,λj I=>by rw [k.DG j (h1.lt j I)];exact O j I⟩
 . obtain ⟨h1,Q,O⟩:=h.hv λJ=>e (.inl J);exact ⟨h1.keep k.mod λj I=>nt e (O j I).1,Q,λj I=>by rw [k.DG j (h1.lt j I)];exact O j I⟩
 . obtain ⟨h1,Q,O⟩:=h.un λJ=>e (.inl J);exact ⟨h1.keep k.mod λj I=>nt e (O j I).1,Q,λj I=>by rw [k.DG j (h1.lt j I)];exact O j I⟩
 . obtain ⟨h1,Q,O⟩:=h.pr λJ=>e (.inl J);exact ⟨h1.keep k.mod λj I=>nt e (O j I).1,Q,λj I=>by rw [k.DG j (h1.lt j I)];exact O j I⟩
 . obtain ⟨h1,Q,O⟩:=h.mo λJ=>e (.inl J);exact ⟨h1.keep k.mod λj I=>nt e (O j I).1,Q,λj I=>by rw [k.DG j (h1.lt j I)];exact O j I⟩
section
variable {x:Xs}
theorem Ol.xU {E E':Nat->Prop} (h:Ol E w0 w B L N x) (I:∀i,E i->E' i):Ol E' w0 w B L N x:=
 ⟨h.g,λe=>h.me λc=>e (I _ c),h.ml,λe=>h.pm λc=>e (I _ c),λe=>h.hp λc=>e (I _ c),λe=>h.ph λc=>e (I _ c),λe=>h.hv λc=>e (I _ c),λe=>h.hr λc=>e (I _ c),λe=>h.un λc=>e (I _ c),λe=>h.ur λc=>e (I _ c),λe=>h.pr λc=>e (I _ c),λe=>h.rr λc=>e (I _ c),λe=>h.mo λc=>e (I _ c)⟩
theorem SR.at (h:SR w0 w B L N x):bT w B x.cells:=h.me id
theorem SR.new (h:SR w0 w B L N x) (m:ak w w') (i:Nat):SR w0 w' B (lN L w.heap.size i) N x:=
 (h.PX (E':=λ_=>False) ⟨m.mono λ_ _ e=>e.elim,λ_ I=>dD I⟩).xU λ_ e=>e.elim id id
theorem SR.grow (h:SR w0 w B L N x) (m:ak w w'):SR w0 w' B L N x:=
 (h.PX (E':=λ_=>False) ⟨m.mono λ_ _ e=>e.elim,λ_ I=>rfl⟩).xU λ_ e=>e.elim id id
theorem SR.drew (h:SR w0 w B L N x):SR w0 w.drew B L N x:=h.grow (aD.refl _).drew
theorem SR.bJ (h:SR w0 w B L N x) (i:Nat) (m:aD (λk=>L k=i/\w0.heap.size<=k) w w'):Ol (λj=>j=i) w0 w' B (lN L w.heap.size i) N x:=
 (h.PX (E':=λj=>j=i) ⟨m,λ_ I=>dD I⟩).xU λ_ e=>e.elim False.elim id
theorem SR.aC (h:SR w0 w B L N x) (i:Nat) (m:aD (λk=>L k=i/\w0.heap.size<=k) w w1) (m2:aD (·=B) w1 w'):Ol (λj=>j=i\/j=1) w0 w' B (lN L w.heap.size i) N x:=by
 refine (h.PX (E':=λj=>j=i\/j=1) ⟨?_,λ_ I=>dD I⟩).xU λ_ e=>e.elim False.elim id;exact (m.mono λk _ e=>⟨.inl e.1,e.2⟩).then m2 λk I (e:k=B)=>by subst e;exact ⟨.inr h.ml.1,h.ml.2.1⟩
theorem zU {p q:sn} {i:Nat} (h:∀k,aG p=some k->L k=i/\w0.heap.size<=k) (hl:∀k,aG p=some k->k<w.heap.size) (g:ak w0 w) (hq:∀k,aG q=some k->aG p=some k\/w.heap.size<=k):
 ∀k,aG q=some k->lN L w.heap.size i k=i/\w0.heap.size<=k:=by
 intro k I;rcases hq k I with e|e
 . rw [dD (hl k e)];exact h k e
 . exact ⟨jC e,UY g.size e⟩
theorem SR.own (h:SR w0 w B L N x) {m':Me} (st:bT w' B {x with m:=m'}.cells) (m:aD (·=B) w w'):(SR w0 w' B L N {x with m:=m'})/\Kp w0 w w' L L:=by
 have b:=(h.PX (E':=λj=>j=1) (w':=w') (L':=L) ⟨m.mono λk _ (e:k=B)=>by subst e;exact ⟨h.ml.1,h.ml.2.1⟩,λ_ _=>rfl⟩)
 exact ⟨⟨b.g,λ_=>st,b.ml,λ_=>b.pm (by simp),λ_=>b.hp (by simp),λ_=>b.ph (by simp),λ_=>b.hv (by simp),λ_=>b.hr (by simp),λ_=>b.un (by simp),λ_=>b.ur (by simp),λ_=>b.pr (by simp),λ_=>b.rr (by simp),λ_=>b.mo (by simp)⟩,⟨m.mono λk _ (e:k=B)=>by subst e;exact ⟨by rw [h.ml.1];decide,h.ml.2.1⟩,λ_ _=>rfl⟩⟩
theorem SR.wV (h:SR w0 w B L N x) {H Q:Pt->Sl} (I:∀y k,Go.Proofs.YtbdghpjnifjlmaaGreat.W.own x.pb H y=some k->L k=2/\w0.heap.size<=k) (O:∀y k,Go.Proofs.YtbdghpjnifjlmaaGreat.W.own x.pb H y=some k->k<w.heap.size) {s':aI} (p:Pw w w' x.pb H Q s'):(SR w0 w' B (lN L w.heap.size 2) N {x with s:=s'})/\Kp w0 w w' L (lN L w.heap.size 2):=by
 have b:=h.bJ 2 (p.mod.mono λk _ ⟨y,e⟩=>I y k e);refine ⟨⟨b.g,λ_=>b.me (by simp),b.ml,λ_=>⟨Q,p.pm,λy k J=>?_⟩,λ_=>b.hp (by simp),λ_=>b.ph (by simp),λ_=>b.hv (by simp),λ_=>b.hr (by simp),λ_=>b.un (by simp),λ_=>b.ur (by simp),λ_=>b.pr (by simp),λ_=>b.rr (by simp),λ_=>b.mo (by simp)⟩,⟨p.mod.mono λk _ ⟨y,e⟩=>⟨by rw [(I y k e).1];decide,(I y k e).2⟩,λ_ J=>dD J⟩⟩;rcases p.ft y k J with ⟨z,e⟩|e
 . rw [dD (O z k e)];exact I z k e
 . exact ⟨jC e,UY h.g.size e⟩
theorem SR.heap (h:SR w0 w B L N x) {z I:Hp.HS} (J:∀k,z.cq x.hb k->L k=3/\w0.heap.size<=k) (Q:∀k,z.cq x.hb k->k<w.heap.size) (r:Hp.cN w' x.hb I) (V:Hp.o_ I N) {S':Int->Prop} (U:∀u:Int,1<=u->u<=N->(0<HeapP.g I.at_ u↔S' u))
 (m:aD (z.cq x.hb) w w') (hf:∀k,I.cq x.hb k->z.cq x.hb k\/w.heap.size<=k):(SR w0 w' B (lN L w.heap.size 3) N {x with S:=S'})/\Kp w0 w w' L (lN L w.heap.size 3):=by
 have b:=h.bJ 3 (m.mono λk _ e=>J k e);refine ⟨⟨b.g,λ_=>b.me (by simp),b.ml,λ_=>b.pm (by simp),λ_=>⟨I,r,V,U,λk O=>?_⟩,λ_=>b.ph (by simp),λ_=>b.hv (by simp),λ_=>b.hr (by simp),λ_=>b.un (by simp),λ_=>b.ur (by simp),λ_=>b.pr (by simp),λ_=>b.rr (by simp),λ_=>b.mo (by simp)⟩,⟨m.mono λk _ e=>⟨by rw [(J k e).1];decide,(J k e).2⟩,λ_ O=>dD O⟩⟩;rcases hf k O with e|e
 . rw [dD (Q k e)];exact J k e
 . exact ⟨jC e,UY h.g.size e⟩
theorem SR.phase (h:SR w0 w B L N x) {l':List Int} (hl:l'.length=x.ph.length) (o:dz aq w' x.HI.p x.HI.c l') (m:aD (λk=>aG x.HI.p=some k) w w'):(SR w0 w' B (lN L w.heap.size 4) N {x with ph:=l'})/\Kp w0 w w' L (lN L w.heap.size 4):=by
 obtain ⟨J,p2,I⟩:=h.ph id;have b:=h.bJ 4 (m.mono λk _ e=>I k e);exact ⟨⟨b.g,λ_=>b.me (by simp),b.ml,λ_=>b.pm (by simp),λ_=>b.hp (by simp),λ_=>⟨o,by rw [p2];exact hl.symm,zU I J.lt h.g λk e=> .inl e⟩,λ_=>b.hv (by simp),λ_=>b.hr (by simp),λ_=>b.un (by simp),λ_=>b.ur (by simp),λ_=>b.pr (by simp),λ_=>b.rr (by simp),λ_=>b.mo (by simp)⟩,⟨m.mono λk _ e=>⟨by rw [(I k e).1];decide,(I k e).2⟩,λ_ O=>dD O⟩⟩
theorem RO.re {s:Sl} {c:List Int} {i:Nat} (h:RO w L s c) {E:Nat->Prop} (m:aD (λk=>E (L k)/\w0.heap.size<=k) w w') (J: ¬E 9):RO w' (lN L w.heap.size i) s c:=h.keep ⟨m,λ_ I=>dD I⟩ J
theorem SR.MW (h:SR w0 w B L N x) {q:Sl} {hv':List Hc} (m:aD (λk=>aG x.hs.p=some k) w w1) (r:Row 5 JJ cK w1 q.p q.c hv') (hq:q.n=hv'.length) (hf:∀k,aG q.p=some k->aG x.hs.p=some k\/w.heap.size<=k)
 (O:∀u∈hv',RO w L u.sl u.c) (st:bT w2 B {x with hs:=q,hv:=hv'}.cells) (m2:aD (·=B) w1 w2) (U:aG q.p≠some B):(SR w0 w2 B (lN L w.heap.size 5) N {x with hs:=q,hv:=hv'})/\Kp w0 w w2 L (lN L w.heap.size 5):=by
 obtain ⟨Q,p2,I⟩:=h.hv id;have b:=h.aC 5 (m.mono λk _ e=>I k e) m2;have V:aD (λk=> (L k=5\/L k=1)/\w0.heap.size<=k) w w2:=(m.mono λk _ e=>⟨.inl (I k e).1,(I k e).2⟩).then m2 λk J (e:k=B)=>by subst e;exact ⟨.inr h.ml.1,h.ml.2.1⟩
 exact ⟨⟨b.g,λ_=>st,b.ml,λ_=>b.pm (by simp),λ_=>b.hp (by simp),λ_=>b.ph (by simp),λ_=>⟨r.keep m2 λk J (e:k=B)=>U (by rw [<- e];exact J),hq,zU I Q.lt h.g hf⟩,λ_ u hu=> (O u hu).re (E:=λj=>j=5\/j=1) V (by simp),λ_=>b.un (by simp),λ_=>b.ur (by simp),λ_=>b.pr (by simp),λ_=>b.rr (by simp),λ_=>b.mo (by simp)⟩,⟨(m.mono λk _ e=>⟨by rw [(I k e).1];decide,(I k e).2⟩).then m2 λk J (e:k=B)=>by subst e;exact ⟨by rw [h.ml.1];decide,h.ml.2.1⟩,λ_ J=>dD J⟩⟩
theorem SR.Lh (h:SR w0 w B L N x) {q:Sl} {un':List Us} (m:aD (λk=>aG x.us.p=some k) w w1) (r:Ow Sl.v aE w1 q.p q.c (un'.map (·.1))) (hq:q.n=un'.length) (hf:∀k,aG q.p=some k->aG x.us.p=some k\/w.heap.size<=k)
 (O:∀u∈un',RO w L u.1 u.2) (st:bT w2 B {x with us:=q,un:=un'}.cells) (m2:aD (·=B) w1 w2) (U:aG q.p≠some B):(SR w0 w2 B (lN L w.heap.size 6) N {x with us:=q,un:=un'})/\Kp w0 w w2 L (lN L w.heap.size 6):=by
 obtain ⟨Q,p2,I⟩:=h.un id;have b:=h.aC 6 (m.mono λk _ e=>I k e) m2;have V:aD (λk=> (L k=6\/L k=1)/\w0.heap.size<=k) w w2:=(m.mono λk _ e=>⟨.inl (I k e).1,(I k e).2⟩).then m2 λk J (e:k=B)=>by subst e;exact ⟨.inr h.ml.1,h.ml.2.1⟩
 exact ⟨⟨b.g,λ_=>st,b.ml,λ_=>b.pm (by simp),λ_=>b.hp (by simp),λ_=>b.ph (by simp),λ_=>b.hv (by simp),λ_=>b.hr (by simp),λ_=>⟨r.keep m2 λk J (e:k=B)=>U (by rw [<- e];exact J),hq,zU I Q.lt h.g hf⟩,λ_ u hu=> (O u hu).re (E:=λj=>j=6\/j=1) V (by simp),λ_=>b.pr (by simp),λ_=>b.rr (by simp),λ_=>b.mo (by simp)⟩,⟨(m.mono λk _ e=>⟨by rw [(I k e).1];decide,(I k e).2⟩).then m2 λk J (e:k=B)=>by subst e;exact ⟨by rw [h.ml.1];decide,h.ml.2.1⟩,λ_ J=>dD J⟩⟩
theorem SR.MX (h:SR w0 w B L N x) {q:Sl} {pr':List Ps} (m:aD (λk=>aG x.ps.p=some k) w w1) (r:Row 2 Rz kD w1 q.p q.c pr') (hq:q.n=pr'.length) (hf:∀k,aG q.p=some k->aG x.ps.p=some k\/w.heap.size<=k)
 (O:∀u∈pr',RO w L u.2.1 u.2.2) (st:bT w2 B {x with ps:=q,pr:=pr'}.cells) (m2:aD (·=B) w1 w2) (U:aG q.p≠some B):(SR w0 w2 B (lN L w.heap.size 7) N {x with ps:=q,pr:=pr'})/\Kp w0 w w2 L (lN L w.heap.size 7):=by
 obtain ⟨Q,p2,I⟩:=h.pr id;have b:=h.aC 7 (m.mono λk _ e=>I k e) m2;have V:aD (λk=> (L k=7\/L k=1)/\w0.heap.size<=k) w w2:=(m.mono λk _ e=>⟨.inl (I k e).1,(I k e).2⟩).then m2 λk J (e:k=B)=>by subst e;exact ⟨.inr h.ml.1,h.ml.2.1⟩
 exact ⟨⟨b.g,λ_=>st,b.ml,λ_=>b.pm (by simp),λ_=>b.hp (by simp),λ_=>b.ph (by simp),λ_=>b.hv (by simp),λ_=>b.hr (by simp),λ_=>b.un (by simp),λ_=>b.ur (by simp),λ_=>⟨r.keep m2 λk J (e:k=B)=>U (by rw [<- e];exact J),hq,zU I Q.lt h.g hf⟩,λ_ u hu=> (O u hu).re (E:=λj=>j=7\/j=1) V (by simp),λ_=>b.mo (by simp)⟩,⟨(m.mono λk _ e=>⟨by rw [(I k e).1];decide,(I k e).2⟩).then m2 λk J (e:k=B)=>by subst e;exact ⟨by rw [h.ml.1];decide,h.ml.2.1⟩,λ_ J=>dD J⟩⟩
theorem SR.Tr (h:SR w0 w B L N x) {q:Sl} {mo':List Int} (m:aD (λk=>aG x.ms.p=some k) w w1) (r:dz aq w1 q.p q.c mo') (hq:q.n=mo'.length) (hf:∀k,aG q.p=some k->aG x.ms.p=some k\/w.heap.size<=k)
 (st:bT w2 B {x with ms:=q,mo:=mo'}.cells) (m2:aD (·=B) w1 w2) (Q:aG q.p≠some B):(SR w0 w2 B (lN L w.heap.size 8) N {x with ms:=q,mo:=mo'})/\Kp w0 w w2 L (lN L w.heap.size 8):=by
 obtain ⟨O,p2,I⟩:=h.mo id;have b:=h.aC 8 (m.mono λk _ e=>I k e) m2;exact ⟨⟨b.g,λ_=>st,b.ml,λ_=>b.pm (by simp),λ_=>b.hp (by simp),λ_=>b.ph (by simp),λ_=>b.hv (by simp),λ_=>b.hr (by simp),λ_=>b.un (by simp),λ_=>b.ur (by simp),λ_=>b.pr (by simp),λ_=>b.rr (by simp),λ_=>⟨r.keep m2 λk J (e:k=B)=>Q (by rw [<- e];exact J),hq,zU I O.lt h.g hf⟩⟩,⟨(m.mono λk _ e=>⟨by rw [(I k e).1];decide,(I k e).2⟩).then m2 λk J (e:k=B)=>by subst e;exact ⟨by rw [h.ml.1];decide,h.ml.2.1⟩,λ_ J=>dD J⟩⟩
theorem SR.Ti (h:SR w0 w B L N x) {p q:sn} {i:Nat} (hi:i≠1) (hp:∀k,aG p=some k->L k=i/\w0.heap.size<=k) (hq:q=p\/q=some ⟨w1.heap.size,0,none⟩) (g:w.heap.size<=w1.heap.size):aG q≠some B:=by
 intro e;rcases hq with rfl|rfl
 . have:=(hp B e).1;rw [h.ml.1] at this;exact hi this.symm
 . have:w1.heap.size=B:=by simpa [aG] using e
   have:=h.ml.2.2;omega
theorem E3 {p q:sn} (hq:q=p\/q=some ⟨w1.heap.size,0,none⟩) (g:w.heap.size<=w1.heap.size):∀k,aG q=some k->aG p=some k\/w.heap.size<=k:=by
 intro k I;rcases hq with rfl|rfl
 . exact .inl I
 . have:w1.heap.size=k:=by simpa [aG] using I
   exact .inr (by omega)
end
end
section
open Go.LeP
variable {w0 w w' w1 w2:World} {B N:Nat} {L L':Nat->Nat} {x:Xs} {l:List Int}
theorem DM:pR prog rU kD 2 32=true:=by kernel_rfl
theorem P5 {u:Ps} {b:Nat} (h:bT w b #[.bool u.1,u.2.1.v]):Vr 2 Rz w (some ⟨b,0,none⟩) [u]:=by
 intro j I;have:j=0:=by simpa using I
 subst this;exact ⟨_,rfl,ae h rfl,ae h rfl,trivial⟩
theorem Lg (h:SR w0 w B L N x) (hp:x.pr.length<=1000000000) (del:Bool) {sl:Sl} (ro:RO w L sl l) {b:Nat} (hb:bT w b #[.bool del,sl.v]) {K:World->Prop}
 (hk:∀w' L' q,SR w0 w' B L' N {x with ps:=q,pr:=x.pr++ [(del,sl,l)]}->Kp w0 w w' L L'->K w'):
 ∃X U J Q,(Builtin.append_ #[26,26] 26 #[.slice x.ps.p x.ps.n x.ps.c,.slice (some (qw b)) 1 1]).run prog w=.ok (.slice U J Q) X/\
  ∃V,(some (qw B))=some V/\∃I,bB ((V.add 14).add 2) 0 [.slice U J Q] X I/\K I:=by
 obtain ⟨r1,r2,r3⟩:=h.pr id;refine Row.mA Kl DM r1 (P5 (u:=(del,sl,l)) hb) r2 rfl (by simp;omega) λX p' c' o8 m8 O ar=>⟨_,rfl,?_⟩
 have Z:bT X B x.cells:=h.at.keep m8 λe=>by have:=(r3 B e).1;rw [h.ml.1] at this;exact absurd this (by decide)
 refine ju Z rfl rfl λI aa Y=>?_;have:=h.MX (q:=⟨p',(x.pr++ [(del,sl,l)]).length,c'⟩) (pr':=x.pr++ [(del,sl,l)]) m8 o8 rfl (E3 O (y4 _)) (λu hu=>by
  rcases F'.1 hu with hu|hu
  . exact h.rr id u hu
  . rw [Bs] at hu;subst hu;exact ro) aa Y (h.Ti (by decide) r3 O (y4 _))
 exact hk _ _ _ this.1 this.2
theorem Ic (h:SR w0 w B L N x) (hp:x.pr.length<=1000000000) {p:sn} {n c:Nat} (hv:Vw sT w p l) (hn:n=l.length) (hx:n<=1000000):
 Calls prog gO.id #[ck B,.slice p n c] w λe w'=>e=.returned (.tuple #[])/\∃L' q sl,SR w0 w' B L' N {x with ps:=q,pr:=x.pr++ [(false,sl,l)]}/\Kp w0 w w' L L':=by
 refine gO.aj ?_;have D:=h.drew;refine ⟨λu=>ak w.drew u,aD.refl _,_,rfl,_,_,_,λu g=>bK (D.at.grow g) rfl,(iQ hv.drew hn hx).mono ?_⟩;rintro e w4 ⟨q,d,rfl,O,Q,f4⟩;refine ⟨_,_,_,rfl,Q,λn6 Z I=>?_⟩;have J:=Q.trans I.mod;refine ⟨J,?_⟩;have Y:=D.new J 9;have ro:RO Z (lN L w.drew.heap.size 9) ⟨q,l.length,d⟩ l:=⟨rfl,(O.grow I.mod).vw,λk U=>⟨jC (f4 k U),VD (O.lt k U) I.mod.size⟩⟩
 refine Lg Y hp false ro I.has λw' L' X S' V=>⟨rfl,L',X,_,S',?_⟩
 exact ((mI.grow (aD.refl w).drew).trans (mI.new J 9)).trans V
end
section
open Go.LeP
variable {w0 w w' w1 w2:World} {B N:Nat} {L L':Nat->Nat} {x:Xs} {l:List Int}
theorem Ax {y:Int} (h1: -1048576<=y) (I:y<=1048576):imax y (i64.wrap (0 - y))=bh y:=by
 rw [aA (by omega) (by omega)];unfold imax bh;split<;>split<;>omega
theorem Mx {q:sn} {i:Nat}:aG (q.map (·.add i))=aG q:=by
 cases q with
 |none=>rfl
 |some a=>simp [aG,cV]
structure R9 (w:World) (L:Nat->Nat) (p:sn):Prop where
 l:∀k,aG p=some k->L k=9/\k<w.heap.size
theorem mI.r9 (k:Kp w0 w w' L L') {p:sn} (r:R9 w L p):R9 w' L' p:=⟨λb hb=>⟨by rw [k.DG b (r.l b hb).2];exact (r.l b hb).1,VD (r.l b hb).2 k.mod.size⟩⟩
theorem mI.no (k:Kp w0 w w' L L') {p:sn} (r:R9 w L p):∀b,aG p=some b->¬(L b≠9/\w0.heap.size<=b):=λb hb e=>e.1 (r.l b hb).1
theorem mI.vw (k:Kp w0 w w' L L') {p:sn} {α:Type} {f:α->Value} {m:List α} (v:Vw f w p m) (r:R9 w L p):Vw f w' p m:=v.keep k.mod (k.no r)
theorem mI.has (k:Kp w0 w w' L L') {b:Nat} {cs:Array Value} (h:bT w b cs) (r:L b=9):bT w' b cs:=h.keep k.mod λe=>e.1 r
theorem mI.ro (k:Kp w0 w w' L L') {s:Sl} {c:List Int} (h:RO w L s c):RO w' L' s c:=RO.keep h k (by simp)
theorem Kp.refl:Kp w0 w w L L:=mI.grow (aD.refl w)
theorem SR.push (h:SR w0 w B L N x) {v:Int} (h1:1<=v) (Q:v<=N):Calls prog ig.id #[Hp.ptr x.hb,.i v] w λe w'=>∃r:Int,e=.returned (.i r)/\
 ∃L',SR w0 w' B L' N {x with S:=λu=>x.S u\/u=v}/\Kp w0 w w' L L':=by
 obtain ⟨z,J,z2,z3,z4⟩:=h.hp id;refine (Hp.O9 J z2 v ⟨h1,Q⟩).mono ?_;rintro e w' ⟨rfl,y,V,Z,X,U,Y⟩;have:=h.heap z4 J.lt V Z (S':=λu=>x.S u\/u=v) (λu I O=>by rw [X.has u I O,z3 u I O]) U Y;exact ⟨_,rfl,_,this.1,this.2⟩
theorem SR.Qc (h:SR w0 w B L N x) (g:aN x.s) (hN:x.s.vars<=1000000):Calls prog fM.id #[ck x.pb] w λe w'=>∃ (q:sn) (d:Nat),e=.returned (.slice q (x.s.R .tr).length d)/\dz aq w' q d (x.s.R .tr)/\ak w w'/\
 ∃L',SR w0 w' B L' N x/\Kp w0 w w' L L'/\R9 w' L' q:=by
 obtain ⟨H,pm,_⟩:=h.pm id;have:=g.Ck;refine (Ao pm (by omega)).mono ?_;rintro e w' ⟨q,d,rfl,o,I,f⟩;exact ⟨q,d,rfl,o,I,_,h.new I 9,mI.new I 9,⟨λk J=>⟨jC (f k J),o.lt k J⟩⟩⟩
def cB (s:aI) (bI:Int):aI:=if (max 0 bI).toNat< (s.R .be).length then s.bW (max 0 bI).toNat else s
theorem xq {s:aI} (g:aN s) (bI:Int):aN (cB s bI):=by
 unfold cB;split
 . exact mj g (by assumption)
 . exact g
theorem Bz {s:aI} (bI:Int):∃k,(cB s bI).R .tr=(s.R .tr).take k/\(cB s bI).vars=s.vars:=by
 unfold cB;split
 . exact ⟨_,Dw,rfl⟩
 . exact ⟨_,K'.symm,rfl⟩
theorem SR.QH (h:SR w0 w B L N x) (g:aN x.s) (bI:Int):Calls prog cw.id #[ck x.pb,.i bI] w λe w'=>e=.returned (.tuple #[])/\∃L',SR w0 w' B L' N {x with s:=cB x.s bI}/\Kp w0 w w' L L':=by
 obtain ⟨H,pm,hl⟩:=h.pm id;refine (PQ pm g bI).mono ?_;rintro e w' ⟨rfl,I,p⟩;have:=h.wV hl pm.lt p;exact ⟨rfl,_,this.1,this.2⟩
theorem AJ (h:SR w0 w B L N x) (g:aN x.s) (hv:x.s.vars=N) (hN:N<=1000) (bi:x.ph.length=N+1) (bI:Int):Calls prog gZ.id #[ck B,.i bI] w λe w'=>e=.returned (.tuple #[])/\
 ∃L' S' J,SR w0 w' B L' N {x with s:=cB x.s bI,S:=S',ph:=J}/\Kp w0 w w' L L'/\J.length=N+1/\(∀v,x.S v->S' v)/\∀y∈x.s.R .tr,y ∉ (cB x.s bI).R .tr->S' (bh y):=by
 refine gZ.aj ⟨_,rfl,_,ae h.at rfl,(h.Qc g (by omega)).mono ?_⟩;rintro e w3 ⟨q,d,rfl,o3,g3,L3,S3,k3,r3⟩;refine ⟨_,_,_,rfl,_,rfl,_,ae S3.at rfl,(S3.QH g bI).mono ?_⟩;rintro e w7 ⟨rfl,L7,S7,k7⟩;obtain ⟨kk,ek,ev⟩:=Bz (s:=x.s) bI;refine ⟨rfl,_,rfl,_,ae S7.at rfl,(S7.Qc (xq g bI) (by show (cB x.s bI).vars<=_;omega)).mono ?_⟩;rintro e ac ⟨q2,d2,rfl,b7,cT,Z,Y,ay,c1⟩;refine ⟨_,_,_,rfl,?_⟩;have Y:SR w0 ac B Z N {x with s:=cB x.s bI}:=Y;have an:((cB x.s bI).R .tr).length<=(x.s.R .tr).length:=by rw [ek,GD];omega
 have U:=k7.trans ay;have bn:=o3.cap;have hd:(x.s.R .tr).length<=d:=by
  rcases o3.un with ⟨_,_,e⟩| ⟨_,_,_,_,h1,_⟩
  . rw [e];exact vx _
  . exact h1
 obtain ⟨m,em⟩: ∃m,((cB x.s bI).R .tr).length=m:=⟨_,rfl⟩
 rw [em] at an;show pw q (x.s.R .tr).length d 1 (some ((((cB x.s bI).R .tr).length:Nat):Int)) none none _;rw [em];obtain ⟨D,hD⟩: ∃D,D=(x.s.R .tr).drop m:=⟨_,rfl⟩
 have V3:Vw sT w3 (q.map (·.add (m*1))) D:=by
  have:=o3.vw.part (i:=m) (m:=(x.s.R .tr).length - m) (by omega);rw [UM (by rw [U0];omega)] at this;rw [hD];exact this
 have c0:=g.Ck;have lD:D.length=(x.s.R .tr).length - m:=by rw [hD,U0]
 have ax:Vw sT w3 (if d=m then q else q.map (·.add (m*1))) D:=by
  by_cases e:d=m
  . have:D= []:=UF (by omega);rw [this];exact Vw.nil
  . rw [if_neg e];exact V3
 have R3:R9 w3 L3 (if d=m then q else q.map (·.add (m*1))):=by
  by_cases e:d=m
  . rw [if_pos e];exact r3
  . rw [if_neg e];exact ⟨λb hb=>r3.l b (by rw [Mx] at hb;exact hb)⟩
 have bk:=U.vw ax R3;have a8:=U.r9 R3;refine eh m (x.s.R .tr).length d rfl rfl rfl (y4 _) hd an ?_;have a7:∀y∈D,dN N y:=λy I=>by have:=g.tv y (by rw [hD] at I;exact Xh I);rwa [hv] at this
 refine ⟨λV u z=>∃ (t:Nat) (L':Nat->Nat) (S':Int->Prop) (J:List Int),V=t/\t<=D.length/\z=D.length - t/\SR w0 u B L' N {x with s:=cB x.s bI,S:=S',ph:=J}/\Kp w0 ac u Z L'/\J.length=N+1/\(∀v,x.S v->S' v)/\∀j,j<t->S' (bh (D.getD j 0)),
  ⟨_,0,Z,x.S,x.ph,rfl,vx _,rfl,Y,Kp.refl,bi,λ_ h=>h,λj hj=>by omega⟩,?_⟩
 rintro V u z _ ⟨t,L1,S1,O,rfl,ht,rfl,SS,X,ap,ag,aa⟩;refine ah (λr=>?_) (λr=>?_)
 . have r:t<D.length:=by simp at r;omega
   have V1:=X.vw bk a8;refine V1.ix 0 (by omega) (by omega) (by omega) λa ha=>⟨_,ha,?_⟩
   rw [tn];obtain ⟨y,I⟩: ∃y,D.getD t 0=y:=⟨_,rfl⟩
   have az:y∈D:=by rw [<- I];simp [List.getD,r]
   have av:=a7 y az;have hb:=av.bd (by omega);have cg:=av.bh;obtain ⟨p1,p2,p3⟩:=SS.ph id;have p2:x.HI.n=O.length:=p2;rw [I];refine ⟨_,rfl,_,_,_,ae SS.at rfl,?_⟩;rw [Ax hb.1 hb.2];refine p1.st (i:=bh y) (n:=x.HI.n) y rfl rfl (by omega) p2 (by omega) λb5 a_ a'=>?_;have Q:=SS.phase (by show (O.set _ _).length=O.length;simp) a_ a';refine ⟨_,rfl,_,ae Q.1.at rfl,(Q.1.push (v:=bh y) (by omega) (by omega)).mono ?_⟩;rintro e b6 ⟨b8,rfl,bc,a6,bb⟩;refine ⟨_,rfl,_,?_,t+1,bc,_,_,wN,by omega,rfl,a6,(X.trans Q.2).trans bb,by simp [ap],λv hv=> .inl (ag v hv),λj hj=>?_⟩
   . omega
   . by_cases e:j=t
     . subst e;rw [I];exact .inr rfl
     . exact .inl (aa j (by omega))
 . have r:t=D.length:=by simp at r;omega
   refine ⟨rfl,L1,S1,O,SS,(k3.trans U).trans X,ap,ag,λy I hn=>?_⟩;have bg:y∈D:=by
    have ar:m=((x.s.R .tr).take kk).length:=by rw [<- ek,em]
    have hk:(x.s.R .tr).take kk=(x.s.R .tr).take m:=by
     rw [GD] at ar;rw [ar,List.take_eq_take_iff];omega
    rw [ek,hk] at hn;rw [hD];have:=Vi m (x.s.R .tr);rw [<- this] at I;rcases F'.1 I with I|I
    . exact absurd I hn
    . exact I
   obtain ⟨j,hj,ej⟩:=I'.1 bg;have:=aa j (by omega);rw [show D.getD j 0=y by simp [List.getD,hj,ej]] at this;exact this
end
section
open Go.LeP
variable {w0 w w' w1 w2:World} {B N:Nat} {L L':Nat->Nat} {x:Xs} {l:List Int}
structure HO (w0 w:World) (L:Nat->Nat) (N:Nat) (hb:Nat) (S:Int->Prop) (z:Hp.HS):Prop where
 r:Hp.cN w hb z
 g:Hp.o_ z N
 m:∀u:Int,1<=u->u<=N->(0<HeapP.g z.at_ u↔S u)
 f:∀k,z.cq hb k->L k=3/\w0.heap.size<=k
theorem SR.T8 (h:SR w0 w B L N x) {z:Hp.HS} (o:HO w0 w L N x.hb x.S z):Calls prog eO.id #[Hp.ptr x.hb] w λe w'=>
 (z.l.length=0/\e=.returned (.tuple #[.i 0,.bool false])/\ak w w')\/
 ∃v:Int,e=.returned (.tuple #[.i v,.bool true])/\1<=v/\v<=N/\x.S v/\∃L' J,SR w0 w' B L' N {x with S:=λu=>x.S u/\u≠v}/\Kp w0 w w' L L'/\HO w0 w' L' N x.hb (λu=>x.S u/\u≠v) J/\J.l.length+1=z.l.length:=by
 by_cases O:z.l.length=0
 . refine (Hp.QD o.r O).mono ?_;rintro e w' ⟨rfl,_,g⟩;exact .inl ⟨O,rfl,g⟩
 . refine (Hp.R0 o.r o.g O).mono ?_;rintro e w' ⟨rfl,J,Q,X,y3,Z,y5,Y⟩;have hf:=o.g.ok.pos.yh 0 (by omega) (by omega);have hm:∀u:Int,1<=u->u<=N->(0<HeapP.g J.at_ u↔x.S u/\u≠HeapP.g z.l 0):=λu U V=>by rw [y3.has u U V,o.m u U V]
   have:=h.heap o.f o.r.lt Q X hm y5 (λk I=> .inl (by rw [<- Y];exact I));refine .inr ⟨_,rfl,hf.1,hf.2.1,(o.m _ hf.1 hf.2.1).1 (by rw [hf.2.2];omega),_,J,this.1,this.2,⟨Q,X,hm,λk I=>?_⟩,Z⟩;rw [Y] at I;rw [dD (o.r.lt k I)];exact o.f k I
theorem SR.value (h:SR w0 w B L N x) (g:aN x.s) (v:Int):Calls prog fH.id #[ck x.pb,.i v] w λe w'=>e=.returned (.i (x.s.value v))/\ak w w':=by
 obtain ⟨H,pm,_⟩:=h.pm id;exact yL pm g.wf v
theorem D8 {s:aI} (g:aN s) {v:Int} (hv:dN s.vars v):s.value v=s.val v:=by
 unfold aI.value;rw [if_pos ((jc g.eG).2 hv)]
theorem SR.H6 (h:SR w0 w B L N x) (g:aN x.s) {v:Int} (hv:dN x.s.vars v) (I:x.s.val v=0):Calls prog eQ.id #[ck x.pb,.i v] w λe w'=>∃r:Int,e=.returned (.i r)/\∃L',SR w0 w' B L' N {x with s:=x.s.decide v}/\Kp w0 w w' L L':=by
 obtain ⟨H,pm,hl⟩:=h.pm id;refine (wL pm g v).mono ?_;rintro e w' ⟨r,rfl,J,⟨_,_,_,p⟩| ⟨_,hn,_⟩⟩
 . have:=h.wV hl pm.lt p;exact ⟨_,rfl,_,this.1,this.2⟩
 . exact absurd ⟨hv,I⟩ hn
theorem Hs (h:SR w0 w B L N x) {K:World->Prop} (V:∀w',SR w0 w' B L N {x with m:= {x.m with de:=i64.wrap (x.m.de+1)}}->Kp w0 w w' L L->K w'):
 ∃a22,(some (qw B))=some a22/\∃J,w.cell? ((a22.add 14).add 4)=some (.i J)/\
  ∃O,(some (qw B))=some O/\∃I,bB ((O.add 14).add 4) 0 [.i (i64.wrap (J+ (1:Int)))] w I/\K I:=by
 refine ⟨_,rfl,_,bK h.at rfl,_,rfl,?_⟩;refine ju h.at rfl rfl λI U Q=>?_;have:=h.own (m':= {x.m with de:=i64.wrap (x.m.de+1)}) U Q;exact V _ this.1 this.2
theorem Fu {s:aI} {v u:Int} (g:aN s) (hv:dN s.vars v) (J:s.val v=0) (hu:dN s.vars u):(s.decide v).val u=0->s.val u=0/\bh u≠bh v:=by
 intro h;have I:=oX g hv J;obtain ⟨a,b⟩:=(js I (x:=u) hu).1 h;rw [wq] at a b;refine ⟨(js g hu).2 ⟨λm=>a (UW _ m),λm=>b (UW _ m)⟩,λe=>?_⟩;rcases wQ e with e|e
 . subst e;exact a (by simp)
 . subst e;rw [U_] at b;exact b (by simp)
theorem FU (h:SR w0 w B L N x) (g:aN x.s) (hv:x.s.vars=N) (hN:N<=1000) (b3:x.ph.length=N+1) (hi:Cv N x.s x.S):Calls prog dH.id #[ck B] w λe w'=>∃r:Bool,e=.returned (.bool r)/\
 ∃L' S',Kp w0 w w' L L'/\((r=false/\(∀v:Int,1<=v->v<=N->x.s.val v≠0)/\SR w0 w' B L' N {x with S:=S'})\/
  (r=true/\∃v,dN N v/\x.s.val v=0/\Cv N (x.s.decide v) S'/\SR w0 w' B L' N {x with s:=x.s.decide v,S:=S',m:= {x.m with de:=i64.wrap (x.m.de+1)}})):=by
 refine dH.aj ?_;obtain ⟨z0,z1,z2,z3,z4⟩:=h.hp id;refine ⟨λu k=>∃L1 X z,SR w0 u B L1 N {x with S:=X}/\Kp w0 w u L L1/\HO w0 u L1 N x.hb X z/\z.l.length=k/\Cv N x.s X,⟨_,L,x.S,z0,h,Kp.refl,⟨z1,z2,z3,z4⟩,rfl,hi⟩,?_⟩;rintro u k _ ⟨L1,X,z,SS,kk,ho,rfl,hc⟩;refine ⟨_,rfl,_,ae SS.at rfl,(SS.T8 ho).mono ?_⟩;rintro e w7 (⟨h0,rfl,g7⟩| ⟨v,rfl,v1,v2,bv,L7,z7,S7,k7,o7,bf⟩)
 . refine ⟨_,_,rfl,bP rfl ⟨false,rfl,L1,X,kk.trans (mI.grow g7),.inl ⟨rfl,λv v1 v2 aT=>?_,SS.grow g7⟩⟩⟩;have hm:=(ho.m v v1 v2).2 (hc v v1 v2 aT);have:=(ho.g.ok.pos.bW v v1 v2).2.1;omega
 . have J:dN x.s.vars v:=⟨by omega,by omega,by omega⟩
   refine ⟨_,_,rfl,bA rfl ⟨_,rfl,_,ae S7.at rfl,(S7.value g v).mono ?_⟩⟩;rintro e bg ⟨rfl,O⟩;have Y:aI.value x.s v=x.s.val v:=D8 g J;refine ⟨_,rfl,?_⟩;show aF (x.s.value v !=0) _ _;rw [Y];have I:=S7.grow O;refine ah (λr=>?_) (λr=>?_)
   . have r:x.s.val v≠0:=by simpa using r
     refine ⟨_,?_,L7,_,z7,I,(kk.trans k7).trans (mI.grow O),⟨o7.r.grow O,o7.g,o7.m,o7.f⟩,rfl,λu u1 u2 hu=>⟨hc u u1 u2 hu,λe=>r (by rw [<- e];exact hu)⟩⟩;omega
   . have r:x.s.val v=0:=by simpa using r
     obtain ⟨p1,p2,p3⟩:=I.ph id;have p2:x.HI.n=x.ph.length:=p2;have dG:∀ {w':World} {L':Nat->Nat} {y:Int},bh y=v->dN x.s.vars y->x.s.val y=0->Kp w0 w w' L L'->SR w0 w' B L' N {x with s:=x.s.decide y,S:=λu=>X u/\u≠v,m:= {x.m with de:=i64.wrap (x.m.de+1)}}->∃r:Bool,Ending.returned (.bool true)=.returned (.bool r)/\
      ∃L' S',Kp w0 w w' L L'/\((r=false/\(∀v:Int,1<=v->v<=N->x.s.val v≠0)/\SR w0 w' B L' N {x with S:=S'})\/
      (r=true/\∃v,dN N v/\x.s.val v=0/\Cv N (x.s.decide v) S'/\SR w0 w' B L' N {x with s:=x.s.decide v,S:=S',m:= {x.m with de:=i64.wrap (x.m.de+1)}})):=by
      intro w' L' y ey hy h0 kp sr;refine ⟨true,rfl,L',_,kp,.inr ⟨rfl,y,by rw [<- hv];exact hy,h0,λu u1 u2 hu=>?_,sr⟩⟩;have ag:dN x.s.vars u:=⟨by omega,by omega,by omega⟩
      obtain ⟨a,b⟩:=Fu g hy h0 ag hu;refine ⟨hc u u1 u2 a,λe=>b ?_⟩;rw [e,ey];unfold bh;rw [if_neg (by omega)]
     refine ⟨_,rfl,_,_,_,ae I.at rfl,p1.ix 0 (by omega) p2 (by omega) λa ha=>⟨_,ha,?_⟩⟩;have Q:=(kk.trans k7).trans (mI.grow O);refine ah (λ_=>?_) (λ_=>?_)
     . refine ⟨_,rfl,_,ae I.at rfl,(I.H6 g J r).mono ?_⟩;rintro e a7 ⟨ax,rfl,aw,U,V⟩;refine ⟨_,rfl,Hs U λw' S' k'=>?_⟩;exact dG (by unfold bh;rw [if_neg (by omega)]) J r ((Q.trans V).trans k') S'
     . have ew:i64.wrap (0 - v)= -v:=by rw [aA (by omega) (by omega)];omega
       rw [ew];have Z:x.s.val (-v)=0:=by rw [pq J];omega
       refine ⟨_,rfl,_,ae I.at rfl,(I.H6 g J.neg Z).mono ?_⟩;rintro e a7 ⟨ax,rfl,aw,U,V⟩;refine ⟨_,rfl,Hs U λw' S' k'=>?_⟩;exact dG (by unfold bh;rw [if_pos (by omega)];omega) J.neg Z ((Q.trans V).trans k') S'
theorem xX:nE prog aE aq 8=true:=by kernel_rfl
def nC (s:aI) (n:Nat):List Int:=(List.range n).map λi:Nat=>s.val ((i:Int)+1)
theorem Js {s:aI} {n:Nat}:nC s (n+1)=nC s n++ [s.val ((n:Int)+1)]:=by unfold nC;rw [WA,LV];rfl
theorem N6 (h:SR w0 w B L N x) (g:aN x.s) (hv:x.s.vars=N) (hN:N<=1000) (hn:x.m.n=N) (ag:x.mo= []):Calls prog iJ.id #[ck B] w λe w'=>e=.returned (.tuple #[])/\
 ∃L' q,SR w0 w' B L' N {x with m:= {x.m with dU:=1},ps:=Sl.nil,pr:= [],ms:=q,mo:=nC x.s N}/\Kp w0 w w' L L':=by
 refine iJ.aj ⟨_,rfl,?_⟩;refine ju h.at rfl rfl λw2 h2 m2=>?_;obtain ⟨S2,k2⟩:=h.own (m':= {x.m with dU:=1}) h2 m2;refine ⟨_,rfl,ju S2.at rfl rfl λw4 h4 m4=>?_⟩;have P4:=S2.MX (q:=Sl.nil) (pr':= []) (aD.refl w2|>.mono λ_ _ e=>e) (Row.nil _ _ _ _) rfl (λk hk=>by simp [aG,Sl.nil] at hk) (λu hu=>by simp at hu) h4 m4 (by simp [aG,Sl.nil]);obtain ⟨S4,k4⟩:=P4;refine ⟨λV u k=>∃ (t:Nat) (L':Nat->Nat) (q:Sl),V=(t:Int)+1/\t<=N/\k=N - t/\SR w0 u B L' N {x with m:= {x.m with dU:=1},ps:=Sl.nil,pr:= [],ms:=q,mo:=nC x.s t}/\Kp w0 w u L L',
  ⟨_,0,_,x.ms,rfl,vx _,rfl,by have:nC x.s 0=x.mo:=(by rw [ag];rfl);rw [this];exact S4,k2.trans k4⟩,?_⟩
 rintro V u k _ ⟨t,L1,q,rfl,ht,rfl,SS,kk⟩;refine ⟨_,rfl,_,bK SS.at rfl,?_⟩;show aF (decide ((t:Int)+1<=x.m.n)) _ _;rw [hn];refine ah (λr=>?_) (λr=>?_)
 . have r:t<N:=by simp at r;omega
   have D:=SS.drew;refine ⟨λv=>ak u.drew v,aD.refl _,_,rfl,_,_,_,λv gv=>bK (D.at.grow gv) rfl,_,rfl,_,λv gv=>ae (D.at.grow gv) rfl,(D.value g _).mono ?_⟩;rintro e aT ⟨rfl,J⟩;have ap:dN x.s.vars ((t:Int)+1):=⟨by omega,by omega,by omega⟩
   refine ⟨_,rfl,J,λbu bg O=>⟨J.trans O.mod,?_⟩⟩;have I:=D.new (J.trans O.mod) 9;obtain ⟨p1,p2,p3⟩:=I.mo id;have hl:(nC x.s t).length=t:=by simp [nC]
   refine Ow.lP xX p1 (x.s.val ((t:Int)+1)) O.has (by show Value.int .i64 (x.s.value _)=_;rw [D8 g ap]) p2 fz (by rw [hl];omega) λU p' c' Q X Y a6=>⟨_,rfl,?_⟩
   have an:bT U B _:=I.at.keep X λe=>by have:=(p3 B e).1;rw [I.ml.1] at this;exact absurd this (by decide)
   refine ju an rfl rfl λbb Z aa=>?_;have Q:dz aq U p' c' (nC x.s (t+1)):=by rw [Js];exact Q
   have:=I.Tr (q:=⟨p',(nC x.s t).length+1,c'⟩) (mo':=nC x.s (t+1)) X Q (by simp [nC]) (E3 Y (y4 _)) Z aa (I.Ti (by decide) p3 Y (y4 _));refine ⟨_,?_,t+1,_,_,?_,by omega,rfl,this.1,((kk.trans (mI.grow (aD.refl u).drew)).trans (mI.new (J.trans O.mod) 9)).trans this.2⟩
   . omega
   . rw [aA (by omega) (by omega)];omega
 . have r:t=N:=by simp at r;omega
   subst r;exact ⟨rfl,L1,q,SS,kk⟩
end
end Go.Proofs.YtbdghpjnifjlmaaGreat.W
