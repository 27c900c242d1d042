/- Layer 1: clauses in order, and what is resolved. -/
import Derived.Test.YtbdghpjnifjlmaaGreatSortA
import Derived.Test.YtbdghpjnifjlmaaGreatFwRead
import Derived.Test.YtbdghpjnifjlmaaGreatFwMem
import Derived.Maps.Own
import Derived.Maps.OwnSet
import Derived.Maps.Range
set_option linter.unusedVariables false
namespace Go.Proofs.YtbdghpjnifjlmaaGreat.W
open Go Go.Fw Go.RowKit Go.SoP Go.LiP
open Go.Proofs.Tryz (prog)
section
variable {w:World} {p q:sn} {n c:Nat} {l:List Int}
theorem GN (h:Vw sT w p l) (hn:n=l.length) (hm:n<=maxLen) (hl:∀x∈l,bU x=true):Calls prog gQ.id #[.slice p n c] w λe w'=>e=.returned (.bool (lO l))/\ak w w':=by
 refine gQ.aj ?_;have O:=hm;unfold maxLen at O;refine ⟨λI w' k=>∃t:Nat,I=t/\t<=l.length/\k=l.length - t/\(∀x∈l.take t,-x ∉ l)/\ak w w',⟨_,0,rfl,vx _,rfl,by simp,aD.refl w⟩,?_⟩;rintro I w1 k _ ⟨t,rfl,ht,rfl,ha,G⟩;refine ah (λs=>?_) (λs=>⟨?_,G⟩)
 . have s:t<l.length:=by simp at s;omega
   refine (h.grow G).ix 0 (by omega) hn (by omega) λa e=>⟨_,e,?_⟩
   rw [tn];have hb:=cJ (hl _ (bN s));have V:IntKind.i64.wrap (0 - l.getD t 0)= -(l.getD t 0):=by rw [aA (by omega) (by omega)];omega
   try dsimp only
   rw [V];refine (y_ (h.grow G) hn hm _).mono ?_;rintro e w2 ⟨rfl,U⟩;refine ⟨_,rfl,ah (λJ=>⟨?_,G.trans U⟩) (λJ=>⟨_,?_,t+1,wN,by omega,rfl,?_,G.trans U⟩)⟩
   . have J: -(l.getD t 0)∈l:=by simpa using J
     have:lO l=true:=VI.2 ⟨_,bN s,by simpa using J⟩;rw [this]
   . omega
   . have J: -(l.getD t 0) ∉ l:=by simpa using J
     intro x Q;rcases (dJ s).1 Q with e|e
     . exact ha x e
     . rw [e];exact J
 . have:t=l.length:=by simp at s;omega
   subst this;rw [K'] at ha;have:lO l=false:=by
    rw [<- U5];intro h;obtain ⟨x,Q,X⟩:=VI.1 h;exact ha x Q (by simpa using X)
   rw [this]
theorem jH {W0:World} {l:List Int} (o:dz aq w p c l) (G:ak W0 w) (fr:∀b,aG p=some b->W0.heap.size<=b) {m k:Nat} {news:List Int} (v:Vw sT w q news) (hn:n=l.length) (hm:m=news.length) (hlen:l.length+news.length<=1000000) {K:World->sn->Nat->Nat->Prop}
 (O:∀w' I c',dz aq w' I c' (l++news)->ak W0 w'->(∀b,aG I=some b->W0.heap.size<=b)->K w' I (l++news).length c'):
 ∃w',∃I n' c',(Builtin.append_ #[aE,aE] aE #[.slice p n c,.slice q m k]).run prog w=.ok (.slice I n' c') w'/\K w' I n' c':=by
 refine o.tD c9 v hn hm fz (by omega) λw2 p2 Q o2 m2 J U=>?_;refine O w2 p2 Q o2 (G.then m2 λb hb e=>?_) λb hb=>?_
 . have:=fr b e;omega
 . rcases J with rfl|rfl
   . exact fr b hb
   . have:=aL hb;have:=G.size;omega
theorem Ql (p:sn):p.map (·.add (0*1))=p:=by cases p<;>simp [Addr.add]
theorem Vw.SQ (h:Vw sT w p l) {k:Nat} (I:k<=l.length):Vw sT w p (l.take k):=by
 have:=h.part (i:=0) (m:=k) (by omega)
 rwa [Ql,W5] at this
theorem E8 (h:Vw sT w p l) (hn:n=l.length) (hm:n<=100000) (hl:∀x∈l,bU x=true):Calls prog dX.id #[.slice p n c] w λe w'=>∃ (q:sn) (d:Nat),e=.returned (.slice q (aY l).length d)/\dz aq w' q d (aY l)/\ak w w'/\(∀b,aG q=some b->w.heap.size<=b):=by
 refine dX.aj ?_;intro n1 w1 h1;have e1:=h1.num;refine ⟨λP N C I w' k=>∃t:Nat,I=t/\t<=n/\k=n - t/\N=(ff l t).length/\dz aq w' P C (ff l t)/\ak w w'/\(∀b,aG P=some b->w.heap.size<=b),⟨_,0,rfl,vx _,rfl,rfl,jI.Ap h1,h1.mod,λb hb=>by have:=aL hb;omega⟩,?_⟩;rintro P N C I w2 k _ ⟨t,rfl,ht,rfl,rfl,o2,g2,f2⟩;refine ah (λs=>?_) (λs=>?_)
 . have s:t<n:=by simpa using s
   have sl:t<l.length:=by omega
   have hx:=hl _ (bN sl);have dh:=rj (c:=l) t;have O:(ff l t).length<=C\/ff l t= []:=by
    rcases o2.un with ⟨_,_,h⟩| ⟨_,_,_,_,h,_⟩
    . exact .inr h
    . exact .inl h
   refine (h.grow g2).ix 0 (by omega) hn (by omega) λa e=>⟨_,e,?_⟩
   rw [tn];refine (y_ o2.vw rfl (by unfold maxLen;omega) _).mono ?_;rintro e w3 ⟨rfl,g3⟩;have G3:=g2.trans g3;have o3:=o2.grow g3;have es:ff l (t+1)=if l.getD t 0∈ff l t then ff l t else D2 (ff l t) (l.getD t 0):=rfl
   refine ⟨_,rfl,ah (λs2=>?_) (λs2=>?_)⟩
   . have s2:l.getD t 0∈ff l t:=by simpa using s2
     rw [if_pos s2] at es;refine ⟨_,?_,t+1,wN,by omega,rfl,by rw [es],by rw [es];exact o3,G3,f2⟩;omega
   . have s2:l.getD t 0 ∉ ff l t:=by simpa using s2
     rw [if_neg s2] at es;have cp:∀y∈ff l t,bU y=true:=λy hy=>hl y (UN ((zT (c:=l) (k:=t) (by omega)).mem y|>.1 hy));have put:∀ {w4:World} {at_:Nat},ak w w4->at_=l9 (ff l t) (l.getD t 0)->dz aq w4 P C (ff l t)->
      ∀n24 ac,jI (.cells #[] 3) w4 n24 ac->
       pw P (ff l t).length C 1 none (some (at_:Int)) none λa8 bg a_=>
       ∃V av ay aw,(Builtin.append_ #[aE,aE] aE #[.slice (some (qw n24)) 0 0,.slice a8 bg a_]).run prog ac=.ok (.slice av ay aw) V/\
       aW p n (t:Int) 1 λcg=>
       ∃bv,V.cell? cg=some (.i bv)/\
       ∀Z an,jI (.cells #[.i bv] 3) V Z an->
       ∃U ap ax a6,(Builtin.append_ #[aE,aE] aE #[.slice av ay aw,.slice (some (qw Z)) 1 1]).run prog an=.ok (.slice ap ax a6) U/\
       pw P (ff l t).length C 1 (some (at_:Int)) none none λbk bc bb=>
       ∃ag Q az ar,(Builtin.append_ #[aE,aE] aE #[.slice ap ax a6,.slice bk bc bb]).run prog U=.ok (.slice Q az ar) ag/\
       ∃k5,k5<n - t/\∃t2:Nat,IntKind.i64.wrap ((t:Int)+1)=t2/\t2<=n/\k5=n - t2/\az=(ff l t2).length/\dz aq ag Q ar (ff l t2)/\ak w ag/\(∀b,aG Q=some b->w.heap.size<=b):=by
      intro w4 at_ g4 b6 o4 n24 ac X;have hp:at_<=(ff l t).length:=by rw [b6];exact yB _ _
      have hC:at_<=C:=by
       rcases O with h|h
       . omega
       . rw [h] at hp;simp at hp;omega
      have b3:D2 (ff l t) (l.getD t 0)=(ff l t).take at_++ [l.getD t 0]++ (ff l t).drop at_:=by rw [b6];rfl
      have dc:=X.num;have s4:=g4.size;have co:=o4.grow X.mod;refine eh 0 at_ C rfl rfl rfl (y4 _) hC (vx _) ?_;have ep:(if C=0 then P else P.map (·.add (0*1)))=P:=by rw [Ql];split<;>rfl
      rw [ep,Ve,Ve];have ov:dz aq ac (some ⟨n24,0,none⟩) 0 []:=jI.Ap X;have Y:((ff l t).take at_).length=at_:=by rw [GD];omega
      refine jH (W0:=w4) ov X.mod (λb hb=>by have:=aL hb;omega) (Vw.SQ co.vw hp) rfl Y.symm (by rw [Y];simp;omega) λV dk c7 b5 bx f27=>?_;rw [Vh] at b5 ⊢;refine ((h.grow (g4.trans bx))).ix 0 (by omega) hn (by omega) λa e=>⟨_,e,?_⟩
      rw [tn];intro Z an aa;have dd:=aa.num;have b_:Vw sT an (some ⟨Z,0,none⟩) [l.getD t 0]:=by
       intro j hj;have:j=0:=by simpa using hj
       subst this;exact ⟨_,rfl,ae aa.has rfl⟩
      have b':((ff l t).take at_++ [l.getD t 0]).length=at_+1:=by rw [UH,Y];rfl
      refine jH (W0:=w4) (b5.grow aa.mod) (bx.trans aa.mod) f27 b_ rfl rfl (by rw [Y];simp;omega) λU d5 dq cb b7 f33=>?_;refine eh at_ (ff l t).length C rfl rfl rfl (y4 _) (by rcases O with h|h;omega;rw [h];exact vx _) hp ?_;have ld:((ff l t).drop at_).length=(ff l t).length - at_:=U0;have vd:Vw sT U (if C=at_ then P else P.map (·.add (at_*1))) ((ff l t).drop at_):=by
       by_cases e:at_=(ff l t).length
       . rw [e,V6];exact Vw.nil
       . have c3:(ff l t).length<=C:=by
          rcases O with h|h
          . exact h
          . rw [h] at hp e;simp at hp;simp [hp] at e
         rw [if_neg (by omega)];have:=(o4.grow b7).vw.part (i:=at_) (m:=(ff l t).length - at_) (by omega)
         rwa [UM (by rw [ld];exact y4 _)] at this
      refine jH (W0:=w4) cb b7 f33 vd rfl ld.symm (by rw [b',ld];omega) λag c2 dp bY ce f36=>?_;rw [<- b3] at bY ⊢;refine ⟨_,?_,t+1,wN,by omega,rfl,by rw [es],by rw [es];exact bY,g4.trans ce,λb hb=>by have:=f36 b hb;omega⟩;omega
     refine ⟨λJ w' k=>∃j:Nat,J=j/\j<=(ff l t).length/\k=(ff l t).length - j/\(∀i,i<j->pN ((ff l t).getD i 0) (l.getD t 0)<0)/\ak w3 w',⟨_,0,rfl,vx _,rfl,λi hi=>by omega,aD.refl w3⟩,?_⟩;rintro J w4 k _ ⟨j,rfl,hj,rfl,bi,g4⟩;have G4:=G3.trans g4;have o4:=o3.grow g4;refine ah (λr=>?_) (λr=>?_)
     . have r:j< (ff l t).length:=by simpa using r
       refine o4.drew.ix 0 (by omega) rfl (by omega) λa e=>⟨_,e,(h.grow G4).drew.ix 0 (by omega) hn (by omega) λa e=>⟨_,e,?_⟩⟩
       rw [tn,tn];refine (Ng (cp _ (bN r)) hx _).mono ?_;rintro e w5 ⟨rfl,g5⟩;refine ⟨_,rfl,ah (λr2=>⟨_,?_,j+1,wN,by omega,rfl,λi hi=>?_,g4.drew.trans g5⟩) (λr2=>?_)⟩
       . omega
       . have r2:pN ((ff l t).getD j 0) (l.getD t 0)<0:=by simpa using r2
         by_cases e:i=j
         . subst e;exact r2
         . exact bi i (by omega)
       . have r2: ¬pN ((ff l t).getD j 0) (l.getD t 0)<0:=by simpa using r2
         exact put (G4.drew.trans g5) (Bx bi hj λ_=>r2) (o4.drew.grow g5)
     . have r:j=(ff l t).length:=by simp at r;omega
       exact put G4.drew (Bx bi hj λh=>by omega) o4.drew
 . have s:t=l.length:=by simp at s;omega
   subst s;exact ⟨P,C,rfl,o2,g2,f2⟩
theorem xn (h:Vw sT w p l) (hn:n=l.length) (hm:n<=100000) (hl:∀x∈l,bU x=true):Calls prog dX.id #[.slice p n c] w λe w'=>∃ (q:sn) (d:Nat),e=.returned (.slice q (aY l).length d)/\dz aq w' q d (aY l)/\ak w w':=by
 refine (E8 h hn hm hl).mono ?_;rintro e w' ⟨q,d,rfl,o,g,_⟩;exact ⟨q,d,rfl,o,g⟩
end
section
variable {w:World} {p q:sn} {n c:Nat} {l:List Int}
theorem MC (o:dz aq w p c l) (hn:n=l.length) (hm:n<=100000) (hl:∀x∈l,bU x=true) {K:Ending->World->Prop}
 (J:∀w',dz aq w' p c (aY l)->aD (Bk p) w w'->K (.returned (.slice p (aY l).length c)) w'):
 Calls prog kH.id #[.slice p n c,.func (.func jv.id) #[] #[]] w λe w1=>e=.returned (.tuple #[])/\Calls prog cO.id #[.slice p n c] w1 K:=by
 have X:Cx w p n l jv.id #[] pN:=by
  refine ⟨hn,by omega,GF,λx U y O w' _=>?_,vt⟩;have:(#[]++ #[Value.int .i64 x,.i y]++ #[]:Array Value)= #[.i x,.i y]:=by simp
  rw [this];exact IM (hl x U) (hl y O) w'
 refine (Dj X o).mono ?_;rintro e w1 ⟨rfl,l1,o1,m1,I,Q⟩;refine ⟨rfl,(F5 o1 (by rw [hn,I.length_eq]) (by omega)).mono ?_⟩;rintro e w2 ⟨rfl,o2,m2⟩;have:yD l1 l1.length=aY l:=(Ph I Q).Er (c6 l);rw [this] at o2 ⊢;exact J w2 o2 (m1.trans m2)
theorem Ip {l:List Int} (h:jf l=true):∀x∈l,bU x=true:=(cy h).1
theorem Kv (hl:∀x∈l,bU x=true):∀x∈aY l,bU x=true:=λx I=>hl x (((c6 l).mem x).1 I)
theorem HE (h:Vw sT w p l) (hn:n=l.length) (hm:n<=maxLen):Calls prog qA.id #[.slice p n c] w λe w'=>∃ (q:sn) (d:Nat) (m:List Int),m=(if jf l then aY l else [])/\e=.returned (.tuple #[.slice q m.length d,.bool (jf l && lO l)])/\dz aq w' q d m/\ak w w'/\(∀b,aG q=some b->w.heap.size<=b):=by
 refine qA.aj ?_;refine (gj h hn hm).mono ?_;rintro e w1 ⟨rfl,Q⟩;cases hc:jf l with
 |false=>exact ⟨_,rfl,bP rfl ⟨none,0,[],rfl,rfl,Ow.nil _ _ _,Q,λb e=>by simp [aG] at e⟩⟩
 |true=>
 have J:=Ip hc;have hlen:=(cy hc).2;refine ⟨_,rfl,bA rfl ((iQ (h.grow Q) hn (by omega)).mono ?_)⟩;rintro e w2 ⟨q,d,rfl,o2,g2,f2⟩;refine ⟨_,_,_,rfl,MC o2 rfl (by omega) J λw4 o4 m4=>?_⟩;have g4:ak w w4:=(Q.trans g2).then m4 λb hb e=>by
  have:=f2 b e;have:=Q.size;omega
 have fq:∀b,aG q=some b->w.heap.size<=b:=λb e=>by have:=f2 b e;have:=Q.size;omega
 have az:=p9 l;have nz:∀x∈l,x≠0:=λx hx=> (cJ (J x hx)).1;have ta:=ND (c6 l) nz;refine ⟨_,_,_,rfl,λI w' k=>∃t:Nat,I=t/\1<=t/\(∀i,0<i->i<t->i< (aY l).length->(aY l).getD i 0≠ -((aY l).getD (i - 1) 0))/\k=(aY l).length - t/\dz aq w' q d (aY l)/\ak w w',⟨_,1,rfl,y4 _,λi V X=>by omega,rfl,o4,g4⟩,?_⟩;rintro I w5 k _ ⟨t,rfl,t1,ha,rfl,U,Y⟩;refine ah (λs=>?_) (λs=>?_)
 . have s:t< (aY l).length:=by simpa using s
   have e1:IntKind.i64.wrap ((t:Int) - 1)=((t - 1:Nat):Int):=wN;rw [e1];refine U.drew.ix 0 (by omega) rfl (by omega) λa e=>⟨_,e,U.drew.ix 0 (by omega) rfl (by omega) λa e=>⟨_,e,?_⟩⟩
   rw [tn,tn];have hb:=cJ (Kv J _ (bN (l:=aY l) (t:=t - 1) (by omega)));have ew:IntKind.i64.wrap (0 - (aY l).getD (t - 1) 0)= -((aY l).getD (t - 1) 0):=by rw [aA (by omega) (by omega)];omega
   try dsimp only
   rw [ew];refine ah (λO=>?_) (λO=>⟨_,?_,t+1,wN,by omega,λi V X Z=>?_,rfl,U.drew,Y.drew⟩)
   . have O:(aY l).getD t 0= -((aY l).getD (t - 1) 0):=by simpa using O
     have:lO l=true:=ta.2 ⟨t,by omega,s,O⟩;exact ⟨q,d,aY l,rfl,by rw [this];rfl,U.drew,Y.drew,fq⟩
   . omega
   . have O:(aY l).getD t 0≠ -((aY l).getD (t - 1) 0):=by simpa using O
     by_cases e:i=t
     . subst e;exact O
     . exact ha i V (by omega) Z
 . have s:(aY l).length<=t:=by simp at s;omega
   have:lO l=false:=by
    rw [<- U5];intro h;obtain ⟨i,V,X,Z⟩:=ta.1 h;exact ha i V (by omega) X Z
   exact ⟨q,d,aY l,rfl,by rw [this];rfl,U,Y,fq⟩
def wo (l:List Int) (x:Int):List Int:=l.filter λy=>y !=x
theorem uy (h:Vw sT w p l) (hn:n=l.length) (hm:n<=maxLen):Calls prog qA.id #[.slice p n c] w λe w'=>∃ (q:sn) (d:Nat) (m:List Int),m=(if jf l then aY l else [])/\e=.returned (.tuple #[.slice q m.length d,.bool (jf l && lO l)])/\dz aq w' q d m/\ak w w':=
 (HE h hn hm).mono λ_ _ ⟨q,d,m,J,I,o,g,_⟩=>⟨q,d,m,J,I,o,g⟩
theorem Qu {x:Int}:(wo l x).length<=l.length:=Vs _ _
end
section
variable {w:World} {p q:sn} {n c:Nat} {l:List Int}
theorem KE {m:List Int} {l:Int} (h:bU l=true):iz m (-l)= -iz m l:=by
 have hb:=cJ h;have I:bU (-l)=true:=by unfold bU;exact decide_eq_true (by omega)
 have ha:bh (-l)=bh l:=by unfold bh;split<;>split<;>omega
 unfold iz;rw [h,I,ha];split
 . rfl
 . split
   . rfl
   . generalize m.getD (bh l - 1).toNat 0=z at*
     by_cases h1:z>0<;>by_cases J:l>0<;>by_cases O: -l>0<;>simp [h1,J]<;>omega
end
end Go.Proofs.YtbdghpjnifjlmaaGreat.W
namespace Go.Fw
open Go Go.RowKit Go.Maps
section
variable {P:Program} {t k e:TypeId} {w w':World} {b n:Nat} {s:Int->Bool}
def vq (P:Program) (t k e:TypeId):Bool:=
 (match P.underlying t with|some (.map J I)=>Nat.beq J k && Nat.beq I e|_=>false) && (match P.underlying k with|some (.int .i64)=>true|_=>false) && (match P.underlying e with|some .bool=>true|_=>false) && (match P.info? e with|some i=> (match i.zero with|some (.bool false)=>true|_=>false)|none=>false)
theorem jA (h:vq P t k e=true):P.underlying t=some (.map k e)/\P.underlying k=some (.int .i64)/\P.underlying e=some .bool/\∀w,(zeroValue e).run P w=.ok (.bool false) w:=by
 simp only [vq,ts] at h;obtain ⟨⟨⟨h1,J⟩,O⟩,I⟩:=h;split at h1
 . rename_i U Q hu;simp only [ts] at h1;have Y:U=k:=UG h1.1;have X:Q=e:=UG h1.2;subst Y X;refine ⟨hu,?_,?_,?_⟩
   . split at J
     . assumption
     . simp at J
   . split at O
     . assumption
     . simp at O
   . intro w;split at I
     . rename_i i hi;split at I
       . rename_i V;unfold zeroValue;simp only [Sem.run_bind,eM hi,Result.andThen_ok,V,Sem.run_pure]
       . simp at I
     . simp at I
 . simp at h1
def MB (P:Program) (k e:TypeId) (w:World) (b n:Nat) (s:Int->Bool):Prop:=
 ∃D:DataW Unit,w.ownsMap P k (plainElem P e) b n D/\∀a:Int,D.atKey (.i a) (.lit (.bool false))=.lit (.bool (s a))
theorem MB.lt (h:MB P k e w b n s):b<w.heap.size:=by obtain ⟨D,h,_⟩:=h;exact h.lt
theorem MB.keep {S:Nat->Prop} (h:MB P k e w b n s) (m:aD S w w') (hs: ¬S b):MB P k e w' b n s:=by
 have hl:=h.lt;obtain ⟨D,⟨I,clock,hb,h⟩,J⟩:=h;exact ⟨D,⟨I,clock,(m.block b hl hs).trans hb,h⟩,J⟩
theorem MB.grow (h:MB P k e w b n s) (m:ak w w'):MB P k e w' b n s:=h.keep m id
theorem MB.F6 (h:MB P k e w b n s) {c:Nat} (m:aD (·=c) w w') (I:b≠c):MB P k e w' b n s:=h.keep m I
theorem MB.new {b:Nat} (h:jI (.map #[] 0) w b w'):MB P k e w' b 0 λ_=>false:=by
 obtain ⟨rfl,rfl⟩:=h;exact ⟨.map [],World.ownsMap_made w P k _,λa=>rfl⟩
theorem MB.cP (hm:vq P t k e=true) (h:MB P k e w b n s) {a:Int} (ha:(Lit.int .i64 a).wf=true):(Instr.lookup t (.map (some b)) (.i a) false).run P w=.ok (.bool (s a)) w:=by
 obtain ⟨ht,I,he,O⟩:=jA hm;obtain ⟨D,h,J⟩:=h;obtain ⟨v,ps,hr,hv⟩:=h.lookup (int_keyed I) ht (O w) (plainElem_bool he false) (keyOf_int_mk I ha);rw [J a] at hv;have:v=.bool (s a):=by
  unfold plainElem at hv;rw [he] at hv;cases v<;>simp_all
 rw [hr,this]
theorem MB.put (hm:vq P t k e=true) (h:MB P k e w b n s) (hn:n<maxLen) {a:Int} (ha:(Lit.int .i64 a).wf=true) (v:Bool):
 ∃w',(Instr.mapUpdate t (.map (some b)) (.i a) (.bool v)).run P w=.ok () w'/\MB P k e w' b (n+1) (λu=>if u=a then v else s u)/\aD (·=b) w w':=by
 obtain ⟨ht,O,he,V⟩:=jA hm;obtain ⟨D,h,U⟩:=h;have J:=h.isMap;obtain ⟨w',hr,Q,I⟩:=h.update (int_keyed O) ht hn (keyOf_int_mk O ha) (plainElem_bool (H:=Unit) he v);refine ⟨w',hr,⟨_,Q,λu=>?_⟩,⟨I.os,I.tape,I.output,I.size,λi hi hn=>I.block i hi λe=>hn (Vo e)⟩⟩;by_cases hu:u=a
 . subst hu;exact (atKey_put_same J (show WideAt.IsKeyLit (.i u) from trivial) _ _).trans (by simp)
 . exact ((atKey_put_other (λe=>hu (by injection e)) _ _).trans (U u)).trans (by simp [hu])
theorem A9 {a:Int} (h1: -9223372036854775808<=a) (I:a<9223372036854775808):(Lit.int .i64 a).wf=true:=by
 simp [Lit.wf,IntKind.min,IntKind.max,IntKind.signed,IntKind.bits];omega
end
section
variable {P:Program} {t k e:TypeId} {w w':World} {b r n ni:Nat} {s lf:Int->Bool}
def MS (P:Program) (k e:TypeId) (w:World) (b n:Nat) (s:Int->Bool):Prop:=
 ∃D:DataW Unit,w.ownsMap P k (plainElem P e) b n D/\(∀a:Int,D.atKey (.i a) (.lit (.bool false))=.lit (.bool (s a)))/\∀a:Int,Maps.has D (.i a)=s a
theorem MS.mb (h:MS P k e w b n s):MB P k e w b n s:=by obtain ⟨D,h1,I,_⟩:=h;exact ⟨D,h1,I⟩
theorem MS.lt (h:MS P k e w b n s):b<w.heap.size:=h.mb.lt
theorem MS.keep {S:Nat->Prop} (h:MS P k e w b n s) (m:aD S w w') (hs: ¬S b):MS P k e w' b n s:=by
 have hl:=h.lt;obtain ⟨D,⟨I,clock,hb,h⟩,J⟩:=h;exact ⟨D,⟨I,clock,(m.block b hl hs).trans hb,h⟩,J⟩
theorem MS.grow (h:MS P k e w b n s) (m:ak w w'):MS P k e w' b n s:=h.keep m id
theorem MS.new {b:Nat} (h:jI (.map #[] 0) w b w'):MS P k e w' b 0 λ_=>false:=by
 obtain ⟨rfl,rfl⟩:=h;exact ⟨.map [],World.ownsMap_made w P k _,λa=>rfl,λa=>rfl⟩
theorem MS.cP (hm:vq P t k e=true) (h:MS P k e w b n s) {a:Int} (ha:(Lit.int .i64 a).wf=true):(Instr.lookup t (.map (some b)) (.i a) false).run P w=.ok (.bool (s a)) w:=h.mb.cP hm ha
theorem MS.put (hm:vq P t k e=true) (h:MS P k e w b n s) (hn:n<maxLen) {a:Int} (ha:(Lit.int .i64 a).wf=true):
 ∃w',(Instr.mapUpdate t (.map (some b)) (.i a) (.bool true)).run P w=.ok () w'/\MS P k e w' b (n+1) (λu=>if u=a then true else s u)/\aD (·=b) w w':=by
 obtain ⟨ht,O,he,X⟩:=jA hm;obtain ⟨D,h,V,Q⟩:=h;have I:=h.isMap;obtain ⟨w',hr,U,J⟩:=h.update (int_keyed O) ht hn (keyOf_int_mk O ha) (plainElem_bool (H:=Unit) he true);refine ⟨w',hr,⟨_,U,λu=>?_,λu=>?_⟩,⟨J.os,J.tape,J.output,J.size,λi hi hn=>J.block i hi λe=>hn (Vo e)⟩⟩
 . by_cases hu:u=a
   . subst hu;exact (atKey_put_same I (show WideAt.IsKeyLit (.i u) from trivial) _ _).trans (by simp)
   . exact ((atKey_put_other (λe=>hu (by injection e)) _ _).trans (V u)).trans (by simp [hu])
 . by_cases hu:u=a
   . subst hu;exact (has_put_same I (show WideAt.IsKeyLit (.i u) from trivial) _).trans (by simp)
   . exact ((has_put_other (λe=>hu (by injection e)) _).trans (Q u)).trans (by simp [hu])
theorem MS.del (hm:vq P t k e=true) (h:MS P k e w b n s) {a:Int} (ha:(Lit.int .i64 a).wf=true) (ty:TypeId):
 ∃w',(Builtin.delete_ #[t,k] ty #[.map (some b),.i a]).run P w=.ok (.tuple #[]) w'/\MS P k e w' b n (λu=>if u=a then false else s u)/\aD (·=b) w w':=by
 obtain ⟨ht,J,he,V⟩:=jA hm;obtain ⟨D,h,U,O⟩:=h;obtain ⟨w',hr,Q,I⟩:=h.drop (int_keyed J) ht (keyOf_int_mk J ha) ty;have I:=I.grown;refine ⟨w',hr,⟨_,Q,λu=>?_,λu=>?_⟩,⟨I.os,I.tape,I.output,I.size,λi hi hn=>I.block i hi λe=>hn (Vo e)⟩⟩
 . by_cases hu:u=a
   . subst hu;exact (atKey_del_same _).trans (by simp)
   . exact ((atKey_del_other (λe=>hu (by injection e)) _).trans (U u)).trans (by simp [hu])
 . by_cases hu:u=a
   . subst hu;exact has_del_same.trans (by simp)
   . exact ((has_del_other (λe=>hu (by injection e))).trans (O u)).trans (by simp [hu])
theorem MS.len (hm:vq P t k e=true) (h:MS P k e w b n s) (ty:TypeId):∃c:Nat,c<=n/\(Builtin.len_ #[t] ty #[.map (some b)]).run P w=.ok (.i c) w:=by
 obtain ⟨ht,J,he,Q⟩:=jA hm;obtain ⟨D,h,O,I⟩:=h;exact ⟨Maps.size D,h.size_le,h.len ht ty⟩
def MR (P:Program) (k e:TypeId) (w:World) (b r n:Nat) (s lf:Int->Bool) (ni:Nat):Prop:=
 ∃ (D:DataW Unit) (left:Lit->Bool),w.ranges P k (plainElem P e) b r n D left ni/\(∀a:Int,D.atKey (.i a) (.lit (.bool false))=.lit (.bool (s a)))/\(∀a:Int,Maps.has D (.i a)=s a)/\∀a:Int,left (.i a)=lf a
theorem MR.ms (h:MR P k e w b r n s lf ni):MS P k e w b n s:=by
 obtain ⟨D,left,h1,J,I,_⟩:=h;exact ⟨D,h1.owns,J,I⟩
theorem MR.lt (h:MR P k e w b r n s lf ni):r<w.heap.size:=by
 obtain ⟨D,left,h1,_⟩:=h;exact h1.lt
theorem MR.keep {S:Nat->Prop} (h:MR P k e w b r n s lf ni) (m:aD S w w') (h1: ¬S b) (Q: ¬S r):MR P k e w' b r n s lf ni:=by
 have J:=h.ms.lt;have I:=h.lt;obtain ⟨D,left,⟨V,clock,since,seen,O,hb,F,hs,hD,hr,rest⟩,U⟩:=h;exact ⟨D,left,⟨V,clock,since,seen,O,(m.block b J h1).trans hb,F,hs,hD,(m.block r I Q).trans hr,rest⟩,U⟩
theorem MR.grow (h:MR P k e w b r n s lf ni) (m:ak w w'):MR P k e w' b r n s lf ni:=h.keep m id id
theorem MR.drew (h:MR P k e w b r n s lf ni):MR P k e w.drew b r n s lf ni:=h.grow (aD.refl w).drew
theorem MS.range (hm:vq P t k e=true) (h:MS P k e w b n s):∃w' ni,(Instr.range t (.map (some b))).run P w=.ok (.pointer (some ⟨w.heap.size,0,none⟩)) w'/\MR P k e w' b w.heap.size n s s ni/\ak w w':=by
 obtain ⟨ht,Q,he,V⟩:=jA hm;obtain ⟨D,h,U,J⟩:=h;obtain ⟨w',hr,O,I,_⟩:=h.range (int_keyed Q) ht;exact ⟨w',_,hr,⟨D,_,O,U,J,J⟩,⟨I.os,I.tape,I.output,I.size,λi hi _=>I.block i hi (by simp)⟩⟩
theorem AW {key:Value} {I:Lit} (O:P.underlying k=some (.int .i64)) (h:keyOf P k key=some I):∃a:Int,key=.i a/\I=.i a/\(Lit.int .i64 a).wf=true:=by
 cases key<;>simp [keyOf,O,mapKey] at h;rename_i q a;obtain ⟨h1,rfl⟩:=h;obtain ⟨rfl,J⟩:=h1;exact ⟨a,rfl,rfl,J⟩
theorem MR.next (hm:vq P t k e=true) (h:MR P k e w b r n s lf ni) (ty:TypeId):
 (ni=0/\(∀a,lf a=false)/\(Instr.next (.pointer (some ⟨r,0,none⟩)) false ty).run P w=.ok (.tuple #[.bool false]) w)\/
 ∃ (a:Int) (v:Value) (w':World) (I:Nat),lf a=true/\(Lit.int .i64 a).wf=true/\(Instr.next (.pointer (some ⟨r,0,none⟩)) false ty).run P w=.ok (.tuple #[.bool true,.i a,v]) w'/\
   (Instr.entry (.pointer (some ⟨r,0,none⟩))).run P w'=.ok (.tuple #[.i a,v]) w'/\MR P k e w' b r n s (λx=>lf x && x !=a) I/\I<ni/\aD (·=r) w w':=by
 obtain ⟨ht,Q,he,hz⟩:=jA hm;obtain ⟨D,left,h,X,Z,hl⟩:=h;rcases h.next (int_keyed Q) ty with ⟨Y,h1,O⟩| ⟨key,v,kl,y,w',I,h1,O,h3,h4,h5,V,U,J,h9,lU⟩
 . exact .inl ⟨Y,λa=>by rw [<- hl];exact h1 _,O⟩
 . obtain ⟨a,rfl,rfl,ha⟩:=AW Q h1;refine .inr ⟨a,v,w',I,by rw [<- hl];exact O,ha,h5,lU,⟨D,_,V,X,Z,λx=>?_⟩,U,⟨J.os,J.tape,J.output,J.size,λi hi hn=>J.block i hi λe=>hn (Vo e)⟩⟩;show (left (.i x) && !(Lit.sameKey (.i x) (.i a)))=_;rw [hl x];congr 1;simp [Lit.sameKey,bne];rfl
def KI (P:Program) (t k e:TypeId):Bool:=
 (match P.underlying t with|some (.map J I)=>Nat.beq J k && Nat.beq I e|_=>false) && (match P.underlying k with|some (.int .i64)=>true|_=>false) && (match P.underlying e with|some (.int .i64)=>true|_=>false) && (match P.info? e with|some i=> (match i.zero with|some (.i n)=>n==0|_=>false)|none=>false)
theorem BC (h:KI P t k e=true):P.underlying t=some (.map k e)/\P.underlying k=some (.int .i64)/\P.underlying e=some (.int .i64)/\∀w,(zeroValue e).run P w=.ok (.i 0) w:=by
 simp only [KI,ts] at h;obtain ⟨⟨⟨h1,J⟩,O⟩,I⟩:=h;split at h1
 . rename_i U Q hu;simp only [ts] at h1;have Y:U=k:=UG h1.1;have X:Q=e:=UG h1.2;subst Y X;refine ⟨hu,?_,?_,?_⟩
   . split at J
     . assumption
     . simp at J
   . split at O
     . assumption
     . simp at O
   . intro w;split at I
     . rename_i i hi;split at I
       . rename_i n V;have:n=0:=by simpa using I
         subst this;unfold zeroValue;simp only [Sem.run_bind,eM hi,Result.andThen_ok,V,Sem.run_pure]
       . simp at I
     . simp at I
 . simp at h1
def MI (P:Program) (k e:TypeId) (w:World) (b n:Nat) (s:Int->Int):Prop:=
 ∃D:DataW Unit,w.ownsMap P k (plainElem P e) b n D/\∀a:Int,D.atKey (.i a) (.lit (.i 0))=.lit (.i (s a))
theorem MI.lt {s:Int->Int} (h:MI P k e w b n s):b<w.heap.size:=by obtain ⟨D,h,_⟩:=h;exact h.lt
theorem MI.keep {s:Int->Int} {S:Nat->Prop} (h:MI P k e w b n s) (m:aD S w w') (hs: ¬S b):MI P k e w' b n s:=by
 have hl:=h.lt;obtain ⟨D,⟨I,clock,hb,h⟩,J⟩:=h;exact ⟨D,⟨I,clock,(m.block b hl hs).trans hb,h⟩,J⟩
theorem MI.grow {s:Int->Int} (h:MI P k e w b n s) (m:ak w w'):MI P k e w' b n s:=h.keep m id
theorem MI.new {b:Nat} (h:jI (.map #[] 0) w b w'):MI P k e w' b 0 λ_=>0:=by
 obtain ⟨rfl,rfl⟩:=h;exact ⟨.map [],World.ownsMap_made w P k _,λa=>rfl⟩
theorem MI.cP {s:Int->Int} (hm:KI P t k e=true) (h:MI P k e w b n s) {a:Int} (ha:(Lit.int .i64 a).wf=true):(Instr.lookup t (.map (some b)) (.i a) false).run P w=.ok (.i (s a)) w:=by
 obtain ⟨ht,J,he,O⟩:=BC hm;obtain ⟨D,h,Q⟩:=h;obtain ⟨c,h1,I,U⟩:=h.lookup_int (int_keyed J) ht he (O w) (keyOf_int_mk J ha);rw [Q a] at I;have:s a=c:=by simpa using I
 rw [h1,this]
theorem MI.put {s:Int->Int} (hm:KI P t k e=true) (h:MI P k e w b n s) (hn:n<maxLen) {a:Int} (ha:(Lit.int .i64 a).wf=true) {v:Int} (hv:(Lit.int .i64 v).wf=true):
 ∃w',(Instr.mapUpdate t (.map (some b)) (.i a) (.i v)).run P w=.ok () w'/\MI P k e w' b (n+1) (λu=>if u=a then v else s u)/\aD (·=b) w w':=by
 obtain ⟨ht,O,he,V⟩:=BC hm;obtain ⟨D,h,U⟩:=h;have J:=h.isMap;obtain ⟨w',hr,Q,I⟩:=h.update (int_keyed O) ht hn (keyOf_int_mk O ha) (plainElem_int (H:=Unit) he hv);refine ⟨w',hr,⟨_,Q,λu=>?_⟩,⟨I.os,I.tape,I.output,I.size,λi hi hn=>I.block i hi λe=>hn (Vo e)⟩⟩;by_cases hu:u=a
 . subst hu;exact (atKey_put_same J (show WideAt.IsKeyLit (.i u) from trivial) _ _).trans (by simp)
 . exact ((atKey_put_other (λe=>hu (by injection e)) _ _).trans (U u)).trans (by simp [hu])
end
end Go.Fw
namespace Go.LeP
open Go.SoP Go.LiP
section
structure As where
 lit:Int
 bI:Int
 rs:List Int
def d0:As:=⟨0,0,[]⟩
def aX (tr:List As) (i:Nat):As:=tr.getD i d0
def Bb (l:Int):Bool:=decide (l≠0/\ -1048576<=l/\l<=1048576)
def wo (l:List Int) (x:Int):List Int:=l.filter λy=>y !=x
theorem nY {l:List Int} {x y:Int}:y∈wo l x↔y∈l/\y≠x:=by
 unfold wo;rw [U8];simp
def dy:List As->Int->Nat
 | [],_=>0
 |a::t,v=>if am a.lit=v then 0 else dy t v+1
theorem qW:∀ {tr:List As} {v:Int},dy tr v<tr.length->am (aX tr (dy tr v)).lit=v
 | [],_,h=>by simp at h
 |a::t,v,h=>by
  unfold dy at h ⊢;split
  . rename_i e;exact e
  . rename_i e;rw [if_neg e] at h;have:=qW (tr:=t) (v:=v) (by simpa using h);simpa [aX,List.getD] using this
theorem qz:∀ {tr:List As} {v:Int} {j:Nat},j<dy tr v->am (aX tr j).lit≠v
 | [],_,_,h=>by simp [dy] at h
 |a::t,v,j,h=>by
  unfold dy at h;split at h
  . omega
  . rename_i e;cases j with
    |zero=>exact e
    |succ j=>
     have:=qz (tr:=t) (v:=v) (j:=j) (by omega);simpa [aX,List.getD] using this
theorem Hk {tr:List As} {v:Int} {i:Nat} (hi:i<tr.length) (h:am (aX tr i).lit=v) (hm:∀j,j<i->am (aX tr j).lit≠v):dy tr v=i:=by
 rcases Xe (dy tr v) i with e|e|e
 . exact absurd (qW (by omega)) (hm _ e)
 . exact e
 . exact absurd h (qz e)
theorem kY {tr:List As} {i j:Nat} (h:j<i):aX (tr.take i) j=aX tr j:=by
 unfold aX;simp only [y6,Vf];rw [if_pos h]
theorem oD {tr:List As} {v:Int} {i:Nat} (hi:i<=tr.length):(dy (tr.take i) v<i↔dy tr v<i)/\(dy tr v<i->dy (tr.take i) v=dy tr v):=by
 have hl:(tr.take i).length=i:=by rw [GD];omega
 have key:dy tr v<i->dy (tr.take i) v=dy tr v:=λh=>by
  refine Hk (by omega) ?_ λj I=>?_
  . rw [kY h];exact qW (by omega)
  . rw [kY (by omega)];exact qz I
 refine ⟨⟨λh=>?_,λh=>by rw [key h];exact h⟩,key⟩;have h1:=qW (tr:=tr.take i) (v:=v) (by omega);rw [kY h] at h1;rcases UU (dy tr v) i with e|e
 . exact e
 . exact absurd h1 (qz (by omega))
def Ge (tr:List As) (c:List Int):Bool:=c.all λl=>Bb l && decide (dy tr (am l)<tr.length) && ((aX tr (dy tr (am l))).lit== -l)
def ji (tr:List As) (i:Nat):Int:=if i=0 then 0 else (aX tr (i - 1)).bI
def Ni (tr:List As) (i:Nat):Bool:=
 Bb (aX tr i).lit && decide (¬dy (tr.take i) (am (aX tr i).lit)<i) && decide (ji tr i<=(aX tr i).bI/\(aX tr i).bI<=ji tr i+1) &&
  (if (aX tr i).bI>ji tr i then (aX tr i).rs.isEmpty else decide ((aX tr i).rs.length<=256) && decide ((aX tr i).lit∈(aX tr i).rs) && Ge (tr.take i) (wo (aX tr i).rs (aX tr i).lit))
def rJ (tr:List As):Bool:=decide (tr.length<=4096) && (List.range tr.length).all (Ni tr)
structure mw (tr:List As) (l:Int):Prop where
 tI:Bb l=true
 lt:dy tr (am l)<tr.length
 eq:(aX tr (dy tr (am l))).lit= -l
theorem nB {tr:List As} {c:List Int}:Ge tr c=true↔∀l∈c,mw tr l:=by
 unfold Ge;rw [UK];constructor
 . intro h l hl;have:=h l hl;simp only [ts,decide_eq_true_eq,beq_iff_eq] at this;exact ⟨this.1.1,this.1.2,this.2⟩
 . intro h l hl;obtain ⟨h1,J,I⟩:=h l hl;simp only [ts,decide_eq_true_eq,beq_iff_eq];exact ⟨⟨h1,J⟩,I⟩
structure fC (tr:List As):Prop where
 tI:∀i,i<tr.length->Bb (aX tr i).lit=true
 uq:∀i j,i<j->j<tr.length->am (aX tr i).lit≠am (aX tr j).lit
 lo:∀i,i<tr.length->ji tr i<=(aX tr i).bI
 hi:∀i,i<tr.length->(aX tr i).bI<=ji tr i+1
 vP:∀i,i<tr.length->ji tr i< (aX tr i).bI->(aX tr i).rs= []
 m_:∀i,i<tr.length->¬ji tr i< (aX tr i).bI->(aX tr i).rs.length<=256/\(aX tr i).lit∈(aX tr i).rs/\∀x∈(aX tr i).rs,x≠(aX tr i).lit->mw tr x/\dy tr (am x)<i
theorem q_ {tr:List As} (h:rJ tr=true):fC tr/\tr.length<=4096:=by
 unfold rJ at h;simp only [ts,decide_eq_true_eq,UK,Vj] at h;obtain ⟨hl,h⟩:=h;have H:∀i,i<tr.length->Bb (aX tr i).lit=true/\¬dy (tr.take i) (am (aX tr i).lit)<i/\(ji tr i<=(aX tr i).bI/\(aX tr i).bI<=ji tr i+1)/\
  (if (aX tr i).bI>ji tr i then (aX tr i).rs.isEmpty else decide ((aX tr i).rs.length<=256) && decide ((aX tr i).lit∈(aX tr i).rs) && Ge (tr.take i) (wo (aX tr i).rs (aX tr i).lit))=true:=by
  intro i hi;have:=h i hi;unfold Ni at this;simp only [ts,decide_eq_true_eq] at this;exact ⟨this.1.1.1,this.1.1.2,this.1.2,this.2⟩
 refine ⟨⟨λi hi=> (H i hi).1,λi j Q V e=>?_,λi hi=> (H i hi).2.2.1.1,λi hi=> (H i hi).2.2.1.2,λi hi O=>?_,λi hi O=>?_⟩,hl⟩
 . have h1:=(H j V).2.1;rw [(oD (by omega)).1] at h1;exact qz (tr:=tr) (v:=am (aX tr j).lit) (j:=i) (by omega) e
 . have:=(H i hi).2.2.2;rw [if_pos O] at this;simpa using this
 . have:=(H i hi).2.2.2;rw [if_neg (by omega)] at this;simp only [ts,decide_eq_true_eq] at this;refine ⟨this.1.1,this.1.2,λx X J=>?_⟩;have hb:=nB.1 this.2 x (nY.2 ⟨X,J⟩);have I:=hb.lt;rw [GD,U7 (by omega)] at I;have h1:=(oD (v:=am x) (by omega)).1.1 I;have U:=(oD (v:=am x) (by omega)).2 h1;refine ⟨⟨hb.tI,by omega,?_⟩,h1⟩;have:=hb.eq;rw [U,kY h1] at this;exact this
theorem fC.mono {tr:List As} (h:fC tr):∀ {i j:Nat},i<=j->j<tr.length->(aX tr i).bI<=(aX tr j).bI:=by
 intro i j J O
 induction j with
 |zero=>rw [show i=0 by omega];exact U3 _
 |succ j ih=>
  by_cases e:i=j+1
  . rw [e];exact U3 _
  . have h1:=ih (by omega) (by omega);have I:=h.lo (j+1) O;unfold ji at I;rw [if_neg (by omega),VV] at I;omega
theorem fC.nn {tr:List As} (h:fC tr) {i:Nat} (hi:i<tr.length):0<=(aX tr i).bI:=by
 have h1:=h.lo 0 (by omega);have I:=h.mono (vx i) hi;unfold ji at h1;rw [if_pos rfl] at h1;omega
theorem fC.le {tr:List As} (h:fC tr) {i:Nat} (hi:i<tr.length):(aX tr i).bI<=i+1:=by
 induction i with
 |zero=>
  have:=h.hi 0 hi;unfold ji at this;rw [if_pos rfl] at this;simpa using this
 |succ i ih=>
  have h1:=ih (by omega);have I:=h.hi (i+1) hi;unfold ji at I;rw [if_neg (by omega),VV] at I;omega
theorem fC.at {tr:List As} (h:fC tr) {i:Nat} (hi:i<tr.length):dy tr (am (aX tr i).lit)=i:=
 Hk hi rfl λj I=>h.uq j i I hi
theorem Ay (x:Int):am (-x)=am x:=by unfold am;split<;>split<;>omega
theorem N_ {x:Int} (h:Bb x=true):Bb (-x)=true:=by
 unfold Bb at*
 simp only [decide_eq_true_eq] at*
 omega
theorem fC.first {tr:List As} (h:fC tr) {i:Nat} (hi:i<tr.length) (hr:(aX tr i).rs= []):0< (aX tr i).bI/\∀j,j<i->(aX tr j).bI< (aX tr i).bI:=by
 have I:ji tr i< (aX tr i).bI:=by
  by_cases e:ji tr i< (aX tr i).bI
  . exact e
  . have:=(h.m_ i hi e).2.1;rw [hr] at this;simp at this
 unfold ji at I;split at I
 . rename_i e;exact ⟨I,λj J=>by omega⟩
 . have:=h.nn (i:=i - 1) (by omega);refine ⟨by omega,λj J=>?_⟩;have:=h.mono (i:=j) (j:=i - 1) (by omega) (by omega);omega
theorem fC.fE {tr:List As} (h:fC tr) {i:Nat} (hi:i<tr.length) (hr:(aX tr i).rs≠[]):(aX tr i).rs.length<=256/\(aX tr i).lit∈(aX tr i).rs/\∀x∈(aX tr i).rs,x≠(aX tr i).lit->mw tr x/\dy tr (am x)<i:=
 h.m_ i hi λe=>hr (h.vP i hi e)
def lv (tr:List As) (l:Int):Int:=(aX tr (dy tr (am l))).bI
theorem fC.Qa {tr:List As} (h:fC tr) {i:Nat} (hi:i<tr.length):lv tr (-(aX tr i).lit)=(aX tr i).bI/\lv tr (aX tr i).lit=(aX tr i).bI:=by
 unfold lv;rw [Ay,h.at hi];exact ⟨rfl,rfl⟩
theorem mw.same {tr:List As} {x y:Int} (O:mw tr x) (J:mw tr y) (h:dy tr (am x)=dy tr (am y)):x=y:=by
 have h1:=O.eq;have I:=J.eq;rw [h,I] at h1;omega
theorem mw.am {tr:List As} {x y:Int} (J:mw tr x) (I:mw tr y) (h:am x=am y):x=y:=J.same I (by rw [h])
def gK (tr:List As) (c:List Int) (L:Int):Nat:=c.countP λx=>lv tr x==L
def sB (tr:List As) (i:Nat) (c:List Int):List Int:=aY (wo c (-(aX tr i).lit)++wo (aX tr i).rs (aX tr i).lit)
def lrn (tr:List As) (L:Int):Nat->List Int->List Int
 |0,c=>c
 |i+1,c=>if gK tr c L=0\/gK tr c L=1/\0<L then c else if (aX tr i).bI=L/\ -(aX tr i).lit∈c then lrn tr L i (sB tr i c) else lrn tr L i c
theorem kE {tr:List As} {i:Nat} {c:List Int} {x:Int}:x∈sB tr i c↔x∈c/\x≠ -(aX tr i).lit\/x∈(aX tr i).rs/\x≠(aX tr i).lit:=by
 unfold sB;rw [(c6 _).mem,F',nY,nY]
theorem zq {tr:List As} {L:Int} {c:List Int} {p:Nat}:∀ {k:Nat},p<=k->(∀i,p<=i->i<k->¬((aX tr i).bI=L/\ -(aX tr i).lit∈c))->¬(gK tr c L=0\/gK tr c L=1/\0<L)->lrn tr L k c=lrn tr L p c
 |0,h,_,_=>by rw [show p=0 by omega]
 |k+1,h,hs,hn=>by
  by_cases e:p=k+1
  . rw [e]
  . rw [lrn,if_neg hn,if_neg (hs k (by omega) (by omega))];exact zq (by omega) (λi h1 I=>hs i h1 (by omega)) hn
theorem zr {tr:List As} {L:Int} {c:List Int} {k:Nat} (h:gK tr c L=0\/gK tr c L=1/\0<L):lrn tr L k c=c:=by
 cases k with
 |zero=>rfl
 |succ k=>rw [lrn,if_pos h]
structure In (tr:List As) (L:Int) (c:List Int) (k:Nat):Prop where
 br:∀x∈c,mw tr x
 le:∀x∈c,lv tr x<=L
 pl:∀x∈c,lv tr x=L->dy tr (am x)<k
 qI:c= []\/0<gK tr c L
 nn:0<=L
 nd:mf c
theorem qV {tr:List As} {L:Int} {c:List Int}:0<gK tr c L↔∃x∈c,lv tr x=L:=by
 unfold gK;rw [List.countP_pos_iff];simp
theorem fK {c:List Int} (h:mf c):c.Nodup:=h.imp λ{a b} I e=>by subst e;exact sX a I
theorem CC {tr:List As} {L:Int} {c:List Int} (hs:c.Nodup) {x:Int} (h:1<gK tr c L):∃y∈c,y≠x/\lv tr y=L:=by
 refine UP λhn=>?_;have:gK tr c L<=c.countP (λy=>y==x):=by
  refine Xa λy I hl=>?_;have hl:lv tr y=L:=by simpa using hl
  by_cases e:y=x
  . simp [e]
  . exact absurd ⟨y,I,e,hl⟩ hn
 have J:c.countP (λy=>y==x)<=1:=List.nodup_iff_count.1 hs x;omega
theorem In.step {tr:List As} (ok:fC tr) {L:Int} {c:List Int} {k p:Nat} (h:In tr L c k) (hn: ¬(gK tr c L=0\/gK tr c L=1/\0<L)) (hp:p<tr.length) (U:(aX tr p).bI=L) (hm: -(aX tr p).lit∈c) (I:∀x∈c,lv tr x=L->dy tr (am x)<=p):
 In tr L (sB tr p c) p/\lrn tr L k c=lrn tr L p (sB tr p c)/\(aX tr p).rs≠[]/\p<k:=by
 have an:p<k:=by
  have:=h.pl _ hm (by rw [(ok.Qa hp).1];exact U)
  rwa [Ay,ok.at hp] at this
 have V:(aX tr p).rs≠[]:=by
  intro e;obtain ⟨f1,f2⟩:=ok.first hp e;have h1:1<gK tr c L:=by omega
  obtain ⟨y,Z,Q,J⟩:=CC (fK h.nd) (x:= -(aX tr p).lit) h1;have O:=I y Z J;rcases UU (dy tr (am y)) p with e2|e2
  . have:=f2 _ e2;unfold lv at J;omega
  . refine Q ((h.br y Z).same (h.br _ hm) ?_);rw [Ay,ok.at hp];omega
 obtain ⟨r1,r2,r3⟩:=ok.fE hp V;have X:∀x∈sB tr p c,mw tr x:=by
  intro x Y;rcases kE.1 Y with ⟨a,b⟩| ⟨a,b⟩
  . exact h.br x a
  . exact (r3 x a b).1
 have O:∀x∈sB tr p c,lv tr x<=L:=by
  intro x Y;rcases kE.1 Y with ⟨a,b⟩| ⟨a,b⟩
  . exact h.le x a
  . have:=(r3 x a b).2;have:=ok.mono (i:=dy tr (am x)) (j:=p) (by omega) hp;unfold lv;omega
 refine ⟨⟨X,O,λx Y hl=>?_,?_,h.nn,(c6 _).st⟩,?_,V,an⟩
 . rcases kE.1 Y with ⟨a,b⟩| ⟨a,b⟩
   . have h1:=I x a hl;rcases UU (dy tr (am x)) p with e|e
     . exact e
     . exact absurd ((h.br x a).same (h.br _ hm) (by rw [Ay,ok.at hp];omega)) b
   . exact (r3 x a b).2
 . by_cases e:gK tr c L=1
   . have hL:L=0:=by
      have:=h.nn;by_cases e2:0<L
      . exact absurd (.inr ⟨e,e2⟩) hn
      . omega
     cases hs:sB tr p c with
     |nil=>exact .inl rfl
     |cons x t=>
      refine .inr (qV.2 ⟨x,by simp,?_⟩);have h1:=O x (by rw [hs];simp);have h2:=ok.nn ((X x (by rw [hs];simp)).lt);have:lv tr x=(aX tr (dy tr (am x))).bI:=rfl;omega
   . obtain ⟨y,Z,Q,J⟩:=CC (fK h.nd) (x:= -(aX tr p).lit) (L:=L) (tr:=tr) (c:=c) (by omega);exact .inr (qV.2 ⟨y,kE.2 (.inl ⟨Z,Q⟩),J⟩)
 . rw [zq (p:=p+1) (k:=k) (by omega) (λi h1 h2 hc=>?_) hn,lrn,if_neg hn,if_pos ⟨U,hm⟩];have hi:i<tr.length:=by
    have:=(h.br _ hc.2).lt;rcases UU i tr.length with e|e
    . exact e
    . have hd:aX tr i=d0:=by
       unfold aX;rw [y6,Vz e];rfl
      have:=(h.br _ hc.2).tI;rw [hd] at this;exact absurd this (by decide)
   have:=I _ hc.2 (by rw [(ok.Qa hi).1];exact hc.1);rw [Ay,ok.at hi] at this;omega
theorem In.end {tr:List As} (ok:fC tr) {L:Int}:∀ {k:Nat} {c:List Int},In tr L c k->k<=tr.length->∃d Q,lrn tr L k c=d/\In tr L d Q/\(d= []/\(L=0\/c= [])\/gK tr d L=1/\0<L)
 |0,c,h,_=>by
  have Z:c= []:=by
   rcases h.qI with e|e
   . exact e
   . obtain ⟨x,I,hl⟩:=qV.1 e;have:=h.pl x I hl;omega
  exact ⟨c,0,rfl,h,.inl ⟨Z,.inr Z⟩⟩
 |k+1,c,h,hk=>by
  by_cases hn:gK tr c L=0\/gK tr c L=1/\0<L
  . refine ⟨c,k+1,zr hn,h,?_⟩;rcases hn with hn|hn
    . rcases h.qI with e|e
      . exact .inl ⟨e,.inr e⟩
      . omega
    . exact .inr hn
  . by_cases e:(aX tr k).bI=L/\ -(aX tr k).lit∈c
    . obtain ⟨h1,Y,_,_⟩:=h.step ok hn (p:=k) (by omega) e.1 e.2 λx I hl=>by have:=h.pl x I hl;omega
      obtain ⟨d,Q,e1,O,e3⟩:=h1.end ok (by omega);refine ⟨d,Q,by rw [Y];exact e1,O,?_⟩;rcases e3 with ⟨a,b⟩|b
      . refine .inl ⟨a,?_⟩;have:=h.nn;by_cases hL:0<L
        ·
         obtain ⟨y,hy,V,aa⟩:=CC (fK h.nd) (x:= -(aX tr k).lit) (L:=L) (tr:=tr) (c:=c) (by omega);have J:y∈sB tr k c:=kE.2 (.inl ⟨hy,V⟩);rcases b with b|b
         . omega
         . rw [b] at J;simp at J
        . exact .inl (by omega)
      . exact .inr b
    . have U:=zq (p:=k) (k:=k+1) (by omega) (λi h1 Y=>by rw [show i=k by omega];exact e) hn;have h':In tr L c k:=⟨h.br,h.le,λx I hl=>by
       have:=h.pl x I hl;rcases UU (dy tr (am x)) k with O|O
       . exact O
       . have X:dy tr (am x)=k:=by omega
         refine absurd ⟨?_,?_⟩ e
         . rw [<- X];exact hl
         . rw [<- X,(h.br x I).eq,U_];exact I,h.qI,h.nn,h.nd⟩
      rw [U];exact h'.end ok (by omega)
end
section
def pB (tr:List As) (a b:Int):Int:=if lv tr a≠lv tr b then lv tr b - lv tr a else am a - am b
theorem y7 (tr:List As):Ord (pB tr):=by
 constructor
 . intro x y h;unfold pB at*
   split at h<;>split<;>omega
 . intro x y z h1 I;unfold Le pB at*
   split at h1<;>split at I<;>split<;>omega
abbrev qU (tr:List As) (m:List Int):Prop:=m.Pairwise λa b=>pB tr a b<0
theorem sD (tr:List As) (a:Int): ¬pB tr a a<0:=by unfold pB;simp
theorem GC {tr:List As} {a b c:Int} (h1:pB tr a b<0) (I:pB tr b c<0):pB tr a c<0:=(y7 tr).MH h1 ((y7 tr).lt I)
theorem zS {tr:List As}:∀ {m k:List Int},qU tr m->qU tr k->(∀x,x∈m↔x∈k)->m=k
 | [],[],_,_,_=>rfl
 | [],y::k,_,_,h=>by have:=(h y).2 (by simp);simp at this
 |x::m,[],_,_,h=>by have:=(h x).1 (by simp);simp at this
 |x::m,y::k,h1,J,h=>by
  have h1:=VZ.1 h1;have J:=VZ.1 J;have e:x=y:=by
   rcases UI.1 ((h x).1 (by simp)) with e|e
   . exact e
   . rcases UI.1 ((h y).2 (by simp)) with O|O
     . exact O.symm
     . exact absurd (GC (h1.1 y O) (J.1 x e)) (sD tr x)
  subst e;congr 1;refine zS h1.2 J.2 λz=>?_;constructor
  . intro I;rcases UI.1 ((h z).1 (vy _ I)) with e|e
    . subst e;exact absurd (h1.1 z I) (sD tr z)
    . exact e
  . intro I;rcases UI.1 ((h z).2 (vy _ I)) with e|e
    . subst e;exact absurd (J.1 z I) (sD tr z)
    . exact e
def FF (tr:List As) (c:List Int) (M:Nat):Nat->List Int
 |0=> []
 |j+1=>FF tr c M j++ (aY c).filter λx=>lv tr x==(M:Int) - j
def OY (tr:List As):Int:=tr.foldl (λm a=>if a.bI>m then a.bI else m) 0
def lF (tr:List As) (c:List Int):List Int:=FF tr c (OY tr).toNat ((OY tr).toNat+1)
theorem Az:∀ (tr:List As) (m:Int),m<=tr.foldl (λm a=>if a.bI>m then a.bI else m) m/\∀a∈tr,a.bI<=tr.foldl (λm a=>if a.bI>m then a.bI else m) m
 | [],m=>⟨U3 _,by simp⟩
 |b::t,m=>by
  rw [Wl];generalize I:(if b.bI>m then b.bI else m)=X;have hm:m<=X/\b.bI<=X:=by rw [<- I];split<;>omega
  obtain ⟨h1,J⟩:=Az t X;refine ⟨by omega,λa ha=>?_⟩;rcases UI.1 ha with e|e
  . subst e;omega
  . exact J a e
theorem Oh (tr:List As):0<=OY tr:=(Az tr 0).1
theorem Py {tr:List As} {i:Nat} (h:i<tr.length):(aX tr i).bI<=OY tr:=(Az tr 0).2 _ (by simp [aX,List.getD,h])
theorem AN {tr:List As} {c:List Int} {M:Nat}:∀ {j:Nat} {x:Int},x∈FF tr c M j↔x∈c/\lv tr x<=M/\(M:Int) - j<lv tr x
 |0,x=>by
  unfold FF;simp
 |j+1,x=>by
  unfold FF;rw [F',AN,U8,(c6 c).mem,beq_iff_eq];constructor
  . rintro (⟨h1,I,J⟩| ⟨h1,I⟩)
    . exact ⟨h1,I,by omega⟩
    . exact ⟨h1,by omega,by omega⟩
  . rintro ⟨h1,I,J⟩;by_cases e:lv tr x=(M:Int) - j
    . exact .inr ⟨h1,e⟩
    . exact .inl ⟨h1,I,by omega⟩
theorem xc {tr:List As} {c:List Int} {M:Nat} (hb:∀x∈c,mw tr x):∀j,qU tr (FF tr c M j)
 |0=>List.Pairwise.nil
 |j+1=>by
  unfold FF;rw [qU,Xi];refine ⟨xc hb j,?_,λx Z y Y=>?_⟩
  . have h1:mf ((aY c).filter λx=>lv tr x==(M:Int) - j):=Xj _ (c6 c).st;rw [U2];intro a b ha J Q;have I:=U2.1 h1 a b ha J Q;have X:=U8.1 (V_ ha);have mb:=U8.1 (V_ J);have la:lv tr _=(M:Int) - j:=beq_iff_eq.1 X.2;have lb:lv tr _=(M:Int) - j:=beq_iff_eq.1 mb.2;have O:=hb _ (((c6 c).mem _).1 X.1);have V:=hb _ (((c6 c).mem _).1 mb.1);generalize ((aY c).filter λx=>lv tr x==(M:Int) - j)[a]=u at*
    generalize ((aY c).filter λx=>lv tr x==(M:Int) - j)[b]=v at*
    have U:am u≠am v:=λe=>by
     have:=O.am V e;subst this;exact sX _ I
    unfold pB;rw [if_neg (by omega)];unfold pN at I;rw [if_pos U] at I;exact I
  . have h1:=AN.1 Z;have I:=U8.1 Y;have h3:lv tr y=(M:Int) - j:=beq_iff_eq.1 I.2;unfold pB;rw [if_pos (by omega)];omega
theorem jT {tr:List As} (ok:fC tr) {c:List Int} (hb:∀x∈c,mw tr x) {x:Int}:x∈lF tr c↔x∈c:=by
 unfold lF;rw [AN];refine ⟨λh=>h.1,λh=>⟨h,?_,?_⟩⟩
 . have:=Py (hb x h).lt;have:=Oh tr;unfold lv;omega
 . have:=ok.nn (hb x h).lt;unfold lv;omega
theorem px {tr:List As} {c:List Int} (hb:∀x∈c,mw tr x):qU tr (lF tr c):=xc hb _
theorem JT {tr:List As} (ok:fC tr) {c m:List Int} (hb:∀x∈c,mw tr x) (hm:∀x,x∈m↔x∈c) (nd:m.Nodup) (hs:vp (pB tr) m 0 m.length):m=lF tr c:=by
 refine zS ?_ (px hb) λx=> (hm x).trans (jT ok hb).symm;rw [qU,U2];intro i j hi O I;have h:=hs i j (vx _) I O;simp only [List.getD,Mb hi,Mb O,US] at h;have J:m[i]≠m[j]:=λe=>by have:=(V9 nd).1 e;omega
 have h1:=hb _ ((hm _).1 (V_ hi));have Q:=hb _ ((hm _).1 (V_ O));have ha:am m[i]≠am m[j]:=λe=>J (h1.am Q e);unfold Le pB at h;unfold pB;split at h<;>split<;>omega
def MZ (tr:List As) (ld:List Int):Nat->Int->Bool
 |0,_=>false
 |f+1,l=> !(aX tr (dy tr (am l))).rs.isEmpty && (aX tr (dy tr (am l))).rs.all λx=>x==(aX tr (dy tr (am l))).lit||decide (lv tr x<=0)||decide (x∈ld)||MZ tr ld f x
def pJ (tr:List As) (ld:List Int) (l:Int):Bool:=MZ tr ld (dy tr (am l)+1) l
theorem KV {tr:List As} (ok:fC tr) {ld:List Int}:∀ (f:Nat) {l:Int},dy tr (am l)<tr.length->dy tr (am l)<f->MZ tr ld f l=pJ tr ld l:=by
 have key:∀ (f g:Nat) {l:Int},dy tr (am l)<tr.length->dy tr (am l)<f->dy tr (am l)<g->MZ tr ld f l=MZ tr ld g l:=by
  intro f
  induction f with
  |zero=>intro g l _ h;omega
  |succ f Q=>
   intro g l hl hf U;cases g with
   |zero=>omega
   |succ g=>
    unfold MZ;by_cases hr:(aX tr (dy tr (am l))).rs= []
    . rw [hr];rfl
    . obtain ⟨_,_,O⟩:=ok.fE hl hr;have I:∀x∈(aX tr (dy tr (am l))).rs,(x==(aX tr (dy tr (am l))).lit||decide (lv tr x<=0)||decide (x∈ld)||MZ tr ld f x)=(x==(aX tr (dy tr (am l))).lit||decide (lv tr x<=0)||decide (x∈ld)||MZ tr ld g x):=by
       intro x J;by_cases e:x=(aX tr (dy tr (am l))).lit
       . simp [e]
       . obtain ⟨b1,b2⟩:=O x J e;rw [Q g b1.lt (by omega) (by omega)]
      congr 1;rw [Wm,UK,UK];constructor
      . intro h x J;rw [<- I x J];exact h x J
      . intro h x J;rw [I x J];exact h x J
 intro f l hl hf;exact key f (dy tr (am l)+1) hl hf (by omega)
theorem Iq {tr:List As} (ok:fC tr) {ld:List Int} {l:Int} (hl:dy tr (am l)<tr.length):
 pJ tr ld l=(!(aX tr (dy tr (am l))).rs.isEmpty && (aX tr (dy tr (am l))).rs.all λx=>x==(aX tr (dy tr (am l))).lit||decide (lv tr x<=0)||decide (x∈ld)||pJ tr ld x):=by
 unfold pJ;rw [MZ];by_cases hr:(aX tr (dy tr (am l))).rs= []
 . rw [hr];rfl
 . obtain ⟨_,_,O⟩:=ok.fE hl hr;have I:∀x∈(aX tr (dy tr (am l))).rs,(x==(aX tr (dy tr (am l))).lit||decide (lv tr x<=0)||decide (x∈ld)||MZ tr ld (dy tr (am l)) x)=(x==(aX tr (dy tr (am l))).lit||decide (lv tr x<=0)||decide (x∈ld)||MZ tr ld (dy tr (am x)+1) x):=by
    intro x J;by_cases e:x=(aX tr (dy tr (am l))).lit
    . simp [e]
    . obtain ⟨b1,b2⟩:=O x J e;rw [KV ok _ b1.lt b2];rfl
   congr 1;rw [Wm,UK,UK];constructor
   . intro h x J;rw [<- I x J];exact h x J
   . intro h x J;rw [I x J];exact h x J
def shr (tr:List As) (ld:List Int):List Int:=
 match ld with
 | []=> []
 |x::t=>x::t.filter λy=>decide (0<lv tr y) && !pJ tr ld y
theorem Hy {tr:List As} {ld:List Int} {x:Int} (h:x∈shr tr ld):x∈ld:=by
 cases ld with
 |nil=>exact h
 |cons y t=>
  rcases UI.1 h with e|e
  . rw [e];simp
  . exact vy _ (U8.1 e).1
theorem OM (tr:List As) (ld:List Int):(shr tr ld).length<=ld.length:=by
 cases ld with
 |nil=>exact y4 _
 |cons y t=>simp [shr];exact Vs _ _
def Dg (v:Int->Int) (c:List Int):Prop:=∃l∈c,v l=1
structure Dv (tr:List As) (v:Int->Int):Prop where
 neg:∀l,Bb l=true->v (-l)= -v l
 val:∀l,v l=0\/v l=1\/v l= -1
 set:∀i,i<tr.length->v (aX tr i).lit≠0
 m_:∀i,i<tr.length->(aX tr i).rs≠[]->Dg v (aX tr i).rs
theorem vW {tr:List As} {v:Int->Int} (ok:fC tr) (V:Dv tr v) {c:List Int} {p:Nat} (hp:p<tr.length) (hr:(aX tr p).rs≠[]) (h:Dg v c):Dg v (sB tr p c):=by
 obtain ⟨x,Q,ex⟩:=h;by_cases e:x= -(aX tr p).lit
 . obtain ⟨y,J,O⟩:=V.m_ p hp hr;refine ⟨y,kE.2 (.inr ⟨J,?_⟩),O⟩;intro I;have:=V.neg _ (ok.tI p hp);rw [<- e,<- I] at this;omega
 . exact ⟨x,kE.2 (.inl ⟨Q,e⟩),ex⟩
theorem yP {tr:List As} {v:Int->Int} (ok:fC tr) (V:Dv tr v) {L:Int}:∀ {k:Nat} {c:List Int},In tr L c k->k<=tr.length->Dg v c->Dg v (lrn tr L k c)
 |0,_,_,_,h=>h
 |k+1,c,h,hk,ht=>by
  by_cases hn:gK tr c L=0\/gK tr c L=1/\0<L
  . rw [zr hn];exact ht
  . by_cases e:(aX tr k).bI=L/\ -(aX tr k).lit∈c
    . obtain ⟨h1,Q,U,_⟩:=h.step ok hn (p:=k) (by omega) e.1 e.2 λx I hl=>by have:=h.pl x I hl;omega
      rw [Q];exact yP ok V h1 (by omega) (vW ok V (by omega) U ht)
    . have X:In tr L c k:=⟨h.br,h.le,λx I hl=>by
       have:=h.pl x I hl;rcases UU (dy tr (am x)) k with J|J
       . exact J
       . have O:dy tr (am x)=k:=by omega
         refine absurd ⟨?_,?_⟩ e
         . rw [<- O];exact hl
         . rw [<- O,(h.br x I).eq,U_];exact I,h.qI,h.nn,h.nd⟩
      rw [lrn,if_neg hn,if_neg e];exact yP ok V X (by omega) ht
theorem Jf {tr:List As} {v:Int->Int} (ok:fC tr) (V:Dv tr v):∀ (i:Nat),i<tr.length->(aX tr i).bI<=0->v (aX tr i).lit=1:=by
 intro i
 induction i using Nat.strongRecOn with
 |_ i O=>
  intro hi hl;have hr:(aX tr i).rs≠[]:=λe=>by have:=(ok.first hi e).1;omega
  obtain ⟨y,J,Q⟩:=V.m_ i hi hr;by_cases e:y=(aX tr i).lit
  . rw [<- e];exact Q
  . obtain ⟨b1,b2⟩:=(ok.fE hi hr).2.2 y J e;have I:=b1.lt;have:=ok.mono (i:=dy tr (am y)) (j:=i) (by omega) hi;have h1:=O _ b2 I (by omega);rw [b1.eq,V.neg _ b1.tI] at h1;omega
theorem Ac {tr:List As} {v:Int->Int} (ok:fC tr) (V:Dv tr v) {l:Int} (h:mw tr l) (hl:lv tr l<=0):v l= -1:=by
 have h1:=Jf ok V _ h.lt hl;rw [h.eq,V.neg _ h.tI] at h1;omega
theorem JW {tr:List As} {v:Int->Int} (ok:fC tr) (V:Dv tr v) {ld:List Int}:∀ (n:Nat) {l:Int},mw tr l->dy tr (am l)=n->v l=1->pJ tr ld l=true->∃y∈ld,v y=1/\dy tr (am y)<n:=by
 intro n
 induction n using Nat.strongRecOn with
 |_ n Q=>
  intro l hb hn hv hi;subst hn;rw [Iq ok hb.lt] at hi;simp only [ts,Wc,X3,UK,VM,beq_iff_eq,decide_eq_true_eq] at hi;obtain ⟨hr,ha⟩:=hi;obtain ⟨y,J,I⟩:=V.m_ _ hb.lt hr;by_cases e:y=(aX tr (dy tr (am l))).lit
  . rw [hb.eq] at e;have:=V.neg _ hb.tI;rw [<- e,I] at this;omega
  . obtain ⟨b1,b2⟩:=(ok.fE hb.lt hr).2.2 y J e;rcases ha y J with ((h|h)|h)|h
    . exact absurd h e
    . have:=Ac ok V b1 h;omega
    . exact ⟨y,h,I,b2⟩
    . obtain ⟨z,O,z2,z3⟩:=Q _ b2 b1 rfl I h;exact ⟨z,O,z2,by omega⟩
theorem DW {tr:List As} {v:Int->Int} (ok:fC tr) (V:Dv tr v) {ld:List Int} (hb:∀x∈ld,mw tr x) (h:Dg v ld):Dg v (shr tr ld):=by
 have key:∀ (n:Nat) {x:Int},x∈ld->v x=1->dy tr (am x)=n->Dg v (shr tr ld):=by
  intro n
  induction n using Nat.strongRecOn with
  |_ n O=>
   intro x I hv hn;by_cases hs:x∈shr tr ld
   . exact ⟨x,hs,hv⟩
   . have hp: ¬lv tr x<=0:=λe=>by have:=Ac ok V (hb x I) e;omega
     have hi:pJ tr ld x=true:=by
      cases ld with
      |nil=>simp at I
      |cons y t=>
       rcases UI.1 I with e|e
       . exact absurd (by rw [e];simp [shr]) hs
       . cases hi:pJ tr (y::t) x with
         |true=>rfl
         |false=>exact absurd (vy _ (U8.2 ⟨e,by rw [hi];simp;omega⟩)) hs
     obtain ⟨z,J,z2,z3⟩:=JW ok V n (hb x I) hn hv hi;exact O _ z3 J z2 rfl
 obtain ⟨x,I,hv⟩:=h;exact key _ I hv rfl
structure Cc (tr:List As) (L:Int) (ld:List Int):Prop where
 br:∀x∈ld,mw tr x
 zero:L=0->ld= []
 bJ:∀i,i<ld.length->(lv tr (ld.getD i 0)=L↔i=0)
 le:∀x∈ld,lv tr x<=L
 nn:0<=L
theorem Ri {tr:List As} {c:List Int} {L x y:Int} (U:x∈c) (Q:y∈c) (I:x≠y) (h1:lv tr x=L) (O:lv tr y=L):1<gK tr c L:=by
 unfold gK;rw [W_];have mx:x∈c.filter λz=>lv tr z==L:=U8.2 ⟨U,by simpa using h1⟩;have J:y∈c.filter λz=>lv tr z==L:=U8.2 ⟨Q,by simpa using O⟩;obtain ⟨s,t,e⟩:=List.append_of_mem mx;rw [e] at J ⊢;rw [UH,U9];rcases F'.1 J with h|h
 . have:=WG h;omega
 . rcases UI.1 h with h|h
   . exact absurd h.symm I
   . have:=WG h;omega
theorem Ns {tr:List As} (ok:fC tr) {L:Int} {c:List Int} {k:Nat} (h:In tr L c k) (he:c= []/\(L=0\/c= [])\/gK tr c L=1/\0<L):Cc tr L (lF tr c):=by
 have hb:∀x∈lF tr c,mw tr x:=λx J=>h.br x ((jT ok h.br).1 J);have V:∀x∈lF tr c,lv tr x<=L:=λx J=>h.le x ((jT ok h.br).1 J);have nil:c= []->lF tr c= []:=λe=>by
  rw [List.eq_nil_iff_forall_not_mem];intro x J;have:=(jT ok h.br).1 J;rw [e] at this;simp at this
 refine ⟨hb,λe=>?_,λi hi=>?_,V,h.nn⟩
 . rcases he with ⟨a,_⟩| ⟨_,b⟩
   . exact nil a
   . omega
 . rcases he with ⟨a,_⟩| ⟨h1,hL⟩
   . rw [nil a] at hi;simp at hi
   . have st:=px h.br;have mem:∀j,j< (lF tr c).length->(lF tr c).getD j 0∈lF tr c:=λj X=>by simp [List.getD,X]
     have O:∀a b,a<b->b< (lF tr c).length->lv tr ((lF tr c).getD b 0)<=lv tr ((lF tr c).getD a 0):=by
      intro a b Y U;have:=U2.1 st a b (by omega) U Y;have e1:(lF tr c).getD a 0=(lF tr c)[a]'(by omega):=by simp [List.getD,show a< (lF tr c).length by omega]
      have e2:(lF tr c).getD b 0=(lF tr c)[b]:=by simp [List.getD,U]
      rw [e1,e2];unfold pB at this;split at this<;>omega
     obtain ⟨y,hy,Q⟩:=qV.1 (show 0<gK tr c L by omega);obtain ⟨j,X,ej⟩:=I'.1 ((jT ok h.br).2 hy);have I:(lF tr c).getD j 0=y:=by simp [List.getD,X,ej]
     have Z:lv tr ((lF tr c).getD 0 0)=L:=by
      rcases UZ j with e|e
      . subst e;rw [I];exact Q
      . have h2:=O 0 j e X;have h3:=V _ (mem 0 (by omega));rw [I,Q] at h2;omega
     constructor
     . intro hl;refine UP λav=>?_;have hd:(lF tr c).getD i 0≠(lF tr c).getD 0 0:=by
        intro e;have:=U2.1 st 0 i (by omega) hi (by omega);simp only [List.getD,Mb hi,Mb (show 0< (lF tr c).length by omega),US] at e;rw [e] at this;exact sD _ _ this
       have aC:1<gK tr c L:=Ri ((jT ok h.br).1 (mem 0 (by omega))) ((jT ok h.br).1 (mem i hi)) (λe=>hd e.symm) Z hl;omega
     . rintro rfl;exact Z
theorem Cc.shr {tr:List As} {L:Int} {ld:List Int} (h:Cc tr L ld):Cc tr L (shr tr ld):=by
 refine ⟨λx J=>h.br x (Hy J),λe=>by rw [h.zero e];rfl,λi hi=>?_,λx J=>h.le x (Hy J),h.nn⟩;cases ld with
 |nil=>simp [LeP.shr] at hi
 |cons y t=>
  have O:=(h.bJ 0 (by simp)).2 rfl;have e0:(y::t).getD 0 0=y:=rfl;rw [e0] at O;cases i with
  |zero=>exact ⟨λ_=>rfl,λ_=>O⟩
  |succ i=>
   refine ⟨λhl=>?_,λe=>by omega⟩;have I:i< (t.filter λz=>decide (0<lv tr z) && !pJ tr (y::t) z).length:=by simpa [LeP.shr] using hi
   have em:(LeP.shr tr (y::t)).getD (i+1) 0=(t.filter λz=>decide (0<lv tr z) && !pJ tr (y::t) z)[i]:=by simp [LeP.shr,List.getD,I]
   rw [em] at hl;have hm:=(U8.1 (V_ I)).1;obtain ⟨j,Q,U⟩:=I'.1 hm;have:=(h.bJ (j+1) (by simpa using Q)).1 (by rw [<- hl,<- U];simp [List.getD,Q]);omega
end
section
theorem Ki {tr:List As} {t i:Nat} (hi:i<t):Ni (tr.take t) i=Ni tr i:=by
 have h1:(tr.take t).take i=tr.take i:=by rw [Wu,U7 (by omega)]
 have I:ji (tr.take t) i=ji tr i:=by
  unfold ji;split
  . rfl
  . rw [kY (by omega)]
 unfold Ni;rw [h1,I,kY hi]
theorem Iv {tr:List As} {t:Nat} (ht:t<=tr.length) (hl:t<=4096) (h:(List.range t).all (Ni tr)=true):fC (tr.take t):=by
 refine (q_ (tr:=tr.take t) ?_).1;have hlen:(tr.take t).length=t:=by rw [GD];omega
 unfold rJ;rw [hlen,decide_eq_true hl,VL,UK];intro i hi;rw [Vj] at hi;rw [Ki hi];exact UK.1 h i (Vj.2 hi)
theorem sf {f:Nat->Bool} {t:Nat} (h:(List.range t).all f=true) (hf:f t=true):(List.range (t+1)).all f=true:=by
 rw [WA,Xv,h];simp [hf]
theorem JP {f:Nat->Bool} {t n:Nat} (ht:t<n) (hf:f t=false):(List.range n).all f=false:=by
 cases h:(List.range n).all f with
 |false=>rfl
 |true=>have:=UK.1 h t (Vj.2 ht);rw [hf] at this;exact this.symm
def xQ (tr:List As) (u:Int):Int:=if dy tr u<tr.length then (dy tr u:Int)+1 else 0
theorem HT (u:Int):xQ [] u=0:=by unfold xQ;simp
theorem uA {tr:List As} {t:Nat} (h:t<=tr.length):(tr.take t).length=t:=by rw [GD];omega
theorem zE {tr:List As} {t:Nat} (ht:t<tr.length) (h: ¬dy (tr.take t) (am (aX tr t).lit)<t) (u:Int):xQ (tr.take (t+1)) u=if u=am (aX tr t).lit then (t:Int)+1 else xQ (tr.take t) u:=by
 have O:=oD (tr:=tr) (v:=u) (i:=t) (by omega);have I:=oD (tr:=tr) (v:=u) (i:=t+1) (by omega);have l1:=uA (tr:=tr) (t:=t) (by omega);have l2:=uA (tr:=tr) (t:=t+1) (by omega);unfold xQ;rw [l1,l2];by_cases hu:u=am (aX tr t).lit
 . rw [if_pos hu];have Q:dy tr u=t:=by
    subst hu;rw [(oD (by omega)).1] at h;refine Hk ht rfl λj X=>qz (by omega)
   rw [if_pos (I.1.2 (by omega)),I.2 (by omega),Q]
 . rw [if_neg hu];by_cases hl:dy tr u<t
   . rw [if_pos (I.1.2 (by omega)),if_pos (O.1.2 hl),I.2 (by omega),O.2 hl]
   . rw [if_neg (λJ=>?_),if_neg (λJ=>hl (O.1.1 J))];have V:=I.1.1 J;have U:dy tr u=t:=by omega
     have:=qW (tr:=tr) (v:=u) (by omega);rw [U] at this;exact hu this.symm
theorem u6 {tr:List As} {u:Int}:xQ tr u=0↔¬dy tr u<tr.length:=by
 unfold xQ;split<;>omega
theorem IB {tr:List As} (hl:tr.length<=4096) (h:(List.range tr.length).all (Ni tr)=true):rJ tr=true:=by
 unfold rJ;rw [decide_eq_true hl,h];rfl
theorem Hl {tr:List As} {i:Nat} (hi:i<tr.length) (h:Ni tr i=false):rJ tr=false:=by
 unfold rJ;rw [JP hi h,VS]
def JH (tr:List As) (i:Nat):Bool:=decide ((aX tr i).rs.length<=256) && decide ((aX tr i).lit∈(aX tr i).rs) && Ge (tr.take i) (wo (aX tr i).rs (aX tr i).lit)
end
end Go.LeP
namespace Go.Proofs.YtbdghpjnifjlmaaGreat.W.Le
open Go Go.Fw Go.RowKit Go.SoP Go.LiP Go.LeP
open Go.Proofs.Tryz (prog)
section
variable {w:World} {p q:sn} {n c m d:Nat} {tr:List As} {l:List Int}
def TV (w:World) (p:sn) (tr:List As):Prop:=∀i,i<tr.length->∃ (a:Addr) (s:Sl),p=some a/\aK w (a.add (i*3)) 0 [.i (aX tr i).lit,.i (aX tr i).bI,.slice s.p s.n s.c]/\
 s.n=(aX tr i).rs.length/\s.n<=maxLen/\Vw sT w s.p (aX tr i).rs
theorem TV.grow {w':World} (h:TV w p tr) (g:ak w w'):TV w' p tr:=by
 intro i hi;obtain ⟨a,s,rfl,O,h1,I,J⟩:=h i hi;exact ⟨a,s,rfl,aK.keep g id O,h1,I,J.grow g⟩
theorem TV.ix (h:TV w p tr) (hn:n=tr.length) {X:Int} (i:Nat) (e:X=i) (hi:i<tr.length) {K:Addr->Prop}
 (Q:∀a (s:Sl),aK w a 0 [.i (aX tr i).lit,.i (aX tr i).bI,.slice s.p s.n s.c]->s.n=(aX tr i).rs.length->s.n<=maxLen->Vw sT w s.p (aX tr i).rs->K a):aW p n X 3 K:=by
 subst e hn;obtain ⟨a,s,rfl,O,h1,I,J⟩:=h i hi;exact ⟨a,rfl,by omega,by omega,Q _ s (by rw [tn];exact O) h1 I J⟩
theorem Et (l:Int):Bb l=bU l:=rfl
theorem dx {l:Int} (h: -9223372036854775808<l) (I:l<9223372036854775808) (w:World):Calls prog cR.id #[.i l] w λe w'=>e=.returned (.i (am l))/\ak w w':=by
 refine cR.aj ?_;unfold cR.w;rw [aA (x:=0 - l) (by omega) (by omega)];refine ⟨?_,aD.refl w⟩;unfold imax am;congr 2;split<;>split<;>omega
end
section
variable {w:World} {p q:sn} {n c m d:Nat} {tr:List As} {l:List Int}
theorem lL:KI prog dO aq aq=true:=by kernel_rfl
theorem lK:vq prog rq aq cC=true:=by kernel_rfl
theorem pY {x:Int} (h:Bb x=true):(Lit.int .i64 (am x)).wf=true:=by
 have:=Ff (x:=x) h;exact A9 (by omega) (by omega)
theorem Gb {x:Int} (h:Bb x=true):(Lit.int .i64 x).wf=true:=by
 have:=cJ h;exact A9 (by omega) (by omega)
theorem Gp {w2:World} {u v:Int} {m d:Nat} {K:World->Prop} (h:jI (.cells #[.i 0,.i 0,.slice none 0 0] cE) w n w2)
 (I:∀w3,bT w3 n #[.i u,.i v,.slice q m d]->ak w w3->K w3):∃w3,bB (qw n) 0 [.i u,.i v,.slice q m d] w2 w3/\K w3:=by
 have e:=h.num;exact bD h.has rfl rfl λw3 H m=>I w3 H (h.mod.then m λk I (e:k=n)=>by omega)
theorem vX {t:Nat}:ji tr (t+1)=(aX tr t).bI:=by unfold ji;rw [if_neg (by omega),VV]
theorem Bp:ji tr 0=0:=by unfold ji;rw [if_pos rfl]
end
section
variable {w:World} {p q:sn} {n c m d:Nat} {tr:List As} {l:List Int}
theorem _root_.Go.LeP.fC.cW (ok:fC tr) {t:Nat} (ht:t<tr.length): ¬dy (tr.take t) (am (aX tr t).lit)<t:=by
 intro e;rw [(oD (by omega)).1] at e;exact ok.uq _ t e ht (qW (by omega))
theorem uC {b n:Nat} {s I:Int->Int} (h:MI prog aq aq w b n s) (e:∀u,s u=I u):MI prog aq aq w b n I:=by
 rw [<- show s=I from funext e];exact h
theorem oP {v:Int} (hl:tr.length<=4096) (h:dy tr v<tr.length):IntKind.i64.wrap (xQ tr v - 1)=(dy tr v:Nat):=by
 unfold xQ;rw [if_pos h,aA (by omega) (by omega)];omega
theorem qg (h:TV w p tr) (hn:n=tr.length) (ok:fC tr) (hl:tr.length<=4096):Calls prog lG.id #[.slice p n c] w λe w'=>∃b,e=.returned (.map (some b))/\MI prog aq aq w' b tr.length (xQ tr)/\ak w w'/\w.heap.size<=b:=by
 refine lG.aj ?_;intro X w2 Y;have e1:=Y.num;have M2:MI prog aq aq w2 X 0 (xQ (tr.take 0)):=uC (MI.new Y) λu=> (HT u).symm;refine ⟨λI w' k=>∃t:Nat,I=t/\t<=tr.length/\k=tr.length - t/\MI prog aq aq w' X t (xQ (tr.take t))/\ak w w',⟨_,0,rfl,vx _,rfl,M2,Y.mod⟩,?_⟩;rintro I w7 k _ ⟨t,rfl,ht,rfl,M,G⟩;refine ah (λs=>?_) (λs=>?_)
 . have s:t<tr.length:=by simp at s;omega
   refine (h.grow G).ix hn t rfl s λa x C e1 e2 v=>⟨_,_,_,_,_,C,λan ap pO=>Gp pO λaa H J=>⟨_,ae H rfl,?_⟩⟩
   have hb:=cJ (ok.tI t s);refine (dx (by omega) (by omega) aa).mono ?_;rintro e ar ⟨rfl,O⟩;have Q:=(G.trans J).trans O;obtain ⟨U,hr,V,Z⟩:=(M.grow (J.trans O)).put lL (by unfold maxLen;omega) (pY (ok.tI t s)) (v:=(t:Int)+1) (A9 (by omega) (by omega));refine ⟨_,rfl,U,by rw [aA (by omega) (by omega)];exact hr,_,?_,t+1,wN,by omega,rfl,uC V λu=> (zE s (ok.cW s) u).symm,aD.cW Q Z (by omega)⟩;omega
 . have s:t=tr.length:=by simp at s;omega
   subst s;rw [K'] at M;exact ⟨X,rfl,M,G,by omega⟩
theorem O8 {x:Int}:jf [x]=bU x:=by unfold jf;simp
theorem QE {x:Int} {b:Nat} (h:bT w b #[.i x]):Vw sT w (some ⟨b,0,none⟩) [x]:=by
 intro j I;have:j=0:=by simpa using I
 subst this;exact ⟨_,rfl,ae h rfl⟩
theorem DH {t b nn:Nat} (h:TV w p tr) (hn:n=tr.length) (hl:tr.length<=4096) (ht:t<tr.length) (hi:Bb (aX tr t).lit=true) (M:MI prog aq aq w b nn (xQ (tr.take t))) (hv:Vw sT w q (aX tr t).rs) (hm:m=(aX tr t).rs.length) (Q:m<=maxLen):
 Calls prog jn.id #[.slice p n c,.map (some b),.agg #[.i (aX tr t).lit,.i (aX tr t).bI,.slice q m d]] w λe w'=>e=.returned (.bool (JH tr t))/\ak w w':=by
 refine jn.aj ?_;intro n1 w2 h2;have H:=h2.has;have G2:=h2.mod;generalize a':(aX tr t).rs=rs at*
 generalize a7:(aX tr t).lit=Y at*
 have J:JH tr t=(decide (rs.length<=256) && decide (Y∈rs) && Ge (tr.take t) (LeP.wo rs Y)):=by unfold JH;rw [a',a7]
 have a6:(tr.take t).length=t:=uA (by omega);have V:∀ {w':World} {x:Int},ak w w'->x∈rs->x≠Y->¬mw (tr.take t) x->(Ending.returned (.bool false)=.returned (.bool (JH tr t))/\ak w w'):=by
  intro w' x g Q O hb;have:Ge (tr.take t) (LeP.wo rs Y)=false:=by
   cases e:Ge (tr.take t) (LeP.wo rs Y) with
   |false=>rfl
   |true=>exact absurd (nB.1 e x (nY.2 ⟨Q,O⟩)) hb
  rw [J,this,VS];exact ⟨rfl,g⟩
 refine ⟨_,_,_,ae H rfl,ah (λr=>?_) (λr=>⟨_,_,_,ae H rfl,(gj (hv.grow G2) hm Q).mono ?_⟩)⟩
 . simp at r;rw [J,decide_eq_false (by omega)];exact ⟨rfl,G2⟩
 have r:rs.length<=256:=by simp at r;omega
 rintro e w5 ⟨rfl,g5⟩;have G5:=G2.trans g5;have H5:=H.grow g5;refine ⟨_,rfl,ah (λr2=>?_) (λr2=>⟨_,_,_,ae H5 rfl,_,ae H5 rfl,(xE (hv.grow G5) hm Q _).mono ?_⟩)⟩
 . have U:jf rs=false:=by
    cases e:jf rs with
    |false=>rfl
    |true=>rw [e] at r2;simp at r2
   have aa:rs.all bU=false:=by
    unfold jf at U;rw [decide_eq_true (p:=_<=4096) (by omega),WZ] at U;exact U
   rw [List.all_eq_false] at aa;obtain ⟨x,bg,av⟩:=aa;refine V G5 bg (λe=>?_) λhb=>?_
   . subst e;exact av hi
   . exact av hb.tI
 have U:jf rs=true:=by
  cases e:jf rs with
  |true=>rfl
  |false=>rw [e] at r2;simp at r2
 have aw:=(cy U).1;rintro e w9 ⟨rfl,g9⟩;have G9:=G5.trans g9;have H9:=H5.grow g9;refine ⟨_,rfl,ah (λr3=>?_) (λr3=>⟨_,_,_,ae H9 rfl,?_⟩)⟩
 . have r3:Y ∉ rs:=by simpa using r3
   rw [J,decide_eq_false r3,VS];exact ⟨rfl,G9⟩
 have r3:Y∈rs:=by simpa using r3
 refine ⟨λI w' k=>∃j:Nat,I=j/\j<=rs.length/\k=rs.length - j/\(∀x∈rs.take j,x≠Y->mw (tr.take t) x)/\ak w2 w',⟨_,0,rfl,vx _,rfl,by simp,g5.trans g9⟩,?_⟩;rintro I a8 k _ ⟨j,rfl,hj,rfl,ha,G⟩;refine ah (λs=>?_) (λs=>?_)
 . have s:j<rs.length:=by simp at s;omega
   refine (hv.grow (G2.trans G)).ix 0 (by omega) hm (by omega) λa e=>⟨_,e,_,ae (H.grow G) rfl,?_⟩
   rw [tn];refine ah (λr4=>⟨_,?_,j+1,wN,by omega,rfl,λx Q O=>?_,G⟩) (λr4=>?_)
   . omega
   . rcases (dJ s).1 Q with e|e
     . exact ha x e O
     . exact absurd (e.trans (by simpa using r4)) O
   have r4:rs.getD j 0≠Y:=by simpa using r4
   have ac:=aw _ (bN s);have hb:=cJ ac;refine (dx (by omega) (by omega) a8).mono ?_;rintro e bb ⟨rfl,ax⟩;have Z:=(G2.trans G).trans ax;refine ⟨_,rfl,bb,_,(M.grow Z).cP lL (pY ac),ah (λX=>?_) (λX=>?_)⟩
   . refine V Z (bN s) r4 λhB=>?_;have X:xQ (tr.take t) (am (rs.getD j 0))=0:=by simpa using X
     exact u6.1 X hB.lt
   have X:dy (tr.take t) (am (rs.getD j 0))< (tr.take t).length:=UP λe=>by
    rw [u6.2 e] at X;simp at X
   have r6:=X;rw [a6] at r6;rw [oP (by omega) X];refine (h.grow Z).ix hn _ rfl (by omega) λa2 x C e1 e2 v=>⟨_,C.1,?_⟩
   rw [aA (by omega) (by omega),Int.zero_sub];refine ah (λr7=>V Z (bN s) r4 λhB=>?_) (λr7=>⟨_,?_,j+1,wN,by omega,rfl,λx Q O=>?_,G.trans ax⟩)
   . have:=hB.eq;rw [kY r6] at this;rw [this] at r7;simp at r7
   . omega
   . rcases (dJ s).1 Q with e|e
     . exact ha x e O
     . subst e;refine ⟨ac,X,?_⟩;rw [kY r6];simpa using r7
 . have s:j=rs.length:=by simp at s;omega
   subst s;rw [K'] at ha;refine ⟨?_,G2.trans G⟩;rw [J,decide_eq_true r,decide_eq_true r3,nB.2 λx Q=>ha x (nY.1 Q).1 (nY.1 Q).2];rfl
theorem RJ (t:Nat):Ni tr t=(Bb (aX tr t).lit && decide (¬dy (tr.take t) (am (aX tr t).lit)<t) && decide (ji tr t<=(aX tr t).bI/\(aX tr t).bI<=ji tr t+1) &&
 (if (aX tr t).bI>ji tr t then (aX tr t).rs.isEmpty else JH tr t)):=rfl
theorem vE (h:TV w p tr) (hn:n=tr.length):Calls prog mO.id #[.slice p n c] w λe w'=>e=.returned (.bool (rJ tr))/\ak w w':=by
 refine mO.aj ?_;refine ah (λq=>?_) (λq=>?_)
 . simp at q;refine ⟨?_,aD.refl w⟩;unfold rJ;rw [decide_eq_false (by omega)];rfl
 have hl:tr.length<=4096:=by simp at q;omega
 intro n1 w2 h2;have e1:=h2.num;have M2:MI prog aq aq w2 n1 0 (xQ (tr.take 0)):=uC (MI.new h2) λu=> (HT u).symm;refine ⟨λL I w' k=>∃t:Nat,I=t/\t<=tr.length/\L=ji tr t/\(List.range t).all (Ni tr)=true/\k=tr.length - t/\MI prog aq aq w' n1 t (xQ (tr.take t))/\ak w w',⟨_,0,rfl,vx _,Bp.symm,rfl,rfl,M2,h2.mod⟩,?_⟩;rintro L I w8 k _ ⟨t,rfl,ht,rfl,ha,rfl,M,G⟩;refine ah (λs=>?_) (λs=>⟨?_,G⟩)
 . have s:t<tr.length:=by simp at s;omega
   have pI:∀ {w':World},ak w w'->Ni tr t=false->(Ending.returned (.bool false)=.returned (.bool (rJ tr))/\ak w w'):=λg hf=>by
    rw [Hl s hf];exact ⟨rfl,g⟩
   have a7:=Iv ht (by omega) ha;have a6:(tr.take t).length=t:=uA ht;have b3:0<=ji tr t/\ji tr t<=t:=by
    cases t with
    |zero=>rw [Bp];omega
    |succ t=>
     rw [vX];have h1:=a7.nn (i:=t) (by omega);have h2:=a7.le (i:=t) (by omega);rw [kY (by omega)] at h1 h2;omega
   refine (h.grow G).ix hn t rfl s λa x C e1 e2 v=>⟨_,_,_,_,_,C,λb5 bu ar=>Gp ar λbY H an=>⟨_,ae H rfl,λbx bn ux=>?_⟩⟩
   have vw:=QE ux.has;refine (gj vw rfl (by unfold maxLen;simp)).mono ?_;rw [O8];rintro e bc ⟨rfl,bg⟩;have g:=(ux.mod.trans bg)
   have aw:=(G.trans an).trans g;have ay:=H.grow g;have J:=RJ (tr:=tr) t;refine ⟨_,rfl,ah (λr=>pI aw ?_) (λr=>?_)⟩
   . have:Bb (aX tr t).lit=false:=by
      cases e:Bb (aX tr t).lit with
      |false=>rfl
      |true=>rw [<- Et,e] at r;simp at r
     rw [J,this];rfl
   have r:Bb (aX tr t).lit=true:=by
    cases e:Bb (aX tr t).lit with
    |true=>rfl
    |false=>rw [<- Et,e] at r;simp at r
   have hb:=cJ r;refine ⟨_,ae ay rfl,(dx (by omega) (by omega) bc).mono ?_⟩;rintro e az ⟨rfl,Z⟩;have O:=aw.trans Z;have Q:=ay.grow Z;have ac:=M.grow ((an.trans g).trans Z);refine ⟨_,rfl,az,_,ac.cP lL (pY r),ah (λV=>pI O ?_) (λV=>?_)⟩
   . have V:dy (tr.take t) (am (aX tr t).lit)<t:=UP λe=>by
      rw [u6.2 (by rw [a6];exact e)] at V;simp at V
     rw [J,decide_eq_false (by simp [V]),VS];rfl
   have V: ¬dy (tr.take t) (am (aX tr t).lit)<t:=λe=>by
    unfold xQ at V;rw [a6,if_pos e] at V;simp at V
   rw [aA (by omega) (by omega)];refine ⟨_,ae Q rfl,ah (λr3=>pI O ?_) (λr3=>⟨_,ae Q rfl,ah (λr4=>pI O ?_) (λr4=>⟨_,ae Q rfl,_,_,_,ae Q rfl,?_⟩)⟩)⟩
   . simp at r3;rw [J,decide_eq_false (p:=_<=_/\_) (by omega),VS];rfl
   . simp at r4;rw [J,decide_eq_false (p:=_<=_/\_) (by omega),VS];rfl
   have r3:ji tr t<=(aX tr t).bI:=by simpa using r3
   have r4:(aX tr t).bI<=ji tr t+1:=by simpa using r4
   rw [r,decide_eq_true (p:= ¬_) V,decide_eq_true (p:=_<=_/\_) ⟨r3,r4⟩,WZ,WZ,VL] at J;refine ah (λY=>pI O ?_) (λY=>ah (λr6=>?_) (λr6=>?_))
   . rw [J];split
     . rename_i e;rw [decide_eq_true e] at Y;simp [e1] at Y;simp [Y]
     . rename_i e;rw [decide_eq_false e] at Y;simp [e1] at Y;unfold JH;rw [Y];simp
   . have r6: ¬(aX tr t).bI>ji tr t:=by simpa using r6
     rw [if_neg r6] at J;refine ⟨_,_,_,_,_,jq Q,(DH (h.grow O) hn hl s r ac (v.grow ((an.trans g).trans Z)) e1 e2).mono ?_⟩;rintro e bf ⟨rfl,aa⟩;have a8:=Q.grow aa;refine ⟨_,rfl,ah (λr7=>pI (O.trans aa) (by rw [J];simpa using r7)) (λr7=>⟨_,ae a8 rfl,(dx (by omega) (by omega) bf).mono ?_⟩)⟩;rintro e bi ⟨rfl,U⟩;obtain ⟨ap,hr,av,X⟩:=(ac.grow (aa.trans U)).put lL (by unfold maxLen;omega) (pY r) (v:=(t:Int)+1) (A9 (by omega) (by omega));refine ⟨_,rfl,ap,by rw [aA (by omega) (by omega)];exact hr,_,ae ((a8.grow U).put X (λe=>?_)) rfl,_,?_,t+1,wN,by omega,vX.symm,sf ha (by rw [J];simpa using r7),rfl,uC av λu=> (zE s V u).symm,aD.cW ((O.trans aa).trans U) X (by omega)⟩
     . have:=ar.num;have:=M.lt;omega
     . omega
   . have r6:(aX tr t).bI>ji tr t:=by simpa using r6
     rw [if_pos r6] at J;have r7:(aX tr t).rs.isEmpty=true:=by
      rw [decide_eq_true r6] at Y;simp [e1] at Y;simp [Y]
     refine ⟨_,ae Q rfl,(dx (by omega) (by omega) az).mono ?_⟩;rintro e bi ⟨rfl,U⟩;obtain ⟨ap,hr,av,X⟩:=(ac.grow U).put lL (by unfold maxLen;omega) (pY r) (v:=(t:Int)+1) (A9 (by omega) (by omega));refine ⟨_,rfl,ap,by rw [aA (by omega) (by omega)];exact hr,_,ae ((Q.grow U).put X (λe=>?_)) rfl,_,?_,t+1,wN,by omega,vX.symm,sf ha (by rw [J];exact r7),rfl,uC av λu=> (zE s V u).symm,aD.cW (O.trans U) X (by omega)⟩
     . have:=ar.num;have:=M.lt;omega
     . omega
 . have s:t=tr.length:=by simp at s;omega
   subst s;rw [IB hl ha]
theorem wW (h:TV w p tr) (hn:n=tr.length) (ok:fC tr) (hl:tr.length<=4096) (hc:Vw sT w q l) (hk:m=l.length) (X:m<=maxLen) (hi:∀x∈l,Bb x=true):
 Calls prog lB.id #[.slice p n c,.slice q m d] w λe w'=>e=.returned (.bool (Ge tr l))/\ak w w':=by
 refine lB.aj ?_;have aa:=X;unfold maxLen at aa;refine (qg h hn ok hl).mono ?_;rintro e w1 ⟨b,rfl,M1,g1,_⟩;refine ⟨_,rfl,λI w' k=>∃t:Nat,I=t/\t<=l.length/\k=l.length - t/\(∀x∈l.take t,mw tr x)/\ak w1 w',⟨_,0,rfl,vx _,rfl,by simp,aD.refl w1⟩,?_⟩;rintro I w7 k _ ⟨t,rfl,ht,rfl,ha,G⟩;have O:∀ {w':World} {x:Int},ak w w'->x∈l->¬mw tr x->(Ending.returned (.bool false)=.returned (.bool (Ge tr l))/\ak w w'):=by
  intro w' x g X hb;have:Ge tr l=false:=by
   cases e:Ge tr l with
   |false=>rfl
   |true=>exact absurd (nB.1 e x X) hb
  rw [this];exact ⟨rfl,g⟩
 refine ah (λs=>?_) (λs=>?_)
 . have s:t<l.length:=by simp at s;omega
   refine (hc.grow (g1.trans G)).ix 0 (by omega) hk (by omega) λa e=>⟨_,e,?_⟩
   rw [tn];have V:=hi _ (bN s);have hb:=cJ V;refine (dx (by omega) (by omega) w7).mono ?_;rintro e Z ⟨rfl,Q⟩;have U:=(g1.trans G).trans Q;refine ⟨_,rfl,Z,_,(M1.grow (G.trans Q)).cP lL (pY V),ah (λJ=>?_) (λJ=>?_)⟩
   . refine O U (bN s) λhB=>?_;have J:xQ tr (am (l.getD t 0))=0:=by simpa using J
     exact u6.1 J hB.lt
   have J:dy tr (am (l.getD t 0))<tr.length:=UP λe=>by
    rw [u6.2 e] at J;simp at J
   rw [oP hl J];refine (h.grow U).ix hn _ rfl J λa2 x C e1 e2 v=>⟨_,C.1,?_⟩
   rw [aA (by omega) (by omega),Int.zero_sub];refine ah (λY=>O U (bN s) λhB=>?_) (λY=>⟨_,?_,t+1,wN,by omega,rfl,λx X=>?_,G.trans Q⟩)
   . rw [hB.eq] at Y;simp at Y
   . omega
   . rcases (dJ s).1 X with e|e
     . exact ha x e
     . subst e;exact ⟨V,J,by simpa using Y⟩
 . have s:t=l.length:=by simp at s;omega
   subst s;rw [K'] at ha;rw [nB.2 ha];exact ⟨rfl,g1.trans G⟩
def uo (tr:List As) (l:List Int):Bool:=rJ tr && jf l && Ge tr l
theorem A6 (h:TV w p tr) (hn:n=tr.length) (X:Vw sT w q l) (Y:m=l.length) (U:m<=maxLen):
 Calls prog mL.id #[.slice p n c,.slice q m d] w λe w'=>e=.returned (.i (if uo tr l then 0 else 1))/\ak w w':=by
 refine mL.aj ?_;refine (vE h hn).mono ?_;rintro e w1 ⟨rfl,O⟩;refine ⟨_,rfl,ah (λr=>⟨?_,O⟩) (λr=> (gj (X.grow O) Y U).mono ?_)⟩
 . have r:rJ tr=false:=by simpa using r
   unfold uo;rw [r];rfl
 have r:rJ tr=true:=by simpa using r
 rintro e w3 ⟨rfl,Q⟩;refine ⟨_,rfl,ah (λI=>⟨?_,O.trans Q⟩) (λI=>?_)⟩
 . have:jf l=false:=by
    cases e:jf l with
    |false=>rfl
    |true=>rw [e] at I;simp at I
   unfold uo;rw [this,VS];rfl
 have I:jf l=true:=by
  cases e:jf l with
  |true=>rfl
  |false=>rw [e] at I;simp at I
 obtain ⟨ok,hl⟩:=q_ r;refine (wW (h.grow (O.trans Q)) hn ok hl (X.grow (O.trans Q)) Y U (cy I).1).mono ?_;rintro e Z ⟨rfl,V⟩;refine ⟨_,rfl,ah (λJ=>⟨?_,(O.trans Q).trans V⟩) (λJ=>⟨?_,(O.trans Q).trans V⟩)⟩
 . have J:Ge tr l=false:=by simpa using J
   unfold uo;rw [J,VS];rfl
 . have J:Ge tr l=true:=by simpa using J
   unfold uo;rw [r,I,J];rfl
end
section
variable {W0 w w':World} {p q:sn} {n c m d ns b1 b2 nb:Nat} {tr:List As} {l:List Int} {s:Int->Bool}
structure AQ (W0 w:World) (ns:Nat) (p:sn) (n c:Nat) (tr:List As) (b1 b2:Nat):Prop where
 tv:TV W0 p tr
 hn:n=tr.length
 ok:fC tr
 hl:tr.length<=4096
 G:ak W0 w
 h:bT w ns #[.slice p n c,.map (some b1),.map (some b2)]
 M:MI prog aq aq w b1 tr.length (xQ tr)
 f2:W0.heap.size<=b2
 d1:b1≠b2
 d2:ns≠b2
theorem AQ.keep {S:Nat->Prop} (h:AQ W0 w ns p n c tr b1 b2) (m:aD S w w') (J:∀b,S b->W0.heap.size<=b) (h1: ¬S ns) (I: ¬S b1):AQ W0 w' ns p n c tr b1 b2:=
 ⟨h.tv,h.hn,h.ok,h.hl,h.G.then m λx O e=>by have:=J x e;omega,h.h.keep m h1,h.M.keep m I,h.f2,h.d1,h.d2⟩
theorem AQ.grow (h:AQ W0 w ns p n c tr b1 b2) (m:ak w w'):AQ W0 w' ns p n c tr b1 b2:=h.keep m (λ_ e=>e.elim) id id
theorem AQ.put (h:AQ W0 w ns p n c tr b1 b2) (m:aD (·=b2) w w'):AQ W0 w' ns p n c tr b1 b2:=h.keep m (λ_ (e:_=b2)=>by subst e;exact h.f2) h.d2 h.d1
theorem xl {l:Int} (h: -9223372036854775808<l) (I:l<9223372036854775808) (w:World):Calls prog cR.id #[.i l] w λe w'=>e=.returned (.i (am l))/\w'=w:=by
 refine cR.aj ?_;unfold cR.w;rw [aA (x:=0 - l) (by omega) (by omega)];refine ⟨?_,rfl⟩;unfold imax am;congr 2;split<;>split<;>omega
theorem E6 (h:AQ W0 w ns p n c tr b1 b2) {x:Int} (J:mw tr x):Calls prog di.id #[.pointer (some ⟨ns,0,none⟩),.i x] w λe w'=>e=.returned (.i (lv tr x))/\w'=w.drew:=by
 refine di.aj ?_;have hb:=cJ J.tI;have H:bT w.drew ns _:=h.h.drew;have sl:w.drew.cell? ((qw ns).add 0)=some (.slice p n c):=ae H rfl;have mp:w.drew.cell? ((qw ns).add 1)=some (.map (some b1)):=ae H rfl;have O:ak w w.drew:=(aD.refl w).drew;have I:∀ {Q:Ending->World->Prop},Q (.returned (.i (am x))) w.drew->Calls prog cR.id #[.i x] w.drew Q:=λU=>by
  refine (xl (by omega) (by omega) w.drew).mono ?_;rintro e u ⟨rfl,rfl⟩;exact U
 have cP:(Instr.lookup dO (.map (some b1)) (.i (am x)) false).run prog w.drew=.ok (.i (xQ tr (am x))) w.drew:=(h.M.grow O).cP lL (pY J.tI);have dG:aW p n (IntKind.i64.wrap (xQ tr (am x) - 1)) 3 λa=>∃y:Int,w.drew.cell? (a.add 1)=some (.i y)/\(Ending.returned (.i y)=.returned (.i (lv tr x))/\w.drew=w.drew):=by
  rw [oP h.hl J.lt];exact (h.tv.grow (h.G.trans O)).ix h.hn _ rfl J.lt λa s C X V v=>⟨_,C.2.1,rfl,rfl⟩
 refine ⟨_,rfl,_,rfl,⟨_,_,_,sl,⟨_,mp,I ⟨_,rfl,_,_,cP,dG⟩⟩,I ⟨_,rfl,_,mp,_,_,cP,dG⟩⟩,
  ⟨_,mp,⟨_,_,_,sl,I ⟨_,rfl,_,_,cP,dG⟩⟩,I ⟨_,rfl,⟨_,_,_,sl,_,_,cP,dG⟩,⟨_,_,cP,_,_,_,sl,dG⟩⟩⟩,
  I ⟨_,rfl,_,mp,⟨_,_,_,sl,_,_,cP,dG⟩,⟨_,_,cP,_,_,_,sl,dG⟩⟩⟩
theorem zo (h:AQ W0 w ns p n c tr b1 b2) {x:Int} (J:mw tr x):Calls prog di.id #[.pointer (some ⟨ns,0,none⟩),.i x] w λe w'=>e=.returned (.i (lv tr x))/\ak w w':=
 (E6 h J).mono λ_ _ ⟨h1,I⟩=>⟨h1,by rw [I];exact (aD.refl w).drew⟩
theorem sb (h:AQ W0 w ns p n c tr b1 b2) (M:MS prog aq cC w b2 nb s) (hc:Vw sT W0 q l) (Z:m=l.length) (hx:nb+l.length<=10000000) (hi:∀x∈l,Bb x=true) (Jb:Int):
 Calls prog iK.id #[.pointer (some ⟨ns,0,none⟩),.slice q m d,.i Jb] w λe w'=>e=.returned (.tuple #[])/\AQ W0 w' ns p n c tr b1 b2/\∃J O,J<=nb+l.length/\MS prog aq cC w' b2 J O/\∀u,O u=(s u||decide (u∈l/\u≠Jb)):=by
 refine iK.aj ?_;refine ⟨λI w' k=>∃ (t J:Nat) (O:Int->Bool),I=t/\t<=l.length/\k=l.length - t/\J<=nb+t/\AQ W0 w' ns p n c tr b1 b2/\MS prog aq cC w' b2 J O/\∀u,O u=(s u||decide (u∈l.take t/\u≠Jb)),⟨_,0,nb,s,rfl,vx _,rfl,y4 _,h,M,λu=>by simp⟩,?_⟩;rintro I w5 k _ ⟨t,J,O,rfl,ht,rfl,hb,S,X,hs⟩;refine ah (λr=>?_) (λr=>?_)
 . have r:t<l.length:=by simp at r;omega
   refine (hc.grow S.G).ix 0 (by omega) Z (by omega) λa e=>⟨_,e,?_⟩
   rw [tn];refine ah (λQ=>⟨_,rfl,_,ae S.h rfl,?_⟩) (λQ=>⟨_,?_,t+1,J,O,wN,by omega,rfl,by omega,S,X,λu=>?_⟩)
   . have Q:l.getD t 0≠Jb:=by simpa using Q
     obtain ⟨V,hr,Y,U⟩:=X.put lK (by unfold maxLen;omega) (Gb (hi _ (bN r)));refine ⟨V,hr,_,?_,t+1,J+1,_,wN,by omega,rfl,by omega,S.put U,Y,λu=>?_⟩
     . omega
     . simp only [dJ r,hs u];by_cases e:u=l.getD t 0
       . rw [if_pos e];have:decide ((u∈l.take t\/u=l.getD t 0)/\u≠Jb)=true:=decide_eq_true ⟨.inr e,e▸Q⟩;rw [this,Bool.or_true]
       . rw [if_neg e];exact congrArg (s u|| ·) (decide_eq_decide.2 ⟨λh=>⟨.inl h.1,h.2⟩,λh=>⟨h.1.resolve_right e,h.2⟩⟩)
   . omega
   . have Q:l.getD t 0=Jb:=by simpa using Q
     rw [hs u];refine congrArg (s u|| ·) (decide_eq_decide.2 ?_);rw [dJ r];constructor
     . rintro ⟨a,b⟩;exact ⟨.inl a,b⟩
     . rintro ⟨a|a,b⟩
       . exact ⟨a,b⟩
       . exact absurd (a.trans Q) b
 . have r:t=l.length:=by simp at r;omega
   subst r;rw [K'] at hs;exact ⟨rfl,S,J,O,by omega,X,hs⟩
def wD (tr:List As) (c:List Int) (L N P:Int):Prop:=
 (c= []/\L=0/\N=0/\P= -1)\/((∀x∈c,lv tr x<=L)/\N=gK tr c L/\0<N/\(∃x∈c,lv tr x=L/\(dy tr (am x):Int)=P)/\∀x∈c,lv tr x=L->(dy tr (am x):Int)<=P)
theorem wD.TZ {c k:List Int} {L N P:Int} (h:wD tr c L N P) (e:c.Perm k):wD tr k L N P:=by
 rcases h with ⟨rfl,h⟩| ⟨h1,J,Q,⟨x,I,O⟩,h5⟩
 . exact .inl ⟨e.nil_eq.symm,h⟩
 . exact .inr ⟨λx I=>h1 x (e.mem_iff.2 I),by rw [J];unfold gK;rw [e.countP_eq],Q,⟨x,e.mem_iff.1 I,O⟩,λx I=>h5 x (e.mem_iff.2 I)⟩
theorem wD.step {c:List Int} {L N P a:Int} (h:wD tr c L N P):
 (N=0\/L<lv tr a->wD tr (a::c) (lv tr a) 1 (dy tr (am a)))/\(N≠0->lv tr a=L->wD tr (a::c) L (N+1) (imax P (dy tr (am a))))/\(N≠0->lv tr a<L->wD tr (a::c) L N P):=by
 refine ⟨λe=>?_,λhN e=>?_,λhN e=>?_⟩
 . have all:∀x∈c,lv tr x<lv tr a:=by
    rcases h with ⟨rfl,h⟩| ⟨h1,O,V,_⟩
    . simp
    . intro x J;have:=h1 x J;omega
   refine .inr ⟨λx J=>?_,?_,by omega,⟨a,by simp,rfl,rfl⟩,λx J hl=>?_⟩
   . rcases UI.1 J with e|e
     . rw [e];exact U3 _
     . have:=all x e;omega
   . have:c.countP (λx=>lv tr x==lv tr a)=0:=WD.2 λx J=>by
      have:=all x J;simp;omega
     unfold gK;rw [Vq,this];simp
   . rcases UI.1 J with e|e
     . rw [e];exact U3 _
     . have:=all x e;omega
 . rcases h with ⟨rfl,h⟩| ⟨h1,O,V,⟨y,Q,U,X⟩,h5⟩
   . exact absurd h.2.1 hN
   . refine .inr ⟨λx J=>?_,?_,by omega,?_,λx J hl=>?_⟩
     . rcases UI.1 J with I|I
       . rw [I,e];exact U3 _
       . exact h1 x I
     . rw [O];unfold gK;rw [Vq,if_pos (by simpa using e)];simp
     . unfold imax;split
       . exact ⟨a,by simp,e,rfl⟩
       . exact ⟨y,vy _ Q,U,X⟩
     . unfold imax;rcases UI.1 J with I|I
       . subst I;split<;>omega
       . have:=h5 x I hl;split<;>omega
 . rcases h with ⟨rfl,h⟩| ⟨h1,O,V,⟨y,Q,U⟩,h5⟩
   . exact absurd h.2.1 hN
   . refine .inr ⟨λx J=>?_,?_,V,⟨y,vy _ Q,U⟩,λx J hl=>?_⟩
     . rcases UI.1 J with I|I
       . rw [I];omega
       . exact h1 x I
     . rw [O];unfold gK;rw [Vq,if_neg (by simp;omega)];simp
     . rcases UI.1 J with I|I
       . subst I;omega
       . exact h5 x I hl
def wR (s lf:Int->Bool) (V:List Int):Prop:=V.Nodup/\∀x,x∈V↔s x=true/\lf x=false
theorem wR.nil:wR s s []:=⟨List.nodup_nil,λx=>by
 constructor
 . intro h;simp at h
 . rintro ⟨a,b⟩;rw [a] at b;simp at b⟩
theorem wR.step {lf:Int->Bool} {V:List Int} {a:Int} (h:wR s lf V) (ha:lf a=true) (hs:s a=true):wR s (λx=>lf x && x !=a) (a::V):=by
 refine ⟨WV.2 ⟨λe=>?_,h.1⟩,λx=>?_⟩
 . have:=((h.2 a).1 e).2;rw [ha] at this;simp at this
 . rw [UI,h.2 x];constructor
   . rintro (rfl| ⟨h1,I⟩)
     . exact ⟨hs,by simp⟩
     . exact ⟨h1,by show (lf x && x !=a)=false;rw [I];rfl⟩
   . rintro ⟨h1,I⟩;by_cases e:x=a
     . exact .inl e
     . refine .inr ⟨h1,?_⟩;simpa [e] using I
theorem wR.T4 {lf:Int->Bool} {V:List Int} {a:Int} (h:wR s lf V) (ha:lf a=true) (hs:s a=true):wR s (λx=>lf x && x !=a) (V++ [a]):=by
 have I:=h.step ha hs;have e:(V++ [a]).Perm (a::V):=List.perm_append_comm (l₁:=V) (l₂:= [a]);exact ⟨e.nodup_iff.2 I.1,λx=>e.mem_iff.trans (I.2 x)⟩
theorem wR.done {lf:Int->Bool} {V c:List Int} (h:wR s lf V) (hl:∀a,lf a=false) (J:∀x,s x=true↔x∈c) (I:c.Nodup):V.Perm c:=
 (List.perm_ext_iff_of_nodup h.1 I).2 λx=>by rw [h.2 x,hl x,<- J x];simp
theorem KQ (h:AQ W0 w ns p n c tr b1 b2) (M:MS prog aq cC w b2 nb s) {k:List Int} (hs:∀x,s x=true↔x∈k) (hd:k.Nodup) (hb:∀x∈k,mw tr x):
 Calls prog iR.id #[.pointer (some ⟨ns,0,none⟩)] w λe w'=>∃L N P:Int,e=.returned (.tuple #[.i L,.i N,.i P])/\wD tr k L N P/\ak w w':=by
 refine iR.aj ?_;obtain ⟨w3,ni,hr,R,g3⟩:=M.range lK;have b6:=R.lt;refine ⟨_,rfl,_,ae h.h rfl,w3,_,hr,?_⟩;refine ⟨λL N P u z=>∃ (V:List Int) (lf:Int->Bool),wR s lf V/\wD tr V L N P/\(∀x,lf x=true->s x=true)/\MR prog aq cC u b2 w.heap.size nb s lf z/\ak w u,⟨_,[],s,wR.nil,.inl ⟨rfl,rfl,rfl,rfl⟩,λx=>id,R,g3⟩,?_⟩;rintro L N P a' z _ ⟨V,lf,v,T,a6,bg,G⟩;rcases bg.next lK 0 with ⟨h0,hl,Y⟩| ⟨a,va,ar,z',ha,bv,Y,ay,bb,hz,bk⟩
 . exact .inl ⟨a',Y,_,_,_,rfl,T.TZ (v.done hl hs hd),G⟩
 refine .inr ⟨ar,_,_,Y,ar,_,_,ay,?_⟩;have ac:ak w ar:=aD.cW G bk (y4 _);have az:=a6 a ha;have hB:=hb a ((hs a).1 az);have bY:=cJ hB.tI;have v':=v.step ha az;have J:∀x,(lf x && x !=a)=true->s x=true:=λx e=>a6 x (by simp at e;exact e.1);have T':=T.step (a:=a);refine (zo (h.grow ac) hB).mono ?_;rintro e I ⟨rfl,aa⟩;have aT:=bb.grow aa;have ax:=(h.grow (ac.trans aa)).grow (aD.refl I).drew;have g0:ak I.drew I.drew:=aD.refl _;have O:ak w I.drew:=(ac.trans aa).trans (aD.refl I).drew;have mp:∀ {u:World},ak I.drew u->u.cell? ((qw ns).add 1)=some (.map (some b1)):=λg=>ae (ax.h.grow g) rfl;have U:∀ {Q:Ending->World->Prop},(∀u,ak I.drew u->Q (.returned (.i (am a))) u)->Calls prog cR.id #[.i a] I.drew Q:=λhQ=>by
  refine (dx (by omega) (by omega) I.drew).mono ?_;rintro e u ⟨rfl,g⟩;exact hQ u g
 have cP:∀ {u:World},ak I.drew u->(Instr.lookup dO (.map (some b1)) (.i (am a)) false).run prog u=.ok (.i (xQ tr (am a))) u:=λg=> (ax.M.grow g).cP lL (pY hB.tI);have X:∀ {u:World},ak I.drew u->MR prog aq cC u b2 w.heap.size nb s (λx=>lf x && x !=a) z':=λg=>aT.drew.grow g;have hw:=oP h.hl hB.lt;have N0:0<=N/\N<=1000000:=by
  have bx:N<=V.length:=by
   rcases T with ⟨rfl,_,e,_⟩| ⟨_,e,_⟩
   . rw [e];simp
   . rw [e];have:gK tr V L<=V.length:=VK;omega
  have b4:V.length<=tr.length:=by
   have inj:(V.map λx=>dy tr (am x)).Nodup:=by
    refine Wv.2 (Wr (λ{x y} hx hy bn e=>?_) v.1);exact bn ((hb x ((hs x).1 ((v.2 x).1 hx).1)).same (hb y ((hs y).1 ((v.2 y).1 hy).1)) e)
   have:=Vn inj (l₂:=List.range tr.length) λy hy=>by
    obtain ⟨x,hx,rfl⟩:=L0.1 hy;exact Vj.2 (hb x ((hs x).1 ((v.2 x).1 hx).1)).lt
   simpa using this
  have:=h.hl;refine ⟨?_,by omega⟩;rcases T with ⟨_,_,e,_⟩| ⟨_,_,e,_⟩<;>omega
 refine ⟨_,rfl,ah (λr=>?_) (λr=>ah (λr2=>?_) (λr2=>ah (λr3=>?_) (λr3=>?_)))⟩
 . have r:N=0:=by simpa using r
   have Z:=T'.1 (.inl r);rw [<- hw] at Z;exact ⟨_,rfl,⟨_,mp g0,U λu g=>⟨_,rfl,u,_,cP g,z',hz,_,_,v',Z,J,X g,O.trans g⟩⟩,U λu g=>⟨_,rfl,_,mp g,u,_,cP g,z',hz,_,_,v',Z,J,X g,O.trans g⟩⟩
 . have r2:L<lv tr a:=by simpa using r2
   have Z:=T'.1 (.inr r2);rw [<- hw] at Z;exact ⟨_,rfl,⟨_,mp g0,U λu g=>⟨_,rfl,u,_,cP g,z',hz,_,_,v',Z,J,X g,O.trans g⟩⟩,U λu g=>⟨_,rfl,_,mp g,u,_,cP g,z',hz,_,_,v',Z,J,X g,O.trans g⟩⟩
 . have r:N≠0:=by simpa using r
   have r3:lv tr a=L:=by simpa using r3
   have Z:=T'.2.1 r r3;rw [<- hw,<- aA (x:=N+1) (by omega) (by omega)] at Z;exact ⟨_,rfl,⟨_,mp g0,U λu g=>⟨_,rfl,u,_,cP g,z',hz,_,_,v',Z,J,X g,O.trans g⟩⟩,U λu g=>⟨_,rfl,_,mp g,u,_,cP g,z',hz,_,_,v',Z,J,X g,O.trans g⟩⟩
 . have r:N≠0:=by simpa using r
   have r2: ¬L<lv tr a:=by simpa using r2
   have r3:lv tr a≠L:=by simpa using r3
   exact ⟨z',hz,_,_,v',T'.2.2 r (by omega),J,aT,ac.trans aa⟩
end
section
variable {W0 w w':World} {p q:sn} {n c m d ns b1 b2 nb:Nat} {tr:List As} {l:List Int} {s:Int->Bool}
theorem M4 {V:List Int} (Q:V.Nodup) (hb:∀x∈V,mw tr x):V.length<=tr.length:=by
 have inj:(V.map λx=>dy tr (am x)).Nodup:=by
  refine Wv.2 (Wr (λ{x y} O I J e=>?_) Q);exact J ((hb x O).same (hb y I) e)
 have:=Vn inj (l₂:=List.range tr.length) λy I=>by
  obtain ⟨x,O,rfl⟩:=L0.1 I;exact Vj.2 (hb x O).lt
 simpa using this
theorem Ib (ok:fC tr) (hl:tr.length<=4096) {x:Int} (I:mw tr x):0<=lv tr x/\lv tr x<=4096:=by
 have h1:=ok.nn I.lt;have O:=ok.le I.lt;have J:=I.lt;unfold lv;omega
theorem Rn (h:AQ W0 w ns p n c tr b1 b2) {n1:Nat} (hc:bT w n1 #[.pointer (some ⟨ns,0,none⟩)]) {x y:Int} (J:mw tr x) (O:mw tr y):
 Calls prog cG.id #[.i x,.i y,.pointer (some ⟨n1,0,none⟩)] w λe w'=>e=.returned (.i (pB tr x y))/\xu w w':=by
 refine cG.aj ?_;have Y:xu w w.drew:=(xu.refl w).drew;have cl:∀ {u:World},xu w u->u.cell? (qw n1)=some (.pointer (some ⟨ns,0,none⟩)):=λg=>aV (hc.grow g.grow) rfl;have I:∀ {u:World} {z:Int} {Q:Ending->World->Prop},mw tr z->xu w u->(∀v,xu w v->Q (.returned (.i (lv tr z))) v)->Calls prog di.id #[.pointer (some ⟨ns,0,none⟩),.i z] u Q:=by
  intro u z Q hz g hQ;refine (E6 (h.grow g.grow) hz).mono ?_;rintro e v ⟨rfl,rfl⟩;exact hQ _ g.drew
 have AM:∀ {u:World} {z:Int} {Q:Ending->World->Prop},mw tr z->xu w u->(∀v,xu w v->Q (.returned (.i (am z))) v)->Calls prog cR.id #[.i z] u Q:=by
  intro u z Q hz g hQ;have hb:=cJ hz.tI;refine (xl (by omega) (by omega) u).mono ?_;rintro e v ⟨rfl,rfl⟩;exact hQ _ g
 have bx:=Ib h.ok h.hl J;have bY:=Ib h.ok h.hl O;have ax:=Ff (x:=x) J.tI;have ay:=Ff (x:=y) O.tI;have F1:(lv tr x !=lv tr y)=true->IntKind.i64.wrap (lv tr y - lv tr x)=pB tr x y:=λr=>by
  have r:lv tr x≠lv tr y:=by simpa using r
  rw [aA (by omega) (by omega)];unfold pB;rw [if_pos r]
 have F2:(lv tr x !=lv tr y)=false->IntKind.i64.wrap (am x - am y)=pB tr x y:=λr=>by
  have r:lv tr x=lv tr y:=by simpa using r
  rw [aA (by omega) (by omega)];unfold pB;rw [if_neg (by omega)]
 refine ⟨_,cl Y,I J Y λu1 Z=>⟨_,rfl,_,cl Z,I O Z λu2 g2=>⟨_,rfl,?_⟩⟩,_,cl Y,I J Y λu1 Z=>⟨_,rfl,I O Z λu2 g2=>⟨_,rfl,?_⟩⟩⟩;all_goals
  have X:=g2.drew;exact ah (λr=>⟨_,cl X,I O X λu3 U=>⟨_,rfl,_,cl U,I J U λu4 V=>⟨_,rfl,by rw [F1 r],V⟩⟩,_,cl X,I O X λu3 U=>⟨_,rfl,I J U λu4 V=>⟨_,rfl,by rw [F1 r],V⟩⟩⟩)
   (λr=>AM J g2 λu3 U=>⟨_,rfl,AM O U λu4 V=>⟨_,rfl,by rw [F2 r],V⟩⟩)
theorem OZ:gH prog cG.id=true:=by kernel_rfl
theorem GH (h:AQ W0 w ns p n c tr b1 b2) (M:MS prog aq cC w b2 nb s) {k:List Int} (hs:∀x,s x=true↔x∈k) (hd:k.Nodup) (hb:∀x∈k,mw tr x):
 Calls prog eo.id #[.pointer (some ⟨ns,0,none⟩)] w λe w'=>∃ (q:sn) (d:Nat),e=.returned (.slice q (lF tr k).length d)/\dz aq w' q d (lF tr k)/\ak w w':=by
 refine eo.aj ?_;intro n1 w2 h2;have e1:=h2.num;have G2:=h2.mod;obtain ⟨w6,ni,hr,R,g6⟩:=(M.grow G2).range lK;have H1:bT w6 n1 #[.pointer (some ⟨ns,0,none⟩)]:=h2.has.grow g6;have b9:=G2.size;have co:=R.lt;have S6:=h.grow (G2.trans g6);have b3:=h.h.lt;have cb:=h.M.lt;have bn:=h.G.size;have b5:=h2.has.lt;refine ⟨_,aV h2.has rfl,_,rfl,_,ae (h.h.grow G2) rfl,w6,_,hr,?_⟩;refine ⟨λpm nm cm u z=>∃ (V:List Int) (lf:Int->Bool),wR s lf V/\nm=V.length/\(∀x,lf x=true->s x=true)/\MR prog aq cC u b2 w2.heap.size nb s lf z/\dz aq u pm cm V/\(∀b,aG pm=some b->w6.heap.size<=b)/\aD (·=w2.heap.size) w6 u,
  ⟨_,[],s,wR.nil,rfl,λx=>id,R,Ow.nil _ _ _,λb hb=>by simp [aG] at hb,aD.refl w6⟩,?_⟩
 rintro pm nm cm U z _ ⟨V,lf,v,rfl,av,a6,O,fr,Q⟩;have hV:∀x∈V,mw tr x:=λx Z=>hb x ((hs x).1 ((v.2 x).1 Z).1);have b':=M4 v.1 hV;have hl:=h.hl;rcases a6.next lK 0 with ⟨h0,hl,I⟩| ⟨a,va,ap,z',ha,bu,I,ar,ax,hz,aT⟩
 . have bc:AQ W0 U ns p n c tr b1 b2:=S6.keep Q (λb (e:b=_)=>by omega) (λ(e:ns=_)=>by omega) (λ(e:b1=_)=>by omega);have bf:bT U n1 #[.pointer (some ⟨ns,0,none⟩)]:=H1.keep Q λ(e:n1=_)=>by omega
   have X:Cx U pm V.length V cG.id #[.pointer (some ⟨n1,0,none⟩)] (pB tr):=by
    refine ⟨rfl,by omega,OZ,λx Z y hy w' m'=>?_,y7 tr⟩;have:(#[]++ #[Value.int .i64 x,.i y]++ #[.pointer (some ⟨n1,0,none⟩)]:Array Value)= #[.i x,.i y,.pointer (some ⟨n1,0,none⟩)]:=by simp
    rw [this];have s6:=g6.size;refine Rn (bc.keep m' (λb e=>?_) (λe=>?_) (λe=>?_)) (bf.keep m' λe=>?_) (hV x Z) (hV y hy);all_goals
     have:=fr _ e;omega
   refine .inl ⟨U,I,(Dj X O).mono ?_⟩;rintro e bx ⟨rfl,l1,o1,m1,p1,s1⟩;have pk:=v.done hl hs hd;have eq:l1=lF tr k:=JT h.ok hb (λx=> (p1.mem_iff.trans pk.mem_iff)) (p1.nodup_iff.2 v.1) s1;subst eq;refine ⟨rfl,_,_,by rw [p1.length_eq],o1,?_⟩;have s6:=g6.size;refine (((G2.trans g6).then Q λx Z (e:x=_)=>?_).then m1 λx Z e=>?_)
   . omega
   . have:=fr x e;omega
 refine .inr ⟨ap,_,_,I,ap,_,_,ar,λn21 ay J=>?_⟩;have a7:=av a ha;have Y:=aT.grow J.mod;have a8:dz aq ay pm cm V:=O.keep Y λb e e2=>by
  have:=fr b e;omega
 have s6:=g6.size;have cg:=(Q.trans Y).size;refine a8.lP c9 a J.has rfl rfl fz (by omega) λb4 p' c' o' m' a_ bi=>?_;refine ⟨z',hz,V++ [a],_,v.T4 ha a7,by simp,λx e=>av x (by simp at e;exact e.1),(ax.grow J.mod).keep m' (λe=>?_) (λe=>?_),o',λb hb=>?_,(Q.trans Y).then m' λx Z e=>?_⟩
 . have:=fr _ e;have:=M.lt;omega
 . have:=fr _ e;omega
 . rcases a_ with rfl|rfl
   . exact fr b hb
   . have:=aL hb;have:=J.num;have:=J.size;omega
 . have:=fr x e;omega
def pG (tr:List As) (k:List Int):Int:=k.foldl (λm x=>if lv tr x>m then lv tr x else m) 0
theorem nu (tr:List As):∀ (k:List Int) (m:Int),(m<=k.foldl (λm x=>if lv tr x>m then lv tr x else m) m)/\(∀x∈k,lv tr x<=k.foldl (λm x=>if lv tr x>m then lv tr x else m) m)/\(k.foldl (λm x=>if lv tr x>m then lv tr x else m) m=m\/∃x∈k,lv tr x=k.foldl (λm x=>if lv tr x>m then lv tr x else m) m)
 | [],m=>⟨U3 _,by simp,.inl rfl⟩
 |y::t,m=>by
  rw [Wl];generalize J:(if lv tr y>m then lv tr y else m)=X;have hm:m<=X/\lv tr y<=X/\(X=m\/X=lv tr y):=by
   rw [<- J];split<;>omega
  obtain ⟨h1,O,Q⟩:=nu tr t X;refine ⟨by omega,λx I=>?_,?_⟩
  . rcases UI.1 I with e|e
    . subst e;omega
    . exact O x e
  . rcases Q with e| ⟨x,I,e⟩
    . rcases hm.2.2 with h|h
      . exact .inl (e.trans h)
      . exact .inr ⟨y,by simp,(e.trans h).symm⟩
    . exact .inr ⟨x,vy _ I,e⟩
theorem zx (tr:List As) (k:List Int):0<=pG tr k:=(nu tr k 0).1
theorem wG {k:List Int} {x:Int} (h:x∈k):lv tr x<=pG tr k:=(nu tr k 0).2.1 x h
theorem K0 {k:List Int} {L:Int} (Q:0<=L) (h1:∀x∈k,lv tr x<=L) (I:L=0\/∃x∈k,lv tr x=L):pG tr k=L:=by
 have a:=zx tr k;have b:=(nu tr k 0).2.2;rcases I with I| ⟨x,J,e⟩
 . rcases b with b| ⟨x,J,e⟩
   . exact b.trans I.symm
   . have:=h1 x J;unfold pG at*
     omega
 . have:=wG (tr:=tr) J;rcases b with b| ⟨y,O,U⟩
   . unfold pG at*;omega
   . have:=h1 y O;unfold pG at*
     omega
def yb (tr:List As) (l:List Int):List Int:=lF tr (lrn tr (pG tr (aY l)) tr.length (aY l))
theorem Sb (ok:fC tr) (hb:∀x∈l,mw tr x):In tr (pG tr (aY l)) (aY l) tr.length:=by
 have I:∀x∈aY l,mw tr x:=λx J=>hb x (((c6 l).mem x).1 J);refine ⟨I,λx J=>wG J,λx J _=> (I x J).lt,?_,zx _ _,(c6 l).st⟩;cases hn:aY l with
 |nil=>exact .inl rfl
 |cons y t=>
  refine .inr (qV.2 ?_);rw [<- hn];rcases (nu tr (aY l) 0).2.2 with e| ⟨x,J,e⟩
  . have O:y∈aY l:=by rw [hn];simp
    have h1:=wG (tr:=tr) O;have Q:=ok.nn (I y O).lt;refine ⟨y,O,?_⟩;have:lv tr y=(aX tr (dy tr (am y))).bI:=rfl;unfold pG at*
    omega
  . exact ⟨x,J,e⟩
end
section
variable {W0 w w':World} {p q:sn} {n c m d ns b1 b2 nb:Nat} {tr:List As} {l:List Int} {s:Int->Bool}
theorem TV.TB (h:TV w p tr) (g:ak w w') (hn:n=tr.length) {X:Int} (i:Nat) (e:X=i) (hi:i<tr.length) {K:Addr->Prop}
 (Q:∀a (s:Sl),aK w' a 0 [.i (aX tr i).lit,.i (aX tr i).bI,.slice s.p s.n s.c]->s.n=(aX tr i).rs.length->s.n<=maxLen->Vw sT w s.p (aX tr i).rs->K a):aW p n X 3 K:=by
 subst e hn;obtain ⟨a,s,rfl,O,h1,I,J⟩:=h i hi;exact ⟨a,rfl,by omega,by omega,Q _ s (by rw [tn];exact aK.keep g id O) h1 I J⟩
theorem QG {k:List Int} {L J N P:Int} {U:Nat} (T:wD tr k L N P) (I:In tr J k U):N=gK tr k J/\(0<N->∃x∈k,lv tr x=J/\(dy tr (am x):Int)=P/\∀y∈k,lv tr y=J->(dy tr (am y):Int)<=P):=by
 rcases T with ⟨rfl,h1,Q,X⟩| ⟨h1,Q,X,⟨x,O,hl,hp⟩,h5⟩
 . exact ⟨Q,λe=>by omega⟩
 . have e:L=J:=by
    have:=I.le x O;rcases I.qI with e|e
    . rw [e] at O;simp at O
    . obtain ⟨y,Y,V⟩:=qV.1 e;have:=h1 y Y;omega
   subst e;exact ⟨Q,λ_=>⟨x,O,hl,hp,h5⟩⟩
theorem RX {k:List Int} {L N P:Int} (ok:fC tr) (hb:∀x∈k,mw tr x) (T:wD tr k L N P):pG tr k=L:=by
 rcases T with ⟨rfl,h1,J,O⟩| ⟨h1,J,O,⟨x,I,hl,hp⟩,h5⟩
 . subst h1;rfl
 . refine K0 ?_ h1 (.inr ⟨x,I,hl⟩);have:=ok.nn (hb x I).lt;rw [<- hl];exact this
theorem JQ (h:TV w p tr) (hn:n=tr.length) (hc:Vw sT w q l) (hk:m=l.length) (hx:m<=maxLen):
 Calls prog mQ.id #[.slice p n c,.slice q m d] w λe w'=>∃ (q2:sn) (d2:Nat) (o:List Int),o=(if uo tr l then yb tr l else [])/\e=.returned (.tuple #[.slice q2 o.length d2,.i (if uo tr l then 0 else 1)])/\dz aq w' q2 d2 o/\ak w w':=by
 refine mQ.aj ?_;refine (A6 h hn hc hk hx).mono ?_;rintro e w1 ⟨rfl,g1⟩;refine ⟨_,rfl,ah (λr=>?_) (λr=>?_)⟩
 . have r:uo tr l=false:=by
    cases e:uo tr l with
    |false=>rfl
    |true=>rw [e] at r;simp at r
   rw [r];exact ⟨none,0,[],rfl,rfl,Ow.nil _ _ _,g1⟩
 have r:uo tr l=true:=by
  cases e:uo tr l with
  |true=>rfl
  |false=>rw [e] at r;simp at r
 rw [r];have r':=r;unfold uo at r';simp only [ts] at r';obtain ⟨⟨r1,r2⟩,r3⟩:=r';obtain ⟨ok,hl⟩:=q_ r1;have hB:=nB.1 r3;obtain ⟨Q,hlen⟩:=cy r2;refine (qg (h.grow g1) hn ok hl).mono ?_;rintro e w3 ⟨b,rfl,M3,g3,fb⟩;refine ⟨_,rfl,λn5 w6 h6 n7 w8 h8=>?_⟩;have e5:=h6.num;have e7:=h8.num;have s1:=g1.size;have s3:=g3.size;have s6:=h6.size;have lb:=M3.lt;have S8:AQ w w8 n7 p n c tr b n5:=⟨h,hn,ok,hl,((g1.trans g3).trans h6.mod).trans h8.mod,h8.has,(M3.grow h6.mod).grow h8.mod,by omega,by omega,by omega⟩
 have M8:MS prog aq cC w8 n5 0 λ_=>false:=(MS.new h6).grow h8.mod;refine (sb S8 M8 hc hk (by omega) Q 0).mono ?_;rintro e w9 ⟨rfl,S9,b8,s9,c2,M9,b_⟩;have V:∀x,s9 x=true↔x∈aY l:=λx=>by
  rw [b_ x,(c6 l).mem x];constructor
  . intro e;simp at e;exact e.1
  . intro e;have:=cJ (Q x e);simp [e,this.1]
 have a8:∀x∈aY l,mw tr x:=λx hx=>hB x (((c6 l).mem x).1 hx);refine ⟨rfl,(KQ S9 M9 V (fK (c6 l).st) a8).mono ?_⟩;rintro e ei ⟨L,N,P,rfl,T,bg⟩;have hL:=RX ok a8 T;refine ⟨_,_,_,rfl,?_⟩;refine ⟨λN P u z=>∃ (k:List Int) (nb:Nat) (s:Int->Bool) (L':Int),wD tr k L' N P/\In tr L k z/\z<=tr.length/\lrn tr L tr.length (aY l)=lrn tr L z k/\AQ w u n7 p n c tr b n5/\MS prog aq cC u n5 nb s/\(∀x,s x=true↔x∈k)/\nb<=4096+256* (tr.length - z),
  ⟨tr.length,aY l,b8,s9,L,T,hL▸Sb ok hB,y4 _,rfl,S9.grow bg,M9.grow bg,V,by omega⟩,?_⟩
 rintro N1 P1 ed z _ ⟨k,nb,s,L',T1,I1,hz,bb,S,M,hs,eg⟩;obtain ⟨hN,hP⟩:=QG T1 I1;refine ah (λr=>?a1) (λr=>ah (λr1=>ah (λr2=>?a2) (λr2=>?b1)) (λr1=>?b2))
 case' a1=>have U: ¬(gK tr k L=0\/gK tr k L=1/\0<L):=by simp at r;omega
 case' a2=>have U: ¬(gK tr k L=0\/gK tr k L=1/\0<L):=by simp at r1 r2;omega
 case' b1=>have bi:gK tr k L=0\/gK tr k L=1/\0<L:=by have:=zx tr (aY l);simp at r1 r2;omega
 case' b2=>have bi:gK tr k L=0\/gK tr k L=1/\0<L:=by simp at r r1;omega
 case b1|b2=>
  refine (GH S M hs (fK I1.nd) I1.br).mono ?_;rintro e el ⟨q2,d2,rfl,O,b5⟩;have:yb tr l=lF tr k:=by
   unfold yb;rw [hL,bb,zr bi]
  refine ⟨_,_,_,rfl,q2,d2,_,rfl,?_,?_,S.G.trans b5⟩
  . rw [if_pos rfl,if_pos rfl,this]
  . rw [if_pos rfl,this];exact O
 case a1|a2=>
  obtain ⟨x,hx,co,cc,bk⟩:=hP (by omega);clear hP;have a':=I1.br x hx;generalize Y:dy tr (am x)=I at*
  have hp:I<tr.length:=Y▸a'.lt;have X:x= -(aX tr I).lit:=by have:=a'.eq;rw [Y] at this;omega
  have a7:(aX tr I).bI=L:=by rw [<- co];unfold lv;rw [Y]
  obtain ⟨I2,a_,cm,ce⟩:=I1.step ok U hp a7 (X▸hx) λy hy cb=>by have:=bk y hy cb;omega
  obtain ⟨rl,rm,rb⟩:=ok.fE hp cm;have Z:=ok.tI I hp;have ep:=cJ Z;have cT:∀y∈(aX tr I).rs,Bb y=true:=λy hy=>by
   by_cases e:y=(aX tr I).lit
   . rw [e];exact Z
   . exact (rb y hy e).1.tI
  refine TV.TB h S.G hn I cc.symm hp λa sl C e1 e2 v=>⟨_,_,_,_,_,C,λn24 ej aT=>Gp aT λb9 H b6=>?_⟩
  have en:=aT.num;have J:=b6.trans (aD.refl b9).drew;have av:=S.grow J;have b4:=M.grow J;have lm:=M.lt;obtain ⟨ag,hr,b3,an⟩:=b4.del lK (a:= -(aX tr I).lit) (Gb (N_ Z)) 0;have cp:=av.put an;have ax:bT ag n24 _:=H.drew.keep an λ(e:n24=_)=>by omega
  have ew:IntKind.i64.wrap (0 - (aX tr I).lit)= -(aX tr I).lit:=by rw [aA (by omega) (by omega),Int.zero_sub]
  refine ⟨_,rfl,_,ae av.h rfl,_,ae H.drew rfl,ag,by rw [ew];exact hr,_,_,_,ae ax rfl,_,ae ax rfl,(sb cp b3 v e1 (by omega) cT _).mono ?_⟩;rintro e d7 ⟨rfl,bc,bx,s',dk,bf,b'⟩;have aw:∀y,s' y=true↔y∈sB tr I k:=λy=>by
   rw [b' y,kE,VM,decide_eq_true_eq];refine or_congr ?_ WK;by_cases e:y= -(aX tr I).lit
   . rw [if_pos e];simp [e]
   . rw [if_neg e,hs y];exact ⟨λa=>⟨a,e⟩,λa=>a.1⟩
  refine ⟨rfl,(KQ bc bf aw (fK I2.nd) I2.br).mono ?_⟩;rintro e eb ⟨L2,N2,P2,rfl,T2,a6⟩;exact ⟨_,_,_,rfl,I,ce,_,bx,s',L2,T2,I2,by omega,bb.trans a_,bc.grow a6,bf.grow a6,aw,by omega⟩
end
section
variable {W0 w w':World} {p q:sn} {n c m d ns b1 b2 nb:Nat} {tr:List As} {l:List Int} {s:Int->Bool}
theorem MJ {k:List Int} {t:Nat} (h:t<k.length):pG tr (k.take (t+1))=if lv tr (k.getD t 0)>pG tr (k.take t) then lv tr (k.getD t 0) else pG tr (k.take t):=by
 unfold pG;have:k[t]? =some (k.getD t 0):=by simp [List.getD,h]
 rw [UR,this,XD];rfl
theorem tH {k:List Int} (h:qU tr k):k.Nodup:=h.imp λ{a b} I e=>by subst e;exact sD tr a I
theorem pd {f:Int->Bool} {k:List Int} {t:Nat} (h:t<k.length):(k.take (t+1)).filter f=(k.take t).filter f++ (if f (k.getD t 0) then [k.getD t 0] else []):=by
 have:k[t]? =some (k.getD t 0):=by simp [List.getD,h]
 rw [UR,this,WS];generalize k.getD t 0=x;cases hf:f x<;>simp [hf]
end
end Go.Proofs.YtbdghpjnifjlmaaGreat.W.Le
