/- Layer 6: a literal is decided. -/
import Derived.Test.YtbdghpjnifjlmaaGreatPropA
import Derived.Test.YtbdghpjnifjlmaaGreatSortA
set_option linter.unusedVariables false
namespace Go.Proofs.YtbdghpjnifjlmaaGreat.W
open Go Go.Fw Go.RowKit Go.SoP Go.LiP
open Go.Proofs.Tryz (prog)
section
variable {w w' w0 w2 w3:World} {b:Nat} {H H' H2:Pt->Sl} {s t u s' T:aI} {l x y:Int} {i:Nat}
def aI.kL (s:aI):aI:=(s.set .be (s.R .be++ [((s.R .tr).length:Int)])).set .ds (s.R .ds++ [(s.done:Int)])
def aI.decide (s:aI) (l:Int):aI:=s.kL.put l (-1)
theorem oX (g:aN s) (hl:dN s.vars l) (J:s.val l=0):aN (s.decide l):=
 zj g hl J (t:=s.kL) (λy h1 I=>by unfold aI.kL;rw [ao I,ao h1]) rfl rfl rfl rfl (.inr ⟨by unfold aI.kL;rw [ao (by simp),aS],by unfold aI.kL;rw [aS],rfl⟩)
structure Sh (b:Nat) (H:Pt->Sl) (s:aI):Prop where
 cn:(H .c).n=s.nc
 wn:(H .wa).n=2* (s.vars+1)
 len:∀x,x.row=true->(H x).n=(s.R x).length
 inj:∀x y k,own b H x=some k->own b H y=some k->x=y
structure Pq (w:World) (b:Nat) (H:Pt->Sl) (s:aI) (E:Pt->Prop):Prop where
 st:bT w b (Cz s H)
 c:Row 3 Sg lg w (H .c).p (H .c).c (EA H s.gone s.nc)
 wa:Ow Sl.v aE w (H .wa).p (H .wa).c (kg H (2* (s.vars+1)))
 row:∀y,y.row=true->¬E y->Ow y.f y.T w (H y).p (H y).c (s.R y)
theorem PM.sh (h:PM w b H s):Sh b H s:=⟨h.cn,h.wn,h.len,h.inj⟩
theorem Sh.pm (k:Sh b H s) {E:Pt->Prop} (X:Pq w b H s E) (I:∀y,¬E y):PM w b H s:=⟨X.st,X.c,k.cn,X.wa,k.wn,λx J=>X.row x J (I x),k.len,k.inj⟩
theorem qf (I:∀x y k,own b H x=some k->own b H y=some k->x=y) {x:Pt} (X:x≠ .st) {q:Sl} (hp:∀k,aG q.p=some k->aG (H x).p=some k\/∀y,own b H y≠some k):
 ∀y z k,own b (bH H x q) y=some k->own b (bH H x q) z=some k->y=z:=by
 have key:∀y,y≠x->own b (bH H x q) y=own b H y:=λy e=>by
  cases y<;>first|rfl| (simp only [own];rw [aU e])
 have same:own b (bH H x q) x=aG q.p:=by rw [cA X,bq]
 intro y z k O J;by_cases U:y=x<;>by_cases Q:z=x
 . rw [U,Q]
 . subst U;rw [same] at O;rw [key z Q] at J;rcases hp k O with e|e
   . exact I y z k (by rw [cA X];exact e) J
   . exact absurd J (e z)
 . subst Q;rw [same] at J;rw [key y U] at O;rcases hp k J with e|e
   . exact I y z k O (by rw [cA X];exact e)
   . exact absurd O (e y)
 . rw [key y U] at O;rw [key z Q] at J;exact I y z k O J
theorem Sh.head (h:Sh b H s) {E:Pt->Prop} {x:Pt} (Q:x.field=true) {J:sn} {c':Nat} {l':List Int} (o:Ow x.f x.T w2 J c' l') (X:Pq w2 b H s E)
 (hp:∀k,aG J=some k->aG (H x).p=some k\/∀y,own b H y≠some k) {n':Nat} (hn:n'=l'.length) {K:World->Prop}
 (I:∀w3,Sh b (bH H x ⟨J,n',c'⟩) (s.set x l')->Pq w3 b (bH H x ⟨J,n',c'⟩) (s.set x l') (λy=>E y/\y≠x)->aD (·=b) w2 w3->K w3):
 ∃w3,bB ((qw b).add x.off) 0 [.slice J n' c'] w2 w3/\K w3:=by
 subst hn;have hr:=sN Q;obtain ⟨h1,h2,h3⟩:=dM hr;have hb:∀y k,y≠ .st->own b H y=some k->k≠b:=λy k O I e=>by subst e;exact O (h.inj y .st k I rfl)
 have U:∀k,aG J=some k->¬k=b:=λk Z e=>by
  rcases hp k Z with e2|e2
  . exact h1 (h.inj x .st k (by rw [cA h1];exact e2) (by rw [e];rfl))
  . exact e2 .st (by rw [e];rfl)
 have hl:∀i,x≠ .l i:=λi e=>by subst e;simp [Pt.field] at Q
 have ha:∀i,x≠ .a i:=λi e=>by subst e;simp [Pt.field] at Q
 have hw:∀i,x≠ .w i:=λi e=>by subst e;simp [Pt.field] at Q
 refine cz (k:=x.off) (i:=0) X.st (by cases x<;>simp [Pt.field] at Q<;>rfl) rfl λw3 Y m3=>I w3 ?_ ?_ m3
 . refine ⟨by rw [aU (Vc h2)];exact h.cn,by rw [aU (Vc h3)];exact h.wn,λy O=>?_,qf h.inj h1 hp⟩;by_cases e:y=x
   . subst e;simp only [aI.set,bq]
   . simp only [aI.set,aU e];exact h.len y O
 . refine ⟨?_,?_,?_,λy O hE=>?_⟩
   . have e:wr (Cz s H) (0+x.off+0) [.slice J l'.length c']=Cz (s.set x l') (bH H x ⟨J,l'.length,c'⟩):=by
      cases x<;>simp [Pt.field] at Q<;>simp [wr,Cz,Pt.off,bH,aI.set,Sl.v]
     rw [<- e];exact Y
   . rw [Dz hl ha,aU (Vc h2)];exact X.c.keep m3 λk I=>hb .c k (by simp) I
   . show Ow Sl.v aE w3 _ _ (kg (bH H x _) (2* (s.vars+1)));rw [mh hw,aU (Vc h3)];exact X.wa.keep m3 λk I=>hb .wa k (by simp) I
   . by_cases e:y=x
     . subst e;simp only [aI.set,bq];exact o.keep m3 λk I=>U k I
     . simp only [aI.set,aU e];exact (X.row y O λh=>hE ⟨h,e⟩).keep m3 λk I=>hb y k (dM O).1 (by rw [cA (dM O).1];exact I)
theorem PM.TT (h:PM w b H s) {E:Pt->Prop} (X:∀y,E y->y.row=true) {S:Nat->Prop} (m:aD S w w') (Q:∀k,k<w.heap.size->S k->∃y,E y/\own b H y=some k):Pq w' b H s E:=by
 have I:∀y k,¬E y->own b H y=some k->¬S k:=λy k O J hs=>by
  obtain ⟨z,U,e⟩:=Q k (h.lt y k J) hs;exact O (h.inj y z k J e▸U)
 have ne:∀y,y.row=false->¬E y:=λy O he=>by rw [X y he] at O;cases O
 exact ⟨h.st.keep m (I .st b (ne _ rfl) rfl),h.c.keep m λk J=>I .c k (ne _ rfl) J,h.wa.keep m λk J=>I .wa k (ne _ rfl) J,
  λy O e=> (h.row y O).keep m λk J=>I y k e (by rw [cA (dM O).1];exact J)⟩
theorem jg {x y:Pt} {q:Sl} (e:y≠x):own b (bH H x q) y=own b H y:=by cases y<;>first|rfl| (simp only [own];rw [aU e])
theorem PM.aC (h:PM w0 b H s) {wB:World} {U:sn} {c1:Nat} {y1 y2:Int} (o1:dz aq wB U c1 (s.R .be++ [y1])) (m1:aD (λk=>aG (H .be).p=some k) w0 wB)
 (Q:∀k,aG U=some k->aG (H .be).p=some k\/w0.heap.size<=k) {n2:Nat} (hb:bT wB n2 #[.i y2]) (hlen:(s.R .ds).length<=4000000) {n1:Nat} (az:n1=(s.R .be++ [y1]).length) {K:World->Prop}
 (I:∀w3 H',Pw w0 w3 b H H' ((s.set .be (s.R .be++ [y1])).set .ds (s.R .ds++ [y2]))->K w3):
 ∃w2,∃ (X:sn) (n' c':Nat),(Builtin.append_ #[aE,aE] aE #[.slice (H .ds).p (H .ds).n (H .ds).c,.slice (some (qw n2)) 1 1]).run prog wB=.ok (.slice X n' c') w2/\
  ∃a:Addr,(some ⟨b,0,none⟩:sn)=some a/\∃w3,bB (a.add 7) 0 [.slice U n1 c1] w2 w3/\∃a:Addr,(some ⟨b,0,none⟩:sn)=some a/\∃w4,bB (a.add 8) 0 [.slice X n' c'] w3 w4/\K w4:=by
 have X1:=h.Jb (x:=.be) rfl m1;have ar:dz aq wB (H .ds).p (H .ds).c (s.R .ds):=X1.row .ds rfl (by simp);refine ar.lP c9 y2 hb rfl (h.len .ds rfl) fz (by omega) λw2 X c' o2 m2 Z bf=>⟨_,rfl,?_⟩
 have aa:∀k,aG U=some k->¬aG (H .ds).p=some k:=λk I e=>by
  rcases Q k I with h1|h1
  . exact h.kc (x:=.ds) (by simp) (y:=.be) (by simp) h1 e
  . have:=h.lt .ds k e;omega
 have Y:aD (λk=>aG (H .be).p=some k\/aG (H .ds).p=some k) w0 w2:=(m1.mono λ_ _ e=> .inl e).trans (m2.mono λ_ _ e=> .inr e);have Q2:=h.TT (E:=λy=>y=.be\/y=.ds) (λy e=>by rcases e with rfl|rfl<;>rfl) Y λk _ e=>e.elim (λe=>⟨.be,.inl rfl,e⟩) λe=>⟨.ds,.inr rfl,e⟩
 have z1:=m1.size;have f2:∀k,aG X=some k->aG (H .ds).p=some k\/w0.heap.size<=k:=λk I=>by
  rcases Z with rfl|rfl
  . exact .inl I
  . have:=aL I;exact .inr (by omega)
 have f12:∀k,aG X=some k->aG U≠some k:=λk I e=>by
  rcases Z with rfl|rfl
  . exact aa k e I
  . have:=aL I;have:=o1.lt k e;omega
 refine h.sh.head (x:=.be) rfl (o1.keep m2 λk I=>aa k I) Q2 (λk I=> (Q k I).imp id λe=>h.cW e) az λw3 S3 Q3 m3=>⟨_,rfl,?_⟩
 refine S3.head (x:=.ds) rfl (o2.keep m3 λk I e=>?_) Q3 (λk I=>?_) (by simp) λw4 S4 Q4 m4=>I w4 (bH (bH H .be ⟨U,n1,c1⟩) .ds ⟨X,(s.R .ds).length+1,c'⟩) ?_
 . rcases f2 k I with O|O
   . exact h.kc (x:=.ds) (by simp) (y:=.st) (by simp) (k:=k) (by rw [e];rfl) O
   . have:=h.lt .st b rfl;omega
 . rw [aU (by simp)];rcases f2 k I with O|O
   . exact .inl O
   . refine .inr λy e=>?_;by_cases ey:y=.be
     . subst ey;rw [cA (by simp),bq] at e;exact f12 k I e
     . rw [jg ey] at e;have:=h.lt y k e;omega
 . refine ⟨S4.pm Q4 λy e=>?_,?_,λx k J=>?_⟩
   . rcases e.1.1 with O|O
     . exact e.1.2 O
     . exact e.2 O
   . exact ((Y.mono λk _ e=>e.elim (λe=>⟨.be,e⟩) λe=>⟨.ds,e⟩).trans (m3.mono λk _ e=>⟨.st,by rw [e];rfl⟩)).trans (m4.mono λk _ e=>⟨.st,by rw [e];rfl⟩)
   . by_cases e1:x=.ds
     . subst e1;rw [cA (by simp),bq] at J;exact (f2 k J).imp (λe=>⟨.ds,e⟩) id
     . rw [jg e1] at J;by_cases O:x=.be
       . subst O;rw [cA (by simp),bq] at J;exact (Q k J).imp (λe=>⟨.be,e⟩) id
       . rw [jg O] at J;exact .inl ⟨x,J⟩
theorem wL (h:PM w b H s) (g:aN s) (l:Int):Calls prog eQ.id #[ck b,.i l] w λe w'=>∃r:Int,e=.returned (.i r)/\∃H',((r=0/\dN s.vars l/\s.val l=0/\Pw w w' b H H' (s.decide l))\/(r=1/\¬(dN s.vars l/\s.val l=0)/\Pw w w' b H H' s)):=by
 have k:=g.wf;refine eQ.aj ((xa h k l).mono ?_);rintro e w1 ⟨rfl,g1⟩;refine ⟨_,rfl,?_⟩;cases hi:BV s.vars l with
 |false=>exact bP rfl ⟨_,rfl,H,.inr ⟨rfl,(λhh=>by rw [(jc k.eG).2 hh.1] at hi;cases hi),Pw.refl (h.grow g1) g1⟩⟩
 |true=>
  have hl:=(jc k.eG).1 hi;refine bA rfl ((pF (h.grow g1) k hl).mono ?_);rintro e w3 ⟨rfl,rfl⟩;refine ⟨_,rfl,ah (λr=>?_) (λr=>?_)⟩
  . have r:s.val l≠0:=by simpa using r
    exact ⟨_,rfl,H,.inr ⟨rfl,λh=>r h.2,Pw.refl (h.grow g1) g1⟩⟩
  . have r:s.val l=0:=by simpa using r
    have O:=(h.grow g1).drew;have kb:(s.R .be).length<=1048576:=by have:=g.P_;have:=g.Ck;have:=g.eG;omega
    have kd:(s.R .ds).length<=1048576:=by rw [g.dl];exact kb
    have kt:(s.R .tr).length<=1048576:=by have:=g.Ck;have:=g.eG;omega
    have aw:∀ {a:Addr} {u:Value},w3.drew.cell? a=some u->a.block=b->xR (aD (λk=>aG (H .be).p=some k\/aG (H .ds).p=some k) w3.drew) a u:=λhc bf u' g=>dZ g hc λe=>by
     rw [bf] at e;rcases e with e|e
     . exact O.kc (x:=.be) (by simp) (y:=.st) (by simp) rfl e
     . exact O.kc (x:=.ds) (by simp) (y:=.st) (by simp) rfl e
    have gm:∀ {w1:World},ak w3.drew w1->aD (λk=>aG (H .be).p=some k\/aG (H .ds).p=some k) w3.drew w1:=λg=>g.mono λ_ _ e=>e.elim;refine ⟨aD (λk=>aG (H .be).p=some k\/aG (H .ds).p=some k) w3.drew,aD.refl _,_,rfl,_,_,_,aw (ae O.st rfl) (cV _ _),_,rfl,_,_,_,aw (ae O.st rfl) (cV _ _),_,rfl,_,_,_,aw (ae O.st rfl) (cV _ _),
     _,rfl,_,aw (ae O.st rfl) (cV _ _),?_⟩
    rw [h.len .tr rfl];have kB:Wf s.kL:=by
     unfold aI.kL;refine ⟨k.eG,by rw [ao (by simp),ao (by simp)];exact k.va,by rw [ao (by simp),ao (by simp)];exact k.vb,by rw [ao (by simp),ao (by simp)];exact k.le,by rw [ao (by simp),ao (by simp)];exact k.re,?_,by rw [ao (by simp),ao (by simp)];exact k.tr,k.nc⟩;rw [ao (by simp),aS,UH];simp only [U9,VE];omega
    have dG:∀I H',Pw w3.drew I b H H' s.kL->Calls prog iY.id #[ck b,.i l,.i (-1)] I λe Z=>e=.returned (.tuple #[])/\
     ∃r:Int,Ending.returned (.i 0)=.returned (.i r)/\∃H',((r=0/\dN s.vars l/\s.val l=0/\Pw w Z b H H' (s.decide l))\/(r=1/\¬(dN s.vars l/\s.val l=0)/\Pw w Z b H H' s)):=by
     intro I H' P;refine (Gx P.pm kB (l:=l) hl (-1)).mono ?_;rintro e Z ⟨rfl,q,P2⟩;exact ⟨rfl,_,rfl,_,.inl ⟨rfl,hl,r,(P.trans P2).dA (g1.trans (aD.refl _).drew)⟩⟩
    have fr:∀ {u:World} {p':sn},ak w3.drew u->(p'=(H .be).p\/p'=some ⟨u.heap.size,0,none⟩)->∀k,aG p'=some k->aG (H .be).p=some k\/w3.drew.heap.size<=k:=λg hp k hk=>by
     rcases hp with rfl|rfl
     . exact .inl hk
     . have:=aL hk;have:=g.size;exact .inr (by omega)
    have ax:∀ {u:World},ak w3.drew u->dz aq u (H .be).p (H .be).c (s.R .be):=λg=> (O.grow g).row .be rfl;have a8:∀ {n:Nat} {u v:World} {o:Obj},ak w3.drew u->jI o u n v->¬aG (H .be).p=some n:=λg hn e=>by
     have:=O.lt .be _ e;have:=hn.num;have:=g.size;omega
    refine ⟨?_,?_⟩
    . intro n14 b9 az;have J:=az.mod;refine ⟨gm J,?_,?_⟩
      . refine (ax J).lP c9 _ az.has rfl (h.len .be rfl) fz (by omega) λb4 p1 c1 o1 m1 X a6=>⟨(gm J).trans (m1.mono λ_ _ e=> .inl e),?_⟩
        intro bn a' ag;have aT:aD (λk=>aG (H .be).p=some k) w3.drew a':=((J.mono λ_ _ e=>e.elim).trans m1).trans (ag.mod.mono λ_ _ e=>e.elim);refine ⟨aT.mono λ_ _ e=> .inl e,O.aC (o1.grow ag.mod) aT (fr J X) ag.has (by omega) (by simp) λI H' P=>dG I H' P⟩
      . intro n27 bY Y;have U:=J.trans Y.mod;refine ⟨gm U,(ax U).lP c9 _ (az.has.grow Y.mod) rfl (h.len .be rfl) fz (by omega) λbc p1 c1 o1 m1 X a6=>⟨(gm U).trans (m1.mono λ_ _ e=> .inl e),?_⟩⟩;exact O.aC o1 ((U.mono λ_ _ e=>e.elim).trans m1) (fr U X) (Y.has.keep m1 (a8 J Y)) (by omega) (by simp) λI H' P=>dG I H' P
    . intro b5 b8 av;have a7:=av.mod;refine ⟨gm a7,?_⟩;intro b6 b_ ar;have Q:=a7.trans ar.mod;refine ⟨gm Q,(ax Q).lP c9 _ ar.has rfl (h.len .be rfl) fz (by omega) λbc p1 c1 o1 m1 X a6=>⟨(gm Q).trans (m1.mono λ_ _ e=> .inl e),?_⟩⟩;exact O.aC o1 ((Q.mono λ_ _ e=>e.elim).trans m1) (fr Q X) ((av.has.grow ar.mod).keep m1 (a8 (aD.refl _) av)) (by omega) (by simp) λI H' P=>dG I H' P
end
section
variable {w w' w0 w2 w3:World} {b:Nat} {H H' H2:Pt->Sl} {s t u s' T:aI} {l x y:Int} {i:Nat}
def Fm (va:List Int) (I:List Int):List Int:=I.foldl (λva x=>va.set (bh x).toNat 0) va
theorem CA:∀ (I va:List Int),(Fm va I).length=va.length
 | [],_=>rfl
 |x::I,va=>by
  show (Fm (va.set (bh x).toNat 0) I).length=_;rw [CA I];simp
theorem Cy {k:Nat}:∀ (I va:List Int),(Fm va I).getD k 0=if ∃x∈I,(bh x).toNat=k then 0 else va.getD k 0
 | [],va=>by simp [Fm]
 |x::I,va=>by
  show (Fm (va.set (bh x).toNat 0) I).getD k 0=_;rw [Cy I];by_cases h:∃y∈I,(bh y).toNat=k
  . obtain ⟨y,J,e⟩:=h;rw [if_pos ⟨y,J,e⟩,if_pos ⟨y,vy _ J,e⟩]
  . rw [if_neg h];by_cases e:(bh x).toNat=k
    . rw [if_pos ⟨x,UJ ..,e⟩];simp only [y6,VC];rw [if_pos e];split<;>simp
    . rw [if_neg]
      . simp only [y6,VC];rw [if_neg e]
      . rintro ⟨y,J,O⟩;rcases UI.1 J with rfl|J
        . exact e O
        . exact h ⟨y,J,O⟩
theorem LY (va I:List Int) (x:Int):Fm va (I++ [x])=(Fm va I).set (bh x).toNat 0:=by simp [Fm]
def aI.bW (s:aI) (L:Nat):aI:=
 {((((s.set .va (Fm (s.R .va) ((s.R .tr).drop ((s.R .be).getD L 0).toNat))).set .tr ((s.R .tr).take ((s.R .be).getD L 0).toNat)).set .be ((s.R .be).take L)).set .ds ((s.R .ds).take L)) with
  done:=min (min s.done ((s.R .be).getD L 0).toNat) ((s.R .ds).getD L 0).toNat}
theorem gM {l:List Int} {k j:Nat} (h:j<k):(l.take k).getD j 0=l.getD j 0:=by
 simp only [y6,Vf];rw [if_pos h]
theorem mj (g:aN s) {L:Nat} (hL:L< (s.R .be).length):aN (s.bW L):=by
 have hb:=g.bl L hL;have b7:=g.db L hL;have b8:=g.dl;obtain ⟨A,hA⟩: ∃A:Nat,((s.R .be).getD L 0).toNat=A:=⟨_,rfl⟩
 have a':(s.R .be).getD L 0=(A:Int):=by omega
 have b4:A< (s.R .tr).length:=by omega
 have aw:(s.bW L).R .va=Fm (s.R .va) ((s.R .tr).drop A):=by rw [<- hA];unfold aI.bW;simp [aI.set,bH]
 have I:(s.bW L).R .tr=(s.R .tr).take A:=by rw [<- hA];unfold aI.bW;simp [aI.set,bH]
 have O:(s.bW L).R .be=(s.R .be).take L:=by unfold aI.bW;simp [aI.set,bH]
 have av:(s.bW L).R .ds=(s.R .ds).take L:=by unfold aI.bW;simp [aI.set,bH]
 have eR:∀y,y≠ .va->y≠ .tr->y≠ .be->y≠ .ds->(s.bW L).R y=s.R y:=λy a1 a2 a3 a4=>by unfold aI.bW;simp [aI.set,bH,a1,a2,a3,a4]
 have a8:(s.bW L).done=min (min s.done A) ((s.R .ds).getD L 0).toNat:=by rw [<- hA];rfl
 have aT:=eR .le (by simp) (by simp) (by simp) (by simp);have a7:=eR .re (by simp) (by simp) (by simp) (by simp);have Z:=eR .lo (by simp) (by simp) (by simp) (by simp);have el:∀i,(s.bW L).R (.l i)=s.R (.l i):=λi=>eR _ (by simp) (by simp) (by simp) (by simp);have ea:∀i,(s.bW L).R (.a i)=s.R (.a i):=λi=>eR _ (by simp) (by simp) (by simp) (by simp);have ew:∀i,(s.bW L).R (.w i)=s.R (.w i):=λi=>eR _ (by simp) (by simp) (by simp) (by simp);have a6:∀x,(s.bW L).bI x=s.bI x:=λx=>by unfold aI.bI;rw [aT]
 have ar:∀x,(s.bW L).m_ x=s.m_ x:=λx=>by unfold aI.m_;rw [a7]
 have lt:((s.R .tr).take A).length=A:=by rw [GD];omega
 have lb:((s.R .be).take L).length=L:=by rw [GD];omega
 have sub:∀x,x∈(s.R .tr).take A->x∈s.R .tr:=λx J=>UN J;have later:∀p:Int,p∈(s.R .be).drop L->(A:Int)<=p:=λp hp=>by
  obtain ⟨j,Y,e⟩:=I'.1 hp;rw [U0] at Y;rw [XC] at e;have ep:(s.R .be).getD (L+j) 0=p:=by simp [List.getD,show L+j< (s.R .be).length by omega,e]
  rcases UZ j with h|h
  . subst h;rw [Ws,a'] at ep;omega
  . have:=g.bs L (L+j) (by omega) (by omega);rw [a',ep] at this;omega
 have nd:=g.nd;have ay:∀x,dN s.vars x->(s.bW L).val x=if ∃y∈(s.R .tr).drop A,bh y=bh x then 0 else s.val x:=λx J=>by
  have b6:=J.bh;have key:∀k:Nat,((k:Int)=bh x)->((Fm (s.R .va) ((s.R .tr).drop A)).getD k 0=if ∃y∈(s.R .tr).drop A,bh y=bh x then 0 else (s.R .va).getD k 0):=λk hk=>by
   rw [Cy];have:(∃y∈(s.R .tr).drop A,(bh y).toNat=k)↔∃y∈(s.R .tr).drop A,bh y=bh x:=by
    constructor
    . rintro ⟨y,X,e⟩;have:=(g.tv y (Xh X)).bh;exact ⟨y,X,by omega⟩
    . rintro ⟨y,X,e⟩;exact ⟨y,X,by omega⟩
   by_cases h:∃y∈(s.R .tr).drop A,bh y=bh x
   . rw [if_pos (this.2 h),if_pos h]
   . rw [if_neg (λh2=>h (this.1 h2)),if_neg h]
  unfold aI.val;rw [aw];by_cases e:x<0
  . rw [if_pos e,if_pos e,key _ (by unfold bh;rw [if_pos e];omega)];split<;>simp
  . rw [if_neg e,if_neg e,key _ (by unfold bh;rw [if_neg e];omega)]
 have apart:∀x∈(s.R .tr).take A,∀y∈(s.R .tr).drop A,bh y≠bh x:=λx J y X e=>by
  have h1:((s.R .tr).take A++ (s.R .tr).drop A).map bh=(s.R .tr).map bh:=by rw [Vi]
  rw [<- h1,LV,VQ] at nd;exact nd.2.2 (bh x) (U1 J) (bh y) (U1 X) e.symm
 have tt:∀D,D<=A->((s.R .tr).take A).take D=(s.R .tr).take D:=λD hD=>by rw [Wu,U7 hD]
 have U:(s.bW L).vars=s.vars:=rfl;have enc:(s.bW L).nc=s.nc:=rfl;have Q:∀i,(s.bW L).aO i↔s.aO i:=λ_=>WK;generalize s.bW L=t at*
 refine ⟨by rw [U];exact g.eG,by rw [enc];exact g.Ka,by rw [aw,CA,U];exact g.va,λk=>?_,by rw [aT,U];exact g.le,by rw [a7,U];exact g.rl,λx J=>by rw [U];exact g.tv x (sub x (by rw [I] at J;exact J)),?_,λx J=>?_,λj Y=>?_,λp q bk hq=>?_,by rw [O,av,GD,GD,g.dl],λj Y=>?_,λp hp=>?_,λp hp hm=>?_,λp hp hm=>?_,
  by rw [a8,I,lt];omega,λi hi x J=>by rw [U];exact g.cv i ((Q i).1 hi) x (by rw [el] at J;exact J),λi hi=>by rw [el];exact g.cn i ((Q i).1 hi),λi hi=>by rw [el];exact g.cl i ((Q i).1 hi),λi hi=>by rw [el,ea];exact g.ca i ((Q i).1 hi),λi=>by rw [ea];exact g.al i,
  λj c hc=>?_,λi hi x J=>?_,λj=>by rw [ew];exact g.w3 j,λc hc=>by rw [Z] at hc;obtain ⟨i,e1,e2⟩:=g.o1 c hc;exact ⟨i,e1,(Q i).2 e2⟩,λi hi h=>by rw [Z];exact g.o2 i ((Q i).1 hi) (by rw [el] at h;exact h),by rw [Z];exact g.o3,λi hi h=>?_,λj Y i hi h=>?_⟩
 . rw [aw,Cy];split
   . exact .inl rfl
   . exact g.vb k
 . rw [I,WX];exact (List.take_sublist _ _).nodup g.nd
 . rw [U] at J;rw [ay x J,I];by_cases h:∃y∈(s.R .tr).drop A,bh y=bh x
   . rw [if_pos h];obtain ⟨y,X,e⟩:=h;constructor
     . intro h;omega
     . intro h;exact absurd e (apart x h y X)
   . rw [if_neg h,g.v1 x J];constructor
     . intro hm;rw [<- Vi A (s.R .tr),F'] at hm;rcases hm with hm|hm
       . exact hm
       . exact absurd ⟨x,hm,rfl⟩ h
     . exact sub x
 . rw [O,lb] at Y;rw [O,I,gM Y,lt];have:=g.bs j L Y hL;have:=(g.bl j (by omega)).1;omega
 . rw [O,lb] at hq;rw [O,gM hq,gM (by omega)];exact g.bs p q bk (by omega)
 . rw [O,lb] at Y;rw [O,av,gM Y,gM Y];exact g.db j (by omega)
 . rw [I,lt] at hp;rw [I,gM hp,a6,O,g.lv p (by omega)];have h1:s.R .be=(s.R .be).take L++ (s.R .be).drop L:=(Vi _ _).symm;have h2:((s.R .be).drop L).countP (λe=>decide (e<=(p:Int)))=0:=WD.2 λq hq=>by
    have:=later q hq;rw [decide_eq_true_eq];omega
   have h3:(s.R .be).countP (λe=>decide (e<=(p:Int)))=((s.R .be).take L).countP (λe=>decide (e<=(p:Int))):=by
    conv=>lhs;rw [h1]
    rw [VY,h2,Ws]
   rw [h3]
 . rw [I,lt] at hp;rw [I,gM hp,ar];rw [O] at hm;exact g.Rc p (by omega) (UN hm)
 . rw [I,lt] at hp;rw [I,gM hp,ar];rw [O] at hm;have bn:(p:Int) ∉ s.R .be:=λh=>by
    rw [<- Vi L (s.R .be),F'] at h;rcases h with h|h
    . exact hm h
    . have:=later _ h;omega
   obtain ⟨i,e1,e2,e3,e4⟩:=g.Qq p (by omega) bn;refine ⟨i,e1,(Q i).2 e2,by rw [el];exact e3,λx J ag=>?_⟩;rw [el] at J;rw [tt p (by omega)];exact e4 x J ag
 . rw [ew] at hc;obtain ⟨i,e1,e2,e3⟩:=g.w1 j c hc;exact ⟨i,e1,(Q i).2 e2,by rw [el];exact e3⟩
 . rw [el] at J;rw [ew];exact g.w2 i ((Q i).1 hi) x J
 . intro x J y X ag hm;rw [Z] at h;rw [el] at J X;rw [I,a8,tt _ (by omega)] at hm;rw [I];have:=g.wj L hL i ((Q i).1 hi) h x J y X ag (List.take_subset_take_left _ (by omega) hm);rw [hA] at this;exact this
 . intro x J y X ag hm;rw [Z] at h;rw [el] at J X;rw [O,lb] at Y;have h1:=g.db j (by omega);have h2:=g.bs j L Y hL;have h3:=g.bl j (by omega);rw [av,gM Y,I,tt _ (by omega)] at hm;rw [O,gM Y,I,tt _ (by omega)];exact g.wj j (by omega) i ((Q i).1 hi) h x J y X ag hm
theorem PM.cut (h:PM w b H s) {x:Pt} (O:x.field=true) {k:Nat} (I:k<=(s.R x).length) {n' c':Nat} (hn:n'=k) (U:c'=(H x).c) {K:World->Prop}
 (J:∀w3,PM w3 b (bH H x ⟨(H x).p,k,(H x).c⟩) (s.set x ((s.R x).take k))->aD (·=b) w w3->K w3):∃w3,bB ((qw b).add x.off) 0 [.slice (H x).p n' c'] w w3/\K w3:=by
 subst hn U;exact h.head O ((h.row x (sN O)).take I) ⟨h.st,h.c,h.wa,λy Q _=>h.row y Q⟩ (λk J=> .inl J) (by rw [GD];omega) J
theorem CE (h:PM w b H s) {x:Pt} (J:x.row=true):(s.R x).length<=(H x).c:=by
 rcases (h.row x J).un with ⟨_,_,I⟩| ⟨_,_,_,_,e,_⟩
 . rw [I];exact vx _
 . exact e
theorem KJ (h:PM w b H s) (g:aN s) (bI:Int):cw.w (some ⟨b,0,none⟩) bI w λv w'=>Ending.returned v=.returned (.tuple #[])/\∃H',Pw w w' b H H' (if (max 0 bI).toNat< (s.R .be).length then s.bW (max 0 bI).toNat else s):=by
 have k:=g.wf;obtain ⟨L,hL⟩: ∃L:Nat,(max 0 bI).toNat=L:=⟨_,rfl⟩
 have em:imax 0 bI=(L:Int):=by unfold imax;split<;>omega
 rw [hL];refine bA rfl ⟨_,rfl,_,_,_,ae h.st rfl,?_⟩;rw [em,h.len .be rfl];refine ah (λr=>?_) (λr=>?_)
 . have r:(s.R .be).length<=L:=by simp at r;omega
   exact ⟨rfl,H,by rw [if_neg (by omega)];exact Pw.refl h (aD.refl w)⟩
 have r:L< (s.R .be).length:=by simp at r;omega
 rw [if_pos r];have hb:=g.bl L r;have c1:=g.db L r;have dd:=g.dl;have Y:=CE h (x:=.tr) rfl;have bg:=CE h (x:=.be) rfl;have a':=CE h (x:=.ds) rfl;refine ⟨_,rfl,_,_,_,ae h.st rfl,h.zi (x:=.be) rfl (by omega) rfl (by omega) λa5 _ bv=>⟨_,bv,_,rfl,_,_,_,ae h.st rfl,?_⟩⟩;rw [tn];obtain ⟨A,hA⟩: ∃A:Nat,((s.R .be).getD L 0).toNat=A:=⟨_,rfl⟩
 have bu:(s.R .be).getD L 0=(A:Int):=by omega
 rw [bu];have b7:A< (s.R .tr).length:=by omega
 rw [h.len .tr rfl];refine eh A (s.R .tr).length (H .tr).c rfl rfl rfl (y4 _) Y (by omega) ?_;rw [if_neg (by omega)];refine ⟨λV u m=>∃v:Nat,V=v/\v<=(s.R .tr).length - A/\m=(s.R .tr).length - A - v/\Pw w u b H H (s.set .va (Fm (s.R .va) (((s.R .tr).drop A).take v))),⟨_,0,rfl,vx _,rfl,by
  have:Fm (s.R .va) (((s.R .tr).drop A).take 0)=s.R .va:=by simp [Fm]
  rw [this,fO];exact Pw.refl h (aD.refl w)⟩,?_⟩
 rintro V aw m _ ⟨v,rfl,hv,rfl,Q⟩;have I:=Q.pm;have ar:Vw sT aw ((H .tr).p.map (·.add (A*1))) ((s.R .tr).drop A):=by
  have:=(I.row .tr rfl).vw.part (i:=A) (m:=(s.R .tr).length - A) (by rw [ao (by simp)];omega);rw [ao (by simp),UM (by simp)] at this;exact this
 refine ah (λU=>?_) (λU=>?_)
 . have U:v< (s.R .tr).length - A:=by simp at U;omega
   refine ar.ix 0 (by omega) (by simp) (by omega) λce ax=>⟨_,ax,?_⟩
   rw [tn];have hx:((s.R .tr).drop A).getD v 0∈s.R .tr:=Xh (bE (by simp;omega));have a7:((s.R .tr).drop A).take (v+1)=((s.R .tr).drop A).take v++ [((s.R .tr).drop A).getD v 0]:=by
    rw [UR];simp [List.getD,show A+v< (s.R .tr).length by omega]
   generalize ((s.R .tr).drop A).getD v 0=X at*
   have ag:=g.tv X hx;have cT:=ag.bh;refine ⟨(·=aw.drew),rfl,_,rfl,_,_,_,fF (ae I.drew.st rfl),(iu (ag.bd g.eG) _).mono ?_⟩;rintro e c0 ⟨rfl,rfl⟩;refine ⟨_,rfl,rfl,I.drew.J4 (x:=.va) rfl (by omega) rfl (by rw [aS,CA,g.va];omega) (y:=0) rfl rfl λb9 az bc=>?_⟩;refine ⟨_,?_,v+1,wN (by omega) (by have:=g.Ck;have:=g.eG;omega),by omega,rfl,?_⟩
   . omega
   . rw [set_set,aS] at az;rw [a7,LY];exact Q.drew.trans (Pw.row az (x:=.va) rfl bc)
 . have U:v=(s.R .tr).length - A:=by simp at U;omega
   subst U;rw [UM (by simp)] at Q I;have hT:=I.drew;have P0:=Q.drew;obtain ⟨V,hV⟩: ∃V,V=Fm (s.R .va) ((s.R .tr).drop A):=⟨_,rfl⟩
   rw [<- hV] at Q I hT P0;refine ⟨_,rfl,_,ae hT.st rfl,_,rfl,_,_,_,ae hT.st rfl,hT.zi (x:=.ds) rfl (by omega) rfl (by rw [ao (by simp)];omega) λdk _ aa=>⟨_,aa,_,rfl,?_⟩⟩;rw [ao (by simp),tn];have ed:mN (mN ((s.set .va V).done:Int) (A:Int)) ((s.R .ds).getD L 0)=((min (min s.done A) ((s.R .ds).getD L 0).toNat:Nat):Int):=by
    show mN (mN (s.done:Int) (A:Int)) _=_;unfold mN;repeat' split
    all_goals omega
   rw [ed];refine hT.HJ rfl λbk ay a_=>?_;have bi:Pw w bk b H H _:=P0.trans ⟨ay,a_.mono λk _ e=>⟨.st,by rw [e];rfl⟩,λx k O=> .inl ⟨x,O⟩⟩;have hU:=ay.drew;have PU:=bi.drew;refine ⟨_,rfl,_,_,_,ae hU.st rfl,?_⟩;rw [h.len .tr rfl];refine eh 0 A (H .tr).c rfl rfl rfl (y4 _) (by omega) (vx _) ?_;refine ⟨_,rfl,_,_,_,ae hU.st rfl,?_⟩;refine eh 0 L (H .be).c rfl rfl rfl (y4 _) (by omega) (vx _) ?_;refine ⟨_,rfl,_,_,_,ae hU.st rfl,?_⟩;refine eh 0 L (H .ds).c rfl rfl rfl (y4 _) (by omega) (vx _) ?_;rw [Tc,Tc,Tc];refine ⟨_,rfl,hU.cut (x:=.tr) rfl (k:=A) (by show A<=((s.set .va V).R .tr).length;rw [ao (by simp)];omega) (Ve _) (Ve _) λc7 a8 bn=>⟨_,rfl,?_⟩⟩;have c2:=a8.cut (x:=.be) rfl (k:=L) (n':=L - 0) (c':=(H .be).c - 0) (by
    show L<=(((s.set .va V).set .tr _).R .be).length;rw [ao (by simp),ao (by simp)];omega) (Ve _) (by rw [aU (by simp)];rfl) (K:=λZ=>∃a:Addr,(some ⟨b,0,none⟩:sn)=some a/\∃J,bB (a.add 8) 0 [.slice (H .ds).p (L - 0) ((H .ds).c - 0)] Z J/\(Ending.returned (.tuple #[])=.returned (.tuple #[])/\∃H',Pw w J b H H' (s.bW L))) ?_
   . rw [aU (by simp)] at c2;exact c2
   intro Z a6 bx;refine ⟨_,rfl,?_⟩;have c3:=a6.cut (x:=.ds) rfl (k:=L) (n':=L - 0) (c':=(H .ds).c - 0) (by
    show L<=((((s.set .va V).set .tr _).set .be _).R .ds).length;rw [ao (by simp),ao (by simp),ao (by simp)];omega) (Ve _) (by rw [aU (by simp),aU (by simp)];rfl) (K:=λJ=> (Ending.returned (.tuple #[])=.returned (.tuple #[])/\∃H',Pw w J b H H' (s.bW L))) ?_
   . rw [aU (by simp),aU (by simp)] at c3;exact c3
   intro J bf bb;refine ⟨rfl,bH (bH (bH H .tr ⟨(H .tr).p,A,(H .tr).c⟩) .be ⟨(H .be).p,L,(H .be).c⟩) .ds ⟨(H .ds).p,L,(H .ds).c⟩,⟨?_,((PU.mod.then bn λk _ e=>⟨.st,by rw [e];rfl⟩).then bx λk _ e=>⟨.st,by rw [e];rfl⟩).then bb λk _ e=>⟨.st,by rw [e];rfl⟩,λx k O=>?_⟩⟩
   . have e:(s.bW L)=((({s.set .va V with done:=min (min s.done A) ((s.R .ds).getD L 0).toNat}.set .tr ((s.R .tr).take A)).set .be ((s.R .be).take L)).set .ds ((s.R .ds).take L)):=by
      unfold aI.bW;rw [hA,<- hV];rfl
     rw [e];have e1:({s.set .va V with done:=min (min s.done A) ((s.R .ds).getD L 0).toNat}:aI).R .tr=s.R .tr:=ao (s:=s) (x:=.va) (y:=.tr) (l:=V) (by simp);have e2:(({s.set .va V with done:=min (min s.done A) ((s.R .ds).getD L 0).toNat}:aI).set .tr ((s.R .tr).take A)).R .be=s.R .be:=by rw [ao (by simp)];exact ao (s:=s) (x:=.va) (y:=.be) (l:=V) (by simp)
     have e3:((({s.set .va V with done:=min (min s.done A) ((s.R .ds).getD L 0).toNat}:aI).set .tr ((s.R .tr).take A)).set .be ((s.R .be).take L)).R .ds=s.R .ds:=by rw [ao (by simp),ao (by simp)];exact ao (s:=s) (x:=.va) (y:=.ds) (l:=V) (by simp)
     have h9:=bf;simp only [aU (show Pt.be≠Pt.tr by simp),aU (show Pt.ds≠Pt.be by simp),aU (show Pt.ds≠Pt.tr by simp)] at h9;have lU:PM J b (bH (bH (bH H .tr ⟨(H .tr).p,A,(H .tr).c⟩) .be ⟨(H .be).p,L,(H .be).c⟩) .ds ⟨(H .ds).p,L,(H .ds).c⟩)
      (((({s.set .va V with done:=min (min s.done A) ((s.R .ds).getD L 0).toNat}:aI).set .tr ((({s.set .va V with done:=min (min s.done A) ((s.R .ds).getD L 0).toNat}:aI).R .tr).take A)).set .be (((({s.set .va V with done:=min (min s.done A) ((s.R .ds).getD L 0).toNat}:aI).set .tr ((({s.set .va V with done:=min (min s.done A) ((s.R .ds).getD L 0).toNat}:aI).R .tr).take A)).R .be).take L)).set .ds ((((({s.set .va V with done:=min (min s.done A) ((s.R .ds).getD L 0).toNat}:aI).set .tr ((({s.set .va V with done:=min (min s.done A) ((s.R .ds).getD L 0).toNat}:aI).R .tr).take A)).set .be (((({s.set .va V with done:=min (min s.done A) ((s.R .ds).getD L 0).toNat}:aI).set .tr ((({s.set .va V with done:=min (min s.done A) ((s.R .ds).getD L 0).toNat}:aI).R .tr).take A)).R .be).take L)).R .ds).take L)):=h9
     rw [e1,e2,e3] at lU;exact lU
   . by_cases a1:x=.ds
     . subst a1;rw [cA (by simp),bq] at O;exact .inl ⟨.ds,O⟩
     . rw [jg a1] at O;by_cases a2:x=.be
       . subst a2;rw [cA (by simp),bq] at O;exact .inl ⟨.be,O⟩
       . rw [jg a2] at O;by_cases a3:x=.tr
         . subst a3;rw [cA (by simp),bq] at O;exact .inl ⟨.tr,O⟩
         . rw [jg a3] at O;exact .inl ⟨x,O⟩
theorem PQ (h:PM w b H s) (g:aN s) (bI:Int):Calls prog cw.id #[ck b,.i bI] w λe w'=>e=.returned (.tuple #[])/\∃H',Pw w w' b H H' (if (max 0 bI).toNat< (s.R .be).length then s.bW (max 0 bI).toNat else s):=
 cw.aj (KJ h g bI)
end
section
variable {w w' w0 w2 w3:World} {b:Nat} {H H' H2:Pt->Sl} {s t u s' T:aI} {l x y:Int} {i:Nat}
def aI.del (s:aI) (i:Nat):aI:= {(s.set (.a i) []).set (.l i) [] with gone:=λk=>if k=i then true else s.gone k}
def aI.drop (s:aI) (i:Nat):aI:=((oW i s ((s.R (.l i)).take 2)).set .lo ((s.R .lo).filter λk=> !(k==(i:Int)))).del i
theorem q7 (i:Nat) (y:Pt) (h1:∀j,y≠ .w j) (J:y≠ .lo) (I:y≠ .a i) (O:y≠ .l i):(s.drop i).R y=s.R y:=by
 show ((((oW i s ((s.R (.l i)).take 2)).set .lo _).set (.a i) []).set (.l i) []).R y=_;rw [ao O,ao I,ao J,jL _ h1]
theorem gD {k:Nat}:(s.drop i).aO k↔s.aO k/\k≠i:=by
 show (k< (oW i s _).nc/\(if k=i then true else (oW i s _).gone k)=false)↔_;obtain ⟨_,J,I,_⟩:=jk i ((s.R (.l i)).take 2) s;rw [J,I];unfold aI.aO;by_cases e:k=i
 . simp [e]
 . simp [e]
theorem sS (g:aN s) (hi:s.aO i) (hr:∀x∈s.R (.l i),¬(0<s.val x/\s.m_ x=(i:Int))):aN (s.drop i):=by
 obtain ⟨u1,u2,u3,u4⟩:=jk i ((s.R (.l i)).take 2) s;have eR:∀y,(∀j,y≠Pt.w j)->y≠ .lo->(∀k,y≠ .a k)->(∀k,y≠ .l k)->(s.drop i).R y=s.R y:=λy h1 I h3 h4=>q7 i y h1 I (h3 i) (h4 i);have el:∀k,k≠i->(s.drop i).R (.l k)=s.R (.l k):=λk X=>q7 i _ (by simp) (by simp) (by simp) (by simpa using X);have ea:∀k,k≠i->(s.drop i).R (.a k)=s.R (.a k):=λk X=>q7 i _ (by simp) (by simp) (by simpa using X) (by simp);have bi:(s.drop i).R (.a i)= []:=by unfold aI.drop aI.del;simp [aI.set,bH]
 have aa:(s.drop i).R .lo=(s.R .lo).filter λk=> !(k==(i:Int)):=by unfold aI.drop aI.del;simp [aI.set,bH]
 have bb:∀j,(s.drop i).R (.w j)=(oW i s ((s.R (.l i)).take 2)).R (.w j):=λj=>by unfold aI.drop aI.del;simp [aI.set,bH]
 have ew:∀j c,c∈(s.drop i).R (.w j)↔c∈s.R (.w j)/\c≠(i:Int):=λj c=>by
  rw [bb,yx];constructor
  . rintro ⟨h1,I|I⟩
    . exact ⟨h1,I⟩
    . refine ⟨h1,λe=>?_⟩;subst e;obtain ⟨q,e1,e2,x,Y,e3⟩:=g.w1 _ _ h1;have:q=i:=by omega
      subst this;exact I x Y e3
  . rintro ⟨h1,I⟩;exact ⟨h1,.inl I⟩
 have bg:∀j,((s.drop i).R (.w j)).Nodup:=λj=>by
  rw [bb];exact vR i j _ _ (g.w3 j)
 have Z:(s.drop i).vars=s.vars:=u1;have enc:(s.drop i).nc=s.nc:=u2;have a_:(s.drop i).done=s.done:=u4;have O:∀k,(s.drop i).aO k↔s.aO k/\k≠i:=λk=>gD;generalize s.drop i=t at*
 have J:=eR .tr (by simp) (by simp) (by simp) (by simp);have U:=eR .be (by simp) (by simp) (by simp) (by simp);have ax:=eR .ds (by simp) (by simp) (by simp) (by simp);have ay:=eR .va (by simp) (by simp) (by simp) (by simp);have a8:=eR .le (by simp) (by simp) (by simp) (by simp);have bc:=eR .re (by simp) (by simp) (by simp) (by simp);have ev:∀x,t.val x=s.val x:=λx=>kx ay x;have a': ∀x,t.bI x=s.bI x:=λx=>by unfold aI.bI;rw [a8]
 have av:∀x,t.m_ x=s.m_ x:=λx=>by unfold aI.m_;rw [bc]
 refine ⟨by rw [Z];exact g.eG,by rw [enc];exact g.Ka,by rw [ay,Z];exact g.va,by rw [ay];exact g.vb,by rw [a8,Z];exact g.le,by rw [bc,Z];exact g.rl,by rw [J,Z];exact g.tv,by rw [J];exact g.nd,λx Y=>by rw [ev,J];exact g.v1 x (by rw [Z] at Y;exact Y),
  by rw [U,J];exact g.bl,by rw [U];exact g.bs,by rw [ax,U];exact g.dl,by rw [U,ax];exact g.db,λp hp=>by rw [J] at hp ⊢;rw [a',U];exact g.lv p hp,λp hp hm=>by rw [J] at hp ⊢;rw [av];rw [U] at hm;exact g.Rc p hp hm,
  λp hp hm=>?_,by rw [a_,J];exact g.dn,λk X x Y=>?_,λk X=>?_,λk X=>?_,λk X x=>?_,λk=>?_,λj c hc=>?_,λk X x Y=>?_,bg,λc hc=>?_,λk X h=>?_,by rw [aa];exact g.o3.filter _,λk X h=>?_,λj hj k X h=>?_⟩
 . rw [J] at hp ⊢;rw [U] at hm;obtain ⟨k,e1,e2,e3,e4⟩:=g.Qq p hp hm;have Q:k≠i:=λe=>by
    subst e;refine hr _ e3 ⟨(g.Ub (g.cv k hi _ e3)).2 (bE hp),e1⟩
   exact ⟨k,by rw [av];exact e1,(O k).2 ⟨e2,Q⟩,by rw [el k Q];exact e3,λx Y hn=>e4 x (by rw [el k Q] at Y;exact Y) hn⟩
 . obtain ⟨h1,I⟩:=(O k).1 X;rw [Z];exact g.cv k h1 x (by rw [el k I] at Y;exact Y)
 . obtain ⟨h1,I⟩:=(O k).1 X;rw [el k I];exact g.cn k h1
 . obtain ⟨h1,I⟩:=(O k).1 X;rw [el k I];exact g.cl k h1
 . obtain ⟨h1,I⟩:=(O k).1 X;rw [el k I,ea k I];exact g.ca k h1 x
 . by_cases e:k=i
   . rw [e,bi];simp
   . rw [ea k e];exact g.al k
 . obtain ⟨h1,I⟩:=(ew j c).1 hc;obtain ⟨k,e1,e2,e3⟩:=g.w1 j c h1;have Q:k≠i:=λe=>I (by rw [e1,e]);exact ⟨k,e1,(O k).2 ⟨e2,Q⟩,by rw [el k Q];exact e3⟩
 . obtain ⟨h1,I⟩:=(O k).1 X;rw [el k I] at Y;exact (ew _ _).2 ⟨g.w2 k h1 x Y,λe=>I (by omega)⟩
 . rw [aa,U8] at hc;obtain ⟨k,e1,e2⟩:=g.o1 c hc.1;refine ⟨k,e1,(O k).2 ⟨e2,λe=>?_⟩⟩;have I:=hc.2;rw [e1,e] at I;simp at I
 . obtain ⟨h1,I⟩:=(O k).1 X;rw [el k I] at h;rw [aa,U8];refine ⟨g.o2 k h1 h,?_⟩;simp;omega
 . obtain ⟨h1,I⟩:=(O k).1 X;intro x Y y hy Q hm;rw [el k I] at Y hy;rw [J,a_] at hm;rw [J];refine g.wd k h1 (λaw=>h ?_) x Y y hy Q hm;rw [aa,U8];refine ⟨aw,?_⟩;simp;omega
 . obtain ⟨h1,I⟩:=(O k).1 X;intro x Y y hy Q hm;rw [el k I] at Y hy;rw [U] at hj;rw [J,ax] at hm;rw [J,U];refine g.wj j hj k h1 (λaw=>h ?_) x Y y hy Q hm;rw [aa,U8];refine ⟨aw,?_⟩;simp;omega
theorem PM.T9 (h:PM w b H s) {i:Nat} (hi:i<s.nc) {n:Nat} (hn:n=(H .c).n) {I:Int} (hI:I=i) {K:World->Prop}
 (X:∀w',PM w' b (bH (bH H (.a i) Sl.nil) (.l i) Sl.nil) (s.del i)->aD (λk=>aG (H .c).p=some k) w w'->K w'):
 aW (H .c).p n I 3 λa=>∃w',bB a 0 [.slice none 0 0,.slice none 0 0,.bool true] w w'/\K w':=by
 subst hI;refine h.c.st KW (x:=(Sl.nil,Sl.nil,true)) rfl rfl (by omega) (by rw [hn,h.cn,vj]) (by rw [hn,h.cn];omega) λw' o m=>X w' ?_ m;rw [tn] at o;have Q:∀ {y:Pt} {k:Nat},y≠ .c->own b H y=some k->¬aG (H .c).p=some k:=λO X=>h.kc (x:=.c) (by simp) O X;have J:∀k,¬aG Sl.nil.p=some k:=λk e=>by simp [aG,Sl.nil] at e
 have i1:=qf h.inj (x:=.a i) (by simp) (q:=Sl.nil) λk e=>absurd e (J k);have i2:=qf i1 (x:=.l i) (by simp) (q:=Sl.nil) λk e=>absurd e (J k);have Z:∀y,y≠ .a i->y≠ .l i->bH (bH H (.a i) Sl.nil) (.l i) Sl.nil y=H y:=λy h1 h2=>by rw [aU h2,aU h1]
 refine ⟨?_,?_,?_,?_,?_,λy O=>?_,λy O=>?_,i2⟩
 . have e:Cz (s.del i) (bH (bH H (.a i) Sl.nil) (.l i) Sl.nil)=Cz s H:=by simp [Cz,aI.del,aI.set,bH]
   rw [e];exact h.st.keep m (Q (y:=.st) (by simp) rfl)
 . rw [Z .c (by simp) (by simp)];have e:EA (bH (bH H (.a i) Sl.nil) (.l i) Sl.nil) (s.del i).gone (s.del i).nc=(EA H s.gone s.nc).set i (Sl.nil,Sl.nil,true):=by
    apply VO;intro j;simp only [EA,aI.del,aI.set,Vx,VC,UL,VP];by_cases e:i=j
    . subst e;simp [hi,Gn,bH]
    . rw [if_neg e];by_cases hj:j<s.nc
      . simp [hj,Gn,bH,Vc e]
      . simp [hj]
   rw [e];exact o
 . rw [Z .c (by simp) (by simp)];exact h.cn
 . rw [Z .wa (by simp) (by simp)];have e:kg (bH (bH H (.a i) Sl.nil) (.l i) Sl.nil) (2* ((s.del i).vars+1))=kg H (2* (s.vars+1)):=by
    rw [mh (by simp),mh (by simp)];rfl
   rw [e];exact h.wa.keep m λk X=>Q (y:=.wa) (by simp) X
 . rw [Z .wa (by simp) (by simp)];exact h.wn
 . by_cases Y:y=.l i
   . subst Y;show Ow _ _ w' _ _ (((s.set (.a i) []).set (.l i) []).R (.l i));rw [bq,aS];exact Ow.nil _ _ _
   . by_cases U:y=.a i
     . subst U;show Ow _ _ w' _ _ (((s.set (.a i) []).set (.l i) []).R (.a i));rw [aU (by simp),bq,ao (by simp),aS];exact Ow.nil _ _ _
     . show Ow _ _ w' _ _ (((s.set (.a i) []).set (.l i) []).R y);rw [Z y U Y,ao Y,ao U];exact (h.row y O).keep m λk X=>Q (dM O).2.1 (by rw [cA (dM O).1];exact X)
 . by_cases Y:y=.l i
   . subst Y;show _=(((s.set (.a i) []).set (.l i) []).R (.l i)).length;rw [bq,aS];rfl
   . by_cases U:y=.a i
     . subst U;show _=(((s.set (.a i) []).set (.l i) []).R (.a i)).length;rw [aU (by simp),bq,ao (by simp),aS];rfl
     . show _=(((s.set (.a i) []).set (.l i) []).R y).length;rw [Z y U Y,ao Y,ao U];exact h.len y O
theorem aI.Da {i:Int}:s.is i=true↔0<=i/\s.aO i.toNat:=by
 unfold aI.is aI.aO;simp only [ts,decide_eq_true_eq,Wc];constructor
 . rintro ⟨⟨h1,J⟩,I⟩;exact ⟨h1,by omega,I⟩
 . rintro ⟨h1,J,I⟩;exact ⟨⟨h1,by omega⟩,I⟩
def Ur (s:aI) (i:Nat):Prop:=∃x∈s.R (.l i),0<s.val x/\s.m_ x=(i:Int)
theorem CT (h:PM w b H s) (g:aN s) (i:Int):Calls prog gN.id #[ck b,.i i] w λe w'=>∃r:Int,e=.returned (.i r)/\∃H',
 ((r=4/\s.is i=false/\Pw w w' b H H' s)\/(r=7/\s.is i=true/\Ur s i.toNat/\Pw w w' b H H' s)\/(r=0/\s.is i=true/\¬Ur s i.toNat/\Pw w w' b H H' (s.drop i.toNat))):=by
 refine gN.aj ?_;intro n1 w1 h1;have hA:=h.grow h1.mod;have e1:=h1.num;have U:∀x,¬own b H x=some n1:=λx e=>by have:=h.lt x n1 e;omega
 refine ⟨_,aV h1.has rfl,(D4 hA i).mono ?_⟩;rintro e w4 ⟨rfl,rfl⟩;refine ⟨_,rfl,?_⟩;cases hi:s.is i with
 |false=>exact bP rfl ⟨_,rfl,H,.inl ⟨rfl,rfl,Pw.refl hA h1.mod⟩⟩
 |true=>
  obtain ⟨i0,I⟩:=aI.Da.1 hi;obtain ⟨j,rfl⟩: ∃j:Nat,i=j:=⟨i.toNat,by omega⟩
  rw [tn] at I ⊢;have hD:=hA.drew;have dh:=g.cl j I;have k:=g.wf;refine bA rfl ⟨_,rfl,_,_,_,ae hD.st rfl,_,aV h1.has.drew rfl,hD.Qg I.1 rfl rfl λa9 b5=>⟨_,_,_,b5.get 1 _ rfl,?_⟩⟩;have b8:=h.len (.l j) rfl;rw [b8];refine ⟨λV u m=>∃v:Nat,V=v/\v<=(s.R (.l j)).length/\m=(s.R (.l j)).length - v/\ak w4 u/\∀q,q<v->¬(0<s.val ((s.R (.l j)).getD q 0)/\s.m_ ((s.R (.l j)).getD q 0)=(j:Int)),⟨_,0,rfl,vx _,rfl,(aD.refl _).drew,λq hq=>by omega⟩,?_⟩;rintro V b9 m _ ⟨v,rfl,hv,rfl,O,Z⟩;have az:=hA.grow O;have J:=h1.has.grow O;refine ah (λr2=>?_) (λr2=>?_)
  . have r2:v< (s.R (.l j)).length:=by simpa using r2
    have a8:=bE r2;refine az.Pm (x:=.l j) rfl (by omega) (by omega) (by omega) λc0 _ a6=>⟨_,a6,?_⟩
    rw [tn];have step:∀ {u:World},ak w4 u->¬(0<s.val ((s.R (.l j)).getD v 0)/\s.m_ ((s.R (.l j)).getD v 0)=(j:Int))->∃a',a'< (s.R (.l j)).length - v/\∃v':Nat,IntKind.i64.wrap ((v:Int)+1)=v'/\v'<=(s.R (.l j)).length/\a'=(s.R (.l j)).length - v'/\ak w4 u/\∀q,q<v'->¬(0<s.val ((s.R (.l j)).getD q 0)/\s.m_ ((s.R (.l j)).getD q 0)=(j:Int)):=by
     intro u gu ay;refine ⟨_,?_,v+1,wN,by omega,rfl,gu,λq hq=>?_⟩
     . omega
     . by_cases e:q=v
       . rw [e];exact ay
       . exact Z q (by omega)
    generalize (s.R (.l j)).getD v 0=X at*
    have ar:=g.cv j I X a8;have c1:=ar.bh;have hD:=az.drew;refine ⟨(·=b9.drew),rfl,(pF hD k ar).mono ?_⟩;rintro e cg ⟨rfl,rfl⟩;refine ⟨_,rfl,rfl,ah (λr3=>?_) (λr3=>step O.drew λhh=>?_)⟩
    . have r3:0<s.val X:=by simpa using r3
      refine ⟨_,rfl,_,_,_,fF (ae hD.st rfl),(iu (ar.bd g.eG) _).mono ?_⟩;rintro e cm ⟨rfl,rfl⟩;refine ⟨_,rfl,rfl,hD.zi (x:=.re) rfl (by omega) rfl (by rw [g.rl];omega) λa25 _ aT=>⟨_,fF aT,_,fF (aV J.drew rfl),ah (λr4=>?_) (λr4=>step O.drew λhh=>?_)⟩⟩
      . have r4:s.m_ X=(j:Int):=beq_iff_eq.1 r4;exact ⟨_,rfl,H,.inr (.inl ⟨rfl,rfl,⟨X,a8,r3,r4⟩,Pw.refl hD (h1.mod.trans O.drew)⟩)⟩
      . have r4: ¬s.m_ X=(j:Int):=λe=>by
         have e2:Pt.re.f ((s.R .re).getD (bh X).toNat 0)=.i (j:Int):=congrArg _ e;have e3:(s.R .re).getD (bh X).toNat 0=(j:Int):=e;rw [e3] at r4;simp at r4
        exact r4 hh.2
    . have r3: ¬0<s.val X:=by simpa using r3
      exact r3 hh.1
  . have r2:v=(s.R (.l j)).length:=by simp at r2;omega
    subst r2;have ay:∀x∈s.R (.l j),¬(0<s.val x/\s.m_ x=(j:Int)):=λx hx=>by
     obtain ⟨q,hq,e⟩:=I'.1 hx;have:=Z q hq;simp only [List.getD,Mb hq,US,e] at this;exact this
    refine ⟨_,aV J rfl,(zI az g.eG I.1 (g.cv j I) (by omega) λq=>by have:=g.wl q;omega).mono ?_⟩;rintro e co ⟨rfl,H2,av,kh⟩;have Q:=av.pm;have a_:=J.keep av.mod λ⟨x,e⟩=>U x e;have bi:H2 .lo=H .lo:=kh _ (by simp);have ag:(oW j s ((s.R (.l j)).take 2)).R .lo=s.R .lo:=jL _ (by simp) _ _;have bv: ¬aG (H2 .lo).p=some n1:=λe=>by rw [bi] at e;exact U .lo e
    have cb:=g.TW;refine ⟨rfl,_,rfl,_,_,_,ae Q.st rfl,(wX (Q.row .lo rfl) (Q.len .lo rfl) (by rw [Q.len .lo rfl,ag];omega) Ix (λx=>x==(j:Int)) λx _ w' m=>?_).mono ?_⟩
    . rw [wK];exact Sy (a_.keep m bv) x
    rintro e c2 ⟨rfl,a7,bg⟩;rw [ag] at a7 ⊢;refine ⟨_,_,_,rfl,_,rfl,Q.head (x:=.lo) rfl a7 (Q.Jb rfl bg) (λk Y=> .inl Y) rfl λb_ bb bY=>?_⟩;have bc:=av.trans (Pw.head (x:=.lo) (z:=.st) (by simp) bb bg (bY.mono λk _ e=>by rw [e];rfl) λk Y=> .inl Y);have bf:bT b_ n1 #[.i (j:Int)]:=J.keep bc.mod λ⟨x,e⟩=>U x e;have hE:=bb.drew;refine ⟨_,rfl,_,_,_,ae hE.st rfl,_,aV bf.drew rfl,?_⟩;have b':(oW j s ((s.R (.l j)).take 2)).nc=s.nc:=(jk j _ _).2.1;refine hE.T9 (i:=j) (by show j< (oW j s ((s.R (.l j)).take 2)).nc;rw [b'];exact I.1) rfl rfl λc3 bx b7=>?_;refine ⟨_,rfl,bH (bH (bH H2 .lo ⟨(H2 .lo).p,((s.R .lo).filter λx=> !(x==(j:Int))).length,(H2 .lo).c⟩) (.a j) Sl.nil) (.l j) Sl.nil,.inr (.inr ⟨rfl,rfl,λ⟨x,hx,h⟩=>ay x hx h,?_⟩)⟩;refine ((bc.drew).trans ⟨bx,b7.mono λk _ e=>⟨.c,e⟩,λx k Y=> .inl ⟨x,?_⟩⟩).dA (h1.mod.trans O);by_cases a1:x=.l j
    . subst a1;rw [cA (by simp),bq] at Y;simp [aG,Sl.nil] at Y
    . rw [jg a1] at Y;by_cases a2:x=.a j
      . subst a2;rw [cA (by simp),bq] at Y;simp [aG,Sl.nil] at Y
      . rw [jg a2] at Y;exact Y
end
section
variable {w w' w0 w1 w2 w3:World} {b:Nat} {H H' H2:Pt->Sl} {s t u s' T:aI} {l x y:Int} {i:Nat}
def aI.oU (s:aI) (c m:List Int):aI:= {(s.set (.a s.nc) c).set (.l s.nc) m with nc:=s.nc+1,gone:=λk=>if k=s.nc then false else s.gone k}
structure lS (s:aI) (c:List Int) (s':aI):Prop where
 v:s'.vars=s.vars
 n:s'.nc=s.nc+1
 g:∀i,s'.gone i=if i=s.nc then false else s.gone i
 a:∀i,s'.R (.a i)=if i=s.nc then c else s.R (.a i)
 tr:s'.R .tr=s.R .tr
 be:s'.R .be=s.R .be
theorem ko {c m:List Int} {y:Pt} (h1:y≠ .a s.nc) (I:y≠ .l s.nc):(s.oU c m).R y=s.R y:=by
 show ((s.set (.a s.nc) c).set (.l s.nc) m).R y=_;rw [ao I,ao h1]
theorem AO {c m:List Int}:(s.oU c m).R (.l s.nc)=m:=by
 show ((s.set (.a s.nc) c).set (.l s.nc) m).R _=_;rw [aS]
theorem FC {c m:List Int}:(s.oU c m).R (.a s.nc)=c:=by
 show ((s.set (.a s.nc) c).set (.l s.nc) m).R (.a s.nc)=_;rw [ao (by simp),aS]
theorem Nl (g:aN s) (hn:s.nc<262144) {c m l':List Int} (hv:∀x∈m,dN s.vars x) (hd:m.Nodup) (hl:m.length<=4096) (hm:∀x,x∈m↔x∈c) (hc:c.length<=4096) (pm:l'.Perm m) (hb:A7 s.rk 2 l'):
 aN (mH (s.oU c m) s.nc l')/\lS s c (mH (s.oU c m) s.nc l'):=by
 obtain ⟨u,hu⟩: ∃u,u=wF (s.nc:Int) ((s.oU c m).set (.l s.nc) l') (l'.take 2):=⟨_,rfl⟩
 obtain ⟨d1,d2,d3,d4⟩:=qP (s.nc:Int) (l'.take 2) ((s.oU c m).set (.l s.nc) l');rw [<- hu] at d1 d2 d3 d4;have b3:(s.oU c m).R .va=s.R .va:=ko (by simp) (by simp);have b7:∀x,(s.oU c m).val x=s.val x:=λx=>kx b3 x;obtain ⟨t,ht⟩: ∃t,t=mH (s.oU c m) s.nc l':=⟨_,rfl⟩
 have bk:(s.oU c m).R .lo=s.R .lo:=ko (by simp) (by simp);have tt:t=if l'.length<2\/s.val (l'.getD 1 0)<0 then u.set .lo (s.R .lo++ [(s.nc:Int)]) else u:=by
  rw [ht,hu];unfold mH;simp only [bk,b7]
 have uR:∀y,(∀j,y≠Pt.w j)->y≠ .a s.nc->y≠ .l s.nc->u.R y=s.R y:=λy h1 J h3=>by rw [hu,rX _ h1,ao h3,ko J h3]
 have tR:∀y,y≠ .lo->t.R y=u.R y:=λy hy=>by
  rw [tt];split
  . exact ao hy
  . rfl
 have eR:∀y,(∀j,y≠Pt.w j)->y≠ .lo->y≠ .a s.nc->y≠ .l s.nc->t.R y=s.R y:=λy h1 J h3 h4=> (tR y J).trans (uR y h1 h3 h4);have el:∀k,t.R (.l k)=if k=s.nc then l' else s.R (.l k):=λk=>by
  rw [tR _ (by simp)];by_cases e:k=s.nc
  . rw [if_pos e,e,hu,rX _ (by simp),aS]
  . rw [if_neg e];exact uR _ (by simp) (by simp) (by simpa using e)
 have ea:∀k,t.R (.a k)=if k=s.nc then c else s.R (.a k):=λk=>by
  rw [tR _ (by simp)];by_cases e:k=s.nc
  . rw [if_pos e,e,hu,rX _ (by simp),ao (by simp),FC]
  . rw [if_neg e];exact uR _ (by simp) (by simpa using e) (by simp)
 have ew:∀j q,q∈t.R (.w j)↔q∈s.R (.w j)\/(q=(s.nc:Int)/\∃x∈l'.take 2,aB x=j):=λj q=>by
  rw [tR _ (by simp),hu,Gj,ao (by simp),ko (by simp) (by simp)]
 have ln:∀j q,q∈s.R (.w j)->q≠(s.nc:Int):=λj q hq e=>by
  obtain ⟨k,e1,⟨e2,_⟩,_⟩:=g.w1 j q hq;omega
 have b8:∀j,(t.R (.w j)).Nodup:=λj=>by
  rw [tR _ (by simp),hu];refine vI _ j _ _ (xF (pm.nodup_iff.2 hd)) (by rw [ao (by simp),ko (by simp) (by simp)];exact g.w3 j) λ_=>?_;rw [ao (by simp),ko (by simp) (by simp)];exact λh=>ln j _ h rfl
 have a6:u.R .lo=s.R .lo:=uR _ (by simp) (by simp) (by simp);have bi:∀q∈s.R .lo,q≠(s.nc:Int):=λq hq e=>by
  obtain ⟨k,e1,⟨e2,_⟩⟩:=g.o1 q hq;omega
 have aa:∀q,q∈t.R .lo↔q∈s.R .lo\/(q=(s.nc:Int)/\(l'.length<2\/s.val (l'.getD 1 0)<0)):=λq=>by
  rw [tt];split
  . rename_i h;rw [aS,F',Bs];exact ⟨λJ=>J.imp id λe=>⟨e,h⟩,λJ=>J.imp id λe=>e.1⟩
  . rename_i h;rw [a6];exact ⟨λJ=> .inl J,λJ=>J.elim id λe=>absurd e.2 h⟩
 have b5:(t.R .lo).Nodup:=by
  rw [tt];split
  . rw [aS];exact ui g.o3 λh=>bi _ h rfl
  . rw [a6];exact g.o3
 have tv:t.vars=s.vars/\t.nc=s.nc+1/\t.gone=(λk=>if k=s.nc then false else s.gone k)/\t.done=s.done:=by
  rw [tt];split
  . exact ⟨d1,d2,d3,d4⟩
  . exact ⟨d1,d2,d3,d4⟩
 rw [<- ht];clear ht tt tR uR a6 hu d1 d2 d3 d4;obtain ⟨X,enc,bx,b4⟩:=tv;have O:∀k,t.aO k↔s.aO k\/k=s.nc:=λk=>by
  show (k<t.nc/\t.gone k=false)↔_;rw [enc,bx];unfold aI.aO;by_cases e:k=s.nc
  . simp [e]
  . simp only [if_neg e];constructor
    . rintro ⟨h1,J⟩;exact .inl ⟨by omega,J⟩
    . rintro (⟨h1,J⟩|h)
      . exact ⟨by omega,J⟩
      . exact absurd h e
 have ne:∀k,s.aO k->k≠s.nc:=λk Y e=>by have:=Y.1;omega
 have Q:=eR .tr (by simp) (by simp) (by simp) (by simp);have U:=eR .be (by simp) (by simp) (by simp) (by simp);have a7:=eR .ds (by simp) (by simp) (by simp) (by simp);have a':=eR .va (by simp) (by simp) (by simp) (by simp);have bn:=eR .le (by simp) (by simp) (by simp) (by simp);have bv:=eR .re (by simp) (by simp) (by simp) (by simp);have ev:∀x,t.val x=s.val x:=λx=>kx a' x;have bu:∀x,t.bI x=s.bI x:=λx=>by unfold aI.bI;rw [bn]
 have aT:∀x,t.m_ x=s.m_ x:=λx=>by unfold aI.m_;rw [bv]
 have a_:∀x∈l',dN s.vars x:=λx I=>hv x (pm.mem_iff.1 I);have free: ¬(l'.length<2\/s.val (l'.getD 1 0)<0)->∀x∈l'.take 2,-x ∉ s.R .tr:=λh x I e=>by
  have h1:2<=l'.length:=by omega
  have J:0<=s.val (l'.getD 1 0):=by omega
  have bg:=UN I;have a8:=(g.Ky (a_ x bg)).2 e;rcases jE.1 I with ⟨_,e3⟩| ⟨_,e3⟩
  . have:=hb 0 (by omega) 1 (by omega) (by omega);have hl:=g.SO (a_ x bg) a8;rw [e3] at a8 hl;unfold aI.rk at this;rw [if_pos (show s.val (l'.getD 1 0)>=0 from J),if_neg (show ¬s.val (l'.getD 0 0)>=0 by omega)] at this;omega
  . rw [e3] at a8;omega
 refine ⟨⟨by rw [X];exact g.eG,by omega,by rw [a',X];exact g.va,by rw [a'];exact g.vb,by rw [bn,X];exact g.le,by rw [bv,X];exact g.rl,by rw [Q,X];exact g.tv,by rw [Q];exact g.nd,λx I=>by rw [ev,Q];exact g.v1 x (by rw [X] at I;exact I),
  by rw [U,Q];exact g.bl,by rw [U];exact g.bs,by rw [a7,U];exact g.dl,by rw [U,a7];exact g.db,λp hp=>by rw [Q] at hp ⊢;rw [bu,U];exact g.lv p hp,λp hp hm=>by rw [Q] at hp ⊢;rw [aT];rw [U] at hm;exact g.Rc p hp hm,
  λp hp hm=>?_,by rw [b4,Q];exact g.dn,λk Y x I=>?_,λk Y=>?_,λk Y=>?_,λk Y x=>?_,λk=>?_,λj q hq=>?_,λk Y x I=>?_,b8,λq hq=>?_,λk Y h=>?_,b5,λk Y h=>?_,λj hj k Y h=>?_⟩,
  ⟨X,enc,λk=>by rw [bx],ea,Q,U⟩⟩
 . rw [Q] at hp ⊢;rw [U] at hm;obtain ⟨k,e1,e2,e3,e4⟩:=g.Qq p hp hm;have ag:=ne k e2;exact ⟨k,by rw [aT];exact e1,(O k).2 (.inl e2),by rw [el,if_neg ag];exact e3,λx I hn=>e4 x (by rw [el,if_neg ag] at I;exact I) hn⟩
 . rw [X];rw [el] at I;rcases (O k).1 Y with h|h
   . rw [if_neg (ne k h)] at I;exact g.cv k h x I
   . rw [if_pos h] at I;exact a_ x I
 . rw [el];rcases (O k).1 Y with h|h
   . rw [if_neg (ne k h)];exact g.cn k h
   . rw [if_pos h];exact pm.nodup_iff.2 hd
 . rw [el];rcases (O k).1 Y with h|h
   . rw [if_neg (ne k h)];exact g.cl k h
   . rw [if_pos h,pm.length_eq];exact hl
 . rw [el,ea];rcases (O k).1 Y with h|h
   . rw [if_neg (ne k h),if_neg (ne k h)];exact g.ca k h x
   . rw [if_pos h,if_pos h,pm.mem_iff];exact hm x
 . rw [ea];split
   . exact hc
   . exact g.al k
 . rcases (ew j q).1 hq with h| ⟨e1,x,I,e3⟩
   . obtain ⟨k,e1,e2,x,I,e3⟩:=g.w1 j q h;exact ⟨k,e1,(O k).2 (.inl e2),x,by rw [el,if_neg (ne k e2)];exact I,e3⟩
   . exact ⟨s.nc,e1,(O _).2 (.inr rfl),x,by rw [el,if_pos rfl];exact I,e3⟩
 . rw [el] at I;rw [ew];rcases (O k).1 Y with h|h
   . rw [if_neg (ne k h)] at I;exact .inl (g.w2 k h x I)
   . rw [if_pos h] at I;exact .inr ⟨by rw [h],x,I,rfl⟩
 . rcases (aa q).1 hq with h| ⟨e1,_⟩
   . obtain ⟨k,e1,e2⟩:=g.o1 q h;exact ⟨k,e1,(O k).2 (.inl e2)⟩
   . exact ⟨s.nc,e1,(O _).2 (.inr rfl)⟩
 . rw [el] at h;rw [aa];rcases (O k).1 Y with J|J
   . rw [if_neg (ne k J)] at h;exact .inl (g.o2 k J h)
   . rw [if_pos J] at h;exact .inr ⟨by rw [J],.inl h⟩
 . intro x I y hy ag Z;rw [Q,b4] at Z;rw [Q];rw [el] at I hy;rcases (O k).1 Y with J|J
   . rw [if_neg (ne k J)] at I hy;exact g.wd k J (λh3=>h ((aa _).2 (.inl h3))) x I y hy ag Z
   . rw [if_pos J] at I;exact absurd (UN Z) (free (λh3=>h ((aa _).2 (.inr ⟨by rw [J],h3⟩))) x I)
 . intro x I y hy ag Z;rw [U] at hj;rw [Q,a7] at Z;rw [Q,U];rw [el] at I hy;rcases (O k).1 Y with J|J
   . rw [if_neg (ne k J)] at I hy;exact g.wj j hj k J (λh3=>h ((aa _).2 (.inl h3))) x I y hy ag Z
   . rw [if_pos J] at I;exact absurd (UN Z) (free (λh3=>h ((aa _).2 (.inr ⟨by rw [J],h3⟩))) x I)
theorem IP:pR prog jh lg 3 56=true:=by kernel_rfl
theorem PM.oU (h:PM w0 b H s) (g1:ak w0 w1) {A L:Sl} {c m:List Int} (oA:dz aq w1 A.p A.c c) (oL:dz aq w1 L.p L.c m) (nA:A.n=c.length) (nL:L.n=m.length)
 (fA:∀k,aG A.p=some k->w0.heap.size<=k) (fL:∀k,aG L.p=some k->w0.heap.size<=k) (ax:∀k,aG A.p=some k->aG L.p≠some k) {n27:Nat} (hb:bT w1 n27 #[A.v,L.v,.bool false]) (hn:s.nc<=262144) {K:World->Prop}
 (I:∀w3 H',Pw w0 w3 b H H' (s.oU c m)->K w3):
 ∃w2,∃ (J:sn) (n' c':Nat),(Builtin.append_ #[jh,jh] jh #[.slice (H .c).p (H .c).n (H .c).c,.slice (some (qw n27)) 1 1]).run prog w1=.ok (.slice J n' c') w2/\
  aD (λk=>aG (H .c).p=some k) w1 w2/\∃w3,bB ((qw b).add 1) 0 [.slice J n' c'] w2 w3/\K w3:=by
 have h1:=h.grow g1;have vr:Vr 3 Sg w1 (some ⟨n27,0,none⟩) [((A,L,false):Ce)]:=by
  intro j Y;have Y:j=0:=by simpa using Y
  subst Y;refine ⟨_,rfl,?_⟩;rw [Yb,dI];exact ⟨ae hb rfl,ae hb rfl,ae hb rfl,trivial⟩
 refine h1.c.mA KW IP vr (by rw [h.cn,vj]) rfl (by rw [vj];simp;omega) λw2 J c' o2 m2 aT bg=>?_;have M2:aD (λk=>aG (H .c).p=some k) w0 w2:=(g1.mono λ_ _ e=>e.elim).trans m2;refine ⟨m2,?_⟩;have z1:=g1.size;have U:∀ {y:Pt} {k:Nat},y≠ .c->own b H y=some k->¬aG (H .c).p=some k:=λQ I=>h.kc (x:=.c) (by simp) Q I;have f2:∀k,aG J=some k->aG (H .c).p=some k\/w1.heap.size<=k:=λk I=>by
  rcases aT with rfl|rfl
  . exact .inl I
  . have:=aL I;exact .inr (by omega)
 have Z:∀ {k:Nat},w0.heap.size<=k->k≠b:=λI e=>by have:=h.lt .st b rfl;omega
 have ay:bT w2 b (Cz s H):=h.st.keep M2 (U (y:=.st) (by simp) rfl);have i1:=qf h.inj (x:=.a s.nc) (by simp) (q:=A) λk e=> .inr (h.cW (fA k e));have i2:=qf i1 (x:=.l s.nc) (by simp) (q:=L) λk e=> .inr λy O=>by
  by_cases ey:y=.a s.nc
  . subst ey;rw [cA (by simp),bq] at O;exact ax k O e
  . rw [jg ey] at O;exact h.cW (fL k e) y O
 have i3:=qf i2 (x:=.c) (by simp) (q:=⟨J,s.nc+1,c'⟩) λk e=>by
  rw [aU (by simp),aU (by simp)];rcases f2 k e with X|X
  . exact .inl X
  . refine .inr λy O=>?_;by_cases ey:y=.l s.nc
    . subst ey;rw [cA (by simp),bq] at O;have:=oL.lt k O;omega
    . rw [jg ey] at O;by_cases ag:y=.a s.nc
      . subst ag;rw [cA (by simp),bq] at O;have:=oA.lt k O;omega
      . rw [jg ag] at O;have:=h.lt y k O;omega
 have eH:∀y,y≠ .a s.nc->y≠ .l s.nc->y≠ .c->bH (bH (bH H (.a s.nc) A) (.l s.nc) L) .c ⟨J,s.nc+1,c'⟩ y=H y:=λy a1 a2 a3=>by rw [aU a3,aU a2,aU a1]
 have eA:bH (bH (bH H (.a s.nc) A) (.l s.nc) L) .c ⟨J,s.nc+1,c'⟩ (.a s.nc)=A:=by rw [aU (by simp),aU (by simp),bq]
 have eL:bH (bH (bH H (.a s.nc) A) (.l s.nc) L) .c ⟨J,s.nc+1,c'⟩ (.l s.nc)=L:=by rw [aU (by simp),bq]
 have en:(EA H s.gone s.nc++ [((A,L,false):Ce)]).length=s.nc+1:=by simp [vj]
 rw [en];refine cz (k:=1) (i:=0) ay rfl rfl λw3 h3 m3=>I w3 (bH (bH (bH H (.a s.nc) A) (.l s.nc) L) .c ⟨J,s.nc+1,c'⟩) ⟨⟨?_,?_,?_,?_,?_,λy Q=>?_,λy Q=>?_,i3⟩,?_,λy k e=>?_⟩
 . have e:Cz (s.oU c m) (bH (bH (bH H (.a s.nc) A) (.l s.nc) L) .c ⟨J,s.nc+1,c'⟩)=wr (Cz s H) (0+1+0) [.slice J (s.nc+1) c']:=by
    simp [wr,Cz,aI.oU,aI.set,bH,Sl.v]
   rw [e];exact h3
 . rw [bq];have e:EA (bH (bH (bH H (.a s.nc) A) (.l s.nc) L) .c ⟨J,s.nc+1,c'⟩) (s.oU c m).gone (s.oU c m).nc=EA H s.gone s.nc++ [((A,L,false):Ce)]:=by
    apply VO;intro j;simp only [EA,aI.oU,aI.set,Vx,Xl,UL,VP];by_cases Y:j<s.nc
    . have a6:j≠s.nc:=by omega
      simp [Y,show j<s.nc+1 by omega,Gn,bH,a6]
    . rw [if_neg Y];by_cases e:j=s.nc
      . subst e;simp [Gn,bH]
      . have: ¬j<s.nc+1:=by omega
        simp [this];omega
   rw [e];exact o2.keep m3 λk I e=>by
    rcases f2 k I with X|X
    . exact U (y:=.st) (by simp) (k:=k) (by rw [e];rfl) X
    . exact Z (by omega) e
 . rw [bq];rfl
 . rw [eH .wa (by simp) (by simp) (by simp)];have e:kg (bH (bH (bH H (.a s.nc) A) (.l s.nc) L) .c ⟨J,s.nc+1,c'⟩) (2* ((s.oU c m).vars+1))=kg H (2* (s.vars+1)):=by
    rw [mh (by simp),mh (by simp),mh (by simp)];rfl
   rw [e];exact (h.wa.keep M2 λk I=>U (y:=.wa) (by simp) I).keep m3 λk I e=>by
    have:=h.inj .wa .st k I (by rw [e];rfl);cases this
 . rw [eH .wa (by simp) (by simp) (by simp)];exact h.wn
 . have kp:∀ {T2:TypeId} {f:Int->Value} {q:Sl} {l:List Int},Ow f T2 w1 q.p q.c l->(∀k,aG q.p=some k->w0.heap.size<=k)->Ow f T2 w3 q.p q.c l:=λo hf=> (o.keep m2 λk I e=>by
    have:=h.lt .c k e;have:=hf k I;omega).keep m3 λk I e=>Z (hf k I) e
   by_cases a1:y=.a s.nc
   . subst a1;rw [eA,FC];exact kp oA fA
   . by_cases a2:y=.l s.nc
     . subst a2;rw [eL,AO];exact kp oL fL
     . rw [eH y a1 a2 (dM Q).2.1,ko a1 a2];exact ((h.row y Q).keep M2 λk I=>U (dM Q).2.1 (by rw [cA (dM Q).1];exact I)).keep m3 λk I e=>by
        have:=h.inj y .st k (by rw [cA (dM Q).1];exact I) (by rw [e];rfl);exact (dM Q).1 this
 . by_cases a1:y=.a s.nc
   . subst a1;rw [eA,FC];exact nA
   . by_cases a2:y=.l s.nc
     . subst a2;rw [eL,AO];exact nL
     . rw [eH y a1 a2 (dM Q).2.1,ko a1 a2];exact h.len y Q
 . exact (M2.mono λk _ e=>⟨.c,e⟩).trans (m3.mono λk _ e=>⟨.st,by rw [e];rfl⟩)
 . by_cases a3:y=.c
   . subst a3;rw [cA (by simp),bq] at e;rcases f2 k e with X|X
     . exact .inl ⟨.c,X⟩
     . exact .inr (by omega)
   . rw [jg a3] at e;by_cases a2:y=.l s.nc
     . subst a2;rw [cA (by simp),bq] at e;exact .inr (fL k e)
     . rw [jg a2] at e;by_cases a1:y=.a s.nc
       . subst a1;rw [cA (by simp),bq] at e;exact .inr (fA k e)
       . rw [jg a1] at e;exact .inl ⟨y,e⟩
end
section
variable {w w' w0 w1 w2 w3:World} {b:Nat} {H H' H2:Pt->Sl} {s t u s' T:aI} {l x y:Int} {i:Nat}
def xN (n:Nat) (c:List Int):Bool:=jf c && c.all (BV n)
theorem DR {p:Int->Bool}:∀c:List Int,c.any (λx=> !p x)= !c.all p
 | []=>rfl
 |a::l=>by rw [X8,Xq,DR l];cases p a<;>rfl
theorem O_ (k:Wf s) (hn:s.nc<262144) {c m:List Int}:Wf (s.oU c m):=by
 have e:∀y,(∀i,y≠Pt.a i)->(∀i,y≠Pt.l i)->(s.oU c m).R y=s.R y:=λy h1 I=>ko (h1 _) (I _);exact ⟨k.eG,by rw [e _ (by simp) (by simp)];exact k.va,by rw [e _ (by simp) (by simp)];exact k.vb,by rw [e _ (by simp) (by simp)];exact k.le,by rw [e _ (by simp) (by simp)];exact k.re,by rw [e _ (by simp) (by simp)];exact k.be,by rw [e _ (by simp) (by simp)];exact k.tr,hn⟩
theorem sb (h:PM w b H s) (g:aN s) {cp:sn} {n cc:Nat} {c:List Int} (hc:Vw sT w cp c) (hn:n=c.length) (hx:n<=maxLen):
 Calls prog iW.id #[ck b,.slice cp n cc] w λe w'=>∃Q O:Int,e=.returned (.tuple #[.i Q,.i O])/\∃s' H',Pw w w' b H H' s'/\aN s'/\
  ((Q=0/\O=1/\xN s.vars c=false/\s'=s)\/(Q=0/\O=5/\xN s.vars c=true/\s.nc=262144/\s'=s)\/(Q=s.nc/\O=0/\xN s.vars c=true/\s.nc<262144/\lS s c s')):=by
 have k:=g.wf;refine iW.aj ?_;intro n1 w2 I;have hA:=h.grow I.mod;have e1:=I.num;have ag:∀x,¬own b H x=some n1:=λx e=>by have:=h.lt x n1 e;omega
 obtain ⟨av,dh⟩:=CX h k;refine ⟨_,aV I.has rfl,bA rfl ⟨_,aV I.has rfl,_,rfl,_,_,_,ae hA.st rfl,?_⟩⟩;rw [dh];have pI:xN s.vars c=false->∀ {u:World},ak w2 u->∃Q O:Int,Ending.returned (.tuple #[.i 0,.i 1])=.returned (.tuple #[.i Q,.i O])/\∃s' H',Pw w u b H H' s'/\aN s'/\
  ((Q=0/\O=1/\xN s.vars c=false/\s'=s)\/(Q=0/\O=5/\xN s.vars c=true/\s.nc=262144/\s'=s)\/(Q=s.nc/\O=0/\xN s.vars c=true/\s.nc<262144/\lS s c s')):=
  λhb u gu=>⟨0,1,rfl,s,H,(Pw.refl (hA.grow gu) gu).dA I.mod,g,.inl ⟨rfl,rfl,hb,rfl⟩⟩
 refine bA rfl ((gj (hc.grow I.mod) hn hx).mono ?_);rintro e w7 ⟨rfl,g7⟩;refine ⟨_,rfl,?_⟩;cases aa:jf c with
 |false=>exact bP rfl (pI (by simp [xN,aa]) g7)
 |true=>
 have h7:=hA.grow g7;have dd:=I.has.grow g7;refine bA rfl ((kj ((hc.grow I.mod).grow g7) hn hx Mi (λx=> !BV s.vars x) λx _ w' gw=>?_).mono ?_)
 . rw [wK];exact T5 (h7.grow gw) k (dd.grow gw) x
 rintro e w9 ⟨rfl,g9⟩;have G9:=g7.trans g9;have b3:c.any (λx=> !BV s.vars x)= !c.all (BV s.vars):=DR c;refine ⟨_,rfl,?_⟩;rw [b3];cases a6:c.all (BV s.vars) with
 |false=>exact bP rfl (pI (by simp [xN,a6]) G9)
 |true=>
 have b6:xN s.vars c=true:=by simp [xN,aa,a6]
 have h9:=hA.grow G9;have du:=I.has.grow G9;have dq:∀x∈c,dN s.vars x:=λx b_=> (jc k.eG).1 (UK.1 a6 x b_);have bu:=(cy aa).2;refine bA rfl ⟨_,aV du rfl,_,rfl,_,_,_,ae h9.st rfl,?_⟩;rw [h.cn];refine ah (λr=>?_) (λr=>?_)
 . have r:(s.nc:Int)=262144:=by simpa using r
   exact ⟨0,5,rfl,s,H,(Pw.refl h9 G9).dA I.mod,g,.inr (.inl ⟨rfl,rfl,b6,by omega,rfl⟩)⟩
 have r: ¬(s.nc:Int)=262144:=by simpa using r
 have a8:s.nc<262144:=by have:=g.Ka;omega
 refine (HE ((hc.grow I.mod).grow G9) hn hx).mono ?_;rintro e J ⟨b',dk,m,hm,rfl,bg,c7,f15⟩;rw [aa] at hm;simp only [if_true] at hm;subst hm;have U:=G9.trans c7;have bx:=hA.grow U;have X:=I.has.grow U;refine ⟨_,_,_,_,rfl,_,aV X rfl,_,rfl,_,_,_,ae bx.st rfl,?_⟩;have hD:=bx.drew;have b5: ¬aG (H .c).p=some n1:=λe=>ag .c e;have aw:∀ {a:Addr} {u:Value},J.drew.cell? a=some u->¬aG (H .c).p=some a.block->xR (aD (λk=>aG (H .c).p=some k) J.drew) a u:=λhc d5 u' g=>dZ g hc d5;have gm:∀ {w1:World},ak J.drew w1->aD (λk=>aG (H .c).p=some k) J.drew w1:=λg=>g.mono λ_ _ e=>e.elim;have co: ¬aG (H .c).p=some b:=hD.kc (x:=.c) (by simp) (y:=.st) (by simp) rfl;refine ⟨aD (λk=>aG (H .c).p=some k) J.drew,aD.refl _,_,aw (aV X.drew rfl) b5,_,aw (aV X.drew rfl) b5,_,rfl,_,_,_,aw (ae hD.st rfl) (by rw [cV];exact co),?_⟩;refine (iQ (((hc.grow I.mod).grow U).drew) hn (by omega)).mono ?_;rintro e ef ⟨c0,cm,rfl,d4,ay,f26⟩;refine ⟨_,_,_,rfl,gm ay,?_⟩;intro n27 bf Z;have a7:=ay.trans Z.mod;refine ⟨gm a7,?_⟩;have zz:J.drew.heap.size=J.heap.size:=rfl;have GA:ak w2 bf:=U.trans ((aD.refl J).drew.trans a7);have ei:=U.size;have s9:=G9.size;have tl:=hA.oU (w1:=bf) (A:=⟨c0,c.length,cm⟩) (L:=⟨b',(aY c).length,dk⟩) (c:=c) (m:=aY c) GA (d4.grow Z.mod) ((bg.drew.grow ay).grow Z.mod) rfl rfl (λk hk=>by have:=f26 k hk;omega) (λk hk=>by have:=f15 k hk;omega)
  (λk hk e=>by have:=f26 k hk;have:=bg.lt k e;omega) Z.has g.Ka (K:=λa'=>∃bv,a'.cell? (qw n1)=some (.pointer bv)/\Calls prog eU.id #[.pointer bv,.i (s.nc:Int)] a' λe bn=>e=.returned (.tuple #[])/\
    ∃Q O:Int,Ending.returned (.tuple #[.i (s.nc:Int),.i 0])=.returned (.tuple #[.i Q,.i O])/\∃s' H',Pw w bn b H H' s'/\aN s'/\
    ((Q=0/\O=1/\xN s.vars c=false/\s'=s)\/(Q=0/\O=5/\xN s.vars c=true/\s.nc=262144/\s'=s)\/(Q=s.nc/\O=0/\xN s.vars c=true/\s.nc<262144/\lS s c s'))) ?_
 . obtain ⟨wa,p',n',c',hr,bk,w3,dT,az⟩:=tl;rw [h.cn] at hr ⊢;exact ⟨wa,p',n',c',hr,(gm a7).trans bk,_,rfl,w3,dT,az⟩
 . intro a' H2 ax;have c2:=ax.pm;have bi:=I.has.keep ax.mod λ⟨x,e⟩=>ag x e;have nm:=c6 c;have c1:(aY c).Nodup:=nm.st.imp λ{a b} cb e=>by subst e;exact sX a cb
   have c3:(aY c).length<=4096:=by have:=p9 c;omega
   have ar:∀x∈aY c,dN s.vars x:=λx hx=>dq x ((nm.mem x).1 hx);refine ⟨_,aV bi rfl,(BX c2 (O_ k a8) (i:=s.nc) (Nat.lt_succ_self _) (by rw [AO];exact ar) (by rw [AO];omega) (λj=>by rw [ko (by simp) (by simp)];have:=g.wl j;omega) (by rw [ko (by simp) (by simp)];have:=g.TW;omega)).mono ?_⟩;rintro e bn ⟨rfl,l',H3,a_,pm,cg,_,_⟩;rw [AO] at pm;have Y:A7 s.rk 2 l':=λt ht j h1 I=>by
    have:=a_ t ht j h1 I;rw [L9 (s:=s) (ko (by simp) (by simp)) (ko (by simp) (by simp)),L9 (s:=s) (ko (by simp) (by simp)) (ko (by simp) (by simp))] at this;exact this
   obtain ⟨G',A'⟩:=Nl g a8 ar c1 c3 (λx=>nm.mem x) bu pm Y;exact ⟨rfl,_,_,rfl,_,H3,(ax.trans cg).dA I.mod,G',.inr (.inr ⟨rfl,rfl,b6,a8,A'⟩)⟩
end
end Go.Proofs.YtbdghpjnifjlmaaGreat.W
namespace Go.Fw
open Go Go.RowKit
variable {α:Type} {f:α->Value} {w w':World} {p:sn} {hs:List Sl} {rows:List (List α)}
def Kj (p:sn) (hs:List Sl) (k:Nat):Prop:=(hs≠[]/\aG p=some k)\/rB hs k
theorem V2.mK {S:Nat->Prop} (h:V2 f w p hs rows) (m:aD S w w') (O:∀k,Kj p hs k->¬S k):V2 f w' p hs rows:=
 (h.vr.keep m λk I=>O k (.inr I)).v2 (h.h.mK m λJ k I=>O k (.inl ⟨J,I⟩))
theorem V2.Qm (h:V2 f w p hs rows):∀k,Kj p hs k->k<w.heap.size:=by
 rintro k (⟨J,I⟩|I)
 . exact h.h.lt J k I
 . exact h.vr.lt k I
theorem V2.S0 {S:Nat->Prop} {w0:World} (h:V2 f w p hs rows) (O:∀k,Kj p hs k->k<w0.heap.size) (m:aD S w w') (J:∀k,S k->w0.heap.size<=k):V2 f w' p hs rows:=
 h.mK m λk I hs=>by have:=O k I;have:=J k hs;omega
end Go.Fw
namespace Go.Proofs.YtbdghpjnifjlmaaGreat.W
open Go Go.Fw Go.RowKit Go.SoP Go.LiP
open Go.Proofs.Tryz (prog)
section
variable {w w' w0 w1 w2 w3:World} {b:Nat} {H H' H2:Pt->Sl} {s t u s' T:aI} {l x y:Int} {i:Nat}
theorem Fy:nE prog nv aE 24=true:=by kernel_rfl
theorem Ie:(Tryz.prog.info? aE).bind (·.zero)=some (.slice none 0 0):=by kernel_rfl
theorem NQ:(Tryz.prog.info? yu).bind (·.zero)=some (.int .i8 0):=by kernel_rfl
def aI.new (k:Nat):aI:= {vars:=k,nc:=0,gone:=λ_=>false,done:=0,R:=λx=>match x with| .va| .le| .re=>List.replicate (k+1) 0|_=> []}
def Jd (k a v l r:Nat):Pt->Sl
 | .wa=>⟨some ⟨a,0,none⟩,2* (k+1),2* (k+1)⟩
 | .va=>⟨some ⟨v,0,none⟩,k+1,k+1⟩
 | .le=>⟨some ⟨l,0,none⟩,k+1,k+1⟩
 | .re=>⟨some ⟨r,0,none⟩,k+1,k+1⟩
 |_=>Sl.nil
theorem LC {k:Nat} (Q:k<=1048576):aN (aI.new k):=by
 have e0:∀ (n i:Nat),(List.replicate n (0:Int)).getD i 0=0:=λn i=>by
  simp only [y6,List.getElem?_replicate];split<;>rfl
 refine ⟨Q,by simp [aI.new],by simp [aI.new],λi=> .inl (e0 _ _),by simp [aI.new],by simp [aI.new],λx O=>by simp [aI.new] at O,by simp [aI.new],λx O=>?_,λj I=>by simp [aI.new] at I,λi j _ I=>by simp [aI.new] at I,rfl,λj I=>by simp [aI.new] at I,
  λp hp=>by simp [aI.new] at hp,λp hp=>by simp [aI.new] at hp,λp hp=>by simp [aI.new] at hp,y4 _,λi hi=>absurd hi.1 (WW _),λi hi=>absurd hi.1 (WW _),λi hi=>absurd hi.1 (WW _),λi hi=>absurd hi.1 (WW _),λi=>by simp [aI.new],
  λj c J=>by simp [aI.new] at J,λi hi=>absurd hi.1 (WW _),λj=>by simp [aI.new],λc J=>by simp [aI.new] at J,λi hi=>absurd hi.1 (WW _),by simp [aI.new],λi hi=>absurd hi.1 (WW _),λj I=>by simp [aI.new] at I⟩
 have:(aI.new k).val x=0:=by
  unfold aI.val;show (if x<0 then -(List.replicate (k+1) (0:Int)).getD _ 0 else (List.replicate (k+1) (0:Int)).getD _ 0)=0;rw [e0,e0];simp
 rw [this];simp [aI.new]
def NO (k t:Nat) (u:World) (g:Nat):Prop:=
 match t with
 |0=>Ow Sl.v aE u (some ⟨g,0,none⟩) (2* (k+1)) (List.replicate (2* (k+1)) Sl.nil)
 |1=>Ow (Value.int .i8) yu u (some ⟨g,0,none⟩) (k+1) (List.replicate (k+1) 0)
 |_=>dz aq u (some ⟨g,0,none⟩) (k+1) (List.replicate (k+1) 0)
structure Zn (w0:World) (k:Nat) (u:World) (L:List (Nat × Nat)):Prop where
 g:ak w0 u
 o:∀t g,(t,g)∈L->NO k t u g/\w0.heap.size<=g/\g<u.heap.size
 d:∀t t' g,(t,g)∈L->(t',g)∈L->t=t'
theorem NO.grow {k t g:Nat} (h:NO k t w g) (m:ak w w'):NO k t w' g:=by
 unfold NO at*
 split at h<;>exact Ow.grow h m
variable {k:Nat} {L:List (Nat × Nat)}
theorem Zn.cons (z:Zn w0 k w L) {t:Nat} {o:NO k t w' w.heap.size} (m:ak w w') (hs:w'.heap.size=w.heap.size+1):Zn w0 k w' ((t,w.heap.size)::L):=by
 refine ⟨z.g.trans m,λX g hm=>?_,λU Q g h1 I=>?_⟩
 . rcases UI.1 hm with e|hm
   . injection e with O J;subst O J;exact ⟨o,z.g.size,by omega⟩
   . obtain ⟨a,b,c⟩:=z.o X g hm;exact ⟨a.grow m,b,by omega⟩
 . rcases UI.1 h1 with O|h1<;>rcases UI.1 I with J|I
   . injection O with a1 a2;injection J with b1 b2;omega
   . injection O with a1 a2;have:=(z.o Q g I).2.2;omega
   . injection J with a1 a2;have:=(z.o U g h1).2.2;omega
   . exact z.d U Q g h1 I
theorem Zn.m0 (z:Zn w0 k w L) (O:k<=1048576) {n:Int} (hn:n=((2* (k+1):Nat):Int)) {K:World->sn->Nat->Nat->Prop}
 (J:∀u,Zn w0 k u ((0,w.heap.size)::L)->K u (some ⟨w.heap.size,0,none⟩) (2* (k+1)) (2* (k+1))):
 ∃w',∃I n' c',(Instr.makeSlice nv (.i n) (.i n)).run prog w=.ok (.slice I n' c') w'/\K w' I n' c':=
 rZ (f:=Sl.v) (x:=Sl.nil) Fy Ie rfl (2* (k+1)) hn (by omega) λu o m hs=>J u (z.cons (t:=0) (o:=o) m hs)
theorem Zn.m1 (z:Zn w0 k w L) (O:k<=1048576) {n:Int} (hn:n=((k+1:Nat):Int)) {K:World->sn->Nat->Nat->Prop}
 (J:∀u,Zn w0 k u ((1,w.heap.size)::L)->K u (some ⟨w.heap.size,0,none⟩) (k+1) (k+1)):
 ∃w',∃I n' c',(Instr.makeSlice yN (.i n) (.i n)).run prog w=.ok (.slice I n' c') w'/\K w' I n' c':=
 rZ (f:=Value.int .i8) (x:=0) PG NQ rfl (k+1) hn (by omega) λu o m hs=>J u (z.cons (t:=1) (o:=o) m hs)
theorem Zn.m2 (z:Zn w0 k w L) (O:k<=1048576) {n:Int} (hn:n=((k+1:Nat):Int)) {K:World->sn->Nat->Nat->Prop}
 (J:∀u,Zn w0 k u ((L.length+2,w.heap.size)::L)->K u (some ⟨w.heap.size,0,none⟩) (k+1) (k+1)):
 ∃w',∃I n' c',(Instr.makeSlice aE (.i n) (.i n)).run prog w=.ok (.slice I n' c') w'/\K w' I n' c':=
 rZ (f:=Value.int .i64) (x:=0) c9 jx rfl (k+1) hn (by omega) λu o m hs=>J u (z.cons (t:=L.length+2) (o:=o) m hs)
theorem Zn.pm (z:Zn w0 k w L) {a v l r t O:Nat} (ha:(0,a)∈L) (hv:(1,v)∈L) (hl:(t+2,l)∈L) (hr:(O+2,r)∈L) (ht:t≠O) {n:Nat}
 (h:jI (.cells #[.i k,.slice none 0 0,.slice (some ⟨a,0,none⟩) (2* (k+1)) (2* (k+1)),.slice (some ⟨v,0,none⟩) (k+1) (k+1),.slice (some ⟨l,0,none⟩) (k+1) (k+1),.slice (some ⟨r,0,none⟩) (k+1) (k+1),.slice none 0 0,.slice none 0 0,.slice none 0 0,.i 0,.slice none 0 0] uI) w n w'):
 PM w' n (Jd k a v l r) (aI.new k)/\ak w0 w'/\∀x j,own n (Jd k a v l r) x=some j->w0.heap.size<=j:=by
 obtain ⟨oa,ga,la⟩:=z.o _ _ ha;obtain ⟨ov,gv,lv⟩:=z.o _ _ hv;obtain ⟨ol,gl,ll⟩:=z.o _ _ hl;obtain ⟨U,gr,lr⟩:=z.o _ _ hr;have en:=h.num;have gz:=z.g.size;have J:∀ {Z X g1 Y:Nat},(Z,g1)∈L->(X,Y)∈L->Z≠X->g1≠Y:=λh1 h2 Q e=>Q (z.d _ _ _ h1 (e▸h2));have av:=J ha hv (by omega);have al:=J ha hl (by omega);have ar:=J ha hr (by omega);have vl:=J hv hl (by omega);have vr:=J hv hr (by omega);have ax:=J hl hr (by omega);have rO:∀x j,own n (Jd k a v l r) x=some j->(x=.st/\j=n)\/(x=.wa/\j=a)\/(x=.va/\j=v)\/(x=.le/\j=l)\/(x=.re/\j=r):=by
  intro x j I;cases x<;>simp [own,Jd,aG,Sl.nil] at I<;>simp [I]
 refine ⟨⟨h.has,Row.nil _ _ _ _,rfl,?_,rfl,λx I=>?_,λx I=>?_,λx y j I hy=>?_⟩,z.g.trans h.mod,λx j I=>?_⟩
 . have e:kg (Jd k a v l r) (2* ((aI.new k).vars+1))=List.replicate (2* (k+1)) Sl.nil:=by
    unfold kg;rw [List.eq_replicate_iff];refine ⟨by simp [aI.new],λq hq=>?_⟩;obtain ⟨j,_,rfl⟩:=L0.1 hq;rfl
   rw [e];exact NO.grow (t:=0) oa h.mod
 . cases x<;>first| (exact Ow.nil _ _ _)| (simp [Pt.row] at I;done)| (exact NO.grow (t:=1) ov h.mod)| (exact NO.grow (t:=t+2) ol h.mod)| (exact NO.grow (t:=O+2) U h.mod)
 . cases x<;>first| (simp [Pt.row] at I;done)| (simp [Jd,aI.new,Sl.nil])
 . rcases rO x j I with ⟨rfl,rfl⟩| ⟨rfl,rfl⟩| ⟨rfl,rfl⟩| ⟨rfl,rfl⟩| ⟨rfl,rfl⟩<;>rcases rO y _ hy with ⟨rfl,e⟩| ⟨rfl,e⟩| ⟨rfl,e⟩| ⟨rfl,e⟩| ⟨rfl,e⟩<;>first|rfl|omega
 . rcases rO x j I with ⟨_,rfl⟩| ⟨_,rfl⟩| ⟨_,rfl⟩| ⟨_,rfl⟩| ⟨_,rfl⟩<;>omega
structure LM (k:Nat) (cs:List (List Int)) (s:aI):Prop where
 v:s.vars=k
 n:s.nc=cs.length
 g:∀i,i<cs.length->s.gone i=false
 a:∀i,i<cs.length->s.R (.a i)=cs.getD i []
 tr:s.R .tr= []
 be:s.R .be= []
theorem z_ {k:Int} {q:sn} {m d:Nat} {hs:List Sl} {cs:List (List Int)} (hc:V2 sT w q hs cs) (hm:m=cs.length):
 Calls prog rM.id #[.agg #[.i k,.slice q m d]] w λe w'=> (cQ k cs=false/\e=.returned (.tuple #[.pointer none,.i 1])/\ak w w')\/
  (cQ k cs=true/\∃ (b:Nat) (s:aI) (H:Pt->Sl),e=.returned (.tuple #[ck b,.i 0])/\PM w' b H s/\aN s/\LM k.toNat cs s/\ak w w'/\∀x j,own b H x=some j->w.heap.size<=j):=by
 refine rM.aj ?_;intro n1 w2 Q;have ag:=hc.grow Q.mod;refine ⟨_,_,_,_,⟨ae Q.has rfl,ae Q.has rfl,trivial⟩,(fS ag hm).mono ?_⟩;rintro e J ⟨rfl,X⟩;refine ⟨_,rfl,?_⟩;cases O:cQ k cs with
 |false=>exact bP rfl (.inl ⟨rfl,rfl,Q.mod.trans X⟩)
 |true=>
 have hb:0<=k/\k<=1048576/\cs.length<=262144:=by
  unfold cQ at O;simp only [ts,decide_eq_true_eq] at O;exact O.1
 obtain ⟨I,rfl⟩: ∃I:Nat,k=I:=⟨k.toNat,by omega⟩
 have hk:I<=1048576:=by omega
 have H5:=Q.has.grow X;have e1:IntKind.i64.wrap ((I:Int)+1)=((I+1:Nat):Int):=wN rfl (by omega);have e2:IntKind.i64.wrap (2* ((I+1:Nat):Int))=((2* (I+1):Nat):Int):=wN;refine bA rfl ⟨_,ae H5 rfl,?_⟩;try dsimp only
 rw [e1,e2];have z0:Zn J.drew I J.drew []:=⟨aD.refl _,λt g h=>by simp at h,λt t' g h=>by simp at h⟩
 refine ⟨λp u=>∃ (n:Nat) (H:Pt->Sl),p=(⟨n,0,none⟩:Addr)/\PM u n H (aI.new I)/\ak J u/\∀x j,own n H x=some j->J.heap.size<=j,?_,?_⟩
 . refine ⟨λu=>ak J.drew u,aD.refl _,_,λu g=>ae (H5.drew.grow g) rfl,?_⟩;have dG:∀ {u u':World} {L:List (Nat × Nat)} {a v l r t t' n:Nat},Zn J.drew I u L->(0,a)∈L->(1,v)∈L->(t+2,l)∈L->(t'+2,r)∈L->t≠t'->
    jI (.cells #[.i I,.slice none 0 0,.slice (some ⟨a,0,none⟩) (2* (I+1)) (2* (I+1)),.slice (some ⟨v,0,none⟩) (I+1) (I+1),.slice (some ⟨l,0,none⟩) (I+1) (I+1),.slice (some ⟨r,0,none⟩) (I+1) (I+1),.slice none 0 0,.slice none 0 0,.slice none 0 0,.i 0,.slice none 0 0] uI) u n u'->
    ∃ (n':Nat) (H:Pt->Sl),qw n=(⟨n',0,none⟩:Addr)/\PM u' n' H (aI.new I)/\ak J u'/\∀x j,own n' H x=some j->J.heap.size<=j:=by
    intro u u' L a v l r t t' n z ha hv hl hr ht h;obtain ⟨p1,p2,p3⟩:=z.pm ha hv hl hr ht h;exact ⟨n,_,rfl,p1,(aD.refl J).drew.trans p2,λx j e=>p3 x j e⟩
   repeat' first
    | (with_reducible refine Zn.m0 (L:=_) (by assumption) hk rfl λu z=>⟨z.g,?_⟩)
    | (with_reducible refine Zn.m1 (L:=_) (by assumption) hk rfl λu z=>⟨z.g,?_⟩)
    | (with_reducible refine Zn.m2 (L:=_) (by assumption) hk rfl λu z=>⟨z.g,?_⟩)
    | (intro n w' h
       exact dG (by assumption) (by first|exact UJ .. |exact vy _ (UJ ..)|exact vy _ (vy _ (UJ ..))|exact vy _ (vy _ (vy _ (UJ ..)))) (by first|exact UJ .. |exact vy _ (UJ ..)|exact vy _ (vy _ (UJ ..))|exact vy _ (vy _ (vy _ (UJ ..)))) (by first|exact UJ .. |exact vy _ (UJ ..)|exact vy _ (vy _ (UJ ..))|exact vy _ (vy _ (vy _ (UJ ..)))) (by first|exact UJ .. |exact vy _ (UJ ..)|exact vy _ (vy _ (UJ ..))|exact vy _ (vy _ (vy _ (UJ ..)))) (by simp) h)
    |with_reducible refine And.intro ?_ ?_
 . rintro _ av _ ⟨b,H,rfl,p0,g0,f0⟩;have Y:=H5.grow g0;have V0:=(ag.grow X)
   refine ⟨_,_,_,ae Y rfl,?_⟩;have kz:=LC hk;refine ⟨λV u z=>∃ (v:Nat) (s:aI) (H':Pt->Sl),V=v/\v<=cs.length/\z=cs.length - v/\Pw av u b H H' s/\aN s/\LM I (cs.take v) s,⟨_,0,aI.new I,H,rfl,vx _,rfl,Pw.refl p0 (aD.refl _),kz,⟨rfl,by simp [aI.new],λi hi=>by simp at hi,λi hi=>by simp at hi,rfl,rfl⟩⟩,?_⟩;rintro V u z _ ⟨v,s,H',rfl,hv,rfl,Pu,gs,nw⟩;have hu:=Pu.pm;have vV:V2 sT u q hs cs:=(V0.grow g0).S0 (w0:=J) V0.Qm Pu.mod λk ⟨x,e⟩=>f0 x k e;refine ah (λr=>?_) (λr=>?_)
   . have r:v<cs.length:=by rw [hm] at r;simpa using r
     refine vV.ix (by omega) hm (by omega) λa sl h1 h0 k2 h3 h4=>⟨_,_,_,h1,?_⟩
     rw [tn] at k2 h4;refine (sb hu gs h4 k2 h3).mono ?_;rintro e bb ⟨r1,r2,rfl,s',H2,P2,g2,hr⟩;have a8:xN s.vars (cs.getD v [])=true:=by
      have:=O;unfold cQ at this;simp only [ts] at this;have Z:cs.getD v []∈cs:=by simp [List.getD,r]
      have hh:=UK.1 this.2 _ Z;simp only [ts] at hh;unfold xN;rw [hh.1,VL,UK];intro x hx;unfold BV;have h5:=(cy hh.1).1 x hx;have h6:=UK.1 hh.2 x hx;rw [h5,nw.v];simpa using h6
     have b4:s.nc<262144:=by rw [nw.n,GD];omega
     have U:lS s (cs.getD v []) s':=by
      rcases hr with ⟨_,_,h,_⟩| ⟨_,_,_,h,_⟩| ⟨_,_,_,_,h⟩
      . rw [a8] at h;cases h
      . omega
      . exact h
     have aa:s.nc=v:=by rw [nw.n,GD];omega
     refine ⟨_,_,rfl,_,?_,v+1,s',H2,wN,r,rfl,Pu.trans P2,g2,⟨U.v.trans nw.v,by rw [U.n,aa,GD];omega,λi hi=>?_,λi hi=>?_,U.tr.trans nw.tr,U.be.trans nw.be⟩⟩
     . omega
     . rw [U.g];rw [GD] at hi;split
       . rfl
       . exact nw.g i (by rw [GD];omega)
     . rw [U.a];rw [GD] at hi;have e5:(cs.take (v+1)).getD i []=cs.getD i []:=by
        simp only [y6,Vf];rw [if_pos (by omega)]
       rw [e5,aa];split
       . rename_i e;rw [e]
       . rw [nw.a i (by rw [GD];omega)];simp only [y6,Vf];rw [if_pos (by omega)]
   . have r:v=cs.length:=by rw [hm] at r;simp at r;omega
     subst r;rw [K'] at nw;refine .inr ⟨rfl,b,s,H',rfl,hu,gs,nw,?_,λx j e=>?_⟩
     . exact (Q.mod.trans (X.trans g0)).then Pu.mod λk hk ⟨x,e⟩=>by
        have:=f0 x k e;have:=(Q.mod.trans X).size;omega
     . have:=(Q.mod.trans X).size;rcases Pu.ft x j e with ⟨y,e2⟩|e2
       . have:=f0 y j e2;omega
       . have:=g0.size;omega
end
section
variable {s t u s':aI} {l x y:Int} {i:Nat}
def je (t:List Int):List Int->Int->Int
 | [],o=>o
 |x::c,o=>if x∈t then 0 else if -x∈t\/x=o then je t c o else if o≠0 then 0 else je t c x
def cI (c t:List Int):Int:=je t c 0
def cu (c t:List Int):Bool:=c.all λx=>decide (-x∈t)
theorem uG {t:List Int}:∀ (c:List Int) (o:Int),(∀y∈c,y≠0)->je t c o≠0->(∀y∈c,y ∉ t/\(y=je t c o\/ -y∈t))/\(je t c o=o\/(o=0/\je t c o∈c/\ -(je t c o) ∉ t))
 | [],o,_,_=>⟨λy I=>by simp at I,.inl rfl⟩
 |x::c,o,nz,h=>by
  have O:∀y∈c,y≠0:=λy I=>nz y (vy _ I);have X:x≠0:=nz x (UJ ..);unfold je at h ⊢;by_cases h1:x∈t
  . rw [if_pos h1] at h;exact absurd rfl h
  . rw [if_neg h1] at h ⊢;by_cases J: -x∈t\/x=o
    . rw [if_pos J] at h ⊢;obtain ⟨a,b⟩:=uG c o O h;refine ⟨λy I=>?_,b.imp id λe=>⟨e.1,vy _ e.2.1,e.2.2⟩⟩;rcases UI.1 I with rfl|I
      . refine ⟨h1,?_⟩;rcases J with J|J
        . exact .inr J
        . rcases b with b| ⟨b,_⟩
          . exact .inl (J.trans b.symm)
          . omega
      . exact a y I
    . rw [if_neg J] at h ⊢;by_cases Q:o≠0
      . rw [if_pos Q] at h;exact absurd rfl h
      . rw [if_neg Q] at h ⊢;obtain ⟨a,b⟩:=uG c x O h;have Q:o=0:=by omega
        have U: -x ∉ t:=λe=>J (.inl e);have ex:je t c x=x:=by
         rcases b with b| ⟨b,_⟩
         . exact b
         . exact absurd b X
        refine ⟨λy I=>?_,.inr ⟨Q,by rw [ex];exact UJ ..,by rw [ex];exact U⟩⟩;rcases UI.1 I with rfl|I
        . exact ⟨h1,.inl ex.symm⟩
        . exact a y I
theorem mW {c t:List Int} (nz:∀y∈c,y≠0) (h:cI c t≠0):cI c t∈c/\cI c t ∉ t/\ -(cI c t) ∉ t/\∀y∈c,y=cI c t\/ -y∈t:=by
 obtain ⟨a,b⟩:=uG c 0 nz h;rcases b with b| ⟨_,b1,b2⟩
 . exact absurd b h
 . exact ⟨b1,(a _ b1).1,b2,λy I=> (a y I).2⟩
theorem nU {t:List Int} {l:Int} (O:l≠0) (hn: -l ∉ t):∀ (c:List Int) (o:Int),(∀y∈c,y ∉ t/\(y=l\/ -y∈t))->(o=l\/(o=0/\l∈c))->je t c o=l
 | [],o,_,I=>by
   rcases I with I| ⟨_,h⟩
   . exact I
   . simp at h
 |x::c,o,hc,I=>by
  have U:=hc x (UJ ..);have Q:∀y∈c,y ∉ t/\(y=l\/ -y∈t):=λy X=>hc y (vy _ X);unfold je;rw [if_neg U.1];by_cases e:x=l
  . subst e;by_cases J: -x∈t\/x=o
    . rw [if_pos J];refine nU O hn c o Q ?_;rcases J with J|J
      . exact absurd J hn
      . exact .inl J.symm
    . rw [if_neg J];rcases I with I| ⟨I,_⟩
      . exact absurd (Or.inr I.symm) J
      . rw [if_neg (by omega)];exact nU O hn c x Q (.inl rfl)
  . have Y: -x∈t:=U.2.resolve_left e;rw [if_pos (.inl Y)];refine nU O hn c o Q (I.imp id λh=>⟨h.1,?_⟩);rcases UI.1 h.2 with h|h
    . exact absurd h.symm e
    . exact h
theorem cx {c t:List Int}:cu c t=true↔∀x∈c,-x∈t:=by
 unfold cu;simp [UK]
inductive zY (cs:List (List Int)) (d:List Int):List Int->Prop
 |refl:zY cs d d
 |step {t:List Int} {c:List Int}:zY cs d t->c∈cs->cI c t≠0->zY cs d (t++ [cI c t])
def aI.AP (s:aI) (c:List Int):Prop:=∃i,s.aO i/\s.R (.a i)=c
def aI.vP (s:aI):List Int:=(s.R .be).map λe=> (s.R .tr).getD e.toNat 0
theorem aN.Qv (g:aN s) {c:List Int} (h:s.AP c):∀x∈c,dN s.vars x:=by
 obtain ⟨i,hi,rfl⟩:=h;exact λx I=>g.cv i hi x ((g.ca i hi x).2 I)
theorem aN.N7 (g:aN s):∀x∈s.vP,x∈s.R .tr:=by
 intro x O;obtain ⟨e,he,rfl⟩:=L0.1 O;obtain ⟨j,I,J⟩:=I'.1 he;have:=g.bl j I;simp only [List.getD,Mb I,US,J] at this;exact bE (by omega)
theorem Rg {p:Nat} (h:(p:Int)∈s.R .be):(s.R .tr).getD p 0∈s.vP:=
 L0.2 ⟨(p:Int),h,by rw [tn]⟩
theorem aN.wC (g:aN s) {Q:Int->Prop} (Y:∀x∈s.vP,Q x) (hc:∀c,s.AP c->∀l∈c,(∀y∈c,y≠l->Q (-y))-> -l ∉ s.R .tr->Q l):∀x∈s.R .tr,Q x:=by
 have key:∀p,p< (s.R .tr).length->Q ((s.R .tr).getD p 0):=by
  intro p
  induction p using Nat.strongRecOn with
  |_ p X=>
   intro hp;by_cases hb:(p:Int)∈s.R .be
   . exact Y _ (Rg hb)
   . obtain ⟨i,e1,I,Z,e4⟩:=g.Qq p hp hb;refine hc _ ⟨i,I,rfl⟩ _ ((g.ca i I _).1 Z) (λy O J=>?_) (g.cons (bE hp));have:=e4 y ((g.ca i I y).2 O) J;obtain ⟨q,hq,e⟩:=I'.1 this;rw [GD] at hq;have U:(s.R .tr).getD q 0= -y:=by
      rw [Wh] at e;simp [List.getD,show q< (s.R .tr).length by omega,e]
     rw [<- U];exact X q (by omega) (by omega)
 intro x hx;obtain ⟨p,hp,e⟩:=I'.1 hx;have:=key p hp;simp only [List.getD,Mb hp,US,e] at this;exact this
theorem aN.wv (g:aN s) {T:List Int} (Z:∀x∈s.vP,x∈T) (hT:∀x∈T,-x ∉ T) (Y:∀c,s.AP c->cu c T=false/\cI c T=0):∀x∈s.R .tr,x∈T:=by
 refine g.wC Z λc J l hl U _=>?_;obtain ⟨h1,X⟩:=Y c J;have hv:=g.Qv J;rcases XF (l∈T) with h|h
 . exact h
 . exfalso;have Q: -l ∉ T:=λe=>by
    rw [<- U5,cx] at h1;exact h1 λy I=>by
     by_cases O:y=l
     . rw [O];exact e
     . exact U y I O
   have:=nU (t:=T) (hv l hl).1 Q c 0 (λy I=>by
    by_cases O:y=l
    . subst O;exact ⟨h,.inl rfl⟩
    . have:=U y I O;exact ⟨λe=>hT y e this,.inr this⟩) (.inr ⟨rfl,hl⟩)
   have h3:=(hv l hl).1;unfold cI at X;omega
theorem d_.cl (hC:d_ s) (g:aN s) {c:List Int} (Q:s.AP c):(∃x∈c,x∈s.R .tr)\/∃x∈c,∃y∈c,x≠y/\x ∉ s.R .tr/\ -x ∉ s.R .tr/\y ∉ s.R .tr/\ -y ∉ s.R .tr:=by
 have hv:=g.Qv Q;obtain ⟨i,hi,rfl⟩:=Q;rcases hC i hi with h| ⟨x,O,y,J,I,U,X⟩
 . exact .inl h
 . have a:=(g.v0 (hv x O)).1 U;have b:=(g.v0 (hv y J)).1 X;exact .inr ⟨x,O,y,J,I,a.1,a.2,b.1,b.2⟩
theorem d_.unit (hC:d_ s) (g:aN s) {T c:List Int} (O:∀x∈T,x∈s.R .tr) (Y:s.AP c) (h:cI c T≠0):cI c T∈s.R .tr:=by
 obtain ⟨_,_,_,Q⟩:=mW (λy J=> (g.Qv Y y J).1) h;rcases hC.cl g Y with ⟨x,X,I⟩| ⟨x,X,y,J,U,x1,x2,y1,Z⟩
 . rcases Q x X with e|e
   . rw [<- e];exact I
   . exact absurd (O _ e) (g.cons I)
 . exfalso;have ex:x=cI c T:=(Q x X).resolve_right λe=>x2 (O _ e);have ey:y=cI c T:=(Q y J).resolve_right λe=>Z (O _ e);exact U (ex.trans ey.symm)
theorem d_.JU (hC:d_ s) (g:aN s) {T c:List Int} (O:∀x∈T,x∈s.R .tr) (U:s.AP c):cu c T=false:=by
 rw [<- U5,cx];intro h;rcases hC.cl g U with ⟨x,J,I⟩| ⟨x,J,_,_,_,_,Q,_,_⟩
 . exact g.cons I (O _ (h x J))
 . exact Q (O _ (h x J))
theorem d_.Ul (hC:d_ s) (g:aN s) {cs:List (List Int)} (J:∀c∈cs,s.AP c) {d T:List Int} (X:∀x∈d,x∈s.R .tr) (h:zY cs d T):∀x∈T,x∈s.R .tr:=by
 induction h with
 |refl=>exact X
 |step h1 Q U O=>
  intro x I;rcases F'.1 I with I|I
  . exact O x I
  . rw [Bs] at I;rw [I];exact hC.unit g O (J _ Q) U
end
section
variable {w w' w0 w2 w3:World} {p q:sn} {n m c d:Nat} {l t T:List Int}
theorem nw (x:Int) (I: -1048576<=x/\x<=1048576):IntKind.i64.wrap (0 - x)= -x:=by rw [aA (by omega) (by omega)];omega
theorem Dd (hc:Vw sT w p l) (hn:n=l.length) (Q:n<=maxLen) (ht:Vw sT w q t) (hm:m=t.length) (Y:m<=maxLen) (hb:∀x∈l,-1048576<=x/\x<=1048576):
 Calls prog eZ.id #[.slice p n c,.slice q m d] w λe w'=>e=.returned (.bool (cu l t))/\ak w w':=by
 have Z:n<=9223372036854775807:=by unfold maxLen at Q;omega
 refine eZ.aj ⟨λI u z=>∃i:Nat,I=i/\i<=l.length/\z=l.length - i/\ak w u/\∀x∈l.take i,-x∈t,⟨_,0,rfl,vx _,rfl,aD.refl w,λx Q=>by simp at Q⟩,?_⟩;rintro I u z _ ⟨i,rfl,hi,rfl,g,J⟩;refine ah (λr=>?_) (λr=>?_)
 . have r:i<l.length:=by rw [hn] at r;simpa using r
   refine (hc.grow g).ix 0 (by omega) hn (by omega) λa e=>⟨_,e,?_⟩
   rw [tn];have U:=hb _ (bE r);try dsimp only
   rw [nw _ U];refine (y_ (ht.grow g) hm Y _).mono ?_;rintro e w8 ⟨rfl,X⟩;refine ⟨_,rfl,ah (λO=>?_) (λO=>⟨_,?_,i+1,wN,by omega,rfl,g.trans X,λx Q=>?_⟩)⟩
   . have O: -(l.getD i 0) ∉ t:=by simpa using O
     refine ⟨?_,g.trans X⟩;have:cu l t=false:=by
      rw [<- U5,cx];exact λh=>O (h _ (bE r))
     rw [this]
   . omega
   . have O: -(l.getD i 0)∈t:=by simpa using O
     rcases (dS r).1 Q with h|h
     . exact J x h
     . rw [h];exact O
 . have r:i=l.length:=by rw [hn] at r;simp at r;omega
   subst r;rw [K'] at J;have:cu l t=true:=cx.2 J;exact ⟨by rw [this],g⟩
theorem GK (hc:Vw sT w p l) (hn:n=l.length) (hx:n<=maxLen) (ht:Vw sT w q t) (hm:m=t.length) (hy:m<=maxLen) (hb:∀x∈l,-1048576<=x/\x<=1048576):
 Calls prog gY.id #[.slice p n c,.slice q m d] w λe w'=>e=.returned (.i (cI l t))/\ak w w':=by
 have a_:n<=9223372036854775807:=by unfold maxLen at hx;omega
 refine gY.aj ⟨λO I u z=>∃i:Nat,I=i/\i<=l.length/\z=l.length - i/\ak w u/\je t (l.drop i) O=cI l t,⟨_,0,rfl,vx _,rfl,aD.refl w,by simp [cI]⟩,?_⟩;rintro O I u z _ ⟨i,rfl,hi,rfl,g,hu⟩;refine ah (λr=>?_) (λr=>?_)
 . have r:i<l.length:=by rw [hn] at r;simpa using r
   have cP:∀ {u':World},ak w u'->∀ {K:Addr->Prop},(∀a,u'.cell? a=some (.i (l.getD i 0))->K a)->aW p n (i:Int) 1 K:=λ{u'} g' {K} hk=>by
    refine (hc.grow g').ix 0 (by omega) hn (by omega) λa e=>hk a ?_;rw [tn] at e;exact e
   have az:l.drop i=l.getD i 0::l.drop (i+1):=by
    rw [VN r];simp [List.getD,r]
   have aw:=hb _ (bE r);rw [az] at hu;generalize l.getD i 0=X at*
   unfold je at hu;refine cP g λa e=>⟨_,e,(y_ (ht.grow g) hm hy _).mono ?_⟩
   rintro e w9 ⟨rfl,g9⟩;have G9:=g.trans g9;refine ⟨_,rfl,ah (λQ=>?_) (λQ=>?_)⟩
   . have Q:X∈t:=by simpa using Q
     rw [if_pos Q] at hu;exact ⟨by rw [<- hu],G9⟩
   . have Q:X ∉ t:=by simpa using Q
     rw [if_neg Q] at hu;refine cP G9 λa e=>⟨_,e,?_⟩
     try dsimp only
     rw [nw _ aw];refine (y_ (ht.grow G9) hm hy _).mono ?_;rintro e ax ⟨rfl,av⟩;have J:=G9.trans av;have next:∀ {O':Int},je t (l.drop (i+1)) O'=cI l t->∃k3,k3<l.length - i/\∃i':Nat,IntKind.i64.wrap ((i:Int)+1)=i'/\i'<=l.length/\k3=l.length - i'/\ak w ax/\je t (l.drop i') O'=cI l t:=by
      intro O' h;exact ⟨_,by omega,i+1,wN,r,rfl,J,h⟩
     refine ⟨_,rfl,ah (λZ=>?_) (λZ=>?_)⟩
     . have Z: -X∈t:=by simpa using Z
       rw [if_pos (.inl Z)] at hu;exact next hu
     . have Z: -X ∉ t:=by simpa using Z
       refine cP J λa e=>⟨_,e,ah (λU=>?_) (λU=>?_)⟩
       . have U:X=O:=by simpa using U
         rw [if_pos (.inr U)] at hu;exact next hu
       . have U: ¬X=O:=by simpa using U
         rw [if_neg (λh=>h.elim Z U)] at hu;refine ah (λY=>?_) (λY=>cP J λa e=>⟨_,e,?_⟩)
         . have Y:O≠0:=by simpa using Y
           rw [if_pos Y] at hu;exact ⟨by rw [<- hu],J⟩
         . have Y: ¬O≠0:=by simpa using Y
           rw [if_neg Y] at hu;exact next hu
 . have r:i=l.length:=by rw [hn] at r;simp at r;omega
   subst r;rw [V6] at hu;have hu:O=cI l t:=hu;exact ⟨by rw [hu],g⟩
end
section
variable {w w' w0 w2 w3:World} {p q:sn} {n m c d V:Nat} {l t T:List Int} {hs:List Sl} {cs:List (List Int)}
theorem MG {x:Int} {nb:Nat} {w0:World} (h:jI (.cells #[.i x] aq) w0 nb w):Vw sT w (some ⟨nb,0,none⟩) [x]:=by
 intro j I;have I:j=0:=by simpa using I
 subst I;exact ⟨_,rfl,ae h.has rfl⟩
end
section
variable {w w' w0 w2 w3:World} {b:Nat} {H H' H2:Pt->Sl} {s t u s' T:aI} {cp gp dp:sn} {hs:List Sl} {cs:List (List Int)} {gl:List Bool} {dl:List Int} {cn cc gn gc dn dc:Nat} {v:Int}
theorem nY {l:List Int} {x y:Int}:y∈wo l x↔y∈l/\y≠x:=by unfold wo;simp
end
section
variable {w w' w0 w2 w3:World} {b:Nat} {H H' H2:Pt->Sl} {s t u s' T:aI} {cp gp dp:sn} {hs:List Sl} {cs:List (List Int)} {gl:List Bool} {dl:List Int} {cn cc gn gc dn dc:Nat} {v:Int}
def TQ (s:aI) (r:Int):Prop:=(r= -1/\d_ s)\/∃i:Nat,r=i/\yz s i
end
section
variable {w w' w0 w2 w3:World} {b:Nat} {H H' H2:Pt->Sl} {s t u s' T:aI} {cp gp dp:sn} {hs:List Sl} {cs:List (List Int)} {gl:List Bool} {dl:List Int} {cn cc gn gc dn dc:Nat} {v:Int}
theorem AA (g:aN s) (l:Int):(s.decide l).vP=s.vP++ [l]:=by
 have Q:(s.decide l).R .be=s.R .be++ [((s.R .tr).length:Int)]:=by
  unfold aI.decide;rw [kG (by simp) (by simp) (by simp) (by simp)];unfold aI.kL;rw [ao (by simp),aS]
 have O:(s.decide l).R .tr=s.R .tr++ [l]:=by
  unfold aI.decide;rw [sF];unfold aI.kL;rw [ao (by simp),ao (by simp)]
 unfold aI.vP;rw [Q,O,LV,WT,tn,cY];congr 1;refine Vl λq hq=>?_;obtain ⟨j,I,J⟩:=I'.1 hq;have:=g.bl j I;simp only [List.getD,Mb I,US,J] at this;exact bX (by omega)
theorem EN (l:Int):(s.decide l).vars=s.vars/\(s.decide l).nc=s.nc/\(s.decide l).gone=s.gone/\∀i,(s.decide l).R (.a i)=s.R (.a i):=by
 refine ⟨by simp only [aI.decide,aI.put,aI.kL,aI.set],by simp only [aI.decide,aI.put,aI.kL,aI.set],by simp only [aI.decide,aI.put,aI.kL,aI.set],λi=>?_⟩;unfold aI.decide;rw [kG (by simp) (by simp) (by simp) (by simp)];unfold aI.kL;rw [ao (by simp),ao (by simp)]
end
section
variable {w w' w0 w2 w3:World} {b:Nat} {H H' H2:Pt->Sl} {s t u s' T:aI} {cp gp dp ap:sn} {hs:List Sl} {cs:List (List Int)} {gl:List Bool} {dl:List Int} {cn cc gn gc dn dc an ac:Nat} {v:Int}
theorem HZ (g:aN s) (x:j7 s s'):s'.vP=s.vP:=by
 unfold aI.vP;rw [x.be];obtain ⟨e,he⟩:=x.tr;rw [he];refine Vl λq hq=>?_;obtain ⟨j,I,J⟩:=I'.1 hq;have:=g.bl j I;simp only [List.getD,Mb I,US,J] at this;rw [bX (by omega)]
theorem wI (L:Nat):(s.bW L).vars=s.vars/\(s.bW L).nc=s.nc/\(s.bW L).gone=s.gone/\(∀i,(s.bW L).R (.a i)=s.R (.a i))/\(s.bW L).R .be=(s.R .be).take L/\(s.bW L).R .tr=(s.R .tr).take ((s.R .be).getD L 0).toNat:=by
 have key:∀y,(s.bW L).R y=((((s.set .va (Fm (s.R .va) ((s.R .tr).drop ((s.R .be).getD L 0).toNat))).set .tr ((s.R .tr).take ((s.R .be).getD L 0).toNat)).set .be ((s.R .be).take L)).set .ds ((s.R .ds).take L)).R y:=λy=>rfl;refine ⟨rfl,rfl,rfl,λi=>?_,?_,?_⟩
 . rw [key,ao (by simp),ao (by simp),ao (by simp),ao (by simp)]
 . rw [key,ao (by simp),aS]
 . rw [key,ao (by simp),ao (by simp),aS]
end
end Go.Proofs.YtbdghpjnifjlmaaGreat.W
