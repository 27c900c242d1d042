/- Layer 6: a literal is decided. -/
import Derived.Test.YtbdghpjnifjlmaaGreatPropA
import Derived.Test.YtbdghpjnifjlmaaGreatSortA
set_option linter.all false
namespace Go.Proofs.YtbdghpjnifjlmaaGreat.W
open Go Go.Fw Go.RowKit Go.SoP Go.LiP
open Go.Proofs.Tryz (prog)
section
variable{w w' w0 w2 w3:World}{b:Nat}{H H' H2:Pt->Sl}{s t u s' T:aH}{l x y:Int}{i:Nat}
def aH.kP(s:aH):aH:=(s.set .be (s.R .be++ [((s.R .tr).length:Int)])).set .ds (s.R .ds++ [(s.done:Int)])
def aH.decide(s:aH)(l:Int):aH:=s.kP.put l (-1)
theorem px(g:aL s)(hl:dZ s.vars l)(J:s.val l=0):aL (s.decide l):=
 AL g hl J (t:=s.kP) (λy h1 I=>by unfold aH.kP;rw[aq I,aq h1]) rfl rfl rfl rfl (.inr ⟨by unfold aH.kP;rw[aq (by simp),aQ],by unfold aH.kP;rw[aQ],rfl⟩)
structure Sh(b:Nat)(H:Pt->Sl)(s:aH):Prop where
 cn:(H .c).n=s.nc
 wn:(H .wa).n=2* (s.vars+1)
 len:∀x,x.row=true->(H x).n=(s.R x).length
 inj:∀x y k,own b H x=some k->own b H y=some k->x=y
structure Pq(w:World)(b:Nat)(H:Pt->Sl)(s:aH)(E:Pt->Prop):Prop where
 st:bO w b (Eg s H)
 c:Row 3 TS kW w (H .c).p (H .c).c (FB H s.gone s.nc)
 wa:Ow Sl.v aI w (H .wa).p (H .wa).c (jM H (2* (s.vars+1)))
 row:∀y,y.row=true->¬E y->Ow y.f y.T w (H y).p (H y).c (s.R y)
theorem PM.sh(h:PM w b H s):Sh b H s:=⟨h.cn,h.wn,h.len,h.inj⟩
theorem Sh.pm(k:Sh b H s){E:Pt->Prop}(X:Pq w b H s E)(J:∀y,¬E y):PM w b H s:=⟨X.st,X.c,k.cn,X.wa,k.wn,λx I=>X.row x I (J x),k.len,k.inj⟩
theorem qz(I:∀x y k,own b H x=some k->own b H y=some k->x=y){x:Pt}(X:x≠ .st){q:Sl}(hp:∀k,aF q.p=some k->aF (H x).p=some k\/∀y,own b H y≠some k):
 ∀y z k,own b (bI H x q) y=some k->own b (bI H x q) z=some k->y=z:=by
 have key:∀y,y≠x->own b (bI H x q) y=own b H y:=λy e=>by
  cases y<;>first|rfl| (simp only[own];rw[aW e])
 have same:own b (bI H x q) x=aF q.p:=by rw[cy X,bE]
 intro y z k J O;by_cases Q:y=x<;>by_cases U:z=x
 .rw [Q,U]
 .subst Q;rw[same]at J;rw[key z U]at O;rcases hp k J with e|e
  .exact I y z k (by rw[cy X];exact e) O
  .exact absurd O (e z)
 .subst U;rw[same]at O;rw[key y Q]at J;rcases hp k O with e|e
  .exact I y z k J (by rw[cy X];exact e)
  .exact absurd J (e y)
 .rw [key y Q]at J;rw[key z U]at O;exact I y z k J O
theorem Sh.head(h:Sh b H s){E:Pt->Prop}{x:Pt}(Q:x.field=true){J:sn}{c':Nat}{l':List Int}(o:Ow x.f x.T w2 J c' l')(X:Pq w2 b H s E)
 (hp:∀k,aF J=some k->aF (H x).p=some k\/∀y,own b H y≠some k) {n':Nat} (hn:n'=l'.length) {K:World->Prop}
 (I:∀w3,Sh b (bI H x ⟨J,n',c'⟩) (s.set x l')->Pq w3 b (bI H x ⟨J,n',c'⟩) (s.set x l') (λy=>E y/\y≠x)->aE (·=b) w2 w3->K w3):
 ∃w3,bD ((qw b).add x.off) 0 [.slice J n' c'] w2 w3/\K w3:=by
 subst hn;have hr:=tj Q;obtain⟨h1,h2,h3⟩:=dX hr;have hb:∀y k,y≠ .st->own b H y=some k->k≠b:=λy k O I e=>by subst e;exact O (h.inj y .st k I rfl)
 have aa:∀k,aF J=some k->¬k=b:=λk U e=>by
  rcases hp k U with Y|Y
  .exact h1 (h.inj x .st k (by rw[cy h1];exact Y) (by rw[e];rfl))
  .exact Y .st (by rw[e];rfl)
 have hl:∀i,x≠ .l i:=λi e=>by subst e;simp[Pt.field]at Q
 have ha:∀i,x≠ .a i:=λi e=>by subst e;simp[Pt.field]at Q
 have hw:∀i,x≠ .w i:=λi e=>by subst e;simp[Pt.field]at Q
 refine cz (k:=x.off) (i:=0) X.st (by cases x<;>simp[Pt.field]at Q<;>rfl) rfl λw3 Z m3=>I w3 ?_ ?_ m3
 .refine ⟨by rw[aW (WL h2)];exact h.cn,by rw[aW (WL h3)];exact h.wn,λy O=>?_,qz h.inj h1 hp⟩;by_cases e:y=x
  .subst e;simp only[aH.set,bE]
  .simp only[aH.set,aW e];exact h.len y O
 .refine ⟨?_,?_,?_,λy O hE=>?_⟩
  .have e:wr (Eg s H) (0+x.off+0) [.slice J l'.length c']=Eg (s.set x l') (bI H x ⟨J,l'.length,c'⟩):=by
    cases x<;>simp[Pt.field]at Q<;>simp[wr,Eg,Pt.off,bI,aH.set,Sl.v]
   rw[<- e];exact Z
  .rw [Eu hl ha,aW (WL h2)];exact X.c.keep m3 λk I=>hb .c k (by simp) I
  .show Ow Sl.v aI w3 _ _ (jM (bI H x _) (2* (s.vars+1)));rw[l6 hw,aW (WL h3)];exact X.wa.keep m3 λk I=>hb .wa k (by simp) I
  .by_cases e:y=x
   .subst e;simp only[aH.set,bE];exact o.keep m3 λk I=>aa k I
   .simp only[aH.set,aW e];exact(X.row y O λh=>hE ⟨h,e⟩).keep m3 λk I=>hb y k (dX O).1 (by rw[cy (dX O).1];exact I)
theorem PM.Vi(h:PM w b H s){E:Pt->Prop}(U:∀y,E y->y.row=true){S:Nat->Prop}(m:aE S w w')(Q:∀k,k<w.heap.size->S k->∃y,E y/\own b H y=some k):Pq w' b H s E:=by
 have I:∀y k,¬E y->own b H y=some k->¬S k:=λy k O J hs=>by
  obtain⟨z,X,e⟩:=Q k (h.lt y k J) hs;exact O (h.inj y z k J e▸X)
 have ne:∀y,y.row=false->¬E y:=λy O he=>by rw[U y he]at O;cases O
 exact⟨h.st.keep m (I .st b (ne _ rfl) rfl),h.c.keep m λk J=>I .c k (ne _ rfl) J,h.wa.keep m λk J=>I .wa k (ne _ rfl) J,
  λy O e=> (h.row y O).keep m λk J=>I y k e (by rw[cy (dX O).1];exact J)⟩
theorem iW{x y:Pt}{q:Sl}(e:y≠x):own b (bI H x q) y=own b H y:=by cases y<;>first|rfl| (simp only[own];rw[aW e])
theorem PM.aC(h:PM w0 b H s){wB:World}{U:sn}{c1:Nat}{y1 y2:Int}(o1:d_ aB wB U c1 (s.R .be++ [y1]))(m1:aE (λk=>aF (H .be).p=some k) w0 wB)
 (Q:∀k,aF U=some k->aF (H .be).p=some k\/w0.heap.size<=k) {n2:Nat} (hb:bO wB n2 #[.i y2]) (hlen:(s.R .ds).length<=4000000) {n1:Nat} (az:n1=(s.R .be++ [y1]).length) {K:World->Prop}
 (I:∀w3 H',Pw w0 w3 b H H' ((s.set .be (s.R .be++ [y1])).set .ds (s.R .ds++ [y2]))->K w3):
 ∃w2,∃ (X:sn) (n' c':Nat),(Builtin.append_ #[aI,aI] aI #[.slice (H .ds).p (H .ds).n (H .ds).c,.slice (some (qw n2)) 1 1]).run prog wB=.ok (.slice X n' c') w2/\
  ∃a:Addr,(some ⟨b,0,none⟩:sn)=some a/\∃w3,bD (a.add 7) 0 [.slice U n1 c1] w2 w3/\∃a:Addr,(some ⟨b,0,none⟩:sn)=some a/\∃w4,bD (a.add 8) 0 [.slice X n' c'] w3 w4/\K w4:=by
 have X1:=h.Kd (x:=.be) rfl m1;have ax:d_ aB wB (H .ds).p (H .ds).c (s.R .ds):=X1.row .ds rfl (by simp);refine ax.jS cR y2 hb rfl (h.len .ds rfl) eI (by omega) λw2 X c' o2 m2 Y bk=>⟨_,rfl,?_⟩
 have Z:∀k,aF U=some k->¬aF (H .ds).p=some k:=λk I e=>by
  rcases Q k I with h1|h1
  .exact h.j8 (x:=.ds) (by simp) (y:=.be) (by simp) h1 e
  .have:=h.lt .ds k e;omega
 have aa:aE (λk=>aF (H .be).p=some k\/aF (H .ds).p=some k) w0 w2:=(m1.mono λ_ _ e=> .inl e).trans (m2.mono λ_ _ e=> .inr e);have Q2:=h.Vi (E:=λy=>y=.be\/y=.ds) (λy e=>by rcases e with rfl|rfl<;>rfl) aa λk _ e=>e.elim (λe=>⟨.be,.inl rfl,e⟩) λe=>⟨.ds,.inr rfl,e⟩
 have z1:=m1.size;have f2:∀k,aF X=some k->aF (H .ds).p=some k\/w0.heap.size<=k:=λk I=>by
  rcases Y with rfl|rfl
  .exact .inl I
  .have:=aO I;exact .inr (by omega)
 have f12:∀k,aF X=some k->aF U≠some k:=λk I e=>by
  rcases Y with rfl|rfl
  .exact Z k e I
  .have:=aO I;have:=o1.lt k e;omega
 refine h.sh.head (x:=.be) rfl (o1.keep m2 λk I=>Z k I) Q2 (λk I=> (Q k I).imp id λe=>h.cE e) az λw3 S3 Q3 m3=>⟨_,rfl,?_⟩
 refine S3.head (x:=.ds) rfl (o2.keep m3 λk I e=>?_) Q3 (λk I=>?_) (by simp) λw4 S4 Q4 m4=>I w4 (bI (bI H .be ⟨U,n1,c1⟩) .ds ⟨X,(s.R .ds).length+1,c'⟩) ?_
 .rcases f2 k I with O|O
  .exact h.j8 (x:=.ds) (by simp) (y:=.st) (by simp) (k:=k) (by rw[e];rfl) O
  .have:=h.lt .st b rfl;omega
 .rw [aW (by simp)];rcases f2 k I with O|O
  .exact .inl O
  .refine .inr λy e=>?_;by_cases ey:y=.be
   .subst ey;rw[cy (by simp),bE]at e;exact f12 k I e
   .rw [iW ey]at e;have:=h.lt y k e;omega
 .refine ⟨S4.pm Q4 λy e=>?_,?_,λx k J=>?_⟩
  .rcases e.1.1 with O|O
   .exact e.1.2 O
   .exact e.2 O
  .exact ((aa.mono λk _ e=>e.elim (λe=>⟨.be,e⟩) λe=>⟨.ds,e⟩).trans (m3.mono λk _ e=>⟨.st,by rw[e];rfl⟩)).trans (m4.mono λk _ e=>⟨.st,by rw[e];rfl⟩)
  .by_cases e1:x=.ds
   .subst e1;rw[cy (by simp),bE]at J;exact(f2 k J).imp (λe=>⟨.ds,e⟩) id
   .rw [iW e1]at J;by_cases O:x=.be
    .subst O;rw[cy (by simp),bE]at J;exact(Q k J).imp (λe=>⟨.be,e⟩) id
    .rw [iW O]at J;exact .inl ⟨x,J⟩
theorem wP(h:PM w b H s)(g:aL s)(l:Int):Calls prog 109 #[cj b,.i l] w λe w'=>∃r:Int,e=.returned (.i r)/\∃H',((r=0/\dZ s.vars l/\s.val l=0/\Pw w w' b H H' (s.decide l))\/(r=1/\¬(dZ s.vars l/\s.val l=0)/\Pw w w' b H H' s)):=by
 have k:=g.wf;refine e_.aj ((xR h k l).mono ?_);rintro e w1⟨rfl,g1⟩;refine⟨_,rfl,?_⟩;cases hi:C7 s.vars l with
 |false=>exact bJ rfl ⟨_,rfl,H,.inr ⟨rfl,(λhh=>by rw[(iX k.eM).2 hh.1]at hi;cases hi),Pw.refl (h.grow g1) g1⟩⟩
 |true=>
  have hl:=(iX k.eM).1 hi;refine bq rfl ((pQ (h.grow g1) k hl).mono ?_);rintro e w3⟨rfl,rfl⟩;refine⟨_,rfl,ah (λr=>?_) (λr=>?_)⟩
  .have r:s.val l≠0:=by simpa using r
   exact⟨_,rfl,H,.inr ⟨rfl,λh=>r h.2,Pw.refl (h.grow g1) g1⟩⟩
  .have r:s.val l=0:=by simpa using r
   have O:=(h.grow g1).drew;have kb:(s.R .be).length<=1048576:=by have:=g.RK;have:=g.CQ;have:=g.eM;omega
   have kd:(s.R .ds).length<=1048576:=by rw[g.dl];exact kb
   have kt:(s.R .tr).length<=1048576:=by have:=g.CQ;have:=g.eM;omega
   have aw:∀ {a:Addr} {u:Value},w3.drew.cell? a=some u->a.block=b->yY (aE (λk=>aF (H .be).p=some k\/aF (H .ds).p=some k) w3.drew) a u:=λhc bg u' g=>ee g hc λe=>by
    rw[bg]at e;rcases e with e|e
    .exact O.j8 (x:=.be) (by simp) (y:=.st) (by simp) rfl e
    .exact O.j8 (x:=.ds) (by simp) (y:=.st) (by simp) rfl e
   have gm:∀ {w1:World},ak w3.drew w1->aE (λk=>aF (H .be).p=some k\/aF (H .ds).p=some k) w3.drew w1:=λg=>g.mono λ_ _ e=>e.elim;refine⟨aE (λk=>aF (H .be).p=some k\/aF (H .ds).p=some k) w3.drew,aE.refl _,_,rfl,_,_,_,aw (ae O.st rfl) (cV _ _),_,rfl,_,_,_,aw (ae O.st rfl) (cV _ _),_,rfl,_,_,_,aw (ae O.st rfl) (cV _ _),
    _,rfl,_,aw (ae O.st rfl) (cV _ _),?_⟩
   rw[h.len .tr rfl];have kB:Wf s.kP:=by
    unfold aH.kP;refine⟨k.eM,by rw[aq (by simp),aq (by simp)];exact k.va,by rw[aq (by simp),aq (by simp)];exact k.vb,by rw[aq (by simp),aq (by simp)];exact k.le,by rw[aq (by simp),aq (by simp)];exact k.re,?_,by rw[aq (by simp),aq (by simp)];exact k.tr,k.nc⟩;rw[aq (by simp),aQ,I'];simp only[Wz,Xi];omega
   have eh:∀I H',Pw w3.drew I b H H' s.kP->Calls prog 156 #[cj b,.i l,.i (-1)] I λe ax=>e=.returned (.tuple #[])/\
    ∃r:Int,Ending.returned (.i 0)=.returned (.i r)/\∃H',((r=0/\dZ s.vars l/\s.val l=0/\Pw w ax b H H' (s.decide l))\/(r=1/\¬(dZ s.vars l/\s.val l=0)/\Pw w ax b H H' s)):=by
    intro I H' P;refine(Ig P.pm kB (l:=l) hl (-1)).mono ?_;rintro e ax⟨rfl,q,P2⟩;exact⟨rfl,_,rfl,_,.inl ⟨rfl,hl,r,(P.trans P2).df (g1.trans (aE.refl _).drew)⟩⟩
   have fr:∀ {u:World} {p':sn},ak w3.drew u->(p'=(H .be).p\/p'=some ⟨u.heap.size,0,none⟩)->∀k,aF p'=some k->aF (H .be).p=some k\/w3.drew.heap.size<=k:=λg hp k hk=>by
    rcases hp with rfl|rfl
    .exact .inl hk
    .have:=aO hk;have:=g.size;exact .inr (by omega)
   have ar:∀ {u:World},ak w3.drew u->d_ aB u (H .be).p (H .be).c (s.R .be):=λg=> (O.grow g).row .be rfl;have a7:∀ {n:Nat} {u v:World} {o:Obj},ak w3.drew u->jz o u n v->¬aF (H .be).p=some n:=λg hn e=>by
    have:=O.lt .be _ e;have:=hn.num;have:=g.size;omega
   refine⟨?_,?_⟩
   .intro n14 b5 av;have J:=av.mod;refine⟨gm J,?_,?_⟩
    .refine (ar J).jS cR _ av.has rfl (h.len .be rfl) eI (by omega) λb3 p1 c1 o1 m1 U aT=>⟨(gm J).trans (m1.mono λ_ _ e=> .inl e),?_⟩
     intro b4 bf aa;have a8:aE (λk=>aF (H .be).p=some k) w3.drew bf:=((J.mono λ_ _ e=>e.elim).trans m1).trans (aa.mod.mono λ_ _ e=>e.elim);refine⟨a8.mono λ_ _ e=> .inl e,O.aC (o1.grow aa.mod) a8 (fr J U) aa.has (by omega) (by simp) λI H' P=>eh I H' P⟩
    .intro n27 b' Y;have X:=J.trans Y.mod;refine⟨gm X,(ar X).jS cR _ (av.has.grow Y.mod) rfl (h.len .be rfl) eI (by omega) λbb p1 c1 o1 m1 U aT=>⟨(gm X).trans (m1.mono λ_ _ e=> .inl e),?_⟩⟩;exact O.aC o1 ((X.mono λ_ _ e=>e.elim).trans m1) (fr X U) (Y.has.keep m1 (a7 J Y)) (by omega) (by simp) λI H' P=>eh I H' P
   .intro b9 b_ az;have a6:=az.mod;refine⟨gm a6,?_⟩;intro b6 b8 Z;have Q:=a6.trans Z.mod;refine⟨gm Q,(ar Q).jS cR _ Z.has rfl (h.len .be rfl) eI (by omega) λbb p1 c1 o1 m1 U aT=>⟨(gm Q).trans (m1.mono λ_ _ e=> .inl e),?_⟩⟩;exact O.aC o1 ((Q.mono λ_ _ e=>e.elim).trans m1) (fr Q U) ((az.has.grow Z.mod).keep m1 (a7 (aE.refl _) az)) (by omega) (by simp) λI H' P=>eh I H' P
end
section
variable{w w' w0 w2 w3:World}{b:Nat}{H H' H2:Pt->Sl}{s t u s' T:aH}{l x y:Int}{i:Nat}
def GB(va:List Int)(I:List Int):List Int:=I.foldl (λva x=>va.set (bo x).toNat 0) va
theorem Dq:∀ (I va:List Int),(GB va I).length=va.length
 | [],_=>rfl
 |x::I,va=>by
  show (GB (va.set (bo x).toNat 0) I).length=_;rw[Dq I];simp
theorem D_{k:Nat}:∀ (I va:List Int),(GB va I).getD k 0=if ∃x∈I,(bo x).toNat=k then 0 else va.getD k 0
 | [],va=>by simp[GB]
 |x::I,va=>by
  show (GB (va.set (bo x).toNat 0) I).getD k 0=_;rw[D_ I];by_cases h:∃y∈I,(bo y).toNat=k
  .obtain ⟨y,J,e⟩:=h;rw[v8 ⟨y,J,e⟩,v8 ⟨y,xk _ J,e⟩]
  .rw [r8 h];by_cases e:(bo x).toNat=k
   .rw [v8 ⟨x,Wb ..,e⟩];simp only[vx,Xe];rw[v8 e];split<;>simp
   .rw [r8]
    .simp only[vx,Xe];rw[r8 e]
    .rintro ⟨y,J,O⟩;rcases V'.1 J with rfl|J
     .exact e O
     .exact h ⟨y,J,O⟩
theorem NQ(va I:List Int)(x:Int):GB va (I++ [x])=(GB va I).set (bo x).toNat 0:=by simp[GB]
def aH.bV(s:aH)(L:Nat):aH:=
 {((((s.set .va (GB (s.R .va) ((s.R .tr).drop ((s.R .be).getD L 0).toNat))).set .tr ((s.R .tr).take ((s.R .be).getD L 0).toNat)).set .be ((s.R .be).take L)).set .ds ((s.R .ds).take L)) with
  done:=min (min s.done ((s.R .be).getD L 0).toNat) ((s.R .ds).getD L 0).toNat}
theorem hZ{l:List Int}{k j:Nat}(h:j<k):(l.take k).getD j 0=l.getD j 0:=by
 simp only[vx,WE];rw[v8 h]
theorem l4(g:aL s){L:Nat}(hL:L< (s.R .be).length):aL (s.bV L):=by
 have hb:=g.bl L hL;have b7:=g.db L hL;have b8:=g.dl;obtain⟨A,hA⟩: ∃A:Nat,((s.R .be).getD L 0).toNat=A:=⟨_,rfl⟩
 have bf:(s.R .be).getD L 0=(A:Int):=by omega
 have b_:A< (s.R .tr).length:=by omega
 have aw:(s.bV L).R .va=GB (s.R .va) ((s.R .tr).drop A):=by rw[<- hA];unfold aH.bV;simp[aH.set,bI]
 have I:(s.bV L).R .tr=(s.R .tr).take A:=by rw[<- hA];unfold aH.bV;simp[aH.set,bI]
 have O:(s.bV L).R .be=(s.R .be).take L:=by unfold aH.bV;simp[aH.set,bI]
 have av:(s.bV L).R .ds=(s.R .ds).take L:=by unfold aH.bV;simp[aH.set,bI]
 have eR:∀y,y≠ .va->y≠ .tr->y≠ .be->y≠ .ds->(s.bV L).R y=s.R y:=λy a1 a2 a3 a4=>by unfold aH.bV;simp[aH.set,bI,a1,a2,a3,a4]
 have bb:(s.bV L).done=min (min s.done A) ((s.R .ds).getD L 0).toNat:=by rw[<- hA];rfl
 have a6:=eR .le (by simp) (by simp) (by simp) (by simp);have az:=eR .re (by simp) (by simp) (by simp) (by simp);have Z:=eR .lo (by simp) (by simp) (by simp) (by simp);have el:∀i,(s.bV L).R (.l i)=s.R (.l i):=λi=>eR _ (by simp) (by simp) (by simp) (by simp);have ea:∀i,(s.bV L).R (.a i)=s.R (.a i):=λi=>eR _ (by simp) (by simp) (by simp) (by simp);have ew:∀i,(s.bV L).R (.w i)=s.R (.w i):=λi=>eR _ (by simp) (by simp) (by simp) (by simp);have aT:∀x,(s.bV L).bM x=s.bM x:=λx=>by unfold aH.bM;rw[a6]
 have ar:∀x,(s.bV L).nD x=s.nD x:=λx=>by unfold aH.nD;rw[az]
 have lt:((s.R .tr).take A).length=A:=by rw[y6];omega
 have lb:((s.R .be).take L).length=L:=by rw[y6];omega
 have sub:∀x,x∈(s.R .tr).take A->x∈s.R .tr:=λx J=>Wh J;have later:∀p:Int,p∈(s.R .be).drop L->(A:Int)<=p:=λp hp=>by
  obtain⟨j,X,e⟩:=Bs.1 hp;rw[WD]at X;rw[Y0]at e;have ep:(s.R .be).getD (L+j) 0=p:=by simp[List.getD,show L+j< (s.R .be).length by omega,e]
  rcases Wt j with h|h
  .subst h;rw[XN,bf]at ep;omega
  .have:=g.bs L (L+j) (by omega) (by omega);rw[bf,ep]at this;omega
 have nd:=g.nd;have a8:∀x,dZ s.vars x->(s.bV L).val x=if ∃y∈(s.R .tr).drop A,bo y=bo x then 0 else s.val x:=λx J=>by
  have b6:=J.bo;have key:∀k:Nat,((k:Int)=bo x)->((GB (s.R .va) ((s.R .tr).drop A)).getD k 0=if ∃y∈(s.R .tr).drop A,bo y=bo x then 0 else (s.R .va).getD k 0):=λk hk=>by
   rw[D_];have:(∃y∈(s.R .tr).drop A,(bo y).toNat=k)↔∃y∈(s.R .tr).drop A,bo y=bo x:=by
    constructor
    .rintro ⟨y,Y,e⟩;have:=(g.tv y (YI Y)).bo;exact⟨y,Y,by omega⟩
    .rintro ⟨y,Y,e⟩;exact⟨y,Y,by omega⟩
   by_cases h:∃y∈(s.R .tr).drop A,bo y=bo x
   .rw [v8 (this.2 h),v8 h]
   .rw [r8 (λh2=>h (this.1 h2)),r8 h]
  unfold aH.val;rw[aw];by_cases e:x<0
  .rw [v8 e,v8 e,key _ (by unfold bo;rw[v8 e];omega)];split<;>simp
  .rw [r8 e,r8 e,key _ (by unfold bo;rw[r8 e];omega)]
 have apart:∀x∈(s.R .tr).take A,∀y∈(s.R .tr).drop A,bo y≠bo x:=λx J y Y e=>by
  have h1:((s.R .tr).take A++ (s.R .tr).drop A).map bo=(s.R .tr).map bo:=by rw[WN]
  rw[<- h1,GD,Xu]at nd;exact nd.2.2 (bo x) (WA J) (bo y) (WA Y) e.symm
 have tt:∀D,D<=A->((s.R .tr).take A).take D=(s.R .tr).take D:=λD hD=>by rw[X0,WK hD]
 have U:(s.bV L).vars=s.vars:=rfl;have enc:(s.bV L).nc=s.nc:=rfl;have Q:∀i,(s.bV L).aN i↔s.aN i:=λ_=>Yb;generalize s.bV L=t at*
 refine⟨by rw[U];exact g.eM,by rw[enc];exact g.Lj,by rw[aw,Dq,U];exact g.va,λk=>?_,by rw[a6,U];exact g.le,by rw[az,U];exact g.rl,λx J=>by rw[U];exact g.tv x (sub x (by rw[I]at J;exact J)),?_,λx J=>?_,λj X=>?_,λp q bY hq=>?_,by rw[O,av,y6,y6,g.dl],λj X=>?_,λp hp=>?_,λp hp hm=>?_,λp hp hm=>?_,
  by rw[bb,I,lt];omega,λi hi x J=>by rw[U];exact g.cv i ((Q i).1 hi) x (by rw[el]at J;exact J),λi hi=>by rw[el];exact g.cn i ((Q i).1 hi),λi hi=>by rw[el];exact g.cl i ((Q i).1 hi),λi hi=>by rw[el,ea];exact g.ca i ((Q i).1 hi),λi=>by rw[ea];exact g.al i,
  λj c hc=>?_,λi hi x J=>?_,λj=>by rw[ew];exact g.w3 j,λc hc=>by rw[Z]at hc;obtain⟨i,e1,e2⟩:=g.o1 c hc;exact⟨i,e1,(Q i).2 e2⟩,λi hi h=>by rw[Z];exact g.o2 i ((Q i).1 hi) (by rw[el]at h;exact h),by rw[Z];exact g.o3,λi hi h=>?_,λj X i hi h=>?_⟩
 .rw [aw,D_];split
  .exact .inl rfl
  .exact g.vb k
 .rw [I,YC];exact(List.take_sublist _ _).nodup g.nd
 .rw [U]at J;rw[a8 x J,I];by_cases h:∃y∈(s.R .tr).drop A,bo y=bo x
  .rw [v8 h];obtain⟨y,Y,e⟩:=h;constructor
   .intro h;omega
   .intro h;exact absurd e (apart x h y Y)
  .rw [r8 h,g.v1 x J];constructor
   .intro hm;rw[<- WN A (s.R .tr),y4]at hm;rcases hm with hm|hm
    .exact hm
    .exact absurd ⟨x,hm,rfl⟩ h
   .exact sub x
 .rw [O,lb]at X;rw[O,I,hZ X,lt];have:=g.bs j L X hL;have:=(g.bl j (by omega)).1;omega
 .rw [O,lb]at hq;rw[O,hZ hq,hZ (by omega)];exact g.bs p q bY (by omega)
 .rw [O,lb]at X;rw[O,av,hZ X,hZ X];exact g.db j (by omega)
 .rw [I,lt]at hp;rw[I,hZ hp,aT,O,g.lv p (by omega)];have h1:s.R .be=(s.R .be).take L++ (s.R .be).drop L:=(WN _ _).symm;have h2:((s.R .be).drop L).countP (λe=>decide (e<=(p:Int)))=0:=X9.2 λq hq=>by
   have:=later q hq;rw[x7];omega
  have h3:(s.R .be).countP (λe=>decide (e<=(p:Int)))=((s.R .be).take L).countP (λe=>decide (e<=(p:Int))):=by
   conv=>lhs;rw[h1]
   rw[Xz,h2,XN]
  rw[h3]
 .rw [I,lt]at hp;rw[I,hZ hp,ar];rw[O]at hm;exact g.Tk p (by omega) (Wh hm)
 .rw [I,lt]at hp;rw[I,hZ hp,ar];rw[O]at hm;have bn:(p:Int) ∉ s.R .be:=λh=>by
   rw[<- WN L (s.R .be),y4]at h;rcases h with h|h
   .exact hm h
   .have:=later _ h;omega
  obtain⟨i,e1,e2,e3,e4⟩:=g.Ru p (by omega) bn;refine⟨i,e1,(Q i).2 e2,by rw[el];exact e3,λx J ag=>?_⟩;rw[el]at J;rw[tt p (by omega)];exact e4 x J ag
 .rw [ew]at hc;obtain⟨i,e1,e2,e3⟩:=g.w1 j c hc;exact⟨i,e1,(Q i).2 e2,by rw[el];exact e3⟩
 .rw [el]at J;rw[ew];exact g.w2 i ((Q i).1 hi) x J
 .intro x J y Y ag hm;rw[Z]at h;rw[el]at J Y;rw[I,bb,tt _ (by omega)]at hm;rw[I];have:=g.wj L hL i ((Q i).1 hi) h x J y Y ag (List.take_subset_take_left _ (by omega) hm);rw[hA]at this;exact this
 .intro x J y Y ag hm;rw[Z]at h;rw[el]at J Y;rw[O,lb]at X;have h1:=g.db j (by omega);have h2:=g.bs j L X hL;have h3:=g.bl j (by omega);rw[av,hZ X,I,tt _ (by omega)]at hm;rw[O,hZ X,I,tt _ (by omega)];exact g.wj j (by omega) i ((Q i).1 hi) h x J y Y ag hm
theorem PM.cut(h:PM w b H s){x:Pt}(O:x.field=true){k:Nat}(J:k<=(s.R x).length){n' c':Nat}(hn:n'=k)(Q:c'=(H x).c){K:World->Prop}
 (I:∀w3,PM w3 b (bI H x ⟨(H x).p,k,(H x).c⟩) (s.set x ((s.R x).take k))->aE (·=b) w w3->K w3):∃w3,bD ((qw b).add x.off) 0 [.slice (H x).p n' c'] w w3/\K w3:=by
 subst hn Q;exact h.head O ((h.row x (tj O)).take J) ⟨h.st,h.c,h.wa,λy U _=>h.row y U⟩ (λk I=> .inl I) (by rw[y6];omega) I
theorem D2(h:PM w b H s){x:Pt}(I:x.row=true):(s.R x).length<=(H x).c:=by
 rcases(h.row x I).un with⟨_,_,J⟩| ⟨_,_,_,_,e,_⟩
 .rw [J];exact xc _
 .exact e
theorem N5(h:PM w b H s)(g:aL s)(bM:Int):cq.w (some ⟨b,0,none⟩) bM w λv w'=>Ending.returned v=.returned (.tuple #[])/\∃H',Pw w w' b H H' (if (max 0 bM).toNat< (s.R .be).length then s.bV (max 0 bM).toNat else s):=by
 have k:=g.wf;obtain⟨L,hL⟩: ∃L:Nat,(max 0 bM).toNat=L:=⟨_,rfl⟩
 have em:imax 0 bM=(L:Int):=by unfold imax;split<;>omega
 rw[hL];refine bq rfl ⟨_,rfl,_,_,_,ae h.st rfl,?_⟩;rw[em,h.len .be rfl];refine ah (λr=>?_) (λr=>?_)
 .have r:(s.R .be).length<=L:=by simp at r;omega
  exact⟨rfl,H,by rw[r8 (by omega)];exact Pw.refl h (aE.refl w)⟩
 have r:L< (s.R .be).length:=by simp at r;omega
 rw[v8 r];have hb:=g.bl L r;have b9:=g.db L r;have cb:=g.dl;have aw:=D2 h (x:=.tr) rfl;have bk:=D2 h (x:=.be) rfl;have bu:=D2 h (x:=.ds) rfl;refine⟨_,rfl,_,_,_,ae h.st rfl,h.AJ (x:=.be) rfl (by omega) rfl (by omega) λa5 _ a'=>⟨_,a',_,rfl,_,_,_,ae h.st rfl,?_⟩⟩;rw[tn];obtain⟨A,hA⟩: ∃A:Nat,((s.R .be).getD L 0).toNat=A:=⟨_,rfl⟩
 have bY:(s.R .be).getD L 0=(A:Int):=by omega
 rw[bY];have dh:A< (s.R .tr).length:=by omega
 rw[h.len .tr rfl];refine gh A (s.R .tr).length (H .tr).c rfl rfl rfl (vy _) aw (by omega) ?_;rw[r8 (by omega)];refine⟨λV u m=>∃v:Nat,V=v/\v<=(s.R .tr).length - A/\m=(s.R .tr).length - A - v/\Pw w u b H H (s.set .va (GB (s.R .va) (((s.R .tr).drop A).take v))),⟨_,0,rfl,xc _,rfl,by
  have:GB (s.R .va) (((s.R .tr).drop A).take 0)=s.R .va:=by simp[GB]
  rw[this,fJ];exact Pw.refl h (aE.refl w)⟩,?_⟩
 rintro V ax m _⟨v,rfl,hv,rfl,Q⟩;have I:=Q.pm;have ag:Vw sT ax ((H .tr).p.map (·.add (A*1))) ((s.R .tr).drop A):=by
  have:=(I.row .tr rfl).vw.part (i:=A) (m:=(s.R .tr).length - A) (by rw[aq (by simp)];omega);rw[aq (by simp),Wi (by simp)]at this;exact this
 refine ah (λU=>?_) (λU=>?_)
 .have U:v< (s.R .tr).length - A:=by simp at U;omega
  refine ag.ix 0 (by omega) (by simp) (by omega) λdd aa=>⟨_,aa,?_⟩
  rw[tn];have hx:((s.R .tr).drop A).getD v 0∈s.R .tr:=YI (bL (by simp;omega));have bb:((s.R .tr).drop A).take (v+1)=((s.R .tr).drop A).take v++ [((s.R .tr).drop A).getD v 0]:=by
   rw[Wo];simp[List.getD,show A+v< (s.R .tr).length by omega]
  generalize ((s.R .tr).drop A).getD v 0=X at*
  have ar:=g.tv X hx;have b8:=ar.bo;refine⟨(·=ax.drew),rfl,_,rfl,_,_,_,fI (ae I.drew.st rfl),(iw (ar.bd g.eM) _).mono ?_⟩;rintro e c1⟨rfl,rfl⟩;refine⟨_,rfl,rfl,I.drew.Lh (x:=.va) rfl (by omega) rfl (by rw[aQ,Dq,g.va];omega) (y:=0) rfl rfl λcr ay bx=>?_⟩;refine⟨_,?_,v+1,wN (by omega) (by have:=g.CQ;have:=g.eM;omega),by omega,rfl,?_⟩
  .omega
  .rw [set_set,aQ]at ay;rw[bb,NQ];exact Q.drew.trans (Pw.row ay (x:=.va) rfl bx)
 .have U:v=(s.R .tr).length - A:=by simp at U;omega
  subst U;rw[Wi (by simp)]at Q I;have Y:=I.drew;have P0:=Q.drew;obtain⟨V,hV⟩: ∃V,V=GB (s.R .va) ((s.R .tr).drop A):=⟨_,rfl⟩
  rw[<- hV]at Q I Y P0;refine⟨_,rfl,_,ae Y.st rfl,_,rfl,_,_,_,ae Y.st rfl,Y.AJ (x:=.ds) rfl (by omega) rfl (by rw[aq (by simp)];omega) λce _ Z=>⟨_,Z,_,rfl,?_⟩⟩;rw[aq (by simp),tn];have ed:mP (mP ((s.set .va V).done:Int) (A:Int)) ((s.R .ds).getD L 0)=((min (min s.done A) ((s.R .ds).getD L 0).toNat:Nat):Int):=by
   show mP (mP (s.done:Int) (A:Int)) _=_;unfold mP;repeat' split
   all_goals omega
  rw[ed];refine Y.IY rfl λbn av a_=>?_;have bg:Pw w bn b H H _:=P0.trans ⟨av,a_.mono λk _ e=>⟨.st,by rw[e];rfl⟩,λx k O=> .inl ⟨x,O⟩⟩;have hU:=av.drew;have PU:=bg.drew;refine⟨_,rfl,_,_,_,ae hU.st rfl,?_⟩;rw[h.len .tr rfl];refine gh 0 A (H .tr).c rfl rfl rfl (vy _) (by omega) (xc _) ?_;refine⟨_,rfl,_,_,_,ae hU.st rfl,?_⟩;refine gh 0 L (H .be).c rfl rfl rfl (vy _) (by omega) (xc _) ?_;refine⟨_,rfl,_,_,_,ae hU.st rfl,?_⟩;refine gh 0 L (H .ds).c rfl rfl rfl (vy _) (by omega) (xc _) ?_;rw[UM,UM,UM];refine⟨_,rfl,hU.cut (x:=.tr) rfl (k:=A) (by show A<=((s.set .va V).R .tr).length;rw[aq (by simp)];omega) (WO _) (WO _) λb_ bf a7=>⟨_,rfl,?_⟩⟩;have c2:=bf.cut (x:=.be) rfl (k:=L) (n':=L - 0) (c':=(H .be).c - 0) (by
   show L<=(((s.set .va V).set .tr _).R .be).length;rw[aq (by simp),aq (by simp)];omega) (WO _) (by rw[aW (by simp)];rfl) (K:=λaz=>∃a:Addr,(some ⟨b,0,none⟩:sn)=some a/\∃J,bD (a.add 8) 0 [.slice (H .ds).p (L - 0) ((H .ds).c - 0)] az J/\(Ending.returned (.tuple #[])=.returned (.tuple #[])/\∃H',Pw w J b H H' (s.bV L))) ?_
  .rw [aW (by simp)]at c2;exact c2
  intro az a8 bi;refine⟨_,rfl,?_⟩;have c3:=a8.cut (x:=.ds) rfl (k:=L) (n':=L - 0) (c':=(H .ds).c - 0) (by
   show L<=((((s.set .va V).set .tr _).set .be _).R .ds).length;rw[aq (by simp),aq (by simp),aq (by simp)];omega) (WO _) (by rw[aW (by simp),aW (by simp)];rfl) (K:=λJ=> (Ending.returned (.tuple #[])=.returned (.tuple #[])/\∃H',Pw w J b H H' (s.bV L))) ?_
  .rw [aW (by simp),aW (by simp)]at c3;exact c3
  intro J b3 a6;refine⟨rfl,bI (bI (bI H .tr ⟨(H .tr).p,A,(H .tr).c⟩) .be ⟨(H .be).p,L,(H .be).c⟩) .ds ⟨(H .ds).p,L,(H .ds).c⟩,⟨?_,((PU.mod.then a7 λk _ e=>⟨.st,by rw[e];rfl⟩).then bi λk _ e=>⟨.st,by rw[e];rfl⟩).then a6 λk _ e=>⟨.st,by rw[e];rfl⟩,λx k O=>?_⟩⟩
  .have e:(s.bV L)=((({s.set .va V with done:=min (min s.done A) ((s.R .ds).getD L 0).toNat}.set .tr ((s.R .tr).take A)).set .be ((s.R .be).take L)).set .ds ((s.R .ds).take L)):=by
    unfold aH.bV;rw[hA,<- hV];rfl
   rw[e];have e1:({s.set .va V with done:=min (min s.done A) ((s.R .ds).getD L 0).toNat}:aH).R .tr=s.R .tr:=aq (s:=s) (x:=.va) (y:=.tr) (l:=V) (by simp);have e2:(({s.set .va V with done:=min (min s.done A) ((s.R .ds).getD L 0).toNat}:aH).set .tr ((s.R .tr).take A)).R .be=s.R .be:=by rw[aq (by simp)];exact aq (s:=s) (x:=.va) (y:=.be) (l:=V) (by simp)
   have e3:((({s.set .va V with done:=min (min s.done A) ((s.R .ds).getD L 0).toNat}:aH).set .tr ((s.R .tr).take A)).set .be ((s.R .be).take L)).R .ds=s.R .ds:=by rw[aq (by simp),aq (by simp)];exact aq (s:=s) (x:=.va) (y:=.ds) (l:=V) (by simp)
   have h9:=b3;simp only[aW (show Pt.be≠Pt.tr by simp),aW (show Pt.ds≠Pt.be by simp),aW (show Pt.ds≠Pt.tr by simp)]at h9;have ni:PM J b (bI (bI (bI H .tr ⟨(H .tr).p,A,(H .tr).c⟩) .be ⟨(H .be).p,L,(H .be).c⟩) .ds ⟨(H .ds).p,L,(H .ds).c⟩)
    (((({s.set .va V with done:=min (min s.done A) ((s.R .ds).getD L 0).toNat}:aH).set .tr ((({s.set .va V with done:=min (min s.done A) ((s.R .ds).getD L 0).toNat}:aH).R .tr).take A)).set .be (((({s.set .va V with done:=min (min s.done A) ((s.R .ds).getD L 0).toNat}:aH).set .tr ((({s.set .va V with done:=min (min s.done A) ((s.R .ds).getD L 0).toNat}:aH).R .tr).take A)).R .be).take L)).set .ds ((((({s.set .va V with done:=min (min s.done A) ((s.R .ds).getD L 0).toNat}:aH).set .tr ((({s.set .va V with done:=min (min s.done A) ((s.R .ds).getD L 0).toNat}:aH).R .tr).take A)).set .be (((({s.set .va V with done:=min (min s.done A) ((s.R .ds).getD L 0).toNat}:aH).set .tr ((({s.set .va V with done:=min (min s.done A) ((s.R .ds).getD L 0).toNat}:aH).R .tr).take A)).R .be).take L)).R .ds).take L)):=h9
   rw[e1,e2,e3]at ni;exact ni
  .by_cases a1:x=.ds
   .subst a1;rw[cy (by simp),bE]at O;exact .inl ⟨.ds,O⟩
   .rw [iW a1]at O;by_cases a2:x=.be
    .subst a2;rw[cy (by simp),bE]at O;exact .inl ⟨.be,O⟩
    .rw [iW a2]at O;by_cases a3:x=.tr
     .subst a3;rw[cy (by simp),bE]at O;exact .inl ⟨.tr,O⟩
     .rw [iW a3]at O;exact .inl ⟨x,O⟩
theorem Qh(h:PM w b H s)(g:aL s)(bM:Int):Calls prog 143 #[cj b,.i bM] w λe w'=>e=.returned (.tuple #[])/\∃H',Pw w w' b H H' (if (max 0 bM).toNat< (s.R .be).length then s.bV (max 0 bM).toNat else s):=
 cq.aj (N5 h g bM)
end
section
variable{w w' w0 w2 w3:World}{b:Nat}{H H' H2:Pt->Sl}{s t u s' T:aH}{l x y:Int}{i:Nat}
def aH.del(s:aH)(i:Nat):aH:= {(s.set (.a i) []).set (.l i) []with gone:=λk=>if k=i then true else s.gone k}
def aH.drop(s:aH)(i:Nat):aH:=((pq i s ((s.R (.l i)).take 2)).set .lo ((s.R .lo).filter λk=> !(k==(i:Int)))).del i
theorem qU(i:Nat)(y:Pt)(h1:∀j,y≠ .w j)(J:y≠ .lo)(O:y≠ .a i)(I:y≠ .l i):(s.drop i).R y=s.R y:=by
 show ((((pq i s ((s.R (.l i)).take 2)).set .lo _).set (.a i) []).set (.l i) []).R y=_;rw[aq I,aq O,aq J,jE _ h1]
theorem gF{k:Nat}:(s.drop i).aN k↔s.aN k/\k≠i:=by
 show (k< (pq i s _).nc/\(if k=i then true else (pq i s _).gone k)=false)↔_;obtain⟨_,J,I,_⟩:=jb i ((s.R (.l i)).take 2) s;rw[J,I];unfold aH.aN;by_cases e:k=i
 .simp [e]
 .simp [e]
theorem tA(g:aL s)(hi:s.aN i)(hr:∀x∈s.R (.l i),¬(0<s.val x/\s.nD x=(i:Int))):aL (s.drop i):=by
 obtain⟨u1,u2,u3,u4⟩:=jb i ((s.R (.l i)).take 2) s;have eR:∀y,(∀j,y≠Pt.w j)->y≠ .lo->(∀k,y≠ .a k)->(∀k,y≠ .l k)->(s.drop i).R y=s.R y:=λy h1 I h3 h4=>qU i y h1 I (h3 i) (h4 i);have el:∀k,k≠i->(s.drop i).R (.l k)=s.R (.l k):=λk Y=>qU i _ (by simp) (by simp) (by simp) (by simpa using Y);have ea:∀k,k≠i->(s.drop i).R (.a k)=s.R (.a k):=λk Y=>qU i _ (by simp) (by simp) (by simpa using Y) (by simp);have bi:(s.drop i).R (.a i)= []:=by unfold aH.drop aH.del;simp[aH.set,bI]
 have aa:(s.drop i).R .lo=(s.R .lo).filter λk=> !(k==(i:Int)):=by unfold aH.drop aH.del;simp[aH.set,bI]
 have bb:∀j,(s.drop i).R (.w j)=(pq i s ((s.R (.l i)).take 2)).R (.w j):=λj=>by unfold aH.drop aH.del;simp[aH.set,bI]
 have ew:∀j c,c∈(s.drop i).R (.w j)↔c∈s.R (.w j)/\c≠(i:Int):=λj c=>by
  rw[bb,yM];constructor
  .rintro ⟨h1,I|I⟩
   .exact ⟨h1,I⟩
   .refine ⟨h1,λe=>?_⟩;subst e;obtain⟨q,e1,e2,x,U,e3⟩:=g.w1 _ _ h1;have:q=i:=by omega
    subst this;exact I x U e3
  .rintro ⟨h1,I⟩;exact⟨h1,.inl I⟩
 have bk:∀j,((s.drop i).R (.w j)).Nodup:=λj=>by
  rw[bb];exact wS i j _ _ (g.w3 j)
 have Z:(s.drop i).vars=s.vars:=u1;have enc:(s.drop i).nc=s.nc:=u2;have bg:(s.drop i).done=s.done:=u4;have O:∀k,(s.drop i).aN k↔s.aN k/\k≠i:=λk=>gF;generalize s.drop i=t at*
 have J:=eR .tr (by simp) (by simp) (by simp) (by simp);have X:=eR .be (by simp) (by simp) (by simp) (by simp);have ay:=eR .ds (by simp) (by simp) (by simp) (by simp);have az:=eR .va (by simp) (by simp) (by simp) (by simp);have bf:=eR .le (by simp) (by simp) (by simp) (by simp);have a8:=eR .re (by simp) (by simp) (by simp) (by simp);have ev:∀x,t.val x=s.val x:=λx=>kx az x;have a_:∀x,t.bM x=s.bM x:=λx=>by unfold aH.bM;rw[bf]
 have av:∀x,t.nD x=s.nD x:=λx=>by unfold aH.nD;rw[a8]
 refine⟨by rw[Z];exact g.eM,by rw[enc];exact g.Lj,by rw[az,Z];exact g.va,by rw[az];exact g.vb,by rw[bf,Z];exact g.le,by rw[a8,Z];exact g.rl,by rw[J,Z];exact g.tv,by rw[J];exact g.nd,λx U=>by rw[ev,J];exact g.v1 x (by rw[Z]at U;exact U),
  by rw[X,J];exact g.bl,by rw[X];exact g.bs,by rw[ay,X];exact g.dl,by rw[X,ay];exact g.db,λp hp=>by rw[J]at hp ⊢;rw[a_,X];exact g.lv p hp,λp hp hm=>by rw[J]at hp ⊢;rw[av];rw[X]at hm;exact g.Tk p hp hm,
  λp hp hm=>?_,by rw[bg,J];exact g.dn,λk Y x U=>?_,λk Y=>?_,λk Y=>?_,λk Y x=>?_,λk=>?_,λj c hc=>?_,λk Y x U=>?_,bk,λc hc=>?_,λk Y h=>?_,by rw[aa];exact g.o3.filter _,λk Y h=>?_,λj hj k Y h=>?_⟩
 .rw [J]at hp ⊢;rw[X]at hm;obtain⟨k,e1,e2,e3,e4⟩:=g.Ru p hp hm;have Q:k≠i:=λe=>by
   subst e;refine hr _ e3 ⟨(g.Vx (g.cv k hi _ e3)).2 (bL hp),e1⟩
  exact⟨k,by rw[av];exact e1,(O k).2 ⟨e2,Q⟩,by rw[el k Q];exact e3,λx U hn=>e4 x (by rw[el k Q]at U;exact U) hn⟩
 .obtain ⟨h1,I⟩:=(O k).1 Y;rw[Z];exact g.cv k h1 x (by rw[el k I]at U;exact U)
 .obtain ⟨h1,I⟩:=(O k).1 Y;rw[el k I];exact g.cn k h1
 .obtain ⟨h1,I⟩:=(O k).1 Y;rw[el k I];exact g.cl k h1
 .obtain ⟨h1,I⟩:=(O k).1 Y;rw[el k I,ea k I];exact g.ca k h1 x
 .by_cases e:k=i
  .rw [e,bi];simp
  .rw [ea k e];exact g.al k
 .obtain ⟨h1,I⟩:=(ew j c).1 hc;obtain⟨k,e1,e2,e3⟩:=g.w1 j c h1;have Q:k≠i:=λe=>I (by rw[e1,e]);exact⟨k,e1,(O k).2 ⟨e2,Q⟩,by rw[el k Q];exact e3⟩
 .obtain ⟨h1,I⟩:=(O k).1 Y;rw[el k I]at U;exact(ew _ _).2 ⟨g.w2 k h1 x U,λe=>I (by omega)⟩
 .rw [aa,WC]at hc;obtain⟨k,e1,e2⟩:=g.o1 c hc.1;refine⟨k,e1,(O k).2 ⟨e2,λe=>?_⟩⟩;have I:=hc.2;rw[e1,e]at I;simp at I
 .obtain ⟨h1,I⟩:=(O k).1 Y;rw[el k I]at h;rw[aa,WC];refine⟨g.o2 k h1 h,?_⟩;simp;omega
 .obtain ⟨h1,I⟩:=(O k).1 Y;intro x U y hy Q hm;rw[el k I]at U hy;rw[J,bg]at hm;rw[J];refine g.wd k h1 (λaw=>h ?_) x U y hy Q hm;rw[aa,WC];refine⟨aw,?_⟩;simp;omega
 .obtain ⟨h1,I⟩:=(O k).1 Y;intro x U y hy Q hm;rw[el k I]at U hy;rw[X]at hj;rw[J,ay]at hm;rw[J,X];refine g.wj j hj k h1 (λaw=>h ?_) x U y hy Q hm;rw[aa,WC];refine⟨aw,?_⟩;simp;omega
theorem PM.VD(h:PM w b H s){i:Nat}(hi:i<s.nc){n:Nat}(hn:n=(H .c).n){I:Int}(hI:I=i){K:World->Prop}
 (U:∀w',PM w' b (bI (bI H (.a i) Sl.nil) (.l i) Sl.nil) (s.del i)->aE (λk=>aF (H .c).p=some k) w w'->K w'):
 aV (H .c).p n I 3 λa=>∃w',bD a 0 [.slice none 0 0,.slice none 0 0,.bool true] w w'/\K w':=by
 subst hI;refine h.c.st Nv (x:=(Sl.nil,Sl.nil,true)) rfl rfl (by omega) (by rw[hn,h.cn,vH]) (by rw[hn,h.cn];omega) λw' o m=>U w' ?_ m;rw[tn]at o;have Y:∀ {y:Pt} {k:Nat},y≠ .c->own b H y=some k->¬aF (H .c).p=some k:=λO U=>h.j8 (x:=.c) (by simp) O U;have J:∀k,¬aF Sl.nil.p=some k:=λk e=>by simp[aF,Sl.nil]at e
 have i1:=qz h.inj (x:=.a i) (by simp) (q:=Sl.nil) λk e=>absurd e (J k);have i2:=qz i1 (x:=.l i) (by simp) (q:=Sl.nil) λk e=>absurd e (J k);have Z:∀y,y≠ .a i->y≠ .l i->bI (bI H (.a i) Sl.nil) (.l i) Sl.nil y=H y:=λy h1 h2=>by rw[aW h2,aW h1]
 refine⟨?_,?_,?_,?_,?_,λy O=>?_,λy O=>?_,i2⟩
 .have e:Eg (s.del i) (bI (bI H (.a i) Sl.nil) (.l i) Sl.nil)=Eg s H:=by simp[Eg,aH.del,aH.set,bI]
  rw[e];exact h.st.keep m (Y (y:=.st) (by simp) rfl)
 .rw [Z .c (by simp) (by simp)];have e:FB (bI (bI H (.a i) Sl.nil) (.l i) Sl.nil) (s.del i).gone (s.del i).nc=(FB H s.gone s.nc).set i (Sl.nil,Sl.nil,true):=by
   apply Xr;intro j;simp only[FB,aH.del,aH.set,WW,Xe,We,Xt];by_cases e:i=j
   .subst e;simp[hi,Hf,bI]
   .rw [r8 e];by_cases hj:j<s.nc
    .simp [hj,Hf,bI,WL e]
    .simp [hj]
  rw[e];exact o
 .rw [Z .c (by simp) (by simp)];exact h.cn
 .rw [Z .wa (by simp) (by simp)];have e:jM (bI (bI H (.a i) Sl.nil) (.l i) Sl.nil) (2* ((s.del i).vars+1))=jM H (2* (s.vars+1)):=by
   rw[l6 (by simp),l6 (by simp)];rfl
  rw[e];exact h.wa.keep m λk U=>Y (y:=.wa) (by simp) U
 .rw [Z .wa (by simp) (by simp)];exact h.wn
 .by_cases X:y=.l i
  .subst X;show Ow _ _ w' _ _ (((s.set (.a i) []).set (.l i) []).R (.l i));rw[bE,aQ];exact Ow.nil _ _ _
  .by_cases Q:y=.a i
   .subst Q;show Ow _ _ w' _ _ (((s.set (.a i) []).set (.l i) []).R (.a i));rw[aW (by simp),bE,aq (by simp),aQ];exact Ow.nil _ _ _
   .show Ow _ _ w' _ _ (((s.set (.a i) []).set (.l i) []).R y);rw[Z y Q X,aq X,aq Q];exact(h.row y O).keep m λk U=>Y (dX O).2.1 (by rw[cy (dX O).1];exact U)
 .by_cases X:y=.l i
  .subst X;show _=(((s.set (.a i) []).set (.l i) []).R (.l i)).length;rw[bE,aQ];rfl
  .by_cases Q:y=.a i
   .subst Q;show _=(((s.set (.a i) []).set (.l i) []).R (.a i)).length;rw[aW (by simp),bE,aq (by simp),aQ];rfl
   .show _=(((s.set (.a i) []).set (.l i) []).R y).length;rw[Z y Q X,aq X,aq Q];exact h.len y O
theorem aH.Ef{i:Int}:s.is i=true↔0<=i/\s.aN i.toNat:=by
 unfold aH.is aH.aN;simp only[ts,x7,WU];constructor
 .rintro ⟨⟨h1,J⟩,I⟩;exact⟨h1,by omega,I⟩
 .rintro ⟨h1,J,I⟩;exact⟨⟨h1,by omega⟩,I⟩
def VM(s:aH)(i:Nat):Prop:=∃x∈s.R (.l i),0<s.val x/\s.nD x=(i:Int)
theorem DP(h:PM w b H s)(g:aL s)(i:Int):Calls prog 131 #[cj b,.i i] w λe w'=>∃r:Int,e=.returned (.i r)/\∃H',
 ((r=4/\s.is i=false/\Pw w w' b H H' s)\/(r=7/\s.is i=true/\VM s i.toNat/\Pw w w' b H H' s)\/(r=0/\s.is i=true/\¬VM s i.toNat/\Pw w w' b H H' (s.drop i.toNat))):=by
 refine gN.aj ?_;intro n1 w1 h1;have hA:=h.grow h1.mod;have e1:=h1.num;have U:∀x,¬own b H x=some n1:=λx e=>by have:=h.lt x n1 e;omega
 refine⟨_,aP h1.has rfl,(Fa hA i).mono ?_⟩;rintro e w4⟨rfl,rfl⟩;refine⟨_,rfl,?_⟩;cases hi:s.is i with
 |false=>exact bJ rfl ⟨_,rfl,H,.inl ⟨rfl,rfl,Pw.refl hA h1.mod⟩⟩
 |true=>
  obtain⟨i0,I⟩:=aH.Ef.1 hi;obtain⟨j,rfl⟩: ∃j:Nat,i=j:=⟨i.toNat,by omega⟩
  rw[tn]at I ⊢;have hD:=hA.drew;have dd:=g.cl j I;have k:=g.wf;refine bq rfl ⟨_,rfl,_,_,_,ae hD.st rfl,_,aP h1.has.drew rfl,hD.O_ I.1 rfl rfl λa9 b'=>⟨_,_,_,b'.get 1 _ rfl,?_⟩⟩;have b7:=h.len (.l j) rfl;rw[b7];refine⟨λV u m=>∃v:Nat,V=v/\v<=(s.R (.l j)).length/\m=(s.R (.l j)).length - v/\ak w4 u/\∀q,q<v->¬(0<s.val ((s.R (.l j)).getD q 0)/\s.nD ((s.R (.l j)).getD q 0)=(j:Int)),⟨_,0,rfl,xc _,rfl,(aE.refl _).drew,λq hq=>by omega⟩,?_⟩;rintro V b8 m _⟨v,rfl,hv,rfl,Q,ag⟩;have ax:=hA.grow Q;have J:=h1.has.grow Q;refine ah (λr2=>?_) (λr2=>?_)
  .have r2:v< (s.R (.l j)).length:=by simpa using r2
   have a_:=bL r2;refine ax.PH (x:=.l j) rfl (by omega) (by omega) (by omega) λdh _ a'=>⟨_,a',?_⟩
   rw[tn];have step:∀ {u:World},ak w4 u->¬(0<s.val ((s.R (.l j)).getD v 0)/\s.nD ((s.R (.l j)).getD v 0)=(j:Int))->∃a7,a7< (s.R (.l j)).length - v/\∃v':Nat,IntKind.i64.wrap ((v:Int)+1)=v'/\v'<=(s.R (.l j)).length/\a7=(s.R (.l j)).length - v'/\ak w4 u/\∀q,q<v'->¬(0<s.val ((s.R (.l j)).getD q 0)/\s.nD ((s.R (.l j)).getD q 0)=(j:Int)):=by
    intro u gu aw;refine⟨_,?_,v+1,wN,by omega,rfl,gu,λq hq=>?_⟩
    .omega
    .by_cases e:q=v
     .rw [e];exact aw
     .exact ag q (by omega)
   generalize (s.R (.l j)).getD v 0=X at*
   have ay:=g.cv j I X a_;have co:=ay.bo;have hD:=ax.drew;refine⟨(·=b8.drew),rfl,(pQ hD k ay).mono ?_⟩;rintro e c1⟨rfl,rfl⟩;refine⟨_,rfl,rfl,ah (λr3=>?_) (λr3=>step Q.drew λhh=>?_)⟩
   .have r3:0<s.val X:=by simpa using r3
    refine⟨_,rfl,_,_,_,fI (ae hD.st rfl),(iw (ay.bd g.eM) _).mono ?_⟩;rintro e c3⟨rfl,rfl⟩;refine⟨_,rfl,rfl,hD.AJ (x:=.re) rfl (by omega) rfl (by rw[g.rl];omega) λa25 _ bi=>⟨_,fI bi,_,fI (aP J.drew rfl),ah (λr4=>?_) (λr4=>step Q.drew λhh=>?_)⟩⟩
    .have r4:s.nD X=(j:Int):=beq_iff_eq.1 r4;exact⟨_,rfl,H,.inr (.inl ⟨rfl,rfl,⟨X,a_,r3,r4⟩,Pw.refl hD (h1.mod.trans Q.drew)⟩)⟩
    .have r4: ¬s.nD X=(j:Int):=λe=>by
      have e2:Pt.re.f ((s.R .re).getD (bo X).toNat 0)=.i (j:Int):=congrArg _ e;have e3:(s.R .re).getD (bo X).toNat 0=(j:Int):=e;rw[e3]at r4;simp at r4
     exact r4 hh.2
   .have r3: ¬0<s.val X:=by simpa using r3
    exact r3 hh.1
  .have r2:v=(s.R (.l j)).length:=by simp at r2;omega
   subst r2;have aw:∀x∈s.R (.l j),¬(0<s.val x/\s.nD x=(j:Int)):=λx hx=>by
    obtain⟨q,hq,e⟩:=Bs.1 hx;have:=ag q hq;simp only[List.getD,V9 hq,Wn,e]at this;exact this
   refine⟨_,aP J rfl,(Ax ax g.eM I.1 (g.cv j I) (by omega) λq=>by have:=g.wl q;omega).mono ?_⟩;rintro e cT⟨rfl,H2,av,kh⟩;have O:=av.pm;have bk:=J.keep av.mod λ⟨x,e⟩=>U x e;have a8:H2 .lo=H .lo:=kh _ (by simp);have Z:(pq j s ((s.R (.l j)).take 2)).R .lo=s.R .lo:=jE _ (by simp) _ _;have b_: ¬aF (H2 .lo).p=some n1:=λe=>by rw[a8]at e;exact U .lo e
   have cg:=g.Vt;refine⟨rfl,_,rfl,_,_,_,ae O.st rfl,(xp (O.row .lo rfl) (O.len .lo rfl) (by rw[O.len .lo rfl,Z];omega) KO (λx=>x==(j:Int)) λx _ w' m=>?_).mono ?_⟩
   .rw [w_];exact Uz (bk.keep m b_) x
   rintro e c2⟨rfl,a6,aT⟩;rw[Z]at a6 ⊢;refine⟨_,_,_,rfl,_,rfl,O.head (x:=.lo) rfl a6 (O.Kd rfl aT) (λk Y=> .inl Y) rfl λb9 bf ce=>?_⟩;have bg:=av.trans (Pw.head (x:=.lo) (z:=.st) (by simp) bf aT (ce.mono λk _ e=>by rw[e];rfl) λk Y=> .inl Y);have bb:bO b9 n1 #[.i (j:Int)]:=J.keep bg.mod λ⟨x,e⟩=>U x e;have hE:=bf.drew;refine⟨_,rfl,_,_,_,ae hE.st rfl,_,aP bb.drew rfl,?_⟩;have b5:(pq j s ((s.R (.l j)).take 2)).nc=s.nc:=(jb j _ _).2.1;refine hE.VD (i:=j) (by show j< (pq j s ((s.R (.l j)).take 2)).nc;rw[b5];exact I.1) rfl rfl λc0 b4 bY=>?_;refine⟨_,rfl,bI (bI (bI H2 .lo ⟨(H2 .lo).p,((s.R .lo).filter λx=> !(x==(j:Int))).length,(H2 .lo).c⟩) (.a j) Sl.nil) (.l j) Sl.nil,.inr (.inr ⟨rfl,rfl,λ⟨x,hx,h⟩=>aw x hx h,?_⟩)⟩;refine((bg.drew).trans ⟨b4,bY.mono λk _ e=>⟨.c,e⟩,λx k Y=> .inl ⟨x,?_⟩⟩).df (h1.mod.trans Q);by_cases a1:x=.l j
   .subst a1;rw[cy (by simp),bE]at Y;simp[aF,Sl.nil]at Y
   .rw [iW a1]at Y;by_cases a2:x=.a j
    .subst a2;rw[cy (by simp),bE]at Y;simp[aF,Sl.nil]at Y
    .rw [iW a2]at Y;exact Y
end
section
variable{w w' w0 w1 w2 w3:World}{b:Nat}{H H' H2:Pt->Sl}{s t u s' T:aH}{l x y:Int}{i:Nat}
def aH.pw(s:aH)(c m:List Int):aH:= {(s.set (.a s.nc) c).set (.l s.nc) m with nc:=s.nc+1,gone:=λk=>if k=s.nc then false else s.gone k}
structure lM(s:aH)(c:List Int)(s':aH):Prop where
 v:s'.vars=s.vars
 n:s'.nc=s.nc+1
 g:∀i,s'.gone i=if i=s.nc then false else s.gone i
 a:∀i,s'.R (.a i)=if i=s.nc then c else s.R (.a i)
 tr:s'.R .tr=s.R .tr
 be:s'.R .be=s.R .be
theorem km{c m:List Int}{y:Pt}(h1:y≠ .a s.nc)(I:y≠ .l s.nc):(s.pw c m).R y=s.R y:=by
 show ((s.set (.a s.nc) c).set (.l s.nc) m).R y=_;rw[aq I,aq h1]
theorem zZ{c m:List Int}:(s.pw c m).R (.l s.nc)=m:=by
 show ((s.set (.a s.nc) c).set (.l s.nc) m).R _=_;rw[aQ]
theorem GH{c m:List Int}:(s.pw c m).R (.a s.nc)=c:=by
 show ((s.set (.a s.nc) c).set (.l s.nc) m).R (.a s.nc)=_;rw[aq (by simp),aQ]
theorem O8(g:aL s)(hn:s.nc<262144){c m l':List Int}(hv:∀x∈m,dZ s.vars x)(hd:m.Nodup)(hl:m.length<=4096)(hm:∀x,x∈m↔x∈c)(hc:c.length<=4096)(pm:l'.Perm m)(hb:BR s.rk 2 l'):
 aL (mD (s.pw c m) s.nc l')/\lM s c (mD (s.pw c m) s.nc l'):=by
 obtain⟨u,hu⟩: ∃u,u=wF (s.nc:Int) ((s.pw c m).set (.l s.nc) l') (l'.take 2):=⟨_,rfl⟩
 obtain⟨d1,d2,d3,d4⟩:=ry (s.nc:Int) (l'.take 2) ((s.pw c m).set (.l s.nc) l');rw[<- hu]at d1 d2 d3 d4;have b7:(s.pw c m).R .va=s.R .va:=km (by simp) (by simp);have b': ∀x,(s.pw c m).val x=s.val x:=λx=>kx b7 x;obtain⟨t,ht⟩: ∃t,t=mD (s.pw c m) s.nc l':=⟨_,rfl⟩
 have bi:(s.pw c m).R .lo=s.R .lo:=km (by simp) (by simp);have tt:t=if l'.length<2\/s.val (l'.getD 1 0)<0 then u.set .lo (s.R .lo++ [(s.nc:Int)]) else u:=by
  rw[ht,hu];unfold mD;simp only[bi,b']
 have uR:∀y,(∀j,y≠Pt.w j)->y≠ .a s.nc->y≠ .l s.nc->u.R y=s.R y:=λy h1 J h3=>by rw[hu,sK _ h1,aq h3,km J h3]
 have tR:∀y,y≠ .lo->t.R y=u.R y:=λy hy=>by
  rw[tt];split
  .exact aq hy
  .rfl
 have eR:∀y,(∀j,y≠Pt.w j)->y≠ .lo->y≠ .a s.nc->y≠ .l s.nc->t.R y=s.R y:=λy h1 J h3 h4=> (tR y J).trans (uR y h1 h3 h4);have el:∀k,t.R (.l k)=if k=s.nc then l' else s.R (.l k):=λk=>by
  rw[tR _ (by simp)];by_cases e:k=s.nc
  .rw [v8 e,e,hu,sK _ (by simp),aQ]
  .rw [r8 e];exact uR _ (by simp) (by simp) (by simpa using e)
 have ea:∀k,t.R (.a k)=if k=s.nc then c else s.R (.a k):=λk=>by
  rw[tR _ (by simp)];by_cases e:k=s.nc
  .rw [v8 e,e,hu,sK _ (by simp),aq (by simp),GH]
  .rw [r8 e];exact uR _ (by simp) (by simpa using e) (by simp)
 have ew:∀j q,q∈t.R (.w j)↔q∈s.R (.w j)\/(q=(s.nc:Int)/\∃x∈l'.take 2,aA x=j):=λj q=>by
  rw[tR _ (by simp),hu,Iq,aq (by simp),km (by simp) (by simp)]
 have ln:∀j q,q∈s.R (.w j)->q≠(s.nc:Int):=λj q hq e=>by
  obtain⟨k,e1,⟨e2,_⟩,_⟩:=g.w1 j q hq;omega
 have b_:∀j,(t.R (.w j)).Nodup:=λj=>by
  rw[tR _ (by simp),hu];refine wc _ j _ _ (xM (pm.nodup_iff.2 hd)) (by rw[aq (by simp),km (by simp) (by simp)];exact g.w3 j) λ_=>?_;rw[aq (by simp),km (by simp) (by simp)];exactλh=>ln j _ h rfl
 have a7:u.R .lo=s.R .lo:=uR _ (by simp) (by simp) (by simp);have b5:∀q∈s.R .lo,q≠(s.nc:Int):=λq hq e=>by
  obtain⟨k,e1,⟨e2,_⟩⟩:=g.o1 q hq;omega
 have aa:∀q,q∈t.R .lo↔q∈s.R .lo\/(q=(s.nc:Int)/\(l'.length<2\/s.val (l'.getD 1 0)<0)):=λq=>by
  rw[tt];split
  .rename_i h;rw[aQ,y4,xv];exact⟨λJ=>J.imp id λe=>⟨e,h⟩,λJ=>J.imp id λe=>e.1⟩
  .rename_i h;rw[a7];exact⟨λJ=> .inl J,λJ=>J.elim id λe=>absurd e.2 h⟩
 have bn:(t.R .lo).Nodup:=by
  rw[tt];split
  .rw [aQ];exact uj g.o3 λh=>b5 _ h rfl
  .rw [a7];exact g.o3
 have tv:t.vars=s.vars/\t.nc=s.nc+1/\t.gone=(λk=>if k=s.nc then false else s.gone k)/\t.done=s.done:=by
  rw[tt];split
  .exact ⟨d1,d2,d3,d4⟩
  .exact ⟨d1,d2,d3,d4⟩
 rw[<- ht];clear ht tt tR uR a7 hu d1 d2 d3 d4;obtain⟨X,enc,b3,b6⟩:=tv;have O:∀k,t.aN k↔s.aN k\/k=s.nc:=λk=>by
  show (k<t.nc/\t.gone k=false)↔_;rw[enc,b3];unfold aH.aN;by_cases e:k=s.nc
  .simp [e]
  .simp only[r8 e];constructor
   .rintro ⟨h1,J⟩;exact .inl ⟨by omega,J⟩
   .rintro (⟨h1,J⟩|h)
    .exact ⟨by omega,J⟩
    .exact absurd h e
 have ne:∀k,s.aN k->k≠s.nc:=λk Y e=>by have:=Y.1;omega
 have Q:=eR .tr (by simp) (by simp) (by simp) (by simp);have U:=eR .be (by simp) (by simp) (by simp) (by simp);have a8:=eR .ds (by simp) (by simp) (by simp) (by simp);have a':=eR .va (by simp) (by simp) (by simp) (by simp);have bx:=eR .le (by simp) (by simp) (by simp) (by simp);have bk:=eR .re (by simp) (by simp) (by simp) (by simp);have ev:∀x,t.val x=s.val x:=λx=>kx a' x;have bu:∀x,t.bM x=s.bM x:=λx=>by unfold aH.bM;rw[bx]
 have aT:∀x,t.nD x=s.nD x:=λx=>by unfold aH.nD;rw[bk]
 have a_:∀x∈l',dZ s.vars x:=λx I=>hv x (pm.mem_iff.1 I);have free: ¬(l'.length<2\/s.val (l'.getD 1 0)<0)->∀x∈l'.take 2,-x ∉ s.R .tr:=λh x I e=>by
  have h1:2<=l'.length:=by omega
  have J:0<=s.val (l'.getD 1 0):=by omega
  have b4:=Wh I;have a6:=(g.OL (a_ x b4)).2 e;rcases jB.1 I with⟨_,e3⟩| ⟨_,e3⟩
  .have:=hb 0 (by omega) 1 (by omega) (by omega);have hl:=g.Ul (a_ x b4) a6;rw[e3]at a6 hl;unfold aH.rk at this;rw[v8 (show s.val (l'.getD 1 0)>=0 from J),r8 (show ¬s.val (l'.getD 0 0)>=0 by omega)]at this;omega
  .rw [e3]at a6;omega
 refine⟨⟨by rw[X];exact g.eM,by omega,by rw[a',X];exact g.va,by rw[a'];exact g.vb,by rw[bx,X];exact g.le,by rw[bk,X];exact g.rl,by rw[Q,X];exact g.tv,by rw[Q];exact g.nd,λx I=>by rw[ev,Q];exact g.v1 x (by rw[X]at I;exact I),
  by rw[U,Q];exact g.bl,by rw[U];exact g.bs,by rw[a8,U];exact g.dl,by rw[U,a8];exact g.db,λp hp=>by rw[Q]at hp ⊢;rw[bu,U];exact g.lv p hp,λp hp hm=>by rw[Q]at hp ⊢;rw[aT];rw[U]at hm;exact g.Tk p hp hm,
  λp hp hm=>?_,by rw[b6,Q];exact g.dn,λk Y x I=>?_,λk Y=>?_,λk Y=>?_,λk Y x=>?_,λk=>?_,λj q hq=>?_,λk Y x I=>?_,b_,λq hq=>?_,λk Y h=>?_,bn,λk Y h=>?_,λj hj k Y h=>?_⟩,
  ⟨X,enc,λk=>by rw[b3],ea,Q,U⟩⟩
 .rw [Q]at hp ⊢;rw[U]at hm;obtain⟨k,e1,e2,e3,e4⟩:=g.Ru p hp hm;have ag:=ne k e2;exact⟨k,by rw[aT];exact e1,(O k).2 (.inl e2),by rw[el,r8 ag];exact e3,λx I hn=>e4 x (by rw[el,r8 ag]at I;exact I) hn⟩
 .rw [X];rw[el]at I;rcases(O k).1 Y with h|h
  .rw [r8 (ne k h)]at I;exact g.cv k h x I
  .rw [v8 h]at I;exact a_ x I
 .rw [el];rcases(O k).1 Y with h|h
  .rw [r8 (ne k h)];exact g.cn k h
  .rw [v8 h];exact pm.nodup_iff.2 hd
 .rw [el];rcases(O k).1 Y with h|h
  .rw [r8 (ne k h)];exact g.cl k h
  .rw [v8 h,pm.length_eq];exact hl
 .rw [el,ea];rcases(O k).1 Y with h|h
  .rw [r8 (ne k h),r8 (ne k h)];exact g.ca k h x
  .rw [v8 h,v8 h,pm.mem_iff];exact hm x
 .rw [ea];split
  .exact hc
  .exact g.al k
 .rcases (ew j q).1 hq with h| ⟨e1,x,I,e3⟩
  .obtain ⟨k,e1,e2,x,I,e3⟩:=g.w1 j q h;exact⟨k,e1,(O k).2 (.inl e2),x,by rw[el,r8 (ne k e2)];exact I,e3⟩
  .exact ⟨s.nc,e1,(O _).2 (.inr rfl),x,by rw[el,v8 rfl];exact I,e3⟩
 .rw [el]at I;rw[ew];rcases(O k).1 Y with h|h
  .rw [r8 (ne k h)]at I;exact .inl (g.w2 k h x I)
  .rw [v8 h]at I;exact .inr ⟨by rw[h],x,I,rfl⟩
 .rcases (aa q).1 hq with h| ⟨e1,_⟩
  .obtain ⟨k,e1,e2⟩:=g.o1 q h;exact⟨k,e1,(O k).2 (.inl e2)⟩
  .exact ⟨s.nc,e1,(O _).2 (.inr rfl)⟩
 .rw [el]at h;rw[aa];rcases(O k).1 Y with J|J
  .rw [r8 (ne k J)]at h;exact .inl (g.o2 k J h)
  .rw [v8 J]at h;exact .inr ⟨by rw[J],.inl h⟩
 .intro x I y hy ag Z;rw[Q,b6]at Z;rw[Q];rw[el]at I hy;rcases(O k).1 Y with J|J
  .rw [r8 (ne k J)]at I hy;exact g.wd k J (λh3=>h ((aa _).2 (.inl h3))) x I y hy ag Z
  .rw [v8 J]at I;exact absurd (Wh Z) (free (λh3=>h ((aa _).2 (.inr ⟨by rw[J],h3⟩))) x I)
 .intro x I y hy ag Z;rw[U]at hj;rw[Q,a8]at Z;rw[Q,U];rw[el]at I hy;rcases(O k).1 Y with J|J
  .rw [r8 (ne k J)]at I hy;exact g.wj j hj k J (λh3=>h ((aa _).2 (.inl h3))) x I y hy ag Z
  .rw [v8 J]at I;exact absurd (Wh Z) (free (λh3=>h ((aa _).2 (.inr ⟨by rw[J],h3⟩))) x I)
theorem Kt:rM prog iU kW 3 56=true:=by kernel_rfl
theorem PM.pw(h:PM w0 b H s)(g1:ak w0 w1){A L:Sl}{c m:List Int}(oA:d_ aB w1 A.p A.c c)(oL:d_ aB w1 L.p L.c m)(nA:A.n=c.length)(nL:L.n=m.length)
 (fA:∀k,aF A.p=some k->w0.heap.size<=k) (fL:∀k,aF L.p=some k->w0.heap.size<=k) (a7:∀k,aF A.p=some k->aF L.p≠some k) {n27:Nat} (hb:bO w1 n27 #[A.v,L.v,.bool false]) (hn:s.nc<=262144) {K:World->Prop}
 (I:∀w3 H',Pw w0 w3 b H H' (s.pw c m)->K w3):
 ∃w2,∃ (J:sn) (n' c':Nat),(Builtin.append_ #[iU,iU] iU #[.slice (H .c).p (H .c).n (H .c).c,.slice (some (qw n27)) 1 1]).run prog w1=.ok (.slice J n' c') w2/\
  aE (λk=>aF (H .c).p=some k) w1 w2/\∃w3,bD ((qw b).add 1) 0 [.slice J n' c'] w2 w3/\K w3:=by
 have h1:=h.grow g1;have vr:Vr 3 TS w1 (some ⟨n27,0,none⟩) [((A,L,false):Ce)]:=by
  intro j Y;have Y:j=0:=by simpa using Y
  subst Y;refine⟨_,rfl,?_⟩;rw[Zy,cA];exact⟨ae hb rfl,ae hb rfl,ae hb rfl,trivial⟩
 refine h1.c.nu Nv Kt vr (by rw[h.cn,vH]) rfl (by rw[vH];simp;omega) λw2 J c' o2 m2 aw bn=>?_;have M2:aE (λk=>aF (H .c).p=some k) w0 w2:=(g1.mono λ_ _ e=>e.elim).trans m2;refine⟨m2,?_⟩;have z1:=g1.size;have U:∀ {y:Pt} {k:Nat},y≠ .c->own b H y=some k->¬aF (H .c).p=some k:=λQ I=>h.j8 (x:=.c) (by simp) Q I;have f2:∀k,aF J=some k->aF (H .c).p=some k\/w1.heap.size<=k:=λk I=>by
  rcases aw with rfl|rfl
  .exact .inl I
  .have:=aO I;exact .inr (by omega)
 have ag:∀ {k:Nat},w0.heap.size<=k->k≠b:=λI e=>by have:=h.lt .st b rfl;omega
 have ax:bO w2 b (Eg s H):=h.st.keep M2 (U (y:=.st) (by simp) rfl);have i1:=qz h.inj (x:=.a s.nc) (by simp) (q:=A) λk e=> .inr (h.cE (fA k e));have i2:=qz i1 (x:=.l s.nc) (by simp) (q:=L) λk e=> .inr λy O=>by
  by_cases Z:y=.a s.nc
  .subst Z;rw[cy (by simp),bE]at O;exact a7 k O e
  .rw [iW Z]at O;exact h.cE (fL k e) y O
 have i3:=qz i2 (x:=.c) (by simp) (q:=⟨J,s.nc+1,c'⟩) λk e=>by
  rw[aW (by simp),aW (by simp)];rcases f2 k e with X|X
  .exact .inl X
  .refine .inr λy O=>?_;by_cases Z:y=.l s.nc
   .subst Z;rw[cy (by simp),bE]at O;have:=oL.lt k O;omega
   .rw [iW Z]at O;by_cases aa:y=.a s.nc
    .subst aa;rw[cy (by simp),bE]at O;have:=oA.lt k O;omega
    .rw [iW aa]at O;have:=h.lt y k O;omega
 have eH:∀y,y≠ .a s.nc->y≠ .l s.nc->y≠ .c->bI (bI (bI H (.a s.nc) A) (.l s.nc) L) .c ⟨J,s.nc+1,c'⟩ y=H y:=λy a1 a2 a3=>by rw[aW a3,aW a2,aW a1]
 have eA:bI (bI (bI H (.a s.nc) A) (.l s.nc) L) .c ⟨J,s.nc+1,c'⟩ (.a s.nc)=A:=by rw[aW (by simp),aW (by simp),bE]
 have eL:bI (bI (bI H (.a s.nc) A) (.l s.nc) L) .c ⟨J,s.nc+1,c'⟩ (.l s.nc)=L:=by rw[aW (by simp),bE]
 have en:(FB H s.gone s.nc++ [((A,L,false):Ce)]).length=s.nc+1:=by simp[vH]
 rw[en];refine cz (k:=1) (i:=0) ax rfl rfl λw3 h3 m3=>I w3 (bI (bI (bI H (.a s.nc) A) (.l s.nc) L) .c ⟨J,s.nc+1,c'⟩) ⟨⟨?_,?_,?_,?_,?_,λy Q=>?_,λy Q=>?_,i3⟩,?_,λy k e=>?_⟩
 .have e:Eg (s.pw c m) (bI (bI (bI H (.a s.nc) A) (.l s.nc) L) .c ⟨J,s.nc+1,c'⟩)=wr (Eg s H) (0+1+0) [.slice J (s.nc+1) c']:=by
   simp[wr,Eg,aH.pw,aH.set,bI,Sl.v]
  rw[e];exact h3
 .rw [bE];have e:FB (bI (bI (bI H (.a s.nc) A) (.l s.nc) L) .c ⟨J,s.nc+1,c'⟩) (s.pw c m).gone (s.pw c m).nc=FB H s.gone s.nc++ [((A,L,false):Ce)]:=by
   apply Xr;intro j;simp only[FB,aH.pw,aH.set,WW,YM,We,Xt];by_cases Y:j<s.nc
   .have ay:j≠s.nc:=by omega
    simp[Y,show j<s.nc+1 by omega,Hf,bI,ay]
   .rw [r8 Y];by_cases e:j=s.nc
    .subst e;simp[Hf,bI]
    .have: ¬j<s.nc+1:=by omega
     simp[this];omega
  rw[e];exact o2.keep m3 λk I e=>by
   rcases f2 k I with X|X
   .exact U (y:=.st) (by simp) (k:=k) (by rw[e];rfl) X
   .exact ag (by omega) e
 .rw [bE];rfl
 .rw [eH .wa (by simp) (by simp) (by simp)];have e:jM (bI (bI (bI H (.a s.nc) A) (.l s.nc) L) .c ⟨J,s.nc+1,c'⟩) (2* ((s.pw c m).vars+1))=jM H (2* (s.vars+1)):=by
   rw[l6 (by simp),l6 (by simp),l6 (by simp)];rfl
  rw[e];exact(h.wa.keep M2 λk I=>U (y:=.wa) (by simp) I).keep m3 λk I e=>by
   have:=h.inj .wa .st k I (by rw[e];rfl);cases this
 .rw [eH .wa (by simp) (by simp) (by simp)];exact h.wn
 .have kp:∀ {T2:TypeId} {f:Int->Value} {q:Sl} {l:List Int},Ow f T2 w1 q.p q.c l->(∀k,aF q.p=some k->w0.heap.size<=k)->Ow f T2 w3 q.p q.c l:=λo hf=> (o.keep m2 λk I e=>by
   have:=h.lt .c k e;have:=hf k I;omega).keep m3 λk I e=>ag (hf k I) e
  by_cases a1:y=.a s.nc
  .subst a1;rw[eA,GH];exact kp oA fA
  .by_cases a2:y=.l s.nc
   .subst a2;rw[eL,zZ];exact kp oL fL
   .rw [eH y a1 a2 (dX Q).2.1,km a1 a2];exact((h.row y Q).keep M2 λk I=>U (dX Q).2.1 (by rw[cy (dX Q).1];exact I)).keep m3 λk I e=>by
     have:=h.inj y .st k (by rw[cy (dX Q).1];exact I) (by rw[e];rfl);exact(dX Q).1 this
 .by_cases a1:y=.a s.nc
  .subst a1;rw[eA,GH];exact nA
  .by_cases a2:y=.l s.nc
   .subst a2;rw[eL,zZ];exact nL
   .rw [eH y a1 a2 (dX Q).2.1,km a1 a2];exact h.len y Q
 .exact (M2.mono λk _ e=>⟨.c,e⟩).trans (m3.mono λk _ e=>⟨.st,by rw[e];rfl⟩)
 .by_cases a3:y=.c
  .subst a3;rw[cy (by simp),bE]at e;rcases f2 k e with X|X
   .exact .inl ⟨.c,X⟩
   .exact .inr (by omega)
  .rw [iW a3]at e;by_cases a2:y=.l s.nc
   .subst a2;rw[cy (by simp),bE]at e;exact .inr (fL k e)
   .rw [iW a2]at e;by_cases a1:y=.a s.nc
    .subst a1;rw[cy (by simp),bE]at e;exact .inr (fA k e)
    .rw [iW a1]at e;exact .inl ⟨y,e⟩
end
section
variable{w w' w0 w1 w2 w3:World}{b:Nat}{H H' H2:Pt->Sl}{s t u s' T:aH}{l x y:Int}{i:Nat}
def yB(n:Nat)(c:List Int):Bool:=jL c && c.all (C7 n)
theorem FV{p:Int->Bool}:∀c:List Int,c.any (λx=> !p x)= !c.all p
 | []=>rfl
 |a::l=>by rw[Yd,YB,FV l];cases p a<;>rfl
theorem Qo(k:Wf s)(hn:s.nc<262144){c m:List Int}:Wf (s.pw c m):=by
 have e:∀y,(∀i,y≠Pt.a i)->(∀i,y≠Pt.l i)->(s.pw c m).R y=s.R y:=λy h1 I=>km (h1 _) (I _);exact⟨k.eM,by rw[e _ (by simp) (by simp)];exact k.va,by rw[e _ (by simp) (by simp)];exact k.vb,by rw[e _ (by simp) (by simp)];exact k.le,by rw[e _ (by simp) (by simp)];exact k.re,by rw[e _ (by simp) (by simp)];exact k.be,by rw[e _ (by simp) (by simp)];exact k.tr,hn⟩
theorem mf(h:PM w b H s)(g:aL s){cp:sn}{n cc:Nat}{c:List Int}(hc:Vw sT w cp c)(hn:n=c.length)(hx:n<=maxLen):
 Calls prog 103 #[cj b,.slice cp n cc] w λe w'=>∃Q O:Int,e=.returned (.tuple #[.i Q,.i O])/\∃s' H',Pw w w' b H H' s'/\aL s'/\
  ((Q=0/\O=1/\yB s.vars c=false/\s'=s)\/(Q=0/\O=5/\yB s.vars c=true/\s.nc=262144/\s'=s)\/(Q=s.nc/\O=0/\yB s.vars c=true/\s.nc<262144/\lM s c s')):=by
 have k:=g.wf;refine iM.aj ?_;intro n1 w2 I;have hA:=h.grow I.mod;have e1:=I.num;have ag:∀x,¬own b H x=some n1:=λx e=>by have:=h.lt x n1 e;omega
 obtain⟨av,cT⟩:=DZ h k;refine⟨_,aP I.has rfl,bq rfl ⟨_,aP I.has rfl,_,rfl,_,_,_,ae hA.st rfl,?_⟩⟩;rw[cT];have np:yB s.vars c=false->∀ {u:World},ak w2 u->∃Q O:Int,Ending.returned (.tuple #[.i 0,.i 1])=.returned (.tuple #[.i Q,.i O])/\∃s' H',Pw w u b H H' s'/\aL s'/\
  ((Q=0/\O=1/\yB s.vars c=false/\s'=s)\/(Q=0/\O=5/\yB s.vars c=true/\s.nc=262144/\s'=s)\/(Q=s.nc/\O=0/\yB s.vars c=true/\s.nc<262144/\lM s c s')):=
  λhb u gu=>⟨0,1,rfl,s,H,(Pw.refl (hA.grow gu) gu).df I.mod,g,.inl ⟨rfl,rfl,hb,rfl⟩⟩
 refine bq rfl ((fW (hc.grow I.mod) hn hx).mono ?_);rintro e w7⟨rfl,g7⟩;refine⟨_,rfl,?_⟩;cases aa:jL c with
 |false=>exact bJ rfl (np (by simp[yB,aa]) g7)
 |true=>
 have h7:=hA.grow g7;have co:=I.has.grow g7;refine bq rfl ((fS ((hc.grow I.mod).grow g7) hn hx LH (λx=> !C7 s.vars x) λx _ w' gw=>?_).mono ?_)
 .rw [w_];exact Vl (h7.grow gw) k (co.grow gw) x
 rintro e w9⟨rfl,g9⟩;have G9:=g7.trans g9;have b5:c.any (λx=> !C7 s.vars x)= !c.all (C7 s.vars):=FV c;refine⟨_,rfl,?_⟩;rw[b5];cases aT:c.all (C7 s.vars) with
 |false=>exact bJ rfl (np (by simp[yB,aT]) G9)
 |true=>
 have bg:yB s.vars c=true:=by simp[yB,aa,aT]
 have h9:=hA.grow G9;have dB:=I.has.grow G9;have dA:∀x∈c,dZ s.vars x:=λx c4=> (iX k.eM).1 (K'.1 aT x c4);have bx:=(cX aa).2;refine bq rfl ⟨_,aP dB rfl,_,rfl,_,_,_,ae h9.st rfl,?_⟩;rw[h.cn];refine ah (λr=>?_) (λr=>?_)
 .have r:(s.nc:Int)=262144:=by simpa using r
  exact⟨0,5,rfl,s,H,(Pw.refl h9 G9).df I.mod,g,.inr (.inl ⟨rfl,rfl,bg,by omega,rfl⟩)⟩
 have r: ¬(s.nc:Int)=262144:=by simpa using r
 have ax:s.nc<262144:=by have:=g.Lj;omega
 refine(Jj ((hc.grow I.mod).grow G9) hn hx).mono ?_;rintro e J⟨b',dT,m,hm,rfl,bn,c7,f15⟩;rw[aa]at hm;simp only[I5]at hm;subst hm;have U:=G9.trans c7;have bk:=hA.grow U;have X:=I.has.grow U;refine⟨_,_,_,_,rfl,_,aP X rfl,_,rfl,_,_,_,ae bk.st rfl,?_⟩;have hD:=bk.drew;have b4: ¬aF (H .c).p=some n1:=λe=>ag .c e;have aw:∀ {a:Addr} {u:Value},J.drew.cell? a=some u->¬aF (H .c).p=some a.block->yY (aE (λk=>aF (H .c).p=some k) J.drew) a u:=λhc dq u' g=>ee g hc dq;have gm:∀ {w1:World},ak J.drew w1->aE (λk=>aF (H .c).p=some k) J.drew w1:=λg=>g.mono λ_ _ e=>e.elim;have c1: ¬aF (H .c).p=some b:=hD.j8 (x:=.c) (by simp) (y:=.st) (by simp) rfl;refine⟨aE (λk=>aF (H .c).p=some k) J.drew,aE.refl _,_,aw (aP X.drew rfl) b4,_,aw (aP X.drew rfl) b4,_,rfl,_,_,_,aw (ae hD.st rfl) (by rw[cV];exact c1),?_⟩;refine(iA (((hc.grow I.mod).grow U).drew) hn (by omega)).mono ?_;rintro e d8⟨c0,cr,rfl,cg,a6,f26⟩;refine⟨_,_,_,rfl,gm a6,?_⟩;intro n27 bY Y;have az:=a6.trans Y.mod;refine⟨gm az,?_⟩;have zz:J.drew.heap.size=J.heap.size:=rfl;have GA:ak w2 bY:=U.trans ((aE.refl J).drew.trans az);have ec:=U.size;have s9:=G9.size;have tl:=hA.pw (w1:=bY) (A:=⟨c0,c.length,cr⟩) (L:=⟨b',(bC c).length,dT⟩) (c:=c) (m:=bC c) GA (cg.grow Y.mod) ((bn.drew.grow a6).grow Y.mod) rfl rfl (λk hk=>by have:=f26 k hk;omega) (λk hk=>by have:=f15 k hk;omega)
  (λk hk e=>by have:=f26 k hk;have:=bn.lt k e;omega) Y.has g.Lj (K:=λa8=>∃b3,a8.cell? (qw n1)=some (.pointer b3)/\Calls prog 150 #[.pointer b3,.i (s.nc:Int)] a8 λe b8=>e=.returned (.tuple #[])/\
    ∃Q O:Int,Ending.returned (.tuple #[.i (s.nc:Int),.i 0])=.returned (.tuple #[.i Q,.i O])/\∃s' H',Pw w b8 b H H' s'/\aL s'/\
    ((Q=0/\O=1/\yB s.vars c=false/\s'=s)\/(Q=0/\O=5/\yB s.vars c=true/\s.nc=262144/\s'=s)\/(Q=s.nc/\O=0/\yB s.vars c=true/\s.nc<262144/\lM s c s'))) ?_
 .obtain ⟨wa,p',n',c',hr,bi,w3,dk,a_⟩:=tl;rw[h.cn]at hr ⊢;exact⟨wa,p',n',c',hr,(gm az).trans bi,_,rfl,w3,dk,a_⟩
 .intro a8 H2 a7;have cb:=a7.pm;have b6:=I.has.keep a7.mod λ⟨x,e⟩=>ag x e;have nm:=c_ c;have du:(bC c).Nodup:=nm.st.imp λ{a b} c2 e=>by subst e;exact tx a c2
  have cm:(bC c).length<=4096:=by have:=sM c;omega
  have ar:∀x∈bC c,dZ s.vars x:=λx hx=>dA x ((nm.mem x).1 hx);refine⟨_,aP b6 rfl,(Di cb (Qo k ax) (i:=s.nc) (Nat.lt_succ_self _) (by rw[zZ];exact ar) (by rw[zZ];omega) (λj=>by rw[km (by simp) (by simp)];have:=g.wl j;omega) (by rw[km (by simp) (by simp)];have:=g.Vt;omega)).mono ?_⟩;rintro e b8⟨rfl,l',H3,ay,pm,dh,_,_⟩;rw[zZ]at pm;have Z:BR s.rk 2 l':=λt ht j h1 I=>by
   have:=ay t ht j h1 I;rw[Ma (s:=s) (km (by simp) (by simp)) (km (by simp) (by simp)),Ma (s:=s) (km (by simp) (by simp)) (km (by simp) (by simp))]at this;exact this
  obtain⟨G',A'⟩:=O8 g ax ar du cm (λx=>nm.mem x) bx pm Z;exact⟨rfl,_,_,rfl,_,H3,(a7.trans dh).df I.mod,G',.inr (.inr ⟨rfl,rfl,bg,ax,A'⟩)⟩
end
end Go.Proofs.YtbdghpjnifjlmaaGreat.W
namespace Go.Fw
open Go Go.RowKit
variable{α:Type}{f:α->Value}{w w':World}{p:sn}{hs:List Sl}{rows:List (List α)}
def Mz(p:sn)(hs:List Sl)(k:Nat):Prop:=(hs≠[]/\aF p=some k)\/oI hs k
theorem V2.mK{S:Nat->Prop}(h:V2 f w p hs rows)(m:aE S w w')(O:∀k,Mz p hs k->¬S k):V2 f w' p hs rows:=
 (h.vr.keep m λk I=>O k (.inr I)).v2 (h.h.mK m λJ k I=>O k (.inl ⟨J,I⟩))
theorem V2.Rt(h:V2 f w p hs rows):∀k,Mz p hs k->k<w.heap.size:=by
 rintro k (⟨J,I⟩|I)
 .exact h.h.lt J k I
 .exact h.vr.lt k I
theorem V2.Ua{S:Nat->Prop}{w0:World}(h:V2 f w p hs rows)(J:∀k,Mz p hs k->k<w0.heap.size)(m:aE S w w')(O:∀k,S k->w0.heap.size<=k):V2 f w' p hs rows:=
 h.mK m λk I hs=>by have:=J k I;have:=O k hs;omega
end Go.Fw
namespace Go.Proofs.YtbdghpjnifjlmaaGreat.W
open Go Go.Fw Go.RowKit Go.SoP Go.LiP
open Go.Proofs.Tryz (prog)
section
variable{w w' w0 w1 w2 w3:World}{b:Nat}{H H' H2:Pt->Sl}{s t u s' T:aH}{l x y:Int}{i:Nat}
theorem Is:mg prog eJ aI 24=true:=by kernel_rfl
theorem JA:(Tryz.prog.info? aI).bind (·.zero)=some (.slice none 0 0):=by kernel_rfl
theorem QH:(Tryz.prog.info? zj).bind (·.zero)=some (.int .i8 0):=by kernel_rfl
def aH.new(k:Nat):aH:= {vars:=k,nc:=0,gone:=λ_=>false,done:=0,R:=λx=>match x with| .va| .le| .re=>List.replicate (k+1) 0|_=> []}
def JY(k a v l r:Nat):Pt->Sl
 | .wa=>⟨some ⟨a,0,none⟩,2* (k+1),2* (k+1)⟩
 | .va=>⟨some ⟨v,0,none⟩,k+1,k+1⟩
 | .le=>⟨some ⟨l,0,none⟩,k+1,k+1⟩
 | .re=>⟨some ⟨r,0,none⟩,k+1,k+1⟩
 |_=>Sl.nil
theorem MQ{k:Nat}(Q:k<=1048576):aL (aH.new k):=by
 have e0:∀ (n i:Nat),(List.replicate n (0:Int)).getD i 0=0:=λn i=>by
  simp only[vx,List.getElem?_replicate];split<;>rfl
 refine⟨Q,by simp[aH.new],by simp[aH.new],λi=> .inl (e0 _ _),by simp[aH.new],by simp[aH.new],λx O=>by simp[aH.new]at O,by simp[aH.new],λx O=>?_,λj I=>by simp[aH.new]at I,λi j _ I=>by simp[aH.new]at I,rfl,λj I=>by simp[aH.new]at I,
  λp hp=>by simp[aH.new]at hp,λp hp=>by simp[aH.new]at hp,λp hp=>by simp[aH.new]at hp,vy _,λi hi=>absurd hi.1 (Yn _),λi hi=>absurd hi.1 (Yn _),λi hi=>absurd hi.1 (Yn _),λi hi=>absurd hi.1 (Yn _),λi=>by simp[aH.new],
  λj c J=>by simp[aH.new]at J,λi hi=>absurd hi.1 (Yn _),λj=>by simp[aH.new],λc J=>by simp[aH.new]at J,λi hi=>absurd hi.1 (Yn _),by simp[aH.new],λi hi=>absurd hi.1 (Yn _),λj I=>by simp[aH.new]at I⟩
 have:(aH.new k).val x=0:=by
  unfold aH.val;show (if x<0 then -(List.replicate (k+1) (0:Int)).getD _ 0 else (List.replicate (k+1) (0:Int)).getD _ 0)=0;rw[e0,e0];simp
 rw[this];simp[aH.new]
def Pb(k t:Nat)(u:World)(g:Nat):Prop:=
 match t with
 |0=>Ow Sl.v aI u (some ⟨g,0,none⟩) (2* (k+1)) (List.replicate (2* (k+1)) Sl.nil)
 |1=>Ow (Value.int .i8) zj u (some ⟨g,0,none⟩) (k+1) (List.replicate (k+1) 0)
 |_=>d_ aB u (some ⟨g,0,none⟩) (k+1) (List.replicate (k+1) 0)
structure Zn(w0:World)(k:Nat)(u:World)(L:List (Nat × Nat)):Prop where
 g:ak w0 u
 o:∀t g,(t,g)∈L->Pb k t u g/\w0.heap.size<=g/\g<u.heap.size
 d:∀t t' g,(t,g)∈L->(t',g)∈L->t=t'
theorem Pb.grow{k t g:Nat}(h:Pb k t w g)(m:ak w w'):Pb k t w' g:=by
 unfold Pb at*
 split at h<;>exact Ow.grow h m
variable{k:Nat}{L:List (Nat × Nat)}
theorem Zn.cons(z:Zn w0 k w L){t:Nat}{o:Pb k t w' w.heap.size}(m:ak w w')(hs:w'.heap.size=w.heap.size+1):Zn w0 k w' ((t,w.heap.size)::L):=by
 refine⟨z.g.trans m,λX g hm=>?_,λU Q g h1 I=>?_⟩
 .rcases V'.1 hm with e|hm
  .injection e with J O;subst J O;exact⟨o,z.g.size,by omega⟩
  .obtain ⟨a,b,c⟩:=z.o X g hm;exact⟨a.grow m,b,by omega⟩
 .rcases V'.1 h1 with J|h1<;>rcases V'.1 I with O|I
  .injection J with a1 a2;injection O with b1 b2;omega
  .injection J with a1 a2;have:=(z.o Q g I).2.2;omega
  .injection O with a1 a2;have:=(z.o U g h1).2.2;omega
  .exact z.d U Q g h1 I
theorem Zn.m0(z:Zn w0 k w L)(O:k<=1048576){n:Int}(hn:n=((2* (k+1):Nat):Int)){K:World->sn->Nat->Nat->Prop}
 (J:∀u,Zn w0 k u ((0,w.heap.size)::L)->K u (some ⟨w.heap.size,0,none⟩) (2* (k+1)) (2* (k+1))):
 ∃w',∃I n' c',(Instr.makeSlice eJ (.i n) (.i n)).run prog w=.ok (.slice I n' c') w'/\K w' I n' c':=
 ra (f:=Sl.v) (x:=Sl.nil) Is JA rfl (2* (k+1)) hn (by omega) λu o m hs=>J u (z.cons (t:=0) (o:=o) m hs)
theorem Zn.m1(z:Zn w0 k w L)(O:k<=1048576){n:Int}(hn:n=((k+1:Nat):Int)){K:World->sn->Nat->Nat->Prop}
 (J:∀u,Zn w0 k u ((1,w.heap.size)::L)->K u (some ⟨w.heap.size,0,none⟩) (k+1) (k+1)):
 ∃w',∃I n' c',(Instr.makeSlice zU (.i n) (.i n)).run prog w=.ok (.slice I n' c') w'/\K w' I n' c':=
 ra (f:=Value.int .i8) (x:=0) Ri QH rfl (k+1) hn (by omega) λu o m hs=>J u (z.cons (t:=1) (o:=o) m hs)
theorem Zn.m2(z:Zn w0 k w L)(O:k<=1048576){n:Int}(hn:n=((k+1:Nat):Int)){K:World->sn->Nat->Nat->Prop}
 (J:∀u,Zn w0 k u ((L.length+2,w.heap.size)::L)->K u (some ⟨w.heap.size,0,none⟩) (k+1) (k+1)):
 ∃w',∃I n' c',(Instr.makeSlice aI (.i n) (.i n)).run prog w=.ok (.slice I n' c') w'/\K w' I n' c':=
 ra (f:=Value.int .i64) (x:=0) cR iC rfl (k+1) hn (by omega) λu o m hs=>J u (z.cons (t:=L.length+2) (o:=o) m hs)
theorem Zn.pm(z:Zn w0 k w L){a v l r t Q:Nat}(ha:(0,a)∈L)(hv:(1,v)∈L)(hl:(t+2,l)∈L)(hr:(Q+2,r)∈L)(ht:t≠Q){n:Nat}
 (h:jz (.cells #[.i k,.slice none 0 0,.slice (some ⟨a,0,none⟩) (2* (k+1)) (2* (k+1)),.slice (some ⟨v,0,none⟩) (k+1) (k+1),.slice (some ⟨l,0,none⟩) (k+1) (k+1),.slice (some ⟨r,0,none⟩) (k+1) (k+1),.slice none 0 0,.slice none 0 0,.slice none 0 0,.i 0,.slice none 0 0] vG) w n w'):
 PM w' n (JY k a v l r) (aH.new k)/\ak w0 w'/\∀x j,own n (JY k a v l r) x=some j->w0.heap.size<=j:=by
 obtain⟨oa,ga,la⟩:=z.o _ _ ha;obtain⟨ov,gv,lv⟩:=z.o _ _ hv;obtain⟨ol,gl,ll⟩:=z.o _ _ hl;obtain⟨O,gr,lr⟩:=z.o _ _ hr;have en:=h.num;have gz:=z.g.size;have J:∀ {Z Y X g2:Nat},(Z,X)∈L->(Y,g2)∈L->Z≠Y->X≠g2:=λh1 h2 U e=>U (z.d _ _ _ h1 (e▸h2));have av:=J ha hv (by omega);have al:=J ha hl (by omega);have ar:=J ha hr (by omega);have vl:=J hv hl (by omega);have vr:=J hv hr (by omega);have ay:=J hl hr (by omega);have tI:∀x j,own n (JY k a v l r) x=some j->(x=.st/\j=n)\/(x=.wa/\j=a)\/(x=.va/\j=v)\/(x=.le/\j=l)\/(x=.re/\j=r):=by
  intro x j I;cases x<;>simp[own,JY,aF,Sl.nil]at I<;>simp[I]
 refine⟨⟨h.has,Row.nil _ _ _ _,rfl,?_,rfl,λx I=>?_,λx I=>?_,λx y j I hy=>?_⟩,z.g.trans h.mod,λx j I=>?_⟩
 .have e:jM (JY k a v l r) (2* ((aH.new k).vars+1))=List.replicate (2* (k+1)) Sl.nil:=by
   unfold jM;rw[List.eq_replicate_iff];refine⟨by simp[aH.new],λq hq=>?_⟩;obtain⟨j,_,rfl⟩:=LV.1 hq;rfl
  rw[e];exact Pb.grow (t:=0) oa h.mod
 .cases x<;>first| (exact Ow.nil _ _ _)| (simp[Pt.row]at I;done)| (exact Pb.grow (t:=1) ov h.mod)| (exact Pb.grow (t:=t+2) ol h.mod)| (exact Pb.grow (t:=Q+2) O h.mod)
 .cases x<;>first| (simp[Pt.row]at I;done)| (simp[JY,aH.new,Sl.nil])
 .rcases tI x j I with⟨rfl,rfl⟩| ⟨rfl,rfl⟩| ⟨rfl,rfl⟩| ⟨rfl,rfl⟩| ⟨rfl,rfl⟩<;>rcases tI y _ hy with⟨rfl,e⟩| ⟨rfl,e⟩| ⟨rfl,e⟩| ⟨rfl,e⟩| ⟨rfl,e⟩<;>first|rfl|omega
 .rcases tI x j I with⟨_,rfl⟩| ⟨_,rfl⟩| ⟨_,rfl⟩| ⟨_,rfl⟩| ⟨_,rfl⟩<;>omega
structure Lv(k:Nat)(cs:lq)(s:aH):Prop where
 v:s.vars=k
 n:s.nc=cs.length
 g:∀i,i<cs.length->s.gone i=false
 a:∀i,i<cs.length->s.R (.a i)=cs.getD i []
 tr:s.R .tr= []
 be:s.R .be= []
theorem zX{k:Int}{q:sn}{m d:Nat}{hs:List Sl}{cs:lq}(hc:V2 sT w q hs cs)(hm:m=cs.length):
 Calls prog 61 #[.agg #[.i k,.slice q m d]] w λe w'=> (c5 k cs=false/\e=.returned (.tuple #[.pointer none,.i 1])/\ak w w')\/
  (c5 k cs=true/\∃ (b:Nat) (s:aH) (H:Pt->Sl),e=.returned (.tuple #[cj b,.i 0])/\PM w' b H s/\aL s/\Lv k.toNat cs s/\ak w w'/\∀x j,own b H x=some j->w.heap.size<=j):=by
 refine sk.aj ?_;intro n1 w2 Q;have Y:=hc.grow Q.mod;refine⟨_,_,_,_,⟨ae Q.has rfl,ae Q.has rfl,trivial⟩,(eP Y hm).mono ?_⟩;rintro e J⟨rfl,X⟩;refine⟨_,rfl,?_⟩;cases O:c5 k cs with
 |false=>exact bJ rfl (.inl ⟨rfl,rfl,Q.mod.trans X⟩)
 |true=>
 have hb:0<=k/\k<=1048576/\cs.length<=262144:=by
  unfold c5 at O;simp only[ts,x7]at O;exact O.1
 obtain⟨I,rfl⟩: ∃I:Nat,k=I:=⟨k.toNat,by omega⟩
 have hk:I<=1048576:=by omega
 have H5:=Q.has.grow X;have e1:IntKind.i64.wrap ((I:Int)+1)=((I+1:Nat):Int):=wN rfl (by omega);have e2:IntKind.i64.wrap (2* ((I+1:Nat):Int))=((2* (I+1):Nat):Int):=wN;refine bq rfl ⟨_,ae H5 rfl,?_⟩;try dsimp only
 rw[e1,e2];have z0:Zn J.drew I J.drew []:=⟨aE.refl _,λt g h=>by simp at h,λt t' g h=>by simp at h⟩
 refine⟨λp u=>∃ (n:Nat) (H:Pt->Sl),p=(⟨n,0,none⟩:Addr)/\PM u n H (aH.new I)/\ak J u/\∀x j,own n H x=some j->J.heap.size<=j,?_,?_⟩
 .refine ⟨λu=>ak J.drew u,aE.refl _,_,λu g=>ae (H5.drew.grow g) rfl,?_⟩;have eh:∀ {u u':World} {L:List (Nat × Nat)} {a v l r t t' n:Nat},Zn J.drew I u L->(0,a)∈L->(1,v)∈L->(t+2,l)∈L->(t'+2,r)∈L->t≠t'->
   jz (.cells #[.i I,.slice none 0 0,.slice (some ⟨a,0,none⟩) (2* (I+1)) (2* (I+1)),.slice (some ⟨v,0,none⟩) (I+1) (I+1),.slice (some ⟨l,0,none⟩) (I+1) (I+1),.slice (some ⟨r,0,none⟩) (I+1) (I+1),.slice none 0 0,.slice none 0 0,.slice none 0 0,.i 0,.slice none 0 0] vG) u n u'->
   ∃ (n':Nat) (H:Pt->Sl),qw n=(⟨n',0,none⟩:Addr)/\PM u' n' H (aH.new I)/\ak J u'/\∀x j,own n' H x=some j->J.heap.size<=j:=by
   intro u u' L a v l r t t' n z ha hv hl hr ht h;obtain⟨p1,p2,p3⟩:=z.pm ha hv hl hr ht h;exact⟨n,_,rfl,p1,(aE.refl J).drew.trans p2,λx j e=>p3 x j e⟩
  repeat' first
   | (with_reducible refine Zn.m0 (L:=_) (by assumption) hk rfl λu z=>⟨z.g,?_⟩)
   | (with_reducible refine Zn.m1 (L:=_) (by assumption) hk rfl λu z=>⟨z.g,?_⟩)
   | (with_reducible refine Zn.m2 (L:=_) (by assumption) hk rfl λu z=>⟨z.g,?_⟩)
   | (intro n w' h
      exact eh (by assumption) (by first|exact Wb .. |exact xk _ (Wb ..)|exact xk _ (xk _ (Wb ..))|exact xk _ (xk _ (xk _ (Wb ..)))) (by first|exact Wb .. |exact xk _ (Wb ..)|exact xk _ (xk _ (Wb ..))|exact xk _ (xk _ (xk _ (Wb ..)))) (by first|exact Wb .. |exact xk _ (Wb ..)|exact xk _ (xk _ (Wb ..))|exact xk _ (xk _ (xk _ (Wb ..)))) (by first|exact Wb .. |exact xk _ (Wb ..)|exact xk _ (xk _ (Wb ..))|exact xk _ (xk _ (xk _ (Wb ..)))) (by simp) h)
   |with_reducible refine And.intro ?_ ?_
 .rintro _ aw _ ⟨b,H,rfl,p0,g0,f0⟩;have av:=H5.grow g0;have V0:=(Y.grow X)
  refine⟨_,_,_,ae av rfl,?_⟩;have kz:=MQ hk;refine⟨λV u z=>∃ (v:Nat) (s:aH) (H':Pt->Sl),V=v/\v<=cs.length/\z=cs.length - v/\Pw aw u b H H' s/\aL s/\Lv I (cs.take v) s,⟨_,0,aH.new I,H,rfl,xc _,rfl,Pw.refl p0 (aE.refl _),kz,⟨rfl,by simp[aH.new],λi hi=>by simp at hi,λi hi=>by simp at hi,rfl,rfl⟩⟩,?_⟩;rintro V u z _⟨v,s,H',rfl,hv,rfl,Z,gs,nw⟩;have hu:=Z.pm;have vV:V2 sT u q hs cs:=(V0.grow g0).Ua (w0:=J) V0.Rt Z.mod λk ⟨x,e⟩=>f0 x k e;refine ah (λr=>?_) (λr=>?_)
  .have r:v<cs.length:=by rw[hm]at r;simpa using r
   refine vV.ix (by omega) hm (by omega) λa sl h1 h0 k2 h3 h4=>⟨_,_,_,h1,?_⟩
   rw[tn]at k2 h4;refine(mf hu gs h4 k2 h3).mono ?_;rintro e bf⟨r1,r2,rfl,s',H2,P2,g2,hr⟩;have a_:yB s.vars (cs.getD v [])=true:=by
    have:=O;unfold c5 at this;simp only[ts]at this;have ag:cs.getD v []∈cs:=by simp[List.getD,r]
    have hh:=K'.1 this.2 _ ag;simp only[ts]at hh;unfold yB;rw[hh.1,W2,K'];intro x hx;unfold C7;have h5:=(cX hh.1).1 x hx;have h6:=K'.1 hh.2 x hx;rw[h5,nw.v];simpa using h6
   have bn:s.nc<262144:=by rw[nw.n,y6];omega
   have U:lM s (cs.getD v []) s':=by
    rcases hr with⟨_,_,h,_⟩| ⟨_,_,_,h,_⟩| ⟨_,_,_,_,h⟩
    .rw [a_]at h;cases h
    .omega
    .exact h
   have aa:s.nc=v:=by rw[nw.n,y6];omega
   refine⟨_,_,rfl,_,?_,v+1,s',H2,wN,r,rfl,Z.trans P2,g2,⟨U.v.trans nw.v,by rw[U.n,aa,y6];omega,λi hi=>?_,λi hi=>?_,U.tr.trans nw.tr,U.be.trans nw.be⟩⟩
   .omega
   .rw [U.g];rw[y6]at hi;split
    .rfl
    .exact nw.g i (by rw[y6];omega)
   .rw [U.a];rw[y6]at hi;have e5:(cs.take (v+1)).getD i []=cs.getD i []:=by
     simp only[vx,WE];rw[v8 (by omega)]
    rw[e5,aa];split
    .rename_i e;rw[e]
    .rw [nw.a i (by rw[y6];omega)];simp only[vx,WE];rw[v8 (by omega)]
  .have r:v=cs.length:=by rw[hm]at r;simp at r;omega
   subst r;rw[L0]at nw;refine .inr ⟨rfl,b,s,H',rfl,hu,gs,nw,?_,λx j e=>?_⟩
   .exact (Q.mod.trans (X.trans g0)).then Z.mod λk hk ⟨x,e⟩=>by
     have:=f0 x k e;have:=(Q.mod.trans X).size;omega
   .have:=(Q.mod.trans X).size;rcases Z.ft x j e with⟨y,e2⟩|e2
    .have:=f0 y j e2;omega
    .have:=g0.size;omega
end
section
variable{s t u s':aH}{l x y:Int}{i:Nat}
def kH(t:List Int):List Int->Int->Int
 | [],o=>o
 |x::c,o=>if x∈t then 0 else if -x∈t\/x=o then kH t c o else if o≠0 then 0 else kH t c x
def dz(c t:List Int):Int:=kH t c 0
def cS(c t:List Int):Bool:=c.all λx=>decide (-x∈t)
theorem vJ{t:List Int}:∀ (c:List Int) (o:Int),(∀y∈c,y≠0)->kH t c o≠0->(∀y∈c,y ∉ t/\(y=kH t c o\/ -y∈t))/\(kH t c o=o\/(o=0/\kH t c o∈c/\ -(kH t c o) ∉ t))
 | [],o,_,_=>⟨λy I=>by simp at I,.inl rfl⟩
 |x::c,o,nz,h=>by
  have O:∀y∈c,y≠0:=λy I=>nz y (xk _ I);have U:x≠0:=nz x (Wb ..);unfold kH at h ⊢;by_cases h1:x∈t
  .rw [v8 h1]at h;exact absurd rfl h
  .rw [r8 h1]at h ⊢;by_cases J: -x∈t\/x=o
   .rw [v8 J]at h ⊢;obtain⟨a,b⟩:=vJ c o O h;refine⟨λy I=>?_,b.imp id λe=>⟨e.1,xk _ e.2.1,e.2.2⟩⟩;rcases V'.1 I with rfl|I
    .refine ⟨h1,?_⟩;rcases J with J|J
     .exact .inr J
     .rcases b with b| ⟨b,_⟩
      .exact .inl (J.trans b.symm)
      .omega
    .exact a y I
   .rw [r8 J]at h ⊢;by_cases Q:o≠0
    .rw [v8 Q]at h;exact absurd rfl h
    .rw [r8 Q]at h ⊢;obtain⟨a,b⟩:=vJ c x O h;have Q:o=0:=by omega
     have X: -x ∉ t:=λe=>J (.inl e);have ex:kH t c x=x:=by
      rcases b with b| ⟨b,_⟩
      .exact b
      .exact absurd b U
     refine⟨λy I=>?_,.inr ⟨Q,by rw[ex];exact Wb ..,by rw[ex];exact X⟩⟩;rcases V'.1 I with rfl|I
     .exact ⟨h1,.inl ex.symm⟩
     .exact a y I
theorem oR{c t:List Int}(nz:∀y∈c,y≠0)(h:dz c t≠0):dz c t∈c/\dz c t ∉ t/\ -(dz c t) ∉ t/\∀y∈c,y=dz c t\/ -y∈t:=by
 obtain⟨a,b⟩:=vJ c 0 nz h;rcases b with b| ⟨_,b1,b2⟩
 .exact absurd b h
 .exact ⟨b1,(a _ b1).1,b2,λy I=> (a y I).2⟩
theorem oD{t:List Int}{l:Int}(O:l≠0)(hn: -l ∉ t):∀ (c:List Int) (o:Int),(∀y∈c,y ∉ t/\(y=l\/ -y∈t))->(o=l\/(o=0/\l∈c))->kH t c o=l
 | [],o,_,I=>by
   rcases I with I| ⟨_,h⟩
   .exact I
   .simp at h
 |x::c,o,hc,I=>by
  have U:=hc x (Wb ..);have Q:∀y∈c,y ∉ t/\(y=l\/ -y∈t):=λy X=>hc y (xk _ X);unfold kH;rw[r8 U.1];by_cases e:x=l
  .subst e;by_cases J: -x∈t\/x=o
   .rw [v8 J];refine oD O hn c o Q ?_;rcases J with J|J
    .exact absurd J hn
    .exact .inl J.symm
   .rw [r8 J];rcases I with I| ⟨I,_⟩
    .exact absurd (Or.inr I.symm) J
    .rw [r8 (by omega)];exact oD O hn c x Q (.inl rfl)
  .have Y: -x∈t:=U.2.resolve_left e;rw[v8 (.inl Y)];refine oD O hn c o Q (I.imp id λh=>⟨h.1,?_⟩);rcases V'.1 h.2 with h|h
   .exact absurd h.symm e
   .exact h
theorem cU{c t:List Int}:cS c t=true↔∀x∈c,-x∈t:=by
 unfold cS;simp[K']
inductive DJ (cs:lq) (d:List Int):List Int->Prop
 |refl:DJ cs d d
 |step {t:List Int} {c:List Int}:DJ cs d t->c∈cs->dz c t≠0->DJ cs d (t++ [dz c t])
def aH.BD(s:aH)(c:List Int):Prop:=∃i,s.aN i/\s.R (.a i)=c
def aH.wL(s:aH):List Int:=(s.R .be).map λe=> (s.R .tr).getD e.toNat 0
theorem aL.R2(g:aL s){c:List Int}(h:s.BD c):∀x∈c,dZ s.vars x:=by
 obtain⟨i,hi,rfl⟩:=h;exactλx I=>g.cv i hi x ((g.ca i hi x).2 I)
theorem aL.P_(g:aL s):∀x∈s.wL,x∈s.R .tr:=by
 intro x J;obtain⟨e,he,rfl⟩:=LV.1 J;obtain⟨j,I,O⟩:=Bs.1 he;have:=g.bl j I;simp only[List.getD,V9 I,Wn,O]at this;exact bL (by omega)
theorem SP{p:Nat}(h:(p:Int)∈s.R .be):(s.R .tr).getD p 0∈s.wL:=
 LV.2 ⟨(p:Int),h,by rw[tn]⟩
theorem aL.wT(g:aL s){Q:Int->Prop}(hd:∀x∈s.wL,Q x)(U:∀c,s.BD c->∀l∈c,(∀y∈c,y≠l->Q (-y))-> -l ∉ s.R .tr->Q l):∀x∈s.R .tr,Q x:=by
 have key:∀p,p< (s.R .tr).length->Q ((s.R .tr).getD p 0):=by
  intro p
  induction p using Nat.strongRecOn with
  |_ p O=>
   intro hp;by_cases hb:(p:Int)∈s.R .be
   .exact hd _ (SP hb)
   .obtain ⟨i,e1,I,e3,X⟩:=g.Ru p hp hb;refine U _ ⟨i,I,rfl⟩ _ ((g.ca i I _).1 e3) (λy Z J=>?_) (g.cons (bL hp));have:=X y ((g.ca i I y).2 Z) J;obtain⟨q,hq,e⟩:=Bs.1 this;rw[y6]at hq;have e5:(s.R .tr).getD q 0= -y:=by
     rw[XP]at e;simp[List.getD,show q< (s.R .tr).length by omega,e]
    rw[<- e5];exact O q (by omega) (by omega)
 intro x Y;obtain⟨p,hp,e⟩:=Bs.1 Y;have:=key p hp;simp only[List.getD,V9 hp,Wn,e]at this;exact this
theorem aL.xz(g:aL s){T:List Int}(Z:∀x∈s.wL,x∈T)(hT:∀x∈T,-x ∉ T)(Y:∀c,s.BD c->cS c T=false/\dz c T=0):∀x∈s.R .tr,x∈T:=by
 refine g.wT Z λc O l hl U _=>?_;obtain⟨h1,X⟩:=Y c O;have hv:=g.R2 O;rcases Y6 (l∈T) with h|h
 .exact h
 .exfalso;have Q: -l ∉ T:=λe=>by
   rw[<- WI,cU]at h1;exact h1 λy I=>by
    by_cases J:y=l
    .rw [J];exact e
    .exact U y I J
  have:=oD (t:=T) (hv l hl).1 Q c 0 (λy I=>by
   by_cases J:y=l
   .subst J;exact⟨h,.inl rfl⟩
   .have:=U y I J;exact⟨λe=>hT y e this,.inr this⟩) (.inr ⟨rfl,hl⟩)
  have h3:=(hv l hl).1;unfold dz at X;omega
theorem dE.cl(hC:dE s)(g:aL s){c:List Int}(J:s.BD c):(∃x∈c,x∈s.R .tr)\/∃x∈c,∃y∈c,x≠y/\x ∉ s.R .tr/\ -x ∉ s.R .tr/\y ∉ s.R .tr/\ -y ∉ s.R .tr:=by
 have hv:=g.R2 J;obtain⟨i,hi,rfl⟩:=J;rcases hC i hi with h| ⟨x,O,y,Q,I,U,X⟩
 .exact .inl h
 .have a:=(g.v0 (hv x O)).1 U;have b:=(g.v0 (hv y Q)).1 X;exact .inr ⟨x,O,y,Q,I,a.1,a.2,b.1,b.2⟩
theorem dE.unit(hC:dE s)(g:aL s){T c:List Int}(J:∀x∈T,x∈s.R .tr)(Y:s.BD c)(h:dz c T≠0):dz c T∈s.R .tr:=by
 obtain⟨_,_,_,X⟩:=oR (λy Q=> (g.R2 Y y Q).1) h;rcases hC.cl g Y with⟨x,O,I⟩| ⟨x,O,y,Q,U,x1,x2,y1,Z⟩
 .rcases X x O with e|e
  .rw [<- e];exact I
  .exact absurd (J _ e) (g.cons I)
 .exfalso;have ex:x=dz c T:=(X x O).resolve_right λe=>x2 (J _ e);have ey:y=dz c T:=(X y Q).resolve_right λe=>Z (J _ e);exact U (ex.trans ey.symm)
theorem dE.Ky(hC:dE s)(g:aL s){T c:List Int}(O:∀x∈T,x∈s.R .tr)(Q:s.BD c):cS c T=false:=by
 rw[<- WI,cU];intro h;rcases hC.cl g Q with⟨x,I,J⟩| ⟨x,I,_,_,_,_,U,_,_⟩
 .exact g.cons J (O _ (h x I))
 .exact U (O _ (h x I))
theorem dE.U8(hC:dE s)(g:aL s){cs:lq}(J:∀c∈cs,s.BD c){d T:List Int}(U:∀x∈d,x∈s.R .tr)(h:DJ cs d T):∀x∈T,x∈s.R .tr:=by
 induction h with
 |refl=>exact U
 |step h1 Q X O=>
  intro x I;rcases y4.1 I with I|I
  .exact O x I
  .rw [xv]at I;rw[I];exact hC.unit g O (J _ Q) X
end
section
variable{w w' w0 w2 w3:World}{p q:sn}{n m c d:Nat}{l t T:List Int}
theorem nw(x:Int)(I: -1048576<=x/\x<=1048576):IntKind.i64.wrap (0 - x)= -x:=by rw[ao (by omega) (by omega)];omega
end
section
variable{w w' w0 w2 w3:World}{p q:sn}{n m c d V:Nat}{l t T:List Int}{hs:List Sl}{cs:lq}
theorem S_{x:Int}{nb:Nat}{w0:World}(h:jz (.cells #[.i x] aB) w0 nb w):Vw sT w (some ⟨nb,0,none⟩) [x]:=by
 intro j I;have I:j=0:=by simpa using I
 subst I;exact⟨_,rfl,ae h.has rfl⟩
end
section
variable{w w' w0 w2 w3:World}{b:Nat}{H H' H2:Pt->Sl}{s t u s' T:aH}{cp gp dp:sn}{hs:List Sl}{cs:lq}{gl:List Bool}{dl:List Int}{cn cc gn gc dn dc:Nat}{v:Int}
theorem sV{l:List Int}{x y:Int}:y∈wo l x↔y∈l/\y≠x:=by unfold wo;simp
end
section
variable{w w' w0 w2 w3:World}{b:Nat}{H H' H2:Pt->Sl}{s t u s' T:aH}{cp gp dp:sn}{hs:List Sl}{cs:lq}{gl:List Bool}{dl:List Int}{cn cc gn gc dn dc:Nat}{v:Int}
def U7(s:aH)(r:Int):Prop:=(r= -1/\dE s)\/∃i:Nat,r=i/\xN s i
end
section
variable{w w' w0 w2 w3:World}{b:Nat}{H H' H2:Pt->Sl}{s t u s' T:aH}{cp gp dp:sn}{hs:List Sl}{cs:lq}{gl:List Bool}{dl:List Int}{cn cc gn gc dn dc:Nat}{v:Int}
theorem zD(g:aL s)(l:Int):(s.decide l).wL=s.wL++ [l]:=by
 have J:(s.decide l).R .be=s.R .be++ [((s.R .tr).length:Int)]:=by
  unfold aH.decide;rw[kO (by simp) (by simp) (by simp) (by simp)];unfold aH.kP;rw[aq (by simp),aQ]
 have O:(s.decide l).R .tr=s.R .tr++ [l]:=by
  unfold aH.decide;rw[sQ];unfold aH.kP;rw[aq (by simp),aq (by simp)]
 unfold aH.wL;rw[J,O,GD,Yj,tn,cW];congr 1;refine WT λq hq=>?_;obtain⟨j,I,Q⟩:=Bs.1 hq;have:=g.bl j I;simp only[List.getD,V9 I,Wn,Q]at this;exact bW (by omega)
theorem F5(l:Int):(s.decide l).vars=s.vars/\(s.decide l).nc=s.nc/\(s.decide l).gone=s.gone/\∀i,(s.decide l).R (.a i)=s.R (.a i):=by
 refine⟨by simp only[aH.decide,aH.put,aH.kP,aH.set],by simp only[aH.decide,aH.put,aH.kP,aH.set],by simp only[aH.decide,aH.put,aH.kP,aH.set],λi=>?_⟩;unfold aH.decide;rw[kO (by simp) (by simp) (by simp) (by simp)];unfold aH.kP;rw[aq (by simp),aq (by simp)]
end
section
variable{w w' w0 w2 w3:World}{b:Nat}{H H' H2:Pt->Sl}{s t u s' T:aH}{cp gp dp ap:sn}{hs:List Sl}{cs:lq}{gl:List Bool}{dl:List Int}{cn cc gn gc dn dc an ac:Nat}{v:Int}
theorem IG(g:aL s)(x:jI s s'):s'.wL=s.wL:=by
 unfold aH.wL;rw[x.be];obtain⟨e,he⟩:=x.tr;rw[he];refine WT λq hq=>?_;obtain⟨j,I,J⟩:=Bs.1 hq;have:=g.bl j I;simp only[List.getD,V9 I,Wn,J]at this;rw[bW (by omega)]
theorem xD(L:Nat):(s.bV L).vars=s.vars/\(s.bV L).nc=s.nc/\(s.bV L).gone=s.gone/\(∀i,(s.bV L).R (.a i)=s.R (.a i))/\(s.bV L).R .be=(s.R .be).take L/\(s.bV L).R .tr=(s.R .tr).take ((s.R .be).getD L 0).toNat:=by
 have key:∀y,(s.bV L).R y=((((s.set .va (GB (s.R .va) ((s.R .tr).drop ((s.R .be).getD L 0).toNat))).set .tr ((s.R .tr).take ((s.R .be).getD L 0).toNat)).set .be ((s.R .be).take L)).set .ds ((s.R .ds).take L)).R y:=λy=>rfl;refine⟨rfl,rfl,rfl,λi=>?_,?_,?_⟩
 .rw [key,aq (by simp),aq (by simp),aq (by simp),aq (by simp)]
 .rw [key,aq (by simp),aQ]
 .rw [key,aq (by simp),aq (by simp),aQ]
end
