/- Maps from ints to bools that tell what is known. -/
import Derived.Test.YtbdghpjnifjlmaaGreatLitA
import Derived.Test.YtbdghpjnifjlmaaGreatSortA
set_option linter.unusedVariables false
namespace Go.Fw
open Go Go.RowKit Go.Maps
variable {P:Program} {t k e:TypeId} {w w':World} {b n:Nat} {s h:Int->Bool}
def MK (P:Program) (k e:TypeId) (w:World) (b n:Nat) (s h:Int->Bool):Prop:=
 ∃D:DataW Unit,w.ownsMap P k (plainElem P e) b n D/\(∀a:Int,D.atKey (.i a) (.lit (.bool false))=.lit (.bool (s a)))/\∀a:Int,Maps.has D (.i a)=h a
theorem MK.mb (m:MK P k e w b n s h):MB P k e w b n s:=by obtain ⟨D,h1,I,_⟩:=m;exact ⟨D,h1,I⟩
theorem MK.lt (m:MK P k e w b n s h):b<w.heap.size:=m.mb.lt
theorem MK.keep {S:Nat->Prop} (I:MK P k e w b n s h) (m:aD S w w') (hs: ¬S b):MK P k e w' b n s h:=by
 have hl:=I.lt;obtain ⟨D,⟨J,clock,hb,h1⟩,O⟩:=I;exact ⟨D,⟨J,clock,(m.block b hl hs).trans hb,h1⟩,O⟩
theorem MK.grow (I:MK P k e w b n s h) (m:ak w w'):MK P k e w' b n s h:=I.keep m id
theorem MK.new {b:Nat} (I:jI (.map #[] 0) w b w'):MK P k e w' b 0 (λ_=>false) λ_=>false:=by
 obtain ⟨rfl,rfl⟩:=I;exact ⟨.map [],World.ownsMap_made w P k _,λa=>rfl,λa=>rfl⟩
theorem MK.cP (hm:vq P t k e=true) (I:MK P k e w b n s h) {a:Int} (ha:(Lit.int .i64 a).wf=true):(Instr.lookup t (.map (some b)) (.i a) true).run P w=.ok (.tuple #[.bool (s a),.bool (h a)]) w:=by
 obtain ⟨ht,J,he,O⟩:=jA hm;obtain ⟨D,I,U,Q⟩:=I;obtain ⟨v,ps,hr,hv⟩:=I.look_ok (int_keyed J) ht (O w) (plainElem_bool he false) (keyOf_int_mk J ha);rw [U a] at hv;have:v=.bool (s a):=by
  unfold plainElem at hv;rw [he] at hv;cases v<;>simp_all
 rw [hr,this,Q a]
theorem MK.put (hm:vq P t k e=true) (O:MK P k e w b n s h) (hn:n<maxLen) {a:Int} (ha:(Lit.int .i64 a).wf=true) (v:Bool):
 ∃w',(Instr.mapUpdate t (.map (some b)) (.i a) (.bool v)).run P w=.ok () w'/\MK P k e w' b (n+1) (λu=>if u=a then v else s u) (λu=>if u=a then true else h u)/\aD (·=b) w w':=by
 obtain ⟨ht,Q,he,Y⟩:=jA hm;obtain ⟨D,O,X,U⟩:=O;have I:=O.isMap;obtain ⟨w',hr,V,J⟩:=O.update (int_keyed Q) ht hn (keyOf_int_mk Q ha) (plainElem_bool (H:=Unit) he v);refine ⟨w',hr,⟨_,V,λu=>?_,λu=>?_⟩,⟨J.os,J.tape,J.output,J.size,λi hi hn=>J.block i hi λe=>hn (Vo e)⟩⟩
 . by_cases hu:u=a
   . subst hu;exact (atKey_put_same I (show WideAt.IsKeyLit (.i u) from trivial) _ _).trans (by simp)
   . exact ((atKey_put_other (λe=>hu (by injection e)) _ _).trans (X u)).trans (by simp [hu])
 . by_cases hu:u=a
   . subst hu;exact (has_put_same I (show WideAt.IsKeyLit (.i u) from trivial) _).trans (by simp)
   . exact ((has_put_other (λe=>hu (by injection e)) _).trans (U u)).trans (by simp [hu])
end Go.Fw
namespace Go.Proofs.YtbdghpjnifjlmaaGreat.W.Le
open Go Go.Fw Go.RowKit Go.SoP Go.LiP Go.LeP
open Go.Proofs.Tryz (prog)
section
variable {W0 w w' W u:World} {p q:sn} {n c m d ns b1 b2 b3 nb:Nat} {tr:List As} {l ld:List Int} {s h:Int->Bool}
def Gs (tr:List As) (ld:List Int) (lit x:Int):Bool:=x==lit||decide (lv tr x<=0)||decide (x∈ld)||pJ tr ld x
theorem Kz (ok:fC tr) {x:Int} (I:dy tr (am x)<tr.length):pJ tr ld x=(!(aX tr (dy tr (am x))).rs.isEmpty && (aX tr (dy tr (am x))).rs.all (Gs tr ld (aX tr (dy tr (am x))).lit)):=Iq ok I
def MP (tr:List As) (h:Int->Bool):Nat:=(List.range tr.length).countP λi=>h (am (aX tr i).lit)
theorem EF {L:List Nat} {f g:Nat->Bool} {i:Nat} (hi:i∈L) (J:f i=false) (h1:g i=true) (hm:∀j,f j=true->g j=true):L.countP f+1<=L.countP g:=by
 induction L with
 |nil=>simp at hi
 |cons a L ih=>
  rw [Vq,Vq];have O:L.countP f<=L.countP g:=Xa λj _=>hm j;by_cases e:i=a
  . subst e;rw [J,h1];simp;omega
  . have:=ih ((UI.1 hi).resolve_left e);have Q:(if f a=true then 1 else 0)<=(if g a=true then 1 else 0):=by
     by_cases I:f a=true
     . rw [if_pos I,if_pos (hm a I)];exact y4 _
     . rw [if_neg I];omega
    omega
structure Kn (W0 w:World) (ns:Nat) (p:sn) (n c:Nat) (tr:List As) (b1 b2 b3:Nat) (ld:List Int) (h:Int->Bool):Prop where
 S:AQ W0 w ns p n c tr b1 b2
 M:∃nb s,MS prog aq cC w b2 nb s/\∀x,s x=decide (x∈ld)
 K:∃nk s,MK prog aq cC w b3 nk s h/\nk<=MP tr h/\∀x,mw tr x->h (am x)=true->s (am x)=pJ tr ld x
 d1:b1≠b3
 d2:b2≠b3
 d3:ns≠b3
 f:W0.heap.size<=b3
theorem Kn.grow (k:Kn W0 w ns p n c tr b1 b2 b3 ld h) (m:ak w w'):Kn W0 w' ns p n c tr b1 b2 b3 ld h:=by
 obtain ⟨S,⟨nb,s,M,hs⟩,⟨J,I,K,O,hi⟩,d1,d2,d3,f⟩:=k;exact ⟨S.grow m,⟨nb,s,M.grow m,hs⟩,⟨J,I,K.grow m,O,hi⟩,d1,d2,d3,f⟩
theorem Kn.put (k:Kn W0 w ns p n c tr b1 b2 b3 ld h) {x:Int} (I:mw tr x) (V:h (am x)=false):
 ∃w',(Instr.mapUpdate rq (.map (some b3)) (.i (am x)) (.bool (pJ tr ld x))).run prog w=.ok () w'/\Kn W0 w' ns p n c tr b1 b2 b3 ld (λu=>if u=am x then true else h u)/\aD (·=b3) w w':=by
 obtain ⟨S,⟨nb,s,M,hs⟩,⟨Y,s2,K,hk,hi⟩,d1,d2,d3,f⟩:=k;have X:MP tr h<=tr.length:=by
  have:MP tr h<=(List.range tr.length).length:=VK;simpa using this
 have hl:=S.hl;obtain ⟨w',hr,Q,m'⟩:=K.put lK (by unfold maxLen;omega) (pY I.tI) (pJ tr ld x);refine ⟨w',hr,⟨S.keep m' (λb (e:b=b3)=>by omega) (λe=>d3 e) (λe=>d1 e),⟨nb,s,M.keep m' (λe=>d2 e),hs⟩,⟨Y+1,_,Q,?_,λy J O=>?_⟩,d1,d2,d3,f⟩,m'⟩
 . have e0:am (aX tr (dy tr (am x))).lit=am x:=qW I.lt;have:=EF (L:=List.range tr.length) (f:=λi=>h (am (aX tr i).lit)) (g:=λi=>if am (aX tr i).lit=am x then true else h (am (aX tr i).lit)) (i:=dy tr (am x)) (Vj.2 I.lt) (by show h (am (aX tr (dy tr (am x))).lit)=false;rw [e0];exact V) (by rw [if_pos e0]) λj U=>by
    show (if am (aX tr j).lit=am x then true else h (am (aX tr j).lit))=true;split
    . rfl
    . exact U
   have e1:MP tr h=(List.range tr.length).countP λi=>h (am (aX tr i).lit):=rfl;have Z:MP tr (λu=>if u=am x then true else h u)=(List.range tr.length).countP λi=>if am (aX tr i).lit=am x then true else h (am (aX tr i).lit):=rfl
   omega
 . by_cases e:am y=am x
   . rw [if_pos e,J.am I e]
   . rw [if_neg e] at O ⊢;exact hi y J O
structure Zs (W u:World) (o:Option Nat):Prop where
 g:ak W u
 z:∀nc,o=some nc->bT u nc #[.i 0,.i 0,.slice none 0 0]/\W.heap.size<=nc
theorem Zs.grow {o:Option Nat} (z:Zs W u o) {v:World} (g:ak u v):Zs W v o:=⟨z.g.trans g,λnc e=>⟨(z.z nc e).1.grow g,(z.z nc e).2⟩⟩
theorem Zs.new (z:Zs W u none) {nc:Nat} {v:World} (hn:jI (.cells #[.i 0,.i 0,.slice none 0 0] cE) u nc v):Zs W v (some nc):=by
 refine ⟨z.g.trans hn.mod,λk e=>?_⟩;obtain rfl:nc=k:=Vo e;have:=z.g.size;have:=hn.num;exact ⟨hn.has,by omega⟩
theorem Zs.store {nc:Nat} (z:Zs W u (some nc)) {a b:Int} {J:sn} {I sc:Nat} {K:World->Prop} (Q:∀v,bT v nc #[.i a,.i b,.slice J I sc]->ak W v->W.heap.size<=nc->K v):
 ∃v,bB (qw nc) 0 [.i a,.i b,.slice J I sc] u v/\K v:=by
 obtain ⟨H,hf⟩:=z.z nc rfl;exact bD H rfl rfl λv O m=>Q v O (aD.cW z.g m hf) hf
theorem Lc:∀ (n0:Nat) {w:World} {x:Int} {h:Int->Bool},Kn W0 w ns p n c tr b1 b2 b3 ld h->mw tr x->dy tr (am x)=n0->
 Calls prog gX.id #[.pointer (some ⟨ns,0,none⟩),.i x,.map (some b3)] w λe w'=>e=.returned (.bool (pJ tr ld x))/\∃h',Kn W0 w' ns p n c tr b1 b2 b3 ld h'/\(∀v,h v=true->h' v=true)/\(∀v,h' v=true->h v=true\/dy tr v<=n0)/\aD (·=b3) w w':=by
 intro n0
 induction n0 using Nat.strongRecOn with
 |_ n0 ih=>
 intro w x h k hB bx;subst bx;refine gX.aj ?_;have dT:=cJ hB.tI;refine (dx (by omega) (by omega) w).mono ?_;rintro e w1 ⟨rfl,g1⟩;have U:=k.grow g1;obtain ⟨nk,s,K,hk,hi⟩:=U.K;refine ⟨_,rfl,w1,_,_,K.cP lK (pY hB.tI),ah (λr=>?_) (λrK=>?_)⟩
 . refine ⟨?_,h,U,λv hv=>hv,λv hv=> .inl hv,g1.mono λ_ _ e=>e.elim⟩;rw [hi x hB r]
 have Y:=U.grow (aD.refl w1).drew;have G2:ak w w1.drew:=g1.trans (aD.refl w1).drew;clear K hk hi U;generalize w1.drew=W at Y G2;have hl:=Y.S.hl;have ok:=Y.S.ok;have Z0:Zs W W none:=⟨aD.refl _,λnc e=>by simp at e⟩
 have a8:∀ {u:World} {o:Option Nat} {Q:Ending->World->Prop},Zs W u o->(∀v,Zs W v o->Q (.returned (.i (am x))) v)->Calls prog cR.id #[.i x] u Q:=λ{u o Q} z hQ=>by
  refine (dx (by omega) (by omega) u).mono ?_;rintro e v ⟨rfl,g⟩;exact hQ v (z.grow g)
 have cP:∀ {u:World} {o:Option Nat},Zs W u o->(Instr.lookup dO (.map (some b1)) (.i (am x)) false).run prog u=.ok (.i (xQ tr (am x))) u:=λz=> (Y.S.M.grow z.g).cP lL (pY hB.tI);obtain ⟨aT,O,eT,cT,e1,e2,vT⟩:=Y.S.tv _ hB.lt;have uw:=Kz (ld:=ld) ok hB.lt;have bb:=λhr=>ok.fE hB.lt hr;have ix:∀ {P:Addr->Prop},(∀a,(∀ {u:World} {o:Option Nat},Zs W u o->aK u a 0 [.i (aX tr (dy tr (am x))).lit,.i (aX tr (dy tr (am x))).bI,.slice O.p O.n O.c])->P a)->aW p n (IntKind.i64.wrap (xQ tr (am x) - 1)) 3 P:=λhP=>by
  rw [oP hl hB.lt];have hn:=Y.S.hn;have bY:=hB.lt;refine ⟨aT,eT,by omega,by omega,hP _ λz=>?_⟩;rw [tn];exact aK.keep (Y.S.G.trans z.g) id cT
 generalize d7:(aX tr (dy tr (am x))).rs=rs at*
 generalize bY:(aX tr (dy tr (am x))).lit=J at*
 generalize cp:(aX tr (dy tr (am x))).bI=y0 at*
 refine ⟨λa v=>∃nc,a=⟨nc,0,none⟩/\bT v nc #[.i J,.i y0,.slice O.p O.n O.c]/\ak W v/\W.heap.size<=nc,⟨ak W,aD.refl _,_,rfl,_,_,_,λu X=>ae (Y.S.h.grow X) rfl,_,rfl,_,λu X=>ae (Y.S.h.grow X) rfl,?_⟩,?_⟩
 . have zn:∀ {u:World},ak W u->Zs W u none:=λX=>⟨X,λnc e=>by simp at e⟩
   have st:∀ {u:World} {nc:Nat},Zs W u (some nc)->∃v,bB (qw nc) 0 [.i J,.i y0,.slice O.p O.n O.c] u v/\∃av,(qw nc)=⟨av,0,none⟩/\bT v av #[.i J,.i y0,.slice O.p O.n O.c]/\ak W v/\W.heap.size<=av:=λz=>z.store λv H g hf=>⟨_,rfl,H,g,hf⟩
   refine ⟨a8 Z0 λv z=>⟨_,rfl,z.g,⟨v,_,cP z,z.g,ix λa ca=>⟨_,_,_,_,_,λu X=>ca (zn X),λnc v2 hn=>⟨(z.new hn).g,st (z.new hn)⟩⟩⟩,λnc v2 hn=>⟨(z.new hn).g,v2,_,cP (z.new hn),(z.new hn).g,ix λa ca=>⟨_,_,_,_,_,λu X=>ca (zn X),st (z.new hn)⟩⟩⟩,λnc v2 hn=>⟨(Z0.new hn).g,a8 (Z0.new hn) λv z=>⟨_,rfl,z.g,v,_,cP z,z.g,ix λa ca=>⟨_,_,_,_,_,λu X=>ca (zn X),st z⟩⟩⟩⟩
 rintro co v _ ⟨nc,rfl,H,G,hf⟩;obtain ⟨nk,s,K,_,_⟩:=Y.K;have lk:=K.lt;refine ⟨_,_,_,ae H rfl,_,_,_,ae H rfl,?_⟩;refine ⟨λis I u z=>∃ (t:Nat) (h1:Int->Bool),I=t/\t<=rs.length/\z=rs.length - t/\is=(!rs.isEmpty && (rs.take t).all (Gs tr ld J))/\Kn W0 u ns p n c tr b1 b2 b3 ld h1/\(∀v,h v=true->h1 v=true)/\(∀v,h1 v=true->h v=true\/dy tr v<dy tr (am x))/\bT u nc #[.i J,.i y0,.slice O.p O.n O.c]/\aD (·=b3) w u,
  ⟨_,0,h,rfl,vx _,rfl,?_,Y.grow G,λv hv=>hv,λv hv=> .inl hv,H,(G2.trans G).mono λ_ _ e=>e.elim⟩,?_⟩
 . rw [e1];cases rs<;>simp
 clear H G K;rintro is I ax z _ ⟨t,h1,rfl,ht,rfl,rfl,U,an,V,H,mm⟩;refine ah (λr=>?_) (λr=>?_)
 . have r:t<rs.length:=by simp at r;omega
   have bf:rs≠[]:=λe=>by rw [e] at r;simp at r
   obtain ⟨rl,rm,rb⟩:=bb bf;have b':rs.isEmpty=false:=X3.2 bf;rw [b'];have et:(rs.take (t+1)).all (Gs tr ld J)=((rs.take t).all (Gs tr ld J) && Gs tr ld J (rs.getD t 0)):=by
    have:rs[t]? =some (rs.getD t 0):=by simp [List.getD,r]
    rw [UR,this,Xv];simp
   refine (vT.grow U.S.G).ix 0 (by omega) e1 (by omega) λa e=>⟨_,e,?_⟩
   rw [tn];refine ⟨λv u=>u=ax/\v=((rs.take t).all (Gs tr ld J) && (rs.getD t 0 !=J)),?_,?_⟩
   . refine ah (λr2=>⟨_,ae H rfl,rfl,?_⟩) (λr2=>⟨rfl,?_⟩)
     . have r2:(rs.take t).all (Gs tr ld J)=true:=by simpa using r2
       rw [r2];rfl
     . have r2:(rs.take t).all (Gs tr ld J)=false:=by simpa using r2
       rw [r2];rfl
   rintro dk cc _ ⟨rfl,rfl⟩;refine ah (λr3=>?_) (λr3=>⟨_,?_,t+1,h1,wN,by omega,rfl,?_,U,an,V,H,mm⟩)
   . rw [ts] at r3;obtain ⟨r2,r3⟩:=r3;rw [r2] at et;have az:∀ {u:World},ak cc u->Gs tr ld J (rs.getD t 0)=true->∃ay,ay<rs.length - t/\∃ (t2:Nat) (h1:Int->Bool),IntKind.i64.wrap ((t:Int)+1)=t2/\t2<=rs.length/\ay=rs.length - t2/\true=(!false && (rs.take t2).all (Gs tr ld J))/\Kn W0 u ns p n c tr b1 b2 b3 ld h1/\(∀v,h v=true->h1 v=true)/\(∀v,h1 v=true->h v=true\/dy tr v<dy tr (am x))/\bT u nc #[.i J,.i y0,.slice O.p O.n O.c]/\aD (·=b3) w u:=λg hp=>
      ⟨_,by omega,t+1,h1,wN,by omega,rfl,by rw [et,hp];rfl,U.grow g,an,V,H.grow g,mm.grow g⟩
     have r3:rs.getD t 0≠J:=by simpa using r3
     obtain ⟨ap,a'⟩:=rb _ (bN r) r3;have dq:=Ib ok hl ap;refine (zo U.S ap).mono ?_;rintro e cg ⟨rfl,Z⟩;refine ⟨_,rfl,ah (λr4=>az Z (by unfold Gs;rw [decide_eq_true (show lv tr (rs.getD t 0)<=0 by have:=beq_iff_eq.1 r4;omega)];simp)) (λr4=>?_)⟩;have ar:=U.grow Z;obtain ⟨nb,s2,M2,bu⟩:=ar.M;have bc:=M2.cP lK (Gb ap.tI);rw [bu] at bc;refine ⟨_,rfl,_,ae ar.S.h rfl,cg,_,bc,ah (λr5=>az Z (by unfold Gs;rw [r5];simp)) (λr5=>?_)⟩;refine (ih _ a' ar ap rfl).mono ?_;rintro e du ⟨rfl,h2,b8,bv,cb,a7⟩;have dd:=G2.size;refine ⟨_,rfl,_,?_,t+1,h2,wN,by omega,rfl,?_,b8,λv hv=>bv v (an v hv),λv hv=>?_,(H.grow Z).keep a7 λ(e:nc=b3)=>by omega,(mm.grow Z).trans a7⟩
     . omega
     . rw [et];unfold Gs;rw [show (rs.getD t 0==J)=false by simpa using r3,decide_eq_false (show ¬lv tr (rs.getD t 0)<=0 by have:=beq_eq_false_iff_ne.1 r4;omega),r5];simp
     . rcases cb v hv with e|e
       . exact V v e
       . exact .inr (by omega)
   . omega
   . rw [et];cases e:(rs.take t).all (Gs tr ld J) with
     |false=>rfl
     |true=>
      rw [e] at r3;have r4:rs.getD t 0=J:=by simpa using r3
      rw [r4];unfold Gs;simp
 . have r:t=rs.length:=by simp at r;omega
   subst r;rw [K',<- uw];refine (dx (by omega) (by omega) ax).mono ?_;rintro e d9 ⟨rfl,a_⟩;have h0:h1 (am x)=false:=by
    cases e:h1 (am x) with
    |false=>rfl
    |true=>
     rcases V _ e with e|e
     . rw [rK] at e;simp at e
     . omega
   obtain ⟨ce,hr,b_,b6⟩:=(U.grow a_).put hB h0;refine ⟨_,rfl,ce,hr,rfl,_,b_,λv hv=>?_,λv hv=>?_,(mm.grow a_).trans b6⟩
   . show (if v=am x then true else h1 v)=true;split
     . rfl
     . exact an v hv
   . by_cases e:v=am x
     . right;rw [e];exact y4 _
     . have hv:(if v=am x then true else h1 v)=true:=hv;rw [if_neg e] at hv;rcases V v hv with e|e
       . exact .inl e
       . right;omega
end
section
variable {W0 w w' W u:World} {p q:sn} {n c m d ns b1 b2 b3 nb:Nat} {tr:List As} {l ld:List Int} {s h:Int->Bool}
theorem Kn.keep {S:Nat->Prop} (k:Kn W0 w ns p n c tr b1 b2 b3 ld h) (m:aD S w w') (J:∀b,S b->W0.heap.size<=b) (h1: ¬S ns) (I: ¬S b1) (Q: ¬S b2) (O: ¬S b3):Kn W0 w' ns p n c tr b1 b2 b3 ld h:=by
 obtain ⟨S,⟨nb,s,M,hs⟩,⟨V,U,K,X,hi⟩,d1,d2,d3,f⟩:=k;exact ⟨S.keep m J h1 I,⟨nb,s,M.keep m Q,hs⟩,⟨V,U,K.keep m O,X,hi⟩,d1,d2,d3,f⟩
def sh (tr:List As) (ld:List Int):List Int->List Int
 | []=> []
 |x::t=>x::t.filter λy=>decide (0<lv tr y) && !pJ tr ld y
theorem Rv:sh tr ld ld=shr tr ld:=by cases ld<;>rfl
theorem Ob {k:List Int} {t:Nat} (h:t<k.length):sh tr ld (k.take (t+1))=sh tr ld (k.take t)++ (if t=0\/(decide (0<lv tr (k.getD t 0)) && !pJ tr ld (k.getD t 0))=true then [k.getD t 0] else []):=by
 cases k with
 |nil=>simp at h
 |cons x k=>
  cases t with
  |zero=>simp [sh]
  |succ t=>
   have J:t<k.length:=by simpa using h
   have e:(x::k).getD (t+1) 0=k.getD t 0:=by simp
   rw [e,Xo,Xo];show x::_=(x::_)++_;rw [pd J,WN];congr 2;by_cases I:(decide (0<lv tr (k.getD t 0)) && !pJ tr ld (k.getD t 0))=true
   . rw [if_pos I,if_pos (.inr I)]
   . rw [if_neg I,if_neg (by rintro (e|e);omega;exact I e)]
theorem Rp (k:List Int):(sh tr ld k).length<=k.length:=by
 cases k with
 |nil=>exact y4 _
 |cons x t=>simp [sh];exact Vs _ _
def Qw (w J:World) (U:Nat) (p:sn) (n c:Nat) (tr:List As) (b Q O:Nat) (ld:List Int) (P:sn) (N C:Nat) (I:Int) (u:World) (z:Nat):Prop:=
 ∃ (t:Nat) (h:Int->Bool),I=t/\t<=ld.length/\z=ld.length - t/\N=(sh tr ld (ld.take t)).length/\dz aq u P C (sh tr ld (ld.take t))/\(∀b,aG P=some b->J.heap.size<=b)/\Kn w u U p n c tr b Q O ld h/\J.heap.size<=u.heap.size
theorem xM (h:TV w p tr) (hn:n=tr.length) (ar:rJ tr=true) (hq:Vw sT w q ld) (hk:m=ld.length) (hx:m<=100000) (hb:∀x∈ld,mw tr x):
 Calls prog jZ.id #[.slice p n c,.slice q m d] w λe w'=>∃ (q2:sn) (d2:Nat),e=.returned (.slice q2 (shr tr ld).length d2)/\dz aq w' q2 d2 (shr tr ld)/\ak w w'/\∀b,aG q2=some b->w.heap.size<=b:=by
 refine jZ.aj ?_;obtain ⟨ok,hl⟩:=q_ ar;refine (vE h hn).mono ?_;rintro e w1 ⟨rfl,g1⟩;refine ⟨_,rfl,bA (by rw [ar];rfl) ?_⟩;refine (wW (h.grow g1) hn ok hl (hq.grow g1) hk (by unfold maxLen;omega) λx hx=> (hb x hx).tI).mono ?_;rintro e w5 ⟨rfl,g5⟩;refine ⟨_,rfl,bA (by rw [nB.2 hb];rfl) ?_⟩;have G5:=g1.trans g5;refine (qg (h.grow G5) hn ok hl).mono ?_;rintro e w9 ⟨b,rfl,M9,g9,fb⟩;refine ⟨_,rfl,λJ c1 aa Q bb X=>?_⟩;have dq:=aa.num;have c2:=X.num;have s5:=G5.size;have s9:=g9.size;have d4:=aa.size;have d7:=X.size;have lb:=M9.lt;have b5:AQ w bb Q p n c tr b J:=⟨h,hn,ok,hl,((G5.trans g9).trans aa.mod).trans X.mod,X.has,(M9.grow aa.mod).grow X.mod,by omega,by omega,by omega⟩
 have bv:MS prog aq cC bb J 0 λ_=>false:=(MS.new aa).grow X.mod;refine (sb b5 bv hq hk (by omega) (λx hx=> (hb x hx).tI) 0).mono ?_;rintro e d6 ⟨rfl,an,bc,bn,_,a8,bf⟩;refine ⟨rfl,λU V ac=>?_⟩;have cT:=ac.num;have dh:=ac.size;have dd:=a8.lt;have cb:=an.M.lt;have cm:=an.h.lt;have sG:=an.G.size;have bY:Kn w V Q p n c tr b J U ld λ_=>false:=by
  refine ⟨an.grow ac.mod,⟨bc,bn,a8.grow ac.mod,λx=>?_⟩,⟨0,_,MK.new ac,vx _,λx _ e=>by simp at e⟩,by omega,by omega,by omega,by omega⟩;rw [bf x,Xr];refine decide_eq_decide.2 ⟨λh=>h.1,λh=>⟨h,λe=>?_⟩⟩;have:=cJ (hb x h).tI;exact this.1 e
 refine ⟨Qw w V Q p n c tr b J U ld,⟨_,0,_,rfl,vx _,rfl,rfl,Ow.nil _ _ _,λb hb=>by simp [aG] at hb,bY,y4 _⟩,?_⟩;rintro P N C I dp z _ ⟨t,hh,rfl,ht,rfl,rfl,O,fr,K,bu⟩;refine ah (λr=>?_) (λr=>?_)
 . have r:t<ld.length:=by simp at r;omega
   have hlen:=Rp (tr:=tr) (ld:=ld) (ld.take t);have c7:=List.length_take_le t ld;refine (hq.grow K.S.G).ix 0 (by omega) hk (by omega) λa e=>⟨_,e,?_⟩
   rw [tn];have hB:=hb _ (bN r);have es:=Ob (tr:=tr) (ld:=ld) r;have cg:=K.S.h.lt;have mA:∀ {u:World} {hh:Int->Bool},dz aq u P C (sh tr ld (ld.take t))->Kn w u Q p n c tr b J U ld hh->V.heap.size<=u.heap.size->(t=0\/(decide (0<lv tr (ld.getD t 0)) && !pJ tr ld (ld.getD t 0))=true)->∀n26 az,jI (.cells #[.i (ld.getD t 0)] 3) u n26 az->
    ∃ay av ap ax,(Builtin.append_ #[aE,aE] aE #[.slice P (sh tr ld (ld.take t)).length C,.slice (some (qw n26)) 1 1]).run prog az=.ok (.slice av ap ax) ay/\
    ∃ag,ag<ld.length - t/\Qw w V Q p n c tr b J U ld av ap ax (IntKind.i64.wrap ((t:Int)+ (1:Int))) ay ag:=by
    intro u hh O K zu hc n26 az Z;rw [if_pos hc] at es;have dk:=Z.num;have c0:=Z.size;refine (O.grow Z.mod).lP c9 _ Z.has rfl rfl fz (by omega) λay p' c' o' m' b6 dT=>?_;refine ⟨_,?_,t+1,hh,wN,by omega,rfl,by rw [es,UH];rfl,by rw [es];exact o',λb hb=>?_,(K.grow Z.mod).keep m' (λb e=>?_) (λe=>?_) (λe=>?_) (λe=>?_) (λe=>?_),by omega⟩
    . omega
    . rcases b6 with rfl|rfl
      . exact fr b hb
      . have:=aL hb;omega
    all_goals
     have:=fr _ e;omega
   have skip:∀ {u:World} {hh:Int->Bool},dz aq u P C (sh tr ld (ld.take t))->Kn w u Q p n c tr b J U ld hh->V.heap.size<=u.heap.size->¬(t=0\/(decide (0<lv tr (ld.getD t 0)) && !pJ tr ld (ld.getD t 0))=true)->
    ∃ag,ag<ld.length - t/\Qw w V Q p n c tr b J U ld P (sh tr ld (ld.take t)).length C (IntKind.i64.wrap ((t:Int)+ (1:Int))) u ag:=by
    intro u hh O K zu hc;rw [if_neg hc,VF] at es;exact ⟨_,by omega,t+1,hh,wN,by omega,rfl,by rw [es],by rw [es];exact O,fr,K,zu⟩
   refine ah (λr2=>mA O K bu (.inl (by simp at r2;omega))) (λr2=>?_);have r2:t≠0:=by intro e;subst e;simp at r2
   refine (zo K.S hB).mono ?_;rintro e co ⟨rfl,Y⟩;have du:=Y.size;refine ⟨_,rfl,ah (λr3=>?_) (λr3=>skip (O.grow Y) (K.grow Y) (by omega) λe=>by rcases e with e|e;exact r2 e;rw [ts] at e;rw [e.1] at r3;simp at r3)⟩;refine (Lc _ (K.grow Y) hB rfl).mono ?_;rintro e d5 ⟨rfl,h2,a7,_,_,a'⟩;have cp:=a'.size;have a_:=(O.grow Y).keep a' λb hb (e:b=U)=>by have:=fr b hb;omega
   refine ⟨_,rfl,ah (λr4=>mA a_ a7 (by omega) (.inr ?_)) (λr4=>skip a_ a7 (by omega) λe=>?_)⟩
   . rw [ts];exact ⟨r3,r4⟩
   . rcases e with e|e
     . exact r2 e
     . rw [ts] at e;rw [e.2] at r4;simp at r4
 . have r:t=ld.length:=by simp at r;omega
   subst r;rw [K',Rv] at O ⊢;exact ⟨_,_,rfl,O,K.S.G,λb hb=>by have:=fr b hb;omega⟩
theorem OI {k:List Int} {t:Nat} (h:t<k.length):imax (pG tr (k.take t)) (lv tr (k.getD t 0))=pG tr (k.take (t+1)):=by
 rw [MJ h];rfl
theorem CD (h:TV w p tr) (hn:n=tr.length) (J:rJ tr=true) (hq:Vw sT w q ld) (hk:m=ld.length) (hx:m<=100000) (hd:m<=d) (hb:∀x∈ld,mw tr x):
 Calls prog oK.id #[.slice p n c,.slice q m d] w λe w'=>e=.returned (.i (if ld.isEmpty then -1 else pG tr (ld.drop 1)))/\ak w w':=by
 refine oK.aj ?_;obtain ⟨ok,hl⟩:=q_ J;refine (vE h hn).mono ?_;rintro e w1 ⟨rfl,V⟩;refine ⟨_,rfl,bA (by rw [J];rfl) (ah (λr=>?_) (λr=>?_))⟩
 . have:ld= []:=UF (by simp at r;omega);subst this;exact ⟨rfl,V⟩
 have Q:0<ld.length:=by
  rcases UZ ld.length with e|e
  . rw [hk,e] at r;simp at r
  . exact e
 refine (wW (h.grow V) hn ok hl (hq.grow V) hk (by unfold maxLen;omega) λx hx=> (hb x hx).tI).mono ?_;rintro e w3 ⟨rfl,g3⟩;refine ⟨_,rfl,bA (by rw [nB.2 hb];rfl) ?_⟩;have G3:=V.trans g3;refine (qg (h.grow G3) hn ok hl).mono ?_;rintro e w5 ⟨b,rfl,M5,g5,fb⟩;refine ⟨_,rfl,eh 1 m d rfl rfl rfl (y4 _) hd (by omega) ?_⟩;have Y:ld.isEmpty=false:=by cases ld<;>simp at Q ⊢
 rw [Y];have G5:=G3.trans g5;have X:(ld.drop 1).length=m - 1:=by rw [U0];omega
 have V5:Vw sT w5 (if d=1 then q else q.map (·.add (1*1))) (ld.drop 1):=by
  by_cases e:d=1
  . have:ld.drop 1= []:=UF (by omega);rw [this];exact Vw.nil
  . rw [if_neg e];have:=(hq.grow G5).part (i:=1) (m:=m - 1) (by omega)
    rwa [UM (by omega)] at this
 refine ⟨λL I u z=>∃t:Nat,I=t/\t<=(ld.drop 1).length/\z=(ld.drop 1).length - t/\L=pG tr ((ld.drop 1).take t)/\ak w5 u,⟨_,0,rfl,vx _,rfl,rfl,aD.refl _⟩,?_⟩;rintro L I ac z _ ⟨t,rfl,ht,rfl,rfl,G⟩;refine ah (λr=>?_) (λr=>?_)
 . have r:t< (ld.drop 1).length:=by simp at r ⊢;omega
   refine (V5.grow G).ix 0 (by omega) X.symm (by omega) λa e=>⟨_,e,?_⟩
   rw [tn];have U:=hb _ (Xh (bN r));have aw:=cJ U.tI;refine (dx (by omega) (by omega) ac).mono ?_;rintro e Z ⟨rfl,O⟩;refine ⟨_,rfl,Z,_,(M5.grow (G.trans O)).cP lL (pY U.tI),?_⟩;rw [oP hl U.lt];refine (h.grow ((G5.trans G).trans O)).ix hn _ rfl U.lt λa x C e1 e2 v=>⟨_,C.2.1,_,?_,t+1,wN,by omega,rfl,?_,G.trans O⟩
   . omega
   . exact OI r
 . have r:t=(ld.drop 1).length:=by simp at r ht ⊢;omega
   subst r;rw [K'];exact ⟨rfl,G5.trans G⟩
theorem yQ (h:TV w p tr) (hn:n=tr.length) (O:rJ tr=true) (hq:Vw sT w q ld) (hk:m=ld.length) (hx:m<=100000) (hb:∀x∈ld,mw tr x):
 Calls prog lh.id #[.slice p n c,.slice q m d] w λe w'=>∃v:Int,e=.returned (.i v)/\(0<=v/\v<=m)/\ak w w':=by
 refine lh.aj ?_;obtain ⟨ok,hl⟩:=q_ O;refine (vE h hn).mono ?_;rintro e w1 ⟨rfl,g1⟩;refine ⟨_,rfl,bA (by rw [O];rfl) ?_⟩;refine (qg (h.grow g1) hn ok hl).mono ?_;rintro e w3 ⟨b,rfl,M3,g3,fb⟩;refine ⟨_,rfl,λn5 w6 X=>?_⟩;have s1:=g1.size;have s3:=g3.size;have e5:=X.num;have lb:=M3.lt;refine ⟨λI u z=>∃ (t nb:Nat) (s:Int->Bool),I=t/\t<=ld.length/\z=ld.length - t/\nb<=t/\MS prog aq cC u n5 nb s/\MI prog aq aq u b tr.length (xQ tr)/\ak w u,⟨_,0,0,_,rfl,vx _,rfl,y4 _,MS.new X,M3.grow X.mod,(g1.trans g3).trans X.mod⟩,?_⟩;rintro I Z z _ ⟨t,nb,s,rfl,ht,rfl,ay,M,Y,G⟩;refine ah (λr=>?_) (λr=>?_)
 . have r:t<ld.length:=by simp at r;omega
   refine (hq.grow G).ix 0 (by omega) hk (by omega) λa e=>⟨_,e,?_⟩
   rw [tn];have U:=hb _ (bN r);have ax:=cJ U.tI;refine (dx (by omega) (by omega) Z).mono ?_;rintro e an ⟨rfl,J⟩;have V:=Ib ok hl U;refine ⟨_,rfl,an,_,(Y.grow J).cP lL (pY U.tI),ah (λr2=>?_) (λr2=>?_)⟩
   . rw [oP hl U.lt];refine (h.grow (G.trans J)).ix hn _ rfl U.lt λa x C e1 e2 v=>⟨_,C.2.1,?_⟩
     obtain ⟨ac,hr,aa,Q⟩:=(M.grow J).put lK (by unfold maxLen;omega) (a:=(aX tr (dy tr (am (ld.getD t 0)))).bI) (A9 (by unfold lv at V;omega) (by unfold lv at V;omega));refine ⟨ac,hr,_,?_,t+1,nb+1,_,wN,by omega,rfl,by omega,aa,(Y.grow J).keep Q λ(e:b=n5)=>by omega,aD.cW (G.trans J) Q (by omega)⟩;omega
   . exact ⟨_,by omega,t+1,nb,s,wN,by omega,rfl,by omega,M.grow J,Y.grow J,G.trans J⟩
 . have r:t=ld.length:=by simp at r;omega
   obtain ⟨c',az,hr⟩:=M.len lK 3;exact ⟨_,hr,_,rfl,⟨by omega,by omega⟩,G⟩
end
end Go.Proofs.YtbdghpjnifjlmaaGreat.W.Le
namespace Go.RedP
open Go.SoP
abbrev Lr:=Int × Int × Bool
def aX (l:List Lr) (x:Int):Lr:=l.getD x.toNat (0,0,false)
def Fq (x:Lr):Bool:=decide (0<=x.2.1/\x.2.1<=4096/\0<=x.1/\x.1<=x.2.1)
def gF (x:Lr):Bool:=x.2.2||decide (x.1<=2)
def B9 (l:List Lr) (a b:Int):Int:=
 if (aX l a).1≠(aX l b).1 then (aX l a).1 - (aX l b).1 else if (aX l a).2.1≠(aX l b).2.1 then (aX l a).2.1 - (aX l b).2.1 else b - a
def wT (l:List Lr) (a b:Int):Bool:=
 if (aX l a).1≠(aX l b).1 then decide ((aX l a).1< (aX l b).1) else if (aX l a).2.1≠(aX l b).2.1 then decide ((aX l a).2.1< (aX l b).2.1) else decide (a>b)
theorem Bo (l:List Lr) (a b:Int):wT l a b=decide (B9 l a b<0):=by
 unfold wT B9;split
 . exact decide_eq_decide.2 (by omega)
 . split
   . exact decide_eq_decide.2 (by omega)
   . exact decide_eq_decide.2 (by omega)
theorem CH (l:List Lr):Ord (B9 l):=by
 constructor
 . intro x y h;unfold B9 at*
   split at h<;>split<;> (try split at h)<;> (try split)<;>omega
 . intro x y z h1 I;unfold Le B9 at*
   generalize aX l x=a at*
   generalize aX l y=b at*
   generalize aX l z=d at*
   split at h1<;>split at I<;>split<;> (try split at h1)<;> (try split at I)<;> (try split)<;>omega
theorem R2 {l:List Lr} {a b:Int} (h:Le (B9 l) a b) (I:a≠b):B9 l a b<0:=by
 unfold Le B9 at h;unfold B9;split at h<;>split<;> (try split at h)<;> (try split)<;>omega
def tW (n:Nat):List Int:=(List.range n).map Int.ofNat
theorem nD (n:Nat):(tW n).length=n:=by simp [tW]
theorem yi {n:Nat} {x:Int}:x∈tW n↔0<=x/\x<n:=by
 simp only [tW,L0,Vj];constructor
 . rintro ⟨i,h,rfl⟩;exact ⟨Int.natCast_nonneg i,by simpa using h⟩
 . intro h;exact ⟨x.toNat,by omega,by show ((x.toNat:Nat):Int)=x;omega⟩
theorem Jz (n:Nat):(tW n).Nodup:=by
 unfold tW;exact List.Pairwise.map _ (λa b h e=>h (Int.ofNat.inj e)) List.nodup_range
def K7 (l:List Lr) (x:Int) (all:Bool):Nat:=(tW l.length).countP λi=>i !=x && (all|| !gF (aX l i)) && wT l i x
def jM (l:List Lr):Nat:=(tW l.length).countP λi=> !gF (aX l i)
def keep (l:List Lr) (x:Int):Bool:=gF (aX l x)||decide (K7 l x false<jM l / 2)
def ni (l:List Lr) (o:List Int) (t:Nat):Nat:=(o.take t).countP λi=> !gF (aX l i)
structure Co (l:List Lr) (o:List Int):Prop where
 pm:o.Perm (tW l.length)
 so:vp (B9 l) o 0 o.length
theorem Co.len {l:List Lr} {o:List Int} (h:Co l o):o.length=l.length:=by rw [h.pm.length_eq,nD]
theorem Co.nd {l:List Lr} {o:List Int} (h:Co l o):o.Nodup:=h.pm.nodup_iff.2 (Jz _)
theorem Co.UA {l:List Lr} {o:List Int} (h:Co l o) {t:Nat} (ht:t<o.length):0<=o.getD t 0/\o.getD t 0<l.length:=by
 have:o.getD t 0∈o:=by simp [List.getD,ht]
 exact yi.1 (h.pm.mem_iff.1 this)
theorem vk {o:List Int} (h:o.Nodup) {i j:Nat} (hi:i<o.length) (I:j<o.length) (e:o.getD i 0=o.getD j 0):i=j:=by
 simp only [List.getD,Mb hi,Mb I,US] at e;exact (V9 h).1 e
theorem Co.find {l:List Lr} {o:List Int} (h:Co l o) {x:Int} (I:0<=x) (h1:x<l.length):∃t,t<o.length/\o.getD t 0=x:=by
 have:x∈o:=h.pm.mem_iff.2 (yi.2 ⟨I,h1⟩);obtain ⟨t,ht,e⟩:=I'.1 this;exact ⟨t,ht,by simp [List.getD,ht,e]⟩
theorem Co.lt {l:List Lr} {o:List Int} (h:Co l o) {i j:Nat} (I:i<j) (J:j<o.length):wT l (o.getD i 0) (o.getD j 0)=true/\wT l (o.getD j 0) (o.getD i 0)=false:=by
 have hs:=h.so i j (vx _) I J;rw [Bo,Bo];refine ⟨decide_eq_true (R2 hs λe=>?_),decide_eq_false hs⟩;have:=vk h.nd (by omega) J e;omega
theorem yy {o:List Int} {i:Nat} (hi:i<o.length):o[i]=o.getD i 0:=by simp [List.getD,hi]
theorem Co.K7 {l:List Lr} {o:List Int} (h:Co l o) {t:Nat} (ht:t<o.length) (all:Bool):
 K7 l (o.getD t 0) all=(o.take t).countP λi=>all|| !gF (aX l i):=by
 unfold RedP.K7;rw [<- h.pm.countP_eq];have U:∀q:Int->Bool,o.countP q=(o.take t).countP q+ (o.drop t).countP q:=λq=>by rw [<- VY,Vi]
 rw [U];have Q:(o.drop t).countP (λi=>i !=o.getD t 0 && (all|| !gF (aX l i)) && wT l i (o.getD t 0))=0:=by
  rw [WD];intro x O;obtain ⟨j,J,rfl⟩:=I'.1 O;rw [XC,yy];rw [U0] at J;rcases UZ j with e|e
  . subst e;simp
  . rw [(h.lt (i:=t) (j:=t+j) (by omega) (by omega)).2];simp
 rw [Q,Ws];refine List.countP_congr λx O=>?_;obtain ⟨j,J,rfl⟩:=I'.1 O;rw [GD] at J;rw [Wh,yy];have I:o.getD j 0≠o.getD t 0:=λe=>by have:=vk h.nd (by omega) ht e;omega
 rw [(h.lt (i:=j) (j:=t) (by omega) ht).1,show (o.getD j 0 !=o.getD t 0)=true from bne_iff_ne.2 I];simp
theorem Co.keep {l:List Lr} {o:List Int} (h:Co l o) {t:Nat} (ht:t<o.length):keep l (o.getD t 0)=(gF (aX l (o.getD t 0))||decide (ni l o t<jM l / 2)):=by
 unfold RedP.keep;rw [h.K7 ht false];simp only [Xr];rfl
theorem EY {l:List Lr} {o:List Int} {t:Nat} (ht:t<o.length):ni l o (t+1)=ni l o t+ (if gF (aX l (o.getD t 0)) then 0 else 1):=by
 unfold ni;rw [UR,VY];have:o[t]? =some (o.getD t 0):=by simp [List.getD,ht]
 rw [this];simp only [Wq,Vq,Yc];cases gF (aX l (o.getD t 0))<;>simp
theorem Co.Ox {l:List Lr} {o:List Int} (h:Co l o):ni l o o.length=jM l:=by
 unfold ni jM;rw [K',h.pm.countP_eq]
theorem Co.SC {l:List Lr} {o:List Int} (h:Co l o):(tW l.length).countP (λx=> !gF (aX l x) && RedP.keep l x)=jM l / 2:=by
 rw [<- h.pm.countP_eq];have H:∀t,t<=o.length->(o.take t).countP (λx=> !gF (aX l x) && RedP.keep l x)=min (jM l / 2) (ni l o t):=by
  intro t
  induction t with
  |zero=>intro _;simp [ni]
  |succ t J=>
   intro ht;have I:t<o.length:=by omega
   rw [UR,VY,J (by omega),EY I];have:o[t]? =some (o.getD t 0):=by simp [List.getD,I]
   rw [this];simp only [Wq,Vq,Yc,h.keep I];cases gF (aX l (o.getD t 0))
   . by_cases e:ni l o t<jM l / 2
     . simp [e];omega
     . simp [e];omega
   . simp
 have:=H o.length (y4 _);rw [K',h.Ox] at this;rw [this];omega
theorem ML (l:List Lr) (a b:Int):Le (B9 l) a b\/Le (B9 l) b a:=by
 by_cases h:B9 l b a<0
 . exact .inr ((CH l).OA h)
 . exact .inl h
theorem Rq (l:List Lr):∃o,Co l o:=by
 refine ⟨(tW l.length).mergeSort (λa b=>decide (¬B9 l b a<0)),List.mergeSort_perm _ _,?_⟩;have hp:=List.pairwise_mergeSort (le:=λa b=>decide (¬B9 l b a<0)) (λa b c h1 J=>by simp only [decide_eq_true_eq] at h1 J ⊢;exact (CH l).trans h1 J)
  (λa b=>by rcases ML l a b with h|h<;>simp [Le] at h ⊢ <;>omega) (tW l.length)
 intro i j _ I O;have:=U2.1 hp i j (by omega) O I;rw [yy,yy] at this;simp only [decide_eq_true_eq] at this;exact this
end Go.RedP
namespace Go.Proofs.YtbdghpjnifjlmaaGreat.W.Re
open Go Go.Fw Go.RowKit Go.SoP Go.RedP
open Go.Proofs.Tryz (prog)
section
abbrev Kb (x:Lr):List Value:= [.i x.1,.i x.2.1,.bool x.2.2]
theorem Up:GV 3 Kb:=⟨λ_=>rfl,by decide,λx v hv=>by simp [Kb] at hv;rcases hv with rfl|rfl|rfl<;>rfl⟩
theorem c9:nE prog aE aq 8=true:=by kernel_rfl
theorem N4:nE prog FZ cC 1=true:=by kernel_rfl
theorem jx:(Tryz.prog.info? aq).bind (·.zero)=some (.i 0):=by kernel_rfl
theorem Jy:(Tryz.prog.info? cC).bind (·.zero)=some (.bool false):=by kernel_rfl
variable {w:World} {p:sn} {n c:Nat} {l:List Lr}
theorem NN (h:Vr 3 Kb w p l) (hn:n=l.length) {X:Int} {x:Int} (e:X=x) (J:0<=x) (h1:x<l.length) {K:Addr->Prop}
 (I:∀a,aK w a 0 (Kb (aX l x))->K a):aW p n X 3 K:=by
 subst e;exact h.ix (0,0,false) J hn (by omega) I
theorem rW {a:Addr} {x:Lr} (h:aK w a 0 (Kb x)):w.cell? (a.add 0)=some (.i x.1)/\w.cell? (a.add 1)=some (.i x.2.1)/\w.cell? (a.add 2)=some (.bool x.2.2):=⟨h.1,h.2.1,h.2.2.1⟩
theorem OB (x:Lr) (w:World):Calls prog mR.id #[.agg #[.i x.1,.i x.2.1,.bool x.2.2]] w λe w'=>e=.returned (.bool (gF x))/\ak w w':=by
 refine mR.aj ?_;intro I w2 h1;refine ⟨_,ae h1.has rfl,ah (λq=>⟨?_,h1.mod⟩) (λq=>⟨_,ae h1.has rfl,?_,h1.mod⟩)⟩
 . unfold gF;rw [q];rfl
 . unfold gF;rw [q];rfl
theorem K_ {f:Lr->Bool} {t:Nat} (h:(l.take t).all f=true) (ht:t<l.length) (I:f (aX l t)=true):(l.take (t+1)).all f=true:=by
 rw [UR,Xv,h];have:l[t]? =some (aX l t):=by simp [aX,List.getD,ht]
 rw [this];simpa using I
theorem Oz {f:Lr->Bool} {t:Nat} (ht:t<l.length) (I:f (aX l t)=false):l.all f=false:=by
 cases h:l.all f with
 |false=>rfl
 |true=>
  have:=UK.1 h (aX l t) (by simp [aX,List.getD,ht]);rw [I] at this;cases this
theorem xG (h:Vr 3 Kb w p l) (hn:n=l.length) (hm:n<=maxLen):Calls prog kP.id #[.slice p n c] w λe w'=>e=.returned (.i (if l.all Fq then 0 else 1))/\ak w w':=by
 refine kP.aj ?_;unfold maxLen at hm;refine ⟨λI w' k=>∃t:Nat,I=t/\t<=l.length/\k=l.length - t/\(l.take t).all Fq=true/\ak w w',⟨_,0,rfl,vx _,rfl,rfl,aD.refl w⟩,?_⟩;rintro I w1 k _ ⟨t,rfl,ht,rfl,ha,G⟩;refine ah (λq=>?_) (λq=>⟨?_,G⟩)
 . have q:t<l.length:=by simp at q;omega
   have H:=h.grow G;refine NN H hn (x:=t) rfl (by omega) (by omega) λa C=>⟨_,_,_,C,?_⟩
   intro U w2 O;refine bD O.has rfl rfl λw3 J m3=>?_;have Q:ak w w3:=G.trans (O.mod.cW m3 (by have:=O.num;omega));have J:bT w3 U #[.i (aX l t).1,.i (aX l t).2.1,.bool (aX l t).2.2]:=J;have pI:Fq (aX l t)=false->(Ending.returned (.i 1)=.returned (.i (if l.all Fq then 0 else 1))/\ak w w3):=λhb=>by rw [Oz q hb];exact ⟨rfl,Q⟩
   unfold Fq at pI;refine ⟨_,ae J rfl,ah (λs=>pI (by simp at s;simp;omega)) (λY=>?_)⟩;refine ⟨_,ae J rfl,ah (λs=>pI (by simp at s;simp;omega)) (λZ=>?_)⟩;refine ⟨_,ae J rfl,ah (λs=>pI (by simp at s;simp;omega)) (λX=>?_)⟩;refine ⟨_,ae J rfl,_,ae J rfl,ah (λs=>pI (by simp at s;simp;omega)) (λV=>?_)⟩;refine ⟨_,?_,t+1,?_,by omega,rfl,K_ ha q ?_,Q⟩
   . omega
   . rw [aA (by omega) (by omega)];omega
   . unfold Fq;simp only [decide_eq_false_iff_not] at Y Z X V;exact decide_eq_true (by omega)
 . have:t=l.length:=by simp at q;omega
   subst this;rw [K'] at ha;rw [ha];rfl
theorem Lo (hl:l.all Fq=true) {x:Int} (I:0<=x/\x<l.length):0<=(aX l x).2.1/\(aX l x).2.1<=4096/\0<=(aX l x).1/\(aX l x).1<=(aX l x).2.1:=by
 have:=UK.1 hl (aX l x) (by simp [aX,List.getD,show x.toNat<l.length by omega]);unfold Fq at this;exact of_decide_eq_true this
theorem SK (h:Vr 3 Kb w p l) (hl:0<l.length):∀b,aG p=some b->b<w.heap.size:=by
 intro b hb;obtain ⟨a,rfl,C⟩:=h 0 hl;have:=World.block_lt_of_cell? w _ C.1;rw [cV,cV] at this;simp [aG] at hb;omega
theorem Ji (h:Vr 3 Kb w p l) (hn:n=l.length) (hm:n<=maxLen) (hl:l.all Fq=true) {nb:Nat} (hb:bT w nb #[.slice p n c]) {x y:Int} (J:0<=x/\x<l.length) (I:0<=y/\y<l.length):
 Calls prog eY.id #[.i x,.i y,.pointer (some ⟨nb,0,none⟩)] w λe w'=>e=.returned (.i (B9 l x y))/\xu w w':=by
 refine eY.aj ?_;unfold maxLen at hm;have G:xu w w.drew:=(xu.refl w).drew;have Q:=Lo hl J;have U:=Lo hl I;refine ⟨_,_,_,aV hb.drew rfl,NN h.drew hn rfl J.1 J.2 λa C=>⟨_,(rW C).1,_,_,_,aV hb.drew rfl,NN h.drew hn rfl I.1 I.2 λa D=>⟨_,(rW D).1,ah (λq=>?_) (λq=>?_)⟩⟩⟩
 . have q:(aX l x).1≠(aX l y).1:=by simpa using q
   refine ⟨_,_,_,aV hb.drew.drew rfl,NN h.drew.drew hn rfl J.1 J.2 λa C=>⟨_,(rW C).1,_,_,_,aV hb.drew.drew rfl,NN h.drew.drew hn rfl I.1 I.2 λa D=>⟨_,(rW D).1,?_,G.drew⟩⟩⟩;unfold B9;rw [if_pos q,aA (by omega) (by omega)]
 . have q: ¬(aX l x).1≠(aX l y).1:=by simpa using q
   refine ⟨_,_,_,aV hb.drew.drew rfl,NN h.drew.drew hn rfl J.1 J.2 λa C=>⟨_,(rW C).2.1,_,_,_,aV hb.drew.drew rfl,NN h.drew.drew hn rfl I.1 I.2 λa D=>⟨_,(rW D).2.1,ah (λO=>?_) (λO=>⟨?_,G.drew⟩)⟩⟩⟩
   . have O:(aX l x).2.1≠(aX l y).2.1:=by simpa using O
     refine ⟨_,_,_,aV hb.drew.drew.drew rfl,NN h.drew.drew.drew hn rfl J.1 J.2 λa C=>⟨_,(rW C).2.1,_,_,_,aV hb.drew.drew.drew rfl,NN h.drew.drew.drew hn rfl I.1 I.2 λa D=>⟨_,(rW D).2.1,?_,G.drew.drew⟩⟩⟩;unfold B9;rw [if_neg q,if_pos O,aA (by omega) (by omega)]
   . have O: ¬(aX l x).2.1≠(aX l y).2.1:=by simpa using O
     unfold B9;rw [if_neg q,if_neg O,aA (by omega) (by omega)]
theorem FO:gH prog eY.id=true:=by kernel_rfl
theorem Q_ (u v z:Value):(#[]++ #[u,v]++ #[z]:Array Value)= #[u,v,z]:=by simp
def Df (t m:Nat):List Int:=(List.range t).map Int.ofNat++List.replicate (m - t) 0
theorem M_ {t m:Nat} (h:t<=m):(Df t m).length=m:=by simp [Df];omega
theorem MY (m:Nat):Df m m=tW m:=by simp [Df,tW]
theorem Nu {t m:Nat} (h:t<m):(Df t m).set t (t:Int)=Df (t+1) m:=by
 unfold Df;rw [List.set_append,if_neg (by simp),UL,VP,Ya,WA,LV,U6];congr 1;rw [show m - t=(m - (t+1))+1 by omega,List.replicate_succ];rfl
theorem Nz (h:Vr 3 Kb w p l) (hn:n=l.length) (hm:n<=1000000):Calls prog kS.id #[.slice p n c] w λe w'=>∃ (q:sn) (d:Nat) (o:List Int),e=.returned (.slice q o.length d)/\ak w w'/\dz aq w' q d o/\(if l.all Fq then Co l o else o= [])/\(∀b,aG q=some b->w.heap.size<=b):=by
 refine kS.aj ?_;intro nb w1 h1;have O:ak w w1:=h1.mod;have az:=h1.num;refine ⟨_,_,_,aV h1.has rfl,(xG (h.grow O) hn (by unfold maxLen;omega)).mono ?_⟩;rintro e w2 ⟨rfl,J⟩;have b2:=h1.has.grow J;cases hl:l.all Fq with
 |false=>
  refine ⟨_,rfl,bP rfl ⟨none,0,[],rfl,O.trans J,Ow.nil _ _ _,by simp,λb hb=>by simp [aG] at hb⟩⟩
 |true=>
  refine ⟨_,rfl,bA rfl ⟨_,_,_,aV b2 rfl,?_⟩⟩;have aT:=J.size;have s1:=h1.size;refine rZ c9 jx (x:=(0:Int)) rfl n rfl (by omega) λw3 o3 g3 z3=>?_;have b3:=b2.grow g3;refine ⟨_,_,_,aV b3 rfl,?_⟩;have hq:∀b,aG (some (⟨w2.heap.size,0,none⟩:Addr))=some b->b=w2.heap.size:=λb hb=>by simp [aG] at hb;exact hb.symm
  refine ⟨λI w' k=>∃t:Nat,I=t/\t<=n/\k=n - t/\dz aq w' (some ⟨w2.heap.size,0,none⟩) n (Df t n)/\aD (λb=>b=w2.heap.size) w2 w',⟨_,0,rfl,vx _,rfl,by simpa [Df] using o3,g3.mono λ_ _=>False.elim⟩,?_⟩;rintro I w4 k _ ⟨t,rfl,ht,rfl,U,Y⟩;have Z:=M_ ht;refine ah (λq=>?_) (λq=>?_)
  . have q:t<n:=by simpa using q
    refine U.st (t:Int) rfl rfl (by omega) Z.symm (by omega) λw5 Q V=>?_;rw [tn,Nu q] at Q;refine ⟨_,?_,t+1,wN,by omega,rfl,Q,Y.then V λb _ hb=>hq b hb⟩;omega
  . have q:t=n:=by simp at q;omega
    subst q;have G4:ak w2 w4:=Y.mono λb hb e=>by omega
    have B4:=b2.grow G4;have H4:=((h.grow O).grow J).grow G4;rw [MY] at U;have ac:nb≠w2.heap.size:=by have:=b2.lt;omega
    have X:Cx w4 (some ⟨w2.heap.size,0,none⟩) t (tW t) eY.id #[.pointer (some ⟨nb,0,none⟩)] (B9 l):=by
     refine ⟨(nD t).symm,by omega,FO,λx hx y hy w' m'=>?_,CH l⟩;rw [Q_];have hx:=yi.1 hx;have hy:=yi.1 hy;refine Ji (H4.keep m' λb hb e=>?_) hn (by unfold maxLen;omega) hl (B4.keep m' λe=>ac (hq _ e)) (by omega) (by omega);have e:=hq _ e;have:=SK h (by omega) b hb;have:=O.size;have:=J.size;omega
    refine (Dj X U).mono ?_;rintro e w5 ⟨rfl,l5,Q,V,p5,s5⟩;refine ⟨rfl,_,_,l5,?_,?_,Q,?_,?_⟩
    . rw [p5.length_eq,nD]
    . exact (O.trans J).then (Y.then (S:=λb=>b=w2.heap.size) V λb _ hb=>hq b hb) λb hb e=>by omega
    . rw [if_pos rfl];rw [hn] at p5;exact ⟨p5,s5⟩
    . intro b hb;have:=hq b hb;omega
end
section
variable {w:World} {p:sn} {n c:Nat} {l:List Lr}
theorem Ek (t:Nat):tW (t+1)=tW t++ [(t:Int)]:=by
 unfold tW;rw [WA,LV];rfl
def oM (l:List Lr) (t m:Nat):List Bool:=((tW t).map λi=>gF (aX l i))++List.replicate (m - t) false
theorem qM {t m:Nat} (h:t<=m):(oM l t m).length=m:=by simp [oM,nD];omega
theorem zR {t m:Nat} (h:t<m):(oM l t m).set t (gF (aX l t))=oM l (t+1) m:=by
 unfold oM;rw [List.set_append,if_neg (by simp [nD]),UL,nD,Ya,Ek,LV,U6];congr 1;rw [show m - t=(m - (t+1))+1 by omega,List.replicate_succ];rfl
theorem F9 {t m:Nat} (h:t<m):(oM l (t+1) m).getD t false=gF (aX l t):=by
 rw [<- zR h];simp [List.getD,qM (Nat.le_of_lt h),h]
theorem FT {m x:Nat} (h:x<m):(oM l m m).getD x false=gF (aX l x):=by
 unfold oM;simp [tW,List.getD,h]
theorem BY (t:Nat):((tW (t+1)).countP λi=> !gF (aX l i))=((tW t).countP λi=> !gF (aX l i))+ (if gF (aX l t) then 0 else 1):=by
 rw [Ek,VY];simp only [Vq,Yc];cases gF (aX l t)<;>simp
theorem Hu (t:Nat):((tW t).countP λi=> !gF (aX l i))<=t:=by
 have:=VK (p:=λi=> !gF (aX l i)) (l:=tW t)
 rwa [nD] at this
theorem IA {b:List Bool} {i j:Nat} {x:Bool} (hi:i<b.length):(b.set i x).getD j false=if j=i then x else b.getD j false:=by
 simp only [y6,VC];by_cases h:j=i
 . subst h;simp [hi]
 . rw [if_neg (λe=>h e.symm),if_neg h]
theorem PL (h:Vr 3 Kb w p l) (hn:n=l.length) (hm:n<=1000000):Calls prog mX.id #[.slice p n c] w λe w'=>∃ (q:sn) (d:Nat) (k:List Bool),e=.returned (.slice q k.length d)/\ak w w'/\Ow Value.bool cC w' q d k/\(∀b,aG q=some b->w.heap.size<=b)/\
 (if l.all Fq then k.length=n/\∀x:Nat,x<n->k.getD x false=keep l x else k= []):=by
 refine mX.aj ?_;refine (xG h hn (by unfold maxLen;omega)).mono ?_;rintro e w1 ⟨rfl,g1⟩;cases hl:l.all Fq with
 |false=>exact ⟨_,rfl,bP rfl ⟨none,0,[],rfl,g1,Ow.nil _ _ _,λb hb=>by simp [aG] at hb,by simp⟩⟩
 |true=>
 refine ⟨_,rfl,bA rfl ?_⟩;refine rZ N4 Jy (x:=false) rfl n rfl (by omega) λw2 o2 g2 z2=>?_;have hq:∀b,aG (some (⟨w1.heap.size,0,none⟩:Addr))=some b->b=w1.heap.size:=λb hb=>by simp [aG] at hb;exact hb.symm
 have hN:aD (λb=>b=w1.heap.size) w1 w2:=g2.mono λ_ _=>False.elim;refine ⟨λF I w' k=>∃t:Nat,I=t/\F=((tW t).countP λi=> !gF (aX l i):Nat)/\t<=n/\k=n - t/\Ow Value.bool cC w' (some ⟨w1.heap.size,0,none⟩) n (oM l t n)/\aD (λb=>b=w1.heap.size) w1 w',⟨_,0,rfl,rfl,vx _,rfl,by simpa [oM,tW] using o2,hN⟩,?_⟩;rintro F I w3 k _ ⟨t,rfl,rfl,ht,rfl,o3,m3⟩;have G3:ak w1 w3:=m3.mono λb hb e=>by omega
 have H3:=(h.grow g1).grow G3;refine ah (λq=>?_) (λq=>?_)
 . have q:t<n:=by simpa using q
   refine NN H3 hn (x:=t) rfl (by omega) (by omega) λa C=>⟨_,_,_,C,?_⟩
   intro n1 w4 h4;refine bD h4.has rfl rfl λw5 h5 Y=>?_;have g5:ak w3 w5:=h4.mod.cW Y (by have:=h4.num;omega);have h5:bT w5 n1 #[.i (aX l t).1,.i (aX l t).2.1,.bool (aX l t).2.2]:=h5;refine ⟨_,_,_,⟨ae h5 rfl,ae h5 rfl,ae h5 rfl,trivial⟩,(OB (aX l t) w5).mono ?_⟩;rintro e w6 ⟨rfl,g6⟩;refine ⟨_,rfl,?_⟩;have o6:=o3.grow (g5.trans g6);have hlen:=qM (l:=l) ht;refine o6.st (gF (aX l t)) rfl rfl (by omega) hlen.symm (by omega) λw7 o7 m7=>?_;rw [tn,zR q] at o7;have M7:aD (λb=>b=w1.heap.size) w1 w7:=(m3.grow (g5.trans g6)).then m7 λb _ hb=>hq b hb;refine o7.ix false (by omega) (qM (by omega)).symm (by omega) λa e=>⟨_,e,?_⟩
   rw [tn,F9 q];have hf:=Hu (l:=l) t;refine ah (λs=>?_) (λs=>?_)
   . refine ⟨_,?_,t+1,wN,?_,by omega,rfl,o7,M7⟩
     . omega
     . have s:gF (aX l t)=false:=by simpa using s
       rw [BY,s];exact wN (by simp) (by simp;omega)
   . refine ⟨_,?_,t+1,wN,?_,by omega,rfl,o7,M7⟩
     . omega
     . have s:gF (aX l t)=true:=by simpa using s
       rw [BY,s];rfl
 . have q:t=l.length:=by simp at q;omega
   subst q;have a_:n=l.length:=hn;subst a_;refine ⟨by decide,(Nz H3 rfl hm).mono ?_⟩;rintro e w4 ⟨q,d,o,rfl,g4,oo,X,bc⟩;rw [hl,if_pos rfl] at X;have b6:=X.len;refine ⟨_,_,_,rfl,?_⟩;have a7:((tW l.length).countP λi=> !gF (aX l i))=jM l:=rfl;rw [a7];have cc:jM l<=l.length:=Hu l.length;have ed:IntKind.i64.wrap (((jM l:Nat):Int).tdiv 2)=((jM l / 2:Nat):Int):=wN (by rw [Wg (by omega)];omega) (by omega);rw [ed];refine ⟨λL I w' k=>∃ (t:Nat) (b:List Bool),I=t/\L=(jM l / 2 - ni l o t:Nat)/\t<=o.length/\k=o.length - t/\b.length=l.length/\(∀x:Nat,x<l.length->(b.getD x false=true↔gF (aX l x)=true\/∃j,j<t/\o.getD j 0=(x:Int)/\ni l o j<jM l / 2))/\
    Ow Value.bool cC w' (some ⟨w1.heap.size,0,none⟩) l.length b/\dz aq w' q d o/\aD (λb=>b=w1.heap.size) w1 w',⟨_,0,oM l l.length l.length,rfl,by simp [ni],vx _,rfl,qM (y4 _),λx Z=>by rw [FT Z];simp,o3.grow g4,oo,m3.grow g4⟩,?_⟩
   rintro L I w5 k _ ⟨t,b,rfl,rfl,ht,rfl,hb,Z,ob,o5,Y⟩;refine ah (λr=>?_) (λr=>?_)
   . have r:t<o.length:=by simpa using r
     refine o5.ix 0 (by omega) rfl (by omega) λa e=>⟨_,e,?_⟩
     rw [tn];obtain ⟨r0,r1⟩:=X.UA r;obtain ⟨x,ex⟩: ∃x:Nat,o.getD t 0=(x:Int):=⟨(o.getD t 0).toNat,by omega⟩
     have U:x<l.length:=by omega
     rw [ex];refine ob.ix false (by omega) hb.symm (by omega) λa e=>⟨_,e,?_⟩
     rw [tn];have av:=Z x U;have Q: ¬∃j,j<t/\o.getD j 0=(x:Int)/\ni l o j<jM l / 2:=by
      rintro ⟨j,j1,O,_⟩;have:=vk X.nd (i:=j) (j:=t) (by omega) r (by rw [O,ex]);omega
     have ar:∀y:Nat,(∃j,j<t+1/\o.getD j 0=(y:Int)/\ni l o j<jM l / 2)↔(∃j,j<t/\o.getD j 0=(y:Int)/\ni l o j<jM l / 2)\/(y=x/\ni l o t<jM l / 2):=by
      intro y;constructor
      . rintro ⟨j,j1,O,j3⟩;by_cases e:j=t
        . subst e;rw [ex] at O;exact .inr ⟨by omega,j3⟩
        . exact .inl ⟨j,by omega,O,j3⟩
      . rintro (⟨j,j1,O,j3⟩| ⟨rfl,j3⟩)
        . exact ⟨j,by omega,O,j3⟩
        . exact ⟨t,by omega,ex,j3⟩
     have cs:=EY (l:=l) r;rw [ex] at cs;have J:gF (aX l (x:Int))=b.getD x false:=by
      cases ap:b.getD x false with
      |true=>
       rcases av.1 ap with h|h
       . exact h
       . exact absurd h Q
      |false=>
       cases a':gF (aX l (x:Int)) with
       |false=>rfl
       |true=>have:=av.2 (.inl a');rw [ap] at this;exact this.symm
     have et:IntKind.i64.wrap ((t:Int)+1)=((t+1:Nat):Int):=wN;have stay:(b.getD x false=true\/¬ni l o t<jM l / 2)->∀y:Nat,y<l.length->(b.getD y false=true↔gF (aX l y)=true\/∃j,j<t+1/\o.getD j 0=(y:Int)/\ni l o j<jM l / 2):=by
      intro hc y hy;rw [Z y hy,ar y];constructor
      . rintro (h|h)
        . exact .inl h
        . exact .inr (.inl h)
      . rintro (h|h| ⟨rfl,h⟩)
        . exact .inl h
        . exact .inr h
        . rcases hc with hc|hc
          . exact .inl (by rw [J];exact hc)
          . exact absurd h hc
     refine ah (λs=>?_) (λs=>?_)
     . have s:b.getD x false=false:=by simpa using s
       rw [s] at J;rw [J] at cs;refine ah (λV=>?_) (λV=>?_)
       . have V:ni l o t<jM l / 2:=by simp at V;omega
         refine ob.st true rfl rfl (by omega) hb.symm (by omega) λw6 o6 m6=>?_;rw [tn] at o6;have M6:aD (λb=>b=w1.heap.size) w1 w6:=Y.then m6 λb _ hb=>hq b hb;refine ⟨_,?_,t+1,_,et,?_,by omega,rfl,by simpa using hb,λy hy=>?_,o6,?_,M6⟩
         . omega
         . rw [cs];simp only [VW,if_false];rw [aA (by omega) (by omega)];omega
         . rw [IA (by omega),ar y];by_cases e:y=x
           . subst e;rw [if_pos (Eq.refl y)];simp [V]
           . rw [if_neg e,Z y hy];constructor
             . rintro (h|h)
               . exact .inl h
               . exact .inr (.inl h)
             . rintro (h|h| ⟨h,_⟩)
               . exact .inl h
               . exact .inr h
               . exact absurd h e
         . refine o5.keep m6 λb hb e=>?_;have:=bc b hb;have:=hq b e;have:=m3.size;have:=z2;have:=hN.size;have b':=o3.lt w1.heap.size rfl;omega
       . have V: ¬ni l o t<jM l / 2:=by simp at V;omega
         refine ⟨_,?_,t+1,b,et,?_,by omega,rfl,hb,stay (.inr V),ob,o5,Y⟩
         . omega
         . rw [cs];simp only [VW,if_false];omega
     . have s:b.getD x false=true:=by simpa using s
       rw [s] at J;rw [J] at cs;refine ⟨_,?_,t+1,b,et,?_,by omega,rfl,hb,stay (.inl s),ob,o5,Y⟩
       . omega
       . rw [cs];simp
   . have r:t=o.length:=by simp at r;omega
     subst r;refine ⟨_,_,b,by rw [hb],g1.trans (Y.mono λb hb e=>by omega),ob,λb hb=>by have:=hq b hb;have:=g1.size;omega,?_⟩;rw [if_pos rfl];refine ⟨hb,λx U=>?_⟩;obtain ⟨j,j1,O⟩:=X.find (x:=(x:Int)) (by omega) (by omega);have hk:=X.keep j1;rw [O] at hk;rw [hk,Wm,Z x U,VM,decide_eq_true_eq];constructor
     . rintro (h| ⟨i,i1,i2,i3⟩)
       . exact .inl h
       . have:=vk X.nd i1 j1 (by rw [i2,O]);subst this;exact .inr i3
     . rintro (h|h)
       . exact .inl h
       . exact .inr ⟨j,j1,O,h⟩
end
end Go.Proofs.YtbdghpjnifjlmaaGreat.W.Re
