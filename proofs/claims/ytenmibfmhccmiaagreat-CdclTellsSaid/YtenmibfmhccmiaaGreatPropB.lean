/- Layer 6: a literal is decided. -/
import Derived.Test.YtenmibfmhccmiaaGreatPropA
import Derived.Test.YtenmibfmhccmiaaGreatSortA
import Derived.Test.YtenmibfmhccmiaaGreatFwRead
namespace Go.Proofs.YtenmibfmhccmiaaGreat.W
open Go Go.Fw Go.RowKit Go.SoP Go.LiP
open Go.Proofs.Tryz (prog)
section
variable {w w' w0 w2 w3:World} {b:Nat} {H H' H2:Pt->Sl} {s t u s' T:aG} {l x y:Int} {i:Nat}
def aG.iM (s:aG):aG:=(s.set .be (s.R .be++ [((s.R .tr).length:Int)])).set .ds (s.R .ds++ [(s.done:Int)])
def aG.decide (s:aG) (l:Int):aG:=s.iM.put l (-1)
theorem od (g:aM s) (hl:dR s.vars l) (J:s.val l=0):aM (s.decide l):=
 ul g hl J (t:=s.iM) (fun y h1 I=>by unfold aG.iM;rw [ak I,ak h1]) rfl rfl rfl rfl (.inr ⟨by unfold aG.iM;rw [ak (by simp),aK],by unfold aG.iM;rw [aK],rfl⟩)
structure Sh (b:Nat) (H:Pt->Sl) (s:aG):Prop where
 cn:(H .c).n=s.nc
 wn:(H .wa).n=2* (s.vars+1)
 len: ∀x,x.row=true->(H x).n=(s.R x).length
 inj: ∀x y k,own b H x=some k->own b H y=some k->x=y
structure Pq (w:World) (b:Nat) (H:Pt->Sl) (s:aG) (E:Pt->Prop):Prop where
 st:bF w b (xN s H)
 c:Row 3 KT i' w (H .c).p (H .c).c (Ai H s.gone s.nc)
 wa:Ow Sl.v aJ w (H .wa).p (H .wa).c (iy H (2* (s.vars+1)))
 row: ∀y,y.row=true->¬E y->Ow y.f y.T w (H y).p (H y).c (s.R y)
theorem PM.sh (h:PM w b H s):Sh b H s:=⟨h.cn,h.wn,h.len,h.inj⟩
theorem Sh.pm (k:Sh b H s) {E:Pt->Prop} (X:Pq w b H s E) (J: ∀y,¬E y):PM w b H s:=⟨X.st,X.c,k.cn,X.wa,k.wn,fun x I=>X.row x I (J x),k.len,k.inj⟩
theorem l9 (I: ∀x y k,own b H x=some k->own b H y=some k->x=y) {x:Pt} (X:x≠ .st) {q:Sl} (hp: ∀k,aI q.p=some k->aI (H x).p=some k\/∀y,own b H y≠some k):
 ∀y z k,own b (bi H x q) y=some k->own b (bi H x q) z=some k->y=z:=by
 have key: ∀y,y≠x->own b (bi H x q) y=own b H y:=fun y e=>by
  cases y<;>first|rfl| (simp only [own];rw [aP e])
 have same:own b (bi H x q) x=aI q.p:=by rw [bK X,aW]
 intro y z k J O;by_cases Q:y=x<;>by_cases U:z=x
 . rw [Q,U]
 . subst Q;rw [same] at J;rw [key z U] at O;rcases hp k J with e|e
   . exact I y z k (by rw [bK X];exact e) O
   . exact absurd O (e z)
 . subst U;rw [same] at O;rw [key y Q] at J;rcases hp k O with e|e
   . exact I y z k J (by rw [bK X];exact e)
   . exact absurd J (e y)
 . rw [key y Q] at J;rw [key z U] at O;exact I y z k J O
theorem Sh.head (h:Sh b H s) {E:Pt->Prop} {x:Pt} (Q:x.field=true) {J:Option Addr} {c':Nat} {l':List Int} (o:Ow x.f x.T w2 J c' l') (X:Pq w2 b H s E)
 (hp: ∀k,aI J=some k->aI (H x).p=some k\/∀y,own b H y≠some k) {n':Nat} (hn:n'=l'.length) {K:World->Prop}
 (I: ∀w3,Sh b (bi H x ⟨J,n',c'⟩) (s.set x l')->Pq w3 b (bi H x ⟨J,n',c'⟩) (s.set x l') (fun y=>E y/\y≠x)->aE (·=b) w2 w3->K w3):
 ∃w3,af ((Addr.mk b 0 none).add x.off) 0 [.slice J n' c'] w2 w3/\K w3:=by
 subst hn;have hr:=oB Q;obtain ⟨h1,h2,h3⟩:=dh hr;have hb: ∀y k,y≠ .st->own b H y=some k->k≠b:=fun y k O I e=>by subst e;exact O (h.inj y .st k I rfl)
 have Y: ∀k,aI J=some k->¬k=b:=fun k Z e=>by
  rcases hp k Z with U|U
  . exact h1 (h.inj x .st k (by rw [bK h1];exact U) (by rw [e];rfl))
  . exact U .st (by rw [e];rfl)
 have hl: ∀i,x≠ .l i:=fun i e=>by subst e;simp [Pt.field] at Q
 have ha: ∀i,x≠ .a i:=fun i e=>by subst e;simp [Pt.field] at Q
 have hw: ∀i,x≠ .w i:=fun i e=>by subst e;simp [Pt.field] at Q
 refine bZ (k:=x.off) (i:=0) X.st (by cases x<;>simp [Pt.field] at Q<;>rfl) rfl fun w3 aa m3=>I w3 ?_ ?_ m3
 . refine ⟨by rw [aP (Ne.symm h2)];exact h.cn,by rw [aP (Ne.symm h3)];exact h.wn,fun y O=> ?_,l9 h.inj h1 hp⟩;by_cases e:y=x
   . subst e;simp only [aG.set,aW]
   . simp only [aG.set,aP e];exact h.len y O
 . refine ⟨?_,?_,?_,fun y O hE=> ?_⟩
   . have e:wr (xN s H) (0+x.off+0) [.slice J l'.length c']=xN (s.set x l') (bi H x ⟨J,l'.length,c'⟩):=by
      cases x<;>simp [Pt.field] at Q<;>simp [wr,xN,Pt.off,bi,aG.set,Sl.v]
     rw [<- e];exact aa
   . rw [xQ hl ha,aP (Ne.symm h2)];exact X.c.keep m3 fun k I=>hb .c k (by simp) I
   . show Ow Sl.v aJ w3 _ _ (iy (bi H x _) (2* (s.vars+1)));rw [jm hw,aP (Ne.symm h3)];exact X.wa.keep m3 fun k I=>hb .wa k (by simp) I
   . by_cases e:y=x
     . subst e;simp only [aG.set,aW];exact o.keep m3 fun k I=>Y k I
     . simp only [aG.set,aP e];exact (X.row y O fun h=>hE ⟨h,e⟩).keep m3 fun k I=>hb y k (dh O).1 (by rw [bK (dh O).1];exact I)
theorem PM.My (h:PM w b H s) {E:Pt->Prop} (X: ∀y,E y->y.row=true) {S:Nat->Prop} (m:aE S w w') (Q: ∀k,k<w.heap.size->S k->∃y,E y/\own b H y=some k):Pq w' b H s E:=by
 have I: ∀y k,¬E y->own b H y=some k->¬S k:=fun y k O J hs=>by
  obtain ⟨z,U,e⟩:=Q k (h.lt y k J) hs;exact O (h.inj y z k J e▸U)
 have ne: ∀y,y.row=false->¬E y:=fun y O he=>by rw [X y he] at O;cases O
 exact ⟨h.st.keep m (I .st b (ne _ rfl) rfl),h.c.keep m fun k J=>I .c k (ne _ rfl) J,h.wa.keep m fun k J=>I .wa k (ne _ rfl) J,
  fun y O e=> (h.row y O).keep m fun k J=>I y k e (by rw [bK (dh O).1];exact J)⟩
theorem gq {x y:Pt} {q:Sl} (e:y≠x):own b (bi H x q) y=own b H y:=by cases y<;>first|rfl| (simp only [own];rw [aP e])
theorem PM.aF (h:PM w0 b H s) {wB:World} {X:Option Addr} {c1:Nat} {y1 y2:Int} (o1:eC aC wB X c1 (s.R .be++ [y1])) (m1:aE (fun k=>aI (H .be).p=some k) w0 wB)
 (Q: ∀k,aI X=some k->aI (H .be).p=some k\/w0.heap.size<=k) {n2:Nat} (hb:bF wB n2 #[.int .i64 y2]) (hlen:(s.R .ds).length<=4000000) {n1:Nat} (aw:n1=(s.R .be++ [y1]).length) {K:World->Prop}
 (I: ∀w3 H',Pw w0 w3 b H H' ((s.set .be (s.R .be++ [y1])).set .ds (s.R .ds++ [y2]))->K w3):
 ∃w2,∃ (U:Option Addr) (n' c':Nat),(Builtin.append_ #[aJ,aJ] aJ #[.slice (H .ds).p (H .ds).n (H .ds).c,.slice (some (Addr.mk n2 0 none)) 1 1]).run prog wB= .ok (.slice U n' c') w2/\
  ∃a:Addr,(some ⟨b,0,none⟩:Option Addr)=some a/\∃w3,af (a.add 7) 0 [.slice X n1 c1] w2 w3/\∃a:Addr,(some ⟨b,0,none⟩:Option Addr)=some a/\∃w4,af (a.add 8) 0 [.slice U n' c'] w3 w4/\K w4:=by
 have X1:=h.DT (x:= .be) rfl m1;have av:eC aC wB (H .ds).p (H .ds).c (s.R .ds):=X1.row .ds rfl (by simp);refine av.kZ dN y2 hb rfl (h.len .ds rfl) fH (by omega) fun w2 U c' o2 m2 aa a'=> ⟨_,rfl,?_⟩
 have Z: ∀k,aI X=some k->¬aI (H .ds).p=some k:=fun k I e=>by
  rcases Q k I with h1|h1
  . exact h.ir (x:= .ds) (by simp) (y:= .be) (by simp) h1 e
  . have:=h.lt .ds k e;omega
 have Y:aE (fun k=>aI (H .be).p=some k\/aI (H .ds).p=some k) w0 w2:=(m1.mono fun _ _ e=> .inl e).trans (m2.mono fun _ _ e=> .inr e);have Q2:=h.My (E:=fun y=>y= .be\/y= .ds) (fun y e=>by rcases e with rfl|rfl<;>rfl) Y fun k _ e=>e.elim (fun e=> ⟨.be,.inl rfl,e⟩) fun e=> ⟨.ds,.inr rfl,e⟩
 have z1:=m1.size;have f2: ∀k,aI U=some k->aI (H .ds).p=some k\/w0.heap.size<=k:=fun k I=>by
  rcases aa with rfl|rfl
  . exact .inl I
  . have:=bg I;exact .inr (by omega)
 have f12: ∀k,aI U=some k->aI X≠some k:=fun k I e=>by
  rcases aa with rfl|rfl
  . exact Z k e I
  . have:=bg I;have:=o1.lt k e;omega
 refine h.sh.head (x:= .be) rfl (o1.keep m2 fun k I=>Z k I) Q2 (fun k I=> (Q k I).imp id fun e=>h.bW e) aw fun w3 S3 Q3 m3=> ⟨_,rfl,?_⟩
 refine S3.head (x:= .ds) rfl (o2.keep m3 fun k I e=> ?_) Q3 (fun k I=> ?_) (by simp) fun w4 S4 Q4 m4=>I w4 (bi (bi H .be ⟨X,n1,c1⟩) .ds ⟨U,(s.R .ds).length+1,c'⟩) ?_
 . rcases f2 k I with O|O
   . exact h.ir (x:= .ds) (by simp) (y:= .st) (by simp) (k:=k) (by rw [e];rfl) O
   . have:=h.lt .st b rfl;omega
 . rw [aP (by simp)];rcases f2 k I with O|O
   . exact .inl O
   . refine .inr fun y e=> ?_;by_cases ey:y= .be
     . subst ey;rw [bK (by simp),aW] at e;exact f12 k I e
     . rw [gq ey] at e;have:=h.lt y k e;omega
 . refine ⟨S4.pm Q4 fun y e=> ?_,?_,fun x k J=> ?_⟩
   . rcases e.1.1 with O|O
     . exact e.1.2 O
     . exact e.2 O
   . exact ((Y.mono fun k _ e=>e.elim (fun e=> ⟨.be,e⟩) fun e=> ⟨.ds,e⟩).trans (m3.mono fun k _ e=> ⟨.st,by rw [e];rfl⟩)).trans (m4.mono fun k _ e=> ⟨.st,by rw [e];rfl⟩)
   . by_cases e1:x= .ds
     . subst e1;rw [bK (by simp),aW] at J;exact (f2 k J).imp (fun e=> ⟨.ds,e⟩) id
     . rw [gq e1] at J;by_cases O:x= .be
       . subst O;rw [bK (by simp),aW] at J;exact (Q k J).imp (fun e=> ⟨.be,e⟩) id
       . rw [gq O] at J;exact .inl ⟨x,J⟩
theorem vR (h:PM w b H s) (g:aM s) (l:Int):Calls prog c6.id #[bR b,.int .i64 l] w fun e w'=> ∃r:Int,e= .returned (.int .i64 r)/\∃H',((r=0/\dR s.vars l/\s.val l=0/\Pw w w' b H H' (s.decide l))\/(r=1/\¬(dR s.vars l/\s.val l=0)/\Pw w w' b H H' s)):=by
 have k:=g.wf;refine c6.ah ((rG h k l).mono ?_);rintro e w1 ⟨rfl,Z⟩;refine ⟨_,rfl,?_⟩;cases hi:vU s.vars l with
 |false=>exact cj rfl ⟨_,rfl,H,.inr ⟨rfl,(fun hh=>by rw [(ia k.d7).2 hh.1] at hi;cases hi),Pw.refl (h.grow Z) Z⟩⟩
 |true=>
  have hl:=(ia k.d7).1 hi;refine bm rfl ((lK (h.grow Z) k hl).mono ?_);rintro e w3 ⟨rfl,rfl⟩;refine ⟨_,rfl,ao (fun r=> ?_) (fun r=> ?_)⟩
  . have r:s.val l≠0:=by simpa using r
    exact ⟨_,rfl,H,.inr ⟨rfl,fun h=>r h.2,Pw.refl (h.grow Z) Z⟩⟩
  . have r:s.val l=0:=by simpa using r
    have O:=(h.grow Z).drew;have kb:(s.R .be).length<=1048576:=by have:=g.Jf;have:=g.xh;have:=g.d7;omega
    have kd:(s.R .ds).length<=1048576:=by rw [g.dl];exact kb
    have kt:(s.R .tr).length<=1048576:=by have:=g.xh;have:=g.d7;omega
    have aw: ∀ {a:Addr} {u:Value},w3.drew.cell? a=some u->a.block=b->e_ (aE (fun k=>aI (H .be).p=some k\/aI (H .ds).p=some k) w3.drew) a u:=fun hc bb u' g=>gj g hc fun e=>by
     rw [bb] at e;rcases e with e|e
     . exact O.ir (x:= .be) (by simp) (y:= .st) (by simp) rfl e
     . exact O.ir (x:= .ds) (by simp) (y:= .st) (by simp) rfl e
    have gm: ∀ {w1:World},aq w3.drew w1->aE (fun k=>aI (H .be).p=some k\/aI (H .ds).p=some k) w3.drew w1:=fun g=>g.mono fun _ _ e=>e.elim;refine ⟨aE (fun k=>aI (H .be).p=some k\/aI (H .ds).p=some k) w3.drew,aE.refl _,_,rfl,_,_,_,aw (ad O.st rfl) (cy _ _),_,rfl,_,_,_,aw (ad O.st rfl) (cy _ _),_,rfl,_,_,_,aw (ad O.st rfl) (cy _ _),
     _,rfl,_,aw (ad O.st rfl) (cy _ _),?_⟩
    rw [h.len .tr rfl];have kB:Wf s.iM:=by
     unfold aG.iM;refine ⟨k.d7,by rw [ak (by simp),ak (by simp)];exact k.va,by rw [ak (by simp),ak (by simp)];exact k.vb,by rw [ak (by simp),ak (by simp)];exact k.le,by rw [ak (by simp),ak (by simp)];exact k.re,?_,by rw [ak (by simp),ak (by simp)];exact k.tr,k.nc⟩;rw [ak (by simp),aK,List.length_append];simp only [List.length_cons,List.length_nil];omega
    have fI: ∀I H',Pw w3.drew I b H H' s.iM->Calls prog fE.id #[bR b,.int .i64 l,.int .i64 (-1)] I fun e ar=>e= .returned (.tuple #[])/\
     ∃r:Int,Ending.returned (.int .i64 0)= .returned (.int .i64 r)/\∃H',((r=0/\dR s.vars l/\s.val l=0/\Pw w ar b H H' (s.decide l))\/(r=1/\¬(dR s.vars l/\s.val l=0)/\Pw w ar b H H' s)):=by
     intro I H' P;refine (Bv P.pm kB (l:=l) hl (-1)).mono ?_;rintro e ar ⟨rfl,q,P2⟩;exact ⟨rfl,_,rfl,_,.inl ⟨rfl,hl,r,(P.trans P2).cP (Z.trans (aE.refl _).drew)⟩⟩
    have fr: ∀ {u:World} {p':Option Addr},aq w3.drew u->(p'=(H .be).p\/p'=some ⟨u.heap.size,0,none⟩)->∀k,aI p'=some k->aI (H .be).p=some k\/w3.drew.heap.size<=k:=fun g hp k hk=>by
     rcases hp with rfl|rfl
     . exact .inl hk
     . have:=bg hk;have:=g.size;exact .inr (by omega)
    have av: ∀ {u:World},aq w3.drew u->eC aC u (H .be).p (H .be).c (s.R .be):=fun g=> (O.grow g).row .be rfl;have a6: ∀ {n:Nat} {u v:World} {o:Obj},aq w3.drew u->bc o u n v->¬aI (H .be).p=some n:=fun g hn e=>by
     have:=O.lt .be _ e;have:=hn.num;have:=g.size;omega
    refine ⟨?_,?_⟩
    . intro n14 b5 ay;have J:=ay.mod;refine ⟨gm J,?_,?_⟩
      . refine (av J).kZ dN _ ay.has rfl (h.len .be rfl) fH (by omega) fun b4 p1 c1 o1 m1 X a8=> ⟨(gm J).trans (m1.mono fun _ _ e=> .inl e),?_⟩
        intro b_ bk ax;have a7:aE (fun k=>aI (H .be).p=some k) w3.drew bk:=((J.mono fun _ _ e=>e.elim).trans m1).trans (ax.mod.mono fun _ _ e=>e.elim);refine ⟨a7.mono fun _ _ e=> .inl e,O.aF (o1.grow ax.mod) a7 (fr J X) ax.has (by omega) (by simp) fun I H' P=>fI I H' P⟩
      . intro n27 b7 Y;have Q:=J.trans Y.mod;refine ⟨gm Q,(av Q).kZ dN _ (ay.has.grow Y.mod) rfl (h.len .be rfl) fH (by omega) fun bv p1 c1 o1 m1 X a8=> ⟨(gm Q).trans (m1.mono fun _ _ e=> .inl e),?_⟩⟩;exact O.aF o1 ((Q.mono fun _ _ e=>e.elim).trans m1) (fr Q X) (Y.has.keep m1 (a6 J Y)) (by omega) (by simp) fun I H' P=>fI I H' P
    . intro b6 ce ag;have aT:=ag.mod;refine ⟨gm aT,?_⟩;intro b9 cT az;have U:=aT.trans az.mod;refine ⟨gm U,(av U).kZ dN _ az.has rfl (h.len .be rfl) fH (by omega) fun bv p1 c1 o1 m1 X a8=> ⟨(gm U).trans (m1.mono fun _ _ e=> .inl e),?_⟩⟩;exact O.aF o1 ((U.mono fun _ _ e=>e.elim).trans m1) (fr U X) ((ag.has.grow az.mod).keep m1 (a6 (aE.refl _) ag)) (by omega) (by simp) fun I H' P=>fI I H' P
end
section
variable {w w' w0 w2 w3:World} {b:Nat} {H H' H2:Pt->Sl} {s t u s' T:aG} {l x y:Int} {i:Nat}
def Am (va:List Int) (I:List Int):List Int:=I.foldl (fun va x=>va.set (aX x).toNat 0) va
theorem xJ: ∀ (I va:List Int),(Am va I).length=va.length
 | [],_=>rfl
 |x::I,va=>by
  show (Am (va.set (aX x).toNat 0) I).length=_;rw [xJ I];simp
theorem yk {k:Nat}: ∀ (I va:List Int),(Am va I).getD k 0=if ∃x∈I,(aX x).toNat=k then 0 else va.getD k 0
 | [],va=>by simp [Am]
 |x::I,va=>by
  show (Am (va.set (aX x).toNat 0) I).getD k 0=_;rw [yk I];by_cases h: ∃y∈I,(aX y).toNat=k
  . obtain ⟨y,J,e⟩:=h;rw [if_pos ⟨y,J,e⟩,if_pos ⟨y,List.mem_cons_of_mem _ J,e⟩]
  . rw [if_neg h];by_cases e:(aX x).toNat=k
    . rw [if_pos ⟨x,List.mem_cons_self ..,e⟩];simp only [List.getD_eq_getElem?_getD,List.getElem?_set];rw [if_pos e];split<;>simp
    . rw [if_neg]
      . simp only [List.getD_eq_getElem?_getD,List.getElem?_set];rw [if_neg e]
      . rintro ⟨y,J,O⟩;rcases List.mem_cons.1 J with rfl|J
        . exact e O
        . exact h ⟨y,J,O⟩
theorem E9 (va I:List Int) (x:Int):Am va (I++ [x])=(Am va I).set (aX x).toNat 0:=by simp [Am]
def aG.bC (s:aG) (L:Nat):aG:=
 {((((s.set .va (Am (s.R .va) ((s.R .tr).drop ((s.R .be).getD L 0).toNat))).set .tr ((s.R .tr).take ((s.R .be).getD L 0).toNat)).set .be ((s.R .be).take L)).set .ds ((s.R .ds).take L)) with
  done:=min (min s.done ((s.R .be).getD L 0).toNat) ((s.R .ds).getD L 0).toNat}
theorem fN {l:List Int} {k j:Nat} (h:j<k):(l.take k).getD j 0=l.getD j 0:=by
 simp only [List.getD_eq_getElem?_getD,List.getElem?_take];rw [if_pos h]
theorem ke (g:aM s) {L:Nat} (hL:L< (s.R .be).length):aM (s.bC L):=by
 have hb:=g.bl L hL;have ce:=g.db L hL;have cg:=g.dl;obtain ⟨A,hA⟩: ∃A:Nat,((s.R .be).getD L 0).toNat=A:=⟨_,rfl⟩
 have ay:(s.R .be).getD L 0=(A:Int):=by omega
 have b':A< (s.R .tr).length:=by omega
 have aw:(s.bC L).R .va=Am (s.R .va) ((s.R .tr).drop A):=by rw [<- hA];unfold aG.bC;simp [aG.set,bi]
 have I:(s.bC L).R .tr=(s.R .tr).take A:=by rw [<- hA];unfold aG.bC;simp [aG.set,bi]
 have O:(s.bC L).R .be=(s.R .be).take L:=by unfold aG.bC;simp [aG.set,bi]
 have av:(s.bC L).R .ds=(s.R .ds).take L:=by unfold aG.bC;simp [aG.set,bi]
 have eR: ∀y,y≠ .va->y≠ .tr->y≠ .be->y≠ .ds->(s.bC L).R y=s.R y:=fun y a1 a2 a3 a4=>by unfold aG.bC;simp [aG.set,bi,a1,a2,a3,a4]
 have az:(s.bC L).done=min (min s.done A) ((s.R .ds).getD L 0).toNat:=by rw [<- hA];rfl
 have aT:=eR .le (by simp) (by simp) (by simp) (by simp);have bb:=eR .re (by simp) (by simp) (by simp) (by simp);have aa:=eR .lo (by simp) (by simp) (by simp) (by simp);have el: ∀i,(s.bC L).R (.l i)=s.R (.l i):=fun i=>eR _ (by simp) (by simp) (by simp) (by simp);have ea: ∀i,(s.bC L).R (.a i)=s.R (.a i):=fun i=>eR _ (by simp) (by simp) (by simp) (by simp);have ew: ∀i,(s.bC L).R (.w i)=s.R (.w i):=fun i=>eR _ (by simp) (by simp) (by simp) (by simp);have a8: ∀x,(s.bC L).bj x=s.bj x:=fun x=>by unfold aG.bj;rw [aT]
 have ar: ∀x,(s.bC L).j8 x=s.j8 x:=fun x=>by unfold aG.j8;rw [bb]
 have lt:((s.R .tr).take A).length=A:=by rw [List.length_take];omega
 have lb:((s.R .be).take L).length=L:=by rw [List.length_take];omega
 have sub: ∀x,x∈(s.R .tr).take A->x∈s.R .tr:=fun x J=>List.mem_of_mem_take J;have later: ∀p:Int,p∈(s.R .be).drop L->(A:Int)<=p:=fun p hp=>by
  obtain ⟨j,X,e⟩:=List.mem_iff_getElem.1 hp;rw [List.length_drop] at X;rw [List.getElem_drop] at e;have ep:(s.R .be).getD (L+j) 0=p:=by simp [List.getD,show L+j< (s.R .be).length by omega,e]
  rcases Nat.eq_zero_or_pos j with h|h
  . subst h;rw [Nat.add_zero,ay] at ep;omega
  . have:=g.bs L (L+j) (by omega) (by omega);rw [ay,ep] at this;omega
 have nd:=g.nd;have a6: ∀x,dR s.vars x->(s.bC L).val x=if ∃y∈(s.R .tr).drop A,aX y=aX x then 0 else s.val x:=fun x J=>by
  have b_:=J.aX;have key: ∀k:Nat,((k:Int)=aX x)->((Am (s.R .va) ((s.R .tr).drop A)).getD k 0=if ∃y∈(s.R .tr).drop A,aX y=aX x then 0 else (s.R .va).getD k 0):=fun k hk=>by
   rw [yk];have:(∃y∈(s.R .tr).drop A,(aX y).toNat=k)↔∃y∈(s.R .tr).drop A,aX y=aX x:=by
    constructor
    . rintro ⟨y,Y,e⟩;have:=(g.tv y (List.mem_of_mem_drop Y)).aX;exact ⟨y,Y,by omega⟩
    . rintro ⟨y,Y,e⟩;exact ⟨y,Y,by omega⟩
   by_cases h: ∃y∈(s.R .tr).drop A,aX y=aX x
   . rw [if_pos (this.2 h),if_pos h]
   . rw [if_neg (fun h2=>h (this.1 h2)),if_neg h]
  unfold aG.val;rw [aw];by_cases e:x<0
  . rw [if_pos e,if_pos e,key _ (by unfold aX;rw [if_pos e];omega)];split<;>simp
  . rw [if_neg e,if_neg e,key _ (by unfold aX;rw [if_neg e];omega)]
 have apart: ∀x∈(s.R .tr).take A,∀y∈(s.R .tr).drop A,aX y≠aX x:=fun x J y Y e=>by
  have h1:((s.R .tr).take A++ (s.R .tr).drop A).map aX=(s.R .tr).map aX:=by rw [List.take_append_drop]
  rw [<- h1,List.map_append,List.nodup_append] at nd;exact nd.2.2 (aX x) (List.mem_map_of_mem J) (aX y) (List.mem_map_of_mem Y) e.symm
 have tt: ∀D,D<=A->((s.R .tr).take A).take D=(s.R .tr).take D:=fun D hD=>by rw [List.take_take,Nat.min_eq_left hD]
 have U:(s.bC L).vars=s.vars:=rfl;have enc:(s.bC L).nc=s.nc:=rfl;have Q: ∀i,(s.bC L).aQ i↔s.aQ i:=fun _=>Iff.rfl;generalize s.bC L=t at*
 refine ⟨by rw [U];exact g.d7,by rw [enc];exact g.G1,by rw [aw,xJ,U];exact g.va,fun k=> ?_,by rw [aT,U];exact g.le,by rw [bb,U];exact g.rl,fun x J=>by rw [U];exact g.tv x (sub x (by rw [I] at J;exact J)),?_,fun x J=> ?_,fun j X=> ?_,fun p q b5 hq=> ?_,by rw [O,av,List.length_take,List.length_take,g.dl],fun j X=> ?_,fun p hp=> ?_,fun p hp hm=> ?_,fun p hp hm=> ?_,
  by rw [az,I,lt];omega,fun i hi x J=>by rw [U];exact g.cv i ((Q i).1 hi) x (by rw [el] at J;exact J),fun i hi=>by rw [el];exact g.cn i ((Q i).1 hi),fun i hi=>by rw [el];exact g.cl i ((Q i).1 hi),fun i hi=>by rw [el,ea];exact g.ca i ((Q i).1 hi),fun i=>by rw [ea];exact g.al i,
  fun j c hc=> ?_,fun i hi x J=> ?_,fun j=>by rw [ew];exact g.w3 j,fun c hc=>by rw [aa] at hc;obtain ⟨i,e1,e2⟩:=g.o1 c hc;exact ⟨i,e1,(Q i).2 e2⟩,fun i hi h=>by rw [aa];exact g.o2 i ((Q i).1 hi) (by rw [el] at h;exact h),by rw [aa];exact g.o3,fun i hi h=> ?_,fun j X i hi h=> ?_⟩
 . rw [aw,yk];split
   . exact .inl rfl
   . exact g.vb k
 . rw [I,List.map_take];exact (List.take_sublist _ _).nodup g.nd
 . rw [U] at J;rw [a6 x J,I];by_cases h: ∃y∈(s.R .tr).drop A,aX y=aX x
   . rw [if_pos h];obtain ⟨y,Y,e⟩:=h;constructor
     . intro h;omega
     . intro h;exact absurd e (apart x h y Y)
   . rw [if_neg h,g.v1 x J];constructor
     . intro hm;rw [<- List.take_append_drop A (s.R .tr),List.mem_append] at hm;rcases hm with hm|hm
       . exact hm
       . exact absurd ⟨x,hm,rfl⟩ h
     . exact sub x
 . rw [O,lb] at X;rw [O,I,fN X,lt];have:=g.bs j L X hL;have:=(g.bl j (by omega)).1;omega
 . rw [O,lb] at hq;rw [O,fN hq,fN (by omega)];exact g.bs p q b5 (by omega)
 . rw [O,lb] at X;rw [O,av,fN X,fN X];exact g.db j (by omega)
 . rw [I,lt] at hp;rw [I,fN hp,a8,O,g.lv p (by omega)];have h1:s.R .be=(s.R .be).take L++ (s.R .be).drop L:=(List.take_append_drop _ _).symm;have h2:((s.R .be).drop L).countP (fun e=>decide (e<=(p:Int)))=0:=List.countP_eq_zero.2 fun q hq=>by
    have:=later q hq;rw [decide_eq_true_eq];omega
   have h3:(s.R .be).countP (fun e=>decide (e<=(p:Int)))=((s.R .be).take L).countP (fun e=>decide (e<=(p:Int))):=by
    conv=>lhs;rw [h1]
    rw [List.countP_append,h2,Nat.add_zero]
   rw [h3]
 . rw [I,lt] at hp;rw [I,fN hp,ar];rw [O] at hm;exact g.Kx p (by omega) (List.mem_of_mem_take hm)
 . rw [I,lt] at hp;rw [I,fN hp,ar];rw [O] at hm;have b4:(p:Int) ∉ s.R .be:=fun h=>by
    rw [<- List.take_append_drop L (s.R .be),List.mem_append] at h;rcases h with h|h
    . exact hm h
    . have:=later _ h;omega
   obtain ⟨i,e1,e2,e3,e4⟩:=g.IZ p (by omega) b4;refine ⟨i,e1,(Q i).2 e2,by rw [el];exact e3,fun x J Z=> ?_⟩;rw [el] at J;rw [tt p (by omega)];exact e4 x J Z
 . rw [ew] at hc;obtain ⟨i,e1,e2,e3⟩:=g.w1 j c hc;exact ⟨i,e1,(Q i).2 e2,by rw [el];exact e3⟩
 . rw [el] at J;rw [ew];exact g.w2 i ((Q i).1 hi) x J
 . intro x J y Y Z hm;rw [aa] at h;rw [el] at J Y;rw [I,az,tt _ (by omega)] at hm;rw [I];have:=g.wj L hL i ((Q i).1 hi) h x J y Y Z (List.take_subset_take_left _ (by omega) hm);rw [hA] at this;exact this
 . intro x J y Y Z hm;rw [aa] at h;rw [el] at J Y;rw [O,lb] at X;have h1:=g.db j (by omega);have h2:=g.bs j L X hL;have h3:=g.bl j (by omega);rw [av,fN X,I,tt _ (by omega)] at hm;rw [O,fN X,I,tt _ (by omega)];exact g.wj j (by omega) i ((Q i).1 hi) h x J y Y Z hm
theorem PM.cut (h:PM w b H s) {x:Pt} (O:x.field=true) {k:Nat} (J:k<=(s.R x).length) {n' c':Nat} (hn:n'=k) (U:c'=(H x).c) {K:World->Prop}
 (I: ∀w3,PM w3 b (bi H x ⟨(H x).p,k,(H x).c⟩) (s.set x ((s.R x).take k))->aE (·=b) w w3->K w3): ∃w3,af ((Addr.mk b 0 none).add x.off) 0 [.slice (H x).p n' c'] w w3/\K w3:=by
 subst hn U;exact h.head O ((h.row x (oB O)).take J) ⟨h.st,h.c,h.wa,fun y Q _=>h.row y Q⟩ (fun k I=> .inl I) (by rw [List.length_take];omega) I
theorem yj (h:PM w b H s) {x:Pt} (J:x.row=true):(s.R x).length<=(H x).c:=by
 rcases (h.row x J).un with ⟨_,_,I⟩| ⟨_,_,_,_,e,_⟩
 . rw [I];exact Nat.zero_le _
 . exact e
theorem FE (h:PM w b H s) (g:aM s) (bj:Int):bu.w (some ⟨b,0,none⟩) bj w fun v w'=>Ending.returned v= .returned (.tuple #[])/\∃H',Pw w w' b H H' (if (max 0 bj).toNat< (s.R .be).length then s.bC (max 0 bj).toNat else s):=by
 have k:=g.wf;obtain ⟨L,hL⟩: ∃L:Nat,(max 0 bj).toNat=L:=⟨_,rfl⟩
 have em:imax 0 bj=(L:Int):=by unfold imax;split<;>omega
 rw [hL];refine bm rfl ⟨_,rfl,_,_,_,ad h.st rfl,?_⟩;rw [em,h.len .be rfl];refine ao (fun r=> ?_) (fun r=> ?_)
 . have r:(s.R .be).length<=L:=by simp at r;omega
   exact ⟨rfl,H,by rw [if_neg (by omega)];exact Pw.refl h (aE.refl w)⟩
 have r:L< (s.R .be).length:=by simp at r;omega
 rw [if_pos r];have hb:=g.bl L r;have du:=g.db L r;have d8:=g.dl;have ay:=yj h (x:= .tr) rfl;have b7:=yj h (x:= .be) rfl;have a8:=yj h (x:= .ds) rfl;refine ⟨_,rfl,_,_,_,ad h.st rfl,h.tG (x:= .be) rfl (by omega) rfl (by omega) fun a5 _ a'=> ⟨_,a',_,rfl,_,_,_,ad h.st rfl,?_⟩⟩;rw [Int.toNat_natCast];obtain ⟨A,hA⟩: ∃A:Nat,((s.R .be).getD L 0).toNat=A:=⟨_,rfl⟩
 have a6:(s.R .be).getD L 0=(A:Int):=by omega
 rw [a6];have cT:A< (s.R .tr).length:=by omega
 rw [h.len .tr rfl];refine gD A (s.R .tr).length (H .tr).c rfl rfl rfl (Nat.le_refl _) ay (by omega) ?_;rw [if_neg (by omega)];refine ⟨fun V u m=> ∃v:Nat,V=v/\v<=(s.R .tr).length - A/\m=(s.R .tr).length - A - v/\Pw w u b H H (s.set .va (Am (s.R .va) (((s.R .tr).drop A).take v))),⟨_,0,rfl,Nat.zero_le _,rfl,by
  have:Am (s.R .va) (((s.R .tr).drop A).take 0)=s.R .va:=by simp [Am]
  rw [this,eJ];exact Pw.refl h (aE.refl w)⟩,?_⟩
 rintro V ax m _ ⟨v,rfl,hv,rfl,Q⟩;have J:=Q.pm;have Y:Vw (Value.int .i64) ax ((H .tr).p.map (·.add (A*1))) ((s.R .tr).drop A):=by
  have:=(J.row .tr rfl).vw.part (i:=A) (m:=(s.R .tr).length - A) (by rw [ak (by simp)];omega);rw [ak (by simp),List.take_of_length_le (by simp)] at this;exact this
 refine ao (fun U=> ?_) (fun U=> ?_)
 . have U:v< (s.R .tr).length - A:=by simp at U;omega
   refine Y.ix 0 (by omega) (by simp) (by omega) fun cg ag=> ⟨_,ag,?_⟩
   rw [Int.toNat_natCast];have hx:((s.R .tr).drop A).getD v 0∈s.R .tr:=List.mem_of_mem_drop (bE (by simp;omega));have b5:((s.R .tr).drop A).take (v+1)=((s.R .tr).drop A).take v++ [((s.R .tr).drop A).getD v 0]:=by
    rw [List.take_add_one];simp [List.getD,show A+v< (s.R .tr).length by omega]
   generalize ((s.R .tr).drop A).getD v 0=X at*
   have aa:=g.tv X hx;have cm:=aa.aX;refine ⟨(·=ax.drew),rfl,_,rfl,_,_,_,eF (ad J.drew.st rfl),(fU (aa.bd g.d7) _).mono ?_⟩;rintro e ce ⟨rfl,rfl⟩;refine ⟨_,rfl,rfl,J.drew.Er (x:= .va) rfl (by omega) rfl (by rw [aK,xJ,g.va];omega) (y:=0) rfl rfl fun c0 av bv=> ?_⟩;refine ⟨_,?_,v+1,wN (by omega) (by have:=g.xh;have:=g.d7;omega),by omega,rfl,?_⟩
   . omega
   . rw [set_set,aK] at av;rw [b5,E9];exact Q.drew.trans (Pw.row av (x:= .va) rfl bv)
 . have U:v=(s.R .tr).length - A:=by simp at U;omega
   subst U;rw [List.take_of_length_le (by simp)] at Q J;have hT:=J.drew;have P0:=Q.drew;obtain ⟨V,hV⟩: ∃V,V=Am (s.R .va) ((s.R .tr).drop A):=⟨_,rfl⟩
   rw [<- hV] at Q J hT P0;refine ⟨_,rfl,_,ad hT.st rfl,_,rfl,_,_,_,ad hT.st rfl,hT.tG (x:= .ds) rfl (by omega) rfl (by rw [ak (by simp)];omega) fun d' _ aw=> ⟨_,aw,_,rfl,?_⟩⟩;rw [ak (by simp),Int.toNat_natCast];have ed:jI (jI ((s.set .va V).done:Int) (A:Int)) ((s.R .ds).getD L 0)=((min (min s.done A) ((s.R .ds).getD L 0).toNat:Nat):Int):=by
    show jI (jI (s.done:Int) (A:Int)) _=_;unfold jI;repeat' split
    all_goals omega
   rw [ed];refine hT.Cn rfl fun b6 ar bY=> ?_;have b3:Pw w b6 b H H _:=P0.trans ⟨ar,bY.mono fun k _ e=> ⟨.st,by rw [e];rfl⟩,fun x k O=> .inl ⟨x,O⟩⟩;have hU:=ar.drew;have PU:=b3.drew;refine ⟨_,rfl,_,_,_,ad hU.st rfl,?_⟩;rw [h.len .tr rfl];refine gD 0 A (H .tr).c rfl rfl rfl (Nat.le_refl _) (by omega) (Nat.zero_le _) ?_;refine ⟨_,rfl,_,_,_,ad hU.st rfl,?_⟩;refine gD 0 L (H .be).c rfl rfl rfl (Nat.le_refl _) (by omega) (Nat.zero_le _) ?_;refine ⟨_,rfl,_,_,_,ad hU.st rfl,?_⟩;refine gD 0 L (H .ds).c rfl rfl rfl (Nat.le_refl _) (by omega) (Nat.zero_le _) ?_;rw [Lx,Lx,Lx];refine ⟨_,rfl,hU.cut (x:= .tr) rfl (k:=A) (by show A<=((s.set .va V).R .tr).length;rw [ak (by simp)];omega) (Nat.sub_zero _) (Nat.sub_zero _) fun dT a_ bk=> ⟨_,rfl,?_⟩⟩;have c2:=a_.cut (x:= .be) rfl (k:=L) (n':=L - 0) (c':=(H .be).c - 0) (by
    show L<=(((s.set .va V).set .tr _).R .be).length;rw [ak (by simp),ak (by simp)];omega) (Nat.sub_zero _) (by rw [aP (by simp)];rfl) (K:=fun Z=> ∃a:Addr,(some ⟨b,0,none⟩:Option Addr)=some a/\∃I,af (a.add 8) 0 [.slice (H .ds).p (L - 0) ((H .ds).c - 0)] Z I/\(Ending.returned (.tuple #[])= .returned (.tuple #[])/\∃H',Pw w I b H H' (s.bC L))) ?_
   . rw [aP (by simp)] at c2;exact c2
   intro Z b4 bx;refine ⟨_,rfl,?_⟩;have c3:=b4.cut (x:= .ds) rfl (k:=L) (n':=L - 0) (c':=(H .ds).c - 0) (by
    show L<=((((s.set .va V).set .tr _).set .be _).R .ds).length;rw [ak (by simp),ak (by simp),ak (by simp)];omega) (Nat.sub_zero _) (by rw [aP (by simp),aP (by simp)];rfl) (K:=fun I=> (Ending.returned (.tuple #[])= .returned (.tuple #[])/\∃H',Pw w I b H H' (s.bC L))) ?_
   . rw [aP (by simp),aP (by simp)] at c3;exact c3
   intro I bb a7;refine ⟨rfl,bi (bi (bi H .tr ⟨(H .tr).p,A,(H .tr).c⟩) .be ⟨(H .be).p,L,(H .be).c⟩) .ds ⟨(H .ds).p,L,(H .ds).c⟩,⟨?_,((PU.mod.then bk fun k _ e=> ⟨.st,by rw [e];rfl⟩).then bx fun k _ e=> ⟨.st,by rw [e];rfl⟩).then a7 fun k _ e=> ⟨.st,by rw [e];rfl⟩,fun x k O=> ?_⟩⟩
   . have e:(s.bC L)=((({s.set .va V with done:=min (min s.done A) ((s.R .ds).getD L 0).toNat}.set .tr ((s.R .tr).take A)).set .be ((s.R .be).take L)).set .ds ((s.R .ds).take L)):=by
      unfold aG.bC;rw [hA,<- hV];rfl
     rw [e];have e1:({s.set .va V with done:=min (min s.done A) ((s.R .ds).getD L 0).toNat}:aG).R .tr=s.R .tr:=ak (s:=s) (x:= .va) (y:= .tr) (l:=V) (by simp);have e2:(({s.set .va V with done:=min (min s.done A) ((s.R .ds).getD L 0).toNat}:aG).set .tr ((s.R .tr).take A)).R .be=s.R .be:=by rw [ak (by simp)];exact ak (s:=s) (x:= .va) (y:= .be) (l:=V) (by simp)
     have e3:((({s.set .va V with done:=min (min s.done A) ((s.R .ds).getD L 0).toNat}:aG).set .tr ((s.R .tr).take A)).set .be ((s.R .be).take L)).R .ds=s.R .ds:=by rw [ak (by simp),ak (by simp)];exact ak (s:=s) (x:= .va) (y:= .ds) (l:=V) (by simp)
     have h9:=bb;simp only [aP (show Pt.be≠Pt.tr by simp),aP (show Pt.ds≠Pt.be by simp),aP (show Pt.ds≠Pt.tr by simp)] at h9;have jQ:PM I b (bi (bi (bi H .tr ⟨(H .tr).p,A,(H .tr).c⟩) .be ⟨(H .be).p,L,(H .be).c⟩) .ds ⟨(H .ds).p,L,(H .ds).c⟩)
      (((({s.set .va V with done:=min (min s.done A) ((s.R .ds).getD L 0).toNat}:aG).set .tr ((({s.set .va V with done:=min (min s.done A) ((s.R .ds).getD L 0).toNat}:aG).R .tr).take A)).set .be (((({s.set .va V with done:=min (min s.done A) ((s.R .ds).getD L 0).toNat}:aG).set .tr ((({s.set .va V with done:=min (min s.done A) ((s.R .ds).getD L 0).toNat}:aG).R .tr).take A)).R .be).take L)).set .ds ((((({s.set .va V with done:=min (min s.done A) ((s.R .ds).getD L 0).toNat}:aG).set .tr ((({s.set .va V with done:=min (min s.done A) ((s.R .ds).getD L 0).toNat}:aG).R .tr).take A)).set .be (((({s.set .va V with done:=min (min s.done A) ((s.R .ds).getD L 0).toNat}:aG).set .tr ((({s.set .va V with done:=min (min s.done A) ((s.R .ds).getD L 0).toNat}:aG).R .tr).take A)).R .be).take L)).R .ds).take L)):=h9
     rw [e1,e2,e3] at jQ;exact jQ
   . by_cases a1:x= .ds
     . subst a1;rw [bK (by simp),aW] at O;exact .inl ⟨.ds,O⟩
     . rw [gq a1] at O;by_cases a2:x= .be
       . subst a2;rw [bK (by simp),aW] at O;exact .inl ⟨.be,O⟩
       . rw [gq a2] at O;by_cases a3:x= .tr
         . subst a3;rw [bK (by simp),aW] at O;exact .inl ⟨.tr,O⟩
         . rw [gq a3] at O;exact .inl ⟨x,O⟩
theorem Io (h:PM w b H s) (g:aM s) (bj:Int):Calls prog bu.id #[bR b,.int .i64 bj] w fun e w'=>e= .returned (.tuple #[])/\∃H',Pw w w' b H H' (if (max 0 bj).toNat< (s.R .be).length then s.bC (max 0 bj).toNat else s):=
 bu.ah (FE h g bj)
end
section
variable {w w' w0 w2 w3:World} {b:Nat} {H H' H2:Pt->Sl} {s t u s' T:aG} {l x y:Int} {i:Nat}
def aG.del (s:aG) (i:Nat):aG:= {(s.set (.a i) []).set (.l i) [] with gone:=fun k=>if k=i then true else s.gone k}
def aG.drop (s:aG) (i:Nat):aG:=((lg i s ((s.R (.l i)).take 2)).set .lo ((s.R .lo).filter fun k=> !(k==(i:Int)))).del i
theorem BM (i:Nat) (y:Pt) (h1: ∀j,y≠ .w j) (I:y≠ .lo) (O:y≠ .a i) (J:y≠ .l i):(s.drop i).R y=s.R y:=by
 show ((((lg i s ((s.R (.l i)).take 2)).set .lo _).set (.a i) []).set (.l i) []).R y=_;rw [ak J,ak O,ak I,ij _ h1]
theorem iG {k:Nat}:(s.drop i).aQ k↔s.aQ k/\k≠i:=by
 show (k< (lg i s _).nc/\(if k=i then true else (lg i s _).gone k)=false)↔_;obtain ⟨_,I,J,_⟩:=iw i ((s.R (.l i)).take 2) s;rw [I,J];unfold aG.aQ;by_cases e:k=i
 . simp [e]
 . simp [e]
theorem Du (g:aM s) (hi:s.aQ i) (hr: ∀x∈s.R (.l i),¬(0<s.val x/\s.j8 x=(i:Int))):aM (s.drop i):=by
 obtain ⟨u1,u2,u3,u4⟩:=iw i ((s.R (.l i)).take 2) s;have eR: ∀y,(∀j,y≠Pt.w j)->y≠ .lo->(∀k,y≠ .a k)->(∀k,y≠ .l k)->(s.drop i).R y=s.R y:=fun y h1 I h3 h4=>BM i y h1 I (h3 i) (h4 i);have el: ∀k,k≠i->(s.drop i).R (.l k)=s.R (.l k):=fun k U=>BM i _ (by simp) (by simp) (by simp) (by simpa using U);have ea: ∀k,k≠i->(s.drop i).R (.a k)=s.R (.a k):=fun k U=>BM i _ (by simp) (by simp) (by simpa using U) (by simp);have bx:(s.drop i).R (.a i)= []:=by unfold aG.drop aG.del;simp [aG.set,bi]
 have ag:(s.drop i).R .lo=(s.R .lo).filter fun k=> !(k==(i:Int)):=by unfold aG.drop aG.del;simp [aG.set,bi]
 have bb: ∀j,(s.drop i).R (.w j)=(lg i s ((s.R (.l i)).take 2)).R (.w j):=fun j=>by unfold aG.drop aG.del;simp [aG.set,bi]
 have ew: ∀j c,c∈(s.drop i).R (.w j)↔c∈s.R (.w j)/\c≠(i:Int):=fun j c=>by
  rw [bb,sP];constructor
  . rintro ⟨h1,I|I⟩
    . exact ⟨h1,I⟩
    . refine ⟨h1,fun e=> ?_⟩;subst e;obtain ⟨q,e1,e2,x,Y,e3⟩:=g.w1 _ _ h1;have:q=i:=by omega
      subst this;exact I x Y e3
  . rintro ⟨h1,I⟩;exact ⟨h1,.inl I⟩
 have bY: ∀j,((s.drop i).R (.w j)).Nodup:=fun j=>by
  rw [bb];exact qR i j _ _ (g.w3 j)
 have Z:(s.drop i).vars=s.vars:=u1;have enc:(s.drop i).nc=s.nc:=u2;have a8:(s.drop i).done=s.done:=u4;have O: ∀k,(s.drop i).aQ k↔s.aQ k/\k≠i:=fun k=>iG;generalize s.drop i=t at*
 have J:=eR .tr (by simp) (by simp) (by simp) (by simp);have X:=eR .be (by simp) (by simp) (by simp) (by simp);have aw:=eR .ds (by simp) (by simp) (by simp) (by simp);have ay:=eR .va (by simp) (by simp) (by simp) (by simp);have a_:=eR .le (by simp) (by simp) (by simp) (by simp);have bk:=eR .re (by simp) (by simp) (by simp) (by simp);have ev: ∀x,t.val x=s.val x:=fun x=>iI ay x;have a7: ∀x,t.bj x=s.bj x:=fun x=>by unfold aG.bj;rw [a_]
 have av: ∀x,t.j8 x=s.j8 x:=fun x=>by unfold aG.j8;rw [bk]
 refine ⟨by rw [Z];exact g.d7,by rw [enc];exact g.G1,by rw [ay,Z];exact g.va,by rw [ay];exact g.vb,by rw [a_,Z];exact g.le,by rw [bk,Z];exact g.rl,by rw [J,Z];exact g.tv,by rw [J];exact g.nd,fun x Y=>by rw [ev,J];exact g.v1 x (by rw [Z] at Y;exact Y),
  by rw [X,J];exact g.bl,by rw [X];exact g.bs,by rw [aw,X];exact g.dl,by rw [X,aw];exact g.db,fun p hp=>by rw [J] at hp ⊢;rw [a7,X];exact g.lv p hp,fun p hp hm=>by rw [J] at hp ⊢;rw [av];rw [X] at hm;exact g.Kx p hp hm,
  fun p hp hm=> ?_,by rw [a8,J];exact g.dn,fun k U x Y=> ?_,fun k U=> ?_,fun k U=> ?_,fun k U x=> ?_,fun k=> ?_,fun j c hc=> ?_,fun k U x Y=> ?_,bY,fun c hc=> ?_,fun k U h=> ?_,by rw [ag];exact g.o3.filter _,fun k U h=> ?_,fun j hj k U h=> ?_⟩
 . rw [J] at hp ⊢;rw [X] at hm;obtain ⟨k,e1,e2,e3,e4⟩:=g.IZ p hp hm;have Q:k≠i:=fun e=>by
    subst e;refine hr _ e3 ⟨(g.MU (g.cv k hi _ e3)).2 (bE hp),e1⟩
   exact ⟨k,by rw [av];exact e1,(O k).2 ⟨e2,Q⟩,by rw [el k Q];exact e3,fun x Y hn=>e4 x (by rw [el k Q] at Y;exact Y) hn⟩
 . obtain ⟨h1,I⟩:=(O k).1 U;rw [Z];exact g.cv k h1 x (by rw [el k I] at Y;exact Y)
 . obtain ⟨h1,I⟩:=(O k).1 U;rw [el k I];exact g.cn k h1
 . obtain ⟨h1,I⟩:=(O k).1 U;rw [el k I];exact g.cl k h1
 . obtain ⟨h1,I⟩:=(O k).1 U;rw [el k I,ea k I];exact g.ca k h1 x
 . by_cases e:k=i
   . rw [e,bx];simp
   . rw [ea k e];exact g.al k
 . obtain ⟨h1,I⟩:=(ew j c).1 hc;obtain ⟨k,e1,e2,e3⟩:=g.w1 j c h1;have Q:k≠i:=fun e=>I (by rw [e1,e]);exact ⟨k,e1,(O k).2 ⟨e2,Q⟩,by rw [el k Q];exact e3⟩
 . obtain ⟨h1,I⟩:=(O k).1 U;rw [el k I] at Y;exact (ew _ _).2 ⟨g.w2 k h1 x Y,fun e=>I (by omega)⟩
 . rw [ag,List.mem_filter] at hc;obtain ⟨k,e1,e2⟩:=g.o1 c hc.1;refine ⟨k,e1,(O k).2 ⟨e2,fun e=> ?_⟩⟩;have I:=hc.2;rw [e1,e] at I;simp at I
 . obtain ⟨h1,I⟩:=(O k).1 U;rw [el k I] at h;rw [ag,List.mem_filter];refine ⟨g.o2 k h1 h,?_⟩;simp;omega
 . obtain ⟨h1,I⟩:=(O k).1 U;intro x Y y hy Q hm;rw [el k I] at Y hy;rw [J,a8] at hm;rw [J];refine g.wd k h1 (fun ax=>h ?_) x Y y hy Q hm;rw [ag,List.mem_filter];refine ⟨ax,?_⟩;simp;omega
 . obtain ⟨h1,I⟩:=(O k).1 U;intro x Y y hy Q hm;rw [el k I] at Y hy;rw [X] at hj;rw [J,aw] at hm;rw [J,X];refine g.wj j hj k h1 (fun ax=>h ?_) x Y y hy Q hm;rw [ag,List.mem_filter];refine ⟨ax,?_⟩;simp;omega
theorem PM.MT (h:PM w b H s) {i:Nat} (hi:i<s.nc) {n:Nat} (hn:n=(H .c).n) {I:Int} (hI:I=i) {K:World->Prop}
 (U: ∀w',PM w' b (bi (bi H (.a i) Sl.nil) (.l i) Sl.nil) (s.del i)->aE (fun k=>aI (H .c).p=some k) w w'->K w'):
 aV (H .c).p n I 3 fun a=> ∃w',af a 0 [.slice none 0 0,.slice none 0 0,.bool true] w w'/\K w':=by
 subst hI;refine h.c.st Fy (x:=(Sl.nil,Sl.nil,true)) rfl rfl (by omega) (by rw [hn,h.cn,p9]) (by rw [hn,h.cn];omega) fun w' o m=>U w' ?_ m;rw [Int.toNat_natCast] at o;have Q: ∀ {y:Pt} {k:Nat},y≠ .c->own b H y=some k->¬aI (H .c).p=some k:=fun Y U=>h.ir (x:= .c) (by simp) Y U;have J: ∀k,¬aI Sl.nil.p=some k:=fun k e=>by simp [aI,Sl.nil] at e
 have i1:=l9 h.inj (x:= .a i) (by simp) (q:=Sl.nil) fun k e=>absurd e (J k);have i2:=l9 i1 (x:= .l i) (by simp) (q:=Sl.nil) fun k e=>absurd e (J k);have Z: ∀y,y≠ .a i->y≠ .l i->bi (bi H (.a i) Sl.nil) (.l i) Sl.nil y=H y:=fun y h1 h2=>by rw [aP h2,aP h1]
 refine ⟨?_,?_,?_,?_,?_,fun y Y=> ?_,fun y Y=> ?_,i2⟩
 . have e:xN (s.del i) (bi (bi H (.a i) Sl.nil) (.l i) Sl.nil)=xN s H:=by simp [xN,aG.del,aG.set,bi]
   rw [e];exact h.st.keep m (Q (y:= .st) (by simp) rfl)
 . rw [Z .c (by simp) (by simp)];have e:Ai (bi (bi H (.a i) Sl.nil) (.l i) Sl.nil) (s.del i).gone (s.del i).nc=(Ai H s.gone s.nc).set i (Sl.nil,Sl.nil,true):=by
    apply List.ext_getElem?;intro j;simp only [Ai,aG.del,aG.set,List.getElem?_map,List.getElem?_set,List.length_map,List.length_range];by_cases e:i=j
    . subst e;simp [hi,AA,bi]
    . rw [if_neg e];by_cases hj:j<s.nc
      . simp [hj,AA,bi,Ne.symm e]
      . simp [hj]
   rw [e];exact o
 . rw [Z .c (by simp) (by simp)];exact h.cn
 . rw [Z .wa (by simp) (by simp)];have e:iy (bi (bi H (.a i) Sl.nil) (.l i) Sl.nil) (2* ((s.del i).vars+1))=iy H (2* (s.vars+1)):=by
    rw [jm (by simp),jm (by simp)];rfl
   rw [e];exact h.wa.keep m fun k U=>Q (y:= .wa) (by simp) U
 . rw [Z .wa (by simp) (by simp)];exact h.wn
 . by_cases X:y= .l i
   . subst X;show Ow _ _ w' _ _ (((s.set (.a i) []).set (.l i) []).R (.l i));rw [aW,aK];exact Ow.nil _ _ _
   . by_cases O:y= .a i
     . subst O;show Ow _ _ w' _ _ (((s.set (.a i) []).set (.l i) []).R (.a i));rw [aP (by simp),aW,ak (by simp),aK];exact Ow.nil _ _ _
     . show Ow _ _ w' _ _ (((s.set (.a i) []).set (.l i) []).R y);rw [Z y O X,ak X,ak O];exact (h.row y Y).keep m fun k U=>Q (dh Y).2.1 (by rw [bK (dh Y).1];exact U)
 . by_cases X:y= .l i
   . subst X;show _=(((s.set (.a i) []).set (.l i) []).R (.l i)).length;rw [aW,aK];rfl
   . by_cases O:y= .a i
     . subst O;show _=(((s.set (.a i) []).set (.l i) []).R (.a i)).length;rw [aP (by simp),aW,ak (by simp),aK];rfl
     . show _=(((s.set (.a i) []).set (.l i) []).R y).length;rw [Z y O X,ak X,ak O];exact h.len y Y
theorem aG.yg {i:Int}:s.is i=true↔0<=i/\s.aQ i.toNat:=by
 unfold aG.is aG.aQ;simp only [Bool.and_eq_true,decide_eq_true_eq,Bool.not_eq_true'];constructor
 . rintro ⟨⟨h1,J⟩,I⟩;exact ⟨h1,by omega,I⟩
 . rintro ⟨h1,J,I⟩;exact ⟨⟨h1,by omega⟩,I⟩
def Nc (s:aG) (i:Nat):Prop:= ∃x∈s.R (.l i),0<s.val x/\s.j8 x=(i:Int)
theorem IP (h:PM w b H s) (g:aM s) (i:Int):Calls prog ee.id #[bR b,.int .i64 i] w fun e w'=> ∃r:Int,e= .returned (.int .i64 r)/\∃H',
 ((r=4/\s.is i=false/\Pw w w' b H H' s)\/(r=7/\s.is i=true/\Nc s i.toNat/\Pw w w' b H H' s)\/(r=0/\s.is i=true/\¬Nc s i.toNat/\Pw w w' b H H' (s.drop i.toNat))):=by
 refine ee.ah ?_;intro n1 w1 h1;have hA:=h.grow h1.mod;have e1:=h1.num;have U: ∀x,¬own b H x=some n1:=fun x e=>by have:=h.lt x n1 e;omega
 refine ⟨_,aR h1.has rfl,(zZ hA i).mono ?_⟩;rintro e w4 ⟨rfl,rfl⟩;refine ⟨_,rfl,?_⟩;cases hi:s.is i with
 |false=>exact cj rfl ⟨_,rfl,H,.inl ⟨rfl,rfl,Pw.refl hA h1.mod⟩⟩
 |true=>
  obtain ⟨i0,I⟩:=aG.yg.1 hi;obtain ⟨j,rfl⟩: ∃j:Nat,i=j:=⟨i.toNat,by omega⟩
  rw [Int.toNat_natCast] at I ⊢;have hD:=hA.drew;have dT:=g.cl j I;have k:=g.wf;refine bm rfl ⟨_,rfl,_,_,_,ad hD.st rfl,_,aR h1.has.drew rfl,hD.Jn I.1 rfl rfl fun a9 cg=> ⟨_,_,_,cg.get 1 _ rfl,?_⟩⟩;have c0:=h.len (.l j) rfl;rw [c0];refine ⟨fun V u m=> ∃v:Nat,V=v/\v<=(s.R (.l j)).length/\m=(s.R (.l j)).length - v/\aq w4 u/\∀q,q<v->¬(0<s.val ((s.R (.l j)).getD q 0)/\s.j8 ((s.R (.l j)).getD q 0)=(j:Int)),⟨_,0,rfl,Nat.zero_le _,rfl,(aE.refl _).drew,fun q hq=>by omega⟩,?_⟩;rintro V b6 m _ ⟨v,rfl,hv,rfl,O,aa⟩;have az:=hA.grow O;have J:=h1.has.grow O;refine ao (fun r2=> ?_) (fun r2=> ?_)
  . have r2:v< (s.R (.l j)).length:=by simpa using r2
    have a7:=bE r2;refine az.Hl (x:= .l j) rfl (by omega) (by omega) (by omega) fun dk _ a'=> ⟨_,a',?_⟩
    rw [Int.toNat_natCast];have step: ∀ {u:World},aq w4 u->¬(0<s.val ((s.R (.l j)).getD v 0)/\s.j8 ((s.R (.l j)).getD v 0)=(j:Int))->∃bk,bk< (s.R (.l j)).length - v/\∃v':Nat,IntKind.i64.wrap ((v:Int)+1)=v'/\v'<=(s.R (.l j)).length/\bk=(s.R (.l j)).length - v'/\aq w4 u/\∀q,q<v'->¬(0<s.val ((s.R (.l j)).getD q 0)/\s.j8 ((s.R (.l j)).getD q 0)=(j:Int)):=by
     intro u gu ax;refine ⟨_,?_,v+1,wN (by omega) (by omega),by omega,rfl,gu,fun q hq=> ?_⟩
     . omega
     . by_cases e:q=v
       . rw [e];exact ax
       . exact aa q (by omega)
    generalize (s.R (.l j)).getD v 0=X at*
    have av:=g.cv j I X a7;have c7:=av.aX;have hD:=az.drew;refine ⟨(·=b6.drew),rfl,(lK hD k av).mono ?_⟩;rintro e du ⟨rfl,rfl⟩;refine ⟨_,rfl,rfl,ao (fun r3=> ?_) (fun r3=>step O.drew fun hh=> ?_)⟩
    . have r3:0<s.val X:=by simpa using r3
      refine ⟨_,rfl,_,_,_,eF (ad hD.st rfl),(fU (av.bd g.d7) _).mono ?_⟩;rintro e dq ⟨rfl,rfl⟩;refine ⟨_,rfl,rfl,hD.tG (x:= .re) rfl (by omega) rfl (by rw [g.rl];omega) fun a25 _ bv=> ⟨_,eF bv,_,eF (aR J.drew rfl),ao (fun r4=> ?_) (fun r4=>step O.drew fun hh=> ?_)⟩⟩
      . have r4:s.j8 X=(j:Int):=beq_iff_eq.1 r4;exact ⟨_,rfl,H,.inr (.inl ⟨rfl,rfl,⟨X,a7,r3,r4⟩,Pw.refl hD (h1.mod.trans O.drew)⟩)⟩
      . have r4: ¬s.j8 X=(j:Int):=fun e=>by
         have e2:Pt.re.f ((s.R .re).getD (aX X).toNat 0)= .int .i64 (j:Int):=congrArg _ e;have e3:(s.R .re).getD (aX X).toNat 0=(j:Int):=e;rw [e3] at r4;simp at r4
        exact r4 hh.2
    . have r3: ¬0<s.val X:=by simpa using r3
      exact r3 hh.1
  . have r2:v=(s.R (.l j)).length:=by simp at r2;omega
    subst r2;have ax: ∀x∈s.R (.l j),¬(0<s.val x/\s.j8 x=(j:Int)):=fun x hx=>by
     obtain ⟨q,hq,e⟩:=List.mem_iff_getElem.1 hx;have:=aa q hq;simp only [List.getD,List.getElem?_eq_getElem hq,Option.getD_some,e] at this;exact this
    refine ⟨_,aR J rfl,(uf az g.d7 I.1 (g.cv j I) (by omega) fun q=>by have:=g.wl q;omega).mono ?_⟩;rintro e d4 ⟨rfl,H2,ay,kh⟩;have Q:=ay.pm;have bY:=J.keep ay.mod fun ⟨x,e⟩=>U x e;have bx:H2 .lo=H .lo:=kh _ (by simp);have Z:(lg j s ((s.R (.l j)).take 2)).R .lo=s.R .lo:=ij _ (by simp) _ _;have b8: ¬aI (H2 .lo).p=some n1:=fun e=>by rw [bx] at e;exact U .lo e
    have c1:=g.MX;refine ⟨rfl,_,rfl,_,_,_,ad Q.st rfl,(rh (Q.row .lo rfl) (Q.len .lo rfl) (by rw [Q.len .lo rfl,Z];omega) DN (fun x=>x==(j:Int)) fun x _ w' m=> ?_).mono ?_⟩
    . rw [uk];exact K3 (bY.keep m b8) x
    rintro e c3 ⟨rfl,aT,a8⟩;rw [Z] at aT ⊢;refine ⟨_,_,_,rfl,_,rfl,Q.head (x:= .lo) rfl aT (Q.DT rfl a8) (fun k Y=> .inl Y) rfl fun b7 a_ b9=> ?_⟩;have a6:=ay.trans (Pw.head (x:= .lo) (z:= .st) (by simp) a_ a8 (b9.mono fun k _ e=>by rw [e];rfl) fun k Y=> .inl Y);have bb:bF b7 n1 #[.int .i64 (j:Int)]:=J.keep a6.mod fun ⟨x,e⟩=>U x e;have hE:=a_.drew;refine ⟨_,rfl,_,_,_,ad hE.st rfl,_,aR bb.drew rfl,?_⟩;have b':(lg j s ((s.R (.l j)).take 2)).nc=s.nc:=(iw j _ _).2.1;refine hE.MT (i:=j) (by show j< (lg j s ((s.R (.l j)).take 2)).nc;rw [b'];exact I.1) rfl rfl fun d9 cT cb=> ?_;refine ⟨_,rfl,bi (bi (bi H2 .lo ⟨(H2 .lo).p,((s.R .lo).filter fun x=> !(x==(j:Int))).length,(H2 .lo).c⟩) (.a j) Sl.nil) (.l j) Sl.nil,.inr (.inr ⟨rfl,rfl,fun ⟨x,hx,h⟩=>ax x hx h,?_⟩)⟩;refine ((a6.drew).trans ⟨cT,cb.mono fun k _ e=> ⟨.c,e⟩,fun x k Y=> .inl ⟨x,?_⟩⟩).cP (h1.mod.trans O);by_cases a1:x= .l j
    . subst a1;rw [bK (by simp),aW] at Y;simp [aI,Sl.nil] at Y
    . rw [gq a1] at Y;by_cases a2:x= .a j
      . subst a2;rw [bK (by simp),aW] at Y;simp [aI,Sl.nil] at Y
      . rw [gq a2] at Y;exact Y
end
section
variable {w w' w0 w1 w2 w3:World} {b:Nat} {H H' H2:Pt->Sl} {s t u s' T:aG} {l x y:Int} {i:Nat}
def aG.kY (s:aG) (c m:List Int):aG:= {(s.set (.a s.nc) c).set (.l s.nc) m with nc:=s.nc+1,gone:=fun k=>if k=s.nc then false else s.gone k}
structure jT (s:aG) (c:List Int) (s':aG):Prop where
 v:s'.vars=s.vars
 n:s'.nc=s.nc+1
 g: ∀i,s'.gone i=if i=s.nc then false else s.gone i
 a: ∀i,s'.R (.a i)=if i=s.nc then c else s.R (.a i)
 tr:s'.R .tr=s.R .tr
 be:s'.R .be=s.R .be
theorem iF {c m:List Int} {y:Pt} (h1:y≠ .a s.nc) (I:y≠ .l s.nc):(s.kY c m).R y=s.R y:=by
 show ((s.set (.a s.nc) c).set (.l s.nc) m).R y=_;rw [ak I,ak h1]
theorem uQ {c m:List Int}:(s.kY c m).R (.l s.nc)=m:=by
 show ((s.set (.a s.nc) c).set (.l s.nc) m).R _=_;rw [aK]
theorem BP {c m:List Int}:(s.kY c m).R (.a s.nc)=c:=by
 show ((s.set (.a s.nc) c).set (.l s.nc) m).R (.a s.nc)=_;rw [ak (by simp),aK]
theorem EK (g:aM s) (hn:s.nc<262144) {c m l':List Int} (hv: ∀x∈m,dR s.vars x) (hd:m.Nodup) (hl:m.length<=4096) (hm: ∀x,x∈m↔x∈c) (hc:c.length<=4096) (pm:l'.Perm m) (hb:vD s.rk 2 l'):
 aM (jD (s.kY c m) s.nc l')/\jT s c (jD (s.kY c m) s.nc l'):=by
 obtain ⟨u,hu⟩: ∃u,u=wF (s.nc:Int) ((s.kY c m).set (.l s.nc) l') (l'.take 2):=⟨_,rfl⟩
 obtain ⟨d1,d2,d3,d4⟩:=mZ (s.nc:Int) (l'.take 2) ((s.kY c m).set (.l s.nc) l');rw [<- hu] at d1 d2 d3 d4;have b3:(s.kY c m).R .va=s.R .va:=iF (by simp) (by simp);have cm: ∀x,(s.kY c m).val x=s.val x:=fun x=>iI b3 x;obtain ⟨t,ht⟩: ∃t,t=jD (s.kY c m) s.nc l':=⟨_,rfl⟩
 have bY:(s.kY c m).R .lo=s.R .lo:=iF (by simp) (by simp);have tt:t=if l'.length<2\/s.val (l'.getD 1 0)<0 then u.set .lo (s.R .lo++ [(s.nc:Int)]) else u:=by
  rw [ht,hu];unfold jD;simp only [bY,cm]
 have uR: ∀y,(∀j,y≠Pt.w j)->y≠ .a s.nc->y≠ .l s.nc->u.R y=s.R y:=fun y h1 J h3=>by rw [hu,nZ _ h1,ak h3,iF J h3]
 have tR: ∀y,y≠ .lo->t.R y=u.R y:=fun y hy=>by
  rw [tt];split
  . exact ak hy
  . rfl
 have eR: ∀y,(∀j,y≠Pt.w j)->y≠ .lo->y≠ .a s.nc->y≠ .l s.nc->t.R y=s.R y:=fun y h1 J h3 h4=> (tR y J).trans (uR y h1 h3 h4);have el: ∀k,t.R (.l k)=if k=s.nc then l' else s.R (.l k):=fun k=>by
  rw [tR _ (by simp)];by_cases e:k=s.nc
  . rw [if_pos e,e,hu,nZ _ (by simp),aK]
  . rw [if_neg e];exact uR _ (by simp) (by simp) (by simpa using e)
 have ea: ∀k,t.R (.a k)=if k=s.nc then c else s.R (.a k):=fun k=>by
  rw [tR _ (by simp)];by_cases e:k=s.nc
  . rw [if_pos e,e,hu,nZ _ (by simp),ak (by simp),BP]
  . rw [if_neg e];exact uR _ (by simp) (by simpa using e) (by simp)
 have ew: ∀j q,q∈t.R (.w j)↔q∈s.R (.w j)\/(q=(s.nc:Int)/\∃x∈l'.take 2,aA x=j):=fun j q=>by
  rw [tR _ (by simp),hu,A_,ak (by simp),iF (by simp) (by simp)]
 have ln: ∀j q,q∈s.R (.w j)->q≠(s.nc:Int):=fun j q hq e=>by
  obtain ⟨k,e1,⟨e2,_⟩,_⟩:=g.w1 j q hq;omega
 have cg: ∀j,(t.R (.w j)).Nodup:=fun j=>by
  rw [tR _ (by simp),hu];refine qk _ j _ _ (rU (pm.nodup_iff.2 hd)) (by rw [ak (by simp),iF (by simp) (by simp)];exact g.w3 j) fun _=> ?_;rw [ak (by simp),iF (by simp) (by simp)];exact fun h=>ln j _ h rfl
 have a_:u.R .lo=s.R .lo:=uR _ (by simp) (by simp) (by simp);have b4: ∀q∈s.R .lo,q≠(s.nc:Int):=fun q hq e=>by
  obtain ⟨k,e1,⟨e2,_⟩⟩:=g.o1 q hq;omega
 have ag: ∀q,q∈t.R .lo↔q∈s.R .lo\/(q=(s.nc:Int)/\(l'.length<2\/s.val (l'.getD 1 0)<0)):=fun q=>by
  rw [tt];split
  . rename_i h;rw [aK,List.mem_append,List.mem_singleton];exact ⟨fun J=>J.imp id fun e=> ⟨e,h⟩,fun J=>J.imp id fun e=>e.1⟩
  . rename_i h;rw [a_];exact ⟨fun J=> .inl J,fun J=>J.elim id fun e=>absurd e.2 h⟩
 have b6:(t.R .lo).Nodup:=by
  rw [tt];split
  . rw [aK];exact pF g.o3 fun h=>b4 _ h rfl
  . rw [a_];exact g.o3
 have tv:t.vars=s.vars/\t.nc=s.nc+1/\t.gone=(fun k=>if k=s.nc then false else s.gone k)/\t.done=s.done:=by
  rw [tt];split
  . exact ⟨d1,d2,d3,d4⟩
  . exact ⟨d1,d2,d3,d4⟩
 rw [<- ht];clear ht tt tR uR a_ hu d1 d2 d3 d4;obtain ⟨Y,enc,b7,bv⟩:=tv;have Q: ∀k,t.aQ k↔s.aQ k\/k=s.nc:=fun k=>by
  show (k<t.nc/\t.gone k=false)↔_;rw [enc,b7];unfold aG.aQ;by_cases e:k=s.nc
  . simp [e]
  . simp only [if_neg e];constructor
    . rintro ⟨h1,J⟩;exact .inl ⟨by omega,J⟩
    . rintro (⟨h1,J⟩|h)
      . exact ⟨by omega,J⟩
      . exact absurd h e
 have ne: ∀k,s.aQ k->k≠s.nc:=fun k X e=>by have:=X.1;omega
 have O:=eR .tr (by simp) (by simp) (by simp) (by simp);have U:=eR .be (by simp) (by simp) (by simp) (by simp);have a6:=eR .ds (by simp) (by simp) (by simp) (by simp);have a7:=eR .va (by simp) (by simp) (by simp) (by simp);have bx:=eR .le (by simp) (by simp) (by simp) (by simp);have b_:=eR .re (by simp) (by simp) (by simp) (by simp);have ev: ∀x,t.val x=s.val x:=fun x=>iI a7 x;have b5: ∀x,t.bj x=s.bj x:=fun x=>by unfold aG.bj;rw [bx]
 have aT: ∀x,t.j8 x=s.j8 x:=fun x=>by unfold aG.j8;rw [b_]
 have a': ∀x∈l',dR s.vars x:=fun x I=>hv x (pm.mem_iff.1 I);have free: ¬(l'.length<2\/s.val (l'.getD 1 0)<0)->∀x∈l'.take 2,-x ∉ s.R .tr:=fun h x I e=>by
  have h1:2<=l'.length:=by omega
  have J:0<=s.val (l'.getD 1 0):=by omega
  have b':=List.mem_of_mem_take I;have a8:=(g.Fc (a' x b')).2 e;rcases gR.1 I with ⟨_,e3⟩| ⟨_,e3⟩
  . have:=hb 0 (by omega) 1 (by omega) (by omega);have hl:=g.LK (a' x b') a8;rw [e3] at a8 hl;unfold aG.rk at this;rw [if_pos (show s.val (l'.getD 1 0)>=0 from J),if_neg (show ¬s.val (l'.getD 0 0)>=0 by omega)] at this;omega
  . rw [e3] at a8;omega
 refine ⟨⟨by rw [Y];exact g.d7,by omega,by rw [a7,Y];exact g.va,by rw [a7];exact g.vb,by rw [bx,Y];exact g.le,by rw [b_,Y];exact g.rl,by rw [O,Y];exact g.tv,by rw [O];exact g.nd,fun x I=>by rw [ev,O];exact g.v1 x (by rw [Y] at I;exact I),
  by rw [U,O];exact g.bl,by rw [U];exact g.bs,by rw [a6,U];exact g.dl,by rw [U,a6];exact g.db,fun p hp=>by rw [O] at hp ⊢;rw [b5,U];exact g.lv p hp,fun p hp hm=>by rw [O] at hp ⊢;rw [aT];rw [U] at hm;exact g.Kx p hp hm,
  fun p hp hm=> ?_,by rw [bv,O];exact g.dn,fun k X x I=> ?_,fun k X=> ?_,fun k X=> ?_,fun k X x=> ?_,fun k=> ?_,fun j q hq=> ?_,fun k X x I=> ?_,cg,fun q hq=> ?_,fun k X h=> ?_,b6,fun k X h=> ?_,fun j hj k X h=> ?_⟩,
  ⟨Y,enc,fun k=>by rw [b7],ea,O,U⟩⟩
 . rw [O] at hp ⊢;rw [U] at hm;obtain ⟨k,e1,e2,e3,e4⟩:=g.IZ p hp hm;have aa:=ne k e2;exact ⟨k,by rw [aT];exact e1,(Q k).2 (.inl e2),by rw [el,if_neg aa];exact e3,fun x I hn=>e4 x (by rw [el,if_neg aa] at I;exact I) hn⟩
 . rw [Y];rw [el] at I;rcases (Q k).1 X with h|h
   . rw [if_neg (ne k h)] at I;exact g.cv k h x I
   . rw [if_pos h] at I;exact a' x I
 . rw [el];rcases (Q k).1 X with h|h
   . rw [if_neg (ne k h)];exact g.cn k h
   . rw [if_pos h];exact pm.nodup_iff.2 hd
 . rw [el];rcases (Q k).1 X with h|h
   . rw [if_neg (ne k h)];exact g.cl k h
   . rw [if_pos h,pm.length_eq];exact hl
 . rw [el,ea];rcases (Q k).1 X with h|h
   . rw [if_neg (ne k h),if_neg (ne k h)];exact g.ca k h x
   . rw [if_pos h,if_pos h,pm.mem_iff];exact hm x
 . rw [ea];split
   . exact hc
   . exact g.al k
 . rcases (ew j q).1 hq with h| ⟨e1,x,I,e3⟩
   . obtain ⟨k,e1,e2,x,I,e3⟩:=g.w1 j q h;exact ⟨k,e1,(Q k).2 (.inl e2),x,by rw [el,if_neg (ne k e2)];exact I,e3⟩
   . exact ⟨s.nc,e1,(Q _).2 (.inr rfl),x,by rw [el,if_pos rfl];exact I,e3⟩
 . rw [el] at I;rw [ew];rcases (Q k).1 X with h|h
   . rw [if_neg (ne k h)] at I;exact .inl (g.w2 k h x I)
   . rw [if_pos h] at I;exact .inr ⟨by rw [h],x,I,rfl⟩
 . rcases (ag q).1 hq with h| ⟨e1,_⟩
   . obtain ⟨k,e1,e2⟩:=g.o1 q h;exact ⟨k,e1,(Q k).2 (.inl e2)⟩
   . exact ⟨s.nc,e1,(Q _).2 (.inr rfl)⟩
 . rw [el] at h;rw [ag];rcases (Q k).1 X with J|J
   . rw [if_neg (ne k J)] at h;exact .inl (g.o2 k J h)
   . rw [if_pos J] at h;exact .inr ⟨by rw [J],.inl h⟩
 . intro x I y hy aa Z;rw [O,bv] at Z;rw [O];rw [el] at I hy;rcases (Q k).1 X with J|J
   . rw [if_neg (ne k J)] at I hy;exact g.wd k J (fun h3=>h ((ag _).2 (.inl h3))) x I y hy aa Z
   . rw [if_pos J] at I;exact absurd (List.mem_of_mem_take Z) (free (fun h3=>h ((ag _).2 (.inr ⟨by rw [J],h3⟩))) x I)
 . intro x I y hy aa Z;rw [U] at hj;rw [O,a6] at Z;rw [O,U];rw [el] at I hy;rcases (Q k).1 X with J|J
   . rw [if_neg (ne k J)] at I hy;exact g.wj j hj k J (fun h3=>h ((ag _).2 (.inl h3))) x I y hy aa Z
   . rw [if_pos J] at I;exact absurd (List.mem_of_mem_take Z) (free (fun h3=>h ((ag _).2 (.inr ⟨by rw [J],h3⟩))) x I)
theorem D5:nP prog gk i' 3 56=true:=by kernel_rfl
theorem PM.kY (h:PM w0 b H s) (g1:aq w0 w1) {A L:Sl} {c m:List Int} (oA:eC aC w1 A.p A.c c) (oL:eC aC w1 L.p L.c m) (nA:A.n=c.length) (nL:L.n=m.length)
 (fA: ∀k,aI A.p=some k->w0.heap.size<=k) (fL: ∀k,aI L.p=some k->w0.heap.size<=k) (aT: ∀k,aI A.p=some k->aI L.p≠some k) {n27:Nat} (hb:bF w1 n27 #[A.v,L.v,.bool false]) (hn:s.nc<=262144) {K:World->Prop}
 (I: ∀w3 H',Pw w0 w3 b H H' (s.kY c m)->K w3):
 ∃w2,∃ (J:Option Addr) (n' c':Nat),(Builtin.append_ #[gk,gk] gk #[.slice (H .c).p (H .c).n (H .c).c,.slice (some (Addr.mk n27 0 none)) 1 1]).run prog w1= .ok (.slice J n' c') w2/\
  aE (fun k=>aI (H .c).p=some k) w1 w2/\∃w3,af ((Addr.mk b 0 none).add 1) 0 [.slice J n' c'] w2 w3/\K w3:=by
 have h1:=h.grow g1;have vr:Vr 3 KT w1 (some ⟨n27,0,none⟩) [((A,L,false):Ce)]:=by
  intro j Y;have Y:j=0:=by simpa using Y
  subst Y;refine ⟨_,rfl,?_⟩;rw [Nat.zero_mul,cX];exact ⟨ad hb rfl,ad hb rfl,ad hb rfl,trivial⟩
 refine h1.c.oV Fy D5 vr (by rw [h.cn,p9]) rfl (by rw [p9];simp;omega) fun w2 J c' o2 m2 a6 b5=> ?_;have M2:aE (fun k=>aI (H .c).p=some k) w0 w2:=(g1.mono fun _ _ e=>e.elim).trans m2;refine ⟨m2,?_⟩;have z1:=g1.size;have U: ∀ {y:Pt} {k:Nat},y≠ .c->own b H y=some k->¬aI (H .c).p=some k:=fun Q I=>h.ir (x:= .c) (by simp) Q I;have f2: ∀k,aI J=some k->aI (H .c).p=some k\/w1.heap.size<=k:=fun k I=>by
  rcases a6 with rfl|rfl
  . exact .inl I
  . have:=bg I;exact .inr (by omega)
 have ag: ∀ {k:Nat},w0.heap.size<=k->k≠b:=fun I e=>by have:=h.lt .st b rfl;omega
 have ax:bF w2 b (xN s H):=h.st.keep M2 (U (y:= .st) (by simp) rfl);have i1:=l9 h.inj (x:= .a s.nc) (by simp) (q:=A) fun k e=> .inr (h.bW (fA k e));have i2:=l9 i1 (x:= .l s.nc) (by simp) (q:=L) fun k e=> .inr fun y O=>by
  by_cases ey:y= .a s.nc
  . subst ey;rw [bK (by simp),aW] at O;exact aT k O e
  . rw [gq ey] at O;exact h.bW (fL k e) y O
 have i3:=l9 i2 (x:= .c) (by simp) (q:=⟨J,s.nc+1,c'⟩) fun k e=>by
  rw [aP (by simp),aP (by simp)];rcases f2 k e with X|X
  . exact .inl X
  . refine .inr fun y O=> ?_;by_cases ey:y= .l s.nc
    . subst ey;rw [bK (by simp),aW] at O;have:=oL.lt k O;omega
    . rw [gq ey] at O;by_cases Z:y= .a s.nc
      . subst Z;rw [bK (by simp),aW] at O;have:=oA.lt k O;omega
      . rw [gq Z] at O;have:=h.lt y k O;omega
 have eH: ∀y,y≠ .a s.nc->y≠ .l s.nc->y≠ .c->bi (bi (bi H (.a s.nc) A) (.l s.nc) L) .c ⟨J,s.nc+1,c'⟩ y=H y:=fun y a1 a2 a3=>by rw [aP a3,aP a2,aP a1]
 have eA:bi (bi (bi H (.a s.nc) A) (.l s.nc) L) .c ⟨J,s.nc+1,c'⟩ (.a s.nc)=A:=by rw [aP (by simp),aP (by simp),aW]
 have eL:bi (bi (bi H (.a s.nc) A) (.l s.nc) L) .c ⟨J,s.nc+1,c'⟩ (.l s.nc)=L:=by rw [aP (by simp),aW]
 have en:(Ai H s.gone s.nc++ [((A,L,false):Ce)]).length=s.nc+1:=by simp [p9]
 rw [en];refine bZ (k:=1) (i:=0) ax rfl rfl fun w3 h3 m3=>I w3 (bi (bi (bi H (.a s.nc) A) (.l s.nc) L) .c ⟨J,s.nc+1,c'⟩) ⟨⟨?_,?_,?_,?_,?_,fun y Q=> ?_,fun y Q=> ?_,i3⟩,?_,fun y k e=> ?_⟩
 . have e:xN (s.kY c m) (bi (bi (bi H (.a s.nc) A) (.l s.nc) L) .c ⟨J,s.nc+1,c'⟩)=wr (xN s H) (0+1+0) [.slice J (s.nc+1) c']:=by
    simp [wr,xN,aG.kY,aG.set,bi,Sl.v]
   rw [e];exact h3
 . rw [aW];have e:Ai (bi (bi (bi H (.a s.nc) A) (.l s.nc) L) .c ⟨J,s.nc+1,c'⟩) (s.kY c m).gone (s.kY c m).nc=Ai H s.gone s.nc++ [((A,L,false):Ce)]:=by
    apply List.ext_getElem?;intro j;simp only [Ai,aG.kY,aG.set,List.getElem?_map,List.getElem?_append,List.length_map,List.length_range];by_cases Y:j<s.nc
    . have ay:j≠s.nc:=by omega
      simp [Y,show j<s.nc+1 by omega,AA,bi,ay]
    . rw [if_neg Y];by_cases e:j=s.nc
      . subst e;simp [AA,bi]
      . have: ¬j<s.nc+1:=by omega
        simp [this];omega
   rw [e];exact o2.keep m3 fun k I e=>by
    rcases f2 k I with X|X
    . exact U (y:= .st) (by simp) (k:=k) (by rw [e];rfl) X
    . exact ag (by omega) e
 . rw [aW];rfl
 . rw [eH .wa (by simp) (by simp) (by simp)];have e:iy (bi (bi (bi H (.a s.nc) A) (.l s.nc) L) .c ⟨J,s.nc+1,c'⟩) (2* ((s.kY c m).vars+1))=iy H (2* (s.vars+1)):=by
    rw [jm (by simp),jm (by simp),jm (by simp)];rfl
   rw [e];exact (h.wa.keep M2 fun k I=>U (y:= .wa) (by simp) I).keep m3 fun k I e=>by
    have:=h.inj .wa .st k I (by rw [e];rfl);cases this
 . rw [eH .wa (by simp) (by simp) (by simp)];exact h.wn
 . have kp: ∀ {T2:TypeId} {f:Int->Value} {q:Sl} {l:List Int},Ow f T2 w1 q.p q.c l->(∀k,aI q.p=some k->w0.heap.size<=k)->Ow f T2 w3 q.p q.c l:=fun o hf=> (o.keep m2 fun k I e=>by
    have:=h.lt .c k e;have:=hf k I;omega).keep m3 fun k I e=>ag (hf k I) e
   by_cases a1:y= .a s.nc
   . subst a1;rw [eA,BP];exact kp oA fA
   . by_cases a2:y= .l s.nc
     . subst a2;rw [eL,uQ];exact kp oL fL
     . rw [eH y a1 a2 (dh Q).2.1,iF a1 a2];exact ((h.row y Q).keep M2 fun k I=>U (dh Q).2.1 (by rw [bK (dh Q).1];exact I)).keep m3 fun k I e=>by
        have:=h.inj y .st k (by rw [bK (dh Q).1];exact I) (by rw [e];rfl);exact (dh Q).1 this
 . by_cases a1:y= .a s.nc
   . subst a1;rw [eA,BP];exact nA
   . by_cases a2:y= .l s.nc
     . subst a2;rw [eL,uQ];exact nL
     . rw [eH y a1 a2 (dh Q).2.1,iF a1 a2];exact h.len y Q
 . exact (M2.mono fun k _ e=> ⟨.c,e⟩).trans (m3.mono fun k _ e=> ⟨.st,by rw [e];rfl⟩)
 . by_cases a3:y= .c
   . subst a3;rw [bK (by simp),aW] at e;rcases f2 k e with X|X
     . exact .inl ⟨.c,X⟩
     . exact .inr (by omega)
   . rw [gq a3] at e;by_cases a2:y= .l s.nc
     . subst a2;rw [bK (by simp),aW] at e;exact .inr (fL k e)
     . rw [gq a2] at e;by_cases a1:y= .a s.nc
       . subst a1;rw [bK (by simp),aW] at e;exact .inr (fA k e)
       . rw [gq a1] at e;exact .inl ⟨y,e⟩
end
section
variable {w w' w0 w1 w2 w3:World} {b:Nat} {H H' H2:Pt->Sl} {s t u s' T:aG} {l x y:Int} {i:Nat}
def um (n:Nat) (c:List Int):Bool:=iu c && c.all (vU n)
theorem yV {p:Int->Bool}: ∀c:List Int,c.any (fun x=> !p x)= !c.all p
 | []=>rfl
 |a::l=>by rw [List.any_cons,List.all_cons,yV l];cases p a<;>rfl
theorem Is (k:Wf s) (hn:s.nc<262144) {c m:List Int}:Wf (s.kY c m):=by
 have e: ∀y,(∀i,y≠Pt.a i)->(∀i,y≠Pt.l i)->(s.kY c m).R y=s.R y:=fun y h1 I=>iF (h1 _) (I _);exact ⟨k.d7,by rw [e _ (by simp) (by simp)];exact k.va,by rw [e _ (by simp) (by simp)];exact k.vb,by rw [e _ (by simp) (by simp)];exact k.le,by rw [e _ (by simp) (by simp)];exact k.re,by rw [e _ (by simp) (by simp)];exact k.be,by rw [e _ (by simp) (by simp)];exact k.tr,hn⟩
theorem pI (h:PM w b H s) (g:aM s) {cp:Option Addr} {n cc:Nat} {c:List Int} (hc:Vw (Value.int .i64) w cp c) (hn:n=c.length) (hx:n<=maxLen):
 Calls prog fC.id #[bR b,.slice cp n cc] w fun e w'=> ∃O Q:Int,e= .returned (.tuple #[.int .i64 O,.int .i64 Q])/\∃s' H',Pw w w' b H H' s'/\aM s'/\
  ((O=0/\Q=1/\um s.vars c=false/\s'=s)\/(O=0/\Q=5/\um s.vars c=true/\s.nc=262144/\s'=s)\/(O=s.nc/\Q=0/\um s.vars c=true/\s.nc<262144/\jT s c s')):=by
 have k:=g.wf;refine fC.ah ?_;intro n1 w2 I;have hA:=h.grow I.mod;have e1:=I.num;have ag: ∀x,¬own b H x=some n1:=fun x e=>by have:=h.lt x n1 e;omega
 obtain ⟨av,dq⟩:=xq h k;refine ⟨_,aR I.has rfl,bm rfl ⟨_,aR I.has rfl,_,rfl,_,_,_,ad hA.st rfl,?_⟩⟩;rw [dq];have b8:um s.vars c=false->∀ {u:World},aq w2 u->∃O Q:Int,Ending.returned (.tuple #[.int .i64 0,.int .i64 1])= .returned (.tuple #[.int .i64 O,.int .i64 Q])/\∃s' H',Pw w u b H H' s'/\aM s'/\
  ((O=0/\Q=1/\um s.vars c=false/\s'=s)\/(O=0/\Q=5/\um s.vars c=true/\s.nc=262144/\s'=s)\/(O=s.nc/\Q=0/\um s.vars c=true/\s.nc<262144/\jT s c s')):=
  fun hb u gu=> ⟨0,1,rfl,s,H,(Pw.refl (hA.grow gu) gu).cP I.mod,g,.inl ⟨rfl,rfl,hb,rfl⟩⟩
 refine bm rfl ((fg (hc.grow I.mod) hn hx).mono ?_);rintro e w7 ⟨rfl,g7⟩;refine ⟨_,rfl,?_⟩;cases Y:iu c with
 |false=>exact cj rfl (b8 (by simp [um,Y]) g7)
 |true=>
 have h7:=hA.grow g7;have c2:=I.has.grow g7;refine bm rfl ((iA ((hc.grow I.mod).grow g7) hn hx FH (fun x=> !vU s.vars x) fun x _ w' gw=> ?_).mono ?_)
 . rw [uk];exact ML (h7.grow gw) k (c2.grow gw) x
 rintro e w9 ⟨rfl,g9⟩;have G9:=g7.trans g9;have cb:c.any (fun x=> !vU s.vars x)= !c.all (vU s.vars):=yV c;refine ⟨_,rfl,?_⟩;rw [cb];cases a6:c.all (vU s.vars) with
 |false=>exact cj rfl (b8 (by simp [um,a6]) G9)
 |true=>
 have b':um s.vars c=true:=by simp [um,Y,a6]
 have h9:=hA.grow G9;have c7:=I.has.grow G9;have ed: ∀x∈c,dR s.vars x:=fun x ec=> (ia k.d7).1 (List.all_eq_true.1 a6 x ec);have b6:=(fh Y).2;refine bm rfl ⟨_,aR c7 rfl,_,rfl,_,_,_,ad h9.st rfl,?_⟩;rw [h.cn];refine ao (fun r=> ?_) (fun r=> ?_)
 . have r:(s.nc:Int)=262144:=by simpa using r
   exact ⟨0,5,rfl,s,H,(Pw.refl h9 G9).cP I.mod,g,.inr (.inl ⟨rfl,rfl,b',by omega,rfl⟩)⟩
 have r: ¬(s.nc:Int)=262144:=by simpa using r
 have aT:s.nc<262144:=by have:=g.G1;omega
 refine (Cq ((hc.grow I.mod).grow G9) hn hx).mono ?_;rintro e J ⟨dd,ea,m,hm,rfl,ce,ef,f15⟩;rw [Y] at hm;simp only [if_true] at hm;subst hm;have U:=G9.trans ef;have cg:=hA.grow U;have X:=I.has.grow U;refine ⟨_,_,_,_,rfl,_,aR X rfl,_,rfl,_,_,_,ad cg.st rfl,?_⟩;have hD:=cg.drew;have b3: ¬aI (H .c).p=some n1:=fun e=>ag .c e;have aw: ∀ {a:Addr} {u:Value},J.drew.cell? a=some u->¬aI (H .c).p=some a.block->e_ (aE (fun k=>aI (H .c).p=some k) J.drew) a u:=fun hc c1 u' g=>gj g hc c1;have gm: ∀ {w1:World},aq J.drew w1->aE (fun k=>aI (H .c).p=some k) J.drew w1:=fun g=>g.mono fun _ _ e=>e.elim;have du: ¬aI (H .c).p=some b:=hD.ir (x:= .c) (by simp) (y:= .st) (by simp) rfl;refine ⟨aE (fun k=>aI (H .c).p=some k) J.drew,aE.refl _,_,aw (aR X.drew rfl) b3,_,aw (aR X.drew rfl) b3,_,rfl,_,_,_,aw (ad hD.st rfl) (by rw [cy];exact du),?_⟩;refine (je (((hc.grow I.mod).grow U).drew) hn (by omega)).mono ?_;rintro e en ⟨eg,c3,rfl,d8,a8,f26⟩;refine ⟨_,_,_,rfl,gm a8,?_⟩;intro n27 bY Z;have az:=a8.trans Z.mod;refine ⟨gm az,?_⟩;have zz:J.drew.heap.size=J.heap.size:=rfl;have GA:aq w2 bY:=U.trans ((aE.refl J).drew.trans az);have ey:=U.size;have s9:=G9.size;have tl:=hA.kY (w1:=bY) (A:=⟨eg,c.length,c3⟩) (L:=⟨dd,(bh c).length,ea⟩) (c:=c) (m:=bh c) GA (d8.grow Z.mod) ((ce.drew.grow a8).grow Z.mod) rfl rfl (fun k hk=>by have:=f26 k hk;omega) (fun k hk=>by have:=f15 k hk;omega)
  (fun k hk e=>by have:=f26 k hk;have:=ce.lt k e;omega) Z.has g.G1 (K:=fun ay=> ∃b9,ay.cell? (Addr.mk n1 0 none)=some (.pointer b9)/\Calls prog c4.id #[.pointer b9,.int .i64 (s.nc:Int)] ay fun e b7=>e= .returned (.tuple #[])/\
    ∃O Q:Int,Ending.returned (.tuple #[.int .i64 (s.nc:Int),.int .i64 0])= .returned (.tuple #[.int .i64 O,.int .i64 Q])/\∃s' H',Pw w b7 b H H' s'/\aM s'/\
    ((O=0/\Q=1/\um s.vars c=false/\s'=s)\/(O=0/\Q=5/\um s.vars c=true/\s.nc=262144/\s'=s)\/(O=s.nc/\Q=0/\um s.vars c=true/\s.nc<262144/\jT s c s'))) ?_
 . obtain ⟨wa,p',n',c',hr,bv,w3,cT,a7⟩:=tl;rw [h.cn] at hr ⊢;exact ⟨wa,p',n',c',hr,(gm az).trans bv,_,rfl,w3,cT,a7⟩
 . intro ay H2 a';have dT:=a'.pm;have b5:=I.has.keep a'.mod fun ⟨x,e⟩=>ag x e;have nm:=cE c;have c0:(bh c).Nodup:=nm.st.imp fun {a b} d5 e=>by subst e;exact oH a d5
   have dk:(bh c).length<=4096:=by have:=qJ c;omega
   have ar: ∀x∈bh c,dR s.vars x:=fun x hx=>ed x ((nm.mem x).1 hx);refine ⟨_,aR b5 rfl,(wv dT (Is k aT) (i:=s.nc) (Nat.lt_succ_self _) (by rw [uQ];exact ar) (by rw [uQ];omega) (fun j=>by rw [iF (by simp) (by simp)];have:=g.wl j;omega) (by rw [iF (by simp) (by simp)];have:=g.MX;omega)).mono ?_⟩;rintro e b7 ⟨rfl,l',H3,a_,pm,d9,_,_⟩;rw [uQ] at pm;have aa:vD s.rk 2 l':=fun t ht j h1 I=>by
    have:=a_ t ht j h1 I;rw [E6 (s:=s) (iF (by simp) (by simp)) (iF (by simp) (by simp)),E6 (s:=s) (iF (by simp) (by simp)) (iF (by simp) (by simp))] at this;exact this
   obtain ⟨G',A'⟩:=EK g aT ar c0 dk (fun x=>nm.mem x) b6 pm aa;exact ⟨rfl,_,_,rfl,_,H3,(a'.trans d9).cP I.mod,G',.inr (.inr ⟨rfl,rfl,b',aT,A'⟩)⟩
end
end Go.Proofs.YtenmibfmhccmiaaGreat.W
namespace Go.Fw
open Go Go.RowKit
variable {α:Type} {f:α->Value} {w w':World} {p:Option Addr} {hs:List Sl} {rows:List (List α)}
def FW (p:Option Addr) (hs:List Sl) (k:Nat):Prop:=(hs≠[]/\aI p=some k)\/ET hs k
theorem V2.nf {S:Nat->Prop} (h:V2 f w p hs rows) (m:aE S w w') (O: ∀k,FW p hs k->¬S k):V2 f w' p hs rows:=
 (h.vr.keep m fun k J=>O k (.inr J)).v2 (h.h.nf m fun I k J=>O k (.inl ⟨I,J⟩))
theorem V2.Lm (h:V2 f w p hs rows): ∀k,FW p hs k->k<w.heap.size:=by
 rintro k (⟨I,J⟩|J)
 . exact h.h.lt I k J
 . exact h.vr.lt k J
theorem V2.K6 {S:Nat->Prop} {w0:World} (h:V2 f w p hs rows) (I: ∀k,FW p hs k->k<w0.heap.size) (m:aE S w w') (J: ∀k,S k->w0.heap.size<=k):V2 f w' p hs rows:=
 h.nf m fun k O hs=>by have:=I k O;have:=J k hs;omega
end Go.Fw
namespace Go.Proofs.YtenmibfmhccmiaaGreat.W
open Go Go.Fw Go.RowKit Go.SoP Go.LiP
open Go.Proofs.Tryz (prog)
section
variable {w w' w0 w1 w2 w3:World} {b:Nat} {H H' H2:Pt->Sl} {s t u s' T:aG} {l x y:Int} {i:Nat}
theorem Az:lN prog jX aJ 24=true:=by kernel_rfl
theorem Hf:(Tryz.prog.info? aJ).bind (·.zero)=some (.slice none 0 0):=by kernel_rfl
theorem IU:(Tryz.prog.info? sI).bind (·.zero)=some (.int .i8 0):=by kernel_rfl
def aG.new (k:Nat):aG:= {vars:=k,nc:=0,gone:=fun _=>false,done:=0,R:=fun x=>match x with| .va| .le| .re=>List.replicate (k+1) 0|_=> []}
def D2 (k a v l r:Nat):Pt->Sl
 | .wa=> ⟨some ⟨a,0,none⟩,2* (k+1),2* (k+1)⟩
 | .va=> ⟨some ⟨v,0,none⟩,k+1,k+1⟩
 | .le=> ⟨some ⟨l,0,none⟩,k+1,k+1⟩
 | .re=> ⟨some ⟨r,0,none⟩,k+1,k+1⟩
 |_=>Sl.nil
theorem FD {k:Nat} (Q:k<=1048576):aM (aG.new k):=by
 have e0: ∀ (n i:Nat),(List.replicate n (0:Int)).getD i 0=0:=fun n i=>by
  simp only [List.getD_eq_getElem?_getD,List.getElem?_replicate];split<;>rfl
 refine ⟨Q,by simp [aG.new],by simp [aG.new],fun i=> .inl (e0 _ _),by simp [aG.new],by simp [aG.new],fun x O=>by simp [aG.new] at O,by simp [aG.new],fun x O=> ?_,fun j I=>by simp [aG.new] at I,fun i j _ I=>by simp [aG.new] at I,rfl,fun j I=>by simp [aG.new] at I,
  fun p hp=>by simp [aG.new] at hp,fun p hp=>by simp [aG.new] at hp,fun p hp=>by simp [aG.new] at hp,Nat.le_refl _,fun i hi=>absurd hi.1 (Nat.not_lt_zero _),fun i hi=>absurd hi.1 (Nat.not_lt_zero _),fun i hi=>absurd hi.1 (Nat.not_lt_zero _),fun i hi=>absurd hi.1 (Nat.not_lt_zero _),fun i=>by simp [aG.new],
  fun j c J=>by simp [aG.new] at J,fun i hi=>absurd hi.1 (Nat.not_lt_zero _),fun j=>by simp [aG.new],fun c J=>by simp [aG.new] at J,fun i hi=>absurd hi.1 (Nat.not_lt_zero _),by simp [aG.new],fun i hi=>absurd hi.1 (Nat.not_lt_zero _),fun j I=>by simp [aG.new] at I⟩
 have:(aG.new k).val x=0:=by
  unfold aG.val;show (if x<0 then -(List.replicate (k+1) (0:Int)).getD _ 0 else (List.replicate (k+1) (0:Int)).getD _ 0)=0;rw [e0,e0];simp
 rw [this];simp [aG.new]
def GZ (k t:Nat) (u:World) (g:Nat):Prop:=
 match t with
 |0=>Ow Sl.v aJ u (some ⟨g,0,none⟩) (2* (k+1)) (List.replicate (2* (k+1)) Sl.nil)
 |1=>Ow (Value.int .i8) sI u (some ⟨g,0,none⟩) (k+1) (List.replicate (k+1) 0)
 |_=>eC aC u (some ⟨g,0,none⟩) (k+1) (List.replicate (k+1) 0)
structure Zn (w0:World) (k:Nat) (u:World) (L:List (Nat × Nat)):Prop where
 g:aq w0 u
 o: ∀t g,(t,g)∈L->GZ k t u g/\w0.heap.size<=g/\g<u.heap.size
 d: ∀t t' g,(t,g)∈L->(t',g)∈L->t=t'
theorem GZ.grow {k t g:Nat} (h:GZ k t w g) (m:aq w w'):GZ k t w' g:=by
 unfold GZ at*
 split at h<;>exact Ow.grow h m
variable {k:Nat} {L:List (Nat × Nat)}
theorem Zn.cons (z:Zn w0 k w L) {t:Nat} {o:GZ k t w' w.heap.size} (m:aq w w') (hs:w'.heap.size=w.heap.size+1):Zn w0 k w' ((t,w.heap.size)::L):=by
 refine ⟨z.g.trans m,fun X g hm=> ?_,fun U Q g h1 I=> ?_⟩
 . rcases List.mem_cons.1 hm with e|hm
   . injection e with O J;subst O J;exact ⟨o,z.g.size,by omega⟩
   . obtain ⟨a,b,c⟩:=z.o X g hm;exact ⟨a.grow m,b,by omega⟩
 . rcases List.mem_cons.1 h1 with O|h1<;>rcases List.mem_cons.1 I with J|I
   . injection O with a1 a2;injection J with b1 b2;omega
   . injection O with a1 a2;have:=(z.o Q g I).2.2;omega
   . injection J with a1 a2;have:=(z.o U g h1).2.2;omega
   . exact z.d U Q g h1 I
theorem Zn.m0 (z:Zn w0 k w L) (O:k<=1048576) {n:Int} (hn:n=((2* (k+1):Nat):Int)) {K:World->Option Addr->Nat->Nat->Prop}
 (J: ∀u,Zn w0 k u ((0,w.heap.size)::L)->K u (some ⟨w.heap.size,0,none⟩) (2* (k+1)) (2* (k+1))):
 ∃w',∃I n' c',(Instr.makeSlice jX (.int .i64 n) (.int .i64 n)).run prog w= .ok (.slice I n' c') w'/\K w' I n' c':=
 nW (f:=Sl.v) (x:=Sl.nil) Az Hf rfl (2* (k+1)) hn (by omega) fun u o m hs=>J u (z.cons (t:=0) (o:=o) m hs)
theorem Zn.m1 (z:Zn w0 k w L) (O:k<=1048576) {n:Int} (hn:n=((k+1:Nat):Int)) {K:World->Option Addr->Nat->Nat->Prop}
 (J: ∀u,Zn w0 k u ((1,w.heap.size)::L)->K u (some ⟨w.heap.size,0,none⟩) (k+1) (k+1)):
 ∃w',∃I n' c',(Instr.makeSlice uU (.int .i64 n) (.int .i64 n)).run prog w= .ok (.slice I n' c') w'/\K w' I n' c':=
 nW (f:=Value.int .i8) (x:=0) If IU rfl (k+1) hn (by omega) fun u o m hs=>J u (z.cons (t:=1) (o:=o) m hs)
theorem Zn.m2 (z:Zn w0 k w L) (O:k<=1048576) {n:Int} (hn:n=((k+1:Nat):Int)) {K:World->Option Addr->Nat->Nat->Prop}
 (J: ∀u,Zn w0 k u ((L.length+2,w.heap.size)::L)->K u (some ⟨w.heap.size,0,none⟩) (k+1) (k+1)):
 ∃w',∃I n' c',(Instr.makeSlice aJ (.int .i64 n) (.int .i64 n)).run prog w= .ok (.slice I n' c') w'/\K w' I n' c':=
 nW (f:=Value.int .i64) (x:=0) dN ip rfl (k+1) hn (by omega) fun u o m hs=>J u (z.cons (t:=L.length+2) (o:=o) m hs)
theorem Zn.pm (z:Zn w0 k w L) {a v l r t Q:Nat} (ha:(0,a)∈L) (hv:(1,v)∈L) (hl:(t+2,l)∈L) (hr:(Q+2,r)∈L) (ht:t≠Q) {n:Nat}
 (h:bc (.cells #[.int .i64 k,.slice none 0 0,.slice (some ⟨a,0,none⟩) (2* (k+1)) (2* (k+1)),.slice (some ⟨v,0,none⟩) (k+1) (k+1),.slice (some ⟨l,0,none⟩) (k+1) (k+1),.slice (some ⟨r,0,none⟩) (k+1) (k+1),.slice none 0 0,.slice none 0 0,.slice none 0 0,.int .i64 0,.slice none 0 0] qg) w n w'):
 PM w' n (D2 k a v l r) (aG.new k)/\aq w0 w'/\∀x j,own n (D2 k a v l r) x=some j->w0.heap.size<=j:=by
 obtain ⟨oa,ga,la⟩:=z.o _ _ ha;obtain ⟨ov,gv,lv⟩:=z.o _ _ hv;obtain ⟨ol,gl,ll⟩:=z.o _ _ hl;obtain ⟨O,gr,lr⟩:=z.o _ _ hr;have en:=h.num;have gz:=z.g.size;have J: ∀ {t1 Y X Z:Nat},(t1,X)∈L->(Y,Z)∈L->t1≠Y->X≠Z:=fun h1 h2 U e=>U (z.d _ _ _ h1 (e▸h2));have av:=J ha hv (by omega);have al:=J ha hl (by omega);have ar:=J ha hr (by omega);have vl:=J hv hl (by omega);have vr:=J hv hr (by omega);have ax:=J hl hr (by omega);have qD: ∀x j,own n (D2 k a v l r) x=some j->(x= .st/\j=n)\/(x= .wa/\j=a)\/(x= .va/\j=v)\/(x= .le/\j=l)\/(x= .re/\j=r):=by
  intro x j I;cases x<;>simp [own,D2,aI,Sl.nil] at I<;>simp [I]
 refine ⟨⟨h.has,Row.nil _ _ _ _,rfl,?_,rfl,fun x I=> ?_,fun x I=> ?_,fun x y j I hy=> ?_⟩,z.g.trans h.mod,fun x j I=> ?_⟩
 . have e:iy (D2 k a v l r) (2* ((aG.new k).vars+1))=List.replicate (2* (k+1)) Sl.nil:=by
    unfold iy;rw [List.eq_replicate_iff];refine ⟨by simp [aG.new],fun q hq=> ?_⟩;obtain ⟨j,_,rfl⟩:=List.mem_map.1 hq;rfl
   rw [e];exact GZ.grow (t:=0) oa h.mod
 . cases x<;>first| (exact Ow.nil _ _ _)| (simp [Pt.row] at I;done)| (exact GZ.grow (t:=1) ov h.mod)| (exact GZ.grow (t:=t+2) ol h.mod)| (exact GZ.grow (t:=Q+2) O h.mod)
 . cases x<;>first| (simp [Pt.row] at I;done)| (simp [D2,aG.new,Sl.nil])
 . rcases qD x j I with ⟨rfl,rfl⟩| ⟨rfl,rfl⟩| ⟨rfl,rfl⟩| ⟨rfl,rfl⟩| ⟨rfl,rfl⟩<;>rcases qD y _ hy with ⟨rfl,e⟩| ⟨rfl,e⟩| ⟨rfl,e⟩| ⟨rfl,e⟩| ⟨rfl,e⟩<;>first|rfl|omega
 . rcases qD x j I with ⟨_,rfl⟩| ⟨_,rfl⟩| ⟨_,rfl⟩| ⟨_,rfl⟩| ⟨_,rfl⟩<;>omega
structure FX (k:Nat) (cs:List (List Int)) (s:aG):Prop where
 v:s.vars=k
 n:s.nc=cs.length
 g: ∀i,i<cs.length->s.gone i=false
 a: ∀i,i<cs.length->s.R (.a i)=cs.getD i []
 tr:s.R .tr= []
 be:s.R .be= []
theorem yb {k:Int} {q:Option Addr} {m d:Nat} {hs:List Sl} {cs:List (List Int)} (hc:V2 (Value.int .i64) w q hs cs) (hm:m=cs.length):
 Calls prog mr.id #[.agg #[.int .i64 k,.slice q m d]] w fun e w'=> (dH k cs=false/\e= .returned (.tuple #[.pointer none,.int .i64 1])/\aq w w')\/
  (dH k cs=true/\∃ (b:Nat) (s:aG) (H:Pt->Sl),e= .returned (.tuple #[bR b,.int .i64 0])/\PM w' b H s/\aM s/\FX k.toNat cs s/\aq w w'/\∀x j,own b H x=some j->w.heap.size<=j):=by
 refine mr.ah ?_;intro n1 w2 Q;have av:=hc.grow Q.mod;refine ⟨_,_,_,_,⟨ad Q.has rfl,ad Q.has rfl,trivial⟩,(jJ av hm).mono ?_⟩;rintro e J ⟨rfl,U⟩;refine ⟨_,rfl,?_⟩;cases O:dH k cs with
 |false=>exact cj rfl (.inl ⟨rfl,rfl,Q.mod.trans U⟩)
 |true=>
 have hb:0<=k/\k<=1048576/\cs.length<=262144:=by
  unfold dH at O;simp only [Bool.and_eq_true,decide_eq_true_eq] at O;exact O.1
 obtain ⟨I,rfl⟩: ∃I:Nat,k=I:=⟨k.toNat,by omega⟩
 have Y:I<=1048576:=by omega
 have H5:=Q.has.grow U;have e1:IntKind.i64.wrap ((I:Int)+1)=((I+1:Nat):Int):=wN rfl (by omega);have e2:IntKind.i64.wrap (2* ((I+1:Nat):Int))=((2* (I+1):Nat):Int):=wN (by omega) (by omega);refine bm rfl ⟨_,ad H5 rfl,?_⟩;rw [e1,e2];have z0:Zn J.drew I J.drew []:=⟨aE.refl _,fun t g h=>by simp at h,fun t t' g h=>by simp at h⟩
 refine ⟨fun p u=> ∃ (n:Nat) (H:Pt->Sl),p=(⟨n,0,none⟩:Addr)/\PM u n H (aG.new I)/\aq J u/\∀x j,own n H x=some j->J.heap.size<=j,?_,?_⟩
 . refine ⟨fun u=>aq J.drew u,aE.refl _,_,fun u g=>ad (H5.drew.grow g) rfl,?_⟩;have fI: ∀ {u u':World} {L:List (Nat × Nat)} {a v l r t t' n:Nat},Zn J.drew I u L->(0,a)∈L->(1,v)∈L->(t+2,l)∈L->(t'+2,r)∈L->t≠t'->
    bc (.cells #[.int .i64 I,.slice none 0 0,.slice (some ⟨a,0,none⟩) (2* (I+1)) (2* (I+1)),.slice (some ⟨v,0,none⟩) (I+1) (I+1),.slice (some ⟨l,0,none⟩) (I+1) (I+1),.slice (some ⟨r,0,none⟩) (I+1) (I+1),.slice none 0 0,.slice none 0 0,.slice none 0 0,.int .i64 0,.slice none 0 0] qg) u n u'->
    ∃ (n':Nat) (H:Pt->Sl),Addr.mk n 0 none=(⟨n',0,none⟩:Addr)/\PM u' n' H (aG.new I)/\aq J u'/\∀x j,own n' H x=some j->J.heap.size<=j:=by
    intro u u' L a v l r t t' n z ha hv hl hr ht h;obtain ⟨p1,p2,p3⟩:=z.pm ha hv hl hr ht h;exact ⟨n,_,rfl,p1,(aE.refl J).drew.trans p2,fun x j e=>p3 x j e⟩
   repeat' first
    | (with_reducible refine Zn.m0 (L:=_) (by assumption) Y rfl fun u z=> ⟨z.g,?_⟩)
    | (with_reducible refine Zn.m1 (L:=_) (by assumption) Y rfl fun u z=> ⟨z.g,?_⟩)
    | (with_reducible refine Zn.m2 (L:=_) (by assumption) Y rfl fun u z=> ⟨z.g,?_⟩)
    | (intro n w' h
       exact fI (by assumption) (by first|exact List.mem_cons_self .. |exact List.mem_cons_of_mem _ (List.mem_cons_self ..)|exact List.mem_cons_of_mem _ (List.mem_cons_of_mem _ (List.mem_cons_self ..))|exact List.mem_cons_of_mem _ (List.mem_cons_of_mem _ (List.mem_cons_of_mem _ (List.mem_cons_self ..)))) (by first|exact List.mem_cons_self .. |exact List.mem_cons_of_mem _ (List.mem_cons_self ..)|exact List.mem_cons_of_mem _ (List.mem_cons_of_mem _ (List.mem_cons_self ..))|exact List.mem_cons_of_mem _ (List.mem_cons_of_mem _ (List.mem_cons_of_mem _ (List.mem_cons_self ..)))) (by first|exact List.mem_cons_self .. |exact List.mem_cons_of_mem _ (List.mem_cons_self ..)|exact List.mem_cons_of_mem _ (List.mem_cons_of_mem _ (List.mem_cons_self ..))|exact List.mem_cons_of_mem _ (List.mem_cons_of_mem _ (List.mem_cons_of_mem _ (List.mem_cons_self ..)))) (by first|exact List.mem_cons_self .. |exact List.mem_cons_of_mem _ (List.mem_cons_self ..)|exact List.mem_cons_of_mem _ (List.mem_cons_of_mem _ (List.mem_cons_self ..))|exact List.mem_cons_of_mem _ (List.mem_cons_of_mem _ (List.mem_cons_of_mem _ (List.mem_cons_self ..)))) (by simp) h)
    |with_reducible refine And.intro ?_ ?_
 . rintro _ aa _ ⟨b,H,rfl,p0,g0,f0⟩;have ag:=H5.grow g0;have V0:=(av.grow U)
   refine ⟨_,_,_,ad ag rfl,?_⟩;have kz:=FD Y;refine ⟨fun V u z=> ∃ (v:Nat) (s:aG) (H':Pt->Sl),V=v/\v<=cs.length/\z=cs.length - v/\Pw aa u b H H' s/\aM s/\FX I (cs.take v) s,⟨_,0,aG.new I,H,rfl,Nat.zero_le _,rfl,Pw.refl p0 (aE.refl _),kz,⟨rfl,by simp [aG.new],fun i hi=>by simp at hi,fun i hi=>by simp at hi,rfl,rfl⟩⟩,?_⟩;rintro V u z _ ⟨v,s,H',rfl,hv,rfl,Z,gs,nw⟩;have hu:=Z.pm;have vV:V2 (Value.int .i64) u q hs cs:=(V0.grow g0).K6 (w0:=J) V0.Lm Z.mod fun k ⟨x,e⟩=>f0 x k e;refine ao (fun r=> ?_) (fun r=> ?_)
   . have r:v<cs.length:=by rw [hm] at r;simpa using r
     refine vV.ix (by omega) hm (by omega) fun a sl h1 h0 k2 h3 h4=> ⟨_,_,_,h1,?_⟩
     rw [Int.toNat_natCast] at k2 h4;refine (pI hu gs h4 k2 h3).mono ?_;rintro e bY ⟨r1,r2,rfl,s',H2,P2,g2,hr⟩;have a8:um s.vars (cs.getD v [])=true:=by
      have:=O;unfold dH at this;simp only [Bool.and_eq_true] at this;have ar:cs.getD v []∈cs:=by simp [List.getD,r]
      have hh:=List.all_eq_true.1 this.2 _ ar;simp only [Bool.and_eq_true] at hh;unfold um;rw [hh.1,Bool.true_and,List.all_eq_true];intro x hx;unfold vU;have h5:=(fh hh.1).1 x hx;have h6:=List.all_eq_true.1 hh.2 x hx;rw [h5,nw.v];simpa using h6
     have b7:s.nc<262144:=by rw [nw.n,List.length_take];omega
     have X:jT s (cs.getD v []) s':=by
      rcases hr with ⟨_,_,h,_⟩| ⟨_,_,_,h,_⟩| ⟨_,_,_,_,h⟩
      . rw [a8] at h;cases h
      . omega
      . exact h
     have aw:s.nc=v:=by rw [nw.n,List.length_take];omega
     refine ⟨_,_,rfl,_,?_,v+1,s',H2,wN (by omega) (by omega),r,rfl,Z.trans P2,g2,⟨X.v.trans nw.v,by rw [X.n,aw,List.length_take];omega,fun i hi=> ?_,fun i hi=> ?_,X.tr.trans nw.tr,X.be.trans nw.be⟩⟩
     . omega
     . rw [X.g];rw [List.length_take] at hi;split
       . rfl
       . exact nw.g i (by rw [List.length_take];omega)
     . rw [X.a];rw [List.length_take] at hi;have e5:(cs.take (v+1)).getD i []=cs.getD i []:=by
        simp only [List.getD_eq_getElem?_getD,List.getElem?_take];rw [if_pos (by omega)]
       rw [e5,aw];split
       . rename_i e;rw [e]
       . rw [nw.a i (by rw [List.length_take];omega)];simp only [List.getD_eq_getElem?_getD,List.getElem?_take];rw [if_pos (by omega)]
   . have r:v=cs.length:=by rw [hm] at r;simp at r;omega
     subst r;rw [List.take_length] at nw;refine .inr ⟨rfl,b,s,H',rfl,hu,gs,nw,?_,fun x j e=> ?_⟩
     . exact (Q.mod.trans (U.trans g0)).then Z.mod fun k Y ⟨x,e⟩=>by
        have:=f0 x k e;have:=(Q.mod.trans U).size;omega
     . have:=(Q.mod.trans U).size;rcases Z.ft x j e with ⟨y,e2⟩|e2
       . have:=f0 y j e2;omega
       . have:=g0.size;omega
end
section
variable {s t u s':aG} {l x y:Int} {i:Nat}
def jG (t:List Int):List Int->Int->Int
 | [],o=>o
 |x::c,o=>if x∈t then 0 else if -x∈t\/x=o then jG t c o else if o≠0 then 0 else jG t c x
def df (c t:List Int):Int:=jG t c 0
def cR (c t:List Int):Bool:=c.all fun x=>decide (-x∈t)
theorem qN {t:List Int}: ∀ (c:List Int) (o:Int),(∀y∈c,y≠0)->jG t c o≠0->(∀y∈c,y ∉ t/\(y=jG t c o\/ -y∈t))/\(jG t c o=o\/(o=0/\jG t c o∈c/\ -(jG t c o) ∉ t))
 | [],o,_,_=> ⟨fun y I=>by simp at I,.inl rfl⟩
 |x::c,o,nz,h=>by
  have O: ∀y∈c,y≠0:=fun y I=>nz y (List.mem_cons_of_mem _ I);have U:x≠0:=nz x (List.mem_cons_self ..);unfold jG at h ⊢;by_cases h1:x∈t
  . rw [if_pos h1] at h;exact absurd rfl h
  . rw [if_neg h1] at h ⊢;by_cases J: -x∈t\/x=o
    . rw [if_pos J] at h ⊢;obtain ⟨a,b⟩:=qN c o O h;refine ⟨fun y I=> ?_,b.imp id fun e=> ⟨e.1,List.mem_cons_of_mem _ e.2.1,e.2.2⟩⟩;rcases List.mem_cons.1 I with rfl|I
      . refine ⟨h1,?_⟩;rcases J with J|J
        . exact .inr J
        . rcases b with b| ⟨b,_⟩
          . exact .inl (J.trans b.symm)
          . omega
      . exact a y I
    . rw [if_neg J] at h ⊢;by_cases Q:o≠0
      . rw [if_pos Q] at h;exact absurd rfl h
      . rw [if_neg Q] at h ⊢;obtain ⟨a,b⟩:=qN c x O h;have Q:o=0:=by omega
        have X: -x ∉ t:=fun e=>J (.inl e);have ex:jG t c x=x:=by
         rcases b with b| ⟨b,_⟩
         . exact b
         . exact absurd b U
        refine ⟨fun y I=> ?_,.inr ⟨Q,by rw [ex];exact List.mem_cons_self ..,by rw [ex];exact X⟩⟩;rcases List.mem_cons.1 I with rfl|I
        . exact ⟨h1,.inl ex.symm⟩
        . exact a y I
theorem kK {c t:List Int} (nz: ∀y∈c,y≠0) (h:df c t≠0):df c t∈c/\df c t ∉ t/\ -(df c t) ∉ t/\∀y∈c,y=df c t\/ -y∈t:=by
 obtain ⟨a,b⟩:=qN c 0 nz h;rcases b with b| ⟨_,b1,b2⟩
 . exact absurd b h
 . exact ⟨b1,(a _ b1).1,b2,fun y I=> (a y I).2⟩
theorem kW {t:List Int} {l:Int} (O:l≠0) (hn: -l ∉ t): ∀ (c:List Int) (o:Int),(∀y∈c,y ∉ t/\(y=l\/ -y∈t))->(o=l\/(o=0/\l∈c))->jG t c o=l
 | [],o,_,I=>by
   rcases I with I| ⟨_,h⟩
   . exact I
   . simp at h
 |x::c,o,hc,I=>by
  have U:=hc x (List.mem_cons_self ..);have Q: ∀y∈c,y ∉ t/\(y=l\/ -y∈t):=fun y Y=>hc y (List.mem_cons_of_mem _ Y);unfold jG;rw [if_neg U.1];by_cases e:x=l
  . subst e;by_cases J: -x∈t\/x=o
    . rw [if_pos J];refine kW O hn c o Q ?_;rcases J with J|J
      . exact absurd J hn
      . exact .inl J.symm
    . rw [if_neg J];rcases I with I| ⟨I,_⟩
      . exact absurd (Or.inr I.symm) J
      . rw [if_neg (by omega)];exact kW O hn c x Q (.inl rfl)
  . have X: -x∈t:=U.2.resolve_left e;rw [if_pos (.inl X)];refine kW O hn c o Q (I.imp id fun h=> ⟨h.1,?_⟩);rcases List.mem_cons.1 h.2 with h|h
    . exact absurd h.symm e
    . exact h
theorem cO {c t:List Int}:cR c t=true↔∀x∈c,-x∈t:=by
 unfold cR;simp [List.all_eq_true]
inductive BD (cs:List (List Int)) (d:List Int):List Int->Prop
 |refl:BD cs d d
 |step {t:List Int} {c:List Int}:BD cs d t->c∈cs->df c t≠0->BD cs d (t++ [df c t])
def aG.BR (s:aG) (c:List Int):Prop:= ∃i,s.aQ i/\s.R (.a i)=c
def aG.sE (s:aG):List Int:=(s.R .be).map fun e=> (s.R .tr).getD e.toNat 0
theorem aM.Kd (g:aM s) {c:List Int} (h:s.BR c): ∀x∈c,dR s.vars x:=by
 obtain ⟨i,hi,rfl⟩:=h;exact fun x I=>g.cv i hi x ((g.ca i hi x).2 I)
theorem aM.IT (g:aM s): ∀x∈s.sE,x∈s.R .tr:=by
 intro x O;obtain ⟨e,he,rfl⟩:=List.mem_map.1 O;obtain ⟨j,I,J⟩:=List.mem_iff_getElem.1 he;have:=g.bl j I;simp only [List.getD,List.getElem?_eq_getElem I,Option.getD_some,J] at this;exact bE (by omega)
theorem Kb {p:Nat} (h:(p:Int)∈s.R .be):(s.R .tr).getD p 0∈s.sE:=
 List.mem_map.2 ⟨(p:Int),h,by rw [Int.toNat_natCast]⟩
theorem aM.ru (g:aM s) {Q:Int->Prop} (X: ∀x∈s.sE,Q x) (hc: ∀c,s.BR c->∀l∈c,(∀y∈c,y≠l->Q (-y))-> -l ∉ s.R .tr->Q l): ∀x∈s.R .tr,Q x:=by
 have key: ∀p,p< (s.R .tr).length->Q ((s.R .tr).getD p 0):=by
  intro p
  induction p using Nat.strongRecOn with
  |_ p Z=>
   intro hp;by_cases hb:(p:Int)∈s.R .be
   . exact X _ (Kb hb)
   . obtain ⟨i,e1,I,e3,O⟩:=g.IZ p hp hb;refine hc _ ⟨i,I,rfl⟩ _ ((g.ca i I _).1 e3) (fun y Y J=> ?_) (g.cons (bE hp));have:=O y ((g.ca i I y).2 Y) J;obtain ⟨q,hq,e⟩:=List.mem_iff_getElem.1 this;rw [List.length_take] at hq;have U:(s.R .tr).getD q 0= -y:=by
      rw [List.getElem_take] at e;simp [List.getD,show q< (s.R .tr).length by omega,e]
     rw [<- U];exact Z q (by omega) (by omega)
 intro x hx;obtain ⟨p,hp,e⟩:=List.mem_iff_getElem.1 hx;have:=key p hp;simp only [List.getD,List.getElem?_eq_getElem hp,Option.getD_some,e] at this;exact this
theorem aM.qY (g:aM s) {T:List Int} (Y: ∀x∈s.sE,x∈T) (hT: ∀x∈T,-x ∉ T) (Z: ∀c,s.BR c->cR c T=false/\df c T=0): ∀x∈s.R .tr,x∈T:=by
 refine g.ru Y fun c J l hl U _=> ?_;obtain ⟨h1,X⟩:=Z c J;have hv:=g.Kd J;rcases Classical.em (l∈T) with h|h
 . exact h
 . exfalso;have Q: -l ∉ T:=fun e=>by
    rw [<- Bool.not_eq_true,cO] at h1;exact h1 fun y I=>by
     by_cases O:y=l
     . rw [O];exact e
     . exact U y I O
   have:=kW (t:=T) (hv l hl).1 Q c 0 (fun y I=>by
    by_cases O:y=l
    . subst O;exact ⟨h,.inl rfl⟩
    . have:=U y I O;exact ⟨fun e=>hT y e this,.inr this⟩) (.inr ⟨rfl,hl⟩)
   have h3:=(hv l hl).1;unfold df at X;omega
theorem dM.cl (hC:dM s) (g:aM s) {c:List Int} (Q:s.BR c):(∃x∈c,x∈s.R .tr)\/∃x∈c,∃y∈c,x≠y/\x ∉ s.R .tr/\ -x ∉ s.R .tr/\y ∉ s.R .tr/\ -y ∉ s.R .tr:=by
 have hv:=g.Kd Q;obtain ⟨i,hi,rfl⟩:=Q;rcases hC i hi with h| ⟨x,O,y,J,I,U,X⟩
 . exact .inl h
 . have a:=(g.v0 (hv x O)).1 U;have b:=(g.v0 (hv y J)).1 X;exact .inr ⟨x,O,y,J,I,a.1,a.2,b.1,b.2⟩
theorem dM.unit (hC:dM s) (g:aM s) {T c:List Int} (X: ∀x∈T,x∈s.R .tr) (Y:s.BR c) (h:df c T≠0):df c T∈s.R .tr:=by
 obtain ⟨_,_,_,U⟩:=kK (fun y O=> (g.Kd Y y O).1) h;rcases hC.cl g Y with ⟨x,Q,I⟩| ⟨x,Q,y,O,J,x1,x2,y1,Z⟩
 . rcases U x Q with e|e
   . rw [<- e];exact I
   . exact absurd (X _ e) (g.cons I)
 . exfalso;have ex:x=df c T:=(U x Q).resolve_right fun e=>x2 (X _ e);have ey:y=df c T:=(U y O).resolve_right fun e=>Z (X _ e);exact J (ex.trans ey.symm)
theorem dM.C5 (hC:dM s) (g:aM s) {T c:List Int} (O: ∀x∈T,x∈s.R .tr) (U:s.BR c):cR c T=false:=by
 rw [<- Bool.not_eq_true,cO];intro h;rcases hC.cl g U with ⟨x,J,I⟩| ⟨x,J,_,_,_,_,Q,_,_⟩
 . exact g.cons I (O _ (h x J))
 . exact Q (O _ (h x J))
theorem dM.MG (hC:dM s) (g:aM s) {cs:List (List Int)} (J: ∀c∈cs,s.BR c) {d T:List Int} (U: ∀x∈d,x∈s.R .tr) (h:BD cs d T): ∀x∈T,x∈s.R .tr:=by
 induction h with
 |refl=>exact U
 |step h1 Q X O=>
  intro x I;rcases List.mem_append.1 I with I|I
  . exact O x I
  . rw [List.mem_singleton] at I;rw [I];exact hC.unit g O (J _ Q) X
end
section
variable {w w' w0 w2 w3:World} {p q:Option Addr} {n m c d:Nat} {l t T:List Int}
theorem nw (x:Int) (I: -1048576<=x/\x<=1048576):IntKind.i64.wrap (0 - x)= -x:=by rw [aB (by omega) (by omega)];omega
end
section
variable {w w' w0 w2 w3:World} {p q:Option Addr} {n m c d V:Nat} {l t T:List Int} {hs:List Sl} {cs:List (List Int)}
theorem Lv {x:Int} {nb:Nat} {w0:World} (h:bc (.cells #[.int .i64 x] aC) w0 nb w):Vw (Value.int .i64) w (some ⟨nb,0,none⟩) [x]:=by
 intro j I;have I:j=0:=by simpa using I
 subst I;exact ⟨_,rfl,ad h.has rfl⟩
end
section
variable {w w' w0 w2 w3:World} {b:Nat} {H H' H2:Pt->Sl} {s t u s' T:aG} {cp gp dp:Option Addr} {hs:List Sl} {cs:List (List Int)} {gl:List Bool} {dl:List Int} {cn cc gn gc dn dc:Nat} {v:Int}
def Ms (s:aG) (r:Int):Prop:=(r= -1/\dM s)\/∃i:Nat,r=i/\sU s i
end
section
variable {w w' w0 w2 w3:World} {b:Nat} {H H' H2:Pt->Sl} {s t u s' T:aG} {cp gp dp:Option Addr} {hs:List Sl} {cs:List (List Int)} {gl:List Bool} {dl:List Int} {cn cc gn gc dn dc:Nat} {v:Int}
theorem AH (g:aM s) (l:Int):(s.decide l).sE=s.sE++ [l]:=by
 have J:(s.decide l).R .be=s.R .be++ [((s.R .tr).length:Int)]:=by
  unfold aG.decide;rw [iP (by simp) (by simp) (by simp) (by simp)];unfold aG.iM;rw [ak (by simp),aK]
 have O:(s.decide l).R .tr=s.R .tr++ [l]:=by
  unfold aG.decide;rw [oe];unfold aG.iM;rw [ak (by simp),ak (by simp)]
 unfold aG.sE;rw [J,O,List.map_append,List.map_singleton,Int.toNat_natCast,cz];congr 1;refine List.map_congr_left fun q hq=> ?_;obtain ⟨j,I,Q⟩:=List.mem_iff_getElem.1 hq;have:=g.bl j I;simp only [List.getD,List.getElem?_eq_getElem I,Option.getD_some,Q] at this;exact bA (by omega)
theorem zX (l:Int):(s.decide l).vars=s.vars/\(s.decide l).nc=s.nc/\(s.decide l).gone=s.gone/\∀i,(s.decide l).R (.a i)=s.R (.a i):=by
 refine ⟨by simp only [aG.decide,aG.put,aG.iM,aG.set],by simp only [aG.decide,aG.put,aG.iM,aG.set],by simp only [aG.decide,aG.put,aG.iM,aG.set],fun i=> ?_⟩;unfold aG.decide;rw [iP (by simp) (by simp) (by simp) (by simp)];unfold aG.iM;rw [ak (by simp),ak (by simp)]
end
section
variable {w w' w0 w2 w3:World} {b:Nat} {H H' H2:Pt->Sl} {s t u s' T:aG} {cp gp dp ap:Option Addr} {hs:List Sl} {cs:List (List Int)} {gl:List Bool} {dl:List Int} {cn cc gn gc dn dc an ac:Nat} {v:Int}
theorem HR (g:aM s) (x:iq s s'):s'.sE=s.sE:=by
 unfold aG.sE;rw [x.be];obtain ⟨e,he⟩:=x.tr;rw [he];refine List.map_congr_left fun q hq=> ?_;obtain ⟨j,I,J⟩:=List.mem_iff_getElem.1 hq;have:=g.bl j I;simp only [List.getD,List.getElem?_eq_getElem I,Option.getD_some,J] at this;rw [bA (by omega)]
theorem wG (L:Nat):(s.bC L).vars=s.vars/\(s.bC L).nc=s.nc/\(s.bC L).gone=s.gone/\(∀i,(s.bC L).R (.a i)=s.R (.a i))/\(s.bC L).R .be=(s.R .be).take L/\(s.bC L).R .tr=(s.R .tr).take ((s.R .be).getD L 0).toNat:=by
 have key: ∀y,(s.bC L).R y=((((s.set .va (Am (s.R .va) ((s.R .tr).drop ((s.R .be).getD L 0).toNat))).set .tr ((s.R .tr).take ((s.R .be).getD L 0).toNat)).set .be ((s.R .be).take L)).set .ds ((s.R .ds).take L)).R y:=fun y=>rfl;refine ⟨rfl,rfl,rfl,fun i=> ?_,?_,?_⟩
 . rw [key,ak (by simp),ak (by simp),ak (by simp),ak (by simp)]
 . rw [key,ak (by simp),aK]
 . rw [key,ak (by simp),ak (by simp),aK]
end
section
variable {w w' w0 w2 w3:World} {b:Nat} {H H' H2:Pt->Sl} {s t u s' T:aG} {p cp gp dp ap:Option Addr} {hs:List Sl} {cs:List (List Int)} {gl:List Bool} {dl c m:List Int} {cn cc gn gc dn dc an ac:Nat} {v:Int}
theorem oD {n:Nat} {l:Int} (hn:n<=1048576) (h:dR n l):cq l=true:=by
 have:=(ia hn).2 h;unfold vU at this;simp only [Bool.and_eq_true] at this;exact this.1
end
end Go.Proofs.YtenmibfmhccmiaaGreat.W
