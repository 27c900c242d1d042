/- Layer 6: a literal is decided. -/
import Derived.Test.YtenmibfmhccmiaaGreatPropA
import Derived.Test.YtenmibfmhccmiaaGreatSortA
namespace Go.Proofs.YtenmibfmhccmiaaGreat.W
open Go Go.Fw Go.RowKit Go.SoP Go.LiP
open Go.Proofs.Tryz (prog)
section
variable {w w' w0 w2 w3:World} {b:Nat} {H H' H2:Pt->Sl} {s t u s' T:aH} {l x y:Int} {i:Nat}
def aH.je (s:aH):aH:=(s.set .be (s.R .be++ [((s.R .tr).length:Int)])).set .ds (s.R .ds++ [(s.done:Int)])
def aH.decide (s:aH) (l:Int):aH:=s.je.put l (-1)
theorem pD (g:aL s) (hl:dB s.vars l) (I:s.val l=0):aL (s.decide l):=
 uS g hl I (t:=s.je) (fun y h1 J=>by unfold aH.je;rw [aq J,aq h1]) rfl rfl rfl rfl (.inr ⟨by unfold aH.je;rw [aq (by simp),aK],by unfold aH.je;rw [aK],rfl⟩)
structure Sh (b:Nat) (H:Pt->Sl) (s:aH):Prop where
 cn:(H .c).n=s.nc
 wn:(H .wa).n=2* (s.vars+1)
 len: ∀x,x.row=true->(H x).n=(s.R x).length
 inj: ∀x y k,own b H x=some k->own b H y=some k->x=y
structure Pq (w:World) (b:Nat) (H:Pt->Sl) (s:aH) (E:Pt->Prop):Prop where
 st:bA w b (y8 s H)
 c:Row 3 Mg ji w (H .c).p (H .c).c (AD H s.gone s.nc)
 wa:Ow Sl.v aI w (H .wa).p (H .wa).c (iR H (2* (s.vars+1)))
 row: ∀y,y.row=true->¬E y->Ow y.f y.T w (H y).p (H y).c (s.R y)
theorem PM.sh (h:PM w b H s):Sh b H s:=⟨h.cn,h.wn,h.len,h.inj⟩
theorem Sh.pm (k:Sh b H s) {E:Pt->Prop} (X:Pq w b H s E) (I: ∀y,¬E y):PM w b H s:=⟨X.st,X.c,k.cn,X.wa,k.wn,fun x J=>X.row x J (I x),k.len,k.inj⟩
theorem mY (I: ∀x y k,own b H x=some k->own b H y=some k->x=y) {x:Pt} (X:x≠ .st) {q:Sl} (hp: ∀k,aJ q.p=some k->aJ (H x).p=some k\/∀y,own b H y≠some k):
 ∀y z k,own b (bh H x q) y=some k->own b (bh H x q) z=some k->y=z:=by
 have key: ∀y,y≠x->own b (bh H x q) y=own b H y:=fun y e=>by
  cases y<;>first|rfl| (simp only [own];rw [aM e])
 have same:own b (bh H x q) x=aJ q.p:=by rw [bM X,aX]
 intro y z k J O;by_cases U:y=x<;>by_cases Q:z=x
 . rw [U,Q]
 . subst U;rw [same] at J;rw [key z Q] at O;rcases hp k J with e|e
   . exact I y z k (by rw [bM X];exact e) O
   . exact absurd O (e z)
 . subst Q;rw [same] at O;rw [key y U] at J;rcases hp k O with e|e
   . exact I y z k J (by rw [bM X];exact e)
   . exact absurd J (e y)
 . rw [key y U] at J;rw [key z Q] at O;exact I y z k J O
theorem Sh.head (h:Sh b H s) {E:Pt->Prop} {x:Pt} (Q:x.field=true) {J:Option Addr} {c':Nat} {l':List Int} (o:Ow x.f x.T w2 J c' l') (X:Pq w2 b H s E)
 (hp: ∀k,aJ J=some k->aJ (H x).p=some k\/∀y,own b H y≠some k) {n':Nat} (hn:n'=l'.length) {K:World->Prop}
 (I: ∀w3,Sh b (bh H x ⟨J,n',c'⟩) (s.set x l')->Pq w3 b (bh H x ⟨J,n',c'⟩) (s.set x l') (fun y=>E y/\y≠x)->aF (·=b) w2 w3->K w3):
 ∃w3,ah ((Addr.mk b 0 none).add x.off) 0 [.slice J n' c'] w2 w3/\K w3:=by
 subst hn;have hr:=qe Q;obtain ⟨h1,h2,h3⟩:=cY hr;have hb: ∀y k,y≠ .st->own b H y=some k->k≠b:=fun y k O I e=>by subst e;exact O (h.inj y .st k I rfl)
 have Y: ∀k,aJ J=some k->¬k=b:=fun k aa e=>by
  rcases hp k aa with Z|Z
  . exact h1 (h.inj x .st k (by rw [bM h1];exact Z) (by rw [e];rfl))
  . exact Z .st (by rw [e];rfl)
 have hl: ∀i,x≠ .l i:=fun i e=>by subst e;simp [Pt.field] at Q
 have ha: ∀i,x≠ .a i:=fun i e=>by subst e;simp [Pt.field] at Q
 have hw: ∀i,x≠ .w i:=fun i e=>by subst e;simp [Pt.field] at Q
 refine bO (k:=x.off) (i:=0) X.st (by cases x<;>simp [Pt.field] at Q<;>rfl) rfl fun w3 U m3=>I w3 ?_ ?_ m3
 . refine ⟨by rw [aM (Ne.symm h2)];exact h.cn,by rw [aM (Ne.symm h3)];exact h.wn,fun y O=> ?_,mY h.inj h1 hp⟩;by_cases e:y=x
   . subst e;simp only [aH.set,aX]
   . simp only [aH.set,aM e];exact h.len y O
 . refine ⟨?_,?_,?_,fun y O hE=> ?_⟩
   . have e:wr (y8 s H) (0+x.off+0) [.slice J l'.length c']=y8 (s.set x l') (bh H x ⟨J,l'.length,c'⟩):=by
      cases x<;>simp [Pt.field] at Q<;>simp [wr,y8,Pt.off,bh,aH.set,Sl.v]
     rw [<- e];exact U
   . rw [zS hl ha,aM (Ne.symm h2)];exact X.c.keep m3 fun k I=>hb .c k (by simp) I
   . show Ow Sl.v aI w3 _ _ (iR (bh H x _) (2* (s.vars+1)));rw [jH hw,aM (Ne.symm h3)];exact X.wa.keep m3 fun k I=>hb .wa k (by simp) I
   . by_cases e:y=x
     . subst e;simp only [aH.set,aX];exact o.keep m3 fun k I=>Y k I
     . simp only [aH.set,aM e];exact (X.row y O fun h=>hE ⟨h,e⟩).keep m3 fun k I=>hb y k (cY O).1 (by rw [bM (cY O).1];exact I)
theorem PM.Od (h:PM w b H s) {E:Pt->Prop} (U: ∀y,E y->y.row=true) {S:Nat->Prop} (m:aF S w w') (Q: ∀k,k<w.heap.size->S k->∃y,E y/\own b H y=some k):Pq w' b H s E:=by
 have I: ∀y k,¬E y->own b H y=some k->¬S k:=fun y k O J hs=>by
  obtain ⟨z,X,e⟩:=Q k (h.lt y k J) hs;exact O (h.inj y z k J e▸X)
 have ne: ∀y,y.row=false->¬E y:=fun y O he=>by rw [U y he] at O;cases O
 exact ⟨h.st.keep m (I .st b (ne _ rfl) rfl),h.c.keep m fun k J=>I .c k (ne _ rfl) J,h.wa.keep m fun k J=>I .wa k (ne _ rfl) J,
  fun y O e=> (h.row y O).keep m fun k J=>I y k e (by rw [bM (cY O).1];exact J)⟩
theorem gO {x y:Pt} {q:Sl} (e:y≠x):own b (bh H x q) y=own b H y:=by cases y<;>first|rfl| (simp only [own];rw [aM e])
theorem PM.aE (h:PM w0 b H s) {wB:World} {U:Option Addr} {c1:Nat} {y1 y2:Int} (o1:da aC wB U c1 (s.R .be++ [y1])) (m1:aF (fun k=>aJ (H .be).p=some k) w0 wB)
 (Q: ∀k,aJ U=some k->aJ (H .be).p=some k\/w0.heap.size<=k) {n2:Nat} (hb:bA wB n2 #[.int .i64 y2]) (hlen:(s.R .ds).length<=4000000) {n1:Nat} (ag:n1=(s.R .be++ [y1]).length) {K:World->Prop}
 (I: ∀w3 H',Pw w0 w3 b H H' ((s.set .be (s.R .be++ [y1])).set .ds (s.R .ds++ [y2]))->K w3):
 ∃w2,∃ (X:Option Addr) (n' c':Nat),(Builtin.append_ #[aI,aI] aI #[.slice (H .ds).p (H .ds).n (H .ds).c,.slice (some (Addr.mk n2 0 none)) 1 1]).run prog wB= .ok (.slice X n' c') w2/\
  ∃a:Addr,(some ⟨b,0,none⟩:Option Addr)=some a/\∃w3,ah (a.add 7) 0 [.slice U n1 c1] w2 w3/\∃a:Addr,(some ⟨b,0,none⟩:Option Addr)=some a/\∃w4,ah (a.add 8) 0 [.slice X n' c'] w3 w4/\K w4:=by
 have X1:=h.Fh (x:= .be) rfl m1;have ar:da aC wB (H .ds).p (H .ds).c (s.R .ds):=X1.row .ds rfl (by simp);refine ar.mF c4 y2 hb rfl (h.len .ds rfl) eV (by omega) fun w2 X c' o2 m2 Z a8=> ⟨_,rfl,?_⟩
 have Y: ∀k,aJ U=some k->¬aJ (H .ds).p=some k:=fun k I e=>by
  rcases Q k I with h1|h1
  . exact h.iL (x:= .ds) (by simp) (y:= .be) (by simp) h1 e
  . have:=h.lt .ds k e;omega
 have aa:aF (fun k=>aJ (H .be).p=some k\/aJ (H .ds).p=some k) w0 w2:=(m1.mono fun _ _ e=> .inl e).trans (m2.mono fun _ _ e=> .inr e);have Q2:=h.Od (E:=fun y=>y= .be\/y= .ds) (fun y e=>by rcases e with rfl|rfl<;>rfl) aa fun k _ e=>e.elim (fun e=> ⟨.be,.inl rfl,e⟩) fun e=> ⟨.ds,.inr rfl,e⟩
 have z1:=m1.size;have f2: ∀k,aJ X=some k->aJ (H .ds).p=some k\/w0.heap.size<=k:=fun k I=>by
  rcases Z with rfl|rfl
  . exact .inl I
  . have:=aO I;exact .inr (by omega)
 have f12: ∀k,aJ X=some k->aJ U≠some k:=fun k I e=>by
  rcases Z with rfl|rfl
  . exact Y k e I
  . have:=aO I;have:=o1.lt k e;omega
 refine h.sh.head (x:= .be) rfl (o1.keep m2 fun k I=>Y k I) Q2 (fun k I=> (Q k I).imp id fun e=>h.bV e) ag fun w3 S3 Q3 m3=> ⟨_,rfl,?_⟩
 refine S3.head (x:= .ds) rfl (o2.keep m3 fun k I e=> ?_) Q3 (fun k I=> ?_) (by simp) fun w4 S4 Q4 m4=>I w4 (bh (bh H .be ⟨U,n1,c1⟩) .ds ⟨X,(s.R .ds).length+1,c'⟩) ?_
 . rcases f2 k I with O|O
   . exact h.iL (x:= .ds) (by simp) (y:= .st) (by simp) (k:=k) (by rw [e];rfl) O
   . have:=h.lt .st b rfl;omega
 . rw [aM (by simp)];rcases f2 k I with O|O
   . exact .inl O
   . refine .inr fun y e=> ?_;by_cases ey:y= .be
     . subst ey;rw [bM (by simp),aX] at e;exact f12 k I e
     . rw [gO ey] at e;have:=h.lt y k e;omega
 . refine ⟨S4.pm Q4 fun y e=> ?_,?_,fun x k J=> ?_⟩
   . rcases e.1.1 with O|O
     . exact e.1.2 O
     . exact e.2 O
   . exact ((aa.mono fun k _ e=>e.elim (fun e=> ⟨.be,e⟩) fun e=> ⟨.ds,e⟩).trans (m3.mono fun k _ e=> ⟨.st,by rw [e];rfl⟩)).trans (m4.mono fun k _ e=> ⟨.st,by rw [e];rfl⟩)
   . by_cases e1:x= .ds
     . subst e1;rw [bM (by simp),aX] at J;exact (f2 k J).imp (fun e=> ⟨.ds,e⟩) id
     . rw [gO e1] at J;by_cases O:x= .be
       . subst O;rw [bM (by simp),aX] at J;exact (Q k J).imp (fun e=> ⟨.be,e⟩) id
       . rw [gO O] at J;exact .inl ⟨x,J⟩
theorem yJ (h:PM w b H s) (g:aL s) (l:Int):Calls prog dD.id #[bL b,.int .i64 l] w fun e w'=> ∃r:Int,e= .returned (.int .i64 r)/\∃H',((r=0/\dB s.vars l/\s.val l=0/\Pw w w' b H H' (s.decide l))\/(r=1/\¬(dB s.vars l/\s.val l=0)/\Pw w w' b H H' s)):=by
 have k:=g.wf;refine dD.ak ((tG h k l).mono ?_);rintro e w1 ⟨rfl,Z⟩;refine ⟨_,rfl,?_⟩;cases hi:xC s.vars l with
 |false=>exact cu rfl ⟨_,rfl,H,.inr ⟨rfl,(fun hh=>by rw [(ir k.dS).2 hh.1] at hi;cases hi),Pw.refl (h.grow Z) Z⟩⟩
 |true=>
  have hl:=(ir k.dS).1 hi;refine bm rfl ((mH (h.grow Z) k hl).mono ?_);rintro e w3 ⟨rfl,rfl⟩;refine ⟨_,rfl,aj (fun r=> ?_) (fun r=> ?_)⟩
  . have r:s.val l≠0:=by simpa using r
    exact ⟨_,rfl,H,.inr ⟨rfl,fun h=>r h.2,Pw.refl (h.grow Z) Z⟩⟩
  . have r:s.val l=0:=by simpa using r
    have Q:=(h.grow Z).drew;have kb:(s.R .be).length<=1048576:=by have:=g.Kq;have:=g.yL;have:=g.dS;omega
    have kd:(s.R .ds).length<=1048576:=by rw [g.dl];exact kb
    have kt:(s.R .tr).length<=1048576:=by have:=g.yL;have:=g.dS;omega
    have aw: ∀ {a:Addr} {u:Value},w3.drew.cell? a=some u->a.block=b->iH (aF (fun k=>aJ (H .be).p=some k\/aJ (H .ds).p=some k) w3.drew) a u:=fun hc bb u' g=>dZ g hc fun e=>by
     rw [bb] at e;rcases e with e|e
     . exact Q.iL (x:= .be) (by simp) (y:= .st) (by simp) rfl e
     . exact Q.iL (x:= .ds) (by simp) (y:= .st) (by simp) rfl e
    have gm: ∀ {w1:World},ao w3.drew w1->aF (fun k=>aJ (H .be).p=some k\/aJ (H .ds).p=some k) w3.drew w1:=fun g=>g.mono fun _ _ e=>e.elim;refine ⟨aF (fun k=>aJ (H .be).p=some k\/aJ (H .ds).p=some k) w3.drew,aF.refl _,_,rfl,_,_,_,aw (ae Q.st rfl) (cy _ _),_,rfl,_,_,_,aw (ae Q.st rfl) (cy _ _),_,rfl,_,_,_,aw (ae Q.st rfl) (cy _ _),
     _,rfl,_,aw (ae Q.st rfl) (cy _ _),?_⟩
    rw [h.len .tr rfl];have kB:Wf s.je:=by
     unfold aH.je;refine ⟨k.dS,by rw [aq (by simp),aq (by simp)];exact k.va,by rw [aq (by simp),aq (by simp)];exact k.vb,by rw [aq (by simp),aq (by simp)];exact k.le,by rw [aq (by simp),aq (by simp)];exact k.re,?_,by rw [aq (by simp),aq (by simp)];exact k.tr,k.nc⟩;rw [aq (by simp),aK,List.length_append];simp only [List.length_cons,List.length_nil];omega
    have dV: ∀I H',Pw w3.drew I b H H' s.je->Calls prog gI.id #[bL b,.int .i64 l,.int .i64 (-1)] I fun e ad=>e= .returned (.tuple #[])/\
     ∃r:Int,Ending.returned (.int .i64 0)= .returned (.int .i64 r)/\∃H',((r=0/\dB s.vars l/\s.val l=0/\Pw w ad b H H' (s.decide l))\/(r=1/\¬(dB s.vars l/\s.val l=0)/\Pw w ad b H H' s)):=by
     intro I H' P;refine (Cu P.pm kB (l:=l) hl (-1)).mono ?_;rintro e ad ⟨rfl,q,P2⟩;exact ⟨rfl,_,rfl,_,.inl ⟨rfl,hl,r,(P.trans P2).cM (Z.trans (aF.refl _).drew)⟩⟩
    have fr: ∀ {u:World} {p':Option Addr},ao w3.drew u->(p'=(H .be).p\/p'=some ⟨u.heap.size,0,none⟩)->∀k,aJ p'=some k->aJ (H .be).p=some k\/w3.drew.heap.size<=k:=fun g hp k hk=>by
     rcases hp with rfl|rfl
     . exact .inl hk
     . have:=aO hk;have:=g.size;exact .inr (by omega)
    have ag: ∀ {u:World},ao w3.drew u->da aC u (H .be).p (H .be).c (s.R .be):=fun g=> (Q.grow g).row .be rfl;have aT: ∀ {n:Nat} {u v:World} {o:Obj},ao w3.drew u->aY o u n v->¬aJ (H .be).p=some n:=fun g hn e=>by
     have:=Q.lt .be _ e;have:=hn.num;have:=g.size;omega
    refine ⟨?_,?_⟩
    . intro n14 bY av;have J:=av.mod;refine ⟨gm J,?_,?_⟩
      . refine (ag J).mF c4 _ av.has rfl (h.len .be rfl) eV (by omega) fun b6 p1 c1 o1 m1 O a6=> ⟨(gm J).trans (m1.mono fun _ _ e=> .inl e),?_⟩
        intro b3 a_ ay;have a7:aF (fun k=>aJ (H .be).p=some k) w3.drew a_:=((J.mono fun _ _ e=>e.elim).trans m1).trans (ay.mod.mono fun _ _ e=>e.elim);refine ⟨a7.mono fun _ _ e=> .inl e,Q.aE (o1.grow ay.mod) a7 (fr J O) ay.has (by omega) (by simp) fun I H' P=>dV I H' P⟩
      . intro n27 ce Y;have U:=J.trans Y.mod;refine ⟨gm U,(ag U).mF c4 _ (av.has.grow Y.mod) rfl (h.len .be rfl) eV (by omega) fun a' p1 c1 o1 m1 O a6=> ⟨(gm U).trans (m1.mono fun _ _ e=> .inl e),?_⟩⟩;exact Q.aE o1 ((U.mono fun _ _ e=>e.elim).trans m1) (fr U O) (Y.has.keep m1 (aT J Y)) (by omega) (by simp) fun I H' P=>dV I H' P
    . intro b4 b7 ar;have az:=ar.mod;refine ⟨gm az,?_⟩;intro cg bx aa;have X:=az.trans aa.mod;refine ⟨gm X,(ag X).mF c4 _ aa.has rfl (h.len .be rfl) eV (by omega) fun a' p1 c1 o1 m1 O a6=> ⟨(gm X).trans (m1.mono fun _ _ e=> .inl e),?_⟩⟩;exact Q.aE o1 ((X.mono fun _ _ e=>e.elim).trans m1) (fr X O) ((ar.has.grow aa.mod).keep m1 (aT (aF.refl _) ar)) (by omega) (by simp) fun I H' P=>dV I H' P
end
section
variable {w w' w0 w2 w3:World} {b:Nat} {H H' H2:Pt->Sl} {s t u s' T:aH} {l x y:Int} {i:Nat}
def BL (va:List Int) (I:List Int):List Int:=I.foldl (fun va x=>va.set (bf x).toNat 0) va
theorem zb: ∀ (I va:List Int),(BL va I).length=va.length
 | [],_=>rfl
 |x::I,va=>by
  show (BL (va.set (bf x).toNat 0) I).length=_;rw [zb I];simp
theorem zI {k:Nat}: ∀ (I va:List Int),(BL va I).getD k 0=if ∃x∈I,(bf x).toNat=k then 0 else va.getD k 0
 | [],va=>by simp [BL]
 |x::I,va=>by
  show (BL (va.set (bf x).toNat 0) I).getD k 0=_;rw [zI I];by_cases h: ∃y∈I,(bf y).toNat=k
  . obtain ⟨y,J,e⟩:=h;rw [if_pos ⟨y,J,e⟩,if_pos ⟨y,List.mem_cons_of_mem _ J,e⟩]
  . rw [if_neg h];by_cases e:(bf x).toNat=k
    . rw [if_pos ⟨x,List.mem_cons_self ..,e⟩];simp only [List.getD_eq_getElem?_getD,List.getElem?_set];rw [if_pos e];split<;>simp
    . rw [if_neg]
      . simp only [List.getD_eq_getElem?_getD,List.getElem?_set];rw [if_neg e]
      . rintro ⟨y,J,O⟩;rcases List.mem_cons.1 J with rfl|J
        . exact e O
        . exact h ⟨y,J,O⟩
theorem Hx (va I:List Int) (x:Int):BL va (I++ [x])=(BL va I).set (bf x).toNat 0:=by simp [BL]
def aH.bD (s:aH) (L:Nat):aH:=
 {((((s.set .va (BL (s.R .va) ((s.R .tr).drop ((s.R .be).getD L 0).toNat))).set .tr ((s.R .tr).take ((s.R .be).getD L 0).toNat)).set .be ((s.R .be).take L)).set .ds ((s.R .ds).take L)) with
  done:=min (min s.done ((s.R .be).getD L 0).toNat) ((s.R .ds).getD L 0).toNat}
theorem fG {l:List Int} {k j:Nat} (h:j<k):(l.take k).getD j 0=l.getD j 0:=by
 simp only [List.getD_eq_getElem?_getD,List.getElem?_take];rw [if_pos h]
theorem lw (g:aL s) {L:Nat} (hL:L< (s.R .be).length):aL (s.bD L):=by
 have hb:=g.bl L hL;have b7:=g.db L hL;have b':=g.dl;obtain ⟨A,hA⟩: ∃A:Nat,((s.R .be).getD L 0).toNat=A:=⟨_,rfl⟩
 have aT:(s.R .be).getD L 0=(A:Int):=by omega
 have b8:A< (s.R .tr).length:=by omega
 have ar:(s.bD L).R .va=BL (s.R .va) ((s.R .tr).drop A):=by rw [<- hA];unfold aH.bD;simp [aH.set,bh]
 have I:(s.bD L).R .tr=(s.R .tr).take A:=by rw [<- hA];unfold aH.bD;simp [aH.set,bh]
 have O:(s.bD L).R .be=(s.R .be).take L:=by unfold aH.bD;simp [aH.set,bh]
 have av:(s.bD L).R .ds=(s.R .ds).take L:=by unfold aH.bD;simp [aH.set,bh]
 have eR: ∀y,y≠ .va->y≠ .tr->y≠ .be->y≠ .ds->(s.bD L).R y=s.R y:=fun y a1 a2 a3 a4=>by unfold aH.bD;simp [aH.set,bh,a1,a2,a3,a4]
 have ay:(s.bD L).done=min (min s.done A) ((s.R .ds).getD L 0).toNat:=by rw [<- hA];rfl
 have a7:=eR .le (by simp) (by simp) (by simp) (by simp);have ax:=eR .re (by simp) (by simp) (by simp) (by simp);have aa:=eR .lo (by simp) (by simp) (by simp) (by simp);have el: ∀i,(s.bD L).R (.l i)=s.R (.l i):=fun i=>eR _ (by simp) (by simp) (by simp) (by simp);have ea: ∀i,(s.bD L).R (.a i)=s.R (.a i):=fun i=>eR _ (by simp) (by simp) (by simp) (by simp);have ew: ∀i,(s.bD L).R (.w i)=s.R (.w i):=fun i=>eR _ (by simp) (by simp) (by simp) (by simp);have a6: ∀x,(s.bD L).bi x=s.bi x:=fun x=>by unfold aH.bi;rw [a7]
 have ag: ∀x,(s.bD L).kG x=s.kG x:=fun x=>by unfold aH.kG;rw [ax]
 have lt:((s.R .tr).take A).length=A:=by rw [List.length_take];omega
 have lb:((s.R .be).take L).length=L:=by rw [List.length_take];omega
 have sub: ∀x,x∈(s.R .tr).take A->x∈s.R .tr:=fun x J=>List.mem_of_mem_take J;have later: ∀p:Int,p∈(s.R .be).drop L->(A:Int)<=p:=fun p hp=>by
  obtain ⟨j,Y,e⟩:=List.mem_iff_getElem.1 hp;rw [List.length_drop] at Y;rw [List.getElem_drop] at e;have ep:(s.R .be).getD (L+j) 0=p:=by simp [List.getD,show L+j< (s.R .be).length by omega,e]
  rcases Nat.eq_zero_or_pos j with h|h
  . subst h;rw [Nat.add_zero,aT] at ep;omega
  . have:=g.bs L (L+j) (by omega) (by omega);rw [aT,ep] at this;omega
 have nd:=g.nd;have a': ∀x,dB s.vars x->(s.bD L).val x=if ∃y∈(s.R .tr).drop A,bf y=bf x then 0 else s.val x:=fun x J=>by
  have cb:=J.bf;have key: ∀k:Nat,((k:Int)=bf x)->((BL (s.R .va) ((s.R .tr).drop A)).getD k 0=if ∃y∈(s.R .tr).drop A,bf y=bf x then 0 else (s.R .va).getD k 0):=fun k hk=>by
   rw [zI];have:(∃y∈(s.R .tr).drop A,(bf y).toNat=k)↔∃y∈(s.R .tr).drop A,bf y=bf x:=by
    constructor
    . rintro ⟨y,X,e⟩;have:=(g.tv y (List.mem_of_mem_drop X)).bf;exact ⟨y,X,by omega⟩
    . rintro ⟨y,X,e⟩;exact ⟨y,X,by omega⟩
   by_cases h: ∃y∈(s.R .tr).drop A,bf y=bf x
   . rw [if_pos (this.2 h),if_pos h]
   . rw [if_neg (fun h2=>h (this.1 h2)),if_neg h]
  unfold aH.val;rw [ar];by_cases e:x<0
  . rw [if_pos e,if_pos e,key _ (by unfold bf;rw [if_pos e];omega)];split<;>simp
  . rw [if_neg e,if_neg e,key _ (by unfold bf;rw [if_neg e];omega)]
 have apart: ∀x∈(s.R .tr).take A,∀y∈(s.R .tr).drop A,bf y≠bf x:=fun x J y X e=>by
  have h1:((s.R .tr).take A++ (s.R .tr).drop A).map bf=(s.R .tr).map bf:=by rw [List.take_append_drop]
  rw [<- h1,List.map_append,List.nodup_append] at nd;exact nd.2.2 (bf x) (List.mem_map_of_mem J) (bf y) (List.mem_map_of_mem X) e.symm
 have tt: ∀D,D<=A->((s.R .tr).take A).take D=(s.R .tr).take D:=fun D hD=>by rw [List.take_take,Nat.min_eq_left hD]
 have U:(s.bD L).vars=s.vars:=rfl;have enc:(s.bD L).nc=s.nc:=rfl;have Q: ∀i,(s.bD L).aN i↔s.aN i:=fun _=>Iff.rfl;generalize s.bD L=t at*
 refine ⟨by rw [U];exact g.dS,by rw [enc];exact g.FE,by rw [ar,zb,U];exact g.va,fun k=> ?_,by rw [a7,U];exact g.le,by rw [ax,U];exact g.rl,fun x J=>by rw [U];exact g.tv x (sub x (by rw [I] at J;exact J)),?_,fun x J=> ?_,fun j Y=> ?_,fun p q bY hq=> ?_,by rw [O,av,List.length_take,List.length_take,g.dl],fun j Y=> ?_,fun p hp=> ?_,fun p hp hm=> ?_,fun p hp hm=> ?_,
  by rw [ay,I,lt];omega,fun i hi x J=>by rw [U];exact g.cv i ((Q i).1 hi) x (by rw [el] at J;exact J),fun i hi=>by rw [el];exact g.cn i ((Q i).1 hi),fun i hi=>by rw [el];exact g.cl i ((Q i).1 hi),fun i hi=>by rw [el,ea];exact g.ca i ((Q i).1 hi),fun i=>by rw [ea];exact g.al i,
  fun j c hc=> ?_,fun i hi x J=> ?_,fun j=>by rw [ew];exact g.w3 j,fun c hc=>by rw [aa] at hc;obtain ⟨i,e1,e2⟩:=g.o1 c hc;exact ⟨i,e1,(Q i).2 e2⟩,fun i hi h=>by rw [aa];exact g.o2 i ((Q i).1 hi) (by rw [el] at h;exact h),by rw [aa];exact g.o3,fun i hi h=> ?_,fun j Y i hi h=> ?_⟩
 . rw [ar,zI];split
   . exact .inl rfl
   . exact g.vb k
 . rw [I,List.map_take];exact (List.take_sublist _ _).nodup g.nd
 . rw [U] at J;rw [a' x J,I];by_cases h: ∃y∈(s.R .tr).drop A,bf y=bf x
   . rw [if_pos h];obtain ⟨y,X,e⟩:=h;constructor
     . intro h;omega
     . intro h;exact absurd e (apart x h y X)
   . rw [if_neg h,g.v1 x J];constructor
     . intro hm;rw [<- List.take_append_drop A (s.R .tr),List.mem_append] at hm;rcases hm with hm|hm
       . exact hm
       . exact absurd ⟨x,hm,rfl⟩ h
     . exact sub x
 . rw [O,lb] at Y;rw [O,I,fG Y,lt];have:=g.bs j L Y hL;have:=(g.bl j (by omega)).1;omega
 . rw [O,lb] at hq;rw [O,fG hq,fG (by omega)];exact g.bs p q bY (by omega)
 . rw [O,lb] at Y;rw [O,av,fG Y,fG Y];exact g.db j (by omega)
 . rw [I,lt] at hp;rw [I,fG hp,a6,O,g.lv p (by omega)];have h1:s.R .be=(s.R .be).take L++ (s.R .be).drop L:=(List.take_append_drop _ _).symm;have h2:((s.R .be).drop L).countP (fun e=>decide (e<=(p:Int)))=0:=List.countP_eq_zero.2 fun q hq=>by
    have:=later q hq;rw [decide_eq_true_eq];omega
   have h3:(s.R .be).countP (fun e=>decide (e<=(p:Int)))=((s.R .be).take L).countP (fun e=>decide (e<=(p:Int))):=by
    conv=>lhs;rw [h1]
    rw [List.countP_append,h2,Nat.add_zero]
   rw [h3]
 . rw [I,lt] at hp;rw [I,fG hp,ag];rw [O] at hm;exact g.Ly p (by omega) (List.mem_of_mem_take hm)
 . rw [I,lt] at hp;rw [I,fG hp,ag];rw [O] at hm;have bx:(p:Int) ∉ s.R .be:=fun h=>by
    rw [<- List.take_append_drop L (s.R .be),List.mem_append] at h;rcases h with h|h
    . exact hm h
    . have:=later _ h;omega
   obtain ⟨i,e1,e2,e3,e4⟩:=g.Kw p (by omega) bx;refine ⟨i,e1,(Q i).2 e2,by rw [el];exact e3,fun x J Z=> ?_⟩;rw [el] at J;rw [tt p (by omega)];exact e4 x J Z
 . rw [ew] at hc;obtain ⟨i,e1,e2,e3⟩:=g.w1 j c hc;exact ⟨i,e1,(Q i).2 e2,by rw [el];exact e3⟩
 . rw [el] at J;rw [ew];exact g.w2 i ((Q i).1 hi) x J
 . intro x J y X Z hm;rw [aa] at h;rw [el] at J X;rw [I,ay,tt _ (by omega)] at hm;rw [I];have:=g.wj L hL i ((Q i).1 hi) h x J y X Z (List.take_subset_take_left _ (by omega) hm);rw [hA] at this;exact this
 . intro x J y X Z hm;rw [aa] at h;rw [el] at J X;rw [O,lb] at Y;have h1:=g.db j (by omega);have h2:=g.bs j L Y hL;have h3:=g.bl j (by omega);rw [av,fG Y,I,tt _ (by omega)] at hm;rw [O,fG Y,I,tt _ (by omega)];exact g.wj j (by omega) i ((Q i).1 hi) h x J y X Z hm
theorem PM.cut (h:PM w b H s) {x:Pt} (O:x.field=true) {k:Nat} (J:k<=(s.R x).length) {n' c':Nat} (hn:n'=k) (Q:c'=(H x).c) {K:World->Prop}
 (I: ∀w3,PM w3 b (bh H x ⟨(H x).p,k,(H x).c⟩) (s.set x ((s.R x).take k))->aF (·=b) w w3->K w3): ∃w3,ah ((Addr.mk b 0 none).add x.off) 0 [.slice (H x).p n' c'] w w3/\K w3:=by
 subst hn Q;exact h.head O ((h.row x (qe O)).take J) ⟨h.st,h.c,h.wa,fun y U _=>h.row y U⟩ (fun k I=> .inl I) (by rw [List.length_take];omega) I
theorem zP (h:PM w b H s) {x:Pt} (I:x.row=true):(s.R x).length<=(H x).c:=by
 rcases (h.row x I).un with ⟨_,_,J⟩| ⟨_,_,_,_,e,_⟩
 . rw [J];exact Nat.zero_le _
 . exact e
theorem F4 (h:PM w b H s) (g:aL s) (bi:Int):bJ.w (some ⟨b,0,none⟩) bi w fun v w'=>Ending.returned v= .returned (.tuple #[])/\∃H',Pw w w' b H H' (if (max 0 bi).toNat< (s.R .be).length then s.bD (max 0 bi).toNat else s):=by
 have k:=g.wf;obtain ⟨L,hL⟩: ∃L:Nat,(max 0 bi).toNat=L:=⟨_,rfl⟩
 have em:imax 0 bi=(L:Int):=by unfold imax;split<;>omega
 rw [hL];refine bm rfl ⟨_,rfl,_,_,_,ae h.st rfl,?_⟩;rw [em,h.len .be rfl];refine aj (fun r=> ?_) (fun r=> ?_)
 . have r:(s.R .be).length<=L:=by simp at r;omega
   exact ⟨rfl,H,by rw [if_neg (by omega)];exact Pw.refl h (aF.refl w)⟩
 have r:L< (s.R .be).length:=by simp at r;omega
 rw [if_pos r];have hb:=g.bl L r;have cg:=g.db L r;have dk:=g.dl;have aw:=zP h (x:= .tr) rfl;have bu:=zP h (x:= .be) rfl;have bk:=zP h (x:= .ds) rfl;refine ⟨_,rfl,_,_,_,ae h.st rfl,h.vJ (x:= .be) rfl (by omega) rfl (by omega) fun a5 _ bY=> ⟨_,bY,_,rfl,_,_,_,ae h.st rfl,?_⟩⟩;rw [Int.toNat_natCast];obtain ⟨A,hA⟩: ∃A:Nat,((s.R .be).getD L 0).toNat=A:=⟨_,rfl⟩
 have a8:(s.R .be).getD L 0=(A:Int):=by omega
 rw [a8];have cm:A< (s.R .tr).length:=by omega
 rw [h.len .tr rfl];refine fe A (s.R .tr).length (H .tr).c rfl rfl rfl (Nat.le_refl _) aw (by omega) ?_;rw [if_neg (by omega)];refine ⟨fun V u m=> ∃v:Nat,V=v/\v<=(s.R .tr).length - A/\m=(s.R .tr).length - A - v/\Pw w u b H H (s.set .va (BL (s.R .va) (((s.R .tr).drop A).take v))),⟨_,0,rfl,Nat.zero_le _,rfl,by
  have:BL (s.R .va) (((s.R .tr).drop A).take 0)=s.R .va:=by simp [BL]
  rw [this,d7];exact Pw.refl h (aF.refl w)⟩,?_⟩
 rintro V ax m _ ⟨v,rfl,hv,rfl,Q⟩;have I:=Q.pm;have Z:Vw (Value.int .i64) ax ((H .tr).p.map (·.add (A*1))) ((s.R .tr).drop A):=by
  have:=(I.row .tr rfl).vw.part (i:=A) (m:=(s.R .tr).length - A) (by rw [aq (by simp)];omega);rw [aq (by simp),List.take_of_length_le (by simp)] at this;exact this
 refine aj (fun U=> ?_) (fun U=> ?_)
 . have U:v< (s.R .tr).length - A:=by simp at U;omega
   refine Z.ix 0 (by omega) (by simp) (by omega) fun dw ar=> ⟨_,ar,?_⟩
   rw [Int.toNat_natCast];have hx:((s.R .tr).drop A).getD v 0∈s.R .tr:=List.mem_of_mem_drop (bg (by simp;omega));have a_:((s.R .tr).drop A).take (v+1)=((s.R .tr).drop A).take v++ [((s.R .tr).drop A).getD v 0]:=by
    rw [List.take_add_one];simp [List.getD,show A+v< (s.R .tr).length by omega]
   generalize ((s.R .tr).drop A).getD v 0=X at*
   have Y:=g.tv X hx;have dT:=Y.bf;refine ⟨(·=ax.drew),rfl,_,rfl,_,_,_,dW (ae I.drew.st rfl),(fV (Y.bd g.dS) _).mono ?_⟩;rintro e ce ⟨rfl,rfl⟩;refine ⟨_,rfl,rfl,I.drew.FB (x:= .va) rfl (by omega) rfl (by rw [aK,zb,g.va];omega) (y:=0) rfl rfl fun b' ag bv=> ?_⟩;refine ⟨_,?_,v+1,wN (by omega) (by have:=g.yL;have:=g.dS;omega),by omega,rfl,?_⟩
   . omega
   . rw [set_set,aK] at ag;rw [a_,Hx];exact Q.drew.trans (Pw.row ag (x:= .va) rfl bv)
 . have U:v=(s.R .tr).length - A:=by simp at U;omega
   subst U;rw [List.take_of_length_le (by simp)] at Q I;have hT:=I.drew;have P0:=Q.drew;obtain ⟨V,hV⟩: ∃V,V=BL (s.R .va) ((s.R .tr).drop A):=⟨_,rfl⟩
   rw [<- hV] at Q I hT P0;refine ⟨_,rfl,_,ae hT.st rfl,_,rfl,_,_,_,ae hT.st rfl,hT.vJ (x:= .ds) rfl (by omega) rfl (by rw [aq (by simp)];omega) fun c1 _ aa=> ⟨_,aa,_,rfl,?_⟩⟩;rw [aq (by simp),Int.toNat_natCast];have ed:ka (ka ((s.set .va V).done:Int) (A:Int)) ((s.R .ds).getD L 0)=((min (min s.done A) ((s.R .ds).getD L 0).toNat:Nat):Int):=by
    show ka (ka (s.done:Int) (A:Int)) _=_;unfold ka;repeat' split
    all_goals omega
   rw [ed];refine hT.D5 rfl fun a7 av aT=> ?_;have bc:Pw w a7 b H H _:=P0.trans ⟨av,aT.mono fun k _ e=> ⟨.st,by rw [e];rfl⟩,fun x k O=> .inl ⟨x,O⟩⟩;have hU:=av.drew;have PU:=bc.drew;refine ⟨_,rfl,_,_,_,ae hU.st rfl,?_⟩;rw [h.len .tr rfl];refine fe 0 A (H .tr).c rfl rfl rfl (Nat.le_refl _) (by omega) (Nat.zero_le _) ?_;refine ⟨_,rfl,_,_,_,ae hU.st rfl,?_⟩;refine fe 0 L (H .be).c rfl rfl rfl (Nat.le_refl _) (by omega) (Nat.zero_le _) ?_;refine ⟨_,rfl,_,_,_,ae hU.st rfl,?_⟩;refine fe 0 L (H .ds).c rfl rfl rfl (Nat.le_refl _) (by omega) (Nat.zero_le _) ?_;rw [Nu,Nu,Nu];refine ⟨_,rfl,hU.cut (x:= .tr) rfl (k:=A) (by show A<=((s.set .va V).R .tr).length;rw [aq (by simp)];omega) (Nat.sub_zero _) (Nat.sub_zero _) fun dd b3 b4=> ⟨_,rfl,?_⟩⟩;have c2:=b3.cut (x:= .be) rfl (k:=L) (n':=L - 0) (c':=(H .be).c - 0) (by
    show L<=(((s.set .va V).set .tr _).R .be).length;rw [aq (by simp),aq (by simp)];omega) (Nat.sub_zero _) (by rw [aM (by simp)];rfl) (K:=fun ay=> ∃a:Addr,(some ⟨b,0,none⟩:Option Addr)=some a/\∃J,ah (a.add 8) 0 [.slice (H .ds).p (L - 0) ((H .ds).c - 0)] ay J/\(Ending.returned (.tuple #[])= .returned (.tuple #[])/\∃H',Pw w J b H H' (s.bD L))) ?_
   . rw [aM (by simp)] at c2;exact c2
   intro ay a6 bx;refine ⟨_,rfl,?_⟩;have c3:=a6.cut (x:= .ds) rfl (k:=L) (n':=L - 0) (c':=(H .ds).c - 0) (by
    show L<=((((s.set .va V).set .tr _).set .be _).R .ds).length;rw [aq (by simp),aq (by simp),aq (by simp)];omega) (Nat.sub_zero _) (by rw [aM (by simp),aM (by simp)];rfl) (K:=fun J=> (Ending.returned (.tuple #[])= .returned (.tuple #[])/\∃H',Pw w J b H H' (s.bD L))) ?_
   . rw [aM (by simp),aM (by simp)] at c3;exact c3
   intro J bb a';refine ⟨rfl,bh (bh (bh H .tr ⟨(H .tr).p,A,(H .tr).c⟩) .be ⟨(H .be).p,L,(H .be).c⟩) .ds ⟨(H .ds).p,L,(H .ds).c⟩,⟨?_,((PU.mod.then b4 fun k _ e=> ⟨.st,by rw [e];rfl⟩).then bx fun k _ e=> ⟨.st,by rw [e];rfl⟩).then a' fun k _ e=> ⟨.st,by rw [e];rfl⟩,fun x k O=> ?_⟩⟩
   . have e:(s.bD L)=((({s.set .va V with done:=min (min s.done A) ((s.R .ds).getD L 0).toNat}.set .tr ((s.R .tr).take A)).set .be ((s.R .be).take L)).set .ds ((s.R .ds).take L)):=by
      unfold aH.bD;rw [hA,<- hV];rfl
     rw [e];have e1:({s.set .va V with done:=min (min s.done A) ((s.R .ds).getD L 0).toNat}:aH).R .tr=s.R .tr:=aq (s:=s) (x:= .va) (y:= .tr) (l:=V) (by simp);have e2:(({s.set .va V with done:=min (min s.done A) ((s.R .ds).getD L 0).toNat}:aH).set .tr ((s.R .tr).take A)).R .be=s.R .be:=by rw [aq (by simp)];exact aq (s:=s) (x:= .va) (y:= .be) (l:=V) (by simp)
     have e3:((({s.set .va V with done:=min (min s.done A) ((s.R .ds).getD L 0).toNat}:aH).set .tr ((s.R .tr).take A)).set .be ((s.R .be).take L)).R .ds=s.R .ds:=by rw [aq (by simp),aq (by simp)];exact aq (s:=s) (x:= .va) (y:= .ds) (l:=V) (by simp)
     have h9:=bb;simp only [aM (show Pt.be≠Pt.tr by simp),aM (show Pt.ds≠Pt.be by simp),aM (show Pt.ds≠Pt.tr by simp)] at h9;have kP:PM J b (bh (bh (bh H .tr ⟨(H .tr).p,A,(H .tr).c⟩) .be ⟨(H .be).p,L,(H .be).c⟩) .ds ⟨(H .ds).p,L,(H .ds).c⟩)
      (((({s.set .va V with done:=min (min s.done A) ((s.R .ds).getD L 0).toNat}:aH).set .tr ((({s.set .va V with done:=min (min s.done A) ((s.R .ds).getD L 0).toNat}:aH).R .tr).take A)).set .be (((({s.set .va V with done:=min (min s.done A) ((s.R .ds).getD L 0).toNat}:aH).set .tr ((({s.set .va V with done:=min (min s.done A) ((s.R .ds).getD L 0).toNat}:aH).R .tr).take A)).R .be).take L)).set .ds ((((({s.set .va V with done:=min (min s.done A) ((s.R .ds).getD L 0).toNat}:aH).set .tr ((({s.set .va V with done:=min (min s.done A) ((s.R .ds).getD L 0).toNat}:aH).R .tr).take A)).set .be (((({s.set .va V with done:=min (min s.done A) ((s.R .ds).getD L 0).toNat}:aH).set .tr ((({s.set .va V with done:=min (min s.done A) ((s.R .ds).getD L 0).toNat}:aH).R .tr).take A)).R .be).take L)).R .ds).take L)):=h9
     rw [e1,e2,e3] at kP;exact kP
   . by_cases a1:x= .ds
     . subst a1;rw [bM (by simp),aX] at O;exact .inl ⟨.ds,O⟩
     . rw [gO a1] at O;by_cases a2:x= .be
       . subst a2;rw [bM (by simp),aX] at O;exact .inl ⟨.be,O⟩
       . rw [gO a2] at O;by_cases a3:x= .tr
         . subst a3;rw [bM (by simp),aX] at O;exact .inl ⟨.tr,O⟩
         . rw [gO a3] at O;exact .inl ⟨x,O⟩
theorem Ix (h:PM w b H s) (g:aL s) (bi:Int):Calls prog bJ.id #[bL b,.int .i64 bi] w fun e w'=>e= .returned (.tuple #[])/\∃H',Pw w w' b H H' (if (max 0 bi).toNat< (s.R .be).length then s.bD (max 0 bi).toNat else s):=
 bJ.ak (F4 h g bi)
end
section
variable {w w' w0 w2 w3:World} {b:Nat} {H H' H2:Pt->Sl} {s t u s' T:aH} {l x y:Int} {i:Nat}
def aH.del (s:aH) (i:Nat):aH:= {(s.set (.a i) []).set (.l i) [] with gone:=fun k=>if k=i then true else s.gone k}
def aH.drop (s:aH) (i:Nat):aH:=((lV i s ((s.R (.l i)).take 2)).set .lo ((s.R .lo).filter fun k=> !(k==(i:Int)))).del i
theorem sg (i:Nat) (y:Pt) (h1: ∀j,y≠ .w j) (J:y≠ .lo) (O:y≠ .a i) (I:y≠ .l i):(s.drop i).R y=s.R y:=by
 show ((((lV i s ((s.R (.l i)).take 2)).set .lo _).set (.a i) []).set (.l i) []).R y=_;rw [aq I,aq O,aq J,iB _ h1]
theorem fS {k:Nat}:(s.drop i).aN k↔s.aN k/\k≠i:=by
 show (k< (lV i s _).nc/\(if k=i then true else (lV i s _).gone k)=false)↔_;obtain ⟨_,J,I,_⟩:=gZ i ((s.R (.l i)).take 2) s;rw [J,I];unfold aH.aN;by_cases e:k=i
 . simp [e]
 . simp [e]
theorem xQ (g:aL s) (hi:s.aN i) (hr: ∀x∈s.R (.l i),¬(0<s.val x/\s.kG x=(i:Int))):aL (s.drop i):=by
 obtain ⟨u1,u2,u3,u4⟩:=gZ i ((s.R (.l i)).take 2) s;have eR: ∀y,(∀j,y≠Pt.w j)->y≠ .lo->(∀k,y≠ .a k)->(∀k,y≠ .l k)->(s.drop i).R y=s.R y:=fun y h1 I h3 h4=>sg i y h1 I (h3 i) (h4 i);have el: ∀k,k≠i->(s.drop i).R (.l k)=s.R (.l k):=fun k U=>sg i _ (by simp) (by simp) (by simp) (by simpa using U);have ea: ∀k,k≠i->(s.drop i).R (.a k)=s.R (.a k):=fun k U=>sg i _ (by simp) (by simp) (by simpa using U) (by simp);have bu:(s.drop i).R (.a i)= []:=by unfold aH.drop aH.del;simp [aH.set,bh]
 have aa:(s.drop i).R .lo=(s.R .lo).filter fun k=> !(k==(i:Int)):=by unfold aH.drop aH.del;simp [aH.set,bh]
 have bb: ∀j,(s.drop i).R (.w j)=(lV i s ((s.R (.l i)).take 2)).R (.w j):=fun j=>by unfold aH.drop aH.del;simp [aH.set,bh]
 have ew: ∀j c,c∈(s.drop i).R (.w j)↔c∈s.R (.w j)/\c≠(i:Int):=fun j c=>by
  rw [bb,t6];constructor
  . rintro ⟨h1,I|I⟩
    . exact ⟨h1,I⟩
    . refine ⟨h1,fun e=> ?_⟩;subst e;obtain ⟨q,e1,e2,x,Y,e3⟩:=g.w1 _ _ h1;have:q=i:=by omega
      subst this;exact I x Y e3
  . rintro ⟨h1,I⟩;exact ⟨h1,.inl I⟩
 have bk: ∀j,((s.drop i).R (.w j)).Nodup:=fun j=>by
  rw [bb];exact sj i j _ _ (g.w3 j)
 have Z:(s.drop i).vars=s.vars:=u1;have enc:(s.drop i).nc=s.nc:=u2;have a_:(s.drop i).done=s.done:=u4;have O: ∀k,(s.drop i).aN k↔s.aN k/\k≠i:=fun k=>fS;generalize s.drop i=t at*
 have J:=eR .tr (by simp) (by simp) (by simp) (by simp);have X:=eR .be (by simp) (by simp) (by simp) (by simp);have ax:=eR .ds (by simp) (by simp) (by simp) (by simp);have av:=eR .va (by simp) (by simp) (by simp) (by simp);have a6:=eR .le (by simp) (by simp) (by simp) (by simp);have a8:=eR .re (by simp) (by simp) (by simp) (by simp);have ev: ∀x,t.val x=s.val x:=fun x=>iX av x;have bc: ∀x,t.bi x=s.bi x:=fun x=>by unfold aH.bi;rw [a6]
 have ar: ∀x,t.kG x=s.kG x:=fun x=>by unfold aH.kG;rw [a8]
 refine ⟨by rw [Z];exact g.dS,by rw [enc];exact g.FE,by rw [av,Z];exact g.va,by rw [av];exact g.vb,by rw [a6,Z];exact g.le,by rw [a8,Z];exact g.rl,by rw [J,Z];exact g.tv,by rw [J];exact g.nd,fun x Y=>by rw [ev,J];exact g.v1 x (by rw [Z] at Y;exact Y),
  by rw [X,J];exact g.bl,by rw [X];exact g.bs,by rw [ax,X];exact g.dl,by rw [X,ax];exact g.db,fun p hp=>by rw [J] at hp ⊢;rw [bc,X];exact g.lv p hp,fun p hp hm=>by rw [J] at hp ⊢;rw [ar];rw [X] at hm;exact g.Ly p hp hm,
  fun p hp hm=> ?_,by rw [a_,J];exact g.dn,fun k U x Y=> ?_,fun k U=> ?_,fun k U=> ?_,fun k U x=> ?_,fun k=> ?_,fun j c hc=> ?_,fun k U x Y=> ?_,bk,fun c hc=> ?_,fun k U h=> ?_,by rw [aa];exact g.o3.filter _,fun k U h=> ?_,fun j hj k U h=> ?_⟩
 . rw [J] at hp ⊢;rw [X] at hm;obtain ⟨k,e1,e2,e3,e4⟩:=g.Kw p hp hm;have Q:k≠i:=fun e=>by
    subst e;refine hr _ e3 ⟨(g.Of (g.cv k hi _ e3)).2 (bg hp),e1⟩
   exact ⟨k,by rw [ar];exact e1,(O k).2 ⟨e2,Q⟩,by rw [el k Q];exact e3,fun x Y hn=>e4 x (by rw [el k Q] at Y;exact Y) hn⟩
 . obtain ⟨h1,I⟩:=(O k).1 U;rw [Z];exact g.cv k h1 x (by rw [el k I] at Y;exact Y)
 . obtain ⟨h1,I⟩:=(O k).1 U;rw [el k I];exact g.cn k h1
 . obtain ⟨h1,I⟩:=(O k).1 U;rw [el k I];exact g.cl k h1
 . obtain ⟨h1,I⟩:=(O k).1 U;rw [el k I,ea k I];exact g.ca k h1 x
 . by_cases e:k=i
   . rw [e,bu];simp
   . rw [ea k e];exact g.al k
 . obtain ⟨h1,I⟩:=(ew j c).1 hc;obtain ⟨k,e1,e2,e3⟩:=g.w1 j c h1;have Q:k≠i:=fun e=>I (by rw [e1,e]);exact ⟨k,e1,(O k).2 ⟨e2,Q⟩,by rw [el k Q];exact e3⟩
 . obtain ⟨h1,I⟩:=(O k).1 U;rw [el k I] at Y;exact (ew _ _).2 ⟨g.w2 k h1 x Y,fun e=>I (by omega)⟩
 . rw [aa,List.mem_filter] at hc;obtain ⟨k,e1,e2⟩:=g.o1 c hc.1;refine ⟨k,e1,(O k).2 ⟨e2,fun e=> ?_⟩⟩;have I:=hc.2;rw [e1,e] at I;simp at I
 . obtain ⟨h1,I⟩:=(O k).1 U;rw [el k I] at h;rw [aa,List.mem_filter];refine ⟨g.o2 k h1 h,?_⟩;simp;omega
 . obtain ⟨h1,I⟩:=(O k).1 U;intro x Y y hy Q hm;rw [el k I] at Y hy;rw [J,a_] at hm;rw [J];refine g.wd k h1 (fun aw=>h ?_) x Y y hy Q hm;rw [aa,List.mem_filter];refine ⟨aw,?_⟩;simp;omega
 . obtain ⟨h1,I⟩:=(O k).1 U;intro x Y y hy Q hm;rw [el k I] at Y hy;rw [X] at hj;rw [J,ax] at hm;rw [J,X];refine g.wj j hj k h1 (fun aw=>h ?_) x Y y hy Q hm;rw [aa,List.mem_filter];refine ⟨aw,?_⟩;simp;omega
theorem PM.NY (h:PM w b H s) {i:Nat} (hi:i<s.nc) {n:Nat} (hn:n=(H .c).n) {I:Int} (hI:I=i) {K:World->Prop}
 (O: ∀w',PM w' b (bh (bh H (.a i) Sl.nil) (.l i) Sl.nil) (s.del i)->aF (fun k=>aJ (H .c).p=some k) w w'->K w'):
 aP (H .c).p n I 3 fun a=> ∃w',ah a 0 [.slice none 0 0,.slice none 0 0,.bool true] w w'/\K w':=by
 subst hI;refine h.c.st Ho (x:=(Sl.nil,Sl.nil,true)) rfl rfl (by omega) (by rw [hn,h.cn,ri]) (by rw [hn,h.cn];omega) fun w' o m=>O w' ?_ m;rw [Int.toNat_natCast] at o;have Y: ∀ {y:Pt} {k:Nat},y≠ .c->own b H y=some k->¬aJ (H .c).p=some k:=fun Q O=>h.iL (x:= .c) (by simp) Q O;have J: ∀k,¬aJ Sl.nil.p=some k:=fun k e=>by simp [aJ,Sl.nil] at e
 have i1:=mY h.inj (x:= .a i) (by simp) (q:=Sl.nil) fun k e=>absurd e (J k);have i2:=mY i1 (x:= .l i) (by simp) (q:=Sl.nil) fun k e=>absurd e (J k);have Z: ∀y,y≠ .a i->y≠ .l i->bh (bh H (.a i) Sl.nil) (.l i) Sl.nil y=H y:=fun y h1 h2=>by rw [aM h2,aM h1]
 refine ⟨?_,?_,?_,?_,?_,fun y Q=> ?_,fun y Q=> ?_,i2⟩
 . have e:y8 (s.del i) (bh (bh H (.a i) Sl.nil) (.l i) Sl.nil)=y8 s H:=by simp [y8,aH.del,aH.set,bh]
   rw [e];exact h.st.keep m (Y (y:= .st) (by simp) rfl)
 . rw [Z .c (by simp) (by simp)];have e:AD (bh (bh H (.a i) Sl.nil) (.l i) Sl.nil) (s.del i).gone (s.del i).nc=(AD H s.gone s.nc).set i (Sl.nil,Sl.nil,true):=by
    apply List.ext_getElem?;intro j;simp only [AD,aH.del,aH.set,List.getElem?_map,List.getElem?_set,List.length_map,List.length_range];by_cases e:i=j
    . subst e;simp [hi,Cs,bh]
    . rw [if_neg e];by_cases hj:j<s.nc
      . simp [hj,Cs,bh,Ne.symm e]
      . simp [hj]
   rw [e];exact o
 . rw [Z .c (by simp) (by simp)];exact h.cn
 . rw [Z .wa (by simp) (by simp)];have e:iR (bh (bh H (.a i) Sl.nil) (.l i) Sl.nil) (2* ((s.del i).vars+1))=iR H (2* (s.vars+1)):=by
    rw [jH (by simp),jH (by simp)];rfl
   rw [e];exact h.wa.keep m fun k O=>Y (y:= .wa) (by simp) O
 . rw [Z .wa (by simp) (by simp)];exact h.wn
 . by_cases X:y= .l i
   . subst X;show Ow _ _ w' _ _ (((s.set (.a i) []).set (.l i) []).R (.l i));rw [aX,aK];exact Ow.nil _ _ _
   . by_cases U:y= .a i
     . subst U;show Ow _ _ w' _ _ (((s.set (.a i) []).set (.l i) []).R (.a i));rw [aM (by simp),aX,aq (by simp),aK];exact Ow.nil _ _ _
     . show Ow _ _ w' _ _ (((s.set (.a i) []).set (.l i) []).R y);rw [Z y U X,aq X,aq U];exact (h.row y Q).keep m fun k O=>Y (cY Q).2.1 (by rw [bM (cY Q).1];exact O)
 . by_cases X:y= .l i
   . subst X;show _=(((s.set (.a i) []).set (.l i) []).R (.l i)).length;rw [aX,aK];rfl
   . by_cases U:y= .a i
     . subst U;show _=(((s.set (.a i) []).set (.l i) []).R (.a i)).length;rw [aM (by simp),aX,aq (by simp),aK];rfl
     . show _=(((s.set (.a i) []).set (.l i) []).R y).length;rw [Z y U X,aq X,aq U];exact h.len y Q
theorem aH.zD {i:Int}:s.is i=true↔0<=i/\s.aN i.toNat:=by
 unfold aH.is aH.aN;simp only [Bool.and_eq_true,decide_eq_true_eq,Bool.not_eq_true'];constructor
 . rintro ⟨⟨h1,J⟩,I⟩;exact ⟨h1,by omega,I⟩
 . rintro ⟨h1,J,I⟩;exact ⟨⟨h1,by omega⟩,I⟩
def Oy (s:aH) (i:Nat):Prop:= ∃x∈s.R (.l i),0<s.val x/\s.kG x=(i:Int)
theorem Dv (h:PM w b H s) (g:aL s) (i:Int):Calls prog fK.id #[bL b,.int .i64 i] w fun e w'=> ∃r:Int,e= .returned (.int .i64 r)/\∃H',
 ((r=4/\s.is i=false/\Pw w w' b H H' s)\/(r=7/\s.is i=true/\Oy s i.toNat/\Pw w w' b H H' s)\/(r=0/\s.is i=true/\¬Oy s i.toNat/\Pw w w' b H H' (s.drop i.toNat))):=by
 refine fK.ak ?_;intro n1 w1 h1;have hA:=h.grow h1.mod;have e1:=h1.num;have Y: ∀x,¬own b H x=some n1:=fun x e=>by have:=h.lt x n1 e;omega
 refine ⟨_,aQ h1.has rfl,(AS hA i).mono ?_⟩;rintro e w4 ⟨rfl,rfl⟩;refine ⟨_,rfl,?_⟩;cases hi:s.is i with
 |false=>exact cu rfl ⟨_,rfl,H,.inl ⟨rfl,rfl,Pw.refl hA h1.mod⟩⟩
 |true=>
  obtain ⟨i0,I⟩:=aH.zD.1 hi;obtain ⟨j,rfl⟩: ∃j:Nat,i=j:=⟨i.toNat,by omega⟩
  rw [Int.toNat_natCast] at I ⊢;have hD:=hA.drew;have c2:=g.cl j I;have k:=g.wf;refine bm rfl ⟨_,rfl,_,_,_,ae hD.st rfl,_,aQ h1.has.drew rfl,hD.Kh I.1 rfl rfl fun a9 cm=> ⟨_,_,_,cm.get 1 _ rfl,?_⟩⟩;have b6:=h.len (.l j) rfl;rw [b6];refine ⟨fun V u m=> ∃v:Nat,V=v/\v<=(s.R (.l j)).length/\m=(s.R (.l j)).length - v/\ao w4 u/\∀q,q<v->¬(0<s.val ((s.R (.l j)).getD q 0)/\s.kG ((s.R (.l j)).getD q 0)=(j:Int)),⟨_,0,rfl,Nat.zero_le _,rfl,(aF.refl _).drew,fun q hq=>by omega⟩,?_⟩;rintro V b3 m _ ⟨v,rfl,hv,rfl,O,Z⟩;have aw:=hA.grow O;have J:=h1.has.grow O;refine aj (fun r2=> ?_) (fun r2=> ?_)
  . have r2:v< (s.R (.l j)).length:=by simpa using r2
    have a':=bg r2;refine aw.Jy (x:= .l j) rfl (by omega) (by omega) (by omega) fun dd _ bc=> ⟨_,bc,?_⟩
    rw [Int.toNat_natCast];have step: ∀ {u:World},ao w4 u->¬(0<s.val ((s.R (.l j)).getD v 0)/\s.kG ((s.R (.l j)).getD v 0)=(j:Int))->∃a8,a8< (s.R (.l j)).length - v/\∃v':Nat,IntKind.i64.wrap ((v:Int)+1)=v'/\v'<=(s.R (.l j)).length/\a8=(s.R (.l j)).length - v'/\ao w4 u/\∀q,q<v'->¬(0<s.val ((s.R (.l j)).getD q 0)/\s.kG ((s.R (.l j)).getD q 0)=(j:Int)):=by
     intro u gu av;refine ⟨_,?_,v+1,wN (by omega) (by omega),by omega,rfl,gu,fun q hq=> ?_⟩
     . omega
     . by_cases e:q=v
       . rw [e];exact av
       . exact Z q (by omega)
    generalize (s.R (.l j)).getD v 0=X at*
    have ag:=g.cv j I X a';have dT:=ag.bf;have hD:=aw.drew;refine ⟨(·=b3.drew),rfl,(mH hD k ag).mono ?_⟩;rintro e c3 ⟨rfl,rfl⟩;refine ⟨_,rfl,rfl,aj (fun r3=> ?_) (fun r3=>step O.drew fun hh=> ?_)⟩
    . have r3:0<s.val X:=by simpa using r3
      refine ⟨_,rfl,_,_,_,dW (ae hD.st rfl),(fV (ag.bd g.dS) _).mono ?_⟩;rintro e c1 ⟨rfl,rfl⟩;refine ⟨_,rfl,rfl,hD.vJ (x:= .re) rfl (by omega) rfl (by rw [g.rl];omega) fun a25 _ aT=> ⟨_,dW aT,_,dW (aQ J.drew rfl),aj (fun r4=> ?_) (fun r4=>step O.drew fun hh=> ?_)⟩⟩
      . have r4:s.kG X=(j:Int):=beq_iff_eq.1 r4;exact ⟨_,rfl,H,.inr (.inl ⟨rfl,rfl,⟨X,a',r3,r4⟩,Pw.refl hD (h1.mod.trans O.drew)⟩)⟩
      . have r4: ¬s.kG X=(j:Int):=fun e=>by
         have e2:Pt.re.f ((s.R .re).getD (bf X).toNat 0)= .int .i64 (j:Int):=congrArg _ e;have e3:(s.R .re).getD (bf X).toNat 0=(j:Int):=e;rw [e3] at r4;simp at r4
        exact r4 hh.2
    . have r3: ¬0<s.val X:=by simpa using r3
      exact r3 hh.1
  . have r2:v=(s.R (.l j)).length:=by simp at r2;omega
    subst r2;have av: ∀x∈s.R (.l j),¬(0<s.val x/\s.kG x=(j:Int)):=fun x hx=>by
     obtain ⟨q,hq,e⟩:=List.mem_iff_getElem.1 hx;have:=Z q hq;simp only [List.getD,List.getElem?_eq_getElem hq,Option.getD_some,e] at this;exact this
    refine ⟨_,aQ J rfl,(uV aw g.dS I.1 (g.cv j I) (by omega) fun q=>by have:=g.wl q;omega).mono ?_⟩;rintro e di ⟨rfl,H2,ax,kh⟩;have Q:=ax.pm;have a6:=J.keep ax.mod fun ⟨x,e⟩=>Y x e;have bu:H2 .lo=H .lo:=kh _ (by simp);have aa:(lV j s ((s.R (.l j)).take 2)).R .lo=s.R .lo:=iB _ (by simp) _ _;have b8: ¬aJ (H2 .lo).p=some n1:=fun e=>by rw [bu] at e;exact Y .lo e
    have c0:=g.N9;refine ⟨rfl,_,rfl,_,_,_,ae Q.st rfl,(si (Q.row .lo rfl) (Q.len .lo rfl) (by rw [Q.len .lo rfl,aa];omega) Ex (fun x=>x==(j:Int)) fun x _ w' m=> ?_).mono ?_⟩
    . rw [zO];exact NB (a6.keep m b8) x
    rintro e du ⟨rfl,a_,bb⟩;rw [aa] at a_ ⊢;refine ⟨_,_,_,rfl,_,rfl,Q.head (x:= .lo) rfl a_ (Q.Fh rfl bb) (fun k U=> .inl U) rfl fun cb a7 ce=> ?_⟩;have bk:=ax.trans (Pw.head (x:= .lo) (z:= .st) (by simp) a7 bb (ce.mono fun k _ e=>by rw [e];rfl) fun k U=> .inl U);have az:bA cb n1 #[.int .i64 (j:Int)]:=J.keep bk.mod fun ⟨x,e⟩=>Y x e;have hE:=a7.drew;refine ⟨_,rfl,_,_,_,ae hE.st rfl,_,aQ az.drew rfl,?_⟩;have cg:(lV j s ((s.R (.l j)).take 2)).nc=s.nc:=(gZ j _ _).2.1;refine hE.NY (i:=j) (by show j< (lV j s ((s.R (.l j)).take 2)).nc;rw [cg];exact I.1) rfl rfl fun dw b' b_=> ?_;refine ⟨_,rfl,bh (bh (bh H2 .lo ⟨(H2 .lo).p,((s.R .lo).filter fun x=> !(x==(j:Int))).length,(H2 .lo).c⟩) (.a j) Sl.nil) (.l j) Sl.nil,.inr (.inr ⟨rfl,rfl,fun ⟨x,hx,h⟩=>av x hx h,?_⟩)⟩;refine ((bk.drew).trans ⟨b',b_.mono fun k _ e=> ⟨.c,e⟩,fun x k U=> .inl ⟨x,?_⟩⟩).cM (h1.mod.trans O);by_cases a1:x= .l j
    . subst a1;rw [bM (by simp),aX] at U;simp [aJ,Sl.nil] at U
    . rw [gO a1] at U;by_cases a2:x= .a j
      . subst a2;rw [bM (by simp),aX] at U;simp [aJ,Sl.nil] at U
      . rw [gO a2] at U;exact U
end
section
variable {w w' w0 w1 w2 w3:World} {b:Nat} {H H' H2:Pt->Sl} {s t u s' T:aH} {l x y:Int} {i:Nat}
def aH.lY (s:aH) (c m:List Int):aH:= {(s.set (.a s.nc) c).set (.l s.nc) m with nc:=s.nc+1,gone:=fun k=>if k=s.nc then false else s.gone k}
structure kI (s:aH) (c:List Int) (s':aH):Prop where
 v:s'.vars=s.vars
 n:s'.nc=s.nc+1
 g: ∀i,s'.gone i=if i=s.nc then false else s.gone i
 a: ∀i,s'.R (.a i)=if i=s.nc then c else s.R (.a i)
 tr:s'.R .tr=s.R .tr
 be:s'.R .be=s.R .be
theorem iV {c m:List Int} {y:Pt} (h1:y≠ .a s.nc) (I:y≠ .l s.nc):(s.lY c m).R y=s.R y:=by
 show ((s.set (.a s.nc) c).set (.l s.nc) m).R y=_;rw [aq I,aq h1]
theorem uE {c m:List Int}:(s.lY c m).R (.l s.nc)=m:=by
 show ((s.set (.a s.nc) c).set (.l s.nc) m).R _=_;rw [aK]
theorem CK {c m:List Int}:(s.lY c m).R (.a s.nc)=c:=by
 show ((s.set (.a s.nc) c).set (.l s.nc) m).R (.a s.nc)=_;rw [aq (by simp),aK]
theorem Hi (g:aL s) (hn:s.nc<262144) {c m l':List Int} (hv: ∀x∈m,dB s.vars x) (hd:m.Nodup) (hl:m.length<=4096) (hm: ∀x,x∈m↔x∈c) (hc:c.length<=4096) (pm:l'.Perm m) (hb:xc s.rk 2 l'):
 aL (jX (s.lY c m) s.nc l')/\kI s c (jX (s.lY c m) s.nc l'):=by
 obtain ⟨u,hu⟩: ∃u,u=wF (s.nc:Int) ((s.lY c m).set (.l s.nc) l') (l'.take 2):=⟨_,rfl⟩
 obtain ⟨d1,d2,d3,d4⟩:=nQ (s.nc:Int) (l'.take 2) ((s.lY c m).set (.l s.nc) l');rw [<- hu] at d1 d2 d3 d4;have bY:(s.lY c m).R .va=s.R .va:=iV (by simp) (by simp);have ce: ∀x,(s.lY c m).val x=s.val x:=fun x=>iX bY x;obtain ⟨t,ht⟩: ∃t,t=jX (s.lY c m) s.nc l':=⟨_,rfl⟩
 have bv:(s.lY c m).R .lo=s.R .lo:=iV (by simp) (by simp);have tt:t=if l'.length<2\/s.val (l'.getD 1 0)<0 then u.set .lo (s.R .lo++ [(s.nc:Int)]) else u:=by
  rw [ht,hu];unfold jX;simp only [bv,ce]
 have uR: ∀y,(∀j,y≠Pt.w j)->y≠ .a s.nc->y≠ .l s.nc->u.R y=s.R y:=fun y h1 J h3=>by rw [hu,pC _ h1,aq h3,iV J h3]
 have tR: ∀y,y≠ .lo->t.R y=u.R y:=fun y hy=>by
  rw [tt];split
  . exact aq hy
  . rfl
 have eR: ∀y,(∀j,y≠Pt.w j)->y≠ .lo->y≠ .a s.nc->y≠ .l s.nc->t.R y=s.R y:=fun y h1 J h3 h4=> (tR y J).trans (uR y h1 h3 h4);have el: ∀k,t.R (.l k)=if k=s.nc then l' else s.R (.l k):=fun k=>by
  rw [tR _ (by simp)];by_cases e:k=s.nc
  . rw [if_pos e,e,hu,pC _ (by simp),aK]
  . rw [if_neg e];exact uR _ (by simp) (by simp) (by simpa using e)
 have ea: ∀k,t.R (.a k)=if k=s.nc then c else s.R (.a k):=fun k=>by
  rw [tR _ (by simp)];by_cases e:k=s.nc
  . rw [if_pos e,e,hu,pC _ (by simp),aq (by simp),CK]
  . rw [if_neg e];exact uR _ (by simp) (by simpa using e) (by simp)
 have ew: ∀j q,q∈t.R (.w j)↔q∈s.R (.w j)\/(q=(s.nc:Int)/\∃x∈l'.take 2,aA x=j):=fun j q=>by
  rw [tR _ (by simp),hu,CL,aq (by simp),iV (by simp) (by simp)]
 have ln: ∀j q,q∈s.R (.w j)->q≠(s.nc:Int):=fun j q hq e=>by
  obtain ⟨k,e1,⟨e2,_⟩,_⟩:=g.w1 j q hq;omega
 have cb: ∀j,(t.R (.w j)).Nodup:=fun j=>by
  rw [tR _ (by simp),hu];refine rj _ j _ _ (tE (pm.nodup_iff.2 hd)) (by rw [aq (by simp),iV (by simp) (by simp)];exact g.w3 j) fun _=> ?_;rw [aq (by simp),iV (by simp) (by simp)];exact fun h=>ln j _ h rfl
 have a8:u.R .lo=s.R .lo:=uR _ (by simp) (by simp) (by simp);have bx: ∀q∈s.R .lo,q≠(s.nc:Int):=fun q hq e=>by
  obtain ⟨k,e1,⟨e2,_⟩⟩:=g.o1 q hq;omega
 have ad: ∀q,q∈t.R .lo↔q∈s.R .lo\/(q=(s.nc:Int)/\(l'.length<2\/s.val (l'.getD 1 0)<0)):=fun q=>by
  rw [tt];split
  . rename_i h;rw [aK,List.mem_append,List.mem_singleton];exact ⟨fun J=>J.imp id fun e=> ⟨e,h⟩,fun J=>J.imp id fun e=>e.1⟩
  . rename_i h;rw [a8];exact ⟨fun J=> .inl J,fun J=>J.elim id fun e=>absurd e.2 h⟩
 have b7:(t.R .lo).Nodup:=by
  rw [tt];split
  . rw [aK];exact qT g.o3 fun h=>bx _ h rfl
  . rw [a8];exact g.o3
 have tv:t.vars=s.vars/\t.nc=s.nc+1/\t.gone=(fun k=>if k=s.nc then false else s.gone k)/\t.done=s.done:=by
  rw [tt];split
  . exact ⟨d1,d2,d3,d4⟩
  . exact ⟨d1,d2,d3,d4⟩
 rw [<- ht];clear ht tt tR uR a8 hu d1 d2 d3 d4;obtain ⟨Y,enc,b6,bu⟩:=tv;have Q: ∀k,t.aN k↔s.aN k\/k=s.nc:=fun k=>by
  show (k<t.nc/\t.gone k=false)↔_;rw [enc,b6];unfold aH.aN;by_cases e:k=s.nc
  . simp [e]
  . simp only [if_neg e];constructor
    . rintro ⟨h1,J⟩;exact .inl ⟨by omega,J⟩
    . rintro (⟨h1,J⟩|h)
      . exact ⟨by omega,J⟩
      . exact absurd h e
 have ne: ∀k,s.aN k->k≠s.nc:=fun k X e=>by have:=X.1;omega
 have O:=eR .tr (by simp) (by simp) (by simp) (by simp);have U:=eR .be (by simp) (by simp) (by simp) (by simp);have a_:=eR .ds (by simp) (by simp) (by simp) (by simp);have a7:=eR .va (by simp) (by simp) (by simp) (by simp);have b4:=eR .le (by simp) (by simp) (by simp) (by simp);have bk:=eR .re (by simp) (by simp) (by simp) (by simp);have ev: ∀x,t.val x=s.val x:=fun x=>iX a7 x;have b3: ∀x,t.bi x=s.bi x:=fun x=>by unfold aH.bi;rw [b4]
 have az: ∀x,t.kG x=s.kG x:=fun x=>by unfold aH.kG;rw [bk]
 have a6: ∀x∈l',dB s.vars x:=fun x I=>hv x (pm.mem_iff.1 I);have free: ¬(l'.length<2\/s.val (l'.getD 1 0)<0)->∀x∈l'.take 2,-x ∉ s.R .tr:=fun h x I e=>by
  have h1:2<=l'.length:=by omega
  have J:0<=s.val (l'.getD 1 0):=by omega
  have b5:=List.mem_of_mem_take I;have aT:=(g.GJ (a6 x b5)).2 e;rcases iq.1 I with ⟨_,e3⟩| ⟨_,e3⟩
  . have:=hb 0 (by omega) 1 (by omega) (by omega);have hl:=g.Ns (a6 x b5) aT;rw [e3] at aT hl;unfold aH.rk at this;rw [if_pos (show s.val (l'.getD 1 0)>=0 from J),if_neg (show ¬s.val (l'.getD 0 0)>=0 by omega)] at this;omega
  . rw [e3] at aT;omega
 refine ⟨⟨by rw [Y];exact g.dS,by omega,by rw [a7,Y];exact g.va,by rw [a7];exact g.vb,by rw [b4,Y];exact g.le,by rw [bk,Y];exact g.rl,by rw [O,Y];exact g.tv,by rw [O];exact g.nd,fun x I=>by rw [ev,O];exact g.v1 x (by rw [Y] at I;exact I),
  by rw [U,O];exact g.bl,by rw [U];exact g.bs,by rw [a_,U];exact g.dl,by rw [U,a_];exact g.db,fun p hp=>by rw [O] at hp ⊢;rw [b3,U];exact g.lv p hp,fun p hp hm=>by rw [O] at hp ⊢;rw [az];rw [U] at hm;exact g.Ly p hp hm,
  fun p hp hm=> ?_,by rw [bu,O];exact g.dn,fun k X x I=> ?_,fun k X=> ?_,fun k X=> ?_,fun k X x=> ?_,fun k=> ?_,fun j q hq=> ?_,fun k X x I=> ?_,cb,fun q hq=> ?_,fun k X h=> ?_,b7,fun k X h=> ?_,fun j hj k X h=> ?_⟩,
  ⟨Y,enc,fun k=>by rw [b6],ea,O,U⟩⟩
 . rw [O] at hp ⊢;rw [U] at hm;obtain ⟨k,e1,e2,e3,e4⟩:=g.Kw p hp hm;have aa:=ne k e2;exact ⟨k,by rw [az];exact e1,(Q k).2 (.inl e2),by rw [el,if_neg aa];exact e3,fun x I hn=>e4 x (by rw [el,if_neg aa] at I;exact I) hn⟩
 . rw [Y];rw [el] at I;rcases (Q k).1 X with h|h
   . rw [if_neg (ne k h)] at I;exact g.cv k h x I
   . rw [if_pos h] at I;exact a6 x I
 . rw [el];rcases (Q k).1 X with h|h
   . rw [if_neg (ne k h)];exact g.cn k h
   . rw [if_pos h];exact pm.nodup_iff.2 hd
 . rw [el];rcases (Q k).1 X with h|h
   . rw [if_neg (ne k h)];exact g.cl k h
   . rw [if_pos h,pm.length_eq];exact hl
 . rw [el,ea];rcases (Q k).1 X with h|h
   . rw [if_neg (ne k h),if_neg (ne k h)];exact g.ca k h x
   . rw [if_pos h,if_pos h,pm.mem_iff];exact hm x
 . rw [ea];split
   . exact hc
   . exact g.al k
 . rcases (ew j q).1 hq with h| ⟨e1,x,I,e3⟩
   . obtain ⟨k,e1,e2,x,I,e3⟩:=g.w1 j q h;exact ⟨k,e1,(Q k).2 (.inl e2),x,by rw [el,if_neg (ne k e2)];exact I,e3⟩
   . exact ⟨s.nc,e1,(Q _).2 (.inr rfl),x,by rw [el,if_pos rfl];exact I,e3⟩
 . rw [el] at I;rw [ew];rcases (Q k).1 X with h|h
   . rw [if_neg (ne k h)] at I;exact .inl (g.w2 k h x I)
   . rw [if_pos h] at I;exact .inr ⟨by rw [h],x,I,rfl⟩
 . rcases (ad q).1 hq with h| ⟨e1,_⟩
   . obtain ⟨k,e1,e2⟩:=g.o1 q h;exact ⟨k,e1,(Q k).2 (.inl e2)⟩
   . exact ⟨s.nc,e1,(Q _).2 (.inr rfl)⟩
 . rw [el] at h;rw [ad];rcases (Q k).1 X with J|J
   . rw [if_neg (ne k J)] at h;exact .inl (g.o2 k J h)
   . rw [if_pos J] at h;exact .inr ⟨by rw [J],.inl h⟩
 . intro x I y hy aa Z;rw [O,bu] at Z;rw [O];rw [el] at I hy;rcases (Q k).1 X with J|J
   . rw [if_neg (ne k J)] at I hy;exact g.wd k J (fun h3=>h ((ad _).2 (.inl h3))) x I y hy aa Z
   . rw [if_pos J] at I;exact absurd (List.mem_of_mem_take Z) (free (fun h3=>h ((ad _).2 (.inr ⟨by rw [J],h3⟩))) x I)
 . intro x I y hy aa Z;rw [U] at hj;rw [O,a_] at Z;rw [O,U];rw [el] at I hy;rcases (Q k).1 X with J|J
   . rw [if_neg (ne k J)] at I hy;exact g.wj j hj k J (fun h3=>h ((ad _).2 (.inl h3))) x I y hy aa Z
   . rw [if_pos J] at I;exact absurd (List.mem_of_mem_take Z) (free (fun h3=>h ((ad _).2 (.inr ⟨by rw [J],h3⟩))) x I)
theorem Eo:q6 prog gQ ji 3 56=true:=by kernel_rfl
theorem PM.lY (h:PM w0 b H s) (g1:ao w0 w1) {A L:Sl} {c m:List Int} (oA:da aC w1 A.p A.c c) (oL:da aC w1 L.p L.c m) (nA:A.n=c.length) (nL:L.n=m.length)
 (fA: ∀k,aJ A.p=some k->w0.heap.size<=k) (fL: ∀k,aJ L.p=some k->w0.heap.size<=k) (aw: ∀k,aJ A.p=some k->aJ L.p≠some k) {n27:Nat} (hb:bA w1 n27 #[A.v,L.v,.bool false]) (hn:s.nc<=262144) {K:World->Prop}
 (I: ∀w3 H',Pw w0 w3 b H H' (s.lY c m)->K w3):
 ∃w2,∃ (J:Option Addr) (n' c':Nat),(Builtin.append_ #[gQ,gQ] gQ #[.slice (H .c).p (H .c).n (H .c).c,.slice (some (Addr.mk n27 0 none)) 1 1]).run prog w1= .ok (.slice J n' c') w2/\
  aF (fun k=>aJ (H .c).p=some k) w1 w2/\∃w3,ah ((Addr.mk b 0 none).add 1) 0 [.slice J n' c'] w2 w3/\K w3:=by
 have h1:=h.grow g1;have vr:Vr 3 Mg w1 (some ⟨n27,0,none⟩) [((A,L,false):Ce)]:=by
  intro j Y;have Y:j=0:=by simpa using Y
  subst Y;refine ⟨_,rfl,?_⟩;rw [Nat.zero_mul,c5];exact ⟨ae hb rfl,ae hb rfl,ae hb rfl,trivial⟩
 refine h1.c.mN Ho Eo vr (by rw [h.cn,ri]) rfl (by rw [ri];simp;omega) fun w2 J c' o2 m2 ax bx=> ?_;have M2:aF (fun k=>aJ (H .c).p=some k) w0 w2:=(g1.mono fun _ _ e=>e.elim).trans m2;refine ⟨m2,?_⟩;have z1:=g1.size;have U: ∀ {y:Pt} {k:Nat},y≠ .c->own b H y=some k->¬aJ (H .c).p=some k:=fun Q I=>h.iL (x:= .c) (by simp) Q I;have f2: ∀k,aJ J=some k->aJ (H .c).p=some k\/w1.heap.size<=k:=fun k I=>by
  rcases ax with rfl|rfl
  . exact .inl I
  . have:=aO I;exact .inr (by omega)
 have ad: ∀ {k:Nat},w0.heap.size<=k->k≠b:=fun I e=>by have:=h.lt .st b rfl;omega
 have aT:bA w2 b (y8 s H):=h.st.keep M2 (U (y:= .st) (by simp) rfl);have i1:=mY h.inj (x:= .a s.nc) (by simp) (q:=A) fun k e=> .inr (h.bV (fA k e));have i2:=mY i1 (x:= .l s.nc) (by simp) (q:=L) fun k e=> .inr fun y O=>by
  by_cases ey:y= .a s.nc
  . subst ey;rw [bM (by simp),aX] at O;exact aw k O e
  . rw [gO ey] at O;exact h.bV (fL k e) y O
 have i3:=mY i2 (x:= .c) (by simp) (q:=⟨J,s.nc+1,c'⟩) fun k e=>by
  rw [aM (by simp),aM (by simp)];rcases f2 k e with X|X
  . exact .inl X
  . refine .inr fun y O=> ?_;by_cases ey:y= .l s.nc
    . subst ey;rw [bM (by simp),aX] at O;have:=oL.lt k O;omega
    . rw [gO ey] at O;by_cases Z:y= .a s.nc
      . subst Z;rw [bM (by simp),aX] at O;have:=oA.lt k O;omega
      . rw [gO Z] at O;have:=h.lt y k O;omega
 have eH: ∀y,y≠ .a s.nc->y≠ .l s.nc->y≠ .c->bh (bh (bh H (.a s.nc) A) (.l s.nc) L) .c ⟨J,s.nc+1,c'⟩ y=H y:=fun y a1 a2 a3=>by rw [aM a3,aM a2,aM a1]
 have eA:bh (bh (bh H (.a s.nc) A) (.l s.nc) L) .c ⟨J,s.nc+1,c'⟩ (.a s.nc)=A:=by rw [aM (by simp),aM (by simp),aX]
 have eL:bh (bh (bh H (.a s.nc) A) (.l s.nc) L) .c ⟨J,s.nc+1,c'⟩ (.l s.nc)=L:=by rw [aM (by simp),aX]
 have en:(AD H s.gone s.nc++ [((A,L,false):Ce)]).length=s.nc+1:=by simp [ri]
 rw [en];refine bO (k:=1) (i:=0) aT rfl rfl fun w3 h3 m3=>I w3 (bh (bh (bh H (.a s.nc) A) (.l s.nc) L) .c ⟨J,s.nc+1,c'⟩) ⟨⟨?_,?_,?_,?_,?_,fun y Q=> ?_,fun y Q=> ?_,i3⟩,?_,fun y k e=> ?_⟩
 . have e:y8 (s.lY c m) (bh (bh (bh H (.a s.nc) A) (.l s.nc) L) .c ⟨J,s.nc+1,c'⟩)=wr (y8 s H) (0+1+0) [.slice J (s.nc+1) c']:=by
    simp [wr,y8,aH.lY,aH.set,bh,Sl.v]
   rw [e];exact h3
 . rw [aX];have e:AD (bh (bh (bh H (.a s.nc) A) (.l s.nc) L) .c ⟨J,s.nc+1,c'⟩) (s.lY c m).gone (s.lY c m).nc=AD H s.gone s.nc++ [((A,L,false):Ce)]:=by
    apply List.ext_getElem?;intro j;simp only [AD,aH.lY,aH.set,List.getElem?_map,List.getElem?_append,List.length_map,List.length_range];by_cases Y:j<s.nc
    . have ay:j≠s.nc:=by omega
      simp [Y,show j<s.nc+1 by omega,Cs,bh,ay]
    . rw [if_neg Y];by_cases e:j=s.nc
      . subst e;simp [Cs,bh]
      . have: ¬j<s.nc+1:=by omega
        simp [this];omega
   rw [e];exact o2.keep m3 fun k I e=>by
    rcases f2 k I with X|X
    . exact U (y:= .st) (by simp) (k:=k) (by rw [e];rfl) X
    . exact ad (by omega) e
 . rw [aX];rfl
 . rw [eH .wa (by simp) (by simp) (by simp)];have e:iR (bh (bh (bh H (.a s.nc) A) (.l s.nc) L) .c ⟨J,s.nc+1,c'⟩) (2* ((s.lY c m).vars+1))=iR H (2* (s.vars+1)):=by
    rw [jH (by simp),jH (by simp),jH (by simp)];rfl
   rw [e];exact (h.wa.keep M2 fun k I=>U (y:= .wa) (by simp) I).keep m3 fun k I e=>by
    have:=h.inj .wa .st k I (by rw [e];rfl);cases this
 . rw [eH .wa (by simp) (by simp) (by simp)];exact h.wn
 . have kp: ∀ {T2:TypeId} {f:Int->Value} {q:Sl} {l:List Int},Ow f T2 w1 q.p q.c l->(∀k,aJ q.p=some k->w0.heap.size<=k)->Ow f T2 w3 q.p q.c l:=fun o hf=> (o.keep m2 fun k I e=>by
    have:=h.lt .c k e;have:=hf k I;omega).keep m3 fun k I e=>ad (hf k I) e
   by_cases a1:y= .a s.nc
   . subst a1;rw [eA,CK];exact kp oA fA
   . by_cases a2:y= .l s.nc
     . subst a2;rw [eL,uE];exact kp oL fL
     . rw [eH y a1 a2 (cY Q).2.1,iV a1 a2];exact ((h.row y Q).keep M2 fun k I=>U (cY Q).2.1 (by rw [bM (cY Q).1];exact I)).keep m3 fun k I e=>by
        have:=h.inj y .st k (by rw [bM (cY Q).1];exact I) (by rw [e];rfl);exact (cY Q).1 this
 . by_cases a1:y= .a s.nc
   . subst a1;rw [eA,CK];exact nA
   . by_cases a2:y= .l s.nc
     . subst a2;rw [eL,uE];exact nL
     . rw [eH y a1 a2 (cY Q).2.1,iV a1 a2];exact h.len y Q
 . exact (M2.mono fun k _ e=> ⟨.c,e⟩).trans (m3.mono fun k _ e=> ⟨.st,by rw [e];rfl⟩)
 . by_cases a3:y= .c
   . subst a3;rw [bM (by simp),aX] at e;rcases f2 k e with X|X
     . exact .inl ⟨.c,X⟩
     . exact .inr (by omega)
   . rw [gO a3] at e;by_cases a2:y= .l s.nc
     . subst a2;rw [bM (by simp),aX] at e;exact .inr (fL k e)
     . rw [gO a2] at e;by_cases a1:y= .a s.nc
       . subst a1;rw [bM (by simp),aX] at e;exact .inr (fA k e)
       . rw [gO a1] at e;exact .inl ⟨y,e⟩
end
section
variable {w w' w0 w1 w2 w3:World} {b:Nat} {H H' H2:Pt->Sl} {s t u s' T:aH} {l x y:Int} {i:Nat}
def uQ (n:Nat) (c:List Int):Bool:=iy c && c.all (xC n)
theorem A6 {p:Int->Bool}: ∀c:List Int,c.any (fun x=> !p x)= !c.all p
 | []=>rfl
 |a::l=>by rw [List.any_cons,List.all_cons,A6 l];cases p a<;>rfl
theorem J4 (k:Wf s) (hn:s.nc<262144) {c m:List Int}:Wf (s.lY c m):=by
 have e: ∀y,(∀i,y≠Pt.a i)->(∀i,y≠Pt.l i)->(s.lY c m).R y=s.R y:=fun y h1 I=>iV (h1 _) (I _);exact ⟨k.dS,by rw [e _ (by simp) (by simp)];exact k.va,by rw [e _ (by simp) (by simp)];exact k.vb,by rw [e _ (by simp) (by simp)];exact k.le,by rw [e _ (by simp) (by simp)];exact k.re,by rw [e _ (by simp) (by simp)];exact k.be,by rw [e _ (by simp) (by simp)];exact k.tr,hn⟩
theorem qH (h:PM w b H s) (g:aL s) {cp:Option Addr} {n cc:Nat} {c:List Int} (hc:Vw (Value.int .i64) w cp c) (hn:n=c.length) (hx:n<=maxLen):
 Calls prog gK.id #[bL b,.slice cp n cc] w fun e w'=> ∃Q O:Int,e= .returned (.tuple #[.int .i64 Q,.int .i64 O])/\∃s' H',Pw w w' b H H' s'/\aL s'/\
  ((Q=0/\O=1/\uQ s.vars c=false/\s'=s)\/(Q=0/\O=5/\uQ s.vars c=true/\s.nc=262144/\s'=s)\/(Q=s.nc/\O=0/\uQ s.vars c=true/\s.nc<262144/\kI s c s')):=by
 have k:=g.wf;refine gK.ak ?_;intro n1 w2 J;have hA:=h.grow J.mod;have e1:=J.num;have ag: ∀x,¬own b H x=some n1:=fun x e=>by have:=h.lt x n1 e;omega
 obtain ⟨av,eb⟩:=zJ h k;refine ⟨_,aQ J.has rfl,bm rfl ⟨_,aQ J.has rfl,_,rfl,_,_,_,ae hA.st rfl,?_⟩⟩;rw [eb];have nM:uQ s.vars c=false->∀ {u:World},ao w2 u->∃Q O:Int,Ending.returned (.tuple #[.int .i64 0,.int .i64 1])= .returned (.tuple #[.int .i64 Q,.int .i64 O])/\∃s' H',Pw w u b H H' s'/\aL s'/\
  ((Q=0/\O=1/\uQ s.vars c=false/\s'=s)\/(Q=0/\O=5/\uQ s.vars c=true/\s.nc=262144/\s'=s)\/(Q=s.nc/\O=0/\uQ s.vars c=true/\s.nc<262144/\kI s c s')):=
  fun hb u gu=> ⟨0,1,rfl,s,H,(Pw.refl (hA.grow gu) gu).cM J.mod,g,.inl ⟨rfl,rfl,hb,rfl⟩⟩
 refine bm rfl ((fR (hc.grow J.mod) hn hx).mono ?_);rintro e w7 ⟨rfl,g7⟩;refine ⟨_,rfl,?_⟩;cases Z:iy c with
 |false=>exact cu rfl (nM (by simp [uQ,Z]) g7)
 |true=>
 have h7:=hA.grow g7;have ea:=J.has.grow g7;refine bm rfl ((iT ((hc.grow J.mod).grow g7) hn hx F3 (fun x=> !xC s.vars x) fun x _ w' gw=> ?_).mono ?_)
 . rw [zO];exact Oq (h7.grow gw) k (ea.grow gw) x
 rintro e w9 ⟨rfl,g9⟩;have G9:=g7.trans g9;have bY:c.any (fun x=> !xC s.vars x)= !c.all (xC s.vars):=A6 c;refine ⟨_,rfl,?_⟩;rw [bY];cases ar:c.all (xC s.vars) with
 |false=>exact cu rfl (nM (by simp [uQ,ar]) G9)
 |true=>
 have b_:uQ s.vars c=true:=by simp [uQ,Z,ar]
 have h9:=hA.grow G9;have dk:=J.has.grow G9;have d4: ∀x∈c,dB s.vars x:=fun x cg=> (ir k.dS).1 (List.all_eq_true.1 ar x cg);have bk:=(cX Z).2;refine bm rfl ⟨_,aQ dk rfl,_,rfl,_,_,_,ae h9.st rfl,?_⟩;rw [h.cn];refine aj (fun r=> ?_) (fun r=> ?_)
 . have r:(s.nc:Int)=262144:=by simpa using r
   exact ⟨0,5,rfl,s,H,(Pw.refl h9 G9).cM J.mod,g,.inr (.inl ⟨rfl,rfl,b_,by omega,rfl⟩)⟩
 have r: ¬(s.nc:Int)=262144:=by simpa using r
 have az:s.nc<262144:=by have:=g.FE;omega
 refine (Ec ((hc.grow J.mod).grow G9) hn hx).mono ?_;rintro e I ⟨d8,d9,m,hm,rfl,b',c7,f15⟩;rw [Z] at hm;simp only [if_true] at hm;subst hm;have U:=G9.trans c7;have b6:=hA.grow U;have X:=J.has.grow U;refine ⟨_,_,_,_,rfl,_,aQ X rfl,_,rfl,_,_,_,ae b6.st rfl,?_⟩;have hD:=b6.drew;have bu: ¬aJ (H .c).p=some n1:=fun e=>ag .c e;have aw: ∀ {a:Addr} {u:Value},I.drew.cell? a=some u->¬aJ (H .c).p=some a.block->iH (aF (fun k=>aJ (H .c).p=some k) I.drew) a u:=fun hc cm u' g=>dZ g hc cm;have gm: ∀ {w1:World},ao I.drew w1->aF (fun k=>aJ (H .c).p=some k) I.drew w1:=fun g=>g.mono fun _ _ e=>e.elim;have d': ¬aJ (H .c).p=some b:=hD.iL (x:= .c) (by simp) (y:= .st) (by simp) rfl;refine ⟨aF (fun k=>aJ (H .c).p=some k) I.drew,aF.refl _,_,aw (aQ X.drew rfl) bu,_,aw (aQ X.drew rfl) bu,_,rfl,_,_,_,aw (ae hD.st rfl) (by rw [cy];exact d'),?_⟩;refine (iO (((hc.grow J.mod).grow U).drew) hn (by omega)).mono ?_;rintro e ei ⟨ce,c3,rfl,cT,a8,f26⟩;refine ⟨_,_,_,rfl,gm a8,?_⟩;intro n27 b3 aa;have ay:=a8.trans aa.mod;refine ⟨gm ay,?_⟩;have zz:I.drew.heap.size=I.heap.size:=rfl;have GA:ao w2 b3:=U.trans ((aF.refl I).drew.trans ay);have ek:=U.size;have s9:=G9.size;have tl:=hA.lY (w1:=b3) (A:=⟨ce,c.length,c3⟩) (L:=⟨d8,(aW c).length,d9⟩) (c:=c) (m:=aW c) GA (cT.grow aa.mod) ((b'.drew.grow a8).grow aa.mod) rfl rfl (fun k hk=>by have:=f26 k hk;omega) (fun k hk=>by have:=f15 k hk;omega)
  (fun k hk e=>by have:=f26 k hk;have:=b'.lt k e;omega) aa.has g.FE (K:=fun a7=> ∃bx,a7.cell? (Addr.mk n1 0 none)=some (.pointer bx)/\Calls prog dG.id #[.pointer bx,.int .i64 (s.nc:Int)] a7 fun e b8=>e= .returned (.tuple #[])/\
    ∃Q O:Int,Ending.returned (.tuple #[.int .i64 (s.nc:Int),.int .i64 0])= .returned (.tuple #[.int .i64 Q,.int .i64 O])/\∃s' H',Pw w b8 b H H' s'/\aL s'/\
    ((Q=0/\O=1/\uQ s.vars c=false/\s'=s)\/(Q=0/\O=5/\uQ s.vars c=true/\s.nc=262144/\s'=s)\/(Q=s.nc/\O=0/\uQ s.vars c=true/\s.nc<262144/\kI s c s'))) ?_
 . obtain ⟨wa,p',n',c',hr,b5,w3,du,aT⟩:=tl;rw [h.cn] at hr ⊢;exact ⟨wa,p',n',c',hr,(gm ay).trans b5,_,rfl,w3,du,aT⟩
 . intro a7 H2 a_;have di:=a_.pm;have bv:=J.has.keep a_.mod fun ⟨x,e⟩=>ag x e;have nm:=cC c;have c1:(aW c).Nodup:=nm.st.imp fun {a b} dT e=>by subst e;exact pZ a dT
   have dw:(aW c).length<=4096:=by have:=nN c;omega
   have ad: ∀x∈aW c,dB s.vars x:=fun x hx=>d4 x ((nm.mem x).1 hx);refine ⟨_,aQ bv rfl,(yj di (J4 k az) (i:=s.nc) (Nat.lt_succ_self _) (by rw [uE];exact ad) (by rw [uE];omega) (fun j=>by rw [iV (by simp) (by simp)];have:=g.wl j;omega) (by rw [iV (by simp) (by simp)];have:=g.N9;omega)).mono ?_⟩;rintro e b8 ⟨rfl,l',H3,ax,pm,c0,_,_⟩;rw [uE] at pm;have Y:xc s.rk 2 l':=fun t ht j h1 J=>by
    have:=ax t ht j h1 J;rw [Ia (s:=s) (iV (by simp) (by simp)) (iV (by simp) (by simp)),Ia (s:=s) (iV (by simp) (by simp)) (iV (by simp) (by simp))] at this;exact this
   obtain ⟨G',A'⟩:=Hi g az ad c1 dw (fun x=>nm.mem x) bk pm Y;exact ⟨rfl,_,_,rfl,_,H3,(a_.trans c0).cM J.mod,G',.inr (.inr ⟨rfl,rfl,b_,az,A'⟩)⟩
end
end Go.Proofs.YtenmibfmhccmiaaGreat.W
namespace Go.Fw
open Go Go.RowKit
variable {α:Type} {f:α->Value} {w w':World} {p:Option Addr} {hs:List Sl} {rows:List (List α)}
def td (p:Option Addr) (hs:List Sl) (k:Nat):Prop:=(hs≠[]/\aJ p=some k)\/qq hs k
theorem V2.jG {S:Nat->Prop} (h:V2 f w p hs rows) (m:aF S w w') (O: ∀k,td p hs k->¬S k):V2 f w' p hs rows:=
 (h.vr.keep m fun k I=>O k (.inr I)).v2 (h.h.jG m fun J k I=>O k (.inl ⟨J,I⟩))
theorem V2.Ki (h:V2 f w p hs rows): ∀k,td p hs k->k<w.heap.size:=by
 rintro k (⟨J,I⟩|I)
 . exact h.h.lt J k I
 . exact h.vr.lt k I
theorem V2.Nw {S:Nat->Prop} {w0:World} (h:V2 f w p hs rows) (O: ∀k,td p hs k->k<w0.heap.size) (m:aF S w w') (J: ∀k,S k->w0.heap.size<=k):V2 f w' p hs rows:=
 h.jG m fun k I hs=>by have:=O k I;have:=J k hs;omega
end Go.Fw
namespace Go.Proofs.YtenmibfmhccmiaaGreat.W
open Go Go.Fw Go.RowKit Go.SoP Go.LiP
open Go.Proofs.Tryz (prog)
section
variable {w w' w0 w1 w2 w3:World} {b:Nat} {H H' H2:Pt->Sl} {s t u s' T:aH} {l x y:Int} {i:Nat}
theorem BX:mB prog cq aI 24=true:=by kernel_rfl
theorem D2:(Tryz.prog.info? aI).bind (·.zero)=some (.slice none 0 0):=by kernel_rfl
theorem Js:(Tryz.prog.info? ug).bind (·.zero)=some (.int .i8 0):=by kernel_rfl
def aH.new (k:Nat):aH:= {vars:=k,nc:=0,gone:=fun _=>false,done:=0,R:=fun x=>match x with| .va| .le| .re=>List.replicate (k+1) 0|_=> []}
def EH (k a v l r:Nat):Pt->Sl
 | .wa=> ⟨some ⟨a,0,none⟩,2* (k+1),2* (k+1)⟩
 | .va=> ⟨some ⟨v,0,none⟩,k+1,k+1⟩
 | .le=> ⟨some ⟨l,0,none⟩,k+1,k+1⟩
 | .re=> ⟨some ⟨r,0,none⟩,k+1,k+1⟩
 |_=>Sl.nil
theorem FX {k:Nat} (Q:k<=1048576):aL (aH.new k):=by
 have e0: ∀ (n i:Nat),(List.replicate n (0:Int)).getD i 0=0:=fun n i=>by
  simp only [List.getD_eq_getElem?_getD,List.getElem?_replicate];split<;>rfl
 refine ⟨Q,by simp [aH.new],by simp [aH.new],fun i=> .inl (e0 _ _),by simp [aH.new],by simp [aH.new],fun x O=>by simp [aH.new] at O,by simp [aH.new],fun x O=> ?_,fun j I=>by simp [aH.new] at I,fun i j _ I=>by simp [aH.new] at I,rfl,fun j I=>by simp [aH.new] at I,
  fun p hp=>by simp [aH.new] at hp,fun p hp=>by simp [aH.new] at hp,fun p hp=>by simp [aH.new] at hp,Nat.le_refl _,fun i hi=>absurd hi.1 (Nat.not_lt_zero _),fun i hi=>absurd hi.1 (Nat.not_lt_zero _),fun i hi=>absurd hi.1 (Nat.not_lt_zero _),fun i hi=>absurd hi.1 (Nat.not_lt_zero _),fun i=>by simp [aH.new],
  fun j c J=>by simp [aH.new] at J,fun i hi=>absurd hi.1 (Nat.not_lt_zero _),fun j=>by simp [aH.new],fun c J=>by simp [aH.new] at J,fun i hi=>absurd hi.1 (Nat.not_lt_zero _),by simp [aH.new],fun i hi=>absurd hi.1 (Nat.not_lt_zero _),fun j I=>by simp [aH.new] at I⟩
 have:(aH.new k).val x=0:=by
  unfold aH.val;show (if x<0 then -(List.replicate (k+1) (0:Int)).getD _ 0 else (List.replicate (k+1) (0:Int)).getD _ 0)=0;rw [e0,e0];simp
 rw [this];simp [aH.new]
def Iv (k t:Nat) (u:World) (g:Nat):Prop:=
 match t with
 |0=>Ow Sl.v aI u (some ⟨g,0,none⟩) (2* (k+1)) (List.replicate (2* (k+1)) Sl.nil)
 |1=>Ow (Value.int .i8) ug u (some ⟨g,0,none⟩) (k+1) (List.replicate (k+1) 0)
 |_=>da aC u (some ⟨g,0,none⟩) (k+1) (List.replicate (k+1) 0)
structure Zn (w0:World) (k:Nat) (u:World) (L:List (Nat × Nat)):Prop where
 g:ao w0 u
 o: ∀t g,(t,g)∈L->Iv k t u g/\w0.heap.size<=g/\g<u.heap.size
 d: ∀t t' g,(t,g)∈L->(t',g)∈L->t=t'
theorem Iv.grow {k t g:Nat} (h:Iv k t w g) (m:ao w w'):Iv k t w' g:=by
 unfold Iv at*
 split at h<;>exact Ow.grow h m
variable {k:Nat} {L:List (Nat × Nat)}
theorem Zn.cons (z:Zn w0 k w L) {t:Nat} {o:Iv k t w' w.heap.size} (m:ao w w') (hs:w'.heap.size=w.heap.size+1):Zn w0 k w' ((t,w.heap.size)::L):=by
 refine ⟨z.g.trans m,fun X g hm=> ?_,fun Q U g h1 O=> ?_⟩
 . rcases List.mem_cons.1 hm with e|hm
   . injection e with I J;subst I J;exact ⟨o,z.g.size,by omega⟩
   . obtain ⟨a,b,c⟩:=z.o X g hm;exact ⟨a.grow m,b,by omega⟩
 . rcases List.mem_cons.1 h1 with I|h1<;>rcases List.mem_cons.1 O with J|O
   . injection I with a1 a2;injection J with b1 b2;omega
   . injection I with a1 a2;have:=(z.o U g O).2.2;omega
   . injection J with a1 a2;have:=(z.o Q g h1).2.2;omega
   . exact z.d Q U g h1 O
theorem Zn.m0 (z:Zn w0 k w L) (O:k<=1048576) {n:Int} (hn:n=((2* (k+1):Nat):Int)) {K:World->Option Addr->Nat->Nat->Prop}
 (J: ∀u,Zn w0 k u ((0,w.heap.size)::L)->K u (some ⟨w.heap.size,0,none⟩) (2* (k+1)) (2* (k+1))):
 ∃w',∃I n' c',(Instr.makeSlice cq (.int .i64 n) (.int .i64 n)).run prog w= .ok (.slice I n' c') w'/\K w' I n' c':=
 oX (f:=Sl.v) (x:=Sl.nil) BX D2 rfl (2* (k+1)) hn (by omega) fun u o m hs=>J u (z.cons (t:=0) (o:=o) m hs)
theorem Zn.m1 (z:Zn w0 k w L) (O:k<=1048576) {n:Int} (hn:n=((k+1:Nat):Int)) {K:World->Option Addr->Nat->Nat->Prop}
 (J: ∀u,Zn w0 k u ((1,w.heap.size)::L)->K u (some ⟨w.heap.size,0,none⟩) (k+1) (k+1)):
 ∃w',∃I n' c',(Instr.makeSlice ws (.int .i64 n) (.int .i64 n)).run prog w= .ok (.slice I n' c') w'/\K w' I n' c':=
 oX (f:=Value.int .i8) (x:=0) Jq Js rfl (k+1) hn (by omega) fun u o m hs=>J u (z.cons (t:=1) (o:=o) m hs)
theorem Zn.m2 (z:Zn w0 k w L) (O:k<=1048576) {n:Int} (hn:n=((k+1:Nat):Int)) {K:World->Option Addr->Nat->Nat->Prop}
 (J: ∀u,Zn w0 k u ((L.length+2,w.heap.size)::L)->K u (some ⟨w.heap.size,0,none⟩) (k+1) (k+1)):
 ∃w',∃I n' c',(Instr.makeSlice aI (.int .i64 n) (.int .i64 n)).run prog w= .ok (.slice I n' c') w'/\K w' I n' c':=
 oX (f:=Value.int .i64) (x:=0) c4 ik rfl (k+1) hn (by omega) fun u o m hs=>J u (z.cons (t:=L.length+2) (o:=o) m hs)
theorem Zn.pm (z:Zn w0 k w L) {a v l r t Q:Nat} (ha:(0,a)∈L) (hv:(1,v)∈L) (hl:(t+2,l)∈L) (hr:(Q+2,r)∈L) (ht:t≠Q) {n:Nat}
 (h:aY (.cells #[.int .i64 k,.slice none 0 0,.slice (some ⟨a,0,none⟩) (2* (k+1)) (2* (k+1)),.slice (some ⟨v,0,none⟩) (k+1) (k+1),.slice (some ⟨l,0,none⟩) (k+1) (k+1),.slice (some ⟨r,0,none⟩) (k+1) (k+1),.slice none 0 0,.slice none 0 0,.slice none 0 0,.int .i64 0,.slice none 0 0] rF) w n w'):
 PM w' n (EH k a v l r) (aH.new k)/\ao w0 w'/\∀x j,own n (EH k a v l r) x=some j->w0.heap.size<=j:=by
 obtain ⟨oa,ga,la⟩:=z.o _ _ ha;obtain ⟨ov,gv,lv⟩:=z.o _ _ hv;obtain ⟨ol,gl,ll⟩:=z.o _ _ hl;obtain ⟨O,gr,lr⟩:=z.o _ _ hr;have en:=h.num;have gz:=z.g.size;have J: ∀ {X Z Y g2:Nat},(X,Y)∈L->(Z,g2)∈L->X≠Z->Y≠g2:=fun h1 h2 U e=>U (z.d _ _ _ h1 (e▸h2));have av:=J ha hv (by omega);have al:=J ha hl (by omega);have ar:=J ha hr (by omega);have vl:=J hv hl (by omega);have vr:=J hv hr (by omega);have aw:=J hl hr (by omega);have qX: ∀x j,own n (EH k a v l r) x=some j->(x= .st/\j=n)\/(x= .wa/\j=a)\/(x= .va/\j=v)\/(x= .le/\j=l)\/(x= .re/\j=r):=by
  intro x j I;cases x<;>simp [own,EH,aJ,Sl.nil] at I<;>simp [I]
 refine ⟨⟨h.has,Row.nil _ _ _ _,rfl,?_,rfl,fun x I=> ?_,fun x I=> ?_,fun x y j I hy=> ?_⟩,z.g.trans h.mod,fun x j I=> ?_⟩
 . have e:iR (EH k a v l r) (2* ((aH.new k).vars+1))=List.replicate (2* (k+1)) Sl.nil:=by
    unfold iR;rw [List.eq_replicate_iff];refine ⟨by simp [aH.new],fun q hq=> ?_⟩;obtain ⟨j,_,rfl⟩:=List.mem_map.1 hq;rfl
   rw [e];exact Iv.grow (t:=0) oa h.mod
 . cases x<;>first| (exact Ow.nil _ _ _)| (simp [Pt.row] at I;done)| (exact Iv.grow (t:=1) ov h.mod)| (exact Iv.grow (t:=t+2) ol h.mod)| (exact Iv.grow (t:=Q+2) O h.mod)
 . cases x<;>first| (simp [Pt.row] at I;done)| (simp [EH,aH.new,Sl.nil])
 . rcases qX x j I with ⟨rfl,rfl⟩| ⟨rfl,rfl⟩| ⟨rfl,rfl⟩| ⟨rfl,rfl⟩| ⟨rfl,rfl⟩<;>rcases qX y _ hy with ⟨rfl,e⟩| ⟨rfl,e⟩| ⟨rfl,e⟩| ⟨rfl,e⟩| ⟨rfl,e⟩<;>first|rfl|omega
 . rcases qX x j I with ⟨_,rfl⟩| ⟨_,rfl⟩| ⟨_,rfl⟩| ⟨_,rfl⟩| ⟨_,rfl⟩<;>omega
structure Iu (k:Nat) (cs:List (List Int)) (s:aH):Prop where
 v:s.vars=k
 n:s.nc=cs.length
 g: ∀i,i<cs.length->s.gone i=false
 a: ∀i,i<cs.length->s.R (.a i)=cs.getD i []
 tr:s.R .tr= []
 be:s.R .be= []
theorem zX {k:Int} {q:Option Addr} {m d:Nat} {hs:List Sl} {cs:List (List Int)} (hc:V2 (Value.int .i64) w q hs cs) (hm:m=cs.length):
 Calls prog oY.id #[.agg #[.int .i64 k,.slice q m d]] w fun e w'=> (ff k cs=false/\e= .returned (.tuple #[.pointer none,.int .i64 1])/\ao w w')\/
  (ff k cs=true/\∃ (b:Nat) (s:aH) (H:Pt->Sl),e= .returned (.tuple #[bL b,.int .i64 0])/\PM w' b H s/\aL s/\Iu k.toNat cs s/\ao w w'/\∀x j,own b H x=some j->w.heap.size<=j):=by
 refine oY.ak ?_;intro n1 w2 Q;have aa:=hc.grow Q.mod;refine ⟨_,_,_,_,⟨ae Q.has rfl,ae Q.has rfl,trivial⟩,(l9 aa hm).mono ?_⟩;rintro e J ⟨rfl,U⟩;refine ⟨_,rfl,?_⟩;cases O:ff k cs with
 |false=>exact cu rfl (.inl ⟨rfl,rfl,Q.mod.trans U⟩)
 |true=>
 have hb:0<=k/\k<=1048576/\cs.length<=262144:=by
  unfold ff at O;simp only [Bool.and_eq_true,decide_eq_true_eq] at O;exact O.1
 obtain ⟨I,rfl⟩: ∃I:Nat,k=I:=⟨k.toNat,by omega⟩
 have Y:I<=1048576:=by omega
 have H5:=Q.has.grow U;have e1:IntKind.i64.wrap ((I:Int)+1)=((I+1:Nat):Int):=wN rfl (by omega);have e2:IntKind.i64.wrap (2* ((I+1:Nat):Int))=((2* (I+1):Nat):Int):=wN (by omega) (by omega);refine bm rfl ⟨_,ae H5 rfl,?_⟩;rw [e1,e2];have z0:Zn J.drew I J.drew []:=⟨aF.refl _,fun t g h=>by simp at h,fun t t' g h=>by simp at h⟩
 refine ⟨fun p u=> ∃ (n:Nat) (H:Pt->Sl),p=(⟨n,0,none⟩:Addr)/\PM u n H (aH.new I)/\ao J u/\∀x j,own n H x=some j->J.heap.size<=j,?_,?_⟩
 . refine ⟨fun u=>ao J.drew u,aF.refl _,_,fun u g=>ae (H5.drew.grow g) rfl,?_⟩;have dV: ∀ {u u':World} {L:List (Nat × Nat)} {a v l r t t' n:Nat},Zn J.drew I u L->(0,a)∈L->(1,v)∈L->(t+2,l)∈L->(t'+2,r)∈L->t≠t'->
    aY (.cells #[.int .i64 I,.slice none 0 0,.slice (some ⟨a,0,none⟩) (2* (I+1)) (2* (I+1)),.slice (some ⟨v,0,none⟩) (I+1) (I+1),.slice (some ⟨l,0,none⟩) (I+1) (I+1),.slice (some ⟨r,0,none⟩) (I+1) (I+1),.slice none 0 0,.slice none 0 0,.slice none 0 0,.int .i64 0,.slice none 0 0] rF) u n u'->
    ∃ (n':Nat) (H:Pt->Sl),Addr.mk n 0 none=(⟨n',0,none⟩:Addr)/\PM u' n' H (aH.new I)/\ao J u'/\∀x j,own n' H x=some j->J.heap.size<=j:=by
    intro u u' L a v l r t t' n z ha hv hl hr ht h;obtain ⟨p1,p2,p3⟩:=z.pm ha hv hl hr ht h;exact ⟨n,_,rfl,p1,(aF.refl J).drew.trans p2,fun x j e=>p3 x j e⟩
   repeat' first
    | (with_reducible refine Zn.m0 (L:=_) (by assumption) Y rfl fun u z=> ⟨z.g,?_⟩)
    | (with_reducible refine Zn.m1 (L:=_) (by assumption) Y rfl fun u z=> ⟨z.g,?_⟩)
    | (with_reducible refine Zn.m2 (L:=_) (by assumption) Y rfl fun u z=> ⟨z.g,?_⟩)
    | (intro n w' h
       exact dV (by assumption) (by first|exact List.mem_cons_self .. |exact List.mem_cons_of_mem _ (List.mem_cons_self ..)|exact List.mem_cons_of_mem _ (List.mem_cons_of_mem _ (List.mem_cons_self ..))|exact List.mem_cons_of_mem _ (List.mem_cons_of_mem _ (List.mem_cons_of_mem _ (List.mem_cons_self ..)))) (by first|exact List.mem_cons_self .. |exact List.mem_cons_of_mem _ (List.mem_cons_self ..)|exact List.mem_cons_of_mem _ (List.mem_cons_of_mem _ (List.mem_cons_self ..))|exact List.mem_cons_of_mem _ (List.mem_cons_of_mem _ (List.mem_cons_of_mem _ (List.mem_cons_self ..)))) (by first|exact List.mem_cons_self .. |exact List.mem_cons_of_mem _ (List.mem_cons_self ..)|exact List.mem_cons_of_mem _ (List.mem_cons_of_mem _ (List.mem_cons_self ..))|exact List.mem_cons_of_mem _ (List.mem_cons_of_mem _ (List.mem_cons_of_mem _ (List.mem_cons_self ..)))) (by first|exact List.mem_cons_self .. |exact List.mem_cons_of_mem _ (List.mem_cons_self ..)|exact List.mem_cons_of_mem _ (List.mem_cons_of_mem _ (List.mem_cons_self ..))|exact List.mem_cons_of_mem _ (List.mem_cons_of_mem _ (List.mem_cons_of_mem _ (List.mem_cons_self ..)))) (by simp) h)
    |with_reducible refine And.intro ?_ ?_
 . rintro _ ad _ ⟨b,H,rfl,p0,g0,f0⟩;have ar:=H5.grow g0;have V0:=(aa.grow U)
   refine ⟨_,_,_,ae ar rfl,?_⟩;have kz:=FX Y;refine ⟨fun V u z=> ∃ (v:Nat) (s:aH) (H':Pt->Sl),V=v/\v<=cs.length/\z=cs.length - v/\Pw ad u b H H' s/\aL s/\Iu I (cs.take v) s,⟨_,0,aH.new I,H,rfl,Nat.zero_le _,rfl,Pw.refl p0 (aF.refl _),kz,⟨rfl,by simp [aH.new],fun i hi=>by simp at hi,fun i hi=>by simp at hi,rfl,rfl⟩⟩,?_⟩;rintro V u z _ ⟨v,s,H',rfl,hv,rfl,Pu,gs,nw⟩;have hu:=Pu.pm;have vV:V2 (Value.int .i64) u q hs cs:=(V0.grow g0).Nw (w0:=J) V0.Ki Pu.mod fun k ⟨x,e⟩=>f0 x k e;refine aj (fun r=> ?_) (fun r=> ?_)
   . have r:v<cs.length:=by rw [hm] at r;simpa using r
     refine vV.ix (by omega) hm (by omega) fun a sl h1 h0 k2 h3 h4=> ⟨_,_,_,h1,?_⟩
     rw [Int.toNat_natCast] at k2 h4;refine (qH hu gs h4 k2 h3).mono ?_;rintro e bu ⟨r1,r2,rfl,s',H2,P2,g2,hr⟩;have a8:uQ s.vars (cs.getD v [])=true:=by
      have:=O;unfold ff at this;simp only [Bool.and_eq_true] at this;have av:cs.getD v []∈cs:=by simp [List.getD,r]
      have hh:=List.all_eq_true.1 this.2 _ av;simp only [Bool.and_eq_true] at hh;unfold uQ;rw [hh.1,Bool.true_and,List.all_eq_true];intro x hx;unfold xC;have h5:=(cX hh.1).1 x hx;have h6:=List.all_eq_true.1 hh.2 x hx;rw [h5,nw.v];simpa using h6
     have cb:s.nc<262144:=by rw [nw.n,List.length_take];omega
     have X:kI s (cs.getD v []) s':=by
      rcases hr with ⟨_,_,h,_⟩| ⟨_,_,_,h,_⟩| ⟨_,_,_,_,h⟩
      . rw [a8] at h;cases h
      . omega
      . exact h
     have Z:s.nc=v:=by rw [nw.n,List.length_take];omega
     refine ⟨_,_,rfl,_,?_,v+1,s',H2,wN (by omega) (by omega),r,rfl,Pu.trans P2,g2,⟨X.v.trans nw.v,by rw [X.n,Z,List.length_take];omega,fun i hi=> ?_,fun i hi=> ?_,X.tr.trans nw.tr,X.be.trans nw.be⟩⟩
     . omega
     . rw [X.g];rw [List.length_take] at hi;split
       . rfl
       . exact nw.g i (by rw [List.length_take];omega)
     . rw [X.a];rw [List.length_take] at hi;have e5:(cs.take (v+1)).getD i []=cs.getD i []:=by
        simp only [List.getD_eq_getElem?_getD,List.getElem?_take];rw [if_pos (by omega)]
       rw [e5,Z];split
       . rename_i e;rw [e]
       . rw [nw.a i (by rw [List.length_take];omega)];simp only [List.getD_eq_getElem?_getD,List.getElem?_take];rw [if_pos (by omega)]
   . have r:v=cs.length:=by rw [hm] at r;simp at r;omega
     subst r;rw [List.take_length] at nw;refine .inr ⟨rfl,b,s,H',rfl,hu,gs,nw,?_,fun x j e=> ?_⟩
     . exact (Q.mod.trans (U.trans g0)).then Pu.mod fun k Y ⟨x,e⟩=>by
        have:=f0 x k e;have:=(Q.mod.trans U).size;omega
     . have:=(Q.mod.trans U).size;rcases Pu.ft x j e with ⟨y,e2⟩|e2
       . have:=f0 y j e2;omega
       . have:=g0.size;omega
end
section
variable {s t u s':aH} {l x y:Int} {i:Nat}
def iQ (t:List Int):List Int->Int->Int
 | [],o=>o
 |x::c,o=>if x∈t then 0 else if -x∈t\/x=o then iQ t c o else if o≠0 then 0 else iQ t c x
def b9 (c t:List Int):Int:=iQ t c 0
def bS (c t:List Int):Bool:=c.all fun x=>decide (-x∈t)
theorem rP {t:List Int}: ∀ (c:List Int) (o:Int),(∀y∈c,y≠0)->iQ t c o≠0->(∀y∈c,y ∉ t/\(y=iQ t c o\/ -y∈t))/\(iQ t c o=o\/(o=0/\iQ t c o∈c/\ -(iQ t c o) ∉ t))
 | [],o,_,_=> ⟨fun y I=>by simp at I,.inl rfl⟩
 |x::c,o,nz,h=>by
  have O: ∀y∈c,y≠0:=fun y I=>nz y (List.mem_cons_of_mem _ I);have X:x≠0:=nz x (List.mem_cons_self ..);unfold iQ at h ⊢;by_cases h1:x∈t
  . rw [if_pos h1] at h;exact absurd rfl h
  . rw [if_neg h1] at h ⊢;by_cases J: -x∈t\/x=o
    . rw [if_pos J] at h ⊢;obtain ⟨a,b⟩:=rP c o O h;refine ⟨fun y I=> ?_,b.imp id fun e=> ⟨e.1,List.mem_cons_of_mem _ e.2.1,e.2.2⟩⟩;rcases List.mem_cons.1 I with rfl|I
      . refine ⟨h1,?_⟩;rcases J with J|J
        . exact .inr J
        . rcases b with b| ⟨b,_⟩
          . exact .inl (J.trans b.symm)
          . omega
      . exact a y I
    . rw [if_neg J] at h ⊢;by_cases Q:o≠0
      . rw [if_pos Q] at h;exact absurd rfl h
      . rw [if_neg Q] at h ⊢;obtain ⟨a,b⟩:=rP c x O h;have Q:o=0:=by omega
        have U: -x ∉ t:=fun e=>J (.inl e);have ex:iQ t c x=x:=by
         rcases b with b| ⟨b,_⟩
         . exact b
         . exact absurd b X
        refine ⟨fun y I=> ?_,.inr ⟨Q,by rw [ex];exact List.mem_cons_self ..,by rw [ex];exact U⟩⟩;rcases List.mem_cons.1 I with rfl|I
        . exact ⟨h1,.inl ex.symm⟩
        . exact a y I
theorem lA {c t:List Int} (nz: ∀y∈c,y≠0) (h:b9 c t≠0):b9 c t∈c/\b9 c t ∉ t/\ -(b9 c t) ∉ t/\∀y∈c,y=b9 c t\/ -y∈t:=by
 obtain ⟨a,b⟩:=rP c 0 nz h;rcases b with b| ⟨_,b1,b2⟩
 . exact absurd b h
 . exact ⟨b1,(a _ b1).1,b2,fun y I=> (a y I).2⟩
theorem ly {t:List Int} {l:Int} (Q:l≠0) (hn: -l ∉ t): ∀ (c:List Int) (o:Int),(∀y∈c,y ∉ t/\(y=l\/ -y∈t))->(o=l\/(o=0/\l∈c))->iQ t c o=l
 | [],o,_,I=>by
   rcases I with I| ⟨_,h⟩
   . exact I
   . simp at h
 |x::c,o,hc,I=>by
  have U:=hc x (List.mem_cons_self ..);have O: ∀y∈c,y ∉ t/\(y=l\/ -y∈t):=fun y X=>hc y (List.mem_cons_of_mem _ X);unfold iQ;rw [if_neg U.1];by_cases e:x=l
  . subst e;by_cases J: -x∈t\/x=o
    . rw [if_pos J];refine ly Q hn c o O ?_;rcases J with J|J
      . exact absurd J hn
      . exact .inl J.symm
    . rw [if_neg J];rcases I with I| ⟨I,_⟩
      . exact absurd (Or.inr I.symm) J
      . rw [if_neg (by omega)];exact ly Q hn c x O (.inl rfl)
  . have Y: -x∈t:=U.2.resolve_left e;rw [if_pos (.inl Y)];refine ly Q hn c o O (I.imp id fun h=> ⟨h.1,?_⟩);rcases List.mem_cons.1 h.2 with h|h
    . exact absurd h.symm e
    . exact h
theorem cw {c t:List Int}:bS c t=true↔∀x∈c,-x∈t:=by
 unfold bS;simp [List.all_eq_true]
inductive Ad (cs:List (List Int)) (d:List Int):List Int->Prop
 |refl:Ad cs d d
 |step {t:List Int} {c:List Int}:Ad cs d t->c∈cs->b9 c t≠0->Ad cs d (t++ [b9 c t])
def aH.CJ (s:aH) (c:List Int):Prop:= ∃i,s.aN i/\s.R (.a i)=c
def aH.uc (s:aH):List Int:=(s.R .be).map fun e=> (s.R .tr).getD e.toNat 0
theorem aL.LM (g:aL s) {c:List Int} (h:s.CJ c): ∀x∈c,dB s.vars x:=by
 obtain ⟨i,hi,rfl⟩:=h;exact fun x I=>g.cv i hi x ((g.ca i hi x).2 I)
theorem aL.JA (g:aL s): ∀x∈s.uc,x∈s.R .tr:=by
 intro x J;obtain ⟨e,he,rfl⟩:=List.mem_map.1 J;obtain ⟨j,I,O⟩:=List.mem_iff_getElem.1 he;have:=g.bl j I;simp only [List.getD,List.getElem?_eq_getElem I,Option.getD_some,O] at this;exact bg (by omega)
theorem Ll {p:Nat} (h:(p:Int)∈s.R .be):(s.R .tr).getD p 0∈s.uc:=
 List.mem_map.2 ⟨(p:Int),h,by rw [Int.toNat_natCast]⟩
theorem aL.sE (g:aL s) {Q:Int->Prop} (X: ∀x∈s.uc,Q x) (U: ∀c,s.CJ c->∀l∈c,(∀y∈c,y≠l->Q (-y))-> -l ∉ s.R .tr->Q l): ∀x∈s.R .tr,Q x:=by
 have key: ∀p,p< (s.R .tr).length->Q ((s.R .tr).getD p 0):=by
  intro p
  induction p using Nat.strongRecOn with
  |_ p Z=>
   intro hp;by_cases hb:(p:Int)∈s.R .be
   . exact X _ (Ll hb)
   . obtain ⟨i,e1,I,e3,e4⟩:=g.Kw p hp hb;refine U _ ⟨i,I,rfl⟩ _ ((g.ca i I _).1 e3) (fun y O J=> ?_) (g.cons (bg hp));have:=e4 y ((g.ca i I y).2 O) J;obtain ⟨q,hq,e⟩:=List.mem_iff_getElem.1 this;rw [List.length_take] at hq;have e5:(s.R .tr).getD q 0= -y:=by
      rw [List.getElem_take] at e;simp [List.getD,show q< (s.R .tr).length by omega,e]
     rw [<- e5];exact Z q (by omega) (by omega)
 intro x Y;obtain ⟨p,hp,e⟩:=List.mem_iff_getElem.1 Y;have:=key p hp;simp only [List.getD,List.getElem?_eq_getElem hp,Option.getD_some,e] at this;exact this
theorem aL.sH (g:aL s) {T:List Int} (Z: ∀x∈s.uc,x∈T) (Y: ∀x∈T,-x ∉ T) (X: ∀c,s.CJ c->bS c T=false/\b9 c T=0): ∀x∈s.R .tr,x∈T:=by
 refine g.sE Z fun c J l hl U _=> ?_;obtain ⟨h1,h2⟩:=X c J;have hv:=g.LM J;rcases Classical.em (l∈T) with h|h
 . exact h
 . exfalso;have Q: -l ∉ T:=fun e=>by
    rw [<- Bool.not_eq_true,cw] at h1;exact h1 fun y I=>by
     by_cases O:y=l
     . rw [O];exact e
     . exact U y I O
   have:=ly (t:=T) (hv l hl).1 Q c 0 (fun y I=>by
    by_cases O:y=l
    . subst O;exact ⟨h,.inl rfl⟩
    . have:=U y I O;exact ⟨fun e=>Y y e this,.inr this⟩) (.inr ⟨rfl,hl⟩)
   have h3:=(hv l hl).1;unfold b9 at h2;omega
theorem dz.cl (hC:dz s) (g:aL s) {c:List Int} (J:s.CJ c):(∃x∈c,x∈s.R .tr)\/∃x∈c,∃y∈c,x≠y/\x ∉ s.R .tr/\ -x ∉ s.R .tr/\y ∉ s.R .tr/\ -y ∉ s.R .tr:=by
 have hv:=g.LM J;obtain ⟨i,hi,rfl⟩:=J;rcases hC i hi with h| ⟨x,Q,y,O,I,U,X⟩
 . exact .inl h
 . have a:=(g.v0 (hv x Q)).1 U;have b:=(g.v0 (hv y O)).1 X;exact .inr ⟨x,Q,y,O,I,a.1,a.2,b.1,b.2⟩
theorem dz.unit (hC:dz s) (g:aL s) {T c:List Int} (J: ∀x∈T,x∈s.R .tr) (Y:s.CJ c) (h:b9 c T≠0):b9 c T∈s.R .tr:=by
 obtain ⟨_,_,_,Q⟩:=lA (fun y O=> (g.LM Y y O).1) h;rcases hC.cl g Y with ⟨x,U,I⟩| ⟨x,U,y,O,X,x1,Z,y1,y2⟩
 . rcases Q x U with e|e
   . rw [<- e];exact I
   . exact absurd (J _ e) (g.cons I)
 . exfalso;have ex:x=b9 c T:=(Q x U).resolve_right fun e=>Z (J _ e);have ey:y=b9 c T:=(Q y O).resolve_right fun e=>y2 (J _ e);exact X (ex.trans ey.symm)
theorem dz.Ft (hC:dz s) (g:aL s) {T c:List Int} (O: ∀x∈T,x∈s.R .tr) (Q:s.CJ c):bS c T=false:=by
 rw [<- Bool.not_eq_true,cw];intro h;rcases hC.cl g Q with ⟨x,I,J⟩| ⟨x,I,_,_,_,_,U,_,_⟩
 . exact g.cons J (O _ (h x I))
 . exact U (O _ (h x I))
theorem dz.Oj (hC:dz s) (g:aL s) {cs:List (List Int)} (J: ∀c∈cs,s.CJ c) {d T:List Int} (U: ∀x∈d,x∈s.R .tr) (h:Ad cs d T): ∀x∈T,x∈s.R .tr:=by
 induction h with
 |refl=>exact U
 |step h1 X Q O=>
  intro x I;rcases List.mem_append.1 I with I|I
  . exact O x I
  . rw [List.mem_singleton] at I;rw [I];exact hC.unit g O (J _ X) Q
end
section
variable {w w' w0 w2 w3:World} {p q:Option Addr} {n m c d:Nat} {l t T:List Int}
theorem nw (x:Int) (I: -1048576<=x/\x<=1048576):IntKind.i64.wrap (0 - x)= -x:=by rw [aD (by omega) (by omega)];omega
theorem yQ (Z:Vw (Value.int .i64) w p l) (hn:n=l.length) (Q:n<=maxLen) (ht:Vw (Value.int .i64) w q t) (hm:m=t.length) (Y:m<=maxLen) (hb: ∀x∈l,-1048576<=x/\x<=1048576):
 Calls prog dU.id #[.slice p n c,.slice q m d] w fun e w'=>e= .returned (.bool (bS l t))/\ao w w':=by
 have aa:n<=9223372036854775807:=by unfold maxLen at Q;omega
 refine dU.ak ⟨fun I u z=> ∃i:Nat,I=i/\i<=l.length/\z=l.length - i/\ao w u/\∀x∈l.take i,-x∈t,⟨_,0,rfl,Nat.zero_le _,rfl,aF.refl w,fun x Q=>by simp at Q⟩,?_⟩;rintro I u z _ ⟨i,rfl,hi,rfl,g,J⟩;refine aj (fun r=> ?_) (fun r=> ?_)
 . have r:i<l.length:=by rw [hn] at r;simpa using r
   refine (Z.grow g).ix 0 (by omega) hn (by omega) fun a e=> ⟨_,e,?_⟩
   rw [Int.toNat_natCast];have U:=hb _ (bg r);rw [nw _ U];refine (sL (ht.grow g) hm Y _).mono ?_;rintro e w8 ⟨rfl,X⟩;refine ⟨_,rfl,aj (fun O=> ?_) (fun O=> ⟨_,?_,i+1,wN (by omega) (by omega),by omega,rfl,g.trans X,fun x Q=> ?_⟩)⟩
   . have O: -(l.getD i 0) ∉ t:=by simpa using O
     refine ⟨?_,g.trans X⟩;have:bS l t=false:=by
      rw [<- Bool.not_eq_true,cw];exact fun h=>O (h _ (bg r))
     rw [this]
   . omega
   . have O: -(l.getD i 0)∈t:=by simpa using O
     rcases (fg r).1 Q with h|h
     . exact J x h
     . rw [h];exact O
 . have r:i=l.length:=by rw [hn] at r;simp at r;omega
   subst r;rw [List.take_length] at J;have:bS l t=true:=cw.2 J;exact ⟨by rw [this],g⟩
theorem CG (hc:Vw (Value.int .i64) w p l) (hn:n=l.length) (hx:n<=maxLen) (ht:Vw (Value.int .i64) w q t) (hm:m=t.length) (hy:m<=maxLen) (hb: ∀x∈l,-1048576<=x/\x<=1048576):
 Calls prog fN.id #[.slice p n c,.slice q m d] w fun e w'=>e= .returned (.int .i64 (b9 l t))/\ao w w':=by
 have a':n<=9223372036854775807:=by unfold maxLen at hx;omega
 refine fN.ak ⟨fun O I u z=> ∃i:Nat,I=i/\i<=l.length/\z=l.length - i/\ao w u/\iQ t (l.drop i) O=b9 l t,⟨_,0,rfl,Nat.zero_le _,rfl,aF.refl w,by simp [b9]⟩,?_⟩;rintro O I u z _ ⟨i,rfl,hi,rfl,g,hu⟩;refine aj (fun r=> ?_) (fun r=> ?_)
 . have r:i<l.length:=by rw [hn] at r;simpa using r
   have cA: ∀ {u':World},ao w u'->∀ {K:Addr->Prop},(∀a,u'.cell? a=some (.int .i64 (l.getD i 0))->K a)->aP p n (i:Int) 1 K:=fun {u'} g' {K} hk=>by
    refine (hc.grow g').ix 0 (by omega) hn (by omega) fun a e=>hk a ?_;rw [Int.toNat_natCast] at e;exact e
   have ax:l.drop i=l.getD i 0::l.drop (i+1):=by
    rw [List.drop_eq_getElem_cons r];simp [List.getD,r]
   have ay:=hb _ (bg r);rw [ax] at hu;generalize l.getD i 0=X at*
   unfold iQ at hu;refine cA g fun a e=> ⟨_,e,(sL (ht.grow g) hm hy _).mono ?_⟩
   rintro e w9 ⟨rfl,g9⟩;have G9:=g.trans g9;refine ⟨_,rfl,aj (fun U=> ?_) (fun U=> ?_)⟩
   . have U:X∈t:=by simpa using U
     rw [if_pos U] at hu;exact ⟨by rw [<- hu],G9⟩
   . have U:X ∉ t:=by simpa using U
     rw [if_neg U] at hu;refine cA G9 fun a e=> ⟨_,e,?_⟩
     rw [nw _ ay];refine (sL (ht.grow G9) hm hy _).mono ?_;rintro e ar ⟨rfl,aw⟩;have J:=G9.trans aw;have next: ∀ {O':Int},iQ t (l.drop (i+1)) O'=b9 l t->∃k3,k3<l.length - i/\∃i':Nat,IntKind.i64.wrap ((i:Int)+1)=i'/\i'<=l.length/\k3=l.length - i'/\ao w ar/\iQ t (l.drop i') O'=b9 l t:=by
      intro O' h;exact ⟨_,by omega,i+1,wN (by omega) (by omega),r,rfl,J,h⟩
     refine ⟨_,rfl,aj (fun Z=> ?_) (fun Z=> ?_)⟩
     . have Z: -X∈t:=by simpa using Z
       rw [if_pos (.inl Z)] at hu;exact next hu
     . have Z: -X ∉ t:=by simpa using Z
       refine cA J fun a e=> ⟨_,e,aj (fun Y=> ?_) (fun Y=> ?_)⟩
       . have Y:X=O:=by simpa using Y
         rw [if_pos (.inr Y)] at hu;exact next hu
       . have Y: ¬X=O:=by simpa using Y
         rw [if_neg (fun h=>h.elim Z Y)] at hu;refine aj (fun Q=> ?_) (fun Q=>cA J fun a e=> ⟨_,e,?_⟩)
         . have Q:O≠0:=by simpa using Q
           rw [if_pos Q] at hu;exact ⟨by rw [<- hu],J⟩
         . have Q: ¬O≠0:=by simpa using Q
           rw [if_neg Q] at hu;exact next hu
 . have r:i=l.length:=by rw [hn] at r;simp at r;omega
   subst r;rw [List.drop_length] at hu;have hu:O=b9 l t:=hu;exact ⟨by rw [hu],g⟩
end
section
variable {w w' w0 w2 w3:World} {p q:Option Addr} {n m c d V:Nat} {l t T:List Int} {hs:List Sl} {cs:List (List Int)}
theorem Hb {x:Int} {nb:Nat} {w0:World} (h:aY (.cells #[.int .i64 x] aC) w0 nb w):Vw (Value.int .i64) w (some ⟨nb,0,none⟩) [x]:=by
 intro j I;have I:j=0:=by simpa using I
 subst I;exact ⟨_,rfl,ae h.has rfl⟩
end
section
variable {w w' w0 w2 w3:World} {b:Nat} {H H' H2:Pt->Sl} {s t u s' T:aH} {cp gp dp:Option Addr} {hs:List Sl} {cs:List (List Int)} {gl:List Bool} {dl:List Int} {cn cc gn gc dn dc:Nat} {v:Int}
theorem nW {l:List Int} {x y:Int}:y∈wo l x↔y∈l/\y≠x:=by unfold wo;simp
end
section
variable {w w' w0 w2 w3:World} {b:Nat} {H H' H2:Pt->Sl} {s t u s' T:aH} {cp gp dp:Option Addr} {hs:List Sl} {cs:List (List Int)} {gl:List Bool} {dl:List Int} {cn cc gn gc dn dc:Nat} {v:Int}
def N_ (s:aH) (r:Int):Prop:=(r= -1/\dz s)\/∃i:Nat,r=i/\t7 s i
end
section
variable {w w' w0 w2 w3:World} {b:Nat} {H H' H2:Pt->Sl} {s t u s' T:aH} {cp gp dp:Option Addr} {hs:List Sl} {cs:List (List Int)} {gl:List Bool} {dl:List Int} {cn cc gn gc dn dc:Nat} {v:Int}
theorem CY (g:aL s) (l:Int):(s.decide l).uc=s.uc++ [l]:=by
 have J:(s.decide l).R .be=s.R .be++ [((s.R .tr).length:Int)]:=by
  unfold aH.decide;rw [iZ (by simp) (by simp) (by simp) (by simp)];unfold aH.je;rw [aq (by simp),aK]
 have Q:(s.decide l).R .tr=s.R .tr++ [l]:=by
  unfold aH.decide;rw [pO];unfold aH.je;rw [aq (by simp),aq (by simp)]
 unfold aH.uc;rw [J,Q,List.map_append,List.map_singleton,Int.toNat_natCast,cz];congr 1;refine List.map_congr_left fun q hq=> ?_;obtain ⟨j,I,O⟩:=List.mem_iff_getElem.1 hq;have:=g.bl j I;simp only [List.getD,List.getElem?_eq_getElem I,Option.getD_some,O] at this;exact bC (by omega)
theorem BB (l:Int):(s.decide l).vars=s.vars/\(s.decide l).nc=s.nc/\(s.decide l).gone=s.gone/\∀i,(s.decide l).R (.a i)=s.R (.a i):=by
 refine ⟨by simp only [aH.decide,aH.put,aH.je,aH.set],by simp only [aH.decide,aH.put,aH.je,aH.set],by simp only [aH.decide,aH.put,aH.je,aH.set],fun i=> ?_⟩;unfold aH.decide;rw [iZ (by simp) (by simp) (by simp) (by simp)];unfold aH.je;rw [aq (by simp),aq (by simp)]
end
section
variable {w w' w0 w2 w3:World} {b:Nat} {H H' H2:Pt->Sl} {s t u s' T:aH} {cp gp dp ap:Option Addr} {hs:List Sl} {cs:List (List Int)} {gl:List Bool} {dl:List Int} {cn cc gn gc dn dc an ac:Nat} {v:Int}
theorem IK (g:aL s) (x:iM s s'):s'.uc=s.uc:=by
 unfold aH.uc;rw [x.be];obtain ⟨e,he⟩:=x.tr;rw [he];refine List.map_congr_left fun q hq=> ?_;obtain ⟨j,I,J⟩:=List.mem_iff_getElem.1 hq;have:=g.bl j I;simp only [List.getD,List.getElem?_eq_getElem I,Option.getD_some,J] at this;rw [bC (by omega)]
theorem xp (L:Nat):(s.bD L).vars=s.vars/\(s.bD L).nc=s.nc/\(s.bD L).gone=s.gone/\(∀i,(s.bD L).R (.a i)=s.R (.a i))/\(s.bD L).R .be=(s.R .be).take L/\(s.bD L).R .tr=(s.R .tr).take ((s.R .be).getD L 0).toNat:=by
 have key: ∀y,(s.bD L).R y=((((s.set .va (BL (s.R .va) ((s.R .tr).drop ((s.R .be).getD L 0).toNat))).set .tr ((s.R .tr).take ((s.R .be).getD L 0).toNat)).set .be ((s.R .be).take L)).set .ds ((s.R .ds).take L)).R y:=fun y=>rfl;refine ⟨rfl,rfl,rfl,fun i=> ?_,?_,?_⟩
 . rw [key,aq (by simp),aq (by simp),aq (by simp),aq (by simp)]
 . rw [key,aq (by simp),aK]
 . rw [key,aq (by simp),aq (by simp),aK]
end
end Go.Proofs.YtenmibfmhccmiaaGreat.W
