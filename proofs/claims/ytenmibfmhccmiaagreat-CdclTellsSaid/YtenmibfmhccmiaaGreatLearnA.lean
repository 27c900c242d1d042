/- Maps from ints to bools that tell what is known. -/
import Derived.Test.YtenmibfmhccmiaaGreatLitA
import Derived.Test.YtenmibfmhccmiaaGreatSortA
namespace Go.Fw
open Go Go.RowKit Go.Maps
variable {P:Program} {t k e:TypeId} {w w':World} {b n:Nat} {s h:Int->Bool}
def MK (P:Program) (k e:TypeId) (w:World) (b n:Nat) (s h:Int->Bool):Prop:=
 ∃D:DataW Unit,w.ownsMap P k (plainElem P e) b n D/\(∀a:Int,D.atKey (.int .i64 a) (.lit (.bool false))= .lit (.bool (s a)))/\∀a:Int,Maps.has D (.int .i64 a)=h a
theorem MK.mb (m:MK P k e w b n s h):MB P k e w b n s:=by obtain ⟨D,h1,I,_⟩:=m;exact ⟨D,h1,I⟩
theorem MK.lt (m:MK P k e w b n s h):b<w.heap.size:=m.mb.lt
theorem MK.keep {S:Nat->Prop} (I:MK P k e w b n s h) (m:aE S w w') (hs: ¬S b):MK P k e w' b n s h:=by
 have hl:=I.lt;obtain ⟨D,⟨J,clock,hb,h1⟩,O⟩:=I;exact ⟨D,⟨J,clock,(m.block b hl hs).trans hb,h1⟩,O⟩
theorem MK.grow (I:MK P k e w b n s h) (m:aq w w'):MK P k e w' b n s h:=I.keep m id
theorem MK.new {b:Nat} (I:bc (.map #[] 0) w b w'):MK P k e w' b 0 (fun _=>false) fun _=>false:=by
 obtain ⟨rfl,rfl⟩:=I;exact ⟨.map [],World.ownsMap_made w P k _,fun a=>rfl,fun a=>rfl⟩
theorem MK.di (hm:qj P t k e=true) (I:MK P k e w b n s h) {a:Int} (ha:(Lit.int .i64 a).wf=true):(Instr.lookup t (.map (some b)) (.int .i64 a) true).run P w= .ok (.tuple #[.bool (s a),.bool (h a)]) w:=by
 obtain ⟨ht,J,he,U⟩:=gX hm;obtain ⟨D,I,O,Q⟩:=I;obtain ⟨v,ps,hr,hv⟩:=I.look_ok (int_keyed J) ht (U w) (plainElem_bool he false) (keyOf_int_mk J ha);rw [O a] at hv;have:v= .bool (s a):=by
  unfold plainElem at hv;rw [he] at hv;cases v<;>simp_all
 rw [hr,this,Q a]
theorem MK.put (hm:qj P t k e=true) (O:MK P k e w b n s h) (hn:n<maxLen) {a:Int} (ha:(Lit.int .i64 a).wf=true) (v:Bool):
 ∃w',(Instr.mapUpdate t (.map (some b)) (.int .i64 a) (.bool v)).run P w= .ok () w'/\MK P k e w' b (n+1) (fun u=>if u=a then v else s u) (fun u=>if u=a then true else h u)/\aE (·=b) w w':=by
 obtain ⟨ht,Q,he,Y⟩:=gX hm;obtain ⟨D,O,U,V⟩:=O;have I:=O.isMap;obtain ⟨w',hr,X,J⟩:=O.update (int_keyed Q) ht hn (keyOf_int_mk Q ha) (plainElem_bool (H:=Unit) he v);refine ⟨w',hr,⟨_,X,fun u=> ?_,fun u=> ?_⟩,⟨J.os,J.tape,J.output,J.size,fun i hi hn=>J.block i hi fun e=>hn (Option.some.inj e)⟩⟩
 . by_cases hu:u=a
   . subst hu;exact (atKey_put_same I (show WideAt.IsKeyLit (.int .i64 u) from trivial) _ _).trans (by simp)
   . exact ((atKey_put_other (fun e=>hu (by injection e)) _ _).trans (U u)).trans (by simp [hu])
 . by_cases hu:u=a
   . subst hu;exact (has_put_same I (show WideAt.IsKeyLit (.int .i64 u) from trivial) _).trans (by simp)
   . exact ((has_put_other (fun e=>hu (by injection e)) _).trans (V u)).trans (by simp [hu])
end Go.Fw
namespace Go.Proofs.YtenmibfmhccmiaaGreat.W.Le
open Go Go.Fw Go.RowKit Go.SoP Go.LiP Go.LeP
open Go.Proofs.Tryz (prog)
section
variable {W0 w w' W u:World} {p q:Option Addr} {n c m d ns b1 b2 b3 nb:Nat} {tr:List As} {l ld:List Int} {s h:Int->Bool}
def Bq (tr:List As) (ld:List Int) (lit x:Int):Bool:=x==lit||decide (lv tr x<=0)||decide (x∈ld)||lJ tr ld x
theorem EJ (ok:eB tr) {x:Int} (I:cQ tr (am x)<tr.length):lJ tr ld x=(!(aS tr (cQ tr (am x))).rs.isEmpty && (aS tr (cQ tr (am x))).rs.all (Bq tr ld (aS tr (cQ tr (am x))).lit)):=CJ ok I
def F0 (tr:List As) (h:Int->Bool):Nat:=(List.range tr.length).countP fun i=>h (am (aS tr i).lit)
theorem Ah {L:List Nat} {f g:Nat->Bool} {i:Nat} (hi:i∈L) (J:f i=false) (h1:g i=true) (hm: ∀j,f j=true->g j=true):L.countP f+1<=L.countP g:=by
 induction L with
 |nil=>simp at hi
 |cons a L ih=>
  rw [List.countP_cons,List.countP_cons];have O:L.countP f<=L.countP g:=List.countP_mono_left fun j _=>hm j;by_cases e:i=a
  . subst e;rw [J,h1];simp;omega
  . have:=ih ((List.mem_cons.1 hi).resolve_left e);have Q:(if f a=true then 1 else 0)<=(if g a=true then 1 else 0):=by
     by_cases I:f a=true
     . rw [if_pos I,if_pos (hm a I)];exact Nat.le_refl _
     . rw [if_neg I];omega
    omega
structure Kn (W0 w:World) (ns:Nat) (p:Option Addr) (n c:Nat) (tr:List As) (b1 b2 b3:Nat) (ld:List Int) (h:Int->Bool):Prop where
 S:u7 W0 w ns p n c tr b1 b2
 M: ∃nb s,MS prog aC cV w b2 nb s/\∀x,s x=decide (x∈ld)
 K: ∃nk s,MK prog aC cV w b3 nk s h/\nk<=F0 tr h/\∀x,jk tr x->h (am x)=true->s (am x)=lJ tr ld x
 d1:b1≠b3
 d2:b2≠b3
 d3:ns≠b3
 f:W0.heap.size<=b3
theorem Kn.grow (k:Kn W0 w ns p n c tr b1 b2 b3 ld h) (m:aq w w'):Kn W0 w' ns p n c tr b1 b2 b3 ld h:=by
 obtain ⟨S,⟨nb,s,M,hs⟩,⟨I,J,K,O,hi⟩,d1,d2,d3,f⟩:=k;exact ⟨S.grow m,⟨nb,s,M.grow m,hs⟩,⟨I,J,K.grow m,O,hi⟩,d1,d2,d3,f⟩
theorem Kn.put (k:Kn W0 w ns p n c tr b1 b2 b3 ld h) {x:Int} (I:jk tr x) (U:h (am x)=false):
 ∃w',(Instr.mapUpdate nh (.map (some b3)) (.int .i64 (am x)) (.bool (lJ tr ld x))).run prog w= .ok () w'/\Kn W0 w' ns p n c tr b1 b2 b3 ld (fun u=>if u=am x then true else h u)/\aE (·=b3) w w':=by
 obtain ⟨S,⟨nb,s,M,hs⟩,⟨Y,s2,K,hk,hi⟩,d1,d2,d3,f⟩:=k;have V:F0 tr h<=tr.length:=by
  have:F0 tr h<=(List.range tr.length).length:=List.countP_le_length;simpa using this
 have hl:=S.hl;obtain ⟨w',hr,Q,m'⟩:=K.put jb (by unfold maxLen;omega) (mw I.pw) (lJ tr ld x);refine ⟨w',hr,⟨S.keep m' (fun b (e:b=b3)=>by omega) (fun e=>d3 e) (fun e=>d1 e),⟨nb,s,M.keep m' (fun e=>d2 e),hs⟩,⟨Y+1,_,Q,?_,fun y O J=> ?_⟩,d1,d2,d3,f⟩,m'⟩
 . have e0:am (aS tr (cQ tr (am x))).lit=am x:=mP I.lt;have:=Ah (L:=List.range tr.length) (f:=fun i=>h (am (aS tr i).lit)) (g:=fun i=>if am (aS tr i).lit=am x then true else h (am (aS tr i).lit)) (i:=cQ tr (am x)) (List.mem_range.2 I.lt) (by show h (am (aS tr (cQ tr (am x))).lit)=false;rw [e0];exact U) (by rw [if_pos e0]) fun j X=>by
    show (if am (aS tr j).lit=am x then true else h (am (aS tr j).lit))=true;split
    . rfl
    . exact X
   have e1:F0 tr h=(List.range tr.length).countP fun i=>h (am (aS tr i).lit):=rfl;have Z:F0 tr (fun u=>if u=am x then true else h u)=(List.range tr.length).countP fun i=>if am (aS tr i).lit=am x then true else h (am (aS tr i).lit):=rfl
   omega
 . by_cases e:am y=am x
   . rw [if_pos e,O.am I e]
   . rw [if_neg e] at J ⊢;exact hi y O J
structure Zs (W u:World) (o:Option Nat):Prop where
 g:aq W u
 z: ∀nc,o=some nc->bF u nc #[.int .i64 0,.int .i64 0,.slice none 0 0]/\W.heap.size<=nc
theorem Zs.grow {o:Option Nat} (z:Zs W u o) {v:World} (g:aq u v):Zs W v o:=⟨z.g.trans g,fun nc e=> ⟨(z.z nc e).1.grow g,(z.z nc e).2⟩⟩
theorem Zs.new (z:Zs W u none) {nc:Nat} {v:World} (hn:bc (.cells #[.int .i64 0,.int .i64 0,.slice none 0 0] bP) u nc v):Zs W v (some nc):=by
 refine ⟨z.g.trans hn.mod,fun k e=> ?_⟩;obtain rfl:nc=k:=Option.some.inj e;have:=z.g.size;have:=hn.num;exact ⟨hn.has,by omega⟩
theorem Zs.store {nc:Nat} (z:Zs W u (some nc)) {a b:Int} {I:Option Addr} {J sc:Nat} {K:World->Prop} (O: ∀v,bF v nc #[.int .i64 a,.int .i64 b,.slice I J sc]->aq W v->W.heap.size<=nc->K v):
 ∃v,af (Addr.mk nc 0 none) 0 [.int .i64 a,.int .i64 b,.slice I J sc] u v/\K v:=by
 obtain ⟨H,hf⟩:=z.z nc rfl;exact bq H rfl rfl fun v Q m=>O v Q (aE.bW z.g m hf) hf
theorem Gc: ∀ (n0:Nat) {w:World} {x:Int} {h:Int->Bool},Kn W0 w ns p n c tr b1 b2 b3 ld h->jk tr x->cQ tr (am x)=n0->
 Calls prog dV.id #[.pointer (some ⟨ns,0,none⟩),.int .i64 x,.map (some b3)] w fun e w'=>e= .returned (.bool (lJ tr ld x))/\∃h',Kn W0 w' ns p n c tr b1 b2 b3 ld h'/\(∀v,h v=true->h' v=true)/\(∀v,h' v=true->h v=true\/cQ tr v<=n0)/\aE (·=b3) w w':=by
 intro n0
 induction n0 using Nat.strongRecOn with
 |_ n0 ih=>
 intro w x h k hB b6;subst b6;refine dV.ah ?_;have ek:=cH hB.pw;refine (cN (by omega) (by omega) w).mono ?_;rintro e w1 ⟨rfl,g1⟩;have X:=k.grow g1;obtain ⟨nk,s,K,hk,hi⟩:=X.K;refine ⟨_,rfl,w1,_,_,K.di jb (mw hB.pw),ao (fun r=> ?_) (fun rK=> ?_)⟩
 . refine ⟨?_,h,X,fun v hv=>hv,fun v hv=> .inl hv,g1.mono fun _ _ e=>e.elim⟩;rw [hi x hB r]
 have V:=X.grow (aE.refl w1).drew;have G2:aq w w1.drew:=g1.trans (aE.refl w1).drew;clear K hk hi X;generalize w1.drew=W at V G2;have hl:=V.S.hl;have ok:=V.S.ok;have Z0:Zs W W none:=⟨aE.refl _,fun nc e=>by simp at e⟩
 have a6: ∀ {u:World} {o:Option Nat} {Q:Ending->World->Prop},Zs W u o->(∀v,Zs W v o->Q (.returned (.int .i64 (am x))) v)->Calls prog bU.id #[.int .i64 x] u Q:=fun {u o Q} z hQ=>by
  refine (cN (by omega) (by omega) u).mono ?_;rintro e v ⟨rfl,g⟩;exact hQ v (z.grow g)
 have di: ∀ {u:World} {o:Option Nat},Zs W u o->(Instr.lookup gE (.map (some b1)) (.int .i64 (am x)) false).run prog u= .ok (.int .i64 (se tr (am x))) u:=fun z=> (V.S.M.grow z.g).di jd (mw hB.pw);obtain ⟨aT,O,eT,cT,e1,e2,vT⟩:=V.S.tv _ hB.lt;have vN:=EJ (ld:=ld) ok hB.lt;have a':=fun hr=>ok.eE hB.lt hr;have ix: ∀ {P:Addr->Prop},(∀a,(∀ {u:World} {o:Option Nat},Zs W u o->aD u a 0 [.int .i64 (aS tr (cQ tr (am x))).lit,.int .i64 (aS tr (cQ tr (am x))).bj,.slice O.p O.n O.c])->P a)->aV p n (IntKind.i64.wrap (se tr (am x) - 1)) 3 P:=fun hP=>by
  rw [kN hl hB.lt];have hn:=V.S.hn;have cp:=hB.lt;refine ⟨aT,eT,by omega,by omega,hP _ fun z=> ?_⟩;rw [Int.toNat_natCast];exact aD.keep (V.S.G.trans z.g) id cT
 generalize eg:(aS tr (cQ tr (am x))).rs=rs at*
 generalize cp:(aS tr (cQ tr (am x))).lit=J at*
 generalize dd:(aS tr (cQ tr (am x))).bj=y0 at*
 refine ⟨fun a v=> ∃nc,a=⟨nc,0,none⟩/\bF v nc #[.int .i64 J,.int .i64 y0,.slice O.p O.n O.c]/\aq W v/\W.heap.size<=nc,⟨aq W,aE.refl _,_,rfl,_,_,_,fun u Y=>ad (V.S.h.grow Y) rfl,_,rfl,_,fun u Y=>ad (V.S.h.grow Y) rfl,?_⟩,?_⟩
 . have zn: ∀ {u:World},aq W u->Zs W u none:=fun Y=> ⟨Y,fun nc e=>by simp at e⟩
   have st: ∀ {u:World} {nc:Nat},Zs W u (some nc)->∃v,af (Addr.mk nc 0 none) 0 [.int .i64 J,.int .i64 y0,.slice O.p O.n O.c] u v/\∃ar,(Addr.mk nc 0 none)=⟨ar,0,none⟩/\bF v ar #[.int .i64 J,.int .i64 y0,.slice O.p O.n O.c]/\aq W v/\W.heap.size<=ar:=fun z=>z.store fun v H g hf=> ⟨_,rfl,H,g,hf⟩
   refine ⟨a6 Z0 fun v z=> ⟨_,rfl,z.g,⟨v,_,di z,z.g,ix fun a ca=> ⟨_,_,_,_,_,fun u Y=>ca (zn Y),fun nc v2 hn=> ⟨(z.new hn).g,st (z.new hn)⟩⟩⟩,fun nc v2 hn=> ⟨(z.new hn).g,v2,_,di (z.new hn),(z.new hn).g,ix fun a ca=> ⟨_,_,_,_,_,fun u Y=>ca (zn Y),st (z.new hn)⟩⟩⟩,fun nc v2 hn=> ⟨(Z0.new hn).g,a6 (Z0.new hn) fun v z=> ⟨_,rfl,z.g,v,_,di z,z.g,ix fun a ca=> ⟨_,_,_,_,_,fun u Y=>ca (zn Y),st z⟩⟩⟩⟩
 rintro dc v _ ⟨nc,rfl,H,G,hf⟩;obtain ⟨nk,s,K,_,_⟩:=V.K;have lk:=K.lt;refine ⟨_,_,_,ad H rfl,_,_,_,ad H rfl,?_⟩;refine ⟨fun is I u z=> ∃ (t:Nat) (h1:Int->Bool),I=t/\t<=rs.length/\z=rs.length - t/\is=(!rs.isEmpty && (rs.take t).all (Bq tr ld J))/\Kn W0 u ns p n c tr b1 b2 b3 ld h1/\(∀v,h v=true->h1 v=true)/\(∀v,h1 v=true->h v=true\/cQ tr v<cQ tr (am x))/\bF u nc #[.int .i64 J,.int .i64 y0,.slice O.p O.n O.c]/\aE (·=b3) w u,
  ⟨_,0,h,rfl,Nat.zero_le _,rfl,?_,V.grow G,fun v hv=>hv,fun v hv=> .inl hv,H,(G2.trans G).mono fun _ _ e=>e.elim⟩,?_⟩
 . rw [e1];cases rs<;>simp
 clear H G K;rintro is I ay z _ ⟨t,h1,rfl,ht,rfl,rfl,X,ag,Z,H,mm⟩;refine ao (fun r=> ?_) (fun r=> ?_)
 . have r:t<rs.length:=by simp at r;omega
   have ax:rs≠[]:=fun e=>by rw [e] at r;simp at r
   obtain ⟨rl,rm,rb⟩:=a' ax;have ce:rs.isEmpty=false:=List.isEmpty_eq_false_iff.2 ax;rw [ce];have et:(rs.take (t+1)).all (Bq tr ld J)=((rs.take t).all (Bq tr ld J) && Bq tr ld J (rs.getD t 0)):=by
    have:rs[t]? =some (rs.getD t 0):=by simp [List.getD,r]
    rw [List.take_add_one,this,List.all_append];simp
   refine (vT.grow X.S.G).ix 0 (by omega) e1 (by omega) fun a e=> ⟨_,e,?_⟩
   rw [Int.toNat_natCast];refine ⟨fun v u=>u=ay/\v=((rs.take t).all (Bq tr ld J) && (rs.getD t 0 !=J)),?_,?_⟩
   . refine ao (fun r2=> ⟨_,ad H rfl,rfl,?_⟩) (fun r2=> ⟨rfl,?_⟩)
     . have r2:(rs.take t).all (Bq tr ld J)=true:=by simpa using r2
       rw [r2];rfl
     . have r2:(rs.take t).all (Bq tr ld J)=false:=by simpa using r2
       rw [r2];rfl
   rintro ea b9 _ ⟨rfl,rfl⟩;refine ao (fun r3=> ?_) (fun r3=> ⟨_,?_,t+1,h1,wN (by omega) (by omega),by omega,rfl,?_,X,ag,Z,H,mm⟩)
   . rw [Bool.and_eq_true] at r3;obtain ⟨r2,r3⟩:=r3;rw [r2] at et;have a_: ∀ {u:World},aq b9 u->Bq tr ld J (rs.getD t 0)=true->∃bb,bb<rs.length - t/\∃ (t2:Nat) (h1:Int->Bool),IntKind.i64.wrap ((t:Int)+1)=t2/\t2<=rs.length/\bb=rs.length - t2/\true=(!false && (rs.take t2).all (Bq tr ld J))/\Kn W0 u ns p n c tr b1 b2 b3 ld h1/\(∀v,h v=true->h1 v=true)/\(∀v,h1 v=true->h v=true\/cQ tr v<cQ tr (am x))/\bF u nc #[.int .i64 J,.int .i64 y0,.slice O.p O.n O.c]/\aE (·=b3) w u:=fun g hp=>
      ⟨_,by omega,t+1,h1,wN (by omega) (by omega),by omega,rfl,by rw [et,hp];rfl,X.grow g,ag,Z,H.grow g,mm.grow g⟩
     have r3:rs.getD t 0≠J:=by simpa using r3
     obtain ⟨ap,bv⟩:=rb _ (bM r) r3;have d':=CL ok hl ap;refine (uC X.S ap).mono ?_;rintro e b5 ⟨rfl,U⟩;refine ⟨_,rfl,ao (fun r4=>a_ U (by unfold Bq;rw [decide_eq_true (show lv tr (rs.getD t 0)<=0 by have:=beq_iff_eq.1 r4;omega)];simp)) (fun r4=> ?_)⟩;have av:=X.grow U;obtain ⟨nb,s2,M2,c1⟩:=av.M;have az:=M2.di jb (A6 ap.pw);rw [c1] at az;refine ⟨_,rfl,_,ad av.S.h rfl,b5,_,az,ao (fun r5=>a_ U (by unfold Bq;rw [r5];simp)) (fun r5=> ?_)⟩;refine (ih _ bv av ap rfl).mono ?_;rintro e el ⟨rfl,h2,b7,c0,c7,a8⟩;have eb:=G2.size;refine ⟨_,rfl,_,?_,t+1,h2,wN (by omega) (by omega),by omega,rfl,?_,b7,fun v hv=>c0 v (ag v hv),fun v hv=> ?_,(H.grow U).keep a8 fun (e:nc=b3)=>by omega,(mm.grow U).trans a8⟩
     . omega
     . rw [et];unfold Bq;rw [show (rs.getD t 0==J)=false by simpa using r3,decide_eq_false (show ¬lv tr (rs.getD t 0)<=0 by have:=beq_eq_false_iff_ne.1 r4;omega),r5];simp
     . rcases c7 v hv with e|e
       . exact Z v e
       . exact .inr (by omega)
   . omega
   . rw [et];cases e:(rs.take t).all (Bq tr ld J) with
     |false=>rfl
     |true=>
      rw [e] at r3;have r4:rs.getD t 0=J:=by simpa using r3
      rw [r4];unfold Bq;simp
 . have r:t=rs.length:=by simp at r;omega
   subst r;rw [List.take_length,<- vN];refine (cN (by omega) (by omega) ay).mono ?_;rintro e ed ⟨rfl,aw⟩;have h0:h1 (am x)=false:=by
    cases e:h1 (am x) with
    |false=>rfl
    |true=>
     rcases Z _ e with e|e
     . rw [rK] at e;simp at e
     . omega
   obtain ⟨c3,hr,cg,b8⟩:=(X.grow aw).put hB h0;refine ⟨_,rfl,c3,hr,rfl,_,cg,fun v hv=> ?_,fun v hv=> ?_,(mm.grow aw).trans b8⟩
   . show (if v=am x then true else h1 v)=true;split
     . rfl
     . exact ag v hv
   . by_cases e:v=am x
     . right;rw [e];exact Nat.le_refl _
     . have hv:(if v=am x then true else h1 v)=true:=hv;rw [if_neg e] at hv;rcases Z v hv with e|e
       . exact .inl e
       . right;omega
end
section
variable {W0 w w' W u:World} {p q:Option Addr} {n c m d ns b1 b2 b3 nb:Nat} {tr:List As} {l ld:List Int} {s h:Int->Bool}
theorem Kn.keep {S:Nat->Prop} (k:Kn W0 w ns p n c tr b1 b2 b3 ld h) (m:aE S w w') (Q: ∀b,S b->W0.heap.size<=b) (h1: ¬S ns) (I: ¬S b1) (V: ¬S b2) (X: ¬S b3):Kn W0 w' ns p n c tr b1 b2 b3 ld h:=by
 obtain ⟨S,⟨nb,s,M,hs⟩,⟨O,U,K,J,hi⟩,d1,d2,d3,f⟩:=k;exact ⟨S.keep m Q h1 I,⟨nb,s,M.keep m V,hs⟩,⟨O,U,K.keep m X,J,hi⟩,d1,d2,d3,f⟩
def sh (tr:List As) (ld:List Int):List Int->List Int
 | []=> []
 |x::t=>x::t.filter fun y=>decide (0<lv tr y) && !lJ tr ld y
theorem JG:sh tr ld ld=shr tr ld:=by cases ld<;>rfl
theorem HZ {k:List Int} {t:Nat} (h:t<k.length):sh tr ld (k.take (t+1))=sh tr ld (k.take t)++ (if t=0\/(decide (0<lv tr (k.getD t 0)) && !lJ tr ld (k.getD t 0))=true then [k.getD t 0] else []):=by
 cases k with
 |nil=>simp at h
 |cons x k=>
  cases t with
  |zero=>simp [sh]
  |succ t=>
   have J:t<k.length:=by simpa using h
   have e:(x::k).getD (t+1) 0=k.getD t 0:=by simp
   rw [e,List.take_succ_cons,List.take_succ_cons];show x::_=(x::_)++_;rw [lE J,List.cons_append];congr 2;by_cases I:(decide (0<lv tr (k.getD t 0)) && !lJ tr ld (k.getD t 0))=true
   . rw [if_pos I,if_pos (.inr I)]
   . rw [if_neg I,if_neg (by rintro (e|e);omega;exact I e)]
theorem JB (k:List Int):(sh tr ld k).length<=k.length:=by
 cases k with
 |nil=>exact Nat.le_refl _
 |cons x t=>simp [sh];exact List.length_filter_le _ _
def KI (w J:World) (U:Nat) (p:Option Addr) (n c:Nat) (tr:List As) (b Q O:Nat) (ld:List Int) (P:Option Addr) (N C:Nat) (I:Int) (u:World) (z:Nat):Prop:=
 ∃ (t:Nat) (h:Int->Bool),I=t/\t<=ld.length/\z=ld.length - t/\N=(sh tr ld (ld.take t)).length/\eC aC u P C (sh tr ld (ld.take t))/\(∀b,aI P=some b->J.heap.size<=b)/\Kn w u U p n c tr b Q O ld h/\J.heap.size<=u.heap.size
theorem sq (h:TV w p tr) (hn:n=tr.length) (av:nH tr=true) (hq:Vw (Value.int .i64) w q ld) (hk:m=ld.length) (hx:m<=100000) (hb: ∀x∈ld,jk tr x):
 Calls prog gi.id #[.slice p n c,.slice q m d] w fun e w'=> ∃ (q2:Option Addr) (d2:Nat),e= .returned (.slice q2 (shr tr ld).length d2)/\eC aC w' q2 d2 (shr tr ld)/\aq w w'/\∀b,aI q2=some b->w.heap.size<=b:=by
 refine gi.ah ?_;obtain ⟨ok,hl⟩:=mV av;refine (qi h hn).mono ?_;rintro e w1 ⟨rfl,g1⟩;refine ⟨_,rfl,bm (by rw [av];rfl) ?_⟩;refine (rq (h.grow g1) hn ok hl (hq.grow g1) hk (by unfold maxLen;omega) fun x hx=> (hb x hx).pw).mono ?_;rintro e w5 ⟨rfl,g5⟩;refine ⟨_,rfl,bm (by rw [j7.2 hb];rfl) ?_⟩;have G5:=g1.trans g5;refine (lQ (h.grow G5) hn ok hl).mono ?_;rintro e w9 ⟨b,rfl,M9,g9,fb⟩;refine ⟨_,rfl,fun J dq Z U bv V=> ?_⟩;have ed:=Z.num;have d5:=V.num;have s5:=G5.size;have s9:=g9.size;have dT:=Z.size;have ef:=V.size;have lb:=M9.lt;have b9:u7 w bv U p n c tr b J:=⟨h,hn,ok,hl,((G5.trans g9).trans Z.mod).trans V.mod,V.has,(M9.grow Z.mod).grow V.mod,by omega,by omega,by omega⟩
 have b8:MS prog aC cV bv J 0 fun _=>false:=(MS.new Z).grow V.mod;refine (pI b9 b8 hq hk (by omega) (fun x hx=> (hb x hx).pw) 0).mono ?_;rintro e d8 ⟨rfl,an,bb,cg,_,a_,a7⟩;refine ⟨rfl,fun Q X Y=> ?_⟩;have d9:=Y.num;have d4:=Y.size;have dd:=a_.lt;have c2:=an.M.lt;have c3:=an.h.lt;have sG:=an.G.size;have b6:Kn w X U p n c tr b J Q ld fun _=>false:=by
  refine ⟨an.grow Y.mod,⟨bb,cg,a_.grow Y.mod,fun x=> ?_⟩,⟨0,_,MK.new Y,Nat.zero_le _,fun x _ e=>by simp at e⟩,by omega,by omega,by omega,by omega⟩;rw [a7 x,Bool.false_or];refine decide_eq_decide.2 ⟨fun h=>h.1,fun h=> ⟨h,fun e=> ?_⟩⟩;have:=cH (hb x h).pw;exact this.1 e
 refine ⟨KI w X U p n c tr b J Q ld,⟨_,0,_,rfl,Nat.zero_le _,rfl,rfl,Ow.nil _ _ _,fun b hb=>by simp [aI] at hb,b6,Nat.le_refl _⟩,?_⟩;rintro P N C I dp z _ ⟨t,hh,rfl,ht,rfl,rfl,O,fr,K,ce⟩;refine ao (fun r=> ?_) (fun r=> ?_)
 . have r:t<ld.length:=by simp at r;omega
   have hlen:=JB (tr:=tr) (ld:=ld) (ld.take t);have ec:=List.length_take_le t ld;refine (hq.grow K.S.G).ix 0 (by omega) hk (by omega) fun a e=> ⟨_,e,?_⟩
   rw [Int.toNat_natCast];have hB:=hb _ (bM r);have es:=HZ (tr:=tr) (ld:=ld) r;have cT:=K.S.h.lt;have oV: ∀ {u:World} {hh:Int->Bool},eC aC u P C (sh tr ld (ld.take t))->Kn w u U p n c tr b J Q ld hh->X.heap.size<=u.heap.size->(t=0\/(decide (0<lv tr (ld.getD t 0)) && !lJ tr ld (ld.getD t 0))=true)->∀n26 az,bc (.cells #[.int .i64 (ld.getD t 0)] 3) u n26 az->
    ∃ay aw ar ap,(Builtin.append_ #[aJ,aJ] aJ #[.slice P (sh tr ld (ld.take t)).length C,.slice (some (Addr.mk n26 0 none)) 1 1]).run prog az= .ok (.slice aw ar ap) ay/\
    ∃ac,ac<ld.length - t/\KI w X U p n c tr b J Q ld aw ar ap (IntKind.i64.wrap ((t:Int)+ (1:Int))) ay ac:=by
    intro u hh O K zu hc n26 az ag;rw [if_pos hc] at es;have eb:=ag.num;have ei:=ag.size;refine (O.grow ag.mod).kZ dN _ ag.has rfl rfl fH (by omega) fun ay p' c' o' m' b7 eg=> ?_;refine ⟨_,?_,t+1,hh,wN (by omega) (by omega),by omega,rfl,by rw [es,List.length_append];rfl,by rw [es];exact o',fun b hb=> ?_,(K.grow ag.mod).keep m' (fun b e=> ?_) (fun e=> ?_) (fun e=> ?_) (fun e=> ?_) (fun e=> ?_),by omega⟩
    . omega
    . rcases b7 with rfl|rfl
      . exact fr b hb
      . have:=bg hb;omega
    all_goals
     have:=fr _ e;omega
   have skip: ∀ {u:World} {hh:Int->Bool},eC aC u P C (sh tr ld (ld.take t))->Kn w u U p n c tr b J Q ld hh->X.heap.size<=u.heap.size->¬(t=0\/(decide (0<lv tr (ld.getD t 0)) && !lJ tr ld (ld.getD t 0))=true)->
    ∃ac,ac<ld.length - t/\KI w X U p n c tr b J Q ld P (sh tr ld (ld.take t)).length C (IntKind.i64.wrap ((t:Int)+ (1:Int))) u ac:=by
    intro u hh O K zu hc;rw [if_neg hc,List.append_nil] at es;exact ⟨_,by omega,t+1,hh,wN (by omega) (by omega),by omega,rfl,by rw [es],by rw [es];exact O,fr,K,zu⟩
   refine ao (fun r2=>oV O K ce (.inl (by simp at r2;omega))) (fun r2=> ?_);have r2:t≠0:=by intro e;subst e;simp at r2
   refine (uC K.S hB).mono ?_;rintro e ea ⟨rfl,aa⟩;have dc:=aa.size;refine ⟨_,rfl,ao (fun r3=> ?_) (fun r3=>skip (O.grow aa) (K.grow aa) (by omega) fun e=>by rcases e with e|e;exact r2 e;rw [Bool.and_eq_true] at e;rw [e.1] at r3;simp at r3)⟩;refine (Gc _ (K.grow aa) hB rfl).mono ?_;rintro e c7 ⟨rfl,h2,bk,_,_,a'⟩;have du:=a'.size;have a8:=(O.grow aa).keep a' fun b hb (e:b=Q)=>by have:=fr b hb;omega
   refine ⟨_,rfl,ao (fun r4=>oV a8 bk (by omega) (.inr ?_)) (fun r4=>skip a8 bk (by omega) fun e=> ?_)⟩
   . rw [Bool.and_eq_true];exact ⟨r3,r4⟩
   . rcases e with e|e
     . exact r2 e
     . rw [Bool.and_eq_true] at e;rw [e.2] at r4;simp at r4
 . have r:t=ld.length:=by simp at r;omega
   subst r;rw [List.take_length,JG] at O ⊢;exact ⟨_,_,rfl,O,K.S.G,fun b hb=>by have:=fr b hb;omega⟩
theorem IA {k:List Int} {t:Nat} (h:t<k.length):imax (lG tr (k.take t)) (lv tr (k.getD t 0))=lG tr (k.take (t+1)):=by
 rw [ER h];rfl
theorem xR (h:TV w p tr) (hn:n=tr.length) (J:nH tr=true) (hq:Vw (Value.int .i64) w q ld) (hk:m=ld.length) (hx:m<=100000) (hd:m<=d) (hb: ∀x∈ld,jk tr x):
 Calls prog ju.id #[.slice p n c,.slice q m d] w fun e w'=>e= .returned (.int .i64 (if ld.isEmpty then -1 else lG tr (ld.drop 1)))/\aq w w':=by
 refine ju.ah ?_;obtain ⟨ok,hl⟩:=mV J;refine (qi h hn).mono ?_;rintro e w1 ⟨rfl,U⟩;refine ⟨_,rfl,bm (by rw [J];rfl) (ao (fun r=> ?_) (fun r=> ?_))⟩
 . have:ld= []:=List.eq_nil_of_length_eq_zero (by simp at r;omega);subst this;exact ⟨rfl,U⟩
 have Q:0<ld.length:=by
  rcases Nat.eq_zero_or_pos ld.length with e|e
  . rw [hk,e] at r;simp at r
  . exact e
 refine (rq (h.grow U) hn ok hl (hq.grow U) hk (by unfold maxLen;omega) fun x hx=> (hb x hx).pw).mono ?_;rintro e w3 ⟨rfl,g3⟩;refine ⟨_,rfl,bm (by rw [j7.2 hb];rfl) ?_⟩;have G3:=U.trans g3;refine (lQ (h.grow G3) hn ok hl).mono ?_;rintro e w5 ⟨b,rfl,M5,g5,fb⟩;refine ⟨_,rfl,gD 1 m d rfl rfl rfl (Nat.le_refl _) hd (by omega) ?_⟩;have Z:ld.isEmpty=false:=by cases ld<;>simp at Q ⊢
 rw [Z];have G5:=G3.trans g5;have aa:(ld.drop 1).length=m - 1:=by rw [List.length_drop];omega
 have V5:Vw (Value.int .i64) w5 (if d=1 then q else q.map (·.add (1*1))) (ld.drop 1):=by
  by_cases e:d=1
  . have:ld.drop 1= []:=List.eq_nil_of_length_eq_zero (by omega);rw [this];exact Vw.nil
  . rw [if_neg e];have:=(hq.grow G5).part (i:=1) (m:=m - 1) (by omega)
    rwa [List.take_of_length_le (by omega)] at this
 refine ⟨fun L I u z=> ∃t:Nat,I=t/\t<=(ld.drop 1).length/\z=(ld.drop 1).length - t/\L=lG tr ((ld.drop 1).take t)/\aq w5 u,⟨_,0,rfl,Nat.zero_le _,rfl,rfl,aE.refl _⟩,?_⟩;rintro L I Y z _ ⟨t,rfl,ht,rfl,rfl,G⟩;refine ao (fun r=> ?_) (fun r=> ?_)
 . have r:t< (ld.drop 1).length:=by simp at r ⊢;omega
   refine (V5.grow G).ix 0 (by omega) aa.symm (by omega) fun a e=> ⟨_,e,?_⟩
   rw [Int.toNat_natCast];have V:=hb _ (List.mem_of_mem_drop (bM r));have ax:=cH V.pw;refine (cN (by omega) (by omega) Y).mono ?_;rintro e X ⟨rfl,O⟩;refine ⟨_,rfl,X,_,(M5.grow (G.trans O)).di jd (mw V.pw),?_⟩;rw [kN hl V.lt];refine (h.grow ((G5.trans G).trans O)).ix hn _ rfl V.lt fun a x C e1 e2 v=> ⟨_,C.2.1,_,?_,t+1,wN (by omega) (by omega),by omega,rfl,?_,G.trans O⟩
   . omega
   . exact IA r
 . have r:t=(ld.drop 1).length:=by simp at r ht ⊢;omega
   subst r;rw [List.take_length];exact ⟨rfl,G5.trans G⟩
theorem uA (h:TV w p tr) (hn:n=tr.length) (O:nH tr=true) (hq:Vw (Value.int .i64) w q ld) (hk:m=ld.length) (hx:m<=100000) (hb: ∀x∈ld,jk tr x):
 Calls prog gL.id #[.slice p n c,.slice q m d] w fun e w'=> ∃v:Int,e= .returned (.int .i64 v)/\(0<=v/\v<=m)/\aq w w':=by
 refine gL.ah ?_;obtain ⟨ok,hl⟩:=mV O;refine (qi h hn).mono ?_;rintro e w1 ⟨rfl,Y⟩;refine ⟨_,rfl,bm (by rw [O];rfl) ?_⟩;refine (lQ (h.grow Y) hn ok hl).mono ?_;rintro e w3 ⟨b,rfl,M3,g3,fb⟩;refine ⟨_,rfl,fun n5 w6 X=> ?_⟩;have s1:=Y.size;have s3:=g3.size;have e5:=X.num;have lb:=M3.lt;refine ⟨fun I u z=> ∃ (t nb:Nat) (s:Int->Bool),I=t/\t<=ld.length/\z=ld.length - t/\nb<=t/\MS prog aC cV u n5 nb s/\MI prog aC aC u b tr.length (se tr)/\aq w u,⟨_,0,0,_,rfl,Nat.zero_le _,rfl,Nat.le_refl _,MS.new X,M3.grow X.mod,(Y.trans g3).trans X.mod⟩,?_⟩;rintro I ag z _ ⟨t,nb,s,rfl,ht,rfl,ay,M,Mb,G⟩;refine ao (fun r=> ?_) (fun r=> ?_)
 . have r:t<ld.length:=by simp at r;omega
   refine (hq.grow G).ix 0 (by omega) hk (by omega) fun a e=> ⟨_,e,?_⟩
   rw [Int.toNat_natCast];have V:=hb _ (bM r);have aT:=cH V.pw;refine (cN (by omega) (by omega) ag).mono ?_;rintro e an ⟨rfl,J⟩;have U:=CL ok hl V;refine ⟨_,rfl,an,_,(Mb.grow J).di jd (mw V.pw),ao (fun r2=> ?_) (fun r2=> ?_)⟩
   . rw [kN hl V.lt];refine (h.grow (G.trans J)).ix hn _ rfl V.lt fun a x C e1 e2 v=> ⟨_,C.2.1,?_⟩
     obtain ⟨Z,hr,aa,Q⟩:=(M.grow J).put jb (by unfold maxLen;omega) (a:=(aS tr (cQ tr (am (ld.getD t 0)))).bj) (vC (by unfold lv at U;omega) (by unfold lv at U;omega));refine ⟨Z,hr,_,?_,t+1,nb+1,_,wN (by omega) (by omega),by omega,rfl,by omega,aa,(Mb.grow J).keep Q fun (e:b=n5)=>by omega,aE.bW (G.trans J) Q (by omega)⟩;omega
   . exact ⟨_,by omega,t+1,nb,s,wN (by omega) (by omega),by omega,rfl,by omega,M.grow J,Mb.grow J,G.trans J⟩
 . have r:t=ld.length:=by simp at r;omega
   obtain ⟨c',ax,hr⟩:=M.len jb 3;exact ⟨_,hr,_,rfl,⟨by omega,by omega⟩,G⟩
end
end Go.Proofs.YtenmibfmhccmiaaGreat.W.Le
namespace Go.RedP
open Go.SoP
abbrev Lr:=Int × Int × Bool
def aS (l:List Lr) (x:Int):Lr:=l.getD x.toNat (0,0,false)
def At (x:Lr):Bool:=decide (0<=x.2.1/\x.2.1<=4096/\0<=x.1/\x.1<=x.2.1)
def fy (x:Lr):Bool:=x.2.2||decide (x.1<=2)
def vJ (l:List Lr) (a b:Int):Int:=
 if (aS l a).1≠(aS l b).1 then (aS l a).1 - (aS l b).1 else if (aS l a).2.1≠(aS l b).2.1 then (aS l a).2.1 - (aS l b).2.1 else b - a
def qU (l:List Lr) (a b:Int):Bool:=
 if (aS l a).1≠(aS l b).1 then decide ((aS l a).1< (aS l b).1) else if (aS l a).2.1≠(aS l b).2.1 then decide ((aS l a).2.1< (aS l b).2.1) else decide (a>b)
theorem wC (l:List Lr) (a b:Int):qU l a b=decide (vJ l a b<0):=by
 unfold qU vJ;split
 . exact decide_eq_decide.2 (by omega)
 . split
   . exact decide_eq_decide.2 (by omega)
   . exact decide_eq_decide.2 (by omega)
theorem xZ (l:List Lr):Ord (vJ l):=by
 constructor
 . intro x y h;unfold vJ at*
   split at h<;>split<;> (try split at h)<;> (try split)<;>omega
 . intro x y z h1 I;unfold Le vJ at*
   generalize aS l x=a at*
   generalize aS l y=b at*
   generalize aS l z=d at*
   split at h1<;>split at I<;>split<;> (try split at h1)<;> (try split at I)<;> (try split)<;>omega
theorem KC {l:List Lr} {a b:Int} (h:Le (vJ l) a b) (I:a≠b):vJ l a b<0:=by
 unfold Le vJ at h;unfold vJ;split at h<;>split<;> (try split at h)<;> (try split)<;>omega
def pC (n:Nat):List Int:=(List.range n).map Int.ofNat
theorem j6 (n:Nat):(pC n).length=n:=by simp [pC]
theorem sD {n:Nat} {x:Int}:x∈pC n↔0<=x/\x<n:=by
 simp only [pC,List.mem_map,List.mem_range];constructor
 . rintro ⟨i,h,rfl⟩;exact ⟨Int.natCast_nonneg i,by simpa using h⟩
 . intro h;exact ⟨x.toNat,by omega,by show ((x.toNat:Nat):Int)=x;omega⟩
theorem Ec (n:Nat):(pC n).Nodup:=by
 unfold pC;exact List.Pairwise.map _ (fun a b h e=>h (Int.ofNat.inj e)) List.nodup_range
def GN (l:List Lr) (x:Int) (all:Bool):Nat:=(pC l.length).countP fun i=>i !=x && (all|| !fy (aS l i)) && qU l i x
def ii (l:List Lr):Nat:=(pC l.length).countP fun i=> !fy (aS l i)
def keep (l:List Lr) (x:Int):Bool:=fy (aS l x)||decide (GN l x false<ii l / 2)
def nr (l:List Lr) (o:List Int) (t:Nat):Nat:=(o.take t).countP fun i=> !fy (aS l i)
structure wc (l:List Lr) (o:List Int):Prop where
 pm:o.Perm (pC l.length)
 so:pT (vJ l) o 0 o.length
theorem wc.len {l:List Lr} {o:List Int} (h:wc l o):o.length=l.length:=by rw [h.pm.length_eq,j6]
theorem wc.nd {l:List Lr} {o:List Int} (h:wc l o):o.Nodup:=h.pm.nodup_iff.2 (Ec _)
theorem wc.Nh {l:List Lr} {o:List Int} (h:wc l o) {t:Nat} (ht:t<o.length):0<=o.getD t 0/\o.getD t 0<l.length:=by
 have:o.getD t 0∈o:=by simp [List.getD,ht]
 exact sD.1 (h.pm.mem_iff.1 this)
theorem qv {o:List Int} (h:o.Nodup) {i j:Nat} (hi:i<o.length) (I:j<o.length) (e:o.getD i 0=o.getD j 0):i=j:=by
 simp only [List.getD,List.getElem?_eq_getElem hi,List.getElem?_eq_getElem I,Option.getD_some] at e;exact (List.getElem_inj h).1 e
theorem wc.find {l:List Lr} {o:List Int} (h:wc l o) {x:Int} (I:0<=x) (h1:x<l.length): ∃t,t<o.length/\o.getD t 0=x:=by
 have:x∈o:=h.pm.mem_iff.2 (sD.2 ⟨I,h1⟩);obtain ⟨t,ht,e⟩:=List.mem_iff_getElem.1 this;exact ⟨t,ht,by simp [List.getD,ht,e]⟩
theorem wc.lt {l:List Lr} {o:List Int} (h:wc l o) {i j:Nat} (I:i<j) (J:j<o.length):qU l (o.getD i 0) (o.getD j 0)=true/\qU l (o.getD j 0) (o.getD i 0)=false:=by
 have hs:=h.so i j (Nat.zero_le _) I J;rw [wC,wC];refine ⟨decide_eq_true (KC hs fun e=> ?_),decide_eq_false hs⟩;have:=qv h.nd (by omega) J e;omega
theorem sK {o:List Int} {i:Nat} (hi:i<o.length):o[i]=o.getD i 0:=by simp [List.getD,hi]
theorem wc.GN {l:List Lr} {o:List Int} (h:wc l o) {t:Nat} (ht:t<o.length) (all:Bool):
 GN l (o.getD t 0) all=(o.take t).countP fun i=>all|| !fy (aS l i):=by
 unfold RedP.GN;rw [<- h.pm.countP_eq];have U: ∀q:Int->Bool,o.countP q=(o.take t).countP q+ (o.drop t).countP q:=fun q=>by rw [<- List.countP_append,List.take_append_drop]
 rw [U];have Q:(o.drop t).countP (fun i=>i !=o.getD t 0 && (all|| !fy (aS l i)) && qU l i (o.getD t 0))=0:=by
  rw [List.countP_eq_zero];intro x J;obtain ⟨j,I,rfl⟩:=List.mem_iff_getElem.1 J;rw [List.getElem_drop,sK];rw [List.length_drop] at I;rcases Nat.eq_zero_or_pos j with e|e
  . subst e;simp
  . rw [(h.lt (i:=t) (j:=t+j) (by omega) (by omega)).2];simp
 rw [Q,Nat.add_zero];refine List.countP_congr fun x J=> ?_;obtain ⟨j,I,rfl⟩:=List.mem_iff_getElem.1 J;rw [List.length_take] at I;rw [List.getElem_take,sK];have O:o.getD j 0≠o.getD t 0:=fun e=>by have:=qv h.nd (by omega) ht e;omega
 rw [(h.lt (i:=j) (j:=t) (by omega) ht).1,show (o.getD j 0 !=o.getD t 0)=true from bne_iff_ne.2 O];simp
theorem wc.keep {l:List Lr} {o:List Int} (h:wc l o) {t:Nat} (ht:t<o.length):keep l (o.getD t 0)=(fy (aS l (o.getD t 0))||decide (nr l o t<ii l / 2)):=by
 unfold RedP.keep;rw [h.GN ht false];simp only [Bool.false_or];rfl
theorem zc {l:List Lr} {o:List Int} {t:Nat} (ht:t<o.length):nr l o (t+1)=nr l o t+ (if fy (aS l (o.getD t 0)) then 0 else 1):=by
 unfold nr;rw [List.take_add_one,List.countP_append];have:o[t]? =some (o.getD t 0):=by simp [List.getD,ht]
 rw [this];simp only [Option.toList_some,List.countP_cons,List.countP_nil];cases fy (aS l (o.getD t 0))<;>simp
theorem wc.HV {l:List Lr} {o:List Int} (h:wc l o):nr l o o.length=ii l:=by
 unfold nr ii;rw [List.take_length,h.pm.countP_eq]
theorem wc.LG {l:List Lr} {o:List Int} (h:wc l o):(pC l.length).countP (fun x=> !fy (aS l x) && RedP.keep l x)=ii l / 2:=by
 rw [<- h.pm.countP_eq];have H: ∀t,t<=o.length->(o.take t).countP (fun x=> !fy (aS l x) && RedP.keep l x)=min (ii l / 2) (nr l o t):=by
  intro t
  induction t with
  |zero=>intro _;simp [nr]
  |succ t J=>
   intro ht;have I:t<o.length:=by omega
   rw [List.take_add_one,List.countP_append,J (by omega),zc I];have:o[t]? =some (o.getD t 0):=by simp [List.getD,I]
   rw [this];simp only [Option.toList_some,List.countP_cons,List.countP_nil,h.keep I];cases fy (aS l (o.getD t 0))
   . by_cases e:nr l o t<ii l / 2
     . simp [e];omega
     . simp [e];omega
   . simp
 have:=H o.length (Nat.le_refl _);rw [List.take_length,h.HV] at this;rw [this];omega
theorem EB (l:List Lr) (a b:Int):Le (vJ l) a b\/Le (vJ l) b a:=by
 by_cases h:vJ l b a<0
 . exact .inr ((xZ l).II h)
 . exact .inl h
theorem JL (l:List Lr): ∃o,wc l o:=by
 refine ⟨(pC l.length).mergeSort (fun a b=>decide (¬vJ l b a<0)),List.mergeSort_perm _ _,?_⟩;have hp:=List.pairwise_mergeSort (le:=fun a b=>decide (¬vJ l b a<0)) (fun a b c h1 J=>by simp only [decide_eq_true_eq] at h1 J ⊢;exact (xZ l).trans h1 J)
  (fun a b=>by rcases EB l a b with h|h<;>simp [Le] at h ⊢ <;>omega) (pC l.length)
 intro i j _ I O;have:=List.pairwise_iff_getElem.1 hp i j (by omega) O I;rw [sK,sK] at this;simp only [decide_eq_true_eq] at this;exact this
end Go.RedP
namespace Go.Proofs.YtenmibfmhccmiaaGreat.W.Re
open Go Go.Fw Go.RowKit Go.SoP Go.RedP
open Go.Proofs.Tryz (prog)
section
abbrev Ep (x:Lr):List Value:= [.int .i64 x.1,.int .i64 x.2.1,.bool x.2.2]
theorem MZ:Do 3 Ep:=⟨fun _=>rfl,by decide,fun x v hv=>by simp [Ep] at hv;rcases hv with rfl|rfl|rfl<;>rfl⟩
theorem dN:lN prog aJ aC 8=true:=by kernel_rfl
theorem HM:lN prog Br cV 1=true:=by kernel_rfl
theorem ip:(Tryz.prog.info? aC).bind (·.zero)=some (.int .i64 0):=by kernel_rfl
theorem Eb:(Tryz.prog.info? cV).bind (·.zero)=some (.bool false):=by kernel_rfl
variable {w:World} {p:Option Addr} {n c:Nat} {l:List Lr}
theorem G8 (h:Vr 3 Ep w p l) (hn:n=l.length) {X:Int} {x:Int} (e:X=x) (I:0<=x) (h1:x<l.length) {K:Addr->Prop}
 (J: ∀a,aD w a 0 (Ep (aS l x))->K a):aV p n X 3 K:=by
 subst e;exact h.ix (0,0,false) I hn (by omega) J
theorem nG {a:Addr} {x:Lr} (h:aD w a 0 (Ep x)):w.cell? (a.add 0)=some (.int .i64 x.1)/\w.cell? (a.add 1)=some (.int .i64 x.2.1)/\w.cell? (a.add 2)=some (.bool x.2.2):=⟨h.1,h.2.1,h.2.2.1⟩
theorem Hj (x:Lr) (w:World):Calls prog iK.id #[.agg #[.int .i64 x.1,.int .i64 x.2.1,.bool x.2.2]] w fun e w'=>e= .returned (.bool (fy x))/\aq w w':=by
 refine iK.ah ?_;intro I w2 h1;refine ⟨_,ad h1.has rfl,ao (fun q=> ⟨?_,h1.mod⟩) (fun q=> ⟨_,ad h1.has rfl,?_,h1.mod⟩)⟩
 . unfold fy;rw [q];rfl
 . unfold fy;rw [q];rfl
theorem EO {f:Lr->Bool} {t:Nat} (h:(l.take t).all f=true) (ht:t<l.length) (I:f (aS l t)=true):(l.take (t+1)).all f=true:=by
 rw [List.take_add_one,List.all_append,h];have:l[t]? =some (aS l t):=by simp [aS,List.getD,ht]
 rw [this];simpa using I
theorem Hg {f:Lr->Bool} {t:Nat} (ht:t<l.length) (I:f (aS l t)=false):l.all f=false:=by
 cases h:l.all f with
 |false=>rfl
 |true=>
  have:=List.all_eq_true.1 h (aS l t) (by simp [aS,List.getD,ht]);rw [I] at this;cases this
theorem rZ (h:Vr 3 Ep w p l) (hn:n=l.length) (hm:n<=maxLen):Calls prog gU.id #[.slice p n c] w fun e w'=>e= .returned (.int .i64 (if l.all At then 0 else 1))/\aq w w':=by
 refine gU.ah ?_;unfold maxLen at hm;refine ⟨fun I w' k=> ∃t:Nat,I=t/\t<=l.length/\k=l.length - t/\(l.take t).all At=true/\aq w w',⟨_,0,rfl,Nat.zero_le _,rfl,rfl,aE.refl w⟩,?_⟩;rintro I w1 k _ ⟨t,rfl,ht,rfl,ha,G⟩;refine ao (fun q=> ?_) (fun q=> ⟨?_,G⟩)
 . have q:t<l.length:=by simp at q;omega
   have H:=h.grow G;refine G8 H hn (x:=t) rfl (by omega) (by omega) fun a C=> ⟨_,_,_,C,?_⟩
   intro X w2 Q;refine bq Q.has rfl rfl fun w3 O m3=> ?_;have U:aq w w3:=G.trans (Q.mod.bW m3 (by have:=Q.num;omega));have O:bF w3 X #[.int .i64 (aS l t).1,.int .i64 (aS l t).2.1,.bool (aS l t).2.2]:=O;have J:At (aS l t)=false->(Ending.returned (.int .i64 1)= .returned (.int .i64 (if l.all At then 0 else 1))/\aq w w3):=fun hb=>by rw [Hg q hb];exact ⟨rfl,U⟩
   unfold At at J;refine ⟨_,ad O rfl,ao (fun s=>J (by simp at s;simp;omega)) (fun s1=> ?_)⟩;refine ⟨_,ad O rfl,ao (fun s=>J (by simp at s;simp;omega)) (fun V=> ?_)⟩;refine ⟨_,ad O rfl,ao (fun s=>J (by simp at s;simp;omega)) (fun Z=> ?_)⟩;refine ⟨_,ad O rfl,_,ad O rfl,ao (fun s=>J (by simp at s;simp;omega)) (fun Y=> ?_)⟩;refine ⟨_,?_,t+1,?_,by omega,rfl,EO ha q ?_,U⟩
   . omega
   . rw [aB (by omega) (by omega)];omega
   . unfold At;simp only [decide_eq_false_iff_not] at s1 V Z Y;exact decide_eq_true (by omega)
 . have:t=l.length:=by simp at q;omega
   subst this;rw [List.take_length] at ha;rw [ha];rfl
theorem GU (hl:l.all At=true) {x:Int} (I:0<=x/\x<l.length):0<=(aS l x).2.1/\(aS l x).2.1<=4096/\0<=(aS l x).1/\(aS l x).1<=(aS l x).2.1:=by
 have:=List.all_eq_true.1 hl (aS l x) (by simp [aS,List.getD,show x.toNat<l.length by omega]);unfold At at this;exact of_decide_eq_true this
theorem Li (h:Vr 3 Ep w p l) (hl:0<l.length): ∀b,aI p=some b->b<w.heap.size:=by
 intro b hb;obtain ⟨a,rfl,C⟩:=h 0 hl;have:=World.block_lt_of_cell? w _ C.1;rw [cy,cy] at this;simp [aI] at hb;omega
theorem Dc (h:Vr 3 Ep w p l) (hn:n=l.length) (hm:n<=maxLen) (hl:l.all At=true) {nb:Nat} (hb:bF w nb #[.slice p n c]) {x y:Int} (J:0<=x/\x<l.length) (I:0<=y/\y<l.length):
 Calls prog dj.id #[.int .i64 x,.int .i64 y,.pointer (some ⟨nb,0,none⟩)] w fun e w'=>e= .returned (.int .i64 (vJ l x y))/\rH w w':=by
 refine dj.ah ?_;unfold maxLen at hm;have G:rH w w.drew:=(rH.refl w).drew;have U:=GU hl J;have Q:=GU hl I;refine ⟨_,_,_,aR hb.drew rfl,G8 h.drew hn rfl J.1 J.2 fun a C=> ⟨_,(nG C).1,_,_,_,aR hb.drew rfl,G8 h.drew hn rfl I.1 I.2 fun a D=> ⟨_,(nG D).1,ao (fun q=> ?_) (fun q=> ?_)⟩⟩⟩
 . have q:(aS l x).1≠(aS l y).1:=by simpa using q
   refine ⟨_,_,_,aR hb.drew.drew rfl,G8 h.drew.drew hn rfl J.1 J.2 fun a C=> ⟨_,(nG C).1,_,_,_,aR hb.drew.drew rfl,G8 h.drew.drew hn rfl I.1 I.2 fun a D=> ⟨_,(nG D).1,?_,G.drew⟩⟩⟩;unfold vJ;rw [if_pos q,aB (by omega) (by omega)]
 . have q: ¬(aS l x).1≠(aS l y).1:=by simpa using q
   refine ⟨_,_,_,aR hb.drew.drew rfl,G8 h.drew.drew hn rfl J.1 J.2 fun a C=> ⟨_,(nG C).2.1,_,_,_,aR hb.drew.drew rfl,G8 h.drew.drew hn rfl I.1 I.2 fun a D=> ⟨_,(nG D).2.1,ao (fun O=> ?_) (fun O=> ⟨?_,G.drew⟩)⟩⟩⟩
   . have O:(aS l x).2.1≠(aS l y).2.1:=by simpa using O
     refine ⟨_,_,_,aR hb.drew.drew.drew rfl,G8 h.drew.drew.drew hn rfl J.1 J.2 fun a C=> ⟨_,(nG C).2.1,_,_,_,aR hb.drew.drew.drew rfl,G8 h.drew.drew.drew hn rfl I.1 I.2 fun a D=> ⟨_,(nG D).2.1,?_,G.drew.drew⟩⟩⟩;unfold vJ;rw [if_neg q,if_pos O,aB (by omega) (by omega)]
   . have O: ¬(aS l x).2.1≠(aS l y).2.1:=by simpa using O
     unfold vJ;rw [if_neg q,if_neg O,aB (by omega) (by omega)]
theorem BQ:fM prog dj.id=true:=by kernel_rfl
theorem Kl (u v z:Value):(#[]++ #[u,v]++ #[z]:Array Value)= #[u,v,z]:=by simp
def xH (t m:Nat):List Int:=(List.range t).map Int.ofNat++List.replicate (m - t) 0
theorem GW {t m:Nat} (h:t<=m):(xH t m).length=m:=by simp [xH];omega
theorem Ft (m:Nat):xH m m=pC m:=by simp [xH,pC]
theorem EP {t m:Nat} (h:t<m):(xH t m).set t (t:Int)=xH (t+1) m:=by
 unfold xH;rw [List.set_append,if_neg (by simp),List.length_map,List.length_range,Nat.sub_self,List.range_succ,List.map_append,List.append_assoc];congr 1;rw [show m - t=(m - (t+1))+1 by omega,List.replicate_succ];rfl
theorem GX (h:Vr 3 Ep w p l) (hn:n=l.length) (hm:n<=1000000):Calls prog gO.id #[.slice p n c] w fun e w'=> ∃ (q:Option Addr) (d:Nat) (o:List Int),e= .returned (.slice q o.length d)/\aq w w'/\eC aC w' q d o/\(if l.all At then wc l o else o= [])/\(∀b,aI q=some b->w.heap.size<=b):=by
 refine gO.ah ?_;intro nb w1 h1;have O:aq w w1:=h1.mod;have ax:=h1.num;refine ⟨_,_,_,aR h1.has rfl,(rZ (h.grow O) hn (by unfold maxLen;omega)).mono ?_⟩;rintro e w2 ⟨rfl,J⟩;have b2:=h1.has.grow J;cases hl:l.all At with
 |false=>
  refine ⟨_,rfl,cj rfl ⟨none,0,[],rfl,O.trans J,Ow.nil _ _ _,by simp,fun b hb=>by simp [aI] at hb⟩⟩
 |true=>
  refine ⟨_,rfl,bm rfl ⟨_,_,_,aR b2 rfl,?_⟩⟩;have a7:=J.size;have s1:=h1.size;refine nW dN ip (x:=(0:Int)) rfl n rfl (by omega) fun w3 o3 g3 z3=> ?_;have b3:=b2.grow g3;refine ⟨_,_,_,aR b3 rfl,?_⟩;have hq: ∀b,aI (some (⟨w2.heap.size,0,none⟩:Addr))=some b->b=w2.heap.size:=fun b hb=>by simp [aI] at hb;exact hb.symm
  refine ⟨fun I w' k=> ∃t:Nat,I=t/\t<=n/\k=n - t/\eC aC w' (some ⟨w2.heap.size,0,none⟩) n (xH t n)/\aE (fun b=>b=w2.heap.size) w2 w',⟨_,0,rfl,Nat.zero_le _,rfl,by simpa [xH] using o3,g3.mono fun _ _=>False.elim⟩,?_⟩;rintro I w4 k _ ⟨t,rfl,ht,rfl,Z,U⟩;have ac:=GW ht;refine ao (fun q=> ?_) (fun q=> ?_)
  . have q:t<n:=by simpa using q
    refine Z.st (t:Int) rfl rfl (by omega) ac.symm (by omega) fun w5 Q m5=> ?_;rw [Int.toNat_natCast,EP q] at Q;refine ⟨_,?_,t+1,wN (by omega) (by omega),by omega,rfl,Q,U.then m5 fun b _ hb=>hq b hb⟩;omega
  . have q:t=n:=by simp at q;omega
    subst q;have G4:aq w2 w4:=U.mono fun b hb e=>by omega
    have B4:=b2.grow G4;have H4:=((h.grow O).grow J).grow G4;rw [Ft] at Z;have V:nb≠w2.heap.size:=by have:=b2.lt;omega
    have X:Cx w4 (some ⟨w2.heap.size,0,none⟩) t (pC t) dj.id #[.pointer (some ⟨nb,0,none⟩)] (vJ l):=by
     refine ⟨(j6 t).symm,by omega,BQ,fun x hx y hy w' m'=> ?_,xZ l⟩;rw [Kl];have hx:=sD.1 hx;have hy:=sD.1 hy;refine Dc (H4.keep m' fun b hb e=> ?_) hn (by unfold maxLen;omega) hl (B4.keep m' fun e=>V (hq _ e)) (by omega) (by omega);have e:=hq _ e;have:=Li h (by omega) b hb;have:=O.size;have:=J.size;omega
    refine (yo X Z).mono ?_;rintro e w5 ⟨rfl,l5,Q,m5,Y,s5⟩;refine ⟨rfl,_,_,l5,?_,?_,Q,?_,?_⟩
    . rw [Y.length_eq,j6]
    . exact (O.trans J).then (U.then (S:=fun b=>b=w2.heap.size) m5 fun b _ hb=>hq b hb) fun b hb e=>by omega
    . rw [if_pos rfl];rw [hn] at Y;exact ⟨Y,s5⟩
    . intro b hb;have:=hq b hb;omega
end
section
variable {w:World} {p:Option Addr} {n c:Nat} {l:List Lr}
theorem Ae (t:Nat):pC (t+1)=pC t++ [(t:Int)]:=by
 unfold pC;rw [List.range_succ,List.map_append];rfl
def kM (l:List Lr) (t m:Nat):List Bool:=((pC t).map fun i=>fy (aS l i))++List.replicate (m - t) false
theorem mX {t m:Nat} (h:t<=m):(kM l t m).length=m:=by simp [kM,j6];omega
theorem tC {t m:Nat} (h:t<m):(kM l t m).set t (fy (aS l t))=kM l (t+1) m:=by
 unfold kM;rw [List.set_append,if_neg (by simp [j6]),List.length_map,j6,Nat.sub_self,Ae,List.map_append,List.append_assoc];congr 1;rw [show m - t=(m - (t+1))+1 by omega,List.replicate_succ];rfl
theorem BE {t m:Nat} (h:t<m):(kM l (t+1) m).getD t false=fy (aS l t):=by
 rw [<- tC h];simp [List.getD,mX (Nat.le_of_lt h),h]
theorem BK {m x:Nat} (h:x<m):(kM l m m).getD x false=fy (aS l x):=by
 unfold kM;simp [pC,List.getD,h]
theorem xl (t:Nat):((pC (t+1)).countP fun i=> !fy (aS l i))=((pC t).countP fun i=> !fy (aS l i))+ (if fy (aS l t) then 0 else 1):=by
 rw [Ae,List.countP_append];simp only [List.countP_cons,List.countP_nil];cases fy (aS l t)<;>simp
theorem CO (t:Nat):((pC t).countP fun i=> !fy (aS l i))<=t:=by
 have:=List.countP_le_length (p:=fun i=> !fy (aS l i)) (l:=pC t)
 rwa [j6] at this
theorem Dn {b:List Bool} {i j:Nat} {x:Bool} (hi:i<b.length):(b.set i x).getD j false=if j=i then x else b.getD j false:=by
 simp only [List.getD_eq_getElem?_getD,List.getElem?_set];by_cases h:j=i
 . subst h;simp [hi]
 . rw [if_neg (fun e=>h e.symm),if_neg h]
theorem G_ (h:Vr 3 Ep w p l) (hn:n=l.length) (hm:n<=1000000):Calls prog iQ.id #[.slice p n c] w fun e w'=> ∃ (q:Option Addr) (d:Nat) (k:List Bool),e= .returned (.slice q k.length d)/\aq w w'/\Ow Value.bool cV w' q d k/\(∀b,aI q=some b->w.heap.size<=b)/\
 (if l.all At then k.length=n/\∀x:Nat,x<n->k.getD x false=keep l x else k= []):=by
 refine iQ.ah ?_;refine (rZ h hn (by unfold maxLen;omega)).mono ?_;rintro e w1 ⟨rfl,g1⟩;cases hl:l.all At with
 |false=>exact ⟨_,rfl,cj rfl ⟨none,0,[],rfl,g1,Ow.nil _ _ _,fun b hb=>by simp [aI] at hb,by simp⟩⟩
 |true=>
 refine ⟨_,rfl,bm rfl ?_⟩;refine nW HM Eb (x:=false) rfl n rfl (by omega) fun w2 o2 g2 z2=> ?_;have hq: ∀b,aI (some (⟨w1.heap.size,0,none⟩:Addr))=some b->b=w1.heap.size:=fun b hb=>by simp [aI] at hb;exact hb.symm
 have hN:aE (fun b=>b=w1.heap.size) w1 w2:=g2.mono fun _ _=>False.elim;refine ⟨fun F I w' k=> ∃t:Nat,I=t/\F=((pC t).countP fun i=> !fy (aS l i):Nat)/\t<=n/\k=n - t/\Ow Value.bool cV w' (some ⟨w1.heap.size,0,none⟩) n (kM l t n)/\aE (fun b=>b=w1.heap.size) w1 w',⟨_,0,rfl,rfl,Nat.zero_le _,rfl,by simpa [kM,pC] using o2,hN⟩,?_⟩;rintro F I w3 k _ ⟨t,rfl,rfl,ht,rfl,o3,m3⟩;have G3:aq w1 w3:=m3.mono fun b hb e=>by omega
 have H3:=(h.grow g1).grow G3;refine ao (fun q=> ?_) (fun q=> ?_)
 . have q:t<n:=by simpa using q
   refine G8 H3 hn (x:=t) rfl (by omega) (by omega) fun a C=> ⟨_,_,_,C,?_⟩
   intro n1 w4 h4;refine bq h4.has rfl rfl fun w5 h5 Y=> ?_;have g5:aq w3 w5:=h4.mod.bW Y (by have:=h4.num;omega);have h5:bF w5 n1 #[.int .i64 (aS l t).1,.int .i64 (aS l t).2.1,.bool (aS l t).2.2]:=h5;refine ⟨_,_,_,⟨ad h5 rfl,ad h5 rfl,ad h5 rfl,trivial⟩,(Hj (aS l t) w5).mono ?_⟩;rintro e w6 ⟨rfl,g6⟩;refine ⟨_,rfl,?_⟩;have o6:=o3.grow (g5.trans g6);have hlen:=mX (l:=l) ht;refine o6.st (fy (aS l t)) rfl rfl (by omega) hlen.symm (by omega) fun w7 o7 m7=> ?_;rw [Int.toNat_natCast,tC q] at o7;have M7:aE (fun b=>b=w1.heap.size) w1 w7:=(m3.grow (g5.trans g6)).then m7 fun b _ hb=>hq b hb;refine o7.ix false (by omega) (mX (by omega)).symm (by omega) fun a e=> ⟨_,e,?_⟩
   rw [Int.toNat_natCast,BE q];have hf:=CO (l:=l) t;refine ao (fun s=> ?_) (fun s=> ?_)
   . refine ⟨_,?_,t+1,wN (by omega) (by omega),?_,by omega,rfl,o7,M7⟩
     . omega
     . have s:fy (aS l t)=false:=by simpa using s
       rw [xl,s];exact wN (by simp) (by simp;omega)
   . refine ⟨_,?_,t+1,wN (by omega) (by omega),?_,by omega,rfl,o7,M7⟩
     . omega
     . have s:fy (aS l t)=true:=by simpa using s
       rw [xl,s];rfl
 . have q:t=l.length:=by simp at q;omega
   subst q;have a':n=l.length:=hn;subst a';refine ⟨by decide,(GX H3 rfl hm).mono ?_⟩;rintro e w4 ⟨q,d,o,rfl,g4,oo,U,a6⟩;rw [hl,if_pos rfl] at U;have c7:=U.len;refine ⟨_,_,_,rfl,?_⟩;have a_:((pC l.length).countP fun i=> !fy (aS l i))=ii l:=rfl;rw [a_];have cT:ii l<=l.length:=CO l.length;have ed:IntKind.i64.wrap (((ii l:Nat):Int).tdiv 2)=((ii l / 2:Nat):Int):=wN (by rw [Int.tdiv_eq_ediv_of_nonneg (by omega)];omega) (by omega);rw [ed];refine ⟨fun L I w' k=> ∃ (t:Nat) (b:List Bool),I=t/\L=(ii l / 2 - nr l o t:Nat)/\t<=o.length/\k=o.length - t/\b.length=l.length/\(∀x:Nat,x<l.length->(b.getD x false=true↔fy (aS l x)=true\/∃j,j<t/\o.getD j 0=(x:Int)/\nr l o j<ii l / 2))/\
    Ow Value.bool cV w' (some ⟨w1.heap.size,0,none⟩) l.length b/\eC aC w' q d o/\aE (fun b=>b=w1.heap.size) w1 w',⟨_,0,kM l l.length l.length,rfl,by simp [nr],Nat.zero_le _,rfl,mX (Nat.le_refl _),fun x Z=>by rw [BK Z];simp,o3.grow g4,oo,m3.grow g4⟩,?_⟩
   rintro L I w5 k _ ⟨t,b,rfl,rfl,ht,rfl,hb,Z,ob,o5,Y⟩;refine ao (fun r=> ?_) (fun r=> ?_)
   . have r:t<o.length:=by simpa using r
     refine o5.ix 0 (by omega) rfl (by omega) fun a e=> ⟨_,e,?_⟩
     rw [Int.toNat_natCast];obtain ⟨r0,r1⟩:=U.Nh r;obtain ⟨x,ex⟩: ∃x:Nat,o.getD t 0=(x:Int):=⟨(o.getD t 0).toNat,by omega⟩
     have X:x<l.length:=by omega
     rw [ex];refine ob.ix false (by omega) hb.symm (by omega) fun a e=> ⟨_,e,?_⟩
     rw [Int.toNat_natCast];have ap:=Z x X;have Q: ¬∃j,j<t/\o.getD j 0=(x:Int)/\nr l o j<ii l / 2:=by
      rintro ⟨j,j1,O,_⟩;have:=qv U.nd (i:=j) (j:=t) (by omega) r (by rw [O,ex]);omega
     have ag: ∀y:Nat,(∃j,j<t+1/\o.getD j 0=(y:Int)/\nr l o j<ii l / 2)↔(∃j,j<t/\o.getD j 0=(y:Int)/\nr l o j<ii l / 2)\/(y=x/\nr l o t<ii l / 2):=by
      intro y;constructor
      . rintro ⟨j,j1,O,j3⟩;by_cases e:j=t
        . subst e;rw [ex] at O;exact .inr ⟨by omega,j3⟩
        . exact .inl ⟨j,by omega,O,j3⟩
      . rintro (⟨j,j1,O,j3⟩| ⟨rfl,j3⟩)
        . exact ⟨j,by omega,O,j3⟩
        . exact ⟨t,by omega,ex,j3⟩
     have cs:=zc (l:=l) r;rw [ex] at cs;have J:fy (aS l (x:Int))=b.getD x false:=by
      cases ar:b.getD x false with
      |true=>
       rcases ap.1 ar with h|h
       . exact h
       . exact absurd h Q
      |false=>
       cases a7:fy (aS l (x:Int)) with
       |false=>rfl
       |true=>have:=ap.2 (.inl a7);rw [ar] at this;exact this.symm
     have et:IntKind.i64.wrap ((t:Int)+1)=((t+1:Nat):Int):=wN (by omega) (by omega);have stay:(b.getD x false=true\/¬nr l o t<ii l / 2)->∀y:Nat,y<l.length->(b.getD y false=true↔fy (aS l y)=true\/∃j,j<t+1/\o.getD j 0=(y:Int)/\nr l o j<ii l / 2):=by
      intro hc y hy;rw [Z y hy,ag y];constructor
      . rintro (h|h)
        . exact .inl h
        . exact .inr (.inl h)
      . rintro (h|h| ⟨rfl,h⟩)
        . exact .inl h
        . exact .inr h
        . rcases hc with hc|hc
          . exact .inl (by rw [J];exact hc)
          . exact absurd h hc
     refine ao (fun s=> ?_) (fun s=> ?_)
     . have s:b.getD x false=false:=by simpa using s
       rw [s] at J;rw [J] at cs;refine ao (fun V=> ?_) (fun V=> ?_)
       . have V:nr l o t<ii l / 2:=by simp at V;omega
         refine ob.st true rfl rfl (by omega) hb.symm (by omega) fun w6 o6 m6=> ?_;rw [Int.toNat_natCast] at o6;have M6:aE (fun b=>b=w1.heap.size) w1 w6:=Y.then m6 fun b _ hb=>hq b hb;refine ⟨_,?_,t+1,_,et,?_,by omega,rfl,by simpa using hb,fun y hy=> ?_,o6,?_,M6⟩
         . omega
         . rw [cs];simp only [Bool.false_eq_true,if_false];rw [aB (by omega) (by omega)];omega
         . rw [Dn (by omega),ag y];by_cases e:y=x
           . subst e;rw [if_pos (Eq.refl y)];simp [V]
           . rw [if_neg e,Z y hy];constructor
             . rintro (h|h)
               . exact .inl h
               . exact .inr (.inl h)
             . rintro (h|h| ⟨h,_⟩)
               . exact .inl h
               . exact .inr h
               . exact absurd h e
         . refine o5.keep m6 fun b hb e=> ?_;have:=a6 b hb;have:=hq b e;have:=m3.size;have:=z2;have:=hN.size;have ce:=o3.lt w1.heap.size rfl;omega
       . have V: ¬nr l o t<ii l / 2:=by simp at V;omega
         refine ⟨_,?_,t+1,b,et,?_,by omega,rfl,hb,stay (.inr V),ob,o5,Y⟩
         . omega
         . rw [cs];simp only [Bool.false_eq_true,if_false];omega
     . have s:b.getD x false=true:=by simpa using s
       rw [s] at J;rw [J] at cs;refine ⟨_,?_,t+1,b,et,?_,by omega,rfl,hb,stay (.inl s),ob,o5,Y⟩
       . omega
       . rw [cs];simp
   . have r:t=o.length:=by simp at r;omega
     subst r;refine ⟨_,_,b,by rw [hb],g1.trans (Y.mono fun b hb e=>by omega),ob,fun b hb=>by have:=hq b hb;have:=g1.size;omega,?_⟩;rw [if_pos rfl];refine ⟨hb,fun x X=> ?_⟩;obtain ⟨j,j1,O⟩:=U.find (x:=(x:Int)) (by omega) (by omega);have hk:=U.keep j1;rw [O] at hk;rw [hk,Bool.eq_iff_iff,Z x X,Bool.or_eq_true,decide_eq_true_eq];constructor
     . rintro (h| ⟨i,i1,i2,i3⟩)
       . exact .inl h
       . have:=qv U.nd i1 j1 (by rw [i2,O]);subst this;exact .inr i3
     . rintro (h|h)
       . exact .inl h
       . exact .inr ⟨j,j1,O,h⟩
end
end Go.Proofs.YtenmibfmhccmiaaGreat.W.Re
