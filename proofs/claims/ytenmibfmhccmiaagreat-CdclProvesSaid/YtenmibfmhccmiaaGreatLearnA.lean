/- Maps from ints to bools that tell what is known. -/
import Derived.Test.YtenmibfmhccmiaaGreatLitA
import Derived.Test.YtenmibfmhccmiaaGreatSortA
namespace Go.Fw
open Go Go.RowKit Go.Maps
variable {P:Program} {t k e:TypeId} {w w':World} {b n:Nat} {s h:Int->Bool}
def MK (P:Program) (k e:TypeId) (w:World) (b n:Nat) (s h:Int->Bool):Prop:=
 ∃D:DataW Unit,w.ownsMap P k (plainElem P e) b n D/\(∀a:Int,D.atKey (.int .i64 a) (.lit (.bool false))= .lit (.bool (s a)))/\∀a:Int,Maps.has D (.int .i64 a)=h a
theorem MK.mb (m:MK P k e w b n s h):MB P k e w b n s:=by obtain ⟨D,h1,I,_⟩:=m;exact ⟨D,h1,I⟩
theorem MK.lt (m:MK P k e w b n s h):b<w.heap.size:=m.mb.lt
theorem MK.keep {S:Nat->Prop} (I:MK P k e w b n s h) (m:aF S w w') (hs: ¬S b):MK P k e w' b n s h:=by
 have hl:=I.lt;obtain ⟨D,⟨O,clock,hb,h1⟩,J⟩:=I;exact ⟨D,⟨O,clock,(m.block b hl hs).trans hb,h1⟩,J⟩
theorem MK.grow (I:MK P k e w b n s h) (m:ao w w'):MK P k e w' b n s h:=I.keep m id
theorem MK.new {b:Nat} (I:aY (.map #[] 0) w b w'):MK P k e w' b 0 (fun _=>false) fun _=>false:=by
 obtain ⟨rfl,rfl⟩:=I;exact ⟨.map [],World.ownsMap_made w P k _,fun a=>rfl,fun a=>rfl⟩
theorem MK.cA (hm:rH P t k e=true) (I:MK P k e w b n s h) {a:Int} (ha:(Lit.int .i64 a).wf=true):(Instr.lookup t (.map (some b)) (.int .i64 a) true).run P w= .ok (.tuple #[.bool (s a),.bool (h a)]) w:=by
 obtain ⟨ht,J,he,U⟩:=ip hm;obtain ⟨D,I,Q,O⟩:=I;obtain ⟨v,ps,hr,hv⟩:=I.look_ok (int_keyed J) ht (U w) (plainElem_bool he false) (keyOf_int_mk J ha);rw [Q a] at hv;have:v= .bool (s a):=by
  unfold plainElem at hv;rw [he] at hv;cases v<;>simp_all
 rw [hr,this,O a]
theorem MK.put (hm:rH P t k e=true) (O:MK P k e w b n s h) (hn:n<maxLen) {a:Int} (ha:(Lit.int .i64 a).wf=true) (v:Bool):
 ∃w',(Instr.mapUpdate t (.map (some b)) (.int .i64 a) (.bool v)).run P w= .ok () w'/\MK P k e w' b (n+1) (fun u=>if u=a then v else s u) (fun u=>if u=a then true else h u)/\aF (·=b) w w':=by
 obtain ⟨ht,Q,he,Y⟩:=ip hm;obtain ⟨D,O,X,U⟩:=O;have I:=O.isMap;obtain ⟨w',hr,V,J⟩:=O.update (int_keyed Q) ht hn (keyOf_int_mk Q ha) (plainElem_bool (H:=Unit) he v);refine ⟨w',hr,⟨_,V,fun u=> ?_,fun u=> ?_⟩,⟨J.os,J.tape,J.output,J.size,fun i hi hn=>J.block i hi fun e=>hn (Option.some.inj e)⟩⟩
 . by_cases hu:u=a
   . subst hu;exact (atKey_put_same I (show WideAt.IsKeyLit (.int .i64 u) from trivial) _ _).trans (by simp)
   . exact ((atKey_put_other (fun e=>hu (by injection e)) _ _).trans (X u)).trans (by simp [hu])
 . by_cases hu:u=a
   . subst hu;exact (has_put_same I (show WideAt.IsKeyLit (.int .i64 u) from trivial) _).trans (by simp)
   . exact ((has_put_other (fun e=>hu (by injection e)) _).trans (U u)).trans (by simp [hu])
end Go.Fw
namespace Go.Proofs.YtenmibfmhccmiaaGreat.W.Le
open Go Go.Fw Go.RowKit Go.SoP Go.LiP Go.LeP
open Go.Proofs.Tryz (prog)
section
variable {W0 w w' W u:World} {p q:Option Addr} {n c m d ns b1 b2 b3 nb:Nat} {tr:List As} {l ld:List Int} {s h:Int->Bool}
def Cd (tr:List As) (ld:List Int) (lit x:Int):Bool:=x==lit||decide (lv tr x<=0)||decide (x∈ld)||mI tr ld x
theorem HR (ok:dN tr) {x:Int} (I:cL tr (am x)<tr.length):mI tr ld x=(!(aS tr (cL tr (am x))).rs.isEmpty && (aS tr (cL tr (am x))).rs.all (Cd tr ld (aS tr (cL tr (am x))).lit)):=D4 ok I
def F7 (tr:List As) (h:Int->Bool):Nat:=(List.range tr.length).countP fun i=>h (am (aS tr i).lit)
theorem AR {L:List Nat} {f g:Nat->Bool} {i:Nat} (hi:i∈L) (O:f i=false) (h1:g i=true) (hm: ∀j,f j=true->g j=true):L.countP f+1<=L.countP g:=by
 induction L with
 |nil=>simp at hi
 |cons a L ih=>
  rw [List.countP_cons,List.countP_cons];have J:L.countP f<=L.countP g:=List.countP_mono_left fun j _=>hm j;by_cases e:i=a
  . subst e;rw [O,h1];simp;omega
  . have:=ih ((List.mem_cons.1 hi).resolve_left e);have Q:(if f a=true then 1 else 0)<=(if g a=true then 1 else 0):=by
     by_cases I:f a=true
     . rw [if_pos I,if_pos (hm a I)];exact Nat.le_refl _
     . rw [if_neg I];omega
    omega
structure Kn (W0 w:World) (ns:Nat) (p:Option Addr) (n c:Nat) (tr:List As) (b1 b2 b3:Nat) (ld:List Int) (h:Int->Bool):Prop where
 S:wV W0 w ns p n c tr b1 b2
 M: ∃nb s,MS prog aC cO w b2 nb s/\∀x,s x=decide (x∈ld)
 K: ∃nk s,MK prog aC cO w b3 nk s h/\nk<=F7 tr h/\∀x,jJ tr x->h (am x)=true->s (am x)=mI tr ld x
 d1:b1≠b3
 d2:b2≠b3
 d3:ns≠b3
 f:W0.heap.size<=b3
theorem Kn.grow (k:Kn W0 w ns p n c tr b1 b2 b3 ld h) (m:ao w w'):Kn W0 w' ns p n c tr b1 b2 b3 ld h:=by
 obtain ⟨S,⟨nb,s,M,hs⟩,⟨O,J,K,I,hi⟩,d1,d2,d3,f⟩:=k;exact ⟨S.grow m,⟨nb,s,M.grow m,hs⟩,⟨O,J,K.grow m,I,hi⟩,d1,d2,d3,f⟩
theorem Kn.put (k:Kn W0 w ns p n c tr b1 b2 b3 ld h) {x:Int} (I:jJ tr x) (X:h (am x)=false):
 ∃w',(Instr.mapUpdate oP (.map (some b3)) (.int .i64 (am x)) (.bool (mI tr ld x))).run prog w= .ok () w'/\Kn W0 w' ns p n c tr b1 b2 b3 ld (fun u=>if u=am x then true else h u)/\aF (·=b3) w w':=by
 obtain ⟨S,⟨nb,s,M,hs⟩,⟨U,s2,K,Z,hi⟩,d1,d2,d3,f⟩:=k;have Q:F7 tr h<=tr.length:=by
  have:F7 tr h<=(List.range tr.length).length:=List.countP_le_length;simpa using this
 have hl:=S.hl;obtain ⟨w',hr,Y,m'⟩:=K.put jm (by unfold maxLen;omega) (nH I.qv) (mI tr ld x);refine ⟨w',hr,⟨S.keep m' (fun b (e:b=b3)=>by omega) (fun e=>d3 e) (fun e=>d1 e),⟨nb,s,M.keep m' (fun e=>d2 e),hs⟩,⟨U+1,_,Y,?_,fun y J O=> ?_⟩,d1,d2,d3,f⟩,m'⟩
 . have e0:am (aS tr (cL tr (am x))).lit=am x:=om I.lt;have:=AR (L:=List.range tr.length) (f:=fun i=>h (am (aS tr i).lit)) (g:=fun i=>if am (aS tr i).lit=am x then true else h (am (aS tr i).lit)) (i:=cL tr (am x)) (List.mem_range.2 I.lt) (by show h (am (aS tr (cL tr (am x))).lit)=false;rw [e0];exact X) (by rw [if_pos e0]) fun j V=>by
    show (if am (aS tr j).lit=am x then true else h (am (aS tr j).lit))=true;split
    . rfl
    . exact V
   have e1:F7 tr h=(List.range tr.length).countP fun i=>h (am (aS tr i).lit):=rfl;have e2:F7 tr (fun u=>if u=am x then true else h u)=(List.range tr.length).countP fun i=>if am (aS tr i).lit=am x then true else h (am (aS tr i).lit):=rfl
   omega
 . by_cases e:am y=am x
   . rw [if_pos e,J.am I e]
   . rw [if_neg e] at O ⊢;exact hi y J O
structure Zs (W u:World) (o:Option Nat):Prop where
 g:ao W u
 z: ∀nc,o=some nc->bA u nc #[.int .i64 0,.int .i64 0,.slice none 0 0]/\W.heap.size<=nc
theorem Zs.grow {o:Option Nat} (z:Zs W u o) {v:World} (g:ao u v):Zs W v o:=⟨z.g.trans g,fun nc e=> ⟨(z.z nc e).1.grow g,(z.z nc e).2⟩⟩
theorem Zs.new (z:Zs W u none) {nc:Nat} {v:World} (hn:aY (.cells #[.int .i64 0,.int .i64 0,.slice none 0 0] bQ) u nc v):Zs W v (some nc):=by
 refine ⟨z.g.trans hn.mod,fun k e=> ?_⟩;obtain rfl:nc=k:=Option.some.inj e;have:=z.g.size;have:=hn.num;exact ⟨hn.has,by omega⟩
theorem Zs.store {nc:Nat} (z:Zs W u (some nc)) {a b:Int} {J:Option Addr} {I sc:Nat} {K:World->Prop} (O: ∀v,bA v nc #[.int .i64 a,.int .i64 b,.slice J I sc]->ao W v->W.heap.size<=nc->K v):
 ∃v,ah (Addr.mk nc 0 none) 0 [.int .i64 a,.int .i64 b,.slice J I sc] u v/\K v:=by
 obtain ⟨H,hf⟩:=z.z nc rfl;exact bj H rfl rfl fun v Q m=>O v Q (aF.bV z.g m hf) hf
theorem Gi: ∀ (n0:Nat) {w:World} {x:Int} {h:Int->Bool},Kn W0 w ns p n c tr b1 b2 b3 ld h->jJ tr x->cL tr (am x)=n0->
 Calls prog fH.id #[.pointer (some ⟨ns,0,none⟩),.int .i64 x,.map (some b3)] w fun e w'=>e= .returned (.bool (mI tr ld x))/\∃h',Kn W0 w' ns p n c tr b1 b2 b3 ld h'/\(∀v,h v=true->h' v=true)/\(∀v,h' v=true->h v=true\/cL tr v<=n0)/\aF (·=b3) w w':=by
 intro n0
 induction n0 using Nat.strongRecOn with
 |_ n0 ih=>
 intro w x h k hB ce;subst ce;refine fH.ak ?_;have d':=cx hB.qv;refine (cK (by omega) (by omega) w).mono ?_;rintro e w1 ⟨rfl,g1⟩;have U:=k.grow g1;obtain ⟨nk,s,K,hk,hi⟩:=U.K;refine ⟨_,rfl,w1,_,_,K.cA jm (nH hB.qv),aj (fun r=> ?_) (fun rK=> ?_)⟩
 . refine ⟨?_,h,U,fun v hv=>hv,fun v hv=> .inl hv,g1.mono fun _ _ e=>e.elim⟩;rw [hi x hB r]
 have Z:=U.grow (aF.refl w1).drew;have G2:ao w w1.drew:=g1.trans (aF.refl w1).drew;clear K hk hi U;generalize w1.drew=W at Z G2;have hl:=Z.S.hl;have ok:=Z.S.ok;have Z0:Zs W W none:=⟨aF.refl _,fun nc e=>by simp at e⟩
 have bb: ∀ {u:World} {o:Option Nat} {Q:Ending->World->Prop},Zs W u o->(∀v,Zs W v o->Q (.returned (.int .i64 (am x))) v)->Calls prog co.id #[.int .i64 x] u Q:=fun {u o Q} z hQ=>by
  refine (cK (by omega) (by omega) u).mono ?_;rintro e v ⟨rfl,g⟩;exact hQ v (z.grow g)
 have cA: ∀ {u:World} {o:Option Nat},Zs W u o->(Instr.lookup ie (.map (some b1)) (.int .i64 (am x)) false).run prog u= .ok (.int .i64 (tP tr (am x))) u:=fun z=> (Z.S.M.grow z.g).cA jt (nH hB.qv);obtain ⟨aT,O,eT,cT,e1,e2,vT⟩:=Z.S.tv _ hB.lt;have xy:=HR (ld:=ld) ok hB.lt;have a_:=fun hr=>ok.dY hB.lt hr;have ix: ∀ {P:Addr->Prop},(∀a,(∀ {u:World} {o:Option Nat},Zs W u o->aB u a 0 [.int .i64 (aS tr (cL tr (am x))).lit,.int .i64 (aS tr (cL tr (am x))).bi,.slice O.p O.n O.c])->P a)->aP p n (IntKind.i64.wrap (tP tr (am x) - 1)) 3 P:=fun hP=>by
  rw [lK hl hB.lt];have hn:=Z.S.hn;have cg:=hB.lt;refine ⟨aT,eT,by omega,by omega,hP _ fun z=> ?_⟩;rw [Int.toNat_natCast];exact aB.keep (Z.S.G.trans z.g) id cT
 generalize dk:(aS tr (cL tr (am x))).rs=rs at*
 generalize cg:(aS tr (cL tr (am x))).lit=J at*
 generalize c7:(aS tr (cL tr (am x))).bi=y0 at*
 refine ⟨fun a v=> ∃nc,a=⟨nc,0,none⟩/\bA v nc #[.int .i64 J,.int .i64 y0,.slice O.p O.n O.c]/\ao W v/\W.heap.size<=nc,⟨ao W,aF.refl _,_,rfl,_,_,_,fun u V=>ae (Z.S.h.grow V) rfl,_,rfl,_,fun u V=>ae (Z.S.h.grow V) rfl,?_⟩,?_⟩
 . have zn: ∀ {u:World},ao W u->Zs W u none:=fun V=> ⟨V,fun nc e=>by simp at e⟩
   have st: ∀ {u:World} {nc:Nat},Zs W u (some nc)->∃v,ah (Addr.mk nc 0 none) 0 [.int .i64 J,.int .i64 y0,.slice O.p O.n O.c] u v/\∃ap,(Addr.mk nc 0 none)=⟨ap,0,none⟩/\bA v ap #[.int .i64 J,.int .i64 y0,.slice O.p O.n O.c]/\ao W v/\W.heap.size<=ap:=fun z=>z.store fun v H g hf=> ⟨_,rfl,H,g,hf⟩
   refine ⟨bb Z0 fun v z=> ⟨_,rfl,z.g,⟨v,_,cA z,z.g,ix fun a ca=> ⟨_,_,_,_,_,fun u V=>ca (zn V),fun nc v2 hn=> ⟨(z.new hn).g,st (z.new hn)⟩⟩⟩,fun nc v2 hn=> ⟨(z.new hn).g,v2,_,cA (z.new hn),(z.new hn).g,ix fun a ca=> ⟨_,_,_,_,_,fun u V=>ca (zn V),st (z.new hn)⟩⟩⟩,fun nc v2 hn=> ⟨(Z0.new hn).g,bb (Z0.new hn) fun v z=> ⟨_,rfl,z.g,v,_,cA z,z.g,ix fun a ca=> ⟨_,_,_,_,_,fun u V=>ca (zn V),st z⟩⟩⟩⟩
 rintro c3 v _ ⟨nc,rfl,H,G,hf⟩;obtain ⟨nk,s,K,_,_⟩:=Z.K;have lk:=K.lt;refine ⟨_,_,_,ae H rfl,_,_,_,ae H rfl,?_⟩;refine ⟨fun is I u z=> ∃ (t:Nat) (h1:Int->Bool),I=t/\t<=rs.length/\z=rs.length - t/\is=(!rs.isEmpty && (rs.take t).all (Cd tr ld J))/\Kn W0 u ns p n c tr b1 b2 b3 ld h1/\(∀v,h v=true->h1 v=true)/\(∀v,h1 v=true->h v=true\/cL tr v<cL tr (am x))/\bA u nc #[.int .i64 J,.int .i64 y0,.slice O.p O.n O.c]/\aF (·=b3) w u,
  ⟨_,0,h,rfl,Nat.zero_le _,rfl,?_,Z.grow G,fun v hv=>hv,fun v hv=> .inl hv,H,(G2.trans G).mono fun _ _ e=>e.elim⟩,?_⟩
 . rw [e1];cases rs<;>simp
 clear H G K;rintro is I a7 z _ ⟨t,h1,rfl,ht,rfl,rfl,U,an,Y,H,mm⟩;refine aj (fun r=> ?_) (fun r=> ?_)
 . have r:t<rs.length:=by simp at r;omega
   have ay:rs≠[]:=fun e=>by rw [e] at r;simp at r
   obtain ⟨rl,rm,rb⟩:=a_ ay;have b_:rs.isEmpty=false:=List.isEmpty_eq_false_iff.2 ay;rw [b_];have et:(rs.take (t+1)).all (Cd tr ld J)=((rs.take t).all (Cd tr ld J) && Cd tr ld J (rs.getD t 0)):=by
    have:rs[t]? =some (rs.getD t 0):=by simp [List.getD,r]
    rw [List.take_add_one,this,List.all_append];simp
   refine (vT.grow U.S.G).ix 0 (by omega) e1 (by omega) fun a e=> ⟨_,e,?_⟩
   rw [Int.toNat_natCast];refine ⟨fun v u=>u=a7/\v=((rs.take t).all (Cd tr ld J) && (rs.getD t 0 !=J)),?_,?_⟩
   . refine aj (fun r2=> ⟨_,ae H rfl,rfl,?_⟩) (fun r2=> ⟨rfl,?_⟩)
     . have r2:(rs.take t).all (Cd tr ld J)=true:=by simpa using r2
       rw [r2];rfl
     . have r2:(rs.take t).all (Cd tr ld J)=false:=by simpa using r2
       rw [r2];rfl
   rintro ef bx _ ⟨rfl,rfl⟩;refine aj (fun r3=> ?_) (fun r3=> ⟨_,?_,t+1,h1,wN (by omega) (by omega),by omega,rfl,?_,U,an,Y,H,mm⟩)
   . rw [Bool.and_eq_true] at r3;obtain ⟨r2,r3⟩:=r3;rw [r2] at et;have aw: ∀ {u:World},ao bx u->Cd tr ld J (rs.getD t 0)=true->∃az,az<rs.length - t/\∃ (t2:Nat) (h1:Int->Bool),IntKind.i64.wrap ((t:Int)+1)=t2/\t2<=rs.length/\az=rs.length - t2/\true=(!false && (rs.take t2).all (Cd tr ld J))/\Kn W0 u ns p n c tr b1 b2 b3 ld h1/\(∀v,h v=true->h1 v=true)/\(∀v,h1 v=true->h v=true\/cL tr v<cL tr (am x))/\bA u nc #[.int .i64 J,.int .i64 y0,.slice O.p O.n O.c]/\aF (·=b3) w u:=fun g hp=>
      ⟨_,by omega,t+1,h1,wN (by omega) (by omega),by omega,rfl,by rw [et,hp];rfl,U.grow g,an,Y,H.grow g,mm.grow g⟩
     have r3:rs.getD t 0≠J:=by simpa using r3
     obtain ⟨ag,bc⟩:=rb _ (bo r) r3;have ei:=DR ok hl ag;refine (vU U.S ag).mono ?_;rintro e cm ⟨rfl,X⟩;refine ⟨_,rfl,aj (fun r4=>aw X (by unfold Cd;rw [decide_eq_true (show lv tr (rs.getD t 0)<=0 by have:=beq_iff_eq.1 r4;omega)];simp)) (fun r4=> ?_)⟩;have ar:=U.grow X;obtain ⟨nb,s2,M2,cp⟩:=ar.M;have av:=M2.cA jm (Cn ag.qv);rw [cp] at av;refine ⟨_,rfl,_,ae ar.S.h rfl,cm,_,av,aj (fun r5=>aw X (by unfold Cd;rw [r5];simp)) (fun r5=> ?_)⟩;refine (ih _ bc ar ag rfl).mono ?_;rintro e eg ⟨rfl,h2,b6,cb,b5,a8⟩;have dp:=G2.size;refine ⟨_,rfl,_,?_,t+1,h2,wN (by omega) (by omega),by omega,rfl,?_,b6,fun v hv=>cb v (an v hv),fun v hv=> ?_,(H.grow X).keep a8 fun (e:nc=b3)=>by omega,(mm.grow X).trans a8⟩
     . omega
     . rw [et];unfold Cd;rw [show (rs.getD t 0==J)=false by simpa using r3,decide_eq_false (show ¬lv tr (rs.getD t 0)<=0 by have:=beq_eq_false_iff_ne.1 r4;omega),r5];simp
     . rcases b5 v hv with e|e
       . exact Y v e
       . exact .inr (by omega)
   . omega
   . rw [et];cases e:(rs.take t).all (Cd tr ld J) with
     |false=>rfl
     |true=>
      rw [e] at r3;have r4:rs.getD t 0=J:=by simpa using r3
      rw [r4];unfold Cd;simp
 . have r:t=rs.length:=by simp at r;omega
   subst r;rw [List.take_length,<- xy];refine (cK (by omega) (by omega) a7).mono ?_;rintro e d5 ⟨rfl,a6⟩;have h0:h1 (am x)=false:=by
    cases e:h1 (am x) with
    |false=>rfl
    |true=>
     rcases Y _ e with e|e
     . rw [rK] at e;simp at e
     . omega
   obtain ⟨c0,hr,bY,c2⟩:=(U.grow a6).put hB h0;refine ⟨_,rfl,c0,hr,rfl,_,bY,fun v hv=> ?_,fun v hv=> ?_,(mm.grow a6).trans c2⟩
   . show (if v=am x then true else h1 v)=true;split
     . rfl
     . exact an v hv
   . by_cases e:v=am x
     . right;rw [e];exact Nat.le_refl _
     . have hv:(if v=am x then true else h1 v)=true:=hv;rw [if_neg e] at hv;rcases Y v hv with e|e
       . exact .inl e
       . right;omega
end
section
variable {W0 w w' W u:World} {p q:Option Addr} {n c m d ns b1 b2 b3 nb:Nat} {tr:List As} {l ld:List Int} {s h:Int->Bool}
theorem Kn.keep {S:Nat->Prop} (k:Kn W0 w ns p n c tr b1 b2 b3 ld h) (m:aF S w w') (X: ∀b,S b->W0.heap.size<=b) (h1: ¬S ns) (V: ¬S b1) (O: ¬S b2) (Q: ¬S b3):Kn W0 w' ns p n c tr b1 b2 b3 ld h:=by
 obtain ⟨S,⟨nb,s,M,hs⟩,⟨U,J,K,I,hi⟩,d1,d2,d3,f⟩:=k;exact ⟨S.keep m X h1 V,⟨nb,s,M.keep m O,hs⟩,⟨U,J,K.keep m Q,I,hi⟩,d1,d2,d3,f⟩
def sh (tr:List As) (ld:List Int):List Int->List Int
 | []=> []
 |x::t=>x::t.filter fun y=>decide (0<lv tr y) && !mI tr ld y
theorem La:sh tr ld ld=shr tr ld:=by cases ld<;>rfl
theorem IB {k:List Int} {t:Nat} (h:t<k.length):sh tr ld (k.take (t+1))=sh tr ld (k.take t)++ (if t=0\/(decide (0<lv tr (k.getD t 0)) && !mI tr ld (k.getD t 0))=true then [k.getD t 0] else []):=by
 cases k with
 |nil=>simp at h
 |cons x k=>
  cases t with
  |zero=>simp [sh]
  |succ t=>
   have J:t<k.length:=by simpa using h
   have e:(x::k).getD (t+1) 0=k.getD t 0:=by simp
   rw [e,List.take_succ_cons,List.take_succ_cons];show x::_=(x::_)++_;rw [mg J,List.cons_append];congr 2;by_cases I:(decide (0<lv tr (k.getD t 0)) && !mI tr ld (k.getD t 0))=true
   . rw [if_pos I,if_pos (.inr I)]
   . rw [if_neg I,if_neg (by rintro (e|e);omega;exact I e)]
theorem Lz (k:List Int):(sh tr ld k).length<=k.length:=by
 cases k with
 |nil=>exact Nat.le_refl _
 |cons x t=>simp [sh];exact List.length_filter_le _ _
def K8 (w J:World) (O:Nat) (p:Option Addr) (n c:Nat) (tr:List As) (b Q U:Nat) (ld:List Int) (P:Option Addr) (N C:Nat) (I:Int) (u:World) (z:Nat):Prop:=
 ∃ (t:Nat) (h:Int->Bool),I=t/\t<=ld.length/\z=ld.length - t/\N=(sh tr ld (ld.take t)).length/\da aC u P C (sh tr ld (ld.take t))/\(∀b,aJ P=some b->J.heap.size<=b)/\Kn w u O p n c tr b Q U ld h/\J.heap.size<=u.heap.size
theorem tQ (h:TV w p tr) (hn:n=tr.length) (an:pH tr=true) (hq:Vw (Value.int .i64) w q ld) (hk:m=ld.length) (hx:m<=100000) (hb: ∀x∈ld,jJ tr x):
 Calls prog iN.id #[.slice p n c,.slice q m d] w fun e w'=> ∃ (q2:Option Addr) (d2:Nat),e= .returned (.slice q2 (shr tr ld).length d2)/\da aC w' q2 d2 (shr tr ld)/\ao w w'/\∀b,aJ q2=some b->w.heap.size<=b:=by
 refine iN.ak ?_;obtain ⟨ok,hl⟩:=oB an;refine (rN h hn).mono ?_;rintro e w1 ⟨rfl,g1⟩;refine ⟨_,rfl,bm (by rw [an];rfl) ?_⟩;refine (sR (h.grow g1) hn ok hl (hq.grow g1) hk (by unfold maxLen;omega) fun x hx=> (hb x hx).qv).mono ?_;rintro e w5 ⟨rfl,g5⟩;refine ⟨_,rfl,bm (by rw [kN.2 hb];rfl) ?_⟩;have G5:=g1.trans g5;refine (np (h.grow G5) hn ok hl).mono ?_;rintro e w9 ⟨b,rfl,M9,g9,fb⟩;refine ⟨_,rfl,fun J dp ac Q a_ X=> ?_⟩;have di:=ac.num;have ea:=X.num;have s5:=G5.size;have s9:=g9.size;have ed:=ac.size;have c7:=X.size;have lb:=M9.lt;have bY:wV w a_ Q p n c tr b J:=⟨h,hn,ok,hl,((G5.trans g9).trans ac.mod).trans X.mod,X.has,(M9.grow ac.mod).grow X.mod,by omega,by omega,by omega⟩
 have b7:MS prog aC cO a_ J 0 fun _=>false:=(MS.new ac).grow X.mod;refine (qH bY b7 hq hk (by omega) (fun x hx=> (hb x hx).qv) 0).mono ?_;rintro e dT ⟨rfl,ag,a7,b',_,a6,a'⟩;refine ⟨rfl,fun U V aa=> ?_⟩;have dw:=aa.num;have c3:=aa.size;have dd:=a6.lt;have ce:=ag.M.lt;have c0:=ag.h.lt;have sG:=ag.G.size;have b_:Kn w V Q p n c tr b J U ld fun _=>false:=by
  refine ⟨ag.grow aa.mod,⟨a7,b',a6.grow aa.mod,fun x=> ?_⟩,⟨0,_,MK.new aa,Nat.zero_le _,fun x _ e=>by simp at e⟩,by omega,by omega,by omega,by omega⟩;rw [a' x,Bool.false_or];refine decide_eq_decide.2 ⟨fun h=>h.1,fun h=> ⟨h,fun e=> ?_⟩⟩;have:=cx (hb x h).qv;exact this.1 e
 refine ⟨K8 w V Q p n c tr b J U ld,⟨_,0,_,rfl,Nat.zero_le _,rfl,rfl,Ow.nil _ _ _,fun b hb=>by simp [aJ] at hb,b_,Nat.le_refl _⟩,?_⟩;rintro P N C I du z _ ⟨t,hh,rfl,ht,rfl,rfl,O,fr,K,b8⟩;refine aj (fun r=> ?_) (fun r=> ?_)
 . have r:t<ld.length:=by simp at r;omega
   have hlen:=Lz (tr:=tr) (ld:=ld) (ld.take t);have d9:=List.length_take_le t ld;refine (hq.grow K.S.G).ix 0 (by omega) hk (by omega) fun a e=> ⟨_,e,?_⟩
   rw [Int.toNat_natCast];have hB:=hb _ (bo r);have es:=IB (tr:=tr) (ld:=ld) r;have c1:=K.S.h.lt;have mN: ∀ {u:World} {hh:Int->Bool},da aC u P C (sh tr ld (ld.take t))->Kn w u Q p n c tr b J U ld hh->V.heap.size<=u.heap.size->(t=0\/(decide (0<lv tr (ld.getD t 0)) && !mI tr ld (ld.getD t 0))=true)->∀n26 ay,aY (.cells #[.int .i64 (ld.getD t 0)] 3) u n26 ay->
    ∃ax av ap aw,(Builtin.append_ #[aI,aI] aI #[.slice P (sh tr ld (ld.take t)).length C,.slice (some (Addr.mk n26 0 none)) 1 1]).run prog ay= .ok (.slice av ap aw) ax/\
    ∃Z,Z<ld.length - t/\K8 w V Q p n c tr b J U ld av ap aw (IntKind.i64.wrap ((t:Int)+ (1:Int))) ax Z:=by
    intro u hh O K zu hc n26 ay ad;rw [if_pos hc] at es;have dc:=ad.num;have d5:=ad.size;refine (O.grow ad.mod).mF c4 _ ad.has rfl rfl eV (by omega) fun ax p' c' o' m' cc c2=> ?_;refine ⟨_,?_,t+1,hh,wN (by omega) (by omega),by omega,rfl,by rw [es,List.length_append];rfl,by rw [es];exact o',fun b hb=> ?_,(K.grow ad.mod).keep m' (fun b e=> ?_) (fun e=> ?_) (fun e=> ?_) (fun e=> ?_) (fun e=> ?_),by omega⟩
    . omega
    . rcases cc with rfl|rfl
      . exact fr b hb
      . have:=aO hb;omega
    all_goals
     have:=fr _ e;omega
   have skip: ∀ {u:World} {hh:Int->Bool},da aC u P C (sh tr ld (ld.take t))->Kn w u Q p n c tr b J U ld hh->V.heap.size<=u.heap.size->¬(t=0\/(decide (0<lv tr (ld.getD t 0)) && !mI tr ld (ld.getD t 0))=true)->
    ∃Z,Z<ld.length - t/\K8 w V Q p n c tr b J U ld P (sh tr ld (ld.take t)).length C (IntKind.i64.wrap ((t:Int)+ (1:Int))) u Z:=by
    intro u hh O K zu hc;rw [if_neg hc,List.append_nil] at es;exact ⟨_,by omega,t+1,hh,wN (by omega) (by omega),by omega,rfl,by rw [es],by rw [es];exact O,fr,K,zu⟩
   refine aj (fun r2=>mN O K b8 (.inl (by simp at r2;omega))) (fun r2=> ?_);have r2:t≠0:=by intro e;subst e;simp at r2
   refine (vU K.S hB).mono ?_;rintro e dk ⟨rfl,Y⟩;have d4:=Y.size;refine ⟨_,rfl,aj (fun r3=> ?_) (fun r3=>skip (O.grow Y) (K.grow Y) (by omega) fun e=>by rcases e with e|e;exact r2 e;rw [Bool.and_eq_true] at e;rw [e.1] at r3;simp at r3)⟩;refine (Gi _ (K.grow Y) hB rfl).mono ?_;rintro e d' ⟨rfl,h2,bb,_,_,a8⟩;have ec:=a8.size;have bc:=(O.grow Y).keep a8 fun b hb (e:b=U)=>by have:=fr b hb;omega
   refine ⟨_,rfl,aj (fun r4=>mN bc bb (by omega) (.inr ?_)) (fun r4=>skip bc bb (by omega) fun e=> ?_)⟩
   . rw [Bool.and_eq_true];exact ⟨r3,r4⟩
   . rcases e with e|e
     . exact r2 e
     . rw [Bool.and_eq_true] at e;rw [e.2] at r4;simp at r4
 . have r:t=ld.length:=by simp at r;omega
   subst r;rw [List.take_length,La] at O ⊢;exact ⟨_,_,rfl,O,K.S.G,fun b hb=>by have:=fr b hb;omega⟩
theorem IW {k:List Int} {t:Nat} (h:t<k.length):imax (mK tr (k.take t)) (lv tr (k.getD t 0))=mK tr (k.take (t+1)):=by
 rw [FT h];rfl
theorem zV (h:TV w p tr) (hn:n=tr.length) (J:pH tr=true) (hq:Vw (Value.int .i64) w q ld) (hk:m=ld.length) (hx:m<=100000) (hd:m<=d) (hb: ∀x∈ld,jJ tr x):
 Calls prog lF.id #[.slice p n c,.slice q m d] w fun e w'=>e= .returned (.int .i64 (if ld.isEmpty then -1 else mK tr (ld.drop 1)))/\ao w w':=by
 refine lF.ak ?_;obtain ⟨ok,hl⟩:=oB J;refine (rN h hn).mono ?_;rintro e w1 ⟨rfl,U⟩;refine ⟨_,rfl,bm (by rw [J];rfl) (aj (fun r=> ?_) (fun r=> ?_))⟩
 . have:ld= []:=List.eq_nil_of_length_eq_zero (by simp at r;omega);subst this;exact ⟨rfl,U⟩
 have Q:0<ld.length:=by
  rcases Nat.eq_zero_or_pos ld.length with e|e
  . rw [hk,e] at r;simp at r
  . exact e
 refine (sR (h.grow U) hn ok hl (hq.grow U) hk (by unfold maxLen;omega) fun x hx=> (hb x hx).qv).mono ?_;rintro e w3 ⟨rfl,g3⟩;refine ⟨_,rfl,bm (by rw [kN.2 hb];rfl) ?_⟩;have G3:=U.trans g3;refine (np (h.grow G3) hn ok hl).mono ?_;rintro e w5 ⟨b,rfl,M5,g5,fb⟩;refine ⟨_,rfl,fe 1 m d rfl rfl rfl (Nat.le_refl _) hd (by omega) ?_⟩;have ac:ld.isEmpty=false:=by cases ld<;>simp at Q ⊢
 rw [ac];have X:=G3.trans g5;have aa:(ld.drop 1).length=m - 1:=by rw [List.length_drop];omega
 have V5:Vw (Value.int .i64) w5 (if d=1 then q else q.map (·.add (1*1))) (ld.drop 1):=by
  by_cases e:d=1
  . have:ld.drop 1= []:=List.eq_nil_of_length_eq_zero (by omega);rw [this];exact Vw.nil
  . rw [if_neg e];have:=(hq.grow X).part (i:=1) (m:=m - 1) (by omega)
    rwa [List.take_of_length_le (by omega)] at this
 refine ⟨fun L I u z=> ∃t:Nat,I=t/\t<=(ld.drop 1).length/\z=(ld.drop 1).length - t/\L=mK tr ((ld.drop 1).take t)/\ao w5 u,⟨_,0,rfl,Nat.zero_le _,rfl,rfl,aF.refl _⟩,?_⟩;rintro L I Z z _ ⟨t,rfl,ht,rfl,rfl,G⟩;refine aj (fun r=> ?_) (fun r=> ?_)
 . have r:t< (ld.drop 1).length:=by simp at r ⊢;omega
   refine (V5.grow G).ix 0 (by omega) aa.symm (by omega) fun a e=> ⟨_,e,?_⟩
   rw [Int.toNat_natCast];have V:=hb _ (List.mem_of_mem_drop (bo r));have ax:=cx V.qv;refine (cK (by omega) (by omega) Z).mono ?_;rintro e Y ⟨rfl,O⟩;refine ⟨_,rfl,Y,_,(M5.grow (G.trans O)).cA jt (nH V.qv),?_⟩;rw [lK hl V.lt];refine (h.grow ((X.trans G).trans O)).ix hn _ rfl V.lt fun a x C e1 e2 v=> ⟨_,C.2.1,_,?_,t+1,wN (by omega) (by omega),by omega,rfl,?_,G.trans O⟩
   . omega
   . exact IW r
 . have r:t=(ld.drop 1).length:=by simp at r ht ⊢;omega
   subst r;rw [List.take_length];exact ⟨rfl,X.trans G⟩
theorem wv (h:TV w p tr) (hn:n=tr.length) (O:pH tr=true) (hq:Vw (Value.int .i64) w q ld) (hk:m=ld.length) (hx:m<=100000) (hb: ∀x∈ld,jJ tr x):
 Calls prog jj.id #[.slice p n c,.slice q m d] w fun e w'=> ∃v:Int,e= .returned (.int .i64 v)/\(0<=v/\v<=m)/\ao w w':=by
 refine jj.ak ?_;obtain ⟨ok,hl⟩:=oB O;refine (rN h hn).mono ?_;rintro e w1 ⟨rfl,Y⟩;refine ⟨_,rfl,bm (by rw [O];rfl) ?_⟩;refine (np (h.grow Y) hn ok hl).mono ?_;rintro e w3 ⟨b,rfl,M3,g3,fb⟩;refine ⟨_,rfl,fun n5 w6 X=> ?_⟩;have s1:=Y.size;have s3:=g3.size;have e5:=X.num;have lb:=M3.lt;refine ⟨fun I u z=> ∃ (t nb:Nat) (s:Int->Bool),I=t/\t<=ld.length/\z=ld.length - t/\nb<=t/\MS prog aC cO u n5 nb s/\MI prog aC aC u b tr.length (tP tr)/\ao w u,⟨_,0,0,_,rfl,Nat.zero_le _,rfl,Nat.le_refl _,MS.new X,M3.grow X.mod,(Y.trans g3).trans X.mod⟩,?_⟩;rintro I ag z _ ⟨t,nb,s,rfl,ht,rfl,az,M,Z,G⟩;refine aj (fun r=> ?_) (fun r=> ?_)
 . have r:t<ld.length:=by simp at r;omega
   refine (hq.grow G).ix 0 (by omega) hk (by omega) fun a e=> ⟨_,e,?_⟩
   rw [Int.toNat_natCast];have V:=hb _ (bo r);have ay:=cx V.qv;refine (cK (by omega) (by omega) ag).mono ?_;rintro e aa ⟨rfl,J⟩;have U:=DR ok hl V;refine ⟨_,rfl,aa,_,(Z.grow J).cA jt (nH V.qv),aj (fun r2=> ?_) (fun r2=> ?_)⟩
   . rw [lK hl V.lt];refine (h.grow (G.trans J)).ix hn _ rfl V.lt fun a x C e1 e2 v=> ⟨_,C.2.1,?_⟩
     obtain ⟨ad,hr,ac,Q⟩:=(M.grow J).put jm (by unfold maxLen;omega) (a:=(aS tr (cL tr (am (ld.getD t 0)))).bi) (xk (by unfold lv at U;omega) (by unfold lv at U;omega));refine ⟨ad,hr,_,?_,t+1,nb+1,_,wN (by omega) (by omega),by omega,rfl,by omega,ac,(Z.grow J).keep Q fun (e:b=n5)=>by omega,aF.bV (G.trans J) Q (by omega)⟩;omega
   . exact ⟨_,by omega,t+1,nb,s,wN (by omega) (by omega),by omega,rfl,by omega,M.grow J,Z.grow J,G.trans J⟩
 . have r:t=ld.length:=by simp at r;omega
   obtain ⟨c',aw,hr⟩:=M.len jm 3;exact ⟨_,hr,_,rfl,⟨by omega,by omega⟩,G⟩
end
end Go.Proofs.YtenmibfmhccmiaaGreat.W.Le
namespace Go.RedP
open Go.SoP
abbrev Lr:=Int × Int × Bool
def aS (l:List Lr) (x:Int):Lr:=l.getD x.toNat (0,0,false)
def BP (x:Lr):Bool:=decide (0<=x.2.1/\x.2.1<=4096/\0<=x.1/\x.1<=x.2.1)
def eU (x:Lr):Bool:=x.2.2||decide (x.1<=2)
def yA (l:List Lr) (a b:Int):Int:=
 if (aS l a).1≠(aS l b).1 then (aS l a).1 - (aS l b).1 else if (aS l a).2.1≠(aS l b).2.1 then (aS l a).2.1 - (aS l b).2.1 else b - a
def sB (l:List Lr) (a b:Int):Bool:=
 if (aS l a).1≠(aS l b).1 then decide ((aS l a).1< (aS l b).1) else if (aS l a).2.1≠(aS l b).2.1 then decide ((aS l a).2.1< (aS l b).2.1) else decide (a>b)
theorem xR (l:List Lr) (a b:Int):sB l a b=decide (yA l a b<0):=by
 unfold sB yA;split
 . exact decide_eq_decide.2 (by omega)
 . split
   . exact decide_eq_decide.2 (by omega)
   . exact decide_eq_decide.2 (by omega)
theorem zg (l:List Lr):Ord (yA l):=by
 constructor
 . intro x y h;unfold yA at*
   split at h<;>split<;> (try split at h)<;> (try split)<;>omega
 . intro x y z h1 I;unfold Le yA at*
   generalize aS l x=a at*
   generalize aS l y=b at*
   generalize aS l z=d at*
   split at h1<;>split at I<;>split<;> (try split at h1)<;> (try split at I)<;> (try split)<;>omega
theorem K3 {l:List Lr} {a b:Int} (h:Le (yA l) a b) (I:a≠b):yA l a b<0:=by
 unfold Le yA at h;unfold yA;split at h<;>split<;> (try split at h)<;> (try split)<;>omega
def qP (n:Nat):List Int:=(List.range n).map Int.ofNat
theorem kM (n:Nat):(qP n).length=n:=by simp [qP]
theorem uk {n:Nat} {x:Int}:x∈qP n↔0<=x/\x<n:=by
 simp only [qP,List.mem_map,List.mem_range];constructor
 . rintro ⟨i,h,rfl⟩;exact ⟨Int.natCast_nonneg i,by simpa using h⟩
 . intro h;exact ⟨x.toNat,by omega,by show ((x.toNat:Nat):Int)=x;omega⟩
theorem E6 (n:Nat):(qP n).Nodup:=by
 unfold qP;exact List.Pairwise.map _ (fun a b h e=>h (Int.ofNat.inj e)) List.nodup_range
def Gk (l:List Lr) (x:Int) (all:Bool):Nat:=(qP l.length).countP fun i=>i !=x && (all|| !eU (aS l i)) && sB l i x
def iD (l:List Lr):Nat:=(qP l.length).countP fun i=> !eU (aS l i)
def keep (l:List Lr) (x:Int):Bool:=eU (aS l x)||decide (Gk l x false<iD l / 2)
def oN (l:List Lr) (o:List Int) (t:Nat):Nat:=(o.take t).countP fun i=> !eU (aS l i)
structure xV (l:List Lr) (o:List Int):Prop where
 pm:o.Perm (qP l.length)
 so:rz (yA l) o 0 o.length
theorem xV.len {l:List Lr} {o:List Int} (h:xV l o):o.length=l.length:=by rw [h.pm.length_eq,kM]
theorem xV.nd {l:List Lr} {o:List Int} (h:xV l o):o.Nodup:=h.pm.nodup_iff.2 (E6 _)
theorem xV.OJ {l:List Lr} {o:List Int} (h:xV l o) {t:Nat} (ht:t<o.length):0<=o.getD t 0/\o.getD t 0<l.length:=by
 have:o.getD t 0∈o:=by simp [List.getD,ht]
 exact uk.1 (h.pm.mem_iff.1 this)
theorem ry {o:List Int} (h:o.Nodup) {i j:Nat} (hi:i<o.length) (I:j<o.length) (e:o.getD i 0=o.getD j 0):i=j:=by
 simp only [List.getD,List.getElem?_eq_getElem hi,List.getElem?_eq_getElem I,Option.getD_some] at e;exact (List.getElem_inj h).1 e
theorem xV.find {l:List Lr} {o:List Int} (h:xV l o) {x:Int} (I:0<=x) (h1:x<l.length): ∃t,t<o.length/\o.getD t 0=x:=by
 have:x∈o:=h.pm.mem_iff.2 (uk.2 ⟨I,h1⟩);obtain ⟨t,ht,e⟩:=List.mem_iff_getElem.1 this;exact ⟨t,ht,by simp [List.getD,ht,e]⟩
theorem xV.lt {l:List Lr} {o:List Int} (h:xV l o) {i j:Nat} (I:i<j) (J:j<o.length):sB l (o.getD i 0) (o.getD j 0)=true/\sB l (o.getD j 0) (o.getD i 0)=false:=by
 have hs:=h.so i j (Nat.zero_le _) I J;rw [xR,xR];refine ⟨decide_eq_true (K3 hs fun e=> ?_),decide_eq_false hs⟩;have:=ry h.nd (by omega) J e;omega
theorem tY {o:List Int} {i:Nat} (hi:i<o.length):o[i]=o.getD i 0:=by simp [List.getD,hi]
theorem xV.Gk {l:List Lr} {o:List Int} (h:xV l o) {t:Nat} (ht:t<o.length) (all:Bool):
 Gk l (o.getD t 0) all=(o.take t).countP fun i=>all|| !eU (aS l i):=by
 unfold RedP.Gk;rw [<- h.pm.countP_eq];have Q: ∀q:Int->Bool,o.countP q=(o.take t).countP q+ (o.drop t).countP q:=fun q=>by rw [<- List.countP_append,List.take_append_drop]
 rw [Q];have U:(o.drop t).countP (fun i=>i !=o.getD t 0 && (all|| !eU (aS l i)) && sB l i (o.getD t 0))=0:=by
  rw [List.countP_eq_zero];intro x I;obtain ⟨j,O,rfl⟩:=List.mem_iff_getElem.1 I;rw [List.getElem_drop,tY];rw [List.length_drop] at O;rcases Nat.eq_zero_or_pos j with e|e
  . subst e;simp
  . rw [(h.lt (i:=t) (j:=t+j) (by omega) (by omega)).2];simp
 rw [U,Nat.add_zero];refine List.countP_congr fun x I=> ?_;obtain ⟨j,O,rfl⟩:=List.mem_iff_getElem.1 I;rw [List.length_take] at O;rw [List.getElem_take,tY];have J:o.getD j 0≠o.getD t 0:=fun e=>by have:=ry h.nd (by omega) ht e;omega
 rw [(h.lt (i:=j) (j:=t) (by omega) ht).1,show (o.getD j 0 !=o.getD t 0)=true from bne_iff_ne.2 J];simp
theorem xV.keep {l:List Lr} {o:List Int} (h:xV l o) {t:Nat} (ht:t<o.length):keep l (o.getD t 0)=(eU (aS l (o.getD t 0))||decide (oN l o t<iD l / 2)):=by
 unfold RedP.keep;rw [h.Gk ht false];simp only [Bool.false_or];rfl
theorem BH {l:List Lr} {o:List Int} {t:Nat} (ht:t<o.length):oN l o (t+1)=oN l o t+ (if eU (aS l (o.getD t 0)) then 0 else 1):=by
 unfold oN;rw [List.take_add_one,List.countP_append];have:o[t]? =some (o.getD t 0):=by simp [List.getD,ht]
 rw [this];simp only [Option.toList_some,List.countP_cons,List.countP_nil];cases eU (aS l (o.getD t 0))<;>simp
theorem xV.Jf {l:List Lr} {o:List Int} (h:xV l o):oN l o o.length=iD l:=by
 unfold oN iD;rw [List.take_length,h.pm.countP_eq]
theorem xV.Nv {l:List Lr} {o:List Int} (h:xV l o):(qP l.length).countP (fun x=> !eU (aS l x) && RedP.keep l x)=iD l / 2:=by
 rw [<- h.pm.countP_eq];have H: ∀t,t<=o.length->(o.take t).countP (fun x=> !eU (aS l x) && RedP.keep l x)=min (iD l / 2) (oN l o t):=by
  intro t
  induction t with
  |zero=>intro _;simp [oN]
  |succ t J=>
   intro ht;have I:t<o.length:=by omega
   rw [List.take_add_one,List.countP_append,J (by omega),BH I];have:o[t]? =some (o.getD t 0):=by simp [List.getD,I]
   rw [this];simp only [Option.toList_some,List.countP_cons,List.countP_nil,h.keep I];cases eU (aS l (o.getD t 0))
   . by_cases e:oN l o t<iD l / 2
     . simp [e];omega
     . simp [e];omega
   . simp
 have:=H o.length (Nat.le_refl _);rw [List.take_length,h.Jf] at this;rw [this];omega
theorem FS (l:List Lr) (a b:Int):Le (yA l) a b\/Le (yA l) b a:=by
 by_cases h:yA l b a<0
 . exact .inr ((zg l).IR h)
 . exact .inl h
theorem KZ (l:List Lr): ∃o,xV l o:=by
 refine ⟨(qP l.length).mergeSort (fun a b=>decide (¬yA l b a<0)),List.mergeSort_perm _ _,?_⟩;have hp:=List.pairwise_mergeSort (le:=fun a b=>decide (¬yA l b a<0)) (fun a b c h1 J=>by simp only [decide_eq_true_eq] at h1 J ⊢;exact (zg l).trans h1 J)
  (fun a b=>by rcases FS l a b with h|h<;>simp [Le] at h ⊢ <;>omega) (qP l.length)
 intro i j _ I O;have:=List.pairwise_iff_getElem.1 hp i j (by omega) O I;rw [tY,tY] at this;simp only [decide_eq_true_eq] at this;exact this
end Go.RedP
namespace Go.Proofs.YtenmibfmhccmiaaGreat.W.Re
open Go Go.Fw Go.RowKit Go.SoP Go.RedP
open Go.Proofs.Tryz (prog)
section
abbrev FF (x:Lr):List Value:= [.int .i64 x.1,.int .i64 x.2.1,.bool x.2.2]
theorem OA:HJ 3 FF:=⟨fun _=>rfl,by decide,fun x v hv=>by simp [FF] at hv;rcases hv with rfl|rfl|rfl<;>rfl⟩
theorem c4:mB prog aI aC 8=true:=by kernel_rfl
theorem ID:mB prog B9 cO 1=true:=by kernel_rfl
theorem ik:(Tryz.prog.info? aC).bind (·.zero)=some (.int .i64 0):=by kernel_rfl
theorem Ep:(Tryz.prog.info? cO).bind (·.zero)=some (.bool false):=by kernel_rfl
variable {w:World} {p:Option Addr} {n c:Nat} {l:List Lr}
theorem Iw (h:Vr 3 FF w p l) (hn:n=l.length) {X:Int} {x:Int} (e:X=x) (J:0<=x) (h1:x<l.length) {K:Addr->Prop}
 (I: ∀a,aB w a 0 (FF (aS l x))->K a):aP p n X 3 K:=by
 subst e;exact h.ix (0,0,false) J hn (by omega) I
theorem oV {a:Addr} {x:Lr} (h:aB w a 0 (FF x)):w.cell? (a.add 0)=some (.int .i64 x.1)/\w.cell? (a.add 1)=some (.int .i64 x.2.1)/\w.cell? (a.add 2)=some (.bool x.2.2):=⟨h.1,h.2.1,h.2.2.1⟩
theorem IL (x:Lr) (w:World):Calls prog kw.id #[.agg #[.int .i64 x.1,.int .i64 x.2.1,.bool x.2.2]] w fun e w'=>e= .returned (.bool (eU x))/\ao w w':=by
 refine kw.ak ?_;intro I w2 h1;refine ⟨_,ae h1.has rfl,aj (fun q=> ⟨?_,h1.mod⟩) (fun q=> ⟨_,ae h1.has rfl,?_,h1.mod⟩)⟩
 . unfold eU;rw [q];rfl
 . unfold eU;rw [q];rfl
theorem GR {f:Lr->Bool} {t:Nat} (h:(l.take t).all f=true) (ht:t<l.length) (I:f (aS l t)=true):(l.take (t+1)).all f=true:=by
 rw [List.take_add_one,List.all_append,h];have:l[t]? =some (aS l t):=by simp [aS,List.getD,ht]
 rw [this];simpa using I
theorem JR {f:Lr->Bool} {t:Nat} (ht:t<l.length) (I:f (aS l t)=false):l.all f=false:=by
 cases h:l.all f with
 |false=>rfl
 |true=>
  have:=List.all_eq_true.1 h (aS l t) (by simp [aS,List.getD,ht]);rw [I] at this;cases this
theorem te (h:Vr 3 FF w p l) (hn:n=l.length) (hm:n<=maxLen):Calls prog jx.id #[.slice p n c] w fun e w'=>e= .returned (.int .i64 (if l.all BP then 0 else 1))/\ao w w':=by
 refine jx.ak ?_;unfold maxLen at hm;refine ⟨fun I w' k=> ∃t:Nat,I=t/\t<=l.length/\k=l.length - t/\(l.take t).all BP=true/\ao w w',⟨_,0,rfl,Nat.zero_le _,rfl,rfl,aF.refl w⟩,?_⟩;rintro I w1 k _ ⟨t,rfl,ht,rfl,ha,G⟩;refine aj (fun q=> ?_) (fun q=> ⟨?_,G⟩)
 . have q:t<l.length:=by simp at q;omega
   have H:=h.grow G;refine Iw H hn (x:=t) rfl (by omega) (by omega) fun a C=> ⟨_,_,_,C,?_⟩
   intro Z w2 O;refine bj O.has rfl rfl fun w3 J m3=> ?_;have Q:ao w w3:=G.trans (O.mod.bV m3 (by have:=O.num;omega));have J:bA w3 Z #[.int .i64 (aS l t).1,.int .i64 (aS l t).2.1,.bool (aS l t).2.2]:=J;have nM:BP (aS l t)=false->(Ending.returned (.int .i64 1)= .returned (.int .i64 (if l.all BP then 0 else 1))/\ao w w3):=fun hb=>by rw [JR q hb];exact ⟨rfl,Q⟩
   unfold BP at nM;refine ⟨_,ae J rfl,aj (fun s=>nM (by simp at s;simp;omega)) (fun X=> ?_)⟩;refine ⟨_,ae J rfl,aj (fun s=>nM (by simp at s;simp;omega)) (fun U=> ?_)⟩;refine ⟨_,ae J rfl,aj (fun s=>nM (by simp at s;simp;omega)) (fun V=> ?_)⟩;refine ⟨_,ae J rfl,_,ae J rfl,aj (fun s=>nM (by simp at s;simp;omega)) (fun Y=> ?_)⟩;refine ⟨_,?_,t+1,?_,by omega,rfl,GR ha q ?_,Q⟩
   . omega
   . rw [aD (by omega) (by omega)];omega
   . unfold BP;simp only [decide_eq_false_iff_not] at X U V Y;exact decide_eq_true (by omega)
 . have:t=l.length:=by simp at q;omega
   subst this;rw [List.take_length] at ha;rw [ha];rfl
theorem Gq (hl:l.all BP=true) {x:Int} (I:0<=x/\x<l.length):0<=(aS l x).2.1/\(aS l x).2.1<=4096/\0<=(aS l x).1/\(aS l x).1<=(aS l x).2.1:=by
 have:=List.all_eq_true.1 hl (aS l x) (by simp [aS,List.getD,show x.toNat<l.length by omega]);unfold BP at this;exact of_decide_eq_true this
theorem MO (h:Vr 3 FF w p l) (hl:0<l.length): ∀b,aJ p=some b->b<w.heap.size:=by
 intro b hb;obtain ⟨a,rfl,C⟩:=h 0 hl;have:=World.block_lt_of_cell? w _ C.1;rw [cy,cy] at this;simp [aJ] at hb;omega
theorem Ef (h:Vr 3 FF w p l) (hn:n=l.length) (hm:n<=maxLen) (hl:l.all BP=true) {nb:Nat} (hb:bA w nb #[.slice p n c]) {x y:Int} (J:0<=x/\x<l.length) (I:0<=y/\y<l.length):
 Calls prog dO.id #[.int .i64 x,.int .i64 y,.pointer (some ⟨nb,0,none⟩)] w fun e w'=>e= .returned (.int .i64 (yA l x y))/\tg w w':=by
 refine dO.ak ?_;unfold maxLen at hm;have G:tg w w.drew:=(tg.refl w).drew;have U:=Gq hl J;have Q:=Gq hl I;refine ⟨_,_,_,aQ hb.drew rfl,Iw h.drew hn rfl J.1 J.2 fun a C=> ⟨_,(oV C).1,_,_,_,aQ hb.drew rfl,Iw h.drew hn rfl I.1 I.2 fun a D=> ⟨_,(oV D).1,aj (fun q=> ?_) (fun q=> ?_)⟩⟩⟩
 . have q:(aS l x).1≠(aS l y).1:=by simpa using q
   refine ⟨_,_,_,aQ hb.drew.drew rfl,Iw h.drew.drew hn rfl J.1 J.2 fun a C=> ⟨_,(oV C).1,_,_,_,aQ hb.drew.drew rfl,Iw h.drew.drew hn rfl I.1 I.2 fun a D=> ⟨_,(oV D).1,?_,G.drew⟩⟩⟩;unfold yA;rw [if_pos q,aD (by omega) (by omega)]
 . have q: ¬(aS l x).1≠(aS l y).1:=by simpa using q
   refine ⟨_,_,_,aQ hb.drew.drew rfl,Iw h.drew.drew hn rfl J.1 J.2 fun a C=> ⟨_,(oV C).2.1,_,_,_,aQ hb.drew.drew rfl,Iw h.drew.drew hn rfl I.1 I.2 fun a D=> ⟨_,(oV D).2.1,aj (fun O=> ?_) (fun O=> ⟨?_,G.drew⟩)⟩⟩⟩
   . have O:(aS l x).2.1≠(aS l y).2.1:=by simpa using O
     refine ⟨_,_,_,aQ hb.drew.drew.drew rfl,Iw h.drew.drew.drew hn rfl J.1 J.2 fun a C=> ⟨_,(oV C).2.1,_,_,_,aQ hb.drew.drew.drew rfl,Iw h.drew.drew.drew hn rfl I.1 I.2 fun a D=> ⟨_,(oV D).2.1,?_,G.drew.drew⟩⟩⟩;unfold yA;rw [if_neg q,if_pos O,aD (by omega) (by omega)]
   . have O: ¬(aS l x).2.1≠(aS l y).2.1:=by simpa using O
     unfold yA;rw [if_neg q,if_neg O,aD (by omega) (by omega)]
theorem Dl:fX prog dO.id=true:=by kernel_rfl
theorem LW (u v z:Value):(#[]++ #[u,v]++ #[z]:Array Value)= #[u,v,z]:=by simp
def yZ (t m:Nat):List Int:=(List.range t).map Int.ofNat++List.replicate (m - t) 0
theorem Il {t m:Nat} (h:t<=m):(yZ t m).length=m:=by simp [yZ];omega
theorem FO (m:Nat):yZ m m=qP m:=by simp [yZ,qP]
theorem GO {t m:Nat} (h:t<m):(yZ t m).set t (t:Int)=yZ (t+1) m:=by
 unfold yZ;rw [List.set_append,if_neg (by simp),List.length_map,List.length_range,Nat.sub_self,List.range_succ,List.map_append,List.append_assoc];congr 1;rw [show m - t=(m - (t+1))+1 by omega,List.replicate_succ];rfl
theorem HC (h:Vr 3 FF w p l) (hn:n=l.length) (hm:n<=1000000):Calls prog jz.id #[.slice p n c] w fun e w'=> ∃ (q:Option Addr) (d:Nat) (o:List Int),e= .returned (.slice q o.length d)/\ao w w'/\da aC w' q d o/\(if l.all BP then xV l o else o= [])/\(∀b,aJ q=some b->w.heap.size<=b):=by
 refine jz.ak ?_;intro nb w1 h1;have O:ao w w1:=h1.mod;have a6:=h1.num;refine ⟨_,_,_,aQ h1.has rfl,(te (h.grow O) hn (by unfold maxLen;omega)).mono ?_⟩;rintro e w2 ⟨rfl,J⟩;have b2:=h1.has.grow J;cases hl:l.all BP with
 |false=>
  refine ⟨_,rfl,cu rfl ⟨none,0,[],rfl,O.trans J,Ow.nil _ _ _,by simp,fun b hb=>by simp [aJ] at hb⟩⟩
 |true=>
  refine ⟨_,rfl,bm rfl ⟨_,_,_,aQ b2 rfl,?_⟩⟩;have aT:=J.size;have s1:=h1.size;refine oX c4 ik (x:=(0:Int)) rfl n rfl (by omega) fun w3 o3 g3 z3=> ?_;have b3:=b2.grow g3;refine ⟨_,_,_,aQ b3 rfl,?_⟩;have hq: ∀b,aJ (some (⟨w2.heap.size,0,none⟩:Addr))=some b->b=w2.heap.size:=fun b hb=>by simp [aJ] at hb;exact hb.symm
  refine ⟨fun I w' k=> ∃t:Nat,I=t/\t<=n/\k=n - t/\da aC w' (some ⟨w2.heap.size,0,none⟩) n (yZ t n)/\aF (fun b=>b=w2.heap.size) w2 w',⟨_,0,rfl,Nat.zero_le _,rfl,by simpa [yZ] using o3,g3.mono fun _ _=>False.elim⟩,?_⟩;rintro I w4 k _ ⟨t,rfl,ht,rfl,Y,U⟩;have aa:=Il ht;refine aj (fun q=> ?_) (fun q=> ?_)
  . have q:t<n:=by simpa using q
    refine Y.st (t:Int) rfl rfl (by omega) aa.symm (by omega) fun w5 Q Z=> ?_;rw [Int.toNat_natCast,GO q] at Q;refine ⟨_,?_,t+1,wN (by omega) (by omega),by omega,rfl,Q,U.then Z fun b _ hb=>hq b hb⟩;omega
  . have q:t=n:=by simp at q;omega
    subst q;have G4:ao w2 w4:=U.mono fun b hb e=>by omega
    have B4:=b2.grow G4;have H4:=((h.grow O).grow J).grow G4;rw [FO] at Y;have ac:nb≠w2.heap.size:=by have:=b2.lt;omega
    have X:Cx w4 (some ⟨w2.heap.size,0,none⟩) t (qP t) dO.id #[.pointer (some ⟨nb,0,none⟩)] (yA l):=by
     refine ⟨(kM t).symm,by omega,Dl,fun x hx y hy w' m'=> ?_,zg l⟩;rw [LW];have hx:=uk.1 hx;have hy:=uk.1 hy;refine Ef (H4.keep m' fun b hb e=> ?_) hn (by unfold maxLen;omega) hl (B4.keep m' fun e=>ac (hq _ e)) (by omega) (by omega);have e:=hq _ e;have:=MO h (by omega) b hb;have:=O.size;have:=J.size;omega
    refine (yS X Y).mono ?_;rintro e w5 ⟨rfl,l5,Q,Z,V,s5⟩;refine ⟨rfl,_,_,l5,?_,?_,Q,?_,?_⟩
    . rw [V.length_eq,kM]
    . exact (O.trans J).then (U.then (S:=fun b=>b=w2.heap.size) Z fun b _ hb=>hq b hb) fun b hb e=>by omega
    . rw [if_pos rfl];rw [hn] at V;exact ⟨V,s5⟩
    . intro b hb;have:=hq b hb;omega
end
section
variable {w:World} {p:Option Addr} {n c:Nat} {l:List Lr}
theorem AY (t:Nat):qP (t+1)=qP t++ [(t:Int)]:=by
 unfold qP;rw [List.range_succ,List.map_append];rfl
def lJ (l:List Lr) (t m:Nat):List Bool:=((qP t).map fun i=>eU (aS l i))++List.replicate (m - t) false
theorem oF {t m:Nat} (h:t<=m):(lJ l t m).length=m:=by simp [lJ,kM];omega
theorem wG {t m:Nat} (h:t<m):(lJ l t m).set t (eU (aS l t))=lJ l (t+1) m:=by
 unfold lJ;rw [List.set_append,if_neg (by simp [kM]),List.length_map,kM,Nat.sub_self,AY,List.map_append,List.append_assoc];congr 1;rw [show m - t=(m - (t+1))+1 by omega,List.replicate_succ];rfl
theorem Cm {t m:Nat} (h:t<m):(lJ l (t+1) m).getD t false=eU (aS l t):=by
 rw [<- wG h];simp [List.getD,oF (Nat.le_of_lt h),h]
theorem BZ {m x:Nat} (h:x<m):(lJ l m m).getD x false=eU (aS l x):=by
 unfold lJ;simp [qP,List.getD,h]
theorem xD (t:Nat):((qP (t+1)).countP fun i=> !eU (aS l i))=((qP t).countP fun i=> !eU (aS l i))+ (if eU (aS l t) then 0 else 1):=by
 rw [AY,List.countP_append];simp only [List.countP_cons,List.countP_nil];cases eU (aS l t)<;>simp
theorem D_ (t:Nat):((qP t).countP fun i=> !eU (aS l i))<=t:=by
 have:=List.countP_le_length (p:=fun i=> !eU (aS l i)) (l:=qP t)
 rwa [kM] at this
theorem El {b:List Bool} {i j:Nat} {x:Bool} (hi:i<b.length):(b.set i x).getD j false=if j=i then x else b.getD j false:=by
 simp only [List.getD_eq_getElem?_getD,List.getElem?_set];by_cases h:j=i
 . subst h;simp [hi]
 . rw [if_neg (fun e=>h e.symm),if_neg h]
theorem Jb (h:Vr 3 FF w p l) (hn:n=l.length) (hm:n<=1000000):Calls prog kc.id #[.slice p n c] w fun e w'=> ∃ (q:Option Addr) (d:Nat) (k:List Bool),e= .returned (.slice q k.length d)/\ao w w'/\Ow Value.bool cO w' q d k/\(∀b,aJ q=some b->w.heap.size<=b)/\
 (if l.all BP then k.length=n/\∀x:Nat,x<n->k.getD x false=keep l x else k= []):=by
 refine kc.ak ?_;refine (te h hn (by unfold maxLen;omega)).mono ?_;rintro e w1 ⟨rfl,g1⟩;cases hl:l.all BP with
 |false=>exact ⟨_,rfl,cu rfl ⟨none,0,[],rfl,g1,Ow.nil _ _ _,fun b hb=>by simp [aJ] at hb,by simp⟩⟩
 |true=>
 refine ⟨_,rfl,bm rfl ?_⟩;refine oX ID Ep (x:=false) rfl n rfl (by omega) fun w2 o2 g2 z2=> ?_;have hq: ∀b,aJ (some (⟨w1.heap.size,0,none⟩:Addr))=some b->b=w1.heap.size:=fun b hb=>by simp [aJ] at hb;exact hb.symm
 have hN:aF (fun b=>b=w1.heap.size) w1 w2:=g2.mono fun _ _=>False.elim;refine ⟨fun F I w' k=> ∃t:Nat,I=t/\F=((qP t).countP fun i=> !eU (aS l i):Nat)/\t<=n/\k=n - t/\Ow Value.bool cO w' (some ⟨w1.heap.size,0,none⟩) n (lJ l t n)/\aF (fun b=>b=w1.heap.size) w1 w',⟨_,0,rfl,rfl,Nat.zero_le _,rfl,by simpa [lJ,qP] using o2,hN⟩,?_⟩;rintro F I w3 k _ ⟨t,rfl,rfl,ht,rfl,o3,m3⟩;have G3:ao w1 w3:=m3.mono fun b hb e=>by omega
 have H3:=(h.grow g1).grow G3;refine aj (fun q=> ?_) (fun q=> ?_)
 . have q:t<n:=by simpa using q
   refine Iw H3 hn (x:=t) rfl (by omega) (by omega) fun a C=> ⟨_,_,_,C,?_⟩
   intro n1 w4 h4;refine bj h4.has rfl rfl fun w5 h5 m5=> ?_;have g5:ao w3 w5:=h4.mod.bV m5 (by have:=h4.num;omega);have h5:bA w5 n1 #[.int .i64 (aS l t).1,.int .i64 (aS l t).2.1,.bool (aS l t).2.2]:=h5;refine ⟨_,_,_,⟨ae h5 rfl,ae h5 rfl,ae h5 rfl,trivial⟩,(IL (aS l t) w5).mono ?_⟩;rintro e w6 ⟨rfl,g6⟩;refine ⟨_,rfl,?_⟩;have o6:=o3.grow (g5.trans g6);have hlen:=oF (l:=l) ht;refine o6.st (eU (aS l t)) rfl rfl (by omega) hlen.symm (by omega) fun w7 o7 m7=> ?_;rw [Int.toNat_natCast,wG q] at o7;have M7:aF (fun b=>b=w1.heap.size) w1 w7:=(m3.grow (g5.trans g6)).then m7 fun b _ hb=>hq b hb;refine o7.ix false (by omega) (oF (by omega)).symm (by omega) fun a e=> ⟨_,e,?_⟩
   rw [Int.toNat_natCast,Cm q];have hf:=D_ (l:=l) t;refine aj (fun s=> ?_) (fun s=> ?_)
   . refine ⟨_,?_,t+1,wN (by omega) (by omega),?_,by omega,rfl,o7,M7⟩
     . omega
     . have s:eU (aS l t)=false:=by simpa using s
       rw [xD,s];exact wN (by simp) (by simp;omega)
   . refine ⟨_,?_,t+1,wN (by omega) (by omega),?_,by omega,rfl,o7,M7⟩
     . omega
     . have s:eU (aS l t)=true:=by simpa using s
       rw [xD,s];rfl
 . have q:t=l.length:=by simp at q;omega
   subst q;have a8:n=l.length:=hn;subst a8;refine ⟨by decide,(HC H3 rfl hm).mono ?_⟩;rintro e w4 ⟨q,d,o,rfl,g4,oo,X,a6⟩;rw [hl,if_pos rfl] at X;have cm:=X.len;refine ⟨_,_,_,rfl,?_⟩;have a7:((qP l.length).countP fun i=> !eU (aS l i))=iD l:=rfl;rw [a7];have cp:iD l<=l.length:=D_ l.length;have ed:IntKind.i64.wrap (((iD l:Nat):Int).tdiv 2)=((iD l / 2:Nat):Int):=wN (by rw [Int.tdiv_eq_ediv_of_nonneg (by omega)];omega) (by omega);rw [ed];refine ⟨fun L I w' k=> ∃ (t:Nat) (b:List Bool),I=t/\L=(iD l / 2 - oN l o t:Nat)/\t<=o.length/\k=o.length - t/\b.length=l.length/\(∀x:Nat,x<l.length->(b.getD x false=true↔eU (aS l x)=true\/∃j,j<t/\o.getD j 0=(x:Int)/\oN l o j<iD l / 2))/\
    Ow Value.bool cO w' (some ⟨w1.heap.size,0,none⟩) l.length b/\da aC w' q d o/\aF (fun b=>b=w1.heap.size) w1 w',⟨_,0,lJ l l.length l.length,rfl,by simp [oN],Nat.zero_le _,rfl,oF (Nat.le_refl _),fun x Y=>by rw [BZ Y];simp,o3.grow g4,oo,m3.grow g4⟩,?_⟩
   rintro L I w5 k _ ⟨t,b,rfl,rfl,ht,rfl,hb,Y,ob,o5,m5⟩;refine aj (fun r=> ?_) (fun r=> ?_)
   . have r:t<o.length:=by simpa using r
     refine o5.ix 0 (by omega) rfl (by omega) fun a e=> ⟨_,e,?_⟩
     rw [Int.toNat_natCast];obtain ⟨r0,r1⟩:=X.OJ r;obtain ⟨x,ex⟩: ∃x:Nat,o.getD t 0=(x:Int):=⟨(o.getD t 0).toNat,by omega⟩
     have V:x<l.length:=by omega
     rw [ex];refine ob.ix false (by omega) hb.symm (by omega) fun a e=> ⟨_,e,?_⟩
     rw [Int.toNat_natCast];have ag:=Y x V;have Q: ¬∃j,j<t/\o.getD j 0=(x:Int)/\oN l o j<iD l / 2:=by
      rintro ⟨j,j1,O,_⟩;have:=ry X.nd (i:=j) (j:=t) (by omega) r (by rw [O,ex]);omega
     have an: ∀y:Nat,(∃j,j<t+1/\o.getD j 0=(y:Int)/\oN l o j<iD l / 2)↔(∃j,j<t/\o.getD j 0=(y:Int)/\oN l o j<iD l / 2)\/(y=x/\oN l o t<iD l / 2):=by
      intro y;constructor
      . rintro ⟨j,j1,O,Z⟩;by_cases e:j=t
        . subst e;rw [ex] at O;exact .inr ⟨by omega,Z⟩
        . exact .inl ⟨j,by omega,O,Z⟩
      . rintro (⟨j,j1,O,Z⟩| ⟨rfl,Z⟩)
        . exact ⟨j,by omega,O,Z⟩
        . exact ⟨t,by omega,ex,Z⟩
     have cs:=BH (l:=l) r;rw [ex] at cs;have J:eU (aS l (x:Int))=b.getD x false:=by
      cases ad:b.getD x false with
      |true=>
       rcases ag.1 ad with h|h
       . exact h
       . exact absurd h Q
      |false=>
       cases a':eU (aS l (x:Int)) with
       |false=>rfl
       |true=>have:=ag.2 (.inl a');rw [ad] at this;exact this.symm
     have et:IntKind.i64.wrap ((t:Int)+1)=((t+1:Nat):Int):=wN (by omega) (by omega);have stay:(b.getD x false=true\/¬oN l o t<iD l / 2)->∀y:Nat,y<l.length->(b.getD y false=true↔eU (aS l y)=true\/∃j,j<t+1/\o.getD j 0=(y:Int)/\oN l o j<iD l / 2):=by
      intro hc y hy;rw [Y y hy,an y];constructor
      . rintro (h|h)
        . exact .inl h
        . exact .inr (.inl h)
      . rintro (h|h| ⟨rfl,h⟩)
        . exact .inl h
        . exact .inr h
        . rcases hc with hc|hc
          . exact .inl (by rw [J];exact hc)
          . exact absurd h hc
     refine aj (fun s=> ?_) (fun s=> ?_)
     . have s:b.getD x false=false:=by simpa using s
       rw [s] at J;rw [J] at cs;refine aj (fun U=> ?_) (fun U=> ?_)
       . have U:oN l o t<iD l / 2:=by simp at U;omega
         refine ob.st true rfl rfl (by omega) hb.symm (by omega) fun w6 o6 m6=> ?_;rw [Int.toNat_natCast] at o6;have M6:aF (fun b=>b=w1.heap.size) w1 w6:=m5.then m6 fun b _ hb=>hq b hb;refine ⟨_,?_,t+1,_,et,?_,by omega,rfl,by simpa using hb,fun y hy=> ?_,o6,?_,M6⟩
         . omega
         . rw [cs];simp only [Bool.false_eq_true,if_false];rw [aD (by omega) (by omega)];omega
         . rw [El (by omega),an y];by_cases e:y=x
           . subst e;rw [if_pos (Eq.refl y)];simp [U]
           . rw [if_neg e,Y y hy];constructor
             . rintro (h|h)
               . exact .inl h
               . exact .inr (.inl h)
             . rintro (h|h| ⟨h,_⟩)
               . exact .inl h
               . exact .inr h
               . exact absurd h e
         . refine o5.keep m6 fun b hb e=> ?_;have:=a6 b hb;have:=hq b e;have:=m3.size;have:=z2;have:=hN.size;have b_:=o3.lt w1.heap.size rfl;omega
       . have U: ¬oN l o t<iD l / 2:=by simp at U;omega
         refine ⟨_,?_,t+1,b,et,?_,by omega,rfl,hb,stay (.inr U),ob,o5,m5⟩
         . omega
         . rw [cs];simp only [Bool.false_eq_true,if_false];omega
     . have s:b.getD x false=true:=by simpa using s
       rw [s] at J;rw [J] at cs;refine ⟨_,?_,t+1,b,et,?_,by omega,rfl,hb,stay (.inl s),ob,o5,m5⟩
       . omega
       . rw [cs];simp
   . have r:t=o.length:=by simp at r;omega
     subst r;refine ⟨_,_,b,by rw [hb],g1.trans (m5.mono fun b hb e=>by omega),ob,fun b hb=>by have:=hq b hb;have:=g1.size;omega,?_⟩;rw [if_pos rfl];refine ⟨hb,fun x V=> ?_⟩;obtain ⟨j,j1,O⟩:=X.find (x:=(x:Int)) (by omega) (by omega);have hk:=X.keep j1;rw [O] at hk;rw [hk,Bool.eq_iff_iff,Y x V,Bool.or_eq_true,decide_eq_true_eq];constructor
     . rintro (h| ⟨i,i1,i2,i3⟩)
       . exact .inl h
       . have:=ry X.nd i1 j1 (by rw [i2,O]);subst this;exact .inr i3
     . rintro (h|h)
       . exact .inl h
       . exact .inr ⟨j,j1,O,h⟩
end
end Go.Proofs.YtenmibfmhccmiaaGreat.W.Re
