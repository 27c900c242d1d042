/- Layer 14: the statement CdclProves. -/
import Derived.Test.YtenmibfmhccmiaaGreatCdA
import Derived.Test.YtenmibfmhccmiaaGreatDratA
namespace Go.Proofs.YtenmibfmhccmiaaGreat.W
open Go Go.Fw Go.RowKit Go.SoP Go.LiP Go.LeP
variable {w w' w1 w2 u:World} {N m d:Nat} {cs:List (List Int)} {hs:List Sl} {q p:Option Addr} {k:Int} {n c:Nat} {pr:List (Bool × List Int)}
theorem PE.pv (h:PE cs N pr):(tN cs pr).2=0/\0<=(tN cs pr).1/\(tN cs pr).1<pr.length:=by
 obtain ⟨t,ht,he,hn⟩:=h.dV;have st: ∀i,i<pr.length->gX (wH cs pr i) (pr.getD i dR)=0/\jl (wH cs pr i) (pr.getD i dR)=wH cs pr (i+1):=by
  intro i hi;have hu:=h.up i hi;have e:wH cs pr (i+1)=if (pr.getD i dR).1=true then lX (pr.getD i dR).2 (wH cs pr i) else wH cs pr i++ [(pr.getD i dR).2]:=rfl
  rw [e];cases J:(pr.getD i dR).1 with
  |true=>
   have:=oU (k:=0) (cs:=wH cs pr i) J;exact ⟨this.1,this.2.1⟩
  |false=>
   have:=pB (k:=0) (cs:=wH cs pr i) J (.inl (hu.resolve_left (by show ¬(pr.getD i dR).1=true;rw [J];decide)));exact ⟨this.1,this.2.1⟩
 have O: ∀i,i<=t->vG cs pr i (wH cs pr i):=by
  intro i
  induction i with
  |zero=>exact fun _=>vG.zero cs pr
  |succ i ih=>
   intro hi;have h1:=(ih (by omega)).next (by omega) (st i (by omega)).1 fun e=>hn i (by omega) (pX.1 e)
   rwa [(st i (by omega)).2] at h1
 have I:=(O t (Nat.le_refl _)).dV (by omega) (st t (by omega)).1 (pX.2 he);rw [I];exact ⟨rfl,by show (0:Int)<=t;omega,by show (t:Int)<pr.length;omega⟩
theorem sJ {b uni lrn:Int} (hc:V2 (Value.int .i64) w q hs cs) (hm:m=cs.length) (hd:m<=d):
 Calls Tryz.prog cj.id #[.agg #[.int .i64 k,.slice q m d],.agg #[.int .i64 b,.int .i64 uni,.int .i64 lrn]] w fun e w'=>e= .returned (.bool true)/\ao w w':=by
 refine cj.ak ?_;intro n1 w2 h2 n3 w4 h4;have G4:=h2.mod.trans h4.mod;refine ⟨_,_,_,_,eY (h2.has.grow h4.mod),(KM (hc.grow G4) hm).mono ?_⟩;rintro e w7 ⟨r8,rfl,hf,g7⟩;have G7:=G4.trans g7;have B7:=(h2.has.grow h4.mod).grow g7;have D7:=h4.has.grow g7;refine ⟨_,rfl,aj (fun _=>xK G7) (fun r=> ?_)⟩;obtain ⟨a_,U,c3⟩:=hf (by simpa using r);refine ⟨_,_,_,⟨ae D7 rfl,ae D7 rfl,ae D7 rfl,trivial⟩,(AG _ _ _ _).mono ?_⟩;rintro e d5 ⟨rfl,ac⟩;have ad:=G7.trans ac;refine ⟨_,rfl,aj (fun _=>xK ad) (fun r=> ?_)⟩;have Z:qi uni lrn=true:=by simpa using r
 have ap:=D7.grow ac;have a7:=B7.grow ac;refine ⟨_,_,_,_,eY a7,_,_,_,⟨ae ap rfl,ae ap rfl,ae ap rfl,trivial⟩,?_⟩;have d4:0<=k:=(MU U).1;obtain ⟨N,hN⟩: ∃N:Nat,k=N:=⟨k.toNat,by omega⟩
 subst hN;obtain ⟨K,ok,cp,ec⟩:=Ok (N:=N) (by omega) Z;refine (vO (N:=N) (b:=b) (hc.grow ad) hm U Z rfl (by omega) ok cp (by omega)).mono ?_;rintro e bY ⟨⟨ke,mp,mn,mc,pp,pn,pc,cf,de,re,dr,er,rfl,c0,d0,r0,ea,az⟩,aT⟩;refine ⟨_,_,_,_,_,_,_,_,_,_,_,_,rfl,fun d9 eb aa=> ?_⟩;have dk:=aa.num;refine bj aa.has rfl rfl fun ag I b4=> ?_;have I:=Oc I;have an:ao bY ag:=aF.bV aa.mod b4 (by omega);have O:=(ad.trans aT).trans an;have a8:=(a7.grow aT).grow an;refine aj (fun _=>xK O) (fun r1=> ⟨_,ae I rfl,aj (fun _=>xK O) (fun r2=> ?_)⟩);have r1:er=0:=by simpa using r1
 have r2:ke=2:=by simpa using r2
 subst r1 r2;rcases az with ⟨h,_⟩| ⟨_,h,_⟩| ⟨_,_,rfl,_,du,pr,rfl,b8,b_,X,di,dT⟩
 . exact absurd h (by decide)
 . exact absurd h (by decide)
 have Y:SV ag pp (pr.map D8):=(Nd b8 b_ fun u hu=>by
  have:=(X.qX (D8 u) (List.mem_map_of_mem hu)).len;have:u.2.2.length<=N:=this;unfold maxLen;omega).grow an
 have hlen:pr.length=(pr.map D8).length:=by simp
 have J:=X.Ma (by omega);have ar:=X.pv;have bu: ∀ {u:World},ao ag u->Calls Tryz.prog jK.id #[.agg #[.int .i64 N,.slice q m d],.slice pp pr.length pc] u fun e av=> ∃b7 a6,e= .returned (.tuple #[.int .i64 b7,.int .i64 a6])/\
  aG (a6==(0:Int))
  (Calls Tryz.prog cG.id #[] av fun e b6=> ∃bk,e= .returned (.bool bk)/\Ending.returned (.bool bk)= .returned (.bool true)/\ao w b6)
  (Ending.returned (.bool false)= .returned (.bool true)/\ao w av):=by
  intro u gu;refine (xi (k:=(N:Int)) (hc.grow (O.trans gu)) hm (by omega) (Y.grow gu) hlen).mono ?_;rintro e av ⟨rfl,cb⟩;rw [U,J];exact ⟨_,_,rfl,cu (by show ((tN cs (pr.map D8)).2==0)=true;rw [ar.1];rfl) (xK ((O.trans gu).trans cb))⟩
 refine ⟨_,_,_,ae I rfl,aj (fun _=> ⟨_,_,_,_,eY a8,_,_,_,ae I rfl,bu (aF.refl _)⟩) (fun r3=> ⟨_,_,_,ae I rfl,(GQ Y hlen (by have:=of_decide_eq_false r3;omega)).mono ?_⟩)⟩;rintro e dp ⟨rfl,Q⟩;have ay:=I.grow Q;have ax:=a8.grow Q;have bc:=O.trans Q;have r3:=of_decide_eq_false r3;refine ⟨_,rfl,bm (by rw [J];rfl) ⟨_,_,_,_,eY ax,_,_,_,ae ay rfl,(xg (k:=(N:Int)) (hc.grow bc) hm a_ hd U (Y.grow Q) hlen (by omega) J).mono ?_⟩⟩;rintro e dw ⟨rfl,V⟩;have aw:=ay.grow V;have b':=ax.grow V;have a':=bc.trans V;refine ⟨_,_,rfl,cu (by show ((tN cs (pr.map D8)).2==0)=true;rw [ar.1];rfl) ⟨_,_,_,ae aw rfl,cu (decide_eq_true (by rw [hlen];exact ar.2.2)) ⟨_,_,_,_,eY b',_,_,_,ae aw rfl,(zm (k:=(N:Int)) (hc.grow a') hm a_ (Y.grow (Q.trans V)) hlen (by omega) (Lw U) J).mono ?_⟩⟩⟩;rintro e d8 ⟨r,rfl,hr,cc⟩;exact ⟨_,rfl,cu (hr.2 X.plain) (xK (a'.trans cc))⟩
theorem C5 {v:Value} (h:FA w (.cons (.int .i64) (.cons (.sl (.sl (.int .i64))) .nil)) v): ∃k q j d hs cs,v= .agg #[.int .i64 k,.slice q j d]/\j=cs.length/\j<=d/\V2 (Value.int .i64) w q hs cs:=by
 obtain ⟨cs,rfl,x,y,rfl,⟨k,rfl,hk⟩,z,u,rfl,Z,rfl⟩:=h;have hv: ∃s,z= [s]/\FA w (.sl (.sl (.int .i64))) s:=by
  rcases Z with rfl| ⟨U,I,J,rfl,g⟩
  . exact ⟨_,rfl,.inl rfl⟩
  . exact ⟨_,rfl,.inr ⟨U,I,J,rfl,g⟩⟩
 obtain ⟨s,rfl,O⟩:=hv;obtain ⟨q,m,d,X,rows,rfl,hm,Q,V,Y⟩:=Cv (fun v=>Bd) O;exact ⟨k,q,m,d,X,rows,rfl,hm,Q,Y⟩
theorem uY (v0 v1:Value) (W:World) (U:FA W (.cons (.int .i64) (.cons (.sl (.sl (.int .i64))) .nil)) v0) (h1:FA W (.cons (.int .i64) (.cons (.int .i64) (.cons (.int .i64) .nil))) v1):Calls Tryz.prog cj.id #[v0,v1] W fun e Q=>e= .returned (.bool true)/\ao W Q:=by
 obtain ⟨k,q,j,d,hs,cs,rfl,I,O,J⟩:=C5 U;obtain ⟨a,b,c,rfl⟩:=ES h1;exact sJ J I O
end Go.Proofs.YtenmibfmhccmiaaGreat.W
