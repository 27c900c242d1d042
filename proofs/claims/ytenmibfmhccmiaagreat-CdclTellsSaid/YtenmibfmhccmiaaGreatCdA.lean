/- Layer 14: the statements CdclChecks and CdclCounts. -/
import Derived.Test.YtenmibfmhccmiaaGreatTellA
namespace Go.Proofs.YtenmibfmhccmiaaGreat.W
open Go Go.Fw Go.RowKit Go.SoP Go.LiP Go.LeP
open Go.Proofs.Tryz (prog)
section
variable {w w' w1 w2 u u':World} {N n14:Nat} {cs:List (List Int)} {mo:List Int} {ms:List (List Int)} {hs hs':List Sl} {gp q:Option Addr} {gc m d:Nat}
theorem ze (b u l:Int) (w:World):Calls prog eO.id #[.agg #[.int .i64 b,.int .i64 u,.int .i64 l]] w fun e w'=>e= .returned (.bool (oS u l))/\aq w w':=by
 refine eO.ah ?_;intro U w2 I;have F: ¬(1<=u/\u<=1048576/\1<=l/\l<=1048576)->Ending.returned (.bool false)= .returned (.bool (oS u l))/\aq w w2:=fun h=> ⟨by unfold oS;rw [decide_eq_false h],I.mod⟩
 refine ⟨_,ad I.has rfl,ao (fun O=> ⟨_,ad I.has rfl,ao (fun J=> ⟨_,ad I.has rfl,ao (fun Q=> ⟨_,ad I.has rfl,?_,I.mod⟩) (fun Q=>F ?_)⟩) (fun J=>F ?_)⟩) (fun O=>F ?_)⟩;all_goals simp only [decide_eq_true_eq,decide_eq_false_iff_not] at*
 all_goals first|omega|skip
 have:decide (l<=1048576)=oS u l:=by unfold oS;exact decide_eq_decide.2 (by omega)
 rw [this]
theorem CV {w0:World} (g:aq w0 w):Calls prog cL.id #[] w fun e w1=> ∃I,e= .returned (.bool I)/\(Ending.returned (.bool I)= .returned (.bool true)/\aq w0 w1):=by
 refine (HB w).mono ?_;rintro e w1 ⟨rfl,J⟩;exact ⟨_,rfl,rfl,g.trans J⟩
theorem Da {v:Value} (h:Es w (.cons (.int .i64) (.cons (.int .i64) (.cons (.int .i64) .nil))) v): ∃a b c,v= .agg #[.int .i64 a,.int .i64 b,.int .i64 c]:=by
 obtain ⟨cs,rfl,x,y,rfl,⟨a,rfl,_⟩,O,I,rfl,⟨b,rfl,_⟩,J,Q,rfl,⟨c,rfl,_⟩,rfl⟩:=h;exact ⟨a,b,c,rfl⟩
end
section
variable {w w' w1 w2 u:World} {N m d:Nat} {cs:List (List Int)} {hs:List Sl} {q p:Option Addr} {k:Int} {mo:List Int} {n c:Nat}
theorem GP (N:Nat) (h:N<=20):IntKind.i64.wrap ((1:Int)*2 ^ (min (N:Int).toNat (IntKind.bits .i64)))=((2 ^ N:Nat):Int):=by
 rw [Int.toNat_natCast,show min N (IntKind.bits .i64)=N from Nat.min_eq_left (by show N<=64;omega),Int.one_mul];have:((2:Int) ^ N)=((2 ^ N:Nat):Int):=by rw [Int.natCast_pow];rfl
 rw [this];have I:2 ^ N<=2 ^ 20:=Nat.pow_le_pow_right (by omega) h;have O:2 ^ 20=1048576:=rfl;obtain ⟨M,J⟩: ∃M:Nat,2 ^ N=M:=⟨_,rfl⟩
 rw [J] at I ⊢;exact aB (by omega) (by omega)
def Km (N:Nat) (cs:List (List Int)):Prop:= ∃mo,sA N mo/\eD mo cs=true
theorem Em (hc:V2 (Value.int .i64) w q hs cs) (hm:m=cs.length) (hx:m<=100000) (hN:N<=20):
 Calls prog eX.id #[.agg #[.int .i64 N,.slice q m d]] w fun e w'=> ∃ (p:Option Addr) (n c:Nat) (r:Bool),e= .returned (.tuple #[.slice p n c,.bool r])/\(r=true↔Km N cs)/\aq w w':=by
 refine eX.ah ?_;intro n1 w2 X;have a8:2 ^ N<=1048576:=Nat.le_trans (Nat.pow_le_pow_right (by omega) hN) (by decide);refine ⟨fun n u z=> ∃j:Nat,n=j/\j<=2 ^ N/\z=2 ^ N - j/\(∀t,t<j->eD (cZ N t) cs=false)/\aq w2 u,⟨_,0,rfl,Nat.zero_le _,rfl,fun t ht=>by omega,aE.refl _⟩,?_⟩;rintro n u z _ ⟨j,rfl,hj,rfl,Y,G⟩;have B:=X.has.grow G;refine ⟨_,ad B rfl,by omega,?_⟩;rw [GP N hN];refine ao (fun r=> ?_) (fun r=> ?_)
 . have r:j<2 ^ N:=by
    have:(j:Int)< ((2 ^ N:Nat):Int):=by simpa using r
    omega
   have gd:aq u u.drew:=(aE.refl u).drew;have Bd:=B.grow gd;have fI: ∀ {v:World} {pm:Option Addr} {V:Nat},aq u.drew v->eC aC v pm V (cZ N j)->Calls prog cK.id #[.agg #[.int .i64 N,.slice q m d],.slice pm N V] v fun e U=> ∃aa,e= .returned (.bool aa)/\
    aH aa
    (∃Z,U.cell? ((Addr.mk n1 0 none).add 0)=some (.int .i64 Z)/\
      Calls prog cJ.id #[.int .i64 Z,.int .i64 j] U fun e ac=> ∃Q J O,e= .returned (.slice Q J O)/\
      (∃ (p:Option Addr) (n c:Nat) (r:Bool),Ending.returned (.tuple #[.slice Q J O,.bool true])= .returned (.tuple #[.slice p n c,.bool r])/\(r=true↔Km N cs)/\aq w ac))
    (∃k5,k5<2 ^ N - j/\∃j':Nat,(IntKind.i64.wrap ((j:Int)+ (1:Int)))=j'/\j'<=2 ^ N/\k5=2 ^ N - j'/\(∀t,t<j'->eD (cZ N t) cs=false)/\aq w2 U):=by
    intro v pm V gv o;refine (rD (hc.grow ((X.mod.trans G).trans (gd.trans gv))) hm (by unfold maxLen;omega) o.vw (by rw [pG]) (by unfold maxLen;omega)).mono ?_;rintro e an ⟨rfl,aw⟩;have GG:=G.trans ((gd.trans gv).trans aw);refine ⟨_,rfl,ao (fun r2=> ?_) (fun r2=> ⟨_,by omega,j+1,wN (by omega) (by omega),r,rfl,fun t ht=> ?_,GG⟩)⟩
    . refine ⟨_,ad (X.has.grow GG) rfl,(nE (k:=N) (n:=j) (by omega) (by omega) an).mono ?_⟩;rintro e ac ⟨⟨pm,V,rfl,_⟩,az⟩;exact ⟨_,_,_,rfl,_,_,_,_,rfl,⟨fun _=> ⟨_,ws N j,r2⟩,fun _=>rfl⟩,X.mod.trans (GG.trans az)⟩
    . by_cases e:t<j
      . exact Y t e
      . obtain rfl:t=j:=by omega
        exact r2
   refine ⟨_,ad Bd rfl,⟨_,_,_,_,il Bd,(nE (k:=N) (n:=j) (by omega) (by omega) u.drew).mono ?_⟩,(nE (k:=N) (n:=j) (by omega) (by omega) u.drew).mono ?_⟩
   . rintro e ay ⟨⟨pm,V,rfl,o,_⟩,I⟩;exact ⟨_,_,_,rfl,fI I o⟩
   . rintro e ay ⟨⟨pm,V,rfl,o,_⟩,I⟩;exact ⟨_,_,_,rfl,_,_,_,_,il (Bd.grow I),fI I o⟩
 . have r:j=2 ^ N:=by
    have:((2 ^ N:Nat):Int)<=(j:Int):=by simpa using r
    omega
   subst r;refine ⟨_,_,_,_,rfl,⟨fun e=> (by cases e),fun ⟨mo,h1,h3⟩=> ?_⟩,X.mod.trans G⟩;obtain ⟨t,ht,rfl⟩:=nJ h1;rw [Y t ht] at h3;cases h3
theorem Bo (h:Vw (Value.int .i64) w p mo) (hn:n=mo.length) (hm:n<=maxLen) (hp:sA N mo):Calls prog dU.id #[.slice p n c,.int .i64 N] w fun e w'=>e= .returned (.bool true)/\w'=w:=by
 subst hn;unfold maxLen at hm;refine dU.ah ?_;refine ⟨fun i u z=> ∃j:Nat,i=j/\j<=mo.length/\z=mo.length - j/\u=w,⟨_,0,rfl,Nat.zero_le _,rfl,rfl⟩,?_⟩;rintro i u z _ ⟨j,rfl,U,rfl,rfl⟩;refine ao (fun r=> ?_) (fun r=> ?_)
 . have r:j<mo.length:=by simpa using r
   have next: ∃Q,Q<mo.length - j/\∃O:Nat,IntKind.i64.wrap ((j:Int)+ (1:Int))=O/\O<=mo.length/\Q=mo.length - O/\u=u:=⟨_,by omega,j+1,wN (by omega) (by omega),r,rfl,rfl⟩
   refine h.ix 0 (by omega) rfl (by omega) fun a e=> ⟨_,e,ao (fun J=>h.ix 0 (by omega) rfl (by omega) fun a e=> ⟨_,e,ao (fun I=> ?_) (fun _=>next)⟩) (fun _=>next)⟩
   exfalso;rw [Int.toNat_natCast] at J I;have J:mo.getD j 0≠1:=by simpa using J
   have I:mo.getD j 0≠ -1:=by simpa using I
   rcases hp.pm (mo.getD j 0) (by simp [List.getD,r]) with e|e
   . exact J e
   . exact I e
 . refine ⟨?_,rfl⟩;rw [hp.len];simp
theorem Kk (U:V2 (Value.int .i64) w q hs cs) (hm:m=cs.length):Calls prog eS.id #[.agg #[.int .i64 k,.slice q m d]] w fun e w'=> ∃r:Bool,e= .returned (.bool r)/\(r=true->cs.length<=40/\dH k cs=true/\k<=10)/\aq w w':=by
 refine eS.ah ?_;intro n1 w2 I;refine ⟨_,_,_,_,il I.has,(Gj (U.grow I.mod) hm).mono ?_⟩;rintro e Y ⟨r,rfl,hr,O⟩;have J:=I.mod.trans O;refine ⟨_,rfl,ao (fun X=> ⟨_,_,_,_,il (I.has.grow O),(Dp (U.grow J) hm).mono ?_⟩) (fun _=> ⟨_,rfl,fun e=> (by cases e),J⟩)⟩;rintro e Z ⟨rfl,Q⟩;refine ⟨_,rfl,ao (fun V=> ⟨_,ad (I.has.grow (O.trans Q)) rfl,_,rfl,fun e=> ⟨hr X,V,by simpa using e⟩,J.trans Q⟩) (fun _=> ⟨_,rfl,fun e=> (by cases e),J.trans Q⟩)⟩
theorem ME {w:World} {n:Nat} {a1 a2 a3 a4 a5 V X b1 b2 I J O Q U:Value} (h:bF w n (wr #[a1,a2,a3,a4,a5,V,X] (0+0) [b1,b2,I,J,O,Q,U])):bF w n #[b1,b2,I,J,O,Q,U]:=(show wr #[a1,a2,a3,a4,a5,V,X] (0+0) [b1,b2,I,J,O,Q,U]= #[b1,b2,I,J,O,Q,U] by kernel_rfl)▸h
theorem Lf {pr:List Ps} (h:Vr 2 Jt w p pr) (J: ∀u∈pr,u.2.1.n=u.2.2.length/\Vw (Value.int .i64) w u.2.1.p u.2.2) (hl: ∀u∈pr,u.2.2.length<=maxLen):SV w p (pr.map GF):=by
 intro i hi;have I:i<pr.length:=by simpa using hi
 obtain ⟨a,e,O⟩:=h i I;have hm:pr[i]∈pr:=List.getElem_mem I;have ex:(pr.map GF).getD i lZ=GF pr[i]:=by simp [List.getD,I]
 rw [ex];exact ⟨a,pr[i].2.1,e,O,(J _ hm).1,by rw [(J _ hm).1];exact hl _ hm,(J _ hm).2⟩
theorem r_ {b uni lrn:Int} (hc:V2 (Value.int .i64) w q hs cs) (hm:m=cs.length):
 Calls prog bQ.id #[.agg #[.int .i64 k,.slice q m d],.agg #[.int .i64 b,.int .i64 uni,.int .i64 lrn]] w fun e w'=>e= .returned (.bool true)/\aq w w':=by
 refine bQ.ah ?_;intro n1 w2 h2 n3 w4 h4;have G4:=h2.mod.trans h4.mod;refine ⟨_,_,_,_,il (h2.has.grow h4.mod),(Kk (hc.grow G4) hm).mono ?_⟩;rintro e w7 ⟨r8,rfl,hf,g7⟩;have G7:=G4.trans g7;have B7:=(h2.has.grow h4.mod).grow g7;have D7:=h4.has.grow g7;refine ⟨_,rfl,ao (fun _=>CV G7) (fun r=> ?_)⟩;obtain ⟨d',ap,cp⟩:=hf (by simpa using r);refine ⟨_,_,_,⟨ad D7 rfl,ad D7 rfl,ad D7 rfl,trivial⟩,(ze _ _ _ _).mono ?_⟩;rintro e ea ⟨rfl,ar⟩;have a7:=G7.trans ar;refine ⟨_,rfl,ao (fun _=>CV a7) (fun r=> ?_)⟩;have Y:oS uni lrn=true:=by simpa using r
 have e1:=h2.num;have e3:=h4.num;have z2:=h2.size;refine bq (D7.grow ar) rfl rfl fun a_ V aw=> ?_;have V:bF a_ n3 #[.int .i64 (-1),.int .i64 uni,.int .i64 lrn]:=V;have ax:=(B7.grow ar).keep aw (by omega);have aT:aq w a_:=a7.then aw fun j hj e=>by omega
 refine ⟨_,_,_,_,il ax,_,_,_,⟨ad V rfl,ad V rfl,ad V rfl,trivial⟩,?_⟩;have dk:0<=k:=(IV ap).1;obtain ⟨N,hN⟩: ∃N:Nat,k=N:=⟨k.toNat,by omega⟩
 subst hN;obtain ⟨K,ok,bx,c7⟩:=Mi (N:=N) (by omega) Y;refine (uj (N:=N) (b:= -1) (hc.grow aT) hm ap Y rfl (by omega) ok bx (by omega)).mono ?_;rintro e b8 ⟨⟨jO,mp,mn,mc,pp,pn,pc,cf,de,re,dr,er,rfl,c0,d0,r0,dd,Z⟩,a8⟩;refine ⟨_,_,_,_,_,_,_,_,_,_,_,_,rfl,fun dq c2 av=> ?_⟩;have c3:=av.num;refine bq av.has rfl rfl fun bv J b3=> ?_;have J:=ME J;have Q:aq b8 bv:=aE.bW av.mod b3 (by omega);have a6:=(aT.trans a8).trans Q;have ay:=(ax.grow a8).grow Q;have b6:er=0:=by
  rcases Z with ⟨_,_,_,_,h,_⟩| ⟨h,_⟩| ⟨h,_⟩
  . omega
  . exact h
  . exact h
 subst b6;refine bm rfl ⟨_,ad J rfl,bm (decide_eq_false (by omega)) ⟨_,ad J rfl,bm (decide_eq_false (by omega)) ⟨_,ad J rfl,bm (decide_eq_false (by omega)) ⟨_,ad J rfl,bm (decide_eq_false (by omega)) ⟨_,_,_,_,il ay,(Em (hc.grow a6) hm (by omega) (by omega)).mono ?_⟩⟩⟩⟩⟩;rintro e cb ⟨ps,ns,dT,rs,rfl,aa,O⟩;have X:=a6.trans O;have I:=J.grow O;have ag:=ay.grow O;refine ⟨_,_,_,_,rfl,?_⟩;rcases Z with ⟨_,_,_,_,h,_⟩| ⟨_,rfl,rfl,_,mo,rfl,hv,_,hl,ce,hh⟩| ⟨_,rfl,rfl,_,cc,pr,rfl,b9,cg,an,c1,b'⟩
 . omega
 . have hp:sA N mo:=⟨hl,ce⟩
   have U:eD mo cs=true:=kD.2 hh;refine cj (aa.2 ⟨mo,hp,U⟩) ⟨_,ad I rfl,cj rfl ⟨_,_,_,ad I rfl,_,ad ag rfl,(Bo (hv.grow (Q.trans O)) rfl (by unfold maxLen;omega) hp).mono ?_⟩⟩;rintro e dc ⟨rfl,rfl⟩;refine ⟨_,rfl,cj rfl ⟨_,_,_,_,il ag,_,_,_,ad I rfl,(rD (hc.grow X) hm (by unfold maxLen;omega) (hv.grow (Q.trans O)) rfl (by unfold maxLen;omega)).mono ?_⟩⟩;rintro e d8 ⟨rfl,bb⟩;exact ⟨_,rfl,cj U ⟨_,_,_,ad (I.grow bb) rfl,cj rfl (CV (X.trans bb))⟩⟩
 . have bY: ¬Km N cs:=fun ⟨mo,h1,h2⟩=>by
    have:=yP (by omega) cc h1;rw [h2] at this;cases this
   have b7:rs=false:=by
    cases rs with
    |false=>rfl
    |true=>exact absurd (aa.1 rfl) bY
   have b4:SV cb pp (pr.map GF):=(Lf b9 cg fun u hu=>by
    have:=(an.qD (GF u) (List.mem_map_of_mem hu)).len;have:u.2.2.length<=N:=this;unfold maxLen;omega).grow (Q.trans O)
   refine bm b7 ⟨_,ad I rfl,cj rfl ⟨_,_,_,ad I rfl,cj rfl ⟨_,_,_,_,il ag,_,_,_,ad I rfl,(D4 (k:=(N:Int)) (hc.grow X) hm (by omega) b4 (by simp) b').mono ?_⟩⟩⟩;rintro e du ⟨r,rfl,hr,b5⟩;exact ⟨_,rfl,cj (hr.2 ⟨ap,an.KZ (by omega),an.plain⟩) (CV (X.trans b5))⟩
theorem vv (v0 v1:Value) (W:World) (O:Es W (.cons (.int .i64) (.cons (.sl (.sl (.int .i64))) .nil)) v0) (h1:Es W (.cons (.int .i64) (.cons (.int .i64) (.cons (.int .i64) .nil))) v1):Calls prog bQ.id #[v0,v1] W fun e J=>e= .returned (.bool true)/\aq W J:=by
 obtain ⟨k,q,j,d,hs,cs,rfl,I,_,Q,_⟩:=De O;obtain ⟨a,b,c,rfl⟩:=Da h1;exact r_ Q I
end
end Go.Proofs.YtenmibfmhccmiaaGreat.W
