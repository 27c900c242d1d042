/- Layer 12: what is left of what was learned, the level that is gone back to, and how many levels there are. -/
import Derived.Test.YtbdghpjnifjlmaaGreatLitA
import Derived.Test.YtbdghpjnifjlmaaGreatSortA
set_option linter.all false
namespace Go.Proofs.YtbdghpjnifjlmaaGreat.W.Le
open Go Go.Fw Go.RowKit Go.SoP Go.LiP Go.LeP
open Go.Proofs.Tryz (prog)
variable{W0 w w' W u:World}{p q:sn}{n c m d ns b1 b2 b3 nb:Nat}{tr:List As}{l ld:List Int}{s h:Int->Bool}
theorem Kn.keep{S:Nat->Prop}(k:Kn W0 w ns p n c tr b1 b2 b3 ld h)(m:aE S w w')(J:∀b,S b->W0.heap.size<=b)(h1: ¬S ns)(O: ¬S b1)(V: ¬S b2)(U: ¬S b3):Kn W0 w' ns p n c tr b1 b2 b3 ld h:=by
 obtain⟨S,⟨nb,s,M,hs⟩,⟨X,Q,K,I,hi⟩,d1,d2,d3,f⟩:=k;exact⟨S.keep m J h1 O,⟨nb,s,M.keep m V,hs⟩,⟨X,Q,K.keep m U,I,hi⟩,d1,d2,d3,f⟩
def sh(tr:List As)(ld:List Int):List Int->List Int
 | []=> []
 |x::t=>x::t.filter λy=>decide (0<lv tr y) && !pV tr ld y
theorem TB:sh tr ld ld=shr tr ld:=by cases ld<;>rfl
theorem PO{k:List Int}{t:Nat}(h:t<k.length):sh tr ld (k.take (t+1))=sh tr ld (k.take t)++ (if t=0\/(decide (0<lv tr (k.getD t 0)) && !pV tr ld (k.getD t 0))=true then [k.getD t 0] else []):=by
 cases k with
 |nil=>simp at h
 |cons x k=>
  cases t with
  |zero=>simp[sh]
  |succ t=>
   have J:t<k.length:=by simpa using h
   have e:(x::k).getD (t+1) 0=k.getD t 0:=by simp
   rw[e,Yp,Yp];show x::_=(x::_)++_;rw[pB J,Yg];congr 2;by_cases I:(decide (0<lv tr (k.getD t 0)) && !pV tr ld (k.getD t 0))=true
   .rw [v8 I,v8 (.inr I)]
   .rw [r8 I,r8 (by rintro(e|e);omega;exact I e)]
theorem St(k:List Int):(sh tr ld k).length<=k.length:=by
 cases k with
 |nil=>exact vy _
 |cons x t=>simp[sh];exact WZ _ _
def Tm(w J:World)(Q:Nat)(p:sn)(n c:Nat)(tr:List As)(b O U:Nat)(ld:List Int)(P:sn)(N C:Nat)(I:Int)(u:World)(z:Nat):Prop:=
 ∃ (t:Nat) (h:Int->Bool),I=t/\t<=ld.length/\z=ld.length - t/\N=(sh tr ld (ld.take t)).length/\d_ aB u P C (sh tr ld (ld.take t))/\(∀b,aF P=some b->J.heap.size<=b)/\Kn w u Q p n c tr b O U ld h/\J.heap.size<=u.heap.size
theorem yz(h:TV w p tr)(hn:n=tr.length)(av:gq tr=true)(hq:Vw sT w q ld)(hk:m=ld.length)(hx:m<=100000)(hb:∀x∈ld,mA tr x):
 Calls prog 164 #[.slice p n c,.slice q m d] w λe w'=>∃ (q2:sn) (d2:Nat),e=.returned (.slice q2 (shr tr ld).length d2)/\d_ aB w' q2 d2 (shr tr ld)/\ak w w'/\∀b,aF q2=some b->w.heap.size<=b:=by
 refine jT.aj ?_;obtain⟨ok,hl⟩:=q6 av;refine(wh h hn).mono ?_;rintro e w1⟨rfl,g1⟩;refine⟨_,rfl,bq (by rw[av];rfl) ?_⟩;refine(xu (h.grow g1) hn ok hl (hq.grow g1) hk (by unfold maxLen;omega) λx hx=> (hb x hx).ug).mono ?_;rintro e w5⟨rfl,g5⟩;refine⟨_,rfl,bq (by rw[nH.2 hb];rfl) ?_⟩;have G5:=g1.trans g5;refine(qM (h.grow G5) hn ok hl).mono ?_;rintro e w9⟨b,rfl,M9,g9,fb⟩;refine⟨_,rfl,λJ dd Z Q bf X=>?_⟩;have dq:=Z.num;have dT:=X.num;have s5:=G5.size;have s9:=g9.size;have d6:=Z.size;have dA:=X.size;have lb:=M9.lt;have bY:BC w bf Q p n c tr b J:=⟨h,hn,ok,hl,((G5.trans g9).trans Z.mod).trans X.mod,X.has,(M9.grow Z.mod).grow X.mod,by omega,by omega,by omega⟩
 have bu:MS prog aB bA bf J 0 λ_=>false:=(MS.new Z).grow X.mod;refine(mf bY bu hq hk (by omega) (λx hx=> (hb x hx).ug) 0).mono ?_;rintro e c1⟨rfl,an,bg,b5,_,a7,bb⟩;refine⟨rfl,λU V ag=>?_⟩;have c0:=ag.num;have c4:=ag.size;have c7:=a7.lt;have cm:=an.M.lt;have cg:=an.h.lt;have sG:=an.G.size;have b4:Kn w V Q p n c tr b J U ld λ_=>false:=by
  refine⟨an.grow ag.mod,⟨bg,b5,a7.grow ag.mod,λx=>?_⟩,⟨0,_,MK.new ag,xc _,λx _ e=>by simp at e⟩,by omega,by omega,by omega,by omega⟩;rw[bb x,Yc];refine decide_eq_decide.2 ⟨λh=>h.1,λh=>⟨h,λe=>?_⟩⟩;have:=dj (hb x h).ug;exact this.1 e
 refine⟨Tm w V Q p n c tr b J U ld,⟨_,0,_,rfl,xc _,rfl,rfl,Ow.nil _ _ _,λb hb=>by simp[aF]at hb,b4,vy _⟩,?_⟩;rintro P N C I c2 z _⟨t,hh,rfl,ht,rfl,rfl,O,fr,K,b7⟩;refine ah (λr=>?_) (λr=>?_)
 .have r:t<ld.length:=by simp at r;omega
  have hlen:=St (tr:=tr) (ld:=ld) (ld.take t);have dk:=List.length_take_le t ld;refine(hq.grow K.S.G).ix 0 (by omega) hk (by omega) λa e=>⟨_,e,?_⟩
  rw[tn];have hB:=hb _ (cw r);have es:=PO (tr:=tr) (ld:=ld) r;have co:=K.S.h.lt;have nu:∀ {u:World} {hh:Int->Bool},d_ aB u P C (sh tr ld (ld.take t))->Kn w u Q p n c tr b J U ld hh->V.heap.size<=u.heap.size->(t=0\/(decide (0<lv tr (ld.getD t 0)) && !pV tr ld (ld.getD t 0))=true)->∀n26 az,jz (.cells #[.i (ld.getD t 0)] 3) u n26 az->
   ∃ay aw ax ar,(Builtin.append_ #[aI,aI] aI #[.slice P (sh tr ld (ld.take t)).length C,.slice (some (qw n26)) 1 1]).run prog az=.ok (.slice aw ax ar) ay/\
   ∃aa,aa<ld.length - t/\Tm w V Q p n c tr b J U ld aw ax ar (IntKind.i64.wrap ((t:Int)+ (1:Int))) ay aa:=by
   intro u hh O K zu hc n26 az Y;rw[v8 hc]at es;have du:=Y.num;have d4:=Y.size;refine(O.grow Y.mod).jS cR _ Y.has rfl rfl eI (by omega) λay p' c' o' m' b6 dh=>?_;refine⟨_,?_,t+1,hh,wN,by omega,rfl,by rw[es,I'];rfl,by rw[es];exact o',λb hb=>?_,(K.grow Y.mod).keep m' (λb e=>?_) (λe=>?_) (λe=>?_) (λe=>?_) (λe=>?_),by omega⟩
   .omega
   .rcases b6 with rfl|rfl
    .exact fr b hb
    .have:=aO hb;omega
   all_goals
    have:=fr _ e;omega
  have skip:∀ {u:World} {hh:Int->Bool},d_ aB u P C (sh tr ld (ld.take t))->Kn w u Q p n c tr b J U ld hh->V.heap.size<=u.heap.size->¬(t=0\/(decide (0<lv tr (ld.getD t 0)) && !pV tr ld (ld.getD t 0))=true)->
   ∃aa,aa<ld.length - t/\Tm w V Q p n c tr b J U ld P (sh tr ld (ld.take t)).length C (IntKind.i64.wrap ((t:Int)+ (1:Int))) u aa:=by
   intro u hh O K zu hc;rw[r8 hc,W9]at es;exact⟨_,by omega,t+1,hh,wN,by omega,rfl,by rw[es],by rw[es];exact O,fr,K,zu⟩
  refine ah (λr2=>nu O K b7 (.inl (by simp at r2;omega))) (λr2=>?_);have r2:t≠0:=by intro e;subst e;simp at r2
  refine(AZ K.S hB).mono ?_;rintro e dp⟨rfl,ac⟩;have dc:=ac.size;refine⟨_,rfl,ah (λr3=>?_) (λr3=>skip (O.grow ac) (K.grow ac) (by omega) λe=>by rcases e with e|e;exact r2 e;rw[ts]at e;rw[e.1]at r3;simp at r3)⟩;refine(Nj _ (K.grow ac) hB rfl).mono ?_;rintro e dB⟨rfl,h2,a_,_,_,a'⟩;have cT:=a'.size;have a8:=(O.grow ac).keep a' λb hb (e:b=U)=>by have:=fr b hb;omega
  refine⟨_,rfl,ah (λr4=>nu a8 a_ (by omega) (.inr ?_)) (λr4=>skip a8 a_ (by omega) λe=>?_)⟩
  .rw [ts];exact⟨r3,r4⟩
  .rcases e with e|e
   .exact r2 e
   .rw [ts]at e;rw[e.2]at r4;simp at r4
 .have r:t=ld.length:=by simp at r;omega
  subst r;rw[L0,TB]at O ⊢;exact⟨_,_,rfl,O,K.S.G,λb hb=>by have:=fr b hb;omega⟩
theorem QJ{k:List Int}{t:Nat}(h:t<k.length):imax (pS tr (k.take t)) (lv tr (k.getD t 0))=pS tr (k.take (t+1)):=by
 rw[MP h];rfl
theorem D4(h:TV w p tr)(hn:n=tr.length)(J:gq tr=true)(hq:Vw sT w q ld)(hk:m=ld.length)(hx:m<=100000)(hd:m<=d)(hb:∀x∈ld,mA tr x):
 Calls prog 165 #[.slice p n c,.slice q m d] w λe w'=>e=.returned (.i (if ld.isEmpty then -1 else pS tr (ld.drop 1)))/\ak w w':=by
 refine om.aj ?_;obtain⟨ok,hl⟩:=q6 J;refine(wh h hn).mono ?_;rintro e w1⟨rfl,V⟩;refine⟨_,rfl,bq (by rw[J];rfl) (ah (λr=>?_) (λr=>?_))⟩
 .have:ld= []:=Wa (by simp at r;omega);subst this;exact⟨rfl,V⟩
 have Q:0<ld.length:=by
  rcases Wt ld.length with e|e
  .rw [hk,e]at r;simp at r
  .exact e
 refine(xu (h.grow V) hn ok hl (hq.grow V) hk (by unfold maxLen;omega) λx hx=> (hb x hx).ug).mono ?_;rintro e w3⟨rfl,g3⟩;refine⟨_,rfl,bq (by rw[nH.2 hb];rfl) ?_⟩;have G3:=V.trans g3;refine(qM (h.grow G3) hn ok hl).mono ?_;rintro e w5⟨b,rfl,M5,g5,fb⟩;refine⟨_,rfl,gh 1 m d rfl rfl rfl (vy _) hd (by omega) ?_⟩;have aa:ld.isEmpty=false:=by cases ld<;>simp at Q ⊢
 rw[aa];have Z:=G3.trans g5;have ac:(ld.drop 1).length=m - 1:=by rw[WD];omega
 have V5:Vw sT w5 (if d=1 then q else q.map (·.add (1*1))) (ld.drop 1):=by
  by_cases e:d=1
  .have:ld.drop 1= []:=Wa (by omega);rw[this];exact Vw.nil
  .rw [r8 e];have:=(hq.grow Z).part (i:=1) (m:=m - 1) (by omega)
   rwa [Wi (by omega)]at this
 refine⟨λL I u z=>∃t:Nat,I=t/\t<=(ld.drop 1).length/\z=(ld.drop 1).length - t/\L=pS tr ((ld.drop 1).take t)/\ak w5 u,⟨_,0,rfl,xc _,rfl,rfl,aE.refl _⟩,?_⟩;rintro L I X z _⟨t,rfl,ht,rfl,rfl,G⟩;refine ah (λr=>?_) (λr=>?_)
 .have r:t< (ld.drop 1).length:=by simp at r ⊢;omega
  refine(V5.grow G).ix 0 (by omega) ac.symm (by omega) λa e=>⟨_,e,?_⟩
  rw[tn];have U:=hb _ (YI (cw r));have av:=dj U.ug;refine(dy (by omega) (by omega) X).mono ?_;rintro e Y⟨rfl,O⟩;refine⟨_,rfl,Y,_,(M5.grow (G.trans O)).cY kR (qy U.ug),?_⟩;rw[oe hl U.lt];refine(h.grow ((Z.trans G).trans O)).ix hn _ rfl U.lt λa x C e1 e2 v=>⟨_,C.2.1,_,?_,t+1,wN,by omega,rfl,?_,G.trans O⟩
  .omega
  .exact QJ r
 .have r:t=(ld.drop 1).length:=by simp at r ht ⊢;omega
  subst r;rw[L0];exact⟨rfl,Z.trans G⟩
theorem AX(h:TV w p tr)(hn:n=tr.length)(O:gq tr=true)(hq:Vw sT w q ld)(hk:m=ld.length)(hx:m<=100000)(hb:∀x∈ld,mA tr x):
 Calls prog 166 #[.slice p n c,.slice q m d] w λe w'=>∃v:Int,e=.returned (.i v)/\(0<=v/\v<=m)/\ak w w':=by
 refine lC.aj ?_;obtain⟨ok,hl⟩:=q6 O;refine(wh h hn).mono ?_;rintro e w1⟨rfl,g1⟩;refine⟨_,rfl,bq (by rw[O];rfl) ?_⟩;refine(qM (h.grow g1) hn ok hl).mono ?_;rintro e w3⟨b,rfl,M3,g3,fb⟩;refine⟨_,rfl,λn5 w6 X=>?_⟩;have s1:=g1.size;have s3:=g3.size;have e5:=X.num;have lb:=M3.lt;refine⟨λI u z=>∃ (t nb:Nat) (s:Int->Bool),I=t/\t<=ld.length/\z=ld.length - t/\nb<=t/\MS prog aB bA u n5 nb s/\MI prog aB aB u b tr.length (yD tr)/\ak w u,⟨_,0,0,_,rfl,xc _,rfl,vy _,MS.new X,M3.grow X.mod,(g1.trans g3).trans X.mod⟩,?_⟩;rintro I Z z _⟨t,nb,s,rfl,ht,rfl,az,M,Mb,G⟩;refine ah (λr=>?_) (λr=>?_)
 .have r:t<ld.length:=by simp at r;omega
  refine(hq.grow G).ix 0 (by omega) hk (by omega) λa e=>⟨_,e,?_⟩
  rw[tn];have V:=hb _ (cw r);have ax:=dj V.ug;refine(dy (by omega) (by omega) Z).mono ?_;rintro e ac⟨rfl,J⟩;have Q:=IU ok hl V;refine⟨_,rfl,ac,_,(Mb.grow J).cY kR (qy V.ug),ah (λr2=>?_) (λr2=>?_)⟩
  .rw [oe hl V.lt];refine(h.grow (G.trans J)).ix hn _ rfl V.lt λa x C e1 e2 v=>⟨_,C.2.1,?_⟩
   obtain⟨aa,hr,Y,U⟩:=(M.grow J).put lU (by unfold maxLen;omega) (a:=(aZ tr (dD tr (am (ld.getD t 0)))).bM) (BH (by unfold lv at Q;omega) (by unfold lv at Q;omega));refine⟨aa,hr,_,?_,t+1,nb+1,_,wN,by omega,rfl,by omega,Y,(Mb.grow J).keep U λ(e:b=n5)=>by omega,aE.cE (G.trans J) U (by omega)⟩;omega
  .exact ⟨_,by omega,t+1,nb,s,wN,by omega,rfl,by omega,M.grow J,Mb.grow J,G.trans J⟩
 .have r:t=ld.length:=by simp at r;omega
  obtain⟨c',aT,hr⟩:=M.len lU 3;exact⟨_,hr,_,rfl,⟨by omega,by omega⟩,G⟩
end Go.Proofs.YtbdghpjnifjlmaaGreat.W.Le
namespace Go.RedP
open Go.SoP
abbrev Lr:=Int × Int × Bool
def aZ(l:List Lr)(x:Int):Lr:=l.getD x.toNat (0,0,false)
def GC(x:Lr):Bool:=decide (0<=x.2.1/\x.2.1<=4096/\0<=x.1/\x.1<=x.2.1)
def gD(x:Lr):Bool:=x.2.2||decide (x.1<=2)
def CD(l:List Lr)(a b:Int):Int:=
 if (aZ l a).1≠(aZ l b).1 then (aZ l a).1 - (aZ l b).1 else if (aZ l a).2.1≠(aZ l b).2.1 then (aZ l a).2.1 - (aZ l b).2.1 else b - a
def xy(l:List Lr)(a b:Int):Bool:=
 if (aZ l a).1≠(aZ l b).1 then decide ((aZ l a).1< (aZ l b).1) else if (aZ l a).2.1≠(aZ l b).2.1 then decide ((aZ l a).2.1< (aZ l b).2.1) else decide (a>b)
theorem CG(l:List Lr)(a b:Int):xy l a b=decide (CD l a b<0):=by
 unfold xy CD;split
 .exact decide_eq_decide.2 (by omega)
 .split
  .exact decide_eq_decide.2 (by omega)
  .exact decide_eq_decide.2 (by omega)
theorem Es(l:List Lr):Ord (CD l):=by
 constructor
 .intro x y h;unfold CD at*
  split at h<;>split<;> (try split at h)<;> (try split)<;>omega
 .intro x y z h1 I;unfold Le CD at*
  generalize aZ l x=a at*
  generalize aZ l y=b at*
  generalize aZ l z=d at*
  split at h1<;>split at I<;>split<;> (try split at h1)<;> (try split at I)<;> (try split)<;>omega
theorem SJ{l:List Lr}{a b:Int}(h:Le (CD l) a b)(I:a≠b):CD l a b<0:=by
 unfold Le CD at h;unfold CD;split at h<;>split<;> (try split at h)<;> (try split)<;>omega
def uo(n:Nat):List Int:=(List.range n).map Int.ofNat
theorem nJ(n:Nat):(uo n).length=n:=by simp[uo]
theorem zi{n:Nat}{x:Int}:x∈uo n↔0<=x/\x<n:=by
 simp only[uo,LV,Wv];constructor
 .rintro ⟨i,h,rfl⟩;exact⟨Zm i,by simpa using h⟩
 .intro h;exact⟨x.toNat,by omega,by show ((x.toNat:Nat):Int)=x;omega⟩
theorem Kx(n:Nat):(uo n).Nodup:=by
 unfold uo;exact List.Pairwise.map _ (λa b h e=>h (Int.ofNat.inj e)) List.nodup_range
def LJ(l:List Lr)(x:Int)(all:Bool):Nat:=(uo l.length).countP λi=>i !=x && (all|| !gD (aZ l i)) && xy l i x
def jD(l:List Lr):Nat:=(uo l.length).countP λi=> !gD (aZ l i)
def keep(l:List Lr)(x:Int):Bool:=gD (aZ l x)||decide (LJ l x false<jD l / 2)
def eY(l:List Lr)(o:List Int)(t:Nat):Nat:=(o.take t).countP λi=> !gD (aZ l i)
structure Cv(l:List Lr)(o:List Int):Prop where
 pm:o.Perm (uo l.length)
 so:uV (CD l) o 0 o.length
theorem Cv.len{l:List Lr}{o:List Int}(h:Cv l o):o.length=l.length:=by rw[h.pm.length_eq,nJ]
theorem Cv.nd{l:List Lr}{o:List Int}(h:Cv l o):o.Nodup:=h.pm.nodup_iff.2 (Kx _)
theorem Cv.VW{l:List Lr}{o:List Int}(h:Cv l o){t:Nat}(ht:t<o.length):0<=o.getD t 0/\o.getD t 0<l.length:=by
 have:o.getD t 0∈o:=by simp[List.getD,ht]
 exact zi.1 (h.pm.mem_iff.1 this)
theorem vL{o:List Int}(h:o.Nodup){i j:Nat}(hi:i<o.length)(I:j<o.length)(e:o.getD i 0=o.getD j 0):i=j:=by
 simp only[List.getD,V9 hi,V9 I,Wn]at e;exact(XE h).1 e
theorem Cv.find{l:List Lr}{o:List Int}(h:Cv l o){x:Int}(I:0<=x)(h1:x<l.length):∃t,t<o.length/\o.getD t 0=x:=by
 have:x∈o:=h.pm.mem_iff.2 (zi.2 ⟨I,h1⟩);obtain⟨t,ht,e⟩:=Bs.1 this;exact⟨t,ht,by simp[List.getD,ht,e]⟩
theorem Cv.lt{l:List Lr}{o:List Int}(h:Cv l o){i j:Nat}(I:i<j)(J:j<o.length):xy l (o.getD i 0) (o.getD j 0)=true/\xy l (o.getD j 0) (o.getD i 0)=false:=by
 have hs:=h.so i j (xc _) I J;rw[CG,CG];refine⟨I4 (SJ hs λe=>?_),x9 hs⟩;have:=vL h.nd (by omega) J e;omega
theorem y9{o:List Int}{i:Nat}(hi:i<o.length):o[i]=o.getD i 0:=by simp[List.getD,hi]
theorem Cv.LJ{l:List Lr}{o:List Int}(h:Cv l o){t:Nat}(ht:t<o.length)(all:Bool):
 LJ l (o.getD t 0) all=(o.take t).countP λi=>all|| !gD (aZ l i):=by
 unfold RedP.LJ;rw[<- h.pm.countP_eq];have Q:∀q:Int->Bool,o.countP q=(o.take t).countP q+ (o.drop t).countP q:=λq=>by rw[<- Xz,WN]
 rw[Q];have U:(o.drop t).countP (λi=>i !=o.getD t 0 && (all|| !gD (aZ l i)) && xy l i (o.getD t 0))=0:=by
  rw[X9];intro x J;obtain⟨j,O,rfl⟩:=Bs.1 J;rw[Y0,y9];rw[WD]at O;rcases Wt j with e|e
  .subst e;simp
  .rw [(h.lt (i:=t) (j:=t+j) (by omega) (by omega)).2];simp
 rw[U,XN];refine List.countP_congr λx J=>?_;obtain⟨j,O,rfl⟩:=Bs.1 J;rw[y6]at O;rw[XP,y9];have I:o.getD j 0≠o.getD t 0:=λe=>by have:=vL h.nd (by omega) ht e;omega
 rw[(h.lt (i:=j) (j:=t) (by omega) ht).1,show (o.getD j 0 !=o.getD t 0)=true from bne_iff_ne.2 I];simp
theorem Cv.keep{l:List Lr}{o:List Int}(h:Cv l o){t:Nat}(ht:t<o.length):keep l (o.getD t 0)=(gD (aZ l (o.getD t 0))||decide (eY l o t<jD l / 2)):=by
 unfold RedP.keep;rw[h.LJ ht false];simp only[Yc];rfl
theorem oK{l:List Lr}{o:List Int}{t:Nat}(ht:t<o.length):eY l o (t+1)=eY l o t+ (if gD (aZ l (o.getD t 0)) then 0 else 1):=by
 unfold eY;rw[Wo,Xz];have:o[t]? =some (o.getD t 0):=by simp[List.getD,ht]
 rw[this];simp only[Xn,WX,ZA];cases gD (aZ l (o.getD t 0))<;>simp
theorem Cv.Ra{l:List Lr}{o:List Int}(h:Cv l o):eY l o o.length=jD l:=by
 unfold eY jD;rw[L0,h.pm.countP_eq]
theorem qG{l:List Lr}{o:List Int}{s t:Nat}(h:s<=t)(ht:t<=o.length):eY l o s<=eY l o t:=by
 induction t with
 |zero=>rw[show s=0 by omega];exact vy _
 |succ t ih=>
  by_cases e:s=t+1
  .rw [e];exact vy _
  .rw [oK (by omega)];exact Wl (ih (by omega) (by omega)) (Yr _ _)
theorem Cv.T3{l:List Lr}{o:List Int}(h:Cv l o):(uo l.length).countP (λx=> !gD (aZ l x) && RedP.keep l x)=jD l / 2:=by
 rw[<- h.pm.countP_eq];have H:∀t,t<=o.length->(o.take t).countP (λx=> !gD (aZ l x) && RedP.keep l x)=min (jD l / 2) (eY l o t):=by
  intro t
  induction t with
  |zero=>intro _;simp[eY]
  |succ t J=>
   intro ht;have I:t<o.length:=by omega
   rw[Wo,Xz,J (by omega),oK I];have:o[t]? =some (o.getD t 0):=by simp[List.getD,I]
   rw[this];simp only[Xn,WX,ZA,h.keep I];cases gD (aZ l (o.getD t 0))
   .by_cases e:eY l o t<jD l / 2
    .simp [e];omega
    .simp [e];omega
   .simp
 have:=H o.length (vy _);rw[L0,h.Ra]at this;rw[this];omega
theorem OJ(l:List Lr)(a b:Int):Le (CD l) a b\/Le (CD l) b a:=by
 by_cases h:CD l b a<0
 .exact .inr ((Es l).Pm h)
 .exact .inl h
theorem S5(l:List Lr):∃o,Cv l o:=by
 refine⟨(uo l.length).mergeSort (λa b=>decide (¬CD l b a<0)),List.mergeSort_perm _ _,?_⟩;have hp:=List.pairwise_mergeSort (le:=λa b=>decide (¬CD l b a<0)) (λa b c h1 J=>by simp only[x7]at h1 J ⊢;exact(Es l).trans h1 J)
  (λa b=>by rcases OJ l a b with h|h<;>simp[Le]at h ⊢ <;>omega) (uo l.length)
 intro i j _ I O;have:=Wy.1 hp i j (by omega) O I;rw[y9,y9]at this;simp only[x7]at this;exact this
end Go.RedP
namespace Go.Proofs.YtbdghpjnifjlmaaGreat.W.Re
open Go Go.Fw Go.RowKit Go.SoP Go.RedP
open Go.Proofs.Tryz (prog)
section
abbrev Ll(x:Lr):List Value:= [.i x.1,.i x.2.1,.bool x.2.2]
theorem VK:Jk 3 Ll:=⟨λ_=>rfl,by decide,λx v hv=>by simp[Ll]at hv;rcases hv with rfl|rfl|rfl<;>rfl⟩
theorem cR:mg prog aI aB 8=true:=by kernel_rfl
theorem Q6:mg prog cM bA 1=true:=by kernel_rfl
theorem iC:(Tryz.prog.info? aB).bind (·.zero)=some (.i 0):=by kernel_rfl
theorem KA:(Tryz.prog.info? bA).bind (·.zero)=some (.bool false):=by kernel_rfl
variable{w:World}{p:sn}{n c:Nat}{l:List Lr}
theorem Ph(h:Vr 3 Ll w p l)(hn:n=l.length){X:Int}{x:Int}(e:X=x)(J:0<=x)(h1:x<l.length){K:Addr->Prop}
 (I:∀a,aM w a 0 (Ll (aZ l x))->K a):aV p n X 3 K:=by
 subst e;exact h.ix (0,0,false) J hn (by omega) I
theorem sC{a:Addr}{x:Lr}(h:aM w a 0 (Ll x)):w.cell? (a.add 0)=some (.i x.1)/\w.cell? (a.add 1)=some (.i x.2.1)/\w.cell? (a.add 2)=some (.bool x.2.2):=⟨h.1,h.2.1,h.2.2.1⟩
theorem Qa(x:Lr)(w:World):Calls prog 208 #[.agg #[.i x.1,.i x.2.1,.bool x.2.2]] w λe w'=>e=.returned (.bool (gD x))/\ak w w':=by
 refine mY.aj ?_;intro I w2 h1;refine⟨_,ae h1.has rfl,ah (λq=>⟨?_,h1.mod⟩) (λq=>⟨_,ae h1.has rfl,?_,h1.mod⟩)⟩
 .unfold gD;rw[q];rfl
 .unfold gD;rw[q];rfl
theorem LW{f:Lr->Bool}{t:Nat}(h:(l.take t).all f=true)(ht:t<l.length)(I:f (aZ l t)=true):(l.take (t+1)).all f=true:=by
 rw[Wo,Yz,h];have:l[t]? =some (aZ l t):=by simp[aZ,List.getD,ht]
 rw[this];simpa using I
theorem Q0{f:Lr->Bool}{t:Nat}(ht:t<l.length)(I:f (aZ l t)=false):l.all f=false:=by
 cases h:l.all f with
 |false=>rfl
 |true=>
  have:=K'.1 h (aZ l t) (by simp[aZ,List.getD,ht]);rw[I]at this;cases this
theorem yj(h:Vr 3 Ll w p l)(hn:n=l.length)(hm:n<=maxLen):Calls prog 207 #[.slice p n c] w λe w'=>e=.returned (.i (if l.all GC then 0 else 1))/\ak w w':=by
 refine kS.aj ?_;unfold maxLen at hm;refine⟨λI w' k=>∃t:Nat,I=t/\t<=l.length/\k=l.length - t/\(l.take t).all GC=true/\ak w w',⟨_,0,rfl,xc _,rfl,rfl,aE.refl w⟩,?_⟩;rintro I w1 k _⟨t,rfl,ht,rfl,ha,G⟩;refine ah (λq=>?_) (λq=>⟨?_,G⟩)
 .have q:t<l.length:=by simp at q;omega
  have H:=h.grow G;refine Ph H hn (x:=t) rfl (by omega) (by omega) λa C=>⟨_,_,_,C,?_⟩
  intro U w2 O;refine aX O.has rfl rfl λw3 J m3=>?_;have Q:ak w w3:=G.trans (O.mod.cE m3 (by have:=O.num;omega));have J:bO w3 U #[.i (aZ l t).1,.i (aZ l t).2.1,.bool (aZ l t).2.2]:=J;have np:GC (aZ l t)=false->(Ending.returned (.i 1)=.returned (.i (if l.all GC then 0 else 1))/\ak w w3):=λhb=>by rw[Q0 q hb];exact⟨rfl,Q⟩
  unfold GC at np;refine⟨_,ae J rfl,ah (λs=>np (by simp at s;simp;omega)) (λZ=>?_)⟩;refine⟨_,ae J rfl,ah (λs=>np (by simp at s;simp;omega)) (λX=>?_)⟩;refine⟨_,ae J rfl,ah (λs=>np (by simp at s;simp;omega)) (λY=>?_)⟩;refine⟨_,ae J rfl,_,ae J rfl,ah (λs=>np (by simp at s;simp;omega)) (λV=>?_)⟩;refine⟨_,?_,t+1,?_,by omega,rfl,LW ha q ?_,Q⟩
  .omega
  .rw [ao (by omega) (by omega)];omega
  .unfold GC;simp only[x8]at Z X Y V;exact I4 (by omega)
 .have:t=l.length:=by simp at q;omega
  subst this;rw[L0]at ha;rw[ha];rfl
theorem LG(hl:l.all GC=true){x:Int}(I:0<=x/\x<l.length):0<=(aZ l x).2.1/\(aZ l x).2.1<=4096/\0<=(aZ l x).1/\(aZ l x).1<=(aZ l x).2.1:=by
 have:=K'.1 hl (aZ l x) (by simp[aZ,List.getD,show x.toNat<l.length by omega]);unfold GC at this;exact of_decide_eq_true this
theorem Uq(h:Vr 3 Ll w p l)(hl:0<l.length):∀b,aF p=some b->b<w.heap.size:=by
 intro b hb;obtain⟨a,rfl,C⟩:=h 0 hl;have:=World.block_lt_of_cell? w _ C.1;rw[cV,cV]at this;simp[aF]at hb;omega
theorem Ld(h:Vr 3 Ll w p l)(hn:n=l.length)(hm:n<=maxLen)(hl:l.all GC=true){nb:Nat}(hb:bO w nb #[.slice p n c]){x y:Int}(I:0<=x/\x<l.length)(J:0<=y/\y<l.length):
 Calls prog 216 #[.i x,.i y,.pointer (some ⟨nb,0,none⟩)] w λe w'=>e=.returned (.i (CD l x y))/\xZ w w':=by
 refine fE.aj ?_;unfold maxLen at hm;have G:xZ w w.drew:=(xZ.refl w).drew;have Q:=LG hl I;have U:=LG hl J;refine⟨_,_,_,aP hb.drew rfl,Ph h.drew hn rfl I.1 I.2 λa C=>⟨_,(sC C).1,_,_,_,aP hb.drew rfl,Ph h.drew hn rfl J.1 J.2 λa D=>⟨_,(sC D).1,ah (λq=>?_) (λq=>?_)⟩⟩⟩
 .have q:(aZ l x).1≠(aZ l y).1:=by simpa using q
  refine⟨_,_,_,aP hb.drew.drew rfl,Ph h.drew.drew hn rfl I.1 I.2 λa C=>⟨_,(sC C).1,_,_,_,aP hb.drew.drew rfl,Ph h.drew.drew hn rfl J.1 J.2 λa D=>⟨_,(sC D).1,?_,G.drew⟩⟩⟩;unfold CD;rw[v8 q,ao (by omega) (by omega)]
 .have q: ¬(aZ l x).1≠(aZ l y).1:=by simpa using q
  refine⟨_,_,_,aP hb.drew.drew rfl,Ph h.drew.drew hn rfl I.1 I.2 λa C=>⟨_,(sC C).2.1,_,_,_,aP hb.drew.drew rfl,Ph h.drew.drew hn rfl J.1 J.2 λa D=>⟨_,(sC D).2.1,ah (λO=>?_) (λO=>⟨?_,G.drew⟩)⟩⟩⟩
  .have O:(aZ l x).2.1≠(aZ l y).2.1:=by simpa using O
   refine⟨_,_,_,aP hb.drew.drew.drew rfl,Ph h.drew.drew.drew hn rfl I.1 I.2 λa C=>⟨_,(sC C).2.1,_,_,_,aP hb.drew.drew.drew rfl,Ph h.drew.drew.drew hn rfl J.1 J.2 λa D=>⟨_,(sC D).2.1,?_,G.drew.drew⟩⟩⟩;unfold CD;rw[r8 q,v8 O,ao (by omega) (by omega)]
  .have O: ¬(aZ l x).2.1≠(aZ l y).2.1:=by simpa using O
   unfold CD;rw[r8 q,r8 O,ao (by omega) (by omega)]
theorem Iv:f_ prog 216=true:=by kernel_rfl
theorem Sx(u v z:Value):(#[]++ #[u,v]++ #[z]:Array Value)= #[u,v,z]:=by simp
def Eo(t m:Nat):List Int:=(List.range t).map Int.ofNat++List.replicate (m - t) 0
theorem NW{t m:Nat}(h:t<=m):(Eo t m).length=m:=by simp[Eo];omega
theorem ML(m:Nat):Eo m m=uo m:=by simp[Eo,uo]
theorem Lt{t m:Nat}(h:t<m):(Eo t m).set t (t:Int)=Eo (t+1) m:=by
 unfold Eo;rw[List.set_append,r8 (by simp),We,Xt,Zj,Xh,GD,WH];congr 1;rw[show m - t=(m - (t+1))+1 by omega,List.replicate_succ];rfl
theorem OS(h:Vr 3 Ll w p l)(hn:n=l.length)(hm:n<=1000000):Calls prog 209 #[.slice p n c] w λe w'=>∃ (q:sn) (d:Nat) (o:List Int),e=.returned (.slice q o.length d)/\ak w w'/\d_ aB w' q d o/\(if l.all GC then Cv l o else o= [])/\(∀b,aF q=some b->w.heap.size<=b):=by
 refine lS.aj ?_;intro nb w1 h1;have O:ak w w1:=h1.mod;have aT:=h1.num;refine⟨_,_,_,aP h1.has rfl,(yj (h.grow O) hn (by unfold maxLen;omega)).mono ?_⟩;rintro e w2⟨rfl,J⟩;have b2:=h1.has.grow J;cases hl:l.all GC with
 |false=>
  refine⟨_,rfl,bJ rfl ⟨none,0,[],rfl,O.trans J,Ow.nil _ _ _,by simp,λb hb=>by simp[aF]at hb⟩⟩
 |true=>
  refine⟨_,rfl,bq rfl ⟨_,_,_,aP b2 rfl,?_⟩⟩;have ax:=J.size;have s1:=h1.size;refine ra cR iC (x:=(0:Int)) rfl n rfl (by omega) λw3 o3 g3 z3=>?_;have b3:=b2.grow g3;refine⟨_,_,_,aP b3 rfl,?_⟩;have hq:∀b,aF (some (⟨w2.heap.size,0,none⟩:Addr))=some b->b=w2.heap.size:=λb hb=>by simp[aF]at hb;exact hb.symm
  refine⟨λI w' k=>∃t:Nat,I=t/\t<=n/\k=n - t/\d_ aB w' (some ⟨w2.heap.size,0,none⟩) n (Eo t n)/\aE (λb=>b=w2.heap.size) w2 w',⟨_,0,rfl,xc _,rfl,by simpa[Eo]using o3,g3.mono λ_ _=>False.elim⟩,?_⟩;rintro I w4 k _⟨t,rfl,ht,rfl,V,m4⟩;have U:=NW ht;refine ah (λq=>?_) (λq=>?_)
  .have q:t<n:=by simpa using q
   refine V.st (t:Int) rfl rfl (by omega) U.symm (by omega) λw5 Q Y=>?_;rw[tn,Lt q]at Q;refine⟨_,?_,t+1,wN,by omega,rfl,Q,m4.then Y λb _ hb=>hq b hb⟩;omega
  .have q:t=n:=by simp at q;omega
   subst q;have G4:ak w2 w4:=m4.mono λb hb e=>by omega
   have B4:=b2.grow G4;have H4:=((h.grow O).grow J).grow G4;rw[ML]at V;have ac:nb≠w2.heap.size:=by have:=b2.lt;omega
   have X:Cx w4 (some ⟨w2.heap.size,0,none⟩) t (uo t) 216 #[.pointer (some ⟨nb,0,none⟩)] (CD l):=by
    refine⟨(nJ t).symm,by omega,Iv,λx hx y hy w' m'=>?_,Es l⟩;rw[Sx];have hx:=zi.1 hx;have hy:=zi.1 hy;refine Ld (H4.keep m' λb hb e=>?_) hn (by unfold maxLen;omega) hl (B4.keep m' λe=>ac (hq _ e)) (by omega) (by omega);have e:=hq _ e;have:=Uq h (by omega) b hb;have:=O.size;have:=J.size;omega
   refine(D0 X V).mono ?_;rintro e w5⟨rfl,l5,Q,Y,Z,s5⟩;refine⟨rfl,_,_,l5,?_,?_,Q,?_,?_⟩
   .rw [Z.length_eq,nJ]
   .exact (O.trans J).then (m4.then (S:=λb=>b=w2.heap.size) Y λb _ hb=>hq b hb) λb hb e=>by omega
   .rw [v8 rfl];rw[hn]at Z;exact⟨Z,s5⟩
   .intro b hb;have:=hq b hb;omega
end
section
variable{w:World}{p:sn}{n c:Nat}{l:List Lr}
theorem FK(t:Nat):uo (t+1)=uo t++ [(t:Int)]:=by
 unfold uo;rw[Xh,GD];rfl
def oP(l:List Lr)(t m:Nat):List Bool:=((uo t).map λi=>gD (aZ l i))++List.replicate (m - t) false
theorem qS{t m:Nat}(h:t<=m):(oP l t m).length=m:=by simp[oP,nJ];omega
theorem Bh{t m:Nat}(h:t<m):(oP l t m).set t (gD (aZ l t))=oP l (t+1) m:=by
 unfold oP;rw[List.set_append,r8 (by simp[nJ]),We,nJ,Zj,FK,GD,WH];congr 1;rw[show m - t=(m - (t+1))+1 by omega,List.replicate_succ];rfl
theorem HR{t m:Nat}(h:t<m):(oP l (t+1) m).getD t false=gD (aZ l t):=by
 rw[<- Bh h];simp[List.getD,qS (Zx h),h]
theorem HC{m x:Nat}(h:x<m):(oP l m m).getD x false=gD (aZ l x):=by
 unfold oP;simp[uo,List.getD,h]
theorem B_(t:Nat):((uo (t+1)).countP λi=> !gD (aZ l i))=((uo t).countP λi=> !gD (aZ l i))+ (if gD (aZ l t) then 0 else 1):=by
 rw[FK,Xz];simp only[WX,ZA];cases gD (aZ l t)<;>simp
theorem Ja(t:Nat):((uo t).countP λi=> !gD (aZ l i))<=t:=by
 have:=Xm (p:=λi=> !gD (aZ l i)) (l:=uo t)
 rwa [nJ]at this
theorem Kv{b:List Bool}{i j:Nat}{x:Bool}(hi:i<b.length):(b.set i x).getD j false=if j=i then x else b.getD j false:=by
 simp only[vx,Xe];by_cases h:j=i
 .subst h;simp[hi]
 .rw [r8 (λe=>h e.symm),r8 h]
theorem QP(h:Vr 3 Ll w p l)(hn:n=l.length)(hm:n<=1000000):Calls prog 177 #[.slice p n c] w λe w'=>∃ (q:sn) (d:Nat) (k:List Bool),e=.returned (.slice q k.length d)/\ak w w'/\Ow Value.bool bA w' q d k/\(∀b,aF q=some b->w.heap.size<=b)/\
 (if l.all GC then k.length=n/\∀x:Nat,x<n->k.getD x false=keep l x else k= []):=by
 refine mW.aj ?_;refine(yj h hn (by unfold maxLen;omega)).mono ?_;rintro e w1⟨rfl,g1⟩;cases hl:l.all GC with
 |false=>exact⟨_,rfl,bJ rfl ⟨none,0,[],rfl,g1,Ow.nil _ _ _,λb hb=>by simp[aF]at hb,by simp⟩⟩
 |true=>
 refine⟨_,rfl,bq rfl ?_⟩;refine ra Q6 KA (x:=false) rfl n rfl (by omega) λw2 o2 g2 z2=>?_;have hq:∀b,aF (some (⟨w1.heap.size,0,none⟩:Addr))=some b->b=w1.heap.size:=λb hb=>by simp[aF]at hb;exact hb.symm
 have hN:aE (λb=>b=w1.heap.size) w1 w2:=g2.mono λ_ _=>False.elim;refine⟨λF I w' k=>∃t:Nat,I=t/\F=((uo t).countP λi=> !gD (aZ l i):Nat)/\t<=n/\k=n - t/\Ow Value.bool bA w' (some ⟨w1.heap.size,0,none⟩) n (oP l t n)/\aE (λb=>b=w1.heap.size) w1 w',⟨_,0,rfl,rfl,xc _,rfl,by simpa[oP,uo]using o2,hN⟩,?_⟩;rintro F I w3 k _⟨t,rfl,rfl,ht,rfl,o3,m3⟩;have G3:ak w1 w3:=m3.mono λb hb e=>by omega
 have H3:=(h.grow g1).grow G3;refine ah (λq=>?_) (λq=>?_)
 .have q:t<n:=by simpa using q
  refine Ph H3 hn (x:=t) rfl (by omega) (by omega) λa C=>⟨_,_,_,C,?_⟩
  intro n1 w4 h4;refine aX h4.has rfl rfl λw5 h5 m5=>?_;have g5:ak w3 w5:=h4.mod.cE m5 (by have:=h4.num;omega);have h5:bO w5 n1 #[.i (aZ l t).1,.i (aZ l t).2.1,.bool (aZ l t).2.2]:=h5;refine⟨_,_,_,⟨ae h5 rfl,ae h5 rfl,ae h5 rfl,trivial⟩,(Qa (aZ l t) w5).mono ?_⟩;rintro e w6⟨rfl,g6⟩;refine⟨_,rfl,?_⟩;have o6:=o3.grow (g5.trans g6);have hlen:=qS (l:=l) ht;refine o6.st (gD (aZ l t)) rfl rfl (by omega) hlen.symm (by omega) λw7 o7 m7=>?_;rw[tn,Bh q]at o7;have M7:aE (λb=>b=w1.heap.size) w1 w7:=(m3.grow (g5.trans g6)).then m7 λb _ hb=>hq b hb;refine o7.ix false (by omega) (qS (by omega)).symm (by omega) λa e=>⟨_,e,?_⟩
  rw[tn,HR q];have hf:=Ja (l:=l) t;refine ah (λs=>?_) (λs=>?_)
  .refine ⟨_,?_,t+1,wN,?_,by omega,rfl,o7,M7⟩
   .omega
   .have s:gD (aZ l t)=false:=by simpa using s
    rw[B_,s];exact wN (by simp) (by simp;omega)
  .refine ⟨_,?_,t+1,wN,?_,by omega,rfl,o7,M7⟩
   .omega
   .have s:gD (aZ l t)=true:=by simpa using s
    rw[B_,s];rfl
 .have q:t=l.length:=by simp at q;omega
  subst q;have a7:n=l.length:=hn;subst a7;refine⟨by decide,(OS H3 rfl hm).mono ?_⟩;rintro e w4⟨q,d,o,rfl,g4,oo,X,a_⟩;rw[hl,v8 rfl]at X;have cp:=X.len;refine⟨_,_,_,rfl,?_⟩;have a6:((uo l.length).countP λi=> !gD (aZ l i))=jD l:=rfl;rw[a6];have co:jD l<=l.length:=Ja l.length;have ed:IntKind.i64.wrap (((jD l:Nat):Int).tdiv 2)=((jD l / 2:Nat):Int):=wN (by rw[Wc (by omega)];omega) (by omega);rw[ed];refine⟨λL I w' k=>∃ (t:Nat) (b:List Bool),I=t/\L=(jD l / 2 - eY l o t:Nat)/\t<=o.length/\k=o.length - t/\b.length=l.length/\(∀x:Nat,x<l.length->(b.getD x false=true↔gD (aZ l x)=true\/∃j,j<t/\o.getD j 0=(x:Int)/\eY l o j<jD l / 2))/\
   Ow Value.bool bA w' (some ⟨w1.heap.size,0,none⟩) l.length b/\d_ aB w' q d o/\aE (λb=>b=w1.heap.size) w1 w',⟨_,0,oP l l.length l.length,rfl,by simp[eY],xc _,rfl,qS (vy _),λx Z=>by rw[HC Z];simp,o3.grow g4,oo,m3.grow g4⟩,?_⟩
  rintro L I w5 k _⟨t,b,rfl,rfl,ht,rfl,hb,Z,ob,o5,m5⟩;refine ah (λr=>?_) (λr=>?_)
  .have r:t<o.length:=by simpa using r
   refine o5.ix 0 (by omega) rfl (by omega) λa e=>⟨_,e,?_⟩
   rw[tn];obtain⟨r0,r1⟩:=X.VW r;obtain⟨x,ex⟩: ∃x:Nat,o.getD t 0=(x:Int):=⟨(o.getD t 0).toNat,by omega⟩
   have V:x<l.length:=by omega
   rw[ex];refine ob.ix false (by omega) hb.symm (by omega) λa e=>⟨_,e,?_⟩
   rw[tn];have ap:=Z x V;have Q: ¬∃j,j<t/\o.getD j 0=(x:Int)/\eY l o j<jD l / 2:=by
    rintro⟨j,Y,O,_⟩;have:=vL X.nd (i:=j) (j:=t) (by omega) r (by rw[O,ex]);omega
   have ar:∀y:Nat,(∃j,j<t+1/\o.getD j 0=(y:Int)/\eY l o j<jD l / 2)↔(∃j,j<t/\o.getD j 0=(y:Int)/\eY l o j<jD l / 2)\/(y=x/\eY l o t<jD l / 2):=by
    intro y;constructor
    .rintro ⟨j,Y,O,j3⟩;by_cases e:j=t
     .subst e;rw[ex]at O;exact .inr ⟨by omega,j3⟩
     .exact .inl ⟨j,by omega,O,j3⟩
    .rintro (⟨j,Y,O,j3⟩| ⟨rfl,j3⟩)
     .exact ⟨j,by omega,O,j3⟩
     .exact ⟨t,by omega,ex,j3⟩
   have cs:=oK (l:=l) r;rw[ex]at cs;have J:gD (aZ l (x:Int))=b.getD x false:=by
    cases an:b.getD x false with
    |true=>
     rcases ap.1 an with h|h
     .exact h
     .exact absurd h Q
    |false=>
     cases a8:gD (aZ l (x:Int)) with
     |false=>rfl
     |true=>have:=ap.2 (.inl a8);rw[an]at this;exact this.symm
   have et:IntKind.i64.wrap ((t:Int)+1)=((t+1:Nat):Int):=wN;have stay:(b.getD x false=true\/¬eY l o t<jD l / 2)->∀y:Nat,y<l.length->(b.getD y false=true↔gD (aZ l y)=true\/∃j,j<t+1/\o.getD j 0=(y:Int)/\eY l o j<jD l / 2):=by
    intro hc y hy;rw[Z y hy,ar y];constructor
    .rintro (h|h)
     .exact .inl h
     .exact .inr (.inl h)
    .rintro (h|h| ⟨rfl,h⟩)
     .exact .inl h
     .exact .inr h
     .rcases hc with hc|hc
      .exact .inl (by rw[J];exact hc)
      .exact absurd h hc
   refine ah (λs=>?_) (λs=>?_)
   .have s:b.getD x false=false:=by simpa using s
    rw[s]at J;rw[J]at cs;refine ah (λU=>?_) (λU=>?_)
    .have U:eY l o t<jD l / 2:=by simp at U;omega
     refine ob.st true rfl rfl (by omega) hb.symm (by omega) λw6 o6 m6=>?_;rw[tn]at o6;have M6:aE (λb=>b=w1.heap.size) w1 w6:=m5.then m6 λb _ hb=>hq b hb;refine⟨_,?_,t+1,_,et,?_,by omega,rfl,by simpa using hb,λy hy=>?_,o6,?_,M6⟩
     .omega
     .rw [cs];simp only[Xo,I8];rw[ao (by omega) (by omega)];omega
     .rw [Kv (by omega),ar y];by_cases e:y=x
      .subst e;rw[v8 (Eq.refl y)];simp[U]
      .rw [r8 e,Z y hy];constructor
       .rintro (h|h)
        .exact .inl h
        .exact .inr (.inl h)
       .rintro (h|h| ⟨h,_⟩)
        .exact .inl h
        .exact .inr h
        .exact absurd h e
     .refine o5.keep m6 λb hb e=>?_;have:=a_ b hb;have:=hq b e;have:=m3.size;have:=z2;have:=hN.size;have b6:=o3.lt w1.heap.size rfl;omega
    .have U: ¬eY l o t<jD l / 2:=by simp at U;omega
     refine⟨_,?_,t+1,b,et,?_,by omega,rfl,hb,stay (.inr U),ob,o5,m5⟩
     .omega
     .rw [cs];simp only[Xo,I8];omega
   .have s:b.getD x false=true:=by simpa using s
    rw[s]at J;rw[J]at cs;refine⟨_,?_,t+1,b,et,?_,by omega,rfl,hb,stay (.inl s),ob,o5,m5⟩
    .omega
    .rw [cs];simp
  .have r:t=o.length:=by simp at r;omega
   subst r;refine⟨_,_,b,by rw[hb],g1.trans (m5.mono λb hb e=>by omega),ob,λb hb=>by have:=hq b hb;have:=g1.size;omega,?_⟩;rw[v8 rfl];refine⟨hb,λx V=>?_⟩;obtain⟨j,Y,O⟩:=X.find (x:=(x:Int)) (by omega) (by omega);have hk:=X.keep Y;rw[O]at hk;rw[hk,W4,Z x V,W7,x7];constructor
   .rintro (h| ⟨i,i1,i2,i3⟩)
    .exact .inl h
    .have:=vL X.nd i1 Y (by rw[i2,O]);subst this;exact .inr i3
   .rintro (h|h)
    .exact .inl h
    .exact .inr ⟨j,Y,O,h⟩
end
