/- Layer 15: nodes in memory. -/
import Derived.Test.YtbdghpjnifjlmaaGreatGenCert
import Derived.Test.YtbdghpjnifjlmaaGreatSortA
import Derived.Test.YtbdghpjnifjlmaaGreatFwEq
set_option linter.all false
namespace Go.Proofs.YtbdghpjnifjlmaaGreat.W.Rk
open Go Go.Fw Go.RowKit
abbrev nB(x:Int × Int):List Value:= [.i x.1,.i x.2]
theorem cR:mg Tryz.prog aI aB 8=true:=by kernel_rfl
theorem iP:mg Tryz.prog eJ aI 24=true:=by kernel_rfl
theorem iC:(Tryz.prog.info? aB).bind (·.zero)=some (.i 0):=by kernel_rfl
abbrev ptr(b:Nat):Value:=.pointer (some ⟨b,0,none⟩)
theorem pF(w:World):Calls Tryz.prog 141 #[] w λe w'=>e=.returned (.agg #[.i (-1),.i (-1)])/\ak w w':=by
 refine qm.aj ?_;intro I w2 h1;have O:=h1.num;refine aX h1.has rfl rfl λw3 H m=>⟨_,_,⟨ae H rfl,ae H rfl,trivial⟩,rfl,h1.mod.then m λk J (e:k=I)=>by omega⟩
end Go.Proofs.YtbdghpjnifjlmaaGreat.W.Rk
namespace Go.TsP
section
abbrev Gt:=Int × Int
def BX(i:Nat)(x:Gt):Bool:=decide (x=(-1,-1))||decide (0<=x.1/\0<=x.2/\x.1<=2*i+1/\x.2<=2*i+1)
def iT(g:List Gt):Bool:=decide (g.length<=1048576) && (List.range g.length).all λi=>BX i (g.getD i (0,0))
def sg(n:Nat)(l:Int):Bool:=decide (0<=l/\l<=2*n+1)
def tP(n:Nat)(c:List Int):Bool:=c.all (sg n) && decide (c.length<=4096)
def gq(g:List Gt)(cs:lq):Bool:=iT g && cs.all (tP g.length)
theorem jC{g:List Gt}(h:iT g=true){i:Nat}(hi:i<g.length):BX i (g.getD i (0,0))=true:=by
 simp only[iT,ts,K',Wv]at h;exact h.2 i hi
theorem kX{i:Nat}{x:Gt}(h:BX i x=true)(I:0<=x.1):0<=x.2/\x.1<=2*i+1/\x.2<=2*i+1:=by
 simp only[BX,W7,x7]at h;rcases h with h|h
 .rw [h]at I;simp at I
 .exact ⟨h.2.1,h.2.2.1,h.2.2.2⟩
def Lp(cs:lq)(n:Nat):Prop:=∃c∈cs,∃l∈c,l.tdiv 2=(n:Int)
def BG(g:List Gt)(i n:Nat):Prop:=0<=(g.getD i (0,0)).1/\((g.getD i (0,0)).1.tdiv 2=n\/(g.getD i (0,0)).2.tdiv 2=n)
inductive H (g:List Gt) (cs:lq):Nat->Prop
 |Lp {n:Nat}:Lp cs n->H g cs n
 |BG {n i:Nat}:n<=i->i<g.length->BG g i n->H g cs (i+1)->H g cs n
theorem H.Lw{g:List Gt}{cs:lq}{n:Nat}:H g cs n↔TsP.Lp cs n\/∃i,n<=i/\i<g.length/\TsP.BG g i n/\H g cs (i+1):=by
 constructor
 .intro h;cases h with
  |Lp h=>exact .inl h
  |BG h1 J O I=>exact .inr ⟨_,h1,J,O,I⟩
 .rintro (h| ⟨i,h1,J,O,I⟩)
  .exact .Lp h
  .exact .BG h1 J O I
theorem Aj{g:List Gt}(h:iT g=true){i n:Nat}(hi:i<g.length)(J:BG g i n):n<=i:=by
 obtain⟨I,h1⟩:=J;have:=kX (jC h hi) I;rw[Wc I,Wc this.1]at h1;omega
def eY(P:Nat->Bool):Nat->Nat
 |0=>0
 |t+1=>eY P t+ (if P (t+1) then 1 else 0)
def vs(P:Nat->Bool)(t:Nat):List Int:=(List.range t).map λi=>if P (i+1) then (eY P (i+1):Int) else 0
theorem DQ(P:Nat->Bool)(t:Nat):(vs P t).length=t:=by simp[vs]
theorem Jm(P:Nat->Bool)(t:Nat):vs P (t+1)=vs P t++ [if P (t+1) then (eY P (t+1):Int) else 0]:=by simp[vs,Xh]
theorem Iy(P:Nat->Bool){t i:Nat}(h:i<t):(vs P t).getD i 0=if P (i+1) then (eY P (i+1):Int) else 0:=by simp[vs,List.getD,h]
theorem oK(P:Nat->Bool)(t:Nat):eY P (t+1)=eY P t+ (if P (t+1) then 1 else 0):=rfl
theorem qG(P:Nat->Bool){a b:Nat}(h:a<=b):eY P a<=eY P b:=by
 induction h with
 |refl=>exact vy _
 |step _ ih=>exact Wl ih (Yr _ _)
theorem sO(P:Nat->Bool):∀t,eY P t<=t
 |0=>vy _
 |t+1=>by have:=sO P t;unfold eY;split<;>omega
theorem kg(P:Nat->Bool){t:Nat}(h:P (t+1)=true):0<eY P (t+1):=by unfold eY;rw[v8 h];omega
def sR(v:List Int)(l:Int):Int:=if l<2\/l.tdiv 2>v.length then 0 else if l.tmod 2=1 then - v.getD (l.tdiv 2 - 1).toNat 0 else v.getD (l.tdiv 2 - 1).toNat 0
def uP(v:List Int):List Int->Option (List Int)
 | []=>some []
 |l::c=>if l=1 then none else if l=0 then uP v c else (uP v c).map (sR v l:: ·)
def dU(l:Int):Int:=if l % 2=0 then l+1 else l - 1
def Jo(g:List Gt)(P:Nat->Bool)(i:Nat):lq:=
 if P (i+1)=true/\0<=(g.getD i (0,0)).1 then [[2*i+3,(g.getD i (0,0)).1],[2*i+3,(g.getD i (0,0)).2],[2*i+2,dU (g.getD i (0,0)).1,dU (g.getD i (0,0)).2]] else []
def DV(g:List Gt)(P:Nat->Bool)(t:Nat):lq:=(List.range t).flatMap (Jo g P)
theorem Cn(g:List Gt)(P:Nat->Bool)(t:Nat):DV g P (t+1)=DV g P t++Jo g P t:=by simp[DV,Xh]
def zO(g:List Gt)(cs:lq)(P:Nat->Bool):lq:=DV g P g.length++cs
def rR(v:List Int)(l:lq):lq:=l.filterMap (uP v)
theorem uT(v:List Int)(l k:lq):rR v (l++k)=rR v l++rR v k:=by simp[rR]
theorem vA(v:List Int)(c:List Int):rR v [c]=(uP v c).toList:=by cases h:uP v c<;>simp[rR,h]
theorem Ep{v:List Int}:∀ {c o:List Int},uP v c=some o->∀x∈o,∃l∈c,l≠0/\l≠1/\x=sR v l
 | [],o,h,x,I=>by simp[uP]at h;subst h;simp at I
 |l::c,o,h,x,I=>by
  simp only[uP]at h;split at h
  .cases h
  .split at h
   .obtain ⟨k,J,e⟩:=Ep h x I;exact⟨k,xk _ J,e⟩
   .rename_i h1 O;simp only[Xf]at h;obtain⟨U,Q,rfl⟩:=h;rcases V'.1 I with rfl|I
    .exact ⟨l,Wb,O,h1,rfl⟩
    .obtain ⟨k,J,e⟩:=Ep Q x I;exact⟨k,xk _ J,e⟩
theorem DR{v:List Int}:∀ {c o:List Int},uP v c=some o->o.length<=c.length
 | [],o,h=>by simp[uP]at h;subst h;simp
 |l::c,o,h=>by
  simp only[uP]at h;split at h
  .cases h
  .split at h
   .have:=DR h;simp;omega
   .simp only[Xf]at h;obtain⟨J,I,rfl⟩:=h;have:=DR I;simp;omega
theorem yN{P:Nat->Bool}{n:Nat}{l:Int}(J:2<=l)(hn:l<=2*n+1)(I:P (l.tdiv 2).toNat=true):sR (vs P n) l≠0/\ -(eY P n:Int)<=sR (vs P n) l/\sR (vs P n) l<=eY P n:=by
 unfold sR;rw[DQ,Wc (by omega)]at*
 have hi:(l / 2 - 1).toNat<n:=by omega
 rw[r8 (by omega),Iy P hi];have e:(l / 2 - 1).toNat+1=(l / 2).toNat:=by omega
 rw[e,I];have h1:0<eY P (l / 2).toNat:=by rw[<- e];exact kg P (by rw[e];exact I)
 have O:eY P (l / 2).toNat<=eY P n:=qG P (by omega);split<;>simp only[I5]<;>omega
end
section
theorem AB{v:List Int}:∀ {c:List Int} {t:Nat} {o:List Int},t<c.length->uP v (c.take t)=some o->uP v (c.take (t+1))=if c.getD t 0=1 then none else if c.getD t 0=0 then some o else some (o++ [sR v (c.getD t 0)])
 | [],t,o,h,_=>by simp at h
 |x::c,0,o,h,I=>by
  simp[uP]at I;subst I;simp only[Yp,Zl,uP,Zf];split
  .rfl
  .split
   .rfl
   .rfl
 |x::c,t+1,o,h,I=>by
  simp only[Yp,uP,Zg]at I ⊢;split at I
  .cases I
  .rename_i h1;rw[r8 h1];split at I
   .rename_i J;rw[v8 J];exact AB (by simpa using h) I
   .rename_i J;rw[r8 J];simp only[Xf]at I;obtain⟨Q,O,rfl⟩:=I;rw[AB (by simpa using h) O];split
    .rfl
    .split
     .rfl
     .rfl
theorem IJ{v:List Int}:∀ {c:List Int} {t:Nat},t<c.length->c.getD t 0=1->uP v c=none
 | [],t,h,_=>by simp at h
 |x::c,0,h,e=>by
  simp only[Zf]at e;simp[uP,e]
 |x::c,t+1,h,e=>by
  simp only[Zg]at e;have:=IJ (v:=v) (by simpa using h) e;simp only[uP,this];split
  .rfl
  .split<;>rfl
end
section
end
end Go.TsP
namespace Go.Proofs.YtbdghpjnifjlmaaGreat.W.Rk
open Go Go.Fw Go.RowKit Go.TsP
open Go.Proofs.Tryz (prog)
open Go.IntKind (i64)
section
theorem zh:ky prog Gi 2=true:=by kernel_rfl
theorem QY{w:World}{p:sn}{g:List (Int × Int)}(h:Vr 2 nB w p g){t n:Nat}(hn:n=g.length)(ht:t<g.length){K:Addr->Prop}(I:∀a,w.cell? (a.add 0)=some (.i (g.getD t (0,0)).1)->w.cell? (a.add 1)=some (.i (g.getD t (0,0)).2)->K a):aV p n (t:Int) 2 K:=
 h.ix (0,0) (by omega) hn (by omega) λa e=>by
  rw[tn]at e;exact I a e.1 e.2.1
theorem sq{q:Nat->Bool}{t:Nat}(h:(List.range t).all q=true)(hq:q t=true):(List.range (t+1)).all q=true:=by
 rw[Xh,Yz,h];simp[hq]
theorem ka{α:Type}{l:List α}{q:α->Bool}{t:Nat}{d:α}(ht:t<l.length)(h:(l.take t).all q=true)(hq:q (l.getD t d)=true):(l.take (t+1)).all q=true:=by
 rw[Wo,Yz,h];have:l[t]? =some (l.getD t d):=by simp[List.getD,ht]
 simp only[this,Xn,YB,List.all_nil,hq,XI]
theorem pY{α:Type}{l:List α}{q:α->Bool}{t:Nat}{d:α}(ht:t<l.length)(hq:q (l.getD t d)=false):l.all q=false:=by
 rw[<- WI,K'];intro h;rw[h _ (by simp[List.getD,ht])]at hq;cases hq
end
section
theorem pC{w:World}{p:sn}{g:List (Int × Int)}{n c:Nat}(h:Vr 2 nB w p g)(hn:n=g.length)(hm:n<=maxLen):
 Calls prog 87 #[.slice p n c] w λe w'=>e=.returned (.i (if iT g then 0 else 1))/\ak w w':=by
 subst hn;refine qP.aj ?_;refine ah (λq=>⟨?_,aE.refl w⟩) (λq=>?_)<;>simp only[x7,x8]at q
 .have:iT g=false:=by unfold iT;rw[x9 (by omega)];rfl
  rw[this];rfl
 .refine ⟨λv w' k=>∃t:Nat,v=t/\t<=g.length/\(List.range t).all (λi=>BX i (g.getD i (0,0)))=true/\ak w w'/\k+t=g.length,⟨_,0,rfl,xc _,rfl,aE.refl w,rfl⟩,?_⟩;rintro v w5 k _⟨t,rfl,ht,ha,G,hk⟩;refine ah (λq2=>?_) (λq2=>?_)<;>simp only[x7,x8]at q2
  .have ac:t<g.length:=by omega
   have no:BX t (g.getD t (0,0))=false->iT g=false:=λhf=>by
    cases hh:iT g with
    |false=>rfl
    |true=>rw[jC hh ac]at hf;cases hf
   refine QY (h.grow G) rfl ac λa6 x0 x1=>⟨_,_,⟨x0,x1,trivial⟩,?_⟩
   intro X a8 h9;refine aX h9.has rfl rfl λY J ax=>?_;have aa:ak w5 Y:=h9.mod.cE ax (by have:=h9.num;omega);have e1:i64.wrap (2* (t:Int))=2*t:=ao (by omega) (by omega);have e2:i64.wrap (2* (t:Int)+1)=2*t+1:=ao (by omega) (by omega);rw[e1,e2];have next:∀w',ak w5 w'->BX t (g.getD t (0,0))=true->∃U:Nat,U<k/\∃I:Nat,i64.wrap ((t:Int)+1)=I/\I<=g.length/\(List.range I).all (λi=>BX i (g.getD i (0,0)))=true/\ak w w'/\U+I=g.length:=λw' Q av=>
    ⟨k - 1,by omega,t+1,by rw[ao (by omega) (by omega)];omega,by omega,sq ha av,G.trans Q,by omega⟩
   generalize g.getD t (0,0)=x at*
   obtain⟨A,B⟩:=x;have J:bO Y X #[.i A,.i B]:=J;have np:∀w',ak w5 w'->BX t (A,B)=false->(Ending.returned (.i 1)=.returned (.i (if iT g=true then 0 else 1))/\ak w w'):=λw' Q hf=>by
    rw[no hf];exact⟨rfl,G.trans Q⟩
   have ay:BX t (A,B)=(([A,B]== [-1,-1])||decide (0<=A/\0<=B/\A<=2*t+1/\B<=2*t+1)):=by
    unfold BX;congr 1;rw[W4];simp
   have rest:∀w',ak w5 w'->bO w' X #[.i A,.i B]->aD (!([A,B]== [-1,-1]))
    (∃an,w'.cell? ((qw X).add 0)=some (.i an)/\
    aD (decide (an< (0:Int)))
    (Ending.returned (.i 1)=.returned (.i (if iT g=true then 0 else 1))/\ak w w')
    (∃Z,w'.cell? ((qw X).add 1)=some (.i Z)/\
    aD (decide (Z< (0:Int)))
    (Ending.returned (.i 1)=.returned (.i (if iT g=true then 0 else 1))/\ak w w')
    (∃ap,w'.cell? ((qw X).add 0)=some (.i ap)/\
    aD (decide (ap>2* (t:Int)+1))
    (Ending.returned (.i 1)=.returned (.i (if iT g=true then 0 else 1))/\ak w w')
    (∃ag,w'.cell? ((qw X).add 1)=some (.i ag)/\
    aD (decide (ag>2* (t:Int)+1))
    (Ending.returned (.i 1)=.returned (.i (if iT g=true then 0 else 1))/\ak w w')
    (∃U:Nat,U<k/\∃I:Nat,i64.wrap ((t:Int)+1)=I/\I<=g.length/\(List.range I).all (λi=>BX i (g.getD i (0,0)))=true/\ak w w'/\U+I=g.length)))))
    (∃U:Nat,U<k/\∃I:Nat,i64.wrap ((t:Int)+1)=I/\I<=g.length/\(List.range I).all (λi=>BX i (g.getD i (0,0)))=true/\ak w w'/\U+I=g.length):=by
    intro w' Q H;refine ah (λs=>⟨_,ae H rfl,ah (λs1=>np _ Q ?_) (λs1=>⟨_,ae H rfl,ah (λs2=>np _ Q ?_) (λs2=>⟨_,ae H rfl,ah (λs3=>np _ Q ?_) (λs3=>⟨_,ae H rfl,ah (λs4=>np _ Q ?_) (λs4=>next _ Q ?_)⟩)⟩)⟩)⟩) (λs=>next _ Q ?_)<;>rw[ay]<;>simp only[WU,Xx,x7,x8]at* <;>rw[s]
    .rw [x9 (by omega)];rfl
    .rw [x9 (by omega)];rfl
    .rw [x9 (by omega)];rfl
    .rw [x9 (by omega)];rfl
    .rw [I4 (by omega)];rfl
    .rfl
   refine⟨?_,?_⟩
   .refine ⟨_,_,⟨ae J.drew rfl,ae J.drew rfl,trivial⟩,(pF _).mono ?_⟩;rintro e az⟨rfl,O⟩;exact⟨_,_,rfl,_,_,ED zh _ _ _ _ _ _ _,rest _ (aa.drew.trans O) (J.drew.grow O)⟩
   .refine (pF _).mono ?_;rintro e az⟨rfl,O⟩;have V:=J.drew.grow O;exact⟨_,_,rfl,_,_,⟨ae V rfl,ae V rfl,trivial⟩,_,_,ED zh _ _ _ _ _ _ _,rest _ (aa.drew.trans O) V⟩
  .have:t=g.length:=by omega
   subst this;have:iT g=true:=by unfold iT;rw[ha,I4 (by omega)];rfl
   rw[this];exact⟨rfl,G⟩
end
section
theorem HX{w:World}{p:sn}{g:List (Int × Int)}{n c:Nat}(h:Vr 2 nB w p g)(hn:n=g.length)(hm:n<=4194304):
 Calls prog 47 #[.slice p n c] w λe w'=>e=.returned (.bool (iT g))/\ak w w':=by
 subst hn;refine iB.aj ?_;refine⟨λv w' k=>∃t:Nat,v=t/\t<=g.length/\(List.range t).all (λi=>BX i (g.getD i (0,0)))=true/\w'=w/\k+t=g.length,⟨_,0,rfl,xc _,rfl,rfl,rfl⟩,?_⟩;rintro v J k _⟨t,rfl,ht,ha,rfl,hk⟩;refine ah (λq2=>?_) (λq2=>?_)<;>simp only[x7,x8]at q2
 .have O:t<g.length:=by omega
  have no:BX t (g.getD t (0,0))=false->iT g=false:=λhf=>by
   cases hh:iT g with
   |false=>rfl
   |true=>rw[jC hh O]at hf;cases hf
  have next:BX t (g.getD t (0,0))=true->∃k3:Nat,k3<k/\∃U:Nat,i64.wrap ((t:Int)+1)=U/\U<=g.length/\(List.range U).all (λi=>BX i (g.getD i (0,0)))=true/\J=J/\k3+U=g.length:=λY=>
   ⟨k - 1,by omega,t+1,by rw[ao (by omega) (by omega)];omega,by omega,sq ha Y,rfl,by omega⟩
  have e1:i64.wrap (2* (t:Int))=2*t:=ao (by omega) (by omega);have e2:i64.wrap (2* (t:Int)+1)=2*t+1:=ao (by omega) (by omega);rw[e1,e2];have ix:∀ {K:Addr->Prop},(∀a,J.cell? (a.add 0)=some (.i (g.getD t (0,0)).1)->J.cell? (a.add 1)=some (.i (g.getD t (0,0)).2)->K a)->aV p g.length (t:Int) 2 K:=λhk=>QY h rfl O hk;have np:BX t (g.getD t (0,0))=false->(Ending.returned (.bool false)=.returned (.bool (iT g))/\ak J J):=λhf=>by
   rw[no hf];exact⟨rfl,aE.refl _⟩
  generalize g.getD t (0,0)=x at*
  obtain⟨A,B⟩:=x;have I:BX t (A,B)=((decide (A= -1) && decide (B= -1))||decide (0<=A/\0<=B/\A<=2*t+1/\B<=2*t+1)):=by
   unfold BX;congr 1;rw[W4];simp
  refine ix λa x0 _=>⟨_,x0,ah (λV=>ix λa _ x1=>⟨_,x1,ah (λQ=>?_) (λQ=>next ?_)⟩) (λV=>?_)⟩
  .refine ix λa Z _=>⟨_,Z,ah (λt0=>np ?_) (λt0=>ix λa _ X=>⟨_,X,ah (λt1=>np ?_) (λt1=>ix λa z0 _=>⟨_,z0,ah (λt2=>np ?_) (λt2=>ix λa _ z1=>⟨_,z1,ah (λt3=>np ?_) (λt3=>next ?_)⟩)⟩)⟩)⟩<;>rw[I]<;>simp only[x7,x8,WU,ZI,J8]at* <;>rw[x9 Q,Xa,Yc];all_goals first
    | (rw[x9 (by omega)];done)
    | (rw[I4 (by omega)];done)
  .rw [I];simp only[Xx,J8]at V Q;simp[V,Q]
  .refine ix λa Z _=>⟨_,Z,ah (λt0=>np ?_) (λt0=>ix λa _ X=>⟨_,X,ah (λt1=>np ?_) (λt1=>ix λa z0 _=>⟨_,z0,ah (λt2=>np ?_) (λt2=>ix λa _ z1=>⟨_,z1,ah (λt3=>np ?_) (λt3=>next ?_)⟩)⟩)⟩)⟩<;>rw[I]<;>simp only[x7,x8,ZI]at* <;>rw[x9 V,XY,Yc];all_goals first
    | (rw[x9 (by omega)];done)
    | (rw[I4 (by omega)];done)
 .have:t=g.length:=by omega
  subst this;refine⟨?_,aE.refl _⟩;unfold iT;rw[ha,XI];congr 2;exact decide_eq_decide.2 (by omega)
theorem ND{n:Nat}(hn:n<=4194304)(p:sn)(c:Nat)(l:Int)(w:World):
 Calls prog 46 #[.slice p n c,.i l] w λe w'=>e=.returned (.bool (sg n l))/\ak w w':=by
 refine gR.aj ?_;unfold gR.w;have I:i64.wrap (2* (n:Int))=2*n:=ao (by omega) (by omega);have J:i64.wrap (2* (n:Int)+1)=2*n+1:=ao (by omega) (by omega);rw[I,J];unfold sg;refine ah (λq=>⟨?_,aE.refl w⟩) (λq=>⟨?_,aE.refl w⟩)<;>simp only[x7,x8,I9]at q
 .congr 2;exact decide_eq_decide.2 (by omega)
 .rw [x9 (by omega)]
theorem QE{n:Nat}(hn:n<=4194304){b:Nat}{p:sn}{c:Nat}{w:World}(h:bO w b #[.slice p n c])(l:Int):
 Calls prog 139 #[.i l,.pointer (some ⟨b,0,none⟩)] w λe w'=>e=.returned (.bool (!sg n l))/\ak w w':=by
 refine gH.aj ?_;unfold gH.w;have I:i64.wrap (2* (n:Int))=2*n:=ao (by omega) (by omega);have J:i64.wrap (2* (n:Int)+1)=2*n+1:=ao (by omega) (by omega);unfold sg;refine ah (λq=>⟨?_,aE.refl w⟩) (λq=>⟨_,_,_,aP h rfl,?_,aE.refl w⟩)<;>simp only[x7,x8]at q
 .rw [x9 (by omega)];rfl
 .rw [I,J];congr 2;rw[W4];simp;omega
theorem Ms:f_ prog 139=true:=by kernel_rfl
theorem RE(u v:Value):(#[]++ #[u]++ #[v]:Array Value)= #[u,v]:=by simp
theorem LD{n:Nat}{l:List Int}:l.any (λx=> !sg n x)= !l.all (sg n):=by
 induction l with
 |nil=>rfl
 |cons x l ih=>rw[Yd,YB,ih,Bool.not_and]
theorem LX{w:World}{p q:sn}{g:List (Int × Int)}{n c m d:Nat}{hs:List Sl}{cs:lq}(h:Vr 2 nB w p g)(hn:n=g.length)(hg:n<=4194304)(hc:V2 sT w q hs cs)(hm:m=cs.length)(hx:m<=4194304):
 Calls prog 83 #[.slice p n c,.slice q m d] w λe w'=>e=.returned (.bool (gq g cs))/\ak w w':=by
 refine mT.aj ?_;intro n1 w2 V;have H:=V.has;refine⟨_,_,_,aP H rfl,(pC (h.grow V.mod) hn (by unfold maxLen;omega)).mono ?_⟩;rintro e w4⟨rfl,g4⟩;have U:=V.mod.trans g4;replace H:=H.grow g4;unfold gq;refine⟨_,rfl,ah (λs=>?_) (λs=>?_)⟩
 .have:iT g=false:=by
   cases Z:iT g with
   |false=>rfl
   |true=>rw[Z]at s;simp at s
  rw[this];exact⟨rfl,U⟩
 .have:iT g=true:=by
   cases Z:iT g with
   |false=>rw[Z]at s;simp at s
   |true=>rfl
  rw[this,W2];subst hm;refine⟨λv w' k=>∃t:Nat,v=t/\t<=cs.length/\(cs.take t).all (tP g.length)=true/\ak w4 w'/\k+t=cs.length,⟨_,0,rfl,xc _,rfl,aE.refl _,rfl⟩,?_⟩;rintro v ap k _⟨t,rfl,ht,ha,I,hk⟩;refine ah (λY=>?_) (λY=>?_)<;>simp only[x7,x8]at Y
  .have J:t<cs.length:=by omega
   have no:tP g.length (cs.getD t [])=false->cs.all (tP g.length)=false:=pY J;refine(hc.grow (U.trans I)).ix (by omega) rfl Y λa s e _ O ac hv=>⟨_,_,_,e,?_⟩
   rw[tn]at O hv;refine ah (λs3=>?_) (λs3=>?_)<;>simp only[x7,x8]at s3
   .rw [no (by unfold tP;rw[x9 (by omega),Xa])];exact⟨rfl,U.trans I⟩
   .have aa:=H.grow I;refine(fS hv O ac Ms (λx=> !sg n x) λx _ w' g'=>?_).mono ?_
    .rw [RE];exact QE hg (aa.grow g') x
    .rintro e av ⟨rfl,Q⟩;rw[LD];have em:tP g.length (cs.getD t [])=(cs.getD t []).all (sg n):=by
      unfold tP;rw[I4 (by omega),XI,hn]
     refine⟨_,rfl,ah (λX=>?_) (λX=>⟨k - 1,by omega,t+1,by rw[ao (by omega) (by omega)];omega,J,ka (d:= []) J ha ?_,I.trans Q,by omega⟩)⟩
     .rw [no (by rw[em];simpa using X)];exact⟨rfl,(U.trans I).trans Q⟩
     .rw [em];simpa using X
  .have:t=cs.length:=by omega
   subst this;rw[L0]at ha;rw[ha];exact⟨rfl,U.trans I⟩
theorem HA{w:World}{p q:sn}{g:List (Int × Int)}{n c m d:Nat}{hs:List Sl}{cs:lq}(h:Vr 2 nB w p g)(hn:n=g.length)(hg:n<=4194304)(hc:V2 sT w q hs cs)(hm:m=cs.length)(hx:m<=4194304):
 Calls prog 22 #[.slice p n c,.slice q m d] w λe w'=>e=.returned (.bool (gq g cs))/\ak w w':=by
 refine iz.aj ?_;subst hm;refine⟨λv w' k=>∃t:Nat,v=t/\t<=cs.length/\(cs.take t).all (tP g.length)=true/\ak w w'/\k+t=cs.length,⟨_,0,rfl,xc _,rfl,aE.refl _,rfl⟩,?_⟩;rintro v w5 k _⟨t,rfl,ht,ha,g5,hk⟩;refine ah (λs2=>?_) (λs2=>?_)<;>simp only[x7,x8]at s2
 .have U:t<cs.length:=by omega
  have no:tP g.length (cs.getD t [])=false->gq g cs=false:=λhf=>by
   unfold gq;rw[pY U hf,Xa]
  refine⟨λv w' k=>∃O:Nat,v=O/\O<=(cs.getD t []).length/\((cs.getD t []).take O).all (sg n)=true/\ak w w'/\k+O=(cs.getD t []).length,⟨_,0,rfl,xc _,rfl,g5,rfl⟩,?_⟩;rintro v V k2 _⟨O,rfl,a8,X,I,a7⟩;have ix:∀ {K:Addr->Prop},(∀a (s:Sl),V.cell? a=some (.slice s.p s.n s.c)->s.n=(cs.getD t []).length->s.n<=maxLen->Vw sT V s.p (cs.getD t [])->K a)->aV q cs.length (t:Int) 1 K:=λhk=>
   (hc.grow I).ix (by omega) rfl s2 λa s e _ h1 h2 h3=>hk a s e (by rw[tn]at h1;exact h1) h2 (by rw[tn]at h3;exact h3)
  refine ix λa s e Q Y hv=>⟨_,_,_,e,ah (λs3=>?_) (λs3=>?_)⟩<;>simp only[x7,x8]at s3
  .have J:O< (cs.getD t []).length:=by omega
   refine ix λa s e Q Y hv=>⟨_,_,_,e,hv.ix 0 (by omega) Q (by omega) λa e=>⟨_,e,(ND hg p c _ V).mono ?_⟩⟩
   rw[tn];rintro e ax⟨rfl,aa⟩;unfold maxLen at Y;refine⟨_,rfl,ah (λZ=>?_) (λZ=>⟨k2 - 1,by omega,O+1,by rw[ao (by omega) (by omega)];omega,J,ka (d:=0) J X (by simpa using Z),I.trans aa,by omega⟩)⟩;rw[no (by unfold tP;rw[<- hn,pY (d:=0) J (by simpa using Z),XY])];exact⟨rfl,I.trans aa⟩
  .have et:O=(cs.getD t []).length:=by omega
   subst et;rw[L0]at X;refine ix λa s e Q Y hv=>⟨_,_,_,e,ah (λZ=>?_) (λZ=>⟨k - 1,by omega,t+1,by rw[ao (by omega) (by omega)];omega,U,ka (d:= []) U ha ?_,I,by omega⟩)⟩<;>simp only[x7,x8]at Z
   .rw [no (by unfold tP;rw[x9 (by omega),Xa])];exact⟨rfl,I⟩
   .unfold tP;rw[<- hn,X,I4 (by omega)];rfl
 .have:t=cs.length:=by omega
  subst this;rw[L0]at ha;refine(HX (h.grow g5) hn hg).mono ?_;rintro e az⟨rfl,ag⟩;unfold gq;rw[ha,XI];exact⟨_,rfl,rfl,g5.trans ag⟩
end
section
theorem rB{g:List (Int × Int)}{cs:lq}(h:gq g cs=true):iT g=true:=by
 simp only[gq,ts]at h;exact h.1
theorem D8{g:List (Int × Int)}{cs:lq}(h:gq g cs=true){i:Nat}(hi:i<cs.length){j:Nat}(I:j< (cs.getD i []).length):0<=(cs.getD i []).getD j 0/\(cs.getD i []).getD j 0<=2*g.length+1:=by
 simp only[gq,ts,K']at h;have h1:=h.2 (cs.getD i []) (by simp[List.getD,hi]);simp only[tP,ts,K']at h1;have:=h1.1 ((cs.getD i []).getD j 0) (kY I 0);simpa[sg]using this
theorem O_{w:World}{q:sn}{hs:List Sl}{cs:lq}(Q:V2 sT w q hs cs){m t:Nat}(hm:m=cs.length)(ht:t<cs.length){K:Addr->Prop}(O:∀a (s:Sl),w.cell? a=some (.slice s.p s.n s.c)->s=hs.getD t Sl.nil->s.n=(cs.getD t []).length->s.n<=maxLen->Vw sT w s.p (cs.getD t [])->K a):aV q m (t:Int) 1 K:=
 Q.ix (by omega) hm (by omega) λa s e hs h1 J I=>O a s e (by rw[tn]at hs;exact hs) (by rw[tn]at h1;exact h1) J (by rw[tn]at I;exact I)
end
section
theorem rH:mg prog cM bA 1=true:=by kernel_rfl
theorem El:(Tryz.prog.info? bA).bind (·.zero)=some (.bool false):=by kernel_rfl
theorem Ak(a b:Int)(w:World):Calls prog 85 #[.agg #[.i a,.i b]] w λe w'=>e=.returned (.bool (decide (a>=0)))/\ak w w':=by
 refine mN.aj ?_;intro J w2 I;exact⟨_,ae I.has rfl,rfl,I.mod⟩
theorem DW{w:World}{p q:sn}{g:List (Int × Int)}{n c m d:Nat}{hs:List Sl}{cs:lq}(hn:n=g.length)(hg:n<=4194304)(hm:m=cs.length)(hx:m<=4194304)(az:gq g cs=true)(h:Vr 2 nB w p g)(hc:V2 sT w q hs cs):
 Calls prog 84 #[.slice p n c,.slice q m d] w λe w'=> (∃r cc I,e=.returned (.slice r (g.length+1) cc)/\BA bA w' r cc I/\I.length=g.length+1/\(∀k,k<=g.length->(I.getD k false=true↔H g cs k)))/\ak w w':=by
 subst hn hm;refine jt.aj ?_;have e1:i64.wrap ((g.length:Int)+1)=((g.length+1:Nat):Int):=by rw[ao (by omega) (by omega)];omega
 unfold jt.w;rw[e1];refine ra rH El (f:=Value.bool) (x:=false) rfl (g.length+1) rfl (by omega) λw1 o1 g1 z1=>?_;have fr:∀j,aF (some (Addr.mk w.heap.size 0 none))=some j->w.heap.size<=j:=λj U=>by have:=aO U;omega
 generalize (some (Addr.mk w.heap.size 0 none))=r at*
 refine⟨λv w' z=>∃ (t:Nat) (I:List Bool),v=t/\t<=cs.length/\BA bA w' r (g.length+1) I/\I.length=g.length+1/\(∀k,k<=g.length->(I.getD k false=true↔∃i,i<t/\∃l∈cs.getD i [],l.tdiv 2=(k:Int)))/\ak w w'/\z+t=cs.length,
  ⟨_,0,_,rfl,xc _,o1,by simp,λk Y=>?_,g1,rfl⟩,?_⟩
 .simp [List.getD,show k<g.length+1 by omega]
 clear o1 g1 z1;rintro v w7 z _⟨t,I,rfl,ht,o,hl,hi,G,hz⟩;refine ah (λs=>?_) (λs=>?_)<;>simp only[x7,x8]at s
 .have O:t<cs.length:=by omega
  refine O_ (hc.grow G) rfl O λa s e _ dd dc hv=>⟨_,_,_,e,?_⟩
  unfold maxLen at dc;refine⟨λv w' z=>∃ (V:Nat) (I:List Bool),v=V/\V<=(cs.getD t []).length/\BA bA w' r (g.length+1) I/\I.length=g.length+1/\(∀k,k<=g.length->(I.getD k false=true↔(∃i,i<t/\∃l∈cs.getD i [],l.tdiv 2=(k:Int))\/∃j,j<V/\((cs.getD t []).getD j 0).tdiv 2=(k:Int)))/\ak w w'/\aE (λj=>aF r=some j) w7 w'/\z+V=(cs.getD t []).length,
   ⟨_,0,I,rfl,xc _,o,hl,λk Y=>?_,G,aE.refl _,rfl⟩,?_⟩
  .rw [hi k Y];constructor
   .exact .inl
   .rintro (h| ⟨j,U,_⟩)
    .exact h
    .omega
  clear o hl hi;rintro v d5 z2 _⟨V,I,rfl,ez,o,hl,hi,G2,M2,en⟩;refine ah (λs2=>?_) (λs2=>?_)<;>simp only[x7,x8]at s2
  .have aT:V< (cs.getD t []).length:=by omega
   have ay:=D8 az O aT;have c3:Vw sT d5 s.p (cs.getD t []):=by
    have:=(hc.grow G2).r t O;have e2:=(hc.r t O).2.2
    rename s=hs.getD t Sl.nil=>es
    rw[es];exact this.2.2
   refine c3.ix 0 (by omega) dd (by omega) λa e=>⟨_,e,by decide,?_⟩
   rw[tn];generalize bY:(cs.getD t []).getD V 0=lv at*
   have hd:lv.tdiv 2=lv / 2:=Wc ay.1;have ew:i64.wrap (lv.tdiv 2)=lv.tdiv 2:=ao (by omega) (by omega);rw[ew];refine o.st true rfl rfl (by omega) hl.symm (by omega) λed dk b4=>⟨z2 - 1,by omega,V+1,_,by rw[ao (by omega) (by omega)];omega,aT,dk,by simpa using hl,λk Y=>?_,G2.then b4 λj U e=>by have:=fr j e;omega,M2.trans b4,by omega⟩
   rw[vD (by omega)];have key:(∃j,j<V+1/\((cs.getD t []).getD j 0).tdiv 2=(k:Int))↔(∃j,j<V/\((cs.getD t []).getD j 0).tdiv 2=(k:Int))\/lv.tdiv 2=k:=by
    constructor
    .rintro ⟨j,U,e9⟩;rcases Wp j V with c|c
     .exact .inl ⟨j,c,e9⟩
     .have:j=V:=by omega
      rw[this,bY]at e9;exact .inr e9
    .rintro (⟨j,U,e⟩|e)
     .exact ⟨j,by omega,e⟩
     .exact ⟨V,by omega,by rw[bY];exact e⟩
   rw[key];by_cases b_:k=(lv.tdiv 2).toNat
   .rw [v8 b_];simp only[true_iff];exact .inr (.inr (by omega))
   .rw [r8 b_,hi k Y];constructor
    .rintro (h|h)
     .exact .inl h
     .exact .inr (.inl h)
    .rintro (h|h|h)
     .exact .inl h
     .exact .inr h
     .omega
  .have et:V=(cs.getD t []).length:=by omega
   subst et;refine⟨z - 1,by omega,t+1,I,by rw[ao (by omega) (by omega)];omega,O,o,hl,λk Y=>?_,G2,by omega⟩;rw[hi k Y];constructor
   .rintro (⟨i,hi,h⟩| ⟨j,U,e⟩)
    .exact ⟨i,by omega,h⟩
    .exact ⟨t,by omega,_,kY U 0,e⟩
   .rintro ⟨i,hi,l,ay,e⟩;rcases Wp i t with c|c
    .exact .inl ⟨i,c,l,ay,e⟩
    .have:i=t:=by omega
     subst this;obtain⟨j,U⟩:=XB ay;have dT:=(Ws.1 U).1;refine .inr ⟨j,dT,?_⟩;rw[show (cs.getD i []).getD j 0=l by simp only[vx]at U ⊢;rw[U];rfl];exact e
 .have et:t=cs.length:=by omega
  subst et;have b8:∀k,(∃i,i<cs.length/\∃l∈cs.getD i [],l.tdiv 2=((k:Nat):Int))↔Lp cs k:=by
   intro k;constructor
   .rintro ⟨i,hi,l,hl,e⟩;exact⟨_,by simp[List.getD,hi],l,hl,e⟩
   .rintro ⟨c,hc,l,hl,e⟩;obtain⟨i,hi⟩:=XB hc;have cp:=(Ws.1 hi).1;exact⟨i,cp,l,by rw[vx,hi];exact hl,e⟩
  have b7:=rB az;refine⟨λv w' z=>∃ (t:Nat) (I:List Bool),v=t/\t<=g.length/\BA bA w' r (g.length+1) I/\I.length=g.length+1/\(∀k,k<=g.length->(I.getD k false=true↔Lp cs k\/∃j,t<=j/\j<g.length/\BG g j k/\H g cs (j+1)))/\ak w w'/\z=t,
   ⟨_,g.length,I,rfl,vy _,o,hl,λk Y=>?_,G,rfl⟩,?_⟩
  .rw [hi k Y,b8];constructor
   .exact .inl
   .rintro (h| ⟨j,h1,Z,_⟩)
    .exact h
    .omega
  clear o hl hi G;rintro v cr z _⟨t,I,rfl,ht,o,hl,hi,G,hz⟩;refine ah (λs=>?_) (λs=>?_)<;>simp only[x7,x8,I9]at s
  .obtain ⟨t,rfl⟩: ∃u,t=u+1:=⟨t - 1,by omega⟩
   have O:t<g.length:=by omega
   have e2:i64.wrap (((t+1:Nat):Int) - 1)=(t:Int):=by rw[ao (by omega) (by omega)];omega
   rw[e2];have co:=jC b7 O;have b9:I.getD (t+1) false=true↔H g cs (t+1):=by
    rw[hi (t+1) ht,H.Lw]
   refine QY (h.grow G) rfl O λa x0 x1=>⟨_,_,⟨x0,x1,trivial⟩,?_⟩
   intro n27 ek av;refine aX av.has rfl rfl λbg ag c4=>?_;have bi:ak cr bg:=av.mod.cE c4 (by have:=av.num;omega);have b5:=o.grow bi;generalize hx:g.getD t (0,0)=x at*
   obtain⟨A,B⟩:=x;have ag:bO bg n27 #[.i A,.i B]:=ag;have same:∀w',ak w w'->BA bA w' r (g.length+1) I->(¬(0<=A/\H g cs (t+1)))->∃z':Nat,z'<z/\∃ (t':Nat) (I:List Bool),(t:Int)=t'/\t'<=g.length/\BA bA w' r (g.length+1) I/\I.length=g.length+1/\(∀k,k<=g.length->(I.getD k false=true↔Lp cs k\/∃j,t'<=j/\j<g.length/\BG g j k/\H g cs (j+1)))/\ak w w'/\z'=t':=by
    intro w' gg oo c7;refine⟨t,by omega,t,I,rfl,by omega,oo,hl,λk Y=>?_,gg,rfl⟩;rw[hi k Y];constructor
    .rintro (h| ⟨j,h1,Z⟩)
     .exact .inl h
     .exact .inr ⟨j,by omega,Z⟩
    .rintro (h| ⟨j,h1,Z,h3,h4⟩)
     .exact .inl h
     .rcases Wp t j with c|c
      .exact .inr ⟨j,by omega,Z,h3,h4⟩
      .have:j=t:=by omega
       subst this;exact absurd ⟨by have:=h3.1;rw[hx]at this;exact this,h4⟩ c7
   refine b5.ix false (by omega) hl.symm (by omega) λeg c1=>⟨_,c1,?_⟩
   rw[tn];refine ah (λs1=>?_) (λs1=>same _ (G.trans bi) b5 (λhh=>by rw[b9.2 hh.2]at s1;cases s1));refine⟨_,_,⟨ae ag rfl,ae ag rfl,trivial⟩,(Ak A B bg).mono ?_⟩;rintro e an⟨rfl,b6⟩;have X:=bi.trans b6;refine⟨_,rfl,ah (λs2=>?_) (λs2=>same _ (G.trans X) (o.grow X) (λhh=>by have:=hh.1;simp only[x8]at s2;omega))⟩;simp only[x7,I9]at s2;have hb:=kX co s2;simp only at hb;have dA:A.tdiv 2=A / 2:=Wc s2;have dB:B.tdiv 2=B / 2:=Wc hb.1;have wA:i64.wrap (A.tdiv 2)=A.tdiv 2:=ao (by omega) (by omega);have wB:i64.wrap (B.tdiv 2)=B.tdiv 2:=ao (by omega) (by omega);have bn:ak w an.drew:=(G.trans X).drew;have dp:BA bA an.drew r (g.length+1) I:=(o.grow X).drew;have bf:bO an.drew n27 #[.i A,.i B]:=(ag.grow b6).drew;have c0:aF r≠some n27:=λe=>by have:=o.lt _ e;have:=av.num;omega
   have eh:∀w',ak w w'->BA bA w' r (g.length+1) ((I.set (A.tdiv 2).toNat true).set (B.tdiv 2).toNat true)->∃z':Nat,z'<z/\∃ (t':Nat) (I:List Bool),(t:Int)=t'/\t'<=g.length/\BA bA w' r (g.length+1) I/\I.length=g.length+1/\(∀k,k<=g.length->(I.getD k false=true↔Lp cs k\/∃j,t'<=j/\j<g.length/\BG g j k/\H g cs (j+1)))/\ak w w'/\z'=t':=by
    intro w' gg oo;refine⟨t,by omega,t,_,rfl,by omega,oo,by simpa using hl,λk Y=>?_,gg,rfl⟩;rw[vD (by simp;omega),vD (by omega)];have bx:BG g t k↔((k:Int)=A.tdiv 2\/(k:Int)=B.tdiv 2):=by
     unfold BG;rw[hx];simp only;constructor
     .rintro ⟨_,h|h⟩
      .exact .inl h.symm
      .exact .inr h.symm
     .rintro (h|h)
      .exact ⟨s2,.inl h.symm⟩
      .exact ⟨s2,.inr h.symm⟩
    have hH:H g cs (t+1):=b9.1 s1;have key:(Lp cs k\/∃j,t<=j/\j<g.length/\BG g j k/\H g cs (j+1))↔I.getD k false=true\/BG g t k:=by
     rw[hi k Y];constructor
     .rintro (h| ⟨j,h1,Z,h3,h4⟩)
      .exact .inl (.inl h)
      .rcases Wp t j with c|c
       .exact .inl (.inr ⟨j,by omega,Z,h3,h4⟩)
       .have:j=t:=by omega
        subst this;exact .inr h3
     .rintro ((h| ⟨j,h1,Z⟩)|h)
      .exact .inl h
      .exact .inr ⟨j,by omega,Z⟩
      .exact .inr ⟨t,by omega,O,h,hH⟩
    rw[key,bx];by_cases k1:k=(B.tdiv 2).toNat
    .rw [v8 k1];simp only[true_iff];exact .inr (.inr (by omega))
    .rw [r8 k1];by_cases k2:k=(A.tdiv 2).toNat
     .rw [v8 k2];simp only[true_iff];exact .inr (.inl (by omega))
     .rw [r8 k2];constructor
      .exact .inl
      .rintro (h|h|h)
       .exact h
       .omega
       .omega
   refine⟨_,ae bf rfl,by decide,?_⟩;rw[wA];have bb:=λ{K:World->Prop}=>dp.st (K:=K) true rfl rfl (show 0<=A.tdiv 2 by omega) hl.symm (show A.tdiv 2<_ by omega);obtain⟨aa,ea,_,_,_⟩:=bb (K:=λ_=>True) λ_ _ _=>trivial;refine⟨aa,ea,by omega,by omega,?_,?_⟩
   .refine ⟨_,ae bf rfl,by decide,?_⟩;rw[wB];obtain⟨a',Q,_,_,J,ac,a8,aw⟩:=bb (K:=λJ=>BA bA J r (g.length+1) (I.set (A.tdiv 2).toNat true)/\aE (λb=>aF r=some b) an.drew J) λw' o' m'=>⟨o',m'⟩
    rw[ea]at Q;simp only[Wu]at Q;subst Q;refine⟨J,ac,a8.st true rfl rfl (by omega) (by simp[hl]) (by omega) λa_ bk a7=>eh a_ ((bn.then aw λj U e=>by have:=fr j e;omega).then a7 λj U e=>by have:=fr j e;omega) bk⟩
   .obtain ⟨a',Q,_,_,J,ac,a8,aw⟩:=bb (K:=λJ=>BA bA J r (g.length+1) (I.set (A.tdiv 2).toNat true)/\aE (λb=>aF r=some b) an.drew J) λw' o' m'=>⟨o',m'⟩
    rw[ea]at Q;simp only[Wu]at Q;subst Q;have cT:=bf.keep aw (λe=>c0 e);refine⟨J,ac,_,ae cT rfl,by decide,?_⟩;rw[wB];exact a8.st true rfl rfl (by omega) (by simp[hl]) (by omega) λa_ bk a7=>eh a_ ((bn.then aw λj U e=>by have:=fr j e;omega).then a7 λj U e=>by have:=fr j e;omega) bk
  .have et:t=0:=by omega
   subst et;refine⟨⟨r,_,I,rfl,o,hl,λk Y=>?_⟩,G⟩;rw[hi k Y,H.Lw];constructor
   .rintro (h| ⟨j,h1,Z,h3,h4⟩)
    .exact .inl h
    .exact .inr ⟨j,Aj b7 Z h3,Z,h3,h4⟩
   .rintro (h| ⟨j,h1,Z,h3,h4⟩)
    .exact .inl h
    .exact .inr ⟨j,xc _,Z,h3,h4⟩
end
