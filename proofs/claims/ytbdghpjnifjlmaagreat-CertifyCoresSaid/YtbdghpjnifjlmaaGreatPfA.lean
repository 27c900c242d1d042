/- Layer 14: what a search's proof is. -/
import Derived.Test.YtbdghpjnifjlmaaGreatStudyA
import Derived.Test.YtbdghpjnifjlmaaGreatPropC
import Derived.Test.YtbdghpjnifjlmaaGreatRupB
import Derived.Test.YtbdghpjnifjlmaaGreatQuotaA
import Derived.Test.YtbdghpjnifjlmaaGreatSortA
set_option linter.unusedVariables false
namespace Go.Proofs.YtbdghpjnifjlmaaGreat.W
open Go Go.Fw Go.RowKit Go.SoP Go.LiP
open Go.Proofs.Tryz (prog)
section
open Go.LeP
variable {s t s':aI} {l c d:List Int} {x y:Int} {i j N bl:Nat} {cs ds:List (List Int)} {pr:List (Bool × List Int)}
def Ak (cs:List (List Int)) (pr:List (Bool × List Int)):Nat->List (List Int)
 |0=>cs
 |i+1=>if (pr.getD i (false,[])).1=true then p8 (pr.getD i (false,[])).2 (Ak cs pr i) else Ak cs pr i++ [(pr.getD i (false,[])).2]
theorem sJ {z:Bool × List Int}:∀ {i:Nat},i<=pr.length->Ak cs (pr++ [z]) i=Ak cs pr i
 |0,_=>rfl
 |i+1,h=>by
  have e:(pr++ [z]).getD i (false,[])=pr.getD i (false,[]):=by
   simp only [y6];rw [UT (by omega)]
  unfold Ak;rw [e,sJ (by omega)]
def Mt (ds:List (List Int)) (s:aI):Prop:=∃ix:List Nat,ix.Nodup/\(∀i,i∈ix↔s.aO i)/\(ds.map aY).Perm (ix.map λi=>aY (s.R (.a i)))
theorem Mt.same (h:Mt ds s) (h1:∀i,t.aO i↔s.aO i) (I:∀i,s.aO i->t.R (.a i)=s.R (.a i)):Mt ds t:=by
 obtain ⟨ix,nd,m,p⟩:=h;refine ⟨ix,nd,λi=> (m i).trans (h1 i).symm,?_⟩
 rwa [Vl (g:=λi=>aY (s.R (.a i))) λi hi=>by rw [I i ((m i).1 hi)]]
theorem Cn (c:List Int):∀ds:List (List Int),aY c∈ds.map aY->(aY c::(p8 c ds).map aY).Perm (ds.map aY)
 | [],h=>by simp at h
 |x::l,h=>by
  unfold p8;by_cases e:aY x=aY c
  . rw [if_pos e,Vy,e]
  . rw [if_neg e,Vy,Vy];have I:aY c∈l.map aY:=by
     rcases UI.1 h with h|h
     . exact absurd h.symm e
     . exact h
    exact (List.Perm.swap _ _ _).trans ((Cn c l I).cons _)
theorem Mt.drop (h:Mt ds s) (hi:s.aO i):Mt (p8 (s.R (.a i)) ds) (s.drop i):=by
 obtain ⟨ix,nd,m,p⟩:=h;have hm:i∈ix:=(m i).2 hi;refine ⟨ix.erase i,nd.erase i,λj=>?_,?_⟩
 . rw [nd.mem_erase_iff,m j,gD];exact and_comm
 . have h1:aY (s.R (.a i))∈ds.map aY:=p.mem_iff.2 (U1 hm);have I:=Cn _ ds h1;have p2:(ix.map λi=>aY (s.R (.a i))).Perm (aY (s.R (.a i))::(ix.erase i).map λi=>aY (s.R (.a i))):=(List.perm_cons_erase hm).map _;have O:=(I.trans (p.trans p2)).cons_inv
   rwa [Vl (l:=ix.erase i) (g:=λi=>aY (s.R (.a i))) λk J=>by rw [wZ (nd.mem_erase_iff.1 J).1]]
theorem Mt.add (h:Mt ds s) (hb:s.bW i=t) (ha:lS t l s'):Mt (ds++ [l]) s':=by
 subst hb;obtain ⟨ix,nd,m,p⟩:=h;have enc:(s.bW i).nc=s.nc:=rfl;have th:∀j,s'.aO j↔s.aO j\/j=s.nc:=λj=>by
  unfold aI.aO;rw [ha.n,ha.g,enc];by_cases e:j=s.nc
  . rw [if_pos e];subst e;exact ⟨λ_=> .inr rfl,λ_=>⟨by omega,rfl⟩⟩
  . rw [if_neg e];exact ⟨λh=> .inl ⟨by omega,h.2⟩,λh=>by
     rcases h with h|h
     . exact ⟨by omega,h.2⟩
     . exact absurd h e⟩
 have I:s.nc ∉ ix:=λh=>by have:=(m _).1 h;exact absurd this.1 (by omega)
 refine ⟨ix++ [s.nc],?_,λj=>?_,?_⟩
 . exact VQ.2 ⟨nd,by simp,λa ha b hb e=>by
    rw [Bs] at hb;subst hb;subst e;exact I ha⟩
 . rw [F',Bs,m j,th j]
 . rw [LV,LV,WT,WT,ha.a,enc,if_pos rfl];rw [Vl (l:=ix) (g:=λi=>aY (s.R (.a i))) λk J=>by
    rw [ha.a,enc,if_neg (λe=>I (by rw [<- e];exact J)),pK]]
   exact p.append_right _
def Ud (N:Nat) (z:Bool × List Int):Prop:=Fp N z.2
structure PF (cs:List (List Int)) (s:aI) (pr:List (Bool × List Int)):Prop where
 ne:∀i,i<pr.length->pr.getD i (false,[])≠(false,[])
 up:∀i,i<pr.length->(pr.getD i (false,[])).1=true\/uB (Ak cs pr i) (pr.getD i (false,[])).2
 mt:Mt (Ak cs pr pr.length) s
 rO:∀z∈pr,Ud s.vars z
structure PE (cs:List (List Int)) (N:Nat) (pr:List (Bool × List Int)):Prop where
 dG:∃t,t+1=pr.length/\pr.getD t (false,[])=(false,[])/\∀i,i<t->pr.getD i (false,[])≠(false,[])
 up:∀i,i<pr.length->(pr.getD i (false,[])).1=true\/uB (Ak cs pr i) (pr.getD i (false,[])).2
 rO:∀z∈pr,Ud N z
theorem Qr (h:Mt ds s) (r:E9 s l):uB ds l:=by
 obtain ⟨ix,_,m,p⟩:=h;refine r ds λx=>?_;rw [p.mem_iff,L0];exact ⟨λ⟨i,hi,e⟩=>⟨i,(m i).1 hi,e⟩,λ⟨i,hi,e⟩=>⟨i,(m i).2 hi,e⟩⟩
theorem tz {z:Bool × List Int} (h:i<pr.length):(pr++ [z]).getD i (false,[])=pr.getD i (false,[]):=by
 simp only [y6];rw [UT h]
theorem pX {z:Bool × List Int}:(pr++ [z]).getD pr.length (false,[])=z:=by simp [List.getD]
theorem PF.push {z:Bool × List Int} (h:PF cs s pr) (J:z≠(false,[])) (hu:z.1=true\/uB (Ak cs pr pr.length) z.2) (hv:t.vars=s.vars) (hi:Ud s.vars z)
 (hm:Mt (if z.1=true then p8 z.2 (Ak cs pr pr.length) else Ak cs pr pr.length++ [z.2]) t):PF cs t (pr++ [z]):=by
 refine ⟨λi hi=>?_,λi hi=>?_,?_,λy I=>?_⟩
 . by_cases e:i<pr.length
   . rw [tz e];exact h.ne i e
   . rw [show i=pr.length by simp at hi;omega,pX];exact J
 . by_cases e:i<pr.length
   . rw [tz e,sJ (by omega)];exact h.up i e
   . rw [show i=pr.length by simp at hi;omega,pX,sJ (y4 _)];exact hu
 . rw [UH,Va];unfold Ak;rw [pX,sJ (y4 _)];exact hm
 . rw [hv];rcases F'.1 I with I|I
   . exact h.rO y I
   . rw [Bs] at I;subst I;exact hi
theorem PF.ext (h:PF cs s pr) (e:j7 s s'):PF cs s' pr:=
 ⟨h.ne,h.up,h.mt.same (λi=>e.lW) λi _=>e.a i,λz I=>by rw [e.v];exact h.rO z I⟩
theorem PF.decide (h:PF cs s pr):PF cs (s.decide x) pr:=
 ⟨h.ne,h.up,h.mt.same (λ_=>WK) λ_ _=>qG,h.rO⟩
theorem PF.bW (h:PF cs s pr):PF cs (s.bW i) pr:=
 ⟨h.ne,h.up,h.mt.same (λ_=>WK) λ_ _=>pK,h.rO⟩
theorem PF.add (h:PF cs s pr) (k:LS s l i) (ok:Fp s.vars l) (r:E9 s l) (ha:lS (s.bW i) l s'):PF cs s' (pr++ [(false,l)]):=by
 refine h.push (λe=>?_) (.inr (Qr h.mt r)) ?_ ok ?_
 . obtain ⟨x,I,_⟩:=k.qI;have:l= []:=by injection e
   rw [this] at I;simp at I
 . rw [ha.v];rfl
 . exact h.mt.add rfl ha
theorem PF.drop (h:PF cs s pr) (ok:Fp s.vars (s.R (.a i))) (hi:s.aO i):PF cs (s.drop i) (pr++ [(true,s.R (.a i))]):=
 h.push (λe=>by injection e with e;cases e) (.inl rfl) GJ ok (h.mt.drop hi)
theorem PF.new (d:LM N cs s):PF cs s []:=
 ⟨λi hi=>by simp at hi,λi hi=>by simp at hi,⟨List.range cs.length,List.nodup_range,λi=>by
   rw [Vj];unfold aI.aO;rw [d.n];exact ⟨λh=>⟨h,d.g i h⟩,λh=>h.1⟩,by
   have e:(List.range cs.length).map (λi=>aY (s.R (.a i)))=cs.map aY:=by
    refine VH (by simp) λi h1 J=>?_;have hi:i<cs.length:=by simpa using h1
    simp only [Wa,X0];rw [d.a i hi];simp [List.getD,hi]
   rw [e];exact Xk _⟩,λz I=>by simp at I⟩
theorem PF.dG (h:PF cs s pr) (g:aN s) (O:yz s i) (Q:s.R .be= []):PE cs s.vars (pr++ [(false,[])]):=by
 refine ⟨⟨pr.length,by simp,pX,λi hi=>by rw [tz hi];exact h.ne i hi⟩,λi hi=>?_,λy I=>?_⟩
 . by_cases e:i<pr.length
   . rw [tz e,sJ (by omega)];exact h.up i e
   . rw [show i=pr.length by simp at hi;omega,pX,sJ (y4 _)];exact .inr (Qr h.mt (O6 g O Q))
 . rcases F'.1 I with I|I
   . exact h.rO y I
   . rw [Bs] at I;subst I;exact ⟨λx J=>by simp at J,λx J=>by simp at J,List.nodup_nil⟩
end
section
open Go.LeP
variable {w0 w w' w1 w2 u:World} {B N i:Nat} {L L' L1:Nat->Nat} {x:Xs} {l:List Int} {cs:List (List Int)} {hv:List (Nat × List Int)} {un:List (List Int)}
def ik (p:Ps):Bool × List Int:=(p.1,p.2.2)
structure Od (w0 w u:World) (B:Nat) (L:Nat->Nat) (N:Nat) (x:Xs) (hv1:List Hc) (cs un:List (List Int)) (q:sn) (k:List Bool) (t:Nat) (L1:Nat->Nat) (lf:List Hc) (s1:aI) (pr1:List Ps) (psl:Sl) (p:sn) (c:Nat):Prop where
 row:Row 5 JJ cK u p c lf
 fr:∀b,aG p=some b->L1 b=0/\w.heap.size<=b
 sr:SR w0 u B L1 N {x with hv:=hv1,s:=s1,ps:=psl,pr:=pr1,m:= {x.m with dr:=x.m.dr+ (t - lf.length:Nat)}}
 kp:Kp w0 w u L L1
 ci:qR N cs s1 ((lf++hv1.drop t).map xr) un
 nc:s1.nc=x.s.nc
 hi:Cv N s1 x.S
 sub:∀h∈lf,h∈hv1
 pl:pr1.length+lf.length=x.pr.length+t
 le:lf.length<=t
 st:Vw Value.bool u q k
 r9:R9 u L1 q
 be:s1.R .be=x.s.R .be
 pf:PF cs s1 (pr1.map ik)
 z:w0.heap.size<=w.heap.size
 ct:(k.take t).countP id<=lf.length
theorem QX {k:List Bool} {t:Nat} {α:Type} {lf:List α} {y:α} (h:(k.take t).countP id<=lf.length):(k.take (t+1)).countP id<=(lf++ [y]).length:=by
 rw [UR,VY,UH,Va];have:(k[t]?.toList).countP id<=1:=UY VK (by cases k[t]? <;>simp);omega
theorem Pk {k:List Bool} {t n:Nat} (h:(k.take t).countP id<=n) (e:k.getD t false=false):(k.take (t+1)).countP id<=n:=by
 rw [UR,VY];rw [y6] at e;cases I:k[t]? with
 |none=>simpa using h
 |some b=>
  rw [I] at e;have e:b=false:=e;subst e;simpa using h
theorem J0 {l:List RedP.Lr} {ks:List Bool} (h1:ks.length=l.length) (O:∀x:Nat,x<l.length->ks.getD x false=RedP.keep l x):l.length<=2*ks.countP id+1:=by
 obtain ⟨o,V⟩:=RedP.Rq l;have hs:=V.SC;have e:ks=(RedP.tW l.length).map (RedP.keep l):=by
  refine VH (by rw [UL,RedP.nD];exact h1) λi I U=>?_;have:=O i (by omega);rw [y6,Mb I] at this;simp only [RedP.tW,Wa,X0];exact this
 have c:ks.countP id=(RedP.tW l.length).countP (RedP.keep l):=by rw [e,List.countP_map];rfl
 have J:∀L:List Int,L.countP (RedP.keep l)=L.countP (λx=>RedP.gF (RedP.aX l x))+L.countP (λx=> !RedP.gF (RedP.aX l x) && RedP.keep l x)/\L.length=L.countP (λx=>RedP.gF (RedP.aX l x))+L.countP (λx=> !RedP.gF (RedP.aX l x)):=by
  intro L
  induction L with
  |nil=>exact ⟨rfl,rfl⟩
  |cons a L ih=>
   have hm:RedP.gF (RedP.aX l a)=true->RedP.keep l a=true:=λh=>by unfold RedP.keep;rw [h,Bool.true_or]
   simp only [Vq,U9];cases I:RedP.gF (RedP.aX l a) with
   |true=>rw [hm I];simp;omega
   |false=>cases U:RedP.keep l a<;>simp<;>omega
 obtain ⟨X,Q⟩:=J (RedP.tW l.length);rw [RedP.nD] at Q;unfold RedP.jM at hs;omega
theorem OK {s:aI} {i:Nat}:(s.drop i).nc=s.nc:=by
 obtain ⟨d1,d2,d3,_⟩:=jk (i:Int) ((s.R (.l i)).take 2) s;exact d2
theorem KN {s:aI} {S:Int->Prop} {j:Nat} (g:aN s) (O:aN (s.drop j)) (hv:s.vars=N) (h:Cv N s S):Cv N (s.drop j) S:=by
 intro v v1 v2 Q;have J:dN s.vars v:=⟨by omega,by omega,by omega⟩
 have I:dN (s.drop j).vars v:=by rw [GJ];exact J
 have:=(js O I).1 Q;rw [zm (.inl rfl)] at this;exact h v v1 v2 ((js g J).2 this)
theorem Od.grow {q p:sn} {c:Nat} {k:List Bool} {t:Nat} {O lf:List Hc} {U:aI} {I:List Ps} {J:Sl} (A:Od w0 w u B L N x O cs un q k t L1 lf U I J p c) (g:ak u w'):
 Od w0 w w' B L N x O cs un q k t (lN L1 u.heap.size 9) lf U I J p c:=by
 have Q:Kp w0 u w' L1 (lN L1 u.heap.size 9):=mI.new g 9;exact ⟨A.row.grow g,Q.lb A.fr A.row.lt,A.sr.new g 9,A.kp.trans Q,A.ci,A.nc,A.hi,A.sub,A.pl,A.le,A.st.grow g,Q.r9 A.r9,A.be,A.pf,A.z,A.ct⟩
theorem Od.mA {q p:sn} {c:Nat} {k:List Bool} {t:Nat} {J lf:List Hc} {s1:aI} {V:List Ps} {U:Sl} (A:Od w0 w u B L N x J cs un q k t L1 lf s1 V U p c) (ht:t<J.length) (hb:J.length<=1000000) {y:Hc} (hy:y=J.getD t GR)
 {nn:Nat} {I:World} (h:jI (.cells #[.i y.i,.slice y.sl.p y.sl.n y.sl.c,.i y.lv,.i y.sz,.bool y.lk] 209) u nn I) {K:World->sn->Nat->Nat->Prop}
 (hk:∀w' O c' L2,Od w0 w w' B L N x J cs un q k (t+1) L2 (lf++ [y]) s1 V U O c'->K w' O (lf++ [y]).length c'):
 ∃w',∃O n' c',(Builtin.append_ #[108,108] 108 #[.slice p lf.length c,.slice (some (qw nn)) 1 1]).run prog I=.ok (.slice O n' c') w'/\K w' O n' c':=by
 have aw:=A.le;refine Row.mA BE AL (A.row.grow h.mod) (Qe (u:=y) h.has) rfl rfl (by simp;omega) λw' O c' o8 m8 Z ay=>?_;have X:=A.sr.grow h.mod;have hr:=(A.row.grow h.mod).lt;have aT:=A.kp.mod.size;have ar:=h.size;have Y:aD (λk=>L1 k=0/\w0.heap.size<=k) I w':=m8.mono λb _ e=>⟨(A.fr b e).1,by have:=(A.fr b e).2;have:=A.z;omega⟩
 have Q:=X.TU (L':=lN L1 I.heap.size 0) Y λ_ hk=>dD hk;have kq:Kp w0 I w' L1 (lN L1 I.heap.size 0):=Q.2.xU λi e=>by rw [e];decide
 have kk:Kp w0 u w' L1 (lN L1 I.heap.size 0):=(mI.grow h.mod).trans kq;have ym:y∈J:=by rw [hy];exact yC ht
 refine hk _ _ _ (lN L1 I.heap.size 0) ⟨o8,λb hb=>?_,?_,A.kp.trans kk,?_,A.nc,A.hi,λv hv=>?_,?_,?_,kk.vw A.st A.r9,kk.r9 A.r9,A.be,A.pf,A.z,QX A.ct⟩
 . rcases Z with rfl|rfl
   . rw [dD (hr b hb)];exact A.fr b hb
   . have:=aL hb;exact ⟨jC (by omega),by omega⟩
 . have:=Q.1;rw [show t+1 - (lf++ [y]).length=t - lf.length by simp];exact this
 . have:=A.ci;rw [Bi ht,<- hy] at this;rw [U6];exact this
 . rcases F'.1 hv with hv|hv
   . exact A.sub v hv
   . rw [Bs] at hv;subst hv;exact ym
 . have:=A.pl;rw [UH,Va];omega
 . rw [UH,Va];omega
theorem LU (h:SR w0 w B L N x) (k:qR N cs x.s (x.hv.map xr) un) (hi:Cv N x.s x.S) (eN:x.hv.length<=1000000) (fh:x.pr.length<=900000000) (ei:∀u∈x.hv,Qp u) (fs:0<=x.m.dr/\x.m.dr<=1000000000) (pf:PF cs x.s (x.pr.map ik)):
 Calls prog ia.id #[ck B] w λe w'=>e=.returned (.tuple #[])/\∃L' s' hv' ey pr' eF bv,Kp w0 w w' L L'/\
  SR w0 w' B L' N {x with hv:=hv',hs:=ey,s:=s',ps:=eF,pr:=pr',m:= {x.m with dr:=bv,bZ:=mN (IntKind.i64.wrap (x.m.bZ+1)) 100}}/\
  qR N cs s' (hv'.map xr) un/\Cv N s' x.S/\s'.nc=x.s.nc/\(∀u∈hv',Qp u)/\pr'.length+hv'.length=x.pr.length+x.hv.length/\hv'.length<=x.hv.length/\s'.R .be=x.s.R .be/\PF cs s' (pr'.map ik)/\x.m.dr<=bv/\bv+hv'.length=x.m.dr+x.hv.length/\x.hv.length<=2*hv'.length+1:=by
 refine ia.aj ⟨_,rfl,_,_,_,ae h.at rfl,RH h k.g eN ei λp c u I ll A=>?_⟩;have hlen:=A.sm.len;have cT:ll.all RedP.Fq=true:=UK.2 A.ok;have d6:∀y∈I,Qp y:=A.sm.mem (λu v e hu=>by unfold Qp at*;simp only [uw,XM] at e;obtain ⟨_,_,e3,e4,e5⟩:=e;rw [<- e3,<- e4,<- e5];exact hu) ei;refine (Re.PL (A.row.vr Re.Up) rfl (by rw [A.len];omega)).mono ?_;rintro e gk ⟨q,d,ks,rfl,b7,ob,fq,bu⟩;rw [cT,if_pos rfl] at bu;have d':ks.length=I.length:=by rw [bu.1,A.len,hlen]
 have eH:=J0 (l:=ll) (ks:=ks) (by rw [d',<- hlen];exact A.len.symm) λx hx=>bu.2 x (by first|exact hx|rw [A.len] at*;exact hx);have f':=(h.hv id).2.1;have c2:=A.sr.new b7 9;have dd:=A.kp.trans (mI.new b7 9);have su:=A.kp.mod.size;have fd:=b7.size;refine ⟨_,_,_,rfl,_,rfl,_,_,_,ae c2.at rfl,?_⟩;have c0:qR N cs x.s (([]++I.drop 0).map xr) un:=by
  rw [Vh,W5,<- A.sm.xr];exact k
 refine ⟨λp n c v u z=>∃ (t:Nat) (L1:Nat->Nat) (lf:List Hc) (s1:aI) (U:List Ps) (Y:Sl),v=t/\t<=I.length/\z=I.length - t/\n=lf.length/\Od w0 w u B L N x I cs un q ks t L1 lf s1 U Y p c,
  ⟨_,0,_,[],x.s,x.pr,x.ps,rfl,vx _,rfl,rfl,⟨Row.nil _ _ _ _,λb hb=>by simp [aG] at hb,by simpa using c2,dd,c0,rfl,hi,by simp,by simp,vx _,ob.vw,⟨λb hb=>⟨jC (fq b hb),ob.lt b hb⟩⟩,rfl,pf,h.g.size,by simp⟩⟩,?_⟩
 rintro p n c v u z _ ⟨t,L1,lf,s1,U,Y,rfl,ht,rfl,rfl,D⟩;refine ah (λr=>?_) (λr=>?_)
 . have r:t<I.length:=by simp at r;omega
   obtain ⟨r1,r2,r3⟩:=D.sr.hv id;have r1:Row 5 JJ cK u x.hs.p x.hs.c I:=r1;obtain ⟨y,hy⟩: ∃y,y=I.getD t GR:=⟨_,rfl⟩
   have cp:y∈I:=by rw [hy];exact yC r
   have oy:=d6 y cp;refine (r1.vr BE).ix GR (by omega) (by show x.hs.n=I.length;omega) (by show (t:Int)< (x.hs.n:Int);omega) λa ha=>?_;rw [tn,<- hy] at ha;refine ⟨_,_,_,_,_,_,_,ha,λaw fy b'=>?_⟩;refine bD b'.has rfl rfl λar bY en=>?_;have bY:bT ar aw #[.i y.i,.slice y.sl.p y.sl.n y.sl.c,.i y.lv,.i y.sz,.bool y.lk]:=bY;have gb:=b'.num;have ep:ak u ar.drew:=(aD.cW b'.mod en (by omega)).trans (aD.refl ar).drew;have J:=D.grow ep;have b3:=bY.grow (aD.refl ar).drew;refine J.st.ix false (by omega) rfl (by omega) λfv el=>⟨_,el,?_⟩
   have dp:∀ {u':World} {L2:Nat->Nat},Od w0 w u' B L N x I cs un q ks t L2 lf s1 U Y p c->bT u' aw #[.i y.i,.slice y.sl.p y.sl.n y.sl.c,.i y.lv,.i y.sz,.bool y.lk]->
    ∃d7 a7 a' a_ ef cg ed,aK u' (qw aw) 0 [.i d7,.slice a7 a' a_,.i ef,.i cg,.bool ed]/\
     ∀b_ b9,jI (.cells #[.i d7,.slice a7 a' a_,.i ef,.i cg,.bool ed] 209) u' b_ b9->
     ∃d8 bg a8 bf,(Builtin.append_ #[108,108] 108 #[.slice p lf.length c,.slice (some (qw b_)) 1 1]).run prog b9=.ok (.slice bg a8 bf) d8/\
     ∃d4,d4<I.length - t/\∃ (t2:Nat) (L1:Nat->Nat) (lf:List Hc) (s1:aI) (U:List Ps) (Y:Sl),IntKind.i64.wrap ((t:Int)+ (1:Int))=t2/\t2<=I.length/\d4=I.length - t2/\a8=lf.length/\Od w0 w d8 B L N x I cs un q ks t2 L1 lf s1 U Y bg bf:=by
    intro u' L2 E hh;refine ⟨_,_,_,_,_,_,_,⟨ae hh rfl,ae hh rfl,ae hh rfl,ae hh rfl,ae hh rfl,trivial⟩,λb_ b9 eK=>?_⟩;refine E.mA r (by omega) hy eK λw' p' c' L3 E'=>⟨_,?_,t+1,L3,_,_,_,_,wN,by omega,rfl,rfl,E'⟩
    omega
   refine ah (λ_=>dp J b3) (λa6=>?_);have a6:ks.getD t false=false:=by rw [tn] at a6;exact a6
   have n9:lN L1 u.heap.size 9 aw=9:=jC (by omega);refine ⟨_,rfl,_,ae J.sr.at rfl,_,ae b3 rfl,(J.sr.SE D.ci.g y.i).mono ?_⟩;rintro e O ⟨fk,rfl,ag,bx,hh⟩;have V:Kp w0 ar.drew O (lN L1 u.heap.size 9) ag:=bx.xU λi e=>by rw [e];decide
   have Z:Row 5 JJ cK O p c lf:=bx.row J.row λb hb e=>by rw [(J.fr b hb).1] at e;exact absurd e (by decide)
   have bi:=bx.lb J.fr J.row.lt;have bb:=V.vw J.st J.r9;have ap:=V.r9 J.r9;have dq:=V.has b3 n9;refine ⟨_,rfl,?_⟩;rcases hh with ⟨hr,X⟩| ⟨rfl,eu,gd,X⟩
   . refine bP (by simpa using hr) (dp ⟨Z,bi,X,J.kp.trans V,D.ci,D.nc,D.hi,D.sub,D.pl,D.le,bb,ap,D.be,D.pf,D.z,D.ct⟩ dq)
   . refine bA rfl ?_;have X:SR w0 O B ag N {x with hv:=I,s:=s1.drop y.i,ps:=Y,pr:=U,m:= {x.m with dr:=x.m.dr+ (t - lf.length:Nat)}}:=X;have ac:ak O O.drew:=(aD.refl O).drew;have b8:=X.hr id y cp;have ga:=oy.2.2.2;have gf:=b8.n;refine ⟨ak O.drew,aD.refl _,_,rfl,_,_,_,λv gv=>bK (X.drew.at.grow gv) rfl,_,_,_,λv gv=>ae (dq.grow (ac.trans gv)) rfl,(iQ (b8.v.grow ac) b8.n (by omega)).mono ?_⟩;rintro e fP ⟨q9,d9,rfl,o9,g9,f9⟩;refine ⟨_,_,_,rfl,g9,λgl b4 az=>?_⟩;have ay:=g9.trans az.mod;refine ⟨ay,?_⟩;have ez:=X.drew.new ay 9;have ax:Kp w0 O b4 ag (lN ag O.drew.heap.size 9):=(mI.grow ac).trans (mI.new ay 9);have an:=(Z.grow ac).grow ay;have bk:=ax.lb bi Z.lt;have ro:RO b4 (lN ag O.drew.heap.size 9) ⟨q9,y.c.length,d9⟩ y.c:=⟨rfl,(o9.grow az.mod).vw,λk hk=>⟨jC (f9 k hk),VD (o9.lt k hk) az.mod.size⟩⟩
     have c3:=D.pl;have eb:=D.le;refine II ez (by show U.length<=_;omega) true ro az.has λdT ea q' aT cc=>?_;have cb:Kp w0 b4 dT (lN ag O.drew.heap.size 9) ea:=cc.xU λi e=>by rcases e with rfl|rfl<;>decide
     have bn:=cc.row an λb hb e=>by rw [(bk b hb).1] at e;rcases e with e|e<;>exact absurd e (by decide)
     have bc:=cc.lb bk an.lt;refine ⟨_,rfl,_,bK aT.at rfl,_,rfl,?_⟩;have ew:IntKind.i64.wrap (x.m.dr+ (t - lf.length:Nat)+1)=x.m.dr+ (t+1 - lf.length:Nat):=by rw [aA (by omega) (by omega)];omega
     show ∃c7,bB _ 0 [.i (IntKind.i64.wrap (x.m.dr+ (t - lf.length:Nat)+1))] dT c7/\_;rw [ew];refine ju aT.at rfl rfl λc7 eL cm=>?_;have Q:=aT.own (m':= {x.m with dr:=x.m.dr+ (t+1 - lf.length:Nat)}) eL cm;have kf:=((V.trans ax).trans cb).trans Q.2;have aa:=D.ci;rw [Bi r,<- hy,LV,Vy] at aa;have ec:=aa.DE (xr y) (by simp);have dh:=aa.drop gd;rw [<- LV] at dh;have b5:=bn.keep cm λb hb (e:b=B)=>by
      have h1:=(bc b hb).1;rw [e,aT.ml.1] at h1;exact absurd h1 (by decide)
     refine ⟨_,?_,t+1,ea,lf,s1.drop y.i,U++ [(true,⟨q9,y.c.length,d9⟩,y.c)],q',wN,by omega,rfl,rfl,⟨b5,bc,Q.1,J.kp.trans kf,dh,by rw [OK];exact D.nc,KN D.ci.g gd D.ci.v D.hi,D.sub,?_,by omega,?_,?_,?_,?_,D.z,Pk D.ct a6⟩⟩
     . omega
     . rw [UH,Va];omega
     . exact (((ax.trans cb).trans Q.2).vw bb ap)
     . exact (((ax.trans cb).trans Q.2).r9 ap)
     . rw [zm (.inr rfl)];exact D.be
     . have:=D.pf.drop (by rw [D.ci.v,show s1.R (.a y.i)=y.c from ec.2.2];exact aa.ok _ (UW _ (U1 (f:=(·.2)) (a:=xr y) (by simp)))) eu;rw [LV];rw [show s1.R (.a y.i)=y.c from ec.2.2] at this;exact this
 . have r:t=I.length:=by simp at r;omega
   subst r;have aa:=D.ci;rw [V6,VF] at aa;have et:∀k,L1 k≠0->(λk=>if aG p=some k then 5 else L1 k) k=L1 k:=λk hk=>by
    show (if aG p=some k then 5 else L1 k)=L1 k;rw [if_neg λe=>hk (D.fr k e).1]
   have SS:=D.sr.zF et;have co:∀b,aG p=some b->(λk=>if aG p=some k then 5 else L1 k) b=5/\w0.heap.size<=b:=λb hb=>⟨by show (if aG p=some b then 5 else L1 b)=5;rw [if_pos hb],by have:=(D.fr b hb).2;have:=D.z;omega⟩
   refine ⟨_,rfl,?_⟩;refine cz SS.at rfl rfl λe6 dc d5=>?_;have Q:=SS.swap (q:=⟨p,lf.length,c⟩) (hv':=lf) D.row rfl co (λv hv=>SS.hr id v (D.sub v hv)) dc d5;refine ⟨_,rfl,_,ae Q.1.at rfl,_,rfl,?_⟩;refine cz Q.1.at rfl rfl λe7 eg du=>?_;have Q2:=Q.1.own (m':= {x.m with dr:=x.m.dr+ (I.length - lf.length:Nat),bZ:=mN (IntKind.i64.wrap (x.m.bZ+1)) 100}) eg du;have eb:=D.le;have c3:=D.pl;have kr:Kp w0 w u L (λk=>if aG p=some k then 5 else L1 k):=⟨D.kp.mod,λk hk=>by
    show (if aG p=some k then 5 else L1 k)=L k;rw [if_neg λe=>by have:=(D.fr k e).2;omega];exact D.kp.DG k hk⟩
   refine ⟨rfl,_,s1,lf,_,U,Y,_,(kr.trans Q.2).trans Q2.2,Q2.1,aa,D.hi,D.nc,λv hv=>d6 v (D.sub v hv),by omega,by omega,D.be,D.pf,by omega,by omega,by
    have c1:=D.ct;rw [<- d',K'] at c1;have:=A.len;omega⟩
end
section
variable {w w':World}
structure Gl (z:Nat) (w:World) (p:sn) (pr:List Ps):Prop where
 v:Vr 2 Rz w p pr
 r:∀u∈pr,u.2.1.n=u.2.2.length/\Vw sT w u.2.1.p u.2.2
 f:pr≠[]->∀j,aG p=some j->z<=j
 g:∀u∈pr,∀j,aG u.2.1.p=some j->z<=j
theorem Gl.keep {z:Nat} {p:sn} {pr:List Ps} {S:Nat->Prop} (h:Gl z w p pr) (m:aD S w w') (J:∀j,z<=j->¬S j):Gl z w' p pr:=by
 refine ⟨?_,λu hu=>⟨(h.r u hu).1,(h.r u hu).2.keep m λj I=>J j (h.g u hu j I)⟩,h.f,h.g⟩;by_cases e:pr= []
 . subst e;exact λj I=>by simp at I
 . exact h.v.keep m λj I=>J j (h.f e j I)
theorem Gl.grow {z:Nat} {p:sn} {pr:List Ps} (h:Gl z w p pr) (m:ak w w'):Gl z w' p pr:=h.keep m λ_ _=>id
theorem Gl.sv {z:Nat} {p:sn} {pr:List Ps} (h:Gl z w p pr) (hl:∀u∈pr,u.2.2.length<=maxLen):SV w p (pr.map ik):=by
 intro i hi;have I:i<pr.length:=by simpa using hi
 obtain ⟨a,e,J⟩:=h.v i I;have hm:pr[i]∈pr:=V_ I;have ex:(pr.map ik).getD i cS=ik pr[i]:=by simp [List.getD,I]
 rw [ex];exact ⟨a,pr[i].2.1,e,J,(h.r _ hm).1,by rw [(h.r _ hm).1];exact hl _ hm,(h.r _ hm).2⟩
end
section
variable {w:World} {p q:sn} {n c:Nat} {l:List Int}
theorem D0 {k:Int} {hs:List Sl} {cs:List (List Int)} {m:List Int} {j d:Nat} (Z:V2 sT w q hs cs) (hj:j=cs.length) (h:Vw sT w p m) (hn:n=m.length) (hm:n<=maxLen):
 Calls prog qx.id #[.agg #[.i k,.slice q j d],.slice p n c] w λe w'=>e=.returned (.bool (cQ k cs && gU m cs))/\ak w w':=by
 refine qx.aj ?_;intro n1 w1 h1;have g1:=h1.mod;refine ⟨_,_,_,_,⟨ae h1.has rfl,ae h1.has rfl,trivial⟩,(fS (Z.grow g1) hj).mono ?_⟩;rintro e w2 ⟨rfl,Y⟩;have G2:=g1.trans Y;have H2:=h1.has.grow Y;cases Q:cQ k cs with
 |false=>exact ⟨_,rfl,bP rfl ⟨rfl,G2⟩⟩
 |true=>
 have ar:cs.length<=262144:=by
  unfold cQ at Q;simp only [ts,decide_eq_true_eq] at Q;omega
 refine ⟨_,rfl,bA rfl ⟨_,_,_,ae H2 rfl,?_⟩⟩;refine ⟨λI w' k2=>∃t:Nat,I=t/\t<=cs.length/\k2=cs.length - t/\((cs.take t).all λc=>c.any λl=>decide (iz m l=1))=true/\ak w w',⟨_,0,rfl,vx _,rfl,rfl,G2⟩,?_⟩;rintro I w3 k3 _ ⟨t,rfl,ht,rfl,ha,U⟩;refine ah (λs=>?_) (λs=>⟨?_,U⟩)
 . have s:t<cs.length:=by simp at s;omega
   refine wS (Z.grow U) hj s λa x e e1 e2 v ex=>⟨_,_,_,e,?_⟩
   unfold maxLen at e2;refine ⟨λJ w' k4=>∃i:Nat,J=i/\i<=(cs.getD t []).length/\k4=(cs.getD t []).length - i/\(((cs.getD t []).take i).any λl=>decide (iz m l=1))=false/\ak w3 w',⟨_,0,rfl,vx _,rfl,rfl,aD.refl w3⟩,?_⟩;rintro J w4 k4 _ ⟨i,rfl,hi,rfl,hb,V⟩;have X:=U.trans V;refine ah (λr=>?_) (λr=>⟨?_,X⟩)
   . have r:i< (cs.getD t []).length:=by simp at r;omega
     refine (v.grow V).ix 0 (by omega) e1 (by omega) λa e=>⟨_,e,?_⟩
     rw [tn];refine (D' (h.grow X) hn hm _).mono ?_;rintro e w5 ⟨rfl,g5⟩;refine ⟨_,rfl,?_⟩;have hv:=G1 m ((cs.getD t []).getD i 0);refine ah (λO=>?_) (λO=>?_)
     . have O:iz m ((cs.getD t []).getD i 0)=1:=by
        have:=of_decide_eq_true O;omega
       refine ⟨_,?_,t+1,wN,by omega,rfl,rV (d:= []) s ha ?_,X.trans g5⟩
       . omega
       . exact VI.2 ⟨_,bN r,decide_eq_true O⟩
     . refine ⟨_,?_,i+1,wN,by omega,rfl,?_,V.trans g5⟩
       . omega
       . rw [pL r (d:=0),hb,Xr];simp at O ⊢;omega
   . have r:i=(cs.getD t []).length:=by simp at r;omega
     subst r;rw [K'] at hb;have:gU m cs=false:=by unfold gU;exact oG (d:= []) s hb
     rw [this];rfl
 . have s:t=cs.length:=by simp at s;omega
   subst s;rw [K'] at ha;have:gU m cs=true:=ha;rw [this];rfl
end
section
variable {w w' w0 w2 w3:World} {p q:sn} {n m c d:Nat} {k:Int} {hs ks:List Sl} {cs:List (List Int)} {l:List Int}
theorem K5 {B:Nat}:∀ {cs:List (List Int)},(∀c∈cs,c.length<=B)->tC cs<=cs.length*B
 | [],_=>by simp [tC]
 |x::cs,h=>by
  have:=K5 (cs:=cs) λc I=>h c (vy _ I);have J:=h x (UJ ..);have e:tC (x::cs)=x.length+tC cs:=by simp [tC]
  rw [e,U9,XV];omega
theorem sj (h:cQ k cs=true):∀c∈cs,c.length<=4096/\∀x∈c,bU x=true/\bh x<=k:=by
 unfold cQ at h;rw [ts,UK] at h;intro c O;have:=h.2 c O;rw [ts,UK] at this;have I:=cy this.1;exact ⟨I.2,λx J=>⟨I.1 x J,by simpa using this.2 x J⟩⟩
theorem KA {v:Int} {c:List Int} (h:∀x∈c,bh x<=v):uZ v c=v:=by
 unfold uZ
 induction c with
 |nil=>rfl
 |cons x c ih=>
  rw [Wl];have I:=h x (UJ ..);have e:imax (imax v x) (-x)=v:=by
   unfold bh at I;unfold imax;split at I<;>split<;>split<;>omega
  rw [e];exact ih λy J=>h y (vy _ J)
theorem wb {v:Int}:∀ {cs:List (List Int)},(∀c∈cs,∀x∈c,bh x<=v)->cs.foldl uZ v=v
 | [],_=>rfl
 |x::cs,h=>by
  rw [Wl,KA (h x (UJ ..))];exact wb λc I=>h c (vy _ I)
theorem V2.bJ {b:Nat} (h:bT w b #[.slice q m c]) (hl:Vw sT w q l) (hm:m=l.length) (J:m<=maxLen):V2 sT w (some ⟨b,0,none⟩) [⟨q,m,c⟩] [l]:=by
 refine ⟨λj I=>?_,rfl,λj I=>?_⟩
 . have:j=0:=by simpa using I
   subst this;exact ⟨_,rfl,ae h rfl⟩
 . have:j=0:=by simpa using I
   subst this;exact ⟨hm,J,hl⟩
theorem Ga {b:Nat} (V:cQ k cs=true) (Y:cs.length<262144) (J:V2 sT w p hs cs) (hb:bT w b #[.slice q m c]) (hl:Vw sT w q l) (hm:m=l.length) (Q:jf l=true):
 Calls prog nK.id #[.agg #[.i k,.slice p cs.length d],.slice (some ⟨b,0,none⟩) 1 1] w λe w'=>∃ (nb:Nat) (id:List (Int × Int)),e=.returned (ck nb)/\Wk true (λ_=>False) w w' nb k id cs cs.length/\(∀x∈l,bU x=true/\Nt id x):=by
 have U:=sj V;have I:=cy Q;refine (EI J rfl (V2.bJ hb hl hm (by rw [hm];unfold maxLen;omega)) rfl (λc J=>⟨(U c J).1,λx O=> ((U c J).2 x O).1⟩) (λc J=>by rw [Bs] at J;subst J;exact ⟨by have:=I.2;omega,I.1⟩) (by omega) (by simp)).mono ?_;rintro e w' ⟨nb,id,rfl,X,hN⟩;rw [wb λc J x O=> ((U c J).2 x O).2] at X;exact ⟨nb,id,rfl,X,λx O=>⟨I.1 x O,hN l (by simp) x O⟩⟩
theorem xw (Y:V2 sT w p hs cs) (hn:n=cs.length) (hB:cQ k cs=true->jf l=true->cs.length<262144) (hl:Vw sT w q l) (hm:m=l.length) (O:m<=maxLen):
 Calls prog si.id #[.agg #[.i k,.slice p n d],.slice q m c] w λe w'=>∃r:Bool,e=.returned (.bool r)/\(r=true↔cQ k cs=true/\jf l=true/\uB cs l)/\ak w w':=by
 subst hn;refine si.aj ?_;intro n1 w2 J;refine ⟨_,_,_,_,bS J.has,(IS (Y.grow J.mod) rfl (hl.grow J.mod) hm O).mono ?_⟩;rintro e w5 ⟨rfl,X⟩;have U:=J.mod.trans X;refine ⟨_,rfl,ah (λr=>?_) (λr=>⟨false,rfl,⟨λe=> (by cases e),λh=>by rw [h.1,h.2.1] at r;cases r⟩,U⟩)⟩;rw [ts] at r;refine ⟨_,_,_,_,bS (J.has.grow X),?_⟩;intro n9 aa lU;have I:=U.trans lU.mod;refine (Ga r.1 (hB r.1 r.2) (Y.grow I) lU.has (hl.grow I) hm r.2).mono ?_;rintro e Z ⟨nb,id,rfl,hW,hN⟩;have V:=cy r.2;refine ⟨_,rfl,(hW.unit (hl.grow I) hm (by omega) hN).mono ?_⟩;rintro e an ⟨b,rfl,hr,Q,_⟩;exact ⟨b,rfl,b,rfl,hr.trans ⟨λh=>⟨r.1,r.2,h⟩,λh=>h.2.2⟩,I.trans Q.wg⟩
open Classical in
noncomputable def jV (cs:List (List Int)) (s:jb):Int:=if s.1=true\/uB cs s.2\/fB cs s.2 then 0 else 7
open Classical in
noncomputable def qq (cs:List (List Int)) (s:jb):List (List Int):=if s.1=true then p8 s.2 cs else if uB cs s.2\/fB cs s.2 then cs++ [s.2] else cs
open Classical in
noncomputable def yR (k:Int) (cs:List (List Int)) (s:jb):Int:=if s.1=false/\(uB cs s.2\/fB cs s.2) then uZ k s.2 else k
theorem vn {s:jb} (h:s.1=true):jV cs s=0/\qq cs s=p8 s.2 cs/\yR k cs s=k:=by
 unfold jV qq yR;exact ⟨if_pos (.inl h),if_pos h,if_neg λe=>by rw [h] at e;cases e.1⟩
theorem rH {s:jb} (h:s.1=false) (I:uB cs s.2\/fB cs s.2):jV cs s=0/\qq cs s=cs++ [s.2]/\yR k cs s=uZ k s.2:=by
 unfold jV qq yR;exact ⟨if_pos (.inr I),by rw [if_neg (by rw [h];simp),if_pos I],if_pos ⟨h,I⟩⟩
theorem vK {s:jb} (h:s.1=false) (I: ¬(uB cs s.2\/fB cs s.2)):jV cs s=7/\qq cs s=cs/\yR k cs s=k:=by
 unfold jV qq yR;exact ⟨if_neg λe=>e.elim (λe=>by rw [h] at e;cases e) I,by rw [if_neg (by rw [h];simp),if_neg I],if_neg λe=>I e.2⟩
theorem Wk.step {A:Nat->Prop} {W:World} {nb:Nat} {vars:Int} {id:List (Int × Int)} {X:Nat} {s:jb} (h:Wk true A W w nb vars id cs X) (Z:Vw sT W q s.2) (hn:n=s.2.length) (hlen:s.2.length<=4096) (hl:∀x∈s.2,bU x=true/\Nt id x) (Y:X<262144):
 Calls prog kJ.id #[ck nb,.agg #[.bool s.1,.slice q n c]] w λe w'=>e=.returned (.i (jV cs s))/\aD (λj=> ¬A j) w w'/\∃t:Bool,(jV cs s=0->(s.1=true\/s.2≠[])->t=true)/\Wk t A W w' nb (yR vars cs s) id (qq cs s) (X+1):=by
 refine (h.Ux Z hn hlen hl Y).mono ?_;rintro e w' ⟨r,rfl,m,h⟩;rcases h with ⟨h1,rfl,O⟩| ⟨h1,V,rfl,O⟩| ⟨h1,V,rfl,O⟩
 . obtain ⟨J,U,Q⟩:=vn (cs:=cs) (k:=vars) h1;rw [J,U,Q];exact ⟨rfl,m,true,λ_ _=>rfl,O.up⟩
 . obtain ⟨J,U,Q⟩:=rH (k:=vars) h1 V;rw [J,U,Q];exact ⟨rfl,m,_,λ_ I=> (by rcases I with I|I;(rw [h1] at I;cases I);simpa using I),O⟩
 . obtain ⟨J,U,Q⟩:=vK (k:=vars) h1 V;rw [J,U,Q];exact ⟨rfl,m,_,λI=>absurd I (by decide),O.up⟩
end
section
variable {W w w' w0 w2 w3 u:World} {p q:sn} {n m d i c:Nat} {k:Int} {hs:List Sl} {cs:List (List Int)} {l:List Int} {ss:List So} {al:List jb}
theorem QR (v:Int):∀ (c:List Int),v<=uZ v c/\∀x∈c,bh x<=uZ v c:=by
 intro c;unfold uZ
 induction c generalizing v with
 |nil=>exact ⟨U3 _,λx I=>by simp at I⟩
 |cons y c ih=>
  rw [Wl];obtain ⟨h1,J⟩:=ih (imax (imax v y) (-y));have e:v<=imax (imax v y) (-y)/\bh y<=imax (imax v y) (-y):=by
   unfold imax bh;repeat' split
   all_goals omega
  refine ⟨by omega,λx I=>?_⟩;rcases UI.1 I with rfl|I
  . omega
  . exact J x I
theorem Rf {v B:Int} (hv:v<=B):∀ {c:List Int},(∀x∈c,bh x<=B)->uZ v c<=B:=by
 intro c;unfold uZ
 induction c generalizing v with
 |nil=>exact λ_=>hv
 |cons y c I=>
  intro h;rw [Wl];refine I ?_ λx J=>h x (vy _ J);have:=h y (UJ ..);unfold imax;unfold bh at this;repeat' split
  all_goals (first|omega| (split at this<;>omega))
theorem PO (v:Int):∀ (cs:List (List Int)),v<=cs.foldl uZ v/\∀c∈cs,∀x∈c,bh x<=cs.foldl uZ v:=by
 intro cs
 induction cs generalizing v with
 |nil=>exact ⟨U3 _,λc I=>by simp at I⟩
 |cons y cs ih=>
  rw [Wl];obtain ⟨h1,O⟩:=ih (uZ v y);obtain ⟨U,Q⟩:=QR v y;refine ⟨by omega,λc I x J=>?_⟩;rcases UI.1 I with rfl|I
  . have:=Q x J;omega
  . exact O c I x J
theorem O4 {v B:Int} (hv:v<=B):∀ {cs:List (List Int)},(∀c∈cs,∀x∈c,bh x<=B)->cs.foldl uZ v<=B:=by
 intro cs
 induction cs generalizing v with
 |nil=>exact λ_=>hv
 |cons y cs I=>
  intro h;rw [Wl];exact I (Rf hv (h y (UJ ..))) λc J=>h c (vy _ J)
theorem Mf {x:Int} (h:bU x=true):bh x<=1048576:=by
 have:=nF h;unfold bh;split<;>omega
def sA (s:jb):Prop:=s.1=false/\s.2= []
def lX (al:List jb) (t:Nat):Prop:=t<al.length/\sA (al.getD t cS)/\∀j,j<t->¬sA (al.getD j cS)
def Kf (al:List jb):Prop:=∀j,j<al.length->¬sA (al.getD j cS)
theorem lX.Er {t I:Nat} (h:lX al t) (J:lX al I):t=I:=by
 rcases Xe t I with e|e|e
 . exact absurd h.2.1 (J.2.2 t e)
 . exact e
 . exact absurd J.2.1 (h.2.2 I e)
theorem LL:gH prog oF.id=true:=by kernel_rfl
theorem Nx (hl:SV w q al) (hm:m=al.length) (ag:m<=1000000) {e:Nat}:Calls prog r_.id #[.slice q m e] w λe w'=>ak w w'/\((Kf al/\e=.returned (.i (-1)))\/∃t:Nat,lX al t/\e=.returned (.i (t:Int))):=by
 subst hm;refine r_.aj ((bG.aj (R:=λe w'=>ak w w'/\((Kf al/\e=.returned (.i (-1)))\/∃t:Nat,lX al t/\e=.returned (.i (t:Int)))) ?_).mono ?_)
 . refine ⟨λI u z=>∃t:Nat,I=t/\t<=al.length/\z=al.length - t/\ak w u/\∀j,j<t->¬sA (al.getD j cS),⟨_,0,rfl,vx _,rfl,aD.refl _,λj Z=>by omega⟩,?_⟩;rintro I u z _ ⟨t,rfl,ht,rfl,V,O⟩;refine ah (λr=>?_) (λr=>⟨V,.inl ⟨λj Z=>O j (by simp at r;omega),rfl⟩⟩);have r:t<al.length:=by simpa using r
   refine hl.ix V rfl r λa s Y h1 h2 h3=>⟨_,_,_,_,Y u V,?_⟩
   rw [LL];show Calls _ _ _ _ _;rw [KR];refine (oF.aj (R:=λe w'=>∃b:Bool,e=.returned (.bool b)/\(b=true↔sA (al.getD t cS))/\ak u w') ?_).mono ?_
   . intro n1 w2 J;refine ⟨_,ae J.has rfl,ah (λQ=>⟨_,_,_,ae J.has rfl,_,rfl,?_,J.mod⟩) (λQ=>⟨false,rfl,⟨λe=> (by cases e),λe=>by rw [e.1] at Q;cases Q⟩,J.mod⟩)⟩;have Q:(al.getD t cS).1=false:=by simpa using Q
     rw [beq_iff_eq];unfold sA;rw [h1];constructor
     . intro e;exact ⟨Q,UF (by omega)⟩
     . intro e;rw [e.2];rfl
   . rintro aa ac ⟨b,rfl,hb,U⟩;refine ⟨_,rfl,ah (λX=>⟨V.trans U,.inr ⟨t,⟨r,hb.1 X,O⟩,rfl⟩⟩) (λX=>⟨_,by omega,t+1,wN,r,rfl,V.trans U,λj Z=>?_⟩)⟩;by_cases e:j<t
     . exact O j e
     . obtain rfl:j=t:=by omega
       exact λe=>by rw [hb.2 e] at X;cases X
 . rintro e1 w1 ⟨g,⟨h,rfl⟩| ⟨t,h,rfl⟩⟩
   . exact ⟨_,rfl,g,.inl ⟨h,rfl⟩⟩
   . exact ⟨_,rfl,g,.inr ⟨t,h,rfl⟩⟩
def vM (ha:List Sr) (i:Nat) (s:jb):List Sr:=if s.1=true then jO s.2 ha else ha++ [(s.2,true,(i:Int))]
def eI (cs:List (List Int)) (al:List jb):Nat->List Sr
 |0=>p6 cs cs.length
 |i+1=>vM (eI cs al i) i (al.getD i cS)
def rG (cs:List (List Int)) (al:List jb):Prop:=∃t,lX al t/\∀i,i<=t->(al.getD i cS).1=true\/uB ((eI cs al i).map (·.1)) (al.getD i cS).2
theorem wu {x:List Int} {y:Sr}:∀ {ha:List Sr},y∈jO x ha->y∈ha
 | [],h=>h
 |a::l,h=>by
  unfold jO at h;split at h
  . exact vy _ h
  . rcases UI.1 h with h|h
    . exact h▸UJ ..
    . exact vy _ (wu h)
theorem By {x:List Int}:∀ {ha:List Sr},(jO x ha).length<=ha.length
 | []=>y4 _
 |a::l=>by
  unfold jO;split
  . simp
  . simpa using By (ha:=l)
theorem Dn {P:List Int->Prop} (h1:∀c∈cs,P c) (J:∀s∈al,P s.2):∀ {i:Nat},i<=al.length->∀x∈eI cs al i,P x.1
 |0,_,x,I=>by
  unfold eI p6 at I;obtain ⟨j,O,rfl⟩:=L0.1 I;exact h1 _ (iV (Vj.1 O))
 |i+1,hi,x,I=>by
  unfold eI vM at I;split at I
  . exact Dn h1 J (by omega) x (wu I)
  . rcases F'.1 I with I|I
    . exact Dn h1 J (by omega) x I
    . rw [Bs] at I;rw [I];exact J _ (by simp [List.getD,show i<al.length by omega])
theorem td:∀ {i:Nat},(eI cs al i).length<=cs.length+i
 |0=>by unfold eI;rw [qd];omega
 |i+1=>by
  have I:=td (i:=i);unfold eI vM;split
  . have:=By (x:=(al.getD i cS).2) (ha:=eI cs al i);omega
  . rw [UH,Va];omega
end
section
variable {W w w' w0 w2 w3 u:World} {p q:sn} {n m d i c:Nat} {k:Int} {cs:List (List Int)} {l:List Int} {al:List jb} {S s:Bool × Int->Prop}
theorem l6 {α β:Type} (f:α->β) (l:List α) (k:Nat) (d:β) (I:α) (h:k<l.length):(l.map f).getD k d=f (l.getD k I):=by simp [List.getD,h]
theorem Gk:∀ {i:Nat} {K:List Nat},uB (cs.take i++K.map λj=>cs.getD j []) l->uB ((Bq cs l i K).map λj=>cs.getD j []) l
 |0,K,h=>by rw [Yg,Vh] at h;exact h
 |i+1,K,h=>by
  by_cases hu:uB (cs.take i++K.map λj=>cs.getD j []) l
  . rw [AD hu];exact Gk hu
  . rw [tq hu];refine Gk (Ih (λx I=>?_) h);rcases F'.1 I with I|I
    . rw [WU] at I;obtain ⟨j,J,rfl⟩:=I;by_cases e:j<i
      . exact UW _ (by rw [WU];exact ⟨j,by omega,rfl⟩)
      . obtain rfl:j=i:=by omega
        refine Vt _ ?_;rw [Vy];exact UI.2 (.inl (by simp [List.getD,show j<cs.length by omega]))
    . exact Vt _ (by rw [Vy];exact vy _ I)
theorem HV:∀ {i:Nat},∀x∈eI cs al i,(∃j:Nat,j<cs.length/\x=(cs.getD j [],false,(j:Int)))\/∃j:Nat,j<i/\(al.getD j cS).1=false/\x=((al.getD j cS).2,true,(j:Int))
 |0,x,I=>by
  unfold eI p6 at I;obtain ⟨j,J,rfl⟩:=L0.1 I;exact .inl ⟨j,Vj.1 J,rfl⟩
 |i+1,x,I=>by
  have up:∀x∈eI cs al i,(∃j:Nat,j<cs.length/\x=(cs.getD j [],false,(j:Int)))\/∃j:Nat,j<i+1/\(al.getD j cS).1=false/\x=((al.getD j cS).2,true,(j:Int)):=λx I=>by
   rcases HV x I with h| ⟨j,h1,O⟩
   . exact .inl h
   . exact .inr ⟨j,by omega,O⟩
  unfold eI vM at I;split at I
  . exact up x (wu I)
  . rename_i h;rcases F'.1 I with I|I
    . exact up x I
    . rw [Bs] at I;exact .inr ⟨i,by omega,by simpa using h,I⟩
noncomputable def DB (cs:List (List Int)) (al:List jb) (i:Nat):List Nat:=Bq ((eI cs al i).map (·.1)) (al.getD i cS).2 (eI cs al i).length []
theorem GO {j:Nat} (h:j∈DB cs al i):j< (eI cs al i).length:=by
 have:=(yw (cs:=(eI cs al i).map (·.1)) (c:=(al.getD i cS).2) (n:=(eI cs al i).length) (by simp) (i:=(eI cs al i).length) (K:= []) (y4 _) ⟨λj I=>by simp at I,.nil⟩).1;exact (this.1 j h).2
def Qx (cs:List (List Int)) (al:List jb) (i:Nat) (s:Bool × Int->Prop) (x:Bool × Int):Prop:=s x\/(s (true,(i:Int))/\∃j∈DB cs al i,((eI cs al i).getD j rA).2=x)
def Iz (cs:List (List Int)) (al:List jb):Nat->(Bool × Int->Prop)->(Bool × Int->Prop)
 |0,s=>s
 |i+1,s=>Iz cs al i (Qx cs al i s)
def J7 (cs:List (List Int)) (al:List jb) (t:Nat):Bool × Int->Prop:=Iz cs al (t+1) λx=>x=(true,(t:Int))
theorem Fx:∀ {n:Nat} {s:Bool × Int->Prop} {x:Bool × Int},s x->Iz cs al n s x
 |0,_,_,h=>h
 |n+1,s,x,h=>by
  rw [Iz];exact Fx (.inl h)
theorem xY {j:Nat} (h:j∈DB cs al i):(∃a:Nat,a<cs.length/\(eI cs al i).getD j rA=(cs.getD a [],false,(a:Int)))\/∃a:Nat,a<i/\(al.getD a cS).1=false/\(eI cs al i).getD j rA=((al.getD a cS).2,true,(a:Int)):=
 HV _ (by simp [List.getD,GO h])
theorem Fk {n j:Nat} (O:n<=j) (h:Qx cs al n s (true,(j:Int))):s (true,(j:Int)):=by
 rcases h with h| ⟨_,k,J,e⟩
 . exact h
 . rcases xY J with ⟨a,_,I⟩| ⟨a,ha,_,I⟩
   . rw [I] at e;cases e
   . rw [I] at e;injection e with _ e;omega
theorem Fa:∀ {n:Nat} {s:Bool × Int->Prop} {j:Nat},n<=j+1->Iz cs al n s (true,(j:Int))->s (true,(j:Int))
 |0,_,_,_,h=>h
 |n+1,s,j,hj,h=>by
  rw [Iz] at h;exact Fk (by omega) (Fa (by omega) h)
theorem DU:∀ {n:Nat} {s:Bool × Int->Prop} {i:Nat},i<n->Iz cs al n s (true,(i:Int))->∀j∈DB cs al i,Iz cs al n s ((eI cs al i).getD j rA).2
 |0,_,_,h,_=>by omega
 |n+1,s,i,hi,h=>by
  rw [Iz] at h ⊢;by_cases e:i=n
  . subst e;have h1:=Fk (y4 _) (Fa (by omega) h);exact λj I=>Fx (.inr ⟨h1,j,I,rfl⟩)
  . exact DU (by omega) h
def zp (cs:List (List Int)) (al:List jb) (t:Nat) (x:Bool × Int):Prop:=(∃a:Nat,a<cs.length/\x=(false,(a:Int)))\/∃a:Nat,a<=t/\(al.getD a cS).1=false/\x=(true,(a:Int))
theorem MT {t:Nat} (hi:i<=t) (h:∀x,s x->zp cs al t x):∀x,Qx cs al i s x->zp cs al t x:=by
 rintro x (J| ⟨_,j,I,rfl⟩)
 . exact h x J
 . rcases xY I with ⟨a,ha,e⟩| ⟨a,ha,O,e⟩
   . rw [e];exact .inl ⟨a,ha,rfl⟩
   . rw [e];exact .inr ⟨a,by omega,O,rfl⟩
theorem Lq {t:Nat}:∀ {n:Nat} {s:Bool × Int->Prop},n<=t+1->(∀x,s x->zp cs al t x)->∀x,Iz cs al n s x->zp cs al t x
 |0,_,_,h=>h
 |n+1,s,hn,h=>by
  rw [Iz];exact Lq (by omega) (MT (by omega) h)
theorem Mg {t:Nat} (ht:lX al t):∀x,J7 cs al t x->zp cs al t x:=
 Lq (y4 _) λx I=> .inr ⟨t,y4 _,ht.2.1.1,I⟩
theorem PI {t:Nat}:J7 cs al t (true,(t:Int)):=Fx rfl
open Classical in
noncomputable def lQ (cs:List (List Int)) (al:List jb) (t:Nat):List Nat:=(List.range cs.length).filter λi=>decide (J7 cs al t (false,(i:Int)))
open Classical in
noncomputable def iP (cs:List (List Int)) (al:List jb) (t:Nat):List Nat:=(List.range (t+1)).filter λi=>decide (J7 cs al t (true,(i:Int)))
theorem yW {t j:Nat}:j∈lQ cs al t↔j<cs.length/\J7 cs al t (false,(j:Int)):=by unfold lQ;simp
theorem qD {t j:Nat}:j∈iP cs al t↔j<=t/\J7 cs al t (true,(j:Int)):=by unfold iP;simp;omega
theorem Ee {t:Nat}:(lQ cs al t).Pairwise (·< ·):=Xj _ List.pairwise_lt_range
theorem EL {t:Nat}:(iP cs al t).Pairwise (·< ·):=Xj _ List.pairwise_lt_range
theorem E_ {t:Nat}:(lQ cs al t).length<=cs.length:=by
 have:=Vs (λi:Nat=> @decide (J7 cs al t (false,(i:Int))) (Classical.propDecidable _)) (List.range cs.length);rw [VP] at this;exact this
theorem Lp {t:Nat}:(iP cs al t).length<=t+1:=by
 have:=Vs (λi:Nat=> @decide (J7 cs al t (true,(i:Int))) (Classical.propDecidable _)) (List.range (t+1));rw [VP] at this;exact this
theorem DP {t:Nat}:t∈iP cs al t:=qD.2 ⟨y4 _,PI⟩
def Of (cs:List (List Int)) (al:List jb) (C T:List Nat) (j:Nat):List (List Int):=(C.map λi=>cs.getD i [])++ (T.take j).map λi=> (al.getD i cS).2
theorem Di {T:List Nat} (hr:T.Pairwise (·< ·)) {j a:Nat} (I:j<T.length) (ha:a∈T) (h:a<T.getD j 0):a∈T.take j:=by
 obtain ⟨i,hi,rfl⟩:=I'.1 ha;rw [WU];refine ⟨i,?_,rfl⟩;rw [U2] at hr;by_cases e:i<j
 . omega
 . exfalso;by_cases J:i=j
   . subst J;simp [List.getD,hi] at h
   . have:=hr j i I hi (by omega);simp [List.getD,I] at h;omega
theorem QN {t:Nat} (ht:lX al t) (hp:∀i,i<=t->(al.getD i cS).1=true\/uB ((eI cs al i).map (·.1)) (al.getD i cS).2) {j:Nat} (V:j< (iP cs al t).length):
 uB (Of cs al (lQ cs al t) (iP cs al t) j) (al.getD ((iP cs al t).getD j 0) cS).2:=by
 have hm:(iP cs al t).getD j 0∈iP cs al t:=by simp [List.getD,V]
 obtain ⟨U,J⟩:=qD.1 hm;have O:(al.getD ((iP cs al t).getD j 0) cS).1=false:=by
  rcases Mg ht _ J with ⟨a,_,e⟩| ⟨a,_,X,e⟩
  . cases e
  . injection e with _ e;have:(iP cs al t).getD j 0=a:=by omega
    rw [this];exact X
 have hu:=(hp _ U).resolve_left (by rw [O];decide);have Z:=Gk (cs:=(eI cs al ((iP cs al t).getD j 0)).map (·.1)) (i:=(eI cs al ((iP cs al t).getD j 0)).length) (K:= []) (l:=(al.getD ((iP cs al t).getD j 0) cS).2) (by rw [UM (by rw [UL];exact y4 _),X',VF];exact hu);refine Ih (λx hx=>?_) Z;obtain ⟨k,Q,rfl⟩:=L0.1 hx;have Q:k∈DB cs al ((iP cs al t).getD j 0):=Q;have I:=DU (by omega) J k Q;have Y:((eI cs al ((iP cs al t).getD j 0)).map (·.1)).getD k []=((eI cs al ((iP cs al t).getD j 0)).getD k rA).1:=by
  exact l6 _ _ _ _ _ (GO Q)
 rw [Y];unfold Of;rcases xY Q with ⟨a,ha,e⟩| ⟨a,ha,X,e⟩
 . rw [e] at I ⊢;exact UW _ (L0.2 ⟨a,yW.2 ⟨ha,I⟩,rfl⟩)
 . rw [e] at I ⊢;exact Vt _ (L0.2 ⟨a,Di EL V (qD.2 ⟨by omega,I⟩) ha,rfl⟩)
end
section
variable {W w w' w0 w2 w3 u:World} {p q:sn} {n m d i c:Nat} {k:Int} {hs:List Sl} {cs:List (List Int)} {l:List Int} {ss:List So} {al:List jb}
theorem SV.take (h:SV w p al) (k:Nat):SV w p (al.take k):=by
 intro i hi;rw [GD] at hi;have e:(al.take k).getD i cS=al.getD i cS:=by
  simp only [y6,Vf];rw [if_pos (by omega)]
 rw [e];exact h i (by omega)
theorem TK (p:sn):p.map (·.add (0*2))=p:=by cases p<;>simp [Addr.add]
theorem fV (h:fG al=true):∀s∈al,jf s.2=true:=by
 unfold fG at h;rw [UK] at h;exact h
theorem pD {j:Nat} (h:j<al.length):al.getD j cS∈al:=by simp [List.getD,h]
theorem DA (h:cQ k cs=true):∀c∈cs,jf c=true:=by
 unfold cQ at h;rw [ts,UK] at h;intro c I;have:=h.2 c I;rw [ts] at this;exact this.1
theorem Ml (h:cQ k cs=true):0<=k/\k<=1048576:=by
 unfold cQ at h;rw [ts,decide_eq_true_eq] at h;exact ⟨h.1.1,h.1.2.1⟩
def PZ (k:Int) (al:List jb):Int:=(al.map (·.2)).foldl uZ k
theorem Ii {I:List (List Int)} (h1:cQ k cs=true) (U:fG al=true) (hn:I.length<=262144) (O:∀c∈I,c∈cs\/c∈al.map (·.2)):cQ (PZ k al) I=true:=by
 have X:=Ml h1;have V:=sj h1;have ge:=PO k (al.map (·.2));have le:=O4 (v:=k) (B:=1048576) X.2 (cs:=al.map (·.2)) λc O x J=>by
  obtain ⟨s,hs,rfl⟩:=L0.1 O;exact Mf ((cy (fV U s hs)).1 x J)
 unfold cQ;rw [ts,decide_eq_true_eq,UK];refine ⟨⟨by unfold PZ;omega,by unfold PZ;omega,hn⟩,λc Q=>?_⟩;rw [ts,UK];rcases O c Q with h|h
 . exact ⟨DA h1 c h,λx J=>by rw [decide_eq_true_eq];have:=((V c h).2 x J).2;unfold PZ;omega⟩
 . refine ⟨?_,λx J=>by rw [decide_eq_true_eq];exact ge.2 c h x J⟩;obtain ⟨s,hs,rfl⟩:=L0.1 h;exact fV U s hs
theorem uS (h1:∀c∈cs,jf c=true) (I:fG al=true) (hi:i<=al.length):∀y∈eI cs al i,jf y.1=true:=Dn (P:=λc=>jf c=true) h1 (fV I) hi
theorem Pp (hi:i<=al.length):∀c∈(eI cs al i).map (·.1),c∈cs\/c∈al.map (·.2):=by
 intro c J;obtain ⟨x,I,rfl⟩:=L0.1 J;exact Dn (P:=λc=>c∈cs\/c∈al.map (·.2)) (λc h=> .inl h) (λs h=> .inr (U1 h)) hi x I
theorem uN:eI cs al (i+1)=vM (eI cs al i) i (al.getD i cS):=rfl
theorem pz (h:(al.getD i cS).1=true):eI cs al (i+1)=jO (al.getD i cS).2 (eI cs al i):=by rw [uN,vM,if_pos h]
theorem rh (h:(al.getD i cS).1=false):eI cs al (i+1)=eI cs al i++ [((al.getD i cS).2,true,(i:Int))]:=by rw [uN,vM,if_neg (by rw [h];decide)]
theorem Jc {e:Nat} (hc:V2 sT w p hs cs) (hn:n=cs.length) (hx:cs.length+m<262144) (hl:SV w q al) (hm:m=al.length) (d5:m<=e):
 Calls prog nW.id #[.agg #[.i k,.slice p n d],.slice q m e] w λe w'=>∃r:Bool,e=.returned (.bool r)/\(r=true↔cQ k cs=true/\fG al=true/\rG cs al)/\ak w w':=by
 subst hn hm;have no:∀ {u:World},¬(cQ k cs=true/\fG al=true/\rG cs al)->ak w u->∃r:Bool,Ending.returned (Value.bool false)=.returned (.bool r)/\(r=true↔cQ k cs=true/\fG al=true/\rG cs al)/\ak w u:=λh g=>⟨false,rfl,⟨λe=> (by cases e),λe=>absurd e h⟩,g⟩
 refine nW.aj ?_;intro n1 w2 h2;refine ⟨_,_,_,_,bS h2.has,(fS (hc.grow h2.mod) rfl).mono ?_⟩;rintro e5 w5 ⟨rfl,g5⟩;have G5:=h2.mod.trans g5;refine ⟨_,rfl,?_⟩;cases U:cQ k cs with
 |false=>exact bP rfl (by have:= @no w5 (λh=>by rw [U] at h;cases h.1) G5;rwa [U] at this)
 |true=>
 refine bA rfl ((j8 (hl.grow G5) rfl (by omega)).mono ?_);rintro e7 w7 ⟨rfl,g7⟩;have G7:=G5.trans g7;refine ⟨_,rfl,?_⟩;cases O:fG al with
 |false=>exact bP rfl (by have:= @no w7 (λh=>by rw [O] at h;cases h.2.1) G7;rwa [O,U] at this)
 |true=>
 rw [U,O] at no;refine bA rfl ((Nx (hl.grow G7) rfl (by omega)).mono ?_);rintro e9 w9 ⟨g9,⟨b6,rfl⟩| ⟨t,ht,rfl⟩⟩
 . exact ⟨_,rfl,bP rfl (no (λ⟨_,_,t,ht,_⟩=>b6 t ht.1 ht.2.1) (G7.trans g9))⟩
 have G9:=G7.trans g9;have b9:=(h2.has.grow (g5.trans g7)).grow g9;have ep:=ht.1;refine ⟨_,rfl,bA (by simp) ⟨_,_,_,_,bS b9,(xD (p:=p) (n:=cs.length) (d:=d) (hl.grow G9) rfl (by omega) (fV O)).mono ?_⟩⟩;rintro du ac ⟨rfl,a8⟩;have aa:=G9.trans a8;have b_:=b9.grow a8;refine ⟨_,rfl,_,_,_,_,bS b_,(Al (k:=k) (hc.grow aa) rfl (by omega)).mono ?_⟩;rintro d6 ed ⟨q0,d0,cT,rfl,o0,bv,bn,f0⟩;refine ⟨_,_,_,rfl,?_⟩;rw [wN (x:=(t:Int)+1) (i:=t+1) (by omega) (by omega)];refine eh 0 (t+1) e rfl rfl rfl (by omega) (by omega) (by omega) ?_;have ei:(if e=0 then q else q.map (·.add (0*2)))=q:=by split;rfl;exact TK q
 rw [ei,Ve];have aT:=hl.grow aa;have cg:=DA U;refine ⟨λP N C I u z=>∃ (i:Nat) (ss:List So),I=i/\i<=t+1/\z=t+1 - i/\N=(eI cs al i).length/\ak ac u/\Row 3 yA bF u P C ss/\SW ac ss (eI cs al i)/\(∀j,aG P=some j->ac.heap.size<=j)/\∀j,j<i->(al.getD j cS).1=true\/uB ((eI cs al j).map (·.1)) (al.getD j cS).2,
  ⟨_,0,cT,rfl,vx _,rfl,by show _=(p6 cs cs.length).length;rw [qd],bn,o0,bv,f0,λj hj=>by omega⟩,?_⟩
 rintro P N C I u z _ ⟨i,ss,rfl,hi,rfl,rfl,gu,o,sw,fo,X⟩;have Gu:=aa.trans gu;have el:=td (cs:=cs) (al:=al) (i:=i);refine ah (λr=>?_) (λr=>?_)
 . have r:i<t+1:=by rw [decide_eq_true_eq] at r;omega
   have a6:=pD (al:=al) (j:=i) (by omega);have V:=fV O _ a6;have c2:=cy V;have et:(al.take (t+1)).getD i cS=al.getD i cS:=by
    simp only [y6,Vf];rw [if_pos (by omega)]
   refine (aT.take (t+1)).ix gu (by rw [GD];omega) (by rw [GD];omega) λa s b8 h1 a' h3=>⟨_,_,_,_,b8 u gu,?_⟩
   rw [et] at h1 h3 ⊢;intro n29 dh aw;have d4:=aw.num;refine bD aw.has rfl rfl λY Z b3=>⟨_,ae Z rfl,?_⟩
   have J:ak u Y:=aw.mod.then b3 λj hj e=>by omega
   have ew:=gu.size;refine ah (λr2=>⟨_,_,_,ae Z rfl,?_⟩) (λr2=>?_)
   . have hd:(al.getD i cS).1=true:=by simpa using r2
     refine (HR (o.grow J) sw (gu.trans J) rfl (by omega) (uS cg O (by omega)) h3 h1 V (by have:=o.cap;have:=sw.n;omega)).mono ?_;rintro dk ea ⟨q',d',tt,rfl,cb,az,b7,c7,f34⟩;refine ⟨_,_,_,rfl,_,by omega,i+1,tt,wN,r,rfl,by rw [pz hd],(gu.trans J).trans b7,cb,by rw [pz hd];exact az,λj hj=>?_,λj hj=>?_⟩
     . have:=J.size;rcases f34 j hj with h|h
       . exact fo j h
       . omega
     . by_cases e:j<i
       . exact X j e
       . obtain rfl:j=i:=by omega
         exact .inl hd
   . have hd:(al.getD i cS).1=false:=by simpa using r2
     have gd:ak Y Y.drew:=(aD.refl Y).drew;refine ⟨ak Y,gd,bA (by simp;omega) ((xb (o.grow (J.trans gd)) sw ((gu.trans J).trans gd) rfl (by omega)).mono ?_)⟩;rintro eg bx ⟨d9,es,ks,rfl,ce,Q⟩;have Q:=gd.trans Q;refine ⟨_,_,_,rfl,Q,_,_,_,λv g=>ae (Z.grow g) rfl,?_⟩;have a_:ak ac bx:=(gu.trans J).trans Q;refine (xw (k:=PZ k al) ce (by rw [UL]) (λ_ _=>by rw [UL];omega) (h3.grow a_) h1 a').mono ?_;rintro ez er ⟨rr,rfl,hr,an⟩;have a7:cQ (PZ k al) ((eI cs al i).map (·.1))=true:=Ii U O (by rw [UL];omega) (Pp (by omega));refine ⟨_,rfl,ah (λr3=>?_) (λr3=>?_)⟩
     . refine no (λ⟨_,_,t',b',hp⟩=>?_) ((aa.trans a_).trans an);obtain rfl:=ht.Er b';have hu:=(hp i (by omega)).resolve_left (by rw [hd];decide);rw [hr.2 ⟨a7,V,hu⟩] at r3;cases r3
     . obtain ⟨_,_,hu⟩:=hr.1 (by simpa using r3);have b4:=(Z.grow Q).grow an;refine ⟨_,_,_,ae b4 rfl,?_⟩;intro dq bu ax;have ef:=ax.num;have av:ak u bu:=((J.trans Q).trans an).trans ax.mod;have zu:=av.size;have ey:=((J.trans Q).trans an).size;refine Row.mA tG wx (o.grow av) (Gr (s:=(s,true,(i:Int))) ax.has) sw.n.symm rfl (by have:=sw.n;simp;omega) λen p' c' cp bk cm ej=>?_;refine ⟨_,by omega,i+1,_,wN,r,rfl,by rw [rh hd];simp [sw.n],(gu.trans av).then bk λj hj e=>by have:=fo j e;omega,cp,by rw [rh hd];exact sw.mA (SW.bJ rfl h1 a' h3),λj hj=>?_,λj hj=>?_⟩
       . rcases cm with rfl|rfl
         . exact fo j hj
         . have:=aL hj;omega
       . by_cases e:j<i
         . exact X j e
         . obtain rfl:j=i:=by omega
           exact .inr hu
 . have r:i=t+1:=by simp at r;omega
   subst r;exact ⟨true,rfl,⟨λ_=>⟨rfl,rfl,t,ht,λi hi=>X i (by omega)⟩,λ_=>rfl⟩,Gu⟩
end
end Go.Proofs.YtbdghpjnifjlmaaGreat.W
