/- Layer 14: what a search's proof is. -/
import Derived.Test.YtbdghpjnifjlmaaGreatStudyA
import Derived.Test.YtbdghpjnifjlmaaGreatPropC
import Derived.Test.YtbdghpjnifjlmaaGreatRupB
import Derived.Test.YtbdghpjnifjlmaaGreatQuotaA
import Derived.Test.YtbdghpjnifjlmaaGreatSortA
set_option linter.all false
namespace Go.Proofs.YtbdghpjnifjlmaaGreat.W
open Go Go.Fw Go.RowKit Go.SoP Go.LiP
open Go.Proofs.Tryz (prog)
section
open Go.LeP
variable{s t s':aH}{l c d:List Int}{x y:Int}{i j N bl:Nat}{cs ds:lq}{pr:List (Bool × List Int)}
def BI(cs:lq)(pr:List (Bool × List Int)):Nat->lq
 |0=>cs
 |i+1=>if (pr.getD i (false,[])).1=true then tU (pr.getD i (false,[])).2 (BI cs pr i) else BI cs pr i++ [(pr.getD i (false,[])).2]
theorem tL{z:Bool × List Int}:∀ {i:Nat},i<=pr.length->BI cs (pr++ [z]) i=BI cs pr i
 |0,_=>rfl
 |i+1,h=>by
  have e:(pr++ [z]).getD i (false,[])=pr.getD i (false,[]):=by
   simp only[vx];rw[Wd (by omega)]
  unfold BI;rw[e,tL (by omega)]
def Mt(ds:lq)(s:aH):Prop:=∃ix:List Nat,ix.Nodup/\(∀i,i∈ix↔s.aN i)/\(ds.map bC).Perm (ix.map λi=>bC (s.R (.a i)))
theorem Mt.same(h:Mt ds s)(h1:∀i,t.aN i↔s.aN i)(I:∀i,s.aN i->t.R (.a i)=s.R (.a i)):Mt ds t:=by
 obtain⟨ix,nd,m,p⟩:=h;refine⟨ix,nd,λi=> (m i).trans (h1 i).symm,?_⟩
 rwa [WT (g:=λi=>bC (s.R (.a i))) λi hi=>by rw[I i ((m i).1 hi)]]
theorem Ci(c:List Int):∀ds:lq,bC c∈ds.map bC->(bC c::(tU c ds).map bC).Perm (ds.map bC)
 | [],h=>by simp at h
 |x::l,h=>by
  unfold tU;by_cases e:bC x=bC c
  .rw [v8 e,Xj,e]
  .rw [r8 e,Xj,Xj];have I:bC c∈l.map bC:=by
    rcases V'.1 h with h|h
    .exact absurd h.symm e
    .exact h
   exact(List.Perm.swap _ _ _).trans ((Ci c l I).cons _)
theorem Mt.drop(h:Mt ds s)(hi:s.aN i):Mt (tU (s.R (.a i)) ds) (s.drop i):=by
 obtain⟨ix,nd,m,p⟩:=h;have hm:i∈ix:=(m i).2 hi;refine⟨ix.erase i,nd.erase i,λj=>?_,?_⟩
 .rw [nd.mem_erase_iff,m j,gF];exact and_comm
 .have h1:bC (s.R (.a i))∈ds.map bC:=p.mem_iff.2 (WA hm);have J:=Ci _ ds h1;have O:(ix.map λi=>bC (s.R (.a i))).Perm (bC (s.R (.a i))::(ix.erase i).map λi=>bC (s.R (.a i))):=(List.perm_cons_erase hm).map _;have Q:=(J.trans (p.trans O)).cons_inv
  rwa [WT (l:=ix.erase i) (g:=λi=>bC (s.R (.a i))) λk I=>by rw[wV (nd.mem_erase_iff.1 I).1]]
theorem Mt.add(h:Mt ds s)(hb:s.bV i=t)(ha:lM t l s'):Mt (ds++ [l]) s':=by
 subst hb;obtain⟨ix,nd,m,p⟩:=h;have enc:(s.bV i).nc=s.nc:=rfl;have th:∀j,s'.aN j↔s.aN j\/j=s.nc:=λj=>by
  unfold aH.aN;rw[ha.n,ha.g,enc];by_cases e:j=s.nc
  .rw [v8 e];subst e;exact⟨λ_=> .inr rfl,λ_=>⟨by omega,rfl⟩⟩
  .rw [r8 e];exact⟨λh=> .inl ⟨by omega,h.2⟩,λh=>by
    rcases h with h|h
    .exact ⟨by omega,h.2⟩
    .exact absurd h e⟩
 have I:s.nc ∉ ix:=λh=>by have:=(m _).1 h;exact absurd this.1 (by omega)
 refine⟨ix++ [s.nc],?_,λj=>?_,?_⟩
 .exact Xu.2 ⟨nd,by simp,λa ha b hb e=>by
   rw[xv]at hb;subst hb;subst e;exact I ha⟩
 .rw [y4,xv,m j,th j]
 .rw [GD,GD,Yj,Yj,ha.a,enc,v8 rfl];rw[WT (l:=ix) (g:=λi=>bC (s.R (.a i))) λk J=>by
   rw[ha.a,enc,r8 (λe=>I (by rw[<- e];exact J)),pT]]
  exact p.append_right _
def Vh(N:Nat)(z:Bool × List Int):Prop:=GF N z.2
structure PF(cs:lq)(s:aH)(pr:List (Bool × List Int)):Prop where
 ne:∀i,i<pr.length->pr.getD i (false,[])≠(false,[])
 up:∀i,i<pr.length->(pr.getD i (false,[])).1=true\/uB (BI cs pr i) (pr.getD i (false,[])).2
 mt:Mt (BI cs pr pr.length) s
 tI:∀z∈pr,Vh s.vars z
structure PE(cs:lq)(N:Nat)(pr:List (Bool × List Int)):Prop where
 eh:∃t,t+1=pr.length/\pr.getD t (false,[])=(false,[])/\∀i,i<t->pr.getD i (false,[])≠(false,[])
 up:∀i,i<pr.length->(pr.getD i (false,[])).1=true\/uB (BI cs pr i) (pr.getD i (false,[])).2
 tI:∀z∈pr,Vh N z
theorem Rn(h:Mt ds s)(r:FY s l):uB ds l:=by
 obtain⟨ix,_,m,p⟩:=h;refine r ds λx=>?_;rw[p.mem_iff,LV];exact⟨λ⟨i,hi,e⟩=>⟨i,(m i).1 hi,e⟩,λ⟨i,hi,e⟩=>⟨i,(m i).2 hi,e⟩⟩
theorem tG{z:Bool × List Int}(h:i<pr.length):(pr++ [z]).getD i (false,[])=pr.getD i (false,[]):=by
 simp only[vx];rw[Wd h]
theorem p6{z:Bool × List Int}:(pr++ [z]).getD pr.length (false,[])=z:=by simp[List.getD]
theorem PF.push{z:Bool × List Int}(h:PF cs s pr)(J:z≠(false,[]))(hu:z.1=true\/uB (BI cs pr pr.length) z.2)(hv:t.vars=s.vars)(hi:Vh s.vars z)
 (hm:Mt (if z.1=true then tU z.2 (BI cs pr pr.length) else BI cs pr pr.length++ [z.2]) t):PF cs t (pr++ [z]):=by
 refine⟨λi hi=>?_,λi hi=>?_,?_,λy I=>?_⟩
 .by_cases e:i<pr.length
  .rw [tG e];exact h.ne i e
  .rw [show i=pr.length by simp at hi;omega,p6];exact J
 .by_cases e:i<pr.length
  .rw [tG e,tL (by omega)];exact h.up i e
  .rw [show i=pr.length by simp at hi;omega,p6,tL (vy _)];exact hu
 .rw [I',WG];unfold BI;rw[p6,tL (vy _)];exact hm
 .rw [hv];rcases y4.1 I with I|I
  .exact h.tI y I
  .rw [xv]at I;subst I;exact hi
theorem PF.ext(h:PF cs s pr)(e:jI s s'):PF cs s' pr:=
 ⟨h.ne,h.up,h.mt.same (λi=>e.lN) λi _=>e.a i,λz I=>by rw[e.v];exact h.tI z I⟩
theorem PF.decide(h:PF cs s pr):PF cs (s.decide x) pr:=
 ⟨h.ne,h.up,h.mt.same (λ_=>Yb) λ_ _=>qk,h.tI⟩
theorem PF.bV(h:PF cs s pr):PF cs (s.bV i) pr:=
 ⟨h.ne,h.up,h.mt.same (λ_=>Yb) λ_ _=>pT,h.tI⟩
theorem PF.add(h:PF cs s pr)(k:LS s l i)(ok:GF s.vars l)(r:FY s l)(ha:lM (s.bV i) l s'):PF cs s' (pr++ [(false,l)]):=by
 refine h.push (λe=>?_) (.inr (Rn h.mt r)) ?_ ok ?_
 .obtain ⟨x,I,_⟩:=k.qd;have:l= []:=by injection e
  rw[this]at I;simp at I
 .rw [ha.v];rfl
 .exact h.mt.add rfl ha
theorem PF.drop(h:PF cs s pr)(ok:GF s.vars (s.R (.a i)))(hi:s.aN i):PF cs (s.drop i) (pr++ [(true,s.R (.a i))]):=
 h.push (λe=>by injection e with e;cases e) (.inl rfl) HF ok (h.mt.drop hi)
theorem PF.new(d:Lv N cs s):PF cs s []:=
 ⟨λi hi=>by simp at hi,λi hi=>by simp at hi,⟨List.range cs.length,List.nodup_range,λi=>by
   rw[Wv];unfold aH.aN;rw[d.n];exact⟨λh=>⟨h,d.g i h⟩,λh=>h.1⟩,by
   have e:(List.range cs.length).map (λi=>bC (s.R (.a i)))=cs.map bC:=by
    refine XC (by simp) λi h1 J=>?_;have hi:i<cs.length:=by simpa using h1
    simp only[XH,Zp];rw[d.a i hi];simp[List.getD,hi]
   rw[e];exact YL _⟩,λz I=>by simp at I⟩
theorem PF.eh(h:PF cs s pr)(g:aL s)(Q:xN s i)(O:s.R .be= []):PE cs s.vars (pr++ [(false,[])]):=by
 refine⟨⟨pr.length,by simp,p6,λi hi=>by rw[tG hi];exact h.ne i hi⟩,λi hi=>?_,λy I=>?_⟩
 .by_cases e:i<pr.length
  .rw [tG e,tL (by omega)];exact h.up i e
  .rw [show i=pr.length by simp at hi;omega,p6,tL (vy _)];exact .inr (Rn h.mt (Q7 g Q O))
 .rcases y4.1 I with I|I
  .exact h.tI y I
  .rw [xv]at I;subst I;exact⟨λx J=>by simp at J,λx J=>by simp at J,List.nodup_nil⟩
end
section
open Go.LeP
variable{w0 w w' w1 w2 u:World}{B N i:Nat}{L L' L1:Nat->Nat}{x:Xs}{l:List Int}{cs:lq}{hv:List (Nat × List Int)}{un:lq}
def kQ(p:Ps):Bool × List Int:=(p.1,p.2.2)
structure QI(w0 w u:World)(B:Nat)(L:Nat->Nat)(N:Nat)(x:Xs)(hv1:List Hc)(cs un:lq)(q:sn)(k:List Bool)(t:Nat)(L1:Nat->Nat)(lf:List Hc)(s1:aH)(pr1:List Ps)(psl:Sl)(p:sn)(c:Nat):Prop where
 row:Row 5 JL cK u p c lf
 fr:∀b,aF p=some b->L1 b=0/\w.heap.size<=b
 sr:SR w0 u B L1 N {x with hv:=hv1,s:=s1,ps:=psl,pr:=pr1,m:= {x.m with dr:=x.m.dr+ (t - lf.length:Nat)}}
 kp:Kp w0 w u L L1
 ci:qB N cs s1 ((lf++hv1.drop t).map xW) un
 nc:s1.nc=x.s.nc
 hi:Ei N s1 x.S
 sub:∀h∈lf,h∈hv1
 pl:pr1.length+lf.length=x.pr.length+t
 le:lf.length<=t
 st:Vw Value.bool u q k
 r9:R9 u L1 q
 be:s1.R .be=x.s.R .be/\s1.R .tr=x.s.R .tr
 pf:PF cs s1 (pr1.map kQ)
 z:w0.heap.size<=w.heap.size
 ct:(k.take t).countP id<=lf.length
theorem Sw{k:List Bool}{t:Nat}{α:Type}{lf:List α}{y:α}(h:(k.take t).countP id<=lf.length):(k.take (t+1)).countP id<=(lf++ [y]).length:=by
 rw[Wo,Xz,I',WG];have:(k[t]?.toList).countP id<=1:=Wl Xm (by cases k[t]? <;>simp);omega
theorem QG{k:List Bool}{t n:Nat}(h:(k.take t).countP id<=n)(e:k.getD t false=false):(k.take (t+1)).countP id<=n:=by
 rw[Wo,Xz];rw[vx]at e;cases I:k[t]? with
 |none=>simpa using h
 |some b=>
  rw[I]at e;have e:b=false:=e;subst e;simpa using h
theorem Kj{l:List RedP.Lr}{ks:List Bool}(h1:ks.length=l.length)(O:∀x:Nat,x<l.length->ks.getD x false=RedP.keep l x):l.length<=2*ks.countP id+1:=by
 obtain⟨o,U⟩:=RedP.S5 l;have hs:=U.T3;have e:ks=(RedP.uo l.length).map (RedP.keep l):=by
  refine XC (by rw[We,RedP.nJ];exact h1) λi I Q=>?_;have:=O i (by omega);rw[vx,V9 I]at this;simp only[RedP.uo,XH,Zp];exact this
 have c:ks.countP id=(RedP.uo l.length).countP (RedP.keep l):=by rw[e,List.countP_map];rfl
 have J:∀L:List Int,L.countP (RedP.keep l)=L.countP (λx=>RedP.gD (RedP.aZ l x))+L.countP (λx=> !RedP.gD (RedP.aZ l x) && RedP.keep l x)/\L.length=L.countP (λx=>RedP.gD (RedP.aZ l x))+L.countP (λx=> !RedP.gD (RedP.aZ l x)):=by
  intro L
  induction L with
  |nil=>exact⟨rfl,rfl⟩
  |cons a L ih=>
   have hm:RedP.gD (RedP.aZ l a)=true->RedP.keep l a=true:=λh=>by unfold RedP.keep;rw[h,Bool.true_or]
   simp only[WX,Wz];cases I:RedP.gD (RedP.aZ l a) with
   |true=>rw[hm I];simp;omega
   |false=>cases Q:RedP.keep l a<;>simp<;>omega
 obtain⟨X,V⟩:=J (RedP.uo l.length);rw[RedP.nJ]at V;unfold RedP.jD at hs;omega
theorem Po{s:aH}{i:Nat}:(s.drop i).nc=s.nc:=by
 obtain⟨d1,d2,d3,_⟩:=jb (i:Int) ((s.R (.l i)).take 2) s;exact d2
theorem OR{s:aH}{S:Int->Prop}{j:Nat}(g:aL s)(O:aL (s.drop j))(hv:s.vars=N)(h:Ei N s S):Ei N (s.drop j) S:=by
 intro v v1 v2 Q;have J:dZ s.vars v:=⟨by omega,by omega,by omega⟩
 have I:dZ (s.drop j).vars v:=by rw[HF];exact J
 have:=(jl O I).1 Q;rw[wX (.inl rfl)]at this;exact h v v1 v2 ((jl g J).2 this)
theorem QI.grow{q p:sn}{c:Nat}{k:List Bool}{t:Nat}{O lf:List Hc}{U:aH}{I:List Ps}{J:Sl}(A:QI w0 w u B L N x O cs un q k t L1 lf U I J p c)(g:ak u w'):
 QI w0 w w' B L N x O cs un q k t (lW L1 u.heap.size 9) lf U I J p c:=by
 have Q:Kp w0 u w' L1 (lW L1 u.heap.size 9):=mF.new g 9;exact⟨A.row.grow g,Q.lb A.fr A.row.lt,A.sr.new g 9,A.kp.trans Q,A.ci,A.nc,A.hi,A.sub,A.pl,A.le,A.st.grow g,Q.r9 A.r9,A.be,A.pf,A.z,A.ct⟩
theorem QI.nu{q p:sn}{c:Nat}{k:List Bool}{t:Nat}{J lf:List Hc}{s1:aH}{V:List Ps}{U:Sl}(A:QI w0 w u B L N x J cs un q k t L1 lf s1 V U p c)(ht:t<J.length)(hb:J.length<=1000000){y:Hc}(hy:y=J.getD t Ij)
 {nn:Nat} {I:World} (h:jz (.cells #[.i y.i,.slice y.sl.p y.sl.n y.sl.c,.i y.lv,.i y.sz,.bool y.lk] 209) u nn I) {K:World->sn->Nat->Nat->Prop}
 (Y:∀w' O c' L2,QI w0 w w' B L N x J cs un q k (t+1) L2 (lf++ [y]) s1 V U O c'->K w' O (lf++ [y]).length c'):
 ∃w',∃O n' c',(Builtin.append_ #[108,108] 108 #[.slice p lf.length c,.slice (some (qw nn)) 1 1]).run prog I=.ok (.slice O n' c') w'/\K w' O n' c':=by
 have ay:=A.le;refine Row.nu Cm A7 (A.row.grow h.mod) (Rv (u:=y) h.has) rfl rfl (by simp;omega) λw' O c' o8 m8 Z av=>?_;have X:=A.sr.grow h.mod;have hr:=(A.row.grow h.mod).lt;have az:=A.kp.mod.size;have aw:=h.size;have aa:aE (λk=>L1 k=0/\w0.heap.size<=k) I w':=m8.mono λb _ e=>⟨(A.fr b e).1,by have:=(A.fr b e).2;have:=A.z;omega⟩
 have Q:=X.Vn (L':=lW L1 I.heap.size 0) aa λ_ Y=>dF Y;have kq:Kp w0 I w' L1 (lW L1 I.heap.size 0):=Q.2.yH λi e=>by rw[e];decide
 have kk:Kp w0 u w' L1 (lW L1 I.heap.size 0):=(mF.grow h.mod).trans kq;have ym:y∈J:=by rw[hy];exact yT ht
 refine Y _ _ _ (lW L1 I.heap.size 0) ⟨o8,λb hb=>?_,?_,A.kp.trans kk,?_,A.nc,A.hi,λv hv=>?_,?_,?_,kk.vw A.st A.r9,kk.r9 A.r9,A.be,A.pf,A.z,Sw A.ct⟩
 .rcases Z with rfl|rfl
  .rw [dF (hr b hb)];exact A.fr b hb
  .have:=aO hb;exact⟨jw (by omega),by omega⟩
 .have:=Q.1;rw[show t+1 - (lf++ [y]).length=t - lf.length by simp];exact this
 .have:=A.ci;rw[Cl ht,<- hy]at this;rw[WH];exact this
 .rcases y4.1 hv with hv|hv
  .exact A.sub v hv
  .rw [xv]at hv;subst hv;exact ym
 .have:=A.pl;rw[I',WG];omega
 .rw [I',WG];omega
theorem L_(h:SR w0 w B L N x)(k:qB N cs x.s (x.hv.map xW) un)(hi:Ei N x.s x.S)(eL:x.hv.length<=1000000)(fi:x.pr.length<=900000000)(cT:∀u∈x.hv,RJ u)(f':0<=x.m.dr/\x.m.dr<=1000000000)(pf:PF cs x.s (x.pr.map kQ)):
 Calls prog 118 #[cj B] w λe w'=>e=.returned (.tuple #[])/\∃L' s' hv' et pr' ek b6,Kp w0 w w' L L'/\
  SR w0 w' B L' N {x with hv:=hv',hs:=et,s:=s',ps:=ek,pr:=pr',m:= {x.m with dr:=b6,bX:=mP (IntKind.i64.wrap (x.m.bX+1)) 100}}/\
  qB N cs s' (hv'.map xW) un/\Ei N s' x.S/\s'.nc=x.s.nc/\(∀u∈hv',RJ u)/\pr'.length+hv'.length=x.pr.length+x.hv.length/\hv'.length<=x.hv.length/\(s'.R .be=x.s.R .be/\s'.R .tr=x.s.R .tr)/\PF cs s' (pr'.map kQ)/\x.m.dr<=b6/\b6+hv'.length=x.m.dr+x.hv.length/\x.hv.length<=2*hv'.length+1:=by
 refine gU.aj ⟨_,rfl,_,_,_,ae h.at rfl,Tv h k.g eL cT λp c u I ll A=>?_⟩;have hlen:=A.sm.len;have d':ll.all RedP.GC=true:=K'.2 A.ok;have d4:∀y∈I,RJ y:=A.sm.mem (λu v e hu=>by unfold RJ at*;simp only[uO,YR]at e;obtain⟨_,_,e3,e4,e5⟩:=e;rw[<- e3,<- e4,<- e5];exact hu) cT;refine(Re.QP (A.row.vr Re.VK) rfl (by rw[A.len];omega)).mono ?_;rintro e f0⟨q,d,ks,rfl,cb,ob,fq,cm⟩;rw[d',v8 rfl]at cm;have dc:ks.length=I.length:=by rw[cm.1,A.len,hlen]
 have es:=Kj (l:=ll) (ks:=ks) (by rw[dc,<- hlen];exact A.len.symm) λx hx=>cm.2 x (by first|exact hx|rw[A.len]at*;exact hx);have fC:=(h.hv id).2.1;have c3:=A.sr.new cb 9;have ed:=A.kp.trans (mF.new cb 9);have su:=A.kp.mod.size;have gf:=cb.size;refine⟨_,_,_,rfl,_,rfl,_,_,_,ae c3.at rfl,?_⟩;have c0:qB N cs x.s (([]++I.drop 0).map xW) un:=by
  rw[WY,Y4,<- A.sm.xW];exact k
 refine⟨λp n c v u z=>∃ (t:Nat) (L1:Nat->Nat) (lf:List Hc) (s1:aH) (U:List Ps) (X:Sl),v=t/\t<=I.length/\z=I.length - t/\n=lf.length/\QI w0 w u B L N x I cs un q ks t L1 lf s1 U X p c,
  ⟨_,0,_,[],x.s,x.pr,x.ps,rfl,xc _,rfl,rfl,⟨Row.nil _ _ _ _,λb hb=>by simp[aF]at hb,by simpa using c3,ed,c0,rfl,hi,by simp,by simp,xc _,ob.vw,⟨λb hb=>⟨jw (fq b hb),ob.lt b hb⟩⟩,⟨rfl,rfl⟩,pf,h.g.size,by simp⟩⟩,?_⟩
 rintro p n c v u z _⟨t,L1,lf,s1,U,X,rfl,ht,rfl,rfl,D⟩;refine ah (λr=>?_) (λr=>?_)
 .have r:t<I.length:=by simp at r;omega
  obtain⟨r1,r2,r3⟩:=D.sr.hv id;have r1:Row 5 JL cK u x.hs.p x.hs.c I:=r1;obtain⟨y,hy⟩: ∃y,y=I.getD t Ij:=⟨_,rfl⟩
  have dd:y∈I:=by rw[hy];exact yT r
  have oy:=d4 y dd;refine(r1.vr Cm).ix Ij (by omega) (by show x.hs.n=I.length;omega) (by show (t:Int)< (x.hs.n:Int);omega) λa ha=>?_;rw[tn,<- hy]at ha;refine⟨_,_,_,_,_,_,_,ha,λaz fs b7=>?_⟩;refine aX b7.has rfl rfl λar bY eH=>?_;have bY:bO ar az #[.i y.i,.slice y.sl.p y.sl.n y.sl.c,.i y.lv,.i y.sz,.bool y.lk]:=bY;have fy:=b7.num;have ep:ak u ar.drew:=(aE.cE b7.mod eH (by omega)).trans (aE.refl ar).drew;have J:=D.grow ep;have b8:=bY.grow (aE.refl ar).drew;refine J.st.ix false (by omega) rfl (by omega) λga el=>⟨_,el,?_⟩
  have c2:∀ {u':World} {L2:Nat->Nat},QI w0 w u' B L N x I cs un q ks t L2 lf s1 U X p c->bO u' az #[.i y.i,.slice y.sl.p y.sl.n y.sl.c,.i y.lv,.i y.sz,.bool y.lk]->
   ∃c7 bf a' a7 ea dh du,aM u' (qw az) 0 [.i c7,.slice bf a' a7,.i ea,.i dh,.bool du]/\
    ∀b_ b3,jz (.cells #[.i c7,.slice bf a' a7,.i ea,.i dh,.bool du] 209) u' b_ b3->
    ∃d6 bi a8 bb,(Builtin.append_ #[108,108] 108 #[.slice p lf.length c,.slice (some (qw b_)) 1 1]).run prog b3=.ok (.slice bi a8 bb) d6/\
    ∃dA,dA<I.length - t/\∃ (t2:Nat) (L1:Nat->Nat) (lf:List Hc) (s1:aH) (U:List Ps) (X:Sl),IntKind.i64.wrap ((t:Int)+ (1:Int))=t2/\t2<=I.length/\dA=I.length - t2/\a8=lf.length/\QI w0 w d6 B L N x I cs un q ks t2 L1 lf s1 U X bi bb:=by
   intro u' L2 E hh;refine⟨_,_,_,_,_,_,_,⟨ae hh rfl,ae hh rfl,ae hh rfl,ae hh rfl,ae hh rfl,trivial⟩,λb_ b3 er=>?_⟩;refine E.nu r (by omega) hy er λw' p' c' L3 E'=>⟨_,?_,t+1,L3,_,_,_,_,wN,by omega,rfl,rfl,E'⟩
   omega
  refine ah (λ_=>c2 J b8) (λaT=>?_);have aT:ks.getD t false=false:=by rw[tn]at aT;exact aT
  have n9:lW L1 u.heap.size 9 az=9:=jw (by omega);refine⟨_,rfl,_,ae J.sr.at rfl,_,ae b8 rfl,(J.sr.TW D.ci.g y.i).mono ?_⟩;rintro e O⟨fA,rfl,ag,ce,hh⟩;have V:Kp w0 ar.drew O (lW L1 u.heap.size 9) ag:=ce.yH λi e=>by rw[e];decide
  have Z:Row 5 JL cK O p c lf:=ce.row J.row λb hb e=>by rw[(J.fr b hb).1]at e;exact absurd e (by decide)
  have a_:=ce.lb J.fr J.row.lt;have bg:=V.vw J.st J.r9;have ap:=V.r9 J.r9;have dp:=V.has b8 n9;refine⟨_,rfl,?_⟩;rcases hh with⟨hr,aa⟩| ⟨rfl,ey,gd,aa⟩
  .refine bJ (by simpa using hr) (c2 ⟨Z,a_,aa,J.kp.trans V,D.ci,D.nc,D.hi,D.sub,D.pl,D.le,bg,ap,D.be,D.pf,D.z,D.ct⟩ dp)
  .refine bq rfl ?_;have aa:SR w0 O B ag N {x with hv:=I,s:=s1.drop y.i,ps:=X,pr:=U,m:= {x.m with dr:=x.m.dr+ (t - lf.length:Nat)}}:=aa;have ac:ak O O.drew:=(aE.refl O).drew;have b9:=aa.hr id y dd;have gc:=oy.2.2.2;have fb:=b9.n;refine⟨ak O.drew,aE.refl _,_,rfl,_,_,_,λv gv=>bN (aa.drew.at.grow gv) rfl,_,_,_,λv gv=>ae (dp.grow (ac.trans gv)) rfl,(iA (b9.v.grow ac) b9.n (by omega)).mono ?_⟩;rintro e fP⟨q9,d9,rfl,o9,g9,f9⟩;refine⟨_,_,_,rfl,g9,λfm bx aw=>?_⟩;have ay:=g9.trans aw.mod;refine⟨ay,?_⟩;have eA:=aa.drew.new ay 9;have ax:Kp w0 O bx ag (lW ag O.drew.heap.size 9):=(mF.grow ac).trans (mF.new ay 9);have an:=(Z.grow ac).grow ay;have bk:=ax.lb a_ Z.lt;have ro:RO bx (lW ag O.drew.heap.size 9) ⟨q9,y.c.length,d9⟩ y.c:=⟨rfl,(o9.grow aw.mod).vw,λk hk=>⟨jw (f9 k hk),Xg (o9.lt k hk) aw.mod.size⟩⟩
   have dk:=D.pl;have cr:=D.le;refine JW eA (by show U.length<=_;omega) true ro aw.has λeg ec q' a6 b'=>?_;have b4:Kp w0 bx eg (lW ag O.drew.heap.size 9) ec:=b'.yH λi e=>by rcases e with rfl|rfl<;>decide
   have cg:=b'.row an λb hb e=>by rw[(bk b hb).1]at e;rcases e with e|e<;>exact absurd e (by decide)
   have bn:=b'.lb bk an.lt;refine⟨_,rfl,_,bN a6.at rfl,_,rfl,?_⟩;have ew:IntKind.i64.wrap (x.m.dr+ (t - lf.length:Nat)+1)=x.m.dr+ (t+1 - lf.length:Nat):=by rw[ao (by omega) (by omega)];omega
   show ∃dB,bD _ 0 [.i (IntKind.i64.wrap (x.m.dr+ (t - lf.length:Nat)+1))] eg dB/\_;rw[ew];refine iK a6.at rfl rfl λdB ez dT=>?_;have Q:=a6.own (m':= {x.m with dr:=x.m.dr+ (t+1 - lf.length:Nat)}) ez dT;have kf:=((V.trans ax).trans b4).trans Q.2;have Y:=D.ci;rw[Cl r,<- hy,GD,Xj]at Y;have d5:=Y.Ey (xW y) (by simp);have d8:=Y.drop gd;rw[<- GD]at d8;have b5:=cg.keep dT λb hb (e:b=B)=>by
    have h1:=(bn b hb).1;rw[e,a6.ml.1]at h1;exact absurd h1 (by decide)
   refine⟨_,?_,t+1,ec,lf,s1.drop y.i,U++ [(true,⟨q9,y.c.length,d9⟩,y.c)],q',wN,by omega,rfl,rfl,⟨b5,bn,Q.1,J.kp.trans kf,d8,by rw[Po];exact D.nc,OR D.ci.g gd D.ci.v D.hi,D.sub,?_,by omega,?_,?_,?_,?_,D.z,QG D.ct aT⟩⟩
   .omega
   .rw [I',WG];omega
   .exact (((ax.trans b4).trans Q.2).vw bg ap)
   .exact (((ax.trans b4).trans Q.2).r9 ap)
   .rw [wX (.inr rfl),wX (.inl rfl)];exact D.be
   .have:=D.pf.drop (by rw[D.ci.v,show s1.R (.a y.i)=y.c from d5.2.2];exact Y.ok _ (Wq _ (WA (f:=(·.2)) (a:=xW y) (by simp)))) ey;rw[GD];rw[show s1.R (.a y.i)=y.c from d5.2.2]at this;exact this
 .have r:t=I.length:=by simp at r;omega
  subst r;have Y:=D.ci;rw[Yt,W9]at Y;have eK:∀k,L1 k≠0->(λk=>if aF p=some k then 5 else L1 k) k=L1 k:=λk hk=>by
   show (if aF p=some k then 5 else L1 k)=L1 k;rw[r8 λe=>hk (D.fr k e).1]
  have SS:=D.sr.zB eK;have dq:∀b,aF p=some b->(λk=>if aF p=some k then 5 else L1 k) b=5/\w0.heap.size<=b:=λb hb=>⟨by show (if aF p=some b then 5 else L1 b)=5;rw[v8 hb],by have:=(D.fr b hb).2;have:=D.z;omega⟩
  refine⟨_,rfl,?_⟩;refine cz SS.at rfl rfl λe8 c4 ef=>?_;have Q:=SS.swap (q:=⟨p,lf.length,c⟩) (hv':=lf) D.row rfl dq (λv hv=>SS.hr id v (D.sub v hv)) c4 ef;refine⟨_,rfl,_,ae Q.1.at rfl,_,rfl,?_⟩;refine cz Q.1.at rfl rfl λeT d7 eb=>?_;have Q2:=Q.1.own (m':= {x.m with dr:=x.m.dr+ (I.length - lf.length:Nat),bX:=mP (IntKind.i64.wrap (x.m.bX+1)) 100}) d7 eb;have cr:=D.le;have dk:=D.pl;have kr:Kp w0 w u L (λk=>if aF p=some k then 5 else L1 k):=⟨D.kp.mod,λk hk=>by
   show (if aF p=some k then 5 else L1 k)=L k;rw[r8 λe=>by have:=(D.fr k e).2;omega];exact D.kp.EC k hk⟩
  refine⟨rfl,_,s1,lf,_,U,X,_,(kr.trans Q.2).trans Q2.2,Q2.1,Y,D.hi,D.nc,λv hv=>d4 v (D.sub v hv),by omega,by omega,D.be,D.pf,by omega,by omega,by
   have c1:=D.ct;rw[<- dc,L0]at c1;have:=A.len;omega⟩
end
section
variable{w w':World}
structure HZ(z:Nat)(w:World)(p:sn)(pr:List Ps):Prop where
 v:Vr 2 Tp w p pr
 r:∀u∈pr,u.2.1.n=u.2.2.length/\Vw sT w u.2.1.p u.2.2
 f:pr≠[]->∀j,aF p=some j->z<=j
 g:∀u∈pr,∀j,aF u.2.1.p=some j->z<=j
theorem HZ.keep{z:Nat}{p:sn}{pr:List Ps}{S:Nat->Prop}(h:HZ z w p pr)(m:aE S w w')(J:∀j,z<=j->¬S j):HZ z w' p pr:=by
 refine⟨?_,λu hu=>⟨(h.r u hu).1,(h.r u hu).2.keep m λj I=>J j (h.g u hu j I)⟩,h.f,h.g⟩;by_cases e:pr= []
 .subst e;exactλj I=>by simp at I
 .exact h.v.keep m λj I=>J j (h.f e j I)
theorem HZ.grow{z:Nat}{p:sn}{pr:List Ps}(h:HZ z w p pr)(m:ak w w'):HZ z w' p pr:=h.keep m λ_ _=>id
theorem HZ.sv{z:Nat}{p:sn}{pr:List Ps}(h:HZ z w p pr)(hl:∀u∈pr,u.2.2.length<=maxLen):SV w p (pr.map kQ):=by
 intro i hi;have I:i<pr.length:=by simpa using hi
 obtain⟨a,e,J⟩:=h.v i I;have hm:pr[i]∈pr:=XF I;have ex:(pr.map kQ).getD i dH=kQ pr[i]:=by simp[List.getD,I]
 rw[ex];exact⟨a,pr[i].2.1,e,J,(h.r _ hm).1,by rw[(h.r _ hm).1];exact hl _ hm,(h.r _ hm).2⟩
end
section
variable{w:World}{p q:sn}{n c:Nat}{l:List Int}
theorem Fo{k:Int}{hs:List Sl}{cs:lq}{m:List Int}{j d:Nat}(Y:V2 sT w q hs cs)(hj:j=cs.length)(h:Vw sT w p m)(hn:n=m.length)(hm:n<=maxLen):
 Calls prog 27 #[.agg #[.i k,.slice q j d],.slice p n c] w λe w'=>e=.returned (.bool (c5 k cs && ij m cs))/\ak w w':=by
 refine pX.aj ?_;intro n1 w1 h1;have g1:=h1.mod;refine⟨_,_,_,_,⟨ae h1.has rfl,ae h1.has rfl,trivial⟩,(eP (Y.grow g1) hj).mono ?_⟩;rintro e w2⟨rfl,g2⟩;have Z:=g1.trans g2;have H2:=h1.has.grow g2;cases Q:c5 k cs with
 |false=>exact⟨_,rfl,bJ rfl ⟨rfl,Z⟩⟩
 |true=>
 have aw:cs.length<=262144:=by
  unfold c5 at Q;simp only[ts,x7]at Q;omega
 refine⟨_,rfl,bq rfl ⟨_,_,_,ae H2 rfl,?_⟩⟩;refine⟨λI w' k2=>∃t:Nat,I=t/\t<=cs.length/\k2=cs.length - t/\((cs.take t).all λc=>c.any λl=>decide (jF m l=1))=true/\ak w w',⟨_,0,rfl,xc _,rfl,rfl,Z⟩,?_⟩;rintro I w3 k3 _⟨t,rfl,ht,rfl,ha,V⟩;refine ah (λs=>?_) (λs=>⟨?_,V⟩)
 .have s:t<cs.length:=by simp at s;omega
  refine SH (Y.grow V) hj s λa x e e1 e2 v ex=>⟨_,_,_,e,?_⟩
  unfold maxLen at e2;refine⟨λJ w' k4=>∃i:Nat,J=i/\i<=(cs.getD t []).length/\k4=(cs.getD t []).length - i/\(((cs.getD t []).take i).any λl=>decide (jF m l=1))=false/\ak w3 w',⟨_,0,rfl,xc _,rfl,rfl,aE.refl w3⟩,?_⟩;rintro J w4 k4 _⟨i,rfl,hi,rfl,hb,X⟩;have U:=V.trans X;refine ah (λr=>?_) (λr=>⟨?_,U⟩)
  .have r:i< (cs.getD t []).length:=by simp at r;omega
   refine(v.grow X).ix 0 (by omega) e1 (by omega) λa e=>⟨_,e,?_⟩
   rw[tn];refine(xQ (h.grow U) hn hm _).mono ?_;rintro e w5⟨rfl,g5⟩;refine⟨_,rfl,?_⟩;have hv:=um m ((cs.getD t []).getD i 0);refine ah (λO=>?_) (λO=>?_)
   .have O:jF m ((cs.getD t []).getD i 0)=1:=by
     have:=of_decide_eq_true O;omega
    refine⟨_,?_,t+1,wN,by omega,rfl,Gd (d:= []) s ha ?_,U.trans g5⟩
    .omega
    .exact Xk.2 ⟨_,cw r,I4 O⟩
   .refine ⟨_,?_,i+1,wN,by omega,rfl,?_,X.trans g5⟩
    .omega
    .rw [BW r (d:=0),hb,Yc];simp at O ⊢;omega
  .have r:i=(cs.getD t []).length:=by simp at r;omega
   subst r;rw[L0]at hb;have:ij m cs=false:=by unfold ij;exact Av (d:= []) s hb
   rw[this];rfl
 .have s:t=cs.length:=by simp at s;omega
  subst s;rw[L0]at ha;have:ij m cs=true:=ha;rw[this];rfl
end
section
variable{w w' w0 w2 w3:World}{p q:sn}{n m c d:Nat}{k:Int}{hs ks:List Sl}{cs:lq}{l:List Int}
theorem NI{B:Nat}:∀ {cs:lq},(∀c∈cs,c.length<=B)->wK cs<=cs.length*B
 | [],_=>by simp[wK]
 |x::cs,h=>by
  have:=NI (cs:=cs) λc I=>h c (xk _ I);have J:=h x (Wb ..);have e:wK (x::cs)=x.length+wK cs:=by simp[wK]
  rw[e,Wz,Zh];omega
theorem vh(h:c5 k cs=true):∀c∈cs,c.length<=4096/\∀x∈c,cC x=true/\bo x<=k:=by
 unfold c5 at h;rw[ts,K']at h;intro c O;have:=h.2 c O;rw[ts,K']at this;have J:=cX this.1;exact⟨J.2,λx I=>⟨J.1 x I,by simpa using this.2 x I⟩⟩
theorem NK{v:Int}{c:List Int}(h:∀x∈c,bo x<=v):wI v c=v:=by
 unfold wI
 induction c with
 |nil=>rfl
 |cons x c ih=>
  rw[XR];have I:=h x (Wb ..);have e:imax (imax v x) (-x)=v:=by
   unfold bo at I;unfold imax;split at I<;>split<;>split<;>omega
  rw[e];exact ih λy J=>h y (xk _ J)
theorem xf{v:Int}:∀ {cs:lq},(∀c∈cs,∀x∈c,bo x<=v)->cs.foldl wI v=v
 | [],_=>rfl
 |x::cs,h=>by
  rw[XR,NK (h x (Wb ..))];exact xf λc I=>h c (xk _ I)
theorem V2.bP{b:Nat}(h:bO w b #[.slice q m c])(hl:Vw sT w q l)(hm:m=l.length)(J:m<=maxLen):V2 sT w (some ⟨b,0,none⟩) [⟨q,m,c⟩] [l]:=by
 refine⟨λj I=>?_,rfl,λj I=>?_⟩
 .have:j=0:=by simpa using I
  subst this;exact⟨_,rfl,ae h rfl⟩
 .have:j=0:=by simpa using I
  subst this;exact⟨hm,J,hl⟩
theorem GU{b:Nat}(U:c5 k cs=true)(Y:cs.length<262144)(J:V2 sT w p hs cs)(hb:bO w b #[.slice q m c])(hl:Vw sT w q l)(hm:m=l.length)(V:jL l=true):
 Calls prog 56 #[.agg #[.i k,.slice p cs.length d],.slice (some ⟨b,0,none⟩) 1 1] w λe w'=>∃ (nb:Nat) (id:List (Int × Int)),e=.returned (cj nb)/\Wk true (λ_=>False) w w' nb k id cs cs.length/\(∀x∈l,cC x=true/\Nt id x):=by
 have Q:=vh U;have I:=cX V;refine(Fm J rfl (V2.bP hb hl hm (by rw[hm];unfold maxLen;omega)) rfl (λc J=>⟨(Q c J).1,λx O=> ((Q c J).2 x O).1⟩) (λc J=>by rw[xv]at J;subst J;exact⟨by have:=I.2;omega,I.1⟩) (by omega) (by simp)).mono ?_;rintro e w'⟨nb,id,rfl,X,hN⟩;rw[xf λc J x O=> ((Q c J).2 x O).2]at X;exact⟨nb,id,rfl,X,λx O=>⟨I.1 x O,hN l (by simp) x O⟩⟩
theorem yk(U:V2 sT w p hs cs)(hn:n=cs.length)(hB:c5 k cs=true->jL l=true->cs.length<262144)(hl:Vw sT w q l)(hm:m=l.length)(O:m<=maxLen):
 Calls prog 120 #[.agg #[.i k,.slice p n d],.slice q m c] w λe w'=>∃r:Bool,e=.returned (.bool r)/\(r=true↔c5 k cs=true/\jL l=true/\uB cs l)/\ak w w':=by
 subst hn;refine sy.aj ?_;intro n1 w2 J;refine⟨_,_,_,_,cI J.has,(K1 (U.grow J.mod) rfl (hl.grow J.mod) hm O).mono ?_⟩;rintro e w5⟨rfl,V⟩;have X:=J.mod.trans V;refine⟨_,rfl,ah (λr=>?_) (λr=>⟨false,rfl,⟨λe=> (by cases e),λh=>by rw[h.1,h.2.1]at r;cases r⟩,X⟩)⟩;rw[ts]at r;refine⟨_,_,_,_,cI (J.has.grow V),?_⟩;intro n9 Z ni;have I:=X.trans ni.mod;refine(GU r.1 (hB r.1 r.2) (U.grow I) ni.has (hl.grow I) hm r.2).mono ?_;rintro e ag⟨nb,id,rfl,hW,hN⟩;have Y:=cX r.2;refine⟨_,rfl,(hW.unit (hl.grow I) hm (by omega) hN).mono ?_⟩;rintro e ac⟨b,rfl,hr,Q,_⟩;exact⟨b,rfl,b,rfl,hr.trans ⟨λh=>⟨r.1,r.2,h⟩,λh=>h.2.2⟩,I.trans Q.wg⟩
open Classical in
noncomputable def lZ(cs:lq)(s:jJ):Int:=if s.1=true\/uB cs s.2\/fB cs s.2 then 0 else 7
open Classical in
noncomputable def sB(cs:lq)(s:jJ):lq:=if s.1=true then tU s.2 cs else if uB cs s.2\/fB cs s.2 then cs++ [s.2] else cs
open Classical in
noncomputable def Bf(k:Int)(cs:lq)(s:jJ):Int:=if s.1=false/\(uB cs s.2\/fB cs s.2) then wI k s.2 else k
theorem Fh{s:jJ}(h:s.1=true):lZ cs s=0/\sB cs s=tU s.2 cs/\Bf k cs s=k:=by
 unfold lZ sB Bf;exact⟨v8 (.inl h),v8 h,r8 λe=>by rw[h]at e;cases e.1⟩
theorem EY{s:jJ}(h:s.1=false)(I:uB cs s.2\/fB cs s.2):lZ cs s=0/\sB cs s=cs++ [s.2]/\Bf k cs s=wI k s.2:=by
 unfold lZ sB Bf;exact⟨v8 (.inr I),by rw[r8 (by rw[h];simp),v8 I],v8 ⟨h,I⟩⟩
theorem MC{s:jJ}(h:s.1=false)(I: ¬(uB cs s.2\/fB cs s.2)):lZ cs s=7/\sB cs s=cs/\Bf k cs s=k:=by
 unfold lZ sB Bf;exact⟨r8 λe=>e.elim (λe=>by rw[h]at e;cases e) I,by rw[r8 (by rw[h];simp),r8 I],r8 λe=>I e.2⟩
theorem Wk.step{A:Nat->Prop}{W:World}{nb:Nat}{vars:Int}{id:List (Int × Int)}{X:Nat}{s:jJ}(h:Wk true A W w nb vars id cs X)(Y:Vw sT W q s.2)(hn:n=s.2.length)(hlen:s.2.length<=4096)(hl:∀x∈s.2,cC x=true/\Nt id x)(Z:X<262144):
 Calls prog 57 #[cj nb,.agg #[.bool s.1,.slice q n c]] w λe w'=>e=.returned (.i (lZ cs s))/\aE (λj=> ¬A j) w w'/\∃t:Bool,(lZ cs s=0->(s.1=true\/s.2≠[])->t=true)/\Wk t A W w' nb (Bf vars cs s) id (sB cs s) (X+1):=by
 refine(h.V6 Y hn hlen hl Z).mono ?_;rintro e w'⟨r,rfl,m,h⟩;rcases h with⟨h1,rfl,U⟩| ⟨h1,V,rfl,U⟩| ⟨h1,V,rfl,U⟩
 .obtain ⟨Q,J,O⟩:=Fh (cs:=cs) (k:=vars) h1;rw[Q,J,O];exact⟨rfl,m,true,λ_ _=>rfl,U.up⟩
 .obtain ⟨Q,J,O⟩:=EY (k:=vars) h1 V;rw[Q,J,O];exact⟨rfl,m,_,λ_ I=> (by rcases I with I|I;(rw[h1]at I;cases I);simpa using I),U⟩
 .obtain ⟨Q,J,O⟩:=MC (k:=vars) h1 V;rw[Q,J,O];exact⟨rfl,m,_,λI=>absurd I (by decide),U.up⟩
end
section
variable{W w w' w0 w2 w3 u:World}{p q:sn}{n m d i c:Nat}{k:Int}{hs:List Sl}{cs:lq}{l:List Int}{ss:List So}{al:List jJ}
theorem R0(v:Int):∀ (c:List Int),v<=wI v c/\∀x∈c,bo x<=wI v c:=by
 intro c;unfold wI
 induction c generalizing v with
 |nil=>exact⟨Ww _,λx I=>by simp at I⟩
 |cons y c ih=>
  rw[XR];obtain⟨h1,J⟩:=ih (imax (imax v y) (-y));have e:v<=imax (imax v y) (-y)/\bo y<=imax (imax v y) (-y):=by
   unfold imax bo;repeat' split
   all_goals omega
  refine⟨by omega,λx I=>?_⟩;rcases V'.1 I with rfl|I
  .omega
  .exact J x I
theorem Ss{v B:Int}(hv:v<=B):∀ {c:List Int},(∀x∈c,bo x<=B)->wI v c<=B:=by
 intro c;unfold wI
 induction c generalizing v with
 |nil=>exactλ_=>hv
 |cons y c I=>
  intro h;rw[XR];refine I ?_ λx J=>h x (xk _ J);have:=h y (Wb ..);unfold imax;unfold bo at this;repeat' split
  all_goals (first|omega| (split at this<;>omega))
theorem PN(v:Int):∀ (cs:lq),v<=cs.foldl wI v/\∀c∈cs,∀x∈c,bo x<=cs.foldl wI v:=by
 intro cs
 induction cs generalizing v with
 |nil=>exact⟨Ww _,λc I=>by simp at I⟩
 |cons y cs ih=>
  rw[XR];obtain⟨h1,O⟩:=ih (wI v y);obtain⟨U,Q⟩:=R0 v y;refine⟨by omega,λc I x J=>?_⟩;rcases V'.1 I with rfl|I
  .have:=Q x J;omega
  .exact O c I x J
theorem QN{v B:Int}(hv:v<=B):∀ {cs:lq},(∀c∈cs,∀x∈c,bo x<=B)->cs.foldl wI v<=B:=by
 intro cs
 induction cs generalizing v with
 |nil=>exactλ_=>hv
 |cons y cs I=>
  intro h;rw[XR];exact I (Ss hv (h y (Wb ..))) λc J=>h c (xk _ J)
theorem Nx{x:Int}(h:cC x=true):bo x<=1048576:=by
 have:=rz h;unfold bo;split<;>omega
def xX(s:jJ):Prop:=s.1=false/\s.2= []
def pE(al:List jJ)(t:Nat):Prop:=t<al.length/\xX (al.getD t dH)/\∀j,j<t->¬xX (al.getD j dH)
def RR(al:List jJ):Prop:=∀j,j<al.length->¬xX (al.getD j dH)
theorem pE.HY{t I:Nat}(h:pE al t)(J:pE al I):t=I:=by
 rcases YG t I with e|e|e
 .exact absurd h.2.1 (J.2.2 t e)
 .exact e
 .exact absurd J.2.1 (h.2.2 I e)
theorem NB:f_ prog 121=true:=by kernel_rfl
theorem Mk(hl:SV w q al)(hm:m=al.length)(ag:m<=1000000){e:Nat}:Calls prog 72 #[.slice q m e] w λe w'=>ak w w'/\((RR al/\e=.returned (.i (-1)))\/∃t:Nat,pE al t/\e=.returned (.i (t:Int))):=by
 subst hm;refine sj.aj ((bH.aj (R:=λe w'=>ak w w'/\((RR al/\e=.returned (.i (-1)))\/∃t:Nat,pE al t/\e=.returned (.i (t:Int)))) ?_).mono ?_)
 .refine ⟨λI u z=>∃t:Nat,I=t/\t<=al.length/\z=al.length - t/\ak w u/\∀j,j<t->¬xX (al.getD j dH),⟨_,0,rfl,xc _,rfl,aE.refl _,λj Z=>by omega⟩,?_⟩;rintro I u z _⟨t,rfl,ht,rfl,V,O⟩;refine ah (λr=>?_) (λr=>⟨V,.inl ⟨λj Z=>O j (by simp at r;omega),rfl⟩⟩);have r:t<al.length:=by simpa using r
  refine hl.ix V rfl r λa s Y h1 h2 h3=>⟨_,_,_,_,Y u V,?_⟩
  rw[NB];show Calls _ _ _ _ _;rw[O0];refine(oV.aj (R:=λe w'=>∃b:Bool,e=.returned (.bool b)/\(b=true↔xX (al.getD t dH))/\ak u w') ?_).mono ?_
  .intro n1 w2 J;refine⟨_,ae J.has rfl,ah (λQ=>⟨_,_,_,ae J.has rfl,_,rfl,?_,J.mod⟩) (λQ=>⟨false,rfl,⟨λe=> (by cases e),λe=>by rw[e.1]at Q;cases Q⟩,J.mod⟩)⟩;have Q:(al.getD t dH).1=false:=by simpa using Q
   rw[J8];unfold xX;rw[h1];constructor
   .intro e;exact⟨Q,Wa (by omega)⟩
   .intro e;rw[e.2];rfl
  .rintro ac aa ⟨b,rfl,hb,U⟩;refine⟨_,rfl,ah (λX=>⟨V.trans U,.inr ⟨t,⟨r,hb.1 X,O⟩,rfl⟩⟩) (λX=>⟨_,by omega,t+1,wN,r,rfl,V.trans U,λj Z=>?_⟩)⟩;by_cases e:j<t
   .exact O j e
   .obtain rfl:j=t:=by omega
    exactλe=>by rw[hb.2 e]at X;cases X
 .rintro e1 w1 ⟨g,⟨h,rfl⟩| ⟨t,h,rfl⟩⟩
  .exact ⟨_,rfl,g,.inl ⟨h,rfl⟩⟩
  .exact ⟨_,rfl,g,.inr ⟨t,h,rfl⟩⟩
def yy(ha:List Sr)(i:Nat)(s:jJ):List Sr:=if s.1=true then lX s.2 ha else ha++ [(s.2,true,(i:Int))]
def iY(cs:lq)(al:List jJ):Nat->List Sr
 |0=>uu cs cs.length
 |i+1=>yy (iY cs al i) i (al.getD i dH)
def zr(cs:lq)(al:List jJ):Prop:=∃t,pE al t/\∀i,i<=t->(al.getD i dH).1=true\/uB ((iY cs al i).map (·.1)) (al.getD i dH).2
theorem xA{x:List Int}{y:Sr}:∀ {ha:List Sr},y∈lX x ha->y∈ha
 | [],h=>h
 |a::l,h=>by
  unfold lX at h;split at h
  .exact xk _ h
  .rcases V'.1 h with h|h
   .exact h▸Wb ..
   .exact xk _ (xA h)
theorem C_{x:List Int}:∀ {ha:List Sr},(lX x ha).length<=ha.length
 | []=>vy _
 |a::l=>by
  unfold lX;split
  .simp
  .simpa using C_ (ha:=l)
theorem Dm{P:List Int->Prop}(h1:∀c∈cs,P c)(J:∀s∈al,P s.2):∀ {i:Nat},i<=al.length->∀x∈iY cs al i,P x.1
 |0,_,x,I=>by
  unfold iY uu at I;obtain⟨j,O,rfl⟩:=LV.1 I;exact h1 _ (iO (Wv.1 O))
 |i+1,hi,x,I=>by
  unfold iY yy at I;split at I
  .exact Dm h1 J (by omega) x (xA I)
  .rcases y4.1 I with I|I
   .exact Dm h1 J (by omega) x I
   .rw [xv]at I;rw[I];exact J _ (by simp[List.getD,show i<al.length by omega])
theorem zm:∀ {i:Nat},(iY cs al i).length<=cs.length+i
 |0=>by unfold iY;rw[vW];omega
 |i+1=>by
  have I:=zm (i:=i);unfold iY yy;split
  .have:=C_ (x:=(al.getD i dH).2) (ha:=iY cs al i);omega
  .rw [I',WG];omega
end
section
variable{W w w' w0 w2 w3 u:World}{p q:sn}{n m d i c:Nat}{k:Int}{cs:lq}{l:List Int}{al:List jJ}{S s:Bool × Int->Prop}
theorem nT{α β:Type}(f:α->β)(l:List α)(k:Nat)(d:β)(I:α)(h:k<l.length):(l.map f).getD k d=f (l.getD k I):=by simp[List.getD,h]
theorem GR:∀ {i:Nat} {K:List Nat},uB (cs.take i++K.map λj=>cs.getD j []) l->uB ((CE cs l i K).map λj=>cs.getD j []) l
 |0,K,h=>by rw[Zl,WY]at h;exact h
 |i+1,K,h=>by
  by_cases hu:uB (cs.take i++K.map λj=>cs.getD j []) l
  .rw [Ae hu];exact GR hu
  .rw [tw hu];refine GR (IV (λx I=>?_) h);rcases y4.1 I with I|I
   .rw [Yl]at I;obtain⟨j,J,rfl⟩:=I;by_cases e:j<i
    .exact Wq _ (by rw[Yl];exact⟨j,by omega,rfl⟩)
    .obtain rfl:j=i:=by omega
     refine WB _ ?_;rw[Xj];exact V'.2 (.inl (by simp[List.getD,show j<cs.length by omega]))
   .exact WB _ (by rw[Xj];exact xk _ I)
theorem Jl:∀ {i:Nat},∀x∈iY cs al i,(∃j:Nat,j<cs.length/\x=(cs.getD j [],false,(j:Int)))\/∃j:Nat,j<i/\(al.getD j dH).1=false/\x=((al.getD j dH).2,true,(j:Int))
 |0,x,I=>by
  unfold iY uu at I;obtain⟨j,O,rfl⟩:=LV.1 I;exact .inl ⟨j,Wv.1 O,rfl⟩
 |i+1,x,I=>by
  have up:∀x∈iY cs al i,(∃j:Nat,j<cs.length/\x=(cs.getD j [],false,(j:Int)))\/∃j:Nat,j<i+1/\(al.getD j dH).1=false/\x=((al.getD j dH).2,true,(j:Int)):=λx I=>by
   rcases Jl x I with h| ⟨j,h1,J⟩
   .exact .inl h
   .exact .inr ⟨j,by omega,J⟩
  unfold iY yy at I;split at I
  .exact up x (xA I)
  .rename_i h;rcases y4.1 I with I|I
   .exact up x I
   .rw [xv]at I;exact .inr ⟨i,by omega,by simpa using h,I⟩
noncomputable def Ec(cs:lq)(al:List jJ)(i:Nat):List Nat:=CE ((iY cs al i).map (·.1)) (al.getD i dH).2 (iY cs al i).length []
theorem GZ{j:Nat}(h:j∈Ec cs al i):j< (iY cs al i).length:=by
 have:=(yS (cs:=(iY cs al i).map (·.1)) (c:=(al.getD i dH).2) (n:=(iY cs al i).length) (by simp) (i:=(iY cs al i).length) (K:= []) (vy _) ⟨λj I=>by simp at I,.nil⟩).1;exact(this.1 j h).2
def Th(cs:lq)(al:List jJ)(i:Nat)(s:Bool × Int->Prop)(x:Bool × Int):Prop:=s x\/(s (true,(i:Int))/\∃j∈Ec cs al i,((iY cs al i).getD j yo).2=x)
def Lb(cs:lq)(al:List jJ):Nat->(Bool × Int->Prop)->(Bool × Int->Prop)
 |0,s=>s
 |i+1,s=>Lb cs al i (Th cs al i s)
def Ln(cs:lq)(al:List jJ)(t:Nat):Bool × Int->Prop:=Lb cs al (t+1) λx=>x=(true,(t:Int))
theorem Hx:∀ {n:Nat} {s:Bool × Int->Prop} {x:Bool × Int},s x->Lb cs al n s x
 |0,_,_,h=>h
 |n+1,s,x,h=>by
  rw[Lb];exact Hx (.inl h)
theorem yJ{j:Nat}(h:j∈Ec cs al i):(∃a:Nat,a<cs.length/\(iY cs al i).getD j yo=(cs.getD a [],false,(a:Int)))\/∃a:Nat,a<i/\(al.getD a dH).1=false/\(iY cs al i).getD j yo=((al.getD a dH).2,true,(a:Int)):=
 Jl _ (by simp[List.getD,GZ h])
theorem E7{n j:Nat}(O:n<=j)(h:Th cs al n s (true,(j:Int))):s (true,(j:Int)):=by
 rcases h with h| ⟨_,k,J,e⟩
 .exact h
 .rcases yJ J with⟨a,_,I⟩| ⟨a,ha,_,I⟩
  .rw [I]at e;cases e
  .rw [I]at e;injection e with _ e;omega
theorem E5:∀ {n:Nat} {s:Bool × Int->Prop} {j:Nat},n<=j+1->Lb cs al n s (true,(j:Int))->s (true,(j:Int))
 |0,_,_,_,h=>h
 |n+1,s,j,hj,h=>by
  rw[Lb]at h;exact E7 (by omega) (E5 (by omega) h)
theorem FU:∀ {n:Nat} {s:Bool × Int->Prop} {i:Nat},i<n->Lb cs al n s (true,(i:Int))->∀j∈Ec cs al i,Lb cs al n s ((iY cs al i).getD j yo).2
 |0,_,_,h,_=>by omega
 |n+1,s,i,hi,h=>by
  rw[Lb]at h ⊢;by_cases e:i=n
  .subst e;have h1:=E7 (vy _) (E5 (by omega) h);exactλj I=>Hx (.inr ⟨h1,j,I,rfl⟩)
  .exact FU (by omega) h
def AK(cs:lq)(al:List jJ)(t:Nat)(x:Bool × Int):Prop:=(∃a:Nat,a<cs.length/\x=(false,(a:Int)))\/∃a:Nat,a<=t/\(al.getD a dH).1=false/\x=(true,(a:Int))
theorem OC{t:Nat}(hi:i<=t)(h:∀x,s x->AK cs al t x):∀x,Th cs al i s x->AK cs al t x:=by
 rintro x (J| ⟨_,j,O,rfl⟩)
 .exact h x J
 .rcases yJ O with⟨a,ha,e⟩| ⟨a,ha,I,e⟩
  .rw [e];exact .inl ⟨a,ha,rfl⟩
  .rw [e];exact .inr ⟨a,by omega,I,rfl⟩
theorem Ov{t:Nat}:∀ {n:Nat} {s:Bool × Int->Prop},n<=t+1->(∀x,s x->AK cs al t x)->∀x,Lb cs al n s x->AK cs al t x
 |0,_,_,h=>h
 |n+1,s,hn,h=>by
  rw[Lb];exact Ov (by omega) (OC (by omega) h)
theorem MU{t:Nat}(ht:pE al t):∀x,Ln cs al t x->AK cs al t x:=
 Ov (vy _) λx I=> .inr ⟨t,vy _,ht.2.1.1,I⟩
theorem QD{t:Nat}:Ln cs al t (true,(t:Int)):=Hx rfl
open Classical in
noncomputable def q7(cs:lq)(al:List jJ)(t:Nat):List Nat:=(List.range cs.length).filter λi=>decide (Ln cs al t (false,(i:Int)))
open Classical in
noncomputable def ju(cs:lq)(al:List jJ)(t:Nat):List Nat:=(List.range (t+1)).filter λi=>decide (Ln cs al t (true,(i:Int)))
theorem AY{t j:Nat}:j∈q7 cs al t↔j<cs.length/\Ln cs al t (false,(j:Int)):=by unfold q7;simp
theorem sX{t j:Nat}:j∈ju cs al t↔j<=t/\Ln cs al t (true,(j:Int)):=by unfold ju;simp;omega
theorem FC{t:Nat}:(q7 cs al t).Pairwise (·< ·):=YK _ List.pairwise_lt_range
theorem Fi{t:Nat}:(ju cs al t).Pairwise (·< ·):=YK _ List.pairwise_lt_range
theorem Mj{t:Nat}:(q7 cs al t).length<=cs.length:=by
 have:=WZ (λi:Nat=> @decide (Ln cs al t (false,(i:Int))) (Classical.propDecidable _)) (List.range cs.length);rw[Xt]at this;exact this
theorem Nf{t:Nat}:(ju cs al t).length<=t+1:=by
 have:=WZ (λi:Nat=> @decide (Ln cs al t (true,(i:Int))) (Classical.propDecidable _)) (List.range (t+1));rw[Xt]at this;exact this
theorem Fp{t:Nat}:t∈ju cs al t:=sX.2 ⟨vy _,QD⟩
def Qe(cs:lq)(al:List jJ)(C T:List Nat)(j:Nat):lq:=(C.map λi=>cs.getD i [])++ (T.take j).map λi=> (al.getD i dH).2
theorem Ee{T:List Nat}(hr:T.Pairwise (·< ·)){j a:Nat}(I:j<T.length)(ha:a∈T)(h:a<T.getD j 0):a∈T.take j:=by
 obtain⟨i,hi,rfl⟩:=Bs.1 ha;rw[Yl];refine⟨i,?_,rfl⟩;rw[Wy]at hr;by_cases e:i<j
 .omega
 .exfalso;by_cases J:i=j
  .subst J;simp[List.getD,hi]at h
  .have:=hr j i I hi (by omega);simp[List.getD,I]at h;omega
theorem Tc{t:Nat}(ht:pE al t)(hp:∀i,i<=t->(al.getD i dH).1=true\/uB ((iY cs al i).map (·.1)) (al.getD i dH).2){j:Nat}(V:j< (ju cs al t).length):
 uB (Qe cs al (q7 cs al t) (ju cs al t) j) (al.getD ((ju cs al t).getD j 0) dH).2:=by
 have hm:(ju cs al t).getD j 0∈ju cs al t:=by simp[List.getD,V]
 obtain⟨U,Q⟩:=sX.1 hm;have J:(al.getD ((ju cs al t).getD j 0) dH).1=false:=by
  rcases MU ht _ Q with⟨a,_,e⟩| ⟨a,_,X,e⟩
  .cases e
  .injection e with _ e;have:(ju cs al t).getD j 0=a:=by omega
   rw[this];exact X
 have hu:=(hp _ U).resolve_left (by rw[J];decide);have Y:=GR (cs:=(iY cs al ((ju cs al t).getD j 0)).map (·.1)) (i:=(iY cs al ((ju cs al t).getD j 0)).length) (K:= []) (l:=(al.getD ((ju cs al t).getD j 0) dH).2) (by rw[Wi (by rw[We];exact vy _),Zw,W9];exact hu);refine IV (λx Z=>?_) Y;obtain⟨k,O,rfl⟩:=LV.1 Z;have O:k∈Ec cs al ((ju cs al t).getD j 0):=O;have I:=FU (by omega) Q k O;have e1:((iY cs al ((ju cs al t).getD j 0)).map (·.1)).getD k []=((iY cs al ((ju cs al t).getD j 0)).getD k yo).1:=by
  exact nT _ _ _ _ _ (GZ O)
 rw[e1];unfold Qe;rcases yJ O with⟨a,ha,e⟩| ⟨a,ha,X,e⟩
 .rw [e]at I ⊢;exact Wq _ (LV.2 ⟨a,AY.2 ⟨ha,I⟩,rfl⟩)
 .rw [e]at I ⊢;exact WB _ (LV.2 ⟨a,Ee Fi V (sX.2 ⟨by omega,I⟩) ha,rfl⟩)
end
section
variable{W w w' w0 w2 w3 u:World}{p q:sn}{n m d i c:Nat}{k:Int}{hs:List Sl}{cs:lq}{l:List Int}{ss:List So}{al:List jJ}
theorem SV.take(h:SV w p al)(k:Nat):SV w p (al.take k):=by
 intro i hi;rw[y6]at hi;have e:(al.take k).getD i dH=al.getD i dH:=by
  simp only[vx,WE];rw[v8 (by omega)]
 rw[e];exact h i (by omega)
theorem VL(p:sn):p.map (·.add (0*2))=p:=by cases p<;>simp[Addr.add]
theorem j6(h:ig al=true):∀s∈al,jL s.2=true:=by
 unfold ig at h;rw[K']at h;exact h
theorem uN{j:Nat}(h:j<al.length):al.getD j dH∈al:=by simp[List.getD,h]
theorem GN(h:c5 k cs=true):∀c∈cs,jL c=true:=by
 unfold c5 at h;rw[ts,K']at h;intro c I;have:=h.2 c I;rw[ts]at this;exact this.1
theorem UC(h:c5 k cs=true):0<=k/\k<=1048576:=by
 unfold c5 at h;rw[ts,x7]at h;exact⟨h.1.1,h.1.2.1⟩
def Rw(k:Int)(al:List jJ):Int:=(al.map (·.2)).foldl wI k
theorem Jd{I:lq}(h1:c5 k cs=true)(U:ig al=true)(hn:I.length<=262144)(O:∀c∈I,c∈cs\/c∈al.map (·.2)):c5 (Rw k al) I=true:=by
 have V:=UC h1;have X:=vh h1;have ge:=PN k (al.map (·.2));have le:=QN (v:=k) (B:=1048576) V.2 (cs:=al.map (·.2)) λc O x J=>by
  obtain⟨s,hs,rfl⟩:=LV.1 O;exact Nx ((cX (j6 U s hs)).1 x J)
 unfold c5;rw[ts,x7,K'];refine⟨⟨by unfold Rw;omega,by unfold Rw;omega,hn⟩,λc Q=>?_⟩;rw[ts,K'];rcases O c Q with h|h
 .exact ⟨GN h1 c h,λx J=>by rw[x7];have:=((X c h).2 x J).2;unfold Rw;omega⟩
 .refine ⟨?_,λx J=>by rw[x7];exact ge.2 c h x J⟩;obtain⟨s,hs,rfl⟩:=LV.1 h;exact j6 U s hs
theorem Dp(h1:∀c∈cs,jL c=true)(I:ig al=true)(hi:i<=al.length):∀y∈iY cs al i,jL y.1=true:=Dm (P:=λc=>jL c=true) h1 (j6 I) hi
theorem QU(hi:i<=al.length):∀c∈(iY cs al i).map (·.1),c∈cs\/c∈al.map (·.2):=by
 intro c J;obtain⟨x,I,rfl⟩:=LV.1 J;exact Dm (P:=λc=>c∈cs\/c∈al.map (·.2)) (λc h=> .inl h) (λs h=> .inr (WA h)) hi x I
theorem Az:iY cs al (i+1)=yy (iY cs al i) i (al.getD i dH):=rfl
theorem yX(h:(al.getD i dH).1=true):iY cs al (i+1)=lX (al.getD i dH).2 (iY cs al i):=by rw[Az,yy,v8 h]
theorem yO(h:(al.getD i dH).1=false):iY cs al (i+1)=iY cs al i++ [((al.getD i dH).2,true,(i:Int))]:=by rw[Az,yy,r8 (by rw[h];decide)]
theorem Ki{e:Nat}(hc:V2 sT w p hs cs)(hn:n=cs.length)(hx:cs.length+m<262144)(hl:SV w q al)(hm:m=al.length)(ea:m<=e):
 Calls prog 71 #[.agg #[.i k,.slice p n d],.slice q m e] w λe w'=>∃r:Bool,e=.returned (.bool r)/\(r=true↔c5 k cs=true/\ig al=true/\zr cs al)/\ak w w':=by
 subst hn hm;have no:∀ {u:World},¬(c5 k cs=true/\ig al=true/\zr cs al)->ak w u->∃r:Bool,Ending.returned (Value.bool false)=.returned (.bool r)/\(r=true↔c5 k cs=true/\ig al=true/\zr cs al)/\ak w u:=λh g=>⟨false,rfl,⟨λe=> (by cases e),λe=>absurd e h⟩,g⟩
 refine oX.aj ?_;intro n1 w2 h2;refine⟨_,_,_,_,cI h2.has,(eP (hc.grow h2.mod) rfl).mono ?_⟩;rintro e5 w5⟨rfl,g5⟩;have G5:=h2.mod.trans g5;refine⟨_,rfl,?_⟩;cases U:c5 k cs with
 |false=>exact bJ rfl (by have:= @no w5 (λh=>by rw[U]at h;cases h.1) G5;rwa [U]at this)
 |true=>
 refine bq rfl ((jQ (hl.grow G5) rfl (by omega)).mono ?_);rintro e7 w7⟨rfl,g7⟩;have G7:=G5.trans g7;refine⟨_,rfl,?_⟩;cases Q:ig al with
 |false=>exact bJ rfl (by have:= @no w7 (λh=>by rw[Q]at h;cases h.2.1) G7;rwa [Q,U]at this)
 |true=>
 rw[U,Q]at no;refine bq rfl ((Mk (hl.grow G7) rfl (by omega)).mono ?_);rintro e9 w9⟨g9,⟨ce,rfl⟩| ⟨t,ht,rfl⟩⟩
 .exact ⟨_,rfl,bJ rfl (no (λ⟨_,_,t,ht,_⟩=>ce t ht.1 ht.2.1) (G7.trans g9))⟩
 have G9:=G7.trans g9;have b9:=(h2.has.grow (g5.trans g7)).grow g9;have d5:=ht.1;refine⟨_,rfl,bq (by simp) ⟨_,_,_,_,cI b9,(yu (p:=p) (n:=cs.length) (d:=d) (hl.grow G9) rfl (by omega) (j6 Q)).mono ?_⟩⟩;rintro ep Z⟨rfl,ay⟩;have aa:=G9.trans ay;have cp:=b9.grow ay;refine⟨_,rfl,_,_,_,_,cI cp,(Be (k:=k) (hc.grow aa) rfl (by omega)).mono ?_⟩;rintro d6 dh⟨q0,d0,bn,rfl,o0,b_,bx,f0⟩;refine⟨_,_,_,rfl,?_⟩;rw[wN (x:=(t:Int)+1) (i:=t+1) (by omega) (by omega)];refine gh 0 (t+1) e rfl rfl rfl (by omega) (by omega) (by omega) ?_;have ei:(if e=0 then q else q.map (·.add (0*2)))=q:=by split;rfl;exact VL q
 rw[ei,WO];have a8:=hl.grow aa;have cT:=GN U;refine⟨λP N C I u z=>∃ (i:Nat) (ss:List So),I=i/\i<=t+1/\z=t+1 - i/\N=(iY cs al i).length/\ak Z u/\Row 3 yQ bG u P C ss/\SW Z ss (iY cs al i)/\(∀j,aF P=some j->Z.heap.size<=j)/\∀j,j<i->(al.getD j dH).1=true\/uB ((iY cs al j).map (·.1)) (al.getD j dH).2,
  ⟨_,0,bn,rfl,xc _,rfl,by show _=(uu cs cs.length).length;rw[vW],bx,o0,b_,f0,λj hj=>by omega⟩,?_⟩
 rintro P N C I u z _⟨i,ss,rfl,hi,rfl,rfl,gu,o,sw,fo,X⟩;have Gu:=aa.trans gu;have d4:=zm (cs:=cs) (al:=al) (i:=i);refine ah (λr=>?_) (λr=>?_)
 .have r:i<t+1:=by rw[x7]at r;omega
  have aT:=uN (al:=al) (j:=i) (by omega);have V:=j6 Q _ aT;have c3:=cX V;have et:(al.take (t+1)).getD i dH=al.getD i dH:=by
   simp only[vx,WE];rw[v8 (by omega)]
  refine(a8.take (t+1)).ix gu (by rw[y6];omega) (by rw[y6];omega) λa s cb h1 a_ h3=>⟨_,_,_,_,cb u gu,?_⟩
  rw[et]at h1 h3 ⊢;intro n29 ec av;have en:=av.num;refine aX av.has rfl rfl λY an b7=>⟨_,ae an rfl,?_⟩
  have J:ak u Y:=av.mod.then b7 λj hj e=>by omega
  have ek:=gu.size;refine ah (λr2=>⟨_,_,_,ae an rfl,?_⟩) (λr2=>?_)
  .have hd:(al.getD i dH).1=true:=by simpa using r2
   refine(Jh (o.grow J) sw (gu.trans J) rfl (by omega) (Dp cT Q (by omega)) h3 h1 V (by have:=o.cap;have:=sw.n;omega)).mono ?_;rintro es er⟨q',d',tt,rfl,co,a7,cg,c4,f34⟩;refine⟨_,_,_,rfl,_,by omega,i+1,tt,wN,r,rfl,by rw[yX hd],(gu.trans J).trans cg,co,by rw[yX hd];exact a7,λj hj=>?_,λj hj=>?_⟩
   .have:=J.size;rcases f34 j hj with h|h
    .exact fo j h
    .omega
   .by_cases e:j<i
    .exact X j e
    .obtain rfl:j=i:=by omega
     exact .inl hd
  .have hd:(al.getD i dH).1=false:=by simpa using r2
   have gd:ak Y Y.drew:=(aE.refl Y).drew;refine⟨ak Y,gd,bq (by simp;omega) ((xJ (o.grow (J.trans gd)) sw ((gu.trans J).trans gd) rfl (by omega)).mono ?_)⟩;rintro eu cr⟨ej,el,ks,rfl,bu,O⟩;have O:=gd.trans O;refine⟨_,_,_,rfl,O,_,_,_,λv g=>ae (an.grow g) rfl,?_⟩;have az:ak Z cr:=(gu.trans J).trans O;refine(yk (k:=Rw k al) bu (by rw[We]) (λ_ _=>by rw[We];omega) (h3.grow az) h1 a_).mono ?_;rintro du eg⟨rr,rfl,hr,ap⟩;have a6:c5 (Rw k al) ((iY cs al i).map (·.1))=true:=Jd U Q (by rw[We];omega) (QU (by omega));refine⟨_,rfl,ah (λr3=>?_) (λr3=>?_)⟩
   .refine no (λ⟨_,_,t',cm,hp⟩=>?_) ((aa.trans az).trans ap);obtain rfl:=ht.HY cm;have hu:=(hp i (by omega)).resolve_left (by rw[hd];decide);rw[hr.2 ⟨a6,V,hu⟩]at r3;cases r3
   .obtain ⟨_,_,hu⟩:=hr.1 (by simpa using r3);have c0:=(an.grow O).grow ap;refine⟨_,_,_,ae c0 rfl,?_⟩;intro dT b3 ar;have d8:=ar.num;have aw:ak u b3:=((J.trans O).trans ap).trans ar.mod;have zu:=aw.size;have ef:=((J.trans O).trans ap).size;refine Row.nu tX wZ (o.grow aw) (Hs (s:=(s,true,(i:Int))) ar.has) sw.n.symm rfl (by have:=sw.n;simp;omega) λdk p' c' b5 b8 b4 dp=>?_;refine⟨_,by omega,i+1,_,wN,r,rfl,by rw[yO hd];simp[sw.n],(gu.trans aw).then b8 λj hj e=>by have:=fo j e;omega,b5,by rw[yO hd];exact sw.nu (SW.bP rfl h1 a_ h3),λj hj=>?_,λj hj=>?_⟩
    .rcases b4 with rfl|rfl
     .exact fo j hj
     .have:=aO hj;omega
    .by_cases e:j<i
     .exact X j e
     .obtain rfl:j=i:=by omega
      exact .inr hu
 .have r:i=t+1:=by simp at r;omega
  subst r;exact⟨true,rfl,⟨λ_=>⟨rfl,rfl,t,ht,λi hi=>X i (by omega)⟩,λ_=>rfl⟩,Gu⟩
end
