/- Layer 14: what a search's proof is. -/
import Derived.Test.YtenmibfmhccmiaaGreatStudyA
import Derived.Test.YtenmibfmhccmiaaGreatPropC
import Derived.Test.YtenmibfmhccmiaaGreatDratB
import Derived.Test.YtenmibfmhccmiaaGreatLubyA
namespace Go.Proofs.YtenmibfmhccmiaaGreat.W
open Go Go.Fw Go.RowKit Go.SoP Go.LiP Go.LeP
section
variable {s t s':aG} {l c d:List Int} {x y:Int} {i j N bl:Nat} {cs ds:List (List Int)} {pr:List (Bool × List Int)}
def Ci (cs:List (List Int)) (pr:List (Bool × List Int)):Nat->List (List Int)
 |0=>cs
 |i+1=>if (pr.getD i (false,[])).1=true then Al (pr.getD i (false,[])).2 (Ci cs pr i) else Ci cs pr i++ [(pr.getD i (false,[])).2]
theorem oO {z:Bool × List Int}: ∀ {i:Nat},i<=pr.length->Ci cs (pr++ [z]) i=Ci cs pr i
 |0,_=>rfl
 |i+1,h=>by
  have e:(pr++ [z]).getD i (false,[])=pr.getD i (false,[]):=by
   simp only [List.getD_eq_getElem?_getD];rw [List.getElem?_append_left (by omega)]
  unfold Ci;rw [e,oO (by omega)]
def Mt (ds:List (List Int)) (s:aG):Prop:= ∃ix:List Nat,ix.Nodup/\(∀i,i∈ix↔s.aQ i)/\(ds.map bh).Perm (ix.map fun i=>bh (s.R (.a i)))
theorem Mt.same (h:Mt ds s) (h1: ∀i,t.aQ i↔s.aQ i) (I: ∀i,s.aQ i->t.R (.a i)=s.R (.a i)):Mt ds t:=by
 obtain ⟨ix,nd,m,p⟩:=h;refine ⟨ix,nd,fun i=> (m i).trans (h1 i).symm,?_⟩
 rwa [List.map_congr_left (g:=fun i=>bh (s.R (.a i))) fun i hi=>by rw [I i ((m i).1 hi)]]
theorem wV (c:List Int): ∀ds:List (List Int),bh c∈ds.map bh->(bh c::(Al c ds).map bh).Perm (ds.map bh)
 | [],h=>by simp at h
 |x::l,h=>by
  unfold Al;by_cases e:bh x=bh c
  . rw [if_pos e,List.map_cons,e]
  . rw [if_neg e,List.map_cons,List.map_cons];have I:bh c∈l.map bh:=by
     rcases List.mem_cons.1 h with h|h
     . exact absurd h.symm e
     . exact h
    exact (List.Perm.swap _ _ _).trans ((wV c l I).cons _)
theorem Mt.drop (h:Mt ds s) (hi:s.aQ i):Mt (Al (s.R (.a i)) ds) (s.drop i):=by
 obtain ⟨ix,nd,m,p⟩:=h;have hm:i∈ix:=(m i).2 hi;refine ⟨ix.erase i,nd.erase i,fun j=> ?_,?_⟩
 . rw [nd.mem_erase_iff,m j,iG];exact and_comm
 . have h1:bh (s.R (.a i))∈ds.map bh:=p.mem_iff.2 (List.mem_map_of_mem hm);have J:=wV _ ds h1;have p2:(ix.map fun i=>bh (s.R (.a i))).Perm (bh (s.R (.a i))::(ix.erase i).map fun i=>bh (s.R (.a i))):=(List.perm_cons_erase hm).map _;have O:=(J.trans (p.trans p2)).cons_inv
   rwa [List.map_congr_left (l:=ix.erase i) (g:=fun i=>bh (s.R (.a i))) fun k I=>by rw [rB (nd.mem_erase_iff.1 I).1]]
theorem Mt.add (h:Mt ds s) (hb:s.bC i=t) (ha:jT t l s'):Mt (ds++ [l]) s':=by
 subst hb;obtain ⟨ix,nd,m,p⟩:=h;have enc:(s.bC i).nc=s.nc:=rfl;have th: ∀j,s'.aQ j↔s.aQ j\/j=s.nc:=fun j=>by
  unfold aG.aQ;rw [ha.n,ha.g,enc];by_cases e:j=s.nc
  . rw [if_pos e];subst e;exact ⟨fun _=> .inr rfl,fun _=> ⟨by omega,rfl⟩⟩
  . rw [if_neg e];exact ⟨fun h=> .inl ⟨by omega,h.2⟩,fun h=>by
     rcases h with h|h
     . exact ⟨by omega,h.2⟩
     . exact absurd h e⟩
 have I:s.nc ∉ ix:=fun h=>by have:=(m _).1 h;exact absurd this.1 (by omega)
 refine ⟨ix++ [s.nc],?_,fun j=> ?_,?_⟩
 . exact List.nodup_append.2 ⟨nd,by simp,fun a ha b hb e=>by
    rw [List.mem_singleton] at hb;subst hb;subst e;exact I ha⟩
 . rw [List.mem_append,List.mem_singleton,m j,th j]
 . rw [List.map_append,List.map_append,List.map_singleton,List.map_singleton,ha.a,enc,if_pos rfl];rw [List.map_congr_left (l:=ix) (g:=fun i=>bh (s.R (.a i))) fun k J=>by
    rw [ha.a,enc,if_neg (fun e=>I (by rw [<- e];exact J)),lI]]
   exact p.append_right _
def MF (N:Nat) (z:Bool × List Int):Prop:=Ar N z.2
structure PF (cs:List (List Int)) (s:aG) (pr:List (Bool × List Int)):Prop where
 ne: ∀i,i<pr.length->pr.getD i (false,[])≠(false,[])
 up: ∀i,i<pr.length->(pr.getD i (false,[])).1=true\/uB (Ci cs pr i) (pr.getD i (false,[])).2
 mt:Mt (Ci cs pr pr.length) s
 qD: ∀z∈pr,MF s.vars z
structure PE (cs:List (List Int)) (N:Nat) (pr:List (Bool × List Int)):Prop where
 fI: ∃t,t+1=pr.length/\pr.getD t (false,[])=(false,[])/\∀i,i<t->pr.getD i (false,[])≠(false,[])
 up: ∀i,i<pr.length->(pr.getD i (false,[])).1=true\/uB (Ci cs pr i) (pr.getD i (false,[])).2
 qD: ∀z∈pr,MF N z
theorem Jb (h:Mt ds s) (r:zk s l):uB ds l:=by
 obtain ⟨ix,_,m,p⟩:=h;refine r ds fun x=> ?_;rw [p.mem_iff,List.mem_map];exact ⟨fun ⟨i,hi,e⟩=> ⟨i,(m i).1 hi,e⟩,fun ⟨i,hi,e⟩=> ⟨i,(m i).2 hi,e⟩⟩
theorem oE {z:Bool × List Int} (h:i<pr.length):(pr++ [z]).getD i (false,[])=pr.getD i (false,[]):=by
 simp only [List.getD_eq_getElem?_getD];rw [List.getElem?_append_left h]
theorem l4 {z:Bool × List Int}:(pr++ [z]).getD pr.length (false,[])=z:=by simp [List.getD]
theorem PF.push {z:Bool × List Int} (h:PF cs s pr) (J:z≠(false,[])) (hu:z.1=true\/uB (Ci cs pr pr.length) z.2) (hv:t.vars=s.vars) (hi:MF s.vars z)
 (hm:Mt (if z.1=true then Al z.2 (Ci cs pr pr.length) else Ci cs pr pr.length++ [z.2]) t):PF cs t (pr++ [z]):=by
 refine ⟨fun i hi=> ?_,fun i hi=> ?_,?_,fun y I=> ?_⟩
 . by_cases e:i<pr.length
   . rw [oE e];exact h.ne i e
   . rw [show i=pr.length by simp at hi;omega,l4];exact J
 . by_cases e:i<pr.length
   . rw [oE e,oO (by omega)];exact h.up i e
   . rw [show i=pr.length by simp at hi;omega,l4,oO (Nat.le_refl _)];exact hu
 . rw [List.length_append,List.length_singleton];unfold Ci;rw [l4,oO (Nat.le_refl _)];exact hm
 . rw [hv];rcases List.mem_append.1 I with I|I
   . exact h.qD y I
   . rw [List.mem_singleton] at I;subst I;exact hi
theorem PF.ext (h:PF cs s pr) (e:iq s s'):PF cs s' pr:=
 ⟨h.ne,h.up,h.mt.same (fun i=>e.mB) fun i _=>e.a i,fun z I=>by rw [e.v];exact h.qD z I⟩
theorem PF.decide (h:PF cs s pr):PF cs (s.decide x) pr:=
 ⟨h.ne,h.up,h.mt.same (fun _=>Iff.rfl) fun _ _=>mE,h.qD⟩
theorem PF.bC (h:PF cs s pr):PF cs (s.bC i) pr:=
 ⟨h.ne,h.up,h.mt.same (fun _=>Iff.rfl) fun _ _=>lI,h.qD⟩
theorem PF.add (h:PF cs s pr) (k:LS s l i) (ok:Ar s.vars l) (r:zk s l) (ha:jT (s.bC i) l s'):PF cs s' (pr++ [(false,l)]):=by
 refine h.push (fun e=> ?_) (.inr (Jb h.mt r)) ?_ ok ?_
 . obtain ⟨x,I,_⟩:=k.lS;have:l= []:=by injection e
   rw [this] at I;simp at I
 . rw [ha.v];rfl
 . exact h.mt.add rfl ha
theorem PF.drop (h:PF cs s pr) (ok:Ar s.vars (s.R (.a i))) (hi:s.aQ i):PF cs (s.drop i) (pr++ [(true,s.R (.a i))]):=
 h.push (fun e=>by injection e with e;cases e) (.inl rfl) A0 ok (h.mt.drop hi)
theorem PF.new (d:FX N cs s):PF cs s []:=
 ⟨fun i hi=>by simp at hi,fun i hi=>by simp at hi,⟨List.range cs.length,List.nodup_range,fun i=>by
   rw [List.mem_range];unfold aG.aQ;rw [d.n];exact ⟨fun h=> ⟨h,d.g i h⟩,fun h=>h.1⟩,by
   have e:(List.range cs.length).map (fun i=>bh (s.R (.a i)))=cs.map bh:=by
    refine List.ext_getElem (by simp) fun i h1 J=> ?_;have hi:i<cs.length:=by simpa using h1
    simp only [List.getElem_map,List.getElem_range];rw [d.a i hi];simp [List.getD,hi]
   rw [e];exact List.Perm.refl _⟩,fun z I=>by simp at I⟩
theorem PF.fI (h:PF cs s pr) (g:aM s) (O:sU s i) (Q:s.R .be= []):PE cs s.vars (pr++ [(false,[])]):=by
 refine ⟨⟨pr.length,by simp,l4,fun i hi=>by rw [oE hi];exact h.ne i hi⟩,fun i hi=> ?_,fun y I=> ?_⟩
 . by_cases e:i<pr.length
   . rw [oE e,oO (by omega)];exact h.up i e
   . rw [show i=pr.length by simp at hi;omega,l4,oO (Nat.le_refl _)];exact .inr (Jb h.mt (Ir g O Q))
 . rcases List.mem_append.1 I with I|I
   . exact h.qD y I
   . rw [List.mem_singleton] at I;subst I;exact ⟨fun x J=>by simp at J,fun x J=>by simp at J,List.nodup_nil⟩
end
section
variable {w0 w w' w1 w2 u:World} {B N i:Nat} {L L' L1:Nat->Nat} {x:Xs} {l:List Int} {cs:List (List Int)} {hv:List (Nat × List Int)} {un:List (List Int)}
def GF (p:Ps):Bool × List Int:=(p.1,p.2.2)
structure HN (w0 w u:World) (B:Nat) (L:Nat->Nat) (N:Nat) (x:Xs) (hv1:List Hc) (cs un:List (List Int)) (q:Option Addr) (k:List Bool) (t:Nat) (L1:Nat->Nat) (lf:List Hc) (s1:aG) (pr1:List Ps) (psl:Sl) (p:Option Addr) (c:Nat):Prop where
 row:Row 5 D9 ck u p c lf
 fr: ∀b,aI p=some b->L1 b=0/\w.heap.size<=b
 sr:SR w0 u B L1 N {x with hv:=hv1,s:=s1,ps:=psl,pr:=pr1,m:= {x.m with dr:=x.m.dr+ (t - lf.length:Nat)}}
 kp:Kp w0 w u L L1
 ci:ni N cs s1 ((lf++hv1.drop t).map DS) un
 nc:s1.nc=x.s.nc
 hi:xW N s1 x.S
 sub: ∀h∈lf,h∈hv1
 pl:pr1.length+lf.length=x.pr.length+t
 le:lf.length<=t
 st:Vw Value.bool u q k
 r9:R9 u L1 q
 be:s1.R .be=x.s.R .be
 pf:PF cs s1 (pr1.map GF)
 z:w0.heap.size<=w.heap.size
 ct:(k.take t).countP id<=lf.length
theorem JI {k:List Bool} {t:Nat} {α:Type} {I:List α} {y:α} (h:(k.take t).countP id<=I.length):(k.take (t+1)).countP id<=(I++ [y]).length:=by
 rw [List.take_add_one,List.countP_append,List.length_append,List.length_singleton];have:(k[t]?.toList).countP id<=1:=Nat.le_trans List.countP_le_length (by cases k[t]? <;>simp);omega
theorem Ig {k:List Bool} {t n:Nat} (h:(k.take t).countP id<=n) (e:k.getD t false=false):(k.take (t+1)).countP id<=n:=by
 rw [List.take_add_one,List.countP_append];rw [List.getD_eq_getElem?_getD] at e;cases I:k[t]? with
 |none=>simpa using h
 |some b=>
  rw [I] at e;have e:b=false:=e;subst e;simpa using h
theorem Ef {l:List RedP.Lr} {ks:List Bool} (h1:ks.length=l.length) (O: ∀x:Nat,x<l.length->ks.getD x false=RedP.keep l x):l.length<=2*ks.countP id+1:=by
 obtain ⟨o,Q⟩:=RedP.JL l;have hs:=Q.LG;have e:ks=(RedP.pC l.length).map (RedP.keep l):=by
  refine List.ext_getElem (by rw [List.length_map,RedP.j6];exact h1) fun i J V=> ?_;have:=O i (by omega);rw [List.getD_eq_getElem?_getD,List.getElem?_eq_getElem J] at this;simp only [RedP.pC,List.getElem_map,List.getElem_range];exact this
 have c:ks.countP id=(RedP.pC l.length).countP (RedP.keep l):=by rw [e,List.countP_map];rfl
 have I: ∀L:List Int,L.countP (RedP.keep l)=L.countP (fun x=>RedP.fy (RedP.aS l x))+L.countP (fun x=> !RedP.fy (RedP.aS l x) && RedP.keep l x)/\L.length=L.countP (fun x=>RedP.fy (RedP.aS l x))+L.countP (fun x=> !RedP.fy (RedP.aS l x)):=by
  intro L
  induction L with
  |nil=>exact ⟨rfl,rfl⟩
  |cons a L ih=>
   have hm:RedP.fy (RedP.aS l a)=true->RedP.keep l a=true:=fun h=>by unfold RedP.keep;rw [h,Bool.true_or]
   simp only [List.countP_cons,List.length_cons];cases J:RedP.fy (RedP.aS l a) with
   |true=>rw [hm J];simp;omega
   |false=>cases V:RedP.keep l a<;>simp<;>omega
 obtain ⟨X,U⟩:=I (RedP.pC l.length);rw [RedP.j6] at U;unfold RedP.ii at hs;omega
theorem HF {s:aG} {i:Nat}:(s.drop i).nc=s.nc:=by
 obtain ⟨d1,d2,d3,_⟩:=iw (i:Int) ((s.R (.l i)).take 2) s;exact d2
theorem Ff {s:aG} {S:Int->Prop} {j:Nat} (g:aM s) (O:aM (s.drop j)) (hv:s.vars=N) (h:xW N s S):xW N (s.drop j) S:=by
 intro v v1 v2 Q;have J:dR s.vars v:=⟨by omega,by omega,by omega⟩
 have I:dR (s.drop j).vars v:=by rw [A0];exact J
 have:=(gx O I).1 Q;rw [ut (.inl rfl)] at this;exact h v v1 v2 ((gx g J).2 this)
theorem HN.grow {q p:Option Addr} {c:Nat} {k:List Bool} {t:Nat} {J V:List Hc} {U:aG} {I:List Ps} {O:Sl} (A:HN w0 w u B L N x J cs un q k t L1 V U I O p c) (g:aq u w'):
 HN w0 w w' B L N x J cs un q k t (jf L1 u.heap.size 9) V U I O p c:=by
 have Q:Kp w0 u w' L1 (jf L1 u.heap.size 9):=jA.new g 9;exact ⟨A.row.grow g,Q.lb A.fr A.row.lt,A.sr.new g 9,A.kp.trans Q,A.ci,A.nc,A.hi,A.sub,A.pl,A.le,A.st.grow g,Q.r9 A.r9,A.be,A.pf,A.z,A.ct⟩
theorem HN.oV {q p:Option Addr} {c:Nat} {k:List Bool} {t:Nat} {J U:List Hc} {s1:aG} {V:List Ps} {X:Sl} (A:HN w0 w u B L N x J cs un q k t L1 U s1 V X p c) (ht:t<J.length) (hb:J.length<=1000000) {y:Hc} (hy:y=J.getD t Bf)
 {nn:Nat} {I:World} (h:bc (.cells #[.int .i64 y.i,.slice y.sl.p y.sl.n y.sl.c,.int .i64 y.lv,.int .i64 y.sz,.bool y.lk] 184) u nn I) {K:World->Option Addr->Nat->Nat->Prop}
 (Z: ∀w' O c' L2,HN w0 w w' B L N x J cs un q k (t+1) L2 (U++ [y]) s1 V X O c'->K w' O (U++ [y]).length c'):
 ∃w',∃O n' c',(Builtin.append_ #[105,105] 105 #[.slice p U.length c,.slice (some (Addr.mk nn 0 none)) 1 1]).run Tryz.prog I= .ok (.slice O n' c') w'/\K w' O n' c':=by
 have ar:=A.le;refine Row.oV wD tQ (A.row.grow h.mod) (I_ (u:=y) h.has) rfl rfl (by simp;omega) fun w' O c' o8 m8 ac av=> ?_;have aa:=A.sr.grow h.mod;have hr:=(A.row.grow h.mod).lt;have az:=A.kp.mod.size;have aw:=h.size;have ag:aE (fun k=>L1 k=0/\w0.heap.size<=k) I w':=m8.mono fun b _ e=> ⟨(A.fr b e).1,by have:=(A.fr b e).2;have:=A.z;omega⟩
 have Q:=aa.MQ (L':=jf L1 I.heap.size 0) ag fun _ Z=>cU Z;have kq:Kp w0 I w' L1 (jf L1 I.heap.size 0):=Q.2.sj fun i e=>by rw [e];decide
 have Y:Kp w0 u w' L1 (jf L1 I.heap.size 0):=(jA.grow h.mod).trans kq;have ym:y∈J:=by rw [hy];exact sX ht
 refine Z _ _ _ (jf L1 I.heap.size 0) ⟨o8,fun b hb=> ?_,?_,A.kp.trans Y,?_,A.nc,A.hi,fun v hv=> ?_,?_,?_,Y.vw A.st A.r9,Y.r9 A.r9,A.be,A.pf,A.z,JI A.ct⟩
 . rcases ac with rfl|rfl
   . rw [cU (hr b hb)];exact A.fr b hb
   . have:=bg hb;exact ⟨hJ (by omega),by omega⟩
 . have:=Q.1;rw [show t+1 - (U++ [y]).length=t - U.length by simp];exact this
 . have:=A.ci;rw [xd ht,<- hy] at this;rw [List.append_assoc];exact this
 . rcases List.mem_append.1 hv with hv|hv
   . exact A.sub v hv
   . rw [List.mem_singleton] at hv;subst hv;exact ym
 . have:=A.pl;rw [List.length_append,List.length_singleton];omega
 . rw [List.length_append,List.length_singleton];omega
theorem GC (h:SR w0 w B L N x) (k:ni N cs x.s (x.hv.map DS) un) (hi:xW N x.s x.S) (e1:x.hv.length<=1000000) (gJ:x.pr.length<=900000000) (en: ∀u∈x.hv,Jc u) (gr:0<=x.m.dr/\x.m.dr<=1000000000) (pf:PF cs x.s (x.pr.map GF)):
 Calls Tryz.prog dX.id #[bR B] w fun e w'=>e= .returned (.tuple #[])/\∃L' s' hv' fd pr' fb b7,Kp w0 w w' L L'/\
  SR w0 w' B L' N {x with hv:=hv',hs:=fd,s:=s',ps:=fb,pr:=pr',m:= {x.m with dr:=b7,bB:=jI (IntKind.i64.wrap (x.m.bB+1)) 100}}/\
  ni N cs s' (hv'.map DS) un/\xW N s' x.S/\s'.nc=x.s.nc/\(∀u∈hv',Jc u)/\pr'.length+hv'.length=x.pr.length+x.hv.length/\hv'.length<=x.hv.length/\s'.R .be=x.s.R .be/\PF cs s' (pr'.map GF)/\x.m.dr<=b7/\b7+hv'.length=x.m.dr+x.hv.length/\x.hv.length<=2*hv'.length+1:=by
 refine dX.ah ⟨_,rfl,_,_,_,ad h.at rfl,JC h k.g e1 en fun p c u I ll A=> ?_⟩;have hlen:=A.sm.len;have ea:ll.all RedP.At=true:=List.all_eq_true.2 A.ok;have ez: ∀y∈I,Jc y:=A.sm.mem (fun u v e hu=>by unfold Jc at*;simp only [vN,Prod.mk.injEq] at e;obtain ⟨_,_,e3,e4,e5⟩:=e;rw [<- e3,<- e4,<- e5];exact hu) en;refine (Re.G_ (A.row.vr Re.MZ) rfl (by rw [A.len];omega)).mono ?_;rintro e gA ⟨q,d,ks,rfl,b6,ob,fq,b_⟩;rw [ea,if_pos rfl] at b_;have dq:ks.length=I.length:=by rw [b_.1,A.len,hlen]
 have eL:=Ef (l:=ll) (ks:=ks) (by rw [dq,<- hlen];exact A.len.symm) fun x hx=>b_.2 x (by first|exact hx|rw [A.len] at*;exact hx);have gu:=(h.hv id).2.1;have d5:=A.sr.new b6 9;have ec:=A.kp.trans (jA.new b6 9);have su:=A.kp.mod.size;have g0:=b6.size;refine ⟨_,_,_,rfl,_,rfl,_,_,_,ad d5.at rfl,?_⟩;have c0:ni N cs x.s (([]++I.drop 0).map DS) un:=by
  rw [List.nil_append,List.drop_zero,<- A.sm.DS];exact k
 refine ⟨fun p n c v u z=> ∃ (t:Nat) (L1:Nat->Nat) (V:List Hc) (s1:aG) (U:List Ps) (aa:Sl),v=t/\t<=I.length/\z=I.length - t/\n=V.length/\HN w0 w u B L N x I cs un q ks t L1 V s1 U aa p c,
  ⟨_,0,_,[],x.s,x.pr,x.ps,rfl,Nat.zero_le _,rfl,rfl,⟨Row.nil _ _ _ _,fun b hb=>by simp [aI] at hb,by simpa using d5,ec,c0,rfl,hi,by simp,by simp,Nat.zero_le _,ob.vw,⟨fun b hb=> ⟨hJ (fq b hb),ob.lt b hb⟩⟩,rfl,pf,h.g.size,by simp⟩⟩,?_⟩
 rintro p n c v u z _ ⟨t,L1,V,s1,U,aa,rfl,ht,rfl,rfl,D⟩;refine ao (fun r=> ?_) (fun r=> ?_)
 . have r:t<I.length:=by simp at r;omega
   obtain ⟨r1,r2,r3⟩:=D.sr.hv id;have r1:Row 5 D9 ck u x.hs.p x.hs.c I:=r1;obtain ⟨y,hy⟩: ∃y,y=I.getD t Bf:=⟨_,rfl⟩
   have dp:y∈I:=by rw [hy];exact sX r
   have oy:=ez y dp;refine (r1.vr wD).ix Bf (by omega) (by show x.hs.n=I.length;omega) (by show (t:Int)< (x.hs.n:Int);omega) fun a ha=> ?_;rw [Int.toNat_natCast,<- hy] at ha;refine ⟨_,_,_,_,_,_,_,ha,fun a6 gz ce=> ?_⟩;refine bq ce.has rfl rfl fun ap b5 fa=> ?_;have b5:bF ap a6 #[.int .i64 y.i,.slice y.sl.p y.sl.n y.sl.c,.int .i64 y.lv,.int .i64 y.sz,.bool y.lk]:=b5;have gl:=ce.num;have eR:aq u ap.drew:=(aE.bW ce.mod fa (by omega)).trans (aE.refl ap).drew;have J:=D.grow eR;have cm:=b5.grow (aE.refl ap).drew;refine J.st.ix false (by omega) rfl (by omega) fun gw e'=> ⟨_,e',?_⟩
   have ej: ∀ {u':World} {L2:Nat->Nat},HN w0 w u' B L N x I cs un q ks t L2 V s1 U aa p c->bF u' a6 #[.int .i64 y.i,.slice y.sl.p y.sl.n y.sl.c,.int .i64 y.lv,.int .i64 y.sz,.bool y.lk]->
    ∃ef b4 b3 a' ep er et,aD u' (Addr.mk a6 0 none) 0 [.int .i64 ef,.slice b4 b3 a',.int .i64 ep,.int .i64 er,.bool et]/\
     ∀cb b8,bc (.cells #[.int .i64 ef,.slice b4 b3 a',.int .i64 ep,.int .i64 er,.bool et] 184) u' cb b8->
     ∃eu a8 bb bv,(Builtin.append_ #[105,105] 105 #[.slice p V.length c,.slice (some (Addr.mk cb 0 none)) 1 1]).run Tryz.prog b8= .ok (.slice a8 bb bv) eu/\
     ∃dd,dd<I.length - t/\∃ (t2:Nat) (L1:Nat->Nat) (V:List Hc) (s1:aG) (U:List Ps) (aa:Sl),IntKind.i64.wrap ((t:Int)+ (1:Int))=t2/\t2<=I.length/\dd=I.length - t2/\bb=V.length/\HN w0 w eu B L N x I cs un q ks t2 L1 V s1 U aa a8 bv:=by
    intro u' L2 E hh;refine ⟨_,_,_,_,_,_,_,⟨ad hh rfl,ad hh rfl,ad hh rfl,ad hh rfl,ad hh rfl,trivial⟩,fun cb b8 e9=> ?_⟩;refine E.oV r (by omega) hy e9 fun w' p' c' L3 E'=> ⟨_,?_,t+1,L3,_,_,_,_,wN (by omega) (by omega),by omega,rfl,rfl,E'⟩
    omega
   refine ao (fun _=>ej J cm) (fun ax=> ?_);have ax:ks.getD t false=false:=by rw [Int.toNat_natCast] at ax;exact ax
   have n9:jf L1 u.heap.size 9 a6=9:=hJ (by omega);refine ⟨_,rfl,_,ad J.sr.at rfl,_,ad cm rfl,(J.sr.Lg D.ci.g y.i).mono ?_⟩;rintro e O ⟨gn,rfl,an,cT,hh⟩;have X:Kp w0 ap.drew O (jf L1 u.heap.size 9) an:=cT.sj fun i e=>by rw [e];decide
   have ac:Row 5 D9 ck O p c V:=cT.row J.row fun b hb e=>by rw [(J.fr b hb).1] at e;exact absurd e (by decide)
   have bY:=cT.lb J.fr J.row.lt;have a_:=X.vw J.st J.r9;have av:=X.r9 J.r9;have dk:=X.has cm n9;refine ⟨_,rfl,?_⟩;rcases hh with ⟨hr,Y⟩| ⟨rfl,eT,gd,Y⟩
   . refine cj (by simpa using hr) (ej ⟨ac,bY,Y,J.kp.trans X,D.ci,D.nc,D.hi,D.sub,D.pl,D.le,a_,av,D.be,D.pf,D.z,D.ct⟩ dk)
   . refine bm rfl ?_;have Y:SR w0 O B an N {x with hv:=I,s:=s1.drop y.i,ps:=aa,pr:=U,m:= {x.m with dr:=x.m.dr+ (t - V.length:Nat)}}:=Y;have ag:aq O O.drew:=(aE.refl O).drew;have c2:=Y.hr id y dp;have ga:=oy.2.2.2;have gp:=c2.n;refine ⟨aq O.drew,aE.refl _,_,rfl,_,_,_,fun v gv=>bp (Y.drew.at.grow gv) rfl,_,_,_,fun v gv=>ad (dk.grow (ag.trans gv)) rfl,(je (c2.v.grow ag) c2.n (by omega)).mono ?_⟩;rintro e g1 ⟨q9,d9,rfl,o9,g9,f9⟩;refine ⟨_,_,_,rfl,g9,fun gV b9 aT=> ?_⟩;have az:=g9.trans aT.mod;refine ⟨az,?_⟩;have e6:=Y.drew.new az 9;have ay:Kp w0 O b9 an (jf an O.drew.heap.size 9):=(jA.grow ag).trans (jA.new az 9);have ar:=(ac.grow ag).grow az;have bx:=ay.lb bY ac.lt;have ro:RO b9 (jf an O.drew.heap.size 9) ⟨q9,y.c.length,d9⟩ y.c:=⟨rfl,(o9.grow aT.mod).vw,fun k hk=> ⟨hJ (f9 k hk),Nat.lt_of_lt_of_le (o9.lt k hk) aT.mod.size⟩⟩
     have ei:=D.pl;have eg:=D.le;refine D_ e6 (by show U.length<=_;omega) true ro aT.has fun d8 ey q' a7 b'=> ?_;have cc:Kp w0 b9 d8 (jf an O.drew.heap.size 9) ey:=b'.sj fun i e=>by rcases e with rfl|rfl<;>decide
     have cg:=b'.row ar fun b hb e=>by rw [(bx b hb).1] at e;rcases e with e|e<;>exact absurd e (by decide)
     have bk:=b'.lb bx ar.lt;refine ⟨_,rfl,_,bp a7.at rfl,_,rfl,?_⟩;have ew:IntKind.i64.wrap (x.m.dr+ (t - V.length:Nat)+1)=x.m.dr+ (t+1 - V.length:Nat):=by rw [aB (by omega) (by omega)];omega
     show ∃el,af _ 0 [.int .i64 (IntKind.i64.wrap (x.m.dr+ (t - V.length:Nat)+1))] d8 el/\_;rw [ew];refine gC a7.at rfl rfl fun el e8 dT=> ?_;have Q:=a7.own (m':= {x.m with dr:=x.m.dr+ (t+1 - V.length:Nat)}) e8 dT;have kf:=((X.trans ay).trans cc).trans Q.2;have Z:=D.ci;rw [xd r,<- hy,List.map_append,List.map_cons] at Z;have ek:=Z.yv (DS y) (by simp);have d':=Z.drop gd;rw [<- List.map_append] at d';have c3:=cg.keep dT fun b hb (e:b=B)=>by
      have h1:=(bk b hb).1;rw [e,a7.ml.1] at h1;exact absurd h1 (by decide)
     refine ⟨_,?_,t+1,ey,V,s1.drop y.i,U++ [(true,⟨q9,y.c.length,d9⟩,y.c)],q',wN (by omega) (by omega),by omega,rfl,rfl,⟨c3,bk,Q.1,J.kp.trans kf,d',by rw [HF];exact D.nc,Ff D.ci.g gd D.ci.v D.hi,D.sub,?_,by omega,?_,?_,?_,?_,D.z,Ig D.ct ax⟩⟩
     . omega
     . rw [List.length_append,List.length_singleton];omega
     . exact (((ay.trans cc).trans Q.2).vw a_ av)
     . exact (((ay.trans cc).trans Q.2).r9 av)
     . rw [ut (.inr rfl)];exact D.be
     . have:=D.pf.drop (by rw [D.ci.v,show s1.R (.a y.i)=y.c from ek.2.2];exact Z.ok _ (List.mem_append_left _ (List.mem_map_of_mem (f:=(·.2)) (a:=DS y) (by simp)))) eT;rw [List.map_append];rw [show s1.R (.a y.i)=y.c from ek.2.2] at this;exact this
 . have r:t=I.length:=by simp at r;omega
   subst r;have Z:=D.ci;rw [List.drop_length,List.append_nil] at Z;have e7: ∀k,L1 k≠0->(fun k=>if aI p=some k then 5 else L1 k) k=L1 k:=fun k hk=>by
    show (if aI p=some k then 5 else L1 k)=L1 k;rw [if_neg fun e=>hk (D.fr k e).1]
   have SS:=D.sr.uv e7;have eb: ∀b,aI p=some b->(fun k=>if aI p=some k then 5 else L1 k) b=5/\w0.heap.size<=b:=fun b hb=> ⟨by show (if aI p=some b then 5 else L1 b)=5;rw [if_pos hb],by have:=(D.fr b hb).2;have:=D.z;omega⟩
   refine ⟨_,rfl,?_⟩;refine bZ SS.at rfl rfl fun fL dc es=> ?_;have Q:=SS.swap (q:=⟨p,V.length,c⟩) (hv':=V) D.row rfl eb (fun v hv=>SS.hr id v (D.sub v hv)) dc es;refine ⟨_,rfl,_,ad Q.1.at rfl,_,rfl,?_⟩;refine bZ Q.1.at rfl rfl fun fs d4 ed=> ?_;have Q2:=Q.1.own (m':= {x.m with dr:=x.m.dr+ (I.length - V.length:Nat),bB:=jI (IntKind.i64.wrap (x.m.bB+1)) 100}) d4 ed;have eg:=D.le;have ei:=D.pl;have kr:Kp w0 w u L (fun k=>if aI p=some k then 5 else L1 k):=⟨D.kp.mod,fun k hk=>by
    show (if aI p=some k then 5 else L1 k)=L k;rw [if_neg fun e=>by have:=(D.fr k e).2;omega];exact D.kp.yx k hk⟩
   refine ⟨rfl,_,s1,V,_,U,aa,_,(kr.trans Q.2).trans Q2.2,Q2.1,Z,D.hi,D.nc,fun v hv=>ez v (D.sub v hv),by omega,by omega,D.be,D.pf,by omega,by omega,by
    have c1:=D.ct;rw [<- dq,List.take_length] at c1;have:=A.len;omega⟩
end
section
variable {s t s':aG} {l:List Int} {x:Int} {i j N β bl:Nat}
def KV (N p:Nat):Nat:=2 ^ (N - 1 - p) / 2
def KW (N:Nat) (be:List Int):Nat:=(be.map fun p=>KV N p.toNat).sum
def bt (s:aG):Nat:=KW s.vars (s.R .be)+ (2 ^ (s.vars - 1 - (s.R .tr).length) - 1)
def M0 (s:aG):Prop:=dM s\/∃i,sU s i
def uW (s:aG) (β:Nat):Prop:= ∀s',iq s s'->aM s'->M0 s'->bt s'<=β
theorem uW.run (h:uW s β) (e:iq s s'):uW s' β:=fun u I=>h u (e.trans I)
theorem uW.fI (h:uW s β) (g:aM s) (f:M0 s):bt s<=β:=h s (iq.refl s) g f
theorem uW.zero (h:s.R .be= []) (hv:s.vars=N):uW s (2 ^ (N - 1) - 1):=by
 intro u e g f;unfold bt;rw [e.be,h,e.v,hv];have:2 ^ (N - 1 - (u.R .tr).length)<=2 ^ (N - 1):=Nat.pow_le_pow_right (by omega) (by omega);show 0+_<=_;omega
theorem uW.decide (h:bt s<=β):uW (s.decide x) β:=by
 intro u e V _;obtain ⟨k,Q⟩:=e.tr;have I:=e.be;have ev:u.vars=s.vars:=e.v;rw [ry] at Q;rw [ot] at I;have hl:=V.xh;have hlen:(u.R .tr).length=(s.R .tr).length+1+k.length:=by rw [Q];simp;omega
 unfold bt at h ⊢;unfold KW at h ⊢;rw [I,ev,List.map_append,List.sum_append];simp only [List.map_cons,List.map_nil,List.sum_cons,List.sum_nil,Int.toNat_natCast];rw [ev] at hl;generalize (s.R .tr).length=T at*
 generalize (u.R .tr).length=J at*
 generalize (List.map (fun p=>KV s.vars p.toNat) (s.R .be)).sum=A at*
 unfold KV;rcases Nat.eq_zero_or_pos (s.vars - 1 - T) with e0|e0
 . rw [e0] at h ⊢;rw [show s.vars - 1 - J=0 by omega];simpa using h
 . obtain ⟨m,hm⟩: ∃m,s.vars - 1 - T=m+1:=⟨s.vars - 1 - T - 1,by omega⟩
   have Y:2 ^ (s.vars - 1 - J)<=2 ^ m:=Nat.pow_le_pow_right (by omega) (by omega);have X:2 ^ (s.vars - 1 - T)=2*2 ^ m:=by rw [hm,Nat.pow_succ,Nat.mul_comm]
   have O:=Nat.two_pow_pos m;rw [X] at h ⊢;have U:2*2 ^ m / 2=2 ^ m:=by omega
   rw [U];omega
theorem Fa (N:Nat) {be:List Int} {k:Nat} (h:k<be.length):KW N (be.take k)+KV N (be.getD k 0).toNat<=KW N be:=by
 have e:be=be.take k++be.getD k 0::be.drop (k+1):=by
  have h1:=List.take_append_drop k be;rw [List.drop_eq_getElem_cons h] at h1;rw [<- h1];simp [List.getD,h]
 unfold KW
 conv=>rhs;rw [e]
 rw [List.map_append,List.sum_append,List.map_cons,List.sum_cons];omega
theorem Ib (g:aM s) (b:yz s) (I:sU s i) (hl:0< (s.R .be).length):((s.R .be).getD ((s.R .be).length - 1) 0).toNat+2<=(s.R .tr).length:=by
 have V:(s.R .be).length - 1< (s.R .be).length:=by omega
 have hb:=g.bl _ V;refine Classical.byContradiction fun hn=> ?_;have bS: ∀z,z∈s.R .tr->z ∉ s.cP ((s.R .be).length - 1)->z=(s.R .tr).getD ((s.R .be).getD ((s.R .be).length - 1) 0).toNat 0:=by
  intro z O hp;obtain ⟨p,h1,U⟩:=vQ O;have: ¬p< ((s.R .be).getD ((s.R .be).length - 1) 0).toNat:=fun h=>hp (yB.2 ⟨p,h,h1,U⟩);rw [<- U];congr 1;omega
 rcases b _ V i I.1 with ⟨y,J,Q⟩| ⟨y,J,z,O,X,_,b1,_,b2⟩
 . exact gh g (I.2 y J) (List.mem_of_mem_take Q)
 . have:=bS _ (I.2 y J) b1;have:=bS _ (I.2 z O) b2;omega
theorem uW.El (g:aM s) (b:yz s) (hB:sU s i) (k:LS s l bl) (h:uW s β) (ha:jT (s.bC bl) l s'):1<=β/\uW s' (β - 1):=by
 have I:=k.lt;have aF:=Ib g b hB (by omega);have bv:(s.R .be).getD bl 0<=(s.R .be).getD ((s.R .be).length - 1) 0:=by
  by_cases e:bl=(s.R .be).length - 1
  . rw [e];exact Int.le_refl _
  . exact Int.le_of_lt (g.bs bl _ (by omega) (by omega))
 have hb:=g.bl bl I;have a6:=g.xh;obtain ⟨p,hp⟩: ∃p,p=((s.R .be).getD bl 0).toNat:=⟨_,rfl⟩
 have bk:p+2<=s.vars:=by omega
 have hs:=h.fI g (.inr ⟨i,hB⟩);have ht:=Fa s.vars I;rw [<- hp] at ht;obtain ⟨m,hm⟩: ∃m,s.vars - 1 - p=m+1:=⟨s.vars - 1 - p - 1,by omega⟩
 have hE:KV s.vars p=2 ^ m:=by unfold KV;rw [hm,Nat.pow_succ];omega
 have az:=Nat.two_pow_pos m;have a_:KW s.vars (s.R .be)<=β:=Nat.le_trans (Nat.le_add_right _ _) hs;refine ⟨by omega,?_⟩;intro u e gu J;have ev:u.vars=s.vars:=by rw [e.v,ha.v];rfl
 have eb:u.R .be=(s.R .be).take bl:=by rw [e.be,ha.be,qa]
 obtain ⟨q,hq⟩:=e.tr;rw [ha.tr] at hq;have Y:(s.bC bl).R .tr=s.cP bl:=xm;rw [Y] at hq;have ag:(s.cP bl).length=p:=by unfold aG.cP;rw [List.length_take];omega
 have enc:(s.bC bl).nc=s.nc:=rfl;have grow:q≠[]:=by
  intro e0;rw [e0,List.append_nil] at hq;obtain ⟨x0,V,l0,aw⟩:=k.lS;have an:u.R (.a s.nc)=l:=by rw [e.a,ha.a,enc,if_pos rfl]
  rcases J with J| ⟨X,J⟩
  . have th:u.aQ s.nc:=e.mB.2 ⟨by rw [ha.n,enc];omega,by rw [ha.g,enc,if_pos rfl]⟩;rcases J _ th with ⟨x,U,Z⟩| ⟨x,U,y,Q,O,v1,v2⟩
    . rw [an] at U;rw [hq] at Z;exact gh g (k.ft x U) (List.mem_of_mem_take Z)
    . rw [an] at U Q;have qD: ∀z∈l,dR u.vars z:=fun z hz=>by rw [ev];exact k.qD g hz
      have n1:=(kQ gu (qD x U) v1).2;have n2:=(kQ gu (qD y Q) v2).2;rw [hq] at n1 n2;have key: ∀z∈l,-z ∉ s.cP bl->z=x0:=fun z hz hn=>by
       refine Classical.byContradiction fun O=>hn ((oQ g (k.ft z hz) I).2 (aw z hz O))
      exact O ((key x U n1).trans (key y Q n2).symm)
  . by_cases e2:X=s.nc
    . subst e2;have h1:=J.2 x0 (by rw [an];exact V);rw [hq] at h1;have:=(oQ g (k.ft x0 V) I).1 h1;omega
    . have th:=e.mB.1 J.1;have ay:s.aQ X:=by
       refine ⟨?_,?_⟩
       . have:=th.1;rw [ha.n,enc] at this;omega
       . have:=th.2;rw [ha.g,enc,if_neg e2] at this;exact this
      have ea:u.R (.a X)=s.R (.a X):=by rw [e.a,ha.a,enc,if_neg e2,lI]
      have f2:=J.2;rw [ea,hq] at f2;rcases b bl I X ay with ⟨y,Q,ar⟩| ⟨y,Q,_,_,_,_,b1,_,_⟩
      . exact gh gu (x:=y) (by rw [hq];exact f2 y Q) (by rw [hq];exact ar)
      . exact b1 (f2 y Q)
 have hT:p+1<=(u.R .tr).length:=by
  rw [hq,List.length_append,ag];have:=List.length_pos_iff.2 grow;omega
 have h2:2 ^ (s.vars - 1 - (u.R .tr).length)<=2 ^ m:=Nat.pow_le_pow_right (by omega) (by omega);unfold bt;rw [ev,eb];omega
end
end Go.Proofs.YtenmibfmhccmiaaGreat.W
namespace Go.PotP
open Go.Luby
theorem zA {a b:Nat} (h:a<=b):Luby.sum a<=Luby.sum b:=by
 induction h with
 |refl=>exact Nat.le_refl _
 |step _ ih=>exact Nat.le_trans ih (by show _<=Luby.sum _+ig _;omega)
theorem yU {a:Nat} (h:1<=a):Luby.sum a=Luby.sum (a - 1)+ig a:=by
 obtain ⟨b,rfl⟩: ∃b,a=b+1:=⟨a - 1,by omega⟩
 rfl
theorem FZ (k:Nat): ∀a,1<=a->∃j,a<=j/\2 ^ k<=ig j/\Luby.sum (j - 1)<=Luby.sum (a - 1)+k*2 ^ k:=by
 intro a
 induction a using Nat.strongRecOn with
 |_ a ih=>
  intro h1;have hk:=Nat.two_pow_pos k;have Q:=dO k;by_cases e:a<=2 ^ (k+1) - 1
  . refine ⟨2 ^ (k+1) - 1,e,by rw [iW];exact Nat.le_refl _,?_⟩;have Y:=zC (k+1);have h3:=yU (a:=2 ^ (k+1) - 1) (by omega);rw [iW,Y] at h3;have h4:(k+1)*2 ^ (k+1) / 2=k*2 ^ k+2 ^ k:=by
     rw [Q,Nat.mul_left_comm,Nat.mul_div_cancel_left _ (by omega),Nat.add_mul,Nat.one_mul]
    omega
  . obtain ⟨m,hm⟩: ∃m,bl a=m+1:=⟨bl a - 1,by have:=(qr (n:=a) (by omega)).1;omega⟩
    have b1:=zR a;have b2:=(qr (n:=a) (by omega)).2;rw [hm] at b1 b2;rw [Nat.add_sub_cancel] at b2;have ar:=dO m;have O:k+1<=m:=by
     refine Classical.byContradiction fun hn=> ?_;have:2 ^ (m+1)<=2 ^ (k+1):=Nat.pow_le_pow_right (by omega) (by omega);omega
    have ac:2 ^ (k+1)<=2 ^ m:=Nat.pow_le_pow_right (by omega) O;by_cases Z:a=2 ^ (m+1) - 1
    . refine ⟨a,Nat.le_refl _,?_,by omega⟩;rw [Z,iW];omega
    . obtain ⟨i,hi⟩: ∃i,i=a - (2 ^ m - 1):=⟨_,rfl⟩
      obtain ⟨U,X,g2,V⟩:=ih i (by omega) (by omega);have J:ig (2 ^ m - 1)=2 ^ (m - 1):=by
       have:=iW (m - 1)
       rwa [show m - 1+1=m by omega] at this
      obtain ⟨I,q1,q2,q3,q4⟩: ∃I,i<=I/\I<=2 ^ m - 1/\2 ^ k<=ig I/\Luby.sum (I - 1)<=Luby.sum (i - 1)+k*2 ^ k:=by
       by_cases e3:U<=2 ^ m - 1
       . exact ⟨U,X,e3,g2,V⟩
       . refine ⟨2 ^ m - 1,by omega,Nat.le_refl _,?_,Nat.le_trans (zA (by omega)) V⟩;rw [J];exact Nat.pow_le_pow_right (by omega) (by omega)
      refine ⟨2 ^ m - 1+I,by omega,by rw [ub (by omega) q2];exact q3,?_⟩;have s1:=mS m (I - 1) (by omega);have s2:=mS m (i - 1) (by omega);rw [show 2 ^ m - 1+I - 1=2 ^ m - 1+ (I - 1) by omega,s1,show a - 1=2 ^ m - 1+ (i - 1) by omega,s2];omega
inductive Tl (D u:Nat):Nat->Nat->Nat->Prop
 |Gr {a l:Nat}:2*D<=u*ig a->Tl D u a l (2*D+l - u*ig a)
 |Cw {a l n:Nat}:u*ig a<2*D->Tl D u (a+1) (u*ig (a+1)) n->Tl D u a l (l+n)
theorem Tl.to {D u j:Nat} (I:2*D<=u*ig j): ∀d a,1<=a->a+d=j->∀l,l<=u*ig a->∃n,Tl D u a l n/\n+u*Luby.sum (a - 1)<=u*Luby.sum (j - 1)+2*D:=by
 intro d
 induction d with
 |zero=>
  intro a h1 e l hl;rw [Nat.add_zero] at e;subst e;exact ⟨_,.Gr I,by omega⟩
 |succ d J=>
  intro a h1 e l hl;by_cases h:2*D<=u*ig a
  . refine ⟨_,.Gr h,?_⟩;have:u*Luby.sum (a - 1)<=u*Luby.sum (j - 1):=Nat.mul_le_mul_left _ (zA (by omega));omega
  . obtain ⟨n,t,b⟩:=J (a+1) (by omega) (by omega) _ (Nat.le_refl _);refine ⟨_,.Cw (by omega) t,?_⟩;have:=yU h1;rw [Nat.add_sub_cancel,this,Nat.mul_add] at b;omega
theorem Tl.ex {D u k:Nat} (h:2*D<=u*2 ^ k) {a l:Nat} (h1:1<=a) (hl:l<=u*ig a): ∃n,Tl D u a l n/\n<=u* (k*2 ^ k)+2*D:=by
 obtain ⟨j,Q,J,O⟩:=FZ k a h1;have I:2*D<=u*ig j:=Nat.le_trans h (Nat.mul_le_mul_left _ J);obtain ⟨n,t,b⟩:=Tl.to I (j - a) a h1 (by omega) l hl;refine ⟨n,t,?_⟩;have:=Nat.mul_le_mul_left u O;rw [Nat.mul_add] at this;omega
def qp (q:Nat->Nat) (w:Nat):Nat:=if w=0 then 0 else q (w - 1)
def MA (q:Nat->Nat):Nat->Nat->Nat
 |0,_=>0
 |d+1,w=> (q (w+1) - q w / 2)+MA q d (w+1)
structure Md (D wB C u M:Nat) (q:Nat->Nat) (w h U a l β r μ:Nat):Prop where
 l1:1<=l
 l2:l<=u*ig a
 a1:1<=a
 p2:min (u*ig a - l) r+β+1<=D
 hq:h<q w
 ph:(w<wB/\μ=(q w - h)+ (M - U)+MA q (wB - 1 - w) w+ (D+C))\/
  (wB<=w/\h<=qp q w+r/\((u*ig a - l<=r+D/\Tl D u a l μ/\μ<=C)\/(r+D<u*ig a - l/\μ=(D - r)+C)))
theorem Md.step {D wB C u M:Nat} {q:Nat->Nat} {w h U a l β r μ:Nat} (hu:1<=u) (hC: ∀a l,1<=a->l<=u*ig a->∃n,Tl D u a l n/\n<=C) (hD: ∀w,wB<=w->D<=q w - qp q w) (bx: ∀w,q w<q (w+1))
 (P:Md D wB C u M q w h U a l β r μ) (hβ:1<=β) {w' h1 h' U' V l' β':Nat} {ag du:Bool}
 (av:(ag=true/\l=1/\V=a+1/\l'=u*ig (a+1))\/(ag=false/\1<l/\V=a/\l'=l - 1))
 (hh:(h1=h+1/\U'=U)\/(h1=h/\U'=U+1/\U'<=M))
 (bb:(du=false/\w'=w/\h'=h1/\h1<q w)\/(du=true/\w'=w+1/\q w<=h1/\h'<=h1/\h1<=2*h'+1))
 (hb:((ag=true\/du=true)/\β'+1=D)\/(ag=false/\du=false/\β'+1=β)):
 ∃r' Y,Md D wB C u M q w' h' U' V l' β' r' Y/\Y+1<=μ:=by
 obtain ⟨l1,l2,a1,p2,hq,ph⟩:=P;have a_:1<=u*ig (a+1):=Nat.le_trans (by omega) (Nat.mul_le_mul hu (GH (a+1)));have p3:min (u*ig a - l+1) (r+1)+1<=D:=by omega
 have b3:1<=l'/\l'<=u*ig V/\1<=V/\(u*ig V - l'=0\/(ag=false/\u*ig V - l'=u*ig a - l+1)):=by
  rcases av with ⟨_,_,rfl,rfl⟩| ⟨e,e1,rfl,rfl⟩
  . exact ⟨a_,Nat.le_refl _,by omega,.inl (Nat.sub_self _)⟩
  . exact ⟨by omega,by omega,a1,.inr ⟨e,by omega⟩⟩
 obtain ⟨Q,O,J,X⟩:=b3;obtain ⟨n0,T0,C0⟩:=hC V l' J O;have ax:u*ig a - l+1<2*D->Tl D u a l μ->μ<=C->∃Y,Tl D u V l' Y/\Y<=C/\Y+1<=μ:=by
  intro ht T hc;rcases av with ⟨_,e1,rfl,rfl⟩| ⟨_,e1,rfl,rfl⟩
  . cases T with
    |Gr h2=>omega
    |Cw h2 T2=>exact ⟨_,T2,by omega,by omega⟩
  . cases T with
    |Gr h2=>
     refine ⟨_,.Gr h2,?_,?_⟩<;>omega
    |Cw h2 T2=>exact ⟨_,.Cw h2 T2,by omega,by omega⟩
 rcases bb with ⟨d0,rfl,rfl,Z⟩| ⟨d0,rfl,b7,b9,a8⟩
 . have I:min (u*ig V - l') (r+1)+β'+1<=D:=by
    rcases hb with ⟨hr,hb⟩| ⟨e1,_,hb⟩
    . rcases X with e| ⟨e,_⟩
      . omega
      . rcases hr with hr|hr
        . rw [e] at hr;cases hr
        . rw [d0] at hr;cases hr
    . rcases X with e| ⟨_,e⟩<;>omega
   rcases ph with ⟨hw,hμ⟩| ⟨hw,bY,⟨ht,T,hc⟩| ⟨ht,hμ⟩⟩
   . refine ⟨r+1,_,⟨Q,O,J,I,Z,.inl ⟨hw,rfl⟩⟩,?_⟩;omega
   . obtain ⟨Y,T',c',m'⟩:=ax (by omega) T hc;refine ⟨r+1,Y,⟨Q,O,J,I,Z,.inr ⟨hw,by omega,.inl ⟨?_,T',c'⟩⟩⟩,m'⟩;rcases X with e| ⟨_,e⟩<;>omega
   . rcases X with e| ⟨_,e⟩
     . exact ⟨r+1,n0,⟨Q,O,J,I,Z,.inr ⟨hw,by omega,.inl ⟨by omega,T0,C0⟩⟩⟩,by omega⟩
     . exact ⟨r+1,(D - (r+1))+C,⟨Q,O,J,I,Z,.inr ⟨hw,by omega,.inr ⟨by omega,rfl⟩⟩⟩,by omega⟩
 . have b8:β'+1=D:=by
    rcases hb with ⟨_,hb⟩| ⟨_,e,_⟩
    . exact hb
    . rw [d0] at e;cases e
   have I:min (u*ig V - l') 0+β'+1<=D:=by omega
   have aa:h'<q (w+1):=by have:=bx w;omega
   have b_:q w<=h+1:=by omega
   have cb:qp q (w+1)=q w:=rfl;rcases ph with ⟨hw,hμ⟩| ⟨hw,bY,ph⟩
   . by_cases bk:w+1<wB
     . refine ⟨0,_,⟨Q,O,J,I,aa,.inl ⟨bk,rfl⟩⟩,?_⟩;rw [show wB - 1 - w=(wB - 1 - (w+1))+1 by omega] at hμ;simp only [MA] at hμ;omega
     . rw [show wB - 1 - w=0 by omega] at hμ;simp only [MA] at hμ;by_cases ht:u*ig V - l'<=0+D
       . exact ⟨0,n0,⟨Q,O,J,I,aa,.inr ⟨by omega,by omega,.inl ⟨ht,T0,C0⟩⟩⟩,by omega⟩
       . exact ⟨0,(D - 0)+C,⟨Q,O,J,I,aa,.inr ⟨by omega,by omega,.inr ⟨by omega,rfl⟩⟩⟩,by omega⟩
   . have b6:=hD w hw;rcases ph with ⟨ht,T,hc⟩| ⟨ht,hμ⟩
     . obtain ⟨Y,T',c',m'⟩:=ax (by omega) T hc;refine ⟨0,Y,⟨Q,O,J,I,aa,.inr ⟨by omega,by omega,.inl ⟨?_,T',c'⟩⟩⟩,m'⟩;rcases X with e| ⟨_,e⟩<;>omega
     . omega
end Go.PotP
namespace Go.Proofs.YtenmibfmhccmiaaGreat.W
open Go Go.Fw Go.RowKit Go.SoP Go.LiP Go.LeP
open Go.IntKind (i64)
section
variable {w0 w w' w1 w2 u:World} {B N i:Nat} {L L' L1:Nat->Nat} {x:Xs} {l:List Int} {cs:List (List Int)} {hv:List (Nat × List Int)} {un:List (List Int)}
theorem SR.MC (h:SR w0 w B L N x) (v:Int):Calls Tryz.prog d_.id #[Hp.ptr x.hb,.int .i64 v] w fun e w'=> ∃r:Int,e= .returned (.int .i64 r)/\∃L',SR w0 w' B L' N x/\Kp w0 w w' L L':=by
 obtain ⟨z,O,z2,z3,z4⟩:=h.hp id;refine (Hp.IR O z2 v).mono ?_;rintro e w' ⟨rfl,y,Y,U,Q,V⟩;have hf:y.bI x.hb=z.bI x.hb:=by
  rw [Q.bI];split
  . split<;>rfl
  . rfl
 have Z: ∀u:Int,1<=u->u<=N->(0<HeapP.g y.at_ u↔x.S u):=fun u I J=>by
  rw [Q.has u I J,<- z3 u I J];split
  . split<;>exact Iff.rfl
  . exact Iff.rfl
 have:=h.heap z4 O.lt Y U (S':=x.S) Z V fun k X=> .inl (by rw [<- hf];exact X);exact ⟨_,rfl,_,this.1,this.2⟩
theorem SR.Lb (h:SR w0 w B L N x):Calls Tryz.prog dJ.id #[Hp.ptr x.hb] w fun e w'=>e= .returned (.tuple #[])/\∃L',SR w0 w' B L' N x/\Kp w0 w w' L L':=by
 obtain ⟨z,J,z2,z3,z4⟩:=h.hp id;refine (Hp.Eu J z2).mono ?_;rintro e w' ⟨rfl,y,Z,U,Q,X⟩;have hf:y.bI x.hb=z.bI x.hb:=by
  rw [Q.bI];split<;>rfl
 have V: ∀u:Int,1<=u->u<=N->(0<HeapP.g y.at_ u↔x.S u):=fun u O I=>by
  rw [Q.has u O I,<- z3 u O I];split<;>exact Iff.rfl
 have:=h.heap z4 J.lt Z U (S':=x.S) V X fun k Y=> .inl (by rw [<- hf];exact Y);exact ⟨rfl,_,this.1,this.2⟩
structure lV (N:Nat) (cs:List (List Int)) (x:Xs):Prop where
 ci:ni N cs x.s (x.hv.map DS) (x.un.map (·.2))
 hi:xW N x.s x.S
 ph:x.ph.length=N+1
 n:x.m.n=N
 Jm: ∀u∈x.hv,Jc u
 bB:0<=x.m.bB/\x.m.bB<=100
 pf:PF cs x.s (x.pr.map GF)
 mo:x.mo= []
theorem lV.own (st:lV N cs x) {m':Me} (h:m'.n=x.m.n/\m'.bB=x.m.bB):lV N cs {x with m:=m'}:=
 ⟨st.ci,st.hi,st.ph,by rw [h.1];exact st.n,st.Jm,by rw [h.2];exact st.bB,st.pf,st.mo⟩
theorem PF.bN {s:aG} {pr:List (Bool × List Int)} (h:PF cs s pr) (bj:Int):PF cs (bN s bj) pr:=by
 unfold Go.Proofs.YtenmibfmhccmiaaGreat.W.bN;split
 . exact h.bC
 . exact h
theorem ni.bN {s:aG} (h:ni N cs s hv un) (bj:Int):ni N cs (bN s bj) hv un:=by
 unfold Go.Proofs.YtenmibfmhccmiaaGreat.W.bN;split
 . exact h.bC (by assumption)
 . exact h
theorem wS {s:aG} {bj:Int}:(bN s bj).nc=s.nc:=by unfold bN;split<;>rfl
theorem u5 {s:aG} {S S':Int->Prop} {bj:Int} (g:aM s) (hv:s.vars=N) (h:xW N s S) (O: ∀v,S v->S' v) (ht: ∀y∈s.R .tr,y ∉ (bN s bj).R .tr->S' (aX y)):xW N (bN s bj) S':=by
 intro v v1 v2 Q;obtain ⟨U,V,ev⟩:=vY (s:=s) bj;have J:dR s.vars v:=⟨by omega,by omega,by omega⟩
 have I:dR (bN s bj).vars v:=by rw [ev];exact J
 obtain ⟨a,b⟩:=(gx (rC g bj) I).1 Q;by_cases m1:v∈s.R .tr
 . have:=ht v m1 a
   rwa [show aX v=v by unfold aX;rw [if_neg (by omega)]] at this
 . by_cases m2: -v∈s.R .tr
   . have:=ht (-v) m2 b
     rwa [oJ,show aX v=v by unfold aX;rw [if_neg (by omega)]] at this
   . exact O v (h v v1 v2 ((gx g J).2 ⟨m1,m2⟩))
theorem lV.bN (st:lV N cs x) {bj:Int} {S':Int->Prop} {I:List Int} (hp:I.length=N+1) (J: ∀v,x.S v->S' v) (ht: ∀y∈x.s.R .tr,y ∉ (bN x.s bj).R .tr->S' (aX y)):lV N cs {x with s:=bN x.s bj,S:=S',ph:=I}:=
 ⟨st.ci.bN bj,u5 st.ci.g st.ci.v st.hi J ht,hp,st.n,st.Jm,st.bB,st.pf.bN bj,st.mo⟩
theorem LP {s':aG} {sl hs us:Sl} {lv:Int}:(x.lrn s' sl l lv hs us).m=x.m:=by unfold Xs.lrn;split<;>rfl
theorem Jj {s':aG} {sl hs us:Sl} {lv:Int}:(x.lrn s' sl l lv hs us).s=s':=by unfold Xs.lrn;split<;>rfl
theorem Kf {s':aG} {sl hs us:Sl} {lv:Int}:(x.lrn s' sl l lv hs us).pr=x.pr:=by unfold Xs.lrn;split<;>rfl
theorem ID {s':aG} {sl hs us:Sl} {lv:Int}:(x.lrn s' sl l lv hs us).hv.length+ (x.lrn s' sl l lv hs us).un.length=x.hv.length+x.un.length+1/\(x.lrn s' sl l lv hs us).hv.length<=x.hv.length+1:=by
 unfold Xs.lrn;split
 . simp;omega
 . simp;omega
theorem KO {s':aG} {sl hs us:Sl} {lv:Int}:((x.lrn s' sl l lv hs us).hv.length=x.hv.length+1/\(x.lrn s' sl l lv hs us).un=x.un)\/((x.lrn s' sl l lv hs us).hv.length=x.hv.length/\∃c:Us,c.2.length<=1/\(x.lrn s' sl l lv hs us).un=x.un++ [c]):=by
 unfold Xs.lrn;split
 . exact .inl ⟨by simp,rfl⟩
 . exact .inr ⟨rfl,(sl,l),by show l.length<=1;omega,rfl⟩
theorem px {s:aG}:(bN s 0).R .be= []:=by
 unfold bN;have e:(max 0 (0:Int)).toNat=0:=rfl;rw [e];split
 . rw [qa];rfl
 . exact List.eq_nil_of_length_eq_zero (by omega)
theorem lV.lrn (st:lV N cs x) {t:aG} {S':Int->Prop} {Q:List Int} {bl:Nat} (k:LS x.s l bl) (f:zK N cs l) (Y:zk x.s l) (ht:t=x.s.bC bl) {s':aG} (ha:jT t l s') (V:aM s') (hp:Q.length=N+1) (hi:xW N t S') {sl hs us q:Sl} {sl2:Sl} {lv:Int} (hl:0<=lv/\lv<=l.length) (Z:l.length<=4096):
 lV N cs ({x with s:=t,S:=S',ph:=Q,ps:=q,pr:=x.pr++ [(false,sl2,l)]}.lrn s' sl l lv hs us):=by
 subst ht;have U:=st.ci.LN k f ha V;have pf:=PF.add st.pf k (by rw [st.ci.v];exact k.KU st.ci) Y ha;have I:xW N s' S':=by
  intro v v1 v2 X;have O:dR s'.vars v:=by rw [U.v];exact ⟨by omega,by omega,by omega⟩
  have hb:dR (x.s.bC bl).vars v:=by
   have:s'.vars=(x.s.bC bl).vars:=ha.v;rw [<- this];exact O
  have:=(gx V O).1 X;rw [ha.tr] at this;exact hi v v1 v2 ((gx (ke st.ci.g k.lt) hb).2 this)
 have J:PF cs s' ((x.pr++ [(false,sl2,l)]).map GF):=by rw [List.map_append];exact pf
 by_cases e:1<l.length
 . unfold Xs.lrn;rw [if_pos e];refine ⟨?_,I,hp,st.n,fun u hu=> ?_,st.bB,J,st.mo⟩
   . have:=U.EY;show ni N cs s' ((x.hv++ [_]).map DS) _;rw [List.map_append];exact this
   . rcases List.mem_append.1 hu with hu|hu
     . exact st.Jm u hu
     . rw [List.mem_singleton] at hu;subst hu;exact ⟨hl.1,hl.2,by show (l.length:Int)<=4096;omega,Z⟩
 . unfold Xs.lrn;rw [if_neg e];refine ⟨?_,I,hp,st.n,st.Jm,st.bB,J,st.mo⟩;have:=U.FM;show ni N cs s' _ ((x.un++ [_]).map _);rw [List.map_append];exact this
def BA (lrn bB:Int) (h:Nat):Prop:=0<Re.jK lrn bB/\Re.jK lrn bB<=(h:Int)
structure Rl (N:Nat) (x x':Xs):Prop where
 nc:x'.s.nc=x.s.nc
 cf:x'.m.cf=x.m.cf
 de:x'.m.de=x.m.de
 re:x'.m.re=x.m.re
 tx:x'.m.tx=x.m.tx
 lrn:x'.m.lrn=x.m.lrn
 jO:x'.m.jO=x.m.jO
 pc:x'.m.pu=x.m.pu/\x'.m.pa=x.m.pa/\x'.m.pl=x.m.pl
 un:x'.un=x.un
 dr:x.m.dr<=x'.m.dr/\x'.m.dr+x'.hv.length=x.m.dr+x.hv.length
 pl:x'.pr.length+x'.hv.length=x.pr.length+x.hv.length
 bz:x.s.R .be= []->x'.s.R .be= []
 hv:(x'.m.bB=x.m.bB/\x'.hv.length=x.hv.length/\x'.s=x.s/\¬BA x.m.lrn x.m.bB x.hv.length)\/
  (x.m.bB<100/\x'.m.bB=x.m.bB+1/\x'.hv.length<=x.hv.length/\x.hv.length<=2*x'.hv.length+1/\BA x.m.lrn x.m.bB x.hv.length/\x'.s.R .be= [])
theorem Jr (h:SR w0 w B L N x) (st:lV N cs x) (hN:N<=1000) (h3:x.hv.length<=1000000) (hq:(x.hv.length:Int)<Re.jK x.m.lrn 100) (a_:x.pr.length<=900000000) (bY:0<=x.m.dr/\x.m.dr<=1000000000) {K:World->Prop}
 (hk: ∀w' L' x',SR w0 w' B L' N x'->Kp w0 w w' L L'->lV N cs x'->Rl N x x'->K w'):
 ∃Y,(some (Addr.mk B 0 none))=some Y/\∃av Q ap,w.drew.cell? (Y.add 11)=some (.slice av Q ap)/\
  ∃a53,(some (Addr.mk B 0 none))=some a53/\∃Z,w.drew.cell? ((a53.add 2).add 2)=some (.int .i64 Z)/\
  ∃a55,(some (Addr.mk B 0 none))=some a55/\∃ar,w.drew.cell? (a55.add 13)=some (.int .i64 ar)/\
  Calls Tryz.prog 131 #[.int .i64 (Q:Int),.int .i64 Z,.int .i64 ar] w.drew fun e J=> ∃V,e= .returned (.bool V)/\
  aH V
  (Calls Tryz.prog 128 #[.pointer (some (Addr.mk B 0 none)),.int .i64 0] J fun e X=>e= .returned (.tuple #[])/\
    Calls Tryz.prog 132 #[.pointer (some (Addr.mk B 0 none))] X fun e aT=>e= .returned (.tuple #[])/\
    K aT)
  (K J):=by
 have D:=h.drew;have az:=(h.hv id).2.1;refine ⟨_,rfl,_,_,_,ad D.at rfl,_,rfl,_,bp D.at rfl,_,rfl,_,ad D.at rfl,(Re.J9 _ _ _ _).mono ?_⟩;rintro e J ⟨rfl,ag⟩;have ac:=D.grow ag;have aa:Kp w0 w J L L:=jA.grow ((aE.refl w).drew.trans ag);refine ⟨_,rfl,ao (fun r=> ?_) (fun r=> ?_)⟩
 . rw [Bool.and_eq_true,decide_eq_true_eq,decide_eq_true_eq,az] at r;refine (uy ac st.ci.g st.ci.v hN st.ph 0).mono ?_;rintro e X ⟨rfl,c1,cp,cm,a7,b8,U,aw,ax⟩;have I:=st.bN U aw ax;have hw:=st.bB;have ay:x.m.bB<100:=by
    refine Classical.byContradiction fun hn=> ?_;have e1:x.m.bB=100:=by omega
    rw [e1] at r;omega
   refine ⟨rfl,(GC a7 I.ci I.hi (by show x.hv.length<=_;omega) a_ I.Jm bY I.pf).mono ?_⟩;rintro e aT ⟨rfl,c2,cT,cb,cc,b9,ce,cg,a',b4,bk,bb,b7,b5,bx,an,O,a6,b3,a8,bv⟩;have ew:jI (i64.wrap (x.m.bB+1)) 100=x.m.bB+1:=by
    rw [aB (by omega) (by omega)];unfold jI;rw [if_neg (by omega)]
   refine ⟨rfl,hk _ _ _ b4 ((aa.trans b8).trans a') ⟨bk,bb,U,st.n,b5,?_,a6,st.mo⟩ ⟨?_,rfl,rfl,rfl,rfl,rfl,rfl,⟨rfl,rfl,rfl⟩,rfl,⟨b3,a8⟩,bx,fun _=>O.trans px,.inr ⟨ay,ew,an,bv,r,O.trans px⟩⟩⟩
   . show 0<=jI (i64.wrap (x.m.bB+1)) 100/\jI (i64.wrap (x.m.bB+1)) 100<=100;rw [ew];omega
   . rw [b7];exact wS
 . rw [<- Bool.not_eq_true,Bool.and_eq_true,decide_eq_true_eq,decide_eq_true_eq,az] at r;exact hk _ _ _ ac aa st ⟨rfl,rfl,rfl,rfl,rfl,rfl,rfl,⟨rfl,rfl,rfl⟩,rfl,⟨Int.le_refl _,rfl⟩,rfl,id,.inl ⟨rfl,rfl,rfl,r⟩⟩
end
section
variable {w0 w w' w1 w2 u:World} {B N i:Nat} {L L' L1:Nat->Nat} {x:Xs} {l:List Int} {cs:List (List Int)} {hv:List (Nat × List Int)} {un:List (List Int)}
structure MH (N:Nat) (x x':Xs):Prop where
 nc:x'.s.nc=x.s.nc+1
 cf:x'.m.cf=x.m.cf+1
 de:x'.m.de=x.m.de
 re:x'.m.re=x.m.re\/x'.m.re=x.m.re+1
 tx:x'.m.tx=x.m.tx
 lrn:x'.m.lrn=x.m.lrn
 jO:x'.m.jO=x.m.jO
 dr:x.m.dr<=x'.m.dr/\x'.m.dr+x'.hv.length<=x.m.dr+x.hv.length+1
 pl:x'.pr.length+x'.hv.length<=x.pr.length+x.hv.length+2
 pc:x'.m.pu=Lu.m_ x.m.pu x.m.pa x.m.pl/\x'.m.pa=Lu.jU x.m.pu x.m.pa x.m.pl/\x'.m.pl=Lu.mf x.m.pu x.m.pa x.m.pl
 ch: ∃h1:Nat,((h1=x.hv.length+1/\x'.un=x.un)\/(h1=x.hv.length/\∃c:Us,c.2.length<=1/\x'.un=x.un++ [c]))/\
  ((x'.m.bB=x.m.bB/\x'.hv.length=h1/\¬BA x.m.lrn x.m.bB h1)\/(x.m.bB<100/\x'.m.bB=x.m.bB+1/\x'.hv.length<=h1/\h1<=2*x'.hv.length+1/\BA x.m.lrn x.m.bB h1))
 bz:Lu.mi x.m.pu x.m.pa x.m.pl=true\/x'.m.bB=x.m.bB+1->x'.s.R .be= []
 rb: ∀β,uW x.s β->1<=β/\(Lu.mi x.m.pu x.m.pa x.m.pl=false->x'.m.bB=x.m.bB->uW x'.s (β - 1))
theorem yT (h:SR w0 w B L N x) (st:lV N cs x) (hN:N<=1000) (h3:x.hv.length<=900000/\x.un.length<=900000) (hq:((x.hv.length+1:Nat):Int)<Re.jK x.m.lrn 100) (hB:sU x.s i) (hl:0< (x.s.R .be).length) (gc:x.s.nc<262144) (g':0<=x.m.cf/\x.m.cf<=1000000000) (hj:0<=x.m.re/\x.m.re<=1000000000) (hP:x.pr.length<=800000000) (fs:0<=x.m.dr/\x.m.dr<=1000000000):
 Calls Tryz.prog bH.id #[bR B,.int .i64 i] w fun e w'=>e= .returned (.tuple #[])/\∃L' J,SR w0 w' B L' N J/\Kp w0 w w' L L'/\lV N cs J/\MH N x J:=by
 have g:=st.ci.g;refine bH.ah ⟨_,rfl,_,bp h.at rfl,_,rfl,?_⟩;have fo:i64.wrap (x.m.cf+1)=x.m.cf+1:=aB (by omega) (by omega);rw [fo];refine gC h.at rfl rfl fun w4 h4 m4=> ?_;obtain ⟨S4,k4⟩:=h.own (m':= {x.m with cf:=x.m.cf+1}) h4 m4;refine ⟨_,rfl,_,ad S4.at rfl,(S4.Fx g i).mono ?_⟩;rintro e w7 ⟨q8,d8,rfl,o8,g7,f8⟩;have gu:x.s.is (i:Int)=true:=aG.yg.2 ⟨by omega,by rw [Int.toNat_natCast];exact hB.1⟩;have ec:aG.is {x with m:= {x.m with cf:=x.m.cf+1}}.s (i:Int)=true:=gu;rw [ec,if_pos rfl,Int.toNat_natCast] at o8 ⊢;have o8:eC aC w7 q8 d8 (x.s.R (.a i)):=o8;obtain ⟨bk,a'⟩: ∃bk,bk=x.s.R (.a i):=⟨_,rfl⟩
 have gm:=g.al i;rw [<- a'] at o8 gm;show ∃hd g9 hW r9,Ending.returned (.tuple #[.slice q8 (x.s.R (.a i)).length d8,.bool true])=_/\_;rw [<- a'];refine ⟨_,_,_,_,rfl,?_⟩;have S7:=S4.new g7 9;have k7:Kp w0 w4 w7 L (jf L w4.heap.size 9):=jA.new g7 9;have vb:Vw (Value.int .i64) w7 q8 (x.s.R (.a i)):=by rw [<- a'];exact o8.vw
 have gV:ni N cs ({x with m:= {x.m with cf:=x.m.cf+1}}:Xs).s (x.hv.map DS) (x.un.map (·.2)):=st.ci;refine (Gk S7 gV hN hB hl vb (by rw [a'])).mono ?_;rintro e ap ⟨q,d,l,bl,lv,rfl,ol,fl,ay,Ls,Fl,fv,f',f0⟩;have Ls:LS x.s l bl:=Ls;refine ⟨_,_,_,_,_,rfl,?_⟩;obtain ⟨eL,fP⟩:SR w0 ap B _ N _/\Kp w0 w7 ap _ _:=⟨S7.new ay 9,jA.new ay 9⟩
 have du:RO ap (jf (jf L w4.heap.size 9) w7.heap.size 9) ⟨q,l.length,d⟩ l:=⟨rfl,ol.vw,fun k hk=> ⟨hJ (fl k hk),ol.lt k hk⟩⟩
 have c0:=Ls.KU st.ci;have cb:l.length<=4096:=by
  have h1:=md (n:=N+1) (l:=l.map aX) ?_ fun y hy=> ?_
  . simp at h1;omega
  . unfold List.Nodup;rw [List.pairwise_map];refine List.Pairwise.imp_of_mem (fun {a b} ha hb fa e=> ?_) Ls.nd;rcases xv e with e|e
    . exact fa e
    . exact c0.nt b hb (by rw [<- e];exact ha)
  . obtain ⟨z,hz,rfl⟩:=List.mem_map.1 hy;have:=(c0.qD z hz).aX;omega
 have KU:um x.s.vars l=true:=KQ (by rw [st.ci.v];omega) (fun y hy=>Ls.qD g hy) cb;refine (je (o8.vw.grow ay) rfl (by omega)).mono ?_;rintro e O ⟨fk,h8,rfl,el,bb,f15⟩;refine ⟨_,_,_,rfl,?_⟩;have dc:=eL.new bb 0;have cc:Kp w0 ap O _ (jf (jf (jf L w4.heap.size 9) w7.heap.size 9) ap.heap.size 0):=jA.new bb 0;obtain ⟨I,b3⟩: ∃I,I=jf (jf (jf L w4.heap.size 9) w7.heap.size 9) ap.heap.size 0:=⟨_,rfl⟩
 have V: ∀b,aI fk=some b->I b=0/\w.heap.size<=b:=fun b hb=> ⟨by rw [b3];exact hJ (f15 b hb),by have:=f15 b hb;have:=m4.size;have:=g7.size;have:=ay.size;omega⟩
 rw [<- b3] at dc cc;have hL:=h.g.size;refine el.LI qK (ol.grow bb) rfl rfl fH (by omega) fun ag ar g8 er gP eg g1=> ?_;have d4:aE (fun k=>I k=0/\w0.heap.size<=k) O ag:=gP.mono fun b _ e=> ⟨(V b e).1,by have:=(V b e).2;omega⟩
 obtain ⟨gJ,a6⟩:=dc.MQ (L':=jf I O.heap.size 0) d4 fun _ hk=>cU hk;have a6:Kp w0 O ag I (jf I O.heap.size 0):=a6.sj fun i e=>by rw [e];decide
 have az: ∀b,aI ar=some b->jf I O.heap.size 0 b=0/\w.heap.size<=b:=fun b hb=>by
  rcases eg with rfl|rfl
  . rw [cU (el.lt b hb)];exact V b hb
  . have:=bg hb;have:=m4.size;have:=g7.size;have:=ay.size;have:=bb.size;exact ⟨hJ (by omega),by omega⟩
 obtain ⟨U,aT⟩: ∃U:Nat->Nat,U=fun k=>if aI ar=some k then 9 else jf I O.heap.size 0 k:=⟨_,rfl⟩
 have bx: ∀k,jf I O.heap.size 0 k≠0->U k=jf I O.heap.size 0 k:=fun k hk=>by
  rw [aT];show (if aI ar=some k then 9 else _)=_;rw [if_neg fun e=>hk (az k e).1]
 have gl:=gJ.uv bx;have b6:=(((k4.trans k7).trans fP).trans cc).trans a6;have c1:Kp w0 w ag L U:=⟨b6.mod,fun k hk=>by
  rw [aT];show (if aI ar=some k then 9 else _)=_;rw [if_neg fun e=>by have:=(az k e).2;omega];exact b6.yx k hk⟩
 have dT:RO ag U ⟨q,l.length,d⟩ l:=((cc.trans a6).ro du).uv bx;have ei:R9 ag U ar:=⟨fun k hk=> ⟨by rw [aT];show (if aI ar=some k then 9 else _)=9;rw [if_pos hk],er.lt k hk⟩⟩
 have dk:=er.vw;have c2:(bk++l).length<=10000:=by rw [List.length_append];omega
 generalize bk++l=m at dk c2 ⊢;refine ⟨fun v u z=> ∃ (t:Nat) (L1:Nat->Nat),v=t/\t<=m.length/\z=m.length - t/\SR w0 u B L1 N {x with m:= {x.m with cf:=x.m.cf+1}}/\Kp w0 ag u U L1,⟨_,0,U,rfl,Nat.zero_le _,rfl,gl,Kp.refl⟩,?_⟩;rintro v u z _ ⟨t,L1,rfl,ht,rfl,SS,kk⟩;refine ao (fun r=> ?_) (fun r=> ?_)
 . have r:t<m.length:=by simp at r;omega
   refine (kk.vw dk ei).ix 0 (by omega) rfl (by omega) fun a ha=> ⟨_,ha,_,rfl,_,ad SS.at rfl,(SS.MC _).mono ?_⟩
   rintro e h_ ⟨hF,rfl,fd,gS,gn⟩;refine ⟨_,rfl,_,?_,t+1,fd,wN (by omega) (by omega),by omega,rfl,gS,kk.trans gn⟩;omega
 clear r;refine ⟨_,rfl,_,ad SS.at rfl,SS.Lb.mono ?_⟩;rintro e hO ⟨rfl,hY,gy,d'⟩;refine ⟨rfl,?_⟩;have b7:=(kk.trans d').ro dT;refine (CR gy (by show x.pr.length<=_;omega) b7.v rfl (by omega)).mono ?_;rintro e g6 ⟨rfl,hT,ax,Q,eA,ek⟩;have c3:=ek.ro b7;have eR:imax 0 (bl:Int)=bl:=by unfold imax;split<;>omega
 rw [eR];refine ⟨rfl,(uy eA g st.ci.v hN st.ph bl).mono ?_⟩;rintro e gv ⟨rfl,fL,S',bv,a7,dd,cm,ef,ea⟩;have dp:=dd.ro c3;have eb:bN x.s bl=x.s.bC bl:=by
  unfold bN;have e1:(max 0 (bl:Int)).toNat=bl:=by omega
  rw [e1,if_pos Ls.lt]
 have a7:SR w0 gv B fL N {x with m:= {x.m with cf:=x.m.cf+1},ps:=ax,pr:=x.pr++ [(false,Q,l)],s:=bN x.s bl,S:=S',ph:=bv}:=a7;have b5:xW N (bN x.s bl) S':=u5 g st.ci.v st.hi ef ea;rw [eb] at a7 b5;have gb:=ke g Ls.lt;refine ⟨rfl,(Hd a7 gb gc KU dp cb lv (by show x.hv.length<=_;omega) (by show x.un.length<=_;omega)).mono ?_⟩;rintro e f1 ⟨rfl,fq,s',hs,us,ac,fi,ez,ha⟩;have ha:jT (x.s.bC bl) l s':=ha;have Y:=(st.own (m':= {x.m with cf:=x.m.cf+1}) ⟨rfl,rfl⟩).lrn (q:=ax) (sl2:=Q) (sl:=⟨q,l.length,d⟩) (hs:=hs) (us:=us) Ls Fl fv rfl ha ez cm b5 ⟨f',f0⟩ cb;have cT:=(((((c1.trans kk).trans d').trans ek).trans dd).trans fi)
 have fb:({x with m:= {x.m with cf:=x.m.cf+1},ps:=ax,pr:=x.pr++ [(false,Q,l)],s:=x.s.bC bl,S:=S',ph:=bv}:Xs).lrn s' ⟨q,l.length,d⟩ l lv hs us=({x with m:= {x.m with cf:=x.m.cf+1},ps:=ax,pr:=x.pr++ [(false,Q,l)],s:=x.s.bC bl,S:=S',ph:=bv}:Xs).lrn s' ⟨q,l.length,d⟩ l lv hs us:=rfl;obtain ⟨y,hy⟩: ∃y,y=({x with m:= {x.m with cf:=x.m.cf+1},ps:=ax,pr:=x.pr++ [(false,Q,l)],s:=x.s.bC bl,S:=S',ph:=bv}:Xs).lrn s' ⟨q,l.length,d⟩ l lv hs us:=⟨_,rfl⟩
 have Z:y.m= {x.m with cf:=x.m.cf+1}:=by rw [hy];exact LP
 have ys:y.s.nc=x.s.nc+1:=by rw [hy,Jj];exact ha.n
 have yp:y.pr.length=x.pr.length+1:=by rw [hy,Kf];simp
 have yl:y.hv.length+y.un.length=x.hv.length+x.un.length+1/\y.hv.length<=x.hv.length+1:=by rw [hy];exact ID
 have ac:SR w0 f1 B fq N y:=by rw [hy];exact ac
 have Y:lV N cs y:=by rw [hy];exact Y
 have yc:(y.hv.length=x.hv.length+1/\y.un=x.un)\/(y.hv.length=x.hv.length/\∃c:Us,c.2.length<=1/\y.un=x.un++ [c]):=by rw [hy];exact KO
 have yr: ∀β,uW x.s β->1<=β/\uW y.s (β - 1):=fun β hb=>by rw [hy,Jj];exact hb.El g st.ci.En hB Ls ha
 clear hy fb;refine ⟨rfl,_,rfl,_,_,_,⟨bp ac.at rfl,bp ac.at rfl,bp ac.at rfl,trivial⟩,(Lu.Dx _ _ _ _).mono ?_⟩;rintro e hK ⟨rfl,cg⟩;refine ⟨_,_,_,_,rfl,_,rfl,?_⟩;have d5:=ac.grow cg;refine bZ d5.at rfl rfl fun hR gf gr=> ?_;obtain ⟨a_,eH⟩:=d5.own (m':= {y.m with pu:=Lu.m_ y.m.pu y.m.pa y.m.pl,pa:=Lu.jU y.m.pu y.m.pa y.m.pl,pl:=Lu.mf y.m.pu y.m.pa y.m.pl}) gf gr;have ep:=Y.own (m':= {y.m with pu:=Lu.m_ y.m.pu y.m.pa y.m.pl,pa:=Lu.jU y.m.pu y.m.pa y.m.pl,pl:=Lu.mf y.m.pu y.m.pa y.m.pl}) ⟨rfl,rfl⟩;have b4:=(cT.trans (jA.grow cg)).trans eH;have dq:(y.hv.length:Int)<Re.jK y.m.lrn 100:=by rw [Z];show (y.hv.length:Int)<Re.jK x.m.lrn 100;omega
 have bY:0<=y.m.dr/\y.m.dr<=1000000000:=by rw [Z];exact fs
 have fI: ∀ {z J:Xs},Rl N z J->lV N cs J->z.m.cf=y.m.cf->z.m.de=y.m.de->(z.m.re=y.m.re\/z.m.re=y.m.re+1)->z.m.tx=y.m.tx->z.m.lrn=y.m.lrn->z.m.jO=y.m.jO->z.m.dr=y.m.dr->z.m.bB=y.m.bB->z.s.nc=y.s.nc->z.hv=y.hv->z.un=y.un->z.pr=y.pr->
  (z.m.pu=Lu.m_ y.m.pu y.m.pa y.m.pl/\z.m.pa=Lu.jU y.m.pu y.m.pa y.m.pl/\z.m.pl=Lu.mf y.m.pu y.m.pa y.m.pl)->((Lu.mi y.m.pu y.m.pa y.m.pl=true/\z.s.R .be= [])\/(Lu.mi y.m.pu y.m.pa y.m.pl=false/\z.s=y.s))->MH N x J:=by
  intro z J R sx e1 e2 e3 e4 e5 e6 e7 e8 e9 b9 gA eT b' aw;have hw:=st.bB;have an:=R.hv;rw [b9,e8,e5,Z] at an;have an:(J.m.bB=x.m.bB/\J.hv.length=y.hv.length/\J.s=z.s/\¬BA x.m.lrn x.m.bB y.hv.length)\/(x.m.bB<100/\J.m.bB=x.m.bB+1/\J.hv.length<=y.hv.length/\y.hv.length<=2*J.hv.length+1/\BA x.m.lrn x.m.bB y.hv.length/\J.s.R .be= []):=an;have ej:=R.pc;rw [b'.1,b'.2.1,b'.2.2,Z] at ej;rw [Z] at aw;have aw:(Lu.mi x.m.pu x.m.pa x.m.pl=true/\z.s.R .be= [])\/(Lu.mi x.m.pu x.m.pa x.m.pl=false/\z.s=y.s):=aw;refine ⟨by rw [R.nc,e9,ys],by rw [R.cf,e1,Z],by rw [R.de,e2,Z],by rw [R.re];rw [Z] at e3;exact e3,by rw [R.tx,e4,Z],by rw [R.lrn,e5,Z],by rw [R.jO,e6,Z],?_,?_,ej,⟨y.hv.length,?_,?_⟩,?_,?_⟩
  . have:=R.dr;rw [e7,b9,Z] at this;have:x.m.dr<=J.m.dr/\J.m.dr+J.hv.length=x.m.dr+y.hv.length:=this;omega
  . have:=R.pl;rw [eT,b9] at this;omega
  . rw [R.un,gA];exact yc
  . rcases an with ⟨a,b,_,d⟩| ⟨a,b,c,d,f,_⟩
    . exact .inl ⟨a,b,d⟩
    . exact .inr ⟨a,b,c,d,f⟩
  . rintro (h|h)
    . rcases aw with ⟨_,e⟩| ⟨e,_⟩
      . exact R.bz e
      . rw [h] at e;cases e
    . rcases an with ⟨a,_⟩| ⟨_,_,_,_,_,e⟩
      . omega
      . exact e
  . intro β hb;obtain ⟨b1,b2⟩:=yr β hb;refine ⟨b1,fun ha hU=> ?_⟩;rcases aw with ⟨e,_⟩| ⟨_,e⟩
    . rw [ha] at e;cases e
    . rcases an with ⟨_,_,c,_⟩| ⟨_,b,_⟩
      . rw [c,e];exact b2
      . omega
 refine ao (fun b8=> ?_) (fun b8=> ?_)
 . refine ⟨_,rfl,_,bp a_.at rfl,_,rfl,?_⟩;refine gC a_.at rfl rfl fun hM gd gW=> ?_;have fA:i64.wrap (y.m.re+1)=y.m.re+1:=by
    have:y.m.re=x.m.re:=by rw [Z]
    rw [aB (by omega) (by omega)]
   obtain ⟨eN,ga⟩:=a_.own (m':= {y.m with pu:=Lu.m_ y.m.pu y.m.pa y.m.pl,pa:=Lu.jU y.m.pu y.m.pa y.m.pl,pl:=Lu.mf y.m.pu y.m.pa y.m.pl,re:=i64.wrap (y.m.re+1)}) gd gW;have X:=Y.own (m':= {y.m with pu:=Lu.m_ y.m.pu y.m.pa y.m.pl,pa:=Lu.jU y.m.pu y.m.pa y.m.pl,pl:=Lu.mf y.m.pu y.m.pa y.m.pl,re:=i64.wrap (y.m.re+1)}) ⟨rfl,rfl⟩;refine (uy eN X.ci.g X.ci.v hN X.ph 0).mono ?_;rintro e hS ⟨rfl,hI,h0,g5,gs,ey,d9,ed,c7⟩;have cp:=X.bN d9 ed c7;refine ⟨rfl,Jr gs cp hN (by show y.hv.length<=_;omega) dq (by show y.pr.length<=_;omega) bY fun w' L' J S' k' s' R=> ?_⟩;exact ⟨rfl,L',J,S',((b4.trans ga).trans ey).trans k',s',fI R s' rfl rfl (.inr fA) rfl rfl rfl rfl rfl wS rfl rfl rfl ⟨rfl,rfl,rfl⟩ (.inl ⟨b8,px⟩)⟩
 . refine Jr a_ ep hN (by show y.hv.length<=_;omega) dq (by show y.pr.length<=_;omega) bY fun w' L' J S' k' s' R=> ?_;exact ⟨rfl,L',J,S',b4.trans k',s',fI R s' rfl rfl (.inl rfl) rfl rfl rfl rfl rfl rfl rfl rfl rfl ⟨rfl,rfl,rfl⟩ (.inr ⟨b8,rfl⟩)⟩
end
end Go.Proofs.YtenmibfmhccmiaaGreat.W
