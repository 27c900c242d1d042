/- Layer 14: what a search's proof is. -/
import Derived.Test.YtenmibfmhccmiaaGreatStudyA
import Derived.Test.YtenmibfmhccmiaaGreatPropC
import Derived.Test.YtenmibfmhccmiaaGreatRupB
import Derived.Test.YtenmibfmhccmiaaGreatLubyA
namespace Go.Proofs.YtenmibfmhccmiaaGreat.W
open Go Go.Fw Go.RowKit Go.SoP Go.LiP Go.LeP
section
variable {s t s':aH} {l c d:List Int} {x y:Int} {i j N bl:Nat} {cs ds:List (List Int)} {pr:List (Bool × List Int)}
def wH (cs:List (List Int)) (pr:List (Bool × List Int)):Nat->List (List Int)
 |0=>cs
 |i+1=>if (pr.getD i (false,[])).1=true then lX (pr.getD i (false,[])).2 (wH cs pr i) else wH cs pr i++ [(pr.getD i (false,[])).2]
theorem qh {z:Bool × List Int}: ∀ {i:Nat},i<=pr.length->wH cs (pr++ [z]) i=wH cs pr i
 |0,_=>rfl
 |i+1,h=>by
  have e:(pr++ [z]).getD i (false,[])=pr.getD i (false,[]):=by
   simp only [List.getD_eq_getElem?_getD];rw [List.getElem?_append_left (by omega)]
  unfold wH;rw [e,qh (by omega)]
def Mt (ds:List (List Int)) (s:aH):Prop:= ∃ix:List Nat,ix.Nodup/\(∀i,i∈ix↔s.aN i)/\(ds.map aW).Perm (ix.map fun i=>aW (s.R (.a i)))
theorem Mt.same (h:Mt ds s) (h1: ∀i,t.aN i↔s.aN i) (I: ∀i,s.aN i->t.R (.a i)=s.R (.a i)):Mt ds t:=by
 obtain ⟨ix,nd,m,p⟩:=h;refine ⟨ix,nd,fun i=> (m i).trans (h1 i).symm,?_⟩
 rwa [List.map_congr_left (g:=fun i=>aW (s.R (.a i))) fun i hi=>by rw [I i ((m i).1 hi)]]
theorem xw (c:List Int): ∀ds:List (List Int),aW c∈ds.map aW->(aW c::(lX c ds).map aW).Perm (ds.map aW)
 | [],h=>by simp at h
 |x::l,h=>by
  unfold lX;by_cases e:aW x=aW c
  . rw [if_pos e,List.map_cons,e]
  . rw [if_neg e,List.map_cons,List.map_cons];have I:aW c∈l.map aW:=by
     rcases List.mem_cons.1 h with h|h
     . exact absurd h.symm e
     . exact h
    exact (List.Perm.swap _ _ _).trans ((xw c l I).cons _)
theorem Mt.drop (h:Mt ds s) (hi:s.aN i):Mt (lX (s.R (.a i)) ds) (s.drop i):=by
 obtain ⟨ix,nd,m,p⟩:=h;have hm:i∈ix:=(m i).2 hi;refine ⟨ix.erase i,nd.erase i,fun j=> ?_,?_⟩
 . rw [nd.mem_erase_iff,m j,fS];exact and_comm
 . have h1:aW (s.R (.a i))∈ds.map aW:=p.mem_iff.2 (List.mem_map_of_mem hm);have J:=xw _ ds h1;have p2:(ix.map fun i=>aW (s.R (.a i))).Perm (aW (s.R (.a i))::(ix.erase i).map fun i=>aW (s.R (.a i))):=(List.perm_cons_erase hm).map _;have O:=(J.trans (p.trans p2)).cons_inv
   rwa [List.map_congr_left (l:=ix.erase i) (g:=fun i=>aW (s.R (.a i))) fun k I=>by rw [sy (nd.mem_erase_iff.1 I).1]]
theorem Mt.add (h:Mt ds s) (hb:s.bD i=t) (ha:kI t l s'):Mt (ds++ [l]) s':=by
 subst hb;obtain ⟨ix,nd,m,p⟩:=h;have enc:(s.bD i).nc=s.nc:=rfl;have th: ∀j,s'.aN j↔s.aN j\/j=s.nc:=fun j=>by
  unfold aH.aN;rw [ha.n,ha.g,enc];by_cases e:j=s.nc
  . rw [if_pos e];subst e;exact ⟨fun _=> .inr rfl,fun _=> ⟨by omega,rfl⟩⟩
  . rw [if_neg e];exact ⟨fun h=> .inl ⟨by omega,h.2⟩,fun h=>by
     rcases h with h|h
     . exact ⟨by omega,h.2⟩
     . exact absurd h e⟩
 have I:s.nc ∉ ix:=fun h=>by have:=(m _).1 h;exact absurd this.1 (by omega)
 refine ⟨ix++ [s.nc],?_,fun j=> ?_,?_⟩
 . exact List.nodup_append.2 ⟨nd,by simp,fun a ha b hb e=>by
    rw [List.mem_singleton] at hb;subst hb;subst e;exact I ha⟩
 . rw [List.mem_append,List.mem_singleton,m j,th j]
 . rw [List.map_append,List.map_append,List.map_singleton,List.map_singleton,ha.a,enc,if_pos rfl];rw [List.map_congr_left (l:=ix) (g:=fun i=>aW (s.R (.a i))) fun k J=>by
    rw [ha.a,enc,if_neg (fun e=>I (by rw [<- e];exact J)),mD]]
   exact p.append_right _
def NT (N:Nat) (z:Bool × List Int):Prop:=BQ N z.2
structure PF (cs:List (List Int)) (s:aH) (pr:List (Bool × List Int)):Prop where
 ne: ∀i,i<pr.length->pr.getD i (false,[])≠(false,[])
 up: ∀i,i<pr.length->(pr.getD i (false,[])).1=true\/uB (wH cs pr i) (pr.getD i (false,[])).2
 mt:Mt (wH cs pr pr.length) s
 qX: ∀z∈pr,NT s.vars z
structure PE (cs:List (List Int)) (N:Nat) (pr:List (Bool × List Int)):Prop where
 dV: ∃t,t+1=pr.length/\pr.getD t (false,[])=(false,[])/\∀i,i<t->pr.getD i (false,[])≠(false,[])
 up: ∀i,i<pr.length->(pr.getD i (false,[])).1=true\/uB (wH cs pr i) (pr.getD i (false,[])).2
 qX: ∀z∈pr,NT N z
theorem KA (h:Mt ds s) (r:Bp s l):uB ds l:=by
 obtain ⟨ix,_,m,p⟩:=h;refine r ds fun x=> ?_;rw [p.mem_iff,List.mem_map];exact ⟨fun ⟨i,hi,e⟩=> ⟨i,(m i).1 hi,e⟩,fun ⟨i,hi,e⟩=> ⟨i,(m i).2 hi,e⟩⟩
theorem pV {z:Bool × List Int} (h:i<pr.length):(pr++ [z]).getD i (false,[])=pr.getD i (false,[]):=by
 simp only [List.getD_eq_getElem?_getD];rw [List.getElem?_append_left h]
theorem nC {z:Bool × List Int}:(pr++ [z]).getD pr.length (false,[])=z:=by simp [List.getD]
theorem PF.push {z:Bool × List Int} (h:PF cs s pr) (J:z≠(false,[])) (hu:z.1=true\/uB (wH cs pr pr.length) z.2) (hv:t.vars=s.vars) (hi:NT s.vars z)
 (hm:Mt (if z.1=true then lX z.2 (wH cs pr pr.length) else wH cs pr pr.length++ [z.2]) t):PF cs t (pr++ [z]):=by
 refine ⟨fun i hi=> ?_,fun i hi=> ?_,?_,fun y I=> ?_⟩
 . by_cases e:i<pr.length
   . rw [pV e];exact h.ne i e
   . rw [show i=pr.length by simp at hi;omega,nC];exact J
 . by_cases e:i<pr.length
   . rw [pV e,qh (by omega)];exact h.up i e
   . rw [show i=pr.length by simp at hi;omega,nC,qh (Nat.le_refl _)];exact hu
 . rw [List.length_append,List.length_singleton];unfold wH;rw [nC,qh (Nat.le_refl _)];exact hm
 . rw [hv];rcases List.mem_append.1 I with I|I
   . exact h.qX y I
   . rw [List.mem_singleton] at I;subst I;exact hi
theorem PF.ext (h:PF cs s pr) (e:iM s s'):PF cs s' pr:=
 ⟨h.ne,h.up,h.mt.same (fun i=>e.ni) fun i _=>e.a i,fun z I=>by rw [e.v];exact h.qX z I⟩
theorem PF.decide (h:PF cs s pr):PF cs (s.decide x) pr:=
 ⟨h.ne,h.up,h.mt.same (fun _=>Iff.rfl) fun _ _=>mX,h.qX⟩
theorem PF.bD (h:PF cs s pr):PF cs (s.bD i) pr:=
 ⟨h.ne,h.up,h.mt.same (fun _=>Iff.rfl) fun _ _=>mD,h.qX⟩
theorem PF.add (h:PF cs s pr) (k:LS s l i) (ok:BQ s.vars l) (r:Bp s l) (ha:kI (s.bD i) l s'):PF cs s' (pr++ [(false,l)]):=by
 refine h.push (fun e=> ?_) (.inr (KA h.mt r)) ?_ ok ?_
 . obtain ⟨x,I,_⟩:=k.mZ;have:l= []:=by injection e
   rw [this] at I;simp at I
 . rw [ha.v];rfl
 . exact h.mt.add rfl ha
theorem PF.drop (h:PF cs s pr) (ok:BQ s.vars (s.R (.a i))) (hi:s.aN i):PF cs (s.drop i) (pr++ [(true,s.R (.a i))]):=
 h.push (fun e=>by injection e with e;cases e) (.inl rfl) BU ok (h.mt.drop hi)
theorem PF.new (d:Iu N cs s):PF cs s []:=
 ⟨fun i hi=>by simp at hi,fun i hi=>by simp at hi,⟨List.range cs.length,List.nodup_range,fun i=>by
   rw [List.mem_range];unfold aH.aN;rw [d.n];exact ⟨fun h=> ⟨h,d.g i h⟩,fun h=>h.1⟩,by
   have e:(List.range cs.length).map (fun i=>aW (s.R (.a i)))=cs.map aW:=by
    refine List.ext_getElem (by simp) fun i h1 J=> ?_;have hi:i<cs.length:=by simpa using h1
    simp only [List.getElem_map,List.getElem_range];rw [d.a i hi];simp [List.getD,hi]
   rw [e];exact List.Perm.refl _⟩,fun z I=>by simp at I⟩
theorem PF.dV (h:PF cs s pr) (g:aL s) (O:t7 s i) (Q:s.R .be= []):PE cs s.vars (pr++ [(false,[])]):=by
 refine ⟨⟨pr.length,by simp,nC,fun i hi=>by rw [pV hi];exact h.ne i hi⟩,fun i hi=> ?_,fun y I=> ?_⟩
 . by_cases e:i<pr.length
   . rw [pV e,qh (by omega)];exact h.up i e
   . rw [show i=pr.length by simp at hi;omega,nC,qh (Nat.le_refl _)];exact .inr (KA h.mt (JW g O Q))
 . rcases List.mem_append.1 I with I|I
   . exact h.qX y I
   . rw [List.mem_singleton] at I;subst I;exact ⟨fun x J=>by simp at J,fun x J=>by simp at J,List.nodup_nil⟩
end
section
variable {w0 w w' w1 w2 u:World} {B N i:Nat} {L L' L1:Nat->Nat} {x:Xs} {l:List Int} {cs:List (List Int)} {hv:List (Nat × List Int)} {un:List (List Int)}
def D8 (p:Ps):Bool × List Int:=(p.1,p.2.2)
structure JB (w0 w u:World) (B:Nat) (L:Nat->Nat) (N:Nat) (x:Xs) (hv1:List Hc) (cs un:List (List Int)) (q:Option Addr) (k:List Bool) (t:Nat) (L1:Nat->Nat) (lf:List Hc) (s1:aH) (pr1:List Ps) (psl:Sl) (p:Option Addr) (c:Nat):Prop where
 row:Row 5 EA bX u p c lf
 fr: ∀b,aJ p=some b->L1 b=0/\w.heap.size<=b
 sr:SR w0 u B L1 N {x with hv:=hv1,s:=s1,ps:=psl,pr:=pr1,m:= {x.m with dr:=x.m.dr+ (t - lf.length:Nat)}}
 kp:Kp w0 w u L L1
 ci:oQ N cs s1 ((lf++hv1.drop t).map ED) un
 nc:s1.nc=x.s.nc
 hi:zU N s1 x.S
 sub: ∀h∈lf,h∈hv1
 pl:pr1.length+lf.length=x.pr.length+t
 le:lf.length<=t
 st:Vw Value.bool u q k
 r9:R9 u L1 q
 be:s1.R .be=x.s.R .be
 pf:PF cs s1 (pr1.map D8)
 z:w0.heap.size<=w.heap.size
 ct:(k.take t).countP id<=lf.length
theorem KY {k:List Bool} {t:Nat} {α:Type} {I:List α} {y:α} (h:(k.take t).countP id<=I.length):(k.take (t+1)).countP id<=(I++ [y]).length:=by
 rw [List.take_add_one,List.countP_append,List.length_append,List.length_singleton];have:(k[t]?.toList).countP id<=1:=Nat.le_trans List.countP_le_length (by cases k[t]? <;>simp);omega
theorem J_ {k:List Bool} {t n:Nat} (h:(k.take t).countP id<=n) (e:k.getD t false=false):(k.take (t+1)).countP id<=n:=by
 rw [List.take_add_one,List.countP_append];rw [List.getD_eq_getElem?_getD] at e;cases I:k[t]? with
 |none=>simpa using h
 |some b=>
  rw [I] at e;have e:b=false:=e;subst e;simpa using h
theorem Fz {l:List RedP.Lr} {ks:List Bool} (h1:ks.length=l.length) (V: ∀x:Nat,x<l.length->ks.getD x false=RedP.keep l x):l.length<=2*ks.countP id+1:=by
 obtain ⟨o,O⟩:=RedP.KZ l;have hs:=O.Nv;have e:ks=(RedP.qP l.length).map (RedP.keep l):=by
  refine List.ext_getElem (by rw [List.length_map,RedP.kM];exact h1) fun i I Q=> ?_;have:=V i (by omega);rw [List.getD_eq_getElem?_getD,List.getElem?_eq_getElem I] at this;simp only [RedP.qP,List.getElem_map,List.getElem_range];exact this
 have c:ks.countP id=(RedP.qP l.length).countP (RedP.keep l):=by rw [e,List.countP_map];rfl
 have J: ∀L:List Int,L.countP (RedP.keep l)=L.countP (fun x=>RedP.eU (RedP.aS l x))+L.countP (fun x=> !RedP.eU (RedP.aS l x) && RedP.keep l x)/\L.length=L.countP (fun x=>RedP.eU (RedP.aS l x))+L.countP (fun x=> !RedP.eU (RedP.aS l x)):=by
  intro L
  induction L with
  |nil=>exact ⟨rfl,rfl⟩
  |cons a L ih=>
   have hm:RedP.eU (RedP.aS l a)=true->RedP.keep l a=true:=fun h=>by unfold RedP.keep;rw [h,Bool.true_or]
   simp only [List.countP_cons,List.length_cons];cases I:RedP.eU (RedP.aS l a) with
   |true=>rw [hm I];simp;omega
   |false=>cases Q:RedP.keep l a<;>simp<;>omega
 obtain ⟨X,U⟩:=J (RedP.qP l.length);rw [RedP.kM] at U;unfold RedP.iD at hs;omega
theorem IH {s:aH} {i:Nat}:(s.drop i).nc=s.nc:=by
 obtain ⟨d1,d2,d3,_⟩:=gZ (i:Int) ((s.R (.l i)).take 2) s;exact d2
theorem GM {s:aH} {S:Int->Prop} {j:Nat} (g:aL s) (O:aL (s.drop j)) (hv:s.vars=N) (h:zU N s S):zU N (s.drop j) S:=by
 intro v v1 v2 Q;have J:dB s.vars v:=⟨by omega,by omega,by omega⟩
 have I:dB (s.drop j).vars v:=by rw [BU];exact J
 have:=(hG O I).1 Q;rw [uw (.inl rfl)] at this;exact h v v1 v2 ((hG g J).2 this)
theorem JB.grow {q p:Option Addr} {c:Nat} {k:List Bool} {t:Nat} {O V:List Hc} {U:aH} {I:List Ps} {J:Sl} (A:JB w0 w u B L N x O cs un q k t L1 V U I J p c) (g:ao u w'):
 JB w0 w w' B L N x O cs un q k t (jE L1 u.heap.size 9) V U I J p c:=by
 have Q:Kp w0 u w' L1 (jE L1 u.heap.size 9):=jY.new g 9;exact ⟨A.row.grow g,Q.lb A.fr A.row.lt,A.sr.new g 9,A.kp.trans Q,A.ci,A.nc,A.hi,A.sub,A.pl,A.le,A.st.grow g,Q.r9 A.r9,A.be,A.pf,A.z,A.ct⟩
theorem JB.mN {q p:Option Addr} {c:Nat} {k:List Bool} {t:Nat} {J O:List Hc} {s1:aH} {V:List Ps} {X:Sl} (A:JB w0 w u B L N x J cs un q k t L1 O s1 V X p c) (ht:t<J.length) (hb:J.length<=1000000) {y:Hc} (hy:y=J.getD t B0)
 {nn:Nat} {I:World} (h:aY (.cells #[.int .i64 y.i,.slice y.sl.p y.sl.n y.sl.c,.int .i64 y.lv,.int .i64 y.sz,.bool y.lk] 184) u nn I) {K:World->Option Addr->Nat->Nat->Prop}
 (Y: ∀w' U c' L2,JB w0 w w' B L N x J cs un q k (t+1) L2 (O++ [y]) s1 V X U c'->K w' U (O++ [y]).length c'):
 ∃w',∃U n' c',(Builtin.append_ #[105,105] 105 #[.slice p O.length c,.slice (some (Addr.mk nn 0 none)) 1 1]).run Tryz.prog I= .ok (.slice U n' c') w'/\K w' U n' c':=by
 have aT:=A.le;refine Row.mN xF uK (A.row.grow h.mod) (Kf (u:=y) h.has) rfl rfl (by simp;omega) fun w' U c' o8 m8 Z aw=> ?_;have ad:=A.sr.grow h.mod;have hr:=(A.row.grow h.mod).lt;have az:=A.kp.mod.size;have ar:=h.size;have ac:aF (fun k=>L1 k=0/\w0.heap.size<=k) I w':=m8.mono fun b _ e=> ⟨(A.fr b e).1,by have:=(A.fr b e).2;have:=A.z;omega⟩
 have Q:=ad.NW (L':=jE L1 I.heap.size 0) ac fun _ Y=>cN Y;have kq:Kp w0 I w' L1 (jE L1 I.heap.size 0):=Q.2.tK fun i e=>by rw [e];decide
 have kk:Kp w0 u w' L1 (jE L1 I.heap.size 0):=(jY.grow h.mod).trans kq;have ym:y∈J:=by rw [hy];exact uh ht
 refine Y _ _ _ (jE L1 I.heap.size 0) ⟨o8,fun b hb=> ?_,?_,A.kp.trans kk,?_,A.nc,A.hi,fun v hv=> ?_,?_,?_,kk.vw A.st A.r9,kk.r9 A.r9,A.be,A.pf,A.z,KY A.ct⟩
 . rcases Z with rfl|rfl
   . rw [cN (hr b hb)];exact A.fr b hb
   . have:=aO hb;exact ⟨iA (by omega),by omega⟩
 . have:=Q.1;rw [show t+1 - (O++ [y]).length=t - O.length by simp];exact this
 . have:=A.ci;rw [xE ht,<- hy] at this;rw [List.append_assoc];exact this
 . rcases List.mem_append.1 hv with hv|hv
   . exact A.sub v hv
   . rw [List.mem_singleton] at hv;subst hv;exact ym
 . have:=A.pl;rw [List.length_append,List.length_singleton];omega
 . rw [List.length_append,List.length_singleton];omega
theorem Ir (h:SR w0 w B L N x) (k:oQ N cs x.s (x.hv.map ED) un) (hi:zU N x.s x.S) (e8:x.hv.length<=1000000) (gp:x.pr.length<=900000000) (ei: ∀u∈x.hv,Kv u) (gf:0<=x.m.dr/\x.m.dr<=1000000000) (pf:PF cs x.s (x.pr.map D8)):
 Calls Tryz.prog fI.id #[bL B] w fun e w'=>e= .returned (.tuple #[])/\∃L' s' hv' ez pr' e2 cb,Kp w0 w w' L L'/\
  SR w0 w' B L' N {x with hv:=hv',hs:=ez,s:=s',ps:=e2,pr:=pr',m:= {x.m with dr:=cb,bE:=ka (IntKind.i64.wrap (x.m.bE+1)) 100}}/\
  oQ N cs s' (hv'.map ED) un/\zU N s' x.S/\s'.nc=x.s.nc/\(∀u∈hv',Kv u)/\pr'.length+hv'.length=x.pr.length+x.hv.length/\hv'.length<=x.hv.length/\s'.R .be=x.s.R .be/\PF cs s' (pr'.map D8)/\x.m.dr<=cb/\cb+hv'.length=x.m.dr+x.hv.length/\x.hv.length<=2*hv'.length+1:=by
 refine fI.ak ⟨_,rfl,_,_,_,ae h.at rfl,Ld h k.g e8 ei fun p c u I ll A=> ?_⟩;have hlen:=A.sm.len;have ed:ll.all RedP.BP=true:=List.all_eq_true.2 A.ok;have dd: ∀y∈I,Kv y:=A.sm.mem (fun u v e hu=>by unfold Kv at*;simp only [xy,Prod.mk.injEq] at e;obtain ⟨_,_,e3,e4,e5⟩:=e;rw [<- e3,<- e4,<- e5];exact hu) ei;refine (Re.Jb (A.row.vr Re.OA) rfl (by rw [A.len];omega)).mono ?_;rintro e f1 ⟨q,d,ks,rfl,b7,ob,fq,b4⟩;rw [ed,if_pos rfl] at b4;have dc:ks.length=I.length:=by rw [b4.1,A.len,hlen]
 have fa:=Fz (l:=ll) (ks:=ks) (by rw [dc,<- hlen];exact A.len.symm) fun x hx=>b4.2 x (by first|exact hx|rw [A.len] at*;exact hx);have gA:=(h.hv id).2.1;have ef:=A.sr.new b7 9;have ek:=A.kp.trans (jY.new b7 9);have su:=A.kp.mod.size;have fT:=b7.size;refine ⟨_,_,_,rfl,_,rfl,_,_,_,ae ef.at rfl,?_⟩;have c0:oQ N cs x.s (([]++I.drop 0).map ED) un:=by
  rw [List.nil_append,List.drop_zero,<- A.sm.ED];exact k
 refine ⟨fun p n c v u z=> ∃ (t:Nat) (L1:Nat->Nat) (V:List Hc) (s1:aH) (U:List Ps) (Z:Sl),v=t/\t<=I.length/\z=I.length - t/\n=V.length/\JB w0 w u B L N x I cs un q ks t L1 V s1 U Z p c,
  ⟨_,0,_,[],x.s,x.pr,x.ps,rfl,Nat.zero_le _,rfl,rfl,⟨Row.nil _ _ _ _,fun b hb=>by simp [aJ] at hb,by simpa using ef,ek,c0,rfl,hi,by simp,by simp,Nat.zero_le _,ob.vw,⟨fun b hb=> ⟨iA (fq b hb),ob.lt b hb⟩⟩,rfl,pf,h.g.size,by simp⟩⟩,?_⟩
 rintro p n c v u z _ ⟨t,L1,V,s1,U,Z,rfl,ht,rfl,rfl,D⟩;refine aj (fun r=> ?_) (fun r=> ?_)
 . have r:t<I.length:=by simp at r;omega
   obtain ⟨r1,r2,r3⟩:=D.sr.hv id;have r1:Row 5 EA bX u x.hs.p x.hs.c I:=r1;obtain ⟨y,hy⟩: ∃y,y=I.getD t B0:=⟨_,rfl⟩
   have ej:y∈I:=by rw [hy];exact uh r
   have oy:=dd y ej;refine (r1.vr xF).ix B0 (by omega) (by show x.hs.n=I.length;omega) (by show (t:Int)< (x.hs.n:Int);omega) fun a ha=> ?_;rw [Int.toNat_natCast,<- hy] at ha;refine ⟨_,_,_,_,_,_,_,ha,fun az gT b_=> ?_⟩;refine bj b_.has rfl rfl fun an cg e1=> ?_;have cg:bA an az #[.int .i64 y.i,.slice y.sl.p y.sl.n y.sl.c,.int .i64 y.lv,.int .i64 y.sz,.bool y.lk]:=cg;have ga:=b_.num;have e9:ao u an.drew:=(aF.bV b_.mod e1 (by omega)).trans (aF.refl an).drew;have J:=D.grow e9;have cc:=cg.grow (aF.refl an).drew;refine J.st.ix false (by omega) rfl (by omega) fun gz eA=> ⟨_,eA,?_⟩
   have di: ∀ {u':World} {L2:Nat->Nat},JB w0 w u' B L N x I cs un q ks t L2 V s1 U Z p c->bA u' az #[.int .i64 y.i,.slice y.sl.p y.sl.n y.sl.c,.int .i64 y.lv,.int .i64 y.sz,.bool y.lk]->
    ∃dk bu a8 a_ el en er,aB u' (Addr.mk az 0 none) 0 [.int .i64 dk,.slice bu a8 a_,.int .i64 el,.int .i64 en,.bool er]/\
     ∀cm bY,aY (.cells #[.int .i64 dk,.slice bu a8 a_,.int .i64 el,.int .i64 en,.bool er] 184) u' cm bY->
     ∃dp bc bk bv,(Builtin.append_ #[105,105] 105 #[.slice p V.length c,.slice (some (Addr.mk cm 0 none)) 1 1]).run Tryz.prog bY= .ok (.slice bc bk bv) dp/\
     ∃dT,dT<I.length - t/\∃ (t2:Nat) (L1:Nat->Nat) (V:List Hc) (s1:aH) (U:List Ps) (Z:Sl),IntKind.i64.wrap ((t:Int)+ (1:Int))=t2/\t2<=I.length/\dT=I.length - t2/\bk=V.length/\JB w0 w dp B L N x I cs un q ks t2 L1 V s1 U Z bc bv:=by
    intro u' L2 E hh;refine ⟨_,_,_,_,_,_,_,⟨ae hh rfl,ae hh rfl,ae hh rfl,ae hh rfl,ae hh rfl,trivial⟩,fun cm bY eR=> ?_⟩;refine E.mN r (by omega) hy eR fun w' p' c' L3 E'=> ⟨_,?_,t+1,L3,_,_,_,_,wN (by omega) (by omega),by omega,rfl,rfl,E'⟩
    omega
   refine aj (fun _=>di J cc) (fun aT=> ?_);have aT:ks.getD t false=false:=by rw [Int.toNat_natCast] at aT;exact aT
   have n9:jE L1 u.heap.size 9 az=9:=iA (by omega);refine ⟨_,rfl,_,ae J.sr.at rfl,_,ae cc rfl,(J.sr.M_ D.ci.g y.i).mono ?_⟩;rintro e O ⟨fL,rfl,ag,ce,hh⟩;have X:Kp w0 an.drew O (jE L1 u.heap.size 9) ag:=ce.tK fun i e=>by rw [e];decide
   have aa:Row 5 EA bX O p c V:=ce.row J.row fun b hb e=>by rw [(J.fr b hb).1] at e;exact absurd e (by decide)
   have bb:=ce.lb J.fr J.row.lt;have a':=X.vw J.st J.r9;have ap:=X.r9 J.r9;have es:=X.has cc n9;refine ⟨_,rfl,?_⟩;rcases hh with ⟨hr,Y⟩| ⟨rfl,e6,gd,Y⟩
   . refine cu (by simpa using hr) (di ⟨aa,bb,Y,J.kp.trans X,D.ci,D.nc,D.hi,D.sub,D.pl,D.le,a',ap,D.be,D.pf,D.z,D.ct⟩ es)
   . refine bm rfl ?_;have Y:SR w0 O B ag N {x with hv:=I,s:=s1.drop y.i,ps:=Z,pr:=U,m:= {x.m with dr:=x.m.dr+ (t - V.length:Nat)}}:=Y;have ad:ao O O.drew:=(aF.refl O).drew;have cT:=Y.hr id y ej;have gc:=oy.2.2.2;have f0:=cT.n;refine ⟨ao O.drew,aF.refl _,_,rfl,_,_,_,fun v gv=>bG (Y.drew.at.grow gv) rfl,_,_,_,fun v gv=>ae (es.grow (ad.trans gv)) rfl,(iO (cT.v.grow ad) cT.n (by omega)).mono ?_⟩;rintro e f' ⟨q9,d9,rfl,o9,g9,f9⟩;refine ⟨_,_,_,rfl,g9,fun gn b6 aw=> ?_⟩;have ay:=g9.trans aw.mod;refine ⟨ay,?_⟩;have eL:=Y.drew.new ay 9;have a6:Kp w0 O b6 ag (jE ag O.drew.heap.size 9):=(jY.grow ad).trans (jY.new ay 9);have ar:=(aa.grow ad).grow ay;have a7:=a6.lb bb aa.lt;have ro:RO b6 (jE ag O.drew.heap.size 9) ⟨q9,y.c.length,d9⟩ y.c:=⟨rfl,(o9.grow aw.mod).vw,fun k hk=> ⟨iA (f9 k hk),Nat.lt_of_lt_of_le (o9.lt k hk) aw.mod.size⟩⟩
     have d5:=D.pl;have d8:=D.le;refine EN eL (by show U.length<=_;omega) true ro aw.has fun d' du q' ax b3=> ?_;have b5:Kp w0 b6 d' (jE ag O.drew.heap.size 9) du:=b3.tK fun i e=>by rcases e with rfl|rfl<;>decide
     have b':=b3.row ar fun b hb e=>by rw [(a7 b hb).1] at e;rcases e with e|e<;>exact absurd e (by decide)
     have bx:=b3.lb a7 ar.lt;refine ⟨_,rfl,_,bG ax.at rfl,_,rfl,?_⟩;have ew:IntKind.i64.wrap (x.m.dr+ (t - V.length:Nat)+1)=x.m.dr+ (t+1 - V.length:Nat):=by rw [aD (by omega) (by omega)];omega
     show ∃d4,ah _ 0 [.int .i64 (IntKind.i64.wrap (x.m.dr+ (t - V.length:Nat)+1))] d' d4/\_;rw [ew];refine ig ax.at rfl rfl fun d4 e' ec=> ?_;have Q:=ax.own (m':= {x.m with dr:=x.m.dr+ (t+1 - V.length:Nat)}) e' ec;have kf:=((X.trans a6).trans b5).trans Q.2;have ac:=D.ci;rw [xE r,<- hy,List.map_append,List.map_cons] at ac;have c3:=ac.Aa (ED y) (by simp);have eb:=ac.drop gd;rw [<- List.map_append] at eb;have cp:=b'.keep ec fun b hb (e:b=B)=>by
      have h1:=(bx b hb).1;rw [e,ax.ml.1] at h1;exact absurd h1 (by decide)
     refine ⟨_,?_,t+1,du,V,s1.drop y.i,U++ [(true,⟨q9,y.c.length,d9⟩,y.c)],q',wN (by omega) (by omega),by omega,rfl,rfl,⟨cp,bx,Q.1,J.kp.trans kf,eb,by rw [IH];exact D.nc,GM D.ci.g gd D.ci.v D.hi,D.sub,?_,by omega,?_,?_,?_,?_,D.z,J_ D.ct aT⟩⟩
     . omega
     . rw [List.length_append,List.length_singleton];omega
     . exact (((a6.trans b5).trans Q.2).vw a' ap)
     . exact (((a6.trans b5).trans Q.2).r9 ap)
     . rw [uw (.inr rfl)];exact D.be
     . have:=D.pf.drop (by rw [D.ci.v,show s1.R (.a y.i)=y.c from c3.2.2];exact ac.ok _ (List.mem_append_left _ (List.mem_map_of_mem (f:=(·.2)) (a:=ED y) (by simp)))) e6;rw [List.map_append];rw [show s1.R (.a y.i)=y.c from c3.2.2] at this;exact this
 . have r:t=I.length:=by simp at r;omega
   subst r;have ac:=D.ci;rw [List.drop_length,List.append_nil] at ac;have eT: ∀k,L1 k≠0->(fun k=>if aJ p=some k then 5 else L1 k) k=L1 k:=fun k hk=>by
    show (if aJ p=some k then 5 else L1 k)=L1 k;rw [if_neg fun e=>hk (D.fr k e).1]
   have SS:=D.sr.vH eT;have eg: ∀b,aJ p=some b->(fun k=>if aJ p=some k then 5 else L1 k) b=5/\w0.heap.size<=b:=fun b hb=> ⟨by show (if aJ p=some b then 5 else L1 b)=5;rw [if_pos hb],by have:=(D.fr b hb).2;have:=D.z;omega⟩
   refine ⟨_,rfl,?_⟩;refine bO SS.at rfl rfl fun fk ep c7=> ?_;have Q:=SS.swap (q:=⟨p,V.length,c⟩) (hv':=V) D.row rfl eg (fun v hv=>SS.hr id v (D.sub v hv)) ep c7;refine ⟨_,rfl,_,ae Q.1.at rfl,_,rfl,?_⟩;refine bO Q.1.at rfl rfl fun fu et ea=> ?_;have Q2:=Q.1.own (m':= {x.m with dr:=x.m.dr+ (I.length - V.length:Nat),bE:=ka (IntKind.i64.wrap (x.m.bE+1)) 100}) et ea;have d8:=D.le;have d5:=D.pl;have kr:Kp w0 w u L (fun k=>if aJ p=some k then 5 else L1 k):=⟨D.kp.mod,fun k hk=>by
    show (if aJ p=some k then 5 else L1 k)=L k;rw [if_neg fun e=>by have:=(D.fr k e).2;omega];exact D.kp.Ac k hk⟩
   refine ⟨rfl,_,s1,V,_,U,Z,_,(kr.trans Q.2).trans Q2.2,Q2.1,ac,D.hi,D.nc,fun v hv=>dd v (D.sub v hv),by omega,by omega,D.be,D.pf,by omega,by omega,by
    have c1:=D.ct;rw [<- dc,List.take_length] at c1;have:=A.len;omega⟩
end
section
variable {s t s':aH} {l:List Int} {x:Int} {i j N β bl:Nat}
def Mk (N p:Nat):Nat:=2 ^ (N - 1 - p) / 2
def Mc (N:Nat) (be:List Int):Nat:=(be.map fun p=>Mk N p.toNat).sum
def bt (s:aH):Nat:=Mc s.vars (s.R .be)+ (2 ^ (s.vars - 1 - (s.R .tr).length) - 1)
def Oz (s:aH):Prop:=dz s\/∃i,t7 s i
def wT (s:aH) (β:Nat):Prop:= ∀s',iM s s'->aL s'->Oz s'->bt s'<=β
theorem wT.run (h:wT s β) (e:iM s s'):wT s' β:=fun u I=>h u (e.trans I)
theorem wT.dV (h:wT s β) (g:aL s) (f:Oz s):bt s<=β:=h s (iM.refl s) g f
theorem wT.zero (h:s.R .be= []) (hv:s.vars=N):wT s (2 ^ (N - 1) - 1):=by
 intro u e g f;unfold bt;rw [e.be,h,e.v,hv];have:2 ^ (N - 1 - (u.R .tr).length)<=2 ^ (N - 1):=Nat.pow_le_pow_right (by omega) (by omega);show 0+_<=_;omega
theorem wT.decide (h:bt s<=β):wT (s.decide x) β:=by
 intro u e U _;obtain ⟨k,I⟩:=e.tr;have J:=e.be;have ev:u.vars=s.vars:=e.v;rw [sV] at I;rw [pQ] at J;have hl:=U.yL;have hlen:(u.R .tr).length=(s.R .tr).length+1+k.length:=by rw [I];simp;omega
 unfold bt at h ⊢;unfold Mc at h ⊢;rw [J,ev,List.map_append,List.sum_append];simp only [List.map_cons,List.map_nil,List.sum_cons,List.sum_nil,Int.toNat_natCast];rw [ev] at hl;generalize (s.R .tr).length=T at*
 generalize (u.R .tr).length=Q at*
 generalize (List.map (fun p=>Mk s.vars p.toNat) (s.R .be)).sum=A at*
 unfold Mk;rcases Nat.eq_zero_or_pos (s.vars - 1 - T) with e0|e0
 . rw [e0] at h ⊢;rw [show s.vars - 1 - Q=0 by omega];simpa using h
 . obtain ⟨m,hm⟩: ∃m,s.vars - 1 - T=m+1:=⟨s.vars - 1 - T - 1,by omega⟩
   have Y:2 ^ (s.vars - 1 - Q)<=2 ^ m:=Nat.pow_le_pow_right (by omega) (by omega);have V:2 ^ (s.vars - 1 - T)=2*2 ^ m:=by rw [hm,Nat.pow_succ,Nat.mul_comm]
   have O:=Nat.two_pow_pos m;rw [V] at h ⊢;have X:2*2 ^ m / 2=2 ^ m:=by omega
   rw [X];omega
theorem HP (N:Nat) {be:List Int} {k:Nat} (h:k<be.length):Mc N (be.take k)+Mk N (be.getD k 0).toNat<=Mc N be:=by
 have e:be=be.take k++be.getD k 0::be.drop (k+1):=by
  have h1:=List.take_append_drop k be;rw [List.drop_eq_getElem_cons h] at h1;rw [<- h1];simp [List.getD,h]
 unfold Mc
 conv=>rhs;rw [e]
 rw [List.map_append,List.sum_append,List.map_cons,List.sum_cons];omega
theorem Jd (g:aL s) (b:AQ s) (I:t7 s i) (hl:0< (s.R .be).length):((s.R .be).getD ((s.R .be).length - 1) 0).toNat+2<=(s.R .tr).length:=by
 have U:(s.R .be).length - 1< (s.R .be).length:=by omega
 have hb:=g.bl _ U;refine Classical.byContradiction fun hn=> ?_;have bH: ∀z,z∈s.R .tr->z ∉ s.cM ((s.R .be).length - 1)->z=(s.R .tr).getD ((s.R .be).getD ((s.R .be).length - 1) 0).toNat 0:=by
  intro z Q hp;obtain ⟨p,h1,V⟩:=xU Q;have: ¬p< ((s.R .be).getD ((s.R .be).length - 1) 0).toNat:=fun h=>hp (AV.2 ⟨p,h,h1,V⟩);rw [<- V];congr 1;omega
 rcases b _ U i I.1 with ⟨y,J,O⟩| ⟨y,J,z,Q,X,_,b1,_,b2⟩
 . exact gL g (I.2 y J) (List.mem_of_mem_take O)
 . have:=bH _ (I.2 y J) b1;have:=bH _ (I.2 z Q) b2;omega
theorem wT.EZ (g:aL s) (b:AQ s) (hB:t7 s i) (k:LS s l bl) (h:wT s β) (ha:kI (s.bD bl) l s'):1<=β/\wT s' (β - 1):=by
 have I:=k.lt;have aE:=Jd g b hB (by omega);have bb:(s.R .be).getD bl 0<=(s.R .be).getD ((s.R .be).length - 1) 0:=by
  by_cases e:bl=(s.R .be).length - 1
  . rw [e];exact Int.le_refl _
  . exact Int.le_of_lt (g.bs bl _ (by omega) (by omega))
 have hb:=g.bl bl I;have a6:=g.yL;obtain ⟨p,hp⟩: ∃p,p=((s.R .be).getD bl 0).toNat:=⟨_,rfl⟩
 have a_:p+2<=s.vars:=by omega
 have hs:=h.dV g (.inr ⟨i,hB⟩);have ht:=HP s.vars I;rw [<- hp] at ht;obtain ⟨m,hm⟩: ∃m,s.vars - 1 - p=m+1:=⟨s.vars - 1 - p - 1,by omega⟩
 have hE:Mk s.vars p=2 ^ m:=by unfold Mk;rw [hm,Nat.pow_succ];omega
 have ay:=Nat.two_pow_pos m;have bc:Mc s.vars (s.R .be)<=β:=Nat.le_trans (Nat.le_add_right _ _) hs;refine ⟨by omega,?_⟩;intro u e gu Q;have ev:u.vars=s.vars:=by rw [e.v,ha.v];rfl
 have eb:u.R .be=(s.R .be).take bl:=by rw [e.be,ha.be,rq]
 obtain ⟨q,hq⟩:=e.tr;rw [ha.tr] at hq;have Y:(s.bD bl).R .tr=s.cM bl:=zN;rw [Y] at hq;have ar:(s.cM bl).length=p:=by unfold aH.cM;rw [List.length_take];omega
 have enc:(s.bD bl).nc=s.nc:=rfl;have grow:q≠[]:=by
  intro e0;rw [e0,List.append_nil] at hq;obtain ⟨x0,Z,l0,ax⟩:=k.mZ;have an:u.R (.a s.nc)=l:=by rw [e.a,ha.a,enc,if_pos rfl]
  rcases Q with Q| ⟨V,Q⟩
  . have th:u.aN s.nc:=e.ni.2 ⟨by rw [ha.n,enc];omega,by rw [ha.g,enc,if_pos rfl]⟩;rcases Q _ th with ⟨x,U,X⟩| ⟨x,U,y,O,J,v1,v2⟩
    . rw [an] at U;rw [hq] at X;exact gL g (k.ft x U) (List.mem_of_mem_take X)
    . rw [an] at U O;have qX: ∀z∈l,dB u.vars z:=fun z hz=>by rw [ev];exact k.qX g hz
      have n1:=(lx gu (qX x U) v1).2;have n2:=(lx gu (qX y O) v2).2;rw [hq] at n1 n2;have key: ∀z∈l,-z ∉ s.cM bl->z=x0:=fun z hz hn=>by
       refine Classical.byContradiction fun J=>hn ((p8 g (k.ft z hz) I).2 (ax z hz J))
      exact J ((key x U n1).trans (key y O n2).symm)
  . by_cases e2:V=s.nc
    . subst e2;have h1:=Q.2 x0 (by rw [an];exact Z);rw [hq] at h1;have:=(p8 g (k.ft x0 Z) I).1 h1;omega
    . have th:=e.ni.1 Q.1;have av:s.aN V:=by
       refine ⟨?_,?_⟩
       . have:=th.1;rw [ha.n,enc] at this;omega
       . have:=th.2;rw [ha.g,enc,if_neg e2] at this;exact this
      have ea:u.R (.a V)=s.R (.a V):=by rw [e.a,ha.a,enc,if_neg e2,mD]
      have f2:=Q.2;rw [ea,hq] at f2;rcases b bl I V av with ⟨y,O,aw⟩| ⟨y,O,_,_,_,_,b1,_,_⟩
      . exact gL gu (x:=y) (by rw [hq];exact f2 y O) (by rw [hq];exact aw)
      . exact b1 (f2 y O)
 have hT:p+1<=(u.R .tr).length:=by
  rw [hq,List.length_append,ar];have:=List.length_pos_iff.2 grow;omega
 have h2:2 ^ (s.vars - 1 - (u.R .tr).length)<=2 ^ m:=Nat.pow_le_pow_right (by omega) (by omega);unfold bt;rw [ev,eb];omega
end
end Go.Proofs.YtenmibfmhccmiaaGreat.W
namespace Go.PotP
open Go.Luby
theorem AW {a b:Nat} (h:a<=b):Luby.sum a<=Luby.sum b:=by
 induction h with
 |refl=>exact Nat.le_refl _
 |step _ ih=>exact Nat.le_trans ih (by show _<=Luby.sum _+iC _;omega)
theorem Aq {a:Nat} (h:1<=a):Luby.sum a=Luby.sum (a - 1)+iC a:=by
 obtain ⟨b,rfl⟩: ∃b,a=b+1:=⟨a - 1,by omega⟩
 rfl
theorem Ih (k:Nat): ∀a,1<=a->∃j,a<=j/\2 ^ k<=iC j/\Luby.sum (j - 1)<=Luby.sum (a - 1)+k*2 ^ k:=by
 intro a
 induction a using Nat.strongRecOn with
 |_ a ih=>
  intro h1;have hk:=Nat.two_pow_pos k;have Q:=dy k;by_cases e:a<=2 ^ (k+1) - 1
  . refine ⟨2 ^ (k+1) - 1,e,by rw [i9];exact Nat.le_refl _,?_⟩;have h2:=BA (k+1);have h3:=Aq (a:=2 ^ (k+1) - 1) (by omega);rw [i9,h2] at h3;have h4:(k+1)*2 ^ (k+1) / 2=k*2 ^ k+2 ^ k:=by
     rw [Q,Nat.mul_left_comm,Nat.mul_div_cancel_left _ (by omega),Nat.add_mul,Nat.one_mul]
    omega
  . obtain ⟨m,hm⟩: ∃m,bl a=m+1:=⟨bl a - 1,by have:=(q7 (n:=a) (by omega)).1;omega⟩
    have b1:=Bg a;have b2:=(q7 (n:=a) (by omega)).2;rw [hm] at b1 b2;rw [Nat.add_sub_cancel] at b2;have ar:=dy m;have O:k+1<=m:=by
     refine Classical.byContradiction fun hn=> ?_;have:2 ^ (m+1)<=2 ^ (k+1):=Nat.pow_le_pow_right (by omega) (by omega);omega
    have aa:2 ^ (k+1)<=2 ^ m:=Nat.pow_le_pow_right (by omega) O;by_cases e2:a=2 ^ (m+1) - 1
    . refine ⟨a,Nat.le_refl _,?_,by omega⟩;rw [e2,i9];omega
    . obtain ⟨i,hi⟩: ∃i,i=a - (2 ^ m - 1):=⟨_,rfl⟩
      obtain ⟨U,Z,g2,V⟩:=ih i (by omega) (by omega);have J:iC (2 ^ m - 1)=2 ^ (m - 1):=by
       have:=i9 (m - 1)
       rwa [show m - 1+1=m by omega] at this
      obtain ⟨I,q1,q2,X,q4⟩: ∃I,i<=I/\I<=2 ^ m - 1/\2 ^ k<=iC I/\Luby.sum (I - 1)<=Luby.sum (i - 1)+k*2 ^ k:=by
       by_cases e3:U<=2 ^ m - 1
       . exact ⟨U,Z,e3,g2,V⟩
       . refine ⟨2 ^ m - 1,by omega,Nat.le_refl _,?_,Nat.le_trans (AW (by omega)) V⟩;rw [J];exact Nat.pow_le_pow_right (by omega) (by omega)
      refine ⟨2 ^ m - 1+I,by omega,by rw [vW (by omega) q2];exact X,?_⟩;have s1:=nP m (I - 1) (by omega);have Y:=nP m (i - 1) (by omega);rw [show 2 ^ m - 1+I - 1=2 ^ m - 1+ (I - 1) by omega,s1,show a - 1=2 ^ m - 1+ (i - 1) by omega,Y];omega
inductive Tl (D u:Nat):Nat->Nat->Nat->Prop
 |F5 {a l:Nat}:2*D<=u*iC a->Tl D u a l (2*D+l - u*iC a)
 |DP {a l n:Nat}:u*iC a<2*D->Tl D u (a+1) (u*iC (a+1)) n->Tl D u a l (l+n)
theorem Tl.to {D u j:Nat} (J:2*D<=u*iC j): ∀d a,1<=a->a+d=j->∀l,l<=u*iC a->∃n,Tl D u a l n/\n+u*Luby.sum (a - 1)<=u*Luby.sum (j - 1)+2*D:=by
 intro d
 induction d with
 |zero=>
  intro a h1 e l hl;rw [Nat.add_zero] at e;subst e;exact ⟨_,.F5 J,by omega⟩
 |succ d I=>
  intro a h1 e l hl;by_cases h:2*D<=u*iC a
  . refine ⟨_,.F5 h,?_⟩;have:u*Luby.sum (a - 1)<=u*Luby.sum (j - 1):=Nat.mul_le_mul_left _ (AW (by omega));omega
  . obtain ⟨n,t,b⟩:=I (a+1) (by omega) (by omega) _ (Nat.le_refl _);refine ⟨_,.DP (by omega) t,?_⟩;have:=Aq h1;rw [Nat.add_sub_cancel,this,Nat.mul_add] at b;omega
theorem Tl.ex {D u k:Nat} (h:2*D<=u*2 ^ k) {a l:Nat} (h1:1<=a) (hl:l<=u*iC a): ∃n,Tl D u a l n/\n<=u* (k*2 ^ k)+2*D:=by
 obtain ⟨j,Q,I,J⟩:=Ih k a h1;have O:2*D<=u*iC j:=Nat.le_trans h (Nat.mul_le_mul_left _ I);obtain ⟨n,t,b⟩:=Tl.to O (j - a) a h1 (by omega) l hl;refine ⟨n,t,?_⟩;have:=Nat.mul_le_mul_left u J;rw [Nat.mul_add] at this;omega
def qp (q:Nat->Nat) (w:Nat):Nat:=if w=0 then 0 else q (w - 1)
def MA (q:Nat->Nat):Nat->Nat->Nat
 |0,_=>0
 |d+1,w=> (q (w+1) - q w / 2)+MA q d (w+1)
structure NL (D wB C u M:Nat) (q:Nat->Nat) (w h U a l β r μ:Nat):Prop where
 l1:1<=l
 l2:l<=u*iC a
 a1:1<=a
 p2:min (u*iC a - l) r+β+1<=D
 hq:h<q w
 ph:(w<wB/\μ=(q w - h)+ (M - U)+MA q (wB - 1 - w) w+ (D+C))\/
  (wB<=w/\h<=qp q w+r/\((u*iC a - l<=r+D/\Tl D u a l μ/\μ<=C)\/(r+D<u*iC a - l/\μ=(D - r)+C)))
theorem NL.step {D wB C u M:Nat} {q:Nat->Nat} {w h U a l β r μ:Nat} (hu:1<=u) (hC: ∀a l,1<=a->l<=u*iC a->∃n,Tl D u a l n/\n<=C) (hD: ∀w,wB<=w->D<=q w - qp q w) (a6: ∀w,q w<q (w+1))
 (P:NL D wB C u M q w h U a l β r μ) (hβ:1<=β) {w' h1 h' U' V l' β':Nat} {ag du:Bool}
 (ap:(ag=true/\l=1/\V=a+1/\l'=u*iC (a+1))\/(ag=false/\1<l/\V=a/\l'=l - 1))
 (hh:(h1=h+1/\U'=U)\/(h1=h/\U'=U+1/\U'<=M))
 (a8:(du=false/\w'=w/\h'=h1/\h1<q w)\/(du=true/\w'=w+1/\q w<=h1/\h'<=h1/\h1<=2*h'+1))
 (hb:((ag=true\/du=true)/\β'+1=D)\/(ag=false/\du=false/\β'+1=β)):
 ∃r' Y,NL D wB C u M q w' h' U' V l' β' r' Y/\Y+1<=μ:=by
 obtain ⟨l1,l2,a1,p2,hq,ph⟩:=P;have bb:1<=u*iC (a+1):=Nat.le_trans (by omega) (Nat.mul_le_mul hu (Hq (a+1)));have p3:min (u*iC a - l+1) (r+1)+1<=D:=by omega
 have bk:1<=l'/\l'<=u*iC V/\1<=V/\(u*iC V - l'=0\/(ag=false/\u*iC V - l'=u*iC a - l+1)):=by
  rcases ap with ⟨_,_,rfl,rfl⟩| ⟨e,e1,rfl,rfl⟩
  . exact ⟨bb,Nat.le_refl _,by omega,.inl (Nat.sub_self _)⟩
  . exact ⟨by omega,by omega,a1,.inr ⟨e,by omega⟩⟩
 obtain ⟨Q,I,J,X⟩:=bk;obtain ⟨n0,T0,C0⟩:=hC V l' J I;have aw:u*iC a - l+1<2*D->Tl D u a l μ->μ<=C->∃Y,Tl D u V l' Y/\Y<=C/\Y+1<=μ:=by
  intro ht T hc;rcases ap with ⟨_,e1,rfl,rfl⟩| ⟨_,e1,rfl,rfl⟩
  . cases T with
    |F5 h2=>omega
    |DP h2 T2=>exact ⟨_,T2,by omega,by omega⟩
  . cases T with
    |F5 h2=>
     refine ⟨_,.F5 h2,?_,?_⟩<;>omega
    |DP h2 T2=>exact ⟨_,.DP h2 T2,by omega,by omega⟩
 rcases a8 with ⟨d0,rfl,rfl,Z⟩| ⟨d0,rfl,b4,b8,bv⟩
 . have O:min (u*iC V - l') (r+1)+β'+1<=D:=by
    rcases hb with ⟨hr,hb⟩| ⟨e1,_,hb⟩
    . rcases X with e| ⟨e,_⟩
      . omega
      . rcases hr with hr|hr
        . rw [e] at hr;cases hr
        . rw [d0] at hr;cases hr
    . rcases X with e| ⟨_,e⟩<;>omega
   rcases ph with ⟨hw,hμ⟩| ⟨hw,a_,⟨ht,T,hc⟩| ⟨ht,hμ⟩⟩
   . refine ⟨r+1,_,⟨Q,I,J,O,Z,.inl ⟨hw,rfl⟩⟩,?_⟩;omega
   . obtain ⟨Y,T',c',m'⟩:=aw (by omega) T hc;refine ⟨r+1,Y,⟨Q,I,J,O,Z,.inr ⟨hw,by omega,.inl ⟨?_,T',c'⟩⟩⟩,m'⟩;rcases X with e| ⟨_,e⟩<;>omega
   . rcases X with e| ⟨_,e⟩
     . exact ⟨r+1,n0,⟨Q,I,J,O,Z,.inr ⟨hw,by omega,.inl ⟨by omega,T0,C0⟩⟩⟩,by omega⟩
     . exact ⟨r+1,(D - (r+1))+C,⟨Q,I,J,O,Z,.inr ⟨hw,by omega,.inr ⟨by omega,rfl⟩⟩⟩,by omega⟩
 . have b6:β'+1=D:=by
    rcases hb with ⟨_,hb⟩| ⟨_,e,_⟩
    . exact hb
    . rw [d0] at e;cases e
   have O:min (u*iC V - l') 0+β'+1<=D:=by omega
   have aa:h'<q (w+1):=by have:=a6 w;omega
   have b7:q w<=h+1:=by omega
   have b3:qp q (w+1)=q w:=rfl;rcases ph with ⟨hw,hμ⟩| ⟨hw,a_,ph⟩
   . by_cases bu:w+1<wB
     . refine ⟨0,_,⟨Q,I,J,O,aa,.inl ⟨bu,rfl⟩⟩,?_⟩;rw [show wB - 1 - w=(wB - 1 - (w+1))+1 by omega] at hμ;simp only [MA] at hμ;omega
     . rw [show wB - 1 - w=0 by omega] at hμ;simp only [MA] at hμ;by_cases ht:u*iC V - l'<=0+D
       . exact ⟨0,n0,⟨Q,I,J,O,aa,.inr ⟨by omega,by omega,.inl ⟨ht,T0,C0⟩⟩⟩,by omega⟩
       . exact ⟨0,(D - 0)+C,⟨Q,I,J,O,aa,.inr ⟨by omega,by omega,.inr ⟨by omega,rfl⟩⟩⟩,by omega⟩
   . have b_:=hD w hw;rcases ph with ⟨ht,T,hc⟩| ⟨ht,hμ⟩
     . obtain ⟨Y,T',c',m'⟩:=aw (by omega) T hc;refine ⟨0,Y,⟨Q,I,J,O,aa,.inr ⟨by omega,by omega,.inl ⟨?_,T',c'⟩⟩⟩,m'⟩;rcases X with e| ⟨_,e⟩<;>omega
     . omega
end Go.PotP
namespace Go.Proofs.YtenmibfmhccmiaaGreat.W
open Go Go.Fw Go.RowKit Go.SoP Go.LiP Go.LeP
open Go.IntKind (i64)
section
variable {w0 w w' w1 w2 u:World} {B N i:Nat} {L L' L1:Nat->Nat} {x:Xs} {l:List Int} {cs:List (List Int)} {hv:List (Nat × List Int)} {un:List (List Int)}
theorem SR.N5 (h:SR w0 w B L N x) (v:Int):Calls Tryz.prog fE.id #[Hp.ptr x.hb,.int .i64 v] w fun e w'=> ∃r:Int,e= .returned (.int .i64 r)/\∃L',SR w0 w' B L' N x/\Kp w0 w w' L L':=by
 obtain ⟨z,O,z2,z3,z4⟩:=h.hp id;refine (Hp.JG O z2 v).mono ?_;rintro e w' ⟨rfl,y,X,Z,J,Y⟩;have hf:y.bK x.hb=z.bK x.hb:=by
  rw [J.bK];split
  . split<;>rfl
  . rfl
 have V: ∀u:Int,1<=u->u<=N->(0<HeapP.g y.at_ u↔x.S u):=fun u Q I=>by
  rw [J.has u Q I,<- z3 u Q I];split
  . split<;>exact Iff.rfl
  . exact Iff.rfl
 have:=h.heap z4 O.lt X Z (S':=x.S) V Y fun k U=> .inl (by rw [<- hf];exact U);exact ⟨_,rfl,_,this.1,this.2⟩
theorem SR.Na (h:SR w0 w B L N x):Calls Tryz.prog eC.id #[Hp.ptr x.hb] w fun e w'=>e= .returned (.tuple #[])/\∃L',SR w0 w' B L' N x/\Kp w0 w w' L L':=by
 obtain ⟨z,I,z2,z3,z4⟩:=h.hp id;refine (Hp.Hg I z2).mono ?_;rintro e w' ⟨rfl,y,X,Z,Q,Y⟩;have hf:y.bK x.hb=z.bK x.hb:=by
  rw [Q.bK];split<;>rfl
 have V: ∀u:Int,1<=u->u<=N->(0<HeapP.g y.at_ u↔x.S u):=fun u J O=>by
  rw [Q.has u J O,<- z3 u J O];split<;>exact Iff.rfl
 have:=h.heap z4 I.lt X Z (S':=x.S) V Y fun k U=> .inl (by rw [<- hf];exact U);exact ⟨rfl,_,this.1,this.2⟩
structure nF (N:Nat) (cs:List (List Int)) (x:Xs):Prop where
 ci:oQ N cs x.s (x.hv.map ED) (x.un.map (·.2))
 hi:zU N x.s x.S
 ph:x.ph.length=N+1
 n:x.m.n=N
 Kx: ∀u∈x.hv,Kv u
 bE:0<=x.m.bE/\x.m.bE<=100
 pf:PF cs x.s (x.pr.map D8)
 mo:x.mo= []
theorem nF.own (st:nF N cs x) {m':Me} (h:m'.n=x.m.n/\m'.bE=x.m.bE):nF N cs {x with m:=m'}:=
 ⟨st.ci,st.hi,st.ph,by rw [h.1];exact st.n,st.Kx,by rw [h.2];exact st.bE,st.pf,st.mo⟩
theorem PF.bN {s:aH} {pr:List (Bool × List Int)} (h:PF cs s pr) (bi:Int):PF cs (bN s bi) pr:=by
 unfold Go.Proofs.YtenmibfmhccmiaaGreat.W.bN;split
 . exact h.bD
 . exact h
theorem oQ.bN {s:aH} (h:oQ N cs s hv un) (bi:Int):oQ N cs (bN s bi) hv un:=by
 unfold Go.Proofs.YtenmibfmhccmiaaGreat.W.bN;split
 . exact h.bD (by assumption)
 . exact h
theorem yF {s:aH} {bi:Int}:(bN s bi).nc=s.nc:=by unfold bN;split<;>rfl
theorem wu {s:aH} {S S':Int->Prop} {bi:Int} (g:aL s) (hv:s.vars=N) (h:zU N s S) (O: ∀v,S v->S' v) (ht: ∀y∈s.R .tr,y ∉ (bN s bi).R .tr->S' (bf y)):zU N (bN s bi) S':=by
 intro v v1 v2 Q;obtain ⟨V,U,ev⟩:=yG (s:=s) bi;have J:dB s.vars v:=⟨by omega,by omega,by omega⟩
 have I:dB (bN s bi).vars v:=by rw [ev];exact J
 obtain ⟨a,b⟩:=(hG (sX g bi) I).1 Q;by_cases m1:v∈s.R .tr
 . have:=ht v m1 a
   rwa [show bf v=v by unfold bf;rw [if_neg (by omega)]] at this
 . by_cases m2: -v∈s.R .tr
   . have:=ht (-v) m2 b
     rwa [p9,show bf v=v by unfold bf;rw [if_neg (by omega)]] at this
   . exact O v (h v v1 v2 ((hG g J).2 ⟨m1,m2⟩))
theorem nF.bN (st:nF N cs x) {bi:Int} {S':Int->Prop} {I:List Int} (hp:I.length=N+1) (J: ∀v,x.S v->S' v) (ht: ∀y∈x.s.R .tr,y ∉ (bN x.s bi).R .tr->S' (bf y)):nF N cs {x with s:=bN x.s bi,S:=S',ph:=I}:=
 ⟨st.ci.bN bi,wu st.ci.g st.ci.v st.hi J ht,hp,st.n,st.Kx,st.bE,st.pf.bN bi,st.mo⟩
theorem Ny {s':aH} {sl hs us:Sl} {lv:Int}:(x.lrn s' sl l lv hs us).m=x.m:=by unfold Xs.lrn;split<;>rfl
theorem Kl {s':aH} {sl hs us:Sl} {lv:Int}:(x.lrn s' sl l lv hs us).s=s':=by unfold Xs.lrn;split<;>rfl
theorem LD {s':aH} {sl hs us:Sl} {lv:Int}:(x.lrn s' sl l lv hs us).pr=x.pr:=by unfold Xs.lrn;split<;>rfl
theorem Jt {s':aH} {sl hs us:Sl} {lv:Int}:(x.lrn s' sl l lv hs us).hv.length+ (x.lrn s' sl l lv hs us).un.length=x.hv.length+x.un.length+1/\(x.lrn s' sl l lv hs us).hv.length<=x.hv.length+1:=by
 unfold Xs.lrn;split
 . simp;omega
 . simp;omega
theorem KX {s':aH} {sl hs us:Sl} {lv:Int}:((x.lrn s' sl l lv hs us).hv.length=x.hv.length+1/\(x.lrn s' sl l lv hs us).un=x.un)\/((x.lrn s' sl l lv hs us).hv.length=x.hv.length/\∃c:Us,c.2.length<=1/\(x.lrn s' sl l lv hs us).un=x.un++ [c]):=by
 unfold Xs.lrn;split
 . exact .inl ⟨by simp,rfl⟩
 . exact .inr ⟨rfl,(sl,l),by show l.length<=1;omega,rfl⟩
theorem qS {s:aH}:(bN s 0).R .be= []:=by
 unfold bN;have e:(max 0 (0:Int)).toNat=0:=rfl;rw [e];split
 . rw [rq];rfl
 . exact List.eq_nil_of_length_eq_zero (by omega)
theorem nF.lrn (st:nF N cs x) {t:aH} {S':Int->Prop} {Q:List Int} {bl:Nat} (k:LS x.s l bl) (f:AB N cs l) (X:Bp x.s l) (ht:t=x.s.bD bl) {s':aH} (ha:kI t l s') (V:aL s') (hp:Q.length=N+1) (hi:zU N t S') {sl hs us q:Sl} {sl2:Sl} {lv:Int} (hl:0<=lv/\lv<=l.length) (Y:l.length<=4096):
 nF N cs ({x with s:=t,S:=S',ph:=Q,ps:=q,pr:=x.pr++ [(false,sl2,l)]}.lrn s' sl l lv hs us):=by
 subst ht;have U:=st.ci.MH k f ha V;have pf:=PF.add st.pf k (by rw [st.ci.v];exact k.Md st.ci) X ha;have I:zU N s' S':=by
  intro v v1 v2 Z;have J:dB s'.vars v:=by rw [U.v];exact ⟨by omega,by omega,by omega⟩
  have hb:dB (x.s.bD bl).vars v:=by
   have:s'.vars=(x.s.bD bl).vars:=ha.v;rw [<- this];exact J
  have:=(hG V J).1 Z;rw [ha.tr] at this;exact hi v v1 v2 ((hG (lw st.ci.g k.lt) hb).2 this)
 have O:PF cs s' ((x.pr++ [(false,sl2,l)]).map D8):=by rw [List.map_append];exact pf
 by_cases e:1<l.length
 . unfold Xs.lrn;rw [if_pos e];refine ⟨?_,I,hp,st.n,fun u hu=> ?_,st.bE,O,st.mo⟩
   . have:=U.HV;show oQ N cs s' ((x.hv++ [_]).map ED) _;rw [List.map_append];exact this
   . rcases List.mem_append.1 hu with hu|hu
     . exact st.Kx u hu
     . rw [List.mem_singleton] at hu;subst hu;exact ⟨hl.1,hl.2,by show (l.length:Int)<=4096;omega,Y⟩
 . unfold Xs.lrn;rw [if_neg e];refine ⟨?_,I,hp,st.n,st.Kx,st.bE,O,st.mo⟩;have:=U.Gd;show oQ N cs s' _ ((x.un++ [_]).map _);rw [List.map_append];exact this
def Ca (lrn bE:Int) (h:Nat):Prop:=0<Re.kC lrn bE/\Re.kC lrn bE<=(h:Int)
structure Rl (N:Nat) (x x':Xs):Prop where
 nc:x'.s.nc=x.s.nc
 cf:x'.m.cf=x.m.cf
 de:x'.m.de=x.m.de
 re:x'.m.re=x.m.re
 vj:x'.m.vj=x.m.vj
 lrn:x'.m.lrn=x.m.lrn
 ke:x'.m.ke=x.m.ke
 pc:x'.m.pu=x.m.pu/\x'.m.pa=x.m.pa/\x'.m.pl=x.m.pl
 un:x'.un=x.un
 dr:x.m.dr<=x'.m.dr/\x'.m.dr+x'.hv.length=x.m.dr+x.hv.length
 pl:x'.pr.length+x'.hv.length=x.pr.length+x.hv.length
 bz:x.s.R .be= []->x'.s.R .be= []
 hv:(x'.m.bE=x.m.bE/\x'.hv.length=x.hv.length/\x'.s=x.s/\¬Ca x.m.lrn x.m.bE x.hv.length)\/
  (x.m.bE<100/\x'.m.bE=x.m.bE+1/\x'.hv.length<=x.hv.length/\x.hv.length<=2*x'.hv.length+1/\Ca x.m.lrn x.m.bE x.hv.length/\x'.s.R .be= [])
theorem Kg (h:SR w0 w B L N x) (st:nF N cs x) (hN:N<=1000) (h3:x.hv.length<=1000000) (hq:(x.hv.length:Int)<Re.kC x.m.lrn 100) (bc:x.pr.length<=900000000) (bY:0<=x.m.dr/\x.m.dr<=1000000000) {K:World->Prop}
 (hk: ∀w' L' x',SR w0 w' B L' N x'->Kp w0 w w' L L'->nF N cs x'->Rl N x x'->K w'):
 ∃X,(some (Addr.mk B 0 none))=some X/\∃ay Q an,w.drew.cell? (X.add 11)=some (.slice ay Q an)/\
  ∃a53,(some (Addr.mk B 0 none))=some a53/\∃ad,w.drew.cell? ((a53.add 2).add 2)=some (.int .i64 ad)/\
  ∃a55,(some (Addr.mk B 0 none))=some a55/\∃V,w.drew.cell? (a55.add 13)=some (.int .i64 V)/\
  Calls Tryz.prog 131 #[.int .i64 (Q:Int),.int .i64 ad,.int .i64 V] w.drew fun e J=> ∃Z,e= .returned (.bool Z)/\
  aG Z
  (Calls Tryz.prog 128 #[.pointer (some (Addr.mk B 0 none)),.int .i64 0] J fun e ag=>e= .returned (.tuple #[])/\
    Calls Tryz.prog 132 #[.pointer (some (Addr.mk B 0 none))] ag fun e aT=>e= .returned (.tuple #[])/\
    K aT)
  (K J):=by
 have D:=h.drew;have aw:=(h.hv id).2.1;refine ⟨_,rfl,_,_,_,ae D.at rfl,_,rfl,_,bG D.at rfl,_,rfl,_,ae D.at rfl,(Re.KT _ _ _ _).mono ?_⟩;rintro e J ⟨rfl,ap⟩;have Y:=D.grow ap;have ar:Kp w0 w J L L:=jY.grow ((aF.refl w).drew.trans ap);refine ⟨_,rfl,aj (fun r=> ?_) (fun r=> ?_)⟩
 . rw [Bool.and_eq_true,decide_eq_true_eq,decide_eq_true_eq,aw] at r;refine (vR Y st.ci.g st.ci.v hN st.ph 0).mono ?_;rintro e ag ⟨rfl,cg,cp,cb,b4,a6,U,av,aa⟩;have I:=st.bN U av aa;have hw:=st.bE;have ax:x.m.bE<100:=by
    refine Classical.byContradiction fun hn=> ?_;have e1:x.m.bE=100:=by omega
    rw [e1] at r;omega
   refine ⟨rfl,(Ir b4 I.ci I.hi (by show x.hv.length<=_;omega) bc I.Kx bY I.pf).mono ?_⟩;rintro e aT ⟨rfl,c0,cm,ce,b_,cc,b8,b6,bk,b5,b3,bx,a8,bb,bv,az,O,ac,bu,a',a_⟩;have ew:ka (i64.wrap (x.m.bE+1)) 100=x.m.bE+1:=by
    rw [aD (by omega) (by omega)];unfold ka;rw [if_neg (by omega)]
   refine ⟨rfl,hk _ _ _ b5 ((ar.trans a6).trans bk) ⟨b3,bx,U,st.n,bb,?_,ac,st.mo⟩ ⟨?_,rfl,rfl,rfl,rfl,rfl,rfl,⟨rfl,rfl,rfl⟩,rfl,⟨bu,a'⟩,bv,fun _=>O.trans qS,.inr ⟨ax,ew,az,a_,r,O.trans qS⟩⟩⟩
   . show 0<=ka (i64.wrap (x.m.bE+1)) 100/\ka (i64.wrap (x.m.bE+1)) 100<=100;rw [ew];omega
   . rw [a8];exact yF
 . rw [<- Bool.not_eq_true,Bool.and_eq_true,decide_eq_true_eq,decide_eq_true_eq,aw] at r;exact hk _ _ _ Y ar st ⟨rfl,rfl,rfl,rfl,rfl,rfl,rfl,⟨rfl,rfl,rfl⟩,rfl,⟨Int.le_refl _,rfl⟩,rfl,id,.inl ⟨rfl,rfl,rfl,r⟩⟩
end
section
variable {w0 w w' w1 w2 u:World} {B N i:Nat} {L L' L1:Nat->Nat} {x:Xs} {l:List Int} {cs:List (List Int)} {hv:List (Nat × List Int)} {un:List (List Int)}
structure Og (N:Nat) (x x':Xs):Prop where
 nc:x'.s.nc=x.s.nc+1
 cf:x'.m.cf=x.m.cf+1
 de:x'.m.de=x.m.de
 re:x'.m.re=x.m.re\/x'.m.re=x.m.re+1
 vj:x'.m.vj=x.m.vj
 lrn:x'.m.lrn=x.m.lrn
 ke:x'.m.ke=x.m.ke
 dr:x.m.dr<=x'.m.dr/\x'.m.dr+x'.hv.length<=x.m.dr+x.hv.length+1
 pl:x'.pr.length+x'.hv.length<=x.pr.length+x.hv.length+2
 pc:x'.m.pu=Lu.oJ x.m.pu x.m.pa x.m.pl/\x'.m.pa=Lu.kH x.m.pu x.m.pa x.m.pl/\x'.m.pl=Lu.mW x.m.pu x.m.pa x.m.pl
 ch: ∃h1:Nat,((h1=x.hv.length+1/\x'.un=x.un)\/(h1=x.hv.length/\∃c:Us,c.2.length<=1/\x'.un=x.un++ [c]))/\
  ((x'.m.bE=x.m.bE/\x'.hv.length=h1/\¬Ca x.m.lrn x.m.bE h1)\/(x.m.bE<100/\x'.m.bE=x.m.bE+1/\x'.hv.length<=h1/\h1<=2*x'.hv.length+1/\Ca x.m.lrn x.m.bE h1))
 bz:Lu.nj x.m.pu x.m.pa x.m.pl=true\/x'.m.bE=x.m.bE+1->x'.s.R .be= []
 rb: ∀β,wT x.s β->1<=β/\(Lu.nj x.m.pu x.m.pa x.m.pl=false->x'.m.bE=x.m.bE->wT x'.s (β - 1))
theorem At (h:SR w0 w B L N x) (st:nF N cs x) (hN:N<=1000) (h3:x.hv.length<=900000/\x.un.length<=900000) (hq:((x.hv.length+1:Nat):Int)<Re.kC x.m.lrn 100) (hB:t7 x.s i) (hl:0< (x.s.R .be).length) (fA:x.s.nc<262144) (hK:0<=x.m.cf/\x.m.cf<=1000000000) (h2:0<=x.m.re/\x.m.re<=1000000000) (hF:x.pr.length<=800000000) (fL:0<=x.m.dr/\x.m.dr<=1000000000):
 Calls Tryz.prog bW.id #[bL B,.int .i64 i] w fun e w'=>e= .returned (.tuple #[])/\∃L' J,SR w0 w' B L' N J/\Kp w0 w w' L L'/\nF N cs J/\Og N x J:=by
 have g:=st.ci.g;refine bW.ak ⟨_,rfl,_,bG h.at rfl,_,rfl,?_⟩;have f0:i64.wrap (x.m.cf+1)=x.m.cf+1:=aD (by omega) (by omega);rw [f0];refine ig h.at rfl rfl fun w4 h4 m4=> ?_;obtain ⟨S4,k4⟩:=h.own (m':= {x.m with cf:=x.m.cf+1}) h4 m4;refine ⟨_,rfl,_,ae S4.at rfl,(S4.Gc g i).mono ?_⟩;rintro e w7 ⟨q8,d8,rfl,o8,g7,f8⟩;have gs:x.s.is (i:Int)=true:=aH.zD.2 ⟨by omega,by rw [Int.toNat_natCast];exact hB.1⟩;have eg:aH.is {x with m:= {x.m with cf:=x.m.cf+1}}.s (i:Int)=true:=gs;rw [eg,if_pos rfl,Int.toNat_natCast] at o8 ⊢;have o8:da aC w7 q8 d8 (x.s.R (.a i)):=o8;obtain ⟨bk,a6⟩: ∃bk,bk=x.s.R (.a i):=⟨_,rfl⟩
 have et:=g.al i;rw [<- a6] at o8 et;show ∃hT hE hW r9,Ending.returned (.tuple #[.slice q8 (x.s.R (.a i)).length d8,.bool true])=_/\_;rw [<- a6];refine ⟨_,_,_,_,rfl,?_⟩;have S7:=S4.new g7 9;have k7:Kp w0 w4 w7 L (jE L w4.heap.size 9):=jY.new g7 9;have vb:Vw (Value.int .i64) w7 q8 (x.s.R (.a i)):=by rw [<- a6];exact o8.vw
 have eL:oQ N cs ({x with m:= {x.m with cf:=x.m.cf+1}}:Xs).s (x.hv.map ED) (x.un.map (·.2)):=st.ci;refine (Ip S7 eL hN hB hl vb (by rw [a6])).mono ?_;rintro e aa ⟨q,d,l,bl,lv,rfl,ol,fl,aw,Ls,Fl,e',gy,fs⟩;have Ls:LS x.s l bl:=Ls;refine ⟨_,_,_,_,_,rfl,?_⟩;obtain ⟨fq,gw⟩:SR w0 aa B _ N _/\Kp w0 w7 aa _ _:=⟨S7.new aw 9,jY.new aw 9⟩
 have d4:RO aa (jE (jE L w4.heap.size 9) w7.heap.size 9) ⟨q,l.length,d⟩ l:=⟨rfl,ol.vw,fun k hk=> ⟨iA (fl k hk),ol.lt k hk⟩⟩
 have dc:=Ls.Md st.ci;have b_:l.length<=4096:=by
  have h1:=mV (n:=N+1) (l:=l.map bf) ?_ fun y hy=> ?_
  . simp at h1;omega
  . unfold List.Nodup;rw [List.pairwise_map];refine List.Pairwise.imp_of_mem (fun {a b} ha hb eT e=> ?_) Ls.nd;rcases zR e with e|e
    . exact eT e
    . exact dc.nt b hb (by rw [<- e];exact ha)
  . obtain ⟨z,hz,rfl⟩:=List.mem_map.1 hy;have:=(dc.qX z hz).bf;omega
 have Md:uQ x.s.vars l=true:=LJ (by rw [st.ci.v];omega) (fun y hy=>Ls.qX g hy) b_;refine (iO (o8.vw.grow aw) rfl (by omega)).mono ?_;rintro e O ⟨gr,hV,rfl,ed,a',f15⟩;refine ⟨_,_,_,rfl,?_⟩;have cg:=fq.new a' 0;have b7:Kp w0 aa O _ (jE (jE (jE L w4.heap.size 9) w7.heap.size 9) aa.heap.size 0):=jY.new a' 0;obtain ⟨I,bY⟩: ∃I,I=jE (jE (jE L w4.heap.size 9) w7.heap.size 9) aa.heap.size 0:=⟨_,rfl⟩
 have V: ∀b,aJ gr=some b->I b=0/\w.heap.size<=b:=fun b hb=> ⟨by rw [bY];exact iA (f15 b hb),by have:=f15 b hb;have:=m4.size;have:=g7.size;have:=aw.size;omega⟩
 rw [<- bY] at cg b7;have hj:=h.g.size;refine ed.ME rM (ol.grow a') rfl rfl eV (by omega) fun ac ag g6 cm fj d9 g0=> ?_;have ef:aF (fun k=>I k=0/\w0.heap.size<=k) O ac:=fj.mono fun b _ e=> ⟨(V b e).1,by have:=(V b e).2;omega⟩
 obtain ⟨fu,a_⟩:=cg.NW (L':=jE I O.heap.size 0) ef fun _ hk=>cN hk;have a_:Kp w0 O ac I (jE I O.heap.size 0):=a_.tK fun i e=>by rw [e];decide
 have ax: ∀b,aJ ag=some b->jE I O.heap.size 0 b=0/\w.heap.size<=b:=fun b hb=>by
  rcases d9 with rfl|rfl
  . rw [cN (ed.lt b hb)];exact V b hb
  . have:=aO hb;have:=m4.size;have:=g7.size;have:=aw.size;have:=a'.size;exact ⟨iA (by omega),by omega⟩
 obtain ⟨U,az⟩: ∃U:Nat->Nat,U=fun k=>if aJ ag=some k then 9 else jE I O.heap.size 0 k:=⟨_,rfl⟩
 have b4: ∀k,jE I O.heap.size 0 k≠0->U k=jE I O.heap.size 0 k:=fun k hk=>by
  rw [az];show (if aJ ag=some k then 9 else _)=_;rw [if_neg fun e=>hk (ax k e).1]
 have fd:=fu.vH b4;have bv:=(((k4.trans k7).trans gw).trans b7).trans a_;have di:Kp w0 w ac L U:=⟨bv.mod,fun k hk=>by
  rw [az];show (if aJ ag=some k then 9 else _)=_;rw [if_neg fun e=>by have:=(ax k e).2;omega];exact bv.Ac k hk⟩
 have cT:RO ac U ⟨q,l.length,d⟩ l:=((b7.trans a_).ro d4).vH b4;have ce:R9 ac U ag:=⟨fun k hk=> ⟨by rw [az];show (if aJ ag=some k then 9 else _)=9;rw [if_pos hk],cm.lt k hk⟩⟩
 have ea:=cm.vw;have c7:(bk++l).length<=10000:=by rw [List.length_append];omega
 generalize bk++l=m at ea c7 ⊢;refine ⟨fun v u z=> ∃ (t:Nat) (L1:Nat->Nat),v=t/\t<=m.length/\z=m.length - t/\SR w0 u B L1 N {x with m:= {x.m with cf:=x.m.cf+1}}/\Kp w0 ac u U L1,⟨_,0,U,rfl,Nat.zero_le _,rfl,fd,Kp.refl⟩,?_⟩;rintro v u z _ ⟨t,L1,rfl,ht,rfl,SS,kk⟩;refine aj (fun r=> ?_) (fun r=> ?_)
 . have r:t<m.length:=by simp at r;omega
   refine (kk.vw ea ce).ix 0 (by omega) rfl (by omega) fun a ha=> ⟨_,ha,_,rfl,_,ae SS.at rfl,(SS.N5 _).mono ?_⟩
   rintro e hX ⟨g5,rfl,fT,ew,fv⟩;refine ⟨_,rfl,_,?_,t+1,fT,wN (by omega) (by omega),by omega,rfl,ew,kk.trans fv⟩;omega
 clear r;refine ⟨_,rfl,_,ae SS.at rfl,SS.Na.mono ?_⟩;rintro e g3 ⟨rfl,hg,ga,cp⟩;refine ⟨rfl,?_⟩;have bx:=(kk.trans cp).ro cT;refine (DZ ga (by show x.pr.length<=_;omega) bx.v rfl (by omega)).mono ?_;rintro e hL ⟨rfl,hU,ar,Q,eR,dw⟩;have du:=dw.ro bx;have f1:imax 0 (bl:Int)=bl:=by unfold imax;split<;>omega
 rw [f1];refine ⟨rfl,(vR eR g st.ci.v hN st.ph bl).mono ?_⟩;rintro e fP ⟨rfl,fi,S',a8,bb,ei,ek,dp,c2⟩;have dk:=ei.ro du;have eb:bN x.s bl=x.s.bD bl:=by
  unfold bN;have e1:(max 0 (bl:Int)).toNat=bl:=by omega
  rw [e1,if_pos Ls.lt]
 have bb:SR w0 fP B fi N {x with m:= {x.m with cf:=x.m.cf+1},ps:=ar,pr:=x.pr++ [(false,Q,l)],s:=bN x.s bl,S:=S',ph:=a8}:=bb;have bu:zU N (bN x.s bl) S':=wu g st.ci.v st.hi dp c2;rw [eb] at bb bu;have gb:=lw g Ls.lt;refine ⟨rfl,(IC bb gb fA Md dk b_ lv (by show x.hv.length<=_;omega) (by show x.un.length<=_;omega)).mono ?_⟩;rintro e gl ⟨rfl,gn,s',hs,us,Z,gA,gm,ha⟩;have ha:kI (x.s.bD bl) l s':=ha;have X:=(st.own (m':= {x.m with cf:=x.m.cf+1}) ⟨rfl,rfl⟩).lrn (q:=ar) (sl2:=Q) (sl:=⟨q,l.length,d⟩) (hs:=hs) (us:=us) Ls Fl e' rfl ha gm ek bu ⟨gy,fs⟩ b_;have cc:=(((((di.trans kk).trans cp).trans dw).trans ei).trans gA)
 have gc:({x with m:= {x.m with cf:=x.m.cf+1},ps:=ar,pr:=x.pr++ [(false,Q,l)],s:=x.s.bD bl,S:=S',ph:=a8}:Xs).lrn s' ⟨q,l.length,d⟩ l lv hs us=({x with m:= {x.m with cf:=x.m.cf+1},ps:=ar,pr:=x.pr++ [(false,Q,l)],s:=x.s.bD bl,S:=S',ph:=a8}:Xs).lrn s' ⟨q,l.length,d⟩ l lv hs us:=rfl;obtain ⟨y,hy⟩: ∃y,y=({x with m:= {x.m with cf:=x.m.cf+1},ps:=ar,pr:=x.pr++ [(false,Q,l)],s:=x.s.bD bl,S:=S',ph:=a8}:Xs).lrn s' ⟨q,l.length,d⟩ l lv hs us:=⟨_,rfl⟩
 have ym:y.m= {x.m with cf:=x.m.cf+1}:=by rw [hy];exact Ny
 have ys:y.s.nc=x.s.nc+1:=by rw [hy,Kl];exact ha.n
 have yp:y.pr.length=x.pr.length+1:=by rw [hy,LD];simp
 have yl:y.hv.length+y.un.length=x.hv.length+x.un.length+1/\y.hv.length<=x.hv.length+1:=by rw [hy];exact Jt
 have Z:SR w0 gl B gn N y:=by rw [hy];exact Z
 have X:nF N cs y:=by rw [hy];exact X
 have yc:(y.hv.length=x.hv.length+1/\y.un=x.un)\/(y.hv.length=x.hv.length/\∃c:Us,c.2.length<=1/\y.un=x.un++ [c]):=by rw [hy];exact KX
 have yr: ∀β,wT x.s β->1<=β/\wT y.s (β - 1):=fun β hb=>by rw [hy,Kl];exact hb.EZ g st.ci.FD hB Ls ha
 clear hy gc;refine ⟨rfl,_,rfl,_,_,_,⟨bG Z.at rfl,bG Z.at rfl,bG Z.at rfl,trivial⟩,(Lu.EE _ _ _ _).mono ?_⟩;rintro e hI ⟨rfl,ec⟩;refine ⟨_,_,_,_,rfl,_,rfl,?_⟩;have el:=Z.grow ec;refine bO el.at rfl rfl fun hh gd gz=> ?_;obtain ⟨aT,fk⟩:=el.own (m':= {y.m with pu:=Lu.oJ y.m.pu y.m.pa y.m.pl,pa:=Lu.kH y.m.pu y.m.pa y.m.pl,pl:=Lu.mW y.m.pu y.m.pa y.m.pl}) gd gz;have c1:=X.own (m':= {y.m with pu:=Lu.oJ y.m.pu y.m.pa y.m.pl,pa:=Lu.kH y.m.pu y.m.pa y.m.pl,pl:=Lu.mW y.m.pu y.m.pa y.m.pl}) ⟨rfl,rfl⟩;have bc:=(cc.trans (jY.grow ec)).trans fk;have d5:(y.hv.length:Int)<Re.kC y.m.lrn 100:=by rw [ym];show (y.hv.length:Int)<Re.kC x.m.lrn 100;omega
 have b3:0<=y.m.dr/\y.m.dr<=1000000000:=by rw [ym];exact fL
 have dV: ∀ {z J:Xs},Rl N z J->nF N cs J->z.m.cf=y.m.cf->z.m.de=y.m.de->(z.m.re=y.m.re\/z.m.re=y.m.re+1)->z.m.vj=y.m.vj->z.m.lrn=y.m.lrn->z.m.ke=y.m.ke->z.m.dr=y.m.dr->z.m.bE=y.m.bE->z.s.nc=y.s.nc->z.hv=y.hv->z.un=y.un->z.pr=y.pr->
  (z.m.pu=Lu.oJ y.m.pu y.m.pa y.m.pl/\z.m.pa=Lu.kH y.m.pu y.m.pa y.m.pl/\z.m.pl=Lu.mW y.m.pu y.m.pa y.m.pl)->((Lu.nj y.m.pu y.m.pa y.m.pl=true/\z.s.R .be= [])\/(Lu.nj y.m.pu y.m.pa y.m.pl=false/\z.s=y.s))->Og N x J:=by
  intro z J R sx e1 e2 e3 e4 e5 e6 e7 e8 e9 b6 fa gf b' ay;have hw:=st.bE;have ap:=R.hv;rw [b6,e8,e5,ym] at ap;have ap:(J.m.bE=x.m.bE/\J.hv.length=y.hv.length/\J.s=z.s/\¬Ca x.m.lrn x.m.bE y.hv.length)\/(x.m.bE<100/\J.m.bE=x.m.bE+1/\J.hv.length<=y.hv.length/\y.hv.length<=2*J.hv.length+1/\Ca x.m.lrn x.m.bE y.hv.length/\J.s.R .be= []):=ap;have c0:=R.pc;rw [b'.1,b'.2.1,b'.2.2,ym] at c0;rw [ym] at ay;have ay:(Lu.nj x.m.pu x.m.pa x.m.pl=true/\z.s.R .be= [])\/(Lu.nj x.m.pu x.m.pa x.m.pl=false/\z.s=y.s):=ay;refine ⟨by rw [R.nc,e9,ys],by rw [R.cf,e1,ym],by rw [R.de,e2,ym],by rw [R.re];rw [ym] at e3;exact e3,by rw [R.vj,e4,ym],by rw [R.lrn,e5,ym],by rw [R.ke,e6,ym],?_,?_,c0,⟨y.hv.length,?_,?_⟩,?_,?_⟩
  . have:=R.dr;rw [e7,b6,ym] at this;have:x.m.dr<=J.m.dr/\J.m.dr+J.hv.length=x.m.dr+y.hv.length:=this;omega
  . have:=R.pl;rw [gf,b6] at this;omega
  . rw [R.un,fa];exact yc
  . rcases ap with ⟨a,b,_,d⟩| ⟨a,b,c,d,f,_⟩
    . exact .inl ⟨a,b,d⟩
    . exact .inr ⟨a,b,c,d,f⟩
  . rintro (h|h)
    . rcases ay with ⟨_,e⟩| ⟨e,_⟩
      . exact R.bz e
      . rw [h] at e;cases e
    . rcases ap with ⟨a,_⟩| ⟨_,_,_,_,_,e⟩
      . omega
      . exact e
  . intro β hb;obtain ⟨b1,b2⟩:=yr β hb;refine ⟨b1,fun ha h6=> ?_⟩;rcases ay with ⟨e,_⟩| ⟨_,e⟩
    . rw [ha] at e;cases e
    . rcases ap with ⟨_,_,c,_⟩| ⟨_,b,_⟩
      . rw [c,e];exact b2
      . omega
 refine aj (fun b8=> ?_) (fun b8=> ?_)
 . refine ⟨_,rfl,_,bG aT.at rfl,_,rfl,?_⟩;refine ig aT.at rfl rfl fun hQ gp gv=> ?_;have ey:i64.wrap (y.m.re+1)=y.m.re+1:=by
    have:y.m.re=x.m.re:=by rw [ym]
    rw [aD (by omega) (by omega)]
   obtain ⟨f',eA⟩:=aT.own (m':= {y.m with pu:=Lu.oJ y.m.pu y.m.pa y.m.pl,pa:=Lu.kH y.m.pu y.m.pa y.m.pl,pl:=Lu.mW y.m.pu y.m.pa y.m.pl,re:=i64.wrap (y.m.re+1)}) gp gv;have Y:=X.own (m':= {y.m with pu:=Lu.oJ y.m.pu y.m.pa y.m.pl,pa:=Lu.kH y.m.pu y.m.pa y.m.pl,pl:=Lu.mW y.m.pu y.m.pa y.m.pl,re:=i64.wrap (y.m.re+1)}) ⟨rfl,rfl⟩;refine (vR f' Y.ci.g Y.ci.v hN Y.ph 0).mono ?_;rintro e hJ ⟨rfl,hP,ho,gT,gJ,ez,ej,c3,d'⟩;have dd:=Y.bN ej c3 d';refine ⟨rfl,Kg gJ dd hN (by show y.hv.length<=_;omega) d5 (by show y.pr.length<=_;omega) b3 fun w' L' J S' k' s' R=> ?_⟩;exact ⟨rfl,L',J,S',((bc.trans eA).trans ez).trans k',s',dV R s' rfl rfl (.inr ey) rfl rfl rfl rfl rfl yF rfl rfl rfl ⟨rfl,rfl,rfl⟩ (.inl ⟨b8,qS⟩)⟩
 . refine Kg aT c1 hN (by show y.hv.length<=_;omega) d5 (by show y.pr.length<=_;omega) b3 fun w' L' J S' k' s' R=> ?_;exact ⟨rfl,L',J,S',bc.trans k',s',dV R s' rfl rfl (.inl rfl) rfl rfl rfl rfl rfl rfl rfl rfl rfl ⟨rfl,rfl,rfl⟩ (.inr ⟨b8,rfl⟩)⟩
end
end Go.Proofs.YtenmibfmhccmiaaGreat.W
