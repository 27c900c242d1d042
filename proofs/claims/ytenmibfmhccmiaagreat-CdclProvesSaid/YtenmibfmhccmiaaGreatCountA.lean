/- Layer 14: counting models, plain. -/
import Derived.Test.YtenmibfmhccmiaaGreatSolveA
import Derived.Test.YtenmibfmhccmiaaGreatSortA
import Derived.Test.YtenmibfmhccmiaaGreatRupB
namespace Go.Proofs.YtenmibfmhccmiaaGreat.W
open Go Go.Fw Go.RowKit Go.SoP Go.LiP
section
open Go.LeP
variable {N:Nat} {cs:List (List Int)} {m m':List Int} {ms:List (List Int)}
structure xe (N:Nat) (m:List Int):Prop where
 len:m.length=N
 pm: ∀y∈m,y=1\/y= -1
theorem EF (N k:Nat):xe N (io N k):=⟨wK N k,xu N k⟩
theorem uX: ∀ {N j k:Nat},j<2 ^ N->k<2 ^ N->io N j=io N k->j=k
 |0,j,k,hj,hk,_=>by simp at hj hk;omega
 |N+1,j,k,hj,hk,h=>by
  rw [Nat.pow_succ] at hj hk;unfold io at h;injection h with h1 I;have:=uX (N:=N) (j:=j / 2) (k:=k / 2) (by omega) (by omega) I;split at h1<;>split at h1<;>first|omega| (exact absurd h1 (by decide))
theorem ti: ∀ {N:Nat} {m:List Int},xe N m->∃k,k<2 ^ N/\io N k=m
 |0,m,h=> ⟨0,by simp,by rw [List.eq_nil_of_length_eq_zero h.len];rfl⟩
 |N+1,[],h=>by have:=h.len;simp at this
 |N+1,y::t,h=>by
  obtain ⟨k,O,e⟩:=ti (N:=N) (m:=t) ⟨by have:=h.len;simpa using this,fun z J=>h.pm z (List.mem_cons_of_mem _ J)⟩;rcases h.pm y (by simp) with I|I
  . refine ⟨2*k+1,by rw [Nat.pow_succ];omega,?_⟩;rw [io,if_pos (by omega),show (2*k+1) / 2=k by omega,e,I]
  . refine ⟨2*k,by rw [Nat.pow_succ];omega,?_⟩;rw [io,if_neg (by omega),show (2*k) / 2=k by omega,e,I]
def og (N:Nat) (cs:List (List Int)):Nat:=(List.range (2 ^ N)).countP fun k=>iY (io N k) cs
def E_ (N:Nat) (cs:List (List Int)):List (List Int):=((List.range (2 ^ N)).filter fun k=>iY (io N k) cs).map (io N)
theorem Ba:(E_ N cs).length=og N cs:=by unfold E_ og;rw [List.length_map,List.countP_eq_length_filter]
theorem uv:m∈E_ N cs↔xe N m/\iY m cs=true:=by
 unfold E_;rw [List.mem_map];constructor
 . rintro ⟨k,I,rfl⟩;exact ⟨EF N k,(List.mem_filter.1 I).2⟩
 . rintro ⟨h1,J⟩;obtain ⟨k,I,rfl⟩:=ti h1;exact ⟨k,List.mem_filter.2 ⟨List.mem_range.2 I,J⟩,rfl⟩
theorem IV:(E_ N cs).Nodup:=by
 unfold E_ List.Nodup;rw [List.pairwise_map];refine List.Pairwise.imp_of_mem (fun {a b} ha hb I e=> ?_) ((List.nodup_range (n:=2 ^ N)).filter _);exact I (uX (List.mem_range.1 (List.mem_filter.1 ha).1) (List.mem_range.1 (List.mem_filter.1 hb).1) e)
theorem K1 (I:ms.Nodup) (h: ∀m∈ms,xe N m/\iY m cs=true):ms.length<=og N cs:=by
 rw [<- Ba];exact List.Nodup.length_le_of_subset I fun m hm=>uv.2 (h m hm)
theorem KW (h: ∀m,xe N m->iY m cs=true->m∈ms):og N cs<=ms.length:=by
 rw [<- Ba];exact List.Nodup.length_le_of_subset IV fun m hm=>h m (uv.1 hm).1 (uv.1 hm).2
def kE (m:List Int):List Int:=(List.range m.length).map fun i=> -(m.getD i 0)* ((i:Int)+1)
theorem t_:(kE m).length=m.length:=by simp [kE]
theorem tX {l:Int}:l∈kE m↔∃i,i<m.length/\l= -(m.getD i 0)* ((i:Int)+1):=by
 unfold kE;rw [List.mem_map];constructor
 . rintro ⟨i,hi,rfl⟩;exact ⟨i,List.mem_range.1 hi,rfl⟩
 . rintro ⟨i,hi,rfl⟩;exact ⟨i,List.mem_range.2 hi,rfl⟩
theorem xe.at_ (h:xe N m) {i:Nat} (hi:i<N):m.getD i 0=1\/m.getD i 0= -1:=h.pm _ (by have:=h.len;simp [List.getD,show i<m.length by omega])
theorem DC (h:xe N m) {i:Nat} (hi:i<N):(m.getD i 0=1/\ -(m.getD i 0)* ((i:Int)+1)= -((i:Int)+1))\/(m.getD i 0= -1/\ -(m.getD i 0)* ((i:Int)+1)=(i:Int)+1):=by
 rcases h.at_ hi with e|e
 . rw [e];exact .inl ⟨rfl,by omega⟩
 . rw [e];exact .inr ⟨rfl,by omega⟩
theorem Ck (h:xe N m) {l:Int} (hl:l∈kE m):dB N l:=by
 obtain ⟨i,hi,rfl⟩:=tX.1 hl;have:=h.len;rcases DC h (i:=i) (by omega) with ⟨_,e⟩| ⟨_,e⟩<;>rw [e]<;>exact ⟨by omega,by omega,by omega⟩
theorem Ij (hN:N<=1048576) {l:Int} (h:dB N l):bq l=true:=p6 hN h
theorem Bb (hN:N<=4096) (h:xe N m) (Q:xe N m'):(∃l∈kE m,pe m' l=1)↔m'≠m:=by
 have l1:=h.len;have l2:=Q.len;have key: ∀i,i<N->(pe m' (-(m.getD i 0)* ((i:Int)+1))=1↔m'.getD i 0≠m.getD i 0):=by
  intro i hi;have hm: -(m.getD i 0)* ((i:Int)+1)∈kE m:=tX.2 ⟨i,by omega,rfl⟩;have I:=Ij (by omega) (Ck h hm);rcases DC h hi with ⟨V,e⟩| ⟨V,e⟩<;>rw [e] at I ⊢ <;>rw [V]
  . have J:bf (-((i:Int)+1))=(i:Int)+1:=by unfold bf;rw [if_pos (by omega)];omega
    unfold pe;rw [if_neg (by rw [I,J];simp;omega),J,show ((i:Int)+1 - 1).toNat=i by omega];rcases Q.at_ hi with O|O<;>rw [O]
    . rw [if_neg (by decide),decide_eq_true (by decide:(1:Int)>0),decide_eq_false (by omega: ¬ -((i:Int)+1)>0)];decide
    . rw [if_neg (by decide),decide_eq_false (by decide: ¬(-1:Int)>0),decide_eq_false (by omega: ¬ -((i:Int)+1)>0)];decide
  . have J:bf ((i:Int)+1)=(i:Int)+1:=by unfold bf;rw [if_neg (by omega)]
    unfold pe;rw [if_neg (by rw [I,J];simp;omega),J,show ((i:Int)+1 - 1).toNat=i by omega];rcases Q.at_ hi with O|O<;>rw [O]
    . rw [if_neg (by decide),decide_eq_true (by decide:(1:Int)>0),decide_eq_true (by omega:(i:Int)+1>0)];decide
    . rw [if_neg (by decide),decide_eq_false (by decide: ¬(-1:Int)>0),decide_eq_true (by omega:(i:Int)+1>0)];decide
 constructor
 . rintro ⟨l,hl,hv⟩ rfl;obtain ⟨i,hi,rfl⟩:=tX.1 hl;exact (key i (by omega)).1 hv rfl
 . intro U;refine Classical.byContradiction fun hn=>U ?_;refine List.ext_getElem (by omega) fun i h1 X=> ?_;refine Classical.byContradiction fun Y=>hn ⟨_,tX.2 ⟨i,X,rfl⟩,(key i (by omega)).2 ?_⟩;simpa [List.getD,h1,X] using Y
theorem oD:iY m cs=true↔∀c∈cs,∃l∈c,pe m l=1:=by
 unfold iY;rw [List.all_eq_true];constructor
 . intro h c I;have:=h c I;rw [List.any_eq_true] at this;obtain ⟨l,hl,e⟩:=this;exact ⟨l,hl,by simpa using e⟩
 . intro h c I;obtain ⟨l,hl,e⟩:=h c I;rw [List.any_eq_true];exact ⟨l,hl,by simpa using e⟩
theorem yq (hN:N<=4096) (O:xe N m') (h: ∀m∈ms,xe N m):iY m' (cs++ms.map kE)=true↔iY m' cs=true/\m' ∉ ms:=by
 rw [oD,oD];constructor
 . intro J;refine ⟨fun c I=>J c (List.mem_append_left _ I),fun hm=> ?_⟩;exact (Bb hN (h m' hm) O).1 (J _ (List.mem_append_right _ (List.mem_map.2 ⟨m',hm,rfl⟩))) rfl
 . rintro ⟨h1,Q⟩ c I;rcases List.mem_append.1 I with I|I
   . exact h1 c I
   . obtain ⟨m,hm,rfl⟩:=List.mem_map.1 I;exact (Bb hN (h m hm) O).2 fun e=>Q (by rw [e];exact hm)
theorem Ev (l:Int):bq (-l)=bq l:=by
 unfold bq;refine decide_eq_decide.2 ?_;omega
theorem LY (hN:N<=1048576) (h:xe N m):Km N (pe m):=by
 have J: ∀l,bq l=false->pe m l=0:=fun l hl=>by unfold pe;rw [if_pos (.inl hl)]
 refine ⟨fun l=> ?_,fun l=> ?_,fun l hl=> ?_⟩
 . cases hl:bq l with
   |true=>exact Gl hl
   |false=>rw [J _ hl,J _ (by rw [Ev];exact hl)];rfl
 . unfold pe;split
   . exact .inl rfl
   . split
     . exact .inl rfl
     . split
       . exact .inr (.inl rfl)
       . exact .inr (.inr rfl)
 . have I:=p6 hN hl;have ha:=hl.bf;have hlen:=h.len;unfold pe;rw [if_neg (by rw [I];simp;omega)];have:=h.at_ (i:=(bf l - 1).toNat) (by omega);rw [if_neg (by omega)];split<;>decide
theorem Gz (hN:N<=1048576) (h: ∀v,Km N v->¬∀d∈cs,xM v d) (hm:xe N m):iY m cs=false:=by
 cases e:iY m cs with
 |false=>rfl
 |true=>exact absurd (oD.1 e) (h _ (LY hN hm))
theorem Fp {l:Int} (h1:1<=l) (J:l<=1048576):90000<Re.kC l 100:=by
 unfold Re.kC;have hm:Re.xn l 100=true:=by unfold Re.xn;rw [decide_eq_true];omega
 rw [if_pos hm];have O:QuP.quo 1 100<=QuP.quo l.toNat 100:=QuP.B_ (by omega) 100;have I:90000<QuP.quo 1 100:=by decide+kernel
 have:(100:Int).toNat=100:=rfl;rw [this];omega
end
section
open Go.LeP
variable {N:Nat}
theorem DQ {a D v:Nat} (h:D<=QuP.quo a v / 10+1): ∀w,v+1<=w->D<=QuP.quo a w - PotP.qp (QuP.quo a) w:=by
 intro w I;obtain ⟨m,rfl⟩: ∃m,w=m+1:=⟨w - 1,by omega⟩
 have h1:=QuP.vk a v m (by omega);have O:QuP.quo a (m+1)=QuP.quo a m+QuP.quo a m / 10+1:=rfl;have J:PotP.qp (QuP.quo a) (m+1)=QuP.quo a m:=rfl;omega
theorem Ks (a:Nat): ∀d w,PotP.MA (QuP.quo a) d w+7*QuP.quo a w<=7*QuP.quo a (w+d)
 |0,w=>by simp [PotP.MA]
 |d+1,w=>by
  have I:=Ks a d (w+1);have J:QuP.quo a (w+1)=QuP.quo a w+QuP.quo a w / 10+1:=rfl;rw [show w+ (d+1)=w+1+d by omega];simp only [PotP.MA];omega
theorem Fk (a b:Nat) (h:a<b): ∃v,b<=QuP.quo a v/\QuP.quo a v<=b+b / 10:=by
 have key: ∀n,b<=QuP.quo a n->∃v,b<=QuP.quo a v/\QuP.quo a v<=b+b / 10:=by
  intro n
  induction n with
  |zero=>intro e;have:QuP.quo a 0=a:=rfl;omega
  |succ n ih=>
   intro e;by_cases I:b<=QuP.quo a n
   . exact ih I
   . refine ⟨n+1,e,?_⟩;have J:QuP.quo a (n+1)=QuP.quo a n+QuP.quo a n / 10+1:=rfl;omega
 have up: ∀n,n<=QuP.quo a n:=by
  intro n
  induction n with
  |zero=>exact Nat.zero_le _
  |succ n ih=>
   have J:QuP.quo a (n+1)=QuP.quo a n+QuP.quo a n / 10+1:=rfl;omega
 exact key b (up b)
theorem Ok {uni lrn:Int} (hN:N<=10) (h:qi uni lrn=true): ∃K,Ml K N lrn/\uni=K.u/\K.T=62000:=by
 unfold qi at h;simp only [decide_eq_true_eq] at h;obtain ⟨u,rfl⟩: ∃u:Nat,uni=u:=⟨uni.toNat,by omega⟩
 obtain ⟨a,rfl⟩: ∃a:Nat,lrn=a:=⟨lrn.toNat,by omega⟩
 obtain ⟨k,O,hC⟩: ∃k,2*512<=u*2 ^ k/\u* (k*2 ^ k)<=20480:=by
  have Q:u<=0\/1024<=u\/(512<=u/\u<1024)\/(256<=u/\u<512)\/(128<=u/\u<256)\/(64<=u/\u<128)\/(32<=u/\u<64)\/(16<=u/\u<32)\/(8<=u/\u<16)\/(4<=u/\u<8)\/(2<=u/\u<4)\/u=1:=by omega
  rcases Q with e|e|e|e|e|e|e|e|e|e|e|e
  . omega
  . exact ⟨0,by omega,by omega⟩
  . exact ⟨1,by omega,by omega⟩
  . exact ⟨2,by omega,by omega⟩
  . exact ⟨3,by omega,by omega⟩
  . exact ⟨4,by omega,by omega⟩
  . exact ⟨5,by omega,by omega⟩
  . exact ⟨6,by omega,by omega⟩
  . exact ⟨7,by omega,by omega⟩
  . exact ⟨8,by omega,by omega⟩
  . exact ⟨9,by omega,by omega⟩
  . exact ⟨10,by omega,by omega⟩
 have I:2 ^ (N - 1)<=512:=Nat.le_trans (Nat.pow_le_pow_right (by omega) (by omega:N - 1<=9)) (by decide);have J: ∀b l,1<=b->l<=u*Luby.iC b->∃n,PotP.Tl 512 u b l n/\n<=21504:=fun b l h1 V=>by
  obtain ⟨n,t,hn⟩:=PotP.Tl.ex O h1 V;exact ⟨n,t,by omega⟩
 have BT:62000+1<QuP.quo ((a:Int)).toNat 100:=by
  have:=Fp (l:=(a:Int)) (by omega) (by omega);rw [vY (by omega) (by decide)] at this;have:90000<QuP.quo ((a:Int)).toNat 100:=Int.ofNat_lt.1 this;omega
 by_cases ha:5110<=a
 . refine ⟨⟨512,0,21504,u,62000⟩,⟨by show 1<=u/\u<=1048576;omega,by omega,I,J,fun w _=> ?_,BT,?_⟩,rfl,rfl⟩
   . show 512<=QuP.quo ((a:Int)).toNat w - _;rw [Int.toNat_natCast];rcases w with _|w
     . show 512<=a - 0;omega
     . exact DQ (v:=0) (by show 512<=a / 10+1;omega) _ (by omega)
   . unfold KP.mZ;show (if 0<0 then _ else 21504)<=62000;rw [if_neg (by omega)];omega
 . obtain ⟨v,v1,v2⟩:=Fk a 5110 (by omega);refine ⟨⟨512,v+1,21504,u,62000⟩,⟨by show 1<=u/\u<=1048576;omega,by omega,I,J,fun w U=> ?_,BT,?_⟩,rfl,rfl⟩
   . show 512<=QuP.quo ((a:Int)).toNat w - _;rw [Int.toNat_natCast];exact DQ (by omega) w U
   . unfold KP.mZ;show (if 0<v+1 then QuP.quo ((a:Int)).toNat 0+ (2*N+2)+PotP.MA (QuP.quo ((a:Int)).toNat) (v+1 - 1) 0+ (512+21504) else 21504)<=62000;rw [if_pos (by omega),Int.toNat_natCast,Nat.add_sub_cancel];have:=Ks a v 0;rw [Nat.zero_add] at this;omega
end
section
variable {w w' w0 w2 w3:World} {p q:Option Addr} {n m c d:Nat} {k:Int} {hs ks:List Sl} {cs:List (List Int)} {l:List Int}
theorem Bv (h:ff k cs=true): ∀c∈cs,c.length<=4096/\∀x∈c,bq x=true/\bf x<=k:=by
 unfold ff at h;rw [Bool.and_eq_true,List.all_eq_true] at h;intro c O;have:=h.2 c O;rw [Bool.and_eq_true,List.all_eq_true] at this;have J:=cX this.1;exact ⟨J.2,fun x I=> ⟨J.1 x I,by simpa using this.2 x I⟩⟩
theorem FQ {v:Int} {c:List Int} (h: ∀x∈c,bf x<=v):xm v c=v:=by
 unfold xm
 induction c with
 |nil=>rfl
 |cons x c ih=>
  rw [List.foldl_cons];have I:=h x (List.mem_cons_self ..);have e:imax (imax v x) (-x)=v:=by
   unfold bf at I;unfold imax;split at I<;>split<;>split<;>omega
  rw [e];exact ih fun y J=>h y (List.mem_cons_of_mem _ J)
theorem yN {v:Int}: ∀ {cs:List (List Int)},(∀c∈cs,∀x∈c,bf x<=v)->cs.foldl xm v=v
 | [],_=>rfl
 |x::cs,h=>by
  rw [List.foldl_cons,FQ (h x (List.mem_cons_self ..))];exact yN fun c I=>h c (List.mem_cons_of_mem _ I)
open Classical in
noncomputable def gX (cs:List (List Int)) (s:nu):Int:=if s.1=true\/uB cs s.2\/fB cs s.2 then 0 else 7
open Classical in
noncomputable def jl (cs:List (List Int)) (s:nu):List (List Int):=if s.1=true then lX s.2 cs else if uB cs s.2\/fB cs s.2 then cs++ [s.2] else cs
open Classical in
noncomputable def q_ (k:Int) (cs:List (List Int)) (s:nu):Int:=if s.1=false/\(uB cs s.2\/fB cs s.2) then xm k s.2 else k
theorem oU {s:nu} (h:s.1=true):gX cs s=0/\jl cs s=lX s.2 cs/\q_ k cs s=k:=by
 unfold gX jl q_;exact ⟨if_pos (.inl h),if_pos h,if_neg fun e=>by rw [h] at e;cases e.1⟩
theorem pB {s:nu} (h:s.1=false) (I:uB cs s.2\/fB cs s.2):gX cs s=0/\jl cs s=cs++ [s.2]/\q_ k cs s=xm k s.2:=by
 unfold gX jl q_;exact ⟨if_pos (.inr I),by rw [if_neg (by rw [h];simp),if_pos I],if_pos ⟨h,I⟩⟩
theorem rO {s:nu} (h:s.1=false) (I: ¬(uB cs s.2\/fB cs s.2)):gX cs s=7/\jl cs s=cs/\q_ k cs s=k:=by
 unfold gX jl q_;exact ⟨if_neg fun e=>e.elim (fun e=>by rw [h] at e;cases e) I,by rw [if_neg (by rw [h];simp),if_neg I],if_neg fun e=>I e.2⟩
theorem Wk.step {A:Nat->Prop} {W:World} {nb:Nat} {vars:Int} {id:List (Int × Int)} {V:Nat} {s:nu} (h:Wk true A W w nb vars id cs V) (Z:Vw (Value.int .i64) W q s.2) (hn:n=s.2.length) (hlen:s.2.length<=4096) (hl: ∀x∈s.2,bq x=true/\Nt id x) (Y:V<262144):
 Calls Tryz.prog jf.id #[bL nb,.agg #[.bool s.1,.slice q n c]] w fun e w'=>e= .returned (.int .i64 (gX cs s))/\aF (fun j=> ¬A j) w w'/\∃t:Bool,(gX cs s=0->(s.1=true\/s.2≠[])->t=true)/\Wk t A W w' nb (q_ vars cs s) id (jl cs s) (V+1):=by
 refine (h.OK Z hn hlen hl Y).mono ?_;rintro e w' ⟨r,rfl,m,h⟩;rcases h with ⟨h1,rfl,Q⟩| ⟨h1,X,rfl,Q⟩| ⟨h1,X,rfl,Q⟩
 . obtain ⟨O,J,U⟩:=oU (cs:=cs) (k:=vars) h1;rw [O,J,U];exact ⟨rfl,m,true,fun _ _=>rfl,Q.up⟩
 . obtain ⟨O,J,U⟩:=pB (k:=vars) h1 X;rw [O,J,U];exact ⟨rfl,m,_,fun _ I=> (by rcases I with I|I;(rw [h1] at I;cases I);simpa using I),Q⟩
 . obtain ⟨O,J,U⟩:=rO (k:=vars) h1 X;rw [O,J,U];exact ⟨rfl,m,_,fun I=>absurd I (by decide),Q.up⟩
end
section
variable {W w w' w0 w2 w3 u:World} {p q:Option Addr} {n m d i c:Nat} {k:Int} {hs:List Sl} {cs:List (List Int)} {l:List Int} {ss:List So} {al:List nu}
def tF (s:nu):Prop:=s.1=false/\s.2= []
def ww (al:List nu) (t:Nat):Prop:=t<al.length/\tF (al.getD t dR)/\∀j,j<t->¬tF (al.getD j dR)
def Nm (al:List nu):Prop:= ∀j,j<al.length->¬tF (al.getD j dR)
theorem ww.LH {t I:Nat} (h:ww al t) (J:ww al I):t=I:=by
 rcases Nat.lt_trichotomy t I with e|e|e
 . exact absurd h.2.1 (J.2.2 t e)
 . exact e
 . exact absurd J.2.1 (h.2.2 I e)
def uJ (ha:List Sr) (i:Nat) (s:nu):List Sr:=if s.1=true then lI s.2 ha else ha++ [(s.2,true,(i:Int))]
def ng (cs:List (List Int)) (al:List nu):Nat->List Sr
 |0=>vX cs cs.length
 |i+1=>uJ (ng cs al i) i (al.getD i dR)
def FK (cs:List (List Int)) (al:List nu):Prop:= ∃t,ww al t/\∀i,i<=t->(al.getD i dR).1=true\/uB ((ng cs al i).map (·.1)) (al.getD i dR).2
theorem yn {x:List Int} {y:Sr}: ∀ {ha:List Sr},y∈lI x ha->y∈ha
 | [],h=>h
 |a::l,h=>by
  unfold lI at h;split at h
  . exact List.mem_cons_of_mem _ h
  . rcases List.mem_cons.1 h with h|h
    . exact h▸List.mem_cons_self ..
    . exact List.mem_cons_of_mem _ (yn h)
theorem x_ {x:List Int}: ∀ {ha:List Sr},(lI x ha).length<=ha.length
 | []=>Nat.le_refl _
 |a::l=>by
  unfold lI;split
  . simp
  . simpa using x_ (ha:=l)
theorem CZ {P:List Int->Prop} (h1: ∀c∈cs,P c) (J: ∀s∈al,P s.2): ∀ {i:Nat},i<=al.length->∀x∈ng cs al i,P x.1
 |0,_,x,I=>by
  unfold ng vX at I;obtain ⟨j,O,rfl⟩:=List.mem_map.1 I;exact h1 _ (nE (List.mem_range.1 O))
 |i+1,hi,x,I=>by
  unfold ng uJ at I;split at I
  . exact CZ h1 J (by omega) x (yn I)
  . rcases List.mem_append.1 I with I|I
    . exact CZ h1 J (by omega) x I
    . rw [List.mem_singleton] at I;rw [I];exact J _ (by simp [List.getD,show i<al.length by omega])
theorem zB: ∀ {i:Nat},(ng cs al i).length<=cs.length+i
 |0=>by unfold ng;rw [uC];omega
 |i+1=>by
  have I:=zB (i:=i);unfold ng uJ;split
  . have:=x_ (x:=(al.getD i dR).2) (ha:=ng cs al i);omega
  . rw [List.length_append,List.length_singleton];omega
end
section
variable {W w w' w0 w2 w3 u:World} {p q:Option Addr} {n m d i c:Nat} {k:Int} {hs:List Sl} {cs:List (List Int)} {l:List Int} {ss:List So} {al:List nu}
theorem Ox (p:Option Addr):p.map (·.add (0*2))=p:=by cases p<;>simp [Addr.add]
theorem uD (h:jP al=true): ∀s∈al,iy s.2=true:=by
 unfold jP at h;rw [List.all_eq_true] at h;exact h
theorem F6 {j:Nat} (h:j<al.length):al.getD j dR∈al:=by simp [List.getD,h]
theorem Lw (h:ff k cs=true): ∀c∈cs,iy c=true:=by
 unfold ff at h;rw [Bool.and_eq_true,List.all_eq_true] at h;intro c I;have:=h.2 c I;rw [Bool.and_eq_true] at this;exact this.1
theorem MU (h:ff k cs=true):0<=k/\k<=1048576:=by
 unfold ff at h;rw [Bool.and_eq_true,decide_eq_true_eq] at h;exact ⟨h.1.1,h.1.2.1⟩
theorem DJ (h1: ∀c∈cs,iy c=true) (I:jP al=true) (hi:i<=al.length): ∀y∈ng cs al i,iy y.1=true:=CZ (P:=fun c=>iy c=true) h1 (uD I) hi
theorem uZ:ng cs al (i+1)=uJ (ng cs al i) i (al.getD i dR):=rfl
theorem ue (h:(al.getD i dR).1=true):ng cs al (i+1)=lI (al.getD i dR).2 (ng cs al i):=by rw [uZ,uJ,if_pos h]
theorem DK (h:(al.getD i dR).1=false):ng cs al (i+1)=ng cs al i++ [((al.getD i dR).2,true,(i:Int))]:=by rw [uZ,uJ,if_neg (by rw [h];decide)]
end
end Go.Proofs.YtenmibfmhccmiaaGreat.W
