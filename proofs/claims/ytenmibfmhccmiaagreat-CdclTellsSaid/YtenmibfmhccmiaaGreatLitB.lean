/- Layer 1: the models that numbers tell. -/
import Derived.Test.YtenmibfmhccmiaaGreatSortA
import Derived.Test.YtenmibfmhccmiaaGreatSolveA
import Derived.Test.YtenmibfmhccmiaaGreatDratA
import Derived.Test.YtenmibfmhccmiaaGreatDratB
namespace Go.Proofs.YtenmibfmhccmiaaGreat.W
open Go Go.Fw Go.RowKit
open Go.Proofs.Tryz (prog)
section
theorem Hb:lN prog aJ aC 8=true:=by kernel_rfl
theorem nE {k n:Nat} (hk:k<=1000000) (hn:n<=1000000000000) (w:World):
 Calls prog cJ.id #[.int .i64 (k:Int),.int .i64 (n:Int)] w fun e w'=> (∃p c,e= .returned (.slice p k c)/\eC aC w' p c (cZ k n)/\∀j,aI p=some j->w.heap.size<=j)/\aq w w':=by
 refine cJ.ah ?_;intro n1 w2 h2;have e1:=h2.num;have O2:eC aC w2 (some ⟨n1,0,none⟩) 0 []:=Ow.dx h2.at (Nat.le_refl _) (Nat.zero_le _) rfl rfl;refine ⟨fun b pm Q cm v w' z=> ∃ (t r:Nat) (o:List Int),b=r/\r<=1000000000000/\v=t/\t<=k/\o++cZ (k - t) r=cZ k n/\o.length=t/\Q=t/\eC aC w' pm cm o/\(∀j,aI pm=some j->w.heap.size<=j)/\aq w w'/\z+t=k,
  ⟨k,0,n,[],rfl,hn,rfl,Nat.zero_le _,rfl,rfl,rfl,O2,fun j Z=>by have:=bg Z;omega,h2.mod,rfl⟩,?_⟩
 clear O2;rintro b pm Q cm v w9 z _ ⟨t,r,o,rfl,hr,rfl,ht,ho,hl,rfl,O,fr,G,hz⟩;refine ao (fun s=> ?_) (fun s=> ?_)<;>simp only [decide_eq_true_eq,decide_eq_false_iff_not] at s
 . have az:Q<k:=by omega
   have ek:k - Q=(k - (Q+1))+1:=by omega
   rw [ek,cZ] at ho;have d1:((r:Int)).tdiv 2=((r / 2:Nat):Int):=by rw [Int.tdiv_eq_ediv_of_nonneg (by omega)];omega
   have d2:((r:Int)).tmod 2=((r % 2:Nat):Int):=by rw [Int.tmod_eq_emod_of_nonneg (by omega)];omega
   have d3:IntKind.i64.wrap ((r / 2:Nat):Int)=((r / 2:Nat):Int):=aB (by omega) (by omega);have next: ∀ (y:Int),y=(if r % 2=1 then 1 else -1)->∀X Y,bc (.cells #[.int .i64 y] 3) w9 X Y->
    ∃J I V U,(Builtin.append_ #[aJ,aJ] aJ #[.slice pm Q cm,.slice (some (Addr.mk X 0 none)) 1 1]).run prog Y= .ok (.slice I V U) J/\
    (2:Int)≠0/\∃k5:Nat,k5<z/\∃ (t r':Nat) (o:List Int),((r / 2:Nat):Int)=r'/\r'<=1000000000000/\IntKind.i64.wrap ((Q:Int)+1)=t/\t<=k/\o++cZ (k - t) r'=cZ k n/\o.length=t/\V=t/\eC aC J I U o/\(∀j,aI I=some j->w.heap.size<=j)/\aq w J/\k5+t=k:=by
    rintro y rfl X Y jQ;refine (O.grow jQ.mod).kZ Hb _ jQ.has rfl hl.symm fH (by omega) fun J a_ a6 ap an hp a8=> ⟨by decide,z - 1,by omega,Q+1,r / 2,_,rfl,by omega,by rw [aB (by omega) (by omega)];omega,by omega,?_,by simp [hl],by omega,ap,fun j Z=> ?_,(G.trans jQ.mod).then an fun j Z e=>by have:=fr j e;omega,by omega⟩
    . rw [List.append_assoc];exact ho
    . rcases hp with h1|h1<;>rw [h1] at Z
      . exact fr j Z
      . have:=bg Z;have:=(G.trans jQ.mod).size;omega
   rw [d1,d2,d3];refine ⟨by decide,ao (fun s2=>next 1 ?_) (fun s2=>next (-1) ?_)⟩<;>simp only [beq_iff_eq,beq_eq_false_iff_ne] at s2
   . rw [if_pos (by omega)]
   . rw [if_neg (by omega)]
 . have:Q=k:=by omega
   subst this;rw [Nat.sub_self,cZ,List.append_nil] at ho;subst ho;exact ⟨⟨pm,cm,rfl,O,fr⟩,G⟩
end
section
open Go.SoP Go.LiP Go.LeP
variable {N:Nat} {cs:List (List Int)} {m m':List Int} {ms:List (List Int)}
structure sA (N:Nat) (m:List Int):Prop where
 len:m.length=N
 pm: ∀y∈m,y=1\/y= -1
theorem ws (N k:Nat):sA N (cZ N k):=⟨pG N k,wU N k⟩
theorem ti: ∀ {N j k:Nat},j<2 ^ N->k<2 ^ N->cZ N j=cZ N k->j=k
 |0,j,k,hj,hk,_=>by simp at hj hk;omega
 |N+1,j,k,hj,hk,h=>by
  rw [Nat.pow_succ] at hj hk;unfold cZ at h;injection h with h1 I;have:=ti (N:=N) (j:=j / 2) (k:=k / 2) (by omega) (by omega) I;split at h1<;>split at h1<;>first|omega| (exact absurd h1 (by decide))
theorem nJ: ∀ {N:Nat} {m:List Int},sA N m->∃k,k<2 ^ N/\cZ N k=m
 |0,m,h=> ⟨0,by simp,by rw [List.eq_nil_of_length_eq_zero h.len];rfl⟩
 |N+1,[],h=>by have:=h.len;simp at this
 |N+1,y::t,h=>by
  obtain ⟨k,O,e⟩:=nJ (N:=N) (m:=t) ⟨by have:=h.len;simpa using this,fun z J=>h.pm z (List.mem_cons_of_mem _ J)⟩;rcases h.pm y (by simp) with I|I
  . refine ⟨2*k+1,by rw [Nat.pow_succ];omega,?_⟩;rw [cZ,if_pos (by omega),show (2*k+1) / 2=k by omega,e,I]
  . refine ⟨2*k,by rw [Nat.pow_succ];omega,?_⟩;rw [cZ,if_neg (by omega),show (2*k) / 2=k by omega,e,I]
def mU (N:Nat) (cs:List (List Int)):Nat:=(List.range (2 ^ N)).countP fun k=>eD (cZ N k) cs
def Dt (N:Nat) (cs:List (List Int)):List (List Int):=((List.range (2 ^ N)).filter fun k=>eD (cZ N k) cs).map (cZ N)
theorem zr:(Dt N cs).length=mU N cs:=by unfold Dt mU;rw [List.length_map,List.countP_eq_length_filter]
theorem u6:m∈Dt N cs↔sA N m/\eD m cs=true:=by
 unfold Dt;rw [List.mem_map];constructor
 . rintro ⟨k,I,rfl⟩;exact ⟨ws N k,(List.mem_filter.1 I).2⟩
 . rintro ⟨h1,J⟩;obtain ⟨k,I,rfl⟩:=nJ h1;exact ⟨k,List.mem_filter.2 ⟨List.mem_range.2 I,J⟩,rfl⟩
theorem H6:(Dt N cs).Nodup:=by
 unfold Dt List.Nodup;rw [List.pairwise_map];refine List.Pairwise.imp_of_mem (fun {a b} ha hb I e=> ?_) ((List.nodup_range (n:=2 ^ N)).filter _);exact I (ti (List.mem_range.1 (List.mem_filter.1 ha).1) (List.mem_range.1 (List.mem_filter.1 hb).1) e)
theorem Jy (I:ms.Nodup) (h: ∀m∈ms,sA N m/\eD m cs=true):ms.length<=mU N cs:=by
 rw [<- zr];exact List.Nodup.length_le_of_subset I fun m hm=>u6.2 (h m hm)
theorem JE (h: ∀m,sA N m->eD m cs=true->m∈ms):mU N cs<=ms.length:=by
 rw [<- zr];exact List.Nodup.length_le_of_subset H6 fun m hm=>h m (u6.1 hm).1 (u6.1 hm).2
def jP (m:List Int):List Int:=(List.range m.length).map fun i=> -(m.getD i 0)* ((i:Int)+1)
theorem sJ:(jP m).length=m.length:=by simp [jP]
theorem sL {l:Int}:l∈jP m↔∃i,i<m.length/\l= -(m.getD i 0)* ((i:Int)+1):=by
 unfold jP;rw [List.mem_map];constructor
 . rintro ⟨i,hi,rfl⟩;exact ⟨i,List.mem_range.1 hi,rfl⟩
 . rintro ⟨i,hi,rfl⟩;exact ⟨i,List.mem_range.2 hi,rfl⟩
theorem sA.at_ (h:sA N m) {i:Nat} (hi:i<N):m.getD i 0=1\/m.getD i 0= -1:=h.pm _ (by have:=h.len;simp [List.getD,show i<m.length by omega])
theorem CH (h:sA N m) {i:Nat} (hi:i<N):(m.getD i 0=1/\ -(m.getD i 0)* ((i:Int)+1)= -((i:Int)+1))\/(m.getD i 0= -1/\ -(m.getD i 0)* ((i:Int)+1)=(i:Int)+1):=by
 rcases h.at_ hi with e|e
 . rw [e];exact .inl ⟨rfl,by omega⟩
 . rw [e];exact .inr ⟨rfl,by omega⟩
theorem AQ (h:sA N m) {l:Int} (hl:l∈jP m):dR N l:=by
 obtain ⟨i,hi,rfl⟩:=sL.1 hl;have:=h.len;rcases CH h (i:=i) (by omega) with ⟨_,e⟩| ⟨_,e⟩<;>rw [e]<;>exact ⟨by omega,by omega,by omega⟩
theorem FF (hN:N<=1048576) {l:Int} (h:dR N l):cq l=true:=oD hN h
theorem yD (hN:N<=4096) (h:sA N m) (U:sA N m'):(∃l∈jP m,iE m' l=1)↔m'≠m:=by
 have l1:=h.len;have l2:=U.len;have key: ∀i,i<N->(iE m' (-(m.getD i 0)* ((i:Int)+1))=1↔m'.getD i 0≠m.getD i 0):=by
  intro i hi;have hm: -(m.getD i 0)* ((i:Int)+1)∈jP m:=sL.2 ⟨i,by omega,rfl⟩;have I:=FF (by omega) (AQ h hm);rcases CH h hi with ⟨X,e⟩| ⟨X,e⟩<;>rw [e] at I ⊢ <;>rw [X]
  . have O:aX (-((i:Int)+1))=(i:Int)+1:=by unfold aX;rw [if_pos (by omega)];omega
    unfold iE;rw [if_neg (by rw [I,O];simp;omega),O,show ((i:Int)+1 - 1).toNat=i by omega];rcases U.at_ hi with J|J<;>rw [J]
    . rw [if_neg (by decide),decide_eq_true (by decide:(1:Int)>0),decide_eq_false (by omega: ¬ -((i:Int)+1)>0)];decide
    . rw [if_neg (by decide),decide_eq_false (by decide: ¬(-1:Int)>0),decide_eq_false (by omega: ¬ -((i:Int)+1)>0)];decide
  . have O:aX ((i:Int)+1)=(i:Int)+1:=by unfold aX;rw [if_neg (by omega)]
    unfold iE;rw [if_neg (by rw [I,O];simp;omega),O,show ((i:Int)+1 - 1).toNat=i by omega];rcases U.at_ hi with J|J<;>rw [J]
    . rw [if_neg (by decide),decide_eq_true (by decide:(1:Int)>0),decide_eq_true (by omega:(i:Int)+1>0)];decide
    . rw [if_neg (by decide),decide_eq_false (by decide: ¬(-1:Int)>0),decide_eq_true (by omega:(i:Int)+1>0)];decide
 constructor
 . rintro ⟨l,hl,hv⟩ rfl;obtain ⟨i,hi,rfl⟩:=sL.1 hl;exact (key i (by omega)).1 hv rfl
 . intro Q;refine Classical.byContradiction fun hn=>Q ?_;refine List.ext_getElem (by omega) fun i h1 V=> ?_;refine Classical.byContradiction fun Y=>hn ⟨_,sL.2 ⟨i,V,rfl⟩,(key i (by omega)).2 ?_⟩;simpa [List.getD,h1,V] using Y
theorem kD:eD m cs=true↔∀c∈cs,∃l∈c,iE m l=1:=by
 unfold eD;rw [List.all_eq_true];constructor
 . intro h c I;have:=h c I;rw [List.any_eq_true] at this;obtain ⟨l,hl,e⟩:=this;exact ⟨l,hl,by simpa using e⟩
 . intro h c I;obtain ⟨l,hl,e⟩:=h c I;rw [List.any_eq_true];exact ⟨l,hl,by simpa using e⟩
theorem vI (hN:N<=4096) (O:sA N m') (h: ∀m∈ms,sA N m):eD m' (cs++ms.map jP)=true↔eD m' cs=true/\m' ∉ ms:=by
 rw [kD,kD];constructor
 . intro J;refine ⟨fun c I=>J c (List.mem_append_left _ I),fun hm=> ?_⟩;exact (yD hN (h m' hm) O).1 (J _ (List.mem_append_right _ (List.mem_map.2 ⟨m',hm,rfl⟩))) rfl
 . rintro ⟨h1,Q⟩ c I;rcases List.mem_append.1 I with I|I
   . exact h1 c I
   . obtain ⟨m,hm,rfl⟩:=List.mem_map.1 I;exact (yD hN (h m hm) O).2 fun e=>Q (by rw [e];exact hm)
theorem D0 (l:Int):cq (-l)=cq l:=by
 unfold cq;refine decide_eq_decide.2 ?_;omega
theorem JA (hN:N<=1048576) (h:sA N m):Jp N (iE m):=by
 have J: ∀l,cq l=false->iE m l=0:=fun l hl=>by unfold iE;rw [if_pos (.inl hl)]
 refine ⟨fun l=> ?_,fun l=> ?_,fun l hl=> ?_⟩
 . cases hl:cq l with
   |true=>exact EF hl
   |false=>rw [J _ hl,J _ (by rw [D0];exact hl)];rfl
 . unfold iE;split
   . exact .inl rfl
   . split
     . exact .inl rfl
     . split
       . exact .inr (.inl rfl)
       . exact .inr (.inr rfl)
 . have I:=oD hN hl;have ha:=hl.aX;have hlen:=h.len;unfold iE;rw [if_neg (by rw [I];simp;omega)];have:=h.at_ (i:=(aX l - 1).toNat) (by omega);rw [if_neg (by omega)];split<;>decide
theorem yP (hN:N<=1048576) (h: ∀v,Jp N v->¬∀d∈cs,vS v d) (hm:sA N m):eD m cs=false:=by
 cases e:eD m cs with
 |false=>rfl
 |true=>exact absurd (kD.1 e) (h _ (JA hN hm))
theorem Df {l:Int} (h1:1<=l) (I:l<=1048576):90000<Re.jK l 100:=by
 unfold Re.jK;have hm:Re.vg l 100=true:=by unfold Re.vg;rw [decide_eq_true];omega
 rw [if_pos hm];have O:QuP.quo 1 100<=QuP.quo l.toNat 100:=QuP.Bw (by omega) 100;have J:90000<QuP.quo 1 100:=by decide+kernel
 have:(100:Int).toNat=100:=rfl;rw [this];omega
end
section
open Go.SoP Go.LiP Go.LeP
variable {N:Nat}
theorem Cu {a D v:Nat} (h:D<=QuP.quo a v / 10+1): ∀w,v+1<=w->D<=QuP.quo a w - PotP.qp (QuP.quo a) w:=by
 intro w J;obtain ⟨m,rfl⟩: ∃m,w=m+1:=⟨w - 1,by omega⟩
 have h1:=QuP.ua a v m (by omega);have I:QuP.quo a (m+1)=QuP.quo a m+QuP.quo a m / 10+1:=rfl;have O:PotP.qp (QuP.quo a) (m+1)=QuP.quo a m:=rfl;omega
theorem Ji (a:Nat): ∀d w,PotP.MA (QuP.quo a) d w+7*QuP.quo a w<=7*QuP.quo a (w+d)
 |0,w=>by simp [PotP.MA]
 |d+1,w=>by
  have J:=Ji a d (w+1);have I:QuP.quo a (w+1)=QuP.quo a w+QuP.quo a w / 10+1:=rfl;rw [show w+ (d+1)=w+1+d by omega];simp only [PotP.MA];omega
theorem DD (a b:Nat) (h:a<b): ∃v,b<=QuP.quo a v/\QuP.quo a v<=b+b / 10:=by
 have key: ∀n,b<=QuP.quo a n->∃v,b<=QuP.quo a v/\QuP.quo a v<=b+b / 10:=by
  intro n
  induction n with
  |zero=>intro e;have:QuP.quo a 0=a:=rfl;omega
  |succ n ih=>
   intro e;by_cases I:b<=QuP.quo a n
   . exact ih I
   . refine ⟨n+1,e,?_⟩;have J:QuP.quo a (n+1)=QuP.quo a n+QuP.quo a n / 10+1:=rfl;omega
 have up: ∀n,n<=QuP.quo a n:=by
  intro n
  induction n with
  |zero=>exact Nat.zero_le _
  |succ n ih=>
   have J:QuP.quo a (n+1)=QuP.quo a n+QuP.quo a n / 10+1:=rfl;omega
 exact key b (up b)
theorem Mi {uni lrn:Int} (hN:N<=10) (h:oS uni lrn=true): ∃K,KX K N lrn/\uni=K.u/\K.T=62000:=by
 unfold oS at h;simp only [decide_eq_true_eq] at h;obtain ⟨u,rfl⟩: ∃u:Nat,uni=u:=⟨uni.toNat,by omega⟩
 obtain ⟨a,rfl⟩: ∃a:Nat,lrn=a:=⟨lrn.toNat,by omega⟩
 obtain ⟨k,Q,hC⟩: ∃k,2*512<=u*2 ^ k/\u* (k*2 ^ k)<=20480:=by
  have V:u<=0\/1024<=u\/(512<=u/\u<1024)\/(256<=u/\u<512)\/(128<=u/\u<256)\/(64<=u/\u<128)\/(32<=u/\u<64)\/(16<=u/\u<32)\/(8<=u/\u<16)\/(4<=u/\u<8)\/(2<=u/\u<4)\/u=1:=by omega
  rcases V with e|e|e|e|e|e|e|e|e|e|e|e
  . omega
  . exact ⟨0,by omega,by omega⟩
  . exact ⟨1,by omega,by omega⟩
  . exact ⟨2,by omega,by omega⟩
  . exact ⟨3,by omega,by omega⟩
  . exact ⟨4,by omega,by omega⟩
  . exact ⟨5,by omega,by omega⟩
  . exact ⟨6,by omega,by omega⟩
  . exact ⟨7,by omega,by omega⟩
  . exact ⟨8,by omega,by omega⟩
  . exact ⟨9,by omega,by omega⟩
  . exact ⟨10,by omega,by omega⟩
 have I:2 ^ (N - 1)<=512:=Nat.le_trans (Nat.pow_le_pow_right (by omega) (by omega:N - 1<=9)) (by decide);have J: ∀b l,1<=b->l<=u*Luby.ig b->∃n,PotP.Tl 512 u b l n/\n<=21504:=fun b l h1 O=>by
  obtain ⟨n,t,hn⟩:=PotP.Tl.ex Q h1 O;exact ⟨n,t,by omega⟩
 have BC:62000+1<QuP.quo ((a:Int)).toNat 100:=by
  have:=Df (l:=(a:Int)) (by omega) (by omega);rw [uo (by omega) (by decide)] at this;have:90000<QuP.quo ((a:Int)).toNat 100:=Int.ofNat_lt.1 this;omega
 by_cases ha:5110<=a
 . refine ⟨⟨512,0,21504,u,62000⟩,⟨by show 1<=u/\u<=1048576;omega,by omega,I,J,fun w _=> ?_,BC,?_⟩,rfl,rfl⟩
   . show 512<=QuP.quo ((a:Int)).toNat w - _;rw [Int.toNat_natCast];rcases w with _|w
     . show 512<=a - 0;omega
     . exact Cu (v:=0) (by show 512<=a / 10+1;omega) _ (by omega)
   . unfold KP.lS;show (if 0<0 then _ else 21504)<=62000;rw [if_neg (by omega)];omega
 . obtain ⟨v,v1,v2⟩:=DD a 5110 (by omega);refine ⟨⟨512,v+1,21504,u,62000⟩,⟨by show 1<=u/\u<=1048576;omega,by omega,I,J,fun w U=> ?_,BC,?_⟩,rfl,rfl⟩
   . show 512<=QuP.quo ((a:Int)).toNat w - _;rw [Int.toNat_natCast];exact Cu (by omega) w U
   . unfold KP.lS;show (if 0<v+1 then QuP.quo ((a:Int)).toNat 0+ (2*N+2)+PotP.MA (QuP.quo ((a:Int)).toNat) (v+1 - 1) 0+ (512+21504) else 21504)<=62000;rw [if_pos (by omega),Int.toNat_natCast,Nat.add_sub_cancel];have:=Ji a v 0;rw [Nat.zero_add] at this;omega
end
section
open Go.SoP Go.LiP
variable {w w' w0 w2 w3:World} {p q:Option Addr} {n m c d:Nat} {k:Int} {hs ks:List Sl} {cs:List (List Int)} {l:List Int}
theorem yZ (h:dH k cs=true): ∀c∈cs,c.length<=4096/\∀x∈c,cq x=true/\aX x<=k:=by
 unfold dH at h;rw [Bool.and_eq_true,List.all_eq_true] at h;intro c O;have:=h.2 c O;rw [Bool.and_eq_true,List.all_eq_true] at this;have I:=fh this.1;exact ⟨I.2,fun x J=> ⟨I.1 x J,by simpa using this.2 x J⟩⟩
theorem GV {v:Int} {c:List Int} (h: ∀x∈c,aX x<=v):rQ v c=v:=by
 unfold rQ
 induction c with
 |nil=>rfl
 |cons x c ih=>
  rw [List.foldl_cons];have I:=h x (List.mem_cons_self ..);have e:imax (imax v x) (-x)=v:=by
   unfold aX at I;unfold imax;split at I<;>split<;>split<;>omega
  rw [e];exact ih fun y J=>h y (List.mem_cons_of_mem _ J)
theorem xi {v:Int}: ∀ {cs:List (List Int)},(∀c∈cs,∀x∈c,aX x<=v)->cs.foldl rQ v=v
 | [],_=>rfl
 |x::cs,h=>by
  rw [List.foldl_cons,GV (h x (List.mem_cons_self ..))];exact xi fun c I=>h c (List.mem_cons_of_mem _ I)
theorem V2.bS {b:Nat} (h:bF w b #[.slice q m c]) (hl:Vw (Value.int .i64) w q l) (hm:m=l.length) (J:m<=maxLen):V2 (Value.int .i64) w (some ⟨b,0,none⟩) [⟨q,m,c⟩] [l]:=by
 refine ⟨fun j I=> ?_,rfl,fun j I=> ?_⟩
 . have:j=0:=by simpa using I
   subst this;exact ⟨_,rfl,ad h rfl⟩
 . have:j=0:=by simpa using I
   subst this;exact ⟨hm,J,hl⟩
theorem BU {b:Nat} (V:dH k cs=true) (Y:cs.length<262144) (J:V2 (Value.int .i64) w p hs cs) (hb:bF w b #[.slice q m c]) (hl:Vw (Value.int .i64) w q l) (hm:m=l.length) (U:iu l=true):
 Calls prog jt.id #[.agg #[.int .i64 k,.slice p cs.length d],.slice (some ⟨b,0,none⟩) 1 1] w fun e w'=> ∃ (nb:Nat) (id:List (Int × Int)),e= .returned (bR nb)/\Wk true (fun _=>False) w w' nb k id cs cs.length/\(∀x∈l,cq x=true/\Nt id x):=by
 have Q:=yZ V;have I:=fh U;refine (Ev J rfl (V2.bS hb hl hm (by rw [hm];unfold maxLen;omega)) rfl (fun c J=> ⟨(Q c J).1,fun x O=> ((Q c J).2 x O).1⟩) (fun c J=>by rw [List.mem_singleton] at J;subst J;exact ⟨by have:=I.2;omega,I.1⟩) (by omega) (by simp)).mono ?_;rintro e w' ⟨nb,id,rfl,X,hN⟩;rw [xi fun c J x O=> ((Q c J).2 x O).2] at X;exact ⟨nb,id,rfl,X,fun x O=> ⟨I.1 x O,hN l (by simp) x O⟩⟩
theorem Ac (X:V2 (Value.int .i64) w p hs cs) (hn:n=cs.length) (hB:dH k cs=true->iu l=true->cs.length<262144) (hl:Vw (Value.int .i64) w q l) (hm:m=l.length) (Q:m<=maxLen):
 Calls prog lW.id #[.agg #[.int .i64 k,.slice p n d],.slice q m c] w fun e w'=> ∃r:Bool,e= .returned (.bool r)/\(r=true↔dH k cs=true/\iu l=true/\uB cs l)/\aq w w':=by
 subst hn;refine lW.ah ?_;intro n1 w2 J;refine ⟨_,_,_,_,il J.has,(DF (X.grow J.mod) rfl (hl.grow J.mod) hm Q).mono ?_⟩;rintro e w5 ⟨rfl,V⟩;have U:=J.mod.trans V;refine ⟨_,rfl,ao (fun r=> ?_) (fun r=> ⟨false,rfl,⟨fun e=> (by cases e),fun h=>by rw [h.1,h.2.1] at r;cases r⟩,U⟩)⟩;rw [Bool.and_eq_true] at r;refine ⟨_,_,_,_,il (J.has.grow V),?_⟩;intro n9 ac jQ;have I:=U.trans jQ.mod;refine (BU r.1 (hB r.1 r.2) (X.grow I) jQ.has (hl.grow I) hm r.2).mono ?_;rintro e aa ⟨nb,id,rfl,hW,hN⟩;have Y:=fh r.2;refine ⟨_,rfl,(hW.unit (hl.grow I) hm (by omega) hN).mono ?_⟩;rintro e Z ⟨b,rfl,hr,O,_⟩;exact ⟨b,rfl,b,rfl,hr.trans ⟨fun h=> ⟨r.1,r.2,h⟩,fun h=>h.2.2⟩,I.trans O.wg⟩
end
section
open Go.SoP Go.LiP
variable {W w w' w0 w2 w3 u:World} {p q:Option Addr} {n m d i c:Nat} {k:Int} {hs:List Sl} {cs:List (List Int)} {l:List Int} {ss:List So} {al:List Ap}
theorem JO (v:Int): ∀ (c:List Int),v<=rQ v c/\∀x∈c,aX x<=rQ v c:=by
 intro c;unfold rQ
 induction c generalizing v with
 |nil=>exact ⟨Int.le_refl _,fun x I=>by simp at I⟩
 |cons y c ih=>
  rw [List.foldl_cons];obtain ⟨h1,J⟩:=ih (imax (imax v y) (-y));have e:v<=imax (imax v y) (-y)/\aX y<=imax (imax v y) (-y):=by
   unfold imax aX;repeat' split
   all_goals omega
  refine ⟨by omega,fun x I=> ?_⟩;rcases List.mem_cons.1 I with rfl|I
  . omega
  . exact J x I
theorem Kh {v B:Int} (hv:v<=B): ∀ {c:List Int},(∀x∈c,aX x<=B)->rQ v c<=B:=by
 intro c;unfold rQ
 induction c generalizing v with
 |nil=>exact fun _=>hv
 |cons y c I=>
  intro h;rw [List.foldl_cons];refine I ?_ fun x J=>h x (List.mem_cons_of_mem _ J);have:=h y (List.mem_cons_self ..);unfold imax;unfold aX at this;repeat' split
  all_goals (first|omega| (split at this<;>omega))
theorem HL (v:Int): ∀ (cs:List (List Int)),v<=cs.foldl rQ v/\∀c∈cs,∀x∈c,aX x<=cs.foldl rQ v:=by
 intro cs
 induction cs generalizing v with
 |nil=>exact ⟨Int.le_refl _,fun c I=>by simp at I⟩
 |cons y cs ih=>
  rw [List.foldl_cons];obtain ⟨h1,O⟩:=ih (rQ v y);obtain ⟨U,Q⟩:=JO v y;refine ⟨by omega,fun c I x J=> ?_⟩;rcases List.mem_cons.1 I with rfl|I
  . have:=Q x J;omega
  . exact O c I x J
theorem HP {v B:Int} (hv:v<=B): ∀ {cs:List (List Int)},(∀c∈cs,∀x∈c,aX x<=B)->cs.foldl rQ v<=B:=by
 intro cs
 induction cs generalizing v with
 |nil=>exact fun _=>hv
 |cons y cs I=>
  intro h;rw [List.foldl_cons];exact I (Kh hv (h y (List.mem_cons_self ..))) fun c J=>h c (List.mem_cons_of_mem _ J)
theorem Gm {x:Int} (h:cq x=true):aX x<=1048576:=by
 have:=qM h;unfold aX;split<;>omega
def rT (s:Ap):Prop:=s.1=false/\s.2= []
def wY (al:List Ap) (t:Nat):Prop:=t<al.length/\rT (al.getD t lZ)/\∀j,j<t->¬rT (al.getD j lZ)
def Jg (al:List Ap):Prop:= ∀j,j<al.length->¬rT (al.getD j lZ)
theorem wY.KD {t I:Nat} (h:wY al t) (J:wY al I):t=I:=by
 rcases Nat.lt_trichotomy t I with e|e|e
 . exact absurd h.2.1 (J.2.2 t e)
 . exact e
 . exact absurd J.2.1 (h.2.2 I e)
theorem Fu:fM prog jx.id=true:=by kernel_rfl
theorem KJ (hl:SV w q al) (hm:m=al.length) (ag:m<=1000000) {e:Nat}:Calls prog lP.id #[.slice q m e] w fun e w'=>aq w w'/\((Jg al/\e= .returned (.int .i64 (-1)))\/∃t:Nat,wY al t/\e= .returned (.int .i64 (t:Int))):=by
 subst hm;refine lP.ah ((aU.ah (R:=fun e w'=>aq w w'/\((Jg al/\e= .returned (.int .i64 (-1)))\/∃t:Nat,wY al t/\e= .returned (.int .i64 (t:Int)))) ?_).mono ?_)
 . refine ⟨fun I u z=> ∃t:Nat,I=t/\t<=al.length/\z=al.length - t/\aq w u/\∀j,j<t->¬rT (al.getD j lZ),⟨_,0,rfl,Nat.zero_le _,rfl,aE.refl _,fun j Z=>by omega⟩,?_⟩;rintro I u z _ ⟨t,rfl,ht,rfl,U,O⟩;refine ao (fun r=> ?_) (fun r=> ⟨U,.inl ⟨fun j Z=>O j (by simp at r;omega),rfl⟩⟩);have r:t<al.length:=by simpa using r
   refine hl.ix U rfl r fun a s Y h1 h2 h3=> ⟨_,_,_,_,Y u U,?_⟩
   rw [Fu];show Calls _ _ _ _ _;rw [Fm];refine (jx.ah (R:=fun e w'=> ∃b:Bool,e= .returned (.bool b)/\(b=true↔rT (al.getD t lZ))/\aq u w') ?_).mono ?_
   . intro n1 w2 J;refine ⟨_,ad J.has rfl,ao (fun Q=> ⟨_,_,_,ad J.has rfl,_,rfl,?_,J.mod⟩) (fun Q=> ⟨false,rfl,⟨fun e=> (by cases e),fun e=>by rw [e.1] at Q;cases Q⟩,J.mod⟩)⟩;have Q:(al.getD t lZ).1=false:=by simpa using Q
     rw [beq_iff_eq];unfold rT;rw [h1];constructor
     . intro e;exact ⟨Q,List.eq_nil_of_length_eq_zero (by omega)⟩
     . intro e;rw [e.2];rfl
   . rintro aa ac ⟨b,rfl,hb,V⟩;refine ⟨_,rfl,ao (fun X=> ⟨U.trans V,.inr ⟨t,⟨r,hb.1 X,O⟩,rfl⟩⟩) (fun X=> ⟨_,by omega,t+1,wN (by omega) (by omega),r,rfl,U.trans V,fun j Z=> ?_⟩)⟩;by_cases e:j<t
     . exact O j e
     . obtain rfl:j=t:=by omega
       exact fun e=>by rw [hb.2 e] at X;cases X
 . rintro e1 w1 ⟨g,⟨h,rfl⟩| ⟨t,h,rfl⟩⟩
   . exact ⟨_,rfl,g,.inl ⟨h,rfl⟩⟩
   . exact ⟨_,rfl,g,.inr ⟨t,h,rfl⟩⟩
def tI (ha:List Sr) (i:Nat) (s:Ap):List Sr:=if s.1=true then jh s.2 ha else ha++ [(s.2,true,(i:Int))]
def vd (cs:List (List Int)) (al:List Ap):Nat->List Sr
 |0=>sk cs cs.length
 |i+1=>tI (vd cs al i) i (al.getD i lZ)
def xu (cs:List (List Int)) (al:List Ap):Prop:= ∃t,wY al t/\∀i,i<=t->(al.getD i lZ).1=true\/uB ((vd cs al i).map (·.1)) (al.getD i lZ).2
theorem wx {x:List Int} {y:Sr}: ∀ {ha:List Sr},y∈jh x ha->y∈ha
 | [],h=>h
 |a::l,h=>by
  unfold jh at h;split at h
  . exact List.mem_cons_of_mem _ h
  . rcases List.mem_cons.1 h with h|h
    . exact h▸List.mem_cons_self ..
    . exact List.mem_cons_of_mem _ (wx h)
theorem wu {x:List Int}: ∀ {ha:List Sr},(jh x ha).length<=ha.length
 | []=>Nat.le_refl _
 |a::l=>by
  unfold jh;split
  . simp
  . simpa using wu (ha:=l)
theorem xw {P:List Int->Prop} (h1: ∀c∈cs,P c) (J: ∀s∈al,P s.2): ∀ {i:Nat},i<=al.length->∀x∈vd cs al i,P x.1
 |0,_,x,I=>by
  unfold vd sk at I;obtain ⟨j,O,rfl⟩:=List.mem_map.1 I;exact h1 _ (oh (List.mem_range.1 O))
 |i+1,hi,x,I=>by
  unfold vd tI at I;split at I
  . exact xw h1 J (by omega) x (wx I)
  . rcases List.mem_append.1 I with I|I
    . exact xw h1 J (by omega) x I
    . rw [List.mem_singleton] at I;rw [I];exact J _ (by simp [List.getD,show i<al.length by omega])
theorem CM: ∀ {i:Nat},(vd cs al i).length<=cs.length+i
 |0=>by unfold vd;rw [tw];omega
 |i+1=>by
  have I:=CM (i:=i);unfold vd tI;split
  . have:=wu (x:=(al.getD i lZ).2) (ha:=vd cs al i);omega
  . rw [List.length_append,List.length_singleton];omega
end
section
open Go.SoP Go.LiP
variable {W w w' w0 w2 w3 u:World} {p q:Option Addr} {n m d i c:Nat} {k:Int} {hs:List Sl} {cs:List (List Int)} {l:List Int} {ss:List So} {al:List Ap}
theorem SV.take (h:SV w p al) (k:Nat):SV w p (al.take k):=by
 intro i hi;rw [List.length_take] at hi;have e:(al.take k).getD i lZ=al.getD i lZ:=by
  simp only [List.getD_eq_getElem?_getD,List.getElem?_take];rw [if_pos (by omega)]
 rw [e];exact h i (by omega)
theorem Ni (p:Option Addr):p.map (·.add (0*2))=p:=by cases p<;>simp [Addr.add]
theorem nO (h:mR al=true): ∀s∈al,iu s.2=true:=by
 unfold mR at h;rw [List.all_eq_true] at h;exact h
theorem J2 {j:Nat} (h:j<al.length):al.getD j lZ∈al:=by simp [List.getD,h]
theorem Gx (h:dH k cs=true): ∀c∈cs,iu c=true:=by
 unfold dH at h;rw [Bool.and_eq_true,List.all_eq_true] at h;intro c I;have:=h.2 c I;rw [Bool.and_eq_true] at this;exact this.1
theorem IV (h:dH k cs=true):0<=k/\k<=1048576:=by
 unfold dH at h;rw [Bool.and_eq_true,decide_eq_true_eq] at h;exact ⟨h.1.1,h.1.2.1⟩
def K0 (k:Int) (al:List Ap):Int:=(al.map (·.2)).foldl rQ k
theorem Ic {I:List (List Int)} (h1:dH k cs=true) (U:mR al=true) (hn:I.length<=262144) (O: ∀c∈I,c∈cs\/c∈al.map (·.2)):dH (K0 k al) I=true:=by
 have V:=IV h1;have X:=yZ h1;have ge:=HL k (al.map (·.2));have le:=HP (v:=k) (B:=1048576) V.2 (cs:=al.map (·.2)) fun c O x J=>by
  obtain ⟨s,hs,rfl⟩:=List.mem_map.1 O;exact Gm ((fh (nO U s hs)).1 x J)
 unfold dH;rw [Bool.and_eq_true,decide_eq_true_eq,List.all_eq_true];refine ⟨⟨by unfold K0;omega,by unfold K0;omega,hn⟩,fun c Q=> ?_⟩;rw [Bool.and_eq_true,List.all_eq_true];rcases O c Q with h|h
 . exact ⟨Gx h1 c h,fun x J=>by rw [decide_eq_true_eq];have:=((X c h).2 x J).2;unfold K0;omega⟩
 . refine ⟨?_,fun x J=>by rw [decide_eq_true_eq];exact ge.2 c h x J⟩;obtain ⟨s,hs,rfl⟩:=List.mem_map.1 h;exact nO U s hs
theorem IH (h1: ∀c∈cs,iu c=true) (I:mR al=true) (hi:i<=al.length): ∀y∈vd cs al i,iu y.1=true:=xw (P:=fun c=>iu c=true) h1 (nO I) hi
theorem HD (hi:i<=al.length): ∀c∈(vd cs al i).map (·.1),c∈cs\/c∈al.map (·.2):=by
 intro c J;obtain ⟨x,I,rfl⟩:=List.mem_map.1 J;exact xw (P:=fun c=>c∈cs\/c∈al.map (·.2)) (fun c h=> .inl h) (fun s h=> .inr (List.mem_map_of_mem h)) hi x I
theorem ug:vd cs al (i+1)=tI (vd cs al i) i (al.getD i lZ):=rfl
theorem Cj (h:(al.getD i lZ).1=true):vd cs al (i+1)=jh (al.getD i lZ).2 (vd cs al i):=by rw [ug,tI,if_pos h]
theorem Cz (h:(al.getD i lZ).1=false):vd cs al (i+1)=vd cs al i++ [((al.getD i lZ).2,true,(i:Int))]:=by rw [ug,tI,if_neg (by rw [h];decide)]
theorem D4 {e:Nat} (hc:V2 (Value.int .i64) w p hs cs) (hn:n=cs.length) (hx:cs.length+m<262144) (hl:SV w q al) (hm:m=al.length) (ea:m<=e):
 Calls prog jo.id #[.agg #[.int .i64 k,.slice p n d],.slice q m e] w fun e w'=> ∃r:Bool,e= .returned (.bool r)/\(r=true↔dH k cs=true/\mR al=true/\xu cs al)/\aq w w':=by
 subst hn hm;have no: ∀ {u:World},¬(dH k cs=true/\mR al=true/\xu cs al)->aq w u->∃r:Bool,Ending.returned (Value.bool false)= .returned (.bool r)/\(r=true↔dH k cs=true/\mR al=true/\xu cs al)/\aq w u:=fun h g=> ⟨false,rfl,⟨fun e=> (by cases e),fun e=>absurd e h⟩,g⟩
 refine jo.ah ?_;intro n1 w2 h2;refine ⟨_,_,_,_,il h2.has,(jJ (hc.grow h2.mod) rfl).mono ?_⟩;rintro e5 w5 ⟨rfl,g5⟩;have G5:=h2.mod.trans g5;refine ⟨_,rfl,?_⟩;cases U:dH k cs with
 |false=>exact cj rfl (by have:= @no w5 (fun h=>by rw [U] at h;cases h.1) G5;rwa [U] at this)
 |true=>
 refine bm rfl ((vk (hl.grow G5) rfl (by omega)).mono ?_);rintro e7 w7 ⟨rfl,g7⟩;have G7:=G5.trans g7;refine ⟨_,rfl,?_⟩;cases O:mR al with
 |false=>exact cj rfl (by have:= @no w7 (fun h=>by rw [O] at h;cases h.2.1) G7;rwa [O,U] at this)
 |true=>
 rw [U,O] at no;refine bm rfl ((KJ (hl.grow G7) rfl (by omega)).mono ?_);rintro e9 w9 ⟨g9,⟨c2,rfl⟩| ⟨t,ht,rfl⟩⟩
 . exact ⟨_,rfl,cj rfl (no (fun ⟨_,_,t,ht,_⟩=>c2 t ht.1 ht.2.1) (G7.trans g9))⟩
 have G9:=G7.trans g9;have b9:=(h2.has.grow (g5.trans g7)).grow g9;have eb:=ht.1;refine ⟨_,rfl,bm (by simp) ⟨_,_,_,_,il b9,(yy (p:=p) (n:=cs.length) (d:=d) (hl.grow G9) rfl (by omega) (nO O)).mono ?_⟩⟩;rintro er ag ⟨rfl,aT⟩;have aa:=G9.trans aT;have b8:=b9.grow aT;refine ⟨_,rfl,_,_,_,_,il b8,(AL (k:=k) (hc.grow aa) rfl (by omega)).mono ?_⟩;rintro e2 e4 ⟨q0,d0,b',rfl,o0,cg,dd,f0⟩;refine ⟨_,_,_,rfl,?_⟩;rw [wN (x:=(t:Int)+1) (i:=t+1) (by omega) (by omega)];refine gD 0 (t+1) e rfl rfl rfl (by omega) (by omega) (by omega) ?_;have ei:(if e=0 then q else q.map (·.add (0*2)))=q:=by split;rfl;exact Ni q
 rw [ei,Nat.sub_zero];have a_:=hl.grow aa;have b4:=Gx U;refine ⟨fun P N C I u z=> ∃ (i:Nat) (ss:List So),I=i/\i<=t+1/\z=t+1 - i/\N=(vd cs al i).length/\aq ag u/\Row 3 xx bo u P C ss/\SW ag ss (vd cs al i)/\(∀j,aI P=some j->ag.heap.size<=j)/\∀j,j<i->(al.getD j lZ).1=true\/uB ((vd cs al j).map (·.1)) (al.getD j lZ).2,
  ⟨_,0,b',rfl,Nat.zero_le _,rfl,by show _=(sk cs cs.length).length;rw [tw],dd,o0,cg,f0,fun j hj=>by omega⟩,?_⟩
 rintro P N C I u z _ ⟨i,ss,rfl,hi,rfl,rfl,gu,o,sw,fo,X⟩;have Gu:=aa.trans gu;have eH:=CM (cs:=cs) (al:=al) (i:=i);refine ao (fun r=> ?_) (fun r=> ?_)
 . have r:i<t+1:=by rw [decide_eq_true_eq] at r;omega
   have a8:=J2 (al:=al) (j:=i) (by omega);have V:=nO O _ a8;have du:=fh V;have et:(al.take (t+1)).getD i lZ=al.getD i lZ:=by
    simp only [List.getD_eq_getElem?_getD,List.getElem?_take];rw [if_pos (by omega)]
   refine (a_.take (t+1)).ix gu (by rw [List.length_take];omega) (by rw [List.length_take];omega) fun a s b7 h1 a6 h3=> ⟨_,_,_,_,b7 u gu,?_⟩
   rw [et] at h1 h3 ⊢;intro n29 eA ar;have eN:=ar.num;refine bq ar.has rfl rfl fun Y ac b_=> ⟨_,ad ac rfl,?_⟩
   have J:aq u Y:=ar.mod.then b_ fun j hj e=>by omega
   have ef:=gu.size;refine ao (fun r2=> ⟨_,_,_,ad ac rfl,?_⟩) (fun r2=> ?_)
   . have hd:(al.getD i lZ).1=true:=by simpa using r2
     refine (HU (o.grow J) sw (gu.trans J) rfl (by omega) (IH b4 O (by omega)) h3 h1 V (by have:=o.cap;have:=sw.n;omega)).mono ?_;rintro ec ew ⟨q',d',tt,rfl,b5,az,b3,d4,f34⟩;refine ⟨_,_,_,rfl,_,by omega,i+1,tt,wN (by omega) (by omega),r,rfl,by rw [Cj hd],(gu.trans J).trans b3,b5,by rw [Cj hd];exact az,fun j hj=> ?_,fun j hj=> ?_⟩
     . have:=J.size;rcases f34 j hj with h|h
       . exact fo j h
       . omega
     . by_cases e:j<i
       . exact X j e
       . obtain rfl:j=i:=by omega
         exact .inl hd
   . have hd:(al.getD i lZ).1=false:=by simpa using r2
     have gd:aq Y Y.drew:=(aE.refl Y).drew;refine ⟨aq Y,gd,bm (by simp;omega) ((zV (o.grow (J.trans gd)) sw ((gu.trans J).trans gd) rfl (by omega)).mono ?_)⟩;rintro ed dc ⟨ej,d8,ks,rfl,c7,Q⟩;have Q:=gd.trans Q;refine ⟨_,_,_,rfl,Q,_,_,_,fun v g=>ad (ac.grow g) rfl,?_⟩;have a7:aq ag dc:=(gu.trans J).trans Q;refine (Ac (k:=K0 k al) c7 (by rw [List.length_map]) (fun _ _=>by rw [List.length_map];omega) (h3.grow a7) h1 a6).mono ?_;rintro eL es ⟨rr,rfl,hr,Z⟩;have a':dH (K0 k al) ((vd cs al i).map (·.1))=true:=Ic U O (by rw [List.length_map];omega) (HD (by omega));refine ⟨_,rfl,ao (fun r3=> ?_) (fun r3=> ?_)⟩
     . refine no (fun ⟨_,_,t',cT,hp⟩=> ?_) ((aa.trans a7).trans Z);obtain rfl:=ht.KD cT;have hu:=(hp i (by omega)).resolve_left (by rw [hd];decide);rw [hr.2 ⟨a',V,hu⟩] at r3;cases r3
     . obtain ⟨_,_,hu⟩:=hr.1 (by simpa using r3);have cb:=(ac.grow Q).grow Z;refine ⟨_,_,_,ad cb rfl,?_⟩;intro ey cc ax;have e3:=ax.num;have ay:aq u cc:=((J.trans Q).trans Z).trans ax.mod;have zu:=ay.size;have d9:=((J.trans Q).trans Z).size;refine Row.oV qA uw (o.grow ay) (GY (s:=(s,true,(i:Int))) ax.has) sw.n.symm rfl (by have:=sw.n;simp;omega) fun ez p' c' c1 cp b6 eR=> ?_;refine ⟨_,by omega,i+1,_,wN (by omega) (by omega),r,rfl,by rw [Cz hd];simp [sw.n],(gu.trans ay).then cp fun j hj e=>by have:=fo j e;omega,c1,by rw [Cz hd];exact sw.oV (SW.bS rfl h1 a6 h3),fun j hj=> ?_,fun j hj=> ?_⟩
       . rcases b6 with rfl|rfl
         . exact fo j hj
         . have:=bg hj;omega
       . by_cases e:j<i
         . exact X j e
         . obtain rfl:j=i:=by omega
           exact .inr hu
 . have r:i=t+1:=by simp at r;omega
   subst r;exact ⟨true,rfl,⟨fun _=> ⟨rfl,rfl,t,ht,fun i hi=>X i (by omega)⟩,fun _=>rfl⟩,Gu⟩
end
end Go.Proofs.YtenmibfmhccmiaaGreat.W
