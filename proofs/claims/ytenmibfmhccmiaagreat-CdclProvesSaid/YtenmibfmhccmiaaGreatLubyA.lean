/- The row of layer 10 in plain numbers. -/
import Derived.Test.YtenmibfmhccmiaaGreatGenCdcl
import Derived.Test.YtenmibfmhccmiaaGreatFwLib
import Derived.Test.YtenmibfmhccmiaaGreatFwMem
import Derived.Test.YtenmibfmhccmiaaGreatFwEq
namespace Go.Luby
def bl (n:Nat):Nat:=if n=0 then 0 else n.log2+1
theorem Bg (n:Nat):n<2 ^ bl n:=by
 unfold bl;split
 . subst_vars;decide
 . exact Nat.lt_log2_self
theorem q7 {n:Nat} (h:0<n):1<=bl n/\2 ^ (bl n - 1)<=n:=by
 unfold bl;rw [if_neg (by omega)];exact ⟨by omega,by simpa using Nat.log2_self_le (by omega)⟩
theorem zG {n k:Nat} (h1:n<2 ^ k) (I:k=0\/2 ^ (k - 1)<=n):bl n=k:=by
 rcases Nat.eq_zero_or_pos n with J|J
 . subst J;rcases I with I|I
   . subst I;rfl
   . have:=Nat.two_pow_pos (k - 1);omega
 . obtain ⟨O,Q⟩:=q7 J;have U:=Bg n;rcases Nat.lt_trichotomy (bl n) k with h|h|h
   . have:2 ^ bl n<=2 ^ (k - 1):=Nat.pow_le_pow_right (by omega) (by omega);omega
   . exact h
   . have:2 ^ k<=2 ^ (bl n - 1):=Nat.pow_le_pow_right (by omega) (by omega);omega
theorem GK {n k:Nat} (h:n<2 ^ k):bl n<=k:=by
 rcases Nat.eq_zero_or_pos n with I|I
 . subst I;exact Nat.zero_le _
 . obtain ⟨O,Q⟩:=q7 I;rcases Nat.lt_or_ge k (bl n) with J|J
   . have:2 ^ k<=2 ^ (bl n - 1):=Nat.pow_le_pow_right (by omega) (by omega);omega
   . exact J
theorem dy (k:Nat):2 ^ (k+1)=2*2 ^ k:=by rw [Nat.pow_succ,Nat.mul_comm]
theorem um {n:Nat} (h:0<n) (hf:n+1≠2 ^ bl n):2<=bl n/\1<=2 ^ (bl n - 1) - 1/\2 ^ (bl n - 1) - 1<n:=by
 obtain ⟨Q,I⟩:=q7 h;have U:2<=bl n:=by
  rcases Nat.lt_or_ge (bl n) 2 with J|J
  . have e:bl n=1:=by omega
    have:=Bg n;rw [e] at this hf;omega
  . exact J
 obtain ⟨j,O⟩: ∃j,bl n=j+2:=⟨bl n - 2,by omega⟩
 rw [O] at I ⊢;have e:j+2 - 1=j+1:=by omega
 rw [e] at I ⊢;have:=dy j;have:=Nat.two_pow_pos j;omega
def iC (i:Nat):Nat:=if h:i+1=2 ^ bl i then 2 ^ (bl i - 1) else iC (i - (2 ^ (bl i - 1) - 1))
termination_by i
decreasing_by
 have I:0<i:=by
  rcases Nat.eq_zero_or_pos i with I|I
  . subst I;exact absurd rfl h
  . exact I
 have:=um I h;omega
theorem rn {i:Nat} (h:i+1=2 ^ bl i):iC i=2 ^ (bl i - 1):=by rw [iC,dif_pos h]
theorem rU {i:Nat} (h:i+1≠2 ^ bl i):iC i=iC (i - (2 ^ (bl i - 1) - 1)):=by rw [iC,dif_neg h]
theorem wx (k:Nat):bl (2 ^ (k+1) - 1)=k+1:=by
 have:=Nat.two_pow_pos k;have:=dy k;refine zG (by omega) (.inr ?_);simp;omega
theorem i9 (k:Nat):iC (2 ^ (k+1) - 1)=2 ^ k:=by
 have:=Nat.two_pow_pos (k+1);rw [rn (by rw [wx];omega),wx];simp
theorem vW {k i:Nat} (h1:1<=i) (I:i<=2 ^ k - 1):iC (2 ^ k - 1+i)=iC i:=by
 have:=Nat.two_pow_pos k;have hb:bl (2 ^ k - 1+i)=k+1:=by
  have:=dy k;exact zG (by omega) (.inr (by simp;omega))
 have hs:=dy k;rw [rU (by rw [hb];omega),hb];simp only [Nat.add_sub_cancel];congr 1;omega
theorem Jk: ∀i:Nat,∃j,iC i=2 ^ j:=by
 intro i
 induction i using Nat.strongRecOn with
 |_ i J=>
  by_cases h:i+1=2 ^ bl i
  . exact ⟨_,rn h⟩
  . rw [rU h];have I:0<i:=by
     rcases Nat.eq_zero_or_pos i with I|I
     . subst I;exact absurd rfl h
     . exact I
    have:=um I h;exact J _ (by omega)
theorem L_: ∀i:Nat,1<=i->iC i<=i:=by
 intro i
 induction i using Nat.strongRecOn with
 |_ i J=>
  intro I;by_cases h:i+1=2 ^ bl i
  . rw [rn h];exact (q7 I).2
  . rw [rU h];have:=um I h;have:=J (i - (2 ^ (bl i - 1) - 1)) (by omega) (by omega);omega
theorem Hq (i:Nat):1<=iC i:=by
 obtain ⟨j,I⟩:=Jk i;rw [I];exact Nat.two_pow_pos j
def sum:Nat->Nat
 |0=>0
 |n+1=>sum n+iC (n+1)
theorem nP (k:Nat): ∀i:Nat,i<=2 ^ k - 1->sum (2 ^ k - 1+i)=sum (2 ^ k - 1)+sum i
 |0,_=>by simp [sum]
 |i+1,h=>by
  have I:=nP k i (by omega);show sum (2 ^ k - 1+i+1)=_;simp only [sum];rw [I,Nat.add_assoc (2 ^ k - 1) i 1,vW (by omega) h];omega
theorem BA: ∀k:Nat,sum (2 ^ k - 1)=k*2 ^ k / 2
 |0=>by simp [sum]
 |k+1=>by
  have I:=BA k;have hp:=Nat.two_pow_pos k;have hs:=dy k;have h1:=nP k (2 ^ k - 1) (Nat.le_refl _);have e:2 ^ (k+1) - 1=(2 ^ k - 1+ (2 ^ k - 1))+1:=by omega
  rw [e];simp only [sum];rw [h1,<- e,i9,I,hs];have:(k+1)* (2*2 ^ k)=2* ((k+1)*2 ^ k):=by rw [Nat.mul_left_comm]
  rw [this,Nat.mul_div_cancel_left _ (by omega)];rcases k with _|k
  . simp
  . have J:(k+1)*2 ^ (k+1) / 2=(k+1)*2 ^ k:=by
     rw [dy,Nat.mul_left_comm,Nat.mul_div_cancel_left _ (by omega)]
    rw [J,dy];have:(k+1+1)* (2*2 ^ k)=2* ((k+1)*2 ^ k)+2*2 ^ k:=by
     rw [Nat.add_mul,Nat.one_mul,Nat.mul_left_comm]
    omega
end Go.Luby
namespace Go.Proofs.YtenmibfmhccmiaaGreat.W.Lu
open Go Go.Fw Go.RowKit Go.Luby
open Go.IntKind (i64)
section
theorem LQ: ∀j:Nat,j<256->j7[j]? =some (UInt8.ofNat (bl j)):=by
 decide+kernel
theorem B6 (n s:Nat) (h:2 ^ s<=n):bl n=s+bl (n / 2 ^ s):=by
 have hp:=Nat.two_pow_pos s;have hq:0<n / 2 ^ s:=Nat.div_pos h hp;obtain ⟨O,I⟩:=q7 hq;have J:=Bg (n / 2 ^ s);refine zG ?_ (.inr ?_)
 . rw [Nat.pow_add];have:=(Nat.div_lt_iff_lt_mul hp).1 J
   rwa [Nat.mul_comm] at this
 . have:s+bl (n / 2 ^ s) - 1=s+ (bl (n / 2 ^ s) - 1):=by omega
   rw [this,Nat.pow_add];have:=(Nat.le_div_iff_mul_le hp).1 I
   rwa [Nat.mul_comm] at this
theorem jk {n:Nat} (h:n<256):bl n<=8:=by
 rcases Nat.eq_zero_or_pos n with I|I
 . subst I;decide
 . obtain ⟨O,Q⟩:=q7 I;rcases Nat.lt_or_ge 8 (bl n) with J|J
   . have:2 ^ 8<=2 ^ (bl n - 1):=Nat.pow_le_pow_right (by omega) (by omega);omega
   . exact J
theorem NQ (n:Nat):(n:Int).fdiv (2 ^ (min (32:Int).toNat (IntKind.bits .u64)))=((n / 4294967296:Nat):Int):=by
 show (n:Int).fdiv 4294967296=_;rw [Int.fdiv_eq_ediv_of_nonneg _ (by omega)];omega
theorem Oa (n:Nat):(n:Int).fdiv (2 ^ (min (16:Int).toNat (IntKind.bits .u64)))=((n / 65536:Nat):Int):=by
 show (n:Int).fdiv 65536=_;rw [Int.fdiv_eq_ediv_of_nonneg _ (by omega)];omega
theorem OM (n:Nat):(n:Int).fdiv (2 ^ (min (8:Int).toNat (IntKind.bits .u64)))=((n / 256:Nat):Int):=by
 show (n:Int).fdiv 256=_;rw [Int.fdiv_eq_ediv_of_nonneg _ (by omega)];omega
theorem tI {m:Nat} (hm:m<256) {K:UInt8->Prop} (I: ∀b:UInt8,(b.toNat:Int)=(bl m:Int)->K b):
 ∃b,0<=(IntKind.u8.wrap (m:Int))/\j7[(IntKind.u8.wrap (m:Int)).toNat]? =some b/\K b:=by
 rw [Fg (by omega) (by omega)];refine ⟨UInt8.ofNat (bl m),by omega,?_,I _ ?_⟩
 . rw [Int.toNat_natCast];exact LQ m hm
 . have:=jk hm;simp;omega
theorem No (n:Nat) (hn:n<18446744073709551616) (w:World):Calls Tryz.prog jU.id #[.int .u64 n] w fun e w'=>e= .returned (.int .i64 (bl n))/\ky w w':=by
 refine jU.ak ?_;unfold jU.w;simp only [NQ,Oa,OM,ge_iff_le];have dV: ∀ (x:Int),x=(bl n:Int)->(Ending.returned (.int .i64 x)= .returned (.int .i64 (bl n))/\ky w w):=fun x Z=> ⟨by rw [Z],ky.refl w⟩
 have J:4294967296<=n->bl n=32+bl (n / 4294967296):=fun h=>B6 n 32 h;have O: ∀m,65536<=m->bl m=16+bl (m / 65536):=fun m h=>B6 m 16 h;have U: ∀m,256<=m->bl m=8+bl (m / 256):=fun m h=>B6 m 8 h;have w1: ∀ {x:Int},0<=x->x<1000->i64.wrap x=x:=fun h1 Q=>aD (by omega) (by omega);refine aj (fun h1=> ?_) (fun h1=> ?_)<;>simp only [decide_eq_true_eq,decide_eq_false_iff_not] at h1
 . refine ⟨by decide,aj (fun Q=> ?_) (fun Q=> ?_)⟩<;>simp only [decide_eq_true_eq,decide_eq_false_iff_not] at Q
   . refine ⟨by decide,aj (fun I=> ?_) (fun I=> ?_)⟩<;>simp only [decide_eq_true_eq,decide_eq_false_iff_not] at I
     . refine ⟨by decide,tI (by omega) fun b hb=>dV _ ?_⟩;have V:=J (by omega);have X:=O (n / 4294967296) (by omega);have Y:=U (n / 4294967296 / 65536) (by omega);have:=jk (n:=n / 4294967296 / 65536 / 256) (by omega);rw [hb,w1 (x:=32+16) (by omega) (by omega),w1 (x:=32+16+8) (by omega) (by omega),w1 (x:=(bl _:Int)) (by omega) (by omega),w1 (by omega) (by omega)];omega
     . refine tI (by omega) fun b hb=>dV _ ?_;have V:=J (by omega);have X:=O (n / 4294967296) (by omega);have:=jk (n:=n / 4294967296 / 65536) (by omega);rw [hb,w1 (x:=32+16) (by omega) (by omega),w1 (x:=(bl _:Int)) (by omega) (by omega),w1 (by omega) (by omega)];omega
   . refine aj (fun I=> ?_) (fun I=> ?_)<;>simp only [decide_eq_true_eq,decide_eq_false_iff_not] at I
     . refine ⟨by decide,tI (by omega) fun b hb=>dV _ ?_⟩;have V:=J (by omega);have Y:=U (n / 4294967296) (by omega);have:=jk (n:=n / 4294967296 / 256) (by omega);rw [hb,w1 (x:=32+8) (by omega) (by omega),w1 (x:=(bl _:Int)) (by omega) (by omega),w1 (by omega) (by omega)];omega
     . refine tI (by omega) fun b hb=>dV _ ?_;have V:=J (by omega);have:=jk (n:=n / 4294967296) (by omega);rw [hb,w1 (x:=(bl _:Int)) (by omega) (by omega),w1 (by omega) (by omega)];omega
 . refine aj (fun Q=> ?_) (fun Q=> ?_)<;>simp only [decide_eq_true_eq,decide_eq_false_iff_not] at Q
   . refine ⟨by decide,aj (fun I=> ?_) (fun I=> ?_)⟩<;>simp only [decide_eq_true_eq,decide_eq_false_iff_not] at I
     . refine ⟨by decide,tI (by omega) fun b hb=>dV _ ?_⟩;have X:=O n (by omega);have Y:=U (n / 65536) (by omega);have:=jk (n:=n / 65536 / 256) (by omega);rw [hb,w1 (x:=0+16) (by omega) (by omega),w1 (x:=0+16+8) (by omega) (by omega),w1 (x:=(bl _:Int)) (by omega) (by omega),w1 (by omega) (by omega)];omega
     . refine tI (by omega) fun b hb=>dV _ ?_;have X:=O n (by omega);have:=jk (n:=n / 65536) (by omega);rw [hb,w1 (x:=0+16) (by omega) (by omega),w1 (x:=(bl _:Int)) (by omega) (by omega),w1 (by omega) (by omega)];omega
   . refine aj (fun I=> ?_) (fun I=> ?_)<;>simp only [decide_eq_true_eq,decide_eq_false_iff_not] at I
     . refine ⟨by decide,tI (by omega) fun b hb=>dV _ ?_⟩;have Y:=U n (by omega);have:=jk (n:=n / 256) (by omega);rw [hb,w1 (x:=0+8) (by omega) (by omega),w1 (x:=(bl _:Int)) (by omega) (by omega),w1 (by omega) (by omega)];omega
     . refine tI (by omega) fun b hb=>dV _ ?_;have:=jk (n:=n) (by omega);rw [hb,w1 (x:=(bl _:Int)) (by omega) (by omega),w1 (by omega) (by omega)];omega
theorem Gm (n:Nat) (hn:n<18446744073709551616) (w:World):Calls Tryz.prog mS.id #[.int .u64 n] w fun e w'=>e= .returned (.int .i64 (bl n))/\ky w w':=by
 refine mS.ak ?_;unfold mS.w;refine (No n hn w).mono ?_;rintro e w' ⟨rfl,I⟩;exact ⟨_,rfl,rfl,I⟩
theorem Nl (k:Nat) (h:k<=62):i64.wrap ((1:Int)*2 ^ (min (k:Int).toNat (IntKind.bits .i64)))=((2 ^ k:Nat):Int):=by
 have e:min (k:Int).toNat (IntKind.bits .i64)=k:=by
  show min (k:Int).toNat 64=k;omega
 have:2 ^ k<=2 ^ 62:=Nat.pow_le_pow_right (by omega) h;rw [e,Int.one_mul];have I:(2:Int) ^ k=((2 ^ k:Nat):Int):=by simp
 rw [I];generalize 2 ^ k=x at*
 exact aD (by omega) (by omega)
theorem sY (n:Nat) (h1:1<=n) (V:n<2147483648) (w:World):Calls Tryz.prog kA.id #[.int .i64 n] w fun e w'=>e= .returned (.int .i64 (iC n))/\ky w w':=by
 refine kA.ak ?_;refine ⟨fun i w' k=> ∃m:Nat,i=m/\1<=m/\m<2147483648/\iC m=iC n/\ky w w'/\k=m,⟨n,n,rfl,h1,V,rfl,ky.refl w,rfl⟩,?_⟩;rintro i w' k _ ⟨m,rfl,Y,g2,I,O,X⟩;rw [CQ (by omega) (by omega)];refine (Gm m (by omega) w').mono ?_;rintro e w2 ⟨rfl,J⟩;obtain ⟨b1,b2⟩:=q7 (n:=m) (by omega);have Q:=GK (n:=m) (k:=31) (by omega);have Z:=Bg m;have p1:2 ^ bl m<=2 ^ 31:=Nat.pow_le_pow_right (by omega) Q;have U:i64.wrap ((bl m:Int) - 1)=((bl m - 1:Nat):Int):=by rw [aD (by omega) (by omega)];omega
 refine ⟨_,rfl,by omega,?_⟩;rw [U,Nl _ (by omega),Nl _ (by omega),aD (x:=((2 ^ bl m:Nat):Int) - 1) (by omega) (by omega)];refine aj (fun h=> ⟨by omega,?_,O.trans J⟩) (fun h=> ?_)
 . have hf:m+1=2 ^ bl m:=by have:=beq_iff_eq.1 h;omega
   rw [<- I,rn hf]
 . have hf:m+1≠2 ^ bl m:=by have:=beq_eq_false_iff_ne.1 h;omega
   have hp:=um (by omega) hf;refine ⟨by omega,m - (2 ^ (bl m - 1) - 1),by omega,m - (2 ^ (bl m - 1) - 1),?_,by omega,by omega,by rw [<- rU hf];exact I,O.trans J,rfl⟩;rw [aD (x:=((2 ^ (bl m - 1):Nat):Int) - 1) (by omega) (by omega),aD (by omega) (by omega)];omega
end
section
def BO (u a l:Int):Prop:=1<=u/\u<=1048576/\1<=a/\a<=1073741824/\1<=l/\l<=u* (iC a.toNat:Int)
instance (u a l:Int):Decidable (BO u a l):=by unfold BO;infer_instance
theorem Dp {u:Int} {m:Nat} (h1:1<=u) (U:u<=1048576) (I:1<=m) (Q:m<=1073741824):i64.wrap (u* (iC m:Int))=u* (iC m:Int)/\1<=u* (iC m:Int)/\u* (iC m:Int)<=1125899906842624:=by
 have J:=Hq m;have O:=L_ m I;obtain ⟨v,rfl⟩: ∃v:Nat,u=v:=⟨u.toNat,by omega⟩
 have b1:v*iC m<=1048576*1073741824:=Nat.mul_le_mul (by omega) (by omega);have b2:1*1<=v*iC m:=Nat.mul_le_mul (by omega) J;rw [<- Int.natCast_mul];refine ⟨aD (by omega) (by omega),by omega,by omega⟩
theorem CP (u a l:Int) (w:World):Calls Tryz.prog jI.id #[.agg #[.int .i64 u,.int .i64 a,.int .i64 l]] w fun e w'=>e= .returned (.int .i64 (if BO u a l then 0 else 1))/\ao w w':=by
 refine jI.ak ?_;unfold jI.w;simp only [and_self];intro n w2 hn;have H:bA w2.drew n _:=hn.has;have G:ao w w2.drew:=hn.mod.drew;have nM: ¬BO u a l->(Ending.returned (.int .i64 1)= .returned (.int .i64 (if BO u a l then 0 else 1))/\ao w w2.drew):=fun h=> ⟨by rw [if_neg h],G⟩
 refine ⟨_,ae H rfl,aj (fun h1=>nM ?_) (fun h1=> ⟨_,ae H rfl,aj (fun U=>nM ?_) (fun U=> ⟨_,ae H rfl,aj (fun V=>nM ?_) (fun V=> ⟨_,ae H rfl,aj (fun Q=>nM ?_) (fun Q=> ⟨_,ae H rfl,aj (fun h5=>nM ?_) (fun h5=> ⟨_,ae H rfl,?_⟩)⟩)⟩)⟩)⟩)⟩<;>
  simp only [decide_eq_true_eq,decide_eq_false_iff_not] at* <;>try (unfold BO;omega)
 obtain ⟨m,rfl⟩: ∃m:Nat,a=m:=⟨a.toNat,by omega⟩
 obtain ⟨b1,b2,X⟩:=Dp (u:=u) (m:=m) (by omega) (by omega) (by omega) (by omega);have num:=sY m (by omega) (by omega) w2.drew;have dV: ∀w',ky w2.drew w'->aG (decide (l>i64.wrap (u* (iC m:Int)))) (Ending.returned (.int .i64 1)= .returned (.int .i64 (if BO u m l then 0 else 1))/\ao w w') (Ending.returned (.int .i64 0)= .returned (.int .i64 (if BO u m l then 0 else 1))/\ao w w'):=by
  intro w' I;rw [b1];refine aj (fun O=> ⟨?_,G.trans I.mod⟩) (fun O=> ⟨?_,G.trans I.mod⟩)<;>simp only [decide_eq_true_eq,decide_eq_false_iff_not] at O
  . rw [if_neg];unfold BO;simp only [Int.toNat_natCast];omega
  . rw [if_pos];unfold BO;simp only [Int.toNat_natCast];omega
 refine ⟨⟨_,ae H rfl,⟨_,ae H rfl,?_⟩,?_⟩,⟨_,ae H rfl,⟨_,ae H rfl,?_⟩,?_⟩,?_⟩<;>refine num.mono ?_<;>rintro e w' ⟨rfl,I⟩<;>have J:=H.keep (S:=fun _=>False) I.mod id<;>refine ⟨_,rfl,?_⟩
 . exact dV w' I
 . exact ⟨_,ae J rfl,dV w' I⟩
 . exact dV w' I
 . exact ⟨_,ae J rfl,dV w' I⟩
 . exact ⟨_,ae J rfl,_,ae J rfl,dV w' I⟩
def oJ (u a l:Int):Int:=if BO u a l then u else 0
def kH (u a l:Int):Int:=if BO u a l then (if 1<l then a else if a=1073741824 then 1 else a+1) else 0
def mW (u a l:Int):Int:=if BO u a l then (if 1<l then l - 1 else u* (iC (kH u a l).toNat:Int)) else 0
def nj (u a l:Int):Bool:=decide (BO u a l) && decide (l=1)
theorem EE (u a l:Int) (w:World):Calls Tryz.prog nv.id #[.agg #[.int .i64 u,.int .i64 a,.int .i64 l]] w fun e w'=>
 e= .returned (.tuple #[.agg #[.int .i64 (oJ u a l),.int .i64 (kH u a l),.int .i64 (mW u a l)],.bool (nj u a l)])/\ao w w':=by
 refine nv.ak ?_;intro n w2 hn m w4 hm;have Z:n≠m:=hm.ne hn.has;have G:ao w w4:=hn.mod.trans hm.mod;have U:w.heap.size<=n:=by rw [hn.num];exact Nat.le_refl _
 have X:w.heap.size<=m:=by rw [hm.num];exact hn.mod.size
 refine ⟨_,_,_,jM (hn.has.sI hm),(CP u a l w4).mono ?_⟩;rintro e w8 ⟨rfl,hw⟩;have Hn:=(hn.has.sI hm).grow hw;have Hm:=hm.has.grow hw;have G:=G.trans hw;refine ⟨_,rfl,?_⟩;by_cases I:BO u a l
 . rw [if_pos I];refine bm rfl ⟨_,ae Hn rfl,?_⟩;obtain ⟨h1,h2,h3,h4,h5,h6⟩:=id I;obtain ⟨q,rfl⟩: ∃q:Nat,a=q:=⟨a.toNat,by omega⟩
   simp only [Int.toNat_natCast] at h6;obtain ⟨b1,b2,b3⟩:=Dp (u:=u) (m:=q) (by omega) (by omega) (by omega) (by omega);rw [aD (x:=l - 1) (by omega) (by omega)];refine bO Hn rfl rfl fun bu Q Mn=> ?_;have V:=Hm.put Mn (Ne.symm Z);have G':=G.bV Mn U;refine ⟨_,ae Q rfl,aj (fun h=> ?_) (fun h=> ?_)⟩<;>simp only [decide_eq_true_eq,decide_eq_false_iff_not] at h
   . refine ⟨_,_,_,jM Q,bj V rfl rfl fun bY aa Mm=> ⟨_,_,_,jM aa,?_,G'.bV Mm X⟩⟩;simp only [oJ,kH,mW,nj,if_pos I,if_pos (show 1<l by omega),decide_eq_false (show ¬l=1 by omega),Bool.and_false]
   . have hl:l=1:=by omega
     subst hl;refine ⟨_,ae Q rfl,by decide,?_⟩;have e1:i64.wrap ((q:Int).tmod 1073741824+1)=(kH u q 1):=by
      simp only [kH,if_pos I];rw [if_neg (by omega)];have:(q:Int).tmod 1073741824=((q % 1073741824:Nat):Int):=by
       rw [Int.tmod_eq_emod_of_nonneg (by omega)];omega
      rw [this,aD (by omega) (by omega)];split<;>omega
     rw [e1];obtain ⟨Y,aw,g1,g2⟩: ∃Y:Nat,kH u q 1=Y/\1<=Y/\Y<=1073741824:=by
      simp only [kH,if_pos I];rw [if_neg (by omega)];split
      . exact ⟨1,rfl,by omega,by omega⟩
      . exact ⟨q+1,by omega,by omega,by omega⟩
     have hr:(Value.tuple #[.agg #[.int .i64 u,.int .i64 Y,.int .i64 (u* (iC Y:Int))],.bool true])= .tuple #[.agg #[.int .i64 (oJ u q 1),.int .i64 Y,.int .i64 (mW u q 1)],.bool (nj u q 1)]:=by
      simp only [oJ,mW,nj,if_pos I,aw,if_neg (show ¬(1:Int)<1 by omega),decide_eq_true I,Int.toNat_natCast];rfl
     rw [aw];obtain ⟨c1,c2,c3⟩:=Dp (u:=u) (m:=Y) (by omega) (by omega) (by omega) (by omega);refine bO Q rfl rfl fun av O ar=> ?_;have aa:=(V.put ar (Ne.symm Z)).drew;have O:bA av.drew n _:=O;have G2:=(G'.bV ar U).drew;have num:=sY Y (by omega) (by omega) av.drew;refine ⟨_,ae O rfl,⟨_,ae O rfl,?_⟩,?_⟩<;>refine num.mono ?_<;>rintro e w' ⟨rfl,an⟩<;>have ad:=O.keep (S:=fun _=>False) an.mod id<;>have ax:=aa.keep (S:=fun _=>False) an.mod id<;>have G3:=G2.trans an.mod
     . refine ⟨_,rfl,?_⟩;rw [c1];refine bO ad rfl rfl fun a6 ag J=> ⟨_,_,_,jM ag,bj (ax.put J (Ne.symm Z)) rfl rfl fun aT ac ap=> ⟨_,_,_,jM ac,?_,(G3.bV J U).bV ap X⟩⟩
       rw [<- hr]
     . refine ⟨_,rfl,_,ae ad rfl,?_⟩;rw [c1];refine bO ad rfl rfl fun a6 ag J=> ⟨_,_,_,jM ag,bj (ax.put J (Ne.symm Z)) rfl rfl fun aT ac ap=> ⟨_,_,_,jM ac,?_,(G3.bV J U).bV ap X⟩⟩
       rw [<- hr]
 . rw [if_neg I];refine cu rfl ?_;refine bj Hm rfl rfl fun bv V Mm=> ⟨_,_,_,jM V,?_,G.bV Mm X⟩
   simp only [oJ,kH,mW,nj,if_neg I,decide_eq_false I,Bool.false_and]
end
section
theorem Di (u:Int) (w:World):Calls Tryz.prog lR.id #[.int .i64 u] w fun e w'=>
 e= .returned (.tuple (if 1<=u/\u<=1048576 then #[.agg #[.int .i64 u,.int .i64 1,.int .i64 u],.int .i64 0] else #[.agg #[.int .i64 0,.int .i64 0,.int .i64 0],.int .i64 1]))/\ao w w':=by
 refine lR.ak ?_;intro n w2 hn;have I:w.heap.size<=n:=by rw [hn.num];exact Nat.le_refl _
 refine aj (fun h1=> ?_) (fun h1=>aj (fun J=> ?_) (fun J=> ?_))<;>simp only [decide_eq_true_eq,decide_eq_false_iff_not] at*
 . refine bj hn.has rfl rfl fun w3 H M=> ⟨_,_,_,jM H,?_,hn.mod.bV M I⟩
   rw [if_neg (by omega)]
 . refine bj hn.has rfl rfl fun w3 H M=> ⟨_,_,_,jM H,?_,hn.mod.bV M I⟩
   rw [if_neg (by omega)]
 . refine bj hn.has rfl rfl fun w3 H M=> ⟨_,_,_,jM H,?_,hn.mod.bV M I⟩
   rw [if_pos (by omega)]
end
end Go.Proofs.YtenmibfmhccmiaaGreat.W.Lu
