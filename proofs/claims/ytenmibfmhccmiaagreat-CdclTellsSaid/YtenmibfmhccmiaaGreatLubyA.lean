/- The row of layer 10 in plain numbers. -/
import Derived.Test.YtenmibfmhccmiaaGreatGenCdcl
import Derived.Test.YtenmibfmhccmiaaGreatFwLib
import Derived.Test.YtenmibfmhccmiaaGreatFwMem
import Derived.Test.YtenmibfmhccmiaaGreatFwEq
namespace Go.Luby
def bl (n:Nat):Nat:=if n=0 then 0 else n.log2+1
theorem zR (n:Nat):n<2 ^ bl n:=by
 unfold bl;split
 . subst_vars;decide
 . exact Nat.lt_log2_self
theorem qr {n:Nat} (h:0<n):1<=bl n/\2 ^ (bl n - 1)<=n:=by
 unfold bl;rw [if_neg (by omega)];exact ⟨by omega,by simpa using Nat.log2_self_le (by omega)⟩
theorem xO {n k:Nat} (h1:n<2 ^ k) (I:k=0\/2 ^ (k - 1)<=n):bl n=k:=by
 rcases Nat.eq_zero_or_pos n with J|J
 . subst J;rcases I with I|I
   . subst I;rfl
   . have:=Nat.two_pow_pos (k - 1);omega
 . obtain ⟨O,Q⟩:=qr J;have U:=zR n;rcases Nat.lt_trichotomy (bl n) k with h|h|h
   . have:2 ^ bl n<=2 ^ (k - 1):=Nat.pow_le_pow_right (by omega) (by omega);omega
   . exact h
   . have:2 ^ k<=2 ^ (bl n - 1):=Nat.pow_le_pow_right (by omega) (by omega);omega
theorem Fe {n k:Nat} (h:n<2 ^ k):bl n<=k:=by
 rcases Nat.eq_zero_or_pos n with I|I
 . subst I;exact Nat.zero_le _
 . obtain ⟨O,Q⟩:=qr I;rcases Nat.lt_or_ge k (bl n) with J|J
   . have:2 ^ k<=2 ^ (bl n - 1):=Nat.pow_le_pow_right (by omega) (by omega);omega
   . exact J
theorem dO (k:Nat):2 ^ (k+1)=2*2 ^ k:=by rw [Nat.pow_succ,Nat.mul_comm]
theorem sS {n:Nat} (h:0<n) (hf:n+1≠2 ^ bl n):2<=bl n/\1<=2 ^ (bl n - 1) - 1/\2 ^ (bl n - 1) - 1<n:=by
 obtain ⟨Q,I⟩:=qr h;have U:2<=bl n:=by
  rcases Nat.lt_or_ge (bl n) 2 with J|J
  . have e:bl n=1:=by omega
    have:=zR n;rw [e] at this hf;omega
  . exact J
 obtain ⟨j,O⟩: ∃j,bl n=j+2:=⟨bl n - 2,by omega⟩
 rw [O] at I ⊢;have e:j+2 - 1=j+1:=by omega
 rw [e] at I ⊢;have:=dO j;have:=Nat.two_pow_pos j;omega
def ig (i:Nat):Nat:=if h:i+1=2 ^ bl i then 2 ^ (bl i - 1) else ig (i - (2 ^ (bl i - 1) - 1))
termination_by i
decreasing_by
 have I:0<i:=by
  rcases Nat.eq_zero_or_pos i with I|I
  . subst I;exact absurd rfl h
  . exact I
 have:=sS I h;omega
theorem qG {i:Nat} (h:i+1=2 ^ bl i):ig i=2 ^ (bl i - 1):=by rw [ig,dif_pos h]
theorem qB {i:Nat} (h:i+1≠2 ^ bl i):ig i=ig (i - (2 ^ (bl i - 1) - 1)):=by rw [ig,dif_neg h]
theorem uE (k:Nat):bl (2 ^ (k+1) - 1)=k+1:=by
 have:=Nat.two_pow_pos k;have:=dO k;refine xO (by omega) (.inr ?_);simp;omega
theorem iW (k:Nat):ig (2 ^ (k+1) - 1)=2 ^ k:=by
 have:=Nat.two_pow_pos (k+1);rw [qG (by rw [uE];omega),uE];simp
theorem ub {k i:Nat} (h1:1<=i) (I:i<=2 ^ k - 1):ig (2 ^ k - 1+i)=ig i:=by
 have:=Nat.two_pow_pos k;have hb:bl (2 ^ k - 1+i)=k+1:=by
  have:=dO k;exact xO (by omega) (.inr (by simp;omega))
 have hs:=dO k;rw [qB (by rw [hb];omega),hb];simp only [Nat.add_sub_cancel];congr 1;omega
theorem Hi: ∀i:Nat,∃j,ig i=2 ^ j:=by
 intro i
 induction i using Nat.strongRecOn with
 |_ i J=>
  by_cases h:i+1=2 ^ bl i
  . exact ⟨_,qG h⟩
  . rw [qB h];have I:0<i:=by
     rcases Nat.eq_zero_or_pos i with I|I
     . subst I;exact absurd rfl h
     . exact I
    have:=sS I h;exact J _ (by omega)
theorem Kv: ∀i:Nat,1<=i->ig i<=i:=by
 intro i
 induction i using Nat.strongRecOn with
 |_ i J=>
  intro I;by_cases h:i+1=2 ^ bl i
  . rw [qG h];exact (qr I).2
  . rw [qB h];have:=sS I h;have:=J (i - (2 ^ (bl i - 1) - 1)) (by omega) (by omega);omega
theorem GH (i:Nat):1<=ig i:=by
 obtain ⟨j,I⟩:=Hi i;rw [I];exact Nat.two_pow_pos j
def sum:Nat->Nat
 |0=>0
 |n+1=>sum n+ig (n+1)
theorem mS (k:Nat): ∀i:Nat,i<=2 ^ k - 1->sum (2 ^ k - 1+i)=sum (2 ^ k - 1)+sum i
 |0,_=>by simp [sum]
 |i+1,h=>by
  have I:=mS k i (by omega);show sum (2 ^ k - 1+i+1)=_;simp only [sum];rw [I,Nat.add_assoc (2 ^ k - 1) i 1,ub (by omega) h];omega
theorem zC: ∀k:Nat,sum (2 ^ k - 1)=k*2 ^ k / 2
 |0=>by simp [sum]
 |k+1=>by
  have J:=zC k;have hp:=Nat.two_pow_pos k;have hs:=dO k;have h1:=mS k (2 ^ k - 1) (Nat.le_refl _);have e:2 ^ (k+1) - 1=(2 ^ k - 1+ (2 ^ k - 1))+1:=by omega
  rw [e];simp only [sum];rw [h1,<- e,iW,J,hs];have:(k+1)* (2*2 ^ k)=2* ((k+1)*2 ^ k):=by rw [Nat.mul_left_comm]
  rw [this,Nat.mul_div_cancel_left _ (by omega)];rcases k with _|k
  . simp
  . have I:(k+1)*2 ^ (k+1) / 2=(k+1)*2 ^ k:=by
     rw [dO,Nat.mul_left_comm,Nat.mul_div_cancel_left _ (by omega)]
    rw [I,dO];have:(k+1+1)* (2*2 ^ k)=2* ((k+1)*2 ^ k)+2*2 ^ k:=by
     rw [Nat.add_mul,Nat.one_mul,Nat.mul_left_comm]
    omega
end Go.Luby
namespace Go.Proofs.YtenmibfmhccmiaaGreat.W.Lu
open Go Go.Fw Go.RowKit Go.Luby
open Go.IntKind (i64)
section
theorem Ky: ∀j:Nat,j<256->jB[j]? =some (UInt8.ofNat (bl j)):=by
 decide+kernel
theorem AV (n s:Nat) (h:2 ^ s<=n):bl n=s+bl (n / 2 ^ s):=by
 have hp:=Nat.two_pow_pos s;have hq:0<n / 2 ^ s:=Nat.div_pos h hp;obtain ⟨O,I⟩:=qr hq;have J:=zR (n / 2 ^ s);refine xO ?_ (.inr ?_)
 . rw [Nat.pow_add];have:=(Nat.div_lt_iff_lt_mul hp).1 J
   rwa [Nat.mul_comm] at this
 . have:s+bl (n / 2 ^ s) - 1=s+ (bl (n / 2 ^ s) - 1):=by omega
   rw [this,Nat.pow_add];have:=(Nat.le_div_iff_mul_le hp).1 I
   rwa [Nat.mul_comm] at this
theorem i9 {n:Nat} (h:n<256):bl n<=8:=by
 rcases Nat.eq_zero_or_pos n with I|I
 . subst I;decide
 . obtain ⟨O,Q⟩:=qr I;rcases Nat.lt_or_ge 8 (bl n) with J|J
   . have:2 ^ 8<=2 ^ (bl n - 1):=Nat.pow_le_pow_right (by omega) (by omega);omega
   . exact J
theorem MO (n:Nat):(n:Int).fdiv (2 ^ (min (32:Int).toNat (IntKind.bits .u64)))=((n / 4294967296:Nat):Int):=by
 show (n:Int).fdiv 4294967296=_;rw [Int.fdiv_eq_ediv_of_nonneg _ (by omega)];omega
theorem MW (n:Nat):(n:Int).fdiv (2 ^ (min (16:Int).toNat (IntKind.bits .u64)))=((n / 65536:Nat):Int):=by
 show (n:Int).fdiv 65536=_;rw [Int.fdiv_eq_ediv_of_nonneg _ (by omega)];omega
theorem Nl (n:Nat):(n:Int).fdiv (2 ^ (min (8:Int).toNat (IntKind.bits .u64)))=((n / 256:Nat):Int):=by
 show (n:Int).fdiv 256=_;rw [Int.fdiv_eq_ediv_of_nonneg _ (by omega)];omega
theorem rM {m:Nat} (hm:m<256) {K:UInt8->Prop} (I: ∀b:UInt8,(b.toNat:Int)=(bl m:Int)->K b):
 ∃b,0<=(IntKind.u8.wrap (m:Int))/\jB[(IntKind.u8.wrap (m:Int)).toNat]? =some b/\K b:=by
 rw [C7 (by omega) (by omega)];refine ⟨UInt8.ofNat (bl m),by omega,?_,I _ ?_⟩
 . rw [Int.toNat_natCast];exact Ky m hm
 . have:=i9 hm;simp;omega
theorem Lc (n:Nat) (hn:n<18446744073709551616) (w:World):Calls Tryz.prog iD.id #[.int .u64 n] w fun e w'=>e= .returned (.int .i64 (bl n))/\jM w w':=by
 refine iD.ah ?_;unfold iD.w;simp only [MO,MW,Nl,ge_iff_le];have fI: ∀ (x:Int),x=(bl n:Int)->(Ending.returned (.int .i64 x)= .returned (.int .i64 (bl n))/\jM w w):=fun x Z=> ⟨by rw [Z],jM.refl w⟩
 have J:4294967296<=n->bl n=32+bl (n / 4294967296):=fun h=>AV n 32 h;have O: ∀m,65536<=m->bl m=16+bl (m / 65536):=fun m h=>AV m 16 h;have U: ∀m,256<=m->bl m=8+bl (m / 256):=fun m h=>AV m 8 h;have w1: ∀ {x:Int},0<=x->x<1000->i64.wrap x=x:=fun h1 Q=>aB (by omega) (by omega);refine ao (fun h1=> ?_) (fun h1=> ?_)<;>simp only [decide_eq_true_eq,decide_eq_false_iff_not] at h1
 . refine ⟨by decide,ao (fun Q=> ?_) (fun Q=> ?_)⟩<;>simp only [decide_eq_true_eq,decide_eq_false_iff_not] at Q
   . refine ⟨by decide,ao (fun I=> ?_) (fun I=> ?_)⟩<;>simp only [decide_eq_true_eq,decide_eq_false_iff_not] at I
     . refine ⟨by decide,rM (by omega) fun b hb=>fI _ ?_⟩;have X:=J (by omega);have V:=O (n / 4294967296) (by omega);have Y:=U (n / 4294967296 / 65536) (by omega);have:=i9 (n:=n / 4294967296 / 65536 / 256) (by omega);rw [hb,w1 (x:=32+16) (by omega) (by omega),w1 (x:=32+16+8) (by omega) (by omega),w1 (x:=(bl _:Int)) (by omega) (by omega),w1 (by omega) (by omega)];omega
     . refine rM (by omega) fun b hb=>fI _ ?_;have X:=J (by omega);have V:=O (n / 4294967296) (by omega);have:=i9 (n:=n / 4294967296 / 65536) (by omega);rw [hb,w1 (x:=32+16) (by omega) (by omega),w1 (x:=(bl _:Int)) (by omega) (by omega),w1 (by omega) (by omega)];omega
   . refine ao (fun I=> ?_) (fun I=> ?_)<;>simp only [decide_eq_true_eq,decide_eq_false_iff_not] at I
     . refine ⟨by decide,rM (by omega) fun b hb=>fI _ ?_⟩;have X:=J (by omega);have Y:=U (n / 4294967296) (by omega);have:=i9 (n:=n / 4294967296 / 256) (by omega);rw [hb,w1 (x:=32+8) (by omega) (by omega),w1 (x:=(bl _:Int)) (by omega) (by omega),w1 (by omega) (by omega)];omega
     . refine rM (by omega) fun b hb=>fI _ ?_;have X:=J (by omega);have:=i9 (n:=n / 4294967296) (by omega);rw [hb,w1 (x:=(bl _:Int)) (by omega) (by omega),w1 (by omega) (by omega)];omega
 . refine ao (fun Q=> ?_) (fun Q=> ?_)<;>simp only [decide_eq_true_eq,decide_eq_false_iff_not] at Q
   . refine ⟨by decide,ao (fun I=> ?_) (fun I=> ?_)⟩<;>simp only [decide_eq_true_eq,decide_eq_false_iff_not] at I
     . refine ⟨by decide,rM (by omega) fun b hb=>fI _ ?_⟩;have V:=O n (by omega);have Y:=U (n / 65536) (by omega);have:=i9 (n:=n / 65536 / 256) (by omega);rw [hb,w1 (x:=0+16) (by omega) (by omega),w1 (x:=0+16+8) (by omega) (by omega),w1 (x:=(bl _:Int)) (by omega) (by omega),w1 (by omega) (by omega)];omega
     . refine rM (by omega) fun b hb=>fI _ ?_;have V:=O n (by omega);have:=i9 (n:=n / 65536) (by omega);rw [hb,w1 (x:=0+16) (by omega) (by omega),w1 (x:=(bl _:Int)) (by omega) (by omega),w1 (by omega) (by omega)];omega
   . refine ao (fun I=> ?_) (fun I=> ?_)<;>simp only [decide_eq_true_eq,decide_eq_false_iff_not] at I
     . refine ⟨by decide,rM (by omega) fun b hb=>fI _ ?_⟩;have Y:=U n (by omega);have:=i9 (n:=n / 256) (by omega);rw [hb,w1 (x:=0+8) (by omega) (by omega),w1 (x:=(bl _:Int)) (by omega) (by omega),w1 (by omega) (by omega)];omega
     . refine rM (by omega) fun b hb=>fI _ ?_;have:=i9 (n:=n) (by omega);rw [hb,w1 (x:=(bl _:Int)) (by omega) (by omega),w1 (by omega) (by omega)];omega
theorem GB (n:Nat) (hn:n<18446744073709551616) (w:World):Calls Tryz.prog kL.id #[.int .u64 n] w fun e w'=>e= .returned (.int .i64 (bl n))/\jM w w':=by
 refine kL.ah ?_;unfold kL.w;refine (Lc n hn w).mono ?_;rintro e w' ⟨rfl,I⟩;exact ⟨_,rfl,rfl,I⟩
theorem K8 (k:Nat) (h:k<=62):i64.wrap ((1:Int)*2 ^ (min (k:Int).toNat (IntKind.bits .i64)))=((2 ^ k:Nat):Int):=by
 have e:min (k:Int).toNat (IntKind.bits .i64)=k:=by
  show min (k:Int).toNat 64=k;omega
 have:2 ^ k<=2 ^ 62:=Nat.pow_le_pow_right (by omega) h;rw [e,Int.one_mul];have I:(2:Int) ^ k=((2 ^ k:Nat):Int):=by simp
 rw [I];generalize 2 ^ k=x at*
 exact aB (by omega) (by omega)
theorem rW (n:Nat) (h1:1<=n) (Q:n<2147483648) (w:World):Calls Tryz.prog iL.id #[.int .i64 n] w fun e w'=>e= .returned (.int .i64 (ig n))/\jM w w':=by
 refine iL.ah ?_;refine ⟨fun i w' k=> ∃m:Nat,i=m/\1<=m/\m<2147483648/\ig m=ig n/\jM w w'/\k=m,⟨n,n,rfl,h1,Q,rfl,jM.refl w,rfl⟩,?_⟩;rintro i w' k _ ⟨m,rfl,X,Y,J,O,Z⟩;rw [AU (by omega) (by omega)];refine (GB m (by omega) w').mono ?_;rintro e w2 ⟨rfl,I⟩;obtain ⟨b1,b2⟩:=qr (n:=m) (by omega);have U:=Fe (n:=m) (k:=31) (by omega);have b4:=zR m;have p1:2 ^ bl m<=2 ^ 31:=Nat.pow_le_pow_right (by omega) U;have V:i64.wrap ((bl m:Int) - 1)=((bl m - 1:Nat):Int):=by rw [aB (by omega) (by omega)];omega
 refine ⟨_,rfl,by omega,?_⟩;rw [V,K8 _ (by omega),K8 _ (by omega),aB (x:=((2 ^ bl m:Nat):Int) - 1) (by omega) (by omega)];refine ao (fun h=> ⟨by omega,?_,O.trans I⟩) (fun h=> ?_)
 . have hf:m+1=2 ^ bl m:=by have:=beq_iff_eq.1 h;omega
   rw [<- J,qG hf]
 . have hf:m+1≠2 ^ bl m:=by have:=beq_eq_false_iff_ne.1 h;omega
   have hp:=sS (by omega) hf;refine ⟨by omega,m - (2 ^ (bl m - 1) - 1),by omega,m - (2 ^ (bl m - 1) - 1),?_,by omega,by omega,by rw [<- qB hf];exact J,O.trans I,rfl⟩;rw [aB (x:=((2 ^ (bl m - 1):Nat):Int) - 1) (by omega) (by omega),aB (by omega) (by omega)];omega
end
section
def Aq (u a l:Int):Prop:=1<=u/\u<=1048576/\1<=a/\a<=1073741824/\1<=l/\l<=u* (ig a.toNat:Int)
instance (u a l:Int):Decidable (Aq u a l):=by unfold Aq;infer_instance
theorem BY {u:Int} {m:Nat} (h1:1<=u) (O:u<=1048576) (J:1<=m) (U:m<=1073741824):i64.wrap (u* (ig m:Int))=u* (ig m:Int)/\1<=u* (ig m:Int)/\u* (ig m:Int)<=1125899906842624:=by
 have I:=GH m;have Q:=Kv m J;obtain ⟨v,rfl⟩: ∃v:Nat,u=v:=⟨u.toNat,by omega⟩
 have b1:v*ig m<=1048576*1073741824:=Nat.mul_le_mul (by omega) (by omega);have b2:1*1<=v*ig m:=Nat.mul_le_mul (by omega) I;rw [<- Int.natCast_mul];refine ⟨aB (by omega) (by omega),by omega,by omega⟩
theorem B_ (u a l:Int) (w:World):Calls Tryz.prog iB.id #[.agg #[.int .i64 u,.int .i64 a,.int .i64 l]] w fun e w'=>e= .returned (.int .i64 (if Aq u a l then 0 else 1))/\aq w w':=by
 refine iB.ah ?_;unfold iB.w;simp only [and_self];intro n w2 hn;have H:bF w2.drew n _:=hn.has;have G:aq w w2.drew:=hn.mod.drew;have I: ¬Aq u a l->(Ending.returned (.int .i64 1)= .returned (.int .i64 (if Aq u a l then 0 else 1))/\aq w w2.drew):=fun h=> ⟨by rw [if_neg h],G⟩
 refine ⟨_,ad H rfl,ao (fun h1=>I ?_) (fun h1=> ⟨_,ad H rfl,ao (fun U=>I ?_) (fun U=> ⟨_,ad H rfl,ao (fun V=>I ?_) (fun V=> ⟨_,ad H rfl,ao (fun X=>I ?_) (fun X=> ⟨_,ad H rfl,ao (fun h5=>I ?_) (fun h5=> ⟨_,ad H rfl,?_⟩)⟩)⟩)⟩)⟩)⟩<;>
  simp only [decide_eq_true_eq,decide_eq_false_iff_not] at* <;>try (unfold Aq;omega)
 obtain ⟨m,rfl⟩: ∃m:Nat,a=m:=⟨a.toNat,by omega⟩
 obtain ⟨b1,b2,Y⟩:=BY (u:=u) (m:=m) (by omega) (by omega) (by omega) (by omega);have num:=rW m (by omega) (by omega) w2.drew;have fI: ∀w',jM w2.drew w'->aH (decide (l>i64.wrap (u* (ig m:Int)))) (Ending.returned (.int .i64 1)= .returned (.int .i64 (if Aq u m l then 0 else 1))/\aq w w') (Ending.returned (.int .i64 0)= .returned (.int .i64 (if Aq u m l then 0 else 1))/\aq w w'):=by
  intro w' J;rw [b1];refine ao (fun Q=> ⟨?_,G.trans J.mod⟩) (fun Q=> ⟨?_,G.trans J.mod⟩)<;>simp only [decide_eq_true_eq,decide_eq_false_iff_not] at Q
  . rw [if_neg];unfold Aq;simp only [Int.toNat_natCast];omega
  . rw [if_pos];unfold Aq;simp only [Int.toNat_natCast];omega
 refine ⟨⟨_,ad H rfl,⟨_,ad H rfl,?_⟩,?_⟩,⟨_,ad H rfl,⟨_,ad H rfl,?_⟩,?_⟩,?_⟩<;>refine num.mono ?_<;>rintro e w' ⟨rfl,J⟩<;>have O:=H.keep (S:=fun _=>False) J.mod id<;>refine ⟨_,rfl,?_⟩
 . exact fI w' J
 . exact ⟨_,ad O rfl,fI w' J⟩
 . exact fI w' J
 . exact ⟨_,ad O rfl,fI w' J⟩
 . exact ⟨_,ad O rfl,_,ad O rfl,fI w' J⟩
def m_ (u a l:Int):Int:=if Aq u a l then u else 0
def jU (u a l:Int):Int:=if Aq u a l then (if 1<l then a else if a=1073741824 then 1 else a+1) else 0
def mf (u a l:Int):Int:=if Aq u a l then (if 1<l then l - 1 else u* (ig (jU u a l).toNat:Int)) else 0
def mi (u a l:Int):Bool:=decide (Aq u a l) && decide (l=1)
theorem Dx (u a l:Int) (w:World):Calls Tryz.prog kC.id #[.agg #[.int .i64 u,.int .i64 a,.int .i64 l]] w fun e w'=>
 e= .returned (.tuple #[.agg #[.int .i64 (m_ u a l),.int .i64 (jU u a l),.int .i64 (mf u a l)],.bool (mi u a l)])/\aq w w':=by
 refine kC.ah ?_;intro n w2 hn m w4 hm;have X:n≠m:=hm.ne hn.has;have G:aq w w4:=hn.mod.trans hm.mod;have U:w.heap.size<=n:=by rw [hn.num];exact Nat.le_refl _
 have Z:w.heap.size<=m:=by rw [hm.num];exact hn.mod.size
 refine ⟨_,_,_,jy (hn.has.qT hm),(B_ u a l w4).mono ?_⟩;rintro e w8 ⟨rfl,hw⟩;have Hn:=(hn.has.qT hm).grow hw;have Hm:=hm.has.grow hw;have G:=G.trans hw;refine ⟨_,rfl,?_⟩;by_cases I:Aq u a l
 . rw [if_pos I];refine bm rfl ⟨_,ad Hn rfl,?_⟩;obtain ⟨h1,h2,h3,h4,h5,h6⟩:=id I;obtain ⟨q,rfl⟩: ∃q:Nat,a=q:=⟨a.toNat,by omega⟩
   simp only [Int.toNat_natCast] at h6;obtain ⟨b1,b2,b3⟩:=BY (u:=u) (m:=q) (by omega) (by omega) (by omega) (by omega);rw [aB (x:=l - 1) (by omega) (by omega)];refine bZ Hn rfl rfl fun b4 V Mn=> ?_;have Y:=Hm.put Mn (Ne.symm X);have G':=G.bW Mn U;refine ⟨_,ad V rfl,ao (fun h=> ?_) (fun h=> ?_)⟩<;>simp only [decide_eq_true_eq,decide_eq_false_iff_not] at h
   . refine ⟨_,_,_,jy V,bq Y rfl rfl fun bY ag Mm=> ⟨_,_,_,jy ag,?_,G'.bW Mm Z⟩⟩;simp only [m_,jU,mf,mi,if_pos I,if_pos (show 1<l by omega),decide_eq_false (show ¬l=1 by omega),Bool.and_false]
   . have hl:l=1:=by omega
     subst hl;refine ⟨_,ad V rfl,by decide,?_⟩;have e1:i64.wrap ((q:Int).tmod 1073741824+1)=(jU u q 1):=by
      simp only [jU,if_pos I];rw [if_neg (by omega)];have:(q:Int).tmod 1073741824=((q % 1073741824:Nat):Int):=by
       rw [Int.tmod_eq_emod_of_nonneg (by omega)];omega
      rw [this,aB (by omega) (by omega)];split<;>omega
     rw [e1];obtain ⟨Q,av,g1,g2⟩: ∃Q:Nat,jU u q 1=Q/\1<=Q/\Q<=1073741824:=by
      simp only [jU,if_pos I];rw [if_neg (by omega)];split
      . exact ⟨1,rfl,by omega,by omega⟩
      . exact ⟨q+1,by omega,by omega,by omega⟩
     have hr:(Value.tuple #[.agg #[.int .i64 u,.int .i64 Q,.int .i64 (u* (ig Q:Int))],.bool true])= .tuple #[.agg #[.int .i64 (m_ u q 1),.int .i64 Q,.int .i64 (mf u q 1)],.bool (mi u q 1)]:=by
      simp only [m_,mf,mi,if_pos I,av,if_neg (show ¬(1:Int)<1 by omega),decide_eq_true I,Int.toNat_natCast];rfl
     rw [av];obtain ⟨c1,c2,c3⟩:=BY (u:=u) (m:=Q) (by omega) (by omega) (by omega) (by omega);refine bZ V rfl rfl fun aw J ax=> ?_;have ag:=(Y.put ax (Ne.symm X)).drew;have J:bF aw.drew n _:=J;have G2:=(G'.bW ax U).drew;have num:=rW Q (by omega) (by omega) aw.drew;refine ⟨_,ad J rfl,⟨_,ad J rfl,?_⟩,?_⟩<;>refine num.mono ?_<;>rintro e w' ⟨rfl,aa⟩<;>have ac:=J.keep (S:=fun _=>False) aa.mod id<;>have ay:=ag.keep (S:=fun _=>False) aa.mod id<;>have G3:=G2.trans aa.mod
     . refine ⟨_,rfl,?_⟩;rw [c1];refine bZ ac rfl rfl fun aT ap O=> ⟨_,_,_,jy ap,bq (ay.put O (Ne.symm X)) rfl rfl fun az ar an=> ⟨_,_,_,jy ar,?_,(G3.bW O U).bW an Z⟩⟩
       rw [<- hr]
     . refine ⟨_,rfl,_,ad ac rfl,?_⟩;rw [c1];refine bZ ac rfl rfl fun aT ap O=> ⟨_,_,_,jy ap,bq (ay.put O (Ne.symm X)) rfl rfl fun az ar an=> ⟨_,_,_,jy ar,?_,(G3.bW O U).bW an Z⟩⟩
       rw [<- hr]
 . rw [if_neg I];refine cj rfl ?_;refine bq Hm rfl rfl fun b5 Y Mm=> ⟨_,_,_,jy Y,?_,G.bW Mm Z⟩
   simp only [m_,jU,mf,mi,if_neg I,decide_eq_false I,Bool.false_and]
end
section
theorem Bm (u:Int) (w:World):Calls Tryz.prog ji.id #[.int .i64 u] w fun e w'=>
 e= .returned (.tuple (if 1<=u/\u<=1048576 then #[.agg #[.int .i64 u,.int .i64 1,.int .i64 u],.int .i64 0] else #[.agg #[.int .i64 0,.int .i64 0,.int .i64 0],.int .i64 1]))/\aq w w':=by
 refine ji.ah ?_;intro n w2 hn;have I:w.heap.size<=n:=by rw [hn.num];exact Nat.le_refl _
 refine ao (fun h1=> ?_) (fun h1=>ao (fun J=> ?_) (fun J=> ?_))<;>simp only [decide_eq_true_eq,decide_eq_false_iff_not] at*
 . refine bq hn.has rfl rfl fun w3 H M=> ⟨_,_,_,jy H,?_,hn.mod.bW M I⟩
   rw [if_neg (by omega)]
 . refine bq hn.has rfl rfl fun w3 H M=> ⟨_,_,_,jy H,?_,hn.mod.bW M I⟩
   rw [if_neg (by omega)]
 . refine bq hn.has rfl rfl fun w3 H M=> ⟨_,_,_,jy H,?_,hn.mod.bW M I⟩
   rw [if_pos (by omega)]
end
end Go.Proofs.YtenmibfmhccmiaaGreat.W.Lu
