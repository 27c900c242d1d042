/- The row of layer 10 in plain numbers. -/
import Derived.Test.YtbdghpjnifjlmaaGreatGenCert
import Derived.Test.YtbdghpjnifjlmaaGreatFwLib
import Derived.Test.YtbdghpjnifjlmaaGreatFwMem
import Derived.Test.YtbdghpjnifjlmaaGreatFwEq
set_option linter.unusedVariables false
namespace Go.Luby
def bl (n:Nat):Nat:=if n=0 then 0 else n.log2+1
theorem Eo (n:Nat):n<2 ^ bl n:=by
 unfold bl;split
 . subst_vars;decide
 . exact Nat.lt_log2_self
theorem uY {n:Nat} (h:0<n):1<=bl n/\2 ^ (bl n - 1)<=n:=by
 unfold bl;rw [if_neg (by omega)];exact ⟨by omega,by simpa using Nat.log2_self_le (by omega)⟩
theorem CZ {n k:Nat} (h1:n<2 ^ k) (I:k=0\/2 ^ (k - 1)<=n):bl n=k:=by
 rcases UZ n with J|J
 . subst J;rcases I with I|I
   . subst I;rfl
   . have:=VG (k - 1);omega
 . obtain ⟨U,Q⟩:=uY J;have O:=Eo n;rcases Xe (bl n) k with h|h|h
   . have:2 ^ bl n<=2 ^ (k - 1):=Vd (by omega) (by omega);omega
   . exact h
   . have:2 ^ k<=2 ^ (bl n - 1):=Vd (by omega) (by omega);omega
theorem KY {n k:Nat} (h:n<2 ^ k):bl n<=k:=by
 rcases UZ n with I|I
 . subst I;exact vx _
 . obtain ⟨Q,O⟩:=uY I;rcases UU k (bl n) with J|J
   . have:2 ^ k<=2 ^ (bl n - 1):=Vd (by omega) (by omega);omega
   . exact J
theorem eE (k:Nat):2 ^ (k+1)=2*2 ^ k:=by rw [XU,XB]
theorem ye {n:Nat} (h:0<n) (hf:n+1≠2 ^ bl n):2<=bl n/\1<=2 ^ (bl n - 1) - 1/\2 ^ (bl n - 1) - 1<n:=by
 obtain ⟨U,J⟩:=uY h;have Q:2<=bl n:=by
  rcases UU (bl n) 2 with I|I
  . have e:bl n=1:=by omega
    have:=Eo n;rw [e] at this hf;omega
  . exact I
 obtain ⟨j,O⟩: ∃j,bl n=j+2:=⟨bl n - 2,by omega⟩
 rw [O] at J ⊢;have e:j+2 - 1=j+1:=by omega
 rw [e] at J ⊢;have:=eE j;have:=VG j;omega
def jP (i:Nat):Nat:=if h:i+1=2 ^ bl i then 2 ^ (bl i - 1) else jP (i - (2 ^ (bl i - 1) - 1))
termination_by i
decreasing_by
 have I:0<i:=by
  rcases UZ i with I|I
  . subst I;exact absurd rfl h
  . exact I
 have:=ye I h;omega
theorem uz {i:Nat} (h:i+1=2 ^ bl i):jP i=2 ^ (bl i - 1):=by rw [jP,dif_pos h]
theorem uD {i:Nat} (h:i+1≠2 ^ bl i):jP i=jP (i - (2 ^ (bl i - 1) - 1)):=by rw [jP,dif_neg h]
theorem Aa (k:Nat):bl (2 ^ (k+1) - 1)=k+1:=by
 have:=VG k;have:=eE k;refine CZ (by omega) (.inr ?_);simp;omega
theorem kN (k:Nat):jP (2 ^ (k+1) - 1)=2 ^ k:=by
 have:=VG (k+1);rw [uz (by rw [Aa];omega),Aa];simp
theorem AK {k i:Nat} (h1:1<=i) (I:i<=2 ^ k - 1):jP (2 ^ k - 1+i)=jP i:=by
 have:=VG k;have hb:bl (2 ^ k - 1+i)=k+1:=by
  have:=eE k;exact CZ (by omega) (.inr (by simp;omega))
 have hs:=eE k;rw [uD (by rw [hb];omega),hb];simp only [VV];congr 1;omega
theorem OR:∀i:Nat,∃j,jP i=2 ^ j:=by
 intro i
 induction i using Nat.strongRecOn with
 |_ i J=>
  by_cases h:i+1=2 ^ bl i
  . exact ⟨_,uz h⟩
  . rw [uD h];have I:0<i:=by
     rcases UZ i with I|I
     . subst I;exact absurd rfl h
     . exact I
    have:=ye I h;exact J _ (by omega)
theorem RE:∀i:Nat,1<=i->jP i<=i:=by
 intro i
 induction i using Nat.strongRecOn with
 |_ i J=>
  intro I;by_cases h:i+1=2 ^ bl i
  . rw [uz h];exact (uY I).2
  . rw [uD h];have:=ye I h;have:=J (i - (2 ^ (bl i - 1) - 1)) (by omega) (by omega);omega
theorem MF (i:Nat):1<=jP i:=by
 obtain ⟨j,I⟩:=OR i;rw [I];exact VG j
def sum:Nat->Nat
 |0=>0
 |n+1=>sum n+jP (n+1)
theorem q6 (k:Nat):∀i:Nat,i<=2 ^ k - 1->sum (2 ^ k - 1+i)=sum (2 ^ k - 1)+sum i
 |0,_=>by simp [sum]
 |i+1,h=>by
  have I:=q6 k i (by omega);show sum (2 ^ k - 1+i+1)=_;simp only [sum];rw [I,WL (2 ^ k - 1) i 1,AK (by omega) h];omega
theorem Fg:∀k:Nat,sum (2 ^ k - 1)=k*2 ^ k / 2
 |0=>by simp [sum]
 |k+1=>by
  have J:=Fg k;have hp:=VG k;have hs:=eE k;have h1:=q6 k (2 ^ k - 1) (y4 _);have e:2 ^ (k+1) - 1=(2 ^ k - 1+ (2 ^ k - 1))+1:=by omega
  rw [e];simp only [sum];rw [h1,<- e,kN,J,hs];have:(k+1)* (2*2 ^ k)=2* ((k+1)*2 ^ k):=by rw [XE]
  rw [this,Xz _ (by omega)];rcases k with _|k
  . simp
  . have I:(k+1)*2 ^ (k+1) / 2=(k+1)*2 ^ k:=by
     rw [eE,XE,Xz _ (by omega)]
    rw [I,eE];have:(k+1+1)* (2*2 ^ k)=2* ((k+1)*2 ^ k)+2*2 ^ k:=by
     rw [V',WM,XE]
    omega
end Go.Luby
namespace Go.Proofs.YtbdghpjnifjlmaaGreat.W.Lu
open Go Go.Fw Go.RowKit Go.Luby
open Go.IntKind (i64)
section
theorem R8:∀j:Nat,j<256->mD[j]? =some (UInt8.ofNat (bl j)):=by
 decide+kernel
theorem FA (n s:Nat) (h:2 ^ s<=n):bl n=s+bl (n / 2 ^ s):=by
 have hp:=VG s;have hq:0<n / 2 ^ s:=Nat.div_pos h hp;obtain ⟨O,J⟩:=uY hq;have I:=Eo (n / 2 ^ s);refine CZ ?_ (.inr ?_)
 . rw [Nat.pow_add];have:=(Nat.div_lt_iff_lt_mul hp).1 I
   rwa [XB] at this
 . have:s+bl (n / 2 ^ s) - 1=s+ (bl (n / 2 ^ s) - 1):=by omega
   rw [this,Nat.pow_add];have:=(Nat.le_div_iff_mul_le hp).1 J
   rwa [XB] at this
theorem lM {n:Nat} (h:n<256):bl n<=8:=by
 rcases UZ n with I|I
 . subst I;decide
 . obtain ⟨Q,O⟩:=uY I;rcases UU 8 (bl n) with J|J
   . have:2 ^ 8<=2 ^ (bl n - 1):=Vd (by omega) (by omega);omega
   . exact J
theorem TY (n:Nat):(n:Int).fdiv (2 ^ (min (32:Int).toNat (IntKind.bits .u64)))=((n / 4294967296:Nat):Int):=by
 show (n:Int).fdiv 4294967296=_;rw [WR _ (by omega)];omega
theorem TX (n:Nat):(n:Int).fdiv (2 ^ (min (16:Int).toNat (IntKind.bits .u64)))=((n / 65536:Nat):Int):=by
 show (n:Int).fdiv 65536=_;rw [WR _ (by omega)];omega
theorem UB (n:Nat):(n:Int).fdiv (2 ^ (min (8:Int).toNat (IntKind.bits .u64)))=((n / 256:Nat):Int):=by
 show (n:Int).fdiv 256=_;rw [WR _ (by omega)];omega
theorem xz {m:Nat} (hm:m<256) {K:UInt8->Prop} (I:∀b:UInt8,(b.toNat:Int)=(bl m:Int)->K b):
 ∃b,0<=(IntKind.u8.wrap (m:Int))/\mD[(IntKind.u8.wrap (m:Int)).toNat]? =some b/\K b:=by
 rw [IE (by omega) (by omega)];refine ⟨UInt8.ofNat (bl m),by omega,?_,I _ ?_⟩
 . rw [tn];exact R8 m hm
 . have:=lM hm;simp;omega
theorem SI (n:Nat) (hn:n<18446744073709551616) (w:World):Calls Tryz.prog mg.id #[.int .u64 n] w λe w'=>e=.returned (.i (bl n))/\mU w w':=by
 refine mg.aj ?_;unfold mg.w;simp only [TY,TX,UB,ge_iff_le];have dG:∀ (x:Int),x=(bl n:Int)->(Ending.returned (.i x)=.returned (.i (bl n))/\mU w w):=λx Z=>⟨by rw [Z],mU.refl w⟩
 have O:4294967296<=n->bl n=32+bl (n / 4294967296):=λh=>FA n 32 h;have J:∀m,65536<=m->bl m=16+bl (m / 65536):=λm h=>FA m 16 h;have U:∀m,256<=m->bl m=8+bl (m / 256):=λm h=>FA m 8 h;have w1:∀ {x:Int},0<=x->x<1000->i64.wrap x=x:=λh1 Q=>aA (by omega) (by omega);refine ah (λh1=>?_) (λh1=>?_)<;>simp only [decide_eq_true_eq,decide_eq_false_iff_not] at h1
 . refine ⟨by decide,ah (λQ=>?_) (λQ=>?_)⟩<;>simp only [decide_eq_true_eq,decide_eq_false_iff_not] at Q
   . refine ⟨by decide,ah (λI=>?_) (λI=>?_)⟩<;>simp only [decide_eq_true_eq,decide_eq_false_iff_not] at I
     . refine ⟨by decide,xz (by omega) λb hb=>dG _ ?_⟩;have Y:=O (by omega);have V:=J (n / 4294967296) (by omega);have X:=U (n / 4294967296 / 65536) (by omega);have:=lM (n:=n / 4294967296 / 65536 / 256) (by omega);rw [hb,w1 (x:=32+16) (by omega) (by omega),w1 (x:=32+16+8) (by omega) (by omega),w1 (x:=(bl _:Int)) (by omega) (by omega),w1 (by omega) (by omega)];omega
     . refine xz (by omega) λb hb=>dG _ ?_;have Y:=O (by omega);have V:=J (n / 4294967296) (by omega);have:=lM (n:=n / 4294967296 / 65536) (by omega);rw [hb,w1 (x:=32+16) (by omega) (by omega),w1 (x:=(bl _:Int)) (by omega) (by omega),w1 (by omega) (by omega)];omega
   . refine ah (λI=>?_) (λI=>?_)<;>simp only [decide_eq_true_eq,decide_eq_false_iff_not] at I
     . refine ⟨by decide,xz (by omega) λb hb=>dG _ ?_⟩;have Y:=O (by omega);have X:=U (n / 4294967296) (by omega);have:=lM (n:=n / 4294967296 / 256) (by omega);rw [hb,w1 (x:=32+8) (by omega) (by omega),w1 (x:=(bl _:Int)) (by omega) (by omega),w1 (by omega) (by omega)];omega
     . refine xz (by omega) λb hb=>dG _ ?_;have Y:=O (by omega);have:=lM (n:=n / 4294967296) (by omega);rw [hb,w1 (x:=(bl _:Int)) (by omega) (by omega),w1 (by omega) (by omega)];omega
 . refine ah (λQ=>?_) (λQ=>?_)<;>simp only [decide_eq_true_eq,decide_eq_false_iff_not] at Q
   . refine ⟨by decide,ah (λI=>?_) (λI=>?_)⟩<;>simp only [decide_eq_true_eq,decide_eq_false_iff_not] at I
     . refine ⟨by decide,xz (by omega) λb hb=>dG _ ?_⟩;have V:=J n (by omega);have X:=U (n / 65536) (by omega);have:=lM (n:=n / 65536 / 256) (by omega);rw [hb,w1 (x:=0+16) (by omega) (by omega),w1 (x:=0+16+8) (by omega) (by omega),w1 (x:=(bl _:Int)) (by omega) (by omega),w1 (by omega) (by omega)];omega
     . refine xz (by omega) λb hb=>dG _ ?_;have V:=J n (by omega);have:=lM (n:=n / 65536) (by omega);rw [hb,w1 (x:=0+16) (by omega) (by omega),w1 (x:=(bl _:Int)) (by omega) (by omega),w1 (by omega) (by omega)];omega
   . refine ah (λI=>?_) (λI=>?_)<;>simp only [decide_eq_true_eq,decide_eq_false_iff_not] at I
     . refine ⟨by decide,xz (by omega) λb hb=>dG _ ?_⟩;have X:=U n (by omega);have:=lM (n:=n / 256) (by omega);rw [hb,w1 (x:=0+8) (by omega) (by omega),w1 (x:=(bl _:Int)) (by omega) (by omega),w1 (by omega) (by omega)];omega
     . refine xz (by omega) λb hb=>dG _ ?_;have:=lM (n:=n) (by omega);rw [hb,w1 (x:=(bl _:Int)) (by omega) (by omega),w1 (by omega) (by omega)];omega
theorem NC (n:Nat) (hn:n<18446744073709551616) (w:World):Calls Tryz.prog pP.id #[.int .u64 n] w λe w'=>e=.returned (.i (bl n))/\mU w w':=by
 refine pP.aj ?_;unfold pP.w;refine (SI n hn w).mono ?_;rintro e w' ⟨rfl,I⟩;exact ⟨_,rfl,rfl,I⟩
theorem SP (k:Nat) (h:k<=62):i64.wrap ((1:Int)*2 ^ (min (k:Int).toNat (IntKind.bits .i64)))=((2 ^ k:Nat):Int):=by
 have e:min (k:Int).toNat (IntKind.bits .i64)=k:=by
  show min (k:Int).toNat 64=k;omega
 have:2 ^ k<=2 ^ 62:=Vd (by omega) h;rw [e,Int.one_mul];have I:(2:Int) ^ k=((2 ^ k:Nat):Int):=by simp
 rw [I];generalize 2 ^ k=x at*
 exact aA (by omega) (by omega)
theorem xg (n:Nat) (h1:1<=n) (U:n<2147483648) (w:World):Calls Tryz.prog mJ.id #[.i n] w λe w'=>e=.returned (.i (jP n))/\mU w w':=by
 refine mJ.aj ?_;refine ⟨λi w' k=>∃m:Nat,i=m/\1<=m/\m<2147483648/\jP m=jP n/\mU w w'/\k=m,⟨n,n,rfl,h1,U,rfl,mU.refl w,rfl⟩,?_⟩;rintro i w' k _ ⟨m,rfl,g1,Y,I,J,hk⟩;rw [GS (by omega) (by omega)];refine (NC m (by omega) w').mono ?_;rintro e w2 ⟨rfl,O⟩;obtain ⟨b1,b2⟩:=uY (n:=m) (by omega);have V:=KY (n:=m) (k:=31) (by omega);have Z:=Eo m;have X:2 ^ bl m<=2 ^ 31:=Vd (by omega) V;have Q:i64.wrap ((bl m:Int) - 1)=((bl m - 1:Nat):Int):=by rw [aA (by omega) (by omega)];omega
 refine ⟨_,rfl,by omega,?_⟩;rw [Q,SP _ (by omega),SP _ (by omega),aA (x:=((2 ^ bl m:Nat):Int) - 1) (by omega) (by omega)];refine ah (λh=>⟨by omega,?_,J.trans O⟩) (λh=>?_)
 . have hf:m+1=2 ^ bl m:=by have:=beq_iff_eq.1 h;omega
   rw [<- I,uz hf]
 . have hf:m+1≠2 ^ bl m:=by have:=beq_eq_false_iff_ne.1 h;omega
   have hp:=ye (by omega) hf;refine ⟨by omega,m - (2 ^ (bl m - 1) - 1),by omega,m - (2 ^ (bl m - 1) - 1),?_,by omega,by omega,by rw [<- uD hf];exact I,J.trans O,rfl⟩;rw [aA (x:=((2 ^ (bl m - 1):Nat):Int) - 1) (by omega) (by omega),aA (by omega) (by omega)];omega
end
section
def Fo (u a l:Int):Prop:=1<=u/\u<=1048576/\1<=a/\a<=1073741824/\1<=l/\l<=u* (jP a.toNat:Int)
instance (u a l:Int):Decidable (Fo u a l):=by unfold Fo;infer_instance
theorem FH {u:Int} {m:Nat} (h1:1<=u) (Q:u<=1048576) (I:1<=m) (U:m<=1073741824):i64.wrap (u* (jP m:Int))=u* (jP m:Int)/\1<=u* (jP m:Int)/\u* (jP m:Int)<=1125899906842624:=by
 have J:=MF m;have O:=RE m I;obtain ⟨v,rfl⟩: ∃v:Nat,u=v:=⟨u.toNat,by omega⟩
 have b1:v*jP m<=1048576*1073741824:=Yf (by omega) (by omega);have b2:1*1<=v*jP m:=Yf (by omega) J;rw [<- XR];refine ⟨aA (by omega) (by omega),by omega,by omega⟩
theorem GZ (u a l:Int) (w:World):Calls Tryz.prog mB.id #[.agg #[.i u,.i a,.i l]] w λe w'=>e=.returned (.i (if Fo u a l then 0 else 1))/\ak w w':=by
 refine mB.aj ?_;unfold mB.w;simp only [and_self];intro n w2 hn;have H:bT w2.drew n _:=hn.has;have G:ak w w2.drew:=hn.mod.drew;have pI: ¬Fo u a l->(Ending.returned (.i 1)=.returned (.i (if Fo u a l then 0 else 1))/\ak w w2.drew):=λh=>⟨by rw [if_neg h],G⟩
 refine ⟨_,ae H rfl,ah (λh1=>pI ?_) (λh1=>⟨_,ae H rfl,ah (λQ=>pI ?_) (λQ=>⟨_,ae H rfl,ah (λV=>pI ?_) (λV=>⟨_,ae H rfl,ah (λU=>pI ?_) (λU=>⟨_,ae H rfl,ah (λh5=>pI ?_) (λh5=>⟨_,ae H rfl,?_⟩)⟩)⟩)⟩)⟩)⟩<;>
  simp only [decide_eq_true_eq,decide_eq_false_iff_not] at* <;>try (unfold Fo;omega)
 obtain ⟨m,rfl⟩: ∃m:Nat,a=m:=⟨a.toNat,by omega⟩
 obtain ⟨b1,b2,X⟩:=FH (u:=u) (m:=m) (by omega) (by omega) (by omega) (by omega);have num:=xg m (by omega) (by omega) w2.drew;have dG:∀w',mU w2.drew w'->aF (decide (l>i64.wrap (u* (jP m:Int)))) (Ending.returned (.i 1)=.returned (.i (if Fo u m l then 0 else 1))/\ak w w') (Ending.returned (.i 0)=.returned (.i (if Fo u m l then 0 else 1))/\ak w w'):=by
  intro w' I;rw [b1];refine ah (λO=>⟨?_,G.trans I.mod⟩) (λO=>⟨?_,G.trans I.mod⟩)<;>simp only [decide_eq_true_eq,decide_eq_false_iff_not] at O
  . rw [if_neg];unfold Fo;simp only [tn];omega
  . rw [if_pos];unfold Fo;simp only [tn];omega
 refine ⟨⟨_,ae H rfl,⟨_,ae H rfl,?_⟩,?_⟩,⟨_,ae H rfl,⟨_,ae H rfl,?_⟩,?_⟩,?_⟩<;>refine num.mono ?_<;>rintro e w' ⟨rfl,I⟩<;>have J:=H.keep (S:=λ_=>False) I.mod id<;>refine ⟨_,rfl,?_⟩
 . exact dG w' I
 . exact ⟨_,ae J rfl,dG w' I⟩
 . exact dG w' I
 . exact ⟨_,ae J rfl,dG w' I⟩
 . exact ⟨_,ae J rfl,_,ae J rfl,dG w' I⟩
def rC (u a l:Int):Int:=if Fo u a l then u else 0
def nj (u a l:Int):Int:=if Fo u a l then (if 1<l then a else if a=1073741824 then 1 else a+1) else 0
def pW (u a l:Int):Int:=if Fo u a l then (if 1<l then l - 1 else u* (jP (nj u a l).toNat:Int)) else 0
def nV (u a l:Int):Bool:=decide (Fo u a l) && decide (l=1)
theorem JZ (u a l:Int) (w:World):Calls Tryz.prog qE.id #[.agg #[.i u,.i a,.i l]] w λe w'=>
 e=.returned (.tuple #[.agg #[.i (rC u a l),.i (nj u a l),.i (pW u a l)],.bool (nV u a l)])/\ak w w':=by
 refine qE.aj ?_;intro n w2 hn m w4 hm;have V:n≠m:=hm.ne hn.has;have G:ak w w4:=hn.mod.trans hm.mod;have U:w.heap.size<=n:=by rw [hn.num];exact y4 _
 have X:w.heap.size<=m:=by rw [hm.num];exact hn.mod.size
 refine ⟨_,_,_,jq (hn.has.vY hm),(GZ u a l w4).mono ?_⟩;rintro e w8 ⟨rfl,hw⟩;have Hn:=(hn.has.vY hm).grow hw;have Hm:=hm.has.grow hw;have G:=G.trans hw;refine ⟨_,rfl,?_⟩;by_cases I:Fo u a l
 . rw [if_pos I];refine bA rfl ⟨_,ae Hn rfl,?_⟩;obtain ⟨h1,h2,h3,h4,h5,h6⟩:=id I;obtain ⟨q,rfl⟩: ∃q:Nat,a=q:=⟨a.toNat,by omega⟩
   simp only [tn] at h6;obtain ⟨b1,b2,b3⟩:=FH (u:=u) (m:=q) (by omega) (by omega) (by omega) (by omega);rw [aA (x:=l - 1) (by omega) (by omega)];refine cz Hn rfl rfl λbu Y Mn=>?_;have Z:=Hm.put Mn (Vc V);have G':=G.cW Mn U;refine ⟨_,ae Y rfl,ah (λh=>?_) (λh=>?_)⟩<;>simp only [decide_eq_true_eq,decide_eq_false_iff_not] at h
   . refine ⟨_,_,_,jq Y,bD Z rfl rfl λbn aa Mm=>⟨_,_,_,jq aa,?_,G'.cW Mm X⟩⟩;simp only [rC,nj,pW,nV,if_pos I,if_pos (show 1<l by omega),decide_eq_false (show ¬l=1 by omega),VS]
   . have hl:l=1:=by omega
     subst hl;refine ⟨_,ae Y rfl,by decide,?_⟩;have e1:i64.wrap ((q:Int).tmod 1073741824+1)=(nj u q 1):=by
      simp only [nj,if_pos I];rw [if_neg (by omega)];have:(q:Int).tmod 1073741824=((q % 1073741824:Nat):Int):=by
       rw [XZ (by omega)];omega
      rw [this,aA (by omega) (by omega)];split<;>omega
     rw [e1];obtain ⟨Q,aw,g1,g2⟩: ∃Q:Nat,nj u q 1=Q/\1<=Q/\Q<=1073741824:=by
      simp only [nj,if_pos I];rw [if_neg (by omega)];split
      . exact ⟨1,rfl,by omega,by omega⟩
      . exact ⟨q+1,by omega,by omega,by omega⟩
     have hr:(Value.tuple #[.agg #[.i u,.i Q,.i (u* (jP Q:Int))],.bool true])=.tuple #[.agg #[.i (rC u q 1),.i Q,.i (pW u q 1)],.bool (nV u q 1)]:=by
      simp only [rC,pW,nV,if_pos I,aw,if_neg (show ¬(1:Int)<1 by omega),decide_eq_true I,tn];rfl
     rw [aw];obtain ⟨c1,c2,c3⟩:=FH (u:=u) (m:=Q) (by omega) (by omega) (by omega) (by omega);refine cz Y rfl rfl λav O ax=>?_;have aa:=(Z.put ax (Vc V)).drew;have O:bT av.drew n _:=O;have G2:=(G'.cW ax U).drew;have num:=xg Q (by omega) (by omega) av.drew;refine ⟨_,ae O rfl,⟨_,ae O rfl,?_⟩,?_⟩<;>refine num.mono ?_<;>rintro e w' ⟨rfl,ar⟩<;>have ap:=O.keep (S:=λ_=>False) ar.mod id<;>have ay:=aa.keep (S:=λ_=>False) ar.mod id<;>have G3:=G2.trans ar.mod
     . refine ⟨_,rfl,?_⟩;try dsimp only
       rw [c1];refine cz ap rfl rfl λaz ac J=>⟨_,_,_,jq ac,bD (ay.put J (Vc V)) rfl rfl λa7 ag an=>⟨_,_,_,jq ag,?_,(G3.cW J U).cW an X⟩⟩
       rw [<- hr]
     . refine ⟨_,rfl,_,ae ap rfl,?_⟩;try dsimp only
       rw [c1];refine cz ap rfl rfl λaz ac J=>⟨_,_,_,jq ac,bD (ay.put J (Vc V)) rfl rfl λa7 ag an=>⟨_,_,_,jq ag,?_,(G3.cW J U).cW an X⟩⟩
       rw [<- hr]
 . rw [if_neg I];refine bP rfl ?_;refine bD Hm rfl rfl λbk Z Mm=>⟨_,_,_,jq Z,?_,G.cW Mm X⟩
   simp only [rC,nj,pW,nV,if_neg I,decide_eq_false I,Xf]
end
section
theorem Hg (u:Int) (w:World):Calls Tryz.prog nR.id #[.i u] w λe w'=>
 e=.returned (.tuple (if 1<=u/\u<=1048576 then #[.agg #[.i u,.i 1,.i u],.i 0] else #[.agg #[.i 0,.i 0,.i 0],.i 1]))/\ak w w':=by
 refine nR.aj ?_;intro n w2 hn;have I:w.heap.size<=n:=by rw [hn.num];exact y4 _
 refine ah (λh1=>?_) (λh1=>ah (λJ=>?_) (λJ=>?_))<;>simp only [decide_eq_true_eq,decide_eq_false_iff_not] at*
 . refine bD hn.has rfl rfl λw3 H M=>⟨_,_,_,jq H,?_,hn.mod.cW M I⟩
   rw [if_neg (by omega)]
 . refine bD hn.has rfl rfl λw3 H M=>⟨_,_,_,jq H,?_,hn.mod.cW M I⟩
   rw [if_neg (by omega)]
 . refine bD hn.has rfl rfl λw3 H M=>⟨_,_,_,jq H,?_,hn.mod.cW M I⟩
   rw [if_pos (by omega)]
end
end Go.Proofs.YtbdghpjnifjlmaaGreat.W.Lu
