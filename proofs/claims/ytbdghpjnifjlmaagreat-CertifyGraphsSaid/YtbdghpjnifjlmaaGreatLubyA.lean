/- The row of layer 10 in plain numbers. -/
import Derived.Test.YtbdghpjnifjlmaaGreatGenCert
import Derived.Test.YtbdghpjnifjlmaaGreatFwLib
import Derived.Test.YtbdghpjnifjlmaaGreatFwMem
import Derived.Test.YtbdghpjnifjlmaaGreatFwEq
set_option linter.all false
namespace Go.Luby
def bl(n:Nat):Nat:=if n=0 then 0 else n.log2+1
theorem Gz(n:Nat):n<2 ^ bl n:=by
 unfold bl;split
 .subst_vars;decide
 .exact Nat.lt_log2_self
theorem uS{n:Nat}(h:0<n):1<=bl n/\2 ^ (bl n - 1)<=n:=by
 unfold bl;rw[r8 (by omega)];exact⟨by omega,by simpa using Nat.log2_self_le (by omega)⟩
theorem Ew{n k:Nat}(h1:n<2 ^ k)(I:k=0\/2 ^ (k - 1)<=n):bl n=k:=by
 rcases Wt n with J|J
 .subst J;rcases I with I|I
  .subst I;rfl
  .have:=W_ (k - 1);omega
 .obtain ⟨O,U⟩:=uS J;have Q:=Gz n;rcases YG (bl n) k with h|h|h
  .have:2 ^ bl n<=2 ^ (k - 1):=WM (by omega) (by omega);omega
  .exact h
  .have:2 ^ k<=2 ^ (bl n - 1):=WM (by omega) (by omega);omega
theorem Ny{n k:Nat}(h:n<2 ^ k):bl n<=k:=by
 rcases Wt n with I|I
 .subst I;exact xc _
 .obtain ⟨O,Q⟩:=uS I;rcases Wp k (bl n) with J|J
  .have:2 ^ k<=2 ^ (bl n - 1):=WM (by omega) (by omega);omega
  .exact J
theorem eG(k:Nat):2 ^ (k+1)=2*2 ^ k:=by rw[YY,YN]
theorem yI{n:Nat}(h:0<n)(hf:n+1≠2 ^ bl n):2<=bl n/\1<=2 ^ (bl n - 1) - 1/\2 ^ (bl n - 1) - 1<n:=by
 obtain⟨Q,I⟩:=uS h;have U:2<=bl n:=by
  rcases Wp (bl n) 2 with J|J
  .have e:bl n=1:=by omega
   have:=Gz n;rw[e]at this hf;omega
  .exact J
 obtain⟨j,O⟩: ∃j,bl n=j+2:=⟨bl n - 2,by omega⟩
 rw[O]at I ⊢;have e:j+2 - 1=j+1:=by omega
 rw[e]at I ⊢;have:=eG j;have:=W_ j;omega
def kI(i:Nat):Nat:=if h:i+1=2 ^ bl i then 2 ^ (bl i - 1) else kI (i - (2 ^ (bl i - 1) - 1))
termination_by i
decreasing_by
 have I:0<i:=by
  rcases Wt i with I|I
  .subst I;exact absurd rfl h
  .exact I
 have:=yI I h;omega
theorem vq{i:Nat}(h:i+1=2 ^ bl i):kI i=2 ^ (bl i - 1):=by rw[kI,dif_pos h]
theorem u7{i:Nat}(h:i+1≠2 ^ bl i):kI i=kI (i - (2 ^ (bl i - 1) - 1)):=by rw[kI,dif_neg h]
theorem Bn(k:Nat):bl (2 ^ (k+1) - 1)=k+1:=by
 have:=W_ k;have:=eG k;refine Ew (by omega) (.inr ?_);simp;omega
theorem kK(k:Nat):kI (2 ^ (k+1) - 1)=2 ^ k:=by
 have:=W_ (k+1);rw[vq (by rw[Bn];omega),Bn];simp
theorem zY{k i:Nat}(h1:1<=i)(I:i<=2 ^ k - 1):kI (2 ^ k - 1+i)=kI i:=by
 have:=W_ k;have hb:bl (2 ^ k - 1+i)=k+1:=by
  have:=eG k;exact Ew (by omega) (.inr (by simp;omega))
 have hs:=eG k;rw[u7 (by rw[hb];omega),hb];simp only[Xy];congr 1;omega
theorem QL:∀i:Nat,∃j,kI i=2 ^ j:=by
 intro i
 induction i using Nat.strongRecOn with
 |_ i J=>
  by_cases h:i+1=2 ^ bl i
  .exact ⟨_,vq h⟩
  .rw [u7 h];have I:0<i:=by
    rcases Wt i with I|I
    .subst I;exact absurd rfl h
    .exact I
   have:=yI I h;exact J _ (by omega)
theorem SU:∀i:Nat,1<=i->kI i<=i:=by
 intro i
 induction i using Nat.strongRecOn with
 |_ i J=>
  intro I;by_cases h:i+1=2 ^ bl i
  .rw [vq h];exact(uS I).2
  .rw [u7 h];have:=yI I h;have:=J (i - (2 ^ (bl i - 1) - 1)) (by omega) (by omega);omega
theorem MY(i:Nat):1<=kI i:=by
 obtain⟨j,I⟩:=QL i;rw[I];exact W_ j
def sum:Nat->Nat
 |0=>0
 |n+1=>sum n+kI (n+1)
theorem rA(k:Nat):∀i:Nat,i<=2 ^ k - 1->sum (2 ^ k - 1+i)=sum (2 ^ k - 1)+sum i
 |0,_=>by simp[sum]
 |i+1,h=>by
  have I:=rA k i (by omega);show sum (2 ^ k - 1+i+1)=_;simp only[sum];rw[I,Ye (2 ^ k - 1) i 1,zY (by omega) h];omega
theorem E1:∀k:Nat,sum (2 ^ k - 1)=k*2 ^ k / 2
 |0=>by simp[sum]
 |k+1=>by
  have I:=E1 k;have hp:=W_ k;have hs:=eG k;have h1:=rA k (2 ^ k - 1) (vy _);have e:2 ^ (k+1) - 1=(2 ^ k - 1+ (2 ^ k - 1))+1:=by omega
  rw[e];simp only[sum];rw[h1,<- e,kK,I,hs];have:(k+1)* (2*2 ^ k)=2* ((k+1)*2 ^ k):=by rw[Y3]
  rw[this,YX _ (by omega)];rcases k with _|k
  .simp
  .have J:(k+1)*2 ^ (k+1) / 2=(k+1)*2 ^ k:=by
    rw[eG,Y3,YX _ (by omega)]
   rw[J,eG];have:(k+1+1)* (2*2 ^ k)=2* ((k+1)*2 ^ k)+2*2 ^ k:=by
    rw[XG,Yf,Y3]
   omega
end Go.Luby
namespace Go.Proofs.YtbdghpjnifjlmaaGreat.W.Lu
open Go Go.Fw Go.RowKit Go.Luby
open Go.IntKind (i64)
section
theorem RX:∀j:Nat,j<256->mC[j]? =some (UInt8.ofNat (bl j)):=by
 decide+kernel
theorem HB(n s:Nat)(h:2 ^ s<=n):bl n=s+bl (n / 2 ^ s):=by
 have hp:=W_ s;have hq:0<n / 2 ^ s:=Nat.div_pos h hp;obtain⟨O,J⟩:=uS hq;have I:=Gz (n / 2 ^ s);refine Ew ?_ (.inr ?_)
 .rw [Nat.pow_add];have:=(Nat.div_lt_iff_lt_mul hp).1 I
  rwa [YN]at this
 .have:s+bl (n / 2 ^ s) - 1=s+ (bl (n / 2 ^ s) - 1):=by omega
  rw[this,Nat.pow_add];have:=(Nat.le_div_iff_mul_le hp).1 J
  rwa [YN]at this
theorem ly{n:Nat}(h:n<256):bl n<=8:=by
 rcases Wt n with I|I
 .subst I;decide
 .obtain ⟨O,Q⟩:=uS I;rcases Wp 8 (bl n) with J|J
  .have:2 ^ 8<=2 ^ (bl n - 1):=WM (by omega) (by omega);omega
  .exact J
theorem Vj(n:Nat):(n:Int).fdiv (2 ^ (min (32:Int).toNat (IntKind.bits .u64)))=((n / 4294967296:Nat):Int):=by
 show (n:Int).fdiv 4294967296=_;rw[XL _ (by omega)];omega
theorem Vs(n:Nat):(n:Int).fdiv (2 ^ (min (16:Int).toNat (IntKind.bits .u64)))=((n / 65536:Nat):Int):=by
 show (n:Int).fdiv 65536=_;rw[XL _ (by omega)];omega
theorem VS(n:Nat):(n:Int).fdiv (2 ^ (min (8:Int).toNat (IntKind.bits .u64)))=((n / 256:Nat):Int):=by
 show (n:Int).fdiv 256=_;rw[XL _ (by omega)];omega
theorem yh{m:Nat}(hm:m<256){K:UInt8->Prop}(I:∀b:UInt8,(b.toNat:Int)=(bl m:Int)->K b):
 ∃b,0<=(IntKind.u8.wrap (m:Int))/\mC[(IntKind.u8.wrap (m:Int)).toNat]? =some b/\K b:=by
 rw[KX (by omega) (by omega)];refine⟨UInt8.ofNat (bl m),by omega,?_,I _ ?_⟩
 .rw [tn];exact RX m hm
 .have:=ly hm;simp;omega
theorem UE(n:Nat)(hn:n<18446744073709551616)(w:World):Calls Tryz.prog 215 #[.int .u64 n] w λe w'=>e=.returned (.i (bl n))/\mO w w':=by
 refine mi.aj ?_;unfold mi.w;simp only[Vj,Vs,VS,I9];have eh:∀ (x:Int),x=(bl n:Int)->(Ending.returned (.i x)=.returned (.i (bl n))/\mO w w):=λx Z=>⟨by rw[Z],mO.refl w⟩
 have J:4294967296<=n->bl n=32+bl (n / 4294967296):=λh=>HB n 32 h;have O:∀m,65536<=m->bl m=16+bl (m / 65536):=λm h=>HB m 16 h;have U:∀m,256<=m->bl m=8+bl (m / 256):=λm h=>HB m 8 h;have w1:∀ {x:Int},0<=x->x<1000->i64.wrap x=x:=λh1 Q=>ao (by omega) (by omega);refine ah (λh1=>?_) (λh1=>?_)<;>simp only[x7,x8]at h1
 .refine ⟨by decide,ah (λQ=>?_) (λQ=>?_)⟩<;>simp only[x7,x8]at Q
  .refine ⟨by decide,ah (λI=>?_) (λI=>?_)⟩<;>simp only[x7,x8]at I
   .refine ⟨by decide,yh (by omega) λb hb=>eh _ ?_⟩;have V:=J (by omega);have X:=O (n / 4294967296) (by omega);have Y:=U (n / 4294967296 / 65536) (by omega);have:=ly (n:=n / 4294967296 / 65536 / 256) (by omega);rw[hb,w1 (x:=32+16) (by omega) (by omega),w1 (x:=32+16+8) (by omega) (by omega),w1 (x:=(bl _:Int)) (by omega) (by omega),w1 (by omega) (by omega)];omega
   .refine yh (by omega) λb hb=>eh _ ?_;have V:=J (by omega);have X:=O (n / 4294967296) (by omega);have:=ly (n:=n / 4294967296 / 65536) (by omega);rw[hb,w1 (x:=32+16) (by omega) (by omega),w1 (x:=(bl _:Int)) (by omega) (by omega),w1 (by omega) (by omega)];omega
  .refine ah (λI=>?_) (λI=>?_)<;>simp only[x7,x8]at I
   .refine ⟨by decide,yh (by omega) λb hb=>eh _ ?_⟩;have V:=J (by omega);have Y:=U (n / 4294967296) (by omega);have:=ly (n:=n / 4294967296 / 256) (by omega);rw[hb,w1 (x:=32+8) (by omega) (by omega),w1 (x:=(bl _:Int)) (by omega) (by omega),w1 (by omega) (by omega)];omega
   .refine yh (by omega) λb hb=>eh _ ?_;have V:=J (by omega);have:=ly (n:=n / 4294967296) (by omega);rw[hb,w1 (x:=(bl _:Int)) (by omega) (by omega),w1 (by omega) (by omega)];omega
 .refine ah (λQ=>?_) (λQ=>?_)<;>simp only[x7,x8]at Q
  .refine ⟨by decide,ah (λI=>?_) (λI=>?_)⟩<;>simp only[x7,x8]at I
   .refine ⟨by decide,yh (by omega) λb hb=>eh _ ?_⟩;have X:=O n (by omega);have Y:=U (n / 65536) (by omega);have:=ly (n:=n / 65536 / 256) (by omega);rw[hb,w1 (x:=0+16) (by omega) (by omega),w1 (x:=0+16+8) (by omega) (by omega),w1 (x:=(bl _:Int)) (by omega) (by omega),w1 (by omega) (by omega)];omega
   .refine yh (by omega) λb hb=>eh _ ?_;have X:=O n (by omega);have:=ly (n:=n / 65536) (by omega);rw[hb,w1 (x:=0+16) (by omega) (by omega),w1 (x:=(bl _:Int)) (by omega) (by omega),w1 (by omega) (by omega)];omega
  .refine ah (λI=>?_) (λI=>?_)<;>simp only[x7,x8]at I
   .refine ⟨by decide,yh (by omega) λb hb=>eh _ ?_⟩;have Y:=U n (by omega);have:=ly (n:=n / 256) (by omega);rw[hb,w1 (x:=0+8) (by omega) (by omega),w1 (x:=(bl _:Int)) (by omega) (by omega),w1 (by omega) (by omega)];omega
   .refine yh (by omega) λb hb=>eh _ ?_;have:=ly (n:=n) (by omega);rw[hb,w1 (x:=(bl _:Int)) (by omega) (by omega),w1 (by omega) (by omega)];omega
theorem LO(n:Nat)(hn:n<18446744073709551616)(w:World):Calls Tryz.prog 205 #[.int .u64 n] w λe w'=>e=.returned (.i (bl n))/\mO w w':=by
 refine qD.aj ?_;unfold qD.w;refine(UE n hn w).mono ?_;rintro e w'⟨rfl,I⟩;exact⟨_,rfl,rfl,I⟩
theorem UI(k:Nat)(h:k<=62):i64.wrap ((1:Int)*2 ^ (min (k:Int).toNat (IntKind.bits .i64)))=((2 ^ k:Nat):Int):=by
 have e:min (k:Int).toNat (IntKind.bits .i64)=k:=by
  show min (k:Int).toNat 64=k;omega
 have:2 ^ k<=2 ^ 62:=WM (by omega) h;rw[e,Int.one_mul];have I:(2:Int) ^ k=((2 ^ k:Nat):Int):=by simp
 rw[I];generalize 2 ^ k=x at*
 exact ao (by omega) (by omega)
theorem xI(n:Nat)(h1:1<=n)(Q:n<2147483648)(w:World):Calls Tryz.prog 174 #[.i n] w λe w'=>e=.returned (.i (kI n))/\mO w w':=by
 refine mX.aj ?_;refine⟨λi w' k=>∃m:Nat,i=m/\1<=m/\m<2147483648/\kI m=kI n/\mO w w'/\k=m,⟨n,n,rfl,h1,Q,rfl,mO.refl w,rfl⟩,?_⟩;rintro i w' k _⟨m,rfl,g1,g2,J,O,Z⟩;rw[HI (by omega) (by omega)];refine(LO m (by omega) w').mono ?_;rintro e w2⟨rfl,I⟩;obtain⟨b1,b2⟩:=uS (n:=m) (by omega);have U:=Ny (n:=m) (k:=31) (by omega);have Y:=Gz m;have X:2 ^ bl m<=2 ^ 31:=WM (by omega) U;have V:i64.wrap ((bl m:Int) - 1)=((bl m - 1:Nat):Int):=by rw[ao (by omega) (by omega)];omega
 refine⟨_,rfl,by omega,?_⟩;rw[V,UI _ (by omega),UI _ (by omega),ao (x:=((2 ^ bl m:Nat):Int) - 1) (by omega) (by omega)];refine ah (λh=>⟨by omega,?_,O.trans I⟩) (λh=>?_)
 .have hf:m+1=2 ^ bl m:=by have:=beq_iff_eq.1 h;omega
  rw[<- J,vq hf]
 .have hf:m+1≠2 ^ bl m:=by have:=beq_eq_false_iff_ne.1 h;omega
  have hp:=yI (by omega) hf;refine⟨by omega,m - (2 ^ (bl m - 1) - 1),by omega,m - (2 ^ (bl m - 1) - 1),?_,by omega,by omega,by rw[<- u7 hf];exact J,O.trans I,rfl⟩;rw[ao (x:=((2 ^ (bl m - 1):Nat):Int) - 1) (by omega) (by omega),ao (by omega) (by omega)];omega
end
section
def GG(u a l:Int):Prop:=1<=u/\u<=1048576/\1<=a/\a<=1073741824/\1<=l/\l<=u* (kI a.toNat:Int)
instance(u a l:Int):Decidable (GG u a l):=by unfold GG;infer_instance
theorem HU{u:Int}{m:Nat}(h1:1<=u)(Q:u<=1048576)(J:1<=m)(O:m<=1073741824):i64.wrap (u* (kI m:Int))=u* (kI m:Int)/\1<=u* (kI m:Int)/\u* (kI m:Int)<=1125899906842624:=by
 have I:=MY m;have U:=SU m J;obtain⟨v,rfl⟩: ∃v:Nat,u=v:=⟨u.toNat,by omega⟩
 have b1:v*kI m<=1048576*1073741824:=ZF (by omega) (by omega);have b2:1*1<=v*kI m:=ZF (by omega) I;rw[<- Zd];refine⟨ao (by omega) (by omega),by omega,by omega⟩
theorem Ih(u a l:Int)(w:World):Calls Tryz.prog 173 #[.agg #[.i u,.i a,.i l]] w λe w'=>e=.returned (.i (if GG u a l then 0 else 1))/\ak w w':=by
 refine mw.aj ?_;unfold mw.w;simp only[and_self];intro n w2 hn;have H:bO w2.drew n _:=hn.has;have G:ak w w2.drew:=hn.mod.drew;have np: ¬GG u a l->(Ending.returned (.i 1)=.returned (.i (if GG u a l then 0 else 1))/\ak w w2.drew):=λh=>⟨by rw[r8 h],G⟩
 refine⟨_,ae H rfl,ah (λh1=>np ?_) (λh1=>⟨_,ae H rfl,ah (λQ=>np ?_) (λQ=>⟨_,ae H rfl,ah (λV=>np ?_) (λV=>⟨_,ae H rfl,ah (λU=>np ?_) (λU=>⟨_,ae H rfl,ah (λh5=>np ?_) (λh5=>⟨_,ae H rfl,?_⟩)⟩)⟩)⟩)⟩)⟩<;>
  simp only[x7,x8]at* <;>try (unfold GG;omega)
 obtain⟨m,rfl⟩: ∃m:Nat,a=m:=⟨a.toNat,by omega⟩
 obtain⟨b1,b2,X⟩:=HU (u:=u) (m:=m) (by omega) (by omega) (by omega) (by omega);have num:=xI m (by omega) (by omega) w2.drew;have eh:∀w',mO w2.drew w'->aD (decide (l>i64.wrap (u* (kI m:Int)))) (Ending.returned (.i 1)=.returned (.i (if GG u m l then 0 else 1))/\ak w w') (Ending.returned (.i 0)=.returned (.i (if GG u m l then 0 else 1))/\ak w w'):=by
  intro w' I;rw[b1];refine ah (λO=>⟨?_,G.trans I.mod⟩) (λO=>⟨?_,G.trans I.mod⟩)<;>simp only[x7,x8]at O
  .rw [r8];unfold GG;simp only[tn];omega
  .rw [v8];unfold GG;simp only[tn];omega
 refine⟨⟨_,ae H rfl,⟨_,ae H rfl,?_⟩,?_⟩,⟨_,ae H rfl,⟨_,ae H rfl,?_⟩,?_⟩,?_⟩<;>refine num.mono ?_<;>rintro e w'⟨rfl,I⟩<;>have J:=H.keep (S:=λ_=>False) I.mod id<;>refine⟨_,rfl,?_⟩
 .exact eh w' I
 .exact ⟨_,ae J rfl,eh w' I⟩
 .exact eh w' I
 .exact ⟨_,ae J rfl,eh w' I⟩
 .exact ⟨_,ae J rfl,_,ae J rfl,eh w' I⟩
def rI(u a l:Int):Int:=if GG u a l then u else 0
def nC(u a l:Int):Int:=if GG u a l then (if 1<l then a else if a=1073741824 then 1 else a+1) else 0
def qt(u a l:Int):Int:=if GG u a l then (if 1<l then l - 1 else u* (kI (nC u a l).toNat:Int)) else 0
def oM(u a l:Int):Bool:=decide (GG u a l) && decide (l=1)
theorem K4(u a l:Int)(w:World):Calls Tryz.prog 116 #[.agg #[.i u,.i a,.i l]] w λe w'=>
 e=.returned (.tuple #[.agg #[.i (rI u a l),.i (nC u a l),.i (qt u a l)],.bool (oM u a l)])/\ak w w':=by
 refine qI.aj ?_;intro n w2 hn m w4 hm;have V:n≠m:=hm.ne hn.has;have G:ak w w4:=hn.mod.trans hm.mod;have U:w.heap.size<=n:=by rw[hn.num];exact vy _
 have Y:w.heap.size<=m:=by rw[hm.num];exact hn.mod.size
 refine⟨_,_,_,gG (hn.has.vU hm),(Ih u a l w4).mono ?_⟩;rintro e w8⟨rfl,hw⟩;have Hn:=(hn.has.vU hm).grow hw;have Hm:=hm.has.grow hw;have G:=G.trans hw;refine⟨_,rfl,?_⟩;by_cases I:GG u a l
 .rw [v8 I];refine bq rfl ⟨_,ae Hn rfl,?_⟩;obtain⟨h1,h2,h3,h4,h5,h6⟩:=id I;obtain⟨q,rfl⟩: ∃q:Nat,a=q:=⟨a.toNat,by omega⟩
  simp only[tn]at h6;obtain⟨b1,b2,b3⟩:=HU (u:=u) (m:=q) (by omega) (by omega) (by omega) (by omega);rw[ao (x:=l - 1) (by omega) (by omega)];refine cz Hn rfl rfl λbx X Mn=>?_;have Q:=Hm.put Mn (WL V);have G':=G.cE Mn U;refine⟨_,ae X rfl,ah (λh=>?_) (λh=>?_)⟩<;>simp only[x7,x8]at h
  .refine ⟨_,_,_,gG X,aX Q rfl rfl λb4 aa Mm=>⟨_,_,_,gG aa,?_,G'.cE Mm Y⟩⟩;simp only[rI,nC,qt,oM,v8 I,v8 (show 1<l by omega),x9 (show ¬l=1 by omega),Xa]
  .have hl:l=1:=by omega
   subst hl;refine⟨_,ae X rfl,by decide,?_⟩;have e1:i64.wrap ((q:Int).tmod 1073741824+1)=(nC u q 1):=by
    simp only[nC,v8 I];rw[r8 (by omega)];have:(q:Int).tmod 1073741824=((q % 1073741824:Nat):Int):=by
     rw[XM (by omega)];omega
    rw[this,ao (by omega) (by omega)];split<;>omega
   rw[e1];obtain⟨Z,ay,g1,g2⟩: ∃Z:Nat,nC u q 1=Z/\1<=Z/\Z<=1073741824:=by
    simp only[nC,v8 I];rw[r8 (by omega)];split
    .exact ⟨1,rfl,by omega,by omega⟩
    .exact ⟨q+1,by omega,by omega,by omega⟩
   have hr:(Value.tuple #[.agg #[.i u,.i Z,.i (u* (kI Z:Int))],.bool true])=.tuple #[.agg #[.i (rI u q 1),.i Z,.i (qt u q 1)],.bool (oM u q 1)]:=by
    simp only[rI,qt,oM,v8 I,ay,r8 (show ¬(1:Int)<1 by omega),I4 I,tn];rfl
   rw[ay];obtain⟨c1,c2,c3⟩:=HU (u:=u) (m:=Z) (by omega) (by omega) (by omega) (by omega);refine cz X rfl rfl λax J av=>?_;have aa:=(Q.put av (WL V)).drew;have J:bO ax.drew n _:=J;have G2:=(G'.cE av U).drew;have num:=xI Z (by omega) (by omega) ax.drew;refine⟨_,ae J rfl,⟨_,ae J rfl,?_⟩,?_⟩<;>refine num.mono ?_<;>rintro e w'⟨rfl,ar⟩<;>have ac:=J.keep (S:=λ_=>False) ar.mod id<;>have aw:=aa.keep (S:=λ_=>False) ar.mod id<;>have G3:=G2.trans ar.mod
   .refine ⟨_,rfl,?_⟩;try dsimp only
    rw[c1];refine cz ac rfl rfl λaz ag O=>⟨_,_,_,gG ag,aX (aw.put O (WL V)) rfl rfl λa6 ap an=>⟨_,_,_,gG ap,?_,(G3.cE O U).cE an Y⟩⟩
    rw[<- hr]
   .refine ⟨_,rfl,_,ae ac rfl,?_⟩;try dsimp only
    rw[c1];refine cz ac rfl rfl λaz ag O=>⟨_,_,_,gG ag,aX (aw.put O (WL V)) rfl rfl λa6 ap an=>⟨_,_,_,gG ap,?_,(G3.cE O U).cE an Y⟩⟩
    rw[<- hr]
 .rw [r8 I];refine bJ rfl ?_;refine aX Hm rfl rfl λbk Q Mm=>⟨_,_,_,gG Q,?_,G.cE Mm Y⟩
  simp only[rI,nC,qt,oM,r8 I,x9 I,XY]
end
section
theorem HJ(u:Int)(w:World):Calls Tryz.prog 63 #[.i u] w λe w'=>
 e=.returned (.tuple (if 1<=u/\u<=1048576 then #[.agg #[.i u,.i 1,.i u],.i 0] else #[.agg #[.i 0,.i 0,.i 0],.i 1]))/\ak w w':=by
 refine od.aj ?_;intro n w2 hn;have I:w.heap.size<=n:=by rw[hn.num];exact vy _
 refine ah (λh1=>?_) (λh1=>ah (λJ=>?_) (λJ=>?_))<;>simp only[x7,x8]at*
 .refine aX hn.has rfl rfl λw3 H M=>⟨_,_,_,gG H,?_,hn.mod.cE M I⟩
  rw[r8 (by omega)]
 .refine aX hn.has rfl rfl λw3 H M=>⟨_,_,_,gG H,?_,hn.mod.cE M I⟩
  rw[r8 (by omega)]
 .refine aX hn.has rfl rfl λw3 H M=>⟨_,_,_,gG H,?_,hn.mod.cE M I⟩
  rw[v8 (by omega)]
end
