/- The row of layer 10 in plain numbers. -/
import Derived.Test.YtddffgjagppimaaGreatGenTs
import Derived.Test.YtddffgjagppimaaGreatFwLib
import Derived.Test.YtddffgjagppimaaGreatFwMem
import Derived.Test.YtddffgjagppimaaGreatFwEq
namespace Go.Luby
def bl (n:Nat):Nat:=if n=0 then 0 else n.log2+1
theorem bl_lt (n:Nat):n<2 ^ bl n:=by
 unfold bl
 split
 · subst_vars;decide
 · exact Nat.lt_log2_self
theorem bl_le {n:Nat} (h:0<n):1≤bl n∧2 ^ (bl n - 1)≤n:=by
 unfold bl
 rw [if_neg (by omega)]
 exact ⟨by omega,by simpa using Nat.log2_self_le (by omega)⟩
theorem bl_uniq {n k:Nat} (h1:n<2 ^ k) (h2:k=0∨2 ^ (k - 1)≤n):bl n=k:=by
 rcases Nat.eq_zero_or_pos n with h0|h0
 · subst h0
   rcases h2 with h2|h2
   · subst h2;rfl
   · have:=Nat.two_pow_pos (k - 1);omega
 · obtain ⟨g1,g2⟩:=bl_le h0
   have g3:=bl_lt n
   rcases Nat.lt_trichotomy (bl n) k with h|h|h
   · have:2 ^ bl n≤2 ^ (k - 1):=Nat.pow_le_pow_right (by omega) (by omega)
     omega
   · exact h
   · have:2 ^ k≤2 ^ (bl n - 1):=Nat.pow_le_pow_right (by omega) (by omega)
     omega
theorem bl_bound {n k:Nat} (h:n<2 ^ k):bl n≤k:=by
 rcases Nat.eq_zero_or_pos n with h0|h0
 · subst h0;exact Nat.zero_le _
 · obtain ⟨g1,g2⟩:=bl_le h0
   rcases Nat.lt_or_ge k (bl n) with h'|h'
   · have:2 ^ k≤2 ^ (bl n - 1):=Nat.pow_le_pow_right (by omega) (by omega)
     omega
   · exact h'
theorem two_pow_succ (k:Nat):2 ^ (k+1)=2*2 ^ k:=by rw [Nat.pow_succ,Nat.mul_comm]
theorem bl_pos2 {n:Nat} (h:0<n) (hf:n+1≠2 ^ bl n):2≤bl n∧1≤2 ^ (bl n - 1) - 1∧2 ^ (bl n - 1) - 1<n:=by
 obtain ⟨g1,g2⟩:=bl_le h
 have h2:2≤bl n:=by
  rcases Nat.lt_or_ge (bl n) 2 with h'|h'
  · have e:bl n=1:=by omega
    have:=bl_lt n
    rw [e] at this hf
    omega
  · exact h'
 obtain ⟨j,hj⟩: ∃j,bl n=j+2:=⟨bl n - 2,by omega⟩
 rw [hj] at g2 ⊢
 have e:j+2 - 1=j+1:=by omega
 rw [e] at g2 ⊢
 have:=two_pow_succ j
 have:=Nat.two_pow_pos j
 omega
def lub (i:Nat):Nat:=if h:i+1=2 ^ bl i then 2 ^ (bl i - 1) else lub (i - (2 ^ (bl i - 1) - 1))
termination_by i
decreasing_by
 have h0:0<i:=by
  rcases Nat.eq_zero_or_pos i with h0|h0
  · subst h0;exact absurd rfl h
  · exact h0
 have:=bl_pos2 h0 h
 omega
theorem lub_full {i:Nat} (h:i+1=2 ^ bl i):lub i=2 ^ (bl i - 1):=by rw [lub,dif_pos h]
theorem lub_rest {i:Nat} (h:i+1≠2 ^ bl i):lub i=lub (i - (2 ^ (bl i - 1) - 1)):=by rw [lub,dif_neg h]
theorem bl_of_full (k:Nat):bl (2 ^ (k+1) - 1)=k+1:=by
 have:=Nat.two_pow_pos k
 have:=two_pow_succ k
 refine bl_uniq (by omega) (.inr ?_)
 simp
 omega
theorem lub_at_full (k:Nat):lub (2 ^ (k+1) - 1)=2 ^ k:=by
 have:=Nat.two_pow_pos (k+1)
 rw [lub_full (by rw [bl_of_full];omega),bl_of_full]
 simp
theorem lub_behind {k i:Nat} (h1:1≤i) (h2:i≤2 ^ k - 1):lub (2 ^ k - 1+i)=lub i:=by
 have:=Nat.two_pow_pos k
 have hb:bl (2 ^ k - 1+i)=k+1:=by
  have:=two_pow_succ k
  exact bl_uniq (by omega) (.inr (by simp;omega))
 have hs:=two_pow_succ k
 rw [lub_rest (by rw [hb];omega),hb]
 simp only [Nat.add_sub_cancel]
 congr 1
 omega
theorem lub_pow: ∀i:Nat,∃j,lub i=2 ^ j:=by
 intro i
 induction i using Nat.strongRecOn with
 |_ i ih=>
  by_cases h:i+1=2 ^ bl i
  · exact ⟨_,lub_full h⟩
  · rw [lub_rest h]
    have h0:0<i:=by
     rcases Nat.eq_zero_or_pos i with h0|h0
     · subst h0;exact absurd rfl h
     · exact h0
    have:=bl_pos2 h0 h
    exact ih _ (by omega)
theorem lub_le: ∀i:Nat,1≤i→lub i≤i:=by
 intro i
 induction i using Nat.strongRecOn with
 |_ i ih=>
  intro h0
  by_cases h:i+1=2 ^ bl i
  · rw [lub_full h]
    exact (bl_le h0).2
  · rw [lub_rest h]
    have:=bl_pos2 h0 h
    have:=ih (i - (2 ^ (bl i - 1) - 1)) (by omega) (by omega)
    omega
theorem lub_ge (i:Nat):1≤lub i:=by
 obtain ⟨j,hj⟩:=lub_pow i
 rw [hj]
 exact Nat.two_pow_pos j
def sum:Nat→Nat
 |0=>0
 |n+1=>sum n+lub (n+1)
theorem sum_behind (k:Nat): ∀i:Nat,i≤2 ^ k - 1→sum (2 ^ k - 1+i)=sum (2 ^ k - 1)+sum i
 |0,_=>by simp [sum]
 |i+1,h=>by
  have ih:=sum_behind k i (by omega)
  show sum (2 ^ k - 1+i+1)=_
  simp only [sum]
  rw [ih,Nat.add_assoc (2 ^ k - 1) i 1,lub_behind (by omega) h]
  omega
theorem sum_full: ∀k:Nat,sum (2 ^ k - 1)=k*2 ^ k / 2
 |0=>by simp [sum]
 |k+1=>by
  have ih:=sum_full k
  have hp:=Nat.two_pow_pos k
  have hs:=two_pow_succ k
  have h1:=sum_behind k (2 ^ k - 1) (Nat.le_refl _)
  have e:2 ^ (k+1) - 1=(2 ^ k - 1+ (2 ^ k - 1))+1:=by omega
  rw [e]
  simp only [sum]
  rw [h1,← e,lub_at_full,ih,hs]
  have:(k+1)* (2*2 ^ k)=2* ((k+1)*2 ^ k):=by rw [Nat.mul_left_comm]
  rw [this,Nat.mul_div_cancel_left _ (by omega)]
  rcases k with _|k
  · simp
  · have e2:(k+1)*2 ^ (k+1) / 2=(k+1)*2 ^ k:=by
     rw [two_pow_succ,Nat.mul_left_comm,Nat.mul_div_cancel_left _ (by omega)]
    rw [e2,two_pow_succ]
    have:(k+1+1)* (2*2 ^ k)=2* ((k+1)*2 ^ k)+2*2 ^ k:=by
     rw [Nat.add_mul,Nat.one_mul,Nat.mul_left_comm]
    omega
end Go.Luby
namespace Go.Proofs.YtddffgjagppimaaGreat.W.Lu
open Go Go.Fw Go.RowKit Go.Luby
open Go.IntKind (i64)
section
theorem tab_at: ∀j:Nat,j<256→strtab0[j]? =some (UInt8.ofNat (bl j)):=by
 decide+kernel
theorem bl_div (n s:Nat) (h:2 ^ s≤n):bl n=s+bl (n / 2 ^ s):=by
 have hp:=Nat.two_pow_pos s
 have hq:0<n / 2 ^ s:=Nat.div_pos h hp
 obtain ⟨g1,g2⟩:=bl_le hq
 have g3:=bl_lt (n / 2 ^ s)
 refine bl_uniq ?_ (.inr ?_)
 · rw [Nat.pow_add]
   have:=(Nat.div_lt_iff_lt_mul hp).1 g3
   rwa [Nat.mul_comm] at this
 · have:s+bl (n / 2 ^ s) - 1=s+ (bl (n / 2 ^ s) - 1):=by omega
   rw [this,Nat.pow_add]
   have:=(Nat.le_div_iff_mul_le hp).1 g2
   rwa [Nat.mul_comm] at this
theorem bl_small {n:Nat} (h:n<256):bl n≤8:=by
 rcases Nat.eq_zero_or_pos n with h0|h0
 · subst h0;decide
 · obtain ⟨g1,g2⟩:=bl_le h0
   rcases Nat.lt_or_ge 8 (bl n) with h'|h'
   · have:2 ^ 8≤2 ^ (bl n - 1):=Nat.pow_le_pow_right (by omega) (by omega)
     omega
   · exact h'
theorem fd32 (n:Nat):(n:Int).fdiv (2 ^ (min (32:Int).toNat (IntKind.bits .u64)))=((n / 4294967296:Nat):Int):=by
 show (n:Int).fdiv 4294967296=_
 rw [Int.fdiv_eq_ediv_of_nonneg _ (by omega)]
 omega
theorem fd16 (n:Nat):(n:Int).fdiv (2 ^ (min (16:Int).toNat (IntKind.bits .u64)))=((n / 65536:Nat):Int):=by
 show (n:Int).fdiv 65536=_
 rw [Int.fdiv_eq_ediv_of_nonneg _ (by omega)]
 omega
theorem fd8 (n:Nat):(n:Int).fdiv (2 ^ (min (8:Int).toNat (IntKind.bits .u64)))=((n / 256:Nat):Int):=by
 show (n:Int).fdiv 256=_
 rw [Int.fdiv_eq_ediv_of_nonneg _ (by omega)]
 omega
theorem tab_i {m:Nat} (hm:m<256) {K:UInt8→Prop} (hk: ∀b:UInt8,(b.toNat:Int)=(bl m:Int)→K b):
 ∃b,0≤(IntKind.u8.wrap (m:Int))∧strtab0[(IntKind.u8.wrap (m:Int)).toNat]? =some b∧K b:=by
 rw [wrapU8_of (by omega) (by omega)]
 refine ⟨UInt8.ofNat (bl m),by omega,?_,hk _ ?_⟩
 · rw [Int.toNat_natCast];exact tab_at m hm
 · have:=bl_small hm
   simp
   omega
theorem len64 (n:Nat) (hn:n<18446744073709551616) (w:World):Calls Tryz.prog bits_Len64.id #[.int .u64 n] w fun e w'=>e= .returned (.int .i64 (bl n))∧Same w w':=by
 refine bits_Len64.calls ?_
 unfold bits_Len64.w
 simp only [fd32,fd16,fd8,ge_iff_le]
 have fin: ∀ (x:Int),x=(bl n:Int)→(Ending.returned (.int .i64 x)= .returned (.int .i64 (bl n))∧Same w w):=fun x hx=> ⟨by rw [hx],Same.refl w⟩
 have d32:4294967296≤n→bl n=32+bl (n / 4294967296):=fun h=>bl_div n 32 h
 have d16: ∀m,65536≤m→bl m=16+bl (m / 65536):=fun m h=>bl_div m 16 h
 have d8: ∀m,256≤m→bl m=8+bl (m / 256):=fun m h=>bl_div m 8 h
 have w1: ∀ {x:Int},0≤x→x<1000→i64.wrap x=x:=fun h1 h2=>wrap64_of (by omega) (by omega)
 refine cnd_i (fun h1=> ?_) (fun h1=> ?_)<;>simp only [decide_eq_true_eq,decide_eq_false_iff_not] at h1
 · refine ⟨by decide,cnd_i (fun h2=> ?_) (fun h2=> ?_)⟩<;>simp only [decide_eq_true_eq,decide_eq_false_iff_not] at h2
   · refine ⟨by decide,cnd_i (fun h3=> ?_) (fun h3=> ?_)⟩<;>simp only [decide_eq_true_eq,decide_eq_false_iff_not] at h3
     · refine ⟨by decide,tab_i (by omega) fun b hb=>fin _ ?_⟩
       have e1:=d32 (by omega);have e2:=d16 (n / 4294967296) (by omega);have e3:=d8 (n / 4294967296 / 65536) (by omega)
       have:=bl_small (n:=n / 4294967296 / 65536 / 256) (by omega)
       rw [hb,w1 (x:=32+16) (by omega) (by omega),w1 (x:=32+16+8) (by omega) (by omega),w1 (x:=(bl _:Int)) (by omega) (by omega),w1 (by omega) (by omega)]
       omega
     · refine tab_i (by omega) fun b hb=>fin _ ?_
       have e1:=d32 (by omega);have e2:=d16 (n / 4294967296) (by omega)
       have:=bl_small (n:=n / 4294967296 / 65536) (by omega)
       rw [hb,w1 (x:=32+16) (by omega) (by omega),w1 (x:=(bl _:Int)) (by omega) (by omega),w1 (by omega) (by omega)]
       omega
   · refine cnd_i (fun h3=> ?_) (fun h3=> ?_)<;>simp only [decide_eq_true_eq,decide_eq_false_iff_not] at h3
     · refine ⟨by decide,tab_i (by omega) fun b hb=>fin _ ?_⟩
       have e1:=d32 (by omega);have e3:=d8 (n / 4294967296) (by omega)
       have:=bl_small (n:=n / 4294967296 / 256) (by omega)
       rw [hb,w1 (x:=32+8) (by omega) (by omega),w1 (x:=(bl _:Int)) (by omega) (by omega),w1 (by omega) (by omega)]
       omega
     · refine tab_i (by omega) fun b hb=>fin _ ?_
       have e1:=d32 (by omega)
       have:=bl_small (n:=n / 4294967296) (by omega)
       rw [hb,w1 (x:=(bl _:Int)) (by omega) (by omega),w1 (by omega) (by omega)]
       omega
 · refine cnd_i (fun h2=> ?_) (fun h2=> ?_)<;>simp only [decide_eq_true_eq,decide_eq_false_iff_not] at h2
   · refine ⟨by decide,cnd_i (fun h3=> ?_) (fun h3=> ?_)⟩<;>simp only [decide_eq_true_eq,decide_eq_false_iff_not] at h3
     · refine ⟨by decide,tab_i (by omega) fun b hb=>fin _ ?_⟩
       have e2:=d16 n (by omega);have e3:=d8 (n / 65536) (by omega)
       have:=bl_small (n:=n / 65536 / 256) (by omega)
       rw [hb,w1 (x:=0+16) (by omega) (by omega),w1 (x:=0+16+8) (by omega) (by omega),w1 (x:=(bl _:Int)) (by omega) (by omega),w1 (by omega) (by omega)]
       omega
     · refine tab_i (by omega) fun b hb=>fin _ ?_
       have e2:=d16 n (by omega)
       have:=bl_small (n:=n / 65536) (by omega)
       rw [hb,w1 (x:=0+16) (by omega) (by omega),w1 (x:=(bl _:Int)) (by omega) (by omega),w1 (by omega) (by omega)]
       omega
   · refine cnd_i (fun h3=> ?_) (fun h3=> ?_)<;>simp only [decide_eq_true_eq,decide_eq_false_iff_not] at h3
     · refine ⟨by decide,tab_i (by omega) fun b hb=>fin _ ?_⟩
       have e3:=d8 n (by omega)
       have:=bl_small (n:=n / 256) (by omega)
       rw [hb,w1 (x:=0+8) (by omega) (by omega),w1 (x:=(bl _:Int)) (by omega) (by omega),w1 (by omega) (by omega)]
       omega
     · refine tab_i (by omega) fun b hb=>fin _ ?_
       have:=bl_small (n:=n) (by omega)
       rw [hb,w1 (x:=(bl _:Int)) (by omega) (by omega),w1 (by omega) (by omega)]
       omega
theorem len_spec (n:Nat) (hn:n<18446744073709551616) (w:World):Calls Tryz.prog bits_Len.id #[.int .u64 n] w fun e w'=>e= .returned (.int .i64 (bl n))∧Same w w':=by
 refine bits_Len.calls ?_
 unfold bits_Len.w
 refine (len64 n hn w).mono ?_
 rintro e w' ⟨rfl,hw⟩
 exact ⟨_,rfl,rfl,hw⟩
theorem shl1 (k:Nat) (h:k≤62):i64.wrap ((1:Int)*2 ^ (min (k:Int).toNat (IntKind.bits .i64)))=((2 ^ k:Nat):Int):=by
 have e:min (k:Int).toNat (IntKind.bits .i64)=k:=by
  show min (k:Int).toNat 64=k
  omega
 have:2 ^ k≤2 ^ 62:=Nat.pow_le_pow_right (by omega) h
 rw [e,Int.one_mul]
 have e2:(2:Int) ^ k=((2 ^ k:Nat):Int):=by simp
 rw [e2]
 generalize 2 ^ k=x at*
 exact wrap64_of (by omega) (by omega)
theorem number_spec (n:Nat) (h1:1≤n) (h2:n<2147483648) (w:World):Calls Tryz.prog luby_number.id #[.int .i64 n] w fun e w'=>e= .returned (.int .i64 (lub n))∧Same w w':=by
 refine luby_number.calls ?_
 refine ⟨fun i w' k=> ∃m:Nat,i=m∧1≤m∧m<2147483648∧lub m=lub n∧Same w w'∧k=m,⟨n,n,rfl,h1,h2,rfl,Same.refl w,rfl⟩,?_⟩
 rintro i w' k _ ⟨m,rfl,g1,g2,g3,g4,hk⟩
 rw [wrapU64_of (by omega) (by omega)]
 refine (len_spec m (by omega) w').mono ?_
 rintro e w2 ⟨rfl,hw⟩
 obtain ⟨b1,b2⟩:=bl_le (n:=m) (by omega)
 have b3:=bl_bound (n:=m) (k:=31) (by omega)
 have b4:=bl_lt m
 have p1:2 ^ bl m≤2 ^ 31:=Nat.pow_le_pow_right (by omega) b3
 have e1:i64.wrap ((bl m:Int) - 1)=((bl m - 1:Nat):Int):=by rw [wrap64_of (by omega) (by omega)];omega
 refine ⟨_,rfl,by omega,?_⟩
 rw [e1,shl1 _ (by omega),shl1 _ (by omega),wrap64_of (x:=((2 ^ bl m:Nat):Int) - 1) (by omega) (by omega)]
 refine cnd_i (fun h=> ⟨by omega,?_,g4.trans hw⟩) (fun h=> ?_)
 · have hf:m+1=2 ^ bl m:=by have:=beq_iff_eq.1 h;omega
   rw [← g3,lub_full hf]
 · have hf:m+1≠2 ^ bl m:=by have:=beq_eq_false_iff_ne.1 h;omega
   have hp:=bl_pos2 (by omega) hf
   refine ⟨by omega,m - (2 ^ (bl m - 1) - 1),by omega,m - (2 ^ (bl m - 1) - 1),?_,by omega,by omega,by rw [← lub_rest hf];exact g3,g4.trans hw,rfl⟩
   rw [wrap64_of (x:=((2 ^ (bl m - 1):Nat):Int) - 1) (by omega) (by omega),wrap64_of (by omega) (by omega)]
   omega
end
section
def May (u a l:Int):Prop:=1≤u∧u≤1048576∧1≤a∧a≤1073741824∧1≤l∧l≤u* (lub a.toNat:Int)
instance (u a l:Int):Decidable (May u a l):=by unfold May;infer_instance
theorem mul_bd {u:Int} {m:Nat} (h1:1≤u) (h2:u≤1048576) (h3:1≤m) (h4:m≤1073741824):i64.wrap (u* (lub m:Int))=u* (lub m:Int)∧1≤u* (lub m:Int)∧u* (lub m:Int)≤1125899906842624:=by
 have g1:=lub_ge m
 have g2:=lub_le m h3
 obtain ⟨v,rfl⟩: ∃v:Nat,u=v:=⟨u.toNat,by omega⟩
 have b1:v*lub m≤1048576*1073741824:=Nat.mul_le_mul (by omega) (by omega)
 have b2:1*1≤v*lub m:=Nat.mul_le_mul (by omega) g1
 rw [← Int.natCast_mul]
 refine ⟨wrap64_of (by omega) (by omega),by omega,by omega⟩
theorem check_spec (u a l:Int) (w:World):Calls Tryz.prog luby_Check.id #[.agg #[.int .i64 u,.int .i64 a,.int .i64 l]] w fun e w'=>e= .returned (.int .i64 (if May u a l then 0 else 1))∧Grow w w':=by
 refine luby_Check.calls ?_
 unfold luby_Check.w
 simp only [and_self]
 intro n w2 hn
 have H:Has w2.drew n _:=hn.has
 have G:Grow w w2.drew:=hn.mod.drew
 have bad: ¬May u a l→(Ending.returned (.int .i64 1)= .returned (.int .i64 (if May u a l then 0 else 1))∧Grow w w2.drew):=fun h=> ⟨by rw [if_neg h],G⟩
 refine ⟨_,cell_add H rfl,cnd_i (fun h1=>bad ?_) (fun h1=> ⟨_,cell_add H rfl,cnd_i (fun h2=>bad ?_) (fun h2=> ⟨_,cell_add H rfl,cnd_i (fun h3=>bad ?_) (fun h3=> ⟨_,cell_add H rfl,cnd_i (fun h4=>bad ?_) (fun h4=> ⟨_,cell_add H rfl,cnd_i (fun h5=>bad ?_) (fun h5=> ⟨_,cell_add H rfl,?_⟩)⟩)⟩)⟩)⟩)⟩<;>
  simp only [decide_eq_true_eq,decide_eq_false_iff_not] at* <;>try (unfold May;omega)
 obtain ⟨m,rfl⟩: ∃m:Nat,a=m:=⟨a.toNat,by omega⟩
 obtain ⟨b1,b2,b3⟩:=mul_bd (u:=u) (m:=m) (by omega) (by omega) (by omega) (by omega)
 have num:=number_spec m (by omega) (by omega) w2.drew
 have fin: ∀w',Same w2.drew w'→cnd (decide (l>i64.wrap (u* (lub m:Int)))) (Ending.returned (.int .i64 1)= .returned (.int .i64 (if May u m l then 0 else 1))∧Grow w w') (Ending.returned (.int .i64 0)= .returned (.int .i64 (if May u m l then 0 else 1))∧Grow w w'):=by
  intro w' hw
  rw [b1]
  refine cnd_i (fun h6=> ⟨?_,G.trans hw.mod⟩) (fun h6=> ⟨?_,G.trans hw.mod⟩)<;>simp only [decide_eq_true_eq,decide_eq_false_iff_not] at h6
  · rw [if_neg];unfold May;simp only [Int.toNat_natCast];omega
  · rw [if_pos];unfold May;simp only [Int.toNat_natCast];omega
 refine ⟨⟨_,cell_add H rfl,⟨_,cell_add H rfl,?_⟩,?_⟩,⟨_,cell_add H rfl,⟨_,cell_add H rfl,?_⟩,?_⟩,?_⟩<;>refine num.mono ?_<;>rintro e w' ⟨rfl,hw⟩<;>have H':=H.keep (S:=fun _=>False) hw.mod id<;>refine ⟨_,rfl,?_⟩
 · exact fin w' hw
 · exact ⟨_,cell_add H' rfl,fin w' hw⟩
 · exact fin w' hw
 · exact ⟨_,cell_add H' rfl,fin w' hw⟩
 · exact ⟨_,cell_add H' rfl,_,cell_add H' rfl,fin w' hw⟩
def tickU (u a l:Int):Int:=if May u a l then u else 0
def tickA (u a l:Int):Int:=if May u a l then (if 1<l then a else if a=1073741824 then 1 else a+1) else 0
def tickL (u a l:Int):Int:=if May u a l then (if 1<l then l - 1 else u* (lub (tickA u a l).toNat:Int)) else 0
def again (u a l:Int):Bool:=decide (May u a l) && decide (l=1)
theorem tick_spec (u a l:Int) (w:World):Calls Tryz.prog luby_Tick.id #[.agg #[.int .i64 u,.int .i64 a,.int .i64 l]] w fun e w'=>
 e= .returned (.tuple #[.agg #[.int .i64 (tickU u a l),.int .i64 (tickA u a l),.int .i64 (tickL u a l)],.bool (again u a l)])∧Grow w w':=by
 refine luby_Tick.calls ?_
 intro n w2 hn m w4 hm
 have hnm:n≠m:=hm.ne hn.has
 have G:Grow w w4:=hn.mod.trans hm.mod
 have hn0:w.heap.size≤n:=by rw [hn.num];exact Nat.le_refl _
 have hm0:w.heap.size≤m:=by rw [hm.num];exact hn.mod.size
 refine ⟨_,_,_,cells3 (hn.has.old hm),(check_spec u a l w4).mono ?_⟩
 rintro e w8 ⟨rfl,hw⟩
 have Hn:=(hn.has.old hm).grow hw
 have Hm:=hm.has.grow hw
 have G:=G.trans hw
 refine ⟨_,rfl,?_⟩
 by_cases hmay:May u a l
 · rw [if_pos hmay]
   refine cnd_f rfl ⟨_,cell_add Hn rfl,?_⟩
   obtain ⟨h1,h2,h3,h4,h5,h6⟩:=id hmay
   obtain ⟨q,rfl⟩: ∃q:Nat,a=q:=⟨a.toNat,by omega⟩
   simp only [Int.toNat_natCast] at h6
   obtain ⟨b1,b2,b3⟩:=mul_bd (u:=u) (m:=q) (by omega) (by omega) (by omega) (by omega)
   rw [wrap64_of (x:=l - 1) (by omega) (by omega)]
   refine store_f Hn rfl rfl fun w15 Hn' Mn=> ?_
   have Hm':=Hm.put Mn (Ne.symm hnm)
   have G':=G.fresh Mn hn0
   refine ⟨_,cell_add Hn' rfl,cnd_i (fun h=> ?_) (fun h=> ?_)⟩<;>simp only [decide_eq_true_eq,decide_eq_false_iff_not] at h
   · refine ⟨_,_,_,cells3 Hn',store_i Hm' rfl rfl fun w20 Hm2 Mm=> ⟨_,_,_,cells3 Hm2,?_,G'.fresh Mm hm0⟩⟩
     simp only [tickU,tickA,tickL,again,if_pos hmay,if_pos (show 1<l by omega),decide_eq_false (show ¬l=1 by omega),Bool.and_false]
   · have hl:l=1:=by omega
     subst hl
     refine ⟨_,cell_add Hn' rfl,by decide,?_⟩
     have e1:i64.wrap ((q:Int).tmod 1073741824+1)=(tickA u q 1):=by
      simp only [tickA,if_pos hmay]
      rw [if_neg (by omega)]
      have:(q:Int).tmod 1073741824=((q % 1073741824:Nat):Int):=by
       rw [Int.tmod_eq_emod_of_nonneg (by omega)];omega
      rw [this,wrap64_of (by omega) (by omega)]
      split<;>omega
     rw [e1]
     obtain ⟨q',hq',g1,g2⟩: ∃q':Nat,tickA u q 1=q'∧1≤q'∧q'≤1073741824:=by
      simp only [tickA,if_pos hmay]
      rw [if_neg (by omega)]
      split
      · exact ⟨1,rfl,by omega,by omega⟩
      · exact ⟨q+1,by omega,by omega,by omega⟩
     have hr:(Value.tuple #[.agg #[.int .i64 u,.int .i64 q',.int .i64 (u* (lub q':Int))],.bool true])= .tuple #[.agg #[.int .i64 (tickU u q 1),.int .i64 q',.int .i64 (tickL u q 1)],.bool (again u q 1)]:=by
      simp only [tickU,tickL,again,if_pos hmay,hq',if_neg (show ¬(1:Int)<1 by omega),decide_eq_true hmay,Int.toNat_natCast]
      rfl
     rw [hq']
     obtain ⟨c1,c2,c3⟩:=mul_bd (u:=u) (m:=q') (by omega) (by omega) (by omega) (by omega)
     refine store_f Hn' rfl rfl fun w25 Hn2 Mn2=> ?_
     have Hm2:=(Hm'.put Mn2 (Ne.symm hnm)).drew
     have Hn2:Has w25.drew n _:=Hn2
     have G2:=(G'.fresh Mn2 hn0).drew
     have num:=number_spec q' (by omega) (by omega) w25.drew
     refine ⟨_,cell_add Hn2 rfl,⟨_,cell_add Hn2 rfl,?_⟩,?_⟩<;>refine num.mono ?_<;>rintro e w' ⟨rfl,hw2⟩<;>have Hn3:=Hn2.keep (S:=fun _=>False) hw2.mod id<;>have Hm3:=Hm2.keep (S:=fun _=>False) hw2.mod id<;>have G3:=G2.trans hw2.mod
     · refine ⟨_,rfl,?_⟩
       rw [c1]
       refine store_f Hn3 rfl rfl fun w30 Hn4 Mn4=> ⟨_,_,_,cells3 Hn4,store_i (Hm3.put Mn4 (Ne.symm hnm)) rfl rfl fun w34 Hm5 Mm5=> ⟨_,_,_,cells3 Hm5,?_,(G3.fresh Mn4 hn0).fresh Mm5 hm0⟩⟩
       rw [← hr]
     · refine ⟨_,rfl,_,cell_add Hn3 rfl,?_⟩
       rw [c1]
       refine store_f Hn3 rfl rfl fun w30 Hn4 Mn4=> ⟨_,_,_,cells3 Hn4,store_i (Hm3.put Mn4 (Ne.symm hnm)) rfl rfl fun w34 Hm5 Mm5=> ⟨_,_,_,cells3 Hm5,?_,(G3.fresh Mn4 hn0).fresh Mm5 hm0⟩⟩
       rw [← hr]
 · rw [if_neg hmay]
   refine cnd_t rfl ?_
   refine store_i Hm rfl rfl fun w10 Hm' Mm=> ⟨_,_,_,cells3 Hm',?_,G.fresh Mm hm0⟩
   simp only [tickU,tickA,tickL,again,if_neg hmay,decide_eq_false hmay,Bool.false_and]
end
section
theorem start_spec (u:Int) (w:World):Calls Tryz.prog luby_Start.id #[.int .i64 u] w fun e w'=>
 e= .returned (.tuple (if 1≤u∧u≤1048576 then #[.agg #[.int .i64 u,.int .i64 1,.int .i64 u],.int .i64 0] else #[.agg #[.int .i64 0,.int .i64 0,.int .i64 0],.int .i64 1]))∧Grow w w':=by
 refine luby_Start.calls ?_
 intro n w2 hn
 have hn0:w.heap.size≤n:=by rw [hn.num];exact Nat.le_refl _
 refine cnd_i (fun h1=> ?_) (fun h1=>cnd_i (fun h2=> ?_) (fun h2=> ?_))<;>simp only [decide_eq_true_eq,decide_eq_false_iff_not] at*
 · refine store_i hn.has rfl rfl fun w3 H M=> ⟨_,_,_,cells3 H,?_,hn.mod.fresh M hn0⟩
   rw [if_neg (by omega)]
 · refine store_i hn.has rfl rfl fun w3 H M=> ⟨_,_,_,cells3 H,?_,hn.mod.fresh M hn0⟩
   rw [if_neg (by omega)]
 · refine store_i hn.has rfl rfl fun w3 H M=> ⟨_,_,_,cells3 H,?_,hn.mod.fresh M hn0⟩
   rw [if_pos (by omega)]
end
end Go.Proofs.YtddffgjagppimaaGreat.W.Lu
