/- slices.SortFunc over ints: its parts that sort. -/
import Derived.Test.YtenmibfmhccmiaaGreatGenCdcl
import Derived.Test.YtenmibfmhccmiaaGreatFwSlice
import Derived.Test.YtenmibfmhccmiaaGreatPureA
import Derived.Test.YtenmibfmhccmiaaGreatFwLib
import Derived.Test.YtenmibfmhccmiaaGreatFwMem
namespace Go.Proofs.YtenmibfmhccmiaaGreat.W
open Go Go.Fw Go.RowKit
open Go.Proofs.Tryz (prog)
open Go.IntKind (i64)
section
open Go.SoP
abbrev Bk (p:Option Addr):Nat→Prop:=fun b=>blk p=some b
theorem wN {x:Int} {i:Nat} (h:x=i) (hb:i<9223372036854775808):i64.wrap x=i:=by
 subst h
 exact wrap64_of (by omega) (by omega)
structure Cx (w0:World) (p:Option Addr) (n:Nat) (l0:List Int) (fid:FuncId) (fv:Array Value) (cf:Int→Int→Int):Prop where
 hn:n=l0.length
 hm:n≤1152921504606846976
 he:entB prog fid=true
 hf: ∀x∈l0,∀y∈l0,∀w,Mod (Bk p) w0 w→Calls prog fid (#[]++ #[.int .i64 x,.int .i64 y]++fv) w fun e w2=>e= .returned (.int .i64 (cf x y))∧Grow w w2
 o:Ord cf
structure St (w0:World) (p:Option Addr) (c:Nat) (l0:List Int) (w:World) (l:List Int):Prop where
 o:OwI ty_int w p c l
 m:Mod (Bk p) w0 w
 pm:l.Perm l0
variable {w0 w:World} {p:Option Addr} {n c:Nat} {l0 l:List Int} {fid:FuncId} {fv:Array Value} {cf:Int→Int→Int}
theorem Cx.bd (X:Cx w0 p n l0 fid fv cf):n<2305843009213693952:=by have:=X.hm;omega
theorem St.drew (s:St w0 p c l0 w l):St w0 p c l0 w.drew l:=⟨s.o.drew,s.m.drew,s.pm⟩
theorem St.grow {w':World} (s:St w0 p c l0 w l) (g:Grow w w'):St w0 p c l0 w' l:=⟨s.o.grow g,s.m.grow g,s.pm⟩
theorem Cx.len (X:Cx w0 p n l0 fid fv cf) (s:St w0 p c l0 w l):n=l.length:=by rw [X.hn,s.pm.length_eq]
theorem St.mem (s:St w0 p c l0 w l) {i:Nat} (h:i<l.length):l.getD i 0∈l0:=by
 rw [← s.pm.mem_iff]
 simp [List.getD,h]
theorem Cx.cmp (X:Cx w0 p n l0 fid fv cf) (s:St w0 p c l0 w l) {I J:Int} (i j:Nat) (ei:I=i) (ej:J=j) (hi:i<n) (hj:j<n) {R:Int→World→Prop}
 (hk: ∀w',St w0 p c l0 w' l→Grow w w'→R (cf (l.getD i 0) (l.getD j 0)) w'):
 ixK p n I 1 fun a1=> ∃x1,w.cell? a1=some (.int .i64 x1)∧ixK p n J 1 fun a2=> ∃x2,w.cell? a2=some (.int .i64 x2)∧
  cnd (entB prog fid) (Calls prog fid (#[]++ #[.int .i64 x1,.int .i64 x2]++fv) w fun e w3=> ∃r:Int,e= .returned (.int .i64 r)∧R r w3) False:=by
 subst ei ej
 have hl:=X.len s
 refine s.o.ix 0 (by omega) hl (by omega) fun a e=> ⟨_,e,s.o.ix 0 (by omega) hl (by omega) fun a e=> ⟨_,e,?_⟩⟩
 rw [X.he]
 show Calls _ _ _ _ _
 refine (X.hf _ (s.mem (i:=i) (by omega)) _ (s.mem (i:=j) (by omega)) w s.m).mono ?_
 rintro e w' ⟨rfl,g⟩
 exact ⟨_,rfl,hk w' (s.grow g) g⟩
theorem swp_perm {i j:Nat} (hi:i<l.length) (hj:j<l.length):(swp l i j).Perm l:=perm_swp hi hj
theorem Cx.swap (X:Cx w0 p n l0 fid fv cf) (s:St w0 p c l0 w l) {I J:Int} (i j:Nat) (ei:I=i) (ej:J=j) (hi:i<n) (hj:j<n) {K:World→Prop}
 (hk: ∀w',St w0 p c l0 w' (swp l j i)→Mod (Bk p) w w'→K w'):
 ixK p n I 1 fun a1=> ∃x1,w.cell? a1=some (.int .i64 x1)∧ixK p n J 1 fun a2=> ∃x2,w.cell? a2=some (.int .i64 x2)∧
  ixK p n J 1 fun a3=> ∃w3,StoreAt a3 0 [.int .i64 x1] w w3∧ixK p n I 1 fun a4=> ∃w4,StoreAt a4 0 [.int .i64 x2] w3 w4∧K w4:=by
 subst ei ej
 have hl:=X.len s
 refine s.o.ix 0 (by omega) hl (by omega) fun a e=> ⟨_,e,s.o.ix 0 (by omega) hl (by omega) fun a e=> ⟨_,e,?_⟩⟩
 refine s.o.st _ rfl rfl (by omega) hl (by omega) fun w3 o3 m3=> ?_
 refine o3.st _ rfl rfl (by omega) (by simpa using hl) (by omega) fun w4 o4 m4=> ?_
 simp only [Int.toNat_natCast] at o4
 refine hk w4 ⟨o4,(s.m.trans m3).trans m4,?_⟩ (m3.trans m4)
 exact (swp_perm (by omega) (by omega)).trans s.pm
theorem insertion_ok (X:Cx w0 p n l0 fid fv cf) (s:St w0 p c l0 w l) (a b:Nat) (hab:a≤n) (hb:b≤n):
 Calls prog slices_insertionSortCmpFunc_int.id #[.slice p n c,.int .i64 a,.int .i64 b,.func (.func fid) #[] fv] w fun e w'=>e= .returned (.tuple #[])∧∃l',St w0 p c l0 w' l'∧Sw a b l l'∧SortedR cf l' a b:=by
 refine slices_insertionSortCmpFunc_int.calls ?_
 have hbd:=X.bd
 refine ⟨fun I w' k=> ∃ (i:Nat) (l':List Int),I=i∧a+1≤i∧i≤n+1∧k=n+1 - i∧St w0 p c l0 w' l'∧Sw a b l l'∧SortedR cf l' a i,⟨_,a+1,l,wN (by omega) (by omega),Nat.le_refl _,by omega,rfl,s,.refl l,fun i j h1 h2 h3=>by omega⟩,?_⟩
 rintro I w1 k _ ⟨i,l1,rfl,h1,h2,rfl,s1,k1,r1⟩
 refine cnd_i (fun q=> ?_) (fun q=> ⟨rfl,l1,s1,k1,fun x y x1 x2 x3=>r1 x y x1 x2 (by simp at q;omega)⟩)
 have q:i<b:=by simpa using q
 refine ⟨fun J w' k=> ∃ (j:Nat) (l':List Int),J=j∧a≤j∧j≤i∧j=k∧St w0 p c l0 w' l'∧Sw a b l l'∧InsI cf l' a i j,⟨_,i,l1,rfl,by omega,Nat.le_refl _,rfl,s1,k1,.start r1⟩,?_⟩
 rintro J w2 k _ ⟨j,l2,rfl,h3,h4,rfl,s2,k2,r2⟩
 have hn2:=X.len s2
 refine cnd_i (fun q2=> ?_) (fun q2=> ?_)
 · have q2:a<j:=by simpa using q2
   have e1:i64.wrap ((j:Int) - 1)=((j - 1:Nat):Int):=wN (by omega) (by omega)
   rw [e1]
   refine X.cmp s2.drew j (j - 1) rfl rfl (by omega) (by omega) fun w3 s3 _=> ?_
   refine cnd_i (fun q3=> ?_) (fun q3=> ?_)
   · have q3:cf (l2.getD j 0) (l2.getD (j - 1) 0)<0:=by simpa using q3
     refine X.swap s3.drew (j - 1) j rfl rfl (by omega) (by omega) fun w4 s4 _=> ?_
     exact ⟨_,by omega,j - 1,_,rfl,by omega,by omega,rfl,s4,.step k2 (by omega) (by omega) (by omega) (by omega) (by omega),r2.step X.o q2 h4 (by omega) q3⟩
   · have q3: ¬cf (l2.getD j 0) (l2.getD (j - 1) 0)<0:=by simpa using q3
     exact ⟨_,by omega,i+1,l2,wN (by omega) (by omega),by omega,by omega,rfl,s3,k2,r2.done X.o h4 (.inr q3)⟩
 · have q2: ¬a<j:=by simpa using q2
   exact ⟨_,by omega,i+1,l2,wN (by omega) (by omega),by omega,by omega,rfl,s2.drew,k2,r2.done X.o h4 (.inl (by omega))⟩
theorem siftDown_ok (X:Cx w0 p n l0 fid fv cf) (s:St w0 p c l0 w l) (lo hi f:Nat) (hlo:lo≤n) (hh:f+hi≤n) (h0:HeapR cf l f hi (lo+1)):
 Calls prog slices_siftDownCmpFunc_int.id #[.slice p n c,.int .i64 lo,.int .i64 hi,.int .i64 f,.func (.func fid) #[] fv] w fun e w'=>e= .returned (.tuple #[])∧∃l',St w0 p c l0 w' l'∧Sw f (f+hi) l l'∧HeapR cf l' f hi lo:=by
 refine slices_siftDownCmpFunc_int.calls ?_
 have hbd:=X.bd
 refine ⟨fun I w' k=> ∃ (r:Nat) (l':List Int),I=r∧r≤n∧k=n - r∧St w0 p c l0 w' l'∧Sw f (f+hi) l l'∧SI cf l' f hi lo r,⟨_,lo,l,rfl,hlo,rfl,s,.refl l,.start h0⟩,?_⟩
 rintro I w1 k _ ⟨r,l1,rfl,hr,rfl,s1,k1,r1⟩
 have hn1:=X.len s1
 have e1:i64.wrap ((2:Int)*r)=((2*r:Nat):Int):=wN (by omega) (by omega)
 have e2:i64.wrap (((2*r:Nat):Int)+1)=((2*r+1:Nat):Int):=wN (by omega) (by omega)
 have e3:i64.wrap (((2*r+1:Nat):Int)+1)=((2*r+2:Nat):Int):=wN (by omega) (by omega)
 have e6:i64.wrap ((f:Int)+r)=((f+r:Nat):Int):=wN (by omega) (by omega)
 simp only [e1,e2,e3,e6]
 refine cnd_i (fun q=> ⟨trivial,l1,s1,k1,r1.done fun t h1 h2=> ?_⟩) (fun q=> ?_)<;>simp only [decide_eq_true_eq,decide_eq_false_iff_not,ge_iff_le] at q
 · unfold kidOf at h1;omega
 have e4:i64.wrap ((f:Int)+ ((2*r+1:Nat):Int))=((f+ (2*r+1):Nat):Int):=wN (by omega) (by omega)
 have e5:i64.wrap (((f+ (2*r+1):Nat):Int)+1)=((f+ (2*r+2):Nat):Int):=wN (by omega) (by omega)
 simp only [e4,e5]
 refine ⟨fun C w'=> ∃ch:Nat,C=ch∧kidOf r ch∧ch<hi∧(∀t,kidOf r t→t<hi→Le cf (l1.getD (f+t) 0) (l1.getD (f+ch) 0))∧St w0 p c l0 w' l1,cnd_i (fun q2=> ?_) (fun q2=> ?_),?_⟩
 · have q2:2*r+2<hi:=by simp at q2;omega
   refine X.cmp s1.drew _ _ rfl rfl (by omega) (by omega) fun w3 s3 _=> ?_
   refine cnd_i (fun q3=> ?_) (fun q3=> ?_)
   · have q3:cf (l1.getD (f+ (2*r+1)) 0) (l1.getD (f+ (2*r+2)) 0)<0:=by simpa using q3
     refine ⟨_,rfl,.inr rfl,by omega,fun t t1 t2=> ?_,s3⟩
     rcases t1 with t1|t1<;>subst t1
     · exact X.o.lt q3
     · exact X.o.rfl
   · have q3: ¬cf (l1.getD (f+ (2*r+1)) 0) (l1.getD (f+ (2*r+2)) 0)<0:=by simpa using q3
     refine ⟨_,rfl,.inl rfl,by omega,fun t t1 t2=> ?_,s3⟩
     rcases t1 with t1|t1<;>subst t1
     · exact X.o.rfl
     · exact q3
 · have q2: ¬2*r+2<hi:=by simp at q2;omega
   refine ⟨_,rfl,.inl rfl,by omega,fun t t1 t2=> ?_,s1.drew⟩
   rcases t1 with t1|t1<;>subst t1
   · exact X.o.rfl
   · omega
 · rintro C w4 _ ⟨ch,rfl,g1,g2,g3,s4⟩
   have g1':=g1
   unfold kidOf at g1'
   have e7:i64.wrap ((f:Int)+ch)=((f+ch:Nat):Int):=wN (by omega) (by omega)
   simp only [e7]
   refine X.cmp s4.drew _ _ rfl rfl (by omega) (by omega) fun w5 s5 _=> ?_
   refine cnd_i (fun q3=> ?_) (fun q3=> ?_)
   · have q3: ¬cf (l1.getD (f+r) 0) (l1.getD (f+ch) 0)<0:=by simpa using q3
     exact ⟨trivial,l1,s5,k1,r1.done fun t t1 t2=>X.o.trans (g3 t t1 t2) q3⟩
   · have q3:cf (l1.getD (f+r) 0) (l1.getD (f+ch) 0)<0:=by simpa using q3
     refine X.swap s5.drew _ _ rfl rfl (by omega) (by omega) fun w6 s6 _=> ?_
     exact ⟨_,by omega,ch,_,rfl,by omega,rfl,s6,.step k1 (by omega) (by omega) (by omega) (by omega) (by omega),r1.step X.o g1 g2 (by omega) q3 g3⟩
theorem heapSort_ok (X:Cx w0 p n l0 fid fv cf) (s:St w0 p c l0 w l) (a b:Nat) (hab:a≤b) (hb:b≤n):
 Calls prog slices_heapSortCmpFunc_int.id #[.slice p n c,.int .i64 a,.int .i64 b,.func (.func fid) #[] fv] w fun e w'=>e= .returned (.tuple #[])∧∃l',St w0 p c l0 w' l'∧Sw a b l l'∧SortedR cf l' a b:=by
 refine slices_heapSortCmpFunc_int.calls ?_
 have hbd:=X.bd
 have e1:i64.wrap ((b:Int) - a)=((b - a:Nat):Int):=wN (by omega) (by omega)
 have e2:i64.wrap (((b - a:Nat):Int) - 1)=((b - a:Nat):Int) - 1:=wrap64_of (by omega) (by omega)
 have hba:a+ (b - a)=b:=by omega
 unfold slices_heapSortCmpFunc_int.w
 simp only [e1,e2]
 have e3:i64.wrap ((((b - a:Nat):Int) - 1).tdiv 2)=(((b - a - 1) / 2:Nat):Int):=by
  refine wN ?_ (by omega)
  rcases Nat.eq_zero_or_pos (b - a) with e|e
  · rw [e];rfl
  · rw [Int.tdiv_eq_ediv_of_nonneg (by omega)];omega
 refine ⟨by decide,fun I w' k=> ∃ (i:Nat) (l':List Int),I=(i:Int) - 1∧i≤(b - a - 1) / 2+1∧i=k∧St w0 p c l0 w' l'∧Sw a b l l'∧HeapR cf l' a (b - a) i,⟨_,(b - a - 1) / 2+1,l,?_,Nat.le_refl _,rfl,s,.refl l,.zero (by omega)⟩,?_⟩
 · rw [e3];omega
 rintro I w1 k _ ⟨i,l1,rfl,h1,rfl,s1,k1,r1⟩
 have hn1:=X.len s1
 refine cnd_i (fun q=> ?_) (fun q=> ?_)
 · have q:1≤i:=by simp at q;omega
   have e4:(i:Int) - 1=((i - 1:Nat):Int):=by omega
   rw [e4]
   refine (siftDown_ok X s1 (i - 1) (b - a) a (by omega) (by omega) (by rwa [show i - 1+1=i by omega])).mono ?_
   rintro e w2 ⟨rfl,l2,s2,k2,r2⟩
   rw [hba] at k2
   refine ⟨rfl,_,by omega,i - 1,l2,?_,by omega,rfl,s2,k1.trans k2,r2⟩
   exact wrap64_of (by omega) (by omega)
 · have q:i=0:=by simp at q;omega
   subst q
   refine ⟨fun I w' k=> ∃ (i:Nat) (l':List Int),I=(i:Int) - 1∧i≤b - a∧i=k∧St w0 p c l0 w' l'∧Sw a b l l'∧HeapR cf l' a i 0∧TailR cf l' a (b - a) i,⟨_,b - a,l1,rfl,Nat.le_refl _,rfl,s1,k1,r1,fun x y _ _ h3 h4=>by omega⟩,?_⟩
   rintro I w2 k _ ⟨i,l2,rfl,h2,rfl,s2,k2,r2,t2⟩
   have hn2:=X.len s2
   refine cnd_i (fun q=> ?_) (fun q=> ?_)
   · have q:1≤i:=by simp at q;omega
     have e4:(i:Int) - 1=((i - 1:Nat):Int):=by omega
     have e5:i64.wrap ((a:Int)+ ((i - 1:Nat):Int))=((a+ (i - 1):Nat):Int):=wN (by omega) (by omega)
     simp only [e4,e5]
     refine X.swap s2.drew _ _ rfl rfl (by omega) (by omega) fun w3 s3 _=> ?_
     obtain ⟨r3,t3⟩:=heap_pop (i:=i - 1) X.o (by rwa [show i - 1+1=i by omega]) (by rwa [show i - 1+1=i by omega]) (by omega) (by omega) (l:=l2) (f:=a) (n:=b - a)
     refine (siftDown_ok X s3 0 (i - 1) a (by omega) (by omega) r3).mono ?_
     rintro e w4 ⟨rfl,l4,s4,k4,r4⟩
     refine ⟨rfl,_,by omega,i - 1,l4,wrap64_of (by omega) (by omega),by omega,rfl,s4,?_,r4,t3.sw k4⟩
     have k3:Sw a b l (swp l2 a (a+ (i - 1))):= .step k2 (by omega) (by omega) (by omega) (by omega) (by omega)
     exact k3.trans (k4.mono (Nat.le_refl _) (by omega) (by rw [swp_len];omega)).1
   · have q:i=0:=by simp at q;omega
     subst q
     have:=t2.full
     rw [hba] at this
     exact ⟨trivial,l2,s2,k2,this⟩
end
section
open Go.SoP
variable {w0 w:World} {p:Option Addr} {n c:Nat} {l0 l:List Int} {fid:FuncId} {fv:Array Value} {cf:Int→Int→Int}
theorem part_tail (X:Cx w0 p n l0 fid fv cf) (s:St w0 p c l0 w l) {a b i j0:Nat} (h:PartI cf l a b i j0) (ha:a<i) (hi:i≤j0+1) (hj:j0<b) (hb:b≤n) (hs:i≤j0→¬cf (l.getD i 0) (l.getD a 0)<0) {D N:Int→World→Prop}
 (hD: ∀w',PartI cf l a b i (i - 1)→St w0 p c l0 w' (swp l (i - 1) a)→D ((i - 1:Nat):Int) w')
 (hN: ∀w' (j:Nat),i<j→j≤j0→PartI cf l a b i j→cf (l.getD j 0) (l.getD a 0)<0→St w0 p c l0 w' (swp l i j)→N j w'):
 ∃I:Int→World→Nat→Prop,(∃k,I j0 w k)∧∀ (j:Int) (w1:World) (k:Nat) (_:Fr),I j w1 k→
  cnd (decide ((i:Int)≤j))
   (ixK p n j 1 fun a1=> ∃x1,w1.drew.cell? a1=some (.int .i64 x1)∧ixK p n (a:Int) 1 fun a2=> ∃x2,w1.drew.cell? a2=some (.int .i64 x2)∧
     cnd (entB prog fid) (Calls prog fid (#[]++ #[.int .i64 x1,.int .i64 x2]++fv) w1.drew fun e w3=> ∃r:Int,e= .returned (.int .i64 r)∧
      cnd (!(decide (r< (0:Int)))) (∃k',k'<k∧I (i64.wrap (j - (1:Int))) w3 k')
       (cnd (decide ((i:Int)>j))
         (ixK p n (a:Int) 1 fun a1=> ∃x1,w3.drew.cell? a1=some (.int .i64 x1)∧ixK p n j 1 fun a2=> ∃x2,w3.drew.cell? a2=some (.int .i64 x2)∧
           ixK p n j 1 fun a3=> ∃w4,StoreAt a3 0 [.int .i64 x1] w3.drew w4∧ixK p n (a:Int) 1 fun a4=> ∃w5,StoreAt a4 0 [.int .i64 x2] w4 w5∧D j w5)
         (ixK p n j 1 fun a1=> ∃x1,w3.drew.cell? a1=some (.int .i64 x1)∧ixK p n (i:Int) 1 fun a2=> ∃x2,w3.drew.cell? a2=some (.int .i64 x2)∧
           ixK p n (i:Int) 1 fun a3=> ∃w4,StoreAt a3 0 [.int .i64 x1] w3.drew w4∧ixK p n j 1 fun a4=> ∃w5,StoreAt a4 0 [.int .i64 x2] w4 w5∧N j w5))) False)
   (cnd (decide ((i:Int)>j))
     (ixK p n (a:Int) 1 fun a1=> ∃x1,w1.drew.drew.cell? a1=some (.int .i64 x1)∧ixK p n j 1 fun a2=> ∃x2,w1.drew.drew.cell? a2=some (.int .i64 x2)∧
       ixK p n j 1 fun a3=> ∃w4,StoreAt a3 0 [.int .i64 x1] w1.drew.drew w4∧ixK p n (a:Int) 1 fun a4=> ∃w5,StoreAt a4 0 [.int .i64 x2] w4 w5∧D j w5)
     (ixK p n j 1 fun a1=> ∃x1,w1.drew.drew.cell? a1=some (.int .i64 x1)∧ixK p n (i:Int) 1 fun a2=> ∃x2,w1.drew.drew.cell? a2=some (.int .i64 x2)∧
       ixK p n (i:Int) 1 fun a3=> ∃w4,StoreAt a3 0 [.int .i64 x1] w1.drew.drew w4∧ixK p n j 1 fun a4=> ∃w5,StoreAt a4 0 [.int .i64 x2] w4 w5∧N j w5)):=by
 have hbd:=X.bd
 refine ⟨fun J w' k=> ∃j:Nat,J=j∧i≤j+1∧j≤j0∧k=j∧St w0 p c l0 w' l∧PartI cf l a b i j,⟨_,j0,rfl,hi,Nat.le_refl _,rfl,s,h⟩,?_⟩
 rintro J w1 k _ ⟨j,rfl,h1,h2,hk,s1,r1⟩
 have hn1:=X.len s1
 refine cnd_i (fun q=> ?_) (fun q=> ?_)
 · have q:i≤j:=by simp at q;omega
   refine X.cmp s1.drew j a rfl rfl (by omega) (by omega) fun w3 s3 _=> ?_
   refine cnd_i (fun q3=> ?_) (fun q3=> ?_)
   · have q3: ¬cf (l.getD j 0) (l.getD a 0)<0:=by simpa using q3
     refine ⟨_,?_,j - 1,wN (by omega) (by omega),by omega,by omega,rfl,s3,r1.lo,fun t t1 t2=> ?_⟩
     · omega
     · by_cases e:t=j
       · subst e;exact q3
       · exact r1.hi t (by omega) t2
   · have q3:cf (l.getD j 0) (l.getD a 0)<0:=by simpa using q3
     refine cnd_i (fun q=>by simp at q;omega) (fun _=> ?_)
     have hij:i≠j:=fun e=>hs (by omega) (by rw [e];exact q3)
     refine X.swap s3.drew j i rfl rfl (by omega) (by omega) fun w4 s4 _=> ?_
     exact hN w4 j (by omega) h2 r1 q3 s4
 · have q:j+1=i:=by simp at q;omega
   refine cnd_i (fun _=> ?_) (fun q=>by simp at q;omega)
   refine X.swap s1.drew.drew a j rfl rfl (by omega) (by omega) fun w4 s4 _=> ?_
   have e:j=i - 1:=by omega
   rw [e] at s4 r1 ⊢
   exact hD w4 r1 s4
theorem partition_ok (X:Cx w0 p n l0 fid fv cf) (s:St w0 p c l0 w l) (a b pv:Nat) (h1:a≤pv) (h2:pv<b) (hb:b≤n):
 Calls prog slices_partitionCmpFunc_int.id #[.slice p n c,.int .i64 a,.int .i64 b,.int .i64 pv,.func (.func fid) #[] fv] w fun e w'=> ∃ (m:Nat) (y:Bool) (l':List Int),e= .returned (.tuple #[.int .i64 m,.bool y])∧a≤m∧m<b∧St w0 p c l0 w' l'∧Sw a b l l'∧
  (∀k,a≤k→k<m→cf (l'.getD k 0) (l'.getD m 0)<0)∧(∀k,m<k→k<b→¬cf (l'.getD k 0) (l'.getD m 0)<0):=by
 refine slices_partitionCmpFunc_int.calls ?_
 have hbd:=X.bd
 have hn:=X.len s
 refine X.swap s.drew pv a rfl rfl (by omega) (by omega) fun w1 s1 _=> ?_
 have k1:Sw a b l (swp l a pv):= .one (by omega) (by omega) (by omega) (by omega) (by omega)
 generalize swp l a pv=l1 at s1 k1
 have hn1:=X.len s1
 have eb:i64.wrap ((b:Int) - 1)=((b - 1:Nat):Int):=wN (by omega) (by omega)
 simp only [eb]
 refine ⟨fun I w'=> ∃i:Nat,I=i∧a<i∧i≤b∧St w0 p c l0 w' l1∧PartI cf l1 a b i (b - 1)∧(i≤b - 1→¬cf (l1.getD i 0) (l1.getD a 0)<0),?_,?_⟩
 · refine ⟨fun I w' k=> ∃i:Nat,I=i∧a<i∧i≤b∧k=b - i∧St w0 p c l0 w' l1∧PartI cf l1 a b i (b - 1),⟨_,a+1,wN (by omega) (by omega),by omega,by omega,rfl,s1,fun k _ _=>by omega,fun k _ _=>by omega⟩,?_⟩
   rintro I w2 k _ ⟨i,rfl,g1,g2,rfl,s2,r2⟩
   refine cnd_i (fun q=> ?_) (fun q=> ⟨i,rfl,g1,g2,s2.drew,r2,fun _=>by simp at q;omega⟩)
   have q:i≤b - 1:=by simp at q;omega
   refine X.cmp s2.drew i a rfl rfl (by omega) (by omega) fun w3 s3 _=> ?_
   refine cnd_i (fun q3=> ?_) (fun q3=> ?_)
   · have q3:cf (l1.getD i 0) (l1.getD a 0)<0:=by simpa using q3
     refine ⟨_,?_,i+1,wN (by omega) (by omega),by omega,by omega,rfl,s3,fun t t1 t2=> ?_,r2.hi⟩
     · omega
     · by_cases e:t=i
       · subst e;exact q3
       · exact r2.lo t t1 (by omega)
   · have q3: ¬cf (l1.getD i 0) (l1.getD a 0)<0:=by simpa using q3
     exact ⟨i,rfl,g1,g2,s3,r2,fun _=>q3⟩
 rintro I w2 _ ⟨i,rfl,g1,g2,s2,r2,x2⟩
 refine ⟨fun J w'=> ∃j:Nat,J=j∧i≤j+1∧j<b∧St w0 p c l0 w' l1∧PartI cf l1 a b i j∧(i≤j→cf (l1.getD j 0) (l1.getD a 0)<0),?_,?_⟩
 · refine ⟨fun J w' k=> ∃j:Nat,J=j∧i≤j+1∧j<b∧k=j∧St w0 p c l0 w' l1∧PartI cf l1 a b i j,⟨_,b - 1,rfl,by omega,by omega,rfl,s2,r2⟩,?_⟩
   rintro J w3 k _ ⟨j,rfl,g3,g4,hk,s3,r3⟩
   refine cnd_i (fun q=> ?_) (fun q=> ⟨j,rfl,g3,g4,s3.drew,r3,fun _=>by simp at q;omega⟩)
   have q:i≤j:=by simp at q;omega
   refine X.cmp s3.drew j a rfl rfl (by omega) (by omega) fun w4 s4 _=> ?_
   refine cnd_i (fun q3=> ?_) (fun q3=> ?_)
   · have q3: ¬cf (l1.getD j 0) (l1.getD a 0)<0:=by simpa using q3
     refine ⟨_,?_,j - 1,wN (by omega) (by omega),by omega,by omega,rfl,s4,r3.lo,fun t t1 t2=> ?_⟩
     · omega
     · by_cases e:t=j
       · subst e;exact q3
       · exact r3.hi t (by omega) t2
   · have q3:cf (l1.getD j 0) (l1.getD a 0)<0:=by simpa using q3
     exact ⟨j,rfl,g3,g4,s4,r3,fun _=>q3⟩
 rintro J w3 _ ⟨j,rfl,g3,g4,s3,r3,x3⟩
 have fin: ∀ {w':World} {l2:List Int} {i:Nat} (y:Bool),a<i→i≤b→Sw a b l l2→PartI cf l2 a b i (i - 1)→St w0 p c l0 w' (swp l2 (i - 1) a)→
  ∃ (m:Nat) (y':Bool) (l':List Int),Ending.returned (.tuple #[.int .i64 ((i - 1:Nat):Int),.bool y])= .returned (.tuple #[.int .i64 m,.bool y'])∧a≤m∧m<b∧St w0 p c l0 w' l'∧Sw a b l l'∧
    (∀k,a≤k→k<m→cf (l'.getD k 0) (l'.getD m 0)<0)∧(∀k,m<k→k<b→¬cf (l'.getD k 0) (l'.getD m 0)<0):=by
  intro w' l2 i y q1 q2 k r s'
  have hl:n=(swp l2 (i - 1) a).length:=X.len s'
  rw [swp_len] at hl
  obtain ⟨d1,d2⟩:=PartI.done (j:=i - 1) (by rwa [show i - 1+1=i by omega]) (by omega) (by omega) (by omega) (l:=l2)
  exact ⟨i - 1,y,_,rfl,by omega,by omega,s',.step k (by omega) (by omega) (by omega) (by omega) (by omega),d1,d2⟩
 refine cnd_i (fun q=> ?_) (fun q=> ?_)
 · have q:j+1=i:=by simp at q;omega
   refine X.swap s3.drew a j rfl rfl (by omega) (by omega) fun w4 s4 _=> ?_
   have e:j=i - 1:=by omega
   rw [e] at s4 r3 ⊢
   exact fin true g1 g2 k1 r3 s4
 · have q:i≤j:=by simp at q;omega
   refine X.swap s3.drew j i rfl rfl (by omega) (by omega) fun w4 s4 _=> ?_
   have hij:i≠j:=fun e=>x2 (by omega) (by rw [e];exact x3 (by omega))
   have k4:Sw a b l (swp l1 i j):= .step k1 (by omega) (by omega) (by omega) (by omega) (by omega)
   have r4:=r3.swap (by omega) (by omega) g4 (by omega) (x2 (by omega)) (x3 q)
   generalize swp l1 i j=l2 at s4 k4 r4
   refine ⟨fun I J w' k=> ∃ (i j:Nat) (l2:List Int),I=i∧J=j∧a<i∧i≤j+1∧j<b∧k=j∧St w0 p c l0 w' l2∧Sw a b l l2∧PartI cf l2 a b i j,⟨_,i+1,j - 1,l2,wN (by omega) (by omega),wN (by omega) (by omega),by omega,by omega,by omega,rfl,s4,k4,r4⟩,?_⟩
   rintro I J w5 k _ ⟨i,j,l3,rfl,rfl,g5,g6,g7,hk,s5,k5,r5⟩
   have hn3:=X.len s5
   have hN: ∀ (i':Nat),a<i'→(i'≤j→¬cf (l3.getD i' 0) (l3.getD a 0)<0)→∀w' (j':Nat),i'<j'→j'≤j→PartI cf l3 a b i' j'→cf (l3.getD j' 0) (l3.getD a 0)<0→St w0 p c l0 w' (swp l3 i' j')→
    ∃k',k'<k∧∃ (i2 j2:Nat) (l2:List Int),i64.wrap ((i':Int)+1)=i2∧i64.wrap ((j':Int) - 1)=j2∧a<i2∧i2≤j2+1∧j2<b∧k'=j2∧St w0 p c l0 w' l2∧Sw a b l l2∧PartI cf l2 a b i2 j2:=by
    intro i' h1 h2 w' j' h3 h4 h5 h6 h7
    exact ⟨_,by omega,i'+1,j' - 1,_,wN (by omega) (by omega),wN (by omega) (by omega),by omega,by omega,by omega,rfl,h7,.step k5 (by omega) (by omega) (by omega) (by omega) (by omega),h5.swap h1 h3 (by omega) (by omega) (h2 (by omega)) h6⟩
   refine ⟨fun I w' k=> ∃i:Nat,I=i∧a<i∧i≤j+1∧k=j+1 - i∧St w0 p c l0 w' l3∧PartI cf l3 a b i j,⟨_,i,rfl,g5,g6,rfl,s5,r5⟩,?_⟩
   rintro I w6 k6 _ ⟨i',rfl,u1,u2,rfl,s6,r6⟩
   refine cnd_i (fun q=> ?_) (fun q=> ?_)
   · have q:i'≤j:=by simp at q;omega
     refine X.cmp s6.drew i' a rfl rfl (by omega) (by omega) fun w7 s7 _=> ?_
     refine cnd_i (fun q3=> ?_) (fun q3=> ?_)
     · have q3:cf (l3.getD i' 0) (l3.getD a 0)<0:=by simpa using q3
       refine ⟨_,?_,i'+1,wN (by omega) (by omega),by omega,by omega,rfl,s7,fun t t1 t2=> ?_,r6.hi⟩
       · omega
       · by_cases e:t=i'
         · subst e;exact q3
         · exact r6.lo t t1 (by omega)
     · have q3: ¬cf (l3.getD i' 0) (l3.getD a 0)<0:=by simpa using q3
       exact part_tail X s7 r6 u1 u2 g7 hb (fun _=>q3) (fun w' r s'=>fin false u1 (by omega) k5 r s') (hN i' u1 fun _=>q3)
   · have q: ¬i'≤j:=by simp at q;omega
     exact part_tail X s6.drew r6 u1 u2 g7 hb (fun e=>absurd e q) (fun w' r s'=>fin false u1 (by omega) k5 r s') (hN i' u1 fun e=>absurd e q)
end
section
open Go.SoP
variable {w0 w:World} {p:Option Addr} {n c:Nat} {l0 l:List Int} {fid:FuncId} {fv:Array Value} {cf:Int→Int→Int}
theorem equal_tail (X:Cx w0 p n l0 fid fv cf) (s:St w0 p c l0 w l) {a b i j0:Nat} (h:PartE cf l a b i j0) (ha:a<i) (hi:i≤j0+1) (hj:j0<b) (hb:b≤n) (hs:i≤j0→cf (l.getD a 0) (l.getD i 0)<0) {D:World→Prop} {N:Int→World→Prop}
 (hD: ∀w',PartE cf l a b i (i - 1)→St w0 p c l0 w' l→D w')
 (hN: ∀w' (j:Nat),i<j→j≤j0→PartE cf l a b i j→¬cf (l.getD a 0) (l.getD j 0)<0→St w0 p c l0 w' (swp l i j)→N j w'):
 ∃I:Int→World→Nat→Prop,(∃k,I j0 w k)∧∀ (j:Int) (w1:World) (k:Nat) (_:Fr),I j w1 k→
  cnd (decide ((i:Int)≤j))
   (ixK p n (a:Int) 1 fun a1=> ∃x1,w1.drew.cell? a1=some (.int .i64 x1)∧ixK p n j 1 fun a2=> ∃x2,w1.drew.cell? a2=some (.int .i64 x2)∧
     cnd (entB prog fid) (Calls prog fid (#[]++ #[.int .i64 x1,.int .i64 x2]++fv) w1.drew fun e w3=> ∃r:Int,e= .returned (.int .i64 r)∧
      cnd (decide (r< (0:Int))) (∃k',k'<k∧I (i64.wrap (j - (1:Int))) w3 k')
       (cnd (decide ((i:Int)>j)) (D w3)
         (ixK p n j 1 fun a1=> ∃x1,w3.drew.cell? a1=some (.int .i64 x1)∧ixK p n (i:Int) 1 fun a2=> ∃x2,w3.drew.cell? a2=some (.int .i64 x2)∧
           ixK p n (i:Int) 1 fun a3=> ∃w4,StoreAt a3 0 [.int .i64 x1] w3.drew w4∧ixK p n j 1 fun a4=> ∃w5,StoreAt a4 0 [.int .i64 x2] w4 w5∧N j w5))) False)
   (cnd (decide ((i:Int)>j)) (D w1.drew)
     (ixK p n j 1 fun a1=> ∃x1,w1.drew.drew.cell? a1=some (.int .i64 x1)∧ixK p n (i:Int) 1 fun a2=> ∃x2,w1.drew.drew.cell? a2=some (.int .i64 x2)∧
       ixK p n (i:Int) 1 fun a3=> ∃w4,StoreAt a3 0 [.int .i64 x1] w1.drew.drew w4∧ixK p n j 1 fun a4=> ∃w5,StoreAt a4 0 [.int .i64 x2] w4 w5∧N j w5)):=by
 have hbd:=X.bd
 refine ⟨fun J w' k=> ∃j:Nat,J=j∧i≤j+1∧j≤j0∧k=j∧St w0 p c l0 w' l∧PartE cf l a b i j,⟨_,j0,rfl,hi,Nat.le_refl _,rfl,s,h⟩,?_⟩
 rintro J w1 k _ ⟨j,rfl,h1,h2,hk,s1,r1⟩
 have hn1:=X.len s1
 refine cnd_i (fun q=> ?_) (fun q=> ?_)
 · have q:i≤j:=by simp at q;omega
   refine X.cmp s1.drew a j rfl rfl (by omega) (by omega) fun w3 s3 _=> ?_
   refine cnd_i (fun q3=> ?_) (fun q3=> ?_)
   · have q3:cf (l.getD a 0) (l.getD j 0)<0:=by simpa using q3
     refine ⟨_,?_,j - 1,wN (by omega) (by omega),by omega,by omega,rfl,s3,r1.lo,fun t t1 t2=> ?_⟩
     · omega
     · by_cases e:t=j
       · subst e;exact q3
       · exact r1.hi t (by omega) t2
   · have q3: ¬cf (l.getD a 0) (l.getD j 0)<0:=by simpa using q3
     refine cnd_i (fun q=>by simp at q;omega) (fun _=> ?_)
     have hij:i≠j:=fun e=>by subst e;exact q3 (hs (by omega))
     refine X.swap s3.drew j i rfl rfl (by omega) (by omega) fun w4 s4 _=> ?_
     exact hN w4 j (by omega) h2 r1 q3 s4
 · have q:j+1=i:=by simp at q;omega
   refine cnd_i (fun _=> ?_) (fun q=>by simp at q;omega)
   have e:j=i - 1:=by omega
   rw [e] at r1
   exact hD _ r1 s1.drew
theorem partitionEqual_ok (X:Cx w0 p n l0 fid fv cf) (s:St w0 p c l0 w l) (a b pv:Nat) (h1:a≤pv) (h2:pv<b) (hb:b≤n):
 Calls prog slices_partitionEqualCmpFunc_int.id #[.slice p n c,.int .i64 a,.int .i64 b,.int .i64 pv,.func (.func fid) #[] fv] w fun e w'=> ∃ (m:Nat) (l':List Int),e= .returned (.int .i64 m)∧a<m∧m≤b∧St w0 p c l0 w' l'∧Sw a b l l'∧l'.getD a 0=l.getD pv 0∧
  (∀k,a<k→k<m→¬cf (l'.getD a 0) (l'.getD k 0)<0)∧(∀k,m≤k→k<b→cf (l'.getD a 0) (l'.getD k 0)<0):=by
 refine slices_partitionEqualCmpFunc_int.calls ?_
 have hbd:=X.bd
 have hn:=X.len s
 refine X.swap s.drew pv a rfl rfl (by omega) (by omega) fun w1 s1 _=> ?_
 have k1:Sw a b l (swp l a pv):= .one (by omega) (by omega) (by omega) (by omega) (by omega)
 have a1:(swp l a pv).getD a 0=l.getD pv 0:=by
  rw [swp_get (by omega) (by omega)]
  by_cases e:a=pv
  · rw [if_pos e,e]
  · rw [if_neg e,if_pos (Eq.refl a)]
 generalize swp l a pv=l1 at s1 k1 a1
 refine ⟨fun I J w' k=> ∃ (i j:Nat) (l2:List Int),I=i∧J=j∧a<i∧i≤j+1∧j<b∧k=j∧St w0 p c l0 w' l2∧Sw a b l l2∧l2.getD a 0=l.getD pv 0∧PartE cf l2 a b i j,⟨_,a+1,b - 1,l1,wN (by omega) (by omega),wN (by omega) (by omega),by omega,by omega,by omega,rfl,s1,k1,a1,fun k _ _=>by omega,fun k _ _=>by omega⟩,?_⟩
 rintro I J w5 k _ ⟨i,j,l3,rfl,rfl,g5,g6,g7,hk,s5,k5,a5,r5⟩
 have hn3:=X.len s5
 have hN: ∀ (i':Nat),a<i'→(i'≤j→cf (l3.getD a 0) (l3.getD i' 0)<0)→∀w' (j':Nat),i'<j'→j'≤j→PartE cf l3 a b i' j'→¬cf (l3.getD a 0) (l3.getD j' 0)<0→St w0 p c l0 w' (swp l3 i' j')→
  ∃k',k'<k∧∃ (i2 j2:Nat) (l2:List Int),i64.wrap ((i':Int)+1)=i2∧i64.wrap ((j':Int) - 1)=j2∧a<i2∧i2≤j2+1∧j2<b∧k'=j2∧St w0 p c l0 w' l2∧Sw a b l l2∧l2.getD a 0=l.getD pv 0∧PartE cf l2 a b i2 j2:=by
  intro i' h1 h2 w' j' h3 h4 h5 h6 h7
  refine ⟨_,?_,i'+1,j' - 1,_,wN (by omega) (by omega),wN (by omega) (by omega),by omega,by omega,by omega,rfl,h7,.step k5 (by omega) (by omega) (by omega) (by omega) (by omega),?_,h5.swap h1 h3 (by omega) (by omega) (h2 (by omega)) h6⟩
  · omega
  · rw [swp_get (by omega) (by omega),if_neg (by omega),if_neg (by omega),a5]
 have fin: ∀ (i':Nat),a<i'→i'≤j+1→∀w',PartE cf l3 a b i' (i' - 1)→St w0 p c l0 w' l3→∃ (m:Nat) (l':List Int),Ending.returned (.int .i64 (i':Int))= .returned (.int .i64 m)∧a<m∧m≤b∧St w0 p c l0 w' l'∧Sw a b l l'∧l'.getD a 0=l.getD pv 0∧
  (∀k,a<k→k<m→¬cf (l'.getD a 0) (l'.getD k 0)<0)∧(∀k,m≤k→k<b→cf (l'.getD a 0) (l'.getD k 0)<0):=
  fun i' u1 u2 w' r s'=> ⟨i',l3,rfl,u1,by omega,s',k5,a5,r.lo,fun k v1 v2=>r.hi k (by omega) v2⟩
 refine ⟨fun I w' k=> ∃i:Nat,I=i∧a<i∧i≤j+1∧k=j+1 - i∧St w0 p c l0 w' l3∧PartE cf l3 a b i j,⟨_,i,rfl,g5,g6,rfl,s5,r5⟩,?_⟩
 rintro I w6 k6 _ ⟨i',rfl,u1,u2,rfl,s6,r6⟩
 refine cnd_i (fun q=> ?_) (fun q=> ?_)
 · have q:i'≤j:=by simp at q;omega
   refine X.cmp s6.drew a i' rfl rfl (by omega) (by omega) fun w7 s7 _=> ?_
   refine cnd_i (fun q3=> ?_) (fun q3=> ?_)
   · have q3: ¬cf (l3.getD a 0) (l3.getD i' 0)<0:=by simpa using q3
     refine ⟨_,?_,i'+1,wN (by omega) (by omega),by omega,by omega,rfl,s7,fun t t1 t2=> ?_,r6.hi⟩
     · omega
     · by_cases e:t=i'
       · subst e;exact q3
       · exact r6.lo t t1 (by omega)
   · have q3:cf (l3.getD a 0) (l3.getD i' 0)<0:=by simpa using q3
     exact equal_tail X s7 r6 u1 u2 g7 hb (fun _=>q3) (fin i' u1 u2) (hN i' u1 fun _=>q3)
 · have q: ¬i'≤j:=by simp at q;omega
   exact equal_tail X s6.drew r6 u1 u2 g7 hb (fun e=>absurd e q) (fin i' u1 u2) (hN i' u1 fun e=>absurd e q)
def PreR (cf:Int→Int→Int) (l:List Int) (a b:Nat):Prop:=a=0∨∀k,a≤k→k<b→Le cf (l.getD (a - 1) 0) (l.getD k 0)
theorem PreR.sw {m:List Int} {a b:Nat} (h:PreR cf l a b) (s:Sw a b l m):PreR cf m a b:=by
 rcases Nat.eq_zero_or_pos a with e|e
 · exact .inl e
 · refine .inr fun k k1 k2=> ?_
   rw [s.out (k:=a - 1) (by omega)]
   exact s.all (P:=fun x=>Le cf (l.getD (a - 1) 0) x) (by rcases h with h|h;omega;exact h) k k1 k2
theorem partialInsertion_ok (X:Cx w0 p n l0 fid fv cf) (s:St w0 p c l0 w l) (a b:Nat) (hab:a<b) (hb:b≤n) (hp:PreR cf l a b):
 Calls prog slices_partialInsertionSortCmpFunc_int.id #[.slice p n c,.int .i64 a,.int .i64 b,.func (.func fid) #[] fv] w fun e w'=> ∃ (y:Bool) (l':List Int),e= .returned (.bool y)∧St w0 p c l0 w' l'∧Sw a b l l'∧(y=true→SortedR cf l' a b):=by
 refine slices_partialInsertionSortCmpFunc_int.calls ?_
 have hbd:=X.bd
 refine ⟨fun I J w' k=> ∃ (i j:Nat) (l1:List Int),I=i∧J=j∧a<i∧i≤b∧j≤5∧k=5 - j∧St w0 p c l0 w' l1∧Sw a b l l1∧SortedR cf l1 a i,⟨_,a+1,0,l,wN (by omega) (by omega),rfl,by omega,by omega,by omega,rfl,s,.refl l,fun x y _ _ _=>by omega⟩,?_⟩
 rintro I J w1 k _ ⟨i,j,l1,rfl,rfl,g1,g2,g3,rfl,s1,k1,r1⟩
 have hn1:=X.len s1
 refine cnd_i (fun q=> ?_) (fun q=> ⟨false,l1,rfl,s1,k1,fun e=>by simp at e⟩)
 have q:j<5:=by simp at q;omega
 refine ⟨fun I w'=> ∃i:Nat,I=i∧a<i∧i≤b∧St w0 p c l0 w' l1∧SortedR cf l1 a i∧(i<b→cf (l1.getD i 0) (l1.getD (i - 1) 0)<0),?_,?_⟩
 · refine ⟨fun I w' k=> ∃i:Nat,I=i∧a<i∧i≤b∧k=b - i∧St w0 p c l0 w' l1∧SortedR cf l1 a i,⟨_,i,rfl,g1,g2,rfl,s1,r1⟩,?_⟩
   clear q g1 g2 s1 r1
   rintro I w2 k _ ⟨i,rfl,g1,g2,rfl,s2,r2⟩
   refine cnd_i (fun q=> ?_) (fun q=> ⟨i,rfl,g1,g2,s2.drew,r2,fun _=>by simp at q;omega⟩)
   have q:i<b:=by simp at q;omega
   have e1:i64.wrap ((i:Int) - 1)=((i - 1:Nat):Int):=wN (by omega) (by omega)
   rw [e1]
   refine X.cmp s2.drew i (i - 1) rfl rfl (by omega) (by omega) fun w3 s3 _=> ?_
   refine cnd_i (fun q3=> ?_) (fun q3=> ?_)
   · have q3: ¬cf (l1.getD i 0) (l1.getD (i - 1) 0)<0:=by simpa using q3
     refine ⟨_,?_,i+1,wN (by omega) (by omega),by omega,by omega,rfl,s3,(InsI.start r2).done X.o (Nat.le_refl _) (.inr q3)⟩
     omega
   · exact ⟨i,rfl,g1,g2,s3,r2,fun _=>by simpa using q3⟩
 clear g1 g2 s1 r1 hn1
 rintro I w2 _ ⟨i,rfl,g1,g2,s2,r2,x2⟩
 have hn1:=X.len s2
 refine cnd_i (fun q2=> ?_) (fun q2=> ?_)
 · have q2:i=b:=by simp at q2;omega
   subst q2
   exact ⟨true,l1,rfl,s2,k1,fun _=>r2⟩
 have q2:i<b:=by simp at q2;omega
 refine cnd_i (fun _=> ⟨false,l1,rfl,s2,k1,fun e=>by simp at e⟩) (fun _=> ?_)
 have e1:i64.wrap ((i:Int) - 1)=((i - 1:Nat):Int):=wN (by omega) (by omega)
 have e2:i64.wrap ((i:Int) - a)=((i - a:Nat):Int):=wN (by omega) (by omega)
 have e3:i64.wrap ((b:Int) - i)=((b - i:Nat):Int):=wN (by omega) (by omega)
 simp only [e1,e2,e3]
 refine X.swap s2.drew (i - 1) i rfl rfl (by omega) (by omega) fun w3 s3 _=> ?_
 have k3:Sw a b l (swp l1 i (i - 1)):= .step k1 (by omega) (by omega) (by omega) (by omega) (by omega)
 have r3:InsI cf (swp l1 i (i - 1)) a i (i - 1):=(InsI.start r2).step X.o g1 (Nat.le_refl _) (by omega) (x2 q2)
 generalize swp l1 i (i - 1)=l3 at s3 k3 r3
 have hn3:=X.len s3
 have go: ∀ {w':World} {l4:List Int},St w0 p c l0 w' l4→Sw a b l l4→SortedR cf l4 a i→∃k',k'<5 - j∧∃ (i2 j2:Nat) (l1:List Int),(i:Int)=i2∧i64.wrap ((j:Int)+1)=j2∧a<i2∧i2≤b∧j2≤5∧k'=5 - j2∧St w0 p c l0 w' l1∧Sw a b l l1∧SortedR cf l1 a i2:=by
  intro w' l4 h1 h2 h3
  exact ⟨_,by omega,i,j+1,l4,rfl,wN (by omega) (by omega),g1,g2,by omega,rfl,h1,h2,h3⟩
 refine ⟨fun w'=> ∃l4:List Int,St w0 p c l0 w' l4∧Sw a b l l4∧SortedR cf l4 a i,cnd_i (fun q3=> ?_) (fun q3=> ?_),?_⟩
 · refine ⟨fun J w' k=> ∃ (j:Nat) (l4:List Int),J=j∧a≤j∧j<i∧k=j∧St w0 p c l0 w' l4∧Sw a b l l4∧InsI cf l4 a i j,⟨_,i - 1,l3,rfl,by omega,by omega,rfl,s3,k3,r3⟩,?_⟩
   rintro J w4 k _ ⟨j',l4,rfl,h1,h2,hk,s4,k4,r4⟩
   have hn4:=X.len s4
   have dn:(j'≤a∨¬cf (l4.getD j' 0) (l4.getD (j' - 1) 0)<0)→SortedR cf l4 a i:=fun h x y x1 x2 x3=>r4.done X.o (by omega) h x y x1 x2 (by omega)
   refine cnd_i (fun q4=> ?_) (fun q4=> ⟨l4,s4,k4,dn (.inl (by simp at q4;omega))⟩)
   have q4:1≤j':=by simp at q4;omega
   have e4:i64.wrap ((j':Int) - 1)=((j' - 1:Nat):Int):=wN (by omega) (by omega)
   simp only [e4]
   refine X.cmp s4.drew j' (j' - 1) rfl rfl (by omega) (by omega) fun w5 s5 _=> ?_
   refine cnd_i (fun q5=> ⟨l4,s5,k4,dn (.inr (by simpa using q5))⟩) (fun q5=> ?_)
   have q5:cf (l4.getD j' 0) (l4.getD (j' - 1) 0)<0:=by simpa using q5
   have hja:a<j':=by
    rcases Nat.lt_or_ge a j' with e|e
    · exact e
    · have ea:j'=a:=by omega
      subst ea
      rcases hp.sw k4 with h|h
      · omega
      · exact absurd q5 (h j' (Nat.le_refl _) hab)
   refine X.swap s5.drew (j' - 1) j' rfl rfl (by omega) (by omega) fun w6 s6 _=> ?_
   exact ⟨_,by omega,j' - 1,_,rfl,by omega,by omega,rfl,s6,.step k4 (by omega) (by omega) (by omega) (by omega) (by omega),r4.step X.o hja (by omega) (by omega) q5⟩
 · have q3:i=a+1:=by simp at q3;omega
   exact ⟨l3,s3,k3,fun x y x1 x2 x3=>r3.done X.o (by omega) (.inl (by omega)) x y x1 x2 (by omega)⟩
 · rintro w4 _ ⟨l4,s4,k4,r4⟩
   have hn4:=X.len s4
   refine cnd_i (fun q3=> ?_) (fun q3=>go s4 k4 r4)
   refine ⟨fun J w' k=> ∃ (j:Nat) (l5:List Int),J=j∧i<j∧j≤b∧k=b - j∧St w0 p c l0 w' l5∧Sw a b l l5∧SortedR cf l5 a i,⟨_,i+1,l4,wN (by omega) (by omega),by omega,by omega,rfl,s4,k4,r4⟩,?_⟩
   rintro J w5 k _ ⟨j',l5,rfl,h1,h2,rfl,s5,k5,r5⟩
   have hn5:=X.len s5
   refine cnd_i (fun q5=> ?_) (fun q5=>go s5 k5 r5)
   have q5:j'<b:=by simp at q5;omega
   have e4:i64.wrap ((j':Int) - 1)=((j' - 1:Nat):Int):=wN (by omega) (by omega)
   simp only [e4]
   refine X.cmp s5.drew j' (j' - 1) rfl rfl (by omega) (by omega) fun w6 s6 _=> ?_
   refine cnd_i (fun q6=>go s6 k5 r5) (fun q6=> ?_)
   refine X.swap s6.drew (j' - 1) j' rfl rfl (by omega) (by omega) fun w7 s7 _=> ?_
   refine ⟨_,?_,j'+1,_,wN (by omega) (by omega),by omega,by omega,rfl,s7,.step k5 (by omega) (by omega) (by omega) (by omega) (by omega),r5.out (.one (a:=i) (b:=b) (by omega) (by omega) (by omega) (by omega) (by omega)) (.inl (Nat.le_refl _))⟩
   omega
end
section
open Go.Luby
theorem tab_at: ∀j:Nat,j<256→strtab0[j]? =some (UInt8.ofNat (bl j)):=by
 decide+kernel
theorem bl_div (n s:Nat) (h:2 ^ s≤n):bl n=s+bl (n / 2 ^ s):=by
 have hp:=Nat.two_pow_pos s
 have hq:0<n / 2 ^ s:=Nat.div_pos h hp
 obtain ⟨g1,g2⟩:=bl_le hq
 have g3:=bl_lt (n / 2 ^ s)
 refine bl_uniq ?_ (.inr ?_)
 · rw [Nat.pow_add]
   have:=(Nat.div_lt_iff_lt_mul hp).1 g3
   rwa [Nat.mul_comm] at this
 · have:s+bl (n / 2 ^ s) - 1=s+ (bl (n / 2 ^ s) - 1):=by omega
   rw [this,Nat.pow_add]
   have:=(Nat.le_div_iff_mul_le hp).1 g2
   rwa [Nat.mul_comm] at this
theorem bl_small {n:Nat} (h:n<256):bl n≤8:=by
 rcases Nat.eq_zero_or_pos n with h0|h0
 · subst h0;decide
 · obtain ⟨g1,g2⟩:=bl_le h0
   rcases Nat.lt_or_ge 8 (bl n) with h'|h'
   · have:2 ^ 8≤2 ^ (bl n - 1):=Nat.pow_le_pow_right (by omega) (by omega)
     omega
   · exact h'
theorem fd32 (n:Nat):(n:Int).fdiv (2 ^ (min (32:Int).toNat (IntKind.bits .u64)))=((n / 4294967296:Nat):Int):=by
 show (n:Int).fdiv 4294967296=_
 rw [Int.fdiv_eq_ediv_of_nonneg _ (by omega)]
 omega
theorem fd16 (n:Nat):(n:Int).fdiv (2 ^ (min (16:Int).toNat (IntKind.bits .u64)))=((n / 65536:Nat):Int):=by
 show (n:Int).fdiv 65536=_
 rw [Int.fdiv_eq_ediv_of_nonneg _ (by omega)]
 omega
theorem fd8 (n:Nat):(n:Int).fdiv (2 ^ (min (8:Int).toNat (IntKind.bits .u64)))=((n / 256:Nat):Int):=by
 show (n:Int).fdiv 256=_
 rw [Int.fdiv_eq_ediv_of_nonneg _ (by omega)]
 omega
theorem tab_i {m:Nat} (hm:m<256) {K:UInt8→Prop} (hk: ∀b:UInt8,(b.toNat:Int)=(bl m:Int)→K b):
 ∃b,0≤(IntKind.u8.wrap (m:Int))∧strtab0[(IntKind.u8.wrap (m:Int)).toNat]? =some b∧K b:=by
 rw [wrapU8_of (by omega) (by omega)]
 refine ⟨UInt8.ofNat (bl m),by omega,?_,hk _ ?_⟩
 · rw [Int.toNat_natCast];exact tab_at m hm
 · have:=bl_small hm
   simp
   omega
theorem len64 (n:Nat) (hn:n<18446744073709551616) (w:World):Calls prog bits_Len64.id #[.int .u64 n] w fun e w'=>e= .returned (.int .i64 (bl n))∧Same w w':=by
 refine bits_Len64.calls ?_
 unfold bits_Len64.w
 simp only [fd32,fd16,fd8,ge_iff_le]
 have fin: ∀ (x:Int),x=(bl n:Int)→(Ending.returned (.int .i64 x)= .returned (.int .i64 (bl n))∧Same w w):=fun x hx=> ⟨by rw [hx],Same.refl w⟩
 have d32:4294967296≤n→bl n=32+bl (n / 4294967296):=fun h=>bl_div n 32 h
 have d16: ∀m,65536≤m→bl m=16+bl (m / 65536):=fun m h=>bl_div m 16 h
 have d8: ∀m,256≤m→bl m=8+bl (m / 256):=fun m h=>bl_div m 8 h
 have w1: ∀ {x:Int},0≤x→x<1000→i64.wrap x=x:=fun h1 h2=>wrap64_of (by omega) (by omega)
 refine cnd_i (fun h1=> ?_) (fun h1=> ?_)<;>simp only [decide_eq_true_eq,decide_eq_false_iff_not] at h1
 · refine ⟨by decide,cnd_i (fun h2=> ?_) (fun h2=> ?_)⟩<;>simp only [decide_eq_true_eq,decide_eq_false_iff_not] at h2
   · refine ⟨by decide,cnd_i (fun h3=> ?_) (fun h3=> ?_)⟩<;>simp only [decide_eq_true_eq,decide_eq_false_iff_not] at h3
     · refine ⟨by decide,tab_i (by omega) fun b hb=>fin _ ?_⟩
       have e1:=d32 (by omega);have e2:=d16 (n / 4294967296) (by omega);have e3:=d8 (n / 4294967296 / 65536) (by omega)
       have:=bl_small (n:=n / 4294967296 / 65536 / 256) (by omega)
       rw [hb,w1 (x:=32+16) (by omega) (by omega),w1 (x:=32+16+8) (by omega) (by omega),w1 (x:=(bl _:Int)) (by omega) (by omega),w1 (by omega) (by omega)]
       omega
     · refine tab_i (by omega) fun b hb=>fin _ ?_
       have e1:=d32 (by omega);have e2:=d16 (n / 4294967296) (by omega)
       have:=bl_small (n:=n / 4294967296 / 65536) (by omega)
       rw [hb,w1 (x:=32+16) (by omega) (by omega),w1 (x:=(bl _:Int)) (by omega) (by omega),w1 (by omega) (by omega)]
       omega
   · refine cnd_i (fun h3=> ?_) (fun h3=> ?_)<;>simp only [decide_eq_true_eq,decide_eq_false_iff_not] at h3
     · refine ⟨by decide,tab_i (by omega) fun b hb=>fin _ ?_⟩
       have e1:=d32 (by omega);have e3:=d8 (n / 4294967296) (by omega)
       have:=bl_small (n:=n / 4294967296 / 256) (by omega)
       rw [hb,w1 (x:=32+8) (by omega) (by omega),w1 (x:=(bl _:Int)) (by omega) (by omega),w1 (by omega) (by omega)]
       omega
     · refine tab_i (by omega) fun b hb=>fin _ ?_
       have e1:=d32 (by omega)
       have:=bl_small (n:=n / 4294967296) (by omega)
       rw [hb,w1 (x:=(bl _:Int)) (by omega) (by omega),w1 (by omega) (by omega)]
       omega
 · refine cnd_i (fun h2=> ?_) (fun h2=> ?_)<;>simp only [decide_eq_true_eq,decide_eq_false_iff_not] at h2
   · refine ⟨by decide,cnd_i (fun h3=> ?_) (fun h3=> ?_)⟩<;>simp only [decide_eq_true_eq,decide_eq_false_iff_not] at h3
     · refine ⟨by decide,tab_i (by omega) fun b hb=>fin _ ?_⟩
       have e2:=d16 n (by omega);have e3:=d8 (n / 65536) (by omega)
       have:=bl_small (n:=n / 65536 / 256) (by omega)
       rw [hb,w1 (x:=0+16) (by omega) (by omega),w1 (x:=0+16+8) (by omega) (by omega),w1 (x:=(bl _:Int)) (by omega) (by omega),w1 (by omega) (by omega)]
       omega
     · refine tab_i (by omega) fun b hb=>fin _ ?_
       have e2:=d16 n (by omega)
       have:=bl_small (n:=n / 65536) (by omega)
       rw [hb,w1 (x:=0+16) (by omega) (by omega),w1 (x:=(bl _:Int)) (by omega) (by omega),w1 (by omega) (by omega)]
       omega
   · refine cnd_i (fun h3=> ?_) (fun h3=> ?_)<;>simp only [decide_eq_true_eq,decide_eq_false_iff_not] at h3
     · refine ⟨by decide,tab_i (by omega) fun b hb=>fin _ ?_⟩
       have e3:=d8 n (by omega)
       have:=bl_small (n:=n / 256) (by omega)
       rw [hb,w1 (x:=0+8) (by omega) (by omega),w1 (x:=(bl _:Int)) (by omega) (by omega),w1 (by omega) (by omega)]
       omega
     · refine tab_i (by omega) fun b hb=>fin _ ?_
       have:=bl_small (n:=n) (by omega)
       rw [hb,w1 (x:=(bl _:Int)) (by omega) (by omega),w1 (by omega) (by omega)]
       omega
theorem len_spec (n:Nat) (hn:n<18446744073709551616) (w:World):Calls prog bits_Len.id #[.int .u64 n] w fun e w'=>e= .returned (.int .i64 (bl n))∧Same w w':=by
 refine bits_Len.calls ?_
 unfold bits_Len.w
 refine (len64 n hn w).mono ?_
 rintro e w' ⟨rfl,hw⟩
 exact ⟨_,rfl,rfl,hw⟩
end
section
open Go.SoP Go.Luby
variable {w0 w:World} {p:Option Addr} {n c:Nat} {l0 l:List Int} {fid:FuncId} {fv:Array Value} {cf:Int→Int→Int}
theorem reverseRange_ok (X:Cx w0 p n l0 fid fv cf) (s:St w0 p c l0 w l) (a b:Nat) (hab:a<b) (hb:b≤n):
 Calls prog slices_reverseRangeCmpFunc_int.id #[.slice p n c,.int .i64 a,.int .i64 b,.func (.func fid) #[] fv] w fun e w'=>e= .returned (.tuple #[])∧∃l',St w0 p c l0 w' l'∧Sw a b l l':=by
 refine slices_reverseRangeCmpFunc_int.calls ?_
 have hbd:=X.bd
 refine ⟨fun I J w' k=> ∃ (i j:Nat) (l1:List Int),I=i∧J=j∧a≤i∧i≤j+1∧j<b∧k=j∧St w0 p c l0 w' l1∧Sw a b l l1,⟨_,a,b - 1,l,rfl,wN (by omega) (by omega),by omega,by omega,by omega,rfl,s,.refl l⟩,?_⟩
 rintro I J w1 k _ ⟨i,j,l1,rfl,rfl,g1,g2,g3,hk,s1,k1⟩
 have hn1:=X.len s1
 refine cnd_i (fun q=> ?_) (fun q=> ⟨rfl,l1,s1,k1⟩)
 have q:i<j:=by simpa using q
 refine X.swap s1.drew j i rfl rfl (by omega) (by omega) fun w2 s2 _=> ?_
 refine ⟨_,?_,i+1,j - 1,_,wN (by omega) (by omega),wN (by omega) (by omega),by omega,by omega,by omega,rfl,s2,.step k1 (by omega) (by omega) (by omega) (by omega) (by omega)⟩
 omega
structure StN (w0:World) (p:Option Addr) (c:Nat) (l0:List Int) (nb:Nat) (w:World) (l:List Int):Prop where
 s:St w0 p c l0 w l
 h: ∃x:Int,Has w nb #[.int .i64 x]
 ne:blk p≠some nb
 ge:w0.heap.size≤nb
theorem StN.grow {nb:Nat} {w':World} (t:StN w0 p c l0 nb w l) (g:Grow w w'):StN w0 p c l0 nb w' l:=
 ⟨t.s.grow g,by obtain ⟨x,h⟩:=t.h;exact ⟨x,h.grow g⟩,t.ne,t.ge⟩
theorem order2_ok (X:Cx w0 p n l0 fid fv cf) {nb:Nat} (t:StN w0 p c l0 nb w l) (x y:Nat) (hx:x<n) (hy:y<n):
 Calls prog slices_order2CmpFunc_int.id #[.slice p n c,.int .i64 x,.int .i64 y,.pointer (some ⟨nb,0,none⟩),.func (.func fid) #[] fv] w fun e w'=> ∃u v:Nat,e= .returned (.tuple #[.int .i64 u,.int .i64 v])∧(u=x∧v=y∨u=y∧v=x)∧StN w0 p c l0 nb w' l:=by
 refine slices_order2CmpFunc_int.calls ?_
 refine X.cmp t.s.drew y x rfl rfl hy hx fun w1 s1 g1=> ?_
 have t1:StN w0 p c l0 nb w1 l:=t.grow (Mod.trans (Mod.refl w).drew g1)
 refine cnd_i (fun _=> ?_) (fun _=> ⟨x,y,rfl,.inl ⟨rfl,rfl⟩,t1⟩)
 obtain ⟨z,hz⟩:=t1.h
 refine ⟨_,rfl,z,cell_of hz rfl,_,rfl,?_⟩
 refine store_i hz rfl rfl fun w2 h2 m2=> ⟨y,x,rfl,.inr ⟨rfl,rfl⟩,⟨t1.s.o.keep m2 fun b hb e=>t1.ne (by rw [hb,e]),t1.s.m.then m2 fun b hb e=>by have:=t1.ge;omega,t1.s.pm⟩,⟨_,h2⟩,t1.ne,t1.ge⟩
theorem median_ok (X:Cx w0 p n l0 fid fv cf) {nb:Nat} (t:StN w0 p c l0 nb w l) (x y z:Nat) (hx:x<n) (hy:y<n) (hz:z<n):
 Calls prog slices_medianCmpFunc_int.id #[.slice p n c,.int .i64 x,.int .i64 y,.int .i64 z,.pointer (some ⟨nb,0,none⟩),.func (.func fid) #[] fv] w fun e w'=> ∃u:Nat,e= .returned (.int .i64 u)∧(u=x∨u=y∨u=z)∧StN w0 p c l0 nb w' l:=by
 refine slices_medianCmpFunc_int.calls ?_
 refine (order2_ok X t x y hx hy).mono ?_
 rintro e w1 ⟨u1,v1,rfl,h1,t1⟩
 refine ⟨_,_,rfl,(order2_ok X t1 v1 z (by omega) hz).mono ?_⟩
 rintro e w2 ⟨u2,v2,rfl,h2,t2⟩
 refine ⟨_,_,rfl,(order2_ok X t2 u1 u2 (by omega) (by omega)).mono ?_⟩
 rintro e w3 ⟨u3,v3,rfl,h3,t3⟩
 exact ⟨_,_,rfl,v3,rfl,by omega,t3⟩
theorem medianAdjacent_ok (X:Cx w0 p n l0 fid fv cf) {nb:Nat} (t:StN w0 p c l0 nb w l) (x:Nat) (hx:1≤x) (hx2:x+1<n):
 Calls prog slices_medianAdjacentCmpFunc_int.id #[.slice p n c,.int .i64 x,.pointer (some ⟨nb,0,none⟩),.func (.func fid) #[] fv] w fun e w'=> ∃u:Nat,e= .returned (.int .i64 u)∧x≤u+1∧u≤x+1∧StN w0 p c l0 nb w' l:=by
 refine slices_medianAdjacentCmpFunc_int.calls ?_
 have hbd:=X.bd
 unfold slices_medianAdjacentCmpFunc_int.w
 have e1:i64.wrap ((x:Int) - 1)=((x - 1:Nat):Int):=wN (by omega) (by omega)
 have e2:i64.wrap ((x:Int)+1)=((x+1:Nat):Int):=wN (by omega) (by omega)
 rw [e1,e2]
 refine (median_ok X t (x - 1) x (x+1) (by omega) (by omega) hx2).mono ?_
 rintro e w1 ⟨u,rfl,h1,t1⟩
 exact ⟨_,rfl,u,rfl,by omega,by omega,t1⟩
theorem choosePivot_ok (X:Cx w0 p n l0 fid fv cf) (s:St w0 p c l0 w l) (a b:Nat) (hab:a+8≤b) (hb:b≤n):
 Calls prog slices_choosePivotCmpFunc_int.id #[.slice p n c,.int .i64 a,.int .i64 b,.func (.func fid) #[] fv] w fun e w'=> ∃ (pv:Nat) (h:Int),e= .returned (.tuple #[.int .i64 pv,.int .i64 h])∧a≤pv∧pv<b∧St w0 p c l0 w' l:=by
 refine slices_choosePivotCmpFunc_int.calls ?_
 have hbd:=X.bd
 intro nb w1 hw1
 have hlt:=s.o.lt
 have t1:StN w0 p c l0 nb w1 l:=⟨s.grow hw1.mod,⟨0,hw1.has⟩,fun e=>by have:=hlt nb e;have:=hw1.num;omega,by have:=s.m.size;have:=hw1.num;omega⟩
 have e0:i64.wrap ((b:Int) - a)=((b - a:Nat):Int):=wN (by omega) (by omega)
 have e1:i64.wrap ((((b - a:Nat):Int)).tdiv 4)=(((b - a) / 4:Nat):Int):=wN (by rw [Int.tdiv_eq_ediv_of_nonneg (by omega)];omega) (by omega)
 have e2: ∀k:Nat,k≤3→i64.wrap ((((b - a) / 4:Nat):Int)* (k:Int))=(((b - a) / 4*k:Nat):Int):=fun k hk=>wN (by rw [Int.natCast_mul]) (by have:(b - a) / 4*k≤(b - a) / 4*3:=Nat.mul_le_mul_left _ hk;omega)
 have e3: ∀k:Nat,k≤3→i64.wrap ((a:Int)+ (((b - a) / 4*k:Nat):Int))=((a+ (b - a) / 4*k:Nat):Int):=fun k hk=>wN (by omega) (by have:(b - a) / 4*k≤(b - a) / 4*3:=Nat.mul_le_mul_left _ hk;omega)
 have a1:=e2 1 (by omega);have a2:=e2 2 (by omega);have a3:=e2 3 (by omega)
 have b1:=e3 1 (by omega);have b2:=e3 2 (by omega);have b3:=e3 3 (by omega)
 simp only [Int.cast_ofNat_Int] at a1 a2 a3
 simp only [e0,e1,a1,a2,a3,b1,b2,b3]
 refine ⟨by decide,by decide,by decide,cnd_i (fun q=>cnd_i (fun q2=> ?_) (fun q2=> ?_)) (fun q=>by simp at q;omega)⟩
 · have q2:50≤b - a:=by simp at q2;omega
   refine (medianAdjacent_ok X t1 _ (by omega) (by omega)).mono ?_
   rintro e w2 ⟨u1,rfl,h1,h2,t2⟩
   refine ⟨_,rfl,(medianAdjacent_ok X t2 _ (by omega) (by omega)).mono ?_⟩
   rintro e w3 ⟨u2,rfl,h3,h4,t3⟩
   refine ⟨_,rfl,(medianAdjacent_ok X t3 _ (by omega) (by omega)).mono ?_⟩
   rintro e w4 ⟨u3,rfl,h5,h6,t4⟩
   refine ⟨_,rfl,(median_ok X t4 u1 u2 u3 (by omega) (by omega) (by omega)).mono ?_⟩
   rintro e w5 ⟨u,rfl,h7,t5⟩
   obtain ⟨z,hz⟩:=t5.h
   refine ⟨_,rfl,z,cell_of hz rfl,cnd_i (fun _=> ?_) (fun _=>cnd_i (fun _=> ?_) (fun _=> ?_))⟩<;>exact ⟨u,_,rfl,by omega,by omega,t5.s⟩
 · refine (median_ok X t1 _ _ _ (by omega) (by omega) (by omega)).mono ?_
   rintro e w5 ⟨u,rfl,h7,t5⟩
   obtain ⟨z,hz⟩:=t5.h
   refine ⟨_,rfl,z,cell_of hz rfl,cnd_i (fun _=> ?_) (fun _=>cnd_i (fun _=> ?_) (fun _=> ?_))⟩<;>exact ⟨u,_,rfl,by omega,by omega,t5.s⟩
theorem next_ok {nb:Nat} {x:Int} (h:Has w nb #[.int .u64 x]):Calls prog slices_xorshift_Next.id #[.pointer (some ⟨nb,0,none⟩)] w fun e w'=> ∃r:Int,e= .returned (.int .u64 r)∧Has w' nb #[.int .u64 r]∧Mod (·=nb) w w':=by
 refine slices_xorshift_Next.calls ?_
 refine ⟨_,rfl,x,cell_of h.drew rfl,_,rfl,x,cell_of h.drew rfl,by decide,_,rfl,?_⟩
 refine store_i h.drew rfl rfl fun w1 h1 m1=> ?_
 refine ⟨_,rfl,_,cell_of h1.drew rfl,_,rfl,_,cell_of h1.drew rfl,by decide,_,rfl,?_⟩
 refine store_i h1.drew rfl rfl fun w2 h2 m2=> ?_
 refine ⟨_,rfl,_,cell_of h2.drew rfl,_,rfl,_,cell_of h2.drew rfl,by decide,_,rfl,?_⟩
 refine store_i h2.drew rfl rfl fun w3 h3 m3=> ?_
 refine ⟨_,rfl,_,cell_of h3 rfl,_,rfl,h3,?_⟩
 exact (((Mod.refl w).drew.trans m1).drew.trans m2).drew.trans m3
theorem nextPow_ok (k:Nat) (hk:1≤k) (hk2:k≤1152921504606846976):Calls prog slices_nextPowerOfTwo.id #[.int .i64 k] w fun e w'=> ∃r:Nat,e= .returned (.int .u64 r)∧1≤r∧r≤2*k∧Grow w w':=by
 refine slices_nextPowerOfTwo.calls ?_
 unfold slices_nextPowerOfTwo.w
 rw [wrapU64_of (by omega) (by omega)]
 refine (len_spec k (by omega) w).mono ?_
 rintro e w1 ⟨rfl,h1⟩
 obtain ⟨b1,b2⟩:=bl_le (n:=k) (by omega)
 have b3:=bl_bound (n:=k) (k:=61) (by omega)
 refine ⟨_,rfl,by omega,2 ^ bl k,?_,Nat.one_le_two_pow,?_,h1.mod⟩
 · have e1:min ((bl k:Int)).toNat (IntKind.bits .u64)=bl k:=by
    show min (bl k:Int).toNat 64=bl k
    omega
   have:2 ^ bl k≤2 ^ 61:=Nat.pow_le_pow_right (by omega) b3
   rw [e1,Int.one_mul]
   have e2:(2:Int) ^ bl k=((2 ^ bl k:Nat):Int):=by simp
   rw [e2]
   generalize 2 ^ bl k=x at*
   rw [wrapU64_of (by omega) (by omega)]
 · have:2 ^ bl k=2*2 ^ (bl k - 1):=by
    rw [← Nat.pow_succ',show (bl k - 1).succ=bl k by omega]
   omega
theorem and_le (x:Int) (m:Nat) (hm:m<4611686018427387904): ∃r:Nat,r≤m∧i64.wrap (IntKind.u64.wrap ((BitVec.ofInt (IntKind.bits .u64) x &&& BitVec.ofInt (IntKind.bits .u64) (m:Int)).toNat))=r:=by
 have h:(BitVec.ofInt (IntKind.bits .u64) x &&& BitVec.ofInt (IntKind.bits .u64) (m:Int)).toNat≤m:=by
  rw [BitVec.toNat_and]
  refine Nat.le_trans Nat.and_le_right ?_
  rw [BitVec.toNat_ofInt]
  show ((m:Int) % ((2 ^ 64:Nat):Int)).toNat≤m
  omega
 generalize (BitVec.ofInt (IntKind.bits .u64) x &&& BitVec.ofInt (IntKind.bits .u64) (m:Int)).toNat=r at h
 refine ⟨r,h,?_⟩
 rw [wrapU64_of (by omega) (by omega)]
 exact wN rfl (by omega)
theorem breakPatterns_ok (X:Cx w0 p n l0 fid fv cf) (s:St w0 p c l0 w l) (a b:Nat) (hab:a+8≤b) (hb:b≤n):
 Calls prog slices_breakPatternsCmpFunc_int.id #[.slice p n c,.int .i64 a,.int .i64 b,.func (.func fid) #[] fv] w fun e w'=>e= .returned (.tuple #[])∧∃l',St w0 p c l0 w' l'∧Sw a b l l':=by
 refine slices_breakPatternsCmpFunc_int.calls ?_
 have hbd:=X.bd
 have hmm:=X.hm
 have e0:i64.wrap ((b:Int) - a)=((b - a:Nat):Int):=wN (by omega) (by omega)
 have e1:i64.wrap ((((b - a:Nat):Int)).tdiv 4)=(((b - a) / 4:Nat):Int):=wN (by rw [Int.tdiv_eq_ediv_of_nonneg (by omega)];omega) (by omega)
 have e2:i64.wrap ((((b - a) / 4:Nat):Int)*2)=(((b - a) / 4*2:Nat):Int):=wN (by omega) (by omega)
 have e3:i64.wrap ((a:Int)+ (((b - a) / 4*2:Nat):Int))=((a+ (b - a) / 4*2:Nat):Int):=wN (by omega) (by omega)
 have e4:i64.wrap (((a+ (b - a) / 4*2:Nat):Int) - 1)=((a+ (b - a) / 4*2 - 1:Nat):Int):=wN (by omega) (by omega)
 have e5:i64.wrap (((a+ (b - a) / 4*2:Nat):Int)+1)=((a+ (b - a) / 4*2+1:Nat):Int):=wN (by omega) (by omega)
 unfold slices_breakPatternsCmpFunc_int.w
 simp only [e0,e1,e2,e3,e4,e5]
 refine cnd_i (fun _=> ?_) (fun q=>by simp at q;omega)
 intro nb w1 hw1
 have hlt:=s.o.lt
 have ne:blk p≠some nb:=fun e=>by have:=hlt nb e;have:=hw1.num;omega
 have ge:w0.heap.size≤nb:=by have:=s.m.size;have:=hw1.num;omega
 refine store_i hw1.has rfl rfl fun w2 h2 m2=> ?_
 have s2:St w0 p c l0 w2 l:=by
  have s1:=s.grow hw1.mod
  exact ⟨s1.o.keep m2 fun b hb e=>ne (by rw [hb,e]),s1.m.then m2 fun b hb e=>by omega,s1.pm⟩
 refine (nextPow_ok (b - a) (by omega) (by omega)).mono ?_
 rintro e w3 ⟨r,rfl,hr1,hr2,g3⟩
 have er:IntKind.u64.wrap ((r:Int) - 1)=((r - 1:Nat):Int):=by rw [wrapU64_of (by omega) (by omega)];omega
 refine ⟨_,rfl,?_⟩
 simp only [er]
 refine ⟨by decide,fun I w' k=> ∃ (i:Nat) (l1:List Int),I=i∧a+ (b - a) / 4*2 - 1≤i∧i≤a+ (b - a) / 4*2+2∧k=a+ (b - a) / 4*2+2 - i∧St w0 p c l0 w' l1∧Sw a b l l1∧∃x:Int,Has w' nb #[.int .u64 x],⟨_,_,l,rfl,Nat.le_refl _,by omega,rfl,s2.grow g3,.refl l,_,h2.grow g3⟩,?_⟩
 rintro I w4 k _ ⟨i,l1,rfl,g1,g2,rfl,s4,k4,x,h4⟩
 have hn1:=X.len s4
 refine ⟨by decide,cnd_i (fun q=> ?_) (fun q=> ⟨trivial,l1,s4,k4⟩)⟩
 have q:i≤a+ (b - a) / 4*2+1:=by simp at q;omega
 refine (next_ok h4).mono ?_
 rintro e w5 ⟨z,rfl,h5,m5⟩
 refine ⟨_,rfl,?_⟩
 obtain ⟨o,ho,eo⟩:=and_le z (r - 1) (by omega)
 rw [eo]
 have s5:St w0 p c l0 w5 l1:=⟨s4.o.keep m5 fun b hb e=>ne (by rw [hb,e]),s4.m.then m5 fun b hb e=>by omega,s4.pm⟩
 have nx: ∀ {w':World} {j:Nat},a≤j→j<b→St w0 p c l0 w' (swp l1 i j)→Mod (Bk p) w5.drew w'→∃k',k'<a+ (b - a) / 4*2+2 - i∧∃ (i2:Nat) (l1:List Int),i64.wrap ((i:Int)+1)=i2∧a+ (b - a) / 4*2 - 1≤i2∧i2≤a+ (b - a) / 4*2+2∧k'=a+ (b - a) / 4*2+2 - i2∧St w0 p c l0 w' l1∧Sw a b l l1∧∃x:Int,Has w' nb #[.int .u64 x]:=by
  intro w' j h1 h2 h3 h4
  exact ⟨_,by omega,i+1,_,wN (by omega) (by omega),by omega,by omega,rfl,h3,.step k4 (by omega) (by omega) h1 h2 (by omega),_,h5.drew.keep h4 ne⟩
 refine cnd_i (fun q2=> ?_) (fun q2=> ?_)
 · have q2:b - a≤o:=by simp at q2;omega
   have f1:i64.wrap ((o:Int) - ((b - a:Nat):Int))=((o - (b - a):Nat):Int):=wN (by omega) (by omega)
   have f2:i64.wrap ((a:Int)+ ((o - (b - a):Nat):Int))=((a+ (o - (b - a)):Nat):Int):=wN (by omega) (by omega)
   simp only [f1,f2]
   exact X.swap s5.drew _ i rfl rfl (by omega) (by omega) fun w6 s6 m6=>nx (by omega) (by omega) s6 m6
 · have q2:o<b - a:=by simp at q2;omega
   have f2:i64.wrap ((a:Int)+ (o:Int))=((a+o:Nat):Int):=wN (by omega) (by omega)
   simp only [f2]
   exact X.swap s5.drew _ i rfl rfl (by omega) (by omega) fun w6 s6 m6=>nx (by omega) (by omega) s6 m6
end
section
open Go.SoP Go.Luby
variable {w0 w:World} {p:Option Addr} {n c:Nat} {l0 l:List Int} {fid:FuncId} {fv:Array Value} {cf:Int→Int→Int}
theorem pdq_ok (X:Cx w0 p n l0 fid fv cf): ∀ (d:Nat) {w:World} {l:List Int} (a b:Nat) (lim:Int),St w0 p c l0 w l→a≤b→b≤n→b - a<d→PreR cf l a b→
 Calls prog slices_pdqsortCmpFunc_int.id #[.slice p n c,.int .i64 a,.int .i64 b,.int .i64 lim,.func (.func fid) #[] fv] w fun e w'=>e= .returned (.tuple #[])∧∃l',St w0 p c l0 w' l'∧Sw a b l l'∧SortedR cf l' a b:=by
 intro d
 induction d with
 |zero=>intro w l a b lim _ _ _ h;omega
 |succ d ih=>
 intro w l a b lim s hab hb hd hp
 refine slices_pdqsortCmpFunc_int.calls ?_
 have hbd:=X.bd
 refine ⟨fun A B _ _ _ w' k=> ∃ (a' b':Nat) (l1:List Int),A=a'∧B=b'∧a≤a'∧a'≤b'∧b'≤b∧k=b' - a'∧St w0 p c l0 w' l1∧Sw a b l l1∧DoneR cf l1 a b a' b'∧PreR cf l1 a' b',⟨_,a,b,l,rfl,rfl,Nat.le_refl _,hab,Nat.le_refl _,rfl,s,.refl l,fun i j h1 h2 h3 h4=>absurd ⟨h1,h3⟩ h4,hp⟩,?_⟩
 rintro A B lim1 wb wp w1 k _ ⟨a',b',l1,rfl,rfl,g1,g2,g3,rfl,s1,k1,d1,p1⟩
 have hn1:=X.len s1
 have sub: ∀ {u v:List Int},Sw a b l u→Sw a' b' u v→Sw a b l v:=fun h1 h2=>h1.trans (h2.mono g1 g3 (by have:=h1.len;have:=k1.len;omega)).1
 have e0:i64.wrap ((b':Int) - a')=((b' - a':Nat):Int):=wN (by omega) (by omega)
 simp only [e0]
 refine cnd_i (fun q=> ?_) (fun q=> ?_)
 · refine (insertion_ok X s1 a' b' (by omega) (by omega)).mono ?_
   rintro e w2 ⟨rfl,l2,s2,k2,r2⟩
   exact ⟨rfl,trivial,l2,s2,sub k1 k2,(d1.sw k2 g1 g3).full r2⟩
 have q:12<b' - a':=by simp at q;omega
 refine cnd_i (fun _=> ?_) (fun _=> ?_)
 · refine (heapSort_ok X s1 a' b' g2 (by omega)).mono ?_
   rintro e w2 ⟨rfl,l2,s2,k2,r2⟩
   exact ⟨rfl,trivial,l2,s2,sub k1 k2,(d1.sw k2 g1 g3).full r2⟩
 refine ⟨fun _ w'=> ∃l2:List Int,St w0 p c l0 w' l2∧Sw a' b' l1 l2,cnd_i (fun _=> ?_) (fun _=> ⟨l1,s1,.refl l1⟩),?_⟩
 · refine (breakPatterns_ok X s1 a' b' (by omega) (by omega)).mono ?_
   rintro e w2 ⟨rfl,l2,s2,k2⟩
   exact ⟨rfl,l2,s2,k2⟩
 rintro lim2 w2 _ ⟨l2,s2,k2⟩
 refine (choosePivot_ok X s2 a' b' (by omega) (by omega)).mono ?_
 rintro e w3 ⟨pv,hint,rfl,v1,v2,s3⟩
 refine ⟨_,_,rfl,fun P _ w'=> ∃ (pv:Nat) (l3:List Int),P=pv∧a'≤pv∧pv<b'∧St w0 p c l0 w' l3∧Sw a' b' l1 l3,cnd_i (fun _=> ?_) (fun _=> ⟨pv,l2,rfl,v1,v2,s3,k2⟩),?_⟩
 · refine (reverseRange_ok X s3 a' b' (by omega) (by omega)).mono ?_
   rintro e w4 ⟨rfl,l4,s4,k4⟩
   refine ⟨rfl,b' - 1 - (pv - a'),l4,?_,by omega,by omega,s4,k2.trans k4⟩
   have f1:i64.wrap ((b':Int) - 1)=((b' - 1:Nat):Int):=wN (by omega) (by omega)
   have f2:i64.wrap ((pv:Int) - a')=((pv - a':Nat):Int):=wN (by omega) (by omega)
   rw [f1,f2]
   exact wN (by omega) (by omega)
 clear v1 v2 s3 k2 s2
 rintro P hint2 w4 _ ⟨pv,l3,rfl,v1,v2,s4,k3⟩
 refine ⟨fun w'=> ∃l4:List Int,St w0 p c l0 w' l4∧Sw a' b' l1 l4,cnd_i (fun _=>cnd_i (fun _=>cnd_i (fun _=> ?_) (fun _=> ⟨l3,s4,k3⟩)) (fun _=> ⟨l3,s4,k3⟩)) (fun _=> ⟨l3,s4,k3⟩),?_⟩
 · refine (partialInsertion_ok X s4 a' b' (by omega) (by omega) (p1.sw k3)).mono ?_
   rintro e w5 ⟨y,l5,rfl,s5,k5,r5⟩
   have k35:=k3.trans k5
   exact ⟨y,rfl,cnd_i (fun hy=> ⟨trivial,l5,s5,sub k1 k35,(d1.sw k35 g1 g3).full (r5 hy)⟩) (fun _=> ⟨l5,s5,k35⟩)⟩
 clear s4 k3
 rintro w5 _ ⟨l5,s5,k5⟩
 have d5:=d1.sw k5 g1 g3
 have p5:=p1.sw k5
 have k15:=sub k1 k5
 clear d1 p1 k1 k5 s1
 have hn5:=X.len s5
 have after: ∀ {w':World} {l6:List Int} {m:Nat} {y:Bool} {Q:Bool→Bool→Bool},a'≤m→m<b'→St w0 p c l0 w' l6→Sw a' b' l5 l6→
  (∀k,a'≤k→k<m→cf (l6.getD k 0) (l6.getD m 0)<0)→(∀k,m<k→k<b'→¬cf (l6.getD k 0) (l6.getD m 0)<0)→
  (Calls prog slices_pdqsortCmpFunc_int.id #[.slice p n c,.int .i64 a',.int .i64 m,.int .i64 lim2,.func (.func fid) #[] fv] w' fun e w7=>e= .returned (.tuple #[])∧
    ∃k',k'<b' - a'∧∃ (a2 b2:Nat) (l1:List Int),i64.wrap ((m:Int)+1)=a2∧(b':Int)=b2∧a≤a2∧a2≤b2∧b2≤b∧k'=b2 - a2∧St w0 p c l0 w7 l1∧Sw a b l l1∧DoneR cf l1 a b a2 b2∧PreR cf l1 a2 b2)∧
  (Calls prog slices_pdqsortCmpFunc_int.id #[.slice p n c,.int .i64 (i64.wrap ((m:Int)+1)),.int .i64 b',.int .i64 lim2,.func (.func fid) #[] fv] w' fun e w7=>e= .returned (.tuple #[])∧
    ∃k',k'<b' - a'∧∃ (a2 b2:Nat) (l1:List Int),(a':Int)=a2∧(m:Int)=b2∧a≤a2∧a2≤b2∧b2≤b∧k'=b2 - a2∧St w0 p c l0 w7 l1∧Sw a b l l1∧DoneR cf l1 a b a2 b2∧PreR cf l1 a2 b2):=by
  intro w' l6 m y Q h1 h2 s6 k6 lo hi
  have hn6:=X.len s6
  have d6:=d5.sw k6 g1 g3
  have p6:=p5.sw k6
  have em:i64.wrap ((m:Int)+1)=((m+1:Nat):Int):=wN (by omega) (by omega)
  constructor
  · refine (ih a' m lim2 s6 h1 (by omega) (by omega) ?_).mono ?_
    · rcases p6 with h|h
      · exact .inl h
      · exact .inr fun k x1 x2=>h k x1 (by omega)
    · rintro e w7 ⟨rfl,l7,s7,k7,r7⟩
      have hm7:l7.getD m 0=l6.getD m 0:=k7.out (.inr (Nat.le_refl _))
      have lo7: ∀k,a'≤k→k<m→cf (l7.getD k 0) (l7.getD m 0)<0:=by rw [hm7];exact k7.all (P:=fun x=>cf x (l6.getD m 0)<0) lo
      have hi7: ∀k,m<k→k<b'→¬cf (l7.getD k 0) (l7.getD m 0)<0:=fun k x1 x2=>by rw [hm7,k7.out (.inr (Nat.le_of_lt x1))];exact hi k x1 x2
      have k67:=(k7.mono (a':=a') (b':=b') (Nat.le_refl _) (by omega) (by omega)).1
      refine ⟨rfl,_,?_,m+1,b',l7,em,rfl,by omega,by omega,g3,rfl,s7,sub k15 (k6.trans k67),?_,.inr fun k x1 x2=>hi7 k (by omega) x2⟩
      · omega
      · exact done_left X.o (d6.sw k67 g1 g3) h1 h2 lo7 hi7 r7
  · rw [em]
    refine (ih (m+1) b' lim2 s6 (by omega) (by omega) (by omega) (.inr fun k x1 x2=>hi k (by omega) x2)).mono ?_
    rintro e w7 ⟨rfl,l7,s7,k7,r7⟩
    have hm7:l7.getD m 0=l6.getD m 0:=k7.out (.inl (by omega))
    have lo7: ∀k,a'≤k→k<m→cf (l7.getD k 0) (l7.getD m 0)<0:=fun k x1 x2=>by rw [hm7,k7.out (.inl (by omega))];exact lo k x1 x2
    have hi7: ∀k,m<k→k<b'→¬cf (l7.getD k 0) (l7.getD m 0)<0:=fun k x1 x2=>by rw [hm7];exact k7.all (P:=fun x=> ¬cf x (l6.getD m 0)<0) (fun t t1 t2=>hi t (by omega) t2) k (by omega) x2
    have k67:=(k7.mono (a':=a') (b':=b') (by omega) (Nat.le_refl _) (by omega)).1
    refine ⟨rfl,_,?_,a',m,l7,rfl,rfl,g1,h1,by omega,rfl,s7,sub k15 (k6.trans k67),?_,?_⟩
    · omega
    · exact done_right X.o (d6.sw k67 g1 g3) h1 h2 lo7 hi7 r7
    · rcases p6.sw k67 with h|h
      · exact .inl h
      · exact .inr fun k x1 x2=>h k x1 (by omega)
 refine cnd_i (fun q2=> ?_) (fun q2=> ?_)
 · have q2:0<a':=by simpa using q2
   have e1:i64.wrap ((a':Int) - 1)=((a' - 1:Nat):Int):=wN (by omega) (by omega)
   rw [e1]
   refine X.cmp s5.drew (a' - 1) pv rfl rfl (by omega) (by omega) fun w6 s6 _=> ?_
   refine cnd_i (fun q3=> ?_) (fun q3=> ?_)
   · have q3: ¬cf (l5.getD (a' - 1) 0) (l5.getD pv 0)<0:=by simpa using q3
     refine (partitionEqual_ok X s6 a' b' pv v1 v2 (by omega)).mono ?_
     rintro e w7 ⟨m,l7,rfl,h1,h2,s7,k7,ea,lo,hi⟩
     have least: ∀k,a'≤k→k<b'→Le cf (l7.getD a' 0) (l7.getD k 0):=by
      rw [ea]
      refine k7.all (P:=fun x=>Le cf (l5.getD pv 0) x) fun k x1 x2=>X.o.trans q3 ?_
      rcases p5 with h|h
      · omega
      · exact h k x1 x2
     refine ⟨_,rfl,_,?_,m,b',l7,rfl,rfl,by omega,h2,g3,rfl,s7,sub k15 k7,?_,?_⟩
     · omega
     · exact done_equal X.o (d5.sw k7 g1 g3) g1 h1 h2 lo hi least
     · refine .inr fun k x1 x2=> ?_
       by_cases e:m - 1=a'
       · rw [e];exact X.o.lt (hi k x1 x2)
       · exact X.o.trans (lo (m - 1) (by omega) (by omega)) (least k (by omega) x2)
   · refine (partition_ok X s6 a' b' pv v1 v2 (by omega)).mono ?_
     rintro e w7 ⟨m,y,l7,rfl,h1,h2,s7,k7,lo,hi⟩
     obtain ⟨A1,A2⟩:=after (y:=y) (Q:=fun _ _=>true) h1 h2 s7 k7 lo hi
     exact ⟨_,_,rfl,by decide,cnd_i (fun _=>A1) (fun _=>A2)⟩
 · refine (partition_ok X s5.drew a' b' pv v1 v2 (by omega)).mono ?_
   rintro e w7 ⟨m,y,l7,rfl,h1,h2,s7,k7,lo,hi⟩
   obtain ⟨A1,A2⟩:=after (y:=y) (Q:=fun _ _=>true) h1 h2 s7 k7 lo hi
   exact ⟨_,_,rfl,by decide,cnd_i (fun _=>A1) (fun _=>A2)⟩
theorem sort_ok (X:Cx w p n l fid fv cf) (h:OwI ty_int w p c l):
 Calls prog slices_SortFunc_int_int.id #[.slice p n c,.func (.func fid) #[] fv] w fun e w'=>e= .returned (.tuple #[])∧∃l',OwI ty_int w' p c l'∧Mod (Bk p) w w'∧l'.Perm l∧SortedR cf l' 0 l'.length:=by
 refine slices_SortFunc_int_int.calls ?_
 have hbd:=X.bd
 unfold slices_SortFunc_int_int.w
 rw [wrapU64_of (by omega) (by omega)]
 refine (len_spec n (by omega) w).mono ?_
 rintro e w1 ⟨rfl,h1⟩
 have s1:St w p c l w1 l:=⟨h.keep (S:=fun _=>False) h1.mod fun _ _=>id,h1.mod,.refl l⟩
 refine ⟨_,rfl,(pdq_ok X (n+1) 0 n _ s1 (Nat.zero_le _) (Nat.le_refl _) (by omega) (.inl rfl)).mono ?_⟩
 rintro e w2 ⟨rfl,l2,s2,k2,r2⟩
 refine ⟨rfl,rfl,l2,s2.o,s2.m,s2.pm,?_⟩
 rw [← X.len s2];exact r2
end
end Go.Proofs.YtenmibfmhccmiaaGreat.W
