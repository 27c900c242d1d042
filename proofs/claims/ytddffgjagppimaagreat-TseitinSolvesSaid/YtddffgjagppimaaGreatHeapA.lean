/- Heaps of variables, in plain numbers. -/
import Derived.Test.YtddffgjagppimaaGreatGenTs
import Derived.Test.YtddffgjagppimaaGreatLitA
namespace Go.HeapP
def g (l:List Int) (i:Int):Int:=if i<0 then 0 else l.getD i.toNat 0
theorem g_nn {l:List Int} {i:Int} (h:0≤i):l.getD i.toNat 0=g l i:=by unfold g;rw [if_neg (by omega)]
theorem g_set {l:List Int} {i v:Int} (h0:0≤i) (h1:i<l.length):g (l.set i.toNat v)=fun j=>if j=i then v else g l j:=by
 funext j
 unfold g
 simp only [List.getD_eq_getElem?_getD,List.getElem?_set]
 by_cases hj:j<0
 · simp [hj];omega
 · by_cases h:j=i
   · subst h
     simp [show j.toNat<l.length by omega,hj]
   · rw [if_neg hj,if_neg (by omega),if_neg h,if_neg hj]
def Bt (S:Int→Int) (a c:Int):Prop:=S c<S a∨S a=S c∧a<c
theorem Bt.asymm {S a c} (h:Bt S a c): ¬Bt S c a:=by unfold Bt at*;omega
theorem Bt.ntrans {S a b c} (h: ¬Bt S a b) (k: ¬Bt S b c): ¬Bt S a c:=by unfold Bt at*;omega
theorem Bt.not_of {S a b c} (h: ¬Bt S a b) (k:Bt S c b): ¬Bt S a c:=by unfold Bt at*;omega
structure Pos (L A:Int→Int) (n N:Int):Prop where
 fit: ∀j,0≤j→j<n→1≤L j∧L j≤N∧A (L j)=j+1
 back: ∀v,1≤v→v≤N→0≤A v∧A v≤n∧(0<A v→L (A v - 1)=v)
theorem Pos.inj {L A n N} (h:Pos L A n N) {j k:Int} (h1:0≤j) (h2:j<n) (h3:0≤k) (h4:k<n) (e:L j=L k):j=k:=by
 have a:=h.fit j h1 h2;have b:=h.fit k h3 h4
 rw [e] at a;omega
def swapL (L:Int→Int) (i p:Int):Int→Int:=fun j=>if j=p then L i else if j=i then L p else L j
def swapA (L A:Int→Int) (i p:Int):Int→Int:=fun u=>if u=L i then p+1 else if u=L p then i+1 else A u
theorem Pos.swap {L A n N} (h:Pos L A n N) {i p:Int} (h1:0≤i) (h2:i<n) (h3:0≤p) (h4:p<n) (hne:i≠p):Pos (swapL L i p) (swapA L A i p) n N:=by
 have fi:=h.fit i h1 h2;have fp:=h.fit p h3 h4
 have hn:L i≠L p:=fun e=>hne (h.inj h1 h2 h3 h4 e)
 constructor
 · intro j j1 j2
   have fj:=h.fit j j1 j2
   unfold swapL swapA
   by_cases e1:j=p
   · subst e1;simp;omega
   · by_cases e2:j=i
     · subst e2;simp [hne,Ne.symm hn];omega
     · have n1:L j≠L i:=fun e=>e2 (h.inj j1 j2 h1 h2 e)
       have n2:L j≠L p:=fun e=>e1 (h.inj j1 j2 h3 h4 e)
       simp [e1,e2,n1,n2];omega
 · intro v v1 v2
   have bv:=h.back v v1 v2
   unfold swapL swapA
   by_cases e1:v=L i
   · subst e1;simp;omega
   · by_cases e2:v=L p
     · subst e2;simp [Ne.symm hn,hne];omega
     · simp only [e1,e2,if_false]
       refine ⟨bv.1,bv.2.1,fun hp=> ?_⟩
       have:=bv.2.2 hp
       have n1:A v - 1≠p:=fun e=>e2 (by rw [← e,this])
       have n2:A v - 1≠i:=fun e=>e1 (by rw [← e,this])
       simp [n1,n2,this]
theorem swapA_pos {L A n N} (h:Pos L A n N) {i p:Int} (h1:0≤i) (h2:i<n) (h3:0≤p) (h4:p<n) (u:Int):0<swapA L A i p u↔0<A u:=by
 have fi:=h.fit i h1 h2;have fp:=h.fit p h3 h4
 unfold swapA
 by_cases e1:u=L i
 · subst e1;simp;omega
 · by_cases e2:u=L p
   · subst e2;simp [e1];omega
   · simp [e1,e2]
def Ord (S L:Int→Int) (n k x:Int):Prop:= ∀j,1≤j→j<n→k≤(j - 1) / 2→(j - 1) / 2≠x→¬Bt S (L j) (L ((j - 1) / 2))
def OrdU (S L:Int→Int) (n x:Int):Prop:=(∀j,1≤j→j<n→j≠x→¬Bt S (L j) (L ((j - 1) / 2)))∧(∀j,1≤j→j<n→(j - 1) / 2=x→1≤x→¬Bt S (L j) (L ((x - 1) / 2)))
theorem OrdU.step {S L n i} (h:OrdU S L n i) (h1:1≤i) (h2:i<n) (hb:Bt S (L i) (L ((i - 1) / 2))):OrdU S (swapL L i ((i - 1) / 2)) n ((i - 1) / 2):=by
 obtain ⟨ha,hc⟩:=h
 have hp:(i - 1) / 2<i:=by omega
 constructor
 · intro j j1 j2 j3
   unfold swapL
   by_cases e:j=i
   · subst e
     rw [if_neg (by omega),if_pos rfl,if_pos rfl]
     exact hb.asymm
   · rw [if_neg j3,if_neg e]
     by_cases e2:(j - 1) / 2=(i - 1) / 2
     · rw [if_pos e2]
       have:=ha j j1 j2 e
       rw [e2] at this
       exact Bt.not_of this hb
     · rw [if_neg e2]
       by_cases e3:(j - 1) / 2=i
       · rw [if_pos e3];exact hc j j1 j2 e3 h1
       · rw [if_neg e3];exact ha j j1 j2 e
 · intro j j1 j2 j3 j4
   have hpp:=ha ((i - 1) / 2) j4 (by omega) (by omega)
   unfold swapL
   rw [if_neg (show ¬((i - 1) / 2 - 1) / 2=(i - 1) / 2 by omega),if_neg (show ¬((i - 1) / 2 - 1) / 2=i by omega)]
   by_cases e:j=i
   · subst e
     rw [if_neg (by omega),if_pos rfl]
     exact hpp
   · rw [if_neg (by omega),if_neg e]
     have:=ha j j1 j2 e
     rw [j3] at this
     exact Bt.ntrans this hpp
theorem OrdU.done {S L n i} (h:OrdU S L n i) (hb:i≤0∨¬Bt S (L i) (L ((i - 1) / 2))):Ord S L n 0 (-1):=by
 intro j j1 j2 _ _
 by_cases e:j=i
 · subst e;exact hb.resolve_left (by omega)
 · exact h.1 j j1 j2 e
def OrdF (S L:Int→Int) (n k x:Int):Prop:=Ord S L n k x∧(∀j,1≤j→j<n→(j - 1) / 2=x→1≤x→k≤(x - 1) / 2→¬Bt S (L j) (L ((x - 1) / 2)))
theorem OrdF.step {S L n k i c} (h:OrdF S L n k i) (hki:k≤i) (h0:0≤i) (h1:c<n) (hc:(c - 1) / 2=i) (hc1:1≤c) (hb:Bt S (L c) (L i)) (hbest: ∀j,1≤j→j<n→(j - 1) / 2=i→¬Bt S (L j) (L c)):OrdF S (swapL L i c) n k c:=by
 obtain ⟨ha,hd⟩:=h
 constructor
 · intro j j1 j2 j3 j4
   unfold swapL
   by_cases e:j=c
   · subst e
     rw [if_pos rfl,hc,if_neg (by omega),if_pos rfl]
     exact hb.asymm
   · rw [if_neg e,if_neg j4]
     by_cases e1:j=i
     · subst e1
       rw [if_pos rfl,if_neg (by omega)]
       exact hd c hc1 h1 hc j1 j3
     · rw [if_neg e1]
       by_cases e2:(j - 1) / 2=i
       · rw [if_pos e2];exact hbest j j1 j2 e2
       · rw [if_neg e2];exact ha j j1 j2 j3 e2
 · intro j j1 j2 j3 j4 j5
   unfold swapL
   rw [if_neg (by omega),if_neg (by omega),hc,if_neg (by omega),if_pos rfl]
   have:=ha j j1 j2 (by omega) (by omega)
   rw [j3] at this
   exact this
theorem OrdF.done {S L n k i} (h:OrdF S L n k i) (hb: ∀j,1≤j→j<n→(j - 1) / 2=i→¬Bt S (L j) (L i)):Ord S L n k (-1):=by
 intro j j1 j2 j3 _
 by_cases e:(j - 1) / 2=i
 · rw [e];exact hb j j1 j2 e
 · exact h.1 j j1 j2 j3 e
theorem pigeon: ∀ (N n:Nat) (L:Nat→Int),(∀j,j<n→1≤L j∧L j≤N)→(∀j k,j<n→k<n→L j=L k→j=k)→n≤N:=by
 intro N
 induction N with
 |zero=>
  intro n L h _
  rcases Nat.eq_zero_or_pos n with h0|h0
  · omega
  · have:=h 0 h0;omega
 |succ N ih=>
  intro n L h hi
  by_cases he: ∃j,j<n∧L j=((N+1:Nat):Int)
  · obtain ⟨j,j1,j2⟩:=he
    have:=ih (n - 1) (fun k=>if k=j then L (n - 1) else L k) (fun k hk=>by
     by_cases e:k=j
     · have h1:=h (n - 1) (by omega)
       have:L (n - 1)≠((N+1:Nat):Int):=fun e2=>by
        have:=hi (n - 1) j (by omega) j1 (by rw [e2,j2])
        omega
       simp only [e,if_true];omega
     · have h1:=h k (by omega)
       have:L k≠((N+1:Nat):Int):=fun e2=>e (hi k j (by omega) j1 (by rw [e2,j2]))
       simp only [e,if_false];omega) (fun k m hk hm=>by
     intro e3
     by_cases e:k=j
     · by_cases e2:m=j
       · omega
       · simp only [e,e2,if_true,if_false] at e3
         have:=hi _ _ (by omega) (by omega) e3;omega
     · by_cases e2:m=j
       · simp only [e,e2,if_true,if_false] at e3
         have:=hi _ _ (by omega) (by omega) e3;omega
       · simp only [e,e2,if_false] at e3
         exact hi _ _ (by omega) (by omega) e3)
    omega
  · have:=ih n L (fun k hk=>by
     have h1:=h k hk
     have:L k≠((N+1:Nat):Int):=fun e=>he ⟨k,hk,e⟩
     omega) hi
    omega
theorem Pos.le {L A:Int→Int} {n N:Nat} (h:Pos L A n N):n≤N:=
 pigeon N n (fun j=>L j) (fun j hj=>by have:=h.fit j (by omega) (by omega);exact ⟨this.1,this.2.1⟩) fun j k hj hk e=>by
  have:=h.inj (j:=j) (k:=k) (by omega) (by omega) (by omega) (by omega) e;omega
theorem Pos.push {L A:Int→Int} {n N v:Int} (h:Pos L A n N) (n0:0≤n) (v1:1≤v) (v2:v≤N) (hv:A v=0):Pos (fun j=>if j=n then v else L j) (fun u=>if u=v then n+1 else A u) (n+1) N:=by
 constructor
 · intro j j0 j1
   by_cases e:j=n
   · subst e;simp;omega
   · have f:=h.fit j j0 (by omega)
     have:L j≠v:=fun e2=>by rw [e2] at f;omega
     simp only [e,if_false,this];exact f
 · intro u u1 u2
   by_cases e:u=v
   · subst e;simp;omega
   · have f:=h.back u u1 u2
     simp only [e,if_false]
     refine ⟨f.1,by omega,fun hp=> ?_⟩
     rw [if_neg (by omega)];exact f.2.2 hp
theorem Pos.pop {L A:Int→Int} {n N v:Int} (h:Pos L A (n+1) N) (n0:0≤n) (hv:L 0=v):Pos (fun j=>if j=0 then L n else L j) (fun u=>if u=L n then (if n=0 then 0 else 1) else if u=v then 0 else A u) n N:=by
 have f0:=h.fit 0 (Int.le_refl _) (by omega)
 have fn:=h.fit n n0 (by omega)
 constructor
 · intro j j0 j1
   by_cases e:j=0
   · subst e;simp [show n≠0 by omega];omega
   · have f:=h.fit j j0 (by omega)
     have n1:L j≠v:=fun e2=>e (h.inj j0 (by omega) (Int.le_refl _) (by omega) (by rw [e2,hv]))
     have n2:L j≠L n:=fun e2=>by have:=h.inj j0 (by omega) n0 (by omega) e2;omega
     simp only [e,if_false,n1,n2];exact f
 · intro u u1 u2
   have f:=h.back u u1 u2
   by_cases e:u=L n
   · subst e
     simp only [if_true]
     split
     · omega
     · simp;omega
   · by_cases e2:u=v
     · subst e2;simp [e,n0]
     · simp only [e,e2,if_false]
       have n1:A u - 1≠n∨A u=0:=by
        by_cases hp:0<A u
        · left;intro e3;have:=f.2.2 hp;rw [e3] at this;exact e this.symm
        · right;omega
       refine ⟨f.1,by omega,fun hp=> ?_⟩
       have n2:A u - 1≠0:=fun e3=>e2 (by have:=f.2.2 hp;rw [e3] at this;rw [← this,hv])
       rw [if_neg n2];exact f.2.2 hp
end Go.HeapP
namespace Go.Proofs.YtddffgjagppimaaGreat.W.Hp
open Go Go.Fw Go.RowKit Go.HeapP
open Go.Proofs.Tryz (prog)
open Go.IntKind (i64)
section
theorem sl_int:slOk prog ty_sl_int ty_int 8=true:=by kernel_rfl
structure HS where
 pl:Option Addr
 cl:Nat
 pa:Option Addr
 ca:Nat
 ps:Option Addr
 cs:Nat
 l:List Int
 at_:List Int
 score:List Int
 step:Int
def HS.foot (x:HS) (b:Nat) (k:Nat):Prop:=k=b∨blk x.pl=some k∨blk x.pa=some k∨blk x.ps=some k
structure HRep (w:World) (b:Nat) (x:HS):Prop where
 me:Has w b #[.slice x.pl x.l.length x.cl,.slice x.pa x.at_.length x.ca,.slice x.ps x.score.length x.cs,.int .i64 x.step]
 hl:OwI ty_int w x.pl x.cl x.l
 ha:OwI ty_int w x.pa x.ca x.at_
 hs:OwI ty_int w x.ps x.cs x.score
 bl:blk x.pl≠some b
 ba:blk x.pa≠some b
 bs:blk x.ps≠some b
 la: ∀k,blk x.pl=some k→blk x.pa≠some k
 ls: ∀k,blk x.pl=some k→blk x.ps≠some k
 sa: ∀k,blk x.pa=some k→blk x.ps≠some k
theorem HRep.keep {w w':World} {b:Nat} {x:HS} {S:Nat→Prop} (h:HRep w b x) (m:Mod S w w') (hS: ∀k,x.foot b k→¬S k):HRep w' b x:=
 ⟨h.me.keep m (hS b (.inl rfl)),h.hl.keep m fun k hk=>hS k (.inr (.inl hk)),h.ha.keep m fun k hk=>hS k (.inr (.inr (.inl hk))),h.hs.keep m fun k hk=>hS k (.inr (.inr (.inr hk))),h.bl,h.ba,h.bs,h.la,h.ls,h.sa⟩
theorem HRep.grow {w w':World} {b:Nat} {x:HS} (h:HRep w b x) (m:Grow w w'):HRep w' b x:=h.keep m fun _ _=>id
theorem HRep.drew {w:World} {b:Nat} {x:HS} (h:HRep w b x):HRep w.drew b x:=⟨h.me,h.hl,h.ha,h.hs,h.bl,h.ba,h.bs,h.la,h.ls,h.sa⟩
theorem HRep.lt {w:World} {b:Nat} {x:HS} (h:HRep w b x): ∀k,x.foot b k→k<w.heap.size:=by
 rintro k (rfl|hk|hk|hk)
 · exact h.me.lt
 · exact h.hl.lt k hk
 · exact h.ha.lt k hk
 · exact h.hs.lt k hk
abbrev ptr (b:Nat):Value:= .pointer (some ⟨b,0,none⟩)
def bt (s:List Int) (a c:Int):Bool:=if g s a=g s c then decide (a<c) else decide (g s a>g s c)
theorem bt_iff (s:List Int) (a c:Int):bt s a c=true↔Bt (g s) a c:=by
 unfold bt Bt;split<;>simp<;>omega
theorem better_spec {w:World} {b:Nat} {x:HS} (h:HRep w b x) (a c:Int) (a0:0≤a) (a1:a<x.score.length) (c0:0≤c) (c1:c<x.score.length):
 Calls prog heap_Heap_better.id #[ptr b,.int .i64 a,.int .i64 c] w fun e w'=>e= .returned (.bool (bt x.score a c))∧Grow w w':=by
 refine heap_Heap_better.calls ?_
 have h1:=h.drew
 have h2:=h1.drew
 refine ⟨_,rfl,_,_,_,cell_add h1.me rfl,h1.hs.ix 0 a0 rfl a1 fun a3 e3=> ⟨_,e3,_,rfl,_,_,_,cell_add h1.me rfl,h1.hs.ix 0 c0 rfl c1 fun a7 e7=> ⟨_,e7,cnd_i (fun t=> ?_) (fun t=> ?_)⟩⟩⟩
 · refine ⟨_,rfl,_,_,_,cell_add h2.me rfl,h2.hs.ix 0 a0 rfl a1 fun a3 e3=> ⟨_,e3,_,rfl,_,_,_,cell_add h2.me rfl,h2.hs.ix 0 c0 rfl c1 fun a7 e7=> ⟨_,e7,?_,((Mod.refl w).drew).drew⟩⟩⟩
   simp only [bne_iff_ne,ne_eq,g_nn a0,g_nn c0] at t
   rw [g_nn a0,g_nn c0]
   unfold bt;rw [if_neg t]
 · simp only [bne_eq_false_iff_eq,g_nn a0,g_nn c0] at t
   refine ⟨?_,(Mod.refl w).drew⟩
   unfold bt;rw [if_pos t]
def HS.put (x:HS) (i v:Int):HS:= {x with l:=x.l.set i.toNat v,at_:=x.at_.set v.toNat (i+1)}
theorem HRep.setL {w w':World} {b:Nat} {x:HS} (h:HRep w b x) {l':List Int} (hl:l'.length=x.l.length) (o:OwI ty_int w' x.pl x.cl l') (m:Mod (fun k=>blk x.pl=some k) w w'):HRep w' b {x with l:=l'}:=
 ⟨by have:=h.me.keep m h.bl;rwa [← hl] at this,o,h.ha.keep m fun k hk hk'=>h.la k hk' hk,h.hs.keep m fun k hk hk'=>h.ls k hk' hk,h.bl,h.ba,h.bs,h.la,h.ls,h.sa⟩
theorem HRep.setA {w w':World} {b:Nat} {x:HS} (h:HRep w b x) {l':List Int} (hl:l'.length=x.at_.length) (o:OwI ty_int w' x.pa x.ca l') (m:Mod (fun k=>blk x.pa=some k) w w'):HRep w' b {x with at_:=l'}:=
 ⟨by have:=h.me.keep m h.ba;rwa [← hl] at this,h.hl.keep m fun k hk hk'=>h.la k hk hk',o,h.hs.keep m fun k hk hk'=>h.sa k hk' hk,h.bl,h.ba,h.bs,h.la,h.ls,h.sa⟩
theorem HRep.setS {w w':World} {b:Nat} {x:HS} (h:HRep w b x) {l':List Int} (hl:l'.length=x.score.length) (o:OwI ty_int w' x.ps x.cs l') (m:Mod (fun k=>blk x.ps=some k) w w'):HRep w' b {x with score:=l'}:=
 ⟨by have:=h.me.keep m h.bs;rwa [← hl] at this,h.hl.keep m fun k hk hk'=>h.ls k hk hk',h.ha.keep m fun k hk hk'=>h.sa k hk hk',o,h.bl,h.ba,h.bs,h.la,h.ls,h.sa⟩
theorem HRep.setT {w w':World} {b:Nat} {x:HS} (h:HRep w b x) {t:Int} (o:Has w' b #[.slice x.pl x.l.length x.cl,.slice x.pa x.at_.length x.ca,.slice x.ps x.score.length x.cs,.int .i64 t]) (m:Mod (·=b) w w'):HRep w' b {x with step:=t}:=
 ⟨o,h.hl.keep m fun _ hk hk'=>h.bl (hk'▸hk),h.ha.keep m fun _ hk hk'=>h.ba (hk'▸hk),h.hs.keep m fun _ hk hk'=>h.bs (hk'▸hk),h.bl,h.ba,h.bs,h.la,h.ls,h.sa⟩
theorem put_spec {w:World} {b:Nat} {x:HS} (h:HRep w b x) (i v:Int) (i0:0≤i) (i1:i<x.l.length) (v0:0≤v) (v1:v<x.at_.length) (hb:x.l.length<2147483648):
 Calls prog heap_Heap_put.id #[ptr b,.int .i64 i,.int .i64 v] w fun e w'=>e= .returned (.tuple #[])∧HRep w' b (x.put i v)∧Mod (x.foot b) w w':=by
 refine heap_Heap_put.calls ?_
 refine ⟨_,rfl,_,_,_,cell_add h.me rfl,h.hl.st v rfl rfl i0 rfl i1 fun w4 o m=> ?_⟩
 have h4:=h.setL (by simp) o m
 refine ⟨_,rfl,_,_,_,cell_add h4.me rfl,?_⟩
 rw [wrap64_of (x:=i+1) (by omega) (by omega)]
 refine h4.ha.st (i+1) rfl rfl v0 rfl v1 fun w8 o' m'=> ⟨rfl,h4.setA (by simp) o' m',?_⟩
 exact (m.mono fun k _ hk=> .inr (.inl hk)).trans (m'.mono fun k _ hk=> .inr (.inr (.inl hk)))
structure HOk (x:HS) (N:Int):Prop where
 na:(x.at_.length:Int)=N+1
 ns:(x.score.length:Int)=N+1
 big:N≤1048576
 pos:Pos (g x.l) (g x.at_) x.l.length N
 nl:(x.l.length:Int)≤N
structure Lk (N:Int) (x y:HS):Prop where
 pl:y.pl=x.pl
 cl:y.cl=x.cl
 pa:y.pa=x.pa
 ca:y.ca=x.ca
 ps:y.ps=x.ps
 cs:y.cs=x.cs
 l:y.l.length=x.l.length
 a:y.at_.length=x.at_.length
 score:y.score=x.score
 step:y.step=x.step
 has: ∀u,1≤u→u≤N→(0<g y.at_ u↔0<g x.at_ u)
theorem Lk.refl (N:Int) (x:HS):Lk N x x:=⟨rfl,rfl,rfl,rfl,rfl,rfl,rfl,rfl,rfl,rfl,fun _ _ _=>Iff.rfl⟩
theorem Lk.trans {N:Int} {x y z:HS} (h:Lk N x y) (k:Lk N y z):Lk N x z:=
 ⟨k.pl.trans h.pl,k.cl.trans h.cl,k.pa.trans h.pa,k.ca.trans h.ca,k.ps.trans h.ps,k.cs.trans h.cs,k.l.trans h.l,k.a.trans h.a,k.score.trans h.score,k.step.trans h.step,fun u a b=> (k.has u a b).trans (h.has u a b)⟩
theorem Lk.foot {N:Int} {x y:HS} (h:Lk N x y) (b:Nat):y.foot b=x.foot b:=by funext k;unfold HS.foot;rw [h.pl,h.pa,h.ps]
theorem put_l {x:HS} {i v:Int} (i0:0≤i) (i1:i<x.l.length):g (x.put i v).l=fun j=>if j=i then v else g x.l j:=g_set i0 i1
theorem put_a {x:HS} {i v:Int} (v0:0≤v) (v1:v<x.at_.length):g (x.put i v).at_=fun u=>if u=v then i+1 else g x.at_ u:=g_set v0 v1
theorem put_same {x:HS} {N i:Int} (h:HOk x N) (i0:0≤i) (i1:i<x.l.length):g (x.put i (g x.l i)).l=g x.l∧g (x.put i (g x.l i)).at_=g x.at_:=by
 have f:=h.pos.fit i i0 i1
 have hna:=h.na
 rw [put_l i0 i1,put_a (by omega) (by omega)]
 constructor
 · funext j;split
   · subst_vars;rfl
   · rfl
 · funext u;split
   · subst_vars;omega
   · rfl
theorem put_put {y:HS} {N i p v:Int} (h:HOk (y.put i v) N) (v1:1≤v) (v2:v≤N) (i0:0≤i) (i1:i<y.l.length) (p0:0≤p) (p1:p<y.l.length) (hne:i≠p):
 g ((y.put i (g y.l p)).put p v).l=swapL (g (y.put i v).l) i p∧g ((y.put i (g y.l p)).put p v).at_=swapA (g (y.put i v).l) (g (y.put i v).at_) i p∧1≤g y.l p∧g y.l p≤N:=by
 have hl:(y.put i v).l.length=y.l.length:=by simp [HS.put]
 have hl2:(y.put i (g y.l p)).l.length=y.l.length:=by simp [HS.put]
 have ha2:(y.put i (g y.l p)).at_.length=y.at_.length:=by simp [HS.put]
 have hna:(y.at_.length:Int)=N+1:=by have:=h.na;simpa [HS.put] using this
 have f:=h.pos.fit p p0 (by rw [hl];exact p1)
 rw [put_l i0 i1] at f
 simp only [if_neg (Ne.symm hne)] at f
 refine ⟨?_,?_,f.1,f.2.1⟩
 · rw [put_l p0 (by rw [hl2];exact p1),put_l i0 i1,put_l i0 i1]
   funext j
   unfold swapL
   by_cases e:j=p
   · simp [e]
   · by_cases e2:j=i
     · simp [e2,hne,Ne.symm hne]
     · simp [e,e2]
 · rw [put_a (by omega) (by rw [ha2];omega),put_a (by omega) (by omega),put_l i0 i1,put_a (by omega) (by omega)]
   funext u
   unfold swapA
   simp only [if_neg (Ne.symm hne),if_true]
   by_cases e:u=v
   · simp [e]
   · by_cases e2:u=g y.l p
     · simp [e2]
     · simp [e,e2]
theorem HOk.swap {y z:HS} {N i p:Int} (h:HOk y N) (i0:0≤i) (i1:i<y.l.length) (p0:0≤p) (p1:p<y.l.length) (hne:i≠p) (hl:g z.l=swapL (g y.l) i p) (ha:g z.at_=swapA (g y.l) (g y.at_) i p) (k:z.l.length=y.l.length) (k2:z.at_.length=y.at_.length) (k3:z.score.length=y.score.length):
 HOk z N∧∀u,(0<g z.at_ u↔0<g y.at_ u):=by
 refine ⟨⟨by rw [k2];exact h.na,by rw [k3];exact h.ns,h.big,?_,by rw [k];exact h.nl⟩,fun u=> ?_⟩
 · rw [hl,ha,k];exact h.pos.swap i0 i1 p0 p1 hne
 · rw [ha];exact swapA_pos h.pos i0 i1 p0 p1 u
theorem up_spec {w:World} {b:Nat} {x:HS} {N:Int} (h:HRep w b x) (ok:HOk x N) (i:Int) (i0:0≤i) (i1:i<x.l.length) (ho:OrdU (g x.score) (g x.l) x.l.length i):
 Calls prog heap_Heap_up.id #[ptr b,.int .i64 i] w fun e w'=>e= .returned (.tuple #[])∧∃x',HRep w' b x'∧HOk x' N∧Lk N x x'∧Ord (g x.score) (g x'.l) x'.l.length 0 (-1)∧Mod (x.foot b) w w':=by
 refine heap_Heap_up.calls ?_
 have hbig:(x.l.length:Int)≤1048576:=Int.le_trans ok.nl ok.big
 refine ⟨_,rfl,_,_,_,cell_add h.me rfl,h.hl.ix 0 i0 rfl i1 fun a3 e3=> ⟨_,e3,?_⟩⟩
 rw [g_nn i0]
 have fv:=ok.pos.fit i i0 i1
 generalize hv:g x.l i=v at fv ⊢
 refine ⟨fun i w' k=> ∃y:HS,HRep w' b y∧Lk N x (y.put i v)∧HOk (y.put i v) N∧OrdU (g x.score) (g (y.put i v).l) x.l.length i∧0≤i∧i<x.l.length∧k=i.toNat∧Mod (x.foot b) w w',⟨i.toNat,x,h,?_,?_,?_,i0,i1,rfl,Mod.refl w⟩,?_⟩
 · have ps:=put_same ok i0 i1
   rw [hv] at ps
   exact ⟨rfl,rfl,rfl,rfl,rfl,rfl,by simp [HS.put],by simp [HS.put],rfl,rfl,fun u _ _=>by rw [ps.2]⟩
 · have ps:=put_same ok i0 i1
   rw [hv] at ps
   exact ⟨by simpa [HS.put] using ok.na,ok.ns,ok.big,by rw [ps.1,ps.2];simpa [HS.put] using ok.pos,by simpa [HS.put] using ok.nl⟩
 · have ps:=put_same ok i0 i1
   rw [hv] at ps
   rw [ps.1];exact ho
 clear h ho i0 i1 fv hv
 rintro i w' k _ ⟨y,hy,lk,ok',ou,i0,i1,hk,M⟩
 have hyl:y.l.length=x.l.length:=by simpa [HS.put] using lk.l
 have hya:y.at_.length=x.at_.length:=by simpa [HS.put] using lk.a
 have hys:y.score=x.score:=lk.score
 have hna:=ok.na
 have hns:=ok.ns
 have hft:y.foot b=x.foot b:=lk.foot b
 have hpl:(y.put i v).l.length=x.l.length:=lk.l
 have fv:=ok'.pos.fit i i0 (by rw [hpl];exact i1)
 rw [put_l i0 (by omega)] at fv
 simp only [if_true] at fv
 have fin:(i≤0∨¬Bt (g x.score) v (g y.l ((i - 1) / 2)))→∀w2,HRep w2 b y→Mod (x.foot b) w w2→Calls prog heap_Heap_put.id #[ptr b,.int .i64 i,.int .i64 v] w2 fun e w'=>e= .returned (.tuple #[])∧(Ending.returned (.tuple #[])= .returned (.tuple #[])∧∃x',HRep w' b x'∧HOk x' N∧Lk N x x'∧Ord (g x.score) (g x'.l) x'.l.length 0 (-1)∧Mod (x.foot b) w w'):=by
  intro hb w2 hy2 M2
  refine (put_spec hy2 i v i0 (by omega) (by omega) (by omega) (by omega)).mono ?_
  rintro e w3 ⟨rfl,h3,m3⟩
  refine ⟨rfl,rfl,_,h3,ok',lk,?_,M2.trans (hft▸m3)⟩
  rw [hpl]
  refine ou.done (hb.imp id fun hb=> ?_)
  rw [put_l i0 (by omega)]
  simp only [if_true]
  by_cases e:(i - 1) / 2=i
  · rw [if_pos e];exact fun hb=>hb.asymm hb
  · rw [if_neg e];exact hb
 refine cnd_i (fun t=> ?_) (fun t=>fin (.inl (by simpa using t)) w' hy M)
 simp only [decide_eq_true_eq] at t
 have ep:i64.wrap ((i64.wrap (i - 1)).tdiv 2)=(i - 1) / 2:=by
  rw [wrap64_of (x:=i - 1) (by omega) (by omega),Int.tdiv_eq_ediv_of_nonneg (by omega),wrap64_of (by omega) (by omega)]
 rw [ep]
 have p0:0≤(i - 1) / 2:=by omega
 have pp:=put_put ok' (by omega) (by omega) i0 (by omega) p0 (by omega) (show i≠(i - 1) / 2 by omega)
 obtain ⟨e1,e2,u1,u2⟩:=pp
 refine ⟨by decide,_,rfl,_,_,_,cell_add hy.me rfl,hy.hl.ix 0 p0 rfl (by omega) fun a12 e12=> ⟨_,e12,?_⟩⟩
 rw [g_nn p0]
 refine (better_spec hy v (g y.l ((i - 1) / 2)) (by omega) (by rw [hys];omega) (by omega) (by rw [hys];omega)).mono ?_
 rintro e w14 ⟨rfl,g14⟩
 have hy:=hy.grow g14
 have M:=M.grow g14
 refine ⟨_,rfl,cnd_i (fun tb=>fin (.inr ?_) w14 hy M) (fun tb=> ?_)⟩
 · rw [← bt_iff,← hys];simpa using tb
 · have tb:Bt (g x.score) v (g y.l ((i - 1) / 2)):=by rw [← bt_iff,← hys];simpa using tb
   refine ⟨_,rfl,_,_,_,cell_add hy.me rfl,hy.hl.ix 0 p0 rfl (by omega) fun a12 e12=> ⟨_,e12,?_⟩⟩
   rw [g_nn p0]
   refine (put_spec hy i _ i0 (by omega) (show 0≤g y.l ((i - 1) / 2) by omega) (by omega) (by omega)).mono ?_
   rintro e w21 ⟨rfl,h21,m21⟩
   have sw:=HOk.swap (z:=(y.put i (g y.l ((i - 1) / 2))).put ((i - 1) / 2) v) ok' i0 (by rw [hpl];exact i1) p0 (by rw [hpl];omega) (by omega) e1 e2 (by simp [HS.put]) (by simp [HS.put]) rfl
   refine ⟨rfl,((i - 1) / 2).toNat,by omega,_,h21,?_,sw.1,?_,p0,by omega,rfl,M.trans (hft▸m21)⟩
   · refine lk.trans ⟨rfl,rfl,rfl,rfl,rfl,rfl,by simp [HS.put],by simp [HS.put],rfl,rfl,fun u _ _=>sw.2 u⟩
   · rw [e1]
     refine ou.step (by omega) i1 ?_
     rw [put_l i0 (by omega)]
     simpa [show ¬(i - 1) / 2=i by omega] using tb
theorem fall_spec {w:World} {b:Nat} {x:HS} {N:Int} (h:HRep w b x) (ok:HOk x N) (i:Int) (i0:0≤i) (i1:i<x.l.length) (k:Int) (ki:k≤i) (ho:OrdF (g x.score) (g x.l) x.l.length k i):
 Calls prog heap_Heap_fall.id #[ptr b,.int .i64 i] w fun e w'=>e= .returned (.tuple #[])∧∃x',HRep w' b x'∧HOk x' N∧Lk N x x'∧Ord (g x.score) (g x'.l) x'.l.length k (-1)∧Mod (x.foot b) w w':=by
 refine heap_Heap_fall.calls ?_
 have hbig:(x.l.length:Int)≤1048576:=Int.le_trans ok.nl ok.big
 refine ⟨_,rfl,_,_,_,cell_add h.me rfl,h.hl.ix 0 i0 rfl i1 fun a3 e3=> ⟨_,e3,?_⟩⟩
 rw [g_nn i0]
 generalize hv:g x.l i=v
 have ps:=put_same ok i0 i1
 rw [hv] at ps
 refine ⟨fun i w' m=> ∃y:HS,HRep w' b y∧Lk N x (y.put i v)∧HOk (y.put i v) N∧OrdF (g x.score) (g (y.put i v).l) x.l.length k i∧k≤i∧0≤i∧i<x.l.length∧m=x.l.length - i.toNat∧Mod (x.foot b) w w',⟨x.l.length - i.toNat,x,h,?_,?_,?_,ki,i0,i1,rfl,Mod.refl w⟩,?_⟩
 · exact ⟨rfl,rfl,rfl,rfl,rfl,rfl,by simp [HS.put],by simp [HS.put],rfl,rfl,fun u _ _=>by rw [ps.2]⟩
 · exact ⟨by simpa [HS.put] using ok.na,ok.ns,ok.big,by rw [ps.1,ps.2];simpa [HS.put] using ok.pos,by simpa [HS.put] using ok.nl⟩
 · rw [ps.1];exact ho
 clear h ho i0 i1 hv ps ki
 rintro i w' m _ ⟨y,hy,lk,ok',ou,ki,i0,i1,hm,M⟩
 have hyl:y.l.length=x.l.length:=by simpa [HS.put] using lk.l
 have hya:y.at_.length=x.at_.length:=by simpa [HS.put] using lk.a
 have hys:y.score=x.score:=lk.score
 have hna:=ok.na
 have hns:=ok.ns
 have hft:y.foot b=x.foot b:=lk.foot b
 have hpl:(y.put i v).l.length=x.l.length:=lk.l
 have fv:=ok'.pos.fit i i0 (by rw [hpl];exact i1)
 rw [put_l i0 (by omega)] at fv
 simp only [if_true] at fv
 have fin:(∀j:Int,1≤j→j<x.l.length→(j - 1) / 2=i→¬Bt (g x.score) (g y.l j) v)→∀w2,HRep w2 b y→Mod (x.foot b) w w2→Calls prog heap_Heap_put.id #[ptr b,.int .i64 i,.int .i64 v] w2 fun e w'=>e= .returned (.tuple #[])∧(Ending.returned (.tuple #[])= .returned (.tuple #[])∧∃x',HRep w' b x'∧HOk x' N∧Lk N x x'∧Ord (g x.score) (g x'.l) x'.l.length k (-1)∧Mod (x.foot b) w w'):=by
  intro hb w2 hy2 M2
  refine (put_spec hy2 i v i0 (by omega) (by omega) (by omega) (by omega)).mono ?_
  rintro e w3 ⟨rfl,h3,m3⟩
  refine ⟨rfl,rfl,_,h3,ok',lk,?_,M2.trans (hft▸m3)⟩
  rw [hpl]
  refine ou.done fun j j1 j2 j3=> ?_
  rw [put_l i0 (by omega)]
  simp only [if_true]
  rw [if_neg (by omega)]
  exact hb j j1 j2 j3
 have ec:i64.wrap (i64.wrap (2*i)+1)=2*i+1:=by rw [wrap64_of (x:=2*i) (by omega) (by omega),wrap64_of (by omega) (by omega)]
 have ec1:i64.wrap (2*i+1+1)=2*i+2:=by rw [wrap64_of (by omega) (by omega)];omega
 rw [ec,ec1]
 refine ⟨_,rfl,_,_,_,cell_add hy.me rfl,cnd_i (fun t=>fin ?_ w' hy M) (fun t=> ?_)⟩
 · simp only [decide_eq_true_eq,ge_iff_le] at t
   intro j j1 j2 j3;omega
 simp only [decide_eq_false_iff_not,ge_iff_le] at t
 have kids: ∀c,c=2*i+1∨c=2*i+2→c<x.l.length→1≤g y.l c∧g y.l c≤N:=by
  intro c hc hc2
  have:=ok'.pos.fit c (by omega) (by rw [hpl];exact hc2)
  rw [put_l i0 (by omega)] at this
  simp only [show ¬c=i by omega,if_false] at this
  exact ⟨this.1,this.2.1⟩
 have hy:=hy.drew
 have M:=M.drew
 have rest: ∀c w2,HRep w2 b y→Mod (x.foot b) w w2→c=2*i+1∨c=2*i+2→c<x.l.length→(∀j:Int,1≤j→j<x.l.length→(j - 1) / 2=i→¬Bt (g x.score) (g y.l j) (g y.l c))→
  (∃a25,(some (⟨b,0,none⟩:Addr))=some a25∧∃x26p x26n x26c,w2.cell? (a25.add 0)=some (.slice x26p x26n x26c)∧
    ixK x26p x26n c 1 fun a27=>
    ∃x28,w2.cell? a27=some (.int .i64 x28)∧
    Calls prog heap_Heap_better.id #[.pointer (some ⟨b,0,none⟩),.int .i64 x28,.int .i64 v] w2 fun e w29=> ∃r30,e= .returned (.bool r30)∧
    cnd (!r30)
    (Calls prog heap_Heap_put.id #[.pointer (some ⟨b,0,none⟩),.int .i64 i,.int .i64 v] w29 fun e w31=>e= .returned (.tuple #[])∧
      (Ending.returned (.tuple #[])= .returned (.tuple #[])∧∃x',HRep w31 b x'∧HOk x' N∧Lk N x x'∧Ord (g x.score) (g x'.l) x'.l.length k (-1)∧Mod (x.foot b) w w31))
    (∃a32,(some (⟨b,0,none⟩:Addr))=some a32∧∃x33p x33n x33c,w29.cell? (a32.add 0)=some (.slice x33p x33n x33c)∧
      ixK x33p x33n c 1 fun a34=>
      ∃x35,w29.cell? a34=some (.int .i64 x35)∧
      Calls prog heap_Heap_put.id #[.pointer (some ⟨b,0,none⟩),.int .i64 i,.int .i64 x35] w29 fun e w36=>e= .returned (.tuple #[])∧
      ∃k7,k7<m∧∃y:HS,HRep w36 b y∧Lk N x (y.put c v)∧HOk (y.put c v) N∧OrdF (g x.score) (g (y.put c v).l) x.l.length k c∧k≤c∧0≤c∧c<x.l.length∧k7=x.l.length - c.toNat∧Mod (x.foot b) w w36)):=by
  intro c w2 hy M hc hcn hbest
  have fc:=kids c hc hcn
  have pp:=put_put ok' (by omega) (by omega) i0 (by omega) (show 0≤c by omega) (by omega) (show i≠c by omega)
  obtain ⟨e1,e2,u1,u2⟩:=pp
  have c0:0≤c:=by omega
  refine ⟨_,rfl,_,_,_,cell_add hy.me rfl,hy.hl.ix 0 c0 rfl (by omega) fun a12 e12=> ⟨_,e12,?_⟩⟩
  rw [g_nn c0]
  refine (better_spec hy (g y.l c) v (by omega) (by rw [hys];omega) (by omega) (by rw [hys];omega)).mono ?_
  rintro e w14 ⟨rfl,g14⟩
  have hy:=hy.grow g14
  have M:=M.grow g14
  refine ⟨_,rfl,cnd_i (fun tb=>fin (fun j j1 j2 j3=> ?_) w14 hy M) (fun tb=> ?_)⟩
  · have: ¬Bt (g x.score) (g y.l c) v:=by rw [← bt_iff,← hys];simpa using tb
    exact Bt.ntrans (hbest j j1 j2 j3) this
  · have tb:Bt (g x.score) (g y.l c) v:=by rw [← bt_iff,← hys];simpa using tb
    refine ⟨_,rfl,_,_,_,cell_add hy.me rfl,hy.hl.ix 0 c0 rfl (by omega) fun a12 e12=> ⟨_,e12,?_⟩⟩
    rw [g_nn c0]
    refine (put_spec hy i _ i0 (by omega) (show 0≤g y.l c by omega) (by omega) (by omega)).mono ?_
    rintro e w21 ⟨rfl,h21,m21⟩
    have sw:=HOk.swap (z:=(y.put i (g y.l c)).put c v) ok' i0 (by rw [hpl];exact i1) c0 (by rw [hpl];omega) (by omega) e1 e2 (by simp [HS.put]) (by simp [HS.put]) rfl
    refine ⟨rfl,x.l.length - c.toNat,by omega,_,h21,?_,sw.1,?_,by omega,c0,by omega,rfl,M.trans (hft▸m21)⟩
    · refine lk.trans ⟨rfl,rfl,rfl,rfl,rfl,rfl,by simp [HS.put],by simp [HS.put],rfl,rfl,fun u _ _=>sw.2 u⟩
    · rw [e1]
      refine ou.step ki i0 hcn (by omega) (by omega) ?_ ?_
      · rw [put_l i0 (by omega)]
        simpa [show ¬c=i by omega] using tb
      · intro j j1 j2 j3
        rw [put_l i0 (by omega)]
        simpa [show ¬c=i by omega,show ¬j=i by omega] using hbest j j1 j2 j3
 refine ⟨_,rfl,_,_,_,cell_add hy.me rfl,cnd_i (fun t1=> ?_) (fun t1=> ?_)⟩<;>simp only [decide_eq_true_eq,decide_eq_false_iff_not] at t1
 · have f1:=kids (2*i+1) (.inl rfl) (by omega)
   have f2:=kids (2*i+2) (.inr rfl) (by omega)
   refine ⟨_,rfl,_,_,_,cell_add hy.me rfl,hy.hl.ix 0 (by omega) rfl t1 fun a12 e12=> ⟨_,e12,_,rfl,_,_,_,cell_add hy.me rfl,hy.hl.ix 0 (by omega) rfl (by omega) fun a13 e13=> ⟨_,e13,?_⟩⟩⟩
   rw [g_nn (by omega),g_nn (by omega)]
   refine (better_spec hy _ _ (show 0≤g y.l (2*i+2) by omega) (by rw [hys];omega) (show 0≤g y.l (2*i+1) by omega) (by rw [hys];omega)).mono ?_
   rintro e w14 ⟨rfl,g14⟩
   have hy:=hy.grow g14
   have M:=M.grow g14
   refine ⟨_,rfl,cnd_i (fun tb=>rest _ w14 hy M (.inr rfl) (by omega) fun j j1 j2 j3=> ?_) (fun tb=>rest _ w14 hy M (.inl rfl) (by omega) fun j j1 j2 j3=> ?_)⟩
   · have tb:Bt (g x.score) (g y.l (2*i+2)) (g y.l (2*i+1)):=by rw [← bt_iff,← hys];simpa using tb
     obtain rfl|rfl:j=2*i+1∨j=2*i+2:=by omega
     · exact tb.asymm
     · exact fun hb=>hb.asymm hb
   · have tb: ¬Bt (g x.score) (g y.l (2*i+2)) (g y.l (2*i+1)):=by rw [← bt_iff,← hys];simpa using tb
     obtain rfl|rfl:j=2*i+1∨j=2*i+2:=by omega
     · exact fun hb=>hb.asymm hb
     · exact tb
 · refine rest _ _ hy M (.inl rfl) (by omega) fun j j1 j2 j3=> ?_
   obtain rfl:j=2*i+1:=by omega
   exact fun hb=>hb.asymm hb
end
section
def f20 (x:Int):Int:=x / 1048576
theorem fd20 (x:Int):x.fdiv (2 ^ (min (20:Int).toNat (IntKind.bits .i64)))=f20 x:=by
 show x.fdiv 1048576=_
 rw [Int.fdiv_eq_ediv_of_nonneg _ (by omega)];rfl
def top:Int:=1099511627776
def mustS (x:HS) (v:Int):Prop:=top<x.step∨top<g x.score v
instance (x:HS) (v:Int):Decidable (mustS x v):=by unfold mustS;infer_instance
def HS.scaled (x:HS):HS:= {x with score:=x.score.map f20,step:=imax 1 (f20 x.step)}
theorem HOk.score {x:HS} {N:Int} (h:HOk x N) {s:List Int} {t:Int} (hs:s.length=x.score.length):HOk {x with score:=s,step:=t} N:=
 ⟨h.na,by show (s.length:Int)=_;rw [hs];exact h.ns,h.big,h.pos,h.nl⟩
theorem scale_spec {w:World} {b:Nat} {x:HS} {N:Int} (h:HRep w b x) (ok:HOk x N) (v:Int) (v0:0≤v) (v1:v≤N) (ho:Ord (g x.score) (g x.l) x.l.length 0 (-1)):
 Calls prog heap_Heap_scale.id #[ptr b,.int .i64 v] w fun e w'=>e= .returned (.tuple #[])∧∃x',HRep w' b x'∧HOk x' N∧Lk N (if mustS x v then x.scaled else x) x'∧Ord (g x'.score) (g x'.l) x'.l.length 0 (-1)∧Mod (x.foot b) w w':=by
 refine heap_Heap_scale.calls ?_
 have hns:=ok.ns
 have hN:=ok.big
 have hbig:(x.l.length:Int)≤1048576:=Int.le_trans ok.nl ok.big
 refine ⟨_,rfl,_,cell_add h.me rfl,cnd_i (fun t1=> ⟨_,rfl,_,_,_,cell_add h.me rfl,h.hs.ix 0 v0 rfl (by omega) fun a e=> ⟨_,e,cnd_i (fun t2=> ?_) (fun t2=> ?_)⟩⟩) (fun t1=> ?_)⟩
 · rw [g_nn v0] at t2
   simp only [decide_eq_true_eq] at t1 t2
   have hm: ¬mustS x v:=by unfold mustS top;omega
   rw [if_neg hm]
   exact ⟨rfl,x,h,ok,Lk.refl N x,ho,Mod.refl w⟩
 all_goals (
  have hm:mustS x v:=by
   unfold mustS top
   first
   | (rw [g_nn v0] at t2;simp only [decide_eq_false_iff_not] at t2;omega)
   | (simp only [decide_eq_false_iff_not] at t1;omega)
  rw [if_pos hm]
  clear t1
  refine ⟨_,rfl,_,_,_,cell_add h.me rfl,?_⟩
  refine ⟨fun i w' k=> ∃t:Nat,i=t∧t≤x.score.length∧HRep w' b {x with score:=mapTo f20 t x.score}∧Mod (x.foot b) w w'∧k+t=x.score.length,⟨x.score.length,0,rfl,Nat.zero_le _,by rw [mapTo_zero];exact h,Mod.refl w,rfl⟩,?_⟩
  rintro i w' k _ ⟨t,rfl,ht,hy,M,hk⟩
  refine cnd_i (fun tt=> ?_) (fun tt=> ?_)<;>simp only [decide_eq_true_eq,decide_eq_false_iff_not] at tt
  · have hl:=mapTo_length f20 t x.score
    refine ⟨_,rfl,_,_,_,cell_add hy.me rfl,hy.hs.ix 0 (by omega) rfl (by rw [hl];exact tt) fun a16 e16=> ⟨_,e16,by decide,?_⟩⟩
    rw [Int.toNat_natCast,mapTo_get f20 0 (by omega),fd20]
    refine hy.hs.st (f20 (x.score.getD t 0)) rfl rfl (by omega) rfl (by rw [hl];exact tt) fun w19 o m=> ⟨k - 1,by omega,t+1,?_,by omega,?_,M.trans (m.mono fun k _ hk=> .inr (.inr (.inr hk))),by omega⟩
    · rw [wrap64_of (by omega) (by omega)];omega
    · have:=hy.setS (by simp) o m
      rw [Int.toNat_natCast,mapTo_set f20 0 (by omega)] at this
      exact this
  · have et:t=x.score.length:=by omega
    subst et
    rw [mapTo_all] at hy
    refine ⟨_,rfl,_,cell_add hy.me rfl,by decide,_,rfl,?_⟩
    rw [fd20]
    refine store_f hy.me rfl rfl fun w23 o m=> ?_
    have hy2:HRep w23 b x.scaled:=hy.setT o m
    have M2:Mod (x.foot b) w w23:=M.trans (m.mono fun k _ hk=> .inl hk)
    have ok2:HOk x.scaled N:=ok.score (by simp)
    refine ⟨_,rfl,_,_,_,cell_add hy2.me rfl,?_⟩
    have en:i64.wrap ((x.scaled.l.length:Int) - 1)=(x.l.length:Int) - 1:=by show i64.wrap ((x.l.length:Int) - 1)=_;rw [wrap64_of (by omega) (by omega)]
    rw [en]
    refine ⟨fun i w' k=> ∃y,HRep w' b y∧HOk y N∧Lk N x.scaled y∧Ord (g x.scaled.score) (g y.l) x.l.length (i+1) (-1)∧ -1≤i∧i<x.l.length∧k=(i+1).toNat∧Mod (x.foot b) w w',⟨_,x.scaled,hy2,ok2,Lk.refl N _,?_,by omega,by omega,rfl,M2⟩,?_⟩
    · intro j j1 j2 j3 j4;omega
    clear hy hy2 ok2 M M2 m o ho
    rintro i w' k _ ⟨y,hy,oky,lk,oy,i0,i1,hk,M⟩
    have hyl:y.l.length=x.l.length:=lk.l
    have hys:y.score=x.scaled.score:=lk.score
    have hft:y.foot b=x.foot b:=lk.foot b
    refine cnd_i (fun tt=> ?_) (fun tt=> ?_)<;>simp only [decide_eq_true_eq,decide_eq_false_iff_not,ge_iff_le] at tt
    · refine (fall_spec hy oky i tt (by omega) i (Int.le_refl _) ⟨?_,?_⟩).mono ?_
      · intro j j1 j2 j3 j4
        rw [hys]
        exact oy j j1 (by omega) (by omega) (by omega)
      · intro j j1 j2 j3 j4 j5;omega
      · rintro e w2 ⟨rfl,z,hz,okz,lz,oz,mz⟩
        have hzl:z.l.length=y.l.length:=lz.l
        refine ⟨rfl,i.toNat,by omega,z,hz,okz,lk.trans lz,?_,?_,?_,?_,M.trans (hft▸mz)⟩
        · have e1:i64.wrap (i - 1)+1=i:=by rw [wrap64_of (by omega) (by omega)];omega
          rw [e1,← hys,← hyl,← hzl]
          exact oz
        · rw [wrap64_of (by omega) (by omega)];omega
        · rw [wrap64_of (by omega) (by omega)];omega
        · rw [wrap64_of (by omega) (by omega)];omega
    · have ei:i= -1:=by omega
      subst ei
      refine ⟨rfl,y,hy,oky,lk,?_,M⟩
      rw [hys,hyl]
      exact oy)
theorem len_ok {w:World} {b:Nat} {x:HS} (h:HRep w b x):Calls prog heap_Heap_Len.id #[ptr b] w fun e w'=>e= .returned (.int .i64 x.l.length)∧Grow w w':=by
 refine heap_Heap_Len.calls ?_
 exact cnd_f rfl ⟨_,rfl,_,_,_,cell_add h.me rfl,rfl,Mod.refl w⟩
theorem is_ok {w:World} {b:Nat} {x:HS} (h:HRep w b x) (v:Int):Calls prog heap_Heap_is.id #[ptr b,.int .i64 v] w fun e w'=>e= .returned (.bool (decide (1≤v∧v<x.at_.length)))∧Grow w w':=by
 refine heap_Heap_is.calls ?_
 refine cnd_t rfl (cnd_i (fun t=> ⟨_,rfl,_,_,_,cell_add h.me rfl,?_,Mod.refl w⟩) (fun t=> ⟨?_,Mod.refl w⟩))<;>simp only [decide_eq_true_eq,decide_eq_false_iff_not,ge_iff_le] at t
 · simp [t]
 · simp [t]
theorem best_ok {w:World} {b:Nat} {x:HS} (h:HRep w b x) (hb:x.l.length<2147483648):Calls prog heap_Heap_Best.id #[ptr b] w fun e w'=>e= .returned (.tuple #[.int .i64 (if x.l.length=0 then 0 else g x.l 0),.bool (decide (x.l.length≠0))])∧Grow w w':=by
 refine heap_Heap_Best.calls ?_
 refine (len_ok h).mono ?_
 rintro e w1 ⟨rfl,g1⟩
 have h:=h.grow g1
 refine ⟨_,rfl,cnd_i (fun t=> ⟨?_,g1⟩) (fun t=> ⟨_,rfl,_,_,_,cell_add h.me rfl,h.hl.ix 0 (Int.le_refl _) rfl ?_ fun a e=> ⟨_,e,?_,g1⟩⟩)⟩
 · have:x.l.length=0:=by have:=beq_iff_eq.1 t;omega
   simp [this]
 · have:=beq_eq_false_iff_ne.1 t;omega
 · have t:=beq_eq_false_iff_ne.1 t
   have:x.l.length≠0:=by omega
   rw [g_nn (Int.le_refl 0),if_neg this];simp [this]
structure HGood (x:HS) (N:Int):Prop where
 ok:HOk x N
 n0:0≤N
 ord:Ord (g x.score) (g x.l) x.l.length 0 (-1)
 sc: ∀v,0≤v→v≤N→0≤g x.score v∧g x.score v≤top
 st:1≤x.step∧x.step≤top
theorem g_map {l:List Int} {f:Int→Int} (h0:f 0=0) (v:Int):g (l.map f) v=f (g l v):=by
 unfold g
 split
 · exact h0.symm
 · simp only [List.getD_eq_getElem?_getD,List.getElem?_map]
   cases l[v.toNat]? <;>simp [h0]
theorem scale_good {y z:HS} {N v:Int} (n0:0≤N) (ok:HOk z N) (lk:Lk N (if mustS y v then y.scaled else y) z) (o:Ord (g z.score) (g z.l) z.l.length 0 (-1))
 (hs: ∀u,0≤u→u≤N→0≤g y.score u∧g y.score u≤4398046511104∧(u≠v→g y.score u≤top)) (ht:1≤y.step∧y.step≤4398046511104):HGood z N:=by
 by_cases hm:mustS y v
 · rw [if_pos hm] at lk
   have es:z.score=y.score.map f20:=lk.score
   have et:z.step=imax 1 (f20 y.step):=lk.step
   refine ⟨ok,n0,o,fun u u0 u1=> ?_,?_⟩
   · rw [es,g_map rfl]
     have:=hs u u0 u1
     unfold f20 top;omega
   · rw [et];unfold imax f20 top;split<;>omega
 · rw [if_neg hm] at lk
   have es:z.score=y.score:=lk.score
   have et:z.step=y.step:=lk.step
   unfold mustS at hm
   refine ⟨ok,n0,o,fun u u0 u1=> ?_,?_⟩
   · rw [es]
     have:=hs u u0 u1
     by_cases e:u=v
     · subst e;omega
     · exact ⟨this.1,this.2.2 e⟩
   · rw [et];omega
theorem decay_ok {w:World} {b:Nat} {x:HS} {N:Int} (h:HRep w b x) (gd:HGood x N):Calls prog heap_Heap_Decay.id #[ptr b] w fun e w'=>e= .returned (.tuple #[])∧
 ∃z,HRep w' b z∧HGood z N∧Lk N (if top<x.step+ (x.step / 16+1) then {x with step:=x.step+ (x.step / 16+1)}.scaled else {x with step:=x.step+ (x.step / 16+1)}) z∧Mod (x.foot b) w w':=by
 refine heap_Heap_Decay.calls ?_
 have hN:=gd.ok.big
 have hs:=gd.st
 have hna:=gd.ok.na
 have hn0:=gd.n0
 unfold top at hs
 refine cnd_f rfl ⟨_,rfl,_,_,_,cell_add h.me rfl,cnd_f ?_ ?_⟩
 · obtain ⟨q,hq,_⟩:=h.ha.cell (j:=0) (by omega)
   rw [hq];rfl
 have h:=h.drew
 refine ⟨_,rfl,_,cell_add h.me rfl,_,rfl,_,cell_add h.me rfl,by decide,_,rfl,?_⟩
 have e1:i64.wrap (x.step+i64.wrap (i64.wrap (x.step.tdiv 16)+1))=x.step+ (x.step / 16+1):=by
  rw [Int.tdiv_eq_ediv_of_nonneg (by omega),wrap64_of (x:=x.step / 16) (by omega) (by omega),wrap64_of (x:=x.step / 16+1) (by omega) (by omega),wrap64_of (by omega) (by omega)]
 rw [e1]
 refine store_f h.me rfl rfl fun w8 o m=> ?_
 have h8:=h.setT o m
 have M8:Mod (x.foot b) w w8:=((Mod.refl w).drew).trans (m.mono fun k _ hk=> .inl hk)
 refine (scale_spec h8 (gd.ok.score rfl) 0 (by omega) gd.n0 gd.ord).mono ?_
 rintro e w9 ⟨rfl,z,hz,okz,lz,oz,mz⟩
 refine ⟨rfl,rfl,z,hz,?_,?_,M8.trans mz⟩
 · refine scale_good gd.n0 okz lz oz (fun u u0 u1=> ?_) ?_
   · have:=gd.sc u u0 u1
     unfold top at this
     exact ⟨this.1,by show g x.score u≤_;omega,fun _=> (gd.sc u u0 u1).2⟩
   · show 1≤x.step+ (x.step / 16+1)∧x.step+ (x.step / 16+1)≤_;omega
 · have:mustS {x with step:=x.step+ (x.step / 16+1)} 0↔top<x.step+ (x.step / 16+1):=by
    unfold mustS
    have:=(gd.sc 0 (Int.le_refl _) gd.n0).2
    constructor
    · rintro (h|h)
      · exact h
      · exact absurd this (by show ¬g x.score 0≤top;exact Int.not_le.2 h)
    · exact .inl
   by_cases hc:top<x.step+ (x.step / 16+1)
   · rw [if_pos hc];rwa [if_pos (this.2 hc)] at lz
   · rw [if_neg hc];rwa [if_neg (fun h=>hc (this.1 h))] at lz
theorem Ord.toU {S L:Int→Int} {n i:Int} (h:Ord S L n 0 (-1)) (S':Int→Int) (hS: ∀j,0≤j→j<n→j≠i→S' (L j)=S (L j)) (hi:0≤i→i<n→S (L i)≤S' (L i)):OrdU S' L n i:=by
 constructor
 · intro j j1 j2 j3
   have hj:=h j j1 j2 (by omega) (by omega)
   have e:=hS j (by omega) j2 j3
   by_cases hp:(j - 1) / 2=i
   · have:=hi (by omega) (by omega)
     unfold Bt at*
     rw [hp] at hj ⊢
     rw [e];omega
   · have e2:=hS ((j - 1) / 2) (by omega) (by omega) hp
     unfold Bt at*
     rw [e,e2];omega
 · intro j j1 j2 j3 j4
   have hj:=h j j1 j2 (by omega) (by omega)
   have hi':=h i j4 (by omega) (by omega) (by omega)
   rw [j3] at hj
   have e:=hS j (by omega) j2 (by omega)
   have e2:=hS ((i - 1) / 2) (by omega) (by omega) (by omega)
   have:=Bt.ntrans hj hi'
   unfold Bt at*
   rw [e,e2];omega
theorem bump_ok {w:World} {b:Nat} {x:HS} {N:Int} (h:HRep w b x) (gd:HGood x N) (v:Int):Calls prog heap_Heap_Bump.id #[ptr b,.int .i64 v] w fun e w'=>
 e= .returned (.int .i64 (if 1≤v∧v≤N then 0 else 1))∧∃z,HRep w' b z∧HGood z N∧
  Lk N (if 1≤v∧v≤N then (if top<g x.score v+x.step then {x with score:=x.score.set v.toNat (g x.score v+x.step)}.scaled else {x with score:=x.score.set v.toNat (g x.score v+x.step)}) else x) z∧Mod (x.foot b) w w':=by
 refine heap_Heap_Bump.calls ?_
 have hN:=gd.ok.big
 have hs:=gd.st
 have hna:=gd.ok.na
 have hns:=gd.ok.ns
 have hnl:=gd.ok.nl
 have hn0:=gd.n0
 unfold top at hs
 refine (is_ok h v).mono ?_
 rintro e w1 ⟨rfl,g1⟩
 have h:=h.grow g1
 refine ⟨_,rfl,cnd_i (fun t=> ?_) (fun t=> ?_)⟩
 · have t: ¬(1≤v∧v≤N):=by simp at t;omega
   rw [if_neg t,if_neg t]
   exact ⟨rfl,x,h,gd,Lk.refl N x,g1.mono fun _ _ h=>h.elim⟩
 have t:1≤v∧v≤N:=by simp at t;omega
 rw [if_pos t,if_pos t]
 have h:=h.drew
 have v0:0≤v:=by omega
 have v1:v<x.score.length:=by omega
 have sv:=gd.sc v v0 t.2
 have sv2:g x.score v≤1099511627776:=sv.2
 refine ⟨_,rfl,_,_,_,cell_add h.me rfl,h.hs.ix 0 v0 rfl v1 fun a e=> ⟨_,e,_,rfl,_,cell_add h.me rfl,?_⟩⟩
 rw [g_nn v0,wrap64_of (x:=g x.score v+x.step) (by omega) (by omega)]
 refine h.hs.st (g x.score v+x.step) rfl rfl v0 rfl v1 fun w10 o m=> ?_
 have h10:=h.setS (by simp) o m
 have M10:Mod (x.foot b) w w10:=((g1.mono fun _ _ h=>h.elim).drew).trans (m.mono fun k _ hk=> .inr (.inr (.inr hk)))
 generalize hy:({x with score:=x.score.set v.toNat (g x.score v+x.step)}:HS)=y at h10 ⊢
 have gy:g y.score=fun j=>if j=v then g x.score v+x.step else g x.score j:=by rw [← hy];exact g_set v0 v1
 have oky:HOk y N:=by rw [← hy];exact gd.ok.score (by simp)
 have yl:y.l=x.l:=by rw [← hy]
 have ya:y.at_=x.at_:=by rw [← hy]
 have yt:y.step=x.step:=by rw [← hy]
 have yf:y.foot b=x.foot b:=by rw [← hy];rfl
 have gyv:g y.score v=g x.score v+x.step:=by rw [gy];simp
 have fin: ∀z,HOk z N→Lk N y z→Ord (g y.score) (g z.l) z.l.length 0 (-1)→∀w20,HRep w20 b z→Mod (x.foot b) w w20→Calls prog heap_Heap_scale.id #[ptr b,.int .i64 v] w20 fun e w20=>e= .returned (.tuple #[])∧
  (Ending.returned (.int .i64 0)= .returned (.int .i64 0)∧∃z,HRep w20 b z∧HGood z N∧Lk N (if top<g x.score v+x.step then y.scaled else y) z∧Mod (x.foot b) w w20):=by
  intro z okz lz oz w20 hz M
  have zs:z.score=y.score:=lz.score
  have zt:z.step=y.step:=lz.step
  refine (scale_spec hz okz v v0 t.2 (by rw [zs];exact oz)).mono ?_
  rintro e w21 ⟨rfl,u,hu,oku,lu,ou,mu⟩
  have must:mustS z v↔top<g x.score v+x.step:=by unfold mustS;rw [zs,zt,gyv,yt];unfold top;omega
  have lu2:Lk N (if top<g x.score v+x.step then y.scaled else y) u:=by
   by_cases hc:top<g x.score v+x.step
   · rw [if_pos (must.2 hc)] at lu
     rw [if_pos hc]
     have ls:Lk N y.scaled z.scaled:=⟨lz.pl,lz.cl,lz.pa,lz.ca,lz.ps,lz.cs,lz.l,lz.a,congrArg (List.map f20) zs,congrArg (fun t=>imax 1 (f20 t)) zt,lz.has⟩
     exact ls.trans lu
   · rw [if_neg (fun h=>hc (must.1 h))] at lu
     rw [if_neg hc];exact lz.trans lu
  refine ⟨rfl,rfl,u,hu,?_,lu2,M.trans (by have:=lz.foot b;rw [this,yf] at mu;exact mu)⟩
  refine scale_good hn0 oku lu ou (fun q q0 q1=> ?_) (by rw [zt,yt];omega)
  rw [zs,gy]
  have:=gd.sc q q0 q1
  unfold top at*
  by_cases e:q=v
  · subst e;simp;omega
  · simp [e];omega
 refine ⟨_,rfl,_,_,_,cell_add h10.me rfl,h10.ha.ix 0 v0 rfl (by rw [ya];omega) fun a e=> ⟨_,e,?_⟩⟩
 rw [g_nn v0]
 have bk:=gd.ok.pos.back v t.1 t.2
 refine cnd_i (fun tt=> ?_) (fun tt=> ?_)<;>simp only [decide_eq_true_eq,decide_eq_false_iff_not] at tt
 · refine ⟨_,rfl,_,_,_,cell_add h10.me rfl,h10.ha.ix 0 v0 rfl (by rw [ya];omega) fun a e=> ⟨_,e,?_⟩⟩
   rw [ya] at tt ⊢
   rw [g_nn v0,wrap64_of (x:=g x.at_ v - 1) (by omega) (by omega)]
   have hl:g x.l (g x.at_ v - 1)=v:=bk.2.2 tt
   refine (up_spec h10 oky (g x.at_ v - 1) (by omega) (by rw [yl];omega) ?_).mono ?_
   · rw [yl]
     refine Ord.toU gd.ord _ (fun j j0 j1 j2=> ?_) fun _ _=> ?_
     · rw [gy]
       have:g x.l j≠v:=fun e=>j2 (gd.ok.pos.inj j0 j1 (by omega) (by omega) (by rw [e,hl]))
       simp [this]
     · rw [hl,gyv];omega
   · rintro e w19 ⟨rfl,z,hz,okz,lz,oz,mz⟩
     exact ⟨rfl,fin z okz lz oz w19 hz (M10.trans (yf▸mz))⟩
 · refine fin y oky (Lk.refl N y) ?_ w10 h10 M10
   rw [yl]
   have no: ∀j:Int,0≤j→j<x.l.length→g x.l j≠v:=by
    intro j j0 j1 e
    have:=gd.ok.pos.fit j j0 j1
    rw [e] at this
    rw [ya] at tt
    omega
   intro j j1 j2 j3 j4
   have:=gd.ord j j1 j2 j3 j4
   unfold Bt at*
   rw [gy]
   simp only [no j (by omega) j2,no ((j - 1) / 2) (by omega) (by omega),if_false]
   exact this
theorem g_app {l:List Int} {v:Int}:g (l++ [v])=fun j:Int=>if j=l.length then v else g l j:=by
 funext j
 unfold g
 simp only [List.getD_eq_getElem?_getD]
 by_cases hj:j<0
 · simp [hj];omega
 · simp only [if_neg hj]
   by_cases e:j=l.length
   · subst e;simp
   · rw [if_neg e]
     by_cases h2:j.toNat<l.length
     · rw [List.getElem?_append_left h2]
     · rw [List.getElem?_eq_none (by simp;omega),List.getElem?_eq_none (by omega)]
structure Lk1 (N v:Int) (x y:HS):Prop where
 pa:y.pa=x.pa
 ca:y.ca=x.ca
 ps:y.ps=x.ps
 cs:y.cs=x.cs
 a:y.at_.length=x.at_.length
 score:y.score=x.score
 step:y.step=x.step
 has: ∀u,1≤u→u≤N→(0<g y.at_ u↔0<g x.at_ u∨u=v)
theorem push_ok {w:World} {b:Nat} {x:HS} {N:Int} (h:HRep w b x) (gd:HGood x N) (v:Int) (hv:1≤v∧v≤N):Calls prog heap_Heap_Push.id #[ptr b,.int .i64 v] w fun e w'=>
 e= .returned (.int .i64 0)∧∃z,HRep w' b z∧HGood z N∧Lk1 N v x z∧Mod (x.foot b) w w'∧∀k,z.foot b k→x.foot b k∨w.heap.size≤k:=by
 refine heap_Heap_Push.calls ?_
 have hN:=gd.ok.big
 have hna:=gd.ok.na
 have hns:=gd.ok.ns
 have hnl:=gd.ok.nl
 have hn0:=gd.n0
 refine (is_ok h v).mono ?_
 rintro e w1 ⟨rfl,g1⟩
 have h:=h.grow g1
 refine ⟨_,rfl,cnd_f ?_ ?_⟩
 · simp;omega
 have v0:0≤v:=by omega
 refine ⟨_,rfl,_,_,_,cell_add h.me rfl,h.ha.ix 0 v0 rfl (by omega) fun a e=> ⟨_,e,?_⟩⟩
 rw [g_nn v0]
 have bk:=gd.ok.pos.back v hv.1 hv.2
 refine cnd_i (fun tt=> ?_) (fun tt=> ?_)
 · have tt:g x.at_ v=0:=beq_iff_eq.1 tt
   have no: ∀j:Int,0≤j→j<x.l.length→g x.l j≠v:=by
    intro j j0 j1 e
    have:=gd.ok.pos.fit j j0 j1
    rw [e] at this
    omega
   have pp:=gd.ok.pos.push (by omega) hv.1 hv.2 tt
   have hlt:(x.l.length:Int)+1≤N:=by
    have:Pos (fun j=>if j=(x.l.length:Int) then v else g x.l j) (fun u=>if u=v then (x.l.length:Int)+1 else g x.at_ u) ((x.l.length+1:Nat):Int) ((N.toNat:Nat):Int):=by
     rw [Int.toNat_of_nonneg hn0]
     exact pp
    have:=this.le
    omega
   refine ⟨_,rfl,_,_,_,cell_add h.me rfl,?_⟩
   intro n9 w10 hn9
   have hx:=h.grow hn9.mod
   have G10:Grow w w10:=g1.trans hn9.mod
   refine hx.hl.app1 sl_int v hn9.has rfl rfl oneInt (by omega) fun w11 p' c' o m hp hsz=> ?_
   have S: ∀k,blk p'=some k→blk x.pl=some k∨w10.heap.size≤k:=by
    intro k hk
    rcases hp with rfl|rfl
    · exact .inl hk
    · right;simp [blk] at hk;omega
   have hlts:=hx.lt
   have m1:=hx.me.keep m hx.bl
   refine ⟨_,rfl,store_f m1 rfl rfl fun w14 o14 m14=> ?_⟩
   have pb:blk p'≠some b:=fun e=>by
    rcases S b e with e2|e2
    · exact hx.bl e2
    · have:=hlts b (.inl rfl);omega
   generalize hy:({x with l:=x.l++ [v],pl:=p',cl:=c'}:HS)=y
   have h14:HRep w14 b y:=by
    rw [← hy]
    refine ⟨?_,o.keep m14 fun k hk e=>pb (e▸hk),(hx.ha.keep m fun k hk hk'=>hx.la k hk' hk).keep m14 fun k hk e=>hx.ba (e▸hk),(hx.hs.keep m fun k hk hk'=>hx.ls k hk' hk).keep m14 fun k hk e=>hx.bs (e▸hk),pb,hx.ba,hx.bs,?_,?_,hx.sa⟩
    · have e:(x.l++ [v]).length=x.l.length+1:=by simp
      show Has w14 b #[.slice p' (x.l++ [v]).length c',_,_,_]
      rw [e];exact o14
    · intro k hk hk'
      rcases S k hk with e|e
      · exact hx.la k e hk'
      · have:=hlts k (.inr (.inr (.inl hk')));omega
    · intro k hk hk'
      rcases S k hk with e|e
      · exact hx.ls k e hk'
      · have:=hlts k (.inr (.inr (.inr hk')));omega
   have M14:Mod (x.foot b) w w14:=(((G10.mono fun _ _ h=>h.elim).trans (m.mono fun k _ hk=> .inr (.inl hk))).trans (m14.mono fun k _ hk=> .inl hk))
   have yl:y.l=x.l++ [v]:=by rw [← hy]
   have yll:y.l.length=x.l.length+1:=by rw [yl];simp
   have ya:y.at_=x.at_:=by rw [← hy]
   have ys:y.score=x.score:=by rw [← hy]
   have yt:y.step=x.step:=by rw [← hy]
   have yf: ∀k,y.foot b k→x.foot b k∨w.heap.size≤k:=by
    rw [← hy]
    rintro k (e|e|e|e)
    · exact .inl (.inl e)
    · rcases S k e with e|e
      · exact .inl (.inr (.inl e))
      · right;have:=G10.size;omega
    · exact .inl (.inr (.inr (.inl e)))
    · exact .inl (.inr (.inr (.inr e)))
   have h14:=h14.drew
   refine ⟨_,rfl,_,_,_,cell_add h14.me rfl,_,rfl,_,_,_,cell_add h14.me rfl,h14.ha.st ((y.l.length:Nat):Int) rfl rfl v0 rfl (by rw [ya];omega) fun w20 o20 m20=> ?_⟩
   have h20:=h14.setA (by simp) o20 m20
   generalize hz:({y with at_:=y.at_.set v.toNat ((y.l.length:Nat):Int)}:HS)=z at h20
   have zl:z.l=y.l:=by rw [← hz]
   have zs:z.score=x.score:=by rw [← hz];exact ys
   have zt:z.step=x.step:=by rw [← hz];exact yt
   have zll:z.l.length=x.l.length+1:=by rw [zl,yll]
   have za:g z.at_=fun u=>if u=v then (x.l.length:Int)+1 else g x.at_ u:=by
    rw [← hz]
    show g (y.at_.set v.toNat ((y.l.length:Nat):Int))=_
    rw [g_set v0 (by rw [ya];omega),ya,yll]
    funext u;split<;>omega
   have zL:g z.l=fun j:Int=>if j=x.l.length then v else g x.l j:=by rw [zl,yl,g_app]
   have zal:z.at_.length=x.at_.length:=by rw [← hz];simp [ya]
   have zf:z.foot b=y.foot b:=by rw [← hz];rfl
   have M20:Mod (x.foot b) w w20:=M14.drew.then m20 fun k hk e=> (yf k (.inr (.inr (.inl e)))).resolve_right (by omega)
   have okz:HOk z N:=by
    refine ⟨by rw [zal];exact hna,by rw [zs];exact hns,hN,?_,by rw [zll];omega⟩
    rw [zL,za,zll]
    exact pp
   refine ⟨_,rfl,_,_,_,cell_add h20.me rfl,?_⟩
   have ei:i64.wrap ((z.l.length:Int) - 1)=(x.l.length:Int):=by rw [zll,wrap64_of (by omega) (by omega)];omega
   rw [ei]
   refine (up_spec h20 okz (x.l.length:Int) (by omega) (by rw [zll];omega) ?_).mono ?_
   · rw [zs,zL,zll]
     constructor
     · intro j j1 j2 j3
       have:=gd.ord j j1 (by omega) (by omega) (by omega)
       simp only [j3,if_false,show ¬(j - 1) / 2=(x.l.length:Int) by omega]
       exact this
     · intro j j1 j2 j3 j4;omega
   · rintro e w23 ⟨rfl,q,hq,okq,lq,oq,mq⟩
     refine ⟨rfl,rfl,q,hq,⟨okq,hn0,by rw [lq.score];exact oq,fun u u0 u1=>by rw [lq.score,zs];exact gd.sc u u0 u1,by rw [lq.step,zt];exact gd.st⟩,?_,?_,?_⟩
     · refine ⟨by rw [lq.pa,← hz,← hy],by rw [lq.ca,← hz,← hy],by rw [lq.ps,← hz,← hy],by rw [lq.cs,← hz,← hy],by rw [lq.a,zal],by rw [lq.score,zs],by rw [lq.step,zt],fun u u0 u1=> ?_⟩
       rw [lq.has u u0 u1,za]
       by_cases e:u=v
       · simp [e]
       · simp [e]
     · exact M20.then mq fun k hk e=> (yf k (zf▸e)).resolve_right (by omega)
     · intro k hk
       rw [lq.foot b,zf] at hk
       exact yf k hk
 · have tt:g x.at_ v≠0:=beq_eq_false_iff_ne.1 tt
   refine ⟨rfl,x,h,gd,⟨rfl,rfl,rfl,rfl,rfl,rfl,rfl,fun u u0 u1=> ⟨.inl,?_⟩⟩,g1.mono fun _ _ h=>h.elim,fun _=> .inl⟩
   rintro (h|rfl)
   · exact h
   · omega
structure Lk0 (N v:Int) (x y:HS):Prop where
 pa:y.pa=x.pa
 ca:y.ca=x.ca
 ps:y.ps=x.ps
 cs:y.cs=x.cs
 a:y.at_.length=x.at_.length
 score:y.score=x.score
 step:y.step=x.step
 has: ∀u,1≤u→u≤N→(0<g y.at_ u↔0<g x.at_ u∧u≠v)
theorem pop_no {w:World} {b:Nat} {x:HS} (h:HRep w b x) (h0:x.l.length=0):Calls prog heap_Heap_Pop.id #[ptr b] w fun e w'=>
 e= .returned (.tuple #[.int .i64 0,.bool false])∧HRep w' b x∧Grow w w':=by
 refine heap_Heap_Pop.calls ?_
 refine (best_ok h (by omega)).mono ?_
 rintro e w1 ⟨rfl,g1⟩
 exact ⟨_,_,rfl,cnd_t (by simp [h0]) ⟨rfl,h.grow g1,g1⟩⟩
theorem g_take {l:List Int} {k:Nat} {j:Int} (h:j<k):g (l.take k) j=g l j:=by
 unfold g
 simp only [List.getD_eq_getElem?_getD]
 split
 · rfl
 · rw [List.getElem?_take,if_pos (by omega)]
theorem Pos.congr {L A L' A':Int→Int} {n N:Int} (h:Pos L A n N) (hL: ∀j,0≤j→j<n→L' j=L j) (hA: ∀u,1≤u→u≤N→A' u=A u):Pos L' A' n N:=by
 constructor
 · intro j j0 j1
   have f:=h.fit j j0 j1
   rw [hL j j0 j1,hA _ f.1 f.2.1];exact f
 · intro v v1 v2
   have f:=h.back v v1 v2
   rw [hA v v1 v2]
   exact ⟨f.1,f.2.1,fun hp=>by rw [hL _ (by omega) (by omega)];exact f.2.2 hp⟩
theorem pop_ok {w:World} {b:Nat} {x:HS} {N:Int} (h:HRep w b x) (gd:HGood x N) (h0:x.l.length≠0):Calls prog heap_Heap_Pop.id #[ptr b] w fun e w'=>
 e= .returned (.tuple #[.int .i64 (g x.l 0),.bool true])∧∃z,HRep w' b z∧HGood z N∧Lk0 N (g x.l 0) x z∧z.l.length+1=x.l.length∧Mod (x.foot b) w w'∧z.foot b=x.foot b:=by
 refine heap_Heap_Pop.calls ?_
 have hN:=gd.ok.big
 have hna:=gd.ok.na
 have hns:=gd.ok.ns
 have hnl:=gd.ok.nl
 have hn0:=gd.n0
 obtain ⟨n,hn⟩: ∃n,x.l.length=n+1:=⟨x.l.length - 1,by omega⟩
 refine (best_ok h (by omega)).mono ?_
 rintro e w1 ⟨rfl,g1⟩
 have h:=h.grow g1
 refine ⟨_,_,rfl,?_⟩
 rw [if_neg h0,decide_eq_true h0]
 have f0:=gd.ok.pos.fit 0 (Int.le_refl _) (by omega)
 have fn:=gd.ok.pos.fit n (by omega) (by omega)
 have en:i64.wrap ((x.l.length:Int) - 1)=(n:Int):=by rw [wrap64_of (by omega) (by omega)];omega
 refine cnd_f rfl ⟨_,rfl,_,_,_,cell_add h.me rfl,?_⟩
 rw [en]
 refine ⟨_,rfl,_,_,_,cell_add h.me rfl,h.hl.ix 0 (by omega) rfl (by omega) fun a8 e8=> ⟨_,e8,_,rfl,_,_,_,cell_add h.me rfl,?_⟩⟩
 rw [g_nn (by omega)]
 have hc:n≤x.cl:=by
  rcases h.hl.un with ⟨_,_,e⟩| ⟨_,_,_,_,e,_⟩
  · simp [e] at h0
  · omega
 refine slK_i 0 n x.cl rfl rfl rfl (Nat.le_refl _) hc (Nat.zero_le _) ?_
 have ep:(if x.cl=0 then x.pl else x.pl.map (·.add (0*1)))=x.pl:=by
  split
  · rfl
  · cases x.pl<;>simp [Addr.add]
 rw [ep,Nat.sub_zero,Nat.sub_zero]
 refine ⟨_,rfl,store_f h.me rfl rfl fun w14 o m=> ?_⟩
 generalize hy:({x with l:=x.l.take n}:HS)=y
 have h14:HRep w14 b y:=by
  rw [← hy]
  have ht:=h.hl.take (k:=n) (by omega)
  refine ⟨?_,ht.keep m fun k hk e=>h.bl (e▸hk),h.ha.keep m fun k hk e=>h.ba (e▸hk),h.hs.keep m fun k hk e=>h.bs (e▸hk),h.bl,h.ba,h.bs,h.la,h.ls,h.sa⟩
  have e:(x.l.take n).length=n:=by simp;omega
  show Has w14 b #[.slice x.pl (x.l.take n).length x.cl,_,_,_]
  rw [e];exact o
 have M14:Mod (x.foot b) w w14:=(g1.mono fun _ _ h=>h.elim).trans (m.mono fun k _ hk=> .inl hk)
 have yl:y.l=x.l.take n:=by rw [← hy]
 have yll:y.l.length=n:=by rw [yl];simp;omega
 have ya:y.at_=x.at_:=by rw [← hy]
 have yf:y.foot b=x.foot b:=by rw [← hy];rfl
 refine ⟨_,rfl,_,_,_,cell_add h14.me rfl,h14.ha.st 0 rfl rfl (by omega) rfl (by rw [ya];omega) fun w18 o18 m18=> ?_⟩
 have h18:=h14.setA (by simp) o18 m18
 generalize hz:({y with at_:=y.at_.set (g x.l 0).toNat 0}:HS)=z at h18
 have zl:z.l=y.l:=by rw [← hz]
 have zll:z.l.length=n:=by rw [zl,yll]
 have zs:z.score=x.score:=by rw [← hz,← hy]
 have zt:z.step=x.step:=by rw [← hz,← hy]
 have zf:z.foot b=x.foot b:=by rw [← yf,← hz];rfl
 have zal:z.at_.length=x.at_.length:=by rw [← hz];simp [ya]
 have za:g z.at_=fun u=>if u=g x.l 0 then 0 else g x.at_ u:=by
  rw [← hz]
  show g (y.at_.set (g x.l 0).toNat 0)=_
  rw [g_set (by omega) (by rw [ya];omega),ya]
 have M18:Mod (x.foot b) w w18:=M14.trans (m18.mono fun k _ hk=>by rw [← yf];exact .inr (.inr (.inl hk)))
 have pp:=Pos.pop (n:=(n:Int)) (by have:=gd.ok.pos;rw [hn] at this;exact this) (by omega) rfl
 have zpa:z.pa=x.pa:=by rw [← hz,← hy]
 have zca:z.ca=x.ca:=by rw [← hz,← hy]
 have zps:z.ps=x.ps:=by rw [← hz,← hy]
 have zcs:z.cs=x.cs:=by rw [← hz,← hy]
 refine cnd_i (fun t=> ?_) (fun t=> ?_)<;>simp only [decide_eq_true_eq,decide_eq_false_iff_not] at t
 · have n0:(n:Int)≠0:=by omega
   refine (put_spec h18 0 (g x.l n) (Int.le_refl _) (by rw [zll];omega) (by omega) (by rw [zal];omega) (by rw [zll];omega)).mono ?_
   rintro e w19 ⟨rfl,h19,m19⟩
   have pl19:g (z.put 0 (g x.l n)).l=fun j=>if j=0 then g x.l n else g z.l j:=put_l (Int.le_refl _) (by rw [zll];omega)
   have pa19:g (z.put 0 (g x.l n)).at_=fun u=>if u=g x.l n then 0+1 else g z.at_ u:=put_a (by omega) (by rw [zal];omega)
   have pl20: ∀j:Int,0≤j→j<n→g (z.put 0 (g x.l n)).l j=if j=0 then g x.l n else g x.l j:=by
    intro j j0 j1
    rw [pl19]
    show (if j=0 then g x.l n else g z.l j)=_
    split
    · rfl
    · rw [zl,yl,g_take (by omega)]
   have ok19:HOk (z.put 0 (g x.l n)) N:=by
    refine ⟨by simpa [HS.put,zal] using hna,by show (z.score.length:Int)=_;rw [zs];exact hns,hN,?_,by simp [HS.put,zll];omega⟩
    have e1:((z.put 0 (g x.l n)).l.length:Int)=n:=by simp [HS.put,zll]
    rw [e1]
    refine Pos.congr pp pl20 fun u u0 u1=> ?_
    rw [pa19,za]
    simp only [if_neg n0]
    rfl
   refine ⟨rfl,?_⟩
   have e1:(z.put 0 (g x.l n)).l.length=n:=by simp [HS.put,zll]
   refine (fall_spec h19 ok19 0 (Int.le_refl _) (by rw [e1];omega) 0 (Int.le_refl _) ⟨?_,fun j j1 j2 j3 j4=>by omega⟩).mono ?_
   · rw [e1]
     show Ord (g z.score) _ _ _ _
     rw [zs]
     intro j j1 j2 j3 j4
     rw [pl20 j (by omega) j2,pl20 ((j - 1) / 2) (by omega) (by omega),if_neg (by omega),if_neg j4]
     exact gd.ord j j1 (by omega) (by omega) (by omega)
   · rintro e w20 ⟨rfl,q,hq,okq,lq,oq,mq⟩
     have qs:q.score=x.score:=lq.score.trans zs
     have pf:(z.put 0 (g x.l n)).foot b=x.foot b:=zf
     refine ⟨rfl,rfl,q,hq,⟨okq,hn0,?_,fun u u0 u1=>by rw [qs];exact gd.sc u u0 u1,by rw [show q.step=x.step from lq.step.trans zt];exact gd.st⟩,?_,?_,?_,?_⟩
     · rw [qs,← zs];exact oq
     · refine ⟨lq.pa.trans zpa,lq.ca.trans zca,lq.ps.trans zps,lq.cs.trans zcs,lq.a.trans (by simp [HS.put,zal]),qs,lq.step.trans zt,fun u u0 u1=> ?_⟩
       rw [lq.has u u0 u1,pa19,za]
       have hne:g x.l n≠g x.l 0:=fun e=>by have:=gd.ok.pos.inj (by omega) (by omega) (Int.le_refl 0) (by omega) e;omega
       by_cases e1:u=g x.l n
       · subst e1;simp [hne];omega
       · by_cases e2:u=g x.l 0
         · simp [e2,Ne.symm hne]
         · simp [e1,e2]
     · have:=lq.l;omega
     · exact (M18.trans (zf▸m19)).trans (pf▸mq)
     · rw [lq.foot b,pf]
 · have n0:n=0:=by omega
   subst n0
   refine ⟨rfl,z,h18,⟨⟨by rw [zal];exact hna,by rw [zs];exact hns,hN,?_,by rw [zll];omega⟩,hn0,?_,fun u u0 u1=>by rw [zs];exact gd.sc u u0 u1,by rw [zt];exact gd.st⟩,⟨zpa,zca,zps,zcs,zal,zs,zt,fun u u0 u1=> ?_⟩,by rw [zll,hn],M18,zf⟩
   · rw [zll]
     refine Pos.congr pp (fun j j0 j1=>by omega) fun u u0 u1=> ?_
     rw [za]
     show (if u=g x.l 0 then 0 else g x.at_ u)=if u=g x.l ((0:Nat):Int) then (if ((0:Nat):Int)=0 then 0 else 1) else if u=g x.l 0 then 0 else g x.at_ u
     split
     · subst_vars;simp
     · rename_i hne;rw [if_neg (by simpa using hne)]
   · rw [zll];intro j j1 j2;omega
   · rw [za]
     by_cases e:u=g x.l 0
     · simp [e]
     · simp [e]
end
section
theorem int_zero:(Tryz.prog.info? ty_int).bind (·.zero)=some (.int .i64 0):=by kernel_rfl
theorem g_rep (n:Nat) (v:Int):g (List.replicate n 0) v=0:=by
 unfold g
 split
 · rfl
 · simp only [List.getD_eq_getElem?_getD,List.getElem?_replicate];split<;>rfl
structure Fresh (x:HS) (n t:Nat):Prop where
 l:x.l.length=t
 lj: ∀j:Int,0≤j→j<t→g x.l j=j+1
 a:x.at_.length=n+1
 au: ∀u:Int,0≤u→u≤n→g x.at_ u=if u≤t then u else 0
 s:x.score=List.replicate (n+1) 0
 st:x.step=64
theorem Fresh.good {x:HS} {n:Nat} (h:Fresh x n n) (hn:n≤1048576):HGood x n:=by
 have hl:=h.l
 refine ⟨⟨by rw [h.a];omega,by rw [h.s];simp,by omega,⟨fun j j0 j1=> ?_,fun v v1 v2=> ?_⟩,by rw [hl];omega⟩,by omega,fun j j1 j2 j3 j4=> ?_,fun v _ _=> ?_,by rw [h.st];decide⟩
 · have:=h.lj j j0 (by omega)
   rw [this,h.au _ (by omega) (by omega)]
   refine ⟨by omega,by omega,?_⟩
   rw [if_pos (by omega)]
 · rw [h.au v (by omega) v2,if_pos v2]
   refine ⟨by omega,by omega,fun _=> ?_⟩
   rw [h.lj _ (by omega) (by omega)];omega
 · rw [h.lj j (by omega) (by omega),h.lj _ (by omega) (by omega),h.s]
   unfold Bt
   rw [g_rep,g_rep];omega
 · rw [h.s,g_rep];decide
theorem new_ok {w:World} (n:Nat) (hn:n≤1048576):Calls prog heap_New.id #[.int .i64 n] w fun e w'=> ∃b x,e= .returned (.tuple #[ptr b,.int .i64 0])∧HRep w' b x∧Fresh x n n∧(∀k,x.foot b k→w.heap.size≤k)∧Grow w w':=by
 refine heap_New.calls ?_
 refine cnd_f (decide_eq_false (by omega)) (cnd_f (decide_eq_false (by omega)) ?_)
 have e1:i64.wrap ((n:Int)+1)=((n+1:Nat):Int):=by rw [wrap64_of (by omega) (by omega)];omega
 rw [e1]
 have made: ∀ (b:Nat) (x:HS) (w6:World),HRep w6 b x→Fresh x n 0→(∀k,x.foot b k→w.heap.size≤k)→Grow w w6→
  ∃I7:Int→World→Nat→Prop,(∃k8,I7 1 w6 k8)∧
   ∀ (v_10:Int) (w11:World) (k8:Nat) (_:Fr),I7 v_10 w11 k8→
   cnd (decide (v_10≤(n:Int)))
    (∃a12,(some (Addr.mk b 0 none))=some a12∧∃x13p x13n x13c,w11.cell? (a12.add 0)=some (.slice x13p x13n x13c)∧
      ∀n14 w15,New (.cells #[.int .i64 v_10] ty_int) w11 n14 w15→
      ∃w16 r17p r17n r17c,(Builtin.append_ #[ty_sl_int,ty_sl_int] ty_sl_int #[.slice x13p x13n x13c,.slice (some (Addr.mk n14 0 none)) 1 1]).run prog w15= .ok (.slice r17p r17n r17c) w16∧
      ∃a18,(some (Addr.mk b 0 none))=some a18∧∃w19,StoreAt (a18.add 0) 0 [.slice r17p r17n r17c] w16 w19∧
      ∃a20,(some (Addr.mk b 0 none))=some a20∧∃x21p x21n x21c,w19.cell? (a20.add 1)=some (.slice x21p x21n x21c)∧
      ixK x21p x21n v_10 1 fun a22=>
      ∃w23,StoreAt a22 0 [.int .i64 v_10] w19 w23∧
      ∃k9,k9<k8∧I7 (i64.wrap (v_10+ (1:Int))) w23 k9)
    (∃b' x,Ending.returned (.tuple #[.pointer (some (Addr.mk b 0 none)),.int .i64 0])= .returned (.tuple #[ptr b',.int .i64 0])∧HRep w11 b' x∧Fresh x n n∧(∀k,x.foot b' k→w.heap.size≤k)∧Grow w w11):=by
  intro b x w6 h f hf G
  refine ⟨fun v w' k=> ∃ (t:Nat) (y:HS),v=t+1∧t≤n∧HRep w' b y∧Fresh y n t∧(∀k,y.foot b k→w.heap.size≤k)∧Grow w w'∧k+t=n,⟨n,0,x,by omega,by omega,h,f,hf,G,by omega⟩,?_⟩
  clear h f hf G
  rintro v w11 k _ ⟨t,x,rfl,ht,h,f,hf,G,hk⟩
  refine cnd_i (fun tt=> ?_) (fun tt=> ?_)<;>simp only [decide_eq_true_eq,decide_eq_false_iff_not] at tt
  · refine ⟨_,rfl,_,_,_,cell_add h.me rfl,?_⟩
    intro n9 w10 hn9
    have hx:=h.grow hn9.mod
    have G10:Grow w w10:=G.trans hn9.mod
    have hl:=f.l
    refine hx.hl.app1 sl_int ((t:Int)+1) hn9.has rfl rfl oneInt (by omega) fun w11 p' c' o m hp hsz=> ?_
    have hlts:=hx.lt
    have S: ∀k,blk p'=some k→blk x.pl=some k∨w10.heap.size≤k:=by
     intro k hk
     rcases hp with rfl|rfl
     · exact .inl hk
     · right;simp [blk] at hk;omega
    have S2: ∀k,blk p'=some k→w.heap.size≤k:=fun k hk=> (S k hk).elim (fun e=>hf k (.inr (.inl e))) (fun e=>Nat.le_trans G10.size e)
    have m1:=hx.me.keep m hx.bl
    refine ⟨_,rfl,store_f m1 rfl rfl fun w14 o14 m14=> ?_⟩
    have pb:blk p'≠some b:=fun e=>by
     rcases S b e with e2|e2
     · exact hx.bl e2
     · have:=hlts b (.inl rfl);omega
    have h14:HRep w14 b {x with l:=x.l++ [(t:Int)+1],pl:=p',cl:=c'}:=by
     refine ⟨?_,o.keep m14 fun k hk e=>pb (e▸hk),(hx.ha.keep m fun k hk hk'=>hx.la k hk' hk).keep m14 fun k hk e=>hx.ba (e▸hk),(hx.hs.keep m fun k hk hk'=>hx.ls k hk' hk).keep m14 fun k hk e=>hx.bs (e▸hk),pb,hx.ba,hx.bs,?_,?_,hx.sa⟩
     · have e:(x.l++ [(t:Int)+1]).length=x.l.length+1:=by simp
       show Has w14 b #[.slice p' (x.l++ [(t:Int)+1]).length c',_,_,_]
       rw [e];exact o14
     · intro k hk hk'
       rcases S k hk with e|e
       · exact hx.la k e hk'
       · have:=hlts k (.inr (.inr (.inl hk')));omega
     · intro k hk hk'
       rcases S k hk with e|e
       · exact hx.ls k e hk'
       · have:=hlts k (.inr (.inr (.inr hk')));omega
    have G11:Grow w w11:=G10.then m fun k hk e=>by have:=hf k (.inr (.inl e));omega
    have G14:Grow w w14:=G11.then m14 fun k hk e=>by have:=hf b (.inl rfl);omega
    refine ⟨_,rfl,_,_,_,cell_add h14.me rfl,h14.ha.st ((t:Int)+1) rfl rfl (by omega) rfl (by have:=f.a;show (t:Int)+1< (x.at_.length:Int);omega) fun w20 o20 m20=> ?_⟩
    have h20:=h14.setA (by simp) o20 m20
    refine ⟨k - 1,by omega,t+1,_,?_,by omega,h20,?_,?_,?_,by omega⟩
    · rw [wrap64_of (by omega) (by omega)];omega
    · refine ⟨by simp [hl],fun j j0 j1=> ?_,by simpa using f.a,fun u u0 u1=> ?_,f.s,f.st⟩
      · show g (x.l++ [(t:Int)+1]) j=j+1
        rw [g_app]
        show (if j=(x.l.length:Int) then (t:Int)+1 else g x.l j)=j+1
        split
        · omega
        · exact f.lj j j0 (by omega)
      · show g (x.at_.set ((t:Int)+1).toNat ((t:Int)+1)) u=_
        rw [g_set (by omega) (by have:=f.a;omega)]
        show (if u=(t:Int)+1 then (t:Int)+1 else g x.at_ u)=_
        rw [f.au u u0 u1]
        split
        · rw [if_pos (by omega)];omega
        · split
          · rw [if_pos (by omega)]
          · rw [if_neg (by omega)]
    · rintro k (e|e|e|e)
      · exact hf k (.inl e)
      · exact S2 k e
      · exact hf k (.inr (.inr (.inl e)))
      · exact hf k (.inr (.inr (.inr e)))
    · exact G14.then m20 fun k hk e=>by have:=hf k (.inr (.inr (.inl e)));omega
  · have:t=n:=by omega
    subst this
    exact ⟨b,x,rfl,h,f,hf,G⟩
 have G0:Grow w w.drew:=(Mod.refl w).drew
 have s0:w.drew.heap.size=w.heap.size:=rfl
 refine ⟨?_,?_⟩<;>refine make_i sl_int int_zero (f:=Value.int .i64) (x:=0) rfl (n+1) rfl (by omega) fun w1 o1 g1 z1=>make_i sl_int int_zero (f:=Value.int .i64) (x:=0) rfl (n+1) rfl (by omega) fun w3 o3 g3 z3=> ?_<;>intro n5 w6 hn5<;>have o1':=(o1.grow g3).grow hn5.mod<;>have o3':=o3.grow hn5.mod<;>have hnum:=hn5.num
 · refine made n5 ⟨none,0,some ⟨w.heap.size,0,none⟩,n+1,some ⟨w1.heap.size,0,none⟩,n+1,[],List.replicate (n+1) 0,List.replicate (n+1) 0,64⟩ w6 ⟨?_,Ow.nil _ _ _,o1',o3',?_,?_,?_,?_,?_,?_⟩ ⟨rfl,fun j j0 j1=>by omega,by simp,fun u u0 u1=> ?_,rfl,rfl⟩ ?_ (((G0.trans g1).trans g3).trans hn5.mod)
   · have:=hn5.has
     simpa using this
   · simp [blk]
   · simp [blk];omega
   · simp [blk];omega
   · simp [blk]
   · simp [blk]
   · simp [blk];omega
   · rw [g_rep];split<;>omega
   · rintro k (e|e|e|e)<;> (try simp [blk] at e)<;>omega
 · refine made n5 ⟨none,0,some ⟨w1.heap.size,0,none⟩,n+1,some ⟨w.heap.size,0,none⟩,n+1,[],List.replicate (n+1) 0,List.replicate (n+1) 0,64⟩ w6 ⟨?_,Ow.nil _ _ _,o3',o1',?_,?_,?_,?_,?_,?_⟩ ⟨rfl,fun j j0 j1=>by omega,by simp,fun u u0 u1=> ?_,rfl,rfl⟩ ?_ (((G0.trans g1).trans g3).trans hn5.mod)
   · have:=hn5.has
     simpa using this
   · simp [blk]
   · simp [blk];omega
   · simp [blk];omega
   · simp [blk]
   · simp [blk]
   · simp [blk];omega
   · rw [g_rep];split<;>omega
   · rintro k (e|e|e|e)<;> (try simp [blk] at e)<;>omega
end
end Go.Proofs.YtddffgjagppimaaGreat.W.Hp
