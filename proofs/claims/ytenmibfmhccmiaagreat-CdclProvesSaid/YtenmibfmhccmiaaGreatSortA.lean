/- Sorting by swaps, plain. -/
import Derived.Test.YtenmibfmhccmiaaGreatGenCdcl
import Derived.Shelf.SlSortCmp.NoneTotal
import Derived.Test.YtenmibfmhccmiaaGreatHeapA
import Derived.Test.YtenmibfmhccmiaaGreatFwRead
namespace Go.SoP
def qI (l:List Int) (i j:Nat):List Int:=(l.set i (l.getD j 0)).set j (l.getD i 0)
theorem rE (l:List Int) (i j:Nat):(qI l i j).length=l.length:=by simp [qI]
theorem jc {l:List Int} {i j:Nat} {x:Int} (hi:i<l.length):(l.set i x).getD j 0=if j=i then x else l.getD j 0:=by
 simp only [List.getD_eq_getElem?_getD,List.getElem?_set];by_cases h:j=i
 . subst h;simp [hi]
 . rw [if_neg (fun e=>h e.symm),if_neg h]
theorem kL {l:List Int} {i j:Nat} (hi:i<l.length) (I:j<l.length) (k:Nat):(qI l i j).getD k 0=if k=j then l.getD i 0 else if k=i then l.getD j 0 else l.getD k 0:=by
 unfold qI;rw [jc (by simpa using I),jc hi]
theorem wI {l:List Int} {i j:Nat} (hi:i<l.length) (I:j<l.length):(qI l i j).Perm l:=by
 rw [List.perm_iff_count];intro x;unfold qI;rw [List.count_set (by simpa using I),List.count_set hi];have Q:l[i]=l.getD i 0:=by simp [List.getD,hi]
 have V:(l.set i (l.getD j 0))[j]'(by simpa using I)=if i=j then l.getD j 0 else l.getD j 0:=by
  rw [List.getElem_set];split
  . rfl
  . simp [List.getD,I]
 rw [Q,V];have U:l.getD i 0=x->0<List.count x l:=fun h=>List.count_pos_iff.2 (by rw [<- h];simp [List.getD,hi]);have O:l.getD j 0=x->0<List.count x l:=fun h=>List.count_pos_iff.2 (by rw [<- h];simp [List.getD,I]);simp only [ite_self];by_cases h1:l.getD i 0=x<;>by_cases J:l.getD j 0=x<;>simp only [h1,J,beq_self_eq_true,if_true,beq_iff_eq,if_false]<;> (first|omega| (have:=U h1;omega)| (have:=O J;omega))
section
variable (c:Int->Int->Int)
def Le (x y:Int):Prop:= ¬c y x<0
structure Ord:Prop where
 IR: ∀ {x y},c x y<0->¬c y x<0
 trans: ∀ {x y z},Le c x y->Le c y z->Le c x z
def rz (l:List Int) (a b:Nat):Prop:= ∀i j,a<=i->i<j->j<b->Le c (l.getD i 0) (l.getD j 0)
end
variable {c:Int->Int->Int}
theorem Ord.lt {x y:Int} (o:Ord c) (h:c x y<0):Le c x y:=o.IR h
theorem Ord.rfl {x:Int} (o:Ord c):Le c x x:=fun h=>o.IR h h
theorem Ord.Hw {x y z:Int} (o:Ord c) (h:c x y<0) (k:Le c y z):c x z<0:=by
 by_cases e:c x z<0
 . exact e
 . exact absurd h (o.trans k e)
theorem Ord.Nf {x y z:Int} (o:Ord c) (h:Le c x y) (k:c y z<0):c x z<0:=by
 by_cases e:c x z<0
 . exact e
 . exact absurd k (o.trans e h)
end Go.SoP
namespace Go.Proofs.YtenmibfmhccmiaaGreat.W
open Go
section
def Mq:Go.Shelf.Ren:=⟨fun|6=>135|15=>178|14=>177|28=>212|29=>213|20=>204|21=>205|22=>206|23=>207|24=>208|25=>209|26=>210|27=>211|46=>218|47=>219|48=>220|49=>221|50=>222|57=>223|n=>n,fun|22=>28|24=>3|25=>164|39=>193|53=>222|55=>224|46=>216|45=>215|50=>138|66=>226|70=>230|76=>232|77=>233|n=>n,id⟩
end
section
open Go.Fw Go.RowKit Go.SoP
abbrev Bk (p:Option Addr):Nat->Prop:=fun b=>aJ p=some b
theorem wN {x:Int} {i:Nat} (h:x=i) (hb:i<9223372036854775808):IntKind.i64.wrap x=i:=by
 subst h;exact aD (by omega) (by omega)
theorem J3 {P:Program} {n:FuncId} {B:Func} (h1:((P.funcs[n]?.getD B).name== "runtime.NumGoroutine")=false) (I:P.funcs[n]? =some {B with name:=(P.funcs[n]?.getD B).name}):Bears P n B:=⟨_,h1,I⟩
theorem MD:SlLaysF.n6 Tryz.prog Mq:=by
 constructor;all_goals first|kernel_rfl| (intro w;kernel_rfl)|exact J3 (by kernel_rfl) (by kernel_rfl)
def tg (w w':World):Prop:= ∃q os,w'=Sort.grow (w.drewN q) os
theorem tg.refl (w:World):tg w w:=⟨0,#[],by simp [Sort.grow,World.drewN]⟩
theorem tg.trans {a b c:World} (h:tg a b) (k:tg b c):tg a c:=by
 obtain ⟨q,os,rfl⟩:=h;obtain ⟨J,I,rfl⟩:=k;exact ⟨q+J,os++I,by unfold Sort.grow World.drewN;simp only [Array.append_assoc,Nat.add_assoc]⟩
theorem tg.drew {a b:World} (h:tg a b):tg a b.drew:=h.trans ⟨1,#[],by rw [Sort.grow_empty];rfl⟩
theorem tg.grow {a b:World} (h:tg a b):ao a b:=by
 obtain ⟨q,os,rfl⟩:=h;refine ⟨rfl,rfl,rfl,by simp [Sort.grow,World.drewN],fun k I _=> ?_⟩;show (a.heap++os)[k]? =_;rw [Array.getElem?_append_left I]
structure Cx (w0:World) (p:Option Addr) (n:Nat) (l0:List Int) (fid:FuncId) (fv:Array Value) (cf:Int->Int->Int):Prop where
 hn:n=l0.length
 hm:n<=1152921504606846976
 he:fX Tryz.prog fid=true
 hf: ∀x∈l0,∀y∈l0,∀w,aF (Bk p) w0 w->Calls Tryz.prog fid (#[]++ #[.int .i64 x,.int .i64 y]++fv) w fun e w2=>e= .returned (.int .i64 (cf x y))/\tg w w2
 o:Ord cf
variable {w0 w:World} {p:Option Addr} {n c:Nat} {l0 l:List Int} {fid:FuncId} {fv:Array Value} {cf:Int->Int->Int}
theorem vP {P:Program} {g:FuncId} (h:fX P g=true) (J:Array Value) (w:World):(callFunc g J).run P w= .ok (.enter g J) w:=by
 unfold fX at h;unfold callFunc;simp only [Sem.run_bind,run_program,Result.andThen_ok];split at h
 . rename_i fn I;simp only [Bool.and_eq_true,bne_iff_ne,ne_eq] at h;simp only [I];have h1:(fn.name== "runtime.NumGoroutine")=false:=by simpa using h.2
   have Q:fn.body.isNone=false:=by cases O:fn.body<;>simp_all
   simp [h1,Q]
 . simp at h
theorem DU {α:Type} [Inhabited α] (enc:α->Value) (w:World) (b m:Nat) (d:Array α) (os:Array Obj):aF (fun k=>k=b) w (sortWorld enc w b 0 m d os):=by
 refine ⟨rfl,rfl,rfl,?_,fun k J I=> ?_⟩
 . simp [sortWorld,Sort.grow,Sort.putRow,Sort.mapBlock,Sort.ahead]
 . show ((w.heap.modify b _)++os)[k]? =_;rw [Array.getElem?_append_left (by simpa using J),Array.getElem?_modify,if_neg fun e=>I e.symm]
theorem yS (X:Cx w p n l fid fv cf) (h:da aC w p c l):
 Calls Tryz.prog jd.id #[.slice p n c,.func (.func fid) #[] fv] w fun e w'=>e= .returned (.tuple #[])/\∃l',da aC w' p c l'/\aF (Bk p) w w'/\l'.Perm l/\rz cf l' 0 l'.length:=by
 rcases Nat.eq_zero_or_pos l.length with Z|Z
 . have hn:n=0:=by rw [X.hn,Z]
   subst hn;refine (AnyF.slices_SortFunc_none (P:=Tryz.prog) (ρ:=Mq) {MD with} p c _ w).mono ?_;rintro e w' ⟨rfl,rfl⟩;exact ⟨rfl,l,h,aF.refl _,.refl l,fun i j _ _ I=>by omega⟩
 . rcases h.un with ⟨_,_,e⟩| ⟨b,cur,rfl,hb,h1,h2,h3,h4⟩
   . rw [e] at Z;simp at Z
   . haveI:Inhabited {x:Int // x∈l}:=⟨⟨l[0],List.getElem_mem Z⟩⟩
     obtain ⟨d,hd⟩: ∃d:Array {x:Int // x∈l},d=l.attach.toArray:=⟨_,rfl⟩
     have ds:d.size=n:=by rw [hd,X.hn];simp
     have Y: ∀j (I:j<l.length),(d[j]!).1=l[j]:=fun j I=>by
      have:j<d.size:=by rw [ds,X.hn];exact I
      rw [getElem!_pos d j this];simp [hd]
     have aw:=X.hm;have ag:Go.Sort.SWO (Go.Proofs.ltOf fun a b: {x:Int // x∈l}=>cf a.1 b.1):=by
      refine ⟨fun x=> ?_,fun x y z h1 h2=> ?_,fun x y z h1 h2=> ?_⟩
      . exact decide_eq_false X.o.rfl
      . simp only [ltOf,decide_eq_true_eq] at*
        exact X.o.Hw h1 (X.o.lt h2)
      . simp only [ltOf,decide_eq_false_iff_not] at*
        exact X.o.trans h2 h1
     have key:=Any.slices_SortFunc MD (fun a: {x:Int // x∈l}=>Value.int .i64 a.1) (fun _=>rfl) (fun a b=>cf a.1 b.1) ag fid fv b 0 c d w (vP X.he)
      (fun m os dk _ x y=> ?_) (fun j I=> ?_) ?_ (by omega)
     . rw [ds] at key;refine key.mono ?_;rintro e w' ⟨rfl,J,m,os,hp,hs,rfl⟩;obtain ⟨q1,q2,q3⟩:=hp;have O:J.size=n:=by rw [q1,ds]
       have Q: ∀a:Array {x:Int // x∈l},a.size=n->(a.extract 0 n).toList=a.toList:=fun a ha=>by
        rw [<- ha];simp
       rw [Q _ O,Q _ ds] at q3;have V:(J.toList.map (·.1)).length=n:=by simp [O]
       have U:(J.toList.map (·.1)).Perm l:=by
        have:=q3.map (·.1);rw [hd] at this;simpa using this
       have gd: ∀i,i<n->(J.toList.map (·.1)).getD i 0=(J[i]!).1:=fun i hi=>by
        have:i<J.size:=by omega
        rw [getElem!_pos J i this];simp [List.getD,this]
       refine ⟨rfl,J.toList.map (·.1),?_,(DU _ w b m J os).mono fun k _ (e:k=b)=>by rw [e];rfl,U,fun i j hi ac I=> ?_⟩
       . refine Ow.dx (cur:=Sort.putCells (fun a: {x:Int // x∈l}=>Value.int .i64 a.1) 0 J cur) ?_ (by rw [V,X.hn];exact h1) h2 ?_ ?_
         . show ((w.heap.modify b _)++os)[b]? =_;have ad:b<w.heap.size:=h.lt b rfl;rw [Array.getElem?_append_left (by simpa using ad),Array.getElem?_modify,if_pos rfl,hb];rfl
         . unfold Sort.putCells;simp [h3]
         . refine List.ext_getElem ?_ fun j j1 j2=> ?_
           . unfold Sort.putCells;simp [h3,O];rw [X.hn];exact Nat.min_eq_left h1
           . have I:j<n:=by simpa [O] using j2
             unfold Sort.putCells;have a6:j<J.size:=by omega
             simp [O,I]
       . rw [V] at I;rw [gd i (by omega),gd j I];have:=hs i j hi ac I;simpa [ltOf,Le] using this
     . refine (X.hf x.1 x.2 y.1 y.2 _ ((DU _ w b m dk os).mono fun k _ (e:k=b)=>by rw [e];rfl)).mono ?_;rintro e w2 ⟨rfl,g⟩;exact ⟨rfl,g⟩
     . rw [ds,X.hn] at I;obtain ⟨g,e,hc⟩:=h.cell I;simp only [Option.some.injEq,Addr.mk.injEq] at e;obtain ⟨rfl,_,_⟩:=e;refine ⟨?_,pY (cs:=cur) ⟨_,hb⟩⟩;show w.cell? _=some (.int .i64 (d[j]!).1);rw [Y j I,Nat.zero_add];exact hc
     . exact h.lt b rfl
end
end Go.Proofs.YtenmibfmhccmiaaGreat.W
namespace Go.LiP
open Go.SoP
def am (l:Int):Int:=if l<0 then -l else l
def mM (a b:Int):Int:=if am a≠am b then am a - am b else b - a
theorem qW:Ord mM:=by
 constructor
 . intro x y h;unfold mM am at*
   split at h<;>split<;> (try split at h)<;> (try split)<;> (try split at h)<;> (try split)<;>omega
 . intro x y z h1 I;unfold Le mM at*
   have Q:am x=x\/am x= -x:=by unfold am;split<;>simp
   generalize am x=U at*
   generalize am y=O at*
   generalize am z=J at*
   split at h1<;>split at I<;>split<;>omega
theorem J0 (a b:Int) (h:a≠b):mM a b<0\/mM b a<0:=by
 unfold mM;split<;>split<;>omega
theorem yD {a b:Int} (h:Le mM a b) (I:a≠b):mM a b<0:=by
 rcases J0 a b I with J|J
 . exact J
 . exact absurd J h
theorem ye {a b c:Int} (h1:mM a b<0) (I:mM b c<0):mM a c<0:=qW.Hw h1 (qW.lt I)
theorem pZ (a:Int): ¬mM a a<0:=by unfold mM;simp
abbrev jL (m:List Int):Prop:=m.Pairwise fun a b=>mM a b<0
structure KO (c m:List Int):Prop where
 mem: ∀x,x∈m↔x∈c
 st:jL m
theorem xZ: ∀ {m k:List Int},jL m->jL k->(∀x,x∈m↔x∈k)->m=k
 | [],[],_,_,_=>rfl
 | [],y::k,_,_,h=>by have:=(h y).2 (by simp);simp at this
 |x::m,[],_,_,h=>by have:=(h x).1 (by simp);simp at this
 |x::m,y::k,h1,J,h=>by
  have h1:=List.pairwise_cons.1 h1;have J:=List.pairwise_cons.1 J;have e:x=y:=by
   rcases List.mem_cons.1 ((h x).1 (by simp)) with e|e
   . exact e
   . rcases List.mem_cons.1 ((h y).2 (by simp)) with O|O
     . exact O.symm
     . exact absurd (ye (h1.1 y O) (J.1 x e)) (pZ x)
  subst e;congr 1;refine xZ h1.2 J.2 fun z=> ?_;constructor
  . intro I;rcases List.mem_cons.1 ((h z).1 (List.mem_cons_of_mem _ I)) with e|e
    . subst e;exact absurd (h1.1 z I) (pZ z)
    . exact e
  . intro I;rcases List.mem_cons.1 ((h z).2 (List.mem_cons_of_mem _ I)) with e|e
    . subst e;exact absurd (J.1 z I) (pZ z)
    . exact e
theorem KO.LH {c m k:List Int} (h:KO c m) (g:KO c k):m=k:=xZ h.st g.st fun x=> (h.mem x).trans (g.mem x).symm
def tS (l:List Int):Nat->List Int
 |0=> []
 |k+1=>if 0<k/\l.getD k 0=l.getD (k - 1) 0 then tS l k else tS l k++ [l.getD k 0]
theorem yW {l:List Int}: ∀ {k:Nat},k<=l.length->∀x,x∈tS l k↔∃j,j<k/\l.getD j 0=x
 |0,_,x=>by simp [tS]
 |k+1,h,x=>by
  have O:=yW (l:=l) (k:=k) (by omega) x;unfold tS;split
  . rename_i Q;rw [O];constructor
    . rintro ⟨j,J,I⟩;exact ⟨j,by omega,I⟩
    . rintro ⟨j,J,I⟩;by_cases e:j=k
      . subst e;exact ⟨j - 1,by omega,by rw [<- Q.2];exact I⟩
      . exact ⟨j,by omega,I⟩
  . rw [List.mem_append,O,List.mem_singleton];constructor
    . rintro (⟨j,J,I⟩|e)
      . exact ⟨j,by omega,I⟩
      . exact ⟨k,by omega,e.symm⟩
    . rintro ⟨j,J,I⟩;by_cases e:j=k
      . subst e;exact .inr I.symm
      . exact .inl ⟨j,by omega,I⟩
theorem ve {l:List Int} (h:rz mM l 0 l.length): ∀ {k:Nat},k<=l.length->jL (tS l k)
 |0,_=>List.Pairwise.nil
 |k+1,hk=>by
  have O:=ve h (k:=k) (by omega);unfold tS;split
  . exact O
  . rename_i Q;rw [jL,List.pairwise_append];refine ⟨O,List.pairwise_singleton _ _,fun x U y J=> ?_⟩;rw [List.mem_singleton] at J;subst J;obtain ⟨j,V,rfl⟩:=(yW (by omega) x).1 U;have I:mM (l.getD (k - 1) 0) (l.getD k 0)<0:=yD (h (k - 1) k (by omega) (by omega) (by omega)) fun e=>Q ⟨by omega,e.symm⟩;by_cases e:j=k - 1
    . rw [e];exact I
    . exact qW.Nf (h j (k - 1) (by omega) (by omega) (by omega)) I
theorem qZ {l:List Int}: ∀ {k:Nat},k<=l.length->(∀j,0<j->j<k->l.getD j 0≠l.getD (j - 1) 0)->tS l k=l.take k
 |0,_,_=>by simp [tS]
 |k+1,h,hc=>by
  unfold tS;rw [if_neg (fun e=>hc k e.1 (by omega) e.2),qZ (k:=k) (by omega) (fun j I J=>hc j I (by omega)),List.take_add_one];have:l[k]? =some (l.getD k 0):=by simp [List.getD,show k<l.length by omega]
  rw [this];rfl
theorem I4 {c l:List Int} (hp:l.Perm c) (h:rz mM l 0 l.length):KO c (tS l l.length):=by
 refine ⟨fun x=> ?_,ve h (Nat.le_refl _)⟩;rw [yW (Nat.le_refl _),<- hp.mem_iff];constructor
 . rintro ⟨j,I,rfl⟩;simp [List.getD,I]
 . intro J;obtain ⟨j,I,e⟩:=List.mem_iff_getElem.1 J;exact ⟨j,I,by simp [List.getD,I,e]⟩
def jV:List Int->Int->Nat
 | [],_=>0
 |y::m,x=>if mM y x<0 then jV m x+1 else 0
theorem uj: ∀ (m:List Int) (x:Int),jV m x<=m.length
 | [],_=>Nat.le_refl _
 |y::m,x=>by
  unfold jV;split
  . simp;exact uj m x
  . exact Nat.zero_le _
theorem zM: ∀ {m:List Int} {x:Int} {j:Nat},j<jV m x->mM (m.getD j 0) x<0
 | [],_,_,h=>by simp [jV] at h
 |y::m,x,j,h=>by
  unfold jV at h;split at h
  . rename_i I;cases j with
    |zero=>exact I
    |succ j=>simpa [List.getD] using zM (m:=m) (x:=x) (j:=j) (by omega)
  . omega
theorem r_: ∀ {m:List Int} {x:Int},jV m x<m.length->¬mM (m.getD (jV m x) 0) x<0
 | [],_,h=>by simp at h
 |y::m,x,h=>by
  unfold jV at h ⊢;split
  . rename_i I;rw [if_pos I] at h;have:=r_ (m:=m) (x:=x) (by simpa using h);simpa [List.getD] using this
  . rename_i I;exact I
theorem xJ {m:List Int} {x:Int} {j:Nat} (h1: ∀i,i<j->mM (m.getD i 0) x<0) (J:j<=m.length) (I:j<m.length->¬mM (m.getD j 0) x<0):j=jV m x:=by
 have hp:=uj m x;rcases Nat.lt_trichotomy j (jV m x) with e|e|e
 . exact absurd (zM e) (I (by omega))
 . exact e
 . exact absurd (h1 _ e) (r_ (by omega))
def BC (m:List Int) (x:Int):List Int:=m.take (jV m x)++ [x]++m.drop (jV m x)
theorem Gj {m:List Int} {x y:Int}:y∈BC m x↔y∈m\/y=x:=by
 have:y∈m↔y∈m.take (jV m x)\/y∈m.drop (jV m x):=by rw [<- List.mem_append,List.take_append_drop]
 unfold BC;rw [List.mem_append,List.mem_append,List.mem_singleton,this];constructor
 . rintro ((h|h)|h)
   . exact .inl (.inl h)
   . exact .inr h
   . exact .inl (.inr h)
 . rintro ((h|h)|h)
   . exact .inl (.inl h)
   . exact .inr h
   . exact .inl (.inr h)
theorem Br {m:List Int} {x:Int} (h:jL m) (X:x ∉ m):jL (BC m x):=by
 have hs:jL (m.take (jV m x)++m.drop (jV m x)):=by rw [List.take_append_drop];exact h
 rw [jL,List.pairwise_append] at hs;have lo: ∀y∈m.take (jV m x),mM y x<0:=by
  intro y I;obtain ⟨j,V,rfl⟩:=List.mem_iff_getElem.1 I;rw [List.length_take] at V;have:=zM (m:=m) (x:=x) (j:=j) (by omega);rw [List.getElem_take];simpa [List.getD,show j<m.length by omega] using this
 have hi: ∀y∈m.drop (jV m x),mM x y<0:=by
  intro y I;obtain ⟨j,V,rfl⟩:=List.mem_iff_getElem.1 I;rw [List.length_drop] at V;have Q:=r_ (m:=m) (x:=x) (by omega);have U:m.getD (jV m x) 0∈m:=by simp [List.getD,show jV m x<m.length by omega]
  have Y:mM x (m.getD (jV m x) 0)<0:=yD Q fun e=>X (by rw [e];exact U);rw [List.getElem_drop];have J:mM x (m[jV m x]'(by omega))<0:=by simpa [List.getD,show jV m x<m.length by omega] using Y
  rcases Nat.eq_zero_or_pos j with e|e
  . subst e;exact J
  . exact ye J (List.pairwise_iff_getElem.1 h (jV m x) (jV m x+j) (by omega) (by omega) (by omega))
 unfold BC;rw [jL,List.append_assoc,List.pairwise_append];refine ⟨hs.1,?_,fun y I z O=> ?_⟩
 . rw [List.singleton_append,List.pairwise_cons];exact ⟨hi,hs.2.1⟩
 . rw [List.singleton_append,List.mem_cons] at O;rcases O with rfl|O
   . exact lo y I
   . exact hs.2.2 y I z O
def dL (c:List Int):Nat->List Int
 |0=> []
 |k+1=>if c.getD k 0∈dL c k then dL c k else BC (dL c k) (c.getD k 0)
def aW (c:List Int):List Int:=dL c c.length
theorem u7 {c:List Int}: ∀ {k:Nat},k<=c.length->KO (c.take k) (dL c k)
 |0,_=> ⟨fun x=>by simp [dL],List.Pairwise.nil⟩
 |k+1,hk=>by
  have J:=u7 (c:=c) (k:=k) (by omega);have O:c.take (k+1)=c.take k++ [c.getD k 0]:=by
   rw [List.take_add_one];have:c[k]? =some (c.getD k 0):=by simp [List.getD,show k<c.length by omega]
   rw [this];rfl
  unfold dL;split
  . rename_i I;refine ⟨fun x=> ?_,J.st⟩;rw [J.mem,O,List.mem_append,List.mem_singleton];constructor
    . exact .inl
    . rintro (h|h)
      . exact h
      . rw [h,<- J.mem];exact I
  . rename_i I;refine ⟨fun x=> ?_,Br J.st I⟩;rw [Gj,J.mem,O,List.mem_append,List.mem_singleton]
theorem cC (c:List Int):KO c (aW c):=by
 have:=u7 (c:=c) (Nat.le_refl _)
 rwa [List.take_length] at this
theorem nX {c:List Int}: ∀k,(dL c k).length<=k
 |0=>Nat.le_refl _
 |k+1=>by
  have I:=nX (c:=c) k;unfold dL;split
  . omega
  . unfold BC;have:=uj (dL c k) (c.getD k 0);simp;omega
theorem nN (c:List Int):(aW c).length<=c.length:=nX _
def mL (c:List Int):Bool:=c.any fun x=>c.contains (-x)
theorem GP {c m:List Int} (h:KO c m) (nz: ∀x∈c,x≠0):mL c=true↔∃i,0<i/\i<m.length/\m.getD i 0= -(m.getD (i - 1) 0):=by
 have mem_of: ∀j,j<m.length->m.getD j 0∈c:=fun j J=> (h.mem _).1 (by simp [List.getD,J]);have I: ∀i j,i<j->j<m.length->mM (m.getD i 0) (m.getD j 0)<0:=fun i j Q J=>by
  have:=List.pairwise_iff_getElem.1 h.st i j (by omega) J Q;simpa [List.getD,show i<m.length by omega,J] using this
 unfold mL;rw [List.any_eq_true];constructor
 . rintro ⟨x,X,O⟩;have O: -x∈c:=by simpa using O
   have key: ∀x:Int,0<x->x∈c-> -x∈c->∃i,0<i/\i<m.length/\m.getD i 0= -(m.getD (i - 1) 0):=by
    intro x h0 X O;obtain ⟨i,hi,U⟩:=List.mem_iff_getElem.1 ((h.mem x).2 X);obtain ⟨j,J,V⟩:=List.mem_iff_getElem.1 ((h.mem (-x)).2 O);have U:m.getD i 0=x:=by simp [List.getD,hi,U]
    have V:m.getD j 0= -x:=by simp [List.getD,J,V]
    have Y:mM x (-x)<0:=by unfold mM am;split<;>split<;>split<;>omega
    have Q:i<j:=by
     rcases Nat.lt_trichotomy i j with e|e|e
     . exact e
     . subst e;omega
     . have:=I j i e hi;rw [U,V] at this;exact absurd Y (qW.IR this)
    have Z:j=i+1:=by
     rcases Nat.lt_or_ge (i+1) j with e|e
     . have a1:=I i (i+1) (by omega) (by omega);have a2:=I (i+1) j e J;rw [U] at a1;rw [V] at a2;generalize m.getD (i+1) 0=z at a1 a2;unfold mM am at a1 a2;split at a1<;>split at a2<;> (try split at a1)<;> (try split at a2)<;> (try split at a1)<;> (try split at a2)<;>omega
     . omega
    exact ⟨j,by omega,J,by rw [V,Z,Nat.add_sub_cancel,U]⟩
   rcases Int.lt_or_le 0 x with e|e
   . exact key x e X O
   . have:=nz x X;exact key (-x) (by omega) O (by rwa [Int.neg_neg])
 . rintro ⟨i,h1,h2,h3⟩;refine ⟨m.getD (i - 1) 0,mem_of _ (by omega),?_⟩;rw [<- h3];simpa using mem_of i h2
end Go.LiP
namespace Go.Fw
open Go Go.RowKit
variable {P:Program} {α:Type} {f:α->Value} {T:TypeId} {w w':World} {p q:Option Addr} {c:Nat} {l:List α}
theorem dZ {S:Nat->Prop} {a:Addr} {v:Value} (g:aF S w w') (h:w.cell? a=some v) (hs: ¬S a.block):w'.cell? a=some v:=by
 have hb:=World.block_lt_of_cell? w a h;rw [<- h];exact World.cell?_of_block (g.block a.block hb hs)
def Vw (f:α->Value) (w:World) (p:Option Addr) (l:List α):Prop:= ∀j (I:j<l.length),∃a,p=some a/\w.cell? (a.add j)=some (f l[j])
theorem cy (a:Addr) (n:Nat):(a.add n).block=a.block:=by unfold Addr.add;split<;>rfl
theorem Vw.keep {S:Nat->Prop} (h:Vw f w p l) (m:aF S w w') (hs: ∀b,aJ p=some b->¬S b):Vw f w' p l:=by
 intro j J;obtain ⟨a,rfl,I⟩:=h j J;exact ⟨a,rfl,dZ m I (by rw [cy];exact hs _ rfl)⟩
theorem Vw.grow (h:Vw f w p l) (m:ao w w'):Vw f w' p l:=h.keep m fun _ _=>id
theorem Vw.drew (h:Vw f w p l):Vw f w.drew p l:=h
theorem Vw.nil:Vw f w p []:=fun j I=>by simp at I
theorem Vw.lt (h:Vw f w p l) (hl:l≠[]): ∀b,aJ p=some b->b<w.heap.size:=by
 intro b hb;obtain ⟨a,rfl,I⟩:=h 0 (List.length_pos_iff.2 hl);have:=World.block_lt_of_cell? w _ I;rw [cy] at this;simp [aJ] at hb;omega
theorem Ow.vw (h:Ow f T w p c l):Vw f w p l:=by
 intro j J;obtain ⟨g,rfl,I⟩:=h.cell J;exact ⟨_,rfl,by rw [c5,Nat.zero_add];exact I⟩
theorem Vw.ix (h:Vw f w p l) {i:Int} {n:Nat} (d:α) (O:0<=i) (hn:n=l.length) (h1:i<n) {K:Addr->Prop} (I: ∀a,w.cell? a=some (f (l.getD i.toNat d))->K a):aP p n i 1 K:=by
 subst hn;obtain ⟨a,rfl,J⟩:=h i.toNat (by omega);refine ⟨_,rfl,O,h1,I _ ?_⟩;rw [Nat.mul_one,J];simp [List.getD,show i.toNat<l.length by omega]
theorem Vw.OB (h:Vw f w p l) {i:Int} {n:Nat} (d:α) (O:0<=i) (hn:n=l.length) (h1:i<n) {K:Addr->Prop} (I: ∀a,aJ p=some a.block->w.cell? a=some (f (l.getD i.toNat d))->K a):aP p n i 1 K:=by
 subst hn;obtain ⟨a,rfl,J⟩:=h i.toNat (by omega);refine ⟨_,rfl,O,h1,I _ (by rw [cy];rfl) ?_⟩;rw [Nat.mul_one,J];simp [List.getD,show i.toNat<l.length by omega]
theorem rW (a:Addr) (m n:Nat):(a.add m).add n=a.add (m+n):=by
 unfold Addr.add;by_cases h1:m=0<;>by_cases I:n=0<;>simp [h1,I,Nat.add_assoc]
theorem Vw.part (h:Vw f w p l) {i m:Nat} (h1:i+m<=l.length):Vw f w (p.map (·.add (i*1))) ((l.drop i).take m):=by
 intro j J;simp only [List.length_take,List.length_drop] at J;obtain ⟨a,rfl,I⟩:=h (i+j) (by omega);refine ⟨_,rfl,?_⟩;rw [Nat.mul_one,rW,I];simp
theorem Ow.qG {t ty e bytes:Nat} (hs:mB P t e bytes=true) (h:Ow f e w p c l) {V:Nat} {news:List α} (U:Vw f w q news) {n m:Nat} (hn:n=l.length) (hm:m=news.length) (X: ∀x,(f x).oneCell'=true)
 (hlen:(l.length+news.length)* (bytes+1)<=140737488355328) {K:World->Option Addr->Nat->Nat->Prop}
 (Q: ∀w' I c',Ow f e w' I c' (l++news)->aF (fun b=>aJ p=some b) w w'->(I=p\/I=some ⟨w.heap.size,0,none⟩)->w.heap.size<=w'.heap.size->K w' I (l++news).length c'):
 ∃w',∃I n' c',(Builtin.append_ #[t,t] ty #[.slice p n c,.slice q m V]).run P w= .ok (.slice I n' c') w'/\K w' I n' c':=by
 subst hm;rcases Nat.eq_zero_or_pos news.length with O|O
 . have:news= []:=List.eq_nil_of_length_eq_zero O;subst this;refine ⟨w,p,n,c,h.LG hs hn,?_⟩;have:=Q w p c (by simpa using h) (aF.refl w) (.inl rfl) (Nat.le_refl _);simpa [hn] using this
 . obtain ⟨g,Y,_⟩:=U 0 O;subst Y;refine Ow.mN hs h hn news rfl O (fun j hj=> ?_) X hlen Q;obtain ⟨g',J,Z⟩:=U j hj;simp only [Option.some.injEq] at J;subst J;exact Z
theorem Ds {v:Value} (h:FA w (.sl (.int .i64)) v): ∃p n c l,v= .slice p n c/\n=l.length/\n<=c/\c<=maxLen/\Vw (Value.int .i64) w p l/\∀x∈l,(Lit.int .i64 x).wf=true:=by
 rcases h with rfl| ⟨a,len,cap,rfl,h1,V,Q⟩
 . exact ⟨none,0,0,[],rfl,rfl,Nat.le_refl _,Nat.zero_le _,Vw.nil,by simp⟩
 . have: ∀i,∃x:Int,(i<len->w.cell? (a.add i)=some (.int .i64 x))/\(Lit.int .i64 x).wf=true:=by
    intro i;by_cases hi:i<len
    . obtain ⟨X,_,O,x,rfl,I⟩:=Q i hi;refine ⟨x,fun _=> ?_,I⟩;have:=O.1
      rwa [show Sh.size (.int .i64)=1 from rfl,Nat.mul_one,show (a.add i).add 0=a.add i by rw [rW,Nat.add_zero]] at this
    . exact ⟨0,fun h=>absurd h hi,by decide⟩
   refine ⟨some a,len,cap,(List.range len).map fun i=>Classical.choose (this i),rfl,by simp,h1,V,fun j U=> ⟨a,rfl,?_⟩,?_⟩
   . have J:j<len:=by simpa using U
     rw [(Classical.choose_spec (this j)).1 J];simp
   . intro x I;simp only [List.mem_map,List.mem_range] at I;obtain ⟨i,_,rfl⟩:=I;exact (Classical.choose_spec (this i)).2
end Go.Fw
namespace Go.Proofs.YtenmibfmhccmiaaGreat.W
open Go Go.Fw Go.RowKit
open Go.Proofs.Tryz (prog)
section
theorem uu {l:List Int} {t:Nat} (h:t<l.length) (d:Int):l.getD t d∈l:=by
 simp [List.getD,h]
theorem zr {p:Option Addr} {n c:Nat} {l:List Int} {w:World} (h:Vw (Value.int .i64) w p l) (hn:n=l.length) (hm:n<=maxLen) {fid:FuncId} {fv:Array Value} (he:fX prog fid=true) (pr:Int->Bool)
 (hf: ∀x∈l,∀w',ao w w'->Calls prog fid (#[]++ #[.int .i64 x]++fv) w' fun e w2=>e= .returned (.bool (pr x))/\ao w' w2):
 Calls prog bF.id #[.slice p n c,.func (.func fid) #[] fv] w fun e w'=> (∃r:Int,e= .returned (.int .i64 r)/\decide (r>=0)=l.any pr)/\ao w w':=by
 refine bF.ak ?_;unfold maxLen at hm;refine ⟨fun v w' k=> ∃t:Nat,v=t/\t<=l.length/\k+t=l.length/\(l.take t).any pr=false/\ao w w',⟨l.length,0,rfl,by omega,rfl,rfl,aF.refl w⟩,?_⟩;rintro v O k _ ⟨t,rfl,ht,Q,ha,G⟩;refine aj (fun q=> ?_) (fun q=> ?_)<;>simp only [decide_eq_true_eq,decide_eq_false_iff_not] at q
 . have I:t<l.length:=by omega
   refine (h.grow G).ix 0 (by omega) hn q fun a e=> ?_;refine ⟨_,e,?_⟩;rw [he];show Calls _ _ _ _ _;rw [Int.toNat_natCast];refine (hf _ (uu I 0) O G).mono ?_;rintro e U ⟨rfl,J⟩;refine ⟨_,rfl,aj (fun s=> ?_) (fun s=> ?_)⟩
   . refine ⟨⟨(t:Int),rfl,?_⟩,G.trans J⟩;rw [decide_eq_true (by omega:(t:Int)>=0)];exact (List.any_eq_true.2 ⟨_,uu I 0,s⟩).symm
   . refine ⟨k - 1,by omega,t+1,?_,by omega,by omega,?_,G.trans J⟩
     . rw [aD (by omega) (by omega)];omega
     . rw [List.take_add_one,List.any_append,ha];have:l[t]? =some (l.getD t 0):=by simp [List.getD,I]
       simp only [this,Option.toList_some,List.any_cons,List.any_nil,s,Bool.or_false]
 . refine ⟨⟨-1,rfl,?_⟩,G⟩;have:t=l.length:=by omega
   subst this;rw [List.take_length] at ha;rw [ha];rfl
theorem iT {p:Option Addr} {n c:Nat} {l:List Int} {w:World} (h:Vw (Value.int .i64) w p l) (hn:n=l.length) (hm:n<=maxLen) {fid:FuncId} {fv:Array Value} (he:fX prog fid=true) (pr:Int->Bool)
 (hf: ∀x∈l,∀w',ao w w'->Calls prog fid (#[]++ #[.int .i64 x]++fv) w' fun e w2=>e= .returned (.bool (pr x))/\ao w' w2):
 Calls prog bU.id #[.slice p n c,.func (.func fid) #[] fv] w fun e w'=>e= .returned (.bool (l.any pr))/\ao w w':=by
 refine bU.ak ?_;refine (zr h hn hm he pr hf).mono ?_;rintro e w' ⟨⟨r,rfl,hr⟩,g⟩;exact ⟨_,rfl,by rw [hr],g⟩
theorem Kz (v:Value):(#[]++ #[v]++ #[]:Array Value)= #[v]:=by simp
end
section
def bq (l:Int):Bool:=decide (l≠0/\ -1048576<=l/\l<=1048576)
def iy (l:List Int):Bool:=l.all bq && decide (l.length<=4096)
theorem L8 (l:Int) (w:World):Calls prog uA.id #[.int .i64 l] w fun e w'=>e= .returned (.bool (bq l))/\ao w w':=by
 refine uA.ak ?_;refine aj (fun h1=>aj (fun I=> ⟨?_,aF.refl w⟩) (fun I=> ⟨?_,aF.refl w⟩)) (fun h1=> ⟨?_,aF.refl w⟩)
 . simp only [bne_iff_ne,ne_eq,decide_eq_true_eq,ge_iff_le] at h1 I;congr 2;unfold bq;exact decide_eq_decide.2 (by omega)
 . simp only [bne_iff_ne,ne_eq,decide_eq_false_iff_not,ge_iff_le] at h1 I;congr 2;unfold bq;exact (decide_eq_false (by omega)).symm
 . simp only [bne_eq_false_iff_eq] at h1;congr 2;unfold bq;exact (decide_eq_false (by omega)).symm
theorem E8 (l:Int) (w:World):Calls prog ia.id #[.int .i64 l] w fun e w'=>e= .returned (.bool (!bq l))/\ao w w':=by
 refine ia.ak ?_;refine (L8 l w).mono ?_;rintro e w' ⟨rfl,g⟩;exact ⟨_,rfl,rfl,g⟩
theorem CE:fX prog ia.id=true:=by kernel_rfl
theorem JJ {l:List Int}:l.any (fun x=> !bq x)= !l.all bq:=by
 induction l with
 |nil=>rfl
 |cons x l ih=>simp [ih]
theorem fR {p:Option Addr} {n c:Nat} {l:List Int} {w:World} (h:Vw (Value.int .i64) w p l) (hn:n=l.length) (hm:n<=maxLen):
 Calls prog mQ.id #[.slice p n c] w fun e w'=>e= .returned (.int .i64 (if iy l then 0 else 1))/\ao w w':=by
 refine mQ.ak ?_;refine aj (fun q=> ⟨?_,aF.refl w⟩) (fun q=> ?_)<;>simp only [decide_eq_true_eq,decide_eq_false_iff_not] at q
 . have:iy l=false:=by unfold iy;rw [decide_eq_false (by omega)];simp
   rw [this];rfl
 . have hf: ∀x∈l,∀w',ao w w'->Calls prog ia.id (#[]++ #[.int .i64 x]++ #[]) w' fun e w2=>e= .returned (.bool (!bq x))/\ao w' w2:=fun x _ w' _=>by
    rw [Kz];exact E8 x w'
   refine (iT h hn hm CE (fun x=> !bq x) hf).mono ?_;rintro e w' ⟨rfl,g⟩;have:iy l=l.all bq:=by unfold iy;rw [decide_eq_true (by omega)];simp
   refine ⟨_,rfl,?_⟩;rw [JJ,this];cases l.all bq
   . exact ⟨rfl,g⟩
   . exact ⟨rfl,g⟩
theorem vB {p q:Option Addr} {n m c d:Nat} {l k:List Int} {w:World} (h:Vw (Value.int .i64) w p l) (V:Vw (Value.int .i64) w q k) (hn:n=l.length) (hm:m=k.length) (U:n<=maxLen):
 Calls prog fy.id #[.slice p n c,.slice q m d] w fun e w'=>e= .returned (.bool (decide (l=k)))/\ao w w':=by
 refine fy.ak ?_;unfold maxLen at U;refine aj (fun s=> ⟨?_,aF.refl w⟩) (fun s=> ?_)
 . have s:(n:Int)≠m:=by simpa using s
   rw [decide_eq_false];intro e;subst e;omega
 . have s:(n:Int)=m:=by simpa using s
   have hl:k.length=l.length:=by omega
   refine ⟨fun v w' j=> ∃t:Nat,v=t/\t<=l.length/\j+t=l.length/\l.take t=k.take t/\ao w w',⟨l.length,0,rfl,by omega,rfl,rfl,aF.refl w⟩,?_⟩;rintro v Y j _ ⟨t,rfl,ht,X,ha,G⟩;refine aj (fun q=> ?_) (fun q=> ⟨?_,G⟩)<;>simp only [decide_eq_true_eq,decide_eq_false_iff_not] at q
   . have I:t<l.length:=by omega
     have J:t<k.length:=by omega
     refine ((h.grow G).drew).ix 0 (by omega) hn q fun a e=> ⟨_,e,((V.grow G).drew).ix 0 (by omega) hm (by omega) fun a e=> ⟨_,e,?_⟩⟩
     rw [Int.toNat_natCast];have Q:l[t]? =some (l.getD t 0):=by simp [List.getD,I]
     have O:k[t]? =some (k.getD t 0):=by simp [List.getD,J]
     refine aj (fun s=> ⟨?_,G.drew⟩) (fun s=> ⟨j - 1,by omega,t+1,?_,by omega,by omega,?_,G.drew⟩)
     . have s:l.getD t 0≠k.getD t 0:=by simpa using s
       rw [decide_eq_false];intro e;subst e;exact s rfl
     . rw [aD (by omega) (by omega)];omega
     . have s:l.getD t 0=k.getD t 0:=by simpa using s
       rw [List.take_add_one,List.take_add_one,ha,Q,O,s]
   . have:t=l.length:=by omega
     subst this;rw [List.take_length,<- hl,List.take_length] at ha;rw [decide_eq_true ha]
end
end Go.Proofs.YtenmibfmhccmiaaGreat.W
namespace Go.Fw
open Go Go.RowKit
section
variable {P:Program} {α:Type} {f:α->Value} {T T':TypeId} {w w':World} {p q:Option Addr} {c:Nat} {l:List α}
structure Sl where
 p:Option Addr
 n:Nat
 c:Nat
abbrev Sl.v (s:Sl):Value:= .slice s.p s.n s.c
def Sl.nil:Sl:=⟨none,0,0⟩
structure V2 (f:α->Value) (w:World) (p:Option Addr) (hs:List Sl) (rows:List (List α)):Prop where
 h:Vw Sl.v w p hs
 n:hs.length=rows.length
 r: ∀j,j<rows.length->(hs.getD j Sl.nil).n=(rows.getD j []).length/\(hs.getD j Sl.nil).n<=maxLen/\Vw f w (hs.getD j Sl.nil).p (rows.getD j [])
def NF (p:Option Addr) (hs:List Sl) (k:Nat):Prop:=aJ p=some k\/∃h∈hs,aJ h.p=some k
theorem V2.keep {S:Nat->Prop} {hs:List Sl} {rows:List (List α)} (h:V2 f w p hs rows) (m:aF S w w') (O: ∀k,NF p hs k->¬S k):V2 f w' p hs rows:=by
 refine ⟨h.h.keep m fun k I=>O k (.inl I),h.n,fun j J=> ?_⟩;obtain ⟨h1,U,Q⟩:=h.r j J;refine ⟨h1,U,Q.keep m fun k I=>O k (.inr ⟨_,?_,I⟩)⟩;have:j<hs.length:=by rw [h.n];exact J
 simp [List.getD,this]
theorem V2.grow {hs:List Sl} {rows:List (List α)} (h:V2 f w p hs rows) (m:ao w w'):V2 f w' p hs rows:=h.keep m fun _ _=>id
theorem V2.drew {hs:List Sl} {rows:List (List α)} (h:V2 f w p hs rows):V2 f w.drew p hs rows:=h.grow (aF.refl w).drew
theorem V2.nil:V2 f w p [] []:=⟨Vw.nil,rfl,fun j I=>by simp at I⟩
theorem V2.ix {hs:List Sl} {rows:List (List α)} (h:V2 f w p hs rows) {i:Int} {n:Nat} (U:0<=i) (hn:n=rows.length) (h1:i<n) {K:Addr->Prop}
 (I: ∀a s,w.cell? a=some (.slice s.p s.n s.c)->s=hs.getD i.toNat Sl.nil->s.n=(rows.getD i.toNat []).length->s.n<=maxLen->Vw f w s.p (rows.getD i.toNat [])->K a):aP p n i 1 K:=by
 refine h.h.ix Sl.nil U (by rw [h.n];exact hn) h1 fun a e=> ?_;obtain ⟨J,O,Q⟩:=h.r i.toNat (by omega);exact I a _ e rfl J O Q
theorem Cv {s:Sh} {v:Value} (hr: ∀v,FA w (.sl s) v->∃p n c l,v= .slice p n c/\n=l.length/\n<=c/\c<=maxLen/\Vw f w p l) (h:FA w (.sl (.sl s)) v):
 ∃p n c hs rows,v= .slice p n c/\n=rows.length/\n<=c/\c<=maxLen/\V2 f w p hs rows:=by
 rcases h with rfl| ⟨a,len,cap,rfl,h1,h2,h3⟩
 . exact ⟨none,0,0,[],[],rfl,rfl,Nat.le_refl _,Nat.zero_le _,V2.nil⟩
 . have: ∀i,∃x:Sl × List α,i<len->w.cell? (a.add i)=some x.1.v/\x.1.n=x.2.length/\x.1.n<=maxLen/\Vw f w x.1.p x.2:=by
    intro i;by_cases hi:i<len
    . obtain ⟨es,he,hc,U⟩:=h3 i hi;have hv: ∃v,es= [v]/\FA w (.sl s) v:=by
       rcases U with rfl| ⟨Y,J,O,rfl,g⟩
       . exact ⟨_,rfl,.inl rfl⟩
       . exact ⟨_,rfl,.inr ⟨Y,J,O,rfl,g⟩⟩
      obtain ⟨v,rfl,hv⟩:=hv;obtain ⟨p,n,c,l,rfl,X,g2,Z,g4⟩:=hr v hv;refine ⟨(⟨p,n,c⟩,l),fun _=> ⟨?_,X,Nat.le_trans g2 Z,g4⟩⟩;have:=hc.1
      rwa [show Sh.size (.sl s)=1 from rfl,Nat.mul_one,show (a.add i).add 0=a.add i by rw [rW,Nat.add_zero]] at this
    . exact ⟨(Sl.nil,[]),fun h=>absurd h hi⟩
   have V: ∀ {β:Type} (g:Nat->β) (d:β) (j:Nat),j<len->((List.range len).map g).getD j d=g j:=by
    intro β g d j Q;simp [List.getD,Q]
   refine ⟨some a,len,cap,(List.range len).map fun i=> (Classical.choose (this i)).1,(List.range len).map fun i=> (Classical.choose (this i)).2,rfl,by simp,h1,h2,⟨fun j Q=> ⟨a,rfl,?_⟩,by simp,fun j Q=> ?_⟩⟩
   . have I:j<len:=by simpa using Q
     rw [(Classical.choose_spec (this j) I).1];simp
   . have I:j<len:=by simpa using Q
     rw [V _ _ _ I,V _ _ _ I];exact (Classical.choose_spec (this j) I).2
theorem Bd {v:Value} (h:FA w (.sl (.int .i64)) v): ∃p n c l,v= .slice p n c/\n=l.length/\n<=c/\c<=maxLen/\Vw (Value.int .i64) w p l:=by
 obtain ⟨p,n,c,l,h1,O,I,J,h5,_⟩:=Ds h;exact ⟨p,n,c,l,h1,O,I,J,h5⟩
theorem bo {hs:List Sl} {h:Sl} (hm:h∈hs): ∃j,j<hs.length/\hs.getD j Sl.nil=h:=by
 obtain ⟨j,I⟩:=List.getElem?_of_mem hm;have hl:=(List.getElem?_eq_some_iff.1 I).1;exact ⟨j,hl,by simp [List.getD,I]⟩
end
section
variable {P:Program} {α:Type} {f:α->Value} {T:TypeId} {w w':World} {p q:Option Addr} {c:Nat} {hs ns:List Sl} {rows nrows:List (List α)}
theorem Vw.jG {S:Nat->Prop} {l:List α} (h:Vw f w p l) (m:aF S w w') (hs:l≠[]->∀b,aJ p=some b->¬S b):Vw f w' p l:=by
 by_cases hl:l= []
 . subst hl;exact Vw.nil
 . exact h.keep m (hs hl)
structure VR (f:α->Value) (w:World) (hs:List Sl) (rows:List (List α)):Prop where
 n:hs.length=rows.length
 r: ∀j,j<rows.length->(hs.getD j Sl.nil).n=(rows.getD j []).length/\(hs.getD j Sl.nil).n<=maxLen/\Vw f w (hs.getD j Sl.nil).p (rows.getD j [])
def qq (hs:List Sl) (k:Nat):Prop:= ∃h∈hs,0<h.n/\aJ h.p=some k
theorem VR.keep {S:Nat->Prop} (h:VR f w hs rows) (m:aF S w w') (U: ∀k,qq hs k->¬S k):VR f w' hs rows:=by
 refine ⟨h.n,fun j J=> ?_⟩;obtain ⟨h1,V,Q⟩:=h.r j J;refine ⟨h1,V,Q.jG m fun I k O=>U k ⟨_,?_,?_,O⟩⟩
 . have:j<hs.length:=by rw [h.n];exact J
   simp [List.getD,this]
 . rw [h1];exact List.length_pos_iff.2 I
theorem VR.grow (h:VR f w hs rows) (m:ao w w'):VR f w' hs rows:=h.keep m fun _ _=>id
theorem VR.nil:VR f w [] []:=⟨rfl,fun j I=>by simp at I⟩
theorem VR.lt (h:VR f w hs rows): ∀k,qq hs k->k<w.heap.size:=by
 rintro k ⟨s,hm,J,I⟩;obtain ⟨j,Q,rfl⟩:=bo hm;obtain ⟨h1,U,O⟩:=h.r j (by rw [<- h.n];exact Q);exact O.lt (List.length_pos_iff.1 (by rw [<- h1];exact J)) k I
theorem pS {β:Type} {l k:List β} {j:Nat} {d:β}:(l++k).getD j d=if j<l.length then l.getD j d else k.getD (j - l.length) d:=by
 simp only [List.getD_eq_getElem?_getD];by_cases h:j<l.length
 . rw [if_pos h,List.getElem?_append_left h]
 . rw [if_neg h,List.getElem?_append_right (by omega)]
theorem VR.mN (h:VR f w hs rows) (k:VR f w ns nrows):VR f w (hs++ns) (rows++nrows):=by
 refine ⟨by simp [h.n,k.n],fun j I=> ?_⟩;rw [pS,pS,h.n];by_cases e:j<rows.length
 . rw [if_pos e,if_pos e];exact h.r j e
 . rw [if_neg e,if_neg e];exact k.r (j - rows.length) (by simp at I;omega)
theorem VR.bH {s:Sl} {l:List α} (h:Vw f w s.p l) (hn:s.n=l.length) (hm:s.n<=maxLen):VR f w [s] [l]:=by
 refine ⟨rfl,fun j I=> ?_⟩;have:j=0:=by simpa using I
 subst this;exact ⟨hn,hm,h⟩
theorem VR.v2 (h:VR f w hs rows) (v:Vw Sl.v w p hs):V2 f w p hs rows:=⟨v,h.n,h.r⟩
theorem V2.vr (h:V2 f w p hs rows):VR f w hs rows:=⟨h.n,h.r⟩
structure OV (f:α->Value) (T:TypeId) (w:World) (p:Option Addr) (c:Nat) (hs:List Sl) (rows:List (List α)):Prop where
 h:Ow Sl.v T w p c hs
 v:VR f w hs rows
 d: ∀k,qq hs k->aJ p≠some k
theorem OV.nil:OV f T w none 0 [] []:=⟨Ow.nil _ _ _,VR.nil,fun k ⟨s,hs,_⟩=>by simp at hs⟩
def OV.bK (p:Option Addr) (hs:List Sl) (k:Nat):Prop:=aJ p=some k\/qq hs k
theorem OV.keep {S:Nat->Prop} (h:OV f T w p c hs rows) (m:aF S w w') (J: ∀k,OV.bK p hs k->¬S k):OV f T w' p c hs rows:=
 ⟨h.h.keep m fun k I=>J k (.inl I),h.v.keep m fun k I=>J k (.inr I),h.d⟩
theorem OV.grow (h:OV f T w p c hs rows) (m:ao w w'):OV f T w' p c hs rows:=h.keep m fun _ _=>id
theorem OV.v2 (h:OV f T w p c hs rows):V2 f w p hs rows:=h.v.v2 h.h.vw
theorem sk {k:Nat}:qq (hs++ns) k↔qq hs k\/qq ns k:=by
 constructor
 . rintro ⟨s,hm,h⟩;rcases List.mem_append.1 hm with hm|hm
   . exact .inl ⟨s,hm,h⟩
   . exact .inr ⟨s,hm,h⟩
 . rintro (⟨s,hm,h⟩| ⟨s,hm,h⟩)
   . exact ⟨s,List.mem_append_left _ hm,h⟩
   . exact ⟨s,List.mem_append_right _ hm,h⟩
theorem OV.mN {t ty bytes:Nat} (U:mB P t T bytes=true) (h:OV f T w p c hs rows) {n m k:Nat} (hv:Vw Sl.v w q ns) (hr:VR f w ns nrows) (hn:n=hs.length) (hm:m=ns.length) (V: ∀k,qq ns k->aJ p≠some k)
 (hlen:(hs.length+ns.length)* (bytes+1)<=140737488355328) {K:World->Option Addr->Nat->Nat->Prop}
 (O: ∀w' J c',OV f T w' J c' (hs++ns) (rows++nrows)->aF (fun b=>aJ p=some b) w w'->(J=p\/J=some ⟨w.heap.size,0,none⟩)->w.heap.size<=w'.heap.size->K w' J (hs++ns).length c'):
 ∃w',∃J n' c',(Builtin.append_ #[t,t] ty #[.slice p n c,.slice q m k]).run P w= .ok (.slice J n' c') w'/\K w' J n' c':=by
 refine h.h.qG U hv hn hm (fun _=>rfl) hlen fun w' J c' o Q hp X=>O w' J c' ⟨o,?_,?_⟩ Q hp X
 . exact (h.v.keep Q fun k O e=>h.d k O e).mN (hr.keep Q fun k O e=>V k O e)
 . intro j I e;rcases hp with h1|h1<;>rw [h1] at e
   . rcases sk.1 I with I|I
     . exact h.d j I e
     . exact V j I e
   . have:j=w.heap.size:=by simp [aJ] at e;exact e.symm
     rcases sk.1 I with I|I
     . have:=h.v.lt j I;omega
     . have:=hr.lt j I;omega
theorem bG {b i j:Nat} {cs:Array Value} {v:Value} (h:bA w b cs) (hv:cs[0+i+j]? =some v):w.cell? (((Addr.mk b 0 none).add i).add j)=some v:=by rw [c5,c5];exact aQ h hv
theorem ig {b k j i:Nat} {cs:Array Value} {K:World->Prop} {vs:List Value} (h:bA w b cs) (hl:Nat.ble (0+k+j+i+vs.length) cs.size=true) (J:vs.all iU=true)
 (I: ∀w',bA w' b (wr cs (0+k+j+i) vs)->aF (·=b) w w'->K w'): ∃w',ah (((Addr.mk b 0 none).add k).add j) i vs w w'/\K w':=by
 rw [c5,c5];exact bj h hl J I
theorem aO {n:Nat} {k:Nat} (h:aJ (some ⟨n,0,none⟩)=some k):k=n:=by simp [aJ] at h;exact h.symm
theorem aY.size {o:Obj} {n:Nat} (h:aY o w n w'):w'.heap.size=w.heap.size+1:=by rw [h.eq];simp
end
end Go.Fw
namespace Go.Proofs.YtenmibfmhccmiaaGreat.W
open Go Go.Fw Go.RowKit
open Go.Proofs.Tryz (prog)
section
def bf (l:Int):Int:=if l<0 then -l else l
def ff (k:Int) (cs:List (List Int)):Bool:=decide (0<=k/\k<=1048576/\cs.length<=262144) && cs.all fun c=>iy c && c.all fun l=>decide (bf l<=k)
theorem xH {l:Int} (h: -9223372036854775808<l) (I:l<9223372036854775808) (w:World):Calls prog fU.id #[.int .i64 l] w fun e w'=>e= .returned (.int .i64 (bf l))/\ao w w':=by
 refine fU.ak ?_;unfold fU.w;rw [aD (x:=0 - l) (by omega) (by omega)];refine ⟨?_,aF.refl w⟩;unfold imax bf;congr 2;split<;>split<;>omega
theorem cx {l:Int} (h:bq l=true):l≠0/\ -1048576<=l/\l<=1048576:=by simpa [bq] using h
theorem cX {c:List Int} (h:iy c=true):(∀l∈c,bq l=true)/\c.length<=4096:=by
 simp only [iy,Bool.and_eq_true,List.all_eq_true,decide_eq_true_eq] at h;exact h
theorem JE {l:Int} (hl: -1048576<=l/\l<=1048576) {b:Nat} {k:Int} {v:Value} {w:World} (h:bA w b #[.int .i64 k,v]):
 Calls prog fJ.id #[.int .i64 l,.pointer (some ⟨b,0,none⟩)] w fun e w'=>e= .returned (.bool (!decide (bf l<=k)))/\ao w w':=by
 refine fJ.ak ?_;have e0:(!decide (bf l<=k))=decide (bf l>k):=by
  by_cases h:bf l<=k
  . rw [decide_eq_true h,decide_eq_false (by omega)];rfl
  . rw [decide_eq_false h,decide_eq_true (by omega)];rfl
 rw [e0];refine ⟨?_,_,ae h.drew rfl,?_⟩
 . refine (xH (by omega) (by omega) _).mono ?_;rintro e w1 ⟨rfl,g⟩;exact ⟨_,rfl,_,ae (h.drew.grow g) rfl,rfl,(aF.refl w).drew.trans g⟩
 . refine (xH (by omega) (by omega) _).mono ?_;rintro e w1 ⟨rfl,g⟩;exact ⟨_,rfl,rfl,(aF.refl w).drew.trans g⟩
theorem HT:fX prog fJ.id=true:=by kernel_rfl
theorem Lp (u v:Value):(#[]++ #[u]++ #[v]:Array Value)= #[u,v]:=by simp
theorem IZ {k:Int} {l:List Int}:l.any (fun x=> !decide (bf x<=k))= !l.all fun x=>decide (bf x<=k):=by
 induction l with
 |nil=>rfl
 |cons x l ih=>rw [List.any_cons,List.all_cons,ih,Bool.not_and]
theorem vg {α:Type} {l:List α} {q:α->Bool} {t:Nat} {d:α} (ht:t<l.length) (h:(l.take t).all q=true) (hq:q (l.getD t d)=true):(l.take (t+1)).all q=true:=by
 rw [List.take_add_one,List.all_append,h];have:l[t]? =some (l.getD t d):=by simp [List.getD,ht]
 simp only [this,Option.toList_some,List.all_cons,List.all_nil,hq,Bool.and_true]
theorem pJ {α:Type} {l:List α} {q:α->Bool} {t:Nat} {d:α} (ht:t<l.length) (hq:q (l.getD t d)=false):l.all q=false:=by
 rw [<- Bool.not_eq_true,List.all_eq_true];intro h;rw [h _ (by simp [List.getD,ht])] at hq;cases hq
theorem Ko {w:World} {q:Option Addr} {hs:List Sl} {cs:List (List Int)} (O:V2 (Value.int .i64) w q hs cs) {m t:Nat} (hm:m=cs.length) (ht:t<cs.length) {K:Addr->Prop} (J: ∀a (s:Sl),w.cell? a=some (.slice s.p s.n s.c)->s=hs.getD t Sl.nil->s.n=(cs.getD t []).length->s.n<=maxLen->Vw (Value.int .i64) w s.p (cs.getD t [])->K a):aP q m (t:Int) 1 K:=
 O.ix (by omega) hm (by omega) fun a s e hs h1 Q I=>J a s e (by rw [Int.toNat_natCast] at hs;exact hs) (by rw [Int.toNat_natCast] at h1;exact h1) Q (by rw [Int.toNat_natCast] at I;exact I)
theorem l9 {w:World} {k:Int} {q:Option Addr} {m d:Nat} {hs:List Sl} {cs:List (List Int)} (hc:V2 (Value.int .i64) w q hs cs) (hm:m=cs.length):
 Calls prog jC.id #[.agg #[.int .i64 k,.slice q m d]] w fun e w'=>e= .returned (.int .i64 (if ff k cs then 0 else 1))/\ao w w':=by
 subst hm;refine jC.ak ?_;intro n1 w2 Z;have H:=Z.has;have nM: ∀w',ao w w'->ff k cs=false->(Ending.returned (.int .i64 1)= .returned (.int .i64 (if ff k cs=true then 0 else 1))/\ao w w'):=fun w' g hf=>by rw [hf];exact ⟨rfl,g⟩
 have no: ¬(0<=k/\k<=1048576/\cs.length<=262144)->ff k cs=false:=fun h=>by unfold ff;rw [decide_eq_false h,Bool.false_and]
 refine ⟨_,ae H rfl,aj (fun s1=>nM _ Z.mod (no ?_)) (fun s1=> ⟨_,ae H rfl,aj (fun s2=>nM _ Z.mod (no ?_)) (fun s2=> ⟨_,_,_,ae H rfl,aj (fun s3=>nM _ Z.mod (no ?_)) (fun s3=> ⟨_,_,_,ae H rfl,?_⟩)⟩)⟩)⟩<;>simp only [decide_eq_true_eq,decide_eq_false_iff_not] at*
 . omega
 . omega
 . omega
 . have O:ff k cs=cs.all fun c=>iy c && c.all fun l=>decide (bf l<=k):=by unfold ff;rw [decide_eq_true (by omega),Bool.true_and]
   refine ⟨fun v w' z=> ∃t:Nat,v=t/\t<=cs.length/\((cs.take t).all fun c=>iy c && c.all fun l=>decide (bf l<=k))=true/\ao w2 w'/\z+t=cs.length,⟨_,0,rfl,Nat.zero_le _,rfl,aF.refl _,rfl⟩,?_⟩;rintro v aT z _ ⟨t,rfl,ht,ha,G,hz⟩;have G2:=Z.mod.trans G;refine aj (fun s=> ?_) (fun s=> ?_)<;>simp only [decide_eq_true_eq,decide_eq_false_iff_not] at s
   . have I:t<cs.length:=by omega
     refine Ko (hc.grow G2) rfl I fun a s e _ U V hv=> ⟨_,_,_,e,(fR hv U V).mono ?_⟩
     rintro e ar ⟨rfl,J⟩;refine ⟨_,rfl,aj (fun X=>nM _ (G2.trans J) ?_) (fun X=> ?_)⟩
     . rw [O];refine pJ (d:= []) I ?_;cases hh:iy (cs.getD t []) with
       |false=>rfl
       |true=>rw [hh] at X;simp at X
     . have Q:iy (cs.getD t [])=true:=by
        cases hh:iy (cs.getD t []) with
        |false=>rw [hh] at X;simp at X
        |true=>rfl
       have ag:=(H.grow G).grow J;refine (iT (hv.grow J) U V HT (fun x=> !decide (bf x<=k)) fun x hx w' g'=> ?_).mono ?_
       . rw [Lp];have:=cx ((cX Q).1 x hx);exact JE this.2 (ag.grow g')
       . rintro e ay ⟨rfl,Y⟩;rw [IZ];refine ⟨_,rfl,aj (fun s5=>nM _ ((G2.trans J).trans Y) ?_) (fun s5=> ⟨z - 1,by omega,t+1,by rw [aD (by omega) (by omega)];omega,I,vg (d:= []) I ha ?_,(G.trans J).trans Y,by omega⟩)⟩
         . rw [O];refine pJ (d:= []) I ?_;rw [Q,Bool.true_and];simpa using s5
         . rw [Q,Bool.true_and];simpa using s5
   . have:t=cs.length:=by omega
     subst this;rw [List.take_length] at ha;rw [O,ha];exact ⟨rfl,G2⟩
end
section
theorem Fo (l:Int) (w:World):Calls prog gx.id #[.int .i64 l] w fun e w'=>e= .returned (.bool (bq l))/\ao w w':=by
 refine gx.ak ?_;refine aj (fun h1=>aj (fun I=> ⟨?_,aF.refl w⟩) (fun I=> ⟨?_,aF.refl w⟩)) (fun h1=> ⟨?_,aF.refl w⟩)
 . simp only [bne_iff_ne,ne_eq,decide_eq_true_eq,ge_iff_le] at h1 I;congr 2;unfold bq;exact decide_eq_decide.2 (by omega)
 . simp only [bne_iff_ne,ne_eq,decide_eq_false_iff_not,ge_iff_le] at h1 I;congr 2;unfold bq;exact (decide_eq_false (by omega)).symm
 . simp only [bne_eq_false_iff_eq] at h1;congr 2;unfold bq;exact (decide_eq_false (by omega)).symm
end
section
def pe (m:List Int) (l:Int):Int:=
 if bq l=false\/bf l>m.length then 0 else if m.getD (bf l - 1).toNat 0=0 then 0 else if decide (m.getD (bf l - 1).toNat 0>0)=decide (l>0) then 1 else -1
def iY (m:List Int) (cs:List (List Int)):Bool:=cs.all fun c=>c.any fun l=>decide (pe m l=1)
def io:Nat->Nat->List Int
 |0,_=> []
 |k+1,n=> (if n % 2=1 then 1 else -1)::io k (n / 2)
theorem wK: ∀k n,(io k n).length=k
 |0,_=>rfl
 |k+1,n=>by simp [io,wK k]
theorem xu: ∀k n,∀x∈io k n,x=1\/x= -1
 |0,_,x,h=>by simp [io] at h
 |k+1,n,x,h=>by
  simp only [io,List.mem_cons] at h;rcases h with h|h
  . subst h;split<;>simp
  . exact xu k _ x h
theorem jO {l:Int} (h: -9223372036854775808<l) (w:World) (I:l<9223372036854775808):Calls prog gD.id #[.int .i64 l] w fun e w'=>e= .returned (.int .i64 (bf l))/\ao w w':=by
 refine gD.ak ?_;unfold bf;refine aj (fun q=> ⟨?_,aF.refl w⟩) (fun q=> ⟨?_,aF.refl w⟩)<;>simp only [decide_eq_true_eq,decide_eq_false_iff_not] at q
 . rw [if_pos q,aD (by omega) (by omega)];congr 2;omega
 . rw [if_neg q]
end
section
theorem xA {p:Option Addr} {n c:Nat} {l:List Int} {w:World} (h:Vw (Value.int .i64) w p l) (hn:n=l.length) (hm:n<=maxLen):
 Calls prog fZ.id #[.slice p n c] w fun e w'=>e= .returned (.bool (iy l))/\ao w w':=by
 refine fZ.ak ?_;unfold maxLen at hm;refine ⟨fun v w' k=> ∃t:Nat,v=t/\t<=l.length/\k+t=l.length/\(l.take t).all bq=true/\ao w w',⟨l.length,0,rfl,by omega,rfl,rfl,aF.refl w⟩,?_⟩;rintro v O k _ ⟨t,rfl,ht,Q,ha,G⟩;refine aj (fun q=> ?_) (fun q=> ?_)<;>simp only [decide_eq_true_eq,decide_eq_false_iff_not] at q
 . have I:t<l.length:=by omega
   refine (h.grow G).ix 0 (by omega) hn q fun a e=> ⟨_,e,?_⟩
   rw [Int.toNat_natCast];refine (Fo _ O).mono ?_;rintro e U ⟨rfl,J⟩;refine ⟨_,rfl,aj (fun s=> ⟨?_,G.trans J⟩) (fun s=> ?_)⟩
   . have s:bq (l.getD t 0)=false:=by simpa using s
     have:l.all bq=false:=by
      rw [<- Bool.not_eq_true,List.all_eq_true];intro h;rw [h _ (uu I 0)] at s;cases s
     unfold iy;rw [this];rfl
   . have s:bq (l.getD t 0)=true:=by simpa using s
     refine ⟨k - 1,by omega,t+1,?_,by omega,by omega,?_,G.trans J⟩
     . rw [aD (by omega) (by omega)];omega
     . rw [List.take_add_one,List.all_append,ha];have:l[t]? =some (l.getD t 0):=by simp [List.getD,I]
       simp only [this,Option.toList_some,List.all_cons,List.all_nil,s,Bool.and_true]
 . refine ⟨?_,G⟩;have:t=l.length:=by omega
   subst this;rw [List.take_length] at ha;unfold iy;rw [ha,Bool.true_and];congr 2;exact decide_eq_decide.2 (by omega)
end
end Go.Proofs.YtenmibfmhccmiaaGreat.W
namespace Go.Fw
open Go Go.RowKit
section
variable {P:Program} {α:Type} {sz:Nat} {f:α->List Value} {T:TypeId} {w w':World} {p q:Option Addr} {c:Nat} {l:List α}
structure HJ (sz:Nat) (f:α->List Value):Prop where
 len: ∀x,(f x).length=sz
 pos:0<sz
 bH: ∀x,∀v∈f x,v.oneCell'=true
theorem pI (hf: ∀x,(f x).length=sz): ∀l:List α,(l.flatMap f).length=l.length*sz
 | []=>by simp
 |x::l=>by simp only [List.flatMap_cons,List.length_append,hf,pI hf l,List.length_cons];rw [Nat.add_mul,Nat.one_mul,Nat.add_comm]
theorem vA (hf: ∀x,(f x).length=sz): ∀ (l:List α) (j i:Nat) (I:j<l.length),i<sz->(l.flatMap f)[j*sz+i]? =(f l[j])[i]?
 | [],j,i,I,_=>by simp at I
 |x::l,0,i,_,hi=>by
  simp only [List.flatMap_cons,Nat.zero_mul,Nat.zero_add,List.getElem_cons_zero];rw [List.getElem?_append_left (by rw [hf];exact hi)]
 |x::l,j+1,i,I,hi=>by
  simp only [List.flatMap_cons,List.getElem_cons_succ];rw [List.getElem?_append_right (by rw [hf,Nat.add_mul,Nat.one_mul];omega),hf,<- vA hf l j i (by simpa using I) hi];congr 1;rw [Nat.add_mul,Nat.one_mul];omega
theorem tw (hf: ∀x,(f x).length=sz) (x:α): ∀ (l:List α) (j:Nat),j<l.length->(l.flatMap f).take (j*sz)++f x++ (l.flatMap f).drop (j*sz+sz)=(l.set j x).flatMap f
 | [],j,hj=>by simp at hj
 |y::l,0,_=>by
  simp only [List.flatMap_cons,Nat.zero_mul,Nat.zero_add,List.take_zero,List.nil_append,List.set_cons_zero];rw [List.drop_append_of_le_length (by rw [hf];exact Nat.le_refl _),List.drop_of_length_le (by rw [hf];exact Nat.le_refl _),List.nil_append]
 |y::l,j+1,hj=>by
  simp only [List.flatMap_cons,List.set_cons_succ];rw [<- tw hf x l j (by simpa using hj)];have e:(j+1)*sz=sz+j*sz:=by rw [Nat.add_mul,Nat.one_mul,Nat.add_comm]
  rw [e,List.take_append,List.drop_append,hf,List.take_of_length_le (by rw [hf];omega),List.drop_of_length_le (by rw [hf];omega),List.nil_append];simp only [List.append_assoc];congr 2
  . rw [show sz+j*sz - sz=j*sz by omega]
  . rw [show sz+j*sz+sz - sz=j*sz+sz by omega]
def Row (sz:Nat) (f:α->List Value) (T:TypeId) (w:World) (p:Option Addr) (c:Nat) (l:List α):Prop:=w.ownsRow 0 T sz (.slice p l.length c) l.length (l.flatMap f)
theorem Row.nil (sz:Nat) (f:α->List Value) (T:TypeId) (w:World):Row sz f T w none 0 []:=World.ownsRow_nil w 0 T sz
theorem Row.un (h:Row sz f T w p c l):(p=none/\c=0/\l= [])\/∃g cur,p=some ⟨g,0,none⟩/\w.heap[g]? =some (.cells cur T (0,0))/\l.length<=c/\c<=maxLen/\cur.size=c*sz/\cur.toList.take (l.length*sz)=l.flatMap f:=by
 rcases h.2 with ⟨h1,I⟩| ⟨g,cap,cur,h1,_,I,J,Q,h5,O⟩
 . simp only [Value.slice.injEq] at h1;exact .inl ⟨h1.1,h1.2.2,List.eq_nil_of_length_eq_zero I⟩
 . simp only [Value.slice.injEq] at h1;obtain ⟨rfl,_,rfl⟩:=h1;exact .inr ⟨g,cur,rfl,I,J,Q,h5,O⟩
theorem Row.dx (hf: ∀x,(f x).length=sz) {g:Nat} {cur:Array Value} (J:w.heap[g]? =some (.cells cur T (0,0))) (h1:l.length<=c) (Q:c<=maxLen) (I:cur.size=c*sz) (O:cur.toList.take (l.length*sz)=l.flatMap f):Row sz f T w (some ⟨g,0,none⟩) c l:=
 ⟨pI hf l,.inr ⟨g,c,cur,rfl,Nat.zero_le _,J,h1,Q,I,O⟩⟩
theorem Row.lt (h:Row sz f T w p c l): ∀b,aJ p=some b->b<w.heap.size:=by
 intro b hb;rcases h.un with ⟨rfl,_⟩| ⟨g,cur,rfl,J,_⟩
 . simp [aJ] at hb
 . simp [aJ] at hb;subst hb;rcases Nat.lt_or_ge g w.heap.size with I|I
   . exact I
   . simp [Array.getElem?_eq_none I] at J
theorem Row.keep {S:Nat->Prop} (h:Row sz f T w p c l) (m:aF S w w') (hs: ∀b,aJ p=some b->¬S b):Row sz f T w' p c l:=by
 have hl:=h.lt;rcases h.un with ⟨rfl,rfl,rfl⟩| ⟨g,cur,rfl,O,h1,Q,I,J⟩
 . exact Row.nil sz f T w'
 . exact ⟨h.1,.inr ⟨g,c,cur,rfl,Nat.zero_le _,(m.block g (hl g rfl) (hs g rfl)).trans O,h1,Q,I,J⟩⟩
theorem Row.grow (h:Row sz f T w p c l) (m:ao w w'):Row sz f T w' p c l:=h.keep m fun _ _=>id
theorem Row.drew (h:Row sz f T w p c l):Row sz f T w.drew p c l:=h
def Vr (sz:Nat) (f:α->List Value) (w:World) (p:Option Addr) (l:List α):Prop:= ∀j (I:j<l.length),∃a,p=some a/\aB w (a.add (j*sz)) 0 (f l[j])
theorem aB.keep {S:Nat->Prop} (m:aF S w w') {a:Addr} (hs: ¬S a.block): ∀ {vs:List Value} {i:Nat},aB w a i vs->aB w' a i vs
 | [],_,_=>trivial
 |_::_,_,⟨h1,h2⟩=> ⟨dZ m h1 (by rw [cy];exact hs),aB.keep m hs h2⟩
theorem Vr.keep {S:Nat->Prop} (h:Vr sz f w p l) (m:aF S w w') (hs: ∀b,aJ p=some b->¬S b):Vr sz f w' p l:=by
 intro j J;obtain ⟨a,rfl,I⟩:=h j J;exact ⟨a,rfl,I.keep m (by rw [cy];exact hs _ rfl)⟩
theorem Vr.grow (h:Vr sz f w p l) (m:ao w w'):Vr sz f w' p l:=h.keep m fun _ _=>id
theorem Vr.drew (h:Vr sz f w p l):Vr sz f w.drew p l:=h.grow (aF.refl w).drew
theorem Vr.nil:Vr sz f w p []:=fun j I=>by simp at I
theorem Row.vr (E:HJ sz f) (h:Row sz f T w p c l):Vr sz f w p l:=by
 intro j J;rcases h.un with ⟨_,_,rfl⟩| ⟨g,cur,rfl,Q,h1,V,U,O⟩
 . simp at J
 . refine ⟨_,rfl,?_⟩;rw [c5,Nat.zero_add];refine aB.CR fun i v hi=> ?_;have I:i<sz:=by rw [<- E.len l[j]];exact (List.getElem?_eq_some_iff.1 hi).1
   rw [c5,Nat.zero_add];refine aQ ⟨T,Q⟩ ?_;have e:(cur.toList.take (l.length*sz))[j*sz+i]? =some v:=by rw [O,vA E.len l j i J I,hi]
   rw [List.getElem?_take] at e;split at e
   . simpa using e
   . cases e
theorem Vr.ix (h:Vr sz f w p l) {i:Int} {n:Nat} (d:α) (O:0<=i) (hn:n=l.length) (h1:i<n) {K:Addr->Prop} (I: ∀a,aB w a 0 (f (l.getD i.toNat d))->K a):aP p n i sz K:=by
 subst hn;obtain ⟨a,rfl,J⟩:=h i.toNat (by omega);refine ⟨_,rfl,O,h1,I _ ?_⟩;have:l.getD i.toNat d=l[i.toNat]'(by omega):=by simp [List.getD,show i.toNat<l.length by omega]
 rw [this];exact J
theorem yV: ∀ (vs:List Value) (cs:Array Value) (o:Nat),o+vs.length<=cs.size->(wr cs o vs).toList=cs.toList.take o++vs++cs.toList.drop (o+vs.length)
 | [],cs,o,_=>by simp [wr]
 |v::vs,cs,o,h=>by
  simp only [List.length_cons] at h;rw [wr,yV vs _ (o+1) (by simp;omega)];simp only [Array.toList_setIfInBounds,List.length_cons];have h1:o<cs.toList.length:=by simp;omega
  have J:(cs.toList.set o v).take (o+1)=cs.toList.take o++ [v]:=by
   rw [List.take_add_one,List.take_set_of_le (Nat.le_refl _),List.getElem?_set_self h1];simp
  have I:(cs.toList.set o v).drop (o+1+vs.length)=cs.toList.drop (o+ (vs.length+1)):=by
   rw [List.drop_set_of_lt (by omega),show o+1+vs.length=o+ (vs.length+1) by omega]
  rw [J,I];simp
theorem tU: ∀ (vs:List Value) (cs:Array Value) (o:Nat),(wr cs o vs).size=cs.size
 | [],_,_=>rfl
 |v::vs,cs,o=>by rw [wr,tU vs];simp
theorem zp {b off:Nat} {cs:Array Value} {t:TypeId} {K:World->Prop}: ∀ {vs:List Value} {i:Nat},w.heap[b]? =some (.cells cs t)->off+i+vs.length<=cs.size->vs.all iU=true->
 (∀w',w'.heap[b]? =some (.cells (wr cs (off+i) vs) t)->aF (·=b) w w'->w'.heap.size=w.heap.size->K w')->∃w',ah ⟨b,off,none⟩ i vs w w'/\K w':=by
 intro vs
 induction vs generalizing w cs with
 |nil=>intro i h _ _ I;exact ⟨w,rfl,I w h (aF.refl w) rfl⟩
 |cons v vs X=>
  intro i h hl O I;simp only [List.length_cons,List.all_cons,Bool.and_eq_true] at hl O;have Y:(w.setCell ⟨b,off+i,none⟩ v).heap[b]? =some (.cells (cs.setIfInBounds (off+i) v) t):=vn h v (by omega);have hm:aF (·=b) w (w.setCell ⟨b,off+i,none⟩ v):=⟨rfl,rfl,rfl,by simp,fun k _ I=>Below.heap_setCell w _ v k I⟩
  obtain ⟨w',U,J⟩:=X (i:=i+1) Y (by simp;omega) O.2 fun w' h1 V Q=>I w' (by simpa only [wr,Nat.add_assoc] using h1) (hm.trans V) (by rw [Q];simp);refine ⟨w',⟨⟨cs[off+i]'(by omega),ae ⟨t,h⟩ (by simp [show off+i<cs.size by omega])⟩,by rw [c5];exact pY ⟨t,h⟩,O.1,by rw [c5];exact U⟩,J⟩
theorem Bw {I vs:List Value} {o n:Nat} (h:o+vs.length<=n) (hn:n<=I.length):(I.take o++vs++I.drop (o+vs.length)).take n=(I.take n).take o++vs++ (I.take n).drop (o+vs.length):=by
 apply List.ext_getElem?;intro j;simp only [List.getElem?_take,List.getElem?_append,List.length_append,List.length_take,List.getElem?_drop];repeat' split
 all_goals first
  |rfl
  |omega
  | (congr 1;omega)
theorem Row.st (E:HJ sz f) (h:Row sz f T w p c l) {i:Int} {n:Nat} (x:α) {vs:List Value} (hv:vs=f x) (V:vs.all iU=true) (O:0<=i) (hn:n=l.length) (h1:i<n) {K:World->Prop}
 (Q: ∀w',Row sz f T w' p c (l.set i.toNat x)->aF (fun b=>aJ p=some b) w w'->K w'):aP p n i sz fun a=> ∃w',ah a 0 vs w w'/\K w':=by
 subst hn hv;rcases h.un with ⟨_,_,rfl⟩| ⟨g,cur,rfl,X,J,Z,U,h5⟩
 . simp at h1;omega
 . refine ⟨_,rfl,O,h1,?_⟩;rw [c5,Nat.zero_add];have hb:i.toNat*sz+sz<=l.length*sz:=by
    have:(i.toNat+1)*sz<=l.length*sz:=Nat.mul_le_mul_right _ (by omega)
    rwa [Nat.add_mul,Nat.one_mul] at this
   have aa:l.length*sz<=c*sz:=Nat.mul_le_mul_right _ J;have I:=E.len x;refine zp (cs:=cur) X (by rw [I];omega) V fun w' Y m _=>Q w' ?_ (m.mono fun k _ e=>by simp [aJ,e]);refine Row.dx E.len Y (by simpa using J) Z (by rw [tU];exact U) ?_;rw [List.length_set,Nat.add_zero,yV _ _ _ (by rw [I];omega),Bw (by rw [I];omega) (by simp;omega),I,h5,tw E.len x l i.toNat (by omega)]
theorem AT (hf: ∀x,(f x).length=sz) {x:α} {v:Value} {o:Nat} (J:o<sz): ∀ (l:List α) (j:Nat) (I:j<l.length),f x=(f l[j]).set o v->(l.flatMap f).set (j*sz+o) v=(l.set j x).flatMap f
 | [],j,I,_=>by simp at I
 |y::l,0,_,hx=>by
  simp only [List.getElem_cons_zero] at hx;simp only [List.flatMap_cons,Nat.zero_mul,Nat.zero_add,List.set_cons_zero];rw [List.set_append_left _ _ (by rw [hf];exact J),hx]
 |y::l,j+1,I,hx=>by
  simp only [List.getElem_cons_succ] at hx;simp only [List.flatMap_cons,List.set_cons_succ];rw [<- AT hf J l j (by simpa using I) hx];have e:(j+1)*sz=sz+j*sz:=by rw [Nat.add_mul,Nat.one_mul,Nat.add_comm]
  rw [e,List.set_append_right _ _ (by rw [hf];omega),hf];congr 2;omega
theorem Row.Ov (E:HJ sz f) (h:Row sz f T w p c l) {i:Int} {n o:Nat} {v:Value} (d x:α) (O:f x=(f (l.getD i.toNat d)).set o v) (I:o<sz) (V:iU v=true) (Q:0<=i) (hn:n=l.length) (h1:i<n) {K:World->Prop}
 (U: ∀w',Row sz f T w' p c (l.set i.toNat x)->aF (fun b=>aJ p=some b) w w'->K w'):aP p n i sz fun a=> ∃w',ah (a.add o) 0 [v] w w'/\K w':=by
 subst hn;rcases h.un with ⟨_,_,rfl⟩| ⟨g,cur,rfl,Y,J,h3,X,h5⟩
 . simp at h1;omega
 . refine ⟨_,rfl,Q,h1,?_⟩;rw [c5,Nat.zero_add];show ∃w',ah ((Addr.mk g (i.toNat*sz) none).add o) 0 [v] w w'/\K w';rw [c5];have hb:i.toNat*sz+sz<=l.length*sz:=by
    have:(i.toNat+1)*sz<=l.length*sz:=Nat.mul_le_mul_right _ (by omega)
    rwa [Nat.add_mul,Nat.one_mul] at this
   have ad:l.length*sz<=c*sz:=Nat.mul_le_mul_right _ J;refine zp (cs:=cur) Y (by simp;omega) (by simp [V]) fun w' Z m _=>U w' ?_ (m.mono fun k _ e=>by simp [aJ,e]);refine Row.dx E.len Z (by simpa using J) h3 (by rw [tU];exact X) ?_;have hl:i.toNat<l.length:=by omega
   have e1:(l.getD i.toNat d)=l[i.toNat]:=by simp [List.getD,hl]
   rw [e1] at O;rw [List.length_set,<- AT E.len I l i.toNat hl O,<- h5,Nat.add_zero];simp only [wr,Array.toList_setIfInBounds,List.take_set]
def q6 (P:Program) (t e:TypeId) (sz bytes:Nat):Bool:=
 (match P.underlying t with|some (.slice I)=>Nat.beq I e|_=>false) && (match P.info? e with|some i=>Nat.beq i.size sz && Nat.beq i.bytes bytes && (match i.zero with|some z=>Nat.beq z.cells.size sz|none=>false)|none=>false)
theorem C9 {t e bytes:Nat} (h:q6 P t e sz bytes=true):P.underlying t=some (.slice e)/\∃i z,P.info? e=some i/\i.zero=some z/\i.size=sz/\i.bytes=bytes/\z.cells.size=sz:=by
 simp only [q6,Bool.and_eq_true] at h;obtain ⟨h1,I⟩:=h;split at h1
 . rename_i U he;have:U=e:=Nat.eq_of_beq_eq_true h1;subst this;split at I
   . rename_i i hi;simp only [Bool.and_eq_true] at I;obtain ⟨⟨J,O⟩,h5⟩:=I;split at h5
     . rename_i z Q;exact ⟨he,i,z,hi,Q,Nat.eq_of_beq_eq_true J,Nat.eq_of_beq_eq_true O,Nat.eq_of_beq_eq_true h5⟩
     . simp at h5
   . simp at I
 . simp at h1
theorem Vr.NA (E:HJ sz f) {a:Addr} (h:Vr sz f w (some a) l): ∀j u,(l.flatMap f)[j]? =some u->w.cell? (a.add j)=some u:=by
 intro j u J;have I:j<l.length*sz:=by rw [<- pI E.len l];exact (List.getElem?_eq_some_iff.1 J).1
 have O:j / sz<l.length:=(Nat.div_lt_iff_lt_mul E.pos).2 I;have hm:=Nat.mod_lt j E.pos;have e:j=j / sz*sz+j % sz:=by rw [Nat.mul_comm];exact (Nat.div_add_mod j sz).symm
 obtain ⟨U,ha,Q⟩:=h (j / sz) O;simp only [Option.some.injEq] at ha;subst ha;rw [e,vA E.len l _ _ O hm] at J;have:=Q.get (j % sz) u J;rw [rW,Nat.zero_add,<- e] at this;exact this
theorem Row.mN {t ty e bytes:Nat} (E:HJ sz f) (hs:q6 P t e sz bytes=true) (h:Row sz f e w p c l) {news:List α} {m k n:Nat} (h2:Vr sz f w q news) (hn:n=l.length) (hm:m=news.length)
 (hlen:(l.length+news.length)* (bytes+1)<=140737488355328) {K:World->Option Addr->Nat->Nat->Prop}
 (Q: ∀w' p' c',Row sz f e w' p' c' (l++news)->aF (fun b=>aJ p=some b) w w'->(p'=p\/p'=some ⟨w.heap.size,0,none⟩)->w.heap.size<=w'.heap.size->K w' p' (l++news).length c'):
 ∃w',∃p' n' c',(Builtin.append_ #[t,t] ty #[.slice p n c,.slice q m k]).run P w= .ok (.slice p' n' c') w'/\K w' p' n' c':=by
 obtain ⟨ht,i,z,hi,hz,h1,ad,h3⟩:=C9 hs;subst hn hm;rcases Nat.eq_zero_or_pos news.length with h0|X
 . have:news= []:=List.eq_nil_of_length_eq_zero h0;subst this;refine ⟨w,p,l.length,c,?_,?_⟩
   . rcases h.un with ⟨rfl,rfl,rfl⟩| ⟨g,cur,rfl,hg,g1,g2,g3,g4⟩<;>cases q<;>
      simp [Builtin.append_,run_underlying ht,sizeOf,typeInfo,Builtin.lenOf,Builtin.firstCells,loadCells,loadCellsFrom,storeCells, *]
   . have:=Q w p c (by simpa using h) (aF.refl w) (.inl rfl) (Nat.le_refl _);simpa using this
 . obtain ⟨a,rfl,_⟩:=h2 0 X;have hb:(l.length+news.length)*bytes<=140737488355328:=Nat.le_trans (Nat.mul_le_mul_left _ (Nat.le_succ _)) hlen;have an:l.length+news.length<=140737488355328:=Nat.le_trans (Nat.le_mul_of_pos_right _ (Nat.succ_pos _)) hlen;have J:(l++news).length=l.length+news.length:=by simp
   have U:=pI E.len l;have I:=pI E.len news;have Y:(news.flatMap f).length=news.length*i.size:=by rw [I,h1]
   have Z:=h2.NA E;have ac: ∀u∈news.flatMap f,u.oneCell'=true:=fun u hu=>by obtain ⟨x,_,hx⟩:=List.mem_flatMap.1 hu;exact E.bH x u hx
   have V:l.length*sz+news.length*sz=(l.length+news.length)*sz:=(Nat.add_mul _ _ _).symm;have bV: ∀sI,Row sz f e (w.drew.alloc (.cells ((l.flatMap f).toArray++ (news.flatMap f).toArray++Builtin.zeroCells z.cells (grownCap w (l.length+news.length) sI e - (l.length+news.length))) e))
    (some ⟨w.heap.size,0,none⟩) (grownCap w (l.length+news.length) sI e) (l++news):=by
    intro sI;have a7:=grownCap_ge w (l.length+news.length) sI e;have ar:grownCap w (l.length+news.length) sI e<=maxLen:=grownCap_le_maxLen w _ sI e (by simp only [maxLen];omega);refine Row.dx E.len (cur:=(l.flatMap f).toArray++ (news.flatMap f).toArray++Builtin.zeroCells z.cells (grownCap w (l.length+news.length) sI e - (l.length+news.length))) Array.getElem?_push_size (by omega) ar ?_ ?_
    . simp only [Array.size_append,List.size_toArray,size_zeroCells,h3,U,I,V];rw [<- Nat.add_mul];congr 1;omega
    . simp only [Array.toList_append,List.flatMap_append];rw [J,<- V,List.take_append_of_le_length (by simp [U,I]),List.take_of_length_le (by simp [U,I])]
   have gr: ∀ (o:Obj),aF (fun b=>aJ p=some b) w (w.drew.alloc o):=fun o=> ⟨rfl,rfl,rfl,by simp,fun k Q _=>Below.heap_alloc w.drew o k Q⟩
   rcases h.un with ⟨rfl,rfl,rfl⟩| ⟨g,cur,rfl,hg,g1,g2,g3,g4⟩
   . have hr:=run_append_nil (P:=P) w t ty e i z ht hi hz a news.length k (news.flatMap f) Y Z X (by simp at an;omega) (by rw [ad];simp at hb;omega);have hf:=bV 0;simp only [List.length_nil,Nat.zero_add,List.flatMap_nil,List.nil_append] at hf hr J Q ⊢;refine ⟨_,_,_,_,hr,?_⟩;exact Q _ _ _ (by simpa using hf) (gr _) (.inr rfl) (by simp)
   . by_cases O:l.length+news.length<=c
     . have ap:l.length*sz+news.length*sz<=cur.size:=by rw [V,g3];exact Nat.mul_le_mul_right _ O
       have hr:=run_append_room (P:=P) w t ty e i ht hi g l.length c cur hg a news.length k (news.flatMap f) Y Z ac O (by rw [h1,I];exact ap);refine ⟨_,_,_,_,hr,?_⟩;rw [<- J];refine Q _ _ _ (Row.dx E.len (setRow_heap w g cur _ e _ hg) (by omega) g2 ?_ ?_) ⟨rfl,rfl,rfl,by simp,fun k _ Q=>setRow_other w g k _ fun he=>Q (by simp [aJ,he])⟩ (.inl rfl) (by simp)
       . simp only [List.size_toArray,List.length_append,List.length_take,List.length_drop,Array.length_toList,I,h1];omega
       . rw [J,h1,List.flatMap_append,<- V,<- g4];rw [List.take_append_of_le_length (by simp [I];omega),List.take_of_length_le (by simp [I];omega)]
     . have hr:=run_append_grow (P:=P) w t ty e i z ht hi hz ⟨g,0,none⟩ l.length c (l.flatMap f) (by rw [U,h1]) ((Row.vr E h).NA E) a news.length k (news.flatMap f) Y Z (by omega) (by omega) (growslice_fits (by omega) (by rw [ad];exact hb));refine ⟨_,_,_,_,hr,?_⟩;rw [<- J];exact Q _ _ _ (by rw [J];exact bV c) (gr _) (.inr rfl) (by simp)
end
section
variable {P:Program} {α:Type} {f:α->Value} {T:TypeId} {w w':World} {p:Option Addr} {c:Nat} {l:List α}
theorem Ow.clear {t ty e bytes:Nat} (hs:mB P t e bytes=true) {x:α} {v:Value} (V:(P.info? e).bind (·.zero)=some v) (hv:v.cells= #[f x]) (ho:(f x).oneCell'=true) (h:Ow f e w p c l) {k m d:Nat} (Y:k+m=l.length) (hm:0<m) {K:World->Prop}
 (Z: ∀w',Ow f e w' p c (l.take k)->aF (fun b=>aJ p=some b) w w'->K w'):
 ∃w',(Builtin.clear_ #[t] ty #[.slice (p.map (·.add (k*1))) m d]).run P w= .ok (.tuple #[]) w'/\K w':=by
 obtain ⟨ht,i,z,hi,I,h1,hb,h3⟩:=kW hs;have O:z=v:=by simp only [hi,Option.bind_some] at V;rw [I] at V;exact Option.some.inj V
 subst O;rcases h.un with ⟨rfl,rfl,rfl⟩| ⟨g,cur,rfl,hg,g1,g2,g3,g4⟩
 . simp at Y;omega
 . have Q:(Builtin.zeroCells z.cells m).toList=List.replicate m (f x):=by
    rw [hv];simp [Builtin.zeroCells];apply List.ext_getElem
    . simp
    . intro i h1 h2;simp [Nat.mod_one]
   obtain ⟨w2,X,hh⟩:=zp (b:=g) (off:=0+k*1) (i:=0) (vs:=List.replicate m (f x)) (K:=fun w'=> ∃J:World,J=w'/\w'.heap[g]? =some (.cells (wr cur (0+k*1+0) (List.replicate m (f x))) e (0,0))/\aF (·=g) w w') hg (by simp;omega) (by
    rw [List.all_eq_true];intro u hu;rw [List.eq_of_mem_replicate hu];exact ho) fun w' a1 a2 _=> ⟨w',rfl,a1,a2⟩
   obtain ⟨_,_,a1,a2⟩:=hh;refine ⟨w2,?_,Z w2 ?_ (a2.mono fun b _ hb=>by subst hb;rfl)⟩
   . have hr:=jv (P:=P) ⟨g,0+k*1,none⟩ _ _ _ _ X;obtain ⟨m,rfl⟩: ∃n,m=n+1:=⟨m - 1,by omega⟩
     have U:(zeroValue e:Sem Value).run P w= .ok z w:=by
      simp [zeroValue,typeInfo,hi,I,Sem.run_bind]
     simp only [Option.map_some,c5];rw [Nat.zero_add,Nat.mul_one] at hr;simp [Builtin.clear_,run_underlying ht,U,Q,hr]
   . have hw:(wr cur (0+k*1+0) (List.replicate m (f x))).toList=cur.toList.take k++List.replicate m (f x)++cur.toList.drop (k+m):=by
      rw [yV _ _ _ (by simp;omega)];simp
     refine Ow.dx a1 (by simp;omega) g2 (by rw [tU];exact g3) ?_;rw [hw,List.length_take,Nat.min_eq_left (by omega),List.append_assoc,List.take_append_of_le_length (by simp;omega),List.take_take,Nat.min_self,List.map_take,<- g4,List.take_take,Nat.min_eq_left (by omega)]
end
end Go.Fw
namespace Go.Proofs.YtenmibfmhccmiaaGreat.W
open Go Go.Fw Go.RowKit Go.SoP Go.LiP
open Go.Proofs.Tryz (prog)
variable {w:World} {p q:Option Addr} {n c:Nat} {l:List Int}
theorem c4:mB prog aI aC 8=true:=by kernel_rfl
theorem ik:(Tryz.prog.info? aC).bind (·.zero)=some (.int .i64 0):=by kernel_rfl
theorem pN (l:Int):bf l=am l:=rfl
theorem AI {x:Int} (h:bq x=true):1<=am x/\am x<=1048576:=by
 have:=cx h;unfold am;split<;>omega
theorem ui {l:Int} (h: -9223372036854775808<l) (I:l<9223372036854775808) (w:World):Calls prog fU.id #[.int .i64 l] w fun e w'=>e= .returned (.int .i64 (bf l))/\tg w w':=by
 refine fU.ak ?_;unfold fU.w;rw [aD (x:=0 - l) (by omega) (by omega)];refine ⟨?_,tg.refl w⟩;unfold imax bf;congr 2;split<;>split<;>omega
theorem EK {x y:Int} (J:bq x=true) (I:bq y=true) (w:World):Calls prog g_.id #[.int .i64 x,.int .i64 y] w fun e w'=>e= .returned (.int .i64 (mM x y))/\tg w w':=by
 refine g_.ak ?_;have bx:=cx J;have bY:=cx I;have ax:=AI J;have Z:=AI I;refine (ui (l:=x) (by omega) (by omega) w).mono ?_;rintro e w1 ⟨rfl,Q⟩;refine ⟨_,rfl,(ui (l:=y) (by omega) (by omega) w1).mono ?_⟩;rintro e w2 ⟨rfl,V⟩;rw [pN,pN];have O:=Q.trans V;refine ⟨_,rfl,aj (fun s=> ?_) (fun s=> ⟨?_,O⟩)⟩
 . have s:am x≠am y:=by simpa using s
   refine (ui (l:=x) (by omega) (by omega) w2).mono ?_;rintro e w3 ⟨rfl,X⟩;refine ⟨_,rfl,(ui (l:=y) (by omega) (by omega) w3).mono ?_⟩;rintro e Y ⟨rfl,U⟩;rw [pN,pN];refine ⟨_,rfl,?_,(O.trans X).trans U⟩;unfold mM;rw [if_pos s,aD (by omega) (by omega)]
 . have s: ¬am x≠am y:=by simpa using s
   unfold mM;rw [if_neg s,aD (by omega) (by omega)]
theorem Cy:fX prog g_.id=true:=by kernel_rfl
theorem Gt {x y:Int} (V:bq x=true) (Q:bq y=true) (w:World):Calls prog eK.id #[.int .i64 x,.int .i64 y] w fun e w'=>e= .returned (.bool (decide (mM x y<0)))/\ao w w':=by
 refine eK.ak ?_;have bx:=cx V;have bY:=cx Q;refine (jO (l:=x) (by omega) w (by omega)).mono ?_;rintro e w1 ⟨rfl,U⟩;refine ⟨_,rfl,(jO (l:=y) (by omega) w1 (by omega)).mono ?_⟩;rintro e w2 ⟨rfl,Y⟩;rw [pN,pN];have O:=U.trans Y;refine ⟨_,rfl,aj (fun s=> ⟨?_,O⟩) (fun s=> ?_)⟩
 . have s:am x<am y:=by simpa using s
   unfold mM;rw [if_pos (by omega),decide_eq_true (by omega)]
 have s: ¬am x<am y:=by simpa using s
 refine (jO (l:=x) (by omega) w2 (by omega)).mono ?_;rintro e w3 ⟨rfl,Z⟩;refine ⟨_,rfl,(jO (l:=y) (by omega) w3 (by omega)).mono ?_⟩;rintro e w4 ⟨rfl,X⟩;rw [pN,pN];have J:=(O.trans Z).trans X;refine ⟨_,rfl,aj (fun I=> ⟨?_,J⟩) (fun I=> ⟨?_,J⟩)⟩
 . have I:am x=am y:=by simpa using I
   unfold mM;rw [if_neg (by omega)];congr 2;exact decide_eq_decide.2 (by omega)
 . have I:am x≠am y:=by simpa using I
   unfold mM;rw [if_pos I,decide_eq_false (by omega)]
theorem cW {t:Nat} {x:Int} (h:t<l.length):x∈l.take (t+1)↔x∈l.take t\/x=l.getD t 0:=by
 rw [List.take_add_one,List.mem_append];have:l[t]? =some (l.getD t 0):=by simp [List.getD,h]
 rw [this];simp
theorem bo {t:Nat} (h:t<l.length):l.getD t 0∈l:=by simp [List.getD,h]
theorem sL (h:Vw (Value.int .i64) w p l) (hn:n=l.length) (hm:n<=maxLen) (x:Int):Calls prog f_.id #[.slice p n c,.int .i64 x] w fun e w'=>e= .returned (.bool (decide (x∈l)))/\ao w w':=by
 refine f_.ak ?_;unfold maxLen at hm;refine ⟨fun I w' k=> ∃t:Nat,I=t/\t<=l.length/\k=l.length - t/\x ∉ l.take t/\ao w w',⟨_,0,rfl,Nat.zero_le _,rfl,by simp,aF.refl w⟩,?_⟩;rintro I w1 k _ ⟨t,rfl,ht,rfl,ha,G⟩;refine aj (fun s=> ?_) (fun s=> ⟨?_,G⟩)
 . have s:t<l.length:=by simp at s;omega
   refine (h.grow G).ix 0 (by omega) hn (by omega) fun a e=> ⟨_,e,?_⟩
   rw [Int.toNat_natCast];refine aj (fun J=> ⟨?_,G⟩) (fun J=> ⟨_,?_,t+1,wN (by omega) (by omega),by omega,rfl,?_,G⟩)
   . have J:l.getD t 0=x:=by simpa using J
     rw [decide_eq_true (by rw [<- J];exact bo s)]
   . omega
   . have J:l.getD t 0≠x:=by simpa using J
     rw [cW s];rintro (e|e)
     . exact ha e
     . exact J e.symm
 . have:t=l.length:=by simp at s;omega
   subst this;rw [List.take_length] at ha;rw [decide_eq_false ha]
theorem HE (h:Vw (Value.int .i64) w p l) (hn:n=l.length) (hm:n<=maxLen) (x:Int):Calls prog cZ.id #[.slice p n c,.int .i64 x] w fun e w'=> ∃r:Int,e= .returned (.int .i64 r)/\(r>=0↔x∈l)/\ao w w':=by
 refine cZ.ak ?_;unfold maxLen at hm;refine ⟨fun I w' k=> ∃t:Nat,I=t/\t<=l.length/\k=l.length - t/\x ∉ l.take t/\ao w w',⟨_,0,rfl,Nat.zero_le _,rfl,by simp,aF.refl w⟩,?_⟩;rintro I w1 k _ ⟨t,rfl,ht,rfl,ha,G⟩;refine aj (fun s=> ?_) (fun s=> ⟨-1,rfl,?_,G⟩)
 . have s:t<l.length:=by simp at s;omega
   refine (h.grow G).ix 0 (by omega) hn (by omega) fun a e=> ⟨_,e,?_⟩
   rw [Int.toNat_natCast];refine aj (fun J=> ⟨(t:Int),rfl,?_,G⟩) (fun J=> ⟨_,?_,t+1,wN (by omega) (by omega),by omega,rfl,?_,G⟩)
   . have J:x=l.getD t 0:=by simpa using J
     exact ⟨fun _=>by rw [J];exact bo s,fun _=>by omega⟩
   . omega
   . have J:x≠l.getD t 0:=by simpa using J
     rw [cW s];rintro (e|e)
     . exact ha e
     . exact J e
 . have:t=l.length:=by simp at s;omega
   subst this;rw [List.take_length] at ha;exact ⟨fun h=>by omega,fun h=>absurd h ha⟩
theorem sW (h:Vw (Value.int .i64) w p l) (hn:n=l.length) (hm:n<=maxLen) (x:Int):Calls prog cB.id #[.slice p n c,.int .i64 x] w fun e w'=>e= .returned (.bool (decide (x∈l)))/\ao w w':=by
 refine cB.ak ?_;refine (HE h hn hm x).mono ?_;rintro e w1 ⟨r,rfl,hr,I⟩;exact ⟨_,rfl,by rw [decide_eq_decide.2 hr],I⟩
theorem zO (u v:Value):(#[]++ #[u]++ #[v]:Array Value)= #[u,v]:=by simp
theorem iO (h:Vw (Value.int .i64) w p l) (hn:n=l.length) (hm:n<=1000000):Calls prog c8.id #[.slice p n c] w fun e w'=> ∃ (q:Option Addr) (d:Nat),e= .returned (.slice q l.length d)/\da aC w' q d l/\ao w w'/\(∀b,aJ q=some b->w.heap.size<=b):=by
 refine c8.ak ?_;refine aj (fun s=> ?_) (fun s=> ?_)
 . have hp:p=none:=by cases p<;>simp at s ⊢
   subst hp;have:l= []:=by
    rcases l with _| ⟨x,l⟩
    . rfl
    . obtain ⟨a,ha,_⟩:=h 0 (by simp);cases ha
   subst this;exact ⟨none,0,rfl,Ow.nil _ _ _,aF.refl w,fun b hb=>by simp [aJ] at hb⟩
 . intro Q w1 h1;have o1:da aC w1 (some ⟨Q,0,none⟩) 0 []:=aY.o0 h1;refine o1.qG c4 (h.grow h1.mod) rfl hn eV (by simp;omega) fun w2 p2 J o2 m2 I O=> ?_;rw [List.nil_append] at o2 ⊢;have U:=h1.num;refine ⟨p2,J,rfl,o2,h1.mod.then m2 fun b hb e=> ?_,fun b hb=> ?_⟩
   . have:=aO e;omega
   . rcases I with rfl|rfl
     . have:=aO hb;omega
     . have:=aO hb;have:=h1.mod.size;omega
theorem vv {k m j:Nat} (_:k+m=l.length) (I:j<m):((l.drop k).take m).getD j 0=l.getD (k+j) 0:=by
 simp only [List.getD_eq_getElem?_getD];rw [List.getElem?_take,if_pos I,List.getElem?_drop]
theorem yh {l:List Int} {i j:Nat} {x:Int} (hi:i<l.length):(l.set i x).getD j 0=if j=i then x else l.getD j 0:=jc hi
theorem mA {l:List Int} {k:Nat} {x:Int} (h:k<l.length):(l.set k x).take (k+1)=l.take k++ [x]:=by
 rw [List.take_add_one,List.take_set,List.set_eq_of_length_le (by simp;omega)];simp [h]
theorem Cw (o:da aC w p c l) (hn:n=l.length) (hm:n<=1000000):Calls prog ck.id #[.slice p n c] w fun e w'=>e= .returned (.slice p (tS l l.length).length c)/\da aC w' p c (tS l l.length)/\aF (Bk p) w w':=by
 refine ck.ak ?_;refine aj (fun s=> ?_) (fun s=> ?_)
 . have s:l.length<2:=by simp at s;omega
   have:tS l l.length=l:=by
    rw [qZ (Nat.le_refl _) (fun j V Y=>by omega),List.take_length]
   rw [this,hn];exact ⟨rfl,o,aF.refl w⟩
 have s:2<=l.length:=by simp at s;omega
 refine ⟨fun I w' k=> ∃t:Nat,I=t/\1<=t/\t<=n/\k=n - t/\(∀j,0<j->j<t->l.getD j 0≠l.getD (j - 1) 0)/\da aC w' p c l/\aF (Bk p) w w',⟨_,1,rfl,Nat.le_refl _,by omega,rfl,fun j V Y=>by omega,o,aF.refl w⟩,?_⟩;rintro I w1 k _ ⟨t,rfl,t1,ht,rfl,ha,o1,m1⟩;have ax:l.length<=c:=by
  rcases o.un with ⟨_,_,rfl⟩| ⟨_,_,_,_,h,_⟩
  . simp at s
  . exact h
 refine aj (fun r=> ?_) (fun r=> ?_)
 . have r:t<n:=by simpa using r
   have e1:IntKind.i64.wrap ((t:Int) - 1)=((t - 1:Nat):Int):=wN (by omega) (by omega);rw [e1];refine o1.drew.ix 0 (by omega) hn (by omega) fun a e=> ⟨_,e,o1.drew.ix 0 (by omega) hn (by omega) fun a e=> ⟨_,e,?_⟩⟩
   rw [Int.toNat_natCast,Int.toNat_natCast];refine aj (fun O=> ?_) (fun O=> ⟨_,?_,t+1,wN (by omega) (by omega),by omega,by omega,rfl,fun j V Y=> ?_,o1.drew,m1.drew⟩)
   . have O:l.getD t 0=l.getD (t - 1) 0:=by simpa using O
     refine fe t n c rfl rfl rfl (by omega) (by omega) (by omega) ?_;rw [if_neg (by omega)];have d0:tS l t=l.take t:=qZ (by omega) ha;have d1:tS l (t+1)=l.take t:=by
      unfold tS;rw [if_pos ⟨by omega,O⟩,d0]
     refine ⟨fun I J w' k=> ∃ (i j:Nat) (cur:List Int),I=i/\J=j/\1<=j/\j<=n - t/\k=n - t - j/\i<t+j/\cur.length=n/\(∀x,t+j - 1<=x->x<n->cur.getD x 0=l.getD x 0)/\cur.take i=tS l (t+j)/\da aC w' p c cur/\aF (Bk p) w w',⟨_,t,1,l,rfl,rfl,Nat.le_refl _,by omega,rfl,by omega,hn.symm,fun _ _ _=>rfl,d1.symm,o1.drew,m1.drew⟩,?_⟩;clear d0 d1;rintro I J w2 k _ ⟨i,j,cur,rfl,rfl,V,Y,rfl,hi,hc,X,Z,o2,m2⟩;have v2:Vw (Value.int .i64) w2 (p.map (·.add (t*1))) ((cur.drop t).take (n - t)):=o2.vw.part (by omega);have hv:n - t=((cur.drop t).take (n - t)).length:=by simp;omega
     refine aj (fun U=> ?_) (fun U=> ?_)
     . have U:j<n - t:=by simpa using U
       have e2:IntKind.i64.wrap ((j:Int) - 1)=((j - 1:Nat):Int):=wN (by omega) (by omega);rw [e2];refine v2.drew.ix 0 (by omega) hv (by omega) fun a e=> ⟨_,e,v2.drew.ix 0 (by omega) hv (by omega) fun a e=> ⟨_,e,?_⟩⟩
       rw [Int.toNat_natCast,Int.toNat_natCast,vv (by omega) U,vv (by omega) (by omega),X _ (by omega) (by omega),X _ (by omega) (by omega)];have ed:tS l (t+j+1)=if 0<t+j/\l.getD (t+j) 0=l.getD (t+j - 1) 0 then tS l (t+j) else tS l (t+j)++ [l.getD (t+j) 0]:=rfl
       rw [show t+ (j - 1)=t+j - 1 by omega];refine aj (fun Q=> ?_) (fun Q=> ?_)
       . have Q:l.getD (t+j) 0≠l.getD (t+j - 1) 0:=by simpa using Q
         refine v2.drew.ix 0 (by omega) hv (by omega) fun a e=> ⟨_,e,?_⟩
         rw [Int.toNat_natCast,vv (by omega) U,X _ (by omega) (by omega)];refine o2.drew.st (l.getD (t+j) 0) rfl rfl (by omega) hc.symm (by omega) fun w3 o3 m3=> ?_;rw [Int.toNat_natCast] at o3;refine ⟨_,?_,i+1,j+1,_,wN (by omega) (by omega),wN (by omega) (by omega),by omega,by omega,rfl,by omega,by simpa using hc,fun x x1 x2=> ?_,?_,o3,m2.drew.trans m3⟩
         . omega
         . rw [yh (by omega),if_neg (by omega)];exact X x (by omega) x2
         . rw [mA (by omega),Z,show t+ (j+1)=t+j+1 by omega,ed,if_neg (fun e=>Q e.2)]
       . have Q:l.getD (t+j) 0=l.getD (t+j - 1) 0:=by simpa using Q
         refine ⟨_,?_,i,j+1,cur,rfl,wN (by omega) (by omega),by omega,by omega,rfl,by omega,hc,fun x x1 x2=>X x (by omega) x2,?_,o2.drew,m2.drew⟩
         . omega
         . rw [Z,show t+ (j+1)=t+j+1 by omega,ed,if_pos ⟨by omega,Q⟩]
     . have U:j=n - t:=by simp at U;omega
       have av:i<n:=by omega
       have ad:(tS l l.length).length=i:=by
        rw [show l.length=t+j by omega,<- Z];simp;omega
       refine fe i n c rfl rfl rfl (by omega) (by omega) (by omega) ?_;rw [if_neg (by omega)];refine o2.clear c4 ik (x:=(0:Int)) rfl rfl (by omega) (by omega) fun w3 o3 m3=> ?_;refine fe 0 i c rfl rfl rfl (by omega) (by omega) (by omega) ?_;rw [if_neg (by omega),Nat.sub_zero,Nat.sub_zero];have ep:p.map (·.add (0*1))=p:=by cases p<;>simp [Addr.add]
       rw [ep,ad];rw [Z,show t+j=l.length by omega] at o3;exact ⟨rfl,o3,m2.trans m3⟩
   . omega
   . have O:l.getD t 0≠l.getD (t - 1) 0:=by simpa using O
     by_cases e:j=t
     . subst e;exact O
     . exact ha j V (by omega)
 . have r:t=n:=by simp at r;omega
   have:tS l l.length=l:=by
    rw [qZ (Nat.le_refl _) (fun j V Y=>ha j V (by omega)),List.take_length]
   rw [this,hn];exact ⟨rfl,o1,m1⟩
end Go.Proofs.YtenmibfmhccmiaaGreat.W
