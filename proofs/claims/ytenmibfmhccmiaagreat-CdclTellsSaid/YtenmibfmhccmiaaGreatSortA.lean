/- Sorting by swaps, plain. -/
import Derived.Test.YtenmibfmhccmiaaGreatGenCdcl
import Derived.Shelf.SlSortCmp.NoneTotal
import Derived.Test.YtenmibfmhccmiaaGreatHeapA
import Derived.Test.YtenmibfmhccmiaaGreatFwRead
namespace Go.SoP
def qP (l:List Int) (i j:Nat):List Int:=(l.set i (l.getD j 0)).set j (l.getD i 0)
theorem qy (l:List Int) (i j:Nat):(qP l i j).length=l.length:=by simp [qP]
theorem iO {l:List Int} {i j:Nat} {x:Int} (hi:i<l.length):(l.set i x).getD j 0=if j=i then x else l.getD j 0:=by
 simp only [List.getD_eq_getElem?_getD,List.getElem?_set];by_cases h:j=i
 . subst h;simp [hi]
 . rw [if_neg (fun e=>h e.symm),if_neg h]
theorem jV {l:List Int} {i j:Nat} (hi:i<l.length) (I:j<l.length) (k:Nat):(qP l i j).getD k 0=if k=j then l.getD i 0 else if k=i then l.getD j 0 else l.getD k 0:=by
 unfold qP;rw [iO (by simpa using I),iO hi]
theorem tU {l:List Int} {i j:Nat} (hi:i<l.length) (I:j<l.length):(qP l i j).Perm l:=by
 rw [List.perm_iff_count];intro x;unfold qP;rw [List.count_set (by simpa using I),List.count_set hi];have U:l[i]=l.getD i 0:=by simp [List.getD,hi]
 have O:(l.set i (l.getD j 0))[j]'(by simpa using I)=if i=j then l.getD j 0 else l.getD j 0:=by
  rw [List.getElem_set];split
  . rfl
  . simp [List.getD,I]
 rw [U,O];have V:l.getD i 0=x->0<List.count x l:=fun h=>List.count_pos_iff.2 (by rw [<- h];simp [List.getD,hi]);have Q:l.getD j 0=x->0<List.count x l:=fun h=>List.count_pos_iff.2 (by rw [<- h];simp [List.getD,I]);simp only [ite_self];by_cases h1:l.getD i 0=x<;>by_cases J:l.getD j 0=x<;>simp only [h1,J,beq_self_eq_true,if_true,beq_iff_eq,if_false]<;> (first|omega| (have:=V h1;omega)| (have:=Q J;omega))
section
variable (c:Int->Int->Int)
def Le (x y:Int):Prop:= ¬c y x<0
structure Ord:Prop where
 II: ∀ {x y},c x y<0->¬c y x<0
 trans: ∀ {x y z},Le c x y->Le c y z->Le c x z
def pT (l:List Int) (a b:Nat):Prop:= ∀i j,a<=i->i<j->j<b->Le c (l.getD i 0) (l.getD j 0)
end
variable {c:Int->Int->Int}
theorem Ord.lt {x y:Int} (o:Ord c) (h:c x y<0):Le c x y:=o.II h
theorem Ord.rfl {x:Int} (o:Ord c):Le c x x:=fun h=>o.II h h
theorem Ord.GS {x y z:Int} (o:Ord c) (h:c x y<0) (k:Le c y z):c x z<0:=by
 by_cases e:c x z<0
 . exact e
 . exact absurd h (o.trans k e)
theorem Ord.Lq {x y z:Int} (o:Ord c) (h:Le c x y) (k:c y z<0):c x z<0:=by
 by_cases e:c x z<0
 . exact e
 . exact absurd k (o.trans e h)
end Go.SoP
namespace Go.Proofs.YtenmibfmhccmiaaGreat.W
open Go
section
def Ln:Go.Shelf.Ren:=⟨fun|6=>135|15=>178|14=>177|28=>212|29=>213|20=>204|21=>205|22=>206|23=>207|24=>208|25=>209|26=>210|27=>211|46=>218|47=>219|48=>220|49=>221|50=>222|57=>223|n=>n,fun|22=>28|24=>3|25=>164|39=>193|53=>222|55=>224|46=>216|45=>215|50=>138|66=>226|70=>230|76=>232|77=>233|n=>n,id⟩
end
section
open Go.Fw Go.RowKit Go.SoP
abbrev Bk (p:Option Addr):Nat->Prop:=fun b=>aI p=some b
theorem wN {x:Int} {i:Nat} (h:x=i) (hb:i<9223372036854775808):IntKind.i64.wrap x=i:=by
 subst h;exact aB (by omega) (by omega)
theorem Hx {P:Program} {n:FuncId} {B:Func} (h1:((P.funcs[n]?.getD B).name== "runtime.NumGoroutine")=false) (I:P.funcs[n]? =some {B with name:=(P.funcs[n]?.getD B).name}):Bears P n B:=⟨_,h1,I⟩
theorem LQ:SlLaysF.n6 Tryz.prog Ln:=by
 constructor;all_goals first|kernel_rfl| (intro w;kernel_rfl)|exact Hx (by kernel_rfl) (by kernel_rfl)
def rH (w w':World):Prop:= ∃q os,w'=Sort.grow (w.drewN q) os
theorem rH.refl (w:World):rH w w:=⟨0,#[],by simp [Sort.grow,World.drewN]⟩
theorem rH.trans {a b c:World} (h:rH a b) (k:rH b c):rH a c:=by
 obtain ⟨q,os,rfl⟩:=h;obtain ⟨J,I,rfl⟩:=k;exact ⟨q+J,os++I,by unfold Sort.grow World.drewN;simp only [Array.append_assoc,Nat.add_assoc]⟩
theorem rH.drew {a b:World} (h:rH a b):rH a b.drew:=h.trans ⟨1,#[],by rw [Sort.grow_empty];rfl⟩
theorem rH.grow {a b:World} (h:rH a b):aq a b:=by
 obtain ⟨q,os,rfl⟩:=h;refine ⟨rfl,rfl,rfl,by simp [Sort.grow,World.drewN],fun k I _=> ?_⟩;show (a.heap++os)[k]? =_;rw [Array.getElem?_append_left I]
structure Cx (w0:World) (p:Option Addr) (n:Nat) (l0:List Int) (fid:FuncId) (fv:Array Value) (cf:Int->Int->Int):Prop where
 hn:n=l0.length
 hm:n<=1152921504606846976
 he:fM Tryz.prog fid=true
 hf: ∀x∈l0,∀y∈l0,∀w,aE (Bk p) w0 w->Calls Tryz.prog fid (#[]++ #[.int .i64 x,.int .i64 y]++fv) w fun e w2=>e= .returned (.int .i64 (cf x y))/\rH w w2
 o:Ord cf
variable {w0 w:World} {p:Option Addr} {n c:Nat} {l0 l:List Int} {fid:FuncId} {fv:Array Value} {cf:Int->Int->Int}
theorem tV {P:Program} {g:FuncId} (h:fM P g=true) (J:Array Value) (w:World):(callFunc g J).run P w= .ok (.enter g J) w:=by
 unfold fM at h;unfold callFunc;simp only [Sem.run_bind,run_program,Result.andThen_ok];split at h
 . rename_i fn I;simp only [Bool.and_eq_true,bne_iff_ne,ne_eq] at h;simp only [I];have h1:(fn.name== "runtime.NumGoroutine")=false:=by simpa using h.2
   have O:fn.body.isNone=false:=by cases Q:fn.body<;>simp_all
   simp [h1,O]
 . simp at h
theorem CD {α:Type} [Inhabited α] (enc:α->Value) (w:World) (b m:Nat) (d:Array α) (os:Array Obj):aE (fun k=>k=b) w (sortWorld enc w b 0 m d os):=by
 refine ⟨rfl,rfl,rfl,?_,fun k J I=> ?_⟩
 . simp [sortWorld,Sort.grow,Sort.putRow,Sort.mapBlock,Sort.ahead]
 . show ((w.heap.modify b _)++os)[k]? =_;rw [Array.getElem?_append_left (by simpa using J),Array.getElem?_modify,if_neg fun e=>I e.symm]
theorem yo (X:Cx w p n l fid fv cf) (h:eC aC w p c l):
 Calls Tryz.prog iJ.id #[.slice p n c,.func (.func fid) #[] fv] w fun e w'=>e= .returned (.tuple #[])/\∃l',eC aC w' p c l'/\aE (Bk p) w w'/\l'.Perm l/\pT cf l' 0 l'.length:=by
 rcases Nat.eq_zero_or_pos l.length with Y|Y
 . have hn:n=0:=by rw [X.hn,Y]
   subst hn;refine (AnyF.slices_SortFunc_none (P:=Tryz.prog) (ρ:=Ln) {LQ with} p c _ w).mono ?_;rintro e w' ⟨rfl,rfl⟩;exact ⟨rfl,l,h,aE.refl _,.refl l,fun i j _ _ I=>by omega⟩
 . rcases h.un with ⟨_,_,e⟩| ⟨b,cur,rfl,hb,h1,V,h3,h4⟩
   . rw [e] at Y;simp at Y
   . haveI:Inhabited {x:Int // x∈l}:=⟨⟨l[0],List.getElem_mem Y⟩⟩
     obtain ⟨d,hd⟩: ∃d:Array {x:Int // x∈l},d=l.attach.toArray:=⟨_,rfl⟩
     have ds:d.size=n:=by rw [hd,X.hn];simp
     have Z: ∀j (I:j<l.length),(d[j]!).1=l[j]:=fun j I=>by
      have:j<d.size:=by rw [ds,X.hn];exact I
      rw [getElem!_pos d j this];simp [hd]
     have ax:=X.hm;have ag:Go.Sort.SWO (Go.Proofs.ltOf fun a b: {x:Int // x∈l}=>cf a.1 b.1):=by
      refine ⟨fun x=> ?_,fun x y z h1 V=> ?_,fun x y z h1 V=> ?_⟩
      . exact decide_eq_false X.o.rfl
      . simp only [ltOf,decide_eq_true_eq] at*
        exact X.o.GS h1 (X.o.lt V)
      . simp only [ltOf,decide_eq_false_iff_not] at*
        exact X.o.trans V h1
     have key:=Any.slices_SortFunc LQ (fun a: {x:Int // x∈l}=>Value.int .i64 a.1) (fun _=>rfl) (fun a b=>cf a.1 b.1) ag fid fv b 0 c d w (tV X.he)
      (fun m os dk _ x y=> ?_) (fun j I=> ?_) ?_ (by omega)
     . rw [ds] at key;refine key.mono ?_;rintro e w' ⟨rfl,J,m,os,hp,hs,rfl⟩;obtain ⟨q1,q2,q3⟩:=hp;have O:J.size=n:=by rw [q1,ds]
       have Q: ∀a:Array {x:Int // x∈l},a.size=n->(a.extract 0 n).toList=a.toList:=fun a ha=>by
        rw [<- ha];simp
       rw [Q _ O,Q _ ds] at q3;have aa:(J.toList.map (·.1)).length=n:=by simp [O]
       have U:(J.toList.map (·.1)).Perm l:=by
        have:=q3.map (·.1);rw [hd] at this;simpa using this
       have gd: ∀i,i<n->(J.toList.map (·.1)).getD i 0=(J[i]!).1:=fun i hi=>by
        have:i<J.size:=by omega
        rw [getElem!_pos J i this];simp [List.getD,this]
       refine ⟨rfl,J.toList.map (·.1),?_,(CD _ w b m J os).mono fun k _ (e:k=b)=>by rw [e];rfl,U,fun i j hi ap I=> ?_⟩
       . refine Ow.dx (cur:=Sort.putCells (fun a: {x:Int // x∈l}=>Value.int .i64 a.1) 0 J cur) ?_ (by rw [aa,X.hn];exact h1) V ?_ ?_
         . show ((w.heap.modify b _)++os)[b]? =_;have an:b<w.heap.size:=h.lt b rfl;rw [Array.getElem?_append_left (by simpa using an),Array.getElem?_modify,if_pos rfl,hb];rfl
         . unfold Sort.putCells;simp [h3]
         . refine List.ext_getElem ?_ fun j j1 j2=> ?_
           . unfold Sort.putCells;simp [h3,O];rw [X.hn];exact Nat.min_eq_left h1
           . have I:j<n:=by simpa [O] using j2
             unfold Sort.putCells;have ay:j<J.size:=by omega
             simp [O,I]
       . rw [aa] at I;rw [gd i (by omega),gd j I];have:=hs i j hi ap I;simpa [ltOf,Le] using this
     . refine (X.hf x.1 x.2 y.1 y.2 _ ((CD _ w b m dk os).mono fun k _ (e:k=b)=>by rw [e];rfl)).mono ?_;rintro e w2 ⟨rfl,g⟩;exact ⟨rfl,g⟩
     . rw [ds,X.hn] at I;obtain ⟨g,e,hc⟩:=h.cell I;simp only [Option.some.injEq,Addr.mk.injEq] at e;obtain ⟨rfl,_,_⟩:=e;refine ⟨?_,oK (cs:=cur) ⟨_,hb⟩⟩;show w.cell? _=some (.int .i64 (d[j]!).1);rw [Z j I,Nat.zero_add];exact hc
     . exact h.lt b rfl
end
end Go.Proofs.YtenmibfmhccmiaaGreat.W
namespace Go.LiP
open Go.SoP
def am (l:Int):Int:=if l<0 then -l else l
def oT (a b:Int):Int:=if am a≠am b then am a - am b else b - a
theorem qf:Ord oT:=by
 constructor
 . intro x y h;unfold oT am at*
   split at h<;>split<;> (try split at h)<;> (try split)<;> (try split at h)<;> (try split)<;>omega
 . intro x y z h1 I;unfold Le oT at*
   have O:am x=x\/am x= -x:=by unfold am;split<;>simp
   generalize am x=Q at*
   generalize am y=J at*
   generalize am z=U at*
   split at h1<;>split at I<;>split<;>omega
theorem Iw (a b:Int) (h:a≠b):oT a b<0\/oT b a<0:=by
 unfold oT;split<;>split<;>omega
theorem wh {a b:Int} (h:Le oT a b) (I:a≠b):oT a b<0:=by
 rcases Iw a b I with J|J
 . exact J
 . exact absurd J h
theorem ww {a b c:Int} (h1:oT a b<0) (I:oT b c<0):oT a c<0:=qf.GS h1 (qf.lt I)
theorem oH (a:Int): ¬oT a a<0:=by unfold oT;simp
abbrev jn (m:List Int):Prop:=m.Pairwise fun a b=>oT a b<0
structure JY (c m:List Int):Prop where
 mem: ∀x,x∈m↔x∈c
 st:jn m
theorem wI: ∀ {m k:List Int},jn m->jn k->(∀x,x∈m↔x∈k)->m=k
 | [],[],_,_,_=>rfl
 | [],y::k,_,_,h=>by have:=(h y).2 (by simp);simp at this
 |x::m,[],_,_,h=>by have:=(h x).1 (by simp);simp at this
 |x::m,y::k,h1,I,h=>by
  have h1:=List.pairwise_cons.1 h1;have I:=List.pairwise_cons.1 I;have e:x=y:=by
   rcases List.mem_cons.1 ((h x).1 (by simp)) with e|e
   . exact e
   . rcases List.mem_cons.1 ((h y).2 (by simp)) with O|O
     . exact O.symm
     . exact absurd (ww (h1.1 y O) (I.1 x e)) (oH x)
  subst e;congr 1;refine wI h1.2 I.2 fun z=> ?_;constructor
  . intro J;rcases List.mem_cons.1 ((h z).1 (List.mem_cons_of_mem _ J)) with e|e
    . subst e;exact absurd (h1.1 z J) (oH z)
    . exact e
  . intro J;rcases List.mem_cons.1 ((h z).2 (List.mem_cons_of_mem _ J)) with e|e
    . subst e;exact absurd (I.1 z J) (oH z)
    . exact e
theorem JY.KD {c m k:List Int} (h:JY c m) (g:JY c k):m=k:=wI h.st g.st fun x=> (h.mem x).trans (g.mem x).symm
def sC (l:List Int):Nat->List Int
 |0=> []
 |k+1=>if 0<k/\l.getD k 0=l.getD (k - 1) 0 then sC l k else sC l k++ [l.getD k 0]
theorem xM {l:List Int}: ∀ {k:Nat},k<=l.length->∀x,x∈sC l k↔∃j,j<k/\l.getD j 0=x
 |0,_,x=>by simp [sC]
 |k+1,h,x=>by
  have O:=xM (l:=l) (k:=k) (by omega) x;unfold sC;split
  . rename_i Q;rw [O];constructor
    . rintro ⟨j,J,I⟩;exact ⟨j,by omega,I⟩
    . rintro ⟨j,J,I⟩;by_cases e:j=k
      . subst e;exact ⟨j - 1,by omega,by rw [<- Q.2];exact I⟩
      . exact ⟨j,by omega,I⟩
  . rw [List.mem_append,O,List.mem_singleton];constructor
    . rintro (⟨j,J,I⟩|e)
      . exact ⟨j,by omega,I⟩
      . exact ⟨k,by omega,e.symm⟩
    . rintro ⟨j,J,I⟩;by_cases e:j=k
      . subst e;exact .inr I.symm
      . exact .inl ⟨j,by omega,I⟩
theorem uG {l:List Int} (h:pT oT l 0 l.length): ∀ {k:Nat},k<=l.length->jn (sC l k)
 |0,_=>List.Pairwise.nil
 |k+1,hk=>by
  have O:=uG h (k:=k) (by omega);unfold sC;split
  . exact O
  . rename_i U;rw [jn,List.pairwise_append];refine ⟨O,List.pairwise_singleton _ _,fun x Q y J=> ?_⟩;rw [List.mem_singleton] at J;subst J;obtain ⟨j,V,rfl⟩:=(xM (by omega) x).1 Q;have I:oT (l.getD (k - 1) 0) (l.getD k 0)<0:=wh (h (k - 1) k (by omega) (by omega) (by omega)) fun e=>U ⟨by omega,e.symm⟩;by_cases e:j=k - 1
    . rw [e];exact I
    . exact qf.Lq (h j (k - 1) (by omega) (by omega) (by omega)) I
theorem qO {l:List Int}: ∀ {k:Nat},k<=l.length->(∀j,0<j->j<k->l.getD j 0≠l.getD (j - 1) 0)->sC l k=l.take k
 |0,_,_=>by simp [sC]
 |k+1,h,hc=>by
  unfold sC;rw [if_neg (fun e=>hc k e.1 (by omega) e.2),qO (k:=k) (by omega) (fun j I J=>hc j I (by omega)),List.take_add_one];have:l[k]? =some (l.getD k 0):=by simp [List.getD,show k<l.length by omega]
  rw [this];rfl
theorem Ih {c l:List Int} (hp:l.Perm c) (h:pT oT l 0 l.length):JY c (sC l l.length):=by
 refine ⟨fun x=> ?_,uG h (Nat.le_refl _)⟩;rw [xM (Nat.le_refl _),<- hp.mem_iff];constructor
 . rintro ⟨j,I,rfl⟩;simp [List.getD,I]
 . intro J;obtain ⟨j,I,e⟩:=List.mem_iff_getElem.1 J;exact ⟨j,I,by simp [List.getD,I,e]⟩
def jY:List Int->Int->Nat
 | [],_=>0
 |y::m,x=>if oT y x<0 then jY m x+1 else 0
theorem CG: ∀ (m:List Int) (x:Int),jY m x<=m.length
 | [],_=>Nat.le_refl _
 |y::m,x=>by
  unfold jY;split
  . simp;exact CG m x
  . exact Nat.zero_le _
theorem Cp: ∀ {m:List Int} {x:Int} {j:Nat},j<jY m x->oT (m.getD j 0) x<0
 | [],_,_,h=>by simp [jY] at h
 |y::m,x,j,h=>by
  unfold jY at h;split at h
  . rename_i I;cases j with
    |zero=>exact I
    |succ j=>simpa [List.getD] using Cp (m:=m) (x:=x) (j:=j) (by omega)
  . omega
theorem wK: ∀ {m:List Int} {x:Int},jY m x<m.length->¬oT (m.getD (jY m x) 0) x<0
 | [],_,h=>by simp at h
 |y::m,x,h=>by
  unfold jY at h ⊢;split
  . rename_i I;rw [if_pos I] at h;have:=wK (m:=m) (x:=x) (by simpa using h);simpa [List.getD] using this
  . rename_i I;exact I
def DL (m:List Int) (x:Int):List Int:=m.take (jY m x)++ [x]++m.drop (jY m x)
theorem E7 {m:List Int} {x y:Int}:y∈DL m x↔y∈m\/y=x:=by
 have:y∈m↔y∈m.take (jY m x)\/y∈m.drop (jY m x):=by rw [<- List.mem_append,List.take_append_drop]
 unfold DL;rw [List.mem_append,List.mem_append,List.mem_singleton,this];constructor
 . rintro ((h|h)|h)
   . exact .inl (.inl h)
   . exact .inr h
   . exact .inl (.inr h)
 . rintro ((h|h)|h)
   . exact .inl (.inl h)
   . exact .inr h
   . exact .inl (.inr h)
theorem yI {m:List Int} {x:Int} (h:jn m) (Y:x ∉ m):jn (DL m x):=by
 have hs:jn (m.take (jY m x)++m.drop (jY m x)):=by rw [List.take_append_drop];exact h
 rw [jn,List.pairwise_append] at hs;have lo: ∀y∈m.take (jY m x),oT y x<0:=by
  intro y I;obtain ⟨j,V,rfl⟩:=List.mem_iff_getElem.1 I;rw [List.length_take] at V;have:=Cp (m:=m) (x:=x) (j:=j) (by omega);rw [List.getElem_take];simpa [List.getD,show j<m.length by omega] using this
 have hi: ∀y∈m.drop (jY m x),oT x y<0:=by
  intro y I;obtain ⟨j,V,rfl⟩:=List.mem_iff_getElem.1 I;rw [List.length_drop] at V;have Q:=wK (m:=m) (x:=x) (by omega);have U:m.getD (jY m x) 0∈m:=by simp [List.getD,show jY m x<m.length by omega]
  have X:oT x (m.getD (jY m x) 0)<0:=wh Q fun e=>Y (by rw [e];exact U);rw [List.getElem_drop];have J:oT x (m[jY m x]'(by omega))<0:=by simpa [List.getD,show jY m x<m.length by omega] using X
  rcases Nat.eq_zero_or_pos j with e|e
  . subst e;exact J
  . exact ww J (List.pairwise_iff_getElem.1 h (jY m x) (jY m x+j) (by omega) (by omega) (by omega))
 unfold DL;rw [jn,List.append_assoc,List.pairwise_append];refine ⟨hs.1,?_,fun y I z O=> ?_⟩
 . rw [List.singleton_append,List.pairwise_cons];exact ⟨hi,hs.2.1⟩
 . rw [List.singleton_append,List.mem_cons] at O;rcases O with rfl|O
   . exact lo y I
   . exact hs.2.2 y I z O
def vq (c:List Int):Nat->List Int
 |0=> []
 |k+1=>if c.getD k 0∈vq c k then vq c k else DL (vq c k) (c.getD k 0)
def bh (c:List Int):List Int:=vq c c.length
theorem yJ {c:List Int}: ∀ {k:Nat},k<=c.length->JY (c.take k) (vq c k)
 |0,_=> ⟨fun x=>by simp [vq],List.Pairwise.nil⟩
 |k+1,hk=>by
  have J:=yJ (c:=c) (k:=k) (by omega);have O:c.take (k+1)=c.take k++ [c.getD k 0]:=by
   rw [List.take_add_one];have:c[k]? =some (c.getD k 0):=by simp [List.getD,show k<c.length by omega]
   rw [this];rfl
  unfold vq;split
  . rename_i I;refine ⟨fun x=> ?_,J.st⟩;rw [J.mem,O,List.mem_append,List.mem_singleton];constructor
    . exact .inl
    . rintro (h|h)
      . exact h
      . rw [h,<- J.mem];exact I
  . rename_i I;refine ⟨fun x=> ?_,yI J.st I⟩;rw [E7,J.mem,O,List.mem_append,List.mem_singleton]
theorem cE (c:List Int):JY c (bh c):=by
 have:=yJ (c:=c) (Nat.le_refl _)
 rwa [List.take_length] at this
theorem qF {c:List Int}: ∀k,(vq c k).length<=k
 |0=>Nat.le_refl _
 |k+1=>by
  have I:=qF (c:=c) k;unfold vq;split
  . omega
  . unfold DL;have:=CG (vq c k) (c.getD k 0);simp;omega
theorem qJ (c:List Int):(bh c).length<=c.length:=qF _
def nB (c:List Int):Bool:=c.any fun x=>c.contains (-x)
theorem FK {c m:List Int} (h:JY c m) (nz: ∀x∈c,x≠0):nB c=true↔∃i,0<i/\i<m.length/\m.getD i 0= -(m.getD (i - 1) 0):=by
 have mem_of: ∀j,j<m.length->m.getD j 0∈c:=fun j J=> (h.mem _).1 (by simp [List.getD,J]);have I: ∀i j,i<j->j<m.length->oT (m.getD i 0) (m.getD j 0)<0:=fun i j V J=>by
  have:=List.pairwise_iff_getElem.1 h.st i j (by omega) J V;simpa [List.getD,show i<m.length by omega,J] using this
 unfold nB;rw [List.any_eq_true];constructor
 . rintro ⟨x,X,O⟩;have O: -x∈c:=by simpa using O
   have key: ∀x:Int,0<x->x∈c-> -x∈c->∃i,0<i/\i<m.length/\m.getD i 0= -(m.getD (i - 1) 0):=by
    intro x h0 X O;obtain ⟨i,hi,U⟩:=List.mem_iff_getElem.1 ((h.mem x).2 X);obtain ⟨j,J,Q⟩:=List.mem_iff_getElem.1 ((h.mem (-x)).2 O);have U:m.getD i 0=x:=by simp [List.getD,hi,U]
    have Q:m.getD j 0= -x:=by simp [List.getD,J,Q]
    have Y:oT x (-x)<0:=by unfold oT am;split<;>split<;>split<;>omega
    have V:i<j:=by
     rcases Nat.lt_trichotomy i j with e|e|e
     . exact e
     . subst e;omega
     . have:=I j i e hi;rw [U,Q] at this;exact absurd Y (qf.II this)
    have Z:j=i+1:=by
     rcases Nat.lt_or_ge (i+1) j with e|e
     . have a1:=I i (i+1) (by omega) (by omega);have a2:=I (i+1) j e J;rw [U] at a1;rw [Q] at a2;generalize m.getD (i+1) 0=z at a1 a2;unfold oT am at a1 a2;split at a1<;>split at a2<;> (try split at a1)<;> (try split at a2)<;> (try split at a1)<;> (try split at a2)<;>omega
     . omega
    exact ⟨j,by omega,J,by rw [Q,Z,Nat.add_sub_cancel,U]⟩
   rcases Int.lt_or_le 0 x with e|e
   . exact key x e X O
   . have:=nz x X;exact key (-x) (by omega) O (by rwa [Int.neg_neg])
 . rintro ⟨i,h1,h2,h3⟩;refine ⟨m.getD (i - 1) 0,mem_of _ (by omega),?_⟩;rw [<- h3];simpa using mem_of i h2
end Go.LiP
namespace Go.Fw
open Go Go.RowKit
variable {P:Program} {α:Type} {f:α->Value} {T:TypeId} {w w':World} {p q:Option Addr} {c:Nat} {l:List α}
theorem gj {S:Nat->Prop} {a:Addr} {v:Value} (g:aE S w w') (h:w.cell? a=some v) (hs: ¬S a.block):w'.cell? a=some v:=by
 have hb:=World.block_lt_of_cell? w a h;rw [<- h];exact World.cell?_of_block (g.block a.block hb hs)
def Vw (f:α->Value) (w:World) (p:Option Addr) (l:List α):Prop:= ∀j (I:j<l.length),∃a,p=some a/\w.cell? (a.add j)=some (f l[j])
theorem cy (a:Addr) (n:Nat):(a.add n).block=a.block:=by unfold Addr.add;split<;>rfl
theorem Vw.keep {S:Nat->Prop} (h:Vw f w p l) (m:aE S w w') (hs: ∀b,aI p=some b->¬S b):Vw f w' p l:=by
 intro j I;obtain ⟨a,rfl,J⟩:=h j I;exact ⟨a,rfl,gj m J (by rw [cy];exact hs _ rfl)⟩
theorem Vw.grow (h:Vw f w p l) (m:aq w w'):Vw f w' p l:=h.keep m fun _ _=>id
theorem Vw.drew (h:Vw f w p l):Vw f w.drew p l:=h
theorem Vw.nil:Vw f w p []:=fun j I=>by simp at I
theorem Vw.lt (h:Vw f w p l) (hl:l≠[]): ∀b,aI p=some b->b<w.heap.size:=by
 intro b hb;obtain ⟨a,rfl,I⟩:=h 0 (List.length_pos_iff.2 hl);have:=World.block_lt_of_cell? w _ I;rw [cy] at this;simp [aI] at hb;omega
theorem Ow.vw (h:Ow f T w p c l):Vw f w p l:=by
 intro j I;obtain ⟨g,rfl,J⟩:=h.cell I;exact ⟨_,rfl,by rw [cX,Nat.zero_add];exact J⟩
theorem Vw.ix (h:Vw f w p l) {i:Int} {n:Nat} (d:α) (I:0<=i) (hn:n=l.length) (h1:i<n) {K:Addr->Prop} (O: ∀a,w.cell? a=some (f (l.getD i.toNat d))->K a):aV p n i 1 K:=by
 subst hn;obtain ⟨a,rfl,J⟩:=h i.toNat (by omega);refine ⟨_,rfl,I,h1,O _ ?_⟩;rw [Nat.mul_one,J];simp [List.getD,show i.toNat<l.length by omega]
theorem Vw.Na (h:Vw f w p l) {i:Int} {n:Nat} (d:α) (I:0<=i) (hn:n=l.length) (h1:i<n) {K:Addr->Prop} (O: ∀a,aI p=some a.block->w.cell? a=some (f (l.getD i.toNat d))->K a):aV p n i 1 K:=by
 subst hn;obtain ⟨a,rfl,J⟩:=h i.toNat (by omega);refine ⟨_,rfl,I,h1,O _ (by rw [cy];rfl) ?_⟩;rw [Nat.mul_one,J];simp [List.getD,show i.toNat<l.length by omega]
theorem pS (a:Addr) (m n:Nat):(a.add m).add n=a.add (m+n):=by
 unfold Addr.add;by_cases h1:m=0<;>by_cases I:n=0<;>simp [h1,I,Nat.add_assoc]
theorem Vw.part (h:Vw f w p l) {i m:Nat} (h1:i+m<=l.length):Vw f w (p.map (·.add (i*1))) ((l.drop i).take m):=by
 intro j I;simp only [List.length_take,List.length_drop] at I;obtain ⟨a,rfl,J⟩:=h (i+j) (by omega);refine ⟨_,rfl,?_⟩;rw [Nat.mul_one,pS,J];simp
theorem Ow.uZ {t ty e bytes:Nat} (hs:lN P t e bytes=true) (h:Ow f e w p c l) {X:Nat} {news:List α} (Q:Vw f w q news) {n m:Nat} (hn:n=l.length) (hm:m=news.length) (V: ∀x,(f x).oneCell'=true)
 (hlen:(l.length+news.length)* (bytes+1)<=140737488355328) {K:World->Option Addr->Nat->Nat->Prop}
 (U: ∀w' I c',Ow f e w' I c' (l++news)->aE (fun b=>aI p=some b) w w'->(I=p\/I=some ⟨w.heap.size,0,none⟩)->w.heap.size<=w'.heap.size->K w' I (l++news).length c'):
 ∃w',∃I n' c',(Builtin.append_ #[t,t] ty #[.slice p n c,.slice q m X]).run P w= .ok (.slice I n' c') w'/\K w' I n' c':=by
 subst hm;rcases Nat.eq_zero_or_pos news.length with O|O
 . have:news= []:=List.eq_nil_of_length_eq_zero O;subst this;refine ⟨w,p,n,c,h.Ll hs hn,?_⟩;have:=U w p c (by simpa using h) (aE.refl w) (.inl rfl) (Nat.le_refl _);simpa [hn] using this
 . obtain ⟨g,Y,_⟩:=Q 0 O;subst Y;refine Ow.oV hs h hn news rfl O (fun j Z=> ?_) V hlen U;obtain ⟨g',J,hc⟩:=Q j Z;simp only [Option.some.injEq] at J;subst J;exact hc
theorem BF {v:Value} (h:Es w (.sl (.int .i64)) v): ∃p n c l,v= .slice p n c/\n=l.length/\n<=c/\c<=maxLen/\Vw (Value.int .i64) w p l/\∀x∈l,(Lit.int .i64 x).wf=true:=by
 rcases h with rfl| ⟨a,len,cap,rfl,h1,O,Q⟩
 . exact ⟨none,0,0,[],rfl,rfl,Nat.le_refl _,Nat.zero_le _,Vw.nil,by simp⟩
 . have: ∀i,∃x:Int,(i<len->w.cell? (a.add i)=some (.int .i64 x))/\(Lit.int .i64 x).wf=true:=by
    intro i;by_cases hi:i<len
    . obtain ⟨X,_,V,x,rfl,I⟩:=Q i hi;refine ⟨x,fun _=> ?_,I⟩;have:=V.1
      rwa [show Sh.size (.int .i64)=1 from rfl,Nat.mul_one,show (a.add i).add 0=a.add i by rw [pS,Nat.add_zero]] at this
    . exact ⟨0,fun h=>absurd h hi,by decide⟩
   refine ⟨some a,len,cap,(List.range len).map fun i=>Classical.choose (this i),rfl,by simp,h1,O,fun j U=> ⟨a,rfl,?_⟩,?_⟩
   . have J:j<len:=by simpa using U
     rw [(Classical.choose_spec (this j)).1 J];simp
   . intro x I;simp only [List.mem_map,List.mem_range] at I;obtain ⟨i,_,rfl⟩:=I;exact (Classical.choose_spec (this i)).2
end Go.Fw
namespace Go.Proofs.YtenmibfmhccmiaaGreat.W
open Go Go.Fw Go.RowKit
open Go.Proofs.Tryz (prog)
section
theorem uI {l:List Int} {t:Nat} (h:t<l.length) (d:Int):l.getD t d∈l:=by
 simp [List.getD,h]
theorem xV {p:Option Addr} {n c:Nat} {l:List Int} {w:World} (h:Vw (Value.int .i64) w p l) (hn:n=l.length) (hm:n<=maxLen) {fid:FuncId} {fv:Array Value} (he:fM prog fid=true) (pr:Int->Bool)
 (hf: ∀x∈l,∀w',aq w w'->Calls prog fid (#[]++ #[.int .i64 x]++fv) w' fun e w2=>e= .returned (.bool (pr x))/\aq w' w2):
 Calls prog bn.id #[.slice p n c,.func (.func fid) #[] fv] w fun e w'=> (∃r:Int,e= .returned (.int .i64 r)/\decide (r>=0)=l.any pr)/\aq w w':=by
 refine bn.ah ?_;unfold maxLen at hm;refine ⟨fun v w' k=> ∃t:Nat,v=t/\t<=l.length/\k+t=l.length/\(l.take t).any pr=false/\aq w w',⟨l.length,0,rfl,by omega,rfl,rfl,aE.refl w⟩,?_⟩;rintro v O k _ ⟨t,rfl,ht,U,ha,G⟩;refine ao (fun q=> ?_) (fun q=> ?_)<;>simp only [decide_eq_true_eq,decide_eq_false_iff_not] at q
 . have I:t<l.length:=by omega
   refine (h.grow G).ix 0 (by omega) hn q fun a e=> ?_;refine ⟨_,e,?_⟩;rw [he];show Calls _ _ _ _ _;rw [Int.toNat_natCast];refine (hf _ (uI I 0) O G).mono ?_;rintro e Q ⟨rfl,J⟩;refine ⟨_,rfl,ao (fun s=> ?_) (fun s=> ?_)⟩
   . refine ⟨⟨(t:Int),rfl,?_⟩,G.trans J⟩;rw [decide_eq_true (by omega:(t:Int)>=0)];exact (List.any_eq_true.2 ⟨_,uI I 0,s⟩).symm
   . refine ⟨k - 1,by omega,t+1,?_,by omega,by omega,?_,G.trans J⟩
     . rw [aB (by omega) (by omega)];omega
     . rw [List.take_add_one,List.any_append,ha];have:l[t]? =some (l.getD t 0):=by simp [List.getD,I]
       simp only [this,Option.toList_some,List.any_cons,List.any_nil,s,Bool.or_false]
 . refine ⟨⟨-1,rfl,?_⟩,G⟩;have:t=l.length:=by omega
   subst this;rw [List.take_length] at ha;rw [ha];rfl
theorem iA {p:Option Addr} {n c:Nat} {l:List Int} {w:World} (h:Vw (Value.int .i64) w p l) (hn:n=l.length) (hm:n<=maxLen) {fid:FuncId} {fv:Array Value} (he:fM prog fid=true) (pr:Int->Bool)
 (hf: ∀x∈l,∀w',aq w w'->Calls prog fid (#[]++ #[.int .i64 x]++fv) w' fun e w2=>e= .returned (.bool (pr x))/\aq w' w2):
 Calls prog bD.id #[.slice p n c,.func (.func fid) #[] fv] w fun e w'=>e= .returned (.bool (l.any pr))/\aq w w':=by
 refine bD.ah ?_;refine (xV h hn hm he pr hf).mono ?_;rintro e w' ⟨⟨r,rfl,hr⟩,g⟩;exact ⟨_,rfl,by rw [hr],g⟩
theorem Fm (v:Value):(#[]++ #[v]++ #[]:Array Value)= #[v]:=by simp
end
section
def cq (l:Int):Bool:=decide (l≠0/\ -1048576<=l/\l<=1048576)
def iu (l:List Int):Bool:=l.all cq && decide (l.length<=4096)
theorem JD (l:Int) (w:World):Calls prog qW.id #[.int .i64 l] w fun e w'=>e= .returned (.bool (cq l))/\aq w w':=by
 refine qW.ah ?_;refine ao (fun h1=>ao (fun I=> ⟨?_,aE.refl w⟩) (fun I=> ⟨?_,aE.refl w⟩)) (fun h1=> ⟨?_,aE.refl w⟩)
 . simp only [bne_iff_ne,ne_eq,decide_eq_true_eq,ge_iff_le] at h1 I;congr 2;unfold cq;exact decide_eq_decide.2 (by omega)
 . simp only [bne_iff_ne,ne_eq,decide_eq_false_iff_not,ge_iff_le] at h1 I;congr 2;unfold cq;exact (decide_eq_false (by omega)).symm
 . simp only [bne_eq_false_iff_eq] at h1;congr 2;unfold cq;exact (decide_eq_false (by omega)).symm
theorem Dh (l:Int) (w:World):Calls prog fS.id #[.int .i64 l] w fun e w'=>e= .returned (.bool (!cq l))/\aq w w':=by
 refine fS.ah ?_;refine (JD l w).mono ?_;rintro e w' ⟨rfl,g⟩;exact ⟨_,rfl,rfl,g⟩
theorem AI:fM prog fS.id=true:=by kernel_rfl
theorem IG {l:List Int}:l.any (fun x=> !cq x)= !l.all cq:=by
 induction l with
 |nil=>rfl
 |cons x l ih=>simp [ih]
theorem fg {p:Option Addr} {n c:Nat} {l:List Int} {w:World} (h:Vw (Value.int .i64) w p l) (hn:n=l.length) (hm:n<=maxLen):
 Calls prog kw.id #[.slice p n c] w fun e w'=>e= .returned (.int .i64 (if iu l then 0 else 1))/\aq w w':=by
 refine kw.ah ?_;refine ao (fun q=> ⟨?_,aE.refl w⟩) (fun q=> ?_)<;>simp only [decide_eq_true_eq,decide_eq_false_iff_not] at q
 . have:iu l=false:=by unfold iu;rw [decide_eq_false (by omega)];simp
   rw [this];rfl
 . have hf: ∀x∈l,∀w',aq w w'->Calls prog fS.id (#[]++ #[.int .i64 x]++ #[]) w' fun e w2=>e= .returned (.bool (!cq x))/\aq w' w2:=fun x _ w' _=>by
    rw [Fm];exact Dh x w'
   refine (iA h hn hm AI (fun x=> !cq x) hf).mono ?_;rintro e w' ⟨rfl,g⟩;have:iu l=l.all cq:=by unfold iu;rw [decide_eq_true (by omega)];simp
   refine ⟨_,rfl,?_⟩;rw [IG,this];cases l.all cq
   . exact ⟨rfl,g⟩
   . exact ⟨rfl,g⟩
end
end Go.Proofs.YtenmibfmhccmiaaGreat.W
namespace Go.Fw
open Go Go.RowKit
section
variable {P:Program} {α:Type} {f:α->Value} {T T':TypeId} {w w':World} {p q:Option Addr} {c:Nat} {l:List α}
structure Sl where
 p:Option Addr
 n:Nat
 c:Nat
abbrev Sl.v (s:Sl):Value:= .slice s.p s.n s.c
def Sl.nil:Sl:=⟨none,0,0⟩
structure V2 (f:α->Value) (w:World) (p:Option Addr) (hs:List Sl) (rows:List (List α)):Prop where
 h:Vw Sl.v w p hs
 n:hs.length=rows.length
 r: ∀j,j<rows.length->(hs.getD j Sl.nil).n=(rows.getD j []).length/\(hs.getD j Sl.nil).n<=maxLen/\Vw f w (hs.getD j Sl.nil).p (rows.getD j [])
def Lh (p:Option Addr) (hs:List Sl) (k:Nat):Prop:=aI p=some k\/∃h∈hs,aI h.p=some k
theorem V2.keep {S:Nat->Prop} {hs:List Sl} {rows:List (List α)} (h:V2 f w p hs rows) (m:aE S w w') (O: ∀k,Lh p hs k->¬S k):V2 f w' p hs rows:=by
 refine ⟨h.h.keep m fun k I=>O k (.inl I),h.n,fun j J=> ?_⟩;obtain ⟨h1,Q,U⟩:=h.r j J;refine ⟨h1,Q,U.keep m fun k I=>O k (.inr ⟨_,?_,I⟩)⟩;have:j<hs.length:=by rw [h.n];exact J
 simp [List.getD,this]
theorem V2.grow {hs:List Sl} {rows:List (List α)} (h:V2 f w p hs rows) (m:aq w w'):V2 f w' p hs rows:=h.keep m fun _ _=>id
theorem V2.drew {hs:List Sl} {rows:List (List α)} (h:V2 f w p hs rows):V2 f w.drew p hs rows:=h.grow (aE.refl w).drew
theorem V2.nil:V2 f w p [] []:=⟨Vw.nil,rfl,fun j I=>by simp at I⟩
theorem V2.ix {hs:List Sl} {rows:List (List α)} (h:V2 f w p hs rows) {i:Int} {n:Nat} (Q:0<=i) (hn:n=rows.length) (h1:i<n) {K:Addr->Prop}
 (O: ∀a s,w.cell? a=some (.slice s.p s.n s.c)->s=hs.getD i.toNat Sl.nil->s.n=(rows.getD i.toNat []).length->s.n<=maxLen->Vw f w s.p (rows.getD i.toNat [])->K a):aV p n i 1 K:=by
 refine h.h.ix Sl.nil Q (by rw [h.n];exact hn) h1 fun a e=> ?_;obtain ⟨I,J,U⟩:=h.r i.toNat (by omega);exact O a _ e rfl I J U
theorem Av {s:Sh} {v:Value} (hr: ∀v,Es w (.sl s) v->∃p n c l,v= .slice p n c/\n=l.length/\n<=c/\c<=maxLen/\Vw f w p l) (h:Es w (.sl (.sl s)) v):
 ∃p n c hs rows,v= .slice p n c/\n=rows.length/\n<=c/\c<=maxLen/\V2 f w p hs rows:=by
 rcases h with rfl| ⟨a,len,cap,rfl,h1,Y,h3⟩
 . exact ⟨none,0,0,[],[],rfl,rfl,Nat.le_refl _,Nat.zero_le _,V2.nil⟩
 . have: ∀i,∃x:Sl × List α,i<len->w.cell? (a.add i)=some x.1.v/\x.1.n=x.2.length/\x.1.n<=maxLen/\Vw f w x.1.p x.2:=by
    intro i;by_cases hi:i<len
    . obtain ⟨es,he,hc,U⟩:=h3 i hi;have hv: ∃v,es= [v]/\Es w (.sl s) v:=by
       rcases U with rfl| ⟨a',Q,J,rfl,g⟩
       . exact ⟨_,rfl,.inl rfl⟩
       . exact ⟨_,rfl,.inr ⟨a',Q,J,rfl,g⟩⟩
      obtain ⟨v,rfl,hv⟩:=hv;obtain ⟨p,n,c,l,rfl,X,Z,g3,g4⟩:=hr v hv;refine ⟨(⟨p,n,c⟩,l),fun _=> ⟨?_,X,Nat.le_trans Z g3,g4⟩⟩;have:=hc.1
      rwa [show Sh.size (.sl s)=1 from rfl,Nat.mul_one,show (a.add i).add 0=a.add i by rw [pS,Nat.add_zero]] at this
    . exact ⟨(Sl.nil,[]),fun h=>absurd h hi⟩
   have V: ∀ {β:Type} (g:Nat->β) (d:β) (j:Nat),j<len->((List.range len).map g).getD j d=g j:=by
    intro β g d j O;simp [List.getD,O]
   refine ⟨some a,len,cap,(List.range len).map fun i=> (Classical.choose (this i)).1,(List.range len).map fun i=> (Classical.choose (this i)).2,rfl,by simp,h1,Y,⟨fun j O=> ⟨a,rfl,?_⟩,by simp,fun j O=> ?_⟩⟩
   . have I:j<len:=by simpa using O
     rw [(Classical.choose_spec (this j) I).1];simp
   . have I:j<len:=by simpa using O
     rw [V _ _ _ I,V _ _ _ I];exact (Classical.choose_spec (this j) I).2
theorem z_ {v:Value} (h:Es w (.sl (.int .i64)) v): ∃p n c l,v= .slice p n c/\n=l.length/\n<=c/\c<=maxLen/\Vw (Value.int .i64) w p l:=by
 obtain ⟨p,n,c,l,h1,I,O,J,h5,_⟩:=BF h;exact ⟨p,n,c,l,h1,I,O,J,h5⟩
theorem bM {hs:List Sl} {h:Sl} (hm:h∈hs): ∃j,j<hs.length/\hs.getD j Sl.nil=h:=by
 obtain ⟨j,I⟩:=List.getElem?_of_mem hm;have hl:=(List.getElem?_eq_some_iff.1 I).1;exact ⟨j,hl,by simp [List.getD,I]⟩
end
section
variable {P:Program} {α:Type} {f:α->Value} {T:TypeId} {w w':World} {p q:Option Addr} {c:Nat} {hs ns:List Sl} {rows nrows:List (List α)}
theorem Vw.nf {S:Nat->Prop} {l:List α} (h:Vw f w p l) (m:aE S w w') (hs:l≠[]->∀b,aI p=some b->¬S b):Vw f w' p l:=by
 by_cases hl:l= []
 . subst hl;exact Vw.nil
 . exact h.keep m (hs hl)
structure VR (f:α->Value) (w:World) (hs:List Sl) (rows:List (List α)):Prop where
 n:hs.length=rows.length
 r: ∀j,j<rows.length->(hs.getD j Sl.nil).n=(rows.getD j []).length/\(hs.getD j Sl.nil).n<=maxLen/\Vw f w (hs.getD j Sl.nil).p (rows.getD j [])
def ET (hs:List Sl) (k:Nat):Prop:= ∃h∈hs,0<h.n/\aI h.p=some k
theorem VR.keep {S:Nat->Prop} (h:VR f w hs rows) (m:aE S w w') (Q: ∀k,ET hs k->¬S k):VR f w' hs rows:=by
 refine ⟨h.n,fun j J=> ?_⟩;obtain ⟨h1,O,V⟩:=h.r j J;refine ⟨h1,O,V.nf m fun I k U=>Q k ⟨_,?_,?_,U⟩⟩
 . have:j<hs.length:=by rw [h.n];exact J
   simp [List.getD,this]
 . rw [h1];exact List.length_pos_iff.2 I
theorem VR.grow (h:VR f w hs rows) (m:aq w w'):VR f w' hs rows:=h.keep m fun _ _=>id
theorem VR.nil:VR f w [] []:=⟨rfl,fun j I=>by simp at I⟩
theorem VR.lt (h:VR f w hs rows): ∀k,ET hs k->k<w.heap.size:=by
 rintro k ⟨s,hm,O,J⟩;obtain ⟨j,I,rfl⟩:=bM hm;obtain ⟨h1,U,Q⟩:=h.r j (by rw [<- h.n];exact I);exact Q.lt (List.length_pos_iff.1 (by rw [<- h1];exact O)) k J
theorem oI {β:Type} {l k:List β} {j:Nat} {d:β}:(l++k).getD j d=if j<l.length then l.getD j d else k.getD (j - l.length) d:=by
 simp only [List.getD_eq_getElem?_getD];by_cases h:j<l.length
 . rw [if_pos h,List.getElem?_append_left h]
 . rw [if_neg h,List.getElem?_append_right (by omega)]
theorem VR.oV (h:VR f w hs rows) (k:VR f w ns nrows):VR f w (hs++ns) (rows++nrows):=by
 refine ⟨by simp [h.n,k.n],fun j I=> ?_⟩;rw [oI,oI,h.n];by_cases e:j<rows.length
 . rw [if_pos e,if_pos e];exact h.r j e
 . rw [if_neg e,if_neg e];exact k.r (j - rows.length) (by simp at I;omega)
theorem VR.bS {s:Sl} {l:List α} (h:Vw f w s.p l) (hn:s.n=l.length) (hm:s.n<=maxLen):VR f w [s] [l]:=by
 refine ⟨rfl,fun j I=> ?_⟩;have:j=0:=by simpa using I
 subst this;exact ⟨hn,hm,h⟩
theorem VR.v2 (h:VR f w hs rows) (v:Vw Sl.v w p hs):V2 f w p hs rows:=⟨v,h.n,h.r⟩
theorem V2.vr (h:V2 f w p hs rows):VR f w hs rows:=⟨h.n,h.r⟩
theorem bp {b i j:Nat} {cs:Array Value} {v:Value} (h:bF w b cs) (hv:cs[0+i+j]? =some v):w.cell? (((Addr.mk b 0 none).add i).add j)=some v:=by rw [cX,cX];exact aR h hv
theorem gC {b k j i:Nat} {cs:Array Value} {K:World->Prop} {vs:List Value} (h:bF w b cs) (hl:Nat.ble (0+k+j+i+vs.length) cs.size=true) (I:vs.all iz=true)
 (J: ∀w',bF w' b (wr cs (0+k+j+i) vs)->aE (·=b) w w'->K w'): ∃w',af (((Addr.mk b 0 none).add k).add j) i vs w w'/\K w':=by
 rw [cX,cX];exact bq h hl I J
theorem bg {n:Nat} {k:Nat} (h:aI (some ⟨n,0,none⟩)=some k):k=n:=by simp [aI] at h;exact h.symm
theorem bc.size {o:Obj} {n:Nat} (h:bc o w n w'):w'.heap.size=w.heap.size+1:=by rw [h.eq];simp
end
end Go.Fw
namespace Go.Proofs.YtenmibfmhccmiaaGreat.W
open Go Go.Fw Go.RowKit
open Go.Proofs.Tryz (prog)
section
def aX (l:Int):Int:=if l<0 then -l else l
def dH (k:Int) (cs:List (List Int)):Bool:=decide (0<=k/\k<=1048576/\cs.length<=262144) && cs.all fun c=>iu c && c.all fun l=>decide (aX l<=k)
theorem wQ {l:Int} (h: -9223372036854775808<l) (I:l<9223372036854775808) (w:World):Calls prog fz.id #[.int .i64 l] w fun e w'=>e= .returned (.int .i64 (aX l))/\aq w w':=by
 refine fz.ah ?_;unfold fz.w;rw [aB (x:=0 - l) (by omega) (by omega)];refine ⟨?_,aE.refl w⟩;unfold imax aX;congr 2;split<;>split<;>omega
theorem cH {l:Int} (h:cq l=true):l≠0/\ -1048576<=l/\l<=1048576:=by simpa [cq] using h
theorem fh {c:List Int} (h:iu c=true):(∀l∈c,cq l=true)/\c.length<=4096:=by
 simp only [iu,Bool.and_eq_true,List.all_eq_true,decide_eq_true_eq] at h;exact h
theorem HW {l:Int} (hl: -1048576<=l/\l<=1048576) {b:Nat} {k:Int} {v:Value} {w:World} (h:bF w b #[.int .i64 k,v]):
 Calls prog eh.id #[.int .i64 l,.pointer (some ⟨b,0,none⟩)] w fun e w'=>e= .returned (.bool (!decide (aX l<=k)))/\aq w w':=by
 refine eh.ah ?_;have e0:(!decide (aX l<=k))=decide (aX l>k):=by
  by_cases h:aX l<=k
  . rw [decide_eq_true h,decide_eq_false (by omega)];rfl
  . rw [decide_eq_false h,decide_eq_true (by omega)];rfl
 rw [e0];refine ⟨?_,_,ad h.drew rfl,?_⟩
 . refine (wQ (by omega) (by omega) _).mono ?_;rintro e w1 ⟨rfl,g⟩;exact ⟨_,rfl,_,ad (h.drew.grow g) rfl,rfl,(aE.refl w).drew.trans g⟩
 . refine (wQ (by omega) (by omega) _).mono ?_;rintro e w1 ⟨rfl,g⟩;exact ⟨_,rfl,rfl,(aE.refl w).drew.trans g⟩
theorem FG:fM prog eh.id=true:=by kernel_rfl
theorem JW (u v:Value):(#[]++ #[u]++ #[v]:Array Value)= #[u,v]:=by simp
theorem Hw {k:Int} {l:List Int}:l.any (fun x=> !decide (aX x<=k))= !l.all fun x=>decide (aX x<=k):=by
 induction l with
 |nil=>rfl
 |cons x l ih=>rw [List.any_cons,List.all_cons,ih,Bool.not_and]
theorem qq {α:Type} {l:List α} {q:α->Bool} {t:Nat} {d:α} (ht:t<l.length) (h:(l.take t).all q=true) (hq:q (l.getD t d)=true):(l.take (t+1)).all q=true:=by
 rw [List.take_add_one,List.all_append,h];have:l[t]? =some (l.getD t d):=by simp [List.getD,ht]
 simp only [this,Option.toList_some,List.all_cons,List.all_nil,hq,Bool.and_true]
theorem lY {α:Type} {l:List α} {q:α->Bool} {t:Nat} {d:α} (ht:t<l.length) (hq:q (l.getD t d)=false):l.all q=false:=by
 rw [<- Bool.not_eq_true,List.all_eq_true];intro h;rw [h _ (by simp [List.getD,ht])] at hq;cases hq
theorem F_ {w:World} {q:Option Addr} {hs:List Sl} {cs:List (List Int)} (O:V2 (Value.int .i64) w q hs cs) {m t:Nat} (hm:m=cs.length) (ht:t<cs.length) {K:Addr->Prop} (Q: ∀a (s:Sl),w.cell? a=some (.slice s.p s.n s.c)->s=hs.getD t Sl.nil->s.n=(cs.getD t []).length->s.n<=maxLen->Vw (Value.int .i64) w s.p (cs.getD t [])->K a):aV q m (t:Int) 1 K:=
 O.ix (by omega) hm (by omega) fun a s e hs h1 J I=>Q a s e (by rw [Int.toNat_natCast] at hs;exact hs) (by rw [Int.toNat_natCast] at h1;exact h1) J (by rw [Int.toNat_natCast] at I;exact I)
theorem jJ {w:World} {k:Int} {q:Option Addr} {m d:Nat} {hs:List Sl} {cs:List (List Int)} (hc:V2 (Value.int .i64) w q hs cs) (hm:m=cs.length):
 Calls prog ie.id #[.agg #[.int .i64 k,.slice q m d]] w fun e w'=>e= .returned (.int .i64 (if dH k cs then 0 else 1))/\aq w w':=by
 subst hm;refine ie.ah ?_;intro n1 w2 V;have H:=V.has;have J: ∀w',aq w w'->dH k cs=false->(Ending.returned (.int .i64 1)= .returned (.int .i64 (if dH k cs=true then 0 else 1))/\aq w w'):=fun w' g hf=>by rw [hf];exact ⟨rfl,g⟩
 have no: ¬(0<=k/\k<=1048576/\cs.length<=262144)->dH k cs=false:=fun h=>by unfold dH;rw [decide_eq_false h,Bool.false_and]
 refine ⟨_,ad H rfl,ao (fun s1=>J _ V.mod (no ?_)) (fun s1=> ⟨_,ad H rfl,ao (fun s2=>J _ V.mod (no ?_)) (fun s2=> ⟨_,_,_,ad H rfl,ao (fun s3=>J _ V.mod (no ?_)) (fun s3=> ⟨_,_,_,ad H rfl,?_⟩)⟩)⟩)⟩<;>simp only [decide_eq_true_eq,decide_eq_false_iff_not] at*
 . omega
 . omega
 . omega
 . have U:dH k cs=cs.all fun c=>iu c && c.all fun l=>decide (aX l<=k):=by unfold dH;rw [decide_eq_true (by omega),Bool.true_and]
   refine ⟨fun v w' z=> ∃t:Nat,v=t/\t<=cs.length/\((cs.take t).all fun c=>iu c && c.all fun l=>decide (aX l<=k))=true/\aq w2 w'/\z+t=cs.length,⟨_,0,rfl,Nat.zero_le _,rfl,aE.refl _,rfl⟩,?_⟩;rintro v aw z _ ⟨t,rfl,ht,ha,G,hz⟩;have G2:=V.mod.trans G;refine ao (fun s=> ?_) (fun s=> ?_)<;>simp only [decide_eq_true_eq,decide_eq_false_iff_not] at s
   . have I:t<cs.length:=by omega
     refine F_ (hc.grow G2) rfl I fun a s e _ X aa hv=> ⟨_,_,_,e,(fg hv X aa).mono ?_⟩
     rintro e aT ⟨rfl,O⟩;refine ⟨_,rfl,ao (fun Y=>J _ (G2.trans O) ?_) (fun Y=> ?_)⟩
     . rw [U];refine lY (d:= []) I ?_;cases hh:iu (cs.getD t []) with
       |false=>rfl
       |true=>rw [hh] at Y;simp at Y
     . have Q:iu (cs.getD t [])=true:=by
        cases hh:iu (cs.getD t []) with
        |false=>rw [hh] at Y;simp at Y
        |true=>rfl
       have ap:=(H.grow G).grow O;refine (iA (hv.grow O) X aa FG (fun x=> !decide (aX x<=k)) fun x hx w' g'=> ?_).mono ?_
       . rw [JW];have:=cH ((fh Q).1 x hx);exact HW this.2 (ap.grow g')
       . rintro e ar ⟨rfl,Z⟩;rw [Hw];refine ⟨_,rfl,ao (fun s5=>J _ ((G2.trans O).trans Z) ?_) (fun s5=> ⟨z - 1,by omega,t+1,by rw [aB (by omega) (by omega)];omega,I,qq (d:= []) I ha ?_,(G.trans O).trans Z,by omega⟩)⟩
         . rw [U];refine lY (d:= []) I ?_;rw [Q,Bool.true_and];simpa using s5
         . rw [Q,Bool.true_and];simpa using s5
   . have:t=cs.length:=by omega
     subst this;rw [List.take_length] at ha;rw [U,ha];exact ⟨rfl,G2⟩
end
section
theorem vO (l:Int) (w:World):Calls prog eG.id #[.int .i64 l] w fun e w'=>e= .returned (.bool (cq l))/\aq w w':=by
 refine eG.ah ?_;refine ao (fun h1=>ao (fun I=> ⟨?_,aE.refl w⟩) (fun I=> ⟨?_,aE.refl w⟩)) (fun h1=> ⟨?_,aE.refl w⟩)
 . simp only [bne_iff_ne,ne_eq,decide_eq_true_eq,ge_iff_le] at h1 I;congr 2;unfold cq;exact decide_eq_decide.2 (by omega)
 . simp only [bne_iff_ne,ne_eq,decide_eq_false_iff_not,ge_iff_le] at h1 I;congr 2;unfold cq;exact (decide_eq_false (by omega)).symm
 . simp only [bne_eq_false_iff_eq] at h1;congr 2;unfold cq;exact (decide_eq_false (by omega)).symm
end
section
def iE (m:List Int) (l:Int):Int:=
 if cq l=false\/aX l>m.length then 0 else if m.getD (aX l - 1).toNat 0=0 then 0 else if decide (m.getD (aX l - 1).toNat 0>0)=decide (l>0) then 1 else -1
def Bx (m:List Int) (c:List Int):Int:=if c.any fun l=>decide (iE m l=1) then 1 else if c.any fun l=>decide (iE m l=0) then 0 else -1
def eD (m:List Int) (cs:List (List Int)):Bool:=cs.all fun c=>c.any fun l=>decide (iE m l=1)
def cZ:Nat->Nat->List Int
 |0,_=> []
 |k+1,n=> (if n % 2=1 then 1 else -1)::cZ k (n / 2)
theorem pG: ∀k n,(cZ k n).length=k
 |0,_=>rfl
 |k+1,n=>by simp [cZ,pG k]
theorem wU: ∀k n,∀x∈cZ k n,x=1\/x= -1
 |0,_,x,h=>by simp [cZ] at h
 |k+1,n,x,h=>by
  simp only [cZ,List.mem_cons] at h;rcases h with h|h
  . subst h;split<;>simp
  . exact wU k _ x h
theorem mA {l:Int} (h: -9223372036854775808<l) (w:World) (I:l<9223372036854775808):Calls prog ff.id #[.int .i64 l] w fun e w'=>e= .returned (.int .i64 (aX l))/\aq w w':=by
 refine ff.ah ?_;unfold aX;refine ao (fun q=> ⟨?_,aE.refl w⟩) (fun q=> ⟨?_,aE.refl w⟩)<;>simp only [decide_eq_true_eq,decide_eq_false_iff_not] at q
 . rw [if_pos q,aB (by omega) (by omega)];congr 2;omega
 . rw [if_neg q]
theorem rR {w:World} {p:Option Addr} {n c:Nat} {m:List Int} (h:Vw (Value.int .i64) w p m) (hn:n=m.length) (hm:n<=maxLen) (l:Int):
 Calls prog dC.id #[.slice p n c,.int .i64 l] w fun e w'=>e= .returned (.int .i64 (iE m l))/\aq w w':=by
 subst hn;unfold maxLen at hm;refine dC.ah ?_;refine (vO l w).mono ?_;rintro e w1 ⟨rfl,Q⟩;unfold iE;refine ⟨_,rfl,ao (fun q=> ⟨?_,Q⟩) (fun q=> ?_)⟩<;>simp only [Bool.not_eq_true',Bool.not_eq_false'] at q
 . rw [if_pos (.inl q)]
 have bd:=cH q;have ba:1<=aX l/\aX l<=1048576:=by unfold aX;split<;>omega
 have wa:IntKind.i64.wrap (aX l - 1)=aX l - 1:=aB (by omega) (by omega);refine (mA (by omega) w1 (by omega)).mono ?_;rintro e w3 ⟨rfl,X⟩;refine ⟨_,rfl,ao (fun V=> ⟨?_,Q.trans X⟩) (fun V=> ?_)⟩<;>simp only [decide_eq_true_eq,decide_eq_false_iff_not] at V
 . rw [if_pos (.inr (by omega))]
 rw [if_neg (by rintro (h1|h1);(rw [q] at h1;cases h1);omega)];refine (mA (by omega) w3 (by omega)).mono ?_;rintro e Y ⟨rfl,Z⟩;have I:=(Q.trans X).trans Z;refine ⟨_,rfl,?_⟩;rw [wa];refine (h.grow I).ix 0 (by omega) rfl (by omega) fun a e=> ⟨_,e,ao (fun O=> ⟨?_,I⟩) (fun O=> ?_)⟩<;>simp only [beq_iff_eq,beq_eq_false_iff_ne] at O
 . rw [if_pos O]
 rw [if_neg O];refine (mA (by omega) Y (by omega)).mono ?_;rintro e w9 ⟨rfl,U⟩;refine ⟨_,rfl,?_⟩;rw [wa];refine (h.grow (I.trans U)).ix 0 (by omega) rfl (by omega) fun a e=> ⟨_,e,ao (fun J=> ⟨?_,I.trans U⟩) (fun J=> ⟨?_,I.trans U⟩)⟩<;>simp only [beq_iff_eq,beq_eq_false_iff_ne] at J
 . rw [if_pos J]
 . rw [if_neg J]
theorem o_ {α:Type} {l:List α} {q:α->Bool} {t:Nat} {d:α} (ht:t<l.length):(l.take (t+1)).any q=((l.take t).any q||q (l.getD t d)):=by
 rw [List.take_add_one,List.any_append];have:l[t]? =some (l.getD t d):=by simp [List.getD,ht]
 simp only [this,Option.toList_some,List.any_cons,List.any_nil,Bool.or_false]
theorem Fs {α:Type} {l:List α} {q:α->Bool} {t:Nat} {d:α} (ht:t<l.length) (h:q (l.getD t d)=true):l.any q=true:=List.any_eq_true.2 ⟨_,by simp [List.getD,ht],h⟩
theorem vh {w:World} {p q:Option Addr} {n c k d:Nat} {m l:List Int} (h:Vw (Value.int .i64) w p m) (hn:n=m.length) (hm:n<=maxLen) (hl:Vw (Value.int .i64) w q l) (Z:k=l.length) (hx:k<=maxLen):
 Calls prog c9.id #[.slice p n c,.slice q k d] w fun e w'=>e= .returned (.int .i64 (Bx m l))/\aq w w':=by
 subst Z;unfold maxLen at hx;refine c9.ah ?_;refine ⟨fun o v w' z=> ∃t:Nat,v=t/\t<=l.length/\((l.take t).any fun x=>decide (iE m x=1))=false/\(o=(l.take t).any fun x=>decide (iE m x=0))/\aq w w'/\z+t=l.length,⟨_,0,rfl,Nat.zero_le _,rfl,rfl,aE.refl _,rfl⟩,?_⟩;rintro o v w6 z _ ⟨t,rfl,ht,h1,O,G,hz⟩;refine ao (fun s=> ?_) (fun s=> ?_)<;>simp only [decide_eq_true_eq,decide_eq_false_iff_not] at s
 . have I:t<l.length:=by omega
   refine (hl.grow G).ix 0 (by omega) rfl s fun a e=> ⟨_,e,(rR (h.grow G) hn hm _).mono ?_⟩
   rw [Int.toNat_natCast];rintro e w9 ⟨rfl,g9⟩;have J:=G.trans g9;have U:((l.take (t+1)).any fun x=>decide (iE m x=1))=((l.take t).any (fun x=>decide (iE m x=1))||decide (iE m (l.getD t 0)=1)):=o_ I;have n0:((l.take (t+1)).any fun x=>decide (iE m x=0))=((l.take t).any (fun x=>decide (iE m x=0))||decide (iE m (l.getD t 0)=0)):=o_ I;refine ⟨_,rfl,ao (fun Q=> ?_) (fun Q=> ?_)⟩<;>simp only [beq_iff_eq,beq_eq_false_iff_ne] at Q
   . refine ⟨?_,J⟩;unfold Bx;rw [if_pos (Fs (d:=0) I (decide_eq_true Q))]
   . rw [h1,decide_eq_false Q] at U;refine ao (fun X=> ?_) (fun X=> ?_)
     . refine ⟨z - 1,by omega,t+1,by rw [aB (by omega) (by omega)];omega,I,U,?_,J,by omega⟩;rw [n0,<- O,X];rfl
     . refine (hl.grow J).ix 0 (by omega) rfl s fun a e=> ⟨_,e,(rR (h.grow J) hn hm _).mono ?_⟩
       rw [Int.toNat_natCast];rintro e Y ⟨rfl,V⟩;refine ⟨_,rfl,z - 1,by omega,t+1,by rw [aB (by omega) (by omega)];omega,I,U,?_,J.trans V,by omega⟩;rw [n0,<- O,X,Bool.false_or];rw [Bool.eq_iff_iff];simp
 . have:t=l.length:=by omega
   subst this;rw [List.take_length] at h1 O;unfold Bx;rw [h1,if_neg (by simp),<- O];refine ao (fun s=> ⟨?_,G⟩) (fun s=> ⟨?_,G⟩)
   . rw [s];rfl
   . rw [s];rfl
theorem zg {m c:List Int}:Bx m c=1↔(c.any fun l=>decide (iE m l=1))=true:=by
 unfold Bx;split
 . rename_i h;simp [h]
 . rename_i h;constructor
   . intro I;split at I<;>simp at I
   . intro I;exact absurd I h
theorem rD {w:World} {j:Int} {p q:Option Addr} {n c k d:Nat} {m:List Int} {hs:List Sl} {cs:List (List Int)} (hc:V2 (Value.int .i64) w q hs cs) (Y:k=cs.length) (hx:k<=maxLen) (h:Vw (Value.int .i64) w p m) (hn:n=m.length) (hm:n<=maxLen):
 Calls prog cK.id #[.agg #[.int .i64 j,.slice q k d],.slice p n c] w fun e w'=>e= .returned (.bool (eD m cs))/\aq w w':=by
 subst Y;unfold maxLen at hx;refine cK.ah ?_;intro n1 w2 X;have H:=X.has;refine ⟨fun v w' z=> ∃t:Nat,v=t/\t<=cs.length/\((cs.take t).all fun c=>c.any fun l=>decide (iE m l=1))=true/\aq w2 w'/\z+t=cs.length,⟨_,0,rfl,Nat.zero_le _,rfl,aE.refl _,rfl⟩,?_⟩;rintro v w7 z _ ⟨t,rfl,ht,ha,G,hz⟩;have Q:=X.mod.trans G;refine ⟨_,_,_,ad (H.grow G) rfl,ao (fun s=> ?_) (fun s=> ?_)⟩<;>simp only [decide_eq_true_eq,decide_eq_false_iff_not] at s
 . have I:t<cs.length:=by omega
   refine ⟨_,_,_,ad (H.grow G) rfl,F_ (hc.grow Q) rfl I fun a sl e _ U V hv=> ⟨_,_,_,e,(vh (h.grow Q) hn hm hv U V).mono ?_⟩⟩;rintro e Z ⟨rfl,O⟩;refine ⟨_,rfl,ao (fun J=> ⟨?_,Q.trans O⟩) (fun J=> ⟨z - 1,by omega,t+1,by rw [aB (by omega) (by omega)];omega,I,qq (d:= []) I ha ?_,G.trans O,by omega⟩)⟩
   . have J:Bx m (cs.getD t [])≠1:=by simpa using J
     have:eD m cs=false:=lY (d:= []) I (by
      rw [Ne,zg] at J;simpa using J)
     rw [this]
   . have J:Bx m (cs.getD t [])=1:=by simpa using J
     exact zg.1 J
 . have:t=cs.length:=by omega
   subst this;rw [List.take_length] at ha;refine ⟨?_,Q⟩;unfold eD;rw [ha]
end
section
theorem DO {p:Option Addr} {n c:Nat} {l:List Int} {w:World} (h:Vw (Value.int .i64) w p l) (hn:n=l.length) (hm:n<=maxLen):
 Calls prog eQ.id #[.slice p n c] w fun e w'=>e= .returned (.bool (iu l))/\aq w w':=by
 refine eQ.ah ?_;unfold maxLen at hm;refine ⟨fun v w' k=> ∃t:Nat,v=t/\t<=l.length/\k+t=l.length/\(l.take t).all cq=true/\aq w w',⟨l.length,0,rfl,by omega,rfl,rfl,aE.refl w⟩,?_⟩;rintro v O k _ ⟨t,rfl,ht,U,ha,G⟩;refine ao (fun q=> ?_) (fun q=> ?_)<;>simp only [decide_eq_true_eq,decide_eq_false_iff_not] at q
 . have I:t<l.length:=by omega
   refine (h.grow G).ix 0 (by omega) hn q fun a e=> ⟨_,e,?_⟩
   rw [Int.toNat_natCast];refine (vO _ O).mono ?_;rintro e Q ⟨rfl,J⟩;refine ⟨_,rfl,ao (fun s=> ⟨?_,G.trans J⟩) (fun s=> ?_)⟩
   . have s:cq (l.getD t 0)=false:=by simpa using s
     have:l.all cq=false:=by
      rw [<- Bool.not_eq_true,List.all_eq_true];intro h;rw [h _ (uI I 0)] at s;cases s
     unfold iu;rw [this];rfl
   . have s:cq (l.getD t 0)=true:=by simpa using s
     refine ⟨k - 1,by omega,t+1,?_,by omega,by omega,?_,G.trans J⟩
     . rw [aB (by omega) (by omega)];omega
     . rw [List.take_add_one,List.all_append,ha];have:l[t]? =some (l.getD t 0):=by simp [List.getD,I]
       simp only [this,Option.toList_some,List.all_cons,List.all_nil,s,Bool.and_true]
 . refine ⟨?_,G⟩;have:t=l.length:=by omega
   subst this;rw [List.take_length] at ha;unfold iu;rw [ha,Bool.true_and];congr 2;exact decide_eq_decide.2 (by omega)
end
end Go.Proofs.YtenmibfmhccmiaaGreat.W
namespace Go.Fw
open Go Go.RowKit
section
variable {P:Program} {α:Type} {sz:Nat} {f:α->List Value} {T:TypeId} {w w':World} {p q:Option Addr} {c:Nat} {l:List α}
structure Do (sz:Nat) (f:α->List Value):Prop where
 len: ∀x,(f x).length=sz
 pos:0<sz
 bS: ∀x,∀v∈f x,v.oneCell'=true
theorem it (hf: ∀x,(f x).length=sz): ∀l:List α,(l.flatMap f).length=l.length*sz
 | []=>by simp
 |x::l=>by simp only [List.flatMap_cons,List.length_append,hf,it hf l,List.length_cons];rw [Nat.add_mul,Nat.one_mul,Nat.add_comm]
theorem uL (hf: ∀x,(f x).length=sz): ∀ (l:List α) (j i:Nat) (I:j<l.length),i<sz->(l.flatMap f)[j*sz+i]? =(f l[j])[i]?
 | [],j,i,I,_=>by simp at I
 |x::l,0,i,_,hi=>by
  simp only [List.flatMap_cons,Nat.zero_mul,Nat.zero_add,List.getElem_cons_zero];rw [List.getElem?_append_left (by rw [hf];exact hi)]
 |x::l,j+1,i,I,hi=>by
  simp only [List.flatMap_cons,List.getElem_cons_succ];rw [List.getElem?_append_right (by rw [hf,Nat.add_mul,Nat.one_mul];omega),hf,<- uL hf l j i (by simpa using I) hi];congr 1;rw [Nat.add_mul,Nat.one_mul];omega
theorem rV (hf: ∀x,(f x).length=sz) (x:α): ∀ (l:List α) (j:Nat),j<l.length->(l.flatMap f).take (j*sz)++f x++ (l.flatMap f).drop (j*sz+sz)=(l.set j x).flatMap f
 | [],j,hj=>by simp at hj
 |y::l,0,_=>by
  simp only [List.flatMap_cons,Nat.zero_mul,Nat.zero_add,List.take_zero,List.nil_append,List.set_cons_zero];rw [List.drop_append_of_le_length (by rw [hf];exact Nat.le_refl _),List.drop_of_length_le (by rw [hf];exact Nat.le_refl _),List.nil_append]
 |y::l,j+1,hj=>by
  simp only [List.flatMap_cons,List.set_cons_succ];rw [<- rV hf x l j (by simpa using hj)];have e:(j+1)*sz=sz+j*sz:=by rw [Nat.add_mul,Nat.one_mul,Nat.add_comm]
  rw [e,List.take_append,List.drop_append,hf,List.take_of_length_le (by rw [hf];omega),List.drop_of_length_le (by rw [hf];omega),List.nil_append];simp only [List.append_assoc];congr 2
  . rw [show sz+j*sz - sz=j*sz by omega]
  . rw [show sz+j*sz+sz - sz=j*sz+sz by omega]
def Row (sz:Nat) (f:α->List Value) (T:TypeId) (w:World) (p:Option Addr) (c:Nat) (l:List α):Prop:=w.ownsRow 0 T sz (.slice p l.length c) l.length (l.flatMap f)
theorem Row.nil (sz:Nat) (f:α->List Value) (T:TypeId) (w:World):Row sz f T w none 0 []:=World.ownsRow_nil w 0 T sz
theorem Row.un (h:Row sz f T w p c l):(p=none/\c=0/\l= [])\/∃g cur,p=some ⟨g,0,none⟩/\w.heap[g]? =some (.cells cur T (0,0))/\l.length<=c/\c<=maxLen/\cur.size=c*sz/\cur.toList.take (l.length*sz)=l.flatMap f:=by
 rcases h.2 with ⟨h1,I⟩| ⟨g,cap,cur,h1,_,I,Q,O,h5,J⟩
 . simp only [Value.slice.injEq] at h1;exact .inl ⟨h1.1,h1.2.2,List.eq_nil_of_length_eq_zero I⟩
 . simp only [Value.slice.injEq] at h1;obtain ⟨rfl,_,rfl⟩:=h1;exact .inr ⟨g,cur,rfl,I,Q,O,h5,J⟩
theorem Row.dx (hf: ∀x,(f x).length=sz) {g:Nat} {cur:Array Value} (Q:w.heap[g]? =some (.cells cur T (0,0))) (h1:l.length<=c) (I:c<=maxLen) (J:cur.size=c*sz) (O:cur.toList.take (l.length*sz)=l.flatMap f):Row sz f T w (some ⟨g,0,none⟩) c l:=
 ⟨it hf l,.inr ⟨g,c,cur,rfl,Nat.zero_le _,Q,h1,I,J,O⟩⟩
theorem Row.lt (h:Row sz f T w p c l): ∀b,aI p=some b->b<w.heap.size:=by
 intro b hb;rcases h.un with ⟨rfl,_⟩| ⟨g,cur,rfl,J,_⟩
 . simp [aI] at hb
 . simp [aI] at hb;subst hb;rcases Nat.lt_or_ge g w.heap.size with I|I
   . exact I
   . simp [Array.getElem?_eq_none I] at J
theorem Row.keep {S:Nat->Prop} (h:Row sz f T w p c l) (m:aE S w w') (hs: ∀b,aI p=some b->¬S b):Row sz f T w' p c l:=by
 have hl:=h.lt;rcases h.un with ⟨rfl,rfl,rfl⟩| ⟨g,cur,rfl,Q,h1,I,J,O⟩
 . exact Row.nil sz f T w'
 . exact ⟨h.1,.inr ⟨g,c,cur,rfl,Nat.zero_le _,(m.block g (hl g rfl) (hs g rfl)).trans Q,h1,I,J,O⟩⟩
theorem Row.grow (h:Row sz f T w p c l) (m:aq w w'):Row sz f T w' p c l:=h.keep m fun _ _=>id
theorem Row.drew (h:Row sz f T w p c l):Row sz f T w.drew p c l:=h
def Vr (sz:Nat) (f:α->List Value) (w:World) (p:Option Addr) (l:List α):Prop:= ∀j (I:j<l.length),∃a,p=some a/\aD w (a.add (j*sz)) 0 (f l[j])
theorem aD.keep {S:Nat->Prop} (m:aE S w w') {a:Addr} (hs: ¬S a.block): ∀ {vs:List Value} {i:Nat},aD w a i vs->aD w' a i vs
 | [],_,_=>trivial
 |_::_,_,⟨h1,h2⟩=> ⟨gj m h1 (by rw [cy];exact hs),aD.keep m hs h2⟩
theorem Vr.keep {S:Nat->Prop} (h:Vr sz f w p l) (m:aE S w w') (hs: ∀b,aI p=some b->¬S b):Vr sz f w' p l:=by
 intro j I;obtain ⟨a,rfl,J⟩:=h j I;exact ⟨a,rfl,J.keep m (by rw [cy];exact hs _ rfl)⟩
theorem Vr.grow (h:Vr sz f w p l) (m:aq w w'):Vr sz f w' p l:=h.keep m fun _ _=>id
theorem Vr.drew (h:Vr sz f w p l):Vr sz f w.drew p l:=h.grow (aE.refl w).drew
theorem Vr.nil:Vr sz f w p []:=fun j I=>by simp at I
theorem Row.vr (E:Do sz f) (h:Row sz f T w p c l):Vr sz f w p l:=by
 intro j J;rcases h.un with ⟨_,_,rfl⟩| ⟨g,cur,rfl,Q,h1,U,V,O⟩
 . simp at J
 . refine ⟨_,rfl,?_⟩;rw [cX,Nat.zero_add];refine aD.BX fun i v hi=> ?_;have I:i<sz:=by rw [<- E.len l[j]];exact (List.getElem?_eq_some_iff.1 hi).1
   rw [cX,Nat.zero_add];refine aR ⟨T,Q⟩ ?_;have e:(cur.toList.take (l.length*sz))[j*sz+i]? =some v:=by rw [O,uL E.len l j i J I,hi]
   rw [List.getElem?_take] at e;split at e
   . simpa using e
   . cases e
theorem Vr.ix (h:Vr sz f w p l) {i:Int} {n:Nat} (d:α) (J:0<=i) (hn:n=l.length) (h1:i<n) {K:Addr->Prop} (I: ∀a,aD w a 0 (f (l.getD i.toNat d))->K a):aV p n i sz K:=by
 subst hn;obtain ⟨a,rfl,O⟩:=h i.toNat (by omega);refine ⟨_,rfl,J,h1,I _ ?_⟩;have:l.getD i.toNat d=l[i.toNat]'(by omega):=by simp [List.getD,show i.toNat<l.length by omega]
 rw [this];exact O
theorem sO: ∀ (vs:List Value) (cs:Array Value) (o:Nat),o+vs.length<=cs.size->(wr cs o vs).toList=cs.toList.take o++vs++cs.toList.drop (o+vs.length)
 | [],cs,o,_=>by simp [wr]
 |v::vs,cs,o,h=>by
  simp only [List.length_cons] at h;rw [wr,sO vs _ (o+1) (by simp;omega)];simp only [Array.toList_setIfInBounds,List.length_cons];have h1:o<cs.toList.length:=by simp;omega
  have J:(cs.toList.set o v).take (o+1)=cs.toList.take o++ [v]:=by
   rw [List.take_add_one,List.take_set_of_le (Nat.le_refl _),List.getElem?_set_self h1];simp
  have I:(cs.toList.set o v).drop (o+1+vs.length)=cs.toList.drop (o+ (vs.length+1)):=by
   rw [List.drop_set_of_lt (by omega),show o+1+vs.length=o+ (vs.length+1) by omega]
  rw [J,I];simp
theorem qH: ∀ (vs:List Value) (cs:Array Value) (o:Nat),(wr cs o vs).size=cs.size
 | [],_,_=>rfl
 |v::vs,cs,o=>by rw [wr,qH vs];simp
theorem sN {b off:Nat} {cs:Array Value} {t:TypeId} {K:World->Prop}: ∀ {vs:List Value} {i:Nat},w.heap[b]? =some (.cells cs t)->off+i+vs.length<=cs.size->vs.all iz=true->
 (∀w',w'.heap[b]? =some (.cells (wr cs (off+i) vs) t)->aE (·=b) w w'->w'.heap.size=w.heap.size->K w')->∃w',af ⟨b,off,none⟩ i vs w w'/\K w':=by
 intro vs
 induction vs generalizing w cs with
 |nil=>intro i h _ _ I;exact ⟨w,rfl,I w h (aE.refl w) rfl⟩
 |cons v vs X=>
  intro i h hl J I;simp only [List.length_cons,List.all_cons,Bool.and_eq_true] at hl J;have Q:(w.setCell ⟨b,off+i,none⟩ v).heap[b]? =some (.cells (cs.setIfInBounds (off+i) v) t):=tX h v (by omega);have hm:aE (·=b) w (w.setCell ⟨b,off+i,none⟩ v):=⟨rfl,rfl,rfl,by simp,fun k _ I=>Below.heap_setCell w _ v k I⟩
  obtain ⟨w',U,O⟩:=X (i:=i+1) Q (by simp;omega) J.2 fun w' h1 V Y=>I w' (by simpa only [wr,Nat.add_assoc] using h1) (hm.trans V) (by rw [Y];simp);refine ⟨w',⟨⟨cs[off+i]'(by omega),ad ⟨t,h⟩ (by simp [show off+i<cs.size by omega])⟩,by rw [cX];exact oK ⟨t,h⟩,J.1,by rw [cX];exact U⟩,O⟩
theorem yN {I vs:List Value} {o n:Nat} (h:o+vs.length<=n) (hn:n<=I.length):(I.take o++vs++I.drop (o+vs.length)).take n=(I.take n).take o++vs++ (I.take n).drop (o+vs.length):=by
 apply List.ext_getElem?;intro j;simp only [List.getElem?_take,List.getElem?_append,List.length_append,List.length_take,List.getElem?_drop];repeat' split
 all_goals first
  |rfl
  |omega
  | (congr 1;omega)
theorem Row.st (E:Do sz f) (h:Row sz f T w p c l) {i:Int} {n:Nat} (x:α) {vs:List Value} (hv:vs=f x) (O:vs.all iz=true) (U:0<=i) (hn:n=l.length) (h1:i<n) {K:World->Prop}
 (Q: ∀w',Row sz f T w' p c (l.set i.toNat x)->aE (fun b=>aI p=some b) w w'->K w'):aV p n i sz fun a=> ∃w',af a 0 vs w w'/\K w':=by
 subst hn hv;rcases h.un with ⟨_,_,rfl⟩| ⟨g,cur,rfl,Z,J,Y,h4,h5⟩
 . simp at h1;omega
 . refine ⟨_,rfl,U,h1,?_⟩;rw [cX,Nat.zero_add];have hb:i.toNat*sz+sz<=l.length*sz:=by
    have:(i.toNat+1)*sz<=l.length*sz:=Nat.mul_le_mul_right _ (by omega)
    rwa [Nat.add_mul,Nat.one_mul] at this
   have V:l.length*sz<=c*sz:=Nat.mul_le_mul_right _ J;have I:=E.len x;refine sN (cs:=cur) Z (by rw [I];omega) O fun w' X m _=>Q w' ?_ (m.mono fun k _ e=>by simp [aI,e]);refine Row.dx E.len X (by simpa using J) Y (by rw [qH];exact h4) ?_;rw [List.length_set,Nat.add_zero,sO _ _ _ (by rw [I];omega),yN (by rw [I];omega) (by simp;omega),I,h5,rV E.len x l i.toNat (by omega)]
theorem zb (hf: ∀x,(f x).length=sz) {x:α} {v:Value} {o:Nat} (J:o<sz): ∀ (l:List α) (j:Nat) (I:j<l.length),f x=(f l[j]).set o v->(l.flatMap f).set (j*sz+o) v=(l.set j x).flatMap f
 | [],j,I,_=>by simp at I
 |y::l,0,_,hx=>by
  simp only [List.getElem_cons_zero] at hx;simp only [List.flatMap_cons,Nat.zero_mul,Nat.zero_add,List.set_cons_zero];rw [List.set_append_left _ _ (by rw [hf];exact J),hx]
 |y::l,j+1,I,hx=>by
  simp only [List.getElem_cons_succ] at hx;simp only [List.flatMap_cons,List.set_cons_succ];rw [<- zb hf J l j (by simpa using I) hx];have e:(j+1)*sz=sz+j*sz:=by rw [Nat.add_mul,Nat.one_mul,Nat.add_comm]
  rw [e,List.set_append_right _ _ (by rw [hf];omega),hf];congr 2;omega
theorem Row.M4 (E:Do sz f) (h:Row sz f T w p c l) {i:Int} {n o:Nat} {v:Value} (d x:α) (O:f x=(f (l.getD i.toNat d)).set o v) (I:o<sz) (Q:iz v=true) (X:0<=i) (hn:n=l.length) (h1:i<n) {K:World->Prop}
 (U: ∀w',Row sz f T w' p c (l.set i.toNat x)->aE (fun b=>aI p=some b) w w'->K w'):aV p n i sz fun a=> ∃w',af (a.add o) 0 [v] w w'/\K w':=by
 subst hn;rcases h.un with ⟨_,_,rfl⟩| ⟨g,cur,rfl,hg,J,h3,h4,h5⟩
 . simp at h1;omega
 . refine ⟨_,rfl,X,h1,?_⟩;rw [cX,Nat.zero_add];show ∃w',af ((Addr.mk g (i.toNat*sz) none).add o) 0 [v] w w'/\K w';rw [cX];have hb:i.toNat*sz+sz<=l.length*sz:=by
    have:(i.toNat+1)*sz<=l.length*sz:=Nat.mul_le_mul_right _ (by omega)
    rwa [Nat.add_mul,Nat.one_mul] at this
   have Y:l.length*sz<=c*sz:=Nat.mul_le_mul_right _ J;refine sN (cs:=cur) hg (by simp;omega) (by simp [Q]) fun w' Z m _=>U w' ?_ (m.mono fun k _ e=>by simp [aI,e]);refine Row.dx E.len Z (by simpa using J) h3 (by rw [qH];exact h4) ?_;have hl:i.toNat<l.length:=by omega
   have V:(l.getD i.toNat d)=l[i.toNat]:=by simp [List.getD,hl]
   rw [V] at O;rw [List.length_set,<- zb E.len I l i.toNat hl O,<- h5,Nat.add_zero];simp only [wr,Array.toList_setIfInBounds,List.take_set]
def nP (P:Program) (t e:TypeId) (sz bytes:Nat):Bool:=
 (match P.underlying t with|some (.slice I)=>Nat.beq I e|_=>false) && (match P.info? e with|some i=>Nat.beq i.size sz && Nat.beq i.bytes bytes && (match i.zero with|some z=>Nat.beq z.cells.size sz|none=>false)|none=>false)
theorem pO {t e bytes:Nat} (h:nP P t e sz bytes=true):P.underlying t=some (.slice e)/\∃i z,P.info? e=some i/\i.zero=some z/\i.size=sz/\i.bytes=bytes/\z.cells.size=sz:=by
 simp only [nP,Bool.and_eq_true] at h;obtain ⟨h1,I⟩:=h;split at h1
 . rename_i O he;have:O=e:=Nat.eq_of_beq_eq_true h1;subst this;split at I
   . rename_i i hi;simp only [Bool.and_eq_true] at I;obtain ⟨⟨U,Q⟩,h5⟩:=I;split at h5
     . rename_i z J;exact ⟨he,i,z,hi,J,Nat.eq_of_beq_eq_true U,Nat.eq_of_beq_eq_true Q,Nat.eq_of_beq_eq_true h5⟩
     . simp at h5
   . simp at I
 . simp at h1
theorem Vr.Kz (E:Do sz f) {a:Addr} (h:Vr sz f w (some a) l): ∀j u,(l.flatMap f)[j]? =some u->w.cell? (a.add j)=some u:=by
 intro j u I;have J:j<l.length*sz:=by rw [<- it E.len l];exact (List.getElem?_eq_some_iff.1 I).1
 have O:j / sz<l.length:=(Nat.div_lt_iff_lt_mul E.pos).2 J;have hm:=Nat.mod_lt j E.pos;have e:j=j / sz*sz+j % sz:=by rw [Nat.mul_comm];exact (Nat.div_add_mod j sz).symm
 obtain ⟨U,ha,Q⟩:=h (j / sz) O;simp only [Option.some.injEq] at ha;subst ha;rw [e,uL E.len l _ _ O hm] at I;have:=Q.get (j % sz) u I;rw [pS,Nat.zero_add,<- e] at this;exact this
theorem Row.oV {t ty e bytes:Nat} (E:Do sz f) (hs:nP P t e sz bytes=true) (h:Row sz f e w p c l) {news:List α} {m k n:Nat} (h2:Vr sz f w q news) (hn:n=l.length) (hm:m=news.length)
 (hlen:(l.length+news.length)* (bytes+1)<=140737488355328) {K:World->Option Addr->Nat->Nat->Prop}
 (Q: ∀w' Y c',Row sz f e w' Y c' (l++news)->aE (fun b=>aI p=some b) w w'->(Y=p\/Y=some ⟨w.heap.size,0,none⟩)->w.heap.size<=w'.heap.size->K w' Y (l++news).length c'):
 ∃w',∃Y n' c',(Builtin.append_ #[t,t] ty #[.slice p n c,.slice q m k]).run P w= .ok (.slice Y n' c') w'/\K w' Y n' c':=by
 obtain ⟨ht,i,z,hi,hz,h1,ac,h3⟩:=pO hs;subst hn hm;rcases Nat.eq_zero_or_pos news.length with h0|X
 . have:news= []:=List.eq_nil_of_length_eq_zero h0;subst this;refine ⟨w,p,l.length,c,?_,?_⟩
   . rcases h.un with ⟨rfl,rfl,rfl⟩| ⟨g,cur,rfl,hg,g1,g2,g3,g4⟩<;>cases q<;>
      simp [Builtin.append_,run_underlying ht,sizeOf,typeInfo,Builtin.lenOf,Builtin.firstCells,loadCells,loadCellsFrom,storeCells, *]
   . have:=Q w p c (by simpa using h) (aE.refl w) (.inl rfl) (Nat.le_refl _);simpa using this
 . obtain ⟨a,rfl,_⟩:=h2 0 X;have hb:(l.length+news.length)*bytes<=140737488355328:=Nat.le_trans (Nat.mul_le_mul_left _ (Nat.le_succ _)) hlen;have ap:l.length+news.length<=140737488355328:=Nat.le_trans (Nat.le_mul_of_pos_right _ (Nat.succ_pos _)) hlen;have J:(l++news).length=l.length+news.length:=by simp
   have U:=it E.len l;have I:=it E.len news;have Z:(news.flatMap f).length=news.length*i.size:=by rw [I,h1]
   have aa:=h2.Kz E;have ag: ∀u∈news.flatMap f,u.oneCell'=true:=fun u hu=>by obtain ⟨x,_,hx⟩:=List.mem_flatMap.1 hu;exact E.bS x u hx
   have V:l.length*sz+news.length*sz=(l.length+news.length)*sz:=(Nat.add_mul _ _ _).symm;have bW: ∀qT,Row sz f e (w.drew.alloc (.cells ((l.flatMap f).toArray++ (news.flatMap f).toArray++Builtin.zeroCells z.cells (grownCap w (l.length+news.length) qT e - (l.length+news.length))) e))
    (some ⟨w.heap.size,0,none⟩) (grownCap w (l.length+news.length) qT e) (l++news):=by
    intro qT;have a':=grownCap_ge w (l.length+news.length) qT e;have av:grownCap w (l.length+news.length) qT e<=maxLen:=grownCap_le_maxLen w _ qT e (by simp only [maxLen];omega);refine Row.dx E.len (cur:=(l.flatMap f).toArray++ (news.flatMap f).toArray++Builtin.zeroCells z.cells (grownCap w (l.length+news.length) qT e - (l.length+news.length))) Array.getElem?_push_size (by omega) av ?_ ?_
    . simp only [Array.size_append,List.size_toArray,size_zeroCells,h3,U,I,V];rw [<- Nat.add_mul];congr 1;omega
    . simp only [Array.toList_append,List.flatMap_append];rw [J,<- V,List.take_append_of_le_length (by simp [U,I]),List.take_of_length_le (by simp [U,I])]
   have gr: ∀ (o:Obj),aE (fun b=>aI p=some b) w (w.drew.alloc o):=fun o=> ⟨rfl,rfl,rfl,by simp,fun k Q _=>Below.heap_alloc w.drew o k Q⟩
   rcases h.un with ⟨rfl,rfl,rfl⟩| ⟨g,cur,rfl,hg,g1,g2,g3,g4⟩
   . have hr:=run_append_nil (P:=P) w t ty e i z ht hi hz a news.length k (news.flatMap f) Z aa X (by simp at ap;omega) (by rw [ac];simp at hb;omega);have hf:=bW 0;simp only [List.length_nil,Nat.zero_add,List.flatMap_nil,List.nil_append] at hf hr J Q ⊢;refine ⟨_,_,_,_,hr,?_⟩;exact Q _ _ _ (by simpa using hf) (gr _) (.inr rfl) (by simp)
   . by_cases O:l.length+news.length<=c
     . have an:l.length*sz+news.length*sz<=cur.size:=by rw [V,g3];exact Nat.mul_le_mul_right _ O
       have hr:=run_append_room (P:=P) w t ty e i ht hi g l.length c cur hg a news.length k (news.flatMap f) Z aa ag O (by rw [h1,I];exact an);refine ⟨_,_,_,_,hr,?_⟩;rw [<- J];refine Q _ _ _ (Row.dx E.len (setRow_heap w g cur _ e _ hg) (by omega) g2 ?_ ?_) ⟨rfl,rfl,rfl,by simp,fun k _ Q=>setRow_other w g k _ fun he=>Q (by simp [aI,he])⟩ (.inl rfl) (by simp)
       . simp only [List.size_toArray,List.length_append,List.length_take,List.length_drop,Array.length_toList,I,h1];omega
       . rw [J,h1,List.flatMap_append,<- V,<- g4];rw [List.take_append_of_le_length (by simp [I];omega),List.take_of_length_le (by simp [I];omega)]
     . have hr:=run_append_grow (P:=P) w t ty e i z ht hi hz ⟨g,0,none⟩ l.length c (l.flatMap f) (by rw [U,h1]) ((Row.vr E h).Kz E) a news.length k (news.flatMap f) Z aa (by omega) (by omega) (growslice_fits (by omega) (by rw [ac];exact hb));refine ⟨_,_,_,_,hr,?_⟩;rw [<- J];exact Q _ _ _ (by rw [J];exact bW c) (gr _) (.inr rfl) (by simp)
end
section
variable {P:Program} {α:Type} {f:α->Value} {T:TypeId} {w w':World} {p:Option Addr} {c:Nat} {l:List α}
theorem Ow.clear {t ty e bytes:Nat} (hs:lN P t e bytes=true) {x:α} {v:Value} (X:(P.info? e).bind (·.zero)=some v) (hv:v.cells= #[f x]) (Z:(f x).oneCell'=true) (h:Ow f e w p c l) {k m d:Nat} (Y:k+m=l.length) (hm:0<m) {K:World->Prop}
 (hK: ∀w',Ow f e w' p c (l.take k)->aE (fun b=>aI p=some b) w w'->K w'):
 ∃w',(Builtin.clear_ #[t] ty #[.slice (p.map (·.add (k*1))) m d]).run P w= .ok (.tuple #[]) w'/\K w':=by
 obtain ⟨ht,i,z,hi,I,h1,hb,h3⟩:=mD hs;have V:z=v:=by simp only [hi,Option.bind_some] at X;rw [I] at X;exact Option.some.inj X
 subst V;rcases h.un with ⟨rfl,rfl,rfl⟩| ⟨g,cur,rfl,hg,g1,g2,g3,g4⟩
 . simp at Y;omega
 . have U:(Builtin.zeroCells z.cells m).toList=List.replicate m (f x):=by
    rw [hv];simp [Builtin.zeroCells];apply List.ext_getElem
    . simp
    . intro i h1 h2;simp [Nat.mod_one]
   obtain ⟨w2,J,hh⟩:=sN (b:=g) (off:=0+k*1) (i:=0) (vs:=List.replicate m (f x)) (K:=fun w'=> ∃Q:World,Q=w'/\w'.heap[g]? =some (.cells (wr cur (0+k*1+0) (List.replicate m (f x))) e (0,0))/\aE (·=g) w w') hg (by simp;omega) (by
    rw [List.all_eq_true];intro u hu;rw [List.eq_of_mem_replicate hu];exact Z) fun w' a1 a2 _=> ⟨w',rfl,a1,a2⟩
   obtain ⟨_,_,a1,a2⟩:=hh;refine ⟨w2,?_,hK w2 ?_ (a2.mono fun b _ hb=>by subst hb;rfl)⟩
   . have hr:=gI (P:=P) ⟨g,0+k*1,none⟩ _ _ _ _ J;obtain ⟨m,rfl⟩: ∃n,m=n+1:=⟨m - 1,by omega⟩
     have O:(zeroValue e:Sem Value).run P w= .ok z w:=by
      simp [zeroValue,typeInfo,hi,I,Sem.run_bind]
     simp only [Option.map_some,cX];rw [Nat.zero_add,Nat.mul_one] at hr;simp [Builtin.clear_,run_underlying ht,O,U,hr]
   . have hw:(wr cur (0+k*1+0) (List.replicate m (f x))).toList=cur.toList.take k++List.replicate m (f x)++cur.toList.drop (k+m):=by
      rw [sO _ _ _ (by simp;omega)];simp
     refine Ow.dx a1 (by simp;omega) g2 (by rw [qH];exact g3) ?_;rw [hw,List.length_take,Nat.min_eq_left (by omega),List.append_assoc,List.take_append_of_le_length (by simp;omega),List.take_take,Nat.min_self,List.map_take,<- g4,List.take_take,Nat.min_eq_left (by omega)]
end
end Go.Fw
namespace Go.Proofs.YtenmibfmhccmiaaGreat.W
open Go Go.Fw Go.RowKit Go.SoP Go.LiP
open Go.Proofs.Tryz (prog)
variable {w:World} {p q:Option Addr} {n c:Nat} {l:List Int}
theorem dN:lN prog aJ aC 8=true:=by kernel_rfl
theorem ip:(Tryz.prog.info? aC).bind (·.zero)=some (.int .i64 0):=by kernel_rfl
theorem yd (l:Int):aX l=am l:=rfl
theorem zS {x:Int} (h:cq x=true):1<=am x/\am x<=1048576:=by
 have:=cH h;unfold am;split<;>omega
theorem sQ {l:Int} (h: -9223372036854775808<l) (I:l<9223372036854775808) (w:World):Calls prog fz.id #[.int .i64 l] w fun e w'=>e= .returned (.int .i64 (aX l))/\rH w w':=by
 refine fz.ah ?_;unfold fz.w;rw [aB (x:=0 - l) (by omega) (by omega)];refine ⟨?_,rH.refl w⟩;unfold imax aX;congr 2;split<;>split<;>omega
theorem DQ {x y:Int} (J:cq x=true) (I:cq y=true) (w:World):Calls prog fV.id #[.int .i64 x,.int .i64 y] w fun e w'=>e= .returned (.int .i64 (oT x y))/\rH w w':=by
 refine fV.ah ?_;have bx:=cH J;have bY:=cH I;have ax:=zS J;have Y:=zS I;refine (sQ (l:=x) (by omega) (by omega) w).mono ?_;rintro e w1 ⟨rfl,Q⟩;refine ⟨_,rfl,(sQ (l:=y) (by omega) (by omega) w1).mono ?_⟩;rintro e w2 ⟨rfl,U⟩;rw [yd,yd];have O:=Q.trans U;refine ⟨_,rfl,ao (fun s=> ?_) (fun s=> ⟨?_,O⟩)⟩
 . have s:am x≠am y:=by simpa using s
   refine (sQ (l:=x) (by omega) (by omega) w2).mono ?_;rintro e w3 ⟨rfl,X⟩;refine ⟨_,rfl,(sQ (l:=y) (by omega) (by omega) w3).mono ?_⟩;rintro e Z ⟨rfl,V⟩;rw [yd,yd];refine ⟨_,rfl,?_,(O.trans X).trans V⟩;unfold oT;rw [if_pos s,aB (by omega) (by omega)]
 . have s: ¬am x≠am y:=by simpa using s
   unfold oT;rw [if_neg s,aB (by omega) (by omega)]
theorem BT:fM prog fV.id=true:=by kernel_rfl
theorem fm {t:Nat} {x:Int} (h:t<l.length):x∈l.take (t+1)↔x∈l.take t\/x=l.getD t 0:=by
 rw [List.take_add_one,List.mem_append];have:l[t]? =some (l.getD t 0):=by simp [List.getD,h]
 rw [this];simp
theorem bM {t:Nat} (h:t<l.length):l.getD t 0∈l:=by simp [List.getD,h]
theorem EM (h:Vw (Value.int .i64) w p l) (hn:n=l.length) (hm:n<=maxLen) (x:Int):Calls prog cB.id #[.slice p n c,.int .i64 x] w fun e w'=> ∃r:Int,e= .returned (.int .i64 r)/\(r>=0↔x∈l)/\aq w w':=by
 refine cB.ah ?_;unfold maxLen at hm;refine ⟨fun I w' k=> ∃t:Nat,I=t/\t<=l.length/\k=l.length - t/\x ∉ l.take t/\aq w w',⟨_,0,rfl,Nat.zero_le _,rfl,by simp,aE.refl w⟩,?_⟩;rintro I w1 k _ ⟨t,rfl,ht,rfl,ha,G⟩;refine ao (fun s=> ?_) (fun s=> ⟨-1,rfl,?_,G⟩)
 . have s:t<l.length:=by simp at s;omega
   refine (h.grow G).ix 0 (by omega) hn (by omega) fun a e=> ⟨_,e,?_⟩
   rw [Int.toNat_natCast];refine ao (fun J=> ⟨(t:Int),rfl,?_,G⟩) (fun J=> ⟨_,?_,t+1,wN (by omega) (by omega),by omega,rfl,?_,G⟩)
   . have J:x=l.getD t 0:=by simpa using J
     exact ⟨fun _=>by rw [J];exact bM s,fun _=>by omega⟩
   . omega
   . have J:x≠l.getD t 0:=by simpa using J
     rw [fm s];rintro (e|e)
     . exact ha e
     . exact J e
 . have:t=l.length:=by simp at s;omega
   subst this;rw [List.take_length] at ha;exact ⟨fun h=>by omega,fun h=>absurd h ha⟩
theorem zO (h:Vw (Value.int .i64) w p l) (hn:n=l.length) (hm:n<=maxLen) (x:Int):Calls prog bV.id #[.slice p n c,.int .i64 x] w fun e w'=>e= .returned (.bool (decide (x∈l)))/\aq w w':=by
 refine bV.ah ?_;refine (EM h hn hm x).mono ?_;rintro e w1 ⟨r,rfl,hr,I⟩;exact ⟨_,rfl,by rw [decide_eq_decide.2 hr],I⟩
theorem uk (u v:Value):(#[]++ #[u]++ #[v]:Array Value)= #[u,v]:=by simp
theorem je (h:Vw (Value.int .i64) w p l) (hn:n=l.length) (hm:n<=1000000):Calls prog cG.id #[.slice p n c] w fun e w'=> ∃ (q:Option Addr) (d:Nat),e= .returned (.slice q l.length d)/\eC aC w' q d l/\aq w w'/\(∀b,aI q=some b->w.heap.size<=b):=by
 refine cG.ah ?_;refine ao (fun s=> ?_) (fun s=> ?_)
 . have hp:p=none:=by cases p<;>simp at s ⊢
   subst hp;have:l= []:=by
    rcases l with _| ⟨x,l⟩
    . rfl
    . obtain ⟨a,ha,_⟩:=h 0 (by simp);cases ha
   subst this;exact ⟨none,0,rfl,Ow.nil _ _ _,aE.refl w,fun b hb=>by simp [aI] at hb⟩
 . intro Q w1 h1;have o1:eC aC w1 (some ⟨Q,0,none⟩) 0 []:=bc.Jk h1;refine o1.uZ dN (h.grow h1.mod) rfl hn fH (by simp;omega) fun w2 p2 J o2 m2 I O=> ?_;rw [List.nil_append] at o2 ⊢;have U:=h1.num;refine ⟨p2,J,rfl,o2,h1.mod.then m2 fun b hb e=> ?_,fun b hb=> ?_⟩
   . have:=bg e;omega
   . rcases I with rfl|rfl
     . have:=bg hb;omega
     . have:=bg hb;have:=h1.mod.size;omega
theorem uM {k m j:Nat} (_:k+m=l.length) (I:j<m):((l.drop k).take m).getD j 0=l.getD (k+j) 0:=by
 simp only [List.getD_eq_getElem?_getD];rw [List.getElem?_take,if_pos I,List.getElem?_drop]
theorem wW {l:List Int} {i j:Nat} {x:Int} (hi:i<l.length):(l.set i x).getD j 0=if j=i then x else l.getD j 0:=iO hi
theorem lF {l:List Int} {k:Nat} {x:Int} (h:k<l.length):(l.set k x).take (k+1)=l.take k++ [x]:=by
 rw [List.take_add_one,List.take_set,List.set_eq_of_length_le (by simp;omega)];simp [h]
theorem BS (o:eC aC w p c l) (hn:n=l.length) (hm:n<=1000000):Calls prog bL.id #[.slice p n c] w fun e w'=>e= .returned (.slice p (sC l l.length).length c)/\eC aC w' p c (sC l l.length)/\aE (Bk p) w w':=by
 refine bL.ah ?_;refine ao (fun s=> ?_) (fun s=> ?_)
 . have s:l.length<2:=by simp at s;omega
   have:sC l l.length=l:=by
    rw [qO (Nat.le_refl _) (fun j V Z=>by omega),List.take_length]
   rw [this,hn];exact ⟨rfl,o,aE.refl w⟩
 have s:2<=l.length:=by simp at s;omega
 refine ⟨fun I w' k=> ∃t:Nat,I=t/\1<=t/\t<=n/\k=n - t/\(∀j,0<j->j<t->l.getD j 0≠l.getD (j - 1) 0)/\eC aC w' p c l/\aE (Bk p) w w',⟨_,1,rfl,Nat.le_refl _,by omega,rfl,fun j V Z=>by omega,o,aE.refl w⟩,?_⟩;rintro I w1 k _ ⟨t,rfl,t1,ht,rfl,ha,o1,m1⟩;have ap:l.length<=c:=by
  rcases o.un with ⟨_,_,rfl⟩| ⟨_,_,_,_,h,_⟩
  . simp at s
  . exact h
 refine ao (fun r=> ?_) (fun r=> ?_)
 . have r:t<n:=by simpa using r
   have e1:IntKind.i64.wrap ((t:Int) - 1)=((t - 1:Nat):Int):=wN (by omega) (by omega);rw [e1];refine o1.drew.ix 0 (by omega) hn (by omega) fun a e=> ⟨_,e,o1.drew.ix 0 (by omega) hn (by omega) fun a e=> ⟨_,e,?_⟩⟩
   rw [Int.toNat_natCast,Int.toNat_natCast];refine ao (fun O=> ?_) (fun O=> ⟨_,?_,t+1,wN (by omega) (by omega),by omega,by omega,rfl,fun j V Z=> ?_,o1.drew,m1.drew⟩)
   . have O:l.getD t 0=l.getD (t - 1) 0:=by simpa using O
     refine gD t n c rfl rfl rfl (by omega) (by omega) (by omega) ?_;rw [if_neg (by omega)];have d0:sC l t=l.take t:=qO (by omega) ha;have d1:sC l (t+1)=l.take t:=by
      unfold sC;rw [if_pos ⟨by omega,O⟩,d0]
     refine ⟨fun I J w' k=> ∃ (i j:Nat) (cur:List Int),I=i/\J=j/\1<=j/\j<=n - t/\k=n - t - j/\i<t+j/\cur.length=n/\(∀x,t+j - 1<=x->x<n->cur.getD x 0=l.getD x 0)/\cur.take i=sC l (t+j)/\eC aC w' p c cur/\aE (Bk p) w w',⟨_,t,1,l,rfl,rfl,Nat.le_refl _,by omega,rfl,by omega,hn.symm,fun _ _ _=>rfl,d1.symm,o1.drew,m1.drew⟩,?_⟩;clear d0 d1;rintro I J w2 k _ ⟨i,j,cur,rfl,rfl,V,Z,rfl,hi,hc,X,Y,o2,m2⟩;have v2:Vw (Value.int .i64) w2 (p.map (·.add (t*1))) ((cur.drop t).take (n - t)):=o2.vw.part (by omega);have hv:n - t=((cur.drop t).take (n - t)).length:=by simp;omega
     refine ao (fun Q=> ?_) (fun Q=> ?_)
     . have Q:j<n - t:=by simpa using Q
       have e2:IntKind.i64.wrap ((j:Int) - 1)=((j - 1:Nat):Int):=wN (by omega) (by omega);rw [e2];refine v2.drew.ix 0 (by omega) hv (by omega) fun a e=> ⟨_,e,v2.drew.ix 0 (by omega) hv (by omega) fun a e=> ⟨_,e,?_⟩⟩
       rw [Int.toNat_natCast,Int.toNat_natCast,uM (by omega) Q,uM (by omega) (by omega),X _ (by omega) (by omega),X _ (by omega) (by omega)];have ed:sC l (t+j+1)=if 0<t+j/\l.getD (t+j) 0=l.getD (t+j - 1) 0 then sC l (t+j) else sC l (t+j)++ [l.getD (t+j) 0]:=rfl
       rw [show t+ (j - 1)=t+j - 1 by omega];refine ao (fun U=> ?_) (fun U=> ?_)
       . have U:l.getD (t+j) 0≠l.getD (t+j - 1) 0:=by simpa using U
         refine v2.drew.ix 0 (by omega) hv (by omega) fun a e=> ⟨_,e,?_⟩
         rw [Int.toNat_natCast,uM (by omega) Q,X _ (by omega) (by omega)];refine o2.drew.st (l.getD (t+j) 0) rfl rfl (by omega) hc.symm (by omega) fun w3 o3 m3=> ?_;rw [Int.toNat_natCast] at o3;refine ⟨_,?_,i+1,j+1,_,wN (by omega) (by omega),wN (by omega) (by omega),by omega,by omega,rfl,by omega,by simpa using hc,fun x x1 x2=> ?_,?_,o3,m2.drew.trans m3⟩
         . omega
         . rw [wW (by omega),if_neg (by omega)];exact X x (by omega) x2
         . rw [lF (by omega),Y,show t+ (j+1)=t+j+1 by omega,ed,if_neg (fun e=>U e.2)]
       . have U:l.getD (t+j) 0=l.getD (t+j - 1) 0:=by simpa using U
         refine ⟨_,?_,i,j+1,cur,rfl,wN (by omega) (by omega),by omega,by omega,rfl,by omega,hc,fun x x1 x2=>X x (by omega) x2,?_,o2.drew,m2.drew⟩
         . omega
         . rw [Y,show t+ (j+1)=t+j+1 by omega,ed,if_pos ⟨by omega,U⟩]
     . have Q:j=n - t:=by simp at Q;omega
       have ax:i<n:=by omega
       have aa:(sC l l.length).length=i:=by
        rw [show l.length=t+j by omega,<- Y];simp;omega
       refine gD i n c rfl rfl rfl (by omega) (by omega) (by omega) ?_;rw [if_neg (by omega)];refine o2.clear dN ip (x:=(0:Int)) rfl rfl (by omega) (by omega) fun w3 o3 m3=> ?_;refine gD 0 i c rfl rfl rfl (by omega) (by omega) (by omega) ?_;rw [if_neg (by omega),Nat.sub_zero,Nat.sub_zero];have ep:p.map (·.add (0*1))=p:=by cases p<;>simp [Addr.add]
       rw [ep,aa];rw [Y,show t+j=l.length by omega] at o3;exact ⟨rfl,o3,m2.trans m3⟩
   . omega
   . have O:l.getD t 0≠l.getD (t - 1) 0:=by simpa using O
     by_cases e:j=t
     . subst e;exact O
     . exact ha j V (by omega)
 . have r:t=n:=by simp at r;omega
   have:sC l l.length=l:=by
    rw [qO (Nat.le_refl _) (fun j V Z=>ha j V (by omega)),List.take_length]
   rw [this,hn];exact ⟨rfl,o1,m1⟩
end Go.Proofs.YtenmibfmhccmiaaGreat.W
