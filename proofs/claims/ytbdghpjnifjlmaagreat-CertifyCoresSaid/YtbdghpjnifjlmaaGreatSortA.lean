/- Sorting by swaps, plain. -/
import Derived.Test.YtbdghpjnifjlmaaGreatGenCert
import Derived.Shelf.SlSortCmp.NoneTotal
import Derived.Test.YtbdghpjnifjlmaaGreatHeapA
import Derived.Test.YtbdghpjnifjlmaaGreatFwRead
abbrev Go.Lit.i (x:Int):Go.Lit:=.int .i64 x
set_option linter.unusedVariables false
namespace Go.SoP
def tZ (l:List Int) (i j:Nat):List Int:=(l.set i (l.getD j 0)).set j (l.getD i 0)
theorem vH (l:List Int) (i j:Nat):(tZ l i j).length=l.length:=by simp [tZ]
theorem kK {l:List Int} {i j:Nat} {x:Int} (hi:i<l.length):(l.set i x).getD j 0=if j=i then x else l.getD j 0:=by
 simp only [y6,VC];by_cases h:j=i
 . subst h;simp [hi]
 . rw [if_neg (λe=>h e.symm),if_neg h]
theorem np {l:List Int} {i j:Nat} (hi:i<l.length) (I:j<l.length) (k:Nat):(tZ l i j).getD k 0=if k=j then l.getD i 0 else if k=i then l.getD j 0 else l.getD k 0:=by
 unfold tZ;rw [kK (by simpa using I),kK hi]
theorem yU {l:List Int} {i j:Nat} (hi:i<l.length) (I:j<l.length):(tZ l i j).Perm l:=by
 rw [List.perm_iff_count];intro x;unfold tZ;rw [List.count_set (by simpa using I),List.count_set hi];have V:l[i]=l.getD i 0:=by simp [List.getD,hi]
 have U:(l.set i (l.getD j 0))[j]'(by simpa using I)=if i=j then l.getD j 0 else l.getD j 0:=by
  rw [List.getElem_set];split
  . rfl
  . simp [List.getD,I]
 rw [V,U];have O:l.getD i 0=x->0<List.count x l:=λh=>List.count_pos_iff.2 (by rw [<- h];simp [List.getD,hi]);have Q:l.getD j 0=x->0<List.count x l:=λh=>List.count_pos_iff.2 (by rw [<- h];simp [List.getD,I]);simp only [ite_self];by_cases h1:l.getD i 0=x<;>by_cases J:l.getD j 0=x<;>simp only [h1,J,beq_self_eq_true,if_true,beq_iff_eq,if_false]<;> (first|omega| (have:=O h1;omega)| (have:=Q J;omega))
section
variable (c:Int->Int->Int)
def Le (x y:Int):Prop:= ¬c y x<0
structure Ord:Prop where
 OA:∀ {x y},c x y<0->¬c y x<0
 trans:∀ {x y z},Le c x y->Le c y z->Le c x z
def vp (l:List Int) (a b:Nat):Prop:=∀i j,a<=i->i<j->j<b->Le c (l.getD i 0) (l.getD j 0)
end
variable {c:Int->Int->Int}
theorem Ord.lt {x y:Int} (o:Ord c) (h:c x y<0):Le c x y:=o.OA h
theorem Ord.rfl {x:Int} (o:Ord c):Le c x x:=λh=>o.OA h h
theorem Ord.MH {x y z:Int} (o:Ord c) (h:c x y<0) (k:Le c y z):c x z<0:=by
 by_cases e:c x z<0
 . exact e
 . exact absurd h (o.trans k e)
theorem Ord.Sw {x y z:Int} (o:Ord c) (h:Le c x y) (k:c y z<0):c x z<0:=by
 by_cases e:c x z<0
 . exact e
 . exact absurd k (o.trans e h)
end Go.SoP
namespace Go.Proofs.YtbdghpjnifjlmaaGreat.W
open Go
section
def Tu:Go.Shelf.Ren:=⟨λ|6=>179|15=>205|14=>210|28=>214|29=>215|20=>217|21=>218|22=>219|23=>220|24=>221|25=>222|26=>223|27=>224|46=>225|47=>226|48=>227|49=>228|50=>229|57=>230|n=>n,λ|22=>25|24=>3|25=>211|3=>3|39=>55|0=>0|53=>240|55=>242|4=>4|46=>245|45=>244|50=>163|5=>5|9=>9|66=>250|70=>254|76=>256|77=>257|n=>n,id⟩
end
section
open Go.Fw Go.RowKit Go.SoP
abbrev Bk (p:sn):Nat->Prop:=λb=>aG p=some b
theorem wN {x:Int} {i:Nat} (h:x=i:=by omega) (hb:i<9223372036854775808:=by omega):IntKind.i64.wrap x=i:=by
 subst h;exact aA (by omega) (by omega)
theorem OW {P:Program} {n:FuncId} {B:Func} (h1:((P.funcs[n]?.getD B).name== "runtime.NumGoroutine")=false) (I:P.funcs[n]? =some {B with name:=(P.funcs[n]?.getD B).name}):Bears P n B:=⟨_,h1,I⟩
theorem Tp:SlLaysF.n6 Tryz.prog Tu:=by
 constructor;all_goals first|kernel_rfl| (intro w;kernel_rfl)|exact OW (by kernel_rfl) (by kernel_rfl)
def xu (w w':World):Prop:=∃q os,w'=Sort.grow (w.drewN q) os
theorem xu.refl (w:World):xu w w:=⟨0,#[],by simp [Sort.grow,World.drewN]⟩
theorem xu.trans {a b c:World} (h:xu a b) (k:xu b c):xu a c:=by
 obtain ⟨q,os,rfl⟩:=h;obtain ⟨J,I,rfl⟩:=k;exact ⟨q+J,os++I,by unfold Sort.grow World.drewN;simp only [Array.append_assoc,WL]⟩
theorem xu.drew {a b:World} (h:xu a b):xu a b.drew:=h.trans ⟨1,#[],by rw [Sort.grow_empty];rfl⟩
theorem xu.grow {a b:World} (h:xu a b):ak a b:=by
 obtain ⟨q,os,rfl⟩:=h;refine ⟨rfl,rfl,rfl,by simp [Sort.grow,World.drewN],λk I _=>?_⟩;show (a.heap++os)[k]? =_;rw [VB I]
structure Cx (w0:World) (p:sn) (n:Nat) (l0:List Int) (fid:FuncId) (fv:Array Value) (cf:Int->Int->Int):Prop where
 hn:n=l0.length
 hm:n<=1152921504606846976
 he:gH Tryz.prog fid=true
 hf:∀x∈l0,∀y∈l0,∀w,aD (Bk p) w0 w->Calls Tryz.prog fid (#[]++ #[.i x,.i y]++fv) w λe w2=>e=.returned (.i (cf x y))/\xu w w2
 o:Ord cf
variable {w0 w:World} {p:sn} {n c:Nat} {l0 l:List Int} {fid:FuncId} {fv:Array Value} {cf:Int->Int->Int}
theorem AI {P:Program} {g:FuncId} (h:gH P g=true) (J:Array Value) (w:World):(callFunc g J).run P w=.ok (.enter g J) w:=by
 unfold gH at h;unfold callFunc;simp only [Sem.run_bind,run_program,Result.andThen_ok];split at h
 . rename_i fn I;simp only [ts,bne_iff_ne,ne_eq] at h;simp only [I];have h1:(fn.name== "runtime.NumGoroutine")=false:=by simpa using h.2
   have O:fn.body.isNone=false:=by cases Q:fn.body<;>simp_all
   simp [h1,O]
 . simp at h
theorem HL {α:Type} [Inhabited α] (enc:α->Value) (w:World) (b m:Nat) (d:Array α) (os:Array Obj):aD (λk=>k=b) w (sortWorld enc w b 0 m d os):=by
 refine ⟨rfl,rfl,rfl,?_,λk J I=>?_⟩
 . simp [sortWorld,Sort.grow,Sort.putRow,Sort.mapBlock,Sort.ahead]
 . show ((w.heap.modify b _)++os)[k]? =_;rw [VB (by simpa using J),XH,if_neg λe=>I e.symm]
theorem Dj (X:Cx w p n l fid fv cf) (h:dz aq w p c l):
 Calls Tryz.prog kH.id #[.slice p n c,.func (.func fid) #[] fv] w λe w'=>e=.returned (.tuple #[])/\∃l',dz aq w' p c l'/\aD (Bk p) w w'/\l'.Perm l/\vp cf l' 0 l'.length:=by
 rcases UZ l.length with Z|Z
 . have hn:n=0:=by rw [X.hn,Z]
   subst hn;refine (AnyF.slices_SortFunc_none (P:=Tryz.prog) (ρ:=Tu) {Tp with} p c _ w).mono ?_;rintro e w' ⟨rfl,rfl⟩;exact ⟨rfl,l,h,aD.refl _,.refl l,λi j _ _ I=>by omega⟩
 . rcases h.un with ⟨_,_,e⟩| ⟨b,cur,rfl,hb,h1,V,h3,h4⟩
   . rw [e] at Z;simp at Z
   . haveI:Inhabited {x:Int // x∈l}:=⟨⟨l[0],V_ Z⟩⟩
     obtain ⟨d,hd⟩: ∃d:Array {x:Int // x∈l},d=l.attach.toArray:=⟨_,rfl⟩
     have ds:d.size=n:=by rw [hd,X.hn];simp
     have Y:∀j (I:j<l.length),(d[j]!).1=l[j]:=λj I=>by
      have:j<d.size:=by rw [ds,X.hn];exact I
      rw [getElem!_pos d j this];simp [hd]
     have ay:=X.hm;have ag:Go.Sort.SWO (Go.Proofs.ltOf λa b: {x:Int // x∈l}=>cf a.1 b.1):=by
      refine ⟨λx=>?_,λx y z h1 V=>?_,λx y z h1 V=>?_⟩
      . exact decide_eq_false X.o.rfl
      . simp only [ltOf,decide_eq_true_eq] at*
        exact X.o.MH h1 (X.o.lt V)
      . simp only [ltOf,decide_eq_false_iff_not] at*
        exact X.o.trans V h1
     have key:=Any.slices_SortFunc Tp (λa: {x:Int // x∈l}=>Value.int .i64 a.1) (λ_=>rfl) (λa b=>cf a.1 b.1) ag fid fv b 0 c d w (AI X.he)
      (λm os dk _ x y=>?_) (λj I=>?_) ?_ (by omega)
     . rw [ds] at key;refine key.mono ?_;rintro e w' ⟨rfl,J,m,os,hp,hs,rfl⟩;obtain ⟨q1,q2,q3⟩:=hp;have O:J.size=n:=by rw [q1,ds]
       have Q:∀a:Array {x:Int // x∈l},a.size=n->(a.extract 0 n).toList=a.toList:=λa ha=>by
        rw [<- ha];simp
       rw [Q _ O,Q _ ds] at q3;have aa:(J.toList.map (·.1)).length=n:=by simp [O]
       have U:(J.toList.map (·.1)).Perm l:=by
        have:=q3.map (·.1);rw [hd] at this;simpa using this
       have gd:∀i,i<n->(J.toList.map (·.1)).getD i 0=(J[i]!).1:=λi hi=>by
        have:i<J.size:=by omega
        rw [getElem!_pos J i this];simp [List.getD,this]
       refine ⟨rfl,J.toList.map (·.1),?_,(HL _ w b m J os).mono λk _ (e:k=b)=>by rw [e];rfl,U,λi j hi ap I=>?_⟩
       . refine Ow.df (cur:=Sort.putCells (λa: {x:Int // x∈l}=>Value.int .i64 a.1) 0 J cur) ?_ (by rw [aa,X.hn];exact h1) V ?_ ?_
         . show ((w.heap.modify b _)++os)[b]? =_;have ac:b<w.heap.size:=h.lt b rfl;rw [VB (by simpa using ac),XH,if_pos rfl,hb];rfl
         . unfold Sort.putCells;simp [h3]
         . refine VH ?_ λj j1 j2=>?_
           . unfold Sort.putCells;simp [h3,O];rw [X.hn];exact U7 h1
           . have I:j<n:=by simpa [O] using j2
             unfold Sort.putCells;have az:j<J.size:=by omega
             simp [O,I]
       . rw [aa] at I;rw [gd i (by omega),gd j I];have:=hs i j hi ap I;simpa [ltOf,Le] using this
     . refine (X.hf x.1 x.2 y.1 y.2 _ ((HL _ w b m dk os).mono λk _ (e:k=b)=>by rw [e];rfl)).mono ?_;rintro e w2 ⟨rfl,g⟩;exact ⟨rfl,g⟩
     . rw [ds,X.hn] at I;obtain ⟨g,e,hc⟩:=h.cell I;simp only [U4,Addr.mk.injEq] at e;obtain ⟨rfl,_,_⟩:=e;refine ⟨?_,tw (cs:=cur) ⟨_,hb⟩⟩;show w.cell? _=some (.i (d[j]!).1);rw [Y j I,UX];exact hc
     . exact h.lt b rfl
end
end Go.Proofs.YtbdghpjnifjlmaaGreat.W
namespace Go.LiP
open Go.SoP
def am (l:Int):Int:=if l<0 then -l else l
def pN (a b:Int):Int:=if am a≠am b then am a - am b else b - a
theorem vt:Ord pN:=by
 constructor
 . intro x y h;unfold pN am at*
   split at h<;>split<;> (try split at h)<;> (try split)<;> (try split at h)<;> (try split)<;>omega
 . intro x y z h1 I;unfold Le pN at*
   have J:am x=x\/am x= -x:=by unfold am;split<;>simp
   generalize am x=O at*
   generalize am y=U at*
   generalize am z=Q at*
   split at h1<;>split at I<;>split<;>omega
theorem O7 (a b:Int) (h:a≠b):pN a b<0\/pN b a<0:=by
 unfold pN;split<;>split<;>omega
theorem BP {a b:Int} (h:Le pN a b) (J:a≠b):pN a b<0:=by
 rcases O7 a b J with I|I
 . exact I
 . exact absurd I h
theorem Cl {a b c:Int} (h1:pN a b<0) (I:pN b c<0):pN a c<0:=vt.MH h1 (vt.lt I)
theorem sX (a:Int): ¬pN a a<0:=by unfold pN;simp
abbrev mf (m:List Int):Prop:=m.Pairwise λa b=>pN a b<0
structure Q6 (c m:List Int):Prop where
 mem:∀x,x∈m↔x∈c
 st:mf m
theorem Bj:∀ {m k:List Int},mf m->mf k->(∀x,x∈m↔x∈k)->m=k
 | [],[],_,_,_=>rfl
 | [],y::k,_,_,h=>by have:=(h y).2 (by simp);simp at this
 |x::m,[],_,_,h=>by have:=(h x).1 (by simp);simp at this
 |x::m,y::k,h1,J,h=>by
  have h1:=VZ.1 h1;have J:=VZ.1 J;have e:x=y:=by
   rcases UI.1 ((h x).1 (by simp)) with e|e
   . exact e
   . rcases UI.1 ((h y).2 (by simp)) with O|O
     . exact O.symm
     . exact absurd (Cl (h1.1 y O) (J.1 x e)) (sX x)
  subst e;congr 1;refine Bj h1.2 J.2 λz=>?_;constructor
  . intro I;rcases UI.1 ((h z).1 (vy _ I)) with e|e
    . subst e;exact absurd (h1.1 z I) (sX z)
    . exact e
  . intro I;rcases UI.1 ((h z).2 (vy _ I)) with e|e
    . subst e;exact absurd (J.1 z I) (sX z)
    . exact e
theorem Q6.Er {c m k:List Int} (h:Q6 c m) (g:Q6 c k):m=k:=Bj h.st g.st λx=> (h.mem x).trans (g.mem x).symm
def yD (l:List Int):Nat->List Int
 |0=> []
 |k+1=>if 0<k/\l.getD k 0=l.getD (k - 1) 0 then yD l k else yD l k++ [l.getD k 0]
theorem Du {l:List Int}:∀ {k:Nat},k<=l.length->∀x,x∈yD l k↔∃j,j<k/\l.getD j 0=x
 |0,_,x=>by simp [yD]
 |k+1,h,x=>by
  have O:=Du (l:=l) (k:=k) (by omega) x;unfold yD;split
  . rename_i Q;rw [O];constructor
    . rintro ⟨j,J,I⟩;exact ⟨j,by omega,I⟩
    . rintro ⟨j,J,I⟩;by_cases e:j=k
      . subst e;exact ⟨j - 1,by omega,by rw [<- Q.2];exact I⟩
      . exact ⟨j,by omega,I⟩
  . rw [F',O,Bs];constructor
    . rintro (⟨j,J,I⟩|e)
      . exact ⟨j,by omega,I⟩
      . exact ⟨k,by omega,e.symm⟩
    . rintro ⟨j,J,I⟩;by_cases e:j=k
      . subst e;exact .inr I.symm
      . exact .inl ⟨j,by omega,I⟩
theorem Av {l:List Int} (h:vp pN l 0 l.length):∀ {k:Nat},k<=l.length->mf (yD l k)
 |0,_=>List.Pairwise.nil
 |k+1,hk=>by
  have O:=Av h (k:=k) (by omega);unfold yD;split
  . exact O
  . rename_i Q;rw [mf,Xi];refine ⟨O,List.pairwise_singleton _ _,λx U y J=>?_⟩;rw [Bs] at J;subst J;obtain ⟨j,V,rfl⟩:=(Du (by omega) x).1 U;have I:pN (l.getD (k - 1) 0) (l.getD k 0)<0:=BP (h (k - 1) k (by omega) (by omega) (by omega)) λe=>Q ⟨by omega,e.symm⟩;by_cases e:j=k - 1
    . rw [e];exact I
    . exact vt.Sw (h j (k - 1) (by omega) (by omega) (by omega)) I
theorem vG {l:List Int}:∀ {k:Nat},k<=l.length->(∀j,0<j->j<k->l.getD j 0≠l.getD (j - 1) 0)->yD l k=l.take k
 |0,_,_=>by simp [yD]
 |k+1,h,hc=>by
  unfold yD;rw [if_neg (λe=>hc k e.1 (by omega) e.2),vG (k:=k) (by omega) (λj I J=>hc j I (by omega)),UR];have:l[k]? =some (l.getD k 0):=by simp [List.getD,show k<l.length by omega]
  rw [this];rfl
theorem Ph {c l:List Int} (hp:l.Perm c) (h:vp pN l 0 l.length):Q6 c (yD l l.length):=by
 refine ⟨λx=>?_,Av h (y4 _)⟩;rw [Du (y4 _),<- hp.mem_iff];constructor
 . rintro ⟨j,I,rfl⟩;simp [List.getD,I]
 . intro J;obtain ⟨j,I,e⟩:=I'.1 J;exact ⟨j,I,by simp [List.getD,I,e]⟩
def l9:List Int->Int->Nat
 | [],_=>0
 |y::m,x=>if pN y x<0 then l9 m x+1 else 0
theorem yB:∀ (m:List Int) (x:Int),l9 m x<=m.length
 | [],_=>y4 _
 |y::m,x=>by
  unfold l9;split
  . simp;exact yB m x
  . exact vx _
theorem Cw:∀ {m:List Int} {x:Int} {j:Nat},j<l9 m x->pN (m.getD j 0) x<0
 | [],_,_,h=>by simp [l9] at h
 |y::m,x,j,h=>by
  unfold l9 at h;split at h
  . rename_i I;cases j with
    |zero=>exact I
    |succ j=>simpa [List.getD] using Cw (m:=m) (x:=x) (j:=j) (by omega)
  . omega
theorem wJ:∀ {m:List Int} {x:Int},l9 m x<m.length->¬pN (m.getD (l9 m x) 0) x<0
 | [],_,h=>by simp at h
 |y::m,x,h=>by
  unfold l9 at h ⊢;split
  . rename_i I;rw [if_pos I] at h;have:=wJ (m:=m) (x:=x) (by simpa using h);simpa [List.getD] using this
  . rename_i I;exact I
theorem Bx {m:List Int} {x:Int} {j:Nat} (h1:∀i,i<j->pN (m.getD i 0) x<0) (J:j<=m.length) (I:j<m.length->¬pN (m.getD j 0) x<0):j=l9 m x:=by
 have hp:=yB m x;rcases Xe j (l9 m x) with e|e|e
 . exact absurd (Cw e) (I (by omega))
 . exact e
 . exact absurd (h1 _ e) (wJ (by omega))
def D2 (m:List Int) (x:Int):List Int:=m.take (l9 m x)++ [x]++m.drop (l9 m x)
theorem KT {m:List Int} {x y:Int}:y∈D2 m x↔y∈m\/y=x:=by
 have:y∈m↔y∈m.take (l9 m x)\/y∈m.drop (l9 m x):=by rw [<- F',Vi]
 unfold D2;rw [F',F',Bs,this];constructor
 . rintro ((h|h)|h)
   . exact .inl (.inl h)
   . exact .inr h
   . exact .inl (.inr h)
 . rintro ((h|h)|h)
   . exact .inl (.inl h)
   . exact .inr h
   . exact .inl (.inr h)
theorem E4 {m:List Int} {x:Int} (h:mf m) (Y:x ∉ m):mf (D2 m x):=by
 have hs:mf (m.take (l9 m x)++m.drop (l9 m x)):=by rw [Vi];exact h
 rw [mf,Xi] at hs;have lo:∀y∈m.take (l9 m x),pN y x<0:=by
  intro y I;obtain ⟨j,Q,rfl⟩:=I'.1 I;rw [GD] at Q;have:=Cw (m:=m) (x:=x) (j:=j) (by omega);rw [Wh];simpa [List.getD,show j<m.length by omega] using this
 have hi:∀y∈m.drop (l9 m x),pN x y<0:=by
  intro y I;obtain ⟨j,Q,rfl⟩:=I'.1 I;rw [U0] at Q;have V:=wJ (m:=m) (x:=x) (by omega);have U:m.getD (l9 m x) 0∈m:=by simp [List.getD,show l9 m x<m.length by omega]
  have X:pN x (m.getD (l9 m x) 0)<0:=BP V λe=>Y (by rw [e];exact U);rw [XC];have J:pN x (m[l9 m x]'(by omega))<0:=by simpa [List.getD,show l9 m x<m.length by omega] using X
  rcases UZ j with e|e
  . subst e;exact J
  . exact Cl J (U2.1 h (l9 m x) (l9 m x+j) (by omega) (by omega) (by omega))
 unfold D2;rw [mf,U6,Xi];refine ⟨hs.1,?_,λy I z O=>?_⟩
 . rw [List.singleton_append,VZ];exact ⟨hi,hs.2.1⟩
 . rw [List.singleton_append,UI] at O;rcases O with rfl|O
   . exact lo y I
   . exact hs.2.2 y I z O
def ff (c:List Int):Nat->List Int
 |0=> []
 |k+1=>if c.getD k 0∈ff c k then ff c k else D2 (ff c k) (c.getD k 0)
def aY (c:List Int):List Int:=ff c c.length
theorem zT {c:List Int}:∀ {k:Nat},k<=c.length->Q6 (c.take k) (ff c k)
 |0,_=>⟨λx=>by simp [ff],List.Pairwise.nil⟩
 |k+1,hk=>by
  have J:=zT (c:=c) (k:=k) (by omega);have O:c.take (k+1)=c.take k++ [c.getD k 0]:=by
   rw [UR];have:c[k]? =some (c.getD k 0):=by simp [List.getD,show k<c.length by omega]
   rw [this];rfl
  unfold ff;split
  . rename_i I;refine ⟨λx=>?_,J.st⟩;rw [J.mem,O,F',Bs];constructor
    . exact .inl
    . rintro (h|h)
      . exact h
      . rw [h,<- J.mem];exact I
  . rename_i I;refine ⟨λx=>?_,E4 J.st I⟩;rw [KT,J.mem,O,F',Bs]
theorem c6 (c:List Int):Q6 c (aY c):=by
 have:=zT (c:=c) (y4 _)
 rwa [K'] at this
theorem rj {c:List Int}:∀k,(ff c k).length<=k
 |0=>y4 _
 |k+1=>by
  have I:=rj (c:=c) k;unfold ff;split
  . omega
  . unfold D2;have:=yB (ff c k) (c.getD k 0);simp;omega
theorem p9 (c:List Int):(aY c).length<=c.length:=rj _
def lO (c:List Int):Bool:=c.any λx=>c.contains (-x)
theorem ND {c m:List Int} (h:Q6 c m) (nz:∀x∈c,x≠0):lO c=true↔∃i,0<i/\i<m.length/\m.getD i 0= -(m.getD (i - 1) 0):=by
 have mem_of:∀j,j<m.length->m.getD j 0∈c:=λj J=> (h.mem _).1 (by simp [List.getD,J]);have I:∀i j,i<j->j<m.length->pN (m.getD i 0) (m.getD j 0)<0:=λi j U J=>by
  have:=U2.1 h.st i j (by omega) J U;simpa [List.getD,show i<m.length by omega,J] using this
 unfold lO;rw [VI];constructor
 . rintro ⟨x,X,O⟩;have O: -x∈c:=by simpa using O
   have key:∀x:Int,0<x->x∈c-> -x∈c->∃i,0<i/\i<m.length/\m.getD i 0= -(m.getD (i - 1) 0):=by
    intro x h0 X O;obtain ⟨i,hi,V⟩:=I'.1 ((h.mem x).2 X);obtain ⟨j,J,Q⟩:=I'.1 ((h.mem (-x)).2 O);have V:m.getD i 0=x:=by simp [List.getD,hi,V]
    have Q:m.getD j 0= -x:=by simp [List.getD,J,Q]
    have Z:pN x (-x)<0:=by unfold pN am;split<;>split<;>split<;>omega
    have U:i<j:=by
     rcases Xe i j with e|e|e
     . exact e
     . subst e;omega
     . have:=I j i e hi;rw [V,Q] at this;exact absurd Z (vt.OA this)
    have Y:j=i+1:=by
     rcases UU (i+1) j with e|e
     . have a1:=I i (i+1) (by omega) (by omega);have a2:=I (i+1) j e J;rw [V] at a1;rw [Q] at a2;generalize m.getD (i+1) 0=z at a1 a2;unfold pN am at a1 a2;split at a1<;>split at a2<;> (try split at a1)<;> (try split at a2)<;> (try split at a1)<;> (try split at a2)<;>omega
     . omega
    exact ⟨j,by omega,J,by rw [Q,Y,VV,V]⟩
   rcases XX 0 x with e|e
   . exact key x e X O
   . have:=nz x X;exact key (-x) (by omega) O (by rwa [U_])
 . rintro ⟨i,h1,h2,h3⟩;refine ⟨m.getD (i - 1) 0,mem_of _ (by omega),?_⟩;rw [<- h3];simpa using mem_of i h2
end Go.LiP
namespace Go.Fw
open Go Go.RowKit
variable {P:Program} {α:Type} {f:α->Value} {T:TypeId} {w w':World} {p q:sn} {c:Nat} {l:List α}
theorem dZ {S:Nat->Prop} {a:Addr} {v:Value} (g:aD S w w') (h:w.cell? a=some v) (hs: ¬S a.block):w'.cell? a=some v:=by
 have hb:=World.block_lt_of_cell? w a h;rw [<- h];exact World.cell?_of_block (g.block a.block hb hs)
def Vw (f:α->Value) (w:World) (p:sn) (l:List α):Prop:=∀j (I:j<l.length),∃a,p=some a/\w.cell? (a.add j)=some (f l[j])
theorem cV (a:Addr) (n:Nat):(a.add n).block=a.block:=by unfold Addr.add;split<;>rfl
theorem Vw.keep {S:Nat->Prop} (h:Vw f w p l) (m:aD S w w') (hs:∀b,aG p=some b->¬S b):Vw f w' p l:=by
 intro j I;obtain ⟨a,rfl,J⟩:=h j I;exact ⟨a,rfl,dZ m J (by rw [cV];exact hs _ rfl)⟩
theorem Vw.grow (h:Vw f w p l) (m:ak w w'):Vw f w' p l:=h.keep m λ_ _=>id
theorem Vw.drew (h:Vw f w p l):Vw f w.drew p l:=h
theorem Vw.nil:Vw f w p []:=λj I=>by simp at I
theorem Vw.lt (h:Vw f w p l) (hl:l≠[]):∀b,aG p=some b->b<w.heap.size:=by
 intro b hb;obtain ⟨a,rfl,I⟩:=h 0 (Vb.2 hl);have:=World.block_lt_of_cell? w _ I;rw [cV] at this;simp [aG] at hb;omega
theorem Ow.vw (h:Ow f T w p c l):Vw f w p l:=by
 intro j J;obtain ⟨g,rfl,I⟩:=h.cell J;exact ⟨_,rfl,by rw [dI,UX];exact I⟩
theorem Vw.ix (h:Vw f w p l) {i:Int} {n:Nat} (d:α) (J:0<=i) (hn:n=l.length) (h1:i<n) {K:Addr->Prop} (I:∀a,w.cell? a=some (f (l.getD i.toNat d))->K a):aW p n i 1 K:=by
 subst hn;obtain ⟨a,rfl,O⟩:=h i.toNat (by omega);refine ⟨_,rfl,J,h1,I _ ?_⟩;rw [Wt,O];simp [List.getD,show i.toNat<l.length by omega]
theorem Vw.Uq (h:Vw f w p l) {i:Int} {n:Nat} (d:α) (J:0<=i) (hn:n=l.length) (h1:i<n) {K:Addr->Prop} (I:∀a,aG p=some a.block->w.cell? a=some (f (l.getD i.toNat d))->K a):aW p n i 1 K:=by
 subst hn;obtain ⟨a,rfl,O⟩:=h i.toNat (by omega);refine ⟨_,rfl,J,h1,I _ (by rw [cV];rfl) ?_⟩;rw [Wt,O];simp [List.getD,show i.toNat<l.length by omega]
theorem uP (a:Addr) (m n:Nat):(a.add m).add n=a.add (m+n):=by
 unfold Addr.add;by_cases h1:m=0<;>by_cases I:n=0<;>simp [h1,I,WL]
theorem Vw.part (h:Vw f w p l) {i m:Nat} (h1:i+m<=l.length):Vw f w (p.map (·.add (i*1))) ((l.drop i).take m):=by
 intro j J;simp only [GD,U0] at J;obtain ⟨a,rfl,I⟩:=h (i+j) (by omega);refine ⟨_,rfl,?_⟩;rw [Wt,uP,I];simp
theorem Ow.tD {t ty e bytes:Nat} (hs:nE P t e bytes=true) (h:Ow f e w p c l) {V:Nat} {news:List α} (Q:Vw f w q news) {n m:Nat} (hn:n=l.length) (hm:m=news.length) (Z:∀x,(f x).oneCell'=true)
 (hlen:(l.length+news.length)* (bytes+1)<=140737488355328) {K:World->sn->Nat->Nat->Prop}
 (U:∀w' I c',Ow f e w' I c' (l++news)->aD (λb=>aG p=some b) w w'->(I=p\/I=some ⟨w.heap.size,0,none⟩)->w.heap.size<=w'.heap.size->K w' I (l++news).length c'):
 ∃w',∃I n' c',(Builtin.append_ #[t,t] ty #[.slice p n c,.slice q m V]).run P w=.ok (.slice I n' c') w'/\K w' I n' c':=by
 subst hm;rcases UZ news.length with O|O
 . have:news= []:=UF O;subst this;refine ⟨w,p,n,c,h.Rw hs hn,?_⟩;have:=U w p c (by simpa using h) (aD.refl w) (.inl rfl) (y4 _);simpa [hn] using this
 . obtain ⟨g,X,_⟩:=Q 0 O;subst X;refine Ow.mA hs h hn news rfl O (λj Y=>?_) Z hlen U;obtain ⟨g',J,hc⟩:=Q j Y;simp only [U4] at J;subst J;exact hc
theorem FW {v:Value} (h:J_ w (.sl (.int .i64)) v):∃p n c l,v=.slice p n c/\n=l.length/\n<=c/\c<=maxLen/\Vw sT w p l/\∀x∈l,(Lit.int .i64 x).wf=true:=by
 rcases h with rfl| ⟨a,len,cap,rfl,h1,Q,U⟩
 . exact ⟨none,0,0,[],rfl,rfl,y4 _,vx _,Vw.nil,by simp⟩
 . have:∀i,∃x:Int,(i<len->w.cell? (a.add i)=some (.i x))/\(Lit.int .i64 x).wf=true:=by
    intro i;by_cases hi:i<len
    . obtain ⟨X,_,V,x,rfl,I⟩:=U i hi;refine ⟨x,λ_=>?_,I⟩;have:=V.1
      rwa [show Sh.size (.int .i64)=1 from rfl,Wt,show (a.add i).add 0=a.add i by rw [uP,Ws]] at this
    . exact ⟨0,λh=>absurd h hi,by decide⟩
   refine ⟨some a,len,cap,(List.range len).map λi=>Classical.choose (this i),rfl,by simp,h1,Q,λj O=>⟨a,rfl,?_⟩,?_⟩
   . have J:j<len:=by simpa using O
     rw [(Xc (this j)).1 J];simp
   . intro x I;simp only [L0,Vj] at I;obtain ⟨i,_,rfl⟩:=I;exact (Xc (this i)).2
end Go.Fw
namespace Go.Proofs.YtbdghpjnifjlmaaGreat.W
open Go Go.Fw Go.RowKit
open Go.Proofs.Tryz (prog)
section
theorem zD {l:List Int} {t:Nat} (h:t<l.length) (d:Int):l.getD t d∈l:=by
 simp [List.getD,h]
theorem Ct {p:sn} {n c:Nat} {l:List Int} {w:World} (h:Vw sT w p l) (hn:n=l.length) (hm:n<=maxLen) {fid:FuncId} {fv:Array Value} (he:gH prog fid=true) (pr:Int->Bool)
 (hf:∀x∈l,∀w',ak w w'->Calls prog fid (#[]++ #[.i x]++fv) w' λe w2=>e=.returned (.bool (pr x))/\ak w' w2):
 Calls prog bO.id #[.slice p n c,.func (.func fid) #[] fv] w λe w'=> (∃r:Int,e=.returned (.i r)/\decide (r>=0)=l.any pr)/\ak w w':=by
 refine bO.aj ?_;unfold maxLen at hm;refine ⟨λv w' k=>∃t:Nat,v=t/\t<=l.length/\k+t=l.length/\(l.take t).any pr=false/\ak w w',⟨l.length,0,rfl,by omega,rfl,rfl,aD.refl w⟩,?_⟩;rintro v O k _ ⟨t,rfl,ht,U,ha,G⟩;refine ah (λq=>?_) (λq=>?_)<;>simp only [decide_eq_true_eq,decide_eq_false_iff_not] at q
 . have I:t<l.length:=by omega
   refine (h.grow G).ix 0 (by omega) hn q λa e=>?_;refine ⟨_,e,?_⟩;rw [he];show Calls _ _ _ _ _;rw [tn];refine (hf _ (zD I 0) O G).mono ?_;rintro e Q ⟨rfl,J⟩;refine ⟨_,rfl,ah (λs=>?_) (λs=>?_)⟩
   . refine ⟨⟨(t:Int),rfl,?_⟩,G.trans J⟩;rw [decide_eq_true (by omega:(t:Int)>=0)];exact (VI.2 ⟨_,zD I 0,s⟩).symm
   . refine ⟨k - 1,by omega,t+1,?_,by omega,by omega,?_,G.trans J⟩
     . rw [aA (by omega) (by omega)];omega
     . rw [UR,List.any_append,ha];have:l[t]? =some (l.getD t 0):=by simp [List.getD,I]
       simp only [this,Wq,X8,List.any_nil,s,X6]
 . refine ⟨⟨-1,rfl,?_⟩,G⟩;have:t=l.length:=by omega
   subst this;rw [K'] at ha;rw [ha];rfl
theorem kj {p:sn} {n c:Nat} {l:List Int} {w:World} (h:Vw sT w p l) (hn:n=l.length) (hm:n<=maxLen) {fid:FuncId} {fv:Array Value} (he:gH prog fid=true) (pr:Int->Bool)
 (hf:∀x∈l,∀w',ak w w'->Calls prog fid (#[]++ #[.i x]++fv) w' λe w2=>e=.returned (.bool (pr x))/\ak w' w2):
 Calls prog bM.id #[.slice p n c,.func (.func fid) #[] fv] w λe w'=>e=.returned (.bool (l.any pr))/\ak w w':=by
 refine bM.aj ?_;refine (Ct h hn hm he pr hf).mono ?_;rintro e w' ⟨⟨r,rfl,hr⟩,g⟩;exact ⟨_,rfl,by rw [hr],g⟩
theorem KR (v:Value):(#[]++ #[v]++ #[]:Array Value)= #[v]:=by simp
end
section
def bU (l:Int):Bool:=decide (l≠0/\ -1048576<=l/\l<=1048576)
def jf (l:List Int):Bool:=l.all bU && decide (l.length<=4096)
theorem Kw (l:Int) (w:World):Calls prog zG.id #[.i l] w λe w'=>e=.returned (.bool (bU l))/\ak w w':=by
 refine zG.aj ?_;refine ah (λh1=>ah (λI=>⟨?_,aD.refl w⟩) (λI=>⟨?_,aD.refl w⟩)) (λh1=>⟨?_,aD.refl w⟩)
 . simp only [bne_iff_ne,ne_eq,decide_eq_true_eq,ge_iff_le] at h1 I;congr 2;unfold bU;exact decide_eq_decide.2 (by omega)
 . simp only [bne_iff_ne,ne_eq,decide_eq_false_iff_not,ge_iff_le] at h1 I;congr 2;unfold bU;exact (decide_eq_false (by omega)).symm
 . simp only [bne_eq_false_iff_eq] at h1;congr 2;unfold bU;exact (decide_eq_false (by omega)).symm
theorem Jt (l:Int) (w:World):Calls prog jz.id #[.i l] w λe w'=>e=.returned (.bool (!bU l))/\ak w w':=by
 refine jz.aj ?_;refine (Kw l w).mono ?_;rintro e w' ⟨rfl,g⟩;exact ⟨_,rfl,rfl,g⟩
theorem Fv:gH prog jz.id=true:=by kernel_rfl
theorem OE {l:List Int}:l.any (λx=> !bU x)= !l.all bU:=by
 induction l with
 |nil=>rfl
 |cons x l ih=>simp [ih]
theorem gj {p:sn} {n c:Nat} {l:List Int} {w:World} (h:Vw sT w p l) (hn:n=l.length) (hm:n<=maxLen):
 Calls prog pU.id #[.slice p n c] w λe w'=>e=.returned (.i (if jf l then 0 else 1))/\ak w w':=by
 refine pU.aj ?_;refine ah (λq=>⟨?_,aD.refl w⟩) (λq=>?_)<;>simp only [decide_eq_true_eq,decide_eq_false_iff_not] at q
 . have:jf l=false:=by unfold jf;rw [decide_eq_false (by omega)];simp
   rw [this];rfl
 . have hf:∀x∈l,∀w',ak w w'->Calls prog jz.id (#[]++ #[.i x]++ #[]) w' λe w2=>e=.returned (.bool (!bU x))/\ak w' w2:=λx _ w' _=>by
    rw [KR];exact Jt x w'
   refine (kj h hn hm Fv (λx=> !bU x) hf).mono ?_;rintro e w' ⟨rfl,g⟩;have:jf l=l.all bU:=by unfold jf;rw [decide_eq_true (by omega)];simp
   refine ⟨_,rfl,?_⟩;rw [OE,this];cases l.all bU
   . exact ⟨rfl,g⟩
   . exact ⟨rfl,g⟩
theorem yX {p q:sn} {n m c d:Nat} {l k:List Int} {w:World} (h:Vw sT w p l) (O:Vw sT w q k) (hn:n=l.length) (hm:m=k.length) (U:n<=maxLen):
 Calls prog hG.id #[.slice p n c,.slice q m d] w λe w'=>e=.returned (.bool (decide (l=k)))/\ak w w':=by
 refine hG.aj ?_;unfold maxLen at U;refine ah (λs=>⟨?_,aD.refl w⟩) (λs=>?_)
 . have s:(n:Int)≠m:=by simpa using s
   rw [decide_eq_false];intro e;subst e;omega
 . have s:(n:Int)=m:=by simpa using s
   have hl:k.length=l.length:=by omega
   refine ⟨λv w' j=>∃t:Nat,v=t/\t<=l.length/\j+t=l.length/\l.take t=k.take t/\ak w w',⟨l.length,0,rfl,by omega,rfl,rfl,aD.refl w⟩,?_⟩;rintro v Y j _ ⟨t,rfl,ht,X,ha,G⟩;refine ah (λq=>?_) (λq=>⟨?_,G⟩)<;>simp only [decide_eq_true_eq,decide_eq_false_iff_not] at q
   . have I:t<l.length:=by omega
     have J:t<k.length:=by omega
     refine ((h.grow G).drew).ix 0 (by omega) hn q λa e=>⟨_,e,((O.grow G).drew).ix 0 (by omega) hm (by omega) λa e=>⟨_,e,?_⟩⟩
     rw [tn];have V:l[t]? =some (l.getD t 0):=by simp [List.getD,I]
     have Q:k[t]? =some (k.getD t 0):=by simp [List.getD,J]
     refine ah (λs=>⟨?_,G.drew⟩) (λs=>⟨j - 1,by omega,t+1,?_,by omega,by omega,?_,G.drew⟩)
     . have s:l.getD t 0≠k.getD t 0:=by simpa using s
       rw [decide_eq_false];intro e;subst e;exact s rfl
     . rw [aA (by omega) (by omega)];omega
     . have s:l.getD t 0=k.getD t 0:=by simpa using s
       rw [UR,UR,ha,V,Q,s]
   . have:t=l.length:=by omega
     subst this;rw [K',<- hl,K'] at ha;rw [decide_eq_true ha]
end
end Go.Proofs.YtbdghpjnifjlmaaGreat.W
namespace Go.Fw
open Go Go.RowKit
section
variable {P:Program} {α:Type} {f:α->Value} {T T':TypeId} {w w':World} {p q:sn} {c:Nat} {l:List α}
structure Sl where
 p:sn
 n:Nat
 c:Nat
abbrev Sl.v (s:Sl):Value:=.slice s.p s.n s.c
def Sl.nil:Sl:=⟨none,0,0⟩
structure V2 (f:α->Value) (w:World) (p:sn) (hs:List Sl) (rows:List (List α)):Prop where
 h:Vw Sl.v w p hs
 n:hs.length=rows.length
 r:∀j,j<rows.length->(hs.getD j Sl.nil).n=(rows.getD j []).length/\(hs.getD j Sl.nil).n<=maxLen/\Vw f w (hs.getD j Sl.nil).p (rows.getD j [])
def Cm (p:sn) (hs:List Sl) (k:Nat):Prop:=aG p=some k\/∃h∈hs,aG h.p=some k
theorem V2.keep {S:Nat->Prop} {hs:List Sl} {rows:List (List α)} (h:V2 f w p hs rows) (m:aD S w w') (J:∀k,Cm p hs k->¬S k):V2 f w' p hs rows:=by
 refine ⟨h.h.keep m λk I=>J k (.inl I),h.n,λj O=>?_⟩;obtain ⟨h1,U,Q⟩:=h.r j O;refine ⟨h1,U,Q.keep m λk I=>J k (.inr ⟨_,?_,I⟩)⟩;have:j<hs.length:=by rw [h.n];exact O
 simp [List.getD,this]
theorem V2.grow {hs:List Sl} {rows:List (List α)} (h:V2 f w p hs rows) (m:ak w w'):V2 f w' p hs rows:=h.keep m λ_ _=>id
theorem V2.drew {hs:List Sl} {rows:List (List α)} (h:V2 f w p hs rows):V2 f w.drew p hs rows:=h.grow (aD.refl w).drew
theorem V2.nil:V2 f w p [] []:=⟨Vw.nil,rfl,λj I=>by simp at I⟩
theorem V2.ix {hs:List Sl} {rows:List (List α)} (h:V2 f w p hs rows) {i:Int} {n:Nat} (Q:0<=i) (hn:n=rows.length) (h1:i<n) {K:Addr->Prop}
 (U:∀a s,w.cell? a=some (.slice s.p s.n s.c)->s=hs.getD i.toNat Sl.nil->s.n=(rows.getD i.toNat []).length->s.n<=maxLen->Vw f w s.p (rows.getD i.toNat [])->K a):aW p n i 1 K:=by
 refine h.h.ix Sl.nil Q (by rw [h.n];exact hn) h1 λa e=>?_;obtain ⟨I,O,J⟩:=h.r i.toNat (by omega);exact U a _ e rfl I O J
theorem GU {s:Sh} {v:Value} (hr:∀v,J_ w (.sl s) v->∃p n c l,v=.slice p n c/\n=l.length/\n<=c/\c<=maxLen/\Vw f w p l) (h:J_ w (.sl (.sl s)) v):
 ∃p n c hs rows,v=.slice p n c/\n=rows.length/\n<=c/\c<=maxLen/\V2 f w p hs rows:=by
 rcases h with rfl| ⟨a,len,cap,rfl,h1,h2,h3⟩
 . exact ⟨none,0,0,[],[],rfl,rfl,y4 _,vx _,V2.nil⟩
 . have:∀i,∃x:Sl × List α,i<len->w.cell? (a.add i)=some x.1.v/\x.1.n=x.2.length/\x.1.n<=maxLen/\Vw f w x.1.p x.2:=by
    intro i;by_cases hi:i<len
    . obtain ⟨es,he,hc,U⟩:=h3 i hi;have hv:∃v,es= [v]/\J_ w (.sl s) v:=by
       rcases U with rfl| ⟨X,J,O,rfl,g⟩
       . exact ⟨_,rfl,.inl rfl⟩
       . exact ⟨_,rfl,.inr ⟨X,J,O,rfl,g⟩⟩
      obtain ⟨v,rfl,hv⟩:=hv;obtain ⟨p,n,c,l,rfl,Y,g2,Z,g4⟩:=hr v hv;refine ⟨(⟨p,n,c⟩,l),λ_=>⟨?_,Y,UY g2 Z,g4⟩⟩;have:=hc.1
      rwa [show Sh.size (.sl s)=1 from rfl,Wt,show (a.add i).add 0=a.add i by rw [uP,Ws]] at this
    . exact ⟨(Sl.nil,[]),λh=>absurd h hi⟩
   have V:∀ {β:Type} (g:Nat->β) (d:β) (j:Nat),j<len->((List.range len).map g).getD j d=g j:=by
    intro β g d j Q;simp [List.getD,Q]
   refine ⟨some a,len,cap,(List.range len).map λi=> (Classical.choose (this i)).1,(List.range len).map λi=> (Classical.choose (this i)).2,rfl,by simp,h1,h2,⟨λj Q=>⟨a,rfl,?_⟩,by simp,λj Q=>?_⟩⟩
   . have I:j<len:=by simpa using Q
     rw [(Xc (this j) I).1];simp
   . have I:j<len:=by simpa using Q
     rw [V _ _ _ I,V _ _ _ I];exact (Xc (this j) I).2
theorem ET {v:Value} (h:J_ w (.sl (.int .i64)) v):∃p n c l,v=.slice p n c/\n=l.length/\n<=c/\c<=maxLen/\Vw sT w p l:=by
 obtain ⟨p,n,c,l,h1,I,O,J,h5,_⟩:=FW h;exact ⟨p,n,c,l,h1,I,O,J,h5⟩
structure sE (f:α->Value) (T T':TypeId) (w:World) (p:sn) (c:Nat) (hs:List Sl) (rows:List (List α)):Prop where
 h:Ow Sl.v T w p c hs
 n:hs.length=rows.length
 r:∀j,j<rows.length->(hs.getD j Sl.nil).n=(rows.getD j []).length/\Ow f T' w (hs.getD j Sl.nil).p (hs.getD j Sl.nil).c (rows.getD j [])
 d0:∀j k,j<rows.length->aG (hs.getD j Sl.nil).p=some k->aG p≠some k
 d:∀i j k,i<rows.length->j<rows.length->i≠j->aG (hs.getD i Sl.nil).p=some k->aG (hs.getD j Sl.nil).p≠some k
theorem bN {hs:List Sl} {h:Sl} (hm:h∈hs):∃j,j<hs.length/\hs.getD j Sl.nil=h:=by
 obtain ⟨j,I⟩:=List.getElem?_of_mem hm;have hl:=(Vg.1 I).1;exact ⟨j,hl,by simp [List.getD,I]⟩
theorem sE.v2 {hs:List Sl} {rows:List (List α)} (h:sE f T T' w p c hs rows):V2 f w p hs rows:=
 ⟨h.h.vw,h.n,λj J=>by
   obtain ⟨h1,I⟩:=h.r j J;exact ⟨h1,by rw [h1];exact I.cap,I.vw⟩⟩
theorem sE.keep {S:Nat->Prop} {hs:List Sl} {rows:List (List α)} (h:sE f T T' w p c hs rows) (m:aD S w w') (J:∀k,Cm p hs k->¬S k):sE f T T' w' p c hs rows:=by
 refine ⟨h.h.keep m λk I=>J k (.inl I),h.n,λj O=>?_,h.d0,h.d⟩;obtain ⟨h1,Q⟩:=h.r j O;refine ⟨h1,Q.keep m λk I=>J k (.inr ⟨_,?_,I⟩)⟩;have:j<hs.length:=by rw [h.n];exact O
 simp [List.getD,this]
theorem sE.grow {hs:List Sl} {rows:List (List α)} (h:sE f T T' w p c hs rows) (m:ak w w'):sE f T T' w' p c hs rows:=h.keep m λ_ _=>id
theorem sE.lt {hs:List Sl} {rows:List (List α)} (h:sE f T T' w p c hs rows):∀k,Cm p hs k->k<w.heap.size:=by
 rintro k (J| ⟨s,I,J⟩)
 . exact h.h.lt k J
 . obtain ⟨j,O,rfl⟩:=bN I;exact (h.r j (by rw [<- h.n];exact O)).2.lt k J
theorem NL {β:Type} {l:List β} {i j:Nat} {x d:β} (hi:i<l.length):(l.set i x).getD j d=if j=i then x else l.getD j d:=by
 simp only [y6,VC];by_cases h:j=i
 . subst h;simp [hi]
 . rw [if_neg (λe=>h e.symm),if_neg h]
theorem vB {β:Type} {l:List β} {j:Nat} {x d:β}:(l++ [x]).getD j d=if j=l.length then x else l.getD j d:=by
 simp only [y6];by_cases h:j=l.length
 . subst h;simp
 . rw [if_neg h];by_cases I:j<l.length
   . rw [UT I]
   . rw [Vz (by simp;omega),Vz (by omega)]
theorem sE.lP {t ty bytes:Nat} (Z:nE P t T bytes=true) {hs:List Sl} {rows:List (List α)} (h:sE f T T' w p c hs rows) {b n:Nat} {s:Sl} {x:List α} (hb:bT w b #[s.v]) (hn:n=rows.length) (ho:Ow f T' w s.p s.c x) (aa:s.n=x.length)
 (X:∀k,aG s.p=some k->¬Cm p hs k) (hlen:(rows.length+1)* (bytes+1)<=140737488355328) {K:World->sn->Nat->Nat->Prop}
 (V:∀w' O c',sE f T T' w' O c' (hs++ [s]) (rows++ [x])->aD (λb=>aG p=some b) w w'->(O=p\/O=some ⟨w.heap.size,0,none⟩)->w.heap.size<=w'.heap.size->K w' O (rows.length+1) c'):
 ∃w',∃O n' c',(Builtin.append_ #[t,t] ty #[.slice p n c,.slice (some ⟨b,0,none⟩) 1 1]).run P w=.ok (.slice O n' c') w'/\K w' O n' c':=by
 refine h.h.lP Z s hb rfl (by rw [h.n];exact hn) (λ_=>rfl) (by rw [h.n];exact hlen) λw' O c' o m hp ag=>?_;rw [h.n];refine V w' O c' ⟨o,by simp [h.n],λj J=>?_,λj k J I Q=>?_,λi j k hi J ac h1 U=>?_⟩ m hp ag
 . rw [vB,vB,h.n];by_cases e:j=rows.length
   . rw [if_pos e,if_pos e];exact ⟨aa,ho.keep m λk V e=>X k V (.inl e)⟩
   . rw [if_neg e,if_neg e];have J:j<rows.length:=by simp at J;omega
     exact ⟨(h.r j J).1,(h.r j J).2.keep m λk V e=>h.d0 j k J V e⟩
 . rw [vB,h.n] at I;have ar:=h.lt;by_cases e:j=rows.length
   . rw [if_pos e] at I;rcases hp with rfl|rfl
     . exact X k I (.inl Q)
     . simp [aG] at Q;have:=ho.lt k I;omega
   . rw [if_neg e] at I;have J:j<rows.length:=by simp at J;omega
     rcases hp with rfl|rfl
     . exact h.d0 j k J I Q
     . simp [aG] at Q;have:=(h.r j J).2.lt k I;omega
 . rw [vB,h.n] at h1 U;have hi:i<=rows.length:=by simp at hi;omega
   have J:j<=rows.length:=by simp at J;omega
   have mem:∀i,i<rows.length->hs.getD i Sl.nil∈hs:=λi hi=>by
    have:i<hs.length:=by rw [h.n];exact hi
    simp [List.getD,this]
   by_cases e1:i=rows.length
   . by_cases Y:j=rows.length
     . omega
     . rw [if_pos e1] at h1;rw [if_neg Y] at U;exact X k h1 (.inr ⟨_,mem j (by omega),U⟩)
   . rw [if_neg e1] at h1;by_cases Y:j=rows.length
     . rw [if_pos Y] at U;exact X k U (.inr ⟨_,mem i (by omega),h1⟩)
     . rw [if_neg Y] at U;exact h.d i j k (by omega) (by omega) ac h1 U
end
section
variable {P:Program} {α:Type} {f:α->Value} {T:TypeId} {w w':World} {p q:sn} {c:Nat} {hs ns:List Sl} {rows nrows:List (List α)}
theorem Vw.mK {S:Nat->Prop} {l:List α} (h:Vw f w p l) (m:aD S w w') (hs:l≠[]->∀b,aG p=some b->¬S b):Vw f w' p l:=by
 by_cases hl:l= []
 . subst hl;exact Vw.nil
 . exact h.keep m (hs hl)
structure VR (f:α->Value) (w:World) (hs:List Sl) (rows:List (List α)):Prop where
 n:hs.length=rows.length
 r:∀j,j<rows.length->(hs.getD j Sl.nil).n=(rows.getD j []).length/\(hs.getD j Sl.nil).n<=maxLen/\Vw f w (hs.getD j Sl.nil).p (rows.getD j [])
def rB (hs:List Sl) (k:Nat):Prop:=∃h∈hs,0<h.n/\aG h.p=some k
theorem VR.keep {S:Nat->Prop} (h:VR f w hs rows) (m:aD S w w') (V:∀k,rB hs k->¬S k):VR f w' hs rows:=by
 refine ⟨h.n,λj J=>?_⟩;obtain ⟨h1,U,O⟩:=h.r j J;refine ⟨h1,U,O.mK m λI k Q=>V k ⟨_,?_,?_,Q⟩⟩
 . have:j<hs.length:=by rw [h.n];exact J
   simp [List.getD,this]
 . rw [h1];exact Vb.2 I
theorem VR.grow (h:VR f w hs rows) (m:ak w w'):VR f w' hs rows:=h.keep m λ_ _=>id
theorem VR.nil:VR f w [] []:=⟨rfl,λj I=>by simp at I⟩
theorem VR.lt (h:VR f w hs rows):∀k,rB hs k->k<w.heap.size:=by
 rintro k ⟨s,hm,I,O⟩;obtain ⟨j,Q,rfl⟩:=bN hm;obtain ⟨h1,U,J⟩:=h.r j (by rw [<- h.n];exact Q);exact J.lt (Vb.1 (by rw [<- h1];exact I)) k O
theorem tj {β:Type} {l k:List β} {j:Nat} {d:β}:(l++k).getD j d=if j<l.length then l.getD j d else k.getD (j - l.length) d:=by
 simp only [y6];by_cases h:j<l.length
 . rw [if_pos h,UT h]
 . rw [if_neg h,We (by omega)]
theorem VR.mA (h:VR f w hs rows) (k:VR f w ns nrows):VR f w (hs++ns) (rows++nrows):=by
 refine ⟨by simp [h.n,k.n],λj I=>?_⟩;rw [tj,tj,h.n];by_cases e:j<rows.length
 . rw [if_pos e,if_pos e];exact h.r j e
 . rw [if_neg e,if_neg e];exact k.r (j - rows.length) (by simp at I;omega)
theorem VR.bJ {s:Sl} {l:List α} (h:Vw f w s.p l) (hn:s.n=l.length) (hm:s.n<=maxLen):VR f w [s] [l]:=by
 refine ⟨rfl,λj I=>?_⟩;have:j=0:=by simpa using I
 subst this;exact ⟨hn,hm,h⟩
theorem VR.v2 (h:VR f w hs rows) (v:Vw Sl.v w p hs):V2 f w p hs rows:=⟨v,h.n,h.r⟩
theorem V2.vr (h:V2 f w p hs rows):VR f w hs rows:=⟨h.n,h.r⟩
structure OV (f:α->Value) (T:TypeId) (w:World) (p:sn) (c:Nat) (hs:List Sl) (rows:List (List α)):Prop where
 h:Ow Sl.v T w p c hs
 v:VR f w hs rows
 d:∀k,rB hs k->aG p≠some k
theorem OV.nil:OV f T w none 0 [] []:=⟨Ow.nil _ _ _,VR.nil,λk ⟨s,hs,_⟩=>by simp at hs⟩
def OV.cq (p:sn) (hs:List Sl) (k:Nat):Prop:=aG p=some k\/rB hs k
theorem OV.keep {S:Nat->Prop} (h:OV f T w p c hs rows) (m:aD S w w') (J:∀k,OV.cq p hs k->¬S k):OV f T w' p c hs rows:=
 ⟨h.h.keep m λk I=>J k (.inl I),h.v.keep m λk I=>J k (.inr I),h.d⟩
theorem OV.grow (h:OV f T w p c hs rows) (m:ak w w'):OV f T w' p c hs rows:=h.keep m λ_ _=>id
theorem OV.v2 (h:OV f T w p c hs rows):V2 f w p hs rows:=h.v.v2 h.h.vw
theorem sY {k:Nat}:rB (hs++ns) k↔rB hs k\/rB ns k:=by
 constructor
 . rintro ⟨s,hm,h⟩;rcases F'.1 hm with hm|hm
   . exact .inl ⟨s,hm,h⟩
   . exact .inr ⟨s,hm,h⟩
 . rintro (⟨s,hm,h⟩| ⟨s,hm,h⟩)
   . exact ⟨s,UW _ hm,h⟩
   . exact ⟨s,Vt _ hm,h⟩
theorem OV.mA {t ty bytes:Nat} (Q:nE P t T bytes=true) (h:OV f T w p c hs rows) {n m k:Nat} (hv:Vw Sl.v w q ns) (hr:VR f w ns nrows) (hn:n=hs.length) (hm:m=ns.length) (V:∀k,rB ns k->aG p≠some k)
 (hlen:(hs.length+ns.length)* (bytes+1)<=140737488355328) {K:World->sn->Nat->Nat->Prop}
 (O:∀w' J c',OV f T w' J c' (hs++ns) (rows++nrows)->aD (λb=>aG p=some b) w w'->(J=p\/J=some ⟨w.heap.size,0,none⟩)->w.heap.size<=w'.heap.size->K w' J (hs++ns).length c'):
 ∃w',∃J n' c',(Builtin.append_ #[t,t] ty #[.slice p n c,.slice q m k]).run P w=.ok (.slice J n' c') w'/\K w' J n' c':=by
 refine h.h.tD Q hv hn hm (λ_=>rfl) hlen λw' J c' o U hp X=>O w' J c' ⟨o,?_,?_⟩ U hp X
 . exact (h.v.keep U λk O e=>h.d k O e).mA (hr.keep U λk O e=>V k O e)
 . intro j I e;rcases hp with h1|h1<;>rw [h1] at e
   . rcases sY.1 I with I|I
     . exact h.d j I e
     . exact V j I e
   . have:j=w.heap.size:=by simp [aG] at e;exact e.symm
     rcases sY.1 I with I|I
     . have:=h.v.lt j I;omega
     . have:=hr.lt j I;omega
theorem bK {b i j:Nat} {cs:Array Value} {v:Value} (h:bT w b cs) (hv:cs[0+i+j]? =some v):w.cell? (((qw b).add i).add j)=some v:=by rw [dI,dI];exact aV h hv
theorem ju {b k j i:Nat} {cs:Array Value} {K:World->Prop} {vs:List Value} (h:bT w b cs) (hl:Nat.ble (0+k+j+i+vs.length) cs.size=true) (I:vs.all km=true)
 (J:∀w',bT w' b (wr cs (0+k+j+i) vs)->aD (·=b) w w'->K w'):∃w',bB (((qw b).add k).add j) i vs w w'/\K w':=by
 rw [dI,dI];exact bD h hl I J
theorem aL {n:Nat} {k:Nat} (h:aG (some ⟨n,0,none⟩)=some k):k=n:=by simp [aG] at h;exact h.symm
theorem jI.size {o:Obj} {n:Nat} (h:jI o w n w'):w'.heap.size=w.heap.size+1:=by rw [h.eq];simp
end
end Go.Fw
namespace Go.Proofs.YtbdghpjnifjlmaaGreat.W
open Go Go.Fw Go.RowKit
open Go.Proofs.Tryz (prog)
section
def bh (l:Int):Int:=if l<0 then -l else l
def cQ (k:Int) (cs:List (List Int)):Bool:=decide (0<=k/\k<=1048576/\cs.length<=262144) && cs.all λc=>jf c && c.all λl=>decide (bh l<=k)
theorem sO {l:Int} (h: -9223372036854775808<l) (I:l<9223372036854775808) (w:World):Calls prog iw.id #[.i l] w λe w'=>e=.returned (.i (bh l))/\ak w w':=by
 refine iw.aj ?_;unfold iw.w;rw [aA (x:=0 - l) (by omega) (by omega)];refine ⟨?_,aD.refl w⟩;unfold imax bh;congr 2;split<;>split<;>omega
theorem cJ {l:Int} (h:bU l=true):l≠0/\ -1048576<=l/\l<=1048576:=by simpa [bU] using h
theorem cy {c:List Int} (h:jf c=true):(∀l∈c,bU l=true)/\c.length<=4096:=by
 simp only [jf,ts,UK,decide_eq_true_eq] at h;exact h
theorem Oe {l:Int} (hl: -1048576<=l/\l<=1048576) {b:Nat} {k:Int} {v:Value} {w:World} (h:bT w b #[.i k,v]):
 Calls prog hZ.id #[.i l,.pointer (some ⟨b,0,none⟩)] w λe w'=>e=.returned (.bool (!decide (bh l<=k)))/\ak w w':=by
 refine hZ.aj ?_;have e0:(!decide (bh l<=k))=decide (bh l>k):=by
  by_cases h:bh l<=k
  . rw [decide_eq_true h,decide_eq_false (by omega)];rfl
  . rw [decide_eq_false h,decide_eq_true (by omega)];rfl
 rw [e0];refine ⟨?_,_,ae h.drew rfl,?_⟩
 . refine (sO (by omega) (by omega) _).mono ?_;rintro e w1 ⟨rfl,g⟩;exact ⟨_,rfl,_,ae (h.drew.grow g) rfl,rfl,(aD.refl w).drew.trans g⟩
 . refine (sO (by omega) (by omega) _).mono ?_;rintro e w1 ⟨rfl,g⟩;exact ⟨_,rfl,rfl,(aD.refl w).drew.trans g⟩
theorem L_:gH prog hZ.id=true:=by kernel_rfl
theorem QK (u v:Value):(#[]++ #[u]++ #[v]:Array Value)= #[u,v]:=by simp
theorem Om {k:Int} {l:List Int}:l.any (λx=> !decide (bh x<=k))= !l.all λx=>decide (bh x<=k):=by
 induction l with
 |nil=>rfl
 |cons x l ih=>rw [X8,Xq,ih,Bool.not_and]
theorem rV {α:Type} {l:List α} {q:α->Bool} {t:Nat} {d:α} (ht:t<l.length) (h:(l.take t).all q=true) (hq:q (l.getD t d)=true):(l.take (t+1)).all q=true:=by
 rw [UR,Xv,h];have:l[t]? =some (l.getD t d):=by simp [List.getD,ht]
 simp only [this,Wq,Xq,List.all_nil,hq,WZ]
theorem oG {α:Type} {l:List α} {q:α->Bool} {t:Nat} {d:α} (ht:t<l.length) (hq:q (l.getD t d)=false):l.all q=false:=by
 rw [<- U5,UK];intro h;rw [h _ (by simp [List.getD,ht])] at hq;cases hq
theorem L8 {w:World} {q:sn} {hs:List Sl} {cs:List (List Int)} (J:V2 sT w q hs cs) {m t:Nat} (hm:m=cs.length) (ht:t<cs.length) {K:Addr->Prop} (Q:∀a (s:Sl),w.cell? a=some (.slice s.p s.n s.c)->s=hs.getD t Sl.nil->s.n=(cs.getD t []).length->s.n<=maxLen->Vw sT w s.p (cs.getD t [])->K a):aW q m (t:Int) 1 K:=
 J.ix (by omega) hm (by omega) λa s e hs h1 O I=>Q a s e (by rw [tn] at hs;exact hs) (by rw [tn] at h1;exact h1) O (by rw [tn] at I;exact I)
theorem fS {w:World} {k:Int} {q:sn} {m d:Nat} {hs:List Sl} {cs:List (List Int)} (hc:V2 sT w q hs cs) (hm:m=cs.length):
 Calls prog lJ.id #[.agg #[.i k,.slice q m d]] w λe w'=>e=.returned (.i (if cQ k cs then 0 else 1))/\ak w w':=by
 subst hm;refine lJ.aj ?_;intro n1 w2 Y;have H:=Y.has;have pI:∀w',ak w w'->cQ k cs=false->(Ending.returned (.i 1)=.returned (.i (if cQ k cs=true then 0 else 1))/\ak w w'):=λw' g hf=>by rw [hf];exact ⟨rfl,g⟩
 have no: ¬(0<=k/\k<=1048576/\cs.length<=262144)->cQ k cs=false:=λh=>by unfold cQ;rw [decide_eq_false h,Xf]
 refine ⟨_,ae H rfl,ah (λs1=>pI _ Y.mod (no ?_)) (λs1=>⟨_,ae H rfl,ah (λs2=>pI _ Y.mod (no ?_)) (λs2=>⟨_,_,_,ae H rfl,ah (λs3=>pI _ Y.mod (no ?_)) (λs3=>⟨_,_,_,ae H rfl,?_⟩)⟩)⟩)⟩<;>simp only [decide_eq_true_eq,decide_eq_false_iff_not] at*
 . omega
 . omega
 . omega
 . have Q:cQ k cs=cs.all λc=>jf c && c.all λl=>decide (bh l<=k):=by unfold cQ;rw [decide_eq_true (by omega),VL]
   refine ⟨λv w' z=>∃t:Nat,v=t/\t<=cs.length/\((cs.take t).all λc=>jf c && c.all λl=>decide (bh l<=k))=true/\ak w2 w'/\z+t=cs.length,⟨_,0,rfl,vx _,rfl,aD.refl _,rfl⟩,?_⟩;rintro v ar z _ ⟨t,rfl,ht,ha,G,hz⟩;have G2:=Y.mod.trans G;refine ah (λs=>?_) (λs=>?_)<;>simp only [decide_eq_true_eq,decide_eq_false_iff_not] at s
   . have I:t<cs.length:=by omega
     refine L8 (hc.grow G2) rfl I λa s e _ X U hv=>⟨_,_,_,e,(gj hv X U).mono ?_⟩
     rintro e a6 ⟨rfl,J⟩;refine ⟨_,rfl,ah (λV=>pI _ (G2.trans J) ?_) (λV=>?_)⟩
     . rw [Q];refine oG (d:= []) I ?_;cases hh:jf (cs.getD t []) with
       |false=>rfl
       |true=>rw [hh] at V;simp at V
     . have O:jf (cs.getD t [])=true:=by
        cases hh:jf (cs.getD t []) with
        |false=>rw [hh] at V;simp at V
        |true=>rfl
       have ag:=(H.grow G).grow J;refine (kj (hv.grow J) X U L_ (λx=> !decide (bh x<=k)) λx hx w' g'=>?_).mono ?_
       . rw [QK];have:=cJ ((cy O).1 x hx);exact Oe this.2 (ag.grow g')
       . rintro e ay ⟨rfl,Z⟩;rw [Om];refine ⟨_,rfl,ah (λs5=>pI _ ((G2.trans J).trans Z) ?_) (λs5=>⟨z - 1,by omega,t+1,by rw [aA (by omega) (by omega)];omega,I,rV (d:= []) I ha ?_,(G.trans J).trans Z,by omega⟩)⟩
         . rw [Q];refine oG (d:= []) I ?_;rw [O,VL];simpa using s5
         . rw [O,VL];simpa using s5
   . have:t=cs.length:=by omega
     subst this;rw [K'] at ha;rw [Q,ha];exact ⟨rfl,G2⟩
end
section
theorem BZ (l:Int) (w:World):Calls prog iN.id #[.i l] w λe w'=>e=.returned (.bool (bU l))/\ak w w':=by
 refine iN.aj ?_;refine ah (λh1=>ah (λI=>⟨?_,aD.refl w⟩) (λI=>⟨?_,aD.refl w⟩)) (λh1=>⟨?_,aD.refl w⟩)
 . simp only [bne_iff_ne,ne_eq,decide_eq_true_eq,ge_iff_le] at h1 I;congr 2;unfold bU;exact decide_eq_decide.2 (by omega)
 . simp only [bne_iff_ne,ne_eq,decide_eq_false_iff_not,ge_iff_le] at h1 I;congr 2;unfold bU;exact (decide_eq_false (by omega)).symm
 . simp only [bne_eq_false_iff_eq] at h1;congr 2;unfold bU;exact (decide_eq_false (by omega)).symm
end
section
def iz (m:List Int) (l:Int):Int:=
 if bU l=false\/bh l>m.length then 0 else if m.getD (bh l - 1).toNat 0=0 then 0 else if decide (m.getD (bh l - 1).toNat 0>0)=decide (l>0) then 1 else -1
def FE (m:List Int) (c:List Int):Int:=if c.any λl=>decide (iz m l=1) then 1 else if c.any λl=>decide (iz m l=0) then 0 else -1
def gU (m:List Int) (cs:List (List Int)):Bool:=cs.all λc=>c.any λl=>decide (iz m l=1)
def ie:Nat->Nat->List Int
 |0,_=> []
 |k+1,n=> (if n % 2=1 then 1 else -1)::ie k (n / 2)
theorem ue:∀k n,(ie k n).length=k
 |0,_=>rfl
 |k+1,n=>by simp [ie,ue k]
theorem Cq:∀k n,∀x∈ie k n,x=1\/x= -1
 |0,_,x,h=>by simp [ie] at h
 |k+1,n,x,h=>by
  simp only [ie,UI] at h;rcases h with h|h
  . subst h;split<;>simp
  . exact Cq k _ x h
theorem G1 (m:List Int) (l:Int):iz m l=0\/iz m l=1\/iz m l= -1:=by
 unfold iz;split
 . simp
 . split
   . simp
   . split<;>simp
theorem jB {l:Int} (h: -9223372036854775808<l) (w:World) (I:l<9223372036854775808):Calls prog iI.id #[.i l] w λe w'=>e=.returned (.i (bh l))/\ak w w':=by
 refine iI.aj ?_;unfold bh;refine ah (λq=>⟨?_,aD.refl w⟩) (λq=>⟨?_,aD.refl w⟩)<;>simp only [decide_eq_true_eq,decide_eq_false_iff_not] at q
 . rw [if_pos q,aA (by omega) (by omega)];congr 2;omega
 . rw [if_neg q]
theorem xi {w:World} {p:sn} {n c:Nat} {m:List Int} (h:Vw sT w p m) (hn:n=m.length) (hm:n<=maxLen) (l:Int):
 Calls prog gh.id #[.slice p n c,.i l] w λe w'=>e=.returned (.i (iz m l))/\ak w w':=by
 subst hn;unfold maxLen at hm;refine gh.aj ?_;refine (BZ l w).mono ?_;rintro e w1 ⟨rfl,U⟩;unfold iz;refine ⟨_,rfl,ah (λq=>⟨?_,U⟩) (λq=>?_)⟩<;>simp only [Wc,X2] at q
 . rw [if_pos (.inl q)]
 have bd:=cJ q;have ba:1<=bh l/\bh l<=1048576:=by unfold bh;split<;>omega
 have wa:IntKind.i64.wrap (bh l - 1)=bh l - 1:=aA (by omega) (by omega);refine (jB (by omega) w1 (by omega)).mono ?_;rintro e w3 ⟨rfl,V⟩;refine ⟨_,rfl,ah (λX=>⟨?_,U.trans V⟩) (λX=>?_)⟩<;>simp only [decide_eq_true_eq,decide_eq_false_iff_not] at X
 . rw [if_pos (.inr (by omega))]
 rw [if_neg (by rintro (h1|h1);(rw [q] at h1;cases h1);omega)];refine (jB (by omega) w3 (by omega)).mono ?_;rintro e Z ⟨rfl,Y⟩;have I:=(U.trans V).trans Y;refine ⟨_,rfl,?_⟩;try dsimp only
 rw [wa];refine (h.grow I).ix 0 (by omega) rfl (by omega) λa e=>⟨_,e,ah (λJ=>⟨?_,I⟩) (λJ=>?_)⟩<;>simp only [beq_iff_eq,beq_eq_false_iff_ne] at J
 . rw [if_pos J]
 rw [if_neg J];refine (jB (by omega) Z (by omega)).mono ?_;rintro e w9 ⟨rfl,Q⟩;refine ⟨_,rfl,?_⟩;try dsimp only
 rw [wa];refine (h.grow (I.trans Q)).ix 0 (by omega) rfl (by omega) λa e=>⟨_,e,ah (λO=>⟨?_,I.trans Q⟩) (λO=>⟨?_,I.trans Q⟩)⟩<;>simp only [beq_iff_eq,beq_eq_false_iff_ne] at O
 . rw [if_pos O]
 . rw [if_neg O]
theorem D' {w:World} {p:sn} {n c:Nat} {m:List Int} (h:Vw sT w p m) (hn:n=m.length) (hm:n<=maxLen) (l:Int):
 Calls prog qe.id #[.slice p n c,.i l] w λe w'=>e=.returned (.i (iz m l))/\ak w w':=by
 subst hn;unfold maxLen at hm;refine qe.aj ?_;refine (Kw l w).mono ?_;rintro e w1 ⟨rfl,Q⟩;unfold iz;refine ⟨_,rfl,ah (λq=>⟨?_,Q⟩) (λq=>?_)⟩<;>simp only [Wc,X2] at q
 . rw [if_pos (.inl q)]
 have bd:=cJ q;have ba:1<=bh l/\bh l<=1048576:=by unfold bh;split<;>omega
 have wa:IntKind.i64.wrap (bh l - 1)=bh l - 1:=aA (by omega) (by omega);refine (sO (by omega) (by omega) w1).mono ?_;rintro e w3 ⟨rfl,U⟩;refine ⟨_,rfl,ah (λV=>⟨?_,Q.trans U⟩) (λV=>?_)⟩<;>simp only [decide_eq_true_eq,decide_eq_false_iff_not] at V
 . rw [if_pos (.inr (by omega))]
 rw [if_neg (by rintro (h1|h1);(rw [q] at h1;cases h1);omega)];refine (sO (by omega) (by omega) w3).mono ?_;rintro e Y ⟨rfl,X⟩;have O:=(Q.trans U).trans X;refine ⟨_,rfl,?_⟩;try dsimp only
 rw [wa];refine (h.grow O).ix 0 (by omega) rfl (by omega) λa e=>⟨_,e,ah (λI=>⟨?_,O⟩) (λI=>ah (λJ=>⟨?_,O⟩) (λJ=>⟨?_,O⟩))⟩<;>simp only [beq_iff_eq,beq_eq_false_iff_ne] at I
 . rw [if_pos I]
 . simp only [beq_iff_eq] at J;rw [if_neg I,if_pos J]
 . simp only [beq_eq_false_iff_ne] at J;rw [if_neg I,if_neg J]
theorem pL {α:Type} {l:List α} {q:α->Bool} {t:Nat} {d:α} (ht:t<l.length):(l.take (t+1)).any q=((l.take t).any q||q (l.getD t d)):=by
 rw [UR,List.any_append];have:l[t]? =some (l.getD t d):=by simp [List.getD,ht]
 simp only [this,Wq,X8,List.any_nil,X6]
theorem LB {α:Type} {l:List α} {q:α->Bool} {t:Nat} {d:α} (ht:t<l.length) (h:q (l.getD t d)=true):l.any q=true:=VI.2 ⟨_,by simp [List.getD,ht],h⟩
theorem A_ {w:World} {p q:sn} {n c k d:Nat} {m l:List Int} (h:Vw sT w p m) (hn:n=m.length) (hm:n<=maxLen) (hl:Vw sT w q l) (hk:k=l.length) (hx:k<=maxLen):
 Calls prog eX.id #[.slice p n c,.slice q k d] w λe w'=>e=.returned (.i (FE m l))/\ak w w':=by
 subst hk;unfold maxLen at hx;refine eX.aj ?_;refine ⟨λo v w' z=>∃t:Nat,v=t/\t<=l.length/\((l.take t).any λx=>decide (iz m x=1))=false/\(o=(l.take t).any λx=>decide (iz m x=0))/\ak w w'/\z+t=l.length,⟨_,0,rfl,vx _,rfl,rfl,aD.refl _,rfl⟩,?_⟩;rintro o v w6 z _ ⟨t,rfl,ht,h1,Q,G,hz⟩;refine ah (λs=>?_) (λs=>?_)<;>simp only [decide_eq_true_eq,decide_eq_false_iff_not] at s
 . have I:t<l.length:=by omega
   refine (hl.grow G).ix 0 (by omega) rfl s λa e=>⟨_,e,(xi (h.grow G) hn hm _).mono ?_⟩
   rw [tn];rintro e w9 ⟨rfl,Y⟩;have J:=G.trans Y;have V:((l.take (t+1)).any λx=>decide (iz m x=1))=((l.take t).any (λx=>decide (iz m x=1))||decide (iz m (l.getD t 0)=1)):=pL I;have n0:((l.take (t+1)).any λx=>decide (iz m x=0))=((l.take t).any (λx=>decide (iz m x=0))||decide (iz m (l.getD t 0)=0)):=pL I;refine ⟨_,rfl,ah (λO=>?_) (λO=>?_)⟩<;>simp only [beq_iff_eq,beq_eq_false_iff_ne] at O
   . refine ⟨?_,J⟩;unfold FE;rw [if_pos (LB (d:=0) I (decide_eq_true O))]
   . rw [h1,decide_eq_false O] at V;refine ah (λX=>?_) (λX=>?_)
     . refine ⟨z - 1,by omega,t+1,by rw [aA (by omega) (by omega)];omega,I,V,?_,J,by omega⟩;rw [n0,<- Q,X];rfl
     . refine (hl.grow J).ix 0 (by omega) rfl s λa e=>⟨_,e,(xi (h.grow J) hn hm _).mono ?_⟩
       rw [tn];rintro e Z ⟨rfl,U⟩;refine ⟨_,rfl,z - 1,by omega,t+1,by rw [aA (by omega) (by omega)];omega,I,V,?_,J.trans U,by omega⟩;rw [n0,<- Q,X,Xr];rw [Wm];simp
 . have:t=l.length:=by omega
   subst this;rw [K'] at h1 Q;unfold FE;rw [h1,if_neg (by simp),<- Q];refine ah (λs=>⟨?_,G⟩) (λs=>⟨?_,G⟩)
   . rw [s];rfl
   . rw [s];rfl
theorem D1 {m c:List Int}:FE m c=1↔(c.any λl=>decide (iz m l=1))=true:=by
 unfold FE;split
 . rename_i h;simp [h]
 . rename_i h;constructor
   . intro I;split at I<;>simp at I
   . intro I;exact absurd I h
theorem DI {w:World} {j:Int} {p q:sn} {n c k d:Nat} {m:List Int} {hs:List Sl} {cs:List (List Int)} (hc:V2 sT w q hs cs) (Z:k=cs.length) (hx:k<=maxLen) (h:Vw sT w p m) (hn:n=m.length) (hm:n<=maxLen):
 Calls prog dY.id #[.agg #[.i j,.slice q k d],.slice p n c] w λe w'=>e=.returned (.bool (gU m cs))/\ak w w':=by
 subst Z;unfold maxLen at hx;refine dY.aj ?_;intro n1 w2 X;have H:=X.has;refine ⟨λv w' z=>∃t:Nat,v=t/\t<=cs.length/\((cs.take t).all λc=>c.any λl=>decide (iz m l=1))=true/\ak w2 w'/\z+t=cs.length,⟨_,0,rfl,vx _,rfl,aD.refl _,rfl⟩,?_⟩;rintro v w7 z _ ⟨t,rfl,ht,ha,G,hz⟩;have Q:=X.mod.trans G;refine ⟨_,_,_,ae (H.grow G) rfl,ah (λs=>?_) (λs=>?_)⟩<;>simp only [decide_eq_true_eq,decide_eq_false_iff_not] at s
 . have I:t<cs.length:=by omega
   refine ⟨_,_,_,ae (H.grow G) rfl,L8 (hc.grow Q) rfl I λa sl e _ V U hv=>⟨_,_,_,e,(A_ (h.grow Q) hn hm hv V U).mono ?_⟩⟩;rintro e Y ⟨rfl,O⟩;refine ⟨_,rfl,ah (λJ=>⟨?_,Q.trans O⟩) (λJ=>⟨z - 1,by omega,t+1,by rw [aA (by omega) (by omega)];omega,I,rV (d:= []) I ha ?_,G.trans O,by omega⟩)⟩
   . have J:FE m (cs.getD t [])≠1:=by simpa using J
     have:gU m cs=false:=oG (d:= []) I (by
      rw [Ne,D1] at J;simpa using J)
     rw [this]
   . have J:FE m (cs.getD t [])=1:=by simpa using J
     exact D1.1 J
 . have:t=cs.length:=by omega
   subst this;rw [K'] at ha;refine ⟨?_,Q⟩;unfold gU;rw [ha]
end
section
theorem Iw {p:sn} {n c:Nat} {l:List Int} {w:World} (h:Vw sT w p l) (hn:n=l.length) (hm:n<=maxLen):
 Calls prog iF.id #[.slice p n c] w λe w'=>e=.returned (.bool (jf l))/\ak w w':=by
 refine iF.aj ?_;unfold maxLen at hm;refine ⟨λv w' k=>∃t:Nat,v=t/\t<=l.length/\k+t=l.length/\(l.take t).all bU=true/\ak w w',⟨l.length,0,rfl,by omega,rfl,rfl,aD.refl w⟩,?_⟩;rintro v O k _ ⟨t,rfl,ht,U,ha,G⟩;refine ah (λq=>?_) (λq=>?_)<;>simp only [decide_eq_true_eq,decide_eq_false_iff_not] at q
 . have J:t<l.length:=by omega
   refine (h.grow G).ix 0 (by omega) hn q λa e=>⟨_,e,?_⟩
   rw [tn];refine (BZ _ O).mono ?_;rintro e Q ⟨rfl,I⟩;refine ⟨_,rfl,ah (λs=>⟨?_,G.trans I⟩) (λs=>?_)⟩
   . have s:bU (l.getD t 0)=false:=by simpa using s
     have:l.all bU=false:=by
      rw [<- U5,UK];intro h;rw [h _ (zD J 0)] at s;cases s
     unfold jf;rw [this];rfl
   . have s:bU (l.getD t 0)=true:=by simpa using s
     refine ⟨k - 1,by omega,t+1,?_,by omega,by omega,?_,G.trans I⟩
     . rw [aA (by omega) (by omega)];omega
     . rw [UR,Xv,ha];have:l[t]? =some (l.getD t 0):=by simp [List.getD,J]
       simp only [this,Wq,Xq,List.all_nil,s,WZ]
 . refine ⟨?_,G⟩;have:t=l.length:=by omega
   subst this;rw [K'] at ha;unfold jf;rw [ha,VL];congr 2;exact decide_eq_decide.2 (by omega)
end
end Go.Proofs.YtbdghpjnifjlmaaGreat.W
namespace Go.Fw
open Go Go.RowKit
section
variable {P:Program} {α:Type} {sz:Nat} {f:α->List Value} {T:TypeId} {w w':World} {p q:sn} {c:Nat} {l:List α}
structure GV (sz:Nat) (f:α->List Value):Prop where
 len:∀x,(f x).length=sz
 pos:0<sz
 bJ:∀x,∀v∈f x,v.oneCell'=true
theorem j9 (hf:∀x,(f x).length=sz):∀l:List α,(l.flatMap f).length=l.length*sz
 | []=>by simp
 |x::l=>by simp only [Wz,UH,hf,j9 hf l,U9];rw [V',WM,XA]
theorem yZ (hf:∀x,(f x).length=sz):∀ (l:List α) (j i:Nat) (I:j<l.length),i<sz->(l.flatMap f)[j*sz+i]? =(f l[j])[i]?
 | [],j,i,I,_=>by simp at I
 |x::l,0,i,_,hi=>by
  simp only [Wz,Yb,UX,List.getElem_cons_zero];rw [UT (by rw [hf];exact hi)]
 |x::l,j+1,i,I,hi=>by
  simp only [Wz,List.getElem_cons_succ];rw [We (by rw [hf,V',WM];omega),hf,<- yZ hf l j i (by simpa using I) hi];congr 1;rw [V',WM];omega
theorem xI (hf:∀x,(f x).length=sz) (x:α):∀ (l:List α) (j:Nat),j<l.length->(l.flatMap f).take (j*sz)++f x++ (l.flatMap f).drop (j*sz+sz)=(l.set j x).flatMap f
 | [],j,hj=>by simp at hj
 |y::l,0,_=>by
  simp only [Wz,Yb,UX,Yg,Vh,List.set_cons_zero];rw [XQ (by rw [hf];exact y4 _),W9 (by rw [hf];exact y4 _),Vh]
 |y::l,j+1,hj=>by
  simp only [Wz,Xw];rw [<- xI hf x l j (by simpa using hj)];have e:(j+1)*sz=sz+j*sz:=by rw [V',WM,XA]
  rw [e,X_,List.drop_append,hf,UM (by rw [hf];omega),W9 (by rw [hf];omega),Vh];simp only [U6];congr 2
  . rw [show sz+j*sz - sz=j*sz by omega]
  . rw [show sz+j*sz+sz - sz=j*sz+sz by omega]
def Row (sz:Nat) (f:α->List Value) (T:TypeId) (w:World) (p:sn) (c:Nat) (l:List α):Prop:=w.ownsRow 0 T sz (.slice p l.length c) l.length (l.flatMap f)
theorem Row.nil (sz:Nat) (f:α->List Value) (T:TypeId) (w:World):Row sz f T w none 0 []:=World.ownsRow_nil w 0 T sz
theorem Row.un (h:Row sz f T w p c l):(p=none/\c=0/\l= [])\/∃g cur,p=some ⟨g,0,none⟩/\w.heap[g]? =some (.cells cur T (0,0))/\l.length<=c/\c<=maxLen/\cur.size=c*sz/\cur.toList.take (l.length*sz)=l.flatMap f:=by
 rcases h.2 with ⟨h1,I⟩| ⟨g,cap,cur,h1,_,I,Q,J,h5,O⟩
 . simp only [Value.slice.injEq] at h1;exact .inl ⟨h1.1,h1.2.2,UF I⟩
 . simp only [Value.slice.injEq] at h1;obtain ⟨rfl,_,rfl⟩:=h1;exact .inr ⟨g,cur,rfl,I,Q,J,h5,O⟩
theorem Row.df (hf:∀x,(f x).length=sz) {g:Nat} {cur:Array Value} (O:w.heap[g]? =some (.cells cur T (0,0))) (h1:l.length<=c) (J:c<=maxLen) (I:cur.size=c*sz) (Q:cur.toList.take (l.length*sz)=l.flatMap f):Row sz f T w (some ⟨g,0,none⟩) c l:=
 ⟨j9 hf l,.inr ⟨g,c,cur,rfl,vx _,O,h1,J,I,Q⟩⟩
theorem Row.lt (h:Row sz f T w p c l):∀b,aG p=some b->b<w.heap.size:=by
 intro b hb;rcases h.un with ⟨rfl,_⟩| ⟨g,cur,rfl,J,_⟩
 . simp [aG] at hb
 . simp [aG] at hb;subst hb;rcases UU g w.heap.size with I|I
   . exact I
   . simp [UQ I] at J
theorem Row.keep {S:Nat->Prop} (h:Row sz f T w p c l) (m:aD S w w') (hs:∀b,aG p=some b->¬S b):Row sz f T w' p c l:=by
 have hl:=h.lt;rcases h.un with ⟨rfl,rfl,rfl⟩| ⟨g,cur,rfl,Q,h1,I,O,J⟩
 . exact Row.nil sz f T w'
 . exact ⟨h.1,.inr ⟨g,c,cur,rfl,vx _,(m.block g (hl g rfl) (hs g rfl)).trans Q,h1,I,O,J⟩⟩
theorem Row.grow (h:Row sz f T w p c l) (m:ak w w'):Row sz f T w' p c l:=h.keep m λ_ _=>id
theorem Row.drew (h:Row sz f T w p c l):Row sz f T w.drew p c l:=h
def Vr (sz:Nat) (f:α->List Value) (w:World) (p:sn) (l:List α):Prop:=∀j (I:j<l.length),∃a,p=some a/\aK w (a.add (j*sz)) 0 (f l[j])
theorem aK.keep {S:Nat->Prop} (m:aD S w w') {a:Addr} (hs: ¬S a.block):∀ {vs:List Value} {i:Nat},aK w a i vs->aK w' a i vs
 | [],_,_=>trivial
 |_::_,_,⟨h1,h2⟩=>⟨dZ m h1 (by rw [cV];exact hs),aK.keep m hs h2⟩
theorem Vr.keep {S:Nat->Prop} (h:Vr sz f w p l) (m:aD S w w') (hs:∀b,aG p=some b->¬S b):Vr sz f w' p l:=by
 intro j I;obtain ⟨a,rfl,J⟩:=h j I;exact ⟨a,rfl,J.keep m (by rw [cV];exact hs _ rfl)⟩
theorem Vr.grow (h:Vr sz f w p l) (m:ak w w'):Vr sz f w' p l:=h.keep m λ_ _=>id
theorem Vr.drew (h:Vr sz f w p l):Vr sz f w.drew p l:=h.grow (aD.refl w).drew
theorem Vr.nil:Vr sz f w p []:=λj I=>by simp at I
theorem Row.vr (E:GV sz f) (h:Row sz f T w p c l):Vr sz f w p l:=by
 intro j J;rcases h.un with ⟨_,_,rfl⟩| ⟨g,cur,rfl,Q,h1,U,V,O⟩
 . simp at J
 . refine ⟨_,rfl,?_⟩;rw [dI,UX];refine aK.Hf λi v hi=>?_;have I:i<sz:=by rw [<- E.len l[j]];exact (Vg.1 hi).1
   rw [dI,UX];refine aV ⟨T,Q⟩ ?_;have e:(cur.toList.take (l.length*sz))[j*sz+i]? =some v:=by rw [O,yZ E.len l j i J I,hi]
   rw [Vf] at e;split at e
   . simpa using e
   . cases e
theorem Vr.ix (h:Vr sz f w p l) {i:Int} {n:Nat} (d:α) (I:0<=i) (hn:n=l.length) (h1:i<n) {K:Addr->Prop} (O:∀a,aK w a 0 (f (l.getD i.toNat d))->K a):aW p n i sz K:=by
 subst hn;obtain ⟨a,rfl,J⟩:=h i.toNat (by omega);refine ⟨_,rfl,I,h1,O _ ?_⟩;have:l.getD i.toNat d=l[i.toNat]'(by omega):=by simp [List.getD,show i.toNat<l.length by omega]
 rw [this];exact J
theorem yF:∀ (vs:List Value) (cs:Array Value) (o:Nat),o+vs.length<=cs.size->(wr cs o vs).toList=cs.toList.take o++vs++cs.toList.drop (o+vs.length)
 | [],cs,o,_=>by simp [wr]
 |v::vs,cs,o,h=>by
  simp only [U9] at h;rw [wr,yF vs _ (o+1) (by simp;omega)];simp only [Wd,U9];have h1:o<cs.toList.length:=by simp;omega
  have J:(cs.toList.set o v).take (o+1)=cs.toList.take o++ [v]:=by
   rw [UR,List.take_set_of_le (y4 _),List.getElem?_set_self h1];simp
  have I:(cs.toList.set o v).drop (o+1+vs.length)=cs.toList.drop (o+ (vs.length+1)):=by
   rw [List.drop_set_of_lt (by omega),show o+1+vs.length=o+ (vs.length+1) by omega]
  rw [J,I];simp
theorem u5:∀ (vs:List Value) (cs:Array Value) (o:Nat),(wr cs o vs).size=cs.size
 | [],_,_=>rfl
 |v::vs,cs,o=>by rw [wr,u5 vs];simp
theorem yn {b off:Nat} {cs:Array Value} {t:TypeId} {K:World->Prop}:∀ {vs:List Value} {i:Nat},w.heap[b]? =some (.cells cs t)->off+i+vs.length<=cs.size->vs.all km=true->
 (∀w',w'.heap[b]? =some (.cells (wr cs (off+i) vs) t)->aD (·=b) w w'->w'.heap.size=w.heap.size->K w')->∃w',bB ⟨b,off,none⟩ i vs w w'/\K w':=by
 intro vs
 induction vs generalizing w cs with
 |nil=>intro i h _ _ I;exact ⟨w,rfl,I w h (aD.refl w) rfl⟩
 |cons v vs U=>
  intro i h hl O I;simp only [U9,Xq,ts] at hl O;have V:(w.setCell ⟨b,off+i,none⟩ v).heap[b]? =some (.cells (cs.setIfInBounds (off+i) v) t):=y9 h v (by omega);have hm:aD (·=b) w (w.setCell ⟨b,off+i,none⟩ v):=⟨rfl,rfl,rfl,by simp,λk _ I=>Below.heap_setCell w _ v k I⟩
  obtain ⟨w',Q,J⟩:=U (i:=i+1) V (by simp;omega) O.2 λw' h1 Y X=>I w' (by simpa only [wr,WL] using h1) (hm.trans Y) (by rw [X];simp);refine ⟨w',⟨⟨cs[off+i]'(by omega),ae ⟨t,h⟩ (by simp [show off+i<cs.size by omega])⟩,by rw [dI];exact tw ⟨t,h⟩,O.1,by rw [dI];exact Q⟩,J⟩
theorem EH {I vs:List Value} {o n:Nat} (h:o+vs.length<=n) (hn:n<=I.length):(I.take o++vs++I.drop (o+vs.length)).take n=(I.take n).take o++vs++ (I.take n).drop (o+vs.length):=by
 apply VO;intro j;simp only [Vf,Xl,UH,GD,VX];repeat' split
 all_goals first
  |rfl
  |omega
  | (congr 1;omega)
theorem Row.st (E:GV sz f) (h:Row sz f T w p c l) {i:Int} {n:Nat} (x:α) {vs:List Value} (hv:vs=f x) (Z:vs.all km=true) (V:0<=i) (hn:n=l.length) (h1:i<n) {K:World->Prop}
 (hk:∀w',Row sz f T w' p c (l.set i.toNat x)->aD (λb=>aG p=some b) w w'->K w'):aW p n i sz λa=>∃w',bB a 0 vs w w'/\K w':=by
 subst hn hv;rcases h.un with ⟨_,_,rfl⟩| ⟨g,cur,rfl,U,J,Y,X,h5⟩
 . simp at h1;omega
 . refine ⟨_,rfl,V,h1,?_⟩;rw [dI,UX];have hb:i.toNat*sz+sz<=l.length*sz:=by
    have:(i.toNat+1)*sz<=l.length*sz:=Vm _ (by omega)
    rwa [V',WM] at this
   have Q:l.length*sz<=c*sz:=Vm _ J;have I:=E.len x;refine yn (cs:=cur) U (by rw [I];omega) Z λw' O m _=>hk w' ?_ (m.mono λk _ e=>by simp [aG,e]);refine Row.df E.len O (by simpa using J) Y (by rw [u5];exact X) ?_;rw [VT,Ws,yF _ _ _ (by rw [I];omega),EH (by rw [I];omega) (by simp;omega),I,h5,xI E.len x l i.toNat (by omega)]
theorem EB (hf:∀x,(f x).length=sz) {x:α} {v:Value} {o:Nat} (J:o<sz):∀ (l:List α) (j:Nat) (I:j<l.length),f x=(f l[j]).set o v->(l.flatMap f).set (j*sz+o) v=(l.set j x).flatMap f
 | [],j,I,_=>by simp at I
 |y::l,0,_,hx=>by
  simp only [List.getElem_cons_zero] at hx;simp only [Wz,Yb,UX,List.set_cons_zero];rw [List.set_append_left _ _ (by rw [hf];exact J),hx]
 |y::l,j+1,I,hx=>by
  simp only [List.getElem_cons_succ] at hx;simp only [Wz,Xw];rw [<- EB hf J l j (by simpa using I) hx];have e:(j+1)*sz=sz+j*sz:=by rw [V',WM,XA]
  rw [e,List.set_append_right _ _ (by rw [hf];omega),hf];congr 2;omega
theorem Row.Um (E:GV sz f) (h:Row sz f T w p c l) {i:Int} {n o:Nat} {v:Value} (d x:α) (J:f x=(f (l.getD i.toNat d)).set o v) (I:o<sz) (ho:km v=true) (X:0<=i) (hn:n=l.length) (h1:i<n) {K:World->Prop}
 (hk:∀w',Row sz f T w' p c (l.set i.toNat x)->aD (λb=>aG p=some b) w w'->K w'):aW p n i sz λa=>∃w',bB (a.add o) 0 [v] w w'/\K w':=by
 subst hn;rcases h.un with ⟨_,_,rfl⟩| ⟨g,cur,rfl,V,O,Z,Y,h5⟩
 . simp at h1;omega
 . refine ⟨_,rfl,X,h1,?_⟩;rw [dI,UX];show ∃w',bB ((Addr.mk g (i.toNat*sz) none).add o) 0 [v] w w'/\K w';rw [dI];have hb:i.toNat*sz+sz<=l.length*sz:=by
    have:(i.toNat+1)*sz<=l.length*sz:=Vm _ (by omega)
    rwa [V',WM] at this
   have U:l.length*sz<=c*sz:=Vm _ O;refine yn (cs:=cur) V (by simp;omega) (by simp [ho]) λw' Q m _=>hk w' ?_ (m.mono λk _ e=>by simp [aG,e]);refine Row.df E.len Q (by simpa using O) Z (by rw [u5];exact Y) ?_;have hl:i.toNat<l.length:=by omega
   have e1:(l.getD i.toNat d)=l[i.toNat]:=by simp [List.getD,hl]
   rw [e1] at J;rw [VT,<- EB E.len I l i.toNat hl J,<- h5,Ws];simp only [wr,Wd,Yh]
def pR (P:Program) (t e:TypeId) (sz bytes:Nat):Bool:=
 (match P.underlying t with|some (.slice I)=>Nat.beq I e|_=>false) && (match P.info? e with|some i=>Nat.beq i.size sz && Nat.beq i.bytes bytes && (match i.zero with|some z=>Nat.beq z.cells.size sz|none=>false)|none=>false)
theorem tY {t e bytes:Nat} (h:pR P t e sz bytes=true):P.underlying t=some (.slice e)/\∃i z,P.info? e=some i/\i.zero=some z/\i.size=sz/\i.bytes=bytes/\z.cells.size=sz:=by
 simp only [pR,ts] at h;obtain ⟨h1,I⟩:=h;split at h1
 . rename_i J he;have:J=e:=UG h1;subst this;split at I
   . rename_i i hi;simp only [ts] at I;obtain ⟨⟨U,O⟩,h5⟩:=I;split at h5
     . rename_i z Q;exact ⟨he,i,z,hi,Q,UG U,UG O,UG h5⟩
     . simp at h5
   . simp at I
 . simp at h1
theorem Vr.Rr (E:GV sz f) {a:Addr} (h:Vr sz f w (some a) l):∀j u,(l.flatMap f)[j]? =some u->w.cell? (a.add j)=some u:=by
 intro j u J;have I:j<l.length*sz:=by rw [<- j9 E.len l];exact (Vg.1 J).1
 have O:j / sz<l.length:=(Nat.div_lt_iff_lt_mul E.pos).2 I;have hm:=Nat.mod_lt j E.pos;have e:j=j / sz*sz+j % sz:=by rw [XB];exact (Nat.div_add_mod j sz).symm
 obtain ⟨U,ha,Q⟩:=h (j / sz) O;simp only [U4] at ha;subst ha;rw [e,yZ E.len l _ _ O hm] at J;have:=Q.get (j % sz) u J;rw [uP,UX,<- e] at this;exact this
theorem Row.mA {t ty e bytes:Nat} (E:GV sz f) (hs:pR P t e sz bytes=true) (h:Row sz f e w p c l) {news:List α} {m k n:Nat} (h2:Vr sz f w q news) (hn:n=l.length) (hm:m=news.length)
 (hlen:(l.length+news.length)* (bytes+1)<=140737488355328) {K:World->sn->Nat->Nat->Prop}
 (V:∀w' Y c',Row sz f e w' Y c' (l++news)->aD (λb=>aG p=some b) w w'->(Y=p\/Y=some ⟨w.heap.size,0,none⟩)->w.heap.size<=w'.heap.size->K w' Y (l++news).length c'):
 ∃w',∃Y n' c',(Builtin.append_ #[t,t] ty #[.slice p n c,.slice q m k]).run P w=.ok (.slice Y n' c') w'/\K w' Y n' c':=by
 obtain ⟨ht,i,z,hi,hz,h1,ag,h3⟩:=tY hs;subst hn hm;rcases UZ news.length with h0|X
 . have:news= []:=UF h0;subst this;refine ⟨w,p,l.length,c,?_,?_⟩
   . rcases h.un with ⟨rfl,rfl,rfl⟩| ⟨g,cur,rfl,hg,g1,g2,g3,g4⟩<;>cases q<;>
      simp [Builtin.append_,run_underlying ht,sizeOf,typeInfo,Builtin.lenOf,Builtin.firstCells,loadCells,loadCellsFrom,storeCells, *]
   . have:=V w p c (by simpa using h) (aD.refl w) (.inl rfl) (y4 _);simpa using this
 . obtain ⟨a,rfl,_⟩:=h2 0 X;have hb:(l.length+news.length)*bytes<=140737488355328:=UY (WC _ (Nat.le_succ _)) hlen;have ar:l.length+news.length<=140737488355328:=UY (Xy _ (Nat.succ_pos _)) hlen;have J:(l++news).length=l.length+news.length:=by simp
   have U:=j9 E.len l;have I:=j9 E.len news;have aa:(news.flatMap f).length=news.length*i.size:=by rw [I,h1]
   have Z:=h2.Rr E;have ac:∀u∈news.flatMap f,u.oneCell'=true:=λu hu=>by obtain ⟨x,_,hx⟩:=List.mem_flatMap.1 hu;exact E.bJ x u hx
   have Q:l.length*sz+news.length*sz=(l.length+news.length)*sz:=(V' _ _ _).symm;have cW:∀vY,Row sz f e (w.drew.alloc (.cells ((l.flatMap f).toArray++ (news.flatMap f).toArray++Builtin.zeroCells z.cells (grownCap w (l.length+news.length) vY e - (l.length+news.length))) e))
    (some ⟨w.heap.size,0,none⟩) (grownCap w (l.length+news.length) vY e) (l++news):=by
    intro vY;have a7:=grownCap_ge w (l.length+news.length) vY e;have an:grownCap w (l.length+news.length) vY e<=maxLen:=grownCap_le_maxLen w _ vY e (by simp only [maxLen];omega);refine Row.df E.len (cur:=(l.flatMap f).toArray++ (news.flatMap f).toArray++Builtin.zeroCells z.cells (grownCap w (l.length+news.length) vY e - (l.length+news.length))) Xt (by omega) an ?_ ?_
    . simp only [Array.size_append,Wb,size_zeroCells,h3,U,I,Q];rw [<- V'];congr 1;omega
    . simp only [Array.toList_append,WE];rw [J,<- Q,UO (by simp [U,I]),UM (by simp [U,I])]
   have gr:∀ (o:Obj),aD (λb=>aG p=some b) w (w.drew.alloc o):=λo=>⟨rfl,rfl,rfl,by simp,λk V _=>Below.heap_alloc w.drew o k V⟩
   rcases h.un with ⟨rfl,rfl,rfl⟩| ⟨g,cur,rfl,hg,g1,g2,g3,g4⟩
   . have hr:=run_append_nil (P:=P) w t ty e i z ht hi hz a news.length k (news.flatMap f) aa Z X (by simp at ar;omega) (by rw [ag];simp at hb;omega);have hf:=cW 0;simp only [VE,UX,List.flatMap_nil,Vh] at hf hr J V ⊢;refine ⟨_,_,_,_,hr,?_⟩;exact V _ _ _ (by simpa using hf) (gr _) (.inr rfl) (by simp)
   . by_cases O:l.length+news.length<=c
     . have ap:l.length*sz+news.length*sz<=cur.size:=by rw [Q,g3];exact Vm _ O
       have hr:=run_append_room (P:=P) w t ty e i ht hi g l.length c cur hg a news.length k (news.flatMap f) aa Z ac O (by rw [h1,I];exact ap);refine ⟨_,_,_,_,hr,?_⟩;rw [<- J];refine V _ _ _ (Row.df E.len (setRow_heap w g cur _ e _ hg) (by omega) g2 ?_ ?_) ⟨rfl,rfl,rfl,by simp,λk _ V=>setRow_other w g k _ λhe=>V (by simp [aG,he])⟩ (.inl rfl) (by simp)
       . simp only [Wb,UH,GD,U0,WB,I,h1];omega
       . rw [J,h1,WE,<- Q,<- g4];rw [UO (by simp [I];omega),UM (by simp [I];omega)]
     . have hr:=run_append_grow (P:=P) w t ty e i z ht hi hz ⟨g,0,none⟩ l.length c (l.flatMap f) (by rw [U,h1]) ((Row.vr E h).Rr E) a news.length k (news.flatMap f) aa Z (by omega) (by omega) (growslice_fits (by omega) (by rw [ag];exact hb));refine ⟨_,_,_,_,hr,?_⟩;rw [<- J];exact V _ _ _ (by rw [J];exact cW c) (gr _) (.inr rfl) (by simp)
end
section
variable {P:Program} {α:Type} {f:α->Value} {T:TypeId} {w w':World} {p:sn} {c:Nat} {l:List α}
theorem Ow.clear {t ty e bytes:Nat} (hs:nE P t e bytes=true) {x:α} {v:Value} (J:(P.info? e).bind (·.zero)=some v) (hv:v.cells= #[f x]) (ho:(f x).oneCell'=true) (h:Ow f e w p c l) {k m d:Nat} (hk:k+m=l.length) (hm:0<m) {K:World->Prop}
 (Z:∀w',Ow f e w' p c (l.take k)->aD (λb=>aG p=some b) w w'->K w'):
 ∃w',(Builtin.clear_ #[t] ty #[.slice (p.map (·.add (k*1))) m d]).run P w=.ok (.tuple #[]) w'/\K w':=by
 obtain ⟨ht,i,z,hi,I,h1,hb,h3⟩:=nH hs;have O:z=v:=by simp only [hi,V8] at J;rw [I] at J;exact Vo J
 subst O;rcases h.un with ⟨rfl,rfl,rfl⟩| ⟨g,cur,rfl,hg,g1,g2,Y,g4⟩
 . simp at hk;omega
 . have Q:(Builtin.zeroCells z.cells m).toList=List.replicate m (f x):=by
    rw [hv];simp [Builtin.zeroCells];apply VH
    . simp
    . intro i h1 h2;simp [Nat.mod_one]
   obtain ⟨w2,V,hh⟩:=yn (b:=g) (off:=0+k*1) (i:=0) (vs:=List.replicate m (f x)) (K:=λw'=>∃X:World,X=w'/\w'.heap[g]? =some (.cells (wr cur (0+k*1+0) (List.replicate m (f x))) e (0,0))/\aD (·=g) w w') hg (by simp;omega) (by
    rw [UK];intro u hu;rw [List.eq_of_mem_replicate hu];exact ho) λw' a1 a2 _=>⟨w',rfl,a1,a2⟩
   obtain ⟨_,_,a1,a2⟩:=hh;refine ⟨w2,?_,Z w2 ?_ (a2.mono λb _ hb=>by subst hb;rfl)⟩
   . have hr:=jw (P:=P) ⟨g,0+k*1,none⟩ _ _ _ _ V;obtain ⟨m,rfl⟩: ∃n,m=n+1:=⟨m - 1,by omega⟩
     have U:(zeroValue e:Sem Value).run P w=.ok z w:=by
      simp [zeroValue,typeInfo,hi,I,Sem.run_bind]
     simp only [Wj,dI];rw [UX,Wt] at hr;simp [Builtin.clear_,run_underlying ht,U,Q,hr]
   . have hw:(wr cur (0+k*1+0) (List.replicate m (f x))).toList=cur.toList.take k++List.replicate m (f x)++cur.toList.drop (k+m):=by
      rw [yF _ _ _ (by simp;omega)];simp
     refine Ow.df a1 (by simp;omega) g2 (by rw [u5];exact Y) ?_;rw [hw,GD,U7 (by omega),U6,UO (by simp;omega),Wu,Nat.min_self,WX,<- g4,Wu,U7 (by omega)]
end
end Go.Fw
namespace Go.Proofs.YtbdghpjnifjlmaaGreat.W
open Go Go.Fw Go.RowKit Go.SoP Go.LiP
open Go.Proofs.Tryz (prog)
variable {w:World} {p q:sn} {n c:Nat} {l:List Int}
theorem c9:nE prog aE aq 8=true:=by kernel_rfl
theorem jx:(Tryz.prog.info? aq).bind (·.zero)=some (.i 0):=by kernel_rfl
theorem rQ (l:Int):bh l=am l:=rfl
theorem Ff {x:Int} (h:bU x=true):1<=am x/\am x<=1048576:=by
 have:=cJ h;unfold am;split<;>omega
theorem x_ {l:Int} (h: -9223372036854775808<l) (I:l<9223372036854775808) (w:World):Calls prog iw.id #[.i l] w λe w'=>e=.returned (.i (bh l))/\xu w w':=by
 refine iw.aj ?_;unfold iw.w;rw [aA (x:=0 - l) (by omega) (by omega)];refine ⟨?_,xu.refl w⟩;unfold imax bh;congr 2;split<;>split<;>omega
theorem IM {x y:Int} (O:bU x=true) (I:bU y=true) (w:World):Calls prog jv.id #[.i x,.i y] w λe w'=>e=.returned (.i (pN x y))/\xu w w':=by
 refine jv.aj ?_;have Y:=cJ O;have bY:=cJ I;have ax:=Ff O;have ay:=Ff I;refine (x_ (l:=x) (by omega) (by omega) w).mono ?_;rintro e w1 ⟨rfl,Q⟩;refine ⟨_,rfl,(x_ (l:=y) (by omega) (by omega) w1).mono ?_⟩;rintro e w2 ⟨rfl,X⟩;rw [rQ,rQ];have J:=Q.trans X;refine ⟨_,rfl,ah (λs=>?_) (λs=>⟨?_,J⟩)⟩
 . have s:am x≠am y:=by simpa using s
   refine (x_ (l:=x) (by omega) (by omega) w2).mono ?_;rintro e w3 ⟨rfl,U⟩;refine ⟨_,rfl,(x_ (l:=y) (by omega) (by omega) w3).mono ?_⟩;rintro e Z ⟨rfl,V⟩;rw [rQ,rQ];refine ⟨_,rfl,?_,(J.trans U).trans V⟩;unfold pN;rw [if_pos s,aA (by omega) (by omega)]
 . have s: ¬am x≠am y:=by simpa using s
   unfold pN;rw [if_neg s,aA (by omega) (by omega)]
theorem GF:gH prog jv.id=true:=by kernel_rfl
theorem Ng {x y:Int} (Z:bU x=true) (Y:bU y=true) (w:World):Calls prog gi.id #[.i x,.i y] w λe w'=>e=.returned (.bool (decide (pN x y<0)))/\ak w w':=by
 refine gi.aj ?_;have bx:=cJ Z;have bY:=cJ Y;refine (jB (l:=x) (by omega) w (by omega)).mono ?_;rintro e w1 ⟨rfl,Q⟩;refine ⟨_,rfl,(jB (l:=y) (by omega) w1 (by omega)).mono ?_⟩;rintro e w2 ⟨rfl,X⟩;rw [rQ,rQ];have O:=Q.trans X;refine ⟨_,rfl,ah (λs=>⟨?_,O⟩) (λs=>?_)⟩
 . have s:am x<am y:=by simpa using s
   unfold pN;rw [if_pos (by omega),decide_eq_true (by omega)]
 have s: ¬am x<am y:=by simpa using s
 refine (jB (l:=x) (by omega) w2 (by omega)).mono ?_;rintro e w3 ⟨rfl,U⟩;refine ⟨_,rfl,(jB (l:=y) (by omega) w3 (by omega)).mono ?_⟩;rintro e w4 ⟨rfl,V⟩;rw [rQ,rQ];have J:=(O.trans U).trans V;refine ⟨_,rfl,ah (λI=>⟨?_,J⟩) (λI=>⟨?_,J⟩)⟩
 . have I:am x=am y:=by simpa using I
   unfold pN;rw [if_neg (by omega)];congr 2;exact decide_eq_decide.2 (by omega)
 . have I:am x≠am y:=by simpa using I
   unfold pN;rw [if_pos I,decide_eq_false (by omega)]
theorem dJ {t:Nat} {x:Int} (h:t<l.length):x∈l.take (t+1)↔x∈l.take t\/x=l.getD t 0:=by
 rw [UR,F'];have:l[t]? =some (l.getD t 0):=by simp [List.getD,h]
 rw [this];simp
theorem bN {t:Nat} (h:t<l.length):l.getD t 0∈l:=by simp [List.getD,h]
theorem y_ (h:Vw sT w p l) (hn:n=l.length) (hm:n<=maxLen) (x:Int):Calls prog iL.id #[.slice p n c,.i x] w λe w'=>e=.returned (.bool (decide (x∈l)))/\ak w w':=by
 refine iL.aj ?_;unfold maxLen at hm;refine ⟨λI w' k=>∃t:Nat,I=t/\t<=l.length/\k=l.length - t/\x ∉ l.take t/\ak w w',⟨_,0,rfl,vx _,rfl,by simp,aD.refl w⟩,?_⟩;rintro I w1 k _ ⟨t,rfl,ht,rfl,ha,G⟩;refine ah (λs=>?_) (λs=>⟨?_,G⟩)
 . have s:t<l.length:=by simp at s;omega
   refine (h.grow G).ix 0 (by omega) hn (by omega) λa e=>⟨_,e,?_⟩
   rw [tn];refine ah (λJ=>⟨?_,G⟩) (λJ=>⟨_,?_,t+1,wN,by omega,rfl,?_,G⟩)
   . have J:l.getD t 0=x:=by simpa using J
     rw [decide_eq_true (by rw [<- J];exact bN s)]
   . omega
   . have J:l.getD t 0≠x:=by simpa using J
     rw [dJ s];rintro (e|e)
     . exact ha e
     . exact J e.symm
 . have:t=l.length:=by simp at s;omega
   subst this;rw [K'] at ha;rw [decide_eq_false ha]
theorem KH (h:Vw sT w p l) (hn:n=l.length) (hm:n<=maxLen) (x:Int):Calls prog dQ.id #[.slice p n c,.i x] w λe w'=>∃r:Int,e=.returned (.i r)/\(r>=0↔x∈l)/\ak w w':=by
 refine dQ.aj ?_;unfold maxLen at hm;refine ⟨λI w' k=>∃t:Nat,I=t/\t<=l.length/\k=l.length - t/\x ∉ l.take t/\ak w w',⟨_,0,rfl,vx _,rfl,by simp,aD.refl w⟩,?_⟩;rintro I w1 k _ ⟨t,rfl,ht,rfl,ha,G⟩;refine ah (λs=>?_) (λs=>⟨-1,rfl,?_,G⟩)
 . have s:t<l.length:=by simp at s;omega
   refine (h.grow G).ix 0 (by omega) hn (by omega) λa e=>⟨_,e,?_⟩
   rw [tn];refine ah (λJ=>⟨(t:Int),rfl,?_,G⟩) (λJ=>⟨_,?_,t+1,wN,by omega,rfl,?_,G⟩)
   . have J:x=l.getD t 0:=by simpa using J
     exact ⟨λ_=>by rw [J];exact bN s,λ_=>by omega⟩
   . omega
   . have J:x≠l.getD t 0:=by simpa using J
     rw [dJ s];rintro (e|e)
     . exact ha e
     . exact J e
 . have:t=l.length:=by simp at s;omega
   subst this;rw [K'] at ha;exact ⟨λh=>by omega,λh=>absurd h ha⟩
theorem xE (h:Vw sT w p l) (hn:n=l.length) (hm:n<=maxLen) (x:Int):Calls prog c5.id #[.slice p n c,.i x] w λe w'=>e=.returned (.bool (decide (x∈l)))/\ak w w':=by
 refine c5.aj ?_;refine (KH h hn hm x).mono ?_;rintro e w1 ⟨r,rfl,hr,I⟩;exact ⟨_,rfl,by rw [decide_eq_decide.2 hr],I⟩
theorem wK (u v:Value):(#[]++ #[u]++ #[v]:Array Value)= #[u,v]:=by simp
theorem iQ (h:Vw sT w p l) (hn:n=l.length) (hm:n<=1000000):Calls prog dL.id #[.slice p n c] w λe w'=>∃ (q:sn) (d:Nat),e=.returned (.slice q l.length d)/\dz aq w' q d l/\ak w w'/\(∀b,aG q=some b->w.heap.size<=b):=by
 refine dL.aj ?_;refine ah (λs=>?_) (λs=>?_)
 . have hp:p=none:=by cases p<;>simp at s ⊢
   subst hp;have:l= []:=by
    rcases l with _| ⟨x,l⟩
    . rfl
    . obtain ⟨a,ha,_⟩:=h 0 (by simp);cases ha
   subst this;exact ⟨none,0,rfl,Ow.nil _ _ _,aD.refl w,λb hb=>by simp [aG] at hb⟩
 . intro O w1 h1;have o1:dz aq w1 (some ⟨O,0,none⟩) 0 []:=jI.Ap h1;refine o1.tD c9 (h.grow h1.mod) rfl hn fz (by simp;omega) λw2 p2 J o2 m2 I Q=>?_;rw [Vh] at o2 ⊢;have U:=h1.num;refine ⟨p2,J,rfl,o2,h1.mod.then m2 λb hb e=>?_,λb hb=>?_⟩
   . have:=aL e;omega
   . rcases I with rfl|rfl
     . have:=aL hb;omega
     . have:=aL hb;have:=h1.mod.size;omega
theorem yV {k m j:Nat} (_:k+m=l.length) (I:j<m):((l.drop k).take m).getD j 0=l.getD (k+j) 0:=by
 simp only [y6];rw [Vf,if_pos I,VX]
theorem Bu {l:List Int} {i j:Nat} {x:Int} (hi:i<l.length):(l.set i x).getD j 0=if j=i then x else l.getD j 0:=kK hi
theorem pC {l:List Int} {k:Nat} {x:Int} (h:k<l.length):(l.set k x).take (k+1)=l.take k++ [x]:=by
 rw [UR,Yh,List.set_eq_of_length_le (by simp;omega)];simp [h]
theorem F5 (o:dz aq w p c l) (hn:n=l.length) (hm:n<=1000000):Calls prog cO.id #[.slice p n c] w λe w'=>e=.returned (.slice p (yD l l.length).length c)/\dz aq w' p c (yD l l.length)/\aD (Bk p) w w':=by
 refine cO.aj ?_;refine ah (λs=>?_) (λs=>?_)
 . have s:l.length<2:=by simp at s;omega
   have:yD l l.length=l:=by
    rw [vG (y4 _) (λj V Y=>by omega),K']
   rw [this,hn];exact ⟨rfl,o,aD.refl w⟩
 have s:2<=l.length:=by simp at s;omega
 refine ⟨λI w' k=>∃t:Nat,I=t/\1<=t/\t<=n/\k=n - t/\(∀j,0<j->j<t->l.getD j 0≠l.getD (j - 1) 0)/\dz aq w' p c l/\aD (Bk p) w w',⟨_,1,rfl,y4 _,by omega,rfl,λj V Y=>by omega,o,aD.refl w⟩,?_⟩;rintro I w1 k _ ⟨t,rfl,t1,ht,rfl,ha,o1,m1⟩;have aw:l.length<=c:=by
  rcases o.un with ⟨_,_,rfl⟩| ⟨_,_,_,_,h,_⟩
  . simp at s
  . exact h
 refine ah (λr=>?_) (λr=>?_)
 . have r:t<n:=by simpa using r
   have e1:IntKind.i64.wrap ((t:Int) - 1)=((t - 1:Nat):Int):=wN;rw [e1];refine o1.drew.ix 0 (by omega) hn (by omega) λa e=>⟨_,e,o1.drew.ix 0 (by omega) hn (by omega) λa e=>⟨_,e,?_⟩⟩
   rw [tn,tn];refine ah (λQ=>?_) (λQ=>⟨_,?_,t+1,wN,by omega,by omega,rfl,λj V Y=>?_,o1.drew,m1.drew⟩)
   . have Q:l.getD t 0=l.getD (t - 1) 0:=by simpa using Q
     refine eh t n c rfl rfl rfl (by omega) (by omega) (by omega) ?_;rw [if_neg (by omega)];have d0:yD l t=l.take t:=vG (by omega) ha;have d1:yD l (t+1)=l.take t:=by
      unfold yD;rw [if_pos ⟨by omega,Q⟩,d0]
     refine ⟨λI J w' k=>∃ (i j:Nat) (cur:List Int),I=i/\J=j/\1<=j/\j<=n - t/\k=n - t - j/\i<t+j/\cur.length=n/\(∀x,t+j - 1<=x->x<n->cur.getD x 0=l.getD x 0)/\cur.take i=yD l (t+j)/\dz aq w' p c cur/\aD (Bk p) w w',⟨_,t,1,l,rfl,rfl,y4 _,by omega,rfl,by omega,hn.symm,λ_ _ _=>rfl,d1.symm,o1.drew,m1.drew⟩,?_⟩;clear d0 d1;rintro I J w2 k _ ⟨i,j,cur,rfl,rfl,V,Y,rfl,hi,hc,X,Z,o2,m2⟩;have v2:Vw sT w2 (p.map (·.add (t*1))) ((cur.drop t).take (n - t)):=o2.vw.part (by omega);have hv:n - t=((cur.drop t).take (n - t)).length:=by simp;omega
     refine ah (λU=>?_) (λU=>?_)
     . have U:j<n - t:=by simpa using U
       have e2:IntKind.i64.wrap ((j:Int) - 1)=((j - 1:Nat):Int):=wN;rw [e2];refine v2.drew.ix 0 (by omega) hv (by omega) λa e=>⟨_,e,v2.drew.ix 0 (by omega) hv (by omega) λa e=>⟨_,e,?_⟩⟩
       rw [tn,tn,yV (by omega) U,yV (by omega) (by omega),X _ (by omega) (by omega),X _ (by omega) (by omega)];have ed:yD l (t+j+1)=if 0<t+j/\l.getD (t+j) 0=l.getD (t+j - 1) 0 then yD l (t+j) else yD l (t+j)++ [l.getD (t+j) 0]:=rfl
       rw [show t+ (j - 1)=t+j - 1 by omega];refine ah (λO=>?_) (λO=>?_)
       . have O:l.getD (t+j) 0≠l.getD (t+j - 1) 0:=by simpa using O
         refine v2.drew.ix 0 (by omega) hv (by omega) λa e=>⟨_,e,?_⟩
         rw [tn,yV (by omega) U,X _ (by omega) (by omega)];refine o2.drew.st (l.getD (t+j) 0) rfl rfl (by omega) hc.symm (by omega) λw3 o3 m3=>?_;rw [tn] at o3;refine ⟨_,?_,i+1,j+1,_,wN,wN,by omega,by omega,rfl,by omega,by simpa using hc,λx x1 x2=>?_,?_,o3,m2.drew.trans m3⟩
         . omega
         . rw [Bu (by omega),if_neg (by omega)];exact X x (by omega) x2
         . rw [pC (by omega),Z,show t+ (j+1)=t+j+1 by omega,ed,if_neg (λe=>O e.2)]
       . have O:l.getD (t+j) 0=l.getD (t+j - 1) 0:=by simpa using O
         refine ⟨_,?_,i,j+1,cur,rfl,wN,by omega,by omega,rfl,by omega,hc,λx x1 x2=>X x (by omega) x2,?_,o2.drew,m2.drew⟩
         . omega
         . rw [Z,show t+ (j+1)=t+j+1 by omega,ed,if_pos ⟨by omega,O⟩]
     . have U:j=n - t:=by simp at U;omega
       have ax:i<n:=by omega
       have aa:(yD l l.length).length=i:=by
        rw [show l.length=t+j by omega,<- Z];simp;omega
       refine eh i n c rfl rfl rfl (by omega) (by omega) (by omega) ?_;rw [if_neg (by omega)];refine o2.clear c9 jx (x:=(0:Int)) rfl rfl (by omega) (by omega) λw3 o3 m3=>?_;refine eh 0 i c rfl rfl rfl (by omega) (by omega) (by omega) ?_;rw [if_neg (by omega),Ve,Ve];have ep:p.map (·.add (0*1))=p:=by cases p<;>simp [Addr.add]
       rw [ep,aa];rw [Z,show t+j=l.length by omega] at o3;exact ⟨rfl,o3,m2.trans m3⟩
   . omega
   . have Q:l.getD t 0≠l.getD (t - 1) 0:=by simpa using Q
     by_cases e:j=t
     . subst e;exact Q
     . exact ha j V (by omega)
 . have r:t=n:=by simp at r;omega
   have:yD l l.length=l:=by
    rw [vG (y4 _) (λj V Y=>ha j V (by omega)),K']
   rw [this,hn];exact ⟨rfl,o1,m1⟩
end Go.Proofs.YtbdghpjnifjlmaaGreat.W
