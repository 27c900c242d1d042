/- Sorting by swaps, plain. -/
import Derived.Test.YtddffgjagppimaaGreatGenTs
import Derived.Shelf.SlSortCmp.NoneTotal
import Derived.Test.YtddffgjagppimaaGreatLitA
import Derived.Test.YtddffgjagppimaaGreatFwRead
import Derived.Test.YtddffgjagppimaaGreatFwMem
import Derived.Maps.Own
import Derived.Maps.OwnSet
import Derived.Maps.Range
namespace Go.SoP
def swp (l:List Int) (i j:Nat):List Int:=(l.set i (l.getD j 0)).set j (l.getD i 0)
theorem swp_len (l:List Int) (i j:Nat):(swp l i j).length=l.length:=by simp [swp]
theorem getD_setN {l:List Int} {i j:Nat} {x:Int} (hi:i<l.length):(l.set i x).getD j 0=if j=i then x else l.getD j 0:=by
 simp only [List.getD_eq_getElem?_getD,List.getElem?_set]
 by_cases h:j=i
 · subst h;simp [hi]
 · rw [if_neg (fun e=>h e.symm),if_neg h]
theorem swp_get {l:List Int} {i j:Nat} (hi:i<l.length) (hj:j<l.length) (k:Nat):(swp l i j).getD k 0=if k=j then l.getD i 0 else if k=i then l.getD j 0 else l.getD k 0:=by
 unfold swp
 rw [getD_setN (by simpa using hj),getD_setN hi]
theorem perm_swp {l:List Int} {i j:Nat} (hi:i<l.length) (hj:j<l.length):(swp l i j).Perm l:=by
 rw [List.perm_iff_count]
 intro x
 unfold swp
 rw [List.count_set (by simpa using hj),List.count_set hi]
 have e1:l[i]=l.getD i 0:=by simp [List.getD,hi]
 have e2:(l.set i (l.getD j 0))[j]'(by simpa using hj)=if i=j then l.getD j 0 else l.getD j 0:=by
  rw [List.getElem_set]
  split
  · rfl
  · simp [List.getD,hj]
 rw [e1,e2]
 have c1:l.getD i 0=x→0<List.count x l:=fun h=>List.count_pos_iff.2 (by rw [← h];simp [List.getD,hi])
 have c2:l.getD j 0=x→0<List.count x l:=fun h=>List.count_pos_iff.2 (by rw [← h];simp [List.getD,hj])
 simp only [ite_self]
 by_cases h1:l.getD i 0=x<;>by_cases h2:l.getD j 0=x<;>simp only [h1,h2,beq_self_eq_true,if_true,beq_iff_eq,if_false]<;> (first|omega| (have:=c1 h1;omega)| (have:=c2 h2;omega))
section
variable (c:Int→Int→Int)
def Le (x y:Int):Prop:= ¬c y x<0
structure Ord:Prop where
 asym: ∀ {x y},c x y<0→¬c y x<0
 trans: ∀ {x y z},Le c x y→Le c y z→Le c x z
def SortedR (l:List Int) (a b:Nat):Prop:= ∀i j,a≤i→i<j→j<b→Le c (l.getD i 0) (l.getD j 0)
end
variable {c:Int→Int→Int}
theorem Ord.lt {x y:Int} (o:Ord c) (h:c x y<0):Le c x y:=o.asym h
theorem Ord.rfl {x:Int} (o:Ord c):Le c x x:=fun h=>o.asym h h
theorem Ord.lt_le {x y z:Int} (o:Ord c) (h:c x y<0) (k:Le c y z):c x z<0:=by
 by_cases e:c x z<0
 · exact e
 · exact absurd h (o.trans k e)
theorem Ord.le_lt {x y z:Int} (o:Ord c) (h:Le c x y) (k:c y z<0):c x z<0:=by
 by_cases e:c x z<0
 · exact e
 · exact absurd k (o.trans e h)
end Go.SoP
namespace Go.Proofs.YtddffgjagppimaaGreat.W
open Go
section
def srtR:Go.Shelf.Ren:=⟨fun|6=>93|15=>116|14=>122|28=>126|29=>127|20=>129|21=>130|22=>131|23=>132|24=>133|25=>134|26=>135|27=>136|46=>138|47=>139|48=>140|49=>141|50=>142|57=>144|n=>n,fun|22=>28|24=>3|25=>130|39=>45|53=>161|55=>163|46=>166|45=>165|50=>95|66=>172|70=>176|76=>178|77=>179|n=>n,id⟩
end
section
open Go.Fw Go.RowKit Go.SoP
abbrev Bk (p:Option Addr):Nat→Prop:=fun b=>blk p=some b
theorem wN {x:Int} {i:Nat} (h:x=i) (hb:i<9223372036854775808):IntKind.i64.wrap x=i:=by
 subst h
 exact wrap64_of (by omega) (by omega)
theorem bears_k {P:Program} {n:FuncId} {B:Func} (h1:((P.funcs[n]?.getD B).name== "runtime.NumGoroutine")=false) (h2:P.funcs[n]? =some {B with name:=(P.funcs[n]?.getD B).name}):Bears P n B:=⟨_,h1,h2⟩
theorem srtL:SlLaysF.n6 Tryz.prog srtR:=by
 constructor
 all_goals first|kernel_rfl| (intro w;kernel_rfl)|exact bears_k (by kernel_rfl) (by kernel_rfl)
def Gdr (w w':World):Prop:= ∃q os,w'=Sort.grow (w.drewN q) os
theorem Gdr.refl (w:World):Gdr w w:=⟨0,#[],by simp [Sort.grow,World.drewN]⟩
theorem Gdr.trans {a b c:World} (h:Gdr a b) (k:Gdr b c):Gdr a c:=by
 obtain ⟨q,os,rfl⟩:=h
 obtain ⟨q',os',rfl⟩:=k
 exact ⟨q+q',os++os',by unfold Sort.grow World.drewN;simp only [Array.append_assoc,Nat.add_assoc]⟩
theorem Gdr.drew {a b:World} (h:Gdr a b):Gdr a b.drew:=h.trans ⟨1,#[],by rw [Sort.grow_empty];rfl⟩
theorem Gdr.grow {a b:World} (h:Gdr a b):Grow a b:=by
 obtain ⟨q,os,rfl⟩:=h
 refine ⟨rfl,rfl,rfl,by simp [Sort.grow,World.drewN],fun k hk _=> ?_⟩
 show (a.heap++os)[k]? =_
 rw [Array.getElem?_append_left hk]
structure Cx (w0:World) (p:Option Addr) (n:Nat) (l0:List Int) (fid:FuncId) (fv:Array Value) (cf:Int→Int→Int):Prop where
 hn:n=l0.length
 hm:n≤1152921504606846976
 he:entB Tryz.prog fid=true
 hf: ∀x∈l0,∀y∈l0,∀w,Mod (Bk p) w0 w→Calls Tryz.prog fid (#[]++ #[.int .i64 x,.int .i64 y]++fv) w fun e w2=>e= .returned (.int .i64 (cf x y))∧Gdr w w2
 o:Ord cf
variable {w0 w:World} {p:Option Addr} {n c:Nat} {l0 l:List Int} {fid:FuncId} {fv:Array Value} {cf:Int→Int→Int}
theorem enter_of {P:Program} {g:FuncId} (h:entB P g=true) (ar:Array Value) (w:World):(callFunc g ar).run P w= .ok (.enter g ar) w:=by
 unfold entB at h
 unfold callFunc
 simp only [Sem.run_bind,run_program,Result.andThen_ok]
 split at h
 · rename_i fn hfn
   simp only [Bool.and_eq_true,bne_iff_ne,ne_eq] at h
   simp only [hfn]
   have h1:(fn.name== "runtime.NumGoroutine")=false:=by simpa using h.2
   have h2:fn.body.isNone=false:=by cases hbd:fn.body<;>simp_all
   simp [h1,h2]
 · simp at h
theorem srt_mod {α:Type} [Inhabited α] (enc:α→Value) (w:World) (b m:Nat) (d:Array α) (os:Array Obj):Mod (fun k=>k=b) w (sortWorld enc w b 0 m d os):=by
 refine ⟨rfl,rfl,rfl,?_,fun k hk hne=> ?_⟩
 · simp [sortWorld,Sort.grow,Sort.putRow,Sort.mapBlock,Sort.ahead]
 · show ((w.heap.modify b _)++os)[k]? =_
   rw [Array.getElem?_append_left (by simpa using hk),Array.getElem?_modify,if_neg fun e=>hne e.symm]
theorem sort_ok (X:Cx w p n l fid fv cf) (h:OwI ty_int w p c l):
 Calls Tryz.prog slices_SortFunc_int_int.id #[.slice p n c,.func (.func fid) #[] fv] w fun e w'=>e= .returned (.tuple #[])∧∃l',OwI ty_int w' p c l'∧Mod (Bk p) w w'∧l'.Perm l∧SortedR cf l' 0 l'.length:=by
 rcases Nat.eq_zero_or_pos l.length with h0|h0
 · have hn:n=0:=by rw [X.hn,h0]
   subst hn
   refine (AnyF.slices_SortFunc_none (P:=Tryz.prog) (ρ:=srtR) {srtL with} p c _ w).mono ?_
   rintro e w' ⟨rfl,rfl⟩
   exact ⟨rfl,l,h,Mod.refl _,.refl l,fun i j _ _ hj=>by omega⟩
 · rcases h.un with ⟨_,_,e⟩| ⟨b,cur,rfl,hb,h1,h2,h3,h4⟩
   · rw [e] at h0;simp at h0
   · haveI:Inhabited {x:Int // x∈l}:=⟨⟨l[0],List.getElem_mem h0⟩⟩
     obtain ⟨d,hd⟩: ∃d:Array {x:Int // x∈l},d=l.attach.toArray:=⟨_,rfl⟩
     have ds:d.size=n:=by rw [hd,X.hn];simp
     have dget: ∀j (hj:j<l.length),(d[j]!).1=l[j]:=fun j hj=>by
      have:j<d.size:=by rw [ds,X.hn];exact hj
      rw [getElem!_pos d j this]
      simp [hd]
     have hbd:=X.hm
     have hsw:Go.Sort.SWO (Go.Proofs.ltOf fun a b: {x:Int // x∈l}=>cf a.1 b.1):=by
      refine ⟨fun x=> ?_,fun x y z h1 h2=> ?_,fun x y z h1 h2=> ?_⟩
      · exact decide_eq_false X.o.rfl
      · simp only [ltOf,decide_eq_true_eq] at*
        exact X.o.lt_le h1 (X.o.lt h2)
      · simp only [ltOf,decide_eq_false_iff_not] at*
        exact X.o.trans h2 h1
     have key:=Any.slices_SortFunc srtL (fun a: {x:Int // x∈l}=>Value.int .i64 a.1) (fun _=>rfl) (fun a b=>cf a.1 b.1) hsw fid fv b 0 c d w (enter_of X.he)
      (fun m os dk _ x y=> ?_) (fun j hj=> ?_) ?_ (by omega)
     · rw [ds] at key
       refine key.mono ?_
       rintro e w' ⟨rfl,d',m,os,hp,hs,rfl⟩
       obtain ⟨q1,q2,q3⟩:=hp
       have ds':d'.size=n:=by rw [q1,ds]
       have hfull: ∀a:Array {x:Int // x∈l},a.size=n→(a.extract 0 n).toList=a.toList:=fun a ha=>by
        rw [← ha];simp
       rw [hfull _ ds',hfull _ ds] at q3
       have hl':(d'.toList.map (·.1)).length=n:=by simp [ds']
       have hperm:(d'.toList.map (·.1)).Perm l:=by
        have:=q3.map (·.1)
        rw [hd] at this
        simpa using this
       have gd: ∀i,i<n→(d'.toList.map (·.1)).getD i 0=(d'[i]!).1:=fun i hi=>by
        have:i<d'.size:=by omega
        rw [getElem!_pos d' i this]
        simp [List.getD,this]
       refine ⟨rfl,d'.toList.map (·.1),?_,(srt_mod _ w b m d' os).mono fun k _ (e:k=b)=>by rw [e];rfl,hperm,fun i j hi hij hj=> ?_⟩
       · refine Ow.of_some (cur:=Sort.putCells (fun a: {x:Int // x∈l}=>Value.int .i64 a.1) 0 d' cur) ?_ (by rw [hl',X.hn];exact h1) h2 ?_ ?_
         · show ((w.heap.modify b _)++os)[b]? =_
           have hlt:b<w.heap.size:=h.lt b rfl
           rw [Array.getElem?_append_left (by simpa using hlt),Array.getElem?_modify,if_pos rfl,hb]
           rfl
         · unfold Sort.putCells
           simp [h3]
         · refine List.ext_getElem ?_ fun j j1 j2=> ?_
           · unfold Sort.putCells
             simp [h3,ds'];rw [X.hn];exact Nat.min_eq_left h1
           · have hj:j<n:=by simpa [ds'] using j2
             unfold Sort.putCells
             have hj':j<d'.size:=by omega
             simp [ds',hj]
       · rw [hl'] at hj
         rw [gd i (by omega),gd j hj]
         have:=hs i j hi hij hj
         simpa [ltOf,Le] using this
     · refine (X.hf x.1 x.2 y.1 y.2 _ ((srt_mod _ w b m dk os).mono fun k _ (e:k=b)=>by rw [e];rfl)).mono ?_
       rintro e w2 ⟨rfl,g⟩
       exact ⟨rfl,g⟩
     · rw [ds,X.hn] at hj
       obtain ⟨g,e,hc⟩:=h.cell hj
       simp only [Option.some.injEq,Addr.mk.injEq] at e
       obtain ⟨rfl,_,_⟩:=e
       refine ⟨?_,frozen_of (cs:=cur) ⟨_,hb⟩⟩
       show w.cell? _=some (.int .i64 (d[j]!).1)
       rw [dget j hj,Nat.zero_add]
       exact hc
     · exact h.lt b rfl
end
end Go.Proofs.YtddffgjagppimaaGreat.W
namespace Go.LiP
open Go.SoP
def am (l:Int):Int:=if l<0 then -l else l
def bef (a b:Int):Int:=if am a≠am b then am a - am b else b - a
theorem bef_ord:Ord bef:=by
 constructor
 · intro x y h
   unfold bef am at*
   split at h<;>split<;> (try split at h)<;> (try split)<;> (try split at h)<;> (try split)<;>omega
 · intro x y z h1 h2
   unfold Le bef at*
   have hx:am x=x∨am x= -x:=by unfold am;split<;>simp
   generalize am x=ax at*
   generalize am y=ay at*
   generalize am z=az at*
   split at h1<;>split at h2<;>split<;>omega
theorem bef_tri (a b:Int) (h:a≠b):bef a b<0∨bef b a<0:=by
 unfold bef
 split<;>split<;>omega
theorem bef_of_le {a b:Int} (h:Le bef a b) (hne:a≠b):bef a b<0:=by
 rcases bef_tri a b hne with h'|h'
 · exact h'
 · exact absurd h' h
theorem bef_trans {a b c:Int} (h1:bef a b<0) (h2:bef b c<0):bef a c<0:=bef_ord.lt_le h1 (bef_ord.lt h2)
theorem bef_irr (a:Int): ¬bef a a<0:=by unfold bef;simp
abbrev Strict (m:List Int):Prop:=m.Pairwise fun a b=>bef a b<0
structure IsN (c m:List Int):Prop where
 mem: ∀x,x∈m↔x∈c
 st:Strict m
theorem strict_eq: ∀ {m k:List Int},Strict m→Strict k→(∀x,x∈m↔x∈k)→m=k
 | [],[],_,_,_=>rfl
 | [],y::k,_,_,h=>by have:=(h y).2 (by simp);simp at this
 |x::m,[],_,_,h=>by have:=(h x).1 (by simp);simp at this
 |x::m,y::k,h1,h2,h=>by
  have h1:=List.pairwise_cons.1 h1
  have h2:=List.pairwise_cons.1 h2
  have e:x=y:=by
   rcases List.mem_cons.1 ((h x).1 (by simp)) with e|e
   · exact e
   · rcases List.mem_cons.1 ((h y).2 (by simp)) with e'|e'
     · exact e'.symm
     · exact absurd (bef_trans (h1.1 y e') (h2.1 x e)) (bef_irr x)
  subst e
  congr 1
  refine strict_eq h1.2 h2.2 fun z=> ?_
  constructor
  · intro hz
    rcases List.mem_cons.1 ((h z).1 (List.mem_cons_of_mem _ hz)) with e|e
    · subst e;exact absurd (h1.1 z hz) (bef_irr z)
    · exact e
  · intro hz
    rcases List.mem_cons.1 ((h z).2 (List.mem_cons_of_mem _ hz)) with e|e
    · subst e;exact absurd (h2.1 z hz) (bef_irr z)
    · exact e
theorem IsN.uniq {c m k:List Int} (h:IsN c m) (g:IsN c k):m=k:=strict_eq h.st g.st fun x=> (h.mem x).trans (g.mem x).symm
def ddN (l:List Int):Nat→List Int
 |0=> []
 |k+1=>if 0<k∧l.getD k 0=l.getD (k - 1) 0 then ddN l k else ddN l k++ [l.getD k 0]
theorem ddN_mem {l:List Int}: ∀ {k:Nat},k≤l.length→∀x,x∈ddN l k↔∃j,j<k∧l.getD j 0=x
 |0,_,x=>by simp [ddN]
 |k+1,h,x=>by
  have ih:=ddN_mem (l:=l) (k:=k) (by omega) x
  unfold ddN
  split
  · rename_i hc
    rw [ih]
    constructor
    · rintro ⟨j,j1,j2⟩;exact ⟨j,by omega,j2⟩
    · rintro ⟨j,j1,j2⟩
      by_cases e:j=k
      · subst e;exact ⟨j - 1,by omega,by rw [← hc.2];exact j2⟩
      · exact ⟨j,by omega,j2⟩
  · rw [List.mem_append,ih,List.mem_singleton]
    constructor
    · rintro (⟨j,j1,j2⟩|e)
      · exact ⟨j,by omega,j2⟩
      · exact ⟨k,by omega,e.symm⟩
    · rintro ⟨j,j1,j2⟩
      by_cases e:j=k
      · subst e;exact .inr j2.symm
      · exact .inl ⟨j,by omega,j2⟩
theorem ddN_strict {l:List Int} (h:SortedR bef l 0 l.length): ∀ {k:Nat},k≤l.length→Strict (ddN l k)
 |0,_=>List.Pairwise.nil
 |k+1,hk=>by
  have ih:=ddN_strict h (k:=k) (by omega)
  unfold ddN
  split
  · exact ih
  · rename_i hc
    rw [Strict,List.pairwise_append]
    refine ⟨ih,List.pairwise_singleton _ _,fun x hx y hy=> ?_⟩
    rw [List.mem_singleton] at hy
    subst hy
    obtain ⟨j,j1,rfl⟩:=(ddN_mem (by omega) x).1 hx
    have hlast:bef (l.getD (k - 1) 0) (l.getD k 0)<0:=bef_of_le (h (k - 1) k (by omega) (by omega) (by omega)) fun e=>hc ⟨by omega,e.symm⟩
    by_cases e:j=k - 1
    · rw [e];exact hlast
    · exact bef_ord.le_lt (h j (k - 1) (by omega) (by omega) (by omega)) hlast
theorem ddN_take {l:List Int}: ∀ {k:Nat},k≤l.length→(∀j,0<j→j<k→l.getD j 0≠l.getD (j - 1) 0)→ddN l k=l.take k
 |0,_,_=>by simp [ddN]
 |k+1,h,hc=>by
  unfold ddN
  rw [if_neg (fun e=>hc k e.1 (by omega) e.2),ddN_take (k:=k) (by omega) (fun j j1 j2=>hc j j1 (by omega)),List.take_add_one]
  have:l[k]? =some (l.getD k 0):=by simp [List.getD,show k<l.length by omega]
  rw [this];rfl
theorem ddN_isN {c l:List Int} (hp:l.Perm c) (h:SortedR bef l 0 l.length):IsN c (ddN l l.length):=by
 refine ⟨fun x=> ?_,ddN_strict h (Nat.le_refl _)⟩
 rw [ddN_mem (Nat.le_refl _),← hp.mem_iff]
 constructor
 · rintro ⟨j,j1,rfl⟩;simp [List.getD,j1]
 · intro hx
   obtain ⟨j,j1,e⟩:=List.mem_iff_getElem.1 hx
   exact ⟨j,j1,by simp [List.getD,j1,e]⟩
def posN:List Int→Int→Nat
 | [],_=>0
 |y::m,x=>if bef y x<0 then posN m x+1 else 0
theorem posN_le: ∀ (m:List Int) (x:Int),posN m x≤m.length
 | [],_=>Nat.le_refl _
 |y::m,x=>by
  unfold posN
  split
  · simp;exact posN_le m x
  · exact Nat.zero_le _
theorem posN_lt: ∀ {m:List Int} {x:Int} {j:Nat},j<posN m x→bef (m.getD j 0) x<0
 | [],_,_,h=>by simp [posN] at h
 |y::m,x,j,h=>by
  unfold posN at h
  split at h
  · rename_i hy
    cases j with
    |zero=>exact hy
    |succ j=>simpa [List.getD] using posN_lt (m:=m) (x:=x) (j:=j) (by omega)
  · omega
theorem posN_stop: ∀ {m:List Int} {x:Int},posN m x<m.length→¬bef (m.getD (posN m x) 0) x<0
 | [],_,h=>by simp at h
 |y::m,x,h=>by
  unfold posN at h ⊢
  split
  · rename_i hy
    rw [if_pos hy] at h
    have:=posN_stop (m:=m) (x:=x) (by simpa using h)
    simpa [List.getD] using this
  · rename_i hy;exact hy
def insN (m:List Int) (x:Int):List Int:=m.take (posN m x)++ [x]++m.drop (posN m x)
theorem insN_mem {m:List Int} {x y:Int}:y∈insN m x↔y∈m∨y=x:=by
 have:y∈m↔y∈m.take (posN m x)∨y∈m.drop (posN m x):=by rw [← List.mem_append,List.take_append_drop]
 unfold insN
 rw [List.mem_append,List.mem_append,List.mem_singleton,this]
 constructor
 · rintro ((h|h)|h)
   · exact .inl (.inl h)
   · exact .inr h
   · exact .inl (.inr h)
 · rintro ((h|h)|h)
   · exact .inl (.inl h)
   · exact .inr h
   · exact .inl (.inr h)
theorem insN_strict {m:List Int} {x:Int} (h:Strict m) (hx:x ∉ m):Strict (insN m x):=by
 have hs:Strict (m.take (posN m x)++m.drop (posN m x)):=by rw [List.take_append_drop];exact h
 rw [Strict,List.pairwise_append] at hs
 have lo: ∀y∈m.take (posN m x),bef y x<0:=by
  intro y hy
  obtain ⟨j,hj,rfl⟩:=List.mem_iff_getElem.1 hy
  rw [List.length_take] at hj
  have:=posN_lt (m:=m) (x:=x) (j:=j) (by omega)
  rw [List.getElem_take]
  simpa [List.getD,show j<m.length by omega] using this
 have hi: ∀y∈m.drop (posN m x),bef x y<0:=by
  intro y hy
  obtain ⟨j,hj,rfl⟩:=List.mem_iff_getElem.1 hy
  rw [List.length_drop] at hj
  have hst:=posN_stop (m:=m) (x:=x) (by omega)
  have hin:m.getD (posN m x) 0∈m:=by simp [List.getD,show posN m x<m.length by omega]
  have h0:bef x (m.getD (posN m x) 0)<0:=bef_of_le hst fun e=>hx (by rw [e];exact hin)
  rw [List.getElem_drop]
  have h0':bef x (m[posN m x]'(by omega))<0:=by simpa [List.getD,show posN m x<m.length by omega] using h0
  rcases Nat.eq_zero_or_pos j with e|e
  · subst e;exact h0'
  · exact bef_trans h0' (List.pairwise_iff_getElem.1 h (posN m x) (posN m x+j) (by omega) (by omega) (by omega))
 unfold insN
 rw [Strict,List.append_assoc,List.pairwise_append]
 refine ⟨hs.1,?_,fun y hy z hz=> ?_⟩
 · rw [List.singleton_append,List.pairwise_cons]
   exact ⟨hi,hs.2.1⟩
 · rw [List.singleton_append,List.mem_cons] at hz
   rcases hz with rfl|hz
   · exact lo y hy
   · exact hs.2.2 y hy z hz
def ordN (c:List Int):Nat→List Int
 |0=> []
 |k+1=>if c.getD k 0∈ordN c k then ordN c k else insN (ordN c k) (c.getD k 0)
def norm (c:List Int):List Int:=ordN c c.length
theorem ordN_isN {c:List Int}: ∀ {k:Nat},k≤c.length→IsN (c.take k) (ordN c k)
 |0,_=> ⟨fun x=>by simp [ordN],List.Pairwise.nil⟩
 |k+1,hk=>by
  have ih:=ordN_isN (c:=c) (k:=k) (by omega)
  have et:c.take (k+1)=c.take k++ [c.getD k 0]:=by
   rw [List.take_add_one]
   have:c[k]? =some (c.getD k 0):=by simp [List.getD,show k<c.length by omega]
   rw [this];rfl
  unfold ordN
  split
  · rename_i hin
    refine ⟨fun x=> ?_,ih.st⟩
    rw [ih.mem,et,List.mem_append,List.mem_singleton]
    constructor
    · exact .inl
    · rintro (h|h)
      · exact h
      · rw [h,← ih.mem];exact hin
  · rename_i hin
    refine ⟨fun x=> ?_,insN_strict ih.st hin⟩
    rw [insN_mem,ih.mem,et,List.mem_append,List.mem_singleton]
theorem norm_isN (c:List Int):IsN c (norm c):=by
 have:=ordN_isN (c:=c) (Nat.le_refl _)
 rwa [List.take_length] at this
theorem norm_len_aux {c:List Int}: ∀k,(ordN c k).length≤k
 |0=>Nat.le_refl _
 |k+1=>by
  have ih:=norm_len_aux (c:=c) k
  unfold ordN
  split
  · omega
  · unfold insN
    have:=posN_le (ordN c k) (c.getD k 0)
    simp
    omega
theorem norm_len (c:List Int):(norm c).length≤c.length:=norm_len_aux _
def taut (c:List Int):Bool:=c.any fun x=>c.contains (-x)
theorem taut_adj {c m:List Int} (h:IsN c m) (nz: ∀x∈c,x≠0):taut c=true↔∃i,0<i∧i<m.length∧m.getD i 0= -(m.getD (i - 1) 0):=by
 have mem_of: ∀j,j<m.length→m.getD j 0∈c:=fun j hj=> (h.mem _).1 (by simp [List.getD,hj])
 have lt_of: ∀i j,i<j→j<m.length→bef (m.getD i 0) (m.getD j 0)<0:=fun i j hij hj=>by
  have:=List.pairwise_iff_getElem.1 h.st i j (by omega) hj hij
  simpa [List.getD,show i<m.length by omega,hj] using this
 unfold taut
 rw [List.any_eq_true]
 constructor
 · rintro ⟨x,hx,hy⟩
   have hy: -x∈c:=by simpa using hy
   have key: ∀x:Int,0<x→x∈c→ -x∈c→∃i,0<i∧i<m.length∧m.getD i 0= -(m.getD (i - 1) 0):=by
    intro x h0 hx hy
    obtain ⟨i,hi,ei⟩:=List.mem_iff_getElem.1 ((h.mem x).2 hx)
    obtain ⟨j,hj,ej⟩:=List.mem_iff_getElem.1 ((h.mem (-x)).2 hy)
    have ei:m.getD i 0=x:=by simp [List.getD,hi,ei]
    have ej:m.getD j 0= -x:=by simp [List.getD,hj,ej]
    have hxy:bef x (-x)<0:=by unfold bef am;split<;>split<;>split<;>omega
    have hij:i<j:=by
     rcases Nat.lt_trichotomy i j with e|e|e
     · exact e
     · subst e;omega
     · have:=lt_of j i e hi
       rw [ei,ej] at this
       exact absurd hxy (bef_ord.asym this)
    have hj1:j=i+1:=by
     rcases Nat.lt_or_ge (i+1) j with e|e
     · have a1:=lt_of i (i+1) (by omega) (by omega)
       have a2:=lt_of (i+1) j e hj
       rw [ei] at a1
       rw [ej] at a2
       generalize m.getD (i+1) 0=z at a1 a2
       unfold bef am at a1 a2
       split at a1<;>split at a2<;> (try split at a1)<;> (try split at a2)<;> (try split at a1)<;> (try split at a2)<;>omega
     · omega
    exact ⟨j,by omega,hj,by rw [ej,hj1,Nat.add_sub_cancel,ei]⟩
   rcases Int.lt_or_le 0 x with e|e
   · exact key x e hx hy
   · have:=nz x hx
     exact key (-x) (by omega) hy (by rwa [Int.neg_neg])
 · rintro ⟨i,h1,h2,h3⟩
   refine ⟨m.getD (i - 1) 0,mem_of _ (by omega),?_⟩
   rw [← h3]
   simpa using mem_of i h2
end Go.LiP
namespace Go.Fw
open Go Go.RowKit
variable {P:Program} {α:Type} {f:α→Value} {T:TypeId} {w w':World} {p:Option Addr} {c:Nat} {l:List α}
theorem Ow.clear {t ty e bytes:Nat} (hs:slOk P t e bytes=true) {x:α} {v:Value} (hz:(P.info? e).bind (·.zero)=some v) (hv:v.cells= #[f x]) (ho:(f x).oneCell'=true) (h:Ow f e w p c l) {k m d:Nat} (hk:k+m=l.length) (hm:0<m) {K:World→Prop}
 (hK: ∀w',Ow f e w' p c (l.take k)→Mod (fun b=>blk p=some b) w w'→K w'):
 ∃w',(Builtin.clear_ #[t] ty #[.slice (p.map (·.add (k*1))) m d]).run P w= .ok (.tuple #[]) w'∧K w':=by
 obtain ⟨ht,i,z,hi,hz',h1,hb,h3⟩:=slOk_spec hs
 have hzz:z=v:=by simp only [hi,Option.bind_some] at hz;rw [hz'] at hz;exact Option.some.inj hz
 subst hzz
 rcases h.un with ⟨rfl,rfl,rfl⟩| ⟨g,cur,rfl,hg,g1,g2,g3,g4⟩
 · simp at hk;omega
 · have hzc:(Builtin.zeroCells z.cells m).toList=List.replicate m (f x):=by
    rw [hv]
    simp [Builtin.zeroCells]
    apply List.ext_getElem
    · simp
    · intro i h1 h2
      simp [Nat.mod_one]
   obtain ⟨w2,hst,hh⟩:=store_t (b:=g) (off:=0+k*1) (i:=0) (vs:=List.replicate m (f x)) (K:=fun w'=> ∃w'':World,w''=w'∧w'.heap[g]? =some (.cells (wr cur (0+k*1+0) (List.replicate m (f x))) e (0,0))∧Mod (·=g) w w') hg (by simp;omega) (by
    rw [List.all_eq_true];intro u hu;rw [List.eq_of_mem_replicate hu];exact ho) fun w' a1 a2 _=> ⟨w',rfl,a1,a2⟩
   obtain ⟨_,_,a1,a2⟩:=hh
   refine ⟨w2,?_,hK w2 ?_ (a2.mono fun b _ hb=>by subst hb;rfl)⟩
   · have hr:=run_storeCells (P:=P) ⟨g,0+k*1,none⟩ _ _ _ _ hst
     obtain ⟨m,rfl⟩: ∃n,m=n+1:=⟨m - 1,by omega⟩
     have hzv:(zeroValue e:Sem Value).run P w= .ok z w:=by
      simp [zeroValue,typeInfo,hi,hz',Sem.run_bind]
     simp only [Option.map_some,add_at]
     rw [Nat.zero_add,Nat.mul_one] at hr
     simp [Builtin.clear_,run_underlying ht,hzv,hzc,hr]
   · have hw:(wr cur (0+k*1+0) (List.replicate m (f x))).toList=cur.toList.take k++List.replicate m (f x)++cur.toList.drop (k+m):=by
      rw [wr_list _ _ _ (by simp;omega)]
      simp
     refine Ow.of_some a1 (by simp;omega) g2 (by rw [wr_size];exact g3) ?_
     rw [hw,List.length_take,Nat.min_eq_left (by omega),List.append_assoc,List.take_append_of_le_length (by simp;omega),List.take_take,Nat.min_self,List.map_take,← g4,List.take_take,Nat.min_eq_left (by omega)]
end Go.Fw
namespace Go.Proofs.YtddffgjagppimaaGreat.W
open Go Go.Fw Go.RowKit Go.SoP Go.LiP
open Go.Proofs.Tryz (prog)
section
variable {w:World} {p q:Option Addr} {n c:Nat} {l:List Int}
theorem sl_int:slOk prog ty_sl_int ty_int 8=true:=by kernel_rfl
theorem int_zero:(Tryz.prog.info? ty_int).bind (·.zero)=some (.int .i64 0):=by kernel_rfl
theorem amt_am (l:Int):amt l=am l:=rfl
theorem am_bd {x:Int} (h:litB x=true):1≤am x∧am x≤1048576:=by
 have:=litB_bd h
 unfold am;split<;>omega
theorem amountG {l:Int} (h: -9223372036854775808<l) (h2:l<9223372036854775808) (w:World):Calls prog lit_amount.id #[.int .i64 l] w fun e w'=>e= .returned (.int .i64 (amt l))∧Gdr w w':=by
 refine lit_amount.calls ?_
 unfold lit_amount.w
 rw [wrap64_of (x:=0 - l) (by omega) (by omega)]
 refine ⟨?_,Gdr.refl w⟩
 unfold imax amt
 congr 2
 split<;>split<;>omega
theorem before_ok {x y:Int} (hx:litB x=true) (hy:litB y=true) (w:World):Calls prog lit_before.id #[.int .i64 x,.int .i64 y] w fun e w'=>e= .returned (.int .i64 (bef x y))∧Gdr w w':=by
 refine lit_before.calls ?_
 have bx:=litB_bd hx;have bY:=litB_bd hy;have ax:=am_bd hx;have ay:=am_bd hy
 refine (amountG (l:=x) (by omega) (by omega) w).mono ?_
 rintro e w1 ⟨rfl,g1⟩
 refine ⟨_,rfl,(amountG (l:=y) (by omega) (by omega) w1).mono ?_⟩
 rintro e w2 ⟨rfl,g2⟩
 rw [amt_am,amt_am]
 have G2:=g1.trans g2
 refine ⟨_,rfl,cnd_i (fun s=> ?_) (fun s=> ⟨?_,G2⟩)⟩
 · have s:am x≠am y:=by simpa using s
   refine (amountG (l:=x) (by omega) (by omega) w2).mono ?_
   rintro e w3 ⟨rfl,g3⟩
   refine ⟨_,rfl,(amountG (l:=y) (by omega) (by omega) w3).mono ?_⟩
   rintro e w4 ⟨rfl,g4⟩
   rw [amt_am,amt_am]
   refine ⟨_,rfl,?_,(G2.trans g3).trans g4⟩
   unfold bef
   rw [if_pos s,wrap64_of (by omega) (by omega)]
 · have s: ¬am x≠am y:=by simpa using s
   unfold bef
   rw [if_neg s,wrap64_of (by omega) (by omega)]
theorem before_ent:entB prog lit_before.id=true:=by kernel_rfl
theorem mem_take_succ {t:Nat} {x:Int} (h:t<l.length):x∈l.take (t+1)↔x∈l.take t∨x=l.getD t 0:=by
 rw [List.take_add_one,List.mem_append]
 have:l[t]? =some (l.getD t 0):=by simp [List.getD,h]
 rw [this];simp
theorem mem_getD {t:Nat} (h:t<l.length):l.getD t 0∈l:=by simp [List.getD,h]
theorem index_ok (h:Vw (Value.int .i64) w p l) (hn:n=l.length) (hm:n≤maxLen) (x:Int):Calls prog slices_Index_int_int.id #[.slice p n c,.int .i64 x] w fun e w'=> ∃r:Int,e= .returned (.int .i64 r)∧(r≥0↔x∈l)∧Grow w w':=by
 refine slices_Index_int_int.calls ?_
 unfold maxLen at hm
 refine ⟨fun I w' k=> ∃t:Nat,I=t∧t≤l.length∧k=l.length - t∧x ∉ l.take t∧Grow w w',⟨_,0,rfl,Nat.zero_le _,rfl,by simp,Mod.refl w⟩,?_⟩
 rintro I w1 k _ ⟨t,rfl,ht,rfl,ha,G⟩
 refine cnd_i (fun s=> ?_) (fun s=> ⟨-1,rfl,?_,G⟩)
 · have s:t<l.length:=by simp at s;omega
   refine (h.grow G).ix 0 (by omega) hn (by omega) fun a e=> ⟨_,e,?_⟩
   rw [Int.toNat_natCast]
   refine cnd_i (fun s2=> ⟨(t:Int),rfl,?_,G⟩) (fun s2=> ⟨_,?_,t+1,wN (by omega) (by omega),by omega,rfl,?_,G⟩)
   · have s2:x=l.getD t 0:=by simpa using s2
     exact ⟨fun _=>by rw [s2];exact mem_getD s,fun _=>by omega⟩
   · omega
   · have s2:x≠l.getD t 0:=by simpa using s2
     rw [mem_take_succ s]
     rintro (e|e)
     · exact ha e
     · exact s2 e
 · have:t=l.length:=by simp at s;omega
   subst this
   rw [List.take_length] at ha
   exact ⟨fun h=>by omega,fun h=>absurd h ha⟩
theorem contains_ok (h:Vw (Value.int .i64) w p l) (hn:n=l.length) (hm:n≤maxLen) (x:Int):Calls prog slices_Contains_int_int.id #[.slice p n c,.int .i64 x] w fun e w'=>e= .returned (.bool (decide (x∈l)))∧Grow w w':=by
 refine slices_Contains_int_int.calls ?_
 refine (index_ok h hn hm x).mono ?_
 rintro e w1 ⟨r,rfl,hr,g1⟩
 exact ⟨_,rfl,by rw [decide_eq_decide.2 hr],g1⟩
theorem args2w (u v:Value):(#[]++ #[u]++ #[v]:Array Value)= #[u,v]:=by simp
theorem clone_ok (h:Vw (Value.int .i64) w p l) (hn:n=l.length) (hm:n≤1000000):Calls prog slices_Clone_int_int.id #[.slice p n c] w fun e w'=> ∃ (q:Option Addr) (d:Nat),e= .returned (.slice q l.length d)∧OwI ty_int w' q d l∧Grow w w'∧(∀b,blk q=some b→w.heap.size≤b):=by
 refine slices_Clone_int_int.calls ?_
 refine cnd_i (fun s=> ?_) (fun s=> ?_)
 · have hp:p=none:=by cases p<;>simp at s ⊢
   subst hp
   have:l= []:=by
    rcases l with _| ⟨x,l⟩
    · rfl
    · obtain ⟨a,ha,_⟩:=h 0 (by simp);cases ha
   subst this
   exact ⟨none,0,rfl,Ow.nil _ _ _,Mod.refl w,fun b hb=>by simp [blk] at hb⟩
 · intro n1 w1 h1
   have o1:OwI ty_int w1 (some ⟨n1,0,none⟩) 0 []:=New.empty h1
   refine o1.appV sl_int (h.grow h1.mod) rfl hn oneInt (by simp;omega) fun w2 p2 c2 o2 m2 hp2 hs2=> ?_
   rw [List.nil_append] at o2 ⊢
   have e1:=h1.num
   refine ⟨p2,c2,rfl,o2,h1.mod.then m2 fun b hb e=> ?_,fun b hb=> ?_⟩
   · have:=blk_some e;omega
   · rcases hp2 with rfl|rfl
     · have:=blk_some hb;omega
     · have:=blk_some hb;have:=h1.mod.size;omega
theorem part_get {k m j:Nat} (_:k+m=l.length) (hj:j<m):((l.drop k).take m).getD j 0=l.getD (k+j) 0:=by
 simp only [List.getD_eq_getElem?_getD]
 rw [List.getElem?_take,if_pos hj,List.getElem?_drop]
theorem getD_setI {l:List Int} {i j:Nat} {x:Int} (hi:i<l.length):(l.set i x).getD j 0=if j=i then x else l.getD j 0:=getD_setN hi
theorem take_set_succ {l:List Int} {k:Nat} {x:Int} (h:k<l.length):(l.set k x).take (k+1)=l.take k++ [x]:=by
 rw [List.take_add_one,List.take_set,List.set_eq_of_length_le (by simp;omega)]
 simp [h]
theorem compact_ok (o:OwI ty_int w p c l) (hn:n=l.length) (hm:n≤1000000):Calls prog slices_Compact_int_int.id #[.slice p n c] w fun e w'=>e= .returned (.slice p (ddN l l.length).length c)∧OwI ty_int w' p c (ddN l l.length)∧Mod (Bk p) w w':=by
 refine slices_Compact_int_int.calls ?_
 refine cnd_i (fun s=> ?_) (fun s=> ?_)
 · have s:l.length<2:=by simp at s;omega
   have:ddN l l.length=l:=by
    rw [ddN_take (Nat.le_refl _) (fun j j1 j2=>by omega),List.take_length]
   rw [this,hn]
   exact ⟨rfl,o,Mod.refl w⟩
 have s:2≤l.length:=by simp at s;omega
 refine ⟨fun I w' k=> ∃t:Nat,I=t∧1≤t∧t≤n∧k=n - t∧(∀j,0<j→j<t→l.getD j 0≠l.getD (j - 1) 0)∧OwI ty_int w' p c l∧Mod (Bk p) w w',⟨_,1,rfl,Nat.le_refl _,by omega,rfl,fun j j1 j2=>by omega,o,Mod.refl w⟩,?_⟩
 rintro I w1 k _ ⟨t,rfl,t1,ht,rfl,ha,o1,m1⟩
 have hcl:l.length≤c:=by
  rcases o.un with ⟨_,_,rfl⟩| ⟨_,_,_,_,h,_⟩
  · simp at s
  · exact h
 refine cnd_i (fun r=> ?_) (fun r=> ?_)
 · have r:t<n:=by simpa using r
   have e1:IntKind.i64.wrap ((t:Int) - 1)=((t - 1:Nat):Int):=wN (by omega) (by omega)
   rw [e1]
   refine o1.drew.ix 0 (by omega) hn (by omega) fun a e=> ⟨_,e,o1.drew.ix 0 (by omega) hn (by omega) fun a e=> ⟨_,e,?_⟩⟩
   rw [Int.toNat_natCast,Int.toNat_natCast]
   refine cnd_i (fun r2=> ?_) (fun r2=> ⟨_,?_,t+1,wN (by omega) (by omega),by omega,by omega,rfl,fun j j1 j2=> ?_,o1.drew,m1.drew⟩)
   · have r2:l.getD t 0=l.getD (t - 1) 0:=by simpa using r2
     refine slK_i t n c rfl rfl rfl (by omega) (by omega) (by omega) ?_
     rw [if_neg (by omega)]
     have d0:ddN l t=l.take t:=ddN_take (by omega) ha
     have d1:ddN l (t+1)=l.take t:=by
      unfold ddN
      rw [if_pos ⟨by omega,r2⟩,d0]
     refine ⟨fun I J w' k=> ∃ (i j:Nat) (cur:List Int),I=i∧J=j∧1≤j∧j≤n - t∧k=n - t - j∧i<t+j∧cur.length=n∧(∀x,t+j - 1≤x→x<n→cur.getD x 0=l.getD x 0)∧cur.take i=ddN l (t+j)∧OwI ty_int w' p c cur∧Mod (Bk p) w w',⟨_,t,1,l,rfl,rfl,Nat.le_refl _,by omega,rfl,by omega,hn.symm,fun _ _ _=>rfl,d1.symm,o1.drew,m1.drew⟩,?_⟩
     clear d0 d1
     rintro I J w2 k _ ⟨i,j,cur,rfl,rfl,j1,j2,rfl,hi,hc,hx,hd,o2,m2⟩
     have v2:Vw (Value.int .i64) w2 (p.map (·.add (t*1))) ((cur.drop t).take (n - t)):=o2.vw.part (by omega)
     have hv:n - t=((cur.drop t).take (n - t)).length:=by simp;omega
     refine cnd_i (fun r3=> ?_) (fun r3=> ?_)
     · have r3:j<n - t:=by simpa using r3
       have e2:IntKind.i64.wrap ((j:Int) - 1)=((j - 1:Nat):Int):=wN (by omega) (by omega)
       rw [e2]
       refine v2.drew.ix 0 (by omega) hv (by omega) fun a e=> ⟨_,e,v2.drew.ix 0 (by omega) hv (by omega) fun a e=> ⟨_,e,?_⟩⟩
       rw [Int.toNat_natCast,Int.toNat_natCast,part_get (by omega) r3,part_get (by omega) (by omega),hx _ (by omega) (by omega),hx _ (by omega) (by omega)]
       have ed:ddN l (t+j+1)=if 0<t+j∧l.getD (t+j) 0=l.getD (t+j - 1) 0 then ddN l (t+j) else ddN l (t+j)++ [l.getD (t+j) 0]:=rfl
       rw [show t+ (j - 1)=t+j - 1 by omega]
       refine cnd_i (fun r4=> ?_) (fun r4=> ?_)
       · have r4:l.getD (t+j) 0≠l.getD (t+j - 1) 0:=by simpa using r4
         refine v2.drew.ix 0 (by omega) hv (by omega) fun a e=> ⟨_,e,?_⟩
         rw [Int.toNat_natCast,part_get (by omega) r3,hx _ (by omega) (by omega)]
         refine o2.drew.st (l.getD (t+j) 0) rfl rfl (by omega) hc.symm (by omega) fun w3 o3 m3=> ?_
         rw [Int.toNat_natCast] at o3
         refine ⟨_,?_,i+1,j+1,_,wN (by omega) (by omega),wN (by omega) (by omega),by omega,by omega,rfl,by omega,by simpa using hc,fun x x1 x2=> ?_,?_,o3,m2.drew.trans m3⟩
         · omega
         · rw [getD_setI (by omega),if_neg (by omega)]
           exact hx x (by omega) x2
         · rw [take_set_succ (by omega),hd,show t+ (j+1)=t+j+1 by omega,ed,if_neg (fun e=>r4 e.2)]
       · have r4:l.getD (t+j) 0=l.getD (t+j - 1) 0:=by simpa using r4
         refine ⟨_,?_,i,j+1,cur,rfl,wN (by omega) (by omega),by omega,by omega,rfl,by omega,hc,fun x x1 x2=>hx x (by omega) x2,?_,o2.drew,m2.drew⟩
         · omega
         · rw [hd,show t+ (j+1)=t+j+1 by omega,ed,if_pos ⟨by omega,r4⟩]
     · have r3:j=n - t:=by simp at r3;omega
       have hin:i<n:=by omega
       have hdl:(ddN l l.length).length=i:=by
        rw [show l.length=t+j by omega,← hd];simp;omega
       refine slK_i i n c rfl rfl rfl (by omega) (by omega) (by omega) ?_
       rw [if_neg (by omega)]
       refine o2.clear sl_int int_zero (x:=(0:Int)) rfl rfl (by omega) (by omega) fun w3 o3 m3=> ?_
       refine slK_i 0 i c rfl rfl rfl (by omega) (by omega) (by omega) ?_
       rw [if_neg (by omega),Nat.sub_zero,Nat.sub_zero]
       have ep:p.map (·.add (0*1))=p:=by cases p<;>simp [Addr.add]
       rw [ep,hdl]
       rw [hd,show t+j=l.length by omega] at o3
       exact ⟨rfl,o3,m2.trans m3⟩
   · omega
   · have r2:l.getD t 0≠l.getD (t - 1) 0:=by simpa using r2
     by_cases e:j=t
     · subst e;exact r2
     · exact ha j j1 (by omega)
 · have r:t=n:=by simp at r;omega
   have:ddN l l.length=l:=by
    rw [ddN_take (Nat.le_refl _) (fun j j1 j2=>ha j j1 (by omega)),List.take_length]
   rw [this,hn]
   exact ⟨rfl,o1,m1⟩
end
section
variable {w:World} {p q:Option Addr} {n c:Nat} {l:List Int}
theorem ep0 (p:Option Addr):p.map (·.add (0*1))=p:=by cases p<;>simp [Addr.add]
end
section
variable {w:World} {p q:Option Addr} {n c:Nat} {l:List Int}
theorem sortc_ok (o:OwI ty_int w p c l) (hn:n=l.length) (hm:n≤100000) (hl: ∀x∈l,litB x=true) {K:Ending→World→Prop}
 (hK: ∀w',OwI ty_int w' p c (norm l)→Mod (Bk p) w w'→K (.returned (.slice p (norm l).length c)) w'):
 Calls prog slices_SortFunc_int_int.id #[.slice p n c,.func (.func lit_before.id) #[] #[]] w fun e w1=>e= .returned (.tuple #[])∧Calls prog slices_Compact_int_int.id #[.slice p n c] w1 K:=by
 have X:Cx w p n l lit_before.id #[] bef:=by
  refine ⟨hn,by omega,before_ent,fun x hx y hy w' _=> ?_,bef_ord⟩
  have:(#[]++ #[Value.int .i64 x,.int .i64 y]++ #[]:Array Value)= #[.int .i64 x,.int .i64 y]:=by simp
  rw [this]
  exact before_ok (hl x hx) (hl y hy) w'
 refine (sort_ok X o).mono ?_
 rintro e w1 ⟨rfl,l1,o1,m1,p1,s1⟩
 refine ⟨rfl,(compact_ok o1 (by rw [hn,p1.length_eq]) (by omega)).mono ?_⟩
 rintro e w2 ⟨rfl,o2,m2⟩
 have:ddN l1 l1.length=norm l:=(ddN_isN p1 s1).uniq (norm_isN l)
 rw [this] at o2 ⊢
 exact hK w2 o2 (m1.trans m2)
theorem clB_lit {l:List Int} (h:clB l=true): ∀x∈l,litB x=true:=(clB_all h).1
theorem norm_lit (hl: ∀x∈l,litB x=true): ∀x∈norm l,litB x=true:=fun x hx=>hl x (((norm_isN l).mem x).1 hx)
theorem norm_fr (h:Vw (Value.int .i64) w p l) (hn:n=l.length) (hm:n≤maxLen):Calls prog lit_Norm.id #[.slice p n c] w fun e w'=> ∃ (q:Option Addr) (d:Nat) (m:List Int),m=(if clB l then norm l else [])∧e= .returned (.tuple #[.slice q m.length d,.bool (clB l && taut l)])∧OwI ty_int w' q d m∧Grow w w'∧(∀b,blk q=some b→w.heap.size≤b):=by
 refine lit_Norm.calls ?_
 refine (litCheck_ok h hn hm).mono ?_
 rintro e w1 ⟨rfl,g1⟩
 cases hc:clB l with
 |false=>exact ⟨_,rfl,cnd_t rfl ⟨none,0,[],rfl,rfl,Ow.nil _ _ _,g1,fun b e=>by simp [blk] at e⟩⟩
 |true=>
 have hll:=clB_lit hc
 have hlen:=(clB_all hc).2
 refine ⟨_,rfl,cnd_f rfl ((clone_ok (h.grow g1) hn (by omega)).mono ?_)⟩
 rintro e w2 ⟨q,d,rfl,o2,g2,f2⟩
 refine ⟨_,_,_,rfl,sortc_ok o2 rfl (by omega) hll fun w4 o4 m4=> ?_⟩
 have g4:Grow w w4:=(g1.trans g2).then m4 fun b hb e=>by
  have:=f2 b e;have:=g1.size;omega
 have fq: ∀b,blk q=some b→w.heap.size≤b:=fun b e=>by have:=f2 b e;have:=g1.size;omega
 have hnl:=norm_len l
 have nz: ∀x∈l,x≠0:=fun x hx=> (litB_bd (hll x hx)).1
 have ta:=taut_adj (norm_isN l) nz
 refine ⟨_,_,_,rfl,fun I w' k=> ∃t:Nat,I=t∧1≤t∧(∀i,0<i→i<t→i< (norm l).length→(norm l).getD i 0≠ -((norm l).getD (i - 1) 0))∧k=(norm l).length - t∧OwI ty_int w' q d (norm l)∧Grow w w',⟨_,1,rfl,Nat.le_refl _,fun i i1 i2=>by omega,rfl,o4,g4⟩,?_⟩
 rintro I w5 k _ ⟨t,rfl,t1,ha,rfl,o5,g5⟩
 refine cnd_i (fun s=> ?_) (fun s=> ?_)
 · have s:t< (norm l).length:=by simpa using s
   have e1:IntKind.i64.wrap ((t:Int) - 1)=((t - 1:Nat):Int):=wN (by omega) (by omega)
   rw [e1]
   refine o5.drew.ix 0 (by omega) rfl (by omega) fun a e=> ⟨_,e,o5.drew.ix 0 (by omega) rfl (by omega) fun a e=> ⟨_,e,?_⟩⟩
   rw [Int.toNat_natCast,Int.toNat_natCast]
   have hb:=litB_bd (norm_lit hll _ (mem_getD (l:=norm l) (t:=t - 1) (by omega)))
   have ew:IntKind.i64.wrap (0 - (norm l).getD (t - 1) 0)= -((norm l).getD (t - 1) 0):=by rw [wrap64_of (by omega) (by omega)];omega
   rw [ew]
   refine cnd_i (fun s2=> ?_) (fun s2=> ⟨_,?_,t+1,wN (by omega) (by omega),by omega,fun i i1 i2 i3=> ?_,rfl,o5.drew,g5.drew⟩)
   · have s2:(norm l).getD t 0= -((norm l).getD (t - 1) 0):=by simpa using s2
     have:taut l=true:=ta.2 ⟨t,by omega,s,s2⟩
     exact ⟨q,d,norm l,rfl,by rw [this];rfl,o5.drew,g5.drew,fq⟩
   · omega
   · have s2:(norm l).getD t 0≠ -((norm l).getD (t - 1) 0):=by simpa using s2
     by_cases e:i=t
     · subst e;exact s2
     · exact ha i i1 (by omega) i3
 · have s:(norm l).length≤t:=by simp at s;omega
   have:taut l=false:=by
    rw [← Bool.not_eq_true]
    intro h
    obtain ⟨i,i1,i2,i3⟩:=ta.1 h
    exact ha i i1 (by omega) i2 i3
   exact ⟨q,d,norm l,rfl,by rw [this];rfl,o5,g5,fq⟩
end
section
variable {w:World} {p q:Option Addr} {n c:Nat} {l:List Int}
theorem valP_neg {m:List Int} {l:Int} (h:litB l=true):valP m (-l)= -valP m l:=by
 have hb:=litB_bd h
 have hb':litB (-l)=true:=by unfold litB;exact decide_eq_true (by omega)
 have ha:amt (-l)=amt l:=by unfold amt;split<;>split<;>omega
 unfold valP
 rw [h,hb',ha]
 split
 · rfl
 · split
   · rfl
   · generalize m.getD (amt l - 1).toNat 0=z at*
     by_cases h1:z>0<;>by_cases h2:l>0<;>by_cases h3: -l>0<;>simp [h1,h2]<;>omega
end
end Go.Proofs.YtddffgjagppimaaGreat.W
namespace Go.Fw
open Go Go.RowKit Go.Maps
section
variable {P:Program} {t k e:TypeId} {w w':World} {b n:Nat} {s:Int→Bool}
def mapB (P:Program) (t k e:TypeId):Bool:=
 (match P.underlying t with|some (.map k' e')=>Nat.beq k' k && Nat.beq e' e|_=>false) && (match P.underlying k with|some (.int .i64)=>true|_=>false) && (match P.underlying e with|some .bool=>true|_=>false) && (match P.info? e with|some i=> (match i.zero with|some (.bool false)=>true|_=>false)|none=>false)
theorem mapB_spec (h:mapB P t k e=true):P.underlying t=some (.map k e)∧P.underlying k=some (.int .i64)∧P.underlying e=some .bool∧∀w,(zeroValue e).run P w= .ok (.bool false) w:=by
 simp only [mapB,Bool.and_eq_true] at h
 obtain ⟨⟨⟨h1,h2⟩,h3⟩,h4⟩:=h
 split at h1
 · rename_i k' e' hu
   simp only [Bool.and_eq_true] at h1
   have e1:k'=k:=Nat.eq_of_beq_eq_true h1.1
   have e2:e'=e:=Nat.eq_of_beq_eq_true h1.2
   subst e1 e2
   refine ⟨hu,?_,?_,?_⟩
   · split at h2
     · assumption
     · simp at h2
   · split at h3
     · assumption
     · simp at h3
   · intro w
     split at h4
     · rename_i i hi
       split at h4
       · rename_i hz
         unfold zeroValue
         simp only [Sem.run_bind,run_info_some hi,Result.andThen_ok,hz,Sem.run_pure]
       · simp at h4
     · simp at h4
 · simp at h1
def MB (P:Program) (k e:TypeId) (w:World) (b n:Nat) (s:Int→Bool):Prop:=
 ∃D:DataW Unit,w.ownsMap P k (plainElem P e) b n D∧∀a:Int,D.atKey (.int .i64 a) (.lit (.bool false))= .lit (.bool (s a))
theorem MB.lt (h:MB P k e w b n s):b<w.heap.size:=by obtain ⟨D,h,_⟩:=h;exact h.lt
theorem MB.keep {S:Nat→Prop} (h:MB P k e w b n s) (m:Mod S w w') (hs: ¬S b):MB P k e w' b n s:=by
 have hl:=h.lt
 obtain ⟨D,⟨es,clock,hb,h⟩,hd⟩:=h
 exact ⟨D,⟨es,clock,(m.block b hl hs).trans hb,h⟩,hd⟩
theorem MB.grow (h:MB P k e w b n s) (m:Grow w w'):MB P k e w' b n s:=h.keep m id
theorem MB.put' (h:MB P k e w b n s) {c:Nat} (m:Mod (·=c) w w') (hne:b≠c):MB P k e w' b n s:=h.keep m hne
theorem MB.new {b:Nat} (h:New (.map #[] 0) w b w'):MB P k e w' b 0 fun _=>false:=by
 obtain ⟨rfl,rfl⟩:=h
 exact ⟨.map [],World.ownsMap_made w P k _,fun a=>rfl⟩
theorem MB.look (hm:mapB P t k e=true) (h:MB P k e w b n s) {a:Int} (ha:(Lit.int .i64 a).wf=true):(Instr.lookup t (.map (some b)) (.int .i64 a) false).run P w= .ok (.bool (s a)) w:=by
 obtain ⟨ht,hk,he,hz⟩:=mapB_spec hm
 obtain ⟨D,h,hd⟩:=h
 obtain ⟨v,ps,hr,hv⟩:=h.lookup (int_keyed hk) ht (hz w) (plainElem_bool he false) (keyOf_int_mk hk ha)
 rw [hd a] at hv
 have:v= .bool (s a):=by
  unfold plainElem at hv
  rw [he] at hv
  cases v<;>simp_all
 rw [hr,this]
theorem MB.put (hm:mapB P t k e=true) (h:MB P k e w b n s) (hn:n<maxLen) {a:Int} (ha:(Lit.int .i64 a).wf=true) (v:Bool):
 ∃w',(Instr.mapUpdate t (.map (some b)) (.int .i64 a) (.bool v)).run P w= .ok () w'∧MB P k e w' b (n+1) (fun u=>if u=a then v else s u)∧Mod (·=b) w w':=by
 obtain ⟨ht,hk,he,hz⟩:=mapB_spec hm
 obtain ⟨D,h,hd⟩:=h
 have him:=h.isMap
 obtain ⟨w',hr,h',hg⟩:=h.update (int_keyed hk) ht hn (keyOf_int_mk hk ha) (plainElem_bool (H:=Unit) he v)
 refine ⟨w',hr,⟨_,h',fun u=> ?_⟩,⟨hg.os,hg.tape,hg.output,hg.size,fun i hi hn=>hg.block i hi fun e=>hn (Option.some.inj e)⟩⟩
 by_cases hu:u=a
 · subst hu
   exact (atKey_put_same him (show WideAt.IsKeyLit (.int .i64 u) from trivial) _ _).trans (by simp)
 · exact ((atKey_put_other (fun e=>hu (by injection e)) _ _).trans (hd u)).trans (by simp [hu])
theorem wf64 {a:Int} (h1: -9223372036854775808≤a) (h2:a<9223372036854775808):(Lit.int .i64 a).wf=true:=by
 simp [Lit.wf,IntKind.min,IntKind.max,IntKind.signed,IntKind.bits];omega
end
section
variable {P:Program} {t k e:TypeId} {w w':World} {b r n cnt:Nat} {s lf:Int→Bool}
def MS (P:Program) (k e:TypeId) (w:World) (b n:Nat) (s:Int→Bool):Prop:=
 ∃D:DataW Unit,w.ownsMap P k (plainElem P e) b n D∧(∀a:Int,D.atKey (.int .i64 a) (.lit (.bool false))= .lit (.bool (s a)))∧∀a:Int,Maps.has D (.int .i64 a)=s a
theorem MS.mb (h:MS P k e w b n s):MB P k e w b n s:=by obtain ⟨D,h1,h2,_⟩:=h;exact ⟨D,h1,h2⟩
theorem MS.lt (h:MS P k e w b n s):b<w.heap.size:=h.mb.lt
theorem MS.keep {S:Nat→Prop} (h:MS P k e w b n s) (m:Mod S w w') (hs: ¬S b):MS P k e w' b n s:=by
 have hl:=h.lt
 obtain ⟨D,⟨es,clock,hb,h⟩,hd⟩:=h
 exact ⟨D,⟨es,clock,(m.block b hl hs).trans hb,h⟩,hd⟩
theorem MS.grow (h:MS P k e w b n s) (m:Grow w w'):MS P k e w' b n s:=h.keep m id
theorem MS.new {b:Nat} (h:New (.map #[] 0) w b w'):MS P k e w' b 0 fun _=>false:=by
 obtain ⟨rfl,rfl⟩:=h
 exact ⟨.map [],World.ownsMap_made w P k _,fun a=>rfl,fun a=>rfl⟩
theorem MS.look (hm:mapB P t k e=true) (h:MS P k e w b n s) {a:Int} (ha:(Lit.int .i64 a).wf=true):(Instr.lookup t (.map (some b)) (.int .i64 a) false).run P w= .ok (.bool (s a)) w:=h.mb.look hm ha
theorem MS.put (hm:mapB P t k e=true) (h:MS P k e w b n s) (hn:n<maxLen) {a:Int} (ha:(Lit.int .i64 a).wf=true):
 ∃w',(Instr.mapUpdate t (.map (some b)) (.int .i64 a) (.bool true)).run P w= .ok () w'∧MS P k e w' b (n+1) (fun u=>if u=a then true else s u)∧Mod (·=b) w w':=by
 obtain ⟨ht,hk,he,hz⟩:=mapB_spec hm
 obtain ⟨D,h,hd,hh⟩:=h
 have him:=h.isMap
 obtain ⟨w',hr,h',hg⟩:=h.update (int_keyed hk) ht hn (keyOf_int_mk hk ha) (plainElem_bool (H:=Unit) he true)
 refine ⟨w',hr,⟨_,h',fun u=> ?_,fun u=> ?_⟩,⟨hg.os,hg.tape,hg.output,hg.size,fun i hi hn=>hg.block i hi fun e=>hn (Option.some.inj e)⟩⟩
 · by_cases hu:u=a
   · subst hu
     exact (atKey_put_same him (show WideAt.IsKeyLit (.int .i64 u) from trivial) _ _).trans (by simp)
   · exact ((atKey_put_other (fun e=>hu (by injection e)) _ _).trans (hd u)).trans (by simp [hu])
 · by_cases hu:u=a
   · subst hu
     exact (has_put_same him (show WideAt.IsKeyLit (.int .i64 u) from trivial) _).trans (by simp)
   · exact ((has_put_other (fun e=>hu (by injection e)) _).trans (hh u)).trans (by simp [hu])
theorem MS.del (hm:mapB P t k e=true) (h:MS P k e w b n s) {a:Int} (ha:(Lit.int .i64 a).wf=true) (ty:TypeId):
 ∃w',(Builtin.delete_ #[t,k] ty #[.map (some b),.int .i64 a]).run P w= .ok (.tuple #[]) w'∧MS P k e w' b n (fun u=>if u=a then false else s u)∧Mod (·=b) w w':=by
 obtain ⟨ht,hk,he,hz⟩:=mapB_spec hm
 obtain ⟨D,h,hd,hh⟩:=h
 obtain ⟨w',hr,h',hg⟩:=h.drop (int_keyed hk) ht (keyOf_int_mk hk ha) ty
 have hg:=hg.grown
 refine ⟨w',hr,⟨_,h',fun u=> ?_,fun u=> ?_⟩,⟨hg.os,hg.tape,hg.output,hg.size,fun i hi hn=>hg.block i hi fun e=>hn (Option.some.inj e)⟩⟩
 · by_cases hu:u=a
   · subst hu
     exact (atKey_del_same _).trans (by simp)
   · exact ((atKey_del_other (fun e=>hu (by injection e)) _).trans (hd u)).trans (by simp [hu])
 · by_cases hu:u=a
   · subst hu
     exact has_del_same.trans (by simp)
   · exact ((has_del_other (fun e=>hu (by injection e))).trans (hh u)).trans (by simp [hu])
theorem MS.len (hm:mapB P t k e=true) (h:MS P k e w b n s) (ty:TypeId): ∃c:Nat,c≤n∧(Builtin.len_ #[t] ty #[.map (some b)]).run P w= .ok (.int .i64 c) w:=by
 obtain ⟨ht,hk,he,hz⟩:=mapB_spec hm
 obtain ⟨D,h,hd,hh⟩:=h
 exact ⟨Maps.size D,h.size_le,h.len ht ty⟩
def MR (P:Program) (k e:TypeId) (w:World) (b r n:Nat) (s lf:Int→Bool) (cnt:Nat):Prop:=
 ∃ (D:DataW Unit) (left:Lit→Bool),w.ranges P k (plainElem P e) b r n D left cnt∧(∀a:Int,D.atKey (.int .i64 a) (.lit (.bool false))= .lit (.bool (s a)))∧(∀a:Int,Maps.has D (.int .i64 a)=s a)∧∀a:Int,left (.int .i64 a)=lf a
theorem MR.ms (h:MR P k e w b r n s lf cnt):MS P k e w b n s:=by
 obtain ⟨D,left,h1,h2,h3,_⟩:=h
 exact ⟨D,h1.owns,h2,h3⟩
theorem MR.lt (h:MR P k e w b r n s lf cnt):r<w.heap.size:=by
 obtain ⟨D,left,h1,_⟩:=h
 exact h1.lt
theorem MR.keep {S:Nat→Prop} (h:MR P k e w b r n s lf cnt) (m:Mod S w w') (h1: ¬S b) (h2: ¬S r):MR P k e w' b r n s lf cnt:=by
 have hl1:=h.ms.lt
 have hl2:=h.lt
 obtain ⟨D,left,⟨es,clock,since,seen,c0,hb,F,hs,hD,hr,rest⟩,h3⟩:=h
 exact ⟨D,left,⟨es,clock,since,seen,c0,(m.block b hl1 h1).trans hb,F,hs,hD,(m.block r hl2 h2).trans hr,rest⟩,h3⟩
theorem MR.grow (h:MR P k e w b r n s lf cnt) (m:Grow w w'):MR P k e w' b r n s lf cnt:=h.keep m id id
theorem MR.drew (h:MR P k e w b r n s lf cnt):MR P k e w.drew b r n s lf cnt:=h.grow (Mod.refl w).drew
theorem MS.range (hm:mapB P t k e=true) (h:MS P k e w b n s): ∃w' cnt,(Instr.range t (.map (some b))).run P w= .ok (.pointer (some ⟨w.heap.size,0,none⟩)) w'∧MR P k e w' b w.heap.size n s s cnt∧Grow w w':=by
 obtain ⟨ht,hk,he,hz⟩:=mapB_spec hm
 obtain ⟨D,h,hd,hh⟩:=h
 obtain ⟨w',hr,hR,hg,_⟩:=h.range (int_keyed hk) ht
 exact ⟨w',_,hr,⟨D,_,hR,hd,hh,hh⟩,⟨hg.os,hg.tape,hg.output,hg.size,fun i hi _=>hg.block i hi (by simp)⟩⟩
theorem keyOf_int_inv {key:Value} {kl:Lit} (hk:P.underlying k=some (.int .i64)) (h:keyOf P k key=some kl): ∃a:Int,key= .int .i64 a∧kl= .int .i64 a∧(Lit.int .i64 a).wf=true:=by
 cases key<;>simp [keyOf,hk,mapKey] at h
 rename_i q a
 obtain ⟨h1,rfl⟩:=h
 obtain ⟨rfl,h2⟩:=h1
 exact ⟨a,rfl,rfl,h2⟩
theorem MR.next (hm:mapB P t k e=true) (h:MR P k e w b r n s lf cnt) (ty:TypeId):
 (cnt=0∧(∀a,lf a=false)∧(Instr.next (.pointer (some ⟨r,0,none⟩)) false ty).run P w= .ok (.tuple #[.bool false]) w)∨
 ∃ (a:Int) (v:Value) (w':World) (cnt':Nat),lf a=true∧(Lit.int .i64 a).wf=true∧(Instr.next (.pointer (some ⟨r,0,none⟩)) false ty).run P w= .ok (.tuple #[.bool true,.int .i64 a,v]) w'∧
   (Instr.entry (.pointer (some ⟨r,0,none⟩))).run P w'= .ok (.tuple #[.int .i64 a,v]) w'∧MR P k e w' b r n s (fun x=>lf x && x !=a) cnt'∧cnt'<cnt∧Mod (·=r) w w':=by
 obtain ⟨ht,hk,he,hz⟩:=mapB_spec hm
 obtain ⟨D,left,h,hd,hh,hl⟩:=h
 rcases h.next (int_keyed hk) ty with ⟨h0,h1,h2⟩| ⟨key,v,kl,y,w',cnt',h1,h2,h3,h4,h5,h6,h7,h8,h9,h10⟩
 · exact .inl ⟨h0,fun a=>by rw [← hl];exact h1 _,h2⟩
 · obtain ⟨a,rfl,rfl,ha⟩:=keyOf_int_inv hk h1
   refine .inr ⟨a,v,w',cnt',by rw [← hl];exact h2,ha,h5,h10,⟨D,_,h6,hd,hh,fun x=> ?_⟩,h7,⟨h8.os,h8.tape,h8.output,h8.size,fun i hi hn=>h8.block i hi fun e=>hn (Option.some.inj e)⟩⟩
   show (left (.int .i64 x) && !(Lit.sameKey (.int .i64 x) (.int .i64 a)))=_
   rw [hl x]
   congr 1
   simp [Lit.sameKey,bne]
   rfl
def mapI (P:Program) (t k e:TypeId):Bool:=
 (match P.underlying t with|some (.map k' e')=>Nat.beq k' k && Nat.beq e' e|_=>false) && (match P.underlying k with|some (.int .i64)=>true|_=>false) && (match P.underlying e with|some (.int .i64)=>true|_=>false) && (match P.info? e with|some i=> (match i.zero with|some (.int .i64 n)=>n==0|_=>false)|none=>false)
theorem mapI_spec (h:mapI P t k e=true):P.underlying t=some (.map k e)∧P.underlying k=some (.int .i64)∧P.underlying e=some (.int .i64)∧∀w,(zeroValue e).run P w= .ok (.int .i64 0) w:=by
 simp only [mapI,Bool.and_eq_true] at h
 obtain ⟨⟨⟨h1,h2⟩,h3⟩,h4⟩:=h
 split at h1
 · rename_i k' e' hu
   simp only [Bool.and_eq_true] at h1
   have e1:k'=k:=Nat.eq_of_beq_eq_true h1.1
   have e2:e'=e:=Nat.eq_of_beq_eq_true h1.2
   subst e1 e2
   refine ⟨hu,?_,?_,?_⟩
   · split at h2
     · assumption
     · simp at h2
   · split at h3
     · assumption
     · simp at h3
   · intro w
     split at h4
     · rename_i i hi
       split at h4
       · rename_i n hz
         have:n=0:=by simpa using h4
         subst this
         unfold zeroValue
         simp only [Sem.run_bind,run_info_some hi,Result.andThen_ok,hz,Sem.run_pure]
       · simp at h4
     · simp at h4
 · simp at h1
def MI (P:Program) (k e:TypeId) (w:World) (b n:Nat) (s:Int→Int):Prop:=
 ∃D:DataW Unit,w.ownsMap P k (plainElem P e) b n D∧∀a:Int,D.atKey (.int .i64 a) (.lit (.int .i64 0))= .lit (.int .i64 (s a))
theorem MI.lt {s:Int→Int} (h:MI P k e w b n s):b<w.heap.size:=by obtain ⟨D,h,_⟩:=h;exact h.lt
theorem MI.keep {s:Int→Int} {S:Nat→Prop} (h:MI P k e w b n s) (m:Mod S w w') (hs: ¬S b):MI P k e w' b n s:=by
 have hl:=h.lt
 obtain ⟨D,⟨es,clock,hb,h⟩,hd⟩:=h
 exact ⟨D,⟨es,clock,(m.block b hl hs).trans hb,h⟩,hd⟩
theorem MI.grow {s:Int→Int} (h:MI P k e w b n s) (m:Grow w w'):MI P k e w' b n s:=h.keep m id
theorem MI.new {b:Nat} (h:New (.map #[] 0) w b w'):MI P k e w' b 0 fun _=>0:=by
 obtain ⟨rfl,rfl⟩:=h
 exact ⟨.map [],World.ownsMap_made w P k _,fun a=>rfl⟩
theorem MI.look {s:Int→Int} (hm:mapI P t k e=true) (h:MI P k e w b n s) {a:Int} (ha:(Lit.int .i64 a).wf=true):(Instr.lookup t (.map (some b)) (.int .i64 a) false).run P w= .ok (.int .i64 (s a)) w:=by
 obtain ⟨ht,hk,he,hz⟩:=mapI_spec hm
 obtain ⟨D,h,hd⟩:=h
 obtain ⟨c,h1,h2,h3⟩:=h.lookup_int (int_keyed hk) ht he (hz w) (keyOf_int_mk hk ha)
 rw [hd a] at h2
 have:s a=c:=by simpa using h2
 rw [h1,this]
theorem MI.put {s:Int→Int} (hm:mapI P t k e=true) (h:MI P k e w b n s) (hn:n<maxLen) {a:Int} (ha:(Lit.int .i64 a).wf=true) {v:Int} (hv:(Lit.int .i64 v).wf=true):
 ∃w',(Instr.mapUpdate t (.map (some b)) (.int .i64 a) (.int .i64 v)).run P w= .ok () w'∧MI P k e w' b (n+1) (fun u=>if u=a then v else s u)∧Mod (·=b) w w':=by
 obtain ⟨ht,hk,he,hz⟩:=mapI_spec hm
 obtain ⟨D,h,hd⟩:=h
 have him:=h.isMap
 obtain ⟨w',hr,h',hg⟩:=h.update (int_keyed hk) ht hn (keyOf_int_mk hk ha) (plainElem_int (H:=Unit) he hv)
 refine ⟨w',hr,⟨_,h',fun u=> ?_⟩,⟨hg.os,hg.tape,hg.output,hg.size,fun i hi hn=>hg.block i hi fun e=>hn (Option.some.inj e)⟩⟩
 by_cases hu:u=a
 · subst hu
   exact (atKey_put_same him (show WideAt.IsKeyLit (.int .i64 u) from trivial) _ _).trans (by simp)
 · exact ((atKey_put_other (fun e=>hu (by injection e)) _ _).trans (hd u)).trans (by simp [hu])
end
end Go.Fw
