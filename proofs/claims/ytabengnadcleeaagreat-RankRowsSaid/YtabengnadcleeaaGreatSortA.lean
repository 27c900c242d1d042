/- Where the library's sort lies in the program. -/
import Derived.Test.YtabengnadcleeaaGreatGenRows
import Derived.Shelf.SlSortCmp.NoneTotal
import Derived.Test.YtabengnadcleeaaGreatFwMem
import Derived.Test.YtabengnadcleeaaGreatFwSlice
import Derived.Test.YtabengnadcleeaaGreatPureA
namespace Go.Proofs.YtabengnadcleeaaGreat.W
open Go
def srtR:Go.Shelf.Ren:=⟨fun|6=>98|15=>121|14=>127|28=>131|29=>132|20=>134|21=>135|22=>136|23=>137|24=>138|25=>139|26=>140|27=>141|46=>143|47=>144|48=>145|49=>146|50=>147|57=>149|n=>n,fun|22=>28|24=>3|25=>138|39=>162|53=>170|55=>172|46=>175|45=>174|50=>105|66=>181|70=>185|76=>188|77=>189|n=>n,id⟩
end Go.Proofs.YtabengnadcleeaaGreat.W
namespace Go.Fw
open Go Go.RowKit
variable {P:Program}
theorem equal_nil_map {t k e:TypeId} (hu:P.underlying t=some (.map k e)) (p:Option Nat) (w:World):
 (Op.equal t (.map p) (.map none)).run P w= .ok p.isNone w:=by
 unfold Op.equal
 rw [show Op.maxDepth=9999+1 from rfl]
 unfold Op.equalIn
 cases p<;>simp [run_und_some hu]
theorem map_eql {t k e:TypeId} (hu:P.underlying t=some (.map k e)) (x y:Operand) (p:Option Nat) (w:World):
 (do eqGuard .eql t x y (.map p) (.map none);binOp .eql t (.map p) (.map none)).run P w= .ok (.bool p.isNone) w:=by
 have hg:(eqGuard .eql t x y (.map p) (.map none)).run P w= .ok () w:=by simp [eqGuard]
 rw [Sem.run_bind,hg,Result.andThen_ok]
 show (do pure (Value.bool (← Op.equal t (.map p) (.map none)))).run P w=_
 rw [Sem.run_bind,equal_nil_map hu]
 rfl
theorem map_neq {t k e:TypeId} (hu:P.underlying t=some (.map k e)) (x y:Operand) (p:Option Nat) (w:World):
 (do eqGuard .neq t x y (.map p) (.map none);binOp .neq t (.map p) (.map none)).run P w= .ok (.bool (!p.isNone)) w:=by
 have hg:(eqGuard .neq t x y (.map p) (.map none)).run P w= .ok () w:=by simp [eqGuard]
 rw [Sem.run_bind,hg,Result.andThen_ok]
 show (do pure (Value.bool (!(← Op.equal t (.map p) (.map none))))).run P w=_
 rw [Sem.run_bind,equal_nil_map hu]
 rfl
end Go.Fw
namespace Go.Proofs.YtabengnadcleeaaGreat.W
open Go Go.Fw Go.RowKit Go.SoP
abbrev Bk (p:Option Addr):Nat→Prop:=fun b=>blk p=some b
theorem wN {x:Int} {i:Nat} (h:x=i) (hb:i<9223372036854775808):IntKind.i64.wrap x=i:=by
 subst h
 exact wrap64_of (by omega) (by omega)
theorem bears_k {P:Program} {n:FuncId} {B:Func} (h1:((P.funcs[n]?.getD B).name== "runtime.NumGoroutine")=false) (h2:P.funcs[n]? =some {B with name:=(P.funcs[n]?.getD B).name}):Bears P n B:=⟨_,h1,h2⟩
theorem srtL:SlLaysF.n6 Tryz.prog srtR:=by
 constructor
 all_goals first|kernel_rfl| (intro w;kernel_rfl)|exact bears_k (by kernel_rfl) (by kernel_rfl)
def Gdr (w w':World):Prop:= ∃q os,w'=Sort.grow (w.drewN q) os
theorem Gdr.refl (w:World):Gdr w w:=⟨0,#[],by simp [Sort.grow,World.drewN]⟩
theorem Gdr.trans {a b c:World} (h:Gdr a b) (k:Gdr b c):Gdr a c:=by
 obtain ⟨q,os,rfl⟩:=h
 obtain ⟨q',os',rfl⟩:=k
 exact ⟨q+q',os++os',by unfold Sort.grow World.drewN;simp only [Array.append_assoc,Nat.add_assoc]⟩
theorem Gdr.drew {a b:World} (h:Gdr a b):Gdr a b.drew:=h.trans ⟨1,#[],by rw [Sort.grow_empty];rfl⟩
theorem Gdr.grow {a b:World} (h:Gdr a b):Grow a b:=by
 obtain ⟨q,os,rfl⟩:=h
 refine ⟨rfl,rfl,rfl,by simp [Sort.grow,World.drewN],fun k hk _=> ?_⟩
 show (a.heap++os)[k]? =_
 rw [Array.getElem?_append_left hk]
structure Cx (w0:World) (p:Option Addr) (n:Nat) (l0:List Int) (fid:FuncId) (fv:Array Value) (cf:Int→Int→Int):Prop where
 hn:n=l0.length
 hm:n≤1152921504606846976
 he:entB Tryz.prog fid=true
 hf: ∀x∈l0,∀y∈l0,∀w,Mod (Bk p) w0 w→Calls Tryz.prog fid (#[]++ #[.int .i64 x,.int .i64 y]++fv) w fun e w2=>e= .returned (.int .i64 (cf x y))∧Gdr w w2
 o:Ord cf
variable {w0 w:World} {p:Option Addr} {n c:Nat} {l0 l:List Int} {fid:FuncId} {fv:Array Value} {cf:Int→Int→Int}
theorem enter_of {P:Program} {g:FuncId} (h:entB P g=true) (ar:Array Value) (w:World):(callFunc g ar).run P w= .ok (.enter g ar) w:=by
 unfold entB at h
 unfold callFunc
 simp only [Sem.run_bind,run_program,Result.andThen_ok]
 split at h
 · rename_i fn hfn
   simp only [Bool.and_eq_true,bne_iff_ne,ne_eq] at h
   simp only [hfn]
   have h1:(fn.name== "runtime.NumGoroutine")=false:=by simpa using h.2
   have h2:fn.body.isNone=false:=by cases hbd:fn.body<;>simp_all
   simp [h1,h2]
 · simp at h
theorem srt_mod {α:Type} [Inhabited α] (enc:α→Value) (w:World) (b m:Nat) (d:Array α) (os:Array Obj):Mod (fun k=>k=b) w (sortWorld enc w b 0 m d os):=by
 refine ⟨rfl,rfl,rfl,?_,fun k hk hne=> ?_⟩
 · simp [sortWorld,Sort.grow,Sort.putRow,Sort.mapBlock,Sort.ahead]
 · show ((w.heap.modify b _)++os)[k]? =_
   rw [Array.getElem?_append_left (by simpa using hk),Array.getElem?_modify,if_neg fun e=>hne e.symm]
theorem sort_ok (X:Cx w p n l fid fv cf) (h:OwI ty_int w p c l):
 Calls Tryz.prog slices_SortFunc_int_int.id #[.slice p n c,.func (.func fid) #[] fv] w fun e w'=>e= .returned (.tuple #[])∧∃l',OwI ty_int w' p c l'∧Mod (Bk p) w w'∧l'.Perm l∧SortedR cf l' 0 l'.length:=by
 rcases Nat.eq_zero_or_pos l.length with h0|h0
 · have hn:n=0:=by rw [X.hn,h0]
   subst hn
   refine (AnyF.slices_SortFunc_none (P:=Tryz.prog) (ρ:=srtR) {srtL with} p c _ w).mono ?_
   rintro e w' ⟨rfl,rfl⟩
   exact ⟨rfl,l,h,Mod.refl _,.refl l,fun i j _ _ hj=>by omega⟩
 · rcases h.un with ⟨_,_,e⟩| ⟨b,cur,rfl,hb,h1,h2,h3,h4⟩
   · rw [e] at h0;simp at h0
   · haveI:Inhabited {x:Int // x∈l}:=⟨⟨l[0],List.getElem_mem h0⟩⟩
     obtain ⟨d,hd⟩: ∃d:Array {x:Int // x∈l},d=l.attach.toArray:=⟨_,rfl⟩
     have ds:d.size=n:=by rw [hd,X.hn];simp
     have dget: ∀j (hj:j<l.length),(d[j]!).1=l[j]:=fun j hj=>by
      have:j<d.size:=by rw [ds,X.hn];exact hj
      rw [getElem!_pos d j this]
      simp [hd]
     have hbd:=X.hm
     have hsw:Go.Sort.SWO (Go.Proofs.ltOf fun a b: {x:Int // x∈l}=>cf a.1 b.1):=by
      refine ⟨fun x=> ?_,fun x y z h1 h2=> ?_,fun x y z h1 h2=> ?_⟩
      · exact decide_eq_false X.o.rfl
      · simp only [ltOf,decide_eq_true_eq] at*
        exact X.o.lt_le h1 (X.o.lt h2)
      · simp only [ltOf,decide_eq_false_iff_not] at*
        exact X.o.trans h2 h1
     have key:=Any.slices_SortFunc srtL (fun a: {x:Int // x∈l}=>Value.int .i64 a.1) (fun _=>rfl) (fun a b=>cf a.1 b.1) hsw fid fv b 0 c d w (enter_of X.he)
      (fun m os dk _ x y=> ?_) (fun j hj=> ?_) ?_ (by omega)
     · rw [ds] at key
       refine key.mono ?_
       rintro e w' ⟨rfl,d',m,os,hp,hs,rfl⟩
       obtain ⟨q1,q2,q3⟩:=hp
       have ds':d'.size=n:=by rw [q1,ds]
       have hfull: ∀a:Array {x:Int // x∈l},a.size=n→(a.extract 0 n).toList=a.toList:=fun a ha=>by
        rw [← ha];simp
       rw [hfull _ ds',hfull _ ds] at q3
       have hl':(d'.toList.map (·.1)).length=n:=by simp [ds']
       have hperm:(d'.toList.map (·.1)).Perm l:=by
        have:=q3.map (·.1)
        rw [hd] at this
        simpa using this
       have gd: ∀i,i<n→(d'.toList.map (·.1)).getD i 0=(d'[i]!).1:=fun i hi=>by
        have:i<d'.size:=by omega
        rw [getElem!_pos d' i this]
        simp [List.getD,this]
       refine ⟨rfl,d'.toList.map (·.1),?_,(srt_mod _ w b m d' os).mono fun k _ (e:k=b)=>by rw [e];rfl,hperm,fun i j hi hij hj=> ?_⟩
       · refine Ow.of_some (cur:=Sort.putCells (fun a: {x:Int // x∈l}=>Value.int .i64 a.1) 0 d' cur) ?_ (by rw [hl',X.hn];exact h1) h2 ?_ ?_
         · show ((w.heap.modify b _)++os)[b]? =_
           have hlt:b<w.heap.size:=h.lt b rfl
           rw [Array.getElem?_append_left (by simpa using hlt),Array.getElem?_modify,if_pos rfl,hb]
           rfl
         · unfold Sort.putCells
           simp [h3]
         · refine List.ext_getElem ?_ fun j j1 j2=> ?_
           · unfold Sort.putCells
             simp [h3,ds'];rw [X.hn];exact Nat.min_eq_left h1
           · have hj:j<n:=by simpa [ds'] using j2
             unfold Sort.putCells
             have hj':j<d'.size:=by omega
             simp [ds',hj]
       · rw [hl'] at hj
         rw [gd i (by omega),gd j hj]
         have:=hs i j hi hij hj
         simpa [ltOf,Le] using this
     · refine (X.hf x.1 x.2 y.1 y.2 _ ((srt_mod _ w b m dk os).mono fun k _ (e:k=b)=>by rw [e];rfl)).mono ?_
       rintro e w2 ⟨rfl,g⟩
       exact ⟨rfl,g⟩
     · rw [ds,X.hn] at hj
       obtain ⟨g,e,hc⟩:=h.cell hj
       simp only [Option.some.injEq,Addr.mk.injEq] at e
       obtain ⟨rfl,_,_⟩:=e
       refine ⟨?_,frozen_of (cs:=cur) ⟨_,hb⟩⟩
       show w.cell? _=some (.int .i64 (d[j]!).1)
       rw [dget j hj,Nat.zero_add]
       exact hc
     · exact h.lt b rfl
end Go.Proofs.YtabengnadcleeaaGreat.W
