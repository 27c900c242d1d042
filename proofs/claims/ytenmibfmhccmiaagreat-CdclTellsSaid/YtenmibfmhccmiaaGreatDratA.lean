/- Layer 8: of which clauses a clause is at hand. -/
import Derived.Test.YtenmibfmhccmiaaGreatPropC
import Derived.Test.YtenmibfmhccmiaaGreatSortA
import Derived.Test.YtenmibfmhccmiaaGreatQuotaA
namespace Go.Proofs.YtenmibfmhccmiaaGreat.W
open Go Go.Fw Go.RowKit Go.SoP Go.LiP
section
variable {W w w' w0 w2 w3 u:World} {p q:Option Addr} {n m d b nl i:Nat} {id:List (Int × Int)} {hs ks:List Sl} {cs R:List (List Int)} {c l:List Int} {H H' H2:Pt->Sl} {s t s':aG} {K:List Nat} {vars:Nat}
theorem wM {e:Nat} (h:Vw Sl.v w p hs) (hn:n=hs.length) (hm:n<=100000):Calls Tryz.prog bX.id #[.slice p n e] w fun e w'=> ∃ (q:Option Addr) (d:Nat),e= .returned (.slice q hs.length d)/\Ow Sl.v aJ w' q d hs/\aq w w'/\(∀b,aI q=some b->w.heap.size<=b):=by
 refine bX.ah ?_;refine ao (fun s=> ?_) (fun s=> ?_)
 . have hp:p=none:=by cases p<;>simp at s ⊢
   subst hp;have:hs= []:=by
    rcases hs with _| ⟨x,l⟩
    . rfl
    . obtain ⟨a,ha,_⟩:=h 0 (by simp);cases ha
   subst this;exact ⟨none,0,rfl,Ow.nil _ _ _,aE.refl w,fun b hb=>by simp [aI] at hb⟩
 . intro U w1 h1;refine Ow.uZ (l:=([]:List Sl)) xf (bc.Jk h1) (h.grow h1.mod) rfl hn (fun _=>rfl) (by simp;omega) fun w2 p2 J o2 m2 I O=> ?_;rw [List.nil_append] at o2 ⊢;have Q:=h1.num;refine ⟨p2,J,rfl,o2,h1.mod.then m2 fun b hb e=> ?_,fun b hb=> ?_⟩
   . have:=bg e;omega
   . have:=h1.mod.size;rcases I with rfl|rfl
     . have:=bg hb;omega
     . have:=bg hb;omega
end
section
variable {W w w' w0 w2 w3 u:World} {p q:Option Addr} {n m d b nl i:Nat} {id:List (Int × Int)} {hs ks:List Sl} {cs R:List (List Int)} {c l:List Int} {H H' H2:Pt->Sl} {s t s' s2:aG} {K:List Nat} {vars:Nat} {mp:List (Int × Int)} {num:Nat->Nat}
theorem Hr {b:Nat} {sl:Sl} (h:bF w b #[.slice sl.p sl.n sl.c]):Vw Sl.v w (some ⟨b,0,none⟩) [sl]:=fun j I=>by
 have:j=0:=by simpa using I
 subst this;exact ⟨_,rfl,ad h rfl⟩
end
end Go.Proofs.YtenmibfmhccmiaaGreat.W
namespace Go.Fw
open Go Go.RowKit
variable {P:Program} {α:Type} {sz:Nat} {f:α->List Value} {T:TypeId} {w w':World} {p q:Option Addr} {c:Nat} {l:List α}
theorem xk (hf: ∀x,(f x).length=sz) {k:Nat} (I:k<=l.length):(l.flatMap f).take (k*sz)=(l.take k).flatMap f:=by
 conv=>lhs;rw [<- List.take_append_drop k l]
 rw [List.flatMap_append,List.take_append_of_le_length (by rw [it hf,List.length_take,Nat.min_eq_left I];exact Nat.le_refl _),List.take_of_length_le (by rw [it hf,List.length_take,Nat.min_eq_left I];exact Nat.le_refl _)]
theorem Dw (hf: ∀x,(f x).length=sz) {k:Nat} (I:k<=l.length):(l.flatMap f).drop (k*sz)=(l.drop k).flatMap f:=by
 conv=>lhs;rw [<- List.take_append_drop k l]
 rw [List.flatMap_append,List.drop_append_of_le_length (by rw [it hf,List.length_take,Nat.min_eq_left I];exact Nat.le_refl _),List.drop_of_length_le (by rw [it hf,List.length_take,Nat.min_eq_left I];exact Nat.le_refl _),List.nil_append]
theorem Row.cap (h:Row sz f T w p c l):l.length<=c:=by
 rcases h.un with ⟨_,_,rfl⟩| ⟨_,_,_,_,I,_⟩
 . simp
 . exact I
theorem Vr.part (h:Vr sz f w p l) {i m:Nat} (h1:i+m<=l.length):Vr sz f w (p.map (·.add (i*sz))) ((l.drop i).take m):=by
 intro j I;rw [List.length_take,List.length_drop] at I;obtain ⟨a,rfl,J⟩:=h (i+j) (by omega);refine ⟨_,rfl,?_⟩;rw [List.getElem_take,List.getElem_drop,pS,<- Nat.add_mul];exact J
theorem Row.Hh {t ty e bytes:Nat} (E:Do sz f) (hs:nP P t e sz bytes=true) (h:Row sz f e w p c l) {k m d:Nat} {news:List α} (h2:Vr sz f w q news) (hm:m=news.length) (I:k+m<=l.length) {K:World->Prop}
 (V: ∀w',Row sz f e w' p c (l.take k++news++l.drop (k+m))->aE (fun b=>aI p=some b) w w'->K w'):
 ∃w',(Builtin.append_ #[t,t] ty #[.slice p k c,.slice q m d]).run P w= .ok (.slice p (k+m) c) w'/\K w':=by
 obtain ⟨ht,i,z,hi,hz,h1,ax,h3⟩:=pO hs;subst hm;rcases Nat.eq_zero_or_pos news.length with X|X
 . have hn:news= []:=List.eq_nil_of_length_eq_zero X;subst hn;refine ⟨w,?_,V w (by simpa using h) (aE.refl w)⟩;rcases h.un with ⟨rfl,rfl,rfl⟩| ⟨g,cur,rfl,hg,g1,g2,g3,g4⟩<;>cases q<;>
    simp [Builtin.append_,run_underlying ht,sizeOf,typeInfo,Builtin.lenOf,Builtin.firstCells,loadCells,loadCellsFrom,storeCells, *]<;>simp at I<;>omega
 . obtain ⟨a,rfl,_⟩:=h2 0 X;rcases h.un with ⟨rfl,rfl,rfl⟩| ⟨g,cur,rfl,hg,g1,g2,g3,g4⟩
   . rw [List.length_nil] at I;omega
   . have J:=it E.len news;have Q: ∀u∈news.flatMap f,u.oneCell'=true:=fun u hu=>by obtain ⟨x,_,hx⟩:=List.mem_flatMap.1 hu;exact E.bS x u hx
     have U:k*sz+news.length*sz=(k+news.length)*sz:=(Nat.add_mul _ _ _).symm;have Z:k*sz+news.length*sz<=cur.size:=by rw [U,g3];exact Nat.mul_le_mul_right _ (by omega)
     have hr:=run_append_room (P:=P) w t ty e i ht hi g k c cur hg a news.length d (news.flatMap f) (by rw [J,h1]) (h2.Kz E) Q (by omega) (by rw [h1,J];exact Z);rw [h1,J] at hr;have O:cur.toList.length=c*sz:=by simpa using g3
     have ap:l.length*sz<=c*sz:=Nat.mul_le_mul_right _ g1;have az:(k+news.length)*sz<=l.length*sz:=Nat.mul_le_mul_right _ I;have Y:k*sz<=l.length*sz:=Nat.mul_le_mul_right _ (by omega);refine ⟨_,hr,V _ (Row.dx E.len (setRow_heap w g cur _ e _ hg) (by simp;omega) g2 ?_ ?_) ⟨rfl,rfl,rfl,by simp,fun k _ V=>setRow_other w g k _ fun he=>V (by simp [aI,he])⟩⟩
     . simp only [List.size_toArray,List.length_append,List.length_take,List.length_drop,J,O];omega
     . have hl:(l.take k++news++l.drop (k+news.length)).length=l.length:=by simp;omega
       rw [hl,List.flatMap_append,List.flatMap_append,<- xk E.len (by omega),<- Dw E.len I,<- g4];rw [List.take_take,Nat.min_eq_left Y,<- U];simp only [List.append_assoc];rw [List.take_append,List.take_append];have e1:(cur.toList.take (k*sz)).length=k*sz:=by rw [List.length_take,O];omega
       rw [e1,J];rw [List.take_of_length_le (l:=cur.toList.take (k*sz)) (by rw [e1];omega),List.take_of_length_le (l:=news.flatMap f) (by rw [J];omega)];congr 2;rw [List.drop_take];congr 1;omega
theorem Row.clear {t ty e bytes:Nat} (E:Do sz f) (hs:nP P t e sz bytes=true) {x:α} {v:Value} (Z:(P.info? e).bind (·.zero)=some v) (hv:v.cells.toList=f x) (h:Row sz f e w p c l) {k d:Nat} (hk:k+1=l.length) {K:World->Prop}
 (hK: ∀w',Row sz f e w' p c (l.take k)->aE (fun b=>aI p=some b) w w'->K w'):
 ∃w',(Builtin.clear_ #[t] ty #[.slice (p.map (·.add (k*sz))) 1 d]).run P w= .ok (.tuple #[]) w'/\K w':=by
 obtain ⟨ht,i,z,hi,I,h1,hb,h3⟩:=pO hs;have Y:z=v:=by simp only [hi,Option.bind_some] at Z;rw [I] at Z;exact Option.some.inj Z
 subst Y;rcases h.un with ⟨rfl,rfl,rfl⟩| ⟨g,cur,rfl,hg,g1,g2,g3,g4⟩
 . simp at hk
 . have X:(Builtin.zeroCells z.cells 1).toList=f x:=by
    have an:z.cells.size=sz:=h3;rw [<- hv];simp [Builtin.zeroCells];apply List.ext_getElem
    . simp
    . intro i h1 h2;simp only [List.getElem_map,List.getElem_range];have:i<z.cells.size:=by simpa using h2
      simp [Nat.mod_eq_of_lt this,this]
   have ar:k*sz+sz<=c*sz:=by
    have:(k+1)*sz<=c*sz:=Nat.mul_le_mul_right _ (by omega)
    rwa [Nat.add_mul,Nat.one_mul] at this
   obtain ⟨w2,J,hh⟩:=sN (b:=g) (off:=0+k*sz) (i:=0) (vs:=f x) (K:=fun w'=> ∃V:World,V=w'/\w'.heap[g]? =some (.cells (wr cur (0+k*sz+0) (f x)) e (0,0))/\aE (·=g) w w') hg (by rw [E.len];omega) (by
    rw [List.all_eq_true];intro u hu;exact E.bS x u hu) fun w' a1 a2 _=> ⟨w',rfl,a1,a2⟩
   obtain ⟨_,_,a1,a2⟩:=hh;refine ⟨w2,?_,hK w2 ?_ (a2.mono fun b _ hb=>by subst hb;rfl)⟩
   . have hr:=gI (P:=P) ⟨g,0+k*sz,none⟩ _ _ _ _ J;have U:(zeroValue e:Sem Value).run P w= .ok z w:=by
      simp [zeroValue,typeInfo,hi,I,Sem.run_bind]
     simp only [Option.map_some,cX];rw [Nat.zero_add] at hr ⊢;simp [Builtin.clear_,run_underlying ht,U,X,hr]
   . have hl:(l.take k).length=k:=by simp;omega
     have O:cur.toList.length=c*sz:=by simpa using g3
     have Q:k*sz<=l.length*sz:=Nat.mul_le_mul_right _ (by omega);refine Row.dx E.len a1 (by omega) g2 (by rw [qH];exact g3) ?_;rw [hl,sO _ _ _ (by rw [E.len];omega),<- xk E.len (by omega),<- g4];rw [Nat.zero_add,Nat.add_zero,List.append_assoc,List.take_append_of_le_length (by rw [List.length_take,O];omega),List.take_take,Nat.min_self,List.take_take,Nat.min_eq_left Q]
end Go.Fw
namespace Go.Proofs.YtenmibfmhccmiaaGreat.W
open Go Go.Fw Go.RowKit Go.SoP Go.LiP
variable {w w' w0 w2 w3:World} {p q:Option Addr} {n m c d:Nat} {k:Int} {hs:List Sl} {cs:List (List Int)} {l:List Int}
abbrev Ap:=Bool × List Int
def lZ:Ap:=(false,[])
def SV (w:World) (p:Option Addr) (al:List Ap):Prop:= ∀i,i<al.length->∃ (a:Addr) (s:Sl),p=some a/\aD w (a.add (i*2)) 0 [.bool (al.getD i lZ).1,.slice s.p s.n s.c]/\
 s.n=(al.getD i lZ).2.length/\s.n<=maxLen/\Vw (Value.int .i64) w s.p (al.getD i lZ).2
theorem SV.grow {al:List Ap} (h:SV w p al) (g:aq w w'):SV w' p al:=by
 intro i hi;obtain ⟨a,s,rfl,J,h1,I,O⟩:=h i hi;exact ⟨a,s,rfl,aD.keep g id J,h1,I,O.grow g⟩
theorem SV.ix {al:List Ap} (h:SV w p al) (g:aq w w') {i n:Nat} (hn:n=al.length) (hi:i<al.length) {K:Addr->Prop}
 (O: ∀a (s:Sl),(∀u,aq w u->aD u a 0 [.bool (al.getD i lZ).1,.slice s.p s.n s.c])->s.n=(al.getD i lZ).2.length->s.n<=maxLen->Vw (Value.int .i64) w s.p (al.getD i lZ).2->K a):aV p n (i:Int) 2 K:=by
 subst hn;obtain ⟨a,s,rfl,Q,h1,I,U⟩:=h i hi;refine ⟨a,rfl,by omega,by omega,O _ s (fun u J=> ?_) h1 I U⟩;rw [Int.toNat_natCast];exact aD.keep J id Q
def mR (al:List Ap):Bool:=al.all fun x=>iu x.2
theorem zv:fM Tryz.prog fB.id=true:=by kernel_rfl
theorem BV {b:Bool} (h:Vw (Value.int .i64) w p l) (hn:n=l.length) (hm:n<=maxLen):Calls Tryz.prog fB.id #[.agg #[.bool b,.slice p n c]] w fun e w'=>e= .returned (.bool (!iu l))/\aq w w':=by
 refine fB.ah ?_;intro O w2 I;refine ⟨_,_,_,ad I.has rfl,(fg (h.grow I.mod) hn hm).mono ?_⟩;rintro e J ⟨rfl,g⟩;refine ⟨_,rfl,?_,I.mod.trans g⟩;cases iu l<;>rfl
theorem vk {al:List Ap} (h:SV w p al) (hn:n=al.length) (hm:n<=262144):Calls Tryz.prog iN.id #[.slice p n c] w fun e w'=>e= .returned (.int .i64 (if mR al then 0 else 1))/\aq w w':=by
 subst hn;refine iN.ah (bm (by simp;omega) ?_);refine (bf.ah (R:=fun e w'=>e= .returned (.bool (!mR al))/\aq w w') ?_).mono ?_
 . refine (aU.ah (R:=fun e w'=> ∃r:Int,e= .returned (.int .i64 r)/\(decide (r>=0)= !mR al)/\aq w w') ?_).mono ?_
   . refine ⟨fun I u z=> ∃i:Nat,I=i/\z=al.length - i/\i<=al.length/\aq w u/\∀j,j<i->iu (al.getD j lZ).2=true,⟨_,0,rfl,rfl,by omega,aE.refl w,fun j Q=>by omega⟩,?_⟩;rintro I u z _ ⟨i,rfl,rfl,hi,g,J⟩;refine ao (fun r=> ?_) (fun r=> ?_)
     . have r:i<al.length:=by simpa using r
       have O:al.getD i lZ∈al:=by simp [List.getD,r]
       refine h.ix g rfl r fun a s hc h1 X Y=> ⟨_,_,_,_,hc u g,?_⟩
       rw [zv];show Calls _ _ _ _ _;rw [Fm];refine (BV (Y.grow g) h1 X).mono ?_;rintro e w9 ⟨rfl,V⟩;refine ⟨_,rfl,ao (fun U=> ⟨_,rfl,?_,g.trans V⟩) (fun U=> ⟨_,by omega,i+1,wN (by omega) (by omega),rfl,r,g.trans V,fun j Q=> ?_⟩)⟩
       . have:mR al=false:=by
          rw [<- Bool.not_eq_true];intro e;unfold mR at e;rw [List.all_eq_true] at e;rw [e _ O] at U;cases U
         rw [this];simp
       . by_cases e:j<i
         . exact J j e
         . obtain rfl:j=i:=by omega
           simpa using U
     . have r:i=al.length:=by simp at r;omega
       subst r;have:mR al=true:=by
        unfold mR;rw [List.all_eq_true];intro x Z;obtain ⟨j,Q,rfl⟩:=List.mem_iff_getElem.1 Z;have:=J j Q;simpa [List.getD,Q] using this
       rw [this];exact ⟨_,rfl,by decide,g⟩
   . rintro e w1 ⟨r,rfl,hr,g⟩;exact ⟨r,rfl,by rw [hr],g⟩
 . rintro e w1 ⟨rfl,g⟩;refine ⟨_,rfl,ao (fun r=> ?_) (fun r=> ?_)⟩
   . have:mR al=false:=by simpa using r
     rw [this];exact ⟨rfl,g⟩
   . have:mR al=true:=by simpa using r
     rw [this];exact ⟨rfl,g⟩
theorem il {b:Nat} {x y:Value} (h:bF w b #[x,y]):aD w ⟨b,0,none⟩ 0 [x,y]:=⟨ad h rfl,ad h rfl,trivial⟩
theorem Gj (J:V2 (Value.int .i64) w p hs cs) (hn:n=cs.length):Calls Tryz.prog dy.id #[.agg #[.int .i64 k,.slice p n d]] w fun e w'=> ∃r:Bool,e= .returned (.bool r)/\(r=true->cs.length<=40)/\aq w w':=by
 subst hn;refine dy.ah ?_;intro Q w2 I;refine ⟨_,_,_,_,il I.has,(Ew (J.grow I.mod) rfl).mono ?_⟩;rintro e O ⟨r,rfl,g⟩;refine ⟨_,rfl,ao (fun _=> ?_) (fun _=> ⟨false,rfl,fun e=> (by cases e),I.mod.trans g⟩)⟩;exact ⟨_,_,_,ad (I.has.grow g) rfl,_,rfl,fun e=>by rw [decide_eq_true_eq] at e;omega,I.mod.trans g⟩
theorem DF (U:V2 (Value.int .i64) w p hs cs) (hn:n=cs.length) (hl:Vw (Value.int .i64) w q l) (hm:m=l.length) (J:m<=maxLen) {c d:Nat}:Calls Tryz.prog oC.id #[.agg #[.int .i64 k,.slice p n d],.slice q m c] w fun e w'=>e= .returned (.bool (dH k cs && iu l))/\aq w w':=by
 subst hn;refine oC.ah ?_;intro Y w2 I;refine ⟨_,_,_,_,il I.has,(jJ (U.grow I.mod) rfl).mono ?_⟩;rintro e V ⟨rfl,g⟩;refine ⟨_,rfl,?_⟩;cases Q:dH k cs with
 |false=>exact bm rfl ⟨rfl,I.mod.trans g⟩
 |true=>
  refine cj rfl ((fg (hl.grow (I.mod.trans g)) hm J).mono ?_);rintro e X ⟨rfl,O⟩;refine ⟨_,rfl,?_,(I.mod.trans g).trans O⟩;cases iu l<;>rfl
end Go.Proofs.YtenmibfmhccmiaaGreat.W
