/- Slices that one has made: rows of one-cell elements. -/
import Derived.Test.YtenmibfmhccmiaaGreatFwMem
import Derived.Laws.AppendOwn
import Derived.Laws.OwnMore
import Derived.Test.YtenmibfmhccmiaaGreatGenCdcl
namespace Go.Fw
open Go Go.RowKit
variable {P:Program} {α:Type} {f:α->Value} {T:TypeId} {w w':World} {p:Option Addr} {c:Nat} {l:List α}
def Ow (f:α->Value) (T:TypeId) (w:World) (p:Option Addr) (c:Nat) (l:List α):Prop:=w.ownsRow 0 T 1 (.slice p l.length c) l.length (l.map f)
abbrev da:=Ow (Value.int .i64)
def aJ (p:Option Addr):Option Nat:=p.map (·.block)
theorem Ow.nil (f:α->Value) (T:TypeId) (w:World):Ow f T w none 0 []:=World.ownsRow_nil w 0 T 1
theorem Ow.cap (h:Ow f T w p c l):l.length<=maxLen:=by
 rcases h.2 with ⟨_,h⟩| ⟨g,cap,cur,h,_,_,h1,I,_⟩
 . rw [h];exact Nat.zero_le _
 . omega
theorem Ow.un (h:Ow f T w p c l):(p=none/\c=0/\l= [])\/∃g cur,p=some ⟨g,0,none⟩/\w.heap[g]? =some (.cells cur T (0,0))/\l.length<=c/\c<=maxLen/\cur.size=c/\cur.toList.take l.length=l.map f:=by
 rcases h.2 with ⟨h1,I⟩| ⟨g,cap,cur,h1,_,I,J,Q,h5,O⟩
 . simp only [Value.slice.injEq] at h1;exact .inl ⟨h1.1,h1.2.2,List.eq_nil_of_length_eq_zero I⟩
 . simp only [Value.slice.injEq] at h1;obtain ⟨rfl,_,rfl⟩:=h1;exact .inr ⟨g,cur,rfl,I,J,Q,by simpa using h5,by simpa using O⟩
theorem Ow.dx {g:Nat} {cur:Array Value} (I:w.heap[g]? =some (.cells cur T (0,0))) (h1:l.length<=c) (O:c<=maxLen) (Q:cur.size=c) (J:cur.toList.take l.length=l.map f):Ow f T w (some ⟨g,0,none⟩) c l:=
 ⟨by simp,.inr ⟨g,c,cur,rfl,Nat.zero_le _,I,h1,O,by simpa using Q,by simpa using J⟩⟩
theorem Ow.lt (h:Ow f T w p c l): ∀b,aJ p=some b->b<w.heap.size:=by
 intro b hb;rcases h.un with ⟨rfl,_⟩| ⟨g,cur,rfl,J,_⟩
 . simp [aJ] at hb
 . simp [aJ] at hb;subst hb;rcases Nat.lt_or_ge g w.heap.size with I|I
   . exact I
   . simp [Array.getElem?_eq_none I] at J
theorem Ow.keep {S:Nat->Prop} (h:Ow f T w p c l) (m:aF S w w') (hs: ∀b,aJ p=some b->¬S b):Ow f T w' p c l:=by
 have hl:=h.lt;rcases h.un with ⟨rfl,rfl,rfl⟩| ⟨g,cur,rfl,O,h1,Q,I,J⟩
 . exact Ow.nil f T w'
 . exact Ow.dx ((m.block g (hl g rfl) (hs g rfl)).trans O) h1 Q I J
theorem Ow.grow (h:Ow f T w p c l) (m:ao w w'):Ow f T w' p c l:=h.keep m fun _ _=>id
theorem Ow.drew (h:Ow f T w p c l):Ow f T w.drew p c l:=h
theorem Ow.cell (h:Ow f T w p c l) {j:Nat} (I:j<l.length): ∃g,p=some ⟨g,0,none⟩/\w.cell? ⟨g,j,none⟩=some (f l[j]):=by
 rcases h.un with ⟨_,_,rfl⟩| ⟨g,cur,rfl,O,h1,U,Q,J⟩
 . simp at I
 . refine ⟨g,rfl,aQ ⟨T,O⟩ ?_⟩;have:(cur.toList.take l.length)[j]? =some (f l[j]):=by rw [J];simp [I]
   rw [List.getElem?_take,if_pos I] at this;simpa using this
theorem Ow.ix (h:Ow f T w p c l) {i:Int} {n:Nat} (d:α) (O:0<=i) (hn:n=l.length) (h1:i<n) {K:Addr->Prop} (I: ∀a,w.cell? a=some (f (l.getD i.toNat d))->K a):aP p n i 1 K:=by
 subst hn;obtain ⟨g,rfl,J⟩:=h.cell (j:=i.toNat) (by omega);refine ⟨_,rfl,O,h1,I _ ?_⟩;rw [Nat.mul_one,c5,Nat.zero_add,J];simp [List.getD,show i.toNat<l.length by omega]
theorem map_set (f:α->Value): ∀ (l:List α) (j:Nat) (x:α),(l.set j x).map f=(l.map f).set j (f x)
 | [],_,_=>rfl
 |_::_,0,_=>rfl
 |y::l,j+1,x=>by simp [map_set f l j x]
theorem Ow.st (h:Ow f T w p c l) {i:Int} {n:Nat} {v:Value} (x:α) (hv:v=f x) (U:iU v=true) (Q:0<=i) (hn:n=l.length) (h1:i<n) {K:World->Prop}
 (I: ∀w',Ow f T w' p c (l.set i.toNat x)->aF (fun b=>aJ p=some b) w w'->K w'):aP p n i 1 fun a=> ∃w',ah a 0 [v] w w'/\K w':=by
 subst hn hv;rcases h.un with ⟨_,_,rfl⟩| ⟨g,cur,rfl,J,X,Y,V,h5⟩
 . simp at h1;omega
 . refine ⟨_,rfl,Q,h1,?_⟩;rw [Nat.mul_one,c5,Nat.zero_add];have O:i.toNat<cur.size:=by omega
   refine ⟨w.setCell ⟨g,i.toNat,none⟩ (f x),⟨⟨cur[i.toNat],ae ⟨T,J⟩ (by simp [O])⟩,by rw [c5];exact pY ⟨T,J⟩,U,by rw [c5];rfl⟩,I _ ?_ ?_⟩
   . refine Ow.dx (cur:=cur.setIfInBounds i.toNat (f x)) (vn J _ O) (by simpa using X) Y (by simpa using V) ?_;rw [map_set,<- h5,Array.toList_setIfInBounds,List.length_set,List.take_set]
   . exact ⟨rfl,rfl,rfl,by simp,fun k _ I=>Below.heap_setCell w _ _ k fun e=>I (by simp [aJ,e])⟩
def mB (P:Program) (t e:TypeId) (bytes:Nat):Bool:=
 (match P.underlying t with|some (.slice I)=>Nat.beq I e|_=>false) && (match P.info? e with|some i=>Nat.beq i.size 1 && Nat.beq i.bytes bytes && (match i.zero with|some z=>Nat.beq z.cells.size 1|none=>false)|none=>false)
theorem kW {t e bytes:Nat} (h:mB P t e bytes=true):P.underlying t=some (.slice e)/\∃i z,P.info? e=some i/\i.zero=some z/\i.size=1/\i.bytes=bytes/\z.cells.size=1:=by
 simp only [mB,Bool.and_eq_true] at h;obtain ⟨h1,I⟩:=h;split at h1
 . rename_i U he;have:U=e:=Nat.eq_of_beq_eq_true h1;subst this;split at I
   . rename_i i hi;simp only [Bool.and_eq_true] at I;obtain ⟨⟨J,O⟩,h5⟩:=I;split at h5
     . rename_i z Q;exact ⟨he,i,z,hi,Q,Nat.eq_of_beq_eq_true J,Nat.eq_of_beq_eq_true O,Nat.eq_of_beq_eq_true h5⟩
     . simp at h5
   . simp at I
 . simp at h1
theorem Ow.cells (h:Ow f T w p c l) {g:Nat} (hp:p=some ⟨g,0,none⟩): ∀j u,(l.map f)[j]? =some u->w.cell? ((⟨g,0,none⟩:Addr).add j)=some u:=by
 intro j u J;subst hp;have hl:j<l.length:=by have:=(List.getElem?_eq_some_iff.1 J).1;simpa using this
 obtain ⟨Q,I,O⟩:=h.cell hl;simp only [Option.some.injEq,Addr.mk.injEq,and_true] at I;subst I;rw [c5,Nat.zero_add,O];simpa [hl] using J
theorem Ow.mN {t ty e bytes:Nat} (hs:mB P t e bytes=true) (h:Ow f e w p c l) {a:Addr} {m k n:Nat} (hn:n=l.length) (news:List α) (hm:news.length=m) (X:0<m) (hc: ∀j (hj:j<news.length),w.cell? (a.add j)=some (f news[j])) (ho: ∀x,(f x).oneCell'=true)
 (hlen:(l.length+m)* (bytes+1)<=140737488355328) {K:World->Option Addr->Nat->Nat->Prop}
 (J: ∀w' V c',Ow f e w' V c' (l++news)->aF (fun b=>aJ p=some b) w w'->(V=p\/V=some ⟨w.heap.size,0,none⟩)->w.heap.size<=w'.heap.size->K w' V (l++news).length c'):
 ∃w',∃V n' c',(Builtin.append_ #[t,t] ty #[.slice p n c,.slice (some a) m k]).run P w= .ok (.slice V n' c') w'/\K w' V n' c':=by
 obtain ⟨ht,i,z,hi,hz,h1,h2,h3⟩:=kW hs;subst hn hm;have hb:(l.length+news.length)*bytes<=140737488355328:=Nat.le_trans (Nat.mul_le_mul_left _ (Nat.le_succ _)) hlen;have Z:l.length+news.length<=140737488355328:=Nat.le_trans (Nat.le_mul_of_pos_right _ (Nat.succ_pos _)) hlen;have I:(l++news).length=l.length+news.length:=by simp
 have O:(news.map f).length=news.length*i.size:=by simp [h1]
 have U: ∀j u,(news.map f)[j]? =some u->w.cell? (a.add j)=some u:=by
  intro j u hj;have Y:j<news.length:=by have:=(List.getElem?_eq_some_iff.1 hj).1;simpa using this
  rw [hc j Y];simpa [Y] using hj
 have bV: ∀sI,sI<l.length+news.length->Ow f e (w.drew.alloc (.cells ((l.map f).toArray++ (news.map f).toArray++Builtin.zeroCells z.cells (grownCap w (l.length+news.length) sI e - (l.length+news.length))) e))
  (some ⟨w.heap.size,0,none⟩) (grownCap w (l.length+news.length) sI e) (l++news):=by
  intro sI _;have ar:=grownCap_ge w (l.length+news.length) sI e;have aa:grownCap w (l.length+news.length) sI e<=maxLen:=grownCap_le_maxLen w _ sI e (by simp only [maxLen];omega);refine Ow.dx (cur:=(l.map f).toArray++ (news.map f).toArray++Builtin.zeroCells z.cells (grownCap w (l.length+news.length) sI e - (l.length+news.length))) ?_ (by omega) aa ?_ ?_
  . exact Array.getElem?_push_size
  . simp only [Array.size_append,List.size_toArray,List.length_map,size_zeroCells,h3];omega
  . simp only [Array.toList_append,List.map_append];rw [List.take_append_of_le_length (by simp),List.take_of_length_le (by simp)]
 have gr: ∀ (o:Obj),aF (fun b=>aJ p=some b) w (w.drew.alloc o):=fun o=> ⟨rfl,rfl,rfl,by simp,fun k J _=>Below.heap_alloc w.drew o k J⟩
 rcases h.un with ⟨rfl,rfl,rfl⟩| ⟨g,cur,rfl,hg,g1,g2,g3,g4⟩
 . have hr:=run_append_nil (P:=P) w t ty e i z ht hi hz a news.length k (news.map f) O U X (by simp at Z;omega) (by rw [h2];simp at hb;omega);have hf:=bV 0 (by simp;omega);simp only [List.length_nil,Nat.zero_add,List.map_nil,List.nil_append] at hf hr I J ⊢;refine ⟨_,_,_,_,hr,?_⟩;refine J _ _ _ (by simpa using hf) (gr _) (.inr rfl) (by simp)
 . by_cases Q:l.length+news.length<=c
   . have hr:=run_append_room (P:=P) w t ty e i ht hi g l.length c cur hg a news.length k (news.map f) O U (fun u hu=>by obtain ⟨x,_,rfl⟩:=List.mem_map.1 hu;exact ho x) Q (by simp [h1];omega);refine ⟨_,_,_,_,hr,?_⟩;rw [<- I];refine J _ _ _ (Ow.dx (setRow_heap w g cur _ e _ hg) (by omega) g2 ?_ ?_) ⟨rfl,rfl,rfl,by simp,fun k _ J=>setRow_other w g k _ fun he=>J (by simp [aJ,he])⟩ (.inl rfl) (by simp)
     . simp [h1];omega
     . simp only [h1,Nat.mul_one];rw [I,List.map_append,List.take_append_of_le_length (by simp;omega),List.take_of_length_le (by simp;omega),g4]
   . have hr:=run_append_grow (P:=P) w t ty e i z ht hi hz ⟨g,0,none⟩ l.length c (l.map f) (by simp [h1]) (h.cells rfl) a news.length k (news.map f) O U (by omega) (by omega) (growslice_fits (by omega) (by rw [h2];exact hb));refine ⟨_,_,_,_,hr,?_⟩;rw [<- I];exact J _ _ _ (by rw [I];exact bV c (by omega)) (gr _) (.inr rfl) (by simp)
theorem Ow.LG {t ty e bytes:Nat} (hs:mB P t e bytes=true) (h:Ow f e w p c l) {q:Option Addr} {k n:Nat} (hn:n=l.length):
 (Builtin.append_ #[t,t] ty #[.slice p n c,.slice q 0 k]).run P w= .ok (.slice p n c) w:=by
 obtain ⟨ht,i,z,hi,V,h1,Y,I⟩:=kW hs;subst hn;rcases h.un with ⟨rfl,rfl,rfl⟩| ⟨g,cur,rfl,X,J,Q,U,O⟩<;>cases q<;>
  simp [Builtin.append_,run_underlying ht,sizeOf,typeInfo,Builtin.lenOf,Builtin.firstCells,loadCells,loadCellsFrom,storeCells, *]
theorem Ow.ME {t ty e bytes:Nat} (hs:mB P t e bytes=true) (h:Ow f e w p c l) {q:Option Addr} {Q:Nat} {news:List α} (V:Ow f e w q Q news) {n m:Nat} (hn:n=l.length) (hm:m=news.length) (X: ∀x,(f x).oneCell'=true)
 (hlen:(l.length+news.length)* (bytes+1)<=140737488355328) {K:World->Option Addr->Nat->Nat->Prop}
 (U: ∀w' I c',Ow f e w' I c' (l++news)->aF (fun b=>aJ p=some b) w w'->(I=p\/I=some ⟨w.heap.size,0,none⟩)->w.heap.size<=w'.heap.size->K w' I (l++news).length c'):
 ∃w',∃I n' c',(Builtin.append_ #[t,t] ty #[.slice p n c,.slice q m Q]).run P w= .ok (.slice I n' c') w'/\K w' I n' c':=by
 subst hm;rcases Nat.eq_zero_or_pos news.length with O|O
 . have:news= []:=List.eq_nil_of_length_eq_zero O;subst this;refine ⟨w,p,n,c,h.LG hs hn,?_⟩;have:=U w p c (by simpa using h) (aF.refl w) (.inl rfl) (Nat.le_refl _);simpa [hn] using this
 . obtain ⟨g,Y,_⟩:=V.cell O;subst Y;refine Ow.mN hs h hn news rfl O (fun j hj=> ?_) X hlen U;obtain ⟨g',J,Z⟩:=V.cell hj;simp only [Option.some.injEq,Addr.mk.injEq,and_true] at J;subst J;rw [c5,Nat.zero_add];exact Z
theorem aY.o0 {e:TypeId} {n:Nat} (h:aY (.cells #[] e) w n w'):Ow f e w' (some ⟨n,0,none⟩) 0 []:=
 Ow.dx h.at (Nat.le_refl _) (Nat.zero_le _) rfl rfl
theorem Ow.mF {t ty e bytes:Nat} (hs:mB P t e bytes=true) (h:Ow f e w p c l) {b n:Nat} (x:α) {v:Value} (hb:bA w b #[v]) (hv:v=f x) (hn:n=l.length) (O: ∀x,(f x).oneCell'=true)
 (hlen:(l.length+1)* (bytes+1)<=140737488355328) {K:World->Option Addr->Nat->Nat->Prop}
 (J: ∀w' I c',Ow f e w' I c' (l++ [x])->aF (fun b=>aJ p=some b) w w'->(I=p\/I=some ⟨w.heap.size,0,none⟩)->w.heap.size<=w'.heap.size->K w' I (l.length+1) c'):
 ∃w',∃I n' c',(Builtin.append_ #[t,t] ty #[.slice p n c,.slice (some ⟨b,0,none⟩) 1 1]).run P w= .ok (.slice I n' c') w'/\K w' I n' c':=by
 subst hv;refine Ow.mN (m:=1) hs h hn [x] rfl (by omega) (fun j V=> ?_) O hlen fun w' I c' h1 X U Q=> ?_
 . have:j=0:=by simpa using V
   subst this;exact ae hb rfl
 . have:=J w' I c' h1 X U Q;simpa using this
theorem oX {t e bytes:Nat} (hs:mB P t e bytes=true) {x:α} {v:Value} (O:(P.info? e).bind (·.zero)=some v) (hv:v.cells= #[f x]) {n:Int} (m:Nat) (hn:n=m) (hlen:m* (bytes+1)<=281474976710656) {K:World->Option Addr->Nat->Nat->Prop}
 (I: ∀w',Ow f e w' (some ⟨w.heap.size,0,none⟩) m (List.replicate m x)->ao w w'->w'.heap.size=w.heap.size+1->K w' (some ⟨w.heap.size,0,none⟩) m m):
 ∃w',∃J n' c',(Instr.makeSlice t (.int .i64 n) (.int .i64 n)).run P w= .ok (.slice J n' c') w'/\K w' J n' c':=by
 obtain ⟨ht,i,z,hi,U,h1,V,X⟩:=kW hs;subst hn;simp only [hi,Option.bind_some] at O;have hm:m<=281474976710656:=Nat.le_trans (Nat.le_mul_of_pos_right _ (Nat.succ_pos _)) hlen;have Q:m*bytes<=281474976710656:=Nat.le_trans (Nat.mul_le_mul_left _ (Nat.le_succ _)) hlen;have hr:=run_make (P:=P) w t e i v ht hi O .i64 .i64 m m (by omega) (Int.le_refl _) (by rw [V,<- Int.natCast_mul,Nat.mul_comm];omega) (by omega);simp only [Int.toNat_natCast,h1,Nat.mul_one,hv] at hr;refine ⟨_,_,_,_,hr,I _ ?_ ⟨rfl,rfl,rfl,by simp,fun k I _=>Below.heap_alloc w _ k I⟩ (by simp)⟩;refine Ow.dx (cur:=madeCells #[f x] m) ?_ (by simp) (by simp only [maxLen];omega) (size_madeCells _ _) ?_
 . exact Array.getElem?_push_size
 . rw [toList_madeCells_one];simp
theorem Ow.take (h:Ow f T w p c l) {k:Nat} (I:k<=l.length):Ow f T w p c (l.take k):=by
 rcases h.un with ⟨rfl,rfl,rfl⟩| ⟨g,cur,rfl,U,V,Q,O,J⟩
 . simpa using Ow.nil f T w
 . refine Ow.dx U (by simp;omega) Q O ?_;rw [List.length_take,Nat.min_eq_left I,List.map_take,<- J,List.take_take,Nat.min_eq_left I]
def oM (h:α->α) (t:Nat) (l:List α):List α:=(l.take t).map h++l.drop t
theorem Dq (h:α->α) (l:List α):oM h 0 l=l:=by simp [oM]
theorem Ew (h:α->α) (l:List α):oM h l.length l=l.map h:=by simp [oM]
theorem zk (h:α->α) (t:Nat) (l:List α):(oM h t l).length=l.length:=by simp [oM];omega
theorem Ej (h:α->α) {t:Nat} {l:List α} (d:α) (ht:t<l.length):(oM h t l).getD t d=l.getD t d:=by
 simp only [oM,List.getD_eq_getElem?_getD];rw [List.getElem?_append_right (by simp;omega)];simp [Nat.min_eq_left (Nat.le_of_lt ht)]
theorem EC (h:α->α) {t:Nat} {l:List α} (d:α) (ht:t<l.length):(oM h t l).set t (h (l.getD t d))=oM h (t+1) l:=by
 apply List.ext_getElem?;intro j;simp only [oM,List.getElem?_set,List.length_append,List.length_map,List.length_take,List.length_drop,List.getD_eq_getElem?_getD];by_cases e:t=j
 . subst e;rw [if_pos rfl,if_pos (by omega),List.getElem?_append_left (by simp;omega)];simp [ht]
 . rw [if_neg e];by_cases h1:j<t
   . rw [List.getElem?_append_left (by simp;omega),List.getElem?_append_left (by simp;omega)];simp [h1,show j<t+1 by omega]
   . rw [List.getElem?_append_right (by simp;omega),List.getElem?_append_right (by simp;omega)];simp only [List.length_map,List.length_take,List.getElem?_drop];congr 1;omega
theorem eV (x:Int):(Value.int .i64 x).oneCell'=true:=rfl
end Go.Fw
namespace Go.HeapP
def g (l:List Int) (i:Int):Int:=if i<0 then 0 else l.getD i.toNat 0
theorem lW {l:List Int} {i:Int} (h:0<=i):l.getD i.toNat 0=g l i:=by unfold g;rw [if_neg (by omega)]
theorem yB {l:List Int} {i v:Int} (J:0<=i) (h1:i<l.length):g (l.set i.toNat v)=fun j=>if j=i then v else g l j:=by
 funext j;unfold g;simp only [List.getD_eq_getElem?_getD,List.getElem?_set];by_cases I:j<0
 . simp [I];omega
 . by_cases h:j=i
   . subst h;simp [show j.toNat<l.length by omega,I]
   . rw [if_neg I,if_neg (by omega),if_neg h,if_neg I]
def Bt (S:Int->Int) (a c:Int):Prop:=S c<S a\/S a=S c/\a<c
theorem Bt.uL {S a c} (h:Bt S a c): ¬Bt S c a:=by unfold Bt at*;omega
theorem Bt.BW {S a b c} (h: ¬Bt S a b) (k: ¬Bt S b c): ¬Bt S a c:=by unfold Bt at*;omega
theorem Bt.Lm {S a b c} (h: ¬Bt S a b) (k:Bt S c b): ¬Bt S a c:=by unfold Bt at*;omega
structure wU (L A:Int->Int) (n N:Int):Prop where
 ul: ∀j,0<=j->j<n->1<=L j/\L j<=N/\A (L j)=j+1
 bD: ∀v,1<=v->v<=N->0<=A v/\A v<=n/\(0<A v->L (A v - 1)=v)
theorem wU.inj {L A n N} (h:wU L A n N) {j k:Int} (h1:0<=j) (O:j<n) (I:0<=k) (J:k<n) (e:L j=L k):j=k:=by
 have a:=h.ul j h1 O;have b:=h.ul k I J;rw [e] at a;omega
def oO (L:Int->Int) (i p:Int):Int->Int:=fun j=>if j=p then L i else if j=i then L p else L j
def tx (L A:Int->Int) (i p:Int):Int->Int:=fun u=>if u=L i then p+1 else if u=L p then i+1 else A u
theorem wU.swap {L A n N} (h:wU L A n N) {i p:Int} (h1:0<=i) (Z:i<n) (U:0<=p) (X:p<n) (O:i≠p):wU (oO L i p) (tx L A i p) n N:=by
 have fi:=h.ul i h1 Z;have fp:=h.ul p U X;have hn:L i≠L p:=fun e=>O (h.inj h1 Z U X e);constructor
 . intro j Q V;have fj:=h.ul j Q V;unfold oO tx;by_cases I:j=p
   . subst I;simp;omega
   . by_cases J:j=i
     . subst J;simp [O,Ne.symm hn];omega
     . have n1:L j≠L i:=fun e=>J (h.inj Q V h1 Z e);have Y:L j≠L p:=fun e=>I (h.inj Q V U X e);simp [I,J,n1,Y];omega
 . intro v v1 v2;have bv:=h.bD v v1 v2;unfold oO tx;by_cases I:v=L i
   . subst I;simp;omega
   . by_cases J:v=L p
     . subst J;simp [Ne.symm hn,O];omega
     . simp only [I,J,if_false];refine ⟨bv.1,bv.2.1,fun hp=> ?_⟩;have:=bv.2.2 hp;have n1:A v - 1≠p:=fun e=>J (by rw [<- e,this]);have Y:A v - 1≠i:=fun e=>I (by rw [<- e,this]);simp [n1,Y,this]
theorem E7 {L A n N} (h:wU L A n N) {i p:Int} (h1:0<=i) (Q:i<n) (O:0<=p) (U:p<n) (u:Int):0<tx L A i p u↔0<A u:=by
 have V:=h.ul i h1 Q;have fp:=h.ul p O U;unfold tx;by_cases I:u=L i
 . subst I;simp;omega
 . by_cases J:u=L p
   . subst J;simp [I];omega
   . simp [I,J]
def Ord (S L:Int->Int) (n k x:Int):Prop:= ∀j,1<=j->j<n->k<=(j - 1) / 2->(j - 1) / 2≠x->¬Bt S (L j) (L ((j - 1) / 2))
def BG (S L:Int->Int) (n x:Int):Prop:=(∀j,1<=j->j<n->j≠x->¬Bt S (L j) (L ((j - 1) / 2)))/\(∀j,1<=j->j<n->(j - 1) / 2=x->1<=x->¬Bt S (L j) (L ((x - 1) / 2)))
theorem BG.step {S L n i} (h:BG S L n i) (h1:1<=i) (Z:i<n) (hb:Bt S (L i) (L ((i - 1) / 2))):BG S (oO L i ((i - 1) / 2)) n ((i - 1) / 2):=by
 obtain ⟨ha,X⟩:=h;have hp:(i - 1) / 2<i:=by omega
 constructor
 . intro j I J Q;unfold oO;by_cases e:j=i
   . subst e;rw [if_neg (by omega),if_pos rfl,if_pos rfl];exact hb.uL
   . rw [if_neg Q,if_neg e];by_cases V:(j - 1) / 2=(i - 1) / 2
     . rw [if_pos V];have:=ha j I J e;rw [V] at this;exact Bt.Lm this hb
     . rw [if_neg V];by_cases U:(j - 1) / 2=i
       . rw [if_pos U];exact X j I J U h1
       . rw [if_neg U];exact ha j I J e
 . intro j I J Q Y;have O:=ha ((i - 1) / 2) Y (by omega) (by omega);unfold oO;rw [if_neg (show ¬((i - 1) / 2 - 1) / 2=(i - 1) / 2 by omega),if_neg (show ¬((i - 1) / 2 - 1) / 2=i by omega)];by_cases e:j=i
   . subst e;rw [if_neg (by omega),if_pos rfl];exact O
   . rw [if_neg (by omega),if_neg e];have:=ha j I J e;rw [Q] at this;exact Bt.BW this O
theorem BG.done {S L n i} (h:BG S L n i) (hb:i<=0\/¬Bt S (L i) (L ((i - 1) / 2))):Ord S L n 0 (-1):=by
 intro j J I _ _;by_cases e:j=i
 . subst e;exact hb.resolve_left (by omega)
 . exact h.1 j J I e
def Ak (S L:Int->Int) (n k x:Int):Prop:=Ord S L n k x/\(∀j,1<=j->j<n->(j - 1) / 2=x->1<=x->k<=(x - 1) / 2->¬Bt S (L j) (L ((x - 1) / 2)))
theorem Ak.step {S L n k i c} (h:Ak S L n k i) (aa:k<=i) (h0:0<=i) (h1:c<n) (V:(c - 1) / 2=i) (X:1<=c) (hb:Bt S (L c) (L i)) (I: ∀j,1<=j->j<n->(j - 1) / 2=i->¬Bt S (L j) (L c)):Ak S (oO L i c) n k c:=by
 obtain ⟨ha,hd⟩:=h;constructor
 . intro j J Q O Z;unfold oO;by_cases e:j=c
   . subst e;rw [if_pos rfl,V,if_neg (by omega),if_pos rfl];exact hb.uL
   . rw [if_neg e,if_neg Z];by_cases Y:j=i
     . subst Y;rw [if_pos rfl,if_neg (by omega)];exact hd c X h1 V J O
     . rw [if_neg Y];by_cases U:(j - 1) / 2=i
       . rw [if_pos U];exact I j J Q U
       . rw [if_neg U];exact ha j J Q O U
 . intro j J Q O Z j5;unfold oO;rw [if_neg (by omega),if_neg (by omega),V,if_neg (by omega),if_pos rfl];have:=ha j J Q (by omega) (by omega);rw [O] at this;exact this
theorem Ak.done {S L n k i} (h:Ak S L n k i) (hb: ∀j,1<=j->j<n->(j - 1) / 2=i->¬Bt S (L j) (L i)):Ord S L n k (-1):=by
 intro j I J O _;by_cases e:(j - 1) / 2=i
 . rw [e];exact hb j I J e
 . exact h.1 j I J O e
theorem KL: ∀ (N n:Nat) (L:Nat->Int),(∀j,j<n->1<=L j/\L j<=N)->(∀j k,j<n->k<n->L j=L k->j=k)->n<=N:=by
 intro N
 induction N with
 |zero=>
  intro n L h _;rcases Nat.eq_zero_or_pos n with V|V
  . omega
  . have:=h 0 V;omega
 |succ N ih=>
  intro n L h hi;by_cases he: ∃j,j<n/\L j=((N+1:Nat):Int)
  . obtain ⟨j,U,Q⟩:=he;have:=ih (n - 1) (fun k=>if k=j then L (n - 1) else L k) (fun k O=>by
     by_cases e:k=j
     . have h1:=h (n - 1) (by omega);have:L (n - 1)≠((N+1:Nat):Int):=fun I=>by
        have:=hi (n - 1) j (by omega) U (by rw [I,Q]);omega
       simp only [e,if_true];omega
     . have h1:=h k (by omega);have:L k≠((N+1:Nat):Int):=fun I=>e (hi k j (by omega) U (by rw [I,Q]));simp only [e,if_false];omega) (fun k m O hm=>by
     intro J;by_cases e:k=j
     . by_cases I:m=j
       . omega
       . simp only [e,I,if_true,if_false] at J;have:=hi _ _ (by omega) (by omega) J;omega
     . by_cases I:m=j
       . simp only [e,I,if_true,if_false] at J;have:=hi _ _ (by omega) (by omega) J;omega
       . simp only [e,I,if_false] at J;exact hi _ _ (by omega) (by omega) J)
    omega
  . have:=ih n L (fun k O=>by
     have h1:=h k O;have:L k≠((N+1:Nat):Int):=fun e=>he ⟨k,O,e⟩;omega) hi
    omega
theorem wU.le {L A:Int->Int} {n N:Nat} (h:wU L A n N):n<=N:=
 KL N n (fun j=>L j) (fun j I=>by have:=h.ul j (by omega) (by omega);exact ⟨this.1,this.2.1⟩) fun j k I J e=>by
  have:=h.inj (j:=j) (k:=k) (by omega) (by omega) (by omega) (by omega) e;omega
theorem wU.push {L A:Int->Int} {n N v:Int} (h:wU L A n N) (n0:0<=n) (v1:1<=v) (v2:v<=N) (hv:A v=0):wU (fun j=>if j=n then v else L j) (fun u=>if u=v then n+1 else A u) (n+1) N:=by
 constructor
 . intro j J U;by_cases e:j=n
   . subst e;simp;omega
   . have f:=h.ul j J (by omega);have:L j≠v:=fun Q=>by rw [Q] at f;omega
     simp only [e,if_false,this];exact f
 . intro u I O;by_cases e:u=v
   . subst e;simp;omega
   . have f:=h.bD u I O;simp only [e,if_false];refine ⟨f.1,by omega,fun hp=> ?_⟩;rw [if_neg (by omega)];exact f.2.2 hp
theorem wU.NU {L A:Int->Int} {n N v:Int} (h:wU L A (n+1) N) (n0:0<=n) (hv:L 0=v):wU (fun j=>if j=0 then L n else L j) (fun u=>if u=L n then (if n=0 then 0 else 1) else if u=v then 0 else A u) n N:=by
 have Z:=h.ul 0 (Int.le_refl _) (by omega);have fn:=h.ul n n0 (by omega);constructor
 . intro j J Y;by_cases e:j=0
   . subst e;simp [show n≠0 by omega];omega
   . have f:=h.ul j J (by omega);have U:L j≠v:=fun I=>e (h.inj J (by omega) (Int.le_refl _) (by omega) (by rw [I,hv]));have Q:L j≠L n:=fun I=>by have:=h.inj J (by omega) n0 (by omega) I;omega
     simp only [e,if_false,U,Q];exact f
 . intro u V X;have f:=h.bD u V X;by_cases e:u=L n
   . subst e;simp only [if_true];split
     . omega
     . simp;omega
   . by_cases I:u=v
     . subst I;simp [e,n0]
     . simp only [e,I,if_false];have U:A u - 1≠n\/A u=0:=by
        by_cases hp:0<A u
        . left;intro O;have:=f.2.2 hp;rw [O] at this;exact e this.symm
        . right;omega
       refine ⟨f.1,by omega,fun hp=> ?_⟩;have Q:A u - 1≠0:=fun O=>I (by have:=f.2.2 hp;rw [O] at this;rw [<- this,hv]);rw [if_neg Q];exact f.2.2 hp
end Go.HeapP
namespace Go.Proofs.YtenmibfmhccmiaaGreat.W.Hp
open Go Go.Fw Go.RowKit Go.HeapP
open Go.Proofs.Tryz (prog)
open Go.IntKind (i64)
section
theorem c4:mB prog aI aC 8=true:=by kernel_rfl
structure HS where
 pl:Option Addr
 cl:Nat
 pa:Option Addr
 ca:Nat
 ps:Option Addr
 cs:Nat
 l:List Int
 at_:List Int
 score:List Int
 step:Int
def HS.bK (x:HS) (b:Nat) (k:Nat):Prop:=k=b\/aJ x.pl=some k\/aJ x.pa=some k\/aJ x.ps=some k
structure bZ (w:World) (b:Nat) (x:HS):Prop where
 me:bA w b #[.slice x.pl x.l.length x.cl,.slice x.pa x.at_.length x.ca,.slice x.ps x.score.length x.cs,.int .i64 x.step]
 hl:da aC w x.pl x.cl x.l
 ha:da aC w x.pa x.ca x.at_
 hs:da aC w x.ps x.cs x.score
 bl:aJ x.pl≠some b
 ba:aJ x.pa≠some b
 bs:aJ x.ps≠some b
 la: ∀k,aJ x.pl=some k->aJ x.pa≠some k
 ls: ∀k,aJ x.pl=some k->aJ x.ps≠some k
 sa: ∀k,aJ x.pa=some k->aJ x.ps≠some k
theorem bZ.keep {w w':World} {b:Nat} {x:HS} {S:Nat->Prop} (h:bZ w b x) (m:aF S w w') (J: ∀k,x.bK b k->¬S k):bZ w' b x:=
 ⟨h.me.keep m (J b (.inl rfl)),h.hl.keep m fun k I=>J k (.inr (.inl I)),h.ha.keep m fun k I=>J k (.inr (.inr (.inl I))),h.hs.keep m fun k I=>J k (.inr (.inr (.inr I))),h.bl,h.ba,h.bs,h.la,h.ls,h.sa⟩
theorem bZ.grow {w w':World} {b:Nat} {x:HS} (h:bZ w b x) (m:ao w w'):bZ w' b x:=h.keep m fun _ _=>id
theorem bZ.drew {w:World} {b:Nat} {x:HS} (h:bZ w b x):bZ w.drew b x:=⟨h.me,h.hl,h.ha,h.hs,h.bl,h.ba,h.bs,h.la,h.ls,h.sa⟩
theorem bZ.lt {w:World} {b:Nat} {x:HS} (h:bZ w b x): ∀k,x.bK b k->k<w.heap.size:=by
 rintro k (rfl|I|I|I)
 . exact h.me.lt
 . exact h.hl.lt k I
 . exact h.ha.lt k I
 . exact h.hs.lt k I
abbrev ptr (b:Nat):Value:= .pointer (some ⟨b,0,none⟩)
def bt (s:List Int) (a c:Int):Bool:=if g s a=g s c then decide (a<c) else decide (g s a>g s c)
theorem sf (s:List Int) (a c:Int):bt s a c=true↔Bt (g s) a c:=by
 unfold bt Bt;split<;>simp<;>omega
theorem py {w:World} {b:Nat} {x:HS} (h:bZ w b x) (a c:Int) (a0:0<=a) (a1:a<x.score.length) (I:0<=c) (U:c<x.score.length):
 Calls prog dI.id #[ptr b,.int .i64 a,.int .i64 c] w fun e w'=>e= .returned (.bool (bt x.score a c))/\ao w w':=by
 refine dI.ak ?_;have h1:=h.drew;have J:=h1.drew;refine ⟨_,rfl,_,_,_,ae h1.me rfl,h1.hs.ix 0 a0 rfl a1 fun a3 O=> ⟨_,O,_,rfl,_,_,_,ae h1.me rfl,h1.hs.ix 0 I rfl U fun V Q=> ⟨_,Q,aj (fun t=> ?_) (fun t=> ?_)⟩⟩⟩
 . refine ⟨_,rfl,_,_,_,ae J.me rfl,J.hs.ix 0 a0 rfl a1 fun a3 O=> ⟨_,O,_,rfl,_,_,_,ae J.me rfl,J.hs.ix 0 I rfl U fun V Q=> ⟨_,Q,?_,((aF.refl w).drew).drew⟩⟩⟩;simp only [bne_iff_ne,ne_eq,lW a0,lW I] at t;rw [lW a0,lW I];unfold bt;rw [if_neg t]
 . simp only [bne_eq_false_iff_eq,lW a0,lW I] at t;refine ⟨?_,(aF.refl w).drew⟩;unfold bt;rw [if_pos t]
def HS.put (x:HS) (i v:Int):HS:= {x with l:=x.l.set i.toNat v,at_:=x.at_.set v.toNat (i+1)}
theorem bZ.NR {w w':World} {b:Nat} {x:HS} (h:bZ w b x) {l':List Int} (hl:l'.length=x.l.length) (o:da aC w' x.pl x.cl l') (m:aF (fun k=>aJ x.pl=some k) w w'):bZ w' b {x with l:=l'}:=
 ⟨by have:=h.me.keep m h.bl;rwa [<- hl] at this,o,h.ha.keep m fun k J I=>h.la k I J,h.hs.keep m fun k J I=>h.ls k I J,h.bl,h.ba,h.bs,h.la,h.ls,h.sa⟩
theorem bZ.Jn {w w':World} {b:Nat} {x:HS} (h:bZ w b x) {l':List Int} (hl:l'.length=x.at_.length) (o:da aC w' x.pa x.ca l') (m:aF (fun k=>aJ x.pa=some k) w w'):bZ w' b {x with at_:=l'}:=
 ⟨by have:=h.me.keep m h.ba;rwa [<- hl] at this,h.hl.keep m fun k J I=>h.la k J I,o,h.hs.keep m fun k J I=>h.sa k I J,h.bl,h.ba,h.bs,h.la,h.ls,h.sa⟩
theorem bZ.Nj {w w':World} {b:Nat} {x:HS} (h:bZ w b x) {l':List Int} (hl:l'.length=x.score.length) (o:da aC w' x.ps x.cs l') (m:aF (fun k=>aJ x.ps=some k) w w'):bZ w' b {x with score:=l'}:=
 ⟨by have:=h.me.keep m h.bs;rwa [<- hl] at this,h.hl.keep m fun k J I=>h.ls k J I,h.ha.keep m fun k J I=>h.sa k J I,o,h.bl,h.ba,h.bs,h.la,h.ls,h.sa⟩
theorem bZ.MF {w w':World} {b:Nat} {x:HS} (h:bZ w b x) {t:Int} (o:bA w' b #[.slice x.pl x.l.length x.cl,.slice x.pa x.at_.length x.ca,.slice x.ps x.score.length x.cs,.int .i64 t]) (m:aF (·=b) w w'):bZ w' b {x with step:=t}:=
 ⟨o,h.hl.keep m fun _ J I=>h.bl (I▸J),h.ha.keep m fun _ J I=>h.ba (I▸J),h.hs.keep m fun _ J I=>h.bs (I▸J),h.bl,h.ba,h.bs,h.la,h.ls,h.sa⟩
theorem pE {w:World} {b:Nat} {x:HS} (h:bZ w b x) (i v:Int) (Q:0<=i) (U:i<x.l.length) (v0:0<=v) (v1:v<x.at_.length) (hb:x.l.length<2147483648):
 Calls prog cV.id #[ptr b,.int .i64 i,.int .i64 v] w fun e w'=>e= .returned (.tuple #[])/\bZ w' b (x.put i v)/\aF (x.bK b) w w':=by
 refine cV.ak ?_;refine ⟨_,rfl,_,_,_,ae h.me rfl,h.hl.st v rfl rfl Q rfl U fun V o m=> ?_⟩;have J:=h.NR (by simp) o m;refine ⟨_,rfl,_,_,_,ae J.me rfl,?_⟩;rw [aD (x:=i+1) (by omega) (by omega)];refine J.ha.st (i+1) rfl rfl v0 rfl v1 fun X O m'=> ⟨rfl,J.Jn (by simp) O m',?_⟩
 exact (m.mono fun k _ I=> .inr (.inl I)).trans (m'.mono fun k _ I=> .inr (.inr (.inl I)))
structure qU (x:HS) (N:Int):Prop where
 na:(x.at_.length:Int)=N+1
 ns:(x.score.length:Int)=N+1
 BT:N<=1048576
 pos:wU (g x.l) (g x.at_) x.l.length N
 nl:(x.l.length:Int)<=N
structure Lk (N:Int) (x y:HS):Prop where
 pl:y.pl=x.pl
 cl:y.cl=x.cl
 pa:y.pa=x.pa
 ca:y.ca=x.ca
 ps:y.ps=x.ps
 cs:y.cs=x.cs
 l:y.l.length=x.l.length
 a:y.at_.length=x.at_.length
 score:y.score=x.score
 step:y.step=x.step
 has: ∀u,1<=u->u<=N->(0<g y.at_ u↔0<g x.at_ u)
theorem Lk.refl (N:Int) (x:HS):Lk N x x:=⟨rfl,rfl,rfl,rfl,rfl,rfl,rfl,rfl,rfl,rfl,fun _ _ _=>Iff.rfl⟩
theorem Lk.trans {N:Int} {x y z:HS} (h:Lk N x y) (k:Lk N y z):Lk N x z:=
 ⟨k.pl.trans h.pl,k.cl.trans h.cl,k.pa.trans h.pa,k.ca.trans h.ca,k.ps.trans h.ps,k.cs.trans h.cs,k.l.trans h.l,k.a.trans h.a,k.score.trans h.score,k.step.trans h.step,fun u a b=> (k.has u a b).trans (h.has u a b)⟩
theorem Lk.bK {N:Int} {x y:HS} (h:Lk N x y) (b:Nat):y.bK b=x.bK b:=by funext k;unfold HS.bK;rw [h.pl,h.pa,h.ps]
theorem lQ {x:HS} {i v:Int} (J:0<=i) (I:i<x.l.length):g (x.put i v).l=fun j=>if j=i then v else g x.l j:=yB J I
theorem BF {x:HS} {i v:Int} (v0:0<=v) (v1:v<x.at_.length):g (x.put i v).at_=fun u=>if u=v then i+1 else g x.at_ u:=yB v0 v1
theorem rh {x:HS} {N i:Int} (h:qU x N) (I:0<=i) (J:i<x.l.length):g (x.put i (g x.l i)).l=g x.l/\g (x.put i (g x.l i)).at_=g x.at_:=by
 have f:=h.pos.ul i I J;have O:=h.na;rw [lQ I J,BF (by omega) (by omega)];constructor
 . funext j;split
   . subst_vars;rfl
   . rfl
 . funext u;split
   . subst_vars;omega
   . rfl
theorem DY {y:HS} {N i p v:Int} (h:qU (y.put i v) N) (v1:1<=v) (v2:v<=N) (O:0<=i) (Q:i<y.l.length) (Y:0<=p) (X:p<y.l.length) (I:i≠p):
 g ((y.put i (g y.l p)).put p v).l=oO (g (y.put i v).l) i p/\g ((y.put i (g y.l p)).put p v).at_=tx (g (y.put i v).l) (g (y.put i v).at_) i p/\1<=g y.l p/\g y.l p<=N:=by
 have hl:(y.put i v).l.length=y.l.length:=by simp [HS.put]
 have V:(y.put i (g y.l p)).l.length=y.l.length:=by simp [HS.put]
 have U:(y.put i (g y.l p)).at_.length=y.at_.length:=by simp [HS.put]
 have Z:(y.at_.length:Int)=N+1:=by have:=h.na;simpa [HS.put] using this
 have f:=h.pos.ul p Y (by rw [hl];exact X);rw [lQ O Q] at f;simp only [if_neg (Ne.symm I)] at f;refine ⟨?_,?_,f.1,f.2.1⟩
 . rw [lQ Y (by rw [V];exact X),lQ O Q,lQ O Q];funext j;unfold oO;by_cases e:j=p
   . simp [e]
   . by_cases J:j=i
     . simp [J,I,Ne.symm I]
     . simp [e,J]
 . rw [BF (by omega) (by rw [U];omega),BF (by omega) (by omega),lQ O Q,BF (by omega) (by omega)];funext u;unfold tx;simp only [if_neg (Ne.symm I),if_true];by_cases e:u=v
   . simp [e]
   . by_cases J:u=g y.l p
     . simp [J]
     . simp [e,J]
theorem qU.swap {y z:HS} {N i p:Int} (h:qU y N) (J:0<=i) (O:i<y.l.length) (U:0<=p) (Q:p<y.l.length) (I:i≠p) (hl:g z.l=oO (g y.l) i p) (ha:g z.at_=tx (g y.l) (g y.at_) i p) (k:z.l.length=y.l.length) (V:z.at_.length=y.at_.length) (X:z.score.length=y.score.length):
 qU z N/\∀u,(0<g z.at_ u↔0<g y.at_ u):=by
 refine ⟨⟨by rw [V];exact h.na,by rw [X];exact h.ns,h.BT,?_,by rw [k];exact h.nl⟩,fun u=> ?_⟩
 . rw [hl,ha,k];exact h.pos.swap J O U Q I
 . rw [ha];exact E7 h.pos J O U Q u
theorem DD {w:World} {b:Nat} {x:HS} {N:Int} (h:bZ w b x) (ok:qU x N) (i:Int) (I:0<=i) (O:i<x.l.length) (ho:BG (g x.score) (g x.l) x.l.length i):
 Calls prog jg.id #[ptr b,.int .i64 i] w fun e w'=>e= .returned (.tuple #[])/\∃J,bZ w' b J/\qU J N/\Lk N x J/\Ord (g x.score) (g J.l) J.l.length 0 (-1)/\aF (x.bK b) w w':=by
 refine jg.ak ?_;have aT:(x.l.length:Int)<=1048576:=Int.le_trans ok.nl ok.BT;refine ⟨_,rfl,_,_,_,ae h.me rfl,h.hl.ix 0 I rfl O fun a3 e3=> ⟨_,e3,?_⟩⟩;rw [lW I];have fv:=ok.pos.ul i I O;generalize hv:g x.l i=v at fv ⊢;refine ⟨fun i w' k=> ∃y:HS,bZ w' b y/\Lk N x (y.put i v)/\qU (y.put i v) N/\BG (g x.score) (g (y.put i v).l) x.l.length i/\0<=i/\i<x.l.length/\k=i.toNat/\aF (x.bK b) w w',⟨i.toNat,x,h,?_,?_,?_,I,O,rfl,aF.refl w⟩,?_⟩
 . have ps:=rh ok I O;rw [hv] at ps;exact ⟨rfl,rfl,rfl,rfl,rfl,rfl,by simp [HS.put],by simp [HS.put],rfl,rfl,fun u _ _=>by rw [ps.2]⟩
 . have ps:=rh ok I O;rw [hv] at ps;exact ⟨by simpa [HS.put] using ok.na,ok.ns,ok.BT,by rw [ps.1,ps.2];simpa [HS.put] using ok.pos,by simpa [HS.put] using ok.nl⟩
 . have ps:=rh ok I O;rw [hv] at ps;rw [ps.1];exact ho
 clear h ho I O fv hv;rintro i w' k _ ⟨y,Q,lk,U,ou,I,O,hk,M⟩;have bu:y.l.length=x.l.length:=by simpa [HS.put] using lk.l
 have bx:y.at_.length=x.at_.length:=by simpa [HS.put] using lk.a
 have X:y.score=x.score:=lk.score;have bc:=ok.na;have a7:=ok.ns;have ag:y.bK b=x.bK b:=lk.bK b;have V:(y.put i v).l.length=x.l.length:=lk.l;have fv:=U.pos.ul i I (by rw [V];exact O);rw [lQ I (by omega)] at fv;simp only [if_true] at fv;have dV:(i<=0\/¬Bt (g x.score) v (g y.l ((i - 1) / 2)))->∀w2,bZ w2 b y->aF (x.bK b) w w2->Calls prog cV.id #[ptr b,.int .i64 i,.int .i64 v] w2 fun e w'=>e= .returned (.tuple #[])/\(Ending.returned (.tuple #[])= .returned (.tuple #[])/\∃J,bZ w' b J/\qU J N/\Lk N x J/\Ord (g x.score) (g J.l) J.l.length 0 (-1)/\aF (x.bK b) w w'):=by
  intro hb w2 aw M2;refine (pE aw i v I (by omega) (by omega) (by omega) (by omega)).mono ?_;rintro e w3 ⟨rfl,h3,m3⟩;refine ⟨rfl,rfl,_,h3,U,lk,?_,M2.trans (ag▸m3)⟩;rw [V];refine ou.done (hb.imp id fun hb=> ?_);rw [lQ I (by omega)];simp only [if_true];by_cases e:(i - 1) / 2=i
  . rw [if_pos e];exact fun hb=>hb.uL hb
  . rw [if_neg e];exact hb
 refine aj (fun t=> ?_) (fun t=>dV (.inl (by simpa using t)) w' Q M);simp only [decide_eq_true_eq] at t;have ep:i64.wrap ((i64.wrap (i - 1)).tdiv 2)=(i - 1) / 2:=by
  rw [aD (x:=i - 1) (by omega) (by omega),Int.tdiv_eq_ediv_of_nonneg (by omega),aD (by omega) (by omega)]
 rw [ep];have Z:0<=(i - 1) / 2:=by omega
 have pp:=DY U (by omega) (by omega) I (by omega) Z (by omega) (show i≠(i - 1) / 2 by omega);obtain ⟨e1,e2,u1,u2⟩:=pp;refine ⟨by decide,_,rfl,_,_,_,ae Q.me rfl,Q.hl.ix 0 Z rfl (by omega) fun ap Y=> ⟨_,Y,?_⟩⟩;rw [lW Z];refine (py Q v (g y.l ((i - 1) / 2)) (by omega) (by rw [X];omega) (by omega) (by rw [X];omega)).mono ?_;rintro e ar ⟨rfl,ac⟩;have Q:=Q.grow ac;have M:=M.grow ac;refine ⟨_,rfl,aj (fun tb=>dV (.inr ?_) ar Q M) (fun tb=> ?_)⟩
 . rw [<- sf,<- X];simpa using tb
 . have tb:Bt (g x.score) v (g y.l ((i - 1) / 2)):=by rw [<- sf,<- X];simpa using tb
   refine ⟨_,rfl,_,_,_,ae Q.me rfl,Q.hl.ix 0 Z rfl (by omega) fun ap Y=> ⟨_,Y,?_⟩⟩;rw [lW Z];refine (pE Q i _ I (by omega) (show 0<=g y.l ((i - 1) / 2) by omega) (by omega) (by omega)).mono ?_;rintro e bv ⟨rfl,an,av⟩;have sw:=qU.swap (z:=(y.put i (g y.l ((i - 1) / 2))).put ((i - 1) / 2) v) U I (by rw [V];exact O) Z (by rw [V];omega) (by omega) e1 e2 (by simp [HS.put]) (by simp [HS.put]) rfl;refine ⟨rfl,((i - 1) / 2).toNat,by omega,_,an,?_,sw.1,?_,Z,by omega,rfl,M.trans (ag▸av)⟩
   . refine lk.trans ⟨rfl,rfl,rfl,rfl,rfl,rfl,by simp [HS.put],by simp [HS.put],rfl,rfl,fun u _ _=>sw.2 u⟩
   . rw [e1];refine ou.step (by omega) O ?_;rw [lQ I (by omega)];simpa [show ¬(i - 1) / 2=i by omega] using tb
theorem xG {w:World} {b:Nat} {x:HS} {N:Int} (h:bZ w b x) (ok:qU x N) (i:Int) (O:0<=i) (i1:i<x.l.length) (k:Int) (ki:k<=i) (ho:Ak (g x.score) (g x.l) x.l.length k i):
 Calls prog gU.id #[ptr b,.int .i64 i] w fun e w'=>e= .returned (.tuple #[])/\∃J,bZ w' b J/\qU J N/\Lk N x J/\Ord (g x.score) (g J.l) J.l.length k (-1)/\aF (x.bK b) w w':=by
 refine gU.ak ?_;have cT:(x.l.length:Int)<=1048576:=Int.le_trans ok.nl ok.BT;refine ⟨_,rfl,_,_,_,ae h.me rfl,h.hl.ix 0 O rfl i1 fun a3 e3=> ⟨_,e3,?_⟩⟩;rw [lW O];generalize hv:g x.l i=v;have ps:=rh ok O i1;rw [hv] at ps;refine ⟨fun i w' m=> ∃y:HS,bZ w' b y/\Lk N x (y.put i v)/\qU (y.put i v) N/\Ak (g x.score) (g (y.put i v).l) x.l.length k i/\k<=i/\0<=i/\i<x.l.length/\m=x.l.length - i.toNat/\aF (x.bK b) w w',⟨x.l.length - i.toNat,x,h,?_,?_,?_,ki,O,i1,rfl,aF.refl w⟩,?_⟩
 . exact ⟨rfl,rfl,rfl,rfl,rfl,rfl,by simp [HS.put],by simp [HS.put],rfl,rfl,fun u _ _=>by rw [ps.2]⟩
 . exact ⟨by simpa [HS.put] using ok.na,ok.ns,ok.BT,by rw [ps.1,ps.2];simpa [HS.put] using ok.pos,by simpa [HS.put] using ok.nl⟩
 . rw [ps.1];exact ho
 clear h ho O i1 hv ps ki;rintro i w' m _ ⟨y,I,lk,V,ou,ki,O,i1,hm,M⟩;have du:y.l.length=x.l.length:=by simpa [HS.put] using lk.l
 have dT:y.at_.length=x.at_.length:=by simpa [HS.put] using lk.a
 have Q:y.score=x.score:=lk.score;have di:=ok.na;have c3:=ok.ns;have a_:y.bK b=x.bK b:=lk.bK b;have Z:(y.put i v).l.length=x.l.length:=lk.l;have fv:=V.pos.ul i O (by rw [Z];exact i1);rw [lQ O (by omega)] at fv;simp only [if_true] at fv;have dV:(∀j:Int,1<=j->j<x.l.length->(j - 1) / 2=i->¬Bt (g x.score) (g y.l j) v)->∀w2,bZ w2 b y->aF (x.bK b) w w2->Calls prog cV.id #[ptr b,.int .i64 i,.int .i64 v] w2 fun e w'=>e= .returned (.tuple #[])/\(Ending.returned (.tuple #[])= .returned (.tuple #[])/\∃J,bZ w' b J/\qU J N/\Lk N x J/\Ord (g x.score) (g J.l) J.l.length k (-1)/\aF (x.bK b) w w'):=by
  intro hb w2 b_ M2;refine (pE b_ i v O (by omega) (by omega) (by omega) (by omega)).mono ?_;rintro e w3 ⟨rfl,h3,m3⟩;refine ⟨rfl,rfl,_,h3,V,lk,?_,M2.trans (a_▸m3)⟩;rw [Z];refine ou.done fun j j1 j2 j3=> ?_;rw [lQ O (by omega)];simp only [if_true];rw [if_neg (by omega)];exact hb j j1 j2 j3
 have ec:i64.wrap (i64.wrap (2*i)+1)=2*i+1:=by rw [aD (x:=2*i) (by omega) (by omega),aD (by omega) (by omega)]
 have b5:i64.wrap (2*i+1+1)=2*i+2:=by rw [aD (by omega) (by omega)];omega
 rw [ec,b5];refine ⟨_,rfl,_,_,_,ae I.me rfl,aj (fun t=>dV ?_ w' I M) (fun t=> ?_)⟩
 . simp only [decide_eq_true_eq,ge_iff_le] at t;intro j j1 j2 j3;omega
 simp only [decide_eq_false_iff_not,ge_iff_le] at t;have kids: ∀c,c=2*i+1\/c=2*i+2->c<x.l.length->1<=g y.l c/\g y.l c<=N:=by
  intro c hc bY;have:=V.pos.ul c (by omega) (by rw [Z];exact bY);rw [lQ O (by omega)] at this;simp only [show ¬c=i by omega,if_false] at this;exact ⟨this.1,this.2.1⟩
 have I:=I.drew;have M:=M.drew;have rest: ∀c w2,bZ w2 b y->aF (x.bK b) w w2->c=2*i+1\/c=2*i+2->c<x.l.length->(∀j:Int,1<=j->j<x.l.length->(j - 1) / 2=i->¬Bt (g x.score) (g y.l j) (g y.l c))->
  (∃a25,(some (⟨b,0,none⟩:Addr))=some a25/\∃av aw a6,w2.cell? (a25.add 0)=some (.slice av aw a6)/\
    aP av aw c 1 fun b'=>
    ∃bk,w2.cell? b'=some (.int .i64 bk)/\
    Calls prog dI.id #[.pointer (some ⟨b,0,none⟩),.int .i64 bk,.int .i64 v] w2 fun e ac=> ∃a',e= .returned (.bool a')/\
    aG (!a')
    (Calls prog cV.id #[.pointer (some ⟨b,0,none⟩),.int .i64 i,.int .i64 v] ac fun e a7=>e= .returned (.tuple #[])/\
      (Ending.returned (.tuple #[])= .returned (.tuple #[])/\∃J,bZ a7 b J/\qU J N/\Lk N x J/\Ord (g x.score) (g J.l) J.l.length k (-1)/\aF (x.bK b) w a7))
    (∃bu,(some (⟨b,0,none⟩:Addr))=some bu/\∃ar ax bc,ac.cell? (bu.add 0)=some (.slice ar ax bc)/\
      aP ar ax c 1 fun b6=>
      ∃aT,ac.cell? b6=some (.int .i64 aT)/\
      Calls prog cV.id #[.pointer (some ⟨b,0,none⟩),.int .i64 i,.int .i64 aT] ac fun e a8=>e= .returned (.tuple #[])/\
      ∃k7,k7<m/\∃y:HS,bZ a8 b y/\Lk N x (y.put c v)/\qU (y.put c v) N/\Ak (g x.score) (g (y.put c v).l) x.l.length k c/\k<=c/\0<=c/\c<x.l.length/\k7=x.l.length - c.toNat/\aF (x.bK b) w a8)):=by
  intro c w2 I M hc bv aa;have fc:=kids c hc bv;have pp:=DY V (by omega) (by omega) O (by omega) (show 0<=c by omega) (by omega) (show i≠c by omega);obtain ⟨e1,e2,u1,u2⟩:=pp;have c0:0<=c:=by omega
  refine ⟨_,rfl,_,_,_,ae I.me rfl,I.hl.ix 0 c0 rfl (by omega) fun bb Y=> ⟨_,Y,?_⟩⟩;rw [lW c0];refine (py I (g y.l c) v (by omega) (by rw [Q];omega) (by omega) (by rw [Q];omega)).mono ?_;rintro e an ⟨rfl,X⟩;have I:=I.grow X;have M:=M.grow X;refine ⟨_,rfl,aj (fun U=>dV (fun j j1 j2 j3=> ?_) an I M) (fun U=> ?_)⟩
  . have: ¬Bt (g x.score) (g y.l c) v:=by rw [<- sf,<- Q];simpa using U
    exact Bt.BW (aa j j1 j2 j3) this
  . have U:Bt (g x.score) (g y.l c) v:=by rw [<- sf,<- Q];simpa using U
    refine ⟨_,rfl,_,_,_,ae I.me rfl,I.hl.ix 0 c0 rfl (by omega) fun bb Y=> ⟨_,Y,?_⟩⟩;rw [lW c0];refine (pE I i _ O (by omega) (show 0<=g y.l c by omega) (by omega) (by omega)).mono ?_;rintro e dw ⟨rfl,b3,b7⟩;have sw:=qU.swap (z:=(y.put i (g y.l c)).put c v) V O (by rw [Z];exact i1) c0 (by rw [Z];omega) (by omega) e1 e2 (by simp [HS.put]) (by simp [HS.put]) rfl;refine ⟨rfl,x.l.length - c.toNat,by omega,_,b3,?_,sw.1,?_,by omega,c0,by omega,rfl,M.trans (a_▸b7)⟩
    . refine lk.trans ⟨rfl,rfl,rfl,rfl,rfl,rfl,by simp [HS.put],by simp [HS.put],rfl,rfl,fun u _ _=>sw.2 u⟩
    . rw [e1];refine ou.step ki O bv (by omega) (by omega) ?_ ?_
      . rw [lQ O (by omega)];simpa [show ¬c=i by omega] using U
      . intro j j1 j2 j3;rw [lQ O (by omega)];simpa [show ¬c=i by omega,show ¬j=i by omega] using aa j j1 j2 j3
 refine ⟨_,rfl,_,_,_,ae I.me rfl,aj (fun t1=> ?_) (fun t1=> ?_)⟩<;>simp only [decide_eq_true_eq,decide_eq_false_iff_not] at t1
 . have f1:=kids (2*i+1) (.inl rfl) (by omega);have f2:=kids (2*i+2) (.inr rfl) (by omega);refine ⟨_,rfl,_,_,_,ae I.me rfl,I.hl.ix 0 (by omega) rfl t1 fun bb Y=> ⟨_,Y,_,rfl,_,_,_,ae I.me rfl,I.hl.ix 0 (by omega) rfl (by omega) fun c2 b8=> ⟨_,b8,?_⟩⟩⟩;rw [lW (by omega),lW (by omega)];refine (py I _ _ (show 0<=g y.l (2*i+2) by omega) (by rw [Q];omega) (show 0<=g y.l (2*i+1) by omega) (by rw [Q];omega)).mono ?_;rintro e an ⟨rfl,X⟩;have I:=I.grow X;have M:=M.grow X;refine ⟨_,rfl,aj (fun U=>rest _ an I M (.inr rfl) (by omega) fun j j1 j2 j3=> ?_) (fun U=>rest _ an I M (.inl rfl) (by omega) fun j j1 j2 j3=> ?_)⟩
   . have U:Bt (g x.score) (g y.l (2*i+2)) (g y.l (2*i+1)):=by rw [<- sf,<- Q];simpa using U
     obtain rfl|rfl:j=2*i+1\/j=2*i+2:=by omega
     . exact U.uL
     . exact fun hb=>hb.uL hb
   . have U: ¬Bt (g x.score) (g y.l (2*i+2)) (g y.l (2*i+1)):=by rw [<- sf,<- Q];simpa using U
     obtain rfl|rfl:j=2*i+1\/j=2*i+2:=by omega
     . exact fun hb=>hb.uL hb
     . exact U
 . refine rest _ _ I M (.inl rfl) (by omega) fun j j1 j2 j3=> ?_;obtain rfl:j=2*i+1:=by omega
   exact fun hb=>hb.uL hb
end
section
def f20 (x:Int):Int:=x / 1048576
theorem ND (x:Int):x.fdiv (2 ^ (min (20:Int).toNat (IntKind.bits .i64)))=f20 x:=by
 show x.fdiv 1048576=_;rw [Int.fdiv_eq_ediv_of_nonneg _ (by omega)];rfl
def mZ:Int:=1099511627776
def mj (x:HS) (v:Int):Prop:=mZ<x.step\/mZ<g x.score v
instance (x:HS) (v:Int):Decidable (mj x v):=by unfold mj;infer_instance
def HS.iW (x:HS):HS:= {x with score:=x.score.map f20,step:=imax 1 (f20 x.step)}
theorem qU.score {x:HS} {N:Int} (h:qU x N) {s:List Int} {t:Int} (hs:s.length=x.score.length):qU {x with score:=s,step:=t} N:=
 ⟨h.na,by show (s.length:Int)=_;rw [hs];exact h.ns,h.BT,h.pos,h.nl⟩
theorem wc {w:World} {b:Nat} {x:HS} {N:Int} (h:bZ w b x) (ok:qU x N) (v:Int) (v0:0<=v) (v1:v<=N) (ho:Ord (g x.score) (g x.l) x.l.length 0 (-1)):
 Calls prog eE.id #[ptr b,.int .i64 v] w fun e w'=>e= .returned (.tuple #[])/\∃U,bZ w' b U/\qU U N/\Lk N (if mj x v then x.iW else x) U/\Ord (g U.score) (g U.l) U.l.length 0 (-1)/\aF (x.bK b) w w':=by
 refine eE.ak ?_;have a_:=ok.ns;have hN:=ok.BT;have a8:(x.l.length:Int)<=1048576:=Int.le_trans ok.nl ok.BT;refine ⟨_,rfl,_,ae h.me rfl,aj (fun t1=> ⟨_,rfl,_,_,_,ae h.me rfl,h.hs.ix 0 v0 rfl (by omega) fun a e=> ⟨_,e,aj (fun Z=> ?_) (fun Z=> ?_)⟩⟩) (fun t1=> ?_)⟩
 . rw [lW v0] at Z;simp only [decide_eq_true_eq] at t1 Z;have hm: ¬mj x v:=by unfold mj mZ;omega
   rw [if_neg hm];exact ⟨rfl,x,h,ok,Lk.refl N x,ho,aF.refl w⟩
 all_goals (
  have hm:mj x v:=by
   unfold mj mZ;first
   | (rw [lW v0] at Z;simp only [decide_eq_false_iff_not] at Z;omega)
   | (simp only [decide_eq_false_iff_not] at t1;omega)
  rw [if_pos hm];clear t1;refine ⟨_,rfl,_,_,_,ae h.me rfl,?_⟩;refine ⟨fun i w' k=> ∃t:Nat,i=t/\t<=x.score.length/\bZ w' b {x with score:=oM f20 t x.score}/\aF (x.bK b) w w'/\k+t=x.score.length,⟨x.score.length,0,rfl,Nat.zero_le _,by rw [Dq];exact h,aF.refl w,rfl⟩,?_⟩;rintro i w' k _ ⟨t,rfl,ht,I,M,V⟩;refine aj (fun J=> ?_) (fun J=> ?_)<;>simp only [decide_eq_true_eq,decide_eq_false_iff_not] at J
  . have hl:=zk f20 t x.score;refine ⟨_,rfl,_,_,_,ae I.me rfl,I.hs.ix 0 (by omega) rfl (by rw [hl];exact J) fun bb ag=> ⟨_,ag,by decide,?_⟩⟩;rw [Int.toNat_natCast,Ej f20 0 (by omega),ND];refine I.hs.st (f20 (x.score.getD t 0)) rfl rfl (by omega) rfl (by rw [hl];exact J) fun a' o m=> ⟨k - 1,by omega,t+1,?_,by omega,?_,M.trans (m.mono fun k _ V=> .inr (.inr (.inr V))),by omega⟩
    . rw [aD (by omega) (by omega)];omega
    . have:=I.Nj (by simp) o m;rw [Int.toNat_natCast,EC f20 0 (by omega)] at this;exact this
  . have et:t=x.score.length:=by omega
    subst et;rw [Ew] at I;refine ⟨_,rfl,_,ae I.me rfl,by decide,_,rfl,?_⟩;rw [ND];refine bO I.me rfl rfl fun X o m=> ?_;have Q:bZ X b x.iW:=I.MF o m;have M2:aF (x.bK b) w X:=M.trans (m.mono fun k _ V=> .inl V);have ac:qU x.iW N:=ok.score (by simp);refine ⟨_,rfl,_,_,_,ae Q.me rfl,?_⟩;have en:i64.wrap ((x.iW.l.length:Int) - 1)=(x.l.length:Int) - 1:=by show i64.wrap ((x.l.length:Int) - 1)=_;rw [aD (by omega) (by omega)]
    rw [en];refine ⟨fun i w' k=> ∃y,bZ w' b y/\qU y N/\Lk N x.iW y/\Ord (g x.iW.score) (g y.l) x.l.length (i+1) (-1)/\ -1<=i/\i<x.l.length/\k=(i+1).toNat/\aF (x.bK b) w w',⟨_,x.iW,Q,ac,Lk.refl N _,?_,by omega,by omega,rfl,M2⟩,?_⟩
    . intro j j1 j2 j3 j4;omega
    clear I Q ac M M2 m o ho;rintro i w' k _ ⟨y,I,Y,lk,oy,i0,i1,V,M⟩;have aa:y.l.length=x.l.length:=lk.l;have O:y.score=x.iW.score:=lk.score;have ap:y.bK b=x.bK b:=lk.bK b;refine aj (fun J=> ?_) (fun J=> ?_)<;>simp only [decide_eq_true_eq,decide_eq_false_iff_not,ge_iff_le] at J
    . refine (xG I Y i J (by omega) i (Int.le_refl _) ⟨?_,?_⟩).mono ?_
      . intro j j1 j2 j3 j4;rw [O];exact oy j j1 (by omega) (by omega) (by omega)
      . intro j j1 j2 j3 j4 j5;omega
      . rintro e w2 ⟨rfl,z,hz,ar,lz,oz,mz⟩;have an:z.l.length=y.l.length:=lz.l;refine ⟨rfl,i.toNat,by omega,z,hz,ar,lk.trans lz,?_,?_,?_,?_,M.trans (ap▸mz)⟩
        . have e1:i64.wrap (i - 1)+1=i:=by rw [aD (by omega) (by omega)];omega
          rw [e1,<- O,<- aa,<- an];exact oz
        . rw [aD (by omega) (by omega)];omega
        . rw [aD (by omega) (by omega)];omega
        . rw [aD (by omega) (by omega)];omega
    . have ei:i= -1:=by omega
      subst ei;refine ⟨rfl,y,I,Y,lk,?_,M⟩;rw [O,aa];exact oy)
theorem Lb {w:World} {b:Nat} {x:HS} (h:bZ w b x):Calls prog iI.id #[ptr b] w fun e w'=>e= .returned (.int .i64 x.l.length)/\ao w w':=by
 refine iI.ak ?_;exact bm rfl ⟨_,rfl,_,_,_,ae h.me rfl,rfl,aF.refl w⟩
theorem tG {w:World} {b:Nat} {x:HS} (h:bZ w b x) (v:Int):Calls prog jr.id #[ptr b,.int .i64 v] w fun e w'=>e= .returned (.bool (decide (1<=v/\v<x.at_.length)))/\ao w w':=by
 refine jr.ak ?_;refine cu rfl (aj (fun t=> ⟨_,rfl,_,_,_,ae h.me rfl,?_,aF.refl w⟩) (fun t=> ⟨?_,aF.refl w⟩))<;>simp only [decide_eq_true_eq,decide_eq_false_iff_not,ge_iff_le] at t
 . simp [t]
 . simp [t]
theorem Dy {w:World} {b:Nat} {x:HS} (h:bZ w b x) (hb:x.l.length<2147483648):Calls prog hZ.id #[ptr b] w fun e w'=>e= .returned (.tuple #[.int .i64 (if x.l.length=0 then 0 else g x.l 0),.bool (decide (x.l.length≠0))])/\ao w w':=by
 refine hZ.ak ?_;refine (Lb h).mono ?_;rintro e w1 ⟨rfl,I⟩;have h:=h.grow I;refine ⟨_,rfl,aj (fun t=> ⟨?_,I⟩) (fun t=> ⟨_,rfl,_,_,_,ae h.me rfl,h.hl.ix 0 (Int.le_refl _) rfl ?_ fun a e=> ⟨_,e,?_,I⟩⟩)⟩
 . have:x.l.length=0:=by have:=beq_iff_eq.1 t;omega
   simp [this]
 . have:=beq_eq_false_iff_ne.1 t;omega
 . have t:=beq_eq_false_iff_ne.1 t;have:x.l.length≠0:=by omega
   rw [lW (Int.le_refl 0),if_neg this];simp [this]
structure mh (x:HS) (N:Int):Prop where
 ok:qU x N
 n0:0<=N
 Nc:Ord (g x.score) (g x.l) x.l.length 0 (-1)
 sc: ∀v,0<=v->v<=N->0<=g x.score v/\g x.score v<=mZ
 st:1<=x.step/\x.step<=mZ
theorem Mz {l:List Int} {f:Int->Int} (I:f 0=0) (v:Int):g (l.map f) v=f (g l v):=by
 unfold g;split
 . exact I.symm
 . simp only [List.getD_eq_getElem?_getD,List.getElem?_map];cases l[v.toNat]? <;>simp [I]
theorem uN {y z:HS} {N v:Int} (n0:0<=N) (ok:qU z N) (lk:Lk N (if mj y v then y.iW else y) z) (o:Ord (g z.score) (g z.l) z.l.length 0 (-1))
 (hs: ∀u,0<=u->u<=N->0<=g y.score u/\g y.score u<=4398046511104/\(u≠v->g y.score u<=mZ)) (ht:1<=y.step/\y.step<=4398046511104):mh z N:=by
 by_cases hm:mj y v
 . rw [if_pos hm] at lk;have O:z.score=y.score.map f20:=lk.score;have Q:z.step=imax 1 (f20 y.step):=lk.step;refine ⟨ok,n0,o,fun u J I=> ?_,?_⟩
   . rw [O,Mz rfl];have:=hs u J I;unfold f20 mZ;omega
   . rw [Q];unfold imax f20 mZ;split<;>omega
 . rw [if_neg hm] at lk;have O:z.score=y.score:=lk.score;have Q:z.step=y.step:=lk.step;unfold mj at hm;refine ⟨ok,n0,o,fun u J I=> ?_,?_⟩
   . rw [O];have:=hs u J I;by_cases e:u=v
     . subst e;omega
     . exact ⟨this.1,this.2.2 e⟩
   . rw [Q];omega
theorem Hg {w:World} {b:Nat} {x:HS} {N:Int} (h:bZ w b x) (I:mh x N):Calls prog eC.id #[ptr b] w fun e w'=>e= .returned (.tuple #[])/\
 ∃z,bZ w' b z/\mh z N/\Lk N (if mZ<x.step+ (x.step / 16+1) then {x with step:=x.step+ (x.step / 16+1)}.iW else {x with step:=x.step+ (x.step / 16+1)}) z/\aF (x.bK b) w w':=by
 refine eC.ak ?_;have hN:=I.ok.BT;have hs:=I.st;have an:=I.ok.na;have ac:=I.n0;unfold mZ at hs;refine bm rfl ⟨_,rfl,_,_,_,ae h.me rfl,bm ?_ ?_⟩
 . obtain ⟨q,hq,_⟩:=h.ha.cell (j:=0) (by omega);rw [hq];rfl
 have h:=h.drew;refine ⟨_,rfl,_,ae h.me rfl,_,rfl,_,ae h.me rfl,by decide,_,rfl,?_⟩;have e1:i64.wrap (x.step+i64.wrap (i64.wrap (x.step.tdiv 16)+1))=x.step+ (x.step / 16+1):=by
  rw [Int.tdiv_eq_ediv_of_nonneg (by omega),aD (x:=x.step / 16) (by omega) (by omega),aD (x:=x.step / 16+1) (by omega) (by omega),aD (by omega) (by omega)]
 rw [e1];refine bO h.me rfl rfl fun w8 o m=> ?_;have Z:=h.MF o m;have M8:aF (x.bK b) w w8:=((aF.refl w).drew).trans (m.mono fun k _ X=> .inl X);refine (wc Z (I.ok.score rfl) 0 (by omega) I.n0 I.Nc).mono ?_;rintro e w9 ⟨rfl,z,hz,O,Q,Y,mz⟩;refine ⟨rfl,rfl,z,hz,?_,?_,M8.trans mz⟩
 . refine uN I.n0 O Q Y (fun u U V=> ?_) ?_
   . have:=I.sc u U V;unfold mZ at this;exact ⟨this.1,by show g x.score u<=_;omega,fun _=> (I.sc u U V).2⟩
   . show 1<=x.step+ (x.step / 16+1)/\x.step+ (x.step / 16+1)<=_;omega
 . have:mj {x with step:=x.step+ (x.step / 16+1)} 0↔mZ<x.step+ (x.step / 16+1):=by
    unfold mj;have:=(I.sc 0 (Int.le_refl _) I.n0).2;constructor
    . rintro (h|h)
      . exact h
      . exact absurd this (by show ¬g x.score 0<=mZ;exact Int.not_le.2 h)
    . exact .inl
   by_cases J:mZ<x.step+ (x.step / 16+1)
   . rw [if_pos J];rwa [if_pos (this.2 J)] at Q
   . rw [if_neg J];rwa [if_neg (fun h=>J (this.1 h))] at Q
theorem Ord.OF {S L:Int->Int} {n i:Int} (h:Ord S L n 0 (-1)) (S':Int->Int) (J: ∀j,0<=j->j<n->j≠i->S' (L j)=S (L j)) (hi:0<=i->i<n->S (L i)<=S' (L i)):BG S' L n i:=by
 constructor
 . intro j U I V;have O:=h j U I (by omega) (by omega);have e:=J j (by omega) I V;by_cases hp:(j - 1) / 2=i
   . have:=hi (by omega) (by omega);unfold Bt at*
     rw [hp] at O ⊢;rw [e];omega
   . have X:=J ((j - 1) / 2) (by omega) (by omega) hp;unfold Bt at*
     rw [e,X];omega
 . intro j U I V Y;have O:=h j U I (by omega) (by omega);have Q:=h i Y (by omega) (by omega) (by omega);rw [V] at O;have e:=J j (by omega) I (by omega);have X:=J ((i - 1) / 2) (by omega) (by omega) (by omega);have:=Bt.BW O Q;unfold Bt at*
   rw [e,X];omega
theorem JG {w:World} {b:Nat} {x:HS} {N:Int} (h:bZ w b x) (I:mh x N) (v:Int):Calls prog fE.id #[ptr b,.int .i64 v] w fun e w'=>
 e= .returned (.int .i64 (if 1<=v/\v<=N then 0 else 1))/\∃z,bZ w' b z/\mh z N/\
  Lk N (if 1<=v/\v<=N then (if mZ<g x.score v+x.step then {x with score:=x.score.set v.toNat (g x.score v+x.step)}.iW else {x with score:=x.score.set v.toNat (g x.score v+x.step)}) else x) z/\aF (x.bK b) w w':=by
 refine fE.ak ?_;have hN:=I.ok.BT;have hs:=I.st;have b4:=I.ok.na;have bv:=I.ok.ns;have b7:=I.ok.nl;have aT:=I.n0;unfold mZ at hs;refine (tG h v).mono ?_;rintro e w1 ⟨rfl,g1⟩;have h:=h.grow g1;refine ⟨_,rfl,aj (fun t=> ?_) (fun t=> ?_)⟩
 . have t: ¬(1<=v/\v<=N):=by simp at t;omega
   rw [if_neg t,if_neg t];exact ⟨rfl,x,h,I,Lk.refl N x,g1.mono fun _ _ h=>h.elim⟩
 have t:1<=v/\v<=N:=by simp at t;omega
 rw [if_pos t,if_pos t];have h:=h.drew;have v0:0<=v:=by omega
 have v1:v<x.score.length:=by omega
 have sv:=I.sc v v0 t.2;have b':g x.score v<=1099511627776:=sv.2;refine ⟨_,rfl,_,_,_,ae h.me rfl,h.hs.ix 0 v0 rfl v1 fun a e=> ⟨_,e,_,rfl,_,ae h.me rfl,?_⟩⟩;rw [lW v0,aD (x:=g x.score v+x.step) (by omega) (by omega)];refine h.hs.st (g x.score v+x.step) rfl rfl v0 rfl v1 fun Y o m=> ?_;have kP:=h.Nj (by simp) o m;have aa:aF (x.bK b) w Y:=((g1.mono fun _ _ h=>h.elim).drew).trans (m.mono fun k _ hk=> .inr (.inr (.inr hk)));generalize U:({x with score:=x.score.set v.toNat (g x.score v+x.step)}:HS)=y at kP ⊢;have gy:g y.score=fun j=>if j=v then g x.score v+x.step else g x.score j:=by rw [<- U];exact yB v0 v1
 have V:qU y N:=by rw [<- U];exact I.ok.score (by simp)
 have yl:y.l=x.l:=by rw [<- U]
 have ya:y.at_=x.at_:=by rw [<- U]
 have yt:y.step=x.step:=by rw [<- U]
 have yf:y.bK b=x.bK b:=by rw [<- U];rfl
 have Z:g y.score v=g x.score v+x.step:=by rw [gy];simp
 have dV: ∀z,qU z N->Lk N y z->Ord (g y.score) (g z.l) z.l.length 0 (-1)->∀O,bZ O b z->aF (x.bK b) w O->Calls prog eE.id #[ptr b,.int .i64 v] O fun e O=>e= .returned (.tuple #[])/\
  (Ending.returned (.int .i64 0)= .returned (.int .i64 0)/\∃z,bZ O b z/\mh z N/\Lk N (if mZ<g x.score v+x.step then y.iW else y) z/\aF (x.bK b) w O):=by
  intro z Q J oz O hz M;have zs:z.score=y.score:=J.score;have zt:z.step=y.step:=J.step;refine (wc hz Q v v0 t.2 (by rw [zs];exact oz)).mono ?_;rintro e b8 ⟨rfl,u,hu,a8,lu,ou,mu⟩;have eU:mj z v↔mZ<g x.score v+x.step:=by unfold mj;rw [zs,zt,Z,yt];unfold mZ;omega
  have az:Lk N (if mZ<g x.score v+x.step then y.iW else y) u:=by
   by_cases hc:mZ<g x.score v+x.step
   . rw [if_pos (eU.2 hc)] at lu;rw [if_pos hc];have ls:Lk N y.iW z.iW:=⟨J.pl,J.cl,J.pa,J.ca,J.ps,J.cs,J.l,J.a,congrArg (List.map f20) zs,congrArg (fun t=>imax 1 (f20 t)) zt,J.has⟩
     exact ls.trans lu
   . rw [if_neg (fun h=>hc (eU.1 h))] at lu;rw [if_neg hc];exact J.trans lu
  refine ⟨rfl,rfl,u,hu,?_,az,M.trans (by have:=J.bK b;rw [this,yf] at mu;exact mu)⟩;refine uN aT a8 lu ou (fun q q0 q1=> ?_) (by rw [zt,yt];omega);rw [zs,gy];have:=I.sc q q0 q1;unfold mZ at*
  by_cases e:q=v
  . subst e;simp;omega
  . simp [e];omega
 refine ⟨_,rfl,_,_,_,ae kP.me rfl,kP.ha.ix 0 v0 rfl (by rw [ya];omega) fun a e=> ⟨_,e,?_⟩⟩;rw [lW v0];have bk:=I.ok.pos.bD v t.1 t.2;refine aj (fun X=> ?_) (fun X=> ?_)<;>simp only [decide_eq_true_eq,decide_eq_false_iff_not] at X
 . refine ⟨_,rfl,_,_,_,ae kP.me rfl,kP.ha.ix 0 v0 rfl (by rw [ya];omega) fun a e=> ⟨_,e,?_⟩⟩;rw [ya] at X ⊢;rw [lW v0,aD (x:=g x.at_ v - 1) (by omega) (by omega)];have hl:g x.l (g x.at_ v - 1)=v:=bk.2.2 X;refine (DD kP V (g x.at_ v - 1) (by omega) (by rw [yl];omega) ?_).mono ?_
   . rw [yl];refine Ord.OF I.Nc _ (fun j j0 j1 j2=> ?_) fun _ _=> ?_
     . rw [gy];have:g x.l j≠v:=fun e=>j2 (I.ok.pos.inj j0 j1 (by omega) (by omega) (by rw [e,hl]));simp [this]
     . rw [hl,Z];omega
   . rintro e ay ⟨rfl,z,hz,Q,J,oz,mz⟩;exact ⟨rfl,dV z Q J oz ay hz (aa.trans (yf▸mz))⟩
 . refine dV y V (Lk.refl N y) ?_ Y kP aa;rw [yl];have no: ∀j:Int,0<=j->j<x.l.length->g x.l j≠v:=by
    intro j j0 j1 e;have:=I.ok.pos.ul j j0 j1;rw [e] at this;rw [ya] at X;omega
   intro j j1 j2 j3 j4;have:=I.Nc j j1 j2 j3 j4;unfold Bt at*
   rw [gy];simp only [no j (by omega) j2,no ((j - 1) / 2) (by omega) (by omega),if_false];exact this
theorem Kd {l:List Int} {v:Int}:g (l++ [v])=fun j:Int=>if j=l.length then v else g l j:=by
 funext j;unfold g;simp only [List.getD_eq_getElem?_getD];by_cases I:j<0
 . simp [I];omega
 . simp only [if_neg I];by_cases e:j=l.length
   . subst e;simp
   . rw [if_neg e];by_cases J:j.toNat<l.length
     . rw [List.getElem?_append_left J]
     . rw [List.getElem?_eq_none (by simp;omega),List.getElem?_eq_none (by omega)]
structure OI (N v:Int) (x y:HS):Prop where
 pa:y.pa=x.pa
 ca:y.ca=x.ca
 ps:y.ps=x.ps
 cs:y.cs=x.cs
 a:y.at_.length=x.at_.length
 score:y.score=x.score
 step:y.step=x.step
 has: ∀u,1<=u->u<=N->(0<g y.at_ u↔0<g x.at_ u\/u=v)
theorem JM {w:World} {b:Nat} {x:HS} {N:Int} (h:bZ w b x) (U:mh x N) (v:Int) (hv:1<=v/\v<=N):Calls prog fD.id #[ptr b,.int .i64 v] w fun e w'=>
 e= .returned (.int .i64 0)/\∃z,bZ w' b z/\mh z N/\OI N v x z/\aF (x.bK b) w w'/\∀k,z.bK b k->x.bK b k\/w.heap.size<=k:=by
 refine fD.ak ?_;have hN:=U.ok.BT;have b3:=U.ok.na;have bc:=U.ok.ns;have di:=U.ok.nl;have ax:=U.n0;refine (tG h v).mono ?_;rintro e w1 ⟨rfl,g1⟩;have h:=h.grow g1;refine ⟨_,rfl,bm ?_ ?_⟩
 . simp;omega
 have v0:0<=v:=by omega
 refine ⟨_,rfl,_,_,_,ae h.me rfl,h.ha.ix 0 v0 rfl (by omega) fun a e=> ⟨_,e,?_⟩⟩;rw [lW v0];have bk:=U.ok.pos.bD v hv.1 hv.2;refine aj (fun tt=> ?_) (fun tt=> ?_)
 . have tt:g x.at_ v=0:=beq_iff_eq.1 tt;have no: ∀j:Int,0<=j->j<x.l.length->g x.l j≠v:=by
    intro j j0 j1 e;have:=U.ok.pos.ul j j0 j1;rw [e] at this;omega
   have pp:=U.ok.pos.push (by omega) hv.1 hv.2 tt;have c7:(x.l.length:Int)+1<=N:=by
    have:wU (fun j=>if j=(x.l.length:Int) then v else g x.l j) (fun u=>if u=v then (x.l.length:Int)+1 else g x.at_ u) ((x.l.length+1:Nat):Int) ((N.toNat:Nat):Int):=by
     rw [Int.toNat_of_nonneg ax];exact pp
    have:=this.le;omega
   refine ⟨_,rfl,_,_,_,ae h.me rfl,?_⟩;intro n9 av ag;have O:=h.grow ag.mod;have az:ao w av:=g1.trans ag.mod;refine O.hl.mF c4 v ag.has rfl rfl eV (by omega) fun dd p' c' o m hp dc=> ?_;have S: ∀k,aJ p'=some k->aJ x.pl=some k\/av.heap.size<=k:=by
    intro k I;rcases hp with rfl|rfl
    . exact .inl I
    . right;simp [aJ] at I;omega
   have X:=O.lt;have m1:=O.me.keep m O.bl;refine ⟨_,rfl,bO m1 rfl rfl fun an bv ac=> ?_⟩;have pb:aJ p'≠some b:=fun e=>by
    rcases S b e with e2|e2
    . exact O.bl e2
    . have:=X b (.inl rfl);omega
   generalize hy:({x with l:=x.l++ [v],pl:=p',cl:=c'}:HS)=y;have Q:bZ an b y:=by
    rw [<- hy];refine ⟨?_,o.keep ac fun k I e=>pb (e▸I),(O.ha.keep m fun k I J=>O.la k J I).keep ac fun k I e=>O.ba (e▸I),(O.hs.keep m fun k I J=>O.ls k J I).keep ac fun k I e=>O.bs (e▸I),pb,O.ba,O.bs,?_,?_,O.sa⟩
    . have e:(x.l++ [v]).length=x.l.length+1:=by simp
      show bA an b #[.slice p' (x.l++ [v]).length c',_,_,_];rw [e];exact bv
    . intro k I J;rcases S k I with e|e
      . exact O.la k e J
      . have:=X k (.inr (.inr (.inl J)));omega
    . intro k I J;rcases S k I with e|e
      . exact O.ls k e J
      . have:=X k (.inr (.inr (.inr J)));omega
   have bu:aF (x.bK b) w an:=(((az.mono fun _ _ h=>h.elim).trans (m.mono fun k _ I=> .inr (.inl I))).trans (ac.mono fun k _ I=> .inl I))
   have yl:y.l=x.l++ [v]:=by rw [<- hy]
   have aw:y.l.length=x.l.length+1:=by rw [yl];simp
   have ya:y.at_=x.at_:=by rw [<- hy]
   have ys:y.score=x.score:=by rw [<- hy]
   have yt:y.step=x.step:=by rw [<- hy]
   have yf: ∀k,y.bK b k->x.bK b k\/w.heap.size<=k:=by
    rw [<- hy];rintro k (e|e|e|e)
    . exact .inl (.inl e)
    . rcases S k e with e|e
      . exact .inl (.inr (.inl e))
      . right;have:=az.size;omega
    . exact .inl (.inr (.inr (.inl e)))
    . exact .inl (.inr (.inr (.inr e)))
   have Q:=Q.drew;refine ⟨_,rfl,_,_,_,ae Q.me rfl,_,rfl,_,_,_,ae Q.me rfl,Q.ha.st ((y.l.length:Nat):Int) rfl rfl v0 rfl (by rw [ya];omega) fun bY b4 ar=> ?_⟩;have ad:=Q.Jn (by simp) b4 ar;generalize Z:({y with at_:=y.at_.set v.toNat ((y.l.length:Nat):Int)}:HS)=z at ad;have zl:z.l=y.l:=by rw [<- Z]
   have zs:z.score=x.score:=by rw [<- Z];exact ys
   have zt:z.step=x.step:=by rw [<- Z];exact yt
   have Y:z.l.length=x.l.length+1:=by rw [zl,aw]
   have za:g z.at_=fun u=>if u=v then (x.l.length:Int)+1 else g x.at_ u:=by
    rw [<- Z];show g (y.at_.set v.toNat ((y.l.length:Nat):Int))=_;rw [yB v0 (by rw [ya];omega),ya,aw];funext u;split<;>omega
   have zL:g z.l=fun j:Int=>if j=x.l.length then v else g x.l j:=by rw [zl,yl,Kd]
   have ay:z.at_.length=x.at_.length:=by rw [<- Z];simp [ya]
   have zf:z.bK b=y.bK b:=by rw [<- Z];rfl
   have b7:aF (x.bK b) w bY:=bu.drew.then ar fun k I e=> (yf k (.inr (.inr (.inl e)))).resolve_right (by omega);have b6:qU z N:=by
    refine ⟨by rw [ay];exact b3,by rw [zs];exact bc,hN,?_,by rw [Y];omega⟩;rw [zL,za,Y];exact pp
   refine ⟨_,rfl,_,_,_,ae ad.me rfl,?_⟩;have ei:i64.wrap ((z.l.length:Int) - 1)=(x.l.length:Int):=by rw [Y,aD (by omega) (by omega)];omega
   rw [ei];refine (DD ad b6 (x.l.length:Int) (by omega) (by rw [Y];omega) ?_).mono ?_
   . rw [zs,zL,Y];constructor
     . intro j j1 j2 j3;have:=U.Nc j j1 (by omega) (by omega) (by omega);simp only [j3,if_false,show ¬(j - 1) / 2=(x.l.length:Int) by omega];exact this
     . intro j j1 j2 j3 j4;omega
   . rintro e c0 ⟨rfl,q,hq,b5,V,oq,mq⟩;refine ⟨rfl,rfl,q,hq,⟨b5,ax,by rw [V.score];exact oq,fun u u0 u1=>by rw [V.score,zs];exact U.sc u u0 u1,by rw [V.step,zt];exact U.st⟩,?_,?_,?_⟩
     . refine ⟨by rw [V.pa,<- Z,<- hy],by rw [V.ca,<- Z,<- hy],by rw [V.ps,<- Z,<- hy],by rw [V.cs,<- Z,<- hy],by rw [V.a,ay],by rw [V.score,zs],by rw [V.step,zt],fun u u0 u1=> ?_⟩;rw [V.has u u0 u1,za];by_cases e:u=v
       . simp [e]
       . simp [e]
     . exact b7.then mq fun k I e=> (yf k (zf▸e)).resolve_right (by omega)
     . intro k I;rw [V.bK b,zf] at I;exact yf k I
 . have tt:g x.at_ v≠0:=beq_eq_false_iff_ne.1 tt;refine ⟨rfl,x,h,U,⟨rfl,rfl,rfl,rfl,rfl,rfl,rfl,fun u u0 u1=> ⟨.inl,?_⟩⟩,g1.mono fun _ _ h=>h.elim,fun _=> .inl⟩;rintro (h|rfl)
   . exact h
   . omega
structure OH (N v:Int) (x y:HS):Prop where
 pa:y.pa=x.pa
 ca:y.ca=x.ca
 ps:y.ps=x.ps
 cs:y.cs=x.cs
 a:y.at_.length=x.at_.length
 score:y.score=x.score
 step:y.step=x.step
 has: ∀u,1<=u->u<=N->(0<g y.at_ u↔0<g x.at_ u/\u≠v)
theorem K4 {w:World} {b:Nat} {x:HS} (h:bZ w b x) (J:x.l.length=0):Calls prog dA.id #[ptr b] w fun e w'=>
 e= .returned (.tuple #[.int .i64 0,.bool false])/\bZ w' b x/\ao w w':=by
 refine dA.ak ?_;refine (Dy h (by omega)).mono ?_;rintro e w1 ⟨rfl,I⟩;exact ⟨_,_,rfl,cu (by simp [J]) ⟨rfl,h.grow I,I⟩⟩
theorem LN {l:List Int} {k:Nat} {j:Int} (h:j<k):g (l.take k) j=g l j:=by
 unfold g;simp only [List.getD_eq_getElem?_getD];split
 . rfl
 . rw [List.getElem?_take,if_pos (by omega)]
theorem wU.congr {L A L' A':Int->Int} {n N:Int} (h:wU L A n N) (Q: ∀j,0<=j->j<n->L' j=L j) (O: ∀u,1<=u->u<=N->A' u=A u):wU L' A' n N:=by
 constructor
 . intro j J I;have f:=h.ul j J I;rw [Q j J I,O _ f.1 f.2.1];exact f
 . intro v v1 v2;have f:=h.bD v v1 v2;rw [O v v1 v2];exact ⟨f.1,f.2.1,fun hp=>by rw [Q _ (by omega) (by omega)];exact f.2.2 hp⟩
theorem K6 {w:World} {b:Nat} {x:HS} {N:Int} (h:bZ w b x) (J:mh x N) (h0:x.l.length≠0):Calls prog dA.id #[ptr b] w fun e w'=>
 e= .returned (.tuple #[.int .i64 (g x.l 0),.bool true])/\∃z,bZ w' b z/\mh z N/\OH N (g x.l 0) x z/\z.l.length+1=x.l.length/\aF (x.bK b) w w'/\z.bK b=x.bK b:=by
 refine dA.ak ?_;have hN:=J.ok.BT;have ay:=J.ok.na;have av:=J.ok.ns;have dk:=J.ok.nl;have aw:=J.n0;obtain ⟨n,hn⟩: ∃n,x.l.length=n+1:=⟨x.l.length - 1,by omega⟩
 refine (Dy h (by omega)).mono ?_;rintro e w1 ⟨rfl,g1⟩;have h:=h.grow g1;refine ⟨_,_,rfl,?_⟩;rw [if_neg h0,decide_eq_true h0];have f0:=J.ok.pos.ul 0 (Int.le_refl _) (by omega);have fn:=J.ok.pos.ul n (by omega) (by omega);have en:i64.wrap ((x.l.length:Int) - 1)=(n:Int):=by rw [aD (by omega) (by omega)];omega
 refine bm rfl ⟨_,rfl,_,_,_,ae h.me rfl,?_⟩;rw [en];refine ⟨_,rfl,_,_,_,ae h.me rfl,h.hl.ix 0 (by omega) rfl (by omega) fun a8 e8=> ⟨_,e8,_,rfl,_,_,_,ae h.me rfl,?_⟩⟩;rw [lW (by omega)];have hc:n<=x.cl:=by
  rcases h.hl.un with ⟨_,_,e⟩| ⟨_,_,_,_,e,_⟩
  . simp [e] at h0
  . omega
 refine fe 0 n x.cl rfl rfl rfl (Nat.le_refl _) hc (Nat.zero_le _) ?_;have ep:(if x.cl=0 then x.pl else x.pl.map (·.add (0*1)))=x.pl:=by
  split
  . rfl
  . cases x.pl<;>simp [Addr.add]
 rw [ep,Nat.sub_zero,Nat.sub_zero];refine ⟨_,rfl,bO h.me rfl rfl fun ap o m=> ?_⟩;generalize X:({x with l:=x.l.take n}:HS)=y;have an:bZ ap b y:=by
  rw [<- X];have ht:=h.hl.take (k:=n) (by omega);refine ⟨?_,ht.keep m fun k Y e=>h.bl (e▸Y),h.ha.keep m fun k Y e=>h.ba (e▸Y),h.hs.keep m fun k Y e=>h.bs (e▸Y),h.bl,h.ba,h.bs,h.la,h.ls,h.sa⟩;have e:(x.l.take n).length=n:=by simp;omega
  show bA ap b #[.slice x.pl (x.l.take n).length x.cl,_,_,_];rw [e];exact o
 have bY:aF (x.bK b) w ap:=(g1.mono fun _ _ h=>h.elim).trans (m.mono fun k _ Y=> .inl Y);have yl:y.l=x.l.take n:=by rw [<- X]
 have b4:y.l.length=n:=by rw [yl];simp;omega
 have ya:y.at_=x.at_:=by rw [<- X]
 have yf:y.bK b=x.bK b:=by rw [<- X];rfl
 refine ⟨_,rfl,_,_,_,ae an.me rfl,an.ha.st 0 rfl rfl (by omega) rfl (by rw [ya];omega) fun b8 b3 az=> ?_⟩;have tj:=an.Jn (by simp) b3 az;generalize V:({y with at_:=y.at_.set (g x.l 0).toNat 0}:HS)=z at tj;have zl:z.l=y.l:=by rw [<- V]
 have I:z.l.length=n:=by rw [zl,b4]
 have zs:z.score=x.score:=by rw [<- V,<- X]
 have zt:z.step=x.step:=by rw [<- V,<- X]
 have zf:z.bK b=x.bK b:=by rw [<- yf,<- V];rfl
 have O:z.at_.length=x.at_.length:=by rw [<- V];simp [ya]
 have za:g z.at_=fun u=>if u=g x.l 0 then 0 else g x.at_ u:=by
  rw [<- V];show g (y.at_.set (g x.l 0).toNat 0)=_;rw [yB (by omega) (by rw [ya];omega),ya]
 have bb:aF (x.bK b) w b8:=bY.trans (az.mono fun k _ Y=>by rw [<- yf];exact .inr (.inr (.inl Y)));have pp:=wU.NU (n:=(n:Int)) (by have:=J.ok.pos;rw [hn] at this;exact this) (by omega) rfl;have a6:z.pa=x.pa:=by rw [<- V,<- X]
 have ax:z.ca=x.ca:=by rw [<- V,<- X]
 have aT:z.ps=x.ps:=by rw [<- V,<- X]
 have a7:z.cs=x.cs:=by rw [<- V,<- X]
 refine aj (fun t=> ?_) (fun t=> ?_)<;>simp only [decide_eq_true_eq,decide_eq_false_iff_not] at t
 . have n0:(n:Int)≠0:=by omega
   refine (pE tj 0 (g x.l n) (Int.le_refl _) (by rw [I];omega) (by omega) (by rw [O];omega) (by rw [I];omega)).mono ?_;rintro e c3 ⟨rfl,cb,bx⟩;have bc:g (z.put 0 (g x.l n)).l=fun j=>if j=0 then g x.l n else g z.l j:=lQ (Int.le_refl _) (by rw [I];omega)
   have aa:g (z.put 0 (g x.l n)).at_=fun u=>if u=g x.l n then 0+1 else g z.at_ u:=BF (by omega) (by rw [O];omega)
   have U: ∀j:Int,0<=j->j<n->g (z.put 0 (g x.l n)).l j=if j=0 then g x.l n else g x.l j:=by
    intro j j0 j1;rw [bc];show (if j=0 then g x.l n else g z.l j)=_;split
    . rfl
    . rw [zl,yl,LN (by omega)]
   have a':qU (z.put 0 (g x.l n)) N:=by
    refine ⟨by simpa [HS.put,O] using ay,by show (z.score.length:Int)=_;rw [zs];exact av,hN,?_,by simp [HS.put,I];omega⟩;have e1:((z.put 0 (g x.l n)).l.length:Int)=n:=by simp [HS.put,I]
    rw [e1];refine wU.congr pp U fun u u0 u1=> ?_;rw [aa,za];simp only [if_neg n0];rfl
   refine ⟨rfl,?_⟩;have e1:(z.put 0 (g x.l n)).l.length=n:=by simp [HS.put,I]
   refine (xG cb a' 0 (Int.le_refl _) (by rw [e1];omega) 0 (Int.le_refl _) ⟨?_,fun j j1 j2 j3 j4=>by omega⟩).mono ?_
   . rw [e1];show Ord (g z.score) _ _ _ _;rw [zs];intro j j1 j2 j3 j4;rw [U j (by omega) j2,U ((j - 1) / 2) (by omega) (by omega),if_neg (by omega),if_neg j4];exact J.Nc j j1 (by omega) (by omega) (by omega)
   . rintro e c7 ⟨rfl,q,hq,b_,Q,oq,mq⟩;have qs:q.score=x.score:=Q.score.trans zs;have pf:(z.put 0 (g x.l n)).bK b=x.bK b:=zf;refine ⟨rfl,rfl,q,hq,⟨b_,aw,?_,fun u u0 u1=>by rw [qs];exact J.sc u u0 u1,by rw [show q.step=x.step from Q.step.trans zt];exact J.st⟩,?_,?_,?_,?_⟩
     . rw [qs,<- zs];exact oq
     . refine ⟨Q.pa.trans a6,Q.ca.trans ax,Q.ps.trans aT,Q.cs.trans a7,Q.a.trans (by simp [HS.put,O]),qs,Q.step.trans zt,fun u u0 u1=> ?_⟩;rw [Q.has u u0 u1,aa,za];have Z:g x.l n≠g x.l 0:=fun e=>by have:=J.ok.pos.inj (by omega) (by omega) (Int.le_refl 0) (by omega) e;omega
       by_cases e1:u=g x.l n
       . subst e1;simp [Z];omega
       . by_cases e2:u=g x.l 0
         . simp [e2,Ne.symm Z]
         . simp [e1,e2]
     . have:=Q.l;omega
     . exact (bb.trans (zf▸bx)).trans (pf▸mq)
     . rw [Q.bK b,pf]
 . have n0:n=0:=by omega
   subst n0;refine ⟨rfl,z,tj,⟨⟨by rw [O];exact ay,by rw [zs];exact av,hN,?_,by rw [I];omega⟩,aw,?_,fun u u0 u1=>by rw [zs];exact J.sc u u0 u1,by rw [zt];exact J.st⟩,⟨a6,ax,aT,a7,O,zs,zt,fun u u0 u1=> ?_⟩,by rw [I,hn],bb,zf⟩
   . rw [I];refine wU.congr pp (fun j j0 j1=>by omega) fun u u0 u1=> ?_;rw [za];show (if u=g x.l 0 then 0 else g x.at_ u)=if u=g x.l ((0:Nat):Int) then (if ((0:Nat):Int)=0 then 0 else 1) else if u=g x.l 0 then 0 else g x.at_ u
     split
     . subst_vars;simp
     . rename_i Z;rw [if_neg (by simpa using Z)]
   . rw [I];intro j j1 j2;omega
   . rw [za];by_cases e:u=g x.l 0
     . simp [e]
     . simp [e]
end
section
theorem ik:(Tryz.prog.info? aC).bind (·.zero)=some (.int .i64 0):=by kernel_rfl
theorem AF (n:Nat) (v:Int):g (List.replicate n 0) v=0:=by
 unfold g;split
 . rfl
 . simp only [List.getD_eq_getElem?_getD,List.getElem?_replicate];split<;>rfl
structure wR (x:HS) (n t:Nat):Prop where
 l:x.l.length=t
 lj: ∀j:Int,0<=j->j<t->g x.l j=j+1
 a:x.at_.length=n+1
 au: ∀u:Int,0<=u->u<=n->g x.at_ u=if u<=t then u else 0
 s:x.score=List.replicate (n+1) 0
 st:x.step=64
theorem wR.NS {x:HS} {n:Nat} (h:wR x n n) (hn:n<=1048576):mh x n:=by
 have hl:=h.l;refine ⟨⟨by rw [h.a];omega,by rw [h.s];simp,by omega,⟨fun j J I=> ?_,fun v v1 v2=> ?_⟩,by rw [hl];omega⟩,by omega,fun j I Q O U=> ?_,fun v _ _=> ?_,by rw [h.st];decide⟩
 . have:=h.lj j J (by omega);rw [this,h.au _ (by omega) (by omega)];refine ⟨by omega,by omega,?_⟩;rw [if_pos (by omega)]
 . rw [h.au v (by omega) v2,if_pos v2];refine ⟨by omega,by omega,fun _=> ?_⟩;rw [h.lj _ (by omega) (by omega)];omega
 . rw [h.lj j (by omega) (by omega),h.lj _ (by omega) (by omega),h.s];unfold Bt;rw [AF,AF];omega
 . rw [h.s,AF];decide
theorem zX {w:World} (n:Nat) (hn:n<=1048576):Calls prog pL.id #[.int .i64 n] w fun e w'=> ∃b x,e= .returned (.tuple #[ptr b,.int .i64 0])/\bZ w' b x/\wR x n n/\(∀k,x.bK b k->w.heap.size<=k)/\ao w w':=by
 refine pL.ak ?_;refine bm (decide_eq_false (by omega)) (bm (decide_eq_false (by omega)) ?_);have e1:i64.wrap ((n:Int)+1)=((n+1:Nat):Int):=by rw [aD (by omega) (by omega)];omega
 rw [e1];have made: ∀ (b:Nat) (x:HS) (w6:World),bZ w6 b x->wR x n 0->(∀k,x.bK b k->w.heap.size<=k)->ao w w6->
  ∃I7:Int->World->Nat->Prop,(∃k8,I7 1 w6 k8)/\
   ∀ (J:Int) (Q:World) (k8:Nat) (_:Fr),I7 J Q k8->
   aG (decide (J<=(n:Int)))
    (∃bk,(some (Addr.mk b 0 none))=some bk/\∃ar ap ag,Q.cell? (bk.add 0)=some (.slice ar ap ag)/\
      ∀n14 a7,aY (.cells #[.int .i64 J] aC) Q n14 a7->
      ∃bc aa Z ad,(Builtin.append_ #[aI,aI] aI #[.slice ar ap ag,.slice (some (Addr.mk n14 0 none)) 1 1]).run prog a7= .ok (.slice aa Z ad) bc/\
      ∃a_,(some (Addr.mk b 0 none))=some a_/\∃av,ah (a_.add 0) 0 [.slice aa Z ad] bc av/\
      ∃a',(some (Addr.mk b 0 none))=some a'/\∃ac an bx,av.cell? (a'.add 1)=some (.slice ac an bx)/\
      aP ac an J 1 fun a22=>
      ∃a6,ah a22 0 [.int .i64 J] av a6/\
      ∃k9,k9<k8/\I7 (i64.wrap (J+ (1:Int))) a6 k9)
    (∃b' x,Ending.returned (.tuple #[.pointer (some (Addr.mk b 0 none)),.int .i64 0])= .returned (.tuple #[ptr b',.int .i64 0])/\bZ Q b' x/\wR x n n/\(∀k,x.bK b' k->w.heap.size<=k)/\ao w Q):=by
  intro b x w6 h f hf G;refine ⟨fun v w' k=> ∃ (t:Nat) (y:HS),v=t+1/\t<=n/\bZ w' b y/\wR y n t/\(∀k,y.bK b k->w.heap.size<=k)/\ao w w'/\k+t=n,⟨n,0,x,by omega,by omega,h,f,hf,G,by omega⟩,?_⟩;clear h f hf G;rintro v Q k _ ⟨t,x,rfl,ht,h,f,hf,G,I⟩;refine aj (fun tt=> ?_) (fun tt=> ?_)<;>simp only [decide_eq_true_eq,decide_eq_false_iff_not] at tt
  . refine ⟨_,rfl,_,_,_,ae h.me rfl,?_⟩;intro n9 a8 ay;have U:=h.grow ay.mod;have bv:ao w a8:=G.trans ay.mod;have hl:=f.l;refine U.hl.mF c4 ((t:Int)+1) ay.has rfl rfl eV (by omega) fun Q p' c' o m hp di=> ?_;have X:=U.lt;have S: ∀k,aJ p'=some k->aJ x.pl=some k\/a8.heap.size<=k:=by
     intro k I;rcases hp with rfl|rfl
     . exact .inl I
     . right;simp [aJ] at I;omega
    have S2: ∀k,aJ p'=some k->w.heap.size<=k:=fun k I=> (S k I).elim (fun e=>hf k (.inr (.inl e))) (fun e=>Nat.le_trans bv.size e);have m1:=U.me.keep m U.bl;refine ⟨_,rfl,bO m1 rfl rfl fun az b7 Y=> ?_⟩;have pb:aJ p'≠some b:=fun e=>by
     rcases S b e with e2|e2
     . exact U.bl e2
     . have:=X b (.inl rfl);omega
    have aw:bZ az b {x with l:=x.l++ [(t:Int)+1],pl:=p',cl:=c'}:=by
     refine ⟨?_,o.keep Y fun k I e=>pb (e▸I),(U.ha.keep m fun k I O=>U.la k O I).keep Y fun k I e=>U.ba (e▸I),(U.hs.keep m fun k I O=>U.ls k O I).keep Y fun k I e=>U.bs (e▸I),pb,U.ba,U.bs,?_,?_,U.sa⟩
     . have e:(x.l++ [(t:Int)+1]).length=x.l.length+1:=by simp
       show bA az b #[.slice p' (x.l++ [(t:Int)+1]).length c',_,_,_];rw [e];exact b7
     . intro k I O;rcases S k I with e|e
       . exact U.la k e O
       . have:=X k (.inr (.inr (.inl O)));omega
     . intro k I O;rcases S k I with e|e
       . exact U.ls k e O
       . have:=X k (.inr (.inr (.inr O)));omega
    have b5:ao w Q:=bv.then m fun k I e=>by have:=hf k (.inr (.inl e));omega
    have cb:ao w az:=b5.then Y fun k I e=>by have:=hf b (.inl rfl);omega
    refine ⟨_,rfl,_,_,_,ae aw.me rfl,aw.ha.st ((t:Int)+1) rfl rfl (by omega) rfl (by have:=f.a;show (t:Int)+1< (x.at_.length:Int);omega) fun dk cg aT=> ?_⟩;have ce:=aw.Jn (by simp) cg aT;refine ⟨k - 1,by omega,t+1,_,?_,by omega,ce,?_,?_,?_,by omega⟩
    . rw [aD (by omega) (by omega)];omega
    . refine ⟨by simp [hl],fun j j0 j1=> ?_,by simpa using f.a,fun u u0 u1=> ?_,f.s,f.st⟩
      . show g (x.l++ [(t:Int)+1]) j=j+1;rw [Kd];show (if j=(x.l.length:Int) then (t:Int)+1 else g x.l j)=j+1;split
        . omega
        . exact f.lj j j0 (by omega)
      . show g (x.at_.set ((t:Int)+1).toNat ((t:Int)+1)) u=_;rw [yB (by omega) (by have:=f.a;omega)];show (if u=(t:Int)+1 then (t:Int)+1 else g x.at_ u)=_;rw [f.au u u0 u1];split
        . rw [if_pos (by omega)];omega
        . split
          . rw [if_pos (by omega)]
          . rw [if_neg (by omega)]
    . rintro k (e|e|e|e)
      . exact hf k (.inl e)
      . exact S2 k e
      . exact hf k (.inr (.inr (.inl e)))
      . exact hf k (.inr (.inr (.inr e)))
    . exact cb.then aT fun k I e=>by have:=hf k (.inr (.inr (.inl e)));omega
  . have:t=n:=by omega
    subst this;exact ⟨b,x,rfl,h,f,hf,G⟩
 have G0:ao w w.drew:=(aF.refl w).drew;have s0:w.drew.heap.size=w.heap.size:=rfl;refine ⟨?_,?_⟩<;>refine oX c4 ik (f:=Value.int .i64) (x:=0) rfl (n+1) rfl (by omega) fun w1 o1 g1 z1=>oX c4 ik (f:=Value.int .i64) (x:=0) rfl (n+1) rfl (by omega) fun w3 o3 g3 z3=> ?_<;>intro n5 w6 V<;>have bb:=(o1.grow g3).grow V.mod<;>have bu:=o3.grow V.mod<;>have cp:=V.num
 . refine made n5 ⟨none,0,some ⟨w.heap.size,0,none⟩,n+1,some ⟨w1.heap.size,0,none⟩,n+1,[],List.replicate (n+1) 0,List.replicate (n+1) 0,64⟩ w6 ⟨?_,Ow.nil _ _ _,bb,bu,?_,?_,?_,?_,?_,?_⟩ ⟨rfl,fun j j0 j1=>by omega,by simp,fun u u0 u1=> ?_,rfl,rfl⟩ ?_ (((G0.trans g1).trans g3).trans V.mod)
   . have:=V.has;simpa using this
   . simp [aJ]
   . simp [aJ];omega
   . simp [aJ];omega
   . simp [aJ]
   . simp [aJ]
   . simp [aJ];omega
   . rw [AF];split<;>omega
   . rintro k (e|e|e|e)<;> (try simp [aJ] at e)<;>omega
 . refine made n5 ⟨none,0,some ⟨w1.heap.size,0,none⟩,n+1,some ⟨w.heap.size,0,none⟩,n+1,[],List.replicate (n+1) 0,List.replicate (n+1) 0,64⟩ w6 ⟨?_,Ow.nil _ _ _,bu,bb,?_,?_,?_,?_,?_,?_⟩ ⟨rfl,fun j j0 j1=>by omega,by simp,fun u u0 u1=> ?_,rfl,rfl⟩ ?_ (((G0.trans g1).trans g3).trans V.mod)
   . have:=V.has;simpa using this
   . simp [aJ]
   . simp [aJ];omega
   . simp [aJ];omega
   . simp [aJ]
   . simp [aJ]
   . simp [aJ];omega
   . rw [AF];split<;>omega
   . rintro k (e|e|e|e)<;> (try simp [aJ] at e)<;>omega
end
end Go.Proofs.YtenmibfmhccmiaaGreat.W.Hp
