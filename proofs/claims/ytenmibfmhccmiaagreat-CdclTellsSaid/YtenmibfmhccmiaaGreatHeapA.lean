/- Slices that one has made: rows of one-cell elements. -/
import Derived.Test.YtenmibfmhccmiaaGreatFwMem
import Derived.Laws.AppendOwn
import Derived.Laws.OwnMore
import Derived.Test.YtenmibfmhccmiaaGreatGenCdcl
namespace Go.Fw
open Go Go.RowKit
variable {P:Program} {α:Type} {f:α->Value} {T:TypeId} {w w':World} {p:Option Addr} {c:Nat} {l:List α}
def Ow (f:α->Value) (T:TypeId) (w:World) (p:Option Addr) (c:Nat) (l:List α):Prop:=w.ownsRow 0 T 1 (.slice p l.length c) l.length (l.map f)
abbrev eC:=Ow (Value.int .i64)
def aI (p:Option Addr):Option Nat:=p.map (·.block)
theorem Ow.nil (f:α->Value) (T:TypeId) (w:World):Ow f T w none 0 []:=World.ownsRow_nil w 0 T 1
theorem Ow.cap (h:Ow f T w p c l):l.length<=maxLen:=by
 rcases h.2 with ⟨_,h⟩| ⟨g,cap,cur,h,_,_,h1,I,_⟩
 . rw [h];exact Nat.zero_le _
 . omega
theorem Ow.un (h:Ow f T w p c l):(p=none/\c=0/\l= [])\/∃g cur,p=some ⟨g,0,none⟩/\w.heap[g]? =some (.cells cur T (0,0))/\l.length<=c/\c<=maxLen/\cur.size=c/\cur.toList.take l.length=l.map f:=by
 rcases h.2 with ⟨h1,I⟩| ⟨g,cap,cur,h1,_,I,Q,O,h5,J⟩
 . simp only [Value.slice.injEq] at h1;exact .inl ⟨h1.1,h1.2.2,List.eq_nil_of_length_eq_zero I⟩
 . simp only [Value.slice.injEq] at h1;obtain ⟨rfl,_,rfl⟩:=h1;exact .inr ⟨g,cur,rfl,I,Q,O,by simpa using h5,by simpa using J⟩
theorem Ow.dx {g:Nat} {cur:Array Value} (Q:w.heap[g]? =some (.cells cur T (0,0))) (h1:l.length<=c) (I:c<=maxLen) (O:cur.size=c) (J:cur.toList.take l.length=l.map f):Ow f T w (some ⟨g,0,none⟩) c l:=
 ⟨by simp,.inr ⟨g,c,cur,rfl,Nat.zero_le _,Q,h1,I,by simpa using O,by simpa using J⟩⟩
theorem Ow.lt (h:Ow f T w p c l): ∀b,aI p=some b->b<w.heap.size:=by
 intro b hb;rcases h.un with ⟨rfl,_⟩| ⟨g,cur,rfl,J,_⟩
 . simp [aI] at hb
 . simp [aI] at hb;subst hb;rcases Nat.lt_or_ge g w.heap.size with I|I
   . exact I
   . simp [Array.getElem?_eq_none I] at J
theorem Ow.keep {S:Nat->Prop} (h:Ow f T w p c l) (m:aE S w w') (hs: ∀b,aI p=some b->¬S b):Ow f T w' p c l:=by
 have hl:=h.lt;rcases h.un with ⟨rfl,rfl,rfl⟩| ⟨g,cur,rfl,Q,h1,I,J,O⟩
 . exact Ow.nil f T w'
 . exact Ow.dx ((m.block g (hl g rfl) (hs g rfl)).trans Q) h1 I J O
theorem Ow.grow (h:Ow f T w p c l) (m:aq w w'):Ow f T w' p c l:=h.keep m fun _ _=>id
theorem Ow.drew (h:Ow f T w p c l):Ow f T w.drew p c l:=h
theorem Ow.cell (h:Ow f T w p c l) {j:Nat} (I:j<l.length): ∃g,p=some ⟨g,0,none⟩/\w.cell? ⟨g,j,none⟩=some (f l[j]):=by
 rcases h.un with ⟨_,_,rfl⟩| ⟨g,cur,rfl,O,h1,Q,U,J⟩
 . simp at I
 . refine ⟨g,rfl,aR ⟨T,O⟩ ?_⟩;have:(cur.toList.take l.length)[j]? =some (f l[j]):=by rw [J];simp [I]
   rw [List.getElem?_take,if_pos I] at this;simpa using this
theorem Ow.ix (h:Ow f T w p c l) {i:Int} {n:Nat} (d:α) (I:0<=i) (hn:n=l.length) (h1:i<n) {K:Addr->Prop} (O: ∀a,w.cell? a=some (f (l.getD i.toNat d))->K a):aV p n i 1 K:=by
 subst hn;obtain ⟨g,rfl,J⟩:=h.cell (j:=i.toNat) (by omega);refine ⟨_,rfl,I,h1,O _ ?_⟩;rw [Nat.mul_one,cX,Nat.zero_add,J];simp [List.getD,show i.toNat<l.length by omega]
theorem map_set (f:α->Value): ∀ (l:List α) (j:Nat) (x:α),(l.set j x).map f=(l.map f).set j (f x)
 | [],_,_=>rfl
 |_::_,0,_=>rfl
 |y::l,j+1,x=>by simp [map_set f l j x]
theorem Ow.st (h:Ow f T w p c l) {i:Int} {n:Nat} {v:Value} (x:α) (hv:v=f x) (U:iz v=true) (V:0<=i) (hn:n=l.length) (h1:i<n) {K:World->Prop}
 (I: ∀w',Ow f T w' p c (l.set i.toNat x)->aE (fun b=>aI p=some b) w w'->K w'):aV p n i 1 fun a=> ∃w',af a 0 [v] w w'/\K w':=by
 subst hn hv;rcases h.un with ⟨_,_,rfl⟩| ⟨g,cur,rfl,J,Q,X,Y,h5⟩
 . simp at h1;omega
 . refine ⟨_,rfl,V,h1,?_⟩;rw [Nat.mul_one,cX,Nat.zero_add];have O:i.toNat<cur.size:=by omega
   refine ⟨w.setCell ⟨g,i.toNat,none⟩ (f x),⟨⟨cur[i.toNat],ad ⟨T,J⟩ (by simp [O])⟩,by rw [cX];exact oK ⟨T,J⟩,U,by rw [cX];rfl⟩,I _ ?_ ?_⟩
   . refine Ow.dx (cur:=cur.setIfInBounds i.toNat (f x)) (tX J _ O) (by simpa using Q) X (by simpa using Y) ?_;rw [map_set,<- h5,Array.toList_setIfInBounds,List.length_set,List.take_set]
   . exact ⟨rfl,rfl,rfl,by simp,fun k _ I=>Below.heap_setCell w _ _ k fun e=>I (by simp [aI,e])⟩
def lN (P:Program) (t e:TypeId) (bytes:Nat):Bool:=
 (match P.underlying t with|some (.slice I)=>Nat.beq I e|_=>false) && (match P.info? e with|some i=>Nat.beq i.size 1 && Nat.beq i.bytes bytes && (match i.zero with|some z=>Nat.beq z.cells.size 1|none=>false)|none=>false)
theorem mD {t e bytes:Nat} (h:lN P t e bytes=true):P.underlying t=some (.slice e)/\∃i z,P.info? e=some i/\i.zero=some z/\i.size=1/\i.bytes=bytes/\z.cells.size=1:=by
 simp only [lN,Bool.and_eq_true] at h;obtain ⟨h1,I⟩:=h;split at h1
 . rename_i O he;have:O=e:=Nat.eq_of_beq_eq_true h1;subst this;split at I
   . rename_i i hi;simp only [Bool.and_eq_true] at I;obtain ⟨⟨U,Q⟩,h5⟩:=I;split at h5
     . rename_i z J;exact ⟨he,i,z,hi,J,Nat.eq_of_beq_eq_true U,Nat.eq_of_beq_eq_true Q,Nat.eq_of_beq_eq_true h5⟩
     . simp at h5
   . simp at I
 . simp at h1
theorem Ow.cells (h:Ow f T w p c l) {g:Nat} (hp:p=some ⟨g,0,none⟩): ∀j u,(l.map f)[j]? =some u->w.cell? ((⟨g,0,none⟩:Addr).add j)=some u:=by
 intro j u I;subst hp;have hl:j<l.length:=by have:=(List.getElem?_eq_some_iff.1 I).1;simpa using this
 obtain ⟨Q,J,O⟩:=h.cell hl;simp only [Option.some.injEq,Addr.mk.injEq,and_true] at J;subst J;rw [cX,Nat.zero_add,O];simpa [hl] using I
theorem Ow.oV {t ty e bytes:Nat} (hs:lN P t e bytes=true) (h:Ow f e w p c l) {a:Addr} {m k n:Nat} (hn:n=l.length) (news:List α) (hm:news.length=m) (X:0<m) (hc: ∀j (hj:j<news.length),w.cell? (a.add j)=some (f news[j])) (ho: ∀x,(f x).oneCell'=true)
 (hlen:(l.length+m)* (bytes+1)<=140737488355328) {K:World->Option Addr->Nat->Nat->Prop}
 (J: ∀w' O c',Ow f e w' O c' (l++news)->aE (fun b=>aI p=some b) w w'->(O=p\/O=some ⟨w.heap.size,0,none⟩)->w.heap.size<=w'.heap.size->K w' O (l++news).length c'):
 ∃w',∃O n' c',(Builtin.append_ #[t,t] ty #[.slice p n c,.slice (some a) m k]).run P w= .ok (.slice O n' c') w'/\K w' O n' c':=by
 obtain ⟨ht,i,z,hi,hz,h1,h2,h3⟩:=mD hs;subst hn hm;have hb:(l.length+news.length)*bytes<=140737488355328:=Nat.le_trans (Nat.mul_le_mul_left _ (Nat.le_succ _)) hlen;have Z:l.length+news.length<=140737488355328:=Nat.le_trans (Nat.le_mul_of_pos_right _ (Nat.succ_pos _)) hlen;have I:(l++news).length=l.length+news.length:=by simp
 have Q:(news.map f).length=news.length*i.size:=by simp [h1]
 have U: ∀j u,(news.map f)[j]? =some u->w.cell? (a.add j)=some u:=by
  intro j u hj;have Y:j<news.length:=by have:=(List.getElem?_eq_some_iff.1 hj).1;simpa using this
  rw [hc j Y];simpa [Y] using hj
 have bW: ∀qT,qT<l.length+news.length->Ow f e (w.drew.alloc (.cells ((l.map f).toArray++ (news.map f).toArray++Builtin.zeroCells z.cells (grownCap w (l.length+news.length) qT e - (l.length+news.length))) e))
  (some ⟨w.heap.size,0,none⟩) (grownCap w (l.length+news.length) qT e) (l++news):=by
  intro qT _;have av:=grownCap_ge w (l.length+news.length) qT e;have aa:grownCap w (l.length+news.length) qT e<=maxLen:=grownCap_le_maxLen w _ qT e (by simp only [maxLen];omega);refine Ow.dx (cur:=(l.map f).toArray++ (news.map f).toArray++Builtin.zeroCells z.cells (grownCap w (l.length+news.length) qT e - (l.length+news.length))) ?_ (by omega) aa ?_ ?_
  . exact Array.getElem?_push_size
  . simp only [Array.size_append,List.size_toArray,List.length_map,size_zeroCells,h3];omega
  . simp only [Array.toList_append,List.map_append];rw [List.take_append_of_le_length (by simp),List.take_of_length_le (by simp)]
 have gr: ∀ (o:Obj),aE (fun b=>aI p=some b) w (w.drew.alloc o):=fun o=> ⟨rfl,rfl,rfl,by simp,fun k J _=>Below.heap_alloc w.drew o k J⟩
 rcases h.un with ⟨rfl,rfl,rfl⟩| ⟨g,cur,rfl,hg,g1,g2,g3,g4⟩
 . have hr:=run_append_nil (P:=P) w t ty e i z ht hi hz a news.length k (news.map f) Q U X (by simp at Z;omega) (by rw [h2];simp at hb;omega);have hf:=bW 0 (by simp;omega);simp only [List.length_nil,Nat.zero_add,List.map_nil,List.nil_append] at hf hr I J ⊢;refine ⟨_,_,_,_,hr,?_⟩;refine J _ _ _ (by simpa using hf) (gr _) (.inr rfl) (by simp)
 . by_cases V:l.length+news.length<=c
   . have hr:=run_append_room (P:=P) w t ty e i ht hi g l.length c cur hg a news.length k (news.map f) Q U (fun u hu=>by obtain ⟨x,_,rfl⟩:=List.mem_map.1 hu;exact ho x) V (by simp [h1];omega);refine ⟨_,_,_,_,hr,?_⟩;rw [<- I];refine J _ _ _ (Ow.dx (setRow_heap w g cur _ e _ hg) (by omega) g2 ?_ ?_) ⟨rfl,rfl,rfl,by simp,fun k _ J=>setRow_other w g k _ fun he=>J (by simp [aI,he])⟩ (.inl rfl) (by simp)
     . simp [h1];omega
     . simp only [h1,Nat.mul_one];rw [I,List.map_append,List.take_append_of_le_length (by simp;omega),List.take_of_length_le (by simp;omega),g4]
   . have hr:=run_append_grow (P:=P) w t ty e i z ht hi hz ⟨g,0,none⟩ l.length c (l.map f) (by simp [h1]) (h.cells rfl) a news.length k (news.map f) Q U (by omega) (by omega) (growslice_fits (by omega) (by rw [h2];exact hb));refine ⟨_,_,_,_,hr,?_⟩;rw [<- I];exact J _ _ _ (by rw [I];exact bW c (by omega)) (gr _) (.inr rfl) (by simp)
theorem Ow.Ll {t ty e bytes:Nat} (hs:lN P t e bytes=true) (h:Ow f e w p c l) {q:Option Addr} {k n:Nat} (hn:n=l.length):
 (Builtin.append_ #[t,t] ty #[.slice p n c,.slice q 0 k]).run P w= .ok (.slice p n c) w:=by
 obtain ⟨ht,i,z,hi,U,h1,J,X⟩:=mD hs;subst hn;rcases h.un with ⟨rfl,rfl,rfl⟩| ⟨g,cur,rfl,Y,I,Q,V,O⟩<;>cases q<;>
  simp [Builtin.append_,run_underlying ht,sizeOf,typeInfo,Builtin.lenOf,Builtin.firstCells,loadCells,loadCellsFrom,storeCells, *]
theorem Ow.LI {t ty e bytes:Nat} (hs:lN P t e bytes=true) (h:Ow f e w p c l) {q:Option Addr} {V:Nat} {news:List α} (Q:Ow f e w q V news) {n m:Nat} (hn:n=l.length) (hm:m=news.length) (X: ∀x,(f x).oneCell'=true)
 (hlen:(l.length+news.length)* (bytes+1)<=140737488355328) {K:World->Option Addr->Nat->Nat->Prop}
 (U: ∀w' I c',Ow f e w' I c' (l++news)->aE (fun b=>aI p=some b) w w'->(I=p\/I=some ⟨w.heap.size,0,none⟩)->w.heap.size<=w'.heap.size->K w' I (l++news).length c'):
 ∃w',∃I n' c',(Builtin.append_ #[t,t] ty #[.slice p n c,.slice q m V]).run P w= .ok (.slice I n' c') w'/\K w' I n' c':=by
 subst hm;rcases Nat.eq_zero_or_pos news.length with O|O
 . have:news= []:=List.eq_nil_of_length_eq_zero O;subst this;refine ⟨w,p,n,c,h.Ll hs hn,?_⟩;have:=U w p c (by simpa using h) (aE.refl w) (.inl rfl) (Nat.le_refl _);simpa [hn] using this
 . obtain ⟨g,Y,_⟩:=Q.cell O;subst Y;refine Ow.oV hs h hn news rfl O (fun j Z=> ?_) X hlen U;obtain ⟨g',J,hc⟩:=Q.cell Z;simp only [Option.some.injEq,Addr.mk.injEq,and_true] at J;subst J;rw [cX,Nat.zero_add];exact hc
theorem bc.Jk {e:TypeId} {n:Nat} (h:bc (.cells #[] e) w n w'):Ow f e w' (some ⟨n,0,none⟩) 0 []:=
 Ow.dx h.at (Nat.le_refl _) (Nat.zero_le _) rfl rfl
theorem Ow.kZ {t ty e bytes:Nat} (hs:lN P t e bytes=true) (h:Ow f e w p c l) {b n:Nat} (x:α) {v:Value} (hb:bF w b #[v]) (hv:v=f x) (hn:n=l.length) (O: ∀x,(f x).oneCell'=true)
 (hlen:(l.length+1)* (bytes+1)<=140737488355328) {K:World->Option Addr->Nat->Nat->Prop}
 (Q: ∀w' I c',Ow f e w' I c' (l++ [x])->aE (fun b=>aI p=some b) w w'->(I=p\/I=some ⟨w.heap.size,0,none⟩)->w.heap.size<=w'.heap.size->K w' I (l.length+1) c'):
 ∃w',∃I n' c',(Builtin.append_ #[t,t] ty #[.slice p n c,.slice (some ⟨b,0,none⟩) 1 1]).run P w= .ok (.slice I n' c') w'/\K w' I n' c':=by
 subst hv;refine Ow.oV (m:=1) hs h hn [x] rfl (by omega) (fun j V=> ?_) O hlen fun w' I c' h1 J U X=> ?_
 . have:j=0:=by simpa using V
   subst this;exact ad hb rfl
 . have:=Q w' I c' h1 J U X;simpa using this
theorem nW {t e bytes:Nat} (hs:lN P t e bytes=true) {x:α} {v:Value} (O:(P.info? e).bind (·.zero)=some v) (hv:v.cells= #[f x]) {n:Int} (m:Nat) (hn:n=m) (hlen:m* (bytes+1)<=281474976710656) {K:World->Option Addr->Nat->Nat->Prop}
 (I: ∀w',Ow f e w' (some ⟨w.heap.size,0,none⟩) m (List.replicate m x)->aq w w'->w'.heap.size=w.heap.size+1->K w' (some ⟨w.heap.size,0,none⟩) m m):
 ∃w',∃J n' c',(Instr.makeSlice t (.int .i64 n) (.int .i64 n)).run P w= .ok (.slice J n' c') w'/\K w' J n' c':=by
 obtain ⟨ht,i,z,hi,U,h1,Q,X⟩:=mD hs;subst hn;simp only [hi,Option.bind_some] at O;have hm:m<=281474976710656:=Nat.le_trans (Nat.le_mul_of_pos_right _ (Nat.succ_pos _)) hlen;have V:m*bytes<=281474976710656:=Nat.le_trans (Nat.mul_le_mul_left _ (Nat.le_succ _)) hlen;have hr:=run_make (P:=P) w t e i v ht hi O .i64 .i64 m m (by omega) (Int.le_refl _) (by rw [Q,<- Int.natCast_mul,Nat.mul_comm];omega) (by omega);simp only [Int.toNat_natCast,h1,Nat.mul_one,hv] at hr;refine ⟨_,_,_,_,hr,I _ ?_ ⟨rfl,rfl,rfl,by simp,fun k I _=>Below.heap_alloc w _ k I⟩ (by simp)⟩;refine Ow.dx (cur:=madeCells #[f x] m) ?_ (by simp) (by simp only [maxLen];omega) (size_madeCells _ _) ?_
 . exact Array.getElem?_push_size
 . rw [toList_madeCells_one];simp
theorem Ow.take (h:Ow f T w p c l) {k:Nat} (I:k<=l.length):Ow f T w p c (l.take k):=by
 rcases h.un with ⟨rfl,rfl,rfl⟩| ⟨g,cur,rfl,U,V,J,Q,O⟩
 . simpa using Ow.nil f T w
 . refine Ow.dx U (by simp;omega) J Q ?_;rw [List.length_take,Nat.min_eq_left I,List.map_take,<- O,List.take_take,Nat.min_eq_left I]
def nj (h:α->α) (t:Nat) (l:List α):List α:=(l.take t).map h++l.drop t
theorem Bz (h:α->α) (l:List α):nj h 0 l=l:=by simp [nj]
theorem DR (h:α->α) (l:List α):nj h l.length l=l.map h:=by simp [nj]
theorem x_ (h:α->α) (t:Nat) (l:List α):(nj h t l).length=l.length:=by simp [nj];omega
theorem C_ (h:α->α) {t:Nat} {l:List α} (d:α) (ht:t<l.length):(nj h t l).getD t d=l.getD t d:=by
 simp only [nj,List.getD_eq_getElem?_getD];rw [List.getElem?_append_right (by simp;omega)];simp [Nat.min_eq_left (Nat.le_of_lt ht)]
theorem Dr (h:α->α) {t:Nat} {l:List α} (d:α) (ht:t<l.length):(nj h t l).set t (h (l.getD t d))=nj h (t+1) l:=by
 apply List.ext_getElem?;intro j;simp only [nj,List.getElem?_set,List.length_append,List.length_map,List.length_take,List.length_drop,List.getD_eq_getElem?_getD];by_cases e:t=j
 . subst e;rw [if_pos rfl,if_pos (by omega),List.getElem?_append_left (by simp;omega)];simp [ht]
 . rw [if_neg e];by_cases h1:j<t
   . rw [List.getElem?_append_left (by simp;omega),List.getElem?_append_left (by simp;omega)];simp [h1,show j<t+1 by omega]
   . rw [List.getElem?_append_right (by simp;omega),List.getElem?_append_right (by simp;omega)];simp only [List.length_map,List.length_take,List.getElem?_drop];congr 1;omega
theorem fH (x:Int):(Value.int .i64 x).oneCell'=true:=rfl
end Go.Fw
namespace Go.HeapP
def g (l:List Int) (i:Int):Int:=if i<0 then 0 else l.getD i.toNat 0
theorem kX {l:List Int} {i:Int} (h:0<=i):l.getD i.toNat 0=g l i:=by unfold g;rw [if_neg (by omega)]
theorem wT {l:List Int} {i v:Int} (J:0<=i) (h1:i<l.length):g (l.set i.toNat v)=fun j=>if j=i then v else g l j:=by
 funext j;unfold g;simp only [List.getD_eq_getElem?_getD,List.getElem?_set];by_cases I:j<0
 . simp [I];omega
 . by_cases h:j=i
   . subst h;simp [show j.toNat<l.length by omega,I]
   . rw [if_neg I,if_neg (by omega),if_neg h,if_neg I]
def Bt (S:Int->Int) (a c:Int):Prop:=S c<S a\/S a=S c/\a<c
theorem Bt.tz {S a c} (h:Bt S a c): ¬Bt S c a:=by unfold Bt at*;omega
theorem Bt.AX {S a b c} (h: ¬Bt S a b) (k: ¬Bt S b c): ¬Bt S a c:=by unfold Bt at*;omega
theorem Bt.J3 {S a b c} (h: ¬Bt S a b) (k:Bt S c b): ¬Bt S a c:=by unfold Bt at*;omega
structure u9 (L A:Int->Int) (n N:Int):Prop where
 sB: ∀j,0<=j->j<n->1<=L j/\L j<=N/\A (L j)=j+1
 bC: ∀v,1<=v->v<=N->0<=A v/\A v<=n/\(0<A v->L (A v - 1)=v)
theorem u9.inj {L A n N} (h:u9 L A n N) {j k:Int} (h1:0<=j) (I:j<n) (O:0<=k) (J:k<n) (e:L j=L k):j=k:=by
 have a:=h.sB j h1 I;have b:=h.sB k O J;rw [e] at a;omega
def np (L:Int->Int) (i p:Int):Int->Int:=fun j=>if j=p then L i else if j=i then L p else L j
def rX (L A:Int->Int) (i p:Int):Int->Int:=fun u=>if u=L i then p+1 else if u=L p then i+1 else A u
theorem u9.swap {L A n N} (h:u9 L A n N) {i p:Int} (h1:0<=i) (Q:i<n) (X:0<=p) (h4:p<n) (O:i≠p):u9 (np L i p) (rX L A i p) n N:=by
 have fi:=h.sB i h1 Q;have fp:=h.sB p X h4;have hn:L i≠L p:=fun e=>O (h.inj h1 Q X h4 e);constructor
 . intro j Z V;have fj:=h.sB j Z V;unfold np rX;by_cases J:j=p
   . subst J;simp;omega
   . by_cases I:j=i
     . subst I;simp [O,Ne.symm hn];omega
     . have Y:L j≠L i:=fun e=>I (h.inj Z V h1 Q e);have n2:L j≠L p:=fun e=>J (h.inj Z V X h4 e);simp [J,I,Y,n2];omega
 . intro v v1 v2;have U:=h.bC v v1 v2;unfold np rX;by_cases J:v=L i
   . subst J;simp;omega
   . by_cases I:v=L p
     . subst I;simp [Ne.symm hn,O];omega
     . simp only [J,I,if_false];refine ⟨U.1,U.2.1,fun hp=> ?_⟩;have:=U.2.2 hp;have Y:A v - 1≠p:=fun e=>I (by rw [<- e,this]);have n2:A v - 1≠i:=fun e=>J (by rw [<- e,this]);simp [Y,n2,this]
theorem DP {L A n N} (h:u9 L A n N) {i p:Int} (h1:0<=i) (O:i<n) (Q:0<=p) (U:p<n) (u:Int):0<rX L A i p u↔0<A u:=by
 have V:=h.sB i h1 O;have fp:=h.sB p Q U;unfold rX;by_cases I:u=L i
 . subst I;simp;omega
 . by_cases J:u=L p
   . subst J;simp [I];omega
   . simp [I,J]
def Ord (S L:Int->Int) (n k x:Int):Prop:= ∀j,1<=j->j<n->k<=(j - 1) / 2->(j - 1) / 2≠x->¬Bt S (L j) (L ((j - 1) / 2))
def yY (S L:Int->Int) (n x:Int):Prop:=(∀j,1<=j->j<n->j≠x->¬Bt S (L j) (L ((j - 1) / 2)))/\(∀j,1<=j->j<n->(j - 1) / 2=x->1<=x->¬Bt S (L j) (L ((x - 1) / 2)))
theorem yY.step {S L n i} (h:yY S L n i) (h1:1<=i) (Z:i<n) (hb:Bt S (L i) (L ((i - 1) / 2))):yY S (np L i ((i - 1) / 2)) n ((i - 1) / 2):=by
 obtain ⟨ha,Y⟩:=h;have hp:(i - 1) / 2<i:=by omega
 constructor
 . intro j O I Q;unfold np;by_cases e:j=i
   . subst e;rw [if_neg (by omega),if_pos rfl,if_pos rfl];exact hb.tz
   . rw [if_neg Q,if_neg e];by_cases U:(j - 1) / 2=(i - 1) / 2
     . rw [if_pos U];have:=ha j O I e;rw [U] at this;exact Bt.J3 this hb
     . rw [if_neg U];by_cases V:(j - 1) / 2=i
       . rw [if_pos V];exact Y j O I V h1
       . rw [if_neg V];exact ha j O I e
 . intro j O I Q X;have J:=ha ((i - 1) / 2) X (by omega) (by omega);unfold np;rw [if_neg (show ¬((i - 1) / 2 - 1) / 2=(i - 1) / 2 by omega),if_neg (show ¬((i - 1) / 2 - 1) / 2=i by omega)];by_cases e:j=i
   . subst e;rw [if_neg (by omega),if_pos rfl];exact J
   . rw [if_neg (by omega),if_neg e];have:=ha j O I e;rw [Q] at this;exact Bt.AX this J
theorem yY.done {S L n i} (h:yY S L n i) (hb:i<=0\/¬Bt S (L i) (L ((i - 1) / 2))):Ord S L n 0 (-1):=by
 intro j J I _ _;by_cases e:j=i
 . subst e;exact hb.resolve_left (by omega)
 . exact h.1 j J I e
def zh (S L:Int->Int) (n k x:Int):Prop:=Ord S L n k x/\(∀j,1<=j->j<n->(j - 1) / 2=x->1<=x->k<=(x - 1) / 2->¬Bt S (L j) (L ((x - 1) / 2)))
theorem zh.step {S L n k i c} (h:zh S L n k i) (ac:k<=i) (h0:0<=i) (h1:c<n) (X:(c - 1) / 2=i) (V:1<=c) (hb:Bt S (L c) (L i)) (I: ∀j,1<=j->j<n->(j - 1) / 2=i->¬Bt S (L j) (L c)):zh S (np L i c) n k c:=by
 obtain ⟨ha,hd⟩:=h;constructor
 . intro j J U O Y;unfold np;by_cases e:j=c
   . subst e;rw [if_pos rfl,X,if_neg (by omega),if_pos rfl];exact hb.tz
   . rw [if_neg e,if_neg Y];by_cases Z:j=i
     . subst Z;rw [if_pos rfl,if_neg (by omega)];exact hd c V h1 X J O
     . rw [if_neg Z];by_cases Q:(j - 1) / 2=i
       . rw [if_pos Q];exact I j J U Q
       . rw [if_neg Q];exact ha j J U O Q
 . intro j J U O Y j5;unfold np;rw [if_neg (by omega),if_neg (by omega),X,if_neg (by omega),if_pos rfl];have:=ha j J U (by omega) (by omega);rw [O] at this;exact this
theorem zh.done {S L n k i} (h:zh S L n k i) (hb: ∀j,1<=j->j<n->(j - 1) / 2=i->¬Bt S (L j) (L i)):Ord S L n k (-1):=by
 intro j I J O _;by_cases e:(j - 1) / 2=i
 . rw [e];exact hb j I J e
 . exact h.1 j I J O e
theorem J7: ∀ (N n:Nat) (L:Nat->Int),(∀j,j<n->1<=L j/\L j<=N)->(∀j k,j<n->k<n->L j=L k->j=k)->n<=N:=by
 intro N
 induction N with
 |zero=>
  intro n L h _;rcases Nat.eq_zero_or_pos n with Q|Q
  . omega
  . have:=h 0 Q;omega
 |succ N ih=>
  intro n L h hi;by_cases he: ∃j,j<n/\L j=((N+1:Nat):Int)
  . obtain ⟨j,V,U⟩:=he;have:=ih (n - 1) (fun k=>if k=j then L (n - 1) else L k) (fun k O=>by
     by_cases e:k=j
     . have h1:=h (n - 1) (by omega);have:L (n - 1)≠((N+1:Nat):Int):=fun I=>by
        have:=hi (n - 1) j (by omega) V (by rw [I,U]);omega
       simp only [e,if_true];omega
     . have h1:=h k (by omega);have:L k≠((N+1:Nat):Int):=fun I=>e (hi k j (by omega) V (by rw [I,U]));simp only [e,if_false];omega) (fun k m O hm=>by
     intro J;by_cases e:k=j
     . by_cases I:m=j
       . omega
       . simp only [e,I,if_true,if_false] at J;have:=hi _ _ (by omega) (by omega) J;omega
     . by_cases I:m=j
       . simp only [e,I,if_true,if_false] at J;have:=hi _ _ (by omega) (by omega) J;omega
       . simp only [e,I,if_false] at J;exact hi _ _ (by omega) (by omega) J)
    omega
  . have:=ih n L (fun k O=>by
     have h1:=h k O;have:L k≠((N+1:Nat):Int):=fun e=>he ⟨k,O,e⟩;omega) hi
    omega
theorem u9.le {L A:Int->Int} {n N:Nat} (h:u9 L A n N):n<=N:=
 J7 N n (fun j=>L j) (fun j I=>by have:=h.sB j (by omega) (by omega);exact ⟨this.1,this.2.1⟩) fun j k I J e=>by
  have:=h.inj (j:=j) (k:=k) (by omega) (by omega) (by omega) (by omega) e;omega
theorem u9.push {L A:Int->Int} {n N v:Int} (h:u9 L A n N) (n0:0<=n) (v1:1<=v) (v2:v<=N) (hv:A v=0):u9 (fun j=>if j=n then v else L j) (fun u=>if u=v then n+1 else A u) (n+1) N:=by
 constructor
 . intro j Q U;by_cases e:j=n
   . subst e;simp;omega
   . have f:=h.sB j Q (by omega);have:L j≠v:=fun I=>by rw [I] at f;omega
     simp only [e,if_false,this];exact f
 . intro u O J;by_cases e:u=v
   . subst e;simp;omega
   . have f:=h.bC u O J;simp only [e,if_false];refine ⟨f.1,by omega,fun hp=> ?_⟩;rw [if_neg (by omega)];exact f.2.2 hp
theorem u9.MN {L A:Int->Int} {n N v:Int} (h:u9 L A (n+1) N) (n0:0<=n) (hv:L 0=v):u9 (fun j=>if j=0 then L n else L j) (fun u=>if u=L n then (if n=0 then 0 else 1) else if u=v then 0 else A u) n N:=by
 have Z:=h.sB 0 (Int.le_refl _) (by omega);have fn:=h.sB n n0 (by omega);constructor
 . intro j J Y;by_cases e:j=0
   . subst e;simp [show n≠0 by omega];omega
   . have f:=h.sB j J (by omega);have U:L j≠v:=fun I=>e (h.inj J (by omega) (Int.le_refl _) (by omega) (by rw [I,hv]));have Q:L j≠L n:=fun I=>by have:=h.inj J (by omega) n0 (by omega) I;omega
     simp only [e,if_false,U,Q];exact f
 . intro u X V;have f:=h.bC u X V;by_cases e:u=L n
   . subst e;simp only [if_true];split
     . omega
     . simp;omega
   . by_cases I:u=v
     . subst I;simp [e,n0]
     . simp only [e,I,if_false];have U:A u - 1≠n\/A u=0:=by
        by_cases hp:0<A u
        . left;intro O;have:=f.2.2 hp;rw [O] at this;exact e this.symm
        . right;omega
       refine ⟨f.1,by omega,fun hp=> ?_⟩;have Q:A u - 1≠0:=fun O=>I (by have:=f.2.2 hp;rw [O] at this;rw [<- this,hv]);rw [if_neg Q];exact f.2.2 hp
end Go.HeapP
namespace Go.Proofs.YtenmibfmhccmiaaGreat.W.Hp
open Go Go.Fw Go.RowKit Go.HeapP
open Go.Proofs.Tryz (prog)
open Go.IntKind (i64)
section
theorem dN:lN prog aJ aC 8=true:=by kernel_rfl
structure HS where
 pl:Option Addr
 cl:Nat
 pa:Option Addr
 ca:Nat
 ps:Option Addr
 cs:Nat
 l:List Int
 at_:List Int
 score:List Int
 step:Int
def HS.bI (x:HS) (b:Nat) (k:Nat):Prop:=k=b\/aI x.pl=some k\/aI x.pa=some k\/aI x.ps=some k
structure co (w:World) (b:Nat) (x:HS):Prop where
 me:bF w b #[.slice x.pl x.l.length x.cl,.slice x.pa x.at_.length x.ca,.slice x.ps x.score.length x.cs,.int .i64 x.step]
 hl:eC aC w x.pl x.cl x.l
 ha:eC aC w x.pa x.ca x.at_
 hs:eC aC w x.ps x.cs x.score
 bl:aI x.pl≠some b
 ba:aI x.pa≠some b
 bs:aI x.ps≠some b
 la: ∀k,aI x.pl=some k->aI x.pa≠some k
 ls: ∀k,aI x.pl=some k->aI x.ps≠some k
 sa: ∀k,aI x.pa=some k->aI x.ps≠some k
theorem co.keep {w w':World} {b:Nat} {x:HS} {S:Nat->Prop} (h:co w b x) (m:aE S w w') (J: ∀k,x.bI b k->¬S k):co w' b x:=
 ⟨h.me.keep m (J b (.inl rfl)),h.hl.keep m fun k I=>J k (.inr (.inl I)),h.ha.keep m fun k I=>J k (.inr (.inr (.inl I))),h.hs.keep m fun k I=>J k (.inr (.inr (.inr I))),h.bl,h.ba,h.bs,h.la,h.ls,h.sa⟩
theorem co.grow {w w':World} {b:Nat} {x:HS} (h:co w b x) (m:aq w w'):co w' b x:=h.keep m fun _ _=>id
theorem co.drew {w:World} {b:Nat} {x:HS} (h:co w b x):co w.drew b x:=⟨h.me,h.hl,h.ha,h.hs,h.bl,h.ba,h.bs,h.la,h.ls,h.sa⟩
theorem co.lt {w:World} {b:Nat} {x:HS} (h:co w b x): ∀k,x.bI b k->k<w.heap.size:=by
 rintro k (rfl|I|I|I)
 . exact h.me.lt
 . exact h.hl.lt k I
 . exact h.ha.lt k I
 . exact h.hs.lt k I
abbrev ptr (b:Nat):Value:= .pointer (some ⟨b,0,none⟩)
def bt (s:List Int) (a c:Int):Bool:=if g s a=g s c then decide (a<c) else decide (g s a>g s c)
theorem qX (s:List Int) (a c:Int):bt s a c=true↔Bt (g s) a c:=by
 unfold bt Bt;split<;>simp<;>omega
theorem nI {w:World} {b:Nat} {x:HS} (h:co w b x) (a c:Int) (a0:0<=a) (a1:a<x.score.length) (I:0<=c) (U:c<x.score.length):
 Calls prog cW.id #[ptr b,.int .i64 a,.int .i64 c] w fun e w'=>e= .returned (.bool (bt x.score a c))/\aq w w':=by
 refine cW.ah ?_;have h1:=h.drew;have J:=h1.drew;refine ⟨_,rfl,_,_,_,ad h1.me rfl,h1.hs.ix 0 a0 rfl a1 fun a3 Q=> ⟨_,Q,_,rfl,_,_,_,ad h1.me rfl,h1.hs.ix 0 I rfl U fun V O=> ⟨_,O,ao (fun t=> ?_) (fun t=> ?_)⟩⟩⟩
 . refine ⟨_,rfl,_,_,_,ad J.me rfl,J.hs.ix 0 a0 rfl a1 fun a3 Q=> ⟨_,Q,_,rfl,_,_,_,ad J.me rfl,J.hs.ix 0 I rfl U fun V O=> ⟨_,O,?_,((aE.refl w).drew).drew⟩⟩⟩;simp only [bne_iff_ne,ne_eq,kX a0,kX I] at t;rw [kX a0,kX I];unfold bt;rw [if_neg t]
 . simp only [bne_eq_false_iff_eq,kX a0,kX I] at t;refine ⟨?_,(aE.refl w).drew⟩;unfold bt;rw [if_pos t]
def HS.put (x:HS) (i v:Int):HS:= {x with l:=x.l.set i.toNat v,at_:=x.at_.set v.toNat (i+1)}
theorem co.Mq {w w':World} {b:Nat} {x:HS} (h:co w b x) {l':List Int} (hl:l'.length=x.l.length) (o:eC aC w' x.pl x.cl l') (m:aE (fun k=>aI x.pl=some k) w w'):co w' b {x with l:=l'}:=
 ⟨by have:=h.me.keep m h.bl;rwa [<- hl] at this,o,h.ha.keep m fun k J I=>h.la k I J,h.hs.keep m fun k J I=>h.ls k I J,h.bl,h.ba,h.bs,h.la,h.ls,h.sa⟩
theorem co.IO {w w':World} {b:Nat} {x:HS} (h:co w b x) {l':List Int} (hl:l'.length=x.at_.length) (o:eC aC w' x.pa x.ca l') (m:aE (fun k=>aI x.pa=some k) w w'):co w' b {x with at_:=l'}:=
 ⟨by have:=h.me.keep m h.ba;rwa [<- hl] at this,h.hl.keep m fun k J I=>h.la k J I,o,h.hs.keep m fun k J I=>h.sa k I J,h.bl,h.ba,h.bs,h.la,h.ls,h.sa⟩
theorem co.LO {w w':World} {b:Nat} {x:HS} (h:co w b x) {l':List Int} (hl:l'.length=x.score.length) (o:eC aC w' x.ps x.cs l') (m:aE (fun k=>aI x.ps=some k) w w'):co w' b {x with score:=l'}:=
 ⟨by have:=h.me.keep m h.bs;rwa [<- hl] at this,h.hl.keep m fun k J I=>h.ls k J I,h.ha.keep m fun k J I=>h.sa k J I,o,h.bl,h.ba,h.bs,h.la,h.ls,h.sa⟩
theorem co.LL {w w':World} {b:Nat} {x:HS} (h:co w b x) {t:Int} (o:bF w' b #[.slice x.pl x.l.length x.cl,.slice x.pa x.at_.length x.ca,.slice x.ps x.score.length x.cs,.int .i64 t]) (m:aE (·=b) w w'):co w' b {x with step:=t}:=
 ⟨o,h.hl.keep m fun _ J I=>h.bl (I▸J),h.ha.keep m fun _ J I=>h.ba (I▸J),h.hs.keep m fun _ J I=>h.bs (I▸J),h.bl,h.ba,h.bs,h.la,h.ls,h.sa⟩
theorem nU {w:World} {b:Nat} {x:HS} (h:co w b x) (i v:Int) (U:0<=i) (O:i<x.l.length) (v0:0<=v) (v1:v<x.at_.length) (hb:x.l.length<2147483648):
 Calls prog cI.id #[ptr b,.int .i64 i,.int .i64 v] w fun e w'=>e= .returned (.tuple #[])/\co w' b (x.put i v)/\aE (x.bI b) w w':=by
 refine cI.ah ?_;refine ⟨_,rfl,_,_,_,ad h.me rfl,h.hl.st v rfl rfl U rfl O fun X o m=> ?_⟩;have J:=h.Mq (by simp) o m;refine ⟨_,rfl,_,_,_,ad J.me rfl,?_⟩;rw [aB (x:=i+1) (by omega) (by omega)];refine J.ha.st (i+1) rfl rfl v0 rfl v1 fun V Q m'=> ⟨rfl,J.IO (by simp) Q m',?_⟩
 exact (m.mono fun k _ I=> .inr (.inl I)).trans (m'.mono fun k _ I=> .inr (.inr (.inl I)))
structure pQ (x:HS) (N:Int):Prop where
 na:(x.at_.length:Int)=N+1
 ns:(x.score.length:Int)=N+1
 BC:N<=1048576
 pos:u9 (g x.l) (g x.at_) x.l.length N
 nl:(x.l.length:Int)<=N
structure Lk (N:Int) (x y:HS):Prop where
 pl:y.pl=x.pl
 cl:y.cl=x.cl
 pa:y.pa=x.pa
 ca:y.ca=x.ca
 ps:y.ps=x.ps
 cs:y.cs=x.cs
 l:y.l.length=x.l.length
 a:y.at_.length=x.at_.length
 score:y.score=x.score
 step:y.step=x.step
 has: ∀u,1<=u->u<=N->(0<g y.at_ u↔0<g x.at_ u)
theorem Lk.refl (N:Int) (x:HS):Lk N x x:=⟨rfl,rfl,rfl,rfl,rfl,rfl,rfl,rfl,rfl,rfl,fun _ _ _=>Iff.rfl⟩
theorem Lk.trans {N:Int} {x y z:HS} (h:Lk N x y) (k:Lk N y z):Lk N x z:=
 ⟨k.pl.trans h.pl,k.cl.trans h.cl,k.pa.trans h.pa,k.ca.trans h.ca,k.ps.trans h.ps,k.cs.trans h.cs,k.l.trans h.l,k.a.trans h.a,k.score.trans h.score,k.step.trans h.step,fun u a b=> (k.has u a b).trans (h.has u a b)⟩
theorem Lk.bI {N:Int} {x y:HS} (h:Lk N x y) (b:Nat):y.bI b=x.bI b:=by funext k;unfold HS.bI;rw [h.pl,h.pa,h.ps]
theorem kR {x:HS} {i v:Int} (I:0<=i) (J:i<x.l.length):g (x.put i v).l=fun j=>if j=i then v else g x.l j:=wT I J
theorem zI {x:HS} {i v:Int} (v0:0<=v) (v1:v<x.at_.length):g (x.put i v).at_=fun u=>if u=v then i+1 else g x.at_ u:=wT v0 v1
theorem qo {x:HS} {N i:Int} (h:pQ x N) (J:0<=i) (I:i<x.l.length):g (x.put i (g x.l i)).l=g x.l/\g (x.put i (g x.l i)).at_=g x.at_:=by
 have f:=h.pos.sB i J I;have O:=h.na;rw [kR J I,zI (by omega) (by omega)];constructor
 . funext j;split
   . subst_vars;rfl
   . rfl
 . funext u;split
   . subst_vars;omega
   . rfl
theorem CB {y:HS} {N i p v:Int} (h:pQ (y.put i v) N) (v1:1<=v) (v2:v<=N) (Q:0<=i) (O:i<y.l.length) (X:0<=p) (Y:p<y.l.length) (I:i≠p):
 g ((y.put i (g y.l p)).put p v).l=np (g (y.put i v).l) i p/\g ((y.put i (g y.l p)).put p v).at_=rX (g (y.put i v).l) (g (y.put i v).at_) i p/\1<=g y.l p/\g y.l p<=N:=by
 have hl:(y.put i v).l.length=y.l.length:=by simp [HS.put]
 have U:(y.put i (g y.l p)).l.length=y.l.length:=by simp [HS.put]
 have V:(y.put i (g y.l p)).at_.length=y.at_.length:=by simp [HS.put]
 have Z:(y.at_.length:Int)=N+1:=by have:=h.na;simpa [HS.put] using this
 have f:=h.pos.sB p X (by rw [hl];exact Y);rw [kR Q O] at f;simp only [if_neg (Ne.symm I)] at f;refine ⟨?_,?_,f.1,f.2.1⟩
 . rw [kR X (by rw [U];exact Y),kR Q O,kR Q O];funext j;unfold np;by_cases e:j=p
   . simp [e]
   . by_cases J:j=i
     . simp [J,I,Ne.symm I]
     . simp [e,J]
 . rw [zI (by omega) (by rw [V];omega),zI (by omega) (by omega),kR Q O,zI (by omega) (by omega)];funext u;unfold rX;simp only [if_neg (Ne.symm I),if_true];by_cases e:u=v
   . simp [e]
   . by_cases J:u=g y.l p
     . simp [J]
     . simp [e,J]
theorem pQ.swap {y z:HS} {N i p:Int} (h:pQ y N) (Q:0<=i) (O:i<y.l.length) (U:0<=p) (J:p<y.l.length) (I:i≠p) (hl:g z.l=np (g y.l) i p) (ha:g z.at_=rX (g y.l) (g y.at_) i p) (k:z.l.length=y.l.length) (V:z.at_.length=y.at_.length) (X:z.score.length=y.score.length):
 pQ z N/\∀u,(0<g z.at_ u↔0<g y.at_ u):=by
 refine ⟨⟨by rw [V];exact h.na,by rw [X];exact h.ns,h.BC,?_,by rw [k];exact h.nl⟩,fun u=> ?_⟩
 . rw [hl,ha,k];exact h.pos.swap Q O U J I
 . rw [ha];exact DP h.pos Q O U J u
theorem CT {w:World} {b:Nat} {x:HS} {N:Int} (h:co w b x) (ok:pQ x N) (i:Int) (I:0<=i) (J:i<x.l.length) (ho:yY (g x.score) (g x.l) x.l.length i):
 Calls prog hZ.id #[ptr b,.int .i64 i] w fun e w'=>e= .returned (.tuple #[])/\∃O,co w' b O/\pQ O N/\Lk N x O/\Ord (g x.score) (g O.l) O.l.length 0 (-1)/\aE (x.bI b) w w':=by
 refine hZ.ah ?_;have ay:(x.l.length:Int)<=1048576:=Int.le_trans ok.nl ok.BC;refine ⟨_,rfl,_,_,_,ad h.me rfl,h.hl.ix 0 I rfl J fun a3 e3=> ⟨_,e3,?_⟩⟩;rw [kX I];have fv:=ok.pos.sB i I J;generalize hv:g x.l i=v at fv ⊢;refine ⟨fun i w' k=> ∃y:HS,co w' b y/\Lk N x (y.put i v)/\pQ (y.put i v) N/\yY (g x.score) (g (y.put i v).l) x.l.length i/\0<=i/\i<x.l.length/\k=i.toNat/\aE (x.bI b) w w',⟨i.toNat,x,h,?_,?_,?_,I,J,rfl,aE.refl w⟩,?_⟩
 . have ps:=qo ok I J;rw [hv] at ps;exact ⟨rfl,rfl,rfl,rfl,rfl,rfl,by simp [HS.put],by simp [HS.put],rfl,rfl,fun u _ _=>by rw [ps.2]⟩
 . have ps:=qo ok I J;rw [hv] at ps;exact ⟨by simpa [HS.put] using ok.na,ok.ns,ok.BC,by rw [ps.1,ps.2];simpa [HS.put] using ok.pos,by simpa [HS.put] using ok.nl⟩
 . have ps:=qo ok I J;rw [hv] at ps;rw [ps.1];exact ho
 clear h ho I J fv hv;rintro i w' k _ ⟨y,Q,lk,X,ou,I,J,hk,M⟩;have a':y.l.length=x.l.length:=by simpa [HS.put] using lk.l
 have bY:y.at_.length=x.at_.length:=by simpa [HS.put] using lk.a
 have U:y.score=x.score:=lk.score;have bv:=ok.na;have a8:=ok.ns;have an:y.bI b=x.bI b:=lk.bI b;have V:(y.put i v).l.length=x.l.length:=lk.l;have fv:=X.pos.sB i I (by rw [V];exact J);rw [kR I (by omega)] at fv;simp only [if_true] at fv;have fI:(i<=0\/¬Bt (g x.score) v (g y.l ((i - 1) / 2)))->∀w2,co w2 b y->aE (x.bI b) w w2->Calls prog cI.id #[ptr b,.int .i64 i,.int .i64 v] w2 fun e w'=>e= .returned (.tuple #[])/\(Ending.returned (.tuple #[])= .returned (.tuple #[])/\∃O,co w' b O/\pQ O N/\Lk N x O/\Ord (g x.score) (g O.l) O.l.length 0 (-1)/\aE (x.bI b) w w'):=by
  intro hb w2 av M2;refine (nU av i v I (by omega) (by omega) (by omega) (by omega)).mono ?_;rintro e w3 ⟨rfl,h3,m3⟩;refine ⟨rfl,rfl,_,h3,X,lk,?_,M2.trans (an▸m3)⟩;rw [V];refine ou.done (hb.imp id fun hb=> ?_);rw [kR I (by omega)];simp only [if_true];by_cases e:(i - 1) / 2=i
  . rw [if_pos e];exact fun hb=>hb.tz hb
  . rw [if_neg e];exact hb
 refine ao (fun t=> ?_) (fun t=>fI (.inl (by simpa using t)) w' Q M);simp only [decide_eq_true_eq] at t;have ep:i64.wrap ((i64.wrap (i - 1)).tdiv 2)=(i - 1) / 2:=by
  rw [aB (x:=i - 1) (by omega) (by omega),Int.tdiv_eq_ediv_of_nonneg (by omega),aB (by omega) (by omega)]
 rw [ep];have Y:0<=(i - 1) / 2:=by omega
 have pp:=CB X (by omega) (by omega) I (by omega) Y (by omega) (show i≠(i - 1) / 2 by omega);obtain ⟨e1,e2,u1,u2⟩:=pp;refine ⟨by decide,_,rfl,_,_,_,ad Q.me rfl,Q.hl.ix 0 Y rfl (by omega) fun ar Z=> ⟨_,Z,?_⟩⟩;rw [kX Y];refine (nI Q v (g y.l ((i - 1) / 2)) (by omega) (by rw [U];omega) (by omega) (by rw [U];omega)).mono ?_;rintro e ax ⟨rfl,ag⟩;have Q:=Q.grow ag;have M:=M.grow ag;refine ⟨_,rfl,ao (fun tb=>fI (.inr ?_) ax Q M) (fun tb=> ?_)⟩
 . rw [<- qX,<- U];simpa using tb
 . have tb:Bt (g x.score) v (g y.l ((i - 1) / 2)):=by rw [<- qX,<- U];simpa using tb
   refine ⟨_,rfl,_,_,_,ad Q.me rfl,Q.hl.ix 0 Y rfl (by omega) fun ar Z=> ⟨_,Z,?_⟩⟩;rw [kX Y];refine (nU Q i _ I (by omega) (show 0<=g y.l ((i - 1) / 2) by omega) (by omega) (by omega)).mono ?_;rintro e a_ ⟨rfl,ap,aw⟩;have sw:=pQ.swap (z:=(y.put i (g y.l ((i - 1) / 2))).put ((i - 1) / 2) v) X I (by rw [V];exact J) Y (by rw [V];omega) (by omega) e1 e2 (by simp [HS.put]) (by simp [HS.put]) rfl;refine ⟨rfl,((i - 1) / 2).toNat,by omega,_,ap,?_,sw.1,?_,Y,by omega,rfl,M.trans (an▸aw)⟩
   . refine lk.trans ⟨rfl,rfl,rfl,rfl,rfl,rfl,by simp [HS.put],by simp [HS.put],rfl,rfl,fun u _ _=>sw.2 u⟩
   . rw [e1];refine ou.step (by omega) J ?_;rw [kR I (by omega)];simpa [show ¬(i - 1) / 2=i by omega] using tb
theorem wX {w:World} {b:Nat} {x:HS} {N:Int} (h:co w b x) (ok:pQ x N) (i:Int) (O:0<=i) (i1:i<x.l.length) (k:Int) (ki:k<=i) (ho:zh (g x.score) (g x.l) x.l.length k i):
 Calls prog fJ.id #[ptr b,.int .i64 i] w fun e w'=>e= .returned (.tuple #[])/\∃Q,co w' b Q/\pQ Q N/\Lk N x Q/\Ord (g x.score) (g Q.l) Q.l.length k (-1)/\aE (x.bI b) w w':=by
 refine fJ.ah ?_;have ce:(x.l.length:Int)<=1048576:=Int.le_trans ok.nl ok.BC;refine ⟨_,rfl,_,_,_,ad h.me rfl,h.hl.ix 0 O rfl i1 fun a3 e3=> ⟨_,e3,?_⟩⟩;rw [kX O];generalize hv:g x.l i=v;have ps:=qo ok O i1;rw [hv] at ps;refine ⟨fun i w' m=> ∃y:HS,co w' b y/\Lk N x (y.put i v)/\pQ (y.put i v) N/\zh (g x.score) (g (y.put i v).l) x.l.length k i/\k<=i/\0<=i/\i<x.l.length/\m=x.l.length - i.toNat/\aE (x.bI b) w w',⟨x.l.length - i.toNat,x,h,?_,?_,?_,ki,O,i1,rfl,aE.refl w⟩,?_⟩
 . exact ⟨rfl,rfl,rfl,rfl,rfl,rfl,by simp [HS.put],by simp [HS.put],rfl,rfl,fun u _ _=>by rw [ps.2]⟩
 . exact ⟨by simpa [HS.put] using ok.na,ok.ns,ok.BC,by rw [ps.1,ps.2];simpa [HS.put] using ok.pos,by simpa [HS.put] using ok.nl⟩
 . rw [ps.1];exact ho
 clear h ho O i1 hv ps ki;rintro i w' m _ ⟨y,I,lk,Y,ou,ki,O,i1,hm,M⟩;have dd:y.l.length=x.l.length:=by simpa [HS.put] using lk.l
 have d4:y.at_.length=x.at_.length:=by simpa [HS.put] using lk.a
 have J:y.score=x.score:=lk.score;have du:=ok.na;have c7:=ok.ns;have b3:y.bI b=x.bI b:=lk.bI b;have V:(y.put i v).l.length=x.l.length:=lk.l;have fv:=Y.pos.sB i O (by rw [V];exact i1);rw [kR O (by omega)] at fv;simp only [if_true] at fv;have fI:(∀j:Int,1<=j->j<x.l.length->(j - 1) / 2=i->¬Bt (g x.score) (g y.l j) v)->∀w2,co w2 b y->aE (x.bI b) w w2->Calls prog cI.id #[ptr b,.int .i64 i,.int .i64 v] w2 fun e w'=>e= .returned (.tuple #[])/\(Ending.returned (.tuple #[])= .returned (.tuple #[])/\∃Q,co w' b Q/\pQ Q N/\Lk N x Q/\Ord (g x.score) (g Q.l) Q.l.length k (-1)/\aE (x.bI b) w w'):=by
  intro hb w2 b9 M2;refine (nU b9 i v O (by omega) (by omega) (by omega) (by omega)).mono ?_;rintro e w3 ⟨rfl,h3,m3⟩;refine ⟨rfl,rfl,_,h3,Y,lk,?_,M2.trans (b3▸m3)⟩;rw [V];refine ou.done fun j j1 j2 j3=> ?_;rw [kR O (by omega)];simp only [if_true];rw [if_neg (by omega)];exact hb j j1 j2 j3
 have ec:i64.wrap (i64.wrap (2*i)+1)=2*i+1:=by rw [aB (x:=2*i) (by omega) (by omega),aB (by omega) (by omega)]
 have b7:i64.wrap (2*i+1+1)=2*i+2:=by rw [aB (by omega) (by omega)];omega
 rw [ec,b7];refine ⟨_,rfl,_,_,_,ad I.me rfl,ao (fun t=>fI ?_ w' I M) (fun t=> ?_)⟩
 . simp only [decide_eq_true_eq,ge_iff_le] at t;intro j j1 j2 j3;omega
 simp only [decide_eq_false_iff_not,ge_iff_le] at t;have kids: ∀c,c=2*i+1\/c=2*i+2->c<x.l.length->1<=g y.l c/\g y.l c<=N:=by
  intro c hc b8;have:=Y.pos.sB c (by omega) (by rw [V];exact b8);rw [kR O (by omega)] at this;simp only [show ¬c=i by omega,if_false] at this;exact ⟨this.1,this.2.1⟩
 have I:=I.drew;have M:=M.drew;have rest: ∀c w2,co w2 b y->aE (x.bI b) w w2->c=2*i+1\/c=2*i+2->c<x.l.length->(∀j:Int,1<=j->j<x.l.length->(j - 1) / 2=i->¬Bt (g x.score) (g y.l j) (g y.l c))->
  (∃a25,(some (⟨b,0,none⟩:Addr))=some a25/\∃ay ax bb,w2.cell? (a25.add 0)=some (.slice ay ax bb)/\
    aV ay ax c 1 fun cc=>
    ∃bY,w2.cell? cc=some (.int .i64 bY)/\
    Calls prog cW.id #[.pointer (some ⟨b,0,none⟩),.int .i64 bY,.int .i64 v] w2 fun e an=> ∃a8,e= .returned (.bool a8)/\
    aH (!a8)
    (Calls prog cI.id #[.pointer (some ⟨b,0,none⟩),.int .i64 i,.int .i64 v] an fun e bx=>e= .returned (.tuple #[])/\
      (Ending.returned (.tuple #[])= .returned (.tuple #[])/\∃Q,co bx b Q/\pQ Q N/\Lk N x Q/\Ord (g x.score) (g Q.l) Q.l.length k (-1)/\aE (x.bI b) w bx))
    (∃bv,(some (⟨b,0,none⟩:Addr))=some bv/\∃av aw a',an.cell? (bv.add 0)=some (.slice av aw a')/\
      aV av aw c 1 fun b5=>
      ∃a6,an.cell? b5=some (.int .i64 a6)/\
      Calls prog cI.id #[.pointer (some ⟨b,0,none⟩),.int .i64 i,.int .i64 a6] an fun e a_=>e= .returned (.tuple #[])/\
      ∃k7,k7<m/\∃y:HS,co a_ b y/\Lk N x (y.put c v)/\pQ (y.put c v) N/\zh (g x.score) (g (y.put c v).l) x.l.length k c/\k<=c/\0<=c/\c<x.l.length/\k7=x.l.length - c.toNat/\aE (x.bI b) w a_)):=by
  intro c w2 I M hc bk aa;have fc:=kids c hc bk;have pp:=CB Y (by omega) (by omega) O (by omega) (show 0<=c by omega) (by omega) (show i≠c by omega);obtain ⟨e1,e2,u1,u2⟩:=pp;have c0:0<=c:=by omega
  refine ⟨_,rfl,_,_,_,ad I.me rfl,I.hl.ix 0 c0 rfl (by omega) fun a7 X=> ⟨_,X,?_⟩⟩;rw [kX c0];refine (nI I (g y.l c) v (by omega) (by rw [J];omega) (by omega) (by rw [J];omega)).mono ?_;rintro e ap ⟨rfl,Z⟩;have I:=I.grow Z;have M:=M.grow Z;refine ⟨_,rfl,ao (fun U=>fI (fun j j1 j2 j3=> ?_) ap I M) (fun U=> ?_)⟩
  . have: ¬Bt (g x.score) (g y.l c) v:=by rw [<- qX,<- J];simpa using U
    exact Bt.AX (aa j j1 j2 j3) this
  . have U:Bt (g x.score) (g y.l c) v:=by rw [<- qX,<- J];simpa using U
    refine ⟨_,rfl,_,_,_,ad I.me rfl,I.hl.ix 0 c0 rfl (by omega) fun a7 X=> ⟨_,X,?_⟩⟩;rw [kX c0];refine (nU I i _ O (by omega) (show 0<=g y.l c by omega) (by omega) (by omega)).mono ?_;rintro e dc ⟨rfl,b6,b_⟩;have sw:=pQ.swap (z:=(y.put i (g y.l c)).put c v) Y O (by rw [V];exact i1) c0 (by rw [V];omega) (by omega) e1 e2 (by simp [HS.put]) (by simp [HS.put]) rfl;refine ⟨rfl,x.l.length - c.toNat,by omega,_,b6,?_,sw.1,?_,by omega,c0,by omega,rfl,M.trans (b3▸b_)⟩
    . refine lk.trans ⟨rfl,rfl,rfl,rfl,rfl,rfl,by simp [HS.put],by simp [HS.put],rfl,rfl,fun u _ _=>sw.2 u⟩
    . rw [e1];refine ou.step ki O bk (by omega) (by omega) ?_ ?_
      . rw [kR O (by omega)];simpa [show ¬c=i by omega] using U
      . intro j j1 j2 j3;rw [kR O (by omega)];simpa [show ¬c=i by omega,show ¬j=i by omega] using aa j j1 j2 j3
 refine ⟨_,rfl,_,_,_,ad I.me rfl,ao (fun t1=> ?_) (fun t1=> ?_)⟩<;>simp only [decide_eq_true_eq,decide_eq_false_iff_not] at t1
 . have f1:=kids (2*i+1) (.inl rfl) (by omega);have f2:=kids (2*i+2) (.inr rfl) (by omega);refine ⟨_,rfl,_,_,_,ad I.me rfl,I.hl.ix 0 (by omega) rfl t1 fun a7 X=> ⟨_,X,_,rfl,_,_,_,ad I.me rfl,I.hl.ix 0 (by omega) rfl (by omega) fun dp b'=> ⟨_,b',?_⟩⟩⟩;rw [kX (by omega),kX (by omega)];refine (nI I _ _ (show 0<=g y.l (2*i+2) by omega) (by rw [J];omega) (show 0<=g y.l (2*i+1) by omega) (by rw [J];omega)).mono ?_;rintro e ap ⟨rfl,Z⟩;have I:=I.grow Z;have M:=M.grow Z;refine ⟨_,rfl,ao (fun U=>rest _ ap I M (.inr rfl) (by omega) fun j j1 j2 j3=> ?_) (fun U=>rest _ ap I M (.inl rfl) (by omega) fun j j1 j2 j3=> ?_)⟩
   . have U:Bt (g x.score) (g y.l (2*i+2)) (g y.l (2*i+1)):=by rw [<- qX,<- J];simpa using U
     obtain rfl|rfl:j=2*i+1\/j=2*i+2:=by omega
     . exact U.tz
     . exact fun hb=>hb.tz hb
   . have U: ¬Bt (g x.score) (g y.l (2*i+2)) (g y.l (2*i+1)):=by rw [<- qX,<- J];simpa using U
     obtain rfl|rfl:j=2*i+1\/j=2*i+2:=by omega
     . exact fun hb=>hb.tz hb
     . exact U
 . refine rest _ _ I M (.inl rfl) (by omega) fun j j1 j2 j3=> ?_;obtain rfl:j=2*i+1:=by omega
   exact fun hb=>hb.tz hb
end
section
def f20 (x:Int):Int:=x / 1048576
theorem K_ (x:Int):x.fdiv (2 ^ (min (20:Int).toNat (IntKind.bits .i64)))=f20 x:=by
 show x.fdiv 1048576=_;rw [Int.fdiv_eq_ediv_of_nonneg _ (by omega)];rfl
def lS:Int:=1099511627776
def lC (x:HS) (v:Int):Prop:=lS<x.step\/lS<g x.score v
instance (x:HS) (v:Int):Decidable (lC x v):=by unfold lC;infer_instance
def HS.iC (x:HS):HS:= {x with score:=x.score.map f20,step:=imax 1 (f20 x.step)}
theorem pQ.score {x:HS} {N:Int} (h:pQ x N) {s:List Int} {t:Int} (hs:s.length=x.score.length):pQ {x with score:=s,step:=t} N:=
 ⟨h.na,by show (s.length:Int)=_;rw [hs];exact h.ns,h.BC,h.pos,h.nl⟩
theorem uD {w:World} {b:Nat} {x:HS} {N:Int} (h:co w b x) (ok:pQ x N) (v:Int) (v0:0<=v) (v1:v<=N) (ho:Ord (g x.score) (g x.l) x.l.length 0 (-1)):
 Calls prog dG.id #[ptr b,.int .i64 v] w fun e w'=>e= .returned (.tuple #[])/\∃U,co w' b U/\pQ U N/\Lk N (if lC x v then x.iC else x) U/\Ord (g U.score) (g U.l) U.l.length 0 (-1)/\aE (x.bI b) w w':=by
 refine dG.ah ?_;have bk:=ok.ns;have hN:=ok.BC;have ax:(x.l.length:Int)<=1048576:=Int.le_trans ok.nl ok.BC;refine ⟨_,rfl,_,ad h.me rfl,ao (fun t1=> ⟨_,rfl,_,_,_,ad h.me rfl,h.hs.ix 0 v0 rfl (by omega) fun a e=> ⟨_,e,ao (fun V=> ?_) (fun V=> ?_)⟩⟩) (fun t1=> ?_)⟩
 . rw [kX v0] at V;simp only [decide_eq_true_eq] at t1 V;have hm: ¬lC x v:=by unfold lC lS;omega
   rw [if_neg hm];exact ⟨rfl,x,h,ok,Lk.refl N x,ho,aE.refl w⟩
 all_goals (
  have hm:lC x v:=by
   unfold lC lS;first
   | (rw [kX v0] at V;simp only [decide_eq_false_iff_not] at V;omega)
   | (simp only [decide_eq_false_iff_not] at t1;omega)
  rw [if_pos hm];clear t1;refine ⟨_,rfl,_,_,_,ad h.me rfl,?_⟩;refine ⟨fun i w' k=> ∃t:Nat,i=t/\t<=x.score.length/\co w' b {x with score:=nj f20 t x.score}/\aE (x.bI b) w w'/\k+t=x.score.length,⟨x.score.length,0,rfl,Nat.zero_le _,by rw [Bz];exact h,aE.refl w,rfl⟩,?_⟩;rintro i w' k _ ⟨t,rfl,ht,I,M,Y⟩;refine ao (fun J=> ?_) (fun J=> ?_)<;>simp only [decide_eq_true_eq,decide_eq_false_iff_not] at J
  . have hl:=x_ f20 t x.score;refine ⟨_,rfl,_,_,_,ad I.me rfl,I.hs.ix 0 (by omega) rfl (by rw [hl];exact J) fun bv an=> ⟨_,an,by decide,?_⟩⟩;rw [Int.toNat_natCast,C_ f20 0 (by omega),K_];refine I.hs.st (f20 (x.score.getD t 0)) rfl rfl (by omega) rfl (by rw [hl];exact J) fun bx o m=> ⟨k - 1,by omega,t+1,?_,by omega,?_,M.trans (m.mono fun k _ Y=> .inr (.inr (.inr Y))),by omega⟩
    . rw [aB (by omega) (by omega)];omega
    . have:=I.LO (by simp) o m;rw [Int.toNat_natCast,Dr f20 0 (by omega)] at this;exact this
  . have et:t=x.score.length:=by omega
    subst et;rw [DR] at I;refine ⟨_,rfl,_,ad I.me rfl,by decide,_,rfl,?_⟩;rw [K_];refine bZ I.me rfl rfl fun aa o m=> ?_;have Q:co aa b x.iC:=I.LL o m;have M2:aE (x.bI b) w aa:=M.trans (m.mono fun k _ Y=> .inl Y);have X:pQ x.iC N:=ok.score (by simp);refine ⟨_,rfl,_,_,_,ad Q.me rfl,?_⟩;have en:i64.wrap ((x.iC.l.length:Int) - 1)=(x.l.length:Int) - 1:=by show i64.wrap ((x.l.length:Int) - 1)=_;rw [aB (by omega) (by omega)]
    rw [en];refine ⟨fun i w' k=> ∃y,co w' b y/\pQ y N/\Lk N x.iC y/\Ord (g x.iC.score) (g y.l) x.l.length (i+1) (-1)/\ -1<=i/\i<x.l.length/\k=(i+1).toNat/\aE (x.bI b) w w',⟨_,x.iC,Q,X,Lk.refl N _,?_,by omega,by omega,rfl,M2⟩,?_⟩
    . intro j j1 j2 j3 j4;omega
    clear I Q X M M2 m o ho;rintro i w' k _ ⟨y,I,ac,lk,oy,i0,i1,Y,M⟩;have Z:y.l.length=x.l.length:=lk.l;have O:y.score=x.iC.score:=lk.score;have av:y.bI b=x.bI b:=lk.bI b;refine ao (fun J=> ?_) (fun J=> ?_)<;>simp only [decide_eq_true_eq,decide_eq_false_iff_not,ge_iff_le] at J
    . refine (wX I ac i J (by omega) i (Int.le_refl _) ⟨?_,?_⟩).mono ?_
      . intro j j1 j2 j3 j4;rw [O];exact oy j j1 (by omega) (by omega) (by omega)
      . intro j j1 j2 j3 j4 j5;omega
      . rintro e w2 ⟨rfl,z,hz,ar,lz,oz,mz⟩;have ap:z.l.length=y.l.length:=lz.l;refine ⟨rfl,i.toNat,by omega,z,hz,ar,lk.trans lz,?_,?_,?_,?_,M.trans (av▸mz)⟩
        . have e1:i64.wrap (i - 1)+1=i:=by rw [aB (by omega) (by omega)];omega
          rw [e1,<- O,<- Z,<- ap];exact oz
        . rw [aB (by omega) (by omega)];omega
        . rw [aB (by omega) (by omega)];omega
        . rw [aB (by omega) (by omega)];omega
    . have ei:i= -1:=by omega
      subst ei;refine ⟨rfl,y,I,ac,lk,?_,M⟩;rw [O,Z];exact oy)
theorem Ko {w:World} {b:Nat} {x:HS} (h:co w b x):Calls prog gg.id #[ptr b] w fun e w'=>e= .returned (.int .i64 x.l.length)/\aq w w':=by
 refine gg.ah ?_;exact bm rfl ⟨_,rfl,_,_,_,ad h.me rfl,rfl,aE.refl w⟩
theorem rG {w:World} {b:Nat} {x:HS} (h:co w b x) (v:Int):Calls prog gZ.id #[ptr b,.int .i64 v] w fun e w'=>e= .returned (.bool (decide (1<=v/\v<x.at_.length)))/\aq w w':=by
 refine gZ.ah ?_;refine cj rfl (ao (fun t=> ⟨_,rfl,_,_,_,ad h.me rfl,?_,aE.refl w⟩) (fun t=> ⟨?_,aE.refl w⟩))<;>simp only [decide_eq_true_eq,decide_eq_false_iff_not,ge_iff_le] at t
 . simp [t]
 . simp [t]
theorem Ck {w:World} {b:Nat} {x:HS} (h:co w b x) (hb:x.l.length<2147483648):Calls prog fQ.id #[ptr b] w fun e w'=>e= .returned (.tuple #[.int .i64 (if x.l.length=0 then 0 else g x.l 0),.bool (decide (x.l.length≠0))])/\aq w w':=by
 refine fQ.ah ?_;refine (Ko h).mono ?_;rintro e w1 ⟨rfl,I⟩;have h:=h.grow I;refine ⟨_,rfl,ao (fun t=> ⟨?_,I⟩) (fun t=> ⟨_,rfl,_,_,_,ad h.me rfl,h.hl.ix 0 (Int.le_refl _) rfl ?_ fun a e=> ⟨_,e,?_,I⟩⟩)⟩
 . have:x.l.length=0:=by have:=beq_iff_eq.1 t;omega
   simp [this]
 . have:=beq_eq_false_iff_ne.1 t;omega
 . have t:=beq_eq_false_iff_ne.1 t;have:x.l.length≠0:=by omega
   rw [kX (Int.le_refl 0),if_neg this];simp [this]
structure lw (x:HS) (N:Int):Prop where
 ok:pQ x N
 n0:0<=N
 LZ:Ord (g x.score) (g x.l) x.l.length 0 (-1)
 sc: ∀v,0<=v->v<=N->0<=g x.score v/\g x.score v<=lS
 st:1<=x.step/\x.step<=lS
theorem LU {l:List Int} {f:Int->Int} (I:f 0=0) (v:Int):g (l.map f) v=f (g l v):=by
 unfold g;split
 . exact I.symm
 . simp only [List.getD_eq_getElem?_getD,List.getElem?_map];cases l[v.toNat]? <;>simp [I]
theorem te {y z:HS} {N v:Int} (n0:0<=N) (ok:pQ z N) (lk:Lk N (if lC y v then y.iC else y) z) (o:Ord (g z.score) (g z.l) z.l.length 0 (-1))
 (hs: ∀u,0<=u->u<=N->0<=g y.score u/\g y.score u<=4398046511104/\(u≠v->g y.score u<=lS)) (ht:1<=y.step/\y.step<=4398046511104):lw z N:=by
 by_cases hm:lC y v
 . rw [if_pos hm] at lk;have I:z.score=y.score.map f20:=lk.score;have O:z.step=imax 1 (f20 y.step):=lk.step;refine ⟨ok,n0,o,fun u J Q=> ?_,?_⟩
   . rw [I,LU rfl];have:=hs u J Q;unfold f20 lS;omega
   . rw [O];unfold imax f20 lS;split<;>omega
 . rw [if_neg hm] at lk;have I:z.score=y.score:=lk.score;have O:z.step=y.step:=lk.step;unfold lC at hm;refine ⟨ok,n0,o,fun u J Q=> ?_,?_⟩
   . rw [I];have:=hs u J Q;by_cases e:u=v
     . subst e;omega
     . exact ⟨this.1,this.2.2 e⟩
   . rw [O];omega
theorem Eu {w:World} {b:Nat} {x:HS} {N:Int} (h:co w b x) (I:lw x N):Calls prog dJ.id #[ptr b] w fun e w'=>e= .returned (.tuple #[])/\
 ∃z,co w' b z/\lw z N/\Lk N (if lS<x.step+ (x.step / 16+1) then {x with step:=x.step+ (x.step / 16+1)}.iC else {x with step:=x.step+ (x.step / 16+1)}) z/\aE (x.bI b) w w':=by
 refine dJ.ah ?_;have hN:=I.ok.BC;have hs:=I.st;have ar:=I.ok.na;have an:=I.n0;unfold lS at hs;refine bm rfl ⟨_,rfl,_,_,_,ad h.me rfl,bm ?_ ?_⟩
 . obtain ⟨q,hq,_⟩:=h.ha.cell (j:=0) (by omega);rw [hq];rfl
 have h:=h.drew;refine ⟨_,rfl,_,ad h.me rfl,_,rfl,_,ad h.me rfl,by decide,_,rfl,?_⟩;have e1:i64.wrap (x.step+i64.wrap (i64.wrap (x.step.tdiv 16)+1))=x.step+ (x.step / 16+1):=by
  rw [Int.tdiv_eq_ediv_of_nonneg (by omega),aB (x:=x.step / 16) (by omega) (by omega),aB (x:=x.step / 16+1) (by omega) (by omega),aB (by omega) (by omega)]
 rw [e1];refine bZ h.me rfl rfl fun X o m=> ?_;have h8:=h.LL o m;have M8:aE (x.bI b) w X:=((aE.refl w).drew).trans (m.mono fun k _ Y=> .inl Y);refine (uD h8 (I.ok.score rfl) 0 (by omega) I.n0 I.LZ).mono ?_;rintro e w9 ⟨rfl,z,hz,O,Q,Z,mz⟩;refine ⟨rfl,rfl,z,hz,?_,?_,M8.trans mz⟩
 . refine te I.n0 O Q Z (fun u V U=> ?_) ?_
   . have:=I.sc u V U;unfold lS at this;exact ⟨this.1,by show g x.score u<=_;omega,fun _=> (I.sc u V U).2⟩
   . show 1<=x.step+ (x.step / 16+1)/\x.step+ (x.step / 16+1)<=_;omega
 . have:lC {x with step:=x.step+ (x.step / 16+1)} 0↔lS<x.step+ (x.step / 16+1):=by
    unfold lC;have:=(I.sc 0 (Int.le_refl _) I.n0).2;constructor
    . rintro (h|h)
      . exact h
      . exact absurd this (by show ¬g x.score 0<=lS;exact Int.not_le.2 h)
    . exact .inl
   by_cases J:lS<x.step+ (x.step / 16+1)
   . rw [if_pos J];rwa [if_pos (this.2 J)] at Q
   . rw [if_neg J];rwa [if_neg (fun h=>J (this.1 h))] at Q
theorem Ord.Nj {S L:Int->Int} {n i:Int} (h:Ord S L n 0 (-1)) (S':Int->Int) (O: ∀j,0<=j->j<n->j≠i->S' (L j)=S (L j)) (hi:0<=i->i<n->S (L i)<=S' (L i)):yY S' L n i:=by
 constructor
 . intro j X I Q;have J:=h j X I (by omega) (by omega);have e:=O j (by omega) I Q;by_cases hp:(j - 1) / 2=i
   . have:=hi (by omega) (by omega);unfold Bt at*
     rw [hp] at J ⊢;rw [e];omega
   . have U:=O ((j - 1) / 2) (by omega) (by omega) hp;unfold Bt at*
     rw [e,U];omega
 . intro j X I Q Y;have J:=h j X I (by omega) (by omega);have V:=h i Y (by omega) (by omega) (by omega);rw [Q] at J;have e:=O j (by omega) I (by omega);have U:=O ((i - 1) / 2) (by omega) (by omega) (by omega);have:=Bt.AX J V;unfold Bt at*
   rw [e,U];omega
theorem IR {w:World} {b:Nat} {x:HS} {N:Int} (h:co w b x) (O:lw x N) (v:Int):Calls prog d_.id #[ptr b,.int .i64 v] w fun e w'=>
 e= .returned (.int .i64 (if 1<=v/\v<=N then 0 else 1))/\∃z,co w' b z/\lw z N/\
  Lk N (if 1<=v/\v<=N then (if lS<g x.score v+x.step then {x with score:=x.score.set v.toNat (g x.score v+x.step)}.iC else {x with score:=x.score.set v.toNat (g x.score v+x.step)}) else x) z/\aE (x.bI b) w w':=by
 refine d_.ah ?_;have hN:=O.ok.BC;have hs:=O.st;have b9:=O.ok.na;have b4:=O.ok.ns;have b8:=O.ok.nl;have a7:=O.n0;unfold lS at hs;refine (rG h v).mono ?_;rintro e w1 ⟨rfl,g1⟩;have h:=h.grow g1;refine ⟨_,rfl,ao (fun t=> ?_) (fun t=> ?_)⟩
 . have t: ¬(1<=v/\v<=N):=by simp at t;omega
   rw [if_neg t,if_neg t];exact ⟨rfl,x,h,O,Lk.refl N x,g1.mono fun _ _ h=>h.elim⟩
 have t:1<=v/\v<=N:=by simp at t;omega
 rw [if_pos t,if_pos t];have h:=h.drew;have v0:0<=v:=by omega
 have v1:v<x.score.length:=by omega
 have sv:=O.sc v v0 t.2;have b3:g x.score v<=1099511627776:=sv.2;refine ⟨_,rfl,_,_,_,ad h.me rfl,h.hs.ix 0 v0 rfl v1 fun a e=> ⟨_,e,_,rfl,_,ad h.me rfl,?_⟩⟩;rw [kX v0,aB (x:=g x.score v+x.step) (by omega) (by omega)];refine h.hs.st (g x.score v+x.step) rfl rfl v0 rfl v1 fun V o m=> ?_;have jQ:=h.LO (by simp) o m;have Z:aE (x.bI b) w V:=((g1.mono fun _ _ h=>h.elim).drew).trans (m.mono fun k _ hk=> .inr (.inr (.inr hk)));generalize U:({x with score:=x.score.set v.toNat (g x.score v+x.step)}:HS)=y at jQ ⊢;have gy:g y.score=fun j=>if j=v then g x.score v+x.step else g x.score j:=by rw [<- U];exact wT v0 v1
 have ag:pQ y N:=by rw [<- U];exact O.ok.score (by simp)
 have yl:y.l=x.l:=by rw [<- U]
 have ya:y.at_=x.at_:=by rw [<- U]
 have yt:y.step=x.step:=by rw [<- U]
 have yf:y.bI b=x.bI b:=by rw [<- U];rfl
 have Y:g y.score v=g x.score v+x.step:=by rw [gy];simp
 have fI: ∀z,pQ z N->Lk N y z->Ord (g y.score) (g z.l) z.l.length 0 (-1)->∀I,co I b z->aE (x.bI b) w I->Calls prog dG.id #[ptr b,.int .i64 v] I fun e I=>e= .returned (.tuple #[])/\
  (Ending.returned (.int .i64 0)= .returned (.int .i64 0)/\∃z,co I b z/\lw z N/\Lk N (if lS<g x.score v+x.step then y.iC else y) z/\aE (x.bI b) w I):=by
  intro z Q J oz I hz M;have zs:z.score=y.score:=J.score;have zt:z.step=y.step:=J.step;refine (uD hz Q v v0 t.2 (by rw [zs];exact oz)).mono ?_;rintro e b6 ⟨rfl,u,hu,a',X,ou,mu⟩;have fy:lC z v↔lS<g x.score v+x.step:=by unfold lC;rw [zs,zt,Y,yt];unfold lS;omega
  have ay:Lk N (if lS<g x.score v+x.step then y.iC else y) u:=by
   by_cases hc:lS<g x.score v+x.step
   . rw [if_pos (fy.2 hc)] at X;rw [if_pos hc];have ls:Lk N y.iC z.iC:=⟨J.pl,J.cl,J.pa,J.ca,J.ps,J.cs,J.l,J.a,congrArg (List.map f20) zs,congrArg (fun t=>imax 1 (f20 t)) zt,J.has⟩
     exact ls.trans X
   . rw [if_neg (fun h=>hc (fy.1 h))] at X;rw [if_neg hc];exact J.trans X
  refine ⟨rfl,rfl,u,hu,?_,ay,M.trans (by have:=J.bI b;rw [this,yf] at mu;exact mu)⟩;refine te a7 a' X ou (fun q q0 q1=> ?_) (by rw [zt,yt];omega);rw [zs,gy];have:=O.sc q q0 q1;unfold lS at*
  by_cases e:q=v
  . subst e;simp;omega
  . simp [e];omega
 refine ⟨_,rfl,_,_,_,ad jQ.me rfl,jQ.ha.ix 0 v0 rfl (by rw [ya];omega) fun a e=> ⟨_,e,?_⟩⟩;rw [kX v0];have bk:=O.ok.pos.bC v t.1 t.2;refine ao (fun tt=> ?_) (fun tt=> ?_)<;>simp only [decide_eq_true_eq,decide_eq_false_iff_not] at tt
 . refine ⟨_,rfl,_,_,_,ad jQ.me rfl,jQ.ha.ix 0 v0 rfl (by rw [ya];omega) fun a e=> ⟨_,e,?_⟩⟩;rw [ya] at tt ⊢;rw [kX v0,aB (x:=g x.at_ v - 1) (by omega) (by omega)];have hl:g x.l (g x.at_ v - 1)=v:=bk.2.2 tt;refine (CT jQ ag (g x.at_ v - 1) (by omega) (by rw [yl];omega) ?_).mono ?_
   . rw [yl];refine Ord.Nj O.LZ _ (fun j j0 j1 j2=> ?_) fun _ _=> ?_
     . rw [gy];have:g x.l j≠v:=fun e=>j2 (O.ok.pos.inj j0 j1 (by omega) (by omega) (by rw [e,hl]));simp [this]
     . rw [hl,Y];omega
   . rintro e a8 ⟨rfl,z,hz,Q,J,oz,mz⟩;exact ⟨rfl,fI z Q J oz a8 hz (Z.trans (yf▸mz))⟩
 . refine fI y ag (Lk.refl N y) ?_ V jQ Z;rw [yl];have no: ∀j:Int,0<=j->j<x.l.length->g x.l j≠v:=by
    intro j j0 j1 e;have:=O.ok.pos.sB j j0 j1;rw [e] at this;rw [ya] at tt;omega
   intro j j1 j2 j3 j4;have:=O.LZ j j1 j2 j3 j4;unfold Bt at*
   rw [gy];simp only [no j (by omega) j2,no ((j - 1) / 2) (by omega) (by omega),if_false];exact this
theorem IW {l:List Int} {v:Int}:g (l++ [v])=fun j:Int=>if j=l.length then v else g l j:=by
 funext j;unfold g;simp only [List.getD_eq_getElem?_getD];by_cases I:j<0
 . simp [I];omega
 . simp only [if_neg I];by_cases e:j=l.length
   . subst e;simp
   . rw [if_neg e];by_cases J:j.toNat<l.length
     . rw [List.getElem?_append_left J]
     . rw [List.getElem?_eq_none (by simp;omega),List.getElem?_eq_none (by omega)]
structure Ng (N v:Int) (x y:HS):Prop where
 pa:y.pa=x.pa
 ca:y.ca=x.ca
 ps:y.ps=x.ps
 cs:y.cs=x.cs
 a:y.at_.length=x.at_.length
 score:y.score=x.score
 step:y.step=x.step
 has: ∀u,1<=u->u<=N->(0<g y.at_ u↔0<g x.at_ u\/u=v)
theorem HK {w:World} {b:Nat} {x:HS} {N:Int} (h:co w b x) (V:lw x N) (v:Int) (hv:1<=v/\v<=N):Calls prog eo.id #[ptr b,.int .i64 v] w fun e w'=>
 e= .returned (.int .i64 0)/\∃z,co w' b z/\lw z N/\Ng N v x z/\aE (x.bI b) w w'/\∀k,z.bI b k->x.bI b k\/w.heap.size<=k:=by
 refine eo.ah ?_;have hN:=V.ok.BC;have b3:=V.ok.na;have bY:=V.ok.ns;have dd:=V.ok.nl;have ay:=V.n0;refine (rG h v).mono ?_;rintro e w1 ⟨rfl,g1⟩;have h:=h.grow g1;refine ⟨_,rfl,bm ?_ ?_⟩
 . simp;omega
 have v0:0<=v:=by omega
 refine ⟨_,rfl,_,_,_,ad h.me rfl,h.ha.ix 0 v0 rfl (by omega) fun a e=> ⟨_,e,?_⟩⟩;rw [kX v0];have bk:=V.ok.pos.bC v hv.1 hv.2;refine ao (fun tt=> ?_) (fun tt=> ?_)
 . have tt:g x.at_ v=0:=beq_iff_eq.1 tt;have no: ∀j:Int,0<=j->j<x.l.length->g x.l j≠v:=by
    intro j j0 j1 e;have:=V.ok.pos.sB j j0 j1;rw [e] at this;omega
   have pp:=V.ok.pos.push (by omega) hv.1 hv.2 tt;have dk:(x.l.length:Int)+1<=N:=by
    have:u9 (fun j=>if j=(x.l.length:Int) then v else g x.l j) (fun u=>if u=v then (x.l.length:Int)+1 else g x.at_ u) ((x.l.length+1:Nat):Int) ((N.toNat:Nat):Int):=by
     rw [Int.toNat_of_nonneg ay];exact pp
    have:=this.le;omega
   refine ⟨_,rfl,_,_,_,ad h.me rfl,?_⟩;intro n9 ax an;have O:=h.grow an.mod;have aT:aq w ax:=g1.trans an.mod;refine O.hl.kZ dN v an.has rfl rfl fH (by omega) fun dq p' c' o m hp du=> ?_;have S: ∀k,aI p'=some k->aI x.pl=some k\/ax.heap.size<=k:=by
    intro k I;rcases hp with rfl|rfl
    . exact .inl I
    . right;simp [aI] at I;omega
   have X:=O.lt;have m1:=O.me.keep m O.bl;refine ⟨_,rfl,bZ m1 rfl rfl fun ap b4 ac=> ?_⟩;have pb:aI p'≠some b:=fun e=>by
    rcases S b e with e2|e2
    . exact O.bl e2
    . have:=X b (.inl rfl);omega
   generalize Z:({x with l:=x.l++ [v],pl:=p',cl:=c'}:HS)=y;have Q:co ap b y:=by
    rw [<- Z];refine ⟨?_,o.keep ac fun k I e=>pb (e▸I),(O.ha.keep m fun k I J=>O.la k J I).keep ac fun k I e=>O.ba (e▸I),(O.hs.keep m fun k I J=>O.ls k J I).keep ac fun k I e=>O.bs (e▸I),pb,O.ba,O.bs,?_,?_,O.sa⟩
    . have e:(x.l++ [v]).length=x.l.length+1:=by simp
      show bF ap b #[.slice p' (x.l++ [v]).length c',_,_,_];rw [e];exact b4
    . intro k I J;rcases S k I with e|e
      . exact O.la k e J
      . have:=X k (.inr (.inr (.inl J)));omega
    . intro k I J;rcases S k I with e|e
      . exact O.ls k e J
      . have:=X k (.inr (.inr (.inr J)));omega
   have b5:aE (x.bI b) w ap:=(((aT.mono fun _ _ h=>h.elim).trans (m.mono fun k _ I=> .inr (.inl I))).trans (ac.mono fun k _ I=> .inl I))
   have yl:y.l=x.l++ [v]:=by rw [<- Z]
   have aw:y.l.length=x.l.length+1:=by rw [yl];simp
   have ya:y.at_=x.at_:=by rw [<- Z]
   have ys:y.score=x.score:=by rw [<- Z]
   have yt:y.step=x.step:=by rw [<- Z]
   have yf: ∀k,y.bI b k->x.bI b k\/w.heap.size<=k:=by
    rw [<- Z];rintro k (e|e|e|e)
    . exact .inl (.inl e)
    . rcases S k e with e|e
      . exact .inl (.inr (.inl e))
      . right;have:=aT.size;omega
    . exact .inl (.inr (.inr (.inl e)))
    . exact .inl (.inr (.inr (.inr e)))
   have Q:=Q.drew;refine ⟨_,rfl,_,_,_,ad Q.me rfl,_,rfl,_,_,_,ad Q.me rfl,Q.ha.st ((y.l.length:Nat):Int) rfl rfl v0 rfl (by rw [ya];omega) fun bx b7 av=> ?_⟩;have ag:=Q.IO (by simp) b7 av;generalize hz:({y with at_:=y.at_.set v.toNat ((y.l.length:Nat):Int)}:HS)=z at ag;have zl:z.l=y.l:=by rw [<- hz]
   have zs:z.score=x.score:=by rw [<- hz];exact ys
   have zt:z.step=x.step:=by rw [<- hz];exact yt
   have Y:z.l.length=x.l.length+1:=by rw [zl,aw]
   have za:g z.at_=fun u=>if u=v then (x.l.length:Int)+1 else g x.at_ u:=by
    rw [<- hz];show g (y.at_.set v.toNat ((y.l.length:Nat):Int))=_;rw [wT v0 (by rw [ya];omega),ya,aw];funext u;split<;>omega
   have zL:g z.l=fun j:Int=>if j=x.l.length then v else g x.l j:=by rw [zl,yl,IW]
   have az:z.at_.length=x.at_.length:=by rw [<- hz];simp [ya]
   have zf:z.bI b=y.bI b:=by rw [<- hz];rfl
   have b6:aE (x.bI b) w bx:=b5.drew.then av fun k I e=> (yf k (.inr (.inr (.inl e)))).resolve_right (by omega);have b_:pQ z N:=by
    refine ⟨by rw [az];exact b3,by rw [zs];exact bY,hN,?_,by rw [Y];omega⟩;rw [zL,za,Y];exact pp
   refine ⟨_,rfl,_,_,_,ad ag.me rfl,?_⟩;have ei:i64.wrap ((z.l.length:Int) - 1)=(x.l.length:Int):=by rw [Y,aB (by omega) (by omega)];omega
   rw [ei];refine (CT ag b_ (x.l.length:Int) (by omega) (by rw [Y];omega) ?_).mono ?_
   . rw [zs,zL,Y];constructor
     . intro j j1 j2 j3;have:=V.LZ j j1 (by omega) (by omega) (by omega);simp only [j3,if_false,show ¬(j - 1) / 2=(x.l.length:Int) by omega];exact this
     . intro j j1 j2 j3 j4;omega
   . rintro e dc ⟨rfl,q,hq,b8,U,oq,mq⟩;refine ⟨rfl,rfl,q,hq,⟨b8,ay,by rw [U.score];exact oq,fun u u0 u1=>by rw [U.score,zs];exact V.sc u u0 u1,by rw [U.step,zt];exact V.st⟩,?_,?_,?_⟩
     . refine ⟨by rw [U.pa,<- hz,<- Z],by rw [U.ca,<- hz,<- Z],by rw [U.ps,<- hz,<- Z],by rw [U.cs,<- hz,<- Z],by rw [U.a,az],by rw [U.score,zs],by rw [U.step,zt],fun u u0 u1=> ?_⟩;rw [U.has u u0 u1,za];by_cases e:u=v
       . simp [e]
       . simp [e]
     . exact b6.then mq fun k I e=> (yf k (zf▸e)).resolve_right (by omega)
     . intro k I;rw [U.bI b,zf] at I;exact yf k I
 . have tt:g x.at_ v≠0:=beq_eq_false_iff_ne.1 tt;refine ⟨rfl,x,h,V,⟨rfl,rfl,rfl,rfl,rfl,rfl,rfl,fun u u0 u1=> ⟨.inl,?_⟩⟩,g1.mono fun _ _ h=>h.elim,fun _=> .inl⟩;rintro (h|rfl)
   . exact h
   . omega
structure Nk (N v:Int) (x y:HS):Prop where
 pa:y.pa=x.pa
 ca:y.ca=x.ca
 ps:y.ps=x.ps
 cs:y.cs=x.cs
 a:y.at_.length=x.at_.length
 score:y.score=x.score
 step:y.step=x.step
 has: ∀u,1<=u->u<=N->(0<g y.at_ u↔0<g x.at_ u/\u≠v)
theorem JX {w:World} {b:Nat} {x:HS} (h:co w b x) (J:x.l.length=0):Calls prog dg.id #[ptr b] w fun e w'=>
 e= .returned (.tuple #[.int .i64 0,.bool false])/\co w' b x/\aq w w':=by
 refine dg.ah ?_;refine (Ck h (by omega)).mono ?_;rintro e w1 ⟨rfl,I⟩;exact ⟨_,_,rfl,cj (by simp [J]) ⟨rfl,h.grow I,I⟩⟩
theorem Ki {l:List Int} {k:Nat} {j:Int} (h:j<k):g (l.take k) j=g l j:=by
 unfold g;simp only [List.getD_eq_getElem?_getD];split
 . rfl
 . rw [List.getElem?_take,if_pos (by omega)]
theorem u9.congr {L A L' O:Int->Int} {n N:Int} (h:u9 L A n N) (J: ∀j,0<=j->j<n->L' j=L j) (I: ∀u,1<=u->u<=N->O u=A u):u9 L' O n N:=by
 constructor
 . intro j Q U;have f:=h.sB j Q U;rw [J j Q U,I _ f.1 f.2.1];exact f
 . intro v v1 v2;have f:=h.bC v v1 v2;rw [I v v1 v2];exact ⟨f.1,f.2.1,fun hp=>by rw [J _ (by omega) (by omega)];exact f.2.2 hp⟩
theorem Kg {w:World} {b:Nat} {x:HS} {N:Int} (h:co w b x) (J:lw x N) (h0:x.l.length≠0):Calls prog dg.id #[ptr b] w fun e w'=>
 e= .returned (.tuple #[.int .i64 (g x.l 0),.bool true])/\∃z,co w' b z/\lw z N/\Nk N (g x.l 0) x z/\z.l.length+1=x.l.length/\aE (x.bI b) w w'/\z.bI b=x.bI b:=by
 refine dg.ah ?_;have hN:=J.ok.BC;have a_:=J.ok.na;have aT:=J.ok.ns;have dk:=J.ok.nl;have a7:=J.n0;obtain ⟨n,hn⟩: ∃n,x.l.length=n+1:=⟨x.l.length - 1,by omega⟩
 refine (Ck h (by omega)).mono ?_;rintro e w1 ⟨rfl,g1⟩;have h:=h.grow g1;refine ⟨_,_,rfl,?_⟩;rw [if_neg h0,decide_eq_true h0];have f0:=J.ok.pos.sB 0 (Int.le_refl _) (by omega);have fn:=J.ok.pos.sB n (by omega) (by omega);have en:i64.wrap ((x.l.length:Int) - 1)=(n:Int):=by rw [aB (by omega) (by omega)];omega
 refine bm rfl ⟨_,rfl,_,_,_,ad h.me rfl,?_⟩;rw [en];refine ⟨_,rfl,_,_,_,ad h.me rfl,h.hl.ix 0 (by omega) rfl (by omega) fun a8 e8=> ⟨_,e8,_,rfl,_,_,_,ad h.me rfl,?_⟩⟩;rw [kX (by omega)];have hc:n<=x.cl:=by
  rcases h.hl.un with ⟨_,_,e⟩| ⟨_,_,_,_,e,_⟩
  . simp [e] at h0
  . omega
 refine gD 0 n x.cl rfl rfl rfl (Nat.le_refl _) hc (Nat.zero_le _) ?_;have ep:(if x.cl=0 then x.pl else x.pl.map (·.add (0*1)))=x.pl:=by
  split
  . rfl
  . cases x.pl<;>simp [Addr.add]
 rw [ep,Nat.sub_zero,Nat.sub_zero];refine ⟨_,rfl,bZ h.me rfl rfl fun ar o m=> ?_⟩;generalize V:({x with l:=x.l.take n}:HS)=y;have ap:co ar b y:=by
  rw [<- V];have ht:=h.hl.take (k:=n) (by omega);refine ⟨?_,ht.keep m fun k Y e=>h.bl (e▸Y),h.ha.keep m fun k Y e=>h.ba (e▸Y),h.hs.keep m fun k Y e=>h.bs (e▸Y),h.bl,h.ba,h.bs,h.la,h.ls,h.sa⟩;have e:(x.l.take n).length=n:=by simp;omega
  show bF ar b #[.slice x.pl (x.l.take n).length x.cl,_,_,_];rw [e];exact o
 have b9:aE (x.bI b) w ar:=(g1.mono fun _ _ h=>h.elim).trans (m.mono fun k _ Y=> .inl Y);have yl:y.l=x.l.take n:=by rw [<- V]
 have b7:y.l.length=n:=by rw [yl];simp;omega
 have ya:y.at_=x.at_:=by rw [<- V]
 have yf:y.bI b=x.bI b:=by rw [<- V];rfl
 refine ⟨_,rfl,_,_,_,ad ap.me rfl,ap.ha.st 0 rfl rfl (by omega) rfl (by rw [ya];omega) fun cc b4 ax=> ?_⟩;have rN:=ap.IO (by simp) b4 ax;generalize X:({y with at_:=y.at_.set (g x.l 0).toNat 0}:HS)=z at rN;have zl:z.l=y.l:=by rw [<- X]
 have I:z.l.length=n:=by rw [zl,b7]
 have zs:z.score=x.score:=by rw [<- X,<- V]
 have zt:z.step=x.step:=by rw [<- X,<- V]
 have zf:z.bI b=x.bI b:=by rw [<- yf,<- X];rfl
 have O:z.at_.length=x.at_.length:=by rw [<- X];simp [ya]
 have za:g z.at_=fun u=>if u=g x.l 0 then 0 else g x.at_ u:=by
  rw [<- X];show g (y.at_.set (g x.l 0).toNat 0)=_;rw [wT (by omega) (by rw [ya];omega),ya]
 have ay:aE (x.bI b) w cc:=b9.trans (ax.mono fun k _ Y=>by rw [<- yf];exact .inr (.inr (.inl Y)));have pp:=u9.MN (n:=(n:Int)) (by have:=J.ok.pos;rw [hn] at this;exact this) (by omega) rfl;have bv:z.pa=x.pa:=by rw [<- X,<- V]
 have az:z.ca=x.ca:=by rw [<- X,<- V]
 have bb:z.ps=x.ps:=by rw [<- X,<- V]
 have a6:z.cs=x.cs:=by rw [<- X,<- V]
 refine ao (fun t=> ?_) (fun t=> ?_)<;>simp only [decide_eq_true_eq,decide_eq_false_iff_not] at t
 . have n0:(n:Int)≠0:=by omega
   refine (nU rN 0 (g x.l n) (Int.le_refl _) (by rw [I];omega) (by omega) (by rw [O];omega) (by rw [I];omega)).mono ?_;rintro e dp ⟨rfl,b',b8⟩;have aw:g (z.put 0 (g x.l n)).l=fun j=>if j=0 then g x.l n else g z.l j:=kR (Int.le_refl _) (by rw [I];omega)
   have ac:g (z.put 0 (g x.l n)).at_=fun u=>if u=g x.l n then 0+1 else g z.at_ u:=zI (by omega) (by rw [O];omega)
   have Q: ∀j:Int,0<=j->j<n->g (z.put 0 (g x.l n)).l j=if j=0 then g x.l n else g x.l j:=by
    intro j j0 j1;rw [aw];show (if j=0 then g x.l n else g z.l j)=_;split
    . rfl
    . rw [zl,yl,Ki (by omega)]
   have a':pQ (z.put 0 (g x.l n)) N:=by
    refine ⟨by simpa [HS.put,O] using a_,by show (z.score.length:Int)=_;rw [zs];exact aT,hN,?_,by simp [HS.put,I];omega⟩;have e1:((z.put 0 (g x.l n)).l.length:Int)=n:=by simp [HS.put,I]
    rw [e1];refine u9.congr pp Q fun u u0 u1=> ?_;rw [ac,za];simp only [if_neg n0];rfl
   refine ⟨rfl,?_⟩;have e1:(z.put 0 (g x.l n)).l.length=n:=by simp [HS.put,I]
   refine (wX b' a' 0 (Int.le_refl _) (by rw [e1];omega) 0 (Int.le_refl _) ⟨?_,fun j j1 j2 j3 j4=>by omega⟩).mono ?_
   . rw [e1];show Ord (g z.score) _ _ _ _;rw [zs];intro j j1 j2 j3 j4;rw [Q j (by omega) j2,Q ((j - 1) / 2) (by omega) (by omega),if_neg (by omega),if_neg j4];exact J.LZ j j1 (by omega) (by omega) (by omega)
   . rintro e c3 ⟨rfl,q,hq,b_,U,oq,mq⟩;have qs:q.score=x.score:=U.score.trans zs;have pf:(z.put 0 (g x.l n)).bI b=x.bI b:=zf;refine ⟨rfl,rfl,q,hq,⟨b_,a7,?_,fun u u0 u1=>by rw [qs];exact J.sc u u0 u1,by rw [show q.step=x.step from U.step.trans zt];exact J.st⟩,?_,?_,?_,?_⟩
     . rw [qs,<- zs];exact oq
     . refine ⟨U.pa.trans bv,U.ca.trans az,U.ps.trans bb,U.cs.trans a6,U.a.trans (by simp [HS.put,O]),qs,U.step.trans zt,fun u u0 u1=> ?_⟩;rw [U.has u u0 u1,ac,za];have Z:g x.l n≠g x.l 0:=fun e=>by have:=J.ok.pos.inj (by omega) (by omega) (Int.le_refl 0) (by omega) e;omega
       by_cases e1:u=g x.l n
       . subst e1;simp [Z];omega
       . by_cases e2:u=g x.l 0
         . simp [e2,Ne.symm Z]
         . simp [e1,e2]
     . have:=U.l;omega
     . exact (ay.trans (zf▸b8)).trans (pf▸mq)
     . rw [U.bI b,pf]
 . have n0:n=0:=by omega
   subst n0;refine ⟨rfl,z,rN,⟨⟨by rw [O];exact a_,by rw [zs];exact aT,hN,?_,by rw [I];omega⟩,a7,?_,fun u u0 u1=>by rw [zs];exact J.sc u u0 u1,by rw [zt];exact J.st⟩,⟨bv,az,bb,a6,O,zs,zt,fun u u0 u1=> ?_⟩,by rw [I,hn],ay,zf⟩
   . rw [I];refine u9.congr pp (fun j j0 j1=>by omega) fun u u0 u1=> ?_;rw [za];show (if u=g x.l 0 then 0 else g x.at_ u)=if u=g x.l ((0:Nat):Int) then (if ((0:Nat):Int)=0 then 0 else 1) else if u=g x.l 0 then 0 else g x.at_ u
     split
     . subst_vars;simp
     . rename_i Z;rw [if_neg (by simpa using Z)]
   . rw [I];intro j j1 j2;omega
   . rw [za];by_cases e:u=g x.l 0
     . simp [e]
     . simp [e]
end
section
theorem ip:(Tryz.prog.info? aC).bind (·.zero)=some (.int .i64 0):=by kernel_rfl
theorem yQ (n:Nat) (v:Int):g (List.replicate n 0) v=0:=by
 unfold g;split
 . rfl
 . simp only [List.getD_eq_getElem?_getD,List.getElem?_replicate];split<;>rfl
structure tu (x:HS) (n t:Nat):Prop where
 l:x.l.length=t
 lj: ∀j:Int,0<=j->j<t->g x.l j=j+1
 a:x.at_.length=n+1
 au: ∀u:Int,0<=u->u<=n->g x.at_ u=if u<=t then u else 0
 s:x.score=List.replicate (n+1) 0
 st:x.step=64
theorem tu.Mj {x:HS} {n:Nat} (h:tu x n n) (hn:n<=1048576):lw x n:=by
 have hl:=h.l;refine ⟨⟨by rw [h.a];omega,by rw [h.s];simp,by omega,⟨fun j I J=> ?_,fun v v1 v2=> ?_⟩,by rw [hl];omega⟩,by omega,fun j J U O Q=> ?_,fun v _ _=> ?_,by rw [h.st];decide⟩
 . have:=h.lj j I (by omega);rw [this,h.au _ (by omega) (by omega)];refine ⟨by omega,by omega,?_⟩;rw [if_pos (by omega)]
 . rw [h.au v (by omega) v2,if_pos v2];refine ⟨by omega,by omega,fun _=> ?_⟩;rw [h.lj _ (by omega) (by omega)];omega
 . rw [h.lj j (by omega) (by omega),h.lj _ (by omega) (by omega),h.s];unfold Bt;rw [yQ,yQ];omega
 . rw [h.s,yQ];decide
theorem yb {w:World} (n:Nat) (hn:n<=1048576):Calls prog lU.id #[.int .i64 n] w fun e w'=> ∃b x,e= .returned (.tuple #[ptr b,.int .i64 0])/\co w' b x/\tu x n n/\(∀k,x.bI b k->w.heap.size<=k)/\aq w w':=by
 refine lU.ah ?_;refine bm (decide_eq_false (by omega)) (bm (decide_eq_false (by omega)) ?_);have e1:i64.wrap ((n:Int)+1)=((n+1:Nat):Int):=by rw [aB (by omega) (by omega)];omega
 rw [e1];have made: ∀ (b:Nat) (x:HS) (w6:World),co w6 b x->tu x n 0->(∀k,x.bI b k->w.heap.size<=k)->aq w w6->
  ∃I7:Int->World->Nat->Prop,(∃k8,I7 1 w6 k8)/\
   ∀ (J:Int) (Q:World) (k8:Nat) (_:Fr),I7 J Q k8->
   aH (decide (J<=(n:Int)))
    (∃bk,(some (Addr.mk b 0 none))=some bk/\∃ar av Z,Q.cell? (bk.add 0)=some (.slice ar av Z)/\
      ∀n14 a_,bc (.cells #[.int .i64 J] aC) Q n14 a_->
      ∃a7 ag aa an,(Builtin.append_ #[aJ,aJ] aJ #[.slice ar av Z,.slice (some (Addr.mk n14 0 none)) 1 1]).run prog a_= .ok (.slice ag aa an) a7/\
      ∃bx,(some (Addr.mk b 0 none))=some bx/\∃ay,af (bx.add 0) 0 [.slice ag aa an] a7 ay/\
      ∃a',(some (Addr.mk b 0 none))=some a'/\∃ac ap b5,ay.cell? (a'.add 1)=some (.slice ac ap b5)/\
      aV ac ap J 1 fun a22=>
      ∃bv,af a22 0 [.int .i64 J] ay bv/\
      ∃k9,k9<k8/\I7 (i64.wrap (J+ (1:Int))) bv k9)
    (∃b' x,Ending.returned (.tuple #[.pointer (some (Addr.mk b 0 none)),.int .i64 0])= .returned (.tuple #[ptr b',.int .i64 0])/\co Q b' x/\tu x n n/\(∀k,x.bI b' k->w.heap.size<=k)/\aq w Q):=by
  intro b x w6 h f hf G;refine ⟨fun v w' k=> ∃ (t:Nat) (y:HS),v=t+1/\t<=n/\co w' b y/\tu y n t/\(∀k,y.bI b k->w.heap.size<=k)/\aq w w'/\k+t=n,⟨n,0,x,by omega,by omega,h,f,hf,G,by omega⟩,?_⟩;clear h f hf G;rintro v Q k _ ⟨t,x,rfl,ht,h,f,hf,G,I⟩;refine ao (fun tt=> ?_) (fun tt=> ?_)<;>simp only [decide_eq_true_eq,decide_eq_false_iff_not] at tt
  . refine ⟨_,rfl,_,_,_,ad h.me rfl,?_⟩;intro n9 bb ax;have U:=h.grow ax.mod;have b4:aq w bb:=G.trans ax.mod;have hl:=f.l;refine U.hl.kZ dN ((t:Int)+1) ax.has rfl rfl fH (by omega) fun Q p' c' o m hp dT=> ?_;have X:=U.lt;have S: ∀k,aI p'=some k->aI x.pl=some k\/bb.heap.size<=k:=by
     intro k I;rcases hp with rfl|rfl
     . exact .inl I
     . right;simp [aI] at I;omega
    have S2: ∀k,aI p'=some k->w.heap.size<=k:=fun k I=> (S k I).elim (fun e=>hf k (.inr (.inl e))) (fun e=>Nat.le_trans b4.size e);have m1:=U.me.keep m U.bl;refine ⟨_,rfl,bZ m1 rfl rfl fun aT ce Y=> ?_⟩;have pb:aI p'≠some b:=fun e=>by
     rcases S b e with e2|e2
     . exact U.bl e2
     . have:=X b (.inl rfl);omega
    have az:co aT b {x with l:=x.l++ [(t:Int)+1],pl:=p',cl:=c'}:=by
     refine ⟨?_,o.keep Y fun k I e=>pb (e▸I),(U.ha.keep m fun k I O=>U.la k O I).keep Y fun k I e=>U.ba (e▸I),(U.hs.keep m fun k I O=>U.ls k O I).keep Y fun k I e=>U.bs (e▸I),pb,U.ba,U.bs,?_,?_,U.sa⟩
     . have e:(x.l++ [(t:Int)+1]).length=x.l.length+1:=by simp
       show bF aT b #[.slice p' (x.l++ [(t:Int)+1]).length c',_,_,_];rw [e];exact ce
     . intro k I O;rcases S k I with e|e
       . exact U.la k e O
       . have:=X k (.inr (.inr (.inl O)));omega
     . intro k I O;rcases S k I with e|e
       . exact U.ls k e O
       . have:=X k (.inr (.inr (.inr O)));omega
    have b7:aq w Q:=b4.then m fun k I e=>by have:=hf k (.inr (.inl e));omega
    have cm:aq w aT:=b7.then Y fun k I e=>by have:=hf b (.inl rfl);omega
    refine ⟨_,rfl,_,_,_,ad az.me rfl,az.ha.st ((t:Int)+1) rfl rfl (by omega) rfl (by have:=f.a;show (t:Int)+1< (x.at_.length:Int);omega) fun dp cp a6=> ?_⟩;have cc:=az.IO (by simp) cp a6;refine ⟨k - 1,by omega,t+1,_,?_,by omega,cc,?_,?_,?_,by omega⟩
    . rw [aB (by omega) (by omega)];omega
    . refine ⟨by simp [hl],fun j j0 j1=> ?_,by simpa using f.a,fun u u0 u1=> ?_,f.s,f.st⟩
      . show g (x.l++ [(t:Int)+1]) j=j+1;rw [IW];show (if j=(x.l.length:Int) then (t:Int)+1 else g x.l j)=j+1;split
        . omega
        . exact f.lj j j0 (by omega)
      . show g (x.at_.set ((t:Int)+1).toNat ((t:Int)+1)) u=_;rw [wT (by omega) (by have:=f.a;omega)];show (if u=(t:Int)+1 then (t:Int)+1 else g x.at_ u)=_;rw [f.au u u0 u1];split
        . rw [if_pos (by omega)];omega
        . split
          . rw [if_pos (by omega)]
          . rw [if_neg (by omega)]
    . rintro k (e|e|e|e)
      . exact hf k (.inl e)
      . exact S2 k e
      . exact hf k (.inr (.inr (.inl e)))
      . exact hf k (.inr (.inr (.inr e)))
    . exact cm.then a6 fun k I e=>by have:=hf k (.inr (.inr (.inl e)));omega
  . have:t=n:=by omega
    subst this;exact ⟨b,x,rfl,h,f,hf,G⟩
 have G0:aq w w.drew:=(aE.refl w).drew;have s0:w.drew.heap.size=w.heap.size:=rfl;refine ⟨?_,?_⟩<;>refine nW dN ip (f:=Value.int .i64) (x:=0) rfl (n+1) rfl (by omega) fun w1 o1 g1 z1=>nW dN ip (f:=Value.int .i64) (x:=0) rfl (n+1) rfl (by omega) fun w3 o3 g3 z3=> ?_<;>intro n5 w6 V<;>have b3:=(o1.grow g3).grow V.mod<;>have bY:=o3.grow V.mod<;>have c2:=V.num
 . refine made n5 ⟨none,0,some ⟨w.heap.size,0,none⟩,n+1,some ⟨w1.heap.size,0,none⟩,n+1,[],List.replicate (n+1) 0,List.replicate (n+1) 0,64⟩ w6 ⟨?_,Ow.nil _ _ _,b3,bY,?_,?_,?_,?_,?_,?_⟩ ⟨rfl,fun j j0 j1=>by omega,by simp,fun u u0 u1=> ?_,rfl,rfl⟩ ?_ (((G0.trans g1).trans g3).trans V.mod)
   . have:=V.has;simpa using this
   . simp [aI]
   . simp [aI];omega
   . simp [aI];omega
   . simp [aI]
   . simp [aI]
   . simp [aI];omega
   . rw [yQ];split<;>omega
   . rintro k (e|e|e|e)<;> (try simp [aI] at e)<;>omega
 . refine made n5 ⟨none,0,some ⟨w1.heap.size,0,none⟩,n+1,some ⟨w.heap.size,0,none⟩,n+1,[],List.replicate (n+1) 0,List.replicate (n+1) 0,64⟩ w6 ⟨?_,Ow.nil _ _ _,bY,b3,?_,?_,?_,?_,?_,?_⟩ ⟨rfl,fun j j0 j1=>by omega,by simp,fun u u0 u1=> ?_,rfl,rfl⟩ ?_ (((G0.trans g1).trans g3).trans V.mod)
   . have:=V.has;simpa using this
   . simp [aI]
   . simp [aI];omega
   . simp [aI];omega
   . simp [aI]
   . simp [aI]
   . simp [aI];omega
   . rw [yQ];split<;>omega
   . rintro k (e|e|e|e)<;> (try simp [aI] at e)<;>omega
end
end Go.Proofs.YtenmibfmhccmiaaGreat.W.Hp
