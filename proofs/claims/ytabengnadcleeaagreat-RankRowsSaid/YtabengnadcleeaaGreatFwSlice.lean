/- Slices that one has made: rows of one-cell elements. -/
import Derived.Test.YtabengnadcleeaaGreatFwMem
import Derived.Laws.AppendOwn
import Derived.Laws.OwnMore
namespace Go.Fw
open Go Go.RowKit
variable {P:Program} {α:Type} {f:α→Value} {T:TypeId} {w w':World} {p:Option Addr} {c:Nat} {l:List α}
def Ow (f:α→Value) (T:TypeId) (w:World) (p:Option Addr) (c:Nat) (l:List α):Prop:=w.ownsRow 0 T 1 (.slice p l.length c) l.length (l.map f)
abbrev OwI:=Ow (Value.int .i64)
abbrev OwB:=Ow Value.bool
def blk (p:Option Addr):Option Nat:=p.map (·.block)
theorem Ow.nil (f:α→Value) (T:TypeId) (w:World):Ow f T w none 0 []:=World.ownsRow_nil w 0 T 1
theorem Ow.cap (h:Ow f T w p c l):l.length≤maxLen:=by
 rcases h.2 with ⟨_,h⟩| ⟨g,cap,cur,h,_,_,h1,h2,_⟩
 · rw [h];exact Nat.zero_le _
 · omega
theorem Ow.un (h:Ow f T w p c l):(p=none∧c=0∧l= [])∨∃g cur,p=some ⟨g,0,none⟩∧w.heap[g]? =some (.cells cur T (0,0))∧l.length≤c∧c≤maxLen∧cur.size=c∧cur.toList.take l.length=l.map f:=by
 rcases h.2 with ⟨h1,h2⟩| ⟨g,cap,cur,h1,_,h2,h3,h4,h5,h6⟩
 · simp only [Value.slice.injEq] at h1
   exact .inl ⟨h1.1,h1.2.2,List.eq_nil_of_length_eq_zero h2⟩
 · simp only [Value.slice.injEq] at h1
   obtain ⟨rfl,_,rfl⟩:=h1
   exact .inr ⟨g,cur,rfl,h2,h3,h4,by simpa using h5,by simpa using h6⟩
theorem Ow.of_some {g:Nat} {cur:Array Value} (hg:w.heap[g]? =some (.cells cur T (0,0))) (h1:l.length≤c) (h2:c≤maxLen) (h3:cur.size=c) (h4:cur.toList.take l.length=l.map f):Ow f T w (some ⟨g,0,none⟩) c l:=
 ⟨by simp,.inr ⟨g,c,cur,rfl,Nat.zero_le _,hg,h1,h2,by simpa using h3,by simpa using h4⟩⟩
theorem Ow.lt (h:Ow f T w p c l): ∀b,blk p=some b→b<w.heap.size:=by
 intro b hb
 rcases h.un with ⟨rfl,_⟩| ⟨g,cur,rfl,hg,_⟩
 · simp [blk] at hb
 · simp [blk] at hb
   subst hb
   rcases Nat.lt_or_ge g w.heap.size with h'|h'
   · exact h'
   · simp [Array.getElem?_eq_none h'] at hg
theorem Ow.keep {S:Nat→Prop} (h:Ow f T w p c l) (m:Mod S w w') (hs: ∀b,blk p=some b→¬S b):Ow f T w' p c l:=by
 have hl:=h.lt
 rcases h.un with ⟨rfl,rfl,rfl⟩| ⟨g,cur,rfl,hg,h1,h2,h3,h4⟩
 · exact Ow.nil f T w'
 · exact Ow.of_some ((m.block g (hl g rfl) (hs g rfl)).trans hg) h1 h2 h3 h4
theorem Ow.grow (h:Ow f T w p c l) (m:Grow w w'):Ow f T w' p c l:=h.keep m fun _ _=>id
theorem Ow.drew (h:Ow f T w p c l):Ow f T w.drew p c l:=h
theorem Ow.cell (h:Ow f T w p c l) {j:Nat} (hj:j<l.length): ∃g,p=some ⟨g,0,none⟩∧w.cell? ⟨g,j,none⟩=some (f l[j]):=by
 rcases h.un with ⟨_,_,rfl⟩| ⟨g,cur,rfl,hg,h1,h2,h3,h4⟩
 · simp at hj
 · refine ⟨g,rfl,cell_of ⟨T,hg⟩ ?_⟩
   have:(cur.toList.take l.length)[j]? =some (f l[j]):=by rw [h4];simp [hj]
   rw [List.getElem?_take,if_pos hj] at this
   simpa using this
theorem Ow.ix (h:Ow f T w p c l) {i:Int} {n:Nat} (d:α) (h0:0≤i) (hn:n=l.length) (h1:i<n) {K:Addr→Prop} (hk: ∀a,w.cell? a=some (f (l.getD i.toNat d))→K a):ixK p n i 1 K:=by
 subst hn
 obtain ⟨g,rfl,hc⟩:=h.cell (j:=i.toNat) (by omega)
 refine ⟨_,rfl,h0,h1,hk _ ?_⟩
 rw [Nat.mul_one,add_at,Nat.zero_add,hc]
 simp [List.getD,show i.toNat<l.length by omega]
theorem map_set (f:α→Value): ∀ (l:List α) (j:Nat) (x:α),(l.set j x).map f=(l.map f).set j (f x)
 | [],_,_=>rfl
 |_::_,0,_=>rfl
 |y::l,j+1,x=>by simp [map_set f l j x]
theorem Ow.st (h:Ow f T w p c l) {i:Int} {n:Nat} {v:Value} (x:α) (hv:v=f x) (ho:oneCell v=true) (h0:0≤i) (hn:n=l.length) (h1:i<n) {K:World→Prop}
 (hk: ∀w',Ow f T w' p c (l.set i.toNat x)→Mod (fun b=>blk p=some b) w w'→K w'):ixK p n i 1 fun a=> ∃w',StoreAt a 0 [v] w w'∧K w':=by
 subst hn hv
 rcases h.un with ⟨_,_,rfl⟩| ⟨g,cur,rfl,hg,h2,h3,h4,h5⟩
 · simp at h1;omega
 · refine ⟨_,rfl,h0,h1,?_⟩
   rw [Nat.mul_one,add_at,Nat.zero_add]
   have hj:i.toNat<cur.size:=by omega
   refine ⟨w.setCell ⟨g,i.toNat,none⟩ (f x),⟨⟨cur[i.toNat],cell_add ⟨T,hg⟩ (by simp [hj])⟩,by rw [add_at];exact frozen_of ⟨T,hg⟩,ho,by rw [add_at];rfl⟩,hk _ ?_ ?_⟩
   · refine Ow.of_some (cur:=cur.setIfInBounds i.toNat (f x)) (set_heap hg _ hj) (by simpa using h2) h3 (by simpa using h4) ?_
     rw [map_set,← h5,Array.toList_setIfInBounds,List.length_set,List.take_set]
   · exact ⟨rfl,rfl,rfl,by simp,fun k _ hk=>Below.heap_setCell w _ _ k fun e=>hk (by simp [blk,e])⟩
def slOk (P:Program) (t e:TypeId) (bytes:Nat):Bool:=
 (match P.underlying t with|some (.slice e')=>Nat.beq e' e|_=>false) && (match P.info? e with|some i=>Nat.beq i.size 1 && Nat.beq i.bytes bytes && (match i.zero with|some z=>Nat.beq z.cells.size 1|none=>false)|none=>false)
theorem slOk_spec {t e bytes:Nat} (h:slOk P t e bytes=true):P.underlying t=some (.slice e)∧∃i z,P.info? e=some i∧i.zero=some z∧i.size=1∧i.bytes=bytes∧z.cells.size=1:=by
 simp only [slOk,Bool.and_eq_true] at h
 obtain ⟨h1,h2⟩:=h
 split at h1
 · rename_i e' he
   have:e'=e:=Nat.eq_of_beq_eq_true h1
   subst this
   split at h2
   · rename_i i hi
     simp only [Bool.and_eq_true] at h2
     obtain ⟨⟨h3,h4⟩,h5⟩:=h2
     split at h5
     · rename_i z hz
       exact ⟨he,i,z,hi,hz,Nat.eq_of_beq_eq_true h3,Nat.eq_of_beq_eq_true h4,Nat.eq_of_beq_eq_true h5⟩
     · simp at h5
   · simp at h2
 · simp at h1
theorem Ow.cells (h:Ow f T w p c l) {g:Nat} (hp:p=some ⟨g,0,none⟩): ∀j u,(l.map f)[j]? =some u→w.cell? ((⟨g,0,none⟩:Addr).add j)=some u:=by
 intro j u hj
 subst hp
 have hl:j<l.length:=by have:=(List.getElem?_eq_some_iff.1 hj).1;simpa using this
 obtain ⟨g',hg,hc⟩:=h.cell hl
 simp only [Option.some.injEq,Addr.mk.injEq,and_true] at hg
 subst hg
 rw [add_at,Nat.zero_add,hc]
 simpa [hl] using hj
theorem Ow.app {t ty e bytes:Nat} (hs:slOk P t e bytes=true) (h:Ow f e w p c l) {a:Addr} {m k n:Nat} (hn:n=l.length) (news:List α) (hm:news.length=m) (hpos:0<m) (hc: ∀j (hj:j<news.length),w.cell? (a.add j)=some (f news[j])) (ho: ∀x,(f x).oneCell'=true)
 (hlen:(l.length+m)* (bytes+1)≤140737488355328) {K:World→Option Addr→Nat→Nat→Prop}
 (hk: ∀w' p' c',Ow f e w' p' c' (l++news)→Mod (fun b=>blk p=some b) w w'→(p'=p∨p'=some ⟨w.heap.size,0,none⟩)→w.heap.size≤w'.heap.size→K w' p' (l++news).length c'):
 ∃w',∃p' n' c',(Builtin.append_ #[t,t] ty #[.slice p n c,.slice (some a) m k]).run P w= .ok (.slice p' n' c') w'∧K w' p' n' c':=by
 obtain ⟨ht,i,z,hi,hz,h1,h2,h3⟩:=slOk_spec hs
 subst hn hm
 have hb:(l.length+news.length)*bytes≤140737488355328:=Nat.le_trans (Nat.mul_le_mul_left _ (Nat.le_succ _)) hlen
 have hb2:l.length+news.length≤140737488355328:=Nat.le_trans (Nat.le_mul_of_pos_right _ (Nat.succ_pos _)) hlen
 have hll:(l++news).length=l.length+news.length:=by simp
 have hns:(news.map f).length=news.length*i.size:=by simp [h1]
 have hnc: ∀j u,(news.map f)[j]? =some u→w.cell? (a.add j)=some u:=by
  intro j u hj
  have hj':j<news.length:=by have:=(List.getElem?_eq_some_iff.1 hj).1;simpa using this
  rw [hc j hj']
  simpa [hj'] using hj
 have fresh: ∀old,old<l.length+news.length→Ow f e (w.drew.alloc (.cells ((l.map f).toArray++ (news.map f).toArray++Builtin.zeroCells z.cells (grownCap w (l.length+news.length) old e - (l.length+news.length))) e))
  (some ⟨w.heap.size,0,none⟩) (grownCap w (l.length+news.length) old e) (l++news):=by
  intro old _
  have hge:=grownCap_ge w (l.length+news.length) old e
  have hle:grownCap w (l.length+news.length) old e≤maxLen:=grownCap_le_maxLen w _ old e (by simp only [maxLen];omega)
  refine Ow.of_some (cur:=(l.map f).toArray++ (news.map f).toArray++Builtin.zeroCells z.cells (grownCap w (l.length+news.length) old e - (l.length+news.length))) ?_ (by omega) hle ?_ ?_
  · exact Array.getElem?_push_size
  · simp only [Array.size_append,List.size_toArray,List.length_map,size_zeroCells,h3]
    omega
  · simp only [Array.toList_append,List.map_append]
    rw [List.take_append_of_le_length (by simp),List.take_of_length_le (by simp)]
 have gr: ∀ (o:Obj),Mod (fun b=>blk p=some b) w (w.drew.alloc o):=fun o=> ⟨rfl,rfl,rfl,by simp,fun k hk _=>Below.heap_alloc w.drew o k hk⟩
 rcases h.un with ⟨rfl,rfl,rfl⟩| ⟨g,cur,rfl,hg,g1,g2,g3,g4⟩
 · have hr:=run_append_nil (P:=P) w t ty e i z ht hi hz a news.length k (news.map f) hns hnc hpos (by simp at hb2;omega) (by rw [h2];simp at hb;omega)
   have hf:=fresh 0 (by simp;omega)
   simp only [List.length_nil,Nat.zero_add,List.map_nil,List.nil_append] at hf hr hll hk ⊢
   refine ⟨_,_,_,_,hr,?_⟩
   refine hk _ _ _ (by simpa using hf) (gr _) (.inr rfl) (by simp)
 · by_cases hroom:l.length+news.length≤c
   · have hr:=run_append_room (P:=P) w t ty e i ht hi g l.length c cur hg a news.length k (news.map f) hns hnc (fun u hu=>by obtain ⟨x,_,rfl⟩:=List.mem_map.1 hu;exact ho x) hroom (by simp [h1];omega)
     refine ⟨_,_,_,_,hr,?_⟩
     rw [← hll]
     refine hk _ _ _ (Ow.of_some (setRow_heap w g cur _ e _ hg) (by omega) g2 ?_ ?_) ⟨rfl,rfl,rfl,by simp,fun k _ hk=>setRow_other w g k _ fun he=>hk (by simp [blk,he])⟩ (.inl rfl) (by simp)
     · simp [h1];omega
     · simp only [h1,Nat.mul_one]
       rw [hll,List.map_append,List.take_append_of_le_length (by simp;omega),List.take_of_length_le (by simp;omega),g4]
   · have hr:=run_append_grow (P:=P) w t ty e i z ht hi hz ⟨g,0,none⟩ l.length c (l.map f) (by simp [h1]) (h.cells rfl) a news.length k (news.map f) hns hnc (by omega) (by omega) (growslice_fits (by omega) (by rw [h2];exact hb))
     refine ⟨_,_,_,_,hr,?_⟩
     rw [← hll]
     exact hk _ _ _ (by rw [hll];exact fresh c (by omega)) (gr _) (.inr rfl) (by simp)
theorem Ow.app0 {t ty e bytes:Nat} (hs:slOk P t e bytes=true) (h:Ow f e w p c l) {q:Option Addr} {k n:Nat} (hn:n=l.length):
 (Builtin.append_ #[t,t] ty #[.slice p n c,.slice q 0 k]).run P w= .ok (.slice p n c) w:=by
 obtain ⟨ht,i,z,hi,hz,h1,h2,h3⟩:=slOk_spec hs
 subst hn
 rcases h.un with ⟨rfl,rfl,rfl⟩| ⟨g,cur,rfl,hg,g1,g2,g3,g4⟩<;>cases q<;>
  simp [Builtin.append_,run_underlying ht,sizeOf,typeInfo,Builtin.lenOf,Builtin.firstCells,loadCells,loadCellsFrom,storeCells, *]
theorem Ow.appS {t ty e bytes:Nat} (hs:slOk P t e bytes=true) (h:Ow f e w p c l) {q:Option Addr} {c2:Nat} {news:List α} (h2:Ow f e w q c2 news) {n m:Nat} (hn:n=l.length) (hm:m=news.length) (ho: ∀x,(f x).oneCell'=true)
 (hlen:(l.length+news.length)* (bytes+1)≤140737488355328) {K:World→Option Addr→Nat→Nat→Prop}
 (hk: ∀w' p' c',Ow f e w' p' c' (l++news)→Mod (fun b=>blk p=some b) w w'→(p'=p∨p'=some ⟨w.heap.size,0,none⟩)→w.heap.size≤w'.heap.size→K w' p' (l++news).length c'):
 ∃w',∃p' n' c',(Builtin.append_ #[t,t] ty #[.slice p n c,.slice q m c2]).run P w= .ok (.slice p' n' c') w'∧K w' p' n' c':=by
 subst hm
 rcases Nat.eq_zero_or_pos news.length with h0|h0
 · have:news= []:=List.eq_nil_of_length_eq_zero h0
   subst this
   refine ⟨w,p,n,c,h.app0 hs hn,?_⟩
   have:=hk w p c (by simpa using h) (Mod.refl w) (.inl rfl) (Nat.le_refl _)
   simpa [hn] using this
 · obtain ⟨g,hg,_⟩:=h2.cell h0
   subst hg
   refine Ow.app hs h hn news rfl h0 (fun j hj=> ?_) ho hlen hk
   obtain ⟨g',hg',hc⟩:=h2.cell hj
   simp only [Option.some.injEq,Addr.mk.injEq,and_true] at hg'
   subst hg'
   rw [add_at,Nat.zero_add];exact hc
theorem New.empty {e:TypeId} {n:Nat} (h:New (.cells #[] e) w n w'):Ow f e w' (some ⟨n,0,none⟩) 0 []:=
 Ow.of_some h.at (Nat.le_refl _) (Nat.zero_le _) rfl rfl
theorem Ow.app1 {t ty e bytes:Nat} (hs:slOk P t e bytes=true) (h:Ow f e w p c l) {b n:Nat} (x:α) {v:Value} (hb:Has w b #[v]) (hv:v=f x) (hn:n=l.length) (ho: ∀x,(f x).oneCell'=true)
 (hlen:(l.length+1)* (bytes+1)≤140737488355328) {K:World→Option Addr→Nat→Nat→Prop}
 (hk: ∀w' p' c',Ow f e w' p' c' (l++ [x])→Mod (fun b=>blk p=some b) w w'→(p'=p∨p'=some ⟨w.heap.size,0,none⟩)→w.heap.size≤w'.heap.size→K w' p' (l.length+1) c'):
 ∃w',∃p' n' c',(Builtin.append_ #[t,t] ty #[.slice p n c,.slice (some ⟨b,0,none⟩) 1 1]).run P w= .ok (.slice p' n' c') w'∧K w' p' n' c':=by
 subst hv
 refine Ow.app (m:=1) hs h hn [x] rfl (by omega) (fun j hj=> ?_) ho hlen fun w' p' c' h1 h2 h3 h4=> ?_
 · have:j=0:=by simpa using hj
   subst this
   exact cell_add hb rfl
 · have:=hk w' p' c' h1 h2 h3 h4
   simpa using this
theorem make_i {t e bytes:Nat} (hs:slOk P t e bytes=true) {x:α} {v:Value} (hz:(P.info? e).bind (·.zero)=some v) (hv:v.cells= #[f x]) {n:Int} (m:Nat) (hn:n=m) (hlen:m* (bytes+1)≤281474976710656) {K:World→Option Addr→Nat→Nat→Prop}
 (hk: ∀w',Ow f e w' (some ⟨w.heap.size,0,none⟩) m (List.replicate m x)→Grow w w'→w'.heap.size=w.heap.size+1→K w' (some ⟨w.heap.size,0,none⟩) m m):
 ∃w',∃p' n' c',(Instr.makeSlice t (.int .i64 n) (.int .i64 n)).run P w= .ok (.slice p' n' c') w'∧K w' p' n' c':=by
 obtain ⟨ht,i,z,hi,hz',h1,h2,h3⟩:=slOk_spec hs
 subst hn
 simp only [hi,Option.bind_some] at hz
 have hm:m≤281474976710656:=Nat.le_trans (Nat.le_mul_of_pos_right _ (Nat.succ_pos _)) hlen
 have hm2:m*bytes≤281474976710656:=Nat.le_trans (Nat.mul_le_mul_left _ (Nat.le_succ _)) hlen
 have hr:=run_make (P:=P) w t e i v ht hi hz .i64 .i64 m m (by omega) (Int.le_refl _) (by rw [h2,← Int.natCast_mul,Nat.mul_comm];omega) (by omega)
 simp only [Int.toNat_natCast,h1,Nat.mul_one,hv] at hr
 refine ⟨_,_,_,_,hr,hk _ ?_ ⟨rfl,rfl,rfl,by simp,fun k hk _=>Below.heap_alloc w _ k hk⟩ (by simp)⟩
 refine Ow.of_some (cur:=madeCells #[f x] m) ?_ (by simp) (by simp only [maxLen];omega) (size_madeCells _ _) ?_
 · exact Array.getElem?_push_size
 · rw [toList_madeCells_one];simp
theorem Ow.take (h:Ow f T w p c l) {k:Nat} (hk:k≤l.length):Ow f T w p c (l.take k):=by
 rcases h.un with ⟨rfl,rfl,rfl⟩| ⟨g,cur,rfl,hg,g1,g2,g3,g4⟩
 · simpa using Ow.nil f T w
 · refine Ow.of_some hg (by simp;omega) g2 g3 ?_
   rw [List.length_take,Nat.min_eq_left hk,List.map_take,← g4,List.take_take,Nat.min_eq_left hk]
def mapTo (h:α→α) (t:Nat) (l:List α):List α:=(l.take t).map h++l.drop t
theorem mapTo_zero (h:α→α) (l:List α):mapTo h 0 l=l:=by simp [mapTo]
theorem mapTo_all (h:α→α) (l:List α):mapTo h l.length l=l.map h:=by simp [mapTo]
theorem mapTo_length (h:α→α) (t:Nat) (l:List α):(mapTo h t l).length=l.length:=by simp [mapTo];omega
theorem mapTo_get (h:α→α) {t:Nat} {l:List α} (d:α) (ht:t<l.length):(mapTo h t l).getD t d=l.getD t d:=by
 simp only [mapTo,List.getD_eq_getElem?_getD]
 rw [List.getElem?_append_right (by simp;omega)]
 simp [Nat.min_eq_left (Nat.le_of_lt ht)]
theorem mapTo_set (h:α→α) {t:Nat} {l:List α} (d:α) (ht:t<l.length):(mapTo h t l).set t (h (l.getD t d))=mapTo h (t+1) l:=by
 apply List.ext_getElem?
 intro j
 simp only [mapTo,List.getElem?_set,List.length_append,List.length_map,List.length_take,List.length_drop,List.getD_eq_getElem?_getD]
 by_cases e:t=j
 · subst e
   rw [if_pos rfl,if_pos (by omega),List.getElem?_append_left (by simp;omega)]
   simp [ht]
 · rw [if_neg e]
   by_cases h1:j<t
   · rw [List.getElem?_append_left (by simp;omega),List.getElem?_append_left (by simp;omega)]
     simp [h1,show j<t+1 by omega]
   · rw [List.getElem?_append_right (by simp;omega),List.getElem?_append_right (by simp;omega)]
     simp only [List.length_map,List.length_take,List.getElem?_drop]
     congr 1;omega
theorem oneInt (x:Int):(Value.int .i64 x).oneCell'=true:=rfl
end Go.Fw
