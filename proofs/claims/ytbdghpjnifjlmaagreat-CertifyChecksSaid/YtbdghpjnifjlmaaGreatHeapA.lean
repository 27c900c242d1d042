/- Slices that one has made: rows of one-cell elements. -/
import Derived.Test.YtbdghpjnifjlmaaGreatFwMem
import Derived.Laws.AppendOwn
import Derived.Laws.OwnMore
import Derived.Test.YtbdghpjnifjlmaaGreatGenCert
namespace Go.Fw
open Go Go.RowKit
variable {P:Program} {α:Type} {f:α→Value} {T:TypeId} {w w':World} {p:Option Addr} {c:Nat} {l:List α}
def Ow (f:α→Value) (T:TypeId) (w:World) (p:Option Addr) (c:Nat) (l:List α):Prop:=w.ownsRow 0 T 1 (.slice p l.length c) l.length (l.map f)
abbrev OwI:=Ow (Value.int .i64)
def blk (p:Option Addr):Option Nat:=p.map (·.block)
theorem Ow.nil (f:α→Value) (T:TypeId) (w:World):Ow f T w none 0 []:=World.ownsRow_nil w 0 T 1
theorem Ow.cap (h:Ow f T w p c l):l.length≤maxLen:=by
 rcases h.2 with ⟨_,h⟩| ⟨g,cap,cur,h,_,_,h1,h2,_⟩
 · rw [h];exact Nat.zero_le _
 · omega
theorem Ow.un (h:Ow f T w p c l):(p=none∧c=0∧l= [])∨∃g cur,p=some ⟨g,0,none⟩∧w.heap[g]? =some (.cells cur T (0,0))∧l.length≤c∧c≤maxLen∧cur.size=c∧cur.toList.take l.length=l.map f:=by
 rcases h.2 with ⟨h1,h2⟩| ⟨g,cap,cur,h1,_,h2,h3,h4,h5,h6⟩
 · simp only [Value.slice.injEq] at h1
   exact .inl ⟨h1.1,h1.2.2,List.eq_nil_of_length_eq_zero h2⟩
 · simp only [Value.slice.injEq] at h1
   obtain ⟨rfl,_,rfl⟩:=h1
   exact .inr ⟨g,cur,rfl,h2,h3,h4,by simpa using h5,by simpa using h6⟩
theorem Ow.of_some {g:Nat} {cur:Array Value} (hg:w.heap[g]? =some (.cells cur T (0,0))) (h1:l.length≤c) (h2:c≤maxLen) (h3:cur.size=c) (h4:cur.toList.take l.length=l.map f):Ow f T w (some ⟨g,0,none⟩) c l:=
 ⟨by simp,.inr ⟨g,c,cur,rfl,Nat.zero_le _,hg,h1,h2,by simpa using h3,by simpa using h4⟩⟩
theorem Ow.lt (h:Ow f T w p c l): ∀b,blk p=some b→b<w.heap.size:=by
 intro b hb
 rcases h.un with ⟨rfl,_⟩| ⟨g,cur,rfl,hg,_⟩
 · simp [blk] at hb
 · simp [blk] at hb
   subst hb
   rcases Nat.lt_or_ge g w.heap.size with h'|h'
   · exact h'
   · simp [Array.getElem?_eq_none h'] at hg
theorem Ow.keep {S:Nat→Prop} (h:Ow f T w p c l) (m:Mod S w w') (hs: ∀b,blk p=some b→¬S b):Ow f T w' p c l:=by
 have hl:=h.lt
 rcases h.un with ⟨rfl,rfl,rfl⟩| ⟨g,cur,rfl,hg,h1,h2,h3,h4⟩
 · exact Ow.nil f T w'
 · exact Ow.of_some ((m.block g (hl g rfl) (hs g rfl)).trans hg) h1 h2 h3 h4
theorem Ow.grow (h:Ow f T w p c l) (m:Grow w w'):Ow f T w' p c l:=h.keep m fun _ _=>id
theorem Ow.drew (h:Ow f T w p c l):Ow f T w.drew p c l:=h
theorem Ow.cell (h:Ow f T w p c l) {j:Nat} (hj:j<l.length): ∃g,p=some ⟨g,0,none⟩∧w.cell? ⟨g,j,none⟩=some (f l[j]):=by
 rcases h.un with ⟨_,_,rfl⟩| ⟨g,cur,rfl,hg,h1,h2,h3,h4⟩
 · simp at hj
 · refine ⟨g,rfl,cell_of ⟨T,hg⟩ ?_⟩
   have:(cur.toList.take l.length)[j]? =some (f l[j]):=by rw [h4];simp [hj]
   rw [List.getElem?_take,if_pos hj] at this
   simpa using this
theorem Ow.ix (h:Ow f T w p c l) {i:Int} {n:Nat} (d:α) (h0:0≤i) (hn:n=l.length) (h1:i<n) {K:Addr→Prop} (hk: ∀a,w.cell? a=some (f (l.getD i.toNat d))→K a):ixK p n i 1 K:=by
 subst hn
 obtain ⟨g,rfl,hc⟩:=h.cell (j:=i.toNat) (by omega)
 refine ⟨_,rfl,h0,h1,hk _ ?_⟩
 rw [Nat.mul_one,add_at,Nat.zero_add,hc]
 simp [List.getD,show i.toNat<l.length by omega]
theorem map_set (f:α→Value): ∀ (l:List α) (j:Nat) (x:α),(l.set j x).map f=(l.map f).set j (f x)
 | [],_,_=>rfl
 |_::_,0,_=>rfl
 |y::l,j+1,x=>by simp [map_set f l j x]
theorem Ow.st (h:Ow f T w p c l) {i:Int} {n:Nat} {v:Value} (x:α) (hv:v=f x) (ho:oneCell v=true) (h0:0≤i) (hn:n=l.length) (h1:i<n) {K:World→Prop}
 (hk: ∀w',Ow f T w' p c (l.set i.toNat x)→Mod (fun b=>blk p=some b) w w'→K w'):ixK p n i 1 fun a=> ∃w',StoreAt a 0 [v] w w'∧K w':=by
 subst hn hv
 rcases h.un with ⟨_,_,rfl⟩| ⟨g,cur,rfl,hg,h2,h3,h4,h5⟩
 · simp at h1;omega
 · refine ⟨_,rfl,h0,h1,?_⟩
   rw [Nat.mul_one,add_at,Nat.zero_add]
   have hj:i.toNat<cur.size:=by omega
   refine ⟨w.setCell ⟨g,i.toNat,none⟩ (f x),⟨⟨cur[i.toNat],cell_add ⟨T,hg⟩ (by simp [hj])⟩,by rw [add_at];exact frozen_of ⟨T,hg⟩,ho,by rw [add_at];rfl⟩,hk _ ?_ ?_⟩
   · refine Ow.of_some (cur:=cur.setIfInBounds i.toNat (f x)) (set_heap hg _ hj) (by simpa using h2) h3 (by simpa using h4) ?_
     rw [map_set,← h5,Array.toList_setIfInBounds,List.length_set,List.take_set]
   · exact ⟨rfl,rfl,rfl,by simp,fun k _ hk=>Below.heap_setCell w _ _ k fun e=>hk (by simp [blk,e])⟩
def slOk (P:Program) (t e:TypeId) (bytes:Nat):Bool:=
 (match P.underlying t with|some (.slice e')=>Nat.beq e' e|_=>false) && (match P.info? e with|some i=>Nat.beq i.size 1 && Nat.beq i.bytes bytes && (match i.zero with|some z=>Nat.beq z.cells.size 1|none=>false)|none=>false)
theorem slOk_spec {t e bytes:Nat} (h:slOk P t e bytes=true):P.underlying t=some (.slice e)∧∃i z,P.info? e=some i∧i.zero=some z∧i.size=1∧i.bytes=bytes∧z.cells.size=1:=by
 simp only [slOk,Bool.and_eq_true] at h
 obtain ⟨h1,h2⟩:=h
 split at h1
 · rename_i e' he
   have:e'=e:=Nat.eq_of_beq_eq_true h1
   subst this
   split at h2
   · rename_i i hi
     simp only [Bool.and_eq_true] at h2
     obtain ⟨⟨h3,h4⟩,h5⟩:=h2
     split at h5
     · rename_i z hz
       exact ⟨he,i,z,hi,hz,Nat.eq_of_beq_eq_true h3,Nat.eq_of_beq_eq_true h4,Nat.eq_of_beq_eq_true h5⟩
     · simp at h5
   · simp at h2
 · simp at h1
theorem Ow.cells (h:Ow f T w p c l) {g:Nat} (hp:p=some ⟨g,0,none⟩): ∀j u,(l.map f)[j]? =some u→w.cell? ((⟨g,0,none⟩:Addr).add j)=some u:=by
 intro j u hj
 subst hp
 have hl:j<l.length:=by have:=(List.getElem?_eq_some_iff.1 hj).1;simpa using this
 obtain ⟨g',hg,hc⟩:=h.cell hl
 simp only [Option.some.injEq,Addr.mk.injEq,and_true] at hg
 subst hg
 rw [add_at,Nat.zero_add,hc]
 simpa [hl] using hj
theorem Ow.app {t ty e bytes:Nat} (hs:slOk P t e bytes=true) (h:Ow f e w p c l) {a:Addr} {m k n:Nat} (hn:n=l.length) (news:List α) (hm:news.length=m) (hpos:0<m) (hc: ∀j (hj:j<news.length),w.cell? (a.add j)=some (f news[j])) (ho: ∀x,(f x).oneCell'=true)
 (hlen:(l.length+m)* (bytes+1)≤140737488355328) {K:World→Option Addr→Nat→Nat→Prop}
 (hk: ∀w' p' c',Ow f e w' p' c' (l++news)→Mod (fun b=>blk p=some b) w w'→(p'=p∨p'=some ⟨w.heap.size,0,none⟩)→w.heap.size≤w'.heap.size→K w' p' (l++news).length c'):
 ∃w',∃p' n' c',(Builtin.append_ #[t,t] ty #[.slice p n c,.slice (some a) m k]).run P w= .ok (.slice p' n' c') w'∧K w' p' n' c':=by
 obtain ⟨ht,i,z,hi,hz,h1,h2,h3⟩:=slOk_spec hs
 subst hn hm
 have hb:(l.length+news.length)*bytes≤140737488355328:=Nat.le_trans (Nat.mul_le_mul_left _ (Nat.le_succ _)) hlen
 have hb2:l.length+news.length≤140737488355328:=Nat.le_trans (Nat.le_mul_of_pos_right _ (Nat.succ_pos _)) hlen
 have hll:(l++news).length=l.length+news.length:=by simp
 have hns:(news.map f).length=news.length*i.size:=by simp [h1]
 have hnc: ∀j u,(news.map f)[j]? =some u→w.cell? (a.add j)=some u:=by
  intro j u hj
  have hj':j<news.length:=by have:=(List.getElem?_eq_some_iff.1 hj).1;simpa using this
  rw [hc j hj']
  simpa [hj'] using hj
 have fresh: ∀old,old<l.length+news.length→Ow f e (w.drew.alloc (.cells ((l.map f).toArray++ (news.map f).toArray++Builtin.zeroCells z.cells (grownCap w (l.length+news.length) old e - (l.length+news.length))) e))
  (some ⟨w.heap.size,0,none⟩) (grownCap w (l.length+news.length) old e) (l++news):=by
  intro old _
  have hge:=grownCap_ge w (l.length+news.length) old e
  have hle:grownCap w (l.length+news.length) old e≤maxLen:=grownCap_le_maxLen w _ old e (by simp only [maxLen];omega)
  refine Ow.of_some (cur:=(l.map f).toArray++ (news.map f).toArray++Builtin.zeroCells z.cells (grownCap w (l.length+news.length) old e - (l.length+news.length))) ?_ (by omega) hle ?_ ?_
  · exact Array.getElem?_push_size
  · simp only [Array.size_append,List.size_toArray,List.length_map,size_zeroCells,h3]
    omega
  · simp only [Array.toList_append,List.map_append]
    rw [List.take_append_of_le_length (by simp),List.take_of_length_le (by simp)]
 have gr: ∀ (o:Obj),Mod (fun b=>blk p=some b) w (w.drew.alloc o):=fun o=> ⟨rfl,rfl,rfl,by simp,fun k hk _=>Below.heap_alloc w.drew o k hk⟩
 rcases h.un with ⟨rfl,rfl,rfl⟩| ⟨g,cur,rfl,hg,g1,g2,g3,g4⟩
 · have hr:=run_append_nil (P:=P) w t ty e i z ht hi hz a news.length k (news.map f) hns hnc hpos (by simp at hb2;omega) (by rw [h2];simp at hb;omega)
   have hf:=fresh 0 (by simp;omega)
   simp only [List.length_nil,Nat.zero_add,List.map_nil,List.nil_append] at hf hr hll hk ⊢
   refine ⟨_,_,_,_,hr,?_⟩
   refine hk _ _ _ (by simpa using hf) (gr _) (.inr rfl) (by simp)
 · by_cases hroom:l.length+news.length≤c
   · have hr:=run_append_room (P:=P) w t ty e i ht hi g l.length c cur hg a news.length k (news.map f) hns hnc (fun u hu=>by obtain ⟨x,_,rfl⟩:=List.mem_map.1 hu;exact ho x) hroom (by simp [h1];omega)
     refine ⟨_,_,_,_,hr,?_⟩
     rw [← hll]
     refine hk _ _ _ (Ow.of_some (setRow_heap w g cur _ e _ hg) (by omega) g2 ?_ ?_) ⟨rfl,rfl,rfl,by simp,fun k _ hk=>setRow_other w g k _ fun he=>hk (by simp [blk,he])⟩ (.inl rfl) (by simp)
     · simp [h1];omega
     · simp only [h1,Nat.mul_one]
       rw [hll,List.map_append,List.take_append_of_le_length (by simp;omega),List.take_of_length_le (by simp;omega),g4]
   · have hr:=run_append_grow (P:=P) w t ty e i z ht hi hz ⟨g,0,none⟩ l.length c (l.map f) (by simp [h1]) (h.cells rfl) a news.length k (news.map f) hns hnc (by omega) (by omega) (growslice_fits (by omega) (by rw [h2];exact hb))
     refine ⟨_,_,_,_,hr,?_⟩
     rw [← hll]
     exact hk _ _ _ (by rw [hll];exact fresh c (by omega)) (gr _) (.inr rfl) (by simp)
theorem Ow.app0 {t ty e bytes:Nat} (hs:slOk P t e bytes=true) (h:Ow f e w p c l) {q:Option Addr} {k n:Nat} (hn:n=l.length):
 (Builtin.append_ #[t,t] ty #[.slice p n c,.slice q 0 k]).run P w= .ok (.slice p n c) w:=by
 obtain ⟨ht,i,z,hi,hz,h1,h2,h3⟩:=slOk_spec hs
 subst hn
 rcases h.un with ⟨rfl,rfl,rfl⟩| ⟨g,cur,rfl,hg,g1,g2,g3,g4⟩<;>cases q<;>
  simp [Builtin.append_,run_underlying ht,sizeOf,typeInfo,Builtin.lenOf,Builtin.firstCells,loadCells,loadCellsFrom,storeCells, *]
theorem New.empty {e:TypeId} {n:Nat} (h:New (.cells #[] e) w n w'):Ow f e w' (some ⟨n,0,none⟩) 0 []:=
 Ow.of_some h.at (Nat.le_refl _) (Nat.zero_le _) rfl rfl
theorem Ow.app1 {t ty e bytes:Nat} (hs:slOk P t e bytes=true) (h:Ow f e w p c l) {b n:Nat} (x:α) {v:Value} (hb:Has w b #[v]) (hv:v=f x) (hn:n=l.length) (ho: ∀x,(f x).oneCell'=true)
 (hlen:(l.length+1)* (bytes+1)≤140737488355328) {K:World→Option Addr→Nat→Nat→Prop}
 (hk: ∀w' p' c',Ow f e w' p' c' (l++ [x])→Mod (fun b=>blk p=some b) w w'→(p'=p∨p'=some ⟨w.heap.size,0,none⟩)→w.heap.size≤w'.heap.size→K w' p' (l.length+1) c'):
 ∃w',∃p' n' c',(Builtin.append_ #[t,t] ty #[.slice p n c,.slice (some ⟨b,0,none⟩) 1 1]).run P w= .ok (.slice p' n' c') w'∧K w' p' n' c':=by
 subst hv
 refine Ow.app (m:=1) hs h hn [x] rfl (by omega) (fun j hj=> ?_) ho hlen fun w' p' c' h1 h2 h3 h4=> ?_
 · have:j=0:=by simpa using hj
   subst this
   exact cell_add hb rfl
 · have:=hk w' p' c' h1 h2 h3 h4
   simpa using this
theorem make_i {t e bytes:Nat} (hs:slOk P t e bytes=true) {x:α} {v:Value} (hz:(P.info? e).bind (·.zero)=some v) (hv:v.cells= #[f x]) {n:Int} (m:Nat) (hn:n=m) (hlen:m* (bytes+1)≤281474976710656) {K:World→Option Addr→Nat→Nat→Prop}
 (hk: ∀w',Ow f e w' (some ⟨w.heap.size,0,none⟩) m (List.replicate m x)→Grow w w'→w'.heap.size=w.heap.size+1→K w' (some ⟨w.heap.size,0,none⟩) m m):
 ∃w',∃p' n' c',(Instr.makeSlice t (.int .i64 n) (.int .i64 n)).run P w= .ok (.slice p' n' c') w'∧K w' p' n' c':=by
 obtain ⟨ht,i,z,hi,hz',h1,h2,h3⟩:=slOk_spec hs
 subst hn
 simp only [hi,Option.bind_some] at hz
 have hm:m≤281474976710656:=Nat.le_trans (Nat.le_mul_of_pos_right _ (Nat.succ_pos _)) hlen
 have hm2:m*bytes≤281474976710656:=Nat.le_trans (Nat.mul_le_mul_left _ (Nat.le_succ _)) hlen
 have hr:=run_make (P:=P) w t e i v ht hi hz .i64 .i64 m m (by omega) (Int.le_refl _) (by rw [h2,← Int.natCast_mul,Nat.mul_comm];omega) (by omega)
 simp only [Int.toNat_natCast,h1,Nat.mul_one,hv] at hr
 refine ⟨_,_,_,_,hr,hk _ ?_ ⟨rfl,rfl,rfl,by simp,fun k hk _=>Below.heap_alloc w _ k hk⟩ (by simp)⟩
 refine Ow.of_some (cur:=madeCells #[f x] m) ?_ (by simp) (by simp only [maxLen];omega) (size_madeCells _ _) ?_
 · exact Array.getElem?_push_size
 · rw [toList_madeCells_one];simp
theorem Ow.take (h:Ow f T w p c l) {k:Nat} (hk:k≤l.length):Ow f T w p c (l.take k):=by
 rcases h.un with ⟨rfl,rfl,rfl⟩| ⟨g,cur,rfl,hg,g1,g2,g3,g4⟩
 · simpa using Ow.nil f T w
 · refine Ow.of_some hg (by simp;omega) g2 g3 ?_
   rw [List.length_take,Nat.min_eq_left hk,List.map_take,← g4,List.take_take,Nat.min_eq_left hk]
theorem oneInt (x:Int):(Value.int .i64 x).oneCell'=true:=rfl
end Go.Fw
namespace Go.HeapP
def g (l:List Int) (i:Int):Int:=if i<0 then 0 else l.getD i.toNat 0
theorem g_set {l:List Int} {i v:Int} (h0:0≤i) (h1:i<l.length):g (l.set i.toNat v)=fun j=>if j=i then v else g l j:=by
 funext j
 unfold g
 simp only [List.getD_eq_getElem?_getD,List.getElem?_set]
 by_cases hj:j<0
 · simp [hj];omega
 · by_cases h:j=i
   · subst h
     simp [show j.toNat<l.length by omega,hj]
   · rw [if_neg hj,if_neg (by omega),if_neg h,if_neg hj]
def Bt (S:Int→Int) (a c:Int):Prop:=S c<S a∨S a=S c∧a<c
structure Pos (L A:Int→Int) (n N:Int):Prop where
 fit: ∀j,0≤j→j<n→1≤L j∧L j≤N∧A (L j)=j+1
 back: ∀v,1≤v→v≤N→0≤A v∧A v≤n∧(0<A v→L (A v - 1)=v)
def Ord (S L:Int→Int) (n k x:Int):Prop:= ∀j,1≤j→j<n→k≤(j - 1) / 2→(j - 1) / 2≠x→¬Bt S (L j) (L ((j - 1) / 2))
end Go.HeapP
namespace Go.Proofs.YtbdghpjnifjlmaaGreat.W.Hp
open Go Go.Fw Go.RowKit Go.HeapP
section
theorem sl_int:slOk Tryz.prog ty_sl_int ty_int 8=true:=by kernel_rfl
structure HS where
 pl:Option Addr
 cl:Nat
 pa:Option Addr
 ca:Nat
 ps:Option Addr
 cs:Nat
 l:List Int
 at_:List Int
 score:List Int
 step:Int
def HS.foot (x:HS) (b:Nat) (k:Nat):Prop:=k=b∨blk x.pl=some k∨blk x.pa=some k∨blk x.ps=some k
structure HRep (w:World) (b:Nat) (x:HS):Prop where
 me:Has w b #[.slice x.pl x.l.length x.cl,.slice x.pa x.at_.length x.ca,.slice x.ps x.score.length x.cs,.int .i64 x.step]
 hl:OwI ty_int w x.pl x.cl x.l
 ha:OwI ty_int w x.pa x.ca x.at_
 hs:OwI ty_int w x.ps x.cs x.score
 bl:blk x.pl≠some b
 ba:blk x.pa≠some b
 bs:blk x.ps≠some b
 la: ∀k,blk x.pl=some k→blk x.pa≠some k
 ls: ∀k,blk x.pl=some k→blk x.ps≠some k
 sa: ∀k,blk x.pa=some k→blk x.ps≠some k
theorem HRep.keep {w w':World} {b:Nat} {x:HS} {S:Nat→Prop} (h:HRep w b x) (m:Mod S w w') (hS: ∀k,x.foot b k→¬S k):HRep w' b x:=
 ⟨h.me.keep m (hS b (.inl rfl)),h.hl.keep m fun k hk=>hS k (.inr (.inl hk)),h.ha.keep m fun k hk=>hS k (.inr (.inr (.inl hk))),h.hs.keep m fun k hk=>hS k (.inr (.inr (.inr hk))),h.bl,h.ba,h.bs,h.la,h.ls,h.sa⟩
theorem HRep.grow {w w':World} {b:Nat} {x:HS} (h:HRep w b x) (m:Grow w w'):HRep w' b x:=h.keep m fun _ _=>id
theorem HRep.lt {w:World} {b:Nat} {x:HS} (h:HRep w b x): ∀k,x.foot b k→k<w.heap.size:=by
 rintro k (rfl|hk|hk|hk)
 · exact h.me.lt
 · exact h.hl.lt k hk
 · exact h.ha.lt k hk
 · exact h.hs.lt k hk
abbrev ptr (b:Nat):Value:= .pointer (some ⟨b,0,none⟩)
theorem HRep.setA {w w':World} {b:Nat} {x:HS} (h:HRep w b x) {l':List Int} (hl:l'.length=x.at_.length) (o:OwI ty_int w' x.pa x.ca l') (m:Mod (fun k=>blk x.pa=some k) w w'):HRep w' b {x with at_:=l'}:=
 ⟨by have:=h.me.keep m h.ba;rwa [← hl] at this,h.hl.keep m fun k hk hk'=>h.la k hk hk',o,h.hs.keep m fun k hk hk'=>h.sa k hk' hk,h.bl,h.ba,h.bs,h.la,h.ls,h.sa⟩
structure HOk (x:HS) (N:Int):Prop where
 na:(x.at_.length:Int)=N+1
 ns:(x.score.length:Int)=N+1
 big:N≤1048576
 pos:Pos (g x.l) (g x.at_) x.l.length N
 nl:(x.l.length:Int)≤N
end
section
def top:Int:=1099511627776
theorem is_ok {w:World} {b:Nat} {x:HS} (h:HRep w b x) (v:Int):Calls Tryz.prog heap_Heap_is.id #[ptr b,.int .i64 v] w fun e w'=>e= .returned (.bool (decide (1≤v∧v<x.at_.length)))∧Grow w w':=by
 refine heap_Heap_is.calls ?_
 refine cnd_t rfl (cnd_i (fun t=> ⟨_,rfl,_,_,_,cell_add h.me rfl,?_,Mod.refl w⟩) (fun t=> ⟨?_,Mod.refl w⟩))<;>simp only [decide_eq_true_eq,decide_eq_false_iff_not,ge_iff_le] at t
 · simp [t]
 · simp [t]
structure HGood (x:HS) (N:Int):Prop where
 ok:HOk x N
 n0:0≤N
 ord:Ord (g x.score) (g x.l) x.l.length 0 (-1)
 sc: ∀v,0≤v→v≤N→0≤g x.score v∧g x.score v≤top
 st:1≤x.step∧x.step≤top
theorem g_app {l:List Int} {v:Int}:g (l++ [v])=fun j:Int=>if j=l.length then v else g l j:=by
 funext j
 unfold g
 simp only [List.getD_eq_getElem?_getD]
 by_cases hj:j<0
 · simp [hj];omega
 · simp only [if_neg hj]
   by_cases e:j=l.length
   · subst e;simp
   · rw [if_neg e]
     by_cases h2:j.toNat<l.length
     · rw [List.getElem?_append_left h2]
     · rw [List.getElem?_eq_none (by simp;omega),List.getElem?_eq_none (by omega)]
end
section
theorem int_zero:(Tryz.prog.info? ty_int).bind (·.zero)=some (.int .i64 0):=by kernel_rfl
theorem g_rep (n:Nat) (v:Int):g (List.replicate n 0) v=0:=by
 unfold g
 split
 · rfl
 · simp only [List.getD_eq_getElem?_getD,List.getElem?_replicate];split<;>rfl
structure Fresh (x:HS) (n t:Nat):Prop where
 l:x.l.length=t
 lj: ∀j:Int,0≤j→j<t→g x.l j=j+1
 a:x.at_.length=n+1
 au: ∀u:Int,0≤u→u≤n→g x.at_ u=if u≤t then u else 0
 s:x.score=List.replicate (n+1) 0
 st:x.step=64
theorem Fresh.good {x:HS} {n:Nat} (h:Fresh x n n) (hn:n≤1048576):HGood x n:=by
 have hl:=h.l
 refine ⟨⟨by rw [h.a];omega,by rw [h.s];simp,by omega,⟨fun j j0 j1=> ?_,fun v v1 v2=> ?_⟩,by rw [hl];omega⟩,by omega,fun j j1 j2 j3 j4=> ?_,fun v _ _=> ?_,by rw [h.st];decide⟩
 · have:=h.lj j j0 (by omega)
   rw [this,h.au _ (by omega) (by omega)]
   refine ⟨by omega,by omega,?_⟩
   rw [if_pos (by omega)]
 · rw [h.au v (by omega) v2,if_pos v2]
   refine ⟨by omega,by omega,fun _=> ?_⟩
   rw [h.lj _ (by omega) (by omega)];omega
 · rw [h.lj j (by omega) (by omega),h.lj _ (by omega) (by omega),h.s]
   unfold Bt
   rw [g_rep,g_rep];omega
 · rw [h.s,g_rep];decide
theorem new_ok {w:World} (n:Nat) (hn:n≤1048576):Calls Tryz.prog heap_New.id #[.int .i64 n] w fun e w'=> ∃b x,e= .returned (.tuple #[ptr b,.int .i64 0])∧HRep w' b x∧Fresh x n n∧(∀k,x.foot b k→w.heap.size≤k)∧Grow w w':=by
 refine heap_New.calls ?_
 refine cnd_f (decide_eq_false (by omega)) (cnd_f (decide_eq_false (by omega)) ?_)
 have e1:IntKind.i64.wrap ((n:Int)+1)=((n+1:Nat):Int):=by rw [wrap64_of (by omega) (by omega)];omega
 rw [e1]
 have made: ∀ (b:Nat) (x:HS) (w6:World),HRep w6 b x→Fresh x n 0→(∀k,x.foot b k→w.heap.size≤k)→Grow w w6→
  ∃I7:Int→World→Nat→Prop,(∃k8,I7 1 w6 k8)∧
   ∀ (v_10:Int) (w11:World) (k8:Nat) (_:Fr),I7 v_10 w11 k8→
   cnd (decide (v_10≤(n:Int)))
    (∃a12,(some (Addr.mk b 0 none))=some a12∧∃x13p x13n x13c,w11.cell? (a12.add 0)=some (.slice x13p x13n x13c)∧
      ∀n14 w15,New (.cells #[.int .i64 v_10] ty_int) w11 n14 w15→
      ∃w16 r17p r17n r17c,(Builtin.append_ #[ty_sl_int,ty_sl_int] ty_sl_int #[.slice x13p x13n x13c,.slice (some (Addr.mk n14 0 none)) 1 1]).run Tryz.prog w15= .ok (.slice r17p r17n r17c) w16∧
      ∃a18,(some (Addr.mk b 0 none))=some a18∧∃w19,StoreAt (a18.add 0) 0 [.slice r17p r17n r17c] w16 w19∧
      ∃a20,(some (Addr.mk b 0 none))=some a20∧∃x21p x21n x21c,w19.cell? (a20.add 1)=some (.slice x21p x21n x21c)∧
      ixK x21p x21n v_10 1 fun a22=>
      ∃w23,StoreAt a22 0 [.int .i64 v_10] w19 w23∧
      ∃k9,k9<k8∧I7 (IntKind.i64.wrap (v_10+ (1:Int))) w23 k9)
    (∃b' x,Ending.returned (.tuple #[.pointer (some (Addr.mk b 0 none)),.int .i64 0])= .returned (.tuple #[ptr b',.int .i64 0])∧HRep w11 b' x∧Fresh x n n∧(∀k,x.foot b' k→w.heap.size≤k)∧Grow w w11):=by
  intro b x w6 h f hf G
  refine ⟨fun v w' k=> ∃ (t:Nat) (y:HS),v=t+1∧t≤n∧HRep w' b y∧Fresh y n t∧(∀k,y.foot b k→w.heap.size≤k)∧Grow w w'∧k+t=n,⟨n,0,x,by omega,by omega,h,f,hf,G,by omega⟩,?_⟩
  clear h f hf G
  rintro v w11 k _ ⟨t,x,rfl,ht,h,f,hf,G,hk⟩
  refine cnd_i (fun tt=> ?_) (fun tt=> ?_)<;>simp only [decide_eq_true_eq,decide_eq_false_iff_not] at tt
  · refine ⟨_,rfl,_,_,_,cell_add h.me rfl,?_⟩
    intro n9 w10 hn9
    have hx:=h.grow hn9.mod
    have G10:Grow w w10:=G.trans hn9.mod
    have hl:=f.l
    refine hx.hl.app1 sl_int ((t:Int)+1) hn9.has rfl rfl oneInt (by omega) fun w11 p' c' o m hp hsz=> ?_
    have hlts:=hx.lt
    have S: ∀k,blk p'=some k→blk x.pl=some k∨w10.heap.size≤k:=by
     intro k hk
     rcases hp with rfl|rfl
     · exact .inl hk
     · right;simp [blk] at hk;omega
    have S2: ∀k,blk p'=some k→w.heap.size≤k:=fun k hk=> (S k hk).elim (fun e=>hf k (.inr (.inl e))) (fun e=>Nat.le_trans G10.size e)
    have m1:=hx.me.keep m hx.bl
    refine ⟨_,rfl,store_f m1 rfl rfl fun w14 o14 m14=> ?_⟩
    have pb:blk p'≠some b:=fun e=>by
     rcases S b e with e2|e2
     · exact hx.bl e2
     · have:=hlts b (.inl rfl);omega
    have h14:HRep w14 b {x with l:=x.l++ [(t:Int)+1],pl:=p',cl:=c'}:=by
     refine ⟨?_,o.keep m14 fun k hk e=>pb (e▸hk),(hx.ha.keep m fun k hk hk'=>hx.la k hk' hk).keep m14 fun k hk e=>hx.ba (e▸hk),(hx.hs.keep m fun k hk hk'=>hx.ls k hk' hk).keep m14 fun k hk e=>hx.bs (e▸hk),pb,hx.ba,hx.bs,?_,?_,hx.sa⟩
     · have e:(x.l++ [(t:Int)+1]).length=x.l.length+1:=by simp
       show Has w14 b #[.slice p' (x.l++ [(t:Int)+1]).length c',_,_,_]
       rw [e];exact o14
     · intro k hk hk'
       rcases S k hk with e|e
       · exact hx.la k e hk'
       · have:=hlts k (.inr (.inr (.inl hk')));omega
     · intro k hk hk'
       rcases S k hk with e|e
       · exact hx.ls k e hk'
       · have:=hlts k (.inr (.inr (.inr hk')));omega
    have G11:Grow w w11:=G10.then m fun k hk e=>by have:=hf k (.inr (.inl e));omega
    have G14:Grow w w14:=G11.then m14 fun k hk e=>by have:=hf b (.inl rfl);omega
    refine ⟨_,rfl,_,_,_,cell_add h14.me rfl,h14.ha.st ((t:Int)+1) rfl rfl (by omega) rfl (by have:=f.a;show (t:Int)+1< (x.at_.length:Int);omega) fun w20 o20 m20=> ?_⟩
    have h20:=h14.setA (by simp) o20 m20
    refine ⟨k - 1,by omega,t+1,_,?_,by omega,h20,?_,?_,?_,by omega⟩
    · rw [wrap64_of (by omega) (by omega)];omega
    · refine ⟨by simp [hl],fun j j0 j1=> ?_,by simpa using f.a,fun u u0 u1=> ?_,f.s,f.st⟩
      · show g (x.l++ [(t:Int)+1]) j=j+1
        rw [g_app]
        show (if j=(x.l.length:Int) then (t:Int)+1 else g x.l j)=j+1
        split
        · omega
        · exact f.lj j j0 (by omega)
      · show g (x.at_.set ((t:Int)+1).toNat ((t:Int)+1)) u=_
        rw [g_set (by omega) (by have:=f.a;omega)]
        show (if u=(t:Int)+1 then (t:Int)+1 else g x.at_ u)=_
        rw [f.au u u0 u1]
        split
        · rw [if_pos (by omega)];omega
        · split
          · rw [if_pos (by omega)]
          · rw [if_neg (by omega)]
    · rintro k (e|e|e|e)
      · exact hf k (.inl e)
      · exact S2 k e
      · exact hf k (.inr (.inr (.inl e)))
      · exact hf k (.inr (.inr (.inr e)))
    · exact G14.then m20 fun k hk e=>by have:=hf k (.inr (.inr (.inl e)));omega
  · have:t=n:=by omega
    subst this
    exact ⟨b,x,rfl,h,f,hf,G⟩
 have G0:Grow w w.drew:=(Mod.refl w).drew
 have s0:w.drew.heap.size=w.heap.size:=rfl
 refine ⟨?_,?_⟩<;>refine make_i sl_int int_zero (f:=Value.int .i64) (x:=0) rfl (n+1) rfl (by omega) fun w1 o1 g1 z1=>make_i sl_int int_zero (f:=Value.int .i64) (x:=0) rfl (n+1) rfl (by omega) fun w3 o3 g3 z3=> ?_<;>intro n5 w6 hn5<;>have o1':=(o1.grow g3).grow hn5.mod<;>have o3':=o3.grow hn5.mod<;>have hnum:=hn5.num
 · refine made n5 ⟨none,0,some ⟨w.heap.size,0,none⟩,n+1,some ⟨w1.heap.size,0,none⟩,n+1,[],List.replicate (n+1) 0,List.replicate (n+1) 0,64⟩ w6 ⟨?_,Ow.nil _ _ _,o1',o3',?_,?_,?_,?_,?_,?_⟩ ⟨rfl,fun j j0 j1=>by omega,by simp,fun u u0 u1=> ?_,rfl,rfl⟩ ?_ (((G0.trans g1).trans g3).trans hn5.mod)
   · have:=hn5.has
     simpa using this
   · simp [blk]
   · simp [blk];omega
   · simp [blk];omega
   · simp [blk]
   · simp [blk]
   · simp [blk];omega
   · rw [g_rep];split<;>omega
   · rintro k (e|e|e|e)<;> (try simp [blk] at e)<;>omega
 · refine made n5 ⟨none,0,some ⟨w1.heap.size,0,none⟩,n+1,some ⟨w.heap.size,0,none⟩,n+1,[],List.replicate (n+1) 0,List.replicate (n+1) 0,64⟩ w6 ⟨?_,Ow.nil _ _ _,o3',o1',?_,?_,?_,?_,?_,?_⟩ ⟨rfl,fun j j0 j1=>by omega,by simp,fun u u0 u1=> ?_,rfl,rfl⟩ ?_ (((G0.trans g1).trans g3).trans hn5.mod)
   · have:=hn5.has
     simpa using this
   · simp [blk]
   · simp [blk];omega
   · simp [blk];omega
   · simp [blk]
   · simp [blk]
   · simp [blk];omega
   · rw [g_rep];split<;>omega
   · rintro k (e|e|e|e)<;> (try simp [blk] at e)<;>omega
end
end Go.Proofs.YtbdghpjnifjlmaaGreat.W.Hp
