/- Slices of elements of some cells each, in rows that one has made or that are only looked at. -/
import Derived.Test.YtenmibfmhccmiaaGreatFwView
import Derived.Test.YtenmibfmhccmiaaGreatFwMem
import Derived.Laws.CopyRow
import Derived.Laws.IdiomCopy
import Derived.Maps.OwnSet
import Derived.Maps.Own
import Derived.DeepKeys4
set_option linter.unusedVariables false
set_option linter.unusedSimpArgs false
namespace Go.Fw
open Go Go.RowKit
variable {P:Program} {α:Type} {sz:Nat} {f:α→List Value} {T:TypeId} {w w':World} {p q:Option Addr} {c:Nat} {l:List α}
structure Enc (sz:Nat) (f:α→List Value):Prop where
 len: ∀x,(f x).length=sz
 pos:0<sz
 one: ∀x,∀v∈f x,v.oneCell'=true
theorem flat_len (hf: ∀x,(f x).length=sz): ∀l:List α,(l.flatMap f).length=l.length*sz
 | []=>by simp
 |x::l=>by simp only [List.flatMap_cons,List.length_append,hf,flat_len hf l,List.length_cons];rw [Nat.add_mul,Nat.one_mul,Nat.add_comm]
theorem flat_get (hf: ∀x,(f x).length=sz): ∀ (l:List α) (j i:Nat) (hj:j<l.length),i<sz→(l.flatMap f)[j*sz+i]? =(f l[j])[i]?
 | [],j,i,hj,_=>by simp at hj
 |x::l,0,i,_,hi=>by
  simp only [List.flatMap_cons,Nat.zero_mul,Nat.zero_add,List.getElem_cons_zero]
  rw [List.getElem?_append_left (by rw [hf];exact hi)]
 |x::l,j+1,i,hj,hi=>by
  simp only [List.flatMap_cons,List.getElem_cons_succ]
  rw [List.getElem?_append_right (by rw [hf,Nat.add_mul,Nat.one_mul];omega),hf,← flat_get hf l j i (by simpa using hj) hi]
  congr 1
  rw [Nat.add_mul,Nat.one_mul];omega
theorem flat_splice (hf: ∀x,(f x).length=sz) (x:α): ∀ (l:List α) (j:Nat),j<l.length→(l.flatMap f).take (j*sz)++f x++ (l.flatMap f).drop (j*sz+sz)=(l.set j x).flatMap f
 | [],j,hj=>by simp at hj
 |y::l,0,_=>by
  simp only [List.flatMap_cons,Nat.zero_mul,Nat.zero_add,List.take_zero,List.nil_append,List.set_cons_zero]
  rw [List.drop_append_of_le_length (by rw [hf];exact Nat.le_refl _),List.drop_of_length_le (by rw [hf];exact Nat.le_refl _),List.nil_append]
 |y::l,j+1,hj=>by
  simp only [List.flatMap_cons,List.set_cons_succ]
  rw [← flat_splice hf x l j (by simpa using hj)]
  have e:(j+1)*sz=sz+j*sz:=by rw [Nat.add_mul,Nat.one_mul,Nat.add_comm]
  rw [e,List.take_append,List.drop_append,hf,List.take_of_length_le (by rw [hf];omega),List.drop_of_length_le (by rw [hf];omega),List.nil_append]
  simp only [List.append_assoc]
  congr 2
  · rw [show sz+j*sz - sz=j*sz by omega]
  · rw [show sz+j*sz+sz - sz=j*sz+sz by omega]
def Row (sz:Nat) (f:α→List Value) (T:TypeId) (w:World) (p:Option Addr) (c:Nat) (l:List α):Prop:=w.ownsRow 0 T sz (.slice p l.length c) l.length (l.flatMap f)
theorem Row.nil (sz:Nat) (f:α→List Value) (T:TypeId) (w:World):Row sz f T w none 0 []:=World.ownsRow_nil w 0 T sz
theorem Row.un (h:Row sz f T w p c l):(p=none∧c=0∧l= [])∨∃g cur,p=some ⟨g,0,none⟩∧w.heap[g]? =some (.cells cur T (0,0))∧l.length≤c∧c≤maxLen∧cur.size=c*sz∧cur.toList.take (l.length*sz)=l.flatMap f:=by
 rcases h.2 with ⟨h1,h2⟩| ⟨g,cap,cur,h1,_,h2,h3,h4,h5,h6⟩
 · simp only [Value.slice.injEq] at h1
   exact .inl ⟨h1.1,h1.2.2,List.eq_nil_of_length_eq_zero h2⟩
 · simp only [Value.slice.injEq] at h1
   obtain ⟨rfl,_,rfl⟩:=h1
   exact .inr ⟨g,cur,rfl,h2,h3,h4,h5,h6⟩
theorem Row.of_some (hf: ∀x,(f x).length=sz) {g:Nat} {cur:Array Value} (hg:w.heap[g]? =some (.cells cur T (0,0))) (h1:l.length≤c) (h2:c≤maxLen) (h3:cur.size=c*sz) (h4:cur.toList.take (l.length*sz)=l.flatMap f):Row sz f T w (some ⟨g,0,none⟩) c l:=
 ⟨flat_len hf l,.inr ⟨g,c,cur,rfl,Nat.zero_le _,hg,h1,h2,h3,h4⟩⟩
theorem Row.lt (h:Row sz f T w p c l): ∀b,blk p=some b→b<w.heap.size:=by
 intro b hb
 rcases h.un with ⟨rfl,_⟩| ⟨g,cur,rfl,hg,_⟩
 · simp [blk] at hb
 · simp [blk] at hb
   subst hb
   rcases Nat.lt_or_ge g w.heap.size with h'|h'
   · exact h'
   · simp [Array.getElem?_eq_none h'] at hg
theorem Row.keep {S:Nat→Prop} (h:Row sz f T w p c l) (m:Mod S w w') (hs: ∀b,blk p=some b→¬S b):Row sz f T w' p c l:=by
 have hl:=h.lt
 rcases h.un with ⟨rfl,rfl,rfl⟩| ⟨g,cur,rfl,hg,h1,h2,h3,h4⟩
 · exact Row.nil sz f T w'
 · exact ⟨h.1,.inr ⟨g,c,cur,rfl,Nat.zero_le _,(m.block g (hl g rfl) (hs g rfl)).trans hg,h1,h2,h3,h4⟩⟩
theorem Row.grow (h:Row sz f T w p c l) (m:Grow w w'):Row sz f T w' p c l:=h.keep m fun _ _=>id
theorem Row.drew (h:Row sz f T w p c l):Row sz f T w.drew p c l:=h
def Vr (sz:Nat) (f:α→List Value) (w:World) (p:Option Addr) (l:List α):Prop:= ∀j (hj:j<l.length),∃a,p=some a∧CellsAt w (a.add (j*sz)) 0 (f l[j])
theorem CellsAt.keep {S:Nat→Prop} (m:Mod S w w') {a:Addr} (hs: ¬S a.block): ∀ {vs:List Value} {i:Nat},CellsAt w a i vs→CellsAt w' a i vs
 | [],_,_=>trivial
 |_::_,_,⟨h1,h2⟩=> ⟨cell_keep m h1 (by rw [add_block];exact hs),CellsAt.keep m hs h2⟩
theorem Vr.keep {S:Nat→Prop} (h:Vr sz f w p l) (m:Mod S w w') (hs: ∀b,blk p=some b→¬S b):Vr sz f w' p l:=by
 intro j hj
 obtain ⟨a,rfl,hc⟩:=h j hj
 exact ⟨a,rfl,hc.keep m (by rw [add_block];exact hs _ rfl)⟩
theorem Vr.grow (h:Vr sz f w p l) (m:Grow w w'):Vr sz f w' p l:=h.keep m fun _ _=>id
theorem Vr.drew (h:Vr sz f w p l):Vr sz f w.drew p l:=h.grow (Mod.refl w).drew
theorem Vr.nil:Vr sz f w p []:=fun j hj=>by simp at hj
theorem Row.vr (E:Enc sz f) (h:Row sz f T w p c l):Vr sz f w p l:=by
 intro j hj
 rcases h.un with ⟨_,_,rfl⟩| ⟨g,cur,rfl,hg,h1,h2,h3,h4⟩
 · simp at hj
 · refine ⟨_,rfl,?_⟩
   rw [add_at,Nat.zero_add]
   refine CellsAt.of_get fun i v hi=> ?_
   have hi':i<sz:=by rw [← E.len l[j]];exact (List.getElem?_eq_some_iff.1 hi).1
   rw [add_at,Nat.zero_add]
   refine cell_of ⟨T,hg⟩ ?_
   have e:(cur.toList.take (l.length*sz))[j*sz+i]? =some v:=by rw [h4,flat_get E.len l j i hj hi',hi]
   rw [List.getElem?_take] at e
   split at e
   · simpa using e
   · cases e
theorem Vr.ix (h:Vr sz f w p l) {i:Int} {n:Nat} (d:α) (h0:0≤i) (hn:n=l.length) (h1:i<n) {K:Addr→Prop} (hk: ∀a,CellsAt w a 0 (f (l.getD i.toNat d))→K a):ixK p n i sz K:=by
 subst hn
 obtain ⟨a,rfl,hc⟩:=h i.toNat (by omega)
 refine ⟨_,rfl,h0,h1,hk _ ?_⟩
 have:l.getD i.toNat d=l[i.toNat]'(by omega):=by simp [List.getD,show i.toNat<l.length by omega]
 rw [this];exact hc
theorem wr_list: ∀ (vs:List Value) (cs:Array Value) (o:Nat),o+vs.length≤cs.size→(wr cs o vs).toList=cs.toList.take o++vs++cs.toList.drop (o+vs.length)
 | [],cs,o,_=>by simp [wr]
 |v::vs,cs,o,h=>by
  simp only [List.length_cons] at h
  rw [wr,wr_list vs _ (o+1) (by simp;omega)]
  simp only [Array.toList_setIfInBounds,List.length_cons]
  have h1:o<cs.toList.length:=by simp;omega
  have e1:(cs.toList.set o v).take (o+1)=cs.toList.take o++ [v]:=by
   rw [List.take_add_one,List.take_set_of_le (Nat.le_refl _),List.getElem?_set_self h1]
   simp
  have e2:(cs.toList.set o v).drop (o+1+vs.length)=cs.toList.drop (o+ (vs.length+1)):=by
   rw [List.drop_set_of_lt (by omega),show o+1+vs.length=o+ (vs.length+1) by omega]
  rw [e1,e2]
  simp
theorem wr_size: ∀ (vs:List Value) (cs:Array Value) (o:Nat),(wr cs o vs).size=cs.size
 | [],_,_=>rfl
 |v::vs,cs,o=>by rw [wr,wr_size vs];simp
theorem store_t {b off:Nat} {cs:Array Value} {t:TypeId} {K:World→Prop}: ∀ {vs:List Value} {i:Nat},w.heap[b]? =some (.cells cs t)→off+i+vs.length≤cs.size→vs.all oneCell=true→
 (∀w',w'.heap[b]? =some (.cells (wr cs (off+i) vs) t)→Mod (·=b) w w'→w'.heap.size=w.heap.size→K w')→∃w',StoreAt ⟨b,off,none⟩ i vs w w'∧K w':=by
 intro vs
 induction vs generalizing w cs with
 |nil=>intro i h _ _ hk;exact ⟨w,rfl,hk w h (Mod.refl w) rfl⟩
 |cons v vs ih=>
  intro i h hl ho hk
  simp only [List.length_cons,List.all_cons,Bool.and_eq_true] at hl ho
  have h2:(w.setCell ⟨b,off+i,none⟩ v).heap[b]? =some (.cells (cs.setIfInBounds (off+i) v) t):=set_heap h v (by omega)
  have hm:Mod (·=b) w (w.setCell ⟨b,off+i,none⟩ v):=⟨rfl,rfl,rfl,by simp,fun k _ hk=>Below.heap_setCell w _ v k hk⟩
  obtain ⟨w',hw,hk'⟩:=ih (i:=i+1) h2 (by simp;omega) ho.2 fun w' h1 h3 h4=>hk w' (by simpa only [wr,Nat.add_assoc] using h1) (hm.trans h3) (by rw [h4];simp)
  refine ⟨w',⟨⟨cs[off+i]'(by omega),cell_add ⟨t,h⟩ (by simp [show off+i<cs.size by omega])⟩,by rw [add_at];exact frozen_of ⟨t,h⟩,ho.1,by rw [add_at];exact hw⟩,hk'⟩
theorem take_splice {xs vs:List Value} {o n:Nat} (h:o+vs.length≤n) (hn:n≤xs.length):(xs.take o++vs++xs.drop (o+vs.length)).take n=(xs.take n).take o++vs++ (xs.take n).drop (o+vs.length):=by
 apply List.ext_getElem?
 intro j
 simp only [List.getElem?_take,List.getElem?_append,List.length_append,List.length_take,List.getElem?_drop]
 repeat' split
 all_goals first
  |rfl
  |omega
  | (congr 1;omega)
theorem Row.st (E:Enc sz f) (h:Row sz f T w p c l) {i:Int} {n:Nat} (x:α) {vs:List Value} (hv:vs=f x) (ho:vs.all oneCell=true) (h0:0≤i) (hn:n=l.length) (h1:i<n) {K:World→Prop}
 (hk: ∀w',Row sz f T w' p c (l.set i.toNat x)→Mod (fun b=>blk p=some b) w w'→K w'):ixK p n i sz fun a=> ∃w',StoreAt a 0 vs w w'∧K w':=by
 subst hn hv
 rcases h.un with ⟨_,_,rfl⟩| ⟨g,cur,rfl,hg,h2,h3,h4,h5⟩
 · simp at h1;omega
 · refine ⟨_,rfl,h0,h1,?_⟩
   rw [add_at,Nat.zero_add]
   have hb:i.toNat*sz+sz≤l.length*sz:=by
    have:(i.toNat+1)*sz≤l.length*sz:=Nat.mul_le_mul_right _ (by omega)
    rwa [Nat.add_mul,Nat.one_mul] at this
   have hb2:l.length*sz≤c*sz:=Nat.mul_le_mul_right _ h2
   have hsz:=E.len x
   refine store_t (cs:=cur) hg (by rw [hsz];omega) ho fun w' hw m _=>hk w' ?_ (m.mono fun k _ e=>by simp [blk,e])
   refine Row.of_some E.len hw (by simpa using h2) h3 (by rw [wr_size];exact h4) ?_
   rw [List.length_set,Nat.add_zero,wr_list _ _ _ (by rw [hsz];omega),take_splice (by rw [hsz];omega) (by simp;omega),hsz,h5,flat_splice E.len x l i.toNat (by omega)]
def slOkN (P:Program) (t e:TypeId) (sz bytes:Nat):Bool:=
 (match P.underlying t with|some (.slice e')=>Nat.beq e' e|_=>false) && (match P.info? e with|some i=>Nat.beq i.size sz && Nat.beq i.bytes bytes && (match i.zero with|some z=>Nat.beq z.cells.size sz|none=>false)|none=>false)
theorem slOkN_spec {t e bytes:Nat} (h:slOkN P t e sz bytes=true):P.underlying t=some (.slice e)∧∃i z,P.info? e=some i∧i.zero=some z∧i.size=sz∧i.bytes=bytes∧z.cells.size=sz:=by
 simp only [slOkN,Bool.and_eq_true] at h
 obtain ⟨h1,h2⟩:=h
 split at h1
 · rename_i e' he
   have:e'=e:=Nat.eq_of_beq_eq_true h1
   subst this
   split at h2
   · rename_i i hi
     simp only [Bool.and_eq_true] at h2
     obtain ⟨⟨h3,h4⟩,h5⟩:=h2
     split at h5
     · rename_i z hz
       exact ⟨he,i,z,hi,hz,Nat.eq_of_beq_eq_true h3,Nat.eq_of_beq_eq_true h4,Nat.eq_of_beq_eq_true h5⟩
     · simp at h5
   · simp at h2
 · simp at h1
theorem Vr.flat (E:Enc sz f) {a:Addr} (h:Vr sz f w (some a) l): ∀j u,(l.flatMap f)[j]? =some u→w.cell? (a.add j)=some u:=by
 intro j u hj
 have hlt:j<l.length*sz:=by rw [← flat_len E.len l];exact (List.getElem?_eq_some_iff.1 hj).1
 have hd:j / sz<l.length:=(Nat.div_lt_iff_lt_mul E.pos).2 hlt
 have hm:=Nat.mod_lt j E.pos
 have e:j=j / sz*sz+j % sz:=by rw [Nat.mul_comm];exact (Nat.div_add_mod j sz).symm
 obtain ⟨a',ha,hc⟩:=h (j / sz) hd
 simp only [Option.some.injEq] at ha
 subst ha
 rw [e,flat_get E.len l _ _ hd hm] at hj
 have:=hc.get (j % sz) u hj
 rw [add_add,Nat.zero_add,← e] at this
 exact this
theorem Row.app {t ty e bytes:Nat} (E:Enc sz f) (hs:slOkN P t e sz bytes=true) (h:Row sz f e w p c l) {news:List α} {m k n:Nat} (h2:Vr sz f w q news) (hn:n=l.length) (hm:m=news.length)
 (hlen:(l.length+news.length)* (bytes+1)≤140737488355328) {K:World→Option Addr→Nat→Nat→Prop}
 (hk: ∀w' p' c',Row sz f e w' p' c' (l++news)→Mod (fun b=>blk p=some b) w w'→(p'=p∨p'=some ⟨w.heap.size,0,none⟩)→w.heap.size≤w'.heap.size→K w' p' (l++news).length c'):
 ∃w',∃p' n' c',(Builtin.append_ #[t,t] ty #[.slice p n c,.slice q m k]).run P w= .ok (.slice p' n' c') w'∧K w' p' n' c':=by
 obtain ⟨ht,i,z,hi,hz,h1,hby,h3⟩:=slOkN_spec hs
 subst hn hm
 rcases Nat.eq_zero_or_pos news.length with h0|hpos
 · have:news= []:=List.eq_nil_of_length_eq_zero h0
   subst this
   refine ⟨w,p,l.length,c,?_,?_⟩
   · rcases h.un with ⟨rfl,rfl,rfl⟩| ⟨g,cur,rfl,hg,g1,g2,g3,g4⟩<;>cases q<;>
      simp [Builtin.append_,run_underlying ht,sizeOf,typeInfo,Builtin.lenOf,Builtin.firstCells,loadCells,loadCellsFrom,storeCells, *]
   · have:=hk w p c (by simpa using h) (Mod.refl w) (.inl rfl) (Nat.le_refl _)
     simpa using this
 · obtain ⟨a,rfl,_⟩:=h2 0 hpos
   have hb:(l.length+news.length)*bytes≤140737488355328:=Nat.le_trans (Nat.mul_le_mul_left _ (Nat.le_succ _)) hlen
   have hb2:l.length+news.length≤140737488355328:=Nat.le_trans (Nat.le_mul_of_pos_right _ (Nat.succ_pos _)) hlen
   have hll:(l++news).length=l.length+news.length:=by simp
   have hfl:=flat_len E.len l
   have hfn:=flat_len E.len news
   have hns:(news.flatMap f).length=news.length*i.size:=by rw [hfn,h1]
   have hnc:=h2.flat E
   have hone: ∀u∈news.flatMap f,u.oneCell'=true:=fun u hu=>by obtain ⟨x,_,hx⟩:=List.mem_flatMap.1 hu;exact E.one x u hx
   have hle:l.length*sz+news.length*sz=(l.length+news.length)*sz:=(Nat.add_mul _ _ _).symm
   have fresh: ∀old,Row sz f e (w.drew.alloc (.cells ((l.flatMap f).toArray++ (news.flatMap f).toArray++Builtin.zeroCells z.cells (grownCap w (l.length+news.length) old e - (l.length+news.length))) e))
    (some ⟨w.heap.size,0,none⟩) (grownCap w (l.length+news.length) old e) (l++news):=by
    intro old
    have hge:=grownCap_ge w (l.length+news.length) old e
    have hlm:grownCap w (l.length+news.length) old e≤maxLen:=grownCap_le_maxLen w _ old e (by simp only [maxLen];omega)
    refine Row.of_some E.len (cur:=(l.flatMap f).toArray++ (news.flatMap f).toArray++Builtin.zeroCells z.cells (grownCap w (l.length+news.length) old e - (l.length+news.length))) Array.getElem?_push_size (by omega) hlm ?_ ?_
    · simp only [Array.size_append,List.size_toArray,size_zeroCells,h3,hfl,hfn,hle]
      rw [← Nat.add_mul];congr 1;omega
    · simp only [Array.toList_append,List.flatMap_append]
      rw [hll,← hle,List.take_append_of_le_length (by simp [hfl,hfn]),List.take_of_length_le (by simp [hfl,hfn])]
   have gr: ∀ (o:Obj),Mod (fun b=>blk p=some b) w (w.drew.alloc o):=fun o=> ⟨rfl,rfl,rfl,by simp,fun k hk _=>Below.heap_alloc w.drew o k hk⟩
   rcases h.un with ⟨rfl,rfl,rfl⟩| ⟨g,cur,rfl,hg,g1,g2,g3,g4⟩
   · have hr:=run_append_nil (P:=P) w t ty e i z ht hi hz a news.length k (news.flatMap f) hns hnc hpos (by simp at hb2;omega) (by rw [hby];simp at hb;omega)
     have hf:=fresh 0
     simp only [List.length_nil,Nat.zero_add,List.flatMap_nil,List.nil_append] at hf hr hll hk ⊢
     refine ⟨_,_,_,_,hr,?_⟩
     exact hk _ _ _ (by simpa using hf) (gr _) (.inr rfl) (by simp)
   · by_cases hroom:l.length+news.length≤c
     · have hcs:l.length*sz+news.length*sz≤cur.size:=by rw [hle,g3];exact Nat.mul_le_mul_right _ hroom
       have hr:=run_append_room (P:=P) w t ty e i ht hi g l.length c cur hg a news.length k (news.flatMap f) hns hnc hone hroom (by rw [h1,hfn];exact hcs)
       refine ⟨_,_,_,_,hr,?_⟩
       rw [← hll]
       refine hk _ _ _ (Row.of_some E.len (setRow_heap w g cur _ e _ hg) (by omega) g2 ?_ ?_) ⟨rfl,rfl,rfl,by simp,fun k _ hk=>setRow_other w g k _ fun he=>hk (by simp [blk,he])⟩ (.inl rfl) (by simp)
       · simp only [List.size_toArray,List.length_append,List.length_take,List.length_drop,Array.length_toList,hfn,h1]
         omega
       · rw [hll,h1,List.flatMap_append,← hle,← g4]
         rw [List.take_append_of_le_length (by simp [hfn];omega),List.take_of_length_le (by simp [hfn];omega)]
     · have hr:=run_append_grow (P:=P) w t ty e i z ht hi hz ⟨g,0,none⟩ l.length c (l.flatMap f) (by rw [hfl,h1]) ((Row.vr E h).flat E) a news.length k (news.flatMap f) hns hnc (by omega) (by omega) (growslice_fits (by omega) (by rw [hby];exact hb))
       refine ⟨_,_,_,_,hr,?_⟩
       rw [← hll]
       exact hk _ _ _ (by rw [hll];exact fresh c) (gr _) (.inr rfl) (by simp)
end Go.Fw
namespace Go.Fw
open Go Go.RowKit
variable {P:Program} {α:Type} {f:α→Value} {T T':TypeId} {w w':World} {p q:Option Addr} {c:Nat} {l:List α}
structure Sl where
 p:Option Addr
 n:Nat
 c:Nat
abbrev Sl.v (s:Sl):Value:= .slice s.p s.n s.c
def Sl.nil:Sl:=⟨none,0,0⟩
structure V2 (f:α→Value) (w:World) (p:Option Addr) (hs:List Sl) (rows:List (List α)):Prop where
 h:Vw Sl.v w p hs
 n:hs.length=rows.length
 r: ∀j,j<rows.length→(hs.getD j Sl.nil).n=(rows.getD j []).length∧(hs.getD j Sl.nil).n≤maxLen∧Vw f w (hs.getD j Sl.nil).p (rows.getD j [])
def foot2 (p:Option Addr) (hs:List Sl) (k:Nat):Prop:=blk p=some k∨∃h∈hs,blk h.p=some k
theorem V2.keep {S:Nat→Prop} {hs:List Sl} {rows:List (List α)} (h:V2 f w p hs rows) (m:Mod S w w') (hS: ∀k,foot2 p hs k→¬S k):V2 f w' p hs rows:=by
 refine ⟨h.h.keep m fun k hk=>hS k (.inl hk),h.n,fun j hj=> ?_⟩
 obtain ⟨h1,h2,h3⟩:=h.r j hj
 refine ⟨h1,h2,h3.keep m fun k hk=>hS k (.inr ⟨_,?_,hk⟩)⟩
 have:j<hs.length:=by rw [h.n];exact hj
 simp [List.getD,this]
theorem V2.grow {hs:List Sl} {rows:List (List α)} (h:V2 f w p hs rows) (m:Grow w w'):V2 f w' p hs rows:=h.keep m fun _ _=>id
theorem V2.drew {hs:List Sl} {rows:List (List α)} (h:V2 f w p hs rows):V2 f w.drew p hs rows:=h.grow (Mod.refl w).drew
theorem V2.nil:V2 f w p [] []:=⟨Vw.nil,rfl,fun j hj=>by simp at hj⟩
theorem V2.ix {hs:List Sl} {rows:List (List α)} (h:V2 f w p hs rows) {i:Int} {n:Nat} (h0:0≤i) (hn:n=rows.length) (h1:i<n) {K:Addr→Prop}
 (hk: ∀a s,w.cell? a=some (.slice s.p s.n s.c)→s=hs.getD i.toNat Sl.nil→s.n=(rows.getD i.toNat []).length→s.n≤maxLen→Vw f w s.p (rows.getD i.toNat [])→K a):ixK p n i 1 K:=by
 refine h.h.ix Sl.nil h0 (by rw [h.n];exact hn) h1 fun a e=> ?_
 obtain ⟨g1,g2,g3⟩:=h.r i.toNat (by omega)
 exact hk a _ e rfl g1 g2 g3
theorem rows_of_rd {s:Sh} {v:Value} (hr: ∀v,RdV w (.sl s) v→∃p n c l,v= .slice p n c∧n=l.length∧n≤c∧c≤maxLen∧Vw f w p l) (h:RdV w (.sl (.sl s)) v):
 ∃p n c hs rows,v= .slice p n c∧n=rows.length∧n≤c∧c≤maxLen∧V2 f w p hs rows:=by
 rcases h with rfl| ⟨a,len,cap,rfl,h1,h2,h3⟩
 · exact ⟨none,0,0,[],[],rfl,rfl,Nat.le_refl _,Nat.zero_le _,V2.nil⟩
 · have: ∀i,∃x:Sl × List α,i<len→w.cell? (a.add i)=some x.1.v∧x.1.n=x.2.length∧x.1.n≤maxLen∧Vw f w x.1.p x.2:=by
    intro i
    by_cases hi:i<len
    · obtain ⟨es,he,hc,hrd⟩:=h3 i hi
      have hv: ∃v,es= [v]∧RdV w (.sl s) v:=by
       rcases hrd with rfl| ⟨a',len',cap',rfl,g⟩
       · exact ⟨_,rfl,.inl rfl⟩
       · exact ⟨_,rfl,.inr ⟨a',len',cap',rfl,g⟩⟩
      obtain ⟨v,rfl,hv⟩:=hv
      obtain ⟨p,n,c,l,rfl,g1,g2,g3,g4⟩:=hr v hv
      refine ⟨(⟨p,n,c⟩,l),fun _=> ⟨?_,g1,Nat.le_trans g2 g3,g4⟩⟩
      have:=hc.1
      rwa [show Sh.size (.sl s)=1 from rfl,Nat.mul_one,show (a.add i).add 0=a.add i by rw [add_add,Nat.add_zero]] at this
    · exact ⟨(Sl.nil,[]),fun h=>absurd h hi⟩
   have gd: ∀ {β:Type} (g:Nat→β) (d:β) (j:Nat),j<len→((List.range len).map g).getD j d=g j:=by
    intro β g d j hj
    simp [List.getD,hj]
   refine ⟨some a,len,cap,(List.range len).map fun i=> (Classical.choose (this i)).1,(List.range len).map fun i=> (Classical.choose (this i)).2,rfl,by simp,h1,h2,⟨fun j hj=> ⟨a,rfl,?_⟩,by simp,fun j hj=> ?_⟩⟩
   · have hj':j<len:=by simpa using hj
     rw [(Classical.choose_spec (this j) hj').1]
     simp
   · have hj':j<len:=by simpa using hj
     rw [gd _ _ _ hj',gd _ _ _ hj']
     exact (Classical.choose_spec (this j) hj').2
theorem ints_of_rd' {v:Value} (h:RdV w (.sl (.int .i64)) v): ∃p n c l,v= .slice p n c∧n=l.length∧n≤c∧c≤maxLen∧Vw (Value.int .i64) w p l:=by
 obtain ⟨p,n,c,l,h1,h2,h3,h4,h5,_⟩:=ints_of_rd h
 exact ⟨p,n,c,l,h1,h2,h3,h4,h5⟩
structure Own2 (f:α→Value) (T T':TypeId) (w:World) (p:Option Addr) (c:Nat) (hs:List Sl) (rows:List (List α)):Prop where
 h:Ow Sl.v T w p c hs
 n:hs.length=rows.length
 r: ∀j,j<rows.length→(hs.getD j Sl.nil).n=(rows.getD j []).length∧Ow f T' w (hs.getD j Sl.nil).p (hs.getD j Sl.nil).c (rows.getD j [])
 d0: ∀j k,j<rows.length→blk (hs.getD j Sl.nil).p=some k→blk p≠some k
 d: ∀i j k,i<rows.length→j<rows.length→i≠j→blk (hs.getD i Sl.nil).p=some k→blk (hs.getD j Sl.nil).p≠some k
theorem mem_getD {hs:List Sl} {h:Sl} (hm:h∈hs): ∃j,j<hs.length∧hs.getD j Sl.nil=h:=by
 obtain ⟨j,hj⟩:=List.getElem?_of_mem hm
 have hl:=(List.getElem?_eq_some_iff.1 hj).1
 exact ⟨j,hl,by simp [List.getD,hj]⟩
theorem Own2.v2 {hs:List Sl} {rows:List (List α)} (h:Own2 f T T' w p c hs rows):V2 f w p hs rows:=
 ⟨h.h.vw,h.n,fun j hj=>by
   obtain ⟨h1,h2⟩:=h.r j hj
   exact ⟨h1,by rw [h1];exact h2.cap,h2.vw⟩⟩
theorem Own2.keep {S:Nat→Prop} {hs:List Sl} {rows:List (List α)} (h:Own2 f T T' w p c hs rows) (m:Mod S w w') (hS: ∀k,foot2 p hs k→¬S k):Own2 f T T' w' p c hs rows:=by
 refine ⟨h.h.keep m fun k hk=>hS k (.inl hk),h.n,fun j hj=> ?_,h.d0,h.d⟩
 obtain ⟨h1,h2⟩:=h.r j hj
 refine ⟨h1,h2.keep m fun k hk=>hS k (.inr ⟨_,?_,hk⟩)⟩
 have:j<hs.length:=by rw [h.n];exact hj
 simp [List.getD,this]
theorem Own2.grow {hs:List Sl} {rows:List (List α)} (h:Own2 f T T' w p c hs rows) (m:Grow w w'):Own2 f T T' w' p c hs rows:=h.keep m fun _ _=>id
theorem Own2.lt {hs:List Sl} {rows:List (List α)} (h:Own2 f T T' w p c hs rows): ∀k,foot2 p hs k→k<w.heap.size:=by
 rintro k (hk| ⟨s,hs',hk⟩)
 · exact h.h.lt k hk
 · obtain ⟨j,hj,rfl⟩:=mem_getD hs'
   exact (h.r j (by rw [← h.n];exact hj)).2.lt k hk
theorem getD_set {β:Type} {l:List β} {i j:Nat} {x d:β} (hi:i<l.length):(l.set i x).getD j d=if j=i then x else l.getD j d:=by
 simp only [List.getD_eq_getElem?_getD,List.getElem?_set]
 by_cases h:j=i
 · subst h;simp [hi]
 · rw [if_neg (fun e=>h e.symm),if_neg h]
theorem Own2.set {hs:List Sl} {rows:List (List α)} (h:Own2 f T T' w p c hs rows) {i:Nat} (hi:i<rows.length) {l':List α} (hl:l'.length=(rows.getD i []).length) (o:Ow f T' w' (hs.getD i Sl.nil).p (hs.getD i Sl.nil).c l')
 (m:Mod (fun k=>blk (hs.getD i Sl.nil).p=some k) w w'):Own2 f T T' w' p c hs (rows.set i l'):=by
 refine ⟨h.h.keep m fun k hk hk'=>h.d0 i k hi hk' hk,by rw [List.length_set];exact h.n,fun j hj=> ?_,fun j k hj=>h.d0 j k (by simpa using hj),fun i j k hi hj=>h.d i j k (by simpa using hi) (by simpa using hj)⟩
 have hj:j<rows.length:=by simpa using hj
 rw [getD_set hi]
 by_cases e:j=i
 · subst e
   rw [if_pos rfl]
   exact ⟨by rw [hl];exact (h.r j hi).1,o⟩
 · rw [if_neg e]
   exact ⟨(h.r j hj).1,(h.r j hj).2.keep m fun k hk hk'=>h.d i j k hi hj (fun e2=>e e2.symm) hk' hk⟩
theorem getD_app {β:Type} {l:List β} {j:Nat} {x d:β}:(l++ [x]).getD j d=if j=l.length then x else l.getD j d:=by
 simp only [List.getD_eq_getElem?_getD]
 by_cases h:j=l.length
 · subst h;simp
 · rw [if_neg h]
   by_cases h2:j<l.length
   · rw [List.getElem?_append_left h2]
   · rw [List.getElem?_eq_none (by simp;omega),List.getElem?_eq_none (by omega)]
theorem Own2.app1 {t ty bytes:Nat} (hs':slOk P t T bytes=true) {hs:List Sl} {rows:List (List α)} (h:Own2 f T T' w p c hs rows) {b n:Nat} {s:Sl} {x:List α} (hb:Has w b #[s.v]) (hn:n=rows.length) (ho:Ow f T' w s.p s.c x) (hsn:s.n=x.length)
 (hd: ∀k,blk s.p=some k→¬foot2 p hs k) (hlen:(rows.length+1)* (bytes+1)≤140737488355328) {K:World→Option Addr→Nat→Nat→Prop}
 (hk: ∀w' p' c',Own2 f T T' w' p' c' (hs++ [s]) (rows++ [x])→Mod (fun b=>blk p=some b) w w'→(p'=p∨p'=some ⟨w.heap.size,0,none⟩)→w.heap.size≤w'.heap.size→K w' p' (rows.length+1) c'):
 ∃w',∃p' n' c',(Builtin.append_ #[t,t] ty #[.slice p n c,.slice (some ⟨b,0,none⟩) 1 1]).run P w= .ok (.slice p' n' c') w'∧K w' p' n' c':=by
 refine h.h.app1 hs' s hb rfl (by rw [h.n];exact hn) (fun _=>rfl) (by rw [h.n];exact hlen) fun w' p' c' o m hp hsz=> ?_
 rw [h.n]
 refine hk w' p' c' ⟨o,by simp [h.n],fun j hj=> ?_,fun j k hj hb' hp'=> ?_,fun i j k hi hj hij h1 h2=> ?_⟩ m hp hsz
 · rw [getD_app,getD_app,h.n]
   by_cases e:j=rows.length
   · rw [if_pos e,if_pos e]
     exact ⟨hsn,ho.keep m fun k hk e=>hd k hk (.inl e)⟩
   · rw [if_neg e,if_neg e]
     have hj:j<rows.length:=by simp at hj;omega
     exact ⟨(h.r j hj).1,(h.r j hj).2.keep m fun k hk e=>h.d0 j k hj hk e⟩
 · rw [getD_app,h.n] at hb'
   have hlt:=h.lt
   by_cases e:j=rows.length
   · rw [if_pos e] at hb'
     rcases hp with rfl|rfl
     · exact hd k hb' (.inl hp')
     · simp [blk] at hp'
       have:=ho.lt k hb'
       omega
   · rw [if_neg e] at hb'
     have hj:j<rows.length:=by simp at hj;omega
     rcases hp with rfl|rfl
     · exact h.d0 j k hj hb' hp'
     · simp [blk] at hp'
       have:=(h.r j hj).2.lt k hb'
       omega
 · rw [getD_app,h.n] at h1 h2
   have hi:i≤rows.length:=by simp at hi;omega
   have hj:j≤rows.length:=by simp at hj;omega
   have mem: ∀i,i<rows.length→hs.getD i Sl.nil∈hs:=fun i hi=>by
    have:i<hs.length:=by rw [h.n];exact hi
    simp [List.getD,this]
   by_cases e1:i=rows.length
   · by_cases e2:j=rows.length
     · omega
     · rw [if_pos e1] at h1
       rw [if_neg e2] at h2
       exact hd k h1 (.inr ⟨_,mem j (by omega),h2⟩)
   · rw [if_neg e1] at h1
     by_cases e2:j=rows.length
     · rw [if_pos e2] at h2
       exact hd k h2 (.inr ⟨_,mem i (by omega),h1⟩)
     · rw [if_neg e2] at h2
       exact h.d i j k (by omega) (by omega) hij h1 h2
end Go.Fw
namespace Go.Fw
open Go Go.RowKit
variable {P:Program} {α:Type} {f:α→Value} {T:TypeId} {w w':World} {p q:Option Addr} {c:Nat} {hs ns:List Sl} {rows nrows:List (List α)}
theorem Vw.keepN {S:Nat→Prop} {l:List α} (h:Vw f w p l) (m:Mod S w w') (hs:l≠[]→∀b,blk p=some b→¬S b):Vw f w' p l:=by
 by_cases hl:l= []
 · subst hl;exact Vw.nil
 · exact h.keep m (hs hl)
structure VR (f:α→Value) (w:World) (hs:List Sl) (rows:List (List α)):Prop where
 n:hs.length=rows.length
 r: ∀j,j<rows.length→(hs.getD j Sl.nil).n=(rows.getD j []).length∧(hs.getD j Sl.nil).n≤maxLen∧Vw f w (hs.getD j Sl.nil).p (rows.getD j [])
def rfoot (hs:List Sl) (k:Nat):Prop:= ∃h∈hs,0<h.n∧blk h.p=some k
theorem VR.keep {S:Nat→Prop} (h:VR f w hs rows) (m:Mod S w w') (hS: ∀k,rfoot hs k→¬S k):VR f w' hs rows:=by
 refine ⟨h.n,fun j hj=> ?_⟩
 obtain ⟨h1,h2,h3⟩:=h.r j hj
 refine ⟨h1,h2,h3.keepN m fun hne k hk=>hS k ⟨_,?_,?_,hk⟩⟩
 · have:j<hs.length:=by rw [h.n];exact hj
   simp [List.getD,this]
 · rw [h1];exact List.length_pos_iff.2 hne
theorem VR.grow (h:VR f w hs rows) (m:Grow w w'):VR f w' hs rows:=h.keep m fun _ _=>id
theorem VR.drew (h:VR f w hs rows):VR f w.drew hs rows:=h.grow (Mod.refl w).drew
theorem VR.nil:VR f w [] []:=⟨rfl,fun j hj=>by simp at hj⟩
theorem VR.lt (h:VR f w hs rows): ∀k,rfoot hs k→k<w.heap.size:=by
 rintro k ⟨s,hm,h0,hk⟩
 obtain ⟨j,hj,rfl⟩:=mem_getD hm
 obtain ⟨h1,h2,h3⟩:=h.r j (by rw [← h.n];exact hj)
 exact h3.lt (List.length_pos_iff.1 (by rw [← h1];exact h0)) k hk
theorem getD_app2 {β:Type} {l k:List β} {j:Nat} {d:β}:(l++k).getD j d=if j<l.length then l.getD j d else k.getD (j - l.length) d:=by
 simp only [List.getD_eq_getElem?_getD]
 by_cases h:j<l.length
 · rw [if_pos h,List.getElem?_append_left h]
 · rw [if_neg h,List.getElem?_append_right (by omega)]
theorem VR.app (h:VR f w hs rows) (k:VR f w ns nrows):VR f w (hs++ns) (rows++nrows):=by
 refine ⟨by simp [h.n,k.n],fun j hj=> ?_⟩
 rw [getD_app2,getD_app2,h.n]
 by_cases e:j<rows.length
 · rw [if_pos e,if_pos e];exact h.r j e
 · rw [if_neg e,if_neg e]
   exact k.r (j - rows.length) (by simp at hj;omega)
theorem VR.one {s:Sl} {l:List α} (h:Vw f w s.p l) (hn:s.n=l.length) (hm:s.n≤maxLen):VR f w [s] [l]:=by
 refine ⟨rfl,fun j hj=> ?_⟩
 have:j=0:=by simpa using hj
 subst this
 exact ⟨hn,hm,h⟩
theorem VR.v2 (h:VR f w hs rows) (v:Vw Sl.v w p hs):V2 f w p hs rows:=⟨v,h.n,h.r⟩
theorem V2.vr (h:V2 f w p hs rows):VR f w hs rows:=⟨h.n,h.r⟩
structure OV (f:α→Value) (T:TypeId) (w:World) (p:Option Addr) (c:Nat) (hs:List Sl) (rows:List (List α)):Prop where
 h:Ow Sl.v T w p c hs
 v:VR f w hs rows
 d: ∀k,rfoot hs k→blk p≠some k
theorem OV.nil:OV f T w none 0 [] []:=⟨Ow.nil _ _ _,VR.nil,fun k ⟨s,hs,_⟩=>by simp at hs⟩
def OV.foot (p:Option Addr) (hs:List Sl) (k:Nat):Prop:=blk p=some k∨rfoot hs k
theorem OV.keep {S:Nat→Prop} (h:OV f T w p c hs rows) (m:Mod S w w') (hS: ∀k,OV.foot p hs k→¬S k):OV f T w' p c hs rows:=
 ⟨h.h.keep m fun k hk=>hS k (.inl hk),h.v.keep m fun k hk=>hS k (.inr hk),h.d⟩
theorem OV.grow (h:OV f T w p c hs rows) (m:Grow w w'):OV f T w' p c hs rows:=h.keep m fun _ _=>id
theorem OV.drew (h:OV f T w p c hs rows):OV f T w.drew p c hs rows:=h.grow (Mod.refl w).drew
theorem OV.lt (h:OV f T w p c hs rows): ∀k,OV.foot p hs k→k<w.heap.size:=by
 rintro k (hk|hk)
 · exact h.h.lt k hk
 · exact h.v.lt k hk
theorem OV.v2 (h:OV f T w p c hs rows):V2 f w p hs rows:=h.v.v2 h.h.vw
theorem rfoot_app {k:Nat}:rfoot (hs++ns) k↔rfoot hs k∨rfoot ns k:=by
 constructor
 · rintro ⟨s,hm,h⟩
   rcases List.mem_append.1 hm with hm|hm
   · exact .inl ⟨s,hm,h⟩
   · exact .inr ⟨s,hm,h⟩
 · rintro (⟨s,hm,h⟩| ⟨s,hm,h⟩)
   · exact ⟨s,List.mem_append_left _ hm,h⟩
   · exact ⟨s,List.mem_append_right _ hm,h⟩
theorem OV.app {t ty bytes:Nat} (hsl:slOk P t T bytes=true) (h:OV f T w p c hs rows) {n m k:Nat} (hv:Vw Sl.v w q ns) (hr:VR f w ns nrows) (hn:n=hs.length) (hm:m=ns.length) (hd: ∀k,rfoot ns k→blk p≠some k)
 (hlen:(hs.length+ns.length)* (bytes+1)≤140737488355328) {K:World→Option Addr→Nat→Nat→Prop}
 (hk: ∀w' p' c',OV f T w' p' c' (hs++ns) (rows++nrows)→Mod (fun b=>blk p=some b) w w'→(p'=p∨p'=some ⟨w.heap.size,0,none⟩)→w.heap.size≤w'.heap.size→K w' p' (hs++ns).length c'):
 ∃w',∃p' n' c',(Builtin.append_ #[t,t] ty #[.slice p n c,.slice q m k]).run P w= .ok (.slice p' n' c') w'∧K w' p' n' c':=by
 refine h.h.appV hsl hv hn hm (fun _=>rfl) hlen fun w' p' c' o mm hp hz=>hk w' p' c' ⟨o,?_,?_⟩ mm hp hz
 · exact (h.v.keep mm fun k hk e=>h.d k hk e).app (hr.keep mm fun k hk e=>hd k hk e)
 · intro j hj e
   rcases hp with h1|h1<;>rw [h1] at e
   · rcases rfoot_app.1 hj with hj|hj
     · exact h.d j hj e
     · exact hd j hj e
   · have:j=w.heap.size:=by simp [blk] at e;exact e.symm
     rcases rfoot_app.1 hj with hj|hj
     · have:=h.v.lt j hj;omega
     · have:=hr.lt j hj;omega
theorem cell_add2 {b i j:Nat} {cs:Array Value} {v:Value} (h:Has w b cs) (hv:cs[0+i+j]? =some v):w.cell? (((Addr.mk b 0 none).add i).add j)=some v:=by rw [add_at,add_at];exact cell_of h hv
theorem blk_some {n:Nat} {k:Nat} (h:blk (some ⟨n,0,none⟩)=some k):k=n:=by simp [blk] at h;exact h.symm
theorem New.size {o:Obj} {n:Nat} (h:New o w n w'):w'.heap.size=w.heap.size+1:=by rw [h.eq];simp
end Go.Fw
namespace Go.Fw
open Go Go.RowKit
variable {P:Program} {α:Type} {f:α→Value} {T:TypeId} {w w':World} {p:Option Addr} {c:Nat} {l:List α}
theorem Ow.clear {t ty e bytes:Nat} (hs:slOk P t e bytes=true) {x:α} {v:Value} (hz:(P.info? e).bind (·.zero)=some v) (hv:v.cells= #[f x]) (ho:(f x).oneCell'=true) (h:Ow f e w p c l) {k m d:Nat} (hk:k+m=l.length) (hm:0<m) {K:World→Prop}
 (hK: ∀w',Ow f e w' p c (l.take k)→Mod (fun b=>blk p=some b) w w'→K w'):
 ∃w',(Builtin.clear_ #[t] ty #[.slice (p.map (·.add (k*1))) m d]).run P w= .ok (.tuple #[]) w'∧K w':=by
 obtain ⟨ht,i,z,hi,hz',h1,hb,h3⟩:=slOk_spec hs
 have hzz:z=v:=by simp only [hi,Option.bind_some] at hz;rw [hz'] at hz;exact Option.some.inj hz
 subst hzz
 rcases h.un with ⟨rfl,rfl,rfl⟩| ⟨g,cur,rfl,hg,g1,g2,g3,g4⟩
 · simp at hk;omega
 · have hzc:(Builtin.zeroCells z.cells m).toList=List.replicate m (f x):=by
    rw [hv]
    simp [Builtin.zeroCells]
    apply List.ext_getElem
    · simp
    · intro i h1 h2
      simp [Nat.mod_one]
   obtain ⟨w2,hst,hh⟩:=store_t (b:=g) (off:=0+k*1) (i:=0) (vs:=List.replicate m (f x)) (K:=fun w'=> ∃w'':World,w''=w'∧w'.heap[g]? =some (.cells (wr cur (0+k*1+0) (List.replicate m (f x))) e (0,0))∧Mod (·=g) w w') hg (by simp;omega) (by
    rw [List.all_eq_true];intro u hu;rw [List.eq_of_mem_replicate hu];exact ho) fun w' a1 a2 _=> ⟨w',rfl,a1,a2⟩
   obtain ⟨_,_,a1,a2⟩:=hh
   refine ⟨w2,?_,hK w2 ?_ (a2.mono fun b _ hb=>by subst hb;rfl)⟩
   · have hr:=run_storeCells (P:=P) ⟨g,0+k*1,none⟩ _ _ _ _ hst
     obtain ⟨m,rfl⟩: ∃n,m=n+1:=⟨m - 1,by omega⟩
     have hzv:(zeroValue e:Sem Value).run P w= .ok z w:=by
      simp [zeroValue,typeInfo,hi,hz',Sem.run_bind]
     simp only [Option.map_some,add_at]
     rw [Nat.zero_add,Nat.mul_one] at hr
     simp [Builtin.clear_,run_underlying ht,hzv,hzc,hr]
   · have hw:(wr cur (0+k*1+0) (List.replicate m (f x))).toList=cur.toList.take k++List.replicate m (f x)++cur.toList.drop (k+m):=by
      rw [wr_list _ _ _ (by simp;omega)]
      simp
     refine Ow.of_some a1 (by simp;omega) g2 (by rw [wr_size];exact g3) ?_
     rw [hw,List.length_take,Nat.min_eq_left (by omega),List.append_assoc,List.take_append_of_le_length (by simp;omega),List.take_take,Nat.min_self,List.map_take,← g4,List.take_take,Nat.min_eq_left (by omega)]
end Go.Fw
namespace Go.Fw
open Go Go.RowKit
variable {P:Program} {α:Type} {f:α→Value} {T:TypeId} {w w':World} {p q:Option Addr} {c:Nat} {l:List α}
theorem Ow.copy {t ty e bytes:Nat} (hs:slOk P t e bytes=true) (h:Ow f e w p c l) {o m d k:Nat} {news:List α} (h2:Vw f w q news) (hm:m=news.length) (hfit:o+m≤l.length) (ho: ∀x,(f x).oneCell'=true) {K:World→Prop}
 (hk: ∀w',Ow f e w' p c (l.take o++news++l.drop (o+m))→Mod (fun b=>blk p=some b) w w'→w'.heap.size=w.heap.size→K w'):
 ∃w',∃r:Int,(Builtin.copy_ #[t,t] ty #[.slice (p.map (·.add (o*1))) m d,.slice q m k]).run P w= .ok (.int .i64 r) w'∧K w':=by
 obtain ⟨ht,i,z,hi,hz,h1,hb,h3⟩:=slOk_spec hs
 have hsz:(P.info? e).map (·.size)=some 1:=by rw [hi];simp [h1]
 subst hm
 rcases Nat.eq_zero_or_pos news.length with h0|h0
 · have hn:news= []:=List.eq_nil_of_length_eq_zero h0
   subst hn
   refine ⟨w,0,run_copy_none w t t ty e _ _ _ _ _ _ ht hsz (by simp),?_⟩
   exact hk w (by simpa using h) (Mod.refl w) rfl
 · obtain ⟨a,rfl,_⟩:=h2 0 h0
   rcases h.un with ⟨rfl,rfl,rfl⟩| ⟨g,cur,rfl,hg,g1,g2,g3,g4⟩
   · rw [List.length_nil] at hfit;omega
   · have hr:=run_copy_row (P:=P) w t t ty e g o news.length d a news.length k cur e (news.map f) ht hsz hg (by simp) (fun j v hj=>by
      have hj':j<news.length:=by have:=(List.getElem?_eq_some_iff.1 hj).1;simpa using this
      obtain ⟨a',ha,hc⟩:=h2 j hj'
      simp only [Option.some.injEq] at ha
      subst ha
      rw [hc]
      simpa [hj'] using hj) (by simp;omega) (fun u hu=>by obtain ⟨x,_,rfl⟩:=List.mem_map.1 hu;exact ho x)
     refine ⟨_,((news.map f).length:Int),?_,hk (w.setRow g (cur.toList.take o++news.map f++cur.toList.drop (o+ (news.map f).length)).toArray) (Ow.of_some (setRow_heap w g cur _ e _ hg) (by simp;omega) g2 ?_ ?_) ⟨rfl,rfl,rfl,by simp,fun k _ hk=>setRow_other w g k _ fun he=>hk (by simp [blk,he])⟩ (by simp [World.setRow])⟩
     · simp only [Option.map_some,add_at,Nat.zero_add,Nat.mul_one]
       exact hr
     · simp;omega
     · have hl:(l.take o++news++l.drop (o+news.length)).length=l.length:=by simp;omega
       rw [hl,List.map_append,List.map_append,List.map_take,List.map_drop,← g4]
       have hc:cur.toList.length=c:=by simpa using g3
       apply List.ext_getElem?
       intro j
       simp only [List.length_map,List.getElem?_take,List.getElem?_append,List.length_append,List.length_take,List.getElem?_drop,hc]
       repeat' split
       all_goals first
        |rfl
        |omega
        | (congr 1;omega)
end Go.Fw
namespace Go.Fw
open Go Go.RowKit
variable {P:Program} {α:Type} {f:α→Value} {T:TypeId} {w w':World} {p q q':Option Addr} {c:Nat} {l:List α}
theorem Ow.copyM {t ty e bytes:Nat} (hs:slOk P t e bytes=true) (h:Ow f e w p c l) {o m d k D:Nat} {news:List α} (h2:Vw f w q news) (hm:m=news.length) (hD:m≤D) (hq:0<m→q'=p.map (·.add (o*1))) (hfit:o+m≤l.length) (ho: ∀x,(f x).oneCell'=true) {K:Int→World→Prop}
 (hk: ∀w',Ow f e w' p c (l.take o++news++l.drop (o+m))→Mod (fun b=>blk p=some b) w w'→w'.heap.size=w.heap.size→K m w'):
 ∃w',∃r:Int,(Builtin.copy_ #[t,t] ty #[.slice q' D d,.slice q m k]).run P w= .ok (.int .i64 r) w'∧K r w':=by
 obtain ⟨ht,i,z,hi,hz,h1,hb,h3⟩:=slOk_spec hs
 have hsz:(P.info? e).map (·.size)=some 1:=by rw [hi];simp [h1]
 subst hm
 rcases Nat.eq_zero_or_pos news.length with h0|h0
 · have hn:news= []:=List.eq_nil_of_length_eq_zero h0
   subst hn
   refine ⟨w,0,run_copy_none w t t ty e _ _ _ _ _ _ ht hsz (by simp),?_⟩
   have:=hk w (by simpa using h) (Mod.refl w) rfl
   simpa using this
 · rw [hq h0]
   obtain ⟨a,rfl,_⟩:=h2 0 h0
   rcases h.un with ⟨rfl,rfl,rfl⟩| ⟨g,cur,rfl,hg,g1,g2,g3,g4⟩
   · rw [List.length_nil] at hfit;omega
   · have hr:=run_copy_row (P:=P) w t t ty e g o D d a news.length k cur e (news.map f) ht hsz hg (by rw [List.length_map];exact (Nat.min_eq_left hD).symm) (fun j v hj=>by
      have hj':j<news.length:=by have:=(List.getElem?_eq_some_iff.1 hj).1;simpa using this
      obtain ⟨a',ha,hc⟩:=h2 j hj'
      simp only [Option.some.injEq] at ha
      subst ha
      rw [hc]
      simpa [hj'] using hj) (by simp;omega) (fun u hu=>by obtain ⟨x,_,rfl⟩:=List.mem_map.1 hu;exact ho x)
     have hkk:=hk (w.setRow g (cur.toList.take o++news.map f++cur.toList.drop (o+ (news.map f).length)).toArray) (Ow.of_some (setRow_heap w g cur _ e _ hg) (by simp;omega) g2 ?_ ?_) ⟨rfl,rfl,rfl,by simp,fun k _ hk=>setRow_other w g k _ fun he=>hk (by simp [blk,he])⟩ (by simp [World.setRow])
     · refine ⟨_,((news.map f).length:Int),?_,by rw [List.length_map];exact hkk⟩
       simp only [Option.map_some,add_at,Nat.zero_add,Nat.mul_one]
       exact hr
     · simp;omega
     · have hl:(l.take o++news++l.drop (o+news.length)).length=l.length:=by simp;omega
       rw [hl,List.map_append,List.map_append,List.map_take,List.map_drop,← g4]
       have hc:cur.toList.length=c:=by simpa using g3
       apply List.ext_getElem?
       intro j
       simp only [List.length_map,List.getElem?_take,List.getElem?_append,List.length_append,List.length_take,List.getElem?_drop,hc]
       repeat' split
       all_goals first
        |rfl
        |omega
        | (congr 1;omega)
end Go.Fw
namespace Go.Fw
open Go Go.RowKit
variable {α:Type} {f:α→Value} {w w':World} {p:Option Addr} {hs:List Sl} {rows:List (List α)}
def footN (p:Option Addr) (hs:List Sl) (k:Nat):Prop:=(hs≠[]∧blk p=some k)∨rfoot hs k
theorem V2.keepN {S:Nat→Prop} (h:V2 f w p hs rows) (m:Mod S w w') (hS: ∀k,footN p hs k→¬S k):V2 f w' p hs rows:=
 (h.vr.keep m fun k hk=>hS k (.inr hk)).v2 (h.h.keepN m fun hne k hk=>hS k (.inl ⟨hne,hk⟩))
theorem V2.ltN (h:V2 f w p hs rows): ∀k,footN p hs k→k<w.heap.size:=by
 rintro k (⟨hne,hk⟩|hk)
 · exact h.h.lt hne k hk
 · exact h.vr.lt k hk
theorem V2.young {S:Nat→Prop} {w0:World} (h:V2 f w p hs rows) (h0: ∀k,footN p hs k→k<w0.heap.size) (m:Mod S w w') (hS: ∀k,S k→w0.heap.size≤k):V2 f w' p hs rows:=
 h.keepN m fun k hk hs=>by have:=h0 k hk;have:=hS k hs;omega
end Go.Fw
namespace Go.Fw
open Go Go.RowKit Go.MapKept
variable {P:Program} {α:Type} {g:α→Value} {t k e:TypeId} {w w':World} {b:Nat} {m:List (Int × α)}
def mapV (P:Program) (t k e:TypeId):Bool:=
 (match P.underlying t with|some (.map k' e')=>Nat.beq k' k && Nat.beq e' e|_=>false) && (match P.underlying k with|some (.int .i64)=>true|_=>false)
theorem mapV_spec (h:mapV P t k e=true):P.underlying t=some (.map k e)∧P.underlying k=some (.int .i64):=by
 simp only [mapV,Bool.and_eq_true] at h
 obtain ⟨h1,h2⟩:=h
 constructor
 · split at h1
   · rename_i k' e' hu
     simp only [Bool.and_eq_true] at h1
     rw [hu,Nat.eq_of_beq_eq_true h1.1,Nat.eq_of_beq_eq_true h1.2]
   · simp at h1
 · split at h2
   · assumption
   · simp at h2
def al (m:List (Int × α)) (a:Int):Option α:=(m.find? fun x=>x.1==a).map (·.2)
def ai (m:List (Int × α)) (a:Int) (v:α):List (Int × α):=if (al m a).isSome then m.map (fun x=>if x.1=a then (a,v) else x) else m++ [(a,v)]
def ad (m:List (Int × α)) (a:Int):List (Int × α):=m.filter fun x=> !(x.1==a)
theorem al_none {a:Int}:al m a=none↔∀x∈m,x.1≠a:=by
 unfold al
 rw [Option.map_eq_none_iff,List.find?_eq_none]
 simp
theorem al_mem {a:Int} {x:α} (h:al m a=some x):(a,x)∈m:=by
 unfold al at h
 rw [Option.map_eq_some_iff] at h
 obtain ⟨y,h1,rfl⟩:=h
 have h2:=List.find?_some h1
 have h3:=List.mem_of_find?_eq_some h1
 have:y.1=a:=by simpa using h2
 rw [← this];exact h3
theorem al_of (nd:(m.map (·.1)).Nodup) {a:Int} {x:α} (h:(a,x)∈m):al m a=some x:=by
 cases ha:al m a with
 |none=>exact absurd rfl (al_none.1 ha (a,x) h)
 |some y=>
  have h2:=al_mem ha
  obtain ⟨i,hi,e1⟩:=List.mem_iff_getElem.1 h
  obtain ⟨j,hj,e2⟩:=List.mem_iff_getElem.1 h2
  have:=(List.getElem_inj (h₀:=show i< (m.map (·.1)).length by simpa using hi) (h₁:=show j< (m.map (·.1)).length by simpa using hj) nd).1 (by rw [List.getElem_map,List.getElem_map,e1,e2])
  subst this
  rw [e1] at e2
  rw [(Prod.mk.inj e2).2]
theorem ai_keys (m:List (Int × α)) (a:Int) (v:α):(ai m a v).map (·.1)=if (al m a).isSome then m.map (·.1) else m.map (·.1)++ [a]:=by
 unfold ai
 split
 · rw [List.map_map]
   refine List.map_congr_left fun x _=> ?_
   simp only [Function.comp]
   split
   · rename_i h;exact h.symm
   · rfl
 · simp
theorem ai_nodup (nd:(m.map (·.1)).Nodup) (a:Int) (v:α):((ai m a v).map (·.1)).Nodup:=by
 rw [ai_keys]
 split
 · exact nd
 · rename_i h
   have h:al m a=none:=by simpa using h
   rw [List.nodup_append]
   refine ⟨nd,by simp,fun x hx y hy e=> ?_⟩
   rw [List.mem_singleton] at hy
   obtain ⟨z,hz,rfl⟩:=List.mem_map.1 hx
   exact al_none.1 h z hz (e.trans hy)
theorem al_ai (m:List (Int × α)) (a u:Int) (v:α):al (ai m a v) u=if u=a then some v else al m u:=by
 unfold ai
 split
 · rename_i h
   unfold al
   rw [List.find?_map]
   by_cases e:u=a
   · subst e
     rw [if_pos rfl]
     have hf:m.find? ((fun x:Int × α=>x.1==u) ∘ fun x=>if x.1=u then (u,v) else x)=m.find? fun x=>x.1==u:=by
      congr 1;funext x;simp only [Function.comp];split<;>simp_all
     rw [hf]
     unfold al at h
     cases hh:m.find? fun x=>x.1==u with
     |none=>rw [hh] at h;simp at h
     |some y=>have:=List.find?_some hh;simp at this;simp [this]
   · rw [if_neg e]
     have hf:m.find? ((fun x:Int × α=>x.1==u) ∘ fun x=>if x.1=a then (a,v) else x)=m.find? fun x=>x.1==u:=by
      congr 1;funext x;simp only [Function.comp]
      by_cases e2:x.1=a
      · rw [if_pos e2,e2]
      · rw [if_neg e2]
     rw [hf]
     cases hh:m.find? fun x=>x.1==u with
     |none=>rfl
     |some y=>
      have h1:=List.find?_some hh
      have h1:y.1=u:=by simpa using h1
      have: ¬y.1=a:=fun e2=>e (h1.symm.trans e2)
      simp [this]
 · rename_i h
   have h:al m a=none:=by simpa using h
   unfold al
   rw [List.find?_append]
   by_cases e:u=a
   · subst e
     rw [if_pos rfl]
     unfold al at h
     rw [Option.map_eq_none_iff] at h
     rw [h];simp
   · rw [if_neg e]
     cases hh:m.find? fun x=>x.1==u with
     |some y=>simp
     |none=>simp [Ne.symm e]
theorem al_ad (m:List (Int × α)) (a u:Int):al (ad m a) u=if u=a then none else al m u:=by
 by_cases e:u=a
 · subst e
   rw [if_pos rfl,al_none]
   intro x hx
   unfold ad at hx
   rw [List.mem_filter] at hx
   simpa using hx.2
 · rw [if_neg e]
   unfold al ad
   rw [List.find?_filter]
   congr 1
   congr 1
   funext x
   by_cases h:x.1=u
   · rw [h];simp [e]
   · simp [h]
theorem ad_nodup (nd:(m.map (·.1)).Nodup) (a:Int):((ad m a).map (·.1)).Nodup:=nd.sublist (List.filter_sublist.map _)
def MV (g:α→Value) (w:World) (b:Nat) (m:List (Int × α)):Prop:=
 (∃es clock,w.heap[b]? =some (.map es clock)∧es.toList.map (fun e=> (e.key,e.val))=m.map fun x=> (Value.int .i64 x.1,g x.2))∧(m.map (·.1)).Nodup
theorem MV.lt (h:MV g w b m):b<w.heap.size:=by obtain ⟨⟨es,c,h,_⟩,_⟩:=h;exact (Array.getElem?_eq_some_iff.1 h).1
theorem MV.keep {S:Nat→Prop} (h:MV g w b m) (m':Mod S w w') (hs: ¬S b):MV g w' b m:=by
 have hl:=h.lt
 obtain ⟨⟨es,c,h,he⟩,nd⟩:=h
 exact ⟨⟨es,c,(m'.block b hl hs).trans h,he⟩,nd⟩
theorem MV.grow (h:MV g w b m) (m':Grow w w'):MV g w' b m:=h.keep m' id
theorem MV.drew (h:MV g w b m):MV g w.drew b m:=h
theorem MV.new {b:Nat} (h:New (.map #[] 0) w b w'):MV g w' b []:=⟨⟨#[],0,h.at,rfl⟩,by simp⟩
theorem MV.len (hm:mapV P t k e=true) (h:MV g w b m) (ty:TypeId):(Builtin.len_ #[t] ty #[.map (some b)]).run P w= .ok (.int .i64 m.length) w:=by
 obtain ⟨ht,_⟩:=mapV_spec hm
 obtain ⟨⟨es,c,hb,he⟩,_⟩:=h
 have:es.size=m.length:=by have:=congrArg List.length he;simpa using this
 simp [Builtin.len_,run_underlying ht,MapKept.run_getObj_map hb,Result.andThen,goInt,this]
theorem MV.find (h:MV g w b m) (a:Int): ∃es c,w.heap[b]? =some (.map es c)∧es.toList.map (fun e=> (e.key,e.val))=(m.map fun x=> (Value.int .i64 x.1,g x.2))∧
 ((Instr.findNow (.int .i64) (.int .i64 a) es.toList 0=some none∧al m a=none)∨∃j x e,Instr.findNow (.int .i64) (.int .i64 a) es.toList 0=some (some (j,g x))∧es[j]? =some e∧e.key= .int .i64 a∧m[j]? =some (a,x)∧al m a=some x):=by
 obtain ⟨⟨es,c,hb,he⟩,nd⟩:=h
 refine ⟨es,c,hb,he,?_⟩
 have get: ∀ (j:Nat) (e:MapEntry),es.toList[j]? =some e→∃x:Int × α,m[j]? =some x∧e.key= .int .i64 x.1∧e.val=g x.2:=by
  intro j e hj
  have:=congrArg (·[j]?) he
  simp only [List.getElem?_map,hj,Option.map_some] at this
  cases hm:m[j]? with
  |none=>rw [hm] at this;simp at this
  |some x=>
   rw [hm] at this
   simp at this
   exact ⟨x,rfl,this⟩
 have hks: ∀x∈es.toList,IsKey (.int .i64) x.key:=by
  intro x hx
  obtain ⟨j,hj,e⟩:=List.mem_iff_getElem.1 hx
  obtain ⟨y,_,h1,_⟩:=get j x (by rw [List.getElem?_eq_getElem hj,e])
  rw [h1];rfl
 rcases findNow_spec (d:= .int .i64) (show IsKey (.int .i64) (.int .i64 a) from rfl) es.toList 0 hks with ⟨h1,h2⟩| ⟨j,e,h1,h2,h3⟩
 · refine .inl ⟨h1,al_none.2 fun x hx=> ?_⟩
   obtain ⟨j,hj,e⟩:=List.mem_iff_getElem.1 hx
   have hlen:es.toList.length=m.length:=by have:=congrArg List.length he;simpa using this
   obtain ⟨y,h4,h5,_⟩:=get j es.toList[j] (by rw [List.getElem?_eq_getElem (by omega)])
   rw [List.getElem?_eq_getElem hj,e] at h4
   have h4:=Option.some.inj h4
   have:=h2 _ (List.getElem_mem (show j<es.toList.length by omega))
   rw [h5,← h4] at this
   exact fun e2=>this (by rw [e2])
 · obtain ⟨x,h4,h5,h6⟩:=get j e h2
   have hx:x.1=a:=by rw [h5] at h3;injection h3
   refine .inr ⟨j,x.2,e,by rw [h1,← h6,Nat.zero_add],by simpa using h2,h3,by rw [h4,← hx],al_of nd ?_⟩
   rw [← hx]
   exact List.mem_of_getElem? h4
theorem MV.look (hm:mapV P t k e=true) (h:MV g w b m) (a:Int) {z:Value} (hz:(zeroValue e).run P w= .ok z w):
 (Instr.lookup t (.map (some b)) (.int .i64 a) false).run P w= .ok (((al m a).map g).getD z) w:=by
 obtain ⟨ht,hk⟩:=mapV_spec hm
 obtain ⟨es,c,hb,he,hf⟩:=h.find a
 have hkey:IsKey (.int .i64) (.int .i64 a):=rfl
 rcases hf with ⟨h1,h2⟩| ⟨j,x,e,h1,h2,h3,h4,h5⟩
 · simp [Instr.lookup,run_underlying ht,MapKept.run_getObj_map hb,MapKept.run_checkKey hk hkey,MapKept.run_findKey hk h1,hz,Result.andThen,h2]
 · simp [Instr.lookup,run_underlying ht,MapKept.run_getObj_map hb,MapKept.run_checkKey hk hkey,MapKept.run_findKey hk h1,Result.andThen,h5]
theorem MV.lookOk (hm:mapV P t k e=true) (h:MV g w b m) (a:Int) {z:Value} (hz:(zeroValue e).run P w= .ok z w):
 (Instr.lookup t (.map (some b)) (.int .i64 a) true).run P w= .ok (.tuple #[((al m a).map g).getD z,.bool (al m a).isSome]) w:=by
 obtain ⟨ht,hk⟩:=mapV_spec hm
 obtain ⟨es,c,hb,he,hf⟩:=h.find a
 have hkey:IsKey (.int .i64) (.int .i64 a):=rfl
 rcases hf with ⟨h1,h2⟩| ⟨j,x,e,h1,h2,h3,h4,h5⟩
 · simp [Instr.lookup,run_underlying ht,MapKept.run_getObj_map hb,MapKept.run_checkKey hk hkey,MapKept.run_findKey hk h1,hz,Result.andThen,h2]
 · simp [Instr.lookup,run_underlying ht,MapKept.run_getObj_map hb,MapKept.run_checkKey hk hkey,MapKept.run_findKey hk h1,Result.andThen,h5]
theorem setMod {w:World} {b:Nat} (o:Obj):Mod (·=b) w {w with heap:=w.heap.setIfInBounds b o}:=
 ⟨rfl,rfl,rfl,by simp,fun x _ hx=>by simp [Array.getElem?_setIfInBounds_ne (Ne.symm hx)]⟩
theorem MV.put (hm:mapV P t k e=true) (h:MV g w b m) (a:Int) (v:α):
 ∃w',(Instr.mapUpdate t (.map (some b)) (.int .i64 a) (g v)).run P w= .ok () w'∧MV g w' b (ai m a v)∧Mod (·=b) w w'∧w'.heap.size=w.heap.size:=by
 obtain ⟨ht,hk⟩:=mapV_spec hm
 have nd:=h.2
 have hlt:=h.lt
 obtain ⟨es,c,hb,he,hf⟩:=h.find a
 have hkey:IsKey (.int .i64) (.int .i64 a):=rfl
 rcases hf with ⟨h1,h2⟩| ⟨j,x,e,h1,h2,h3,h4,h5⟩
 · refine ⟨_,?_,⟨⟨es.push {key:= .int .i64 a,val:=g v,born:=c},c+1,(MapKept.heap_set hb).1,?_⟩,ai_nodup nd a v⟩,setMod _,by simp⟩
   · simp [Instr.mapUpdate,run_underlying ht,MapKept.run_getObj_map hb,MapKept.run_checkKey hk hkey,MapKept.run_findKey hk h1,MapKept.run_setObj_map _ hb,Result.andThen]
   · unfold ai
     rw [h2]
     simp only [Option.isSome_none,Bool.false_eq_true,if_false,Array.toList_push,List.map_append,he,List.map_cons,List.map_nil]
 · refine ⟨_,?_,⟨⟨es.modify j fun e=> {e with key:= .int .i64 a,val:=g v},c,(MapKept.heap_set hb).1,?_⟩,ai_nodup nd a v⟩,setMod _,by simp⟩
   · simp [Instr.mapUpdate,run_underlying ht,MapKept.run_getObj_map hb,MapKept.run_checkKey hk hkey,MapKept.run_findKey hk h1,h2,h3,run_keyThatStays hkey,MapKept.run_setObj_map _ hb,Result.andThen]
   · unfold ai
     rw [h5]
     simp only [Option.isSome_some,if_true,Array.toList_modify]
     apply List.ext_getElem?
     intro i
     have hi:=congrArg (·[i]?) he
     simp only [List.getElem?_map] at hi
     simp only [List.getElem?_map,List.getElem?_modify]
     by_cases e2:j=i
     · subst e2
       rw [h4] at hi ⊢
       have:es.toList[j]? =some e:=by simpa using h2
       rw [this]
       simp
     · cases hmi:m[i]? with
       |none=>rw [hmi] at hi;cases hes:es.toList[i]? with
        |none=>simp
        |some z=>rw [hes] at hi;simp at hi
       |some y=>
        rw [hmi] at hi
        cases hes:es.toList[i]? with
        |none=>rw [hes] at hi;simp at hi
        |some z=>
         rw [hes] at hi
         simp at hi
         have:y.1≠a:=fun e3=>by
          have hil:i<m.length:=(List.getElem?_eq_some_iff.1 hmi).1
          have hjl:j<m.length:=(List.getElem?_eq_some_iff.1 h4).1
          have:=(List.getElem_inj (h₀:=show i< (m.map (·.1)).length by simpa using hil) (h₁:=show j< (m.map (·.1)).length by simpa using hjl) nd).1 (by
           rw [List.getElem_map,List.getElem_map]
           rw [List.getElem?_eq_getElem hil] at hmi
           rw [List.getElem?_eq_getElem hjl] at h4
           rw [Option.some.inj hmi,Option.some.inj h4]
           exact e3)
          omega
         simp [e2,this,hi]
theorem MV.del (hm:mapV P t k e=true) (h:MV g w b m) (a:Int) (ty:TypeId):
 ∃w',(Builtin.delete_ #[t,k] ty #[.map (some b),.int .i64 a]).run P w= .ok (.tuple #[]) w'∧MV g w' b (ad m a)∧Mod (·=b) w w'∧w'.heap.size=w.heap.size:=by
 obtain ⟨ht,hk⟩:=mapV_spec hm
 have nd:=h.2
 obtain ⟨es,c,hb,he,hf⟩:=h.find a
 have hkey:IsKey (.int .i64) (.int .i64 a):=rfl
 rcases hf with ⟨h1,h2⟩| ⟨j,x,e,h1,h2,h3,h4,h5⟩
 · refine ⟨_,?_,⟨⟨es,c,(MapKept.heap_set hb).1,?_⟩,ad_nodup nd a⟩,setMod _,by simp⟩
   · simp [Builtin.delete_,run_underlying ht,MapKept.run_getObj_map hb,MapKept.run_checkKey hk hkey,MapKept.run_findKey hk h1,MapKept.run_setObj_map _ hb,Result.andThen]
   · have:ad m a=m:=by
      unfold ad
      rw [List.filter_eq_self]
      intro x hx
      have:=al_none.1 h2 x hx
      simpa using this
     rw [this,he]
 · have hjs:j<es.size:=(Array.getElem?_eq_some_iff.1 h2).1
   have hsub:(es.eraseIdxIfInBounds j).toList=es.toList.eraseIdx j:=by
    unfold Array.eraseIdxIfInBounds
    rw [dif_pos hjs]
    simp
   refine ⟨_,?_,⟨⟨es.eraseIdxIfInBounds j,c,(MapKept.heap_set hb).1,?_⟩,ad_nodup nd a⟩,setMod _,by simp⟩
   · simp [Builtin.delete_,run_underlying ht,MapKept.run_getObj_map hb,MapKept.run_checkKey hk hkey,MapKept.run_findKey hk h1,MapKept.run_setObj_map _ hb,Result.andThen]
   · rw [hsub,Go.ChangeMaps.map_eraseIdx,he]
     have key: ∀ (m:List (Int × α)) (j:Nat) (x:α),(m.map (·.1)).Nodup→m[j]? =some (a,x)→m.eraseIdx j=ad m a:=by
      intro m
      induction m with
      |nil=>intro j x _ h;simp at h
      |cons y m ih=>
       intro j x nd h
       rw [List.map_cons,List.nodup_cons] at nd
       cases j with
       |zero=>
        simp at h
        subst h
        simp only [List.eraseIdx_zero,List.tail_cons]
        unfold ad
        rw [List.filter_cons]
        simp only [BEq.rfl,Bool.not_true,Bool.false_eq_true,if_false]
        symm
        rw [List.filter_eq_self]
        intro z hz
        have:z.1≠a:=fun e=>nd.1 (List.mem_map.2 ⟨z,hz,e⟩)
        simpa using this
       |succ j=>
        simp only [List.getElem?_cons_succ] at h
        have hne:y.1≠a:=fun e=>nd.1 (List.mem_map.2 ⟨_,List.mem_of_getElem? h,e.symm⟩)
        rw [List.eraseIdx_cons_succ,ih j x nd.2 h]
        unfold ad
        rw [List.filter_cons]
        simp [hne]
     rw [← Go.ChangeMaps.map_eraseIdx,key m j x nd h4]
end Go.Fw
namespace Go.Fw
open Go Go.RowKit
variable {P:Program} {α:Type} {sz:Nat} {f:α→List Value} {T:TypeId} {w w':World} {p q:Option Addr} {c:Nat} {l:List α}
theorem flat_take (hf: ∀x,(f x).length=sz) {k:Nat} (hk:k≤l.length):(l.flatMap f).take (k*sz)=(l.take k).flatMap f:=by
 conv=>lhs;rw [← List.take_append_drop k l]
 rw [List.flatMap_append,List.take_append_of_le_length (by rw [flat_len hf,List.length_take,Nat.min_eq_left hk];exact Nat.le_refl _),List.take_of_length_le (by rw [flat_len hf,List.length_take,Nat.min_eq_left hk];exact Nat.le_refl _)]
theorem flat_drop (hf: ∀x,(f x).length=sz) {k:Nat} (hk:k≤l.length):(l.flatMap f).drop (k*sz)=(l.drop k).flatMap f:=by
 conv=>lhs;rw [← List.take_append_drop k l]
 rw [List.flatMap_append,List.drop_append_of_le_length (by rw [flat_len hf,List.length_take,Nat.min_eq_left hk];exact Nat.le_refl _),List.drop_of_length_le (by rw [flat_len hf,List.length_take,Nat.min_eq_left hk];exact Nat.le_refl _),List.nil_append]
theorem Row.take (E:Enc sz f) (h:Row sz f T w p c l) {k:Nat} (hk:k≤l.length):Row sz f T w p c (l.take k):=by
 rcases h.un with ⟨rfl,rfl,rfl⟩| ⟨g,cur,rfl,hg,g1,g2,g3,g4⟩
 · simpa using Row.nil sz f T w
 · have hl:(l.take k).length=k:=by simp;omega
   refine Row.of_some E.len hg (by omega) g2 g3 ?_
   rw [hl,← flat_take E.len hk,← g4,List.take_take,Nat.min_eq_left (Nat.mul_le_mul_right _ hk)]
theorem Row.cap (h:Row sz f T w p c l):l.length≤c:=by
 rcases h.un with ⟨_,_,rfl⟩| ⟨_,_,_,_,g1,_⟩
 · simp
 · exact g1
theorem Vr.part (h:Vr sz f w p l) {i m:Nat} (h1:i+m≤l.length):Vr sz f w (p.map (·.add (i*sz))) ((l.drop i).take m):=by
 intro j hj
 rw [List.length_take,List.length_drop] at hj
 obtain ⟨a,rfl,hc⟩:=h (i+j) (by omega)
 refine ⟨_,rfl,?_⟩
 rw [List.getElem_take,List.getElem_drop,add_add,← Nat.add_mul]
 exact hc
theorem Row.appRoom {t ty e bytes:Nat} (E:Enc sz f) (hs:slOkN P t e sz bytes=true) (h:Row sz f e w p c l) {k m d:Nat} {news:List α} (h2:Vr sz f w q news) (hm:m=news.length) (hfit:k+m≤l.length) {K:World→Prop}
 (hk: ∀w',Row sz f e w' p c (l.take k++news++l.drop (k+m))→Mod (fun b=>blk p=some b) w w'→K w'):
 ∃w',(Builtin.append_ #[t,t] ty #[.slice p k c,.slice q m d]).run P w= .ok (.slice p (k+m) c) w'∧K w':=by
 obtain ⟨ht,i,z,hi,hz,h1,hby,h3⟩:=slOkN_spec hs
 subst hm
 rcases Nat.eq_zero_or_pos news.length with h0|h0
 · have hn:news= []:=List.eq_nil_of_length_eq_zero h0
   subst hn
   refine ⟨w,?_,hk w (by simpa using h) (Mod.refl w)⟩
   rcases h.un with ⟨rfl,rfl,rfl⟩| ⟨g,cur,rfl,hg,g1,g2,g3,g4⟩<;>cases q<;>
    simp [Builtin.append_,run_underlying ht,sizeOf,typeInfo,Builtin.lenOf,Builtin.firstCells,loadCells,loadCellsFrom,storeCells, *]<;>simp at hfit<;>omega
 · obtain ⟨a,rfl,_⟩:=h2 0 h0
   rcases h.un with ⟨rfl,rfl,rfl⟩| ⟨g,cur,rfl,hg,g1,g2,g3,g4⟩
   · rw [List.length_nil] at hfit;omega
   · have hfn:=flat_len E.len news
     have hone: ∀u∈news.flatMap f,u.oneCell'=true:=fun u hu=>by obtain ⟨x,_,hx⟩:=List.mem_flatMap.1 hu;exact E.one x u hx
     have hle:k*sz+news.length*sz=(k+news.length)*sz:=(Nat.add_mul _ _ _).symm
     have hcs:k*sz+news.length*sz≤cur.size:=by rw [hle,g3];exact Nat.mul_le_mul_right _ (by omega)
     have hr:=run_append_room (P:=P) w t ty e i ht hi g k c cur hg a news.length d (news.flatMap f) (by rw [hfn,h1]) (h2.flat E) hone (by omega) (by rw [h1,hfn];exact hcs)
     rw [h1,hfn] at hr
     have hcl:cur.toList.length=c*sz:=by simpa using g3
     have hcsz:l.length*sz≤c*sz:=Nat.mul_le_mul_right _ g1
     have hks:(k+news.length)*sz≤l.length*sz:=Nat.mul_le_mul_right _ hfit
     have hkl:k*sz≤l.length*sz:=Nat.mul_le_mul_right _ (by omega)
     refine ⟨_,hr,hk _ (Row.of_some E.len (setRow_heap w g cur _ e _ hg) (by simp;omega) g2 ?_ ?_) ⟨rfl,rfl,rfl,by simp,fun k _ hk=>setRow_other w g k _ fun he=>hk (by simp [blk,he])⟩⟩
     · simp only [List.size_toArray,List.length_append,List.length_take,List.length_drop,hfn,hcl];omega
     · have hl:(l.take k++news++l.drop (k+news.length)).length=l.length:=by simp;omega
       rw [hl,List.flatMap_append,List.flatMap_append,← flat_take E.len (by omega),← flat_drop E.len hfit,← g4]
       rw [List.take_take,Nat.min_eq_left hkl,← hle]
       simp only [List.append_assoc]
       rw [List.take_append,List.take_append]
       have e1:(cur.toList.take (k*sz)).length=k*sz:=by rw [List.length_take,hcl];omega
       rw [e1,hfn]
       rw [List.take_of_length_le (l:=cur.toList.take (k*sz)) (by rw [e1];omega),List.take_of_length_le (l:=news.flatMap f) (by rw [hfn];omega)]
       congr 2
       rw [List.drop_take]
       congr 1
       omega
theorem Row.clear {t ty e bytes:Nat} (E:Enc sz f) (hs:slOkN P t e sz bytes=true) {x:α} {v:Value} (hz:(P.info? e).bind (·.zero)=some v) (hv:v.cells.toList=f x) (h:Row sz f e w p c l) {k d:Nat} (hk:k+1=l.length) {K:World→Prop}
 (hK: ∀w',Row sz f e w' p c (l.take k)→Mod (fun b=>blk p=some b) w w'→K w'):
 ∃w',(Builtin.clear_ #[t] ty #[.slice (p.map (·.add (k*sz))) 1 d]).run P w= .ok (.tuple #[]) w'∧K w':=by
 obtain ⟨ht,i,z,hi,hz',h1,hb,h3⟩:=slOkN_spec hs
 have hzz:z=v:=by simp only [hi,Option.bind_some] at hz;rw [hz'] at hz;exact Option.some.inj hz
 subst hzz
 rcases h.un with ⟨rfl,rfl,rfl⟩| ⟨g,cur,rfl,hg,g1,g2,g3,g4⟩
 · simp at hk
 · have hzc:(Builtin.zeroCells z.cells 1).toList=f x:=by
    have hzs:z.cells.size=sz:=h3
    rw [← hv]
    simp [Builtin.zeroCells]
    apply List.ext_getElem
    · simp
    · intro i h1 h2
      simp only [List.getElem_map,List.getElem_range]
      have:i<z.cells.size:=by simpa using h2
      simp [Nat.mod_eq_of_lt this,this]
   have hlk:k*sz+sz≤c*sz:=by
    have:(k+1)*sz≤c*sz:=Nat.mul_le_mul_right _ (by omega)
    rwa [Nat.add_mul,Nat.one_mul] at this
   obtain ⟨w2,hst,hh⟩:=store_t (b:=g) (off:=0+k*sz) (i:=0) (vs:=f x) (K:=fun w'=> ∃w'':World,w''=w'∧w'.heap[g]? =some (.cells (wr cur (0+k*sz+0) (f x)) e (0,0))∧Mod (·=g) w w') hg (by rw [E.len];omega) (by
    rw [List.all_eq_true];intro u hu;exact E.one x u hu) fun w' a1 a2 _=> ⟨w',rfl,a1,a2⟩
   obtain ⟨_,_,a1,a2⟩:=hh
   refine ⟨w2,?_,hK w2 ?_ (a2.mono fun b _ hb=>by subst hb;rfl)⟩
   · have hr:=run_storeCells (P:=P) ⟨g,0+k*sz,none⟩ _ _ _ _ hst
     have hzv:(zeroValue e:Sem Value).run P w= .ok z w:=by
      simp [zeroValue,typeInfo,hi,hz',Sem.run_bind]
     simp only [Option.map_some,add_at]
     rw [Nat.zero_add] at hr ⊢
     simp [Builtin.clear_,run_underlying ht,hzv,hzc,hr]
   · have hl:(l.take k).length=k:=by simp;omega
     have hcl:cur.toList.length=c*sz:=by simpa using g3
     have hkl:k*sz≤l.length*sz:=Nat.mul_le_mul_right _ (by omega)
     refine Row.of_some E.len a1 (by omega) g2 (by rw [wr_size];exact g3) ?_
     rw [hl,wr_list _ _ _ (by rw [E.len];omega),← flat_take E.len (by omega),← g4]
     rw [Nat.zero_add,Nat.add_zero,List.append_assoc,List.take_append_of_le_length (by rw [List.length_take,hcl];omega),List.take_take,Nat.min_self,List.take_take,Nat.min_eq_left hkl]
end Go.Fw
namespace Go.Fw
open Go Go.RowKit Go.Maps
variable {P:Program} {t k e:TypeId} {w w':World} {b n:Nat} {s:Int→Bool}
def mapB (P:Program) (t k e:TypeId):Bool:=
 (match P.underlying t with|some (.map k' e')=>Nat.beq k' k && Nat.beq e' e|_=>false) && (match P.underlying k with|some (.int .i64)=>true|_=>false) && (match P.underlying e with|some .bool=>true|_=>false) && (match P.info? e with|some i=> (match i.zero with|some (.bool false)=>true|_=>false)|none=>false)
theorem mapB_spec (h:mapB P t k e=true):P.underlying t=some (.map k e)∧P.underlying k=some (.int .i64)∧P.underlying e=some .bool∧∀w,(zeroValue e).run P w= .ok (.bool false) w:=by
 simp only [mapB,Bool.and_eq_true] at h
 obtain ⟨⟨⟨h1,h2⟩,h3⟩,h4⟩:=h
 split at h1
 · rename_i k' e' hu
   simp only [Bool.and_eq_true] at h1
   have e1:k'=k:=Nat.eq_of_beq_eq_true h1.1
   have e2:e'=e:=Nat.eq_of_beq_eq_true h1.2
   subst e1 e2
   refine ⟨hu,?_,?_,?_⟩
   · split at h2
     · assumption
     · simp at h2
   · split at h3
     · assumption
     · simp at h3
   · intro w
     split at h4
     · rename_i i hi
       split at h4
       · rename_i hz
         unfold zeroValue
         simp only [Sem.run_bind,run_info_some hi,Result.andThen_ok,hz,Sem.run_pure]
       · simp at h4
     · simp at h4
 · simp at h1
def MB (P:Program) (k e:TypeId) (w:World) (b n:Nat) (s:Int→Bool):Prop:=
 ∃D:DataW Unit,w.ownsMap P k (plainElem P e) b n D∧∀a:Int,D.atKey (.int .i64 a) (.lit (.bool false))= .lit (.bool (s a))
theorem MB.lt (h:MB P k e w b n s):b<w.heap.size:=by obtain ⟨D,h,_⟩:=h;exact h.lt
theorem MB.keep {S:Nat→Prop} (h:MB P k e w b n s) (m:Mod S w w') (hs: ¬S b):MB P k e w' b n s:=by
 have hl:=h.lt
 obtain ⟨D,⟨es,clock,hb,h⟩,hd⟩:=h
 exact ⟨D,⟨es,clock,(m.block b hl hs).trans hb,h⟩,hd⟩
theorem MB.grow (h:MB P k e w b n s) (m:Grow w w'):MB P k e w' b n s:=h.keep m id
theorem MB.new {b:Nat} (h:New (.map #[] 0) w b w'):MB P k e w' b 0 fun _=>false:=by
 obtain ⟨rfl,rfl⟩:=h
 exact ⟨.map [],World.ownsMap_made w P k _,fun a=>rfl⟩
theorem MB.look (hm:mapB P t k e=true) (h:MB P k e w b n s) {a:Int} (ha:(Lit.int .i64 a).wf=true):(Instr.lookup t (.map (some b)) (.int .i64 a) false).run P w= .ok (.bool (s a)) w:=by
 obtain ⟨ht,hk,he,hz⟩:=mapB_spec hm
 obtain ⟨D,h,hd⟩:=h
 obtain ⟨v,ps,hr,hv⟩:=h.lookup (int_keyed hk) ht (hz w) (plainElem_bool he false) (keyOf_int_mk hk ha)
 rw [hd a] at hv
 have:v= .bool (s a):=by
  unfold plainElem at hv
  rw [he] at hv
  cases v<;>simp_all
 rw [hr,this]
theorem MB.put (hm:mapB P t k e=true) (h:MB P k e w b n s) (hn:n<maxLen) {a:Int} (ha:(Lit.int .i64 a).wf=true) (v:Bool):
 ∃w',(Instr.mapUpdate t (.map (some b)) (.int .i64 a) (.bool v)).run P w= .ok () w'∧MB P k e w' b (n+1) (fun u=>if u=a then v else s u)∧Mod (·=b) w w':=by
 obtain ⟨ht,hk,he,hz⟩:=mapB_spec hm
 obtain ⟨D,h,hd⟩:=h
 have him:=h.isMap
 obtain ⟨w',hr,h',hg⟩:=h.update (int_keyed hk) ht hn (keyOf_int_mk hk ha) (plainElem_bool (H:=Unit) he v)
 refine ⟨w',hr,⟨_,h',fun u=> ?_⟩,⟨hg.os,hg.tape,hg.output,hg.size,fun i hi hn=>hg.block i hi fun e=>hn (Option.some.inj e)⟩⟩
 by_cases hu:u=a
 · subst hu
   exact (atKey_put_same him (show WideAt.IsKeyLit (.int .i64 u) from trivial) _ _).trans (by simp)
 · exact ((atKey_put_other (fun e=>hu (by injection e)) _ _).trans (hd u)).trans (by simp [hu])
theorem MB.del (hm:mapB P t k e=true) (h:MB P k e w b n s) {a:Int} (ha:(Lit.int .i64 a).wf=true) (ty:TypeId):
 ∃w',(Builtin.delete_ #[t,k] ty #[.map (some b),.int .i64 a]).run P w= .ok (.tuple #[]) w'∧MB P k e w' b n (fun u=>if u=a then false else s u)∧Mod (·=b) w w':=by
 obtain ⟨ht,hk,he,hz⟩:=mapB_spec hm
 obtain ⟨D,h,hd⟩:=h
 obtain ⟨w',hr,h',hg⟩:=h.drop (int_keyed hk) ht (keyOf_int_mk hk ha) ty
 have hg:=hg.grown
 refine ⟨w',hr,⟨_,h',fun u=> ?_⟩,⟨hg.os,hg.tape,hg.output,hg.size,fun i hi hn=>hg.block i hi fun e=>hn (Option.some.inj e)⟩⟩
 by_cases hu:u=a
 · subst hu
   exact (atKey_del_same _).trans (by simp)
 · exact ((atKey_del_other (fun e=>hu (by injection e)) _).trans (hd u)).trans (by simp [hu])
end Go.Fw
namespace Go.Fw
open Go Go.RowKit Go.Maps
variable {P:Program} {t k e:TypeId} {w w':World} {b n:Nat} {s:Bool × Int→Bool}
def gateO (P:Program) (k:TypeId):Bool:=
 P.keyType k && Nat.beq (P.cellsOf k) 2 && !Nat.beq P.types.size 0 && (match P.underlying k with
  |some (.struct fs)=> (fs.all (·.name != "_")) && (match fs.toList with
   | [f0,f1]=>Nat.beq f0.offset 0 && Nat.beq f1.offset 1 && Nat.beq (P.cellsOf f0.type) 1 && Nat.beq (P.cellsOf f1.type) 1 && (match P.underlying f0.type with|some .bool=>true|_=>false) && (match P.underlying f1.type with|some (.int .i64)=>true|_=>false)
   |_=>false)
  |_=>false)
abbrev ov (x:Bool × Int):Value:= .agg #[.bool x.1,.int .i64 x.2]
theorem int_undO {ty:TypeId} (h:(match P.underlying ty with|some (.int .i64)=>true|_=>false)=true):P.underlying ty=some (.int .i64):=by
 split at h
 · assumption
 · simp at h
theorem bool_undO {ty:TypeId} (h:(match P.underlying ty with|some .bool=>true|_=>false)=true):P.underlying ty=some .bool:=by
 split at h
 · assumption
 · simp at h
theorem key_gateO (h:gateO P k=true) {x:Bool × Int} (h2:(Lit.int .i64 x.2).wf=true): ∃l,keyOf P k (ov x)=some l:=by
 simp only [gateO,Bool.and_eq_true] at h
 obtain ⟨⟨⟨hk,hc⟩,hz0⟩,h⟩:=h
 have hc:P.cellsOf k=2:=Nat.eq_of_beq_eq_true hc
 split at h
 · rename_i fs hu
   simp only [Bool.and_eq_true] at h
   obtain ⟨hn,h⟩:=h
   split at h
   · rename_i f0 f1 hl
     simp only [Bool.and_eq_true] at h
     obtain ⟨⟨⟨⟨⟨o0,o1⟩,c0⟩,c1⟩,u0⟩,u1⟩:=h
     have o0:=Nat.eq_of_beq_eq_true o0
     have o1:=Nat.eq_of_beq_eq_true o1
     have c0:=Nat.eq_of_beq_eq_true c0
     have c1:=Nat.eq_of_beq_eq_true c1
     have u0:=bool_undO u0
     have u1:=int_undO u1
     have hf:(ov x).formed P k=true:=by simp [Value.formed,hu,hc]
     have hcl:(ov x).cells.toList= [.bool x.1,.int .i64 x.2]:=by simp [Value.cells]
     have hz:P.types.size≠0:=fun e=>by rw [e] at hz0;simp at hz0
     have k0:P.keyLits P.types.size f0.type [.bool x.1]=some [.bool x.1]:=by
      cases hz':P.types.size with
      |zero=>exact absurd hz' hz
      |succ z=>unfold Program.keyLits;simp [u0]
     have k1:P.keyLits P.types.size f1.type [.int .i64 x.2]=some [.int .i64 x.2]:=by
      cases hz':P.types.size with
      |zero=>exact absurd hz' hz
      |succ z=>unfold Program.keyLits;simp [u1,h2]
     have hkl:P.keyLits (P.types.size+1) k [.bool x.1,.int .i64 x.2]=some [.bool x.1,.int .i64 x.2]:=by
      unfold Program.keyLits
      simp only [hu]
      rw [if_pos ⟨by simp [hc],hn⟩,hl]
      simp only [List.mapM_cons,List.mapM_nil,o0,o1,c0,c1,List.drop_zero,List.take_succ_cons,List.take_zero,List.drop_succ_cons,k0,k1,Option.bind_eq_bind,Option.bind_some,Option.pure_def,Option.map_some]
      rfl
     refine ⟨.string (keyBytes [.bool x.1,.int .i64 x.2]),?_⟩
     unfold keyOf
     simp only [hu]
     rw [hk,hf,hcl,hkl]
     rfl
   · simp at h
 · simp at h
def mapO (P:Program) (t k e:TypeId):Bool:=
 (match P.underlying t with|some (.map k' e')=>Nat.beq k' k && Nat.beq e' e|_=>false) && gateO P k && (match P.underlying e with|some .bool=>true|_=>false) && (match P.info? e with|some i=> (match i.zero with|some (.bool b)=> !b|_=>false)|none=>false)
theorem mapO_spec (h:mapO P t k e=true):P.underlying t=some (.map k e)∧gateO P k=true∧P.underlying e=some .bool∧∀w,(zeroValue e).run P w= .ok (.bool false) w:=by
 simp only [mapO,Bool.and_eq_true] at h
 obtain ⟨⟨⟨h1,h2⟩,h3⟩,h4⟩:=h
 split at h1
 · rename_i k' e' hu
   simp only [Bool.and_eq_true] at h1
   have e1:k'=k:=Nat.eq_of_beq_eq_true h1.1
   have e2:e'=e:=Nat.eq_of_beq_eq_true h1.2
   subst e1 e2
   refine ⟨hu,h2,bool_undO h3,fun w=> ?_⟩
   split at h4
   · rename_i i hi
     split at h4
     · rename_i n hz
       have:n=false:=by simpa using h4
       subst this
       unfold zeroValue
       simp only [Sem.run_bind,run_info_some hi,Result.andThen_ok,hz,Sem.run_pure]
     · simp at h4
   · simp at h4
 · simp at h1
def MO (P:Program) (k e:TypeId) (w:World) (b n:Nat) (s:Bool × Int→Bool):Prop:=
 ∃D:DataW Unit,w.ownsMap P k (plainElem P e) b n D∧∀ (x:Bool × Int) (l:Lit),keyOf P k (ov x)=some l→D.atKey l (.lit (.bool false))= .lit (.bool (s x))
theorem MO.lt (h:MO P k e w b n s):b<w.heap.size:=by obtain ⟨D,h,_⟩:=h;exact h.lt
theorem MO.keep {S:Nat→Prop} (h:MO P k e w b n s) (m:Mod S w w') (hs: ¬S b):MO P k e w' b n s:=by
 have hl:=h.lt
 obtain ⟨D,⟨es,clock,hb,h⟩,hd⟩:=h
 exact ⟨D,⟨es,clock,(m.block b hl hs).trans hb,h⟩,hd⟩
theorem MO.grow (h:MO P k e w b n s) (m:Grow w w'):MO P k e w' b n s:=h.keep m id
theorem MO.new {b:Nat} (h:New (.map #[] 0) w b w'):MO P k e w' b 0 fun _=>false:=by
 obtain ⟨rfl,rfl⟩:=h
 exact ⟨.map [],World.ownsMap_made w P k _,fun x l _=>rfl⟩
theorem MO.look (hm:mapO P t k e=true) (K:Keyed P k) (h:MO P k e w b n s) {x:Bool × Int} (h2:(Lit.int .i64 x.2).wf=true):
 (Instr.lookup t (.map (some b)) (ov x) false).run P w= .ok (.bool (s x)) w:=by
 obtain ⟨ht,hk,he,hz⟩:=mapO_spec hm
 obtain ⟨D,h,hd⟩:=h
 obtain ⟨l,hl⟩:=key_gateO hk h2
 obtain ⟨v,ps,hr,hv⟩:=h.lookup K ht (hz w) (plainElem_bool he false) hl
 rw [hd x l hl] at hv
 have:v= .bool (s x):=by
  unfold plainElem at hv
  rw [he] at hv
  cases v<;>simp_all
 rw [hr,this]
theorem MO.put (hm:mapO P t k e=true) (K:Keyed P k) (h:MO P k e w b n s) (hn:n<maxLen) {x:Bool × Int} (h2:(Lit.int .i64 x.2).wf=true) (v:Bool):
 ∃w',(Instr.mapUpdate t (.map (some b)) (ov x) (.bool v)).run P w= .ok () w'∧MO P k e w' b (n+1) (fun u=>if u=x then v else s u)∧Mod (·=b) w w':=by
 obtain ⟨ht,hk,he,hz⟩:=mapO_spec hm
 obtain ⟨D,h,hd⟩:=h
 have him:=h.isMap
 obtain ⟨l,hl⟩:=key_gateO hk h2
 obtain ⟨w',hr,h',hg⟩:=h.update K ht hn hl (plainElem_bool (H:=Unit) he v)
 refine ⟨w',hr,⟨_,h',fun u l' hl'=> ?_⟩,⟨hg.os,hg.tape,hg.output,hg.size,fun i hi hn=>hg.block i hi fun e=>hn (Option.some.inj e)⟩⟩
 by_cases hu:u=x
 · subst hu
   have:l'=l:=Option.some.inj (hl'.symm.trans hl)
   subst this
   exact (atKey_put_same him (K.key hl) _ _).trans (by simp)
 · have hne:l'≠l:=fun e=>by
    subst e
    have:=K.inj hl' hl
    injection this with this
    apply hu
    have e1:=congrArg (fun (a:Array Value)=>a[0]?) this
    have e2:=congrArg (fun (a:Array Value)=>a[1]?) this
    simp at e1 e2
    exact Prod.ext e1 e2
   exact ((atKey_put_other hne _ _).trans (hd u l' hl')).trans (by simp [hu])
end Go.Fw
