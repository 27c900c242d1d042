/- Which learned clauses stay, plain. -/
import Derived.Test.YtddffgjagppimaaGreatSortA
import Derived.Test.YtddffgjagppimaaGreatLitA
namespace Go.RedP
open Go.SoP
abbrev Lr:=Int × Int × Bool
def nth (l:List Lr) (x:Int):Lr:=l.getD x.toNat (0,0,false)
def okL (x:Lr):Bool:=decide (0≤x.2.1∧x.2.1≤4096∧0≤x.1∧x.1≤x.2.1)
def must (x:Lr):Bool:=x.2.2||decide (x.1≤2)
def cmp (l:List Lr) (a b:Int):Int:=
 if (nth l a).1≠(nth l b).1 then (nth l a).1 - (nth l b).1 else if (nth l a).2.1≠(nth l b).2.1 then (nth l a).2.1 - (nth l b).2.1 else b - a
def better (l:List Lr) (a b:Int):Bool:=
 if (nth l a).1≠(nth l b).1 then decide ((nth l a).1< (nth l b).1) else if (nth l a).2.1≠(nth l b).2.1 then decide ((nth l a).2.1< (nth l b).2.1) else decide (a>b)
theorem better_eq (l:List Lr) (a b:Int):better l a b=decide (cmp l a b<0):=by
 unfold better cmp
 split
 · exact decide_eq_decide.2 (by omega)
 · split
   · exact decide_eq_decide.2 (by omega)
   · exact decide_eq_decide.2 (by omega)
theorem cmp_ord (l:List Lr):Ord (cmp l):=by
 constructor
 · intro x y h
   unfold cmp at*
   split at h<;>split<;> (try split at h)<;> (try split)<;>omega
 · intro x y z h1 h2
   unfold Le cmp at*
   generalize nth l x=a at*
   generalize nth l y=b at*
   generalize nth l z=d at*
   split at h1<;>split at h2<;>split<;> (try split at h1)<;> (try split at h2)<;> (try split)<;>omega
theorem cmp_lt {l:List Lr} {a b:Int} (h:Le (cmp l) a b) (hne:a≠b):cmp l a b<0:=by
 unfold Le cmp at h
 unfold cmp
 split at h<;>split<;> (try split at h)<;> (try split)<;>omega
def idx (n:Nat):List Int:=(List.range n).map Int.ofNat
theorem idx_len (n:Nat):(idx n).length=n:=by simp [idx]
theorem idx_mem {n:Nat} {x:Int}:x∈idx n↔0≤x∧x<n:=by
 simp only [idx,List.mem_map,List.mem_range]
 constructor
 · rintro ⟨i,h,rfl⟩;exact ⟨Int.natCast_nonneg i,by simpa using h⟩
 · intro h;exact ⟨x.toNat,by omega,by show ((x.toNat:Nat):Int)=x;omega⟩
theorem idx_nodup (n:Nat):(idx n).Nodup:=by
 unfold idx
 exact List.Pairwise.map _ (fun a b h e=>h (Int.ofNat.inj e)) List.nodup_range
def rank (l:List Lr) (x:Int) (all:Bool):Nat:=(idx l.length).countP fun i=>i !=x && (all|| !must (nth l i)) && better l i x
def freeN (l:List Lr):Nat:=(idx l.length).countP fun i=> !must (nth l i)
def keep (l:List Lr) (x:Int):Bool:=must (nth l x)||decide (rank l x false<freeN l / 2)
def cnt (l:List Lr) (o:List Int) (t:Nat):Nat:=(o.take t).countP fun i=> !must (nth l i)
structure IsO (l:List Lr) (o:List Int):Prop where
 pm:o.Perm (idx l.length)
 so:SortedR (cmp l) o 0 o.length
theorem IsO.len {l:List Lr} {o:List Int} (h:IsO l o):o.length=l.length:=by rw [h.pm.length_eq,idx_len]
theorem IsO.nd {l:List Lr} {o:List Int} (h:IsO l o):o.Nodup:=h.pm.nodup_iff.2 (idx_nodup _)
theorem IsO.rng {l:List Lr} {o:List Int} (h:IsO l o) {t:Nat} (ht:t<o.length):0≤o.getD t 0∧o.getD t 0<l.length:=by
 have:o.getD t 0∈o:=by simp [List.getD,ht]
 exact idx_mem.1 (h.pm.mem_iff.1 this)
theorem getD_inj {o:List Int} (h:o.Nodup) {i j:Nat} (hi:i<o.length) (hj:j<o.length) (e:o.getD i 0=o.getD j 0):i=j:=by
 simp only [List.getD,List.getElem?_eq_getElem hi,List.getElem?_eq_getElem hj,Option.getD_some] at e
 exact (List.getElem_inj h).1 e
theorem IsO.find {l:List Lr} {o:List Int} (h:IsO l o) {x:Int} (h0:0≤x) (h1:x<l.length): ∃t,t<o.length∧o.getD t 0=x:=by
 have:x∈o:=h.pm.mem_iff.2 (idx_mem.2 ⟨h0,h1⟩)
 obtain ⟨t,ht,e⟩:=List.mem_iff_getElem.1 this
 exact ⟨t,ht,by simp [List.getD,ht,e]⟩
theorem IsO.lt {l:List Lr} {o:List Int} (h:IsO l o) {i j:Nat} (hij:i<j) (hj:j<o.length):better l (o.getD i 0) (o.getD j 0)=true∧better l (o.getD j 0) (o.getD i 0)=false:=by
 have hs:=h.so i j (Nat.zero_le _) hij hj
 rw [better_eq,better_eq]
 refine ⟨decide_eq_true (cmp_lt hs fun e=> ?_),decide_eq_false hs⟩
 have:=getD_inj h.nd (by omega) hj e
 omega
theorem getD_of {o:List Int} {i:Nat} (hi:i<o.length):o[i]=o.getD i 0:=by simp [List.getD,hi]
theorem IsO.rank {l:List Lr} {o:List Int} (h:IsO l o) {t:Nat} (ht:t<o.length) (all:Bool):
 rank l (o.getD t 0) all=(o.take t).countP fun i=>all|| !must (nth l i):=by
 unfold RedP.rank
 rw [← h.pm.countP_eq]
 have e1: ∀q:Int→Bool,o.countP q=(o.take t).countP q+ (o.drop t).countP q:=fun q=>by rw [← List.countP_append,List.take_append_drop]
 rw [e1]
 have e2:(o.drop t).countP (fun i=>i !=o.getD t 0 && (all|| !must (nth l i)) && better l i (o.getD t 0))=0:=by
  rw [List.countP_eq_zero]
  intro x hx
  obtain ⟨j,hj,rfl⟩:=List.mem_iff_getElem.1 hx
  rw [List.getElem_drop,getD_of]
  rw [List.length_drop] at hj
  rcases Nat.eq_zero_or_pos j with e|e
  · subst e;simp
  · rw [(h.lt (i:=t) (j:=t+j) (by omega) (by omega)).2];simp
 rw [e2,Nat.add_zero]
 refine List.countP_congr fun x hx=> ?_
 obtain ⟨j,hj,rfl⟩:=List.mem_iff_getElem.1 hx
 rw [List.length_take] at hj
 rw [List.getElem_take,getD_of]
 have hne:o.getD j 0≠o.getD t 0:=fun e=>by have:=getD_inj h.nd (by omega) ht e;omega
 rw [(h.lt (i:=j) (j:=t) (by omega) ht).1,show (o.getD j 0 !=o.getD t 0)=true from bne_iff_ne.2 hne]
 simp
theorem IsO.keep {l:List Lr} {o:List Int} (h:IsO l o) {t:Nat} (ht:t<o.length):keep l (o.getD t 0)=(must (nth l (o.getD t 0))||decide (cnt l o t<freeN l / 2)):=by
 unfold RedP.keep
 rw [h.rank ht false]
 simp only [Bool.false_or]
 rfl
theorem cnt_succ {l:List Lr} {o:List Int} {t:Nat} (ht:t<o.length):cnt l o (t+1)=cnt l o t+ (if must (nth l (o.getD t 0)) then 0 else 1):=by
 unfold cnt
 rw [List.take_add_one,List.countP_append]
 have:o[t]? =some (o.getD t 0):=by simp [List.getD,ht]
 rw [this]
 simp only [Option.toList_some,List.countP_cons,List.countP_nil]
 cases must (nth l (o.getD t 0))<;>simp
theorem IsO.cnt_all {l:List Lr} {o:List Int} (h:IsO l o):cnt l o o.length=freeN l:=by
 unfold cnt freeN
 rw [List.take_length,h.pm.countP_eq]
theorem cnt_mono {l:List Lr} {o:List Int} {s t:Nat} (h:s≤t) (ht:t≤o.length):cnt l o s≤cnt l o t:=by
 induction t with
 |zero=>rw [show s=0 by omega];exact Nat.le_refl _
 |succ t ih=>
  by_cases e:s=t+1
  · rw [e];exact Nat.le_refl _
  · rw [cnt_succ (by omega)]
    exact Nat.le_trans (ih (by omega) (by omega)) (Nat.le_add_right _ _)
theorem IsO.stays {l:List Lr} {o:List Int} (h:IsO l o):(idx l.length).countP (fun x=> !must (nth l x) && RedP.keep l x)=freeN l / 2:=by
 rw [← h.pm.countP_eq]
 have H: ∀t,t≤o.length→(o.take t).countP (fun x=> !must (nth l x) && RedP.keep l x)=min (freeN l / 2) (cnt l o t):=by
  intro t
  induction t with
  |zero=>intro _;simp [cnt]
  |succ t ih=>
   intro ht
   have ht':t<o.length:=by omega
   rw [List.take_add_one,List.countP_append,ih (by omega),cnt_succ ht']
   have:o[t]? =some (o.getD t 0):=by simp [List.getD,ht']
   rw [this]
   simp only [Option.toList_some,List.countP_cons,List.countP_nil,h.keep ht']
   cases must (nth l (o.getD t 0))
   · by_cases e:cnt l o t<freeN l / 2
     · simp [e];omega
     · simp [e];omega
   · simp
 have:=H o.length (Nat.le_refl _)
 rw [List.take_length,h.cnt_all] at this
 rw [this]
 omega
theorem le_total (l:List Lr) (a b:Int):Le (cmp l) a b∨Le (cmp l) b a:=by
 by_cases h:cmp l b a<0
 · exact .inr ((cmp_ord l).asym h)
 · exact .inl h
theorem isO_ex (l:List Lr): ∃o,IsO l o:=by
 refine ⟨(idx l.length).mergeSort (fun a b=>decide (¬cmp l b a<0)),List.mergeSort_perm _ _,?_⟩
 have hp:=List.pairwise_mergeSort (le:=fun a b=>decide (¬cmp l b a<0)) (fun a b c h1 h2=>by simp only [decide_eq_true_eq] at h1 h2 ⊢;exact (cmp_ord l).trans h1 h2)
  (fun a b=>by rcases le_total l a b with h|h<;>simp [Le] at h ⊢ <;>omega) (idx l.length)
 intro i j _ hij hj
 have:=List.pairwise_iff_getElem.1 hp i j (by omega) hj hij
 rw [getD_of,getD_of] at this
 simp only [decide_eq_true_eq] at this
 exact this
end Go.RedP
namespace Go.Proofs.YtddffgjagppimaaGreat.W.Re
open Go Go.Fw Go.RowKit Go.SoP Go.RedP
open Go.Proofs.Tryz (prog)
section
abbrev lrV (x:Lr):List Value:= [.int .i64 x.1,.int .i64 x.2.1,.bool x.2.2]
theorem lrE:Enc 3 lrV:=⟨fun _=>rfl,by decide,fun x v hv=>by simp [lrV] at hv;rcases hv with rfl|rfl|rfl<;>rfl⟩
theorem sl_int:slOk prog ty_sl_int ty_int 8=true:=by kernel_rfl
theorem sl_bool:slOk prog ty_sl_bool ty_bool 1=true:=by kernel_rfl
theorem int_zero:(Tryz.prog.info? ty_int).bind (·.zero)=some (.int .i64 0):=by kernel_rfl
theorem bool_zero:(Tryz.prog.info? ty_bool).bind (·.zero)=some (.bool false):=by kernel_rfl
variable {w:World} {p:Option Addr} {n c:Nat} {l:List Lr}
theorem lIx (h:Vr 3 lrV w p l) (hn:n=l.length) {X:Int} {x:Int} (e:X=x) (h0:0≤x) (h1:x<l.length) {K:Addr→Prop}
 (hk: ∀a,CellsAt w a 0 (lrV (nth l x))→K a):ixK p n X 3 K:=by
 subst e
 exact h.ix (0,0,false) h0 hn (by omega) hk
theorem lcells {a:Addr} {x:Lr} (h:CellsAt w a 0 (lrV x)):w.cell? (a.add 0)=some (.int .i64 x.1)∧w.cell? (a.add 1)=some (.int .i64 x.2.1)∧w.cell? (a.add 2)=some (.bool x.2.2):=⟨h.1,h.2.1,h.2.2.1⟩
theorem must_ok (x:Lr) (w:World):Calls prog reduce_must.id #[.agg #[.int .i64 x.1,.int .i64 x.2.1,.bool x.2.2]] w fun e w'=>e= .returned (.bool (must x))∧Grow w w':=by
 refine reduce_must.calls ?_
 intro n1 w2 h1
 refine ⟨_,cell_add h1.has rfl,cnd_i (fun q=> ⟨?_,h1.mod⟩) (fun q=> ⟨_,cell_add h1.has rfl,?_,h1.mod⟩)⟩
 · unfold must;rw [q];rfl
 · unfold must;rw [q];rfl
theorem all_take {f:Lr→Bool} {t:Nat} (h:(l.take t).all f=true) (ht:t<l.length) (hx:f (nth l t)=true):(l.take (t+1)).all f=true:=by
 rw [List.take_add_one,List.all_append,h]
 have:l[t]? =some (nth l t):=by simp [nth,List.getD,ht]
 rw [this];simpa using hx
theorem all_bad {f:Lr→Bool} {t:Nat} (ht:t<l.length) (hx:f (nth l t)=false):l.all f=false:=by
 cases h:l.all f with
 |false=>rfl
 |true=>
  have:=List.all_eq_true.1 h (nth l t) (by simp [nth,List.getD,ht])
  rw [hx] at this;cases this
theorem redCheck_ok (h:Vr 3 lrV w p l) (hn:n=l.length) (hm:n≤maxLen):Calls prog reduce_Check.id #[.slice p n c] w fun e w'=>e= .returned (.int .i64 (if l.all okL then 0 else 1))∧Grow w w':=by
 refine reduce_Check.calls ?_
 unfold maxLen at hm
 refine ⟨fun I w' k=> ∃t:Nat,I=t∧t≤l.length∧k=l.length - t∧(l.take t).all okL=true∧Grow w w',⟨_,0,rfl,Nat.zero_le _,rfl,rfl,Mod.refl w⟩,?_⟩
 rintro I w1 k _ ⟨t,rfl,ht,rfl,ha,G⟩
 refine cnd_i (fun q=> ?_) (fun q=> ⟨?_,G⟩)
 · have q:t<l.length:=by simp at q;omega
   have H:=h.grow G
   refine lIx H hn (x:=t) rfl (by omega) (by omega) fun a C=> ⟨_,_,_,C,?_⟩
   intro n1 w2 h2
   refine store_i h2.has rfl rfl fun w3 h3 m3=> ?_
   have g3:Grow w w3:=G.trans (h2.mod.fresh m3 (by have:=h2.num;omega))
   have h3:Has w3 n1 #[.int .i64 (nth l t).1,.int .i64 (nth l t).2.1,.bool (nth l t).2.2]:=h3
   have bad:okL (nth l t)=false→(Ending.returned (.int .i64 1)= .returned (.int .i64 (if l.all okL then 0 else 1))∧Grow w w3):=fun hb=>by rw [all_bad q hb];exact ⟨rfl,g3⟩
   unfold okL at bad
   refine ⟨_,cell_add h3 rfl,cnd_i (fun s=>bad (by simp at s;simp;omega)) (fun s1=> ?_)⟩
   refine ⟨_,cell_add h3 rfl,cnd_i (fun s=>bad (by simp at s;simp;omega)) (fun s2=> ?_)⟩
   refine ⟨_,cell_add h3 rfl,cnd_i (fun s=>bad (by simp at s;simp;omega)) (fun s3=> ?_)⟩
   refine ⟨_,cell_add h3 rfl,_,cell_add h3 rfl,cnd_i (fun s=>bad (by simp at s;simp;omega)) (fun s4=> ?_)⟩
   refine ⟨_,?_,t+1,?_,by omega,rfl,all_take ha q ?_,g3⟩
   · omega
   · rw [wrap64_of (by omega) (by omega)];omega
   · unfold okL
     simp only [decide_eq_false_iff_not] at s1 s2 s3 s4
     exact decide_eq_true (by omega)
 · have:t=l.length:=by simp at q;omega
   subst this
   rw [List.take_length] at ha
   rw [ha];rfl
theorem nth_ok (hl:l.all okL=true) {x:Int} (hx:0≤x∧x<l.length):0≤(nth l x).2.1∧(nth l x).2.1≤4096∧0≤(nth l x).1∧(nth l x).1≤(nth l x).2.1:=by
 have:=List.all_eq_true.1 hl (nth l x) (by simp [nth,List.getD,show x.toNat<l.length by omega])
 unfold okL at this
 exact of_decide_eq_true this
theorem lr_lt (h:Vr 3 lrV w p l) (hl:0<l.length): ∀b,blk p=some b→b<w.heap.size:=by
 intro b hb
 obtain ⟨a,rfl,C⟩:=h 0 hl
 have:=World.block_lt_of_cell? w _ C.1
 rw [add_block,add_block] at this
 simp [blk] at hb
 omega
theorem order1_ok (h:Vr 3 lrV w p l) (hn:n=l.length) (hm:n≤maxLen) (hl:l.all okL=true) {nb:Nat} (hb:Has w nb #[.slice p n c]) {x y:Int} (hx:0≤x∧x<l.length) (hy:0≤y∧y<l.length):
 Calls prog reduce_Order_1.id #[.int .i64 x,.int .i64 y,.pointer (some ⟨nb,0,none⟩)] w fun e w'=>e= .returned (.int .i64 (cmp l x y))∧Gdr w w':=by
 refine reduce_Order_1.calls ?_
 unfold maxLen at hm
 have G:Gdr w w.drew:=(Gdr.refl w).drew
 have ox:=nth_ok hl hx
 have oy:=nth_ok hl hy
 refine ⟨_,_,_,cell_of hb.drew rfl,lIx h.drew hn rfl hx.1 hx.2 fun a C=> ⟨_,(lcells C).1,_,_,_,cell_of hb.drew rfl,lIx h.drew hn rfl hy.1 hy.2 fun a D=> ⟨_,(lcells D).1,cnd_i (fun q=> ?_) (fun q=> ?_)⟩⟩⟩
 · have q:(nth l x).1≠(nth l y).1:=by simpa using q
   refine ⟨_,_,_,cell_of hb.drew.drew rfl,lIx h.drew.drew hn rfl hx.1 hx.2 fun a C=> ⟨_,(lcells C).1,_,_,_,cell_of hb.drew.drew rfl,lIx h.drew.drew hn rfl hy.1 hy.2 fun a D=> ⟨_,(lcells D).1,?_,G.drew⟩⟩⟩
   unfold cmp
   rw [if_pos q,wrap64_of (by omega) (by omega)]
 · have q: ¬(nth l x).1≠(nth l y).1:=by simpa using q
   refine ⟨_,_,_,cell_of hb.drew.drew rfl,lIx h.drew.drew hn rfl hx.1 hx.2 fun a C=> ⟨_,(lcells C).2.1,_,_,_,cell_of hb.drew.drew rfl,lIx h.drew.drew hn rfl hy.1 hy.2 fun a D=> ⟨_,(lcells D).2.1,cnd_i (fun q2=> ?_) (fun q2=> ⟨?_,G.drew⟩)⟩⟩⟩
   · have q2:(nth l x).2.1≠(nth l y).2.1:=by simpa using q2
     refine ⟨_,_,_,cell_of hb.drew.drew.drew rfl,lIx h.drew.drew.drew hn rfl hx.1 hx.2 fun a C=> ⟨_,(lcells C).2.1,_,_,_,cell_of hb.drew.drew.drew rfl,lIx h.drew.drew.drew hn rfl hy.1 hy.2 fun a D=> ⟨_,(lcells D).2.1,?_,G.drew.drew⟩⟩⟩
     unfold cmp
     rw [if_neg q,if_pos q2,wrap64_of (by omega) (by omega)]
   · have q2: ¬(nth l x).2.1≠(nth l y).2.1:=by simpa using q2
     unfold cmp
     rw [if_neg q,if_neg q2,wrap64_of (by omega) (by omega)]
theorem order1_ent:entB prog reduce_Order_1.id=true:=by kernel_rfl
theorem args2c (u v z:Value):(#[]++ #[u,v]++ #[z]:Array Value)= #[u,v,z]:=by simp
def upTo (t m:Nat):List Int:=(List.range t).map Int.ofNat++List.replicate (m - t) 0
theorem upTo_len {t m:Nat} (h:t≤m):(upTo t m).length=m:=by simp [upTo];omega
theorem upTo_all (m:Nat):upTo m m=idx m:=by simp [upTo,idx]
theorem upTo_set {t m:Nat} (h:t<m):(upTo t m).set t (t:Int)=upTo (t+1) m:=by
 unfold upTo
 rw [List.set_append,if_neg (by simp),List.length_map,List.length_range,Nat.sub_self,List.range_succ,List.map_append,List.append_assoc]
 congr 1
 rw [show m - t=(m - (t+1))+1 by omega,List.replicate_succ]
 rfl
theorem order_ok (h:Vr 3 lrV w p l) (hn:n=l.length) (hm:n≤1000000):Calls prog reduce_Order.id #[.slice p n c] w fun e w'=> ∃ (q:Option Addr) (d:Nat) (o:List Int),e= .returned (.slice q o.length d)∧Grow w w'∧OwI ty_int w' q d o∧(if l.all okL then IsO l o else o= [])∧(∀b,blk q=some b→w.heap.size≤b):=by
 refine reduce_Order.calls ?_
 intro nb w1 h1
 have g1:Grow w w1:=h1.mod
 have sz1:=h1.num
 refine ⟨_,_,_,cell_of h1.has rfl,(redCheck_ok (h.grow g1) hn (by unfold maxLen;omega)).mono ?_⟩
 rintro e w2 ⟨rfl,g2⟩
 have b2:=h1.has.grow g2
 cases hl:l.all okL with
 |false=>
  refine ⟨_,rfl,cnd_t rfl ⟨none,0,[],rfl,g1.trans g2,Ow.nil _ _ _,by simp,fun b hb=>by simp [blk] at hb⟩⟩
 |true=>
  refine ⟨_,rfl,cnd_f rfl ⟨_,_,_,cell_of b2 rfl,?_⟩⟩
  have sz2:=g2.size
  have s1:=h1.size
  refine make_i sl_int int_zero (x:=(0:Int)) rfl n rfl (by omega) fun w3 o3 g3 z3=> ?_
  have b3:=b2.grow g3
  refine ⟨_,_,_,cell_of b3 rfl,?_⟩
  have hq: ∀b,blk (some (⟨w2.heap.size,0,none⟩:Addr))=some b→b=w2.heap.size:=fun b hb=>by simp [blk] at hb;exact hb.symm
  refine ⟨fun I w' k=> ∃t:Nat,I=t∧t≤n∧k=n - t∧OwI ty_int w' (some ⟨w2.heap.size,0,none⟩) n (upTo t n)∧Mod (fun b=>b=w2.heap.size) w2 w',⟨_,0,rfl,Nat.zero_le _,rfl,by simpa [upTo] using o3,g3.mono fun _ _=>False.elim⟩,?_⟩
  rintro I w4 k _ ⟨t,rfl,ht,rfl,o4,m4⟩
  have ho4:=upTo_len ht
  refine cnd_i (fun q=> ?_) (fun q=> ?_)
  · have q:t<n:=by simpa using q
    refine o4.st (t:Int) rfl rfl (by omega) ho4.symm (by omega) fun w5 o5 m5=> ?_
    rw [Int.toNat_natCast,upTo_set q] at o5
    refine ⟨_,?_,t+1,wN (by omega) (by omega),by omega,rfl,o5,m4.then m5 fun b _ hb=>hq b hb⟩
    omega
  · have q:t=n:=by simp at q;omega
    subst q
    have G4:Grow w2 w4:=m4.mono fun b hb e=>by omega
    have B4:=b2.grow G4
    have H4:=((h.grow g1).grow g2).grow G4
    rw [upTo_all] at o4
    have hne:nb≠w2.heap.size:=by have:=b2.lt;omega
    have X:Cx w4 (some ⟨w2.heap.size,0,none⟩) t (idx t) reduce_Order_1.id #[.pointer (some ⟨nb,0,none⟩)] (cmp l):=by
     refine ⟨(idx_len t).symm,by omega,order1_ent,fun x hx y hy w' m'=> ?_,cmp_ord l⟩
     rw [args2c]
     have hx:=idx_mem.1 hx
     have hy:=idx_mem.1 hy
     refine order1_ok (H4.keep m' fun b hb e=> ?_) hn (by unfold maxLen;omega) hl (B4.keep m' fun e=>hne (hq _ e)) (by omega) (by omega)
     have e:=hq _ e
     have:=lr_lt h (by omega) b hb
     have:=g1.size
     have:=g2.size
     omega
    refine (sort_ok X o4).mono ?_
    rintro e w5 ⟨rfl,l5,o5,m5,p5,s5⟩
    refine ⟨rfl,_,_,l5,?_,?_,o5,?_,?_⟩
    · rw [p5.length_eq,idx_len]
    · exact (g1.trans g2).then (m4.then (S:=fun b=>b=w2.heap.size) m5 fun b _ hb=>hq b hb) fun b hb e=>by omega
    · rw [if_pos rfl]
      rw [hn] at p5
      exact ⟨p5,s5⟩
    · intro b hb
      have:=hq b hb
      omega
end
section
variable {w:World} {p:Option Addr} {n c:Nat} {l:List Lr}
theorem idx_succ (t:Nat):idx (t+1)=idx t++ [(t:Int)]:=by
 unfold idx
 rw [List.range_succ,List.map_append]
 rfl
def mustTo (l:List Lr) (t m:Nat):List Bool:=((idx t).map fun i=>must (nth l i))++List.replicate (m - t) false
theorem mustTo_len {t m:Nat} (h:t≤m):(mustTo l t m).length=m:=by simp [mustTo,idx_len];omega
theorem mustTo_set {t m:Nat} (h:t<m):(mustTo l t m).set t (must (nth l t))=mustTo l (t+1) m:=by
 unfold mustTo
 rw [List.set_append,if_neg (by simp [idx_len]),List.length_map,idx_len,Nat.sub_self,idx_succ,List.map_append,List.append_assoc]
 congr 1
 rw [show m - t=(m - (t+1))+1 by omega,List.replicate_succ]
 rfl
theorem mustTo_get {t m:Nat} (h:t<m):(mustTo l (t+1) m).getD t false=must (nth l t):=by
 rw [← mustTo_set h]
 simp [List.getD,mustTo_len (Nat.le_of_lt h),h]
theorem mustTo_all {m x:Nat} (h:x<m):(mustTo l m m).getD x false=must (nth l x):=by
 unfold mustTo
 simp [idx,List.getD,h]
theorem free_succ (t:Nat):((idx (t+1)).countP fun i=> !must (nth l i))=((idx t).countP fun i=> !must (nth l i))+ (if must (nth l t) then 0 else 1):=by
 rw [idx_succ,List.countP_append]
 simp only [List.countP_cons,List.countP_nil]
 cases must (nth l t)<;>simp
theorem free_le (t:Nat):((idx t).countP fun i=> !must (nth l i))≤t:=by
 have:=List.countP_le_length (p:=fun i=> !must (nth l i)) (l:=idx t)
 rwa [idx_len] at this
theorem getD_setB {b:List Bool} {i j:Nat} {x:Bool} (hi:i<b.length):(b.set i x).getD j false=if j=i then x else b.getD j false:=by
 simp only [List.getD_eq_getElem?_getD,List.getElem?_set]
 by_cases h:j=i
 · subst h;simp [hi]
 · rw [if_neg (fun e=>h e.symm),if_neg h]
theorem keep_ok (h:Vr 3 lrV w p l) (hn:n=l.length) (hm:n≤1000000):Calls prog reduce_Keep.id #[.slice p n c] w fun e w'=> ∃ (q:Option Addr) (d:Nat) (k:List Bool),e= .returned (.slice q k.length d)∧Grow w w'∧Ow Value.bool ty_bool w' q d k∧(∀b,blk q=some b→w.heap.size≤b)∧
 (if l.all okL then k.length=n∧∀x:Nat,x<n→k.getD x false=keep l x else k= []):=by
 refine reduce_Keep.calls ?_
 refine (redCheck_ok h hn (by unfold maxLen;omega)).mono ?_
 rintro e w1 ⟨rfl,g1⟩
 cases hl:l.all okL with
 |false=>exact ⟨_,rfl,cnd_t rfl ⟨none,0,[],rfl,g1,Ow.nil _ _ _,fun b hb=>by simp [blk] at hb,by simp⟩⟩
 |true=>
 refine ⟨_,rfl,cnd_f rfl ?_⟩
 refine make_i sl_bool bool_zero (x:=false) rfl n rfl (by omega) fun w2 o2 g2 z2=> ?_
 have hq: ∀b,blk (some (⟨w1.heap.size,0,none⟩:Addr))=some b→b=w1.heap.size:=fun b hb=>by simp [blk] at hb;exact hb.symm
 have hN:Mod (fun b=>b=w1.heap.size) w1 w2:=g2.mono fun _ _=>False.elim
 refine ⟨fun F I w' k=> ∃t:Nat,I=t∧F=((idx t).countP fun i=> !must (nth l i):Nat)∧t≤n∧k=n - t∧Ow Value.bool ty_bool w' (some ⟨w1.heap.size,0,none⟩) n (mustTo l t n)∧Mod (fun b=>b=w1.heap.size) w1 w',⟨_,0,rfl,rfl,Nat.zero_le _,rfl,by simpa [mustTo,idx] using o2,hN⟩,?_⟩
 rintro F I w3 k _ ⟨t,rfl,rfl,ht,rfl,o3,m3⟩
 have G3:Grow w1 w3:=m3.mono fun b hb e=>by omega
 have H3:=(h.grow g1).grow G3
 refine cnd_i (fun q=> ?_) (fun q=> ?_)
 · have q:t<n:=by simpa using q
   refine lIx H3 hn (x:=t) rfl (by omega) (by omega) fun a C=> ⟨_,_,_,C,?_⟩
   intro n1 w4 h4
   refine store_i h4.has rfl rfl fun w5 h5 m5=> ?_
   have g5:Grow w3 w5:=h4.mod.fresh m5 (by have:=h4.num;omega)
   have h5:Has w5 n1 #[.int .i64 (nth l t).1,.int .i64 (nth l t).2.1,.bool (nth l t).2.2]:=h5
   refine ⟨_,_,_,⟨cell_add h5 rfl,cell_add h5 rfl,cell_add h5 rfl,trivial⟩,(must_ok (nth l t) w5).mono ?_⟩
   rintro e w6 ⟨rfl,g6⟩
   refine ⟨_,rfl,?_⟩
   have o6:=o3.grow (g5.trans g6)
   have hlen:=mustTo_len (l:=l) ht
   refine o6.st (must (nth l t)) rfl rfl (by omega) hlen.symm (by omega) fun w7 o7 m7=> ?_
   rw [Int.toNat_natCast,mustTo_set q] at o7
   have M7:Mod (fun b=>b=w1.heap.size) w1 w7:=(m3.grow (g5.trans g6)).then m7 fun b _ hb=>hq b hb
   refine o7.ix false (by omega) (mustTo_len (by omega)).symm (by omega) fun a e=> ⟨_,e,?_⟩
   rw [Int.toNat_natCast,mustTo_get q]
   have hf:=free_le (l:=l) t
   refine cnd_i (fun s=> ?_) (fun s=> ?_)
   · refine ⟨_,?_,t+1,wN (by omega) (by omega),?_,by omega,rfl,o7,M7⟩
     · omega
     · have s:must (nth l t)=false:=by simpa using s
       rw [free_succ,s]
       exact wN (by simp) (by simp;omega)
   · refine ⟨_,?_,t+1,wN (by omega) (by omega),?_,by omega,rfl,o7,M7⟩
     · omega
     · have s:must (nth l t)=true:=by simpa using s
       rw [free_succ,s];rfl
 · have q:t=l.length:=by simp at q;omega
   subst q
   have hnl:n=l.length:=hn
   subst hnl
   refine ⟨by decide,(order_ok H3 rfl hm).mono ?_⟩
   rintro e w4 ⟨q,d,o,rfl,g4,oo,ho,hfr⟩
   rw [hl,if_pos rfl] at ho
   have hol:=ho.len
   refine ⟨_,_,_,rfl,?_⟩
   have hff:((idx l.length).countP fun i=> !must (nth l i))=freeN l:=rfl
   rw [hff]
   have hfl:freeN l≤l.length:=free_le l.length
   have ed:IntKind.i64.wrap (((freeN l:Nat):Int).tdiv 2)=((freeN l / 2:Nat):Int):=wN (by rw [Int.tdiv_eq_ediv_of_nonneg (by omega)];omega) (by omega)
   rw [ed]
   refine ⟨fun L I w' k=> ∃ (t:Nat) (b:List Bool),I=t∧L=(freeN l / 2 - cnt l o t:Nat)∧t≤o.length∧k=o.length - t∧b.length=l.length∧(∀x:Nat,x<l.length→(b.getD x false=true↔must (nth l x)=true∨∃j,j<t∧o.getD j 0=(x:Int)∧cnt l o j<freeN l / 2))∧
    Ow Value.bool ty_bool w' (some ⟨w1.heap.size,0,none⟩) l.length b∧OwI ty_int w' q d o∧Mod (fun b=>b=w1.heap.size) w1 w',⟨_,0,mustTo l l.length l.length,rfl,by simp [cnt],Nat.zero_le _,rfl,mustTo_len (Nat.le_refl _),fun x hx=>by rw [mustTo_all hx];simp,o3.grow g4,oo,m3.grow g4⟩,?_⟩
   rintro L I w5 k _ ⟨t,b,rfl,rfl,ht,rfl,hb,hx,ob,o5,m5⟩
   refine cnd_i (fun r=> ?_) (fun r=> ?_)
   · have r:t<o.length:=by simpa using r
     refine o5.ix 0 (by omega) rfl (by omega) fun a e=> ⟨_,e,?_⟩
     rw [Int.toNat_natCast]
     obtain ⟨r0,r1⟩:=ho.rng r
     obtain ⟨x,ex⟩: ∃x:Nat,o.getD t 0=(x:Int):=⟨(o.getD t 0).toNat,by omega⟩
     have hxl:x<l.length:=by omega
     rw [ex]
     refine ob.ix false (by omega) hb.symm (by omega) fun a e=> ⟨_,e,?_⟩
     rw [Int.toNat_natCast]
     have hxx:=hx x hxl
     have none_t: ¬∃j,j<t∧o.getD j 0=(x:Int)∧cnt l o j<freeN l / 2:=by
      rintro ⟨j,j1,j2,_⟩
      have:=getD_inj ho.nd (i:=j) (j:=t) (by omega) r (by rw [j2,ex])
      omega
     have stp: ∀y:Nat,(∃j,j<t+1∧o.getD j 0=(y:Int)∧cnt l o j<freeN l / 2)↔(∃j,j<t∧o.getD j 0=(y:Int)∧cnt l o j<freeN l / 2)∨(y=x∧cnt l o t<freeN l / 2):=by
      intro y
      constructor
      · rintro ⟨j,j1,j2,j3⟩
        by_cases e:j=t
        · subst e;rw [ex] at j2;exact .inr ⟨by omega,j3⟩
        · exact .inl ⟨j,by omega,j2,j3⟩
      · rintro (⟨j,j1,j2,j3⟩| ⟨rfl,j3⟩)
        · exact ⟨j,by omega,j2,j3⟩
        · exact ⟨t,by omega,ex,j3⟩
     have cs:=cnt_succ (l:=l) r
     rw [ex] at cs
     have hmx:must (nth l (x:Int))=b.getD x false:=by
      cases hbx:b.getD x false with
      |true=>
       rcases hxx.1 hbx with h|h
       · exact h
       · exact absurd h none_t
      |false=>
       cases hmm:must (nth l (x:Int)) with
       |false=>rfl
       |true=>have:=hxx.2 (.inl hmm);rw [hbx] at this;exact this.symm
     have et:IntKind.i64.wrap ((t:Int)+1)=((t+1:Nat):Int):=wN (by omega) (by omega)
     have stay:(b.getD x false=true∨¬cnt l o t<freeN l / 2)→∀y:Nat,y<l.length→(b.getD y false=true↔must (nth l y)=true∨∃j,j<t+1∧o.getD j 0=(y:Int)∧cnt l o j<freeN l / 2):=by
      intro hc y hy
      rw [hx y hy,stp y]
      constructor
      · rintro (h|h)
        · exact .inl h
        · exact .inr (.inl h)
      · rintro (h|h| ⟨rfl,h⟩)
        · exact .inl h
        · exact .inr h
        · rcases hc with hc|hc
          · exact .inl (by rw [hmx];exact hc)
          · exact absurd h hc
     refine cnd_i (fun s=> ?_) (fun s=> ?_)
     · have s:b.getD x false=false:=by simpa using s
       rw [s] at hmx
       rw [hmx] at cs
       refine cnd_i (fun s2=> ?_) (fun s2=> ?_)
       · have s2:cnt l o t<freeN l / 2:=by simp at s2;omega
         refine ob.st true rfl rfl (by omega) hb.symm (by omega) fun w6 o6 m6=> ?_
         rw [Int.toNat_natCast] at o6
         have M6:Mod (fun b=>b=w1.heap.size) w1 w6:=m5.then m6 fun b _ hb=>hq b hb
         refine ⟨_,?_,t+1,_,et,?_,by omega,rfl,by simpa using hb,fun y hy=> ?_,o6,?_,M6⟩
         · omega
         · rw [cs]
           simp only [Bool.false_eq_true,if_false]
           rw [wrap64_of (by omega) (by omega)]
           omega
         · rw [getD_setB (by omega),stp y]
           by_cases e:y=x
           · subst e
             rw [if_pos (Eq.refl y)]
             simp [s2]
           · rw [if_neg e,hx y hy]
             constructor
             · rintro (h|h)
               · exact .inl h
               · exact .inr (.inl h)
             · rintro (h|h| ⟨h,_⟩)
               · exact .inl h
               · exact .inr h
               · exact absurd h e
         · refine o5.keep m6 fun b hb e=> ?_
           have:=hfr b hb
           have:=hq b e
           have:=m3.size
           have:=z2
           have:=hN.size
           have hlt:=o3.lt w1.heap.size rfl
           omega
       · have s2: ¬cnt l o t<freeN l / 2:=by simp at s2;omega
         refine ⟨_,?_,t+1,b,et,?_,by omega,rfl,hb,stay (.inr s2),ob,o5,m5⟩
         · omega
         · rw [cs];simp only [Bool.false_eq_true,if_false];omega
     · have s:b.getD x false=true:=by simpa using s
       rw [s] at hmx
       rw [hmx] at cs
       refine ⟨_,?_,t+1,b,et,?_,by omega,rfl,hb,stay (.inl s),ob,o5,m5⟩
       · omega
       · rw [cs];simp
   · have r:t=o.length:=by simp at r;omega
     subst r
     refine ⟨_,_,b,by rw [hb],g1.trans (m5.mono fun b hb e=>by omega),ob,fun b hb=>by have:=hq b hb;have:=g1.size;omega,?_⟩
     rw [if_pos rfl]
     refine ⟨hb,fun x hxl=> ?_⟩
     obtain ⟨j,j1,j2⟩:=ho.find (x:=(x:Int)) (by omega) (by omega)
     have hk:=ho.keep j1
     rw [j2] at hk
     rw [hk,Bool.eq_iff_iff,hx x hxl,Bool.or_eq_true,decide_eq_true_eq]
     constructor
     · rintro (h| ⟨i,i1,i2,i3⟩)
       · exact .inl h
       · have:=getD_inj ho.nd i1 j1 (by rw [i2,j2])
         subst this
         exact .inr i3
     · rintro (h|h)
       · exact .inl h
       · exact .inr ⟨j,j1,j2,h⟩
end
end Go.Proofs.YtddffgjagppimaaGreat.W.Re
namespace Go.QuP
def quo (first:Nat):Nat→Nat
 |0=>first
 |t+1=>quo first t+quo first t / 10+1
theorem quo_le {a b:Nat} (h:a≤b): ∀t,quo a t≤quo b t
 |0=>h
 |t+1=>by
  have:=quo_le h t
  unfold quo
  omega
theorem quo_mono (a:Nat): ∀s t,s≤t→quo a s≤quo a t:=by
 intro s t h
 induction t with
 |zero=>rw [show s=0 by omega];exact Nat.le_refl _
 |succ t ih=>
  by_cases e:s=t+1
  · rw [e];exact Nat.le_refl _
  · have:=ih (by omega)
    have:quo a t≤quo a (t+1):=by simp only [quo];omega
    omega
theorem quo_top:quo 1048576 101<1000000000000:=by decide+kernel
theorem quo_bd {a t:Nat} (h:a≤1048576) (ht:t≤101):quo a t<1000000000000:=
 Nat.lt_of_le_of_lt (Nat.le_trans (quo_le h t) (quo_mono _ t 101 ht)) quo_top
end Go.QuP
namespace Go.Proofs.YtddffgjagppimaaGreat.W.Re
open Go Go.Fw Go.RowKit Go.SoP Go.RedP Go.QuP
variable {w:World} {p:Option Addr} {n c:Nat} {l:List Lr}
def mayQ (first times:Int):Bool:=decide (1≤first∧first≤1048576∧0≤times∧times≤100)
def quota (first times:Int):Int:=if mayQ first times then (quo first.toNat times.toNat:Int) else 0
theorem Quota_ok (first times:Int) (w:World):Calls Tryz.prog reduce_Quota.id #[.int .i64 first,.int .i64 times] w fun e w'=>e= .returned (.int .i64 (quota first times))∧Grow w w':=by
 refine reduce_Quota.calls ?_
 have bad:mayQ first times=false→(Ending.returned (.int .i64 0)= .returned (.int .i64 (quota first times))∧Grow w w):=fun h=>by unfold quota;rw [h];exact ⟨rfl,Mod.refl w⟩
 refine cnd_i (fun q=>bad (by simp at q;unfold mayQ;exact decide_eq_false (by omega))) (fun q1=>cnd_i (fun q=>bad (by simp at q;unfold mayQ;exact decide_eq_false (by omega))) (fun q2=>cnd_i (fun q=>bad (by simp at q;unfold mayQ;exact decide_eq_false (by omega))) (fun q3=>cnd_i (fun q=>bad (by simp at q;unfold mayQ;exact decide_eq_false (by omega))) (fun q4=> ?_))))
 simp only [decide_eq_false_iff_not] at q1 q2 q3 q4
 have hm:mayQ first times=true:=decide_eq_true (by omega)
 refine ⟨fun N V w' k=> ∃t:Nat,V=t∧N=(quo first.toNat t:Nat)∧(t:Int)≤times∧k=times.toNat - t∧Grow w w',⟨_,0,rfl,by simp only [quo];omega,by omega,rfl,Mod.refl w⟩,?_⟩
 rintro N V w1 k _ ⟨t,rfl,rfl,ht,rfl,G⟩
 have b0:=quo_bd (a:=first.toNat) (t:=t) (by omega) (by omega)
 have b1:=quo_bd (a:=first.toNat) (t:=t+1) (by omega) (by omega)
 refine cnd_i (fun q=> ?_) (fun q=> ⟨?_,G⟩)
 · have q:(t:Int)<times:=by simpa using q
   refine ⟨by decide,_,?_,t+1,wN (by omega) (by omega),?_,by omega,rfl,G⟩
   · omega
   · have e1:IntKind.i64.wrap (((quo first.toNat t:Nat):Int).tdiv 10)=((quo first.toNat t / 10:Nat):Int):=wN (by rw [Int.tdiv_eq_ediv_of_nonneg (by omega)];omega) (by omega)
     have e2:IntKind.i64.wrap (((quo first.toNat t / 10:Nat):Int)+1)=((quo first.toNat t / 10+1:Nat):Int):=wN (by omega) (by omega)
     rw [e1,e2]
     exact wN (by simp only [quo];omega) (by omega)
 · have q:(t:Int)=times:=by simp at q;omega
   unfold quota
   rw [hm,if_pos rfl,← q,Int.toNat_natCast]
theorem Due_ok (learnt first times:Int) (w:World):Calls Tryz.prog reduce_Due.id #[.int .i64 learnt,.int .i64 first,.int .i64 times] w fun e w'=>e= .returned (.bool (decide (quota first times>0) && decide (learnt≥quota first times)))∧Grow w w':=by
 refine reduce_Due.calls ?_
 refine (Quota_ok first times w).mono ?_
 rintro e w1 ⟨rfl,g1⟩
 refine ⟨_,rfl,cnd_i (fun q=> ⟨?_,g1⟩) (fun q=> ⟨?_,g1⟩)⟩
 · rw [q];rfl
 · rw [q];rfl
end Go.Proofs.YtddffgjagppimaaGreat.W.Re
