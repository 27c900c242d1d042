/- The frame is sound: what it asks of a function is a contract of the function. -/
import Derived.Test.YtbdghpjnifjlmaaGreatFwOrderW
import Derived.Deep.LoopGhost
namespace Go.Fw
open Go
variable {P:Program} {D:List Deferred}
def Ag (D:List Deferred) (n:Nat) (a:Act) (f:Fr):Prop:=a.tmps.size=n∧a.defers=D∧∀i,a.tmps.getD i undef=f i
theorem Ag.eval {n:Nat} {a:Act} {f:Fr} (h:Ag D n a f):a.eval=ev f:=by
 funext x
 cases x<;>simp [Act.eval,ev]
 exact (by simpa using h.2.2 _)
theorem set_some (f:Fr) (j:Nat) (v:Value) (i:Nat):f.set (some j) v i=if i=j then v else f i:=by
 show (bif Nat.beq i j then v else f i)=_
 cases hb:Nat.beq i j with
 |true=>rw [if_pos (Nat.eq_of_beq_eq_true hb)];rfl
 |false=>rw [if_neg (fun h=>by rw [h,Nat.beq_refl] at hb;cases hb)];rfl
theorem Ag.put {n:Nat} {a:Act} {f:Fr} (h:Ag D n a f) {d:Option Nat} (hd: ∀j,d=some j→j<n) (v:Value):Ag D n (a.put d v) (f.set d v):=by
 cases d with
 |none=>exact h
 |some j=>
  obtain ⟨h1,h2,h3⟩:=h
  refine ⟨by simpa [Act.put] using h1,h2,fun i=> ?_⟩
  rw [set_some]
  have hj:=hd j rfl
  by_cases hij:i=j
  · subst hij
    simp [Act.put,h1,hj]
  · rw [if_neg hij,← h3 i]
    simp [Act.put,Array.getElem?_setIfInBounds_ne (Ne.symm hij)]
theorem set_same (f:Fr) (t:Nat) (v:Value) (h:f t=v):f.set (some t) v=f:=by
 funext i
 rw [set_some]
 by_cases hi:i=t
 · subst hi;simp [h]
 · simp [hi]
def dstBelow (n:Nat) (o:Oper):Bool:=
 match o.dst with
 |none=>true
 |some d=>Nat.blt d n
theorem dstBelow_spec {n:Nat} {o:Oper} (h:dstBelow n o=true): ∀j,o.dst=some j→j<n:=by
 intro j hj
 simp only [dstBelow,hj] at h
 simpa using h
def opsOk (P:Program) (n:Nat):List Oper→Bool
 | []=>true
 |o::l=>dstBelow n o && callOk P o && opsOk P n l
theorem yielded_eq {ops:Array Oper} {n:Nat} {a:Act} {f:Fr} (h:Ag D n a f) {j t:Nat} (ht:(ops[j]?).bind (·.dst)=some t) (htn:t<n) {b:Bool} (hb:f t= .bool b):
 yielded ops a.tmps j=some b:=by
 unfold yielded
 rw [ht]
 have h3:=h.2.2 t
 have hlt:t<a.tmps.size:=by rw [h.1];exact htn
 simp only [Option.bind_some,Array.getElem?_eq_getElem hlt]
 simp [hlt] at h3
 rw [h3,hb]
theorem opsOk_get {n:Nat}: ∀ {l:List Oper},opsOk P n l=true→∀ (j:Nat) (o:Oper),l[j]? =some o→dstBelow n o=true∧callOk P o=true
 | [],_,j,o,h=>by simp at h
 |x::l,h,j,o,ho=>by
  simp only [opsOk,Bool.and_eq_true] at h
  cases j with
  |zero=>simp at ho;subst ho;exact h.1
  |succ j=>exact opsOk_get h.2 j o (by simpa using ho)
theorem stepO_sound {ops:Array Oper} {n:Nat} (hok:opsOk P n ops.toList=true) {i:Nat} {o:Oper} (h0:ops[i]? =some o) {f:Fr} {a:Act} {w:World} {C:Fr→World→Prop} (ha:Ag D n a f)
 (h:stepO P ops o f w C):wpE P ops i (fun a' w'=> ∃f',Ag D n a' f'∧C f' w') a w:=by
 obtain ⟨hd,hc⟩:=opsOk_get hok i o (by simpa using h0)
 have hdst:=dstBelow_spec hd
 unfold wpE
 simp only [h0]
 have doit: ∀ {f:Fr},Ag D n a f→(opK P o f w fun v w'=>C (f.set o.dst v) w')→evid P (opKind P o) (execOp a.eval o) w fun v w'=> ∃f',Ag D n (a.put o.dst v) f'∧C f' w':=by
  intro f ha h
  rw [ha.eval]
  exact evid_mono (fun v w' hr=> ⟨_,ha.put hdst v,hr⟩) (opK_sound o f w _ hc h)
 have pass: ∀ {f:Fr},Ag D n a f→C (f.set o.dst undef) w→∃f',Ag D n (a.put o.dst undef) f'∧C f' w:=by
  intro f ha h
  exact ⟨_,ha.put hdst undef,h⟩
 unfold stepO at h
 split at h
 · rename_i hg
   exact sev_of (by simp [Region.wanted,hg]) (doit ha h)
 · rename_i j want hg
   split at h
   · exact h.elim
   · rename_i t ht
     have htn:t<n:=by
      cases hoj:ops[j]? with
      |none=>simp [hoj] at ht
      |some oj=>
       rw [hoj] at ht
       exact dstBelow_spec (opsOk_get hok j oj (by simpa using hoj)).1 t (by simpa using ht)
     split at h
     · rename_i b hb
       have hy:=yielded_eq ha ht htn hb
       have hset:f.set (some t) (.bool b)=f:=set_same f t _ hb
       have hwant:Region.wanted o (yielded ops a.tmps)=(b==want):=by
        simp [Region.wanted,hg,hy]
       cases b<;>cases want<;>simp only [cnd,cond_true,cond_false,hset] at h
       · exact sev_of (by rw [hwant];rfl) (doit ha h)
       · unfold sev;rw [if_neg (by rw [hwant];simp)];exact pass ha h
       · unfold sev;rw [if_neg (by rw [hwant];simp)];exact pass ha h
       · exact sev_of (by rw [hwant];rfl) (doit ha h)
     · rename_i vs hb
       have hy:yielded ops a.tmps j=none:=by
        unfold yielded
        rw [ht]
        have h3:=ha.2.2 t
        have hlt:t<a.tmps.size:=by rw [ha.1];exact htn
        simp only [Option.bind_some,Array.getElem?_eq_getElem hlt]
        simp [hlt] at h3
        rw [h3,hb]
       have hwant:Region.wanted o (yielded ops a.tmps)=false:=by
        simp [Region.wanted,hg,hy]
       unfold sev
       rw [if_neg (by rw [hwant];simp)]
       exact pass ha h
     · exact h.elim
theorem wpR_lex {ops:Array Oper} {n:Nat} (hok:opsOk P n ops.toList=true) {K:Fr→World→Prop}: ∀ (l:List Oper) (k:Nat) (f:Fr) (a:Act) (w:World),(∀j,l[j]? =ops[k+j]?)→Ag D n a f→
 wpR P ops l f w K→lexE P ops (fun a' w'=> ∃f',Ag D n a' f'∧K f' w') (List.range' k l.length) a w
 | [],_,f,a,w,_,ha,h=> ⟨f,ha,h⟩
 |o::l,k,f,a,w,hl,ha,h=>by
  have h0:ops[k]? =some o:=by simpa using (hl 0).symm
  have hl': ∀j,l[j]? =ops[k+1+j]? :=fun j=>by have:=hl (j+1);simpa [Nat.add_assoc,Nat.add_comm 1 j] using this
  rw [List.length_cons,List.range'_succ]
  exact wpE_mono (fun a' w' ⟨f',ha',hr⟩=>wpR_lex hok l (k+1) f' a' w' hl' ha' hr) (stepO_sound hok h0 ha h)
theorem mem_allX {C:Nat→Prop}: ∀ {l:List Nat},allX l C→∀i∈l,C i
 | [],_,i,hi=>by cases hi
 | [j],h,i,hi=>by simp at hi;subst hi;exact h
 |j::k::l,h,i,hi=>by
  rcases List.mem_cons.1 hi with rfl|hi
  · exact h.1
  · exact mem_allX h.2 i hi
theorem wpX_any {ops:Array Oper} {n:Nat} (htab:tableOk ops=true) (hok:opsOk P n ops.toList=true) {K:Fr→World→Prop}: ∀ (m:Nat) (listed:Array Bool) (f:Fr) (a:Act) (w:World),
 listed.size=ops.size→Shut ops listed→(listed.toList.filter (·=false)).length=m→Ag D n a f→
 wpX P ops (table ops.toList []) m listed f w K→wpAnyE P ops (fun a' w'=> ∃f',Ag D n a' f'∧K f' w') m listed a w
 |0,listed,f,a,w,hsz,hs,hm,ha,h=>by
  refine ⟨?_,f,ha,h⟩
  cases hr:Region.ready .any ops listed with
  |nil=>rfl
  |cons x xs=>
   have hx:x∈Region.ready .any ops listed:=by rw [hr];exact List.mem_cons_self ..
   obtain ⟨hun,o,ho,_⟩:=mem_ready.1 hx
   have hxs:x<listed.size:=by
    rcases Nat.lt_or_ge x listed.size with h'|h'
    · exact h'
    · simp [Array.getElem?_eq_none h'] at hun
   have hmem:listed[x]∈listed.toList.filter (·=false):=by
    simp only [List.mem_filter]
    refine ⟨by simp,?_⟩
    simp [hxs] at hun
    simp [hun]
   have:=List.length_pos_of_mem hmem
   omega
 |m+1,listed,f,a,w,hsz,hs,hm,ha,h=>by
  have count: ∀i,i∈Region.ready .any ops listed→((listed.setIfInBounds i true).toList.filter (·=false)).length=m:=by
   intro i hi
   obtain ⟨hun,o,ho,_⟩:=mem_ready.1 hi
   have hxs:i<listed.size:=by
    rcases Nat.lt_or_ge i listed.size with h'|h'
    · exact h'
    · simp [Array.getElem?_eq_none h'] at hun
   have key: ∀ (l:List Bool) (i:Nat),l[i]? =some false→((l.set i true).filter (·=false)).length+1=(l.filter (·=false)).length:=by
    intro l
    induction l with
    |nil=>intro i h;simp at h
    |cons b l ih=>
     intro i h
     cases i with
     |zero=>simp at h;subst h;simp
     |succ i=>
      simp only [List.getElem?_cons_succ] at h
      have:=ih i h
      cases b<;>simp only [List.set_cons_succ,List.filter_cons]<;>simp<;>simpa using this
   have hf:listed.toList[i]? =some false:=by
    simp [hxs] at hun
    simp [hxs,hun]
   have:=key listed.toList i hf
   simp only [Array.toList_setIfInBounds]
   omega
  simp only [wpX] at h
  split at h
  · rename_i i hi
    have hmem:=List.mem_of_find?_eq_some hi
    have hsafe:=List.find?_some hi
    unfold stepX at h
    split at h
    · exact h.elim
    · rename_i o ho
      refine any_first htab m listed a w hsz hs hmem ?_ ?_
      · intro oi j oj hoi hoj hun hji hnb
        have hjs:j<ops.size:=by
         rcases Nat.lt_or_ge j ops.size with h'|h'
         · exact h'
         · simp [Array.getElem?_eq_none h'] at hoj
        have:=List.all_eq_true.1 hsafe j (List.mem_range.2 hjs)
        simp only [Bool.or_eq_true,hoi,hoj,Bool.and_eq_true] at this
        rcases this with ((h1|h2)|h3)|h4
        · rw [hun] at h1;cases h1
        · exact absurd (Nat.eq_of_beq_eq_true h2) hji
        · rw [hnb] at h3;cases h3
        · exact ⟨h4.1.1,h4.2⟩
      · exact wpE_mono (fun a' w' ⟨f',ha',hr⟩=>wpX_any htab hok m _ f' a' w' (by simpa using hsz) (hs.set hsz hmem) (count i hmem) ha' hr) (stepO_sound hok ho ha h)
  · rename_i hnone
    refine ⟨fun he=> ?_,fun i hi=> ?_⟩
    ·
     exfalso
     have hun: ∃k:Nat,k<ops.size∧listed.getD k true=false:=by
      have:0< (listed.toList.filter (·=false)).length:=by omega
      obtain ⟨b,hb⟩:=List.exists_mem_of_length_pos this
      simp only [List.mem_filter,decide_eq_true_eq] at hb
      obtain ⟨k,hk,hkb⟩:=List.getElem_of_mem hb.1
      refine ⟨k,by rw [← hsz];simpa using hk,?_⟩
      have hk':k<listed.size:=by simpa using hk
      have:listed[k]=b:=by simpa using hkb
      simp [hk',this,hb.2]
     obtain ⟨k,⟨hk,hku⟩,hleast⟩:=exists_least hun
     simp only [tableOk,Bool.and_eq_true] at htab
     have:k∈Region.ready .any ops listed:=by
      refine mem_ready.2 ⟨hku,ops[k],by simp [hk],fun e he' hb=> ?_⟩
      have hrow:=(rowsOk_spec ops.toList 0 htab.2 k ops[k] (by simp [hk])).2
      rw [Nat.zero_add] at hrow
      have hlt:=edgesBelow_spec _ hrow e (by simpa using he') hb
      cases hl:listed.getD e.on true with
      |true=>
       have:e.on<listed.size:=by omega
       simpa [this] using hl
      |false=>have:=hleast e.on ⟨by omega,hl⟩;omega
     rw [he] at this
     cases this
    · have:=mem_allX h i hi
      unfold stepX at this
      split at this
      · exact this.elim
      · rename_i o ho
        exact wpE_mono (fun a' w' ⟨f',ha',hr⟩=>wpX_any htab hok m _ f' a' w' (by simpa using hsz) (hs.set hsz hi) (count i hi) ha' hr) (stepO_sound hok ho ha this)
theorem keepW_spec {keep:Bool} {W:World→Prop} {w:World} {K:Prop} (h:keepW keep W w K):(keep=true→W w)∧K:=by
 cases keep with
 |true=>exact ⟨fun _=>h.1,h.2⟩
 |false=>exact ⟨fun h=> (by cases h),h⟩
theorem exB_mono {b:Bk} {C D:Value→Prop} (h: ∀v,C v→D v) (g:exB b C):exB b D:=by
 cases b<;>simp only [exB] at g ⊢
 case slice=>obtain ⟨p,n,c,g⟩:=g;exact ⟨p,n,c,h _ g⟩
 case fn=>obtain ⟨p,c,g⟩:=g;exact ⟨p,c,h _ g⟩
 all_goals (obtain ⟨x,g⟩:=g;exact ⟨x,h _ g⟩)
theorem exB_val {b:Bk} {C:Value→Prop} (g:exB b C): ∃v,C v∧exB b fun v'=>v'=v:=by
 cases b<;>simp only [exB] at g ⊢
 case slice=>obtain ⟨p,n,c,g⟩:=g;exact ⟨_,g,p,n,c,rfl⟩
 case fn=>obtain ⟨p,c,g⟩:=g;exact ⟨_,g,p,c,rfl⟩
 all_goals (obtain ⟨x,g⟩:=g;exact ⟨_,g,x,rfl⟩)
theorem exBs_mono: ∀ {l:List Bk} {C D:List Value→Prop},(∀v,C v→D v)→exBs l C→exBs l D
 | [],_,_,h,g=>h _ g
 |_::_,_,_,h,g=>exB_mono (fun _ g=>exBs_mono (fun _ g=>h _ g) g) g
theorem exBs_val: ∀ {l:List Bk} {C:List Value→Prop},exBs l C→∃vs,C vs∧exBs l fun vs'=>vs'=vs
 | [],_,g=> ⟨[],g,rfl⟩
 |_::_,_,g=>by
  obtain ⟨v,g,gv⟩:=exB_val g
  obtain ⟨vs,g,gvs⟩:=exBs_val g
  exact ⟨v::vs,g,exB_mono (fun v' hv=>exBs_mono (fun vs' hvs=>by rw [hv,hvs]) gvs) gv⟩
theorem ldW_spec {t:TypeId} {a:Addr} {W:World→Prop} {K:Value→Prop} (h:ldW P t a W K): ∃v,(∀u,W u→ldK P t a u fun v'=>v'=v)∧K v:=by
 unfold ldW at h
 split at h
 · rename_i ht
   obtain ⟨v,⟨hv,hk⟩,hb⟩:=exB_val h
   refine ⟨v,fun u hu=> ?_,hk⟩
   unfold ldK
   simp only [ht]
   exact exB_mono (fun v' he=>by subst he;exact ⟨hv u hu,rfl⟩) hb
 · rename_i ht
   split at h
   · rename_i i hi
     cases hsz:Nat.beq i.size (bksOf P 10 t).length with
     |false=>rw [hsz] at h;exact h.elim
     |true=>
      rw [hsz,cond_true] at h
      obtain ⟨vs,⟨hv,hk⟩,hb⟩:=exBs_val h
      refine ⟨_,fun u hu=> ?_,hk⟩
      unfold ldK
      simp only [ht,hi,hsz,cond_true]
      exact exBs_mono (fun v' he=>by subst he;exact ⟨hv u hu,rfl⟩) hb
   · exact h.elim
 · exact h.elim
theorem opW_sound {W:World→Prop} {keep:Bool} (o:Oper) (f:Fr) (w:World) (K:Value→World→Prop) (hc:callOk P o=true) (h:opW P W keep o f w K):
 evidW P W keep (opKind P o) (execOp (ev f) o) w K:=by
 have act:(opK P o f w fun v w'=>keepW keep W w' (K v w'))→2≤opKind P o→evidW P W keep (opKind P o) (execOp (ev f) o) w K:=by
  intro h hk
  have h':=opK_sound o f w _ hc h
  match hq:opKind P o with
  |0=>omega
  |1=>omega
  |n+2=>rw [hq] at h';exact uponK_mono (fun v w' hh=>keepW_spec hh) h'
 have pure:opK P o f w K→opKind P o=0→evidW P W keep (opKind P o) (execOp (ev f) o) w K:=by
  intro h hk
  have h':=opK_sound o f w _ hc h
  rw [hk] at h' ⊢
  exact h'
 have read: ∀v,(∀u,W u→opK P o f u fun v' _=>v'=v)→opKind P o=1→K v w→evidW P W keep (opKind P o) (execOp (ev f) o) w K:=by
  intro v hv hk hK
  rw [hk]
  refine ⟨v,fun u hu=> ?_,hK⟩
  have h':=opK_sound o f u _ hc (hv u hu)
  rw [hk] at h'
  obtain ⟨v',hr,rfl⟩:=h'
  exact hr
 have rest:(bif Nat.ble (opKind P o) 0 then opK P o f w K else opK P o f w fun v w'=>keepW keep W w' (K v w'))→opKind P o≠1→evidW P W keep (opKind P o) (execOp (ev f) o) w K:=by
  intro h hne
  cases hb:Nat.ble (opKind P o) 0 with
  |true=>rw [hb,cond_true] at h;exact pure h (by have:=Nat.le_of_ble_eq_true hb;omega)
  |false=>
   rw [hb,cond_false] at h
   refine act h ?_
   have: ¬opKind P o≤0:=fun hle=>by rw [Nat.ble_eq_true_of_le hle] at hb;cases hb
   omega
 obtain ⟨dst,op,type,pos,after,guard⟩:=o
 cases op
 case load t x=>
  simp only [opW] at h
  split at h
  · rename_i a ha
    obtain ⟨v,hv,hk⟩:=ldW_spec h
    refine read v (fun u hu=> ?_) rfl hk
    simp only [opK,ha]
    exact hv u hu
  · exact h.elim
 case call c=>
  obtain ⟨callee,args,argTypes⟩:=c
  cases callee with
  |invoke r m=>exact act h (by simp [opKind])
  |value x=>exact act h (by simp [opKind])
  |builtin b=>
   cases b
   case len=>
    simp only [opW,lenW] at h
    split at h
    · rename_i p n c hl
      split at h
      · rename_i e he
        refine read _ (fun u hu=> ?_) rfl h
        simp only [opK,builtinK,hl,he]
      · exact h.elim
    · rename_i r hl
      obtain ⟨n,hn,hk⟩:=h
      refine read _ (fun u hu=> ?_) rfl hk
      simp only [opK,builtinK,hl]
      exact ⟨n,hn u hu,rfl⟩
    · exact h.elim
   case max=>exact pure h rfl
   case min=>exact pure h rfl
   all_goals exact act h (by simp [opKind])
 case binOp b t x y z=>
  refine rest h ?_
  simp only [opKind]
  repeat' split
  all_goals simp
 all_goals exact rest h (by simp [opKind])
theorem stepW_sound {W:World→Prop} {B:List Nat} {ops:Array Oper} {n:Nat} (hok:opsOk P n ops.toList=true) {i:Nat} {o:Oper} (h0:ops[i]? =some o) {f:Fr} {a:Act} {w:World} {C:Fr→World→Prop} (ha:Ag D n a f)
 (h:stepW P ops W (keepB P ops B i) o f w C):wpEW P ops W B i (fun a' w'=> ∃f',Ag D n a' f'∧C f' w') a w:=by
 obtain ⟨hd,hc⟩:=opsOk_get hok i o (by simpa using h0)
 have hdst:=dstBelow_spec hd
 unfold wpEW
 simp only [h0]
 have doit: ∀ {f:Fr},Ag D n a f→(opW P W (keepB P ops B i) o f w fun v w'=>C (f.set o.dst v) w')→evidW P W (keepB P ops B i) (opKind P o) (execOp a.eval o) w fun v w'=> ∃f',Ag D n (a.put o.dst v) f'∧C f' w':=by
  intro f ha h
  rw [ha.eval]
  exact evidW_mono (fun v w' hr=> ⟨_,ha.put hdst v,hr⟩) (opW_sound o f w _ hc h)
 have pass: ∀ {f:Fr},Ag D n a f→C (f.set o.dst undef) w→∃f',Ag D n (a.put o.dst undef) f'∧C f' w:=by
  intro f ha h
  exact ⟨_,ha.put hdst undef,h⟩
 unfold stepW at h
 split at h
 · rename_i hg
   exact sevW_of (by simp [Region.wanted,hg]) (doit ha h)
 · rename_i j want hg
   split at h
   · exact h.elim
   · rename_i t ht
     have htn:t<n:=by
      cases hoj:ops[j]? with
      |none=>simp [hoj] at ht
      |some oj=>
       rw [hoj] at ht
       exact dstBelow_spec (opsOk_get hok j oj (by simpa using hoj)).1 t (by simpa using ht)
     split at h
     · rename_i b hb
       have hy:=yielded_eq ha ht htn hb
       have hset:f.set (some t) (.bool b)=f:=set_same f t _ hb
       have hwant:Region.wanted o (yielded ops a.tmps)=(b==want):=by
        simp [Region.wanted,hg,hy]
       cases b<;>cases want<;>simp only [cnd,cond_true,cond_false,hset] at h
       · exact sevW_of (by rw [hwant];rfl) (doit ha h)
       · unfold sevW;rw [if_neg (by rw [hwant];simp)];exact pass ha h
       · unfold sevW;rw [if_neg (by rw [hwant];simp)];exact pass ha h
       · exact sevW_of (by rw [hwant];rfl) (doit ha h)
     · rename_i vs hb
       have hy:yielded ops a.tmps j=none:=by
        unfold yielded
        rw [ht]
        have h3:=ha.2.2 t
        have hlt:t<a.tmps.size:=by rw [ha.1];exact htn
        simp only [Option.bind_some,Array.getElem?_eq_getElem hlt]
        simp [hlt] at h3
        rw [h3,hb]
       have hwant:Region.wanted o (yielded ops a.tmps)=false:=by
        simp [Region.wanted,hg,hy]
       unfold sevW
       rw [if_neg (by rw [hwant];simp)]
       exact pass ha h
     · exact h.elim
theorem wpRW_lex {W:World→Prop} {B:List Nat} {ops:Array Oper} {n:Nat} (hok:opsOk P n ops.toList=true) {K:Fr→World→Prop}: ∀ (l:List Oper) (k:Nat) (f:Fr) (a:Act) (w:World),(∀j,l[j]? =ops[k+j]?)→Ag D n a f→
 wpRW P ops W B k l f w K→lexW P ops W B (fun a' w'=> ∃f',Ag D n a' f'∧K f' w') (List.range' k l.length) a w
 | [],_,f,a,w,_,ha,h=> ⟨f,ha,h⟩
 |o::l,k,f,a,w,hl,ha,h=>by
  have h0:ops[k]? =some o:=by simpa using (hl 0).symm
  have hl': ∀j,l[j]? =ops[k+1+j]? :=fun j=>by have:=hl (j+1);simpa [Nat.add_assoc,Nat.add_comm 1 j] using this
  rw [List.length_cons,List.range'_succ]
  exact wpEW_mono (fun a' w' ⟨f',ha',hr⟩=>wpRW_lex hok l (k+1) f' a' w' hl' ha' hr) (stepW_sound hok h0 ha h)
theorem wpXW_any {W:World→Prop} (hne: ∃u,W u) {ops:Array Oper} {n:Nat} (htab:tableOk ops=true) (hok:opsOk P n ops.toList=true) {K:Fr→World→Prop}: ∀ (m:Nat) (listed:Array Bool) (f:Fr) (a:Act) (w:World),
 listed.size=ops.size→Shut ops listed→(listed.toList.filter (·=false)).length=m→Ag D n a f→
 wpXW P ops W (table ops.toList []) m listed f w K→wpAnyW P ops W (table ops.toList []) (fun a' w'=> ∃f',Ag D n a' f'∧K f' w') m listed a w
 |0,listed,f,a,w,hsz,hs,hm,ha,h=>by
  refine ⟨?_,f,ha,h⟩
  cases hr:Region.ready .any ops listed with
  |nil=>rfl
  |cons x xs=>
   have hx:x∈Region.ready .any ops listed:=by rw [hr];exact List.mem_cons_self ..
   obtain ⟨hun,o,ho,_⟩:=mem_ready.1 hx
   have hxs:x<listed.size:=by
    rcases Nat.lt_or_ge x listed.size with h'|h'
    · exact h'
    · simp [Array.getElem?_eq_none h'] at hun
   have hmem:listed[x]∈listed.toList.filter (·=false):=by
    simp only [List.mem_filter]
    refine ⟨by simp,?_⟩
    simp [hxs] at hun
    simp [hun]
   have:=List.length_pos_of_mem hmem
   omega
 |m+1,listed,f,a,w,hsz,hs,hm,ha,h=>by
  have count: ∀i,i∈Region.ready .any ops listed→((listed.setIfInBounds i true).toList.filter (·=false)).length=m:=by
   intro i hi
   obtain ⟨hun,o,ho,_⟩:=mem_ready.1 hi
   have hxs:i<listed.size:=by
    rcases Nat.lt_or_ge i listed.size with h'|h'
    · exact h'
    · simp [Array.getElem?_eq_none h'] at hun
   have key: ∀ (l:List Bool) (i:Nat),l[i]? =some false→((l.set i true).filter (·=false)).length+1=(l.filter (·=false)).length:=by
    intro l
    induction l with
    |nil=>intro i h;simp at h
    |cons b l ih=>
     intro i h
     cases i with
     |zero=>simp at h;subst h;simp
     |succ i=>
      simp only [List.getElem?_cons_succ] at h
      have:=ih i h
      cases b<;>simp only [List.set_cons_succ,List.filter_cons]<;>simp<;>simpa using this
   have hf:listed.toList[i]? =some false:=by
    simp [hxs] at hun
    simp [hxs,hun]
   have:=key listed.toList i hf
   simp only [Array.toList_setIfInBounds]
   omega
  simp only [wpXW] at h
  split at h
  · rename_i i hi
    have hmem:=List.mem_of_find?_eq_some hi
    have hsafe:=List.find?_some hi
    unfold stepXW at h
    split at h
    · exact h.elim
    · rename_i o ho
      refine anyW_first hne htab m listed a w hsz hs hmem ?_ ?_
      · intro oi j oj hoi hoj hun hji hnb
        have hjs:j<ops.size:=by
         rcases Nat.lt_or_ge j ops.size with h'|h'
         · exact h'
         · simp [Array.getElem?_eq_none h'] at hoj
        have:=List.all_eq_true.1 hsafe j (List.mem_range.2 hjs)
        simp only [Bool.or_eq_true,hoi,hoj,Bool.and_eq_true] at this
        rcases this with ((h1|h2)|h3)|h4
        · rw [hun] at h1;cases h1
        · exact absurd (Nat.eq_of_beq_eq_true h2) hji
        · rw [hnb] at h3;cases h3
        · exact ⟨h4.1.1,h4.2⟩
      · exact wpEW_mono (fun a' w' ⟨f',ha',hr⟩=>wpXW_any hne htab hok m _ f' a' w' (by simpa using hsz) (hs.set hsz hmem) (count i hmem) ha' hr) (stepW_sound hok ho ha h)
  · rename_i hnone
    refine ⟨fun he=> ?_,fun i hi=> ?_⟩
    · exfalso
      have hun: ∃k:Nat,k<ops.size∧listed.getD k true=false:=by
       have:0< (listed.toList.filter (·=false)).length:=by omega
       obtain ⟨b,hb⟩:=List.exists_mem_of_length_pos this
       simp only [List.mem_filter,decide_eq_true_eq] at hb
       obtain ⟨k,hk,hkb⟩:=List.getElem_of_mem hb.1
       refine ⟨k,by rw [← hsz];simpa using hk,?_⟩
       have hk':k<listed.size:=by simpa using hk
       have:listed[k]=b:=by simpa using hkb
       simp [hk',this,hb.2]
      obtain ⟨k,⟨hk,hku⟩,hleast⟩:=exists_least hun
      simp only [tableOk,Bool.and_eq_true] at htab
      have:k∈Region.ready .any ops listed:=by
       refine mem_ready.2 ⟨hku,ops[k],by simp [hk],fun e he' hb=> ?_⟩
       have hrow:=(rowsOk_spec ops.toList 0 htab.2 k ops[k] (by simp [hk])).2
       rw [Nat.zero_add] at hrow
       have hlt:=edgesBelow_spec _ hrow e (by simpa using he') hb
       cases hl:listed.getD e.on true with
       |true=>
        have:e.on<listed.size:=by omega
        simpa [this] using hl
       |false=>have:=hleast e.on ⟨by omega,hl⟩;omega
      rw [he] at this
      cases this
    · have:=mem_allX h i hi
      unfold stepXW at this
      split at this
      · exact this.elim
      · rename_i o ho
        exact wpEW_mono (fun a' w' ⟨f',ha',hr⟩=>wpXW_any hne htab hok m _ f' a' w' (by simpa using hsz) (hs.set hsz hi) (count i hi) ha' hr) (stepW_sound hok ho ha this)
theorem drawW_any {ops:Array Oper} {n:Nat} (htab:tableOk ops=true) (hok:opsOk P n ops.toList=true) {K:Fr→World→Prop} {f:Fr} {a:Act} {w:World} (ha:Ag D n a f)
 (h:wpDrawW P ops f w K):wpAnyE P ops (fun a' w'=> ∃f',Ag D n a' f'∧K f' w') ops.size (Array.replicate ops.size false) a w:=by
 obtain ⟨W,hw,h⟩:=h
 have hs:Shut ops (Array.replicate ops.size false):=fun j o ho hl=>by
  have hjs:j<ops.size:=by
   rcases Nat.lt_or_ge j ops.size with h'|h'
   · exact h'
   · simp [Array.getElem?_eq_none h'] at ho
  simp [hjs] at hl
 refine anyW_E htab rfl ops.size _ a w (by simp) hs (fun _=>hw) ?_
 cases hord:orderOkW P ops with
 |true=>
  rw [hord,cond_true] at h
  have hlex:=wpRW_lex hok ops.toList 0 f a _ (by simp) ha h
  exact anyW_of_lex ⟨w,hw⟩ hord ops.size 0 _ a _ (by omega) (by simp) (fun j hj=>by simp [hj]) (by simpa using hlex)
 |false=>
  rw [hord,cond_false] at h
  exact wpXW_any ⟨w,hw⟩ htab hok ops.size (Array.replicate ops.size false) f a _ (by simp) hs (by simp [List.filter_replicate]) ha h
def codeOk (P:Program) (n:Nat):Code→Bool
 | .region _ ops draw=>opsOk P n ops.toList && (!draw||tableOk ops)
 | .seq a b=>codeOk P n a && codeOk P n b
 | .cond _ a b=>codeOk P n a && codeOk P n b
 | .block _ c| .loop c| .scope c=>codeOk P n c
 | .skip| .label _| .exit _| .ret=>true
 |_=>false
def Keeps (c:Code) (f f':Fr):Prop:= ∀i,typeAt (dsts c) i=none→f' i=f i
theorem typeAt_append: ∀ (l l':List (Nat × TypeId)) (i:Nat),typeAt (l++l') i=none↔typeAt l i=none∧typeAt l' i=none
 | [],l',i=>by simp [typeAt]
 | (d,t)::l,l',i=>by
   simp only [List.cons_append,typeAt]
   cases Nat.beq d i with
   |true=>simp
   |false=>simp only [cond_false];exact typeAt_append l l' i
theorem lexE_mono {ops:Array Oper} {K K':Act→World→Prop}: ∀ (l:List Nat) (a:Act) (w:World),(∀a w,K a w→K' a w)→lexE P ops K l a w→lexE P ops K' l a w
 | [],_,_,h,hh=>h _ _ hh
 |_::l,_,_,h,hh=>wpE_mono (fun a w=>lexE_mono l a w h) hh
theorem typeAt_none_of_mem {l:List (Nat × TypeId)} {i d:Nat} {t:TypeId} (h:typeAt l i=none) (hm:(d,t)∈l):i≠d:=by
 induction l with
 |nil=>cases hm
 |cons x l ih=>
  obtain ⟨d',t'⟩:=x
  simp only [typeAt] at h
  cases hb:Nat.beq d' i with
  |true=>rw [hb] at h;cases h
  |false=>
   rw [hb,cond_false] at h
   rcases List.mem_cons.1 hm with he|hm
   · injection he with h1 h2
     subst h1
     intro he
     rw [he,Nat.beq_refl] at hb
     cases hb
   · exact ih h hm
theorem lexE_keeps {ops:Array Oper} {K:Act→World→Prop} {ds:List (Nat × TypeId)} (hds: ∀ (j:Nat) (o:Oper) (d:Nat),ops[j]? =some o→o.dst=some d→(d,o.type)∈ds):
 ∀ (l:List Nat) (a:Act) (w:World),lexE P ops K l a w→lexE P ops (fun a' w'=>K a' w'∧∀i,typeAt ds i=none→a'.tmps.getD i undef=a.tmps.getD i undef) l a w
 | [],a,w,h=> ⟨h,fun _ _=>rfl⟩
 |k::l,a,w,h=>by
  change wpE P ops k (lexE P ops K l) a w at h
  change wpE P ops k (lexE P ops _ l) a w
  unfold wpE at h ⊢
  cases ho:ops[k]? with
  |none=>
   simp only [ho] at h ⊢
   exact lexE_keeps hds l a w h
  |some o=>
   simp only [ho] at h ⊢
   refine sev_mono (fun v w' hh=> ?_) h
   refine lexE_mono l _ _ (fun a' w'' ⟨hk,hi⟩=> ⟨hk,fun i hti=> ?_⟩) (lexE_keeps hds l _ w' hh)
   rw [hi i hti]
   cases hd:o.dst with
   |none=>rfl
   |some d=>
    have hne:=typeAt_none_of_mem hti (hds k o d ho hd)
    simp [Act.put,Array.getElem?_setIfInBounds_ne (Ne.symm hne)]
theorem anyE_mono {ops:Array Oper} {K K':Act→World→Prop}: ∀ (m:Nat) (listed:Array Bool) (a:Act) (w:World),(∀a w,K a w→K' a w)→wpAnyE P ops K m listed a w→wpAnyE P ops K' m listed a w
 |0,_,_,_,h,hh=> ⟨hh.1,h _ _ hh.2⟩
 |m+1,_,_,_,h,hh=> ⟨fun he=>h _ _ (hh.1 he),fun i hi=>wpE_mono (fun a w=>anyE_mono m _ a w h) (hh.2 i hi)⟩
theorem anyE_keeps {ops:Array Oper} {K:Act→World→Prop} {ds:List (Nat × TypeId)} (hds: ∀ (j:Nat) (o:Oper) (d:Nat),ops[j]? =some o→o.dst=some d→(d,o.type)∈ds):
 ∀ (m:Nat) (listed:Array Bool) (a:Act) (w:World),wpAnyE P ops K m listed a w→wpAnyE P ops (fun a' w'=>K a' w'∧∀i,typeAt ds i=none→a'.tmps.getD i undef=a.tmps.getD i undef) m listed a w
 |0,_,a,w,h=> ⟨h.1,h.2,fun _ _=>rfl⟩
 |m+1,listed,a,w,h=>by
  refine ⟨fun he=> ⟨h.1 he,fun _ _=>rfl⟩,fun k hk=> ?_⟩
  have hh:=h.2 k hk
  unfold wpE at hh ⊢
  cases ho:ops[k]? with
  |none=>
   simp only [ho] at hh ⊢
   exact anyE_keeps hds m _ a w hh
  |some o=>
   simp only [ho] at hh ⊢
   refine sev_mono (fun v w' hh=> ?_) hh
   refine anyE_mono m _ _ _ (fun a' w'' ⟨hk,hi⟩=> ⟨hk,fun i hti=> ?_⟩) (anyE_keeps hds m _ _ w' hh)
   rw [hi i hti]
   cases hd:o.dst with
   |none=>rfl
   |some d=>
    have hne:=typeAt_none_of_mem hti (hds k o d ho hd)
    simp [Act.put,Array.getElem?_setIfInBounds_ne (Ne.symm hne)]
theorem region_any {ops:Array Oper} {id:Nat} {Q:Exit→Act→World→Prop} {a:Act} {w:World} (hm:P.follows .mixedOrders=true)
 (h:wpAnyE P ops (fun a w=>Q .normal a w) ops.size (Array.replicate ops.size false) a w.drew):(Code.region id ops true).wp P Q a w:=
 wp_region_any hm (wpAny_of_E (K:=fun a w=>Q .normal a w) (fun _ _ h=>h) _ _ _ _ h)
theorem valsOf_look (f:Fr): ∀ (as:List (Nat × TypeId)) (i:Nat),look as (valsOf f as) i=if i∈as.map (·.1) then some (f i) else none
 | [],i=>by simp [look]
 | (a,t)::as,i=>by
   simp only [valsOf,look]
   cases hb:Nat.beq i a with
   |true=>
    obtain rfl:=Nat.eq_of_beq_eq_true hb
    simp
   |false=>
    have hne:i≠a:=fun he=>by rw [he,Nat.beq_refl] at hb;cases hb
    rw [cond_false,valsOf_look f as i]
    have hiff:(i∈((a,t)::as).map (·.1))↔i∈as.map (·.1):=by
     rw [List.map_cons,List.mem_cons]
     exact ⟨fun h=>h.resolve_left hne,Or.inr⟩
    by_cases hm:i∈as.map (·.1)
    · rw [if_pos hm,if_pos (hiff.2 hm)]
    · rw [if_neg hm,if_neg (fun h=>hm (hiff.1 h))]
theorem mkFr_self {c:Code} {as:List (Nat × TypeId)} {f f':Fr} (h:Keeps c f f'):mkFr c as (valsOf f' as) f f'=f':=by
 funext i
 unfold mkFr
 rw [valsOf_look]
 by_cases hm:i∈as.map (·.1)
 · rw [if_pos hm]
 · rw [if_neg hm]
   show (bif (typeAt (dsts c) i).isNone then f i else f' i)=f' i
   cases hta:typeAt (dsts c) i with
   |none=>exact (h i hta).symm
   |some t=>rfl
theorem Keeps.seq {a b:Code} {f g h:Fr} (h1:Keeps a f g) (h2:Keeps b g h):Keeps (.seq a b) f h:=fun i hi=>by
 obtain ⟨ha,hb⟩:=(typeAt_append _ _ _).1 hi
 rw [h2 i hb,h1 i ha]
theorem Keeps.left {a b:Code} {f g:Fr} (h1:Keeps a f g):Keeps (.seq a b) f g:=fun i hi=>h1 i ((typeAt_append _ _ _).1 hi).1
theorem appB_pick {R:Type} (b:Bk) {I:CurB b R} {v:Value} {C:R→Prop} (h:appB b I v C): ∃r,C r∧∀C':R→Prop,C' r→appB b I v C':=by
 cases b<;>simp only [appB] at h ⊢
 case int k=>
  split at h
  · rename_i k' n'
    cases hk:k==k' with
    |false=>rw [hk] at h;exact h.elim
    |true=>rw [hk,cond_true] at h;exact ⟨_,h,fun C' h'=>h'⟩
  · exact h.elim
 case any=>exact ⟨_,h,fun C' h'=>h'⟩
 all_goals
  split at h
  · exact ⟨_,h,fun C' h'=>h'⟩
  · exact h.elim
theorem appBs_pick {R:Type} (l:List Bk): ∀ {I:CurBs l R} {vs:List Value} {C:R→Prop},appBs l I vs C→∃r,C r∧∀C':R→Prop,C' r→appBs l I vs C':=by
 induction l with
 |nil=>
  intro I vs C h
  cases vs with
  |nil=>exact ⟨_,h,fun C' h'=>h'⟩
  |cons=>exact h.elim
 |cons b l ih=>
  intro I vs C h
  cases vs with
  |nil=>exact h.elim
  |cons v vs=>
   obtain ⟨r,h1,h2⟩:=appB_pick b h
   obtain ⟨r',h3,h4⟩:=ih h1
   exact ⟨r',h3,fun C' h'=>h2 (fun I'=>appBs l I' vs C') (h4 C' h')⟩
theorem appV_pick {R:Type} (k:Vk) {I:CurV k R} {v:Value} {C:R→Prop} (h:appV k I v C): ∃r,C r∧∀C':R→Prop,C' r→appV k I v C':=by
 cases k with
 |one b=>exact appB_pick b h
 |agg l=>
  simp only [appV] at h ⊢
  split at h
  · obtain ⟨r,h1,h2⟩:=appBs_pick l h
    exact ⟨r,h1,fun C' h'=>h2 C' h'⟩
  · exact h.elim
theorem appVs_pick {R:Type} (l:List Vk): ∀ {I:CurVs l R} {vs:List Value} {C:R→Prop},appVs l I vs C→∃r,C r∧∀C':R→Prop,C' r→appVs l I vs C':=by
 induction l with
 |nil=>
  intro I vs C h
  cases vs with
  |nil=>exact ⟨_,h,fun C' h'=>h'⟩
  |cons=>exact h.elim
 |cons b l ih=>
  intro I vs C h
  cases vs with
  |nil=>exact h.elim
  |cons v vs=>
   obtain ⟨r,h1,h2⟩:=appV_pick b h
   obtain ⟨r',h3,h4⟩:=ih h1
   exact ⟨r',h3,fun C' h'=>h2 (fun I'=>appVs l I' vs C') (h4 C' h')⟩
theorem wpC_sound (hm:P.follows .mixedOrders=true) {n:Nat} (c:Code): ∀ {ann:Ann} {f:Fr} {w:World} {Q:Post} {a:Act},codeOk P n c=true→Ag D n a f→wpC P c ann f w Q→
 c.wp P (fun e a' w'=> ∃f',Ag D n a' f'∧Q e f' w'∧Keeps c f f') a w:=by
 induction c with
 |skip=>intro ann f w Q a _ ha h;exact wp_skip ⟨f,ha,h,fun _ _=>rfl⟩
 |label l=>intro ann f w Q a _ ha h;exact wp_label ⟨f,ha,h,fun _ _=>rfl⟩
 |exit id=>intro ann f w Q a _ ha h;exact wp_exit ⟨f,ha,h,fun _ _=>rfl⟩
 |ret=>intro ann f w Q a _ ha h;exact wp_ret ⟨f,ha,h,fun _ _=>rfl⟩
 |goto l=>intro ann f w Q a h;cases h
 |refuse y=>intro ann f w Q a h;cases h
 |rangeFunc g ps x y=>intro ann f w Q a h;cases h
 |region id ops draw=>
  intro ann f w Q a hc ha h
  simp only [codeOk,Bool.and_eq_true] at hc
  have hds: ∀ (j:Nat) (o:Oper) (d:Nat),ops[j]? =some o→o.dst=some d→(d,o.type)∈dsts (.region id ops draw):=fun j o d ho hd=>by
   simp only [dsts,List.mem_filterMap]
   refine ⟨o,?_,by rw [hd];rfl⟩
   exact Array.mem_toList_iff.2 (Array.mem_of_getElem? ho)
  have fin: ∀a' w',((∃f',Ag D n a' f'∧Q .normal f' w')∧∀i,typeAt (dsts (.region id ops draw)) i=none→a'.tmps.getD i undef=a.tmps.getD i undef)→
   ∃f',Ag D n a' f'∧Q .normal f' w'∧Keeps (.region id ops draw) f f':=by
   rintro a' w' ⟨⟨f',ha',hq⟩,hi⟩
   exact ⟨f',ha',hq,fun i hti=>by rw [← ha'.2.2,hi i hti,ha.2.2]⟩
  cases draw with
  |false=>
   have hlex:=wpR_lex hc.1 ops.toList 0 f a _ (by simp) ha h
   have hk:=lexE_keeps hds _ _ _ hlex
   rw [Array.length_toList] at hk
   exact region_plain (lexE_mono _ _ _ fin hk)
  |true=>
   have htab:tableOk ops=true:=by simpa using hc.2
   simp only [wpC,cond_true] at h
   cases hdr:ann.drawn with
   |true=>
    rw [hdr,cond_true] at h
    exact region_any hm (anyE_mono _ _ _ _ fin (anyE_keeps hds _ _ _ _ (drawW_any htab hc.1 ha h)))
   |false=>
   simp only [hdr,cond_false,wpDraw] at h
   cases hord:orderOk P ops with
   |true=>
    rw [hord,cond_true] at h
    have hlex:=wpR_lex hc.1 ops.toList 0 f a _ (by simp) ha h
    have hk:=lexE_keeps hds _ _ _ hlex
    rw [Array.length_toList] at hk
    exact region_draw hm hord (lexE_mono _ _ _ fin hk)
   |false=>
    rw [hord,cond_false] at h
    have hany:=wpX_any htab hc.1 ops.size (Array.replicate ops.size false) f a _ (by simp) (fun j o ho hl=>by
     have hjs:j<ops.size:=by
      rcases Nat.lt_or_ge j ops.size with h'|h'
      · exact h'
      · simp [Array.getElem?_eq_none h'] at ho
     simp [hjs] at hl) (by simp [List.filter_replicate]) ha h
    have hk:=anyE_keeps hds _ _ _ _ hany
    exact region_any hm (anyE_mono _ _ _ _ fin hk)
 |seq x y ihx ihy=>
  intro ann f w Q a hc ha h
  simp only [codeOk,Bool.and_eq_true] at hc
  simp only [wpC] at h
  refine wp_seq ?_
  cases hcut:ann.cuts with
  |none=>
   simp only [hcut] at h
   refine wp_mono (ihx hc.1 ha h) fun e a' w' ⟨f',ha',hq,hk⟩=> ?_
   cases e with
   |normal=>exact wp_mono (ihy hc.2 ha' hq) fun e a'' w'' ⟨f'',ha'',hq',hk'⟩=> ⟨f'',ha'',hq',hk.seq hk'⟩
   |_=>exact ⟨f',ha',hq,hk.left⟩
  |some as=>
   simp only [hcut] at h
   obtain ⟨J,h1,h2⟩:=h
   refine wp_mono (ihx hc.1 ha h1) fun e a' w' ⟨f',ha',hq,hk⟩=> ?_
   cases e with
   |normal=>
    obtain ⟨r,hr,hrest⟩:=appVs_fa _ hq h2
    have:=hrest w' f' hr
    rw [mkFr_self hk] at this
    exact wp_mono (ihy hc.2 ha' this) fun e a'' w'' ⟨f'',ha'',hq',hk'⟩=> ⟨f'',ha'',hq',hk.seq hk'⟩
   |_=>exact ⟨f',ha',hq,hk.left⟩
 |cond o x y ihx ihy=>
  intro ann f w Q a hc ha h
  simp only [codeOk,Bool.and_eq_true] at hc
  simp only [wpC] at h
  split at h
  · rename_i t ht
    have het:a.eval o= .bool t:=by rw [ha.eval];exact ht
    cases t with
    |true=>
     refine wp_cond_true het (wp_mono (ihx hc.1 ha h) fun e a' w' ⟨f',ha',hq,hk⟩=> ⟨f',ha',hq,fun i hi=>hk i ((typeAt_append _ _ _).1 hi).1⟩)
    |false=>
     refine wp_cond_false het (wp_mono (ihy hc.2 ha h) fun e a' w' ⟨f',ha',hq,hk⟩=> ⟨f',ha',hq,fun i hi=>hk i ((typeAt_append _ _ _).1 hi).2⟩)
  · exact h.elim
 |block id x ih=>
  intro ann f w Q a hc ha h
  refine wp_block (wp_mono (ih hc ha h) fun e a' w' ⟨f',ha',hq,hk⟩=> ?_)
  cases e with
  |exit i=>
   simp only [Exit.inBlock]
   simp only at hq
   cases hb:Nat.beq i id with
   |true=>
    obtain rfl:=Nat.eq_of_beq_eq_true hb
    rw [hb,cond_true] at hq
    rw [if_pos rfl]
    exact ⟨f',ha',hq,hk⟩
   |false=>
    rw [hb,cond_false] at hq
    rw [if_neg (fun he=>by rw [he,Nat.beq_refl] at hb;cases hb)]
    exact ⟨f',ha',hq,hk⟩
  |_=>exact ⟨f',ha',hq,hk⟩
 |scope x ih=>
  intro ann f w Q a hc ha h
  refine wp_scope_straight (wp_mono (ih hc ha h) fun e a' w' ⟨f',ha',hq,hk⟩=> ?_)
  cases e with
  |goto l=>exact hq.elim
  |_=>exact ⟨f',ha',hq,hk⟩
 |loop x ih=>
  intro ann f w Q a hc ha h
  simp only [wpC] at h
  obtain ⟨I,h1,h2⟩:=h
  have h1':=appVs_pick _ h1
  obtain ⟨r0,⟨k0,hr0⟩,hall0⟩:=h1'
  refine wp_loop_ghost (fun k a' w'=> ∃f':Fr,Ag D n a' f'∧Keeps x f f'∧appVs (kindsOf P ann.told) I (valsOf f' ann.told) fun r=>r w' k) k0 ⟨f,ha,fun _ _=>rfl,hall0 (fun r=>r w k0) hr0⟩ ?_
  intro k a' w' ⟨f',ha',hkf,hI⟩
  obtain ⟨r,hr,hrest⟩:=appVs_fa _ hI h2
  have hb:=hrest w' k f' hr
  rw [mkFr_self hkf] at hb
  refine wp_mono (ih hc ha' hb) fun e a'' w'' ⟨f'',ha'',hq,hk⟩=> ?_
  have hkk:Keeps x f f'':=fun i hi=> (hk i hi).trans (hkf i hi)
  cases e with
  |normal=>
   obtain ⟨r',⟨k',hlt,hr'⟩,hall⟩:=appVs_pick _ hq
   exact ⟨k',hlt,f'',ha'',hkk,hall (fun r=>r w'' k') hr'⟩
  |_=>exact ⟨f'',ha'',hq,hkk⟩
theorem resK_spec: ∀ {rs:List ResultVar} {f:Fr} {a:Act} {n:Nat} {w:World} {K:List Value→Prop},Ag D n a f→resK P rs f w K→
 ∃vs,(rs.mapM fun (x:ResultVar)=>match x with| .tmp t=> (pure (a.tmps.getD t undef):Sem Value)| .cell b t=>do loadVar t (← asAddr (a.tmps.getD b undef))).run P w= .ok vs w∧K vs
 | [],_,_,_,_,_,_,h=> ⟨[],rfl,h⟩
 | .tmp t::l,f,a,n,w,K,ha,h=>by
   obtain ⟨vs,hr,hk⟩:=resK_spec (rs:=l) ha h
   refine ⟨_,?_,hk⟩
   simp only [List.mapM_cons,Sem.run_bind,Sem.run_pure,Result.andThen_ok,hr]
   rw [ha.2.2]
 | .cell b t::l,f,a,n,w,K,ha,h=>by
   simp only [resK] at h
   split at h
   · rename_i p hp
     obtain ⟨v,hv,h⟩:=ldK_spec h
     obtain ⟨vs,hr,hk⟩:=resK_spec (rs:=l) ha h
     refine ⟨_,?_,hk⟩
     simp only [List.mapM_cons,Sem.run_bind]
     rw [ha.2.2,hp]
     rw [show (asAddr (.pointer (some p))).run P w= .ok p w from rfl]
     simp only [Result.andThen_ok,hv,hr,Sem.run_pure]
   · exact h.elim
theorem argFr_eq: ∀ (args:List Value) (i:Nat),argFr args i=args.getD i undef
 | [],i=>by simp [argFr]
 |v::vs,0=>by simp [argFr]
 |v::vs,i+1=>by simp [argFr,argFr_eq vs i]
def fnOk (P:Program) (fn:Func) (args:Nat):Bool:=
 match fn.body with
 |none=>false
 |some c=>codeOk P fn.ntmps c && Nat.ble args fn.ntmps
theorem calls_of_wpF (hm:P.follows .mixedOrders=true) {f:FuncId} {fn:Func} (hf:P.funcs[f]? =some fn) {ann:Ann} {args:List Value} {w:World} {K:Value→World→Prop}
 (hok:fnOk P fn args.length=true) (h:wpF P fn ann args w K):Calls P f args.toArray w fun e w'=> ∃v,e= .returned v∧K v w':=by
 unfold wpF at h
 unfold fnOk at hok
 split at h
 · exact h.elim
 · rename_i c hb
   rw [hb] at hok
   simp only [Bool.and_eq_true] at hok
   have hle:args.length≤fn.ntmps:=by simpa using hok.2
   refine calls_of_wp hf hb ?_
   have ha:Ag [] fn.ntmps {tmps:=args.toArray++Array.replicate (fn.ntmps - args.toArray.size) undef,defers:= []} (argFr args):=by
    refine ⟨by simp;omega,rfl,fun i=> ?_⟩
    rw [argFr_eq]
    simp only [Array.getD_eq_getD_getElem?,List.getD_eq_getElem?_getD]
    by_cases hi:i<args.length
    · rw [Array.getElem?_append_left (by simpa using hi)];simp
    · rw [Array.getElem?_append_right (by simpa using hi)]
      rw [List.getElem?_eq_none (by omega)]
      rw [Array.getElem?_replicate]
      split<;>rfl
   refine wp_mono (wpC_sound hm c hok.1 ha h) fun e a' w' ⟨f',ha',hq,_⟩=> ?_
   have fin:resK P fn.results.toList f' w' (fun vs=>K (tupOf vs) w')→a'.defers= []∧∃v,(results fn a'.tmps).run P w'= .ok v w'∧∃u,Ending.returned v= .returned u∧K u w':=by
    intro hr
    obtain ⟨vs,hv,hk⟩:=resK_spec ha' hr
    refine ⟨ha'.2.1,tupOf vs,?_,_,rfl,hk⟩
    unfold results
    rw [Array.mapM_eq_mapM_toList]
    simp only [Sem.run_bind,Sem.run_map]
    refine (congrArg (fun r=>Result.andThen (Result.andThen r _) _) hv).trans ?_
    simp only [Result.andThen_ok,Sem.run_pure]
    match vs with
    | []=>simp [tupOf]
    | [v]=>simp [tupOf]
    |u::v::l=>simp [tupOf]
   cases e with
   |normal=>exact fin hq
   |ret=>exact fin hq
   |_=>exact hq.elim
theorem calls_of {P:Program} (hm:P.follows .mixedOrders=true) {f:FuncId} {fn:Func} (hf:P.funcs[f]? =some fn) {ann:Ann} {args:List Value} {n:Nat} (hok:fnOk P fn n=true) (hn:args.length=n)
 {w:World} {F:(Value→World→Prop)→Prop} (he: ∀K,wpF P fn ann args w K=F K) {R:Ending→World→Prop} (h:F fun v w'=>R (.returned v) w'):Calls P f args.toArray w R:=by
 subst hn
 refine (calls_of_wpF hm hf hok (Eq.mpr (he _) h)).mono ?_
 rintro e w' ⟨v,rfl,hk⟩
 exact hk
end Go.Fw
