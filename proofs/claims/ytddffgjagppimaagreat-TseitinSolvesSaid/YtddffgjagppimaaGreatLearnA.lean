/- What a broken clause teaches, plain: trails, and what is learned. -/
import Derived.Test.YtddffgjagppimaaGreatSortA
namespace Go.LeP
open Go.SoP Go.LiP
section
structure As where
 lit:Int
 lev:Int
 rs:List Int
def d0:As:=⟨0,0,[]⟩
def nth (tr:List As) (i:Nat):As:=tr.getD i d0
def isL (l:Int):Bool:=decide (l≠0∧ -1048576≤l∧l≤1048576)
def wo (l:List Int) (x:Int):List Int:=l.filter fun y=>y !=x
theorem mem_wo {l:List Int} {x y:Int}:y∈wo l x↔y∈l∧y≠x:=by
 unfold wo;rw [List.mem_filter];simp
def atN:List As→Int→Nat
 | [],_=>0
 |a::t,v=>if am a.lit=v then 0 else atN t v+1
theorem atN_hit: ∀ {tr:List As} {v:Int},atN tr v<tr.length→am (nth tr (atN tr v)).lit=v
 | [],_,h=>by simp at h
 |a::t,v,h=>by
  unfold atN at h ⊢
  split
  · rename_i e;exact e
  · rename_i e
    rw [if_neg e] at h
    have:=atN_hit (tr:=t) (v:=v) (by simpa using h)
    simpa [nth,List.getD] using this
theorem atN_miss: ∀ {tr:List As} {v:Int} {j:Nat},j<atN tr v→am (nth tr j).lit≠v
 | [],_,_,h=>by simp [atN] at h
 |a::t,v,j,h=>by
  unfold atN at h
  split at h
  · omega
  · rename_i e
    cases j with
    |zero=>exact e
    |succ j=>
     have:=atN_miss (tr:=t) (v:=v) (j:=j) (by omega)
     simpa [nth,List.getD] using this
theorem atN_eq {tr:List As} {v:Int} {i:Nat} (hi:i<tr.length) (h:am (nth tr i).lit=v) (hm: ∀j,j<i→am (nth tr j).lit≠v):atN tr v=i:=by
 rcases Nat.lt_trichotomy (atN tr v) i with e|e|e
 · exact absurd (atN_hit (by omega)) (hm _ e)
 · exact e
 · exact absurd h (atN_miss e)
theorem nth_take {tr:List As} {i j:Nat} (h:j<i):nth (tr.take i) j=nth tr j:=by
 unfold nth
 simp only [List.getD_eq_getElem?_getD,List.getElem?_take]
 rw [if_pos h]
theorem atN_take {tr:List As} {v:Int} {i:Nat} (hi:i≤tr.length):(atN (tr.take i) v<i↔atN tr v<i)∧(atN tr v<i→atN (tr.take i) v=atN tr v):=by
 have hl:(tr.take i).length=i:=by rw [List.length_take];omega
 have key:atN tr v<i→atN (tr.take i) v=atN tr v:=fun h=>by
  refine atN_eq (by omega) ?_ fun j hj=> ?_
  · rw [nth_take h];exact atN_hit (by omega)
  · rw [nth_take (by omega)];exact atN_miss hj
 refine ⟨⟨fun h=> ?_,fun h=>by rw [key h];exact h⟩,key⟩
 have h1:=atN_hit (tr:=tr.take i) (v:=v) (by omega)
 rw [nth_take h] at h1
 rcases Nat.lt_or_ge (atN tr v) i with e|e
 · exact e
 · exact absurd h1 (atN_miss (by omega))
def brk (tr:List As) (c:List Int):Bool:=c.all fun l=>isL l && decide (atN tr (am l)<tr.length) && ((nth tr (atN tr (am l))).lit== -l)
def prev (tr:List As) (i:Nat):Int:=if i=0 then 0 else (nth tr (i - 1)).lev
def okT (tr:List As) (i:Nat):Bool:=
 isL (nth tr i).lit && decide (¬atN (tr.take i) (am (nth tr i).lit)<i) && decide (prev tr i≤(nth tr i).lev∧(nth tr i).lev≤prev tr i+1) &&
  (if (nth tr i).lev>prev tr i then (nth tr i).rs.isEmpty else decide ((nth tr i).rs.length≤256) && decide ((nth tr i).lit∈(nth tr i).rs) && brk (tr.take i) (wo (nth tr i).rs (nth tr i).lit))
def mayT (tr:List As):Bool:=decide (tr.length≤4096) && (List.range tr.length).all (okT tr)
structure Br1 (tr:List As) (l:Int):Prop where
 isl:isL l=true
 lt:atN tr (am l)<tr.length
 eq:(nth tr (atN tr (am l))).lit= -l
theorem brk_iff {tr:List As} {c:List Int}:brk tr c=true↔∀l∈c,Br1 tr l:=by
 unfold brk
 rw [List.all_eq_true]
 constructor
 · intro h l hl
   have:=h l hl
   simp only [Bool.and_eq_true,decide_eq_true_eq,beq_iff_eq] at this
   exact ⟨this.1.1,this.1.2,this.2⟩
 · intro h l hl
   obtain ⟨h1,h2,h3⟩:=h l hl
   simp only [Bool.and_eq_true,decide_eq_true_eq,beq_iff_eq]
   exact ⟨⟨h1,h2⟩,h3⟩
structure TrOk (tr:List As):Prop where
 isl: ∀i,i<tr.length→isL (nth tr i).lit=true
 uq: ∀i j,i<j→j<tr.length→am (nth tr i).lit≠am (nth tr j).lit
 lo: ∀i,i<tr.length→prev tr i≤(nth tr i).lev
 hi: ∀i,i<tr.length→(nth tr i).lev≤prev tr i+1
 dec: ∀i,i<tr.length→prev tr i< (nth tr i).lev→(nth tr i).rs= []
 rea: ∀i,i<tr.length→¬prev tr i< (nth tr i).lev→(nth tr i).rs.length≤256∧(nth tr i).lit∈(nth tr i).rs∧∀x∈(nth tr i).rs,x≠(nth tr i).lit→Br1 tr x∧atN tr (am x)<i
theorem mayT_ok {tr:List As} (h:mayT tr=true):TrOk tr∧tr.length≤4096:=by
 unfold mayT at h
 simp only [Bool.and_eq_true,decide_eq_true_eq,List.all_eq_true,List.mem_range] at h
 obtain ⟨hl,h⟩:=h
 have H: ∀i,i<tr.length→isL (nth tr i).lit=true∧¬atN (tr.take i) (am (nth tr i).lit)<i∧(prev tr i≤(nth tr i).lev∧(nth tr i).lev≤prev tr i+1)∧
  (if (nth tr i).lev>prev tr i then (nth tr i).rs.isEmpty else decide ((nth tr i).rs.length≤256) && decide ((nth tr i).lit∈(nth tr i).rs) && brk (tr.take i) (wo (nth tr i).rs (nth tr i).lit))=true:=by
  intro i hi
  have:=h i hi
  unfold okT at this
  simp only [Bool.and_eq_true,decide_eq_true_eq] at this
  exact ⟨this.1.1.1,this.1.1.2,this.1.2,this.2⟩
 refine ⟨⟨fun i hi=> (H i hi).1,fun i j hij hj e=> ?_,fun i hi=> (H i hi).2.2.1.1,fun i hi=> (H i hi).2.2.1.2,fun i hi hd=> ?_,fun i hi hd=> ?_⟩,hl⟩
 · have h1:=(H j hj).2.1
   rw [(atN_take (by omega)).1] at h1
   exact atN_miss (tr:=tr) (v:=am (nth tr j).lit) (j:=i) (by omega) e
 · have:=(H i hi).2.2.2
   rw [if_pos hd] at this
   simpa using this
 · have:=(H i hi).2.2.2
   rw [if_neg (by omega)] at this
   simp only [Bool.and_eq_true,decide_eq_true_eq] at this
   refine ⟨this.1.1,this.1.2,fun x hx hne=> ?_⟩
   have hb:=brk_iff.1 this.2 x (mem_wo.2 ⟨hx,hne⟩)
   have hlt:=hb.lt
   rw [List.length_take,Nat.min_eq_left (by omega)] at hlt
   have h1:=(atN_take (v:=am x) (by omega)).1.1 hlt
   have h2:=(atN_take (v:=am x) (by omega)).2 h1
   refine ⟨⟨hb.isl,by omega,?_⟩,h1⟩
   have:=hb.eq
   rw [h2,nth_take h1] at this
   exact this
theorem TrOk.mono {tr:List As} (h:TrOk tr): ∀ {i j:Nat},i≤j→j<tr.length→(nth tr i).lev≤(nth tr j).lev:=by
 intro i j hij hj
 induction j with
 |zero=>rw [show i=0 by omega];exact Int.le_refl _
 |succ j ih=>
  by_cases e:i=j+1
  · rw [e];exact Int.le_refl _
  · have h1:=ih (by omega) (by omega)
    have h2:=h.lo (j+1) hj
    unfold prev at h2
    rw [if_neg (by omega),Nat.add_sub_cancel] at h2
    omega
theorem TrOk.nn {tr:List As} (h:TrOk tr) {i:Nat} (hi:i<tr.length):0≤(nth tr i).lev:=by
 have h1:=h.lo 0 (by omega)
 have h2:=h.mono (Nat.zero_le i) hi
 unfold prev at h1
 rw [if_pos rfl] at h1
 omega
theorem TrOk.le {tr:List As} (h:TrOk tr) {i:Nat} (hi:i<tr.length):(nth tr i).lev≤i+1:=by
 induction i with
 |zero=>
  have:=h.hi 0 hi
  unfold prev at this
  rw [if_pos rfl] at this
  simpa using this
 |succ i ih=>
  have h1:=ih (by omega)
  have h2:=h.hi (i+1) hi
  unfold prev at h2
  rw [if_neg (by omega),Nat.add_sub_cancel] at h2
  omega
theorem TrOk.at {tr:List As} (h:TrOk tr) {i:Nat} (hi:i<tr.length):atN tr (am (nth tr i).lit)=i:=
 atN_eq hi rfl fun j hj=>h.uq j i hj hi
theorem am_neg (x:Int):am (-x)=am x:=by unfold am;split<;>split<;>omega
theorem isL_neg {x:Int} (h:isL x=true):isL (-x)=true:=by
 unfold isL at*
 simp only [decide_eq_true_eq] at*
 omega
theorem TrOk.first {tr:List As} (h:TrOk tr) {i:Nat} (hi:i<tr.length) (hr:(nth tr i).rs= []):0< (nth tr i).lev∧∀j,j<i→(nth tr j).lev< (nth tr i).lev:=by
 have hd:prev tr i< (nth tr i).lev:=by
  by_cases e:prev tr i< (nth tr i).lev
  · exact e
  · have:=(h.rea i hi e).2.1
    rw [hr] at this;simp at this
 unfold prev at hd
 split at hd
 · rename_i e
   exact ⟨hd,fun j hj=>by omega⟩
 · have:=h.nn (i:=i - 1) (by omega)
   refine ⟨by omega,fun j hj=> ?_⟩
   have:=h.mono (i:=j) (j:=i - 1) (by omega) (by omega)
   omega
theorem TrOk.reason {tr:List As} (h:TrOk tr) {i:Nat} (hi:i<tr.length) (hr:(nth tr i).rs≠[]):(nth tr i).rs.length≤256∧(nth tr i).lit∈(nth tr i).rs∧∀x∈(nth tr i).rs,x≠(nth tr i).lit→Br1 tr x∧atN tr (am x)<i:=
 h.rea i hi fun e=>hr (h.dec i hi e)
def lv (tr:List As) (l:Int):Int:=(nth tr (atN tr (am l))).lev
theorem TrOk.lv_at {tr:List As} (h:TrOk tr) {i:Nat} (hi:i<tr.length):lv tr (-(nth tr i).lit)=(nth tr i).lev∧lv tr (nth tr i).lit=(nth tr i).lev:=by
 unfold lv
 rw [am_neg,h.at hi]
 exact ⟨rfl,rfl⟩
theorem Br1.same {tr:List As} {x y:Int} (hx:Br1 tr x) (hy:Br1 tr y) (h:atN tr (am x)=atN tr (am y)):x=y:=by
 have h1:=hx.eq
 have h2:=hy.eq
 rw [h,h2] at h1
 omega
theorem Br1.am {tr:List As} {x y:Int} (hx:Br1 tr x) (hy:Br1 tr y) (h:am x=am y):x=y:=hx.same hy (by rw [h])
def cntL (tr:List As) (c:List Int) (L:Int):Nat:=c.countP fun x=>lv tr x==L
def stepN (tr:List As) (i:Nat) (c:List Int):List Int:=norm (wo c (-(nth tr i).lit)++wo (nth tr i).rs (nth tr i).lit)
def lrn (tr:List As) (L:Int):Nat→List Int→List Int
 |0,c=>c
 |i+1,c=>if cntL tr c L=0∨cntL tr c L=1∧0<L then c else if (nth tr i).lev=L∧ -(nth tr i).lit∈c then lrn tr L i (stepN tr i c) else lrn tr L i c
theorem stepN_mem {tr:List As} {i:Nat} {c:List Int} {x:Int}:x∈stepN tr i c↔x∈c∧x≠ -(nth tr i).lit∨x∈(nth tr i).rs∧x≠(nth tr i).lit:=by
 unfold stepN
 rw [(norm_isN _).mem,List.mem_append,mem_wo,mem_wo]
theorem lrn_skip {tr:List As} {L:Int} {c:List Int} {p:Nat}: ∀ {k:Nat},p≤k→(∀i,p≤i→i<k→¬((nth tr i).lev=L∧ -(nth tr i).lit∈c))→¬(cntL tr c L=0∨cntL tr c L=1∧0<L)→lrn tr L k c=lrn tr L p c
 |0,h,_,_=>by rw [show p=0 by omega]
 |k+1,h,hs,hn=>by
  by_cases e:p=k+1
  · rw [e]
  · rw [lrn,if_neg hn,if_neg (hs k (by omega) (by omega))]
    exact lrn_skip (by omega) (fun i h1 h2=>hs i h1 (by omega)) hn
theorem lrn_stop {tr:List As} {L:Int} {c:List Int} {k:Nat} (h:cntL tr c L=0∨cntL tr c L=1∧0<L):lrn tr L k c=c:=by
 cases k with
 |zero=>rfl
 |succ k=>rw [lrn,if_pos h]
structure In (tr:List As) (L:Int) (c:List Int) (k:Nat):Prop where
 br: ∀x∈c,Br1 tr x
 le: ∀x∈c,lv tr x≤L
 pl: ∀x∈c,lv tr x=L→atN tr (am x)<k
 top:c= []∨0<cntL tr c L
 nn:0≤L
 nd:Strict c
theorem cnt_pos {tr:List As} {L:Int} {c:List Int}:0<cntL tr c L↔∃x∈c,lv tr x=L:=by
 unfold cntL
 rw [List.countP_pos_iff]
 simp
theorem nodup_of_strict {c:List Int} (h:Strict c):c.Nodup:=h.imp fun {a b} hab e=>by subst e;exact bef_irr a hab
theorem cnt_two {tr:List As} {L:Int} {c:List Int} (hs:c.Nodup) {x:Int} (h:1<cntL tr c L): ∃y∈c,y≠x∧lv tr y=L:=by
 refine Classical.byContradiction fun hn=> ?_
 have:cntL tr c L≤c.countP (fun y=>y==x):=by
  refine List.countP_mono_left fun y hy hl=> ?_
  have hl:lv tr y=L:=by simpa using hl
  by_cases e:y=x
  · simp [e]
  · exact absurd ⟨y,hy,e,hl⟩ hn
 have h2:c.countP (fun y=>y==x)≤1:=List.nodup_iff_count.1 hs x
 omega
theorem In.step {tr:List As} (ok:TrOk tr) {L:Int} {c:List Int} {k p:Nat} (h:In tr L c k) (hn: ¬(cntL tr c L=0∨cntL tr c L=1∧0<L)) (hp:p<tr.length) (hpl:(nth tr p).lev=L) (hm: -(nth tr p).lit∈c) (hmax: ∀x∈c,lv tr x=L→atN tr (am x)≤p):
 In tr L (stepN tr p c) p∧lrn tr L k c=lrn tr L p (stepN tr p c)∧(nth tr p).rs≠[]∧p<k:=by
 have hpk:p<k:=by
  have:=h.pl _ hm (by rw [(ok.lv_at hp).1];exact hpl)
  rwa [am_neg,ok.at hp] at this
 have hrs:(nth tr p).rs≠[]:=by
  intro e
  obtain ⟨f1,f2⟩:=ok.first hp e
  have h1:1<cntL tr c L:=by omega
  obtain ⟨y,hy,hne,hly⟩:=cnt_two (nodup_of_strict h.nd) (x:= -(nth tr p).lit) h1
  have hle:=hmax y hy hly
  rcases Nat.lt_or_ge (atN tr (am y)) p with e2|e2
  · have:=f2 _ e2
    unfold lv at hly
    omega
  · refine hne ((h.br y hy).same (h.br _ hm) ?_)
    rw [am_neg,ok.at hp];omega
 obtain ⟨r1,r2,r3⟩:=ok.reason hp hrs
 have hbr: ∀x∈stepN tr p c,Br1 tr x:=by
  intro x hx
  rcases stepN_mem.1 hx with ⟨a,b⟩| ⟨a,b⟩
  · exact h.br x a
  · exact (r3 x a b).1
 have hle: ∀x∈stepN tr p c,lv tr x≤L:=by
  intro x hx
  rcases stepN_mem.1 hx with ⟨a,b⟩| ⟨a,b⟩
  · exact h.le x a
  · have:=(r3 x a b).2
    have:=ok.mono (i:=atN tr (am x)) (j:=p) (by omega) hp
    unfold lv;omega
 refine ⟨⟨hbr,hle,fun x hx hl=> ?_,?_,h.nn,(norm_isN _).st⟩,?_,hrs,hpk⟩
 · rcases stepN_mem.1 hx with ⟨a,b⟩| ⟨a,b⟩
   · have h1:=hmax x a hl
     rcases Nat.lt_or_ge (atN tr (am x)) p with e|e
     · exact e
     · exact absurd ((h.br x a).same (h.br _ hm) (by rw [am_neg,ok.at hp];omega)) b
   · exact (r3 x a b).2
 · by_cases e:cntL tr c L=1
   · have hL:L=0:=by
      have:=h.nn
      by_cases e2:0<L
      · exact absurd (.inr ⟨e,e2⟩) hn
      · omega
     cases hs:stepN tr p c with
     |nil=>exact .inl rfl
     |cons x t=>
      refine .inr (cnt_pos.2 ⟨x,by simp,?_⟩)
      have h1:=hle x (by rw [hs];simp)
      have h2:=ok.nn ((hbr x (by rw [hs];simp)).lt)
      have:lv tr x=(nth tr (atN tr (am x))).lev:=rfl
      omega
   · obtain ⟨y,hy,hne,hly⟩:=cnt_two (nodup_of_strict h.nd) (x:= -(nth tr p).lit) (L:=L) (tr:=tr) (c:=c) (by omega)
     exact .inr (cnt_pos.2 ⟨y,stepN_mem.2 (.inl ⟨hy,hne⟩),hly⟩)
 · rw [lrn_skip (p:=p+1) (k:=k) (by omega) (fun i h1 h2 hc=> ?_) hn,lrn,if_neg hn,if_pos ⟨hpl,hm⟩]
   have hi:i<tr.length:=by
    have:=(h.br _ hc.2).lt
    rcases Nat.lt_or_ge i tr.length with e|e
    · exact e
    · have hd:nth tr i=d0:=by
       unfold nth
       rw [List.getD_eq_getElem?_getD,List.getElem?_eq_none e];rfl
      have:=(h.br _ hc.2).isl
      rw [hd] at this
      exact absurd this (by decide)
   have:=hmax _ hc.2 (by rw [(ok.lv_at hi).1];exact hc.1)
   rw [am_neg,ok.at hi] at this
   omega
theorem In.end {tr:List As} (ok:TrOk tr) {L:Int}: ∀ {k:Nat} {c:List Int},In tr L c k→k≤tr.length→∃d k',lrn tr L k c=d∧In tr L d k'∧(d= []∧(L=0∨c= [])∨cntL tr d L=1∧0<L)
 |0,c,h,_=>by
  have h0:c= []:=by
   rcases h.top with e|e
   · exact e
   · obtain ⟨x,hx,hl⟩:=cnt_pos.1 e
     have:=h.pl x hx hl
     omega
  exact ⟨c,0,rfl,h,.inl ⟨h0,.inr h0⟩⟩
 |k+1,c,h,hk=>by
  by_cases hn:cntL tr c L=0∨cntL tr c L=1∧0<L
  · refine ⟨c,k+1,lrn_stop hn,h,?_⟩
    rcases hn with hn|hn
    · rcases h.top with e|e
      · exact .inl ⟨e,.inr e⟩
      · omega
    · exact .inr hn
  · by_cases e:(nth tr k).lev=L∧ -(nth tr k).lit∈c
    · obtain ⟨h1,h2,_,_⟩:=h.step ok hn (p:=k) (by omega) e.1 e.2 fun x hx hl=>by have:=h.pl x hx hl;omega
      obtain ⟨d,k',e1,e2,e3⟩:=h1.end ok (by omega)
      refine ⟨d,k',by rw [h2];exact e1,e2,?_⟩
      rcases e3 with ⟨a,b⟩|b
      · refine .inl ⟨a,?_⟩
        have:=h.nn
        by_cases hL:0<L
        ·
         obtain ⟨y,hy,hne,hly⟩:=cnt_two (nodup_of_strict h.nd) (x:= -(nth tr k).lit) (L:=L) (tr:=tr) (c:=c) (by omega)
         have hin:y∈stepN tr k c:=stepN_mem.2 (.inl ⟨hy,hne⟩)
         rcases b with b|b
         · omega
         · rw [b] at hin;simp at hin
        · exact .inl (by omega)
      · exact .inr b
    · have hsk:=lrn_skip (p:=k) (k:=k+1) (by omega) (fun i h1 h2=>by rw [show i=k by omega];exact e) hn
      have h':In tr L c k:=⟨h.br,h.le,fun x hx hl=>by
       have:=h.pl x hx hl
       rcases Nat.lt_or_ge (atN tr (am x)) k with e2|e2
       · exact e2
       · have ek:atN tr (am x)=k:=by omega
         refine absurd ⟨?_,?_⟩ e
         · rw [← ek];exact hl
         · rw [← ek,(h.br x hx).eq,Int.neg_neg];exact hx,h.top,h.nn,h.nd⟩
      rw [hsk]
      exact h'.end ok (by omega)
end
section
def cmpO (tr:List As) (a b:Int):Int:=if lv tr a≠lv tr b then lv tr b - lv tr a else am a - am b
theorem cmpO_ord (tr:List As):Ord (cmpO tr):=by
 constructor
 · intro x y h
   unfold cmpO at*
   split at h<;>split<;>omega
 · intro x y z h1 h2
   unfold Le cmpO at*
   split at h1<;>split at h2<;>split<;>omega
abbrev StrictO (tr:List As) (m:List Int):Prop:=m.Pairwise fun a b=>cmpO tr a b<0
theorem cmpO_irr (tr:List As) (a:Int): ¬cmpO tr a a<0:=by unfold cmpO;simp
theorem cmpO_trans {tr:List As} {a b c:Int} (h1:cmpO tr a b<0) (h2:cmpO tr b c<0):cmpO tr a c<0:=(cmpO_ord tr).lt_le h1 ((cmpO_ord tr).lt h2)
theorem strictO_eq {tr:List As}: ∀ {m k:List Int},StrictO tr m→StrictO tr k→(∀x,x∈m↔x∈k)→m=k
 | [],[],_,_,_=>rfl
 | [],y::k,_,_,h=>by have:=(h y).2 (by simp);simp at this
 |x::m,[],_,_,h=>by have:=(h x).1 (by simp);simp at this
 |x::m,y::k,h1,h2,h=>by
  have h1:=List.pairwise_cons.1 h1
  have h2:=List.pairwise_cons.1 h2
  have e:x=y:=by
   rcases List.mem_cons.1 ((h x).1 (by simp)) with e|e
   · exact e
   · rcases List.mem_cons.1 ((h y).2 (by simp)) with e'|e'
     · exact e'.symm
     · exact absurd (cmpO_trans (h1.1 y e') (h2.1 x e)) (cmpO_irr tr x)
  subst e
  congr 1
  refine strictO_eq h1.2 h2.2 fun z=> ?_
  constructor
  · intro hz
    rcases List.mem_cons.1 ((h z).1 (List.mem_cons_of_mem _ hz)) with e|e
    · subst e;exact absurd (h1.1 z hz) (cmpO_irr tr z)
    · exact e
  · intro hz
    rcases List.mem_cons.1 ((h z).2 (List.mem_cons_of_mem _ hz)) with e|e
    · subst e;exact absurd (h2.1 z hz) (cmpO_irr tr z)
    · exact e
def ordF (tr:List As) (c:List Int) (M:Nat):Nat→List Int
 |0=> []
 |j+1=>ordF tr c M j++ (norm c).filter fun x=>lv tr x==(M:Int) - j
def topT (tr:List As):Int:=tr.foldl (fun m a=>if a.lev>m then a.lev else m) 0
def ordL (tr:List As) (c:List Int):List Int:=ordF tr c (topT tr).toNat ((topT tr).toNat+1)
theorem topT_aux: ∀ (tr:List As) (m:Int),m≤tr.foldl (fun m a=>if a.lev>m then a.lev else m) m∧∀a∈tr,a.lev≤tr.foldl (fun m a=>if a.lev>m then a.lev else m) m
 | [],m=> ⟨Int.le_refl _,by simp⟩
 |b::t,m=>by
  rw [List.foldl_cons]
  generalize hX:(if b.lev>m then b.lev else m)=X
  have hm:m≤X∧b.lev≤X:=by rw [← hX];split<;>omega
  obtain ⟨h1,h2⟩:=topT_aux t X
  refine ⟨by omega,fun a ha=> ?_⟩
  rcases List.mem_cons.1 ha with e|e
  · subst e;omega
  · exact h2 a e
theorem topT_nn (tr:List As):0≤topT tr:=(topT_aux tr 0).1
theorem topT_le {tr:List As} {i:Nat} (h:i<tr.length):(nth tr i).lev≤topT tr:=(topT_aux tr 0).2 _ (by simp [nth,List.getD,h])
theorem ordF_mem {tr:List As} {c:List Int} {M:Nat}: ∀ {j:Nat} {x:Int},x∈ordF tr c M j↔x∈c∧lv tr x≤M∧(M:Int) - j<lv tr x
 |0,x=>by
  unfold ordF
  simp
 |j+1,x=>by
  unfold ordF
  rw [List.mem_append,ordF_mem,List.mem_filter,(norm_isN c).mem,beq_iff_eq]
  constructor
  · rintro (⟨h1,h2,h3⟩| ⟨h1,h2⟩)
    · exact ⟨h1,h2,by omega⟩
    · exact ⟨h1,by omega,by omega⟩
  · rintro ⟨h1,h2,h3⟩
    by_cases e:lv tr x=(M:Int) - j
    · exact .inr ⟨h1,e⟩
    · exact .inl ⟨h1,h2,by omega⟩
theorem ordF_strict {tr:List As} {c:List Int} {M:Nat} (hb: ∀x∈c,Br1 tr x): ∀j,StrictO tr (ordF tr c M j)
 |0=>List.Pairwise.nil
 |j+1=>by
  unfold ordF
  rw [StrictO,List.pairwise_append]
  refine ⟨ordF_strict hb j,?_,fun x hx y hy=> ?_⟩
  · have h1:Strict ((norm c).filter fun x=>lv tr x==(M:Int) - j):=List.Pairwise.filter _ (norm_isN c).st
    rw [List.pairwise_iff_getElem]
    intro a b ha hb' hab
    have h2:=List.pairwise_iff_getElem.1 h1 a b ha hb' hab
    have ma:=List.mem_filter.1 (List.getElem_mem ha)
    have mb:=List.mem_filter.1 (List.getElem_mem hb')
    have la:lv tr _=(M:Int) - j:=beq_iff_eq.1 ma.2
    have lb:lv tr _=(M:Int) - j:=beq_iff_eq.1 mb.2
    have bra:=hb _ (((norm_isN c).mem _).1 ma.1)
    have brb:=hb _ (((norm_isN c).mem _).1 mb.1)
    generalize ((norm c).filter fun x=>lv tr x==(M:Int) - j)[a]=u at*
    generalize ((norm c).filter fun x=>lv tr x==(M:Int) - j)[b]=v at*
    have hne:am u≠am v:=fun e=>by
     have:=bra.am brb e
     subst this
     exact bef_irr _ h2
    unfold cmpO
    rw [if_neg (by omega)]
    unfold bef at h2
    rw [if_pos hne] at h2
    exact h2
  · have h1:=ordF_mem.1 hx
    have h2:=List.mem_filter.1 hy
    have h3:lv tr y=(M:Int) - j:=beq_iff_eq.1 h2.2
    unfold cmpO
    rw [if_pos (by omega)]
    omega
theorem ordL_mem {tr:List As} (ok:TrOk tr) {c:List Int} (hb: ∀x∈c,Br1 tr x) {x:Int}:x∈ordL tr c↔x∈c:=by
 unfold ordL
 rw [ordF_mem]
 refine ⟨fun h=>h.1,fun h=> ⟨h,?_,?_⟩⟩
 · have:=topT_le (hb x h).lt
   have:=topT_nn tr
   unfold lv;omega
 · have:=ok.nn (hb x h).lt
   unfold lv;omega
theorem ordL_strict {tr:List As} {c:List Int} (hb: ∀x∈c,Br1 tr x):StrictO tr (ordL tr c):=ordF_strict hb _
theorem ordL_uniq {tr:List As} (ok:TrOk tr) {c m:List Int} (hb: ∀x∈c,Br1 tr x) (hm: ∀x,x∈m↔x∈c) (nd:m.Nodup) (hs:SortedR (cmpO tr) m 0 m.length):m=ordL tr c:=by
 refine strictO_eq ?_ (ordL_strict hb) fun x=> (hm x).trans (ordL_mem ok hb).symm
 rw [StrictO,List.pairwise_iff_getElem]
 intro i j hi hj hij
 have h:=hs i j (Nat.zero_le _) hij hj
 simp only [List.getD,List.getElem?_eq_getElem hi,List.getElem?_eq_getElem hj,Option.getD_some] at h
 have hne:m[i]≠m[j]:=fun e=>by have:=(List.getElem_inj nd).1 e;omega
 have h1:=hb _ ((hm _).1 (List.getElem_mem hi))
 have h2:=hb _ ((hm _).1 (List.getElem_mem hj))
 have ha:am m[i]≠am m[j]:=fun e=>hne (h1.am h2 e)
 unfold Le cmpO at h
 unfold cmpO
 split at h<;>split<;>omega
def idl (tr:List As) (ld:List Int):Nat→Int→Bool
 |0,_=>false
 |f+1,l=> !(nth tr (atN tr (am l))).rs.isEmpty && (nth tr (atN tr (am l))).rs.all fun x=>x==(nth tr (atN tr (am l))).lit||decide (lv tr x≤0)||decide (x∈ld)||idl tr ld f x
def idle (tr:List As) (ld:List Int) (l:Int):Bool:=idl tr ld (atN tr (am l)+1) l
theorem idl_fuel {tr:List As} (ok:TrOk tr) {ld:List Int}: ∀ (f:Nat) {l:Int},atN tr (am l)<tr.length→atN tr (am l)<f→idl tr ld f l=idle tr ld l:=by
 have key: ∀ (f g:Nat) {l:Int},atN tr (am l)<tr.length→atN tr (am l)<f→atN tr (am l)<g→idl tr ld f l=idl tr ld g l:=by
  intro f
  induction f with
  |zero=>intro g l _ h;omega
  |succ f ih=>
   intro g l hl hf hg
   cases g with
   |zero=>omega
   |succ g=>
    unfold idl
    by_cases hr:(nth tr (atN tr (am l))).rs= []
    · rw [hr];rfl
    · obtain ⟨_,_,r3⟩:=ok.reason hl hr
      have hcong: ∀x∈(nth tr (atN tr (am l))).rs,(x==(nth tr (atN tr (am l))).lit||decide (lv tr x≤0)||decide (x∈ld)||idl tr ld f x)=(x==(nth tr (atN tr (am l))).lit||decide (lv tr x≤0)||decide (x∈ld)||idl tr ld g x):=by
       intro x hx
       by_cases e:x=(nth tr (atN tr (am l))).lit
       · simp [e]
       · obtain ⟨b1,b2⟩:=r3 x hx e
         rw [ih g b1.lt (by omega) (by omega)]
      congr 1
      rw [Bool.eq_iff_iff,List.all_eq_true,List.all_eq_true]
      constructor
      · intro h x hx;rw [← hcong x hx];exact h x hx
      · intro h x hx;rw [hcong x hx];exact h x hx
 intro f l hl hf
 exact key f (atN tr (am l)+1) hl hf (by omega)
theorem idle_eq {tr:List As} (ok:TrOk tr) {ld:List Int} {l:Int} (hl:atN tr (am l)<tr.length):
 idle tr ld l=(!(nth tr (atN tr (am l))).rs.isEmpty && (nth tr (atN tr (am l))).rs.all fun x=>x==(nth tr (atN tr (am l))).lit||decide (lv tr x≤0)||decide (x∈ld)||idle tr ld x):=by
 unfold idle
 rw [idl]
 by_cases hr:(nth tr (atN tr (am l))).rs= []
 · rw [hr];rfl
 · obtain ⟨_,_,r3⟩:=ok.reason hl hr
   have hcong: ∀x∈(nth tr (atN tr (am l))).rs,(x==(nth tr (atN tr (am l))).lit||decide (lv tr x≤0)||decide (x∈ld)||idl tr ld (atN tr (am l)) x)=(x==(nth tr (atN tr (am l))).lit||decide (lv tr x≤0)||decide (x∈ld)||idl tr ld (atN tr (am x)+1) x):=by
    intro x hx
    by_cases e:x=(nth tr (atN tr (am l))).lit
    · simp [e]
    · obtain ⟨b1,b2⟩:=r3 x hx e
      rw [idl_fuel ok _ b1.lt b2];rfl
   congr 1
   rw [Bool.eq_iff_iff,List.all_eq_true,List.all_eq_true]
   constructor
   · intro h x hx;rw [← hcong x hx];exact h x hx
   · intro h x hx;rw [hcong x hx];exact h x hx
def shr (tr:List As) (ld:List Int):List Int:=
 match ld with
 | []=> []
 |x::t=>x::t.filter fun y=>decide (0<lv tr y) && !idle tr ld y
theorem shr_mem {tr:List As} {ld:List Int} {x:Int} (h:x∈shr tr ld):x∈ld:=by
 cases ld with
 |nil=>exact h
 |cons y t=>
  rcases List.mem_cons.1 h with e|e
  · rw [e];simp
  · exact List.mem_cons_of_mem _ (List.mem_filter.1 e).1
theorem shr_len (tr:List As) (ld:List Int):(shr tr ld).length≤ld.length:=by
 cases ld with
 |nil=>exact Nat.le_refl _
 |cons y t=>simp [shr];exact List.length_filter_le _ _
def Tr1 (v:Int→Int) (c:List Int):Prop:= ∃l∈c,v l=1
structure Vals (tr:List As) (v:Int→Int):Prop where
 neg: ∀l,isL l=true→v (-l)= -v l
 val: ∀l,v l=0∨v l=1∨v l= -1
 set: ∀i,i<tr.length→v (nth tr i).lit≠0
 rea: ∀i,i<tr.length→(nth tr i).rs≠[]→Tr1 v (nth tr i).rs
theorem step_true {tr:List As} {v:Int→Int} (ok:TrOk tr) (V:Vals tr v) {c:List Int} {p:Nat} (hp:p<tr.length) (hr:(nth tr p).rs≠[]) (h:Tr1 v c):Tr1 v (stepN tr p c):=by
 obtain ⟨x,hx,ex⟩:=h
 by_cases e:x= -(nth tr p).lit
 · obtain ⟨y,hy,ey⟩:=V.rea p hp hr
   refine ⟨y,stepN_mem.2 (.inr ⟨hy,?_⟩),ey⟩
   intro e2
   have:=V.neg _ (ok.isl p hp)
   rw [← e,← e2] at this
   omega
 · exact ⟨x,stepN_mem.2 (.inl ⟨hx,e⟩),ex⟩
theorem lrn_true {tr:List As} {v:Int→Int} (ok:TrOk tr) (V:Vals tr v) {L:Int}: ∀ {k:Nat} {c:List Int},In tr L c k→k≤tr.length→Tr1 v c→Tr1 v (lrn tr L k c)
 |0,_,_,_,h=>h
 |k+1,c,h,hk,ht=>by
  by_cases hn:cntL tr c L=0∨cntL tr c L=1∧0<L
  · rw [lrn_stop hn];exact ht
  · by_cases e:(nth tr k).lev=L∧ -(nth tr k).lit∈c
    · obtain ⟨h1,h2,h3,_⟩:=h.step ok hn (p:=k) (by omega) e.1 e.2 fun x hx hl=>by have:=h.pl x hx hl;omega
      rw [h2]
      exact lrn_true ok V h1 (by omega) (step_true ok V (by omega) h3 ht)
    · have h':In tr L c k:=⟨h.br,h.le,fun x hx hl=>by
       have:=h.pl x hx hl
       rcases Nat.lt_or_ge (atN tr (am x)) k with e2|e2
       · exact e2
       · have ek:atN tr (am x)=k:=by omega
         refine absurd ⟨?_,?_⟩ e
         · rw [← ek];exact hl
         · rw [← ek,(h.br x hx).eq,Int.neg_neg];exact hx,h.top,h.nn,h.nd⟩
      rw [lrn,if_neg hn,if_neg e]
      exact lrn_true ok V h' (by omega) ht
theorem zero_true {tr:List As} {v:Int→Int} (ok:TrOk tr) (V:Vals tr v): ∀ (i:Nat),i<tr.length→(nth tr i).lev≤0→v (nth tr i).lit=1:=by
 intro i
 induction i using Nat.strongRecOn with
 |_ i ih=>
  intro hi hl
  have hr:(nth tr i).rs≠[]:=fun e=>by have:=(ok.first hi e).1;omega
  obtain ⟨y,hy,ey⟩:=V.rea i hi hr
  by_cases e:y=(nth tr i).lit
  · rw [← e];exact ey
  · obtain ⟨b1,b2⟩:=(ok.reason hi hr).2.2 y hy e
    have hlt:=b1.lt
    have:=ok.mono (i:=atN tr (am y)) (j:=i) (by omega) hi
    have h1:=ih _ b2 hlt (by omega)
    rw [b1.eq,V.neg _ b1.isl] at h1
    omega
theorem zero_false {tr:List As} {v:Int→Int} (ok:TrOk tr) (V:Vals tr v) {l:Int} (h:Br1 tr l) (hl:lv tr l≤0):v l= -1:=by
 have h1:=zero_true ok V _ h.lt hl
 rw [h.eq,V.neg _ h.isl] at h1
 omega
theorem idle_true {tr:List As} {v:Int→Int} (ok:TrOk tr) (V:Vals tr v) {ld:List Int}: ∀ (n:Nat) {l:Int},Br1 tr l→atN tr (am l)=n→v l=1→idle tr ld l=true→∃y∈ld,v y=1∧atN tr (am y)<n:=by
 intro n
 induction n using Nat.strongRecOn with
 |_ n ih=>
  intro l hb hn hv hi
  subst hn
  rw [idle_eq ok hb.lt] at hi
  simp only [Bool.and_eq_true,Bool.not_eq_true',List.isEmpty_eq_false_iff,List.all_eq_true,Bool.or_eq_true,beq_iff_eq,decide_eq_true_eq] at hi
  obtain ⟨hr,ha⟩:=hi
  obtain ⟨y,hy,ey⟩:=V.rea _ hb.lt hr
  by_cases e:y=(nth tr (atN tr (am l))).lit
  · rw [hb.eq] at e
    have:=V.neg _ hb.isl
    rw [← e,ey] at this
    omega
  · obtain ⟨b1,b2⟩:=(ok.reason hb.lt hr).2.2 y hy e
    rcases ha y hy with ((h|h)|h)|h
    · exact absurd h e
    · have:=zero_false ok V b1 h
      omega
    · exact ⟨y,h,ey,b2⟩
    · obtain ⟨z,z1,z2,z3⟩:=ih _ b2 b1 rfl ey h
      exact ⟨z,z1,z2,by omega⟩
theorem shr_true {tr:List As} {v:Int→Int} (ok:TrOk tr) (V:Vals tr v) {ld:List Int} (hb: ∀x∈ld,Br1 tr x) (h:Tr1 v ld):Tr1 v (shr tr ld):=by
 have key: ∀ (n:Nat) {x:Int},x∈ld→v x=1→atN tr (am x)=n→Tr1 v (shr tr ld):=by
  intro n
  induction n using Nat.strongRecOn with
  |_ n ih=>
   intro x hx hv hn
   by_cases hs:x∈shr tr ld
   · exact ⟨x,hs,hv⟩
   · have hp: ¬lv tr x≤0:=fun e=>by have:=zero_false ok V (hb x hx) e;omega
     have hi:idle tr ld x=true:=by
      cases ld with
      |nil=>simp at hx
      |cons y t=>
       rcases List.mem_cons.1 hx with e|e
       · exact absurd (by rw [e];simp [shr]) hs
       · cases hi:idle tr (y::t) x with
         |true=>rfl
         |false=>exact absurd (List.mem_cons_of_mem _ (List.mem_filter.2 ⟨e,by rw [hi];simp;omega⟩)) hs
     obtain ⟨z,z1,z2,z3⟩:=idle_true ok V n (hb x hx) hn hv hi
     exact ih _ z3 z1 z2 rfl
 obtain ⟨x,hx,hv⟩:=h
 exact key _ hx hv rfl
structure Point (tr:List As) (L:Int) (ld:List Int):Prop where
 br: ∀x∈ld,Br1 tr x
 zero:L=0→ld= []
 one: ∀i,i<ld.length→(lv tr (ld.getD i 0)=L↔i=0)
 le: ∀x∈ld,lv tr x≤L
 nn:0≤L
theorem two_of {tr:List As} {c:List Int} {L x y:Int} (hx:x∈c) (hy:y∈c) (hne:x≠y) (h1:lv tr x=L) (h2:lv tr y=L):1<cntL tr c L:=by
 unfold cntL
 rw [List.countP_eq_length_filter]
 have mx:x∈c.filter fun z=>lv tr z==L:=List.mem_filter.2 ⟨hx,by simpa using h1⟩
 have my:y∈c.filter fun z=>lv tr z==L:=List.mem_filter.2 ⟨hy,by simpa using h2⟩
 obtain ⟨s,t,e⟩:=List.append_of_mem mx
 rw [e] at my ⊢
 rw [List.length_append,List.length_cons]
 rcases List.mem_append.1 my with h|h
 · have:=List.length_pos_of_mem h;omega
 · rcases List.mem_cons.1 h with h|h
   · exact absurd h.symm hne
   · have:=List.length_pos_of_mem h;omega
theorem point_of {tr:List As} (ok:TrOk tr) {L:Int} {c:List Int} {k:Nat} (h:In tr L c k) (he:c= []∧(L=0∨c= [])∨cntL tr c L=1∧0<L):Point tr L (ordL tr c):=by
 have hb: ∀x∈ordL tr c,Br1 tr x:=fun x hx=>h.br x ((ordL_mem ok h.br).1 hx)
 have hle: ∀x∈ordL tr c,lv tr x≤L:=fun x hx=>h.le x ((ordL_mem ok h.br).1 hx)
 have nil:c= []→ordL tr c= []:=fun e=>by
  rw [List.eq_nil_iff_forall_not_mem]
  intro x hx
  have:=(ordL_mem ok h.br).1 hx
  rw [e] at this;simp at this
 refine ⟨hb,fun e=> ?_,fun i hi=> ?_,hle,h.nn⟩
 · rcases he with ⟨a,_⟩| ⟨_,b⟩
   · exact nil a
   · omega
 · rcases he with ⟨a,_⟩| ⟨h1,hL⟩
   · rw [nil a] at hi;simp at hi
   · have st:=ordL_strict h.br
     have mem: ∀j,j< (ordL tr c).length→(ordL tr c).getD j 0∈ordL tr c:=fun j hj=>by simp [List.getD,hj]
     have fall: ∀a b,a<b→b< (ordL tr c).length→lv tr ((ordL tr c).getD b 0)≤lv tr ((ordL tr c).getD a 0):=by
      intro a b hab hb'
      have:=List.pairwise_iff_getElem.1 st a b (by omega) hb' hab
      have e1:(ordL tr c).getD a 0=(ordL tr c)[a]'(by omega):=by simp [List.getD,show a< (ordL tr c).length by omega]
      have e2:(ordL tr c).getD b 0=(ordL tr c)[b]:=by simp [List.getD,hb']
      rw [e1,e2]
      unfold cmpO at this
      split at this<;>omega
     obtain ⟨y,hy,hly⟩:=cnt_pos.1 (show 0<cntL tr c L by omega)
     obtain ⟨j,hj,ej⟩:=List.mem_iff_getElem.1 ((ordL_mem ok h.br).2 hy)
     have ej':(ordL tr c).getD j 0=y:=by simp [List.getD,hj,ej]
     have h0:lv tr ((ordL tr c).getD 0 0)=L:=by
      rcases Nat.eq_zero_or_pos j with e|e
      · subst e;rw [ej'];exact hly
      · have h2:=fall 0 j e hj
        have h3:=hle _ (mem 0 (by omega))
        rw [ej',hly] at h2
        omega
     constructor
     · intro hl
       refine Classical.byContradiction fun hne=> ?_
       have hd:(ordL tr c).getD i 0≠(ordL tr c).getD 0 0:=by
        intro e
        have:=List.pairwise_iff_getElem.1 st 0 i (by omega) hi (by omega)
        simp only [List.getD,List.getElem?_eq_getElem hi,List.getElem?_eq_getElem (show 0< (ordL tr c).length by omega),Option.getD_some] at e
        rw [e] at this
        exact cmpO_irr _ _ this
       have two:1<cntL tr c L:=two_of ((ordL_mem ok h.br).1 (mem 0 (by omega))) ((ordL_mem ok h.br).1 (mem i hi)) (fun e=>hd e.symm) h0 hl
       omega
     · rintro rfl;exact h0
theorem Point.shr {tr:List As} {L:Int} {ld:List Int} (h:Point tr L ld):Point tr L (shr tr ld):=by
 refine ⟨fun x hx=>h.br x (shr_mem hx),fun e=>by rw [h.zero e];rfl,fun i hi=> ?_,fun x hx=>h.le x (shr_mem hx),h.nn⟩
 cases ld with
 |nil=>simp [LeP.shr] at hi
 |cons y t=>
  have h0:=(h.one 0 (by simp)).2 rfl
  have e0:(y::t).getD 0 0=y:=rfl
  rw [e0] at h0
  cases i with
  |zero=>exact ⟨fun _=>rfl,fun _=>h0⟩
  |succ i=>
   refine ⟨fun hl=> ?_,fun e=>by omega⟩
   have hi':i< (t.filter fun z=>decide (0<lv tr z) && !idle tr (y::t) z).length:=by simpa [LeP.shr] using hi
   have em:(LeP.shr tr (y::t)).getD (i+1) 0=(t.filter fun z=>decide (0<lv tr z) && !idle tr (y::t) z)[i]:=by simp [LeP.shr,List.getD,hi']
   rw [em] at hl
   have hm:=(List.mem_filter.1 (List.getElem_mem hi')).1
   obtain ⟨j,hj,ej⟩:=List.mem_iff_getElem.1 hm
   have:=(h.one (j+1) (by simpa using hj)).1 (by rw [← hl,← ej];simp [List.getD,hj])
   omega
end
section
theorem okT_take {tr:List As} {t i:Nat} (hi:i<t):okT (tr.take t) i=okT tr i:=by
 have h1:(tr.take t).take i=tr.take i:=by rw [List.take_take,Nat.min_eq_left (by omega)]
 have h2:prev (tr.take t) i=prev tr i:=by
  unfold prev
  split
  · rfl
  · rw [nth_take (by omega)]
 unfold okT
 rw [h1,h2,nth_take hi]
theorem mayT_take {tr:List As} {t:Nat} (ht:t≤tr.length) (hl:t≤4096) (h:(List.range t).all (okT tr)=true):TrOk (tr.take t):=by
 refine (mayT_ok (tr:=tr.take t) ?_).1
 have hlen:(tr.take t).length=t:=by rw [List.length_take];omega
 unfold mayT
 rw [hlen,decide_eq_true hl,Bool.true_and,List.all_eq_true]
 intro i hi
 rw [List.mem_range] at hi
 rw [okT_take hi]
 exact List.all_eq_true.1 h i (List.mem_range.2 hi)
theorem range_succ_all {f:Nat→Bool} {t:Nat} (h:(List.range t).all f=true) (hf:f t=true):(List.range (t+1)).all f=true:=by
 rw [List.range_succ,List.all_append,h];simp [hf]
theorem range_bad {f:Nat→Bool} {t n:Nat} (ht:t<n) (hf:f t=false):(List.range n).all f=false:=by
 cases h:(List.range n).all f with
 |false=>rfl
 |true=>have:=List.all_eq_true.1 h t (List.mem_range.2 ht);rw [hf] at this;exact this.symm
def atM (tr:List As) (u:Int):Int:=if atN tr u<tr.length then (atN tr u:Int)+1 else 0
theorem atM_nil (u:Int):atM [] u=0:=by unfold atM;simp
theorem len_take {tr:List As} {t:Nat} (h:t≤tr.length):(tr.take t).length=t:=by rw [List.length_take];omega
theorem atM_succ {tr:List As} {t:Nat} (ht:t<tr.length) (h: ¬atN (tr.take t) (am (nth tr t).lit)<t) (u:Int):atM (tr.take (t+1)) u=if u=am (nth tr t).lit then (t:Int)+1 else atM (tr.take t) u:=by
 have e1:=atN_take (tr:=tr) (v:=u) (i:=t) (by omega)
 have e2:=atN_take (tr:=tr) (v:=u) (i:=t+1) (by omega)
 have l1:=len_take (tr:=tr) (t:=t) (by omega)
 have l2:=len_take (tr:=tr) (t:=t+1) (by omega)
 unfold atM
 rw [l1,l2]
 by_cases hu:u=am (nth tr t).lit
 · rw [if_pos hu]
   have h0:atN tr u=t:=by
    subst hu
    rw [(atN_take (by omega)).1] at h
    refine atN_eq ht rfl fun j hj=>atN_miss (by omega)
   rw [if_pos (e2.1.2 (by omega)),e2.2 (by omega),h0]
 · rw [if_neg hu]
   by_cases hl:atN tr u<t
   · rw [if_pos (e2.1.2 (by omega)),if_pos (e1.1.2 hl),e2.2 (by omega),e1.2 hl]
   · rw [if_neg (fun h2=> ?_),if_neg (fun h2=>hl (e1.1.1 h2))]
     have h3:=e2.1.1 h2
     have h4:atN tr u=t:=by omega
     have:=atN_hit (tr:=tr) (v:=u) (by omega)
     rw [h4] at this
     exact hu this.symm
theorem atM_pos {tr:List As} {u:Int}:atM tr u=0↔¬atN tr u<tr.length:=by
 unfold atM
 split<;>omega
theorem mayT_true {tr:List As} (hl:tr.length≤4096) (h:(List.range tr.length).all (okT tr)=true):mayT tr=true:=by
 unfold mayT;rw [decide_eq_true hl,h];rfl
theorem mayT_false {tr:List As} {i:Nat} (hi:i<tr.length) (h:okT tr i=false):mayT tr=false:=by
 unfold mayT;rw [range_bad hi h,Bool.and_false]
def reaB (tr:List As) (i:Nat):Bool:=decide ((nth tr i).rs.length≤256) && decide ((nth tr i).lit∈(nth tr i).rs) && brk (tr.take i) (wo (nth tr i).rs (nth tr i).lit)
end
end Go.LeP
namespace Go.Proofs.YtddffgjagppimaaGreat.W.Le
open Go Go.Fw Go.RowKit Go.SoP Go.LiP Go.LeP
open Go.Proofs.Tryz (prog)
section
variable {w:World} {p q:Option Addr} {n c m d:Nat} {tr:List As} {l:List Int}
def TV (w:World) (p:Option Addr) (tr:List As):Prop:= ∀i,i<tr.length→∃ (a:Addr) (s:Sl),p=some a∧CellsAt w (a.add (i*3)) 0 [.int .i64 (nth tr i).lit,.int .i64 (nth tr i).lev,.slice s.p s.n s.c]∧
 s.n=(nth tr i).rs.length∧s.n≤maxLen∧Vw (Value.int .i64) w s.p (nth tr i).rs
theorem TV.grow {w':World} (h:TV w p tr) (g:Grow w w'):TV w' p tr:=by
 intro i hi
 obtain ⟨a,s,rfl,hc,h1,h2,h3⟩:=h i hi
 exact ⟨a,s,rfl,CellsAt.keep g id hc,h1,h2,h3.grow g⟩
theorem TV.ix (h:TV w p tr) (hn:n=tr.length) {X:Int} (i:Nat) (e:X=i) (hi:i<tr.length) {K:Addr→Prop}
 (hk: ∀a (s:Sl),CellsAt w a 0 [.int .i64 (nth tr i).lit,.int .i64 (nth tr i).lev,.slice s.p s.n s.c]→s.n=(nth tr i).rs.length→s.n≤maxLen→Vw (Value.int .i64) w s.p (nth tr i).rs→K a):ixK p n X 3 K:=by
 subst e hn
 obtain ⟨a,s,rfl,hc,h1,h2,h3⟩:=h i hi
 exact ⟨a,rfl,by omega,by omega,hk _ s (by rw [Int.toNat_natCast];exact hc) h1 h2 h3⟩
theorem isL_litB (l:Int):isL l=litB l:=rfl
theorem amount12_ok {l:Int} (h: -9223372036854775808<l) (h2:l<9223372036854775808) (w:World):Calls prog learn_amount.id #[.int .i64 l] w fun e w'=>e= .returned (.int .i64 (am l))∧Grow w w':=by
 refine learn_amount.calls ?_
 unfold learn_amount.w
 rw [wrap64_of (x:=0 - l) (by omega) (by omega)]
 refine ⟨?_,Mod.refl w⟩
 unfold imax am
 congr 2
 split<;>split<;>omega
end
section
variable {w:World} {p q:Option Addr} {n c m d:Nat} {tr:List As} {l:List Int}
theorem mapI_at:mapI prog ty_map_int_int ty_int ty_int=true:=by kernel_rfl
theorem mapB_in:mapB prog ty_map_int_bool ty_int ty_bool=true:=by kernel_rfl
theorem wf_am {x:Int} (h:isL x=true):(Lit.int .i64 (am x)).wf=true:=by
 have:=am_bd (x:=x) h
 exact wf64 (by omega) (by omega)
theorem wf_lit {x:Int} (h:isL x=true):(Lit.int .i64 x).wf=true:=by
 have:=litB_bd h
 exact wf64 (by omega) (by omega)
theorem asCopy {w2:World} {u v:Int} {m d:Nat} {K:World→Prop} (h:New (.cells #[.int .i64 0,.int .i64 0,.slice none 0 0] ty_api_Assign) w n w2)
 (hk: ∀w3,Has w3 n #[.int .i64 u,.int .i64 v,.slice q m d]→Grow w w3→K w3): ∃w3,StoreAt (Addr.mk n 0 none) 0 [.int .i64 u,.int .i64 v,.slice q m d] w2 w3∧K w3:=by
 have e:=h.num
 exact store_i h.has rfl rfl fun w3 H m=>hk w3 H (h.mod.then m fun k hk (e:k=n)=>by omega)
theorem prev_succ {t:Nat}:prev tr (t+1)=(nth tr t).lev:=by unfold prev;rw [if_neg (by omega),Nat.add_sub_cancel]
theorem prev_zero:prev tr 0=0:=by unfold prev;rw [if_pos rfl]
end
section
variable {w:World} {p q:Option Addr} {n c m d:Nat} {tr:List As} {l:List Int}
theorem _root_.Go.LeP.TrOk.fresh (ok:TrOk tr) {t:Nat} (ht:t<tr.length): ¬atN (tr.take t) (am (nth tr t).lit)<t:=by
 intro e
 rw [(atN_take (by omega)).1] at e
 exact ok.uq _ t e ht (atN_hit (by omega))
theorem MI_cast {b n:Nat} {s s':Int→Int} (h:MI prog ty_int ty_int w b n s) (e: ∀u,s u=s' u):MI prog ty_int ty_int w b n s':=by
 rw [← show s=s' from funext e];exact h
theorem atM_wrap {v:Int} (hl:tr.length≤4096) (h:atN tr v<tr.length):IntKind.i64.wrap (atM tr v - 1)=(atN tr v:Nat):=by
 unfold atM
 rw [if_pos h,wrap64_of (by omega) (by omega)];omega
theorem places_ok (h:TV w p tr) (hn:n=tr.length) (ok:TrOk tr) (hl:tr.length≤4096):Calls prog learn_places.id #[.slice p n c] w fun e w'=> ∃b,e= .returned (.map (some b))∧MI prog ty_int ty_int w' b tr.length (atM tr)∧Grow w w'∧w.heap.size≤b:=by
 refine learn_places.calls ?_
 intro n1 w2 h2
 have e1:=h2.num
 have M2:MI prog ty_int ty_int w2 n1 0 (atM (tr.take 0)):=MI_cast (MI.new h2) fun u=> (atM_nil u).symm
 refine ⟨fun I w' k=> ∃t:Nat,I=t∧t≤tr.length∧k=tr.length - t∧MI prog ty_int ty_int w' n1 t (atM (tr.take t))∧Grow w w',⟨_,0,rfl,Nat.zero_le _,rfl,M2,h2.mod⟩,?_⟩
 rintro I w7 k _ ⟨t,rfl,ht,rfl,M,G⟩
 refine cnd_i (fun s=> ?_) (fun s=> ?_)
 · have s:t<tr.length:=by simp at s;omega
   refine (h.grow G).ix hn t rfl s fun a x C e1 e2 v=> ⟨_,_,_,_,_,C,fun n12 w13 h13=>asCopy h13 fun w14 H G14=> ⟨_,cell_add H rfl,?_⟩⟩
   have hb:=litB_bd (ok.isl t s)
   refine (amount12_ok (by omega) (by omega) w14).mono ?_
   rintro e w16 ⟨rfl,g16⟩
   have G16:=(G.trans G14).trans g16
   obtain ⟨w18,hr,M18,m18⟩:=(M.grow (G14.trans g16)).put mapI_at (by unfold maxLen;omega) (wf_am (ok.isl t s)) (v:=(t:Int)+1) (wf64 (by omega) (by omega))
   refine ⟨_,rfl,w18,by rw [wrap64_of (by omega) (by omega)];exact hr,_,?_,t+1,wN (by omega) (by omega),by omega,rfl,MI_cast M18 fun u=> (atM_succ s (ok.fresh s) u).symm,Mod.fresh G16 m18 (by omega)⟩
   omega
 · have s:t=tr.length:=by simp at s;omega
   subst s
   rw [List.take_length] at M
   exact ⟨n1,rfl,M,G,by omega⟩
theorem clB_one {x:Int}:clB [x]=litB x:=by unfold clB;simp
theorem one_vw {x:Int} {b:Nat} (h:Has w b #[.int .i64 x]):Vw (Value.int .i64) w (some ⟨b,0,none⟩) [x]:=by
 intro j hj
 have:j=0:=by simpa using hj
 subst this
 exact ⟨_,rfl,cell_add h rfl⟩
theorem reasoned_ok {t b nn:Nat} (h:TV w p tr) (hn:n=tr.length) (hl:tr.length≤4096) (ht:t<tr.length) (hi:isL (nth tr t).lit=true) (M:MI prog ty_int ty_int w b nn (atM (tr.take t))) (hv:Vw (Value.int .i64) w q (nth tr t).rs) (hm:m=(nth tr t).rs.length) (hx:m≤maxLen):
 Calls prog learn_reasoned.id #[.slice p n c,.map (some b),.agg #[.int .i64 (nth tr t).lit,.int .i64 (nth tr t).lev,.slice q m d]] w fun e w'=>e= .returned (.bool (reaB tr t))∧Grow w w':=by
 refine learn_reasoned.calls ?_
 intro n1 w2 h2
 have H:=h2.has
 have G2:=h2.mod
 generalize hrs:(nth tr t).rs=rs at*
 generalize hlt:(nth tr t).lit=x0 at*
 have hdef:reaB tr t=(decide (rs.length≤256) && decide (x0∈rs) && brk (tr.take t) (LeP.wo rs x0)):=by unfold reaB;rw [hrs,hlt]
 have hlp:(tr.take t).length=t:=len_take (by omega)
 have badx: ∀ {w':World} {x:Int},Grow w w'→x∈rs→x≠x0→¬Br1 (tr.take t) x→(Ending.returned (.bool false)= .returned (.bool (reaB tr t))∧Grow w w'):=by
  intro w' x g hx hne hb
  have:brk (tr.take t) (LeP.wo rs x0)=false:=by
   cases e:brk (tr.take t) (LeP.wo rs x0) with
   |false=>rfl
   |true=>exact absurd (brk_iff.1 e x (mem_wo.2 ⟨hx,hne⟩)) hb
  rw [hdef,this,Bool.and_false];exact ⟨rfl,g⟩
 refine ⟨_,_,_,cell_add H rfl,cnd_i (fun r=> ?_) (fun r=> ⟨_,_,_,cell_add H rfl,(litCheck_ok (hv.grow G2) hm hx).mono ?_⟩)⟩
 · simp at r
   rw [hdef,decide_eq_false (by omega)];exact ⟨rfl,G2⟩
 have r:rs.length≤256:=by simp at r;omega
 rintro e w5 ⟨rfl,g5⟩
 have G5:=G2.trans g5
 have H5:=H.grow g5
 refine ⟨_,rfl,cnd_i (fun r2=> ?_) (fun r2=> ⟨_,_,_,cell_add H5 rfl,_,cell_add H5 rfl,(contains_ok (hv.grow G5) hm hx _).mono ?_⟩)⟩
 · have hcl:clB rs=false:=by
    cases e:clB rs with
    |false=>rfl
    |true=>rw [e] at r2;simp at r2
   have hall:rs.all litB=false:=by
    unfold clB at hcl
    rw [decide_eq_true (p:=_≤4096) (by omega),Bool.and_true] at hcl
    exact hcl
   rw [List.all_eq_false] at hall
   obtain ⟨x,hx1,hx2⟩:=hall
   refine badx G5 hx1 (fun e=> ?_) fun hb=> ?_
   · subst e;exact hx2 hi
   · exact hx2 hb.isl
 have hcl:clB rs=true:=by
  cases e:clB rs with
  |true=>rfl
  |false=>rw [e] at r2;simp at r2
 have hlit:=(clB_all hcl).1
 rintro e w9 ⟨rfl,g9⟩
 have G9:=G5.trans g9
 have H9:=H5.grow g9
 refine ⟨_,rfl,cnd_i (fun r3=> ?_) (fun r3=> ⟨_,_,_,cell_add H9 rfl,?_⟩)⟩
 · have r3:x0 ∉ rs:=by simpa using r3
   rw [hdef,decide_eq_false r3,Bool.and_false];exact ⟨rfl,G9⟩
 have r3:x0∈rs:=by simpa using r3
 refine ⟨fun I w' k=> ∃j:Nat,I=j∧j≤rs.length∧k=rs.length - j∧(∀x∈rs.take j,x≠x0→Br1 (tr.take t) x)∧Grow w2 w',⟨_,0,rfl,Nat.zero_le _,rfl,by simp,g5.trans g9⟩,?_⟩
 rintro I w16 k _ ⟨j,rfl,hj,rfl,ha,G⟩
 refine cnd_i (fun s=> ?_) (fun s=> ?_)
 · have s:j<rs.length:=by simp at s;omega
   refine (hv.grow (G2.trans G)).ix 0 (by omega) hm (by omega) fun a e=> ⟨_,e,_,cell_add (H.grow G) rfl,?_⟩
   rw [Int.toNat_natCast]
   refine cnd_i (fun r4=> ⟨_,?_,j+1,wN (by omega) (by omega),by omega,rfl,fun x hx hne=> ?_,G⟩) (fun r4=> ?_)
   · omega
   · rcases (mem_take_succ s).1 hx with e|e
     · exact ha x e hne
     · exact absurd (e.trans (by simpa using r4)) hne
   have r4:rs.getD j 0≠x0:=by simpa using r4
   have hxi:=hlit _ (mem_getD s)
   have hb:=litB_bd hxi
   refine (amount12_ok (by omega) (by omega) w16).mono ?_
   rintro e w20 ⟨rfl,g20⟩
   have G20:=(G2.trans G).trans g20
   refine ⟨_,rfl,w20,_,(M.grow G20).look mapI_at (wf_am hxi),cnd_i (fun r5=> ?_) (fun r5=> ?_)⟩
   · refine badx G20 (mem_getD s) r4 fun hB=> ?_
     have r5:atM (tr.take t) (am (rs.getD j 0))=0:=by simpa using r5
     exact atM_pos.1 r5 hB.lt
   have r5:atN (tr.take t) (am (rs.getD j 0))< (tr.take t).length:=Classical.byContradiction fun e=>by
    rw [atM_pos.2 e] at r5;simp at r5
   have r6:=r5
   rw [hlp] at r6
   rw [atM_wrap (by omega) r5]
   refine (h.grow G20).ix hn _ rfl (by omega) fun a2 x C e1 e2 v=> ⟨_,C.1,?_⟩
   rw [wrap64_of (by omega) (by omega),Int.zero_sub]
   refine cnd_i (fun r7=>badx G20 (mem_getD s) r4 fun hB=> ?_) (fun r7=> ⟨_,?_,j+1,wN (by omega) (by omega),by omega,rfl,fun x hx hne=> ?_,G.trans g20⟩)
   · have:=hB.eq
     rw [nth_take r6] at this
     rw [this] at r7
     simp at r7
   · omega
   · rcases (mem_take_succ s).1 hx with e|e
     · exact ha x e hne
     · subst e
       refine ⟨hxi,r5,?_⟩
       rw [nth_take r6]
       simpa using r7
 · have s:j=rs.length:=by simp at s;omega
   subst s
   rw [List.take_length] at ha
   refine ⟨?_,G2.trans G⟩
   rw [hdef,decide_eq_true r,decide_eq_true r3,brk_iff.2 fun x hx=>ha x (mem_wo.1 hx).1 (mem_wo.1 hx).2];rfl
theorem okT_eq (t:Nat):okT tr t=(isL (nth tr t).lit && decide (¬atN (tr.take t) (am (nth tr t).lit)<t) && decide (prev tr t≤(nth tr t).lev∧(nth tr t).lev≤prev tr t+1) &&
 (if (nth tr t).lev>prev tr t then (nth tr t).rs.isEmpty else reaB tr t)):=rfl
theorem sound_ok (h:TV w p tr) (hn:n=tr.length):Calls prog learn_sound.id #[.slice p n c] w fun e w'=>e= .returned (.bool (mayT tr))∧Grow w w':=by
 refine learn_sound.calls ?_
 refine cnd_i (fun q=> ?_) (fun q=> ?_)
 · simp at q
   refine ⟨?_,Mod.refl w⟩
   unfold mayT;rw [decide_eq_false (by omega)];rfl
 have hl:tr.length≤4096:=by simp at q;omega
 intro n1 w2 h2
 have e1:=h2.num
 have M2:MI prog ty_int ty_int w2 n1 0 (atM (tr.take 0)):=MI_cast (MI.new h2) fun u=> (atM_nil u).symm
 refine ⟨fun L I w' k=> ∃t:Nat,I=t∧t≤tr.length∧L=prev tr t∧(List.range t).all (okT tr)=true∧k=tr.length - t∧MI prog ty_int ty_int w' n1 t (atM (tr.take t))∧Grow w w',⟨_,0,rfl,Nat.zero_le _,prev_zero.symm,rfl,rfl,M2,h2.mod⟩,?_⟩
 rintro L I w8 k _ ⟨t,rfl,ht,rfl,ha,rfl,M,G⟩
 refine cnd_i (fun s=> ?_) (fun s=> ⟨?_,G⟩)
 · have s:t<tr.length:=by simp at s;omega
   have bad: ∀ {w':World},Grow w w'→okT tr t=false→(Ending.returned (.bool false)= .returned (.bool (mayT tr))∧Grow w w'):=fun g hf=>by
    rw [mayT_false s hf];exact ⟨rfl,g⟩
   have okp:=mayT_take ht (by omega) ha
   have hlp:(tr.take t).length=t:=len_take ht
   have hpv:0≤prev tr t∧prev tr t≤t:=by
    cases t with
    |zero=>rw [prev_zero];omega
    |succ t=>
     rw [prev_succ]
     have h1:=okp.nn (i:=t) (by omega)
     have h2:=okp.le (i:=t) (by omega)
     rw [nth_take (by omega)] at h1 h2
     omega
   refine (h.grow G).ix hn t rfl s fun a x C e1 e2 v=> ⟨_,_,_,_,_,C,fun n13 w14 h14=>asCopy h14 fun w15 H G15=> ⟨_,cell_add H rfl,fun n17 w18 h18=> ?_⟩⟩
   have vw:=one_vw h18.has
   refine (litCheck_ok vw rfl (by unfold maxLen;simp)).mono ?_
   rw [clB_one]
   rintro e w19 ⟨rfl,g19⟩
   have g:=(h18.mod.trans g19)
   have G19:=(G.trans G15).trans g
   have H19:=H.grow g
   have okx:=okT_eq (tr:=tr) t
   refine ⟨_,rfl,cnd_i (fun r=>bad G19 ?_) (fun r=> ?_)⟩
   · have:isL (nth tr t).lit=false:=by
      cases e:isL (nth tr t).lit with
      |false=>rfl
      |true=>rw [← isL_litB,e] at r;simp at r
     rw [okx,this];rfl
   have r:isL (nth tr t).lit=true:=by
    cases e:isL (nth tr t).lit with
    |true=>rfl
    |false=>rw [← isL_litB,e] at r;simp at r
   have hb:=litB_bd r
   refine ⟨_,cell_add H19 rfl,(amount12_ok (by omega) (by omega) w19).mono ?_⟩
   rintro e w22 ⟨rfl,g22⟩
   have G22:=G19.trans g22
   have H22:=H19.grow g22
   have M22:=M.grow ((G15.trans g).trans g22)
   refine ⟨_,rfl,w22,_,M22.look mapI_at (wf_am r),cnd_i (fun r2=>bad G22 ?_) (fun r2=> ?_)⟩
   · have r2:atN (tr.take t) (am (nth tr t).lit)<t:=Classical.byContradiction fun e=>by
      rw [atM_pos.2 (by rw [hlp];exact e)] at r2;simp at r2
     rw [okx,decide_eq_false (by simp [r2]),Bool.and_false];rfl
   have r2: ¬atN (tr.take t) (am (nth tr t).lit)<t:=fun e=>by
    unfold atM at r2
    rw [hlp,if_pos e] at r2
    simp at r2
   rw [wrap64_of (by omega) (by omega)]
   refine ⟨_,cell_add H22 rfl,cnd_i (fun r3=>bad G22 ?_) (fun r3=> ⟨_,cell_add H22 rfl,cnd_i (fun r4=>bad G22 ?_) (fun r4=> ⟨_,cell_add H22 rfl,_,_,_,cell_add H22 rfl,?_⟩)⟩)⟩
   · simp at r3
     rw [okx,decide_eq_false (p:=_≤_∧_) (by omega),Bool.and_false];rfl
   · simp at r4
     rw [okx,decide_eq_false (p:=_≤_∧_) (by omega),Bool.and_false];rfl
   have r3:prev tr t≤(nth tr t).lev:=by simpa using r3
   have r4:(nth tr t).lev≤prev tr t+1:=by simpa using r4
   rw [r,decide_eq_true (p:= ¬_) r2,decide_eq_true (p:=_≤_∧_) ⟨r3,r4⟩,Bool.and_true,Bool.and_true,Bool.true_and] at okx
   refine cnd_i (fun r5=>bad G22 ?_) (fun r5=>cnd_i (fun r6=> ?_) (fun r6=> ?_))
   · rw [okx]
     split
     · rename_i e
       rw [decide_eq_true e] at r5
       simp [e1] at r5
       simp [r5]
     · rename_i e
       rw [decide_eq_false e] at r5
       simp [e1] at r5
       unfold reaB
       rw [r5];simp
   · have r6: ¬(nth tr t).lev>prev tr t:=by simpa using r6
     rw [if_neg r6] at okx
     refine ⟨_,_,_,_,_,cells3 H22,(reasoned_ok (h.grow G22) hn hl s r M22 (v.grow ((G15.trans g).trans g22)) e1 e2).mono ?_⟩
     rintro e w33 ⟨rfl,g33⟩
     have H33:=H22.grow g33
     refine ⟨_,rfl,cnd_i (fun r7=>bad (G22.trans g33) (by rw [okx];simpa using r7)) (fun r7=> ⟨_,cell_add H33 rfl,(amount12_ok (by omega) (by omega) w33).mono ?_⟩)⟩
     rintro e w36 ⟨rfl,g36⟩
     obtain ⟨w38,hr,M38,m38⟩:=(M22.grow (g33.trans g36)).put mapI_at (by unfold maxLen;omega) (wf_am r) (v:=(t:Int)+1) (wf64 (by omega) (by omega))
     refine ⟨_,rfl,w38,by rw [wrap64_of (by omega) (by omega)];exact hr,_,cell_add ((H33.grow g36).put m38 (fun e=> ?_)) rfl,_,?_,t+1,wN (by omega) (by omega),by omega,prev_succ.symm,range_succ_all ha (by rw [okx];simpa using r7),rfl,MI_cast M38 fun u=> (atM_succ s r2 u).symm,Mod.fresh ((G22.trans g33).trans g36) m38 (by omega)⟩
     · have:=h14.num
       have:=M.lt
       omega
     · omega
   · have r6:(nth tr t).lev>prev tr t:=by simpa using r6
     rw [if_pos r6] at okx
     have r7:(nth tr t).rs.isEmpty=true:=by
      rw [decide_eq_true r6] at r5
      simp [e1] at r5
      simp [r5]
     refine ⟨_,cell_add H22 rfl,(amount12_ok (by omega) (by omega) w22).mono ?_⟩
     rintro e w36 ⟨rfl,g36⟩
     obtain ⟨w38,hr,M38,m38⟩:=(M22.grow g36).put mapI_at (by unfold maxLen;omega) (wf_am r) (v:=(t:Int)+1) (wf64 (by omega) (by omega))
     refine ⟨_,rfl,w38,by rw [wrap64_of (by omega) (by omega)];exact hr,_,cell_add ((H22.grow g36).put m38 (fun e=> ?_)) rfl,_,?_,t+1,wN (by omega) (by omega),by omega,prev_succ.symm,range_succ_all ha (by rw [okx];exact r7),rfl,MI_cast M38 fun u=> (atM_succ s r2 u).symm,Mod.fresh (G22.trans g36) m38 (by omega)⟩
     · have:=h14.num
       have:=M.lt
       omega
     · omega
 · have s:t=tr.length:=by simp at s;omega
   subst s
   rw [mayT_true hl ha]
theorem breaks_ok (h:TV w p tr) (hn:n=tr.length) (ok:TrOk tr) (hl:tr.length≤4096) (hc:Vw (Value.int .i64) w q l) (hk:m=l.length) (hx:m≤maxLen) (hi: ∀x∈l,isL x=true):
 Calls prog learn_breaks.id #[.slice p n c,.slice q m d] w fun e w'=>e= .returned (.bool (brk tr l))∧Grow w w':=by
 refine learn_breaks.calls ?_
 have hx':=hx
 unfold maxLen at hx'
 refine (places_ok h hn ok hl).mono ?_
 rintro e w1 ⟨b,rfl,M1,g1,_⟩
 refine ⟨_,rfl,fun I w' k=> ∃t:Nat,I=t∧t≤l.length∧k=l.length - t∧(∀x∈l.take t,Br1 tr x)∧Grow w1 w',⟨_,0,rfl,Nat.zero_le _,rfl,by simp,Mod.refl w1⟩,?_⟩
 rintro I w7 k _ ⟨t,rfl,ht,rfl,ha,G⟩
 have badx: ∀ {w':World} {x:Int},Grow w w'→x∈l→¬Br1 tr x→(Ending.returned (.bool false)= .returned (.bool (brk tr l))∧Grow w w'):=by
  intro w' x g hx hb
  have:brk tr l=false:=by
   cases e:brk tr l with
   |false=>rfl
   |true=>exact absurd (brk_iff.1 e x hx) hb
  rw [this];exact ⟨rfl,g⟩
 refine cnd_i (fun s=> ?_) (fun s=> ?_)
 · have s:t<l.length:=by simp at s;omega
   refine (hc.grow (g1.trans G)).ix 0 (by omega) hk (by omega) fun a e=> ⟨_,e,?_⟩
   rw [Int.toNat_natCast]
   have hxi:=hi _ (mem_getD s)
   have hb:=litB_bd hxi
   refine (amount12_ok (by omega) (by omega) w7).mono ?_
   rintro e w10 ⟨rfl,g10⟩
   have G10:=(g1.trans G).trans g10
   refine ⟨_,rfl,w10,_,(M1.grow (G.trans g10)).look mapI_at (wf_am hxi),cnd_i (fun r5=> ?_) (fun r5=> ?_)⟩
   · refine badx G10 (mem_getD s) fun hB=> ?_
     have r5:atM tr (am (l.getD t 0))=0:=by simpa using r5
     exact atM_pos.1 r5 hB.lt
   have r5:atN tr (am (l.getD t 0))<tr.length:=Classical.byContradiction fun e=>by
    rw [atM_pos.2 e] at r5;simp at r5
   rw [atM_wrap hl r5]
   refine (h.grow G10).ix hn _ rfl r5 fun a2 x C e1 e2 v=> ⟨_,C.1,?_⟩
   rw [wrap64_of (by omega) (by omega),Int.zero_sub]
   refine cnd_i (fun r7=>badx G10 (mem_getD s) fun hB=> ?_) (fun r7=> ⟨_,?_,t+1,wN (by omega) (by omega),by omega,rfl,fun x hx=> ?_,G.trans g10⟩)
   · rw [hB.eq] at r7
     simp at r7
   · omega
   · rcases (mem_take_succ s).1 hx with e|e
     · exact ha x e
     · subst e
       exact ⟨hxi,r5,by simpa using r7⟩
 · have s:t=l.length:=by simp at s;omega
   subst s
   rw [List.take_length] at ha
   rw [brk_iff.2 ha]
   exact ⟨rfl,g1.trans G⟩
def mayL (tr:List As) (l:List Int):Bool:=mayT tr && clB l && brk tr l
theorem learnCheck_ok (h:TV w p tr) (hn:n=tr.length) (hc:Vw (Value.int .i64) w q l) (hk:m=l.length) (hx:m≤maxLen):
 Calls prog learn_Check.id #[.slice p n c,.slice q m d] w fun e w'=>e= .returned (.int .i64 (if mayL tr l then 0 else 1))∧Grow w w':=by
 refine learn_Check.calls ?_
 refine (sound_ok h hn).mono ?_
 rintro e w1 ⟨rfl,g1⟩
 refine ⟨_,rfl,cnd_i (fun r=> ⟨?_,g1⟩) (fun r=> (litCheck_ok (hc.grow g1) hk hx).mono ?_)⟩
 · have r:mayT tr=false:=by simpa using r
   unfold mayL;rw [r];rfl
 have r:mayT tr=true:=by simpa using r
 rintro e w3 ⟨rfl,g3⟩
 refine ⟨_,rfl,cnd_i (fun r2=> ⟨?_,g1.trans g3⟩) (fun r2=> ?_)⟩
 · have:clB l=false:=by
    cases e:clB l with
    |false=>rfl
    |true=>rw [e] at r2;simp at r2
   unfold mayL;rw [this,Bool.and_false];rfl
 have r2:clB l=true:=by
  cases e:clB l with
  |true=>rfl
  |false=>rw [e] at r2;simp at r2
 obtain ⟨ok,hl⟩:=mayT_ok r
 refine (breaks_ok (h.grow (g1.trans g3)) hn ok hl (hc.grow (g1.trans g3)) hk hx (clB_all r2).1).mono ?_
 rintro e w5 ⟨rfl,g5⟩
 refine ⟨_,rfl,cnd_i (fun r3=> ⟨?_,(g1.trans g3).trans g5⟩) (fun r3=> ⟨?_,(g1.trans g3).trans g5⟩)⟩
 · have r3:brk tr l=false:=by simpa using r3
   unfold mayL;rw [r3,Bool.and_false];rfl
 · have r3:brk tr l=true:=by simpa using r3
   unfold mayL;rw [r,r2,r3];rfl
end
section
variable {W0 w w':World} {p q:Option Addr} {n c m d ns b1 b2 nb:Nat} {tr:List As} {l:List Int} {s:Int→Bool}
structure Stu (W0 w:World) (ns:Nat) (p:Option Addr) (n c:Nat) (tr:List As) (b1 b2:Nat):Prop where
 tv:TV W0 p tr
 hn:n=tr.length
 ok:TrOk tr
 hl:tr.length≤4096
 G:Grow W0 w
 h:Has w ns #[.slice p n c,.map (some b1),.map (some b2)]
 M:MI prog ty_int ty_int w b1 tr.length (atM tr)
 f2:W0.heap.size≤b2
 d1:b1≠b2
 d2:ns≠b2
theorem Stu.keep {S:Nat→Prop} (h:Stu W0 w ns p n c tr b1 b2) (m:Mod S w w') (h0: ∀b,S b→W0.heap.size≤b) (h1: ¬S ns) (h2: ¬S b1):Stu W0 w' ns p n c tr b1 b2:=
 ⟨h.tv,h.hn,h.ok,h.hl,h.G.then m fun x hx e=>by have:=h0 x e;omega,h.h.keep m h1,h.M.keep m h2,h.f2,h.d1,h.d2⟩
theorem Stu.grow (h:Stu W0 w ns p n c tr b1 b2) (m:Grow w w'):Stu W0 w' ns p n c tr b1 b2:=h.keep m (fun _ e=>e.elim) id id
theorem Stu.put (h:Stu W0 w ns p n c tr b1 b2) (m:Mod (·=b2) w w'):Stu W0 w' ns p n c tr b1 b2:=h.keep m (fun _ (e:_=b2)=>by subst e;exact h.f2) h.d2 h.d1
theorem amount12_eq {l:Int} (h: -9223372036854775808<l) (h2:l<9223372036854775808) (w:World):Calls prog learn_amount.id #[.int .i64 l] w fun e w'=>e= .returned (.int .i64 (am l))∧w'=w:=by
 refine learn_amount.calls ?_
 unfold learn_amount.w
 rw [wrap64_of (x:=0 - l) (by omega) (by omega)]
 refine ⟨?_,rfl⟩
 unfold imax am
 congr 2
 split<;>split<;>omega
theorem level_eq (h:Stu W0 w ns p n c tr b1 b2) {x:Int} (hx:Br1 tr x):Calls prog learn_study_level.id #[.pointer (some ⟨ns,0,none⟩),.int .i64 x] w fun e w'=>e= .returned (.int .i64 (lv tr x))∧w'=w.drew:=by
 refine learn_study_level.calls ?_
 have hb:=litB_bd hx.isl
 have H:Has w.drew ns _:=h.h.drew
 have sl:w.drew.cell? ((Addr.mk ns 0 none).add 0)=some (.slice p n c):=cell_add H rfl
 have mp:w.drew.cell? ((Addr.mk ns 0 none).add 1)=some (.map (some b1)):=cell_add H rfl
 have gd:Grow w w.drew:=(Mod.refl w).drew
 have am1: ∀ {Q:Ending→World→Prop},Q (.returned (.int .i64 (am x))) w.drew→Calls prog learn_amount.id #[.int .i64 x] w.drew Q:=fun hQ=>by
  refine (amount12_eq (by omega) (by omega) w.drew).mono ?_
  rintro e u ⟨rfl,rfl⟩
  exact hQ
 have look:(Instr.lookup ty_map_int_int (.map (some b1)) (.int .i64 (am x)) false).run prog w.drew= .ok (.int .i64 (atM tr (am x))) w.drew:=(h.M.grow gd).look mapI_at (wf_am hx.isl)
 have fin:ixK p n (IntKind.i64.wrap (atM tr (am x) - 1)) 3 fun a=> ∃y:Int,w.drew.cell? (a.add 1)=some (.int .i64 y)∧(Ending.returned (.int .i64 y)= .returned (.int .i64 (lv tr x))∧w.drew=w.drew):=by
  rw [atM_wrap h.hl hx.lt]
  exact (h.tv.grow (h.G.trans gd)).ix h.hn _ rfl hx.lt fun a s C e1 e2 v=> ⟨_,C.2.1,rfl,rfl⟩
 refine ⟨_,rfl,_,rfl,⟨_,_,_,sl,⟨_,mp,am1 ⟨_,rfl,_,_,look,fin⟩⟩,am1 ⟨_,rfl,_,mp,_,_,look,fin⟩⟩,
  ⟨_,mp,⟨_,_,_,sl,am1 ⟨_,rfl,_,_,look,fin⟩⟩,am1 ⟨_,rfl,⟨_,_,_,sl,_,_,look,fin⟩,⟨_,_,look,_,_,_,sl,fin⟩⟩⟩,
  am1 ⟨_,rfl,_,mp,⟨_,_,_,sl,_,_,look,fin⟩,⟨_,_,look,_,_,_,sl,fin⟩⟩⟩
theorem level_ok (h:Stu W0 w ns p n c tr b1 b2) {x:Int} (hx:Br1 tr x):Calls prog learn_study_level.id #[.pointer (some ⟨ns,0,none⟩),.int .i64 x] w fun e w'=>e= .returned (.int .i64 (lv tr x))∧Grow w w':=
 (level_eq h hx).mono fun _ _ ⟨h1,h2⟩=> ⟨h1,by rw [h2];exact (Mod.refl w).drew⟩
theorem add_ok (h:Stu W0 w ns p n c tr b1 b2) (M:MS prog ty_int ty_bool w b2 nb s) (hc:Vw (Value.int .i64) W0 q l) (hk:m=l.length) (hx:nb+l.length≤10000000) (hi: ∀x∈l,isL x=true) (but:Int):
 Calls prog learn_study_add.id #[.pointer (some ⟨ns,0,none⟩),.slice q m d,.int .i64 but] w fun e w'=>e= .returned (.tuple #[])∧Stu W0 w' ns p n c tr b1 b2∧∃nb' s',nb'≤nb+l.length∧MS prog ty_int ty_bool w' b2 nb' s'∧∀u,s' u=(s u||decide (u∈l∧u≠but)):=by
 refine learn_study_add.calls ?_
 refine ⟨fun I w' k=> ∃ (t nb':Nat) (s':Int→Bool),I=t∧t≤l.length∧k=l.length - t∧nb'≤nb+t∧Stu W0 w' ns p n c tr b1 b2∧MS prog ty_int ty_bool w' b2 nb' s'∧∀u,s' u=(s u||decide (u∈l.take t∧u≠but)),⟨_,0,nb,s,rfl,Nat.zero_le _,rfl,Nat.le_refl _,h,M,fun u=>by simp⟩,?_⟩
 rintro I w5 k _ ⟨t,nb',s',rfl,ht,rfl,hb,S,M',hs⟩
 refine cnd_i (fun r=> ?_) (fun r=> ?_)
 · have r:t<l.length:=by simp at r;omega
   refine (hc.grow S.G).ix 0 (by omega) hk (by omega) fun a e=> ⟨_,e,?_⟩
   rw [Int.toNat_natCast]
   refine cnd_i (fun r2=> ⟨_,rfl,_,cell_add S.h rfl,?_⟩) (fun r2=> ⟨_,?_,t+1,nb',s',wN (by omega) (by omega),by omega,rfl,by omega,S,M',fun u=> ?_⟩)
   · have r2:l.getD t 0≠but:=by simpa using r2
     obtain ⟨w10,hr,M10,m10⟩:=M'.put mapB_in (by unfold maxLen;omega) (wf_lit (hi _ (mem_getD r)))
     refine ⟨w10,hr,_,?_,t+1,nb'+1,_,wN (by omega) (by omega),by omega,rfl,by omega,S.put m10,M10,fun u=> ?_⟩
     · omega
     · simp only [mem_take_succ r,hs u]
       by_cases e:u=l.getD t 0
       · rw [if_pos e]
         have:decide ((u∈l.take t∨u=l.getD t 0)∧u≠but)=true:=decide_eq_true ⟨.inr e,e▸r2⟩
         rw [this,Bool.or_true]
       · rw [if_neg e]
         exact congrArg (s u|| ·) (decide_eq_decide.2 ⟨fun h=> ⟨.inl h.1,h.2⟩,fun h=> ⟨h.1.resolve_right e,h.2⟩⟩)
   · omega
   · have r2:l.getD t 0=but:=by simpa using r2
     rw [hs u]
     refine congrArg (s u|| ·) (decide_eq_decide.2 ?_)
     rw [mem_take_succ r]
     constructor
     · rintro ⟨a,b⟩;exact ⟨.inl a,b⟩
     · rintro ⟨a|a,b⟩
       · exact ⟨a,b⟩
       · exact absurd (a.trans r2) b
 · have r:t=l.length:=by simp at r;omega
   subst r
   rw [List.take_length] at hs
   exact ⟨rfl,S,nb',s',by omega,M',hs⟩
def TopR (tr:List As) (c:List Int) (L N P:Int):Prop:=
 (c= []∧L=0∧N=0∧P= -1)∨((∀x∈c,lv tr x≤L)∧N=cntL tr c L∧0<N∧(∃x∈c,lv tr x=L∧(atN tr (am x):Int)=P)∧∀x∈c,lv tr x=L→(atN tr (am x):Int)≤P)
theorem TopR.perm {c k:List Int} {L N P:Int} (h:TopR tr c L N P) (e:c.Perm k):TopR tr k L N P:=by
 rcases h with ⟨rfl,h⟩| ⟨h1,h2,h3,⟨x,hx,h4⟩,h5⟩
 · exact .inl ⟨e.nil_eq.symm,h⟩
 · exact .inr ⟨fun x hx=>h1 x (e.mem_iff.2 hx),by rw [h2];unfold cntL;rw [e.countP_eq],h3,⟨x,e.mem_iff.1 hx,h4⟩,fun x hx=>h5 x (e.mem_iff.2 hx)⟩
theorem TopR.step {c:List Int} {L N P a:Int} (h:TopR tr c L N P):
 (N=0∨L<lv tr a→TopR tr (a::c) (lv tr a) 1 (atN tr (am a)))∧(N≠0→lv tr a=L→TopR tr (a::c) L (N+1) (imax P (atN tr (am a))))∧(N≠0→lv tr a<L→TopR tr (a::c) L N P):=by
 refine ⟨fun e=> ?_,fun hN e=> ?_,fun hN e=> ?_⟩
 · have all: ∀x∈c,lv tr x<lv tr a:=by
    rcases h with ⟨rfl,h⟩| ⟨h1,h2,h3,_⟩
    · simp
    · intro x hx
      have:=h1 x hx
      omega
   refine .inr ⟨fun x hx=> ?_,?_,by omega,⟨a,by simp,rfl,rfl⟩,fun x hx hl=> ?_⟩
   · rcases List.mem_cons.1 hx with e|e
     · rw [e];exact Int.le_refl _
     · have:=all x e;omega
   · have:c.countP (fun x=>lv tr x==lv tr a)=0:=List.countP_eq_zero.2 fun x hx=>by
      have:=all x hx
      simp;omega
     unfold cntL
     rw [List.countP_cons,this];simp
   · rcases List.mem_cons.1 hx with e|e
     · rw [e];exact Int.le_refl _
     · have:=all x e;omega
 · rcases h with ⟨rfl,h⟩| ⟨h1,h2,h3,⟨y,hy,h4,h6⟩,h5⟩
   · exact absurd h.2.1 hN
   · refine .inr ⟨fun x hx=> ?_,?_,by omega,?_,fun x hx hl=> ?_⟩
     · rcases List.mem_cons.1 hx with e2|e2
       · rw [e2,e];exact Int.le_refl _
       · exact h1 x e2
     · rw [h2];unfold cntL
       rw [List.countP_cons,if_pos (by simpa using e)];simp
     · unfold imax
       split
       · exact ⟨a,by simp,e,rfl⟩
       · exact ⟨y,List.mem_cons_of_mem _ hy,h4,h6⟩
     · unfold imax
       rcases List.mem_cons.1 hx with e2|e2
       · subst e2;split<;>omega
       · have:=h5 x e2 hl
         split<;>omega
 · rcases h with ⟨rfl,h⟩| ⟨h1,h2,h3,⟨y,hy,h4⟩,h5⟩
   · exact absurd h.2.1 hN
   · refine .inr ⟨fun x hx=> ?_,?_,h3,⟨y,List.mem_cons_of_mem _ hy,h4⟩,fun x hx hl=> ?_⟩
     · rcases List.mem_cons.1 hx with e2|e2
       · rw [e2];omega
       · exact h1 x e2
     · rw [h2];unfold cntL
       rw [List.countP_cons,if_neg (by simp;omega)];simp
     · rcases List.mem_cons.1 hx with e2|e2
       · subst e2;omega
       · exact h5 x e2 hl
def Vis (s lf:Int→Bool) (V:List Int):Prop:=V.Nodup∧∀x,x∈V↔s x=true∧lf x=false
theorem Vis.nil:Vis s s []:=⟨List.nodup_nil,fun x=>by
 constructor
 · intro h;simp at h
 · rintro ⟨a,b⟩;rw [a] at b;simp at b⟩
theorem Vis.step {lf:Int→Bool} {V:List Int} {a:Int} (h:Vis s lf V) (ha:lf a=true) (hs:s a=true):Vis s (fun x=>lf x && x !=a) (a::V):=by
 refine ⟨List.nodup_cons.2 ⟨fun e=> ?_,h.1⟩,fun x=> ?_⟩
 · have:=((h.2 a).1 e).2
   rw [ha] at this;simp at this
 · rw [List.mem_cons,h.2 x]
   constructor
   · rintro (rfl| ⟨h1,h2⟩)
     · exact ⟨hs,by simp⟩
     · exact ⟨h1,by show (lf x && x !=a)=false;rw [h2];rfl⟩
   · rintro ⟨h1,h2⟩
     by_cases e:x=a
     · exact .inl e
     · refine .inr ⟨h1,?_⟩
       simpa [e] using h2
theorem Vis.snoc {lf:Int→Bool} {V:List Int} {a:Int} (h:Vis s lf V) (ha:lf a=true) (hs:s a=true):Vis s (fun x=>lf x && x !=a) (V++ [a]):=by
 have h2:=h.step ha hs
 have e:(V++ [a]).Perm (a::V):=List.perm_append_comm (l₁:=V) (l₂:= [a])
 exact ⟨e.nodup_iff.2 h2.1,fun x=>e.mem_iff.trans (h2.2 x)⟩
theorem Vis.done {lf:Int→Bool} {V c:List Int} (h:Vis s lf V) (hl: ∀a,lf a=false) (hc: ∀x,s x=true↔x∈c) (hd:c.Nodup):V.Perm c:=
 (List.perm_ext_iff_of_nodup h.1 hd).2 fun x=>by rw [h.2 x,hl x,← hc x];simp
theorem top_ok (h:Stu W0 w ns p n c tr b1 b2) (M:MS prog ty_int ty_bool w b2 nb s) {k:List Int} (hs: ∀x,s x=true↔x∈k) (hd:k.Nodup) (hb: ∀x∈k,Br1 tr x):
 Calls prog learn_study_top.id #[.pointer (some ⟨ns,0,none⟩)] w fun e w'=> ∃L N P:Int,e= .returned (.tuple #[.int .i64 L,.int .i64 N,.int .i64 P])∧TopR tr k L N P∧Grow w w':=by
 refine learn_study_top.calls ?_
 obtain ⟨w3,cnt,hr,R,g3⟩:=M.range mapB_in
 have hr0:=R.lt
 refine ⟨_,rfl,_,cell_add h.h rfl,w3,_,hr,?_⟩
 refine ⟨fun L N P u z=> ∃ (V:List Int) (lf:Int→Bool),Vis s lf V∧TopR tr V L N P∧(∀x,lf x=true→s x=true)∧MR prog ty_int ty_bool u b2 w.heap.size nb s lf z∧Grow w u,⟨_,[],s,Vis.nil,.inl ⟨rfl,rfl,rfl,rfl⟩,fun x=>id,R,g3⟩,?_⟩
 rintro L N P w11 z _ ⟨V,lf,v,T,hlf,R11,G⟩
 rcases R11.next mapB_in 0 with ⟨h0,hl,hrun⟩| ⟨a,va,w13,z',ha,haw,hrun,hent,R13,hz,m13⟩
 · exact .inl ⟨w11,hrun,_,_,_,rfl,T.perm (v.done hl hs hd),G⟩
 refine .inr ⟨w13,_,_,hrun,w13,_,_,hent,?_⟩
 have G13:Grow w w13:=Mod.fresh G m13 (Nat.le_refl _)
 have hsa:=hlf a ha
 have hB:=hb a ((hs a).1 hsa)
 have hbd:=litB_bd hB.isl
 have v':=v.step ha hsa
 have hlf': ∀x,(lf x && x !=a)=true→s x=true:=fun x e=>hlf x (by simp at e;exact e.1)
 have T':=T.step (a:=a)
 refine (level_ok (h.grow G13) hB).mono ?_
 rintro e w19 ⟨rfl,g19⟩
 have R19:=R13.grow g19
 have S19:=(h.grow (G13.trans g19)).grow (Mod.refl w19).drew
 have g0:Grow w19.drew w19.drew:=Mod.refl _
 have G19:Grow w w19.drew:=(G13.trans g19).trans (Mod.refl w19).drew
 have mp: ∀ {u:World},Grow w19.drew u→u.cell? ((Addr.mk ns 0 none).add 1)=some (.map (some b1)):=fun g=>cell_add (S19.h.grow g) rfl
 have am1: ∀ {Q:Ending→World→Prop},(∀u,Grow w19.drew u→Q (.returned (.int .i64 (am a))) u)→Calls prog learn_amount.id #[.int .i64 a] w19.drew Q:=fun hQ=>by
  refine (amount12_ok (by omega) (by omega) w19.drew).mono ?_
  rintro e u ⟨rfl,g⟩
  exact hQ u g
 have look: ∀ {u:World},Grow w19.drew u→(Instr.lookup ty_map_int_int (.map (some b1)) (.int .i64 (am a)) false).run prog u= .ok (.int .i64 (atM tr (am a))) u:=fun g=> (S19.M.grow g).look mapI_at (wf_am hB.isl)
 have R20: ∀ {u:World},Grow w19.drew u→MR prog ty_int ty_bool u b2 w.heap.size nb s (fun x=>lf x && x !=a) z':=fun g=>R19.drew.grow g
 have hw:=atM_wrap h.hl hB.lt
 have N0:0≤N∧N≤1000000:=by
  have hNl:N≤V.length:=by
   rcases T with ⟨rfl,_,e,_⟩| ⟨_,e,_⟩
   · rw [e];simp
   · rw [e]
     have:cntL tr V L≤V.length:=List.countP_le_length
     omega
  have hVl:V.length≤tr.length:=by
   have inj:(V.map fun x=>atN tr (am x)).Nodup:=by
    refine List.pairwise_map.2 (List.Pairwise.imp_of_mem (fun {x y} hx hy hne e=> ?_) v.1)
    exact hne ((hb x ((hs x).1 ((v.2 x).1 hx).1)).same (hb y ((hs y).1 ((v.2 y).1 hy).1)) e)
   have:=List.Nodup.length_le_of_subset inj (l₂:=List.range tr.length) fun y hy=>by
    obtain ⟨x,hx,rfl⟩:=List.mem_map.1 hy
    exact List.mem_range.2 (hb x ((hs x).1 ((v.2 x).1 hx).1)).lt
   simpa using this
  have:=h.hl
  refine ⟨?_,by omega⟩
  rcases T with ⟨_,_,e,_⟩| ⟨_,_,e,_⟩<;>omega
 refine ⟨_,rfl,cnd_i (fun r=> ?_) (fun r=>cnd_i (fun r2=> ?_) (fun r2=>cnd_i (fun r3=> ?_) (fun r3=> ?_)))⟩
 · have r:N=0:=by simpa using r
   have T1:=T'.1 (.inl r)
   rw [← hw] at T1
   exact ⟨_,rfl,⟨_,mp g0,am1 fun u g=> ⟨_,rfl,u,_,look g,z',hz,_,_,v',T1,hlf',R20 g,G19.trans g⟩⟩,am1 fun u g=> ⟨_,rfl,_,mp g,u,_,look g,z',hz,_,_,v',T1,hlf',R20 g,G19.trans g⟩⟩
 · have r2:L<lv tr a:=by simpa using r2
   have T1:=T'.1 (.inr r2)
   rw [← hw] at T1
   exact ⟨_,rfl,⟨_,mp g0,am1 fun u g=> ⟨_,rfl,u,_,look g,z',hz,_,_,v',T1,hlf',R20 g,G19.trans g⟩⟩,am1 fun u g=> ⟨_,rfl,_,mp g,u,_,look g,z',hz,_,_,v',T1,hlf',R20 g,G19.trans g⟩⟩
 · have r:N≠0:=by simpa using r
   have r3:lv tr a=L:=by simpa using r3
   have T1:=T'.2.1 r r3
   rw [← hw,← wrap64_of (x:=N+1) (by omega) (by omega)] at T1
   exact ⟨_,rfl,⟨_,mp g0,am1 fun u g=> ⟨_,rfl,u,_,look g,z',hz,_,_,v',T1,hlf',R20 g,G19.trans g⟩⟩,am1 fun u g=> ⟨_,rfl,_,mp g,u,_,look g,z',hz,_,_,v',T1,hlf',R20 g,G19.trans g⟩⟩
 · have r:N≠0:=by simpa using r
   have r2: ¬L<lv tr a:=by simpa using r2
   have r3:lv tr a≠L:=by simpa using r3
   exact ⟨z',hz,_,_,v',T'.2.2 r (by omega),hlf',R19,G13.trans g19⟩
end
section
variable {W0 w w':World} {p q:Option Addr} {n c m d ns b1 b2 nb:Nat} {tr:List As} {l:List Int} {s:Int→Bool}
theorem br_len {V:List Int} (hd:V.Nodup) (hb: ∀x∈V,Br1 tr x):V.length≤tr.length:=by
 have inj:(V.map fun x=>atN tr (am x)).Nodup:=by
  refine List.pairwise_map.2 (List.Pairwise.imp_of_mem (fun {x y} hx hy hne e=> ?_) hd)
  exact hne ((hb x hx).same (hb y hy) e)
 have:=List.Nodup.length_le_of_subset inj (l₂:=List.range tr.length) fun y hy=>by
  obtain ⟨x,hx,rfl⟩:=List.mem_map.1 hy
  exact List.mem_range.2 (hb x hx).lt
 simpa using this
theorem lv_bd (ok:TrOk tr) (hl:tr.length≤4096) {x:Int} (hx:Br1 tr x):0≤lv tr x∧lv tr x≤4096:=by
 have h1:=ok.nn hx.lt
 have h2:=ok.le hx.lt
 have h3:=hx.lt
 unfold lv
 omega
theorem cmp_ok (h:Stu W0 w ns p n c tr b1 b2) {n1:Nat} (hc:Has w n1 #[.pointer (some ⟨ns,0,none⟩)]) {x y:Int} (hx:Br1 tr x) (hy:Br1 tr y):
 Calls prog learn_study_ordered_1.id #[.int .i64 x,.int .i64 y,.pointer (some ⟨n1,0,none⟩)] w fun e w'=>e= .returned (.int .i64 (cmpO tr x y))∧Gdr w w':=by
 refine learn_study_ordered_1.calls ?_
 have GD:Gdr w w.drew:=(Gdr.refl w).drew
 have cl: ∀ {u:World},Gdr w u→u.cell? (Addr.mk n1 0 none)=some (.pointer (some ⟨ns,0,none⟩)):=fun g=>cell_of (hc.grow g.grow) rfl
 have LV: ∀ {u:World} {z:Int} {Q:Ending→World→Prop},Br1 tr z→Gdr w u→(∀v,Gdr w v→Q (.returned (.int .i64 (lv tr z))) v)→Calls prog learn_study_level.id #[.pointer (some ⟨ns,0,none⟩),.int .i64 z] u Q:=by
  intro u z Q hz g hQ
  refine (level_eq (h.grow g.grow) hz).mono ?_
  rintro e v ⟨rfl,rfl⟩
  exact hQ _ g.drew
 have AM: ∀ {u:World} {z:Int} {Q:Ending→World→Prop},Br1 tr z→Gdr w u→(∀v,Gdr w v→Q (.returned (.int .i64 (am z))) v)→Calls prog learn_amount.id #[.int .i64 z] u Q:=by
  intro u z Q hz g hQ
  have hb:=litB_bd hz.isl
  refine (amount12_eq (by omega) (by omega) u).mono ?_
  rintro e v ⟨rfl,rfl⟩
  exact hQ _ g
 have bx:=lv_bd h.ok h.hl hx
 have bY:=lv_bd h.ok h.hl hy
 have ax:=am_bd (x:=x) hx.isl
 have ay:=am_bd (x:=y) hy.isl
 have F1:(lv tr x !=lv tr y)=true→IntKind.i64.wrap (lv tr y - lv tr x)=cmpO tr x y:=fun r=>by
  have r:lv tr x≠lv tr y:=by simpa using r
  rw [wrap64_of (by omega) (by omega)];unfold cmpO;rw [if_pos r]
 have F2:(lv tr x !=lv tr y)=false→IntKind.i64.wrap (am x - am y)=cmpO tr x y:=fun r=>by
  have r:lv tr x=lv tr y:=by simpa using r
  rw [wrap64_of (by omega) (by omega)];unfold cmpO;rw [if_neg (by omega)]
 refine ⟨_,cl GD,LV hx GD fun u1 g1=> ⟨_,rfl,_,cl g1,LV hy g1 fun u2 g2=> ⟨_,rfl,?_⟩⟩,_,cl GD,LV hx GD fun u1 g1=> ⟨_,rfl,LV hy g1 fun u2 g2=> ⟨_,rfl,?_⟩⟩⟩
 all_goals
  have g3:=g2.drew
  exact cnd_i (fun r=> ⟨_,cl g3,LV hy g3 fun u3 g4=> ⟨_,rfl,_,cl g4,LV hx g4 fun u4 g5=> ⟨_,rfl,by rw [F1 r],g5⟩⟩,_,cl g3,LV hy g3 fun u3 g4=> ⟨_,rfl,LV hx g4 fun u4 g5=> ⟨_,rfl,by rw [F1 r],g5⟩⟩⟩)
   (fun r=>AM hx g2 fun u3 g4=> ⟨_,rfl,AM hy g4 fun u4 g5=> ⟨_,rfl,by rw [F2 r],g5⟩⟩)
theorem cmp_ent:entB prog learn_study_ordered_1.id=true:=by kernel_rfl
theorem ordered_ok (h:Stu W0 w ns p n c tr b1 b2) (M:MS prog ty_int ty_bool w b2 nb s) {k:List Int} (hs: ∀x,s x=true↔x∈k) (hd:k.Nodup) (hb: ∀x∈k,Br1 tr x):
 Calls prog learn_study_ordered.id #[.pointer (some ⟨ns,0,none⟩)] w fun e w'=> ∃ (q:Option Addr) (d:Nat),e= .returned (.slice q (ordL tr k).length d)∧OwI ty_int w' q d (ordL tr k)∧Grow w w':=by
 refine learn_study_ordered.calls ?_
 intro n1 w2 h2
 have e1:=h2.num
 have G2:=h2.mod
 obtain ⟨w6,cnt,hr,R,g6⟩:=(M.grow G2).range mapB_in
 have H1:Has w6 n1 #[.pointer (some ⟨ns,0,none⟩)]:=h2.has.grow g6
 have hsz:=G2.size
 have hr0:=R.lt
 have S6:=h.grow (G2.trans g6)
 have lns:=h.h.lt
 have lb1:=h.M.lt
 have lW0:=h.G.size
 have ln1:=h2.has.lt
 refine ⟨_,cell_of h2.has rfl,_,rfl,_,cell_add (h.h.grow G2) rfl,w6,_,hr,?_⟩
 refine ⟨fun pm nm cm u z=> ∃ (V:List Int) (lf:Int→Bool),Vis s lf V∧nm=V.length∧(∀x,lf x=true→s x=true)∧MR prog ty_int ty_bool u b2 w2.heap.size nb s lf z∧OwI ty_int u pm cm V∧(∀b,blk pm=some b→w6.heap.size≤b)∧Mod (·=w2.heap.size) w6 u,
  ⟨_,[],s,Vis.nil,rfl,fun x=>id,R,Ow.nil _ _ _,fun b hb=>by simp [blk] at hb,Mod.refl w6⟩,?_⟩
 rintro pm nm cm w12 z _ ⟨V,lf,v,rfl,hlf,R12,O,fr,m12⟩
 have hV: ∀x∈V,Br1 tr x:=fun x hx=>hb x ((hs x).1 ((v.2 x).1 hx).1)
 have hVl:=br_len v.1 hV
 have hl:=h.hl
 rcases R12.next mapB_in 0 with ⟨h0,hl,hrun⟩| ⟨a,va,w14,z',ha,haw,hrun,hent,R14,hz,m14⟩
 · have S12:Stu W0 w12 ns p n c tr b1 b2:=S6.keep m12 (fun b (e:b=_)=>by omega) (fun (e:ns=_)=>by omega) (fun (e:b1=_)=>by omega)
   have H12:Has w12 n1 #[.pointer (some ⟨ns,0,none⟩)]:=H1.keep m12 fun (e:n1=_)=>by omega
   have X:Cx w12 pm V.length V learn_study_ordered_1.id #[.pointer (some ⟨n1,0,none⟩)] (cmpO tr):=by
    refine ⟨rfl,by omega,cmp_ent,fun x hx y hy w' m'=> ?_,cmpO_ord tr⟩
    have:(#[]++ #[Value.int .i64 x,.int .i64 y]++ #[.pointer (some ⟨n1,0,none⟩)]:Array Value)= #[.int .i64 x,.int .i64 y,.pointer (some ⟨n1,0,none⟩)]:=by simp
    rw [this]
    have s6:=g6.size
    refine cmp_ok (S12.keep m' (fun b e=> ?_) (fun e=> ?_) (fun e=> ?_)) (H12.keep m' fun e=> ?_) (hV x hx) (hV y hy)
    all_goals
     have:=fr _ e
     omega
   refine .inl ⟨w12,hrun,(sort_ok X O).mono ?_⟩
   rintro e w17 ⟨rfl,l1,o1,m1,p1,s1⟩
   have pk:=v.done hl hs hd
   have eq:l1=ordL tr k:=ordL_uniq h.ok hb (fun x=> (p1.mem_iff.trans pk.mem_iff)) (p1.nodup_iff.2 v.1) s1
   subst eq
   refine ⟨rfl,_,_,by rw [p1.length_eq],o1,?_⟩
   have s6:=g6.size
   refine (((G2.trans g6).then m12 fun x hx (e:x=_)=> ?_).then m1 fun x hx e=> ?_)
   · omega
   · have:=fr x e;omega
 refine .inr ⟨w14,_,_,hrun,w14,_,_,hent,fun n21 w22 h22=> ?_⟩
 have hsa:=hlf a ha
 have m22:=m14.grow h22.mod
 have O22:OwI ty_int w22 pm cm V:=O.keep m22 fun b e e2=>by
  have:=fr b e;omega
 have s6:=g6.size
 have s22:=(m12.trans m22).size
 refine O22.app1 sl_int a h22.has rfl rfl oneInt (by omega) fun w23 p' c' o' m' hp' hsz'=> ?_
 refine ⟨z',hz,V++ [a],_,v.snoc ha hsa,by simp,fun x e=>hlf x (by simp at e;exact e.1),(R14.grow h22.mod).keep m' (fun e=> ?_) (fun e=> ?_),o',fun b hb=> ?_,(m12.trans m22).then m' fun x hx e=> ?_⟩
 · have:=fr _ e
   have:=M.lt
   omega
 · have:=fr _ e;omega
 · rcases hp' with rfl|rfl
   · exact fr b hb
   · have:=blk_some hb
     have:=h22.num
     have:=h22.size
     omega
 · have:=fr x e;omega
def mxL (tr:List As) (k:List Int):Int:=k.foldl (fun m x=>if lv tr x>m then lv tr x else m) 0
theorem mxL_aux (tr:List As): ∀ (k:List Int) (m:Int),(m≤k.foldl (fun m x=>if lv tr x>m then lv tr x else m) m)∧(∀x∈k,lv tr x≤k.foldl (fun m x=>if lv tr x>m then lv tr x else m) m)∧(k.foldl (fun m x=>if lv tr x>m then lv tr x else m) m=m∨∃x∈k,lv tr x=k.foldl (fun m x=>if lv tr x>m then lv tr x else m) m)
 | [],m=> ⟨Int.le_refl _,by simp,.inl rfl⟩
 |y::t,m=>by
  rw [List.foldl_cons]
  generalize hX:(if lv tr y>m then lv tr y else m)=X
  have hm:m≤X∧lv tr y≤X∧(X=m∨X=lv tr y):=by
   rw [← hX]
   split<;>omega
  obtain ⟨h1,h2,h3⟩:=mxL_aux tr t X
  refine ⟨by omega,fun x hx=> ?_,?_⟩
  · rcases List.mem_cons.1 hx with e|e
    · subst e;omega
    · exact h2 x e
  · rcases h3 with e| ⟨x,hx,e⟩
    · rcases hm.2.2 with h|h
      · exact .inl (e.trans h)
      · exact .inr ⟨y,by simp,(e.trans h).symm⟩
    · exact .inr ⟨x,List.mem_cons_of_mem _ hx,e⟩
theorem mxL_nn (tr:List As) (k:List Int):0≤mxL tr k:=(mxL_aux tr k 0).1
theorem mxL_le {k:List Int} {x:Int} (h:x∈k):lv tr x≤mxL tr k:=(mxL_aux tr k 0).2.1 x h
theorem mxL_eq {k:List Int} {L:Int} (h0:0≤L) (h1: ∀x∈k,lv tr x≤L) (h2:L=0∨∃x∈k,lv tr x=L):mxL tr k=L:=by
 have a:=mxL_nn tr k
 have b:=(mxL_aux tr k 0).2.2
 rcases h2 with h2| ⟨x,hx,e⟩
 · rcases b with b| ⟨x,hx,e⟩
   · exact b.trans h2.symm
   · have:=h1 x hx
     unfold mxL at*
     omega
 · have:=mxL_le (tr:=tr) hx
   rcases b with b| ⟨y,hy,e2⟩
   · unfold mxL at*;omega
   · have:=h1 y hy
     unfold mxL at*
     omega
def lnd (tr:List As) (l:List Int):List Int:=ordL tr (lrn tr (mxL tr (norm l)) tr.length (norm l))
theorem in0 (ok:TrOk tr) (hb: ∀x∈l,Br1 tr x):In tr (mxL tr (norm l)) (norm l) tr.length:=by
 have hb': ∀x∈norm l,Br1 tr x:=fun x hx=>hb x (((norm_isN l).mem x).1 hx)
 refine ⟨hb',fun x hx=>mxL_le hx,fun x hx _=> (hb' x hx).lt,?_,mxL_nn _ _,(norm_isN l).st⟩
 cases hn:norm l with
 |nil=>exact .inl rfl
 |cons y t=>
  refine .inr (cnt_pos.2 ?_)
  rw [← hn]
  rcases (mxL_aux tr (norm l) 0).2.2 with e| ⟨x,hx,e⟩
  · have hy:y∈norm l:=by rw [hn];simp
    have h1:=mxL_le (tr:=tr) hy
    have h2:=ok.nn (hb' y hy).lt
    refine ⟨y,hy,?_⟩
    have:lv tr y=(nth tr (atN tr (am y))).lev:=rfl
    unfold mxL at*
    omega
  · exact ⟨x,hx,e⟩
end
section
variable {W0 w w':World} {p q:Option Addr} {n c m d ns b1 b2 nb:Nat} {tr:List As} {l:List Int} {s:Int→Bool}
theorem TV.ix2 (h:TV w p tr) (g:Grow w w') (hn:n=tr.length) {X:Int} (i:Nat) (e:X=i) (hi:i<tr.length) {K:Addr→Prop}
 (hk: ∀a (s:Sl),CellsAt w' a 0 [.int .i64 (nth tr i).lit,.int .i64 (nth tr i).lev,.slice s.p s.n s.c]→s.n=(nth tr i).rs.length→s.n≤maxLen→Vw (Value.int .i64) w s.p (nth tr i).rs→K a):ixK p n X 3 K:=by
 subst e hn
 obtain ⟨a,s,rfl,hc,h1,h2,h3⟩:=h i hi
 exact ⟨a,rfl,by omega,by omega,hk _ s (by rw [Int.toNat_natCast];exact CellsAt.keep g id hc) h1 h2 h3⟩
theorem top_in {k:List Int} {L L0 N P:Int} {kk:Nat} (T:TopR tr k L N P) (I:In tr L0 k kk):N=cntL tr k L0∧(0<N→∃x∈k,lv tr x=L0∧(atN tr (am x):Int)=P∧∀y∈k,lv tr y=L0→(atN tr (am y):Int)≤P):=by
 rcases T with ⟨rfl,h1,h2,h3⟩| ⟨h1,h2,h3,⟨x,hx,hl,hp⟩,h5⟩
 · exact ⟨h2,fun e=>by omega⟩
 · have e:L=L0:=by
    have:=I.le x hx
    rcases I.top with e|e
    · rw [e] at hx;simp at hx
    · obtain ⟨y,hy,hly⟩:=cnt_pos.1 e
      have:=h1 y hy
      omega
   subst e
   exact ⟨h2,fun _=> ⟨x,hx,hl,hp,h5⟩⟩
theorem top_mx {k:List Int} {L N P:Int} (ok:TrOk tr) (hb: ∀x∈k,Br1 tr x) (T:TopR tr k L N P):mxL tr k=L:=by
 rcases T with ⟨rfl,h1,h2,h3⟩| ⟨h1,h2,h3,⟨x,hx,hl,hp⟩,h5⟩
 · subst h1;rfl
 · refine mxL_eq ?_ h1 (.inr ⟨x,hx,hl⟩)
   have:=ok.nn (hb x hx).lt
   rw [← hl];exact this
theorem learnL_ok (h:TV w p tr) (hn:n=tr.length) (hc:Vw (Value.int .i64) w q l) (hk:m=l.length) (hx:m≤maxLen):
 Calls prog learn_Learn.id #[.slice p n c,.slice q m d] w fun e w'=> ∃ (q2:Option Addr) (d2:Nat) (o:List Int),o=(if mayL tr l then lnd tr l else [])∧e= .returned (.tuple #[.slice q2 o.length d2,.int .i64 (if mayL tr l then 0 else 1)])∧OwI ty_int w' q2 d2 o∧Grow w w':=by
 refine learn_Learn.calls ?_
 refine (learnCheck_ok h hn hc hk hx).mono ?_
 rintro e w1 ⟨rfl,g1⟩
 refine ⟨_,rfl,cnd_i (fun r=> ?_) (fun r=> ?_)⟩
 · have r:mayL tr l=false:=by
    cases e:mayL tr l with
    |false=>rfl
    |true=>rw [e] at r;simp at r
   rw [r]
   exact ⟨none,0,[],rfl,rfl,Ow.nil _ _ _,g1⟩
 have r:mayL tr l=true:=by
  cases e:mayL tr l with
  |true=>rfl
  |false=>rw [e] at r;simp at r
 rw [r]
 have r':=r
 unfold mayL at r'
 simp only [Bool.and_eq_true] at r'
 obtain ⟨⟨r1,r2⟩,r3⟩:=r'
 obtain ⟨ok,hl⟩:=mayT_ok r1
 have hB:=brk_iff.1 r3
 obtain ⟨hlit,hlen⟩:=clB_all r2
 refine (places_ok (h.grow g1) hn ok hl).mono ?_
 rintro e w3 ⟨b,rfl,M3,g3,fb⟩
 refine ⟨_,rfl,fun n5 w6 h6 n7 w8 h8=> ?_⟩
 have e5:=h6.num
 have e7:=h8.num
 have s1:=g1.size
 have s3:=g3.size
 have s6:=h6.size
 have lb:=M3.lt
 have S8:Stu w w8 n7 p n c tr b n5:=⟨h,hn,ok,hl,((g1.trans g3).trans h6.mod).trans h8.mod,h8.has,(M3.grow h6.mod).grow h8.mod,by omega,by omega,by omega⟩
 have M8:MS prog ty_int ty_bool w8 n5 0 fun _=>false:=(MS.new h6).grow h8.mod
 refine (add_ok S8 M8 hc hk (by omega) hlit 0).mono ?_
 rintro e w9 ⟨rfl,S9,nb9,s9,hnb9,M9,hs9⟩
 have hs9': ∀x,s9 x=true↔x∈norm l:=fun x=>by
  rw [hs9 x,(norm_isN l).mem x]
  constructor
  · intro e;simp at e;exact e.1
  · intro e
    have:=litB_bd (hlit x e)
    simp [e,this.1]
 have hBn: ∀x∈norm l,Br1 tr x:=fun x hx=>hB x (((norm_isN l).mem x).1 hx)
 refine ⟨rfl,(top_ok S9 M9 hs9' (nodup_of_strict (norm_isN l).st) hBn).mono ?_⟩
 rintro e w10 ⟨L,N,P,rfl,T,g10⟩
 have hL:=top_mx ok hBn T
 refine ⟨_,_,_,rfl,?_⟩
 refine ⟨fun N P u z=> ∃ (k:List Int) (nb:Nat) (s:Int→Bool) (L':Int),TopR tr k L' N P∧In tr L k z∧z≤tr.length∧lrn tr L tr.length (norm l)=lrn tr L z k∧Stu w u n7 p n c tr b n5∧MS prog ty_int ty_bool u n5 nb s∧(∀x,s x=true↔x∈k)∧nb≤4096+256* (tr.length - z),
  ⟨tr.length,norm l,nb9,s9,L,T,hL▸in0 ok hB,Nat.le_refl _,rfl,S9.grow g10,M9.grow g10,hs9',by omega⟩,?_⟩
 rintro N1 P1 w19 z _ ⟨k,nb,s,L',T1,I1,hz,hlr,S,M,hs,hnb⟩
 obtain ⟨hN,hP⟩:=top_in T1 I1
 refine cnd_i (fun r=> ?a1) (fun r=>cnd_i (fun r1=>cnd_i (fun r2=> ?a2) (fun r2=> ?b1)) (fun r1=> ?b2))
 case' a1=>have hneg: ¬(cntL tr k L=0∨cntL tr k L=1∧0<L):=by simp at r;omega
 case' a2=>have hneg: ¬(cntL tr k L=0∨cntL tr k L=1∧0<L):=by simp at r1 r2;omega
 case' b1=>have hst:cntL tr k L=0∨cntL tr k L=1∧0<L:=by have:=mxL_nn tr (norm l);simp at r1 r2;omega
 case' b2=>have hst:cntL tr k L=0∨cntL tr k L=1∧0<L:=by simp at r r1;omega
 case b1|b2=>
  refine (ordered_ok S M hs (nodup_of_strict I1.nd) I1.br).mono ?_
  rintro e w56 ⟨q2,d2,rfl,O,g56⟩
  have:lnd tr l=ordL tr k:=by
   unfold lnd
   rw [hL,hlr,lrn_stop hst]
  refine ⟨_,_,_,rfl,q2,d2,_,rfl,?_,?_,S.G.trans g56⟩
  · rw [if_pos rfl,if_pos rfl,this]
  · rw [if_pos rfl,this];exact O
 case a1|a2=>
  obtain ⟨x,hx,hlx,hPx,hmax⟩:=hP (by omega)
  clear hP
  have hbx:=I1.br x hx
  generalize hpp:atN tr (am x)=pp at*
  have hp:pp<tr.length:=hpp▸hbx.lt
  have hlit':x= -(nth tr pp).lit:=by have:=hbx.eq;rw [hpp] at this;omega
  have hlev:(nth tr pp).lev=L:=by rw [← hlx];unfold lv;rw [hpp]
  obtain ⟨I2,hlr2,hrs,hpz⟩:=I1.step ok hneg hp hlev (hlit'▸hx) fun y hy hly=>by have:=hmax y hy hly;omega
  obtain ⟨rl,rm,rb⟩:=ok.reason hp hrs
  have hil:=ok.isl pp hp
  have hbl:=litB_bd hil
  have hri: ∀y∈(nth tr pp).rs,isL y=true:=fun y hy=>by
   by_cases e:y=(nth tr pp).lit
   · rw [e];exact hil
   · exact (rb y hy e).1.isl
  refine TV.ix2 h S.G hn pp hPx.symm hp fun a sl C e1 e2 v=> ⟨_,_,_,_,_,C,fun n24 w25 h25=>asCopy h25 fun w26 H G26=> ?_⟩
  have en:=h25.num
  have G26':=G26.trans (Mod.refl w26).drew
  have S26:=S.grow G26'
  have M26:=M.grow G26'
  have lm:=M.lt
  obtain ⟨w30,hr,M30,m30⟩:=M26.del mapB_in (a:= -(nth tr pp).lit) (wf_lit (isL_neg hil)) 0
  have S30:=S26.put m30
  have H30:Has w30 n24 _:=H.drew.keep m30 fun (e:n24=_)=>by omega
  have ew:IntKind.i64.wrap (0 - (nth tr pp).lit)= -(nth tr pp).lit:=by rw [wrap64_of (by omega) (by omega),Int.zero_sub]
  refine ⟨_,rfl,_,cell_add S26.h rfl,_,cell_add H.drew rfl,w30,by rw [ew];exact hr,_,_,_,cell_add H30 rfl,_,cell_add H30 rfl,(add_ok S30 M30 v e1 (by omega) hri _).mono ?_⟩
  rintro e w33 ⟨rfl,S33,nb',s',hnb',M33,hs'⟩
  have hs2: ∀y,s' y=true↔y∈stepN tr pp k:=fun y=>by
   rw [hs' y,stepN_mem,Bool.or_eq_true,decide_eq_true_eq]
   refine or_congr ?_ Iff.rfl
   by_cases e:y= -(nth tr pp).lit
   · rw [if_pos e];simp [e]
   · rw [if_neg e,hs y];exact ⟨fun a=> ⟨a,e⟩,fun a=>a.1⟩
  refine ⟨rfl,(top_ok S33 M33 hs2 (nodup_of_strict I2.nd) I2.br).mono ?_⟩
  rintro e w34 ⟨L2,N2,P2,rfl,T2,g34⟩
  exact ⟨_,_,_,rfl,pp,hpz,_,nb',s',L2,T2,I2,by omega,hlr.trans hlr2,S33.grow g34,M33.grow g34,hs2,by omega⟩
end
section
variable {W0 w w':World} {p q:Option Addr} {n c m d ns b1 b2 nb:Nat} {tr:List As} {l:List Int} {s:Int→Bool}
theorem mxL_succ {k:List Int} {t:Nat} (h:t<k.length):mxL tr (k.take (t+1))=if lv tr (k.getD t 0)>mxL tr (k.take t) then lv tr (k.getD t 0) else mxL tr (k.take t):=by
 unfold mxL
 have:k[t]? =some (k.getD t 0):=by simp [List.getD,h]
 rw [List.take_add_one,this,List.foldl_append];rfl
theorem strictO_nodup {k:List Int} (h:StrictO tr k):k.Nodup:=h.imp fun {a b} hab e=>by subst e;exact cmpO_irr tr a hab
theorem filter_succ {f:Int→Bool} {k:List Int} {t:Nat} (h:t<k.length):(k.take (t+1)).filter f=(k.take t).filter f++ (if f (k.getD t 0) then [k.getD t 0] else []):=by
 have:k[t]? =some (k.getD t 0):=by simp [List.getD,h]
 rw [List.take_add_one,this,List.filter_append]
 generalize k.getD t 0=x
 cases hf:f x<;>simp [hf]
end
end Go.Proofs.YtddffgjagppimaaGreat.W.Le
namespace Go.Fw
open Go Go.RowKit Go.Maps
variable {P:Program} {t k e:TypeId} {w w':World} {b n:Nat} {s h:Int→Bool}
def MK (P:Program) (k e:TypeId) (w:World) (b n:Nat) (s h:Int→Bool):Prop:=
 ∃D:DataW Unit,w.ownsMap P k (plainElem P e) b n D∧(∀a:Int,D.atKey (.int .i64 a) (.lit (.bool false))= .lit (.bool (s a)))∧∀a:Int,Maps.has D (.int .i64 a)=h a
theorem MK.mb (m:MK P k e w b n s h):MB P k e w b n s:=by obtain ⟨D,h1,h2,_⟩:=m;exact ⟨D,h1,h2⟩
theorem MK.lt (m:MK P k e w b n s h):b<w.heap.size:=m.mb.lt
theorem MK.keep {S:Nat→Prop} (h0:MK P k e w b n s h) (m:Mod S w w') (hs: ¬S b):MK P k e w' b n s h:=by
 have hl:=h0.lt
 obtain ⟨D,⟨es,clock,hb,h1⟩,hd⟩:=h0
 exact ⟨D,⟨es,clock,(m.block b hl hs).trans hb,h1⟩,hd⟩
theorem MK.grow (h0:MK P k e w b n s h) (m:Grow w w'):MK P k e w' b n s h:=h0.keep m id
theorem MK.new {b:Nat} (h0:New (.map #[] 0) w b w'):MK P k e w' b 0 (fun _=>false) fun _=>false:=by
 obtain ⟨rfl,rfl⟩:=h0
 exact ⟨.map [],World.ownsMap_made w P k _,fun a=>rfl,fun a=>rfl⟩
theorem MK.look (hm:mapB P t k e=true) (h0:MK P k e w b n s h) {a:Int} (ha:(Lit.int .i64 a).wf=true):(Instr.lookup t (.map (some b)) (.int .i64 a) true).run P w= .ok (.tuple #[.bool (s a),.bool (h a)]) w:=by
 obtain ⟨ht,hk,he,hz⟩:=mapB_spec hm
 obtain ⟨D,h0,hd,hh⟩:=h0
 obtain ⟨v,ps,hr,hv⟩:=h0.look_ok (int_keyed hk) ht (hz w) (plainElem_bool he false) (keyOf_int_mk hk ha)
 rw [hd a] at hv
 have:v= .bool (s a):=by
  unfold plainElem at hv
  rw [he] at hv
  cases v<;>simp_all
 rw [hr,this,hh a]
theorem MK.put (hm:mapB P t k e=true) (h0:MK P k e w b n s h) (hn:n<maxLen) {a:Int} (ha:(Lit.int .i64 a).wf=true) (v:Bool):
 ∃w',(Instr.mapUpdate t (.map (some b)) (.int .i64 a) (.bool v)).run P w= .ok () w'∧MK P k e w' b (n+1) (fun u=>if u=a then v else s u) (fun u=>if u=a then true else h u)∧Mod (·=b) w w':=by
 obtain ⟨ht,hk,he,hz⟩:=mapB_spec hm
 obtain ⟨D,h0,hd,hh⟩:=h0
 have him:=h0.isMap
 obtain ⟨w',hr,h',hg⟩:=h0.update (int_keyed hk) ht hn (keyOf_int_mk hk ha) (plainElem_bool (H:=Unit) he v)
 refine ⟨w',hr,⟨_,h',fun u=> ?_,fun u=> ?_⟩,⟨hg.os,hg.tape,hg.output,hg.size,fun i hi hn=>hg.block i hi fun e=>hn (Option.some.inj e)⟩⟩
 · by_cases hu:u=a
   · subst hu
     exact (atKey_put_same him (show WideAt.IsKeyLit (.int .i64 u) from trivial) _ _).trans (by simp)
   · exact ((atKey_put_other (fun e=>hu (by injection e)) _ _).trans (hd u)).trans (by simp [hu])
 · by_cases hu:u=a
   · subst hu
     exact (has_put_same him (show WideAt.IsKeyLit (.int .i64 u) from trivial) _).trans (by simp)
   · exact ((has_put_other (fun e=>hu (by injection e)) _).trans (hh u)).trans (by simp [hu])
end Go.Fw
namespace Go.Proofs.YtddffgjagppimaaGreat.W.Le
open Go Go.Fw Go.RowKit Go.SoP Go.LiP Go.LeP
open Go.Proofs.Tryz (prog)
section
variable {W0 w w' W u:World} {p q:Option Addr} {n c m d ns b1 b2 b3 nb:Nat} {tr:List As} {l ld:List Int} {s h:Int→Bool}
def idP (tr:List As) (ld:List Int) (lit x:Int):Bool:=x==lit||decide (lv tr x≤0)||decide (x∈ld)||idle tr ld x
theorem idle_eqP (ok:TrOk tr) {x:Int} (hx:atN tr (am x)<tr.length):idle tr ld x=(!(nth tr (atN tr (am x))).rs.isEmpty && (nth tr (atN tr (am x))).rs.all (idP tr ld (nth tr (atN tr (am x))).lit)):=idle_eq ok hx
def cntK (tr:List As) (h:Int→Bool):Nat:=(List.range tr.length).countP fun i=>h (am (nth tr i).lit)
theorem countP_step {L:List Nat} {f g:Nat→Bool} {i:Nat} (hi:i∈L) (h0:f i=false) (h1:g i=true) (hm: ∀j,f j=true→g j=true):L.countP f+1≤L.countP g:=by
 induction L with
 |nil=>simp at hi
 |cons a L ih=>
  rw [List.countP_cons,List.countP_cons]
  have hle:L.countP f≤L.countP g:=List.countP_mono_left fun j _=>hm j
  by_cases e:i=a
  · subst e
    rw [h0,h1]
    simp;omega
  · have:=ih ((List.mem_cons.1 hi).resolve_left e)
    have h3:(if f a=true then 1 else 0)≤(if g a=true then 1 else 0):=by
     by_cases e2:f a=true
     · rw [if_pos e2,if_pos (hm a e2)];exact Nat.le_refl _
     · rw [if_neg e2];omega
    omega
structure Kn (W0 w:World) (ns:Nat) (p:Option Addr) (n c:Nat) (tr:List As) (b1 b2 b3:Nat) (ld:List Int) (h:Int→Bool):Prop where
 S:Stu W0 w ns p n c tr b1 b2
 M: ∃nb s,MS prog ty_int ty_bool w b2 nb s∧∀x,s x=decide (x∈ld)
 K: ∃nk s,MK prog ty_int ty_bool w b3 nk s h∧nk≤cntK tr h∧∀x,Br1 tr x→h (am x)=true→s (am x)=idle tr ld x
 d1:b1≠b3
 d2:b2≠b3
 d3:ns≠b3
 f:W0.heap.size≤b3
theorem Kn.grow (k:Kn W0 w ns p n c tr b1 b2 b3 ld h) (m:Grow w w'):Kn W0 w' ns p n c tr b1 b2 b3 ld h:=by
 obtain ⟨S,⟨nb,s,M,hs⟩,⟨nk,s2,K,hk,hi⟩,d1,d2,d3,f⟩:=k
 exact ⟨S.grow m,⟨nb,s,M.grow m,hs⟩,⟨nk,s2,K.grow m,hk,hi⟩,d1,d2,d3,f⟩
theorem Kn.put (k:Kn W0 w ns p n c tr b1 b2 b3 ld h) {x:Int} (hB:Br1 tr x) (h0:h (am x)=false):
 ∃w',(Instr.mapUpdate ty_map_int_bool (.map (some b3)) (.int .i64 (am x)) (.bool (idle tr ld x))).run prog w= .ok () w'∧Kn W0 w' ns p n c tr b1 b2 b3 ld (fun u=>if u=am x then true else h u)∧Mod (·=b3) w w':=by
 obtain ⟨S,⟨nb,s,M,hs⟩,⟨nk,s2,K,hk,hi⟩,d1,d2,d3,f⟩:=k
 have hle:cntK tr h≤tr.length:=by
  have:cntK tr h≤(List.range tr.length).length:=List.countP_le_length
  simpa using this
 have hl:=S.hl
 obtain ⟨w',hr,K',m'⟩:=K.put mapB_in (by unfold maxLen;omega) (wf_am hB.isl) (idle tr ld x)
 refine ⟨w',hr,⟨S.keep m' (fun b (e:b=b3)=>by omega) (fun e=>d3 e) (fun e=>d1 e),⟨nb,s,M.keep m' (fun e=>d2 e),hs⟩,⟨nk+1,_,K',?_,fun y hy hh=> ?_⟩,d1,d2,d3,f⟩,m'⟩
 · have e0:am (nth tr (atN tr (am x))).lit=am x:=atN_hit hB.lt
   have:=countP_step (L:=List.range tr.length) (f:=fun i=>h (am (nth tr i).lit)) (g:=fun i=>if am (nth tr i).lit=am x then true else h (am (nth tr i).lit)) (i:=atN tr (am x)) (List.mem_range.2 hB.lt) (by show h (am (nth tr (atN tr (am x))).lit)=false;rw [e0];exact h0) (by rw [if_pos e0]) fun j hj=>by
    show (if am (nth tr j).lit=am x then true else h (am (nth tr j).lit))=true
    split
    · rfl
    · exact hj
   have e1:cntK tr h=(List.range tr.length).countP fun i=>h (am (nth tr i).lit):=rfl
   have e2:cntK tr (fun u=>if u=am x then true else h u)=(List.range tr.length).countP fun i=>if am (nth tr i).lit=am x then true else h (am (nth tr i).lit):=rfl
   omega
 · by_cases e:am y=am x
   · rw [if_pos e,hy.am hB e]
   · rw [if_neg e] at hh ⊢
     exact hi y hy hh
structure Zs (W u:World) (o:Option Nat):Prop where
 g:Grow W u
 z: ∀nc,o=some nc→Has u nc #[.int .i64 0,.int .i64 0,.slice none 0 0]∧W.heap.size≤nc
theorem Zs.grow {o:Option Nat} (z:Zs W u o) {v:World} (g:Grow u v):Zs W v o:=⟨z.g.trans g,fun nc e=> ⟨(z.z nc e).1.grow g,(z.z nc e).2⟩⟩
theorem Zs.new (z:Zs W u none) {nc:Nat} {v:World} (hn:New (.cells #[.int .i64 0,.int .i64 0,.slice none 0 0] ty_api_Assign) u nc v):Zs W v (some nc):=by
 refine ⟨z.g.trans hn.mod,fun k e=> ?_⟩
 obtain rfl:nc=k:=Option.some.inj e
 have:=z.g.size
 have:=hn.num
 exact ⟨hn.has,by omega⟩
theorem Zs.store {nc:Nat} (z:Zs W u (some nc)) {a b:Int} {sp:Option Addr} {sn sc:Nat} {K:World→Prop} (hk: ∀v,Has v nc #[.int .i64 a,.int .i64 b,.slice sp sn sc]→Grow W v→W.heap.size≤nc→K v):
 ∃v,StoreAt (Addr.mk nc 0 none) 0 [.int .i64 a,.int .i64 b,.slice sp sn sc] u v∧K v:=by
 obtain ⟨H,hf⟩:=z.z nc rfl
 exact store_i H rfl rfl fun v H' m=>hk v H' (Mod.fresh z.g m hf) hf
theorem idleP_ok: ∀ (n0:Nat) {w:World} {x:Int} {h:Int→Bool},Kn W0 w ns p n c tr b1 b2 b3 ld h→Br1 tr x→atN tr (am x)=n0→
 Calls prog learn_study_idle.id #[.pointer (some ⟨ns,0,none⟩),.int .i64 x,.map (some b3)] w fun e w'=>e= .returned (.bool (idle tr ld x))∧∃h',Kn W0 w' ns p n c tr b1 b2 b3 ld h'∧(∀v,h v=true→h' v=true)∧(∀v,h' v=true→h v=true∨atN tr v≤n0)∧Mod (·=b3) w w':=by
 intro n0
 induction n0 using Nat.strongRecOn with
 |_ n0 ih=>
 intro w x h k hB hn0
 subst hn0
 refine learn_study_idle.calls ?_
 have hbx:=litB_bd hB.isl
 refine (amount12_ok (by omega) (by omega) w).mono ?_
 rintro e w1 ⟨rfl,g1⟩
 have k1:=k.grow g1
 obtain ⟨nk,s,K,hk,hi⟩:=k1.K
 refine ⟨_,rfl,w1,_,_,K.look mapB_in (wf_am hB.isl),cnd_i (fun r=> ?_) (fun rK=> ?_)⟩
 · refine ⟨?_,h,k1,fun v hv=>hv,fun v hv=> .inl hv,g1.mono fun _ _ e=>e.elim⟩
   rw [hi x hB r]
 have k2:=k1.grow (Mod.refl w1).drew
 have G2:Grow w w1.drew:=g1.trans (Mod.refl w1).drew
 clear K hk hi k1
 generalize w1.drew=W at k2 G2
 have hl:=k2.S.hl
 have ok:=k2.S.ok
 have Z0:Zs W W none:=⟨Mod.refl _,fun nc e=>by simp at e⟩
 have am1: ∀ {u:World} {o:Option Nat} {Q:Ending→World→Prop},Zs W u o→(∀v,Zs W v o→Q (.returned (.int .i64 (am x))) v)→Calls prog learn_amount.id #[.int .i64 x] u Q:=fun {u o Q} z hQ=>by
  refine (amount12_ok (by omega) (by omega) u).mono ?_
  rintro e v ⟨rfl,g⟩
  exact hQ v (z.grow g)
 have look: ∀ {u:World} {o:Option Nat},Zs W u o→(Instr.lookup ty_map_int_int (.map (some b1)) (.int .i64 (am x)) false).run prog u= .ok (.int .i64 (atM tr (am x))) u:=fun z=> (k2.S.M.grow z.g).look mapI_at (wf_am hB.isl)
 obtain ⟨aT,sT,eT,cT,e1,e2,vT⟩:=k2.S.tv _ hB.lt
 have hid:=idle_eqP (ld:=ld) ok hB.lt
 have hrea:=fun hr=>ok.reason hB.lt hr
 have ix: ∀ {P:Addr→Prop},(∀a,(∀ {u:World} {o:Option Nat},Zs W u o→CellsAt u a 0 [.int .i64 (nth tr (atN tr (am x))).lit,.int .i64 (nth tr (atN tr (am x))).lev,.slice sT.p sT.n sT.c])→P a)→ixK p n (IntKind.i64.wrap (atM tr (am x) - 1)) 3 P:=fun hP=>by
  rw [atM_wrap hl hB.lt]
  have hn:=k2.S.hn
  have hlt:=hB.lt
  refine ⟨aT,eT,by omega,by omega,hP _ fun z=> ?_⟩
  rw [Int.toNat_natCast]
  exact CellsAt.keep (k2.S.G.trans z.g) id cT
 generalize hrs:(nth tr (atN tr (am x))).rs=rs at*
 generalize hlt:(nth tr (atN tr (am x))).lit=x0 at*
 generalize hlev:(nth tr (atN tr (am x))).lev=y0 at*
 refine ⟨fun a v=> ∃nc,a=⟨nc,0,none⟩∧Has v nc #[.int .i64 x0,.int .i64 y0,.slice sT.p sT.n sT.c]∧Grow W v∧W.heap.size≤nc,⟨Grow W,Mod.refl _,_,rfl,_,_,_,fun u gu=>cell_add (k2.S.h.grow gu) rfl,_,rfl,_,fun u gu=>cell_add (k2.S.h.grow gu) rfl,?_⟩,?_⟩
 · have zn: ∀ {u:World},Grow W u→Zs W u none:=fun gu=> ⟨gu,fun nc e=>by simp at e⟩
   have st: ∀ {u:World} {nc:Nat},Zs W u (some nc)→∃v,StoreAt (Addr.mk nc 0 none) 0 [.int .i64 x0,.int .i64 y0,.slice sT.p sT.n sT.c] u v∧∃nc2,(Addr.mk nc 0 none)=⟨nc2,0,none⟩∧Has v nc2 #[.int .i64 x0,.int .i64 y0,.slice sT.p sT.n sT.c]∧Grow W v∧W.heap.size≤nc2:=fun z=>z.store fun v H g hf=> ⟨_,rfl,H,g,hf⟩
   refine ⟨am1 Z0 fun v z=> ⟨_,rfl,z.g,⟨v,_,look z,z.g,ix fun a ca=> ⟨_,_,_,_,_,fun u gu=>ca (zn gu),fun nc v2 hn=> ⟨(z.new hn).g,st (z.new hn)⟩⟩⟩,fun nc v2 hn=> ⟨(z.new hn).g,v2,_,look (z.new hn),(z.new hn).g,ix fun a ca=> ⟨_,_,_,_,_,fun u gu=>ca (zn gu),st (z.new hn)⟩⟩⟩,fun nc v2 hn=> ⟨(Z0.new hn).g,am1 (Z0.new hn) fun v z=> ⟨_,rfl,z.g,v,_,look z,z.g,ix fun a ca=> ⟨_,_,_,_,_,fun u gu=>ca (zn gu),st z⟩⟩⟩⟩
 rintro a_43 v _ ⟨nc,rfl,H,G,hf⟩
 obtain ⟨nk,s,K,_,_⟩:=k2.K
 have lk:=K.lt
 refine ⟨_,_,_,cell_add H rfl,_,_,_,cell_add H rfl,?_⟩
 refine ⟨fun is I u z=> ∃ (t:Nat) (h1:Int→Bool),I=t∧t≤rs.length∧z=rs.length - t∧is=(!rs.isEmpty && (rs.take t).all (idP tr ld x0))∧Kn W0 u ns p n c tr b1 b2 b3 ld h1∧(∀v,h v=true→h1 v=true)∧(∀v,h1 v=true→h v=true∨atN tr v<atN tr (am x))∧Has u nc #[.int .i64 x0,.int .i64 y0,.slice sT.p sT.n sT.c]∧Mod (·=b3) w u,
  ⟨_,0,h,rfl,Nat.zero_le _,rfl,?_,k2.grow G,fun v hv=>hv,fun v hv=> .inl hv,H,(G2.trans G).mono fun _ _ e=>e.elim⟩,?_⟩
 · rw [e1];cases rs<;>simp
 clear H G K
 rintro is I w28 z _ ⟨t,h1,rfl,ht,rfl,rfl,k1,hm1,hm2,H,mm⟩
 refine cnd_i (fun r=> ?_) (fun r=> ?_)
 · have r:t<rs.length:=by simp at r;omega
   have hne:rs≠[]:=fun e=>by rw [e] at r;simp at r
   obtain ⟨rl,rm,rb⟩:=hrea hne
   have hie:rs.isEmpty=false:=List.isEmpty_eq_false_iff.2 hne
   rw [hie]
   have et:(rs.take (t+1)).all (idP tr ld x0)=((rs.take t).all (idP tr ld x0) && idP tr ld x0 (rs.getD t 0)):=by
    have:rs[t]? =some (rs.getD t 0):=by simp [List.getD,r]
    rw [List.take_add_one,this,List.all_append];simp
   refine (vT.grow k1.S.G).ix 0 (by omega) e1 (by omega) fun a e=> ⟨_,e,?_⟩
   rw [Int.toNat_natCast]
   refine ⟨fun v u=>u=w28∧v=((rs.take t).all (idP tr ld x0) && (rs.getD t 0 !=x0)),?_,?_⟩
   · refine cnd_i (fun r2=> ⟨_,cell_add H rfl,rfl,?_⟩) (fun r2=> ⟨rfl,?_⟩)
     · have r2:(rs.take t).all (idP tr ld x0)=true:=by simpa using r2
       rw [r2];rfl
     · have r2:(rs.take t).all (idP tr ld x0)=false:=by simpa using r2
       rw [r2];rfl
   rintro v57 w58 _ ⟨rfl,rfl⟩
   refine cnd_i (fun r3=> ?_) (fun r3=> ⟨_,?_,t+1,h1,wN (by omega) (by omega),by omega,rfl,?_,k1,hm1,hm2,H,mm⟩)
   · rw [Bool.and_eq_true] at r3
     obtain ⟨r2,r3⟩:=r3
     rw [r2] at et
     have nxt: ∀ {u:World},Grow w58 u→idP tr ld x0 (rs.getD t 0)=true→∃k25,k25<rs.length - t∧∃ (t2:Nat) (h1:Int→Bool),IntKind.i64.wrap ((t:Int)+1)=t2∧t2≤rs.length∧k25=rs.length - t2∧true=(!false && (rs.take t2).all (idP tr ld x0))∧Kn W0 u ns p n c tr b1 b2 b3 ld h1∧(∀v,h v=true→h1 v=true)∧(∀v,h1 v=true→h v=true∨atN tr v<atN tr (am x))∧Has u nc #[.int .i64 x0,.int .i64 y0,.slice sT.p sT.n sT.c]∧Mod (·=b3) w u:=fun g hp=>
      ⟨_,by omega,t+1,h1,wN (by omega) (by omega),by omega,rfl,by rw [et,hp];rfl,k1.grow g,hm1,hm2,H.grow g,mm.grow g⟩
     have r3:rs.getD t 0≠x0:=by simpa using r3
     obtain ⟨hBy,hlty⟩:=rb _ (mem_getD r) r3
     have hlv:=lv_bd ok hl hBy
     refine (level_ok k1.S hBy).mono ?_
     rintro e w32 ⟨rfl,g32⟩
     refine ⟨_,rfl,cnd_i (fun r4=>nxt g32 (by unfold idP;rw [decide_eq_true (show lv tr (rs.getD t 0)≤0 by have:=beq_iff_eq.1 r4;omega)];simp)) (fun r4=> ?_)⟩
     have k32:=k1.grow g32
     obtain ⟨nb,s2,M2,hs2⟩:=k32.M
     have hlk:=M2.look mapB_in (wf_lit hBy.isl)
     rw [hs2] at hlk
     refine ⟨_,rfl,_,cell_add k32.S.h rfl,w32,_,hlk,cnd_i (fun r5=>nxt g32 (by unfold idP;rw [r5];simp)) (fun r5=> ?_)⟩
     refine (ih _ hlty k32 hBy rfl).mono ?_
     rintro e w38 ⟨rfl,h2,k38,hn1,hn2,m38⟩
     have hsz:=G2.size
     refine ⟨_,rfl,_,?_,t+1,h2,wN (by omega) (by omega),by omega,rfl,?_,k38,fun v hv=>hn1 v (hm1 v hv),fun v hv=> ?_,(H.grow g32).keep m38 fun (e:nc=b3)=>by omega,(mm.grow g32).trans m38⟩
     · omega
     · rw [et]
       unfold idP
       rw [show (rs.getD t 0==x0)=false by simpa using r3,decide_eq_false (show ¬lv tr (rs.getD t 0)≤0 by have:=beq_eq_false_iff_ne.1 r4;omega),r5];simp
     · rcases hn2 v hv with e|e
       · exact hm2 v e
       · exact .inr (by omega)
   · omega
   · rw [et]
     cases e:(rs.take t).all (idP tr ld x0) with
     |false=>rfl
     |true=>
      rw [e] at r3
      have r4:rs.getD t 0=x0:=by simpa using r3
      rw [r4]
      unfold idP
      simp
 · have r:t=rs.length:=by simp at r;omega
   subst r
   rw [List.take_length,← hid]
   refine (amount12_ok (by omega) (by omega) w28).mono ?_
   rintro e w40 ⟨rfl,g40⟩
   have h0:h1 (am x)=false:=by
    cases e:h1 (am x) with
    |false=>rfl
    |true=>
     rcases hm2 _ e with e|e
     · rw [rK] at e;simp at e
     · omega
   obtain ⟨w42,hr,k42,m42⟩:=(k1.grow g40).put hB h0
   refine ⟨_,rfl,w42,hr,rfl,_,k42,fun v hv=> ?_,fun v hv=> ?_,(mm.grow g40).trans m42⟩
   · show (if v=am x then true else h1 v)=true
     split
     · rfl
     · exact hm1 v hv
   · by_cases e:v=am x
     · right;rw [e];exact Nat.le_refl _
     · have hv:(if v=am x then true else h1 v)=true:=hv
       rw [if_neg e] at hv
       rcases hm2 v hv with e|e
       · exact .inl e
       · right;omega
end
section
variable {W0 w w' W u:World} {p q:Option Addr} {n c m d ns b1 b2 b3 nb:Nat} {tr:List As} {l ld:List Int} {s h:Int→Bool}
theorem Kn.keep {S:Nat→Prop} (k:Kn W0 w ns p n c tr b1 b2 b3 ld h) (m:Mod S w w') (h0: ∀b,S b→W0.heap.size≤b) (h1: ¬S ns) (h2: ¬S b1) (h3: ¬S b2) (h4: ¬S b3):Kn W0 w' ns p n c tr b1 b2 b3 ld h:=by
 obtain ⟨S,⟨nb,s,M,hs⟩,⟨nk,s2,K,hk,hi⟩,d1,d2,d3,f⟩:=k
 exact ⟨S.keep m h0 h1 h2,⟨nb,s,M.keep m h3,hs⟩,⟨nk,s2,K.keep m h4,hk,hi⟩,d1,d2,d3,f⟩
def sh (tr:List As) (ld:List Int):List Int→List Int
 | []=> []
 |x::t=>x::t.filter fun y=>decide (0<lv tr y) && !idle tr ld y
theorem sh_all:sh tr ld ld=shr tr ld:=by cases ld<;>rfl
theorem sh_succ {k:List Int} {t:Nat} (h:t<k.length):sh tr ld (k.take (t+1))=sh tr ld (k.take t)++ (if t=0∨(decide (0<lv tr (k.getD t 0)) && !idle tr ld (k.getD t 0))=true then [k.getD t 0] else []):=by
 cases k with
 |nil=>simp at h
 |cons x k=>
  cases t with
  |zero=>simp [sh]
  |succ t=>
   have h':t<k.length:=by simpa using h
   have e:(x::k).getD (t+1) 0=k.getD t 0:=by simp
   rw [e,List.take_succ_cons,List.take_succ_cons]
   show x::_=(x::_)++_
   rw [filter_succ h',List.cons_append]
   congr 2
   by_cases hc:(decide (0<lv tr (k.getD t 0)) && !idle tr ld (k.getD t 0))=true
   · rw [if_pos hc,if_pos (.inr hc)]
   · rw [if_neg hc,if_neg (by rintro (e|e);omega;exact hc e)]
theorem sh_len (k:List Int):(sh tr ld k).length≤k.length:=by
 cases k with
 |nil=>exact Nat.le_refl _
 |cons x t=>simp [sh];exact List.length_filter_le _ _
def SInv (w w17:World) (n13:Nat) (p:Option Addr) (n c:Nat) (tr:List As) (b n11 n16:Nat) (ld:List Int) (P:Option Addr) (N C:Nat) (I:Int) (u:World) (z:Nat):Prop:=
 ∃ (t:Nat) (h:Int→Bool),I=t∧t≤ld.length∧z=ld.length - t∧N=(sh tr ld (ld.take t)).length∧OwI ty_int u P C (sh tr ld (ld.take t))∧(∀b,blk P=some b→w17.heap.size≤b)∧Kn w u n13 p n c tr b n11 n16 ld h∧w17.heap.size≤u.heap.size
theorem learnShorten_ok (h:TV w p tr) (hn:n=tr.length) (hmay:mayT tr=true) (hq:Vw (Value.int .i64) w q ld) (hk:m=ld.length) (hx:m≤100000) (hb: ∀x∈ld,Br1 tr x):
 Calls prog learn_Shorten.id #[.slice p n c,.slice q m d] w fun e w'=> ∃ (q2:Option Addr) (d2:Nat),e= .returned (.slice q2 (shr tr ld).length d2)∧OwI ty_int w' q2 d2 (shr tr ld)∧Grow w w'∧∀b,blk q2=some b→w.heap.size≤b:=by
 refine learn_Shorten.calls ?_
 obtain ⟨ok,hl⟩:=mayT_ok hmay
 refine (sound_ok h hn).mono ?_
 rintro e w1 ⟨rfl,g1⟩
 refine ⟨_,rfl,cnd_f (by rw [hmay];rfl) ?_⟩
 refine (breaks_ok (h.grow g1) hn ok hl (hq.grow g1) hk (by unfold maxLen;omega) fun x hx=> (hb x hx).isl).mono ?_
 rintro e w5 ⟨rfl,g5⟩
 refine ⟨_,rfl,cnd_f (by rw [brk_iff.2 hb];rfl) ?_⟩
 have G5:=g1.trans g5
 refine (places_ok (h.grow G5) hn ok hl).mono ?_
 rintro e w9 ⟨b,rfl,M9,g9,fb⟩
 refine ⟨_,rfl,fun n11 w12 h12 n13 w14 h14=> ?_⟩
 have e11:=h12.num
 have e13:=h14.num
 have s5:=G5.size
 have s9:=g9.size
 have s12:=h12.size
 have s14:=h14.size
 have lb:=M9.lt
 have S14:Stu w w14 n13 p n c tr b n11:=⟨h,hn,ok,hl,((G5.trans g9).trans h12.mod).trans h14.mod,h14.has,(M9.grow h12.mod).grow h14.mod,by omega,by omega,by omega⟩
 have M14:MS prog ty_int ty_bool w14 n11 0 fun _=>false:=(MS.new h12).grow h14.mod
 refine (add_ok S14 M14 hq hk (by omega) (fun x hx=> (hb x hx).isl) 0).mono ?_
 rintro e w15 ⟨rfl,S15,nb15,s15,_,M15,hs15⟩
 refine ⟨rfl,fun n16 w17 h17=> ?_⟩
 have e16:=h17.num
 have s17:=h17.size
 have l15:=M15.lt
 have lb15:=S15.M.lt
 have ln15:=S15.h.lt
 have sG:=S15.G.size
 have k17:Kn w w17 n13 p n c tr b n11 n16 ld fun _=>false:=by
  refine ⟨S15.grow h17.mod,⟨nb15,s15,M15.grow h17.mod,fun x=> ?_⟩,⟨0,_,MK.new h17,Nat.zero_le _,fun x _ e=>by simp at e⟩,by omega,by omega,by omega,by omega⟩
  rw [hs15 x,Bool.false_or]
  refine decide_eq_decide.2 ⟨fun h=>h.1,fun h=> ⟨h,fun e=> ?_⟩⟩
  have:=litB_bd (hb x h).isl
  exact this.1 e
 refine ⟨SInv w w17 n13 p n c tr b n11 n16 ld,⟨_,0,_,rfl,Nat.zero_le _,rfl,rfl,Ow.nil _ _ _,fun b hb=>by simp [blk] at hb,k17,Nat.le_refl _⟩,?_⟩
 rintro P N C I w23 z _ ⟨t,hh,rfl,ht,rfl,rfl,O,fr,K,z23⟩
 refine cnd_i (fun r=> ?_) (fun r=> ?_)
 · have r:t<ld.length:=by simp at r;omega
   have hlen:=sh_len (tr:=tr) (ld:=ld) (ld.take t)
   have hlt:=List.length_take_le t ld
   refine (hq.grow K.S.G).ix 0 (by omega) hk (by omega) fun a e=> ⟨_,e,?_⟩
   rw [Int.toNat_natCast]
   have hB:=hb _ (mem_getD r)
   have es:=sh_succ (tr:=tr) (ld:=ld) r
   have lk23:=K.S.h.lt
   have app: ∀ {u:World} {hh:Int→Bool},OwI ty_int u P C (sh tr ld (ld.take t))→Kn w u n13 p n c tr b n11 n16 ld hh→w17.heap.size≤u.heap.size→(t=0∨(decide (0<lv tr (ld.getD t 0)) && !idle tr ld (ld.getD t 0))=true)→∀n26 w27,New (.cells #[.int .i64 (ld.getD t 0)] 3) u n26 w27→
    ∃w28 r29p r29n r29c,(Builtin.append_ #[ty_sl_int,ty_sl_int] ty_sl_int #[.slice P (sh tr ld (ld.take t)).length C,.slice (some (Addr.mk n26 0 none)) 1 1]).run prog w27= .ok (.slice r29p r29n r29c) w28∧
    ∃k20,k20<ld.length - t∧SInv w w17 n13 p n c tr b n11 n16 ld r29p r29n r29c (IntKind.i64.wrap ((t:Int)+ (1:Int))) w28 k20:=by
    intro u hh O K zu hc n26 w27 h27
    rw [if_pos hc] at es
    have e26:=h27.num
    have s27:=h27.size
    refine (O.grow h27.mod).app1 sl_int _ h27.has rfl rfl oneInt (by omega) fun w28 p' c' o' m' hp' hs'=> ?_
    refine ⟨_,?_,t+1,hh,wN (by omega) (by omega),by omega,rfl,by rw [es,List.length_append];rfl,by rw [es];exact o',fun b hb=> ?_,(K.grow h27.mod).keep m' (fun b e=> ?_) (fun e=> ?_) (fun e=> ?_) (fun e=> ?_) (fun e=> ?_),by omega⟩
    · omega
    · rcases hp' with rfl|rfl
      · exact fr b hb
      · have:=blk_some hb;omega
    all_goals
     have:=fr _ e
     omega
   have skip: ∀ {u:World} {hh:Int→Bool},OwI ty_int u P C (sh tr ld (ld.take t))→Kn w u n13 p n c tr b n11 n16 ld hh→w17.heap.size≤u.heap.size→¬(t=0∨(decide (0<lv tr (ld.getD t 0)) && !idle tr ld (ld.getD t 0))=true)→
    ∃k20,k20<ld.length - t∧SInv w w17 n13 p n c tr b n11 n16 ld P (sh tr ld (ld.take t)).length C (IntKind.i64.wrap ((t:Int)+ (1:Int))) u k20:=by
    intro u hh O K zu hc
    rw [if_neg hc,List.append_nil] at es
    exact ⟨_,by omega,t+1,hh,wN (by omega) (by omega),by omega,rfl,by rw [es],by rw [es];exact O,fr,K,zu⟩
   refine cnd_i (fun r2=>app O K z23 (.inl (by simp at r2;omega))) (fun r2=> ?_)
   have r2:t≠0:=by intro e;subst e;simp at r2
   refine (level_ok K.S hB).mono ?_
   rintro e w30 ⟨rfl,g30⟩
   have s30:=g30.size
   refine ⟨_,rfl,cnd_i (fun r3=> ?_) (fun r3=>skip (O.grow g30) (K.grow g30) (by omega) fun e=>by rcases e with e|e;exact r2 e;rw [Bool.and_eq_true] at e;rw [e.1] at r3;simp at r3)⟩
   refine (idleP_ok _ (K.grow g30) hB rfl).mono ?_
   rintro e w32 ⟨rfl,h2,k32,_,_,m32⟩
   have s32:=m32.size
   have O32:=(O.grow g30).keep m32 fun b hb (e:b=n16)=>by have:=fr b hb;omega
   refine ⟨_,rfl,cnd_i (fun r4=>app O32 k32 (by omega) (.inr ?_)) (fun r4=>skip O32 k32 (by omega) fun e=> ?_)⟩
   · rw [Bool.and_eq_true];exact ⟨r3,r4⟩
   · rcases e with e|e
     · exact r2 e
     · rw [Bool.and_eq_true] at e;rw [e.2] at r4;simp at r4
 · have r:t=ld.length:=by simp at r;omega
   subst r
   rw [List.take_length,sh_all] at O ⊢
   exact ⟨_,_,rfl,O,K.S.G,fun b hb=>by have:=fr b hb;omega⟩
theorem imax_mx {k:List Int} {t:Nat} (h:t<k.length):imax (mxL tr (k.take t)) (lv tr (k.getD t 0))=mxL tr (k.take (t+1)):=by
 rw [mxL_succ h];rfl
theorem learnBack_ok (h:TV w p tr) (hn:n=tr.length) (hmay:mayT tr=true) (hq:Vw (Value.int .i64) w q ld) (hk:m=ld.length) (hx:m≤100000) (hd:m≤d) (hb: ∀x∈ld,Br1 tr x):
 Calls prog learn_Back.id #[.slice p n c,.slice q m d] w fun e w'=>e= .returned (.int .i64 (if ld.isEmpty then -1 else mxL tr (ld.drop 1)))∧Grow w w':=by
 refine learn_Back.calls ?_
 obtain ⟨ok,hl⟩:=mayT_ok hmay
 refine (sound_ok h hn).mono ?_
 rintro e w1 ⟨rfl,g1⟩
 refine ⟨_,rfl,cnd_f (by rw [hmay];rfl) (cnd_i (fun r=> ?_) (fun r=> ?_))⟩
 · have:ld= []:=List.eq_nil_of_length_eq_zero (by simp at r;omega)
   subst this
   exact ⟨rfl,g1⟩
 have hpos:0<ld.length:=by
  rcases Nat.eq_zero_or_pos ld.length with e|e
  · rw [hk,e] at r;simp at r
  · exact e
 refine (breaks_ok (h.grow g1) hn ok hl (hq.grow g1) hk (by unfold maxLen;omega) fun x hx=> (hb x hx).isl).mono ?_
 rintro e w3 ⟨rfl,g3⟩
 refine ⟨_,rfl,cnd_f (by rw [brk_iff.2 hb];rfl) ?_⟩
 have G3:=g1.trans g3
 refine (places_ok (h.grow G3) hn ok hl).mono ?_
 rintro e w5 ⟨b,rfl,M5,g5,fb⟩
 refine ⟨_,rfl,slK_i 1 m d rfl rfl rfl (Nat.le_refl _) hd (by omega) ?_⟩
 have hie:ld.isEmpty=false:=by cases ld<;>simp at hpos ⊢
 rw [hie]
 have G5:=G3.trans g5
 have ldl:(ld.drop 1).length=m - 1:=by rw [List.length_drop];omega
 have V5:Vw (Value.int .i64) w5 (if d=1 then q else q.map (·.add (1*1))) (ld.drop 1):=by
  by_cases e:d=1
  · have:ld.drop 1= []:=List.eq_nil_of_length_eq_zero (by omega)
    rw [this];exact Vw.nil
  · rw [if_neg e]
    have:=(hq.grow G5).part (i:=1) (m:=m - 1) (by omega)
    rwa [List.take_of_length_le (by omega)] at this
 refine ⟨fun L I u z=> ∃t:Nat,I=t∧t≤(ld.drop 1).length∧z=(ld.drop 1).length - t∧L=mxL tr ((ld.drop 1).take t)∧Grow w5 u,⟨_,0,rfl,Nat.zero_le _,rfl,rfl,Mod.refl _⟩,?_⟩
 rintro L I w13 z _ ⟨t,rfl,ht,rfl,rfl,G⟩
 refine cnd_i (fun r=> ?_) (fun r=> ?_)
 · have r:t< (ld.drop 1).length:=by simp at r ⊢;omega
   refine (V5.grow G).ix 0 (by omega) ldl.symm (by omega) fun a e=> ⟨_,e,?_⟩
   rw [Int.toNat_natCast]
   have hB:=hb _ (List.mem_of_mem_drop (mem_getD r))
   have hbd:=litB_bd hB.isl
   refine (amount12_ok (by omega) (by omega) w13).mono ?_
   rintro e w16 ⟨rfl,g16⟩
   refine ⟨_,rfl,w16,_,(M5.grow (G.trans g16)).look mapI_at (wf_am hB.isl),?_⟩
   rw [atM_wrap hl hB.lt]
   refine (h.grow ((G5.trans G).trans g16)).ix hn _ rfl hB.lt fun a x C e1 e2 v=> ⟨_,C.2.1,_,?_,t+1,wN (by omega) (by omega),by omega,rfl,?_,G.trans g16⟩
   · omega
   · exact imax_mx r
 · have r:t=(ld.drop 1).length:=by simp at r ht ⊢;omega
   subst r
   rw [List.take_length]
   exact ⟨rfl,G5.trans G⟩
theorem learnLevels_ok (h:TV w p tr) (hn:n=tr.length) (hmay:mayT tr=true) (hq:Vw (Value.int .i64) w q ld) (hk:m=ld.length) (hx:m≤100000) (hb: ∀x∈ld,Br1 tr x):
 Calls prog learn_Levels.id #[.slice p n c,.slice q m d] w fun e w'=> ∃v:Int,e= .returned (.int .i64 v)∧(0≤v∧v≤m)∧Grow w w':=by
 refine learn_Levels.calls ?_
 obtain ⟨ok,hl⟩:=mayT_ok hmay
 refine (sound_ok h hn).mono ?_
 rintro e w1 ⟨rfl,g1⟩
 refine ⟨_,rfl,cnd_f (by rw [hmay];rfl) ?_⟩
 refine (places_ok (h.grow g1) hn ok hl).mono ?_
 rintro e w3 ⟨b,rfl,M3,g3,fb⟩
 refine ⟨_,rfl,fun n5 w6 h6=> ?_⟩
 have s1:=g1.size
 have s3:=g3.size
 have e5:=h6.num
 have lb:=M3.lt
 refine ⟨fun I u z=> ∃ (t nb:Nat) (s:Int→Bool),I=t∧t≤ld.length∧z=ld.length - t∧nb≤t∧MS prog ty_int ty_bool u n5 nb s∧MI prog ty_int ty_int u b tr.length (atM tr)∧Grow w u,⟨_,0,0,_,rfl,Nat.zero_le _,rfl,Nat.le_refl _,MS.new h6,M3.grow h6.mod,(g1.trans g3).trans h6.mod⟩,?_⟩
 rintro I w11 z _ ⟨t,nb,s,rfl,ht,rfl,hnb,M,Mb,G⟩
 refine cnd_i (fun r=> ?_) (fun r=> ?_)
 · have r:t<ld.length:=by simp at r;omega
   refine (hq.grow G).ix 0 (by omega) hk (by omega) fun a e=> ⟨_,e,?_⟩
   rw [Int.toNat_natCast]
   have hB:=hb _ (mem_getD r)
   have hbd:=litB_bd hB.isl
   refine (amount12_ok (by omega) (by omega) w11).mono ?_
   rintro e w14 ⟨rfl,g14⟩
   have hlv:=lv_bd ok hl hB
   refine ⟨_,rfl,w14,_,(Mb.grow g14).look mapI_at (wf_am hB.isl),cnd_i (fun r2=> ?_) (fun r2=> ?_)⟩
   · rw [atM_wrap hl hB.lt]
     refine (h.grow (G.trans g14)).ix hn _ rfl hB.lt fun a x C e1 e2 v=> ⟨_,C.2.1,?_⟩
     obtain ⟨w20,hr,M20,m20⟩:=(M.grow g14).put mapB_in (by unfold maxLen;omega) (a:=(nth tr (atN tr (am (ld.getD t 0)))).lev) (wf64 (by unfold lv at hlv;omega) (by unfold lv at hlv;omega))
     refine ⟨w20,hr,_,?_,t+1,nb+1,_,wN (by omega) (by omega),by omega,rfl,by omega,M20,(Mb.grow g14).keep m20 fun (e:b=n5)=>by omega,Mod.fresh (G.trans g14) m20 (by omega)⟩
     omega
   · exact ⟨_,by omega,t+1,nb,s,wN (by omega) (by omega),by omega,rfl,by omega,M.grow g14,Mb.grow g14,G.trans g14⟩
 · have r:t=ld.length:=by simp at r;omega
   obtain ⟨c',hc',hr⟩:=M.len mapB_in 3
   exact ⟨_,hr,_,rfl,⟨by omega,by omega⟩,G⟩
end
end Go.Proofs.YtddffgjagppimaaGreat.W.Le
