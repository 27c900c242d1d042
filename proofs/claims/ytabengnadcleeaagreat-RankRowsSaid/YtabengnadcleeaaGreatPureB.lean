/- What a broken clause teaches, plain: trails, and what is learned. -/
import Derived.Test.YtabengnadcleeaaGreatPureA
namespace Go.LeP
open Go.SoP Go.LiP
section
structure As where
 lit:Int
 lev:Int
 rs:List Int
def d0:As:=⟨0,0,[]⟩
def nth (tr:List As) (i:Nat):As:=tr.getD i d0
def isL (l:Int):Bool:=decide (l≠0∧ -1048576≤l∧l≤1048576)
def wo (l:List Int) (x:Int):List Int:=l.filter fun y=>y !=x
theorem mem_wo {l:List Int} {x y:Int}:y∈wo l x↔y∈l∧y≠x:=by
 unfold wo;rw [List.mem_filter];simp
def atN:List As→Int→Nat
 | [],_=>0
 |a::t,v=>if am a.lit=v then 0 else atN t v+1
theorem atN_hit: ∀ {tr:List As} {v:Int},atN tr v<tr.length→am (nth tr (atN tr v)).lit=v
 | [],_,h=>by simp at h
 |a::t,v,h=>by
  unfold atN at h ⊢
  split
  · rename_i e;exact e
  · rename_i e
    rw [if_neg e] at h
    have:=atN_hit (tr:=t) (v:=v) (by simpa using h)
    simpa [nth,List.getD] using this
theorem atN_miss: ∀ {tr:List As} {v:Int} {j:Nat},j<atN tr v→am (nth tr j).lit≠v
 | [],_,_,h=>by simp [atN] at h
 |a::t,v,j,h=>by
  unfold atN at h
  split at h
  · omega
  · rename_i e
    cases j with
    |zero=>exact e
    |succ j=>
     have:=atN_miss (tr:=t) (v:=v) (j:=j) (by omega)
     simpa [nth,List.getD] using this
theorem atN_eq {tr:List As} {v:Int} {i:Nat} (hi:i<tr.length) (h:am (nth tr i).lit=v) (hm: ∀j,j<i→am (nth tr j).lit≠v):atN tr v=i:=by
 rcases Nat.lt_trichotomy (atN tr v) i with e|e|e
 · exact absurd (atN_hit (by omega)) (hm _ e)
 · exact e
 · exact absurd h (atN_miss e)
theorem nth_take {tr:List As} {i j:Nat} (h:j<i):nth (tr.take i) j=nth tr j:=by
 unfold nth
 simp only [List.getD_eq_getElem?_getD,List.getElem?_take]
 rw [if_pos h]
theorem atN_take {tr:List As} {v:Int} {i:Nat} (hi:i≤tr.length):(atN (tr.take i) v<i↔atN tr v<i)∧(atN tr v<i→atN (tr.take i) v=atN tr v):=by
 have hl:(tr.take i).length=i:=by rw [List.length_take];omega
 have key:atN tr v<i→atN (tr.take i) v=atN tr v:=fun h=>by
  refine atN_eq (by omega) ?_ fun j hj=> ?_
  · rw [nth_take h];exact atN_hit (by omega)
  · rw [nth_take (by omega)];exact atN_miss hj
 refine ⟨⟨fun h=> ?_,fun h=>by rw [key h];exact h⟩,key⟩
 have h1:=atN_hit (tr:=tr.take i) (v:=v) (by omega)
 rw [nth_take h] at h1
 rcases Nat.lt_or_ge (atN tr v) i with e|e
 · exact e
 · exact absurd h1 (atN_miss (by omega))
def brk (tr:List As) (c:List Int):Bool:=c.all fun l=>isL l && decide (atN tr (am l)<tr.length) && ((nth tr (atN tr (am l))).lit== -l)
def prev (tr:List As) (i:Nat):Int:=if i=0 then 0 else (nth tr (i - 1)).lev
def okT (tr:List As) (i:Nat):Bool:=
 isL (nth tr i).lit && decide (¬atN (tr.take i) (am (nth tr i).lit)<i) && decide (prev tr i≤(nth tr i).lev∧(nth tr i).lev≤prev tr i+1) &&
  (if (nth tr i).lev>prev tr i then (nth tr i).rs.isEmpty else decide ((nth tr i).rs.length≤256) && decide ((nth tr i).lit∈(nth tr i).rs) && brk (tr.take i) (wo (nth tr i).rs (nth tr i).lit))
def mayT (tr:List As):Bool:=decide (tr.length≤4096) && (List.range tr.length).all (okT tr)
structure Br1 (tr:List As) (l:Int):Prop where
 isl:isL l=true
 lt:atN tr (am l)<tr.length
 eq:(nth tr (atN tr (am l))).lit= -l
theorem brk_iff {tr:List As} {c:List Int}:brk tr c=true↔∀l∈c,Br1 tr l:=by
 unfold brk
 rw [List.all_eq_true]
 constructor
 · intro h l hl
   have:=h l hl
   simp only [Bool.and_eq_true,decide_eq_true_eq,beq_iff_eq] at this
   exact ⟨this.1.1,this.1.2,this.2⟩
 · intro h l hl
   obtain ⟨h1,h2,h3⟩:=h l hl
   simp only [Bool.and_eq_true,decide_eq_true_eq,beq_iff_eq]
   exact ⟨⟨h1,h2⟩,h3⟩
structure TrOk (tr:List As):Prop where
 isl: ∀i,i<tr.length→isL (nth tr i).lit=true
 uq: ∀i j,i<j→j<tr.length→am (nth tr i).lit≠am (nth tr j).lit
 lo: ∀i,i<tr.length→prev tr i≤(nth tr i).lev
 hi: ∀i,i<tr.length→(nth tr i).lev≤prev tr i+1
 dec: ∀i,i<tr.length→prev tr i< (nth tr i).lev→(nth tr i).rs= []
 rea: ∀i,i<tr.length→¬prev tr i< (nth tr i).lev→(nth tr i).rs.length≤256∧(nth tr i).lit∈(nth tr i).rs∧∀x∈(nth tr i).rs,x≠(nth tr i).lit→Br1 tr x∧atN tr (am x)<i
theorem mayT_ok {tr:List As} (h:mayT tr=true):TrOk tr∧tr.length≤4096:=by
 unfold mayT at h
 simp only [Bool.and_eq_true,decide_eq_true_eq,List.all_eq_true,List.mem_range] at h
 obtain ⟨hl,h⟩:=h
 have H: ∀i,i<tr.length→isL (nth tr i).lit=true∧¬atN (tr.take i) (am (nth tr i).lit)<i∧(prev tr i≤(nth tr i).lev∧(nth tr i).lev≤prev tr i+1)∧
  (if (nth tr i).lev>prev tr i then (nth tr i).rs.isEmpty else decide ((nth tr i).rs.length≤256) && decide ((nth tr i).lit∈(nth tr i).rs) && brk (tr.take i) (wo (nth tr i).rs (nth tr i).lit))=true:=by
  intro i hi
  have:=h i hi
  unfold okT at this
  simp only [Bool.and_eq_true,decide_eq_true_eq] at this
  exact ⟨this.1.1.1,this.1.1.2,this.1.2,this.2⟩
 refine ⟨⟨fun i hi=> (H i hi).1,fun i j hij hj e=> ?_,fun i hi=> (H i hi).2.2.1.1,fun i hi=> (H i hi).2.2.1.2,fun i hi hd=> ?_,fun i hi hd=> ?_⟩,hl⟩
 · have h1:=(H j hj).2.1
   rw [(atN_take (by omega)).1] at h1
   exact atN_miss (tr:=tr) (v:=am (nth tr j).lit) (j:=i) (by omega) e
 · have:=(H i hi).2.2.2
   rw [if_pos hd] at this
   simpa using this
 · have:=(H i hi).2.2.2
   rw [if_neg (by omega)] at this
   simp only [Bool.and_eq_true,decide_eq_true_eq] at this
   refine ⟨this.1.1,this.1.2,fun x hx hne=> ?_⟩
   have hb:=brk_iff.1 this.2 x (mem_wo.2 ⟨hx,hne⟩)
   have hlt:=hb.lt
   rw [List.length_take,Nat.min_eq_left (by omega)] at hlt
   have h1:=(atN_take (v:=am x) (by omega)).1.1 hlt
   have h2:=(atN_take (v:=am x) (by omega)).2 h1
   refine ⟨⟨hb.isl,by omega,?_⟩,h1⟩
   have:=hb.eq
   rw [h2,nth_take h1] at this
   exact this
theorem TrOk.mono {tr:List As} (h:TrOk tr): ∀ {i j:Nat},i≤j→j<tr.length→(nth tr i).lev≤(nth tr j).lev:=by
 intro i j hij hj
 induction j with
 |zero=>rw [show i=0 by omega];exact Int.le_refl _
 |succ j ih=>
  by_cases e:i=j+1
  · rw [e];exact Int.le_refl _
  · have h1:=ih (by omega) (by omega)
    have h2:=h.lo (j+1) hj
    unfold prev at h2
    rw [if_neg (by omega),Nat.add_sub_cancel] at h2
    omega
theorem TrOk.nn {tr:List As} (h:TrOk tr) {i:Nat} (hi:i<tr.length):0≤(nth tr i).lev:=by
 have h1:=h.lo 0 (by omega)
 have h2:=h.mono (Nat.zero_le i) hi
 unfold prev at h1
 rw [if_pos rfl] at h1
 omega
theorem TrOk.le {tr:List As} (h:TrOk tr) {i:Nat} (hi:i<tr.length):(nth tr i).lev≤i+1:=by
 induction i with
 |zero=>
  have:=h.hi 0 hi
  unfold prev at this
  rw [if_pos rfl] at this
  simpa using this
 |succ i ih=>
  have h1:=ih (by omega)
  have h2:=h.hi (i+1) hi
  unfold prev at h2
  rw [if_neg (by omega),Nat.add_sub_cancel] at h2
  omega
theorem TrOk.at {tr:List As} (h:TrOk tr) {i:Nat} (hi:i<tr.length):atN tr (am (nth tr i).lit)=i:=
 atN_eq hi rfl fun j hj=>h.uq j i hj hi
theorem am_neg (x:Int):am (-x)=am x:=by unfold am;split<;>split<;>omega
theorem isL_neg {x:Int} (h:isL x=true):isL (-x)=true:=by
 unfold isL at*
 simp only [decide_eq_true_eq] at*
 omega
theorem TrOk.first {tr:List As} (h:TrOk tr) {i:Nat} (hi:i<tr.length) (hr:(nth tr i).rs= []):0< (nth tr i).lev∧∀j,j<i→(nth tr j).lev< (nth tr i).lev:=by
 have hd:prev tr i< (nth tr i).lev:=by
  by_cases e:prev tr i< (nth tr i).lev
  · exact e
  · have:=(h.rea i hi e).2.1
    rw [hr] at this;simp at this
 unfold prev at hd
 split at hd
 · rename_i e
   exact ⟨hd,fun j hj=>by omega⟩
 · have:=h.nn (i:=i - 1) (by omega)
   refine ⟨by omega,fun j hj=> ?_⟩
   have:=h.mono (i:=j) (j:=i - 1) (by omega) (by omega)
   omega
theorem TrOk.reason {tr:List As} (h:TrOk tr) {i:Nat} (hi:i<tr.length) (hr:(nth tr i).rs≠[]):(nth tr i).rs.length≤256∧(nth tr i).lit∈(nth tr i).rs∧∀x∈(nth tr i).rs,x≠(nth tr i).lit→Br1 tr x∧atN tr (am x)<i:=
 h.rea i hi fun e=>hr (h.dec i hi e)
def lv (tr:List As) (l:Int):Int:=(nth tr (atN tr (am l))).lev
theorem TrOk.lv_at {tr:List As} (h:TrOk tr) {i:Nat} (hi:i<tr.length):lv tr (-(nth tr i).lit)=(nth tr i).lev∧lv tr (nth tr i).lit=(nth tr i).lev:=by
 unfold lv
 rw [am_neg,h.at hi]
 exact ⟨rfl,rfl⟩
theorem Br1.same {tr:List As} {x y:Int} (hx:Br1 tr x) (hy:Br1 tr y) (h:atN tr (am x)=atN tr (am y)):x=y:=by
 have h1:=hx.eq
 have h2:=hy.eq
 rw [h,h2] at h1
 omega
theorem Br1.am {tr:List As} {x y:Int} (hx:Br1 tr x) (hy:Br1 tr y) (h:am x=am y):x=y:=hx.same hy (by rw [h])
def cntL (tr:List As) (c:List Int) (L:Int):Nat:=c.countP fun x=>lv tr x==L
def stepN (tr:List As) (i:Nat) (c:List Int):List Int:=norm (wo c (-(nth tr i).lit)++wo (nth tr i).rs (nth tr i).lit)
def lrn (tr:List As) (L:Int):Nat→List Int→List Int
 |0,c=>c
 |i+1,c=>if cntL tr c L=0∨cntL tr c L=1∧0<L then c else if (nth tr i).lev=L∧ -(nth tr i).lit∈c then lrn tr L i (stepN tr i c) else lrn tr L i c
theorem stepN_mem {tr:List As} {i:Nat} {c:List Int} {x:Int}:x∈stepN tr i c↔x∈c∧x≠ -(nth tr i).lit∨x∈(nth tr i).rs∧x≠(nth tr i).lit:=by
 unfold stepN
 rw [(norm_isN _).mem,List.mem_append,mem_wo,mem_wo]
theorem lrn_skip {tr:List As} {L:Int} {c:List Int} {p:Nat}: ∀ {k:Nat},p≤k→(∀i,p≤i→i<k→¬((nth tr i).lev=L∧ -(nth tr i).lit∈c))→¬(cntL tr c L=0∨cntL tr c L=1∧0<L)→lrn tr L k c=lrn tr L p c
 |0,h,_,_=>by rw [show p=0 by omega]
 |k+1,h,hs,hn=>by
  by_cases e:p=k+1
  · rw [e]
  · rw [lrn,if_neg hn,if_neg (hs k (by omega) (by omega))]
    exact lrn_skip (by omega) (fun i h1 h2=>hs i h1 (by omega)) hn
theorem lrn_stop {tr:List As} {L:Int} {c:List Int} {k:Nat} (h:cntL tr c L=0∨cntL tr c L=1∧0<L):lrn tr L k c=c:=by
 cases k with
 |zero=>rfl
 |succ k=>rw [lrn,if_pos h]
structure In (tr:List As) (L:Int) (c:List Int) (k:Nat):Prop where
 br: ∀x∈c,Br1 tr x
 le: ∀x∈c,lv tr x≤L
 pl: ∀x∈c,lv tr x=L→atN tr (am x)<k
 top:c= []∨0<cntL tr c L
 nn:0≤L
 nd:Strict c
theorem cnt_pos {tr:List As} {L:Int} {c:List Int}:0<cntL tr c L↔∃x∈c,lv tr x=L:=by
 unfold cntL
 rw [List.countP_pos_iff]
 simp
theorem nodup_of_strict {c:List Int} (h:Strict c):c.Nodup:=h.imp fun {a b} hab e=>by subst e;exact bef_irr a hab
theorem cnt_two {tr:List As} {L:Int} {c:List Int} (hs:c.Nodup) {x:Int} (h:1<cntL tr c L): ∃y∈c,y≠x∧lv tr y=L:=by
 refine Classical.byContradiction fun hn=> ?_
 have:cntL tr c L≤c.countP (fun y=>y==x):=by
  refine List.countP_mono_left fun y hy hl=> ?_
  have hl:lv tr y=L:=by simpa using hl
  by_cases e:y=x
  · simp [e]
  · exact absurd ⟨y,hy,e,hl⟩ hn
 have h2:c.countP (fun y=>y==x)≤1:=List.nodup_iff_count.1 hs x
 omega
theorem In.step {tr:List As} (ok:TrOk tr) {L:Int} {c:List Int} {k p:Nat} (h:In tr L c k) (hn: ¬(cntL tr c L=0∨cntL tr c L=1∧0<L)) (hp:p<tr.length) (hpl:(nth tr p).lev=L) (hm: -(nth tr p).lit∈c) (hmax: ∀x∈c,lv tr x=L→atN tr (am x)≤p):
 In tr L (stepN tr p c) p∧lrn tr L k c=lrn tr L p (stepN tr p c)∧(nth tr p).rs≠[]∧p<k:=by
 have hpk:p<k:=by
  have:=h.pl _ hm (by rw [(ok.lv_at hp).1];exact hpl)
  rwa [am_neg,ok.at hp] at this
 have hrs:(nth tr p).rs≠[]:=by
  intro e
  obtain ⟨f1,f2⟩:=ok.first hp e
  have h1:1<cntL tr c L:=by omega
  obtain ⟨y,hy,hne,hly⟩:=cnt_two (nodup_of_strict h.nd) (x:= -(nth tr p).lit) h1
  have hle:=hmax y hy hly
  rcases Nat.lt_or_ge (atN tr (am y)) p with e2|e2
  · have:=f2 _ e2
    unfold lv at hly
    omega
  · refine hne ((h.br y hy).same (h.br _ hm) ?_)
    rw [am_neg,ok.at hp];omega
 obtain ⟨r1,r2,r3⟩:=ok.reason hp hrs
 have hbr: ∀x∈stepN tr p c,Br1 tr x:=by
  intro x hx
  rcases stepN_mem.1 hx with ⟨a,b⟩| ⟨a,b⟩
  · exact h.br x a
  · exact (r3 x a b).1
 have hle: ∀x∈stepN tr p c,lv tr x≤L:=by
  intro x hx
  rcases stepN_mem.1 hx with ⟨a,b⟩| ⟨a,b⟩
  · exact h.le x a
  · have:=(r3 x a b).2
    have:=ok.mono (i:=atN tr (am x)) (j:=p) (by omega) hp
    unfold lv;omega
 refine ⟨⟨hbr,hle,fun x hx hl=> ?_,?_,h.nn,(norm_isN _).st⟩,?_,hrs,hpk⟩
 · rcases stepN_mem.1 hx with ⟨a,b⟩| ⟨a,b⟩
   · have h1:=hmax x a hl
     rcases Nat.lt_or_ge (atN tr (am x)) p with e|e
     · exact e
     · exact absurd ((h.br x a).same (h.br _ hm) (by rw [am_neg,ok.at hp];omega)) b
   · exact (r3 x a b).2
 · by_cases e:cntL tr c L=1
   · have hL:L=0:=by
      have:=h.nn
      by_cases e2:0<L
      · exact absurd (.inr ⟨e,e2⟩) hn
      · omega
     cases hs:stepN tr p c with
     |nil=>exact .inl rfl
     |cons x t=>
      refine .inr (cnt_pos.2 ⟨x,by simp,?_⟩)
      have h1:=hle x (by rw [hs];simp)
      have h2:=ok.nn ((hbr x (by rw [hs];simp)).lt)
      have:lv tr x=(nth tr (atN tr (am x))).lev:=rfl
      omega
   · obtain ⟨y,hy,hne,hly⟩:=cnt_two (nodup_of_strict h.nd) (x:= -(nth tr p).lit) (L:=L) (tr:=tr) (c:=c) (by omega)
     exact .inr (cnt_pos.2 ⟨y,stepN_mem.2 (.inl ⟨hy,hne⟩),hly⟩)
 · rw [lrn_skip (p:=p+1) (k:=k) (by omega) (fun i h1 h2 hc=> ?_) hn,lrn,if_neg hn,if_pos ⟨hpl,hm⟩]
   have hi:i<tr.length:=by
    have:=(h.br _ hc.2).lt
    rcases Nat.lt_or_ge i tr.length with e|e
    · exact e
    · have hd:nth tr i=d0:=by
       unfold nth
       rw [List.getD_eq_getElem?_getD,List.getElem?_eq_none e];rfl
      have:=(h.br _ hc.2).isl
      rw [hd] at this
      exact absurd this (by decide)
   have:=hmax _ hc.2 (by rw [(ok.lv_at hi).1];exact hc.1)
   rw [am_neg,ok.at hi] at this
   omega
theorem In.end {tr:List As} (ok:TrOk tr) {L:Int}: ∀ {k:Nat} {c:List Int},In tr L c k→k≤tr.length→∃d k',lrn tr L k c=d∧In tr L d k'∧(d= []∧(L=0∨c= [])∨cntL tr d L=1∧0<L)
 |0,c,h,_=>by
  have h0:c= []:=by
   rcases h.top with e|e
   · exact e
   · obtain ⟨x,hx,hl⟩:=cnt_pos.1 e
     have:=h.pl x hx hl
     omega
  exact ⟨c,0,rfl,h,.inl ⟨h0,.inr h0⟩⟩
 |k+1,c,h,hk=>by
  by_cases hn:cntL tr c L=0∨cntL tr c L=1∧0<L
  · refine ⟨c,k+1,lrn_stop hn,h,?_⟩
    rcases hn with hn|hn
    · rcases h.top with e|e
      · exact .inl ⟨e,.inr e⟩
      · omega
    · exact .inr hn
  · by_cases e:(nth tr k).lev=L∧ -(nth tr k).lit∈c
    · obtain ⟨h1,h2,_,_⟩:=h.step ok hn (p:=k) (by omega) e.1 e.2 fun x hx hl=>by have:=h.pl x hx hl;omega
      obtain ⟨d,k',e1,e2,e3⟩:=h1.end ok (by omega)
      refine ⟨d,k',by rw [h2];exact e1,e2,?_⟩
      rcases e3 with ⟨a,b⟩|b
      · refine .inl ⟨a,?_⟩
        have:=h.nn
        by_cases hL:0<L
        ·
         obtain ⟨y,hy,hne,hly⟩:=cnt_two (nodup_of_strict h.nd) (x:= -(nth tr k).lit) (L:=L) (tr:=tr) (c:=c) (by omega)
         have hin:y∈stepN tr k c:=stepN_mem.2 (.inl ⟨hy,hne⟩)
         rcases b with b|b
         · omega
         · rw [b] at hin;simp at hin
        · exact .inl (by omega)
      · exact .inr b
    · have hsk:=lrn_skip (p:=k) (k:=k+1) (by omega) (fun i h1 h2=>by rw [show i=k by omega];exact e) hn
      have h':In tr L c k:=⟨h.br,h.le,fun x hx hl=>by
       have:=h.pl x hx hl
       rcases Nat.lt_or_ge (atN tr (am x)) k with e2|e2
       · exact e2
       · have ek:atN tr (am x)=k:=by omega
         refine absurd ⟨?_,?_⟩ e
         · rw [← ek];exact hl
         · rw [← ek,(h.br x hx).eq,Int.neg_neg];exact hx,h.top,h.nn,h.nd⟩
      rw [hsk]
      exact h'.end ok (by omega)
end
section
def cmpO (tr:List As) (a b:Int):Int:=if lv tr a≠lv tr b then lv tr b - lv tr a else am a - am b
theorem cmpO_ord (tr:List As):Ord (cmpO tr):=by
 constructor
 · intro x y h
   unfold cmpO at*
   split at h<;>split<;>omega
 · intro x y z h1 h2
   unfold Le cmpO at*
   split at h1<;>split at h2<;>split<;>omega
abbrev StrictO (tr:List As) (m:List Int):Prop:=m.Pairwise fun a b=>cmpO tr a b<0
theorem cmpO_irr (tr:List As) (a:Int): ¬cmpO tr a a<0:=by unfold cmpO;simp
theorem cmpO_trans {tr:List As} {a b c:Int} (h1:cmpO tr a b<0) (h2:cmpO tr b c<0):cmpO tr a c<0:=(cmpO_ord tr).lt_le h1 ((cmpO_ord tr).lt h2)
theorem strictO_eq {tr:List As}: ∀ {m k:List Int},StrictO tr m→StrictO tr k→(∀x,x∈m↔x∈k)→m=k
 | [],[],_,_,_=>rfl
 | [],y::k,_,_,h=>by have:=(h y).2 (by simp);simp at this
 |x::m,[],_,_,h=>by have:=(h x).1 (by simp);simp at this
 |x::m,y::k,h1,h2,h=>by
  have h1:=List.pairwise_cons.1 h1
  have h2:=List.pairwise_cons.1 h2
  have e:x=y:=by
   rcases List.mem_cons.1 ((h x).1 (by simp)) with e|e
   · exact e
   · rcases List.mem_cons.1 ((h y).2 (by simp)) with e'|e'
     · exact e'.symm
     · exact absurd (cmpO_trans (h1.1 y e') (h2.1 x e)) (cmpO_irr tr x)
  subst e
  congr 1
  refine strictO_eq h1.2 h2.2 fun z=> ?_
  constructor
  · intro hz
    rcases List.mem_cons.1 ((h z).1 (List.mem_cons_of_mem _ hz)) with e|e
    · subst e;exact absurd (h1.1 z hz) (cmpO_irr tr z)
    · exact e
  · intro hz
    rcases List.mem_cons.1 ((h z).2 (List.mem_cons_of_mem _ hz)) with e|e
    · subst e;exact absurd (h2.1 z hz) (cmpO_irr tr z)
    · exact e
def ordF (tr:List As) (c:List Int) (M:Nat):Nat→List Int
 |0=> []
 |j+1=>ordF tr c M j++ (norm c).filter fun x=>lv tr x==(M:Int) - j
def topT (tr:List As):Int:=tr.foldl (fun m a=>if a.lev>m then a.lev else m) 0
def ordL (tr:List As) (c:List Int):List Int:=ordF tr c (topT tr).toNat ((topT tr).toNat+1)
theorem topT_aux: ∀ (tr:List As) (m:Int),m≤tr.foldl (fun m a=>if a.lev>m then a.lev else m) m∧∀a∈tr,a.lev≤tr.foldl (fun m a=>if a.lev>m then a.lev else m) m
 | [],m=> ⟨Int.le_refl _,by simp⟩
 |b::t,m=>by
  rw [List.foldl_cons]
  generalize hX:(if b.lev>m then b.lev else m)=X
  have hm:m≤X∧b.lev≤X:=by rw [← hX];split<;>omega
  obtain ⟨h1,h2⟩:=topT_aux t X
  refine ⟨by omega,fun a ha=> ?_⟩
  rcases List.mem_cons.1 ha with e|e
  · subst e;omega
  · exact h2 a e
theorem topT_nn (tr:List As):0≤topT tr:=(topT_aux tr 0).1
theorem topT_le {tr:List As} {i:Nat} (h:i<tr.length):(nth tr i).lev≤topT tr:=(topT_aux tr 0).2 _ (by simp [nth,List.getD,h])
theorem ordF_mem {tr:List As} {c:List Int} {M:Nat}: ∀ {j:Nat} {x:Int},x∈ordF tr c M j↔x∈c∧lv tr x≤M∧(M:Int) - j<lv tr x
 |0,x=>by
  unfold ordF
  simp
 |j+1,x=>by
  unfold ordF
  rw [List.mem_append,ordF_mem,List.mem_filter,(norm_isN c).mem,beq_iff_eq]
  constructor
  · rintro (⟨h1,h2,h3⟩| ⟨h1,h2⟩)
    · exact ⟨h1,h2,by omega⟩
    · exact ⟨h1,by omega,by omega⟩
  · rintro ⟨h1,h2,h3⟩
    by_cases e:lv tr x=(M:Int) - j
    · exact .inr ⟨h1,e⟩
    · exact .inl ⟨h1,h2,by omega⟩
theorem ordF_strict {tr:List As} {c:List Int} {M:Nat} (hb: ∀x∈c,Br1 tr x): ∀j,StrictO tr (ordF tr c M j)
 |0=>List.Pairwise.nil
 |j+1=>by
  unfold ordF
  rw [StrictO,List.pairwise_append]
  refine ⟨ordF_strict hb j,?_,fun x hx y hy=> ?_⟩
  · have h1:Strict ((norm c).filter fun x=>lv tr x==(M:Int) - j):=List.Pairwise.filter _ (norm_isN c).st
    rw [List.pairwise_iff_getElem]
    intro a b ha hb' hab
    have h2:=List.pairwise_iff_getElem.1 h1 a b ha hb' hab
    have ma:=List.mem_filter.1 (List.getElem_mem ha)
    have mb:=List.mem_filter.1 (List.getElem_mem hb')
    have la:lv tr _=(M:Int) - j:=beq_iff_eq.1 ma.2
    have lb:lv tr _=(M:Int) - j:=beq_iff_eq.1 mb.2
    have bra:=hb _ (((norm_isN c).mem _).1 ma.1)
    have brb:=hb _ (((norm_isN c).mem _).1 mb.1)
    generalize ((norm c).filter fun x=>lv tr x==(M:Int) - j)[a]=u at*
    generalize ((norm c).filter fun x=>lv tr x==(M:Int) - j)[b]=v at*
    have hne:am u≠am v:=fun e=>by
     have:=bra.am brb e
     subst this
     exact bef_irr _ h2
    unfold cmpO
    rw [if_neg (by omega)]
    unfold bef at h2
    rw [if_pos hne] at h2
    exact h2
  · have h1:=ordF_mem.1 hx
    have h2:=List.mem_filter.1 hy
    have h3:lv tr y=(M:Int) - j:=beq_iff_eq.1 h2.2
    unfold cmpO
    rw [if_pos (by omega)]
    omega
theorem ordL_mem {tr:List As} (ok:TrOk tr) {c:List Int} (hb: ∀x∈c,Br1 tr x) {x:Int}:x∈ordL tr c↔x∈c:=by
 unfold ordL
 rw [ordF_mem]
 refine ⟨fun h=>h.1,fun h=> ⟨h,?_,?_⟩⟩
 · have:=topT_le (hb x h).lt
   have:=topT_nn tr
   unfold lv;omega
 · have:=ok.nn (hb x h).lt
   unfold lv;omega
theorem ordL_strict {tr:List As} {c:List Int} (hb: ∀x∈c,Br1 tr x):StrictO tr (ordL tr c):=ordF_strict hb _
theorem ordL_uniq {tr:List As} (ok:TrOk tr) {c m:List Int} (hb: ∀x∈c,Br1 tr x) (hm: ∀x,x∈m↔x∈c) (nd:m.Nodup) (hs:SortedR (cmpO tr) m 0 m.length):m=ordL tr c:=by
 refine strictO_eq ?_ (ordL_strict hb) fun x=> (hm x).trans (ordL_mem ok hb).symm
 rw [StrictO,List.pairwise_iff_getElem]
 intro i j hi hj hij
 have h:=hs i j (Nat.zero_le _) hij hj
 simp only [List.getD,List.getElem?_eq_getElem hi,List.getElem?_eq_getElem hj,Option.getD_some] at h
 have hne:m[i]≠m[j]:=fun e=>by have:=(List.getElem_inj nd).1 e;omega
 have h1:=hb _ ((hm _).1 (List.getElem_mem hi))
 have h2:=hb _ ((hm _).1 (List.getElem_mem hj))
 have ha:am m[i]≠am m[j]:=fun e=>hne (h1.am h2 e)
 unfold Le cmpO at h
 unfold cmpO
 split at h<;>split<;>omega
def idl (tr:List As) (ld:List Int):Nat→Int→Bool
 |0,_=>false
 |f+1,l=> !(nth tr (atN tr (am l))).rs.isEmpty && (nth tr (atN tr (am l))).rs.all fun x=>x==(nth tr (atN tr (am l))).lit||decide (lv tr x≤0)||decide (x∈ld)||idl tr ld f x
def idle (tr:List As) (ld:List Int) (l:Int):Bool:=idl tr ld (atN tr (am l)+1) l
theorem idl_fuel {tr:List As} (ok:TrOk tr) {ld:List Int}: ∀ (f:Nat) {l:Int},atN tr (am l)<tr.length→atN tr (am l)<f→idl tr ld f l=idle tr ld l:=by
 have key: ∀ (f g:Nat) {l:Int},atN tr (am l)<tr.length→atN tr (am l)<f→atN tr (am l)<g→idl tr ld f l=idl tr ld g l:=by
  intro f
  induction f with
  |zero=>intro g l _ h;omega
  |succ f ih=>
   intro g l hl hf hg
   cases g with
   |zero=>omega
   |succ g=>
    unfold idl
    by_cases hr:(nth tr (atN tr (am l))).rs= []
    · rw [hr];rfl
    · obtain ⟨_,_,r3⟩:=ok.reason hl hr
      have hcong: ∀x∈(nth tr (atN tr (am l))).rs,(x==(nth tr (atN tr (am l))).lit||decide (lv tr x≤0)||decide (x∈ld)||idl tr ld f x)=(x==(nth tr (atN tr (am l))).lit||decide (lv tr x≤0)||decide (x∈ld)||idl tr ld g x):=by
       intro x hx
       by_cases e:x=(nth tr (atN tr (am l))).lit
       · simp [e]
       · obtain ⟨b1,b2⟩:=r3 x hx e
         rw [ih g b1.lt (by omega) (by omega)]
      congr 1
      rw [Bool.eq_iff_iff,List.all_eq_true,List.all_eq_true]
      constructor
      · intro h x hx;rw [← hcong x hx];exact h x hx
      · intro h x hx;rw [hcong x hx];exact h x hx
 intro f l hl hf
 exact key f (atN tr (am l)+1) hl hf (by omega)
theorem idle_eq {tr:List As} (ok:TrOk tr) {ld:List Int} {l:Int} (hl:atN tr (am l)<tr.length):
 idle tr ld l=(!(nth tr (atN tr (am l))).rs.isEmpty && (nth tr (atN tr (am l))).rs.all fun x=>x==(nth tr (atN tr (am l))).lit||decide (lv tr x≤0)||decide (x∈ld)||idle tr ld x):=by
 unfold idle
 rw [idl]
 by_cases hr:(nth tr (atN tr (am l))).rs= []
 · rw [hr];rfl
 · obtain ⟨_,_,r3⟩:=ok.reason hl hr
   have hcong: ∀x∈(nth tr (atN tr (am l))).rs,(x==(nth tr (atN tr (am l))).lit||decide (lv tr x≤0)||decide (x∈ld)||idl tr ld (atN tr (am l)) x)=(x==(nth tr (atN tr (am l))).lit||decide (lv tr x≤0)||decide (x∈ld)||idl tr ld (atN tr (am x)+1) x):=by
    intro x hx
    by_cases e:x=(nth tr (atN tr (am l))).lit
    · simp [e]
    · obtain ⟨b1,b2⟩:=r3 x hx e
      rw [idl_fuel ok _ b1.lt b2];rfl
   congr 1
   rw [Bool.eq_iff_iff,List.all_eq_true,List.all_eq_true]
   constructor
   · intro h x hx;rw [← hcong x hx];exact h x hx
   · intro h x hx;rw [hcong x hx];exact h x hx
def shr (tr:List As) (ld:List Int):List Int:=
 match ld with
 | []=> []
 |x::t=>x::t.filter fun y=>decide (0<lv tr y) && !idle tr ld y
theorem shr_mem {tr:List As} {ld:List Int} {x:Int} (h:x∈shr tr ld):x∈ld:=by
 cases ld with
 |nil=>exact h
 |cons y t=>
  rcases List.mem_cons.1 h with e|e
  · rw [e];simp
  · exact List.mem_cons_of_mem _ (List.mem_filter.1 e).1
theorem shr_len (tr:List As) (ld:List Int):(shr tr ld).length≤ld.length:=by
 cases ld with
 |nil=>exact Nat.le_refl _
 |cons y t=>simp [shr];exact List.length_filter_le _ _
def Tr1 (v:Int→Int) (c:List Int):Prop:= ∃l∈c,v l=1
structure Vals (tr:List As) (v:Int→Int):Prop where
 neg: ∀l,isL l=true→v (-l)= -v l
 val: ∀l,v l=0∨v l=1∨v l= -1
 set: ∀i,i<tr.length→v (nth tr i).lit≠0
 rea: ∀i,i<tr.length→(nth tr i).rs≠[]→Tr1 v (nth tr i).rs
theorem step_true {tr:List As} {v:Int→Int} (ok:TrOk tr) (V:Vals tr v) {c:List Int} {p:Nat} (hp:p<tr.length) (hr:(nth tr p).rs≠[]) (h:Tr1 v c):Tr1 v (stepN tr p c):=by
 obtain ⟨x,hx,ex⟩:=h
 by_cases e:x= -(nth tr p).lit
 · obtain ⟨y,hy,ey⟩:=V.rea p hp hr
   refine ⟨y,stepN_mem.2 (.inr ⟨hy,?_⟩),ey⟩
   intro e2
   have:=V.neg _ (ok.isl p hp)
   rw [← e,← e2] at this
   omega
 · exact ⟨x,stepN_mem.2 (.inl ⟨hx,e⟩),ex⟩
theorem lrn_true {tr:List As} {v:Int→Int} (ok:TrOk tr) (V:Vals tr v) {L:Int}: ∀ {k:Nat} {c:List Int},In tr L c k→k≤tr.length→Tr1 v c→Tr1 v (lrn tr L k c)
 |0,_,_,_,h=>h
 |k+1,c,h,hk,ht=>by
  by_cases hn:cntL tr c L=0∨cntL tr c L=1∧0<L
  · rw [lrn_stop hn];exact ht
  · by_cases e:(nth tr k).lev=L∧ -(nth tr k).lit∈c
    · obtain ⟨h1,h2,h3,_⟩:=h.step ok hn (p:=k) (by omega) e.1 e.2 fun x hx hl=>by have:=h.pl x hx hl;omega
      rw [h2]
      exact lrn_true ok V h1 (by omega) (step_true ok V (by omega) h3 ht)
    · have h':In tr L c k:=⟨h.br,h.le,fun x hx hl=>by
       have:=h.pl x hx hl
       rcases Nat.lt_or_ge (atN tr (am x)) k with e2|e2
       · exact e2
       · have ek:atN tr (am x)=k:=by omega
         refine absurd ⟨?_,?_⟩ e
         · rw [← ek];exact hl
         · rw [← ek,(h.br x hx).eq,Int.neg_neg];exact hx,h.top,h.nn,h.nd⟩
      rw [lrn,if_neg hn,if_neg e]
      exact lrn_true ok V h' (by omega) ht
theorem zero_true {tr:List As} {v:Int→Int} (ok:TrOk tr) (V:Vals tr v): ∀ (i:Nat),i<tr.length→(nth tr i).lev≤0→v (nth tr i).lit=1:=by
 intro i
 induction i using Nat.strongRecOn with
 |_ i ih=>
  intro hi hl
  have hr:(nth tr i).rs≠[]:=fun e=>by have:=(ok.first hi e).1;omega
  obtain ⟨y,hy,ey⟩:=V.rea i hi hr
  by_cases e:y=(nth tr i).lit
  · rw [← e];exact ey
  · obtain ⟨b1,b2⟩:=(ok.reason hi hr).2.2 y hy e
    have hlt:=b1.lt
    have:=ok.mono (i:=atN tr (am y)) (j:=i) (by omega) hi
    have h1:=ih _ b2 hlt (by omega)
    rw [b1.eq,V.neg _ b1.isl] at h1
    omega
theorem zero_false {tr:List As} {v:Int→Int} (ok:TrOk tr) (V:Vals tr v) {l:Int} (h:Br1 tr l) (hl:lv tr l≤0):v l= -1:=by
 have h1:=zero_true ok V _ h.lt hl
 rw [h.eq,V.neg _ h.isl] at h1
 omega
theorem idle_true {tr:List As} {v:Int→Int} (ok:TrOk tr) (V:Vals tr v) {ld:List Int}: ∀ (n:Nat) {l:Int},Br1 tr l→atN tr (am l)=n→v l=1→idle tr ld l=true→∃y∈ld,v y=1∧atN tr (am y)<n:=by
 intro n
 induction n using Nat.strongRecOn with
 |_ n ih=>
  intro l hb hn hv hi
  subst hn
  rw [idle_eq ok hb.lt] at hi
  simp only [Bool.and_eq_true,Bool.not_eq_true',List.isEmpty_eq_false_iff,List.all_eq_true,Bool.or_eq_true,beq_iff_eq,decide_eq_true_eq] at hi
  obtain ⟨hr,ha⟩:=hi
  obtain ⟨y,hy,ey⟩:=V.rea _ hb.lt hr
  by_cases e:y=(nth tr (atN tr (am l))).lit
  · rw [hb.eq] at e
    have:=V.neg _ hb.isl
    rw [← e,ey] at this
    omega
  · obtain ⟨b1,b2⟩:=(ok.reason hb.lt hr).2.2 y hy e
    rcases ha y hy with ((h|h)|h)|h
    · exact absurd h e
    · have:=zero_false ok V b1 h
      omega
    · exact ⟨y,h,ey,b2⟩
    · obtain ⟨z,z1,z2,z3⟩:=ih _ b2 b1 rfl ey h
      exact ⟨z,z1,z2,by omega⟩
theorem shr_true {tr:List As} {v:Int→Int} (ok:TrOk tr) (V:Vals tr v) {ld:List Int} (hb: ∀x∈ld,Br1 tr x) (h:Tr1 v ld):Tr1 v (shr tr ld):=by
 have key: ∀ (n:Nat) {x:Int},x∈ld→v x=1→atN tr (am x)=n→Tr1 v (shr tr ld):=by
  intro n
  induction n using Nat.strongRecOn with
  |_ n ih=>
   intro x hx hv hn
   by_cases hs:x∈shr tr ld
   · exact ⟨x,hs,hv⟩
   · have hp: ¬lv tr x≤0:=fun e=>by have:=zero_false ok V (hb x hx) e;omega
     have hi:idle tr ld x=true:=by
      cases ld with
      |nil=>simp at hx
      |cons y t=>
       rcases List.mem_cons.1 hx with e|e
       · exact absurd (by rw [e];simp [shr]) hs
       · cases hi:idle tr (y::t) x with
         |true=>rfl
         |false=>exact absurd (List.mem_cons_of_mem _ (List.mem_filter.2 ⟨e,by rw [hi];simp;omega⟩)) hs
     obtain ⟨z,z1,z2,z3⟩:=idle_true ok V n (hb x hx) hn hv hi
     exact ih _ z3 z1 z2 rfl
 obtain ⟨x,hx,hv⟩:=h
 exact key _ hx hv rfl
structure Point (tr:List As) (L:Int) (ld:List Int):Prop where
 br: ∀x∈ld,Br1 tr x
 zero:L=0→ld= []
 one: ∀i,i<ld.length→(lv tr (ld.getD i 0)=L↔i=0)
 le: ∀x∈ld,lv tr x≤L
 nn:0≤L
theorem two_of {tr:List As} {c:List Int} {L x y:Int} (hx:x∈c) (hy:y∈c) (hne:x≠y) (h1:lv tr x=L) (h2:lv tr y=L):1<cntL tr c L:=by
 unfold cntL
 rw [List.countP_eq_length_filter]
 have mx:x∈c.filter fun z=>lv tr z==L:=List.mem_filter.2 ⟨hx,by simpa using h1⟩
 have my:y∈c.filter fun z=>lv tr z==L:=List.mem_filter.2 ⟨hy,by simpa using h2⟩
 obtain ⟨s,t,e⟩:=List.append_of_mem mx
 rw [e] at my ⊢
 rw [List.length_append,List.length_cons]
 rcases List.mem_append.1 my with h|h
 · have:=List.length_pos_of_mem h;omega
 · rcases List.mem_cons.1 h with h|h
   · exact absurd h.symm hne
   · have:=List.length_pos_of_mem h;omega
theorem point_of {tr:List As} (ok:TrOk tr) {L:Int} {c:List Int} {k:Nat} (h:In tr L c k) (he:c= []∧(L=0∨c= [])∨cntL tr c L=1∧0<L):Point tr L (ordL tr c):=by
 have hb: ∀x∈ordL tr c,Br1 tr x:=fun x hx=>h.br x ((ordL_mem ok h.br).1 hx)
 have hle: ∀x∈ordL tr c,lv tr x≤L:=fun x hx=>h.le x ((ordL_mem ok h.br).1 hx)
 have nil:c= []→ordL tr c= []:=fun e=>by
  rw [List.eq_nil_iff_forall_not_mem]
  intro x hx
  have:=(ordL_mem ok h.br).1 hx
  rw [e] at this;simp at this
 refine ⟨hb,fun e=> ?_,fun i hi=> ?_,hle,h.nn⟩
 · rcases he with ⟨a,_⟩| ⟨_,b⟩
   · exact nil a
   · omega
 · rcases he with ⟨a,_⟩| ⟨h1,hL⟩
   · rw [nil a] at hi;simp at hi
   · have st:=ordL_strict h.br
     have mem: ∀j,j< (ordL tr c).length→(ordL tr c).getD j 0∈ordL tr c:=fun j hj=>by simp [List.getD,hj]
     have fall: ∀a b,a<b→b< (ordL tr c).length→lv tr ((ordL tr c).getD b 0)≤lv tr ((ordL tr c).getD a 0):=by
      intro a b hab hb'
      have:=List.pairwise_iff_getElem.1 st a b (by omega) hb' hab
      have e1:(ordL tr c).getD a 0=(ordL tr c)[a]'(by omega):=by simp [List.getD,show a< (ordL tr c).length by omega]
      have e2:(ordL tr c).getD b 0=(ordL tr c)[b]:=by simp [List.getD,hb']
      rw [e1,e2]
      unfold cmpO at this
      split at this<;>omega
     obtain ⟨y,hy,hly⟩:=cnt_pos.1 (show 0<cntL tr c L by omega)
     obtain ⟨j,hj,ej⟩:=List.mem_iff_getElem.1 ((ordL_mem ok h.br).2 hy)
     have ej':(ordL tr c).getD j 0=y:=by simp [List.getD,hj,ej]
     have h0:lv tr ((ordL tr c).getD 0 0)=L:=by
      rcases Nat.eq_zero_or_pos j with e|e
      · subst e;rw [ej'];exact hly
      · have h2:=fall 0 j e hj
        have h3:=hle _ (mem 0 (by omega))
        rw [ej',hly] at h2
        omega
     constructor
     · intro hl
       refine Classical.byContradiction fun hne=> ?_
       have hd:(ordL tr c).getD i 0≠(ordL tr c).getD 0 0:=by
        intro e
        have:=List.pairwise_iff_getElem.1 st 0 i (by omega) hi (by omega)
        simp only [List.getD,List.getElem?_eq_getElem hi,List.getElem?_eq_getElem (show 0< (ordL tr c).length by omega),Option.getD_some] at e
        rw [e] at this
        exact cmpO_irr _ _ this
       have two:1<cntL tr c L:=two_of ((ordL_mem ok h.br).1 (mem 0 (by omega))) ((ordL_mem ok h.br).1 (mem i hi)) (fun e=>hd e.symm) h0 hl
       omega
     · rintro rfl;exact h0
theorem Point.shr {tr:List As} {L:Int} {ld:List Int} (h:Point tr L ld):Point tr L (shr tr ld):=by
 refine ⟨fun x hx=>h.br x (shr_mem hx),fun e=>by rw [h.zero e];rfl,fun i hi=> ?_,fun x hx=>h.le x (shr_mem hx),h.nn⟩
 cases ld with
 |nil=>simp [LeP.shr] at hi
 |cons y t=>
  have h0:=(h.one 0 (by simp)).2 rfl
  have e0:(y::t).getD 0 0=y:=rfl
  rw [e0] at h0
  cases i with
  |zero=>exact ⟨fun _=>rfl,fun _=>h0⟩
  |succ i=>
   refine ⟨fun hl=> ?_,fun e=>by omega⟩
   have hi':i< (t.filter fun z=>decide (0<lv tr z) && !idle tr (y::t) z).length:=by simpa [LeP.shr] using hi
   have em:(LeP.shr tr (y::t)).getD (i+1) 0=(t.filter fun z=>decide (0<lv tr z) && !idle tr (y::t) z)[i]:=by simp [LeP.shr,List.getD,hi']
   rw [em] at hl
   have hm:=(List.mem_filter.1 (List.getElem_mem hi')).1
   obtain ⟨j,hj,ej⟩:=List.mem_iff_getElem.1 hm
   have:=(h.one (j+1) (by simpa using hj)).1 (by rw [← hl,← ej];simp [List.getD,hj])
   omega
end
section
theorem okT_take {tr:List As} {t i:Nat} (hi:i<t):okT (tr.take t) i=okT tr i:=by
 have h1:(tr.take t).take i=tr.take i:=by rw [List.take_take,Nat.min_eq_left (by omega)]
 have h2:prev (tr.take t) i=prev tr i:=by
  unfold prev
  split
  · rfl
  · rw [nth_take (by omega)]
 unfold okT
 rw [h1,h2,nth_take hi]
theorem mayT_take {tr:List As} {t:Nat} (ht:t≤tr.length) (hl:t≤4096) (h:(List.range t).all (okT tr)=true):TrOk (tr.take t):=by
 refine (mayT_ok (tr:=tr.take t) ?_).1
 have hlen:(tr.take t).length=t:=by rw [List.length_take];omega
 unfold mayT
 rw [hlen,decide_eq_true hl,Bool.true_and,List.all_eq_true]
 intro i hi
 rw [List.mem_range] at hi
 rw [okT_take hi]
 exact List.all_eq_true.1 h i (List.mem_range.2 hi)
theorem range_succ_all {f:Nat→Bool} {t:Nat} (h:(List.range t).all f=true) (hf:f t=true):(List.range (t+1)).all f=true:=by
 rw [List.range_succ,List.all_append,h];simp [hf]
theorem range_bad {f:Nat→Bool} {t n:Nat} (ht:t<n) (hf:f t=false):(List.range n).all f=false:=by
 cases h:(List.range n).all f with
 |false=>rfl
 |true=>have:=List.all_eq_true.1 h t (List.mem_range.2 ht);rw [hf] at this;exact this.symm
def atM (tr:List As) (u:Int):Int:=if atN tr u<tr.length then (atN tr u:Int)+1 else 0
theorem atM_nil (u:Int):atM [] u=0:=by unfold atM;simp
theorem len_take {tr:List As} {t:Nat} (h:t≤tr.length):(tr.take t).length=t:=by rw [List.length_take];omega
theorem atM_succ {tr:List As} {t:Nat} (ht:t<tr.length) (h: ¬atN (tr.take t) (am (nth tr t).lit)<t) (u:Int):atM (tr.take (t+1)) u=if u=am (nth tr t).lit then (t:Int)+1 else atM (tr.take t) u:=by
 have e1:=atN_take (tr:=tr) (v:=u) (i:=t) (by omega)
 have e2:=atN_take (tr:=tr) (v:=u) (i:=t+1) (by omega)
 have l1:=len_take (tr:=tr) (t:=t) (by omega)
 have l2:=len_take (tr:=tr) (t:=t+1) (by omega)
 unfold atM
 rw [l1,l2]
 by_cases hu:u=am (nth tr t).lit
 · rw [if_pos hu]
   have h0:atN tr u=t:=by
    subst hu
    rw [(atN_take (by omega)).1] at h
    refine atN_eq ht rfl fun j hj=>atN_miss (by omega)
   rw [if_pos (e2.1.2 (by omega)),e2.2 (by omega),h0]
 · rw [if_neg hu]
   by_cases hl:atN tr u<t
   · rw [if_pos (e2.1.2 (by omega)),if_pos (e1.1.2 hl),e2.2 (by omega),e1.2 hl]
   · rw [if_neg (fun h2=> ?_),if_neg (fun h2=>hl (e1.1.1 h2))]
     have h3:=e2.1.1 h2
     have h4:atN tr u=t:=by omega
     have:=atN_hit (tr:=tr) (v:=u) (by omega)
     rw [h4] at this
     exact hu this.symm
theorem atM_pos {tr:List As} {u:Int}:atM tr u=0↔¬atN tr u<tr.length:=by
 unfold atM
 split<;>omega
theorem mayT_true {tr:List As} (hl:tr.length≤4096) (h:(List.range tr.length).all (okT tr)=true):mayT tr=true:=by
 unfold mayT;rw [decide_eq_true hl,h];rfl
theorem mayT_false {tr:List As} {i:Nat} (hi:i<tr.length) (h:okT tr i=false):mayT tr=false:=by
 unfold mayT;rw [range_bad hi h,Bool.and_false]
def reaB (tr:List As) (i:Nat):Bool:=decide ((nth tr i).rs.length≤256) && decide ((nth tr i).lit∈(nth tr i).rs) && brk (tr.take i) (wo (nth tr i).rs (nth tr i).lit)
end
end Go.LeP
