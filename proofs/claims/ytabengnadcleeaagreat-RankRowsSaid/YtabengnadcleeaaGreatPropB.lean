/- Layer 6: what is always so of a propagator, plain. -/
import Derived.Test.YtabengnadcleeaaGreatPropA
namespace Go.Proofs.YtabengnadcleeaaGreat.W
open Go Go.Fw Go.RowKit Go.SoP Go.LiP
section
variable {s t u:PSt} {l x y:Int}
def PSt.There (s:PSt) (i:Nat):Prop:=i<s.nc∧s.gone i=false
def W1 (s:PSt) (i D:Nat) (t:List Int):Prop:= ∀x∈(s.R (.l i)).take 2,∀y∈(s.R (.l i)).take 2,x≠y→ -x∈(s.R .tr).take D→y∈t
structure Good (s:PSt):Prop where
 vmax:s.vars≤1048576
 ncm:s.nc≤262144
 va:(s.R .va).length=s.vars+1
 vb: ∀i,(s.R .va).getD i 0=0∨(s.R .va).getD i 0=1∨(s.R .va).getD i 0= -1
 le:(s.R .le).length=s.vars+1
 rl:(s.R .re).length=s.vars+1
 tv: ∀x∈s.R .tr,InV s.vars x
 nd:((s.R .tr).map amt).Nodup
 v1: ∀x,InV s.vars x→(s.val x=1↔x∈s.R .tr)
 bl: ∀j,j< (s.R .be).length→0≤(s.R .be).getD j 0∧(s.R .be).getD j 0< (s.R .tr).length
 bs: ∀i j,i<j→j< (s.R .be).length→(s.R .be).getD i 0< (s.R .be).getD j 0
 dl:(s.R .ds).length=(s.R .be).length
 db: ∀j,j< (s.R .be).length→0≤(s.R .ds).getD j 0∧(s.R .ds).getD j 0≤(s.R .be).getD j 0
 lv: ∀p,p< (s.R .tr).length→s.lev ((s.R .tr).getD p 0)=((s.R .be).countP fun e=>decide (e≤(p:Int)):Nat)
 re1: ∀p,p< (s.R .tr).length→(p:Int)∈s.R .be→s.rea ((s.R .tr).getD p 0)= -1
 re2: ∀p,p< (s.R .tr).length→(p:Int) ∉ s.R .be→∃i:Nat,s.rea ((s.R .tr).getD p 0)=i∧s.There i∧(s.R .tr).getD p 0∈s.R (.l i)∧∀x∈s.R (.l i),x≠(s.R .tr).getD p 0→ -x∈(s.R .tr).take p
 dn:s.done≤(s.R .tr).length
 cv: ∀i,s.There i→∀x∈s.R (.l i),InV s.vars x
 cn: ∀i,s.There i→(s.R (.l i)).Nodup
 cl: ∀i,s.There i→(s.R (.l i)).length≤4096
 ca: ∀i,s.There i→∀x,x∈s.R (.l i)↔x∈s.R (.a i)
 al: ∀i,(s.R (.a i)).length≤4096
 w1: ∀j,∀c∈s.R (.w j),∃i:Nat,c=i∧s.There i∧∃x∈(s.R (.l i)).take 2,sideN x=j
 w2: ∀i,s.There i→∀x∈(s.R (.l i)).take 2,(i:Int)∈s.R (.w (sideN x))
 w3: ∀j,(s.R (.w j)).Nodup
 o1: ∀c∈s.R .lo,∃i:Nat,c=i∧s.There i
 o2: ∀i,s.There i→(s.R (.l i)).length<2→(i:Int)∈s.R .lo
 o3:(s.R .lo).Nodup
 wd: ∀i,s.There i→(i:Int) ∉ s.R .lo→W1 s i s.done (s.R .tr)
 wj: ∀j,j< (s.R .be).length→∀i,s.There i→(i:Int) ∉ s.R .lo→W1 s i ((s.R .ds).getD j 0).toNat ((s.R .tr).take ((s.R .be).getD j 0).toNat)
theorem val_neg {n:Nat} (h:InV n l):s.val (-l)= -s.val l:=by
 obtain ⟨h1,_,_⟩:=h
 unfold PSt.val
 by_cases e:l<0
 · rw [if_pos e,if_neg (by omega)];omega
 · rw [if_neg e,if_pos (by omega),Int.neg_neg]
theorem amt_eq (h:amt x=amt y):x=y∨x= -y:=by
 unfold amt at h
 split at h<;>split at h<;>omega
theorem amt_neg (x:Int):amt (-x)=amt x:=by unfold amt;split<;>split<;>omega
theorem nodup_len {n:Nat} {l:List Int} (hd:l.Nodup) (h: ∀x∈l,0≤x∧x<n):l.length≤n:=by
 have inj:(l.map Int.toNat).Nodup:=by
  refine List.pairwise_map.2 (List.Pairwise.imp_of_mem (fun {x y} hx hy hne e=> ?_) hd)
  have:=h x hx;have:=h y hy
  exact hne (by omega)
 have:=List.Nodup.length_le_of_subset inj (l₂:=List.range n) fun y hy=>by
  obtain ⟨x,hx,rfl⟩:=List.mem_map.1 hy
  have:=h x hx
  exact List.mem_range.2 (by omega)
 simpa using this
theorem Good.trl (g:Good s):(s.R .tr).length≤s.vars:=by
 have h:=nodup_len (n:=s.vars+1) (l:=0::(s.R .tr).map amt) (List.nodup_cons.2 ⟨fun h=>by
  obtain ⟨x,hx,e⟩:=List.mem_map.1 h
  have:=(g.tv x hx).amt;omega,g.nd⟩) fun x hx=>by
   rcases List.mem_cons.1 hx with rfl|hx
   · omega
   · obtain ⟨y,hy,rfl⟩:=List.mem_map.1 hx
     have:=(g.tv y hy).amt;omega
 simpa using h
theorem Good.bel (g:Good s):(s.R .be).length≤(s.R .tr).length:=by
 refine nodup_len ?_ fun x hx=> ?_
 · rw [List.nodup_iff_pairwise_ne,List.pairwise_iff_getElem]
   intro i j hi hj hij
   have:=g.bs i j hij hj
   simp only [List.getD,List.getElem?_eq_getElem hi,List.getElem?_eq_getElem hj,Option.getD_some] at this
   omega
 · obtain ⟨j,hj,e⟩:=List.mem_iff_getElem.1 hx
   have:=g.bl j hj
   simp only [List.getD,List.getElem?_eq_getElem hj,Option.getD_some,e] at this
   exact this
theorem Good.wf (g:Good s):Wf s:=⟨g.vmax,g.va,g.vb,g.le,g.rl,by have:=g.trl;have:=g.bel;have:=g.vmax;omega,by have:=g.trl;have:=g.vmax;omega,g.ncm⟩
theorem Good.wl (g:Good s) (j:Nat):(s.R (.w j)).length≤262144:=by
 refine Nat.le_trans (nodup_len (n:=s.nc) (g.w3 j) fun x hx=> ?_) g.ncm
 obtain ⟨i,rfl,⟨hi,_⟩,_⟩:=g.w1 j x hx
 omega
theorem Good.lol (g:Good s):(s.R .lo).length≤262144:=by
 refine Nat.le_trans (nodup_len (n:=s.nc) g.o3 fun x hx=> ?_) g.ncm
 obtain ⟨i,rfl,⟨hi,_⟩⟩:=g.o1 x hx
 omega
theorem Good.vm (g:Good s) (h:InV s.vars x):s.val x= -1↔ -x∈s.R .tr:=by
 rw [← g.v1 _ h.neg,val_neg h];omega
theorem Good.v0 (g:Good s) (h:InV s.vars x):s.val x=0↔x ∉ s.R .tr∧ -x ∉ s.R .tr:=by
 have h1:=g.v1 x h;have h2:=g.vm h
 have:=PSt.val_bd g.wf x
 constructor
 · intro e;exact ⟨fun m=>by have:=h1.2 m;omega,fun m=>by have:=h2.2 m;omega⟩
 · rintro ⟨a,b⟩
   rcases this with e|e|e
   · exact e
   · exact absurd (h1.1 e) a
   · exact absurd (h2.1 e) b
theorem Good.vlt (g:Good s) (h:InV s.vars x):s.val x<0↔ -x∈s.R .tr:=by
 rw [← g.vm h];have:=PSt.val_bd g.wf x;omega
theorem Good.vgt (g:Good s) (h:InV s.vars x):0<s.val x↔x∈s.R .tr:=by
 rw [← g.v1 x h];have:=PSt.val_bd g.wf x;omega
theorem Good.cons (g:Good s) (h:x∈s.R .tr): -x ∉ s.R .tr:=fun e=>by
 have hv:=g.tv x h
 have:=(g.v1 x hv).2 h
 have:=(g.vm hv).2 e
 omega
theorem Good.levb (g:Good s) {x:Int} (h:InV s.vars x) (hx:s.val x<0):s.lev x<1048577:=by
 have hm:=(g.vlt h).1 hx
 obtain ⟨p,hp,e⟩:=List.mem_iff_getElem.1 hm
 have h2:=g.lv p hp
 have e2:(s.R .tr).getD p 0= -x:=by simp [List.getD,hp,e]
 rw [e2] at h2
 have e3:s.lev (-x)=s.lev x:=by unfold PSt.lev;rw [amt_neg]
 have h4:=List.countP_le_length (p:=fun e=>decide (e≤(p:Int))) (l:=s.R .be)
 have:=g.bel;have:=g.trl;have:=g.vmax
 omega
theorem put_R {r:Int} {y:Pt} (h1:y≠ .va) (h2:y≠ .le) (h3:y≠ .re) (h4:y≠ .tr):(s.put l r).R y=s.R y:=by
 unfold PSt.put;rw [set_ne h4,set_ne h3,set_ne h2,set_ne h1]
theorem put_tr {r:Int}:(s.put l r).R .tr=s.R .tr++ [l]:=by unfold PSt.put;rw [set_eq]
theorem put_va {r:Int}:(s.put l r).R .va=(s.R .va).set (amt l).toNat (if l<0 then -1 else 1):=by
 unfold PSt.put;rw [set_ne (by simp),set_ne (by simp),set_ne (by simp),set_eq]
theorem put_le {r:Int}:(s.put l r).R .le=(s.R .le).set (amt l).toNat (s.R .be).length:=by
 unfold PSt.put;rw [set_ne (by simp),set_ne (by simp),set_eq]
theorem put_re {r:Int}:(s.put l r).R .re=(s.R .re).set (amt l).toNat r:=by
 unfold PSt.put;rw [set_ne (by simp),set_eq]
theorem put_val (g:(s.R .va).length=s.vars+1) {r:Int} (hl:InV s.vars l) (hy:InV s.vars y):(s.put l r).val y=if amt y=amt l then (if y=l then 1 else -1) else s.val y:=by
 have a1:=hl.amt;have a2:=hy.amt
 obtain ⟨y0,_,_⟩:=hy
 obtain ⟨l0,_,_⟩:=hl
 unfold PSt.val
 rw [put_va]
 by_cases e:y<0
 · have ea:amt y= -y:=by unfold amt;rw [if_pos e]
   rw [if_pos e,if_pos e,getD_setN (by omega)]
   by_cases e2:amt y=amt l
   · rw [if_pos (show (-y).toNat=(amt l).toNat by omega),if_pos e2]
     unfold amt at e2
     rw [if_pos e] at e2
     split at e2
     · rename_i h;rw [if_pos h,if_pos (by omega)];rfl
     · rename_i h;rw [if_neg h,if_neg (by omega)]
   · rw [if_neg (show ¬(-y).toNat=(amt l).toNat by omega),if_neg e2]
 · have ea:amt y=y:=by unfold amt;rw [if_neg e]
   rw [if_neg e,if_neg e,getD_setN (by omega)]
   by_cases e2:amt y=amt l
   · rw [if_pos (show y.toNat=(amt l).toNat by omega),if_pos e2]
     unfold amt at e2
     rw [if_neg e] at e2
     split at e2
     · rename_i h;rw [if_pos h,if_neg (by omega)]
     · rename_i h;rw [if_neg h,if_pos (by omega)]
   · rw [if_neg (show ¬y.toNat=(amt l).toNat by omega),if_neg e2]
theorem getD_mem' {l:List Int} {p:Nat} (h:p<l.length):l.getD p 0∈l:=by simp [List.getD,h]
theorem getD_append_lt {l m:List Int} {p:Nat} (h:p<l.length):(l++m).getD p 0=l.getD p 0:=by
 simp only [List.getD_eq_getElem?_getD];rw [List.getElem?_append_left h]
theorem getD_append_eq {l:List Int} {x:Int}:(l++ [x]).getD l.length 0=x:=by simp [List.getD]
end
section
variable {s t u:PSt} {l x y:Int}
theorem countP_all {l:List Int} {p:Int→Bool} (h: ∀x∈l,p x=true):l.countP p=l.length:=List.countP_eq_length.2 h
theorem put_good (g:Good s) (hl:InV s.vars l) (h0:s.val l=0) (ht: ∀y,y≠ .be→y≠ .ds→t.R y=s.R y) (hv:t.vars=s.vars) (hn:t.nc=s.nc) (hg:t.gone=s.gone) (hd:t.done=s.done) {r:Int}
 (hb:(t.R .be=s.R .be∧t.R .ds=s.R .ds∧∃i:Nat,r=i∧s.There i∧l∈s.R (.l i)∧∀x∈s.R (.l i),x≠l→ -x∈s.R .tr)∨(t.R .be=s.R .be++ [((s.R .tr).length:Int)]∧t.R .ds=s.R .ds++ [(s.done:Int)]∧r= -1)):
 Good (t.put l r):=by
 have eR: ∀y,y≠ .va→y≠ .le→y≠ .re→y≠ .tr→y≠ .be→y≠ .ds→(t.put l r).R y=s.R y:=fun y a1 a2 a3 a4 a5 a6=>by rw [put_R a1 a2 a3 a4,ht y a5 a6]
 have etr:(t.put l r).R .tr=s.R .tr++ [l]:=by rw [put_tr,ht _ (by simp) (by simp)]
 have ebe:(t.put l r).R .be=t.R .be:=put_R (by simp) (by simp) (by simp) (by simp)
 have eds:(t.put l r).R .ds=t.R .ds:=put_R (by simp) (by simp) (by simp) (by simp)
 have el: ∀i,(t.put l r).R (.l i)=s.R (.l i):=fun i=>eR _ (by simp) (by simp) (by simp) (by simp) (by simp) (by simp)
 have ea: ∀i,(t.put l r).R (.a i)=s.R (.a i):=fun i=>eR _ (by simp) (by simp) (by simp) (by simp) (by simp) (by simp)
 have ew: ∀i,(t.put l r).R (.w i)=s.R (.w i):=fun i=>eR _ (by simp) (by simp) (by simp) (by simp) (by simp) (by simp)
 have elo:(t.put l r).R .lo=s.R .lo:=eR _ (by simp) (by simp) (by simp) (by simp) (by simp) (by simp)
 have eth: ∀i,(t.put l r).There i↔s.There i:=fun i=>by show (i<t.nc∧t.gone i=false)↔_;rw [hn,hg];exact Iff.rfl
 have evr:(t.put l r).vars=s.vars:=hv
 have hla:=hl.amt
 have tva:(t.R .va).length=t.vars+1:=by rw [ht _ (by simp) (by simp),hv];exact g.va
 have eval: ∀y,InV s.vars y→(t.put l r).val y=if amt y=amt l then (if y=l then 1 else -1) else s.val y:=fun y hy=>by
  rw [put_val tva (by rw [hv];exact hl) (by rw [hv];exact hy),val_eq (s:=s) (ht _ (by simp) (by simp))]
 have out:=(g.v0 hl).1 h0
 have fr: ∀x∈s.R .tr,amt x≠amt l:=fun x hx e=>by
  rcases amt_eq e with rfl|rfl
  · exact out.1 hx
  · exact out.2 hx
 have elev: ∀x,(t.put l r).lev x=if (amt x).toNat=(amt l).toNat then ((t.R .be).length:Int) else s.lev x:=fun x=>by
  unfold PSt.lev;rw [put_le,ht .le (by simp) (by simp),getD_setN (by rw [g.le];omega)]
 have erea: ∀x,(t.put l r).rea x=if (amt x).toNat=(amt l).toNat then r else s.rea x:=fun x=>by
  unfold PSt.rea;rw [put_re,ht .re (by simp) (by simp),getD_setN (by rw [g.rl];omega)]
 have old: ∀p,p< (s.R .tr).length→¬(amt ((s.R .tr).getD p 0)).toNat=(amt l).toNat:=fun p hp e=>by
  have:=g.tv _ (getD_mem' hp)
  have h2:=this.amt
  exact fr _ (getD_mem' hp) (by omega)
 have hbe:(t.R .be).length≤(s.R .be).length+1:=by rcases hb with ⟨e,_⟩| ⟨e,_⟩<;>rw [e]<;>simp
 have w1': ∀ {i D:Nat} {T T':List Int},W1 s i D T→D≤(s.R .tr).length→(∀y∈T,y∈T')→W1 (t.put l r) i D T':=fun {i D T T'} h hD hT x hx y hy hne hm=>by
  rw [el] at hx hy
  rw [etr,List.take_append_of_le_length hD] at hm
  exact hT y (h x hx y hy hne hm)
 refine ⟨by rw [evr];exact g.vmax,by show t.nc≤_;rw [hn];exact g.ncm,by rw [put_va,List.length_set,evr,tva,hv],?_,by rw [put_le,List.length_set,evr,ht _ (by simp) (by simp)];exact g.le,by rw [put_re,List.length_set,evr,ht _ (by simp) (by simp)];exact g.rl,
  ?_,?_,?_,?_,?_,?_,?_,?_,?_,?_,?_,?_,?_,?_,?_,?_,?_,?_,?_,?_,?_,?_,?_,?_⟩
 · intro i
   rw [put_va,ht _ (by simp) (by simp)]
   rw [getD_setN (by rw [g.va];omega)]
   split
   · split<;>simp
   · exact g.vb i
 · intro x hx
   rw [etr,List.mem_append,List.mem_singleton] at hx
   rw [evr]
   rcases hx with hx|rfl
   · exact g.tv x hx
   · exact hl
 · rw [etr,List.map_append,List.nodup_append]
   refine ⟨g.nd,by simp,fun a ha c hc e=> ?_⟩
   obtain ⟨x,hx,rfl⟩:=List.mem_map.1 ha
   simp at hc
   rw [hc] at e
   exact fr x hx e
 · intro x hx
   rw [evr] at hx
   rw [eval x hx,etr,List.mem_append,List.mem_singleton]
   by_cases e:amt x=amt l
   · rw [if_pos e]
     by_cases e2:x=l
     · rw [if_pos e2];simp [e2]
     · rw [if_neg e2]
       constructor
       · intro h;omega
       · rintro (h|h)
         · exact absurd e (fr x h)
         · exact absurd h e2
   · rw [if_neg e,g.v1 x hx]
     constructor
     · intro h;exact .inl h
     · rintro (h|h)
       · exact h
       · rw [h] at e;exact absurd rfl e
 · intro j hj
   rw [ebe] at hj ⊢
   rw [etr,List.length_append]
   rcases hb with ⟨e,_⟩| ⟨e,_⟩
   · rw [e] at hj ⊢;have:=g.bl j hj;simp only [List.length_cons,List.length_nil];omega
   · rw [e] at hj ⊢
     by_cases h:j< (s.R .be).length
     · rw [getD_append_lt h];have:=g.bl j h;simp only [List.length_cons,List.length_nil];omega
     · have:j=(s.R .be).length:=by simp at hj;omega
       rw [this,getD_append_eq];simp;omega
 · intro i j hij hj
   rw [ebe] at hj ⊢
   rcases hb with ⟨e,_⟩| ⟨e,_⟩
   · rw [e] at hj ⊢;exact g.bs i j hij hj
   · rw [e] at hj ⊢
     by_cases h:j< (s.R .be).length
     · rw [getD_append_lt h,getD_append_lt (by omega)];exact g.bs i j hij h
     · have:j=(s.R .be).length:=by simp at hj;omega
       rw [this,getD_append_eq,getD_append_lt (by omega)];have:=g.bl i (by omega);omega
 · rw [ebe,eds]
   rcases hb with ⟨e,e2,_⟩| ⟨e,e2,_⟩
   · rw [e,e2];exact g.dl
   · rw [e,e2];simp [g.dl]
 · intro j hj
   rw [ebe] at hj ⊢
   rw [eds]
   have gl:=g.dl
   rcases hb with ⟨e,e2,_⟩| ⟨e,e2,_⟩
   · rw [e] at hj ⊢;rw [e2];exact g.db j hj
   · rw [e] at hj ⊢
     rw [e2]
     by_cases h:j< (s.R .be).length
     · rw [getD_append_lt h,getD_append_lt (by omega)];exact g.db j h
     · have:j=(s.R .be).length:=by simp at hj;omega
       rw [this,getD_append_eq]
       rw [← gl,getD_append_eq];have:=g.dn;omega
 · intro p hp
   rw [etr] at hp ⊢
   rw [ebe,elev]
   by_cases h:p< (s.R .tr).length
   · rw [getD_append_lt h,if_neg (old p h),g.lv p h]
     rcases hb with ⟨e,_⟩| ⟨e,_⟩
     · rw [e]
     · have e9: [((s.R .tr).length:Int)].countP (fun e=>decide (e≤(p:Int)))=0:=List.countP_eq_zero.2 fun x hx=>by
        rw [List.mem_singleton] at hx
        rw [decide_eq_true_eq];omega
       rw [e,List.countP_append,e9,Nat.add_zero]
   · have hp2:p=(s.R .tr).length:=by simp at hp;omega
     rw [hp2,getD_append_eq,if_pos rfl,countP_all]
     intro x hx
     rw [decide_eq_true_eq]
     have key: ∀x∈s.R .be,x< ((s.R .tr).length:Int):=fun x hx=>by
      obtain ⟨j,hj,e⟩:=List.mem_iff_getElem.1 hx
      have:=(g.bl j hj).2
      simp only [List.getD,List.getElem?_eq_getElem hj,Option.getD_some,e] at this
      exact this
     rcases hb with ⟨e,_⟩| ⟨e,_⟩
     · rw [e] at hx;have:=key x hx;omega
     · rw [e,List.mem_append,List.mem_singleton] at hx
       rcases hx with hx|rfl
       · have:=key x hx;omega
       · exact Int.le_refl _
 · intro p hp hm
   rw [etr] at hp ⊢
   rw [ebe] at hm
   rw [erea]
   by_cases h:p< (s.R .tr).length
   · rw [getD_append_lt h,if_neg (old p h)]
     refine g.re1 p h ?_
     rcases hb with ⟨e,_⟩| ⟨e,_⟩
     · rw [e] at hm;exact hm
     · rw [e,List.mem_append,List.mem_singleton] at hm
       rcases hm with hm|hm
       · exact hm
       · omega
   · have hp2:p=(s.R .tr).length:=by simp at hp;omega
     rw [hp2,getD_append_eq,if_pos rfl]
     rw [hp2] at hm
     rcases hb with ⟨e,_⟩| ⟨e,_,e3⟩
     · exfalso
       rw [e] at hm
       obtain ⟨j,hj,e⟩:=List.mem_iff_getElem.1 hm
       have:=(g.bl j hj).2
       simp only [List.getD,List.getElem?_eq_getElem hj,Option.getD_some,e] at this
       omega
     · exact e3
 · intro p hp hm
   rw [etr] at hp ⊢
   rw [ebe] at hm
   rw [erea]
   by_cases h:p< (s.R .tr).length
   · rw [getD_append_lt h,if_neg (old p h)]
     have hm':(p:Int) ∉ s.R .be:=by
      rcases hb with ⟨e,_⟩| ⟨e,_⟩
      · rw [e] at hm;exact hm
      · rw [e] at hm;exact fun h2=>hm (List.mem_append_left _ h2)
     obtain ⟨i,e1,e2,e3,e4⟩:=g.re2 p h hm'
     refine ⟨i,e1,(eth i).2 e2,by rw [el];exact e3,fun x hx hne=> ?_⟩
     rw [el] at hx
     rw [List.take_append_of_le_length (by omega)]
     exact e4 x hx hne
   · have hp2:p=(s.R .tr).length:=by simp at hp;omega
     rw [hp2,getD_append_eq,if_pos rfl]
     rw [hp2] at hm
     rcases hb with ⟨e,_,i,e1,e2,e3,e4⟩| ⟨e,_⟩
     · refine ⟨i,e1,(eth i).2 e2,by rw [el];exact e3,fun x hx hne=> ?_⟩
       rw [el] at hx
       rw [List.take_append_of_le_length (Nat.le_refl _),List.take_length]
       exact e4 x hx hne
     · rw [e] at hm;exact absurd (List.mem_append_right _ (by simp)) hm
 · show t.done≤_
   rw [hd,etr,List.length_append];have:=g.dn;omega
 · intro i hi x hx;rw [el] at hx;rw [evr];exact g.cv i ((eth i).1 hi) x hx
 · intro i hi;rw [el];exact g.cn i ((eth i).1 hi)
 · intro i hi;rw [el];exact g.cl i ((eth i).1 hi)
 · intro i hi;rw [el,ea];exact g.ca i ((eth i).1 hi)
 · intro i;rw [ea];exact g.al i
 · intro j c hc
   rw [ew] at hc
   obtain ⟨i,e1,e2,e3⟩:=g.w1 j c hc
   exact ⟨i,e1,(eth i).2 e2,by rw [el];exact e3⟩
 · intro i hi x hx;rw [el] at hx;rw [ew];exact g.w2 i ((eth i).1 hi) x hx
 · intro j;rw [ew];exact g.w3 j
 · intro c hc
   rw [elo] at hc
   obtain ⟨i,e1,e2⟩:=g.o1 c hc
   exact ⟨i,e1,(eth i).2 e2⟩
 · intro i hi h;rw [el] at h;rw [elo];exact g.o2 i ((eth i).1 hi) h
 · rw [elo];exact g.o3
 · intro i hi h
   rw [elo] at h
   show W1 (t.put l r) i t.done _
   rw [hd,etr]
   exact w1' (g.wd i ((eth i).1 hi) h) g.dn fun y hy=>List.mem_append_left _ hy
 · intro j hj i hi h
   rw [elo] at h
   rw [ebe] at hj ⊢
   rw [eds,etr]
   have gl:=g.dl
   have inb: ∀j,j< (s.R .be).length→W1 (t.put l r) i ((s.R .ds).getD j 0).toNat ((s.R .tr++ [l]).take ((s.R .be).getD j 0).toNat):=fun j hj=>by
    have h1:=g.bl j hj;have h2:=g.db j hj
    rw [List.take_append_of_le_length (by omega)]
    exact w1' (g.wj j hj i ((eth i).1 hi) h) (by omega) fun y hy=>hy
   rcases hb with ⟨e,e2,_⟩| ⟨e,e2,_⟩
   · rw [e] at hj ⊢;rw [e2];exact inb j hj
   · rw [e] at hj ⊢
     rw [e2]
     by_cases h2:j< (s.R .be).length
     · rw [getD_append_lt h2,getD_append_lt (by omega)];exact inb j h2
     · have:j=(s.R .be).length:=by simp at hj;omega
       rw [this,getD_append_eq,← gl,getD_append_eq,Int.toNat_natCast,Int.toNat_natCast,List.take_append_of_le_length (Nat.le_refl _),List.take_length]
       exact w1' (g.wd i ((eth i).1 hi) h) g.dn fun y hy=>hy
end
section
variable {s t u:PSt} {l x y:Int}
theorem sideN_inj (h:sideN x=sideN y):x=y:=by
 unfold sideN at h
 split at h<;>split at h<;>omega
theorem take2_mem {l:List Int}:x∈l.take 2↔(0<l.length∧x=l.getD 0 0)∨(1<l.length∧x=l.getD 1 0):=by
 match l with
 | []=>simp
 | [a]=>simp [List.getD]
 |a::b::r=>simp [List.getD]
theorem rewatch_good (g:Good s) (hs: ∀y,(∀i,y≠Pt.l i)→(∀j,y≠Pt.w j)→y≠ .lo→t.R y=s.R y) (hv:t.vars=s.vars) (hn:t.nc=s.nc) (hg:t.gone=s.gone) (hd:t.done=s.done)
 (pm: ∀i,s.There i→(t.R (.l i)).Perm (s.R (.l i)))
 (wm: ∀j c,c∈t.R (.w j)↔∃i:Nat,c=i∧s.There i∧∃x∈(t.R (.l i)).take 2,sideN x=j) (wn: ∀j,(t.R (.w j)).Nodup)
 (o1: ∀c∈t.R .lo,∃i:Nat,c=i∧s.There i) (o2: ∀i,s.There i→(s.R (.l i)).length<2→(i:Int)∈t.R .lo) (o3:(t.R .lo).Nodup)
 (wz: ∀i,s.There i→(i:Int) ∉ t.R .lo→((i:Int) ∉ s.R .lo∧∀x,x∈(t.R (.l i)).take 2↔x∈(s.R (.l i)).take 2)∨
   ∀x∈(t.R (.l i)).take 2,-x ∉ (s.R .tr).take s.done∧∀j,j< (s.R .be).length→ -x ∉ (s.R .tr).take ((s.R .ds).getD j 0).toNat):Good t:=by
 have e: ∀y,(∀i,y≠Pt.l i)→(∀j,y≠Pt.w j)→y≠ .lo→t.R y=s.R y:=hs
 have etr:t.R .tr=s.R .tr:=e _ (by simp) (by simp) (by simp)
 have ebe:t.R .be=s.R .be:=e _ (by simp) (by simp) (by simp)
 have eds:t.R .ds=s.R .ds:=e _ (by simp) (by simp) (by simp)
 have eva:t.R .va=s.R .va:=e _ (by simp) (by simp) (by simp)
 have ele:t.R .le=s.R .le:=e _ (by simp) (by simp) (by simp)
 have ere:t.R .re=s.R .re:=e _ (by simp) (by simp) (by simp)
 have ea: ∀i,t.R (.a i)=s.R (.a i):=fun i=>e _ (by simp) (by simp) (by simp)
 have eth: ∀i,t.There i↔s.There i:=fun i=>by show (i<t.nc∧t.gone i=false)↔_;rw [hn,hg];exact Iff.rfl
 have ev: ∀x,t.val x=s.val x:=fun x=>val_eq eva x
 have elev: ∀x,t.lev x=s.lev x:=fun x=>by unfold PSt.lev;rw [ele]
 have erea: ∀x,t.rea x=s.rea x:=fun x=>by unfold PSt.rea;rw [ere]
 refine ⟨by rw [hv];exact g.vmax,by rw [hn];exact g.ncm,by rw [eva,hv];exact g.va,by rw [eva];exact g.vb,by rw [ele,hv];exact g.le,by rw [ere,hv];exact g.rl,by rw [etr,hv];exact g.tv,by rw [etr];exact g.nd,fun x hx=>by rw [ev,etr];exact g.v1 x (by rw [hv] at hx;exact hx),
  by rw [ebe,etr];exact g.bl,by rw [ebe];exact g.bs,by rw [eds,ebe];exact g.dl,by rw [ebe,eds];exact g.db,fun p hp=>by rw [etr] at hp ⊢;rw [elev,ebe];exact g.lv p hp,fun p hp hm=>by rw [etr] at hp ⊢;rw [erea];rw [ebe] at hm;exact g.re1 p hp hm,
  fun p hp hm=> ?_,by rw [hd,etr];exact g.dn,fun i hi x hx=>by rw [hv];exact g.cv i ((eth i).1 hi) x ((pm i ((eth i).1 hi)).mem_iff.1 hx),fun i hi=> (pm i ((eth i).1 hi)).nodup_iff.2 (g.cn i ((eth i).1 hi)),
  fun i hi=>by rw [(pm i ((eth i).1 hi)).length_eq];exact g.cl i ((eth i).1 hi),fun i hi x=>by rw [(pm i ((eth i).1 hi)).mem_iff,ea];exact g.ca i ((eth i).1 hi) x,fun i=>by rw [ea];exact g.al i,
  fun j c hc=> ?_,fun i hi x hx=> ?_,wn,fun c hc=> ?_,fun i hi h=> ?_,o3,fun i hi h=> ?_,fun j hj i hi h=> ?_⟩
 · rw [etr] at hp ⊢
   rw [ebe] at hm
   obtain ⟨i,e1,e2,e3,e4⟩:=g.re2 p hp hm
   exact ⟨i,by rw [erea];exact e1,(eth i).2 e2,(pm i e2).mem_iff.2 e3,fun x hx hne=>e4 x ((pm i e2).mem_iff.1 hx) hne⟩
 · obtain ⟨i,e1,e2,e3⟩:=(wm j c).1 hc
   exact ⟨i,e1,(eth i).2 e2,e3⟩
 · exact (wm _ _).2 ⟨i,rfl,(eth i).1 hi,x,hx,rfl⟩
 · obtain ⟨i,e1,e2⟩:=o1 c hc
   exact ⟨i,e1,(eth i).2 e2⟩
 · rw [(pm i ((eth i).1 hi)).length_eq] at h;exact o2 i ((eth i).1 hi) h
 · intro x hx y hy hne hm
   rw [etr,hd] at hm
   rw [etr]
   rcases wz i ((eth i).1 hi) h with ⟨h1,h2⟩|h1
   · exact g.wd i ((eth i).1 hi) h1 x ((h2 x).1 hx) y ((h2 y).1 hy) hne hm
   · exact absurd hm (h1 x hx).1
 · intro x hx y hy hne hm
   rw [ebe] at hj
   rw [etr,eds] at hm
   rw [etr,ebe]
   rcases wz i ((eth i).1 hi) h with ⟨h1,h2⟩|h1
   · exact g.wj j hj i ((eth i).1 hi) h1 x ((h2 x).1 hx) y ((h2 y).1 hy) hne hm
   · exact absurd hm ((h1 x hx).2 j hj)
theorem Good.wm (g:Good s) (j:Nat) (c:Int):c∈s.R (.w j)↔∃i:Nat,c=i∧s.There i∧∃x∈(s.R (.l i)).take 2,sideN x=j:=
 ⟨g.w1 j c,fun ⟨i,e1,e2,x,e3,e4⟩=>by subst e1 e4;exact g.w2 i e2 x e3⟩
theorem unF_mem (i:Int) (j:Nat) (c:Int): ∀ (xs:List Int) (t:PSt),c∈(unF i t xs).R (.w j)↔c∈t.R (.w j)∧(c≠i∨∀x∈xs,sideN x≠j)
 | [],t=>by simp [unF]
 |z::xs,t=>by
  show c∈(unF i (t.set (.w (sideN z)) ((t.R (.w (sideN z))).filter fun k=> !(k==i))) xs).R (.w j)↔_
  rw [unF_mem i j c xs]
  by_cases e:sideN z=j
  · subst e
    rw [set_eq,List.mem_filter]
    simp only [List.mem_cons,Bool.not_eq_true',beq_eq_false_iff_ne,ne_eq]
    constructor
    · rintro ⟨⟨h1,h2⟩,_⟩;exact ⟨h1,.inl h2⟩
    · rintro ⟨h1,h2|h2⟩
      · exact ⟨⟨h1,h2⟩,.inl h2⟩
      · exact absurd rfl (h2 z (.inl rfl))
  · rw [set_ne (fun h=>e (by injection h with h;exact h.symm))]
    simp only [List.mem_cons,ne_eq]
    constructor
    · rintro ⟨h1,h2|h2⟩
      · exact ⟨h1,.inl h2⟩
      · refine ⟨h1,.inr fun x hx=> ?_⟩
        rcases hx with rfl|hx
        · exact e
        · exact h2 x hx
    · rintro ⟨h1,h2|h2⟩
      · exact ⟨h1,.inl h2⟩
      · exact ⟨h1,.inr fun x hx=>h2 x (.inr hx)⟩
theorem unF_nodup (i:Int) (j:Nat): ∀ (xs:List Int) (t:PSt),(t.R (.w j)).Nodup→((unF i t xs).R (.w j)).Nodup
 | [],_,h=>h
 |z::xs,t,h=>by
  refine unF_nodup i j xs _ ?_
  by_cases e:sideN z=j
  · subst e;rw [set_eq];exact h.filter _
  · rw [set_ne (fun h=>e (by injection h with h;exact h.symm))];exact h
theorem wF_mem (i:Int) (j:Nat) (c:Int): ∀ (xs:List Int) (t:PSt),c∈(wF i t xs).R (.w j)↔c∈t.R (.w j)∨(c=i∧∃x∈xs,sideN x=j)
 | [],t=>by simp [wF]
 |z::xs,t=>by
  show c∈(wF i (t.set (.w (sideN z)) (t.R (.w (sideN z))++ [i])) xs).R (.w j)↔_
  rw [wF_mem i j c xs]
  by_cases e:sideN z=j
  · subst e
    rw [set_eq,List.mem_append,List.mem_singleton]
    constructor
    · rintro ((h|h)| ⟨h,x,hx,hxe⟩)
      · exact .inl h
      · exact .inr ⟨h,z,List.mem_cons_self ..,rfl⟩
      · exact .inr ⟨h,x,List.mem_cons_of_mem _ hx,hxe⟩
    · rintro (h| ⟨h,_⟩)
      · exact .inl (.inl h)
      · exact .inl (.inr h)
  · rw [set_ne (fun h=>e (by injection h with h;exact h.symm))]
    constructor
    · rintro (h| ⟨h,x,hx,hxe⟩)
      · exact .inl h
      · exact .inr ⟨h,x,List.mem_cons_of_mem _ hx,hxe⟩
    · rintro (h| ⟨h,x,hx,hxe⟩)
      · exact .inl h
      · rcases List.mem_cons.1 hx with rfl|hx
        · exact absurd hxe e
        · exact .inr ⟨h,x,hx,hxe⟩
theorem nodup_snoc {l:List Int} {a:Int} (h:l.Nodup) (ha:a ∉ l):(l++ [a]).Nodup:=by
 rw [List.nodup_append]
 refine ⟨h,by simp,fun x hx y hy e=> ?_⟩
 rw [List.mem_singleton] at hy
 rw [e,hy] at hx
 exact ha hx
theorem wF_nodup (i:Int) (j:Nat): ∀ (xs:List Int) (t:PSt),xs.Nodup→(t.R (.w j)).Nodup→((∃x∈xs,sideN x=j)→i ∉ t.R (.w j))→((wF i t xs).R (.w j)).Nodup
 | [],_,_,h,_=>h
 |z::xs,t,hx,h,hi=>by
  obtain ⟨hz,hx'⟩:=List.nodup_cons.1 hx
  by_cases e:sideN z=j
  · subst e
    refine wF_nodup i _ xs _ hx' ?_ ?_
    · rw [set_eq];exact nodup_snoc h (hi ⟨z,List.mem_cons_self ..,rfl⟩)
    · rintro ⟨x,hxm,hxe⟩
      rw [sideN_inj hxe] at hxm
      exact absurd hxm hz
  · refine wF_nodup i j xs _ hx' ?_ ?_
    · rw [set_ne (fun h=>e (by injection h with h;exact h.symm))];exact h
    · rintro ⟨x,hxm,hxe⟩
      rw [set_ne (fun h=>e (by injection h with h;exact h.symm))]
      exact hi ⟨x,List.mem_cons_of_mem _ hxm,hxe⟩
theorem take2_nodup {l:List Int} (h:l.Nodup):(l.take 2).Nodup:=(List.take_sublist 2 l).nodup h
end
section
variable {s t u s':PSt} {l x y:Int} {i:Nat}
structure Ext (s s':PSt):Prop where
 v:s'.vars=s.vars
 n:s'.nc=s.nc
 g:s'.gone=s.gone
 a: ∀i,s'.R (.a i)=s.R (.a i)
 be:s'.R .be=s.R .be
 ds:s'.R .ds=s.R .ds
 tr: ∃e,s'.R .tr=s.R .tr++e
theorem Ext.refl (s:PSt):Ext s s:=⟨rfl,rfl,rfl,fun _=>rfl,rfl,rfl,[],by simp⟩
theorem Ext.trans (h:Ext s t) (k:Ext t u):Ext s u:=by
 obtain ⟨e,he⟩:=h.tr
 obtain ⟨e2,he2⟩:=k.tr
 exact ⟨k.v.trans h.v,k.n.trans h.n,k.g.trans h.g,fun i=> (k.a i).trans (h.a i),k.be.trans h.be,k.ds.trans h.ds,e++e2,by rw [he2,he,List.append_assoc]⟩
theorem Ext.mem (h:Ext s t) (hx:x∈s.R .tr):x∈t.R .tr:=by
 obtain ⟨e,he⟩:=h.tr
 rw [he];exact List.mem_append_left _ hx
theorem Ext.there (h:Ext s t):t.There i↔s.There i:=by
 show (i<t.nc∧t.gone i=false)↔_
 rw [h.n,h.g];exact Iff.rfl
theorem Ext.set {x:Pt} (h1: ∀i,x≠ .a i) (h2:x≠ .be) (h3:x≠ .ds) (h4:x≠ .tr) {l:List Int}:Ext s (s.set x l):=
 ⟨rfl,rfl,rfl,fun i=>set_ne (fun e=>h1 i e.symm),set_ne (Ne.symm h2),set_ne (Ne.symm h3),[],by rw [set_ne (Ne.symm h4)];simp⟩
theorem Ext.put {r:Int}:Ext s (s.put l r):=
 ⟨rfl,rfl,rfl,fun _=>put_R (by simp) (by simp) (by simp) (by simp),put_R (by simp) (by simp) (by simp) (by simp),put_R (by simp) (by simp) (by simp) (by simp),[l],put_tr⟩
theorem Ext.wF {c:Int} {xs:List Int}:Ext s (wF c s xs):=by
 obtain ⟨h1,h2,h3,_⟩:=wF_vars c xs s
 exact ⟨h1,h2,h3,fun _=>wF_R c (by simp) _ _,wF_R c (by simp) _ _,wF_R c (by simp) _ _,[],by rw [wF_R c (by simp)];simp⟩
theorem Ext.unF {c:Int} {xs:List Int}:Ext s (unF c s xs):=by
 obtain ⟨h1,h2,h3,_⟩:=unF_vars c xs s
 exact ⟨h1,h2,h3,fun _=>unF_R c (by simp) _ _,unF_R c (by simp) _ _,unF_R c (by simp) _ _,[],by rw [unF_R c (by simp)];simp⟩
theorem front_take2 {l:List Int} {f:Int}:x∈(front l f).take 2↔x∈l.take 2:=by
 unfold front
 split
 · rename_i h
   rw [take2_mem,take2_mem,swp_len,swp_get (by omega) h.2,swp_get (by omega) h.2]
   simp only [if_pos,if_neg (show (0:Nat)≠1 by omega),if_neg (show (1:Nat)≠0 by omega)]
   constructor
   · rintro (⟨a,b⟩| ⟨a,b⟩)
     · exact .inr ⟨h.2,b⟩
     · exact .inl ⟨by omega,b⟩
   · rintro (⟨a,b⟩| ⟨a,b⟩)
     · exact .inr ⟨h.2,b⟩
     · exact .inl ⟨by omega,b⟩
 · exact Iff.rfl
theorem front_snd {l:List Int} {f:Int} (h2:2≤l.length) (hf:f∈l.take 2):(front l f).getD 1 0=f:=by
 unfold front
 rcases take2_mem.1 hf with ⟨_,e⟩| ⟨_,e⟩
 · rw [if_pos ⟨e.symm,by omega⟩,swp_get (by omega) (by omega),if_pos rfl,e]
 · split
   · rename_i h
     rw [swp_get (by omega) (by omega),if_pos rfl,h.1]
   · exact e.symm
theorem front_good (g:Good s) (i:Nat) (f:Int):Good (s.set (.l i) (front (s.R (.l i)) f)):=by
 have el: ∀k,(s.set (.l i) (front (s.R (.l i)) f)).R (.l k)=if k=i then front (s.R (.l i)) f else s.R (.l k):=fun k=>by
  by_cases e:k=i
  · rw [if_pos e,e,set_eq]
  · rw [if_neg e,set_ne (by simpa using e)]
 have et: ∀k x,x∈((s.set (.l i) (front (s.R (.l i)) f)).R (.l k)).take 2↔x∈(s.R (.l k)).take 2:=fun k x=>by
  rw [el]
  split
  · rename_i e;rw [e];exact front_take2
  · exact Iff.rfl
 refine rewatch_good g (fun y h1 _ _=>set_ne (h1 i)) rfl rfl rfl rfl (fun k _=> ?_) (fun j c=> ?_) (fun j=>by rw [set_ne (by simp)];exact g.w3 j) (by rw [set_ne (by simp)];exact g.o1) (by rw [set_ne (by simp)];exact g.o2) (by rw [set_ne (by simp)];exact g.o3)
  (fun k _ h=> .inl ⟨by rw [set_ne (by simp)] at h;exact h,et k⟩)
 · rw [el]
   split
   · rename_i e;rw [e];exact front_perm _ _
   · exact List.Perm.refl _
 · rw [set_ne (by simp),g.wm]
   constructor
   · rintro ⟨k,e1,e2,x,hx,e3⟩;exact ⟨k,e1,e2,x,(et k x).2 hx,e3⟩
   · rintro ⟨k,e1,e2,x,hx,e3⟩;exact ⟨k,e1,e2,x,(et k x).1 hx,e3⟩
def Pg (s:PSt) (i:Nat):Prop:=(i:Int) ∉ s.R .lo→W1 s i (s.done+1) (s.R .tr)
theorem mem_take_succ' {l:List Int} {n:Nat} (h:n<l.length):x∈l.take (n+1)↔x∈l.take n∨x=l.getD n 0:=mem_take_succ h
theorem put_Pg {r:Int} (h:Pg s i) (hd:s.done< (s.R .tr).length):Pg (s.put l r) i:=by
 intro hlo x hx y hy hne hm
 rw [put_R (by simp) (by simp) (by simp) (by simp)] at hlo hx hy
 rw [put_tr] at hm ⊢
 have hm: -x∈(s.R .tr++ [l]).take (s.done+1):=hm
 rw [List.take_append_of_le_length (show s.done+1≤_ from hd)] at hm
 exact List.mem_append_left _ (h hlo x hx y hy hne hm)
theorem visit_good (g:Good s) (hi:s.There i) (h2:2≤(s.R (.l i)).length) {f:Int} (hf:f∈(s.R (.l i)).take 2) (hd:s.done< (s.R .tr).length) (hp:(s.R .tr).getD s.done 0= -f) {st br:Bool} (V:Vis s i (front (s.R (.l i)) f) s' st br)
 {r:List Int} (hr1:st=true→r=s.R (.w (sideN f))) (hr2:st=false→(∀c,c∈r↔c∈s.R (.w (sideN f))∧c≠(i:Int))∧r.Nodup):
 Good (s'.set (.w (sideN f)) r)∧(br=false→Pg (s'.set (.w (sideN f)) r) i)∧(∀k,k≠i→Pg s k→Pg (s'.set (.w (sideN f)) r) k)∧Ext s (s'.set (.w (sideN f)) r)∧(br=true→∀x∈s.R (.l i),-x∈s.R .tr)∧
  s'.R .lo=s.R .lo∧s'.done=s.done∧(∀j,j≠sideN f→∀c,c∈s.R (.w j)→c∈s'.R (.w j))∧(∀k,k≠i→s'.R (.l k)=s.R (.l k))∧(∀x,x∈s'.R (.l i)↔x∈s.R (.l i)):=by
 have hfl:f∈s.R (.l i):=List.mem_of_mem_take hf
 have hfv:=g.cv i hi f hfl
 have hft: -f∈s.R .tr:=by rw [← hp];exact getD_mem' hd
 have hff:f ∉ s.R .tr:=fun e=>g.cons e hft
 have hm1:=front_snd h2 hf
 have hml:=front_len (s.R (.l i)) f
 have hmp:=front_perm (s.R (.l i)) f
 have hmt: ∀x,x∈(front (s.R (.l i)) f).take 2↔x∈(s.R (.l i)).take 2:=fun x=>front_take2
 have gm:=front_good g i f
 generalize front (s.R (.l i)) f=m at*
 have hmn:m.Nodup:=hmp.nodup_iff.2 (g.cn i hi)
 have h0f:m.getD 0 0≠f:=fun e=>by
  have:=(List.getElem_inj (h₀:=show 0<m.length by omega) (h₁:=show 1<m.length by omega) hmn).1 (by
   have e0:m.getD 0 0=m[0]:=by simp [List.getD,show 0<m.length by omega]
   have e1:m.getD 1 0=m[1]:=by simp [List.getD,show 1<m.length by omega]
   rw [← e0,← e1,e,hm1])
  omega
 have h0m:m.getD 0 0∈m:=getD_mem' (by omega)
 have h0v:InV s.vars (m.getD 0 0):=g.cv i hi _ (hmp.mem_iff.1 h0m)
 have same:st=true→s'.R (.w (sideN f))=s.R (.w (sideN f))→s'.set (.w (sideN f)) r=s':=fun h e=>by rw [hr1 h,← e,set_self']
 have tm: ∀x,x∈m.take 2↔x=m.getD 0 0∨x=f:=fun x=>by
  rw [take2_mem,hm1]
  exact ⟨fun h=>h.elim (fun h=> .inl h.2) fun h=> .inr h.2,fun h=>h.elim (fun h=> .inl ⟨by omega,h⟩) fun h=> .inr ⟨by omega,h⟩⟩
 have setPg: ∀k,k≠i→Pg s k→Pg (s.set (.l i) m) k:=fun k hk h hlo x hx y hy hne hm=>by
  rw [set_ne (by simp)] at hlo
  rw [set_ne (by simpa using hk)] at hx hy
  rw [set_ne (by simp)] at hm ⊢
  exact h hlo x hx y hy hne hm
 cases V with
 |sat h=>
  have e:(s.set (.l i) m).R (.w (sideN f))=s.R (.w (sideN f)):=set_ne (by simp)
  rw [same rfl e]
  have h0t:=(g.vgt h0v).1 h
  refine ⟨gm,fun _ hlo x hx y hy hne hm=> ?_,setPg,Ext.set (by simp) (by simp) (by simp) (by simp),fun h=> (by cases h),set_ne (by simp),rfl,fun j _ c hc=> (by rw [set_ne (by simp)];exact hc),fun k hk=>set_ne (by simpa using hk),fun x=>by rw [set_eq];exact hmp.mem_iff⟩
  rw [set_eq] at hx hy
  rw [set_ne (by simp)] at hm ⊢
  rcases (tm x).1 hx with rfl|rfl
  · exact absurd (List.mem_of_mem_take hm) (g.cons h0t)
  · rcases (tm y).1 hy with rfl|rfl
    · exact h0t
    · exact absurd rfl hne
 |broken h hall=>
  have e:(s.set (.l i) m).R (.w (sideN f))=s.R (.w (sideN f)):=set_ne (by simp)
  rw [same rfl e]
  refine ⟨gm,fun h=> (by cases h),setPg,Ext.set (by simp) (by simp) (by simp) (by simp),fun _ x hx=> ?_,set_ne (by simp),rfl,fun j _ c hc=> (by rw [set_ne (by simp)];exact hc),fun k hk=>set_ne (by simpa using hk),fun x=>by rw [set_eq];exact hmp.mem_iff⟩
  have hxm:=hmp.mem_iff.2 hx
  obtain ⟨j,hj,e⟩:=List.mem_iff_getElem.1 hxm
  have ej:m.getD j 0=x:=by simp [List.getD,hj,e]
  have hxv:=g.cv i hi x hx
  match j,ej with
  |0,ej=>rw [ej] at h;exact (g.vlt hxv).1 h
  |1,ej=>rw [hm1] at ej;rw [← ej];exact hft
  |j+2,ej=>have:=hall (j+2) (by omega) hj;rw [ej] at this;exact (g.vlt hxv).1 this
 |unit h hall=>
  have e:((s.set (.l i) m).put (m.getD 0 0) i).R (.w (sideN f))=s.R (.w (sideN f)):=by rw [put_R (by simp) (by simp) (by simp) (by simp),set_ne (by simp)]
  rw [same rfl e]
  have ev:(s.set (.l i) m).val (m.getD 0 0)=0:=by rw [val_eq (s:=s) (set_ne (by simp))];exact h
  have oth: ∀x∈m,x≠m.getD 0 0→ -x∈s.R .tr:=fun x hx hne=>by
   obtain ⟨j,hj,e⟩:=List.mem_iff_getElem.1 hx
   have ej:m.getD j 0=x:=by simp [List.getD,hj,e]
   have hxv:=g.cv i hi x (hmp.mem_iff.1 hx)
   match j,ej with
   |0,ej=>exact absurd ej.symm hne
   |1,ej=>rw [hm1] at ej;rw [← ej];exact hft
   |j+2,ej=>have:=hall (j+2) (by omega) hj;rw [ej] at this;exact (g.vlt hxv).1 this
  have gp:Good ((s.set (.l i) m).put (m.getD 0 0) i):=put_good gm h0v ev (fun _ _ _=>rfl) rfl rfl rfl rfl (.inl ⟨rfl,rfl,i,rfl,hi,by rw [set_eq];exact h0m,fun x hx hne=>by
   rw [set_eq] at hx;rw [set_ne (by simp)];exact oth x hx hne⟩)
  have xt:Ext s ((s.set (.l i) m).put (m.getD 0 0) i):=(Ext.set (by simp) (by simp) (by simp) (by simp)).trans Ext.put
  refine ⟨gp,fun _ hlo x hx y hy hne hm=> ?_,fun k hk h=>put_Pg (setPg k hk h) (by rw [set_ne (by simp)];exact hd),xt,fun h=> (by cases h),by rw [put_R (by simp) (by simp) (by simp) (by simp),set_ne (by simp)],rfl,
   fun j _ c hc=> (by rw [put_R (by simp) (by simp) (by simp) (by simp),set_ne (by simp)];exact hc),fun k hk=>by rw [put_R (by simp) (by simp) (by simp) (by simp)];exact set_ne (by simpa using hk),fun x=>by rw [put_R (by simp) (by simp) (by simp) (by simp),set_eq];exact hmp.mem_iff⟩
  rw [put_R (by simp) (by simp) (by simp) (by simp),set_eq] at hx hy
  have h0t:m.getD 0 0∈((s.set (.l i) m).put (m.getD 0 0) i).R .tr:=by rw [put_tr];simp
  rcases (tm x).1 hx with rfl|rfl
  · exact absurd (List.mem_of_mem_take hm) (gp.cons h0t)
  · rcases (tm y).1 hy with rfl|rfl
    · exact h0t
    · exact absurd rfl hne
 |moved k hn k2 kl hk=>
  obtain ⟨hr,hrn⟩:=hr2 rfl
  have hzm:m.getD k 0∈m:=getD_mem' kl
  generalize hz:m.getD k 0=z at*
  have hzv:=g.cv i hi z (hmp.mem_iff.1 hzm)
  have hzf:z≠f:=fun e=>by
   have:=(g.vlt hfv).2 hft
   rw [← e] at this;omega
  have hz2:z ∉ m.take 2:=fun e=>by
   rcases (tm z).1 e with e|e
   · have:=(List.getElem_inj (h₀:=show 0<m.length by omega) (h₁:=kl) hmn).1 (by
      have e0:m.getD 0 0=m[0]:=by simp [List.getD,show 0<m.length by omega]
      have e1:m.getD k 0=m[k]:=by simp [List.getD,kl]
      rw [← e0,← e1,hz,e])
     omega
   · exact hzf e
  have hsf:sideN z≠sideN f:=fun e=>hzf (sideN_inj e)
  have t2: ∀x,x∈(swp m 1 k).take 2↔x=m.getD 0 0∨x=z:=fun x=>by
   have e0:(swp m 1 k).getD 0 0=m.getD 0 0:=by rw [swp_get (by omega) (by omega),if_neg (by omega),if_neg (by omega)]
   have e1:(swp m 1 k).getD 1 0=z:=by rw [swp_get (by omega) (by omega),if_neg (by omega),if_pos rfl,hz]
   rw [take2_mem,swp_len,e0,e1]
   exact ⟨fun h=>h.elim (fun h=> .inl h.2) fun h=> .inr h.2,fun h=>h.elim (fun h=> .inl ⟨by omega,h⟩) fun h=> .inr ⟨by omega,h⟩⟩
  have hp2:(swp m 1 k).Perm (s.R (.l i)):=(perm_swp (by omega) kl).trans hmp
  have ezt: -z ∉ s.R .tr:=fun e=>by have:=(g.vlt hzv).2 e;omega
  have etr: ∀y,(∀i,y≠Pt.l i)→(∀j,y≠Pt.w j)→(((s.set (.l i) (swp m 1 k)).set (.w (sideN z)) (s.R (.w (sideN z))++ [(i:Int)])).set (.w (sideN f)) r).R y=s.R y:=fun y h1 h2=>by
   rw [set_ne (h2 _),set_ne (h2 _),set_ne (h1 _)]
  have el: ∀q,(((s.set (.l i) (swp m 1 k)).set (.w (sideN z)) (s.R (.w (sideN z))++ [(i:Int)])).set (.w (sideN f)) r).R (.l q)=if q=i then swp m 1 k else s.R (.l q):=fun q=>by
   rw [set_ne (by simp),set_ne (by simp)]
   by_cases e:q=i
   · rw [if_pos e,e,set_eq]
   · rw [if_neg e,set_ne (by simpa using e)]
  have ew: ∀j c,c∈(((s.set (.l i) (swp m 1 k)).set (.w (sideN z)) (s.R (.w (sideN z))++ [(i:Int)])).set (.w (sideN f)) r).R (.w j)↔(c∈s.R (.w j)∧(j=sideN f→c≠(i:Int)))∨(j=sideN z∧c=(i:Int)):=fun j c=>by
   by_cases e:j=sideN f
   · subst e
     rw [set_eq,hr]
     exact ⟨fun h=> .inl ⟨h.1,fun _=>h.2⟩,fun h=>h.elim (fun h=> ⟨h.1,h.2 rfl⟩) fun h=>absurd h.1.symm hsf⟩
   · rw [set_ne (by simpa using e)]
     by_cases e2:j=sideN z
     · subst e2
       rw [set_eq,List.mem_append,List.mem_singleton]
       exact ⟨fun h=>h.elim (fun h=> .inl ⟨h,fun h=>absurd h e⟩) fun h=> .inr ⟨rfl,h⟩,fun h=>h.elim (fun h=> .inl h.1) fun h=> .inr h.2⟩
     · rw [set_ne (by simpa using e2),set_ne (by simp)]
       exact ⟨fun h=> .inl ⟨h,fun h=>absurd h e⟩,fun h=>h.elim (fun h=>h.1) fun h=>absurd h.1 e2⟩
  have out:(i:Int) ∉ s.R (.w (sideN z)):=fun e=>by
   obtain ⟨q,e1,e2,x,hx,e3⟩:=g.w1 _ _ e
   have:q=i:=by omega
   subst this
   rw [sideN_inj e3] at hx
   exact hz2 ((hmt z).2 hx)
  have other:(i:Int) ∉ s.R .lo→(∀D,(∀x∈(s.R (.l i)).take 2,∀y∈(s.R (.l i)).take 2,x≠y→ -x∈(s.R .tr).take D→y∈s.R .tr)→ -(m.getD 0 0) ∉ (s.R .tr).take D):=fun _ D h hm=>by
   have:=h (m.getD 0 0) ((hmt _).1 ((tm _).2 (.inl rfl))) f hf h0f hm
   exact hff this
  have G':Good (((s.set (.l i) (swp m 1 k)).set (.w (sideN z)) (s.R (.w (sideN z))++ [(i:Int)])).set (.w (sideN f)) r):=by
   refine rewatch_good g (fun y h1 h2 _=>etr y h1 h2) rfl rfl rfl rfl (fun q _=> ?_) (fun j c=> ?_) (fun j=> ?_) (by rw [etr _ (by simp) (by simp)];exact g.o1) (by rw [etr _ (by simp) (by simp)];exact g.o2) (by rw [etr _ (by simp) (by simp)];exact g.o3) (fun q hq hlo=> ?_)
   · rw [el]
     split
     · rename_i e;rw [e];exact hp2
     · exact List.Perm.refl _
   · rw [ew,g.wm]
     constructor
     · rintro (⟨⟨q,e1,e2,x,hx,e3⟩,h⟩| ⟨e1,e2⟩)
       · refine ⟨q,e1,e2,?_⟩
         rw [el]
         by_cases e:q=i
         · subst e
           rw [if_pos rfl]
           rcases (tm x).1 ((hmt x).2 hx) with rfl|rfl
           · exact ⟨_,(t2 _).2 (.inl rfl),e3⟩
           · exact absurd e1 (h e3.symm)
         · rw [if_neg e];exact ⟨x,hx,e3⟩
       · exact ⟨i,e2,hi,z,by rw [el,if_pos rfl];exact (t2 _).2 (.inr rfl),e1.symm⟩
     · rintro ⟨q,e1,e2,x,hx,e3⟩
       rw [el] at hx
       by_cases e:q=i
       · subst e
         rw [if_pos rfl] at hx
         rcases (t2 x).1 hx with rfl|rfl
         · refine .inl ⟨⟨q,e1,e2,_,(hmt _).1 ((tm _).2 (.inl rfl)),e3⟩,fun h=> ?_⟩
           exact absurd (sideN_inj (e3.trans h)) h0f
         · exact .inr ⟨e3.symm,e1⟩
       · rw [if_neg e] at hx
         exact .inl ⟨⟨q,e1,e2,x,hx,e3⟩,fun _ h=>e (by omega)⟩
   · by_cases e:j=sideN f
     · subst e;rw [set_eq];exact hrn
     · rw [set_ne (by simpa using e)]
       by_cases e2:j=sideN z
       · subst e2;rw [set_eq];exact nodup_snoc (g.w3 _) out
       · rw [set_ne (by simpa using e2),set_ne (by simp)];exact g.w3 j
   · rw [etr _ (by simp) (by simp)] at hlo
     rw [el]
     by_cases e:q=i
     · subst e
       rw [if_pos rfl]
       refine .inr fun x hx=> ?_
       rcases (t2 x).1 hx with rfl|rfl
       · exact ⟨other hlo _ (g.wd q hi hlo),fun j hj=>other hlo _ fun x hx y hy hne hm=>List.mem_of_mem_take (g.wj j hj q hi hlo x hx y hy hne hm)⟩
       · exact ⟨fun h=>ezt (List.mem_of_mem_take h),fun j _ h=>ezt (List.mem_of_mem_take h)⟩
     · rw [if_neg e];exact .inl ⟨hlo,fun _=>Iff.rfl⟩
  refine ⟨G',fun _ hlo x hx y hy hne hm=> ?_,fun q hq h hlo x hx y hy hne hm=> ?_,?_,fun h=> (by cases h),by rw [set_ne (by simp),set_ne (by simp)],rfl,fun j hj c hc=> ?_,fun q hq=>by rw [set_ne (by simp),set_ne (by simpa using hq)],fun x=>by rw [set_ne (by simp),set_eq];exact hp2.mem_iff⟩
  · rw [etr _ (by simp) (by simp)] at hlo hm ⊢
    rw [el,if_pos rfl] at hx hy
    have hm: -x∈(s.R .tr).take (s.done+1):=hm
    exfalso
    rcases (t2 x).1 hx with rfl|rfl
    · rcases (mem_take_succ' hd).1 hm with hm|hm
      · exact other hlo _ (g.wd i hi hlo) hm
      · rw [hp] at hm
        exact h0f (by omega)
    · exact ezt (List.mem_of_mem_take hm)
  · rw [etr _ (by simp) (by simp)] at hlo hm ⊢
    rw [el,if_neg hq] at hx hy
    exact h hlo x hx y hy hne hm
  · exact ⟨rfl,rfl,rfl,fun q=>etr _ (by simp) (by simp),etr _ (by simp) (by simp),etr _ (by simp) (by simp),[],by rw [etr _ (by simp) (by simp)];simp⟩
  · by_cases e2:j=sideN z
    · subst e2;rw [set_eq];exact List.mem_append_left _ hc
    · rw [set_ne (by simpa using e2),set_ne (by simp)];exact hc
theorem again_good (g:Good s) (hi:s.There i) {keep rest:List Int} (hlo:s.R .lo=keep++ (i:Int)::rest) {l':List Int} (pm:l'.Perm (s.R (.l i))) (h2:2≤l'.length) (v0:0≤s.val (l'.getD 0 0)) (v1:0≤s.val (l'.getD 1 0)):
 Good ((wF i ((unF i s ((s.R (.l i)).take 2)).set (.l i) l') (l'.take 2)).set .lo (keep++rest)):=by
 have eR: ∀y,(∀i,y≠Pt.l i)→(∀j,y≠Pt.w j)→y≠ .lo→((wF i ((unF i s ((s.R (.l i)).take 2)).set (.l i) l') (l'.take 2)).set .lo (keep++rest)).R y=s.R y:=fun y h1 h2 h3=>by
  rw [set_ne h3,wF_R _ h2,set_ne (h1 _),unF_R _ h2]
 have el: ∀q,((wF i ((unF i s ((s.R (.l i)).take 2)).set (.l i) l') (l'.take 2)).set .lo (keep++rest)).R (.l q)=if q=i then l' else s.R (.l q):=fun q=>by
  rw [set_ne (by simp),wF_R _ (by simp)]
  by_cases e:q=i
  · rw [if_pos e,e,set_eq]
  · rw [if_neg e,set_ne (by simpa using e),unF_R _ (by simp)]
 have ew: ∀j c,c∈((wF i ((unF i s ((s.R (.l i)).take 2)).set (.l i) l') (l'.take 2)).set .lo (keep++rest)).R (.w j)↔(c∈s.R (.w j)∧c≠(i:Int))∨(c=(i:Int)∧∃x∈l'.take 2,sideN x=j):=fun j c=>by
  rw [set_ne (by simp),wF_mem,set_ne (by simp),unF_mem]
  constructor
  · rintro (⟨h1,h2|h2⟩|h)
    · exact .inl ⟨h1,h2⟩
    · refine .inl ⟨h1,fun e=> ?_⟩
      subst e
      obtain ⟨q,e1,e2,x,hx,e3⟩:=g.w1 _ _ h1
      have:q=i:=by omega
      subst this
      exact h2 x hx e3
    · exact .inr h
  · rintro (⟨h1,h2⟩|h)
    · exact .inl ⟨h1,.inl h2⟩
    · exact .inr h
 obtain ⟨d1,d2,d3,d4⟩:=wF_vars i (l'.take 2) ((unF i s ((s.R (.l i)).take 2)).set (.l i) l')
 obtain ⟨u1,u2,u3,u4⟩:=unF_vars i ((s.R (.l i)).take 2) s
 have nl:=g.o3
 rw [hlo] at nl
 have hsub:(keep++rest).Sublist (keep++ (i:Int)::rest):=List.Sublist.append (List.Sublist.refl _) (List.sublist_cons_self _ _)
 have hmem: ∀c,c∈s.R .lo→c≠(i:Int)→c∈keep++rest:=fun c hc hne=>by
  rw [hlo,List.mem_append,List.mem_cons] at hc
  rw [List.mem_append]
  rcases hc with h|h|h
  · exact .inl h
  · exact absurd h hne
  · exact .inr h
 have hin: ∀x∈l',InV s.vars x:=fun x hx=>g.cv i hi x (pm.mem_iff.1 hx)
 refine rewatch_good g eR (d1.trans u1) (d2.trans u2) (d3.trans u3) (d4.trans u4) (fun q _=> ?_) (fun j c=> ?_) (fun j=> ?_) (by rw [set_eq];exact fun c hc=>g.o1 c (by rw [hlo];exact hsub.mem hc)) (fun q hq h=> ?_) (by rw [set_eq];exact hsub.nodup nl) (fun q hq h=> ?_)
 · rw [el]
   split
   · rename_i e;rw [e];exact pm
   · exact List.Perm.refl _
 · rw [ew,g.wm]
   constructor
   · rintro (⟨⟨q,e1,e2,x,hx,e3⟩,h⟩| ⟨e1,x,hx,e3⟩)
     · exact ⟨q,e1,e2,x,by rw [el,if_neg (fun e=>h (by rw [e1,e]))];exact hx,e3⟩
     · exact ⟨i,e1,hi,x,by rw [el,if_pos rfl];exact hx,e3⟩
   · rintro ⟨q,e1,e2,x,hx,e3⟩
     rw [el] at hx
     by_cases e:q=i
     · subst e
       rw [if_pos rfl] at hx
       exact .inr ⟨e1,x,hx,e3⟩
     · rw [if_neg e] at hx
       exact .inl ⟨⟨q,e1,e2,x,hx,e3⟩,fun h=>e (by omega)⟩
 · rw [set_ne (by simp)]
   refine wF_nodup i j _ _ (take2_nodup (pm.nodup_iff.2 (g.cn i hi))) (by rw [set_ne (by simp)];exact unF_nodup i j _ _ (g.w3 j)) fun _=> ?_
   rw [set_ne (by simp),unF_mem]
   rintro ⟨h1,h2|h2⟩
   · exact h2 rfl
   · obtain ⟨q,e1,e2,x,hx,e3⟩:=g.w1 _ _ h1
     have:q=i:=by omega
     subst this
     exact h2 x hx e3
 · rw [set_eq]
   refine hmem _ (g.o2 q hq h) fun e=> ?_
   have:q=i:=by omega
   subst this
   rw [pm.length_eq] at h2
   omega
 · rw [set_eq] at h
   rw [el]
   by_cases e:q=i
   · subst e
     rw [if_pos rfl]
     refine .inr fun x hx=> ?_
     have hxv:0≤s.val x:=by
      rcases take2_mem.1 hx with ⟨_,e⟩| ⟨_,e⟩<;>rw [e]<;>assumption
     have: -x ∉ s.R .tr:=fun e=>by
      have:=(g.vlt (hin x (List.mem_of_mem_take hx))).2 e;omega
     exact ⟨fun h=>this (List.mem_of_mem_take h),fun j _ h=>this (List.mem_of_mem_take h)⟩
   · rw [if_neg e]
     exact .inl ⟨fun h2=>h (hmem _ h2 fun h3=>e (by omega)),fun _=>Iff.rfl⟩
end
end Go.Proofs.YtabengnadcleeaaGreat.W
