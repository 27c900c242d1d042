/- Layer 6: the clauses that may be unit or broken are looked at. -/
import Derived.Test.YtabengnadcleeaaGreatPropB
import Derived.Test.YtabengnadcleeaaGreatFwView
import Derived.Laws.CopyRow
import Derived.Laws.IdiomCopy
namespace Go.Proofs.YtabengnadcleeaaGreat.W
open Go Go.Fw Go.RowKit Go.SoP Go.LiP
variable {w w' w0 w2 w3:World} {b:Nat} {H H' H2:Pt→Sl} {s t u s' T:PSt} {l x y:Int} {i:Nat}
theorem set_comm {x y:Pt} (h:x≠y) {l m:List Int}:(s.set x l).set y m=(s.set y m).set x l:=by
 simp only [PSt.set]
 congr 1
 funext z
 simp only [updF]
 by_cases e:z=x
 · subst e
   rw [if_neg h,if_pos rfl,if_pos rfl]
 · by_cases e2:z=y
   · subst e2
     rw [if_pos rfl,if_neg e,if_pos rfl]
   · rw [if_neg e2,if_neg e,if_neg e,if_neg e2]
theorem wF_lo (c:Int) {L:List Int}: ∀ (xs:List Int) (t:PSt),wF c (t.set .lo L) xs=(wF c t xs).set .lo L
 | [],_=>rfl
 |x::xs,t=>by
  show wF c ((t.set .lo L).set (.w (sideN x)) ((t.set .lo L).R (.w (sideN x))++ [c])) xs=_
  rw [set_ne (by simp),set_comm (by simp),wF_lo c xs];rfl
theorem unF_lo (c:Int) {L:List Int}: ∀ (xs:List Int) (t:PSt),unF c (t.set .lo L) xs=(unF c t xs).set .lo L
 | [],_=>rfl
 |x::xs,t=>by
  show unF c ((t.set .lo L).set (.w (sideN x)) (((t.set .lo L).R (.w (sideN x))).filter fun k=> !(k==c))) xs=_
  rw [set_ne (by simp),set_comm (by simp),unF_lo c xs];rfl
theorem put_lo {L:List Int} {r:Int}:(t.set .lo L).put l r=(t.put l r).set .lo L:=by
 unfold PSt.put
 simp only [set_ne (s:=t) (x:= .lo) (l:=L) (y:= .va) (by simp),set_ne (s:=t) (x:= .lo) (l:=L) (y:= .le) (by simp),set_ne (s:=t) (x:= .lo) (l:=L) (y:= .re) (by simp),set_ne (s:=t) (x:= .lo) (l:=L) (y:= .be) (by simp),set_ne (s:=t) (x:= .lo) (l:=L) (y:= .tr) (by simp)]
 rw [set_comm (x:= .lo) (y:= .va) (by simp),set_comm (x:= .lo) (y:= .le) (by simp),set_comm (x:= .lo) (y:= .re) (by simp),set_comm (x:= .lo) (y:= .tr) (by simp)]
theorem Pw.side {S:Nat→Prop} (h:Pw w w2 b H H' t) (m:Mod S w2 w3) (hS: ∀k,S k→w.heap.size≤k∧∀x,own b H' x≠some k):Pw w w3 b H H' t:=
 ⟨h.pm.keep m fun x k hk hs=> (hS k hs).2 x hk,h.mod.then m fun k hk hs=>by have:=(hS k hs).1;omega,h.ft⟩
def Lsat (s:PSt):Prop:= ∀i,s.There i→(i:Int)∈s.R .lo→∃x∈s.R (.a i),x∈s.R .tr
def Brk (s:PSt) (i:Nat):Prop:=s.There i∧∀x∈s.R (.a i),-x∈s.R .tr
theorem Brk.ext (h:Brk s i) (e:Ext s t):Brk t i:=⟨e.there.2 h.1,fun x hx=>e.mem (h.2 x (by rw [← e.a];exact hx))⟩
theorem loosely_ok (h:PM w b H s) (g:Good s):Calls Tryz.prog prop_Prop_loosely.id #[ptrV b] w fun e w'=> ∃r:Int,e= .returned (.int .i64 r)∧∃s' H',Pw w w' b H H' s'∧Good s'∧Ext s s'∧s'.done=s.done∧((r= -1∧Lsat s')∨∃i:Nat,r=i∧Brk s' i):=by
 refine prop_Prop_loosely.calls ?_
 intro n1 w1 h1
 have hA:=h.grow h1.mod
 have z1:=h1.size
 have e1:=h1.num
 have hnot: ∀x,¬own b H x=some n1:=fun x e=>by have:=h.lt x n1 e;omega
 refine ⟨_,cell_of h1.has rfl,_,rfl,_,_,_,cell_add hA.st rfl,?_⟩
 have hN:=h.len .lo rfl
 generalize hL:s.R .lo=L at*
 have hLb:L.length≤262144:=by rw [← hL];exact g.lol
 refine ⟨fun P N C B V u m=> ∃ (v:Nat) (T:PSt) (H':Pt→Sl) (keep:List Int),V=v∧v≤L.length∧m=L.length - v∧N=keep.length∧Pw w1 u b H H' T∧OwI ty_int u P C keep∧(∀k,blk P=some k→w1.heap.size≤k∧∀x,own b H' x≠some k)∧
  T.R .lo=L∧H' .lo=H .lo∧keep.length≤v∧Good (T.set .lo (keep++L.drop v))∧Ext s T∧T.done=s.done∧
  ((B= -1∧∀c∈keep,∃i:Nat,c=i∧∃x∈T.R (.a i),x∈T.R .tr)∨∃i:Nat,B=i∧Brk T i),
  ⟨_,0,s,H,[],rfl,Nat.zero_le _,rfl,rfl,Pw.refl hA (Mod.refl w1),Ow.nil _ _ _,fun k hk=>by simp [blk] at hk,hL,rfl,Nat.le_refl _,by rw [List.nil_append,List.drop_zero,← hL,set_self'];exact g,Ext.refl s,rfl,.inl ⟨rfl,fun c hc=>by simp at hc⟩⟩,?_⟩
 rintro P N C B V u m _ ⟨v,T,H',keep,rfl,hv,rfl,rfl,Pu,ok,fr,tlo,hlo,kl,gV,xT,dT,hB⟩
 have hT:=Pu.pm
 have hn1:Has u n1 #[ptrV b]:=h1.has.keep Pu.mod fun ⟨x,e⟩=>hnot x e
 have nn1: ∀x,own b H' x≠some n1:=fun x e=>by
  rcases Pu.ft x n1 e with ⟨y,e2⟩|e2
  · exact hnot y e2
  · omega
 refine cnd_i (fun r=> ?_) (fun r=> ?_)
 · have r:v<L.length:=by rw [hN] at r;simpa using r
   have hlook: ∀ {u':World},Pw w1 u' b H H' T→∀ {K:Addr→Prop},(∀a,u'.cell? a=some (.int .i64 (L.getD v 0))→K a)→ixK (H .lo).p (H .lo).n (v:Int) 1 K:=fun {u'} P K hk=>by
    rw [← hlo]
    refine P.pm.rIx (x:= .lo) rfl (by omega) rfl (by rw [tlo];omega) fun a _ hc=>hk a ?_
    rw [tlo,Int.toNat_natCast] at hc
    exact hc
   have hdrop:L.drop v=L.getD v 0::L.drop (v+1):=by
    rw [List.drop_eq_getElem_cons r]
    simp [List.getD,r]
   have hmem:L.getD v 0∈(T.set .lo (keep++L.drop v)).R .lo:=by rw [set_eq,hdrop];simp
   obtain ⟨i,ei,hth⟩:=gV.o1 _ hmem
   have hth:T.There i:=hth
   have hiT:i<T.nc:=hth.1
   refine hlook Pu fun a13 hc13=> ⟨_,hc13,?_⟩
   rw [ei]
   have app: ∀ {u':World} {T':PSt} {H2:Pt→Sl},Pw w1 u' b H H2 T'→OwI ty_int u' P C keep→(∀k,blk P=some k→w1.heap.size≤k∧∀x,own b H2 x≠some k)→
    ∀ {K:World→Option Addr→Nat→Nat→Prop},(∀w2 p' c',Pw w1 w2 b H H2 T'→OwI ty_int w2 p' c' (keep++ [(i:Int)])→(∀k,blk p'=some k→w1.heap.size≤k∧∀x,own b H2 x≠some k)→Mod (fun k=>blk P=some k) u' w2→K w2 p' (keep.length+1) c')→
    ∀n20 w21,New (.cells #[.int .i64 (i:Int)] ty_int) u' n20 w21→∃w22,∃ (p':Option Addr) (n' c':Nat),(Builtin.append_ #[ty_sl_int,ty_sl_int] ty_sl_int #[.slice P keep.length C,.slice (some (Addr.mk n20 0 none)) 1 1]).run Tryz.prog w21= .ok (.slice p' n' c') w22∧K w22 p' n' c':=by
    intro u' T' H2 P' o' f' K hk n20 w21 h20
    have P21:=P'.grow h20.mod
    refine (o'.grow h20.mod).app1 sl_int (i:Int) h20.has rfl rfl oneInt (by omega) fun w2 p' c' o2 m2 hp2 hs2=> ?_
    refine hk w2 p' c' (P21.side m2 fun k hk=>f' k hk) o2 (fun k hk9=> ?_) ((h20.mod.mono fun _ _ e=>e.elim).trans m2)
    rcases hp2 with hp2|hp2
    · rw [hp2] at hk9;exact f' k hk9
    · rw [hp2] at hk9
      have:=blk_some hk9
      refine ⟨by have:=P21.mod.size;omega,fun x e=> ?_⟩
      have:=P21.pm.lt x k e;omega
   have hsame:keep++ [(i:Int)]++L.drop (v+1)=keep++L.drop v:=by rw [hdrop,ei];simp
   refine cnd_i (fun r2=> ?_) (fun r2=> ?_)
   · have r2:0≤B:=by simpa using r2
     refine ⟨_,cell_of hn1 rfl,_,rfl,_,_,_,cell_add hT.st rfl,?_⟩
     rw [hlo]
     refine hlook Pu fun a18 hc18=> ⟨_,hc18,?_⟩
     rw [ei]
     refine app Pu ok fr fun w22 p' c' P22 o22 f22 _=> ?_
     refine ⟨_,?_,v+1,T,H',keep++ [(i:Int)],wN (by omega) (by omega),r,rfl,by simp,P22,o22,f22,tlo,hlo,by simp;omega,by rw [hsame];exact gV,xT,dT,?_⟩
     · omega
     · rcases hB with ⟨e,_⟩|hB
       · omega
       · exact .inr hB
   · have r2: ¬0≤B:=by simpa using r2
     have hB:B= -1∧∀c∈keep,∃i:Nat,c=i∧∃x∈T.R (.a i),x∈T.R .tr:=by
      rcases hB with h| ⟨i,e,_⟩
      · exact h
      · omega
     have kT:Wf T:=by
      have:=gV.wf
      have e:T=(T.set .lo (keep++L.drop v)).set .lo (T.R .lo):=by rw [set_set,set_self']
      rw [e]
      exact this.set (by simp) (by simp) (by simp) (by simp) (by simp) _
     have hlT:T.R (.l i)=(T.set .lo (keep++L.drop v)).R (.l i):=(set_ne (by simp)).symm
     have evV: ∀x,(T.set .lo (keep++L.drop v)).val x=T.val x:=fun x=>val_eq (set_ne (by simp)) x
     have hv: ∀x∈T.R (.l i),InV T.vars x:=fun x hx=>gV.cv i hth x (by rw [← hlT];exact hx)
     have hl4:(T.R (.l i)).length≤4096:=by rw [hlT];exact gV.cl i hth
     have hca: ∀x,x∈T.R (.l i)↔x∈T.R (.a i):=fun x=>by
      have:=gV.ca i hth x
      rw [set_ne (by simp),set_ne (by simp)] at this
      exact this
     have hw: ∀j,(T.R (.w j)).length≤262144:=fun j=>by have:=gV.wl j;rw [set_ne (by simp)] at this;exact this
     refine ⟨_,cell_of hn1 rfl,_,rfl,_,_,_,cell_add hT.st rfl,hT.cIx hiT rfl rfl fun a27 hc27=> ⟨_,_,_,hc27.get 1 _ rfl,?_⟩⟩
     refine (clone_ok (hT.row (.l i) rfl).vw (hT.len _ rfl) (by rw [hT.len _ rfl];omega)).mono ?_
     rintro e w29 ⟨q30,d30,rfl,o30,g29,f30⟩
     have P29:=Pu.grow g29
     have hn29:=hn1.grow g29
     have nq: ∀k,blk q30=some k→w1.heap.size≤k∧(∀x,own b H' x≠some k)∧k≠n1∧blk P≠some k:=fun k hk=>by
      have:=f30 k hk
      have g0:=Pu.mod.size
      refine ⟨by omega,fun x e=> ?_,fun e=> ?_,fun e=> ?_⟩
      · have:=hT.lt x k e;omega
      · omega
      · have:=ok.lt k e;omega
     refine ⟨_,_,_,rfl,(delete_ok o30 rfl (by omega) false1_ent (fun x=>decide (T.val x<0)) fun x hx w' m=> ?_).mono ?_⟩
     · rw [args2w]
       exact false1 (P29.pm.keep m fun x k hk hs=> (nq k hs).2.1 x hk) kT (hn29.keep m fun hs=> (nq n1 hs).2.2.1 rfl) (hv x hx)
     rintro e w31 ⟨rfl,o31,m31⟩
     have P31:=P29.side m31 fun k hs=> ⟨(nq k hs).1,(nq k hs).2.1⟩
     have h31:=P31.pm
     have hn31:Has w31 n1 #[ptrV b]:=hn29.keep m31 fun hs=> (nq n1 hs).2.2.1 rfl
     have ok31:OwI ty_int w31 P C keep:=(ok.grow g29).keep m31 fun k hk hs=> (nq k hs).2.2.2 hk
     generalize hF:(T.R (.l i)).filter (fun x=> !decide (T.val x<0))=F at*
     have hFm: ∀x,x∈F↔x∈T.R (.l i)∧0≤T.val x:=fun x=>by
      rw [← hF,List.mem_filter]
      simp
     refine ⟨_,_,_,rfl,cnd_i (fun r3=> ?_) (fun r3=> ?_)⟩
     · have r3:2≤F.length:=by simp at r3;omega
       refine ⟨_,cell_of hn31 rfl,(unwatch_ok h31 kT.vmax hiT hv (by omega) (fun j=>by have:=hw j;omega)).mono ?_⟩
       rintro e w34 ⟨rfl,H34,P34,kh34⟩
       have h34:=P34.pm
       have eRl:(unF i T ((T.R (.l i)).take 2)).R (.l i)=T.R (.l i):=unF_R _ (by simp) _ _
       have eva:(unF i T ((T.R (.l i)).take 2)).R .va=T.R .va:=unF_R _ (by simp) _ _
       have ele:(unF i T ((T.R (.l i)).take 2)).R .le=T.R .le:=unF_R _ (by simp) _ _
       obtain ⟨u1,u2,u3,u4⟩:=unF_vars i ((T.R (.l i)).take 2) T
       have kU:Wf (unF i T ((T.R (.l i)).take 2)):=⟨by rw [u1];exact kT.vmax,by rw [eva,u1];exact kT.va,by rw [eva];exact kT.vb,by rw [ele,u1];exact kT.le,by rw [unF_R _ (by simp),u1];exact kT.re,by rw [unF_R _ (by simp)];exact kT.be,by rw [unF_R _ (by simp)];exact kT.tr,by rw [u2];exact kT.nc⟩
       have hn34:Has w34 n1 #[ptrV b]:=hn31.keep P34.mod fun ⟨x,e⟩=>nn1 x e
       refine ⟨rfl,_,cell_of hn34 rfl,(again_ok h34 kU (by rw [u2];exact hiT) (by rw [eRl,u1];exact hv) (by rw [eRl];omega) (fun j=>by have:=unF_len i j ((T.R (.l i)).take 2) T;have:=hw j;omega) (by rw [unF_R _ (by simp),tlo];omega) ?_ ?_).mono ?_⟩
       · rw [eRl]
         intro x hx hvx
         rw [val_eq eva] at hvx
         have:=gV.levb (x:=x) (hv x hx) (by rw [evV];exact hvx)
         unfold PSt.lev at this ⊢
         rw [ele];rw [set_ne (by simp)] at this;exact this
       · rw [eRl]
         have:(fun x=> !decide ((unF i T ((T.R (.l i)).take 2)).val x<0))=fun x=> !decide (T.val x<0):=by funext x;rw [val_eq eva]
         rw [this,hF];exact r3
       rintro e w36 ⟨rfl,l',H36,hb,pm,b1,b2,b3,P36,kh36⟩
       rw [eRl] at pm
       rw [val_eq eva] at b2 b3
       have PP:=(P31.trans P34).trans P36
       have kk:KeepW H' H36:=kh34.trans kh36
       have fr36: ∀k,blk P=some k→w1.heap.size≤k∧∀x,own b H36 x≠some k:=fun k hk=>by
        have:=fr k hk
        refine ⟨this.1,fun x e=> ?_⟩
        rcases (P34.trans P36).ft x k e with ⟨y,e2⟩|e2
        · exact this.2 y e2
        · have:=ok31.lt k hk;omega
       have ok36:OwI ty_int w36 P C keep:=ok31.keep (P34.trans P36).mod fun k hk ⟨x,e⟩=> (fr k hk).2 x e
       have gA:=again_good gV hth (keep:=keep) (rest:=L.drop (v+1)) (by rw [set_eq,hdrop,ei]) (l':=l') (by rw [← hlT];exact pm) b1 (by rw [evV];exact b3) (by rw [evV];exact b2)
       rw [← hlT,unF_lo,set_comm (x:= .lo) (y:= .l i) (by simp),wF_lo,set_set] at gA
       refine ⟨rfl,_,?_,v+1,_,H36,keep,wN (by omega) (by omega),r,rfl,rfl,PP,ok36,fr36,by rw [wF_R _ (by simp),set_ne (by simp),unF_R _ (by simp)];exact tlo,by rw [kk _ (by simp)];exact hlo,by omega,gA,?_,?_,.inl ⟨hB.1,fun c hc=> ?_⟩⟩
       · omega
       · exact xT.trans (Ext.unF.trans ((Ext.set (by simp) (by simp) (by simp) (by simp)).trans Ext.wF))
       · rw [(wF_vars i _ _).2.2.2];exact u4.trans dT
       · obtain ⟨k,e,x,hx,hxt⟩:=hB.2 c hc
         refine ⟨k,e,x,by rw [wF_R _ (by simp),set_ne (by simp),unF_R _ (by simp)];exact hx,by rw [wF_R _ (by simp),set_ne (by simp),unF_R _ (by simp)];exact hxt⟩
     · have r3:F.length≤1:=by simp at r3;omega
       refine app P31 ok31 fr fun w39 p' c' P39 o39 f39 m39=> ?_
       have h39:=P39.pm
       have hn39:Has w39 n1 #[ptrV b]:=h1.has.keep P39.mod fun ⟨x,e⟩=>hnot x e
       have o40:OwI ty_int w39 q30 d30 F:=o31.keep m39 fun k hk hs=> (nq k hk).2.2.2 hs
       have etV:(T.set .lo (keep++L.drop v)).R .tr=T.R .tr:=set_ne (by simp)
       refine cnd_i (fun r4=> ?_) (fun r4=> ?_)
       · have r4:F= []:=by simpa using r4
         refine ⟨_,?_,v+1,T,H',keep++ [(i:Int)],wN (by omega) (by omega),r,rfl,by simp,P39,o39,f39,tlo,hlo,by simp;omega,by rw [hsame];exact gV,xT,dT,.inr ⟨i,rfl,hth,fun x hx=> ?_⟩⟩
         · omega
         · have hxl:=(hca x).2 hx
           have hn: ¬0≤T.val x:=fun h0=>by
            have:=(hFm x).2 ⟨hxl,h0⟩
            rw [r4] at this;simp at this
           rw [← etV]
           exact (gV.vlt (x:=x) (hv x hxl)).1 (by rw [evV];omega)
       · have r4:0<F.length:=by
          rcases Nat.eq_zero_or_pos F.length with e|e
          · rw [e] at r4;simp at r4
          · exact e
         have hone: ∀x∈F,x=F.getD 0 0:=fun x hx=>by
          match F,r3,r4,hx with
          | [a],_,_,hx=>simpa using hx
         have hF0:=(hFm (F.getD 0 0)).1 (getD_mem' r4)
         generalize hX0:F.getD 0 0=X at*
         refine ⟨_,cell_of hn39.drew rfl,o40.drew.ix 0 (by omega) rfl (by omega) fun a42 hc42=> ⟨_,hc42,?_⟩⟩
         rw [Int.toNat_zero,hX0]
         have P40:=P39.drew
         refine (val_ok P40.pm kT (hv _ hF0.1)).mono ?_
         rintro e w44 ⟨rfl,rfl⟩
         have sat1: ∀ {T':PSt},Ext T T'→∀c∈keep,∃i:Nat,c=i∧∃x∈T'.R (.a i),x∈T'.R .tr:=fun e c hc=>by
          obtain ⟨k,e1,x,hx,hxt⟩:=hB.2 c hc
          exact ⟨k,e1,x,by rw [e.a];exact hx,e.mem hxt⟩
         refine ⟨_,rfl,cnd_i (fun r5=> ?_) (fun r5=> ?_)⟩
         · have r5:T.val X=0:=by simpa using r5
           refine ⟨_,cell_of hn39.drew.drew rfl,o40.drew.drew.ix 0 (by omega) rfl (by omega) fun a47 hc47=> ⟨_,hc47,?_⟩⟩
           rw [Int.toNat_zero,hX0]
           have P41:=P40.drew
           refine (put_ok P41.pm kT (hv _ hF0.1) (i:Int)).mono ?_
           rintro e w49 ⟨rfl,q,P49⟩
           have gP:=put_good (t:=T.set .lo (keep++L.drop v)) gV (hv X hF0.1) (by rw [evV];exact r5) (fun _ _ _=>rfl) rfl rfl rfl rfl (r:=(i:Int)) (.inl ⟨rfl,rfl,i,rfl,hth,by rw [← hlT];exact hF0.1,fun x hx hne=>by
            rw [← hlT] at hx
            have hn: ¬0≤T.val x:=fun h0=>hne (hone x ((hFm x).2 ⟨hx,h0⟩))
            exact (gV.vlt (x:=x) (hv x hx)).1 (by rw [evV];omega)⟩)
           rw [put_lo] at gP
           have xP:Ext T (T.put X (i:Int)):=Ext.put
           have e8:(T.put X (i:Int)).R .lo=T.R .lo:=put_R (by simp) (by simp) (by simp) (by simp)
           refine ⟨rfl,_,?_,v+1,_,updF H' .tr q,keep++ [(i:Int)],wN (by omega) (by omega),r,rfl,by simp,P41.trans P49,(o39.drew.drew).keep P49.mod fun k hk ⟨x,e⟩=> (f39 k hk).2 x e,fun k hk=> ⟨(f39 k hk).1,fun x e=> ?_⟩,
            by rw [e8];exact tlo,by rw [updF_ne (by simp)];exact hlo,by simp;omega,by rw [hsame];exact gP,xT.trans xP,dT,.inl ⟨hB.1,fun c hc=> ?_⟩⟩
           · omega
           · rcases P49.ft x k e with ⟨y,e2⟩|e2
             · exact (f39 k hk).2 y e2
             · have:=o39.lt k hk
               have:w39.drew.drew.heap.size=w39.heap.size:=rfl
               omega
           · rcases List.mem_append.1 hc with hc|hc
             · exact sat1 xP c hc
             · rw [List.mem_singleton] at hc
               refine ⟨i,hc,X,?_,?_⟩
               · rw [xP.a];exact (hca X).1 hF0.1
               · rw [put_tr];simp
         · have r5: ¬T.val X=0:=by simpa using r5
           have hXt:X∈T.R .tr:=by
            rw [← etV]
            exact (gV.vgt (x:=X) (hv X hF0.1)).1 (by rw [evV];have:=hF0.2;omega)
           refine ⟨_,?_,v+1,T,H',keep++ [(i:Int)],wN (by omega) (by omega),r,rfl,by simp,P40,o39.drew,f39,tlo,hlo,by simp;omega,by rw [hsame];exact gV,xT,dT,.inl ⟨hB.1,fun c hc=> ?_⟩⟩
           · omega
           · rcases List.mem_append.1 hc with hc|hc
             · exact sat1 (Ext.refl T) c hc
             · rw [List.mem_singleton] at hc
               exact ⟨i,hc,X,(hca X).1 hF0.1,hXt⟩
 · have r:v=L.length:=by rw [hN] at r;simp at r;omega
   subst r
   rw [List.drop_length,List.append_nil] at gV
   refine ⟨_,cell_of hn1 rfl,_,rfl,?_⟩
   refine hT.head (x:= .lo) rfl ok ⟨hT.st,hT.c,hT.wa,fun y hy _=>hT.row y hy⟩ (fun k hk=> .inr (fr k hk).2) rfl fun w3 h3 m3=> ?_
   have xL:Ext T (T.set .lo keep):=Ext.set (by simp) (by simp) (by simp) (by simp)
   have P0:=Pu.pre h1.mod
   refine ⟨_,rfl,_,_,⟨h3,P0.mod.then m3 fun k hk e=> ?_,fun x k hk=> ?_⟩,gV,xT.trans xL,dT,?_⟩
   · rcases P0.ft .st k (by rw [e];rfl) with h|h
     · exact h
     · omega
   · by_cases e:x= .lo
     · subst e
       rw [own_ne (by simp),updF_same] at hk
       have:=(fr k hk).1
       exact .inr (by omega)
     · refine P0.ft x k ?_
       cases x<;>first|exact hk| (simp only [own] at hk ⊢;rwa [updF_ne e] at hk)
   · rcases hB with ⟨e,h⟩| ⟨i,e,h⟩
     · refine .inl ⟨e,fun i hi hm=> ?_⟩
       rw [set_eq] at hm
       obtain ⟨k,e1,x,hx,hxt⟩:=h _ hm
       have:k=i:=by omega
       subst this
       exact ⟨x,by rw [set_ne (by simp)];exact hx,by rw [set_ne (by simp)];exact hxt⟩
     · exact .inr ⟨i,e,h.ext xL⟩
end Go.Proofs.YtabengnadcleeaaGreat.W
namespace Go.Fw
open Go Go.RowKit
variable {P:Program} {α:Type} {f:α→Value} {T:TypeId} {w w':World} {p q q':Option Addr} {c:Nat} {l:List α}
theorem Ow.copyM {t ty e bytes:Nat} (hs:slOk P t e bytes=true) (h:Ow f e w p c l) {o m d k D:Nat} {news:List α} (h2:Vw f w q news) (hm:m=news.length) (hD:m≤D) (hq:0<m→q'=p.map (·.add (o*1))) (hfit:o+m≤l.length) (ho: ∀x,(f x).oneCell'=true) {K:Int→World→Prop}
 (hk: ∀w',Ow f e w' p c (l.take o++news++l.drop (o+m))→Mod (fun b=>blk p=some b) w w'→w'.heap.size=w.heap.size→K m w'):
 ∃w',∃r:Int,(Builtin.copy_ #[t,t] ty #[.slice q' D d,.slice q m k]).run P w= .ok (.int .i64 r) w'∧K r w':=by
 obtain ⟨ht,i,z,hi,hz,h1,hb,h3⟩:=slOk_spec hs
 have hsz:(P.info? e).map (·.size)=some 1:=by rw [hi];simp [h1]
 subst hm
 rcases Nat.eq_zero_or_pos news.length with h0|h0
 · have hn:news= []:=List.eq_nil_of_length_eq_zero h0
   subst hn
   refine ⟨w,0,run_copy_none w t t ty e _ _ _ _ _ _ ht hsz (by simp),?_⟩
   have:=hk w (by simpa using h) (Mod.refl w) rfl
   simpa using this
 · rw [hq h0]
   obtain ⟨a,rfl,_⟩:=h2 0 h0
   rcases h.un with ⟨rfl,rfl,rfl⟩| ⟨g,cur,rfl,hg,g1,g2,g3,g4⟩
   · rw [List.length_nil] at hfit;omega
   · have hr:=run_copy_row (P:=P) w t t ty e g o D d a news.length k cur e (news.map f) ht hsz hg (by rw [List.length_map];exact (Nat.min_eq_left hD).symm) (fun j v hj=>by
      have hj':j<news.length:=by have:=(List.getElem?_eq_some_iff.1 hj).1;simpa using this
      obtain ⟨a',ha,hc⟩:=h2 j hj'
      simp only [Option.some.injEq] at ha
      subst ha
      rw [hc]
      simpa [hj'] using hj) (by simp;omega) (fun u hu=>by obtain ⟨x,_,rfl⟩:=List.mem_map.1 hu;exact ho x)
     have hkk:=hk (w.setRow g (cur.toList.take o++news.map f++cur.toList.drop (o+ (news.map f).length)).toArray) (Ow.of_some (setRow_heap w g cur _ e _ hg) (by simp;omega) g2 ?_ ?_) ⟨rfl,rfl,rfl,by simp,fun k _ hk=>setRow_other w g k _ fun he=>hk (by simp [blk,he])⟩ (by simp [World.setRow])
     · refine ⟨_,((news.map f).length:Int),?_,by rw [List.length_map];exact hkk⟩
       simp only [Option.map_some,add_at,Nat.zero_add,Nat.mul_one]
       exact hr
     · simp;omega
     · have hl:(l.take o++news++l.drop (o+news.length)).length=l.length:=by simp;omega
       rw [hl,List.map_append,List.map_append,List.map_take,List.map_drop,← g4]
       have hc:cur.toList.length=c:=by simpa using g3
       apply List.ext_getElem?
       intro j
       simp only [List.length_map,List.getElem?_take,List.getElem?_append,List.length_append,List.length_take,List.getElem?_drop,hc]
       repeat' split
       all_goals first
        |rfl
        |omega
        | (congr 1;omega)
end Go.Fw
namespace Go.Proofs.YtabengnadcleeaaGreat.W
open Go Go.Fw Go.RowKit Go.SoP Go.LiP
section
variable {w w' w0 w2 w3:World} {b:Nat} {H H' H2:Pt→Sl} {s t u s' T:PSt} {l x y:Int} {i:Nat}
def PSt.step (s:PSt):PSt:= {s with done:=s.done+1}
theorem step_good (g:Good s) (hd:s.done< (s.R .tr).length) (hp: ∀i,s.There i→Pg s i):Good s.step:=
 ⟨g.vmax,g.ncm,g.va,g.vb,g.le,g.rl,g.tv,g.nd,g.v1,g.bl,g.bs,g.dl,g.db,g.lv,g.re1,g.re2,hd,g.cv,g.cn,g.cl,g.ca,g.al,g.w1,g.w2,g.w3,g.o1,g.o2,g.o3,
   fun i hi h=>hp i hi h,g.wj⟩
theorem vis_set {m:List Int} {st br:Bool} {j:Nat} {r:List Int} (V:Vis s i m s' st br) (hm: ∀z∈m,0≤s.val z→sideN z≠j):Vis (s.set (.w j) r) i m (s'.set (.w j) r) st br:=by
 have ev: ∀x,(s.set (.w j) r).val x=s.val x:=fun x=>val_eq (set_ne (by simp)) x
 cases V with
 |sat h=>rw [set_comm (by simp)];exact .sat (by rw [ev];exact h)
 |broken h h2=>rw [set_comm (by simp)];exact .broken (by rw [ev];exact h) fun k a c=>by rw [ev];exact h2 k a c
 |unit h h2=>
  have e:((s.set (.l i) m).put (m.getD 0 0) i).set (.w j) r=((s.set (.w j) r).set (.l i) m).put (m.getD 0 0) i:=by
   rw [set_comm (x:= .w j) (y:= .l i) (by simp)]
   generalize s.set (.l i) m=q
   unfold PSt.put
   simp only [set_ne (s:=q) (x:= .w j) (l:=r) (y:= .va) (by simp),set_ne (s:=q) (x:= .w j) (l:=r) (y:= .le) (by simp),set_ne (s:=q) (x:= .w j) (l:=r) (y:= .re) (by simp),set_ne (s:=q) (x:= .w j) (l:=r) (y:= .be) (by simp),set_ne (s:=q) (x:= .w j) (l:=r) (y:= .tr) (by simp)]
   rw [set_comm (x:= .w j) (y:= .va) (by simp),set_comm (x:= .w j) (y:= .le) (by simp),set_comm (x:= .w j) (y:= .re) (by simp),set_comm (x:= .w j) (y:= .tr) (by simp)]
  rw [e]
  exact .unit (by rw [ev];exact h) fun k a c=>by rw [ev];exact h2 k a c
 |moved k h1 h2 h3 h4=>
  have hne:sideN (m.getD k 0)≠j:=hm _ (getD_mem' h3) h4
  have V:=Vis.moved (s:=s.set (.w j) r) (i:=i) (m:=m) k (by rw [ev];exact h1) h2 h3 (by rw [ev];exact h4)
  rw [set_ne (by simpa using hne),set_comm (x:= .w j) (y:= .l i) (by simp),set_comm (x:= .w j) (by simpa using Ne.symm hne)] at V
  exact V
def Closed (s:PSt):Prop:= ∀i,s.There i→(∃x∈s.R (.a i),x∈s.R .tr)∨∃x∈s.R (.a i),∃y∈s.R (.a i),x≠y∧s.val x=0∧s.val y=0
theorem closed_of (g:Good s) (hd:(s.R .tr).length≤s.done) (hl:Lsat s):Closed s:=by
 intro i hi
 by_cases hm:(i:Int)∈s.R .lo
 · exact .inl (hl i hi hm)
 · have h2:2≤(s.R (.l i)).length:=by
    rcases Nat.lt_or_ge (s.R (.l i)).length 2 with h|h
    · exact absurd (g.o2 i hi h) hm
    · exact h
   have hw:=g.wd i hi hm
   rw [W1,List.take_of_length_le hd] at hw
   have m0:(s.R (.l i)).getD 0 0∈(s.R (.l i)).take 2:=take2_mem.2 (.inl ⟨by omega,rfl⟩)
   have m1:(s.R (.l i)).getD 1 0∈(s.R (.l i)).take 2:=take2_mem.2 (.inr ⟨by omega,rfl⟩)
   have hne:(s.R (.l i)).getD 0 0≠(s.R (.l i)).getD 1 0:=fun e=>by
    have:=(List.getElem_inj (h₀:=show 0< (s.R (.l i)).length by omega) (h₁:=show 1< (s.R (.l i)).length by omega) (g.cn i hi)).1 (by
     have e0:(s.R (.l i)).getD 0 0=(s.R (.l i))[0]:=by simp [List.getD,show 0< (s.R (.l i)).length by omega]
     have e1:(s.R (.l i)).getD 1 0=(s.R (.l i))[1]:=by simp [List.getD,show 1< (s.R (.l i)).length by omega]
     rw [← e0,← e1,e])
    omega
   generalize (s.R (.l i)).getD 0 0=a at*
   generalize (s.R (.l i)).getD 1 0=c at*
   have la:=List.mem_of_mem_take m0
   have lc:=List.mem_of_mem_take m1
   have va:=g.cv i hi a la
   have vc:=g.cv i hi c lc
   have aa:=(g.ca i hi a).1 la
   have ac:=(g.ca i hi c).1 lc
   by_cases ta:a∈s.R .tr
   · exact .inl ⟨a,aa,ta⟩
   by_cases tc:c∈s.R .tr
   · exact .inl ⟨c,ac,tc⟩
   by_cases fa: -a∈s.R .tr
   · exact absurd (hw a m0 c m1 hne fa) tc
   by_cases fc: -c∈s.R .tr
   · exact absurd (hw c m1 a m0 (Ne.symm hne) fc) ta
   exact .inr ⟨a,aa,c,ac,hne,(g.v0 va).2 ⟨ta,fa⟩,(g.v0 vc).2 ⟨tc,fc⟩⟩
end
section
variable {w w' w0 w2 w3:World} {b:Nat} {H H' H2:Pt→Sl} {s t u s' T:PSt} {l x y:Int} {i:Nat}
theorem vis_row {m:List Int} {st br:Bool} {j:Nat} (V:Vis s i m s' st br) (hm: ∀z∈m,0≤s.val z→sideN z≠j):s'.R (.w j)=s.R (.w j):=by
 cases V with
 |sat h=>exact set_ne (by simp)
 |broken h h2=>exact set_ne (by simp)
 |unit h h2=>rw [put_R (by simp) (by simp) (by simp) (by simp),set_ne (by simp)]
 |moved k h1 h2 h3 h4=>rw [set_ne (by simpa using Ne.symm (hm _ (getD_mem' h3) h4)),set_ne (by simp)]
theorem drop_set_le {l:List Int} {k v:Nat} {x:Int} (h:k<v):(l.set k x).drop v=l.drop v:=by
 apply List.ext_getElem?
 intro j
 rw [List.getElem?_drop,List.getElem?_drop,List.getElem?_set,if_neg (by omega)]
theorem Pw.rowW (h:PM w2 b H t) {j:Nat} {w1:World} (m:Mod (fun k=>blk (H (.w j)).p=some k) w1 w2):Pw w1 w2 b H H t:=Pw.row h (x:= .w j) rfl m
theorem ep1 {p:Option Addr} {c:Nat}:(if c=0 then p else p.map (·.add (0*1)))=p:=by rw [ep0];split<;>rfl
theorem run_ok (h:PM w b H s) (g:Good s):Calls Tryz.prog prop_Prop_Run.id #[ptrV b] w fun e w'=> ∃r:Int,e= .returned (.int .i64 r)∧∃s' H',Pw w w' b H H' s'∧Good s'∧Ext s s'∧((r= -1∧Closed s')∨∃i:Nat,r=i∧Brk s' i):=by
 refine prop_Prop_Run.calls (cnd_f rfl ⟨_,rfl,_,_,_,cell_add h.st rfl,?_⟩)
 obtain ⟨av,hav⟩:=va_some h g.wf
 rw [hav]
 refine cnd_f rfl ((loosely_ok h g).mono ?_)
 rintro e w3 ⟨r4,rfl,s1,H1,P3,g1,x1,d1,hr⟩
 refine ⟨_,rfl,cnd_i (fun r=> ?_) fun r=> ?_⟩
 · have r:0≤r4:=by simpa using r
   refine ⟨r4,rfl,s1,H1,P3,g1,x1,.inr ?_⟩
   rcases hr with h|h
   · omega
   · exact h
 have r: ¬0≤r4:=by simpa using r
 have hl:Lsat s1:=by
  rcases hr with h| ⟨i,h,_⟩
  · exact h.2
  · omega
 refine ⟨fun u m=> ∃ (T:PSt) (H':Pt→Sl),m=T.vars - T.done∧Pw w u b H H' T∧Good T∧Ext s T∧Lsat T,⟨_,s1,H1,rfl,P3,g1,x1,hl⟩,?_⟩
 rintro w8 m _ ⟨T,H',rfl,P8,gT,xT,lT⟩
 have h8:=P8.pm
 refine ⟨_,rfl,_,cell_add h8.drew.st rfl,_,rfl,_,_,_,cell_add h8.drew.st rfl,?_⟩
 rw [h8.len .tr rfl]
 refine cnd_i (fun r=> ?_) (fun r=> ?_)
 · have hd:T.done< (T.R .tr).length:=by simpa using r
   have hD:=h8.drew.drew
   refine ⟨_,rfl,_,_,_,cell_add hD.st rfl,_,rfl,_,cell_add hD.st rfl,hD.rIx (x:= .tr) rfl (by omega) rfl (by omega) fun a17 _ hc17=> ⟨_,hc17,?_⟩⟩
   rw [Int.toNat_natCast]
   have hXm:(T.R .tr).getD T.done 0∈T.R .tr:=getD_mem' hd
   generalize hX:(T.R .tr).getD T.done 0=X at*
   have hXv:=gT.tv X hXm
   have hXb:=hXv.bd gT.vmax
   have ef:IntKind.i64.wrap (0 - X)= -X:=by rw [wrap64_of (by omega) (by omega)];omega
   rw [ef]
   have hfv:=hXv.neg
   have hfb:=hfv.bd gT.vmax
   obtain ⟨f,hf⟩: ∃f,f= -X:=⟨_,rfl⟩
   rw [← hf] at hfv hfb ⊢
   have hXf:X= -f:=by omega
   have hsl:=sideN_lt hfv
   refine ⟨(·=w8.drew.drew.drew),rfl,_,rfl,_,_,_,atW_eq (cell_add hD.drew.st rfl),(side_ok hfb _).mono ?_⟩
   rintro e w22 ⟨rfl,rfl⟩
   have P22:=((P8.drew).drew).drew
   have h22:=P22.pm
   refine ⟨_,rfl,rfl,h22.wIx hsl rfl rfl fun a24 _ hc24=> ⟨_,_,_,atW_eq hc24,?_⟩⟩
   have hNn:=h22.len (.w (sideN f)) rfl
   have hcap:(T.R (.w (sideN f))).length≤(H' (.w (sideN f))).c:=by
    rcases (h22.row (.w (sideN f)) rfl).un with ⟨_,_,e2⟩| ⟨_,_,_,_,e,_⟩
    · rw [e2];exact Nat.zero_le _
    · exact e
   have hNb:=gT.wl (sideN f)
   generalize hrow:T.R (.w (sideN f))=row at*
   refine ⟨fun KP V u m=> ∃ (kp v:Nat) (T2:PSt) (H2:Pt→Sl) (kept cur:List Int),KP=kp∧V=v∧v≤row.length∧kp≤v∧m=row.length - v∧kept.length=kp∧cur.length=row.length∧cur.take kp=kept∧cur.drop v=row.drop v∧
    T2.R (.w (sideN f))=cur∧H2 (.w (sideN f))=H' (.w (sideN f))∧Pw w u b H H2 T2∧Good (T2.set (.w (sideN f)) (kept++row.drop v))∧Ext T T2∧T2.done=T.done∧T2.R .lo=T.R .lo∧
    ∀k,T2.There k→(k:Int) ∉ row.drop v→Pg (T2.set (.w (sideN f)) (kept++row.drop v)) k,
    ⟨_,0,0,T,H',[],row,rfl,rfl,Nat.zero_le _,Nat.le_refl _,rfl,rfl,rfl,rfl,rfl,hrow,rfl,P22,?_,Ext.refl T,rfl,rfl,?_⟩,?_⟩
   · rw [List.nil_append,List.drop_zero,← hrow,set_self'];exact gT
   · rw [List.nil_append,List.drop_zero,← hrow,set_self']
     intro k hk hnm hlo x hx y hy hne hm
     rcases (mem_take_succ' hd).1 hm with hm|hm
     · exact gT.wd k hk hlo x hx y hy hne hm
     · rw [hX] at hm
       have:x=f:=by omega
       rw [this] at hx
       exact absurd (gT.w2 k hk f hx) hnm
   rintro KP V u m _ ⟨kp,v,T2,H2,kept,cur,rfl,rfl,hv,hkv,rfl,hkl,hcl,htk,hdk,hTc,hH2,Pu,gV,x2,d2,lo2,pg⟩
   have hu:=Pu.pm
   have hd2:T2.done< (T2.R .tr).length:=by
    rw [d2];obtain ⟨e,he⟩:=x2.tr;rw [he,List.length_append];omega
   have hp2:(T2.R .tr).getD T2.done 0= -f:=by
    rw [d2];obtain ⟨e,he⟩:=x2.tr;rw [he,getD_append_lt hd,hX,hXf]
   have hv2:T2.vars=T.vars:=x2.v
   refine cnd_i (fun r2=> ?_) (fun r2=> ?_)
   · have rv:v<row.length:=by rw [hNn] at r2;simpa using r2
     clear r2
     have hdrop:row.drop v=row.getD v 0::row.drop (v+1):=by
      rw [List.drop_eq_getElem_cons rv]
      simp [List.getD,rv]
     have hcv:cur.getD v 0=row.getD v 0:=by
      have e1:(cur.drop v).getD 0 0=cur.getD v 0:=by simp [List.getD]
      have e2:(row.drop v).getD 0 0=row.getD v 0:=by simp [List.getD]
      rw [← e1,hdk,e2]
     have hcd:cur.drop (v+1)=row.drop (v+1):=by
      have e1:(cur.drop v).drop 1=cur.drop (v+1):=by rw [List.drop_drop]
      have e2:(row.drop v).drop 1=row.drop (v+1):=by rw [List.drop_drop]
      rw [← e1,hdk,e2]
     rw [← hH2]
     refine hu.rIx (x:= .w (sideN f)) rfl (by omega) rfl (by rw [hTc];omega) fun a32 _ hc32=> ⟨_,hc32,?_⟩
     rw [hTc,Int.toNat_natCast,hcv]
     generalize hc:row.getD v 0=c at*
     obtain ⟨i,rfl,hth,z,hz,hsz⟩:=gV.w1 (sideN f) c (by rw [set_eq,hdrop];simp)
     have:=sideN_inj hsz
     subst this
     rw [set_ne (by simp)] at hz
     have hth:T2.There i:=hth
     have eRl:(T2.set (.w (sideN z)) (kept++row.drop v)).R (.l i)=T2.R (.l i):=set_ne (by simp)
     have hlin: ∀x∈T2.R (.l i),InV T2.vars x:=fun x hx=>gV.cv i hth x (by rw [eRl];exact hx)
     have hl4:(T2.R (.l i)).length≤4096:=by have:=gV.cl i hth;rw [eRl] at this;exact this
     have kT:Wf T2:=by
      have:=gV.wf
      have e:T2=(T2.set (.w (sideN z)) (kept++row.drop v)).set (.w (sideN z)) (T2.R (.w (sideN z))):=by rw [set_set,set_self']
      rw [e]
      exact this.set (by simp) (by simp) (by simp) (by simp) (by simp) _
     have hw: ∀j,(T2.R (.w j)).length≤262144:=fun j=>by
      by_cases e:j=sideN z
      · rw [e,hTc];omega
      · have:=gV.wl j;rw [set_ne (by simpa using e)] at this;exact this
     have keepIt: ∀ {u':World} {T':PSt} {H3:Pt→Sl},Pw w u' b H H3 T'→T'.R (.w (sideN z))=cur→H3 (.w (sideN z))=H2 (.w (sideN z))→∀ {K:World→Prop},
      (∀w3,Pw w w3 b H H3 (T'.set (.w (sideN z)) (cur.set kp (i:Int)))→K w3)→ixK (H2 (.w (sideN z))).p (H2 (.w (sideN z))).n (kp:Int) 1 fun a=> ∃w3,StoreAt a 0 [.int .i64 (i:Int)] u' w3∧K w3:=by
      intro u' T' H3 P e1 e2 K hk
      rw [← e2]
      refine P.pm.rSt (x:= .w (sideN z)) rfl (by omega) rfl (by rw [e1];omega) (y:=(i:Int)) rfl rfl fun w3 h3 m3=>hk w3 ?_
      rw [e1,Int.toNat_natCast] at h3
      exact P.trans (Pw.rowW h3 m3)
     have etk:(cur.set kp (i:Int)).take (kp+1)=kept++ [(i:Int)]:=by rw [take_set_succ (by omega),htk]
     have edk:(cur.set kp (i:Int)).drop (v+1)=row.drop (v+1):=by rw [drop_set_le (by omega),hcd]
     have eli:kept++ [(i:Int)]++row.drop (v+1)=kept++row.drop v:=by rw [hdrop];simp
     have eN:(H2 (.l i)).n=(T2.R (.l i)).length:=hu.len (.l i) rfl
     refine ⟨_,rfl,_,_,_,cell_add hu.st rfl,hu.cIx hth.1 rfl rfl fun a36 hc36=> ⟨_,_,_,hc36.get 1 _ rfl,?_⟩⟩
     rw [eN]
     refine cnd_i (fun r3=> ?_) (fun r3=> ?_)
     · have r3':((T2.R (.l i)).length:Int)<2:=by simpa using r3
       have r3:(T2.R (.l i)).length<2:=by omega
       refine keepIt Pu hTc rfl fun w39 P39=> ?_
       refine ⟨_,?_,kp+1,v+1,_,H2,kept++ [(i:Int)],cur.set kp (i:Int),wN (by omega) (by omega),wN (by omega) (by omega),rv,by omega,rfl,by simp [hkl],by simp [hcl],etk,edk,set_eq,rfl,P39,by rw [set_set,eli];exact gV,
        x2.trans (Ext.set (by simp) (by simp) (by simp) (by simp)),d2,by rw [set_ne (by simp)];exact lo2,fun k hk hnm=> ?_⟩
       · omega
       · rw [set_set,eli]
         by_cases e:k=i
         · subst e
           intro hlo
           exact absurd (gV.o2 k hk (by rw [eRl];exact r3)) hlo
         · refine pg k hk fun hm=> ?_
           rw [hdrop] at hm
           rcases List.mem_cons.1 hm with h|h
           · omega
           · exact hnm h
     · have r3:2≤(T2.R (.l i)).length:=by simp at r3;omega
       refine (visit_ok hu kT hth.1 hlin (by omega) (fun j=>by have:=hw j;omega) r3 z).mono ?_
       rintro e w40 ⟨st,br,rfl,s',H3,V3,P40,kv⟩
       have vz: ∀y,InV T2.vars y→0≤T2.val y→sideN y≠sideN z:=fun y _ hy e=>by
        rw [sideN_inj e] at hy
        have h1:(T2.set (.w (sideN z)) (kept++row.drop v)).val z<0:=(gV.vlt (by rw [show (T2.set (.w (sideN z)) (kept++row.drop v)).vars=T.vars from hv2];exact hfv)).2 (by
         rw [set_ne (by simp),← hp2];exact getD_mem' hd2)
        rw [val_eq (s:=T2) (set_ne (by simp))] at h1
        omega
       have vm: ∀y∈front (T2.R (.l i)) z,0≤T2.val y→sideN y≠sideN z:=fun y hy h0=>vz y (hlin y ((front_perm _ _).mem_iff.1 hy)) h0
       have eH3:H3 (.w (sideN z))=H2 (.w (sideN z)):=kv _ (by simp) fun y hy h0 e=>vz y hy h0 (by injection e with e;exact e.symm)
       have eRow:s'.R (.w (sideN z))=cur:=(vis_row V3 vm).trans hTc
       have V4:=vis_set (r:=kept++row.drop v) V3 vm
       rw [← eRl] at V4
       have hp4:((T2.set (.w (sideN z)) (kept++row.drop v)).R .tr).getD (T2.set (.w (sideN z)) (kept++row.drop v)).done 0= -z:=by rw [set_ne (by simp)];exact hp2
       have hd4:(T2.set (.w (sideN z)) (kept++row.drop v)).done< ((T2.set (.w (sideN z)) (kept++row.drop v)).R .tr).length:=by rw [set_ne (by simp)];exact hd2
       have P40':=Pu.trans P40
       have h40:=P40'.pm
       cases st with
       |true=>
        obtain ⟨G5,p5,q5,x5,b5,l5,d5,_⟩:=visit_good gV hth (by rw [eRl];exact r3) (by rw [eRl];exact hz) hd4 hp4 V4 (r:=kept++row.drop v) (fun _=>by rw [set_eq]) (fun h=>by cases h)
        rw [set_set] at G5 p5 q5 x5
        have x6:Ext T s':=x2.trans ((Ext.set (x:= .w (sideN z)) (by simp) (by simp) (by simp) (by simp)).trans (x5.trans (by
         have:=Ext.set (s:=s'.set (.w (sideN z)) (kept++row.drop v)) (x:= .w (sideN z)) (by simp) (by simp) (by simp) (by simp) (l:=s'.R (.w (sideN z)))
         rw [set_set,set_self'] at this
         exact this)))
        have dn6:s'.done=T.done:=d5.trans d2
        have lo6:s'.R .lo=T.R .lo:=by
         rw [set_ne (by simp),set_ne (by simp)] at l5
         exact l5.trans lo2
        refine ⟨_,_,rfl,cnd_t rfl (keepIt P40' eRow eH3 fun w44 P44=> ?_)⟩
        cases br with
        |true=>
         refine cnd_t rfl ?_
         rw [hH2]
         have e1:IntKind.i64.wrap ((kp:Int)+1)=((kp+1:Nat):Int):=wN (by omega) (by omega)
         have e2:IntKind.i64.wrap ((v:Int)+1)=((v+1:Nat):Int):=wN (by omega) (by omega)
         rw [e1,e2,hNn]
         refine slK_i (kp+1) row.length (H' (.w (sideN z))).c rfl rfl rfl (Nat.le_refl _) hcap (by omega) ?_
         refine slK_i (v+1) row.length (H' (.w (sideN z))).c rfl rfl rfl (Nat.le_refl _) hcap (by omega) ?_
         have h44:=P44.pm.drew
         have o44:OwI ty_int w44.drew (H' (.w (sideN z))).p (H' (.w (sideN z))).c (cur.set kp (i:Int)):=by
          have:=h44.row (.w (sideN z)) rfl
          rw [set_eq,eH3,hH2] at this
          exact this
         have vw:Vw (Value.int .i64) w44.drew (if (H' (.w (sideN z))).c=v+1 then (H' (.w (sideN z))).p else (H' (.w (sideN z))).p.map (·.add ((v+1)*1))) (row.drop (v+1)):=by
          split
          · have:row.drop (v+1)= []:=List.drop_of_length_le (by omega)
            rw [this];exact Vw.nil
          · have:=o44.vw.part (i:=v+1) (m:=row.length - (v+1)) (by simp [hcl];omega)
            rw [edk,List.take_of_length_le (by simp)] at this
            exact this
         refine o44.copyM sl_int (o:=kp+1) vw (by simp) (by omega) (fun h=> ?_) (by simp [hcl];omega) oneInt fun w47 o47 m47 z47=> ?_
         · rw [if_neg (by omega)]
         have hlen47:(cur.set kp (i:Int)).take (kp+1)++row.drop (v+1)=kept++row.drop v:=by rw [etk,eli]
         rw [hlen47] at o47
         have h47:=h44.but (x:= .w (sideN z)) rfl (w':=w47.drew) (m47.trans (Mod.refl _).drew|>.mono fun k _ e=>by rw [eH3,hH2];exact e)
         have h44s:=h44.st
         have hstc: ¬blk (H' (.w (sideN z))).p=some b:=by
          have:=h44.other (x:= .w (sideN z)) (by simp) (y:= .st) (by simp) (k:=b) rfl
          rw [eH3,hH2] at this;exact this
         refine ⟨(·=w47.drew),rfl,_,rfl,_,_,_,atW_eq (cell_add h47.st rfl),(side_ok hfb _).mono ?_⟩
         rintro e w52 ⟨rfl,rfl⟩
         have e3:IntKind.i64.wrap (((kp+1:Nat):Int)+ ((row.length - (v+1):Nat):Int))=((kp+1+ (row.length - (v+1)):Nat):Int):=wN (by omega) (by omega)
         refine ⟨_,rfl,rfl,?_⟩
         rw [e3]
         refine slK_i 0 (kp+1+ (row.length - (v+1))) (H' (.w (sideN z))).c rfl rfl rfl (Nat.le_refl _) (by omega) (Nat.zero_le _) ?_
         rw [ep1,Nat.sub_zero,Nat.sub_zero]
         have o52:OwI ty_int w47.drew (H' (.w (sideN z))).p (H' (.w (sideN z))).c (kept++row.drop v):=by
          have:=o47.drew.take (k:=(kept++row.drop v).length) (by simp)
          rw [List.take_left'] at this
          · exact this
          · rfl
         have hln:kp+1+ (row.length - (v+1))=(kept++row.drop v).length:=by simp [hkl];omega
         refine h44.headW (i:=sideN z) (by show _<2* (s'.vars+1);rw [x6.v];exact hsl) o52 h47 (fun k hk=> .inl (by rw [eH3,hH2];exact hk)) hln h44.wn rfl fun w56 h56 m56=> ?_
         rw [set_set] at h56
         have P56:Pw w w56 b H _ (s'.set (.w (sideN z)) (kept++row.drop v)):=P44.drew.trans (Pw.head (x:= .w (sideN z)) (z:= .wa) (by simp) h56 (m47.trans (Mod.refl _).drew|>.mono fun k _ e=>by rw [eH3,hH2];exact e) m56 fun k hk=> .inl (by rw [eH3,hH2];exact hk))
         refine ⟨_,rfl,_,_,P56,G5,xT.trans (x6.trans (Ext.set (by simp) (by simp) (by simp) (by simp))),.inr ⟨i,rfl,x5.there.2 hth,fun x hx=> ?_⟩⟩
         have hb:=b5 rfl x (by
          rw [x5.a] at hx
          exact (gV.ca i hth x).2 hx)
         exact x5.mem hb
        |false=>
         refine cnd_f rfl ?_
         refine ⟨_,?_,kp+1,v+1,_,H3,kept++ [(i:Int)],cur.set kp (i:Int),wN (by omega) (by omega),wN (by omega) (by omega),rv,by omega,rfl,by simp [hkl],by simp [hcl],etk,edk,set_eq,eH3,P44,by rw [set_set,eli];exact G5,
          x6.trans (Ext.set (by simp) (by simp) (by simp) (by simp)),dn6,by rw [set_ne (by simp)];exact lo6,fun k hk hnm=> ?_⟩
         · omega
         · rw [set_set,eli]
           by_cases e:k=i
           · subst e;exact p5 rfl
           · refine q5 k e (pg k (x5.there.1 hk) fun hm=> ?_)
             rw [hdrop] at hm
             rcases List.mem_cons.1 hm with h|h
             · omega
             · exact hnm h
       |false=>
        have hbr:br=false:=by cases V3;rfl
        subst hbr
        have hnd:=gV.w3 (sideN z)
        rw [set_eq,hdrop] at hnd
        have hr2: ∀c,c∈kept++row.drop (v+1)↔c∈(T2.set (.w (sideN z)) (kept++row.drop v)).R (.w (sideN z))∧c≠(i:Int):=fun c=>by
         rw [set_eq,hdrop,List.mem_append,List.mem_append,List.mem_cons]
         have h1:=List.nodup_append.1 hnd
         have h2:=List.nodup_cons.1 h1.2.1
         constructor
         · rintro (h|h)
           · exact ⟨.inl h,fun e=>h1.2.2 c h (i:Int) (by simp) e⟩
           · exact ⟨.inr (.inr h),fun e=>h2.1 (e▸h)⟩
         · rintro ⟨h|h|h,hne⟩
           · exact .inl h
           · exact absurd h hne
           · exact .inr h
        have hsub:(kept++row.drop (v+1)).Sublist (kept++ (i:Int)::row.drop (v+1)):=List.Sublist.append (List.Sublist.refl _) (List.sublist_cons_self _ _)
        obtain ⟨G5,p5,q5,x5,b5,l5,d5,_⟩:=visit_good gV hth (by rw [eRl];exact r3) (by rw [eRl];exact hz) hd4 hp4 V4 (r:=kept++row.drop (v+1)) (fun h=>by cases h) (fun _=> ⟨hr2,hsub.nodup hnd⟩)
        rw [set_set] at G5 p5 q5 x5
        have x6:Ext T s':=x2.trans ((Ext.set (x:= .w (sideN z)) (by simp) (by simp) (by simp) (by simp)).trans (x5.trans (by
         have:=Ext.set (s:=s'.set (.w (sideN z)) (kept++row.drop (v+1))) (x:= .w (sideN z)) (by simp) (by simp) (by simp) (by simp) (l:=s'.R (.w (sideN z)))
         rw [set_set,set_self'] at this
         exact this)))
        have lo6:s'.R .lo=T.R .lo:=by
         rw [set_ne (by simp),set_ne (by simp)] at l5
         exact l5.trans lo2
        refine ⟨_,_,rfl,cnd_f rfl (cnd_f rfl ?_)⟩
        refine ⟨_,?_,kp,v+1,s',H3,kept,cur,rfl,wN (by omega) (by omega),rv,by omega,rfl,hkl,hcl,htk,hcd,eRow,eH3,P40',G5,x6,d5.trans d2,lo6,fun k hk hnm=> ?_⟩
        · omega
        · by_cases e:k=i
          · subst e;exact p5 rfl
          · refine q5 k e (pg k (x5.there.1 hk) fun hm=> ?_)
            rw [hdrop] at hm
            rcases List.mem_cons.1 hm with h|h
            · omega
            · exact hnm h
   · have r2:v=row.length:=by rw [hNn] at r2;simp at r2;omega
     subst r2
     rw [List.drop_length,List.append_nil] at gV
     have h31:=hu.drew
     refine ⟨(·=u.drew),rfl,_,rfl,_,_,_,atW_eq (cell_add h31.st rfl),(side_ok hfb _).mono ?_⟩
     rintro e w72 ⟨rfl,rfl⟩
     refine ⟨_,rfl,rfl,?_⟩
     rw [hNn]
     refine slK_i 0 kp (H' (.w (sideN f))).c rfl rfl rfl (Nat.le_refl _) (by omega) (Nat.zero_le _) ?_
     rw [ep1,Nat.sub_zero,Nat.sub_zero]
     have o72:OwI ty_int u.drew (H' (.w (sideN f))).p (H' (.w (sideN f))).c kept:=by
      have:=(h31.row (.w (sideN f)) rfl).take (k:=kp) (by rw [hTc];omega)
      rw [hTc,htk,hH2] at this
      exact this
     refine h31.headW (i:=sideN f) (by rw [hv2];exact hsl) o72 ⟨h31.st,h31.c,h31.wa,fun y hy _=>h31.row y hy⟩ (fun k hk=> .inl (by rw [hH2];exact hk)) hkl.symm h31.wn rfl fun w76 h76 m76=> ?_
     have P76:Pw w w76 b H _ (T2.set (.w (sideN f)) kept):=Pu.drew.trans (Pw.head (x:= .w (sideN f)) (z:= .wa) (by simp) h76 (Mod.refl _) m76 fun k hk=> .inl (by rw [hH2];exact hk))
     refine ⟨_,rfl,_,cell_add h76.st rfl,_,rfl,?_⟩
     have e1:IntKind.i64.wrap (((T2.set (.w (sideN f)) kept).done:Int)+1)=((T2.done+1:Nat):Int):=wN rfl (by have:=gT.trl;have:=gT.vmax;omega)
     refine h76.setDone (n:=T2.done+1) e1 fun w80 h80 m80=> ?_
     have gS:=step_good gV (by rw [set_ne (by simp)];exact hd2) fun k hk=>by
      have:=pg k hk (by rw [List.drop_length];simp)
      rw [List.drop_length,List.append_nil] at this
      exact this
     have xs1:Ext T2 (T2.set (.w (sideN f)) kept):=Ext.set (by simp) (by simp) (by simp) (by simp)
     have xS:Ext T (T2.set (.w (sideN f)) kept).step:=x2.trans ⟨xs1.v,xs1.n,xs1.g,xs1.a,xs1.be,xs1.ds,xs1.tr⟩
     refine ⟨_,?_,(T2.set (.w (sideN f)) kept).step,_,rfl,P76.trans ⟨h80,m80.mono fun k _ e=> ⟨.st,by rw [e];rfl⟩,fun x k hk=> .inl ⟨x,hk⟩⟩,gS,xT.trans xS,fun k hk hm=> ?_⟩
     · show T2.vars - (T2.done+1)<T.vars - T.done
       have:=gT.trl
       rw [hv2,d2];omega
     · have hm':(k:Int)∈T.R .lo:=by
        have e:(T2.set (.w (sideN f)) kept).step.R .lo=T2.R .lo:=set_ne (s:=T2) (x:= .w (sideN f)) (y:= .lo) (l:=kept) (by simp)
        rw [e,lo2] at hm;exact hm
       obtain ⟨x,hx,hxt⟩:=lT k (xS.there.1 hk) hm'
       exact ⟨x,by rw [xS.a];exact hx,xS.mem hxt⟩
 · have hd:(T.R .tr).length≤T.done:=by simp at r;omega
   exact ⟨_,rfl,T,H',P8.drew,gT,xT,.inl ⟨rfl,closed_of gT hd lT⟩⟩
end
section
variable {w w' w0 w2 w3:World} {b:Nat} {H H' H2:Pt→Sl} {s t u s' T:PSt} {l x y:Int} {i:Nat}
def PSt.begin (s:PSt):PSt:=(s.set .be (s.R .be++ [((s.R .tr).length:Int)])).set .ds (s.R .ds++ [(s.done:Int)])
def PSt.decide (s:PSt) (l:Int):PSt:=s.begin.put l (-1)
theorem decide_good (g:Good s) (hl:InV s.vars l) (h0:s.val l=0):Good (s.decide l):=
 put_good g hl h0 (t:=s.begin) (fun y h1 h2=>by unfold PSt.begin;rw [set_ne h2,set_ne h1]) rfl rfl rfl rfl (.inr ⟨by unfold PSt.begin;rw [set_ne (by simp),set_eq],by unfold PSt.begin;rw [set_eq],rfl⟩)
structure Sh (b:Nat) (H:Pt→Sl) (s:PSt):Prop where
 cn:(H .c).n=s.nc
 wn:(H .wa).n=2* (s.vars+1)
 len: ∀x,x.row=true→(H x).n=(s.R x).length
 inj: ∀x y k,own b H x=some k→own b H y=some k→x=y
structure Pq (w:World) (b:Nat) (H:Pt→Sl) (s:PSt) (E:Pt→Prop):Prop where
 st:Has w b (stC s H)
 c:Row 3 ceE ty_prop_clause w (H .c).p (H .c).c (ces H s.gone s.nc)
 wa:Ow Sl.v ty_sl_int w (H .wa).p (H .wa).c (heads H (2* (s.vars+1)))
 row: ∀y,y.row=true→¬E y→Ow y.f y.T w (H y).p (H y).c (s.R y)
theorem PM.sh (h:PM w b H s):Sh b H s:=⟨h.cn,h.wn,h.len,h.inj⟩
theorem Sh.pm (k:Sh b H s) {E:Pt→Prop} (X:Pq w b H s E) (hE: ∀y,¬E y):PM w b H s:=⟨X.st,X.c,k.cn,X.wa,k.wn,fun x hx=>X.row x hx (hE x),k.len,k.inj⟩
theorem inj_upd' (hinj: ∀x y k,own b H x=some k→own b H y=some k→x=y) {x:Pt} (hx:x≠ .st) {q:Sl} (hp: ∀k,blk q.p=some k→blk (H x).p=some k∨∀y,own b H y≠some k):
 ∀y z k,own b (updF H x q) y=some k→own b (updF H x q) z=some k→y=z:=by
 have key: ∀y,y≠x→own b (updF H x q) y=own b H y:=fun y e=>by
  cases y<;>first|rfl| (simp only [own];rw [updF_ne e])
 have same:own b (updF H x q) x=blk q.p:=by rw [own_ne hx,updF_same]
 intro y z k hy hz
 by_cases ey:y=x<;>by_cases ez:z=x
 · rw [ey,ez]
 · subst ey
   rw [same] at hy
   rw [key z ez] at hz
   rcases hp k hy with e|e
   · exact hinj y z k (by rw [own_ne hx];exact e) hz
   · exact absurd hz (e z)
 · subst ez
   rw [same] at hz
   rw [key y ey] at hy
   rcases hp k hz with e|e
   · exact hinj y z k hy (by rw [own_ne hx];exact e)
   · exact absurd hy (e y)
 · rw [key y ey] at hy
   rw [key z ez] at hz
   exact hinj y z k hy hz
theorem Sh.head (h:Sh b H s) {E:Pt→Prop} {x:Pt} (hx:x.field=true) {p':Option Addr} {c':Nat} {l':List Int} (o:Ow x.f x.T w2 p' c' l') (X:Pq w2 b H s E)
 (hp: ∀k,blk p'=some k→blk (H x).p=some k∨∀y,own b H y≠some k) {n':Nat} (hn:n'=l'.length) {K:World→Prop}
 (hk: ∀w3,Sh b (updF H x ⟨p',n',c'⟩) (s.set x l')→Pq w3 b (updF H x ⟨p',n',c'⟩) (s.set x l') (fun y=>E y∧y≠x)→Mod (·=b) w2 w3→K w3):
 ∃w3,StoreAt ((Addr.mk b 0 none).add x.off) 0 [.slice p' n' c'] w2 w3∧K w3:=by
 subst hn
 have hr:=field_row hx
 obtain ⟨h1,h2,h3⟩:=row_ne hr
 have hb: ∀y k,y≠ .st→own b H y=some k→k≠b:=fun y k hy hk e=>by subst e;exact hy (h.inj y .st k hk rfl)
 have hpb: ∀k,blk p'=some k→¬k=b:=fun k hkk e=>by
  rcases hp k hkk with e2|e2
  · exact h1 (h.inj x .st k (by rw [own_ne h1];exact e2) (by rw [e];rfl))
  · exact e2 .st (by rw [e];rfl)
 have hl: ∀i,x≠ .l i:=fun i e=>by subst e;simp [Pt.field] at hx
 have ha: ∀i,x≠ .a i:=fun i e=>by subst e;simp [Pt.field] at hx
 have hw: ∀i,x≠ .w i:=fun i e=>by subst e;simp [Pt.field] at hx
 refine store_f (k:=x.off) (i:=0) X.st (by cases x<;>simp [Pt.field] at hx<;>rfl) rfl fun w3 h3' m3=>hk w3 ?_ ?_ m3
 · refine ⟨by rw [updF_ne (Ne.symm h2)];exact h.cn,by rw [updF_ne (Ne.symm h3)];exact h.wn,fun y hy=> ?_,inj_upd' h.inj h1 hp⟩
   by_cases e:y=x
   · subst e;simp only [PSt.set,updF_same]
   · simp only [PSt.set,updF_ne e];exact h.len y hy
 · refine ⟨?_,?_,?_,fun y hy hE=> ?_⟩
   · have e:wr (stC s H) (0+x.off+0) [.slice p' l'.length c']=stC (s.set x l') (updF H x ⟨p',l'.length,c'⟩):=by
      cases x<;>simp [Pt.field] at hx<;>simp [wr,stC,Pt.off,updF,PSt.set,Sl.v]
     rw [← e];exact h3'
   · rw [ces_upd hl ha,updF_ne (Ne.symm h2)]
     exact X.c.keep m3 fun k hk=>hb .c k (by simp) hk
   · show Ow Sl.v ty_sl_int w3 _ _ (heads (updF H x _) (2* (s.vars+1)))
     rw [heads_upd hw,updF_ne (Ne.symm h3)]
     exact X.wa.keep m3 fun k hk=>hb .wa k (by simp) hk
   · by_cases e:y=x
     · subst e
       simp only [PSt.set,updF_same]
       exact o.keep m3 fun k hk=>hpb k hk
     · simp only [PSt.set,updF_ne e]
       exact (X.row y hy fun h=>hE ⟨h,e⟩).keep m3 fun k hk=>hb y k (row_ne hy).1 (by rw [own_ne (row_ne hy).1];exact hk)
theorem PM.butQ (h:PM w b H s) {E:Pt→Prop} (hE: ∀y,E y→y.row=true) {S:Nat→Prop} (m:Mod S w w') (hS: ∀k,k<w.heap.size→S k→∃y,E y∧own b H y=some k):Pq w' b H s E:=by
 have oth: ∀y k,¬E y→own b H y=some k→¬S k:=fun y k hy hk hs=>by
  obtain ⟨z,hz,e⟩:=hS k (h.lt y k hk) hs
  exact hy (h.inj y z k hk e▸hz)
 have ne: ∀y,y.row=false→¬E y:=fun y hy he=>by rw [hE y he] at hy;cases hy
 exact ⟨h.st.keep m (oth .st b (ne _ rfl) rfl),h.c.keep m fun k hk=>oth .c k (ne _ rfl) hk,h.wa.keep m fun k hk=>oth .wa k (ne _ rfl) hk,
  fun y hy e=> (h.row y hy).keep m fun k hk=>oth y k e (by rw [own_ne (row_ne hy).1];exact hk)⟩
theorem own_upd {x y:Pt} {q:Sl} (e:y≠x):own b (updF H x q) y=own b H y:=by cases y<;>first|rfl| (simp only [own];rw [updF_ne e])
theorem PM.two (h:PM w0 b H s) {wB:World} {p1:Option Addr} {c1:Nat} {y1 y2:Int} (o1:OwI ty_int wB p1 c1 (s.R .be++ [y1])) (m1:Mod (fun k=>blk (H .be).p=some k) w0 wB)
 (hp1: ∀k,blk p1=some k→blk (H .be).p=some k∨w0.heap.size≤k) {n2:Nat} (hb:Has wB n2 #[.int .i64 y2]) (hlen:(s.R .ds).length≤4000000) {n1:Nat} (hn1:n1=(s.R .be++ [y1]).length) {K:World→Prop}
 (hk: ∀w3 H',Pw w0 w3 b H H' ((s.set .be (s.R .be++ [y1])).set .ds (s.R .ds++ [y2]))→K w3):
 ∃w2,∃ (p':Option Addr) (n' c':Nat),(Builtin.append_ #[ty_sl_int,ty_sl_int] ty_sl_int #[.slice (H .ds).p (H .ds).n (H .ds).c,.slice (some (Addr.mk n2 0 none)) 1 1]).run Tryz.prog wB= .ok (.slice p' n' c') w2∧
  ∃a:Addr,(some ⟨b,0,none⟩:Option Addr)=some a∧∃w3,StoreAt (a.add 7) 0 [.slice p1 n1 c1] w2 w3∧∃a:Addr,(some ⟨b,0,none⟩:Option Addr)=some a∧∃w4,StoreAt (a.add 8) 0 [.slice p' n' c'] w3 w4∧K w4:=by
 have X1:=h.but (x:= .be) rfl m1
 have ods:OwI ty_int wB (H .ds).p (H .ds).c (s.R .ds):=X1.row .ds rfl (by simp)
 refine ods.app1 sl_int y2 hb rfl (h.len .ds rfl) oneInt (by omega) fun w2 p' c' o2 m2 hp2 hs2=> ⟨_,rfl,?_⟩
 have np1: ∀k,blk p1=some k→¬blk (H .ds).p=some k:=fun k hk e=>by
  rcases hp1 k hk with h1|h1
  · exact h.other (x:= .ds) (by simp) (y:= .be) (by simp) h1 e
  · have:=h.lt .ds k e;omega
 have m12:Mod (fun k=>blk (H .be).p=some k∨blk (H .ds).p=some k) w0 w2:=(m1.mono fun _ _ e=> .inl e).trans (m2.mono fun _ _ e=> .inr e)
 have Q2:=h.butQ (E:=fun y=>y= .be∨y= .ds) (fun y e=>by rcases e with rfl|rfl<;>rfl) m12 fun k _ e=>e.elim (fun e=> ⟨.be,.inl rfl,e⟩) fun e=> ⟨.ds,.inr rfl,e⟩
 have z1:=m1.size
 have f2: ∀k,blk p'=some k→blk (H .ds).p=some k∨w0.heap.size≤k:=fun k hk=>by
  rcases hp2 with rfl|rfl
  · exact .inl hk
  · have:=blk_some hk;exact .inr (by omega)
 have f12: ∀k,blk p'=some k→blk p1≠some k:=fun k hk e=>by
  rcases hp2 with rfl|rfl
  · exact np1 k e hk
  · have:=blk_some hk
    have:=o1.lt k e;omega
 refine h.sh.head (x:= .be) rfl (o1.keep m2 fun k hk=>np1 k hk) Q2 (fun k hk=> (hp1 k hk).imp id fun e=>h.fresh e) hn1 fun w3 S3 Q3 m3=> ⟨_,rfl,?_⟩
 refine S3.head (x:= .ds) rfl (o2.keep m3 fun k hk e=> ?_) Q3 (fun k hk=> ?_) (by simp) fun w4 S4 Q4 m4=>hk w4 (updF (updF H .be ⟨p1,n1,c1⟩) .ds ⟨p',(s.R .ds).length+1,c'⟩) ?_
 · rcases f2 k hk with e2|e2
   · exact h.other (x:= .ds) (by simp) (y:= .st) (by simp) (k:=k) (by rw [e];rfl) e2
   · have:=h.lt .st b rfl;omega
 · rw [updF_ne (by simp)]
   rcases f2 k hk with e2|e2
   · exact .inl e2
   · refine .inr fun y e=> ?_
     by_cases ey:y= .be
     · subst ey
       rw [own_ne (by simp),updF_same] at e
       exact f12 k hk e
     · rw [own_upd ey] at e
       have:=h.lt y k e;omega
 · refine ⟨S4.pm Q4 fun y e=> ?_,?_,fun x k hkk=> ?_⟩
   · rcases e.1.1 with e2|e2
     · exact e.1.2 e2
     · exact e.2 e2
   · exact ((m12.mono fun k _ e=>e.elim (fun e=> ⟨.be,e⟩) fun e=> ⟨.ds,e⟩).trans (m3.mono fun k _ e=> ⟨.st,by rw [e];rfl⟩)).trans (m4.mono fun k _ e=> ⟨.st,by rw [e];rfl⟩)
   · by_cases e1:x= .ds
     · subst e1
       rw [own_ne (by simp),updF_same] at hkk
       exact (f2 k hkk).imp (fun e=> ⟨.ds,e⟩) id
     · rw [own_upd e1] at hkk
       by_cases e2:x= .be
       · subst e2
         rw [own_ne (by simp),updF_same] at hkk
         exact (hp1 k hkk).imp (fun e=> ⟨.be,e⟩) id
       · rw [own_upd e2] at hkk
         exact .inl ⟨x,hkk⟩
theorem decide_ok (h:PM w b H s) (g:Good s) (l:Int):Calls Tryz.prog prop_Prop_Decide.id #[ptrV b,.int .i64 l] w fun e w'=> ∃r:Int,e= .returned (.int .i64 r)∧∃H',((r=0∧InV s.vars l∧s.val l=0∧Pw w w' b H H' (s.decide l))∨(r=1∧¬(InV s.vars l∧s.val l=0)∧Pw w w' b H H' s)):=by
 have k:=g.wf
 refine prop_Prop_Decide.calls ((is_ok h k l).mono ?_)
 rintro e w1 ⟨rfl,g1⟩
 refine ⟨_,rfl,?_⟩
 cases hi:isB s.vars l with
 |false=>exact cnd_t rfl ⟨_,rfl,H,.inr ⟨rfl,(fun hh=>by rw [(isB_iff k.vmax).2 hh.1] at hi;cases hi),Pw.refl (h.grow g1) g1⟩⟩
 |true=>
  have hl:=(isB_iff k.vmax).1 hi
  refine cnd_f rfl ((val_ok (h.grow g1) k hl).mono ?_)
  rintro e w3 ⟨rfl,rfl⟩
  refine ⟨_,rfl,cnd_i (fun r=> ?_) (fun r=> ?_)⟩
  · have r:s.val l≠0:=by simpa using r
    exact ⟨_,rfl,H,.inr ⟨rfl,fun h=>r h.2,Pw.refl (h.grow g1) g1⟩⟩
  · have r:s.val l=0:=by simpa using r
    have h0:=(h.grow g1).drew
    have kb:(s.R .be).length≤1048576:=by have:=g.bel;have:=g.trl;have:=g.vmax;omega
    have kd:(s.R .ds).length≤1048576:=by rw [g.dl];exact kb
    have kt:(s.R .tr).length≤1048576:=by have:=g.trl;have:=g.vmax;omega
    have aw: ∀ {a:Addr} {u:Value},w3.drew.cell? a=some u→a.block=b→AtW (Mod (fun k=>blk (H .be).p=some k∨blk (H .ds).p=some k) w3.drew) a u:=fun hc hne u' g=>cell_keep g hc fun e=>by
     rw [hne] at e
     rcases e with e|e
     · exact h0.other (x:= .be) (by simp) (y:= .st) (by simp) rfl e
     · exact h0.other (x:= .ds) (by simp) (y:= .st) (by simp) rfl e
    have gm: ∀ {w1:World},Grow w3.drew w1→Mod (fun k=>blk (H .be).p=some k∨blk (H .ds).p=some k) w3.drew w1:=fun g=>g.mono fun _ _ e=>e.elim
    refine ⟨Mod (fun k=>blk (H .be).p=some k∨blk (H .ds).p=some k) w3.drew,Mod.refl _,_,rfl,_,_,_,aw (cell_add h0.st rfl) (add_block _ _),_,rfl,_,_,_,aw (cell_add h0.st rfl) (add_block _ _),_,rfl,_,_,_,aw (cell_add h0.st rfl) (add_block _ _),
     _,rfl,_,aw (cell_add h0.st rfl) (add_block _ _),?_⟩
    rw [h.len .tr rfl]
    have kB:Wf s.begin:=by
     unfold PSt.begin
     refine ⟨k.vmax,by rw [set_ne (by simp),set_ne (by simp)];exact k.va,by rw [set_ne (by simp),set_ne (by simp)];exact k.vb,by rw [set_ne (by simp),set_ne (by simp)];exact k.le,by rw [set_ne (by simp),set_ne (by simp)];exact k.re,?_,by rw [set_ne (by simp),set_ne (by simp)];exact k.tr,k.nc⟩
     rw [set_ne (by simp),set_eq,List.length_append]
     simp only [List.length_cons,List.length_nil]
     omega
    have fin: ∀w25 H',Pw w3.drew w25 b H H' s.begin→Calls Tryz.prog prop_Prop_put.id #[ptrV b,.int .i64 l,.int .i64 (-1)] w25 fun e w26=>e= .returned (.tuple #[])∧
     ∃r:Int,Ending.returned (.int .i64 0)= .returned (.int .i64 r)∧∃H',((r=0∧InV s.vars l∧s.val l=0∧Pw w w26 b H H' (s.decide l))∨(r=1∧¬(InV s.vars l∧s.val l=0)∧Pw w w26 b H H' s)):=by
     intro w25 H' P
     refine (put_ok P.pm kB (l:=l) hl (-1)).mono ?_
     rintro e w26 ⟨rfl,q,P2⟩
     exact ⟨rfl,_,rfl,_,.inl ⟨rfl,hl,r,(P.trans P2).pre (g1.trans (Mod.refl _).drew)⟩⟩
    have fr: ∀ {u:World} {p':Option Addr},Grow w3.drew u→(p'=(H .be).p∨p'=some ⟨u.heap.size,0,none⟩)→∀k,blk p'=some k→blk (H .be).p=some k∨w3.drew.heap.size≤k:=fun g hp k hk=>by
     rcases hp with rfl|rfl
     · exact .inl hk
     · have:=blk_some hk;have:=g.size;exact .inr (by omega)
    have fbe: ∀ {u:World},Grow w3.drew u→OwI ty_int u (H .be).p (H .be).c (s.R .be):=fun g=> (h0.grow g).row .be rfl
    have nbe: ∀ {n:Nat} {u v:World} {o:Obj},Grow w3.drew u→New o u n v→¬blk (H .be).p=some n:=fun g hn e=>by
     have:=h0.lt .be _ e;have:=hn.num;have:=g.size;omega
    refine ⟨?_,?_⟩
    · intro n14 w15 h15
      have g15:=h15.mod
      refine ⟨gm g15,?_,?_⟩
      · refine (fbe g15).app1 sl_int _ h15.has rfl (h.len .be rfl) oneInt (by omega) fun w16 p1 c1 o1 m1 hp1 hs1=> ⟨(gm g15).trans (m1.mono fun _ _ e=> .inl e),?_⟩
        intro n18 w19 h19
        have M19:Mod (fun k=>blk (H .be).p=some k) w3.drew w19:=((g15.mono fun _ _ e=>e.elim).trans m1).trans (h19.mod.mono fun _ _ e=>e.elim)
        refine ⟨M19.mono fun _ _ e=> .inl e,h0.two (o1.grow h19.mod) M19 (fr g15 hp1) h19.has (by omega) (by simp) fun w25 H' P=>fin w25 H' P⟩
      · intro n27 w28 h28
        have g28:=g15.trans h28.mod
        refine ⟨gm g28,(fbe g28).app1 sl_int _ (h15.has.grow h28.mod) rfl (h.len .be rfl) oneInt (by omega) fun w29 p1 c1 o1 m1 hp1 hs1=> ⟨(gm g28).trans (m1.mono fun _ _ e=> .inl e),?_⟩⟩
        exact h0.two o1 ((g28.mono fun _ _ e=>e.elim).trans m1) (fr g28 hp1) (h28.has.keep m1 (nbe g15 h28)) (by omega) (by simp) fun w25 H' P=>fin w25 H' P
    · intro n38 w39 h39
      have g39:=h39.mod
      refine ⟨gm g39,?_⟩
      intro n40 w41 h41
      have g41:=g39.trans h41.mod
      refine ⟨gm g41,(fbe g41).app1 sl_int _ h41.has rfl (h.len .be rfl) oneInt (by omega) fun w29 p1 c1 o1 m1 hp1 hs1=> ⟨(gm g41).trans (m1.mono fun _ _ e=> .inl e),?_⟩⟩
      exact h0.two o1 ((g41.mono fun _ _ e=>e.elim).trans m1) (fr g41 hp1) ((h39.has.grow h41.mod).keep m1 (nbe (Mod.refl _) h39)) (by omega) (by simp) fun w25 H' P=>fin w25 H' P
end
section
variable {w w' w0 w2 w3:World} {b:Nat} {H H' H2:Pt→Sl} {s t u s' T:PSt} {l x y:Int} {i:Nat}
def clr (va:List Int) (xs:List Int):List Int:=xs.foldl (fun va x=>va.set (amt x).toNat 0) va
theorem clr_len: ∀ (xs va:List Int),(clr va xs).length=va.length
 | [],_=>rfl
 |x::xs,va=>by
  show (clr (va.set (amt x).toNat 0) xs).length=_
  rw [clr_len xs];simp
theorem clr_get {k:Nat}: ∀ (xs va:List Int),(clr va xs).getD k 0=if ∃x∈xs,(amt x).toNat=k then 0 else va.getD k 0
 | [],va=>by simp [clr]
 |x::xs,va=>by
  show (clr (va.set (amt x).toNat 0) xs).getD k 0=_
  rw [clr_get xs]
  by_cases h: ∃y∈xs,(amt y).toNat=k
  · obtain ⟨y,hy,e⟩:=h
    rw [if_pos ⟨y,hy,e⟩,if_pos ⟨y,List.mem_cons_of_mem _ hy,e⟩]
  · rw [if_neg h]
    by_cases e:(amt x).toNat=k
    · rw [if_pos ⟨x,List.mem_cons_self ..,e⟩]
      simp only [List.getD_eq_getElem?_getD,List.getElem?_set]
      rw [if_pos e]
      split<;>simp
    · rw [if_neg]
      · simp only [List.getD_eq_getElem?_getD,List.getElem?_set]
        rw [if_neg e]
      · rintro ⟨y,hy,e2⟩
        rcases List.mem_cons.1 hy with rfl|hy
        · exact e e2
        · exact h ⟨y,hy,e2⟩
theorem clr_snoc (va xs:List Int) (x:Int):clr va (xs++ [x])=(clr va xs).set (amt x).toNat 0:=by simp [clr]
def PSt.back (s:PSt) (L:Nat):PSt:=
 {((((s.set .va (clr (s.R .va) ((s.R .tr).drop ((s.R .be).getD L 0).toNat))).set .tr ((s.R .tr).take ((s.R .be).getD L 0).toNat)).set .be ((s.R .be).take L)).set .ds ((s.R .ds).take L)) with
  done:=min (min s.done ((s.R .be).getD L 0).toNat) ((s.R .ds).getD L 0).toNat}
theorem take_getD {l:List Int} {k j:Nat} (h:j<k):(l.take k).getD j 0=l.getD j 0:=by
 simp only [List.getD_eq_getElem?_getD,List.getElem?_take]
 rw [if_pos h]
theorem back_good (g:Good s) {L:Nat} (hL:L< (s.R .be).length):Good (s.back L):=by
 have hb:=g.bl L hL
 have hdb:=g.db L hL
 have gdl:=g.dl
 obtain ⟨A,hA⟩: ∃A:Nat,((s.R .be).getD L 0).toNat=A:=⟨_,rfl⟩
 have hAi:(s.R .be).getD L 0=(A:Int):=by omega
 have hAl:A< (s.R .tr).length:=by omega
 have eva:(s.back L).R .va=clr (s.R .va) ((s.R .tr).drop A):=by rw [← hA];unfold PSt.back;simp [PSt.set,updF]
 have etr:(s.back L).R .tr=(s.R .tr).take A:=by rw [← hA];unfold PSt.back;simp [PSt.set,updF]
 have ebe:(s.back L).R .be=(s.R .be).take L:=by unfold PSt.back;simp [PSt.set,updF]
 have eds:(s.back L).R .ds=(s.R .ds).take L:=by unfold PSt.back;simp [PSt.set,updF]
 have eR: ∀y,y≠ .va→y≠ .tr→y≠ .be→y≠ .ds→(s.back L).R y=s.R y:=fun y a1 a2 a3 a4=>by unfold PSt.back;simp [PSt.set,updF,a1,a2,a3,a4]
 have edn:(s.back L).done=min (min s.done A) ((s.R .ds).getD L 0).toNat:=by rw [← hA];rfl
 have ele:=eR .le (by simp) (by simp) (by simp) (by simp)
 have ere:=eR .re (by simp) (by simp) (by simp) (by simp)
 have elo:=eR .lo (by simp) (by simp) (by simp) (by simp)
 have el: ∀i,(s.back L).R (.l i)=s.R (.l i):=fun i=>eR _ (by simp) (by simp) (by simp) (by simp)
 have ea: ∀i,(s.back L).R (.a i)=s.R (.a i):=fun i=>eR _ (by simp) (by simp) (by simp) (by simp)
 have ew: ∀i,(s.back L).R (.w i)=s.R (.w i):=fun i=>eR _ (by simp) (by simp) (by simp) (by simp)
 have elev: ∀x,(s.back L).lev x=s.lev x:=fun x=>by unfold PSt.lev;rw [ele]
 have erea: ∀x,(s.back L).rea x=s.rea x:=fun x=>by unfold PSt.rea;rw [ere]
 have lt:((s.R .tr).take A).length=A:=by rw [List.length_take];omega
 have lb:((s.R .be).take L).length=L:=by rw [List.length_take];omega
 have sub: ∀x,x∈(s.R .tr).take A→x∈s.R .tr:=fun x hx=>List.mem_of_mem_take hx
 have later: ∀p:Int,p∈(s.R .be).drop L→(A:Int)≤p:=fun p hp=>by
  obtain ⟨j,hj,e⟩:=List.mem_iff_getElem.1 hp
  rw [List.length_drop] at hj
  rw [List.getElem_drop] at e
  have ep:(s.R .be).getD (L+j) 0=p:=by simp [List.getD,show L+j< (s.R .be).length by omega,e]
  rcases Nat.eq_zero_or_pos j with h|h
  · subst h;rw [Nat.add_zero,hAi] at ep;omega
  · have:=g.bs L (L+j) (by omega) (by omega);rw [hAi,ep] at this;omega
 have nd:=g.nd
 have hval: ∀x,InV s.vars x→(s.back L).val x=if ∃y∈(s.R .tr).drop A,amt y=amt x then 0 else s.val x:=fun x hx=>by
  have hxa:=hx.amt
  have key: ∀k:Nat,((k:Int)=amt x)→((clr (s.R .va) ((s.R .tr).drop A)).getD k 0=if ∃y∈(s.R .tr).drop A,amt y=amt x then 0 else (s.R .va).getD k 0):=fun k hk=>by
   rw [clr_get]
   have:(∃y∈(s.R .tr).drop A,(amt y).toNat=k)↔∃y∈(s.R .tr).drop A,amt y=amt x:=by
    constructor
    · rintro ⟨y,hy,e⟩
      have:=(g.tv y (List.mem_of_mem_drop hy)).amt
      exact ⟨y,hy,by omega⟩
    · rintro ⟨y,hy,e⟩
      exact ⟨y,hy,by omega⟩
   by_cases h: ∃y∈(s.R .tr).drop A,amt y=amt x
   · rw [if_pos (this.2 h),if_pos h]
   · rw [if_neg (fun h2=>h (this.1 h2)),if_neg h]
  unfold PSt.val
  rw [eva]
  by_cases e:x<0
  · rw [if_pos e,if_pos e,key _ (by unfold amt;rw [if_pos e];omega)]
    split<;>simp
  · rw [if_neg e,if_neg e,key _ (by unfold amt;rw [if_neg e];omega)]
 have apart: ∀x∈(s.R .tr).take A,∀y∈(s.R .tr).drop A,amt y≠amt x:=fun x hx y hy e=>by
  have h1:((s.R .tr).take A++ (s.R .tr).drop A).map amt=(s.R .tr).map amt:=by rw [List.take_append_drop]
  rw [← h1,List.map_append,List.nodup_append] at nd
  exact nd.2.2 (amt x) (List.mem_map_of_mem hx) (amt y) (List.mem_map_of_mem hy) e.symm
 have tt: ∀D,D≤A→((s.R .tr).take A).take D=(s.R .tr).take D:=fun D hD=>by rw [List.take_take,Nat.min_eq_left hD]
 have evr:(s.back L).vars=s.vars:=rfl
 have enc:(s.back L).nc=s.nc:=rfl
 have eth: ∀i,(s.back L).There i↔s.There i:=fun _=>Iff.rfl
 generalize s.back L=t at*
 refine ⟨by rw [evr];exact g.vmax,by rw [enc];exact g.ncm,by rw [eva,clr_len,evr];exact g.va,fun k=> ?_,by rw [ele,evr];exact g.le,by rw [ere,evr];exact g.rl,fun x hx=>by rw [evr];exact g.tv x (sub x (by rw [etr] at hx;exact hx)),?_,fun x hx=> ?_,fun j hj=> ?_,fun p q hpq hq=> ?_,by rw [ebe,eds,List.length_take,List.length_take,g.dl],fun j hj=> ?_,fun p hp=> ?_,fun p hp hm=> ?_,fun p hp hm=> ?_,
  by rw [edn,etr,lt];omega,fun i hi x hx=>by rw [evr];exact g.cv i ((eth i).1 hi) x (by rw [el] at hx;exact hx),fun i hi=>by rw [el];exact g.cn i ((eth i).1 hi),fun i hi=>by rw [el];exact g.cl i ((eth i).1 hi),fun i hi=>by rw [el,ea];exact g.ca i ((eth i).1 hi),fun i=>by rw [ea];exact g.al i,
  fun j c hc=> ?_,fun i hi x hx=> ?_,fun j=>by rw [ew];exact g.w3 j,fun c hc=>by rw [elo] at hc;obtain ⟨i,e1,e2⟩:=g.o1 c hc;exact ⟨i,e1,(eth i).2 e2⟩,fun i hi h=>by rw [elo];exact g.o2 i ((eth i).1 hi) (by rw [el] at h;exact h),by rw [elo];exact g.o3,fun i hi h=> ?_,fun j hj i hi h=> ?_⟩
 · rw [eva,clr_get]
   split
   · exact .inl rfl
   · exact g.vb k
 · rw [etr,List.map_take];exact (List.take_sublist _ _).nodup g.nd
 · rw [evr] at hx
   rw [hval x hx,etr]
   by_cases h: ∃y∈(s.R .tr).drop A,amt y=amt x
   · rw [if_pos h]
     obtain ⟨y,hy,e⟩:=h
     constructor
     · intro h;omega
     · intro h;exact absurd e (apart x h y hy)
   · rw [if_neg h,g.v1 x hx]
     constructor
     · intro hm
       rw [← List.take_append_drop A (s.R .tr),List.mem_append] at hm
       rcases hm with hm|hm
       · exact hm
       · exact absurd ⟨x,hm,rfl⟩ h
     · exact sub x
 · rw [ebe,lb] at hj
   rw [ebe,etr,take_getD hj,lt]
   have:=g.bs j L hj hL
   have:=(g.bl j (by omega)).1
   omega
 · rw [ebe,lb] at hq
   rw [ebe,take_getD hq,take_getD (by omega)]
   exact g.bs p q hpq (by omega)
 · rw [ebe,lb] at hj
   rw [ebe,eds,take_getD hj,take_getD hj]
   exact g.db j (by omega)
 · rw [etr,lt] at hp
   rw [etr,take_getD hp,elev,ebe,g.lv p (by omega)]
   have h1:s.R .be=(s.R .be).take L++ (s.R .be).drop L:=(List.take_append_drop _ _).symm
   have h2:((s.R .be).drop L).countP (fun e=>decide (e≤(p:Int)))=0:=List.countP_eq_zero.2 fun q hq=>by
    have:=later q hq
    rw [decide_eq_true_eq];omega
   have h3:(s.R .be).countP (fun e=>decide (e≤(p:Int)))=((s.R .be).take L).countP (fun e=>decide (e≤(p:Int))):=by
    conv=>lhs;rw [h1]
    rw [List.countP_append,h2,Nat.add_zero]
   rw [h3]
 · rw [etr,lt] at hp
   rw [etr,take_getD hp,erea]
   rw [ebe] at hm
   exact g.re1 p (by omega) (List.mem_of_mem_take hm)
 · rw [etr,lt] at hp
   rw [etr,take_getD hp,erea]
   rw [ebe] at hm
   have hm':(p:Int) ∉ s.R .be:=fun h=>by
    rw [← List.take_append_drop L (s.R .be),List.mem_append] at h
    rcases h with h|h
    · exact hm h
    · have:=later _ h;omega
   obtain ⟨i,e1,e2,e3,e4⟩:=g.re2 p (by omega) hm'
   refine ⟨i,e1,(eth i).2 e2,by rw [el];exact e3,fun x hx hne=> ?_⟩
   rw [el] at hx
   rw [tt p (by omega)]
   exact e4 x hx hne
 · rw [ew] at hc
   obtain ⟨i,e1,e2,e3⟩:=g.w1 j c hc
   exact ⟨i,e1,(eth i).2 e2,by rw [el];exact e3⟩
 · rw [el] at hx;rw [ew];exact g.w2 i ((eth i).1 hi) x hx
 · intro x hx y hy hne hm
   rw [elo] at h
   rw [el] at hx hy
   rw [etr,edn,tt _ (by omega)] at hm
   rw [etr]
   have:=g.wj L hL i ((eth i).1 hi) h x hx y hy hne (List.take_subset_take_left _ (by omega) hm)
   rw [hA] at this
   exact this
 · intro x hx y hy hne hm
   rw [elo] at h
   rw [el] at hx hy
   rw [ebe,lb] at hj
   have h1:=g.db j (by omega)
   have h2:=g.bs j L hj hL
   have h3:=g.bl j (by omega)
   rw [eds,take_getD hj,etr,tt _ (by omega)] at hm
   rw [ebe,take_getD hj,etr,tt _ (by omega)]
   exact g.wj j (by omega) i ((eth i).1 hi) h x hx y hy hne hm
theorem PM.cut (h:PM w b H s) {x:Pt} (hx:x.field=true) {k:Nat} (hk':k≤(s.R x).length) {n' c':Nat} (hn:n'=k) (hc:c'=(H x).c) {K:World→Prop}
 (hk: ∀w3,PM w3 b (updF H x ⟨(H x).p,k,(H x).c⟩) (s.set x ((s.R x).take k))→Mod (·=b) w w3→K w3): ∃w3,StoreAt ((Addr.mk b 0 none).add x.off) 0 [.slice (H x).p n' c'] w w3∧K w3:=by
 subst hn hc
 exact h.head hx ((h.row x (field_row hx)).take hk') ⟨h.st,h.c,h.wa,fun y hy _=>h.row y hy⟩ (fun k hk=> .inl hk) (by rw [List.length_take];omega) hk
theorem row_cap (h:PM w b H s) {x:Pt} (hx:x.row=true):(s.R x).length≤(H x).c:=by
 rcases (h.row x hx).un with ⟨_,_,e2⟩| ⟨_,_,_,_,e,_⟩
 · rw [e2];exact Nat.zero_le _
 · exact e
theorem back_w (h:PM w b H s) (g:Good s) (lev:Int):prop_Prop_Back.w (some ⟨b,0,none⟩) lev w fun v w'=>Ending.returned v= .returned (.tuple #[])∧∃H',Pw w w' b H H' (if (max 0 lev).toNat< (s.R .be).length then s.back (max 0 lev).toNat else s):=by
 have k:=g.wf
 obtain ⟨L,hL⟩: ∃L:Nat,(max 0 lev).toNat=L:=⟨_,rfl⟩
 have em:imax 0 lev=(L:Int):=by unfold imax;split<;>omega
 rw [hL]
 refine cnd_f rfl ⟨_,rfl,_,_,_,cell_add h.st rfl,?_⟩
 rw [em,h.len .be rfl]
 refine cnd_i (fun r=> ?_) (fun r=> ?_)
 · have r:(s.R .be).length≤L:=by simp at r;omega
   exact ⟨rfl,H,by rw [if_neg (by omega)];exact Pw.refl h (Mod.refl w)⟩
 have r:L< (s.R .be).length:=by simp at r;omega
 rw [if_pos r]
 have hb:=g.bl L r
 have hdb:=g.db L r
 have gdl:=g.dl
 have hcap:=row_cap h (x:= .tr) rfl
 have hcapb:=row_cap h (x:= .be) rfl
 have hcapd:=row_cap h (x:= .ds) rfl
 refine ⟨_,rfl,_,_,_,cell_add h.st rfl,h.rIx (x:= .be) rfl (by omega) rfl (by omega) fun a5 _ hc5=> ⟨_,hc5,_,rfl,_,_,_,cell_add h.st rfl,?_⟩⟩
 rw [Int.toNat_natCast]
 obtain ⟨A,hA⟩: ∃A:Nat,((s.R .be).getD L 0).toNat=A:=⟨_,rfl⟩
 have hAi:(s.R .be).getD L 0=(A:Int):=by omega
 rw [hAi]
 have hAl:A< (s.R .tr).length:=by omega
 rw [h.len .tr rfl]
 refine slK_i A (s.R .tr).length (H .tr).c rfl rfl rfl (Nat.le_refl _) hcap (by omega) ?_
 rw [if_neg (by omega)]
 refine ⟨fun V u m=> ∃v:Nat,V=v∧v≤(s.R .tr).length - A∧m=(s.R .tr).length - A - v∧Pw w u b H H (s.set .va (clr (s.R .va) (((s.R .tr).drop A).take v))),⟨_,0,rfl,Nat.zero_le _,rfl,by
  have:clr (s.R .va) (((s.R .tr).drop A).take 0)=s.R .va:=by simp [clr]
  rw [this,set_self'];exact Pw.refl h (Mod.refl w)⟩,?_⟩
 rintro V w14 m _ ⟨v,rfl,hv,rfl,P14⟩
 have h14:=P14.pm
 have Vw14:Vw (Value.int .i64) w14 ((H .tr).p.map (·.add (A*1))) ((s.R .tr).drop A):=by
  have:=(h14.row .tr rfl).vw.part (i:=A) (m:=(s.R .tr).length - A) (by rw [set_ne (by simp)];omega)
  rw [set_ne (by simp),List.take_of_length_le (by simp)] at this
  exact this
 refine cnd_i (fun r2=> ?_) (fun r2=> ?_)
 · have r2:v< (s.R .tr).length - A:=by simp at r2;omega
   refine Vw14.ix 0 (by omega) (by simp) (by omega) fun a15 hc15=> ⟨_,hc15,?_⟩
   rw [Int.toNat_natCast]
   have hx:((s.R .tr).drop A).getD v 0∈s.R .tr:=List.mem_of_mem_drop (getD_mem' (by simp;omega))
   have htk:((s.R .tr).drop A).take (v+1)=((s.R .tr).drop A).take v++ [((s.R .tr).drop A).getD v 0]:=by
    rw [List.take_add_one]
    simp [List.getD,show A+v< (s.R .tr).length by omega]
   generalize ((s.R .tr).drop A).getD v 0=X at*
   have hxv:=g.tv X hx
   have hxa:=hxv.amt
   refine ⟨(·=w14.drew),rfl,_,rfl,_,_,_,atW_eq (cell_add h14.drew.st rfl),(pamount_ok (hxv.bd g.vmax) _).mono ?_⟩
   rintro e w20 ⟨rfl,rfl⟩
   refine ⟨_,rfl,rfl,h14.drew.rSt (x:= .va) rfl (by omega) rfl (by rw [set_eq,clr_len,g.va];omega) (y:=0) rfl rfl fun w23 h23 m23=> ?_⟩
   refine ⟨_,?_,v+1,wN (by omega) (by have:=g.trl;have:=g.vmax;omega),by omega,rfl,?_⟩
   · omega
   · rw [set_set,set_eq] at h23
     rw [htk,clr_snoc]
     exact P14.drew.trans (Pw.row h23 (x:= .va) rfl m23)
 · have r2:v=(s.R .tr).length - A:=by simp at r2;omega
   subst r2
   rw [List.take_of_length_le (by simp)] at P14 h14
   have hT:=h14.drew
   have P0:=P14.drew
   obtain ⟨V,hV⟩: ∃V,V=clr (s.R .va) ((s.R .tr).drop A):=⟨_,rfl⟩
   rw [← hV] at P14 h14 hT P0
   refine ⟨_,rfl,_,cell_add hT.st rfl,_,rfl,_,_,_,cell_add hT.st rfl,hT.rIx (x:= .ds) rfl (by omega) rfl (by rw [set_ne (by simp)];omega) fun a28 _ hc28=> ⟨_,hc28,_,rfl,?_⟩⟩
   rw [set_ne (by simp),Int.toNat_natCast]
   have ed:imin (imin ((s.set .va V).done:Int) (A:Int)) ((s.R .ds).getD L 0)=((min (min s.done A) ((s.R .ds).getD L 0).toNat:Nat):Int):=by
    show imin (imin (s.done:Int) (A:Int)) _=_
    unfold imin
    repeat' split
    all_goals omega
   rw [ed]
   refine hT.setDone rfl fun w31 h31 m31=> ?_
   have P31:Pw w w31 b H H _:=P0.trans ⟨h31,m31.mono fun k _ e=> ⟨.st,by rw [e];rfl⟩,fun x k hk=> .inl ⟨x,hk⟩⟩
   have hU:=h31.drew
   have PU:=P31.drew
   refine ⟨_,rfl,_,_,_,cell_add hU.st rfl,?_⟩
   rw [h.len .tr rfl]
   refine slK_i 0 A (H .tr).c rfl rfl rfl (Nat.le_refl _) (by omega) (Nat.zero_le _) ?_
   refine ⟨_,rfl,_,_,_,cell_add hU.st rfl,?_⟩
   refine slK_i 0 L (H .be).c rfl rfl rfl (Nat.le_refl _) (by omega) (Nat.zero_le _) ?_
   refine ⟨_,rfl,_,_,_,cell_add hU.st rfl,?_⟩
   refine slK_i 0 L (H .ds).c rfl rfl rfl (Nat.le_refl _) (by omega) (Nat.zero_le _) ?_
   rw [ep1,ep1,ep1]
   refine ⟨_,rfl,hU.cut (x:= .tr) rfl (k:=A) (by show A≤((s.set .va V).R .tr).length;rw [set_ne (by simp)];omega) (Nat.sub_zero _) (Nat.sub_zero _) fun w42 h42 m42=> ⟨_,rfl,?_⟩⟩
   have c2:=h42.cut (x:= .be) rfl (k:=L) (n':=L - 0) (c':=(H .be).c - 0) (by
    show L≤(((s.set .va V).set .tr _).R .be).length
    rw [set_ne (by simp),set_ne (by simp)];omega) (Nat.sub_zero _) (by rw [updF_ne (by simp)];rfl) (K:=fun w44=> ∃a:Addr,(some ⟨b,0,none⟩:Option Addr)=some a∧∃w46,StoreAt (a.add 8) 0 [.slice (H .ds).p (L - 0) ((H .ds).c - 0)] w44 w46∧(Ending.returned (.tuple #[])= .returned (.tuple #[])∧∃H',Pw w w46 b H H' (s.back L))) ?_
   · rw [updF_ne (by simp)] at c2
     exact c2
   intro w44 h44 m44
   refine ⟨_,rfl,?_⟩
   have c3:=h44.cut (x:= .ds) rfl (k:=L) (n':=L - 0) (c':=(H .ds).c - 0) (by
    show L≤((((s.set .va V).set .tr _).set .be _).R .ds).length
    rw [set_ne (by simp),set_ne (by simp),set_ne (by simp)];omega) (Nat.sub_zero _) (by rw [updF_ne (by simp),updF_ne (by simp)];rfl) (K:=fun w46=> (Ending.returned (.tuple #[])= .returned (.tuple #[])∧∃H',Pw w w46 b H H' (s.back L))) ?_
   · rw [updF_ne (by simp),updF_ne (by simp)] at c3
     exact c3
   intro w46 h46 m46
   refine ⟨rfl,updF (updF (updF H .tr ⟨(H .tr).p,A,(H .tr).c⟩) .be ⟨(H .be).p,L,(H .be).c⟩) .ds ⟨(H .ds).p,L,(H .ds).c⟩,⟨?_,((PU.mod.then m42 fun k _ e=> ⟨.st,by rw [e];rfl⟩).then m44 fun k _ e=> ⟨.st,by rw [e];rfl⟩).then m46 fun k _ e=> ⟨.st,by rw [e];rfl⟩,fun x k hk=> ?_⟩⟩
   · have e:(s.back L)=((({s.set .va V with done:=min (min s.done A) ((s.R .ds).getD L 0).toNat}.set .tr ((s.R .tr).take A)).set .be ((s.R .be).take L)).set .ds ((s.R .ds).take L)):=by
      unfold PSt.back
      rw [hA,← hV];rfl
     rw [e]
     have e1:({s.set .va V with done:=min (min s.done A) ((s.R .ds).getD L 0).toNat}:PSt).R .tr=s.R .tr:=set_ne (s:=s) (x:= .va) (y:= .tr) (l:=V) (by simp)
     have e2:(({s.set .va V with done:=min (min s.done A) ((s.R .ds).getD L 0).toNat}:PSt).set .tr ((s.R .tr).take A)).R .be=s.R .be:=by rw [set_ne (by simp)];exact set_ne (s:=s) (x:= .va) (y:= .be) (l:=V) (by simp)
     have e3:((({s.set .va V with done:=min (min s.done A) ((s.R .ds).getD L 0).toNat}:PSt).set .tr ((s.R .tr).take A)).set .be ((s.R .be).take L)).R .ds=s.R .ds:=by rw [set_ne (by simp),set_ne (by simp)];exact set_ne (s:=s) (x:= .va) (y:= .ds) (l:=V) (by simp)
     have h9:=h46
     simp only [updF_ne (show Pt.be≠Pt.tr by simp),updF_ne (show Pt.ds≠Pt.be by simp),updF_ne (show Pt.ds≠Pt.tr by simp)] at h9
     have h10:PM w46 b (updF (updF (updF H .tr ⟨(H .tr).p,A,(H .tr).c⟩) .be ⟨(H .be).p,L,(H .be).c⟩) .ds ⟨(H .ds).p,L,(H .ds).c⟩)
      (((({s.set .va V with done:=min (min s.done A) ((s.R .ds).getD L 0).toNat}:PSt).set .tr ((({s.set .va V with done:=min (min s.done A) ((s.R .ds).getD L 0).toNat}:PSt).R .tr).take A)).set .be (((({s.set .va V with done:=min (min s.done A) ((s.R .ds).getD L 0).toNat}:PSt).set .tr ((({s.set .va V with done:=min (min s.done A) ((s.R .ds).getD L 0).toNat}:PSt).R .tr).take A)).R .be).take L)).set .ds ((((({s.set .va V with done:=min (min s.done A) ((s.R .ds).getD L 0).toNat}:PSt).set .tr ((({s.set .va V with done:=min (min s.done A) ((s.R .ds).getD L 0).toNat}:PSt).R .tr).take A)).set .be (((({s.set .va V with done:=min (min s.done A) ((s.R .ds).getD L 0).toNat}:PSt).set .tr ((({s.set .va V with done:=min (min s.done A) ((s.R .ds).getD L 0).toNat}:PSt).R .tr).take A)).R .be).take L)).R .ds).take L)):=h9
     rw [e1,e2,e3] at h10
     exact h10
   · by_cases a1:x= .ds
     · subst a1;rw [own_ne (by simp),updF_same] at hk;exact .inl ⟨.ds,hk⟩
     · rw [own_upd a1] at hk
       by_cases a2:x= .be
       · subst a2;rw [own_ne (by simp),updF_same] at hk;exact .inl ⟨.be,hk⟩
       · rw [own_upd a2] at hk
         by_cases a3:x= .tr
         · subst a3;rw [own_ne (by simp),updF_same] at hk;exact .inl ⟨.tr,hk⟩
         · rw [own_upd a3] at hk;exact .inl ⟨x,hk⟩
theorem back_ok (h:PM w b H s) (g:Good s) (lev:Int):Calls Tryz.prog prop_Prop_Back.id #[ptrV b,.int .i64 lev] w fun e w'=>e= .returned (.tuple #[])∧∃H',Pw w w' b H H' (if (max 0 lev).toNat< (s.R .be).length then s.back (max 0 lev).toNat else s):=
 prop_Prop_Back.calls (back_w h g lev)
end
end Go.Proofs.YtabengnadcleeaaGreat.W
