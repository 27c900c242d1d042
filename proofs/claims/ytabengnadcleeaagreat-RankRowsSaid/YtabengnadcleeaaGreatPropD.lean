/- Layer 6: a clause is dropped. -/
import Derived.Test.YtabengnadcleeaaGreatPropC
import Derived.Test.YtabengnadcleeaaGreatLitA
namespace Go.Proofs.YtabengnadcleeaaGreat.W
open Go Go.Fw Go.RowKit Go.SoP Go.LiP
section
variable {w w' w0 w2 w3:World} {b:Nat} {H H' H2:Pt→Sl} {s t u s' T:PSt} {l x y:Int} {i:Nat}
def PSt.del (s:PSt) (i:Nat):PSt:= {(s.set (.a i) []).set (.l i) [] with gone:=fun k=>if k=i then true else s.gone k}
def PSt.drop (s:PSt) (i:Nat):PSt:=((unF i s ((s.R (.l i)).take 2)).set .lo ((s.R .lo).filter fun k=> !(k==(i:Int)))).del i
theorem drop_R (i:Nat) (y:Pt) (h1: ∀j,y≠ .w j) (h2:y≠ .lo) (h3:y≠ .a i) (h4:y≠ .l i):(s.drop i).R y=s.R y:=by
 show ((((unF i s ((s.R (.l i)).take 2)).set .lo _).set (.a i) []).set (.l i) []).R y=_
 rw [set_ne h4,set_ne h3,set_ne h2,unF_R _ h1]
theorem drop_there {k:Nat}:(s.drop i).There k↔s.There k∧k≠i:=by
 show (k< (unF i s _).nc∧(if k=i then true else (unF i s _).gone k)=false)↔_
 obtain ⟨_,u2,u3,_⟩:=unF_vars i ((s.R (.l i)).take 2) s
 rw [u2,u3]
 unfold PSt.There
 by_cases e:k=i
 · simp [e]
 · simp [e]
theorem drop_good (g:Good s) (hi:s.There i) (hr: ∀x∈s.R (.l i),¬(0<s.val x∧s.rea x=(i:Int))):Good (s.drop i):=by
 obtain ⟨u1,u2,u3,u4⟩:=unF_vars i ((s.R (.l i)).take 2) s
 have eR: ∀y,(∀j,y≠Pt.w j)→y≠ .lo→(∀k,y≠ .a k)→(∀k,y≠ .l k)→(s.drop i).R y=s.R y:=fun y h1 h2 h3 h4=>drop_R i y h1 h2 (h3 i) (h4 i)
 have el: ∀k,k≠i→(s.drop i).R (.l k)=s.R (.l k):=fun k hk=>drop_R i _ (by simp) (by simp) (by simp) (by simpa using hk)
 have ea: ∀k,k≠i→(s.drop i).R (.a k)=s.R (.a k):=fun k hk=>drop_R i _ (by simp) (by simp) (by simpa using hk) (by simp)
 have eai:(s.drop i).R (.a i)= []:=by unfold PSt.drop PSt.del;simp [PSt.set,updF]
 have elo:(s.drop i).R .lo=(s.R .lo).filter fun k=> !(k==(i:Int)):=by unfold PSt.drop PSt.del;simp [PSt.set,updF]
 have ewR: ∀j,(s.drop i).R (.w j)=(unF i s ((s.R (.l i)).take 2)).R (.w j):=fun j=>by unfold PSt.drop PSt.del;simp [PSt.set,updF]
 have ew: ∀j c,c∈(s.drop i).R (.w j)↔c∈s.R (.w j)∧c≠(i:Int):=fun j c=>by
  rw [ewR,unF_mem]
  constructor
  · rintro ⟨h1,h2|h2⟩
    · exact ⟨h1,h2⟩
    · refine ⟨h1,fun e=> ?_⟩
      subst e
      obtain ⟨q,e1,e2,x,hx,e3⟩:=g.w1 _ _ h1
      have:q=i:=by omega
      subst this
      exact h2 x hx e3
  · rintro ⟨h1,h2⟩;exact ⟨h1,.inl h2⟩
 have ewn: ∀j,((s.drop i).R (.w j)).Nodup:=fun j=>by
  rw [ewR]
  exact unF_nodup i j _ _ (g.w3 j)
 have evr:(s.drop i).vars=s.vars:=u1
 have enc:(s.drop i).nc=s.nc:=u2
 have edn:(s.drop i).done=s.done:=u4
 have eth: ∀k,(s.drop i).There k↔s.There k∧k≠i:=fun k=>drop_there
 generalize s.drop i=t at*
 have etr:=eR .tr (by simp) (by simp) (by simp) (by simp)
 have ebe:=eR .be (by simp) (by simp) (by simp) (by simp)
 have eds:=eR .ds (by simp) (by simp) (by simp) (by simp)
 have eva:=eR .va (by simp) (by simp) (by simp) (by simp)
 have ele:=eR .le (by simp) (by simp) (by simp) (by simp)
 have ere:=eR .re (by simp) (by simp) (by simp) (by simp)
 have ev: ∀x,t.val x=s.val x:=fun x=>val_eq eva x
 have elev: ∀x,t.lev x=s.lev x:=fun x=>by unfold PSt.lev;rw [ele]
 have erea: ∀x,t.rea x=s.rea x:=fun x=>by unfold PSt.rea;rw [ere]
 refine ⟨by rw [evr];exact g.vmax,by rw [enc];exact g.ncm,by rw [eva,evr];exact g.va,by rw [eva];exact g.vb,by rw [ele,evr];exact g.le,by rw [ere,evr];exact g.rl,by rw [etr,evr];exact g.tv,by rw [etr];exact g.nd,fun x hx=>by rw [ev,etr];exact g.v1 x (by rw [evr] at hx;exact hx),
  by rw [ebe,etr];exact g.bl,by rw [ebe];exact g.bs,by rw [eds,ebe];exact g.dl,by rw [ebe,eds];exact g.db,fun p hp=>by rw [etr] at hp ⊢;rw [elev,ebe];exact g.lv p hp,fun p hp hm=>by rw [etr] at hp ⊢;rw [erea];rw [ebe] at hm;exact g.re1 p hp hm,
  fun p hp hm=> ?_,by rw [edn,etr];exact g.dn,fun k hk x hx=> ?_,fun k hk=> ?_,fun k hk=> ?_,fun k hk x=> ?_,fun k=> ?_,fun j c hc=> ?_,fun k hk x hx=> ?_,ewn,fun c hc=> ?_,fun k hk h=> ?_,by rw [elo];exact g.o3.filter _,fun k hk h=> ?_,fun j hj k hk h=> ?_⟩
 · rw [etr] at hp ⊢
   rw [ebe] at hm
   obtain ⟨k,e1,e2,e3,e4⟩:=g.re2 p hp hm
   have hne:k≠i:=fun e=>by
    subst e
    refine hr _ e3 ⟨(g.vgt (g.cv k hi _ e3)).2 (getD_mem' hp),e1⟩
   exact ⟨k,by rw [erea];exact e1,(eth k).2 ⟨e2,hne⟩,by rw [el k hne];exact e3,fun x hx hn=>e4 x (by rw [el k hne] at hx;exact hx) hn⟩
 · obtain ⟨h1,h2⟩:=(eth k).1 hk
   rw [evr];exact g.cv k h1 x (by rw [el k h2] at hx;exact hx)
 · obtain ⟨h1,h2⟩:=(eth k).1 hk
   rw [el k h2];exact g.cn k h1
 · obtain ⟨h1,h2⟩:=(eth k).1 hk
   rw [el k h2];exact g.cl k h1
 · obtain ⟨h1,h2⟩:=(eth k).1 hk
   rw [el k h2,ea k h2];exact g.ca k h1 x
 · by_cases e:k=i
   · rw [e,eai];simp
   · rw [ea k e];exact g.al k
 · obtain ⟨h1,h2⟩:=(ew j c).1 hc
   obtain ⟨k,e1,e2,e3⟩:=g.w1 j c h1
   have hne:k≠i:=fun e=>h2 (by rw [e1,e])
   exact ⟨k,e1,(eth k).2 ⟨e2,hne⟩,by rw [el k hne];exact e3⟩
 · obtain ⟨h1,h2⟩:=(eth k).1 hk
   rw [el k h2] at hx
   exact (ew _ _).2 ⟨g.w2 k h1 x hx,fun e=>h2 (by omega)⟩
 · rw [elo,List.mem_filter] at hc
   obtain ⟨k,e1,e2⟩:=g.o1 c hc.1
   refine ⟨k,e1,(eth k).2 ⟨e2,fun e=> ?_⟩⟩
   have h2:=hc.2
   rw [e1,e] at h2
   simp at h2
 · obtain ⟨h1,h2⟩:=(eth k).1 hk
   rw [el k h2] at h
   rw [elo,List.mem_filter]
   refine ⟨g.o2 k h1 h,?_⟩
   simp
   omega
 · obtain ⟨h1,h2⟩:=(eth k).1 hk
   intro x hx y hy hne hm
   rw [el k h2] at hx hy
   rw [etr,edn] at hm
   rw [etr]
   refine g.wd k h1 (fun hlo=>h ?_) x hx y hy hne hm
   rw [elo,List.mem_filter]
   refine ⟨hlo,?_⟩
   simp
   omega
 · obtain ⟨h1,h2⟩:=(eth k).1 hk
   intro x hx y hy hne hm
   rw [el k h2] at hx hy
   rw [ebe] at hj
   rw [etr,eds] at hm
   rw [etr,ebe]
   refine g.wj j hj k h1 (fun hlo=>h ?_) x hx y hy hne hm
   rw [elo,List.mem_filter]
   refine ⟨hlo,?_⟩
   simp
   omega
theorem PM.setC (h:PM w b H s) {i:Nat} (hi:i<s.nc) {n:Nat} (hn:n=(H .c).n) {I:Int} (hI:I=i) {K:World→Prop}
 (hk: ∀w',PM w' b (updF (updF H (.a i) Sl.nil) (.l i) Sl.nil) (s.del i)→Mod (fun k=>blk (H .c).p=some k) w w'→K w'):
 ixK (H .c).p n I 3 fun a=> ∃w',StoreAt a 0 [.slice none 0 0,.slice none 0 0,.bool true] w w'∧K w':=by
 subst hI
 refine h.c.st ceEnc (x:=(Sl.nil,Sl.nil,true)) rfl rfl (by omega) (by rw [hn,h.cn,ces_len]) (by rw [hn,h.cn];omega) fun w' o m=>hk w' ?_ m
 rw [Int.toNat_natCast] at o
 have oth: ∀ {y:Pt} {k:Nat},y≠ .c→own b H y=some k→¬blk (H .c).p=some k:=fun hy hk=>h.other (x:= .c) (by simp) hy hk
 have hnil: ∀k,¬blk Sl.nil.p=some k:=fun k e=>by simp [blk,Sl.nil] at e
 have i1:=inj_upd' h.inj (x:= .a i) (by simp) (q:=Sl.nil) fun k e=>absurd e (hnil k)
 have i2:=inj_upd' i1 (x:= .l i) (by simp) (q:=Sl.nil) fun k e=>absurd e (hnil k)
 have eH: ∀y,y≠ .a i→y≠ .l i→updF (updF H (.a i) Sl.nil) (.l i) Sl.nil y=H y:=fun y h1 h2=>by rw [updF_ne h2,updF_ne h1]
 refine ⟨?_,?_,?_,?_,?_,fun y hy=> ?_,fun y hy=> ?_,i2⟩
 · have e:stC (s.del i) (updF (updF H (.a i) Sl.nil) (.l i) Sl.nil)=stC s H:=by simp [stC,PSt.del,PSt.set,updF]
   rw [e]
   exact h.st.keep m (oth (y:= .st) (by simp) rfl)
 · rw [eH .c (by simp) (by simp)]
   have e:ces (updF (updF H (.a i) Sl.nil) (.l i) Sl.nil) (s.del i).gone (s.del i).nc=(ces H s.gone s.nc).set i (Sl.nil,Sl.nil,true):=by
    apply List.ext_getElem?
    intro j
    simp only [ces,PSt.del,PSt.set,List.getElem?_map,List.getElem?_set,List.length_map,List.length_range]
    by_cases e:i=j
    · subst e
      simp [hi,ceOf,updF]
    · rw [if_neg e]
      by_cases hj:j<s.nc
      · simp [hj,ceOf,updF,Ne.symm e]
      · simp [hj]
   rw [e];exact o
 · rw [eH .c (by simp) (by simp)];exact h.cn
 · rw [eH .wa (by simp) (by simp)]
   have e:heads (updF (updF H (.a i) Sl.nil) (.l i) Sl.nil) (2* ((s.del i).vars+1))=heads H (2* (s.vars+1)):=by
    rw [heads_upd (by simp),heads_upd (by simp)];rfl
   rw [e]
   exact h.wa.keep m fun k hk=>oth (y:= .wa) (by simp) hk
 · rw [eH .wa (by simp) (by simp)];exact h.wn
 · by_cases e1:y= .l i
   · subst e1
     show Ow _ _ w' _ _ (((s.set (.a i) []).set (.l i) []).R (.l i))
     rw [updF_same,set_eq]
     exact Ow.nil _ _ _
   · by_cases e2:y= .a i
     · subst e2
       show Ow _ _ w' _ _ (((s.set (.a i) []).set (.l i) []).R (.a i))
       rw [updF_ne (by simp),updF_same,set_ne (by simp),set_eq]
       exact Ow.nil _ _ _
     · show Ow _ _ w' _ _ (((s.set (.a i) []).set (.l i) []).R y)
       rw [eH y e2 e1,set_ne e1,set_ne e2]
       exact (h.row y hy).keep m fun k hk=>oth (row_ne hy).2.1 (by rw [own_ne (row_ne hy).1];exact hk)
 · by_cases e1:y= .l i
   · subst e1
     show _=(((s.set (.a i) []).set (.l i) []).R (.l i)).length
     rw [updF_same,set_eq];rfl
   · by_cases e2:y= .a i
     · subst e2
       show _=(((s.set (.a i) []).set (.l i) []).R (.a i)).length
       rw [updF_ne (by simp),updF_same,set_ne (by simp),set_eq];rfl
     · show _=(((s.set (.a i) []).set (.l i) []).R y).length
       rw [eH y e2 e1,set_ne e1,set_ne e2];exact h.len y hy
theorem PSt.is_iff {i:Int}:s.is i=true↔0≤i∧s.There i.toNat:=by
 unfold PSt.is PSt.There
 simp only [Bool.and_eq_true,decide_eq_true_eq,Bool.not_eq_true']
 constructor
 · rintro ⟨⟨h1,h2⟩,h3⟩;exact ⟨h1,by omega,h3⟩
 · rintro ⟨h1,h2,h3⟩;exact ⟨⟨h1,by omega⟩,h3⟩
def Rsn (s:PSt) (i:Nat):Prop:= ∃x∈s.R (.l i),0<s.val x∧s.rea x=(i:Int)
theorem drop_ok (h:PM w b H s) (g:Good s) (i:Int):Calls Tryz.prog prop_Prop_Drop.id #[ptrV b,.int .i64 i] w fun e w'=> ∃r:Int,e= .returned (.int .i64 r)∧∃H',
 ((r=4∧s.is i=false∧Pw w w' b H H' s)∨(r=7∧s.is i=true∧Rsn s i.toNat∧Pw w w' b H H' s)∨(r=0∧s.is i=true∧¬Rsn s i.toNat∧Pw w w' b H H' (s.drop i.toNat))):=by
 refine prop_Prop_Drop.calls ?_
 intro n1 w1 h1
 have hA:=h.grow h1.mod
 have e1:=h1.num
 have hnot: ∀x,¬own b H x=some n1:=fun x e=>by have:=h.lt x n1 e;omega
 refine ⟨_,cell_of h1.has rfl,(there_ok hA i).mono ?_⟩
 rintro e w4 ⟨rfl,rfl⟩
 refine ⟨_,rfl,?_⟩
 cases hi:s.is i with
 |false=>exact cnd_t rfl ⟨_,rfl,H,.inl ⟨rfl,rfl,Pw.refl hA h1.mod⟩⟩
 |true=>
  obtain ⟨i0,hth⟩:=PSt.is_iff.1 hi
  obtain ⟨j,rfl⟩: ∃j:Nat,i=j:=⟨i.toNat,by omega⟩
  rw [Int.toNat_natCast] at hth ⊢
  have hD:=hA.drew
  have hl4:=g.cl j hth
  have k:=g.wf
  refine cnd_f rfl ⟨_,rfl,_,_,_,cell_add hD.st rfl,_,cell_of h1.has.drew rfl,hD.cIx hth.1 rfl rfl fun a9 hc9=> ⟨_,_,_,hc9.get 1 _ rfl,?_⟩⟩
  have hln:=h.len (.l j) rfl
  rw [hln]
  refine ⟨fun V u m=> ∃v:Nat,V=v∧v≤(s.R (.l j)).length∧m=(s.R (.l j)).length - v∧Grow w4 u∧∀q,q<v→¬(0<s.val ((s.R (.l j)).getD q 0)∧s.rea ((s.R (.l j)).getD q 0)=(j:Int)),⟨_,0,rfl,Nat.zero_le _,rfl,(Mod.refl _).drew,fun q hq=>by omega⟩,?_⟩
  rintro V w15 m _ ⟨v,rfl,hv,rfl,g15,hall⟩
  have h15:=hA.grow g15
  have hb15:=h1.has.grow g15
  refine cnd_i (fun r2=> ?_) (fun r2=> ?_)
  · have r2:v< (s.R (.l j)).length:=by simpa using r2
    have hxm:=getD_mem' r2
    refine h15.rIx' (x:= .l j) rfl (by omega) (by omega) (by omega) fun a16 _ hc16=> ⟨_,hc16,?_⟩
    rw [Int.toNat_natCast]
    have step: ∀ {u:World},Grow w4 u→¬(0<s.val ((s.R (.l j)).getD v 0)∧s.rea ((s.R (.l j)).getD v 0)=(j:Int))→∃k13,k13< (s.R (.l j)).length - v∧∃v':Nat,IntKind.i64.wrap ((v:Int)+1)=v'∧v'≤(s.R (.l j)).length∧k13=(s.R (.l j)).length - v'∧Grow w4 u∧∀q,q<v'→¬(0<s.val ((s.R (.l j)).getD q 0)∧s.rea ((s.R (.l j)).getD q 0)=(j:Int)):=by
     intro u gu hno
     refine ⟨_,?_,v+1,wN (by omega) (by omega),by omega,rfl,gu,fun q hq=> ?_⟩
     · omega
     · by_cases e:q=v
       · rw [e];exact hno
       · exact hall q (by omega)
    generalize (s.R (.l j)).getD v 0=X at*
    have hxv:=g.cv j hth X hxm
    have hxa:=hxv.amt
    have hD:=h15.drew
    refine ⟨(·=w15.drew),rfl,(val_ok hD k hxv).mono ?_⟩
    rintro e w19 ⟨rfl,rfl⟩
    refine ⟨_,rfl,rfl,cnd_i (fun r3=> ?_) (fun r3=>step g15.drew fun hh=> ?_)⟩
    · have r3:0<s.val X:=by simpa using r3
      refine ⟨_,rfl,_,_,_,atW_eq (cell_add hD.st rfl),(pamount_ok (hxv.bd g.vmax) _).mono ?_⟩
      rintro e w23 ⟨rfl,rfl⟩
      refine ⟨_,rfl,rfl,hD.rIx (x:= .re) rfl (by omega) rfl (by rw [g.rl];omega) fun a25 _ hc25=> ⟨_,atW_eq hc25,_,atW_eq (cell_of hb15.drew rfl),cnd_i (fun r4=> ?_) (fun r4=>step g15.drew fun hh=> ?_)⟩⟩
      · have r4:s.rea X=(j:Int):=beq_iff_eq.1 r4
        exact ⟨_,rfl,H,.inr (.inl ⟨rfl,rfl,⟨X,hxm,r3,r4⟩,Pw.refl hD (h1.mod.trans g15.drew)⟩)⟩
      · have r4: ¬s.rea X=(j:Int):=fun e=>by
         have e2:Pt.re.f ((s.R .re).getD (amt X).toNat 0)= .int .i64 (j:Int):=congrArg _ e
         have e3:(s.R .re).getD (amt X).toNat 0=(j:Int):=e
         rw [e3] at r4;simp at r4
        exact r4 hh.2
    · have r3: ¬0<s.val X:=by simpa using r3
      exact r3 hh.1
  · have r2:v=(s.R (.l j)).length:=by simp at r2;omega
    subst r2
    have hno: ∀x∈s.R (.l j),¬(0<s.val x∧s.rea x=(j:Int)):=fun x hx=>by
     obtain ⟨q,hq,e⟩:=List.mem_iff_getElem.1 hx
     have:=hall q hq
     simp only [List.getD,List.getElem?_eq_getElem hq,Option.getD_some,e] at this
     exact this
    refine ⟨_,cell_of hb15 rfl,(unwatch_ok h15 g.vmax hth.1 (g.cv j hth) (by omega) fun q=>by have:=g.wl q;omega).mono ?_⟩
    rintro e w29 ⟨rfl,H2,P29,kh⟩
    have h29:=P29.pm
    have hb29:=hb15.keep P29.mod fun ⟨x,e⟩=>hnot x e
    have eHlo:H2 .lo=H .lo:=kh _ (by simp)
    have eRlo:(unF j s ((s.R (.l j)).take 2)).R .lo=s.R .lo:=unF_R _ (by simp) _ _
    have nlo: ¬blk (H2 .lo).p=some n1:=fun e=>by rw [eHlo] at e;exact hnot .lo e
    have hlob:=g.lol
    refine ⟨rfl,_,rfl,_,_,_,cell_add h29.st rfl,(delete_ok (h29.row .lo rfl) (h29.len .lo rfl) (by rw [h29.len .lo rfl,eRlo];omega) same2_ent (fun x=>x==(j:Int)) fun x _ w' m=> ?_).mono ?_⟩
    · rw [args2w]
      exact same2 (hb29.keep m nlo) x
    rintro e w32 ⟨rfl,o32,m32⟩
    rw [eRlo] at o32 ⊢
    refine ⟨_,_,_,rfl,_,rfl,h29.head (x:= .lo) rfl o32 (h29.but rfl m32) (fun k hk=> .inl hk) rfl fun w35 h35 m35=> ?_⟩
    have P35:=P29.trans (Pw.head (x:= .lo) (z:= .st) (by simp) h35 m32 (m35.mono fun k _ e=>by rw [e];rfl) fun k hk=> .inl hk)
    have hb35:Has w35 n1 #[.int .i64 (j:Int)]:=hb15.keep P35.mod fun ⟨x,e⟩=>hnot x e
    have hE:=h35.drew
    refine ⟨_,rfl,_,_,_,cell_add hE.st rfl,_,cell_of hb35.drew rfl,?_⟩
    have nc2:(unF j s ((s.R (.l j)).take 2)).nc=s.nc:=(unF_vars j _ _).2.1
    refine hE.setC (i:=j) (by show j< (unF j s ((s.R (.l j)).take 2)).nc;rw [nc2];exact hth.1) rfl rfl fun w40 h40 m40=> ?_
    refine ⟨_,rfl,updF (updF (updF H2 .lo ⟨(H2 .lo).p,((s.R .lo).filter fun x=> !(x==(j:Int))).length,(H2 .lo).c⟩) (.a j) Sl.nil) (.l j) Sl.nil,.inr (.inr ⟨rfl,rfl,fun ⟨x,hx,h⟩=>hno x hx h,?_⟩)⟩
    refine ((P35.drew).trans ⟨h40,m40.mono fun k _ e=> ⟨.c,e⟩,fun x k hk=> .inl ⟨x,?_⟩⟩).pre (h1.mod.trans g15)
    by_cases a1:x= .l j
    · subst a1;rw [own_ne (by simp),updF_same] at hk;simp [blk,Sl.nil] at hk
    · rw [own_upd a1] at hk
      by_cases a2:x= .a j
      · subst a2;rw [own_ne (by simp),updF_same] at hk;simp [blk,Sl.nil] at hk
      · rw [own_upd a2] at hk;exact hk
end
section
variable {w w' w0 w1 w2 w3:World} {b:Nat} {H H' H2:Pt→Sl} {s t u s' T:PSt} {l x y:Int} {i:Nat}
def PSt.addC (s:PSt) (c m:List Int):PSt:= {(s.set (.a s.nc) c).set (.l s.nc) m with nc:=s.nc+1,gone:=fun k=>if k=s.nc then false else s.gone k}
structure Added (s:PSt) (c:List Int) (s':PSt):Prop where
 v:s'.vars=s.vars
 n:s'.nc=s.nc+1
 g: ∀i,s'.gone i=if i=s.nc then false else s.gone i
 a: ∀i,s'.R (.a i)=if i=s.nc then c else s.R (.a i)
 tr:s'.R .tr=s.R .tr
 be:s'.R .be=s.R .be
theorem addC_R {c m:List Int} {y:Pt} (h1:y≠ .a s.nc) (h2:y≠ .l s.nc):(s.addC c m).R y=s.R y:=by
 show ((s.set (.a s.nc) c).set (.l s.nc) m).R y=_
 rw [set_ne h2,set_ne h1]
theorem addC_l {c m:List Int}:(s.addC c m).R (.l s.nc)=m:=by
 show ((s.set (.a s.nc) c).set (.l s.nc) m).R _=_
 rw [set_eq]
theorem addC_a {c m:List Int}:(s.addC c m).R (.a s.nc)=c:=by
 show ((s.set (.a s.nc) c).set (.l s.nc) m).R (.a s.nc)=_
 rw [set_ne (by simp),set_eq]
theorem add_good (g:Good s) (hn:s.nc<262144) {c m l':List Int} (hv: ∀x∈m,InV s.vars x) (hd:m.Nodup) (hl:m.length≤4096) (hm: ∀x,x∈m↔x∈c) (hc:c.length≤4096) (pm:l'.Perm m) (hb:Best s.rk 2 l'):
 Good (settleS (s.addC c m) s.nc l')∧Added s c (settleS (s.addC c m) s.nc l'):=by
 obtain ⟨u,hu⟩: ∃u,u=wF (s.nc:Int) ((s.addC c m).set (.l s.nc) l') (l'.take 2):=⟨_,rfl⟩
 obtain ⟨d1,d2,d3,d4⟩:=wF_vars (s.nc:Int) (l'.take 2) ((s.addC c m).set (.l s.nc) l')
 rw [← hu] at d1 d2 d3 d4
 have eva0:(s.addC c m).R .va=s.R .va:=addC_R (by simp) (by simp)
 have ev0: ∀x,(s.addC c m).val x=s.val x:=fun x=>val_eq eva0 x
 obtain ⟨t,ht⟩: ∃t,t=settleS (s.addC c m) s.nc l':=⟨_,rfl⟩
 have hlo0:(s.addC c m).R .lo=s.R .lo:=addC_R (by simp) (by simp)
 have tt:t=if l'.length<2∨s.val (l'.getD 1 0)<0 then u.set .lo (s.R .lo++ [(s.nc:Int)]) else u:=by
  rw [ht,hu]
  unfold settleS
  simp only [hlo0,ev0]
 have uR: ∀y,(∀j,y≠Pt.w j)→y≠ .a s.nc→y≠ .l s.nc→u.R y=s.R y:=fun y h1 h2 h3=>by rw [hu,wF_R _ h1,set_ne h3,addC_R h2 h3]
 have tR: ∀y,y≠ .lo→t.R y=u.R y:=fun y hy=>by
  rw [tt];split
  · exact set_ne hy
  · rfl
 have eR: ∀y,(∀j,y≠Pt.w j)→y≠ .lo→y≠ .a s.nc→y≠ .l s.nc→t.R y=s.R y:=fun y h1 h2 h3 h4=> (tR y h2).trans (uR y h1 h3 h4)
 have el: ∀k,t.R (.l k)=if k=s.nc then l' else s.R (.l k):=fun k=>by
  rw [tR _ (by simp)]
  by_cases e:k=s.nc
  · rw [if_pos e,e,hu,wF_R _ (by simp),set_eq]
  · rw [if_neg e];exact uR _ (by simp) (by simp) (by simpa using e)
 have ea: ∀k,t.R (.a k)=if k=s.nc then c else s.R (.a k):=fun k=>by
  rw [tR _ (by simp)]
  by_cases e:k=s.nc
  · rw [if_pos e,e,hu,wF_R _ (by simp),set_ne (by simp),addC_a]
  · rw [if_neg e];exact uR _ (by simp) (by simpa using e) (by simp)
 have ew: ∀j q,q∈t.R (.w j)↔q∈s.R (.w j)∨(q=(s.nc:Int)∧∃x∈l'.take 2,sideN x=j):=fun j q=>by
  rw [tR _ (by simp),hu,wF_mem,set_ne (by simp),addC_R (by simp) (by simp)]
 have ln: ∀j q,q∈s.R (.w j)→q≠(s.nc:Int):=fun j q hq e=>by
  obtain ⟨k,e1,⟨e2,_⟩,_⟩:=g.w1 j q hq
  omega
 have ewn: ∀j,(t.R (.w j)).Nodup:=fun j=>by
  rw [tR _ (by simp),hu]
  refine wF_nodup _ j _ _ (take2_nodup (pm.nodup_iff.2 hd)) (by rw [set_ne (by simp),addC_R (by simp) (by simp)];exact g.w3 j) fun _=> ?_
  rw [set_ne (by simp),addC_R (by simp) (by simp)]
  exact fun h=>ln j _ h rfl
 have ulo:u.R .lo=s.R .lo:=uR _ (by simp) (by simp) (by simp)
 have lolt: ∀q∈s.R .lo,q≠(s.nc:Int):=fun q hq e=>by
  obtain ⟨k,e1,⟨e2,_⟩⟩:=g.o1 q hq
  omega
 have elo: ∀q,q∈t.R .lo↔q∈s.R .lo∨(q=(s.nc:Int)∧(l'.length<2∨s.val (l'.getD 1 0)<0)):=fun q=>by
  rw [tt];split
  · rename_i h;rw [set_eq,List.mem_append,List.mem_singleton]
    exact ⟨fun h2=>h2.imp id fun e=> ⟨e,h⟩,fun h2=>h2.imp id fun e=>e.1⟩
  · rename_i h;rw [ulo]
    exact ⟨fun h2=> .inl h2,fun h2=>h2.elim id fun e=>absurd e.2 h⟩
 have elon:(t.R .lo).Nodup:=by
  rw [tt];split
  · rw [set_eq];exact nodup_snoc g.o3 fun h=>lolt _ h rfl
  · rw [ulo];exact g.o3
 have tv:t.vars=s.vars∧t.nc=s.nc+1∧t.gone=(fun k=>if k=s.nc then false else s.gone k)∧t.done=s.done:=by
  rw [tt];split
  · exact ⟨d1,d2,d3,d4⟩
  · exact ⟨d1,d2,d3,d4⟩
 rw [← ht]
 clear ht tt tR uR ulo hu d1 d2 d3 d4
 obtain ⟨evr,enc,egn,edn⟩:=tv
 have eth: ∀k,t.There k↔s.There k∨k=s.nc:=fun k=>by
  show (k<t.nc∧t.gone k=false)↔_
  rw [enc,egn]
  unfold PSt.There
  by_cases e:k=s.nc
  · simp [e]
  · simp only [if_neg e]
    constructor
    · rintro ⟨h1,h2⟩;exact .inl ⟨by omega,h2⟩
    · rintro (⟨h1,h2⟩|h)
      · exact ⟨by omega,h2⟩
      · exact absurd h e
 have ne: ∀k,s.There k→k≠s.nc:=fun k hk e=>by have:=hk.1;omega
 have etr:=eR .tr (by simp) (by simp) (by simp) (by simp)
 have ebe:=eR .be (by simp) (by simp) (by simp) (by simp)
 have eds:=eR .ds (by simp) (by simp) (by simp) (by simp)
 have eva:=eR .va (by simp) (by simp) (by simp) (by simp)
 have ele:=eR .le (by simp) (by simp) (by simp) (by simp)
 have ere:=eR .re (by simp) (by simp) (by simp) (by simp)
 have ev: ∀x,t.val x=s.val x:=fun x=>val_eq eva x
 have elev: ∀x,t.lev x=s.lev x:=fun x=>by unfold PSt.lev;rw [ele]
 have erea: ∀x,t.rea x=s.rea x:=fun x=>by unfold PSt.rea;rw [ere]
 have hin: ∀x∈l',InV s.vars x:=fun x hx=>hv x (pm.mem_iff.1 hx)
 have free: ¬(l'.length<2∨s.val (l'.getD 1 0)<0)→∀x∈l'.take 2,-x ∉ s.R .tr:=fun h x hx e=>by
  have h1:2≤l'.length:=by omega
  have h2:0≤s.val (l'.getD 1 0):=by omega
  have hxl:=List.mem_of_mem_take hx
  have hlt:=(g.vlt (hin x hxl)).2 e
  rcases take2_mem.1 hx with ⟨_,e3⟩| ⟨_,e3⟩
  · have:=hb 0 (by omega) 1 (by omega) (by omega)
    have hl:=g.levb (hin x hxl) hlt
    rw [e3] at hlt hl
    unfold PSt.rk at this
    rw [if_pos (show s.val (l'.getD 1 0)≥0 from h2),if_neg (show ¬s.val (l'.getD 0 0)≥0 by omega)] at this
    omega
  · rw [e3] at hlt;omega
 refine ⟨⟨by rw [evr];exact g.vmax,by omega,by rw [eva,evr];exact g.va,by rw [eva];exact g.vb,by rw [ele,evr];exact g.le,by rw [ere,evr];exact g.rl,by rw [etr,evr];exact g.tv,by rw [etr];exact g.nd,fun x hx=>by rw [ev,etr];exact g.v1 x (by rw [evr] at hx;exact hx),
  by rw [ebe,etr];exact g.bl,by rw [ebe];exact g.bs,by rw [eds,ebe];exact g.dl,by rw [ebe,eds];exact g.db,fun p hp=>by rw [etr] at hp ⊢;rw [elev,ebe];exact g.lv p hp,fun p hp hm=>by rw [etr] at hp ⊢;rw [erea];rw [ebe] at hm;exact g.re1 p hp hm,
  fun p hp hm=> ?_,by rw [edn,etr];exact g.dn,fun k hk x hx=> ?_,fun k hk=> ?_,fun k hk=> ?_,fun k hk x=> ?_,fun k=> ?_,fun j q hq=> ?_,fun k hk x hx=> ?_,ewn,fun q hq=> ?_,fun k hk h=> ?_,elon,fun k hk h=> ?_,fun j hj k hk h=> ?_⟩,
  ⟨evr,enc,fun k=>by rw [egn],ea,etr,ebe⟩⟩
 · rw [etr] at hp ⊢
   rw [ebe] at hm
   obtain ⟨k,e1,e2,e3,e4⟩:=g.re2 p hp hm
   have hne:=ne k e2
   exact ⟨k,by rw [erea];exact e1,(eth k).2 (.inl e2),by rw [el,if_neg hne];exact e3,fun x hx hn=>e4 x (by rw [el,if_neg hne] at hx;exact hx) hn⟩
 · rw [evr];rw [el] at hx
   rcases (eth k).1 hk with h|h
   · rw [if_neg (ne k h)] at hx;exact g.cv k h x hx
   · rw [if_pos h] at hx;exact hin x hx
 · rw [el]
   rcases (eth k).1 hk with h|h
   · rw [if_neg (ne k h)];exact g.cn k h
   · rw [if_pos h];exact pm.nodup_iff.2 hd
 · rw [el]
   rcases (eth k).1 hk with h|h
   · rw [if_neg (ne k h)];exact g.cl k h
   · rw [if_pos h,pm.length_eq];exact hl
 · rw [el,ea]
   rcases (eth k).1 hk with h|h
   · rw [if_neg (ne k h),if_neg (ne k h)];exact g.ca k h x
   · rw [if_pos h,if_pos h,pm.mem_iff];exact hm x
 · rw [ea];split
   · exact hc
   · exact g.al k
 · rcases (ew j q).1 hq with h| ⟨e1,x,hx,e3⟩
   · obtain ⟨k,e1,e2,x,hx,e3⟩:=g.w1 j q h
     exact ⟨k,e1,(eth k).2 (.inl e2),x,by rw [el,if_neg (ne k e2)];exact hx,e3⟩
   · exact ⟨s.nc,e1,(eth _).2 (.inr rfl),x,by rw [el,if_pos rfl];exact hx,e3⟩
 · rw [el] at hx
   rw [ew]
   rcases (eth k).1 hk with h|h
   · rw [if_neg (ne k h)] at hx;exact .inl (g.w2 k h x hx)
   · rw [if_pos h] at hx;exact .inr ⟨by rw [h],x,hx,rfl⟩
 · rcases (elo q).1 hq with h| ⟨e1,_⟩
   · obtain ⟨k,e1,e2⟩:=g.o1 q h
     exact ⟨k,e1,(eth k).2 (.inl e2)⟩
   · exact ⟨s.nc,e1,(eth _).2 (.inr rfl)⟩
 · rw [el] at h
   rw [elo]
   rcases (eth k).1 hk with h2|h2
   · rw [if_neg (ne k h2)] at h;exact .inl (g.o2 k h2 h)
   · rw [if_pos h2] at h;exact .inr ⟨by rw [h2],.inl h⟩
 · intro x hx y hy hne hmm
   rw [etr,edn] at hmm
   rw [etr]
   rw [el] at hx hy
   rcases (eth k).1 hk with h2|h2
   · rw [if_neg (ne k h2)] at hx hy
     exact g.wd k h2 (fun h3=>h ((elo _).2 (.inl h3))) x hx y hy hne hmm
   · rw [if_pos h2] at hx
     exact absurd (List.mem_of_mem_take hmm) (free (fun h3=>h ((elo _).2 (.inr ⟨by rw [h2],h3⟩))) x hx)
 · intro x hx y hy hne hmm
   rw [ebe] at hj
   rw [etr,eds] at hmm
   rw [etr,ebe]
   rw [el] at hx hy
   rcases (eth k).1 hk with h2|h2
   · rw [if_neg (ne k h2)] at hx hy
     exact g.wj j hj k h2 (fun h3=>h ((elo _).2 (.inl h3))) x hx y hy hne hmm
   · rw [if_pos h2] at hx
     exact absurd (List.mem_of_mem_take hmm) (free (fun h3=>h ((elo _).2 (.inr ⟨by rw [h2],h3⟩))) x hx)
theorem sl_clause:slOkN Tryz.prog ty_sl_prop_clause ty_prop_clause 3 56=true:=by kernel_rfl
theorem PM.addC (h:PM w0 b H s) (g1:Grow w0 w1) {A L:Sl} {c m:List Int} (oA:OwI ty_int w1 A.p A.c c) (oL:OwI ty_int w1 L.p L.c m) (nA:A.n=c.length) (nL:L.n=m.length)
 (fA: ∀k,blk A.p=some k→w0.heap.size≤k) (fL: ∀k,blk L.p=some k→w0.heap.size≤k) (dAL: ∀k,blk A.p=some k→blk L.p≠some k) {n27:Nat} (hb:Has w1 n27 #[A.v,L.v,.bool false]) (hn:s.nc≤262144) {K:World→Prop}
 (hk: ∀w3 H',Pw w0 w3 b H H' (s.addC c m)→K w3):
 ∃w2,∃ (p':Option Addr) (n' c':Nat),(Builtin.append_ #[ty_sl_prop_clause,ty_sl_prop_clause] ty_sl_prop_clause #[.slice (H .c).p (H .c).n (H .c).c,.slice (some (Addr.mk n27 0 none)) 1 1]).run Tryz.prog w1= .ok (.slice p' n' c') w2∧
  Mod (fun k=>blk (H .c).p=some k) w1 w2∧∃w3,StoreAt ((Addr.mk b 0 none).add 1) 0 [.slice p' n' c'] w2 w3∧K w3:=by
 have h1:=h.grow g1
 have vr:Vr 3 ceE w1 (some ⟨n27,0,none⟩) [((A,L,false):Ce)]:=by
  intro j hj
  have hj:j=0:=by simpa using hj
  subst hj
  refine ⟨_,rfl,?_⟩
  rw [Nat.zero_mul,add_at]
  exact ⟨cell_add hb rfl,cell_add hb rfl,cell_add hb rfl,trivial⟩
 refine h1.c.app ceEnc sl_clause vr (by rw [h.cn,ces_len]) rfl (by rw [ces_len];simp;omega) fun w2 p' c' o2 m2 hp2 hs2=> ?_
 have M2:Mod (fun k=>blk (H .c).p=some k) w0 w2:=(g1.mono fun _ _ e=>e.elim).trans m2
 refine ⟨m2,?_⟩
 have z1:=g1.size
 have oth: ∀ {y:Pt} {k:Nat},y≠ .c→own b H y=some k→¬blk (H .c).p=some k:=fun hy hk=>h.other (x:= .c) (by simp) hy hk
 have f2: ∀k,blk p'=some k→blk (H .c).p=some k∨w1.heap.size≤k:=fun k hk=>by
  rcases hp2 with rfl|rfl
  · exact .inl hk
  · have:=blk_some hk;exact .inr (by omega)
 have bst: ∀ {k:Nat},w0.heap.size≤k→k≠b:=fun hk e=>by have:=h.lt .st b rfl;omega
 have stw:Has w2 b (stC s H):=h.st.keep M2 (oth (y:= .st) (by simp) rfl)
 have i1:=inj_upd' h.inj (x:= .a s.nc) (by simp) (q:=A) fun k e=> .inr (h.fresh (fA k e))
 have i2:=inj_upd' i1 (x:= .l s.nc) (by simp) (q:=L) fun k e=> .inr fun y e2=>by
  by_cases ey:y= .a s.nc
  · subst ey
    rw [own_ne (by simp),updF_same] at e2
    exact dAL k e2 e
  · rw [own_upd ey] at e2
    exact h.fresh (fL k e) y e2
 have i3:=inj_upd' i2 (x:= .c) (by simp) (q:=⟨p',s.nc+1,c'⟩) fun k e=>by
  rw [updF_ne (by simp),updF_ne (by simp)]
  rcases f2 k e with e3|e3
  · exact .inl e3
  · refine .inr fun y e2=> ?_
    by_cases ey:y= .l s.nc
    · subst ey
      rw [own_ne (by simp),updF_same] at e2
      have:=oL.lt k e2;omega
    · rw [own_upd ey] at e2
      by_cases ey2:y= .a s.nc
      · subst ey2
        rw [own_ne (by simp),updF_same] at e2
        have:=oA.lt k e2;omega
      · rw [own_upd ey2] at e2
        have:=h.lt y k e2;omega
 have eH: ∀y,y≠ .a s.nc→y≠ .l s.nc→y≠ .c→updF (updF (updF H (.a s.nc) A) (.l s.nc) L) .c ⟨p',s.nc+1,c'⟩ y=H y:=fun y a1 a2 a3=>by rw [updF_ne a3,updF_ne a2,updF_ne a1]
 have eA:updF (updF (updF H (.a s.nc) A) (.l s.nc) L) .c ⟨p',s.nc+1,c'⟩ (.a s.nc)=A:=by rw [updF_ne (by simp),updF_ne (by simp),updF_same]
 have eL:updF (updF (updF H (.a s.nc) A) (.l s.nc) L) .c ⟨p',s.nc+1,c'⟩ (.l s.nc)=L:=by rw [updF_ne (by simp),updF_same]
 have en:(ces H s.gone s.nc++ [((A,L,false):Ce)]).length=s.nc+1:=by simp [ces_len]
 rw [en]
 refine store_f (k:=1) (i:=0) stw rfl rfl fun w3 h3 m3=>hk w3 (updF (updF (updF H (.a s.nc) A) (.l s.nc) L) .c ⟨p',s.nc+1,c'⟩) ⟨⟨?_,?_,?_,?_,?_,fun y hy=> ?_,fun y hy=> ?_,i3⟩,?_,fun y k e=> ?_⟩
 · have e:stC (s.addC c m) (updF (updF (updF H (.a s.nc) A) (.l s.nc) L) .c ⟨p',s.nc+1,c'⟩)=wr (stC s H) (0+1+0) [.slice p' (s.nc+1) c']:=by
    simp [wr,stC,PSt.addC,PSt.set,updF,Sl.v]
   rw [e];exact h3
 · rw [updF_same]
   have e:ces (updF (updF (updF H (.a s.nc) A) (.l s.nc) L) .c ⟨p',s.nc+1,c'⟩) (s.addC c m).gone (s.addC c m).nc=ces H s.gone s.nc++ [((A,L,false):Ce)]:=by
    apply List.ext_getElem?
    intro j
    simp only [ces,PSt.addC,PSt.set,List.getElem?_map,List.getElem?_append,List.length_map,List.length_range]
    by_cases hj:j<s.nc
    · have hne:j≠s.nc:=by omega
      simp [hj,show j<s.nc+1 by omega,ceOf,updF,hne]
    · rw [if_neg hj]
      by_cases e:j=s.nc
      · subst e;simp [ceOf,updF]
      · have: ¬j<s.nc+1:=by omega
        simp [this]
        omega
   rw [e]
   exact o2.keep m3 fun k hk e=>by
    rcases f2 k hk with e3|e3
    · exact oth (y:= .st) (by simp) (k:=k) (by rw [e];rfl) e3
    · exact bst (by omega) e
 · rw [updF_same];rfl
 · rw [eH .wa (by simp) (by simp) (by simp)]
   have e:heads (updF (updF (updF H (.a s.nc) A) (.l s.nc) L) .c ⟨p',s.nc+1,c'⟩) (2* ((s.addC c m).vars+1))=heads H (2* (s.vars+1)):=by
    rw [heads_upd (by simp),heads_upd (by simp),heads_upd (by simp)];rfl
   rw [e]
   exact (h.wa.keep M2 fun k hk=>oth (y:= .wa) (by simp) hk).keep m3 fun k hk e=>by
    have:=h.inj .wa .st k hk (by rw [e];rfl);cases this
 · rw [eH .wa (by simp) (by simp) (by simp)];exact h.wn
 · have kp: ∀ {T2:TypeId} {f:Int→Value} {q:Sl} {l:List Int},Ow f T2 w1 q.p q.c l→(∀k,blk q.p=some k→w0.heap.size≤k)→Ow f T2 w3 q.p q.c l:=fun o hf=> (o.keep m2 fun k hk e=>by
    have:=h.lt .c k e;have:=hf k hk;omega).keep m3 fun k hk e=>bst (hf k hk) e
   by_cases a1:y= .a s.nc
   · subst a1;rw [eA,addC_a];exact kp oA fA
   · by_cases a2:y= .l s.nc
     · subst a2;rw [eL,addC_l];exact kp oL fL
     · rw [eH y a1 a2 (row_ne hy).2.1,addC_R a1 a2]
       exact ((h.row y hy).keep M2 fun k hk=>oth (row_ne hy).2.1 (by rw [own_ne (row_ne hy).1];exact hk)).keep m3 fun k hk e=>by
        have:=h.inj y .st k (by rw [own_ne (row_ne hy).1];exact hk) (by rw [e];rfl)
        exact (row_ne hy).1 this
 · by_cases a1:y= .a s.nc
   · subst a1;rw [eA,addC_a];exact nA
   · by_cases a2:y= .l s.nc
     · subst a2;rw [eL,addC_l];exact nL
     · rw [eH y a1 a2 (row_ne hy).2.1,addC_R a1 a2];exact h.len y hy
 · exact (M2.mono fun k _ e=> ⟨.c,e⟩).trans (m3.mono fun k _ e=> ⟨.st,by rw [e];rfl⟩)
 · by_cases a3:y= .c
   · subst a3
     rw [own_ne (by simp),updF_same] at e
     rcases f2 k e with e3|e3
     · exact .inl ⟨.c,e3⟩
     · exact .inr (by omega)
   · rw [own_upd a3] at e
     by_cases a2:y= .l s.nc
     · subst a2;rw [own_ne (by simp),updF_same] at e;exact .inr (fL k e)
     · rw [own_upd a2] at e
       by_cases a1:y= .a s.nc
       · subst a1;rw [own_ne (by simp),updF_same] at e;exact .inr (fA k e)
       · rw [own_upd a1] at e;exact .inl ⟨y,e⟩
end
section
variable {w w' w0 w1 w2 w3:World} {b:Nat} {H H' H2:Pt→Sl} {s t u s' T:PSt} {l x y:Int} {i:Nat}
def okC (n:Nat) (c:List Int):Bool:=clB c && c.all (isB n)
theorem any_nall {p:Int→Bool}: ∀c:List Int,c.any (fun x=> !p x)= !c.all p
 | []=>rfl
 |a::l=>by rw [List.any_cons,List.all_cons,any_nall l];cases p a<;>rfl
theorem addC_wf (k:Wf s) (hn:s.nc<262144) {c m:List Int}:Wf (s.addC c m):=by
 have e: ∀y,(∀i,y≠Pt.a i)→(∀i,y≠Pt.l i)→(s.addC c m).R y=s.R y:=fun y h1 h2=>addC_R (h1 _) (h2 _)
 exact ⟨k.vmax,by rw [e _ (by simp) (by simp)];exact k.va,by rw [e _ (by simp) (by simp)];exact k.vb,by rw [e _ (by simp) (by simp)];exact k.le,by rw [e _ (by simp) (by simp)];exact k.re,by rw [e _ (by simp) (by simp)];exact k.be,by rw [e _ (by simp) (by simp)];exact k.tr,hn⟩
theorem add_ok (h:PM w b H s) (g:Good s) {cp:Option Addr} {n cc:Nat} {c:List Int} (hc:Vw (Value.int .i64) w cp c) (hn:n=c.length) (hx:n≤maxLen):
 Calls Tryz.prog prop_Prop_Add.id #[ptrV b,.slice cp n cc] w fun e w'=> ∃r1 r2:Int,e= .returned (.tuple #[.int .i64 r1,.int .i64 r2])∧∃s' H',Pw w w' b H H' s'∧Good s'∧
  ((r1=0∧r2=1∧okC s.vars c=false∧s'=s)∨(r1=0∧r2=5∧okC s.vars c=true∧s.nc=262144∧s'=s)∨(r1=s.nc∧r2=0∧okC s.vars c=true∧s.nc<262144∧Added s c s')):=by
 have k:=g.wf
 refine prop_Prop_Add.calls ?_
 intro n1 w2 h2
 have hA:=h.grow h2.mod
 have e1:=h2.num
 have hnot: ∀x,¬own b H x=some n1:=fun x e=>by have:=h.lt x n1 e;omega
 obtain ⟨av,hav⟩:=va_some h k
 refine ⟨_,cell_of h2.has rfl,cnd_f rfl ⟨_,cell_of h2.has rfl,_,rfl,_,_,_,cell_add hA.st rfl,?_⟩⟩
 rw [hav]
 have bad:okC s.vars c=false→∀ {u:World},Grow w2 u→∃r1 r2:Int,Ending.returned (.tuple #[.int .i64 0,.int .i64 1])= .returned (.tuple #[.int .i64 r1,.int .i64 r2])∧∃s' H',Pw w u b H H' s'∧Good s'∧
  ((r1=0∧r2=1∧okC s.vars c=false∧s'=s)∨(r1=0∧r2=5∧okC s.vars c=true∧s.nc=262144∧s'=s)∨(r1=s.nc∧r2=0∧okC s.vars c=true∧s.nc<262144∧Added s c s')):=
  fun hb u gu=> ⟨0,1,rfl,s,H,(Pw.refl (hA.grow gu) gu).pre h2.mod,g,.inl ⟨rfl,rfl,hb,rfl⟩⟩
 refine cnd_f rfl ((litCheck_ok (hc.grow h2.mod) hn hx).mono ?_)
 rintro e w7 ⟨rfl,g7⟩
 refine ⟨_,rfl,?_⟩
 cases hcl:clB c with
 |false=>exact cnd_t rfl (bad (by simp [okC,hcl]) g7)
 |true=>
 have h7:=hA.grow g7
 have hb7:=h2.has.grow g7
 refine cnd_f rfl ((containsFunc_ok ((hc.grow h2.mod).grow g7) hn hx add1_ent (fun x=> !isB s.vars x) fun x _ w' gw=> ?_).mono ?_)
 · rw [args2w]
   exact add1 (h7.grow gw) k (hb7.grow gw) x
 rintro e w9 ⟨rfl,g9⟩
 have G9:=g7.trans g9
 have hany:c.any (fun x=> !isB s.vars x)= !c.all (isB s.vars):=any_nall c
 refine ⟨_,rfl,?_⟩
 rw [hany]
 cases hal:c.all (isB s.vars) with
 |false=>exact cnd_t rfl (bad (by simp [okC,hal]) G9)
 |true=>
 have hok:okC s.vars c=true:=by simp [okC,hcl,hal]
 have h9:=hA.grow G9
 have hb9:=h2.has.grow G9
 have hin: ∀x∈c,InV s.vars x:=fun x hxc=> (isB_iff k.vmax).1 (List.all_eq_true.1 hal x hxc)
 have hcl4:=(clB_all hcl).2
 refine cnd_f rfl ⟨_,cell_of hb9 rfl,_,rfl,_,_,_,cell_add h9.st rfl,?_⟩
 rw [h.cn]
 refine cnd_i (fun r=> ?_) (fun r=> ?_)
 · have r:(s.nc:Int)=262144:=by simpa using r
   exact ⟨0,5,rfl,s,H,(Pw.refl h9 G9).pre h2.mod,g,.inr (.inl ⟨rfl,rfl,hok,by omega,rfl⟩)⟩
 have r: ¬(s.nc:Int)=262144:=by simpa using r
 have hnc:s.nc<262144:=by have:=g.ncm;omega
 refine (norm_fr ((hc.grow h2.mod).grow G9) hn hx).mono ?_
 rintro e w14 ⟨q15,d15,m,hm,rfl,o15,g14,f15⟩
 rw [hcl] at hm
 simp only [if_true] at hm
 subst hm
 have G14:=G9.trans g14
 have h14:=hA.grow G14
 have hb14:=h2.has.grow G14
 refine ⟨_,_,_,_,rfl,_,cell_of hb14 rfl,_,rfl,_,_,_,cell_add h14.st rfl,?_⟩
 have hD:=h14.drew
 have nn1: ¬blk (H .c).p=some n1:=fun e=>hnot .c e
 have aw: ∀ {a:Addr} {u:Value},w14.drew.cell? a=some u→¬blk (H .c).p=some a.block→AtW (Mod (fun k=>blk (H .c).p=some k) w14.drew) a u:=fun hc hne u' g=>cell_keep g hc hne
 have gm: ∀ {w1:World},Grow w14.drew w1→Mod (fun k=>blk (H .c).p=some k) w14.drew w1:=fun g=>g.mono fun _ _ e=>e.elim
 have nst: ¬blk (H .c).p=some b:=hD.other (x:= .c) (by simp) (y:= .st) (by simp) rfl
 refine ⟨Mod (fun k=>blk (H .c).p=some k) w14.drew,Mod.refl _,_,aw (cell_of hb14.drew rfl) nn1,_,aw (cell_of hb14.drew rfl) nn1,_,rfl,_,_,_,aw (cell_add hD.st rfl) (by rw [add_block];exact nst),?_⟩
 refine (clone_ok (((hc.grow h2.mod).grow G14).drew) hn (by omega)).mono ?_
 rintro e w25 ⟨q26,d26,rfl,o26,g25,f26⟩
 refine ⟨_,_,_,rfl,gm g25,?_⟩
 intro n27 w28 h28
 have G28:=g25.trans h28.mod
 refine ⟨gm G28,?_⟩
 have zz:w14.drew.heap.size=w14.heap.size:=rfl
 have GA:Grow w2 w28:=G14.trans ((Mod.refl w14).drew.trans G28)
 have s14:=G14.size
 have s9:=G9.size
 have tl:=hA.addC (w1:=w28) (A:=⟨q26,c.length,d26⟩) (L:=⟨q15,(norm c).length,d15⟩) (c:=c) (m:=norm c) GA (o26.grow h28.mod) ((o15.drew.grow g25).grow h28.mod) rfl rfl (fun k hk=>by have:=f26 k hk;omega) (fun k hk=>by have:=f15 k hk;omega)
  (fun k hk e=>by have:=f26 k hk;have:=o15.lt k e;omega) h28.has g.ncm (K:=fun w32=> ∃x33,w32.cell? (Addr.mk n1 0 none)=some (.pointer x33)∧Calls Tryz.prog prop_Prop_settle.id #[.pointer x33,.int .i64 (s.nc:Int)] w32 fun e w34=>e= .returned (.tuple #[])∧
    ∃r1 r2:Int,Ending.returned (.tuple #[.int .i64 (s.nc:Int),.int .i64 0])= .returned (.tuple #[.int .i64 r1,.int .i64 r2])∧∃s' H',Pw w w34 b H H' s'∧Good s'∧
    ((r1=0∧r2=1∧okC s.vars c=false∧s'=s)∨(r1=0∧r2=5∧okC s.vars c=true∧s.nc=262144∧s'=s)∨(r1=s.nc∧r2=0∧okC s.vars c=true∧s.nc<262144∧Added s c s'))) ?_
 · obtain ⟨wa,p',n',c',hr,hmod,w3,hst,hrest⟩:=tl
   rw [h.cn] at hr ⊢
   exact ⟨wa,p',n',c',hr,(gm G28).trans hmod,_,rfl,w3,hst,hrest⟩
 · intro w32 H2 P32
   have h32:=P32.pm
   have hb32:=h2.has.keep P32.mod fun ⟨x,e⟩=>hnot x e
   have nm:=norm_isN c
   have hnd:(norm c).Nodup:=nm.st.imp fun {a b} hab e=>by subst e;exact bef_irr a hab
   have hnl:(norm c).length≤4096:=by have:=norm_len c;omega
   have hnin: ∀x∈norm c,InV s.vars x:=fun x hx=>hin x ((nm.mem x).1 hx)
   refine ⟨_,cell_of hb32 rfl,(settle_ok h32 (addC_wf k hnc) (i:=s.nc) (Nat.lt_succ_self _) (by rw [addC_l];exact hnin) (by rw [addC_l];omega) (fun j=>by rw [addC_R (by simp) (by simp)];have:=g.wl j;omega) (by rw [addC_R (by simp) (by simp)];have:=g.lol;omega)).mono ?_⟩
   rintro e w34 ⟨rfl,l',H3,hbest,pm,P34,_,_⟩
   rw [addC_l] at pm
   have hbest':Best s.rk 2 l':=fun t ht j h1 h2=>by
    have:=hbest t ht j h1 h2
    rw [rk_eq (s:=s) (addC_R (by simp) (by simp)) (addC_R (by simp) (by simp)),rk_eq (s:=s) (addC_R (by simp) (by simp)) (addC_R (by simp) (by simp))] at this
    exact this
   obtain ⟨G',A'⟩:=add_good g hnc hnin hnd hnl (fun x=>nm.mem x) hcl4 pm hbest'
   exact ⟨rfl,_,_,rfl,_,H3,(P32.trans P34).pre h2.mod,G',.inr (.inr ⟨rfl,rfl,hok,hnc,A'⟩)⟩
end
end Go.Proofs.YtabengnadcleeaaGreat.W
namespace Go.Fw
open Go Go.RowKit
variable {α:Type} {f:α→Value} {w w':World} {p:Option Addr} {hs:List Sl} {rows:List (List α)}
def footN (p:Option Addr) (hs:List Sl) (k:Nat):Prop:=(hs≠[]∧blk p=some k)∨rfoot hs k
theorem V2.keepN {S:Nat→Prop} (h:V2 f w p hs rows) (m:Mod S w w') (hS: ∀k,footN p hs k→¬S k):V2 f w' p hs rows:=
 (h.vr.keep m fun k hk=>hS k (.inr hk)).v2 (h.h.keepN m fun hne k hk=>hS k (.inl ⟨hne,hk⟩))
theorem V2.ltN (h:V2 f w p hs rows): ∀k,footN p hs k→k<w.heap.size:=by
 rintro k (⟨hne,hk⟩|hk)
 · exact h.h.lt hne k hk
 · exact h.vr.lt k hk
theorem V2.young {S:Nat→Prop} {w0:World} (h:V2 f w p hs rows) (h0: ∀k,footN p hs k→k<w0.heap.size) (m:Mod S w w') (hS: ∀k,S k→w0.heap.size≤k):V2 f w' p hs rows:=
 h.keepN m fun k hk hs=>by have:=h0 k hk;have:=hS k hs;omega
end Go.Fw
namespace Go.Proofs.YtabengnadcleeaaGreat.W
open Go Go.Fw Go.RowKit Go.SoP Go.LiP
open Go.Proofs.Tryz (prog)
variable {w w' w0 w1 w2 w3:World} {b:Nat} {H H' H2:Pt→Sl} {s t u s' T:PSt} {l x y:Int} {i:Nat}
theorem sl_sl_int':slOk prog ty_sl_sl_int ty_sl_int 24=true:=by kernel_rfl
theorem sl_zero:(Tryz.prog.info? ty_sl_int).bind (·.zero)=some (.slice none 0 0):=by kernel_rfl
theorem i8_zero:(Tryz.prog.info? ty_int8).bind (·.zero)=some (.int .i8 0):=by kernel_rfl
def PSt.new (k:Nat):PSt:= {vars:=k,nc:=0,gone:=fun _=>false,done:=0,R:=fun x=>match x with| .va| .le| .re=>List.replicate (k+1) 0|_=> []}
def newH (k a v l r:Nat):Pt→Sl
 | .wa=> ⟨some ⟨a,0,none⟩,2* (k+1),2* (k+1)⟩
 | .va=> ⟨some ⟨v,0,none⟩,k+1,k+1⟩
 | .le=> ⟨some ⟨l,0,none⟩,k+1,k+1⟩
 | .re=> ⟨some ⟨r,0,none⟩,k+1,k+1⟩
 |_=>Sl.nil
theorem new_good {k:Nat} (hk:k≤1048576):Good (PSt.new k):=by
 have e0: ∀ (n i:Nat),(List.replicate n (0:Int)).getD i 0=0:=fun n i=>by
  simp only [List.getD_eq_getElem?_getD,List.getElem?_replicate]
  split<;>rfl
 refine ⟨hk,by simp [PSt.new],by simp [PSt.new],fun i=> .inl (e0 _ _),by simp [PSt.new],by simp [PSt.new],fun x hx=>by simp [PSt.new] at hx,by simp [PSt.new],fun x hx=> ?_,fun j hj=>by simp [PSt.new] at hj,fun i j _ hj=>by simp [PSt.new] at hj,rfl,fun j hj=>by simp [PSt.new] at hj,
  fun p hp=>by simp [PSt.new] at hp,fun p hp=>by simp [PSt.new] at hp,fun p hp=>by simp [PSt.new] at hp,Nat.le_refl _,fun i hi=>absurd hi.1 (Nat.not_lt_zero _),fun i hi=>absurd hi.1 (Nat.not_lt_zero _),fun i hi=>absurd hi.1 (Nat.not_lt_zero _),fun i hi=>absurd hi.1 (Nat.not_lt_zero _),fun i=>by simp [PSt.new],
  fun j c hc=>by simp [PSt.new] at hc,fun i hi=>absurd hi.1 (Nat.not_lt_zero _),fun j=>by simp [PSt.new],fun c hc=>by simp [PSt.new] at hc,fun i hi=>absurd hi.1 (Nat.not_lt_zero _),by simp [PSt.new],fun i hi=>absurd hi.1 (Nat.not_lt_zero _),fun j hj=>by simp [PSt.new] at hj⟩
 have:(PSt.new k).val x=0:=by
  unfold PSt.val
  show (if x<0 then -(List.replicate (k+1) (0:Int)).getD _ 0 else (List.replicate (k+1) (0:Int)).getD _ 0)=0
  rw [e0,e0];simp
 rw [this]
 simp [PSt.new]
def Owt (k t:Nat) (u:World) (g:Nat):Prop:=
 match t with
 |0=>Ow Sl.v ty_sl_int u (some ⟨g,0,none⟩) (2* (k+1)) (List.replicate (2* (k+1)) Sl.nil)
 |1=>Ow (Value.int .i8) ty_int8 u (some ⟨g,0,none⟩) (k+1) (List.replicate (k+1) 0)
 |_=>OwI ty_int u (some ⟨g,0,none⟩) (k+1) (List.replicate (k+1) 0)
structure Zn (w0:World) (k:Nat) (u:World) (L:List (Nat × Nat)):Prop where
 g:Grow w0 u
 o: ∀t g,(t,g)∈L→Owt k t u g∧w0.heap.size≤g∧g<u.heap.size
 d: ∀t t' g,(t,g)∈L→(t',g)∈L→t=t'
theorem Owt.grow {k t g:Nat} (h:Owt k t w g) (m:Grow w w'):Owt k t w' g:=by
 unfold Owt at*
 split at h<;>exact Ow.grow h m
variable {k:Nat} {L:List (Nat × Nat)}
theorem Zn.cons (z:Zn w0 k w L) {t:Nat} {o:Owt k t w' w.heap.size} (m:Grow w w') (hs:w'.heap.size=w.heap.size+1):Zn w0 k w' ((t,w.heap.size)::L):=by
 refine ⟨z.g.trans m,fun t' g hm=> ?_,fun t1 t2 g h1 h2=> ?_⟩
 · rcases List.mem_cons.1 hm with e|hm
   · injection e with e1 e2
     subst e1 e2
     exact ⟨o,z.g.size,by omega⟩
   · obtain ⟨a,b,c⟩:=z.o t' g hm
     exact ⟨a.grow m,b,by omega⟩
 · rcases List.mem_cons.1 h1 with e1|h1<;>rcases List.mem_cons.1 h2 with e2|h2
   · injection e1 with a1 a2;injection e2 with b1 b2;omega
   · injection e1 with a1 a2;have:=(z.o t2 g h2).2.2;omega
   · injection e2 with a1 a2;have:=(z.o t1 g h1).2.2;omega
   · exact z.d t1 t2 g h1 h2
theorem Zn.m0 (z:Zn w0 k w L) (hk:k≤1048576) {n:Int} (hn:n=((2* (k+1):Nat):Int)) {K:World→Option Addr→Nat→Nat→Prop}
 (hK: ∀u,Zn w0 k u ((0,w.heap.size)::L)→K u (some ⟨w.heap.size,0,none⟩) (2* (k+1)) (2* (k+1))):
 ∃w',∃p' n' c',(Instr.makeSlice ty_sl_sl_int (.int .i64 n) (.int .i64 n)).run prog w= .ok (.slice p' n' c') w'∧K w' p' n' c':=
 make_i (f:=Sl.v) (x:=Sl.nil) sl_sl_int' sl_zero rfl (2* (k+1)) hn (by omega) fun u o m hs=>hK u (z.cons (t:=0) (o:=o) m hs)
theorem Zn.m1 (z:Zn w0 k w L) (hk:k≤1048576) {n:Int} (hn:n=((k+1:Nat):Int)) {K:World→Option Addr→Nat→Nat→Prop}
 (hK: ∀u,Zn w0 k u ((1,w.heap.size)::L)→K u (some ⟨w.heap.size,0,none⟩) (k+1) (k+1)):
 ∃w',∃p' n' c',(Instr.makeSlice ty_sl_int8 (.int .i64 n) (.int .i64 n)).run prog w= .ok (.slice p' n' c') w'∧K w' p' n' c':=
 make_i (f:=Value.int .i8) (x:=0) sl_int8 i8_zero rfl (k+1) hn (by omega) fun u o m hs=>hK u (z.cons (t:=1) (o:=o) m hs)
theorem Zn.m2 (z:Zn w0 k w L) (hk:k≤1048576) {n:Int} (hn:n=((k+1:Nat):Int)) {K:World→Option Addr→Nat→Nat→Prop}
 (hK: ∀u,Zn w0 k u ((L.length+2,w.heap.size)::L)→K u (some ⟨w.heap.size,0,none⟩) (k+1) (k+1)):
 ∃w',∃p' n' c',(Instr.makeSlice ty_sl_int (.int .i64 n) (.int .i64 n)).run prog w= .ok (.slice p' n' c') w'∧K w' p' n' c':=
 make_i (f:=Value.int .i64) (x:=0) sl_int int_zero rfl (k+1) hn (by omega) fun u o m hs=>hK u (z.cons (t:=L.length+2) (o:=o) m hs)
theorem Zn.pm (z:Zn w0 k w L) {a v l r t t':Nat} (ha:(0,a)∈L) (hv:(1,v)∈L) (hl:(t+2,l)∈L) (hr:(t'+2,r)∈L) (ht:t≠t') {n:Nat}
 (h:New (.cells #[.int .i64 k,.slice none 0 0,.slice (some ⟨a,0,none⟩) (2* (k+1)) (2* (k+1)),.slice (some ⟨v,0,none⟩) (k+1) (k+1),.slice (some ⟨l,0,none⟩) (k+1) (k+1),.slice (some ⟨r,0,none⟩) (k+1) (k+1),.slice none 0 0,.slice none 0 0,.slice none 0 0,.int .i64 0,.slice none 0 0] ty_prop_Prop) w n w'):
 PM w' n (newH k a v l r) (PSt.new k)∧Grow w0 w'∧∀x j,own n (newH k a v l r) x=some j→w0.heap.size≤j:=by
 obtain ⟨oa,ga,la⟩:=z.o _ _ ha
 obtain ⟨ov,gv,lv⟩:=z.o _ _ hv
 obtain ⟨ol,gl,ll⟩:=z.o _ _ hl
 obtain ⟨or',gr,lr⟩:=z.o _ _ hr
 have en:=h.num
 have gz:=z.g.size
 have dd: ∀ {t1 t2 g1 g2:Nat},(t1,g1)∈L→(t2,g2)∈L→t1≠t2→g1≠g2:=fun h1 h2 hne e=>hne (z.d _ _ _ h1 (e▸h2))
 have av:=dd ha hv (by omega)
 have al:=dd ha hl (by omega)
 have ar:=dd ha hr (by omega)
 have vl:=dd hv hl (by omega)
 have vr:=dd hv hr (by omega)
 have lr':=dd hl hr (by omega)
 have inv: ∀x j,own n (newH k a v l r) x=some j→(x= .st∧j=n)∨(x= .wa∧j=a)∨(x= .va∧j=v)∨(x= .le∧j=l)∨(x= .re∧j=r):=by
  intro x j hx
  cases x<;>simp [own,newH,blk,Sl.nil] at hx<;>simp [hx]
 refine ⟨⟨h.has,Row.nil _ _ _ _,rfl,?_,rfl,fun x hx=> ?_,fun x hx=> ?_,fun x y j hx hy=> ?_⟩,z.g.trans h.mod,fun x j hx=> ?_⟩
 · have e:heads (newH k a v l r) (2* ((PSt.new k).vars+1))=List.replicate (2* (k+1)) Sl.nil:=by
    unfold heads
    rw [List.eq_replicate_iff]
    refine ⟨by simp [PSt.new],fun q hq=> ?_⟩
    obtain ⟨j,_,rfl⟩:=List.mem_map.1 hq
    rfl
   rw [e];exact Owt.grow (t:=0) oa h.mod
 · cases x<;>first| (exact Ow.nil _ _ _)| (simp [Pt.row] at hx;done)| (exact Owt.grow (t:=1) ov h.mod)| (exact Owt.grow (t:=t+2) ol h.mod)| (exact Owt.grow (t:=t'+2) or' h.mod)
 · cases x<;>first| (simp [Pt.row] at hx;done)| (simp [newH,PSt.new,Sl.nil])
 · rcases inv x j hx with ⟨rfl,rfl⟩| ⟨rfl,rfl⟩| ⟨rfl,rfl⟩| ⟨rfl,rfl⟩| ⟨rfl,rfl⟩<;>rcases inv y _ hy with ⟨rfl,e⟩| ⟨rfl,e⟩| ⟨rfl,e⟩| ⟨rfl,e⟩| ⟨rfl,e⟩<;>first|rfl|omega
 · rcases inv x j hx with ⟨_,rfl⟩| ⟨_,rfl⟩| ⟨_,rfl⟩| ⟨_,rfl⟩| ⟨_,rfl⟩<;>omega
structure Newd (k:Nat) (cs:List (List Int)) (s:PSt):Prop where
 v:s.vars=k
 n:s.nc=cs.length
 g: ∀i,i<cs.length→s.gone i=false
 a: ∀i,i<cs.length→s.R (.a i)=cs.getD i []
 tr:s.R .tr= []
 be:s.R .be= []
theorem new_ok {k:Int} {q:Option Addr} {m d:Nat} {hs:List Sl} {cs:List (List Int)} (hc:V2 (Value.int .i64) w q hs cs) (hm:m=cs.length):
 Calls prog prop_New.id #[.agg #[.int .i64 k,.slice q m d]] w fun e w'=> (cnfB k cs=false∧e= .returned (.tuple #[.pointer none,.int .i64 1])∧Grow w w')∨
  (cnfB k cs=true∧∃ (b:Nat) (s:PSt) (H:Pt→Sl),e= .returned (.tuple #[ptrV b,.int .i64 0])∧PM w' b H s∧Good s∧Newd k.toNat cs s∧Grow w w'∧∀x j,own b H x=some j→w.heap.size≤j):=by
 refine prop_New.calls ?_
 intro n1 w2 h2
 have V2':=hc.grow h2.mod
 refine ⟨_,_,_,_,⟨cell_add h2.has rfl,cell_add h2.has rfl,trivial⟩,(checkCnf_ok V2' hm).mono ?_⟩
 rintro e w5 ⟨rfl,g5⟩
 refine ⟨_,rfl,?_⟩
 cases hcn:cnfB k cs with
 |false=>exact cnd_t rfl (.inl ⟨rfl,rfl,h2.mod.trans g5⟩)
 |true=>
 have hb:0≤k∧k≤1048576∧cs.length≤262144:=by
  unfold cnfB at hcn
  simp only [Bool.and_eq_true,decide_eq_true_eq] at hcn
  exact hcn.1
 obtain ⟨kn,rfl⟩: ∃kn:Nat,k=kn:=⟨k.toNat,by omega⟩
 have hk:kn≤1048576:=by omega
 have H5:=h2.has.grow g5
 have e1:IntKind.i64.wrap ((kn:Int)+1)=((kn+1:Nat):Int):=wN rfl (by omega)
 have e2:IntKind.i64.wrap (2* ((kn+1:Nat):Int))=((2* (kn+1):Nat):Int):=wN (by omega) (by omega)
 refine cnd_f rfl ⟨_,cell_add H5 rfl,?_⟩
 rw [e1,e2]
 have z0:Zn w5.drew kn w5.drew []:=⟨Mod.refl _,fun t g h=>by simp at h,fun t t' g h=>by simp at h⟩
 refine ⟨fun p u=> ∃ (n:Nat) (H:Pt→Sl),p=(⟨n,0,none⟩:Addr)∧PM u n H (PSt.new kn)∧Grow w5 u∧∀x j,own n H x=some j→w5.heap.size≤j,?_,?_⟩
 · refine ⟨fun u=>Grow w5.drew u,Mod.refl _,_,fun u g=>cell_add (H5.drew.grow g) rfl,?_⟩
   have fin: ∀ {u u':World} {L:List (Nat × Nat)} {a v l r t t' n:Nat},Zn w5.drew kn u L→(0,a)∈L→(1,v)∈L→(t+2,l)∈L→(t'+2,r)∈L→t≠t'→
    New (.cells #[.int .i64 kn,.slice none 0 0,.slice (some ⟨a,0,none⟩) (2* (kn+1)) (2* (kn+1)),.slice (some ⟨v,0,none⟩) (kn+1) (kn+1),.slice (some ⟨l,0,none⟩) (kn+1) (kn+1),.slice (some ⟨r,0,none⟩) (kn+1) (kn+1),.slice none 0 0,.slice none 0 0,.slice none 0 0,.int .i64 0,.slice none 0 0] ty_prop_Prop) u n u'→
    ∃ (n':Nat) (H:Pt→Sl),Addr.mk n 0 none=(⟨n',0,none⟩:Addr)∧PM u' n' H (PSt.new kn)∧Grow w5 u'∧∀x j,own n' H x=some j→w5.heap.size≤j:=by
    intro u u' L a v l r t t' n z ha hv hl hr ht h
    obtain ⟨p1,p2,p3⟩:=z.pm ha hv hl hr ht h
    exact ⟨n,_,rfl,p1,(Mod.refl w5).drew.trans p2,fun x j e=>p3 x j e⟩
   repeat' first
    | (with_reducible refine Zn.m0 (L:=_) (by assumption) hk rfl fun u z=> ⟨z.g,?_⟩)
    | (with_reducible refine Zn.m1 (L:=_) (by assumption) hk rfl fun u z=> ⟨z.g,?_⟩)
    | (with_reducible refine Zn.m2 (L:=_) (by assumption) hk rfl fun u z=> ⟨z.g,?_⟩)
    | (intro n w' h
       exact fin (by assumption) (by first|exact List.mem_cons_self .. |exact List.mem_cons_of_mem _ (List.mem_cons_self ..)|exact List.mem_cons_of_mem _ (List.mem_cons_of_mem _ (List.mem_cons_self ..))|exact List.mem_cons_of_mem _ (List.mem_cons_of_mem _ (List.mem_cons_of_mem _ (List.mem_cons_self ..)))) (by first|exact List.mem_cons_self .. |exact List.mem_cons_of_mem _ (List.mem_cons_self ..)|exact List.mem_cons_of_mem _ (List.mem_cons_of_mem _ (List.mem_cons_self ..))|exact List.mem_cons_of_mem _ (List.mem_cons_of_mem _ (List.mem_cons_of_mem _ (List.mem_cons_self ..)))) (by first|exact List.mem_cons_self .. |exact List.mem_cons_of_mem _ (List.mem_cons_self ..)|exact List.mem_cons_of_mem _ (List.mem_cons_of_mem _ (List.mem_cons_self ..))|exact List.mem_cons_of_mem _ (List.mem_cons_of_mem _ (List.mem_cons_of_mem _ (List.mem_cons_self ..)))) (by first|exact List.mem_cons_self .. |exact List.mem_cons_of_mem _ (List.mem_cons_self ..)|exact List.mem_cons_of_mem _ (List.mem_cons_of_mem _ (List.mem_cons_self ..))|exact List.mem_cons_of_mem _ (List.mem_cons_of_mem _ (List.mem_cons_of_mem _ (List.mem_cons_self ..)))) (by simp) h)
    |with_reducible refine And.intro ?_ ?_
 · rintro _ w188 _ ⟨b,H,rfl,p0,g0,f0⟩
   have H188:=H5.grow g0
   have V0:=(V2'.grow g5)
   refine ⟨_,_,_,cell_add H188 rfl,?_⟩
   have kz:=new_good hk
   refine ⟨fun V u z=> ∃ (v:Nat) (s:PSt) (H':Pt→Sl),V=v∧v≤cs.length∧z=cs.length - v∧Pw w188 u b H H' s∧Good s∧Newd kn (cs.take v) s,⟨_,0,PSt.new kn,H,rfl,Nat.zero_le _,rfl,Pw.refl p0 (Mod.refl _),kz,⟨rfl,by simp [PSt.new],fun i hi=>by simp at hi,fun i hi=>by simp at hi,rfl,rfl⟩⟩,?_⟩
   rintro V u z _ ⟨v,s,H',rfl,hv,rfl,Pu,gs,nw⟩
   have hu:=Pu.pm
   have vV:V2 (Value.int .i64) u q hs cs:=(V0.grow g0).young (w0:=w5) V0.ltN Pu.mod fun k ⟨x,e⟩=>f0 x k e
   refine cnd_i (fun r=> ?_) (fun r=> ?_)
   · have r:v<cs.length:=by rw [hm] at r;simpa using r
     refine vV.ix (by omega) hm (by omega) fun a sl h1 h0 k2 h3 h4=> ⟨_,_,_,h1,?_⟩
     rw [Int.toNat_natCast] at k2 h4
     refine (add_ok hu gs h4 k2 h3).mono ?_
     rintro e w197 ⟨r1,r2,rfl,s',H2,P2,g2,hr⟩
     have hcl:okC s.vars (cs.getD v [])=true:=by
      have:=hcn
      unfold cnfB at this
      simp only [Bool.and_eq_true] at this
      have hmem:cs.getD v []∈cs:=by simp [List.getD,r]
      have hh:=List.all_eq_true.1 this.2 _ hmem
      simp only [Bool.and_eq_true] at hh
      unfold okC
      rw [hh.1,Bool.true_and,List.all_eq_true]
      intro x hx
      unfold isB
      have h5:=(clB_all hh.1).1 x hx
      have h6:=List.all_eq_true.1 hh.2 x hx
      rw [h5,nw.v]
      simpa using h6
     have hnc:s.nc<262144:=by rw [nw.n,List.length_take];omega
     have hA:Added s (cs.getD v []) s':=by
      rcases hr with ⟨_,_,h,_⟩| ⟨_,_,_,h,_⟩| ⟨_,_,_,_,h⟩
      · rw [hcl] at h;cases h
      · omega
      · exact h
     have hnv:s.nc=v:=by rw [nw.n,List.length_take];omega
     refine ⟨_,_,rfl,_,?_,v+1,s',H2,wN (by omega) (by omega),r,rfl,Pu.trans P2,g2,⟨hA.v.trans nw.v,by rw [hA.n,hnv,List.length_take];omega,fun i hi=> ?_,fun i hi=> ?_,hA.tr.trans nw.tr,hA.be.trans nw.be⟩⟩
     · omega
     · rw [hA.g]
       rw [List.length_take] at hi
       split
       · rfl
       · exact nw.g i (by rw [List.length_take];omega)
     · rw [hA.a]
       rw [List.length_take] at hi
       have e5:(cs.take (v+1)).getD i []=cs.getD i []:=by
        simp only [List.getD_eq_getElem?_getD,List.getElem?_take]
        rw [if_pos (by omega)]
       rw [e5,hnv]
       split
       · rename_i e;rw [e]
       · rw [nw.a i (by rw [List.length_take];omega)]
         simp only [List.getD_eq_getElem?_getD,List.getElem?_take]
         rw [if_pos (by omega)]
   · have r:v=cs.length:=by rw [hm] at r;simp at r;omega
     subst r
     rw [List.take_length] at nw
     refine .inr ⟨rfl,b,s,H',rfl,hu,gs,nw,?_,fun x j e=> ?_⟩
     · exact (h2.mod.trans (g5.trans g0)).then Pu.mod fun k hk ⟨x,e⟩=>by
        have:=f0 x k e
        have:=(h2.mod.trans g5).size
        omega
     · have:=(h2.mod.trans g5).size
       rcases Pu.ft x j e with ⟨y,e2⟩|e2
       · have:=f0 y j e2;omega
       · have:=g0.size;omega
end Go.Proofs.YtabengnadcleeaaGreat.W
