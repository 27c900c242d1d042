/- Layer 7: what is worked on, in memory; clauses by numbers of one's own. -/
import Derived.Test.YtenmibfmhccmiaaGreatRupA
import Derived.Test.YtenmibfmhccmiaaGreatFwMore
set_option linter.unusedVariables false
set_option linter.unusedSimpArgs false
namespace Go.Proofs.YtenmibfmhccmiaaGreat.W
open Go Go.Fw Go.RowKit Go.SoP Go.LiP
variable {W w w' w0 w2 w3:World} {nb b ib ab:Nat} {vars:Int} {id:List (Int × Int)} {H H' H2:Pt→Sl} {s t u s':PSt} {lp:Option Addr} {lc:Nat} {ls:List Int} {sm:List (Int × Sl)} {cl:Int→List Int} {cp:Option Addr} {n cc:Nat} {c:List Int}
def cod (id:List (Int × Int)) (x:Int):Int:=if x<0 then -((al id (amt x)).getD 0) else (al id (amt x)).getD 0
structure Idn (id:List (Int × Int)):Prop where
 nd:(id.map (·.1)).Nodup
 idn: ∀j,j<id.length→(id.getD j (0,0)).2=((j+1:Nat):Int)
 idk: ∀x∈id,1≤x.1∧x.1≤1048576
def Nt (id:List (Int × Int)) (x:Int):Prop:=x≠0∧(al id (amt x)).isSome
theorem Idn.get (h:Idn id) {x:Int} {v:Int} (hv:al id x=some v): ∃j,j<id.length∧id.getD j (0,0)=(x,v)∧v=((j+1:Nat):Int):=by
 obtain ⟨j,hj,e⟩:=List.mem_iff_getElem.1 (al_mem hv)
 have e:id.getD j (0,0)=(x,v):=by simp [List.getD,hj,e]
 have:=h.idn j hj
 rw [e] at this
 exact ⟨j,hj,e,this⟩
theorem cod_neg {x:Int} (hx:x≠0):cod id (-x)= -cod id x:=by
 unfold cod
 rw [amt_neg]
 by_cases h:x<0
 · rw [if_neg (by omega),if_pos h];omega
 · rw [if_pos (by omega),if_neg h]
theorem Idn.cod (h:Idn id):Cod (Nt id) (cod id):=by
 have al0:al id 0=none:=al_none.2 fun x hx=>by have:=h.idk x hx;omega
 have val: ∀x,Nt id x→∃v j:Nat,al id (amt x)=some (v:Int)∧v=j+1∧j<id.length∧id.getD j (0,0)=(amt x,(v:Int)):=fun x hx=>by
  obtain ⟨v,hv⟩:=Option.isSome_iff_exists.1 hx.2
  obtain ⟨j,hj,e,rfl⟩:=h.get hv
  exact ⟨j+1,j,hv,rfl,hj,e⟩
 refine ⟨fun x=> ?_,fun x y hx hy e=> ?_,fun x hx=> ?_,fun x hx=> ⟨by have:=hx.1;omega,by rw [amt_neg];exact hx.2⟩,fun h=>h.1 rfl⟩
 · by_cases hx:x=0
   · subst hx
     unfold Go.Proofs.YtenmibfmhccmiaaGreat.W.cod
     have:amt 0=0:=by decide
     simp [this,al0]
   · exact cod_neg hx
 · obtain ⟨v,j,h1,h2,h3,h4⟩:=val x hx
   obtain ⟨v',j',h1',h2',h3',h4'⟩:=val y hy
   unfold Go.Proofs.YtenmibfmhccmiaaGreat.W.cod at e
   rw [h1,h1'] at e
   simp only [Option.getD_some] at e
   have hj:j=j'∧(x<0↔y<0):=by
    split at e<;>split at e<;>omega
   have ha:amt x=amt y:=by
    rw [hj.1] at h4
    rw [h4] at h4'
    exact (Prod.mk.inj h4').1
   have:=hx.1
   rcases amt_eq ha with e2|e2<;>omega
 · obtain ⟨v,j,h1,h2,_,_⟩:=val x hx
   unfold Go.Proofs.YtenmibfmhccmiaaGreat.W.cod
   rw [h1]
   simp only [Option.getD_some]
   split<;>omega
theorem Idn.inv (h:Idn id) {x:Int} (hx:Nt id x):InV id.length (Go.Proofs.YtenmibfmhccmiaaGreat.W.cod id x):=by
 obtain ⟨v,hv⟩:=Option.isSome_iff_exists.1 hx.2
 obtain ⟨j,hj,e,rfl⟩:=h.get hv
 unfold Go.Proofs.YtenmibfmhccmiaaGreat.W.cod InV
 rw [hv]
 simp only [Option.getD_some]
 split<;>omega
structure RB (W w:World) (nb b ib ab:Nat) (vars:Int) (id:List (Int × Int)) (H:Pt→Sl) (s:PSt) (lp:Option Addr) (lc:Nat) (ls:List Int) (sm:List (Int × Sl)) (cl:Int→List Int):Prop where
 st:Has w nb #[.int .i64 vars,.map (some ib),ptrV b,.slice lp ls.length lc,.map (some ab)]
 pm:PM w b H s
 g:Good s
 im:MV (Value.int .i64) w ib id
 am:MV Sl.v w ab sm
 lo:OwI ty_int w lp lc ls
 rw: ∀x∈sm,x.2.n=(cl x.1).length∧x.2.n≤maxLen∧Vw (Value.int .i64) w x.2.p (cl x.1)
 d1: ∀x k,own b H x=some k→k≠nb∧k≠ib∧k≠ab∧blk lp≠some k
 d2:nb≠ib∧nb≠ab∧ib≠ab∧blk lp≠some nb∧blk lp≠some ib∧blk lp≠some ab
 d3: ∀x∈sm,0<x.2.n→∀k,blk x.2.p=some k→k≠nb∧k≠ib∧k≠ab∧blk lp≠some k∧∀y,own b H y≠some k
 wg:Grow W w
 wy:W.heap.size≤nb∧W.heap.size≤ib∧W.heap.size≤ab∧(∀k,blk lp=some k→W.heap.size≤k)∧∀x k,own b H x=some k→W.heap.size≤k
 be:s.R .be= []
 idn:Idn id
 sv:s.vars=id.length
 nd:ls.Nodup
 th: ∀i:Nat,s.There i↔(i:Int)∈ls
 l0: ∀i∈ls,0≤i
 lk: ∀i∈ls,(al sm i).isSome
 cd: ∀i:Nat,s.There i→s.R (.a i)=(cl i).map (cod id)
 lt: ∀i∈ls,∀x∈cl i,litB x=true∧Nt id x
 ln: ∀i∈ls,(cl i).length≤4096
 ask: ∀x∈sm,0≤x.1∧x.1<s.nc
 ll:ls.length≤s.nc
theorem RB.grow (h:RB W w nb b ib ab vars id H s lp lc ls sm cl) (m:Grow w w'):RB W w' nb b ib ab vars id H s lp lc ls sm cl:=
 ⟨h.st.grow m,h.pm.grow m,h.g,h.im.grow m,h.am.grow m,h.lo.grow m,fun x hx=> ⟨(h.rw x hx).1,(h.rw x hx).2.1,(h.rw x hx).2.2.grow m⟩,h.d1,h.d2,h.d3,h.wg.trans m,h.wy,h.be,h.idn,h.sv,h.nd,h.th,h.l0,h.lk,h.cd,h.lt,h.ln,h.ask,h.ll⟩
theorem RB.drew (h:RB W w nb b ib ab vars id H s lp lc ls sm cl):RB W w.drew nb b ib ab vars id H s lp lc ls sm cl:=h.grow (Mod.refl w).drew
theorem RB.prop (h:RB W w nb b ib ab vars id H s lp lc ls sm cl) (P:Pw w w' b H H' s') (g:Good s') (hv:s'.vars=s.vars) (hn:s'.nc=s.nc) (hg:s'.gone=s.gone) (ha: ∀i,s'.R (.a i)=s.R (.a i)) (hb:s'.R .be= []):
 RB W w' nb b ib ab vars id H' s' lp lc ls sm cl:=by
 have no: ∀ {k:Nat},(∀x,own b H x≠some k)→¬∃x,own b H x=some k:=fun h ⟨x,e⟩=>h x e
 have n1: ∀x,own b H x≠some nb:=fun x e=> (h.d1 x _ e).1 rfl
 have n2: ∀x,own b H x≠some ib:=fun x e=> (h.d1 x _ e).2.1 rfl
 have n3: ∀x,own b H x≠some ab:=fun x e=> (h.d1 x _ e).2.2.1 rfl
 have hth: ∀i,s'.There i↔s.There i:=fun i=>by unfold PSt.There;rw [hn,hg]
 have hll:=h.st.lt
 refine ⟨h.st.keep P.mod (no n1),P.pm,g,h.im.keep P.mod (no n2),h.am.keep P.mod (no n3),h.lo.keep P.mod fun k hk ⟨x,e⟩=> (h.d1 x k e).2.2.2 hk,fun x hx=> ?_,fun x k hk=> ?_,h.d2,fun x hx h0 k hk=> ?_,h.wg.then P.mod fun k hk ⟨x,e⟩=> ?_,⟨h.wy.1,h.wy.2.1,h.wy.2.2.1,h.wy.2.2.2.1,fun x k hk=> ?_⟩,hb,h.idn,hv.trans h.sv,h.nd,fun i=> (hth i).trans (h.th i),h.l0,h.lk,fun i hi=>by rw [ha];exact h.cd i ((hth i).1 hi),h.lt,h.ln,fun x hx=>by rw [hn];exact h.ask x hx,by rw [hn];exact h.ll⟩
 · obtain ⟨r1,r2,r3⟩:=h.rw x hx
   refine ⟨r1,r2,r3.keepN P.mod fun hne k hk ⟨y,e⟩=> (h.d3 x hx (by rw [r1];exact List.length_pos_iff.2 hne) k hk).2.2.2.2 y e⟩
 · rcases P.ft x k hk with ⟨y,e⟩|e
   · exact h.d1 y k e
   · have l1:=h.st.lt;have l2:=h.im.lt;have l3:=h.am.lt
     exact ⟨by omega,by omega,by omega,fun e2=>by have:=h.lo.lt k e2;omega⟩
 · obtain ⟨a1,a2,a3,a4,a5⟩:=h.d3 x hx h0 k hk
   refine ⟨a1,a2,a3,a4,fun y e=> ?_⟩
   rcases P.ft y k e with ⟨z,e2⟩|e2
   · exact a5 z e2
   · obtain ⟨r1,_,r3⟩:=h.rw x hx
     have:=r3.lt (fun e3=>by rw [e3] at r1;simp at r1;omega) k hk
     omega
 · have:=h.wy.2.2.2.2 x k e;omega
 · rcases P.ft x k hk with ⟨y,e⟩|e
   · exact h.wy.2.2.2.2 y k e
   · have:=h.wg.size;omega
theorem map_ii:mapV Tryz.prog ty_map_int_int ty_int ty_int=true:=by kernel_rfl
theorem map_is:mapV Tryz.prog ty_map_int_sl_int ty_int ty_sl_int=true:=by kernel_rfl
theorem zero_of {e:TypeId} {z:Value} (h:(Tryz.prog.info? e).bind (·.zero)=some z) (w:World):(zeroValue e).run Tryz.prog w= .ok z w:=by
 cases hi:Tryz.prog.info? e with
 |none=>rw [hi] at h;simp at h
 |some i=>
  rw [hi] at h
  simp at h
  unfold zeroValue
  simp only [Sem.run_bind,run_info_some hi,Result.andThen_ok,h,Sem.run_pure]
theorem zero_int (w:World):(zeroValue ty_int).run Tryz.prog w= .ok (.int .i64 0) w:=zero_of int_zero w
theorem zero_sl (w:World):(zeroValue ty_sl_int).run Tryz.prog w= .ok (.slice none 0 0) w:=zero_of sl_zero w
theorem code_ok (h:RB W w nb b ib ab vars id H s lp lc ls sm cl) (hc:Vw (Value.int .i64) w cp c) (hn:n=c.length) (hx:n≤100000) (hl: ∀x∈c,litB x=true):
 Calls Tryz.prog rup_base_code.id #[ptrV nb,.slice cp n cc] w fun e w'=> ∃ (q:Option Addr) (d:Nat),e= .returned (.slice q c.length d)∧OwI ty_int w' q d (c.map (cod id))∧Grow w w'∧∀k,blk q=some k→w.heap.size≤k:=by
 subst hn
 refine rup_base_code.calls ?_
 refine ⟨fun P N C I u z=> ∃i:Nat,I=i∧i≤c.length∧z=c.length - i∧N=((c.take i).map (cod id)).length∧OwI ty_int u P C ((c.take i).map (cod id))∧(∀k,blk P=some k→w.heap.size≤k)∧Grow w u,
  ⟨_,0,rfl,Nat.zero_le _,rfl,by simp,Ow.nil _ _ _,fun k hk=>by simp [blk] at hk,Mod.refl w⟩,?_⟩
 rintro P N C I u z _ ⟨i,rfl,hi,rfl,rfl,o,fP,gu⟩
 have hlen:((c.take i).map (cod id)).length=i:=by simp;omega
 refine cnd_i (fun r=> ?_) (fun r=> ?_)
 · have r:i<c.length:=by simpa using r
   refine (hc.grow gu).ix 0 (by omega) rfl (by omega) fun a e=> ⟨_,e,_,rfl,_,cell_add (h.st.grow gu) rfl,?_⟩
   rw [Int.toNat_natCast]
   have hlb:=hl _ (getD_mem' r)
   have hb:=litB_b2 hlb
   have hs:(c.take (i+1)).map (cod id)=(c.take i).map (cod id)++ [cod id (c.getD i 0)]:=by
    rw [List.take_add_one,List.map_append];simp [List.getD,r]
   generalize c.getD i 0=X at*
   have ea:imax X (IntKind.i64.wrap (0 - X))=amt X:=by
    rw [nw X hb];unfold imax amt;split<;>split<;>omega
   rw [ea]
   have hlk:=(h.im.grow gu).look map_ii (amt X) (zero_int u)
   have hval:((al id (amt X)).map (Value.int .i64)).getD (.int .i64 0)= .int .i64 ((al id (amt X)).getD 0):=by cases al id (amt X)<;>rfl
   rw [hval] at hlk
   have hbd:0≤(al id (amt X)).getD 0∧(al id (amt X)).getD 0≤1048576:=by
    cases hv:al id (amt X) with
    |none=>simp
    |some v=>
     obtain ⟨j,hj,_,rfl⟩:=h.idn.get hv
     have:=h.sv;have:=h.g.vmax
     simp only [Option.getD_some]
     omega
   refine ⟨_,_,hlk,cnd_i (fun r2=> ?_) (fun r2=> ?_)⟩
   · have r2:X<0:=by simpa using r2
     intro n13 w14 h14
     rw [nw _ (by omega)] at h14
     refine app_fresh (W0:=w) (o.grow h14.mod) (gu.trans h14.mod) fP (box1 h14) rfl rfl (by rw [hlen];simp;omega) fun w15 p15 c15 o15 g15 f15=> ?_
     have hc2:cod id X= -((al id (amt X)).getD 0):=by unfold cod;rw [if_pos r2]
     rw [← hc2] at o15
     refine ⟨_,by omega,i+1,wN (by omega) (by omega),r,rfl,by rw [hs];simp,by rw [hs];exact o15,f15,g15⟩
   · have r2: ¬X<0:=by simpa using r2
     intro n13 w14 h14
     refine app_fresh (W0:=w) (o.grow h14.mod) (gu.trans h14.mod) fP (box1 h14) rfl rfl (by rw [hlen];simp;omega) fun w15 p15 c15 o15 g15 f15=> ?_
     have hc2:cod id X=(al id (amt X)).getD 0:=by unfold cod;rw [if_neg r2]
     rw [← hc2] at o15
     refine ⟨_,by omega,i+1,wN (by omega) (by omega),r,rfl,by rw [hs];simp,by rw [hs];exact o15,f15,g15⟩
 · have r:i=c.length:=by simp at r;omega
   subst r
   rw [List.take_length] at o hlen
   exact ⟨P,C,by rw [List.take_length,hlen],o,gu,fP⟩
end Go.Proofs.YtenmibfmhccmiaaGreat.W
namespace Go.Proofs.YtenmibfmhccmiaaGreat.W
open Go Go.Fw Go.RowKit Go.SoP Go.LiP
variable {W w w' w0 w2 w3:World} {nb b ib ab:Nat} {vars:Int} {id:List (Int × Int)} {H H' H2:Pt→Sl} {s t u s':PSt} {lp:Option Addr} {lc:Nat} {ls:List Int} {sm:List (Int × Sl)} {cl:Int→List Int} {cp:Option Addr} {n cc:Nat} {c:List Int}
structure Kep (s s':PSt):Prop where
 v:s'.vars=s.vars
 n:s'.nc=s.nc
 g:s'.gone=s.gone
 a: ∀i,s'.R (.a i)=s.R (.a i)
theorem Kep.refl (s:PSt):Kep s s:=⟨rfl,rfl,rfl,fun _=>rfl⟩
theorem Kep.trans (h:Kep s t) (k:Kep t u):Kep s u:=⟨k.v.trans h.v,k.n.trans h.n,k.g.trans h.g,fun i=> (k.a i).trans (h.a i)⟩
theorem Kep.decide (s:PSt) (l:Int):Kep s (s.decide l):=by
 obtain ⟨s1,s2,s3,s4⟩:=decide_same (s:=s) l
 exact ⟨s1,s2,s3,s4⟩
theorem Kep.ext (h:Ext s t):Kep s t:=⟨h.v,h.n,h.g,h.a⟩
theorem Kep.back (s:PSt) (L:Nat):Kep s (s.back L):=by
 obtain ⟨s1,s2,s3,s4,_⟩:=back_same (s:=s) L
 exact ⟨s1,s2,s3,s4⟩
theorem Kep.there (h:Kep s t) {i:Nat}:t.There i↔s.There i:=by unfold PSt.There;rw [h.n,h.g]
theorem be_decide (s:PSt) (l:Int):(s.decide l).R .be=s.R .be++ [((s.R .tr).length:Int)]:=by
 unfold PSt.decide;rw [put_R (by simp) (by simp) (by simp) (by simp)];unfold PSt.begin;rw [set_ne (by simp),set_eq]
theorem RB.cls (h:RB W w nb b ib ab vars id H s lp lc ls sm cl) (k:Kep s t) (x:List Int):x∈(ls.map cl).map (List.map (cod id))↔t.cls x:=by
 unfold PSt.cls
 rw [List.map_map,List.mem_map]
 constructor
 · rintro ⟨i,hi,rfl⟩
   have h0:=h.l0 i hi
   have hth:s.There i.toNat:=(h.th _).2 (by rw [Int.toNat_of_nonneg h0];exact hi)
   refine ⟨i.toNat,k.there.2 hth,?_⟩
   rw [k.a,h.cd _ hth,Int.toNat_of_nonneg h0]
   rfl
 · rintro ⟨i,hi,rfl⟩
   have hth:=k.there.1 hi
   exact ⟨(i:Int),(h.th i).1 hth,by rw [k.a,h.cd _ hth];rfl⟩
structure Rd (s s':PSt) (id:List (Int × Int)) (c:List Int) (j:Nat):Prop where
 g:Good s'
 k:Kep s s'
 dt:s'.dec=s'.R .tr
 bt:(s'.R .be).length=(s'.R .tr).length
 b0:s'.R .be≠[]→(s'.R .be).getD 0 0=0
 fw: ∀x∈c.take j,-cod id x∈s'.R .tr
 bw: ∀y∈s'.R .tr,∃x∈c.take j,y= -cod id x
theorem backD_ok {u:FrameMode} (h:PM w b H s) (g:Good s) (lev:Int):CallsD Tryz.prog prop_Prop_Back.id #[ptrV b,.int .i64 lev] u w fun e u' w'=>u'=u∧e= .returned (.tuple #[])∧∃H',Pw w w' b H H' (if (max 0 lev).toNat< (s.R .be).length then s.back (max 0 lev).toNat else s):=
 prop_Prop_Back.callsD (R:=fun e w'=>e= .returned (.tuple #[])∧∃H',Pw w w' b H H' (if (max 0 lev).toNat< (s.R .be).length then s.back (max 0 lev).toNat else s)) (back_w h g lev)
theorem RB.backs (h:RB W w nb b ib ab vars id H s lp lc ls sm cl) (P:Pw w w2 b H H2 t) (g:Good t) (k:Kep s t) (hb0:t.R .be≠[]→(t.R .be).getD 0 0=0) {R:World→Prop}
 (hR: ∀w' H' s',RB W w' nb b ib ab vars id H' s' lp lc ls sm cl→Pw w w' b H H' s'→s'.nc=s.nc→(t.R .be≠[]→s'.R .tr= [])→R w'):
 CallsD Tryz.prog prop_Prop_Back.id #[ptrV b,.int .i64 0] .returning w2 fun e u w'=>u= .returning∧∃v:Value,e= .returned v∧R w':=by
 refine (backD_ok P.pm g 0).mono ?_
 rintro e u w' ⟨rfl,rfl,H',P'⟩
 refine ⟨rfl,_,rfl,?_⟩
 have hz:(max (0:Int) 0).toNat=0:=rfl
 rw [hz] at P'
 have PP:=P.trans P'
 by_cases hb:0< (t.R .be).length
 · rw [if_pos hb] at PP
   have hbe:=hb0 (List.length_pos_iff.1 hb)
   obtain ⟨_,_,_,_,e1,e2⟩:=back_same (s:=t) 0
   have kk:=k.trans (Kep.back t 0)
   refine hR _ _ _ (h.prop PP (back_good g hb) kk.v kk.n kk.g kk.a (by rw [e1];rfl)) PP kk.n fun _=> ?_
   rw [e2,hbe];rfl
 · rw [if_neg hb] at PP
   have hbe:t.R .be= []:=List.eq_nil_of_length_eq_zero (by omega)
   exact hR _ _ _ (h.prop PP g k.v k.n k.g k.a hbe) PP k.n fun e=>absurd hbe e
theorem unit_ok (h:RB W w nb b ib ab vars id H s lp lc ls sm cl) (htr:s.R .tr= []) (hc:Vw (Value.int .i64) w cp c) (hn:n=c.length) (hx:n≤100000) (hl: ∀x∈c,litB x=true) (hN: ∀x∈c,Nt id x):
 Calls Tryz.prog rup_base_unit.id #[ptrV nb,.slice cp n cc] w fun e w'=> ∃r:Bool,e= .returned (.bool r)∧(r=true↔uB (ls.map cl) c)∧∃H' s',RB W w' nb b ib ab vars id H' s' lp lc ls sm cl∧Pw w w' b H H' s'∧s'.nc=s.nc∧(c≠[]→s'.R .tr= []):=by
 have C:=h.idn.cod
 refine rup_base_unit.calls ⟨_,rfl,_,cell_add h.st rfl,(code_ok h hc hn hx hl).mono ?_⟩
 rintro e w3 ⟨q,d,rfl,o3,g3,f3⟩
 have h3:=h.grow g3
 have sv:=h.sv
 have hinv: ∀x∈c,InV s.vars (cod id x):=fun x hx=>by rw [sv];exact h.idn.inv (hN x hx)
 have noq: ∀ {k:Nat},blk q=some k→∀x,own b H x≠some k:=fun hk x e=>by have:=f3 _ hk;have:=h.pm.lt x _ e;omega
 have hncl: ∀i,i∈ls→∀x∈cl i,Nt id x:=fun i hi x hx=> (h.lt i hi x hx).2
 have uBe:uB ((ls.map cl).map (List.map (cod id))) (c.map (cod id))↔uB (ls.map cl) c:=C.uBE (fun x hx y hy=>by
  obtain ⟨i,hi,rfl⟩:=List.mem_map.1 hx
  exact hncl i hi y hy) hN
 refine ⟨_,_,_,rfl,?_⟩
 refine ⟨fun I u z=> ∃j:Nat,I=j∧j≤c.length∧z=c.length - j∧∃H' s',Pw w3 u b H H' s'∧Rd s s' id c j,⟨_,0,rfl,Nat.zero_le _,rfl,H,s,Pw.refl h3.pm (Mod.refl _),
  ⟨h.g,.refl s,by unfold PSt.dec;rw [h.be,htr];rfl,by rw [h.be,htr],fun e=>absurd h.be e,fun x hx=>by simp at hx,fun y hy=>by rw [htr] at hy;simp at hy⟩⟩,?_⟩
 rintro I u z _ ⟨j,rfl,hj,rfl,H1,s1,P1,R⟩
 have hvq:Vw (Value.int .i64) u q (c.map (cod id)):=o3.vw.keepN P1.mod fun _ k hk ⟨x,e⟩=>noq hk x e
 have stu:Has u nb _:=h3.st.keep P1.mod fun ⟨x,e⟩=> (h.d1 x _ e).1 rfl
 have k1:=R.g.wf
 refine cnd_i (fun r=> ?_) (fun r=> ?_)
 · have r:j<c.length:=by simpa using r
   have hm:=getD_mem' r
   have egd:(c.map (cod id)).getD j 0=cod id (c.getD j 0):=by simp [List.getD,r]
   have tk: ∀x,x∈c.take (j+1)↔x∈c.take j∨x=c.getD j 0:=fun x=>mem_take_succ' r
   refine hvq.ix 0 (by omega) (by simp) (by omega) fun a e=> ⟨_,e,_,rfl,_,cell_add stu rfl,?_⟩
   rw [Int.toNat_natCast,egd]
   generalize hX:c.getD j 0=X at*
   have hv:InV s1.vars (cod id X):=by rw [R.k.v];exact hinv X hm
   refine (value_ok P1.pm k1 _).mono ?_
   rintro e w14 ⟨rfl,g14⟩
   have P14:=P1.grow g14
   have hval:s1.value (cod id X)=s1.val (cod id X):=by
    unfold PSt.value;rw [(isB_iff R.g.vmax).2 hv];rfl
   rw [hval]
   refine ⟨_,rfl,cnd_i (fun r1=> ?_) (fun r1=>cnd_i (fun r2=> ?_) (fun r2=> ?_))⟩
   · have r1:s1.val (cod id X)=1:=by simpa using r1
     have hin:=(R.g.v1 _ hv).1 r1
     obtain ⟨x',hx',e⟩:=R.bw _ hin
     have hx'c:=List.mem_of_mem_take hx'
     have ex:X= -x':=C.inj _ _ (hN X hm) (C.sym _ (hN x' hx'c)) (by rw [C.neg];exact e)
     have hbe:s1.R .be≠[]:=fun e2=>by
      have:=R.bt
      rw [e2] at this
      have:=List.eq_nil_of_length_eq_zero this.symm
      rw [this] at hin;simp at hin
     refine h3.backs P14 R.g R.k R.b0 fun w' H' s' hB hP hn ht=> ⟨true,rfl,⟨fun _=> .inl (taut_iff.2 ⟨x',hx'c,ex▸hm⟩),fun _=>rfl⟩,H',s',hB,hP.pre g3,hn,fun _=>ht hbe⟩
   · have r2:s1.val (cod id X)=0:=by simpa using r2
     refine ⟨_,rfl,_,cell_add (stu.grow g14) rfl,?_⟩
     rw [nw _ (hv.bd R.g.vmax)]
     have hv0:s1.val (-cod id X)=0:=by rw [val_neg hv,r2];rfl
     refine (decide_ok P14.pm R.g (-cod id X)).mono ?_
     rintro e w21 ⟨r,rfl,H',hd⟩
     obtain ⟨rfl,P⟩:r=0∧Pw w14 w21 b H1 H' (s1.decide (-cod id X)):=hd.elim (fun h=> ⟨h.1,h.2.2.2⟩) fun h=>absurd ⟨hv.neg,hv0⟩ h.2.1
     have etr:=tr_decide (s:=s1) (-cod id X)
     have ebe:=be_decide s1 (-cod id X)
     refine ⟨_,rfl,_,by omega,j+1,wN (by omega) (by omega),r,rfl,H',_,P14.trans P,⟨decide_good R.g hv.neg hv0,R.k.trans (.decide s1 _),by rw [dec_decide R.g,R.dt,etr],by rw [ebe,etr];simp [R.bt],fun _=> ?_,fun x hx=> ?_,fun y hy=> ?_⟩⟩
     · rw [ebe]
       cases hbe:s1.R .be with
       |nil=>
        have:=R.bt
        rw [hbe] at this
        rw [← this];rfl
       |cons y l=>
        have:=R.b0 (by rw [hbe];simp)
        rw [hbe] at this
        simpa using this
     · rw [etr]
       rcases (tk x).1 hx with hx|rfl
       · exact List.mem_append_left _ (R.fw x hx)
       · simp
     · rw [etr] at hy
       rcases List.mem_append.1 hy with hy|hy
       · obtain ⟨x,hx,e⟩:=R.bw y hy
         exact ⟨x,(tk x).2 (.inl hx),e⟩
       · rw [List.mem_singleton] at hy
         exact ⟨X,(tk X).2 (.inr rfl),hy⟩
   · have r1: ¬s1.val (cod id X)=1:=by simpa using r1
     have r2: ¬s1.val (cod id X)=0:=by simpa using r2
     have hm1:s1.val (cod id X)= -1:=by
      rcases PSt.val_bd k1 (cod id X) with e|e|e
      · exact absurd e r2
      · exact absurd e r1
      · exact e
     have hin:=(R.g.vm hv).1 hm1
     refine ⟨_,by omega,j+1,wN (by omega) (by omega),r,rfl,H1,s1,P14,⟨R.g,R.k,R.dt,R.bt,R.b0,fun x hx=> ?_,fun y hy=> ?_⟩⟩
     · rcases (tk x).1 hx with hx|rfl
       · exact R.fw x hx
       · exact hin
     · obtain ⟨x,hx,e⟩:=R.bw y hy
       exact ⟨x,(tk x).2 (.inl hx),e⟩
 · have r:j=c.length:=by simp at r;omega
   subst r
   refine ⟨_,rfl,_,cell_add stu rfl,(run_ok P1.pm R.g).mono ?_⟩
   rintro e w25 ⟨r,rfl,s2,H2,P2,g2,x,ht⟩
   have PP:=P1.trans P2
   have kk:=R.k.trans (.ext x)
   have fw: ∀x∈c,-cod id x∈s1.R .tr:=fun x hx=>R.fw x (by rw [List.take_length];exact hx)
   have bw: ∀y∈s1.R .tr,∃x∈c,y= -cod id x:=fun y hy=>by
    obtain ⟨x,hx,e⟩:=R.bw y hy
    exact ⟨x,List.mem_of_mem_take hx,e⟩
   have hnt:taut (c.map (cod id))=false:=by
    rw [← Bool.not_eq_true,C.tautE hN,taut_iff]
    rintro ⟨x,hx,hx'⟩
    have a1:=fw x hx
    have a2:=fw _ hx'
    rw [C.neg,Int.neg_neg] at a2
    exact R.g.cons a2 a1
   have hdec:s2.dec=s1.R .tr:=by rw [dec_ext R.g x,R.dt]
   have key:=told_uB (cs:=(ls.map cl).map (List.map (cod id))) g2 ht (fun x=>h.cls kk x) hnt (fun y hy=>by
    obtain ⟨z,hz,rfl⟩:=List.mem_map.1 hy
    exact x.mem (fw z hz)) (fun y hy=>by
    rw [hdec] at hy
    obtain ⟨z,hz,rfl⟩:=bw y hy
    rw [Int.neg_neg]
    exact List.mem_map_of_mem hz)
   refine ⟨_,rfl,h3.backs PP g2 kk (by rw [x.be];exact R.b0) fun w' H' s' hB hP hn ht=> ⟨_,rfl,?_,H',s',hB,hP.pre g3,hn,fun hne=>ht ?_⟩⟩
   · rw [decide_eq_true_eq,key,uBe]
   · rw [x.be]
     intro e2
     have:=R.bt
     rw [e2] at this
     have hnil:=List.eq_nil_of_length_eq_zero this.symm
     have:=fw _ (List.head_mem hne)
     rw [hnil] at this;simp at this
end Go.Proofs.YtenmibfmhccmiaaGreat.W
namespace Go.Proofs.YtenmibfmhccmiaaGreat.W
open Go Go.Fw Go.RowKit Go.SoP Go.LiP
variable {W w w' w0 w2 w3:World} {nb b ib ab:Nat} {vars:Int} {id:List (Int × Int)} {H H' H2:Pt→Sl} {s t u s':PSt} {lp:Option Addr} {lc:Nat} {ls:List Int} {sm:List (Int × Sl)} {cl:Int→List Int} {cp:Option Addr} {n cc:Nat} {c:List Int}
theorem RB.look (h:RB W w nb b ib ab vars id H s lp lc ls sm cl) {J:Int} (hJ:J∈ls): ∃sl:Sl,al sm J=some sl∧(Instr.lookup ty_map_int_sl_int (.map (some ab)) (.int .i64 J) false).run Tryz.prog w= .ok (.slice sl.p sl.n sl.c) w∧(J,sl)∈sm∧sl.n=(cl J).length∧Vw (Value.int .i64) w sl.p (cl J):=by
 obtain ⟨sl,hsl⟩:=Option.isSome_iff_exists.1 (h.lk J hJ)
 obtain ⟨r1,r2,r3⟩:=h.rw (J,sl) (al_mem hsl)
 have hlk:=h.am.look map_is J (zero_sl w)
 rw [hsl] at hlk
 exact ⟨sl,hsl,hlk,al_mem hsl,r1,r3⟩
theorem wo_snoc (l:List Int) (y x:Int):wo (l++ [y]) x=wo l x++ (if y=x then [] else [y]):=by
 unfold wo
 rw [List.filter_append,List.filter_cons,List.filter_nil]
 by_cases e:y=x
 · subst e;simp
 · simp [e]
theorem first_ok (h:RB W w nb b ib ab vars id H s lp lc ls sm cl) (htr:s.R .tr= []) (hc:Vw (Value.int .i64) w cp c) (hn:n=c.length) (hx:n≤90000) (hl: ∀x∈c,litB x=true) (hN: ∀x∈c,Nt id x) (ho:c≠[]→∀k,blk cp=some k→∀x,own b H x≠some k):
 Calls Tryz.prog rup_base_first.id #[ptrV nb,.slice cp n cc] w fun e w'=> ∃r:Bool,e= .returned (.bool r)∧(r=true↔fB (ls.map cl) c)∧∃H' s',RB W w' nb b ib ab vars id H' s' lp lc ls sm cl∧Pw w w' b H H' s'∧s'.nc=s.nc∧s'.R .tr= []:=by
 subst hn
 refine rup_base_first.calls (cnd_i (fun r=> ?_) (fun r=> ?_))
 · have r:c= []:=by
    have:(c.length:Int)=0:=by simpa using r
    exact List.eq_nil_of_length_eq_zero (by omega)
   exact ⟨false,rfl,⟨fun e=> (by cases e),fun h=>absurd r h.1⟩,H,s,h,Pw.refl h.pm (Mod.refl w),rfl,htr⟩
 have hne:0<c.length:=by
  have:(c.length:Int)≠0:=by simpa using r
  omega
 have hne':c≠[]:=List.length_pos_iff.1 hne
 have hb0:=litB_b2 (hl _ (getD_mem' hne))
 refine ⟨_,rfl,_,_,_,cell_add h.st rfl,?_⟩
 refine ⟨fun I u z=> ∃i:Nat,I=i∧i≤ls.length∧z=ls.length - i∧(∃H1 s1,RB W u nb b ib ab vars id H1 s1 lp lc ls sm cl∧Pw w u b H H1 s1∧s1.nc=s.nc∧s1.R .tr= [])∧
  ∀j∈ls.take i,-(c.getD 0 0)∈cl j→(resF c (cl j)).length≤4096∧uB (ls.map cl) (resF c (cl j)),
  ⟨_,0,rfl,Nat.zero_le _,rfl,⟨H,s,h,Pw.refl h.pm (Mod.refl w),rfl,htr⟩,fun j hj=>by simp at hj⟩,?_⟩
 rintro I u z _ ⟨i,rfl,hi,rfl,⟨H1,s1,h1,P1,n1,t1⟩,hall⟩
 have hcu:Vw (Value.int .i64) u cp c:=hc.keepN P1.mod fun hne k hk ⟨x,e⟩=>ho hne k hk x e
 refine cnd_i (fun r=> ?_) (fun r=> ?_)
 · have r:i<ls.length:=by simpa using r
   have hm:=getD_mem' r
   have tk: ∀x,x∈ls.take (i+1)↔x∈ls.take i∨x=ls.getD i 0:=fun x=>mem_take_succ' r
   refine h1.lo.vw.ix 0 (by omega) rfl (by omega) fun a e=> ⟨_,e,?_⟩
   rw [Int.toNat_natCast]
   generalize hJ:ls.getD i 0=J at*
   have hd:=h1.drew
   obtain ⟨sl,hsl,hlk,hsm,hsn,hsv⟩:=hd.look hm
   have hll:=h1.ll;have hnc:=h1.g.ncm
   have hcl':=h1.ln J hm
   refine ⟨fun v=>v=u.drew,rfl,_,rfl,_,fun v e=>e▸cell_add hd.st rfl,_,_,_,_,hlk,rfl,hcu.ix 0 (by omega) rfl (by omega) fun a2 e2=> ⟨_,fun v e=>by subst e;exact e2,?_⟩⟩
   rw [show ((0:Int).toNat)=0 from rfl,nw _ hb0]
   refine (contains_ok hsv hsn (by rw [hsn];unfold maxLen;omega) _).mono ?_
   rintro e w10 ⟨rfl,g10⟩
   have P10:=P1.grow (((Mod.refl u).drew:Grow u u.drew).trans g10)
   have h10:=hd.grow g10
   refine ⟨_,rfl,cnd_i (fun r2=> ?_) (fun r2=> ?_)⟩
   · have r2: -(c.getD 0 0) ∉ cl J:=by simpa using r2
     refine ⟨_,by omega,i+1,wN (by omega) (by omega),r,rfl,⟨H1,s1,h10,P10,n1,t1⟩,fun j hj h2=> ?_⟩
     rcases (tk j).1 hj with h3|rfl
     · exact hall j h3 h2
     · exact absurd h2 r2
   · have r2: -(c.getD 0 0)∈cl J:=by simpa using r2
     have hc10:Vw (Value.int .i64) w10 cp c:=hc.keepN P10.mod fun hne k hk ⟨x,e⟩=>ho hne k hk x e
     refine (clone_ok hc10 rfl (by omega)).mono ?_
     rintro e w19 ⟨q,d,rfl,o19,g19,f19⟩
     have h19:=h10.grow g19
     have P19:=P10.grow g19
     obtain ⟨sl2,hsl2,hlk2,_,hsn2,_⟩:=h19.look hm
     obtain rfl:sl=sl2:=Option.some.inj (hsl.symm.trans hsl2)
     have hsv2:=hsv.grow g10
     refine ⟨q,_,d,rfl,_,rfl,_,cell_add h19.st rfl,_,_,_,_,hlk2,?_⟩
     refine ⟨fun P N C I u z=> ∃k:Nat,I=k∧k≤(cl J).length∧z=(cl J).length - k∧N=(c++wo ((cl J).take k) (-(c.getD 0 0))).length∧OwI ty_int u P C (c++wo ((cl J).take k) (-(c.getD 0 0)))∧(∀y,blk P=some y→w10.heap.size≤y)∧Grow w10 u,
      ⟨_,0,rfl,Nat.zero_le _,rfl,by simp [wo],by simpa [wo] using o19,f19,g19⟩,?_⟩
     rintro P N C I v z _ ⟨k,rfl,hk,rfl,rfl,o,f,g⟩
     have hv:=h10.grow g
     have hcv:=hc10.grow g
     refine cnd_i (fun r3=> ?_) (fun r3=> ?_)
     · have r3:k< (cl J).length:=by rw [hsn2] at r3;simpa using r3
       have hwl:=wo_len (l:=(cl J).take k) (x:= -(c.getD 0 0))
       rw [List.length_take] at hwl
       refine (hsv2.grow g).ix 0 (by omega) hsn2 (by omega) fun a3 e3=> ⟨_,e3,hcv.ix 0 (by omega) rfl (by omega) fun a4 e4=> ⟨_,e4,?_⟩⟩
       rw [show ((0:Int).toNat)=0 from rfl,nw _ hb0,Int.toNat_natCast]
       have etk:(cl J).take (k+1)=(cl J).take k++ [(cl J).getD k 0]:=by
        rw [List.take_add_one];simp [List.getD,r3]
       have ew:wo ((cl J).take (k+1)) (-(c.getD 0 0))=wo ((cl J).take k) (-(c.getD 0 0))++ (if (cl J).getD k 0= -(c.getD 0 0) then [] else [(cl J).getD k 0]):=by
        rw [etk];exact wo_snoc _ _ _
       refine cnd_i (fun r4=> ?_) (fun r4=> ?_)
       · have r4: ¬(cl J).getD k 0= -(c.getD 0 0):=by simpa using r4
         intro n35 w36 h36
         rw [if_neg r4] at ew
         refine app_fresh (W0:=w10) (o.grow h36.mod) (g.trans h36.mod) f (box1 h36) rfl rfl (by simp only [List.length_append,List.length_singleton];omega) fun w37 p37 c37 o37 g37 f37=> ?_
         rw [List.append_assoc,← ew] at o37
         refine ⟨_,by omega,k+1,wN (by omega) (by omega),r3,rfl,by rw [ew,List.append_assoc],o37,f37,g37⟩
       · have r4:(cl J).getD k 0= -(c.getD 0 0):=by simpa using r4
         rw [if_pos r4,List.append_nil] at ew
         exact ⟨_,by omega,k+1,wN (by omega) (by omega),r3,rfl,by rw [ew],by rw [ew];exact o,f,g⟩
     · have r3:k=(cl J).length:=by rw [hsn2] at r3;simp at r3;omega
       subst r3
       rw [List.take_length] at o ⊢
       have Pv:=P10.grow g
       have er:c++wo (cl J) (-(c.getD 0 0))=resF c (cl J):=rfl
       rw [er] at o ⊢
       refine cnd_i (fun r4=> ?_) (fun r4=> ?_)
       · have r4:(resF c (cl J)).length>4096:=by rw [decide_eq_true_eq] at r4;omega
         refine ⟨false,rfl,⟨fun e=> (by cases e),fun h=> ?_⟩,H1,s1,hv,Pv,n1,t1⟩
         have:=(h.2 _ (List.mem_map_of_mem hm) r2).1
         omega
       · have r4:(resF c (cl J)).length≤4096:=by rw [decide_eq_false_iff_not] at r4;omega
         have hmem: ∀x∈resF c (cl J),litB x=true∧Nt id x:=fun x hx=>by
          unfold resF at hx
          rcases List.mem_append.1 hx with h|h
          · exact ⟨hl x h,hN x h⟩
          · exact h1.lt J hm x (mem_wo.1 h).1
         refine (unit_ok hv t1 o.vw rfl (by omega) (fun x hx=> (hmem x hx).1) (fun x hx=> (hmem x hx).2)).mono ?_
         rintro e w39 ⟨r,rfl,hr,H2,s2,h2,P2,n2,t2⟩
         have t2:=t2 (by unfold resF;simp [hne'])
         have PP:=Pv.trans P2
         refine ⟨_,rfl,cnd_i (fun r5=> ⟨false,rfl,⟨fun e=> (by cases e),fun h=> ?_⟩,H2,s2,h2,PP,n2.trans n1,t2⟩) (fun r5=> ⟨_,by omega,i+1,wN (by omega) (by omega),by omega,rfl,⟨H2,s2,h2,PP,n2.trans n1,t2⟩,fun j hj h3=> ?_⟩)⟩
         · have:=hr.2 (h.2 _ (List.mem_map_of_mem hm) r2).2
           rw [this] at r5;cases r5
         · rcases (tk j).1 hj with h4|rfl
           · exact hall j h4 h3
           · exact ⟨r4,hr.1 (by simpa using r5)⟩
 · have r:i=ls.length:=by simp at r;omega
   subst r
   rw [List.take_length] at hall
   exact ⟨true,rfl,⟨fun _=> ⟨hne',fun x hx=>by
    obtain ⟨j,hj,rfl⟩:=List.mem_map.1 hx
    exact hall j hj⟩,fun _=>rfl⟩,H1,s1,h1,P1,n1,t1⟩
end Go.Proofs.YtenmibfmhccmiaaGreat.W
