/- Layer 14: a conflict: what the walk needs. -/
import Derived.Test.YtabengnadcleeaaGreatLessA
namespace Go.Proofs.YtabengnadcleeaaGreat.W
open Go Go.Fw Go.RowKit Go.SoP Go.LiP Go.LeP
open Go.IntKind (i64)
section
variable {w0 w w' w1 w2 u:World} {B N i:Nat} {L L' L1:Nat→Nat} {x:Xs} {l:List Int} {cs:List (List Int)} {hv:List (Nat × List Int)} {un:List (List Int)}
theorem SR.bump (h:SR w0 w B L N x) (v:Int):Calls Tryz.prog heap_Heap_Bump.id #[Hp.ptr x.hb,.int .i64 v] w fun e w'=> ∃r:Int,e= .returned (.int .i64 r)∧∃L',SR w0 w' B L' N x∧Kp w0 w w' L L':=by
 obtain ⟨z,z1,z2,z3,z4⟩:=h.hp id
 refine (Hp.bump_ok z1 z2 v).mono ?_
 rintro e w' ⟨rfl,y,y1,y2,y3,y4⟩
 have hf:y.foot x.hb=z.foot x.hb:=by
  rw [y3.foot]
  split
  · split<;>rfl
  · rfl
 have hh: ∀u:Int,1≤u→u≤N→(0<HeapP.g y.at_ u↔x.S u):=fun u u1 u2=>by
  rw [y3.has u u1 u2,← z3 u u1 u2]
  split
  · split<;>exact Iff.rfl
  · exact Iff.rfl
 have:=h.heap z4 z1.lt y1 y2 (S':=x.S) hh y4 fun k hk=> .inl (by rw [← hf];exact hk)
 exact ⟨_,rfl,_,this.1,this.2⟩
theorem SR.decay (h:SR w0 w B L N x):Calls Tryz.prog heap_Heap_Decay.id #[Hp.ptr x.hb] w fun e w'=>e= .returned (.tuple #[])∧∃L',SR w0 w' B L' N x∧Kp w0 w w' L L':=by
 obtain ⟨z,z1,z2,z3,z4⟩:=h.hp id
 refine (Hp.decay_ok z1 z2).mono ?_
 rintro e w' ⟨rfl,y,y1,y2,y3,y4⟩
 have hf:y.foot x.hb=z.foot x.hb:=by
  rw [y3.foot]
  split<;>rfl
 have hh: ∀u:Int,1≤u→u≤N→(0<HeapP.g y.at_ u↔x.S u):=fun u u1 u2=>by
  rw [y3.has u u1 u2,← z3 u u1 u2]
  split<;>exact Iff.rfl
 have:=h.heap z4 z1.lt y1 y2 (S':=x.S) hh y4 fun k hk=> .inl (by rw [← hf];exact hk)
 exact ⟨rfl,_,this.1,this.2⟩
structure Srch (N:Nat) (cs:List (List Int)) (x:Xs):Prop where
 ci:CSI N cs x.s (x.hv.map hpr) (x.un.map (·.2))
 hi:CHI N x.s x.S
 ph:x.ph.length=N+1
 n:x.m.n=N
 okh: ∀u∈x.hv,okH u
 went:0≤x.m.went∧x.m.went≤100
 pf:PF cs x.s (x.pr.map ppr)
 mo:x.mo= []
theorem Srch.len (st:Srch N cs x):x.hv.length+x.un.length≤3 ^ N:=by
 have:=st.ci.len
 simpa using this
theorem Srch.own (st:Srch N cs x) {m':Me} (h:m'.n=x.m.n∧m'.went=x.m.went):Srch N cs {x with m:=m'}:=
 ⟨st.ci,st.hi,st.ph,by rw [h.1];exact st.n,st.okh,by rw [h.2];exact st.went,st.pf,st.mo⟩
theorem PF.backTo {s:PSt} {pr:List (Bool × List Int)} (h:PF cs s pr) (lev:Int):PF cs (backTo s lev) pr:=by
 unfold Go.Proofs.YtabengnadcleeaaGreat.W.backTo
 split
 · exact h.back
 · exact h
theorem CSI.backTo {s:PSt} (h:CSI N cs s hv un) (lev:Int):CSI N cs (backTo s lev) hv un:=by
 unfold Go.Proofs.YtabengnadcleeaaGreat.W.backTo
 split
 · exact h.back (by assumption)
 · exact h
theorem backTo_nc {s:PSt} {lev:Int}:(backTo s lev).nc=s.nc:=by unfold backTo;split<;>rfl
theorem backTo_chi {s:PSt} {S S':Int→Prop} {lev:Int} (g:Good s) (hv:s.vars=N) (h:CHI N s S) (hS: ∀v,S v→S' v) (ht: ∀y∈s.R .tr,y ∉ (backTo s lev).R .tr→S' (amt y)):CHI N (backTo s lev) S':=by
 intro v v1 v2 h0
 obtain ⟨kk,ek,ev⟩:=backTo_tr (s:=s) lev
 have hx:InV s.vars v:=⟨by omega,by omega,by omega⟩
 have hx':InV (backTo s lev).vars v:=by rw [ev];exact hx
 obtain ⟨a,b⟩:=(val0_iff (backTo_good g lev) hx').1 h0
 by_cases m1:v∈s.R .tr
 · have:=ht v m1 a
   rwa [show amt v=v by unfold amt;rw [if_neg (by omega)]] at this
 · by_cases m2: -v∈s.R .tr
   · have:=ht (-v) m2 b
     rwa [amt_neg,show amt v=v by unfold amt;rw [if_neg (by omega)]] at this
   · exact hS v (h v v1 v2 ((val0_iff g hx).2 ⟨m1,m2⟩))
theorem Srch.backTo (st:Srch N cs x) {lev:Int} {S':Int→Prop} {ph':List Int} (hp:ph'.length=N+1) (hS: ∀v,x.S v→S' v) (ht: ∀y∈x.s.R .tr,y ∉ (backTo x.s lev).R .tr→S' (amt y)):Srch N cs {x with s:=backTo x.s lev,S:=S',ph:=ph'}:=
 ⟨st.ci.backTo lev,backTo_chi st.ci.g st.ci.v st.hi hS ht,hp,st.n,st.okh,st.went,st.pf.backTo lev,st.mo⟩
theorem lrn_m {s':PSt} {sl hs us:Sl} {lv:Int}:(x.lrn s' sl l lv hs us).m=x.m:=by unfold Xs.lrn;split<;>rfl
theorem lrn_s {s':PSt} {sl hs us:Sl} {lv:Int}:(x.lrn s' sl l lv hs us).s=s':=by unfold Xs.lrn;split<;>rfl
theorem lrn_pr {s':PSt} {sl hs us:Sl} {lv:Int}:(x.lrn s' sl l lv hs us).pr=x.pr:=by unfold Xs.lrn;split<;>rfl
theorem lrn_len {s':PSt} {sl hs us:Sl} {lv:Int}:(x.lrn s' sl l lv hs us).hv.length+ (x.lrn s' sl l lv hs us).un.length=x.hv.length+x.un.length+1∧(x.lrn s' sl l lv hs us).hv.length≤x.hv.length+1:=by
 unfold Xs.lrn
 split
 · simp;omega
 · simp;omega
theorem Srch.lrn (st:Srch N cs x) {t:PSt} {S':Int→Prop} {ph':List Int} {bl:Nat} (k:LS x.s l bl) (f:Folw N cs l) (rp:RupS x.s l) (ht:t=x.s.back bl) {s':PSt} (ha:Added t l s') (g':Good s') (hp:ph'.length=N+1) (hi:CHI N t S') {sl hs us q:Sl} {sl2:Sl} {lv:Int} (hl:0≤lv∧lv≤l.length) (hx:l.length≤4096):
 Srch N cs ({x with s:=t,S:=S',ph:=ph',ps:=q,pr:=x.pr++ [(false,sl2,l)]}.lrn s' sl l lv hs us):=by
 subst ht
 have c0:=st.ci.learn k f ha g'
 have pf:=PF.add st.pf rp ha
 have hi':CHI N s' S':=by
  intro v v1 v2 h0
  have hx':InV s'.vars v:=by rw [c0.v];exact ⟨by omega,by omega,by omega⟩
  have hb:InV (x.s.back bl).vars v:=by
   have:s'.vars=(x.s.back bl).vars:=ha.v
   rw [← this];exact hx'
  have:=(val0_iff g' hx').1 h0
  rw [ha.tr] at this
  exact hi v v1 v2 ((val0_iff (back_good st.ci.g k.lt) hb).2 this)
 have pf':PF cs s' ((x.pr++ [(false,sl2,l)]).map ppr):=by rw [List.map_append];exact pf
 by_cases e:1<l.length
 · unfold Xs.lrn
   rw [if_pos e]
   refine ⟨?_,hi',hp,st.n,fun u hu=> ?_,st.went,pf',st.mo⟩
   · have:=c0.have_
     show CSI N cs s' ((x.hv++ [_]).map hpr) _
     rw [List.map_append];exact this
   · rcases List.mem_append.1 hu with hu|hu
     · exact st.okh u hu
     · rw [List.mem_singleton] at hu;subst hu
       exact ⟨hl.1,hl.2,by show (l.length:Int)≤4096;omega,hx⟩
 · unfold Xs.lrn
   rw [if_neg e]
   refine ⟨?_,hi',hp,st.n,st.okh,st.went,pf',st.mo⟩
   have:=c0.unit_
   show CSI N cs s' _ ((x.un++ [_]).map _)
   rw [List.map_append];exact this
structure Rl (N:Nat) (x x':Xs):Prop where
 nc:x'.s.nc=x.s.nc
 cf:x'.m.cf=x.m.cf
 de:x'.m.de=x.m.de
 re:x'.m.re=x.m.re
 bud:x'.m.bud=x.m.bud
 lrn:x'.m.lrn=x.m.lrn
 ver:x'.m.ver=x.m.ver
 un:x'.un.length=x.un.length
 dr:x.m.dr≤x'.m.dr∧x'.m.dr+x'.hv.length=x.m.dr+x.hv.length
 pl:x'.pr.length+x'.hv.length=x.pr.length+x.hv.length
 hv:(x'.m.went=x.m.went∧x'.hv.length=x.hv.length)∨(x.m.went<100∧x'.m.went=x.m.went+1∧x'.hv.length≤x.hv.length)
theorem due_w (h:SR w0 w B L N x) (st:Srch N cs x) (hN:N≤1000) (h3:3 ^ N≤1000000) (hq:((3 ^ N:Nat):Int)<Re.quota x.m.lrn 100) (hpl:x.pr.length≤900000000) (hdr:0≤x.m.dr∧x.m.dr≤1000000000) {K:World→Prop}
 (hk: ∀w' L' x',SR w0 w' B L' N x'→Kp w0 w w' L L'→Srch N cs x'→Rl N x x'→K w'):
 ∃a51,(some (Addr.mk B 0 none))=some a51∧∃x52p x52n x52c,w.drew.cell? (a51.add 11)=some (.slice x52p x52n x52c)∧
  ∃a53,(some (Addr.mk B 0 none))=some a53∧∃x54,w.drew.cell? ((a53.add 2).add 2)=some (.int .i64 x54)∧
  ∃a55,(some (Addr.mk B 0 none))=some a55∧∃x56,w.drew.cell? (a55.add 13)=some (.int .i64 x56)∧
  Calls Tryz.prog 62 #[.int .i64 (x52n:Int),.int .i64 x54,.int .i64 x56] w.drew fun e w57=> ∃r58,e= .returned (.bool r58)∧
  cnd r58
  (Calls Tryz.prog 59 #[.pointer (some (Addr.mk B 0 none)),.int .i64 0] w57 fun e w59=>e= .returned (.tuple #[])∧
    Calls Tryz.prog 63 #[.pointer (some (Addr.mk B 0 none))] w59 fun e w60=>e= .returned (.tuple #[])∧
    K w60)
  (K w57):=by
 have D:=h.drew
 have hhn:=(h.hv id).2.1
 have hlen:=st.len
 refine ⟨_,rfl,_,_,_,cell_add D.at rfl,_,rfl,_,cell_add2 D.at rfl,_,rfl,_,cell_add D.at rfl,(Re.Due_ok _ _ _ _).mono ?_⟩
 rintro e w57 ⟨rfl,g57⟩
 have S57:=D.grow g57
 have k57:Kp w0 w w57 L L:=Chg.grow ((Mod.refl w).drew.trans g57)
 refine ⟨_,rfl,cnd_i (fun r=> ?_) (fun r=> ?_)⟩
 · rw [Bool.and_eq_true,decide_eq_true_eq,decide_eq_true_eq,hhn] at r
   refine (cback_ok S57 st.ci.g st.ci.v hN st.ph 0).mono ?_
   rintro e w59 ⟨rfl,L59,S59,ph59,R59,k59,hp59,hs59,ht59⟩
   have st59:=st.backTo hp59 hs59 ht59
   have hw:=st.went
   have w100:x.m.went<100:=by
    refine Classical.byContradiction fun hn=> ?_
    have e1:x.m.went=100:=by omega
    rw [e1] at r
    omega
   refine ⟨rfl,(cless_ok R59 st59.ci st59.hi (by show x.hv.length≤_;omega) hpl st59.okh hdr st59.pf).mono ?_⟩
   rintro e w60 ⟨rfl,L60,s60,hv60,hs60,pr60,ps60,dr60,k60,R60,c60,i60,n60,o60,p60,le60,be60,pf60,d60,d61⟩
   have ew:imin (i64.wrap (x.m.went+1)) 100=x.m.went+1:=by
    rw [wrap64_of (by omega) (by omega)]
    unfold imin
    rw [if_neg (by omega)]
   refine ⟨rfl,hk _ _ _ R60 ((k57.trans k59).trans k60) ⟨c60,i60,hp59,st.n,o60,?_,pf60,st.mo⟩ ⟨?_,rfl,rfl,rfl,rfl,rfl,rfl,rfl,⟨d60,d61⟩,p60,.inr ⟨w100,ew,le60⟩⟩⟩
   · show 0≤imin (i64.wrap (x.m.went+1)) 100∧imin (i64.wrap (x.m.went+1)) 100≤100
     rw [ew];omega
   · rw [n60];exact backTo_nc
 · exact hk _ _ _ S57 k57 st ⟨rfl,rfl,rfl,rfl,rfl,rfl,rfl,rfl,⟨Int.le_refl _,rfl⟩,rfl,.inl ⟨rfl,rfl⟩⟩
end
section
variable {w0 w w' w1 w2 u:World} {B N i:Nat} {L L' L1:Nat→Nat} {x:Xs} {l:List Int} {cs:List (List Int)} {hv:List (Nat × List Int)} {un:List (List Int)}
structure Cfl (N:Nat) (x x':Xs):Prop where
 nc:x'.s.nc=x.s.nc+1
 cf:x'.m.cf=x.m.cf+1
 de:x'.m.de=x.m.de
 re:x'.m.re=x.m.re∨x'.m.re=x.m.re+1
 bud:x'.m.bud=x.m.bud
 lrn:x'.m.lrn=x.m.lrn
 ver:x'.m.ver=x.m.ver
 dr:x.m.dr≤x'.m.dr∧x'.m.dr+x'.hv.length≤x.m.dr+x.hv.length+1
 pl:x'.pr.length+x'.hv.length≤x.pr.length+x.hv.length+2
 ms:cmeas N x'.m.went.toNat (x'.hv.length+x'.un.length)+1≤cmeas N x.m.went.toNat (x.hv.length+x.un.length)
theorem conflict_ok (h:SR w0 w B L N x) (st:Srch N cs x) (hN:N≤1000) (h3:3 ^ N≤900000) (hq:((3 ^ N:Nat):Int)<Re.quota x.m.lrn 100) (hB:Brk x.s i) (hl:0< (x.s.R .be).length) (hnc:x.s.nc<262144) (hcf:0≤x.m.cf∧x.m.cf≤1000000000) (hre:0≤x.m.re∧x.m.re≤1000000000) (hpl:x.pr.length≤800000000) (hdr:0≤x.m.dr∧x.m.dr≤1000000000):
 Calls Tryz.prog cdcl_search_conflict.id #[ptrV B,.int .i64 i] w fun e w'=>e= .returned (.tuple #[])∧∃L' x',SR w0 w' B L' N x'∧Kp w0 w w' L L'∧Srch N cs x'∧Cfl N x x':=by
 have g:=st.ci.g
 have hlen:=st.len
 refine cdcl_search_conflict.calls ⟨_,rfl,_,cell_add2 h.at rfl,_,rfl,?_⟩
 have ecf:i64.wrap (x.m.cf+1)=x.m.cf+1:=wrap64_of (by omega) (by omega)
 rw [ecf]
 refine store_f2 h.at rfl rfl fun w4 h4 m4=> ?_
 obtain ⟨S4,k4⟩:=h.own (m':= {x.m with cf:=x.m.cf+1}) h4 m4
 refine ⟨_,rfl,_,cell_add S4.at rfl,(S4.clause g i).mono ?_⟩
 rintro e w7 ⟨q8,d8,rfl,o8,g7,f8⟩
 have his:x.s.is (i:Int)=true:=PSt.is_iff.2 ⟨by omega,by rw [Int.toNat_natCast];exact hB.1⟩
 have his2:PSt.is {x with m:= {x.m with cf:=x.m.cf+1}}.s (i:Int)=true:=his
 rw [his2,if_pos rfl,Int.toNat_natCast] at o8 ⊢
 have o8:OwI ty_int w7 q8 d8 (x.s.R (.a i)):=o8
 obtain ⟨bk,hbk⟩: ∃bk,bk=x.s.R (.a i):=⟨_,rfl⟩
 have hal:=g.al i
 rw [← hbk] at o8 hal
 show ∃r8p r8n r8c r9,Ending.returned (.tuple #[.slice q8 (x.s.R (.a i)).length d8,.bool true])=_∧_
 rw [← hbk]
 refine ⟨_,_,_,_,rfl,?_⟩
 have S7:=S4.new g7 9
 have k7:Kp w0 w4 w7 L (reL L w4.heap.size 9):=Chg.new g7 9
 have vb:Vw (Value.int .i64) w7 q8 (x.s.R (.a i)):=by rw [← hbk];exact o8.vw
 have ci4:CSI N cs ({x with m:= {x.m with cf:=x.m.cf+1}}:Xs).s (x.hv.map hpr) (x.un.map (·.2)):=st.ci
 refine (study_ok S7 ci4 hN hB hl vb (by rw [hbk])).mono ?_
 rintro e w10 ⟨q,d,l,bl,lv,rfl,ol,fl,g10,Ls,Fl,lv0,lv1⟩
 have Ls:LS x.s l bl:=Ls
 refine ⟨_,_,_,_,_,rfl,?_⟩
 obtain ⟨S10,k10⟩:SR w0 w10 B _ N _∧Kp w0 w7 w10 _ _:=⟨S7.new g10 9,Chg.new g10 9⟩
 have ro10:RO w10 (reL (reL L w4.heap.size 9) w7.heap.size 9) ⟨q,l.length,d⟩ l:=⟨rfl,ol.vw,fun k hk=> ⟨reL_new (fl k hk),ol.lt k hk⟩⟩
 have okl:=Ls.okc st.ci
 have hll:l.length≤4096:=by
  have h1:=nodup_len (n:=N+1) (l:=l.map amt) ?_ fun y hy=> ?_
  · simp at h1;omega
  · unfold List.Nodup
    rw [List.pairwise_map]
    refine List.Pairwise.imp_of_mem (fun {a b} ha hb hne e=> ?_) Ls.nd
    rcases amt_eq e with e|e
    · exact hne e
    · exact okl.nt b hb (by rw [← e];exact ha)
  · obtain ⟨z,hz,rfl⟩:=List.mem_map.1 hy
    have:=(okl.inv z hz).amt
    omega
 have okc:okC x.s.vars l=true:=okC_of (by rw [st.ci.v];omega) (fun y hy=>Ls.inv g hy) hll
 refine (clone_ok (o8.vw.grow g10) rfl (by omega)).mono ?_
 rintro e w14 ⟨q15,d15,rfl,o15,g14,f15⟩
 refine ⟨_,_,_,rfl,?_⟩
 have S14:=S10.new g14 0
 have k14:Kp w0 w10 w14 _ (reL (reL (reL L w4.heap.size 9) w7.heap.size 9) w10.heap.size 0):=Chg.new g14 0
 obtain ⟨L14,hL14⟩: ∃L14,L14=reL (reL (reL L w4.heap.size 9) w7.heap.size 9) w10.heap.size 0:=⟨_,rfl⟩
 have lab15: ∀b,blk q15=some b→L14 b=0∧w.heap.size≤b:=fun b hb=> ⟨by rw [hL14];exact reL_new (f15 b hb),by have:=f15 b hb;have:=m4.size;have:=g7.size;have:=g10.size;omega⟩
 rw [← hL14] at S14 k14
 have hw0:=h.g.size
 refine o15.appS sl_intC (ol.grow g14) rfl rfl oneInt (by omega) fun w16 p17 c17 o17 m17 hp17 hs17=> ?_
 have m17':Mod (fun k=>L14 k=0∧w0.heap.size≤k) w14 w16:=m17.mono fun b _ e=> ⟨(lab15 b e).1,by have:=(lab15 b e).2;omega⟩
 obtain ⟨S16,k16⟩:=S14.loc (L':=reL L14 w14.heap.size 0) m17' fun _ hk=>reL_old hk
 have k16:Kp w0 w14 w16 L14 (reL L14 w14.heap.size 0):=k16.weak fun i e=>by rw [e];decide
 have lab17: ∀b,blk p17=some b→reL L14 w14.heap.size 0 b=0∧w.heap.size≤b:=fun b hb=>by
  rcases hp17 with rfl|rfl
  · rw [reL_old (o15.lt b hb)];exact lab15 b hb
  · have:=blk_some hb
    have:=m4.size;have:=g7.size;have:=g10.size;have:=g14.size
    exact ⟨reL_new (by omega),by omega⟩
 obtain ⟨L16,hL16⟩: ∃L16:Nat→Nat,L16=fun k=>if blk p17=some k then 9 else reL L14 w14.heap.size 0 k:=⟨_,rfl⟩
 have rl16: ∀k,reL L14 w14.heap.size 0 k≠0→L16 k=reL L14 w14.heap.size 0 k:=fun k hk=>by
  rw [hL16]
  show (if blk p17=some k then 9 else _)=_
  rw [if_neg fun e=>hk (lab17 k e).1]
 have T16:=S16.relab rl16
 have kk16:=(((k4.trans k7).trans k10).trans k14).trans k16
 have kp16:Kp w0 w w16 L L16:=⟨kk16.mod,fun k hk=>by
  rw [hL16]
  show (if blk p17=some k then 9 else _)=_
  rw [if_neg fun e=>by have:=(lab17 k e).2;omega]
  exact kk16.lab k hk⟩
 have ro16:RO w16 L16 ⟨q,l.length,d⟩ l:=((k14.trans k16).ro ro10).relab rl16
 have r917:R9 w16 L16 p17:=⟨fun k hk=> ⟨by rw [hL16];show (if blk p17=some k then 9 else _)=9;rw [if_pos hk],o17.lt k hk⟩⟩
 have v17:=o17.vw
 have hl17:(bk++l).length≤10000:=by rw [List.length_append];omega
 generalize bk++l=m at v17 hl17 ⊢
 refine ⟨fun v u z=> ∃ (t:Nat) (L1:Nat→Nat),v=t∧t≤m.length∧z=m.length - t∧SR w0 u B L1 N {x with m:= {x.m with cf:=x.m.cf+1}}∧Kp w0 w16 u L16 L1,⟨_,0,L16,rfl,Nat.zero_le _,rfl,T16,Kp.refl⟩,?_⟩
 rintro v u z _ ⟨t,L1,rfl,ht,rfl,SS,kk⟩
 refine cnd_i (fun r=> ?_) (fun r=> ?_)
 · have r:t<m.length:=by simp at r;omega
   refine (kk.vw v17 r917).ix 0 (by omega) rfl (by omega) fun a ha=> ⟨_,ha,_,rfl,_,cell_add SS.at rfl,(SS.bump _).mono ?_⟩
   rintro e w27 ⟨r28,rfl,L27,S27,k27⟩
   refine ⟨_,rfl,_,?_,t+1,L27,wN (by omega) (by omega),by omega,rfl,S27,kk.trans k27⟩
   omega
 clear r
 refine ⟨_,rfl,_,cell_add SS.at rfl,SS.decay.mono ?_⟩
 rintro e w31 ⟨rfl,L31,S31,k31⟩
 refine ⟨rfl,?_⟩
 have ro31:=(kk.trans k31).ro ro16
 refine (told_ok S31 (by show x.pr.length≤_;omega) ro31.v rfl (by omega)).mono ?_
 rintro e w32 ⟨rfl,L32,q32,sl32,S32,k32⟩
 have ro32:=k32.ro ro31
 have ebl:imax 0 (bl:Int)=bl:=by unfold imax;split<;>omega
 rw [ebl]
 refine ⟨rfl,(cback_ok S32 g st.ci.v hN st.ph bl).mono ?_⟩
 rintro e w33 ⟨rfl,L33,S',ph',S33,k33,hp33,hs33,ht33⟩
 have ro33:=k33.ro ro32
 have eb:backTo x.s bl=x.s.back bl:=by
  unfold backTo
  have e1:(max 0 (bl:Int)).toNat=bl:=by omega
  rw [e1,if_pos Ls.lt]
 have S33:SR w0 w33 B L33 N {x with m:= {x.m with cf:=x.m.cf+1},ps:=q32,pr:=x.pr++ [(false,sl32,l)],s:=backTo x.s bl,S:=S',ph:=ph'}:=S33
 have hi33:CHI N (backTo x.s bl) S':=backTo_chi g st.ci.v st.hi hs33 ht33
 rw [eb] at S33 hi33
 have gb:=back_good g Ls.lt
 refine ⟨rfl,(cadd_ok S33 gb hnc okc ro33 hll lv (by show x.hv.length≤_;omega) (by show x.un.length≤_;omega)).mono ?_⟩
 rintro e w34 ⟨rfl,L34,s',hs,us,S34,k34,g34,ha⟩
 have ha:Added (x.s.back bl) l s':=ha
 have st34:=(st.own (m':= {x.m with cf:=x.m.cf+1}) ⟨rfl,rfl⟩).lrn (q:=q32) (sl2:=sl32) (sl:=⟨q,l.length,d⟩) (hs:=hs) (us:=us) Ls Fl trivial rfl ha g34 hp33 hi33 ⟨lv0,lv1⟩ hll
 have kp34:=(((((kp16.trans kk).trans k31).trans k32).trans k33).trans k34)
 have e34:({x with m:= {x.m with cf:=x.m.cf+1},ps:=q32,pr:=x.pr++ [(false,sl32,l)],s:=x.s.back bl,S:=S',ph:=ph'}:Xs).lrn s' ⟨q,l.length,d⟩ l lv hs us=({x with m:= {x.m with cf:=x.m.cf+1},ps:=q32,pr:=x.pr++ [(false,sl32,l)],s:=x.s.back bl,S:=S',ph:=ph'}:Xs).lrn s' ⟨q,l.length,d⟩ l lv hs us:=rfl
 obtain ⟨y,hy⟩: ∃y,y=({x with m:= {x.m with cf:=x.m.cf+1},ps:=q32,pr:=x.pr++ [(false,sl32,l)],s:=x.s.back bl,S:=S',ph:=ph'}:Xs).lrn s' ⟨q,l.length,d⟩ l lv hs us:=⟨_,rfl⟩
 have ym:y.m= {x.m with cf:=x.m.cf+1}:=by rw [hy];exact lrn_m
 have ys:y.s.nc=x.s.nc+1:=by rw [hy,lrn_s];exact ha.n
 have yp:y.pr.length=x.pr.length+1:=by rw [hy,lrn_pr];simp
 have yl:y.hv.length+y.un.length=x.hv.length+x.un.length+1∧y.hv.length≤x.hv.length+1:=by rw [hy];exact lrn_len
 have S34:SR w0 w34 B L34 N y:=by rw [hy];exact S34
 have st34:Srch N cs y:=by rw [hy];exact st34
 clear hy e34
 have ylen:=st34.len
 refine ⟨rfl,_,rfl,_,_,_,⟨cell_add2 S34.at rfl,cell_add2 S34.at rfl,cell_add2 S34.at rfl,trivial⟩,(Lu.tick_spec _ _ _ _).mono ?_⟩
 rintro e w39 ⟨rfl,g39⟩
 refine ⟨_,_,_,_,rfl,_,rfl,?_⟩
 have S39:=S34.grow g39
 refine store_f S39.at rfl rfl fun w45 h45 m45=> ?_
 obtain ⟨S45,k45⟩:=S39.own (m':= {y.m with pu:=Lu.tickU y.m.pu y.m.pa y.m.pl,pa:=Lu.tickA y.m.pu y.m.pa y.m.pl,pl:=Lu.tickL y.m.pu y.m.pa y.m.pl}) h45 m45
 have st45:=st34.own (m':= {y.m with pu:=Lu.tickU y.m.pu y.m.pa y.m.pl,pa:=Lu.tickA y.m.pu y.m.pa y.m.pl,pl:=Lu.tickL y.m.pu y.m.pa y.m.pl}) ⟨rfl,rfl⟩
 have kp45:=(kp34.trans (Chg.grow g39)).trans k45
 have hq':((3 ^ N:Nat):Int)<Re.quota y.m.lrn 100:=by rw [ym];exact hq
 have hdr':0≤y.m.dr∧y.m.dr≤1000000000:=by rw [ym];exact hdr
 have fin: ∀ {z x':Xs},Rl N z x'→Srch N cs x'→z.m.cf=y.m.cf→z.m.de=y.m.de→(z.m.re=y.m.re∨z.m.re=y.m.re+1)→z.m.bud=y.m.bud→z.m.lrn=y.m.lrn→z.m.ver=y.m.ver→z.m.dr=y.m.dr→z.m.went=y.m.went→z.s.nc=y.s.nc→z.hv=y.hv→z.un=y.un→z.pr=y.pr→Cfl N x x':=by
  intro z x' R sx e1 e2 e3 e4 e5 e6 e7 e8 e9 e10 e11 e12
  have hw:=st.went
  refine ⟨by rw [R.nc,e9,ys],by rw [R.cf,e1,ym],by rw [R.de,e2,ym],by rw [R.re];rw [ym] at e3;exact e3,by rw [R.bud,e4,ym],by rw [R.lrn,e5,ym],by rw [R.ver,e6,ym],?_,?_,?_⟩
  · have:=R.dr
    rw [e7,e10,ym] at this
    have:x.m.dr≤x'.m.dr∧x'.m.dr+x'.hv.length=x.m.dr+y.hv.length:=this
    omega
  · have:=R.pl
    rw [e12,e10] at this
    omega
  · have hu:=R.un
    rw [e11] at hu
    rcases R.hv with ⟨a,b⟩| ⟨a,b,c⟩
    · rw [e8,ym] at a
      have a:x'.m.went=x.m.went:=a
      rw [e10] at b
      rw [a,show x'.hv.length+x'.un.length=x.hv.length+x.un.length+1 by omega]
      exact Nat.le_of_eq (meas_step (by omega))
    · rw [e8,ym] at a b
      have a:x.m.went<100:=a
      have b:x'.m.went=x.m.went+1:=b
      rw [b,show (x.m.went+1).toNat=x.m.went.toNat+1 by omega]
      exact meas_less (by omega)
 refine cnd_i (fun _=> ?_) (fun _=> ?_)
 · refine ⟨_,rfl,_,cell_add2 S45.at rfl,_,rfl,?_⟩
   refine store_f2 S45.at rfl rfl fun w49 h49 m49=> ?_
   have ere:i64.wrap (y.m.re+1)=y.m.re+1:=by
    have:y.m.re=x.m.re:=by rw [ym]
    rw [wrap64_of (by omega) (by omega)]
   obtain ⟨S49,k49⟩:=S45.own (m':= {y.m with pu:=Lu.tickU y.m.pu y.m.pa y.m.pl,pa:=Lu.tickA y.m.pu y.m.pa y.m.pl,pl:=Lu.tickL y.m.pu y.m.pa y.m.pl,re:=i64.wrap (y.m.re+1)}) h49 m49
   have st49:=st34.own (m':= {y.m with pu:=Lu.tickU y.m.pu y.m.pa y.m.pl,pa:=Lu.tickA y.m.pu y.m.pa y.m.pl,pl:=Lu.tickL y.m.pu y.m.pa y.m.pl,re:=i64.wrap (y.m.re+1)}) ⟨rfl,rfl⟩
   refine (cback_ok S49 st49.ci.g st49.ci.v hN st49.ph 0).mono ?_
   rintro e w50 ⟨rfl,L50,S50,ph50,R50,k50,hp50,hs50,ht50⟩
   have st50:=st49.backTo hp50 hs50 ht50
   refine ⟨rfl,due_w R50 st50 hN (by omega) hq' (by show y.pr.length≤_;omega) hdr' fun w' L' x' S' k' s' R=> ?_⟩
   exact ⟨rfl,L',x',S',((kp45.trans k49).trans k50).trans k',s',fin R s' rfl rfl (.inr ere) rfl rfl rfl rfl rfl backTo_nc rfl rfl rfl⟩
 · refine due_w S45 st45 hN (by omega) hq' (by show y.pr.length≤_;omega) hdr' fun w' L' x' S' k' s' R=> ?_
   exact ⟨rfl,L',x',S',kp45.trans k',s',fin R s' rfl rfl (.inl rfl) rfl rfl rfl rfl rfl rfl rfl rfl rfl⟩
end
end Go.Proofs.YtabengnadcleeaaGreat.W
