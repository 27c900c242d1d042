/- Layer 14: the search: its parts. -/
import Derived.Test.YtddffgjagppimaaGreatPfA
namespace Go.Proofs.YtddffgjagppimaaGreat.W
open Go Go.Fw Go.RowKit Go.SoP Go.LiP Go.LeP
open Go.Proofs.Tryz (prog)
section
variable {w0 w w' w1 w2 u:World} {B N i:Nat} {L L' L1:Nat→Nat} {x:Xs} {l:List Int} {cs:List (List Int)} {hv:List (Nat × List Int)} {un:List (List Int)}
def setB (u l:Int):Bool:=decide (1≤u∧u≤1048576∧1≤l∧l≤1048576)
theorem ccheck_ok (b u l:Int) (w:World):Calls prog cdcl_Check.id #[.agg #[.int .i64 b,.int .i64 u,.int .i64 l]] w fun e w'=>e= .returned (.int .i64 (if setB u l then 0 else 1))∧Grow w w':=by
 refine cdcl_Check.calls ?_
 intro n1 w2 h2
 have R: ∀ {r:Int},r=(if setB u l then 0 else 1)→Ending.returned (.int .i64 r)= .returned (.int .i64 (if setB u l then 0 else 1))∧Grow w w2:=fun e=> ⟨by rw [e],h2.mod⟩
 have F: ¬(1≤u∧u≤1048576∧1≤l∧l≤1048576)→(1:Int)=(if setB u l then 0 else 1):=fun h=>by unfold setB;rw [decide_eq_false h];rfl
 refine ⟨_,cell_add h2.has rfl,cnd_i (fun r1=>R (F ?_)) (fun r1=> ⟨_,cell_add h2.has rfl,cnd_i (fun r2=>R (F ?_)) (fun r2=> ⟨_,cell_add h2.has rfl,cnd_i (fun r3=>R (F ?_)) (fun r3=> ⟨_,cell_add h2.has rfl,cnd_i (fun r4=>R (F ?_)) (fun r4=>R ?_)⟩)⟩)⟩)⟩
 all_goals simp only [decide_eq_true_eq,decide_eq_false_iff_not] at*
 all_goals first|omega|skip
 unfold setB
 rw [decide_eq_true (by omega)];rfl
def PE (_:List (List Int)) (_:List (Bool × List Int)):Prop:=True
theorem PF.fin {s:PSt} {pr:List (Bool × List Int)} (_:PF cs s pr) (_:Good s) (_:Brk s i) (_:s.R .be= []):PE cs (pr++ [(false,[])]):=trivial
theorem PF.new {s:PSt} {k:Nat} (_:Newd k cs s):PF cs s []:=trivial
theorem SR.run (h:SR w0 w B L N x) (g:Good x.s):Calls prog prop_Prop_Run.id #[ptrV x.pb] w fun e w'=> ∃r:Int,e= .returned (.int .i64 r)∧∃s' L',SR w0 w' B L' N {x with s:=s'}∧Kp w0 w w' L L'∧Good s'∧Ext x.s s'∧((r= -1∧Closed s')∨∃i:Nat,r=i∧Brk s' i):=by
 obtain ⟨H,pm,hl⟩:=h.pm id
 refine (run_ok pm g).mono ?_
 rintro e w' ⟨r,rfl,s',H',p,g',ex,hh⟩
 have:=h.prop hl pm.lt p
 exact ⟨r,rfl,s',_,this.1,this.2,g',ex,hh⟩
theorem Srch.run (st:Srch N cs x) {s':PSt} (g':Good s') (e:Ext x.s s'):Srch N cs {x with s:=s'}:=
 ⟨st.ci.run e g',st.hi.run st.ci e g',st.ph,st.n,st.okh,st.went,st.pf.ext e,st.mo⟩
structure KP where
 D:Nat
 wB:Nat
 C:Nat
 u:Nat
 T:Nat
def KP.top (K:KP) (N:Nat) (lrn:Int):Nat:=if 0<K.wB then QuP.quo lrn.toNat 0+ (2*N+2)+PotP.MA (QuP.quo lrn.toNat) (K.wB - 1) 0+ (K.D+K.C) else K.C
structure KOk (K:KP) (N:Nat) (lrn:Int):Prop where
 hu:1≤K.u∧K.u≤1048576
 hl:1≤lrn∧lrn≤1048576
 hN:2 ^ (N - 1)≤K.D
 hC: ∀a l,1≤a→l≤K.u*Luby.lub a→∃n,PotP.Tl K.D K.u a l n∧n≤K.C
 hD: ∀w,K.wB≤w→K.D≤QuP.quo lrn.toNat w - PotP.qp (QuP.quo lrn.toNat) w
 hq:K.T+1<QuP.quo lrn.toNat 100
 ht:K.top N lrn≤K.T
def PtS (K:KP) (N:Nat) (lrn:Int) (x:Xs) (μ:Nat):Prop:= ∃β r a l:Nat,RBd x.s β∧x.m.pu=K.u∧x.m.pa=a∧x.m.pl=l∧(∀c∈x.un,c.2.length≤1)∧a≤x.s.nc+1∧
 PotP.Pot K.D K.wB K.C K.u (2*N+2) (QuP.quo lrn.toNat) x.m.went.toNat x.hv.length x.un.length a l β r μ
theorem PtS.new {K:KP} {lrn:Int} (ok:KOk K N lrn) (h0:x.s.R .be= []) (hv:x.s.vars=N) (h1:x.m.pu=K.u) (h2:x.m.pa=1) (h3:x.m.pl=K.u) (hun:x.un= []) (hhv:x.hv= []) (hw:x.m.went=0): ∃μ,PtS K N lrn x μ∧μ≤K.top N lrn:=by
 have hu:=ok.hu
 have hl:=ok.hl
 have l1:Luby.lub 1=1:=by have:=Luby.lub_at_full 0;simpa using this
 have q0:QuP.quo lrn.toNat 0=lrn.toNat:=rfl
 have hN:=ok.hN
 have h2N:=Nat.two_pow_pos (N - 1)
 have lub1:K.u≤K.u*Luby.lub 1:=by rw [l1];omega
 have e1:K.u*Luby.lub 1 - K.u=0:=by rw [l1];omega
 have mk: ∀μ,((0<K.wB∧μ=(QuP.quo lrn.toNat 0 - 0)+ (2*N+2 - 0)+PotP.MA (QuP.quo lrn.toNat) (K.wB - 1 - 0) 0+ (K.D+K.C))∨
  (K.wB≤0∧0≤PotP.qp (QuP.quo lrn.toNat) 0+0∧((K.u*Luby.lub 1 - K.u≤0+K.D∧PotP.Tl K.D K.u 1 K.u μ∧μ≤K.C)∨(0+K.D<K.u*Luby.lub 1 - K.u∧μ=(K.D - 0)+K.C))))→PtS K N lrn x μ:=by
  intro μ hp
  refine ⟨2 ^ (N - 1) - 1,0,1,K.u,RBd.zero h0 hv,h1,h2,h3,by rw [hun];simp,by omega,?_⟩
  rw [hun,hhv,hw]
  exact ⟨hu.1,lub1,Nat.le_refl _,by rw [e1];omega,by show 0<QuP.quo lrn.toNat 0;omega,hp⟩
 by_cases e:0<K.wB
 · refine ⟨_,mk _ (.inl ⟨e,rfl⟩),?_⟩
   unfold KP.top
   rw [if_pos e]
   exact Nat.le_refl _
 · obtain ⟨n,t,hn⟩:=ok.hC 1 K.u (Nat.le_refl _) lub1
   refine ⟨n,mk n (.inr ⟨by omega,Nat.zero_le _,.inl ⟨by omega,t,hn⟩⟩),?_⟩
   unfold KP.top
   rw [if_neg e]
   exact hn
theorem quota_eq {lrn went:Int} (h:1≤lrn∧lrn≤1048576) (hw:0≤went∧went≤100):Re.quota lrn went=(QuP.quo lrn.toNat went.toNat:Nat):=by
 unfold Re.quota
 rw [if_pos (by unfold Re.mayQ;exact decide_eq_true ⟨h.1,h.2,hw.1,hw.2⟩)]
theorem un_len {s:PSt} (k:CSI N cs s hv un) (h: ∀c∈un,c.length≤1):un.length≤2*N+2:=by
 have hd:=k.dn
 rw [List.map_append] at hd
 have hd:=(List.nodup_append.1 hd).2.1
 have hs:=List.Nodup.length_le_of_subset hd (l₂:=([]::(List.range (2*N+1)).map fun (j:Nat)=> [(j:Int) - N]).map fun c=>code c N) fun y hy=>by
  obtain ⟨c,hc,rfl⟩:=List.mem_map.1 hy
  refine List.mem_map.2 ⟨c,?_,rfl⟩
  have h1:=h c hc
  match c,h1,hc with
  | [],_,_=>exact List.mem_cons_self
  | [z],_,hc=>
    obtain ⟨i0,i1,i2⟩:=(k.ok [z] (List.mem_append_right _ hc)).inv z (by simp)
    refine List.mem_cons_of_mem _ (List.mem_map.2 ⟨(z+N).toNat,List.mem_range.2 (by omega),?_⟩)
    show [((z+N).toNat:Int) - N]= [z]
    rw [show ((z+N).toNat:Int) - N=z by omega]
  |_::_::_,h1,_=>simp at h1
 simpa using hs
theorem RBd.mono {s:PSt} {β γ:Nat} (h:RBd s β) (e:β≤γ):RBd s γ:=fun u a b c=>Nat.le_trans (h u a b c) e
theorem PtS.run {K:KP} {lrn:Int} {μ:Nat} (P:PtS K N lrn x μ) {s':PSt} (e:Ext x.s s'):PtS K N lrn {x with s:=s'} μ:=by
 obtain ⟨β,r,a,l,rb,h1,h2,h3,h4,h5,p⟩:=P
 exact ⟨β,r,a,l,rb.run e,h1,h2,h3,h4,by show a≤s'.nc+1;rw [e.n];exact h5,p⟩
theorem PtS.dec {K:KP} {lrn:Int} {μ:Nat} (P:PtS K N lrn x μ) (g:Good x.s) (hc:Closed x.s) {v de:Int} {S':Int→Prop}:PtS K N lrn {x with s:=x.s.decide v,S:=S',m:= {x.m with de:=de}} μ:=by
 obtain ⟨β,r,a,l,rb,h1,h2,h3,h4,h5,p⟩:=P
 exact ⟨β,r,a,l,RBd.decide (rb.fin g (.inl hc)),h1,h2,h3,h4,h5,p⟩
theorem PtS.conf {K:KP} {lrn:Int} {μ:Nat} {x':Xs} (ok:KOk K N lrn) (P:PtS K N lrn x μ) (hl:x.m.lrn=lrn) (st':Srch N cs x') (C:Cfl N x x') (hw:0≤x.m.went∧x.m.went≤100) (hnc:x.s.nc≤262143): ∃μ',PtS K N lrn x' μ'∧μ'+1≤μ:=by
 obtain ⟨β,r,a,l,rb,h1,h2,h3,h4,h5,p⟩:=P
 obtain ⟨b1,b2⟩:=C.rb β rb
 obtain ⟨u1,u2⟩:=ok.hu
 have may:Lu.May (K.u:Int) (a:Int) (l:Int):=by
  have:=p.l1;have:=p.a1;have h:=p.l2
  refine ⟨by omega,by omega,by omega,by omega,by omega,?_⟩
  rw [Int.toNat_natCast,← Int.natCast_mul]
  exact Int.ofNat_le.2 h
 obtain ⟨c1,c2,c3⟩:=C.pc
 have bz:=C.bz
 rw [h1,h2,h3] at c1 c2 c3 bz b2
 unfold Lu.tickU at c1
 rw [if_pos may] at c1
 have ha1:(a:Int)≠1073741824:=by omega
 have eag:Lu.again (K.u:Int) a l=decide (l=1):=by
  unfold Lu.again
  rw [decide_eq_true may,Bool.true_and]
  exact decide_eq_decide.2 (by omega)
 rw [eag] at bz b2
 have c2':x'.m.pa=((if 1<l then a else a+1:Nat):Int):=by
  rw [c2];unfold Lu.tickA
  rw [if_pos may]
  by_cases e:1<l
  · rw [if_pos (by omega),if_pos e]
  · rw [if_neg (by omega),if_neg ha1,if_neg e];rfl
 have c3':x'.m.pl=((if 1<l then l - 1 else K.u*Luby.lub (a+1):Nat):Int):=by
  rw [c3,show Lu.tickL (K.u:Int) a l=if 1< (l:Int) then (l:Int) - 1 else (K.u:Int)* (Luby.lub (Lu.tickA (K.u:Int) a l).toNat:Int) by unfold Lu.tickL;rw [if_pos may],← c2,c2']
  by_cases e:1<l
  · rw [if_pos (by omega),if_pos e];omega
  · rw [if_neg (by omega),if_neg e,if_neg e,Int.toNat_natCast,Int.natCast_mul]
 obtain ⟨g1,hun,hch⟩:=C.ch
 have hunl: ∀c∈x'.un,c.2.length≤1:=by
  intro c hc
  rcases hun with ⟨_,e⟩| ⟨_,d,hd,e⟩
  · rw [e] at hc;exact h4 c hc
  · rw [e] at hc
    rcases List.mem_append.1 hc with hc|hc
    · exact h4 c hc
    · rw [List.mem_singleton] at hc;subst hc;exact hd
 have hU:=un_len st'.ci (fun c hc=>by
  obtain ⟨d,hd,rfl⟩:=List.mem_map.1 hc
  exact hunl d hd)
 rw [List.length_map] at hU
 have enc:=C.nc
 have hbe:1≤K.D:=by have:=p.p2;omega
 rw [hl] at hch
 have Q:=quota_eq ok.hl hw
 have q1: ∀w,1≤QuP.quo lrn.toNat w:=fun w=>Nat.le_trans (by have:=ok.hl;show 1≤QuP.quo lrn.toNat 0;show 1≤lrn.toNat;omega) (QuP.quo_mono _ 0 w (by omega))
 have qs: ∀w,QuP.quo lrn.toNat w<QuP.quo lrn.toNat (w+1):=fun w=>by show _<QuP.quo _ w+QuP.quo _ w / 10+1;omega
 have hq1:=q1 x.m.went.toNat
 have A1:(decide (l=1)=true∧l=1∧(if 1<l then a else a+1)=a+1∧(if 1<l then l - 1 else K.u*Luby.lub (a+1))=K.u*Luby.lub (a+1))∨(decide (l=1)=false∧1<l∧(if 1<l then a else a+1)=a∧(if 1<l then l - 1 else K.u*Luby.lub (a+1))=l - 1):=by
  have:=p.l1
  by_cases e:l=1
  · exact .inl ⟨decide_eq_true e,e,if_neg (by omega),if_neg (by omega)⟩
  · exact .inr ⟨decide_eq_false e,by omega,if_pos (by omega),if_pos (by omega)⟩
 have A2:(g1=x.hv.length+1∧x'.un.length=x.un.length)∨(g1=x.hv.length∧x'.un.length=x.un.length+1∧x'.un.length≤2*N+2):=by
  rcases hun with ⟨e1,e⟩| ⟨e1,d,_,e⟩
  · exact .inl ⟨e1,by rw [e]⟩
  · exact .inr ⟨e1,by rw [e];simp,hU⟩
 have A3:(decide (x'.m.went=x.m.went+1)=false∧x'.m.went.toNat=x.m.went.toNat∧x'.hv.length=g1∧g1<QuP.quo lrn.toNat x.m.went.toNat)∨(decide (x'.m.went=x.m.went+1)=true∧x'.m.went.toNat=x.m.went.toNat+1∧QuP.quo lrn.toNat x.m.went.toNat≤g1∧x'.hv.length≤g1∧g1≤2*x'.hv.length+1):=by
  unfold dueB at hch
  rw [Q] at hch
  rcases hch with ⟨e1,e2,e3⟩| ⟨e0,e1,e2,e3,e4⟩
  · exact .inl ⟨decide_eq_false (by omega),by rw [e1],e2,by omega⟩
  · exact .inr ⟨decide_eq_true e1,by omega,by omega,e2,e3⟩
 have A4:((decide (l=1)=true∨decide (x'.m.went=x.m.went+1)=true)∧(if l=1∨x'.m.went=x.m.went+1 then K.D - 1 else β - 1)+1=K.D)∨(decide (l=1)=false∧decide (x'.m.went=x.m.went+1)=false∧(if l=1∨x'.m.went=x.m.went+1 then K.D - 1 else β - 1)+1=β):=by
  by_cases e:l=1∨x'.m.went=x.m.went+1
  · rw [if_pos e]
    exact .inl ⟨e.imp (fun e=>decide_eq_true e) (fun e=>decide_eq_true e),by omega⟩
  · rw [if_neg e]
    exact .inr ⟨decide_eq_false fun h=>e (.inl h),decide_eq_false fun h=>e (.inr h),by omega⟩
 obtain ⟨r',μ',p',m'⟩:=p.step u1 ok.hC ok.hD qs b1 A1 A2 A3 A4
 refine ⟨μ',⟨_,r',_,_,?_,c1,c2',c3',hunl,?_,p'⟩,m'⟩
 · by_cases e:l=1∨x'.m.went=x.m.went+1
   · rw [if_pos e]
     have hz:=bz (e.imp (fun e=>decide_eq_true e) id)
     have hN:=ok.hN
     exact (RBd.zero hz st'.ci.v).mono (by omega)
   · rw [if_neg e]
     rcases hch with ⟨e2,_⟩| ⟨_,e2,_⟩
     · exact b2 (decide_eq_false fun h=>e (.inl h)) e2
     · exact absurd (.inr e2) e
 · split<;>omega
structure LoS (K:KP) (w0 w:World) (B:Nat) (L:Nat→Nat) (N:Nat) (cs:List (List Int)) (bud lrn:Int) (x:Xs) (μ:Nat):Prop where
 sr:SR w0 w B L N x
 st:Srch N cs x
 elrn:x.m.lrn=lrn
 ebud:x.m.bud=bud
 ver:x.m.ver=0
 cf:0≤x.m.cf∧x.m.cf≤x.s.nc∧(0≤bud→x.m.cf≤bud)
 de:0≤x.m.de∧x.m.de≤1000*x.m.cf+ (x.s.R .be).length
 re:0≤x.m.re∧x.m.re≤x.s.nc
 dr:0≤x.m.dr∧x.m.dr+x.hv.length≤x.s.nc
 pl:x.pr.length+x.hv.length≤2*x.s.nc
 pt:PtS K N lrn x μ
 nc:x.s.nc+μ≤262143
 hb:x.hv.length+μ≤K.T
def lms (N μ:Nat) (x:Xs):Nat:=μ* (N+1)+ (N - (x.s.R .be).length)
theorem cdcl_sat {s:PSt} (k:CSI N cs s hv un) (hN:N≤1000) (hc:Closed s) (ha: ∀v:Int,1≤v→v≤N→s.val v≠0):(modl s N).length=N∧(∀y∈modl s N,y=1∨y= -1)∧∀c∈cs,∃l∈c,valP (modl s N) l=1:=by
 have hlen:(modl s N).length=N:=by simp [modl]
 have hb:=fun v=>s.val_bd k.g.wf v
 refine ⟨hlen,fun y hy=> ?_,fun c hcm=> ?_⟩
 · unfold modl at hy
   obtain ⟨j,hj,rfl⟩:=List.mem_map.1 hy
   have:=List.mem_range.1 hj
   have h1:=ha ((j:Int)+1) (by omega) (by omega)
   have h2:=hb ((j:Int)+1)
   omega
 · obtain ⟨j,hj,rfl⟩:=List.mem_iff_getElem.1 hcm
   obtain ⟨h1,h2⟩:=k.fc j hj
   have e2:cs.getD j []=cs[j]:=by simp [List.getD,hj]
   rw [e2] at h2
   rcases hc j h1 with ⟨y,hy,ht⟩| ⟨y,hy,z,hz,_,v0,_⟩
   · rw [h2] at hy
     refine ⟨y,hy,?_⟩
     have hiv:=k.g.tv y ht
     have hv1:=(k.g.v1 y hiv).2 ht
     rw [k.v] at hiv
     obtain ⟨i0,i1,i2⟩:=hiv
     have ham:=InV.amt ⟨i0,i1,i2⟩
     have hlit:litB y=true:=litB_of (n:=N) (by omega) ⟨i0,i1,i2⟩
     have ge:(modl s N).getD (amt y - 1).toNat 0=s.val (amt y):=by
      have h3:(amt y - 1).toNat<N:=by omega
      unfold modl
      simp only [List.getD_eq_getElem?_getD,List.getElem?_map]
      rw [List.getElem?_range h3]
      show s.val (((amt y - 1).toNat:Int)+1)=_
      rw [show ((amt y - 1).toNat:Int)+1=amt y by omega]
     unfold valP
     rw [if_neg (by rw [hlit,hlen];simp;omega),ge]
     by_cases e:y<0
     · have ea:amt y= -y:=by unfold amt;rw [if_pos e]
       have hvn:s.val (-y)= -s.val y:=val_neg (n:=N) ⟨i0,i1,i2⟩
       rw [ea,hvn,hv1,if_neg (by decide),decide_eq_false (by omega: ¬(-1:Int)>0),decide_eq_false (by omega: ¬y>0)];rfl
     · have ea:amt y=y:=by unfold amt;rw [if_neg e]
       rw [ea,hv1,if_neg (by decide),decide_eq_true (by omega:(1:Int)>0),decide_eq_true (by omega:y>0)];rfl
   · have hiv:=k.g.cv j h1 y ((k.g.ca j h1 y).2 hy)
     rw [k.v] at hiv
     obtain ⟨i0,i1,i2⟩:=hiv
     have hv:=ha (amt y) (by have:=InV.amt ⟨i0,i1,i2⟩;omega) (by have:=InV.amt ⟨i0,i1,i2⟩;omega)
     exfalso
     by_cases e:y<0
     · have ea:amt y= -y:=by unfold amt;rw [if_pos e]
       have hvn:s.val (-y)= -s.val y:=val_neg (n:=N) ⟨i0,i1,i2⟩
       rw [ea,hvn] at hv
       omega
     · have ea:amt y=y:=by unfold amt;rw [if_neg e]
       rw [ea] at hv
       omega
theorem cdcl_unsat {s:PSt} (k:CSI N cs s hv un) (hB:Brk s i) (h0:s.R .be= []): ∀v,Mdl N v→¬∀d∈cs,Tr1 v d:=by
 intro v m hc
 have key: ∀x∈s.R .tr,v x=1:=k.g.trail_all (fun x hx=>by unfold PSt.dec at hx;rw [h0] at hx;simp at hx) fun c hcc l hl hy _=>by
  obtain ⟨i,hi,rfl⟩:=hcc
  obtain ⟨y,hyc,hv⟩:=k.imp i hi v m hc
  by_cases e:y=l
  · rw [← e];exact hv
  · have:=hy y hyc e
    rw [m.neg,hv] at this
    omega
 obtain ⟨y,hyc,hv⟩:=k.imp i hB.1 v m hc
 have:=key _ (hB.2 y hyc)
 rw [m.neg,hv] at this
 omega
theorem chi_top {s:PSt} {S:Int→Prop} (h: ∀v,S v):CHI N s S:=fun v _ _ _=>h v
theorem csi_new {s:PSt} (d:Newd N cs s) (g:Good s):CSI N cs s [] []:=by
 have fc: ∀j,j<cs.length→s.There j∧s.R (.a j)=cs.getD j []:=fun j hj=> ⟨⟨by rw [d.n];exact hj,d.g j hj⟩,d.a j hj⟩
 refine ⟨g,d.v,fc,fun i hi v m hc=> ?_,by simp,by simp,by simp,fun j hj=> ?_,by simp,by simp⟩
 · have hi':i<cs.length:=by have:=hi.1;rw [d.n] at this;exact this
   rw [d.a i hi']
   refine hc _ ?_
   simp [List.getD,hi']
 · rw [d.be] at hj;simp at hj
end
section
variable {w0 w w' w1 w2 u:World} {B N i μ:Nat} {K:KP} {L L' L1:Nat→Nat} {x:Xs} {l:List Int} {cs:List (List Int)} {hv:List (Nat × List Int)} {un:List (List Int)}
def SolP (z:Nat) (w':World) (N:Nat) (cs:List (List Int)) (bud:Int) (e:Ending):Prop:=
 ∃ (ver:Int) (mp:Option Addr) (mn mc:Nat) (pp:Option Addr) (pn pc:Nat) (cf de re dr er:Int),e= .returned (.tuple #[.agg #[.int .i64 ver,.slice mp mn mc,.slice pp pn pc,.int .i64 cf,.int .i64 de,.int .i64 re,.int .i64 dr],.int .i64 er])∧0≤cf∧0≤de∧0≤re∧0≤dr∧
   ((er=6∧ver=0∧mn=0∧pn=0∧0≤bud∧cf=bud)∨
    (er=0∧ver=1∧pn=0∧(0≤bud→cf≤bud)∧∃mo:List Int,mn=mo.length∧Vw (Value.int .i64) w' mp mo∧(∀k,blk mp=some k→z≤k)∧mo.length=N∧(∀y∈mo,y=1∨y= -1)∧∀c∈cs,∃l∈c,valP mo l=1)∨
    (er=0∧ver=2∧mn=0∧(0≤bud→cf≤bud)∧(∀v,Mdl N v→¬∀d∈cs,Tr1 v d)∧∃pr:List Ps,pn=pr.length∧Vr 2 psE w' pp pr∧(∀u∈pr,u.2.1.n=u.2.2.length∧Vw (Value.int .i64) w' u.2.1.p u.2.2)∧PE cs (pr.map ppr)))
theorem out_at (h:Has w B x.cells):CellsAt w ((Addr.mk B 0 none).add 14) 0 [.int .i64 x.m.ver,x.ms.v,x.ps.v,.int .i64 x.m.cf,.int .i64 x.m.de,.int .i64 x.m.re,.int .i64 x.m.dr]:=
 ⟨cell_add2 h rfl,cell_add2 h rfl,cell_add2 h rfl,cell_add2 h rfl,cell_add2 h rfl,cell_add2 h rfl,cell_add2 h rfl,trivial⟩
theorem out_w {n5:Nat} (h:Has w B x.cells) (h5:Has w n5 #[.int .i64 0,.slice none 0 0,.slice none 0 0,.int .i64 0,.int .i64 0,.int .i64 0,.int .i64 0]) {K:Value→World→Prop}
 (hk: ∀w',Mod (·=n5) w w'→K (.agg #[.int .i64 x.m.ver,.slice x.ms.p x.ms.n x.ms.c,.slice x.ps.p x.ps.n x.ps.c,.int .i64 x.m.cf,.int .i64 x.m.de,.int .i64 x.m.re,.int .i64 x.m.dr]) w'):
 ∃a78,(some (Addr.mk B 0 none))=some a78∧∃x79 x80p x80n x80c x81p x81n x81c x82 x83 x84 x85,CellsAt w (a78.add 14) 0 [.int .i64 x79,.slice x80p x80n x80c,.slice x81p x81n x81c,.int .i64 x82,.int .i64 x83,.int .i64 x84,.int .i64 x85]∧
   ∃w86,StoreAt (Addr.mk n5 0 none) 0 [.int .i64 x79,.slice x80p x80n x80c,.slice x81p x81n x81c,.int .i64 x82,.int .i64 x83,.int .i64 x84,.int .i64 x85] w w86∧
   ∃x87 x88p x88n x88c x89p x89n x89c x90 x91 x92 x93,CellsAt w86 (Addr.mk n5 0 none) 0 [.int .i64 x87,.slice x88p x88n x88c,.slice x89p x89n x89c,.int .i64 x90,.int .i64 x91,.int .i64 x92,.int .i64 x93]∧
   K (.agg #[.int .i64 x87,.slice x88p x88n x88c,.slice x89p x89n x89c,.int .i64 x90,.int .i64 x91,.int .i64 x92,.int .i64 x93]) w86:=by
 refine ⟨_,rfl,_,_,_,_,_,_,_,_,_,_,_,out_at h,?_⟩
 refine store_i h5 rfl rfl fun w86 H86 m86=> ?_
 have H86:Has w86 n5 #[.int .i64 x.m.ver,x.ms.v,x.ps.v,.int .i64 x.m.cf,.int .i64 x.m.de,.int .i64 x.m.re,.int .i64 x.m.dr]:=H86
 exact ⟨_,_,_,_,_,_,_,_,_,_,_,⟨cell_add H86 rfl,cell_add H86 rfl,cell_add H86 rfl,cell_add H86 rfl,cell_add H86 rfl,cell_add H86 rfl,cell_add H86 rfl,trivial⟩,hk w86 m86⟩
theorem LoS.run_ {b lrn:Int} (I:LoS K w0 w B L N cs b lrn x μ):Calls prog prop_Prop_Run.id #[ptrV x.pb] w fun e w'=> ∃r:Int,e= .returned (.int .i64 r)∧∃ (L':Nat→Nat) (x':Xs),LoS K w0 w' B L' N cs b lrn x' μ∧Kp w0 w w' L L'∧lms N μ x'=lms N μ x∧((r= -1∧Closed x'.s)∨∃i:Nat,r=i∧Brk x'.s i):=by
 refine (I.sr.run I.st.ci.g).mono ?_
 rintro e w70 ⟨r71,rfl,s',L70,S70,k70,g',ex,hh⟩
 refine ⟨_,rfl,L70,{x with s:=s'},⟨S70,I.st.run g' ex,I.elrn,I.ebud,I.ver,?_,?_,?_,?_,?_,I.pt.run ex,?_,I.hb⟩,k70,?_,hh⟩
 · have:=I.cf;show 0≤x.m.cf∧x.m.cf≤s'.nc∧_;rw [ex.n];exact this
 · have:=I.de;show 0≤x.m.de∧x.m.de≤1000*x.m.cf+ (s'.R .be).length;rw [ex.be];exact this
 · have:=I.re;show 0≤x.m.re∧x.m.re≤s'.nc;rw [ex.n];exact this
 · have:=I.dr;show 0≤x.m.dr∧x.m.dr+x.hv.length≤s'.nc;rw [ex.n];exact this
 · have:=I.pl;show x.pr.length+x.hv.length≤2*s'.nc;rw [ex.n];exact this
 · have:=I.nc;show s'.nc+μ≤262143;rw [ex.n];exact this
 · show μ* (N+1)+ (N - (s'.R .be).length)=_
   rw [ex.be];rfl
theorem LoS.dec_ {b lrn:Int} (I:LoS K w0 w B L N cs b lrn x μ) (hN:N≤1000) (hcl:Closed x.s):Calls prog cdcl_search_decide.id #[ptrV B] w fun e w'=> ∃r:Bool,e= .returned (.bool r)∧∃ (L':Nat→Nat) (x':Xs),LoS K w0 w' B L' N cs b lrn x' μ∧Kp w0 w w' L L'∧((r=false∧Closed x'.s∧∀v:Int,1≤v→v≤N→x'.s.val v≠0)∨(r=true∧lms N μ x'<lms N μ x)):=by
 refine (cdecide_ok I.sr I.st.ci.g I.st.ci.v hN I.st.ph I.st.hi).mono ?_
 rintro e w73 ⟨r74,rfl,L73,S',k73,hd⟩
 rcases hd with ⟨rfl,ha,S73⟩| ⟨rfl,v,hv,h0,hi,S73⟩
 · exact ⟨_,rfl,L73,{x with S:=S'},⟨S73,⟨I.st.ci,fun v v1 v2 h0=>absurd h0 (ha v v1 v2),I.st.ph,I.st.n,I.st.okh,I.st.went,I.st.pf,I.st.mo⟩,I.elrn,I.ebud,I.ver,I.cf,I.de,I.re,I.dr,I.pl,I.pt,I.nc,I.hb⟩,k73,.inl ⟨rfl,hcl,ha⟩⟩
 · have hv':InV x.s.vars v:=by rw [I.st.ci.v];exact hv
   have ci73:=I.st.ci.decide hcl hv' h0
   have enc:(x.s.decide v).nc=x.s.nc:=rfl
   obtain ⟨d1,d2⟩:=I.de
   obtain ⟨c1,c2,c3⟩:=I.cf
   have hnc2:=I.nc
   have hbl:((x.s.decide v).R .be).length=(x.s.R .be).length+1:=by rw [decide_be];simp
   have hb2:((x.s.decide v).R .be).length≤N:=by have:=ci73.g.bel;have:=ci73.g.trl;have:=ci73.v;omega
   have e1:IntKind.i64.wrap (x.m.de+1)=x.m.de+1:=wrap64_of (by omega) (by omega)
   refine ⟨_,rfl,L73,{x with s:=x.s.decide v,S:=S',m:= {x.m with de:=IntKind.i64.wrap (x.m.de+1)}},⟨S73,⟨ci73,hi,I.st.ph,I.st.n,I.st.okh,I.st.went,I.st.pf.decide,I.st.mo⟩,I.elrn,I.ebud,I.ver,?_,?_,?_,?_,?_,I.pt.dec I.st.ci.g hcl,?_,I.hb⟩,k73,.inr ⟨rfl,?_⟩⟩
   · show 0≤x.m.cf∧x.m.cf≤(x.s.decide v).nc∧(0≤b→x.m.cf≤b)
     rw [enc];exact ⟨c1,c2,c3⟩
   · show 0≤IntKind.i64.wrap (x.m.de+1)∧IntKind.i64.wrap (x.m.de+1)≤1000*x.m.cf+ (((x.s.decide v).R .be).length:Int)
     rw [e1,hbl]
     omega
   · show 0≤x.m.re∧x.m.re≤(x.s.decide v).nc
     rw [enc];exact I.re
   · show 0≤x.m.dr∧x.m.dr+x.hv.length≤(x.s.decide v).nc
     rw [enc];exact I.dr
   · show x.pr.length+x.hv.length≤2* (x.s.decide v).nc
     rw [enc];exact I.pl
   · show (x.s.decide v).nc+μ≤262143
     rw [enc];exact hnc2
   · show μ* (N+1)+ (N - ((x.s.decide v).R .be).length)<μ* (N+1)+ (N - (x.s.R .be).length)
     exact Nat.add_lt_add_left (by omega) _
theorem LoS.drew {b lrn:Int} (I:LoS K w0 w B L N cs b lrn x μ):LoS K w0 w.drew B L N cs b lrn x μ:=⟨I.sr.drew,I.st,I.elrn,I.ebud,I.ver,I.cf,I.de,I.re,I.dr,I.pl,I.pt,I.nc,I.hb⟩
theorem LoS.conf_ {b lrn:Int} (ok:KOk K N lrn) (J:LoS K w0 w B L N cs b lrn x μ) (hN:N≤1000) (hB:Brk x.s i) (r:0< (x.s.R .be).length) (hbud:0≤b→x.m.cf<b):
 Calls prog cdcl_search_conflict.id #[ptrV B,.int .i64 i] w fun e w'=>e= .returned (.tuple #[])∧∃ (L':Nat→Nat) (x':Xs) (μ':Nat),LoS K w0 w' B L' N cs b lrn x' μ'∧Kp w0 w w' L L'∧lms N μ' x'<lms N μ x:=by
 obtain ⟨c1,c2,c3⟩:=J.cf
 have hre:=J.re
 have hpl:=J.pl
 have hdr:=J.dr
 have hnc2:=J.nc
 have hde:=J.de
 have hhb:=J.hb
 have gJ:=J.st.ci.g
 have hun:x.un.length≤2*N+2:=by
  obtain ⟨_,_,_,_,_,_,_,_,h4,_⟩:=J.pt
  have:=un_len J.st.ci fun c hc=>by
   obtain ⟨d,hd,rfl⟩:=List.mem_map.1 hc
   exact h4 d hd
  rwa [List.length_map] at this
 have hq:((x.hv.length+1:Nat):Int)<Re.quota lrn 100:=by
  rw [quota_eq ok.hl (by omega)]
  have:=ok.hq
  have:x.hv.length+1<QuP.quo lrn.toNat 100:=by omega
  exact Int.ofNat_lt.2 this
 have hwent:=J.st.went
 refine (conflict_ok J.sr J.st hN ⟨by omega,by omega⟩ (by rw [J.elrn];exact hq) hB r (by omega) (by omega) (by omega) (by omega) (by omega)).mono ?_
 rintro e w141 ⟨rfl,L2,x2,S2,k2,st2,C⟩
 obtain ⟨μ',P',m'⟩:=J.pt.conf ok J.elrn st2 C hwent (by omega)
 refine ⟨rfl,L2,x2,μ',⟨S2,st2,by rw [C.lrn];exact J.elrn,by rw [C.bud];exact J.ebud,by rw [C.ver];exact J.ver,?_,?_,?_,?_,?_,P',?_,?_⟩,k2,?_⟩
 · have h1:=C.nc;have h2:=C.cf
   rw [h2]
   refine ⟨by omega,by omega,fun hb=>by have:=hbud hb;omega⟩
 · have h1:=C.de;have h2:=C.cf
   have hb2:(x.s.R .be).length≤1000:=by have:=gJ.bel;have:=gJ.trl;have:=J.st.ci.v;omega
   rw [h1,h2]
   omega
 · have h1:=C.nc;have h2:=C.re
   omega
 · have h1:=C.nc;have h2:=C.dr
   omega
 · have h1:=C.nc;have h2:=C.pl
   omega
 · have h1:=C.nc
   omega
 · obtain ⟨h1,e1,e2⟩:=C.ch
   have:h1≤x.hv.length+1:=by omega
   have:x2.hv.length≤h1:=by omega
   omega
 · unfold lms
   have h2:(N - (x2.s.R .be).length)≤N:=Nat.sub_le _ _
   have h3:(μ'+1)* (N+1)≤μ* (N+1):=Nat.mul_le_mul_right _ m'
   rw [Nat.succ_mul] at h3
   omega
theorem sat_sol {b lrn:Int} {z:Nat} (hz:z≤w0.heap.size) {n5:Nat} {q:Sl} (J:LoS K w0 w1 B L1 N cs b lrn x μ) (hN:N≤1000) (hcl:Closed x.s) (ha: ∀v:Int,1≤v→v≤N→x.s.val v≠0) (S:SR w0 w B L N {x with m:= {x.m with ver:=1},ps:=Sl.nil,pr:= [],ms:=q,mo:=modl x.s N}) (h5:n5<w0.heap.size) (m:Mod (·=n5) w w'):
 SolP z w' N cs b (.returned (.tuple #[.agg #[.int .i64 1,.slice q.p q.n q.c,.slice none 0 0,.int .i64 x.m.cf,.int .i64 x.m.de,.int .i64 x.m.re,.int .i64 x.m.dr],.int .i64 0])):=by
 obtain ⟨d1,d2,d3⟩:=cdcl_sat J.st.ci hN hcl ha
 obtain ⟨o1,o2,o3⟩:=S.mo id
 have o2:q.n=(modl x.s N).length:=o2
 have o1:OwI ty_int w q.p q.c (modl x.s N):=o1
 refine ⟨_,_,_,_,_,_,_,_,_,_,_,_,rfl,J.cf.1,J.de.1,J.re.1,J.dr.1,.inr (.inl ⟨rfl,rfl,rfl,J.cf.2.2,modl x.s N,o2,o1.vw.keep m fun k hk (e:k=n5)=> ?_,fun k hk=>Nat.le_trans hz (o3 k hk).2,d1,d2,d3⟩)⟩
 have h1:=(o3 k hk).2
 omega
theorem unsat_sol {b lrn:Int} {z:Nat} {n5:Nat} {q sl:Sl} (J:LoS K w0 w1 B L1 N cs b lrn x μ) (hB:Brk x.s i) (h0:x.s.R .be= []) (S:SR w0 w B L N {x with m:= {x.m with ver:=2},ps:=q,pr:=x.pr++ [(false,sl,[])]}) (h5:n5<w0.heap.size) (hL:L n5=4) (m:Mod (·=n5) w w'):
 SolP z w' N cs b (.returned (.tuple #[.agg #[.int .i64 2,.slice x.ms.p x.ms.n x.ms.c,.slice q.p q.n q.c,.int .i64 x.m.cf,.int .i64 x.m.de,.int .i64 x.m.re,.int .i64 x.m.dr],.int .i64 0])):=by
 obtain ⟨o1,o2,o3⟩:=S.mo id
 obtain ⟨p1,p2,p3⟩:=S.pr id
 have p2:q.n=(x.pr++ [(false,sl,[])]).length:=p2
 have p1:Row 2 psE ty_api_Step w q.p q.c (x.pr++ [(false,sl,[])]):=p1
 have o2:x.ms.n=x.mo.length:=o2
 refine ⟨_,_,_,_,_,_,_,_,_,_,_,_,rfl,J.cf.1,J.de.1,J.re.1,J.dr.1,.inr (.inr ⟨rfl,rfl,by rw [o2,J.st.mo];rfl,J.cf.2.2,cdcl_unsat J.st.ci hB h0,x.pr++ [(false,sl,[])],p2,(p1.vr psEnc).keep m fun k hk (e:k=n5)=> ?_,fun v hv=> ?_,?_⟩)⟩
 · have h1:=(p3 k hk).2
   omega
 · have ro:=S.rr id v hv
   exact ⟨ro.n,ro.v.keep m fun k hk (e:k=n5)=>by
    have h1:=(ro.l k hk).1
    rw [e,hL] at h1;exact absurd h1 (by decide)⟩
 · rw [List.map_append]
   exact PF.fin J.st.pf J.st.ci.g hB h0
theorem sr_begin {b uni lrn:Int} {q:Option Addr} {m d n41 pb hb n49:Nat} {s:PSt} {H:Pt→Sl} {z:Hp.HS} (G:Grow w0 w) (e41:n41=w0.heap.size+1) (hN:N≤1000)
 (h:Has w n41 (Xs.cells {m:=⟨N,⟨q,m,d⟩,b,uni,lrn,uni,1,uni,0,0,0,0,0,0⟩,pb:=pb,hb:=hb,php:=⟨some ⟨w0.heap.size,0,none⟩,N+1,N+1⟩,hs:=Sl.nil,us:=Sl.nil,ps:=Sl.nil,ms:=Sl.nil,s:=s,S:=fun _=>True,ph:=List.replicate (N+1) 0,hv:= [],un:= [],pr:= [],mo:= []}))
 (pm:PM w pb H s) (hH: ∀y k,own pb H y=some k→n41<k∧k<n49) (hr:Hp.HRep w hb z) (hf:Hp.Fresh z N N) (hfo: ∀k,z.foot hb k→n49≤k) (hn:n41<n49) (o:OwI ty_int w (some ⟨w0.heap.size,0,none⟩) (N+1) (List.replicate (N+1) 0)) (gs:Good s) (nd:Newd N cs s) (ok:KOk K N lrn) (hK:uni=K.u) (hnc:cs.length+K.T≤262143):
 ∃μ,LoS K w0 w n41 (fun k=>if k<n41 then 4 else if k=n41 then 1 else if k<n49 then 2 else 3) N cs b lrn {m:=⟨N,⟨q,m,d⟩,b,uni,lrn,uni,1,uni,0,0,0,0,0,0⟩,pb:=pb,hb:=hb,php:=⟨some ⟨w0.heap.size,0,none⟩,N+1,N+1⟩,hs:=Sl.nil,us:=Sl.nil,ps:=Sl.nil,ms:=Sl.nil,s:=s,S:=fun _=>True,ph:=List.replicate (N+1) 0,hv:= [],un:= [],pr:= [],mo:= []} μ:=by
 obtain ⟨μ,P,hμ⟩:=PtS.new (x:= {m:=⟨N,⟨q,m,d⟩,b,uni,lrn,uni,1,uni,0,0,0,0,0,0⟩,pb:=pb,hb:=hb,php:=⟨some ⟨w0.heap.size,0,none⟩,N+1,N+1⟩,hs:=Sl.nil,us:=Sl.nil,ps:=Sl.nil,ms:=Sl.nil,s:=s,S:=fun _=>True,ph:=List.replicate (N+1) 0,hv:= [],un:= [],pr:= [],mo:= []}) ok nd.be nd.v hK rfl hK rfl rfl rfl
 have hT:=ok.ht
 refine ⟨μ,?_⟩
 have nn: ∀k,blk (none:Option Addr)≠some k:=fun k hk=>by simp [blk] at hk
 have hl:=h.lt
 have hncs:=nd.n
 refine ⟨⟨G,fun _=>h,⟨?_,by omega,hl⟩,fun _=> ⟨H,pm,fun y k hk=> ⟨?_,?_⟩⟩,fun _=> ⟨z,hr,hf.good (by omega),fun v v1 v2=> ?_,fun k hk=> ⟨?_,?_⟩⟩,fun _=> ⟨o,by simp,fun k hk=> ?_⟩,fun _=> ⟨Row.nil _ _ _ _,rfl,fun k hk=>absurd hk (nn k)⟩,fun _ u hu=>by simp at hu,fun _=> ⟨Ow.nil _ _ _,rfl,fun k hk=>absurd hk (nn k)⟩,fun _ u hu=>by simp at hu,fun _=> ⟨Row.nil _ _ _ _,rfl,fun k hk=>absurd hk (nn k)⟩,fun _ u hu=>by simp at hu,fun _=> ⟨Ow.nil _ _ _,rfl,fun k hk=>absurd hk (nn k)⟩⟩,
  ⟨csi_new nd gs,chi_top fun _=>trivial,by simp,rfl,by simp,⟨Int.le_refl _,by show (0:Int)≤100;decide⟩,PF.new nd,rfl⟩,rfl,rfl,rfl,⟨Int.le_refl _,by show (0:Int)≤(s.nc:Int);omega,fun h=>h⟩,⟨Int.le_refl _,by show (0:Int)≤1000*0+ ((s.R .be).length:Int);omega⟩,⟨Int.le_refl _,by show (0:Int)≤(s.nc:Int);omega⟩,⟨Int.le_refl _,by show (0:Int)+ ((0:Nat):Int)≤(s.nc:Int);omega⟩,Nat.zero_le _,P,?_,by show 0+μ≤_;omega⟩
 · show (if n41<n41 then 4 else if n41=n41 then 1 else _)=1
   rw [if_neg (by omega),if_pos rfl]
 · have h1:=hH y k hk
   show (if k<n41 then 4 else if k=n41 then 1 else if k<n49 then 2 else 3)=2
   rw [if_neg (by omega),if_neg (by omega),if_pos (by omega)]
 · have h1:=hH y k hk;omega
 · rw [hf.au v (by omega) (by omega),if_pos v2]
   exact ⟨fun _=>trivial,fun _=>by omega⟩
 · have h1:=hfo k hk
   show (if k<n41 then 4 else if k=n41 then 1 else if k<n49 then 2 else 3)=3
   rw [if_neg (by omega),if_neg (by omega),if_neg (by omega)]
 · have h1:=hfo k hk;omega
 · have h1:=blk_some hk
   subst h1
   refine ⟨?_,Nat.le_refl _⟩
   show (if w0.heap.size<n41 then 4 else _)=4
   rw [if_pos (by omega)]
 · show s.nc+μ≤_
   omega
theorem solve_ok {k b uni lrn:Int} {q:Option Addr} {m d:Nat} {hs:List Sl} (hc:V2 (Value.int .i64) w q hs cs) (hm:m=cs.length) (hcn:cnfB k cs=true) (hset:setB uni lrn=true) (hk:k=N) (hN:N≤1000) (ok:KOk K N lrn) (hK:uni=K.u) (hnc:cs.length+K.T≤262143):
 Calls prog cdcl_Solve.id #[.agg #[.int .i64 k,.slice q m d],.agg #[.int .i64 b,.int .i64 uni,.int .i64 lrn]] w fun e w'=>SolP w.heap.size w' N cs b e∧Grow w w':=by
 subst hk
 refine cdcl_Solve.calls ?_
 intro n1 w2 h2 n3 w4 h4 n5 w6 h6
 have G6:=(h2.mod.trans h4.mod).trans h6.mod
 have A1:=(h2.has.grow h4.mod).grow h6.mod
 have A3:=h4.has.grow h6.mod
 have e1:=h2.num;have e3:=h4.num;have e5:=h6.num
 have s2:=h2.size;have s4:=h4.size;have s6:=h6.size
 refine ⟨_,_,_,_,⟨cell_add A1 rfl,cell_add A1 rfl,trivial⟩,(checkCnf_ok (hc.grow G6) hm).mono ?_⟩
 rintro e w9 ⟨rfl,g9⟩
 rw [hcn]
 refine ⟨_,rfl,cnd_f rfl ⟨_,_,_,⟨cell_add (A3.grow g9) rfl,cell_add (A3.grow g9) rfl,cell_add (A3.grow g9) rfl,trivial⟩,(ccheck_ok _ _ _ _).mono ?_⟩⟩
 rintro e w22 ⟨rfl,g22⟩
 rw [hset]
 have gd:Grow w22 w22.drew:=(Mod.refl w22).drew
 have G22:=(g9.trans g22).trans gd
 have V0:=(hc.grow G6).grow G22
 have B1:=A1.grow G22
 have B3:=A3.grow G22
 have B5:=h6.has.grow G22
 have s22:=G22.size
 obtain ⟨w0,hw0⟩: ∃w0,w0=w22.drew:=⟨_,rfl⟩
 have Gw:Grow w w0:=by rw [hw0];exact G6.trans G22
 rw [← hw0] at B1 B3 B5 V0 s22 ⊢
 refine ⟨_,rfl,cnd_f rfl ⟨Grow w0,Mod.refl _,_,_,_,_,fun v gv=> ⟨cell_add (B1.grow gv) rfl,cell_add (B1.grow gv) rfl,trivial⟩,_,_,_,fun v gv=> ⟨cell_add (B3.grow gv) rfl,cell_add (B3.grow gv) rfl,cell_add (B3.grow gv) rfl,trivial⟩,_,fun v gv=>cell_add (B1.grow gv) rfl,?_⟩⟩
 have e0:IntKind.i64.wrap ((N:Int)+1)=((N+1:Nat):Int):=by rw [wrap64_of (by omega) (by omega)];omega
 rw [e0]
 refine make_i sl_intC Re.int_zero (x:=(0:Int)) rfl (N+1) rfl (by omega) fun w39 o39 g39 z39=> ⟨g39,fun n41 w42 h42=> ?_⟩
 have e41:=h42.num
 have s42:=h42.size
 have G42:=g39.trans h42.mod
 refine ⟨_,_,_,_,⟨cell_add (B1.grow G42) rfl,cell_add (B1.grow G42) rfl,trivial⟩,(new_ok (V0.grow G42) hm).mono ?_⟩
 rintro e w45 (⟨hno,_,_⟩| ⟨_,pb,s,H,rfl,pm,gs,nd,g45,hH⟩)
 · rw [hcn] at hno;exact absurd hno (by decide)
 rw [Int.toNat_natCast] at nd
 have s45:=g45.size
 have l41:=h42.has.lt
 refine ⟨_,_,rfl,_,rfl,?_⟩
 refine store_f (h42.has.grow g45) rfl rfl fun w49 H49 m49=> ?_
 have s49:=m49.size
 have pm49:=pm.keep m49 fun y k hk (e:k=n41)=>by have:=hH y k hk;omega
 have M49:Grow w0 w49:=(G42.trans g45).then m49 fun k hk e=>by omega
 refine ⟨_,cell_add (B1.grow M49) rfl,(Hp.new_ok N (by omega)).mono ?_⟩
 rintro e w51 ⟨hb,z,rfl,hr,hf,hfo,g51⟩
 have s51:=g51.size
 refine ⟨_,_,rfl,_,rfl,?_⟩
 refine store_f (H49.grow g51) rfl rfl fun w55 H55 m55=> ?_
 have s55:=m55.size
 have pm55:=(pm49.grow g51).keep m55 fun y k hk (e:k=n41)=>by have:=hH y k hk;omega
 have hr55:=hr.keep m55 fun k hk (e:k=n41)=>by have:=hfo k hk;omega
 have M55:Grow w0 w55:=(M49.trans g51).then m55 fun k hk e=>by omega
 refine ⟨_,cell_add (B3.grow M55) rfl,(Lu.start_spec _ _).mono ?_⟩
 rintro e w57 ⟨rfl,g57⟩
 have s57:=g57.size
 have hsu:1≤uni∧uni≤1048576:=by
  unfold setB at hset
  simp only [decide_eq_true_eq] at hset
  omega
 rw [if_pos hsu]
 refine ⟨_,_,_,_,rfl,_,rfl,?_⟩
 refine store_f (H55.grow g57) rfl rfl fun w63 H63 m63=> ?_
 have pm63:=(pm55.grow g57).keep m63 fun y k hk (e:k=n41)=>by have:=hH y k hk;omega
 have hr63:=(hr55.grow g57).keep m63 fun k hk (e:k=n41)=>by have:=hfo k hk;omega
 have M63:Grow w0 w63:=(M55.trans g57).then m63 fun k hk e=>by omega
 have s63:=m63.size
 have o63:OwI ty_int w63 (some ⟨w0.heap.size,0,none⟩) (N+1) (List.replicate (N+1) 0):=((((((o39.grow h42.mod).grow g45).keep m49 fun k hk (e:k=n41)=>by have:=blk_some hk;omega).grow g51).keep m55 fun k hk (e:k=n41)=>by have:=blk_some hk;omega).grow g57).keep m63 fun k hk (e:k=n41)=>by have:=blk_some hk;omega
 obtain ⟨μ0,ST0⟩:=sr_begin (cs:=cs) (b:=b) (lrn:=lrn) (n49:=w49.heap.size) M63 (by omega) hN H63 pm63 (fun y k hk=>by have:=hH y k hk;have:=pm.lt y k hk;omega) hr63 hf hfo (by omega) o63 gs nd ok hK hnc
 clear H63 pm63 hr63 o63 H55 pm55 hr55 H49 pm49 hr hf
 refine ⟨fun u z=> ∃ (L:Nat→Nat) (x:Xs) (μ:Nat),LoS K w0 u n41 L N cs b lrn x μ∧L n5=4∧z=lms N μ x,⟨_,_,_,_,ST0,by show (if n5<n41 then 4 else _)=4;rw [if_pos (by omega)],rfl⟩,?_⟩
 clear ST0
 have l5:n5<w0.heap.size:=B5.lt
 rintro w67 z67 _ ⟨L,x,μ,I,hL5,rfl⟩
 have lb: ∀ {u v:World} {L1 L2:Nat→Nat},Grow w0 u→Kp w0 u v L1 L2→L1 n5=4→L2 n5=4:=fun gu k h=>by rw [k.lab n5 (Nat.lt_of_lt_of_le l5 gu.size)];exact h
 have gW: ∀ {u v:World} {L2:Nat→Nat} {y:Xs},SR w0 u n41 L2 N y→Mod (·=n5) u v→Grow w v:=fun S m=>Mod.fresh (Gw.trans S.g) m (by omega)
 refine ⟨_,rfl,_,cell_add I.sr.at rfl,I.run_.mono ?_⟩
 rintro e w70 ⟨r71,rfl,L70,x70,I70,k70,ems,hh⟩
 have hL70:=lb I.sr.g k70 hL5
 refine ⟨_,rfl,fun v u=> (v=true∧r71<0∧∃L1 x1 μ1,LoS K w0 u n41 L1 N cs b lrn x1 μ1∧L1 n5=4∧Closed x1.s∧∀v:Int,1≤v→v≤N→x1.s.val v≠0)∨(v=false∧r71<0∧∃L1 x1 μ1,LoS K w0 u n41 L1 N cs b lrn x1 μ1∧L1 n5=4∧lms N μ1 x1<lms N μ x)∨(v=false∧∃ (L1:Nat→Nat) (x1:Xs) (μ1 i:Nat),LoS K w0 u n41 L1 N cs b lrn x1 μ1∧L1 n5=4∧lms N μ1 x1=lms N μ x∧r71=i∧Brk x1.s i),?_,?_⟩
 · refine cnd_i (fun r=> ?_) (fun r=> ?_)
   · have r:r71<0:=by simpa using r
     have hcl:Closed x70.s:=by
      rcases hh with ⟨_,c⟩| ⟨i,e,_⟩
      · exact c
      · omega
     refine (I70.dec_ hN hcl).mono ?_
     rintro e w73 ⟨r74,rfl,L73,x73,I73,k73,hd⟩
     refine ⟨_,rfl,?_⟩
     rcases hd with ⟨rfl,hc3,ha⟩| ⟨rfl,hlt⟩
     · exact .inl ⟨rfl,r,L73,x73,_,I73,lb I70.sr.g k73 hL70,hc3,ha⟩
     · exact .inr (.inl ⟨rfl,r,L73,x73,_,I73,lb I70.sr.g k73 hL70,by omega⟩)
   · have r: ¬r71<0:=by simpa using r
     rcases hh with ⟨e,_⟩| ⟨i,e,hB⟩
     · omega
     · exact .inr (.inr ⟨rfl,L70,_,_,i,I70,hL70,ems,e,hB⟩)
 · rintro v75 w76 _ (⟨rfl,_,L1,x1,μ1,J,hL1,hcl,ha⟩| ⟨rfl,r,L1,x1,μ1,J,hL1,hlt⟩| ⟨rfl,L1,x1,μ1,i,J,hL1,hle,rfl,hB⟩)
   · refine cnd_t rfl ((csat_ok J.sr J.st.ci.g J.st.ci.v hN J.st.n J.st.mo).mono ?_)
     rintro e w77 ⟨rfl,L77,q77,S77,k77⟩
     exact ⟨rfl,out_w (K:=fun v w'=>SolP w.heap.size w' N cs b (.returned (.tuple #[v,.int .i64 0]))∧Grow w w') S77.at (B5.grow S77.g) fun w' m'=> ⟨sat_sol (x:=x1) Gw.size J hN hcl ha S77 l5 m',gW S77 m'⟩⟩
   · exact cnd_f rfl (cnd_t (by simpa using r) ⟨_,hlt,L1,x1,_,J,hL1,rfl⟩)
   · obtain ⟨H1,pm1,_⟩:=J.sr.pm id
     refine cnd_f rfl (cnd_f (by simp) ⟨_,rfl,_,cell_add J.sr.at rfl,(levels_ok pm1).mono ?_⟩)
     rintro e w96 ⟨rfl,rfl⟩
     refine ⟨_,rfl,cnd_i (fun r=> ?_) (fun r=> ?_)⟩
     · have r:(x1.s.R .be).length=0:=by simpa using r
       have r:x1.s.R .be= []:=List.eq_nil_of_length_eq_zero r
       have hpl:=J.pl
       have hnc2:=J.nc
       refine (told_ok J.sr (by omega) (l:= []) (p:=none) (n:=0) (c:=0) Vw.nil rfl (by omega)).mono ?_
       rintro e w98 ⟨rfl,L98,q98,sl98,S98,k98⟩
       refine ⟨rfl,_,rfl,?_⟩
       refine store_f2 S98.at rfl rfl fun w100 h100 m100=> ?_
       obtain ⟨S100,k100⟩:=S98.own (m':= {x1.m with ver:=2}) h100 m100
       exact out_w (K:=fun v w'=>SolP w.heap.size w' N cs b (.returned (.tuple #[v,.int .i64 0]))∧Grow w w') S100.at (B5.grow S100.g) fun w' m'=> ⟨unsat_sol (x:=x1) J hB r S100 l5 (lb S98.g k100 (lb J.sr.g k98 hL1)) m',gW S100 m'⟩
     · have r:0< (x1.s.R .be).length:=by
        rcases Nat.eq_zero_or_pos (x1.s.R .be).length with e|e
        · rw [e] at r;simp at r
        · exact e
       have D:=J.drew
       have ebud:=J.ebud
       have conf:(0≤b→x1.m.cf<b)→Calls prog cdcl_search_conflict.id #[.pointer (some (Addr.mk n41 0 none)),.int .i64 i] w96.drew fun e w141=>e= .returned (.tuple #[])∧∃k66,k66<lms N μ x∧∃ (L:Nat→Nat) (x:Xs) (μ:Nat),LoS K w0 w141 n41 L N cs b lrn x μ∧L n5=4∧k66=lms N μ x:=by
        intro hbud
        refine (D.conf_ ok hN hB r hbud).mono ?_
        rintro e w141 ⟨rfl,L2,x2,μ2,I2,k2,hlt⟩
        exact ⟨rfl,_,by omega,L2,x2,μ2,I2,lb D.sr.g k2 hL1,rfl⟩
       refine ⟨_,rfl,_,cell_add2 D.sr.at rfl,?_⟩
       rw [ebud]
       refine cnd_i (fun rb=> ?_) (fun rb=> ?_)
       · have rb:0≤b:=by simpa using rb
         refine ⟨_,rfl,_,cell_add2 D.sr.at rfl,_,rfl,_,cell_add2 D.sr.at rfl,?_⟩
         rw [ebud]
         refine cnd_i (fun rc=> ?_) (fun rc=> ?_)
         · have rc:b≤x1.m.cf:=by simpa using rc
           refine ⟨_,rfl,?_⟩
           refine store_f2 D.sr.at rfl rfl fun w124 h124 m124=> ?_
           have h124:Has w124 n41 ({x1 with ps:=Sl.nil}:Xs).cells:=h124
           have hm124:Grow w0 w124:=D.sr.g.then m124 fun k hk (e:k=n41)=>by omega
           obtain ⟨o1,o2,o3⟩:=D.sr.mo id
           refine out_w (K:=fun v w'=>SolP w.heap.size w' N cs b (.returned (.tuple #[v,.int .i64 6]))∧Grow w w') h124 (B5.grow hm124) fun w' m'=> ⟨?_,Mod.fresh (Gw.trans hm124) m' (by omega)⟩
           have:=J.cf.2.2 rb
           exact ⟨_,_,_,_,_,_,_,_,_,_,_,_,rfl,J.cf.1,J.de.1,J.re.1,J.dr.1,.inl ⟨rfl,J.ver,by show x1.ms.n=0;rw [o2,J.st.mo];rfl,rfl,rb,by show x1.m.cf=b;omega⟩⟩
         · have rc: ¬b≤x1.m.cf:=by simpa using rc
           exact conf fun _=>by omega
       · have rb: ¬0≤b:=by simpa using rb
         exact conf fun h=>absurd h rb
end
end Go.Proofs.YtddffgjagppimaaGreat.W
