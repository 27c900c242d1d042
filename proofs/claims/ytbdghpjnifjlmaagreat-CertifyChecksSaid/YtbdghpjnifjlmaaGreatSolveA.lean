/- Layer 14: the search: its parts. -/
import Derived.Test.YtbdghpjnifjlmaaGreatPfA
import Derived.Test.YtbdghpjnifjlmaaGreatRupA
import Derived.Test.YtbdghpjnifjlmaaGreatRupC
import Derived.Test.YtbdghpjnifjlmaaGreatLubyA
namespace Go.Proofs.YtbdghpjnifjlmaaGreat.W
open Go Go.Fw Go.RowKit Go.SoP Go.LiP
section
open Go.LeP
variable {w0 w w' w1 w2 u:World} {B N i:Nat} {L L' L1:Nat→Nat} {x:Xs} {l:List Int} {cs:List (List Int)} {hv:List (Nat × List Int)} {un:List (List Int)}
def setB (u l:Int):Bool:=decide (1≤u∧u≤1048576∧1≤l∧l≤1048576)
theorem ccheck_ok (b u l:Int) (w:World):Calls Tryz.prog cdcl_Check.id #[.agg #[.int .i64 b,.int .i64 u,.int .i64 l]] w fun e w'=>e= .returned (.int .i64 (if setB u l then 0 else 1))∧Grow w w':=by
 refine cdcl_Check.calls ?_
 intro n1 w2 h2
 have R: ∀ {r:Int},r=(if setB u l then 0 else 1)→Ending.returned (.int .i64 r)= .returned (.int .i64 (if setB u l then 0 else 1))∧Grow w w2:=fun e=> ⟨by rw [e],h2.mod⟩
 have F: ¬(1≤u∧u≤1048576∧1≤l∧l≤1048576)→(1:Int)=(if setB u l then 0 else 1):=fun h=>by unfold setB;rw [decide_eq_false h];rfl
 refine ⟨_,cell_add h2.has rfl,cnd_i (fun r1=>R (F ?_)) (fun r1=> ⟨_,cell_add h2.has rfl,cnd_i (fun r2=>R (F ?_)) (fun r2=> ⟨_,cell_add h2.has rfl,cnd_i (fun r3=>R (F ?_)) (fun r3=> ⟨_,cell_add h2.has rfl,cnd_i (fun r4=>R (F ?_)) (fun r4=>R ?_)⟩)⟩)⟩)⟩
 all_goals simp only [decide_eq_true_eq,decide_eq_false_iff_not] at*
 all_goals first|omega|skip
 unfold setB
 rw [decide_eq_true (by omega)];rfl
theorem SR.run (h:SR w0 w B L N x) (g:Good x.s):Calls Tryz.prog prop_Prop_Run.id #[ptrV x.pb] w fun e w'=> ∃r:Int,e= .returned (.int .i64 r)∧∃s' L',SR w0 w' B L' N {x with s:=s'}∧Kp w0 w w' L L'∧Good s'∧Ext x.s s'∧((r= -1∧Closed s')∨∃i:Nat,r=i∧Brk s' i):=by
 obtain ⟨H,pm,hl⟩:=h.pm id
 refine (run_ok pm g).mono ?_
 rintro e w' ⟨r,rfl,s',H',p,g',ex,hh⟩
 have:=h.prop hl pm.lt p
 exact ⟨r,rfl,s',_,this.1,this.2,g',ex,hh⟩
theorem u0_brk {s:PSt} (k:CSI N cs s hv un) (hn:s.nc=cs.length) (h0:s.R .be= []) (hc:Closed s): ¬uB cs []:=by
 have:=told_uB (cs:=cs) (c:= []) (r:= -1) k.g (.inl ⟨rfl,hc⟩) (fun x=> ⟨fun hx=> ?_,fun ⟨i,hi,e⟩=> ?_⟩) rfl (fun x hx=>by simp at hx) (fun x hx=>by unfold PSt.dec at hx;rw [h0] at hx;simp at hx)
 · intro h
   have:=this.2 h
   omega
 · obtain ⟨j,hj,rfl⟩:=List.mem_iff_getElem.1 hx
   obtain ⟨h1,h2⟩:=k.fc j hj
   exact ⟨j,h1,by rw [h2];simp [List.getD,hj]⟩
 · have hj:i<cs.length:=by have:=hi.1;omega
   obtain ⟨h1,h2⟩:=k.fc i hj
   rw [← e,h2]
   simp [List.getD,hj]
theorem csi_new {s:PSt} (d:Newd N cs s) (g:Good s):CSI N cs s [] []:=by
 have fc: ∀j,j<cs.length→s.There j∧s.R (.a j)=cs.getD j []:=fun j hj=> ⟨⟨by rw [d.n];exact hj,d.g j hj⟩,d.a j hj⟩
 refine ⟨g,d.v,fc,fun i hi v m hc=> ?_,by simp,by simp,by simp,fun j hj=> ?_,by simp,by simp⟩
 · have hi':i<cs.length:=by have:=hi.1;rw [d.n] at this;exact this
   rw [d.a i hi']
   refine hc _ ?_
   simp [List.getD,hi']
 · rw [d.be] at hj;simp at hj
end
section
variable {W w w' w1 w2 u:World} {p q p1 p2:Option Addr} {n m d n1 n2 d1 d2:Nat} {k ver cf:Int} {hs:List Sl} {cs:List (List Int)} {mo:List Int} {al:List Stp}
noncomputable def ceR (k:Int) (cs:List (List Int)) (ver:Int) (mo:List Int) (al:List Stp):Int:=if cnfB k cs=true∧mayP al=true∧0≤ver∧ver≤2 then (if (ver=1∧(mo.length:Int)=k∧holdsP mo cs=true)∨(ver=2∧(pvP cs al).2=0) then 0 else 7) else 1
theorem ceR_no (h: ¬(cnfB k cs=true∧mayP al=true∧0≤ver∧ver≤2)):1=ceR k cs ver mo al:=by unfold ceR;rw [if_neg h]
theorem ceR_ok (h:cnfB k cs=true∧mayP al=true∧0≤ver∧ver≤2) (h2:(ver=1∧(mo.length:Int)=k∧holdsP mo cs=true)∨(ver=2∧(pvP cs al).2=0)):0=ceR k cs ver mo al:=by unfold ceR;rw [if_pos h,if_pos h2]
theorem ceR_bad (h:cnfB k cs=true∧mayP al=true∧0≤ver∧ver≤2) (h2: ¬((ver=1∧(mo.length:Int)=k∧holdsP mo cs=true)∨(ver=2∧(pvP cs al).2=0))):7=ceR k cs ver mo al:=by unfold ceR;rw [if_pos h,if_neg h2]
theorem certCheck_ok (hc:V2 (Value.int .i64) w p hs cs) (hn:n=cs.length) (v1:Vw (Value.int .i64) w p1 mo) (hn1:n1=mo.length) (hm1:n1≤maxLen) (hl:SV w p2 al) (hn2:n2=al.length) (hB:cs.length+n2<262144):
 Calls Tryz.prog certify_Check.id #[.agg #[.int .i64 k,.slice p n d],.agg #[.int .i64 ver,.slice p1 n1 d1,.slice p2 n2 d2,.int .i64 cf]] w fun e w'=>e= .returned (.int .i64 (ceR k cs ver mo al))∧Grow w w':=by
 refine certify_Check.calls ?_
 intro nf w2 h2 nc w4 h4
 have G4:=h2.mod.trans h4.mod
 have bf:=h2.has.grow h4.mod
 have bc:=h4.has
 have R: ∀ {u:World} {r:Int},Grow w u→r=ceR k cs ver mo al→Ending.returned (Value.int .i64 r)= .returned (.int .i64 (ceR k cs ver mo al))∧Grow w u:=fun g e=> ⟨by rw [e],g⟩
 refine ⟨_,_,_,_,cells2 bf,(checkCnf_ok (hc.grow G4) hn).mono ?_⟩
 rintro e w7 ⟨rfl,g7⟩
 have G7:=G4.trans g7
 refine ⟨_,rfl,?_⟩
 cases hcn:cnfB k cs with
 |false=>exact cnd_t rfl (R G7 (ceR_no fun h=>by rw [hcn] at h;cases h.1))
 |true=>
 refine cnd_f rfl ⟨_,_,_,cell_add (bc.grow g7) rfl,(traceCheck_ok (hl.grow G7) hn2 (by omega)).mono ?_⟩
 rintro e w10 ⟨rfl,g10⟩
 have G10:=G7.trans g10
 refine ⟨_,rfl,?_⟩
 cases hmy:mayP al with
 |false=>exact cnd_t rfl (R G10 (ceR_no fun h=>by rw [hmy] at h;cases h.2.1))
 |true=>
 have b:=bc.grow (g7.trans g10)
 have bf:=bf.grow (g7.trans g10)
 refine cnd_f rfl ⟨_,cell_add b rfl,cnd_i (fun r=>R G10 (ceR_no fun h=> ?_)) (fun r=> ⟨_,cell_add b rfl,cnd_i (fun r2=>R G10 (ceR_no fun h=> ?_)) (fun r2=> ⟨_,cell_add b rfl,cnd_i (fun r3=> ?_) (fun r3=> ?_)⟩)⟩)⟩
 · rw [decide_eq_true_eq] at r;omega
 · rw [decide_eq_true_eq] at r2;omega
 · rw [decide_eq_false_iff_not] at r r2
   have hv:cnfB k cs=true∧mayP al=true∧0≤ver∧ver≤2:=⟨hcn,hmy,by omega,by omega⟩
   have r3:ver=1:=by simpa using r3
   refine ⟨_,_,_,cell_add b rfl,_,cell_add bf rfl,cnd_i (fun r5=>R G10 (ceR_bad hv ?_)) (fun r5=> ⟨_,_,_,_,cells2 bf,_,_,_,cell_add b rfl,(litHolds_ok (hc.grow G10) hn (v1.grow G10) hn1 hm1).mono ?_⟩)⟩
   · have r5:(n1:Int)≠k:=by simpa using r5
     rintro (⟨_,h,_⟩| ⟨h,_⟩)<;>omega
   · have r5:(n1:Int)=k:=by simpa using r5
     rintro e w20 ⟨rfl,g20⟩
     refine ⟨_,rfl,?_⟩
     rw [hcn,Bool.true_and]
     cases hh:holdsP mo cs with
     |false=>exact cnd_t rfl (R (G10.trans g20) (ceR_bad hv (by rintro (⟨_,_,h⟩| ⟨h,_⟩);· rw [hh] at h;cases h
                                                                · omega)))
     |true=>exact cnd_f rfl (R (G10.trans g20) (ceR_ok hv (.inl ⟨r3,by omega,hh⟩)))
 · rw [decide_eq_false_iff_not] at r r2
   have hv:cnfB k cs=true∧mayP al=true∧0≤ver∧ver≤2:=⟨hcn,hmy,by omega,by omega⟩
   have r3:ver≠1:=by simpa using r3
   refine cnd_i (fun r4=> ⟨_,_,_,_,cells2 bf,_,_,_,cell_add b rfl,(rupProvesB_ok (hc.grow G10) hn hB (hl.grow G10) hn2).mono ?_⟩) (fun r4=>R G10 (ceR_bad hv ?_))
   · have r4:ver=2:=by simpa using r4
     rintro e w25 ⟨rfl,g25⟩
     rw [hcn,hmy]
     refine ⟨_,_,rfl,cnd_i (fun r6=>R (G10.trans g25) (ceR_bad hv ?_)) (fun r6=>R (G10.trans g25) (ceR_ok hv (.inr ⟨r4,?_⟩)))⟩
     · have r6:(pvP cs al).2≠0:=by simpa using r6
       rintro (⟨h,_⟩| ⟨_,h⟩)
       · omega
       · exact r6 h
     · simpa using r6
   · have r4:ver≠2:=by simpa using r4
     rintro (⟨h,_⟩| ⟨h,_⟩)<;>omega
theorem certSolve_ok {b uni lrn:Int} {A:Int→Nat→Nat→Int→Int→Prop} {B:Int→List Int→List Ps→Int→Prop} (hc:V2 (Value.int .i64) w p hs cs) (hn:n=cs.length)
 (hS: ∀u,Grow w u→Calls Tryz.prog cdcl_Solve.id #[.agg #[.int .i64 k,.slice p n d],.agg #[.int .i64 b,.int .i64 uni,.int .i64 lrn]] u fun e v=> ∃ (ver:Int) (mp:Option Addr) (mn mc:Nat) (pp:Option Addr) (pn pc:Nat) (cf de re dr er:Int),e= .returned (.tuple #[.agg #[.int .i64 ver,.slice mp mn mc,.slice pp pn pc,.int .i64 cf,.int .i64 de,.int .i64 re,.int .i64 dr],.int .i64 er])∧Grow u v∧
   ((er≠0∧A ver mn pn cf er)∨(er=0∧∃mo pr,Vw (Value.int .i64) v mp mo∧(mo= []∨∀j,blk mp=some j→u.heap.size≤j)∧mn=mo.length∧mn≤maxLen∧PrV u.heap.size v pp pr∧(∀u∈pr,u.2.2.length≤maxLen)∧pn=pr.length∧pn≤pc∧cs.length+pn<262144∧ceR k cs ver mo (pr.map ppr)=0∧B ver mo pr cf))):
 Calls Tryz.prog certify_Solve.id #[.agg #[.int .i64 k,.slice p n d],.agg #[.int .i64 b,.int .i64 uni,.int .i64 lrn]] w fun e v=> ∃ (ver:Int) (mp:Option Addr) (mn mc:Nat) (pp:Option Addr) (pn pc:Nat) (cf er:Int),e= .returned (.tuple #[.agg #[.int .i64 ver,.slice mp mn mc,.slice pp pn pc,.int .i64 cf],.int .i64 er])∧Grow w v∧
  ((er≠0∧A ver mn pn cf er)∨(er=0∧∃mo pr,Vw (Value.int .i64) v mp mo∧(mo= []∨∀j,blk mp=some j→w.heap.size≤j)∧mn=mo.length∧mn≤maxLen∧PrV w.heap.size v pp pr∧(∀u∈pr,u.2.2.length≤maxLen)∧pn=pr.length∧pn≤pc∧cs.length+pn<262144∧ceR k cs ver mo (pr.map ppr)=0∧B ver mo pr cf)):=by
 refine certify_Solve.calls ?_
 intro nf w2 h2 ns w4 h4 nr w6 h6
 have er0:=h6.num
 have z2:=h2.mod.size
 have z4:=h4.mod.size
 have z6:=h6.mod.size
 have G6:=(h2.mod.trans h4.mod).trans h6.mod
 have bf:=(h2.has.grow h4.mod).grow h6.mod
 have bs:=h4.has.grow h6.mod
 have br:=h6.has
 refine ⟨_,_,_,_,cells2 bf,_,_,_,cells3 bs,(hS w6 G6).mono ?_⟩
 rintro e w12 ⟨ver,mp,mn,mc,pp,pn,pc,cf,de,re,dr,er,rfl,g12,hP⟩
 refine ⟨_,_,_,_,_,_,_,_,_,_,_,_,rfl,fun n21 w22 h22=> ?_⟩
 have e21:=h22.num
 have z12:=g12.size
 refine store_i h22.has rfl rfl fun w23 b23 m23=> ?_
 have b23:Has w23 n21 #[.int .i64 ver,.slice mp mn mc,.slice pp pn pc,.int .i64 cf,.int .i64 de,.int .i64 re,.int .i64 dr]:=b23
 have g23:Grow w12 w23:=h22.mod.then m23 fun j hj e=>by omega
 refine ⟨_,cell_add b23 rfl,_,_,_,cell_add b23 rfl,_,_,_,cell_add b23 rfl,_,cell_add b23 rfl,fun n28 w29 h29=> ?_⟩
 have e28:=h29.num
 have z23:=g23.size
 refine store_i h29.has rfl rfl fun w30 b30 m30=> ?_
 have b30:Has w30 n28 #[.int .i64 ver,.slice mp mn mc,.slice pp pn pc,.int .i64 cf]:=b30
 have g30:Grow w12 w30:=g23.trans (h29.mod.then m30 fun j hj e=>by omega)
 have G30:=(G6.trans g12).trans g30
 have z30:=(g12.trans g30).size
 have ir:=br.lt
 have fin: ∀ {v:World} {K:Value→World→Prop},Grow w30 v→(∀v',Mod (·=nr) v v'→K (.agg #[.int .i64 ver,.slice mp mn mc,.slice pp pn pc,.int .i64 cf]) v')→∃x31 x32p x32n x32c x33p x33n x33c x34,CellsAt v (Addr.mk n28 0 none) 0 [.int .i64 x31,.slice x32p x32n x32c,.slice x33p x33n x33c,.int .i64 x34]∧
  ∃w35,StoreAt (Addr.mk nr 0 none) 0 [.int .i64 x31,.slice x32p x32n x32c,.slice x33p x33n x33c,.int .i64 x34] v w35∧
  ∃x36 x37p x37n x37c x38p x38n x38c x39,CellsAt w35 (Addr.mk nr 0 none) 0 [.int .i64 x36,.slice x37p x37n x37c,.slice x38p x38n x38c,.int .i64 x39]∧
  K (.agg #[.int .i64 x36,.slice x37p x37n x37c,.slice x38p x38n x38c,.int .i64 x39]) w35:=by
  intro v K gv hK
  have b:=b30.grow gv
  refine ⟨_,_,_,_,_,_,_,_,⟨cell_add b rfl,cell_add b rfl,cell_add b rfl,cell_add b rfl,trivial⟩,store_i (br.grow ((g12.trans g30).trans gv)) rfl rfl fun w35 b35 m35=> ?_⟩
  have b35:Has w35 nr #[.int .i64 ver,.slice mp mn mc,.slice pp pn pc,.int .i64 cf]:=b35
  exact ⟨_,_,_,_,_,_,_,_,⟨cell_add b35 rfl,cell_add b35 rfl,cell_add b35 rfl,cell_add b35 rfl,trivial⟩,hK w35 m35⟩
 rcases hP with ⟨hne,hA⟩| ⟨rfl,mo,pr,hv,hf,hmn,hmx,hl,hlx,hpn,hpc,hB,hR,hb⟩
 · refine cnd_t (by simpa using hne) (fin (K:=fun x v=> ∃ (ver:Int) (mp:Option Addr) (mn mc:Nat) (pp:Option Addr) (pn pc:Nat) (cf er':Int),Ending.returned (.tuple #[x,.int .i64 er])= .returned (.tuple #[.agg #[.int .i64 ver,.slice mp mn mc,.slice pp pn pc,.int .i64 cf],.int .i64 er'])∧Grow w v∧
    ((er'≠0∧A ver mn pn cf er')∨(er'=0∧∃mo pr,Vw (Value.int .i64) v mp mo∧(mo= []∨∀j,blk mp=some j→w.heap.size≤j)∧mn=mo.length∧mn≤maxLen∧PrV w.heap.size v pp pr∧(∀u∈pr,u.2.2.length≤maxLen)∧pn=pr.length∧pn≤pc∧cs.length+pn<262144∧ceR k cs ver mo (pr.map ppr)=0∧B ver mo pr cf))) (Mod.refl _) fun v' m=> ?_)
   exact ⟨_,_,_,_,_,_,_,_,_,rfl,G30.then m fun j hj e=>by omega,.inl ⟨hne,hA⟩⟩
 · have gk:Grow w6 w30:=g12.trans g30
   refine cnd_f rfl ⟨_,_,_,_,cells2 (bf.grow gk),_,_,_,_,_,_,_,_,⟨cell_add b30 rfl,cell_add b30 rfl,cell_add b30 rfl,cell_add b30 rfl,trivial⟩,(certCheck_ok (hc.grow G30) hn (hv.grow g30) hmn hmx ((hl.sv hlx).grow g30) (by rw [List.length_map];exact hpn) hB).mono ?_⟩
   rintro e w46 ⟨rfl,g46⟩
   rw [hR]
   refine ⟨_,rfl,cnd_f rfl (fin (K:=fun x v=> ∃ (ver:Int) (mp:Option Addr) (mn mc:Nat) (pp:Option Addr) (pn pc:Nat) (cf er':Int),Ending.returned (.tuple #[x,.int .i64 0])= .returned (.tuple #[.agg #[.int .i64 ver,.slice mp mn mc,.slice pp pn pc,.int .i64 cf],.int .i64 er'])∧Grow w v∧
    ((er'≠0∧A ver mn pn cf er')∨(er'=0∧∃mo pr,Vw (Value.int .i64) v mp mo∧(mo= []∨∀j,blk mp=some j→w.heap.size≤j)∧mn=mo.length∧mn≤maxLen∧PrV w.heap.size v pp pr∧(∀u∈pr,u.2.2.length≤maxLen)∧pn=pr.length∧pn≤pc∧cs.length+pn<262144∧ceR k cs ver mo (pr.map ppr)=0∧B ver mo pr cf))) g46 fun v' m=> ?_)⟩
   have gv:Grow w v':=(G30.trans g46).then m fun j hj e=>by omega
   have z6w: ∀j,w6.heap.size≤j→w.heap.size≤j∧j≠nr:=fun j hj=>by omega
   have hv':Vw (Value.int .i64) v' mp mo:=by
    rcases hf with rfl|hf
    · exact Vw.nil
    · exact ((hv.grow g30).grow g46).keep m fun j hj=> (z6w j (hf j hj)).2
   have hl':=((hl.grow g30).grow g46).keep m fun j hj=> (z6w j hj).2
   exact ⟨_,_,_,_,_,_,_,_,_,rfl,gv,.inr ⟨rfl,mo,pr,hv',hf.imp id fun h j hj=> (z6w j (h j hj)).1,hmn,hmx,⟨hl'.v,hl'.r,fun e j hj=> (z6w j (hl'.f e j hj)).1,fun u hu j hj=> (z6w j (hl'.g u hu j hj)).1⟩,hlx,hpn,hpc,hB,hR,hb⟩⟩
end
section
open Go.LeP
variable {w w' w1 w2 u u':World} {N n14:Nat} {cs:List (List Int)} {mo:List Int} {ms:List (List Int)} {hs':List Sl} {gp:Option Addr} {gc:Nat}
theorem usual_ok (w:World):Calls Tryz.prog cdcl_Usual.id #[] w fun e w'=>e= .returned (.agg #[.int .i64 (-1),.int .i64 64,.int .i64 200])∧Grow w w':=by
 refine cdcl_Usual.calls ?_
 intro n1 w2 h2
 refine store_i h2.has rfl rfl fun w3 H3 m3=> ?_
 have H3:Has w3 n1 #[.int .i64 (-1),.int .i64 64,.int .i64 200]:=H3
 exact ⟨_,_,_,⟨cell_add H3 rfl,cell_add H3 rfl,cell_add H3 rfl,trivial⟩,rfl,Mod.fresh h2.mod m3 (by have:=h2.num;omega)⟩
end
end Go.Proofs.YtbdghpjnifjlmaaGreat.W
