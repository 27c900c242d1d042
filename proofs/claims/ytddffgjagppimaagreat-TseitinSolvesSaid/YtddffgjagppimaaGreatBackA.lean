/- slices.Backward's iterator: its contract. -/
import Derived.Test.YtddffgjagppimaaGreatCdA
import Derived.RangeFuncBox
import Derived.RangeFuncLeaves
import Derived.Shelf.Abstract
import Derived.WalkKit
import Derived.OwnWalkIn
import Derived.TacticsInMore
import Derived.LoopNIn
import Derived.LoopIn
namespace Go.Proofs
open Go.RowKit Go.Shelf Go.Fw
attribute [local go_sem] Oper.semAt_some
def bkF (zs:List Int) (k:Nat):Int × Int:=(((zs.length - 1 - k:Nat):Int),zs[zs.length - 1 - k]?.getD 0)
def bkL (zs:List Int) (k:Nat):List (Int × Int):=(List.range k).map (bkF zs)
theorem bkL_succ (zs:List Int) (k:Nat):bkL zs (k+1)=bkL zs k++ [bkF zs k]:=by simp [bkL,List.range_succ]
theorem bkL_len (zs:List Int) (k:Nat):(bkL zs k).length=k:=by simp [bkL]
set_option maxRecDepth 100000 in
set_option maxHeartbeats 2000000 in
theorem bk_in (n:Nat) (hn:1≤n) (l Bs b cap:Nat) (zs:List Int) (hreach:zs.length*8≤140737488351232) (T:Nat→Prop) (hTB:T Bs) (hTb:T b)
 (J Jx:List {x:Int × Int // x.2∈zs}→World→Prop)
 (hY: ∀pre x W1,J pre W1→pre.length<zs.length→YieldAt Fence.wide (n - 1) Tryz.prog l #[.int .i64 x.1.1,.int .i64 x.1.2] W1 fun e W'=>
   (e= .returned (.bool true)∧J (pre++ [x]) W'∧KpT T W1 W')∨(e= .returned (.bool false)∧Jx (pre++ [x]) W'))
 (W:World) (hBs:W.cell? ⟨Bs,0,none⟩=some (.slice (some ⟨b,0,none⟩) zs.length cap)) (hc: ∀j,j<zs.length→W.cell? ⟨b,0+j,none⟩=some (.int .i64 (zs[j]?.getD 0))) (h0:J [] W):
 CallsIn Fence.wide n Tryz.prog 123 #[.func (.yield l) #[] #[],.pointer (some ⟨Bs,0,none⟩)] W fun e W'=> (∃v,e= .returned v)∧
  ((∃ys,ys.map (·.1)=bkL zs zs.length∧J ys W')∨(∃pre,True∧Jx pre W')):=by
 refine callsIn_of_wp Tryz.func123 rfl trivial ?_ rfl
 simp only [show Tryz.f123.ntmps=19 from rfl,List.size_toArray,List.length_cons,List.length_nil,Nat.reduceAdd,Nat.reduceSub,Array.replicate_succ,Array.replicate_zero,List.push_toArray,List.append_toArray,List.nil_append,List.cons_append]
 gi_wp2
 gi_loopw [3] (fun i wr=> ∃k:Nat,k≤zs.length∧i= .int .i64 ((zs.length:Int) - 1 - k)∧(∃ys,ys.map (·.1)=bkL zs k∧J ys wr)∧KpT T W wr)
  (fun i _=> (intOf i+1).toNat)
 case atStart=>exact ⟨0,Nat.zero_le _,by simp,⟨[],rfl,h0⟩,fun _ _=>rfl⟩
 case round=>
  obtain ⟨k,hk,rfl,⟨ys,hys,hJs⟩,hnx⟩:=hrel
  have hbx:wr.cell? ⟨Bs,0,none⟩=some (.slice (some ⟨b,0,none⟩) zs.length cap):=by
   rw [← hBs];exact World.cell?_of_block (hnx Bs hTB)
  by_cases hlt:k<zs.length
  · have hcx:wr.cell? ⟨b,zs.length - 1 - k,none⟩=some (.int .i64 (zs[zs.length - 1 - k]?.getD 0)):=by
     have:=hc (zs.length - 1 - k) (by omega)
     rw [Nat.zero_add] at this
     rw [← this];exact World.cell?_of_block (hnx b hTb)
    have hmem:zs[zs.length - 1 - k]?.getD 0∈zs:=by simp [show zs.length - 1 - k<zs.length by omega]
    have hyl:ys.length=k:=by have:=congrArg List.length hys;simpa [bkL] using this
    obtain ⟨fn,tmps,assign,body,hy,hR⟩:=hY ys ⟨bkF zs k,hmem⟩ wr hJs (by rw [hyl];exact hlt)
    dsimp only [bkF] at hy
    have ei:(zs.length:Int) - 1 - k=((zs.length - 1 - k:Nat):Int):=by omega
    rw [ei]
    have ge:(0:Int)≤((zs.length - 1 - k:Nat):Int):=by omega
    gi_wp2
    refine hR.mono ?_
    rintro e W3 (⟨rfl,hJ3,hk3⟩| ⟨rfl,hJx3⟩)
    · gi_wp2
      go_roundw
      case rel=>exact ⟨k+1,by omega,by simp;omega,⟨_,by rw [List.map_append,hys,bkL_succ];rfl,hJ3⟩,fun j hj=> (hk3 j hj).trans (hnx j hj)⟩
      case measure=>simp [intOf]
    · gi_wp2
      refine bodyPost_ret (results_none rfl _ _ _) rfl ?_
      exact ⟨⟨_,rfl⟩,.inr ⟨_,trivial,hJx3⟩⟩
  · obtain rfl:k=zs.length:=by omega
    have ei:(zs.length:Int) - 1 - (zs.length:Int)= -1:=by omega
    rw [ei]
    gi_wp2
    go_end0
    exact ⟨⟨_,rfl⟩,.inl ⟨_,hys,hJs⟩⟩
set_option maxRecDepth 100000 in
set_option maxHeartbeats 2000000 in
theorem bk_nil (n:Nat) (l Bs:Nat) (J:List {x:Int × Int // x.2∈([]:List Int)}→World→Prop) (W:World) (hBs:W.cell? ⟨Bs,0,none⟩=some (.slice none 0 0)) (h0:J [] W):
 CallsIn Fence.wide n Tryz.prog 123 #[.func (.yield l) #[] #[],.pointer (some ⟨Bs,0,none⟩)] W fun e W'=> (∃v,e= .returned v)∧J [] W':=by
 refine callsIn_of_wp Tryz.func123 rfl trivial ?_ rfl
 simp only [show Tryz.f123.ntmps=19 from rfl,List.size_toArray,List.length_cons,List.length_nil,Nat.reduceAdd,Nat.reduceSub,Array.replicate_succ,Array.replicate_zero,List.push_toArray,List.append_toArray,List.nil_append,List.cons_append]
 gi_wp2
 gi_loopw [3] (fun i wr=>i= .int .i64 (-1)∧J [] wr) (fun _ _=>0)
 case atStart=>exact ⟨rfl,h0⟩
 case round=>
  obtain ⟨rfl,hJs⟩:=hrel
  gi_wp2
  go_end0
  exact ⟨⟨_,rfl⟩,hJs⟩
open Go.Proofs.YtddffgjagppimaaGreat.W in
theorem back_seq {w:World} {Bs:Nat} {sp:Option Addr} {cap:Nat} {zs:List Int} (hB:Has w Bs #[.slice sp zs.length cap]) (o:OwI ty_int w sp cap zs) (hreach:zs.length*8≤140737488351232):
 SeqB Tryz.prog 123 #[.pointer (some ⟨Bs,0,none⟩)] (bkL zs zs.length) (fun p=>p.2∈zs) (fun k=>k=Bs∨blk sp=some k) w:=by
 intro n hn l J Jx W hW _ _ hY h0
 have g:=Go.Fw.Mod.of_below hW
 have hB':=hB.grow g
 have o':=o.grow g
 rcases o'.un with ⟨rfl,rfl,rfl⟩| ⟨b,cur,rfl,_⟩
 · exact (bk_nil n l Bs J W (cell_of hB' rfl) h0).mono fun e W' ⟨he,hj⟩=> ⟨he,.inl ⟨[],rfl,hj⟩⟩
 · refine bk_in n hn l Bs b cap zs hreach (fun k=>k=Bs∨blk (some (⟨b,0,none⟩:Addr))=some k) (.inl rfl) (.inr rfl) J Jx (fun pre x W1 h1 h2=>hY pre x W1 h1 (by rw [bkL_len];exact h2)) W (cell_of hB' rfl) (fun j hj=> ?_) h0
   obtain ⟨a,e,hc⟩:=o'.vw j hj
   cases e
   rw [add_at] at hc
   rw [hc];simp [hj]
end Go.Proofs
namespace Go.Proofs.YtddffgjagppimaaGreat.W
open Go Go.Fw Go.RowKit Go.SoP Go.LiP Go.LeP
open Go.Proofs.Tryz (prog)
section
variable {w0 w w' w1 w2 W0:World} {B N:Nat} {L L':Nat→Nat} {x:Xs} {l:List Int}
theorem mapB_cone:mapB prog 136 ty_int ty_bool=true:=by kernel_rfl
abbrev MBc:=MB prog ty_int ty_bool
theorem tr_level {s:PSt} (g:Good s) {y:Int} (hy:y∈s.R .tr):0≤s.lev y∧s.lev y≤(s.R .be).length:=by
 obtain ⟨p,hp,e⟩:=tr_at hy
 have:=g.lv p hp
 rw [e] at this
 have h2:=List.countP_le_length (p:=fun e:Int=>decide (e≤(p:Int))) (l:=s.R .be)
 omega
theorem level_bd {s:PSt} (g:Good s) {y:Int} (hy:InV s.vars y): -1≤s.level y∧s.level y≤s.vars:=by
 have hb:=g.bel
 have ht:=g.trl
 unfold PSt.level
 split
 · rename_i h
   simp only [Bool.and_eq_true,bne_iff_ne,ne_eq] at h
   have h0: ¬(y ∉ s.R .tr∧ -y ∉ s.R .tr):=fun e=>h.2 ((val0_iff g hy).2 e)
   by_cases e:y∈s.R .tr
   · have:=tr_level g e;omega
   · have e2: -y∈s.R .tr:=Classical.byContradiction fun e2=>h0 ⟨e,e2⟩
     have:=tr_level g e2
     rw [lev_neg] at this;omega
 · omega
theorem level_in {s:PSt} (g:Good s) {y:Int} (hy:y∈s.R .tr):s.level y=s.lev y:=by
 have hv:=g.tv y hy
 unfold PSt.level
 have h1:=(isB_iff g.vmax).2 hv
 have h2:s.val y≠0:=by have:=(g.v1 y hv).2 hy;omega
 rw [if_pos (by simp [h1,h2])]
theorem reason_in {s:PSt} (g:Good s) {y:Int} (hy:y∈s.R .tr):s.reason y=s.rea y:=by
 have hv:=g.tv y hy
 unfold PSt.reason
 have h1:=(isB_iff g.vmax).2 hv
 have h2:s.val y≠0:=by have:=(g.v1 y hv).2 hy;omega
 rw [if_pos (by simp [h1,h2])]
theorem SR.level (h:SR w0 w B L N x) (g:Good x.s) (v:Int):Calls prog prop_Prop_Level.id #[ptrV x.pb,.int .i64 v] w fun e w'=>e= .returned (.int .i64 (x.s.level v))∧Grow w w':=by
 obtain ⟨H,pm,_⟩:=h.pm id
 exact level_ok' pm g.wf v
theorem SR.reason (h:SR w0 w B L N x) (g:Good x.s) (v:Int):Calls prog prop_Prop_Reason.id #[ptrV x.pb,.int .i64 v] w fun e w'=>e= .returned (.int .i64 (x.s.reason v))∧Grow w w':=by
 obtain ⟨H,pm,_⟩:=h.pm id
 exact reason_ok pm g.wf v
theorem SR.clause (h:SR w0 w B L N x) (g:Good x.s) (i:Int):Calls prog prop_Prop_Clause.id #[ptrV x.pb,.int .i64 i] w fun e w'=>
 ∃ (q:Option Addr) (d:Nat),e= .returned (.tuple #[.slice q (if x.s.is i then x.s.R (.a i.toNat) else []).length d,.bool (x.s.is i)])∧OwI ty_int w' q d (if x.s.is i then x.s.R (.a i.toNat) else [])∧Grow w w'∧(∀b,blk q=some b→w.heap.size≤b):=by
 obtain ⟨H,pm,_⟩:=h.pm id
 exact clause_ok pm i fun j=>by have:=g.al j;omega
theorem cnote_ok (h:SR w0 W0 B L N x) (g:Good x.s) (hv:x.s.vars=N) (hN:N≤1000) (G:Grow W0 w) {n1 n3 n5 n8 n10 k3 k8:Nat} {s3 s8:Int→Bool}
 (h1:Has w n1 #[ptrV B]) (h5:Has w n5 #[.map (some n3)]) (h10:Has w n10 #[.map (some n8)]) (M3:MBc w n3 k3 s3) (M8:MBc w n8 k8 s8) (ne:n3≠n8∧n1≠n3∧n1≠n8∧n5≠n3∧n5≠n8∧n10≠n3∧n10≠n8) (f3:W0.heap.size≤n3) (f8:W0.heap.size≤n8)
 {p:Option Addr} {n c:Nat} (vc:Vw (Value.int .i64) w p l) (hn:n=l.length) (hl:l.length≤4096) (hin: ∀y∈l,InV N y) (hk3:k3≤100000000) (hk8:k8≤100000000) (hp:l≠[]→∀b,blk p=some b→b≠n3∧b≠n8):
 Calls prog cdcl_search_cone_1.id #[.slice p n c,.pointer (some ⟨n5,0,none⟩),.pointer (some ⟨n10,0,none⟩),.pointer (some ⟨n1,0,none⟩)] w fun e w'=>e= .returned (.tuple #[])∧
  ∃s3' s8',MBc w' n3 (k3+l.length) s3'∧MBc w' n8 (k8+l.length) s8'∧Mod (fun b=>b=n3∨b=n8) w w':=by
 refine cdcl_search_cone_1.calls ?_
 obtain ⟨e1,e2,e3,e4,e5,e6,e7⟩:=ne
 refine ⟨fun V u k=> ∃ (t:Nat) (s3' s8':Int→Bool),V=t∧t≤l.length∧k=l.length - t∧MBc u n3 (k3+t) s3'∧MBc u n8 (k8+t) s8'∧Mod (fun b=>b=n3∨b=n8) w u,⟨_,0,s3,s8,rfl,Nat.zero_le _,rfl,M3,M8,Mod.refl _⟩,?_⟩
 rintro V u k _ ⟨t,s3',s8',rfl,ht,rfl,m3,m8,mm⟩
 refine cnd_i (fun r=> ?_) (fun r=> ?_)
 · have r:t<l.length:=by simp at r;omega
   have vu:=vc.keepN mm fun hne b hb e=>by have:=hp hne b hb;rcases e with e|e<;>simp_all
   refine vu.ix 0 (by omega) hn (by omega) fun a ha=> ⟨_,ha,?_⟩
   rw [Int.toNat_natCast]
   obtain ⟨y,hy⟩: ∃y,l.getD t 0=y:=⟨_,rfl⟩
   have hym:y∈l:=by rw [← hy];simp [List.getD,r]
   have hiv:=hin y hym
   have hb:=hiv.bd (by omega)
   have hav:=hiv.amt
   rw [hy]
   have H5:Has u n5 _:=h5.keep mm fun e=>by rcases e with e|e<;>omega
   have H10:Has u n10 _:=h10.keep mm fun e=>by rcases e with e|e<;>omega
   have H1:Has u n1 _:=h1.keep mm fun e=>by rcases e with e|e<;>omega
   refine ⟨fun v=>v=u.drew,rfl,_,atW_eq (cell_of H5.drew rfl),cdcl_amount.calls ⟨_,rfl,rfl,?_⟩⟩
   rw [imax_amt hb.1 hb.2]
   have m3d:MBc u.drew n3 (k3+t) s3':=m3.grow (Mod.refl u).drew
   have m8d:MBc u.drew n8 (k8+t) s8':=m8.grow (Mod.refl u).drew
   obtain ⟨w12,r12,M12,mo12⟩:=m3d.put mapB_cone (by unfold maxLen;omega) (a:=amt y) (wf64 (by omega) (by omega)) true
   refine ⟨w12,r12,fun v=>Grow w12.drew v,Mod.refl _,?_⟩
   have mmA:Mod (fun b=>b=n3∨b=n8) w w12.drew:=((mm.grow (Mod.refl u).drew).then mo12 fun b _ (e:b=n3)=> .inl e).grow (Mod.refl _).drew
   have H10':Has w12.drew n10 _:=(h10.keep mmA fun e=>by rcases e with e|e<;>omega)
   have H1':Has w12.drew n1 _:=(h1.keep mmA fun e=>by rcases e with e|e<;>omega)
   have GA:Grow W0 w12.drew:=G.then mmA fun b hb e=>by rcases e with e|e<;>omega
   have SA:=h.grow GA
   refine ⟨_,fun v gv=>cell_of (H10'.grow gv) rfl,_,fun v gv=>cell_of (H1'.grow gv) rfl,_,rfl,_,fun v gv=>cell_add (SA.at.grow gv) rfl,(SA.level g y).mono ?_⟩
   rintro e w18 ⟨rfl,g18⟩
   have hlb:=level_bd g (y:=y) (by rw [hv];exact hiv)
   have M8':=(m8d.put' mo12 (Ne.symm e1)).grow ((Mod.refl w12).drew.trans g18)
   obtain ⟨w20,r20,M20,mo20⟩:=M8'.put mapB_cone (by unfold maxLen;omega) (a:=x.s.level y) (wf64 (by omega) (by omega)) true
   refine ⟨_,rfl,g18,w20,r20,_,?_,t+1,_,_,wN (by omega) (by omega),by omega,rfl,(M12.grow ((Mod.refl w12).drew.trans g18)).put' mo20 e1,M20,(mmA.grow g18).then mo20 fun b _ (e:b=n8)=> .inr e⟩
   omega
 · have r:t=l.length:=by simp at r;omega
   subst r
   exact ⟨rfl,s3',s8',m3,m8,mm⟩
structure Pa where
 lit:Int
 lev:Int
 sl:Sl
 rs:List Int
def pa0:Pa:=⟨0,0,Sl.nil,[]⟩
def paE (a:Pa):List Value:= [.int .i64 a.lit,.int .i64 a.lev,a.sl.v]
theorem paEnc:Enc 3 paE:=⟨fun _=>rfl,by omega,fun x v hv=>by
 simp only [paE,List.mem_cons,List.not_mem_nil,or_false] at hv
 rcases hv with rfl|rfl|rfl<;>rfl⟩
def turned (l:List Pa) (k:Nat) (m:List Pa):Prop:=m.length=l.length∧∀i,i<l.length→m.getD i pa0=if i<k∨l.length≤i+k then l.getD (l.length - 1 - i) pa0 else l.getD i pa0
theorem getD_setP {b:List Pa} {i j:Nat} {x:Pa} (hi:i<b.length):(b.set i x).getD j pa0=if j=i then x else b.getD j pa0:=by
 simp only [List.getD_eq_getElem?_getD,List.getElem?_set]
 by_cases h:j=i
 · subst h;simp [hi]
 · rw [if_neg (fun e=>h e.symm),if_neg h]
theorem reverse_ok {p:Option Addr} {n c:Nat} {l:List Pa} (o:Row 3 paE ty_api_Assign w p c l) (hn:n=l.length) (hl:l.length≤1000000):Calls prog slices_Reverse_fathom_api_Assign_fathom_api_Assign.id #[.slice p n c] w fun e w'=>e= .returned (.tuple #[])∧Row 3 paE ty_api_Assign w' p c l.reverse∧Mod (fun b=>blk p=some b) w w':=by
 refine slices_Reverse_fathom_api_Assign_fathom_api_Assign.calls ?_
 subst hn
 refine ⟨fun I J u k=> ∃ (t:Nat) (m:List Pa),I=t∧J=(l.length:Int) - 1 - t∧t+t≤l.length+1∧k=l.length - t∧turned l t m∧Row 3 paE ty_api_Assign u p c m∧Mod (fun b=>blk p=some b) w u,
  ⟨_,0,l,rfl,by rw [wrap64_of (by omega) (by omega)];omega,by omega,rfl,⟨rfl,fun i hi=>by rw [if_neg (by omega)]⟩,o,Mod.refl _⟩,?_⟩
 rintro I J u k _ ⟨t,m,rfl,rfl,ht,rfl,⟨hm1,hm2⟩,R,M⟩
 refine cnd_i (fun r=> ?_) (fun r=> ?_)
 · have r:(t:Int)< (l.length:Int) - 1 - t:=by simpa using r
   obtain ⟨j,hj⟩: ∃j:Nat,(l.length:Int) - 1 - t=j:=⟨l.length - 1 - t,by omega⟩
   rw [hj]
   have Rd:=R.drew
   have v:=Rd.vr paEnc
   refine v.ix pa0 (by omega) hm1.symm (by omega) fun a ha=> ⟨_,_,_,_,_,ha,v.ix pa0 (by omega) hm1.symm (by omega) fun a2 ha2=> ⟨_,_,_,_,_,ha2,?_⟩⟩
   refine Rd.st paEnc (m.getD j pa0) rfl rfl (by omega) hm1.symm (by omega) fun w16 o16 m16=> ?_
   refine o16.st paEnc (m.getD t pa0) rfl rfl (by omega) (by rw [List.length_set];exact hm1.symm) (by omega) fun w18 o18 m18=> ?_
   refine ⟨_,?_,t+1,_,wN (by omega) (by omega),?_,by omega,rfl,⟨?_,fun i hi=> ?_⟩,o18,((M.grow (Mod.refl u).drew).trans m16).trans m18⟩
   · omega
   · rw [wrap64_of (by omega) (by omega)];omega
   · simp [hm1]
   · rw [Int.toNat_natCast,Int.toNat_natCast,getD_setP (by rw [List.length_set];omega),getD_setP (by omega)]
     have a1:=hm2 j (by omega)
     have a2:=hm2 t (by omega)
     rw [if_neg (by omega)] at a1 a2
     by_cases e:i=j
     · subst e
       rw [if_pos rfl,a2,if_pos (by omega)]
       congr 1;omega
     · rw [if_neg e]
       by_cases e2:i=t
       · subst e2
         rw [if_pos rfl,a1,if_pos (by omega)]
         congr 1;omega
       · rw [if_neg e2,hm2 i hi]
         by_cases e3:i<t∨l.length≤i+t
         · rw [if_pos e3,if_pos (by omega)]
         · rw [if_neg e3,if_neg (by omega)]
 · have r: ¬(t:Int)< (l.length:Int) - 1 - t:=by simpa using r
   refine ⟨rfl,?_,M⟩
   have:m=l.reverse:=by
    refine List.ext_getElem (by simp [hm1]) fun i h1 h2=> ?_
    have:=hm2 i (by omega)
    rw [List.getElem_reverse]
    have e1:m.getD i pa0=m[i]:=by simp [List.getD,h1]
    rw [← e1,this]
    have hi:i<l.length:=by omega
    by_cases e:i<t∨l.length≤i+t
    · rw [if_pos e];simp [List.getD,show l.length - 1 - i<l.length by omega]
    · rw [if_neg e]
      have:l.length - 1 - i=i:=by omega
      simp [List.getD,hi,this]
   rw [← this];exact R
end
section
variable {w0 w w' w1 w2 W0 w25 u u':World} {B N n1 n3 n5 n8 n10 n13 n18:Nat} {L L':Nat→Nat} {x:Xs} {l:List Int} {s:PSt} {pre:List (Int × Int)} {q:Sl} {pt:List Pa}
theorem kb_of {C:Nat} {T S:Nat→Prop} (m:Mod S u u') (hS: ∀r,S r→r<C∨∀o,u.heap[r]? =some o→o.isCells=true) (hT: ∀k,T k→¬S k) (hl: ∀k,T k→k<u.heap.size):KB C T u u':=by
 refine ⟨⟨m.size,fun k o hk ho hc=> ?_⟩,fun k hk=>m.block k (hl k hk) (hT k hk)⟩
 have hlt:k<u.heap.size:=(Array.getElem?_eq_some_iff.1 ho).1
 by_cases e:S k
 · rcases hS k e with h|h
   · omega
   · rw [h o ho] at hc;cases hc
 · exact (m.block k hlt e).trans ho
structure PaOk (s:PSt) (a:Pa):Prop where
 mem:a.lit∈s.R .tr
 lev:a.lev=s.lev a.lit
 rs:a.rs= []∨∃i,s.There i∧a.rs=s.R (.a i)
structure PaM (w25 u:World) (q:Sl) (a:Pa):Prop where
 n:a.sl.n=a.rs.length
 o: ∃d,OwI ty_int u a.sl.p d a.rs
 f: ∀b,blk a.sl.p=some b→w25.heap.size≤b∧blk q.p≠some b
structure CN (w w25:World) (n1 n3 n5 n8 n10 n13 n18:Nat):Prop where
 a:w.heap.size≤n1
 b:n1<n3
 c:n3<n5
 d:n5<n8
 e:n8<n10
 f:n10<n13
 g:n13<n18
 h:n18<w25.heap.size
structure CoI (w w25:World) (B n1 n3 n5 n8 n10 n13 n18:Nat) (s:PSt) (q:Sl) (pt:List Pa) (pre:List (Int × Int)) (u:World):Prop where
 g:Grow w u
 h1:Has u n1 #[ptrV B]
 h5:Has u n5 #[.map (some n3)]
 h10:Has u n10 #[.map (some n8)]
 h13:Has u n13 #[.func (.func 100) #[] #[.pointer (some ⟨n5,0,none⟩),.pointer (some ⟨n10,0,none⟩),.pointer (some ⟨n1,0,none⟩)]]
 m3: ∃k f,k≤4096+4096*pre.length∧MBc u n3 k f
 m8: ∃k f,k≤4096+4096*pre.length∧MBc u n8 k f
 h18:Has u n18 #[q.v]
 qn:q.n=pt.length
 r:Row 3 paE ty_api_Assign u q.p q.c pt
 rf: ∀b,blk q.p=some b→w25.heap.size≤b
 sub:(pt.map (·.lit)).Sublist (pre.map (·.2))
 pa: ∀a∈pt,PaOk s a
 pm: ∀a∈pt,PaM w25 u q a
theorem ow_cells {p:Option Addr} {d:Nat} (o:OwI ty_int u p d l): ∀b,blk p=some b→∀ob,u.heap[b]? =some ob→ob.isCells=true:=by
 intro b hb ob ho
 rcases o.un with ⟨rfl,_⟩| ⟨g,cur,rfl,hg,_⟩
 · simp [blk] at hb
 · simp [blk] at hb;subst hb
   rw [hg] at ho;cases ho;rfl
theorem row_cells {p:Option Addr} {d:Nat} (o:Row 3 paE ty_api_Assign u p d pt): ∀b,blk p=some b→∀ob,u.heap[b]? =some ob→ob.isCells=true:=by
 intro b hb ob ho
 rcases o.un with ⟨rfl,_⟩| ⟨g,cur,rfl,hg,_⟩
 · simp [blk] at hb
 · simp [blk] at hb;subst hb
   rw [hg] at ho;cases ho;rfl
theorem CoI.keep (h:CoI w w25 B n1 n3 n5 n8 n10 n13 n18 s q pt pre u) {S:Nat→Prop} (m:Mod S u u') (cn:CN w w25 n1 n3 n5 n8 n10 n13 n18) (hS: ∀r,S r→w25.heap.size≤r) (hr: ∀b,blk q.p=some b→¬S b) (hp: ∀a∈pt,∀b,blk a.sl.p=some b→¬S b):CoI w w25 B n1 n3 n5 n8 n10 n13 n18 s q pt pre u':=by
 obtain ⟨a,b,c,d,e,f,g,hh⟩:=cn
 have no: ∀k,k<w25.heap.size→¬S k:=fun k hk hs=>by have:=hS k hs;omega
 obtain ⟨k3,f3,b3,m3⟩:=h.m3
 obtain ⟨k8,f8,b8,m8⟩:=h.m8
 exact ⟨h.g.then m fun r hr hs=>by have:=hS r hs;omega,h.h1.keep m (no _ (by omega)),h.h5.keep m (no _ (by omega)),h.h10.keep m (no _ (by omega)),h.h13.keep m (no _ (by omega)),⟨k3,f3,b3,m3.keep m (no _ (by omega))⟩,⟨k8,f8,b8,m8.keep m (no _ (by omega))⟩,h.h18.keep m (no _ (by omega)),h.qn,h.r.keep m hr,h.rf,h.sub,h.pa,
  fun a ha=> ⟨(h.pm a ha).n,by obtain ⟨d,o⟩:=(h.pm a ha).o;exact ⟨d,o.keep m (hp a ha)⟩,(h.pm a ha).f⟩⟩
theorem CoI.grow (h:CoI w w25 B n1 n3 n5 n8 n10 n13 n18 s q pt pre u) (m:Grow u u') (cn:CN w w25 n1 n3 n5 n8 n10 n13 n18):CoI w w25 B n1 n3 n5 n8 n10 n13 n18 s q pt pre u':=
 h.keep m cn (fun _ e=>e.elim) (fun _ _ e=>e) fun _ _ _ _ e=>e
theorem CoI.next (h:CoI w w25 B n1 n3 n5 n8 n10 n13 n18 s q pt pre u) (y:Int × Int):CoI w w25 B n1 n3 n5 n8 n10 n13 n18 s q pt (pre++ [y]) u:=by
 obtain ⟨k3,f3,b3,m3⟩:=h.m3
 obtain ⟨k8,f8,b8,m8⟩:=h.m8
 exact ⟨h.g,h.h1,h.h5,h.h10,h.h13,⟨k3,f3,by simp;omega,m3⟩,⟨k8,f8,by simp;omega,m8⟩,h.h18,h.qn,h.r,h.rf,h.sub.trans (by rw [List.map_append];exact List.sublist_append_left _ _),h.pa,h.pm⟩
theorem sl_assign:slOkN prog 116 ty_api_Assign 3 40=true:=by kernel_rfl
theorem pa_vr {a:Pa} {b:Nat} (h:Has u b #[.int .i64 a.lit,.int .i64 a.lev,a.sl.v]):Vr 3 paE u (some ⟨b,0,none⟩) [a]:=by
 intro j hj
 have:j=0:=by simpa using hj
 subst this
 exact ⟨_,rfl,cell_add h rfl,cell_add h rfl,cell_add h rfl,trivial⟩
theorem cone_push {i:Int} {a:Pa} (h:CoI w w25 B n1 n3 n5 n8 n10 n13 n18 s q pt (pre++ [(i,a.lit)]) u) (hs:(pt.map (·.lit)).Sublist (pre.map (·.2))) (cn:CN w w25 n1 n3 n5 n8 n10 n13 n18) (h25:w25.heap.size≤u.heap.size) (hl:pt.length≤1000000) {n61:Nat} (h61:Has u n61 #[.int .i64 a.lit,.int .i64 a.lev,a.sl.v]) (hok:PaOk s a) (hm:PaM w25 u q a) {K:World→Prop}
 (hk: ∀u' q',CoI w w25 B n1 n3 n5 n8 n10 n13 n18 s q' (pt++ [a]) (pre++ [(i,a.lit)]) u'→Mod (fun b=>b=n18∨blk q.p=some b) u u'→K u'):
 ∃x74p x74n x74c,u.cell? (Addr.mk n18 0 none)=some (.slice x74p x74n x74c)∧
  ∃x75 x76 x77p x77n x77c,CellsAt u (Addr.mk n61 0 none) 0 [.int .i64 x75,.int .i64 x76,.slice x77p x77n x77c]∧
  ∀n78 w79,New (.cells #[.int .i64 x75,.int .i64 x76,.slice x77p x77n x77c] 141) u n78 w79→
  ∃w80 r81p r81n r81c,(Builtin.append_ #[116,116] 116 #[.slice x74p x74n x74c,.slice (some (Addr.mk n78 0 none)) 1 1]).run prog w79= .ok (.slice r81p r81n r81c) w80∧
  ∃w82,StoreAt (Addr.mk n18 0 none) 0 [.slice r81p r81n r81c] w80 w82∧K w82:=by
 refine ⟨_,_,_,cell_of h.h18 rfl,_,_,_,_,_,cells3 h61,fun n78 w79 h79=> ?_⟩
 have C79:=h.grow h79.mod cn
 have e79:=h79.num
 refine Row.app paEnc sl_assign C79.r (pa_vr (a:=a) h79.has) h.qn rfl (by simp;omega) fun w80 p' c' o80 m80 hp' hz'=> ?_
 obtain ⟨ca,cb,cc,cd,ce,cf,cg,chh⟩:=cn
 have nb: ∀k,k<w25.heap.size→¬blk q.p=some k:=fun k hk e=>by have:=h.rf k e;omega
 refine store_i (C79.h18.keep m80 (nb _ chh)) rfl rfl fun w82 H82 m82=> ?_
 have s79:=h79.mod.size
 have pf: ∀b,blk p'=some b→w25.heap.size≤b:=fun b hb=>by
  rcases hp' with rfl|rfl
  · exact h.rf b hb
  · have:w79.heap.size=b:=by simpa [blk] using hb
    omega
 have mm:Mod (fun b=>b=n18∨blk q.p=some b) u w82:=((Mod.then (S:=fun b=>b=n18∨blk q.p=some b) (h79.mod.mono fun _ _ e=>e.elim) m80 fun b _ e=> .inr e)).then m82 fun b _ (e:b=n18)=> .inl e
 have no: ∀k,k≠n18→k<w25.heap.size→¬(k=n18∨blk q.p=some k):=fun k h1 h2 e=>by
  rcases e with e|e
  · exact h1 e
  · exact nb k h2 e
 obtain ⟨k3,f3,b3,M3⟩:=h.m3
 obtain ⟨k8,f8,b8,M8⟩:=h.m8
 have pmK: ∀a':Pa,PaM w25 u q a'→PaM w25 w82 ⟨p',(pt++ [a]).length,c'⟩ a':=fun a' ha=>by
  obtain ⟨d,o⟩:=ha.o
  refine ⟨ha.n,⟨d,o.keep mm fun b hb e=> ?_⟩,fun b hb=> ⟨(ha.f b hb).1,fun e=> ?_⟩⟩
  · have:=ha.f b hb
    rcases e with e|e
    · omega
    · exact this.2 e
  · have hlt:=o.lt b hb
    rcases hp' with e'|e'
    · have e:blk p'=some b:=e
      rw [e'] at e;exact (ha.f b hb).2 e
    · have e:blk p'=some b:=e
      rw [e'] at e
      have:w79.heap.size=b:=by simpa [blk] using e
      omega
 refine hk w82 ⟨p',(pt++ [a]).length,c'⟩ ⟨h.g.then mm fun r hr e=> ?_,h.h1.keep mm (no _ (by omega) (by omega)),h.h5.keep mm (no _ (by omega) (by omega)),h.h10.keep mm (no _ (by omega) (by omega)),h.h13.keep mm (no _ (by omega) (by omega)),⟨k3,f3,b3,M3.keep mm (no _ (by omega) (by omega))⟩,⟨k8,f8,b8,M8.keep mm (no _ (by omega) (by omega))⟩,H82,rfl,o80.keep m82 fun b hb (e:b=n18)=> ?_,pf,?_,fun a' ha'=> ?_,fun a' ha'=> ?_⟩ mm
 · rcases e with e|e
   · omega
   · have:=h.rf r e;have:=h.g.size;exact absurd e (nb r (by omega))
 · have:=pf b hb;omega
 · rw [List.map_append,List.map_append]
   exact hs.append (List.Sublist.refl _)
 · rcases List.mem_append.1 ha' with ha'|ha'
   · exact h.pa a' ha'
   · rw [List.mem_singleton] at ha';subst ha';exact hok
 · rcases List.mem_append.1 ha' with ha'|ha'
   · exact pmK a' (h.pm a' ha')
   · rw [List.mem_singleton] at ha';subst ha';exact pmK _ hm
end
section
variable {w0 w w' w1 w2 W0 w25 u u':World} {B N n1 n3 n5 n8 n10 n13 n18:Nat} {L L':Nat→Nat} {x:Xs} {l:List Int} {s:PSt} {pre:List (Int × Int)} {q:Sl} {pt:List Pa}
structure RP (lv:Nat→Int) (t:Nat) (rl:List Int) (ix:Nat→Nat):Prop where
 up: ∀a b,a<b→b<rl.length→rl.getD a 0<rl.getD b 0
 z:rl≠[]→rl.getD 0 0=0
 ix: ∀j,j<t→ix j<rl.length∧rl.getD (ix j) 0=lv j
 e0:t=0→rl= []
 ne:0<t→rl≠[]∧rl.getD (rl.length - 1) 0=lv (t - 1)
def stepR (rl:List Int) (v:Int):List Int:=if rl= [] then (if 0<v then [0,v] else [v]) else if rl.getD (rl.length - 1) 0≠v then rl++ [v] else rl
theorem stepR_ok {lv:Nat→Int} {t:Nat} {rl:List Int} {ix:Nat→Nat} (h:RP lv t rl ix) (h0:0≤lv t) (hm:0<t→lv (t - 1)≤lv t):
 RP lv (t+1) (stepR rl (lv t)) (fun j=>if j=t then (stepR rl (lv t)).length - 1 else ix j):=by
 have key: ∀rl':List Int,(∃e,rl'=rl++e)→(∀a b,a<b→b<rl'.length→rl'.getD a 0<rl'.getD b 0)→(rl'.getD 0 0=0)→rl'≠[]→rl'.getD (rl'.length - 1) 0=lv t→
  RP lv (t+1) rl' (fun j=>if j=t then rl'.length - 1 else ix j):=by
  rintro rl' ⟨e,rfl⟩ h1 h2 h3 h4
  have hl:0< (rl++e).length:=List.length_pos_iff.2 h3
  refine ⟨h1,fun _=>h2,fun j hj=> ?_,fun e=>by omega,fun _=> ⟨h3,by simpa using h4⟩⟩
  by_cases ej:j=t
  · subst ej
    show (if j=j then _ else _)<_∧_
    rw [if_pos rfl];exact ⟨by omega,h4⟩
  · show (if j=t then _ else _)<_∧_
    rw [if_neg ej]
    obtain ⟨a,b⟩:=h.ix j (by omega)
    refine ⟨by rw [List.length_append];omega,?_⟩
    rw [← b];simp only [List.getD_eq_getElem?_getD];rw [List.getElem?_append_left a]
 unfold stepR
 by_cases e:rl= []
 · subst e
   rw [if_pos rfl]
   by_cases hv:0<lv t
   · rw [if_pos hv]
     refine key _ ⟨_,rfl⟩ (fun a b hab hb=> ?_) rfl (by simp) rfl
     have hb:b<2:=hb
     have:a=0∧b=1:=by omega
     obtain ⟨rfl,rfl⟩:=this
     exact hv
   · rw [if_neg hv]
     refine key _ ⟨_,rfl⟩ (fun a b hab hb=> ?_) ?_ (by simp) rfl
     · have hb:b<1:=hb;omega
     · show lv t=0;omega
 · rw [if_neg e]
   have ht:0<t:=by
    rcases Nat.eq_zero_or_pos t with e2|e2
    · exact absurd (h.e0 e2) e
    · exact e2
   obtain ⟨_,hlast⟩:=h.ne ht
   have hlen:0<rl.length:=List.length_pos_iff.2 e
   by_cases hd:rl.getD (rl.length - 1) 0≠lv t
   · rw [if_pos hd]
     have gl: ∀a,a<rl.length→(rl++ [lv t]).getD a 0=rl.getD a 0:=fun a ha=>by simp only [List.getD_eq_getElem?_getD];rw [List.getElem?_append_left ha]
     have gn:(rl++ [lv t]).getD rl.length 0=lv t:=by simp [List.getD]
     refine key _ ⟨_,rfl⟩ (fun a b hab hb=> ?_) (by rw [gl 0 hlen];exact h.z e) (by simp) (by rw [List.length_append];exact gn)
     rw [List.length_append,List.length_singleton] at hb
     by_cases e2:b=rl.length
     · subst e2
       rw [gn,gl a hab]
       have hm:=hm ht
       by_cases e3:a=rl.length - 1
       · rw [e3];omega
       · have:=h.up a (rl.length - 1) (by omega) (by omega)
         omega
     · rw [gl a (by omega),gl b (by omega)];exact h.up a b hab (by omega)
   · rw [if_neg hd]
     have hd:rl.getD (rl.length - 1) 0=lv t:=by simpa using hd
     exact key _ ⟨[],by simp⟩ h.up (h.z e) e hd
structure ConeS (s:PSt) (tr:List As) (rl:List Int):Prop where
 len:tr.length≤s.vars
 mem: ∀i,i<tr.length→(nth tr i).lit∈s.R .tr
 rs: ∀i,i<tr.length→(nth tr i).rs= []∨∃k,s.There k∧(nth tr i).rs=s.R (.a k)
 lev: ∀i,i<tr.length→0≤(nth tr i).lev∧(nth tr i).lev<rl.length∧rl.getD (nth tr i).lev.toNat 0=s.lev (nth tr i).lit
 up: ∀a b,a<b→b<rl.length→rl.getD a 0<rl.getD b 0
 z:rl≠[]→rl.getD 0 0=0
theorem sub_mono (g:Good s) {lits:List Int} (h:lits.Sublist (s.R .tr)): ∀a b,a≤b→b<lits.length→s.lev (lits.getD a 0)≤s.lev (lits.getD b 0):=by
 have key:(s.R .tr).Pairwise fun y z=>s.lev y≤s.lev z:=by
  rw [List.pairwise_iff_getElem]
  intro i j hi hj hij
  have h1:=g.lv i hi
  have h2:=g.lv j hj
  have e1:(s.R .tr).getD i 0=(s.R .tr)[i]:=by simp [List.getD,hi]
  have e2:(s.R .tr).getD j 0=(s.R .tr)[j]:=by simp [List.getD,hj]
  rw [e1] at h1;rw [e2] at h2
  rw [h1,h2]
  have:=List.countP_mono_left (p:=fun e:Int=>decide (e≤(i:Int))) (q:=fun e:Int=>decide (e≤(j:Int))) (l:=s.R .be) fun e _ he=>by simp at he ⊢;omega
  omega
 have key2:=key.sublist h
 rw [List.pairwise_iff_getElem] at key2
 intro a b hab hb
 by_cases e:a=b
 · rw [e];exact Int.le_refl _
 · have:=key2 a b (by omega) hb (by omega)
   simpa [List.getD,hb,show a<lits.length by omega] using this
def lvF (pt:List Pa) (j:Nat):Int:=(pt.getD j pa0).lev
structure Tld (pt m:List Pa) (t:Nat) (ix:Nat→Nat):Prop where
 len:m.length=pt.length
 old: ∀j,t≤j→m.getD j pa0=pt.getD j pa0
 new: ∀j,j<t→m.getD j pa0= {pt.getD j pa0 with lev:=ix j}
theorem cone_real (g:Good s) (cn:CN w w25 n1 n3 n5 n8 n10 n13 n18) (h:CoI w w25 B n1 n3 n5 n8 n10 n13 n18 s q pt pre u) (h25:w25.heap.size≤u.heap.size) (hN:s.vars≤1000) (hpre:(pt.map (·.lit)).Sublist (s.R .tr).reverse) {d:Nat} (hd:u.heap[d]? =some (.deferred (some []))) (hd25:w25.heap.size≤d) {K:Value→World→Prop}
 (hk: ∀u' (tp:Option Addr) (tc:Nat) (rp:Option Addr) (rc:Nat) (tr:List As) (rl:List Int),ConeS s tr rl→Le.TV u' tp tr→Vw (Value.int .i64) u' rp rl→Grow w u'→tr.length≤tc→K (.tuple #[.slice tp tr.length tc,.slice rp rl.length rc]) u'):
 ∃x92p x92n x92c,u.cell? (Addr.mk n18 0 none)=some (.slice x92p x92n x92c)∧
  Calls prog 105 #[.slice x92p x92n x92c] u fun e w93=>e= .returned (.tuple #[])∧
  ∃x94p x94n x94c,w93.cell? (Addr.mk n18 0 none)=some (.slice x94p x94n x94c)∧
  ∃I95:Option Addr→Nat→Nat→Int→World→Nat→Prop,(∃k96,I95 none 0 0 0 w93 k96)∧
  ∀ (real_98_p:Option Addr) (real_98_n:Nat) (real_98_c:Nat) (v99:Int) (w100:World) (k96:Nat) (_:Fr),I95 real_98_p real_98_n real_98_c v99 w100 k96→
  cnd (decide (v99< (x94n:Int)))
   (ixK x94p x94n v99 3 fun a101=>
     ∃x102 x103 x104p x104n x104c,CellsAt w100 a101 0 [.int .i64 x102,.int .i64 x103,.slice x104p x104n x104c]∧
     ∀n105 w106,New (.cells #[.int .i64 0,.int .i64 0,.slice none 0 0] 141) w100 n105 w106→
     ∃w107,StoreAt (Addr.mk n105 0 none) 0 [.int .i64 x102,.int .i64 x103,.slice x104p x104n x104c] w106 w107∧
     ∃J108:Option Addr→Nat→Nat→World→Prop,(∃J109:Bool→World→Prop,(cnd ((real_98_n:Int)==(0:Int))
     (J109 true w107.drew)
     (ixK real_98_p real_98_n (IntKind.i64.wrap ((real_98_n:Int) - (1:Int))) 1 fun a110=>
     ∃x111,w107.drew.cell? a110=some (.int .i64 x111)∧
     ∃x112,w107.drew.cell? ((Addr.mk n105 0 none).add 1)=some (.int .i64 x112)∧
     J109 (x111 !=x112) w107.drew))∧
     ∀ (v113:Bool) (w114:World) (_:Fr),J109 v113 w114→
     cnd v113
     (cnd ((real_98_n:Int)==(0:Int))
       (∃x115,w114.cell? ((Addr.mk n105 0 none).add 1)=some (.int .i64 x115)∧
       cnd (decide (x115> (0:Int)))
       (∀n116 w117,New (.cells #[.int .i64 0] 3) w114 n116 w117→
         ∃w118 r119p r119n r119c,(Builtin.append_ #[28,28] 28 #[.slice real_98_p real_98_n real_98_c,.slice (some (Addr.mk n116 0 none)) 1 1]).run prog w117= .ok (.slice r119p r119n r119c) w118∧
         ∃x120,w118.cell? ((Addr.mk n105 0 none).add 1)=some (.int .i64 x120)∧
         ∀n121 w122,New (.cells #[.int .i64 x120] 3) w118 n121 w122→
         ∃w123 r124p r124n r124c,(Builtin.append_ #[28,28] 28 #[.slice r119p r119n r119c,.slice (some (Addr.mk n121 0 none)) 1 1]).run prog w122= .ok (.slice r124p r124n r124c) w123∧
         J108 r124p r124n r124c w123)
       (∃x125,w114.cell? ((Addr.mk n105 0 none).add 1)=some (.int .i64 x125)∧
         ∀n126 w127,New (.cells #[.int .i64 x125] 3) w114 n126 w127→
         ∃w128 r129p r129n r129c,(Builtin.append_ #[28,28] 28 #[.slice real_98_p real_98_n real_98_c,.slice (some (Addr.mk n126 0 none)) 1 1]).run prog w127= .ok (.slice r129p r129n r129c) w128∧
         J108 r129p r129n r129c w128))
       (∃x130,w114.cell? ((Addr.mk n105 0 none).add 1)=some (.int .i64 x130)∧
       ∀n131 w132,New (.cells #[.int .i64 x130] 3) w114 n131 w132→
       ∃w133 r134p r134n r134c,(Builtin.append_ #[28,28] 28 #[.slice real_98_p real_98_n real_98_c,.slice (some (Addr.mk n131 0 none)) 1 1]).run prog w132= .ok (.slice r134p r134n r134c) w133∧
       J108 r134p r134n r134c w133))
     (J108 real_98_p real_98_n real_98_c w114))∧
     ∀ (real_135_p:Option Addr) (real_135_n:Nat) (real_135_c:Nat) (w136:World) (_:Fr),J108 real_135_p real_135_n real_135_c w136→
     ∃x137p x137n x137c,w136.cell? (Addr.mk n18 0 none)=some (.slice x137p x137n x137c)∧
     ixK x137p x137n v99 3 fun a138=>
     ∃w139,StoreAt (a138.add 1) 0 [.int .i64 (IntKind.i64.wrap ((real_135_n:Int) - (1:Int)))] w136 w139∧
     ∃k97,k97<k96∧I95 real_135_p real_135_n real_135_c (IntKind.i64.wrap (v99+ (1:Int))) w139 k97)
   (∃x140p x140n x140c,w100.cell? (Addr.mk n18 0 none)=some (.slice x140p x140n x140c)∧
     w100.heap[d]? =some (.deferred (some []))∧∀w141,Go.Fw.Mod (·=d) w100 w141→K (.tuple #[.slice x140p x140n x140c,.slice real_98_p real_98_n real_98_c]) w141):=by
 have hlits:=hpre.length_le
 rw [List.length_map,List.length_reverse] at hlits
 have htl:=g.trl
 have hdl:d<u.heap.size:=(Array.getElem?_eq_some_iff.1 hd).1
 have hqd:blk q.p≠some d:=fun e=>by have:=row_cells h.r d e _ hd;cases this
 obtain ⟨ca,cb,cc,cd,ce,cf,cg,chh⟩:=cn
 refine ⟨_,_,_,cell_of h.h18 rfl,(reverse_ok h.r h.qn (by omega)).mono ?_⟩
 rintro e w93 ⟨rfl,R93,M93⟩
 obtain ⟨rv,hrv⟩: ∃rv,rv=pt.reverse:=⟨_,rfl⟩
 rw [← hrv] at R93
 have hrl:rv.length=pt.length:=by rw [hrv];simp
 have n18q: ¬blk q.p=some n18:=fun e=>by have:=h.rf _ e;omega
 have hsub:(rv.map (·.lit)).Sublist (s.R .tr):=by
  have:=hpre.reverse
  rw [List.reverse_reverse,← List.map_reverse] at this
  rw [hrv];exact this
 have hmem: ∀j,j<rv.length→rv.getD j pa0∈pt:=fun j hj=>by
  have:rv.getD j pa0∈rv:=by simp [List.getD,hj]
  rw [hrv] at this ⊢;exact List.mem_reverse.1 this
 have hmono:=sub_mono g hsub
 have elit: ∀j,j<rv.length→(rv.map (·.lit)).getD j 0=(rv.getD j pa0).lit:=fun j hj=>by simp [List.getD,hj]
 have elev: ∀j,j<rv.length→lvF rv j=s.lev (rv.getD j pa0).lit:=fun j hj=> (h.pa _ (hmem j hj)).lev
 have lvm: ∀j,0<j→j<rv.length→lvF rv (j - 1)≤lvF rv j:=fun j h0 hj=>by
  rw [elev j hj,elev (j - 1) (by omega),← elit j hj,← elit (j - 1) (by omega)]
  exact hmono _ _ (by omega) (by simpa using hj)
 have lv0: ∀j,j<rv.length→0≤lvF rv j:=fun j hj=>by
  rw [elev j hj];exact (tr_level g (h.pa _ (hmem j hj)).mem).1
 refine ⟨rfl,_,_,_,cell_of (h.h18.keep M93 n18q) rfl,?_⟩
 have s93:=M93.size
 refine ⟨fun P Nn C V v z=> ∃ (t:Nat) (rl:List Int) (ix:Nat→Nat) (m:List Pa),V=t∧t≤rv.length∧z=rv.length - t∧Nn=rl.length∧rl.length≤t+1∧RP (lvF rv) t rl ix∧Tld rv m t ix∧OwI ty_int v P C rl∧(∀b,blk P=some b→w93.heap.size≤b)∧Row 3 paE ty_api_Assign v q.p q.c m∧Mod (fun b=>blk q.p=some b) w93 v,
  ⟨_,0,[],fun _=>0,rv,rfl,Nat.zero_le _,rfl,rfl,by simp,⟨fun a b _ hb=>by simp at hb,fun e=>absurd rfl e,fun j hj=>by omega,fun _=>rfl,fun e=>by omega⟩,⟨rfl,fun _ _=>rfl,fun j hj=>by omega⟩,Ow.nil _ _ _,fun b hb=>by simp [blk] at hb,R93,Mod.refl _⟩,?_⟩
 rintro P Nn C V v z _ ⟨t,rl,ix,m,rfl,ht,rfl,rfl,hrlt,hRP,hT,hO,hPf,hR,hM⟩
 have H18:Has v n18 #[q.v]:=(h.h18.keep M93 n18q).keep hM n18q
 have sv:=hM.size
 have hqn:q.n=rv.length:=by rw [h.qn,hrl]
 refine cnd_i (fun r=> ?_) (fun r=> ?_)
 · have r:t<rv.length:=by simp at r;omega
   have hml:=hT.len
   refine (hR.vr paEnc).ix pa0 (by omega) (by omega) (by omega) fun a ha=> ⟨_,_,_,_,_,ha,?_⟩
   intro n105 w106 h106
   rw [Int.toNat_natCast,hT.old t (Nat.le_refl _)]
   obtain ⟨A,hA⟩: ∃A,rv.getD t pa0=A:=⟨_,rfl⟩
   rw [hA]
   have elv:lvF rv t=A.lev:=by unfold lvF;rw [hA]
   have e105:=h106.num
   refine store_i h106.has rfl rfl fun w107 H107 m107=> ?_
   have G107:Grow v w107:=h106.mod.fresh m107 (by omega)
   have s107:=G107.size
   have H107':Has w107.drew n105 #[.int .i64 A.lit,.int .i64 A.lev,A.sl.v]:=H107
   have O107:OwI ty_int w107.drew P C rl:=hO.grow (G107.trans (Mod.refl w107).drew)
   refine ⟨fun P' N' C' z'=> ∃rl',rl'=stepR rl A.lev∧N'=rl'.length∧rl'.length≤t+2∧OwI ty_int z' P' C' rl'∧(∀b,blk P'=some b→w93.heap.size≤b)∧Row 3 paE ty_api_Assign z' q.p q.c m∧Mod (fun b=>blk P=some b) w107.drew z',⟨fun bb z'=>z'=w107.drew∧(bb=true↔rl= []∨rl.getD (rl.length - 1) 0≠A.lev),?_,?_⟩,?_⟩
   · refine cnd_i (fun r2=> ⟨rfl,?_⟩) (fun r2=> ?_)
     · have:rl= []:=List.eq_nil_of_length_eq_zero (by simpa using r2)
       simp [this]
     · have hne:rl≠[]:=fun e=>by rw [e] at r2;simp at r2
       have hpos:0<rl.length:=List.length_pos_iff.2 hne
       have ew:IntKind.i64.wrap ((rl.length:Int) - 1)=((rl.length - 1:Nat):Int):=by rw [wrap64_of (by omega) (by omega)];omega
       rw [ew]
       refine O107.ix 0 (by omega) rfl (by omega) fun a2 ha2=> ⟨_,ha2,_,cell_add H107' rfl,rfl,?_⟩
       rw [Int.toNat_natCast]
       simp [hne]
   · rintro bb z' _ ⟨rfl,hbb⟩
     have app: ∀ {z2:World} {P2:Option Addr} {C2:Nat} {rl2:List Int} {nb:Nat} (y:Int),OwI ty_int z2 P2 C2 rl2→rl2.length≤1001→Has z2 nb #[.int .i64 y]→w93.heap.size≤z2.heap.size→(∀b,blk P2=some b→w93.heap.size≤b)→Row 3 paE ty_api_Assign z2 q.p q.c m→∀ {KK:World→Option Addr→Nat→Nat→Prop},
      (∀z3 P3 C3,OwI ty_int z3 P3 C3 (rl2++ [y])→(∀b,blk P3=some b→w93.heap.size≤b)→Row 3 paE ty_api_Assign z3 q.p q.c m→Mod (fun b=>blk P2=some b) z2 z3→(P3=P2∨P3=some ⟨z2.heap.size,0,none⟩)→KK z3 P3 (rl2.length+1) C3)→
      ∃w118 r119p r119n r119c,(Builtin.append_ #[28,28] 28 #[.slice P2 rl2.length C2,.slice (some (Addr.mk nb 0 none)) 1 1]).run prog z2= .ok (.slice r119p r119n r119c) w118∧KK w118 r119p r119n r119c:=by
      intro z2 P2 C2 rl2 nb y o2 hl2 hb2 hz2 hp2 hr2 KK kk
      refine Ow.app1 sl_intC o2 y hb2 rfl rfl oneInt (by omega) fun z3 P3 C3 o3 m3 hp3 hz3=>kk z3 P3 C3 o3 (fun b hb=> ?_) (hr2.keep m3 fun b hb e=> ?_) m3 hp3
      · rcases hp3 with rfl|rfl
        · exact hp2 b hb
        · have:z2.heap.size=b:=by simpa [blk] using hb
          omega
      · have:=hp2 b e
        have:=R93.lt b hb
        omega
     have hRd:Row 3 paE ty_api_Assign w107.drew q.p q.c m:=hR.grow (G107.trans (Mod.refl w107).drew)
     have sd:w107.drew.heap.size=w107.heap.size:=rfl
     refine cnd_i (fun r3=> ?_) (fun r3=> ?_)
     · have r3:=hbb.1 r3
       refine cnd_i (fun r4=> ?_) (fun r4=> ?_)
       · have e0:rl= []:=List.eq_nil_of_length_eq_zero (by simpa using r4)
         subst e0
         refine ⟨_,cell_add H107' rfl,cnd_i (fun r5=> ?_) (fun r5=> ?_)⟩
         · have r5:0<A.lev:=by simpa using r5
           intro n116 w117 h117
           have s117:=h117.mod.size
           refine app (z2:=w117) (rl2:= []) 0 (O107.grow h117.mod) (by simp) h117.has (by omega) hPf (hRd.grow h117.mod) fun z3 P3 C3 o3 f3 r3 m3 hp3=> ?_
           have n105P: ¬blk P=some n105:=fun e=>by have:=hO.lt n105 e;omega
           have H3:Has z3 n105 _:=(H107'.grow h117.mod).keep m3 n105P
           refine ⟨_,cell_add H3 rfl,fun n121 w122 h122=> ?_⟩
           have s122:=h122.mod.size
           have s3:=m3.size
           refine app (z2:=w122) (rl2:= []++ [0]) A.lev (o3.grow h122.mod) (by simp) h122.has (by omega) f3 (r3.grow h122.mod) fun z4 P4 C4 o4 f4 r4 m4 hp4=> ?_
           refine ⟨[0,A.lev],by unfold stepR;rw [if_pos rfl,if_pos r5],rfl,by simp,o4,f4,r4,?_⟩
           refine ((Mod.then (S:=fun b=>blk P=some b) (h117.mod.mono fun _ _ e=>e.elim) m3 fun b _ e=>e).grow h122.mod).then m4 fun b hb e=> ?_
           rcases hp3 with e3|e3
           · rw [e3] at e;exact e
           · rw [e3] at e
             have:w117.heap.size=b:=by simpa [blk] using e
             omega
         · have r5: ¬0<A.lev:=by simpa using r5
           refine ⟨_,cell_add H107' rfl,fun n126 w127 h127=> ?_⟩
           have s127:=h127.mod.size
           refine app (z2:=w127) (rl2:= []) A.lev (O107.grow h127.mod) (by simp) h127.has (by omega) hPf (hRd.grow h127.mod) fun z3 P3 C3 o3 f3 r3 m3 hp3=> ?_
           exact ⟨[A.lev],by unfold stepR;rw [if_pos rfl,if_neg r5],rfl,by simp,o3,f3,r3,Mod.then (S:=fun b=>blk P=some b) (h127.mod.mono fun _ _ e=>e.elim) m3 fun b _ e=>e⟩
       · have hne:rl≠[]:=fun e=>by rw [e] at r4;simp at r4
         refine ⟨_,cell_add H107' rfl,fun n131 w132 h132=> ?_⟩
         have s132:=h132.mod.size
         refine app (z2:=w132) (rl2:=rl) A.lev (O107.grow h132.mod) (by omega) h132.has (by omega) hPf (hRd.grow h132.mod) fun z3 P3 C3 o3 f3 r3' m3 hp3=> ?_
         refine ⟨rl++ [A.lev],?_,by simp,by simp;omega,o3,f3,r3',Mod.then (S:=fun b=>blk P=some b) (h132.mod.mono fun _ _ e=>e.elim) m3 fun b _ e=>e⟩
         unfold stepR
         rw [if_neg hne,if_pos (r3.resolve_left hne)]
     · have r3: ¬(rl= []∨rl.getD (rl.length - 1) 0≠A.lev):=fun e=>by have:=hbb.2 e;rw [this] at r3;cases r3
       refine ⟨rl,?_,rfl,by omega,O107,hPf,hRd,(Mod.refl _).mono fun _ _ e=>e⟩
       unfold stepR
       rw [if_neg fun e=>r3 (.inl e),if_neg fun e=>r3 (.inr e)]
   · rintro P' N' C' z' _ ⟨rl',hrl',rfl,hlen',o',f',R',M'⟩
     have sp:=stepR_ok hRP (by rw [elv,← elv];exact lv0 t r) fun h0=>lvm t h0 r
     rw [elv,← hrl'] at sp
     have hne':0<rl'.length:=List.length_pos_iff.2 (sp.ne (by omega)).1
     have n18P: ¬blk P=some n18:=fun e=>by have:=hPf _ e;omega
     have H18':Has z' n18 #[q.v]:=((H18.grow G107).drew).keep M' n18P
     refine ⟨_,_,_,cell_of H18' rfl,?_⟩
     have ew:IntKind.i64.wrap ((rl'.length:Int) - 1)=((rl'.length - 1:Nat):Int):=by rw [wrap64_of (by omega) (by omega)];omega
     rw [ew]
     refine R'.stF paEnc pa0 {A with lev:=((rl'.length - 1:Nat):Int)} (o:=1) ?_ (by omega) rfl (by omega) (by omega) (by omega) fun w139 o139 m139=> ?_
     · rw [Int.toNat_natCast,hT.old t (Nat.le_refl _),hA];rfl
     · rw [Int.toNat_natCast] at o139
       have hdis: ∀b,blk P'=some b→¬blk q.p=some b:=fun b hb e=>by have:=f' b hb;have:=R93.lt b e;omega
       refine ⟨_,?_,t+1,rl',_,m.set t {A with lev:=((rl'.length - 1:Nat):Int)},wN (by omega) (by omega),by omega,rfl,rfl,by omega,sp,⟨by rw [List.length_set];exact hml,fun j hj=> ?_,fun j hj=> ?_⟩,o'.keep m139 hdis,f',o139,?_⟩
       · omega
       · rw [getD_setP (by omega),if_neg (by omega)];exact hT.old j (by omega)
       · rw [getD_setP (by omega)]
         by_cases ej:j=t
         · subst ej
           rw [if_pos rfl,if_pos rfl,hA]
         · rw [if_neg ej,if_neg ej];exact hT.new j (by omega)
       · refine ((hM.grow (G107.trans (Mod.refl w107).drew)).then M' fun b hb e=> ?_).then m139 fun b _ e=>e
         have:=hPf b e;omega
 · have r:t=rv.length:=by simp at r;omega
   subst r
   refine ⟨_,_,_,cell_of H18 rfl,?_,fun w141 m141=> ?_⟩
   · rw [hM.block d (by omega) hqd,M93.block d hdl hqd];exact hd
   have hml:=hT.len
   obtain ⟨tr,htr⟩: ∃tr:List As,tr=m.map fun a=> ⟨a.lit,a.lev,a.rs⟩:=⟨_,rfl⟩
   have ltr:tr.length=rv.length:=by rw [htr];simp [hml]
   have nt: ∀i,i<rv.length→nth tr i=⟨(rv.getD i pa0).lit,ix i,(rv.getD i pa0).rs⟩:=fun i hi=>by
    have:nth tr i=⟨(m.getD i pa0).lit,(m.getD i pa0).lev,(m.getD i pa0).rs⟩:=by
     rw [htr];simp [nth,List.getD,show i<m.length by omega]
    rw [this,hT.new i hi]
   have e1:q.n=tr.length:=by omega
   have Gu:Grow w w141:=by
    have h1:Grow w w93:=h.g.then M93 fun b hb e=>by have:=h.rf b e;omega
    have h2:Grow w v:=h1.then hM fun b hb e=>by have:=h.rf b e;omega
    exact h2.then m141 fun b hb (e:b=d)=>by omega
   have hqs: ∀b,blk q.p=some b→¬b=d:=fun b hb e=>hqd (by rw [← e];exact hb)
   show K (.tuple #[.slice q.p q.n q.c,.slice P rl.length C]) w141
   rw [e1]
   have R141:=(hR.keep m141 hqs).vr paEnc
   refine hk w141 q.p q.c P C tr rl ⟨by omega,fun i hi=> ?_,fun i hi=> ?_,fun i hi=> ?_,hRP.up,hRP.z⟩ (fun i hi=> ?_) ((hO.keep m141 fun b hb (e:b=d)=> ?_).vw) Gu (by have:=hR.cap;omega)
   · rw [nt i (by omega)];exact (h.pa _ (hmem i (by omega))).mem
   · rw [nt i (by omega)];exact (h.pa _ (hmem i (by omega))).rs
   · rw [nt i (by omega)]
     obtain ⟨a,b⟩:=hRP.ix i (by omega)
     refine ⟨by show (0:Int)≤(ix i:Int);omega,by show (ix i:Int)<_;omega,?_⟩
     show rl.getD ((ix i:Int)).toNat 0=_
     rw [Int.toNat_natCast,b,elev i (by omega)]
   · obtain ⟨a,ea,hc⟩:=R141 i (by omega)
     have hpm:=h.pm _ (hmem i (by omega))
     obtain ⟨d2,o2⟩:=hpm.o
     have em:m[i]'(by omega)= {rv.getD i pa0 with lev:=ix i}:=by
      rw [← hT.new i (by omega)];simp [List.getD,show i<m.length by omega]
     rw [em] at hc
     rw [nt i (by omega)]
     have hcap:=o2.cap
     refine ⟨a,(rv.getD i pa0).sl,ea,hc,hpm.n,by rw [hpm.n];exact hcap,?_⟩
     refine (((o2.keep M93 fun b hb e=> (hpm.f b hb).2 e).keep hM fun b hb e=> (hpm.f b hb).2 e).keep m141 fun b hb (e:b=d)=> ?_).vw
     subst e
     have:=ow_cells o2 b hb _ hd
     cases this
   · subst e
     have:=hPf b hb;omega
end
section
variable {w0 w w' w1 w2:World} {B N:Nat} {L L':Nat→Nat} {x:Xs} {l:List Int}
theorem xs_snd (zs:List Int):(bkL zs zs.length).map (·.2)=zs.reverse:=by
 refine List.ext_getElem (by simp [bkL]) fun i h1 h2=> ?_
 have hi:i<zs.length:=by simpa [bkL] using h1
 rw [List.getElem_reverse]
 simp [bkL,bkF,show zs.length - 1 - i<zs.length by omega]
theorem cone_ent:entB prog 100=true:=by kernel_rfl
theorem bk_ent:entB prog 123=true:=by kernel_rfl
theorem args3w (a b c d:Value):(#[]++ #[a]++ #[b,c,d]:Array Value)= #[a,b,c,d]:=by simp
theorem cone_ok (h:SR w0 w B L N x) (g:Good x.s) (hv:x.s.vars=N) (hN:N≤1000) {p:Option Addr} {n c:Nat} {bk:List Int} (vb:Vw (Value.int .i64) w p bk) (hn:n=bk.length) (hl:bk.length≤4096) (hin: ∀y∈bk,InV N y):
 Calls prog cdcl_search_cone.id #[ptrV B,.slice p n c] w fun e w'=> ∃ (tp:Option Addr) (tc:Nat) (rp:Option Addr) (rc:Nat) (tr:List As) (rl:List Int),e= .returned (.tuple #[.slice tp tr.length tc,.slice rp rl.length rc])∧
  ConeS x.s tr rl∧Le.TV w' tp tr∧Vw (Value.int .i64) w' rp rl∧Grow w w'∧tr.length≤tc:=by
 refine cdcl_search_cone.calls ?_
 have htl:=g.trl
 intro n1 w2 h1 n3 w4 h3 n5 w6 h5
 have e1:=h1.num;have e3:=h3.num;have e5:=h5.num
 have l1:=h1.has.lt
 have l5:=h5.has.lt
 have M3:MBc w4 n3 0 fun _=>false:=MB.new h3
 have l3:=M3.lt
 refine store_i h5.has rfl rfl fun w7 H7 m7=> ?_
 intro n8 w9 h8 n10 w11 h10
 have e8:=h8.num;have e10:=h10.num
 have s7:=m7.size
 have M8:MBc w9 n8 0 fun _=>false:=MB.new h8
 have l8:=M8.lt
 have l10:=h10.has.lt
 refine store_i h10.has rfl rfl fun w12 H12 m12=> ?_
 intro n13 w14 h13
 have e13:=h13.num
 have s12:=m12.size
 have l13:=h13.has.lt
 refine store_i h13.has rfl rfl fun w15 H15 m15=> ?_
 have s15:=m15.size
 have z2:=h1.mod.size;have z4:=h3.mod.size;have z6:=h5.mod.size;have z9:=h8.mod.size;have z11:=h10.mod.size;have z14:=h13.mod.size
 have H7:Has w7 n5 #[.map (some n3)]:=H7
 have H12:Has w12 n10 #[.map (some n8)]:=H12
 have A1:Has w15 n1 #[ptrV B]:=((((((h1.has.grow (h3.mod.trans h5.mod)).put m7 (by omega)).grow (h8.mod.trans h10.mod)).put m12 (by omega)).grow h13.mod).put m15 (by omega))
 have A5:Has w15 n5 #[.map (some n3)]:=(((H7.grow (h8.mod.trans h10.mod)).put m12 (by omega)).grow h13.mod).put m15 (by omega)
 have A10:Has w15 n10 #[.map (some n8)]:=(H12.grow h13.mod).put m15 (by omega)
 have A3:MBc w15 n3 0 _:=(((((M3.grow h5.mod).put' m7 (by omega)).grow (h8.mod.trans h10.mod)).put' m12 (by omega)).grow h13.mod).put' m15 (by omega)
 have A8:MBc w15 n8 0 _:=((((M8.grow h10.mod).put' m12 (by omega)).grow h13.mod).put' m15 (by omega))
 have G7:Grow w w7:=Mod.fresh ((h1.mod.trans h3.mod).trans h5.mod) m7 (by omega)
 have G12:Grow w w12:=Mod.fresh ((G7.trans h8.mod).trans h10.mod) m12 (by omega)
 have G15:Grow w w15:=Mod.fresh (G12.trans h13.mod) m15 (by omega)
 have A13:Has w15 n13 #[.func (.func 100) #[] #[.pointer (some ⟨n5,0,none⟩),.pointer (some ⟨n10,0,none⟩),.pointer (some ⟨n1,0,none⟩)]]:=H15
 refine ⟨_,_,cell_of A13 rfl,?_⟩
 rw [cone_ent]
 refine cnd_t rfl ?_
 rw [args3w]
 refine (cnote_ok h g hv hN G15 A1 A5 A10 A3 A8 ⟨by omega,by omega,by omega,by omega,by omega,by omega,by omega⟩ (by omega) (by omega) (vb.grow G15) hn hl hin (by omega) (by omega) fun hne b hb=>by have:=vb.lt hne b hb;omega).mono ?_
 rintro e w17 ⟨rfl,s3',s8',B3,B8,m17⟩
 refine ⟨rfl,fun n18 w19 h18=> ?_⟩
 have e18:=h18.num
 have s17:=m17.size
 have l18:=h18.has.lt
 have no17: ∀k,k≠n3→k≠n8→¬(k=n3∨k=n8):=fun k a b e=>e.elim a b
 have G17:Grow w w17:=G15.then m17 fun b hb e=>by rcases e with e|e<;>omega
 have G19:=G17.trans h18.mod
 have B1:=(A1.keep m17 (no17 _ (by omega) (by omega))).grow h18.mod
 have B5:=(A5.keep m17 (no17 _ (by omega) (by omega))).grow h18.mod
 have B10:=(A10.keep m17 (no17 _ (by omega) (by omega))).grow h18.mod
 have B13:=(A13.keep m17 (no17 _ (by omega) (by omega))).grow h18.mod
 have S19:=h.grow G19
 obtain ⟨H19,pm19,_⟩:=S19.pm id
 refine ⟨_,cell_of B1 rfl,_,rfl,_,cell_add S19.at rfl,(trail_ok pm19 (by omega)).mono ?_⟩
 rintro e w23 ⟨qb,db,rfl,ob,g23,fb⟩
 obtain ⟨zs,hzs⟩: ∃zs,zs=x.s.R .tr:=⟨_,rfl⟩
 rw [← hzs] at ob htl
 refine ⟨_,_,_,rfl,slices_Backward_int_int.calls ?_⟩
 intro n24 w25 h24
 have e24:=h24.num
 have z23:=g23.size
 have z25:=h24.mod.size
 have l24:=h24.has.lt
 have G25:=g23.trans h24.mod
 refine ⟨_,_,rfl,bk_ent,trivial,bkL zs zs.length,fun y=>y.2∈zs,fun k=>k=n24∨blk qb=some k,?_,?_,?_⟩
 · exact back_seq (by rw [← hzs] at h24;exact h24.has) (ob.grow h24.mod) (by omega)
 · rintro k (rfl|hk)
   · exact l24
   · exact Nat.lt_of_lt_of_le (ob.lt k hk) z25
 have hxs:(bkL zs zs.length).length=zs.length:=bkL_len _ _
 have cn:CN w w25 n1 n3 n5 n8 n10 n13 n18:=⟨by omega,by omega,by omega,by omega,by omega,by omega,by omega,by omega⟩
 have C3:=B3.grow (h18.mod.trans G25)
 have C8:=B8.grow (h18.mod.trans G25)
 refine ⟨fun pre u=> ∃q pt,CoI w w25 B n1 n3 n5 n8 n10 n13 n18 x.s q pt pre u∧w25.heap.size≤u.heap.size,⟨Sl.nil,[],⟨G19.trans G25,B1.grow G25,B5.grow G25,B10.grow G25,B13.grow G25,⟨_,_,by simp;omega,C3⟩,⟨_,_,by simp;omega,C8⟩,h18.has.grow G25,rfl,Row.nil _ _ _ _,fun b hb=>by simp [Sl.nil,blk] at hb,by simp,fun a ha=>by simp at ha,fun a ha=>by simp at ha⟩,Nat.le_refl _⟩,?_,?_,?_⟩
 · rintro pre W W' S ⟨q,pt,ci,hsz⟩ m hS
   refine ⟨q,pt,ci.keep m cn (fun r hr=> (hS r hr).1) (fun b hb hs=> ?_) (fun a ha b hb hs=> ?_),Nat.le_trans hsz m.size⟩
   · have hlt:=ci.r.lt b hb
     obtain ⟨ob',ho⟩: ∃ob',W.heap[b]? =some ob':=⟨_,Array.getElem?_eq_getElem hlt⟩
     have h1:=row_cells ci.r b hb _ ho
     rw [(hS b hs).2 _ ho] at h1;cases h1
   · obtain ⟨d,o⟩:=(ci.pm a ha).o
     have hlt:=o.lt b hb
     obtain ⟨ob',ho⟩: ∃ob',W.heap[b]? =some ob':=⟨_,Array.getElem?_eq_getElem hlt⟩
     have h1:=ow_cells o b hb _ ho
     rw [(hS b hs).2 _ ho] at h1;cases h1
 · rintro pre i y W hlen hmem ⟨q,pt,ci,hsz⟩
   have hmem:y∈zs:=hmem
   have hyt:y∈x.s.R .tr:=by rw [← hzs];exact hmem
   have hptl:pt.length≤pre.length:=by have:=ci.sub.length_le;simpa using this
   have S34:=h.grow ci.g
   have tl: ∀k,(k=n24∨blk qb=some k)→n18<k∧k<w25.heap.size:=by
    rintro k (rfl|hk)
    · have:=ob.lt;exact ⟨by omega,l24⟩
    · have:=fb k hk;have:=ob.lt k hk;omega
   have kb: ∀ {u:World},Mod (fun b=>b=n3∨b=n8∨b=n18∨blk q.p=some b) W u→KB w25.heap.size (fun k=>k=n24∨blk qb=some k) W u:=fun {u} m=>by
    refine kb_of m (fun r hr=> ?_) (fun k hk e=> ?_) fun k hk=>Nat.lt_of_lt_of_le (tl k hk).2 hsz
    · rcases hr with rfl|rfl|rfl|hr
      · exact .inl (by omega)
      · exact .inl (by omega)
      · exact .inl (by omega)
      · exact .inr (row_cells ci.r r hr)
    · have:=tl k hk
      rcases e with rfl|rfl|rfl|e
      · omega
      · omega
      · omega
      · have:=ci.rf k e;omega
   have er:x.s.reason y=x.s.rea y:=reason_in g hyt
   have el:x.s.level y=x.s.lev y:=level_in g hyt
   have hlev:=tr_level g hyt
   have hbel:=g.bel
   have htl3:=g.trl
   refine ⟨_,cell_of ci.h1 rfl,_,rfl,_,cell_add S34.at rfl,(S34.reason g y).mono ?_⟩
   rintro e w40 ⟨rfl,g40⟩
   have C40:=ci.grow g40 cn
   refine ⟨_,rfl,_,cell_of C40.h1 rfl,_,rfl,_,cell_add (h.grow C40.g).at rfl,((h.grow C40.g).level g y).mono ?_⟩
   rintro e w45 ⟨rfl,g45⟩
   have C45:=C40.grow g45 cn
   refine ⟨_,rfl,?_⟩
   rw [er,el]
   obtain ⟨k8,f8,b8,N8⟩:=C45.m8
   obtain ⟨k3,f3,b3,N3⟩:=C45.m3
   have G45:=g40.trans g45
   refine ⟨fun _ u=>u=w45,?_,?_⟩
   · refine cnd_i (fun _=> ⟨_,cell_of C45.h10 rfl,w45,_,N8.look mapB_cone (wf64 (by omega) (by omega)),rfl⟩) (fun _=>rfl)
   rintro dec w52 _ rfl
   have hiv:=g.tv y hyt
   have hbd:=hiv.bd (by omega)
   have ham:=hiv.amt
   have C52:=C45.grow (Mod.refl w52).drew cn
   refine ⟨fun u=>u=w52.drew,?_,?_⟩
   · refine ⟨fun u=>u=w52.drew,rfl,_,atW_eq (cell_of C52.h5 rfl),cdcl_amount.calls ⟨_,rfl,rfl,?_⟩⟩
     rw [imax_amt hbd.1 hbd.2]
     have N3d:MBc w52.drew n3 k3 f3:=N3.grow (Mod.refl w52).drew
     refine ⟨w52.drew,_,N3d.look mapB_cone (wf64 (by omega) (by omega)),?_⟩
     have skip:KB w25.heap.size (fun k=>k=n24∨blk qb=some k) W w52.drew∧∃q pt,CoI w w25 B n1 n3 n5 n8 n10 n13 n18 x.s q pt (pre++ [(i,y)]) w52.drew∧w25.heap.size≤w52.drew.heap.size:=
      ⟨kb ((G45.trans (Mod.refl w52).drew).mono fun _ _ e=>e.elim),q,pt,C52.next _,Nat.le_trans hsz (G45.trans (Mod.refl w52).drew).size⟩
     exact cnd_i (fun _=>cnd_i (fun _=>skip) (fun _=>rfl)) (fun _=>rfl)
   rintro w60 _ rfl
   intro n61 w62 h61
   have e61:=h61.num
   have zW:=(G45.trans (Mod.refl w52).drew).size
   have s62:=h61.mod.size
   refine store_i h61.has rfl rfl fun w63 H63 m63=> ?_
   have s63:=m63.size
   have G63:Grow W w63:=Mod.fresh ((G45.trans (Mod.refl w52).drew).trans h61.mod) m63 (by omega)
   have C63:=ci.grow G63 cn
   have H63:Has w63 n61 #[.int .i64 y,.int .i64 (x.s.lev y),.slice none 0 0]:=H63
   refine cnd_i (fun r=> ?_) (fun r=> ?_)
   · refine ⟨_,cell_of C63.h1 rfl,_,rfl,_,cell_add (h.grow C63.g).at rfl,((h.grow C63.g).clause g _).mono ?_⟩
     rintro e w67 ⟨qc,dc,rfl,oc,g67,fc⟩
     refine ⟨_,_,_,_,rfl,?_⟩
     obtain ⟨rs,hrs⟩: ∃rs,rs=(if x.s.is (x.s.rea y) then x.s.R (.a (x.s.rea y).toNat) else []):=⟨_,rfl⟩
     rw [← hrs] at oc ⊢
     have hrs':rs= []∨∃i,x.s.There i∧rs=x.s.R (.a i):=by
      cases hi:x.s.is (x.s.rea y) with
      |false=>rw [hi] at hrs;exact .inl hrs
      |true=>
       rw [hi] at hrs
       obtain ⟨i0,hth⟩:=PSt.is_iff.1 hi
       exact .inr ⟨_,hth,hrs⟩
     have s67:=g67.size
     have l61:=H63.lt
     refine store_f (H63.grow g67) rfl rfl fun w70 H70 m70=> ?_
     have s70:=m70.size
     have H70:Has w70 n61 #[.int .i64 y,.int .i64 (x.s.lev y),.slice qc rs.length dc]:=H70
     have G70:Grow W w70:=Mod.fresh (G63.trans g67) m70 (by omega)
     have C70:=ci.grow G70 cn
     refine ⟨_,_,cell_of C70.h13 rfl,_,_,_,cell_add H70 rfl,?_⟩
     rw [cone_ent]
     refine cnd_t rfl ?_
     rw [args3w]
     obtain ⟨k8',f8',b8',P8⟩:=C70.m8
     obtain ⟨k3',f3',b3',P3⟩:=C70.m3
     have oc70:OwI ty_int w70 qc dc rs:=oc.keep m70 fun b hb (e:b=n61)=>by have:=fc b hb;omega
     have hrl:rs.length≤4096:=by
      rcases hrs' with e| ⟨i,_,e⟩
      · rw [e];simp
      · rw [e];exact g.al i
     have hri: ∀z∈rs,InV N z:=by
      rcases hrs' with e| ⟨i,ht,e⟩
      · rw [e];simp
      · intro z hz;rw [e] at hz;rw [← hv];exact g.cv i ht z ((g.ca i ht z).2 hz)
     have zz:=C70.g.size
     refine (cnote_ok h g hv hN C70.g C70.h1 C70.h5 C70.h10 P3 P8 ⟨by omega,by omega,by omega,by omega,by omega,by omega,by omega⟩ (by omega) (by omega) oc70.vw rfl hrl hri (by omega) (by omega) fun _ b hb=>by have:=fc b hb;omega).mono ?_
     rintro e w73 ⟨rfl,t3,t8,Q3,Q8,m73⟩
     refine ⟨rfl,?_⟩
     have s73:=m73.size
     have no73: ∀k,k≠n3→k≠n8→¬(k=n3∨k=n8):=fun k a b e=>e.elim a b
     have C73:CoI w w25 B n1 n3 n5 n8 n10 n13 n18 x.s q pt (pre++ [(i,y)]) w73:=by
      refine ⟨C70.g.then m73 fun b hb e=>by rcases e with e|e<;>omega,C70.h1.keep m73 (no73 _ (by omega) (by omega)),C70.h5.keep m73 (no73 _ (by omega) (by omega)),C70.h10.keep m73 (no73 _ (by omega) (by omega)),C70.h13.keep m73 (no73 _ (by omega) (by omega)),⟨_,_,by simp;omega,Q3⟩,⟨_,_,by simp;omega,Q8⟩,C70.h18.keep m73 (no73 _ (by omega) (by omega)),C70.qn,C70.r.keep m73 fun b hb e=> ?_,C70.rf,(C70.next (i,y)).sub,C70.pa,fun a ha=> ⟨(C70.pm a ha).n,?_,(C70.pm a ha).f⟩⟩
      · have:=C70.rf b hb;rcases e with e|e<;>omega
      · obtain ⟨d,o⟩:=(C70.pm a ha).o
        exact ⟨d,o.keep m73 fun b hb e=>by have:=((C70.pm a ha).f b hb).1;rcases e with e|e<;>omega⟩
     have hm:PaM w25 w73 q ⟨y,x.s.lev y,⟨qc,rs.length,dc⟩,rs⟩:=by
      refine ⟨rfl,⟨dc,oc70.keep m73 fun b hb e=> ?_⟩,fun b hb=> ?_⟩
      · have:=fc b hb;rcases e with e|e<;>omega
      · have:=fc b hb
        refine ⟨by omega,fun e=> ?_⟩
        have:=C63.r.lt b e;omega
     have H73:Has w73 n61 #[.int .i64 y,.int .i64 (x.s.lev y),.slice qc rs.length dc]:=H70.keep m73 fun e=>by rcases e with e|e<;>omega
     refine cone_push (i:=i) (a:=⟨y,x.s.lev y,⟨qc,rs.length,dc⟩,rs⟩) C73 C70.sub cn (by omega) (by omega) H73 ⟨hyt,rfl,hrs'⟩ hm fun u' q' c' mm=> ⟨kb ?_,q',_,c',?_⟩
     · exact ((G70.mono fun _ _ e=>e.elim).then m73 fun b _ e=>by rcases e with e|e<;>simp [e]).then mm fun b _ e=> .inr (.inr e)
     · have:=mm.size;omega
   · have hm:PaM w25 w63 q ⟨y,x.s.lev y,Sl.nil,[]⟩:=⟨rfl,⟨0,Ow.nil _ _ _⟩,fun b hb=>by simp [Sl.nil,blk] at hb⟩
     refine cone_push (i:=i) (a:=⟨y,x.s.lev y,Sl.nil,[]⟩) (C63.next (i,y)) C63.sub cn (by omega) (by omega) H63 ⟨hyt,rfl,.inl rfl⟩ hm fun u' q' c' mm=> ⟨kb ?_,q',_,c',?_⟩
     · exact Mod.then (S:=fun b=>b=n3∨b=n8∨b=n18∨blk q.p=some b) (G63.mono fun _ _ e=>e.elim) mm fun b _ e=> .inr (.inr e)
     · have:=mm.size;have:=G63.size;omega
 · intro d w36 hd hD hI
   obtain ⟨q,pt,ci,hsz⟩:=hI
   have hsub:=ci.sub
   rw [xs_snd,hzs] at hsub
   exact cone_real (K:=fun v w'=> ∃ (tp:Option Addr) (tc:Nat) (rp:Option Addr) (rc:Nat) (tr:List As) (rl:List Int),Ending.returned v= .returned (.tuple #[.slice tp tr.length tc,.slice rp rl.length rc])∧ConeS x.s tr rl∧Le.TV w' tp tr∧Vw (Value.int .i64) w' rp rl∧Grow w w'∧tr.length≤tc) g cn ci hsz (by omega) hsub hD hd fun u' tp tc rp rc tr rl cs tv vr gu hc=> ⟨tp,tc,rp,rc,tr,rl,rfl,cs,tv,vr,gu,hc⟩
end
end Go.Proofs.YtddffgjagppimaaGreat.W
