/- slices.Backward's iterator: its contract. -/
import Derived.Test.YtenmibfmhccmiaaGreatDratB
import Derived.RangeFuncBox
import Derived.RangeFuncLeaves
import Derived.Shelf.Abstract
import Derived.WalkKit
import Derived.OwnWalkIn
import Derived.TacticsInMore
import Derived.LoopNIn
import Derived.LoopIn
namespace Go.Proofs
open Go.RowKit Go.Shelf Go.Fw
attribute [local go_sem] Oper.semAt_some
def LM (I:List Int) (k:Nat):Int × Int:=(((I.length - 1 - k:Nat):Int),I[I.length - 1 - k]?.getD 0)
def AZ (I:List Int) (k:Nat):List (Int × Int):=(List.range k).map (LM I)
theorem Fp (I:List Int) (k:Nat):AZ I (k+1)=AZ I k++ [LM I k]:=by simp [AZ,List.range_succ]
theorem CQ (I:List Int) (k:Nat):(AZ I k).length=k:=by simp [AZ]
set_option maxRecDepth 100000 in
set_option maxHeartbeats 2000000 in
theorem Ld (n:Nat) (hn:1<=n) (l Y b cap:Nat) (I:List Int) (ac:I.length*8<=140737488351232) (T:Nat->Prop) (av:T Y) (ax:T b)
 (J Jx:List {x:Int × Int // x.2∈I}->World->Prop)
 (hY: ∀cP x W1,J cP W1->cP.length<I.length->YieldAt Fence.wide (n - 1) Tryz.prog l #[.int .i64 x.1.1,.int .i64 x.1.2] W1 fun e V=>
   (e= .returned (.bool true)/\J (cP++ [x]) V/\LB T W1 V)\/(e= .returned (.bool false)/\Jx (cP++ [x]) V))
 (W:World) (ap:W.cell? ⟨Y,0,none⟩=some (.slice (some ⟨b,0,none⟩) I.length cap)) (hc: ∀j,j<I.length->W.cell? ⟨b,0+j,none⟩=some (.int .i64 (I[j]?.getD 0))) (h0:J [] W):
 CallsIn Fence.wide n Tryz.prog 214 #[.func (.yield l) #[] #[],.pointer (some ⟨Y,0,none⟩)] W fun e V=> (∃v,e= .returned v)/\
  ((∃O,O.map (·.1)=AZ I I.length/\J O V)\/(∃cP,True/\Jx cP V)):=by
 refine callsIn_of_wp Tryz.func214 rfl trivial ?_ rfl;simp only [show Tryz.f214.ntmps=19 from rfl,List.size_toArray,List.length_cons,List.length_nil,Nat.reduceAdd,Nat.reduceSub,Array.replicate_succ,Array.replicate_zero,List.push_toArray,List.append_toArray,List.nil_append,List.cons_append]
 gi_wp2
 gi_loopw [3] (fun i wr=> ∃k:Nat,k<=I.length/\i= .int .i64 ((I.length:Int) - 1 - k)/\(∃O,O.map (·.1)=AZ I k/\J O wr)/\LB T W wr)
  (fun i _=> (intOf i+1).toNat)
 case atStart=>exact ⟨0,Nat.zero_le _,by simp,⟨[],rfl,h0⟩,fun _ _=>rfl⟩
 case round=>
  obtain ⟨k,hk,rfl,⟨O,Q,X⟩,U⟩:=hrel;have a6:wr.cell? ⟨Y,0,none⟩=some (.slice (some ⟨b,0,none⟩) I.length cap):=by
   rw [<- ap];exact World.cell?_of_block (U Y av)
  by_cases ag:k<I.length
  . have a7:wr.cell? ⟨b,I.length - 1 - k,none⟩=some (.int .i64 (I[I.length - 1 - k]?.getD 0)):=by
     have:=hc (I.length - 1 - k) (by omega);rw [Nat.zero_add] at this;rw [<- this];exact World.cell?_of_block (U b ax)
    have Z:I[I.length - 1 - k]?.getD 0∈I:=by simp [show I.length - 1 - k<I.length by omega]
    have ar:O.length=k:=by have:=congrArg List.length Q;simpa [AZ] using this
    obtain ⟨fn,tmps,assign,body,hy,hR⟩:=hY O ⟨LM I k,Z⟩ wr X (by rw [ar];exact ag);dsimp only [LM] at hy;have ei:(I.length:Int) - 1 - k=((I.length - 1 - k:Nat):Int):=by omega
    rw [ei];have ge:(0:Int)<=((I.length - 1 - k:Nat):Int):=by omega
    gi_wp2
    refine hR.mono ?_;rintro e W3 (⟨rfl,ay,aw⟩| ⟨rfl,aa⟩)
    . gi_wp2
      go_roundw
      case rel=>exact ⟨k+1,by omega,by simp;omega,⟨_,by rw [List.map_append,Q,Fp];rfl,ay⟩,fun j hj=> (aw j hj).trans (U j hj)⟩
      case measure=>simp [intOf]
    . gi_wp2
      refine bodyPost_ret (results_none rfl _ _ _) rfl ?_;exact ⟨⟨_,rfl⟩,.inr ⟨_,trivial,aa⟩⟩
  . obtain rfl:k=I.length:=by omega
    have ei:(I.length:Int) - 1 - (I.length:Int)= -1:=by omega
    rw [ei]
    gi_wp2
    go_end0
    exact ⟨⟨_,rfl⟩,.inl ⟨_,Q,X⟩⟩
set_option maxRecDepth 100000 in
set_option maxHeartbeats 2000000 in
theorem J4 (n:Nat) (l O:Nat) (J:List {x:Int × Int // x.2∈([]:List Int)}->World->Prop) (W:World) (V:W.cell? ⟨O,0,none⟩=some (.slice none 0 0)) (Q:J [] W):
 CallsIn Fence.wide n Tryz.prog 214 #[.func (.yield l) #[] #[],.pointer (some ⟨O,0,none⟩)] W fun e U=> (∃v,e= .returned v)/\J [] U:=by
 refine callsIn_of_wp Tryz.func214 rfl trivial ?_ rfl;simp only [show Tryz.f214.ntmps=19 from rfl,List.size_toArray,List.length_cons,List.length_nil,Nat.reduceAdd,Nat.reduceSub,Array.replicate_succ,Array.replicate_zero,List.push_toArray,List.append_toArray,List.nil_append,List.cons_append]
 gi_wp2
 gi_loopw [3] (fun i wr=>i= .int .i64 (-1)/\J [] wr) (fun _ _=>0)
 case atStart=>exact ⟨rfl,Q⟩
 case round=>
  obtain ⟨rfl,I⟩:=hrel
  gi_wp2
  go_end0
  exact ⟨⟨_,rfl⟩,I⟩
open Go.Proofs.YtenmibfmhccmiaaGreat.W in
theorem GM {w:World} {Q:Nat} {X:Option Addr} {cap:Nat} {O:List Int} (hB:bF w Q #[.slice X O.length cap]) (o:eC aC w X cap O) (I:O.length*8<=140737488351232):
 J_ Tryz.prog 214 #[.pointer (some ⟨Q,0,none⟩)] (AZ O O.length) (fun p=>p.2∈O) (fun k=>k=Q\/aI X=some k) w:=by
 intro n hn l J Jx W hW _ _ hY Y;have g:=Go.Fw.aE.Gi hW;have U:=hB.grow g;have Z:=o.grow g;rcases Z.un with ⟨rfl,rfl,rfl⟩| ⟨b,cur,rfl,_⟩
 . exact (J4 n l Q J W (aR U rfl) Y).mono fun e W' ⟨he,V⟩=> ⟨he,.inl ⟨[],rfl,V⟩⟩
 . refine Ld n hn l Q b cap O I (fun k=>k=Q\/aI (some (⟨b,0,none⟩:Addr))=some k) (.inl rfl) (.inr rfl) J Jx (fun cP x W1 h1 h2=>hY cP x W1 h1 (by rw [CQ];exact h2)) W (aR U rfl) (fun j V=> ?_) Y;obtain ⟨a,e,hc⟩:=Z.vw j V;cases e;rw [cX] at hc;rw [hc];simp [V]
end Go.Proofs
namespace Go.Proofs.YtenmibfmhccmiaaGreat.W
open Go Go.Fw Go.RowKit Go.SoP Go.LiP Go.LeP
open Go.Proofs.Tryz (prog)
section
variable {w0 w w' w1 w2 W0:World} {B N:Nat} {L L':Nat->Nat} {x:Xs} {l:List Int}
theorem oP:qj prog 194 aC cV=true:=by kernel_rfl
abbrev BG:=MB prog aC cV
theorem mF {s:aG} (g:aM s) {y:Int} (I:y∈s.R .tr):0<=s.bj y/\s.bj y<=(s.R .be).length:=by
 obtain ⟨p,hp,e⟩:=vQ I;have:=g.lv p hp;rw [e] at this;have J:=List.countP_le_length (p:=fun e:Int=>decide (e<=(p:Int))) (l:=s.R .be);omega
theorem EX {s:aG} (g:aM s) {y:Int} (O:dR s.vars y): -1<=s.kF y/\s.kF y<=s.vars:=by
 have hb:=g.Jf;have ht:=g.xh;unfold aG.kF;split
 . rename_i h;simp only [Bool.and_eq_true,bne_iff_ne,ne_eq] at h;have J: ¬(y ∉ s.R .tr/\ -y ∉ s.R .tr):=fun e=>h.2 ((gx g O).2 e);by_cases e:y∈s.R .tr
   . have:=mF g e;omega
   . have I: -y∈s.R .tr:=Classical.byContradiction fun I=>J ⟨e,I⟩;have:=mF g I;rw [oM] at this;omega
 . omega
theorem EN {s:aG} (g:aM s) {y:Int} (I:y∈s.R .tr):s.kF y=s.bj y:=by
 have hv:=g.tv y I;unfold aG.kF;have h1:=(ia g.d7).2 hv;have J:s.val y≠0:=by have:=(g.v1 y hv).2 I;omega
 rw [if_pos (by simp [h1,J])]
theorem xe {s:aG} (g:aM s) {y:Int} (I:y∈s.R .tr):s.eE y=s.j8 y:=by
 have hv:=g.tv y I;unfold aG.eE;have h1:=(ia g.d7).2 hv;have J:s.val y≠0:=by have:=(g.v1 y hv).2 I;omega
 rw [if_pos (by simp [h1,J])]
theorem SR.kF (h:SR w0 w B L N x) (g:aM x.s) (v:Int):Calls prog dF.id #[bR x.pb,.int .i64 v] w fun e w'=>e= .returned (.int .i64 (x.s.kF v))/\aq w w':=by
 obtain ⟨H,pm,_⟩:=h.pm id;exact Ea pm g.wf v
theorem SR.eE (h:SR w0 w B L N x) (g:aM x.s) (v:Int):Calls prog da.id #[bR x.pb,.int .i64 v] w fun e w'=>e= .returned (.int .i64 (x.s.eE v))/\aq w w':=by
 obtain ⟨H,pm,_⟩:=h.pm id;exact Dq pm g.wf v
theorem SR.Fx (h:SR w0 w B L N x) (g:aM x.s) (i:Int):Calls prog c_.id #[bR x.pb,.int .i64 i] w fun e w'=>
 ∃ (q:Option Addr) (d:Nat),e= .returned (.tuple #[.slice q (if x.s.is i then x.s.R (.a i.toNat) else []).length d,.bool (x.s.is i)])/\eC aC w' q d (if x.s.is i then x.s.R (.a i.toNat) else [])/\aq w w'/\(∀b,aI q=some b->w.heap.size<=b):=by
 obtain ⟨H,pm,_⟩:=h.pm id;exact DZ pm i fun j=>by have:=g.al j;omega
theorem zp (h:SR w0 W0 B L N x) (g:aM x.s) (hv:x.s.vars=N) (hN:N<=1000) (G:aq W0 w) {n1 n3 n5 n8 n10 k3 k8:Nat} {s3 s8:Int->Bool}
 (h1:bF w n1 #[bR B]) (h5:bF w n5 #[.map (some n3)]) (jQ:bF w n10 #[.map (some n8)]) (M3:BG w n3 k3 s3) (M8:BG w n8 k8 s8) (ne:n3≠n8/\n1≠n3/\n1≠n8/\n5≠n3/\n5≠n8/\n10≠n3/\n10≠n8) (f3:W0.heap.size<=n3) (f8:W0.heap.size<=n8)
 {p:Option Addr} {n c:Nat} (vc:Vw (Value.int .i64) w p l) (hn:n=l.length) (hl:l.length<=4096) (aT: ∀y∈l,dR N y) (b7:k3<=100000000) (cb:k8<=100000000) (hp:l≠[]->∀b,aI p=some b->b≠n3/\b≠n8):
 Calls prog c5.id #[.slice p n c,.pointer (some ⟨n5,0,none⟩),.pointer (some ⟨n10,0,none⟩),.pointer (some ⟨n1,0,none⟩)] w fun e w'=>e= .returned (.tuple #[])/\
  ∃O J,BG w' n3 (k3+l.length) O/\BG w' n8 (k8+l.length) J/\aE (fun b=>b=n3\/b=n8) w w':=by
 refine c5.ah ?_;obtain ⟨e1,e2,e3,e4,e5,e6,e7⟩:=ne;refine ⟨fun V u k=> ∃ (t:Nat) (O J:Int->Bool),V=t/\t<=l.length/\k=l.length - t/\BG u n3 (k3+t) O/\BG u n8 (k8+t) J/\aE (fun b=>b=n3\/b=n8) w u,⟨_,0,s3,s8,rfl,Nat.zero_le _,rfl,M3,M8,aE.refl _⟩,?_⟩;rintro V u k _ ⟨t,O,J,rfl,ht,rfl,m3,m8,mm⟩;refine ao (fun r=> ?_) (fun r=> ?_)
 . have r:t<l.length:=by simp at r;omega
   have vu:=vc.nf mm fun av b hb e=>by have:=hp av b hb;rcases e with e|e<;>simp_all
   refine vu.ix 0 (by omega) hn (by omega) fun a ha=> ⟨_,ha,?_⟩
   rw [Int.toNat_natCast];obtain ⟨y,hy⟩: ∃y,l.getD t 0=y:=⟨_,rfl⟩
   have aw:y∈l:=by rw [<- hy];simp [List.getD,r]
   have Z:=aT y aw;have hb:=Z.bd (by omega);have b_:=Z.aX;rw [hy];have H5:bF u n5 _:=h5.keep mm fun e=>by rcases e with e|e<;>omega
   have ce:bF u n10 _:=jQ.keep mm fun e=>by rcases e with e|e<;>omega
   have H1:bF u n1 _:=h1.keep mm fun e=>by rcases e with e|e<;>omega
   refine ⟨fun v=>v=u.drew,rfl,_,eF (aR H5.drew rfl),jH.ah ⟨_,rfl,rfl,?_⟩⟩;rw [sZ hb.1 hb.2];have a8:BG u.drew n3 (k3+t) O:=m3.grow (aE.refl u).drew;have a_:BG u.drew n8 (k8+t) J:=m8.grow (aE.refl u).drew;obtain ⟨I,a6,a',X⟩:=a8.put oP (by unfold maxLen;omega) (a:=aX y) (vC (by omega) (by omega)) true;refine ⟨I,a6,fun v=>aq I.drew v,aE.refl _,?_⟩;have Q:aE (fun b=>b=n3\/b=n8) w I.drew:=((mm.grow (aE.refl u).drew).then X fun b _ (e:b=n3)=> .inl e).grow (aE.refl _).drew;have ac:bF I.drew n10 _:=(jQ.keep Q fun e=>by rcases e with e|e<;>omega)
   have a7:bF I.drew n1 _:=(h1.keep Q fun e=>by rcases e with e|e<;>omega)
   have GA:aq W0 I.drew:=G.then Q fun b hb e=>by rcases e with e|e<;>omega
   have SA:=h.grow GA;refine ⟨_,fun v gv=>aR (ac.grow gv) rfl,_,fun v gv=>aR (a7.grow gv) rfl,_,rfl,_,fun v gv=>ad (SA.at.grow gv) rfl,(SA.kF g y).mono ?_⟩;rintro e cc ⟨rfl,U⟩;have b3:=EX g (y:=y) (by rw [hv];exact Z);have ay:=(a_.AG X (Ne.symm e1)).grow ((aE.refl I).drew.trans U);obtain ⟨ar,ax,az,Y⟩:=ay.put oP (by unfold maxLen;omega) (a:=x.s.kF y) (vC (by omega) (by omega)) true;refine ⟨_,rfl,U,ar,ax,_,?_,t+1,_,_,wN (by omega) (by omega),by omega,rfl,(a'.grow ((aE.refl I).drew.trans U)).AG Y e1,az,(Q.grow U).then Y fun b _ (e:b=n8)=> .inr e⟩;omega
 . have r:t=l.length:=by simp at r;omega
   subst r;exact ⟨rfl,O,J,m3,m8,mm⟩
structure Pa where
 lit:Int
 bj:Int
 sl:Sl
 rs:List Int
def pZ:Pa:=⟨0,0,Sl.nil,[]⟩
def C1 (a:Pa):List Value:= [.int .i64 a.lit,.int .i64 a.bj,a.sl.v]
theorem tJ:Do 3 C1:=⟨fun _=>rfl,by omega,fun x v hv=>by
 simp only [C1,List.mem_cons,List.not_mem_nil,or_false] at hv;rcases hv with rfl|rfl|rfl<;>rfl⟩
def JQ (l:List Pa) (k:Nat) (m:List Pa):Prop:=m.length=l.length/\∀i,i<l.length->m.getD i pZ=if i<k\/l.length<=i+k then l.getD (l.length - 1 - i) pZ else l.getD i pZ
theorem oF {b:List Pa} {i j:Nat} {x:Pa} (hi:i<b.length):(b.set i x).getD j pZ=if j=i then x else b.getD j pZ:=by
 simp only [List.getD_eq_getElem?_getD,List.getElem?_set];by_cases h:j=i
 . subst h;simp [hi]
 . rw [if_neg (fun e=>h e.symm),if_neg h]
theorem Ba {p:Option Addr} {n c:Nat} {l:List Pa} (o:Row 3 C1 bP w p c l) (hn:n=l.length) (hl:l.length<=1000000):Calls prog aO.id #[.slice p n c] w fun e w'=>e= .returned (.tuple #[])/\Row 3 C1 bP w' p c l.reverse/\aE (fun b=>aI p=some b) w w':=by
 refine aO.ah ?_;subst hn;refine ⟨fun I J u k=> ∃ (t:Nat) (m:List Pa),I=t/\J=(l.length:Int) - 1 - t/\t+t<=l.length+1/\k=l.length - t/\JQ l t m/\Row 3 C1 bP u p c m/\aE (fun b=>aI p=some b) w u,
  ⟨_,0,l,rfl,by rw [aB (by omega) (by omega)];omega,by omega,rfl,⟨rfl,fun i hi=>by rw [if_neg (by omega)]⟩,o,aE.refl _⟩,?_⟩
 rintro I J u k _ ⟨t,m,rfl,rfl,ht,rfl,⟨O,Q⟩,R,M⟩;refine ao (fun r=> ?_) (fun r=> ?_)
 . have r:(t:Int)< (l.length:Int) - 1 - t:=by simpa using r
   obtain ⟨j,hj⟩: ∃j:Nat,(l.length:Int) - 1 - t=j:=⟨l.length - 1 - t,by omega⟩
   rw [hj];have Rd:=R.drew;have v:=Rd.vr tJ;refine v.ix pZ (by omega) O.symm (by omega) fun a ha=> ⟨_,_,_,_,_,ha,v.ix pZ (by omega) O.symm (by omega) fun a2 Z=> ⟨_,_,_,_,_,Z,?_⟩⟩
   refine Rd.st tJ (m.getD j pZ) rfl rfl (by omega) O.symm (by omega) fun ag Y V=> ?_;refine Y.st tJ (m.getD t pZ) rfl rfl (by omega) (by rw [List.length_set];exact O.symm) (by omega) fun ar U X=> ?_;refine ⟨_,?_,t+1,_,wN (by omega) (by omega),?_,by omega,rfl,⟨?_,fun i hi=> ?_⟩,U,((M.grow (aE.refl u).drew).trans V).trans X⟩
   . omega
   . rw [aB (by omega) (by omega)];omega
   . simp [O]
   . rw [Int.toNat_natCast,Int.toNat_natCast,oF (by rw [List.length_set];omega),oF (by omega)];have a1:=Q j (by omega);have a2:=Q t (by omega);rw [if_neg (by omega)] at a1 a2;by_cases e:i=j
     . subst e;rw [if_pos rfl,a2,if_pos (by omega)];congr 1;omega
     . rw [if_neg e];by_cases e2:i=t
       . subst e2;rw [if_pos rfl,a1,if_pos (by omega)];congr 1;omega
       . rw [if_neg e2,Q i hi];by_cases e3:i<t\/l.length<=i+t
         . rw [if_pos e3,if_pos (by omega)]
         . rw [if_neg e3,if_neg (by omega)]
 . have r: ¬(t:Int)< (l.length:Int) - 1 - t:=by simpa using r
   refine ⟨rfl,?_,M⟩;have:m=l.reverse:=by
    refine List.ext_getElem (by simp [O]) fun i h1 h2=> ?_;have:=Q i (by omega);rw [List.getElem_reverse];have e1:m.getD i pZ=m[i]:=by simp [List.getD,h1]
    rw [<- e1,this];have hi:i<l.length:=by omega
    by_cases e:i<t\/l.length<=i+t
    . rw [if_pos e];simp [List.getD,show l.length - 1 - i<l.length by omega]
    . rw [if_neg e];have:l.length - 1 - i=i:=by omega
      simp [List.getD,hi,this]
   rw [<- this];exact R
end
section
variable {w0 w w' w1 w2 W0 w25 u u':World} {B N n1 n3 n5 n8 n10 n13 n18:Nat} {L L':Nat->Nat} {x:Xs} {l:List Int} {s:aG} {cP:List (Int × Int)} {q:Sl} {pt:List Pa}
theorem LD {C:Nat} {T S:Nat->Prop} (m:aE S u u') (U: ∀r,S r->r<C\/∀o,u.heap[r]? =some o->o.isCells=true) (V: ∀k,T k->¬S k) (hl: ∀k,T k->k<u.heap.size):KB C T u u':=by
 refine ⟨⟨m.size,fun k o O I Q=> ?_⟩,fun k O=>m.block k (hl k O) (V k O)⟩;have J:k<u.heap.size:=(Array.getElem?_eq_some_iff.1 I).1;by_cases e:S k
 . rcases U k e with h|h
   . omega
   . rw [h o I] at Q;cases Q
 . exact (m.block k J e).trans I
structure LW (s:aG) (a:Pa):Prop where
 mem:a.lit∈s.R .tr
 bj:a.bj=s.bj a.lit
 rs:a.rs= []\/∃i,s.aQ i/\a.rs=s.R (.a i)
structure K1 (w25 u:World) (q:Sl) (a:Pa):Prop where
 n:a.sl.n=a.rs.length
 o: ∃d,eC aC u a.sl.p d a.rs
 f: ∀b,aI a.sl.p=some b->w25.heap.size<=b/\aI q.p≠some b
structure CN (w w25:World) (n1 n3 n5 n8 n10 n13 n18:Nat):Prop where
 a:w.heap.size<=n1
 b:n1<n3
 c:n3<n5
 d:n5<n8
 e:n8<n10
 f:n10<n13
 g:n13<n18
 h:n18<w25.heap.size
structure Ay (w w25:World) (B n1 n3 n5 n8 n10 n13 n18:Nat) (s:aG) (q:Sl) (pt:List Pa) (cP:List (Int × Int)) (u:World):Prop where
 g:aq w u
 h1:bF u n1 #[bR B]
 h5:bF u n5 #[.map (some n3)]
 jQ:bF u n10 #[.map (some n8)]
 pE:bF u n13 #[.func (.func 184) #[] #[.pointer (some ⟨n5,0,none⟩),.pointer (some ⟨n10,0,none⟩),.pointer (some ⟨n1,0,none⟩)]]
 m3: ∃k f,k<=4096+4096*cP.length/\BG u n3 k f
 m8: ∃k f,k<=4096+4096*cP.length/\BG u n8 k f
 rN:bF u n18 #[q.v]
 qn:q.n=pt.length
 r:Row 3 C1 bP u q.p q.c pt
 rf: ∀b,aI q.p=some b->w25.heap.size<=b
 sub:(pt.map (·.lit)).Sublist (cP.map (·.2))
 pa: ∀a∈pt,LW s a
 pm: ∀a∈pt,K1 w25 u q a
theorem yE {p:Option Addr} {d:Nat} (o:eC aC u p d l): ∀b,aI p=some b->∀I,u.heap[b]? =some I->I.isCells=true:=by
 intro b hb I J;rcases o.un with ⟨rfl,_⟩| ⟨g,cur,rfl,O,_⟩
 . simp [aI] at hb
 . simp [aI] at hb;subst hb;rw [O] at J;cases J;rfl
theorem ri {p:Option Addr} {d:Nat} (o:Row 3 C1 bP u p d pt): ∀b,aI p=some b->∀I,u.heap[b]? =some I->I.isCells=true:=by
 intro b hb I J;rcases o.un with ⟨rfl,_⟩| ⟨g,cur,rfl,O,_⟩
 . simp [aI] at hb
 . simp [aI] at hb;subst hb;rw [O] at J;cases J;rfl
theorem Ay.keep (h:Ay w w25 B n1 n3 n5 n8 n10 n13 n18 s q pt cP u) {S:Nat->Prop} (m:aE S u u') (cn:CN w w25 n1 n3 n5 n8 n10 n13 n18) (I: ∀r,S r->w25.heap.size<=r) (hr: ∀b,aI q.p=some b->¬S b) (hp: ∀a∈pt,∀b,aI a.sl.p=some b->¬S b):Ay w w25 B n1 n3 n5 n8 n10 n13 n18 s q pt cP u':=by
 obtain ⟨a,b,c,d,e,f,g,X⟩:=cn;have no: ∀k,k<w25.heap.size->¬S k:=fun k V hs=>by have:=I k hs;omega
 obtain ⟨U,f3,J,m3⟩:=h.m3;obtain ⟨Q,f8,O,m8⟩:=h.m8;exact ⟨h.g.then m fun r hr hs=>by have:=I r hs;omega,h.h1.keep m (no _ (by omega)),h.h5.keep m (no _ (by omega)),h.jQ.keep m (no _ (by omega)),h.pE.keep m (no _ (by omega)),⟨U,f3,J,m3.keep m (no _ (by omega))⟩,⟨Q,f8,O,m8.keep m (no _ (by omega))⟩,h.rN.keep m (no _ (by omega)),h.qn,h.r.keep m hr,h.rf,h.sub,h.pa,
  fun a ha=> ⟨(h.pm a ha).n,by obtain ⟨d,o⟩:=(h.pm a ha).o;exact ⟨d,o.keep m (hp a ha)⟩,(h.pm a ha).f⟩⟩
theorem Ay.grow (h:Ay w w25 B n1 n3 n5 n8 n10 n13 n18 s q pt cP u) (m:aq u u') (cn:CN w w25 n1 n3 n5 n8 n10 n13 n18):Ay w w25 B n1 n3 n5 n8 n10 n13 n18 s q pt cP u':=
 h.keep m cn (fun _ e=>e.elim) (fun _ _ e=>e) fun _ _ _ _ e=>e
theorem Ay.next (h:Ay w w25 B n1 n3 n5 n8 n10 n13 n18 s q pt cP u) (y:Int × Int):Ay w w25 B n1 n3 n5 n8 n10 n13 n18 s q pt (cP++ [y]) u:=by
 obtain ⟨J,f3,O,m3⟩:=h.m3;obtain ⟨I,f8,Q,m8⟩:=h.m8;exact ⟨h.g,h.h1,h.h5,h.jQ,h.pE,⟨J,f3,by simp;omega,m3⟩,⟨I,f8,by simp;omega,m8⟩,h.rN,h.qn,h.r,h.rf,h.sub.trans (by rw [List.map_append];exact List.sublist_append_left _ _),h.pa,h.pm⟩
theorem Dy:nP prog 172 bP 3 40=true:=by kernel_rfl
theorem K7 {a:Pa} {b:Nat} (h:bF u b #[.int .i64 a.lit,.int .i64 a.bj,a.sl.v]):Vr 3 C1 u (some ⟨b,0,none⟩) [a]:=by
 intro j I;have:j=0:=by simpa using I
 subst this;exact ⟨_,rfl,ad h rfl,ad h rfl,ad h rfl,trivial⟩
theorem wH {i:Int} {a:Pa} (h:Ay w w25 B n1 n3 n5 n8 n10 n13 n18 s q pt (cP++ [(i,a.lit)]) u) (hs:(pt.map (·.lit)).Sublist (cP.map (·.2))) (cn:CN w w25 n1 n3 n5 n8 n10 n13 n18) (cp:w25.heap.size<=u.heap.size) (hl:pt.length<=1000000) {bb:Nat} (b5:bF u bb #[.int .i64 a.lit,.int .i64 a.bj,a.sl.v]) (bv:LW s a) (hm:K1 w25 u q a) {K:World->Prop}
 (hk: ∀u' q',Ay w w25 B n1 n3 n5 n8 n10 n13 n18 s q' (pt++ [a]) (cP++ [(i,a.lit)]) u'->aE (fun b=>b=n18\/aI q.p=some b) u u'->K u'):
 ∃ar Z X,u.cell? (Addr.mk n18 0 none)=some (.slice ar Z X)/\
  ∃ax a7 ap V aa,aD u (Addr.mk bb 0 none) 0 [.int .i64 ax,.int .i64 a7,.slice ap V aa]/\
  ∀aw O,bc (.cells #[.int .i64 ax,.int .i64 a7,.slice ap V aa] 199) u aw O->
  ∃av ac Y an,(Builtin.append_ #[172,172] 172 #[.slice ar Z X,.slice (some (Addr.mk aw 0 none)) 1 1]).run prog O= .ok (.slice ac Y an) av/\
  ∃J,af (Addr.mk n18 0 none) 0 [.slice ac Y an] av J/\K J:=by
 refine ⟨_,_,_,aR h.rN rfl,_,_,_,_,_,jy b5,fun aw O Q=> ?_⟩;have a8:=h.grow Q.mod cn;have c7:=Q.num;refine Row.oV tJ Dy a8.r (K7 (a:=a) Q.has) h.qn rfl (by simp;omega) fun av p' c' bY aT az cT=> ?_;obtain ⟨ca,cb,cc,cd,ce,cf,cg,bx⟩:=cn;have nb: ∀k,k<w25.heap.size->¬aI q.p=some k:=fun k hk e=>by have:=h.rf k e;omega
 refine bq (a8.rN.keep aT (nb _ bx)) rfl rfl fun J bk a6=> ?_;have c1:=Q.mod.size;have pf: ∀b,aI p'=some b->w25.heap.size<=b:=fun b hb=>by
  rcases az with rfl|rfl
  . exact h.rf b hb
  . have:O.heap.size=b:=by simpa [aI] using hb
    omega
 have U:aE (fun b=>b=n18\/aI q.p=some b) u J:=((aE.then (S:=fun b=>b=n18\/aI q.p=some b) (Q.mod.mono fun _ _ e=>e.elim) aT fun b _ e=> .inr e)).then a6 fun b _ (e:b=n18)=> .inl e;have no: ∀k,k≠n18->k<w25.heap.size->¬(k=n18\/aI q.p=some k):=fun k h1 h2 e=>by
  rcases e with e|e
  . exact h1 e
  . exact nb k h2 e
 obtain ⟨k3,f3,b3,M3⟩:=h.m3;obtain ⟨k8,f8,b8,M8⟩:=h.m8;have a_: ∀a':Pa,K1 w25 u q a'->K1 w25 J ⟨p',(pt++ [a]).length,c'⟩ a':=fun a' ha=>by
  obtain ⟨d,o⟩:=ha.o;refine ⟨ha.n,⟨d,o.keep U fun b hb e=> ?_⟩,fun b hb=> ⟨(ha.f b hb).1,fun e=> ?_⟩⟩
  . have:=ha.f b hb;rcases e with e|e
    . omega
    . exact this.2 e
  . have c0:=o.lt b hb;rcases az with e'|e'
    . have e:aI p'=some b:=e;rw [e'] at e;exact (ha.f b hb).2 e
    . have e:aI p'=some b:=e;rw [e'] at e;have:O.heap.size=b:=by simpa [aI] using e
      omega
 refine hk J ⟨p',(pt++ [a]).length,c'⟩ ⟨h.g.then U fun r hr e=> ?_,h.h1.keep U (no _ (by omega) (by omega)),h.h5.keep U (no _ (by omega) (by omega)),h.jQ.keep U (no _ (by omega) (by omega)),h.pE.keep U (no _ (by omega) (by omega)),⟨k3,f3,b3,M3.keep U (no _ (by omega) (by omega))⟩,⟨k8,f8,b8,M8.keep U (no _ (by omega) (by omega))⟩,bk,rfl,bY.keep a6 fun b hb (e:b=n18)=> ?_,pf,?_,fun a' I=> ?_,fun a' I=> ?_⟩ U
 . rcases e with e|e
   . omega
   . have:=h.rf r e;have:=h.g.size;exact absurd e (nb r (by omega))
 . have:=pf b hb;omega
 . rw [List.map_append,List.map_append];exact hs.append (List.Sublist.refl _)
 . rcases List.mem_append.1 I with I|I
   . exact h.pa a' I
   . rw [List.mem_singleton] at I;subst I;exact bv
 . rcases List.mem_append.1 I with I|I
   . exact a_ a' (h.pm a' I)
   . rw [List.mem_singleton] at I;subst I;exact a_ _ hm
end
section
variable {w0 w w' w1 w2 W0 w25 u u':World} {B N n1 n3 n5 n8 n10 n13 n18:Nat} {L L':Nat->Nat} {x:Xs} {l:List Int} {s:aG} {cP:List (Int × Int)} {q:Sl} {pt:List Pa}
structure RP (lv:Nat->Int) (t:Nat) (rl:List Int) (ix:Nat->Nat):Prop where
 up: ∀a b,a<b->b<rl.length->rl.getD a 0<rl.getD b 0
 z:rl≠[]->rl.getD 0 0=0
 ix: ∀j,j<t->ix j<rl.length/\rl.getD (ix j) 0=lv j
 e0:t=0->rl= []
 ne:0<t->rl≠[]/\rl.getD (rl.length - 1) 0=lv (t - 1)
def rO (rl:List Int) (v:Int):List Int:=if rl= [] then (if 0<v then [0,v] else [v]) else if rl.getD (rl.length - 1) 0≠v then rl++ [v] else rl
theorem EI {lv:Nat->Int} {t:Nat} {rl:List Int} {ix:Nat->Nat} (h:RP lv t rl ix) (h0:0<=lv t) (hm:0<t->lv (t - 1)<=lv t):
 RP lv (t+1) (rO rl (lv t)) (fun j=>if j=t then (rO rl (lv t)).length - 1 else ix j):=by
 have key: ∀I:List Int,(∃e,I=rl++e)->(∀a b,a<b->b<I.length->I.getD a 0<I.getD b 0)->(I.getD 0 0=0)->I≠[]->I.getD (I.length - 1) 0=lv t->
  RP lv (t+1) I (fun j=>if j=t then I.length - 1 else ix j):=by
  rintro I ⟨e,rfl⟩ h1 h2 Z h4;have hl:0< (rl++e).length:=List.length_pos_iff.2 Z;refine ⟨h1,fun _=>h2,fun j hj=> ?_,fun e=>by omega,fun _=> ⟨Z,by simpa using h4⟩⟩;by_cases X:j=t
  . subst X;show (if j=j then _ else _)<_/\_;rw [if_pos rfl];exact ⟨by omega,h4⟩
  . show (if j=t then _ else _)<_/\_;rw [if_neg X];obtain ⟨a,b⟩:=h.ix j (by omega);refine ⟨by rw [List.length_append];omega,?_⟩;rw [<- b];simp only [List.getD_eq_getElem?_getD];rw [List.getElem?_append_left a]
 unfold rO;by_cases e:rl= []
 . subst e;rw [if_pos rfl];by_cases hv:0<lv t
   . rw [if_pos hv];refine key _ ⟨_,rfl⟩ (fun a b J hb=> ?_) rfl (by simp) rfl;have hb:b<2:=hb;have:a=0/\b=1:=by omega
     obtain ⟨rfl,rfl⟩:=this;exact hv
   . rw [if_neg hv];refine key _ ⟨_,rfl⟩ (fun a b J hb=> ?_) ?_ (by simp) rfl
     . have hb:b<1:=hb;omega
     . show lv t=0;omega
 . rw [if_neg e];have ht:0<t:=by
    rcases Nat.eq_zero_or_pos t with O|O
    . exact absurd (h.e0 O) e
    . exact O
   obtain ⟨_,V⟩:=h.ne ht;have hlen:0<rl.length:=List.length_pos_iff.2 e;by_cases Q:rl.getD (rl.length - 1) 0≠lv t
   . rw [if_pos Q];have U: ∀a,a<rl.length->(rl++ [lv t]).getD a 0=rl.getD a 0:=fun a ha=>by simp only [List.getD_eq_getElem?_getD];rw [List.getElem?_append_left ha]
     have Y:(rl++ [lv t]).getD rl.length 0=lv t:=by simp [List.getD]
     refine key _ ⟨_,rfl⟩ (fun a b J hb=> ?_) (by rw [U 0 hlen];exact h.z e) (by simp) (by rw [List.length_append];exact Y);rw [List.length_append,List.length_singleton] at hb;by_cases O:b=rl.length
     . subst O;rw [Y,U a J];have hm:=hm ht;by_cases e3:a=rl.length - 1
       . rw [e3];omega
       . have:=h.up a (rl.length - 1) (by omega) (by omega);omega
     . rw [U a (by omega),U b (by omega)];exact h.up a b J (by omega)
   . rw [if_neg Q];have Q:rl.getD (rl.length - 1) 0=lv t:=by simpa using Q
     exact key _ ⟨[],by simp⟩ h.up (h.z e) e Q
structure pv (s:aG) (tr:List As) (rl:List Int):Prop where
 len:tr.length<=s.vars
 mem: ∀i,i<tr.length->(aS tr i).lit∈s.R .tr
 rs: ∀i,i<tr.length->(aS tr i).rs= []\/∃k,s.aQ k/\(aS tr i).rs=s.R (.a k)
 bj: ∀i,i<tr.length->0<=(aS tr i).bj/\(aS tr i).bj<rl.length/\rl.getD (aS tr i).bj.toNat 0=s.bj (aS tr i).lit
 up: ∀a b,a<b->b<rl.length->rl.getD a 0<rl.getD b 0
 z:rl≠[]->rl.getD 0 0=0
theorem F8 (g:aM s) {I:List Int} (h:I.Sublist (s.R .tr)): ∀a b,a<=b->b<I.length->s.bj (I.getD a 0)<=s.bj (I.getD b 0):=by
 have key:(s.R .tr).Pairwise fun y z=>s.bj y<=s.bj z:=by
  rw [List.pairwise_iff_getElem];intro i j hi Q Y;have h1:=g.lv i hi;have O:=g.lv j Q;have X:(s.R .tr).getD i 0=(s.R .tr)[i]:=by simp [List.getD,hi]
  have U:(s.R .tr).getD j 0=(s.R .tr)[j]:=by simp [List.getD,Q]
  rw [X] at h1;rw [U] at O;rw [h1,O];have:=List.countP_mono_left (p:=fun e:Int=>decide (e<=(i:Int))) (q:=fun e:Int=>decide (e<=(j:Int))) (l:=s.R .be) fun e _ he=>by simp at he ⊢;omega
  omega
 have J:=key.sublist h;rw [List.pairwise_iff_getElem] at J;intro a b V hb;by_cases e:a=b
 . rw [e];exact Int.le_refl _
 . have:=J a b (by omega) hb (by omega);simpa [List.getD,hb,show a<I.length by omega] using this
def KG (pt:List Pa) (j:Nat):Int:=(pt.getD j pZ).bj
structure Nd (pt m:List Pa) (t:Nat) (ix:Nat->Nat):Prop where
 len:m.length=pt.length
 qT: ∀j,t<=j->m.getD j pZ=pt.getD j pZ
 new: ∀j,j<t->m.getD j pZ= {pt.getD j pZ with bj:=ix j}
theorem Dm (g:aM s) (cn:CN w w25 n1 n3 n5 n8 n10 n13 n18) (h:Ay w w25 B n1 n3 n5 n8 n10 n13 n18 s q pt cP u) (i1:w25.heap.size<=u.heap.size) (hN:s.vars<=1000) (eu:(pt.map (·.lit)).Sublist (s.R .tr).reverse) {d:Nat} (hd:u.heap[d]? =some (.deferred (some []))) (hY:w25.heap.size<=d) {K:Value->World->Prop}
 (hk: ∀u' (tp:Option Addr) (tc:Nat) (rp:Option Addr) (rc:Nat) (tr:List As) (rl:List Int),pv s tr rl->Le.TV u' tp tr->Vw (Value.int .i64) u' rp rl->aq w u'->tr.length<=tc->K (.tuple #[.slice tp tr.length tc,.slice rp rl.length rc]) u'):
 ∃eH e9 eT,u.cell? (Addr.mk n18 0 none)=some (.slice eH e9 eT)/\
  Calls prog 189 #[.slice eH e9 eT] u fun e av=>e= .returned (.tuple #[])/\
  ∃fb cT gs,av.cell? (Addr.mk n18 0 none)=some (.slice fb cT gs)/\
  ∃fL:Option Addr->Nat->Nat->Int->World->Nat->Prop,(∃en,fL none 0 0 0 av en)/\
  ∀ (J:Option Addr) (I:Nat) (O:Nat) (dp:Int) (az:World) (en:Nat) (_:Fr),fL J I O dp az en->
  aH (decide (dp< (cT:Int)))
   (aV fb cT dp 3 fun gc=>
     ∃eL eR ei eb ec,aD az gc 0 [.int .i64 eL,.int .i64 eR,.slice ei eb ec]/\
     ∀n105 dc,bc (.cells #[.int .i64 0,.int .i64 0,.slice none 0 0] 199) az n105 dc->
     ∃Q,af (Addr.mk n105 0 none) 0 [.int .i64 eL,.int .i64 eR,.slice ei eb ec] dc Q/\
     ∃bv:Option Addr->Nat->Nat->World->Prop,(∃c0:Bool->World->Prop,(aH ((I:Int)==(0:Int))
     (c0 true Q.drew)
     (aV J I (IntKind.i64.wrap ((I:Int) - (1:Int))) 1 fun gp=>
     ∃e4,Q.drew.cell? gp=some (.int .i64 e4)/\
     ∃eN,Q.drew.cell? ((Addr.mk n105 0 none).add 1)=some (.int .i64 eN)/\
     c0 (e4 !=eN) Q.drew))/\
     ∀ (fa:Bool) (Y:World) (_:Fr),c0 fa Y->
     aH fa
     (aH ((I:Int)==(0:Int))
       (∃e7,Y.cell? ((Addr.mk n105 0 none).add 1)=some (.int .i64 e7)/\
       aH (decide (e7> (0:Int)))
       (∀n116 aT,bc (.cells #[.int .i64 0] 3) Y n116 aT->
         ∃ay ap ar an,(Builtin.append_ #[28,28] 28 #[.slice J I O,.slice (some (Addr.mk n116 0 none)) 1 1]).run prog aT= .ok (.slice ap ar an) ay/\
         ∃e',ay.cell? ((Addr.mk n105 0 none).add 1)=some (.int .i64 e')/\
         ∀n121 b4,bc (.cells #[.int .i64 e'] 3) ay n121 b4->
         ∃eA c1 d' dq,(Builtin.append_ #[28,28] 28 #[.slice ap ar an,.slice (some (Addr.mk n121 0 none)) 1 1]).run prog b4= .ok (.slice c1 d' dq) eA/\
         bv c1 d' dq eA)
       (∃ez,Y.cell? ((Addr.mk n105 0 none).add 1)=some (.int .i64 ez)/\
         ∀n126 b7,bc (.cells #[.int .i64 ez] 3) Y n126 b7->
         ∃fi ed d4 b',(Builtin.append_ #[28,28] 28 #[.slice J I O,.slice (some (Addr.mk n126 0 none)) 1 1]).run prog b7= .ok (.slice ed d4 b') fi/\
         bv ed d4 b' fi))
       (∃ey,Y.cell? ((Addr.mk n105 0 none).add 1)=some (.int .i64 ey)/\
       ∀n131 b3,bc (.cells #[.int .i64 ey] 3) Y n131 b3->
       ∃fd du d5 c2,(Builtin.append_ #[28,28] 28 #[.slice J I O,.slice (some (Addr.mk n131 0 none)) 1 1]).run prog b3= .ok (.slice du d5 c2) fd/\
       bv du d5 c2 fd))
     (bv J I O Y))/\
     ∀ (aa:Option Addr) (U:Nat) (Z:Nat) (cm:World) (_:Fr),bv aa U Z cm->
     ∃d8 dT fu,cm.cell? (Addr.mk n18 0 none)=some (.slice d8 dT fu)/\
     aV d8 dT dp 3 fun a138=>
     ∃c3,af (a138.add 1) 0 [.int .i64 (IntKind.i64.wrap ((U:Int) - (1:Int)))] cm c3/\
     ∃gy,gy<en/\fL aa U Z (IntKind.i64.wrap (dp+ (1:Int))) c3 gy)
   (∃ef dd d9,az.cell? (Addr.mk n18 0 none)=some (.slice ef dd d9)/\
     az.heap[d]? =some (.deferred (some []))/\∀ax,Go.Fw.aE (·=d) az ax->K (.tuple #[.slice ef dd d9,.slice J I O]) ax):=by
 have fv:=eu.length_le;rw [List.length_map,List.length_reverse] at fv;have h':=g.xh;have g9:d<u.heap.size:=(Array.getElem?_eq_some_iff.1 hd).1;have fA:aI q.p≠some d:=fun e=>by have:=ri h.r d e _ hd;cases this
 obtain ⟨ca,cb,cc,cd,ce,cf,cg,i6⟩:=cn;refine ⟨_,_,_,aR h.rN rfl,(Ba h.r h.qn (by omega)).mono ?_⟩;rintro e av ⟨rfl,es,b_⟩;obtain ⟨X,ep⟩: ∃X,X=pt.reverse:=⟨_,rfl⟩
 rw [<- ep] at es;have hh:X.length=pt.length:=by rw [ep];simp
 have c7: ¬aI q.p=some n18:=fun e=>by have:=h.rf _ e;omega
 have gw:(X.map (·.lit)).Sublist (s.R .tr):=by
  have:=eu.reverse;rw [List.reverse_reverse,<- List.map_reverse] at this;rw [ep];exact this
 have a_: ∀j,j<X.length->X.getD j pZ∈pt:=fun j hj=>by
  have:X.getD j pZ∈X:=by simp [List.getD,hj]
  rw [ep] at this ⊢;exact List.mem_reverse.1 this
 have fj:=F8 g gw;have e8: ∀j,j<X.length->(X.map (·.lit)).getD j 0=(X.getD j pZ).lit:=fun j hj=>by simp [List.getD,hj]
 have b6: ∀j,j<X.length->KG X j=s.bj (X.getD j pZ).lit:=fun j hj=> (h.pa _ (a_ j hj)).bj;have g': ∀j,0<j->j<X.length->KG X (j - 1)<=KG X j:=fun j h0 hj=>by
  rw [b6 j hj,b6 (j - 1) (by omega),<- e8 j hj,<- e8 (j - 1) (by omega)];exact fj _ _ (by omega) (by simpa using hj)
 have g7: ∀j,j<X.length->0<=KG X j:=fun j hj=>by
  rw [b6 j hj];exact (mF g (h.pa _ (a_ j hj)).mem).1
 refine ⟨rfl,_,_,_,aR (h.rN.keep b_ c7) rfl,?_⟩;have h9:=b_.size;refine ⟨fun P Nn C V v z=> ∃ (t:Nat) (rl:List Int) (ix:Nat->Nat) (m:List Pa),V=t/\t<=X.length/\z=X.length - t/\Nn=rl.length/\rl.length<=t+1/\RP (KG X) t rl ix/\Nd X m t ix/\eC aC v P C rl/\(∀b,aI P=some b->av.heap.size<=b)/\Row 3 C1 bP v q.p q.c m/\aE (fun b=>aI q.p=some b) av v,
  ⟨_,0,[],fun _=>0,X,rfl,Nat.zero_le _,rfl,rfl,by simp,⟨fun a b _ hb=>by simp at hb,fun e=>absurd rfl e,fun j hj=>by omega,fun _=>rfl,fun e=>by omega⟩,⟨rfl,fun _ _=>rfl,fun j hj=>by omega⟩,Ow.nil _ _ _,fun b hb=>by simp [aI] at hb,es,aE.refl _⟩,?_⟩
 rintro P Nn C V v z _ ⟨t,rl,ix,m,rfl,ht,rfl,rfl,hI,er,hT,hO,bY,hR,hM⟩;have gb:bF v n18 #[q.v]:=(h.rN.keep b_ c7).keep hM c7;have sv:=hM.size;have kb:q.n=X.length:=by rw [h.qn,hh]
 refine ao (fun r=> ?_) (fun r=> ?_)
 . have r:t<X.length:=by simp at r;omega
   have fk:=hT.len;refine (hR.vr tJ).ix pZ (by omega) (by omega) (by omega) fun a ha=> ⟨_,_,_,_,_,ha,?_⟩
   intro n105 dc dk;rw [Int.toNat_natCast,hT.qT t (Nat.le_refl _)];obtain ⟨A,hA⟩: ∃A,X.getD t pZ=A:=⟨_,rfl⟩
   rw [hA];have fl:KG X t=A.bj:=by unfold KG;rw [hA]
   have h3:=dk.num;refine bq dk.has rfl rfl fun Q gf gu=> ?_;have bk:aq v Q:=dk.mod.bW gu (by omega);have hU:=bk.size;have ac:bF Q.drew n105 #[.int .i64 A.lit,.int .i64 A.bj,A.sl.v]:=gf;have a6:eC aC Q.drew P C rl:=hO.grow (bk.trans (aE.refl Q).drew);refine ⟨fun P' N' C' z'=> ∃ag,ag=rO rl A.bj/\N'=ag.length/\ag.length<=t+2/\eC aC z' P' C' ag/\(∀b,aI P'=some b->av.heap.size<=b)/\Row 3 C1 bP z' q.p q.c m/\aE (fun b=>aI P=some b) Q.drew z',⟨fun bb z'=>z'=Q.drew/\(bb=true↔rl= []\/rl.getD (rl.length - 1) 0≠A.bj),?_,?_⟩,?_⟩
   . refine ao (fun r2=> ⟨rfl,?_⟩) (fun r2=> ?_)
     . have:rl= []:=List.eq_nil_of_length_eq_zero (by simpa using r2);simp [this]
     . have cp:rl≠[]:=fun e=>by rw [e] at r2;simp at r2
       have hB:0<rl.length:=List.length_pos_iff.2 cp;have ew:IntKind.i64.wrap ((rl.length:Int) - 1)=((rl.length - 1:Nat):Int):=by rw [aB (by omega) (by omega)];omega
       rw [ew];refine a6.ix 0 (by omega) rfl (by omega) fun a2 g2=> ⟨_,g2,_,ad ac rfl,rfl,?_⟩
       rw [Int.toNat_natCast];simp [cp]
   . rintro bb z' _ ⟨rfl,gr⟩;have oV: ∀ {z2:World} {P2:Option Addr} {C2:Nat} {rl2:List Int} {nb:Nat} (y:Int),eC aC z2 P2 C2 rl2->rl2.length<=1001->bF z2 nb #[.int .i64 y]->av.heap.size<=z2.heap.size->(∀b,aI P2=some b->av.heap.size<=b)->Row 3 C1 bP z2 q.p q.c m->∀ {KK:World->Option Addr->Nat->Nat->Prop},
      (∀z3 P3 C3,eC aC z3 P3 C3 (rl2++ [y])->(∀b,aI P3=some b->av.heap.size<=b)->Row 3 C1 bP z3 q.p q.c m->aE (fun b=>aI P2=some b) z2 z3->(P3=P2\/P3=some ⟨z2.heap.size,0,none⟩)->KK z3 P3 (rl2.length+1) C3)->
      ∃ay ap ar an,(Builtin.append_ #[28,28] 28 #[.slice P2 rl2.length C2,.slice (some (Addr.mk nb 0 none)) 1 1]).run prog z2= .ok (.slice ap ar an) ay/\KK ay ap ar an:=by
      intro z2 P2 C2 rl2 nb y o2 i2 hw h_ gl hg KK kk;refine Ow.kZ qK o2 y hw rfl rfl fH (by omega) fun z3 P3 C3 o3 m3 b8 i0=>kk z3 P3 C3 o3 (fun b hb=> ?_) (hg.keep m3 fun b hb e=> ?_) m3 b8
      . rcases b8 with rfl|rfl
        . exact gl b hb
        . have:z2.heap.size=b:=by simpa [aI] using hb
          omega
      . have:=gl b e;have:=es.lt b hb;omega
     have el:Row 3 C1 bP Q.drew q.p q.c m:=hR.grow (bk.trans (aE.refl Q).drew);have sd:Q.drew.heap.size=Q.heap.size:=rfl;refine ao (fun r3=> ?_) (fun r3=> ?_)
     . have r3:=gr.1 r3;refine ao (fun r4=> ?_) (fun r4=> ?_)
       . have e0:rl= []:=List.eq_nil_of_length_eq_zero (by simpa using r4);subst e0;refine ⟨_,ad ac rfl,ao (fun r5=> ?_) (fun r5=> ?_)⟩
         . have r5:0<A.bj:=by simpa using r5
           intro n116 aT aw;have h7:=aw.mod.size;refine oV (z2:=aT) (rl2:= []) 0 (a6.grow aw.mod) (by simp) aw.has (by omega) bY (el.grow aw.mod) fun z3 P3 C3 o3 f3 r3 m3 b8=> ?_;have fo: ¬aI P=some n105:=fun e=>by have:=hO.lt n105 e;omega
           have H3:bF z3 n105 _:=(ac.grow aw.mod).keep m3 fo;refine ⟨_,ad H3 rfl,fun n121 b4 a7=> ?_⟩;have h4:=a7.mod.size;have s3:=m3.size;refine oV (z2:=b4) (rl2:= []++ [0]) A.bj (o3.grow a7.mod) (by simp) a7.has (by omega) f3 (r3.grow a7.mod) fun z4 P4 C4 o4 f4 r4 m4 j2=> ?_;refine ⟨[0,A.bj],by unfold rO;rw [if_pos rfl,if_pos r5],rfl,by simp,o4,f4,r4,?_⟩;refine ((aE.then (S:=fun b=>aI P=some b) (aw.mod.mono fun _ _ e=>e.elim) m3 fun b _ e=>e).grow a7.mod).then m4 fun b hb e=> ?_;rcases b8 with e3|e3
           . rw [e3] at e;exact e
           . rw [e3] at e;have:aT.heap.size=b:=by simpa [aI] using e
             omega
         . have r5: ¬0<A.bj:=by simpa using r5
           refine ⟨_,ad ac rfl,fun n126 b7 a8=> ?_⟩;have hF:=a8.mod.size;refine oV (z2:=b7) (rl2:= []) A.bj (a6.grow a8.mod) (by simp) a8.has (by omega) bY (el.grow a8.mod) fun z3 P3 C3 o3 f3 r3 m3 b8=> ?_;exact ⟨[A.bj],by unfold rO;rw [if_pos rfl,if_neg r5],rfl,by simp,o3,f3,r3,aE.then (S:=fun b=>aI P=some b) (a8.mod.mono fun _ _ e=>e.elim) m3 fun b _ e=>e⟩
       . have cp:rl≠[]:=fun e=>by rw [e] at r4;simp at r4
         refine ⟨_,ad ac rfl,fun n131 b3 a'=> ?_⟩;have hW:=a'.mod.size;refine oV (z2:=b3) (rl2:=rl) A.bj (a6.grow a'.mod) (by omega) a'.has (by omega) bY (el.grow a'.mod) fun z3 P3 C3 o3 f3 ho m3 b8=> ?_;refine ⟨rl++ [A.bj],?_,by simp,by simp;omega,o3,f3,ho,aE.then (S:=fun b=>aI P=some b) (a'.mod.mono fun _ _ e=>e.elim) m3 fun b _ e=>e⟩;unfold rO;rw [if_neg cp,if_pos (r3.resolve_left cp)]
     . have r3: ¬(rl= []\/rl.getD (rl.length - 1) 0≠A.bj):=fun e=>by have:=gr.2 e;rw [this] at r3;cases r3
       refine ⟨rl,?_,rfl,by omega,a6,bY,el,(aE.refl _).mono fun _ _ e=>e⟩;unfold rO;rw [if_neg fun e=>r3 (.inl e),if_neg fun e=>r3 (.inr e)]
   . rintro P' N' C' z' _ ⟨ag,gn,rfl,g0,o',f',R',M'⟩;have sp:=EI er (by rw [fl,<- fl];exact g7 t r) fun h0=>g' t h0 r;rw [fl,<- gn] at sp;have hK:0<ag.length:=List.length_pos_iff.2 (sp.ne (by omega)).1;have ga: ¬aI P=some n18:=fun e=>by have:=bY _ e;omega
     have gz:bF z' n18 #[q.v]:=((gb.grow bk).drew).keep M' ga;refine ⟨_,_,_,aR gz rfl,?_⟩;have ew:IntKind.i64.wrap ((ag.length:Int) - 1)=((ag.length - 1:Nat):Int):=by rw [aB (by omega) (by omega)];omega
     rw [ew];refine R'.M4 tJ pZ {A with bj:=((ag.length - 1:Nat):Int)} (o:=1) ?_ (by omega) rfl (by omega) (by omega) (by omega) fun c3 et e2=> ?_
     . rw [Int.toNat_natCast,hT.qT t (Nat.le_refl _),hA];rfl
     . rw [Int.toNat_natCast] at et;have gm: ∀b,aI P'=some b->¬aI q.p=some b:=fun b hb e=>by have:=f' b hb;have:=es.lt b e;omega
       refine ⟨_,?_,t+1,ag,_,m.set t {A with bj:=((ag.length - 1:Nat):Int)},wN (by omega) (by omega),by omega,rfl,rfl,by omega,sp,⟨by rw [List.length_set];exact fk,fun j hj=> ?_,fun j hj=> ?_⟩,o'.keep e2 gm,f',et,?_⟩
       . omega
       . rw [oF (by omega),if_neg (by omega)];exact hT.qT j (by omega)
       . rw [oF (by omega)];by_cases ej:j=t
         . subst ej;rw [if_pos rfl,if_pos rfl,hA]
         . rw [if_neg ej,if_neg ej];exact hT.new j (by omega)
       . refine ((hM.grow (bk.trans (aE.refl Q).drew)).then M' fun b hb e=> ?_).then e2 fun b _ e=>e;have:=bY b e;omega
 . have r:t=X.length:=by simp at r;omega
   subst r;refine ⟨_,_,_,aR gb rfl,?_,fun ax b5=> ?_⟩
   . rw [hM.block d (by omega) fA,b_.block d g9 fA];exact hd
   have fk:=hT.len;obtain ⟨tr,gv⟩: ∃tr:List As,tr=m.map fun a=> ⟨a.lit,a.bj,a.rs⟩:=⟨_,rfl⟩
   have j3:tr.length=X.length:=by rw [gv];simp [fk]
   have nt: ∀i,i<X.length->aS tr i=⟨(X.getD i pZ).lit,ix i,(X.getD i pZ).rs⟩:=fun i hi=>by
    have:aS tr i=⟨(m.getD i pZ).lit,(m.getD i pZ).bj,(m.getD i pZ).rs⟩:=by
     rw [gv];simp [aS,List.getD,show i<m.length by omega]
    rw [this,hT.new i hi]
   have e1:q.n=tr.length:=by omega
   have Gu:aq w ax:=by
    have h1:aq w av:=h.g.then b_ fun b hb e=>by have:=h.rf b e;omega
    have h2:aq w v:=h1.then hM fun b hb e=>by have:=h.rf b e;omega
    exact h2.then b5 fun b hb (e:b=d)=>by omega
   have g5: ∀b,aI q.p=some b->¬b=d:=fun b hb e=>fA (by rw [<- e];exact hb);show K (.tuple #[.slice q.p q.n q.c,.slice P rl.length C]) ax;rw [e1];have gd:=(hR.keep b5 g5).vr tJ;refine hk ax q.p q.c P C tr rl ⟨by omega,fun i hi=> ?_,fun i hi=> ?_,fun i hi=> ?_,er.up,er.z⟩ (fun i hi=> ?_) ((hO.keep b5 fun b hb (e:b=d)=> ?_).vw) Gu (by have:=hR.cap;omega)
   . rw [nt i (by omega)];exact (h.pa _ (a_ i (by omega))).mem
   . rw [nt i (by omega)];exact (h.pa _ (a_ i (by omega))).rs
   . rw [nt i (by omega)];obtain ⟨a,b⟩:=er.ix i (by omega);refine ⟨by show (0:Int)<=(ix i:Int);omega,by show (ix i:Int)<_;omega,?_⟩;show rl.getD ((ix i:Int)).toNat 0=_;rw [Int.toNat_natCast,b,b6 i (by omega)]
   . obtain ⟨a,ea,hc⟩:=gd i (by omega);have eg:=h.pm _ (a_ i (by omega));obtain ⟨d2,o2⟩:=eg.o;have em:m[i]'(by omega)= {X.getD i pZ with bj:=ix i}:=by
      rw [<- hT.new i (by omega)];simp [List.getD,show i<m.length by omega]
     rw [em] at hc;rw [nt i (by omega)];have gA:=o2.cap;refine ⟨a,(X.getD i pZ).sl,ea,hc,eg.n,by rw [eg.n];exact gA,?_⟩;refine (((o2.keep b_ fun b hb e=> (eg.f b hb).2 e).keep hM fun b hb e=> (eg.f b hb).2 e).keep b5 fun b hb (e:b=d)=> ?_).vw;subst e;have:=yE o2 b hb _ hd;cases this
   . subst e;have:=bY b hb;omega
end
section
variable {w0 w w' w1 w2:World} {B N:Nat} {L L':Nat->Nat} {x:Xs} {l:List Int}
theorem Kc (I:List Int):(AZ I I.length).map (·.2)=I.reverse:=by
 refine List.ext_getElem (by simp [AZ]) fun i h1 J=> ?_;have hi:i<I.length:=by simpa [AZ] using h1
 rw [List.getElem_reverse];simp [AZ,LM,show I.length - 1 - i<I.length by omega]
theorem zD:fM prog 184=true:=by kernel_rfl
theorem Ke:fM prog 214=true:=by kernel_rfl
theorem Fv (a b c d:Value):(#[]++ #[a]++ #[b,c,d]:Array Value)= #[a,b,c,d]:=by simp
theorem It (h:SR w0 w B L N x) (g:aM x.s) (hv:x.s.vars=N) (hN:N<=1000) {p:Option Addr} {n c:Nat} {bk:List Int} (vb:Vw (Value.int .i64) w p bk) (hn:n=bk.length) (hl:bk.length<=4096) (e6: ∀y∈bk,dR N y):
 Calls prog bO.id #[bR B,.slice p n c] w fun e w'=> ∃ (tp:Option Addr) (tc:Nat) (rp:Option Addr) (rc:Nat) (tr:List As) (rl:List Int),e= .returned (.tuple #[.slice tp tr.length tc,.slice rp rl.length rc])/\
  pv x.s tr rl/\Le.TV w' tp tr/\Vw (Value.int .i64) w' rp rl/\aq w w'/\tr.length<=tc:=by
 refine bO.ah ?_;have eu:=g.xh;intro n1 w2 h1 n3 w4 h3 n5 w6 h5;have e1:=h1.num;have e3:=h3.num;have e5:=h5.num;have l1:=h1.has.lt;have l5:=h5.has.lt;have M3:BG w4 n3 0 fun _=>false:=MB.new h3;have l3:=M3.lt;refine bq h5.has rfl rfl fun w7 H7 m7=> ?_;intro n8 w9 h8 n10 hQ jQ;have e8:=h8.num;have f':=jQ.num;have s7:=m7.size;have M8:BG w9 n8 0 fun _=>false:=MB.new h8;have l8:=M8.lt;have hT:=jQ.has.lt;refine bq jQ.has rfl rfl fun c3 b7 an=> ?_;intro n13 h0 pE;have g2:=pE.num;have gv:=an.size;have gV:=pE.has.lt;refine bq pE.has rfl rfl fun V ez Y=> ?_;have h2:=Y.size;have z2:=h1.mod.size;have z4:=h3.mod.size;have z6:=h5.mod.size;have z9:=h8.mod.size;have hY:=jQ.mod.size;have hX:=pE.mod.size;have H7:bF w7 n5 #[.map (some n3)]:=H7;have b7:bF c3 n10 #[.map (some n8)]:=b7;have A1:bF V n1 #[bR B]:=((((((h1.has.grow (h3.mod.trans h5.mod)).put m7 (by omega)).grow (h8.mod.trans jQ.mod)).put an (by omega)).grow pE.mod).put Y (by omega))
 have A5:bF V n5 #[.map (some n3)]:=(((H7.grow (h8.mod.trans jQ.mod)).put an (by omega)).grow pE.mod).put Y (by omega);have du:bF V n10 #[.map (some n8)]:=(b7.grow pE.mod).put Y (by omega);have A3:BG V n3 0 _:=(((((M3.grow h5.mod).AG m7 (by omega)).grow (h8.mod.trans jQ.mod)).AG an (by omega)).grow pE.mod).AG Y (by omega);have A8:BG V n8 0 _:=((((M8.grow jQ.mod).AG an (by omega)).grow pE.mod).AG Y (by omega))
 have G7:aq w w7:=aE.bW ((h1.mod.trans h3.mod).trans h5.mod) m7 (by omega);have eH:aq w c3:=aE.bW ((G7.trans h8.mod).trans jQ.mod) an (by omega);have b5:aq w V:=aE.bW (eH.trans pE.mod) Y (by omega);have c1:bF V n13 #[.func (.func 184) #[] #[.pointer (some ⟨n5,0,none⟩),.pointer (some ⟨n10,0,none⟩),.pointer (some ⟨n1,0,none⟩)]]:=ez;refine ⟨_,_,aR c1 rfl,?_⟩;rw [zD];refine cj rfl ?_;rw [Fv];refine (zp h g hv hN b5 A1 A5 du A3 A8 ⟨by omega,by omega,by omega,by omega,by omega,by omega,by omega⟩ (by omega) (by omega) (vb.grow b5) hn hl e6 (by omega) (by omega) fun es b hb=>by have:=vb.lt es b hb;omega).mono ?_;rintro e e7 ⟨rfl,hA,gc,B3,B8,ap⟩;refine ⟨rfl,fun n18 gm rN=> ?_⟩;have gb:=rN.num;have gA:=ap.size;have hy:=rN.has.lt;have Z: ∀k,k≠n3->k≠n8->¬(k=n3\/k=n8):=fun k a b e=>e.elim a b;have e':aq w e7:=b5.then ap fun b hb e=>by rcases e with e|e<;>omega
 have ei:=e'.trans rN.mod;have B1:=(A1.keep ap (Z _ (by omega) (by omega))).grow rN.mod;have B5:=(A5.keep ap (Z _ (by omega) (by omega))).grow rN.mod;have eT:=(du.keep ap (Z _ (by omega) (by omega))).grow rN.mod;have e2:=(c1.keep ap (Z _ (by omega) (by omega))).grow rN.mod;have dd:=h.grow ei;obtain ⟨g7,ef,_⟩:=dd.pm id;refine ⟨_,aR B1 rfl,_,rfl,_,ad dd.at rfl,(tT ef (by omega)).mono ?_⟩;rintro e gd ⟨qb,db,rfl,ob,d',fb⟩;obtain ⟨zs,a8⟩: ∃zs,zs=x.s.R .tr:=⟨_,rfl⟩
 rw [<- a8] at ob eu;refine ⟨_,_,_,rfl,dB.ah ?_⟩;intro n24 w25 X;have gp:=X.num;have hK:=d'.size;have z25:=X.mod.size;have dk:=X.has.lt;have U:=d'.trans X.mod;refine ⟨_,_,rfl,Ke,trivial,AZ zs zs.length,fun y=>y.2∈zs,fun k=>k=n24\/aI qb=some k,?_,?_,?_⟩
 . exact GM (by rw [<- a8] at X;exact X.has) (ob.grow X.mod) (by omega)
 . rintro k (rfl|hk)
   . exact dk
   . exact Nat.lt_of_lt_of_le (ob.lt k hk) z25
 have g6:(AZ zs zs.length).length=zs.length:=CQ _ _;have cn:CN w w25 n1 n3 n5 n8 n10 n13 n18:=⟨by omega,by omega,by omega,by omega,by omega,by omega,by omega,by omega⟩
 have C3:=B3.grow (rN.mod.trans U);have C8:=B8.grow (rN.mod.trans U);refine ⟨fun cP u=> ∃q pt,Ay w w25 B n1 n3 n5 n8 n10 n13 n18 x.s q pt cP u/\w25.heap.size<=u.heap.size,⟨Sl.nil,[],⟨ei.trans U,B1.grow U,B5.grow U,eT.grow U,e2.grow U,⟨_,_,by simp;omega,C3⟩,⟨_,_,by simp;omega,C8⟩,rN.has.grow U,rfl,Row.nil _ _ _ _,fun b hb=>by simp [Sl.nil,aI] at hb,by simp,fun a ha=>by simp at ha,fun a ha=>by simp at ha⟩,Nat.le_refl _⟩,?_,?_,?_⟩
 . rintro cP W W' S ⟨q,pt,ci,ac⟩ m hS;refine ⟨q,pt,ci.keep m cn (fun r hr=> (hS r hr).1) (fun b hb hs=> ?_) (fun a ha b hb hs=> ?_),Nat.le_trans ac m.size⟩
   . have cc:=ci.r.lt b hb;obtain ⟨ay,ho⟩: ∃ay,W.heap[b]? =some ay:=⟨_,Array.getElem?_eq_getElem cc⟩
     have h1:=ri ci.r b hb _ ho;rw [(hS b hs).2 _ ho] at h1;cases h1
   . obtain ⟨d,o⟩:=(ci.pm a ha).o;have cc:=o.lt b hb;obtain ⟨ay,ho⟩: ∃ay,W.heap[b]? =some ay:=⟨_,Array.getElem?_eq_getElem cc⟩
     have h1:=yE o b hb _ ho;rw [(hS b hs).2 _ ho] at h1;cases h1
 . rintro cP i y W hlen aw ⟨q,pt,ci,ac⟩;have aw:y∈zs:=aw;have aa:y∈x.s.R .tr:=by rw [<- a8];exact aw
   have fo:pt.length<=cP.length:=by have:=ci.sub.length_le;simpa using this
   have dp:=h.grow ci.g;have tl: ∀k,(k=n24\/aI qb=some k)->n18<k/\k<w25.heap.size:=by
    rintro k (rfl|hk)
    . have:=ob.lt;exact ⟨by omega,dk⟩
    . have:=fb k hk;have:=ob.lt k hk;omega
   have kb: ∀ {u:World},aE (fun b=>b=n3\/b=n8\/b=n18\/aI q.p=some b) W u->KB w25.heap.size (fun k=>k=n24\/aI qb=some k) W u:=fun {u} m=>by
    refine LD m (fun r hr=> ?_) (fun k hk e=> ?_) fun k hk=>Nat.lt_of_lt_of_le (tl k hk).2 ac
    . rcases hr with rfl|rfl|rfl|hr
      . exact .inl (by omega)
      . exact .inl (by omega)
      . exact .inl (by omega)
      . exact .inr (ri ci.r r hr)
    . have:=tl k hk;rcases e with rfl|rfl|rfl|e
      . omega
      . omega
      . omega
      . have:=ci.rf k e;omega
   have er:x.s.eE y=x.s.j8 y:=xe g aa;have el:x.s.kF y=x.s.bj y:=EN g aa;have fq:=mF g aa;have fi:=g.Jf;have fA:=g.xh;refine ⟨_,aR ci.h1 rfl,_,rfl,_,ad dp.at rfl,(dp.eE g y).mono ?_⟩;rintro e g8 ⟨rfl,c0⟩;have a7:=ci.grow c0 cn;refine ⟨_,rfl,_,aR a7.h1 rfl,_,rfl,_,ad (h.grow a7.g).at rfl,((h.grow a7.g).kF g y).mono ?_⟩;rintro e d5 ⟨rfl,c7⟩;have a_:=a7.grow c7 cn;refine ⟨_,rfl,?_⟩;rw [er,el];obtain ⟨k8,f8,b8,N8⟩:=a_.m8;obtain ⟨k3,f3,b3,N3⟩:=a_.m3;have az:=c0.trans c7;refine ⟨fun _ u=>u=d5,?_,?_⟩
   . refine ao (fun _=> ⟨_,aR a_.jQ rfl,d5,_,N8.di oP (vC (by omega) (by omega)),rfl⟩) (fun _=>rfl)
   rintro sE J _ rfl;have eb:=g.tv y aa;have d9:=eb.bd (by omega);have gl:=eb.aX;have d4:=a_.grow (aE.refl J).drew cn;refine ⟨fun u=>u=J.drew,?_,?_⟩
   . refine ⟨fun u=>u=J.drew,rfl,_,eF (aR d4.h5 rfl),jH.ah ⟨_,rfl,rfl,?_⟩⟩;rw [sZ d9.1 d9.2];have e4:BG J.drew n3 k3 f3:=N3.grow (aE.refl J).drew;refine ⟨J.drew,_,e4.di oP (vC (by omega) (by omega)),?_⟩;have skip:KB w25.heap.size (fun k=>k=n24\/aI qb=some k) W J.drew/\∃q pt,Ay w w25 B n1 n3 n5 n8 n10 n13 n18 x.s q pt (cP++ [(i,y)]) J.drew/\w25.heap.size<=J.drew.heap.size:=
      ⟨kb ((az.trans (aE.refl J).drew).mono fun _ _ e=>e.elim),q,pt,d4.next _,Nat.le_trans ac (az.trans (aE.refl J).drew).size⟩
     exact ao (fun _=>ao (fun _=>skip) (fun _=>rfl)) (fun _=>rfl)
   rintro gP _ rfl;intro bv gW bb;have gS:=bb.num;have zW:=(az.trans (aE.refl J).drew).size;have gJ:=bb.mod.size;refine bq bb.has rfl rfl fun ce av ed=> ?_;have gs:=ed.size;have aT:aq W ce:=aE.bW ((az.trans (aE.refl J).drew).trans bb.mod) ed (by omega);have ag:=ci.grow aT cn;have av:bF ce bv #[.int .i64 y,.int .i64 (x.s.bj y),.slice none 0 0]:=av;refine ao (fun r=> ?_) (fun r=> ?_)
   . refine ⟨_,aR ag.h1 rfl,_,rfl,_,ad (h.grow ag.g).at rfl,((h.grow ag.g).Fx g _).mono ?_⟩;rintro e f1 ⟨qc,dc,rfl,oc,cm,fc⟩;refine ⟨_,_,_,_,rfl,?_⟩;obtain ⟨rs,ax⟩: ∃rs,rs=(if x.s.is (x.s.j8 y) then x.s.R (.a (x.s.j8 y).toNat) else []):=⟨_,rfl⟩
     rw [<- ax] at oc ⊢;have ar:rs= []\/∃i,x.s.aQ i/\rs=x.s.R (.a i):=by
      cases hi:x.s.is (x.s.j8 y) with
      |false=>rw [hi] at ax;exact .inl ax
      |true=>
       rw [hi] at ax;obtain ⟨i0,ey⟩:=aG.yg.1 hi;exact .inr ⟨_,ey,ax⟩
     have hH:=cm.size;have g':=av.lt;refine bZ (av.grow cm) rfl rfl fun b_ a' b9=> ?_;have hP:=b9.size;have a':bF b_ bv #[.int .i64 y,.int .i64 (x.s.bj y),.slice qc rs.length dc]:=a';have eg:aq W b_:=aE.bW (aT.trans cm) b9 (by omega);have I:=ci.grow eg cn;refine ⟨_,_,aR I.pE rfl,_,_,_,ad a' rfl,?_⟩;rw [zD];refine cj rfl ?_;rw [Fv];obtain ⟨gf,gn,hE,P8⟩:=I.m8;obtain ⟨hR,g3,g9,P3⟩:=I.m3;have bY:eC aC b_ qc dc rs:=oc.keep b9 fun b hb (e:b=bv)=>by have:=fc b hb;omega
     have eR:rs.length<=4096:=by
      rcases ar with e| ⟨i,_,e⟩
      . rw [e];simp
      . rw [e];exact g.al i
     have e9: ∀z∈rs,dR N z:=by
      rcases ar with e| ⟨i,ht,e⟩
      . rw [e];simp
      . intro z hz;rw [e] at hz;rw [<- hv];exact g.cv i ht z ((g.ca i ht z).2 hz)
     have zz:=I.g.size;refine (zp h g hv hN I.g I.h1 I.h5 I.jQ P3 P8 ⟨by omega,by omega,by omega,by omega,by omega,by omega,by omega⟩ (by omega) (by omega) bY.vw rfl eR e9 (by omega) (by omega) fun _ b hb=>by have:=fc b hb;omega).mono ?_;rintro e b6 ⟨rfl,t3,t8,Q3,Q8,O⟩;refine ⟨rfl,?_⟩;have hw:=O.size;have Q: ∀k,k≠n3->k≠n8->¬(k=n3\/k=n8):=fun k a b e=>e.elim a b;have et:Ay w w25 B n1 n3 n5 n8 n10 n13 n18 x.s q pt (cP++ [(i,y)]) b6:=by
      refine ⟨I.g.then O fun b hb e=>by rcases e with e|e<;>omega,I.h1.keep O (Q _ (by omega) (by omega)),I.h5.keep O (Q _ (by omega) (by omega)),I.jQ.keep O (Q _ (by omega) (by omega)),I.pE.keep O (Q _ (by omega) (by omega)),⟨_,_,by simp;omega,Q3⟩,⟨_,_,by simp;omega,Q8⟩,I.rN.keep O (Q _ (by omega) (by omega)),I.qn,I.r.keep O fun b hb e=> ?_,I.rf,(I.next (i,y)).sub,I.pa,fun a ha=> ⟨(I.pm a ha).n,?_,(I.pm a ha).f⟩⟩
      . have:=I.rf b hb;rcases e with e|e<;>omega
      . obtain ⟨d,o⟩:=(I.pm a ha).o;exact ⟨d,o.keep O fun b hb e=>by have:=((I.pm a ha).f b hb).1;rcases e with e|e<;>omega⟩
     have hm:K1 w25 b6 q ⟨y,x.s.bj y,⟨qc,rs.length,dc⟩,rs⟩:=by
      refine ⟨rfl,⟨dc,bY.keep O fun b hb e=> ?_⟩,fun b hb=> ?_⟩
      . have:=fc b hb;rcases e with e|e<;>omega
      . have:=fc b hb;refine ⟨by omega,fun e=> ?_⟩;have:=ag.r.lt b e;omega
     have eL:bF b6 bv #[.int .i64 y,.int .i64 (x.s.bj y),.slice qc rs.length dc]:=a'.keep O fun e=>by rcases e with e|e<;>omega
     refine wH (i:=i) (a:=⟨y,x.s.bj y,⟨qc,rs.length,dc⟩,rs⟩) et I.sub cn (by omega) (by omega) eL ⟨aa,rfl,ar⟩ hm fun u' q' c' mm=> ⟨kb ?_,q',_,c',?_⟩
     . exact ((eg.mono fun _ _ e=>e.elim).then O fun b _ e=>by rcases e with e|e<;>simp [e]).then mm fun b _ e=> .inr (.inr e)
     . have:=mm.size;omega
   . have hm:K1 w25 ce q ⟨y,x.s.bj y,Sl.nil,[]⟩:=⟨rfl,⟨0,Ow.nil _ _ _⟩,fun b hb=>by simp [Sl.nil,aI] at hb⟩
     refine wH (i:=i) (a:=⟨y,x.s.bj y,Sl.nil,[]⟩) (ag.next (i,y)) ag.sub cn (by omega) (by omega) av ⟨aa,rfl,.inl rfl⟩ hm fun u' q' c' mm=> ⟨kb ?_,q',_,c',?_⟩
     . exact aE.then (S:=fun b=>b=n3\/b=n8\/b=n18\/aI q.p=some b) (aT.mono fun _ _ e=>e.elim) mm fun b _ e=> .inr (.inr e)
     . have:=mm.size;have:=aT.size;omega
 . intro d hF hd hD hI;obtain ⟨q,pt,ci,ac⟩:=hI;have b4:=ci.sub;rw [Kc,a8] at b4;exact Dm (K:=fun v w'=> ∃ (tp:Option Addr) (tc:Nat) (rp:Option Addr) (rc:Nat) (tr:List As) (rl:List Int),Ending.returned v= .returned (.tuple #[.slice tp tr.length tc,.slice rp rl.length rc])/\pv x.s tr rl/\Le.TV w' tp tr/\Vw (Value.int .i64) w' rp rl/\aq w w'/\tr.length<=tc) g cn ci ac (by omega) b4 hD hd fun u' tp tc rp rc tr rl cs tv vr gu hc=> ⟨tp,tc,rp,rc,tr,rl,rfl,cs,tv,vr,gu,hc⟩
end
end Go.Proofs.YtenmibfmhccmiaaGreat.W
