/- slices.Backward's iterator: its contract. -/
import Derived.Test.YtenmibfmhccmiaaGreatRupB
import Derived.RangeFuncBox
import Derived.RangeFuncLeaves
import Derived.Shelf.Abstract
import Derived.WalkKit
import Derived.OwnWalkIn
import Derived.TacticsInMore
import Derived.LoopNIn
import Derived.LoopIn
namespace Go.Proofs
open Go.RowKit Go.Shelf Go.Fw
attribute [local go_sem] Oper.semAt_some
def Nb (I:List Int) (k:Nat):Int × Int:=(((I.length - 1 - k:Nat):Int),I[I.length - 1 - k]?.getD 0)
def Dr (I:List Int) (k:Nat):List (Int × Int):=(List.range k).map (Nb I)
theorem Hf (I:List Int) (k:Nat):Dr I (k+1)=Dr I k++ [Nb I k]:=by simp [Dr,List.range_succ]
theorem D3 (I:List Int) (k:Nat):(Dr I k).length=k:=by simp [Dr]
set_option maxRecDepth 100000 in
set_option maxHeartbeats 2000000 in
theorem NE (n:Nat) (hn:1<=n) (l X b cap:Nat) (I:List Int) (ac:I.length*8<=140737488351232) (T:Nat->Prop) (ap:T X) (ag:T b)
 (J Jx:List {x:Int × Int // x.2∈I}->World->Prop)
 (hY: ∀cM x W1,J cM W1->cM.length<I.length->YieldAt Fence.wide (n - 1) Tryz.prog l #[.int .i64 x.1.1,.int .i64 x.1.2] W1 fun e V=>
   (e= .returned (.bool true)/\J (cM++ [x]) V/\Nq T W1 V)\/(e= .returned (.bool false)/\Jx (cM++ [x]) V))
 (W:World) (ad:W.cell? ⟨X,0,none⟩=some (.slice (some ⟨b,0,none⟩) I.length cap)) (hc: ∀j,j<I.length->W.cell? ⟨b,0+j,none⟩=some (.int .i64 (I[j]?.getD 0))) (h0:J [] W):
 CallsIn Fence.wide n Tryz.prog 214 #[.func (.yield l) #[] #[],.pointer (some ⟨X,0,none⟩)] W fun e V=> (∃v,e= .returned v)/\
  ((∃O,O.map (·.1)=Dr I I.length/\J O V)\/(∃cM,True/\Jx cM V)):=by
 refine callsIn_of_wp Tryz.func214 rfl trivial ?_ rfl;simp only [show Tryz.f214.ntmps=19 from rfl,List.size_toArray,List.length_cons,List.length_nil,Nat.reduceAdd,Nat.reduceSub,Array.replicate_succ,Array.replicate_zero,List.push_toArray,List.append_toArray,List.nil_append,List.cons_append]
 gi_wp2
 gi_loopw [3] (fun i wr=> ∃k:Nat,k<=I.length/\i= .int .i64 ((I.length:Int) - 1 - k)/\(∃O,O.map (·.1)=Dr I k/\J O wr)/\Nq T W wr)
  (fun i _=> (intOf i+1).toNat)
 case atStart=>exact ⟨0,Nat.zero_le _,by simp,⟨[],rfl,h0⟩,fun _ _=>rfl⟩
 case round=>
  obtain ⟨k,hk,rfl,⟨O,Q,Y⟩,U⟩:=hrel;have a6:wr.cell? ⟨X,0,none⟩=some (.slice (some ⟨b,0,none⟩) I.length cap):=by
   rw [<- ad];exact World.cell?_of_block (U X ap)
  by_cases av:k<I.length
  . have aT:wr.cell? ⟨b,I.length - 1 - k,none⟩=some (.int .i64 (I[I.length - 1 - k]?.getD 0)):=by
     have:=hc (I.length - 1 - k) (by omega);rw [Nat.zero_add] at this;rw [<- this];exact World.cell?_of_block (U b ag)
    have aa:I[I.length - 1 - k]?.getD 0∈I:=by simp [show I.length - 1 - k<I.length by omega]
    have an:O.length=k:=by have:=congrArg List.length Q;simpa [Dr] using this
    obtain ⟨fn,tmps,assign,body,hy,hR⟩:=hY O ⟨Nb I k,aa⟩ wr Y (by rw [an];exact av);dsimp only [Nb] at hy;have ei:(I.length:Int) - 1 - k=((I.length - 1 - k:Nat):Int):=by omega
    rw [ei];have ge:(0:Int)<=((I.length - 1 - k:Nat):Int):=by omega
    gi_wp2
    refine hR.mono ?_;rintro e W3 (⟨rfl,ax,aw⟩| ⟨rfl,Z⟩)
    . gi_wp2
      go_roundw
      case rel=>exact ⟨k+1,by omega,by simp;omega,⟨_,by rw [List.map_append,Q,Hf];rfl,ax⟩,fun j hj=> (aw j hj).trans (U j hj)⟩
      case measure=>simp [intOf]
    . gi_wp2
      refine bodyPost_ret (results_none rfl _ _ _) rfl ?_;exact ⟨⟨_,rfl⟩,.inr ⟨_,trivial,Z⟩⟩
  . obtain rfl:k=I.length:=by omega
    have ei:(I.length:Int) - 1 - (I.length:Int)= -1:=by omega
    rw [ei]
    gi_wp2
    go_end0
    exact ⟨⟨_,rfl⟩,.inl ⟨_,Q,Y⟩⟩
set_option maxRecDepth 100000 in
set_option maxHeartbeats 2000000 in
theorem Li (n:Nat) (l O:Nat) (J:List {x:Int × Int // x.2∈([]:List Int)}->World->Prop) (W:World) (Q:W.cell? ⟨O,0,none⟩=some (.slice none 0 0)) (V:J [] W):
 CallsIn Fence.wide n Tryz.prog 214 #[.func (.yield l) #[] #[],.pointer (some ⟨O,0,none⟩)] W fun e U=> (∃v,e= .returned v)/\J [] U:=by
 refine callsIn_of_wp Tryz.func214 rfl trivial ?_ rfl;simp only [show Tryz.f214.ntmps=19 from rfl,List.size_toArray,List.length_cons,List.length_nil,Nat.reduceAdd,Nat.reduceSub,Array.replicate_succ,Array.replicate_zero,List.push_toArray,List.append_toArray,List.nil_append,List.cons_append]
 gi_wp2
 gi_loopw [3] (fun i wr=>i= .int .i64 (-1)/\J [] wr) (fun _ _=>0)
 case atStart=>exact ⟨rfl,V⟩
 case round=>
  obtain ⟨rfl,I⟩:=hrel
  gi_wp2
  go_end0
  exact ⟨⟨_,rfl⟩,I⟩
open Go.Proofs.YtenmibfmhccmiaaGreat.W in
theorem HA {w:World} {Q:Nat} {X:Option Addr} {cap:Nat} {O:List Int} (hB:bA w Q #[.slice X O.length cap]) (o:da aC w X cap O) (I:O.length*8<=140737488351232):
 KV Tryz.prog 214 #[.pointer (some ⟨Q,0,none⟩)] (Dr O O.length) (fun p=>p.2∈O) (fun k=>k=Q\/aJ X=some k) w:=by
 intro n hn l J Jx W hW _ _ hY h0;have g:=Go.Fw.aF.If hW;have U:=hB.grow g;have Z:=o.grow g;rcases Z.un with ⟨rfl,rfl,rfl⟩| ⟨b,cur,rfl,_⟩
 . exact (Li n l Q J W (aQ U rfl) h0).mono fun e W' ⟨he,V⟩=> ⟨he,.inl ⟨[],rfl,V⟩⟩
 . refine NE n hn l Q b cap O I (fun k=>k=Q\/aJ (some (⟨b,0,none⟩:Addr))=some k) (.inl rfl) (.inr rfl) J Jx (fun cM x W1 h1 h2=>hY cM x W1 h1 (by rw [D3];exact h2)) W (aQ U rfl) (fun j V=> ?_) h0;obtain ⟨a,e,Y⟩:=Z.vw j V;cases e;rw [c5] at Y;rw [Y];simp [V]
end Go.Proofs
namespace Go.Proofs.YtenmibfmhccmiaaGreat.W
open Go Go.Fw Go.RowKit Go.SoP Go.LiP Go.LeP
open Go.Proofs.Tryz (prog)
section
variable {w0 w w' w1 w2 W0:World} {B N:Nat} {L L':Nat->Nat} {x:Xs} {l:List Int}
theorem pT:rH prog 194 aC cO=true:=by kernel_rfl
abbrev Cl:=MB prog aC cO
theorem nG {s:aH} (g:aL s) {y:Int} (I:y∈s.R .tr):0<=s.bi y/\s.bi y<=(s.R .be).length:=by
 obtain ⟨p,hp,e⟩:=xU I;have:=g.lv p hp;rw [e] at this;have J:=List.countP_le_length (p:=fun e:Int=>decide (e<=(p:Int))) (l:=s.R .be);omega
theorem FU {s:aH} (g:aL s) {y:Int} (J:dB s.vars y): -1<=s.lP y/\s.lP y<=s.vars:=by
 have hb:=g.Kq;have ht:=g.yL;unfold aH.lP;split
 . rename_i h;simp only [Bool.and_eq_true,bne_iff_ne,ne_eq] at h;have O: ¬(y ∉ s.R .tr/\ -y ∉ s.R .tr):=fun e=>h.2 ((hG g J).2 e);by_cases e:y∈s.R .tr
   . have:=nG g e;omega
   . have I: -y∈s.R .tr:=Classical.byContradiction fun I=>O ⟨e,I⟩;have:=nG g I;rw [qd] at this;omega
 . omega
theorem HW {s:aH} (g:aL s) {y:Int} (I:y∈s.R .tr):s.lP y=s.bi y:=by
 have hv:=g.tv y I;unfold aH.lP;have h1:=(ir g.dS).2 hv;have J:s.val y≠0:=by have:=(g.v1 y hv).2 I;omega
 rw [if_pos (by simp [h1,J])]
theorem xB {s:aH} (g:aL s) {y:Int} (I:y∈s.R .tr):s.dY y=s.kG y:=by
 have hv:=g.tv y I;unfold aH.dY;have h1:=(ir g.dS).2 hv;have J:s.val y≠0:=by have:=(g.v1 y hv).2 I;omega
 rw [if_pos (by simp [h1,J])]
theorem SR.lP (h:SR w0 w B L N x) (g:aL x.s) (v:Int):Calls prog eo.id #[bL x.pb,.int .i64 v] w fun e w'=>e= .returned (.int .i64 (x.s.lP v))/\ao w w':=by
 obtain ⟨H,pm,_⟩:=h.pm id;exact E0 pm g.wf v
theorem SR.dY (h:SR w0 w B L N x) (g:aL x.s) (v:Int):Calls prog dE.id #[bL x.pb,.int .i64 v] w fun e w'=>e= .returned (.int .i64 (x.s.dY v))/\ao w w':=by
 obtain ⟨H,pm,_⟩:=h.pm id;exact EM pm g.wf v
theorem SR.Gc (h:SR w0 w B L N x) (g:aL x.s) (i:Int):Calls prog dF.id #[bL x.pb,.int .i64 i] w fun e w'=>
 ∃ (q:Option Addr) (d:Nat),e= .returned (.tuple #[.slice q (if x.s.is i then x.s.R (.a i.toNat) else []).length d,.bool (x.s.is i)])/\da aC w' q d (if x.s.is i then x.s.R (.a i.toNat) else [])/\ao w w'/\(∀b,aJ q=some b->w.heap.size<=b):=by
 obtain ⟨H,pm,_⟩:=h.pm id;exact Ei pm i fun j=>by have:=g.al j;omega
theorem AA (h:SR w0 W0 B L N x) (g:aL x.s) (hv:x.s.vars=N) (hN:N<=1000) (G:ao W0 w) {n1 n3 n5 n8 n10 k3 k8:Nat} {s3 s8:Int->Bool}
 (h1:bA w n1 #[bL B]) (h5:bA w n5 #[.map (some n3)]) (kP:bA w n10 #[.map (some n8)]) (M3:Cl w n3 k3 s3) (M8:Cl w n8 k8 s8) (ne:n3≠n8/\n1≠n3/\n1≠n8/\n5≠n3/\n5≠n8/\n10≠n3/\n10≠n8) (f3:W0.heap.size<=n3) (f8:W0.heap.size<=n8)
 {p:Option Addr} {n c:Nat} (vc:Vw (Value.int .i64) w p l) (hn:n=l.length) (hl:l.length<=4096) (aT: ∀y∈l,dB N y) (b8:k3<=100000000) (b6:k8<=100000000) (hp:l≠[]->∀b,aJ p=some b->b≠n3/\b≠n8):
 Calls prog dJ.id #[.slice p n c,.pointer (some ⟨n5,0,none⟩),.pointer (some ⟨n10,0,none⟩),.pointer (some ⟨n1,0,none⟩)] w fun e w'=>e= .returned (.tuple #[])/\
  ∃O J,Cl w' n3 (k3+l.length) O/\Cl w' n8 (k8+l.length) J/\aF (fun b=>b=n3\/b=n8) w w':=by
 refine dJ.ak ?_;obtain ⟨e1,e2,e3,e4,e5,e6,e7⟩:=ne;refine ⟨fun V u k=> ∃ (t:Nat) (O J:Int->Bool),V=t/\t<=l.length/\k=l.length - t/\Cl u n3 (k3+t) O/\Cl u n8 (k8+t) J/\aF (fun b=>b=n3\/b=n8) w u,⟨_,0,s3,s8,rfl,Nat.zero_le _,rfl,M3,M8,aF.refl _⟩,?_⟩;rintro V u k _ ⟨t,O,J,rfl,ht,rfl,m3,m8,mm⟩;refine aj (fun r=> ?_) (fun r=> ?_)
 . have r:t<l.length:=by simp at r;omega
   have vu:=vc.jG mm fun aw b hb e=>by have:=hp aw b hb;rcases e with e|e<;>simp_all
   refine vu.ix 0 (by omega) hn (by omega) fun a ha=> ⟨_,ha,?_⟩
   rw [Int.toNat_natCast];obtain ⟨y,hy⟩: ∃y,l.getD t 0=y:=⟨_,rfl⟩
   have ay:y∈l:=by rw [<- hy];simp [List.getD,r]
   have Z:=aT y ay;have hb:=Z.bd (by omega);have cb:=Z.bf;rw [hy];have H5:bA u n5 _:=h5.keep mm fun e=>by rcases e with e|e<;>omega
   have bx:bA u n10 _:=kP.keep mm fun e=>by rcases e with e|e<;>omega
   have H1:bA u n1 _:=h1.keep mm fun e=>by rcases e with e|e<;>omega
   refine ⟨fun v=>v=u.drew,rfl,_,dW (aQ H5.drew rfl),mf.ak ⟨_,rfl,rfl,?_⟩⟩;rw [vL hb.1 hb.2];have ar:Cl u.drew n3 (k3+t) O:=m3.grow (aF.refl u).drew;have a6:Cl u.drew n8 (k8+t) J:=m8.grow (aF.refl u).drew;obtain ⟨I,a8,ap,X⟩:=ar.put pT (by unfold maxLen;omega) (a:=bf y) (xk (by omega) (by omega)) true;refine ⟨I,a8,fun v=>ao I.drew v,aF.refl _,?_⟩;have U:aF (fun b=>b=n3\/b=n8) w I.drew:=((mm.grow (aF.refl u).drew).then X fun b _ (e:b=n3)=> .inl e).grow (aF.refl _).drew;have ac:bA I.drew n10 _:=(kP.keep U fun e=>by rcases e with e|e<;>omega)
   have ax:bA I.drew n1 _:=(h1.keep U fun e=>by rcases e with e|e<;>omega)
   have GA:ao W0 I.drew:=G.then U fun b hb e=>by rcases e with e|e<;>omega
   have SA:=h.grow GA;refine ⟨_,fun v gv=>aQ (ac.grow gv) rfl,_,fun v gv=>aQ (ax.grow gv) rfl,_,rfl,_,fun v gv=>ae (SA.at.grow gv) rfl,(SA.lP g y).mono ?_⟩;rintro e b5 ⟨rfl,Q⟩;have b3:=FU g (y:=y) (by rw [hv];exact Z);have a_:=(a6.Cb X (Ne.symm e1)).grow ((aF.refl I).drew.trans Q);obtain ⟨av,az,a7,Y⟩:=a_.put pT (by unfold maxLen;omega) (a:=x.s.lP y) (xk (by omega) (by omega)) true;refine ⟨_,rfl,Q,av,az,_,?_,t+1,_,_,wN (by omega) (by omega),by omega,rfl,(ap.grow ((aF.refl I).drew.trans Q)).Cb Y e1,a7,(U.grow Q).then Y fun b _ (e:b=n8)=> .inr e⟩;omega
 . have r:t=l.length:=by simp at r;omega
   subst r;exact ⟨rfl,O,J,m3,m8,mm⟩
structure Pa where
 lit:Int
 bi:Int
 sl:Sl
 rs:List Int
def rS:Pa:=⟨0,0,Sl.nil,[]⟩
def EY (a:Pa):List Value:= [.int .i64 a.lit,.int .i64 a.bi,a.sl.v]
theorem uo:HJ 3 EY:=⟨fun _=>rfl,by omega,fun x v hv=>by
 simp only [EY,List.mem_cons,List.not_mem_nil,or_false] at hv;rcases hv with rfl|rfl|rfl<;>rfl⟩
def KS (l:List Pa) (k:Nat) (m:List Pa):Prop:=m.length=l.length/\∀i,i<l.length->m.getD i rS=if i<k\/l.length<=i+k then l.getD (l.length - 1 - i) rS else l.getD i rS
theorem pR {b:List Pa} {i j:Nat} {x:Pa} (hi:i<b.length):(b.set i x).getD j rS=if j=i then x else b.getD j rS:=by
 simp only [List.getD_eq_getElem?_getD,List.getElem?_set];by_cases h:j=i
 . subst h;simp [hi]
 . rw [if_neg (fun e=>h e.symm),if_neg h]
theorem CO {p:Option Addr} {n c:Nat} {l:List Pa} (o:Row 3 EY bQ w p c l) (hn:n=l.length) (hl:l.length<=1000000):Calls prog aV.id #[.slice p n c] w fun e w'=>e= .returned (.tuple #[])/\Row 3 EY bQ w' p c l.reverse/\aF (fun b=>aJ p=some b) w w':=by
 refine aV.ak ?_;subst hn;refine ⟨fun I J u k=> ∃ (t:Nat) (m:List Pa),I=t/\J=(l.length:Int) - 1 - t/\t+t<=l.length+1/\k=l.length - t/\KS l t m/\Row 3 EY bQ u p c m/\aF (fun b=>aJ p=some b) w u,
  ⟨_,0,l,rfl,by rw [aD (by omega) (by omega)];omega,by omega,rfl,⟨rfl,fun i hi=>by rw [if_neg (by omega)]⟩,o,aF.refl _⟩,?_⟩
 rintro I J u k _ ⟨t,m,rfl,rfl,ht,rfl,⟨O,Q⟩,R,M⟩;refine aj (fun r=> ?_) (fun r=> ?_)
 . have r:(t:Int)< (l.length:Int) - 1 - t:=by simpa using r
   obtain ⟨j,hj⟩: ∃j:Nat,(l.length:Int) - 1 - t=j:=⟨l.length - 1 - t,by omega⟩
   rw [hj];have Rd:=R.drew;have v:=Rd.vr uo;refine v.ix rS (by omega) O.symm (by omega) fun a ha=> ⟨_,_,_,_,_,ha,v.ix rS (by omega) O.symm (by omega) fun a2 Z=> ⟨_,_,_,_,_,Z,?_⟩⟩
   refine Rd.st uo (m.getD j rS) rfl rfl (by omega) O.symm (by omega) fun an V X=> ?_;refine V.st uo (m.getD t rS) rfl rfl (by omega) (by rw [List.length_set];exact O.symm) (by omega) fun ad U Y=> ?_;refine ⟨_,?_,t+1,_,wN (by omega) (by omega),?_,by omega,rfl,⟨?_,fun i hi=> ?_⟩,U,((M.grow (aF.refl u).drew).trans X).trans Y⟩
   . omega
   . rw [aD (by omega) (by omega)];omega
   . simp [O]
   . rw [Int.toNat_natCast,Int.toNat_natCast,pR (by rw [List.length_set];omega),pR (by omega)];have a1:=Q j (by omega);have a2:=Q t (by omega);rw [if_neg (by omega)] at a1 a2;by_cases e:i=j
     . subst e;rw [if_pos rfl,a2,if_pos (by omega)];congr 1;omega
     . rw [if_neg e];by_cases e2:i=t
       . subst e2;rw [if_pos rfl,a1,if_pos (by omega)];congr 1;omega
       . rw [if_neg e2,Q i hi];by_cases e3:i<t\/l.length<=i+t
         . rw [if_pos e3,if_pos (by omega)]
         . rw [if_neg e3,if_neg (by omega)]
 . have r: ¬(t:Int)< (l.length:Int) - 1 - t:=by simpa using r
   refine ⟨rfl,?_,M⟩;have:m=l.reverse:=by
    refine List.ext_getElem (by simp [O]) fun i h1 h2=> ?_;have:=Q i (by omega);rw [List.getElem_reverse];have e1:m.getD i rS=m[i]:=by simp [List.getD,h1]
    rw [<- e1,this];have hi:i<l.length:=by omega
    by_cases e:i<t\/l.length<=i+t
    . rw [if_pos e];simp [List.getD,show l.length - 1 - i<l.length by omega]
    . rw [if_neg e];have:l.length - 1 - i=i:=by omega
      simp [List.getD,hi,this]
   rw [<- this];exact R
end
section
variable {w0 w w' w1 w2 W0 w25 u u':World} {B N n1 n3 n5 n8 n10 n13 n18:Nat} {L L':Nat->Nat} {x:Xs} {l:List Int} {s:aH} {cM:List (Int × Int)} {q:Sl} {pt:List Pa}
theorem Mp {C:Nat} {T S:Nat->Prop} (m:aF S u u') (V: ∀r,S r->r<C\/∀o,u.heap[r]? =some o->o.isCells=true) (U: ∀k,T k->¬S k) (hl: ∀k,T k->k<u.heap.size):KB C T u u':=by
 refine ⟨⟨m.size,fun k o J O Q=> ?_⟩,fun k J=>m.block k (hl k J) (U k J)⟩;have I:k<u.heap.size:=(Array.getElem?_eq_some_iff.1 O).1;by_cases e:S k
 . rcases V k e with h|h
   . omega
   . rw [h o O] at Q;cases Q
 . exact (m.block k I e).trans O
structure MT (s:aH) (a:Pa):Prop where
 mem:a.lit∈s.R .tr
 bi:a.bi=s.bi a.lit
 rs:a.rs= []\/∃i,s.aN i/\a.rs=s.R (.a i)
structure Mi (w25 u:World) (q:Sl) (a:Pa):Prop where
 n:a.sl.n=a.rs.length
 o: ∃d,da aC u a.sl.p d a.rs
 f: ∀b,aJ a.sl.p=some b->w25.heap.size<=b/\aJ q.p≠some b
structure CN (w w25:World) (n1 n3 n5 n8 n10 n13 n18:Nat):Prop where
 a:w.heap.size<=n1
 b:n1<n3
 c:n3<n5
 d:n5<n8
 e:n8<n10
 f:n10<n13
 g:n13<n18
 h:n18<w25.heap.size
structure CV (w w25:World) (B n1 n3 n5 n8 n10 n13 n18:Nat) (s:aH) (q:Sl) (pt:List Pa) (cM:List (Int × Int)) (u:World):Prop where
 g:ao w u
 h1:bA u n1 #[bL B]
 h5:bA u n5 #[.map (some n3)]
 kP:bA u n10 #[.map (some n8)]
 qz:bA u n13 #[.func (.func 184) #[] #[.pointer (some ⟨n5,0,none⟩),.pointer (some ⟨n10,0,none⟩),.pointer (some ⟨n1,0,none⟩)]]
 m3: ∃k f,k<=4096+4096*cM.length/\Cl u n3 k f
 m8: ∃k f,k<=4096+4096*cM.length/\Cl u n8 k f
 tj:bA u n18 #[q.v]
 qn:q.n=pt.length
 r:Row 3 EY bQ u q.p q.c pt
 rf: ∀b,aJ q.p=some b->w25.heap.size<=b
 sub:(pt.map (·.lit)).Sublist (cM.map (·.2))
 pa: ∀a∈pt,MT s a
 pm: ∀a∈pt,Mi w25 u q a
theorem AN {p:Option Addr} {d:Nat} (o:da aC u p d l): ∀b,aJ p=some b->∀I,u.heap[b]? =some I->I.isCells=true:=by
 intro b hb I J;rcases o.un with ⟨rfl,_⟩| ⟨g,cur,rfl,O,_⟩
 . simp [aJ] at hb
 . simp [aJ] at hb;subst hb;rw [O] at J;cases J;rfl
theorem sb {p:Option Addr} {d:Nat} (o:Row 3 EY bQ u p d pt): ∀b,aJ p=some b->∀I,u.heap[b]? =some I->I.isCells=true:=by
 intro b hb I J;rcases o.un with ⟨rfl,_⟩| ⟨g,cur,rfl,O,_⟩
 . simp [aJ] at hb
 . simp [aJ] at hb;subst hb;rw [O] at J;cases J;rfl
theorem CV.keep (h:CV w w25 B n1 n3 n5 n8 n10 n13 n18 s q pt cM u) {S:Nat->Prop} (m:aF S u u') (cn:CN w w25 n1 n3 n5 n8 n10 n13 n18) (I: ∀r,S r->w25.heap.size<=r) (hr: ∀b,aJ q.p=some b->¬S b) (hp: ∀a∈pt,∀b,aJ a.sl.p=some b->¬S b):CV w w25 B n1 n3 n5 n8 n10 n13 n18 s q pt cM u':=by
 obtain ⟨a,b,c,d,e,f,g,X⟩:=cn;have no: ∀k,k<w25.heap.size->¬S k:=fun k V hs=>by have:=I k hs;omega
 obtain ⟨U,f3,O,m3⟩:=h.m3;obtain ⟨J,f8,Q,m8⟩:=h.m8;exact ⟨h.g.then m fun r hr hs=>by have:=I r hs;omega,h.h1.keep m (no _ (by omega)),h.h5.keep m (no _ (by omega)),h.kP.keep m (no _ (by omega)),h.qz.keep m (no _ (by omega)),⟨U,f3,O,m3.keep m (no _ (by omega))⟩,⟨J,f8,Q,m8.keep m (no _ (by omega))⟩,h.tj.keep m (no _ (by omega)),h.qn,h.r.keep m hr,h.rf,h.sub,h.pa,
  fun a ha=> ⟨(h.pm a ha).n,by obtain ⟨d,o⟩:=(h.pm a ha).o;exact ⟨d,o.keep m (hp a ha)⟩,(h.pm a ha).f⟩⟩
theorem CV.grow (h:CV w w25 B n1 n3 n5 n8 n10 n13 n18 s q pt cM u) (m:ao u u') (cn:CN w w25 n1 n3 n5 n8 n10 n13 n18):CV w w25 B n1 n3 n5 n8 n10 n13 n18 s q pt cM u':=
 h.keep m cn (fun _ e=>e.elim) (fun _ _ e=>e) fun _ _ _ _ e=>e
theorem CV.next (h:CV w w25 B n1 n3 n5 n8 n10 n13 n18 s q pt cM u) (y:Int × Int):CV w w25 B n1 n3 n5 n8 n10 n13 n18 s q pt (cM++ [y]) u:=by
 obtain ⟨J,f3,O,m3⟩:=h.m3;obtain ⟨I,f8,Q,m8⟩:=h.m8;exact ⟨h.g,h.h1,h.h5,h.kP,h.qz,⟨J,f3,by simp;omega,m3⟩,⟨I,f8,by simp;omega,m8⟩,h.tj,h.qn,h.r,h.rf,h.sub.trans (by rw [List.map_append];exact List.sublist_append_left _ _),h.pa,h.pm⟩
theorem Fi:q6 prog 172 bQ 3 40=true:=by kernel_rfl
theorem MP {a:Pa} {b:Nat} (h:bA u b #[.int .i64 a.lit,.int .i64 a.bi,a.sl.v]):Vr 3 EY u (some ⟨b,0,none⟩) [a]:=by
 intro j I;have:j=0:=by simpa using I
 subst this;exact ⟨_,rfl,ae h rfl,ae h rfl,ae h rfl,trivial⟩
theorem yK {i:Int} {a:Pa} (h:CV w w25 B n1 n3 n5 n8 n10 n13 n18 s q pt (cM++ [(i,a.lit)]) u) (hs:(pt.map (·.lit)).Sublist (cM.map (·.2))) (cn:CN w w25 n1 n3 n5 n8 n10 n13 n18) (c2:w25.heap.size<=u.heap.size) (hl:pt.length<=1000000) {a8:Nat} (bb:bA u a8 #[.int .i64 a.lit,.int .i64 a.bi,a.sl.v]) (bk:MT s a) (hm:Mi w25 u q a) {K:World->Prop}
 (hk: ∀u' q',CV w w25 B n1 n3 n5 n8 n10 n13 n18 s q' (pt++ [a]) (cM++ [(i,a.lit)]) u'->aF (fun b=>b=n18\/aJ q.p=some b) u u'->K u'):
 ∃ad ag ap,u.cell? (Addr.mk n18 0 none)=some (.slice ad ag ap)/\
  ∃ay a6 aa Y X,aB u (Addr.mk a8 0 none) 0 [.int .i64 ay,.int .i64 a6,.slice aa Y X]/\
  ∀av O,aY (.cells #[.int .i64 ay,.int .i64 a6,.slice aa Y X] 199) u av O->
  ∃ar an ac Z,(Builtin.append_ #[172,172] 172 #[.slice ad ag ap,.slice (some (Addr.mk av 0 none)) 1 1]).run prog O= .ok (.slice an ac Z) ar/\
  ∃J,ah (Addr.mk n18 0 none) 0 [.slice an ac Z] ar J/\K J:=by
 refine ⟨_,_,_,aQ h.tj rfl,_,_,_,_,_,jM bb,fun av O Q=> ?_⟩;have ax:=h.grow Q.mod cn;have b4:=Q.num;refine Row.mN uo Fi ax.r (MP (a:=a) Q.has) h.qn rfl (by simp;omega) fun ar p' c' bx az aT b_=> ?_;obtain ⟨ca,cb,cc,cd,ce,cf,cg,bv⟩:=cn;have nb: ∀k,k<w25.heap.size->¬aJ q.p=some k:=fun k hk e=>by have:=h.rf k e;omega
 refine bj (ax.tj.keep az (nb _ bv)) rfl rfl fun J bc aw=> ?_;have cT:=Q.mod.size;have pf: ∀b,aJ p'=some b->w25.heap.size<=b:=fun b hb=>by
  rcases aT with rfl|rfl
  . exact h.rf b hb
  . have:O.heap.size=b:=by simpa [aJ] using hb
    omega
 have U:aF (fun b=>b=n18\/aJ q.p=some b) u J:=((aF.then (S:=fun b=>b=n18\/aJ q.p=some b) (Q.mod.mono fun _ _ e=>e.elim) az fun b _ e=> .inr e)).then aw fun b _ (e:b=n18)=> .inl e;have no: ∀k,k≠n18->k<w25.heap.size->¬(k=n18\/aJ q.p=some k):=fun k h1 h2 e=>by
  rcases e with e|e
  . exact h1 e
  . exact nb k h2 e
 obtain ⟨k3,f3,b3,M3⟩:=h.m3;obtain ⟨k8,f8,b8,M8⟩:=h.m8;have a_: ∀V:Pa,Mi w25 u q V->Mi w25 J ⟨p',(pt++ [a]).length,c'⟩ V:=fun V ha=>by
  obtain ⟨d,o⟩:=ha.o;refine ⟨ha.n,⟨d,o.keep U fun b hb e=> ?_⟩,fun b hb=> ⟨(ha.f b hb).1,fun e=> ?_⟩⟩
  . have:=ha.f b hb;rcases e with e|e
    . omega
    . exact this.2 e
  . have b6:=o.lt b hb;rcases aT with e'|e'
    . have e:aJ p'=some b:=e;rw [e'] at e;exact (ha.f b hb).2 e
    . have e:aJ p'=some b:=e;rw [e'] at e;have:O.heap.size=b:=by simpa [aJ] using e
      omega
 refine hk J ⟨p',(pt++ [a]).length,c'⟩ ⟨h.g.then U fun r hr e=> ?_,h.h1.keep U (no _ (by omega) (by omega)),h.h5.keep U (no _ (by omega) (by omega)),h.kP.keep U (no _ (by omega) (by omega)),h.qz.keep U (no _ (by omega) (by omega)),⟨k3,f3,b3,M3.keep U (no _ (by omega) (by omega))⟩,⟨k8,f8,b8,M8.keep U (no _ (by omega) (by omega))⟩,bc,rfl,bx.keep aw fun b hb (e:b=n18)=> ?_,pf,?_,fun V I=> ?_,fun V I=> ?_⟩ U
 . rcases e with e|e
   . omega
   . have:=h.rf r e;have:=h.g.size;exact absurd e (nb r (by omega))
 . have:=pf b hb;omega
 . rw [List.map_append,List.map_append];exact hs.append (List.Sublist.refl _)
 . rcases List.mem_append.1 I with I|I
   . exact h.pa V I
   . rw [List.mem_singleton] at I;subst I;exact bk
 . rcases List.mem_append.1 I with I|I
   . exact a_ V (h.pm V I)
   . rw [List.mem_singleton] at I;subst I;exact a_ _ hm
end
section
variable {w0 w w' w1 w2 W0 w25 u u':World} {B N n1 n3 n5 n8 n10 n13 n18:Nat} {L L':Nat->Nat} {x:Xs} {l:List Int} {s:aH} {cM:List (Int × Int)} {q:Sl} {pt:List Pa}
structure RP (lv:Nat->Int) (t:Nat) (rl:List Int) (ix:Nat->Nat):Prop where
 up: ∀a b,a<b->b<rl.length->rl.getD a 0<rl.getD b 0
 z:rl≠[]->rl.getD 0 0=0
 ix: ∀j,j<t->ix j<rl.length/\rl.getD (ix j) 0=lv j
 e0:t=0->rl= []
 ne:0<t->rl≠[]/\rl.getD (rl.length - 1) 0=lv (t - 1)
def tz (rl:List Int) (v:Int):List Int:=if rl= [] then (if 0<v then [0,v] else [v]) else if rl.getD (rl.length - 1) 0≠v then rl++ [v] else rl
theorem Iq {lv:Nat->Int} {t:Nat} {rl:List Int} {ix:Nat->Nat} (h:RP lv t rl ix) (h0:0<=lv t) (hm:0<t->lv (t - 1)<=lv t):
 RP lv (t+1) (tz rl (lv t)) (fun j=>if j=t then (tz rl (lv t)).length - 1 else ix j):=by
 have key: ∀I:List Int,(∃e,I=rl++e)->(∀a b,a<b->b<I.length->I.getD a 0<I.getD b 0)->(I.getD 0 0=0)->I≠[]->I.getD (I.length - 1) 0=lv t->
  RP lv (t+1) I (fun j=>if j=t then I.length - 1 else ix j):=by
  rintro I ⟨e,rfl⟩ h1 h2 Z X;have hl:0< (rl++e).length:=List.length_pos_iff.2 Z;refine ⟨h1,fun _=>h2,fun j hj=> ?_,fun e=>by omega,fun _=> ⟨Z,by simpa using X⟩⟩;by_cases ej:j=t
  . subst ej;show (if j=j then _ else _)<_/\_;rw [if_pos rfl];exact ⟨by omega,X⟩
  . show (if j=t then _ else _)<_/\_;rw [if_neg ej];obtain ⟨a,b⟩:=h.ix j (by omega);refine ⟨by rw [List.length_append];omega,?_⟩;rw [<- b];simp only [List.getD_eq_getElem?_getD];rw [List.getElem?_append_left a]
 unfold tz;by_cases e:rl= []
 . subst e;rw [if_pos rfl];by_cases hv:0<lv t
   . rw [if_pos hv];refine key _ ⟨_,rfl⟩ (fun a b J hb=> ?_) rfl (by simp) rfl;have hb:b<2:=hb;have:a=0/\b=1:=by omega
     obtain ⟨rfl,rfl⟩:=this;exact hv
   . rw [if_neg hv];refine key _ ⟨_,rfl⟩ (fun a b J hb=> ?_) ?_ (by simp) rfl
     . have hb:b<1:=hb;omega
     . show lv t=0;omega
 . rw [if_neg e];have ht:0<t:=by
    rcases Nat.eq_zero_or_pos t with O|O
    . exact absurd (h.e0 O) e
    . exact O
   obtain ⟨_,V⟩:=h.ne ht;have hlen:0<rl.length:=List.length_pos_iff.2 e;by_cases Q:rl.getD (rl.length - 1) 0≠lv t
   . rw [if_pos Q];have U: ∀a,a<rl.length->(rl++ [lv t]).getD a 0=rl.getD a 0:=fun a ha=>by simp only [List.getD_eq_getElem?_getD];rw [List.getElem?_append_left ha]
     have Y:(rl++ [lv t]).getD rl.length 0=lv t:=by simp [List.getD]
     refine key _ ⟨_,rfl⟩ (fun a b J hb=> ?_) (by rw [U 0 hlen];exact h.z e) (by simp) (by rw [List.length_append];exact Y);rw [List.length_append,List.length_singleton] at hb;by_cases O:b=rl.length
     . subst O;rw [Y,U a J];have hm:=hm ht;by_cases e3:a=rl.length - 1
       . rw [e3];omega
       . have:=h.up a (rl.length - 1) (by omega) (by omega);omega
     . rw [U a (by omega),U b (by omega)];exact h.up a b J (by omega)
   . rw [if_neg Q];have Q:rl.getD (rl.length - 1) 0=lv t:=by simpa using Q
     exact key _ ⟨[],by simp⟩ h.up (h.z e) e Q
structure qx (s:aH) (tr:List As) (rl:List Int):Prop where
 len:tr.length<=s.vars
 mem: ∀i,i<tr.length->(aS tr i).lit∈s.R .tr
 rs: ∀i,i<tr.length->(aS tr i).rs= []\/∃k,s.aN k/\(aS tr i).rs=s.R (.a k)
 bi: ∀i,i<tr.length->0<=(aS tr i).bi/\(aS tr i).bi<rl.length/\rl.getD (aS tr i).bi.toNat 0=s.bi (aS tr i).lit
 up: ∀a b,a<b->b<rl.length->rl.getD a 0<rl.getD b 0
 z:rl≠[]->rl.getD 0 0=0
theorem H_ (g:aL s) {I:List Int} (h:I.Sublist (s.R .tr)): ∀a b,a<=b->b<I.length->s.bi (I.getD a 0)<=s.bi (I.getD b 0):=by
 have key:(s.R .tr).Pairwise fun y z=>s.bi y<=s.bi z:=by
  rw [List.pairwise_iff_getElem];intro i j hi O X;have h1:=g.lv i hi;have Q:=g.lv j O;have U:(s.R .tr).getD i 0=(s.R .tr)[i]:=by simp [List.getD,hi]
  have Y:(s.R .tr).getD j 0=(s.R .tr)[j]:=by simp [List.getD,O]
  rw [U] at h1;rw [Y] at Q;rw [h1,Q];have:=List.countP_mono_left (p:=fun e:Int=>decide (e<=(i:Int))) (q:=fun e:Int=>decide (e<=(j:Int))) (l:=s.R .be) fun e _ he=>by simp at he ⊢;omega
  omega
 have J:=key.sublist h;rw [List.pairwise_iff_getElem] at J;intro a b V hb;by_cases e:a=b
 . rw [e];exact Int.le_refl _
 . have:=J a b (by omega) hb (by omega);simpa [List.getD,hb,show a<I.length by omega] using this
def Lq (pt:List Pa) (j:Nat):Int:=(pt.getD j rS).bi
structure OL (pt m:List Pa) (t:Nat) (ix:Nat->Nat):Prop where
 len:m.length=pt.length
 sI: ∀j,t<=j->m.getD j rS=pt.getD j rS
 new: ∀j,j<t->m.getD j rS= {pt.getD j rS with bi:=ix j}
theorem Fe (g:aL s) (cn:CN w w25 n1 n3 n5 n8 n10 n13 n18) (h:CV w w25 B n1 n3 n5 n8 n10 n13 n18 s q pt cM u) (jN:w25.heap.size<=u.heap.size) (hN:s.vars<=1000) (e9:(pt.map (·.lit)).Sublist (s.R .tr).reverse) {d:Nat} (hd:u.heap[d]? =some (.deferred (some []))) (hL:w25.heap.size<=d) {K:Value->World->Prop}
 (hk: ∀u' (tp:Option Addr) (tc:Nat) (rp:Option Addr) (rc:Nat) (tr:List As) (rl:List Int),qx s tr rl->Le.TV u' tp tr->Vw (Value.int .i64) u' rp rl->ao w u'->tr.length<=tc->K (.tuple #[.slice tp tr.length tc,.slice rp rl.length rc]) u'):
 ∃e' eN ep,u.cell? (Addr.mk n18 0 none)=some (.slice e' eN ep)/\
  Calls prog 189 #[.slice e' eN ep] u fun e ar=>e= .returned (.tuple #[])/\
  ∃eT dk f0,ar.cell? (Addr.mk n18 0 none)=some (.slice eT dk f0)/\
  ∃fj:Option Addr->Nat->Nat->Int->World->Nat->Prop,(∃el,fj none 0 0 0 ar el)/\
  ∀ (J:Option Addr) (I:Nat) (O:Nat) (b8:Int) (aw:World) (el:Nat) (_:Fr),fj J I O b8 aw el->
  aG (decide (b8< (dk:Int)))
   (aP eT dk b8 3 fun gl=>
     ∃eL e2 d9 b' c2,aB aw gl 0 [.int .i64 eL,.int .i64 e2,.slice d9 b' c2]/\
     ∀n105 d5,aY (.cells #[.int .i64 0,.int .i64 0,.slice none 0 0] 199) aw n105 d5->
     ∃Q,ah (Addr.mk n105 0 none) 0 [.int .i64 eL,.int .i64 e2,.slice d9 b' c2] d5 Q/\
     ∃az:Option Addr->Nat->Nat->World->Prop,(∃dw:Bool->World->Prop,(aG ((I:Int)==(0:Int))
     (dw true Q.drew)
     (aP J I (IntKind.i64.wrap ((I:Int) - (1:Int))) 1 fun gs=>
     ∃eR,Q.drew.cell? gs=some (.int .i64 eR)/\
     ∃eA,Q.drew.cell? ((Addr.mk n105 0 none).add 1)=some (.int .i64 eA)/\
     dw (eR !=eA) Q.drew))/\
     ∀ (er:Bool) (Y:World) (_:Fr),dw er Y->
     aG er
     (aG ((I:Int)==(0:Int))
       (∃es,Y.cell? ((Addr.mk n105 0 none).add 1)=some (.int .i64 es)/\
       aG (decide (es> (0:Int)))
       (∀n116 a',aY (.cells #[.int .i64 0] 3) Y n116 a'->
         ∃ax ag ad an,(Builtin.append_ #[28,28] 28 #[.slice J I O,.slice (some (Addr.mk n116 0 none)) 1 1]).run prog a'= .ok (.slice ag ad an) ax/\
         ∃ez,ax.cell? ((Addr.mk n105 0 none).add 1)=some (.int .i64 ez)/\
         ∀n121 b3,aY (.cells #[.int .i64 ez] 3) ax n121 b3->
         ∃fa ed dd dp,(Builtin.append_ #[28,28] 28 #[.slice ag ad an,.slice (some (Addr.mk n121 0 none)) 1 1]).run prog b3= .ok (.slice ed dd dp) fa/\
         az ed dd dp fa)
       (∃e8,Y.cell? ((Addr.mk n105 0 none).add 1)=some (.int .i64 e8)/\
         ∀n126 bY,aY (.cells #[.int .i64 e8] 3) Y n126 bY->
         ∃e6 du ec d8,(Builtin.append_ #[28,28] 28 #[.slice J I O,.slice (some (Addr.mk n126 0 none)) 1 1]).run prog bY= .ok (.slice du ec d8) e6/\
         az du ec d8 e6))
       (∃et,Y.cell? ((Addr.mk n105 0 none).add 1)=some (.int .i64 et)/\
       ∀n131 bx,aY (.cells #[.int .i64 et] 3) Y n131 bx->
       ∃eu cp b_ dT,(Builtin.append_ #[28,28] 28 #[.slice J I O,.slice (some (Addr.mk n131 0 none)) 1 1]).run prog bx= .ok (.slice cp b_ dT) eu/\
       az cp b_ dT eu))
     (az J I O Y))/\
     ∀ (aa:Option Addr) (U:Nat) (Z:Nat) (cT:World) (_:Fr),az aa U Z cT->
     ∃c7 cm fi,cT.cell? (Addr.mk n18 0 none)=some (.slice c7 cm fi)/\
     aP c7 cm b8 3 fun a138=>
     ∃di,ah (a138.add 1) 0 [.int .i64 (IntKind.i64.wrap ((U:Int) - (1:Int)))] cT di/\
     ∃ga,ga<el/\fj aa U Z (IntKind.i64.wrap (b8+ (1:Int))) di ga)
   (∃d4 dc d',aw.cell? (Addr.mk n18 0 none)=some (.slice d4 dc d')/\
     aw.heap[d]? =some (.deferred (some []))/\∀ay,Go.Fw.aF (·=d) aw ay->K (.tuple #[.slice d4 dc d',.slice J I O]) ay):=by
 have fq:=e9.length_le;rw [List.length_map,List.length_reverse] at fq;have h4:=g.yL;have g8:d<u.heap.size:=(Array.getElem?_eq_some_iff.1 hd).1;have fs:aJ q.p≠some d:=fun e=>by have:=sb h.r d e _ hd;cases this
 obtain ⟨ca,cb,cc,cd,ce,cf,cg,i7⟩:=cn;refine ⟨_,_,_,aQ h.tj rfl,(CO h.r h.qn (by omega)).mono ?_⟩;rintro e ar ⟨rfl,eg,b5⟩;obtain ⟨X,en⟩: ∃X,X=pt.reverse:=⟨_,rfl⟩
 rw [<- en] at eg;have gW:X.length=pt.length:=by rw [en];simp
 have c1: ¬aJ q.p=some n18:=fun e=>by have:=h.rf _ e;omega
 have gb:(X.map (·.lit)).Sublist (s.R .tr):=by
  have:=e9.reverse;rw [List.reverse_reverse,<- List.map_reverse] at this;rw [en];exact this
 have bc: ∀j,j<X.length->X.getD j rS∈pt:=fun j hj=>by
  have:X.getD j rS∈X:=by simp [List.getD,hj]
  rw [en] at this ⊢;exact List.mem_reverse.1 this
 have fm:=H_ g gb;have e7: ∀j,j<X.length->(X.map (·.lit)).getD j 0=(X.getD j rS).lit:=fun j hj=>by simp [List.getD,hj]
 have b4: ∀j,j<X.length->Lq X j=s.bi (X.getD j rS).lit:=fun j hj=> (h.pa _ (bc j hj)).bi;have g2: ∀j,0<j->j<X.length->Lq X (j - 1)<=Lq X j:=fun j h0 hj=>by
  rw [b4 j hj,b4 (j - 1) (by omega),<- e7 j hj,<- e7 (j - 1) (by omega)];exact fm _ _ (by omega) (by simpa using hj)
 have g9: ∀j,j<X.length->0<=Lq X j:=fun j hj=>by
  rw [b4 j hj];exact (nG g (h.pa _ (bc j hj)).mem).1
 refine ⟨rfl,_,_,_,aQ (h.tj.keep b5 c1) rfl,?_⟩;have h_:=b5.size;refine ⟨fun P Nn C V v z=> ∃ (t:Nat) (rl:List Int) (ix:Nat->Nat) (m:List Pa),V=t/\t<=X.length/\z=X.length - t/\Nn=rl.length/\rl.length<=t+1/\RP (Lq X) t rl ix/\OL X m t ix/\da aC v P C rl/\(∀b,aJ P=some b->ar.heap.size<=b)/\Row 3 EY bQ v q.p q.c m/\aF (fun b=>aJ q.p=some b) ar v,
  ⟨_,0,[],fun _=>0,X,rfl,Nat.zero_le _,rfl,rfl,by simp,⟨fun a b _ hb=>by simp at hb,fun e=>absurd rfl e,fun j hj=>by omega,fun _=>rfl,fun e=>by omega⟩,⟨rfl,fun _ _=>rfl,fun j hj=>by omega⟩,Ow.nil _ _ _,fun b hb=>by simp [aJ] at hb,eg,aF.refl _⟩,?_⟩
 rintro P Nn C V v z _ ⟨t,rl,ix,m,rfl,ht,rfl,rfl,hJ,ek,hT,hO,bu,hR,hM⟩;have gu:bA v n18 #[q.v]:=(h.tj.keep b5 c1).keep hM c1;have sv:=hM.size;have h8:q.n=X.length:=by rw [h.qn,gW]
 refine aj (fun r=> ?_) (fun r=> ?_)
 . have r:t<X.length:=by simp at r;omega
   have fd:=hT.len;refine (hR.vr uo).ix rS (by omega) (by omega) (by omega) fun a ha=> ⟨_,_,_,_,_,ha,?_⟩
   intro n105 d5 c3;rw [Int.toNat_natCast,hT.sI t (Nat.le_refl _)];obtain ⟨A,hA⟩: ∃A,X.getD t rS=A:=⟨_,rfl⟩
   rw [hA];have fo:Lq X t=A.bi:=by unfold Lq;rw [hA]
   have hF:=c3.num;refine bj c3.has rfl rfl fun Q fL f1=> ?_;have a7:ao v Q:=c3.mod.bV f1 (by omega);have hW:=a7.size;have ap:bA Q.drew n105 #[.int .i64 A.lit,.int .i64 A.bi,A.sl.v]:=fL;have a8:da aC Q.drew P C rl:=hO.grow (a7.trans (aF.refl Q).drew);refine ⟨fun P' N' C' z'=> ∃ac,ac=tz rl A.bi/\N'=ac.length/\ac.length<=t+2/\da aC z' P' C' ac/\(∀b,aJ P'=some b->ar.heap.size<=b)/\Row 3 EY bQ z' q.p q.c m/\aF (fun b=>aJ P=some b) Q.drew z',⟨fun bb z'=>z'=Q.drew/\(bb=true↔rl= []\/rl.getD (rl.length - 1) 0≠A.bi),?_,?_⟩,?_⟩
   . refine aj (fun r2=> ⟨rfl,?_⟩) (fun r2=> ?_)
     . have:rl= []:=List.eq_nil_of_length_eq_zero (by simpa using r2);simp [this]
     . have c0:rl≠[]:=fun e=>by rw [e] at r2;simp at r2
       have hx:0<rl.length:=List.length_pos_iff.2 c0;have ew:IntKind.i64.wrap ((rl.length:Int) - 1)=((rl.length - 1:Nat):Int):=by rw [aD (by omega) (by omega)];omega
       rw [ew];refine a8.ix 0 (by omega) rfl (by omega) fun a2 g4=> ⟨_,g4,_,ae ap rfl,rfl,?_⟩
       rw [Int.toNat_natCast];simp [c0]
   . rintro bb z' _ ⟨rfl,gn⟩;have mN: ∀ {z2:World} {P2:Option Addr} {C2:Nat} {rl2:List Int} {nb:Nat} (y:Int),da aC z2 P2 C2 rl2->rl2.length<=1001->bA z2 nb #[.int .i64 y]->ar.heap.size<=z2.heap.size->(∀b,aJ P2=some b->ar.heap.size<=b)->Row 3 EY bQ z2 q.p q.c m->∀ {KK:World->Option Addr->Nat->Nat->Prop},
      (∀z3 P3 C3,da aC z3 P3 C3 (rl2++ [y])->(∀b,aJ P3=some b->ar.heap.size<=b)->Row 3 EY bQ z3 q.p q.c m->aF (fun b=>aJ P2=some b) z2 z3->(P3=P2\/P3=some ⟨z2.heap.size,0,none⟩)->KK z3 P3 (rl2.length+1) C3)->
      ∃ax ag ad an,(Builtin.append_ #[28,28] 28 #[.slice P2 rl2.length C2,.slice (some (Addr.mk nb 0 none)) 1 1]).run prog z2= .ok (.slice ag ad an) ax/\KK ax ag ad an:=by
      intro z2 P2 C2 rl2 nb y o2 i0 g1 h9 gc g3 KK kk;refine Ow.mF rM o2 y g1 rfl rfl eV (by omega) fun z3 P3 C3 o3 m3 b7 h'=>kk z3 P3 C3 o3 (fun b hb=> ?_) (g3.keep m3 fun b hb e=> ?_) m3 b7
      . rcases b7 with rfl|rfl
        . exact gc b hb
        . have:z2.heap.size=b:=by simpa [aJ] using hb
          omega
      . have:=gc b e;have:=eg.lt b hb;omega
     have ei:Row 3 EY bQ Q.drew q.p q.c m:=hR.grow (a7.trans (aF.refl Q).drew);have sd:Q.drew.heap.size=Q.heap.size:=rfl;refine aj (fun r3=> ?_) (fun r3=> ?_)
     . have r3:=gn.1 r3;refine aj (fun r4=> ?_) (fun r4=> ?_)
       . have e0:rl= []:=List.eq_nil_of_length_eq_zero (by simpa using r4);subst e0;refine ⟨_,ae ap rfl,aj (fun r5=> ?_) (fun r5=> ?_)⟩
         . have r5:0<A.bi:=by simpa using r5
           intro n116 a' av;have hh:=av.mod.size;refine mN (z2:=a') (rl2:= []) 0 (a8.grow av.mod) (by simp) av.has (by omega) bu (ei.grow av.mod) fun z3 P3 C3 o3 f3 r3 m3 b7=> ?_;have fb: ¬aJ P=some n105:=fun e=>by have:=hO.lt n105 e;omega
           have H3:bA z3 n105 _:=(ap.grow av.mod).keep m3 fb;refine ⟨_,ae H3 rfl,fun n121 b3 aT=> ?_⟩;have hV:=aT.mod.size;have s3:=m3.size;refine mN (z2:=b3) (rl2:= []++ [0]) A.bi (o3.grow aT.mod) (by simp) aT.has (by omega) f3 (r3.grow aT.mod) fun z4 P4 C4 o4 f4 r4 m4 h6=> ?_;refine ⟨[0,A.bi],by unfold tz;rw [if_pos rfl,if_pos r5],rfl,by simp,o4,f4,r4,?_⟩;refine ((aF.then (S:=fun b=>aJ P=some b) (av.mod.mono fun _ _ e=>e.elim) m3 fun b _ e=>e).grow aT.mod).then m4 fun b hb e=> ?_;rcases b7 with e3|e3
           . rw [e3] at e;exact e
           . rw [e3] at e;have:a'.heap.size=b:=by simpa [aJ] using e
             omega
         . have r5: ¬0<A.bi:=by simpa using r5
           refine ⟨_,ae ap rfl,fun n126 bY a_=> ?_⟩;have hS:=a_.mod.size;refine mN (z2:=bY) (rl2:= []) A.bi (a8.grow a_.mod) (by simp) a_.has (by omega) bu (ei.grow a_.mod) fun z3 P3 C3 o3 f3 r3 m3 b7=> ?_;exact ⟨[A.bi],by unfold tz;rw [if_pos rfl,if_neg r5],rfl,by simp,o3,f3,r3,aF.then (S:=fun b=>aJ P=some b) (a_.mod.mono fun _ _ e=>e.elim) m3 fun b _ e=>e⟩
       . have c0:rl≠[]:=fun e=>by rw [e] at r4;simp at r4
         refine ⟨_,ae ap rfl,fun n131 bx a6=> ?_⟩;have hH:=a6.mod.size;refine mN (z2:=bx) (rl2:=rl) A.bi (a8.grow a6.mod) (by omega) a6.has (by omega) bu (ei.grow a6.mod) fun z3 P3 C3 o3 f3 gS m3 b7=> ?_;refine ⟨rl++ [A.bi],?_,by simp,by simp;omega,o3,f3,gS,aF.then (S:=fun b=>aJ P=some b) (a6.mod.mono fun _ _ e=>e.elim) m3 fun b _ e=>e⟩;unfold tz;rw [if_neg c0,if_pos (r3.resolve_left c0)]
     . have r3: ¬(rl= []\/rl.getD (rl.length - 1) 0≠A.bi):=fun e=>by have:=gn.2 e;rw [this] at r3;cases r3
       refine ⟨rl,?_,rfl,by omega,a8,bu,ei,(aF.refl _).mono fun _ _ e=>e⟩;unfold tz;rw [if_neg fun e=>r3 (.inl e),if_neg fun e=>r3 (.inr e)]
   . rintro P' N' C' z' _ ⟨ac,gd,rfl,g6,o',f',R',M'⟩;have sp:=Iq ek (by rw [fo,<- fo];exact g9 t r) fun h0=>g2 t h0 r;rw [fo,<- gd] at sp;have hK:0<ac.length:=List.length_pos_iff.2 (sp.ne (by omega)).1;have fP: ¬aJ P=some n18:=fun e=>by have:=bu _ e;omega
     have gr:bA z' n18 #[q.v]:=((gu.grow a7).drew).keep M' fP;refine ⟨_,_,_,aQ gr rfl,?_⟩;have ew:IntKind.i64.wrap ((ac.length:Int) - 1)=((ac.length - 1:Nat):Int):=by rw [aD (by omega) (by omega)];omega
     rw [ew];refine R'.Ov uo rS {A with bi:=((ac.length - 1:Nat):Int)} (o:=1) ?_ (by omega) rfl (by omega) (by omega) (by omega) fun di e4 ey=> ?_
     . rw [Int.toNat_natCast,hT.sI t (Nat.le_refl _),hA];rfl
     . rw [Int.toNat_natCast] at e4;have gf: ∀b,aJ P'=some b->¬aJ q.p=some b:=fun b hb e=>by have:=f' b hb;have:=eg.lt b e;omega
       refine ⟨_,?_,t+1,ac,_,m.set t {A with bi:=((ac.length - 1:Nat):Int)},wN (by omega) (by omega),by omega,rfl,rfl,by omega,sp,⟨by rw [List.length_set];exact fd,fun j hj=> ?_,fun j hj=> ?_⟩,o'.keep ey gf,f',e4,?_⟩
       . omega
       . rw [pR (by omega),if_neg (by omega)];exact hT.sI j (by omega)
       . rw [pR (by omega)];by_cases ej:j=t
         . subst ej;rw [if_pos rfl,if_pos rfl,hA]
         . rw [if_neg ej,if_neg ej];exact hT.new j (by omega)
       . refine ((hM.grow (a7.trans (aF.refl Q).drew)).then M' fun b hb e=> ?_).then ey fun b _ e=>e;have:=bu b e;omega
 . have r:t=X.length:=by simp at r;omega
   subst r;refine ⟨_,_,_,aQ gu rfl,?_,fun ay bv=> ?_⟩
   . rw [hM.block d (by omega) fs,b5.block d g8 fs];exact hd
   have fd:=hT.len;obtain ⟨tr,fT⟩: ∃tr:List As,tr=m.map fun a=> ⟨a.lit,a.bi,a.rs⟩:=⟨_,rfl⟩
   have h7:tr.length=X.length:=by rw [fT];simp [fd]
   have nt: ∀i,i<X.length->aS tr i=⟨(X.getD i rS).lit,ix i,(X.getD i rS).rs⟩:=fun i hi=>by
    have:aS tr i=⟨(m.getD i rS).lit,(m.getD i rS).bi,(m.getD i rS).rs⟩:=by
     rw [fT];simp [aS,List.getD,show i<m.length by omega]
    rw [this,hT.new i hi]
   have e1:q.n=tr.length:=by omega
   have Gu:ao w ay:=by
    have h1:ao w ar:=h.g.then b5 fun b hb e=>by have:=h.rf b e;omega
    have h2:ao w v:=h1.then hM fun b hb e=>by have:=h.rf b e;omega
    exact h2.then bv fun b hb (e:b=d)=>by omega
   have gP: ∀b,aJ q.p=some b->¬b=d:=fun b hb e=>fs (by rw [<- e];exact hb);show K (.tuple #[.slice q.p q.n q.c,.slice P rl.length C]) ay;rw [e1];have gp:=(hR.keep bv gP).vr uo;refine hk ay q.p q.c P C tr rl ⟨by omega,fun i hi=> ?_,fun i hi=> ?_,fun i hi=> ?_,ek.up,ek.z⟩ (fun i hi=> ?_) ((hO.keep bv fun b hb (e:b=d)=> ?_).vw) Gu (by have:=hR.cap;omega)
   . rw [nt i (by omega)];exact (h.pa _ (bc i (by omega))).mem
   . rw [nt i (by omega)];exact (h.pa _ (bc i (by omega))).rs
   . rw [nt i (by omega)];obtain ⟨a,b⟩:=ek.ix i (by omega);refine ⟨by show (0:Int)<=(ix i:Int);omega,by show (ix i:Int)<_;omega,?_⟩;show rl.getD ((ix i:Int)).toNat 0=_;rw [Int.toNat_natCast,b,b4 i (by omega)]
   . obtain ⟨a,ea,hc⟩:=gp i (by omega);have eb:=h.pm _ (bc i (by omega));obtain ⟨d2,o2⟩:=eb.o;have em:m[i]'(by omega)= {X.getD i rS with bi:=ix i}:=by
      rw [<- hT.new i (by omega)];simp [List.getD,show i<m.length by omega]
     rw [em] at hc;rw [nt i (by omega)];have gm:=o2.cap;refine ⟨a,(X.getD i rS).sl,ea,hc,eb.n,by rw [eb.n];exact gm,?_⟩;refine (((o2.keep b5 fun b hb e=> (eb.f b hb).2 e).keep hM fun b hb e=> (eb.f b hb).2 e).keep bv fun b hb (e:b=d)=> ?_).vw;subst e;have:=AN o2 b hb _ hd;cases this
   . subst e;have:=bu b hb;omega
end
section
variable {w0 w w' w1 w2:World} {B N:Nat} {L L':Nat->Nat} {x:Xs} {l:List Int}
theorem Lt (I:List Int):(Dr I I.length).map (·.2)=I.reverse:=by
 refine List.ext_getElem (by simp [Dr]) fun i h1 J=> ?_;have hi:i<I.length:=by simpa [Dr] using h1
 rw [List.getElem_reverse];simp [Dr,Nb,show I.length - 1 - i<I.length by omega]
theorem AE:fX prog 184=true:=by kernel_rfl
theorem KN:fX prog 214=true:=by kernel_rfl
theorem Gf (a b c d:Value):(#[]++ #[a]++ #[b,c,d]:Array Value)= #[a,b,c,d]:=by simp
theorem Jj (h:SR w0 w B L N x) (g:aL x.s) (hv:x.s.vars=N) (hN:N<=1000) {p:Option Addr} {n c:Nat} {bk:List Int} (vb:Vw (Value.int .i64) w p bk) (hn:n=bk.length) (hl:bk.length<=4096) (eT: ∀y∈bk,dB N y):
 Calls prog bP.id #[bL B,.slice p n c] w fun e w'=> ∃ (tp:Option Addr) (tc:Nat) (rp:Option Addr) (rc:Nat) (tr:List As) (rl:List Int),e= .returned (.tuple #[.slice tp tr.length tc,.slice rp rl.length rc])/\
  qx x.s tr rl/\Le.TV w' tp tr/\Vw (Value.int .i64) w' rp rl/\ao w w'/\tr.length<=tc:=by
 refine bP.ak ?_;have ej:=g.yL;intro n1 w2 h1 n3 w4 h3 n5 w6 h5;have e1:=h1.num;have e3:=h3.num;have e5:=h5.num;have l1:=h1.has.lt;have l5:=h5.has.lt;have M3:Cl w4 n3 0 fun _=>false:=MB.new h3;have l3:=M3.lt;refine bj h5.has rfl rfl fun w7 H7 m7=> ?_;intro n8 w9 h8 n10 hH kP;have e8:=h8.num;have gA:=kP.num;have s7:=m7.size;have M8:Cl w9 n8 0 fun _=>false:=MB.new h8;have l8:=M8.lt;have g1:=kP.has.lt;refine bj kP.has rfl rfl fun di b5 ac=> ?_;intro n13 gW qz;have hP:=qz.num;have hU:=ac.size;have gy:=qz.has.lt;refine bj qz.has rfl rfl fun V eA Y=> ?_;have hM:=Y.size;have z2:=h1.mod.size;have z4:=h3.mod.size;have z6:=h5.mod.size;have z9:=h8.mod.size;have f1:=kP.mod.size;have f0:=qz.mod.size;have H7:bA w7 n5 #[.map (some n3)]:=H7;have b5:bA di n10 #[.map (some n8)]:=b5;have A1:bA V n1 #[bL B]:=((((((h1.has.grow (h3.mod.trans h5.mod)).put m7 (by omega)).grow (h8.mod.trans kP.mod)).put ac (by omega)).grow qz.mod).put Y (by omega))
 have A5:bA V n5 #[.map (some n3)]:=(((H7.grow (h8.mod.trans kP.mod)).put ac (by omega)).grow qz.mod).put Y (by omega);have d':bA V n10 #[.map (some n8)]:=(b5.grow qz.mod).put Y (by omega);have A3:Cl V n3 0 _:=(((((M3.grow h5.mod).Cb m7 (by omega)).grow (h8.mod.trans kP.mod)).Cb ac (by omega)).grow qz.mod).Cb Y (by omega);have A8:Cl V n8 0 _:=((((M8.grow kP.mod).Cb ac (by omega)).grow qz.mod).Cb Y (by omega))
 have G7:ao w w7:=aF.bV ((h1.mod.trans h3.mod).trans h5.mod) m7 (by omega);have en:ao w di:=aF.bV ((G7.trans h8.mod).trans kP.mod) ac (by omega);have b_:ao w V:=aF.bV (en.trans qz.mod) Y (by omega);have cp:bA V n13 #[.func (.func 184) #[] #[.pointer (some ⟨n5,0,none⟩),.pointer (some ⟨n10,0,none⟩),.pointer (some ⟨n1,0,none⟩)]]:=eA;refine ⟨_,_,aQ cp rfl,?_⟩;rw [AE];refine cu rfl ?_;rw [Gf];refine (AA h g hv hN b_ A1 A5 d' A3 A8 ⟨by omega,by omega,by omega,by omega,by omega,by omega,by omega⟩ (by omega) (by omega) (vb.grow b_) hn hl eT (by omega) (by omega) fun es b hb=>by have:=vb.lt es b hb;omega).mono ?_;rintro e ep ⟨rfl,hK,fL,B3,B8,an⟩;refine ⟨rfl,fun n18 fA tj=> ?_⟩;have g6:=tj.num;have gf:=an.size;have gV:=tj.has.lt;have Z: ∀k,k≠n3->k≠n8->¬(k=n3\/k=n8):=fun k a b e=>e.elim a b;have ek:ao w ep:=b_.then an fun b hb e=>by rcases e with e|e<;>omega
 have cT:=ek.trans tj.mod;have B1:=(A1.keep an (Z _ (by omega) (by omega))).grow tj.mod;have B5:=(A5.keep an (Z _ (by omega) (by omega))).grow tj.mod;have eR:=(d'.keep an (Z _ (by omega) (by omega))).grow tj.mod;have e2:=(cp.keep an (Z _ (by omega) (by omega))).grow tj.mod;have du:=h.grow cT;obtain ⟨hj,ec,_⟩:=du.pm id;refine ⟨_,aQ B1 rfl,_,rfl,_,ae du.at rfl,(uz ec (by omega)).mono ?_⟩;rintro e g9 ⟨qb,db,rfl,ob,d8,fb⟩;obtain ⟨zs,a6⟩: ∃zs,zs=x.s.R .tr:=⟨_,rfl⟩
 rw [<- a6] at ob ej;refine ⟨_,_,_,rfl,fQ.ak ?_⟩;intro n24 w25 X;have gp:=X.num;have hJ:=d8.size;have z25:=X.mod.size;have eb:=X.has.lt;have U:=d8.trans X.mod;refine ⟨_,_,rfl,KN,trivial,Dr zs zs.length,fun y=>y.2∈zs,fun k=>k=n24\/aJ qb=some k,?_,?_,?_⟩
 . exact HA (by rw [<- a6] at X;exact X.has) (ob.grow X.mod) (by omega)
 . rintro k (rfl|hk)
   . exact eb
   . exact Nat.lt_of_lt_of_le (ob.lt k hk) z25
 have gT:(Dr zs zs.length).length=zs.length:=D3 _ _;have cn:CN w w25 n1 n3 n5 n8 n10 n13 n18:=⟨by omega,by omega,by omega,by omega,by omega,by omega,by omega,by omega⟩
 have C3:=B3.grow (tj.mod.trans U);have C8:=B8.grow (tj.mod.trans U);refine ⟨fun cM u=> ∃q pt,CV w w25 B n1 n3 n5 n8 n10 n13 n18 x.s q pt cM u/\w25.heap.size<=u.heap.size,⟨Sl.nil,[],⟨cT.trans U,B1.grow U,B5.grow U,eR.grow U,e2.grow U,⟨_,_,by simp;omega,C3⟩,⟨_,_,by simp;omega,C8⟩,tj.has.grow U,rfl,Row.nil _ _ _ _,fun b hb=>by simp [Sl.nil,aJ] at hb,by simp,fun a ha=>by simp at ha,fun a ha=>by simp at ha⟩,Nat.le_refl _⟩,?_,?_,?_⟩
 . rintro cM W W' S ⟨q,pt,ci,ad⟩ m hS;refine ⟨q,pt,ci.keep m cn (fun r hr=> (hS r hr).1) (fun b hb hs=> ?_) (fun a ha b hb hs=> ?_),Nat.le_trans ad m.size⟩
   . have b6:=ci.r.lt b hb;obtain ⟨av,ho⟩: ∃av,W.heap[b]? =some av:=⟨_,Array.getElem?_eq_getElem b6⟩
     have h1:=sb ci.r b hb _ ho;rw [(hS b hs).2 _ ho] at h1;cases h1
   . obtain ⟨d,o⟩:=(ci.pm a ha).o;have b6:=o.lt b hb;obtain ⟨av,ho⟩: ∃av,W.heap[b]? =some av:=⟨_,Array.getElem?_eq_getElem b6⟩
     have h1:=AN o b hb _ ho;rw [(hS b hs).2 _ ho] at h1;cases h1
 . rintro cM i y W hlen ax ⟨q,pt,ci,ad⟩;have ax:y∈zs:=ax;have aa:y∈x.s.R .tr:=by rw [<- a6];exact ax
   have fi:pt.length<=cM.length:=by have:=ci.sub.length_le;simpa using this
   have c1:=h.grow ci.g;have tl: ∀k,(k=n24\/aJ qb=some k)->n18<k/\k<w25.heap.size:=by
    rintro k (rfl|hk)
    . have:=ob.lt;exact ⟨by omega,eb⟩
    . have:=fb k hk;have:=ob.lt k hk;omega
   have kb: ∀ {u:World},aF (fun b=>b=n3\/b=n8\/b=n18\/aJ q.p=some b) W u->KB w25.heap.size (fun k=>k=n24\/aJ qb=some k) W u:=fun {u} m=>by
    refine Mp m (fun r hr=> ?_) (fun k hk e=> ?_) fun k hk=>Nat.lt_of_lt_of_le (tl k hk).2 ad
    . rcases hr with rfl|rfl|rfl|hr
      . exact .inl (by omega)
      . exact .inl (by omega)
      . exact .inl (by omega)
      . exact .inr (sb ci.r r hr)
    . have:=tl k hk;rcases e with rfl|rfl|rfl|e
      . omega
      . omega
      . omega
      . have:=ci.rf k e;omega
   have er:x.s.dY y=x.s.kG y:=xB g aa;have el:x.s.lP y=x.s.bi y:=HW g aa;have fa:=nG g aa;have fq:=g.Kq;have fd:=g.yL;refine ⟨_,aQ ci.h1 rfl,_,rfl,_,ae c1.at rfl,(c1.dY g y).mono ?_⟩;rintro e gS ⟨rfl,c7⟩;have a8:=ci.grow c7 cn;refine ⟨_,rfl,_,aQ a8.h1 rfl,_,rfl,_,ae (h.grow a8.g).at rfl,((h.grow a8.g).lP g y).mono ?_⟩;rintro e dk ⟨rfl,ed⟩;have aT:=a8.grow ed cn;refine ⟨_,rfl,?_⟩;rw [er,el];obtain ⟨k8,f8,b8,N8⟩:=aT.m8;obtain ⟨k3,f3,b3,N3⟩:=aT.m3;have a':=c7.trans ed;refine ⟨fun _ u=>u=dk,?_,?_⟩
   . refine aj (fun _=> ⟨_,aQ aT.kP rfl,dk,_,N8.cA pT (xk (by omega) (by omega)),rfl⟩) (fun _=>rfl)
   rintro uc J _ rfl;have c0:=g.tv y aa;have d4:=c0.bd (by omega);have g7:=c0.bf;have c3:=aT.grow (aF.refl J).drew cn;refine ⟨fun u=>u=J.drew,?_,?_⟩
   . refine ⟨fun u=>u=J.drew,rfl,_,dW (aQ c3.h5 rfl),mf.ak ⟨_,rfl,rfl,?_⟩⟩;rw [vL d4.1 d4.2];have ew:Cl J.drew n3 k3 f3:=N3.grow (aF.refl J).drew;refine ⟨J.drew,_,ew.cA pT (xk (by omega) (by omega)),?_⟩;have skip:KB w25.heap.size (fun k=>k=n24\/aJ qb=some k) W J.drew/\∃q pt,CV w w25 B n1 n3 n5 n8 n10 n13 n18 x.s q pt (cM++ [(i,y)]) J.drew/\w25.heap.size<=J.drew.heap.size:=
      ⟨kb ((a'.trans (aF.refl J).drew).mono fun _ _ e=>e.elim),q,pt,c3.next _,Nat.le_trans ad (a'.trans (aF.refl J).drew).size⟩
     exact aj (fun _=>aj (fun _=>skip) (fun _=>rfl)) (fun _=>rfl)
   rintro g4 _ rfl;intro bb gc ay;have hy:=ay.num;have zW:=(a'.trans (aF.refl J).drew).size;have hA:=ay.mod.size;refine bj ay.has rfl rfl fun b' ap dT=> ?_;have gz:=dT.size;have a_:ao W b':=aF.bV ((a'.trans (aF.refl J).drew).trans ay.mod) dT (by omega);have ag:=ci.grow a_ cn;have ap:bA b' bb #[.int .i64 y,.int .i64 (x.s.bi y),.slice none 0 0]:=ap;refine aj (fun r=> ?_) (fun r=> ?_)
   . refine ⟨_,aQ ag.h1 rfl,_,rfl,_,ae (h.grow ag.g).at rfl,((h.grow ag.g).Gc g _).mono ?_⟩;rintro e f' ⟨qc,dc,rfl,oc,b7,fc⟩;refine ⟨_,_,_,_,rfl,?_⟩;obtain ⟨rs,ar⟩: ∃rs,rs=(if x.s.is (x.s.kG y) then x.s.R (.a (x.s.kG y).toNat) else []):=⟨_,rfl⟩
     rw [<- ar] at oc ⊢;have aw:rs= []\/∃i,x.s.aN i/\rs=x.s.R (.a i):=by
      cases hi:x.s.is (x.s.kG y) with
      |false=>rw [hi] at ar;exact .inl ar
      |true=>
       rw [hi] at ar;obtain ⟨i0,eL⟩:=aH.zD.1 hi;exact .inr ⟨_,eL,ar⟩
     have fu:=b7.size;have gJ:=ap.lt;refine bO (ap.grow b7) rfl rfl fun cg a7 bx=> ?_;have ga:=bx.size;have a7:bA cg bb #[.int .i64 y,.int .i64 (x.s.bi y),.slice qc rs.length dc]:=a7;have dd:ao W cg:=aF.bV (a_.trans b7) bx (by omega);have I:=ci.grow dd cn;refine ⟨_,_,aQ I.qz rfl,_,_,_,ae a7 rfl,?_⟩;rw [AE];refine cu rfl ?_;rw [Gf];obtain ⟨gd,g5,hF,P8⟩:=I.m8;obtain ⟨hL,gs,hw,P3⟩:=I.m3;have bu:da aC cg qc dc rs:=oc.keep bx fun b hb (e:b=bb)=>by have:=fc b hb;omega
     have ey:rs.length<=4096:=by
      rcases aw with e| ⟨i,_,e⟩
      . rw [e];simp
      . rw [e];exact g.al i
     have e6: ∀z∈rs,dB N z:=by
      rcases aw with e| ⟨i,ht,e⟩
      . rw [e];simp
      . intro z hz;rw [e] at hz;rw [<- hv];exact g.cv i ht z ((g.ca i ht z).2 hz)
     have zz:=I.g.size;refine (AA h g hv hN I.g I.h1 I.h5 I.kP P3 P8 ⟨by omega,by omega,by omega,by omega,by omega,by omega,by omega⟩ (by omega) (by omega) bu.vw rfl ey e6 (by omega) (by omega) fun _ b hb=>by have:=fc b hb;omega).mono ?_;rintro e bY ⟨rfl,t3,t8,Q3,Q8,O⟩;refine ⟨rfl,?_⟩;have hh:=O.size;have Q: ∀k,k≠n3->k≠n8->¬(k=n3\/k=n8):=fun k a b e=>e.elim a b;have e4:CV w w25 B n1 n3 n5 n8 n10 n13 n18 x.s q pt (cM++ [(i,y)]) bY:=by
      refine ⟨I.g.then O fun b hb e=>by rcases e with e|e<;>omega,I.h1.keep O (Q _ (by omega) (by omega)),I.h5.keep O (Q _ (by omega) (by omega)),I.kP.keep O (Q _ (by omega) (by omega)),I.qz.keep O (Q _ (by omega) (by omega)),⟨_,_,by simp;omega,Q3⟩,⟨_,_,by simp;omega,Q8⟩,I.tj.keep O (Q _ (by omega) (by omega)),I.qn,I.r.keep O fun b hb e=> ?_,I.rf,(I.next (i,y)).sub,I.pa,fun a ha=> ⟨(I.pm a ha).n,?_,(I.pm a ha).f⟩⟩
      . have:=I.rf b hb;rcases e with e|e<;>omega
      . obtain ⟨d,o⟩:=(I.pm a ha).o;exact ⟨d,o.keep O fun b hb e=>by have:=((I.pm a ha).f b hb).1;rcases e with e|e<;>omega⟩
     have hm:Mi w25 bY q ⟨y,x.s.bi y,⟨qc,rs.length,dc⟩,rs⟩:=by
      refine ⟨rfl,⟨dc,bu.keep O fun b hb e=> ?_⟩,fun b hb=> ?_⟩
      . have:=fc b hb;rcases e with e|e<;>omega
      . have:=fc b hb;refine ⟨by omega,fun e=> ?_⟩;have:=ag.r.lt b e;omega
     have eH:bA bY bb #[.int .i64 y,.int .i64 (x.s.bi y),.slice qc rs.length dc]:=a7.keep O fun e=>by rcases e with e|e<;>omega
     refine yK (i:=i) (a:=⟨y,x.s.bi y,⟨qc,rs.length,dc⟩,rs⟩) e4 I.sub cn (by omega) (by omega) eH ⟨aa,rfl,aw⟩ hm fun u' q' c' mm=> ⟨kb ?_,q',_,c',?_⟩
     . exact ((dd.mono fun _ _ e=>e.elim).then O fun b _ e=>by rcases e with e|e<;>simp [e]).then mm fun b _ e=> .inr (.inr e)
     . have:=mm.size;omega
   . have hm:Mi w25 b' q ⟨y,x.s.bi y,Sl.nil,[]⟩:=⟨rfl,⟨0,Ow.nil _ _ _⟩,fun b hb=>by simp [Sl.nil,aJ] at hb⟩
     refine yK (i:=i) (a:=⟨y,x.s.bi y,Sl.nil,[]⟩) (ag.next (i,y)) ag.sub cn (by omega) (by omega) ap ⟨aa,rfl,.inl rfl⟩ hm fun u' q' c' mm=> ⟨kb ?_,q',_,c',?_⟩
     . exact aF.then (S:=fun b=>b=n3\/b=n8\/b=n18\/aJ q.p=some b) (a_.mono fun _ _ e=>e.elim) mm fun b _ e=> .inr (.inr e)
     . have:=mm.size;have:=a_.size;omega
 . intro d hE hd hD hI;obtain ⟨q,pt,ci,ad⟩:=hI;have bv:=ci.sub;rw [Lt,a6] at bv;exact Fe (K:=fun v w'=> ∃ (tp:Option Addr) (tc:Nat) (rp:Option Addr) (rc:Nat) (tr:List As) (rl:List Int),Ending.returned v= .returned (.tuple #[.slice tp tr.length tc,.slice rp rl.length rc])/\qx x.s tr rl/\Le.TV w' tp tr/\Vw (Value.int .i64) w' rp rl/\ao w w'/\tr.length<=tc) g cn ci ad (by omega) bv hD hd fun u' tp tc rp rc tr rl cs tv vr gu hc=> ⟨tp,tc,rp,rc,tr,rl,rfl,cs,tv,vr,gu,hc⟩
end
end Go.Proofs.YtenmibfmhccmiaaGreat.W
