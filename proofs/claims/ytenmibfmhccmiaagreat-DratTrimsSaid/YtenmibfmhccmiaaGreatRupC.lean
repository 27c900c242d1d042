/- Layer 7: variables are numbered; a clause is added. -/
import Derived.Test.YtenmibfmhccmiaaGreatRupB
import Derived.Test.YtenmibfmhccmiaaGreatFwMore
import Derived.Test.YtenmibfmhccmiaaGreatLitB
set_option linter.unusedVariables false
set_option linter.unusedSimpArgs false
namespace Go.Proofs.YtenmibfmhccmiaaGreat.W
open Go Go.Fw Go.RowKit Go.SoP Go.LiP
variable {W w w' w0 w2 w3:World} {nb b ib ab:Nat} {vars:Int} {id id':List (Int × Int)} {H H' H2:Pt→Sl} {s t u s':PSt} {lp:Option Addr} {lc:Nat} {ls:List Int} {sm:List (Int × Sl)} {cl:Int→List Int} {cp:Option Addr} {n cc:Nat} {c:List Int}
structure RM (W w:World) (nb b ib ab:Nat) (vars:Int) (id:List (Int × Int)) (H:Pt→Sl) (s:PSt) (lp:Option Addr) (lc:Nat) (ls:List Int) (sm:List (Int × Sl)) (cl:Int→List Int):Prop where
 st:Has w nb #[.int .i64 vars,.map (some ib),ptrV b,.slice lp ls.length lc,.map (some ab)]
 pm:PM w b H s
 im:MV (Value.int .i64) w ib id
 am:MV Sl.v w ab sm
 lo:OwI ty_int w lp lc ls
 rw: ∀x∈sm,x.2.n=(cl x.1).length∧x.2.n≤maxLen∧Vw (Value.int .i64) w x.2.p (cl x.1)
 d1: ∀x k,own b H x=some k→k≠nb∧k≠ib∧k≠ab∧blk lp≠some k
 d2:nb≠ib∧nb≠ab∧ib≠ab∧blk lp≠some nb∧blk lp≠some ib∧blk lp≠some ab
 d3: ∀x∈sm,0<x.2.n→∀k,blk x.2.p=some k→k≠nb∧k≠ib∧k≠ab∧blk lp≠some k∧∀y,own b H y≠some k
 wg:Grow W w
 wy:W.heap.size≤nb∧W.heap.size≤ib∧W.heap.size≤ab∧(∀k,blk lp=some k→W.heap.size≤k)∧∀x k,own b H x=some k→W.heap.size≤k
def FP (nb ib ab b:Nat) (H:Pt→Sl) (lp:Option Addr) (k:Nat):Prop:=k=nb∨k=ib∨k=ab∨blk lp=some k∨∃x,own b H x=some k
structure RL (id:List (Int × Int)) (s:PSt) (ls:List Int) (sm:List (Int × Sl)) (cl:Int→List Int):Prop where
 g:Good s
 be:s.R .be= []
 idn:Idn id
 sv:s.vars=id.length
 nd:ls.Nodup
 th: ∀i:Nat,s.There i↔(i:Int)∈ls
 l0: ∀i∈ls,0≤i
 lk: ∀i∈ls,(al sm i).isSome
 cd: ∀i:Nat,s.There i→s.R (.a i)=(cl i).map (cod id)
 lt: ∀i∈ls,∀x∈cl i,litB x=true∧Nt id x
 ln: ∀i∈ls,(cl i).length≤4096
 ask: ∀x∈sm,0≤x.1∧x.1<s.nc
 ll:ls.length≤s.nc
theorem RB.of (m:RM W w nb b ib ab vars id H s lp lc ls sm cl) (l:RL id s ls sm cl):RB W w nb b ib ab vars id H s lp lc ls sm cl:=
 ⟨m.st,m.pm,l.g,m.im,m.am,m.lo,m.rw,m.d1,m.d2,m.d3,m.wg,m.wy,l.be,l.idn,l.sv,l.nd,l.th,l.l0,l.lk,l.cd,l.lt,l.ln,l.ask,l.ll⟩
theorem RB.rm (h:RB W w nb b ib ab vars id H s lp lc ls sm cl):RM W w nb b ib ab vars id H s lp lc ls sm cl:=
 ⟨h.st,h.pm,h.im,h.am,h.lo,h.rw,h.d1,h.d2,h.d3,h.wg,h.wy⟩
theorem RB.rl (h:RB W w nb b ib ab vars id H s lp lc ls sm cl):RL id s ls sm cl:=
 ⟨h.g,h.be,h.idn,h.sv,h.nd,h.th,h.l0,h.lk,h.cd,h.lt,h.ln,h.ask,h.ll⟩
theorem RM.prop (h:RM W w nb b ib ab vars id H s lp lc ls sm cl) (P:Pw w w' b H H' s'):RM W w' nb b ib ab vars id H' s' lp lc ls sm cl:=by
 have no: ∀ {k:Nat},(∀x,own b H x≠some k)→¬∃x,own b H x=some k:=fun h ⟨x,e⟩=>h x e
 have n1: ∀x,own b H x≠some nb:=fun x e=> (h.d1 x _ e).1 rfl
 have n2: ∀x,own b H x≠some ib:=fun x e=> (h.d1 x _ e).2.1 rfl
 have n3: ∀x,own b H x≠some ab:=fun x e=> (h.d1 x _ e).2.2.1 rfl
 refine ⟨h.st.keep P.mod (no n1),P.pm,h.im.keep P.mod (no n2),h.am.keep P.mod (no n3),h.lo.keep P.mod fun k hk ⟨x,e⟩=> (h.d1 x k e).2.2.2 hk,fun x hx=> ?_,fun x k hk=> ?_,h.d2,fun x hx h0 k hk=> ?_,h.wg.then P.mod fun k hk ⟨x,e⟩=> ?_,⟨h.wy.1,h.wy.2.1,h.wy.2.2.1,h.wy.2.2.2.1,fun x k hk=> ?_⟩⟩
 · obtain ⟨r1,r2,r3⟩:=h.rw x hx
   refine ⟨r1,r2,r3.keepN P.mod fun hne k hk ⟨y,e⟩=> (h.d3 x hx (by rw [r1];exact List.length_pos_iff.2 hne) k hk).2.2.2.2 y e⟩
 · rcases P.ft x k hk with ⟨y,e⟩|e
   · exact h.d1 y k e
   · have l1:=h.st.lt;have l2:=h.im.lt;have l3:=h.am.lt
     exact ⟨by omega,by omega,by omega,fun e2=>by have:=h.lo.lt k e2;omega⟩
 · obtain ⟨a1,a2,a3,a4,a5⟩:=h.d3 x hx h0 k hk
   refine ⟨a1,a2,a3,a4,fun y e=> ?_⟩
   rcases P.ft y k e with ⟨z,e2⟩|e2
   · exact a5 z e2
   · obtain ⟨r1,_,r3⟩:=h.rw x hx
     have:=r3.lt (fun e3=>by rw [e3] at r1;simp at r1;omega) k hk
     omega
 · have:=h.wy.2.2.2.2 x k e;omega
 · rcases P.ft x k hk with ⟨y,e⟩|e
   · exact h.wy.2.2.2.2 y k e
   · have:=h.wg.size;omega
structure Nted (id id':List (Int × Int)) (c:List Int):Prop where
 idn:Idn id'
 kp: ∀x,Nt id x→Nt id' x
 all: ∀x∈c,Nt id' x
 len:id'.length≤id.length+c.length
theorem note_ok {p0 p2 p3 p4:Value} (hst:Has w nb #[p0,.map (some ib),p2,p3,p4]) (him:MV (Value.int .i64) w ib id) (hid:Idn id) (hnb:nb≠ib) (hc:Vw (Value.int .i64) w cp c) (hcb:c≠[]→blk cp≠some ib) (hn:n=c.length) (hl: ∀x∈c,litB x=true) (hlen:id.length+c.length≤1000000):
 Calls Tryz.prog rup_base_note.id #[ptrV nb,.slice cp n cc] w fun e w'=>e= .returned (.tuple #[])∧∃id',Mod (·=ib) w w'∧MV (Value.int .i64) w' ib id'∧Nted id id' c:=by
 subst hn
 refine rup_base_note.calls ?_
 refine ⟨fun I u z=> ∃i:Nat,I=i∧i≤c.length∧z=c.length - i∧∃id',Mod (·=ib) w u∧MV (Value.int .i64) u ib id'∧Nted id id' (c.take i),
  ⟨_,0,rfl,Nat.zero_le _,rfl,id,Mod.refl w,him,hid,fun _ h=>h,fun x hx=>by simp at hx,by simp⟩,?_⟩
 rintro I u z _ ⟨i,rfl,hi,rfl,id',gu,mu,nt⟩
 refine cnd_i (fun r=> ?_) (fun r=> ?_)
 · have r:i<c.length:=by simpa using r
   have tk: ∀x,x∈c.take (i+1)↔x∈c.take i∨x=c.getD i 0:=fun x=>mem_take_succ' r
   refine (hc.keepN gu fun hne k hk e=>hcb hne (by rw [← e];exact hk)).ix 0 (by omega) rfl (by omega) fun a e=> ⟨_,e,_,rfl,_,cell_add (hst.keep gu hnb) rfl,?_⟩
   rw [Int.toNat_natCast]
   have hlx:=hl _ (getD_mem' r)
   have hb:=litB_b2 hlx
   have hz:=litB_nz hlx
   generalize c.getD i 0=X at*
   have ea:imax X (IntKind.i64.wrap (0 - X))=amt X:=by
    rw [nw X hb];unfold imax amt;split<;>split<;>omega
   rw [ea]
   have ha:1≤amt X∧amt X≤1048576:=by unfold amt;split<;>omega
   have hlk:=mu.look map_ii (amt X) (zero_int u)
   have hval:((al id' (amt X)).map (Value.int .i64)).getD (.int .i64 0)= .int .i64 ((al id' (amt X)).getD 0):=by cases al id' (amt X)<;>rfl
   rw [hval] at hlk
   refine ⟨_,_,hlk,cnd_i (fun r2=> ?_) (fun r2=> ?_)⟩
   · have r2:(al id' (amt X)).getD 0=0:=by simpa using r2
     have hno:al id' (amt X)=none:=by
      cases hv:al id' (amt X) with
      |none=>rfl
      |some v=>
       obtain ⟨j,_,_,rfl⟩:=nt.idn.get hv
       rw [hv] at r2
       simp only [Option.getD_some] at r2
       omega
     have hd:=mu.drew
     have hsd:=(hst.keep gu hnb).drew
     have hl2:=nt.len
     rw [List.length_take] at hl2
     refine ⟨_,rfl,_,cell_add hsd rfl,_,rfl,_,cell_add hsd rfl,_,hd.len map_ii _,?_⟩
     rw [wN (i:=id'.length+1) (by omega) (by omega)]
     obtain ⟨w17,hr,mv,mm,_⟩:=hd.put map_ii (amt X) ((id'.length+1:Nat):Int)
     have hai:ai id' (amt X) ((id'.length+1:Nat):Int)=id'++ [(amt X,((id'.length+1:Nat):Int))]:=by unfold ai;rw [hno];rfl
     have hal: ∀y,al (ai id' (amt X) ((id'.length+1:Nat):Int)) y=if y=amt X then some ((id'.length+1:Nat):Int) else al id' y:=fun y=>al_ai _ _ _ _
     refine ⟨w17,hr,_,by omega,i+1,wN (by omega) (by omega),r,rfl,_,(gu.grow (Mod.refl u).drew).trans mm,mv,⟨ai_nodup nt.idn.nd _ _,fun j hj=> ?_,fun x hx=> ?_⟩,fun x hx=> ⟨(nt.kp x hx).1,?_⟩,fun x hx=> ?_,?_⟩
     · rw [hai] at hj ⊢
       rw [List.length_append,List.length_singleton] at hj
       by_cases e:j<id'.length
       · have:=nt.idn.idn j e
         simp only [List.getD,List.getElem?_append_left e] at this ⊢
         exact this
       · have:j=id'.length:=by omega
         subst this
         simp [List.getD]
     · rw [hai] at hx
       rcases List.mem_append.1 hx with hx|hx
       · exact nt.idn.idk x hx
       · rw [List.mem_singleton] at hx;rw [hx];exact ha
     · rw [hal];split
       · rfl
       · exact (nt.kp x hx).2
     · rcases (tk x).1 hx with hx|rfl
       · refine ⟨(nt.all x hx).1,?_⟩
         rw [hal];split
         · rfl
         · exact (nt.all x hx).2
       · exact ⟨hz,by rw [hal,if_pos rfl];rfl⟩
     · rw [hai,List.length_append,List.length_singleton,List.length_take];omega
   · have r2:(al id' (amt X)).getD 0≠0:=by simpa using r2
     have hso:(al id' (amt X)).isSome:=by
      cases hv:al id' (amt X) with
      |none=>rw [hv] at r2;simp at r2
      |some v=>rfl
     have hl2:=nt.len
     rw [List.length_take] at hl2
     refine ⟨_,by omega,i+1,wN (by omega) (by omega),r,rfl,id',gu,mu,nt.idn,nt.kp,fun x hx=> ?_,by rw [List.length_take];omega⟩
     rcases (tk x).1 hx with hx|rfl
     · exact nt.all x hx
     · exact ⟨hz,hso⟩
 · have r:i=c.length:=by simp at r;omega
   subst r
   rw [List.take_length] at nt
   exact ⟨rfl,id',gu,mu,nt⟩
def vmx (v:Int) (c:List Int):Int:=c.foldl (fun a x=>imax (imax a x) (-x)) v
theorem vmx_succ {v:Int} {j:Nat} (r:j<c.length):vmx v (c.take (j+1))=imax (imax (vmx v (c.take j)) (c.getD j 0)) (-(c.getD j 0)):=by
 unfold vmx
 rw [List.take_add_one,List.foldl_append]
 simp [List.getD,r]
end Go.Proofs.YtenmibfmhccmiaaGreat.W
namespace Go.Proofs.YtenmibfmhccmiaaGreat.W
open Go Go.Fw Go.RowKit Go.SoP Go.LiP
variable {W w w' w0 w2 w3:World} {nb b ib ab:Nat} {vars:Int} {id id':List (Int × Int)} {H H' H2:Pt→Sl} {s t u s':PSt} {lp:Option Addr} {lc:Nat} {ls:List Int} {sm:List (Int × Sl)} {cl:Int→List Int} {cp:Option Addr} {n cc:Nat} {c:List Int}
theorem add_okC (hv: ∀x∈c,InV n (cod id x)) (hm:n≤1048576) (hlen:c.length≤4096):okC n (c.map (cod id))=true:=by
 unfold okC
 rw [Bool.and_eq_true,List.all_eq_true]
 constructor
 · unfold clB
   rw [Bool.and_eq_true,List.all_eq_true]
   first
   |refine ⟨by simpa using hlen,fun y hy=> ?_⟩
    obtain ⟨x,hx,rfl⟩:=List.mem_map.1 hy
    have:=hv x hx
    have:=this.bd hm
    have h0:=this
    unfold litB
    simp only [decide_eq_true_eq]
    have hz:=(hv x hx).1
    exact ⟨hz,this.1,this.2⟩
   |refine ⟨fun y hy=> ?_,by simpa using hlen⟩
    obtain ⟨x,hx,rfl⟩:=List.mem_map.1 hy
    have:=(hv x hx).bd hm
    unfold litB
    simp only [decide_eq_true_eq]
    have hz:=(hv x hx).1
    exact ⟨hz,this.1,this.2⟩
 · intro y hy
   obtain ⟨x,hx,rfl⟩:=List.mem_map.1 hy
   exact (isB_iff hm).2 (hv x hx)
theorem RL.add (h:RL id s ls sm cl) (g:Good s') (A:Added s (c.map (cod id)) s') (hl: ∀x∈c,litB x=true∧Nt id x) (hlen:c.length≤4096) (sl:Sl):
 RL id s' (ls++ [(s.nc:Int)]) (ai sm (s.nc:Int) sl) (fun j=>if j=(s.nc:Int) then c else cl j)∧(ls++ [(s.nc:Int)]).map (fun j=>if j=(s.nc:Int) then c else cl j)=ls.map cl++ [c]∧ai sm (s.nc:Int) sl=sm++ [((s.nc:Int),sl)]:=by
 have hlt: ∀j∈ls,j< (s.nc:Int):=fun j hj=>by
  have h0:=h.l0 j hj
  have:=((h.th j.toNat).2 (by rw [Int.toNat_of_nonneg h0];exact hj)).1
  omega
 have hno:al sm (s.nc:Int)=none:=al_none.2 fun x hx=>by have:=(h.ask x hx).2;omega
 have hai:ai sm (s.nc:Int) sl=sm++ [((s.nc:Int),sl)]:=by unfold ai;rw [hno];rfl
 have hmem: ∀i,i∈ls++ [(s.nc:Int)]↔i∈ls∨i=(s.nc:Int):=fun i=>by simp
 have hcl: ∀i∈ls,(if i=(s.nc:Int) then c else cl i)=cl i:=fun i hi=>if_neg (by have:=hlt i hi;omega)
 have hth: ∀i:Nat,s'.There i↔s.There i∨i=s.nc:=fun i=>by
  unfold PSt.There
  rw [A.n,A.g]
  by_cases e:i=s.nc
  · subst e;simp
  · rw [if_neg e]
    exact ⟨fun ⟨h1,h2⟩=> .inl ⟨by omega,h2⟩,fun h=>h.elim (fun ⟨h1,h2⟩=> ⟨by omega,h2⟩) fun h=>absurd h e⟩
 refine ⟨⟨g,A.be.trans h.be,h.idn,A.v.trans h.sv,?_,fun i=> ?_,fun i hi=> ?_,fun i hi=> ?_,fun i hi=> ?_,fun i hi=> ?_,fun i hi=> ?_,fun x hx=> ?_,?_⟩,?_,hai⟩
 · rw [List.nodup_append]
   refine ⟨h.nd,by simp,fun x hx y hy e=> ?_⟩
   rw [List.mem_singleton] at hy
   have:=hlt x hx
   omega
 · rw [hth,hmem,h.th]
   refine or_congr Iff.rfl (by omega)
 · rcases (hmem i).1 hi with hi|rfl
   · exact h.l0 i hi
   · omega
 · rw [al_ai]
   split
   · rfl
   · rename_i e
     exact h.lk i (((hmem i).1 hi).resolve_right e)
 · rw [A.a]
   by_cases e:i=s.nc
   · subst e;simp
   · rw [if_neg e,if_neg (by omega)]
     exact h.cd i (((hth i).1 hi).resolve_right e)
 · rcases (hmem i).1 hi with hi|rfl
   · rw [hcl i hi];exact h.lt i hi
   · rw [if_pos rfl];exact hl
 · rcases (hmem i).1 hi with hi|rfl
   · rw [hcl i hi];exact h.ln i hi
   · rw [if_pos rfl];exact hlen
 · rw [hai] at hx
   rw [A.n]
   rcases List.mem_append.1 hx with hx|hx
   · have:=h.ask x hx;omega
   · rw [List.mem_singleton] at hx;rw [hx];show 0≤(s.nc:Int)∧(s.nc:Int)<_;omega
 · rw [List.length_append,List.length_singleton,A.n];have:=h.ll;omega
 · rw [List.map_append,List.map_singleton,if_pos rfl]
   refine congrArg (·++ [c]) (List.map_congr_left hcl)
theorem add_ok7 (h:RB W w nb b ib ab vars id H s lp lc ls sm cl) (hc:Vw (Value.int .i64) W cp c) (hn:n=c.length) (hlen:c.length≤4096) (hl: ∀x∈c,litB x=true∧Nt id x) (hnc:s.nc<262144):
 Calls Tryz.prog rup_base_add.id #[ptrV nb,.slice cp n cc] w fun e w'=>e= .returned (.tuple #[])∧∃H' s' lp' lc' ls' sm' cl',RB W w' nb b ib ab (vmx vars c) id H' s' lp' lc' ls' sm' cl'∧ls'.map cl'=ls.map cl++ [c]∧s'.nc=s.nc+1∧s'.R .tr=s.R .tr∧Mod (FP nb ib ab b H lp) w w'∧(∀k,FP nb ib ab b H' lp' k→FP nb ib ab b H lp k∨w.heap.size≤k):=by
 subst hn
 have C:=h.idn.cod
 have sv:=h.sv
 have hinv: ∀x∈c,InV s.vars (cod id x):=fun x hx=>by rw [sv];exact h.idn.inv (hl x hx).2
 have hd:=h.drew
 refine rup_base_add.calls ⟨Grow w.drew,Mod.refl _,_,rfl,_,fun u g=>cell_add (hd.st.grow g) rfl,(code_ok hd (hc.grow hd.wg) rfl (by omega) fun x hx=> (hl x hx).1).mono ?_⟩
 rintro e w4 ⟨q,d,rfl,o4,g4,f4⟩
 have h4:=hd.grow g4
 refine ⟨_,_,_,rfl,g4,(add_ok h4.pm h4.g o4.vw (by simp) (by unfold maxLen;omega)).mono ?_⟩
 rintro e w6 ⟨r1,r2,rfl,s',H2,P,g',hr⟩
 have hok:=add_okC hinv h.g.vmax hlen
 have ⟨e1,e2,A⟩:r1=s.nc∧r2=0∧Added s (c.map (cod id)) s':=by
  rcases hr with ⟨_,_,hb,_⟩| ⟨_,_,_,hb,_⟩| ⟨a,a2,_,_,a3⟩
  · rw [hok] at hb;cases hb
  · omega
  · exact ⟨a,a2,a3⟩
 subst e1 e2
 have m6:=h4.rm.prop P
 have ll:=h.ll
 refine ⟨_,_,rfl,cnd_f rfl ⟨_,rfl,_,_,_,cell_add m6.st rfl,?_⟩⟩
 intro n47 w48 h48
 have z6:=m6.wg.size
 have e48:=h48.num
 have s48:=h48.mod.size
 have i6:=m6.st.lt;have i7:=m6.im.lt;have i8:=m6.am.lt
 refine Ow.app1 sl_int (m6.lo.grow h48.mod) ((s.nc:Int)) h48.has rfl rfl oneInt (by omega) fun w49 p' c' o49 M49 hp' hs49=> ?_
 have hp6: ∀k,blk p'=some k→blk lp=some k∨w6.heap.size≤k:=fun k hk=>by
  rcases hp' with rfl|rfl
  · exact .inl hk
  · right;have:=blk_some hk;omega
 have st49:=(m6.st.grow h48.mod).keep M49 fun e=>m6.d2.2.2.2.1 e
 refine ⟨_,rfl,store_f st49 rfl rfl fun w52 st52 M52=> ?_⟩
 have z52:=M52.size
 have st52d:=st52.drew
 have g52:Grow W w52:=((m6.wg.trans h48.mod).then M49 fun k hk e=>by have:=m6.wy.2.2.2.1 k e;omega).then M52 fun k hk e=>by have:=m6.wy.1;omega
 refine ⟨Grow w52.drew,Mod.refl _,_,rfl,_,fun u g=>cell_add (st52d.grow g) rfl,(clone_ok (hc.grow g52.drew) rfl (by omega)).mono ?_⟩
 rintro e w56 ⟨q2,d2,rfl,o56,g56,f56⟩
 have f56: ∀k,blk q2=some k→w52.heap.size≤k:=f56
 have am49:MV Sl.v w49 ab sm:=(m6.am.grow h48.mod).keep M49 fun e=>m6.d2.2.2.2.2.2 e
 have am56:MV Sl.v w56 ab sm:=((am49.keep M52 fun e=>m6.d2.2.1 e.symm).drew).grow g56
 obtain ⟨w58,hr58,am58,M58,_⟩:=am56.put map_is (s.nc:Int) (⟨q2,c.length,d2⟩:Sl)
 refine ⟨_,_,_,rfl,g56,w58,hr58,?_⟩
 have g56':Grow w52 w56:=((Mod.refl w52).drew:Grow w52 w52.drew).trans g56
 have G58:Grow W w58:=(g52.trans g56').then M58 fun k hk e=>by have:=m6.wy.2.2.1;omega
 have st58:=(st52.grow g56').keep M58 fun e=>m6.d2.2.1 e
 refine ⟨fun I u z=> ∃j:Nat,I=j∧j≤c.length∧z=c.length - j∧Mod (·=nb) w58 u∧Has u nb #[.int .i64 (vmx vars (c.take j)),.map (some ib),ptrV b,.slice p' (ls.length+1) c',.map (some ab)],⟨_,0,rfl,Nat.zero_le _,rfl,Mod.refl _,st58⟩,?_⟩
 rintro I u z _ ⟨j,rfl,hj,rfl,gu,su⟩
 have Gu:Grow W u:=G58.then gu fun k hk e=>by have:=m6.wy.1;omega
 refine cnd_i (fun r=> ?_) (fun r=> ?_)
 · have r:j<c.length:=by simpa using r
   refine (hc.grow Gu).ix 0 (by omega) rfl (by omega) fun a e=> ⟨_,e,_,rfl,_,cell_add su rfl,_,rfl,?_⟩
   rw [Int.toNat_natCast,nw _ (litB_b2 (hl _ (getD_mem' r)).1),← vmx_succ r]
   refine store_f su rfl rfl fun w44 st44 M44=> ⟨_,by omega,j+1,wN (by omega) (by omega),r,rfl,gu.trans M44,st44⟩
 · have r:j=c.length:=by simp at r;omega
   subst r
   rw [List.take_length] at su
   obtain ⟨L,hmap,hai⟩:=h.rl.add g' A hl hlen ⟨q2,c.length,d2⟩
   have MM:Mod (fun k=>blk lp=some k∨k=nb∨k=ab) w6 u:=by
    have a1:Mod (fun k=>blk lp=some k∨k=nb∨k=ab) w6 w49:=(h48.mod.mono fun _ _ e=>e.elim).then M49 fun k _ e=> .inl e
    have a2:=a1.then M52 fun k _ e=> .inr (.inl e)
    have a3:=(a2.then g56' fun k _ e=>e.elim).then M58 fun k _ e=> .inr (.inr e)
    exact a3.then gu fun k _ e=> .inr (.inl e)
   have z4:=g4.size
   have z46:=P.mod.size
   have zd:w.drew.heap.size=w.heap.size:=rfl
   refine ⟨rfl,H2,s',p',c',_,_,_,RB.of ?_ L,hmap,A.n,A.tr,(((((Mod.refl w).drew.grow g4:Grow w w4)).mono fun _ _ e=>e.elim).then P.mod fun k _ e=> .inr (.inr (.inr (.inr e)))).then MM fun k _ e=> ?_,fun k hk=> ?_⟩
   rotate_left
   · rcases e with e|e|e
     · exact .inr (.inr (.inr (.inl e)))
     · exact .inl e
     · exact .inr (.inr (.inl e))
   · rcases hk with e|e|e|e| ⟨x,e⟩
     · exact .inl (.inl e)
     · exact .inl (.inr (.inl e))
     · exact .inl (.inr (.inr (.inl e)))
     · rcases hp6 k e with e|e
       · exact .inl (.inr (.inr (.inr (.inl e))))
       · right;omega
     · rcases P.ft x k e with ⟨y,e⟩|e
       · exact .inl (.inr (.inr (.inr (.inr ⟨y,e⟩))))
       · right;omega
   have G6:=m6.wg.size
   have hz: ∀k,k<w6.heap.size→blk lp≠some k→blk p'≠some k:=fun k hk hn e=>by
    rcases hp6 k e with e|e
    · exact hn e
    · omega
   have o49lt:=o49.lt
   refine ⟨by simpa using su,m6.pm.keep MM fun x k hk e=> ?_,m6.im.keep MM fun e=> ?_,am58.keep gu fun e=>m6.d2.2.1 e.symm,?_,fun x hx=> ?_,fun x k hk=> ?_,?_,fun x hx h0 k hk=> ?_,Gu,?_⟩
   · obtain ⟨a1,a2,a3,a4⟩:=m6.d1 x k hk
     rcases e with e|e|e
     · exact a4 e
     · exact a1 e
     · exact a3 e
   · obtain ⟨a1,a2,a3,a4,a5,a6⟩:=m6.d2
     rcases e with e|e|e
     · exact a5 e
     · exact a1 e.symm
     · exact a3 e
   · have nn: ∀k,blk p'=some k→k≠nb∧k≠ab:=fun k hk=> ⟨fun e=>hz nb i6 m6.d2.2.2.2.1 (e▸hk),fun e=>hz ab i8 m6.d2.2.2.2.2.2 (e▸hk)⟩
     exact (((o49.keep M52 fun k hk e=> (nn k hk).1 e).grow g56').keep M58 fun k hk e=> (nn k hk).2 e).keep gu fun k hk e=> (nn k hk).1 e
   · rw [hai] at hx
     rcases List.mem_append.1 hx with hx|hx
     · obtain ⟨r1,r2,r3⟩:=m6.rw x hx
       have hne:x.1≠(s.nc:Int):=by have:=(h.ask x hx).2;omega
       rw [if_neg hne]
       refine ⟨r1,r2,r3.keepN MM fun hne k hk e=> ?_⟩
       obtain ⟨a1,a2,a3,a4,a5⟩:=m6.d3 x hx (by rw [r1];exact List.length_pos_iff.2 hne) k hk
       rcases e with e|e|e
       · exact a4 e
       · exact a1 e
       · exact a3 e
     · rw [List.mem_singleton] at hx
       subst hx
       rw [if_pos rfl]
       refine ⟨rfl,by show c.length≤maxLen;unfold maxLen;omega,(o56.vw.keep M58 fun k hk e=> ?_).keep gu fun k hk e=> ?_⟩
       · have:=f56 k hk;omega
       · have:=f56 k hk;omega
   · obtain ⟨a1,a2,a3,a4⟩:=m6.d1 x k hk
     exact ⟨a1,a2,a3,hz k (m6.pm.lt x k hk) a4⟩
   · obtain ⟨a1,a2,a3,a4,a5,a6⟩:=m6.d2
     exact ⟨a1,a2,a3,hz _ i6 a4,hz _ i7 a5,hz _ i8 a6⟩
   · rw [hai] at hx
     rcases List.mem_append.1 hx with hx|hx
     · obtain ⟨r1,r2,r3⟩:=m6.rw x hx
       obtain ⟨a1,a2,a3,a4,a5⟩:=m6.d3 x hx h0 k hk
       exact ⟨a1,a2,a3,hz k (r3.lt (fun e3=>by rw [e3] at r1;simp at r1;omega) k hk) a4,a5⟩
     · rw [List.mem_singleton] at hx
       subst hx
       have fk:=f56 k hk
       refine ⟨by omega,by omega,by omega,fun e=> ?_,fun y e=> ?_⟩
       · have:=o49lt k e;omega
       · have:=m6.pm.lt y k e;omega
   · obtain ⟨a1,a2,a3,a4,a5⟩:=m6.wy
     refine ⟨a1,a2,a3,fun k hk=> ?_,a5⟩
     rcases hp6 k hk with e|e
     · exact a4 k e
     · omega
end Go.Proofs.YtenmibfmhccmiaaGreat.W
namespace Go.Fw
open Go Go.RowKit
variable {P:Program} {α:Type} {f:α→Value} {T:TypeId} {w w':World} {p q:Option Addr} {c:Nat} {l:List α}
theorem Ow.appRoom {t ty e bytes:Nat} (hs:slOk P t e bytes=true) (h:Ow f e w p c l) {k m d:Nat} {news:List α} (h2:Vw f w q news) (hm:m=news.length) (hfit:k+m≤l.length) (ho: ∀x,(f x).oneCell'=true) {K:World→Prop}
 (hk: ∀w',Ow f e w' p c (l.take k++news++l.drop (k+m))→Mod (fun b=>blk p=some b) w w'→K w'):
 ∃w',(Builtin.append_ #[t,t] ty #[.slice p k c,.slice q m d]).run P w= .ok (.slice p (k+m) c) w'∧K w':=by
 obtain ⟨ht,i,z,hi,hz,h1,hb,h3⟩:=slOk_spec hs
 subst hm
 rcases Nat.eq_zero_or_pos news.length with h0|h0
 · have hn:news= []:=List.eq_nil_of_length_eq_zero h0
   subst hn
   have hr:=(h.take (k:=k) (by omega)).app0 hs (q:=q) (k:=d) (n:=k) (ty:=ty) (by rw [List.length_take];omega)
   exact ⟨w,hr,hk w (by simpa using h) (Mod.refl w)⟩
 · obtain ⟨a,rfl,_⟩:=h2 0 h0
   rcases h.un with ⟨rfl,rfl,rfl⟩| ⟨g,cur,rfl,hg,g1,g2,g3,g4⟩
   · rw [List.length_nil] at hfit;omega
   · have hr:=run_append_room (P:=P) w t ty e i ht hi g k c cur hg a news.length d (news.map f) (by simp [h1]) (fun j v hj=>by
      have hj':j<news.length:=by have:=(List.getElem?_eq_some_iff.1 hj).1;simpa using this
      obtain ⟨a',ha,hc⟩:=h2 j hj'
      simp only [Option.some.injEq] at ha
      subst ha
      rw [hc]
      simpa [hj'] using hj) (fun u hu=>by obtain ⟨x,_,rfl⟩:=List.mem_map.1 hu;exact ho x) (by omega) (by simp [h1];omega)
     rw [h1,Nat.mul_one] at hr
     refine ⟨_,hr,hk _ (Ow.of_some (setRow_heap w g cur _ e _ hg) (by simp;omega) g2 (by simp;omega) ?_) ⟨rfl,rfl,rfl,by simp,fun k _ hk=>setRow_other w g k _ fun he=>hk (by simp [blk,he])⟩⟩
     have hl:(l.take k++news++l.drop (k+news.length)).length=l.length:=by simp;omega
     rw [hl,List.map_append,List.map_append,List.map_take,List.map_drop,← g4]
     have hc:cur.toList.length=c:=by simpa using g3
     apply List.ext_getElem?
     intro j
     simp only [List.length_map,List.getElem?_take,List.getElem?_append,List.length_append,List.length_take,List.getElem?_drop,hc]
     repeat' split
     all_goals first
      |rfl
      |omega
      | (congr 1;omega)
end Go.Fw
namespace Go.Proofs.YtenmibfmhccmiaaGreat.W
open Go Go.Fw Go.RowKit Go.SoP Go.LiP
variable {w w':World} {p q:Option Addr} {n c:Nat} {l:List Int}
theorem sdel_ok (o:OwI ty_int w p c l) (hn:n=l.length) (hm:n≤1000000) {i:Nat} (hi:i<n):
 Calls Tryz.prog slices_Delete_int_int.id #[.slice p n c,.int .i64 (i:Int),.int .i64 ((i+1:Nat):Int)] w fun e w'=>e= .returned (.slice p (l.eraseIdx i).length c)∧OwI ty_int w' p c (l.eraseIdx i)∧Mod (Bk p) w w':=by
 subst hn
 have hcl:l.length≤c:=by
  rcases o.un with ⟨_,_,rfl⟩| ⟨_,_,_,_,h,_⟩
  · simp at hi
  · exact h
 refine slices_Delete_int_int.calls ?_
 refine slK_i i (i+1) l.length rfl rfl rfl (by omega) (by omega) (by omega) ?_
 refine cnd_f (by simp;omega) ?_
 refine slK_i 0 i c rfl rfl rfl (by omega) (by omega) (by omega) ?_
 refine slK_i (i+1) l.length c rfl rfl rfl (by omega) (by omega) (by omega) ?_
 rw [if_neg (by omega),ep0,Nat.sub_zero,Nat.sub_zero]
 have hv:Vw (Value.int .i64) w.drew (if c=i+1 then p else p.map (·.add ((i+1)*1))) (l.drop (i+1)):=by
  by_cases e:c=i+1
  · rw [List.drop_eq_nil_of_le (by omega)];exact Vw.nil
  · rw [if_neg e]
    have:=(o.drew.vw).part (i:=i+1) (m:=l.length - (i+1)) (by omega)
    rwa [List.take_of_length_le (by rw [List.length_drop];omega)] at this
 obtain ⟨w4,hr,o4,m4⟩:=o.drew.appRoom sl_int (ty:=31) (d:=c - (i+1)) (k:=i) hv (m:=l.length - (i+1)) (by rw [List.length_drop]) (by omega) oneInt (K:=fun w4=>OwI ty_int w4 p c (l.take i++l.drop (i+1)++l.drop (i+ (l.length - (i+1))))∧Mod (fun b=>blk p=some b) w.drew w4) fun w' a b=> ⟨a,b⟩
 have he:(l.take i++l.drop (i+1))=l.eraseIdx i:=(List.eraseIdx_eq_take_drop_succ ..).symm
 have hlen:(l.eraseIdx i).length=l.length - 1:=by rw [List.length_eraseIdx,if_pos hi]
 rw [he] at o4
 have hll:(l.eraseIdx i++l.drop (i+ (l.length - (i+1)))).length=l.length:=by rw [List.length_append,hlen,List.length_drop];omega
 have hn1:i+ (l.length - (i+1))=l.length - 1:=by omega
 rw [hn1] at hr o4 hll
 refine ⟨w4,_,_,_,hr,?_⟩
 refine slK_i (l.length - 1) l.length c rfl rfl rfl (by omega) (by omega) (by omega) ?_
 rw [if_neg (by omega)]
 refine o4.clear sl_int int_zero (x:=(0:Int)) rfl rfl (by rw [hll];omega) (by omega) fun w7 o7 m7=> ?_
 rw [List.take_append_of_le_length (by omega),List.take_of_length_le (by omega)] at o7
 rw [hlen]
 exact ⟨rfl,o7,(Mod.mono ((Mod.refl w).drew:Grow w w.drew) fun _ _ e=>e.elim).trans (m4.trans m7)⟩
end Go.Proofs.YtenmibfmhccmiaaGreat.W
namespace Go.Proofs.YtenmibfmhccmiaaGreat.W
open Go Go.Fw Go.RowKit Go.SoP Go.LiP
variable {W w w' w0 w2 w3:World} {nb b ib ab:Nat} {vars:Int} {id id':List (Int × Int)} {H H' H2:Pt→Sl} {s t u s':PSt} {lp:Option Addr} {lc:Nat} {ls:List Int} {sm:List (Int × Sl)} {cl:Int→List Int} {cp:Option Addr} {n cc:Nat} {c:List Int}
def delP (c:List Int):List (List Int)→List (List Int)
 | []=> []
 |x::l=>if norm x=norm c then l else x::delP c l
theorem delP_at: ∀ {cs:List (List Int)} {i:Nat},i<cs.length→(∀j,j<i→norm (cs.getD j [])≠norm c)→norm (cs.getD i [])=norm c→delP c cs=cs.eraseIdx i
 | [],_,h,_,_=>by simp at h
 |x::l,0,_,_,h=>by
  have h:norm x=norm c:=h
  show (if norm x=norm c then l else _)=_
  rw [if_pos h];rfl
 |x::l,i+1,hi,hj,h=>by
  have h0:norm x≠norm c:=hj 0 (by omega)
  show (if norm x=norm c then l else x::delP c l)=_
  rw [if_neg h0,List.eraseIdx_cons_succ]
  exact congrArg _ (delP_at (by simpa using hi) (fun j h=>hj (j+1) (by omega)) h)
theorem delP_no: ∀ {cs:List (List Int)},(∀j,j<cs.length→norm (cs.getD j [])≠norm c)→delP c cs=cs
 | [],_=>rfl
 |x::l,h=>by
  have h0:norm x≠norm c:=h 0 (by simp)
  show (if norm x=norm c then l else x::delP c l)=_
  rw [if_neg h0]
  exact congrArg _ (delP_no fun j hj=>h (j+1) (by simpa using hj))
theorem getD_map' {α β:Type} {f:α→β} {l:List α} {i:Nat} (h:i<l.length) (d:α) (e:β):(l.map f).getD i e=f (l.getD i d):=by simp [List.getD,h]
theorem clB_of (h1: ∀x∈c,litB x=true) (h2:c.length≤4096):clB c=true:=by
 unfold clB;rw [Bool.and_eq_true,List.all_eq_true,decide_eq_true_eq];exact ⟨h1,h2⟩
theorem Good.val0 (g:Good s) (ht:s.R .tr= []) {x:Int} (hx:InV s.vars x): ¬0<s.val x:=by
 rcases PSt.val_bd g.wf x with e|e|e
 · omega
 · have:=(g.v1 x hx).1 e;rw [ht] at this;simp at this
 · omega
theorem drop_vars (i:Nat):(s.drop i).vars=s.vars∧(s.drop i).nc=s.nc:=by
 obtain ⟨u1,u2,u3,u4⟩:=unF_vars i ((s.R (.l i)).take 2) s
 exact ⟨u1,u2⟩
theorem RL.drop (h:RL id s ls sm cl) {i:Nat} (hi:i<ls.length) (g:Good (s.drop (ls.getD i 0).toNat)):RL id (s.drop (ls.getD i 0).toNat) (ls.eraseIdx i) sm cl:=by
 have hm:=getD_mem' hi
 have h0:=h.l0 _ hm
 obtain ⟨v1,v2⟩:=drop_vars (s:=s) (ls.getD i 0).toNat
 have hsub: ∀x∈ls.eraseIdx i,x∈ls:=fun x hx=>List.mem_of_mem_eraseIdx hx
 have hmem: ∀x,x∈ls.eraseIdx i↔x∈ls∧x≠ls.getD i 0:=fun x=>by
  rw [List.mem_eraseIdx_iff_getElem]
  have eg:ls.getD i 0=ls[i]:=by simp [List.getD,hi]
  rw [eg]
  constructor
  · rintro ⟨j,hj,hne,rfl⟩
    exact ⟨List.getElem_mem _,fun e=>hne ((List.getElem_inj h.nd).1 e)⟩
  · rintro ⟨hx,hne⟩
    obtain ⟨j,hj,rfl⟩:=List.mem_iff_getElem.1 hx
    exact ⟨j,hj,fun e=>hne (by subst e;rfl),rfl⟩
 have hth: ∀k:Nat,(s.drop (ls.getD i 0).toNat).There k↔(k:Int)∈ls.eraseIdx i:=fun k=>by
  rw [drop_there,hmem,h.th]
  refine and_congr Iff.rfl ?_
  omega
 refine ⟨g,?_,h.idn,v1.trans h.sv,h.nd.sublist (List.eraseIdx_sublist ..),hth,fun x hx=>h.l0 x (hsub x hx),fun x hx=>h.lk x (hsub x hx),fun k hk=> ?_,fun x hx=>h.lt x (hsub x hx),fun x hx=>h.ln x (hsub x hx),fun x hx=>by rw [v2];exact h.ask x hx,?_⟩
 · rw [drop_R _ _ (by simp) (by simp) (by simp) (by simp)];exact h.be
 · have hk2:=drop_there.1 hk
   rw [drop_R _ _ (by simp) (by simp) (by simpa using hk2.2) (by simp)]
   exact h.cd k hk2.1
 · rw [v2];have:=h.ll;have:=List.length_eraseIdx_le ls i;omega
theorem drop_ok7 (h:RB W w nb b ib ab vars id H s lp lc ls sm cl) (htr:s.R .tr= []) (hc:Vw (Value.int .i64) w cp c) (hn:n=c.length) (hcl:clB c=true):
 Calls Tryz.prog rup_base_drop.id #[ptrV nb,.slice cp n cc] w fun e w'=>e= .returned (.tuple #[])∧∃H' s' ls',RB W w' nb b ib ab vars id H' s' lp lc ls' sm cl∧ls'.map cl=delP c (ls.map cl)∧s'.nc=s.nc∧s'.R .tr= []∧Mod (FP nb ib ab b H lp) w w'∧(∀k,FP nb ib ab b H' lp k→FP nb ib ab b H lp k∨w.heap.size≤k):=by
 subst hn
 have hcl4:=(clB_all hcl).2
 have hll:=h.ll;have hnc:=h.g.ncm
 refine rup_base_drop.calls ((norm_ok hc rfl (by unfold maxLen;omega)).mono ?_)
 rintro e w1 ⟨q,d,m,hm,rfl,o1,g1⟩
 rw [hcl] at hm
 simp only [if_true] at hm
 subst hm
 have h1:=h.grow g1
 refine ⟨_,_,_,_,rfl,_,rfl,_,_,_,cell_add h1.st rfl,?_⟩
 refine ⟨fun I u z=> ∃i:Nat,I=i∧i≤ls.length∧z=ls.length - i∧Grow w1 u∧∀j,j<i→norm (cl (ls.getD j 0))≠norm c,⟨_,0,rfl,Nat.zero_le _,rfl,Mod.refl _,fun j hj=>by omega⟩,?_⟩
 rintro I u z _ ⟨i,rfl,hi,rfl,gu,hno⟩
 have hu:=h1.grow gu
 refine cnd_i (fun r=> ?_) (fun r=> ?_)
 · have r:i<ls.length:=by simpa using r
   have hm:=getD_mem' r
   refine hu.lo.vw.ix 0 (by omega) rfl (by omega) fun a e=> ⟨_,e,?_⟩
   rw [Int.toNat_natCast]
   obtain ⟨sl,hsl,hlk,hsm,hsn,hsv⟩:=hu.look hm
   have hcJ:clB (cl (ls.getD i 0))=true:=clB_of (fun x hx=> (h.lt _ hm x hx).1) (h.ln _ hm)
   have hlJ:=h.ln _ hm
   refine ⟨_,rfl,_,cell_add hu.st rfl,_,_,_,_,hlk,(norm_ok hsv hsn (by rw [hsn];unfold maxLen;omega)).mono ?_⟩
   rintro e w17 ⟨q2,d2,m2,hm2,rfl,o17,g17⟩
   rw [hcJ] at hm2
   simp only [if_true] at hm2
   subst hm2
   have nl:=norm_len (cl (ls.getD i 0))
   refine ⟨_,_,_,_,rfl,(equal_ok o17.vw rfl (by unfold maxLen;omega) ((o1.grow gu).grow g17).vw rfl).mono ?_⟩
   rintro e w20 ⟨rfl,g20⟩
   have G20:=(gu.trans g17).trans g20
   have h20:=h1.grow G20
   refine ⟨_,rfl,cnd_i (fun r2=> ?_) (fun r2=> ?_)⟩
   · have r2:norm (cl (ls.getD i 0))=norm c:=by simpa using r2
     refine ⟨_,rfl,_,_,_,cell_add h20.st rfl,?_⟩
     rw [wN (i:=i+1) (by omega) (by omega)]
     refine (sdel_ok h20.lo rfl (by omega) r).mono ?_
     rintro e w24 ⟨rfl,o24,m24⟩
     obtain ⟨a1,a2,a3,a4,a5,a6⟩:=h20.d2
     have m24':Mod (fun k=>blk lp=some k) w20 w24:=m24
     have st24:=h20.st.keep m24' fun e=>a4 e
     refine ⟨_,_,_,rfl,_,rfl,store_f st24 rfl rfl fun w27 st27 M27=> ?_⟩
     have MM:Mod (fun k=>blk lp=some k∨k=nb) w20 w27:=(m24'.mono fun k _ e=> .inl e).then M27 fun k _ e=> .inr e
     have r27:RM W w27 nb b ib ab vars id H s lp lc (ls.eraseIdx i) sm cl:=by
      refine ⟨st27,h20.pm.keep MM fun x k hk e=> ?_,h20.im.keep MM fun e=> ?_,h20.am.keep MM fun e=> ?_,o24.keep M27 fun k hk e=>a4 (e▸hk),fun x hx=> ?_,h20.d1,h20.d2,h20.d3,h20.wg.then MM fun k hk e=> ?_,h20.wy⟩
      · obtain ⟨b1,b2,b3,b4⟩:=h20.d1 x k hk
        exact e.elim b4 b1
      · exact e.elim a5 fun e=>a1 e.symm
      · exact e.elim a6 fun e=>a2 e.symm
      · obtain ⟨r1,r2,r3⟩:=h20.rw x hx
        refine ⟨r1,r2,r3.keepN MM fun hne k hk e=> ?_⟩
        obtain ⟨b1,b2,b3,b4,b5⟩:=h20.d3 x hx (by rw [r1];exact List.length_pos_iff.2 hne) k hk
        exact e.elim b4 b1
      · rcases e with e|e
        · have:=h20.wy.2.2.2.1 k e;omega
        · have:=h20.wy.1;omega
     have h0:=h.l0 _ hm
     have hJ:(((ls.getD i 0).toNat:Nat):Int)=ls.getD i 0:=Int.toNat_of_nonneg h0
     have hth:s.There (ls.getD i 0).toNat:=(h.th _).2 (by rw [hJ];exact hm)
     have hrs: ∀x∈s.R (.l (ls.getD i 0).toNat),¬(0<s.val x∧s.rea x=(((ls.getD i 0).toNat:Nat):Int)):=fun x hx e=>h.g.val0 htr (h.g.cv _ hth x hx) e.1
     have his:s.is (ls.getD i 0)=true:=by
      unfold PSt.is
      have:=hth.1
      rw [hth.2]
      simp only [Bool.not_false,Bool.and_true,decide_eq_true_eq]
      omega
     refine ⟨_,rfl,_,cell_add r27.st rfl,(drop_ok r27.pm h.g (ls.getD i 0)).mono ?_⟩
     rintro e w30 ⟨r30,rfl,H',hr⟩
     have P:Pw w27 w30 b H H' (s.drop (ls.getD i 0).toNat):=by
      rcases hr with ⟨_,hf,_⟩| ⟨_,_,⟨x,hx,h1,h2⟩,_⟩| ⟨_,_,_,hP⟩
      · rw [his] at hf;cases hf
      · exact absurd ⟨h1,h2⟩ (hrs x hx)
      · exact hP
     refine ⟨_,rfl,rfl,H',_,_,RB.of (r27.prop P) (h.rl.drop r (drop_good h.g hth hrs)),?_,(drop_vars _).2,?_,(((g1.trans G20).mono fun _ _ e=>e.elim).then MM fun k _ e=>e.elim (fun e=> .inr (.inr (.inr (.inl e)))) fun e=> .inl e).then P.mod fun k _ e=> .inr (.inr (.inr (.inr e))),fun k hk=> ?_⟩
     · rw [delP_at (i:=i) (by simpa using r) (fun j hj=>by rw [getD_map' (by omega) 0];exact hno j hj) (by rw [getD_map' r 0];exact r2)]
       exact Go.ChangeMaps.map_eraseIdx _ _ _
     · rw [drop_R _ _ (by simp) (by simp) (by simp) (by simp)];exact htr
     · rcases hk with e|e|e|e| ⟨x,e⟩
       · exact .inl (.inl e)
       · exact .inl (.inr (.inl e))
       · exact .inl (.inr (.inr (.inl e)))
       · exact .inl (.inr (.inr (.inr (.inl e))))
       · rcases P.ft x k e with ⟨y,e⟩|e
         · exact .inl (.inr (.inr (.inr (.inr ⟨y,e⟩))))
         · right
           have a1:=(g1.trans G20).size
           have a2:=MM.size
           omega
   · have r2:norm (cl (ls.getD i 0))≠norm c:=by simpa using r2
     refine ⟨_,by omega,i+1,wN (by omega) (by omega),r,rfl,G20,fun j hj=> ?_⟩
     by_cases e:j<i
     · exact hno j e
     · obtain rfl:j=i:=by omega
       exact r2
 · have r:i=ls.length:=by simp at r;omega
   subst r
   exact ⟨rfl,H,s,ls,hu,(delP_no fun j hj=>by rw [getD_map' (by simpa using hj) 0];exact hno j (by simpa using hj)).symm,rfl,htr,(g1.trans gu).mono fun _ _ e=>e.elim,fun k hk=> .inl hk⟩
end Go.Proofs.YtenmibfmhccmiaaGreat.W
