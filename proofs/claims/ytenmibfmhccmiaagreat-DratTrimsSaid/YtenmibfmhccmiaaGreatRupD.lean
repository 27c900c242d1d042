/- Layer 7: what is worked on, as callers know it; a step. -/
import Derived.Test.YtenmibfmhccmiaaGreatRupC
import Derived.Test.YtenmibfmhccmiaaGreatPropD
import Derived.Test.YtenmibfmhccmiaaGreatPropG
import Derived.Test.YtenmibfmhccmiaaGreatLitA
set_option linter.unusedVariables false
set_option linter.unusedSimpArgs false
namespace Go.Proofs.YtenmibfmhccmiaaGreat.W
open Go Go.Fw Go.RowKit Go.SoP Go.LiP
variable {W w w' w0 w2 w3:World} {nb b ib ab k:Nat} {vars:Int} {id id':List (Int × Int)} {cs:List (List Int)} {t:Bool} {A A':Nat→Prop} {cp lp lp':Option Addr} {n cc:Nat} {c:List Int} {H H':Pt→Sl} {s s':PSt} {lc:Nat} {ls:List Int} {sm:List (Int × Sl)} {cl:Int→List Int}
theorem RB.fplt (h:RB W w nb b ib ab vars id H s lp lc ls sm cl): ∀k,FP nb ib ab b H lp k→k<w.heap.size:=by
 rintro k (rfl|rfl|rfl|e| ⟨x,e⟩)
 · exact h.st.lt
 · exact h.im.lt
 · exact h.am.lt
 · exact h.lo.lt k e
 · exact h.pm.lt x k e
theorem Pw.fp (P:Pw w w' b H H' s'):Mod (FP nb ib ab b H lp) w w'∧∀k,FP nb ib ab b H' lp k→FP nb ib ab b H lp k∨w.heap.size≤k:=by
 refine ⟨P.mod.mono fun k _ e=> .inr (.inr (.inr (.inr e))),fun k hk=> ?_⟩
 rcases hk with e|e|e|e| ⟨x,e⟩
 · exact .inl (.inl e)
 · exact .inl (.inr (.inl e))
 · exact .inl (.inr (.inr (.inl e)))
 · exact .inl (.inr (.inr (.inr (.inl e))))
 · rcases P.ft x k e with ⟨y,e⟩|e
   · exact .inl (.inr (.inr (.inr (.inr ⟨y,e⟩))))
   · exact .inr e
def Aw (A:Nat→Prop) (w:World) (F:Nat→Prop):Prop:= ∀j,A j→j<w.heap.size∧¬F j
theorem Aw.go {F F':Nat→Prop} (h:Aw A w F) (M:Mod F w w') (f: ∀k,F' k→F k∨w.heap.size≤k):Aw A w' F'∧Mod (fun j=> ¬A j) w w':=by
 refine ⟨fun j hj=> ⟨by have:=(h j hj).1;have:=M.size;omega,fun e=> ?_⟩,M.mono fun k _ e e2=> (h k e2).2 e⟩
 rcases f j e with e|e
 · exact (h j hj).2 e
 · have:=(h j hj).1;omega
def Wk (t:Bool) (A:Nat→Prop) (W w:World) (nb:Nat) (vars:Int) (id:List (Int × Int)) (cs:List (List Int)) (k:Nat):Prop:=
 ∃b ib ab H s lp lc ls sm cl,RB W w nb b ib ab vars id H s lp lc ls sm cl∧ls.map cl=cs∧s.nc≤k∧(t=true→s.R .tr= [])∧Aw A w (FP nb ib ab b H lp)
theorem Wk.grow (h:Wk t A W w nb vars id cs k) (g:Grow w w'):Wk t A W w' nb vars id cs k:=by
 obtain ⟨b,ib,ab,H,s,lp,lc,ls,sm,cl,h,h1,h2,h3,h4⟩:=h
 exact ⟨b,ib,ab,H,s,lp,lc,ls,sm,cl,h.grow g,h1,h2,h3,(h4.go (g.mono fun _ _ e=>e.elim) fun k e=> .inl e).1⟩
theorem Wk.less (h:Wk t A W w nb vars id cs k) (hA: ∀j,A' j→A j):Wk t A' W w nb vars id cs k:=by
 obtain ⟨b,ib,ab,H,s,lp,lc,ls,sm,cl,h,h1,h2,h3,h4⟩:=h
 exact ⟨b,ib,ab,H,s,lp,lc,ls,sm,cl,h,h1,h2,h3,fun j hj=>h4 j (hA j hj)⟩
theorem Wk.enter (h:Wk t A W w nb vars id cs k) (g:Grow w w'):Wk t (fun j=>A j∨(w.heap.size≤j∧j<w'.heap.size)) W w' nb vars id cs k:=by
 obtain ⟨b,ib,ab,H,s,lp,lc,ls,sm,cl,h,h1,h2,h3,h4⟩:=h
 refine ⟨b,ib,ab,H,s,lp,lc,ls,sm,cl,h.grow g,h1,h2,h3,fun j hj=> ?_⟩
 have gs:=g.size
 rcases hj with hj|hj
 · exact ⟨by have:=(h4 j hj).1;omega,(h4 j hj).2⟩
 · exact ⟨hj.2,fun e=>by have:=h.fplt j e;omega⟩
theorem Wk.wg (h:Wk t A W w nb vars id cs k):Grow W w:=by
 obtain ⟨b,ib,ab,H,s,lp,lc,ls,sm,cl,h,h1,h2,h3⟩:=h
 exact h.wg
theorem Wk.len (h:Wk t A W w nb vars id cs k):cs.length≤k:=by
 obtain ⟨b,ib,ab,H,s,lp,lc,ls,sm,cl,h,rfl,h2,h3⟩:=h
 rw [List.length_map];have:=h.ll;omega
theorem Wk.has (h:Wk t A W w nb vars id cs k): ∃p2 p3 p4:Value,∃ (lp:Option Addr) (lc:Nat),Has w nb #[.int .i64 vars,p2,p3,.slice lp cs.length lc,p4]:=by
 obtain ⟨b,ib,ab,H,s,lp,lc,ls,sm,cl,h,rfl,h2,h3⟩:=h
 rw [List.length_map]
 exact ⟨_,_,_,_,_,h.st⟩
theorem Wk.up (h:Wk t A W w nb vars id cs k):Wk t A W w nb vars id cs (k+1):=by
 obtain ⟨b,ib,ab,H,s,lp,lc,ls,sm,cl,h,h1,h2,h3,h4⟩:=h
 exact ⟨b,ib,ab,H,s,lp,lc,ls,sm,cl,h,h1,by omega,h3,h4⟩
theorem Wk.unit (h:Wk true A W w nb vars id cs k) (hc:Vw (Value.int .i64) W cp c) (hn:n=c.length) (hx:n≤100000) (hl: ∀x∈c,litB x=true∧Nt id x):
 Calls Tryz.prog rup_base_unit.id #[ptrV nb,.slice cp n cc] w fun e w'=> ∃r:Bool,e= .returned (.bool r)∧(r=true↔uB cs c)∧Wk (!c.isEmpty) A W w' nb vars id cs k∧Mod (fun j=> ¬A j) w w':=by
 obtain ⟨b,ib,ab,H,s,lp,lc,ls,sm,cl,h,rfl,h2,h3,h4⟩:=h
 refine (unit_ok h (h3 rfl) (hc.grow h.wg) hn hx (fun x hx=> (hl x hx).1) (fun x hx=> (hl x hx).2)).mono ?_
 rintro e w' ⟨r,rfl,hr,H',s',h',P,hn',ht⟩
 obtain ⟨p1,p2⟩:=P.fp (nb:=nb) (ib:=ib) (ab:=ab) (lp:=lp)
 obtain ⟨a1,a2⟩:=h4.go p1 p2
 exact ⟨r,rfl,hr,⟨b,ib,ab,H',s',lp,lc,ls,sm,cl,h',rfl,by omega,fun e=>ht fun e2=>by subst e2;simp at e,a1⟩,a2⟩
theorem Wk.first (h:Wk (!c.isEmpty) A W w nb vars id cs k) (hc:Vw (Value.int .i64) W cp c) (hn:n=c.length) (hx:n≤90000) (hl: ∀x∈c,litB x=true∧Nt id x):
 Calls Tryz.prog rup_base_first.id #[ptrV nb,.slice cp n cc] w fun e w'=> ∃r:Bool,e= .returned (.bool r)∧(r=true↔fB cs c)∧Wk (!c.isEmpty) A W w' nb vars id cs k∧Mod (fun j=> ¬A j) w w':=by
 by_cases hne:c= []
 · subst hne
   subst hn
   exact rup_base_first.calls (cnd_t rfl ⟨false,rfl,⟨fun e=> (by cases e),fun h=>absurd rfl h.1⟩,h,Mod.refl w⟩)
 · obtain ⟨b,ib,ab,H,s,lp,lc,ls,sm,cl,h,rfl,h2,h3,h4⟩:=h
   refine (first_ok h (h3 (by simpa using hne)) (hc.grow h.wg) hn hx (fun x hx=> (hl x hx).1) (fun x hx=> (hl x hx).2) fun _ k hk x e=> ?_).mono ?_
   · have:=hc.lt hne k hk;have:=h.wy.2.2.2.2 x k e;omega
   · rintro e w' ⟨r,rfl,hr,H',s',h',P,hn',ht⟩
     obtain ⟨p1,p2⟩:=P.fp (nb:=nb) (ib:=ib) (ab:=ab) (lp:=lp)
     obtain ⟨a1,a2⟩:=h4.go p1 p2
     exact ⟨r,rfl,hr,⟨b,ib,ab,H',s',lp,lc,ls,sm,cl,h',rfl,by omega,fun _=>ht,a1⟩,a2⟩
theorem Wk.add (h:Wk t A W w nb vars id cs k) (hc:Vw (Value.int .i64) W cp c) (hn:n=c.length) (hlen:c.length≤4096) (hl: ∀x∈c,litB x=true∧Nt id x) (hk:k<262144):
 Calls Tryz.prog rup_base_add.id #[ptrV nb,.slice cp n cc] w fun e w'=>e= .returned (.tuple #[])∧Wk t A W w' nb (vmx vars c) id (cs++ [c]) (k+1)∧Mod (fun j=> ¬A j) w w':=by
 obtain ⟨b,ib,ab,H,s,lp,lc,ls,sm,cl,h,rfl,h2,h3,h4⟩:=h
 refine (add_ok7 h hc hn hlen hl (by omega)).mono ?_
 rintro e w' ⟨rfl,H',s',lp',lc',ls',sm',cl',h',hm,hn',ht,p1,p2⟩
 obtain ⟨a1,a2⟩:=h4.go p1 p2
 exact ⟨rfl,⟨b,ib,ab,H',s',lp',lc',ls',sm',cl',h',hm,by omega,fun e=>ht.trans (h3 e),a1⟩,a2⟩
theorem Wk.drop (h:Wk true A W w nb vars id cs k) (hc:Vw (Value.int .i64) W cp c) (hn:n=c.length) (hcl:clB c=true):
 Calls Tryz.prog rup_base_drop.id #[ptrV nb,.slice cp n cc] w fun e w'=>e= .returned (.tuple #[])∧Wk true A W w' nb vars id (delP c cs) k∧Mod (fun j=> ¬A j) w w':=by
 obtain ⟨b,ib,ab,H,s,lp,lc,ls,sm,cl,h,rfl,h2,h3,h4⟩:=h
 refine (drop_ok7 h (h3 rfl) (hc.grow h.wg) hn hcl).mono ?_
 rintro e w' ⟨rfl,H',s',ls',h',hm,hn',ht,p1,p2⟩
 obtain ⟨a1,a2⟩:=h4.go p1 p2
 exact ⟨rfl,⟨b,ib,ab,H',s',lp,lc,ls',sm,cl,h',hm,by omega,fun _=>ht,a1⟩,a2⟩
theorem Wk.do' {del:Bool} (h:Wk true A W w nb vars id cs k) (hc:Vw (Value.int .i64) W cp c) (hn:n=c.length) (hlen:c.length≤4096) (hl: ∀x∈c,litB x=true∧Nt id x) (hk:k<262144):
 Calls Tryz.prog rup_base_do.id #[ptrV nb,.agg #[.bool del,.slice cp n cc]] w fun e w'=> ∃r:Int,e= .returned (.int .i64 r)∧Mod (fun j=> ¬A j) w w'∧
  ((del=true∧r=0∧Wk true A W w' nb vars id (delP c cs) k)∨(del=false∧(uB cs c∨fB cs c)∧r=0∧Wk (!c.isEmpty) A W w' nb (vmx vars c) id (cs++ [c]) (k+1))∨(del=false∧¬(uB cs c∨fB cs c)∧r=7∧Wk (!c.isEmpty) A W w' nb vars id cs k)):=by
 subst hn
 have hcl:clB c=true:=clB_of (fun x hx=> (hl x hx).1) hlen
 refine rup_base_do.calls ?_
 intro n1 w2 h2
 have e2:=h2.num
 have i1:=h2.has.lt
 have hh:=h.enter h2.mod
 have lt: ∀j,A j→j<w.heap.size:=by
  obtain ⟨b,ib,ab,H,s,lp,lc,ls,sm,cl,_,_,_,_,h4⟩:=h
  exact fun j hj=> (h4 j hj).1
 have fin: ∀ {t v cs' kk u},Wk t (fun j=>A j∨(w.heap.size≤j∧j<w2.heap.size)) W u nb v id cs' kk→Wk t A W u nb v id cs' kk:=fun h=>h.less fun j hj=> .inl hj
 have fm: ∀ {u:World},Mod (fun j=> ¬(A j∨(w.heap.size≤j∧j<w2.heap.size))) w2 u→Mod (fun j=> ¬A j) w u:=fun m=> (h2.mod.mono fun _ _ e=>e.elim).then m fun k _ e e2=>e (.inl e2)
 have hn1:A n1∨(w.heap.size≤n1∧n1<w2.heap.size):= .inr ⟨by omega,i1⟩
 refine ⟨_,cell_add h2.has rfl,?_⟩
 cases del with
 |true=>
  refine cnd_t rfl ⟨_,_,_,cell_add h2.has rfl,(hh.drop hc rfl hcl).mono ?_⟩
  rintro e w5 ⟨rfl,h5,m5⟩
  exact ⟨rfl,0,rfl,fm m5,.inl ⟨rfl,rfl,fin h5⟩⟩
 |false=>
  obtain ⟨_,_,_,_,_,hs⟩:=hh.has
  have hl':=hh.len
  refine cnd_f rfl ⟨_,rfl,_,_,_,cell_add hs rfl,cnd_f (by simp;omega) ⟨_,_,_,cell_add h2.has rfl,(hh.unit hc rfl (by omega) hl).mono ?_⟩⟩
  rintro e w9 ⟨r,rfl,hr,k9,m9⟩
  have n9:Has w9 n1 _:=h2.has.keep m9 fun e=>e hn1
  refine ⟨r,rfl,cnd_i (fun r1=> ?_) (fun r1=> ?_)⟩
  · have r1: ¬uB cs c:=fun e=>by rw [hr.2 e] at r1;cases r1
    refine ⟨_,_,_,cell_add n9 rfl,(k9.first hc rfl (by omega) hl).mono ?_⟩
    rintro e w12 ⟨r2,rfl,hr2,k12,m12⟩
    have n12:Has w12 n1 _:=n9.keep m12 fun e=>e hn1
    refine ⟨_,rfl,cnd_i (fun r3=> ?_) (fun r3=> ?_)⟩
    · exact ⟨7,rfl,fm (m9.trans m12),.inr (.inr ⟨rfl,fun e=>e.elim r1 fun e=> (by rw [hr2.2 e] at r3;cases r3),rfl,fin k12⟩)⟩
    · have hf:fB cs c:=hr2.1 (by simpa using r3)
      refine ⟨_,_,_,cell_add n12 rfl,(k12.add hc rfl hlen hl hk).mono ?_⟩
      rintro e w15 ⟨rfl,k15,m15⟩
      exact ⟨rfl,0,rfl,fm ((m9.trans m12).trans m15),.inr (.inl ⟨rfl,.inr hf,rfl,fin k15⟩)⟩
  · have r1:uB cs c:=hr.1 (by simpa using r1)
    refine ⟨_,_,_,cell_add n9 rfl,(k9.add hc rfl hlen hl hk).mono ?_⟩
    rintro e w17 ⟨rfl,k17,m17⟩
    exact ⟨rfl,0,rfl,fm (m9.trans m17),.inr (.inl ⟨rfl,.inl r1,rfl,fin k17⟩)⟩
end Go.Proofs.YtenmibfmhccmiaaGreat.W
namespace Go.Proofs.YtenmibfmhccmiaaGreat.W
open Go Go.Fw Go.RowKit Go.SoP Go.LiP
variable {W w w' w0 w2 w3:World} {nb b ib ab k:Nat} {vars:Int} {id id':List (Int × Int)} {cs ms:List (List Int)} {t:Bool} {cp:Option Addr} {n cc:Nat} {c:List Int}
theorem getD_mem2 {l:List (List Int)} {i:Nat} (h:i<l.length):l.getD i []∈l:=by simp [List.getD,h]
theorem take_snoc {α:Type} {l:List α} {i:Nat} (h:i<l.length) (d:α):l.take (i+1)=l.take i++ [l.getD i d]:=by
 rw [List.take_add_one];simp [List.getD,h]
theorem anew_ok {p2 p3 p4:Value} {q:Option Addr} {m d:Nat} {hs:List Sl} (hst:Has w nb #[.int .i64 vars,.map (some ib),p2,p3,p4]) (him:MV (Value.int .i64) w ib id) (hid:Idn id) (hnb:nb≠ib) (hW:Grow W w) (y1:W.heap.size≤nb) (y2:W.heap.size≤ib)
 (hv:V2 (Value.int .i64) W q hs cs) (hm:m=cs.length) (hcs: ∀c∈cs,c.length≤4096∧∀x∈c,litB x=true∧Nt id x) (hlen:cs.length<262144) (hil:id.length≤1048576):
 Calls Tryz.prog rup_base_anew.id #[ptrV nb,.slice q m d] w fun e w'=>e= .returned (.tuple #[])∧Wk true (fun _=>False) W w' nb (cs.foldl vmx vars) id cs cs.length:=by
 subst hm
 refine rup_base_anew.calls ⟨_,rfl,_,cell_add hst rfl,_,him.len map_ii _,?_⟩
 refine (new_ok (k:=(id.length:Int)) (cs:= []) (hs:= []) (q:=none) (m:=0) (d:=0) V2.nil rfl).mono ?_
 have hcn:cnfB (id.length:Int) []=true:=by unfold cnfB;simp;omega
 rintro e w4 (⟨hf,_⟩| ⟨_,b,s,H,rfl,pm,g,N,gw,fo⟩)
 · rw [hcn] at hf;cases hf
 have st4:=hst.grow gw
 have im4:=him.grow gw
 have zw:=hW.size
 have z4:=gw.size
 have i1:=hst.lt
 have i2:=him.lt
 refine ⟨_,_,rfl,_,rfl,store_f st4 rfl rfl fun w8 st8 M8=> ?_⟩
 intro n9 w10 h10
 have e10:=h10.num
 have z8:=M8.size
 have st10:Has w10 nb _:=st8.grow h10.mod
 refine ⟨_,rfl,store_f st10 rfl rfl fun w12 st12 M12=> ⟨_,rfl,store_f st12 rfl rfl fun w14 st14 M14=> ?_⟩⟩
 have M48:Mod (·=nb) w4 w14:=((M8.grow h10.mod).trans M12).trans M14
 have M10:Mod (·=nb) w10 w14:=M12.trans M14
 have ne9:n9≠nb:=by omega
 have hvn:s.vars=id.length:=by have:=N.v;simpa using this
 have hnc:s.nc=0:=N.n
 have fo': ∀x k,own b H x=some k→W.heap.size≤k∧w.heap.size≤k∧k<w4.heap.size:=fun x k e=> ⟨by have:=fo x k e;omega,fo x k e,pm.lt x k e⟩
 have nth: ∀i,¬s.There i:=fun i h=>by have:=h.1;omega
 have hB:RB W w14 nb b ib n9 vars id H s none 0 [] [] fun _=> []:=by
  refine ⟨st14,pm.keep M48 fun x k hk e=> ?_,g,im4.keep M48 fun e=>hnb e.symm,(MV.new h10).keep M10 ne9,Ow.nil _ _ _,fun x hx=>by simp at hx,fun x k hk=> ?_,?_,fun x hx=>by simp at hx,?_,?_,N.be,hid,hvn,by simp,fun i=>by simp [nth],fun i hi=>by simp at hi,fun i hi=>by simp at hi,fun i hi=>absurd hi (nth i),fun i hi=>by simp at hi,fun i hi=>by simp at hi,fun x hx=>by simp at hx,by simp⟩
  · have:=fo' x k hk;omega
  · have:=fo' x k hk
    exact ⟨by omega,by omega,by omega,by simp [blk]⟩
  · exact ⟨hnb,by omega,by omega,by simp [blk],by simp [blk],by simp [blk]⟩
  · exact (hW.trans gw).then M48 fun k hk e=>by omega
  · exact ⟨y1,y2,by omega,by simp [blk],fun x k hk=> (fo' x k hk).1⟩
 have k14:Wk true (fun _=>False) W w14 nb vars id [] 0:=⟨b,ib,n9,H,s,none,0,[],[],_,hB,rfl,by omega,fun _=>N.tr,fun j hj=>hj.elim⟩
 refine ⟨fun I u z=> ∃v:Nat,I=v∧v≤cs.length∧z=cs.length - v∧Wk true (fun _=>False) W u nb ((cs.take v).foldl vmx vars) id (cs.take v) v,⟨_,0,rfl,Nat.zero_le _,rfl,k14⟩,?_⟩
 rintro I u z _ ⟨v,rfl,hvl,rfl,ku⟩
 refine cnd_i (fun r=> ?_) (fun r=> ?_)
 · have r:v<cs.length:=by simpa using r
   have hmem:=getD_mem2 r
   refine (hv.grow ku.wg).ix (by omega) rfl (by omega) fun a sl k1 k0 k2 k3 k4=> ⟨_,_,_,k1,?_⟩
   rw [Int.toNat_natCast] at k0 k2
   obtain ⟨r1,r2,r3⟩:=hv.r v r
   rw [← k0] at r3
   refine (ku.add r3 k2 (hcs _ hmem).1 (hcs _ hmem).2 (by omega)).mono ?_
   rintro e w22 ⟨rfl,k22,_⟩
   refine ⟨rfl,_,?_,v+1,wN (by omega) (by omega),r,rfl,?_⟩
   · omega
   · rw [take_snoc r [],List.foldl_append];exact k22
 · have r:v=cs.length:=by simp at r;omega
   subst r
   rw [List.take_length] at ku
   exact ⟨rfl,ku⟩
def tot (cs:List (List Int)):Nat:=(cs.map List.length).sum
theorem tot_snoc (cs:List (List Int)) (c:List Int):tot (cs++ [c])=tot cs+c.length:=by unfold tot;simp
theorem tot_take {i:Nat} (h:i<cs.length):tot (cs.take (i+1))=tot (cs.take i)+ (cs.getD i []).length:=by rw [take_snoc h [],tot_snoc]
theorem tot_take_le (i:Nat):tot (cs.take i)≤tot cs:=by
 have h:=congrArg tot (List.take_append_drop i cs)
 have e: ∀a b:List (List Int),tot (a++b)=tot a+tot b:=fun a b=>by unfold tot;simp
 rw [e] at h
 omega
theorem begin_ok {v:Int} {p q:Option Addr} {n d m e:Nat} {hs ks:List Sl} (hv:V2 (Value.int .i64) w p hs cs) (hn:n=cs.length) (hw:V2 (Value.int .i64) w q ks ms) (hm:m=ms.length)
 (hcs: ∀c∈cs,c.length≤4096∧∀x∈c,litB x=true) (hms: ∀c∈ms,∀x∈c,litB x=true) (hlen:cs.length<262144) (hml:ms.length≤1000000) (htot:tot cs+tot ms≤1000000):
 Calls Tryz.prog rup_begin.id #[.agg #[.int .i64 v,.slice p n d],.slice q m e] w fun e w'=> ∃ (nb:Nat) (id:List (Int × Int)),e= .returned (ptrV nb)∧Wk true (fun _=>False) w w' nb (cs.foldl vmx v) id cs cs.length∧(∀c∈cs++ms,∀x∈c,Nt id x):=by
 subst hn hm
 refine rup_begin.calls ?_
 intro n1 w2 h2
 have e2:=h2.num
 refine ⟨_,cell_add h2.has rfl,?_⟩
 intro n4 w5 h5
 have e5:=h5.num
 have z2:=h2.mod.size
 have s2:=h2.size
 intro n6 w7 h7
 have e7:=h7.num
 have s5:=h5.size
 have G7:Grow w w7:=(h2.mod.trans h5.mod).trans h7.mod
 have hb7:Has w7 n1 _:=(h2.has.grow h5.mod).grow h7.mod
 refine ⟨_,_,_,cell_add hb7 rfl,?_⟩
 have hid0:Idn []:=⟨by simp,fun j hj=>by simp at hj,fun x hx=>by simp at hx⟩
 refine ⟨fun I u z=> ∃ (i:Nat) (id:List (Int × Int)),I=i∧i≤cs.length∧z=cs.length - i∧Mod (·=n4) w7 u∧MV (Value.int .i64) u n4 id∧Idn id∧id.length≤tot (cs.take i)∧∀c∈cs.take i,∀x∈c,Nt id x,
  ⟨_,0,[],rfl,Nat.zero_le _,rfl,Mod.refl _,(MV.new h5).grow h7.mod,hid0,by simp,fun c hc=>by simp at hc⟩,?_⟩
 rintro I u z _ ⟨i,id,rfl,hi,rfl,Mu,mu,idu,hl,hN⟩
 have ltN:=hv.ltN
 have ltM:=hw.ltN
 have hvu: ∀ {u:World},Mod (·=n4) w7 u→V2 (Value.int .i64) u p hs cs:=fun Mu=> (hv.grow G7).keepN Mu fun k hk e=>by have:=ltN k hk;omega
 have hwu: ∀ {u:World},Mod (·=n4) w7 u→V2 (Value.int .i64) u q ks ms:=fun Mu=> (hw.grow G7).keepN Mu fun k hk e=>by have:=ltM k hk;omega
 have hst: ∀ {u:World},Mod (·=n4) w7 u→Has u n6 #[.int .i64 v,.map (some n4),.pointer none,.slice none 0 0,.map none]:=fun Mu=>h7.has.keep Mu (by omega)
 have hb1: ∀ {u:World},Mod (·=n4) w7 u→Has u n1 #[.int .i64 v,.slice p cs.length d]:=fun Mu=>hb7.keep Mu (by omega)
 refine cnd_i (fun r=> ?_) (fun r=> ?_)
 · have r:i<cs.length:=by simpa using r
   have hmem:=getD_mem2 r
   have tl:=tot_take_le (cs:=cs) (i+1)
   have tt:=tot_take r
   refine (hvu Mu).ix (by omega) rfl (by omega) fun a sl k1 k0 k2 k3 k4=> ⟨_,_,_,k1,?_⟩
   rw [Int.toNat_natCast] at k2 k4 k0
   obtain ⟨r1,r2,r3⟩:=hv.r i r
   rw [← k0] at r3
   refine (note_ok (hst Mu) mu idu (by omega) k4 (fun hne e=>by have:=r3.lt hne n4 e;omega) k2 (hcs _ hmem).2 (by omega)).mono ?_
   rintro e w16 ⟨rfl,id',M16,m16,nt⟩
   refine ⟨rfl,_,?_,i+1,id',wN (by omega) (by omega),r,rfl,Mu.trans M16,m16,nt.idn,by have:=nt.len;omega,fun c hc x hx=> ?_⟩
   · omega
   · rw [take_snoc r []] at hc
     rcases List.mem_append.1 hc with hc|hc
     · exact nt.kp x (hN c hc x hx)
     · rw [List.mem_singleton] at hc;subst hc;exact nt.all x hx
 have r:i=cs.length:=by simp at r;omega
 subst r
 rw [List.take_length] at hl hN
 refine ⟨fun I u z=> ∃ (i:Nat) (id:List (Int × Int)),I=i∧i≤ms.length∧z=ms.length - i∧Mod (·=n4) w7 u∧MV (Value.int .i64) u n4 id∧Idn id∧id.length≤tot cs+tot (ms.take i)∧∀c∈cs++ms.take i,∀x∈c,Nt id x,
  ⟨_,0,id,rfl,Nat.zero_le _,rfl,Mu,mu,idu,by omega,fun c hc=>by simp at hc;exact hN c hc⟩,?_⟩
 clear Mu mu idu hl hN
 rintro I u z _ ⟨i,id,rfl,hi,rfl,Mu,mu,idu,hl,hN⟩
 refine cnd_i (fun r=> ?_) (fun r=> ?_)
 · have r:i<ms.length:=by simpa using r
   have hmem:=getD_mem2 r
   have tl:=tot_take_le (cs:=ms) (i+1)
   have tt:=tot_take r
   refine (hwu Mu).ix (by omega) rfl (by omega) fun a sl k1 k0 k2 k3 k4=> ⟨_,_,_,k1,?_⟩
   rw [Int.toNat_natCast] at k2 k4 k0
   obtain ⟨r1,r2,r3⟩:=hw.r i r
   rw [← k0] at r3
   refine (note_ok (hst Mu) mu idu (by omega) k4 (fun hne e=>by have:=r3.lt hne n4 e;omega) k2 (hms _ hmem) (by omega)).mono ?_
   rintro e w16 ⟨rfl,id',M16,m16,nt⟩
   refine ⟨rfl,_,?_,i+1,id',wN (by omega) (by omega),r,rfl,Mu.trans M16,m16,nt.idn,by have:=nt.len;omega,fun c hc x hx=> ?_⟩
   · omega
   · rw [take_snoc r [],← List.append_assoc] at hc
     rcases List.mem_append.1 hc with hc|hc
     · exact nt.kp x (hN c hc x hx)
     · rw [List.mem_singleton] at hc;subst hc;exact nt.all x hx
 have r:i=ms.length:=by simp at r;omega
 subst r
 rw [List.take_length] at hl hN
 refine ⟨_,_,_,cell_add (hb1 Mu) rfl,?_⟩
 have Gu:Grow w u:=G7.then Mu fun k hk e=>by omega
 refine (anew_ok (hst Mu) mu idu (by omega) Gu (by omega) (by omega) hv rfl (fun c hc=> ⟨(hcs c hc).1,fun x hx=> ⟨(hcs c hc).2 x hx,hN c (List.mem_append_left _ hc) x hx⟩⟩) hlen (by omega)).mono ?_
 rintro e w26 ⟨rfl,k26⟩
 exact ⟨rfl,n6,id,rfl,k26,hN⟩
end Go.Proofs.YtenmibfmhccmiaaGreat.W
namespace Go.Proofs.YtenmibfmhccmiaaGreat.W
open Go Go.Fw Go.RowKit Go.SoP Go.LiP
variable {w w' w0 w2 w3:World} {p q:Option Addr} {n m c d:Nat} {k:Int} {hs:List Sl} {cs:List (List Int)} {l:List Int}
abbrev Stp:=Bool × List Int
def st0:Stp:=(false,[])
def SV (w:World) (p:Option Addr) (al:List Stp):Prop:= ∀i,i<al.length→∃ (a:Addr) (s:Sl),p=some a∧CellsAt w (a.add (i*2)) 0 [.bool (al.getD i st0).1,.slice s.p s.n s.c]∧
 s.n=(al.getD i st0).2.length∧s.n≤maxLen∧Vw (Value.int .i64) w s.p (al.getD i st0).2
theorem SV.grow {al:List Stp} (h:SV w p al) (g:Grow w w'):SV w' p al:=by
 intro i hi
 obtain ⟨a,s,rfl,hc,h1,h2,h3⟩:=h i hi
 exact ⟨a,s,rfl,CellsAt.keep g id hc,h1,h2,h3.grow g⟩
theorem SV.ix {al:List Stp} (h:SV w p al) (g:Grow w w') {i n:Nat} (hn:n=al.length) (hi:i<al.length) {K:Addr→Prop}
 (hk: ∀a (s:Sl),(∀u,Grow w u→CellsAt u a 0 [.bool (al.getD i st0).1,.slice s.p s.n s.c])→s.n=(al.getD i st0).2.length→s.n≤maxLen→Vw (Value.int .i64) w s.p (al.getD i st0).2→K a):ixK p n (i:Int) 2 K:=by
 subst hn
 obtain ⟨a,s,rfl,hc,h1,h2,h3⟩:=h i hi
 refine ⟨a,rfl,by omega,by omega,hk _ s (fun u gu=> ?_) h1 h2 h3⟩
 rw [Int.toNat_natCast]
 exact CellsAt.keep gu id hc
theorem step_of_rd {cs:List Value} (h:Fw.Rd w (.cons .bool (.cons (.sl (.int .i64)) .nil)) cs): ∃ (x:Stp) (s:Sl),cs= [.bool x.1,.slice s.p s.n s.c]∧s.n=x.2.length∧s.n≤maxLen∧Vw (Value.int .i64) w s.p x.2:=by
 obtain ⟨_,_,rfl,⟨a,rfl⟩,ws,_,rfl,hc,rfl⟩:=h
 have hc': ∃u,ws= [u]∧RdV w (.sl (.int .i64)) u:=by
  rcases hc with rfl| ⟨a',len',cap',rfl,g⟩
  · exact ⟨_,rfl,.inl rfl⟩
  · exact ⟨_,rfl,.inr ⟨a',len',cap',rfl,g⟩⟩
 obtain ⟨u,rfl,hu⟩:=hc'
 obtain ⟨p,n,c,l,rfl,h1,h2,h3,h4⟩:=ints_of_rd' hu
 exact ⟨(a,l),⟨p,n,c⟩,rfl,h1,Nat.le_trans h2 h3,h4⟩
theorem steps_of_rd {v:Value} (h:RdV w (.sl (.cons .bool (.cons (.sl (.int .i64)) .nil))) v): ∃p n c al,v= .slice p n c∧n=al.length∧n≤maxLen∧SV w p al:=by
 rcases h with rfl| ⟨a,len,cap,rfl,h1,h2,h3⟩
 · exact ⟨none,0,0,[],rfl,rfl,Nat.zero_le _,fun i hi=>by simp at hi⟩
 · have: ∀i,∃x:Stp,i<len→∃s:Sl,CellsAt w (a.add (i*2)) 0 [.bool x.1,.slice s.p s.n s.c]∧s.n=x.2.length∧s.n≤maxLen∧Vw (Value.int .i64) w s.p x.2:=by
    intro i
    by_cases hi:i<len
    · obtain ⟨es,_,hc,hr⟩:=h3 i hi
      obtain ⟨x,s,rfl,hx⟩:=step_of_rd hr
      exact ⟨x,fun _=> ⟨s,hc,hx⟩⟩
    · exact ⟨st0,fun h=>absurd h hi⟩
   have en: ∀i,i<len→((List.range len).map fun i=>Classical.choose (this i)).getD i st0=Classical.choose (this i):=fun i hi=>by simp [List.getD,hi]
   refine ⟨some a,len,cap,(List.range len).map fun i=>Classical.choose (this i),rfl,by simp,Nat.le_trans h1 h2,fun i hi=> ?_⟩
   have hi':i<len:=by simpa using hi
   rw [en i hi']
   obtain ⟨s,h1,h2,h3,h4⟩:=Classical.choose_spec (this i) hi'
   exact ⟨a,s,rfl,h1,h2,h3,h4⟩
theorem light04_ok {al:List Stp} (h:SV w p al) (hn:n=al.length):Calls Tryz.prog fathomlaw04_Light.id #[.slice p n c] w fun e w'=> ∃r:Bool,e= .returned (.bool r)∧Grow w w':=by
 subst hn
 refine fathomlaw04_Light.calls ⟨fun N I u z=> ∃i:Nat,I=i∧z=302 - i∧i≤301∧Grow w u,⟨_,0,rfl,rfl,by omega,Mod.refl w⟩,?_⟩
 rintro N I u z _ ⟨i,rfl,rfl,hi,g⟩
 have fin: ∀K:Value→World→Prop,(∀r,K (.bool r) u)→cnd (decide ((al.length:Int)≤(300:Int))) (K (.bool (decide (N≤(6000:Int)))) u) (K (.bool false) u):=fun K hK=>cnd_i (fun _=>hK _) (fun _=>hK _)
 refine cnd_i (fun r=>cnd_i (fun r2=> ?_) (fun _=>cnd_i (fun _=> ⟨_,rfl,g⟩) fun _=> ⟨_,rfl,g⟩)) (fun _=>cnd_i (fun _=> ⟨_,rfl,g⟩) fun _=> ⟨_,rfl,g⟩)
 have r:i<al.length:=by simpa using r
 have r2:i≤300:=by simp at r2;omega
 refine h.ix g rfl r fun a s hc h1 h2 h3=> ⟨_,_,_,CellsAt.get (hc u g) 1 _ rfl,cnd_i (fun _=> ⟨false,rfl,g⟩) (fun _=> ?_)⟩
 refine h.ix g rfl r fun a2 s2 hc2 _ _ _=> ⟨_,_,_,CellsAt.get (hc2 u g) 1 _ rfl,_,?_,i+1,wN (by omega) (by omega),rfl,by omega,g⟩
 omega
def mayP (al:List Stp):Bool:=al.all fun x=>clB x.2
theorem may04_ok {al:List Stp} (h:SV w p al) (hn:n=al.length) (hm:n≤1000):Calls Tryz.prog fathomref04_May.id #[.slice p n c] w fun e w'=>e= .returned (.bool (mayP al))∧Grow w w':=by
 subst hn
 refine fathomref04_May.calls ⟨fun I u z=> ∃i:Nat,I=i∧z=al.length - i∧i≤al.length∧Grow w u∧∀j,j<i→clB (al.getD j st0).2=true,⟨_,0,rfl,rfl,by omega,Mod.refl w,fun j hj=>by omega⟩,?_⟩
 rintro I u z _ ⟨i,rfl,rfl,hi,g,hall⟩
 refine cnd_i (fun r=> ?_) (fun r=> ?_)
 · have r:i<al.length:=by simpa using r
   refine h.ix g rfl r fun a s hc h1 h2 h3=> ⟨_,_,_,CellsAt.get (hc u g) 1 _ rfl,(refMay_ok (h3.grow g) h1 h2).mono ?_⟩
   rintro e w8 ⟨rfl,g8⟩
   refine ⟨_,rfl,cnd_i (fun r2=> ?_) (fun r2=> ⟨_,by omega,i+1,wN (by omega) (by omega),rfl,r,g.trans g8,fun j hj=> ?_⟩)⟩
   · have:mayP al=false:=by
      rw [← Bool.not_eq_true]
      intro e
      unfold mayP at e
      rw [List.all_eq_true] at e
      have hm:al.getD i st0∈al:=by simp [List.getD,r]
      have:=e _ hm
      rw [this] at r2;cases r2
     rw [this]
     exact ⟨rfl,g.trans g8⟩
   · by_cases e:j<i
     · exact hall j e
     · obtain rfl:j=i:=by omega
       simpa using r2
 · have r:i=al.length:=by simp at r;omega
   subst r
   have:mayP al=true:=by
    unfold mayP
    rw [List.all_eq_true]
    intro x hx
    obtain ⟨j,hj,rfl⟩:=List.mem_iff_getElem.1 hx
    have:=hall j hj
    simpa [List.getD,hj] using this
   rw [this,decide_eq_true (by omega)]
   exact ⟨rfl,g⟩
theorem tcheck1_ent:entB Tryz.prog trace_Check_1.id=true:=by kernel_rfl
theorem tcheck1_ok {b:Bool} (h:Vw (Value.int .i64) w p l) (hn:n=l.length) (hm:n≤maxLen):Calls Tryz.prog trace_Check_1.id #[.agg #[.bool b,.slice p n c]] w fun e w'=>e= .returned (.bool (!clB l))∧Grow w w':=by
 refine trace_Check_1.calls ?_
 intro n1 w2 h2
 refine ⟨_,_,_,cell_add h2.has rfl,(litCheck_ok (h.grow h2.mod) hn hm).mono ?_⟩
 rintro e w4 ⟨rfl,g⟩
 refine ⟨_,rfl,?_,h2.mod.trans g⟩
 cases clB l<;>rfl
theorem traceCheck_ok {al:List Stp} (h:SV w p al) (hn:n=al.length) (hm:n≤1000):Calls Tryz.prog trace_Check.id #[.slice p n c] w fun e w'=>e= .returned (.int .i64 (if mayP al then 0 else 1))∧Grow w w':=by
 subst hn
 refine trace_Check.calls (cnd_f (by simp;omega) ?_)
 refine (slices_ContainsFunc_fathom_api_Step_fathom_api_Step.calls (R:=fun e w'=>e= .returned (.bool (!mayP al))∧Grow w w') ?_).mono ?_
 · refine (slices_IndexFunc_fathom_api_Step_fathom_api_Step.calls (R:=fun e w'=> ∃r:Int,e= .returned (.int .i64 r)∧(decide (r≥0)= !mayP al)∧Grow w w') ?_).mono ?_
   · refine ⟨fun I u z=> ∃i:Nat,I=i∧z=al.length - i∧i≤al.length∧Grow w u∧∀j,j<i→clB (al.getD j st0).2=true,⟨_,0,rfl,rfl,by omega,Mod.refl w,fun j hj=>by omega⟩,?_⟩
     rintro I u z _ ⟨i,rfl,rfl,hi,g,hall⟩
     refine cnd_i (fun r=> ?_) (fun r=> ?_)
     · have r:i<al.length:=by simpa using r
       have hmem:al.getD i st0∈al:=by simp [List.getD,r]
       refine h.ix g rfl r fun a s hc h1 h2 h3=> ⟨_,_,_,_,hc u g,?_⟩
       rw [tcheck1_ent]
       show Calls _ _ _ _ _
       rw [args1]
       refine (tcheck1_ok (h3.grow g) h1 h2).mono ?_
       rintro e w9 ⟨rfl,g9⟩
       refine ⟨_,rfl,cnd_i (fun r2=> ⟨_,rfl,?_,g.trans g9⟩) (fun r2=> ⟨_,by omega,i+1,wN (by omega) (by omega),rfl,r,g.trans g9,fun j hj=> ?_⟩)⟩
       · have:mayP al=false:=by
          rw [← Bool.not_eq_true]
          intro e
          unfold mayP at e
          rw [List.all_eq_true] at e
          rw [e _ hmem] at r2;cases r2
         rw [this]
         simp
       · by_cases e:j<i
         · exact hall j e
         · obtain rfl:j=i:=by omega
           simpa using r2
     · have r:i=al.length:=by simp at r;omega
       subst r
       have:mayP al=true:=by
        unfold mayP
        rw [List.all_eq_true]
        intro x hx
        obtain ⟨j,hj,rfl⟩:=List.mem_iff_getElem.1 hx
        have:=hall j hj
        simpa [List.getD,hj] using this
       rw [this]
       exact ⟨_,rfl,by decide,g⟩
   · rintro e w1 ⟨r,rfl,hr,g⟩
     exact ⟨r,rfl,by rw [hr],g⟩
 · rintro e w1 ⟨rfl,g⟩
   refine ⟨_,rfl,cnd_i (fun r=> ?_) (fun r=> ?_)⟩
   · have:mayP al=false:=by simpa using r
     rw [this];exact ⟨rfl,g⟩
   · have:mayP al=true:=by simpa using r
     rw [this];exact ⟨rfl,g⟩
theorem cells2 {b:Nat} {x y:Value} (h:Has w b #[x,y]):CellsAt w ⟨b,0,none⟩ 0 [x,y]:=⟨cell_add h rfl,cell_add h rfl,trivial⟩
theorem small_ok (hc:V2 (Value.int .i64) w p hs cs) (hn:n=cs.length):Calls Tryz.prog fathomlaw07_Small.id #[.agg #[.int .i64 k,.slice p n d]] w fun e w'=> ∃r:Bool,e= .returned (.bool r)∧(r=true→cs.length≤40)∧Grow w w':=by
 subst hn
 refine fathomlaw07_Small.calls ?_
 intro n1 w2 h2
 refine ⟨_,_,_,_,cells2 h2.has,(light_ok (hc.grow h2.mod) rfl).mono ?_⟩
 rintro e w5 ⟨r,rfl,g⟩
 refine ⟨_,rfl,cnd_i (fun _=> ?_) (fun _=> ⟨false,rfl,fun e=> (by cases e),h2.mod.trans g⟩)⟩
 exact ⟨_,_,_,cell_add (h2.has.grow g) rfl,_,rfl,fun e=>by rw [decide_eq_true_eq] at e;omega,h2.mod.trans g⟩
theorem rupMay_ok (hc:V2 (Value.int .i64) w p hs cs) (hn:n=cs.length) (hl:Vw (Value.int .i64) w q l) (hm:m=l.length) (hm2:m≤maxLen) {c d:Nat}:Calls Tryz.prog rup_may.id #[.agg #[.int .i64 k,.slice p n d],.slice q m c] w fun e w'=>e= .returned (.bool (cnfB k cs && clB l))∧Grow w w':=by
 subst hn
 refine rup_may.calls ?_
 intro n1 w2 h2
 refine ⟨_,_,_,_,cells2 h2.has,(checkCnf_ok (hc.grow h2.mod) rfl).mono ?_⟩
 rintro e w5 ⟨rfl,g⟩
 refine ⟨_,rfl,?_⟩
 cases hcn:cnfB k cs with
 |false=>exact cnd_f rfl ⟨rfl,h2.mod.trans g⟩
 |true=>
  refine cnd_t rfl ((litCheck_ok (hl.grow (h2.mod.trans g)) hm hm2).mono ?_)
  rintro e w7 ⟨rfl,g7⟩
  refine ⟨_,rfl,?_,(h2.mod.trans g).trans g7⟩
  cases clB l<;>rfl
end Go.Proofs.YtenmibfmhccmiaaGreat.W
namespace Go.Proofs.YtenmibfmhccmiaaGreat.W
open Go Go.Fw Go.RowKit Go.SoP Go.LiP
variable {w w' w0 w2 w3:World} {p q:Option Addr} {n m c d:Nat} {k:Int} {hs ks:List Sl} {cs:List (List Int)} {l:List Int}
theorem tot_le {B:Nat}: ∀ {cs:List (List Int)},(∀c∈cs,c.length≤B)→tot cs≤cs.length*B
 | [],_=>by simp [tot]
 |x::cs,h=>by
  have:=tot_le (cs:=cs) fun c hc=>h c (List.mem_cons_of_mem _ hc)
  have h0:=h x (List.mem_cons_self ..)
  have e:tot (x::cs)=x.length+tot cs:=by simp [tot]
  rw [e,List.length_cons,Nat.succ_mul]
  omega
theorem cnf_lits (h:cnfB k cs=true): ∀c∈cs,c.length≤4096∧∀x∈c,litB x=true∧amt x≤k:=by
 unfold cnfB at h
 rw [Bool.and_eq_true,List.all_eq_true] at h
 intro c hc
 have:=h.2 c hc
 rw [Bool.and_eq_true,List.all_eq_true] at this
 have h2:=clB_all this.1
 exact ⟨h2.2,fun x hx=> ⟨h2.1 x hx,by simpa using this.2 x hx⟩⟩
theorem vmx_same {v:Int} {c:List Int} (h: ∀x∈c,amt x≤v):vmx v c=v:=by
 unfold vmx
 induction c with
 |nil=>rfl
 |cons x c ih=>
  rw [List.foldl_cons]
  have h0:=h x (List.mem_cons_self ..)
  have e:imax (imax v x) (-x)=v:=by
   unfold amt at h0;unfold imax
   split at h0<;>split<;>split<;>omega
  rw [e]
  exact ih fun y hy=>h y (List.mem_cons_of_mem _ hy)
theorem fold_same {v:Int}: ∀ {cs:List (List Int)},(∀c∈cs,∀x∈c,amt x≤v)→cs.foldl vmx v=v
 | [],_=>rfl
 |x::cs,h=>by
  rw [List.foldl_cons,vmx_same (h x (List.mem_cons_self ..))]
  exact fold_same fun c hc=>h c (List.mem_cons_of_mem _ hc)
theorem V2.one {b:Nat} (h:Has w b #[.slice q m c]) (hl:Vw (Value.int .i64) w q l) (hm:m=l.length) (hm2:m≤maxLen):V2 (Value.int .i64) w (some ⟨b,0,none⟩) [⟨q,m,c⟩] [l]:=by
 refine ⟨fun j hj=> ?_,rfl,fun j hj=> ?_⟩
 · have:j=0:=by simpa using hj
   subst this
   exact ⟨_,rfl,cell_add h rfl⟩
 · have:j=0:=by simpa using hj
   subst this
   exact ⟨hm,hm2,hl⟩
theorem begin1_ok {b:Nat} (hcn:cnfB k cs=true) (h40:cs.length≤200) (hc:V2 (Value.int .i64) w p hs cs) (hb:Has w b #[.slice q m c]) (hl:Vw (Value.int .i64) w q l) (hm:m=l.length) (hcl:clB l=true):
 Calls Tryz.prog rup_begin.id #[.agg #[.int .i64 k,.slice p cs.length d],.slice (some ⟨b,0,none⟩) 1 1] w fun e w'=> ∃ (nb:Nat) (id:List (Int × Int)),e= .returned (ptrV nb)∧Wk true (fun _=>False) w w' nb k id cs cs.length∧(∀x∈l,litB x=true∧Nt id x):=by
 have hL:=cnf_lits hcn
 have hcl':=clB_all hcl
 have h1:=tot_le (cs:=cs) (B:=4096) fun c hc=> (hL c hc).1
 have h2:tot [l]=l.length:=by simp [tot]
 have h3:cs.length*4096≤200*4096:=Nat.mul_le_mul_right _ h40
 refine (begin_ok hc rfl (V2.one hb hl hm (by rw [hm];unfold maxLen;omega)) rfl (fun c hc=> ⟨(hL c hc).1,fun x hx=> ((hL c hc).2 x hx).1⟩) (fun c hc=>by rw [List.mem_singleton] at hc;subst hc;exact hcl'.1) (by omega) (by simp) (by omega)).mono ?_
 rintro e w' ⟨nb,id,rfl,hW,hN⟩
 rw [fold_same fun c hc x hx=> ((hL c hc).2 x hx).2] at hW
 exact ⟨nb,id,rfl,hW,fun x hx=> ⟨hcl'.1 x hx,hN l (by simp) x hx⟩⟩
theorem rupUnit_ok (hc:V2 (Value.int .i64) w p hs cs) (hn:n=cs.length) (h40:cs.length≤200) (hl:Vw (Value.int .i64) w q l) (hm:m=l.length) (hm2:m≤maxLen):
 Calls Tryz.prog rup_Unit.id #[.agg #[.int .i64 k,.slice p n d],.slice q m c] w fun e w'=> ∃r:Bool,e= .returned (.bool r)∧(r=true↔cnfB k cs=true∧clB l=true∧uB cs l)∧Grow w w':=by
 subst hn
 refine rup_Unit.calls ?_
 intro n1 w2 h2
 refine ⟨_,_,_,_,cells2 h2.has,(rupMay_ok (hc.grow h2.mod) rfl (hl.grow h2.mod) hm hm2).mono ?_⟩
 rintro e w5 ⟨rfl,g5⟩
 have G5:=h2.mod.trans g5
 refine ⟨_,rfl,cnd_i (fun r=> ?_) (fun r=> ⟨false,rfl,⟨fun e=> (by cases e),fun h=>by rw [h.1,h.2.1] at r;cases r⟩,G5⟩)⟩
 rw [Bool.and_eq_true] at r
 refine ⟨_,_,_,_,cells2 (h2.has.grow g5),?_⟩
 intro n9 w10 h10
 have G10:=G5.trans h10.mod
 refine (begin1_ok r.1 h40 (hc.grow G10) h10.has (hl.grow G10) hm r.2).mono ?_
 rintro e w11 ⟨nb,id,rfl,hW,hN⟩
 have hcl':=clB_all r.2
 refine ⟨_,rfl,(hW.unit (hl.grow G10) hm (by omega) hN).mono ?_⟩
 rintro e w13 ⟨b,rfl,hr,hW2,_⟩
 exact ⟨b,rfl,b,rfl,hr.trans ⟨fun h=> ⟨r.1,r.2,h⟩,fun h=>h.2.2⟩,G10.trans hW2.wg⟩
open Classical in
noncomputable def stepE (cs:List (List Int)) (s:Stp):Int:=if s.1=true∨uB cs s.2∨fB cs s.2 then 0 else 7
open Classical in
noncomputable def stepC (cs:List (List Int)) (s:Stp):List (List Int):=if s.1=true then delP s.2 cs else if uB cs s.2∨fB cs s.2 then cs++ [s.2] else cs
open Classical in
noncomputable def stepV (k:Int) (cs:List (List Int)) (s:Stp):Int:=if s.1=false∧(uB cs s.2∨fB cs s.2) then vmx k s.2 else k
theorem step_del {s:Stp} (h:s.1=true):stepE cs s=0∧stepC cs s=delP s.2 cs∧stepV k cs s=k:=by
 unfold stepE stepC stepV
 exact ⟨if_pos (.inl h),if_pos h,if_neg fun e=>by rw [h] at e;cases e.1⟩
theorem step_add {s:Stp} (h:s.1=false) (h2:uB cs s.2∨fB cs s.2):stepE cs s=0∧stepC cs s=cs++ [s.2]∧stepV k cs s=vmx k s.2:=by
 unfold stepE stepC stepV
 exact ⟨if_pos (.inr h2),by rw [if_neg (by rw [h];simp),if_pos h2],if_pos ⟨h,h2⟩⟩
theorem step_bad {s:Stp} (h:s.1=false) (h2: ¬(uB cs s.2∨fB cs s.2)):stepE cs s=7∧stepC cs s=cs∧stepV k cs s=k:=by
 unfold stepE stepC stepV
 exact ⟨if_neg fun e=>e.elim (fun e=>by rw [h] at e;cases e) h2,by rw [if_neg (by rw [h];simp),if_neg h2],if_neg fun e=>h2 e.2⟩
theorem Wk.step {A:Nat→Prop} {W:World} {nb:Nat} {vars:Int} {id:List (Int × Int)} {kk:Nat} {s:Stp} (h:Wk true A W w nb vars id cs kk) (hc:Vw (Value.int .i64) W q s.2) (hn:n=s.2.length) (hlen:s.2.length≤4096) (hl: ∀x∈s.2,litB x=true∧Nt id x) (hk:kk<262144):
 Calls Tryz.prog rup_base_do.id #[ptrV nb,.agg #[.bool s.1,.slice q n c]] w fun e w'=>e= .returned (.int .i64 (stepE cs s))∧Mod (fun j=> ¬A j) w w'∧∃t:Bool,(stepE cs s=0→(s.1=true∨s.2≠[])→t=true)∧Wk t A W w' nb (stepV vars cs s) id (stepC cs s) (kk+1):=by
 refine (h.do' hc hn hlen hl hk).mono ?_
 rintro e w' ⟨r,rfl,m,h⟩
 rcases h with ⟨h1,rfl,h3⟩| ⟨h1,h2,rfl,h3⟩| ⟨h1,h2,rfl,h3⟩
 · obtain ⟨e1,e2,e3⟩:=step_del (cs:=cs) (k:=vars) h1
   rw [e1,e2,e3]
   exact ⟨rfl,m,true,fun _ _=>rfl,h3.up⟩
 · obtain ⟨e1,e2,e3⟩:=step_add (k:=vars) h1 h2
   rw [e1,e2,e3]
   exact ⟨rfl,m,_,fun _ hh=> (by rcases hh with hh|hh;(rw [h1] at hh;cases hh);simpa using hh),h3⟩
 · obtain ⟨e1,e2,e3⟩:=step_bad (k:=vars) h1 h2
   rw [e1,e2,e3]
   exact ⟨rfl,m,_,fun hh=>absurd hh (by decide),h3.up⟩
end Go.Proofs.YtenmibfmhccmiaaGreat.W
namespace Go.Proofs.YtenmibfmhccmiaaGreat.W
open Go Go.Fw Go.RowKit Go.SoP Go.LiP
variable {w w' w0 w2 w3:World} {p q:Option Addr} {n m c d:Nat} {k:Int} {hs ks:List Sl} {cs:List (List Int)} {l:List Int}
noncomputable def pvP:List (List Int)→List Stp→Int × Int
 |_,[]=> (0,4)
 |cs,s::l=>if stepE cs s≠0 then (0,stepE cs s) else if s.1=false∧s.2= [] then (0,0) else ((pvP (stepC cs s) l).1+1,(pvP (stepC cs s) l).2)
theorem drop_cons {α:Type} {l:List α} {i:Nat} (h:i<l.length) (d:α):l.drop i=l.getD i d::l.drop (i+1):=by
 rw [List.drop_eq_getElem_cons h];simp [List.getD,h]
def Way (cs:List (List Int)) (al:List Stp) (i:Nat) (ci:List (List Int)):Prop:=pvP cs al=((i:Int)+ (pvP ci (al.drop i)).1,(pvP ci (al.drop i)).2)
theorem Way.zero (cs:List (List Int)) (al:List Stp):Way cs al 0 cs:=by unfold Way;simp
theorem Way.bad {al:List Stp} {i:Nat} {ci:List (List Int)} (h:Way cs al i ci) (hi:i<al.length) (he:stepE ci (al.getD i st0)≠0):pvP cs al=((i:Int),stepE ci (al.getD i st0)):=by
 unfold Way at h
 rw [h,drop_cons hi st0,pvP,if_pos he];simp
theorem Way.fin {al:List Stp} {i:Nat} {ci:List (List Int)} (h:Way cs al i ci) (hi:i<al.length) (he:stepE ci (al.getD i st0)=0) (h1:(al.getD i st0).1=false∧(al.getD i st0).2= []):pvP cs al=((i:Int),0):=by
 unfold Way at h
 rw [h,drop_cons hi st0,pvP,if_neg (by simpa using he),if_pos h1];simp
theorem Way.next {al:List Stp} {i:Nat} {ci:List (List Int)} (h:Way cs al i ci) (hi:i<al.length) (he:stepE ci (al.getD i st0)=0) (h1: ¬((al.getD i st0).1=false∧(al.getD i st0).2= [])):Way cs al (i+1) (stepC ci (al.getD i st0)):=by
 unfold Way at*
 rw [h,drop_cons hi st0,pvP,if_neg (by simpa using he),if_neg h1]
 congr 1
 simp
 omega
theorem Way.all {al:List Stp} {ci:List (List Int)} (h:Way cs al al.length ci):pvP cs al=((al.length:Int),4):=by
 unfold Way at h
 rw [h,List.drop_length,pvP];simp
theorem rupProves_ok {al:List Stp} (hc:V2 (Value.int .i64) w p hs cs) (hn:n=cs.length) (h40:cs.length≤40) (hl:SV w q al) (hm:m=al.length) (hm2:m≤30):
 Calls Tryz.prog rup_Proves.id #[.agg #[.int .i64 k,.slice p n d],.slice q m c] w fun e w'=>e= .returned (.tuple #[.int .i64 (if cnfB k cs && mayP al then pvP cs al else (0,1)).1,.int .i64 (if cnfB k cs && mayP al then pvP cs al else (0,1)).2])∧Grow w w':=by
 subst hn hm
 refine rup_Proves.calls ?_
 intro n1 w2 h2
 have e1:=h2.num
 refine ⟨_,_,_,_,cells2 h2.has,(checkCnf_ok (hc.grow h2.mod) rfl).mono ?_⟩
 rintro e w5 ⟨rfl,g5⟩
 have G5:=h2.mod.trans g5
 refine ⟨_,rfl,?_⟩
 cases hcn:cnfB k cs with
 |false=>exact cnd_t rfl ⟨rfl,G5⟩
 |true=>
 refine cnd_f rfl ((traceCheck_ok (hl.grow G5) rfl (by omega)).mono ?_)
 rintro e w7 ⟨rfl,g7⟩
 have G7:=G5.trans g7
 refine ⟨_,rfl,?_⟩
 cases hmy:mayP al with
 |false=>exact cnd_t rfl ⟨rfl,G7⟩
 |true=>
 have hmy': ∀x∈al,clB x.2=true:=by
  have:=hmy
  unfold mayP at this
  rwa [List.all_eq_true] at this
 refine cnd_f rfl ?_
 have gm: ∀i,i<al.length→al.getD i st0∈al:=fun i hi=>by simp [List.getD,hi]
 have z5:=G5.size
 have z7:=g7.size
 refine ⟨fun P N C I u z=> ∃ (i:Nat) (hs:List Sl),I=i∧i≤al.length∧z=al.length - i∧i=N∧hs.length=i∧Grow w7 u∧OV (Value.int .i64) ty_sl_int u P C hs ((al.take i).map (·.2))∧(∀j,blk P=some j→w7.heap.size≤j),
  ⟨_,0,[],rfl,Nat.zero_le _,rfl,rfl,rfl,Mod.refl _,OV.nil,fun j hj=>by simp [blk] at hj⟩,?_⟩
 rintro P N C I u z _ ⟨i,hs2,rfl,hi,rfl,rfl,hlen,gu,o,fP⟩
 have Gu:=G7.trans gu
 refine cnd_i (fun r=> ?_) (fun r=> ?_)
 · have r:i<al.length:=by simpa using r
   refine hl.ix Gu rfl r fun a s hcA h1 h2' h3=> ⟨_,_,_,_,hcA u Gu,?_⟩
   intro n18 w19 h19
   refine store_i h19.has rfl rfl fun w20 b20 m20=> ⟨_,_,_,cell_add b20 rfl,?_⟩
   have e18:=h19.num
   have g20:Grow u w20:=h19.mod.then m20 fun j hj e=>by omega
   intro n22 w23 h23
   have G23:Grow u w23:=g20.trans h23.mod
   have zu:=gu.size
   refine (o.grow G23).app sl_sl_int (ns:= [⟨s.p,s.n,s.c⟩]) (nrows:= [(al.getD i st0).2]) (q:=some ⟨n22,0,none⟩) (m:=1) (k:=1) (fun j hj=>by
    have:j=0:=by simpa using hj
    subst this
    exact ⟨_,rfl,cell_add h23.has rfl⟩) (VR.one (h3.grow (Gu.trans G23)) h1 h2') hlen.symm rfl (fun j hj e=> ?_) (by simp;omega) fun w24 P' C' o24 m24 hP' hz'=> ?_
   · obtain ⟨x,hx,h0,hk⟩:=hj
     rw [List.mem_singleton] at hx
     subst hx
     have h0:0<s.n:=h0
     have:=h3.lt (fun e3=>by rw [e3] at h1;simp at h1;omega) j hk
     have:=fP j e
     omega
   · have z23:=G23.size
     have hst:(al.take (i+1)).map (·.2)=(al.take i).map (·.2)++ [(al.getD i st0).2]:=by rw [take_snoc r st0,List.map_append];rfl
     rw [← hst] at o24
     refine ⟨_,?_,i+1,_,wN (by omega) (by omega),r,rfl,by simp [hlen],by simp [hlen],(gu.trans G23).then m24 fun j hj e=>by have:=fP j e;omega,o24,fun j hj=> ?_⟩
     · omega
     · rcases hP' with rfl|rfl
       · exact fP j hj
       · have:=blk_some hj;omega
 have r:i=al.length:=by simp at r;omega
 subst r
 rw [List.take_length] at o
 have b1:Has u n1 _:=(h2.has.grow (g5.trans g7)).grow gu
 refine ⟨_,_,_,_,cells2 b1,?_⟩
 have hL:=cnf_lits hcn
 have t1:=tot_le (cs:=cs) (B:=4096) fun c hc=> (hL c hc).1
 have t2:=tot_le (cs:=al.map (·.2)) (B:=4096) fun c hc=>by
  obtain ⟨x,hx,rfl⟩:=List.mem_map.1 hc
  exact (clB_all (hmy' x hx)).2
 have t3:cs.length*4096≤40*4096:=Nat.mul_le_mul_right _ h40
 rw [List.length_map] at t2
 have t4:al.length*4096≤30*4096:=Nat.mul_le_mul_right _ hm2
 refine (begin_ok (hc.grow Gu) rfl o.v2 (by simp) (fun c hc=> ⟨(hL c hc).1,fun x hx=> ((hL c hc).2 x hx).1⟩) (fun c hc=>by
  obtain ⟨x,hx,rfl⟩:=List.mem_map.1 hc
  exact (clB_all (hmy' x hx)).1) (by omega) (by simp;omega) (by omega)).mono ?_
 rintro e w28 ⟨nb,id,rfl,hW,hN⟩
 rw [fold_same fun c hc x hx=> ((hL c hc).2 x hx).2] at hW
 refine ⟨_,rfl,?_⟩
 refine ⟨fun I v z=> ∃ (i:Nat) (ci:List (List Int)) (vi:Int),I=i∧i≤al.length∧z=al.length - i∧Wk true (fun _=>False) u v nb vi id ci (cs.length+i)∧Way cs al i ci,⟨_,0,cs,k,rfl,Nat.zero_le _,rfl,hW,Way.zero cs al⟩,?_⟩
 rintro I v z _ ⟨i,ci,vi,rfl,hi,rfl,hWi,way⟩
 have Gv:=Gu.trans hWi.wg
 refine cnd_i (fun r=> ?_) (fun r=> ?_)
 · have r:i<al.length:=by simpa using r
   have hmem:=gm i r
   have hcl:=clB_all (hmy' _ hmem)
   refine hl.ix Gv rfl r fun a s hcA h1 h2' h3=> ⟨_,_,_,_,hcA v Gv,?_⟩
   intro n38 w39 h39
   have e38:=h39.num
   refine store_i h39.has rfl rfl fun w40 b40 m40=> ⟨_,_,_,_,cells2 b40,?_⟩
   have g40:Grow v w40:=h39.mod.then m40 fun j hj e=>by omega
   have i38:=b40.lt
   refine ((hWi.enter g40).step (s:=al.getD i st0) (h3.grow Gu) h1 hcl.2 (fun x hx=> ⟨hcl.1 x hx,hN _ (List.mem_append_right _ (List.mem_map_of_mem hmem)) x hx⟩) (by omega)).mono ?_
   rintro e w43 ⟨rfl,m43,t,ht,h43⟩
   have b43:Has w43 n38 _:=b40.keep m43 fun e=>e (.inr ⟨by omega,i38⟩)
   have G43:=Gu.trans h43.wg
   have h43':=h43.less (A':=fun _=>False) fun j hj=>hj.elim
   refine ⟨_,rfl,cnd_i (fun r2=> ?_) (fun r2=> ?_)⟩
   · have r2:stepE ci (al.getD i st0)≠0:=by simpa using r2
     have:=way.bad r r2
     simp only [Bool.and_self,if_true]
     rw [this]
     exact ⟨rfl,G43⟩
   · have r2:stepE ci (al.getD i st0)=0:=by simpa using r2
     have next: ¬((al.getD i st0).1=false∧(al.getD i st0).2= [])→∃k32,k32<al.length - i∧∃ (i':Nat) (ci':List (List Int)) (vi':Int),IntKind.i64.wrap ((i:Int)+1)=i'∧i'≤al.length∧k32=al.length - i'∧Wk true (fun _=>False) u w43 nb vi' id ci' (cs.length+i')∧Way cs al i' ci':=fun hne=>by
      have hh:(al.getD i st0).1=true∨(al.getD i st0).2≠[]:=by
       cases h:(al.getD i st0).1 with
       |true=>exact .inl rfl
       |false=>exact .inr fun e=>hne ⟨h,e⟩
      have:=ht r2 hh
      subst this
      exact ⟨_,by omega,i+1,_,_,wN (by omega) (by omega),r,rfl,h43',way.next r r2 hne⟩
     refine ⟨_,cell_add b43 rfl,cnd_i (fun r3=> ?_) (fun r3=>next fun e=>by rw [e.1] at r3;cases r3)⟩
     have r3:(al.getD i st0).1=false:=by simpa using r3
     refine ⟨_,_,_,cell_add b43 rfl,cnd_i (fun r4=> ?_) (fun r4=>next fun e=> ?_)⟩
     · have r4:(al.getD i st0).2= []:=by
        have:(s.n:Int)=0:=by simpa using r4
        exact List.eq_nil_of_length_eq_zero (by omega)
       have:=way.fin r r2 ⟨r3,r4⟩
       simp only [Bool.and_self,if_true]
       rw [this]
       exact ⟨rfl,G43⟩
     · have:(s.n:Int)≠0:=by simpa using r4
       rw [e.2] at h1
       simp at h1
       omega
 · have r:i=al.length:=by simp at r;omega
   subst r
   simp only [Bool.and_self,if_true]
   rw [way.all]
   exact ⟨rfl,Gv⟩
end Go.Proofs.YtenmibfmhccmiaaGreat.W
