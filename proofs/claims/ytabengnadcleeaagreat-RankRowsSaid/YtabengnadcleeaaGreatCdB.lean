/- Layer 14: a search notes what follows; it goes back; it decides; it notes a model. -/
import Derived.Test.YtabengnadcleeaaGreatCdA
import Derived.RangeFuncBox
import Derived.RangeFuncLeaves
import Derived.Shelf.Abstract
import Derived.WalkKit
import Derived.OwnWalkIn
import Derived.TacticsInMore
import Derived.LoopNIn
import Derived.LoopIn
namespace Go.Proofs.YtabengnadcleeaaGreat.W
open Go Go.Fw Go.RowKit Go.SoP Go.LiP Go.LeP
open Go.Proofs.Tryz (prog)
open Go.IntKind (i64)
section
variable {w0 w w' w1 w2:World} {B N:Nat} {L L':Nat→Nat} {x:Xs} {l:List Int}
theorem sl_stepC:slOkN prog ty_sl_api_Step ty_api_Step 2 32=true:=by kernel_rfl
theorem ps_vr {u:Ps} {b:Nat} (h:Has w b #[.bool u.1,u.2.1.v]):Vr 2 psE w (some ⟨b,0,none⟩) [u]:=by
 intro j hj
 have:j=0:=by simpa using hj
 subst this
 exact ⟨_,rfl,cell_add h rfl,cell_add h rfl,trivial⟩
theorem told_app (h:SR w0 w B L N x) (hp:x.pr.length≤1000000000) (del:Bool) {sl:Sl} (ro:RO w L sl l) {b:Nat} (hb:Has w b #[.bool del,sl.v]) {K:World→Prop}
 (hk: ∀w' L' q,SR w0 w' B L' N {x with ps:=q,pr:=x.pr++ [(del,sl,l)]}→Kp w0 w w' L L'→K w'):
 ∃w8 r9p r9n r9c,(Builtin.append_ #[61,61] 61 #[.slice x.ps.p x.ps.n x.ps.c,.slice (some (Addr.mk b 0 none)) 1 1]).run prog w= .ok (.slice r9p r9n r9c) w8∧
  ∃a10,(some (Addr.mk B 0 none))=some a10∧∃w11,StoreAt ((a10.add 14).add 2) 0 [.slice r9p r9n r9c] w8 w11∧K w11:=by
 obtain ⟨r1,r2,r3⟩:=h.pr id
 refine Row.app psEnc sl_stepC r1 (ps_vr (u:=(del,sl,l)) hb) r2 rfl (by simp;omega) fun w8 p' c' o8 m8 hp' hz'=> ⟨_,rfl,?_⟩
 have hB8:Has w8 B x.cells:=h.at.keep m8 fun e=>by have:=(r3 B e).1;rw [h.ml.1] at this;exact absurd this (by decide)
 refine store_f2 hB8 rfl rfl fun w11 h11 m11=> ?_
 have:=h.proof (q:=⟨p',(x.pr++ [(del,sl,l)]).length,c'⟩) (pr':=x.pr++ [(del,sl,l)]) m8 o8 rfl (fr_of hp' (Nat.le_refl _)) (fun u hu=>by
  rcases List.mem_append.1 hu with hu|hu
  · exact h.rr id u hu
  · rw [List.mem_singleton] at hu;subst hu;exact ro) h11 m11 (h.neB (by decide) r3 hp' (Nat.le_refl _))
 exact hk _ _ _ this.1 this.2
theorem told_ok (h:SR w0 w B L N x) (hp:x.pr.length≤1000000000) {p:Option Addr} {n c:Nat} (hv:Vw (Value.int .i64) w p l) (hn:n=l.length) (hx:n≤1000000):
 Calls prog cdcl_search_told.id #[ptrV B,.slice p n c] w fun e w'=>e= .returned (.tuple #[])∧∃L' q sl,SR w0 w' B L' N {x with ps:=q,pr:=x.pr++ [(false,sl,l)]}∧Kp w0 w w' L L':=by
 refine cdcl_search_told.calls ?_
 have D:=h.drew
 refine ⟨fun u=>Grow w.drew u,Mod.refl _,_,rfl,_,_,_,fun u g=>cell_add2 (D.at.grow g) rfl,(clone_ok hv.drew hn hx).mono ?_⟩
 rintro e w4 ⟨q,d,rfl,o4,g4,f4⟩
 refine ⟨_,_,_,rfl,g4,fun n6 w7 h7=> ?_⟩
 have G7:=g4.trans h7.mod
 refine ⟨G7,?_⟩
 have S7:=D.new G7 9
 have ro:RO w7 (reL L w.drew.heap.size 9) ⟨q,l.length,d⟩ l:=⟨rfl,(o4.grow h7.mod).vw,fun k hk=> ⟨reL_new (f4 k hk),Nat.lt_of_lt_of_le (o4.lt k hk) h7.mod.size⟩⟩
 refine told_app S7 hp false ro h7.has fun w' L' q' S' k'=> ⟨rfl,L',q',_,S',?_⟩
 exact ((Chg.grow (Mod.refl w).drew).trans (Chg.new G7 9)).trans k'
end
section
variable {w0 w w' w1 w2:World} {B N:Nat} {L L':Nat→Nat} {x:Xs} {l:List Int}
theorem imax_amt {y:Int} (h1: -1048576≤y) (h2:y≤1048576):imax y (i64.wrap (0 - y))=amt y:=by
 rw [wrap64_of (by omega) (by omega)]
 unfold imax amt
 split<;>split<;>omega
theorem blk_addm {q:Option Addr} {i:Nat}:blk (q.map (·.add i))=blk q:=by
 cases q with
 |none=>rfl
 |some a=>simp [blk,add_block]
structure R9 (w:World) (L:Nat→Nat) (p:Option Addr):Prop where
 l: ∀k,blk p=some k→L k=9∧k<w.heap.size
theorem Chg.r9 (k:Kp w0 w w' L L') {p:Option Addr} (r:R9 w L p):R9 w' L' p:=⟨fun b hb=> ⟨by rw [k.lab b (r.l b hb).2];exact (r.l b hb).1,Nat.lt_of_lt_of_le (r.l b hb).2 k.mod.size⟩⟩
theorem Chg.no (k:Kp w0 w w' L L') {p:Option Addr} (r:R9 w L p): ∀b,blk p=some b→¬(L b≠9∧w0.heap.size≤b):=fun b hb e=>e.1 (r.l b hb).1
theorem Chg.vw (k:Kp w0 w w' L L') {p:Option Addr} {α:Type} {f:α→Value} {m:List α} (v:Vw f w p m) (r:R9 w L p):Vw f w' p m:=v.keep k.mod (k.no r)
theorem Chg.has (k:Kp w0 w w' L L') {b:Nat} {cs:Array Value} (h:Has w b cs) (r:L b=9):Has w' b cs:=h.keep k.mod fun e=>e.1 r
theorem Chg.ro (k:Kp w0 w w' L L') {s:Sl} {c:List Int} (h:RO w L s c):RO w' L' s c:=RO.keep h k (by simp)
theorem Kp.refl:Kp w0 w w L L:=Chg.grow (Mod.refl w)
theorem SR.push (h:SR w0 w B L N x) {v:Int} (h1:1≤v) (h2:v≤N):Calls prog heap_Heap_Push.id #[Hp.ptr x.hb,.int .i64 v] w fun e w'=> ∃r:Int,e= .returned (.int .i64 r)∧
 ∃L',SR w0 w' B L' N {x with S:=fun u=>x.S u∨u=v}∧Kp w0 w w' L L':=by
 obtain ⟨z,z1,z2,z3,z4⟩:=h.hp id
 refine (Hp.push_ok z1 z2 v ⟨h1,h2⟩).mono ?_
 rintro e w' ⟨rfl,y,y1,y2,y3,y4,y5⟩
 have:=h.heap z4 z1.lt y1 y2 (S':=fun u=>x.S u∨u=v) (fun u u1 u2=>by rw [y3.has u u1 u2,z3 u u1 u2]) y4 y5
 exact ⟨_,rfl,_,this.1,this.2⟩
theorem SR.trail (h:SR w0 w B L N x) (g:Good x.s) (hN:x.s.vars≤1000000):Calls prog prop_Prop_Trail.id #[ptrV x.pb] w fun e w'=> ∃ (q:Option Addr) (d:Nat),e= .returned (.slice q (x.s.R .tr).length d)∧OwI ty_int w' q d (x.s.R .tr)∧Grow w w'∧
 ∃L',SR w0 w' B L' N x∧Kp w0 w w' L L'∧R9 w' L' q:=by
 obtain ⟨H,pm,_⟩:=h.pm id
 have:=g.trl
 refine (trail_ok pm (by omega)).mono ?_
 rintro e w' ⟨q,d,rfl,o,g',f⟩
 exact ⟨q,d,rfl,o,g',_,h.new g' 9,Chg.new g' 9,⟨fun k hk=> ⟨reL_new (f k hk),o.lt k hk⟩⟩⟩
def backTo (s:PSt) (lev:Int):PSt:=if (max 0 lev).toNat< (s.R .be).length then s.back (max 0 lev).toNat else s
theorem backTo_good {s:PSt} (g:Good s) (lev:Int):Good (backTo s lev):=by
 unfold backTo
 split
 · exact back_good g (by assumption)
 · exact g
theorem backTo_tr {s:PSt} (lev:Int): ∃k,(backTo s lev).R .tr=(s.R .tr).take k∧(backTo s lev).vars=s.vars:=by
 unfold backTo
 split
 · exact ⟨_,back_tr,rfl⟩
 · exact ⟨_,List.take_length.symm,rfl⟩
theorem SR.goback (h:SR w0 w B L N x) (g:Good x.s) (lev:Int):Calls prog prop_Prop_Back.id #[ptrV x.pb,.int .i64 lev] w fun e w'=>e= .returned (.tuple #[])∧∃L',SR w0 w' B L' N {x with s:=backTo x.s lev}∧Kp w0 w w' L L':=by
 obtain ⟨H,pm,hl⟩:=h.pm id
 refine (back_ok pm g lev).mono ?_
 rintro e w' ⟨rfl,H',p⟩
 have:=h.prop hl pm.lt p
 exact ⟨rfl,_,this.1,this.2⟩
theorem cback_ok (h:SR w0 w B L N x) (g:Good x.s) (hv:x.s.vars=N) (hN:N≤1000) (hph:x.ph.length=N+1) (lev:Int):Calls prog cdcl_search_back.id #[ptrV B,.int .i64 lev] w fun e w'=>e= .returned (.tuple #[])∧
 ∃L' S' ph',SR w0 w' B L' N {x with s:=backTo x.s lev,S:=S',ph:=ph'}∧Kp w0 w w' L L'∧ph'.length=N+1∧(∀v,x.S v→S' v)∧∀y∈x.s.R .tr,y ∉ (backTo x.s lev).R .tr→S' (amt y):=by
 refine cdcl_search_back.calls ⟨_,rfl,_,cell_add h.at rfl,(h.trail g (by omega)).mono ?_⟩
 rintro e w3 ⟨q,d,rfl,o3,g3,L3,S3,k3,r3⟩
 refine ⟨_,_,_,rfl,_,rfl,_,cell_add S3.at rfl,(S3.goback g lev).mono ?_⟩
 rintro e w7 ⟨rfl,L7,S7,k7⟩
 obtain ⟨kk,ek,ev⟩:=backTo_tr (s:=x.s) lev
 refine ⟨rfl,_,rfl,_,cell_add S7.at rfl,(S7.trail (backTo_good g lev) (by show (backTo x.s lev).vars≤_;omega)).mono ?_⟩
 rintro e w10 ⟨q2,d2,rfl,o10,g10,L10,S10,k10,r10⟩
 refine ⟨_,_,_,rfl,?_⟩
 have S10:SR w0 w10 B L10 N {x with s:=backTo x.s lev}:=S10
 have hle:((backTo x.s lev).R .tr).length≤(x.s.R .tr).length:=by rw [ek,List.length_take];omega
 have K10:=k7.trans k10
 have hcap:=o3.cap
 have hd:(x.s.R .tr).length≤d:=by
  rcases o3.un with ⟨_,_,e⟩| ⟨_,_,_,_,h1,_⟩
  · rw [e];exact Nat.zero_le _
  · exact h1
 obtain ⟨m,em⟩: ∃m,((backTo x.s lev).R .tr).length=m:=⟨_,rfl⟩
 rw [em] at hle
 show slK q (x.s.R .tr).length d 1 (some ((((backTo x.s lev).R .tr).length:Nat):Int)) none none _
 rw [em]
 obtain ⟨D,hD⟩: ∃D,D=(x.s.R .tr).drop m:=⟨_,rfl⟩
 have V3:Vw (Value.int .i64) w3 (q.map (·.add (m*1))) D:=by
  have:=o3.vw.part (i:=m) (m:=(x.s.R .tr).length - m) (by omega)
  rw [List.take_of_length_le (by rw [List.length_drop];omega)] at this
  rw [hD];exact this
 have htl:=g.trl
 have lD:D.length=(x.s.R .tr).length - m:=by rw [hD,List.length_drop]
 have V3':Vw (Value.int .i64) w3 (if d=m then q else q.map (·.add (m*1))) D:=by
  by_cases e:d=m
  · have:D= []:=List.eq_nil_of_length_eq_zero (by omega)
    rw [this];exact Vw.nil
  · rw [if_neg e];exact V3
 have R3:R9 w3 L3 (if d=m then q else q.map (·.add (m*1))):=by
  by_cases e:d=m
  · rw [if_pos e];exact r3
  · rw [if_neg e];exact ⟨fun b hb=>r3.l b (by rw [blk_addm] at hb;exact hb)⟩
 have V10:=K10.vw V3' R3
 have R10:=K10.r9 R3
 refine slK_i m (x.s.R .tr).length d rfl rfl rfl (Nat.le_refl _) hd hle ?_
 have hDt: ∀y∈D,InV N y:=fun y hy=>by have:=g.tv y (by rw [hD] at hy;exact List.mem_of_mem_drop hy);rwa [hv] at this
 refine ⟨fun V u z=> ∃ (t:Nat) (L':Nat→Nat) (S':Int→Prop) (ph':List Int),V=t∧t≤D.length∧z=D.length - t∧SR w0 u B L' N {x with s:=backTo x.s lev,S:=S',ph:=ph'}∧Kp w0 w10 u L10 L'∧ph'.length=N+1∧(∀v,x.S v→S' v)∧∀j,j<t→S' (amt (D.getD j 0)),
  ⟨_,0,L10,x.S,x.ph,rfl,Nat.zero_le _,rfl,S10,Kp.refl,hph,fun _ h=>h,fun j hj=>by omega⟩,?_⟩
 rintro V u z _ ⟨t,L1,S1,ph1,rfl,ht,rfl,SS,kk1,hl1,hs1,hj1⟩
 refine cnd_i (fun r=> ?_) (fun r=> ?_)
 · have r:t<D.length:=by simp at r;omega
   have V1:=kk1.vw V10 R10
   refine V1.ix 0 (by omega) (by omega) (by omega) fun a ha=> ⟨_,ha,?_⟩
   rw [Int.toNat_natCast]
   obtain ⟨y,hy⟩: ∃y,D.getD t 0=y:=⟨_,rfl⟩
   have hym:y∈D:=by rw [← hy];simp [List.getD,r]
   have hiv:=hDt y hym
   have hb:=hiv.bd (by omega)
   have ha1:=hiv.amt
   obtain ⟨p1,p2,p3⟩:=SS.ph id
   have p2:x.php.n=ph1.length:=p2
   rw [hy]
   refine ⟨_,rfl,_,_,_,cell_add SS.at rfl,?_⟩
   rw [imax_amt hb.1 hb.2]
   refine p1.st (i:=amt y) (n:=x.php.n) y rfl rfl (by omega) p2 (by omega) fun w23 o23 m23=> ?_
   have Q:=SS.phase (by show (ph1.set _ _).length=ph1.length;simp) o23 m23
   refine ⟨_,rfl,_,cell_add Q.1.at rfl,(Q.1.push (v:=amt y) (by omega) (by omega)).mono ?_⟩
   rintro e w26 ⟨r27,rfl,L26,S26,k26⟩
   refine ⟨_,rfl,_,?_,t+1,L26,_,_,wN (by omega) (by omega),by omega,rfl,S26,(kk1.trans Q.2).trans k26,by simp [hl1],fun v hv=> .inl (hs1 v hv),fun j hj=> ?_⟩
   · omega
   · by_cases e:j=t
     · subst e;rw [hy];exact .inr rfl
     · exact .inl (hj1 j (by omega))
 · have r:t=D.length:=by simp at r;omega
   refine ⟨rfl,L1,S1,ph1,SS,(k3.trans K10).trans kk1,hl1,hs1,fun y hy hn=> ?_⟩
   have hyD:y∈D:=by
    have em2:m=((x.s.R .tr).take kk).length:=by rw [← ek,em]
    have hk:(x.s.R .tr).take kk=(x.s.R .tr).take m:=by
     rw [List.length_take] at em2
     rw [em2,List.take_eq_take_iff]
     omega
    rw [ek,hk] at hn
    rw [hD]
    have:=List.take_append_drop m (x.s.R .tr)
    rw [← this] at hy
    rcases List.mem_append.1 hy with hy|hy
    · exact absurd hy hn
    · exact hy
   obtain ⟨j,hj,ej⟩:=List.mem_iff_getElem.1 hyD
   have:=hj1 j (by omega)
   rw [show D.getD j 0=y by simp [List.getD,hj,ej]] at this
   exact this
end
section
variable {w0 w w' w1 w2:World} {B N:Nat} {L L':Nat→Nat} {x:Xs} {l:List Int}
structure HO (w0 w:World) (L:Nat→Nat) (N:Nat) (hb:Nat) (S:Int→Prop) (z:Hp.HS):Prop where
 r:Hp.HRep w hb z
 g:Hp.HGood z N
 m: ∀u:Int,1≤u→u≤N→(0<HeapP.g z.at_ u↔S u)
 f: ∀k,z.foot hb k→L k=3∧w0.heap.size≤k
theorem SR.pop (h:SR w0 w B L N x) {z:Hp.HS} (o:HO w0 w L N x.hb x.S z):Calls prog heap_Heap_Pop.id #[Hp.ptr x.hb] w fun e w'=>
 (z.l.length=0∧e= .returned (.tuple #[.int .i64 0,.bool false])∧Grow w w')∨
 ∃v:Int,e= .returned (.tuple #[.int .i64 v,.bool true])∧1≤v∧v≤N∧x.S v∧∃L' z',SR w0 w' B L' N {x with S:=fun u=>x.S u∧u≠v}∧Kp w0 w w' L L'∧HO w0 w' L' N x.hb (fun u=>x.S u∧u≠v) z'∧z'.l.length+1=z.l.length:=by
 by_cases h0:z.l.length=0
 · refine (Hp.pop_no o.r h0).mono ?_
   rintro e w' ⟨rfl,_,g⟩
   exact .inl ⟨h0,rfl,g⟩
 · refine (Hp.pop_ok o.r o.g h0).mono ?_
   rintro e w' ⟨rfl,z',y1,y2,y3,y4,y5,y6⟩
   have hf:=o.g.ok.pos.fit 0 (by omega) (by omega)
   have hm: ∀u:Int,1≤u→u≤N→(0<HeapP.g z'.at_ u↔x.S u∧u≠HeapP.g z.l 0):=fun u u1 u2=>by rw [y3.has u u1 u2,o.m u u1 u2]
   have:=h.heap o.f o.r.lt y1 y2 hm y5 (fun k hk=> .inl (by rw [← y6];exact hk))
   refine .inr ⟨_,rfl,hf.1,hf.2.1,(o.m _ hf.1 hf.2.1).1 (by rw [hf.2.2];omega),_,z',this.1,this.2,⟨y1,y2,hm,fun k hk=> ?_⟩,y4⟩
   rw [y6] at hk
   rw [reL_old (o.r.lt k hk)];exact o.f k hk
theorem SR.value (h:SR w0 w B L N x) (g:Good x.s) (v:Int):Calls prog prop_Prop_Value.id #[ptrV x.pb,.int .i64 v] w fun e w'=>e= .returned (.int .i64 (x.s.value v))∧Grow w w':=by
 obtain ⟨H,pm,_⟩:=h.pm id
 exact value_ok pm g.wf v
theorem value_in {s:PSt} (g:Good s) {v:Int} (hv:InV s.vars v):s.value v=s.val v:=by
 unfold PSt.value
 rw [if_pos ((isB_iff g.vmax).2 hv)]
theorem SR.decide_ (h:SR w0 w B L N x) (g:Good x.s) {v:Int} (hv:InV x.s.vars v) (h0:x.s.val v=0):Calls prog prop_Prop_Decide.id #[ptrV x.pb,.int .i64 v] w fun e w'=> ∃r:Int,e= .returned (.int .i64 r)∧∃L',SR w0 w' B L' N {x with s:=x.s.decide v}∧Kp w0 w w' L L':=by
 obtain ⟨H,pm,hl⟩:=h.pm id
 refine (decide_ok pm g v).mono ?_
 rintro e w' ⟨r,rfl,H',⟨_,_,_,p⟩| ⟨_,hn,_⟩⟩
 · have:=h.prop hl pm.lt p
   exact ⟨_,rfl,_,this.1,this.2⟩
 · exact absurd ⟨hv,h0⟩ hn
theorem dec_end (h:SR w0 w B L N x) {K:World→Prop} (hk: ∀w',SR w0 w' B L N {x with m:= {x.m with de:=i64.wrap (x.m.de+1)}}→Kp w0 w w' L L→K w'):
 ∃a22,(some (Addr.mk B 0 none))=some a22∧∃x23,w.cell? ((a22.add 14).add 4)=some (.int .i64 x23)∧
  ∃a24,(some (Addr.mk B 0 none))=some a24∧∃w25,StoreAt ((a24.add 14).add 4) 0 [.int .i64 (i64.wrap (x23+ (1:Int)))] w w25∧K w25:=by
 refine ⟨_,rfl,_,cell_add2 h.at rfl,_,rfl,?_⟩
 refine store_f2 h.at rfl rfl fun w25 h25 m25=> ?_
 have:=h.own (m':= {x.m with de:=i64.wrap (x.m.de+1)}) h25 m25
 exact hk _ this.1 this.2
theorem decide_val {s:PSt} {v u:Int} (g:Good s) (hv:InV s.vars v) (h0:s.val v=0) (hu:InV s.vars u):(s.decide v).val u=0→s.val u=0∧amt u≠amt v:=by
 intro h
 have g':=decide_good g hv h0
 obtain ⟨a,b⟩:=(val0_iff g' (x:=u) hu).1 h
 rw [decide_tr] at a b
 refine ⟨(val0_iff g hu).2 ⟨fun m=>a (List.mem_append_left _ m),fun m=>b (List.mem_append_left _ m)⟩,fun e=> ?_⟩
 rcases amt_eq e with e|e
 · subst e;exact a (by simp)
 · subst e;rw [Int.neg_neg] at b;exact b (by simp)
theorem cdecide_ok (h:SR w0 w B L N x) (g:Good x.s) (hv:x.s.vars=N) (hN:N≤1000) (hph:x.ph.length=N+1) (hi:CHI N x.s x.S):Calls prog cdcl_search_decide.id #[ptrV B] w fun e w'=> ∃r:Bool,e= .returned (.bool r)∧
 ∃L' S',Kp w0 w w' L L'∧((r=false∧(∀v:Int,1≤v→v≤N→x.s.val v≠0)∧SR w0 w' B L' N {x with S:=S'})∨
  (r=true∧∃v,InV N v∧x.s.val v=0∧CHI N (x.s.decide v) S'∧SR w0 w' B L' N {x with s:=x.s.decide v,S:=S',m:= {x.m with de:=i64.wrap (x.m.de+1)}})):=by
 refine cdcl_search_decide.calls ?_
 obtain ⟨z0,z1,z2,z3,z4⟩:=h.hp id
 refine ⟨fun u k=> ∃L1 S1 z,SR w0 u B L1 N {x with S:=S1}∧Kp w0 w u L L1∧HO w0 u L1 N x.hb S1 z∧z.l.length=k∧CHI N x.s S1,⟨_,L,x.S,z0,h,Kp.refl,⟨z1,z2,z3,z4⟩,rfl,hi⟩,?_⟩
 rintro u k _ ⟨L1,S1,z,SS,kk,ho,rfl,hc⟩
 refine ⟨_,rfl,_,cell_add SS.at rfl,(SS.pop ho).mono ?_⟩
 rintro e w7 (⟨h0,rfl,g7⟩| ⟨v,rfl,v1,v2,hv1,L7,z7,S7,k7,o7,hz7⟩)
 · refine ⟨_,_,rfl,cnd_t rfl ⟨false,rfl,L1,S1,kk.trans (Chg.grow g7),.inl ⟨rfl,fun v v1 v2 h0'=> ?_,SS.grow g7⟩⟩⟩
   have hm:=(ho.m v v1 v2).2 (hc v v1 v2 h0')
   have:=(ho.g.ok.pos.back v v1 v2).2.1
   omega
 · have hin:InV x.s.vars v:=⟨by omega,by omega,by omega⟩
   refine ⟨_,_,rfl,cnd_f rfl ⟨_,rfl,_,cell_add S7.at rfl,(S7.value g v).mono ?_⟩⟩
   rintro e w12 ⟨rfl,g12⟩
   have hval:PSt.value x.s v=x.s.val v:=value_in g hin
   refine ⟨_,rfl,?_⟩
   show cnd (x.s.value v !=0) _ _
   rw [hval]
   have S12:=S7.grow g12
   refine cnd_i (fun r=> ?_) (fun r=> ?_)
   · have r:x.s.val v≠0:=by simpa using r
     refine ⟨_,?_,L7,_,z7,S12,(kk.trans k7).trans (Chg.grow g12),⟨o7.r.grow g12,o7.g,o7.m,o7.f⟩,rfl,fun u u1 u2 hu=> ⟨hc u u1 u2 hu,fun e=>r (by rw [← e];exact hu)⟩⟩
     omega
   · have r:x.s.val v=0:=by simpa using r
     obtain ⟨p1,p2,p3⟩:=S12.ph id
     have p2:x.php.n=x.ph.length:=p2
     have fin: ∀ {w':World} {L':Nat→Nat} {y:Int},amt y=v→InV x.s.vars y→x.s.val y=0→Kp w0 w w' L L'→SR w0 w' B L' N {x with s:=x.s.decide y,S:=fun u=>S1 u∧u≠v,m:= {x.m with de:=i64.wrap (x.m.de+1)}}→∃r:Bool,Ending.returned (.bool true)= .returned (.bool r)∧
      ∃L' S',Kp w0 w w' L L'∧((r=false∧(∀v:Int,1≤v→v≤N→x.s.val v≠0)∧SR w0 w' B L' N {x with S:=S'})∨
      (r=true∧∃v,InV N v∧x.s.val v=0∧CHI N (x.s.decide v) S'∧SR w0 w' B L' N {x with s:=x.s.decide v,S:=S',m:= {x.m with de:=i64.wrap (x.m.de+1)}})):=by
      intro w' L' y ey hy h0 kp sr
      refine ⟨true,rfl,L',_,kp,.inr ⟨rfl,y,by rw [← hv];exact hy,h0,fun u u1 u2 hu=> ?_,sr⟩⟩
      have hu':InV x.s.vars u:=⟨by omega,by omega,by omega⟩
      obtain ⟨a,b⟩:=decide_val g hy h0 hu' hu
      refine ⟨hc u u1 u2 a,fun e=>b ?_⟩
      rw [e,ey];unfold amt;rw [if_neg (by omega)]
     refine ⟨_,rfl,_,_,_,cell_add S12.at rfl,p1.ix 0 (by omega) p2 (by omega) fun a ha=> ⟨_,ha,?_⟩⟩
     have kk12:=(kk.trans k7).trans (Chg.grow g12)
     refine cnd_i (fun _=> ?_) (fun _=> ?_)
     · refine ⟨_,rfl,_,cell_add S12.at rfl,(S12.decide_ g hin r).mono ?_⟩
       rintro e w20 ⟨r21,rfl,L20,S20,k20⟩
       refine ⟨_,rfl,dec_end S20 fun w' S' k'=> ?_⟩
       exact fin (by unfold amt;rw [if_neg (by omega)]) hin r ((kk12.trans k20).trans k') S'
     · have ew:i64.wrap (0 - v)= -v:=by rw [wrap64_of (by omega) (by omega)];omega
       rw [ew]
       have hn0:x.s.val (-v)=0:=by rw [val_neg hin];omega
       refine ⟨_,rfl,_,cell_add S12.at rfl,(S12.decide_ g hin.neg hn0).mono ?_⟩
       rintro e w20 ⟨r21,rfl,L20,S20,k20⟩
       refine ⟨_,rfl,dec_end S20 fun w' S' k'=> ?_⟩
       exact fin (by unfold amt;rw [if_pos (by omega)];omega) hin.neg hn0 ((kk12.trans k20).trans k') S'
theorem sl_intC:slOk prog ty_sl_int ty_int 8=true:=by kernel_rfl
def modl (s:PSt) (n:Nat):List Int:=(List.range n).map fun i:Nat=>s.val ((i:Int)+1)
theorem modl_succ {s:PSt} {n:Nat}:modl s (n+1)=modl s n++ [s.val ((n:Int)+1)]:=by unfold modl;rw [List.range_succ,List.map_append];rfl
theorem csat_ok (h:SR w0 w B L N x) (g:Good x.s) (hv:x.s.vars=N) (hN:N≤1000) (hn:x.m.n=N) (hmo:x.mo= []):Calls prog cdcl_search_sat.id #[ptrV B] w fun e w'=>e= .returned (.tuple #[])∧
 ∃L' q,SR w0 w' B L' N {x with m:= {x.m with ver:=1},ps:=Sl.nil,pr:= [],ms:=q,mo:=modl x.s N}∧Kp w0 w w' L L':=by
 refine cdcl_search_sat.calls ⟨_,rfl,?_⟩
 refine store_f2 h.at rfl rfl fun w2 h2 m2=> ?_
 obtain ⟨S2,k2⟩:=h.own (m':= {x.m with ver:=1}) h2 m2
 refine ⟨_,rfl,store_f2 S2.at rfl rfl fun w4 h4 m4=> ?_⟩
 have P4:=S2.proof (q:=Sl.nil) (pr':= []) (Mod.refl w2|>.mono fun _ _ e=>e) (Row.nil _ _ _ _) rfl (fun k hk=>by simp [blk,Sl.nil] at hk) (fun u hu=>by simp at hu) h4 m4 (by simp [blk,Sl.nil])
 obtain ⟨S4,k4⟩:=P4
 refine ⟨fun V u k=> ∃ (t:Nat) (L':Nat→Nat) (q:Sl),V=(t:Int)+1∧t≤N∧k=N - t∧SR w0 u B L' N {x with m:= {x.m with ver:=1},ps:=Sl.nil,pr:= [],ms:=q,mo:=modl x.s t}∧Kp w0 w u L L',
  ⟨_,0,_,x.ms,rfl,Nat.zero_le _,rfl,by have:modl x.s 0=x.mo:=by rw [hmo];rfl
                                       rw [this];exact S4,k2.trans k4⟩,?_⟩
 rintro V u k _ ⟨t,L1,q,rfl,ht,rfl,SS,kk⟩
 refine ⟨_,rfl,_,cell_add2 SS.at rfl,?_⟩
 show cnd (decide ((t:Int)+1≤x.m.n)) _ _
 rw [hn]
 refine cnd_i (fun r=> ?_) (fun r=> ?_)
 · have r:t<N:=by simp at r;omega
   have D:=SS.drew
   refine ⟨fun v=>Grow u.drew v,Mod.refl _,_,rfl,_,_,_,fun v gv=>cell_add2 (D.at.grow gv) rfl,_,rfl,_,fun v gv=>cell_add (D.at.grow gv) rfl,(D.value g _).mono ?_⟩
   rintro e w17 ⟨rfl,g17⟩
   have hin:InV x.s.vars ((t:Int)+1):=⟨by omega,by omega,by omega⟩
   refine ⟨_,rfl,g17,fun n19 w20 h20=> ⟨g17.trans h20.mod,?_⟩⟩
   have S20:=D.new (g17.trans h20.mod) 9
   obtain ⟨p1,p2,p3⟩:=S20.mo id
   have hl:(modl x.s t).length=t:=by simp [modl]
   refine Ow.app1 sl_intC p1 (x.s.val ((t:Int)+1)) h20.has (by show Value.int .i64 (x.s.value _)=_;rw [value_in g hin]) p2 oneInt (by rw [hl];omega) fun w21 p' c' o21 m21 hp' hz'=> ⟨_,rfl,?_⟩
   have hB8:Has w21 B _:=S20.at.keep m21 fun e=>by have:=(p3 B e).1;rw [S20.ml.1] at this;exact absurd this (by decide)
   refine store_f2 hB8 rfl rfl fun w24 h24 m24=> ?_
   have o21:OwI ty_int w21 p' c' (modl x.s (t+1)):=by rw [modl_succ];exact o21
   have:=S20.model (q:=⟨p',(modl x.s t).length+1,c'⟩) (mo':=modl x.s (t+1)) m21 o21 (by simp [modl]) (fr_of hp' (Nat.le_refl _)) h24 m24 (S20.neB (by decide) p3 hp' (Nat.le_refl _))
   refine ⟨_,?_,t+1,_,_,?_,by omega,rfl,this.1,((kk.trans (Chg.grow (Mod.refl u).drew)).trans (Chg.new (g17.trans h20.mod) 9)).trans this.2⟩
   · omega
   · rw [wrap64_of (by omega) (by omega)];omega
 · have r:t=N:=by simp at r;omega
   subst r
   exact ⟨rfl,L1,q,SS,kk⟩
end
end Go.Proofs.YtabengnadcleeaaGreat.W
namespace Go.Proofs
open Go.RowKit Go.Shelf Go.Fw
attribute [local go_sem] Oper.semAt_some
def bkF (zs:List Int) (k:Nat):Int × Int:=(((zs.length - 1 - k:Nat):Int),zs[zs.length - 1 - k]?.getD 0)
def bkL (zs:List Int) (k:Nat):List (Int × Int):=(List.range k).map (bkF zs)
theorem bkL_succ (zs:List Int) (k:Nat):bkL zs (k+1)=bkL zs k++ [bkF zs k]:=by simp [bkL,List.range_succ]
theorem bkL_len (zs:List Int) (k:Nat):(bkL zs k).length=k:=by simp [bkL]
set_option maxRecDepth 100000 in
set_option maxHeartbeats 2000000 in
theorem bk_in (n:Nat) (hn:1≤n) (l Bs b cap:Nat) (zs:List Int) (hreach:zs.length*8≤140737488351232) (T:Nat→Prop) (hTB:T Bs) (hTb:T b)
 (J Jx:List {x:Int × Int // x.2∈zs}→World→Prop)
 (hY: ∀pre x W1,J pre W1→pre.length<zs.length→YieldAt Fence.wide (n - 1) Tryz.prog l #[.int .i64 x.1.1,.int .i64 x.1.2] W1 fun e W'=>
   (e= .returned (.bool true)∧J (pre++ [x]) W'∧KpT T W1 W')∨(e= .returned (.bool false)∧Jx (pre++ [x]) W'))
 (W:World) (hBs:W.cell? ⟨Bs,0,none⟩=some (.slice (some ⟨b,0,none⟩) zs.length cap)) (hc: ∀j,j<zs.length→W.cell? ⟨b,0+j,none⟩=some (.int .i64 (zs[j]?.getD 0))) (h0:J [] W):
 CallsIn Fence.wide n Tryz.prog 128 #[.func (.yield l) #[] #[],.pointer (some ⟨Bs,0,none⟩)] W fun e W'=> (∃v,e= .returned v)∧
  ((∃ys,ys.map (·.1)=bkL zs zs.length∧J ys W')∨(∃pre,True∧Jx pre W')):=by
 refine callsIn_of_wp Tryz.func128 rfl trivial ?_ rfl
 simp only [show Tryz.f128.ntmps=19 from rfl,List.size_toArray,List.length_cons,List.length_nil,Nat.reduceAdd,Nat.reduceSub,Array.replicate_succ,Array.replicate_zero,List.push_toArray,List.append_toArray,List.nil_append,List.cons_append]
 gi_wp2
 gi_loopw [3] (fun i wr=> ∃k:Nat,k≤zs.length∧i= .int .i64 ((zs.length:Int) - 1 - k)∧(∃ys,ys.map (·.1)=bkL zs k∧J ys wr)∧KpT T W wr)
  (fun i _=> (intOf i+1).toNat)
 case atStart=>exact ⟨0,Nat.zero_le _,by simp,⟨[],rfl,h0⟩,fun _ _=>rfl⟩
 case round=>
  obtain ⟨k,hk,rfl,⟨ys,hys,hJs⟩,hnx⟩:=hrel
  have hbx:wr.cell? ⟨Bs,0,none⟩=some (.slice (some ⟨b,0,none⟩) zs.length cap):=by
   rw [← hBs];exact World.cell?_of_block (hnx Bs hTB)
  by_cases hlt:k<zs.length
  · have hcx:wr.cell? ⟨b,zs.length - 1 - k,none⟩=some (.int .i64 (zs[zs.length - 1 - k]?.getD 0)):=by
     have:=hc (zs.length - 1 - k) (by omega)
     rw [Nat.zero_add] at this
     rw [← this];exact World.cell?_of_block (hnx b hTb)
    have hmem:zs[zs.length - 1 - k]?.getD 0∈zs:=by simp [show zs.length - 1 - k<zs.length by omega]
    have hyl:ys.length=k:=by have:=congrArg List.length hys;simpa [bkL] using this
    obtain ⟨fn,tmps,assign,body,hy,hR⟩:=hY ys ⟨bkF zs k,hmem⟩ wr hJs (by rw [hyl];exact hlt)
    dsimp only [bkF] at hy
    have ei:(zs.length:Int) - 1 - k=((zs.length - 1 - k:Nat):Int):=by omega
    rw [ei]
    have ge:(0:Int)≤((zs.length - 1 - k:Nat):Int):=by omega
    gi_wp2
    refine hR.mono ?_
    rintro e W3 (⟨rfl,hJ3,hk3⟩| ⟨rfl,hJx3⟩)
    · gi_wp2
      go_roundw
      case rel=>exact ⟨k+1,by omega,by simp;omega,⟨_,by rw [List.map_append,hys,bkL_succ];rfl,hJ3⟩,fun j hj=> (hk3 j hj).trans (hnx j hj)⟩
      case measure=>simp [intOf]
    · gi_wp2
      refine bodyPost_ret (results_none rfl _ _ _) rfl ?_
      exact ⟨⟨_,rfl⟩,.inr ⟨_,trivial,hJx3⟩⟩
  · obtain rfl:k=zs.length:=by omega
    have ei:(zs.length:Int) - 1 - (zs.length:Int)= -1:=by omega
    rw [ei]
    gi_wp2
    go_end0
    exact ⟨⟨_,rfl⟩,.inl ⟨_,hys,hJs⟩⟩
set_option maxRecDepth 100000 in
set_option maxHeartbeats 2000000 in
theorem bk_nil (n:Nat) (l Bs:Nat) (J:List {x:Int × Int // x.2∈([]:List Int)}→World→Prop) (W:World) (hBs:W.cell? ⟨Bs,0,none⟩=some (.slice none 0 0)) (h0:J [] W):
 CallsIn Fence.wide n Tryz.prog 128 #[.func (.yield l) #[] #[],.pointer (some ⟨Bs,0,none⟩)] W fun e W'=> (∃v,e= .returned v)∧J [] W':=by
 refine callsIn_of_wp Tryz.func128 rfl trivial ?_ rfl
 simp only [show Tryz.f128.ntmps=19 from rfl,List.size_toArray,List.length_cons,List.length_nil,Nat.reduceAdd,Nat.reduceSub,Array.replicate_succ,Array.replicate_zero,List.push_toArray,List.append_toArray,List.nil_append,List.cons_append]
 gi_wp2
 gi_loopw [3] (fun i wr=>i= .int .i64 (-1)∧J [] wr) (fun _ _=>0)
 case atStart=>exact ⟨rfl,h0⟩
 case round=>
  obtain ⟨rfl,hJs⟩:=hrel
  gi_wp2
  go_end0
  exact ⟨⟨_,rfl⟩,hJs⟩
open Go.Proofs.YtabengnadcleeaaGreat.W in
theorem back_seq {w:World} {Bs:Nat} {sp:Option Addr} {cap:Nat} {zs:List Int} (hB:Has w Bs #[.slice sp zs.length cap]) (o:OwI ty_int w sp cap zs) (hreach:zs.length*8≤140737488351232):
 SeqB Tryz.prog 128 #[.pointer (some ⟨Bs,0,none⟩)] (bkL zs zs.length) (fun p=>p.2∈zs) (fun k=>k=Bs∨blk sp=some k) w:=by
 intro n hn l J Jx W hW _ _ hY h0
 have g:=Go.Fw.Mod.of_below hW
 have hB':=hB.grow g
 have o':=o.grow g
 rcases o'.un with ⟨rfl,rfl,rfl⟩| ⟨b,cur,rfl,_⟩
 · exact (bk_nil n l Bs J W (cell_of hB' rfl) h0).mono fun e W' ⟨he,hj⟩=> ⟨he,.inl ⟨[],rfl,hj⟩⟩
 · refine bk_in n hn l Bs b cap zs hreach (fun k=>k=Bs∨blk (some (⟨b,0,none⟩:Addr))=some k) (.inl rfl) (.inr rfl) J Jx (fun pre x W1 h1 h2=>hY pre x W1 h1 (by rw [bkL_len];exact h2)) W (cell_of hB' rfl) (fun j hj=> ?_) h0
   obtain ⟨a,e,hc⟩:=o'.vw j hj
   cases e
   rw [add_at] at hc
   rw [hc];simp [hj]
end Go.Proofs
