/- Layer 6: a propagator in memory: a struct, and rows of its own, no two of which share a block. -/
import Derived.Test.YtabengnadcleeaaGreatLitC
import Derived.Test.YtabengnadcleeaaGreatLitA
namespace Go.Proofs.YtabengnadcleeaaGreat.W
open Go Go.Fw Go.RowKit Go.SoP Go.LiP
open Go.Proofs.Tryz (prog)
open Go.IntKind (i64)
section
variable {w w' w2:World} {b:Nat}
inductive Pt where
 |st|c|wa|va|le|re|tr|be|ds|lo
 |w (i:Nat)|l (i:Nat)|a (i:Nat)
deriving DecidableEq
def Pt.row:Pt→Bool
 | .st| .c| .wa=>false
 |_=>true
def Pt.f:Pt→Int→Value
 | .va=>Value.int .i8
 |_=>Value.int .i64
def Pt.T:Pt→TypeId
 | .va=>ty_int8
 |_=>ty_int
def Pt.off:Pt→Nat
 | .c=>1| .wa=>2| .va=>3| .le=>4| .re=>5| .tr=>6| .be=>7| .ds=>8| .lo=>10
 |_=>0
def Pt.field:Pt→Bool
 | .tr| .be| .ds| .lo=>true
 |_=>false
structure PSt where
 vars:Nat
 nc:Nat
 gone:Nat→Bool
 done:Nat
 R:Pt→List Int
def updF {α:Type} (R:Pt→α) (x:Pt) (v:α):Pt→α:=fun y=>if y=x then v else R y
theorem updF_same {α:Type} {R:Pt→α} {x:Pt} {v:α}:updF R x v x=v:=by simp [updF]
theorem updF_ne {α:Type} {R:Pt→α} {x y:Pt} {v:α} (h:y≠x):updF R x v y=R y:=by simp [updF,h]
def PSt.set (s:PSt) (x:Pt) (l:List Int):PSt:= {s with R:=updF s.R x l}
abbrev Ce:=Sl × Sl × Bool
def ceE (x:Ce):List Value:= [x.1.v,x.2.1.v,.bool x.2.2]
theorem ceEnc:Enc 3 ceE:=⟨fun _=>rfl,by omega,fun x v hv=>by
 simp only [ceE,List.mem_cons,List.not_mem_nil,or_false] at hv
 rcases hv with rfl|rfl|rfl<;>rfl⟩
def ceOf (H:Pt→Sl) (g:Nat→Bool) (i:Nat):Ce:=(H (.a i),H (.l i),g i)
def heads (H:Pt→Sl) (n:Nat):List Sl:=(List.range n).map fun i=>H (.w i)
def ces (H:Pt→Sl) (g:Nat→Bool) (n:Nat):List Ce:=(List.range n).map (ceOf H g)
def own (b:Nat) (H:Pt→Sl):Pt→Option Nat
 | .st=>some b
 |x=>blk (H x).p
def stC (s:PSt) (H:Pt→Sl):Array Value:=
 #[.int .i64 s.vars,(H .c).v,(H .wa).v,(H .va).v,(H .le).v,(H .re).v,(H .tr).v,(H .be).v,(H .ds).v,.int .i64 s.done,(H .lo).v]
structure PM (w:World) (b:Nat) (H:Pt→Sl) (s:PSt):Prop where
 st:Has w b (stC s H)
 c:Row 3 ceE ty_prop_clause w (H .c).p (H .c).c (ces H s.gone s.nc)
 cn:(H .c).n=s.nc
 wa:Ow Sl.v ty_sl_int w (H .wa).p (H .wa).c (heads H (2* (s.vars+1)))
 wn:(H .wa).n=2* (s.vars+1)
 row: ∀x,x.row=true→Ow x.f x.T w (H x).p (H x).c (s.R x)
 len: ∀x,x.row=true→(H x).n=(s.R x).length
 inj: ∀x y k,own b H x=some k→own b H y=some k→x=y
theorem own_ne {H:Pt→Sl} {x:Pt} (h:x≠ .st):own b H x=blk (H x).p:=by cases x<;>first|rfl|exact absurd rfl h
theorem row_ne {x:Pt} (h:x.row=true):x≠ .st∧x≠ .c∧x≠ .wa:=by cases x<;>simp [Pt.row] at h ⊢
theorem field_row {x:Pt} (h:x.field=true):x.row=true:=by cases x<;>simp [Pt.field] at h<;>rfl
variable {H:Pt→Sl} {s:PSt}
theorem PM.lt (h:PM w b H s): ∀x k,own b H x=some k→k<w.heap.size:=by
 intro x k hk
 cases x
 case st=>simp [own] at hk;subst hk;exact h.st.lt
 case c=>exact h.c.lt k hk
 case wa=>exact h.wa.lt k hk
 all_goals exact (h.row _ rfl).lt k hk
theorem PM.keep {S:Nat→Prop} (h:PM w b H s) (m:Mod S w w') (hS: ∀x k,own b H x=some k→¬S k):PM w' b H s:=by
 refine ⟨h.st.keep m (hS .st b rfl),h.c.keep m fun k hk=>hS .c k hk,h.cn,h.wa.keep m fun k hk=>hS .wa k hk,h.wn,fun x hx=> (h.row x hx).keep m fun k hk=>hS x k ?_,h.len,h.inj⟩
 rw [own_ne (row_ne hx).1];exact hk
theorem PM.grow (h:PM w b H s) (m:Grow w w'):PM w' b H s:=h.keep m fun _ _ _=>id
theorem PM.drew (h:PM w b H s):PM w.drew b H s:=h.grow (Mod.refl w).drew
theorem PM.other (h:PM w b H s) {x y:Pt} (hx:x≠ .st) (hne:y≠x) {k:Nat} (hk:own b H y=some k):blk (H x).p≠some k:=by
 intro e
 exact hne (h.inj y x k hk (by rw [own_ne hx];exact e))
theorem PM.setRow (h:PM w b H s) {x:Pt} (hx:x.row=true) {l':List Int} (hl:l'.length=(s.R x).length) (o:Ow x.f x.T w' (H x).p (H x).c l') (m:Mod (fun k=>blk (H x).p=some k) w w'):
 PM w' b H (s.set x l'):=by
 obtain ⟨h1,h2,h3⟩:=row_ne hx
 have oth: ∀y k,y≠x→own b H y=some k→¬blk (H x).p=some k:=fun y k hy hk=>h.other h1 hy hk
 refine ⟨h.st.keep m (oth .st b (Ne.symm h1) rfl),h.c.keep m fun k hk=>oth .c k (Ne.symm h2) hk,h.cn,h.wa.keep m fun k hk=>oth .wa k (Ne.symm h3) hk,h.wn,fun y hy=> ?_,fun y hy=> ?_,h.inj⟩
 · by_cases e:y=x
   · subst e;simpa [PSt.set,updF_same] using o
   · simp only [PSt.set,updF_ne e]
     exact (h.row y hy).keep m fun k hk=>oth y k e (by rw [own_ne (row_ne hy).1];exact hk)
 · by_cases e:y=x
   · subst e;simp only [PSt.set,updF_same,hl];exact h.len y hy
   · simp only [PSt.set,updF_ne e];exact h.len y hy
structure PMx (w:World) (b:Nat) (H:Pt→Sl) (s:PSt) (x:Pt):Prop where
 st:Has w b (stC s H)
 c:Row 3 ceE ty_prop_clause w (H .c).p (H .c).c (ces H s.gone s.nc)
 wa:Ow Sl.v ty_sl_int w (H .wa).p (H .wa).c (heads H (2* (s.vars+1)))
 row: ∀y,y.row=true→y≠x→Ow y.f y.T w (H y).p (H y).c (s.R y)
theorem PM.but (h:PM w b H s) {x:Pt} (hx:x.row=true) (m:Mod (fun k=>blk (H x).p=some k) w w'):PMx w' b H s x:=by
 obtain ⟨h1,h2,h3⟩:=row_ne hx
 have oth: ∀y k,y≠x→own b H y=some k→¬blk (H x).p=some k:=fun y k hy hk=>h.other h1 hy hk
 exact ⟨h.st.keep m (oth .st b (Ne.symm h1) rfl),h.c.keep m fun k hk=>oth .c k (Ne.symm h2) hk,h.wa.keep m fun k hk=>oth .wa k (Ne.symm h3) hk,
  fun y hy e=> (h.row y hy).keep m fun k hk=>oth y k e (by rw [own_ne (row_ne hy).1];exact hk)⟩
theorem inj_upd (h:PM w b H s) {x:Pt} (hx:x≠ .st) {q:Sl} (hp: ∀k,blk q.p=some k→blk (H x).p=some k∨∀y,own b H y≠some k):
 ∀y z k,own b (updF H x q) y=some k→own b (updF H x q) z=some k→y=z:=by
 have key: ∀y,y≠x→own b (updF H x q) y=own b H y:=fun y e=>by
  cases y<;>first|rfl| (simp only [own];rw [updF_ne e])
 have same:own b (updF H x q) x=blk q.p:=by rw [own_ne hx,updF_same]
 intro y z k hy hz
 by_cases ey:y=x<;>by_cases ez:z=x
 · rw [ey,ez]
 · subst ey
   rw [same] at hy
   rw [key z ez] at hz
   rcases hp k hy with e|e
   · exact h.inj y z k (by rw [own_ne hx];exact e) hz
   · exact absurd hz (e z)
 · subst ez
   rw [same] at hz
   rw [key y ey] at hy
   rcases hp k hz with e|e
   · exact h.inj y z k hy (by rw [own_ne hx];exact e)
   · exact absurd hy (e y)
 · rw [key y ey] at hy
   rw [key z ez] at hz
   exact h.inj y z k hy hz
theorem ces_upd {x:Pt} {q:Sl} {g:Nat→Bool} {n:Nat} (hl: ∀i,x≠ .l i) (ha: ∀i,x≠ .a i):ces (updF H x q) g n=ces H g n:=by
 unfold ces ceOf
 refine List.map_congr_left fun i _=> ?_
 rw [updF_ne (fun e=>hl i e.symm),updF_ne (fun e=>ha i e.symm)]
theorem heads_upd {x:Pt} {q:Sl} {n:Nat} (hw: ∀i,x≠ .w i):heads (updF H x q) n=heads H n:=by
 unfold heads
 refine List.map_congr_left fun i _=> ?_
 rw [updF_ne (fun e=>hw i e.symm)]
theorem PM.head (h:PM w b H s) {x:Pt} (hx:x.field=true) {p':Option Addr} {c':Nat} {l':List Int} (o:Ow x.f x.T w2 p' c' l') (X:PMx w2 b H s x)
 (hp: ∀k,blk p'=some k→blk (H x).p=some k∨∀y,own b H y≠some k) {n':Nat} (hn:n'=l'.length) {K:World→Prop}
 (hk: ∀w3,PM w3 b (updF H x ⟨p',n',c'⟩) (s.set x l')→Mod (·=b) w2 w3→K w3):
 ∃w3,StoreAt ((Addr.mk b 0 none).add x.off) 0 [.slice p' n' c'] w2 w3∧K w3:=by
 subst hn
 have hr:=field_row hx
 obtain ⟨h1,h2,h3⟩:=row_ne hr
 have hb: ∀y k,y≠ .st→own b H y=some k→k≠b:=fun y k hy hk e=>by subst e;exact hy (h.inj y .st k hk rfl)
 have hpb: ∀k,blk p'=some k→¬k=b:=fun k hkk e=>by
  rcases hp k hkk with e2|e2
  · exact h1 (h.inj x .st k (by rw [own_ne h1];exact e2) (by rw [e];rfl))
  · exact e2 .st (by rw [e];rfl)
 refine store_f (k:=x.off) (i:=0) X.st (by cases x<;>simp [Pt.field] at hx<;>rfl) rfl fun w3 h3' m3=>hk w3 ?_ m3
 have hl: ∀i,x≠ .l i:=fun i e=>by subst e;simp [Pt.field] at hx
 have ha: ∀i,x≠ .a i:=fun i e=>by subst e;simp [Pt.field] at hx
 have hw: ∀i,x≠ .w i:=fun i e=>by subst e;simp [Pt.field] at hx
 refine ⟨?_,?_,?_,?_,?_,fun y hy=> ?_,fun y hy=> ?_,inj_upd h h1 hp⟩
 · have e:wr (stC s H) (0+x.off+0) [.slice p' l'.length c']=stC (s.set x l') (updF H x ⟨p',l'.length,c'⟩):=by
    cases x<;>simp [Pt.field] at hx<;>simp [wr,stC,Pt.off,updF,PSt.set,Sl.v]
   rw [← e];exact h3'
 · rw [ces_upd hl ha,updF_ne (Ne.symm h2)]
   exact X.c.keep m3 fun k hk=>hb .c k (by simp) hk
 · rw [updF_ne (Ne.symm h2)];exact h.cn
 · show Ow Sl.v ty_sl_int w3 _ _ (heads (updF H x _) (2* (s.vars+1)))
   rw [heads_upd hw,updF_ne (Ne.symm h3)]
   exact X.wa.keep m3 fun k hk=>hb .wa k (by simp) hk
 · rw [updF_ne (Ne.symm h3)];exact h.wn
 · by_cases e:y=x
   · subst e
     simp only [PSt.set,updF_same]
     exact o.keep m3 fun k hk=>hpb k hk
   · simp only [PSt.set,updF_ne e]
     exact (X.row y hy e).keep m3 fun k hk=>hb y k (row_ne hy).1 (by rw [own_ne (row_ne hy).1];exact hk)
 · by_cases e:y=x
   · subst e;simp only [PSt.set,updF_same]
   · simp only [PSt.set,updF_ne e];exact h.len y hy
theorem PM.setDone (h:PM w b H s) {d:Int} {n:Nat} (hd:d=n) {K:World→Prop} (hk: ∀w3,PM w3 b H {s with done:=n}→Mod (·=b) w w3→K w3):
 ∃w3,StoreAt ((Addr.mk b 0 none).add 9) 0 [.int .i64 d] w w3∧K w3:=by
 subst hd
 have hb: ∀y k,y≠ .st→own b H y=some k→k≠b:=fun y k hy hk e=>by subst e;exact hy (h.inj y .st k hk rfl)
 refine store_f (k:=9) (i:=0) h.st rfl rfl fun w3 h3' m3=>hk w3 ?_ m3
 refine ⟨h3',h.c.keep m3 fun k hk=>hb .c k (by simp) hk,h.cn,h.wa.keep m3 fun k hk=>hb .wa k (by simp) hk,h.wn,fun y hy=> (h.row y hy).keep m3 fun k hk=>hb y k (row_ne hy).1 (by rw [own_ne (row_ne hy).1];exact hk),h.len,h.inj⟩
theorem heads_getD {n i:Nat} (hi:i<n):(heads H n).getD i Sl.nil=H (.w i):=by
 simp [heads,List.getD,hi]
theorem heads_len {n:Nat}:(heads H n).length=n:=by simp [heads]
theorem ces_getD {g:Nat→Bool} {n i:Nat} (hi:i<n) (d:Ce):(ces H g n).getD i d=ceOf H g i:=by
 simp [ces,List.getD,hi]
theorem ces_len {g:Nat→Bool} {n:Nat}:(ces H g n).length=n:=by simp [ces]
theorem PM.headW (h:PM w b H s) {i:Nat} (hi:i<2* (s.vars+1)) {p':Option Addr} {c':Nat} {l':List Int} (o:OwI ty_int w2 p' c' l') (X:PMx w2 b H s (.w i))
 (hp: ∀k,blk p'=some k→blk (H (.w i)).p=some k∨∀y,own b H y≠some k) {n' n:Nat} (hn:n'=l'.length) (hnn:n=2* (s.vars+1)) {I:Int} (hI:I=i) {K:World→Prop}
 (hk: ∀w3,PM w3 b (updF H (.w i) ⟨p',n',c'⟩) (s.set (.w i) l')→Mod (fun k=>blk (H .wa).p=some k) w2 w3→K w3):
 ixK (H .wa).p n I 1 fun a=> ∃w3,StoreAt a 0 [.slice p' n' c'] w2 w3∧K w3:=by
 subst hn hI
 have hb: ∀y k,y≠ .wa→own b H y=some k→¬blk (H .wa).p=some k:=fun y k hy hk=>h.other (x:= .wa) (by simp) hy hk
 have hpb: ∀k,blk p'=some k→¬blk (H .wa).p=some k:=fun k hk e=>by
  rcases hp k hk with e2|e2
  · have:=h.inj (.w i) .wa k e2 e;cases this
  · exact e2 .wa e
 refine X.wa.st (x:=⟨p',l'.length,c'⟩) rfl rfl (by omega) (by rw [heads_len];exact hnn) (by omega) fun w3 o3 m3=>hk w3 ?_ m3
 rw [Int.toNat_natCast] at o3
 refine ⟨?_,?_,?_,?_,?_,fun y hy=> ?_,fun y hy=> ?_,inj_upd h (by simp) hp⟩
 · have e:stC (s.set (.w i) l') (updF H (.w i) ⟨p',l'.length,c'⟩)=stC s H:=by simp [stC,updF,PSt.set]
   rw [e]
   exact X.st.keep m3 (hb .st b (by simp) rfl)
 · rw [ces_upd (by simp) (by simp),updF_ne (by simp)]
   exact X.c.keep m3 fun k hk=>hb .c k (by simp) hk
 · rw [updF_ne (by simp)];exact h.cn
 · rw [updF_ne (by simp)]
   have e:heads (updF H (.w i) ⟨p',l'.length,c'⟩) (2* ((s.set (.w i) l').vars+1))=(heads H (2* (s.vars+1))).set i ⟨p',l'.length,c'⟩:=by
    apply List.ext_getElem?
    intro j
    simp only [heads,PSt.set,List.getElem?_map,List.getElem?_set,List.length_map,List.length_range]
    by_cases e:i=j
    · subst e
      simp [hi,updF]
    · rw [if_neg e]
      by_cases hj:j<2* (s.vars+1)
      · simp [hj,updF,Ne.symm e]
      · simp [hj]
   rw [e];exact o3
 · rw [updF_ne (by simp)];exact h.wn
 · by_cases e:y= .w i
   · subst e
     simp only [PSt.set,updF_same]
     exact o.keep m3 fun k hk=>hpb k hk
   · simp only [PSt.set,updF_ne e]
     exact (X.row y hy e).keep m3 fun k hk=>hb y k (row_ne hy).2.2 (by rw [own_ne (row_ne hy).1];exact hk)
 · by_cases e:y= .w i
   · subst e;simp only [PSt.set,updF_same]
   · simp only [PSt.set,updF_ne e];exact h.len y hy
theorem PM.fresh (h:PM w b H s) {k:Nat} (hk:w.heap.size≤k): ∀y,own b H y≠some k:=fun y e=>by have:=h.lt y k e;omega
theorem atW_eq {a:Addr} {v:Value} (h:w.cell? a=some v):AtW (·=w) a v:=fun u e=>by rw [e];exact h
theorem PM.wIx (h:PM w b H s) {i:Nat} (hi:i<2* (s.vars+1)) {n:Nat} (hn:n=(H .wa).n) {I:Int} (hI:I=i) {K:Addr→Prop}
 (hk: ∀a,blk (H .wa).p=some a.block→w.cell? a=some (H (.w i)).v→K a):ixK (H .wa).p n I 1 K:=by
 subst hI
 refine h.wa.vw.ixb Sl.nil (by omega) (by rw [hn,h.wn,heads_len]) (by rw [hn,h.wn];omega) fun a ha hc=>hk a ha ?_
 rw [Int.toNat_natCast,heads_getD hi] at hc
 exact hc
theorem PM.cIx (h:PM w b H s) {i:Nat} (hi:i<s.nc) {n:Nat} (hn:n=(H .c).n) {I:Int} (hI:I=i) {K:Addr→Prop}
 (hk: ∀a,CellsAt w a 0 [(H (.a i)).v,(H (.l i)).v,.bool (s.gone i)]→K a):ixK (H .c).p n I 3 K:=by
 subst hI
 refine (h.c.vr ceEnc).ix (Sl.nil,Sl.nil,false) (by omega) (by rw [hn,h.cn,ces_len]) (by rw [hn,h.cn];omega) fun a hc=>hk a ?_
 rw [Int.toNat_natCast,ces_getD hi] at hc
 exact hc
theorem PM.rIx (h:PM w b H s) {x:Pt} (hx:x.row=true) {I:Int} (h0:0≤I) {n:Nat} (hn:n=(H x).n) (h1:I< (s.R x).length) {K:Addr→Prop}
 (hk: ∀a,blk (H x).p=some a.block→w.cell? a=some (x.f ((s.R x).getD I.toNat 0))→K a):ixK (H x).p n I 1 K:=
 (h.row x hx).vw.ixb 0 h0 (by rw [hn,h.len x hx]) (by rw [hn,h.len x hx];omega) hk
theorem PM.rIx' (h:PM w b H s) {x:Pt} (hx:x.row=true) {I:Int} (h0:0≤I) {n:Nat} (h1:I< (s.R x).length) (h2:I<n) {K:Addr→Prop}
 (hk: ∀a,blk (H x).p=some a.block→w.cell? a=some (x.f ((s.R x).getD I.toNat 0))→K a):ixK (H x).p n I 1 K:=by
 obtain ⟨a,h3,h4,h5,h6⟩:=h.rIx hx h0 rfl h1 hk
 exact ⟨a,h3,h4,h2,h6⟩
theorem PM.rSt (h:PM w b H s) {x:Pt} (hx:x.row=true) {I:Int} (h0:0≤I) {n:Nat} (hn:n=(H x).n) (h1:I< (s.R x).length) {y:Int} {v:Value} (hv:v=x.f y) (ho:oneCell v=true) {K:World→Prop}
 (hk: ∀w',PM w' b H (s.set x ((s.R x).set I.toNat y))→Mod (fun k=>blk (H x).p=some k) w w'→K w'):ixK (H x).p n I 1 fun a=> ∃w',StoreAt a 0 [v] w w'∧K w':=
 (h.row x hx).st y hv ho h0 (by rw [hn,h.len x hx]) (by rw [hn,h.len x hx];omega) fun w' o m=>hk w' (h.setRow hx (by simp) o m) m
end
section
variable {w w' w2:World} {b:Nat} {H:Pt→Sl} {s:PSt} {l:Int}
abbrev ptrV (b:Nat):Value:= .pointer (some ⟨b,0,none⟩)
theorem sl_int8:slOk prog ty_sl_int8 ty_int8 1=true:=by kernel_rfl
def InV (n:Nat) (l:Int):Prop:=l≠0∧ -(n:Int)≤l∧l≤n
def sideN (l:Int):Nat:=if l<0 then (-2*l+1).toNat else (2*l).toNat
def PSt.val (s:PSt) (l:Int):Int:=if l<0 then -((s.R .va).getD (-l).toNat 0) else (s.R .va).getD l.toNat 0
def PSt.lev (s:PSt) (l:Int):Int:=(s.R .le).getD (amt l).toNat 0
def PSt.rea (s:PSt) (l:Int):Int:=(s.R .re).getD (amt l).toNat 0
def PSt.rk (s:PSt) (l:Int):Int:=if s.val l≥0 then 1048577 else s.lev l
structure Wf (s:PSt):Prop where
 vmax:s.vars≤1048576
 va:(s.R .va).length=s.vars+1
 vb: ∀i,(s.R .va).getD i 0=0∨(s.R .va).getD i 0=1∨(s.R .va).getD i 0= -1
 le:(s.R .le).length=s.vars+1
 re:(s.R .re).length=s.vars+1
 be:(s.R .be).length≤2000000
 tr:(s.R .tr).length≤2000000
 nc:s.nc≤262144
theorem InV.amt {n:Nat} (h:InV n l):1≤Go.Proofs.YtabengnadcleeaaGreat.W.amt l∧Go.Proofs.YtabengnadcleeaaGreat.W.amt l≤n:=by
 obtain ⟨h1,h2,h3⟩:=h
 unfold Go.Proofs.YtabengnadcleeaaGreat.W.amt
 split<;>omega
theorem InV.bd {n:Nat} (h:InV n l) (hn:n≤1048576): -1048576≤l∧l≤1048576:=by
 obtain ⟨h1,h2,h3⟩:=h
 omega
theorem InV.neg {n:Nat} (h:InV n l):InV n (-l):=by
 obtain ⟨h1,h2,h3⟩:=h
 exact ⟨by omega,by omega,by omega⟩
theorem sideN_lt {n:Nat} (h:InV n l):sideN l<2* (n+1):=by
 obtain ⟨h1,h2,h3⟩:=h
 unfold sideN
 split<;>omega
theorem pamount_ok (hl: -1048576≤l∧l≤1048576) (w:World):Calls prog prop_amount.id #[.int .i64 l] w fun e w'=>e= .returned (.int .i64 (amt l))∧w'=w:=by
 refine prop_amount.calls ?_
 have e:imax l (i64.wrap (0 - l))=amt l:=by
  rw [wrap64_of (by omega) (by omega)]
  unfold imax amt
  split<;>split<;>omega
 exact ⟨by rw [e],rfl⟩
theorem side_ok (hl: -1048576≤l∧l≤1048576) (w:World):Calls prog prop_side.id #[.int .i64 l] w fun e w'=>e= .returned (.int .i64 (sideN l))∧w'=w:=by
 refine prop_side.calls ?_
 refine cnd_i (fun s=> ?_) (fun s=> ?_)
 · have s:l<0:=by simpa using s
   have e:i64.wrap (i64.wrap ((-2)*l)+1)=((sideN l:Nat):Int):=by
    rw [wrap64_of (x:=(-2)*l) (by omega) (by omega),wrap64_of (by omega) (by omega)]
    unfold sideN;rw [if_pos s];omega
   exact ⟨by rw [e],rfl⟩
 · have s: ¬l<0:=by simpa using s
   have e:i64.wrap (2*l)=((sideN l:Nat):Int):=by
    rw [wrap64_of (by omega) (by omega)]
    unfold sideN;rw [if_neg s];omega
   exact ⟨by rw [e],rfl⟩
theorem wrap8_of {x:Int} (h1: -128≤x) (h2:x<128):IntKind.i8.wrap x=x:=by
 simp only [IntKind.wrap,IntKind.bits,IntKind.signed]
 simp only [Int.reducePow,Nat.reduceSub,Bool.true_and,decide_eq_true_eq,ge_iff_le]
 split<;>omega
theorem PSt.val_bd (k:Wf s) (l:Int):s.val l=0∨s.val l=1∨s.val l= -1:=by
 unfold PSt.val
 split
 · rcases k.vb (-l).toNat with h|h|h<;>rw [h]<;>simp
 · exact k.vb l.toNat
theorem val_ok (h:PM w b H s) (k:Wf s) (hl:InV s.vars l):Calls prog prop_Prop_val.id #[ptrV b,.int .i64 l] w fun e w'=>e= .returned (.int .i8 (s.val l))∧w'=w:=by
 have hb:=hl.bd k.vmax
 obtain ⟨h1,h2,h3⟩:=hl
 refine prop_Prop_val.calls ?_
 refine cnd_i (fun r=> ?_) (fun r=> ?_)
 · have r:l<0:=by simpa using r
   have e:i64.wrap (0 - l)= -l:=by rw [wrap64_of (by omega) (by omega)];omega
   rw [show i64.wrap (0 - l)= -l from e]
   refine ⟨_,rfl,_,_,_,cell_add h.st rfl,h.rIx (x:= .va) rfl (by omega) rfl (by rw [k.va];omega) fun a ha hc=> ⟨_,hc,?_,rfl⟩⟩
   have:=k.vb (-l).toNat
   rw [wrap8_of (by omega) (by omega)]
   unfold PSt.val
   rw [if_pos r]
   simp
 · have r: ¬l<0:=by simpa using r
   refine ⟨_,rfl,_,_,_,cell_add h.st rfl,h.rIx (x:= .va) rfl (by omega) rfl (by rw [k.va];omega) fun a ha hc=> ⟨_,hc,?_,rfl⟩⟩
   unfold PSt.val
   rw [if_neg r]
theorem rank_ok (h:PM w b H s) (k:Wf s) (hl:InV s.vars l):Calls prog prop_Prop_rank.id #[ptrV b,.int .i64 l] w fun e w'=>e= .returned (.int .i64 (s.rk l))∧Same w w':=by
 have hb:=hl.bd k.vmax
 have ha:=hl.amt
 refine prop_Prop_rank.calls ?_
 refine (val_ok h k hl).mono ?_
 rintro e w1 ⟨rfl,rfl⟩
 refine ⟨_,rfl,cnd_i (fun r=> ⟨?_,Same.refl _⟩) (fun r=> ?_)⟩
 · unfold PSt.rk;rw [if_pos (by simpa using r)]
 · refine ⟨(·=w1.drew),rfl,_,rfl,_,_,_,atW_eq (cell_add h.st rfl),(pamount_ok hb _).mono ?_⟩
   rintro e w2 ⟨rfl,rfl⟩
   refine ⟨_,rfl,rfl,h.drew.rIx (x:= .le) rfl (by omega) rfl (by rw [k.le];omega) fun a ha hc=> ⟨_,atW_eq hc,?_,(Same.refl _).drew⟩⟩
   unfold PSt.rk;rw [if_neg (by simpa using r)];rfl
end
section
variable {w w' w2 w3:World} {b:Nat} {H H' H2:Pt→Sl} {s t u:PSt} {l:Int}
structure Pw (w w':World) (b:Nat) (H H':Pt→Sl) (s':PSt):Prop where
 pm:PM w' b H' s'
 mod:Mod (fun k=> ∃x,own b H x=some k) w w'
 ft: ∀x k,own b H' x=some k→(∃y,own b H y=some k)∨w.heap.size≤k
theorem Pw.refl (h:PM w' b H s) (g:Grow w w'):Pw w w' b H H s:=⟨h,g.mono fun _ _ e=>e.elim,fun x _ hk=> .inl ⟨x,hk⟩⟩
theorem Pw.trans (h:Pw w w2 b H H2 t) (k:Pw w2 w3 b H2 H' u):Pw w w3 b H H' u:=by
 refine ⟨k.pm,h.mod.then k.mod fun j hj ⟨x,e⟩=> ?_,fun x j hj=> ?_⟩
 · rcases h.ft x j e with e|e
   · exact e
   · omega
 · rcases k.ft x j hj with ⟨y,e⟩|e
   · exact h.ft y j e
   · exact .inr (Nat.le_trans h.mod.size e)
theorem Pw.grow (h:Pw w w2 b H H' t) (g:Grow w2 w3):Pw w w3 b H H' t:=h.trans (.refl (h.pm.grow g) g)
theorem Pw.drew (h:Pw w w2 b H H' t):Pw w w2.drew b H H' t:=h.grow (Mod.refl _).drew
theorem Pw.pre {w0:World} (g:Grow w0 w) (h:Pw w w2 b H H' t):Pw w0 w2 b H H' t:=
 ⟨h.pm,(g.mono fun _ _ e=>e.elim).trans h.mod,fun x k hk=> (h.ft x k hk).imp id fun e=>Nat.le_trans g.size e⟩
theorem Pw.row (h:PM w' b H t) {x:Pt} (hx:x.row=true) (m:Mod (fun k=>blk (H x).p=some k) w w'):Pw w w' b H H t:=
 ⟨h,m.mono fun k _ e=> ⟨x,by rw [own_ne (row_ne hx).1];exact e⟩,fun x _ hk=> .inl ⟨x,hk⟩⟩
theorem Pw.head {x z:Pt} {q:Sl} (hx:x≠ .st) (h:PM w3 b (updF H x q) t) (m:Mod (fun k=>blk (H x).p=some k) w w2) (m2:Mod (fun k=>own b H z=some k) w2 w3)
 (hp: ∀k,blk q.p=some k→blk (H x).p=some k∨w.heap.size≤k):Pw w w3 b H (updF H x q) t:=by
 refine ⟨h,(m.mono fun k _ e=> ⟨x,by rw [own_ne hx];exact e⟩).trans (m2.mono fun k _ e=> ⟨z,e⟩),fun y k hk=> ?_⟩
 by_cases e:y=x
 · subst e
   rw [own_ne hx,updF_same] at hk
   rcases hp k hk with e|e
   · exact .inl ⟨y,by rw [own_ne hx];exact e⟩
   · exact .inr e
 · refine .inl ⟨y,?_⟩
   cases y<;>first|exact hk| (simp only [own] at hk ⊢;rwa [updF_ne e] at hk)
theorem fresh_or (h:PM w b H s) {p':Option Addr} {x:Pt} {w1:World} (g:w.heap.size≤w1.heap.size) (hp:p'=(H x).p∨p'=some ⟨w1.heap.size,0,none⟩):
 (∀k,blk p'=some k→blk (H x).p=some k∨∀y,own b H y≠some k)∧(∀k,blk p'=some k→blk (H x).p=some k∨w.heap.size≤k):=by
 rcases hp with rfl|rfl
 · exact ⟨fun k hk=> .inl hk,fun k hk=> .inl hk⟩
 · exact ⟨fun k hk=> .inr (h.fresh (by have:=blk_some hk;omega)),fun k hk=> .inr (by have:=blk_some hk;omega)⟩
theorem PM.app1 (h:PM w b H s) {x:Pt} (hx:x.field=true) (y:Int) (hlen:(s.R x).length≤4000000) {n:Nat} (hn:n=(H x).n) {K:World→Prop}
 (hk: ∀w3 q,PM w3 b (updF H x q) (s.set x (s.R x++ [y]))→Pw w w3 b H (updF H x q) (s.set x (s.R x++ [y]))→K w3):
 ∀n1 w1,New (.cells #[.int .i64 y] ty_int) w n1 w1→∃w2,∃ (p':Option Addr) (n' c':Nat),(Builtin.append_ #[ty_sl_int,ty_sl_int] ty_sl_int #[.slice (H x).p n (H x).c,.slice (some (Addr.mk n1 0 none)) 1 1]).run prog w1= .ok (.slice p' n' c') w2∧
  ∃a:Addr,(some ⟨b,0,none⟩:Option Addr)=some a∧∃w3,StoreAt (a.add x.off) 0 [.slice p' n' c'] w2 w3∧K w3:=by
 intro n1 w1 h1
 have hr:=field_row hx
 have ef:x.f=Value.int .i64:=by cases x<;>simp [Pt.field] at hx<;>rfl
 have eT:x.T=ty_int:=by cases x<;>simp [Pt.field] at hx<;>rfl
 have h':=h.grow h1.mod
 have o:OwI ty_int w1 (H x).p (H x).c (s.R x):=by have:=h'.row x hr;rw [ef,eT] at this;exact this
 refine o.app1 sl_int y h1.has rfl (by rw [hn,h.len x hr]) oneInt (by omega) fun w2 p' c' o2 m2 hp2 hs2=> ⟨_,rfl,?_⟩
 have g1:=h1.mod.size
 obtain ⟨f1,f2⟩:=fresh_or h (x:=x) g1 hp2
 refine h'.head hx (c':=c') (l':=s.R x++ [y]) (by rw [ef,eT];exact o2) (h'.but hr m2) (fun k hk=> (f1 k hk)) (by simp) fun w3 h3 m3=>hk w3 _ h3 (Pw.head (z:= .st) (row_ne hr).1 h3 ((h1.mod.mono fun _ _ e=>e.elim).trans m2) (m3.mono fun k _ e=>by rw [e];rfl) f2)
def PSt.put (s:PSt) (l r:Int):PSt:=
 (((s.set .va ((s.R .va).set (amt l).toNat (if l<0 then -1 else 1))).set .le ((s.R .le).set (amt l).toNat (s.R .be).length)).set .re ((s.R .re).set (amt l).toNat r)).set .tr (s.R .tr++ [l])
theorem put_ok (h:PM w b H s) (k:Wf s) (hl:InV s.vars l) (r:Int):Calls prog prop_Prop_put.id #[ptrV b,.int .i64 l,.int .i64 r] w fun e w'=>e= .returned (.tuple #[])∧∃q,Pw w w' b H (updF H .tr q) (s.put l r):=by
 have hb:=hl.bd k.vmax
 have ha:=hl.amt
 have hlc:=hl
 obtain ⟨l1,l2,l3⟩:=hlc
 have sz: ∀x,x≠Pt.va→∀V,(s.set .va V).R x=s.R x:=fun x hx V=>updF_ne hx
 have tail: ∀w7:World,PM w7 b H (s.set .va ((s.R .va).set (amt l).toNat (if l<0 then -1 else 1)))→Pw w.drew w7 b H H (s.set .va ((s.R .va).set (amt l).toNat (if l<0 then -1 else 1)))→
  (∃W35:World→Prop,W35 w7.drew∧
  ∃a36,(some ⟨b,0,none⟩:Option Addr)=some a36∧∃x37p x37n x37c,AtW W35 (a36.add 4) (.slice x37p x37n x37c)∧
  Calls prog prop_amount.id #[.int .i64 l] w7.drew fun e w38=> ∃r39,e= .returned (.int .i64 r39)∧
  W35 w38∧∃a40,(some ⟨b,0,none⟩:Option Addr)=some a40∧∃x41p x41n x41c,AtW W35 (a40.add 5) (.slice x41p x41n x41c)∧
  Calls prog prop_amount.id #[.int .i64 l] w38 fun e w42=> ∃r43,e= .returned (.int .i64 r43)∧
  W35 w42∧∃a44,(some ⟨b,0,none⟩:Option Addr)=some a44∧∃x45p x45n x45c,AtW W35 (a44.add 7) (.slice x45p x45n x45c)∧
  ixK x37p x37n r39 1 fun a46=>
  ∃w47,StoreAt a46 0 [.int .i64 (x45n:Int)] w42 w47∧
  ixK x41p x41n r43 1 fun a48=>
  ∃w49,StoreAt a48 0 [.int .i64 r] w47 w49∧
  ∃a50,(some ⟨b,0,none⟩:Option Addr)=some a50∧∃x51p x51n x51c,w49.cell? (a50.add 6)=some (.slice x51p x51n x51c)∧
  ∀n52 w53,New (.cells #[.int .i64 l] ty_int) w49 n52 w53→
  ∃w54 r55p r55n r55c,(Builtin.append_ #[ty_sl_int,ty_sl_int] ty_sl_int #[.slice x51p x51n x51c,.slice (some (Addr.mk n52 0 none)) 1 1]).run prog w53= .ok (.slice r55p r55n r55c) w54∧
  ∃a56,(some ⟨b,0,none⟩:Option Addr)=some a56∧∃w57,StoreAt (a56.add 6) 0 [.slice r55p r55n r55c] w54 w57∧
  ((Ending.returned (.tuple #[])= .returned (.tuple #[]))∧∃q,Pw w w57 b H (updF H .tr q) (s.put l r))):=by
  intro w7 h7 p7
  generalize hV:(s.R .va).set (amt l).toNat (if l<0 then -1 else 1)=V at h7 p7
  refine ⟨(·=w7.drew),rfl,_,rfl,_,_,_,atW_eq (cell_add h7.drew.st rfl),(pamount_ok hb _).mono ?_⟩
  rintro e w8 ⟨rfl,rfl⟩
  refine ⟨_,rfl,rfl,_,rfl,_,_,_,atW_eq (cell_add h7.drew.st rfl),(pamount_ok hb _).mono ?_⟩
  rintro e w9 ⟨rfl,rfl⟩
  refine ⟨_,rfl,rfl,_,rfl,_,_,_,atW_eq (cell_add h7.drew.st rfl),h7.drew.rSt (x:= .le) rfl (by omega) rfl (by rw [sz _ (by simp),k.le];omega) (y:=(s.R .be).length) (by rw [h.len .be rfl];rfl) rfl fun w24 h24 m24=> ?_⟩
  refine h24.rSt (x:= .re) rfl (by omega) rfl (by simp [PSt.set,updF,k.re];omega) (y:=r) rfl rfl fun w26 h26 m26=> ?_
  have p26:=(p7.drew.trans (Pw.row h24 (x:= .le) rfl m24)).trans (Pw.row h26 (x:= .re) rfl m26)
  refine ⟨_,rfl,_,_,_,cell_add h26.st rfl,?_⟩
  refine h26.app1 (x:= .tr) rfl l (by have:=k.tr;simp [PSt.set,updF];omega) rfl fun w34 q h34 p34=> ?_
  refine ⟨rfl,q,?_⟩
  have e34:s.put l r=((((s.set .va V).set .le (((s.set .va V).R .le).set (amt l).toNat ((s.R .be).length))).set .re ((((s.set .va V).set .le (((s.set .va V).R .le).set (amt l).toNat ((s.R .be).length))).R .re).set (amt l).toNat r)).set .tr
   ((((s.set .va V).set .le (((s.set .va V).R .le).set (amt l).toNat ((s.R .be).length))).set .re ((((s.set .va V).set .le (((s.set .va V).R .le).set (amt l).toNat ((s.R .be).length))).R .re).set (amt l).toNat r)).R .tr++ [l])):=by
   simp [PSt.put,← hV,PSt.set,updF]
  rw [e34]
  exact (p26.trans p34).pre (Mod.refl w).drew
 refine prop_Prop_put.calls ?_
 refine ⟨(·=w.drew),rfl,_,rfl,_,_,_,atW_eq (cell_add h.drew.st rfl),(pamount_ok hb _).mono ?_⟩
 rintro e w1 ⟨rfl,rfl⟩
 refine ⟨_,rfl,rfl,h.drew.rSt (x:= .va) rfl (by omega) rfl (by rw [k.va];omega) (y:=1) rfl rfl fun w3 h3 m3=>cnd_i (fun r=> ?_) (fun r=> ?_)⟩
 · have r:l<0:=by simpa using r
   have e:i64.wrap (0 - l)=amt l:=by rw [wrap64_of (by omega) (by omega)];unfold amt;rw [if_pos r];omega
   rw [e]
   refine ⟨_,rfl,_,_,_,cell_add h3.st rfl,h3.rSt (x:= .va) rfl (by omega) rfl (by simp [PSt.set,updF_same,k.va];omega) (y:= -1) rfl rfl fun w7 h7 m7=> ?_⟩
   have e7:(s.set .va ((s.R .va).set (amt l).toNat 1)).set .va (((s.set .va ((s.R .va).set (amt l).toNat 1)).R .va).set (amt l).toNat (-1))=s.set .va ((s.R .va).set (amt l).toNat (if l<0 then -1 else 1)):=by
    rw [if_pos r]
    simp only [PSt.set,updF_same,List.set_set]
    congr 1;funext y;simp only [updF];split<;>rfl
   rw [e7] at h7
   have p7:=(Pw.row h3 (x:= .va) rfl m3).trans (Pw.row h7 (x:= .va) rfl m7)
   exact tail w7 h7 p7
 · have r: ¬l<0:=by simpa using r
   have p3:=Pw.row h3 (x:= .va) rfl m3
   refine tail w3 ?_ ?_
   · rw [if_neg r];exact h3
   · rw [if_neg r];exact p3
end
section
variable {w w' w2 w3:World} {b:Nat} {H H' H2:Pt→Sl} {s t u:PSt} {l:Int}
def isB (n:Nat) (l:Int):Bool:=litB l && decide (amt l≤n)
theorem isB_iff {n:Nat} (hn:n≤1048576):isB n l=true↔InV n l:=by
 unfold isB litB InV amt
 simp only [Bool.and_eq_true,decide_eq_true_eq]
 split<;>omega
theorem va_some (h:PM w b H s) (k:Wf s): ∃a,(H .va).p=some a:=by
 rcases (h.row .va rfl).un with ⟨_,_,e⟩| ⟨g,_,e,_⟩
 · have:=k.va;rw [e] at this;simp at this
 · exact ⟨_,e⟩
theorem is_ok (h:PM w b H s) (k:Wf s) (l:Int):Calls prog prop_Prop_is.id #[ptrV b,.int .i64 l] w fun e w'=>e= .returned (.bool (isB s.vars l))∧Grow w w':=by
 refine prop_Prop_is.calls ?_
 obtain ⟨av,hav⟩:=va_some h k
 refine ⟨fun u=>Grow w u,(Mod.refl w).drew,cnd_t rfl ⟨_,rfl,_,_,_,fun u g=>cell_add (h.grow g).st rfl,?_⟩⟩
 rw [hav]
 refine cnd_t rfl ?_
 intro n1 w1 h1
 have g1:Grow w w1:=(Mod.refl w).drew.trans h1.mod
 have v1:Vw (Value.int .i64) w1 (some ⟨n1,0,none⟩) [l]:=by
  intro j hj
  have hj:j=0:=by simpa using hj
  subst hj
  exact ⟨_,rfl,cell_add h1.has rfl⟩
 refine ⟨g1,(litCheck_ok v1 rfl (by simp [maxLen])).mono ?_⟩
 rintro e w2 ⟨rfl,g2⟩
 have G2:=g1.trans g2
 have ec:clB [l]=litB l:=by simp [clB]
 refine ⟨_,rfl,G2,?_⟩
 rw [ec]
 cases hl:litB l with
 |false=>exact cnd_f rfl ⟨by simp [isB,hl],G2⟩
 |true=>
  refine cnd_t rfl ((pamount_ok (litB_bd hl).2 _).mono ?_)
  rintro e w3 ⟨rfl,rfl⟩
  exact ⟨_,rfl,G2,_,rfl,_,fun u g=>cell_add (h.grow g).st rfl,by simp [isB,hl],G2⟩
def PSt.value (s:PSt) (l:Int):Int:=if isB s.vars l then s.val l else 0
def PSt.level (s:PSt) (l:Int):Int:=if isB s.vars l && s.val l !=0 then s.lev l else -1
def PSt.reason (s:PSt) (l:Int):Int:=if isB s.vars l && s.val l !=0 then s.rea l else -1
theorem value_ok (h:PM w b H s) (k:Wf s) (l:Int):Calls prog prop_Prop_Value.id #[ptrV b,.int .i64 l] w fun e w'=>e= .returned (.int .i64 (s.value l))∧Grow w w':=by
 refine prop_Prop_Value.calls ((is_ok h k l).mono ?_)
 rintro e w1 ⟨rfl,g1⟩
 refine ⟨_,rfl,?_⟩
 cases hi:isB s.vars l with
 |false=>exact cnd_t rfl ⟨by simp [PSt.value,hi],g1⟩
 |true=>
  refine cnd_f rfl ((val_ok (h.grow g1) k ((isB_iff k.vmax).1 hi)).mono ?_)
  rintro e w2 ⟨rfl,rfl⟩
  refine ⟨_,rfl,?_,g1⟩
  have:=PSt.val_bd k l
  rw [wrap64_of (by omega) (by omega)]
  simp [PSt.value,hi]
theorem level_ok' (h:PM w b H s) (k:Wf s) (l:Int):Calls prog prop_Prop_Level.id #[ptrV b,.int .i64 l] w fun e w'=>e= .returned (.int .i64 (s.level l))∧Grow w w':=by
 refine prop_Prop_Level.calls ((is_ok h k l).mono ?_)
 rintro e w1 ⟨rfl,g1⟩
 refine ⟨_,rfl,?_⟩
 cases hi:isB s.vars l with
 |false=>exact cnd_t rfl ⟨by simp [PSt.level,hi],g1⟩
 |true=>
  have hv:=(isB_iff k.vmax).1 hi
  have ha:=hv.amt
  have h1:=h.grow g1
  refine cnd_f rfl ((val_ok h1 k hv).mono ?_)
  rintro e w2 ⟨rfl,rfl⟩
  refine ⟨_,rfl,cnd_i (fun r=> ⟨by simp at r;simp [PSt.level,r],g1⟩) (fun r=> ?_)⟩
  refine ⟨(·=w2.drew),rfl,_,rfl,_,_,_,atW_eq (cell_add h1.drew.st rfl),(pamount_ok (hv.bd k.vmax) _).mono ?_⟩
  rintro e w3 ⟨rfl,rfl⟩
  refine ⟨_,rfl,rfl,h1.drew.rIx (x:= .le) rfl (by omega) rfl (by rw [k.le];omega) fun a _ hc=> ⟨_,atW_eq hc,?_,g1.drew⟩⟩
  simp at r
  simp [PSt.level,hi,r,PSt.lev]
theorem reason_ok (h:PM w b H s) (k:Wf s) (l:Int):Calls prog prop_Prop_Reason.id #[ptrV b,.int .i64 l] w fun e w'=>e= .returned (.int .i64 (s.reason l))∧Grow w w':=by
 refine prop_Prop_Reason.calls ((is_ok h k l).mono ?_)
 rintro e w1 ⟨rfl,g1⟩
 refine ⟨_,rfl,?_⟩
 cases hi:isB s.vars l with
 |false=>exact cnd_t rfl ⟨by simp [PSt.reason,hi],g1⟩
 |true=>
  have hv:=(isB_iff k.vmax).1 hi
  have ha:=hv.amt
  have h1:=h.grow g1
  refine cnd_f rfl ((val_ok h1 k hv).mono ?_)
  rintro e w2 ⟨rfl,rfl⟩
  refine ⟨_,rfl,cnd_i (fun r=> ⟨by simp at r;simp [PSt.reason,r],g1⟩) (fun r=> ?_)⟩
  refine ⟨(·=w2.drew),rfl,_,rfl,_,_,_,atW_eq (cell_add h1.drew.st rfl),(pamount_ok (hv.bd k.vmax) _).mono ?_⟩
  rintro e w3 ⟨rfl,rfl⟩
  refine ⟨_,rfl,rfl,h1.drew.rIx (x:= .re) rfl (by omega) rfl (by rw [k.re];omega) fun a _ hc=> ⟨_,atW_eq hc,?_,g1.drew⟩⟩
  simp at r
  simp [PSt.reason,hi,r,PSt.rea]
theorem levels_ok (h:PM w b H s):Calls prog prop_Prop_Levels.id #[ptrV b] w fun e w'=>e= .returned (.int .i64 (s.R .be).length)∧w'=w:=by
 refine prop_Prop_Levels.calls (cnd_f rfl ⟨_,rfl,_,_,_,cell_add h.st rfl,?_,rfl⟩)
 rw [h.len .be rfl]
theorem trail_ok (h:PM w b H s) (ht:(s.R .tr).length≤1000000):Calls prog prop_Prop_Trail.id #[ptrV b] w fun e w'=> ∃ (q:Option Addr) (d:Nat),e= .returned (.slice q (s.R .tr).length d)∧OwI ty_int w' q d (s.R .tr)∧Grow w w'∧(∀b,blk q=some b→w.heap.size≤b):=by
 refine prop_Prop_Trail.calls (cnd_f rfl ⟨_,rfl,_,_,_,cell_add h.st rfl,?_⟩)
 refine (clone_ok (h.row .tr rfl).vw (h.len .tr rfl) (by rw [h.len .tr rfl];exact ht)).mono ?_
 rintro e w1 ⟨q,d,rfl,o,g,f⟩
 exact ⟨_,_,_,rfl,q,d,rfl,o,g,f⟩
def PSt.is (s:PSt) (i:Int):Bool:=decide (0≤i∧i<s.nc) && !s.gone i.toNat
theorem there_ok (h:PM w b H s) (i:Int):Calls prog prop_Prop_there.id #[ptrV b,.int .i64 i] w fun e w'=>e= .returned (.bool (s.is i))∧w'=w:=by
 refine prop_Prop_there.calls (cnd_t rfl (cnd_i (fun r=> ?_) fun r=> ?_))
 · have r:0≤i:=by simpa using r
   refine ⟨_,rfl,_,_,_,cell_add h.st rfl,cnd_i (fun r2=> ?_) fun r2=> ?_⟩
   · have r2:i<s.nc:=by rw [h.cn] at r2;simpa using r2
     refine ⟨_,rfl,_,_,_,cell_add h.st rfl,h.cIx (i:=i.toNat) (by omega) rfl (by omega) fun a hc=> ⟨_,hc.get 2 _ rfl,?_,rfl⟩⟩
     simp [PSt.is,r,r2]
   · have r2: ¬i<s.nc:=by rw [h.cn] at r2;simpa using r2
     exact ⟨by simp [PSt.is,r2],rfl⟩
 · have r: ¬0≤i:=by simpa using r
   exact ⟨by simp [PSt.is,r],rfl⟩
theorem clause_ok (h:PM w b H s) (i:Int) (ha: ∀i,(s.R (.a i)).length≤1000000):Calls prog prop_Prop_Clause.id #[ptrV b,.int .i64 i] w fun e w'=>
 ∃ (q:Option Addr) (d:Nat),e= .returned (.tuple #[.slice q (if s.is i then s.R (.a i.toNat) else []).length d,.bool (s.is i)])∧OwI ty_int w' q d (if s.is i then s.R (.a i.toNat) else [])∧Grow w w'∧(∀b,blk q=some b→w.heap.size≤b):=by
 refine prop_Prop_Clause.calls ((there_ok h i).mono ?_)
 rintro e w1 ⟨rfl,rfl⟩
 refine ⟨_,rfl,?_⟩
 cases hi:s.is i with
 |false=>exact cnd_t rfl ⟨none,0,rfl,Ow.nil _ _ _,Mod.refl _,fun b e=>by simp [blk] at e⟩
 |true=>
  have hi':0≤i∧i<s.nc:=by simp [PSt.is] at hi;exact hi.1
  refine cnd_f rfl ⟨_,rfl,_,_,_,cell_add h.st rfl,h.cIx (i:=i.toNat) (by omega) rfl (by omega) fun a hc=> ⟨_,_,_,hc.get 0 _ rfl,?_⟩⟩
  refine (clone_ok (h.row (.a i.toNat) rfl).vw (h.len _ rfl) (by rw [h.len _ rfl];exact ha _)).mono ?_
  rintro e w1 ⟨q,d,rfl,o,g,f⟩
  exact ⟨_,_,_,rfl,q,d,rfl,o,g,f⟩
theorem same1 {i:Int} {n1:Nat} (h:Has w n1 #[.int .i64 i]) (x:Int):Calls prog prop_Prop_unwatch_1.id #[.int .i64 x,.pointer (some ⟨n1,0,none⟩)] w fun e w'=>e= .returned (.bool (x==i))∧Grow w w':=
 prop_Prop_unwatch_1.calls ⟨_,cell_of h rfl,rfl,Mod.refl _⟩
theorem same2 {i:Int} {n1:Nat} (h:Has w n1 #[.int .i64 i]) (x:Int):Calls prog prop_Prop_Drop_1.id #[.int .i64 x,.pointer (some ⟨n1,0,none⟩)] w fun e w'=>e= .returned (.bool (x==i))∧Grow w w':=
 prop_Prop_Drop_1.calls ⟨_,cell_of h rfl,rfl,Mod.refl _⟩
theorem same1_ent:entB prog prop_Prop_unwatch_1.id=true:=by kernel_rfl
theorem same2_ent:entB prog prop_Prop_Drop_1.id=true:=by kernel_rfl
theorem false1 (h:PM w b H s) (k:Wf s) {n1:Nat} (h1:Has w n1 #[ptrV b]) {x:Int} (hx:InV s.vars x):Calls prog prop_Prop_loosely_1.id #[.int .i64 x,.pointer (some ⟨n1,0,none⟩)] w fun e w'=>e= .returned (.bool (decide (s.val x<0)))∧Grow w w':=by
 refine prop_Prop_loosely_1.calls ⟨_,cell_of h1 rfl,(val_ok h k hx).mono ?_⟩
 rintro e w1 ⟨rfl,rfl⟩
 exact ⟨_,rfl,rfl,Mod.refl _⟩
theorem false1_ent:entB prog prop_Prop_loosely_1.id=true:=by kernel_rfl
theorem add1 (h:PM w b H s) (k:Wf s) {n1:Nat} (h1:Has w n1 #[ptrV b]) (x:Int):Calls prog prop_Prop_Add_1.id #[.int .i64 x,.pointer (some ⟨n1,0,none⟩)] w fun e w'=>e= .returned (.bool (!isB s.vars x))∧Grow w w':=by
 refine prop_Prop_Add_1.calls ⟨_,cell_of h1 rfl,(is_ok h k x).mono ?_⟩
 rintro e w1 ⟨rfl,g⟩
 exact ⟨_,rfl,rfl,g⟩
theorem add1_ent:entB prog prop_Prop_Add_1.id=true:=by kernel_rfl
end
section
variable {w w' w0 w2 w3 wA:World} {b:Nat} {H H' H2:Pt→Sl} {s t u:PSt} {l:Int}
theorem Wf.set {x:Pt} (k:Wf s) (h1:x≠ .va) (h2:x≠ .le) (h3:x≠ .re) (h4:x≠ .be) (h5:x≠ .tr) (l:List Int):Wf (s.set x l):=
 ⟨k.vmax,by simp only [PSt.set,updF_ne (Ne.symm h1)];exact k.va,by simp only [PSt.set,updF_ne (Ne.symm h1)];exact k.vb,by simp only [PSt.set,updF_ne (Ne.symm h2)];exact k.le,by simp only [PSt.set,updF_ne (Ne.symm h3)];exact k.re,
   by simp only [PSt.set,updF_ne (Ne.symm h4)];exact k.be,by simp only [PSt.set,updF_ne (Ne.symm h5)];exact k.tr,k.nc⟩
theorem val_eq (e:t.R .va=s.R .va) (l:Int):t.val l=s.val l:=by unfold PSt.val;rw [e]
theorem rk_eq (e:t.R .va=s.R .va) (e2:t.R .le=s.R .le) (l:Int):t.rk l=s.rk l:=by unfold PSt.rk PSt.lev;rw [val_eq e,e2]
theorem set_ne {x y:Pt} {l:List Int} (h:y≠x):(s.set x l).R y=s.R y:=updF_ne h
theorem set_eq {x:Pt} {l:List Int}:(s.set x l).R x=l:=updF_same
theorem set_set {x:Pt} {l m:List Int}:(s.set x l).set x m=s.set x m:=by
 simp only [PSt.set]
 congr 1
 funext y
 simp only [updF]
 split<;>rfl
theorem set_self' {x:Pt}:s.set x (s.R x)=s:=by
 unfold PSt.set
 congr 1
 funext y
 simp only [updF]
 split
 · rename_i e;rw [e]
 · rfl
theorem PM.appW (h:PM w0 b H t) {j:Nat} (hj:j<2* (t.vars+1)) (g:Grow w0 wA) {n:Nat} {i:Int} (hb:Has wA n #[.int .i64 i]) (hlen:(t.R (.w j)).length≤4000000) {K:World→Prop}
 (hk: ∀w3 q,Pw w0 w3 b H (updF H (.w j) q) (t.set (.w j) (t.R (.w j)++ [i]))→K w3) {I:Int} (hI:I=j):
 ∃w2,∃ (p':Option Addr) (n' c':Nat),(Builtin.append_ #[ty_sl_int,ty_sl_int] ty_sl_int #[.slice (H (.w j)).p (H (.w j)).n (H (.w j)).c,.slice (some (Addr.mk n 0 none)) 1 1]).run prog wA= .ok (.slice p' n' c') w2∧
  Mod (fun k=>blk (H (.w j)).p=some k) w0 w2∧ixK (H .wa).p (H .wa).n I 1 fun a=> ∃w3,StoreAt a 0 [.slice p' n' c'] w2 w3∧K w3:=by
 have h':=h.grow g
 have o:OwI ty_int wA (H (.w j)).p (H (.w j)).c (t.R (.w j)):=h'.row (.w j) rfl
 refine o.app1 sl_int i hb rfl (h.len (.w j) rfl) oneInt (by omega) fun w2 p' c' o2 m2 hp2 hs2=> ?_
 have m:Mod (fun k=>blk (H (.w j)).p=some k) w0 w2:=(g.mono fun _ _ e=>e.elim).trans m2
 obtain ⟨f1,f2⟩:=fresh_or h (x:= .w j) g.size hp2
 refine ⟨m,h'.headW hj o2 (h'.but rfl m2) f1 (by simp) h.wn hI fun w3 h3 m3=>hk w3 _ (Pw.head (z:= .wa) (by simp) h3 m m3 f2)⟩
def wF (i:Int) (t:PSt) (xs:List Int):PSt:=xs.foldl (fun t x=>t.set (.w (sideN x)) (t.R (.w (sideN x))++ [i])) t
theorem wF_append (i:Int) (t:PSt) (xs:List Int) (x:Int):wF i t (xs++ [x])=(wF i t xs).set (.w (sideN x)) ((wF i t xs).R (.w (sideN x))++ [i]):=by simp [wF]
theorem wF_R (i:Int) {y:Pt} (hy: ∀j,y≠ .w j): ∀ (xs:List Int) (t:PSt),(wF i t xs).R y=t.R y
 | [],_=>rfl
 |_::xs,_=> (wF_R i hy xs _).trans (set_ne (hy _))
theorem wF_vars (i:Int): ∀ (xs:List Int) (t:PSt),(wF i t xs).vars=t.vars∧(wF i t xs).nc=t.nc∧(wF i t xs).gone=t.gone∧(wF i t xs).done=t.done
 | [],_=> ⟨rfl,rfl,rfl,rfl⟩
 |x::xs,t=>wF_vars i xs (t.set (.w (sideN x)) (t.R (.w (sideN x))++ [i]))
theorem wF_len (i:Int) (j:Nat): ∀ (xs:List Int) (t:PSt),((wF i t xs).R (.w j)).length≤(t.R (.w j)).length+xs.length
 | [],_=>Nat.le_refl _
 |x::xs,t=>by
  have:=wF_len i j xs (t.set (.w (sideN x)) (t.R (.w (sideN x))++ [i]))
  refine Nat.le_trans this ?_
  by_cases e:sideN x=j
  · subst e;rw [set_eq];simp;omega
  · rw [set_ne (fun h=>e (by injection h with h;exact h.symm))];simp
def Best (rk:Int→Int) (n:Nat) (l:List Int):Prop:= ∀t,t<n→∀j,t≤j→j<l.length→rk (l.getD j 0)≤rk (l.getD t 0)
def settleS (s:PSt) (i:Nat) (l':List Int):PSt:=
 let u:=wF i (s.set (.l i) l') (l'.take 2)
 if l'.length<2∨s.val (l'.getD 1 0)<0 then u.set .lo (s.R .lo++ [(i:Int)]) else u
def KeepH (H H':Pt→Sl):Prop:= ∀x,(∀j,x≠ .w j)→x≠ .lo→H' x=H x
theorem KeepH.refl:KeepH H H:=fun _ _ _=>rfl
theorem KeepH.wt (h:KeepH H H') {j:Nat} {q:Sl}:KeepH H (updF H' (.w j) q):=fun x h1 h2=>by rw [updF_ne (h1 j)];exact h x h1 h2
set_option linter.unusedVariables false in
theorem settle_ok (h:PM w b H s) (k:Wf s) {i:Nat} (hi:i<s.nc) (hl: ∀x∈s.R (.l i),InV s.vars x) (hn:(s.R (.l i)).length≤100000) (hw: ∀j,(s.R (.w j)).length+2≤4000000) (hlo:(s.R .lo).length≤4000000):
 Calls prog prop_Prop_settle.id #[ptrV b,.int .i64 i] w fun e w'=>e= .returned (.tuple #[])∧∃l' H',Best s.rk 2 l'∧l'.Perm (s.R (.l i))∧Pw w w' b H H' (settleS s i l')∧KeepH H H'∧(2≤l'.length→0≤s.val (l'.getD 1 0)→H' .lo=H .lo):=by
 have nc:=k.nc
 refine prop_Prop_settle.calls ?_
 refine ⟨_,rfl,_,_,_,cell_add h.st rfl,h.cIx hi rfl rfl fun a3 hc3=> ⟨_,_,_,hc3.get 1 _ rfl,?_⟩⟩
 have hln:(H (.l i)).n=(s.R (.l i)).length:=h.len (.l i) rfl
 generalize hN:(s.R (.l i)).length=N at*
 refine ⟨fun K u m=> ∃ (t:Nat) (l':List Int),K=t∧t≤2∧t≤N∧m=2 - t∧l'.Perm (s.R (.l i))∧Best s.rk t l'∧Pw w u b H H (s.set (.l i) l'),
  ⟨_,0,s.R (.l i),rfl,Nat.zero_le _,Nat.zero_le _,rfl,List.Perm.refl _,fun t ht=>by omega,by rw [set_self'];exact Pw.refl h (Mod.refl w)⟩,?_⟩
 rintro K w9 m _ ⟨t,l',rfl,ht,htN,rfl,pm,hb,P9⟩
 have hlen:l'.length=N:=by rw [pm.length_eq,hN]
 have hin: ∀x∈l',InV s.vars x:=fun x hx=>hl x (pm.mem_iff.1 hx)
 have e2: ∀y,y≠Pt.l i→∀L,(s.set (.l i) L).R y=s.R y:=fun y hy L=>set_ne hy
 have him:imin 2 ((H (.l i)).n:Int)=((min 2 N:Nat):Int):=by rw [hln];unfold imin;split<;>omega
 rw [him]
 refine cnd_i (fun r=> ?_) (fun r=> ?_)
 · have r:t<min 2 N:=by simp at r;omega
   have h9:=P9.pm
   have k9:Wf (s.set (.l i) l'):=k.set (by simp) (by simp) (by simp) (by simp) (by simp) l'
   refine ⟨fun B J u m=> ∃ (B' J':Nat),B=B'∧J=J'∧t≤B'∧B'<N∧B'<J'∧J'≤N∧m=N - J'∧(∀x,t≤x→x<J'→s.rk (l'.getD x 0)≤s.rk (l'.getD B' 0))∧Grow w9 u,
    ⟨_,t,t+1,rfl,wN (by omega) (by omega),Nat.le_refl _,by omega,by omega,by omega,rfl,fun x x1 x2=> (by rw [show x=t by omega];exact Int.le_refl _),Mod.refl _⟩,?_⟩
   rintro B J w15 m _ ⟨B,J,rfl,rfl,tB,BN,BJ,JN,rfl,hmax,g15⟩
   refine cnd_i (fun r2=> ?_) (fun r2=> ?_)
   · have r2:J<N:=by rw [hln] at r2;simpa using r2
     have h15:=h9.grow g15
     have hr: ∀ {u:World} {X:Nat},Grow w9 u→X<N→Calls prog prop_Prop_rank.id #[ptrV b,.int .i64 (l'.getD X 0)] u fun e w'=>e= .returned (.int .i64 (s.rk (l'.getD X 0)))∧Grow u w':=by
      intro u X g hX
      refine (rank_ok (h9.grow g) k9 (hin _ (mem_getD (by omega)))).mono ?_
      rintro e w' ⟨rfl,sm⟩
      rw [rk_eq (s:=s) (set_ne (by simp)) (set_ne (by simp))]
      exact ⟨rfl,sm.mod⟩
     refine ⟨fun u=>Grow w15 u,(Mod.refl _).drew,h15.rIx (x:= .l i) rfl (by omega) rfl (by rw [set_eq];omega) fun a17 _ hc17=> ⟨_,fun u g=>cell_keep g hc17 id,?_⟩⟩
     rw [set_eq,Int.toNat_natCast]
     refine (hr g15.drew r2).mono ?_
     rintro e w19 ⟨rfl,g19⟩
     have G19:=((Mod.refl w15).drew).trans g19
     refine ⟨_,rfl,G19,h15.rIx (x:= .l i) rfl (by omega) rfl (by rw [set_eq];omega) fun a21 _ hc21=> ⟨_,fun u g=>cell_keep g hc21 id,?_⟩⟩
     rw [set_eq,Int.toNat_natCast]
     refine (hr (g15.trans G19) BN).mono ?_
     rintro e w23 ⟨rfl,g23⟩
     have G23:=g15.trans (G19.trans g23)
     refine ⟨_,rfl,cnd_i (fun r3=> ?_) (fun r3=> ?_)⟩
     · have r3:s.rk (l'.getD B 0)<s.rk (l'.getD J 0):=by simpa using r3
       refine ⟨_,?_,J,J+1,rfl,wN (by omega) (by omega),by omega,r2,by omega,by omega,rfl,fun x x1 x2=> ?_,G23⟩
       · omega
       · by_cases e:x=J
         · rw [e];exact Int.le_refl _
         · have:=hmax x x1 (by omega);omega
     · have r3:s.rk (l'.getD J 0)≤s.rk (l'.getD B 0):=by simpa using r3
       refine ⟨_,?_,B,J+1,rfl,wN (by omega) (by omega),tB,BN,by omega,by omega,rfl,fun x x1 x2=> ?_,G23⟩
       · omega
       · by_cases e:x=J
         · rw [e];exact r3
         · exact hmax x x1 (by omega)
   · have r2:J=N:=by rw [hln] at r2;simp at r2;omega
     subst r2
     have h15:=(h9.grow g15).drew
     refine h15.rIx (x:= .l i) rfl (by omega) rfl (by rw [set_eq];omega) fun a25 _ hc25=> ⟨_,hc25,h15.rIx (x:= .l i) rfl (by omega) rfl (by rw [set_eq];omega) fun a27 _ hc27=> ⟨_,hc27,?_⟩⟩
     rw [set_eq,Int.toNat_natCast,Int.toNat_natCast]
     refine h15.rSt (x:= .l i) rfl (by omega) rfl (by rw [set_eq];omega) (y:=l'.getD B 0) rfl rfl fun w30 h30 m30=>h30.rSt (x:= .l i) rfl (by omega) rfl (by simp [set_eq];omega) (y:=l'.getD t 0) rfl rfl fun w32 h32 m32=> ?_
     rw [set_eq,Int.toNat_natCast,Int.toNat_natCast,set_set,set_eq,set_set] at h32
     have esw:(l'.set t (l'.getD B 0)).set B (l'.getD t 0)=swp l' t B:=rfl
     rw [esw] at h32
     have P32:Pw w w32 b H H (s.set (.l i) (swp l' t B)):=(P9.grow g15.drew).trans ⟨h32,(m30.mono fun k _ e=> ⟨.l i,e⟩).trans (m32.mono fun k _ e=> ⟨.l i,e⟩),fun x _ hk=> .inl ⟨x,hk⟩⟩
     refine ⟨_,?_,t+1,_,wN (by omega) (by omega),by omega,by omega,rfl,(perm_swp (by omega) (by omega)).trans pm,?_,P32⟩
     · omega
     · intro y hy j hyj hj
       rw [swp_len] at hj
       rw [swp_get (by omega) (by omega),swp_get (by omega) (by omega)]
       by_cases e:y=t
       · subst e
         have hmt:s.rk (l'.getD y 0)≤s.rk (l'.getD B 0):=hmax y (Nat.le_refl _) (by omega)
         have e5:(if y=B then l'.getD y 0 else if y=y then l'.getD B 0 else l'.getD y 0)=l'.getD B 0:=by
          split
          · rename_i e;rw [← e]
          · rw [if_pos rfl]
         rw [e5]
         split
         · exact hmt
         · split
           · exact Int.le_refl _
           · exact hmax j hyj (by omega)
       · rw [if_neg (show y≠B by omega),if_neg e]
         have hy':y<t:=by omega
         split
         · exact hb y hy' t (by omega) (by omega)
         · split
           · exact hb y hy' B (by omega) (by omega)
           · exact hb y hy' j hyj (by omega)
 · have r:t=min 2 N:=by simp at r;omega
   have h9:=P9.pm
   have hb2:Best s.rk 2 l':=fun y hy j hyj hj=>hb y (by omega) j hyj hj
   have hcap:N≤(H (.l i)).c:=by
    rcases (h9.row (.l i) rfl).un with ⟨_,e1,e2⟩| ⟨_,_,_,_,e,_⟩
    · rw [set_eq] at e2;rw [e2] at hlen;simp at hlen;omega
    · rw [set_eq] at e;omega
   refine slK_i 0 (min 2 N) (H (.l i)).c rfl rfl rfl (Nat.le_refl _) (by omega) (Nat.zero_le _) ?_
   have ep:(if (H (.l i)).c=0 then (H (.l i)).p else (H (.l i)).p.map (·.add (0*1)))=(H (.l i)).p:=by rw [ep0];split<;>rfl
   rw [ep,Nat.sub_zero]
   refine ⟨fun V u m=> ∃ (v:Nat) (H':Pt→Sl),V=v∧v≤min 2 N∧m=min 2 N - v∧Pw w u b H H' (wF i (s.set (.l i) l') (l'.take v))∧KeepH H H'∧H' .lo=H .lo,
    ⟨_,0,H,rfl,Nat.zero_le _,rfl,P9,KeepH.refl,rfl⟩,?_⟩
   rintro V w38 m _ ⟨v,H',rfl,hv,rfl,P38,kh,hlo'⟩
   have h38:=P38.pm
   have eL:H' (.l i)=H (.l i):=kh _ (by simp) (by simp)
   have hvars:(wF i (s.set (.l i) l') (l'.take v)).vars=s.vars:=(wF_vars i _ _).1
   have hRl:(wF i (s.set (.l i) l') (l'.take v)).R (.l i)=l':=by rw [wF_R i (by simp),set_eq]
   refine cnd_i (fun r2=> ?_) (fun r2=> ?_)
   · have r2:v<min 2 N:=by simpa using r2
     rw [← eL]
     have hx:=hin _ (mem_getD (l:=l') (t:=v) (by omega))
     have hxb:=hx.bd k.vmax
     have hsd:=sideN_lt hx
     refine h38.rIx' (x:= .l i) rfl (n:=min 2 N) (by omega) (by rw [hRl];omega) (by omega) fun a39 _ hc39=> ⟨_,hc39,?_⟩
     rw [hRl,Int.toNat_natCast]
     have h0:=h38.drew
     generalize hT:wF i (s.set (.l i) l') (l'.take v)=T at*
     generalize hX:l'.getD v 0=X at*
     have hlen2:(T.R (.w (sideN X))).length≤4000000:=by
      have:=wF_len i (sideN X) (l'.take v) (s.set (.l i) l')
      rw [hT,set_ne (by simp)] at this
      have h2:=hw (sideN X)
      have h3:(l'.take v).length≤2:=by simp;omega
      omega
     have hsd':sideN X<2* (T.vars+1):=by rw [hvars];exact hsd
     have fin: ∀w3 q,Pw w38.drew w3 b H' (updF H' (.w (sideN X)) q) (T.set (.w (sideN X)) (T.R (.w (sideN X))++ [(i:Int)]))→
      ∃k36,k36<min 2 N - v∧∃ (v':Nat) (H2:Pt→Sl),i64.wrap ((v:Int)+1)=v'∧v'≤min 2 N∧k36=min 2 N - v'∧Pw w w3 b H H2 (wF i (s.set (.l i) l') (l'.take v'))∧KeepH H H2∧H2 .lo=H .lo:=by
      intro w3 q P
      refine ⟨_,?_,v+1,_,wN (by omega) (by omega),by omega,rfl,?_,kh.wt (q:=q) (j:=sideN X),by rw [updF_ne (by simp)];exact hlo'⟩
      · omega
      · have:l'.take (v+1)=l'.take v++ [X]:=by
         rw [List.take_add_one,← hX]
         simp [List.getD,show v<l'.length by omega]
        rw [this,wF_append,hT]
        exact P38.drew.trans P
     have aw: ∀ {a:Addr} {u:Value},w38.drew.cell? a=some u→a.block≠0∨True→¬blk (H' (.w (sideN X))).p=some a.block→AtW (Mod (fun k=>blk (H' (.w (sideN X))).p=some k) w38.drew) a u:=fun hc _ hne u' g=>cell_keep g hc hne
     have nst: ¬blk (H' (.w (sideN X))).p=some b:=h0.other (x:= .w (sideN X)) (by simp) (y:= .st) (by simp) rfl
     refine ⟨Mod (fun k=>blk (H' (.w (sideN X))).p=some k) w38.drew,Mod.refl _,_,rfl,_,_,_,aw (cell_add h0.st rfl) (.inr trivial) (by rw [add_block];exact nst),_,rfl,_,_,_,aw (cell_add h0.st rfl) (.inr trivial) (by rw [add_block];exact nst),?_⟩
     have rd: ∀ {n:Nat} {w1 w2:World},New (.cells #[.int .i64 (i:Int)] ty_int) w1 n w2→Grow w1 w2∧Has w2 n #[.int .i64 (i:Int)]:=fun h=> ⟨h.mod,h.has⟩
     have gm: ∀ {w1:World},Grow w38.drew w1→Mod (fun k=>blk (H' (.w (sideN X))).p=some k) w38.drew w1:=fun g=>g.mono fun _ _ e=>e.elim
     have look: ∀ {K:Addr→Prop},(∀a,AtW (Mod (fun k=>blk (H' (.w (sideN X))).p=some k) w38.drew) a (H' (.w (sideN X))).v→K a)→ixK (H' .wa).p (H' .wa).n (sideN X:Int) 1 K:=fun hk=>
      h0.wIx hsd' rfl rfl fun a hb hc=>hk a (aw hc (.inr trivial) fun e=>h0.other (x:= .w (sideN X)) (by simp) (y:= .wa) (by simp) hb e)
     refine ⟨(side_ok hxb _).mono ?_,?_⟩
     · rintro e w46 ⟨rfl,rfl⟩
       refine ⟨_,rfl,Mod.refl _,(side_ok hxb _).mono ?_,?_⟩
       · rintro e w48 ⟨rfl,rfl⟩
         exact ⟨_,rfl,Mod.refl _,look fun a50 ha=> ⟨_,_,_,ha,fun n52 w53 h53=> ⟨gm h53.mod,h0.appW hsd' h53.mod h53.has hlen2 fin rfl⟩⟩⟩
       · intro n58 w59 h59
         refine ⟨gm h59.mod,(side_ok hxb _).mono ?_⟩
         rintro e w60 ⟨rfl,rfl⟩
         exact ⟨_,rfl,gm h59.mod,look fun a62 ha=> ⟨_,_,_,ha,h0.appW hsd' h59.mod h59.has hlen2 fin rfl⟩⟩
     · intro n68 w69 h69
       refine ⟨gm h69.mod,(side_ok hxb _).mono ?_⟩
       rintro e w70 ⟨rfl,rfl⟩
       refine ⟨_,rfl,gm h69.mod,(side_ok hxb _).mono ?_⟩
       rintro e w72 ⟨rfl,rfl⟩
       exact ⟨_,rfl,gm h69.mod,look fun a74 ha=> ⟨_,_,_,ha,h0.appW hsd' h69.mod h69.has hlen2 fin rfl⟩⟩
   · have r2:v=min 2 N:=by simp at r2;omega
     subst r2
     have etk:l'.take (min 2 N)=l'.take 2:=by
      rw [← hlen]
      by_cases e:2≤l'.length
      · rw [Nat.min_eq_left e]
      · rw [Nat.min_eq_right (by omega),List.take_length,List.take_of_length_le (by omega)]
     rw [etk] at P38 h38 hvars hRl
     have kT:Wf (wF i (s.set (.l i) l') (l'.take 2)):=by
      have hR: ∀y,(∀j,y≠Pt.w j)→y≠ .l i→(wF i (s.set (.l i) l') (l'.take 2)).R y=s.R y:=fun y h1 h2=>by rw [wF_R i h1,set_ne h2]
      exact ⟨by rw [hvars];exact k.vmax,by rw [hR _ (by simp) (by simp),hvars];exact k.va,by rw [hR _ (by simp) (by simp)];exact k.vb,by rw [hR _ (by simp) (by simp),hvars];exact k.le,by rw [hR _ (by simp) (by simp),hvars];exact k.re,
       by rw [hR _ (by simp) (by simp)];exact k.be,by rw [hR _ (by simp) (by simp)];exact k.tr,by rw [(wF_vars i _ _).2.1];exact k.nc⟩
     have eva:(wF i (s.set (.l i) l') (l'.take 2)).R .va=s.R .va:=by rw [wF_R i (by simp),set_ne (by simp)]
     have elo:(wF i (s.set (.l i) l') (l'.take 2)).R .lo=s.R .lo:=by rw [wF_R i (by simp),set_ne (by simp)]
     have loose:(l'.length<2∨s.val (l'.getD 1 0)<0)→∀ {u:World},Grow w38 u→∀w3 q,PM w3 b (updF H' .lo q) ((wF i (s.set (.l i) l') (l'.take 2)).set .lo ((wF i (s.set (.l i) l') (l'.take 2)).R .lo++ [(i:Int)]))→
      Pw u w3 b H' (updF H' .lo q) ((wF i (s.set (.l i) l') (l'.take 2)).set .lo ((wF i (s.set (.l i) l') (l'.take 2)).R .lo++ [(i:Int)]))→
      Ending.returned (.tuple #[])= .returned (.tuple #[])∧∃l' H',Best s.rk 2 l'∧l'.Perm (s.R (.l i))∧Pw w w3 b H H' (settleS s i l')∧KeepH H H'∧(2≤l'.length→0≤s.val (l'.getD 1 0)→H' .lo=H .lo):=by
      intro hc u gu w3 q _ P
      refine ⟨rfl,l',updF H' .lo q,hb2,pm,?_,fun x h1 h2=>by rw [updF_ne h2];exact kh x h1 h2,fun h1 h2=>by omega⟩
      unfold settleS
      simp only [if_pos hc]
      rw [elo] at P
      exact (P38.grow gu).trans P
     rw [hln]
     refine cnd_i (fun r3=> ?_) (fun r3=> ?_)
     · have r3':(N:Int)<2:=by simpa using r3
       have r3:l'.length<2:=by rw [hlen];omega
       refine ⟨_,rfl,_,_,_,cell_add h38.st rfl,?_⟩
       exact h38.app1 (x:= .lo) rfl (i:Int) (by rw [elo];omega) rfl fun w3 q p P=>loose (.inl r3) (Mod.refl _) w3 q p P
     · have r3:2≤l'.length:=by rw [hlen];simp at r3;omega
       rw [← eL]
       refine h38.rIx' (x:= .l i) rfl (by omega) (by rw [hRl];omega) (by omega) fun a88 _ hc88=> ⟨_,hc88,?_⟩
       rw [hRl]
       have hx:=hin _ (mem_getD (l:=l') (t:=1) (by omega))
       refine (val_ok h38 kT (by rw [hvars];exact hx)).mono ?_
       rintro e w90 ⟨rfl,rfl⟩
       rw [val_eq eva]
       refine ⟨_,rfl,cnd_i (fun r4=> ?_) (fun r4=> ?_)⟩
       · have r4:s.val (l'.getD 1 0)<0:=by simpa using r4
         refine ⟨_,rfl,_,_,_,cell_add h38.st rfl,?_⟩
         exact h38.app1 (x:= .lo) rfl (i:Int) (by rw [elo];omega) rfl fun w3 q p P=>loose (.inr r4) (Mod.refl _) w3 q p P
       · have r4: ¬s.val (l'.getD 1 0)<0:=by simpa using r4
         refine ⟨rfl,l',H',hb2,pm,?_,kh,fun _ _=>hlo'⟩
         unfold settleS
         simp only [if_neg (show ¬(l'.length<2∨s.val (l'.getD 1 0)<0) by omega)]
         exact P38
end
section
variable {w w' w0 w2 w3 wA:World} {b:Nat} {H H' H2:Pt→Sl} {s t u:PSt} {l:Int}
def unF (i:Int) (t:PSt) (xs:List Int):PSt:=xs.foldl (fun t x=>t.set (.w (sideN x)) ((t.R (.w (sideN x))).filter fun k=> !(k==i))) t
theorem unF_append (i:Int) (t:PSt) (xs:List Int) (x:Int):unF i t (xs++ [x])=(unF i t xs).set (.w (sideN x)) (((unF i t xs).R (.w (sideN x))).filter fun k=> !(k==i)):=by simp [unF]
theorem unF_R (i:Int) {y:Pt} (hy: ∀j,y≠ .w j): ∀ (xs:List Int) (t:PSt),(unF i t xs).R y=t.R y
 | [],_=>rfl
 |_::xs,_=> (unF_R i hy xs _).trans (set_ne (hy _))
theorem unF_vars (i:Int): ∀ (xs:List Int) (t:PSt),(unF i t xs).vars=t.vars∧(unF i t xs).nc=t.nc∧(unF i t xs).gone=t.gone∧(unF i t xs).done=t.done
 | [],_=> ⟨rfl,rfl,rfl,rfl⟩
 |x::xs,t=>unF_vars i xs (t.set (.w (sideN x)) ((t.R (.w (sideN x))).filter fun k=> !(k==i)))
theorem unF_len (i:Int) (j:Nat): ∀ (xs:List Int) (t:PSt),((unF i t xs).R (.w j)).length≤(t.R (.w j)).length
 | [],_=>Nat.le_refl _
 |x::xs,t=>by
  have:=unF_len i j xs (t.set (.w (sideN x)) ((t.R (.w (sideN x))).filter fun k=> !(k==i)))
  refine Nat.le_trans this ?_
  by_cases e:sideN x=j
  · subst e;rw [set_eq];exact List.length_filter_le _ _
  · rw [set_ne (fun h=>e (by injection h with h;exact h.symm))];exact Nat.le_refl _
def KeepW (H H':Pt→Sl):Prop:= ∀x,(∀j,x≠ .w j)→H' x=H x
theorem KeepW.refl:KeepW H H:=fun _ _=>rfl
theorem KeepW.wt (h:KeepW H H') {j:Nat} {q:Sl}:KeepW H (updF H' (.w j) q):=fun x h1=>by rw [updF_ne (h1 j)];exact h x h1
theorem KeepW.trans (h:KeepW H H2) (k:KeepW H2 H'):KeepW H H':=fun x hx=> (k x hx).trans (h x hx)
theorem clauseRow (h:PM w b H s) {i:Nat} (hn:(s.R (.l i)).length≤100000):(s.R (.l i)).length≤(H (.l i)).c∧imin 2 ((H (.l i)).n:Int)=((min 2 (s.R (.l i)).length:Nat):Int):=by
 have hln:=h.len (.l i) rfl
 refine ⟨?_,by rw [hln];unfold imin;split<;>omega⟩
 rcases (h.row (.l i) rfl).un with ⟨_,_,e2⟩| ⟨_,_,_,_,e,_⟩
 · rw [e2];exact Nat.zero_le _
 · exact e
theorem unwatch_ok (h:PM w b H s) (hv:s.vars≤1048576) {i:Nat} (hi:i<s.nc) (hl: ∀x∈s.R (.l i),InV s.vars x) (hn:(s.R (.l i)).length≤100000) (hw: ∀j,(s.R (.w j)).length≤1000000):
 Calls prog prop_Prop_unwatch.id #[ptrV b,.int .i64 i] w fun e w'=>e= .returned (.tuple #[])∧∃H',Pw w w' b H H' (unF i s ((s.R (.l i)).take 2))∧KeepW H H':=by
 refine prop_Prop_unwatch.calls ?_
 intro n1 w1 h1
 have hA:=(h.grow h1.mod)
 obtain ⟨hcap,him⟩:=clauseRow h hn
 refine ⟨_,rfl,_,_,_,cell_add hA.drew.st rfl,_,cell_of h1.has.drew rfl,hA.drew.cIx hi rfl rfl fun a6 hc6=> ⟨_,_,_,hc6.get 1 _ rfl,?_⟩⟩
 rw [him]
 generalize hN:(s.R (.l i)).length=N at*
 refine slK_i 0 (min 2 N) (H (.l i)).c rfl rfl rfl (Nat.le_refl _) (by omega) (Nat.zero_le _) ?_
 have ep:(if (H (.l i)).c=0 then (H (.l i)).p else (H (.l i)).p.map (·.add (0*1)))=(H (.l i)).p:=by rw [ep0];split<;>rfl
 rw [ep,Nat.sub_zero]
 have hnot: ∀x,¬own b H x=some n1:=fun x e=>by have:=h.lt x n1 e;have:=h1.num;omega
 refine ⟨fun V u m=> ∃ (v:Nat) (H':Pt→Sl),V=v∧v≤min 2 N∧m=min 2 N - v∧Pw w1 u b H H' (unF i s ((s.R (.l i)).take v))∧KeepW H H',
  ⟨_,0,H,rfl,Nat.zero_le _,rfl,Pw.refl hA.drew (Mod.refl w1).drew,KeepW.refl⟩,?_⟩
 rintro V w13 m _ ⟨v,H',rfl,hv2,rfl,P13,kh⟩
 have h13:=P13.pm
 have eL:H' (.l i)=H (.l i):=kh _ (by simp)
 have hvars:(unF i s ((s.R (.l i)).take v)).vars=s.vars:=(unF_vars i _ _).1
 have hRl:(unF i s ((s.R (.l i)).take v)).R (.l i)=s.R (.l i):=unF_R i (by simp) _ _
 refine cnd_i (fun r2=> ?_) (fun r2=> ?_)
 · have r2:v<min 2 N:=by simpa using r2
   rw [← eL]
   have hx:=hl _ (mem_getD (l:=s.R (.l i)) (t:=v) (by omega))
   have hxb:=hx.bd hv
   have hsd:=sideN_lt hx
   refine h13.rIx' (x:= .l i) rfl (n:=min 2 N) (by omega) (by rw [hRl];omega) (by omega) fun a14 _ hc14=> ⟨_,hc14,?_⟩
   rw [hRl,Int.toNat_natCast]
   have hn13:Has w13 n1 #[.int .i64 (i:Int)]:=h1.has.keep P13.mod fun ⟨x,e⟩=>hnot x e
   generalize hT:unF i s ((s.R (.l i)).take v)=T at*
   generalize hX:(s.R (.l i)).getD v 0=X at*
   have hlenT:(T.R (.w (sideN X))).length≤1000000:=by
    have:=unF_len i (sideN X) ((s.R (.l i)).take v) s
    rw [hT] at this
    exact Nat.le_trans this (hw _)
   have hsd':sideN X<2* (T.vars+1):=by rw [hvars];exact hsd
   refine ⟨(·=w13.drew),rfl,_,rfl,_,_,_,atW_eq (cell_add h13.drew.st rfl),(side_ok hxb _).mono ?_⟩
   rintro e w19 ⟨rfl,rfl⟩
   refine ⟨_,rfl,rfl,h13.drew.wIx hsd' rfl rfl fun a21 _ hc21=> ⟨_,_,_,atW_eq hc21,?_⟩⟩
   have h0:=h13.drew.drew
   have aw: ∀ {a:Addr} {u:Value},w13.drew.drew.cell? a=some u→¬blk (H' (.w (sideN X))).p=some a.block→AtW (Mod (fun k=>blk (H' (.w (sideN X))).p=some k) w13.drew.drew) a u:=fun hc hne u' g=>cell_keep g hc hne
   have nst: ¬blk (H' (.w (sideN X))).p=some b:=h0.other (x:= .w (sideN X)) (by simp) (y:= .st) (by simp) rfl
   have nn1: ¬blk (H' (.w (sideN X))).p=some n1:=fun e=>by
    rcases P13.ft (.w (sideN X)) n1 e with ⟨y,e2⟩|e2
    · exact hnot y e2
    · have:=h1.has.lt;omega
   refine ⟨Mod (fun k=>blk (H' (.w (sideN X))).p=some k) w13.drew.drew,Mod.refl _,_,rfl,_,_,_,aw (cell_add h0.st rfl) (by rw [add_block];exact nst),(side_ok hxb _).mono ?_⟩
   rintro e w26 ⟨rfl,rfl⟩
   have o:OwI ty_int w13.drew.drew (H' (.w (sideN X))).p (H' (.w (sideN X))).c (T.R (.w (sideN X))):=h0.row (.w (sideN X)) rfl
   refine ⟨_,rfl,Mod.refl _,(delete_ok o (h0.len (.w (sideN X)) rfl) (by rw [h0.len (.w (sideN X)) rfl];exact hlenT) same1_ent (fun x=>x==(i:Int)) fun x _ w' g=> ?_).mono ?_⟩
   · rw [args2w]
     exact same1 (hn13.drew.drew.keep g nn1) x
   rintro e w28 ⟨rfl,o28,m28⟩
   refine ⟨_,_,_,rfl,m28,?_⟩
   refine h0.headW hsd' o28 (h0.but rfl m28) (fun k hk=> .inl hk) rfl h0.wn rfl fun w31 h31 m31=> ?_
   refine ⟨_,?_,v+1,updF H' (.w (sideN X)) ⟨(H' (.w (sideN X))).p,((T.R (.w (sideN X))).filter fun x=> !(x==(i:Int))).length,(H' (.w (sideN X))).c⟩,wN (by omega) (by omega),by omega,rfl,?_,kh.wt⟩
   · omega
   · have:(s.R (.l i)).take (v+1)=(s.R (.l i)).take v++ [X]:=by
      rw [List.take_add_one,← hX]
      simp [List.getD,show v< (s.R (.l i)).length by omega]
     rw [this,unF_append,hT]
     exact P13.drew.drew.trans (Pw.head (z:= .wa) (by simp) h31 m28 m31 fun k hk=> .inl hk)
 · have r2:v=min 2 N:=by simp at r2;omega
   subst r2
   refine ⟨rfl,H',?_,kh⟩
   have etk:(s.R (.l i)).take (min 2 N)=(s.R (.l i)).take 2:=by
    rw [← hN]
    by_cases e:2≤(s.R (.l i)).length
    · rw [Nat.min_eq_left e]
    · rw [Nat.min_eq_right (by omega),List.take_length,List.take_of_length_le (by omega)]
   rw [etk] at P13
   exact P13.pre h1.mod
theorem Best.two {l':List Int} (hb:Best s.rk 2 l') (hlev: ∀x∈l',s.val x<0→s.lev x<1048577) {m:List Int} (pm:l'.Perm m) (h2:2≤(m.filter fun x=> !decide (s.val x<0)).length):
 2≤l'.length∧0≤s.val (l'.getD 1 0)∧0≤s.val (l'.getD 0 0):=by
 have hf:(l'.filter fun x=> !decide (s.val x<0)).length=(m.filter fun x=> !decide (s.val x<0)).length:=(pm.filter _).length_eq
 have hle:2≤l'.length:=by have:=List.length_filter_le (fun x=> !decide (s.val x<0)) l';omega
 match l',hle with
 |x::y::r,_=>
  have key:0≤s.val y:=by
   rcases Int.lt_or_le (s.val y) 0 with hy|hy
   · exfalso
     have hyl:s.rk y<1048577:=by unfold PSt.rk;rw [if_neg (by omega)];exact hlev y (by simp) hy
     have: ∀z∈y::r,s.val z<0:=by
      intro z hz
      obtain ⟨j,hj,e⟩:=List.mem_iff_getElem.1 hz
      have:=hb 1 (by omega) (j+1) (by omega) (by simpa using hj)
      have e1:(x::y::r).getD (j+1) 0=z:=by
       show (y::r).getD j 0=z
       rw [← e,List.getD_eq_getElem?_getD,List.getElem?_eq_getElem hj];rfl
      rw [e1] at this
      have e2:(x::y::r).getD 1 0=y:=rfl
      rw [e2] at this
      rcases Int.lt_or_le (s.val z) 0 with h|h
      · exact h
      · unfold PSt.rk at this hyl
        rw [if_pos (show s.val z≥0 from h)] at this
        omega
     have e0:((y::r).filter fun x=> !decide (s.val x<0))= []:=by
      rw [List.filter_eq_nil_iff]
      intro z hz
      simp [this z hz]
     rw [List.filter_cons,e0] at hf
     split at hf<;>simp at hf<;>omega
   · exact hy
  refine ⟨by simp,key,?_⟩
  have:=hb 0 (by omega) 1 (by omega) (by simp)
  have e2:(x::y::r).getD 1 0=y:=rfl
  have e3:(x::y::r).getD 0 0=x:=rfl
  rw [e2,e3] at this
  rw [e3]
  rcases Int.lt_or_le (s.val x) 0 with h|h
  · unfold PSt.rk at this
    rw [if_pos (show s.val y≥0 from key),if_neg (show ¬s.val x≥0 by omega)] at this
    have:=hlev x (by simp) h
    omega
  · exact h
theorem settleS_lo {i:Nat} {l':List Int} (h1:2≤l'.length) (h2:0≤s.val (l'.getD 1 0)):settleS s i l'=wF i (s.set (.l i) l') (l'.take 2):=by
 unfold settleS
 simp only [if_neg (show ¬(l'.length<2∨s.val (l'.getD 1 0)<0) by omega)]
theorem again_ok (h:PM w b H s) (k:Wf s) {i:Nat} (hi:i<s.nc) (hl: ∀x∈s.R (.l i),InV s.vars x) (hn:(s.R (.l i)).length≤100000) (hw: ∀j,(s.R (.w j)).length+2≤4000000) (hlo:(s.R .lo).length≤4000000)
 (hlev: ∀x∈s.R (.l i),s.val x<0→s.lev x<1048577) (h2:2≤((s.R (.l i)).filter fun x=> !decide (s.val x<0)).length):
 Calls prog prop_Prop_again.id #[ptrV b,.int .i64 i] w fun e w'=>e= .returned (.tuple #[])∧∃l' H',Best s.rk 2 l'∧l'.Perm (s.R (.l i))∧2≤l'.length∧0≤s.val (l'.getD 1 0)∧0≤s.val (l'.getD 0 0)∧Pw w w' b H H' (wF i (s.set (.l i) l') (l'.take 2))∧KeepW H H':=by
 refine prop_Prop_again.calls ?_
 refine ⟨_,rfl,_,_,_,cell_add h.st rfl,(settle_ok h k hi hl hn hw hlo).mono ?_⟩
 rintro e w3 ⟨rfl,l',H',hb,pm,P3,kh,hlo'⟩
 obtain ⟨b1,b2,b3⟩:=hb.two (fun x hx=>hlev x (pm.mem_iff.1 hx)) pm h2
 rw [settleS_lo b1 b2] at P3
 have e1:=hlo' b1 b2
 have h3:=P3.pm
 refine ⟨rfl,_,rfl,?_⟩
 have o:=h3.row .lo rfl
 rw [e1] at o
 have:=h3.head (x:= .lo) rfl o ⟨h3.st,h3.c,h3.wa,fun y hy _=>h3.row y hy⟩ (fun k hk=> .inl (by rw [e1];exact hk)) (n':=(H .lo).n) (by rw [← e1];exact h3.len .lo rfl) (K:=fun w'=>Ending.returned (.tuple #[])= .returned (.tuple #[])∧∃l' H',Best s.rk 2 l'∧l'.Perm (s.R (.l i))∧2≤l'.length∧0≤s.val (l'.getD 1 0)∧0≤s.val (l'.getD 0 0)∧Pw w w' b H H' (wF i (s.set (.l i) l') (l'.take 2))∧KeepW H H') ?_
 · exact this
 · intro w5 h5 m5
   have eH:updF H' .lo ⟨(H .lo).p,(H .lo).n,(H .lo).c⟩=H':=by
    funext y
    simp only [updF]
    split
    · rename_i e;rw [e,e1]
    · rfl
   rw [eH,set_self'] at h5
   refine ⟨rfl,l',H',hb,pm,b1,b2,b3,P3.trans ⟨h5,m5.mono fun k _ e=> ⟨.st,by rw [e];rfl⟩,fun x k hk=> .inl ⟨x,hk⟩⟩,fun x hx=> ?_⟩
   by_cases e:x= .lo
   · rw [e,e1]
   · exact kh x hx e
end
section
variable {w w' w0 w2 w3 wA:World} {b:Nat} {H H' H2:Pt→Sl} {s t u:PSt} {l:Int}
def front (l:List Int) (f:Int):List Int:=if l.getD 0 0=f∧1<l.length then swp l 0 1 else l
theorem front_len (l:List Int) (f:Int):(front l f).length=l.length:=by unfold front;split<;>simp [swp_len]
theorem front_perm (l:List Int) (f:Int):(front l f).Perm l:=by
 unfold front
 split
 · rename_i h;exact perm_swp (by omega) h.2
 · exact List.Perm.refl _
inductive Vis (s:PSt) (i:Nat) (m:List Int):PSt→Bool→Bool→Prop
 |sat:0<s.val (m.getD 0 0)→Vis s i m (s.set (.l i) m) true false
 |moved (k:Nat): ¬0<s.val (m.getD 0 0)→2≤k→k<m.length→0≤s.val (m.getD k 0)→
   Vis s i m ((s.set (.l i) (swp m 1 k)).set (.w (sideN (m.getD k 0))) (s.R (.w (sideN (m.getD k 0)))++ [(i:Int)])) false false
 |broken:s.val (m.getD 0 0)<0→(∀k,2≤k→k<m.length→s.val (m.getD k 0)<0)→Vis s i m (s.set (.l i) m) true true
 |unit:s.val (m.getD 0 0)=0→(∀k,2≤k→k<m.length→s.val (m.getD k 0)<0)→Vis s i m ((s.set (.l i) m).put (m.getD 0 0) i) true false
def KeepV (s:PSt) (H H':Pt→Sl):Prop:= ∀x,x≠ .tr→(∀z,InV s.vars z→0≤s.val z→x≠ .w (sideN z))→H' x=H x
theorem visit_ok (h:PM w b H s) (k:Wf s) {i:Nat} (hi:i<s.nc) (hl: ∀x∈s.R (.l i),InV s.vars x) (hn:(s.R (.l i)).length≤100000) (hw: ∀j,(s.R (.w j)).length≤1000000) (h2:2≤(s.R (.l i)).length) (f:Int):
 Calls prog prop_Prop_visit.id #[ptrV b,.int .i64 i,.int .i64 f] w fun e w'=> ∃st br,e= .returned (.tuple #[.bool st,.bool br])∧∃s' H',Vis s i (front (s.R (.l i)) f) s' st br∧Pw w w' b H H' s'∧KeepV s H H':=by
 have hln:=h.len (.l i) rfl
 refine prop_Prop_visit.calls ?_
 refine ⟨_,rfl,_,_,_,cell_add h.st rfl,h.cIx hi rfl rfl fun a3 hc3=> ⟨_,_,_,hc3.get 1 _ rfl,?_⟩⟩
 generalize hm:front (s.R (.l i)) f=m at*
 have hml:m.length=(s.R (.l i)).length:=by rw [← hm,front_len]
 have hmp:m.Perm (s.R (.l i)):=by rw [← hm];exact front_perm _ _
 have hin: ∀x∈m,InV s.vars x:=fun x hx=>hl x (hmp.mem_iff.1 hx)
 generalize hN:(s.R (.l i)).length=N at*
 have P0:=Pw.refl h (Mod.refl w)
 refine ⟨fun u=>Pw w u b H H (s.set (.l i) m),?_,?_⟩
 · refine h.rIx (x:= .l i) rfl (by omega) rfl (by omega) fun a6 _ hc6=> ⟨_,hc6,cnd_i (fun r=>cnd_i (fun r2=> ?_) fun r2=> ?_) fun r=> ?_⟩
   · have r:(s.R (.l i)).getD 0 0=f:=by simpa using r
     have em:m=swp (s.R (.l i)) 0 1:=by rw [← hm];unfold front;rw [if_pos ⟨r,by omega⟩]
     have h0:=h.drew
     refine h0.rIx (x:= .l i) rfl (by omega) rfl (by omega) fun a8 _ hc8=> ⟨_,hc8,h0.rIx (x:= .l i) rfl (by omega) rfl (by omega) fun a10 _ hc10=> ⟨_,hc10,?_⟩⟩
     refine h0.rSt (x:= .l i) rfl (by omega) rfl (by omega) (y:=(s.R (.l i)).getD 1 0) rfl rfl fun w13 h13 m13=>h13.rSt (x:= .l i) rfl (by omega) rfl (by simp [set_eq];omega) (y:=(s.R (.l i)).getD 0 0) rfl rfl fun w15 h15 m15=> ?_
     rw [set_eq,set_set] at h15
     rw [em]
     exact P0.drew.trans ⟨h15,(m13.mono fun k _ e=> ⟨.l i,e⟩).trans (m15.mono fun k _ e=> ⟨.l i,e⟩),fun x _ hk=> .inl ⟨x,hk⟩⟩
   · simp at r2;omega
   · have r: ¬(s.R (.l i)).getD 0 0=f:=by simpa using r
     have em:m=s.R (.l i):=by rw [← hm];unfold front;rw [if_neg (fun e=>r e.1)]
     rw [em,set_self']
     exact P0
 intro w16 _ P16
 have h16:=P16.pm
 have k16:Wf (s.set (.l i) m):=k.set (by simp) (by simp) (by simp) (by simp) (by simp) m
 have ev: ∀x,(s.set (.l i) m).val x=s.val x:=fun x=>val_eq (set_ne (by simp)) x
 have kv:KeepV s H H:=fun _ _ _=>rfl
 have look: ∀ {I:Int} (j:Nat),I=j→j<N→∀ {K:Addr→Prop},(∀a,w16.cell? a=some (.int .i64 (m.getD j 0))→K a)→ixK (H (.l i)).p (H (.l i)).n I 1 K:=fun {I} j hI hj {K} hk=>by
  subst hI
  refine h16.rIx (x:= .l i) rfl (by omega) rfl (by rw [set_eq];omega) fun a _ hc=>hk a ?_
  rw [set_eq,Int.toNat_natCast] at hc
  exact hc
 have vok: ∀j,j<N→Calls prog prop_Prop_val.id #[ptrV b,.int .i64 (m.getD j 0)] w16 fun e w'=>e= .returned (.int .i8 (s.val (m.getD j 0)))∧w'=w16:=fun j hj=>by
  have:=val_ok h16 k16 (l:=m.getD j 0) (hin _ (mem_getD (by omega)))
  rw [ev] at this
  exact this
 refine look 0 rfl (by omega) fun a17 hc17=> ⟨_,hc17,(vok 0 (by omega)).mono ?_⟩
 rintro e w19 ⟨rfl,rfl⟩
 refine ⟨_,rfl,cnd_i (fun r=> ⟨true,false,rfl,_,H,.sat (by simpa using r),P16,kv⟩) fun r=> ?_⟩
 have r: ¬0<s.val (m.getD 0 0):=by simpa using r
 refine ⟨fun K u z=> ∃j:Nat,K=j∧2≤j∧j≤N∧z=N - j∧u=w19∧∀y,2≤y→y<j→s.val (m.getD y 0)<0,⟨_,2,rfl,Nat.le_refl _,h2,rfl,rfl,fun y y1 y2=>by omega⟩,?_⟩
 rintro K u z _ ⟨j,rfl,j2,jN,rfl,rfl,hall⟩
 refine cnd_i (fun r2=> ?_) (fun r2=> ?_)
 · have r2:j<N:=by rw [hln] at r2;simpa using r2
   refine look j rfl r2 fun a26 hc26=> ⟨_,hc26,(vok j r2).mono ?_⟩
   rintro e w28 ⟨rfl,rfl⟩
   refine ⟨_,rfl,cnd_i (fun r3=> ?_) (fun r3=> ?_)⟩
   · have r3:0≤s.val (m.getD j 0):=by simpa using r3
     have h0:=h16.drew
     refine h0.rIx (x:= .l i) rfl (by omega) rfl (by rw [set_eq];omega) fun a30 _ hc30=> ⟨_,hc30,h0.rIx (x:= .l i) rfl (by omega) rfl (by rw [set_eq];omega) fun a32 _ hc32=> ⟨_,hc32,?_⟩⟩
     rw [set_eq,Int.toNat_natCast]
     refine h0.rSt (x:= .l i) rfl (by omega) rfl (by rw [set_eq];omega) (y:=m.getD j 0) rfl rfl fun w35 h35 m35=>h35.rSt (x:= .l i) rfl (by omega) rfl (by simp [set_eq];omega) (y:=m.getD 1 0) rfl rfl fun w37 h37 m37=> ?_
     rw [set_eq,set_set,set_eq,Int.toNat_natCast,set_set] at h37
     have esw:(m.set (Int.toNat 1) (m.getD j 0)).set j (m.getD 1 0)=swp m 1 j:=rfl
     rw [esw] at h37
     have P37:Pw w w37 b H H (s.set (.l i) (swp m 1 j)):=P16.drew.trans ⟨h37,(m35.mono fun k _ e=> ⟨.l i,e⟩).trans (m37.mono fun k _ e=> ⟨.l i,e⟩),fun x _ hk=> .inl ⟨x,hk⟩⟩
     generalize hX:m.getD j 0=X at*
     have hx:InV s.vars X:=by rw [← hX];exact hin _ (mem_getD (by omega))
     have hxb:=hx.bd k.vmax
     have hsd:=sideN_lt hx
     have h0:=h37.drew
     have e1:(swp m 1 j).getD 1 0=X:=by
      rw [swp_get (by omega) (by omega)]
      by_cases e:1=j
      · omega
      · rw [if_neg e,if_pos rfl,hX]
     have hlen2:((s.set (.l i) (swp m 1 j)).R (.w (sideN X))).length≤4000000:=by rw [set_ne (by simp)];have:=hw (sideN X);omega
     have hsd':sideN X<2* ((s.set (.l i) (swp m 1 j)).vars+1):=hsd
     have fin: ∀w3 q,Pw w37.drew w3 b H (updF H (.w (sideN X)) q) ((s.set (.l i) (swp m 1 j)).set (.w (sideN X)) ((s.set (.l i) (swp m 1 j)).R (.w (sideN X))++ [(i:Int)]))→
      ∃st br,Ending.returned (.tuple #[.bool false,.bool false])= .returned (.tuple #[.bool st,.bool br])∧∃s' H',Vis s i m s' st br∧Pw w w3 b H H' s'∧KeepV s H H':=by
      intro w3 q P
      have V:=Vis.moved (s:=s) (i:=i) (m:=m) j r j2 (by omega) (by rw [hX];exact r3)
      rw [hX] at V
      rw [set_ne (by simp)] at P
      refine ⟨_,_,rfl,_,_,V,P37.drew.trans P,fun x hx1 hx2=> ?_⟩
      exact updF_ne (hx2 X hx r3)
     have aw: ∀ {a:Addr} {u:Value},w37.drew.cell? a=some u→¬blk (H (.w (sideN X))).p=some a.block→AtW (Mod (fun k=>blk (H (.w (sideN X))).p=some k) w37.drew) a u:=fun hc hne u' g=>cell_keep g hc hne
     have nst: ¬blk (H (.w (sideN X))).p=some b:=h0.other (x:= .w (sideN X)) (by simp) (y:= .st) (by simp) rfl
     have gm: ∀ {w1:World},Grow w37.drew w1→Mod (fun k=>blk (H (.w (sideN X))).p=some k) w37.drew w1:=fun g=>g.mono fun _ _ e=>e.elim
     have lookw: ∀ {K:Addr→Prop},(∀a,AtW (Mod (fun k=>blk (H (.w (sideN X))).p=some k) w37.drew) a (H (.w (sideN X))).v→K a)→ixK (H .wa).p (H .wa).n (sideN X:Int) 1 K:=fun hk=>
      h0.wIx hsd' rfl rfl fun a hb hc=>hk a (aw hc fun e=>h0.other (x:= .w (sideN X)) (by simp) (y:= .wa) (by simp) hb e)
     have look1: ∀ {K:Addr→Prop},(∀a,AtW (Mod (fun k=>blk (H (.w (sideN X))).p=some k) w37.drew) a (.int .i64 X)→K a)→ixK (H (.l i)).p (H (.l i)).n 1 1 K:=fun hk=>by
      refine h0.rIx (x:= .l i) rfl (by omega) rfl (by rw [set_eq,swp_len];omega) fun a hb hc=>hk a ?_
      rw [set_eq] at hc
      have e2:(swp m 1 j).getD (Int.toNat 1) 0=X:=e1
      rw [e2] at hc
      exact aw hc fun e=>h0.other (x:= .w (sideN X)) (by simp) (y:= .l i) (by simp) hb e
     refine ⟨Mod (fun k=>blk (H (.w (sideN X))).p=some k) w37.drew,Mod.refl _,_,rfl,_,_,_,aw (cell_add h0.st rfl) (by rw [add_block];exact nst),look1 fun a41 ha41=> ⟨_,ha41,_,rfl,_,_,_,aw (cell_add h0.st rfl) (by rw [add_block];exact nst),look1 fun a45 ha45=> ⟨_,ha45,?_⟩⟩⟩
     refine ⟨(side_ok hxb _).mono ?_,?_⟩
     · rintro e w46 ⟨rfl,rfl⟩
       refine ⟨_,rfl,Mod.refl _,(side_ok hxb _).mono ?_,?_⟩
       · rintro e w48 ⟨rfl,rfl⟩
         exact ⟨_,rfl,Mod.refl _,lookw fun a50 ha=> ⟨_,_,_,ha,fun n52 w53 h53=> ⟨gm h53.mod,h0.appW hsd' h53.mod h53.has hlen2 fin rfl⟩⟩⟩
       · intro n58 w59 h59
         refine ⟨gm h59.mod,(side_ok hxb _).mono ?_⟩
         rintro e w60 ⟨rfl,rfl⟩
         exact ⟨_,rfl,gm h59.mod,lookw fun a62 ha=> ⟨_,_,_,ha,h0.appW hsd' h59.mod h59.has hlen2 fin rfl⟩⟩
     · intro n68 w69 h69
       refine ⟨gm h69.mod,(side_ok hxb _).mono ?_⟩
       rintro e w70 ⟨rfl,rfl⟩
       refine ⟨_,rfl,gm h69.mod,(side_ok hxb _).mono ?_⟩
       rintro e w72 ⟨rfl,rfl⟩
       exact ⟨_,rfl,gm h69.mod,lookw fun a74 ha=> ⟨_,_,_,ha,h0.appW hsd' h69.mod h69.has hlen2 fin rfl⟩⟩
   · have r3:s.val (m.getD j 0)<0:=by simpa using r3
     refine ⟨_,?_,j+1,wN (by omega) (by omega),by omega,r2,rfl,rfl,fun y y1 y2=> ?_⟩
     · omega
     · by_cases e:y=j
       · rw [e];exact r3
       · exact hall y y1 (by omega)
 · have r2:j=N:=by rw [hln] at r2;simp at r2;omega
   subst r2
   refine look 0 rfl (by omega) fun a81 hc81=> ⟨_,hc81,(vok 0 (by omega)).mono ?_⟩
   rintro e w83 ⟨rfl,rfl⟩
   refine ⟨_,rfl,cnd_i (fun r3=> ⟨true,true,rfl,_,H,.broken (by simpa using r3) (fun y y1 y2=>hall y y1 (by omega)),P16,kv⟩) fun r3=> ?_⟩
   have r3:0≤s.val (m.getD 0 0):=by simpa using r3
   refine look 0 rfl (by omega) fun a85 hc85=> ⟨_,hc85,(put_ok h16 k16 (l:=m.getD 0 0) (hin _ (mem_getD (by omega))) i).mono ?_⟩
   rintro e w87 ⟨rfl,q,P87⟩
   exact ⟨rfl,true,false,rfl,_,_,.unit (by omega) (fun y y1 y2=>hall y y1 (by omega)),P16.trans P87,fun x hx _=>updF_ne hx⟩
end
end Go.Proofs.YtabengnadcleeaaGreat.W
