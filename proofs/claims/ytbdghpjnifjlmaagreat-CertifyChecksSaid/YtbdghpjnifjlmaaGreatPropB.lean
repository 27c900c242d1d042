/- Layer 6: a literal is decided. -/
import Derived.Test.YtbdghpjnifjlmaaGreatPropA
import Derived.Test.YtbdghpjnifjlmaaGreatLubyA
namespace Go.Proofs.YtbdghpjnifjlmaaGreat.W
open Go Go.Fw Go.RowKit Go.SoP Go.LiP
open Go.Proofs.Tryz (prog)
section
variable {w w' w0 w2 w3:World} {b:Nat} {H H' H2:Pt→Sl} {s t u s' T:PSt} {l x y:Int} {i:Nat}
def PSt.begin (s:PSt):PSt:=(s.set .be (s.R .be++ [((s.R .tr).length:Int)])).set .ds (s.R .ds++ [(s.done:Int)])
def PSt.decide (s:PSt) (l:Int):PSt:=s.begin.put l (-1)
theorem decide_good (g:Good s) (hl:InV s.vars l) (h0:s.val l=0):Good (s.decide l):=
 put_good g hl h0 (t:=s.begin) (fun y h1 h2=>by unfold PSt.begin;rw [set_ne h2,set_ne h1]) rfl rfl rfl rfl (.inr ⟨by unfold PSt.begin;rw [set_ne (by simp),set_eq],by unfold PSt.begin;rw [set_eq],rfl⟩)
structure Sh (b:Nat) (H:Pt→Sl) (s:PSt):Prop where
 cn:(H .c).n=s.nc
 wn:(H .wa).n=2* (s.vars+1)
 len: ∀x,x.row=true→(H x).n=(s.R x).length
 inj: ∀x y k,own b H x=some k→own b H y=some k→x=y
structure Pq (w:World) (b:Nat) (H:Pt→Sl) (s:PSt) (E:Pt→Prop):Prop where
 st:Has w b (stC s H)
 c:Row 3 ceE ty_prop_clause w (H .c).p (H .c).c (ces H s.gone s.nc)
 wa:Ow Sl.v ty_sl_int w (H .wa).p (H .wa).c (heads H (2* (s.vars+1)))
 row: ∀y,y.row=true→¬E y→Ow y.f y.T w (H y).p (H y).c (s.R y)
theorem PM.sh (h:PM w b H s):Sh b H s:=⟨h.cn,h.wn,h.len,h.inj⟩
theorem Sh.pm (k:Sh b H s) {E:Pt→Prop} (X:Pq w b H s E) (hE: ∀y,¬E y):PM w b H s:=⟨X.st,X.c,k.cn,X.wa,k.wn,fun x hx=>X.row x hx (hE x),k.len,k.inj⟩
theorem inj_upd' (hinj: ∀x y k,own b H x=some k→own b H y=some k→x=y) {x:Pt} (hx:x≠ .st) {q:Sl} (hp: ∀k,blk q.p=some k→blk (H x).p=some k∨∀y,own b H y≠some k):
 ∀y z k,own b (updF H x q) y=some k→own b (updF H x q) z=some k→y=z:=by
 have key: ∀y,y≠x→own b (updF H x q) y=own b H y:=fun y e=>by
  cases y<;>first|rfl| (simp only [own];rw [updF_ne e])
 have same:own b (updF H x q) x=blk q.p:=by rw [own_ne hx,updF_same]
 intro y z k hy hz
 by_cases ey:y=x<;>by_cases ez:z=x
 · rw [ey,ez]
 · subst ey
   rw [same] at hy
   rw [key z ez] at hz
   rcases hp k hy with e|e
   · exact hinj y z k (by rw [own_ne hx];exact e) hz
   · exact absurd hz (e z)
 · subst ez
   rw [same] at hz
   rw [key y ey] at hy
   rcases hp k hz with e|e
   · exact hinj y z k hy (by rw [own_ne hx];exact e)
   · exact absurd hy (e y)
 · rw [key y ey] at hy
   rw [key z ez] at hz
   exact hinj y z k hy hz
theorem Sh.head (h:Sh b H s) {E:Pt→Prop} {x:Pt} (hx:x.field=true) {p':Option Addr} {c':Nat} {l':List Int} (o:Ow x.f x.T w2 p' c' l') (X:Pq w2 b H s E)
 (hp: ∀k,blk p'=some k→blk (H x).p=some k∨∀y,own b H y≠some k) {n':Nat} (hn:n'=l'.length) {K:World→Prop}
 (hk: ∀w3,Sh b (updF H x ⟨p',n',c'⟩) (s.set x l')→Pq w3 b (updF H x ⟨p',n',c'⟩) (s.set x l') (fun y=>E y∧y≠x)→Mod (·=b) w2 w3→K w3):
 ∃w3,StoreAt ((Addr.mk b 0 none).add x.off) 0 [.slice p' n' c'] w2 w3∧K w3:=by
 subst hn
 have hr:=field_row hx
 obtain ⟨h1,h2,h3⟩:=row_ne hr
 have hb: ∀y k,y≠ .st→own b H y=some k→k≠b:=fun y k hy hk e=>by subst e;exact hy (h.inj y .st k hk rfl)
 have hpb: ∀k,blk p'=some k→¬k=b:=fun k hkk e=>by
  rcases hp k hkk with e2|e2
  · exact h1 (h.inj x .st k (by rw [own_ne h1];exact e2) (by rw [e];rfl))
  · exact e2 .st (by rw [e];rfl)
 have hl: ∀i,x≠ .l i:=fun i e=>by subst e;simp [Pt.field] at hx
 have ha: ∀i,x≠ .a i:=fun i e=>by subst e;simp [Pt.field] at hx
 have hw: ∀i,x≠ .w i:=fun i e=>by subst e;simp [Pt.field] at hx
 refine store_f (k:=x.off) (i:=0) X.st (by cases x<;>simp [Pt.field] at hx<;>rfl) rfl fun w3 h3' m3=>hk w3 ?_ ?_ m3
 · refine ⟨by rw [updF_ne (Ne.symm h2)];exact h.cn,by rw [updF_ne (Ne.symm h3)];exact h.wn,fun y hy=> ?_,inj_upd' h.inj h1 hp⟩
   by_cases e:y=x
   · subst e;simp only [PSt.set,updF_same]
   · simp only [PSt.set,updF_ne e];exact h.len y hy
 · refine ⟨?_,?_,?_,fun y hy hE=> ?_⟩
   · have e:wr (stC s H) (0+x.off+0) [.slice p' l'.length c']=stC (s.set x l') (updF H x ⟨p',l'.length,c'⟩):=by
      cases x<;>simp [Pt.field] at hx<;>simp [wr,stC,Pt.off,updF,PSt.set,Sl.v]
     rw [← e];exact h3'
   · rw [ces_upd hl ha,updF_ne (Ne.symm h2)]
     exact X.c.keep m3 fun k hk=>hb .c k (by simp) hk
   · show Ow Sl.v ty_sl_int w3 _ _ (heads (updF H x _) (2* (s.vars+1)))
     rw [heads_upd hw,updF_ne (Ne.symm h3)]
     exact X.wa.keep m3 fun k hk=>hb .wa k (by simp) hk
   · by_cases e:y=x
     · subst e
       simp only [PSt.set,updF_same]
       exact o.keep m3 fun k hk=>hpb k hk
     · simp only [PSt.set,updF_ne e]
       exact (X.row y hy fun h=>hE ⟨h,e⟩).keep m3 fun k hk=>hb y k (row_ne hy).1 (by rw [own_ne (row_ne hy).1];exact hk)
theorem PM.butQ (h:PM w b H s) {E:Pt→Prop} (hE: ∀y,E y→y.row=true) {S:Nat→Prop} (m:Mod S w w') (hS: ∀k,k<w.heap.size→S k→∃y,E y∧own b H y=some k):Pq w' b H s E:=by
 have oth: ∀y k,¬E y→own b H y=some k→¬S k:=fun y k hy hk hs=>by
  obtain ⟨z,hz,e⟩:=hS k (h.lt y k hk) hs
  exact hy (h.inj y z k hk e▸hz)
 have ne: ∀y,y.row=false→¬E y:=fun y hy he=>by rw [hE y he] at hy;cases hy
 exact ⟨h.st.keep m (oth .st b (ne _ rfl) rfl),h.c.keep m fun k hk=>oth .c k (ne _ rfl) hk,h.wa.keep m fun k hk=>oth .wa k (ne _ rfl) hk,
  fun y hy e=> (h.row y hy).keep m fun k hk=>oth y k e (by rw [own_ne (row_ne hy).1];exact hk)⟩
theorem own_upd {x y:Pt} {q:Sl} (e:y≠x):own b (updF H x q) y=own b H y:=by cases y<;>first|rfl| (simp only [own];rw [updF_ne e])
theorem PM.two (h:PM w0 b H s) {wB:World} {p1:Option Addr} {c1:Nat} {y1 y2:Int} (o1:OwI ty_int wB p1 c1 (s.R .be++ [y1])) (m1:Mod (fun k=>blk (H .be).p=some k) w0 wB)
 (hp1: ∀k,blk p1=some k→blk (H .be).p=some k∨w0.heap.size≤k) {n2:Nat} (hb:Has wB n2 #[.int .i64 y2]) (hlen:(s.R .ds).length≤4000000) {n1:Nat} (hn1:n1=(s.R .be++ [y1]).length) {K:World→Prop}
 (hk: ∀w3 H',Pw w0 w3 b H H' ((s.set .be (s.R .be++ [y1])).set .ds (s.R .ds++ [y2]))→K w3):
 ∃w2,∃ (p':Option Addr) (n' c':Nat),(Builtin.append_ #[ty_sl_int,ty_sl_int] ty_sl_int #[.slice (H .ds).p (H .ds).n (H .ds).c,.slice (some (Addr.mk n2 0 none)) 1 1]).run prog wB= .ok (.slice p' n' c') w2∧
  ∃a:Addr,(some ⟨b,0,none⟩:Option Addr)=some a∧∃w3,StoreAt (a.add 7) 0 [.slice p1 n1 c1] w2 w3∧∃a:Addr,(some ⟨b,0,none⟩:Option Addr)=some a∧∃w4,StoreAt (a.add 8) 0 [.slice p' n' c'] w3 w4∧K w4:=by
 have X1:=h.but (x:= .be) rfl m1
 have ods:OwI ty_int wB (H .ds).p (H .ds).c (s.R .ds):=X1.row .ds rfl (by simp)
 refine ods.app1 sl_int y2 hb rfl (h.len .ds rfl) oneInt (by omega) fun w2 p' c' o2 m2 hp2 hs2=> ⟨_,rfl,?_⟩
 have np1: ∀k,blk p1=some k→¬blk (H .ds).p=some k:=fun k hk e=>by
  rcases hp1 k hk with h1|h1
  · exact h.other (x:= .ds) (by simp) (y:= .be) (by simp) h1 e
  · have:=h.lt .ds k e;omega
 have m12:Mod (fun k=>blk (H .be).p=some k∨blk (H .ds).p=some k) w0 w2:=(m1.mono fun _ _ e=> .inl e).trans (m2.mono fun _ _ e=> .inr e)
 have Q2:=h.butQ (E:=fun y=>y= .be∨y= .ds) (fun y e=>by rcases e with rfl|rfl<;>rfl) m12 fun k _ e=>e.elim (fun e=> ⟨.be,.inl rfl,e⟩) fun e=> ⟨.ds,.inr rfl,e⟩
 have z1:=m1.size
 have f2: ∀k,blk p'=some k→blk (H .ds).p=some k∨w0.heap.size≤k:=fun k hk=>by
  rcases hp2 with rfl|rfl
  · exact .inl hk
  · have:=blk_some hk;exact .inr (by omega)
 have f12: ∀k,blk p'=some k→blk p1≠some k:=fun k hk e=>by
  rcases hp2 with rfl|rfl
  · exact np1 k e hk
  · have:=blk_some hk
    have:=o1.lt k e;omega
 refine h.sh.head (x:= .be) rfl (o1.keep m2 fun k hk=>np1 k hk) Q2 (fun k hk=> (hp1 k hk).imp id fun e=>h.fresh e) hn1 fun w3 S3 Q3 m3=> ⟨_,rfl,?_⟩
 refine S3.head (x:= .ds) rfl (o2.keep m3 fun k hk e=> ?_) Q3 (fun k hk=> ?_) (by simp) fun w4 S4 Q4 m4=>hk w4 (updF (updF H .be ⟨p1,n1,c1⟩) .ds ⟨p',(s.R .ds).length+1,c'⟩) ?_
 · rcases f2 k hk with e2|e2
   · exact h.other (x:= .ds) (by simp) (y:= .st) (by simp) (k:=k) (by rw [e];rfl) e2
   · have:=h.lt .st b rfl;omega
 · rw [updF_ne (by simp)]
   rcases f2 k hk with e2|e2
   · exact .inl e2
   · refine .inr fun y e=> ?_
     by_cases ey:y= .be
     · subst ey
       rw [own_ne (by simp),updF_same] at e
       exact f12 k hk e
     · rw [own_upd ey] at e
       have:=h.lt y k e;omega
 · refine ⟨S4.pm Q4 fun y e=> ?_,?_,fun x k hkk=> ?_⟩
   · rcases e.1.1 with e2|e2
     · exact e.1.2 e2
     · exact e.2 e2
   · exact ((m12.mono fun k _ e=>e.elim (fun e=> ⟨.be,e⟩) fun e=> ⟨.ds,e⟩).trans (m3.mono fun k _ e=> ⟨.st,by rw [e];rfl⟩)).trans (m4.mono fun k _ e=> ⟨.st,by rw [e];rfl⟩)
   · by_cases e1:x= .ds
     · subst e1
       rw [own_ne (by simp),updF_same] at hkk
       exact (f2 k hkk).imp (fun e=> ⟨.ds,e⟩) id
     · rw [own_upd e1] at hkk
       by_cases e2:x= .be
       · subst e2
         rw [own_ne (by simp),updF_same] at hkk
         exact (hp1 k hkk).imp (fun e=> ⟨.be,e⟩) id
       · rw [own_upd e2] at hkk
         exact .inl ⟨x,hkk⟩
theorem decide_ok (h:PM w b H s) (g:Good s) (l:Int):Calls prog prop_Prop_Decide.id #[ptrV b,.int .i64 l] w fun e w'=> ∃r:Int,e= .returned (.int .i64 r)∧∃H',((r=0∧InV s.vars l∧s.val l=0∧Pw w w' b H H' (s.decide l))∨(r=1∧¬(InV s.vars l∧s.val l=0)∧Pw w w' b H H' s)):=by
 have k:=g.wf
 refine prop_Prop_Decide.calls ((is_ok h k l).mono ?_)
 rintro e w1 ⟨rfl,g1⟩
 refine ⟨_,rfl,?_⟩
 cases hi:isB s.vars l with
 |false=>exact cnd_t rfl ⟨_,rfl,H,.inr ⟨rfl,(fun hh=>by rw [(isB_iff k.vmax).2 hh.1] at hi;cases hi),Pw.refl (h.grow g1) g1⟩⟩
 |true=>
  have hl:=(isB_iff k.vmax).1 hi
  refine cnd_f rfl ((val_ok (h.grow g1) k hl).mono ?_)
  rintro e w3 ⟨rfl,rfl⟩
  refine ⟨_,rfl,cnd_i (fun r=> ?_) (fun r=> ?_)⟩
  · have r:s.val l≠0:=by simpa using r
    exact ⟨_,rfl,H,.inr ⟨rfl,fun h=>r h.2,Pw.refl (h.grow g1) g1⟩⟩
  · have r:s.val l=0:=by simpa using r
    have h0:=(h.grow g1).drew
    have kb:(s.R .be).length≤1048576:=by have:=g.bel;have:=g.trl;have:=g.vmax;omega
    have kd:(s.R .ds).length≤1048576:=by rw [g.dl];exact kb
    have kt:(s.R .tr).length≤1048576:=by have:=g.trl;have:=g.vmax;omega
    have aw: ∀ {a:Addr} {u:Value},w3.drew.cell? a=some u→a.block=b→AtW (Mod (fun k=>blk (H .be).p=some k∨blk (H .ds).p=some k) w3.drew) a u:=fun hc hne u' g=>cell_keep g hc fun e=>by
     rw [hne] at e
     rcases e with e|e
     · exact h0.other (x:= .be) (by simp) (y:= .st) (by simp) rfl e
     · exact h0.other (x:= .ds) (by simp) (y:= .st) (by simp) rfl e
    have gm: ∀ {w1:World},Grow w3.drew w1→Mod (fun k=>blk (H .be).p=some k∨blk (H .ds).p=some k) w3.drew w1:=fun g=>g.mono fun _ _ e=>e.elim
    refine ⟨Mod (fun k=>blk (H .be).p=some k∨blk (H .ds).p=some k) w3.drew,Mod.refl _,_,rfl,_,_,_,aw (cell_add h0.st rfl) (add_block _ _),_,rfl,_,_,_,aw (cell_add h0.st rfl) (add_block _ _),_,rfl,_,_,_,aw (cell_add h0.st rfl) (add_block _ _),
     _,rfl,_,aw (cell_add h0.st rfl) (add_block _ _),?_⟩
    rw [h.len .tr rfl]
    have kB:Wf s.begin:=by
     unfold PSt.begin
     refine ⟨k.vmax,by rw [set_ne (by simp),set_ne (by simp)];exact k.va,by rw [set_ne (by simp),set_ne (by simp)];exact k.vb,by rw [set_ne (by simp),set_ne (by simp)];exact k.le,by rw [set_ne (by simp),set_ne (by simp)];exact k.re,?_,by rw [set_ne (by simp),set_ne (by simp)];exact k.tr,k.nc⟩
     rw [set_ne (by simp),set_eq,List.length_append]
     simp only [List.length_cons,List.length_nil]
     omega
    have fin: ∀w25 H',Pw w3.drew w25 b H H' s.begin→Calls prog prop_Prop_put.id #[ptrV b,.int .i64 l,.int .i64 (-1)] w25 fun e w26=>e= .returned (.tuple #[])∧
     ∃r:Int,Ending.returned (.int .i64 0)= .returned (.int .i64 r)∧∃H',((r=0∧InV s.vars l∧s.val l=0∧Pw w w26 b H H' (s.decide l))∨(r=1∧¬(InV s.vars l∧s.val l=0)∧Pw w w26 b H H' s)):=by
     intro w25 H' P
     refine (put_ok P.pm kB (l:=l) hl (-1)).mono ?_
     rintro e w26 ⟨rfl,q,P2⟩
     exact ⟨rfl,_,rfl,_,.inl ⟨rfl,hl,r,(P.trans P2).pre (g1.trans (Mod.refl _).drew)⟩⟩
    have fr: ∀ {u:World} {p':Option Addr},Grow w3.drew u→(p'=(H .be).p∨p'=some ⟨u.heap.size,0,none⟩)→∀k,blk p'=some k→blk (H .be).p=some k∨w3.drew.heap.size≤k:=fun g hp k hk=>by
     rcases hp with rfl|rfl
     · exact .inl hk
     · have:=blk_some hk;have:=g.size;exact .inr (by omega)
    have fbe: ∀ {u:World},Grow w3.drew u→OwI ty_int u (H .be).p (H .be).c (s.R .be):=fun g=> (h0.grow g).row .be rfl
    have nbe: ∀ {n:Nat} {u v:World} {o:Obj},Grow w3.drew u→New o u n v→¬blk (H .be).p=some n:=fun g hn e=>by
     have:=h0.lt .be _ e;have:=hn.num;have:=g.size;omega
    refine ⟨?_,?_⟩
    · intro n14 w15 h15
      have g15:=h15.mod
      refine ⟨gm g15,?_,?_⟩
      · refine (fbe g15).app1 sl_int _ h15.has rfl (h.len .be rfl) oneInt (by omega) fun w16 p1 c1 o1 m1 hp1 hs1=> ⟨(gm g15).trans (m1.mono fun _ _ e=> .inl e),?_⟩
        intro n18 w19 h19
        have M19:Mod (fun k=>blk (H .be).p=some k) w3.drew w19:=((g15.mono fun _ _ e=>e.elim).trans m1).trans (h19.mod.mono fun _ _ e=>e.elim)
        refine ⟨M19.mono fun _ _ e=> .inl e,h0.two (o1.grow h19.mod) M19 (fr g15 hp1) h19.has (by omega) (by simp) fun w25 H' P=>fin w25 H' P⟩
      · intro n27 w28 h28
        have g28:=g15.trans h28.mod
        refine ⟨gm g28,(fbe g28).app1 sl_int _ (h15.has.grow h28.mod) rfl (h.len .be rfl) oneInt (by omega) fun w29 p1 c1 o1 m1 hp1 hs1=> ⟨(gm g28).trans (m1.mono fun _ _ e=> .inl e),?_⟩⟩
        exact h0.two o1 ((g28.mono fun _ _ e=>e.elim).trans m1) (fr g28 hp1) (h28.has.keep m1 (nbe g15 h28)) (by omega) (by simp) fun w25 H' P=>fin w25 H' P
    · intro n38 w39 h39
      have g39:=h39.mod
      refine ⟨gm g39,?_⟩
      intro n40 w41 h41
      have g41:=g39.trans h41.mod
      refine ⟨gm g41,(fbe g41).app1 sl_int _ h41.has rfl (h.len .be rfl) oneInt (by omega) fun w29 p1 c1 o1 m1 hp1 hs1=> ⟨(gm g41).trans (m1.mono fun _ _ e=> .inl e),?_⟩⟩
      exact h0.two o1 ((g41.mono fun _ _ e=>e.elim).trans m1) (fr g41 hp1) ((h39.has.grow h41.mod).keep m1 (nbe (Mod.refl _) h39)) (by omega) (by simp) fun w25 H' P=>fin w25 H' P
end
section
variable {w w' w0 w2 w3:World} {b:Nat} {H H' H2:Pt→Sl} {s t u s' T:PSt} {l x y:Int} {i:Nat}
def clr (va:List Int) (xs:List Int):List Int:=xs.foldl (fun va x=>va.set (amt x).toNat 0) va
theorem clr_len: ∀ (xs va:List Int),(clr va xs).length=va.length
 | [],_=>rfl
 |x::xs,va=>by
  show (clr (va.set (amt x).toNat 0) xs).length=_
  rw [clr_len xs];simp
theorem clr_get {k:Nat}: ∀ (xs va:List Int),(clr va xs).getD k 0=if ∃x∈xs,(amt x).toNat=k then 0 else va.getD k 0
 | [],va=>by simp [clr]
 |x::xs,va=>by
  show (clr (va.set (amt x).toNat 0) xs).getD k 0=_
  rw [clr_get xs]
  by_cases h: ∃y∈xs,(amt y).toNat=k
  · obtain ⟨y,hy,e⟩:=h
    rw [if_pos ⟨y,hy,e⟩,if_pos ⟨y,List.mem_cons_of_mem _ hy,e⟩]
  · rw [if_neg h]
    by_cases e:(amt x).toNat=k
    · rw [if_pos ⟨x,List.mem_cons_self ..,e⟩]
      simp only [List.getD_eq_getElem?_getD,List.getElem?_set]
      rw [if_pos e]
      split<;>simp
    · rw [if_neg]
      · simp only [List.getD_eq_getElem?_getD,List.getElem?_set]
        rw [if_neg e]
      · rintro ⟨y,hy,e2⟩
        rcases List.mem_cons.1 hy with rfl|hy
        · exact e e2
        · exact h ⟨y,hy,e2⟩
theorem clr_snoc (va xs:List Int) (x:Int):clr va (xs++ [x])=(clr va xs).set (amt x).toNat 0:=by simp [clr]
def PSt.back (s:PSt) (L:Nat):PSt:=
 {((((s.set .va (clr (s.R .va) ((s.R .tr).drop ((s.R .be).getD L 0).toNat))).set .tr ((s.R .tr).take ((s.R .be).getD L 0).toNat)).set .be ((s.R .be).take L)).set .ds ((s.R .ds).take L)) with
  done:=min (min s.done ((s.R .be).getD L 0).toNat) ((s.R .ds).getD L 0).toNat}
theorem take_getD {l:List Int} {k j:Nat} (h:j<k):(l.take k).getD j 0=l.getD j 0:=by
 simp only [List.getD_eq_getElem?_getD,List.getElem?_take]
 rw [if_pos h]
theorem back_good (g:Good s) {L:Nat} (hL:L< (s.R .be).length):Good (s.back L):=by
 have hb:=g.bl L hL
 have hdb:=g.db L hL
 have gdl:=g.dl
 obtain ⟨A,hA⟩: ∃A:Nat,((s.R .be).getD L 0).toNat=A:=⟨_,rfl⟩
 have hAi:(s.R .be).getD L 0=(A:Int):=by omega
 have hAl:A< (s.R .tr).length:=by omega
 have eva:(s.back L).R .va=clr (s.R .va) ((s.R .tr).drop A):=by rw [← hA];unfold PSt.back;simp [PSt.set,updF]
 have etr:(s.back L).R .tr=(s.R .tr).take A:=by rw [← hA];unfold PSt.back;simp [PSt.set,updF]
 have ebe:(s.back L).R .be=(s.R .be).take L:=by unfold PSt.back;simp [PSt.set,updF]
 have eds:(s.back L).R .ds=(s.R .ds).take L:=by unfold PSt.back;simp [PSt.set,updF]
 have eR: ∀y,y≠ .va→y≠ .tr→y≠ .be→y≠ .ds→(s.back L).R y=s.R y:=fun y a1 a2 a3 a4=>by unfold PSt.back;simp [PSt.set,updF,a1,a2,a3,a4]
 have edn:(s.back L).done=min (min s.done A) ((s.R .ds).getD L 0).toNat:=by rw [← hA];rfl
 have ele:=eR .le (by simp) (by simp) (by simp) (by simp)
 have ere:=eR .re (by simp) (by simp) (by simp) (by simp)
 have elo:=eR .lo (by simp) (by simp) (by simp) (by simp)
 have el: ∀i,(s.back L).R (.l i)=s.R (.l i):=fun i=>eR _ (by simp) (by simp) (by simp) (by simp)
 have ea: ∀i,(s.back L).R (.a i)=s.R (.a i):=fun i=>eR _ (by simp) (by simp) (by simp) (by simp)
 have ew: ∀i,(s.back L).R (.w i)=s.R (.w i):=fun i=>eR _ (by simp) (by simp) (by simp) (by simp)
 have elev: ∀x,(s.back L).lev x=s.lev x:=fun x=>by unfold PSt.lev;rw [ele]
 have erea: ∀x,(s.back L).rea x=s.rea x:=fun x=>by unfold PSt.rea;rw [ere]
 have lt:((s.R .tr).take A).length=A:=by rw [List.length_take];omega
 have lb:((s.R .be).take L).length=L:=by rw [List.length_take];omega
 have sub: ∀x,x∈(s.R .tr).take A→x∈s.R .tr:=fun x hx=>List.mem_of_mem_take hx
 have later: ∀p:Int,p∈(s.R .be).drop L→(A:Int)≤p:=fun p hp=>by
  obtain ⟨j,hj,e⟩:=List.mem_iff_getElem.1 hp
  rw [List.length_drop] at hj
  rw [List.getElem_drop] at e
  have ep:(s.R .be).getD (L+j) 0=p:=by simp [List.getD,show L+j< (s.R .be).length by omega,e]
  rcases Nat.eq_zero_or_pos j with h|h
  · subst h;rw [Nat.add_zero,hAi] at ep;omega
  · have:=g.bs L (L+j) (by omega) (by omega);rw [hAi,ep] at this;omega
 have nd:=g.nd
 have hval: ∀x,InV s.vars x→(s.back L).val x=if ∃y∈(s.R .tr).drop A,amt y=amt x then 0 else s.val x:=fun x hx=>by
  have hxa:=hx.amt
  have key: ∀k:Nat,((k:Int)=amt x)→((clr (s.R .va) ((s.R .tr).drop A)).getD k 0=if ∃y∈(s.R .tr).drop A,amt y=amt x then 0 else (s.R .va).getD k 0):=fun k hk=>by
   rw [clr_get]
   have:(∃y∈(s.R .tr).drop A,(amt y).toNat=k)↔∃y∈(s.R .tr).drop A,amt y=amt x:=by
    constructor
    · rintro ⟨y,hy,e⟩
      have:=(g.tv y (List.mem_of_mem_drop hy)).amt
      exact ⟨y,hy,by omega⟩
    · rintro ⟨y,hy,e⟩
      exact ⟨y,hy,by omega⟩
   by_cases h: ∃y∈(s.R .tr).drop A,amt y=amt x
   · rw [if_pos (this.2 h),if_pos h]
   · rw [if_neg (fun h2=>h (this.1 h2)),if_neg h]
  unfold PSt.val
  rw [eva]
  by_cases e:x<0
  · rw [if_pos e,if_pos e,key _ (by unfold amt;rw [if_pos e];omega)]
    split<;>simp
  · rw [if_neg e,if_neg e,key _ (by unfold amt;rw [if_neg e];omega)]
 have apart: ∀x∈(s.R .tr).take A,∀y∈(s.R .tr).drop A,amt y≠amt x:=fun x hx y hy e=>by
  have h1:((s.R .tr).take A++ (s.R .tr).drop A).map amt=(s.R .tr).map amt:=by rw [List.take_append_drop]
  rw [← h1,List.map_append,List.nodup_append] at nd
  exact nd.2.2 (amt x) (List.mem_map_of_mem hx) (amt y) (List.mem_map_of_mem hy) e.symm
 have tt: ∀D,D≤A→((s.R .tr).take A).take D=(s.R .tr).take D:=fun D hD=>by rw [List.take_take,Nat.min_eq_left hD]
 have evr:(s.back L).vars=s.vars:=rfl
 have enc:(s.back L).nc=s.nc:=rfl
 have eth: ∀i,(s.back L).There i↔s.There i:=fun _=>Iff.rfl
 generalize s.back L=t at*
 refine ⟨by rw [evr];exact g.vmax,by rw [enc];exact g.ncm,by rw [eva,clr_len,evr];exact g.va,fun k=> ?_,by rw [ele,evr];exact g.le,by rw [ere,evr];exact g.rl,fun x hx=>by rw [evr];exact g.tv x (sub x (by rw [etr] at hx;exact hx)),?_,fun x hx=> ?_,fun j hj=> ?_,fun p q hpq hq=> ?_,by rw [ebe,eds,List.length_take,List.length_take,g.dl],fun j hj=> ?_,fun p hp=> ?_,fun p hp hm=> ?_,fun p hp hm=> ?_,
  by rw [edn,etr,lt];omega,fun i hi x hx=>by rw [evr];exact g.cv i ((eth i).1 hi) x (by rw [el] at hx;exact hx),fun i hi=>by rw [el];exact g.cn i ((eth i).1 hi),fun i hi=>by rw [el];exact g.cl i ((eth i).1 hi),fun i hi=>by rw [el,ea];exact g.ca i ((eth i).1 hi),fun i=>by rw [ea];exact g.al i,
  fun j c hc=> ?_,fun i hi x hx=> ?_,fun j=>by rw [ew];exact g.w3 j,fun c hc=>by rw [elo] at hc;obtain ⟨i,e1,e2⟩:=g.o1 c hc;exact ⟨i,e1,(eth i).2 e2⟩,fun i hi h=>by rw [elo];exact g.o2 i ((eth i).1 hi) (by rw [el] at h;exact h),by rw [elo];exact g.o3,fun i hi h=> ?_,fun j hj i hi h=> ?_⟩
 · rw [eva,clr_get]
   split
   · exact .inl rfl
   · exact g.vb k
 · rw [etr,List.map_take];exact (List.take_sublist _ _).nodup g.nd
 · rw [evr] at hx
   rw [hval x hx,etr]
   by_cases h: ∃y∈(s.R .tr).drop A,amt y=amt x
   · rw [if_pos h]
     obtain ⟨y,hy,e⟩:=h
     constructor
     · intro h;omega
     · intro h;exact absurd e (apart x h y hy)
   · rw [if_neg h,g.v1 x hx]
     constructor
     · intro hm
       rw [← List.take_append_drop A (s.R .tr),List.mem_append] at hm
       rcases hm with hm|hm
       · exact hm
       · exact absurd ⟨x,hm,rfl⟩ h
     · exact sub x
 · rw [ebe,lb] at hj
   rw [ebe,etr,take_getD hj,lt]
   have:=g.bs j L hj hL
   have:=(g.bl j (by omega)).1
   omega
 · rw [ebe,lb] at hq
   rw [ebe,take_getD hq,take_getD (by omega)]
   exact g.bs p q hpq (by omega)
 · rw [ebe,lb] at hj
   rw [ebe,eds,take_getD hj,take_getD hj]
   exact g.db j (by omega)
 · rw [etr,lt] at hp
   rw [etr,take_getD hp,elev,ebe,g.lv p (by omega)]
   have h1:s.R .be=(s.R .be).take L++ (s.R .be).drop L:=(List.take_append_drop _ _).symm
   have h2:((s.R .be).drop L).countP (fun e=>decide (e≤(p:Int)))=0:=List.countP_eq_zero.2 fun q hq=>by
    have:=later q hq
    rw [decide_eq_true_eq];omega
   have h3:(s.R .be).countP (fun e=>decide (e≤(p:Int)))=((s.R .be).take L).countP (fun e=>decide (e≤(p:Int))):=by
    conv=>lhs;rw [h1]
    rw [List.countP_append,h2,Nat.add_zero]
   rw [h3]
 · rw [etr,lt] at hp
   rw [etr,take_getD hp,erea]
   rw [ebe] at hm
   exact g.re1 p (by omega) (List.mem_of_mem_take hm)
 · rw [etr,lt] at hp
   rw [etr,take_getD hp,erea]
   rw [ebe] at hm
   have hm':(p:Int) ∉ s.R .be:=fun h=>by
    rw [← List.take_append_drop L (s.R .be),List.mem_append] at h
    rcases h with h|h
    · exact hm h
    · have:=later _ h;omega
   obtain ⟨i,e1,e2,e3,e4⟩:=g.re2 p (by omega) hm'
   refine ⟨i,e1,(eth i).2 e2,by rw [el];exact e3,fun x hx hne=> ?_⟩
   rw [el] at hx
   rw [tt p (by omega)]
   exact e4 x hx hne
 · rw [ew] at hc
   obtain ⟨i,e1,e2,e3⟩:=g.w1 j c hc
   exact ⟨i,e1,(eth i).2 e2,by rw [el];exact e3⟩
 · rw [el] at hx;rw [ew];exact g.w2 i ((eth i).1 hi) x hx
 · intro x hx y hy hne hm
   rw [elo] at h
   rw [el] at hx hy
   rw [etr,edn,tt _ (by omega)] at hm
   rw [etr]
   have:=g.wj L hL i ((eth i).1 hi) h x hx y hy hne (List.take_subset_take_left _ (by omega) hm)
   rw [hA] at this
   exact this
 · intro x hx y hy hne hm
   rw [elo] at h
   rw [el] at hx hy
   rw [ebe,lb] at hj
   have h1:=g.db j (by omega)
   have h2:=g.bs j L hj hL
   have h3:=g.bl j (by omega)
   rw [eds,take_getD hj,etr,tt _ (by omega)] at hm
   rw [ebe,take_getD hj,etr,tt _ (by omega)]
   exact g.wj j (by omega) i ((eth i).1 hi) h x hx y hy hne hm
theorem PM.cut (h:PM w b H s) {x:Pt} (hx:x.field=true) {k:Nat} (hk':k≤(s.R x).length) {n' c':Nat} (hn:n'=k) (hc:c'=(H x).c) {K:World→Prop}
 (hk: ∀w3,PM w3 b (updF H x ⟨(H x).p,k,(H x).c⟩) (s.set x ((s.R x).take k))→Mod (·=b) w w3→K w3): ∃w3,StoreAt ((Addr.mk b 0 none).add x.off) 0 [.slice (H x).p n' c'] w w3∧K w3:=by
 subst hn hc
 exact h.head hx ((h.row x (field_row hx)).take hk') ⟨h.st,h.c,h.wa,fun y hy _=>h.row y hy⟩ (fun k hk=> .inl hk) (by rw [List.length_take];omega) hk
theorem row_cap (h:PM w b H s) {x:Pt} (hx:x.row=true):(s.R x).length≤(H x).c:=by
 rcases (h.row x hx).un with ⟨_,_,e2⟩| ⟨_,_,_,_,e,_⟩
 · rw [e2];exact Nat.zero_le _
 · exact e
theorem back_w (h:PM w b H s) (g:Good s) (lev:Int):prop_Prop_Back.w (some ⟨b,0,none⟩) lev w fun v w'=>Ending.returned v= .returned (.tuple #[])∧∃H',Pw w w' b H H' (if (max 0 lev).toNat< (s.R .be).length then s.back (max 0 lev).toNat else s):=by
 have k:=g.wf
 obtain ⟨L,hL⟩: ∃L:Nat,(max 0 lev).toNat=L:=⟨_,rfl⟩
 have em:imax 0 lev=(L:Int):=by unfold imax;split<;>omega
 rw [hL]
 refine cnd_f rfl ⟨_,rfl,_,_,_,cell_add h.st rfl,?_⟩
 rw [em,h.len .be rfl]
 refine cnd_i (fun r=> ?_) (fun r=> ?_)
 · have r:(s.R .be).length≤L:=by simp at r;omega
   exact ⟨rfl,H,by rw [if_neg (by omega)];exact Pw.refl h (Mod.refl w)⟩
 have r:L< (s.R .be).length:=by simp at r;omega
 rw [if_pos r]
 have hb:=g.bl L r
 have hdb:=g.db L r
 have gdl:=g.dl
 have hcap:=row_cap h (x:= .tr) rfl
 have hcapb:=row_cap h (x:= .be) rfl
 have hcapd:=row_cap h (x:= .ds) rfl
 refine ⟨_,rfl,_,_,_,cell_add h.st rfl,h.rIx (x:= .be) rfl (by omega) rfl (by omega) fun a5 _ hc5=> ⟨_,hc5,_,rfl,_,_,_,cell_add h.st rfl,?_⟩⟩
 rw [Int.toNat_natCast]
 obtain ⟨A,hA⟩: ∃A:Nat,((s.R .be).getD L 0).toNat=A:=⟨_,rfl⟩
 have hAi:(s.R .be).getD L 0=(A:Int):=by omega
 rw [hAi]
 have hAl:A< (s.R .tr).length:=by omega
 rw [h.len .tr rfl]
 refine slK_i A (s.R .tr).length (H .tr).c rfl rfl rfl (Nat.le_refl _) hcap (by omega) ?_
 rw [if_neg (by omega)]
 refine ⟨fun V u m=> ∃v:Nat,V=v∧v≤(s.R .tr).length - A∧m=(s.R .tr).length - A - v∧Pw w u b H H (s.set .va (clr (s.R .va) (((s.R .tr).drop A).take v))),⟨_,0,rfl,Nat.zero_le _,rfl,by
  have:clr (s.R .va) (((s.R .tr).drop A).take 0)=s.R .va:=by simp [clr]
  rw [this,set_self'];exact Pw.refl h (Mod.refl w)⟩,?_⟩
 rintro V w14 m _ ⟨v,rfl,hv,rfl,P14⟩
 have h14:=P14.pm
 have Vw14:Vw (Value.int .i64) w14 ((H .tr).p.map (·.add (A*1))) ((s.R .tr).drop A):=by
  have:=(h14.row .tr rfl).vw.part (i:=A) (m:=(s.R .tr).length - A) (by rw [set_ne (by simp)];omega)
  rw [set_ne (by simp),List.take_of_length_le (by simp)] at this
  exact this
 refine cnd_i (fun r2=> ?_) (fun r2=> ?_)
 · have r2:v< (s.R .tr).length - A:=by simp at r2;omega
   refine Vw14.ix 0 (by omega) (by simp) (by omega) fun a15 hc15=> ⟨_,hc15,?_⟩
   rw [Int.toNat_natCast]
   have hx:((s.R .tr).drop A).getD v 0∈s.R .tr:=List.mem_of_mem_drop (getD_mem' (by simp;omega))
   have htk:((s.R .tr).drop A).take (v+1)=((s.R .tr).drop A).take v++ [((s.R .tr).drop A).getD v 0]:=by
    rw [List.take_add_one]
    simp [List.getD,show A+v< (s.R .tr).length by omega]
   generalize ((s.R .tr).drop A).getD v 0=X at*
   have hxv:=g.tv X hx
   have hxa:=hxv.amt
   refine ⟨(·=w14.drew),rfl,_,rfl,_,_,_,atW_eq (cell_add h14.drew.st rfl),(pamount_ok (hxv.bd g.vmax) _).mono ?_⟩
   rintro e w20 ⟨rfl,rfl⟩
   refine ⟨_,rfl,rfl,h14.drew.rSt (x:= .va) rfl (by omega) rfl (by rw [set_eq,clr_len,g.va];omega) (y:=0) rfl rfl fun w23 h23 m23=> ?_⟩
   refine ⟨_,?_,v+1,wN (by omega) (by have:=g.trl;have:=g.vmax;omega),by omega,rfl,?_⟩
   · omega
   · rw [set_set,set_eq] at h23
     rw [htk,clr_snoc]
     exact P14.drew.trans (Pw.row h23 (x:= .va) rfl m23)
 · have r2:v=(s.R .tr).length - A:=by simp at r2;omega
   subst r2
   rw [List.take_of_length_le (by simp)] at P14 h14
   have hT:=h14.drew
   have P0:=P14.drew
   obtain ⟨V,hV⟩: ∃V,V=clr (s.R .va) ((s.R .tr).drop A):=⟨_,rfl⟩
   rw [← hV] at P14 h14 hT P0
   refine ⟨_,rfl,_,cell_add hT.st rfl,_,rfl,_,_,_,cell_add hT.st rfl,hT.rIx (x:= .ds) rfl (by omega) rfl (by rw [set_ne (by simp)];omega) fun a28 _ hc28=> ⟨_,hc28,_,rfl,?_⟩⟩
   rw [set_ne (by simp),Int.toNat_natCast]
   have ed:imin (imin ((s.set .va V).done:Int) (A:Int)) ((s.R .ds).getD L 0)=((min (min s.done A) ((s.R .ds).getD L 0).toNat:Nat):Int):=by
    show imin (imin (s.done:Int) (A:Int)) _=_
    unfold imin
    repeat' split
    all_goals omega
   rw [ed]
   refine hT.setDone rfl fun w31 h31 m31=> ?_
   have P31:Pw w w31 b H H _:=P0.trans ⟨h31,m31.mono fun k _ e=> ⟨.st,by rw [e];rfl⟩,fun x k hk=> .inl ⟨x,hk⟩⟩
   have hU:=h31.drew
   have PU:=P31.drew
   refine ⟨_,rfl,_,_,_,cell_add hU.st rfl,?_⟩
   rw [h.len .tr rfl]
   refine slK_i 0 A (H .tr).c rfl rfl rfl (Nat.le_refl _) (by omega) (Nat.zero_le _) ?_
   refine ⟨_,rfl,_,_,_,cell_add hU.st rfl,?_⟩
   refine slK_i 0 L (H .be).c rfl rfl rfl (Nat.le_refl _) (by omega) (Nat.zero_le _) ?_
   refine ⟨_,rfl,_,_,_,cell_add hU.st rfl,?_⟩
   refine slK_i 0 L (H .ds).c rfl rfl rfl (Nat.le_refl _) (by omega) (Nat.zero_le _) ?_
   rw [ep1,ep1,ep1]
   refine ⟨_,rfl,hU.cut (x:= .tr) rfl (k:=A) (by show A≤((s.set .va V).R .tr).length;rw [set_ne (by simp)];omega) (Nat.sub_zero _) (Nat.sub_zero _) fun w42 h42 m42=> ⟨_,rfl,?_⟩⟩
   have c2:=h42.cut (x:= .be) rfl (k:=L) (n':=L - 0) (c':=(H .be).c - 0) (by
    show L≤(((s.set .va V).set .tr _).R .be).length
    rw [set_ne (by simp),set_ne (by simp)];omega) (Nat.sub_zero _) (by rw [updF_ne (by simp)];rfl) (K:=fun w44=> ∃a:Addr,(some ⟨b,0,none⟩:Option Addr)=some a∧∃w46,StoreAt (a.add 8) 0 [.slice (H .ds).p (L - 0) ((H .ds).c - 0)] w44 w46∧(Ending.returned (.tuple #[])= .returned (.tuple #[])∧∃H',Pw w w46 b H H' (s.back L))) ?_
   · rw [updF_ne (by simp)] at c2
     exact c2
   intro w44 h44 m44
   refine ⟨_,rfl,?_⟩
   have c3:=h44.cut (x:= .ds) rfl (k:=L) (n':=L - 0) (c':=(H .ds).c - 0) (by
    show L≤((((s.set .va V).set .tr _).set .be _).R .ds).length
    rw [set_ne (by simp),set_ne (by simp),set_ne (by simp)];omega) (Nat.sub_zero _) (by rw [updF_ne (by simp),updF_ne (by simp)];rfl) (K:=fun w46=> (Ending.returned (.tuple #[])= .returned (.tuple #[])∧∃H',Pw w w46 b H H' (s.back L))) ?_
   · rw [updF_ne (by simp),updF_ne (by simp)] at c3
     exact c3
   intro w46 h46 m46
   refine ⟨rfl,updF (updF (updF H .tr ⟨(H .tr).p,A,(H .tr).c⟩) .be ⟨(H .be).p,L,(H .be).c⟩) .ds ⟨(H .ds).p,L,(H .ds).c⟩,⟨?_,((PU.mod.then m42 fun k _ e=> ⟨.st,by rw [e];rfl⟩).then m44 fun k _ e=> ⟨.st,by rw [e];rfl⟩).then m46 fun k _ e=> ⟨.st,by rw [e];rfl⟩,fun x k hk=> ?_⟩⟩
   · have e:(s.back L)=((({s.set .va V with done:=min (min s.done A) ((s.R .ds).getD L 0).toNat}.set .tr ((s.R .tr).take A)).set .be ((s.R .be).take L)).set .ds ((s.R .ds).take L)):=by
      unfold PSt.back
      rw [hA,← hV];rfl
     rw [e]
     have e1:({s.set .va V with done:=min (min s.done A) ((s.R .ds).getD L 0).toNat}:PSt).R .tr=s.R .tr:=set_ne (s:=s) (x:= .va) (y:= .tr) (l:=V) (by simp)
     have e2:(({s.set .va V with done:=min (min s.done A) ((s.R .ds).getD L 0).toNat}:PSt).set .tr ((s.R .tr).take A)).R .be=s.R .be:=by rw [set_ne (by simp)];exact set_ne (s:=s) (x:= .va) (y:= .be) (l:=V) (by simp)
     have e3:((({s.set .va V with done:=min (min s.done A) ((s.R .ds).getD L 0).toNat}:PSt).set .tr ((s.R .tr).take A)).set .be ((s.R .be).take L)).R .ds=s.R .ds:=by rw [set_ne (by simp),set_ne (by simp)];exact set_ne (s:=s) (x:= .va) (y:= .ds) (l:=V) (by simp)
     have h9:=h46
     simp only [updF_ne (show Pt.be≠Pt.tr by simp),updF_ne (show Pt.ds≠Pt.be by simp),updF_ne (show Pt.ds≠Pt.tr by simp)] at h9
     have h10:PM w46 b (updF (updF (updF H .tr ⟨(H .tr).p,A,(H .tr).c⟩) .be ⟨(H .be).p,L,(H .be).c⟩) .ds ⟨(H .ds).p,L,(H .ds).c⟩)
      (((({s.set .va V with done:=min (min s.done A) ((s.R .ds).getD L 0).toNat}:PSt).set .tr ((({s.set .va V with done:=min (min s.done A) ((s.R .ds).getD L 0).toNat}:PSt).R .tr).take A)).set .be (((({s.set .va V with done:=min (min s.done A) ((s.R .ds).getD L 0).toNat}:PSt).set .tr ((({s.set .va V with done:=min (min s.done A) ((s.R .ds).getD L 0).toNat}:PSt).R .tr).take A)).R .be).take L)).set .ds ((((({s.set .va V with done:=min (min s.done A) ((s.R .ds).getD L 0).toNat}:PSt).set .tr ((({s.set .va V with done:=min (min s.done A) ((s.R .ds).getD L 0).toNat}:PSt).R .tr).take A)).set .be (((({s.set .va V with done:=min (min s.done A) ((s.R .ds).getD L 0).toNat}:PSt).set .tr ((({s.set .va V with done:=min (min s.done A) ((s.R .ds).getD L 0).toNat}:PSt).R .tr).take A)).R .be).take L)).R .ds).take L)):=h9
     rw [e1,e2,e3] at h10
     exact h10
   · by_cases a1:x= .ds
     · subst a1;rw [own_ne (by simp),updF_same] at hk;exact .inl ⟨.ds,hk⟩
     · rw [own_upd a1] at hk
       by_cases a2:x= .be
       · subst a2;rw [own_ne (by simp),updF_same] at hk;exact .inl ⟨.be,hk⟩
       · rw [own_upd a2] at hk
         by_cases a3:x= .tr
         · subst a3;rw [own_ne (by simp),updF_same] at hk;exact .inl ⟨.tr,hk⟩
         · rw [own_upd a3] at hk;exact .inl ⟨x,hk⟩
end
section
variable {w w' w0 w2 w3:World} {b:Nat} {H H' H2:Pt→Sl} {s t u s' T:PSt} {l x y:Int} {i:Nat}
def PSt.del (s:PSt) (i:Nat):PSt:= {(s.set (.a i) []).set (.l i) [] with gone:=fun k=>if k=i then true else s.gone k}
def PSt.drop (s:PSt) (i:Nat):PSt:=((unF i s ((s.R (.l i)).take 2)).set .lo ((s.R .lo).filter fun k=> !(k==(i:Int)))).del i
theorem drop_R (i:Nat) (y:Pt) (h1: ∀j,y≠ .w j) (h2:y≠ .lo) (h3:y≠ .a i) (h4:y≠ .l i):(s.drop i).R y=s.R y:=by
 show ((((unF i s ((s.R (.l i)).take 2)).set .lo _).set (.a i) []).set (.l i) []).R y=_
 rw [set_ne h4,set_ne h3,set_ne h2,unF_R _ h1]
theorem drop_there {k:Nat}:(s.drop i).There k↔s.There k∧k≠i:=by
 show (k< (unF i s _).nc∧(if k=i then true else (unF i s _).gone k)=false)↔_
 obtain ⟨_,u2,u3,_⟩:=unF_vars i ((s.R (.l i)).take 2) s
 rw [u2,u3]
 unfold PSt.There
 by_cases e:k=i
 · simp [e]
 · simp [e]
theorem drop_good (g:Good s) (hi:s.There i) (hr: ∀x∈s.R (.l i),¬(0<s.val x∧s.rea x=(i:Int))):Good (s.drop i):=by
 obtain ⟨u1,u2,u3,u4⟩:=unF_vars i ((s.R (.l i)).take 2) s
 have eR: ∀y,(∀j,y≠Pt.w j)→y≠ .lo→(∀k,y≠ .a k)→(∀k,y≠ .l k)→(s.drop i).R y=s.R y:=fun y h1 h2 h3 h4=>drop_R i y h1 h2 (h3 i) (h4 i)
 have el: ∀k,k≠i→(s.drop i).R (.l k)=s.R (.l k):=fun k hk=>drop_R i _ (by simp) (by simp) (by simp) (by simpa using hk)
 have ea: ∀k,k≠i→(s.drop i).R (.a k)=s.R (.a k):=fun k hk=>drop_R i _ (by simp) (by simp) (by simpa using hk) (by simp)
 have eai:(s.drop i).R (.a i)= []:=by unfold PSt.drop PSt.del;simp [PSt.set,updF]
 have elo:(s.drop i).R .lo=(s.R .lo).filter fun k=> !(k==(i:Int)):=by unfold PSt.drop PSt.del;simp [PSt.set,updF]
 have ewR: ∀j,(s.drop i).R (.w j)=(unF i s ((s.R (.l i)).take 2)).R (.w j):=fun j=>by unfold PSt.drop PSt.del;simp [PSt.set,updF]
 have ew: ∀j c,c∈(s.drop i).R (.w j)↔c∈s.R (.w j)∧c≠(i:Int):=fun j c=>by
  rw [ewR,unF_mem]
  constructor
  · rintro ⟨h1,h2|h2⟩
    · exact ⟨h1,h2⟩
    · refine ⟨h1,fun e=> ?_⟩
      subst e
      obtain ⟨q,e1,e2,x,hx,e3⟩:=g.w1 _ _ h1
      have:q=i:=by omega
      subst this
      exact h2 x hx e3
  · rintro ⟨h1,h2⟩;exact ⟨h1,.inl h2⟩
 have ewn: ∀j,((s.drop i).R (.w j)).Nodup:=fun j=>by
  rw [ewR]
  exact unF_nodup i j _ _ (g.w3 j)
 have evr:(s.drop i).vars=s.vars:=u1
 have enc:(s.drop i).nc=s.nc:=u2
 have edn:(s.drop i).done=s.done:=u4
 have eth: ∀k,(s.drop i).There k↔s.There k∧k≠i:=fun k=>drop_there
 generalize s.drop i=t at*
 have etr:=eR .tr (by simp) (by simp) (by simp) (by simp)
 have ebe:=eR .be (by simp) (by simp) (by simp) (by simp)
 have eds:=eR .ds (by simp) (by simp) (by simp) (by simp)
 have eva:=eR .va (by simp) (by simp) (by simp) (by simp)
 have ele:=eR .le (by simp) (by simp) (by simp) (by simp)
 have ere:=eR .re (by simp) (by simp) (by simp) (by simp)
 have ev: ∀x,t.val x=s.val x:=fun x=>val_eq eva x
 have elev: ∀x,t.lev x=s.lev x:=fun x=>by unfold PSt.lev;rw [ele]
 have erea: ∀x,t.rea x=s.rea x:=fun x=>by unfold PSt.rea;rw [ere]
 refine ⟨by rw [evr];exact g.vmax,by rw [enc];exact g.ncm,by rw [eva,evr];exact g.va,by rw [eva];exact g.vb,by rw [ele,evr];exact g.le,by rw [ere,evr];exact g.rl,by rw [etr,evr];exact g.tv,by rw [etr];exact g.nd,fun x hx=>by rw [ev,etr];exact g.v1 x (by rw [evr] at hx;exact hx),
  by rw [ebe,etr];exact g.bl,by rw [ebe];exact g.bs,by rw [eds,ebe];exact g.dl,by rw [ebe,eds];exact g.db,fun p hp=>by rw [etr] at hp ⊢;rw [elev,ebe];exact g.lv p hp,fun p hp hm=>by rw [etr] at hp ⊢;rw [erea];rw [ebe] at hm;exact g.re1 p hp hm,
  fun p hp hm=> ?_,by rw [edn,etr];exact g.dn,fun k hk x hx=> ?_,fun k hk=> ?_,fun k hk=> ?_,fun k hk x=> ?_,fun k=> ?_,fun j c hc=> ?_,fun k hk x hx=> ?_,ewn,fun c hc=> ?_,fun k hk h=> ?_,by rw [elo];exact g.o3.filter _,fun k hk h=> ?_,fun j hj k hk h=> ?_⟩
 · rw [etr] at hp ⊢
   rw [ebe] at hm
   obtain ⟨k,e1,e2,e3,e4⟩:=g.re2 p hp hm
   have hne:k≠i:=fun e=>by
    subst e
    refine hr _ e3 ⟨(g.vgt (g.cv k hi _ e3)).2 (getD_mem' hp),e1⟩
   exact ⟨k,by rw [erea];exact e1,(eth k).2 ⟨e2,hne⟩,by rw [el k hne];exact e3,fun x hx hn=>e4 x (by rw [el k hne] at hx;exact hx) hn⟩
 · obtain ⟨h1,h2⟩:=(eth k).1 hk
   rw [evr];exact g.cv k h1 x (by rw [el k h2] at hx;exact hx)
 · obtain ⟨h1,h2⟩:=(eth k).1 hk
   rw [el k h2];exact g.cn k h1
 · obtain ⟨h1,h2⟩:=(eth k).1 hk
   rw [el k h2];exact g.cl k h1
 · obtain ⟨h1,h2⟩:=(eth k).1 hk
   rw [el k h2,ea k h2];exact g.ca k h1 x
 · by_cases e:k=i
   · rw [e,eai];simp
   · rw [ea k e];exact g.al k
 · obtain ⟨h1,h2⟩:=(ew j c).1 hc
   obtain ⟨k,e1,e2,e3⟩:=g.w1 j c h1
   have hne:k≠i:=fun e=>h2 (by rw [e1,e])
   exact ⟨k,e1,(eth k).2 ⟨e2,hne⟩,by rw [el k hne];exact e3⟩
 · obtain ⟨h1,h2⟩:=(eth k).1 hk
   rw [el k h2] at hx
   exact (ew _ _).2 ⟨g.w2 k h1 x hx,fun e=>h2 (by omega)⟩
 · rw [elo,List.mem_filter] at hc
   obtain ⟨k,e1,e2⟩:=g.o1 c hc.1
   refine ⟨k,e1,(eth k).2 ⟨e2,fun e=> ?_⟩⟩
   have h2:=hc.2
   rw [e1,e] at h2
   simp at h2
 · obtain ⟨h1,h2⟩:=(eth k).1 hk
   rw [el k h2] at h
   rw [elo,List.mem_filter]
   refine ⟨g.o2 k h1 h,?_⟩
   simp
   omega
 · obtain ⟨h1,h2⟩:=(eth k).1 hk
   intro x hx y hy hne hm
   rw [el k h2] at hx hy
   rw [etr,edn] at hm
   rw [etr]
   refine g.wd k h1 (fun hlo=>h ?_) x hx y hy hne hm
   rw [elo,List.mem_filter]
   refine ⟨hlo,?_⟩
   simp
   omega
 · obtain ⟨h1,h2⟩:=(eth k).1 hk
   intro x hx y hy hne hm
   rw [el k h2] at hx hy
   rw [ebe] at hj
   rw [etr,eds] at hm
   rw [etr,ebe]
   refine g.wj j hj k h1 (fun hlo=>h ?_) x hx y hy hne hm
   rw [elo,List.mem_filter]
   refine ⟨hlo,?_⟩
   simp
   omega
theorem PM.setC (h:PM w b H s) {i:Nat} (hi:i<s.nc) {n:Nat} (hn:n=(H .c).n) {I:Int} (hI:I=i) {K:World→Prop}
 (hk: ∀w',PM w' b (updF (updF H (.a i) Sl.nil) (.l i) Sl.nil) (s.del i)→Mod (fun k=>blk (H .c).p=some k) w w'→K w'):
 ixK (H .c).p n I 3 fun a=> ∃w',StoreAt a 0 [.slice none 0 0,.slice none 0 0,.bool true] w w'∧K w':=by
 subst hI
 refine h.c.st ceEnc (x:=(Sl.nil,Sl.nil,true)) rfl rfl (by omega) (by rw [hn,h.cn,ces_len]) (by rw [hn,h.cn];omega) fun w' o m=>hk w' ?_ m
 rw [Int.toNat_natCast] at o
 have oth: ∀ {y:Pt} {k:Nat},y≠ .c→own b H y=some k→¬blk (H .c).p=some k:=fun hy hk=>h.other (x:= .c) (by simp) hy hk
 have hnil: ∀k,¬blk Sl.nil.p=some k:=fun k e=>by simp [blk,Sl.nil] at e
 have i1:=inj_upd' h.inj (x:= .a i) (by simp) (q:=Sl.nil) fun k e=>absurd e (hnil k)
 have i2:=inj_upd' i1 (x:= .l i) (by simp) (q:=Sl.nil) fun k e=>absurd e (hnil k)
 have eH: ∀y,y≠ .a i→y≠ .l i→updF (updF H (.a i) Sl.nil) (.l i) Sl.nil y=H y:=fun y h1 h2=>by rw [updF_ne h2,updF_ne h1]
 refine ⟨?_,?_,?_,?_,?_,fun y hy=> ?_,fun y hy=> ?_,i2⟩
 · have e:stC (s.del i) (updF (updF H (.a i) Sl.nil) (.l i) Sl.nil)=stC s H:=by simp [stC,PSt.del,PSt.set,updF]
   rw [e]
   exact h.st.keep m (oth (y:= .st) (by simp) rfl)
 · rw [eH .c (by simp) (by simp)]
   have e:ces (updF (updF H (.a i) Sl.nil) (.l i) Sl.nil) (s.del i).gone (s.del i).nc=(ces H s.gone s.nc).set i (Sl.nil,Sl.nil,true):=by
    apply List.ext_getElem?
    intro j
    simp only [ces,PSt.del,PSt.set,List.getElem?_map,List.getElem?_set,List.length_map,List.length_range]
    by_cases e:i=j
    · subst e
      simp [hi,ceOf,updF]
    · rw [if_neg e]
      by_cases hj:j<s.nc
      · simp [hj,ceOf,updF,Ne.symm e]
      · simp [hj]
   rw [e];exact o
 · rw [eH .c (by simp) (by simp)];exact h.cn
 · rw [eH .wa (by simp) (by simp)]
   have e:heads (updF (updF H (.a i) Sl.nil) (.l i) Sl.nil) (2* ((s.del i).vars+1))=heads H (2* (s.vars+1)):=by
    rw [heads_upd (by simp),heads_upd (by simp)];rfl
   rw [e]
   exact h.wa.keep m fun k hk=>oth (y:= .wa) (by simp) hk
 · rw [eH .wa (by simp) (by simp)];exact h.wn
 · by_cases e1:y= .l i
   · subst e1
     show Ow _ _ w' _ _ (((s.set (.a i) []).set (.l i) []).R (.l i))
     rw [updF_same,set_eq]
     exact Ow.nil _ _ _
   · by_cases e2:y= .a i
     · subst e2
       show Ow _ _ w' _ _ (((s.set (.a i) []).set (.l i) []).R (.a i))
       rw [updF_ne (by simp),updF_same,set_ne (by simp),set_eq]
       exact Ow.nil _ _ _
     · show Ow _ _ w' _ _ (((s.set (.a i) []).set (.l i) []).R y)
       rw [eH y e2 e1,set_ne e1,set_ne e2]
       exact (h.row y hy).keep m fun k hk=>oth (row_ne hy).2.1 (by rw [own_ne (row_ne hy).1];exact hk)
 · by_cases e1:y= .l i
   · subst e1
     show _=(((s.set (.a i) []).set (.l i) []).R (.l i)).length
     rw [updF_same,set_eq];rfl
   · by_cases e2:y= .a i
     · subst e2
       show _=(((s.set (.a i) []).set (.l i) []).R (.a i)).length
       rw [updF_ne (by simp),updF_same,set_ne (by simp),set_eq];rfl
     · show _=(((s.set (.a i) []).set (.l i) []).R y).length
       rw [eH y e2 e1,set_ne e1,set_ne e2];exact h.len y hy
theorem PSt.is_iff {i:Int}:s.is i=true↔0≤i∧s.There i.toNat:=by
 unfold PSt.is PSt.There
 simp only [Bool.and_eq_true,decide_eq_true_eq,Bool.not_eq_true']
 constructor
 · rintro ⟨⟨h1,h2⟩,h3⟩;exact ⟨h1,by omega,h3⟩
 · rintro ⟨h1,h2,h3⟩;exact ⟨⟨h1,by omega⟩,h3⟩
def Rsn (s:PSt) (i:Nat):Prop:= ∃x∈s.R (.l i),0<s.val x∧s.rea x=(i:Int)
theorem drop_ok (h:PM w b H s) (g:Good s) (i:Int):Calls prog prop_Prop_Drop.id #[ptrV b,.int .i64 i] w fun e w'=> ∃r:Int,e= .returned (.int .i64 r)∧∃H',
 ((r=4∧s.is i=false∧Pw w w' b H H' s)∨(r=7∧s.is i=true∧Rsn s i.toNat∧Pw w w' b H H' s)∨(r=0∧s.is i=true∧¬Rsn s i.toNat∧Pw w w' b H H' (s.drop i.toNat))):=by
 refine prop_Prop_Drop.calls ?_
 intro n1 w1 h1
 have hA:=h.grow h1.mod
 have e1:=h1.num
 have hnot: ∀x,¬own b H x=some n1:=fun x e=>by have:=h.lt x n1 e;omega
 refine ⟨_,cell_of h1.has rfl,(there_ok hA i).mono ?_⟩
 rintro e w4 ⟨rfl,rfl⟩
 refine ⟨_,rfl,?_⟩
 cases hi:s.is i with
 |false=>exact cnd_t rfl ⟨_,rfl,H,.inl ⟨rfl,rfl,Pw.refl hA h1.mod⟩⟩
 |true=>
  obtain ⟨i0,hth⟩:=PSt.is_iff.1 hi
  obtain ⟨j,rfl⟩: ∃j:Nat,i=j:=⟨i.toNat,by omega⟩
  rw [Int.toNat_natCast] at hth ⊢
  have hD:=hA.drew
  have hl4:=g.cl j hth
  have k:=g.wf
  refine cnd_f rfl ⟨_,rfl,_,_,_,cell_add hD.st rfl,_,cell_of h1.has.drew rfl,hD.cIx hth.1 rfl rfl fun a9 hc9=> ⟨_,_,_,hc9.get 1 _ rfl,?_⟩⟩
  have hln:=h.len (.l j) rfl
  rw [hln]
  refine ⟨fun V u m=> ∃v:Nat,V=v∧v≤(s.R (.l j)).length∧m=(s.R (.l j)).length - v∧Grow w4 u∧∀q,q<v→¬(0<s.val ((s.R (.l j)).getD q 0)∧s.rea ((s.R (.l j)).getD q 0)=(j:Int)),⟨_,0,rfl,Nat.zero_le _,rfl,(Mod.refl _).drew,fun q hq=>by omega⟩,?_⟩
  rintro V w15 m _ ⟨v,rfl,hv,rfl,g15,hall⟩
  have h15:=hA.grow g15
  have hb15:=h1.has.grow g15
  refine cnd_i (fun r2=> ?_) (fun r2=> ?_)
  · have r2:v< (s.R (.l j)).length:=by simpa using r2
    have hxm:=getD_mem' r2
    refine h15.rIx' (x:= .l j) rfl (by omega) (by omega) (by omega) fun a16 _ hc16=> ⟨_,hc16,?_⟩
    rw [Int.toNat_natCast]
    have step: ∀ {u:World},Grow w4 u→¬(0<s.val ((s.R (.l j)).getD v 0)∧s.rea ((s.R (.l j)).getD v 0)=(j:Int))→∃k13,k13< (s.R (.l j)).length - v∧∃v':Nat,IntKind.i64.wrap ((v:Int)+1)=v'∧v'≤(s.R (.l j)).length∧k13=(s.R (.l j)).length - v'∧Grow w4 u∧∀q,q<v'→¬(0<s.val ((s.R (.l j)).getD q 0)∧s.rea ((s.R (.l j)).getD q 0)=(j:Int)):=by
     intro u gu hno
     refine ⟨_,?_,v+1,wN (by omega) (by omega),by omega,rfl,gu,fun q hq=> ?_⟩
     · omega
     · by_cases e:q=v
       · rw [e];exact hno
       · exact hall q (by omega)
    generalize (s.R (.l j)).getD v 0=X at*
    have hxv:=g.cv j hth X hxm
    have hxa:=hxv.amt
    have hD:=h15.drew
    refine ⟨(·=w15.drew),rfl,(val_ok hD k hxv).mono ?_⟩
    rintro e w19 ⟨rfl,rfl⟩
    refine ⟨_,rfl,rfl,cnd_i (fun r3=> ?_) (fun r3=>step g15.drew fun hh=> ?_)⟩
    · have r3:0<s.val X:=by simpa using r3
      refine ⟨_,rfl,_,_,_,atW_eq (cell_add hD.st rfl),(pamount_ok (hxv.bd g.vmax) _).mono ?_⟩
      rintro e w23 ⟨rfl,rfl⟩
      refine ⟨_,rfl,rfl,hD.rIx (x:= .re) rfl (by omega) rfl (by rw [g.rl];omega) fun a25 _ hc25=> ⟨_,atW_eq hc25,_,atW_eq (cell_of hb15.drew rfl),cnd_i (fun r4=> ?_) (fun r4=>step g15.drew fun hh=> ?_)⟩⟩
      · have r4:s.rea X=(j:Int):=beq_iff_eq.1 r4
        exact ⟨_,rfl,H,.inr (.inl ⟨rfl,rfl,⟨X,hxm,r3,r4⟩,Pw.refl hD (h1.mod.trans g15.drew)⟩)⟩
      · have r4: ¬s.rea X=(j:Int):=fun e=>by
         have e2:Pt.re.f ((s.R .re).getD (amt X).toNat 0)= .int .i64 (j:Int):=congrArg _ e
         have e3:(s.R .re).getD (amt X).toNat 0=(j:Int):=e
         rw [e3] at r4;simp at r4
        exact r4 hh.2
    · have r3: ¬0<s.val X:=by simpa using r3
      exact r3 hh.1
  · have r2:v=(s.R (.l j)).length:=by simp at r2;omega
    subst r2
    have hno: ∀x∈s.R (.l j),¬(0<s.val x∧s.rea x=(j:Int)):=fun x hx=>by
     obtain ⟨q,hq,e⟩:=List.mem_iff_getElem.1 hx
     have:=hall q hq
     simp only [List.getD,List.getElem?_eq_getElem hq,Option.getD_some,e] at this
     exact this
    refine ⟨_,cell_of hb15 rfl,(unwatch_ok h15 g.vmax hth.1 (g.cv j hth) (by omega) fun q=>by have:=g.wl q;omega).mono ?_⟩
    rintro e w29 ⟨rfl,H2,P29,kh⟩
    have h29:=P29.pm
    have hb29:=hb15.keep P29.mod fun ⟨x,e⟩=>hnot x e
    have eHlo:H2 .lo=H .lo:=kh _ (by simp)
    have eRlo:(unF j s ((s.R (.l j)).take 2)).R .lo=s.R .lo:=unF_R _ (by simp) _ _
    have nlo: ¬blk (H2 .lo).p=some n1:=fun e=>by rw [eHlo] at e;exact hnot .lo e
    have hlob:=g.lol
    refine ⟨rfl,_,rfl,_,_,_,cell_add h29.st rfl,(delete_ok (h29.row .lo rfl) (h29.len .lo rfl) (by rw [h29.len .lo rfl,eRlo];omega) same2_ent (fun x=>x==(j:Int)) fun x _ w' m=> ?_).mono ?_⟩
    · rw [args2w]
      exact same2 (hb29.keep m nlo) x
    rintro e w32 ⟨rfl,o32,m32⟩
    rw [eRlo] at o32 ⊢
    refine ⟨_,_,_,rfl,_,rfl,h29.head (x:= .lo) rfl o32 (h29.but rfl m32) (fun k hk=> .inl hk) rfl fun w35 h35 m35=> ?_⟩
    have P35:=P29.trans (Pw.head (x:= .lo) (z:= .st) (by simp) h35 m32 (m35.mono fun k _ e=>by rw [e];rfl) fun k hk=> .inl hk)
    have hb35:Has w35 n1 #[.int .i64 (j:Int)]:=hb15.keep P35.mod fun ⟨x,e⟩=>hnot x e
    have hE:=h35.drew
    refine ⟨_,rfl,_,_,_,cell_add hE.st rfl,_,cell_of hb35.drew rfl,?_⟩
    have nc2:(unF j s ((s.R (.l j)).take 2)).nc=s.nc:=(unF_vars j _ _).2.1
    refine hE.setC (i:=j) (by show j< (unF j s ((s.R (.l j)).take 2)).nc;rw [nc2];exact hth.1) rfl rfl fun w40 h40 m40=> ?_
    refine ⟨_,rfl,updF (updF (updF H2 .lo ⟨(H2 .lo).p,((s.R .lo).filter fun x=> !(x==(j:Int))).length,(H2 .lo).c⟩) (.a j) Sl.nil) (.l j) Sl.nil,.inr (.inr ⟨rfl,rfl,fun ⟨x,hx,h⟩=>hno x hx h,?_⟩)⟩
    refine ((P35.drew).trans ⟨h40,m40.mono fun k _ e=> ⟨.c,e⟩,fun x k hk=> .inl ⟨x,?_⟩⟩).pre (h1.mod.trans g15)
    by_cases a1:x= .l j
    · subst a1;rw [own_ne (by simp),updF_same] at hk;simp [blk,Sl.nil] at hk
    · rw [own_upd a1] at hk
      by_cases a2:x= .a j
      · subst a2;rw [own_ne (by simp),updF_same] at hk;simp [blk,Sl.nil] at hk
      · rw [own_upd a2] at hk;exact hk
end
section
variable {w w' w0 w1 w2 w3:World} {b:Nat} {H H' H2:Pt→Sl} {s t u s' T:PSt} {l x y:Int} {i:Nat}
def PSt.addC (s:PSt) (c m:List Int):PSt:= {(s.set (.a s.nc) c).set (.l s.nc) m with nc:=s.nc+1,gone:=fun k=>if k=s.nc then false else s.gone k}
structure Added (s:PSt) (c:List Int) (s':PSt):Prop where
 v:s'.vars=s.vars
 n:s'.nc=s.nc+1
 g: ∀i,s'.gone i=if i=s.nc then false else s.gone i
 a: ∀i,s'.R (.a i)=if i=s.nc then c else s.R (.a i)
 tr:s'.R .tr=s.R .tr
 be:s'.R .be=s.R .be
theorem addC_R {c m:List Int} {y:Pt} (h1:y≠ .a s.nc) (h2:y≠ .l s.nc):(s.addC c m).R y=s.R y:=by
 show ((s.set (.a s.nc) c).set (.l s.nc) m).R y=_
 rw [set_ne h2,set_ne h1]
theorem addC_l {c m:List Int}:(s.addC c m).R (.l s.nc)=m:=by
 show ((s.set (.a s.nc) c).set (.l s.nc) m).R _=_
 rw [set_eq]
theorem addC_a {c m:List Int}:(s.addC c m).R (.a s.nc)=c:=by
 show ((s.set (.a s.nc) c).set (.l s.nc) m).R (.a s.nc)=_
 rw [set_ne (by simp),set_eq]
theorem add_good (g:Good s) (hn:s.nc<262144) {c m l':List Int} (hv: ∀x∈m,InV s.vars x) (hd:m.Nodup) (hl:m.length≤4096) (hm: ∀x,x∈m↔x∈c) (hc:c.length≤4096) (pm:l'.Perm m) (hb:Best s.rk 2 l'):
 Good (settleS (s.addC c m) s.nc l')∧Added s c (settleS (s.addC c m) s.nc l'):=by
 obtain ⟨u,hu⟩: ∃u,u=wF (s.nc:Int) ((s.addC c m).set (.l s.nc) l') (l'.take 2):=⟨_,rfl⟩
 obtain ⟨d1,d2,d3,d4⟩:=wF_vars (s.nc:Int) (l'.take 2) ((s.addC c m).set (.l s.nc) l')
 rw [← hu] at d1 d2 d3 d4
 have eva0:(s.addC c m).R .va=s.R .va:=addC_R (by simp) (by simp)
 have ev0: ∀x,(s.addC c m).val x=s.val x:=fun x=>val_eq eva0 x
 obtain ⟨t,ht⟩: ∃t,t=settleS (s.addC c m) s.nc l':=⟨_,rfl⟩
 have hlo0:(s.addC c m).R .lo=s.R .lo:=addC_R (by simp) (by simp)
 have tt:t=if l'.length<2∨s.val (l'.getD 1 0)<0 then u.set .lo (s.R .lo++ [(s.nc:Int)]) else u:=by
  rw [ht,hu]
  unfold settleS
  simp only [hlo0,ev0]
 have uR: ∀y,(∀j,y≠Pt.w j)→y≠ .a s.nc→y≠ .l s.nc→u.R y=s.R y:=fun y h1 h2 h3=>by rw [hu,wF_R _ h1,set_ne h3,addC_R h2 h3]
 have tR: ∀y,y≠ .lo→t.R y=u.R y:=fun y hy=>by
  rw [tt];split
  · exact set_ne hy
  · rfl
 have eR: ∀y,(∀j,y≠Pt.w j)→y≠ .lo→y≠ .a s.nc→y≠ .l s.nc→t.R y=s.R y:=fun y h1 h2 h3 h4=> (tR y h2).trans (uR y h1 h3 h4)
 have el: ∀k,t.R (.l k)=if k=s.nc then l' else s.R (.l k):=fun k=>by
  rw [tR _ (by simp)]
  by_cases e:k=s.nc
  · rw [if_pos e,e,hu,wF_R _ (by simp),set_eq]
  · rw [if_neg e];exact uR _ (by simp) (by simp) (by simpa using e)
 have ea: ∀k,t.R (.a k)=if k=s.nc then c else s.R (.a k):=fun k=>by
  rw [tR _ (by simp)]
  by_cases e:k=s.nc
  · rw [if_pos e,e,hu,wF_R _ (by simp),set_ne (by simp),addC_a]
  · rw [if_neg e];exact uR _ (by simp) (by simpa using e) (by simp)
 have ew: ∀j q,q∈t.R (.w j)↔q∈s.R (.w j)∨(q=(s.nc:Int)∧∃x∈l'.take 2,sideN x=j):=fun j q=>by
  rw [tR _ (by simp),hu,wF_mem,set_ne (by simp),addC_R (by simp) (by simp)]
 have ln: ∀j q,q∈s.R (.w j)→q≠(s.nc:Int):=fun j q hq e=>by
  obtain ⟨k,e1,⟨e2,_⟩,_⟩:=g.w1 j q hq
  omega
 have ewn: ∀j,(t.R (.w j)).Nodup:=fun j=>by
  rw [tR _ (by simp),hu]
  refine wF_nodup _ j _ _ (take2_nodup (pm.nodup_iff.2 hd)) (by rw [set_ne (by simp),addC_R (by simp) (by simp)];exact g.w3 j) fun _=> ?_
  rw [set_ne (by simp),addC_R (by simp) (by simp)]
  exact fun h=>ln j _ h rfl
 have ulo:u.R .lo=s.R .lo:=uR _ (by simp) (by simp) (by simp)
 have lolt: ∀q∈s.R .lo,q≠(s.nc:Int):=fun q hq e=>by
  obtain ⟨k,e1,⟨e2,_⟩⟩:=g.o1 q hq
  omega
 have elo: ∀q,q∈t.R .lo↔q∈s.R .lo∨(q=(s.nc:Int)∧(l'.length<2∨s.val (l'.getD 1 0)<0)):=fun q=>by
  rw [tt];split
  · rename_i h;rw [set_eq,List.mem_append,List.mem_singleton]
    exact ⟨fun h2=>h2.imp id fun e=> ⟨e,h⟩,fun h2=>h2.imp id fun e=>e.1⟩
  · rename_i h;rw [ulo]
    exact ⟨fun h2=> .inl h2,fun h2=>h2.elim id fun e=>absurd e.2 h⟩
 have elon:(t.R .lo).Nodup:=by
  rw [tt];split
  · rw [set_eq];exact nodup_snoc g.o3 fun h=>lolt _ h rfl
  · rw [ulo];exact g.o3
 have tv:t.vars=s.vars∧t.nc=s.nc+1∧t.gone=(fun k=>if k=s.nc then false else s.gone k)∧t.done=s.done:=by
  rw [tt];split
  · exact ⟨d1,d2,d3,d4⟩
  · exact ⟨d1,d2,d3,d4⟩
 rw [← ht]
 clear ht tt tR uR ulo hu d1 d2 d3 d4
 obtain ⟨evr,enc,egn,edn⟩:=tv
 have eth: ∀k,t.There k↔s.There k∨k=s.nc:=fun k=>by
  show (k<t.nc∧t.gone k=false)↔_
  rw [enc,egn]
  unfold PSt.There
  by_cases e:k=s.nc
  · simp [e]
  · simp only [if_neg e]
    constructor
    · rintro ⟨h1,h2⟩;exact .inl ⟨by omega,h2⟩
    · rintro (⟨h1,h2⟩|h)
      · exact ⟨by omega,h2⟩
      · exact absurd h e
 have ne: ∀k,s.There k→k≠s.nc:=fun k hk e=>by have:=hk.1;omega
 have etr:=eR .tr (by simp) (by simp) (by simp) (by simp)
 have ebe:=eR .be (by simp) (by simp) (by simp) (by simp)
 have eds:=eR .ds (by simp) (by simp) (by simp) (by simp)
 have eva:=eR .va (by simp) (by simp) (by simp) (by simp)
 have ele:=eR .le (by simp) (by simp) (by simp) (by simp)
 have ere:=eR .re (by simp) (by simp) (by simp) (by simp)
 have ev: ∀x,t.val x=s.val x:=fun x=>val_eq eva x
 have elev: ∀x,t.lev x=s.lev x:=fun x=>by unfold PSt.lev;rw [ele]
 have erea: ∀x,t.rea x=s.rea x:=fun x=>by unfold PSt.rea;rw [ere]
 have hin: ∀x∈l',InV s.vars x:=fun x hx=>hv x (pm.mem_iff.1 hx)
 have free: ¬(l'.length<2∨s.val (l'.getD 1 0)<0)→∀x∈l'.take 2,-x ∉ s.R .tr:=fun h x hx e=>by
  have h1:2≤l'.length:=by omega
  have h2:0≤s.val (l'.getD 1 0):=by omega
  have hxl:=List.mem_of_mem_take hx
  have hlt:=(g.vlt (hin x hxl)).2 e
  rcases take2_mem.1 hx with ⟨_,e3⟩| ⟨_,e3⟩
  · have:=hb 0 (by omega) 1 (by omega) (by omega)
    have hl:=g.levb (hin x hxl) hlt
    rw [e3] at hlt hl
    unfold PSt.rk at this
    rw [if_pos (show s.val (l'.getD 1 0)≥0 from h2),if_neg (show ¬s.val (l'.getD 0 0)≥0 by omega)] at this
    omega
  · rw [e3] at hlt;omega
 refine ⟨⟨by rw [evr];exact g.vmax,by omega,by rw [eva,evr];exact g.va,by rw [eva];exact g.vb,by rw [ele,evr];exact g.le,by rw [ere,evr];exact g.rl,by rw [etr,evr];exact g.tv,by rw [etr];exact g.nd,fun x hx=>by rw [ev,etr];exact g.v1 x (by rw [evr] at hx;exact hx),
  by rw [ebe,etr];exact g.bl,by rw [ebe];exact g.bs,by rw [eds,ebe];exact g.dl,by rw [ebe,eds];exact g.db,fun p hp=>by rw [etr] at hp ⊢;rw [elev,ebe];exact g.lv p hp,fun p hp hm=>by rw [etr] at hp ⊢;rw [erea];rw [ebe] at hm;exact g.re1 p hp hm,
  fun p hp hm=> ?_,by rw [edn,etr];exact g.dn,fun k hk x hx=> ?_,fun k hk=> ?_,fun k hk=> ?_,fun k hk x=> ?_,fun k=> ?_,fun j q hq=> ?_,fun k hk x hx=> ?_,ewn,fun q hq=> ?_,fun k hk h=> ?_,elon,fun k hk h=> ?_,fun j hj k hk h=> ?_⟩,
  ⟨evr,enc,fun k=>by rw [egn],ea,etr,ebe⟩⟩
 · rw [etr] at hp ⊢
   rw [ebe] at hm
   obtain ⟨k,e1,e2,e3,e4⟩:=g.re2 p hp hm
   have hne:=ne k e2
   exact ⟨k,by rw [erea];exact e1,(eth k).2 (.inl e2),by rw [el,if_neg hne];exact e3,fun x hx hn=>e4 x (by rw [el,if_neg hne] at hx;exact hx) hn⟩
 · rw [evr];rw [el] at hx
   rcases (eth k).1 hk with h|h
   · rw [if_neg (ne k h)] at hx;exact g.cv k h x hx
   · rw [if_pos h] at hx;exact hin x hx
 · rw [el]
   rcases (eth k).1 hk with h|h
   · rw [if_neg (ne k h)];exact g.cn k h
   · rw [if_pos h];exact pm.nodup_iff.2 hd
 · rw [el]
   rcases (eth k).1 hk with h|h
   · rw [if_neg (ne k h)];exact g.cl k h
   · rw [if_pos h,pm.length_eq];exact hl
 · rw [el,ea]
   rcases (eth k).1 hk with h|h
   · rw [if_neg (ne k h),if_neg (ne k h)];exact g.ca k h x
   · rw [if_pos h,if_pos h,pm.mem_iff];exact hm x
 · rw [ea];split
   · exact hc
   · exact g.al k
 · rcases (ew j q).1 hq with h| ⟨e1,x,hx,e3⟩
   · obtain ⟨k,e1,e2,x,hx,e3⟩:=g.w1 j q h
     exact ⟨k,e1,(eth k).2 (.inl e2),x,by rw [el,if_neg (ne k e2)];exact hx,e3⟩
   · exact ⟨s.nc,e1,(eth _).2 (.inr rfl),x,by rw [el,if_pos rfl];exact hx,e3⟩
 · rw [el] at hx
   rw [ew]
   rcases (eth k).1 hk with h|h
   · rw [if_neg (ne k h)] at hx;exact .inl (g.w2 k h x hx)
   · rw [if_pos h] at hx;exact .inr ⟨by rw [h],x,hx,rfl⟩
 · rcases (elo q).1 hq with h| ⟨e1,_⟩
   · obtain ⟨k,e1,e2⟩:=g.o1 q h
     exact ⟨k,e1,(eth k).2 (.inl e2)⟩
   · exact ⟨s.nc,e1,(eth _).2 (.inr rfl)⟩
 · rw [el] at h
   rw [elo]
   rcases (eth k).1 hk with h2|h2
   · rw [if_neg (ne k h2)] at h;exact .inl (g.o2 k h2 h)
   · rw [if_pos h2] at h;exact .inr ⟨by rw [h2],.inl h⟩
 · intro x hx y hy hne hmm
   rw [etr,edn] at hmm
   rw [etr]
   rw [el] at hx hy
   rcases (eth k).1 hk with h2|h2
   · rw [if_neg (ne k h2)] at hx hy
     exact g.wd k h2 (fun h3=>h ((elo _).2 (.inl h3))) x hx y hy hne hmm
   · rw [if_pos h2] at hx
     exact absurd (List.mem_of_mem_take hmm) (free (fun h3=>h ((elo _).2 (.inr ⟨by rw [h2],h3⟩))) x hx)
 · intro x hx y hy hne hmm
   rw [ebe] at hj
   rw [etr,eds] at hmm
   rw [etr,ebe]
   rw [el] at hx hy
   rcases (eth k).1 hk with h2|h2
   · rw [if_neg (ne k h2)] at hx hy
     exact g.wj j hj k h2 (fun h3=>h ((elo _).2 (.inl h3))) x hx y hy hne hmm
   · rw [if_pos h2] at hx
     exact absurd (List.mem_of_mem_take hmm) (free (fun h3=>h ((elo _).2 (.inr ⟨by rw [h2],h3⟩))) x hx)
theorem sl_clause:slOkN prog ty_sl_prop_clause ty_prop_clause 3 56=true:=by kernel_rfl
theorem PM.addC (h:PM w0 b H s) (g1:Grow w0 w1) {A L:Sl} {c m:List Int} (oA:OwI ty_int w1 A.p A.c c) (oL:OwI ty_int w1 L.p L.c m) (nA:A.n=c.length) (nL:L.n=m.length)
 (fA: ∀k,blk A.p=some k→w0.heap.size≤k) (fL: ∀k,blk L.p=some k→w0.heap.size≤k) (dAL: ∀k,blk A.p=some k→blk L.p≠some k) {n27:Nat} (hb:Has w1 n27 #[A.v,L.v,.bool false]) (hn:s.nc≤262144) {K:World→Prop}
 (hk: ∀w3 H',Pw w0 w3 b H H' (s.addC c m)→K w3):
 ∃w2,∃ (p':Option Addr) (n' c':Nat),(Builtin.append_ #[ty_sl_prop_clause,ty_sl_prop_clause] ty_sl_prop_clause #[.slice (H .c).p (H .c).n (H .c).c,.slice (some (Addr.mk n27 0 none)) 1 1]).run prog w1= .ok (.slice p' n' c') w2∧
  Mod (fun k=>blk (H .c).p=some k) w1 w2∧∃w3,StoreAt ((Addr.mk b 0 none).add 1) 0 [.slice p' n' c'] w2 w3∧K w3:=by
 have h1:=h.grow g1
 have vr:Vr 3 ceE w1 (some ⟨n27,0,none⟩) [((A,L,false):Ce)]:=by
  intro j hj
  have hj:j=0:=by simpa using hj
  subst hj
  refine ⟨_,rfl,?_⟩
  rw [Nat.zero_mul,add_at]
  exact ⟨cell_add hb rfl,cell_add hb rfl,cell_add hb rfl,trivial⟩
 refine h1.c.app ceEnc sl_clause vr (by rw [h.cn,ces_len]) rfl (by rw [ces_len];simp;omega) fun w2 p' c' o2 m2 hp2 hs2=> ?_
 have M2:Mod (fun k=>blk (H .c).p=some k) w0 w2:=(g1.mono fun _ _ e=>e.elim).trans m2
 refine ⟨m2,?_⟩
 have z1:=g1.size
 have oth: ∀ {y:Pt} {k:Nat},y≠ .c→own b H y=some k→¬blk (H .c).p=some k:=fun hy hk=>h.other (x:= .c) (by simp) hy hk
 have f2: ∀k,blk p'=some k→blk (H .c).p=some k∨w1.heap.size≤k:=fun k hk=>by
  rcases hp2 with rfl|rfl
  · exact .inl hk
  · have:=blk_some hk;exact .inr (by omega)
 have bst: ∀ {k:Nat},w0.heap.size≤k→k≠b:=fun hk e=>by have:=h.lt .st b rfl;omega
 have stw:Has w2 b (stC s H):=h.st.keep M2 (oth (y:= .st) (by simp) rfl)
 have i1:=inj_upd' h.inj (x:= .a s.nc) (by simp) (q:=A) fun k e=> .inr (h.fresh (fA k e))
 have i2:=inj_upd' i1 (x:= .l s.nc) (by simp) (q:=L) fun k e=> .inr fun y e2=>by
  by_cases ey:y= .a s.nc
  · subst ey
    rw [own_ne (by simp),updF_same] at e2
    exact dAL k e2 e
  · rw [own_upd ey] at e2
    exact h.fresh (fL k e) y e2
 have i3:=inj_upd' i2 (x:= .c) (by simp) (q:=⟨p',s.nc+1,c'⟩) fun k e=>by
  rw [updF_ne (by simp),updF_ne (by simp)]
  rcases f2 k e with e3|e3
  · exact .inl e3
  · refine .inr fun y e2=> ?_
    by_cases ey:y= .l s.nc
    · subst ey
      rw [own_ne (by simp),updF_same] at e2
      have:=oL.lt k e2;omega
    · rw [own_upd ey] at e2
      by_cases ey2:y= .a s.nc
      · subst ey2
        rw [own_ne (by simp),updF_same] at e2
        have:=oA.lt k e2;omega
      · rw [own_upd ey2] at e2
        have:=h.lt y k e2;omega
 have eH: ∀y,y≠ .a s.nc→y≠ .l s.nc→y≠ .c→updF (updF (updF H (.a s.nc) A) (.l s.nc) L) .c ⟨p',s.nc+1,c'⟩ y=H y:=fun y a1 a2 a3=>by rw [updF_ne a3,updF_ne a2,updF_ne a1]
 have eA:updF (updF (updF H (.a s.nc) A) (.l s.nc) L) .c ⟨p',s.nc+1,c'⟩ (.a s.nc)=A:=by rw [updF_ne (by simp),updF_ne (by simp),updF_same]
 have eL:updF (updF (updF H (.a s.nc) A) (.l s.nc) L) .c ⟨p',s.nc+1,c'⟩ (.l s.nc)=L:=by rw [updF_ne (by simp),updF_same]
 have en:(ces H s.gone s.nc++ [((A,L,false):Ce)]).length=s.nc+1:=by simp [ces_len]
 rw [en]
 refine store_f (k:=1) (i:=0) stw rfl rfl fun w3 h3 m3=>hk w3 (updF (updF (updF H (.a s.nc) A) (.l s.nc) L) .c ⟨p',s.nc+1,c'⟩) ⟨⟨?_,?_,?_,?_,?_,fun y hy=> ?_,fun y hy=> ?_,i3⟩,?_,fun y k e=> ?_⟩
 · have e:stC (s.addC c m) (updF (updF (updF H (.a s.nc) A) (.l s.nc) L) .c ⟨p',s.nc+1,c'⟩)=wr (stC s H) (0+1+0) [.slice p' (s.nc+1) c']:=by
    simp [wr,stC,PSt.addC,PSt.set,updF,Sl.v]
   rw [e];exact h3
 · rw [updF_same]
   have e:ces (updF (updF (updF H (.a s.nc) A) (.l s.nc) L) .c ⟨p',s.nc+1,c'⟩) (s.addC c m).gone (s.addC c m).nc=ces H s.gone s.nc++ [((A,L,false):Ce)]:=by
    apply List.ext_getElem?
    intro j
    simp only [ces,PSt.addC,PSt.set,List.getElem?_map,List.getElem?_append,List.length_map,List.length_range]
    by_cases hj:j<s.nc
    · have hne:j≠s.nc:=by omega
      simp [hj,show j<s.nc+1 by omega,ceOf,updF,hne]
    · rw [if_neg hj]
      by_cases e:j=s.nc
      · subst e;simp [ceOf,updF]
      · have: ¬j<s.nc+1:=by omega
        simp [this]
        omega
   rw [e]
   exact o2.keep m3 fun k hk e=>by
    rcases f2 k hk with e3|e3
    · exact oth (y:= .st) (by simp) (k:=k) (by rw [e];rfl) e3
    · exact bst (by omega) e
 · rw [updF_same];rfl
 · rw [eH .wa (by simp) (by simp) (by simp)]
   have e:heads (updF (updF (updF H (.a s.nc) A) (.l s.nc) L) .c ⟨p',s.nc+1,c'⟩) (2* ((s.addC c m).vars+1))=heads H (2* (s.vars+1)):=by
    rw [heads_upd (by simp),heads_upd (by simp),heads_upd (by simp)];rfl
   rw [e]
   exact (h.wa.keep M2 fun k hk=>oth (y:= .wa) (by simp) hk).keep m3 fun k hk e=>by
    have:=h.inj .wa .st k hk (by rw [e];rfl);cases this
 · rw [eH .wa (by simp) (by simp) (by simp)];exact h.wn
 · have kp: ∀ {T2:TypeId} {f:Int→Value} {q:Sl} {l:List Int},Ow f T2 w1 q.p q.c l→(∀k,blk q.p=some k→w0.heap.size≤k)→Ow f T2 w3 q.p q.c l:=fun o hf=> (o.keep m2 fun k hk e=>by
    have:=h.lt .c k e;have:=hf k hk;omega).keep m3 fun k hk e=>bst (hf k hk) e
   by_cases a1:y= .a s.nc
   · subst a1;rw [eA,addC_a];exact kp oA fA
   · by_cases a2:y= .l s.nc
     · subst a2;rw [eL,addC_l];exact kp oL fL
     · rw [eH y a1 a2 (row_ne hy).2.1,addC_R a1 a2]
       exact ((h.row y hy).keep M2 fun k hk=>oth (row_ne hy).2.1 (by rw [own_ne (row_ne hy).1];exact hk)).keep m3 fun k hk e=>by
        have:=h.inj y .st k (by rw [own_ne (row_ne hy).1];exact hk) (by rw [e];rfl)
        exact (row_ne hy).1 this
 · by_cases a1:y= .a s.nc
   · subst a1;rw [eA,addC_a];exact nA
   · by_cases a2:y= .l s.nc
     · subst a2;rw [eL,addC_l];exact nL
     · rw [eH y a1 a2 (row_ne hy).2.1,addC_R a1 a2];exact h.len y hy
 · exact (M2.mono fun k _ e=> ⟨.c,e⟩).trans (m3.mono fun k _ e=> ⟨.st,by rw [e];rfl⟩)
 · by_cases a3:y= .c
   · subst a3
     rw [own_ne (by simp),updF_same] at e
     rcases f2 k e with e3|e3
     · exact .inl ⟨.c,e3⟩
     · exact .inr (by omega)
   · rw [own_upd a3] at e
     by_cases a2:y= .l s.nc
     · subst a2;rw [own_ne (by simp),updF_same] at e;exact .inr (fL k e)
     · rw [own_upd a2] at e
       by_cases a1:y= .a s.nc
       · subst a1;rw [own_ne (by simp),updF_same] at e;exact .inr (fA k e)
       · rw [own_upd a1] at e;exact .inl ⟨y,e⟩
end
section
variable {w w' w0 w1 w2 w3:World} {b:Nat} {H H' H2:Pt→Sl} {s t u s' T:PSt} {l x y:Int} {i:Nat}
def okC (n:Nat) (c:List Int):Bool:=clB c && c.all (isB n)
theorem any_nall {p:Int→Bool}: ∀c:List Int,c.any (fun x=> !p x)= !c.all p
 | []=>rfl
 |a::l=>by rw [List.any_cons,List.all_cons,any_nall l];cases p a<;>rfl
theorem addC_wf (k:Wf s) (hn:s.nc<262144) {c m:List Int}:Wf (s.addC c m):=by
 have e: ∀y,(∀i,y≠Pt.a i)→(∀i,y≠Pt.l i)→(s.addC c m).R y=s.R y:=fun y h1 h2=>addC_R (h1 _) (h2 _)
 exact ⟨k.vmax,by rw [e _ (by simp) (by simp)];exact k.va,by rw [e _ (by simp) (by simp)];exact k.vb,by rw [e _ (by simp) (by simp)];exact k.le,by rw [e _ (by simp) (by simp)];exact k.re,by rw [e _ (by simp) (by simp)];exact k.be,by rw [e _ (by simp) (by simp)];exact k.tr,hn⟩
theorem add_ok (h:PM w b H s) (g:Good s) {cp:Option Addr} {n cc:Nat} {c:List Int} (hc:Vw (Value.int .i64) w cp c) (hn:n=c.length) (hx:n≤maxLen):
 Calls prog prop_Prop_Add.id #[ptrV b,.slice cp n cc] w fun e w'=> ∃r1 r2:Int,e= .returned (.tuple #[.int .i64 r1,.int .i64 r2])∧∃s' H',Pw w w' b H H' s'∧Good s'∧
  ((r1=0∧r2=1∧okC s.vars c=false∧s'=s)∨(r1=0∧r2=5∧okC s.vars c=true∧s.nc=262144∧s'=s)∨(r1=s.nc∧r2=0∧okC s.vars c=true∧s.nc<262144∧Added s c s')):=by
 have k:=g.wf
 refine prop_Prop_Add.calls ?_
 intro n1 w2 h2
 have hA:=h.grow h2.mod
 have e1:=h2.num
 have hnot: ∀x,¬own b H x=some n1:=fun x e=>by have:=h.lt x n1 e;omega
 obtain ⟨av,hav⟩:=va_some h k
 refine ⟨_,cell_of h2.has rfl,cnd_f rfl ⟨_,cell_of h2.has rfl,_,rfl,_,_,_,cell_add hA.st rfl,?_⟩⟩
 rw [hav]
 have bad:okC s.vars c=false→∀ {u:World},Grow w2 u→∃r1 r2:Int,Ending.returned (.tuple #[.int .i64 0,.int .i64 1])= .returned (.tuple #[.int .i64 r1,.int .i64 r2])∧∃s' H',Pw w u b H H' s'∧Good s'∧
  ((r1=0∧r2=1∧okC s.vars c=false∧s'=s)∨(r1=0∧r2=5∧okC s.vars c=true∧s.nc=262144∧s'=s)∨(r1=s.nc∧r2=0∧okC s.vars c=true∧s.nc<262144∧Added s c s')):=
  fun hb u gu=> ⟨0,1,rfl,s,H,(Pw.refl (hA.grow gu) gu).pre h2.mod,g,.inl ⟨rfl,rfl,hb,rfl⟩⟩
 refine cnd_f rfl ((litCheck_ok (hc.grow h2.mod) hn hx).mono ?_)
 rintro e w7 ⟨rfl,g7⟩
 refine ⟨_,rfl,?_⟩
 cases hcl:clB c with
 |false=>exact cnd_t rfl (bad (by simp [okC,hcl]) g7)
 |true=>
 have h7:=hA.grow g7
 have hb7:=h2.has.grow g7
 refine cnd_f rfl ((containsFunc_ok ((hc.grow h2.mod).grow g7) hn hx add1_ent (fun x=> !isB s.vars x) fun x _ w' gw=> ?_).mono ?_)
 · rw [args2w]
   exact add1 (h7.grow gw) k (hb7.grow gw) x
 rintro e w9 ⟨rfl,g9⟩
 have G9:=g7.trans g9
 have hany:c.any (fun x=> !isB s.vars x)= !c.all (isB s.vars):=any_nall c
 refine ⟨_,rfl,?_⟩
 rw [hany]
 cases hal:c.all (isB s.vars) with
 |false=>exact cnd_t rfl (bad (by simp [okC,hal]) G9)
 |true=>
 have hok:okC s.vars c=true:=by simp [okC,hcl,hal]
 have h9:=hA.grow G9
 have hb9:=h2.has.grow G9
 have hin: ∀x∈c,InV s.vars x:=fun x hxc=> (isB_iff k.vmax).1 (List.all_eq_true.1 hal x hxc)
 have hcl4:=(clB_all hcl).2
 refine cnd_f rfl ⟨_,cell_of hb9 rfl,_,rfl,_,_,_,cell_add h9.st rfl,?_⟩
 rw [h.cn]
 refine cnd_i (fun r=> ?_) (fun r=> ?_)
 · have r:(s.nc:Int)=262144:=by simpa using r
   exact ⟨0,5,rfl,s,H,(Pw.refl h9 G9).pre h2.mod,g,.inr (.inl ⟨rfl,rfl,hok,by omega,rfl⟩)⟩
 have r: ¬(s.nc:Int)=262144:=by simpa using r
 have hnc:s.nc<262144:=by have:=g.ncm;omega
 refine (norm_fr ((hc.grow h2.mod).grow G9) hn hx).mono ?_
 rintro e w14 ⟨q15,d15,m,hm,rfl,o15,g14,f15⟩
 rw [hcl] at hm
 simp only [if_true] at hm
 subst hm
 have G14:=G9.trans g14
 have h14:=hA.grow G14
 have hb14:=h2.has.grow G14
 refine ⟨_,_,_,_,rfl,_,cell_of hb14 rfl,_,rfl,_,_,_,cell_add h14.st rfl,?_⟩
 have hD:=h14.drew
 have nn1: ¬blk (H .c).p=some n1:=fun e=>hnot .c e
 have aw: ∀ {a:Addr} {u:Value},w14.drew.cell? a=some u→¬blk (H .c).p=some a.block→AtW (Mod (fun k=>blk (H .c).p=some k) w14.drew) a u:=fun hc hne u' g=>cell_keep g hc hne
 have gm: ∀ {w1:World},Grow w14.drew w1→Mod (fun k=>blk (H .c).p=some k) w14.drew w1:=fun g=>g.mono fun _ _ e=>e.elim
 have nst: ¬blk (H .c).p=some b:=hD.other (x:= .c) (by simp) (y:= .st) (by simp) rfl
 refine ⟨Mod (fun k=>blk (H .c).p=some k) w14.drew,Mod.refl _,_,aw (cell_of hb14.drew rfl) nn1,_,aw (cell_of hb14.drew rfl) nn1,_,rfl,_,_,_,aw (cell_add hD.st rfl) (by rw [add_block];exact nst),?_⟩
 refine (clone_ok (((hc.grow h2.mod).grow G14).drew) hn (by omega)).mono ?_
 rintro e w25 ⟨q26,d26,rfl,o26,g25,f26⟩
 refine ⟨_,_,_,rfl,gm g25,?_⟩
 intro n27 w28 h28
 have G28:=g25.trans h28.mod
 refine ⟨gm G28,?_⟩
 have zz:w14.drew.heap.size=w14.heap.size:=rfl
 have GA:Grow w2 w28:=G14.trans ((Mod.refl w14).drew.trans G28)
 have s14:=G14.size
 have s9:=G9.size
 have tl:=hA.addC (w1:=w28) (A:=⟨q26,c.length,d26⟩) (L:=⟨q15,(norm c).length,d15⟩) (c:=c) (m:=norm c) GA (o26.grow h28.mod) ((o15.drew.grow g25).grow h28.mod) rfl rfl (fun k hk=>by have:=f26 k hk;omega) (fun k hk=>by have:=f15 k hk;omega)
  (fun k hk e=>by have:=f26 k hk;have:=o15.lt k e;omega) h28.has g.ncm (K:=fun w32=> ∃x33,w32.cell? (Addr.mk n1 0 none)=some (.pointer x33)∧Calls prog prop_Prop_settle.id #[.pointer x33,.int .i64 (s.nc:Int)] w32 fun e w34=>e= .returned (.tuple #[])∧
    ∃r1 r2:Int,Ending.returned (.tuple #[.int .i64 (s.nc:Int),.int .i64 0])= .returned (.tuple #[.int .i64 r1,.int .i64 r2])∧∃s' H',Pw w w34 b H H' s'∧Good s'∧
    ((r1=0∧r2=1∧okC s.vars c=false∧s'=s)∨(r1=0∧r2=5∧okC s.vars c=true∧s.nc=262144∧s'=s)∨(r1=s.nc∧r2=0∧okC s.vars c=true∧s.nc<262144∧Added s c s'))) ?_
 · obtain ⟨wa,p',n',c',hr,hmod,w3,hst,hrest⟩:=tl
   rw [h.cn] at hr ⊢
   exact ⟨wa,p',n',c',hr,(gm G28).trans hmod,_,rfl,w3,hst,hrest⟩
 · intro w32 H2 P32
   have h32:=P32.pm
   have hb32:=h2.has.keep P32.mod fun ⟨x,e⟩=>hnot x e
   have nm:=norm_isN c
   have hnd:(norm c).Nodup:=nm.st.imp fun {a b} hab e=>by subst e;exact bef_irr a hab
   have hnl:(norm c).length≤4096:=by have:=norm_len c;omega
   have hnin: ∀x∈norm c,InV s.vars x:=fun x hx=>hin x ((nm.mem x).1 hx)
   refine ⟨_,cell_of hb32 rfl,(settle_ok h32 (addC_wf k hnc) (i:=s.nc) (Nat.lt_succ_self _) (by rw [addC_l];exact hnin) (by rw [addC_l];omega) (fun j=>by rw [addC_R (by simp) (by simp)];have:=g.wl j;omega) (by rw [addC_R (by simp) (by simp)];have:=g.lol;omega)).mono ?_⟩
   rintro e w34 ⟨rfl,l',H3,hbest,pm,P34,_,_⟩
   rw [addC_l] at pm
   have hbest':Best s.rk 2 l':=fun t ht j h1 h2=>by
    have:=hbest t ht j h1 h2
    rw [rk_eq (s:=s) (addC_R (by simp) (by simp)) (addC_R (by simp) (by simp)),rk_eq (s:=s) (addC_R (by simp) (by simp)) (addC_R (by simp) (by simp))] at this
    exact this
   obtain ⟨G',A'⟩:=add_good g hnc hnin hnd hnl (fun x=>nm.mem x) hcl4 pm hbest'
   exact ⟨rfl,_,_,rfl,_,H3,(P32.trans P34).pre h2.mod,G',.inr (.inr ⟨rfl,rfl,hok,hnc,A'⟩)⟩
end
end Go.Proofs.YtbdghpjnifjlmaaGreat.W
namespace Go.Fw
open Go Go.RowKit
variable {α:Type} {f:α→Value} {w w':World} {p:Option Addr} {hs:List Sl} {rows:List (List α)}
def footN (p:Option Addr) (hs:List Sl) (k:Nat):Prop:=(hs≠[]∧blk p=some k)∨rfoot hs k
theorem V2.keepN {S:Nat→Prop} (h:V2 f w p hs rows) (m:Mod S w w') (hS: ∀k,footN p hs k→¬S k):V2 f w' p hs rows:=
 (h.vr.keep m fun k hk=>hS k (.inr hk)).v2 (h.h.keepN m fun hne k hk=>hS k (.inl ⟨hne,hk⟩))
theorem V2.ltN (h:V2 f w p hs rows): ∀k,footN p hs k→k<w.heap.size:=by
 rintro k (⟨hne,hk⟩|hk)
 · exact h.h.lt hne k hk
 · exact h.vr.lt k hk
theorem V2.young {S:Nat→Prop} {w0:World} (h:V2 f w p hs rows) (h0: ∀k,footN p hs k→k<w0.heap.size) (m:Mod S w w') (hS: ∀k,S k→w0.heap.size≤k):V2 f w' p hs rows:=
 h.keepN m fun k hk hs=>by have:=h0 k hk;have:=hS k hs;omega
end Go.Fw
namespace Go.Proofs.YtbdghpjnifjlmaaGreat.W
open Go Go.Fw Go.RowKit Go.SoP Go.LiP
open Go.Proofs.Tryz (prog)
section
variable {w w' w0 w1 w2 w3:World} {b:Nat} {H H' H2:Pt→Sl} {s t u s' T:PSt} {l x y:Int} {i:Nat}
theorem sl_sl_int':slOk prog ty_sl_sl_int ty_sl_int 24=true:=by kernel_rfl
theorem sl_zero:(Tryz.prog.info? ty_sl_int).bind (·.zero)=some (.slice none 0 0):=by kernel_rfl
theorem i8_zero:(Tryz.prog.info? ty_int8).bind (·.zero)=some (.int .i8 0):=by kernel_rfl
def PSt.new (k:Nat):PSt:= {vars:=k,nc:=0,gone:=fun _=>false,done:=0,R:=fun x=>match x with| .va| .le| .re=>List.replicate (k+1) 0|_=> []}
def newH (k a v l r:Nat):Pt→Sl
 | .wa=> ⟨some ⟨a,0,none⟩,2* (k+1),2* (k+1)⟩
 | .va=> ⟨some ⟨v,0,none⟩,k+1,k+1⟩
 | .le=> ⟨some ⟨l,0,none⟩,k+1,k+1⟩
 | .re=> ⟨some ⟨r,0,none⟩,k+1,k+1⟩
 |_=>Sl.nil
theorem new_good {k:Nat} (hk:k≤1048576):Good (PSt.new k):=by
 have e0: ∀ (n i:Nat),(List.replicate n (0:Int)).getD i 0=0:=fun n i=>by
  simp only [List.getD_eq_getElem?_getD,List.getElem?_replicate]
  split<;>rfl
 refine ⟨hk,by simp [PSt.new],by simp [PSt.new],fun i=> .inl (e0 _ _),by simp [PSt.new],by simp [PSt.new],fun x hx=>by simp [PSt.new] at hx,by simp [PSt.new],fun x hx=> ?_,fun j hj=>by simp [PSt.new] at hj,fun i j _ hj=>by simp [PSt.new] at hj,rfl,fun j hj=>by simp [PSt.new] at hj,
  fun p hp=>by simp [PSt.new] at hp,fun p hp=>by simp [PSt.new] at hp,fun p hp=>by simp [PSt.new] at hp,Nat.le_refl _,fun i hi=>absurd hi.1 (Nat.not_lt_zero _),fun i hi=>absurd hi.1 (Nat.not_lt_zero _),fun i hi=>absurd hi.1 (Nat.not_lt_zero _),fun i hi=>absurd hi.1 (Nat.not_lt_zero _),fun i=>by simp [PSt.new],
  fun j c hc=>by simp [PSt.new] at hc,fun i hi=>absurd hi.1 (Nat.not_lt_zero _),fun j=>by simp [PSt.new],fun c hc=>by simp [PSt.new] at hc,fun i hi=>absurd hi.1 (Nat.not_lt_zero _),by simp [PSt.new],fun i hi=>absurd hi.1 (Nat.not_lt_zero _),fun j hj=>by simp [PSt.new] at hj⟩
 have:(PSt.new k).val x=0:=by
  unfold PSt.val
  show (if x<0 then -(List.replicate (k+1) (0:Int)).getD _ 0 else (List.replicate (k+1) (0:Int)).getD _ 0)=0
  rw [e0,e0];simp
 rw [this]
 simp [PSt.new]
def Owt (k t:Nat) (u:World) (g:Nat):Prop:=
 match t with
 |0=>Ow Sl.v ty_sl_int u (some ⟨g,0,none⟩) (2* (k+1)) (List.replicate (2* (k+1)) Sl.nil)
 |1=>Ow (Value.int .i8) ty_int8 u (some ⟨g,0,none⟩) (k+1) (List.replicate (k+1) 0)
 |_=>OwI ty_int u (some ⟨g,0,none⟩) (k+1) (List.replicate (k+1) 0)
structure Zn (w0:World) (k:Nat) (u:World) (L:List (Nat × Nat)):Prop where
 g:Grow w0 u
 o: ∀t g,(t,g)∈L→Owt k t u g∧w0.heap.size≤g∧g<u.heap.size
 d: ∀t t' g,(t,g)∈L→(t',g)∈L→t=t'
theorem Owt.grow {k t g:Nat} (h:Owt k t w g) (m:Grow w w'):Owt k t w' g:=by
 unfold Owt at*
 split at h<;>exact Ow.grow h m
variable {k:Nat} {L:List (Nat × Nat)}
theorem Zn.cons (z:Zn w0 k w L) {t:Nat} {o:Owt k t w' w.heap.size} (m:Grow w w') (hs:w'.heap.size=w.heap.size+1):Zn w0 k w' ((t,w.heap.size)::L):=by
 refine ⟨z.g.trans m,fun t' g hm=> ?_,fun t1 t2 g h1 h2=> ?_⟩
 · rcases List.mem_cons.1 hm with e|hm
   · injection e with e1 e2
     subst e1 e2
     exact ⟨o,z.g.size,by omega⟩
   · obtain ⟨a,b,c⟩:=z.o t' g hm
     exact ⟨a.grow m,b,by omega⟩
 · rcases List.mem_cons.1 h1 with e1|h1<;>rcases List.mem_cons.1 h2 with e2|h2
   · injection e1 with a1 a2;injection e2 with b1 b2;omega
   · injection e1 with a1 a2;have:=(z.o t2 g h2).2.2;omega
   · injection e2 with a1 a2;have:=(z.o t1 g h1).2.2;omega
   · exact z.d t1 t2 g h1 h2
theorem Zn.m0 (z:Zn w0 k w L) (hk:k≤1048576) {n:Int} (hn:n=((2* (k+1):Nat):Int)) {K:World→Option Addr→Nat→Nat→Prop}
 (hK: ∀u,Zn w0 k u ((0,w.heap.size)::L)→K u (some ⟨w.heap.size,0,none⟩) (2* (k+1)) (2* (k+1))):
 ∃w',∃p' n' c',(Instr.makeSlice ty_sl_sl_int (.int .i64 n) (.int .i64 n)).run prog w= .ok (.slice p' n' c') w'∧K w' p' n' c':=
 make_i (f:=Sl.v) (x:=Sl.nil) sl_sl_int' sl_zero rfl (2* (k+1)) hn (by omega) fun u o m hs=>hK u (z.cons (t:=0) (o:=o) m hs)
theorem Zn.m1 (z:Zn w0 k w L) (hk:k≤1048576) {n:Int} (hn:n=((k+1:Nat):Int)) {K:World→Option Addr→Nat→Nat→Prop}
 (hK: ∀u,Zn w0 k u ((1,w.heap.size)::L)→K u (some ⟨w.heap.size,0,none⟩) (k+1) (k+1)):
 ∃w',∃p' n' c',(Instr.makeSlice ty_sl_int8 (.int .i64 n) (.int .i64 n)).run prog w= .ok (.slice p' n' c') w'∧K w' p' n' c':=
 make_i (f:=Value.int .i8) (x:=0) sl_int8 i8_zero rfl (k+1) hn (by omega) fun u o m hs=>hK u (z.cons (t:=1) (o:=o) m hs)
theorem Zn.m2 (z:Zn w0 k w L) (hk:k≤1048576) {n:Int} (hn:n=((k+1:Nat):Int)) {K:World→Option Addr→Nat→Nat→Prop}
 (hK: ∀u,Zn w0 k u ((L.length+2,w.heap.size)::L)→K u (some ⟨w.heap.size,0,none⟩) (k+1) (k+1)):
 ∃w',∃p' n' c',(Instr.makeSlice ty_sl_int (.int .i64 n) (.int .i64 n)).run prog w= .ok (.slice p' n' c') w'∧K w' p' n' c':=
 make_i (f:=Value.int .i64) (x:=0) sl_int int_zero rfl (k+1) hn (by omega) fun u o m hs=>hK u (z.cons (t:=L.length+2) (o:=o) m hs)
theorem Zn.pm (z:Zn w0 k w L) {a v l r t t':Nat} (ha:(0,a)∈L) (hv:(1,v)∈L) (hl:(t+2,l)∈L) (hr:(t'+2,r)∈L) (ht:t≠t') {n:Nat}
 (h:New (.cells #[.int .i64 k,.slice none 0 0,.slice (some ⟨a,0,none⟩) (2* (k+1)) (2* (k+1)),.slice (some ⟨v,0,none⟩) (k+1) (k+1),.slice (some ⟨l,0,none⟩) (k+1) (k+1),.slice (some ⟨r,0,none⟩) (k+1) (k+1),.slice none 0 0,.slice none 0 0,.slice none 0 0,.int .i64 0,.slice none 0 0] ty_prop_Prop) w n w'):
 PM w' n (newH k a v l r) (PSt.new k)∧Grow w0 w'∧∀x j,own n (newH k a v l r) x=some j→w0.heap.size≤j:=by
 obtain ⟨oa,ga,la⟩:=z.o _ _ ha
 obtain ⟨ov,gv,lv⟩:=z.o _ _ hv
 obtain ⟨ol,gl,ll⟩:=z.o _ _ hl
 obtain ⟨or',gr,lr⟩:=z.o _ _ hr
 have en:=h.num
 have gz:=z.g.size
 have dd: ∀ {t1 t2 g1 g2:Nat},(t1,g1)∈L→(t2,g2)∈L→t1≠t2→g1≠g2:=fun h1 h2 hne e=>hne (z.d _ _ _ h1 (e▸h2))
 have av:=dd ha hv (by omega)
 have al:=dd ha hl (by omega)
 have ar:=dd ha hr (by omega)
 have vl:=dd hv hl (by omega)
 have vr:=dd hv hr (by omega)
 have lr':=dd hl hr (by omega)
 have inv: ∀x j,own n (newH k a v l r) x=some j→(x= .st∧j=n)∨(x= .wa∧j=a)∨(x= .va∧j=v)∨(x= .le∧j=l)∨(x= .re∧j=r):=by
  intro x j hx
  cases x<;>simp [own,newH,blk,Sl.nil] at hx<;>simp [hx]
 refine ⟨⟨h.has,Row.nil _ _ _ _,rfl,?_,rfl,fun x hx=> ?_,fun x hx=> ?_,fun x y j hx hy=> ?_⟩,z.g.trans h.mod,fun x j hx=> ?_⟩
 · have e:heads (newH k a v l r) (2* ((PSt.new k).vars+1))=List.replicate (2* (k+1)) Sl.nil:=by
    unfold heads
    rw [List.eq_replicate_iff]
    refine ⟨by simp [PSt.new],fun q hq=> ?_⟩
    obtain ⟨j,_,rfl⟩:=List.mem_map.1 hq
    rfl
   rw [e];exact Owt.grow (t:=0) oa h.mod
 · cases x<;>first| (exact Ow.nil _ _ _)| (simp [Pt.row] at hx;done)| (exact Owt.grow (t:=1) ov h.mod)| (exact Owt.grow (t:=t+2) ol h.mod)| (exact Owt.grow (t:=t'+2) or' h.mod)
 · cases x<;>first| (simp [Pt.row] at hx;done)| (simp [newH,PSt.new,Sl.nil])
 · rcases inv x j hx with ⟨rfl,rfl⟩| ⟨rfl,rfl⟩| ⟨rfl,rfl⟩| ⟨rfl,rfl⟩| ⟨rfl,rfl⟩<;>rcases inv y _ hy with ⟨rfl,e⟩| ⟨rfl,e⟩| ⟨rfl,e⟩| ⟨rfl,e⟩| ⟨rfl,e⟩<;>first|rfl|omega
 · rcases inv x j hx with ⟨_,rfl⟩| ⟨_,rfl⟩| ⟨_,rfl⟩| ⟨_,rfl⟩| ⟨_,rfl⟩<;>omega
structure Newd (k:Nat) (cs:List (List Int)) (s:PSt):Prop where
 v:s.vars=k
 n:s.nc=cs.length
 g: ∀i,i<cs.length→s.gone i=false
 a: ∀i,i<cs.length→s.R (.a i)=cs.getD i []
 tr:s.R .tr= []
 be:s.R .be= []
theorem new_ok {k:Int} {q:Option Addr} {m d:Nat} {hs:List Sl} {cs:List (List Int)} (hc:V2 (Value.int .i64) w q hs cs) (hm:m=cs.length):
 Calls prog prop_New.id #[.agg #[.int .i64 k,.slice q m d]] w fun e w'=> (cnfB k cs=false∧e= .returned (.tuple #[.pointer none,.int .i64 1])∧Grow w w')∨
  (cnfB k cs=true∧∃ (b:Nat) (s:PSt) (H:Pt→Sl),e= .returned (.tuple #[ptrV b,.int .i64 0])∧PM w' b H s∧Good s∧Newd k.toNat cs s∧Grow w w'∧∀x j,own b H x=some j→w.heap.size≤j):=by
 refine prop_New.calls ?_
 intro n1 w2 h2
 have V2':=hc.grow h2.mod
 refine ⟨_,_,_,_,⟨cell_add h2.has rfl,cell_add h2.has rfl,trivial⟩,(checkCnf_ok V2' hm).mono ?_⟩
 rintro e w5 ⟨rfl,g5⟩
 refine ⟨_,rfl,?_⟩
 cases hcn:cnfB k cs with
 |false=>exact cnd_t rfl (.inl ⟨rfl,rfl,h2.mod.trans g5⟩)
 |true=>
 have hb:0≤k∧k≤1048576∧cs.length≤262144:=by
  unfold cnfB at hcn
  simp only [Bool.and_eq_true,decide_eq_true_eq] at hcn
  exact hcn.1
 obtain ⟨kn,rfl⟩: ∃kn:Nat,k=kn:=⟨k.toNat,by omega⟩
 have hk:kn≤1048576:=by omega
 have H5:=h2.has.grow g5
 have e1:IntKind.i64.wrap ((kn:Int)+1)=((kn+1:Nat):Int):=wN rfl (by omega)
 have e2:IntKind.i64.wrap (2* ((kn+1:Nat):Int))=((2* (kn+1):Nat):Int):=wN (by omega) (by omega)
 refine cnd_f rfl ⟨_,cell_add H5 rfl,?_⟩
 try dsimp only
 rw [e1,e2]
 have z0:Zn w5.drew kn w5.drew []:=⟨Mod.refl _,fun t g h=>by simp at h,fun t t' g h=>by simp at h⟩
 refine ⟨fun p u=> ∃ (n:Nat) (H:Pt→Sl),p=(⟨n,0,none⟩:Addr)∧PM u n H (PSt.new kn)∧Grow w5 u∧∀x j,own n H x=some j→w5.heap.size≤j,?_,?_⟩
 · refine ⟨fun u=>Grow w5.drew u,Mod.refl _,_,fun u g=>cell_add (H5.drew.grow g) rfl,?_⟩
   have fin: ∀ {u u':World} {L:List (Nat × Nat)} {a v l r t t' n:Nat},Zn w5.drew kn u L→(0,a)∈L→(1,v)∈L→(t+2,l)∈L→(t'+2,r)∈L→t≠t'→
    New (.cells #[.int .i64 kn,.slice none 0 0,.slice (some ⟨a,0,none⟩) (2* (kn+1)) (2* (kn+1)),.slice (some ⟨v,0,none⟩) (kn+1) (kn+1),.slice (some ⟨l,0,none⟩) (kn+1) (kn+1),.slice (some ⟨r,0,none⟩) (kn+1) (kn+1),.slice none 0 0,.slice none 0 0,.slice none 0 0,.int .i64 0,.slice none 0 0] ty_prop_Prop) u n u'→
    ∃ (n':Nat) (H:Pt→Sl),Addr.mk n 0 none=(⟨n',0,none⟩:Addr)∧PM u' n' H (PSt.new kn)∧Grow w5 u'∧∀x j,own n' H x=some j→w5.heap.size≤j:=by
    intro u u' L a v l r t t' n z ha hv hl hr ht h
    obtain ⟨p1,p2,p3⟩:=z.pm ha hv hl hr ht h
    exact ⟨n,_,rfl,p1,(Mod.refl w5).drew.trans p2,fun x j e=>p3 x j e⟩
   repeat' first
    | (with_reducible refine Zn.m0 (L:=_) (by assumption) hk rfl fun u z=> ⟨z.g,?_⟩)
    | (with_reducible refine Zn.m1 (L:=_) (by assumption) hk rfl fun u z=> ⟨z.g,?_⟩)
    | (with_reducible refine Zn.m2 (L:=_) (by assumption) hk rfl fun u z=> ⟨z.g,?_⟩)
    | (intro n w' h
       exact fin (by assumption) (by first|exact List.mem_cons_self .. |exact List.mem_cons_of_mem _ (List.mem_cons_self ..)|exact List.mem_cons_of_mem _ (List.mem_cons_of_mem _ (List.mem_cons_self ..))|exact List.mem_cons_of_mem _ (List.mem_cons_of_mem _ (List.mem_cons_of_mem _ (List.mem_cons_self ..)))) (by first|exact List.mem_cons_self .. |exact List.mem_cons_of_mem _ (List.mem_cons_self ..)|exact List.mem_cons_of_mem _ (List.mem_cons_of_mem _ (List.mem_cons_self ..))|exact List.mem_cons_of_mem _ (List.mem_cons_of_mem _ (List.mem_cons_of_mem _ (List.mem_cons_self ..)))) (by first|exact List.mem_cons_self .. |exact List.mem_cons_of_mem _ (List.mem_cons_self ..)|exact List.mem_cons_of_mem _ (List.mem_cons_of_mem _ (List.mem_cons_self ..))|exact List.mem_cons_of_mem _ (List.mem_cons_of_mem _ (List.mem_cons_of_mem _ (List.mem_cons_self ..)))) (by first|exact List.mem_cons_self .. |exact List.mem_cons_of_mem _ (List.mem_cons_self ..)|exact List.mem_cons_of_mem _ (List.mem_cons_of_mem _ (List.mem_cons_self ..))|exact List.mem_cons_of_mem _ (List.mem_cons_of_mem _ (List.mem_cons_of_mem _ (List.mem_cons_self ..)))) (by simp) h)
    |with_reducible refine And.intro ?_ ?_
 · rintro _ w188 _ ⟨b,H,rfl,p0,g0,f0⟩
   have H188:=H5.grow g0
   have V0:=(V2'.grow g5)
   refine ⟨_,_,_,cell_add H188 rfl,?_⟩
   have kz:=new_good hk
   refine ⟨fun V u z=> ∃ (v:Nat) (s:PSt) (H':Pt→Sl),V=v∧v≤cs.length∧z=cs.length - v∧Pw w188 u b H H' s∧Good s∧Newd kn (cs.take v) s,⟨_,0,PSt.new kn,H,rfl,Nat.zero_le _,rfl,Pw.refl p0 (Mod.refl _),kz,⟨rfl,by simp [PSt.new],fun i hi=>by simp at hi,fun i hi=>by simp at hi,rfl,rfl⟩⟩,?_⟩
   rintro V u z _ ⟨v,s,H',rfl,hv,rfl,Pu,gs,nw⟩
   have hu:=Pu.pm
   have vV:V2 (Value.int .i64) u q hs cs:=(V0.grow g0).young (w0:=w5) V0.ltN Pu.mod fun k ⟨x,e⟩=>f0 x k e
   refine cnd_i (fun r=> ?_) (fun r=> ?_)
   · have r:v<cs.length:=by rw [hm] at r;simpa using r
     refine vV.ix (by omega) hm (by omega) fun a sl h1 h0 k2 h3 h4=> ⟨_,_,_,h1,?_⟩
     rw [Int.toNat_natCast] at k2 h4
     refine (add_ok hu gs h4 k2 h3).mono ?_
     rintro e w197 ⟨r1,r2,rfl,s',H2,P2,g2,hr⟩
     have hcl:okC s.vars (cs.getD v [])=true:=by
      have:=hcn
      unfold cnfB at this
      simp only [Bool.and_eq_true] at this
      have hmem:cs.getD v []∈cs:=by simp [List.getD,r]
      have hh:=List.all_eq_true.1 this.2 _ hmem
      simp only [Bool.and_eq_true] at hh
      unfold okC
      rw [hh.1,Bool.true_and,List.all_eq_true]
      intro x hx
      unfold isB
      have h5:=(clB_all hh.1).1 x hx
      have h6:=List.all_eq_true.1 hh.2 x hx
      rw [h5,nw.v]
      simpa using h6
     have hnc:s.nc<262144:=by rw [nw.n,List.length_take];omega
     have hA:Added s (cs.getD v []) s':=by
      rcases hr with ⟨_,_,h,_⟩| ⟨_,_,_,h,_⟩| ⟨_,_,_,_,h⟩
      · rw [hcl] at h;cases h
      · omega
      · exact h
     have hnv:s.nc=v:=by rw [nw.n,List.length_take];omega
     refine ⟨_,_,rfl,_,?_,v+1,s',H2,wN (by omega) (by omega),r,rfl,Pu.trans P2,g2,⟨hA.v.trans nw.v,by rw [hA.n,hnv,List.length_take];omega,fun i hi=> ?_,fun i hi=> ?_,hA.tr.trans nw.tr,hA.be.trans nw.be⟩⟩
     · omega
     · rw [hA.g]
       rw [List.length_take] at hi
       split
       · rfl
       · exact nw.g i (by rw [List.length_take];omega)
     · rw [hA.a]
       rw [List.length_take] at hi
       have e5:(cs.take (v+1)).getD i []=cs.getD i []:=by
        simp only [List.getD_eq_getElem?_getD,List.getElem?_take]
        rw [if_pos (by omega)]
       rw [e5,hnv]
       split
       · rename_i e;rw [e]
       · rw [nw.a i (by rw [List.length_take];omega)]
         simp only [List.getD_eq_getElem?_getD,List.getElem?_take]
         rw [if_pos (by omega)]
   · have r:v=cs.length:=by rw [hm] at r;simp at r;omega
     subst r
     rw [List.take_length] at nw
     refine .inr ⟨rfl,b,s,H',rfl,hu,gs,nw,?_,fun x j e=> ?_⟩
     · exact (h2.mod.trans (g5.trans g0)).then Pu.mod fun k hk ⟨x,e⟩=>by
        have:=f0 x k e
        have:=(h2.mod.trans g5).size
        omega
     · have:=(h2.mod.trans g5).size
       rcases Pu.ft x j e with ⟨y,e2⟩|e2
       · have:=f0 y j e2;omega
       · have:=g0.size;omega
end
section
variable {s t u s':PSt} {l x y:Int} {i:Nat}
def unitG (t:List Int):List Int→Int→Int
 | [],o=>o
 |x::c,o=>if x∈t then 0 else if -x∈t∨x=o then unitG t c o else if o≠0 then 0 else unitG t c x
def unitF (c t:List Int):Int:=unitG t c 0
def brokenP (c t:List Int):Bool:=c.all fun x=>decide (-x∈t)
theorem unitG_ne {t:List Int}: ∀ (c:List Int) (o:Int),(∀y∈c,y≠0)→unitG t c o≠0→(∀y∈c,y ∉ t∧(y=unitG t c o∨ -y∈t))∧(unitG t c o=o∨(o=0∧unitG t c o∈c∧ -(unitG t c o) ∉ t))
 | [],o,_,_=> ⟨fun y hy=>by simp at hy,.inl rfl⟩
 |x::c,o,nz,h=>by
  have nz': ∀y∈c,y≠0:=fun y hy=>nz y (List.mem_cons_of_mem _ hy)
  have nx:x≠0:=nz x (List.mem_cons_self ..)
  unfold unitG at h ⊢
  by_cases h1:x∈t
  · rw [if_pos h1] at h;exact absurd rfl h
  · rw [if_neg h1] at h ⊢
    by_cases h2: -x∈t∨x=o
    · rw [if_pos h2] at h ⊢
      obtain ⟨a,b⟩:=unitG_ne c o nz' h
      refine ⟨fun y hy=> ?_,b.imp id fun e=> ⟨e.1,List.mem_cons_of_mem _ e.2.1,e.2.2⟩⟩
      rcases List.mem_cons.1 hy with rfl|hy
      · refine ⟨h1,?_⟩
        rcases h2 with h2|h2
        · exact .inr h2
        · rcases b with b| ⟨b,_⟩
          · exact .inl (h2.trans b.symm)
          · omega
      · exact a y hy
    · rw [if_neg h2] at h ⊢
      by_cases h3:o≠0
      · rw [if_pos h3] at h;exact absurd rfl h
      · rw [if_neg h3] at h ⊢
        obtain ⟨a,b⟩:=unitG_ne c x nz' h
        have h3:o=0:=by omega
        have hx: -x ∉ t:=fun e=>h2 (.inl e)
        have ex:unitG t c x=x:=by
         rcases b with b| ⟨b,_⟩
         · exact b
         · exact absurd b nx
        refine ⟨fun y hy=> ?_,.inr ⟨h3,by rw [ex];exact List.mem_cons_self ..,by rw [ex];exact hx⟩⟩
        rcases List.mem_cons.1 hy with rfl|hy
        · exact ⟨h1,.inl ex.symm⟩
        · exact a y hy
theorem unitF_ne {c t:List Int} (nz: ∀y∈c,y≠0) (h:unitF c t≠0):unitF c t∈c∧unitF c t ∉ t∧ -(unitF c t) ∉ t∧∀y∈c,y=unitF c t∨ -y∈t:=by
 obtain ⟨a,b⟩:=unitG_ne c 0 nz h
 rcases b with b| ⟨_,b1,b2⟩
 · exact absurd b h
 · exact ⟨b1,(a _ b1).1,b2,fun y hy=> (a y hy).2⟩
theorem unitG_is {t:List Int} {l:Int} (hl0:l≠0) (hn: -l ∉ t): ∀ (c:List Int) (o:Int),(∀y∈c,y ∉ t∧(y=l∨ -y∈t))→(o=l∨(o=0∧l∈c))→unitG t c o=l
 | [],o,_,ho=>by
   rcases ho with ho| ⟨_,h⟩
   · exact ho
   · simp at h
 |x::c,o,hc,ho=>by
  have hx:=hc x (List.mem_cons_self ..)
  have hc': ∀y∈c,y ∉ t∧(y=l∨ -y∈t):=fun y hy=>hc y (List.mem_cons_of_mem _ hy)
  unfold unitG
  rw [if_neg hx.1]
  by_cases e:x=l
  · subst e
    by_cases h2: -x∈t∨x=o
    · rw [if_pos h2]
      refine unitG_is hl0 hn c o hc' ?_
      rcases h2 with h2|h2
      · exact absurd h2 hn
      · exact .inl h2.symm
    · rw [if_neg h2]
      rcases ho with ho| ⟨ho,_⟩
      · exact absurd (Or.inr ho.symm) h2
      · rw [if_neg (by omega)]
        exact unitG_is hl0 hn c x hc' (.inl rfl)
  · have h3: -x∈t:=hx.2.resolve_left e
    rw [if_pos (.inl h3)]
    refine unitG_is hl0 hn c o hc' (ho.imp id fun h=> ⟨h.1,?_⟩)
    rcases List.mem_cons.1 h.2 with h|h
    · exact absurd h.symm e
    · exact h
theorem brokenP_iff {c t:List Int}:brokenP c t=true↔∀x∈c,-x∈t:=by
 unfold brokenP;simp [List.all_eq_true]
inductive Fol (cs:List (List Int)) (d:List Int):List Int→Prop
 |refl:Fol cs d d
 |step {t:List Int} {c:List Int}:Fol cs d t→c∈cs→unitF c t≠0→Fol cs d (t++ [unitF c t])
def PSt.cls (s:PSt) (c:List Int):Prop:= ∃i,s.There i∧s.R (.a i)=c
def PSt.dec (s:PSt):List Int:=(s.R .be).map fun e=> (s.R .tr).getD e.toNat 0
theorem Good.clv (g:Good s) {c:List Int} (h:s.cls c): ∀x∈c,InV s.vars x:=by
 obtain ⟨i,hi,rfl⟩:=h
 exact fun x hx=>g.cv i hi x ((g.ca i hi x).2 hx)
theorem dec_at {p:Nat} (h:(p:Int)∈s.R .be):(s.R .tr).getD p 0∈s.dec:=
 List.mem_map.2 ⟨(p:Int),h,by rw [Int.toNat_natCast]⟩
theorem Good.trail_all (g:Good s) {Q:Int→Prop} (hd: ∀x∈s.dec,Q x) (hc: ∀c,s.cls c→∀l∈c,(∀y∈c,y≠l→Q (-y))→ -l ∉ s.R .tr→Q l): ∀x∈s.R .tr,Q x:=by
 have key: ∀p,p< (s.R .tr).length→Q ((s.R .tr).getD p 0):=by
  intro p
  induction p using Nat.strongRecOn with
  |_ p ih=>
   intro hp
   by_cases hb:(p:Int)∈s.R .be
   · exact hd _ (dec_at hb)
   · obtain ⟨i,e1,e2,e3,e4⟩:=g.re2 p hp hb
     refine hc _ ⟨i,e2,rfl⟩ _ ((g.ca i e2 _).1 e3) (fun y hy hne=> ?_) (g.cons (getD_mem' hp))
     have:=e4 y ((g.ca i e2 y).2 hy) hne
     obtain ⟨q,hq,e⟩:=List.mem_iff_getElem.1 this
     rw [List.length_take] at hq
     have e5:(s.R .tr).getD q 0= -y:=by
      rw [List.getElem_take] at e
      simp [List.getD,show q< (s.R .tr).length by omega,e]
     rw [← e5]
     exact ih q (by omega) (by omega)
 intro x hx
 obtain ⟨p,hp,e⟩:=List.mem_iff_getElem.1 hx
 have:=key p hp
 simp only [List.getD,List.getElem?_eq_getElem hp,Option.getD_some,e] at this
 exact this
theorem Good.trail_sub (g:Good s) {T:List Int} (hd: ∀x∈s.dec,x∈T) (hT: ∀x∈T,-x ∉ T) (hc: ∀c,s.cls c→brokenP c T=false∧unitF c T=0): ∀x∈s.R .tr,x∈T:=by
 refine g.trail_all hd fun c hcc l hl hy _=> ?_
 obtain ⟨h1,h2⟩:=hc c hcc
 have hv:=g.clv hcc
 rcases Classical.em (l∈T) with h|h
 · exact h
 · exfalso
   have hnl: -l ∉ T:=fun e=>by
    rw [← Bool.not_eq_true,brokenP_iff] at h1
    exact h1 fun y hyc=>by
     by_cases ey:y=l
     · rw [ey];exact e
     · exact hy y hyc ey
   have:=unitG_is (t:=T) (hv l hl).1 hnl c 0 (fun y hyc=>by
    by_cases ey:y=l
    · subst ey;exact ⟨h,.inl rfl⟩
    · have:=hy y hyc ey
      exact ⟨fun e=>hT y e this,.inr this⟩) (.inr ⟨rfl,hl⟩)
   have h3:=(hv l hl).1
   unfold unitF at h2
   omega
theorem Closed.cl (hC:Closed s) (g:Good s) {c:List Int} (hc:s.cls c):(∃x∈c,x∈s.R .tr)∨∃x∈c,∃y∈c,x≠y∧x ∉ s.R .tr∧ -x ∉ s.R .tr∧y ∉ s.R .tr∧ -y ∉ s.R .tr:=by
 have hv:=g.clv hc
 obtain ⟨i,hi,rfl⟩:=hc
 rcases hC i hi with h| ⟨x,hx,y,hy,hne,vx,vy⟩
 · exact .inl h
 · have a:=(g.v0 (hv x hx)).1 vx
   have b:=(g.v0 (hv y hy)).1 vy
   exact .inr ⟨x,hx,y,hy,hne,a.1,a.2,b.1,b.2⟩
theorem Closed.unit (hC:Closed s) (g:Good s) {T c:List Int} (hT: ∀x∈T,x∈s.R .tr) (hc:s.cls c) (h:unitF c T≠0):unitF c T∈s.R .tr:=by
 obtain ⟨_,_,_,h4⟩:=unitF_ne (fun y hy=> (g.clv hc y hy).1) h
 rcases hC.cl g hc with ⟨x,hx,hxt⟩| ⟨x,hx,y,hy,hne,x1,x2,y1,y2⟩
 · rcases h4 x hx with e|e
   · rw [← e];exact hxt
   · exact absurd (hT _ e) (g.cons hxt)
 · exfalso
   have ex:x=unitF c T:=(h4 x hx).resolve_right fun e=>x2 (hT _ e)
   have ey:y=unitF c T:=(h4 y hy).resolve_right fun e=>y2 (hT _ e)
   exact hne (ex.trans ey.symm)
theorem Closed.notBroken (hC:Closed s) (g:Good s) {T c:List Int} (hT: ∀x∈T,x∈s.R .tr) (hc:s.cls c):brokenP c T=false:=by
 rw [← Bool.not_eq_true,brokenP_iff]
 intro h
 rcases hC.cl g hc with ⟨x,hx,hxt⟩| ⟨x,hx,_,_,_,_,x2,_,_⟩
 · exact g.cons hxt (hT _ (h x hx))
 · exact x2 (hT _ (h x hx))
theorem Closed.fol (hC:Closed s) (g:Good s) {cs:List (List Int)} (hcs: ∀c∈cs,s.cls c) {d T:List Int} (hd: ∀x∈d,x∈s.R .tr) (h:Fol cs d T): ∀x∈T,x∈s.R .tr:=by
 induction h with
 |refl=>exact hd
 |step h1 h2 h3 ih=>
  intro x hx
  rcases List.mem_append.1 hx with hx|hx
  · exact ih x hx
  · rw [List.mem_singleton] at hx
    rw [hx]
    exact hC.unit g ih (hcs _ h2) h3
end
section
variable {w w' w0 w2 w3:World} {p q:Option Addr} {n m c d:Nat} {l t T:List Int}
theorem nw (x:Int) (hx: -1048576≤x∧x≤1048576):IntKind.i64.wrap (0 - x)= -x:=by rw [wrap64_of (by omega) (by omega)];omega
theorem refBroken_ok (hc:Vw (Value.int .i64) w p l) (hn:n=l.length) (hx:n≤maxLen) (ht:Vw (Value.int .i64) w q t) (hm:m=t.length) (hy:m≤maxLen) (hb: ∀x∈l,-1048576≤x∧x≤1048576):
 Calls prog fathomref06_Broken.id #[.slice p n c,.slice q m d] w fun e w'=>e= .returned (.bool (brokenP l t))∧Grow w w':=by
 have hxn:n≤9223372036854775807:=by unfold maxLen at hx;omega
 refine fathomref06_Broken.calls ⟨fun I u z=> ∃i:Nat,I=i∧i≤l.length∧z=l.length - i∧Grow w u∧∀x∈l.take i,-x∈t,⟨_,0,rfl,Nat.zero_le _,rfl,Mod.refl w,fun x hx=>by simp at hx⟩,?_⟩
 rintro I u z _ ⟨i,rfl,hi,rfl,g,hall⟩
 refine cnd_i (fun r=> ?_) (fun r=> ?_)
 · have r:i<l.length:=by rw [hn] at r;simpa using r
   refine (hc.grow g).ix 0 (by omega) hn (by omega) fun a e=> ⟨_,e,?_⟩
   rw [Int.toNat_natCast]
   have hb':=hb _ (getD_mem' r)
   try dsimp only
   rw [nw _ hb']
   refine (has_ok (ht.grow g) hm hy _).mono ?_
   rintro e w8 ⟨rfl,g8⟩
   refine ⟨_,rfl,cnd_i (fun r2=> ?_) (fun r2=> ⟨_,?_,i+1,wN (by omega) (by omega),by omega,rfl,g.trans g8,fun x hx=> ?_⟩)⟩
   · have r2: -(l.getD i 0) ∉ t:=by simpa using r2
     refine ⟨?_,g.trans g8⟩
     have:brokenP l t=false:=by
      rw [← Bool.not_eq_true,brokenP_iff]
      exact fun h=>r2 (h _ (getD_mem' r))
     rw [this]
   · omega
   · have r2: -(l.getD i 0)∈t:=by simpa using r2
     rcases (mem_take_succ' r).1 hx with h|h
     · exact hall x h
     · rw [h];exact r2
 · have r:i=l.length:=by rw [hn] at r;simp at r;omega
   subst r
   rw [List.take_length] at hall
   have:brokenP l t=true:=brokenP_iff.2 hall
   exact ⟨by rw [this],g⟩
theorem refUnit_ok (hc:Vw (Value.int .i64) w p l) (hn:n=l.length) (hx:n≤maxLen) (ht:Vw (Value.int .i64) w q t) (hm:m=t.length) (hy:m≤maxLen) (hb: ∀x∈l,-1048576≤x∧x≤1048576):
 Calls prog fathomref06_Unit.id #[.slice p n c,.slice q m d] w fun e w'=>e= .returned (.int .i64 (unitF l t))∧Grow w w':=by
 have hxn:n≤9223372036854775807:=by unfold maxLen at hx;omega
 refine fathomref06_Unit.calls ⟨fun O I u z=> ∃i:Nat,I=i∧i≤l.length∧z=l.length - i∧Grow w u∧unitG t (l.drop i) O=unitF l t,⟨_,0,rfl,Nat.zero_le _,rfl,Mod.refl w,by simp [unitF]⟩,?_⟩
 rintro O I u z _ ⟨i,rfl,hi,rfl,g,hu⟩
 refine cnd_i (fun r=> ?_) (fun r=> ?_)
 · have r:i<l.length:=by rw [hn] at r;simpa using r
   have look: ∀ {u':World},Grow w u'→∀ {K:Addr→Prop},(∀a,u'.cell? a=some (.int .i64 (l.getD i 0))→K a)→ixK p n (i:Int) 1 K:=fun {u'} g' {K} hk=>by
    refine (hc.grow g').ix 0 (by omega) hn (by omega) fun a e=>hk a ?_
    rw [Int.toNat_natCast] at e
    exact e
   have hdr:l.drop i=l.getD i 0::l.drop (i+1):=by
    rw [List.drop_eq_getElem_cons r]
    simp [List.getD,r]
   have hb':=hb _ (getD_mem' r)
   rw [hdr] at hu
   generalize l.getD i 0=X at*
   unfold unitG at hu
   refine look g fun a e=> ⟨_,e,(has_ok (ht.grow g) hm hy _).mono ?_⟩
   rintro e w9 ⟨rfl,g9⟩
   have G9:=g.trans g9
   refine ⟨_,rfl,cnd_i (fun r2=> ?_) (fun r2=> ?_)⟩
   · have r2:X∈t:=by simpa using r2
     rw [if_pos r2] at hu
     exact ⟨by rw [← hu],G9⟩
   · have r2:X ∉ t:=by simpa using r2
     rw [if_neg r2] at hu
     refine look G9 fun a e=> ⟨_,e,?_⟩
     try dsimp only
     rw [nw _ hb']
     refine (has_ok (ht.grow G9) hm hy _).mono ?_
     rintro e w13 ⟨rfl,g13⟩
     have G13:=G9.trans g13
     have next: ∀ {O':Int},unitG t (l.drop (i+1)) O'=unitF l t→∃k3,k3<l.length - i∧∃i':Nat,IntKind.i64.wrap ((i:Int)+1)=i'∧i'≤l.length∧k3=l.length - i'∧Grow w w13∧unitG t (l.drop i') O'=unitF l t:=by
      intro O' h
      exact ⟨_,by omega,i+1,wN (by omega) (by omega),r,rfl,G13,h⟩
     refine ⟨_,rfl,cnd_i (fun r3=> ?_) (fun r3=> ?_)⟩
     · have r3: -X∈t:=by simpa using r3
       rw [if_pos (.inl r3)] at hu
       exact next hu
     · have r3: -X ∉ t:=by simpa using r3
       refine look G13 fun a e=> ⟨_,e,cnd_i (fun r4=> ?_) (fun r4=> ?_)⟩
       · have r4:X=O:=by simpa using r4
         rw [if_pos (.inr r4)] at hu
         exact next hu
       · have r4: ¬X=O:=by simpa using r4
         rw [if_neg (fun h=>h.elim r3 r4)] at hu
         refine cnd_i (fun r5=> ?_) (fun r5=>look G13 fun a e=> ⟨_,e,?_⟩)
         · have r5:O≠0:=by simpa using r5
           rw [if_pos r5] at hu
           exact ⟨by rw [← hu],G13⟩
         · have r5: ¬O≠0:=by simpa using r5
           rw [if_neg r5] at hu
           exact next hu
 · have r:i=l.length:=by rw [hn] at r;simp at r;omega
   subst r
   rw [List.drop_length] at hu
   have hu:O=unitF l t:=hu
   exact ⟨by rw [hu],g⟩
end
section
variable {w w' w0 w2 w3:World} {p q:Option Addr} {n m c d V:Nat} {l t T:List Int} {hs:List Sl} {cs:List (List Int)}
theorem box1 {x:Int} {nb:Nat} {w0:World} (h:New (.cells #[.int .i64 x] ty_int) w0 nb w):Vw (Value.int .i64) w (some ⟨nb,0,none⟩) [x]:=by
 intro j hj
 have hj:j=0:=by simpa using hj
 subst hj
 exact ⟨_,rfl,cell_add h.has rfl⟩
end
section
variable {w w' w0 w2 w3:World} {b:Nat} {H H' H2:Pt→Sl} {s t u s' T:PSt} {cp gp dp:Option Addr} {hs:List Sl} {cs:List (List Int)} {gl:List Bool} {dl:List Int} {cn cc gn gc dn dc:Nat} {v:Int}
theorem mem_wo {l:List Int} {x y:Int}:y∈wo l x↔y∈l∧y≠x:=by unfold wo;simp
end
section
variable {w w' w0 w2 w3:World} {b:Nat} {H H' H2:Pt→Sl} {s t u s' T:PSt} {cp gp dp:Option Addr} {hs:List Sl} {cs:List (List Int)} {gl:List Bool} {dl:List Int} {cn cc gn gc dn dc:Nat} {v:Int}
def Told (s:PSt) (r:Int):Prop:=(r= -1∧Closed s)∨∃i:Nat,r=i∧Brk s i
end
section
variable {w w' w0 w2 w3:World} {b:Nat} {H H' H2:Pt→Sl} {s t u s' T:PSt} {cp gp dp:Option Addr} {hs:List Sl} {cs:List (List Int)} {gl:List Bool} {dl:List Int} {cn cc gn gc dn dc:Nat} {v:Int}
theorem dec_decide (g:Good s) (l:Int):(s.decide l).dec=s.dec++ [l]:=by
 have e1:(s.decide l).R .be=s.R .be++ [((s.R .tr).length:Int)]:=by
  unfold PSt.decide;rw [put_R (by simp) (by simp) (by simp) (by simp)];unfold PSt.begin;rw [set_ne (by simp),set_eq]
 have e2:(s.decide l).R .tr=s.R .tr++ [l]:=by
  unfold PSt.decide;rw [put_tr];unfold PSt.begin;rw [set_ne (by simp),set_ne (by simp)]
 unfold PSt.dec
 rw [e1,e2,List.map_append,List.map_singleton,Int.toNat_natCast,getD_append_eq]
 congr 1
 refine List.map_congr_left fun q hq=> ?_
 obtain ⟨j,hj,e3⟩:=List.mem_iff_getElem.1 hq
 have:=g.bl j hj
 simp only [List.getD,List.getElem?_eq_getElem hj,Option.getD_some,e3] at this
 exact getD_append_lt (by omega)
theorem decide_same (l:Int):(s.decide l).vars=s.vars∧(s.decide l).nc=s.nc∧(s.decide l).gone=s.gone∧∀i,(s.decide l).R (.a i)=s.R (.a i):=by
 refine ⟨by simp only [PSt.decide,PSt.put,PSt.begin,PSt.set],by simp only [PSt.decide,PSt.put,PSt.begin,PSt.set],by simp only [PSt.decide,PSt.put,PSt.begin,PSt.set],fun i=> ?_⟩
 unfold PSt.decide
 rw [put_R (by simp) (by simp) (by simp) (by simp)]
 unfold PSt.begin
 rw [set_ne (by simp),set_ne (by simp)]
end
section
variable {w w' w0 w2 w3:World} {b:Nat} {H H' H2:Pt→Sl} {s t u s' T:PSt} {cp gp dp ap:Option Addr} {hs:List Sl} {cs:List (List Int)} {gl:List Bool} {dl:List Int} {cn cc gn gc dn dc an ac:Nat} {v:Int}
theorem dec_ext (g:Good s) (x:Ext s s'):s'.dec=s.dec:=by
 unfold PSt.dec
 rw [x.be]
 obtain ⟨e,he⟩:=x.tr
 rw [he]
 refine List.map_congr_left fun q hq=> ?_
 obtain ⟨j,hj,e2⟩:=List.mem_iff_getElem.1 hq
 have:=g.bl j hj
 simp only [List.getD,List.getElem?_eq_getElem hj,Option.getD_some,e2] at this
 rw [getD_append_lt (by omega)]
theorem back_same (L:Nat):(s.back L).vars=s.vars∧(s.back L).nc=s.nc∧(s.back L).gone=s.gone∧(∀i,(s.back L).R (.a i)=s.R (.a i))∧(s.back L).R .be=(s.R .be).take L∧(s.back L).R .tr=(s.R .tr).take ((s.R .be).getD L 0).toNat:=by
 have key: ∀y,(s.back L).R y=((((s.set .va (clr (s.R .va) ((s.R .tr).drop ((s.R .be).getD L 0).toNat))).set .tr ((s.R .tr).take ((s.R .be).getD L 0).toNat)).set .be ((s.R .be).take L)).set .ds ((s.R .ds).take L)).R y:=fun y=>rfl
 refine ⟨rfl,rfl,rfl,fun i=> ?_,?_,?_⟩
 · rw [key,set_ne (by simp),set_ne (by simp),set_ne (by simp),set_ne (by simp)]
 · rw [key,set_ne (by simp),set_eq]
 · rw [key,set_ne (by simp),set_ne (by simp),set_eq]
end
end Go.Proofs.YtbdghpjnifjlmaaGreat.W
