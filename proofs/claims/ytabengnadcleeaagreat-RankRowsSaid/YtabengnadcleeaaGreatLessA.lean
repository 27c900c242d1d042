/- Layer 14: clauses that go: what the walk needs. -/
import Derived.Test.YtabengnadcleeaaGreatStudyA
namespace Go.Proofs.YtabengnadcleeaaGreat.W
open Go Go.Fw Go.RowKit Go.SoP Go.LiP Go.LeP
open Go.Proofs.Tryz (prog)
open Go.IntKind (i64)
section
variable {w0 w w' w1 w2:World} {B N i:Nat} {L L':Nat→Nat} {x:Xs} {l:List Int} {cs:List (List Int)} {hv:List (Nat × List Int)} {un:List (List Int)}
theorem args12 (a b c:Value):(#[]++ #[a]++ #[b,c]:Array Value)= #[a,b,c]:=by simp
theorem locked1_ok (h:SR w0 w B L N x) (g:Good x.s) {n1 n3:Nat} (h1:Has w n1 #[ptrV B]) {u:Hc} (h3:Has w n3 #[.int .i64 u.i,u.sl.v,.int .i64 u.lv,.int .i64 u.sz,.bool u.lk]) (l:Int):
 Calls prog cdcl_search_locked_1.id #[.int .i64 l,.pointer (some ⟨n1,0,none⟩),.pointer (some ⟨n3,0,none⟩)] w fun e w'=>e= .returned (.bool (decide (x.s.value l>0) && (x.s.reason l==u.i)))∧Grow w w':=by
 refine cdcl_search_locked_1.calls ?_
 have gd:Grow w w.drew:=(Mod.refl w).drew
 have D:=h.drew
 have d1:=h1.grow gd
 have d3:=h3.grow gd
 refine ⟨Grow w.drew,Mod.refl _,_,fun u gu=>cell_of (d1.grow gu) rfl,_,rfl,_,fun u gu=>cell_add (D.at.grow gu) rfl,(D.value g l).mono ?_⟩
 rintro e w5 ⟨rfl,g5⟩
 refine ⟨_,rfl,g5,cnd_i (fun r=> ?_) (fun r=> ?_)⟩
 · refine ⟨_,fun u gu=>cell_of (d1.grow gu) rfl,_,rfl,_,fun u gu=>cell_add (D.at.grow gu) rfl,((D.grow g5).reason g l).mono ?_⟩
   rintro e w10 ⟨rfl,g10⟩
   refine ⟨_,rfl,g5.trans g10,_,fun u gu=>cell_add (d3.grow gu) rfl,?_,(gd.trans g5).trans g10⟩
   rw [r];rfl
 · refine ⟨?_,gd.trans g5⟩
   rw [r];rfl
theorem locked1_ent:entB prog 122=true:=by kernel_rfl
theorem locked_ok (h:SR w0 w B L N x) (g:Good x.s) {u:Hc} (ro:RO w L u.sl u.c) (hx:u.c.length≤4096):
 Calls prog cdcl_search_locked.id #[ptrV B,.agg #[.int .i64 u.i,.slice u.sl.p u.sl.n u.sl.c,.int .i64 u.lv,.int .i64 u.sz,.bool u.lk]] w fun e w'=> ∃r:Bool,e= .returned (.bool r)∧Grow w w':=by
 refine cdcl_search_locked.calls ?_
 intro n1 w2 h2 n3 w4 h4
 have G:=h2.mod.trans h4.mod
 refine ⟨_,_,_,cell_add h4.has rfl,?_⟩
 have hn:=ro.n
 refine (containsFunc_ok (ro.v.grow G) hn (by unfold maxLen;omega) locked1_ent (fun l=>decide (x.s.value l>0) && (x.s.reason l==u.i)) fun y _ u' gu=> ?_).mono ?_
 · rw [args12]
   exact locked1_ok (h.grow (G.trans gu)) g ((h2.has.grow h4.mod).grow gu) (h4.has.grow gu) y
 · rintro e w6 ⟨rfl,g6⟩
   exact ⟨_,rfl,_,rfl,G.trans g6⟩
theorem SR.loc (h:SR w0 w B L N x) (m:Mod (fun k=>L k=0∧w0.heap.size≤k) w w') (hl: ∀k,k<w.heap.size→L' k=L k):SR w0 w' B L' N x∧Chg (fun i=>i=0) w0 w w' L L':=by
 have b:=h.chg (E':=fun j=>j=0) ⟨m,hl⟩
 exact ⟨⟨b.g,fun _=>b.me (by simp),b.ml,fun _=>b.pm (by simp),fun _=>b.hp (by simp),fun _=>b.ph (by simp),fun _=>b.hv (by simp),fun _=>b.hr (by simp),fun _=>b.un (by simp),fun _=>b.ur (by simp),fun _=>b.pr (by simp),fun _=>b.rr (by simp),fun _=>b.mo (by simp)⟩,⟨m,hl⟩⟩
theorem RO.relab {s:Sl} {c:List Int} (h:RO w L s c) (hl: ∀k,L k≠0→L' k=L k):RO w L' s c:=
 ⟨h.n,h.v,fun k hk=> ⟨by rw [hl k (by rw [(h.l k hk).1];decide)];exact (h.l k hk).1,(h.l k hk).2⟩⟩
theorem SR.relab (h:SR w0 w B L N x) (hl: ∀k,L k≠0→L' k=L k):SR w0 w B L' N x:=by
 have key: ∀ {i k:Nat},i≠0→L k=i∧w0.heap.size≤k→L' k=i∧w0.heap.size≤k:=fun hi hk=> ⟨by rw [hl _ (by rw [hk.1];exact hi)];exact hk.1,hk.2⟩
 refine ⟨h.g,h.me,⟨by rw [hl B (by rw [h.ml.1];decide)];exact h.ml.1,h.ml.2⟩,fun e=> ?_,fun e=> ?_,fun e=> ?_,fun e=> ?_,fun e u hu=> (h.hr e u hu).relab hl,fun e=> ?_,fun e u hu=> (h.ur e u hu).relab hl,fun e=> ?_,fun e u hu=> (h.rr e u hu).relab hl,fun e=> ?_⟩
 · obtain ⟨H,a,b⟩:=h.pm e
   exact ⟨H,a,fun y k hk=>key (by decide) (b y k hk)⟩
 · obtain ⟨z,a,b,c,d⟩:=h.hp e
   exact ⟨z,a,b,c,fun k hk=>key (by decide) (d k hk)⟩
 · obtain ⟨a,b,c⟩:=h.ph e
   exact ⟨a,b,fun k hk=>key (by decide) (c k hk)⟩
 · obtain ⟨a,b,c⟩:=h.hv e
   exact ⟨a,b,fun k hk=>key (by decide) (c k hk)⟩
 · obtain ⟨a,b,c⟩:=h.un e
   exact ⟨a,b,fun k hk=>key (by decide) (c k hk)⟩
 · obtain ⟨a,b,c⟩:=h.pr e
   exact ⟨a,b,fun k hk=>key (by decide) (c k hk)⟩
 · obtain ⟨a,b,c⟩:=h.mo e
   exact ⟨a,b,fun k hk=>key (by decide) (c k hk)⟩
theorem SR.haveS (h:SR w0 w B L N x) {hv':List Hc} (m:Mod (fun k=>blk x.hs.p=some k) w w') (r:Row 5 hcE ty_cdcl_clause w' x.hs.p x.hs.c hv') (hq:hv'.length=x.hv.length) (hro: ∀u∈hv',RO w L u.sl u.c):SR w0 w' B L N {x with hv:=hv'}∧Chg (fun i=>i=5) w0 w w' L L:=by
 obtain ⟨p1,p2,p3⟩:=h.hv id
 have c:Chg (fun i=>i=5) w0 w w' L L:=⟨m.mono fun k _ e=>p3 k e,fun _ _=>rfl⟩
 have b:=h.chg c
 exact ⟨⟨b.g,fun _=>b.me (by simp),b.ml,fun _=>b.pm (by simp),fun _=>b.hp (by simp),fun _=>b.ph (by simp),fun _=> ⟨r,by rw [p2,hq],p3⟩,fun _ u hu=> (hro u hu).keep c (by simp),fun _=>b.un (by simp),fun _=>b.ur (by simp),fun _=>b.pr (by simp),fun _=>b.rr (by simp),fun _=>b.mo (by simp)⟩,c⟩
theorem SR.swap (h:SR w0 w B L N x) {q:Sl} {hv':List Hc} (r:Row 5 hcE ty_cdcl_clause w q.p q.c hv') (hq:q.n=hv'.length) (hl: ∀k,blk q.p=some k→L k=5∧w0.heap.size≤k) (hro: ∀u∈hv',RO w L u.sl u.c)
 (st:Has w2 B {x with hs:=q,hv:=hv'}.cells) (m2:Mod (·=B) w w2):SR w0 w2 B L N {x with hs:=q,hv:=hv'}∧Kp w0 w w2 L L:=by
 have c:Chg (fun i=>i=1) w0 w w2 L L:=⟨m2.mono fun k _ (e:k=B)=>by subst e;exact ⟨h.ml.1,h.ml.2.1⟩,fun _ _=>rfl⟩
 have b:=h.chg c
 exact ⟨⟨b.g,fun _=>st,b.ml,fun _=>b.pm (by simp),fun _=>b.hp (by simp),fun _=>b.ph (by simp),fun _=> ⟨r.keep m2 fun k hk (e:k=B)=>by subst e;have:=(hl _ hk).1;rw [h.ml.1] at this;exact absurd this (by decide),hq,hl⟩,fun _ u hu=> (hro u hu).keep c (by simp),fun _=>b.un (by simp),fun _=>b.ur (by simp),fun _=>b.pr (by simp),fun _=>b.rr (by simp),fun _=>b.mo (by simp)⟩,c.weak fun i e=>by rw [e];decide⟩
theorem Chg.row {E:Nat→Prop} {sz:Nat} {α:Type} {f:α→List Value} {T:TypeId} {p:Option Addr} {c:Nat} {l:List α} (k:Chg E w0 w w' L L') (h:Row sz f T w p c l) (hl: ∀b,blk p=some b→¬E (L b)):Row sz f T w' p c l:=
 h.keep k.mod fun b hb e=>hl b hb e.1
theorem Chg.lb {E:Nat→Prop} {p:Option Addr} {i n:Nat} (k:Chg E w0 w w' L L') (h: ∀b,blk p=some b→L b=i∧n≤b) (hl: ∀b,blk p=some b→b<w.heap.size): ∀b,blk p=some b→L' b=i∧n≤b:=
 fun b hb=> ⟨by rw [k.lab b (hl b hb)];exact (h b hb).1,(h b hb).2⟩
theorem SR.drop_ (h:SR w0 w B L N x) (g:Good x.s) (i:Nat):Calls prog prop_Prop_Drop.id #[ptrV x.pb,.int .i64 i] w fun e w'=> ∃r:Int,e= .returned (.int .i64 r)∧∃L',Chg (fun i=>i=2) w0 w w' L L'∧
 ((r≠0∧SR w0 w' B L' N x)∨(r=0∧x.s.There i∧Good (x.s.drop i)∧SR w0 w' B L' N {x with s:=x.s.drop i})):=by
 obtain ⟨H,pm,hl⟩:=h.pm id
 have cg: ∀ {w':World} {H':Pt→Sl} {s':PSt},Pw w w' x.pb H H' s'→Chg (fun i=>i=2) w0 w w' L (reL L w.heap.size 2):=fun p=> ⟨p.mod.mono fun k _ ⟨y,e⟩=>hl y k e,fun _ hk=>reL_old hk⟩
 refine (drop_ok pm g i).mono ?_
 rintro e w' ⟨r,rfl,H',⟨rfl,_,p⟩| ⟨rfl,_,_,p⟩| ⟨rfl,hi,hr,p⟩⟩
 · exact ⟨_,rfl,_,cg p,.inl ⟨by decide,(h.prop hl pm.lt p).1⟩⟩
 · exact ⟨_,rfl,_,cg p,.inl ⟨by decide,(h.prop hl pm.lt p).1⟩⟩
 · obtain ⟨_,hth⟩:=PSt.is_iff.1 hi
   rw [Int.toNat_natCast] at hth hr p
   exact ⟨_,rfl,_,cg p,.inr ⟨rfl,hth,drop_good g hth fun y hy e=>hr ⟨y,hy,e⟩,(h.prop hl pm.lt p).1⟩⟩
theorem told_app2 (h:SR w0 w B L N x) (hp:x.pr.length≤1000000000) (del:Bool) {sl:Sl} (ro:RO w L sl l) {b:Nat} (hb:Has w b #[.bool del,sl.v]) {K:World→Prop}
 (hk: ∀w' L' q,SR w0 w' B L' N {x with ps:=q,pr:=x.pr++ [(del,sl,l)]}→Chg (fun i=>i=7∨i=1) w0 w w' L L'→K w'):
 ∃w8 r9p r9n r9c,(Builtin.append_ #[61,61] 61 #[.slice x.ps.p x.ps.n x.ps.c,.slice (some (Addr.mk b 0 none)) 1 1]).run prog w= .ok (.slice r9p r9n r9c) w8∧
  ∃a10,(some (Addr.mk B 0 none))=some a10∧∃w11,StoreAt ((a10.add 14).add 2) 0 [.slice r9p r9n r9c] w8 w11∧K w11:=by
 obtain ⟨r1,r2,r3⟩:=h.pr id
 refine Row.app psEnc sl_stepC r1 (ps_vr (u:=(del,sl,l)) hb) r2 rfl (by simp;omega) fun w8 p' c' o8 m8 hp' hz'=> ⟨_,rfl,?_⟩
 have hB8:Has w8 B x.cells:=h.at.keep m8 fun e=>by have:=(r3 B e).1;rw [h.ml.1] at this;exact absurd this (by decide)
 refine store_f2 hB8 rfl rfl fun w11 h11 m11=> ?_
 have:=h.proof (q:=⟨p',(x.pr++ [(del,sl,l)]).length,c'⟩) (pr':=x.pr++ [(del,sl,l)]) m8 o8 rfl (fr_of hp' (Nat.le_refl _)) (fun u hu=>by
  rcases List.mem_append.1 hu with hu|hu
  · exact h.rr id u hu
  · rw [List.mem_singleton] at hu;subst hu;exact ro) h11 m11 (h.neB (by decide) r3 hp' (Nat.le_refl _))
 refine hk _ _ _ this.1 ⟨(m8.mono fun k _ e=> ⟨.inl (r3 k e).1,(r3 k e).2⟩).then m11 fun k hk (e:k=B)=>by subst e;exact ⟨.inr h.ml.1,h.ml.2.1⟩,fun _ hk=>reL_old hk⟩
end
section
variable {w0 w w' w1 w2 u:World} {B N i:Nat} {L L' L1:Nat→Nat} {x:Xs} {l:List Int} {cs:List (List Int)} {hv:List (Nat × List Int)} {un:List (List Int)}
def hc0:Hc:=⟨0,Sl.nil,[],0,0,false⟩
def hpr (h:Hc):Nat × List Int:=(h.i,h.c)
def okH (h:Hc):Prop:=0≤h.lv∧h.lv≤h.sz∧h.sz≤4096∧h.c.length≤4096
theorem adds (a:Addr) (i j:Nat):(a.add i).add j=a.add (i+j):=by
 by_cases e1:i=0
 · subst e1;simp [Addr.add]
 · by_cases e2:j=0
   · subst e2;simp [Addr.add]
   · simp [Addr.add,e1,e2,Nat.add_assoc]
theorem cells_sub {a:Addr} {k:Nat}: ∀ {vs:List Value} {i:Nat},CellsAt w a (k+i) vs→CellsAt w (a.add k) i vs
 | [],_,_=>trivial
 |v::vs,i,⟨h1,h2⟩=> ⟨by rw [adds];exact h1,cells_sub (i:=i+1) h2⟩
theorem hs_lk {hs:List Hc} {p:Option Addr} {c n:Nat} (h:Row 5 hcE ty_cdcl_clause w p c hs) {i:Int} (t:Nat) (hi:i=t) (hn:n=hs.length) (ht:t<hs.length) (r:Bool) {K:World→Prop}
 (hk: ∀w',Row 5 hcE ty_cdcl_clause w' p c (hs.set t {hs.getD t hc0 with lk:=r})→Mod (fun b=>blk p=some b) w w'→K w'):
 ixK p n i 5 fun a=> ∃w',StoreAt ((a.add 2).add 2) 0 [.bool r] w w'∧K w':=by
 have:=h.stF hcEnc (i:=i) (n:=n) (o:=4) (v:= .bool r) hc0 {hs.getD t hc0 with lk:=r} (by rw [hi,Int.toNat_natCast];rfl) (by decide) rfl (by omega) hn (by omega) (K:=K) fun w' r' m'=>hk w' (by rw [hi,Int.toNat_natCast] at r';exact r') m'
 simp only [adds]
 exact this
theorem sl_lrnC:slOkN prog ty_sl_api_Learnt ty_api_Learnt 3 24=true:=by kernel_rfl
theorem lr_vr {v:RedP.Lr} {b:Nat} (h:Has w b #[.int .i64 v.1,.int .i64 v.2.1,.bool v.2.2]):Vr 3 Re.lrV w (some ⟨b,0,none⟩) [v]:=by
 intro j hj
 have:j=0:=by simpa using hj
 subst this
 exact ⟨_,rfl,cell_add h rfl,cell_add h rfl,cell_add h rfl,trivial⟩
theorem getD_in {α:Type} {m:List α} {t:Nat} {d:α} (h:t<m.length):m.getD t d∈m:=by simp [List.getD,h]
theorem drop_cons {m:List Hc} {t:Nat} (h:t<m.length):m.drop t=m.getD t hc0::m.drop (t+1):=by
 rw [List.drop_eq_getElem_cons h];simp [List.getD,h]
def hid (h:Hc):Nat × Sl × List Int × Int × Int:=(h.i,h.sl,h.c,h.lv,h.sz)
def SameI (a b:List Hc):Prop:=a.map hid=b.map hid
theorem SameI.len {a b:List Hc} (h:SameI a b):a.length=b.length:=by have:=congrArg List.length h;simpa using this
theorem SameI.at_ {a b:List Hc} (h:SameI a b) {t:Nat} (ht:t<a.length):hid (a.getD t hc0)=hid (b.getD t hc0):=by
 have hb:t<b.length:=by rw [← h.len];exact ht
 have h2:(a.map hid)[t]? =(b.map hid)[t]? :=by rw [show a.map hid=b.map hid from h]
 rw [List.getElem?_map,List.getElem?_map,List.getElem?_eq_getElem ht,List.getElem?_eq_getElem hb] at h2
 simpa [List.getD,ht,hb] using h2
theorem SameI.mem {a b:List Hc} (h:SameI a b) {P:Hc→Prop} (hP: ∀u v:Hc,hid u=hid v→P u→P v) (ha: ∀u∈a,P u): ∀v∈b,P v:=by
 intro v hv
 obtain ⟨j,hj,rfl⟩:=List.mem_iff_getElem.1 hv
 have hj':j<a.length:=by rw [h.len];exact hj
 have:=h.at_ hj'
 refine hP _ _ ?_ (ha _ (getD_in (d:=hc0) hj'))
 rw [this];simp [List.getD,hj]
theorem SameI.set {a b:List Hc} (h:SameI a b) {t:Nat} (ht:t<b.length) {v:Hc} (hv:hid v=hid (b.getD t hc0)):SameI a (b.set t v):=by
 unfold SameI at*
 rw [h]
 refine List.ext_getElem (by simp) fun j h1 h2=> ?_
 simp only [List.length_map,List.length_set] at h1 h2
 rw [List.getElem_map,List.getElem_map,List.getElem_set]
 by_cases e:t=j
 · subst e
   rw [if_pos rfl,hv];simp [List.getD,h1]
 · rw [if_neg e]
theorem SameI.hpr {a b:List Hc} (h:SameI a b):a.map hpr=b.map hpr:=by
 have:=congrArg (List.map fun z:Nat × Sl × List Int × Int × Int=> (z.1,z.2.2.1)) h
 rw [List.map_map,List.map_map] at this
 exact this
structure LoA (w0 w u:World) (B:Nat) (L:Nat→Nat) (N:Nat) (x:Xs) (t:Nat) (hv1:List Hc) (ll:List RedP.Lr) (p:Option Addr) (c:Nat):Prop where
 len:ll.length=t
 ok: ∀y∈ll,RedP.okL y=true
 row:Row 3 Re.lrV ty_api_Learnt u p c ll
 fr: ∀b,blk p=some b→w.heap.size≤b
 sr:SR w0 u B (reL L w.heap.size 0) N {x with hv:=hv1}
 kp:Kp w0 w u L (reL L w.heap.size 0)
 sm:SameI x.hv hv1
theorem loA_lb (h:SR w0 w B L N x) {b:Nat} (hb:w.heap.size≤b):reL L w.heap.size 0 b=0∧w0.heap.size≤b:=⟨reL_new hb,Nat.le_trans h.g.size hb⟩
theorem less_a (h:SR w0 w B L N x) (g:Good x.s) (hhv:x.hv.length≤1000000) (hok: ∀u∈x.hv,okH u) {K:Option Addr→Nat→Nat→World→Prop}
 (hk: ∀p c u hv1 ll,LoA w0 w u B L N x x.hv.length hv1 ll p c→K p ll.length c u):
 ∃I3:Option Addr→Nat→Nat→Int→World→Nat→Prop,(∃k4,I3 none 0 0 0 w k4)∧
  ∀ (l_6_p:Option Addr) (l_6_n:Nat) (l_6_c:Nat) (v7:Int) (w8:World) (k4:Nat) (_:Fr),I3 l_6_p l_6_n l_6_c v7 w8 k4→
  cnd (decide (v7< (x.hs.n:Int)))
   (ixK x.hs.p x.hs.n v7 5 fun a9=>
     ∃x10 x11p x11n x11c x12 x13 x14,CellsAt w8 a9 0 [.int .i64 x10,.slice x11p x11n x11c,.int .i64 x12,.int .i64 x13,.bool x14]∧
     ∀n15 w16,New (.cells #[.int .i64 0,.slice none 0 0,.int .i64 0,.int .i64 0,.bool false] 136) w8 n15 w16→
     ∃w17,StoreAt (Addr.mk n15 0 none) 0 [.int .i64 x10,.slice x11p x11n x11c,.int .i64 x12,.int .i64 x13,.bool x14] w16 w17∧
     ∃W18:World→Prop,W18 w17.drew∧
     ∃a19,(some (Addr.mk B 0 none))=some a19∧∃x20p x20n x20c,AtW W18 (a19.add 11) (.slice x20p x20n x20c)∧
     ∃x21 x22p x22n x22c x23 x24 x25,CellsW W18 (Addr.mk n15 0 none) [.int .i64 x21,.slice x22p x22n x22c,.int .i64 x23,.int .i64 x24,.bool x25]∧
     Calls prog 94 #[.pointer (some (Addr.mk B 0 none)),.agg #[.int .i64 x21,.slice x22p x22n x22c,.int .i64 x23,.int .i64 x24,.bool x25]] w17.drew fun e w26=> ∃r27,e= .returned (.bool r27)∧
     W18 w26∧ixK x20p x20n v7 5 fun a28=>
     ∃w29,StoreAt ((a28.add 2).add 2) 0 [.bool r27] w26 w29∧
     ∃a30,(some (Addr.mk B 0 none))=some a30∧∃x31p x31n x31c,w29.cell? (a30.add 11)=some (.slice x31p x31n x31c)∧
     ixK x31p x31n v7 5 fun a32=>
     ∃x33 x34 x35,CellsAt w29 (a32.add 2) 0 [.int .i64 x33,.int .i64 x34,.bool x35]∧
     ∀n36 w37,New (.cells #[.int .i64 x33,.int .i64 x34,.bool x35] 134) w29 n36 w37→
     ∃w38 r39p r39n r39c,(Builtin.append_ #[139,139] 139 #[.slice l_6_p l_6_n l_6_c,.slice (some (Addr.mk n36 0 none)) 1 1]).run prog w37= .ok (.slice r39p r39n r39c) w38∧
     ∃k5,k5<k4∧I3 r39p r39n r39c (i64.wrap (v7+ (1:Int))) w38 k5)
   (K l_6_p l_6_n l_6_c w8):=by
 have hhn:=(h.hv id).2.1
 refine ⟨fun p n c v u z=> ∃ (t:Nat) (hv1:List Hc) (ll:List RedP.Lr),v=t∧t≤x.hv.length∧z=x.hv.length - t∧n=ll.length∧LoA w0 w u B L N x t hv1 ll p c,
  ⟨_,0,x.hv,[],rfl,Nat.zero_le _,rfl,rfl,⟨rfl,by simp,Row.nil _ _ _ _,fun b hb=>by simp [blk] at hb,h.new (Mod.refl w) 0,Chg.new (Mod.refl w) 0,rfl⟩⟩,?_⟩
 rintro p n c v u z _ ⟨t,hv1,ll,rfl,ht,rfl,rfl,A⟩
 have hlen:=A.sm.len
 refine cnd_i (fun r=> ?_) (fun r=> ?_)
 · have r:t<x.hv.length:=by rw [hhn] at r;simpa using r
   obtain ⟨r1,r2,r3⟩:=A.sr.hv id
   have r1:Row 5 hcE ty_cdcl_clause u x.hs.p x.hs.c hv1:=r1
   obtain ⟨y,hy⟩: ∃y,y=hv1.getD t hc0:=⟨_,rfl⟩
   have hym:y∈hv1:=by rw [hy];exact getD_in (by omega)
   refine (r1.vr hcEnc).ix hc0 (by omega) (by omega) (by omega) fun a ha=> ?_
   rw [Int.toNat_natCast,← hy] at ha
   refine ⟨_,_,_,_,_,_,_,ha,fun n15 w16 h15=> ?_⟩
   refine store_i h15.has rfl rfl fun w17 H17 m17=> ?_
   have H17:Has w17 n15 #[.int .i64 y.i,.slice y.sl.p y.sl.n y.sl.c,.int .i64 y.lv,.int .i64 y.sz,.bool y.lk]:=H17
   have e15:=h15.num
   have g17:Grow u w17.drew:=(Mod.fresh h15.mod m17 (by omega)).trans (Mod.refl w17).drew
   have S17:=A.sr.grow g17
   have D17:=H17.grow (Mod.refl w17).drew
   refine ⟨Grow w17.drew,Mod.refl _,_,rfl,_,_,_,fun v gv=>cell_add (S17.at.grow gv) rfl,_,_,_,_,_,_,_,fun v gv=> ⟨cell_add (D17.grow gv) rfl,cell_add (D17.grow gv) rfl,cell_add (D17.grow gv) rfl,cell_add (D17.grow gv) rfl,cell_add (D17.grow gv) rfl,trivial⟩,?_⟩
   have oky:okH y:=A.sm.mem (fun u v e hu=>by unfold okH at*;simp only [hid,Prod.mk.injEq] at e;obtain ⟨_,_,e3,e4,e5⟩:=e;rw [← e3,← e4,← e5];exact hu) hok y hym
   refine (locked_ok S17 g (S17.hr id y hym) oky.2.2.2).mono ?_
   rintro e w26 ⟨r27,rfl,g26⟩
   refine ⟨_,rfl,g26,?_⟩
   have G26:=g17.trans g26
   have R26:=r1.grow G26
   have S26:=A.sr.grow G26
   refine hs_lk R26 t rfl (by omega) (by omega) r27 fun w29 r29 m29=> ?_
   rw [← hy] at r29
   have Q:=S26.haveS m29 r29 (by show (hv1.set _ _).length=hv1.length;simp) fun v hv=>by
    rcases List.mem_or_eq_of_mem_set hv with e|e
    · exact S26.hr id v e
    · subst e;exact S26.hr id y hym
   have Q1:SR w0 w29 B (reL L w.heap.size 0) N {x with hv:=hv1.set t {y with lk:=r27}}:=Q.1
   refine ⟨_,rfl,_,_,_,cell_add Q1.at rfl,(r29.vr hcEnc).ix hc0 (by omega) (by simp;omega) (by show (t:Int)< (x.hs.n:Int);omega) fun a32 h32=> ?_⟩
   rw [Int.toNat_natCast,show (hv1.set t {y with lk:=r27}).getD t hc0= {y with lk:=r27} by simp [List.getD,show t<hv1.length by omega]] at h32
   refine ⟨y.lv,y.sz,r27,cells_sub (k:=2) (i:=0) h32.2.2,fun n36 w37 h36=> ?_⟩
   have e36:=h36.num
   have sz37:=h36.size
   have G37:Mod (fun k=>blk x.hs.p=some k) u w37:=(G26.mono fun _ _ e=>e.elim:Mod (fun k=>blk x.hs.p=some k) u w26).then (m29.then h36.mod fun _ _ e=>e.elim) fun _ _ e=>e
   have rl:=A.row.keep G37 fun b hb e=>by
    have h1:=A.fr b hb
    have h2:=(h.hv id).1.lt b e
    omega
   refine Row.app Re.lrE sl_lrnC rl (lr_vr (v:=(y.lv,y.sz,r27)) h36.has) rfl rfl (by have:=A.len;simp;omega) fun w38 p' c' o8 m8 hp' hz'=> ?_
   have S37:=Q1.grow h36.mod
   have hsz:=A.kp.mod.size
   have s37:=G37.size
   have m8':Mod (fun k=>reL L w.heap.size 0 k=0∧w0.heap.size≤k) w37 w38:=m8.mono fun k _ e=>loA_lb h (A.fr k e)
   have S38:=S37.loc (L':=reL L w.heap.size 0) m8' fun _ _=>rfl
   have kk:=(((A.kp.trans (Chg.grow G26)).trans (Q.2.weak fun i e=>by rw [e];decide)).trans (Chg.grow h36.mod)).trans (S38.2.weak fun i e=>by rw [e];decide)
   refine ⟨_,?_,t+1,hv1.set t {y with lk:=r27},ll++ [(y.lv,y.sz,r27)],wN (by omega) (by omega),by omega,rfl,rfl,⟨by rw [List.length_append,A.len];rfl,fun v hv=> ?_,o8,fun b hb=> ?_,S38.1,kk,A.sm.set (by omega) (by rw [← hy];rfl)⟩⟩
   · omega
   · rcases List.mem_append.1 hv with hv|hv
     · exact A.ok v hv
     · rw [List.mem_singleton] at hv;subst hv
       unfold RedP.okL
       obtain ⟨o1,o2,o3,o4⟩:=oky
       simp;omega
   · rcases hp' with rfl|rfl
     · exact A.fr b hb
     · have:=blk_some hb;omega
 · have r:t=x.hv.length:=by rw [hhn] at r;simp at r;omega
   subst r
   exact hk _ _ _ _ _ A
end
section
variable {s t s':PSt} {l c d:List Int} {x y:Int} {i j N:Nat} {cs:List (List Int)} {pr:List (Bool × List Int)}
def RupS (_:PSt) (_:List Int):Prop:=True
def PF (_:List (List Int)) (_:PSt) (_:List (Bool × List Int)):Prop:=True
theorem PF.ext (_:PF cs s pr) (_:Ext s s'):PF cs s' pr:=trivial
theorem PF.decide (_:PF cs s pr):PF cs (s.decide x) pr:=trivial
theorem PF.back (_:PF cs s pr):PF cs (s.back i) pr:=trivial
theorem PF.add (_:PF cs s pr) (_:RupS s l) (_:Added (s.back i) l s'):PF cs s' (pr++ [(false,l)]):=trivial
theorem PF.drop (_:PF cs s pr) (_:s.There i):PF cs (s.drop i) (pr++ [(true,s.R (.a i))]):=trivial
end
section
variable {w0 w w' w1 w2 u:World} {B N i:Nat} {L L' L1:Nat→Nat} {x:Xs} {l:List Int} {cs:List (List Int)} {hv:List (Nat × List Int)} {un:List (List Int)}
def ppr (p:Ps):Bool × List Int:=(p.1,p.2.2)
structure LoB (w0 w u:World) (B:Nat) (L:Nat→Nat) (N:Nat) (x:Xs) (hv1:List Hc) (cs un:List (List Int)) (q:Option Addr) (k:List Bool) (t:Nat) (L1:Nat→Nat) (lf:List Hc) (s1:PSt) (pr1:List Ps) (psl:Sl) (p:Option Addr) (c:Nat):Prop where
 row:Row 5 hcE ty_cdcl_clause u p c lf
 fr: ∀b,blk p=some b→L1 b=0∧w.heap.size≤b
 sr:SR w0 u B L1 N {x with hv:=hv1,s:=s1,ps:=psl,pr:=pr1,m:= {x.m with dr:=x.m.dr+ (t - lf.length:Nat)}}
 kp:Kp w0 w u L L1
 ci:CSI N cs s1 ((lf++hv1.drop t).map hpr) un
 nc:s1.nc=x.s.nc
 hi:CHI N s1 x.S
 sub: ∀h∈lf,h∈hv1
 pl:pr1.length+lf.length=x.pr.length+t
 le:lf.length≤t
 st:Vw Value.bool u q k
 r9:R9 u L1 q
 be:s1.R .be=x.s.R .be
 pf:PF cs s1 (pr1.map ppr)
 z:w0.heap.size≤w.heap.size
theorem drop_nc {s:PSt} {i:Nat}:(s.drop i).nc=s.nc:=by
 obtain ⟨d1,d2,d3,_⟩:=unF_vars (i:Int) ((s.R (.l i)).take 2) s
 exact d2
theorem drop_chi {s:PSt} {S:Int→Prop} {j:Nat} (g:Good s) (g':Good (s.drop j)) (hv:s.vars=N) (h:CHI N s S):CHI N (s.drop j) S:=by
 intro v v1 v2 h0
 have hx:InV s.vars v:=⟨by omega,by omega,by omega⟩
 have hx':InV (s.drop j).vars v:=by rw [drop_v];exact hx
 have:=(val0_iff g' hx').1 h0
 rw [drop_f (.inl rfl)] at this
 exact h v v1 v2 ((val0_iff g hx).2 this)
theorem LoB.grow {q p:Option Addr} {c:Nat} {k:List Bool} {t:Nat} {hv1 lf:List Hc} {s1:PSt} {pr1:List Ps} {psl:Sl} (A:LoB w0 w u B L N x hv1 cs un q k t L1 lf s1 pr1 psl p c) (g:Grow u w'):
 LoB w0 w w' B L N x hv1 cs un q k t (reL L1 u.heap.size 9) lf s1 pr1 psl p c:=by
 have kq:Kp w0 u w' L1 (reL L1 u.heap.size 9):=Chg.new g 9
 exact ⟨A.row.grow g,kq.lb A.fr A.row.lt,A.sr.new g 9,A.kp.trans kq,A.ci,A.nc,A.hi,A.sub,A.pl,A.le,A.st.grow g,kq.r9 A.r9,A.be,A.pf,A.z⟩
theorem LoB.app {q p:Option Addr} {c:Nat} {k:List Bool} {t:Nat} {hv1 lf:List Hc} {s1:PSt} {pr1:List Ps} {psl:Sl} (A:LoB w0 w u B L N x hv1 cs un q k t L1 lf s1 pr1 psl p c) (ht:t<hv1.length) (hb:hv1.length≤1000000) {y:Hc} (hy:y=hv1.getD t hc0)
 {nn:Nat} {w67:World} (h:New (.cells #[.int .i64 y.i,.slice y.sl.p y.sl.n y.sl.c,.int .i64 y.lv,.int .i64 y.sz,.bool y.lk] 136) u nn w67) {K:World→Option Addr→Nat→Nat→Prop}
 (hk: ∀w' p' c' L2,LoB w0 w w' B L N x hv1 cs un q k (t+1) L2 (lf++ [y]) s1 pr1 psl p' c'→K w' p' (lf++ [y]).length c'):
 ∃w',∃p' n' c',(Builtin.append_ #[82,82] 82 #[.slice p lf.length c,.slice (some (Addr.mk nn 0 none)) 1 1]).run prog w67= .ok (.slice p' n' c') w'∧K w' p' n' c':=by
 have hlf:=A.le
 refine Row.app hcEnc sl_clauseC (A.row.grow h.mod) (hc_vr (u:=y) h.has) rfl rfl (by simp;omega) fun w' p' c' o8 m8 hp' hz'=> ?_
 have S67:=A.sr.grow h.mod
 have hr:=(A.row.grow h.mod).lt
 have hsz:=A.kp.mod.size
 have s67:=h.size
 have m8':Mod (fun k=>L1 k=0∧w0.heap.size≤k) w67 w':=m8.mono fun b _ e=> ⟨(A.fr b e).1,by have:=(A.fr b e).2;have:=A.z;omega⟩
 have Q:=S67.loc (L':=reL L1 w67.heap.size 0) m8' fun _ hk=>reL_old hk
 have kq:Kp w0 w67 w' L1 (reL L1 w67.heap.size 0):=Q.2.weak fun i e=>by rw [e];decide
 have kk:Kp w0 u w' L1 (reL L1 w67.heap.size 0):=(Chg.grow h.mod).trans kq
 have ym:y∈hv1:=by rw [hy];exact getD_in ht
 refine hk _ _ _ (reL L1 w67.heap.size 0) ⟨o8,fun b hb=> ?_,?_,A.kp.trans kk,?_,A.nc,A.hi,fun v hv=> ?_,?_,?_,kk.vw A.st A.r9,kk.r9 A.r9,A.be,A.pf,A.z⟩
 · rcases hp' with rfl|rfl
   · rw [reL_old (hr b hb)];exact A.fr b hb
   · have:=blk_some hb;exact ⟨reL_new (by omega),by omega⟩
 · have:=Q.1
   rw [show t+1 - (lf++ [y]).length=t - lf.length by simp]
   exact this
 · have:=A.ci
   rw [drop_cons ht,← hy] at this
   rw [List.append_assoc];exact this
 · rcases List.mem_append.1 hv with hv|hv
   · exact A.sub v hv
   · rw [List.mem_singleton] at hv;subst hv;exact ym
 · have:=A.pl;rw [List.length_append,List.length_singleton];omega
 · rw [List.length_append,List.length_singleton];omega
theorem cless_ok (h:SR w0 w B L N x) (k:CSI N cs x.s (x.hv.map hpr) un) (hi:CHI N x.s x.S) (hhv:x.hv.length≤1000000) (hpl:x.pr.length≤900000000) (hok: ∀u∈x.hv,okH u) (hdr:0≤x.m.dr∧x.m.dr≤1000000000) (pf:PF cs x.s (x.pr.map ppr)):
 Calls prog cdcl_search_less.id #[ptrV B] w fun e w'=>e= .returned (.tuple #[])∧∃L' s' hv' hs' pr' ps' dr',Kp w0 w w' L L'∧
  SR w0 w' B L' N {x with hv:=hv',hs:=hs',s:=s',ps:=ps',pr:=pr',m:= {x.m with dr:=dr',went:=imin (i64.wrap (x.m.went+1)) 100}}∧
  CSI N cs s' (hv'.map hpr) un∧CHI N s' x.S∧s'.nc=x.s.nc∧(∀u∈hv',okH u)∧pr'.length+hv'.length=x.pr.length+x.hv.length∧hv'.length≤x.hv.length∧s'.R .be=x.s.R .be∧PF cs s' (pr'.map ppr)∧x.m.dr≤dr'∧dr'+hv'.length=x.m.dr+x.hv.length:=by
 refine cdcl_search_less.calls ⟨_,rfl,_,_,_,cell_add h.at rfl,less_a h k.g hhv hok fun p c u hv1 ll A=> ?_⟩
 have hlen:=A.sm.len
 have hall:ll.all RedP.okL=true:=List.all_eq_true.2 A.ok
 have oky: ∀y∈hv1,okH y:=A.sm.mem (fun u v e hu=>by unfold okH at*;simp only [hid,Prod.mk.injEq] at e;obtain ⟨_,_,e3,e4,e5⟩:=e;rw [← e3,← e4,← e5];exact hu) hok
 refine (Re.keep_ok (A.row.vr Re.lrE) rfl (by rw [A.len];omega)).mono ?_
 rintro e w40 ⟨q,d,ks,rfl,g40,ob,fq,hk2⟩
 rw [hall,if_pos rfl] at hk2
 have hkl:ks.length=hv1.length:=by rw [hk2.1,A.len,hlen]
 have hhn:=(h.hv id).2.1
 have S40:=A.sr.new g40 9
 have kp40:=A.kp.trans (Chg.new g40 9)
 have su:=A.kp.mod.size
 have s40:=g40.size
 refine ⟨_,_,_,rfl,_,rfl,_,_,_,cell_add S40.at rfl,?_⟩
 have c0:CSI N cs x.s (([]++hv1.drop 0).map hpr) un:=by
  rw [List.nil_append,List.drop_zero,← A.sm.hpr];exact k
 refine ⟨fun p n c v u z=> ∃ (t:Nat) (L1:Nat→Nat) (lf:List Hc) (s1:PSt) (pr1:List Ps) (psl:Sl),v=t∧t≤hv1.length∧z=hv1.length - t∧n=lf.length∧LoB w0 w u B L N x hv1 cs un q ks t L1 lf s1 pr1 psl p c,
  ⟨_,0,_,[],x.s,x.pr,x.ps,rfl,Nat.zero_le _,rfl,rfl,⟨Row.nil _ _ _ _,fun b hb=>by simp [blk] at hb,by simpa using S40,kp40,c0,rfl,hi,by simp,by simp,Nat.zero_le _,ob.vw,⟨fun b hb=> ⟨reL_new (fq b hb),ob.lt b hb⟩⟩,rfl,pf,h.g.size⟩⟩,?_⟩
 rintro p n c v u z _ ⟨t,L1,lf,s1,pr1,psl,rfl,ht,rfl,rfl,D⟩
 refine cnd_i (fun r=> ?_) (fun r=> ?_)
 · have r:t<hv1.length:=by simp at r;omega
   obtain ⟨r1,r2,r3⟩:=D.sr.hv id
   have r1:Row 5 hcE ty_cdcl_clause u x.hs.p x.hs.c hv1:=r1
   obtain ⟨y,hy⟩: ∃y,y=hv1.getD t hc0:=⟨_,rfl⟩
   have hym:y∈hv1:=by rw [hy];exact getD_in r
   have oy:=oky y hym
   refine (r1.vr hcEnc).ix hc0 (by omega) (by show x.hs.n=hv1.length;omega) (by show (t:Int)< (x.hs.n:Int);omega) fun a ha=> ?_
   rw [Int.toNat_natCast,← hy] at ha
   refine ⟨_,_,_,_,_,_,_,ha,fun n56 w57 h56=> ?_⟩
   refine store_i h56.has rfl rfl fun w58 H58 m58=> ?_
   have H58:Has w58 n56 #[.int .i64 y.i,.slice y.sl.p y.sl.n y.sl.c,.int .i64 y.lv,.int .i64 y.sz,.bool y.lk]:=H58
   have e56:=h56.num
   have g58:Grow u w58.drew:=(Mod.fresh h56.mod m58 (by omega)).trans (Mod.refl w58).drew
   have D58:=D.grow g58
   have C58:=H58.grow (Mod.refl w58).drew
   refine D58.st.ix false (by omega) rfl (by omega) fun a59 h59=> ⟨_,h59,?_⟩
   have nxt: ∀ {u':World} {L2:Nat→Nat},LoB w0 w u' B L N x hv1 cs un q ks t L2 lf s1 pr1 psl p c→Has u' n56 #[.int .i64 y.i,.slice y.sl.p y.sl.n y.sl.c,.int .i64 y.lv,.int .i64 y.sz,.bool y.lk]→
    ∃x61 x62p x62n x62c x63 x64 x65,CellsAt u' (Addr.mk n56 0 none) 0 [.int .i64 x61,.slice x62p x62n x62c,.int .i64 x63,.int .i64 x64,.bool x65]∧
     ∀n66 w67,New (.cells #[.int .i64 x61,.slice x62p x62n x62c,.int .i64 x63,.int .i64 x64,.bool x65] 136) u' n66 w67→
     ∃w68 r69p r69n r69c,(Builtin.append_ #[82,82] 82 #[.slice p lf.length c,.slice (some (Addr.mk n66 0 none)) 1 1]).run prog w67= .ok (.slice r69p r69n r69c) w68∧
     ∃k46,k46<hv1.length - t∧∃ (t2:Nat) (L1:Nat→Nat) (lf:List Hc) (s1:PSt) (pr1:List Ps) (psl:Sl),i64.wrap ((t:Int)+ (1:Int))=t2∧t2≤hv1.length∧k46=hv1.length - t2∧r69n=lf.length∧LoB w0 w w68 B L N x hv1 cs un q ks t2 L1 lf s1 pr1 psl r69p r69c:=by
    intro u' L2 E hh
    refine ⟨_,_,_,_,_,_,_,⟨cell_add hh rfl,cell_add hh rfl,cell_add hh rfl,cell_add hh rfl,cell_add hh rfl,trivial⟩,fun n66 w67 h66=> ?_⟩
    refine E.app r (by omega) hy h66 fun w' p' c' L3 E'=> ⟨_,?_,t+1,L3,_,_,_,_,wN (by omega) (by omega),by omega,rfl,rfl,E'⟩
    omega
   refine cnd_i (fun _=>nxt D58 C58) (fun _=> ?_)
   have n9:reL L1 u.heap.size 9 n56=9:=reL_new (by omega)
   refine ⟨_,rfl,_,cell_add D58.sr.at rfl,_,cell_add C58 rfl,(D58.sr.drop_ D.ci.g y.i).mono ?_⟩
   rintro e w73 ⟨r74,rfl,L73,k73,hh⟩
   have kp73:Kp w0 w58.drew w73 (reL L1 u.heap.size 9) L73:=k73.weak fun i e=>by rw [e];decide
   have row73:Row 5 hcE ty_cdcl_clause w73 p c lf:=k73.row D58.row fun b hb e=>by rw [(D58.fr b hb).1] at e;exact absurd e (by decide)
   have fr73:=k73.lb D58.fr D58.row.lt
   have st73:=kp73.vw D58.st D58.r9
   have r973:=kp73.r9 D58.r9
   have C73:=kp73.has C58 n9
   refine ⟨_,rfl,?_⟩
   rcases hh with ⟨hr,S73⟩| ⟨rfl,hth,gd,S73⟩
   · refine cnd_t (by simpa using hr) (nxt ⟨row73,fr73,S73,D58.kp.trans kp73,D.ci,D.nc,D.hi,D.sub,D.pl,D.le,st73,r973,D.be,D.pf,D.z⟩ C73)
   · refine cnd_f rfl ?_
     have S73:SR w0 w73 B L73 N {x with hv:=hv1,s:=s1.drop y.i,ps:=psl,pr:=pr1,m:= {x.m with dr:=x.m.dr+ (t - lf.length:Nat)}}:=S73
     have gd73:Grow w73 w73.drew:=(Mod.refl w73).drew
     have roy:=S73.hr id y hym
     have hcl:=oy.2.2.2
     have hyn:=roy.n
     refine ⟨Grow w73.drew,Mod.refl _,_,rfl,_,_,_,fun v gv=>cell_add2 (S73.drew.at.grow gv) rfl,_,_,_,fun v gv=>cell_add (C73.grow (gd73.trans gv)) rfl,(clone_ok (roy.v.grow gd73) roy.n (by omega)).mono ?_⟩
     rintro e w88 ⟨q9,d9,rfl,o9,g9,f9⟩
     refine ⟨_,_,_,rfl,g9,fun n90 w91 h90=> ?_⟩
     have G91:=g9.trans h90.mod
     refine ⟨G91,?_⟩
     have S91:=S73.drew.new G91 9
     have k91:Kp w0 w73 w91 L73 (reL L73 w73.drew.heap.size 9):=(Chg.grow gd73).trans (Chg.new G91 9)
     have row91:=(row73.grow gd73).grow G91
     have fr91:=k91.lb fr73 row73.lt
     have ro:RO w91 (reL L73 w73.drew.heap.size 9) ⟨q9,y.c.length,d9⟩ y.c:=⟨rfl,(o9.grow h90.mod).vw,fun k hk=> ⟨reL_new (f9 k hk),Nat.lt_of_lt_of_le (o9.lt k hk) h90.mod.size⟩⟩
     have hpl1:=D.pl
     have hle1:=D.le
     refine told_app2 S91 (by show pr1.length≤_;omega) true ro h90.has fun w95 L95 q' S95 c95=> ?_
     have k95:Kp w0 w91 w95 (reL L73 w73.drew.heap.size 9) L95:=c95.weak fun i e=>by rcases e with rfl|rfl<;>decide
     have row95:=c95.row row91 fun b hb e=>by rw [(fr91 b hb).1] at e;rcases e with e|e<;>exact absurd e (by decide)
     have fr95:=c95.lb fr91 row91.lt
     refine ⟨_,rfl,_,cell_add2 S95.at rfl,_,rfl,?_⟩
     have ew:i64.wrap (x.m.dr+ (t - lf.length:Nat)+1)=x.m.dr+ (t+1 - lf.length:Nat):=by rw [wrap64_of (by omega) (by omega)];omega
     show ∃w99,StoreAt _ 0 [.int .i64 (i64.wrap (x.m.dr+ (t - lf.length:Nat)+1))] w95 w99∧_
     rw [ew]
     refine store_f2 S95.at rfl rfl fun w99 h99 m99=> ?_
     have Q:=S95.own (m':= {x.m with dr:=x.m.dr+ (t+1 - lf.length:Nat)}) h99 m99
     have kf:=((kp73.trans k91).trans k95).trans Q.2
     have ci1:=D.ci
     rw [drop_cons r,← hy,List.map_append,List.map_cons] at ci1
     have hyp:=ci1.hvp (hpr y) (by simp)
     have ci2:=ci1.drop gd
     rw [← List.map_append] at ci2
     have row99:=row95.keep m99 fun b hb (e:b=B)=>by
      have h1:=(fr95 b hb).1
      rw [e,S95.ml.1] at h1;exact absurd h1 (by decide)
     refine ⟨_,?_,t+1,L95,lf,s1.drop y.i,pr1++ [(true,⟨q9,y.c.length,d9⟩,y.c)],q',wN (by omega) (by omega),by omega,rfl,rfl,⟨row99,fr95,Q.1,D58.kp.trans kf,ci2,by rw [drop_nc];exact D.nc,drop_chi D.ci.g gd D.ci.v D.hi,D.sub,?_,by omega,?_,?_,?_,?_,D.z⟩⟩
     · omega
     · rw [List.length_append,List.length_singleton];omega
     · exact (((k91.trans k95).trans Q.2).vw st73 r973)
     · exact (((k91.trans k95).trans Q.2).r9 r973)
     · rw [drop_f (.inr rfl)];exact D.be
     · have:=D.pf.drop hth
       rw [List.map_append]
       rw [show s1.R (.a y.i)=y.c from hyp.2.2] at this
       exact this
 · have r:t=hv1.length:=by simp at r;omega
   subst r
   have ci1:=D.ci
   rw [List.drop_length,List.append_nil] at ci1
   have hl2: ∀k,L1 k≠0→(fun k=>if blk p=some k then 5 else L1 k) k=L1 k:=fun k hk=>by
    show (if blk p=some k then 5 else L1 k)=L1 k
    rw [if_neg fun e=>hk (D.fr k e).1]
   have SS:=D.sr.relab hl2
   have lab5: ∀b,blk p=some b→(fun k=>if blk p=some k then 5 else L1 k) b=5∧w0.heap.size≤b:=fun b hb=> ⟨by show (if blk p=some b then 5 else L1 b)=5;rw [if_pos hb],by have:=(D.fr b hb).2;have:=D.z;omega⟩
   refine ⟨_,rfl,?_⟩
   refine store_f SS.at rfl rfl fun w101 h101 m101=> ?_
   have Q:=SS.swap (q:=⟨p,lf.length,c⟩) (hv':=lf) D.row rfl lab5 (fun v hv=>SS.hr id v (D.sub v hv)) h101 m101
   refine ⟨_,rfl,_,cell_add Q.1.at rfl,_,rfl,?_⟩
   refine store_f Q.1.at rfl rfl fun w105 h105 m105=> ?_
   have Q2:=Q.1.own (m':= {x.m with dr:=x.m.dr+ (hv1.length - lf.length:Nat),went:=imin (i64.wrap (x.m.went+1)) 100}) h105 m105
   have hle1:=D.le
   have hpl1:=D.pl
   have kr:Kp w0 w u L (fun k=>if blk p=some k then 5 else L1 k):=⟨D.kp.mod,fun k hk=>by
    show (if blk p=some k then 5 else L1 k)=L k
    rw [if_neg fun e=>by have:=(D.fr k e).2;omega]
    exact D.kp.lab k hk⟩
   refine ⟨rfl,_,s1,lf,_,pr1,psl,_,(kr.trans Q.2).trans Q2.2,Q2.1,ci1,D.hi,D.nc,fun v hv=>oky v (D.sub v hv),by omega,by omega,D.be,D.pf,by omega,by omega⟩
end
end Go.Proofs.YtabengnadcleeaaGreat.W
