/- Layer 14: what a search's proof is. -/
import Derived.Test.YtddffgjagppimaaGreatStudyA
import Derived.Test.YtddffgjagppimaaGreatCdA
import Derived.Test.YtddffgjagppimaaGreatLubyA
namespace Go.Proofs.YtddffgjagppimaaGreat.W
open Go Go.Fw Go.RowKit Go.SoP Go.LiP Go.LeP
section
variable {s t s':PSt} {l c d:List Int} {x y:Int} {i j N:Nat} {cs:List (List Int)} {pr:List (Bool × List Int)}
def RupS (_:PSt) (_:List Int):Prop:=True
def PF (_:List (List Int)) (_:PSt) (_:List (Bool × List Int)):Prop:=True
theorem PF.ext (_:PF cs s pr) (_:Ext s s'):PF cs s' pr:=trivial
theorem PF.decide (_:PF cs s pr):PF cs (s.decide x) pr:=trivial
theorem PF.back (_:PF cs s pr):PF cs (s.back i) pr:=trivial
theorem PF.add (_:PF cs s pr) (_:RupS s l) (_:Added (s.back i) l s'):PF cs s' (pr++ [(false,l)]):=trivial
theorem PF.drop (_:PF cs s pr) (_:s.There i):PF cs (s.drop i) (pr++ [(true,s.R (.a i))]):=trivial
end
section
variable {w0 w w' w1 w2 u:World} {B N i:Nat} {L L' L1:Nat→Nat} {x:Xs} {l:List Int} {cs:List (List Int)} {hv:List (Nat × List Int)} {un:List (List Int)}
def ppr (p:Ps):Bool × List Int:=(p.1,p.2.2)
structure LoB (w0 w u:World) (B:Nat) (L:Nat→Nat) (N:Nat) (x:Xs) (hv1:List Hc) (cs un:List (List Int)) (q:Option Addr) (k:List Bool) (t:Nat) (L1:Nat→Nat) (lf:List Hc) (s1:PSt) (pr1:List Ps) (psl:Sl) (p:Option Addr) (c:Nat):Prop where
 row:Row 5 hcE ty_cdcl_clause u p c lf
 fr: ∀b,blk p=some b→L1 b=0∧w.heap.size≤b
 sr:SR w0 u B L1 N {x with hv:=hv1,s:=s1,ps:=psl,pr:=pr1,m:= {x.m with dr:=x.m.dr+ (t - lf.length:Nat)}}
 kp:Kp w0 w u L L1
 ci:CSI N cs s1 ((lf++hv1.drop t).map hpr) un
 nc:s1.nc=x.s.nc
 hi:CHI N s1 x.S
 sub: ∀h∈lf,h∈hv1
 pl:pr1.length+lf.length=x.pr.length+t
 le:lf.length≤t
 st:Vw Value.bool u q k
 r9:R9 u L1 q
 be:s1.R .be=x.s.R .be
 pf:PF cs s1 (pr1.map ppr)
 z:w0.heap.size≤w.heap.size
 ct:(k.take t).countP id≤lf.length
theorem ct_app {k:List Bool} {t:Nat} {α:Type} {lf:List α} {y:α} (h:(k.take t).countP id≤lf.length):(k.take (t+1)).countP id≤(lf++ [y]).length:=by
 rw [List.take_add_one,List.countP_append,List.length_append,List.length_singleton]
 have:(k[t]?.toList).countP id≤1:=Nat.le_trans List.countP_le_length (by cases k[t]? <;>simp)
 omega
theorem ct_same {k:List Bool} {t n:Nat} (h:(k.take t).countP id≤n) (e:k.getD t false=false):(k.take (t+1)).countP id≤n:=by
 rw [List.take_add_one,List.countP_append]
 rw [List.getD_eq_getElem?_getD] at e
 cases hk:k[t]? with
 |none=>simpa using h
 |some b=>
  rw [hk] at e
  have e:b=false:=e
  subst e
  simpa using h
theorem keep_half {l:List RedP.Lr} {ks:List Bool} (h1:ks.length=l.length) (h2: ∀x:Nat,x<l.length→ks.getD x false=RedP.keep l x):l.length≤2*ks.countP id+1:=by
 obtain ⟨o,ho⟩:=RedP.isO_ex l
 have hs:=ho.stays
 have e:ks=(RedP.idx l.length).map (RedP.keep l):=by
  refine List.ext_getElem (by rw [List.length_map,RedP.idx_len];exact h1) fun i h3 h4=> ?_
  have:=h2 i (by omega)
  rw [List.getD_eq_getElem?_getD,List.getElem?_eq_getElem h3] at this
  simp only [RedP.idx,List.getElem_map,List.getElem_range]
  exact this
 have c:ks.countP id=(RedP.idx l.length).countP (RedP.keep l):=by rw [e,List.countP_map];rfl
 have gen: ∀L:List Int,L.countP (RedP.keep l)=L.countP (fun x=>RedP.must (RedP.nth l x))+L.countP (fun x=> !RedP.must (RedP.nth l x) && RedP.keep l x)∧L.length=L.countP (fun x=>RedP.must (RedP.nth l x))+L.countP (fun x=> !RedP.must (RedP.nth l x)):=by
  intro L
  induction L with
  |nil=>exact ⟨rfl,rfl⟩
  |cons a L ih=>
   have hm:RedP.must (RedP.nth l a)=true→RedP.keep l a=true:=fun h=>by unfold RedP.keep;rw [h,Bool.true_or]
   simp only [List.countP_cons,List.length_cons]
   cases h3:RedP.must (RedP.nth l a) with
   |true=>rw [hm h3];simp;omega
   |false=>cases h4:RedP.keep l a<;>simp<;>omega
 obtain ⟨g1,g2⟩:=gen (RedP.idx l.length)
 rw [RedP.idx_len] at g2
 unfold RedP.freeN at hs
 omega
theorem drop_nc {s:PSt} {i:Nat}:(s.drop i).nc=s.nc:=by
 obtain ⟨d1,d2,d3,_⟩:=unF_vars (i:Int) ((s.R (.l i)).take 2) s
 exact d2
theorem drop_chi {s:PSt} {S:Int→Prop} {j:Nat} (g:Good s) (g':Good (s.drop j)) (hv:s.vars=N) (h:CHI N s S):CHI N (s.drop j) S:=by
 intro v v1 v2 h0
 have hx:InV s.vars v:=⟨by omega,by omega,by omega⟩
 have hx':InV (s.drop j).vars v:=by rw [drop_v];exact hx
 have:=(val0_iff g' hx').1 h0
 rw [drop_f (.inl rfl)] at this
 exact h v v1 v2 ((val0_iff g hx).2 this)
theorem LoB.grow {q p:Option Addr} {c:Nat} {k:List Bool} {t:Nat} {hv1 lf:List Hc} {s1:PSt} {pr1:List Ps} {psl:Sl} (A:LoB w0 w u B L N x hv1 cs un q k t L1 lf s1 pr1 psl p c) (g:Grow u w'):
 LoB w0 w w' B L N x hv1 cs un q k t (reL L1 u.heap.size 9) lf s1 pr1 psl p c:=by
 have kq:Kp w0 u w' L1 (reL L1 u.heap.size 9):=Chg.new g 9
 exact ⟨A.row.grow g,kq.lb A.fr A.row.lt,A.sr.new g 9,A.kp.trans kq,A.ci,A.nc,A.hi,A.sub,A.pl,A.le,A.st.grow g,kq.r9 A.r9,A.be,A.pf,A.z,A.ct⟩
theorem LoB.app {q p:Option Addr} {c:Nat} {k:List Bool} {t:Nat} {hv1 lf:List Hc} {s1:PSt} {pr1:List Ps} {psl:Sl} (A:LoB w0 w u B L N x hv1 cs un q k t L1 lf s1 pr1 psl p c) (ht:t<hv1.length) (hb:hv1.length≤1000000) {y:Hc} (hy:y=hv1.getD t hc0)
 {nn:Nat} {w67:World} (h:New (.cells #[.int .i64 y.i,.slice y.sl.p y.sl.n y.sl.c,.int .i64 y.lv,.int .i64 y.sz,.bool y.lk] 128) u nn w67) {K:World→Option Addr→Nat→Nat→Prop}
 (hk: ∀w' p' c' L2,LoB w0 w w' B L N x hv1 cs un q k (t+1) L2 (lf++ [y]) s1 pr1 psl p' c'→K w' p' (lf++ [y]).length c'):
 ∃w',∃p' n' c',(Builtin.append_ #[64,64] 64 #[.slice p lf.length c,.slice (some (Addr.mk nn 0 none)) 1 1]).run Tryz.prog w67= .ok (.slice p' n' c') w'∧K w' p' n' c':=by
 have hlf:=A.le
 refine Row.app hcEnc sl_clauseC (A.row.grow h.mod) (hc_vr (u:=y) h.has) rfl rfl (by simp;omega) fun w' p' c' o8 m8 hp' hz'=> ?_
 have S67:=A.sr.grow h.mod
 have hr:=(A.row.grow h.mod).lt
 have hsz:=A.kp.mod.size
 have s67:=h.size
 have m8':Mod (fun k=>L1 k=0∧w0.heap.size≤k) w67 w':=m8.mono fun b _ e=> ⟨(A.fr b e).1,by have:=(A.fr b e).2;have:=A.z;omega⟩
 have Q:=S67.loc (L':=reL L1 w67.heap.size 0) m8' fun _ hk=>reL_old hk
 have kq:Kp w0 w67 w' L1 (reL L1 w67.heap.size 0):=Q.2.weak fun i e=>by rw [e];decide
 have kk:Kp w0 u w' L1 (reL L1 w67.heap.size 0):=(Chg.grow h.mod).trans kq
 have ym:y∈hv1:=by rw [hy];exact getD_in ht
 refine hk _ _ _ (reL L1 w67.heap.size 0) ⟨o8,fun b hb=> ?_,?_,A.kp.trans kk,?_,A.nc,A.hi,fun v hv=> ?_,?_,?_,kk.vw A.st A.r9,kk.r9 A.r9,A.be,A.pf,A.z,ct_app A.ct⟩
 · rcases hp' with rfl|rfl
   · rw [reL_old (hr b hb)];exact A.fr b hb
   · have:=blk_some hb;exact ⟨reL_new (by omega),by omega⟩
 · have:=Q.1
   rw [show t+1 - (lf++ [y]).length=t - lf.length by simp]
   exact this
 · have:=A.ci
   rw [drop_cons ht,← hy] at this
   rw [List.append_assoc];exact this
 · rcases List.mem_append.1 hv with hv|hv
   · exact A.sub v hv
   · rw [List.mem_singleton] at hv;subst hv;exact ym
 · have:=A.pl;rw [List.length_append,List.length_singleton];omega
 · rw [List.length_append,List.length_singleton];omega
theorem cless_ok (h:SR w0 w B L N x) (k:CSI N cs x.s (x.hv.map hpr) un) (hi:CHI N x.s x.S) (hhv:x.hv.length≤1000000) (hpl:x.pr.length≤900000000) (hok: ∀u∈x.hv,okH u) (hdr:0≤x.m.dr∧x.m.dr≤1000000000) (pf:PF cs x.s (x.pr.map ppr)):
 Calls Tryz.prog cdcl_search_less.id #[ptrV B] w fun e w'=>e= .returned (.tuple #[])∧∃L' s' hv' hs' pr' ps' dr',Kp w0 w w' L L'∧
  SR w0 w' B L' N {x with hv:=hv',hs:=hs',s:=s',ps:=ps',pr:=pr',m:= {x.m with dr:=dr',went:=imin (IntKind.i64.wrap (x.m.went+1)) 100}}∧
  CSI N cs s' (hv'.map hpr) un∧CHI N s' x.S∧s'.nc=x.s.nc∧(∀u∈hv',okH u)∧pr'.length+hv'.length=x.pr.length+x.hv.length∧hv'.length≤x.hv.length∧s'.R .be=x.s.R .be∧PF cs s' (pr'.map ppr)∧x.m.dr≤dr'∧dr'+hv'.length=x.m.dr+x.hv.length∧x.hv.length≤2*hv'.length+1:=by
 refine cdcl_search_less.calls ⟨_,rfl,_,_,_,cell_add h.at rfl,less_a h k.g hhv hok fun p c u hv1 ll A=> ?_⟩
 have hlen:=A.sm.len
 have hall:ll.all RedP.okL=true:=List.all_eq_true.2 A.ok
 have oky: ∀y∈hv1,okH y:=A.sm.mem (fun u v e hu=>by unfold okH at*;simp only [hid,Prod.mk.injEq] at e;obtain ⟨_,_,e3,e4,e5⟩:=e;rw [← e3,← e4,← e5];exact hu) hok
 refine (Re.keep_ok (A.row.vr Re.lrE) rfl (by rw [A.len];omega)).mono ?_
 rintro e w40 ⟨q,d,ks,rfl,g40,ob,fq,hk2⟩
 rw [hall,if_pos rfl] at hk2
 have hkl:ks.length=hv1.length:=by rw [hk2.1,A.len,hlen]
 have hhalf:=keep_half (l:=ll) (ks:=ks) (by rw [hkl,← hlen];exact A.len.symm) fun x hx=>hk2.2 x (by first|exact hx|rw [A.len] at*;exact hx)
 have hhn:=(h.hv id).2.1
 have S40:=A.sr.new g40 9
 have kp40:=A.kp.trans (Chg.new g40 9)
 have su:=A.kp.mod.size
 have s40:=g40.size
 refine ⟨_,_,_,rfl,_,rfl,_,_,_,cell_add S40.at rfl,?_⟩
 have c0:CSI N cs x.s (([]++hv1.drop 0).map hpr) un:=by
  rw [List.nil_append,List.drop_zero,← A.sm.hpr];exact k
 refine ⟨fun p n c v u z=> ∃ (t:Nat) (L1:Nat→Nat) (lf:List Hc) (s1:PSt) (pr1:List Ps) (psl:Sl),v=t∧t≤hv1.length∧z=hv1.length - t∧n=lf.length∧LoB w0 w u B L N x hv1 cs un q ks t L1 lf s1 pr1 psl p c,
  ⟨_,0,_,[],x.s,x.pr,x.ps,rfl,Nat.zero_le _,rfl,rfl,⟨Row.nil _ _ _ _,fun b hb=>by simp [blk] at hb,by simpa using S40,kp40,c0,rfl,hi,by simp,by simp,Nat.zero_le _,ob.vw,⟨fun b hb=> ⟨reL_new (fq b hb),ob.lt b hb⟩⟩,rfl,pf,h.g.size,by simp⟩⟩,?_⟩
 rintro p n c v u z _ ⟨t,L1,lf,s1,pr1,psl,rfl,ht,rfl,rfl,D⟩
 refine cnd_i (fun r=> ?_) (fun r=> ?_)
 · have r:t<hv1.length:=by simp at r;omega
   obtain ⟨r1,r2,r3⟩:=D.sr.hv id
   have r1:Row 5 hcE ty_cdcl_clause u x.hs.p x.hs.c hv1:=r1
   obtain ⟨y,hy⟩: ∃y,y=hv1.getD t hc0:=⟨_,rfl⟩
   have hym:y∈hv1:=by rw [hy];exact getD_in r
   have oy:=oky y hym
   refine (r1.vr hcEnc).ix hc0 (by omega) (by show x.hs.n=hv1.length;omega) (by show (t:Int)< (x.hs.n:Int);omega) fun a ha=> ?_
   rw [Int.toNat_natCast,← hy] at ha
   refine ⟨_,_,_,_,_,_,_,ha,fun n56 w57 h56=> ?_⟩
   refine store_i h56.has rfl rfl fun w58 H58 m58=> ?_
   have H58:Has w58 n56 #[.int .i64 y.i,.slice y.sl.p y.sl.n y.sl.c,.int .i64 y.lv,.int .i64 y.sz,.bool y.lk]:=H58
   have e56:=h56.num
   have g58:Grow u w58.drew:=(Mod.fresh h56.mod m58 (by omega)).trans (Mod.refl w58).drew
   have D58:=D.grow g58
   have C58:=H58.grow (Mod.refl w58).drew
   refine D58.st.ix false (by omega) rfl (by omega) fun a59 h59=> ⟨_,h59,?_⟩
   have nxt: ∀ {u':World} {L2:Nat→Nat},LoB w0 w u' B L N x hv1 cs un q ks t L2 lf s1 pr1 psl p c→Has u' n56 #[.int .i64 y.i,.slice y.sl.p y.sl.n y.sl.c,.int .i64 y.lv,.int .i64 y.sz,.bool y.lk]→
    ∃x61 x62p x62n x62c x63 x64 x65,CellsAt u' (Addr.mk n56 0 none) 0 [.int .i64 x61,.slice x62p x62n x62c,.int .i64 x63,.int .i64 x64,.bool x65]∧
     ∀n66 w67,New (.cells #[.int .i64 x61,.slice x62p x62n x62c,.int .i64 x63,.int .i64 x64,.bool x65] 128) u' n66 w67→
     ∃w68 r69p r69n r69c,(Builtin.append_ #[64,64] 64 #[.slice p lf.length c,.slice (some (Addr.mk n66 0 none)) 1 1]).run Tryz.prog w67= .ok (.slice r69p r69n r69c) w68∧
     ∃k46,k46<hv1.length - t∧∃ (t2:Nat) (L1:Nat→Nat) (lf:List Hc) (s1:PSt) (pr1:List Ps) (psl:Sl),IntKind.i64.wrap ((t:Int)+ (1:Int))=t2∧t2≤hv1.length∧k46=hv1.length - t2∧r69n=lf.length∧LoB w0 w w68 B L N x hv1 cs un q ks t2 L1 lf s1 pr1 psl r69p r69c:=by
    intro u' L2 E hh
    refine ⟨_,_,_,_,_,_,_,⟨cell_add hh rfl,cell_add hh rfl,cell_add hh rfl,cell_add hh rfl,cell_add hh rfl,trivial⟩,fun n66 w67 h66=> ?_⟩
    refine E.app r (by omega) hy h66 fun w' p' c' L3 E'=> ⟨_,?_,t+1,L3,_,_,_,_,wN (by omega) (by omega),by omega,rfl,rfl,E'⟩
    omega
   refine cnd_i (fun _=>nxt D58 C58) (fun hst=> ?_)
   have hst:ks.getD t false=false:=by rw [Int.toNat_natCast] at hst;exact hst
   have n9:reL L1 u.heap.size 9 n56=9:=reL_new (by omega)
   refine ⟨_,rfl,_,cell_add D58.sr.at rfl,_,cell_add C58 rfl,(D58.sr.drop_ D.ci.g y.i).mono ?_⟩
   rintro e w73 ⟨r74,rfl,L73,k73,hh⟩
   have kp73:Kp w0 w58.drew w73 (reL L1 u.heap.size 9) L73:=k73.weak fun i e=>by rw [e];decide
   have row73:Row 5 hcE ty_cdcl_clause w73 p c lf:=k73.row D58.row fun b hb e=>by rw [(D58.fr b hb).1] at e;exact absurd e (by decide)
   have fr73:=k73.lb D58.fr D58.row.lt
   have st73:=kp73.vw D58.st D58.r9
   have r973:=kp73.r9 D58.r9
   have C73:=kp73.has C58 n9
   refine ⟨_,rfl,?_⟩
   rcases hh with ⟨hr,S73⟩| ⟨rfl,hth,gd,S73⟩
   · refine cnd_t (by simpa using hr) (nxt ⟨row73,fr73,S73,D58.kp.trans kp73,D.ci,D.nc,D.hi,D.sub,D.pl,D.le,st73,r973,D.be,D.pf,D.z,D.ct⟩ C73)
   · refine cnd_f rfl ?_
     have S73:SR w0 w73 B L73 N {x with hv:=hv1,s:=s1.drop y.i,ps:=psl,pr:=pr1,m:= {x.m with dr:=x.m.dr+ (t - lf.length:Nat)}}:=S73
     have gd73:Grow w73 w73.drew:=(Mod.refl w73).drew
     have roy:=S73.hr id y hym
     have hcl:=oy.2.2.2
     have hyn:=roy.n
     refine ⟨Grow w73.drew,Mod.refl _,_,rfl,_,_,_,fun v gv=>cell_add2 (S73.drew.at.grow gv) rfl,_,_,_,fun v gv=>cell_add (C73.grow (gd73.trans gv)) rfl,(clone_ok (roy.v.grow gd73) roy.n (by omega)).mono ?_⟩
     rintro e w88 ⟨q9,d9,rfl,o9,g9,f9⟩
     refine ⟨_,_,_,rfl,g9,fun n90 w91 h90=> ?_⟩
     have G91:=g9.trans h90.mod
     refine ⟨G91,?_⟩
     have S91:=S73.drew.new G91 9
     have k91:Kp w0 w73 w91 L73 (reL L73 w73.drew.heap.size 9):=(Chg.grow gd73).trans (Chg.new G91 9)
     have row91:=(row73.grow gd73).grow G91
     have fr91:=k91.lb fr73 row73.lt
     have ro:RO w91 (reL L73 w73.drew.heap.size 9) ⟨q9,y.c.length,d9⟩ y.c:=⟨rfl,(o9.grow h90.mod).vw,fun k hk=> ⟨reL_new (f9 k hk),Nat.lt_of_lt_of_le (o9.lt k hk) h90.mod.size⟩⟩
     have hpl1:=D.pl
     have hle1:=D.le
     refine told_app2 S91 (by show pr1.length≤_;omega) true ro h90.has fun w95 L95 q' S95 c95=> ?_
     have k95:Kp w0 w91 w95 (reL L73 w73.drew.heap.size 9) L95:=c95.weak fun i e=>by rcases e with rfl|rfl<;>decide
     have row95:=c95.row row91 fun b hb e=>by rw [(fr91 b hb).1] at e;rcases e with e|e<;>exact absurd e (by decide)
     have fr95:=c95.lb fr91 row91.lt
     refine ⟨_,rfl,_,cell_add2 S95.at rfl,_,rfl,?_⟩
     have ew:IntKind.i64.wrap (x.m.dr+ (t - lf.length:Nat)+1)=x.m.dr+ (t+1 - lf.length:Nat):=by rw [wrap64_of (by omega) (by omega)];omega
     show ∃w99,StoreAt _ 0 [.int .i64 (IntKind.i64.wrap (x.m.dr+ (t - lf.length:Nat)+1))] w95 w99∧_
     rw [ew]
     refine store_f2 S95.at rfl rfl fun w99 h99 m99=> ?_
     have Q:=S95.own (m':= {x.m with dr:=x.m.dr+ (t+1 - lf.length:Nat)}) h99 m99
     have kf:=((kp73.trans k91).trans k95).trans Q.2
     have ci1:=D.ci
     rw [drop_cons r,← hy,List.map_append,List.map_cons] at ci1
     have hyp:=ci1.hvp (hpr y) (by simp)
     have ci2:=ci1.drop gd
     rw [← List.map_append] at ci2
     have row99:=row95.keep m99 fun b hb (e:b=B)=>by
      have h1:=(fr95 b hb).1
      rw [e,S95.ml.1] at h1;exact absurd h1 (by decide)
     refine ⟨_,?_,t+1,L95,lf,s1.drop y.i,pr1++ [(true,⟨q9,y.c.length,d9⟩,y.c)],q',wN (by omega) (by omega),by omega,rfl,rfl,⟨row99,fr95,Q.1,D58.kp.trans kf,ci2,by rw [drop_nc];exact D.nc,drop_chi D.ci.g gd D.ci.v D.hi,D.sub,?_,by omega,?_,?_,?_,?_,D.z,ct_same D.ct hst⟩⟩
     · omega
     · rw [List.length_append,List.length_singleton];omega
     · exact (((k91.trans k95).trans Q.2).vw st73 r973)
     · exact (((k91.trans k95).trans Q.2).r9 r973)
     · rw [drop_f (.inr rfl)];exact D.be
     · have:=D.pf.drop hth
       rw [List.map_append]
       rw [show s1.R (.a y.i)=y.c from hyp.2.2] at this
       exact this
 · have r:t=hv1.length:=by simp at r;omega
   subst r
   have ci1:=D.ci
   rw [List.drop_length,List.append_nil] at ci1
   have hl2: ∀k,L1 k≠0→(fun k=>if blk p=some k then 5 else L1 k) k=L1 k:=fun k hk=>by
    show (if blk p=some k then 5 else L1 k)=L1 k
    rw [if_neg fun e=>hk (D.fr k e).1]
   have SS:=D.sr.relab hl2
   have lab5: ∀b,blk p=some b→(fun k=>if blk p=some k then 5 else L1 k) b=5∧w0.heap.size≤b:=fun b hb=> ⟨by show (if blk p=some b then 5 else L1 b)=5;rw [if_pos hb],by have:=(D.fr b hb).2;have:=D.z;omega⟩
   refine ⟨_,rfl,?_⟩
   refine store_f SS.at rfl rfl fun w101 h101 m101=> ?_
   have Q:=SS.swap (q:=⟨p,lf.length,c⟩) (hv':=lf) D.row rfl lab5 (fun v hv=>SS.hr id v (D.sub v hv)) h101 m101
   refine ⟨_,rfl,_,cell_add Q.1.at rfl,_,rfl,?_⟩
   refine store_f Q.1.at rfl rfl fun w105 h105 m105=> ?_
   have Q2:=Q.1.own (m':= {x.m with dr:=x.m.dr+ (hv1.length - lf.length:Nat),went:=imin (IntKind.i64.wrap (x.m.went+1)) 100}) h105 m105
   have hle1:=D.le
   have hpl1:=D.pl
   have kr:Kp w0 w u L (fun k=>if blk p=some k then 5 else L1 k):=⟨D.kp.mod,fun k hk=>by
    show (if blk p=some k then 5 else L1 k)=L k
    rw [if_neg fun e=>by have:=(D.fr k e).2;omega]
    exact D.kp.lab k hk⟩
   refine ⟨rfl,_,s1,lf,_,pr1,psl,_,(kr.trans Q.2).trans Q2.2,Q2.1,ci1,D.hi,D.nc,fun v hv=>oky v (D.sub v hv),by omega,by omega,D.be,D.pf,by omega,by omega,by
    have c1:=D.ct
    rw [← hkl,List.take_length] at c1
    have:=A.len
    omega⟩
end
section
variable {s t s':PSt} {l:List Int} {x:Int} {i j N β bl:Nat}
def btE (N p:Nat):Nat:=2 ^ (N - 1 - p) / 2
def btS (N:Nat) (be:List Int):Nat:=(be.map fun p=>btE N p.toNat).sum
def bt (s:PSt):Nat:=btS s.vars (s.R .be)+ (2 ^ (s.vars - 1 - (s.R .tr).length) - 1)
def Fnd (s:PSt):Prop:=Closed s∨∃i,Brk s i
def RBd (s:PSt) (β:Nat):Prop:= ∀s',Ext s s'→Good s'→Fnd s'→bt s'≤β
theorem RBd.run (h:RBd s β) (e:Ext s s'):RBd s' β:=fun u eu=>h u (e.trans eu)
theorem RBd.fin (h:RBd s β) (g:Good s) (f:Fnd s):bt s≤β:=h s (Ext.refl s) g f
theorem RBd.zero (h:s.R .be= []) (hv:s.vars=N):RBd s (2 ^ (N - 1) - 1):=by
 intro u e g f
 unfold bt
 rw [e.be,h,e.v,hv]
 have:2 ^ (N - 1 - (u.R .tr).length)≤2 ^ (N - 1):=Nat.pow_le_pow_right (by omega) (by omega)
 show 0+_≤_
 omega
theorem RBd.decide (h:bt s≤β):RBd (s.decide x) β:=by
 intro u e gu _
 obtain ⟨k,hk⟩:=e.tr
 have eb:=e.be
 have ev:u.vars=s.vars:=e.v
 rw [decide_tr] at hk
 rw [decide_be] at eb
 have hl:=gu.trl
 have hlen:(u.R .tr).length=(s.R .tr).length+1+k.length:=by rw [hk];simp;omega
 unfold bt at h ⊢
 unfold btS at h ⊢
 rw [eb,ev,List.map_append,List.sum_append]
 simp only [List.map_cons,List.map_nil,List.sum_cons,List.sum_nil,Int.toNat_natCast]
 rw [ev] at hl
 generalize (s.R .tr).length=T at*
 generalize (u.R .tr).length=T2 at*
 generalize (List.map (fun p=>btE s.vars p.toNat) (s.R .be)).sum=A at*
 unfold btE
 rcases Nat.eq_zero_or_pos (s.vars - 1 - T) with e0|e0
 · rw [e0] at h ⊢
   rw [show s.vars - 1 - T2=0 by omega]
   simpa using h
 · obtain ⟨m,hm⟩: ∃m,s.vars - 1 - T=m+1:=⟨s.vars - 1 - T - 1,by omega⟩
   have h2:2 ^ (s.vars - 1 - T2)≤2 ^ m:=Nat.pow_le_pow_right (by omega) (by omega)
   have e3:2 ^ (s.vars - 1 - T)=2*2 ^ m:=by rw [hm,Nat.pow_succ,Nat.mul_comm]
   have hpos:=Nat.two_pow_pos m
   rw [e3] at h ⊢
   have e4:2*2 ^ m / 2=2 ^ m:=by omega
   rw [e4]
   omega
theorem btS_take (N:Nat) {be:List Int} {k:Nat} (h:k<be.length):btS N (be.take k)+btE N (be.getD k 0).toNat≤btS N be:=by
 have e:be=be.take k++be.getD k 0::be.drop (k+1):=by
  have h1:=List.take_append_drop k be
  rw [List.drop_eq_getElem_cons h] at h1
  rw [← h1]
  simp [List.getD,h]
 unfold btS
 conv=>rhs;rw [e]
 rw [List.map_append,List.sum_append,List.map_cons,List.sum_cons]
 omega
theorem brk_two (g:Good s) (b:Bnd s) (hB:Brk s i) (hl:0< (s.R .be).length):((s.R .be).getD ((s.R .be).length - 1) 0).toNat+2≤(s.R .tr).length:=by
 have hL:(s.R .be).length - 1< (s.R .be).length:=by omega
 have hb:=g.bl _ hL
 refine Classical.byContradiction fun hn=> ?_
 have one: ∀z,z∈s.R .tr→z ∉ s.pre ((s.R .be).length - 1)→z=(s.R .tr).getD ((s.R .be).getD ((s.R .be).length - 1) 0).toNat 0:=by
  intro z hz hp
  obtain ⟨p,h1,h2⟩:=tr_at hz
  have: ¬p< ((s.R .be).getD ((s.R .be).length - 1) 0).toNat:=fun h=>hp (take_mem.2 ⟨p,h,h1,h2⟩)
  rw [← h2];congr 1;omega
 rcases b _ hL i hB.1 with ⟨y,hy,hy2⟩| ⟨y,hy,z,hz,hne,_,b1,_,b2⟩
 · exact pos_notin g (hB.2 y hy) (List.mem_of_mem_take hy2)
 · have:=one _ (hB.2 y hy) b1
   have:=one _ (hB.2 z hz) b2
   omega
theorem RBd.conf (g:Good s) (b:Bnd s) (hB:Brk s i) (k:LS s l bl) (h:RBd s β) (ha:Added (s.back bl) l s'):1≤β∧RBd s' (β - 1):=by
 have hlt:=k.lt
 have two:=brk_two g b hB (by omega)
 have hle:(s.R .be).getD bl 0≤(s.R .be).getD ((s.R .be).length - 1) 0:=by
  by_cases e:bl=(s.R .be).length - 1
  · rw [e];exact Int.le_refl _
  · exact Int.le_of_lt (g.bs bl _ (by omega) (by omega))
 have hb:=g.bl bl hlt
 have htrl:=g.trl
 obtain ⟨p,hp⟩: ∃p,p=((s.R .be).getD bl 0).toNat:=⟨_,rfl⟩
 have hp2:p+2≤s.vars:=by omega
 have hs:=h.fin g (.inr ⟨i,hB⟩)
 have ht:=btS_take s.vars hlt
 rw [← hp] at ht
 obtain ⟨m,hm⟩: ∃m,s.vars - 1 - p=m+1:=⟨s.vars - 1 - p - 1,by omega⟩
 have hE:btE s.vars p=2 ^ m:=by unfold btE;rw [hm,Nat.pow_succ];omega
 have hpos:=Nat.two_pow_pos m
 have hbt:btS s.vars (s.R .be)≤β:=Nat.le_trans (Nat.le_add_right _ _) hs
 refine ⟨by omega,?_⟩
 intro u e gu fu
 have ev:u.vars=s.vars:=by rw [e.v,ha.v];rfl
 have eb:u.R .be=(s.R .be).take bl:=by rw [e.be,ha.be,back_be]
 obtain ⟨q,hq⟩:=e.tr
 rw [ha.tr] at hq
 have hpre:(s.back bl).R .tr=s.pre bl:=back_tr
 rw [hpre] at hq
 have hpl:(s.pre bl).length=p:=by unfold PSt.pre;rw [List.length_take];omega
 have enc:(s.back bl).nc=s.nc:=rfl
 have grow:q≠[]:=by
  intro e0
  rw [e0,List.append_nil] at hq
  obtain ⟨x0,hx0,l0,oth⟩:=k.top
  have an:u.R (.a s.nc)=l:=by rw [e.a,ha.a,enc,if_pos rfl]
  rcases fu with fu| ⟨i2,fu⟩
  · have th:u.There s.nc:=e.there.2 ⟨by rw [ha.n,enc];omega,by rw [ha.g,enc,if_pos rfl]⟩
    rcases fu _ th with ⟨x,hx,hx2⟩| ⟨x,hx,y,hy,hne,v1,v2⟩
    · rw [an] at hx
      rw [hq] at hx2
      exact pos_notin g (k.ft x hx) (List.mem_of_mem_take hx2)
    · rw [an] at hx hy
      have inv: ∀z∈l,InV u.vars z:=fun z hz=>by rw [ev];exact k.inv g hz
      have n1:=(val0_notin gu (inv x hx) v1).2
      have n2:=(val0_notin gu (inv y hy) v2).2
      rw [hq] at n1 n2
      have key: ∀z∈l,-z ∉ s.pre bl→z=x0:=fun z hz hn=>by
       refine Classical.byContradiction fun hne=>hn ((pre_mem g (k.ft z hz) hlt).2 (oth z hz hne))
      exact hne ((key x hx n1).trans (key y hy n2).symm)
  · by_cases e2:i2=s.nc
    · subst e2
      have h1:=fu.2 x0 (by rw [an];exact hx0)
      rw [hq] at h1
      have:=(pre_mem g (k.ft x0 hx0) hlt).1 h1
      omega
    · have th:=e.there.1 fu.1
      have th2:s.There i2:=by
       refine ⟨?_,?_⟩
       · have:=th.1;rw [ha.n,enc] at this;omega
       · have:=th.2;rw [ha.g,enc,if_neg e2] at this;exact this
      have ea:u.R (.a i2)=s.R (.a i2):=by rw [e.a,ha.a,enc,if_neg e2,back_a]
      have f2:=fu.2
      rw [ea,hq] at f2
      rcases b bl hlt i2 th2 with ⟨y,hy,hy2⟩| ⟨y,hy,_,_,_,_,b1,_,_⟩
      · exact pos_notin gu (x:=y) (by rw [hq];exact f2 y hy) (by rw [hq];exact hy2)
      · exact b1 (f2 y hy)
 have hT:p+1≤(u.R .tr).length:=by
  rw [hq,List.length_append,hpl]
  have:=List.length_pos_iff.2 grow
  omega
 have h2:2 ^ (s.vars - 1 - (u.R .tr).length)≤2 ^ m:=Nat.pow_le_pow_right (by omega) (by omega)
 unfold bt
 rw [ev,eb]
 omega
end
end Go.Proofs.YtddffgjagppimaaGreat.W
namespace Go.PotP
open Go.Luby
theorem sum_mono {a b:Nat} (h:a≤b):Luby.sum a≤Luby.sum b:=by
 induction h with
 |refl=>exact Nat.le_refl _
 |step _ ih=>exact Nat.le_trans ih (by show _≤Luby.sum _+lub _;omega)
theorem sum_pred {a:Nat} (h:1≤a):Luby.sum a=Luby.sum (a - 1)+lub a:=by
 obtain ⟨b,rfl⟩: ∃b,a=b+1:=⟨a - 1,by omega⟩
 rfl
theorem lub_next (k:Nat): ∀a,1≤a→∃j,a≤j∧2 ^ k≤lub j∧Luby.sum (j - 1)≤Luby.sum (a - 1)+k*2 ^ k:=by
 intro a
 induction a using Nat.strongRecOn with
 |_ a ih=>
  intro h1
  have hk:=Nat.two_pow_pos k
  have hk1:=two_pow_succ k
  by_cases e:a≤2 ^ (k+1) - 1
  · refine ⟨2 ^ (k+1) - 1,e,by rw [lub_at_full];exact Nat.le_refl _,?_⟩
    have h2:=sum_full (k+1)
    have h3:=sum_pred (a:=2 ^ (k+1) - 1) (by omega)
    rw [lub_at_full,h2] at h3
    have h4:(k+1)*2 ^ (k+1) / 2=k*2 ^ k+2 ^ k:=by
     rw [hk1,Nat.mul_left_comm,Nat.mul_div_cancel_left _ (by omega),Nat.add_mul,Nat.one_mul]
    omega
  · obtain ⟨m,hm⟩: ∃m,bl a=m+1:=⟨bl a - 1,by have:=(bl_le (n:=a) (by omega)).1;omega⟩
    have b1:=bl_lt a
    have b2:=(bl_le (n:=a) (by omega)).2
    rw [hm] at b1 b2
    rw [Nat.add_sub_cancel] at b2
    have hm1:=two_pow_succ m
    have hkm:k+1≤m:=by
     refine Classical.byContradiction fun hn=> ?_
     have:2 ^ (m+1)≤2 ^ (k+1):=Nat.pow_le_pow_right (by omega) (by omega)
     omega
    have hmk:2 ^ (k+1)≤2 ^ m:=Nat.pow_le_pow_right (by omega) hkm
    by_cases e2:a=2 ^ (m+1) - 1
    · refine ⟨a,Nat.le_refl _,?_,by omega⟩
      rw [e2,lub_at_full];omega
    · obtain ⟨i,hi⟩: ∃i,i=a - (2 ^ m - 1):=⟨_,rfl⟩
      obtain ⟨j0,g1,g2,g3⟩:=ih i (by omega) (by omega)
      have hfull:lub (2 ^ m - 1)=2 ^ (m - 1):=by
       have:=lub_at_full (m - 1)
       rwa [show m - 1+1=m by omega] at this
      obtain ⟨j1,q1,q2,q3,q4⟩: ∃j1,i≤j1∧j1≤2 ^ m - 1∧2 ^ k≤lub j1∧Luby.sum (j1 - 1)≤Luby.sum (i - 1)+k*2 ^ k:=by
       by_cases e3:j0≤2 ^ m - 1
       · exact ⟨j0,g1,e3,g2,g3⟩
       · refine ⟨2 ^ m - 1,by omega,Nat.le_refl _,?_,Nat.le_trans (sum_mono (by omega)) g3⟩
         rw [hfull]
         exact Nat.pow_le_pow_right (by omega) (by omega)
      refine ⟨2 ^ m - 1+j1,by omega,by rw [lub_behind (by omega) q2];exact q3,?_⟩
      have s1:=sum_behind m (j1 - 1) (by omega)
      have s2:=sum_behind m (i - 1) (by omega)
      rw [show 2 ^ m - 1+j1 - 1=2 ^ m - 1+ (j1 - 1) by omega,s1,show a - 1=2 ^ m - 1+ (i - 1) by omega,s2]
      omega
inductive Tl (D u:Nat):Nat→Nat→Nat→Prop
 |long {a l:Nat}:2*D≤u*lub a→Tl D u a l (2*D+l - u*lub a)
 |short {a l n:Nat}:u*lub a<2*D→Tl D u (a+1) (u*lub (a+1)) n→Tl D u a l (l+n)
theorem Tl.to {D u j:Nat} (hj:2*D≤u*lub j): ∀d a,1≤a→a+d=j→∀l,l≤u*lub a→∃n,Tl D u a l n∧n+u*Luby.sum (a - 1)≤u*Luby.sum (j - 1)+2*D:=by
 intro d
 induction d with
 |zero=>
  intro a h1 e l hl
  rw [Nat.add_zero] at e
  subst e
  exact ⟨_,.long hj,by omega⟩
 |succ d ih=>
  intro a h1 e l hl
  by_cases h:2*D≤u*lub a
  · refine ⟨_,.long h,?_⟩
    have:u*Luby.sum (a - 1)≤u*Luby.sum (j - 1):=Nat.mul_le_mul_left _ (sum_mono (by omega))
    omega
  · obtain ⟨n,t,b⟩:=ih (a+1) (by omega) (by omega) _ (Nat.le_refl _)
    refine ⟨_,.short (by omega) t,?_⟩
    have:=sum_pred h1
    rw [Nat.add_sub_cancel,this,Nat.mul_add] at b
    omega
theorem Tl.ex {D u k:Nat} (h:2*D≤u*2 ^ k) {a l:Nat} (h1:1≤a) (hl:l≤u*lub a): ∃n,Tl D u a l n∧n≤u* (k*2 ^ k)+2*D:=by
 obtain ⟨j,g1,g2,g3⟩:=lub_next k a h1
 have hj:2*D≤u*lub j:=Nat.le_trans h (Nat.mul_le_mul_left _ g2)
 obtain ⟨n,t,b⟩:=Tl.to hj (j - a) a h1 (by omega) l hl
 refine ⟨n,t,?_⟩
 have:=Nat.mul_le_mul_left u g3
 rw [Nat.mul_add] at this
 omega
def qp (q:Nat→Nat) (w:Nat):Nat:=if w=0 then 0 else q (w - 1)
def MA (q:Nat→Nat):Nat→Nat→Nat
 |0,_=>0
 |d+1,w=> (q (w+1) - q w / 2)+MA q d (w+1)
structure Pot (D wB C u M:Nat) (q:Nat→Nat) (w h U a l β r μ:Nat):Prop where
 l1:1≤l
 l2:l≤u*lub a
 a1:1≤a
 p2:min (u*lub a - l) r+β+1≤D
 hq:h<q w
 ph:(w<wB∧μ=(q w - h)+ (M - U)+MA q (wB - 1 - w) w+ (D+C))∨
  (wB≤w∧h≤qp q w+r∧((u*lub a - l≤r+D∧Tl D u a l μ∧μ≤C)∨(r+D<u*lub a - l∧μ=(D - r)+C)))
theorem Pot.step {D wB C u M:Nat} {q:Nat→Nat} {w h U a l β r μ:Nat} (hu:1≤u) (hC: ∀a l,1≤a→l≤u*lub a→∃n,Tl D u a l n∧n≤C) (hD: ∀w,wB≤w→D≤q w - qp q w) (hqm: ∀w,q w<q (w+1))
 (P:Pot D wB C u M q w h U a l β r μ) (hβ:1≤β) {w' h1 h' U' a' l' β':Nat} {ag du:Bool}
 (hag:(ag=true∧l=1∧a'=a+1∧l'=u*lub (a+1))∨(ag=false∧1<l∧a'=a∧l'=l - 1))
 (hh:(h1=h+1∧U'=U)∨(h1=h∧U'=U+1∧U'≤M))
 (hdu:(du=false∧w'=w∧h'=h1∧h1<q w)∨(du=true∧w'=w+1∧q w≤h1∧h'≤h1∧h1≤2*h'+1))
 (hb:((ag=true∨du=true)∧β'+1=D)∨(ag=false∧du=false∧β'+1=β)):
 ∃r' μ',Pot D wB C u M q w' h' U' a' l' β' r' μ'∧μ'+1≤μ:=by
 obtain ⟨l1,l2,a1,p2,hq,ph⟩:=P
 have hl0:1≤u*lub (a+1):=Nat.le_trans (by omega) (Nat.mul_le_mul hu (lub_ge (a+1)))
 have p3:min (u*lub a - l+1) (r+1)+1≤D:=by omega
 have la':1≤l'∧l'≤u*lub a'∧1≤a'∧(u*lub a' - l'=0∨(ag=false∧u*lub a' - l'=u*lub a - l+1)):=by
  rcases hag with ⟨_,_,rfl,rfl⟩| ⟨e,e1,rfl,rfl⟩
  · exact ⟨hl0,Nat.le_refl _,by omega,.inl (Nat.sub_self _)⟩
  · exact ⟨by omega,by omega,a1,.inr ⟨e,by omega⟩⟩
 obtain ⟨la1,la2,la3,la4⟩:=la'
 obtain ⟨n0,T0,C0⟩:=hC a' l' la3 la2
 have Jgo:u*lub a - l+1<2*D→Tl D u a l μ→μ≤C→∃μ',Tl D u a' l' μ'∧μ'≤C∧μ'+1≤μ:=by
  intro ht T hc
  rcases hag with ⟨_,e1,rfl,rfl⟩| ⟨_,e1,rfl,rfl⟩
  · cases T with
    |long h2=>omega
    |short h2 T2=>exact ⟨_,T2,by omega,by omega⟩
  · cases T with
    |long h2=>
     refine ⟨_,.long h2,?_,?_⟩<;>omega
    |short h2 T2=>exact ⟨_,.short h2 T2,by omega,by omega⟩
 rcases hdu with ⟨d0,rfl,rfl,hlt⟩| ⟨d0,rfl,hge,hle,hhalf⟩
 · have p2':min (u*lub a' - l') (r+1)+β'+1≤D:=by
    rcases hb with ⟨hr,hb⟩| ⟨e1,_,hb⟩
    · rcases la4 with e| ⟨e,_⟩
      · omega
      · rcases hr with hr|hr
        · rw [e] at hr;cases hr
        · rw [d0] at hr;cases hr
    · rcases la4 with e| ⟨_,e⟩<;>omega
   rcases ph with ⟨hw,hμ⟩| ⟨hw,hqr,⟨ht,T,hc⟩| ⟨ht,hμ⟩⟩
   · refine ⟨r+1,_,⟨la1,la2,la3,p2',hlt,.inl ⟨hw,rfl⟩⟩,?_⟩
     omega
   · obtain ⟨μ',T',c',m'⟩:=Jgo (by omega) T hc
     refine ⟨r+1,μ',⟨la1,la2,la3,p2',hlt,.inr ⟨hw,by omega,.inl ⟨?_,T',c'⟩⟩⟩,m'⟩
     rcases la4 with e| ⟨_,e⟩<;>omega
   · rcases la4 with e| ⟨_,e⟩
     · exact ⟨r+1,n0,⟨la1,la2,la3,p2',hlt,.inr ⟨hw,by omega,.inl ⟨by omega,T0,C0⟩⟩⟩,by omega⟩
     · exact ⟨r+1,(D - (r+1))+C,⟨la1,la2,la3,p2',hlt,.inr ⟨hw,by omega,.inr ⟨by omega,rfl⟩⟩⟩,by omega⟩
 · have hb':β'+1=D:=by
    rcases hb with ⟨_,hb⟩| ⟨_,e,_⟩
    · exact hb
    · rw [d0] at e;cases e
   have p2':min (u*lub a' - l') 0+β'+1≤D:=by omega
   have hq':h'<q (w+1):=by have:=hqm w;omega
   have hqw:q w≤h+1:=by omega
   have qpw:qp q (w+1)=q w:=rfl
   rcases ph with ⟨hw,hμ⟩| ⟨hw,hqr,ph⟩
   · by_cases hw1:w+1<wB
     · refine ⟨0,_,⟨la1,la2,la3,p2',hq',.inl ⟨hw1,rfl⟩⟩,?_⟩
       rw [show wB - 1 - w=(wB - 1 - (w+1))+1 by omega] at hμ
       simp only [MA] at hμ
       omega
     · rw [show wB - 1 - w=0 by omega] at hμ
       simp only [MA] at hμ
       by_cases ht:u*lub a' - l'≤0+D
       · exact ⟨0,n0,⟨la1,la2,la3,p2',hq',.inr ⟨by omega,by omega,.inl ⟨ht,T0,C0⟩⟩⟩,by omega⟩
       · exact ⟨0,(D - 0)+C,⟨la1,la2,la3,p2',hq',.inr ⟨by omega,by omega,.inr ⟨by omega,rfl⟩⟩⟩,by omega⟩
   · have hDw:=hD w hw
     rcases ph with ⟨ht,T,hc⟩| ⟨ht,hμ⟩
     · obtain ⟨μ',T',c',m'⟩:=Jgo (by omega) T hc
       refine ⟨0,μ',⟨la1,la2,la3,p2',hq',.inr ⟨by omega,by omega,.inl ⟨?_,T',c'⟩⟩⟩,m'⟩
       rcases la4 with e| ⟨_,e⟩<;>omega
     · omega
end Go.PotP
namespace Go.Proofs.YtddffgjagppimaaGreat.W
open Go Go.Fw Go.RowKit Go.SoP Go.LiP Go.LeP
open Go.IntKind (i64)
section
variable {w0 w w' w1 w2 u:World} {B N i:Nat} {L L' L1:Nat→Nat} {x:Xs} {l:List Int} {cs:List (List Int)} {hv:List (Nat × List Int)} {un:List (List Int)}
theorem SR.bump (h:SR w0 w B L N x) (v:Int):Calls Tryz.prog heap_Heap_Bump.id #[Hp.ptr x.hb,.int .i64 v] w fun e w'=> ∃r:Int,e= .returned (.int .i64 r)∧∃L',SR w0 w' B L' N x∧Kp w0 w w' L L':=by
 obtain ⟨z,z1,z2,z3,z4⟩:=h.hp id
 refine (Hp.bump_ok z1 z2 v).mono ?_
 rintro e w' ⟨rfl,y,y1,y2,y3,y4⟩
 have hf:y.foot x.hb=z.foot x.hb:=by
  rw [y3.foot]
  split
  · split<;>rfl
  · rfl
 have hh: ∀u:Int,1≤u→u≤N→(0<HeapP.g y.at_ u↔x.S u):=fun u u1 u2=>by
  rw [y3.has u u1 u2,← z3 u u1 u2]
  split
  · split<;>exact Iff.rfl
  · exact Iff.rfl
 have:=h.heap z4 z1.lt y1 y2 (S':=x.S) hh y4 fun k hk=> .inl (by rw [← hf];exact hk)
 exact ⟨_,rfl,_,this.1,this.2⟩
theorem SR.decay (h:SR w0 w B L N x):Calls Tryz.prog heap_Heap_Decay.id #[Hp.ptr x.hb] w fun e w'=>e= .returned (.tuple #[])∧∃L',SR w0 w' B L' N x∧Kp w0 w w' L L':=by
 obtain ⟨z,z1,z2,z3,z4⟩:=h.hp id
 refine (Hp.decay_ok z1 z2).mono ?_
 rintro e w' ⟨rfl,y,y1,y2,y3,y4⟩
 have hf:y.foot x.hb=z.foot x.hb:=by
  rw [y3.foot]
  split<;>rfl
 have hh: ∀u:Int,1≤u→u≤N→(0<HeapP.g y.at_ u↔x.S u):=fun u u1 u2=>by
  rw [y3.has u u1 u2,← z3 u u1 u2]
  split<;>exact Iff.rfl
 have:=h.heap z4 z1.lt y1 y2 (S':=x.S) hh y4 fun k hk=> .inl (by rw [← hf];exact hk)
 exact ⟨rfl,_,this.1,this.2⟩
structure Srch (N:Nat) (cs:List (List Int)) (x:Xs):Prop where
 ci:CSI N cs x.s (x.hv.map hpr) (x.un.map (·.2))
 hi:CHI N x.s x.S
 ph:x.ph.length=N+1
 n:x.m.n=N
 okh: ∀u∈x.hv,okH u
 went:0≤x.m.went∧x.m.went≤100
 pf:PF cs x.s (x.pr.map ppr)
 mo:x.mo= []
theorem Srch.own (st:Srch N cs x) {m':Me} (h:m'.n=x.m.n∧m'.went=x.m.went):Srch N cs {x with m:=m'}:=
 ⟨st.ci,st.hi,st.ph,by rw [h.1];exact st.n,st.okh,by rw [h.2];exact st.went,st.pf,st.mo⟩
theorem PF.backTo {s:PSt} {pr:List (Bool × List Int)} (h:PF cs s pr) (lev:Int):PF cs (backTo s lev) pr:=by
 unfold Go.Proofs.YtddffgjagppimaaGreat.W.backTo
 split
 · exact h.back
 · exact h
theorem CSI.backTo {s:PSt} (h:CSI N cs s hv un) (lev:Int):CSI N cs (backTo s lev) hv un:=by
 unfold Go.Proofs.YtddffgjagppimaaGreat.W.backTo
 split
 · exact h.back (by assumption)
 · exact h
theorem backTo_nc {s:PSt} {lev:Int}:(backTo s lev).nc=s.nc:=by unfold backTo;split<;>rfl
theorem backTo_chi {s:PSt} {S S':Int→Prop} {lev:Int} (g:Good s) (hv:s.vars=N) (h:CHI N s S) (hS: ∀v,S v→S' v) (ht: ∀y∈s.R .tr,y ∉ (backTo s lev).R .tr→S' (amt y)):CHI N (backTo s lev) S':=by
 intro v v1 v2 h0
 obtain ⟨kk,ek,ev⟩:=backTo_tr (s:=s) lev
 have hx:InV s.vars v:=⟨by omega,by omega,by omega⟩
 have hx':InV (backTo s lev).vars v:=by rw [ev];exact hx
 obtain ⟨a,b⟩:=(val0_iff (backTo_good g lev) hx').1 h0
 by_cases m1:v∈s.R .tr
 · have:=ht v m1 a
   rwa [show amt v=v by unfold amt;rw [if_neg (by omega)]] at this
 · by_cases m2: -v∈s.R .tr
   · have:=ht (-v) m2 b
     rwa [amt_neg,show amt v=v by unfold amt;rw [if_neg (by omega)]] at this
   · exact hS v (h v v1 v2 ((val0_iff g hx).2 ⟨m1,m2⟩))
theorem Srch.backTo (st:Srch N cs x) {lev:Int} {S':Int→Prop} {ph':List Int} (hp:ph'.length=N+1) (hS: ∀v,x.S v→S' v) (ht: ∀y∈x.s.R .tr,y ∉ (backTo x.s lev).R .tr→S' (amt y)):Srch N cs {x with s:=backTo x.s lev,S:=S',ph:=ph'}:=
 ⟨st.ci.backTo lev,backTo_chi st.ci.g st.ci.v st.hi hS ht,hp,st.n,st.okh,st.went,st.pf.backTo lev,st.mo⟩
theorem lrn_m {s':PSt} {sl hs us:Sl} {lv:Int}:(x.lrn s' sl l lv hs us).m=x.m:=by unfold Xs.lrn;split<;>rfl
theorem lrn_s {s':PSt} {sl hs us:Sl} {lv:Int}:(x.lrn s' sl l lv hs us).s=s':=by unfold Xs.lrn;split<;>rfl
theorem lrn_pr {s':PSt} {sl hs us:Sl} {lv:Int}:(x.lrn s' sl l lv hs us).pr=x.pr:=by unfold Xs.lrn;split<;>rfl
theorem lrn_len {s':PSt} {sl hs us:Sl} {lv:Int}:(x.lrn s' sl l lv hs us).hv.length+ (x.lrn s' sl l lv hs us).un.length=x.hv.length+x.un.length+1∧(x.lrn s' sl l lv hs us).hv.length≤x.hv.length+1:=by
 unfold Xs.lrn
 split
 · simp;omega
 · simp;omega
theorem lrn_cs {s':PSt} {sl hs us:Sl} {lv:Int}:((x.lrn s' sl l lv hs us).hv.length=x.hv.length+1∧(x.lrn s' sl l lv hs us).un=x.un)∨((x.lrn s' sl l lv hs us).hv.length=x.hv.length∧∃c:Us,c.2.length≤1∧(x.lrn s' sl l lv hs us).un=x.un++ [c]):=by
 unfold Xs.lrn
 split
 · exact .inl ⟨by simp,rfl⟩
 · exact .inr ⟨rfl,(sl,l),by show l.length≤1;omega,rfl⟩
theorem backTo0_be {s:PSt}:(backTo s 0).R .be= []:=by
 unfold backTo
 have e:(max 0 (0:Int)).toNat=0:=rfl
 rw [e]
 split
 · rw [back_be];rfl
 · exact List.eq_nil_of_length_eq_zero (by omega)
theorem Srch.lrn (st:Srch N cs x) {t:PSt} {S':Int→Prop} {ph':List Int} {bl:Nat} (k:LS x.s l bl) (f:Folw N cs l) (rp:RupS x.s l) (ht:t=x.s.back bl) {s':PSt} (ha:Added t l s') (g':Good s') (hp:ph'.length=N+1) (hi:CHI N t S') {sl hs us q:Sl} {sl2:Sl} {lv:Int} (hl:0≤lv∧lv≤l.length) (hx:l.length≤4096):
 Srch N cs ({x with s:=t,S:=S',ph:=ph',ps:=q,pr:=x.pr++ [(false,sl2,l)]}.lrn s' sl l lv hs us):=by
 subst ht
 have c0:=st.ci.learn k f ha g'
 have pf:=PF.add st.pf rp ha
 have hi':CHI N s' S':=by
  intro v v1 v2 h0
  have hx':InV s'.vars v:=by rw [c0.v];exact ⟨by omega,by omega,by omega⟩
  have hb:InV (x.s.back bl).vars v:=by
   have:s'.vars=(x.s.back bl).vars:=ha.v
   rw [← this];exact hx'
  have:=(val0_iff g' hx').1 h0
  rw [ha.tr] at this
  exact hi v v1 v2 ((val0_iff (back_good st.ci.g k.lt) hb).2 this)
 have pf':PF cs s' ((x.pr++ [(false,sl2,l)]).map ppr):=by rw [List.map_append];exact pf
 by_cases e:1<l.length
 · unfold Xs.lrn
   rw [if_pos e]
   refine ⟨?_,hi',hp,st.n,fun u hu=> ?_,st.went,pf',st.mo⟩
   · have:=c0.have_
     show CSI N cs s' ((x.hv++ [_]).map hpr) _
     rw [List.map_append];exact this
   · rcases List.mem_append.1 hu with hu|hu
     · exact st.okh u hu
     · rw [List.mem_singleton] at hu;subst hu
       exact ⟨hl.1,hl.2,by show (l.length:Int)≤4096;omega,hx⟩
 · unfold Xs.lrn
   rw [if_neg e]
   refine ⟨?_,hi',hp,st.n,st.okh,st.went,pf',st.mo⟩
   have:=c0.unit_
   show CSI N cs s' _ ((x.un++ [_]).map _)
   rw [List.map_append];exact this
def dueB (lrn went:Int) (h:Nat):Prop:=0<Re.quota lrn went∧Re.quota lrn went≤(h:Int)
structure Rl (N:Nat) (x x':Xs):Prop where
 nc:x'.s.nc=x.s.nc
 cf:x'.m.cf=x.m.cf
 de:x'.m.de=x.m.de
 re:x'.m.re=x.m.re
 bud:x'.m.bud=x.m.bud
 lrn:x'.m.lrn=x.m.lrn
 ver:x'.m.ver=x.m.ver
 pc:x'.m.pu=x.m.pu∧x'.m.pa=x.m.pa∧x'.m.pl=x.m.pl
 un:x'.un=x.un
 dr:x.m.dr≤x'.m.dr∧x'.m.dr+x'.hv.length=x.m.dr+x.hv.length
 pl:x'.pr.length+x'.hv.length=x.pr.length+x.hv.length
 bz:x.s.R .be= []→x'.s.R .be= []
 hv:(x'.m.went=x.m.went∧x'.hv.length=x.hv.length∧x'.s=x.s∧¬dueB x.m.lrn x.m.went x.hv.length)∨
  (x.m.went<100∧x'.m.went=x.m.went+1∧x'.hv.length≤x.hv.length∧x.hv.length≤2*x'.hv.length+1∧dueB x.m.lrn x.m.went x.hv.length∧x'.s.R .be= [])
theorem due_w (h:SR w0 w B L N x) (st:Srch N cs x) (hN:N≤1000) (h3:x.hv.length≤1000000) (hq:(x.hv.length:Int)<Re.quota x.m.lrn 100) (hpl:x.pr.length≤900000000) (hdr:0≤x.m.dr∧x.m.dr≤1000000000) {K:World→Prop}
 (hk: ∀w' L' x',SR w0 w' B L' N x'→Kp w0 w w' L L'→Srch N cs x'→Rl N x x'→K w'):
 ∃a51,(some (Addr.mk B 0 none))=some a51∧∃x52p x52n x52c,w.drew.cell? (a51.add 11)=some (.slice x52p x52n x52c)∧
  ∃a53,(some (Addr.mk B 0 none))=some a53∧∃x54,w.drew.cell? ((a53.add 2).add 2)=some (.int .i64 x54)∧
  ∃a55,(some (Addr.mk B 0 none))=some a55∧∃x56,w.drew.cell? (a55.add 13)=some (.int .i64 x56)∧
  Calls Tryz.prog 53 #[.int .i64 (x52n:Int),.int .i64 x54,.int .i64 x56] w.drew fun e w57=> ∃r58,e= .returned (.bool r58)∧
  cnd r58
  (Calls Tryz.prog 50 #[.pointer (some (Addr.mk B 0 none)),.int .i64 0] w57 fun e w59=>e= .returned (.tuple #[])∧
    Calls Tryz.prog 54 #[.pointer (some (Addr.mk B 0 none))] w59 fun e w60=>e= .returned (.tuple #[])∧
    K w60)
  (K w57):=by
 have D:=h.drew
 have hhn:=(h.hv id).2.1
 refine ⟨_,rfl,_,_,_,cell_add D.at rfl,_,rfl,_,cell_add2 D.at rfl,_,rfl,_,cell_add D.at rfl,(Re.Due_ok _ _ _ _).mono ?_⟩
 rintro e w57 ⟨rfl,g57⟩
 have S57:=D.grow g57
 have k57:Kp w0 w w57 L L:=Chg.grow ((Mod.refl w).drew.trans g57)
 refine ⟨_,rfl,cnd_i (fun r=> ?_) (fun r=> ?_)⟩
 · rw [Bool.and_eq_true,decide_eq_true_eq,decide_eq_true_eq,hhn] at r
   refine (cback_ok S57 st.ci.g st.ci.v hN st.ph 0).mono ?_
   rintro e w59 ⟨rfl,L59,S59,ph59,R59,k59,hp59,hs59,ht59⟩
   have st59:=st.backTo hp59 hs59 ht59
   have hw:=st.went
   have w100:x.m.went<100:=by
    refine Classical.byContradiction fun hn=> ?_
    have e1:x.m.went=100:=by omega
    rw [e1] at r
    omega
   refine ⟨rfl,(cless_ok R59 st59.ci st59.hi (by show x.hv.length≤_;omega) hpl st59.okh hdr st59.pf).mono ?_⟩
   rintro e w60 ⟨rfl,L60,s60,hv60,hs60,pr60,ps60,dr60,k60,R60,c60,i60,n60,o60,p60,le60,be60,pf60,d60,d61,d62⟩
   have ew:imin (i64.wrap (x.m.went+1)) 100=x.m.went+1:=by
    rw [wrap64_of (by omega) (by omega)]
    unfold imin
    rw [if_neg (by omega)]
   refine ⟨rfl,hk _ _ _ R60 ((k57.trans k59).trans k60) ⟨c60,i60,hp59,st.n,o60,?_,pf60,st.mo⟩ ⟨?_,rfl,rfl,rfl,rfl,rfl,rfl,⟨rfl,rfl,rfl⟩,rfl,⟨d60,d61⟩,p60,fun _=>be60.trans backTo0_be,.inr ⟨w100,ew,le60,d62,r,be60.trans backTo0_be⟩⟩⟩
   · show 0≤imin (i64.wrap (x.m.went+1)) 100∧imin (i64.wrap (x.m.went+1)) 100≤100
     rw [ew];omega
   · rw [n60];exact backTo_nc
 · rw [← Bool.not_eq_true,Bool.and_eq_true,decide_eq_true_eq,decide_eq_true_eq,hhn] at r
   exact hk _ _ _ S57 k57 st ⟨rfl,rfl,rfl,rfl,rfl,rfl,rfl,⟨rfl,rfl,rfl⟩,rfl,⟨Int.le_refl _,rfl⟩,rfl,id,.inl ⟨rfl,rfl,rfl,r⟩⟩
end
section
variable {w0 w w' w1 w2 u:World} {B N i:Nat} {L L' L1:Nat→Nat} {x:Xs} {l:List Int} {cs:List (List Int)} {hv:List (Nat × List Int)} {un:List (List Int)}
structure Cfl (N:Nat) (x x':Xs):Prop where
 nc:x'.s.nc=x.s.nc+1
 cf:x'.m.cf=x.m.cf+1
 de:x'.m.de=x.m.de
 re:x'.m.re=x.m.re∨x'.m.re=x.m.re+1
 bud:x'.m.bud=x.m.bud
 lrn:x'.m.lrn=x.m.lrn
 ver:x'.m.ver=x.m.ver
 dr:x.m.dr≤x'.m.dr∧x'.m.dr+x'.hv.length≤x.m.dr+x.hv.length+1
 pl:x'.pr.length+x'.hv.length≤x.pr.length+x.hv.length+2
 pc:x'.m.pu=Lu.tickU x.m.pu x.m.pa x.m.pl∧x'.m.pa=Lu.tickA x.m.pu x.m.pa x.m.pl∧x'.m.pl=Lu.tickL x.m.pu x.m.pa x.m.pl
 ch: ∃h1:Nat,((h1=x.hv.length+1∧x'.un=x.un)∨(h1=x.hv.length∧∃c:Us,c.2.length≤1∧x'.un=x.un++ [c]))∧
  ((x'.m.went=x.m.went∧x'.hv.length=h1∧¬dueB x.m.lrn x.m.went h1)∨(x.m.went<100∧x'.m.went=x.m.went+1∧x'.hv.length≤h1∧h1≤2*x'.hv.length+1∧dueB x.m.lrn x.m.went h1))
 bz:Lu.again x.m.pu x.m.pa x.m.pl=true∨x'.m.went=x.m.went+1→x'.s.R .be= []
 rb: ∀β,RBd x.s β→1≤β∧(Lu.again x.m.pu x.m.pa x.m.pl=false→x'.m.went=x.m.went→RBd x'.s (β - 1))
theorem conflict_ok (h:SR w0 w B L N x) (st:Srch N cs x) (hN:N≤1000) (h3:x.hv.length≤900000∧x.un.length≤900000) (hq:((x.hv.length+1:Nat):Int)<Re.quota x.m.lrn 100) (hB:Brk x.s i) (hl:0< (x.s.R .be).length) (hnc:x.s.nc<262144) (hcf:0≤x.m.cf∧x.m.cf≤1000000000) (hre:0≤x.m.re∧x.m.re≤1000000000) (hpl:x.pr.length≤800000000) (hdr:0≤x.m.dr∧x.m.dr≤1000000000):
 Calls Tryz.prog cdcl_search_conflict.id #[ptrV B,.int .i64 i] w fun e w'=>e= .returned (.tuple #[])∧∃L' x',SR w0 w' B L' N x'∧Kp w0 w w' L L'∧Srch N cs x'∧Cfl N x x':=by
 have g:=st.ci.g
 refine cdcl_search_conflict.calls ⟨_,rfl,_,cell_add2 h.at rfl,_,rfl,?_⟩
 have ecf:i64.wrap (x.m.cf+1)=x.m.cf+1:=wrap64_of (by omega) (by omega)
 rw [ecf]
 refine store_f2 h.at rfl rfl fun w4 h4 m4=> ?_
 obtain ⟨S4,k4⟩:=h.own (m':= {x.m with cf:=x.m.cf+1}) h4 m4
 refine ⟨_,rfl,_,cell_add S4.at rfl,(S4.clause g i).mono ?_⟩
 rintro e w7 ⟨q8,d8,rfl,o8,g7,f8⟩
 have his:x.s.is (i:Int)=true:=PSt.is_iff.2 ⟨by omega,by rw [Int.toNat_natCast];exact hB.1⟩
 have his2:PSt.is {x with m:= {x.m with cf:=x.m.cf+1}}.s (i:Int)=true:=his
 rw [his2,if_pos rfl,Int.toNat_natCast] at o8 ⊢
 have o8:OwI ty_int w7 q8 d8 (x.s.R (.a i)):=o8
 obtain ⟨bk,hbk⟩: ∃bk,bk=x.s.R (.a i):=⟨_,rfl⟩
 have hal:=g.al i
 rw [← hbk] at o8 hal
 show ∃r8p r8n r8c r9,Ending.returned (.tuple #[.slice q8 (x.s.R (.a i)).length d8,.bool true])=_∧_
 rw [← hbk]
 refine ⟨_,_,_,_,rfl,?_⟩
 have S7:=S4.new g7 9
 have k7:Kp w0 w4 w7 L (reL L w4.heap.size 9):=Chg.new g7 9
 have vb:Vw (Value.int .i64) w7 q8 (x.s.R (.a i)):=by rw [← hbk];exact o8.vw
 have ci4:CSI N cs ({x with m:= {x.m with cf:=x.m.cf+1}}:Xs).s (x.hv.map hpr) (x.un.map (·.2)):=st.ci
 refine (study_ok S7 ci4 hN hB hl vb (by rw [hbk])).mono ?_
 rintro e w10 ⟨q,d,l,bl,lv,rfl,ol,fl,g10,Ls,Fl,lv0,lv1⟩
 have Ls:LS x.s l bl:=Ls
 refine ⟨_,_,_,_,_,rfl,?_⟩
 obtain ⟨S10,k10⟩:SR w0 w10 B _ N _∧Kp w0 w7 w10 _ _:=⟨S7.new g10 9,Chg.new g10 9⟩
 have ro10:RO w10 (reL (reL L w4.heap.size 9) w7.heap.size 9) ⟨q,l.length,d⟩ l:=⟨rfl,ol.vw,fun k hk=> ⟨reL_new (fl k hk),ol.lt k hk⟩⟩
 have okl:=Ls.okc st.ci
 have hll:l.length≤4096:=by
  have h1:=nodup_len (n:=N+1) (l:=l.map amt) ?_ fun y hy=> ?_
  · simp at h1;omega
  · unfold List.Nodup
    rw [List.pairwise_map]
    refine List.Pairwise.imp_of_mem (fun {a b} ha hb hne e=> ?_) Ls.nd
    rcases amt_eq e with e|e
    · exact hne e
    · exact okl.nt b hb (by rw [← e];exact ha)
  · obtain ⟨z,hz,rfl⟩:=List.mem_map.1 hy
    have:=(okl.inv z hz).amt
    omega
 have okc:okC x.s.vars l=true:=okC_of (by rw [st.ci.v];omega) (fun y hy=>Ls.inv g hy) hll
 refine (clone_ok (o8.vw.grow g10) rfl (by omega)).mono ?_
 rintro e w14 ⟨q15,d15,rfl,o15,g14,f15⟩
 refine ⟨_,_,_,rfl,?_⟩
 have S14:=S10.new g14 0
 have k14:Kp w0 w10 w14 _ (reL (reL (reL L w4.heap.size 9) w7.heap.size 9) w10.heap.size 0):=Chg.new g14 0
 obtain ⟨L14,hL14⟩: ∃L14,L14=reL (reL (reL L w4.heap.size 9) w7.heap.size 9) w10.heap.size 0:=⟨_,rfl⟩
 have lab15: ∀b,blk q15=some b→L14 b=0∧w.heap.size≤b:=fun b hb=> ⟨by rw [hL14];exact reL_new (f15 b hb),by have:=f15 b hb;have:=m4.size;have:=g7.size;have:=g10.size;omega⟩
 rw [← hL14] at S14 k14
 have hw0:=h.g.size
 refine o15.appS sl_intC (ol.grow g14) rfl rfl oneInt (by omega) fun w16 p17 c17 o17 m17 hp17 hs17=> ?_
 have m17':Mod (fun k=>L14 k=0∧w0.heap.size≤k) w14 w16:=m17.mono fun b _ e=> ⟨(lab15 b e).1,by have:=(lab15 b e).2;omega⟩
 obtain ⟨S16,k16⟩:=S14.loc (L':=reL L14 w14.heap.size 0) m17' fun _ hk=>reL_old hk
 have k16:Kp w0 w14 w16 L14 (reL L14 w14.heap.size 0):=k16.weak fun i e=>by rw [e];decide
 have lab17: ∀b,blk p17=some b→reL L14 w14.heap.size 0 b=0∧w.heap.size≤b:=fun b hb=>by
  rcases hp17 with rfl|rfl
  · rw [reL_old (o15.lt b hb)];exact lab15 b hb
  · have:=blk_some hb
    have:=m4.size;have:=g7.size;have:=g10.size;have:=g14.size
    exact ⟨reL_new (by omega),by omega⟩
 obtain ⟨L16,hL16⟩: ∃L16:Nat→Nat,L16=fun k=>if blk p17=some k then 9 else reL L14 w14.heap.size 0 k:=⟨_,rfl⟩
 have rl16: ∀k,reL L14 w14.heap.size 0 k≠0→L16 k=reL L14 w14.heap.size 0 k:=fun k hk=>by
  rw [hL16]
  show (if blk p17=some k then 9 else _)=_
  rw [if_neg fun e=>hk (lab17 k e).1]
 have T16:=S16.relab rl16
 have kk16:=(((k4.trans k7).trans k10).trans k14).trans k16
 have kp16:Kp w0 w w16 L L16:=⟨kk16.mod,fun k hk=>by
  rw [hL16]
  show (if blk p17=some k then 9 else _)=_
  rw [if_neg fun e=>by have:=(lab17 k e).2;omega]
  exact kk16.lab k hk⟩
 have ro16:RO w16 L16 ⟨q,l.length,d⟩ l:=((k14.trans k16).ro ro10).relab rl16
 have r917:R9 w16 L16 p17:=⟨fun k hk=> ⟨by rw [hL16];show (if blk p17=some k then 9 else _)=9;rw [if_pos hk],o17.lt k hk⟩⟩
 have v17:=o17.vw
 have hl17:(bk++l).length≤10000:=by rw [List.length_append];omega
 generalize bk++l=m at v17 hl17 ⊢
 refine ⟨fun v u z=> ∃ (t:Nat) (L1:Nat→Nat),v=t∧t≤m.length∧z=m.length - t∧SR w0 u B L1 N {x with m:= {x.m with cf:=x.m.cf+1}}∧Kp w0 w16 u L16 L1,⟨_,0,L16,rfl,Nat.zero_le _,rfl,T16,Kp.refl⟩,?_⟩
 rintro v u z _ ⟨t,L1,rfl,ht,rfl,SS,kk⟩
 refine cnd_i (fun r=> ?_) (fun r=> ?_)
 · have r:t<m.length:=by simp at r;omega
   refine (kk.vw v17 r917).ix 0 (by omega) rfl (by omega) fun a ha=> ⟨_,ha,_,rfl,_,cell_add SS.at rfl,(SS.bump _).mono ?_⟩
   rintro e w27 ⟨r28,rfl,L27,S27,k27⟩
   refine ⟨_,rfl,_,?_,t+1,L27,wN (by omega) (by omega),by omega,rfl,S27,kk.trans k27⟩
   omega
 clear r
 refine ⟨_,rfl,_,cell_add SS.at rfl,SS.decay.mono ?_⟩
 rintro e w31 ⟨rfl,L31,S31,k31⟩
 refine ⟨rfl,?_⟩
 have ro31:=(kk.trans k31).ro ro16
 refine (told_ok S31 (by show x.pr.length≤_;omega) ro31.v rfl (by omega)).mono ?_
 rintro e w32 ⟨rfl,L32,q32,sl32,S32,k32⟩
 have ro32:=k32.ro ro31
 have ebl:imax 0 (bl:Int)=bl:=by unfold imax;split<;>omega
 rw [ebl]
 refine ⟨rfl,(cback_ok S32 g st.ci.v hN st.ph bl).mono ?_⟩
 rintro e w33 ⟨rfl,L33,S',ph',S33,k33,hp33,hs33,ht33⟩
 have ro33:=k33.ro ro32
 have eb:backTo x.s bl=x.s.back bl:=by
  unfold backTo
  have e1:(max 0 (bl:Int)).toNat=bl:=by omega
  rw [e1,if_pos Ls.lt]
 have S33:SR w0 w33 B L33 N {x with m:= {x.m with cf:=x.m.cf+1},ps:=q32,pr:=x.pr++ [(false,sl32,l)],s:=backTo x.s bl,S:=S',ph:=ph'}:=S33
 have hi33:CHI N (backTo x.s bl) S':=backTo_chi g st.ci.v st.hi hs33 ht33
 rw [eb] at S33 hi33
 have gb:=back_good g Ls.lt
 refine ⟨rfl,(cadd_ok S33 gb hnc okc ro33 hll lv (by show x.hv.length≤_;omega) (by show x.un.length≤_;omega)).mono ?_⟩
 rintro e w34 ⟨rfl,L34,s',hs,us,S34,k34,g34,ha⟩
 have ha:Added (x.s.back bl) l s':=ha
 have st34:=(st.own (m':= {x.m with cf:=x.m.cf+1}) ⟨rfl,rfl⟩).lrn (q:=q32) (sl2:=sl32) (sl:=⟨q,l.length,d⟩) (hs:=hs) (us:=us) Ls Fl trivial rfl ha g34 hp33 hi33 ⟨lv0,lv1⟩ hll
 have kp34:=(((((kp16.trans kk).trans k31).trans k32).trans k33).trans k34)
 have e34:({x with m:= {x.m with cf:=x.m.cf+1},ps:=q32,pr:=x.pr++ [(false,sl32,l)],s:=x.s.back bl,S:=S',ph:=ph'}:Xs).lrn s' ⟨q,l.length,d⟩ l lv hs us=({x with m:= {x.m with cf:=x.m.cf+1},ps:=q32,pr:=x.pr++ [(false,sl32,l)],s:=x.s.back bl,S:=S',ph:=ph'}:Xs).lrn s' ⟨q,l.length,d⟩ l lv hs us:=rfl
 obtain ⟨y,hy⟩: ∃y,y=({x with m:= {x.m with cf:=x.m.cf+1},ps:=q32,pr:=x.pr++ [(false,sl32,l)],s:=x.s.back bl,S:=S',ph:=ph'}:Xs).lrn s' ⟨q,l.length,d⟩ l lv hs us:=⟨_,rfl⟩
 have ym:y.m= {x.m with cf:=x.m.cf+1}:=by rw [hy];exact lrn_m
 have ys:y.s.nc=x.s.nc+1:=by rw [hy,lrn_s];exact ha.n
 have yp:y.pr.length=x.pr.length+1:=by rw [hy,lrn_pr];simp
 have yl:y.hv.length+y.un.length=x.hv.length+x.un.length+1∧y.hv.length≤x.hv.length+1:=by rw [hy];exact lrn_len
 have S34:SR w0 w34 B L34 N y:=by rw [hy];exact S34
 have st34:Srch N cs y:=by rw [hy];exact st34
 have yc:(y.hv.length=x.hv.length+1∧y.un=x.un)∨(y.hv.length=x.hv.length∧∃c:Us,c.2.length≤1∧y.un=x.un++ [c]):=by rw [hy];exact lrn_cs
 have yr: ∀β,RBd x.s β→1≤β∧RBd y.s (β - 1):=fun β hb=>by rw [hy,lrn_s];exact hb.conf g st.ci.bnd hB Ls ha
 clear hy e34
 refine ⟨rfl,_,rfl,_,_,_,⟨cell_add2 S34.at rfl,cell_add2 S34.at rfl,cell_add2 S34.at rfl,trivial⟩,(Lu.tick_spec _ _ _ _).mono ?_⟩
 rintro e w39 ⟨rfl,g39⟩
 refine ⟨_,_,_,_,rfl,_,rfl,?_⟩
 have S39:=S34.grow g39
 refine store_f S39.at rfl rfl fun w45 h45 m45=> ?_
 obtain ⟨S45,k45⟩:=S39.own (m':= {y.m with pu:=Lu.tickU y.m.pu y.m.pa y.m.pl,pa:=Lu.tickA y.m.pu y.m.pa y.m.pl,pl:=Lu.tickL y.m.pu y.m.pa y.m.pl}) h45 m45
 have st45:=st34.own (m':= {y.m with pu:=Lu.tickU y.m.pu y.m.pa y.m.pl,pa:=Lu.tickA y.m.pu y.m.pa y.m.pl,pl:=Lu.tickL y.m.pu y.m.pa y.m.pl}) ⟨rfl,rfl⟩
 have kp45:=(kp34.trans (Chg.grow g39)).trans k45
 have hq':(y.hv.length:Int)<Re.quota y.m.lrn 100:=by rw [ym];show (y.hv.length:Int)<Re.quota x.m.lrn 100;omega
 have hdr':0≤y.m.dr∧y.m.dr≤1000000000:=by rw [ym];exact hdr
 have fin: ∀ {z x':Xs},Rl N z x'→Srch N cs x'→z.m.cf=y.m.cf→z.m.de=y.m.de→(z.m.re=y.m.re∨z.m.re=y.m.re+1)→z.m.bud=y.m.bud→z.m.lrn=y.m.lrn→z.m.ver=y.m.ver→z.m.dr=y.m.dr→z.m.went=y.m.went→z.s.nc=y.s.nc→z.hv=y.hv→z.un=y.un→z.pr=y.pr→
  (z.m.pu=Lu.tickU y.m.pu y.m.pa y.m.pl∧z.m.pa=Lu.tickA y.m.pu y.m.pa y.m.pl∧z.m.pl=Lu.tickL y.m.pu y.m.pa y.m.pl)→((Lu.again y.m.pu y.m.pa y.m.pl=true∧z.s.R .be= [])∨(Lu.again y.m.pu y.m.pa y.m.pl=false∧z.s=y.s))→Cfl N x x':=by
  intro z x' R sx e1 e2 e3 e4 e5 e6 e7 e8 e9 e10 e11 e12 e13 e14
  have hw:=st.went
  have Rhv:=R.hv
  rw [e10,e8,e5,ym] at Rhv
  have Rhv:(x'.m.went=x.m.went∧x'.hv.length=y.hv.length∧x'.s=z.s∧¬dueB x.m.lrn x.m.went y.hv.length)∨(x.m.went<100∧x'.m.went=x.m.went+1∧x'.hv.length≤y.hv.length∧y.hv.length≤2*x'.hv.length+1∧dueB x.m.lrn x.m.went y.hv.length∧x'.s.R .be= []):=Rhv
  have Rpc:=R.pc
  rw [e13.1,e13.2.1,e13.2.2,ym] at Rpc
  rw [ym] at e14
  have e14:(Lu.again x.m.pu x.m.pa x.m.pl=true∧z.s.R .be= [])∨(Lu.again x.m.pu x.m.pa x.m.pl=false∧z.s=y.s):=e14
  refine ⟨by rw [R.nc,e9,ys],by rw [R.cf,e1,ym],by rw [R.de,e2,ym],by rw [R.re];rw [ym] at e3;exact e3,by rw [R.bud,e4,ym],by rw [R.lrn,e5,ym],by rw [R.ver,e6,ym],?_,?_,Rpc,⟨y.hv.length,?_,?_⟩,?_,?_⟩
  · have:=R.dr
    rw [e7,e10,ym] at this
    have:x.m.dr≤x'.m.dr∧x'.m.dr+x'.hv.length=x.m.dr+y.hv.length:=this
    omega
  · have:=R.pl
    rw [e12,e10] at this
    omega
  · rw [R.un,e11];exact yc
  · rcases Rhv with ⟨a,b,_,d⟩| ⟨a,b,c,d,f,_⟩
    · exact .inl ⟨a,b,d⟩
    · exact .inr ⟨a,b,c,d,f⟩
  · rintro (h|h)
    · rcases e14 with ⟨_,e⟩| ⟨e,_⟩
      · exact R.bz e
      · rw [h] at e;cases e
    · rcases Rhv with ⟨a,_⟩| ⟨_,_,_,_,_,e⟩
      · omega
      · exact e
  · intro β hb
    obtain ⟨b1,b2⟩:=yr β hb
    refine ⟨b1,fun ha hwe=> ?_⟩
    rcases e14 with ⟨e,_⟩| ⟨_,e⟩
    · rw [ha] at e;cases e
    · rcases Rhv with ⟨_,_,c,_⟩| ⟨_,b,_⟩
      · rw [c,e];exact b2
      · omega
 refine cnd_i (fun hag=> ?_) (fun hag=> ?_)
 · refine ⟨_,rfl,_,cell_add2 S45.at rfl,_,rfl,?_⟩
   refine store_f2 S45.at rfl rfl fun w49 h49 m49=> ?_
   have ere:i64.wrap (y.m.re+1)=y.m.re+1:=by
    have:y.m.re=x.m.re:=by rw [ym]
    rw [wrap64_of (by omega) (by omega)]
   obtain ⟨S49,k49⟩:=S45.own (m':= {y.m with pu:=Lu.tickU y.m.pu y.m.pa y.m.pl,pa:=Lu.tickA y.m.pu y.m.pa y.m.pl,pl:=Lu.tickL y.m.pu y.m.pa y.m.pl,re:=i64.wrap (y.m.re+1)}) h49 m49
   have st49:=st34.own (m':= {y.m with pu:=Lu.tickU y.m.pu y.m.pa y.m.pl,pa:=Lu.tickA y.m.pu y.m.pa y.m.pl,pl:=Lu.tickL y.m.pu y.m.pa y.m.pl,re:=i64.wrap (y.m.re+1)}) ⟨rfl,rfl⟩
   refine (cback_ok S49 st49.ci.g st49.ci.v hN st49.ph 0).mono ?_
   rintro e w50 ⟨rfl,L50,S50,ph50,R50,k50,hp50,hs50,ht50⟩
   have st50:=st49.backTo hp50 hs50 ht50
   refine ⟨rfl,due_w R50 st50 hN (by show y.hv.length≤_;omega) hq' (by show y.pr.length≤_;omega) hdr' fun w' L' x' S' k' s' R=> ?_⟩
   exact ⟨rfl,L',x',S',((kp45.trans k49).trans k50).trans k',s',fin R s' rfl rfl (.inr ere) rfl rfl rfl rfl rfl backTo_nc rfl rfl rfl ⟨rfl,rfl,rfl⟩ (.inl ⟨hag,backTo0_be⟩)⟩
 · refine due_w S45 st45 hN (by show y.hv.length≤_;omega) hq' (by show y.pr.length≤_;omega) hdr' fun w' L' x' S' k' s' R=> ?_
   exact ⟨rfl,L',x',S',kp45.trans k',s',fin R s' rfl rfl (.inl rfl) rfl rfl rfl rfl rfl rfl rfl rfl rfl ⟨rfl,rfl,rfl⟩ (.inr ⟨hag,rfl⟩)⟩
end
end Go.Proofs.YtddffgjagppimaaGreat.W
