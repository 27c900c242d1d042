/- Layer 6: the law's own functions: a propagator to begin with; the small example. -/
import Derived.Test.YtenmibfmhccmiaaGreatPropF
import Derived.Test.YtenmibfmhccmiaaGreatFwRead
import Derived.Test.YtenmibfmhccmiaaGreatLitB
set_option linter.unusedVariables false
set_option linter.unusedSimpArgs false
namespace Go.Proofs.YtenmibfmhccmiaaGreat.W
open Go Go.Fw Go.RowKit Go.SoP Go.LiP
variable {w w' w0 w2 w3:World} {b:Nat} {H H' H2:Pt→Sl} {s t u s' T:PSt} {cp gp dp ap:Option Addr} {hs:List Sl} {cs:List (List Int)} {gl:List Bool} {dl c:List Int} {cn cc gn gc dn dc an ac:Nat} {v:Int}
theorem Ext.cls (x:Ext s s') {c:List Int}:s'.cls c↔s.cls c:=by
 unfold PSt.cls
 refine exists_congr fun i=>and_congr x.there ?_
 rw [x.a]
theorem V2.two {w:World} {n1 n3 n5:Nat} {x1 x2 y1 y2:Int} (h1:Has w n1 #[.int .i64 x1,.int .i64 x2]) (h3:Has w n3 #[.int .i64 y1,.int .i64 y2]) (h5:Has w n5 #[.slice (some ⟨n1,0,none⟩) 2 2,.slice (some ⟨n3,0,none⟩) 2 2]):
 V2 (Value.int .i64) w (some ⟨n5,0,none⟩) [⟨some ⟨n1,0,none⟩,2,2⟩,⟨some ⟨n3,0,none⟩,2,2⟩] [[x1,x2],[y1,y2]]:=by
 refine ⟨fun j hj=> ?_,rfl,fun j hj=> ?_⟩
 · have hj:j=0∨j=1:=by simp at hj;omega
   rcases hj with rfl|rfl
   · exact ⟨_,rfl,cell_add h5 rfl⟩
   · exact ⟨_,rfl,cell_add h5 rfl⟩
 · have hj:j=0∨j=1:=by simp at hj;omega
   rcases hj with rfl|rfl
   · refine ⟨rfl,by show 2≤maxLen;unfold maxLen;omega,fun i hi=> ?_⟩
     have hi:i=0∨i=1:=by simp at hi;omega
     rcases hi with rfl|rfl
     · exact ⟨_,rfl,cell_add h1 rfl⟩
     · exact ⟨_,rfl,cell_add h1 rfl⟩
   · refine ⟨rfl,by show 2≤maxLen;unfold maxLen;omega,fun i hi=> ?_⟩
     have hi:i=0∨i=1:=by simp at hi;omega
     rcases hi with rfl|rfl
     · exact ⟨_,rfl,cell_add h3 rfl⟩
     · exact ⟨_,rfl,cell_add h3 rfl⟩
end Go.Proofs.YtenmibfmhccmiaaGreat.W
namespace Go.Proofs.YtenmibfmhccmiaaGreat.W
open Go Go.Fw Go.RowKit Go.SoP Go.LiP
variable {w w' w0 w2 w3:World} {b:Nat} {H H' H2:Pt→Sl} {s t u s' T:PSt} {p cp gp dp ap:Option Addr} {hs:List Sl} {cs:List (List Int)} {gl:List Bool} {dl c:List Int} {cn cc gn gc dn dc an ac:Nat} {v:Int}
structure Ak where
 d:Int
 l:Int
 c:List Int
def ak0:Ak:=⟨0,0,[]⟩
def AV (w:World) (p:Option Addr) (al:List Ak):Prop:= ∀i,i<al.length→∃ (a:Addr) (s:Sl),p=some a∧CellsAt w (a.add (i*3)) 0 [.int .i64 (al.getD i ak0).d,.int .i64 (al.getD i ak0).l,.slice s.p s.n s.c]∧
 s.n=(al.getD i ak0).c.length∧s.n≤maxLen∧Vw (Value.int .i64) w s.p (al.getD i ak0).c
theorem AV.grow {al:List Ak} (h:AV w p al) (g:Grow w w'):AV w' p al:=by
 intro i hi
 obtain ⟨a,s,rfl,hc,h1,h2,h3⟩:=h i hi
 exact ⟨a,s,rfl,CellsAt.keep g id hc,h1,h2,h3.grow g⟩
theorem AV.ix {al:List Ak} (h:AV w p al) {i n:Nat} (hn:n=al.length) (hi:i<al.length) {K:Addr→Prop}
 (hk: ∀a (s:Sl),CellsAt w a 0 [.int .i64 (al.getD i ak0).d,.int .i64 (al.getD i ak0).l,.slice s.p s.n s.c]→s.n=(al.getD i ak0).c.length→s.n≤maxLen→Vw (Value.int .i64) w s.p (al.getD i ak0).c→K a):ixK p n (i:Int) 3 K:=by
 subst hn
 obtain ⟨a,s,rfl,hc,h1,h2,h3⟩:=h i hi
 refine ⟨a,rfl,by omega,by omega,hk _ s ?_ h1 h2 h3⟩
 rw [Int.toNat_natCast];exact hc
structure Bx (W u:World) (n b:Nat) (v:Int) (H:Pt→Sl) (s:PSt) (cp:Option Addr) (cc:Nat) (hs:List Sl) (cs:List (List Int)) (gp:Option Addr) (gc:Nat) (gl:List Bool) (dp:Option Addr) (dc:Nat) (dl:List Int):Prop where
 wd:WD u b H s cp hs cs gp gl dp dl
 cap:dl.length≤dc
 ve:v=s.vars
 bx:Has u n #[ptrV b,.int .i64 v,.slice cp cs.length cc,.slice gp gl.length gc,.slice dp dl.length dc]
 nw: ∀x,own b H x≠some n
 nf: ¬Ft cp hs gp gl dp dl n
 ow: ∀x k,own b H x=some k→W.heap.size≤k
 wn:W.heap.size≤n
 g:Grow W u
theorem Bx.put {W:World} {n:Nat} {cs5:Array Value} (hb:Has w n cs5) (hz:cs5.size=5) (h:WD w b H s cp hs cs gp gl dp dl) (hdc:dl.length≤dc) (hv:v=s.vars) (nw: ∀x,own b H x≠some n) (nf: ¬Ft cp hs gp gl dp dl n) (ow: ∀x k,own b H x=some k→W.heap.size≤k) (wn:W.heap.size≤n) (g:Grow W w)
 {K:World→Prop} (hk: ∀w',Bx W w' n b v H s cp cc hs cs gp gc gl dp dc dl→Mod (·=n) w w'→K w'):
 ∃w',StoreAt (Addr.mk n 0 none) 0 [ptrV b,.int .i64 v,.slice cp cs.length cc,.slice gp gl.length gc,.slice dp dl.length dc] w w'∧K w':=by
 obtain ⟨x0,x1,x2,x3,x4,rfl⟩: ∃x0 x1 x2 x3 x4,cs5= #[x0,x1,x2,x3,x4]:=by
  obtain ⟨l⟩:=cs5
  match l,hz with
  | [x0,x1,x2,x3,x4],_=>exact ⟨x0,x1,x2,x3,x4,rfl⟩
 refine store_i hb rfl rfl fun w' hb' m=>hk w' ⟨?_,hdc,hv,hb',nw,nf,ow,wn,g.then m fun k hk e=>by omega⟩ m
 exact ⟨h.pm.keep m fun x k hk e=>nw x (e▸hk),h.g,h.v2.keepN m fun k hk e=>nf (e▸ .inl hk),h.gv.keepN m fun hne k hk e=>nf (e▸ .inr (.inl ⟨hne,hk⟩)),h.dv.keepN m fun hne k hk e=>nf (e▸ .inr (.inr ⟨hne,hk⟩)),h.cn,h.gn,h.gg,h.ca,h.dd,h.f1,h.f2,h.f3,h.cb,h.vb⟩
theorem Bx.grow {W u:World} {n:Nat} (h:Bx W u n b v H s cp cc hs cs gp gc gl dp dc dl) (m:Grow u w'):Bx W w' n b v H s cp cc hs cs gp gc gl dp dc dl:=
 ⟨h.wd.grow m,h.cap,h.ve,h.bx.grow m,h.nw,h.nf,h.ow,h.wn,h.g.trans m⟩
theorem Bx.actP {W u:World} {n:Nat} (h:Bx W u n b v H s cp cc hs cs gp gc gl dp dc dl) (ha:0<an→∀k,blk ap=some k→k<W.heap.size) {e:Ending} {Q:PSt→List (List Int)→List Bool→List Int→Prop}
 (hA:AP u w' b H v e (fun k=>Ft cp hs gp gl dp dl k∨(0<an∧blk ap=some k)) Q) {R:Prop}
 (hR: ∀ (cp' gp' dp':Option Addr) (cc' gc' dc':Nat) (hs':List Sl) (cs':List (List Int)) (gl':List Bool) (dl':List Int) (H':Pt→Sl) (s':PSt),e= .returned (.tuple #[.agg #[ptrV b,.int .i64 v,.slice cp' cs'.length cc',.slice gp' gl'.length gc',.slice dp' dl'.length dc'],.bool true])→Q s' cs' gl' dl'→Pw u w' b H H' s'→
   (∀ {K:World→Prop},(∀w2,Bx W w2 n b v H' s' cp' cc' hs' cs' gp' gc' gl' dp' dc' dl'→Mod (·=n) w' w2→K w2)→∃w2,StoreAt (Addr.mk n 0 none) 0 [ptrV b,.int .i64 v,.slice cp' cs'.length cc',.slice gp' gl'.length gc',.slice dp' dl'.length dc'] w' w2∧K w2)→R)
 (hQ: ∀s' cs' gl' dl',Q s' cs' gl' dl'→s'.vars=s.vars):R:=by
 obtain ⟨cp',gp',dp',cc',gc',dc',hs',cs',gl',dl',H',s',h1,h2,h3,P,h5,h6⟩:=hA
 have nlt:=h.bx.lt
 have bx':=h.bx.keep P.mod fun ⟨x,e⟩=>h.nw x e
 refine hR cp' gp' dp' cc' gc' dc' hs' cs' gl' dl' H' s' h1 h6 P fun {K} hk=> ?_
 refine Bx.put (W:=W) (n:=n) bx' rfl h2 h3 (h.ve.trans (by rw [hQ _ _ _ _ h6])) (fun x e=> ?_) (fun e=> ?_) (fun x k hk=> ?_) h.wn (h.g.then P.mod fun k hk ⟨x,e⟩=>by have:=h.ow x k e;omega) fun w2 B m=>hk w2 B m
 · rcases P.ft x n e with ⟨y,e2⟩|e2
   · exact h.nw y e2
   · omega
 · rcases h5 n e with (e2| ⟨e2,e3⟩)|e2
   · exact h.nf e2
   · have:=ha e2 n e3;have:=h.wn;omega
   · omega
 · rcases P.ft x k hk with ⟨y,e2⟩|e2
   · exact h.ow y k e2
   · have:=h.g.size;omega
theorem Bx.act {W u:World} {n:Nat} (h:Bx W u n b v H s cp cc hs cs gp gc gl dp dc dl) (ha:0<an→∀k,blk ap=some k→k<W.heap.size) {e:Ending} {Q:PSt→List (List Int)→List Bool→List Int→Prop}
 (hA:AP u w' b H v e (fun k=>Ft cp hs gp gl dp dl k∨(0<an∧blk ap=some k)) Q) {R:Prop}
 (hR: ∀ (cp' gp' dp':Option Addr) (cc' gc' dc':Nat) (hs':List Sl) (cs':List (List Int)) (gl':List Bool) (dl':List Int) (H':Pt→Sl) (s':PSt),e= .returned (.tuple #[.agg #[ptrV b,.int .i64 v,.slice cp' cs'.length cc',.slice gp' gl'.length gc',.slice dp' dl'.length dc'],.bool true])→Q s' cs' gl' dl'→
   (∀ {K:World→Prop},(∀w2,Bx W w2 n b v H' s' cp' cc' hs' cs' gp' gc' gl' dp' dc' dl'→K w2)→∃w2,StoreAt (Addr.mk n 0 none) 0 [ptrV b,.int .i64 v,.slice cp' cs'.length cc',.slice gp' gl'.length gc',.slice dp' dl'.length dc'] w' w2∧K w2)→R)
 (hQ: ∀s' cs' gl' dl',Q s' cs' gl' dl'→s'.vars=s.vars):R:=
 h.actP ha hA (fun a1 a2 a3 a4 a5 a6 a7 a8 a9 a10 a11 a12 he hq _ put=>hR a1 a2 a3 a4 a5 a6 a7 a8 a9 a10 a11 a12 he hq fun hk=>put fun w2 B _=>hk w2 B) hQ
end Go.Proofs.YtenmibfmhccmiaaGreat.W
namespace Go.Proofs.YtenmibfmhccmiaaGreat.W
open Go Go.Fw Go.RowKit Go.SoP Go.LiP
variable {w w' w0 w2 w3:World} {b:Nat} {H H' H2:Pt→Sl} {s t u s' T:PSt} {p cp gp dp ap:Option Addr} {hs:List Sl} {cs:List (List Int)} {gl:List Bool} {dl c:List Int} {cn cc gn gc dn dc an ac:Nat} {v:Int}
theorem Bx.first {W w:World} {gc n:Nat} {cc:Nat} (h:WD w b H s cp hs cs gp gl dp dl) (hdc:dl.length≤dc) (hv:v=s.vars) (ow: ∀x k,own b H x=some k→W.heap.size≤k) (g:Grow W w) {w1:World} (hn:New (.cells #[.pointer none,.int .i64 0,.slice none 0 0,.slice none 0 0,.slice none 0 0] 33) w n w1)
 {K:World→Prop} (hk: ∀w',Bx W w' n b v H s cp cc hs cs gp gc gl dp dc dl→Mod (·=n) w1 w'→K w'):
 ∃w',StoreAt (Addr.mk n 0 none) 0 [ptrV b,.int .i64 v,.slice cp cs.length cc,.slice gp gl.length gc,.slice dp dl.length dc] w1 w'∧K w':=by
 have e:=hn.num
 have z:=g.size
 refine Bx.put hn.has rfl (h.grow hn.mod) hdc hv (fun x e=>by have:=h.pm.lt x _ e;omega) (fun hf=> ?_) ow (by omega) (g.trans hn.mod) hk
 rcases hf with hf| ⟨hne,hf⟩| ⟨hne,hf⟩
 · have:=h.v2.ltN n hf;omega
 · have:=h.gv.lt hne n hf;omega
 · have:=h.dv.lt hne n hf;omega
theorem Bx.read {W u:World} {n:Nat} (h:Bx W u n b v H s cp cc hs cs gp gc gl dp dc dl):CellsAt u (Addr.mk n 0 none) 0 [ptrV b,.int .i64 v,.slice cp cs.length cc,.slice gp gl.length gc,.slice dp dl.length dc]:=
 ⟨cell_add h.bx rfl,cell_add h.bx rfl,cell_add h.bx rfl,cell_add h.bx rfl,cell_add h.bx rfl,trivial⟩
theorem Bx.runP {W u:World} {n:Nat} (h:Bx W u n b v H s cp cc hs cs gp gc gl dp dc dl):Calls Tryz.prog prop_Prop_Run.id #[ptrV b] u fun e w'=> ∃r:Int,e= .returned (.int .i64 r)∧∃s' H',Bx W w' n b v H' s' cp cc hs cs gp gc gl dp dc dl∧Ext s s'∧Told s' r∧Pw u w' b H H' s':=by
 refine (run_ok h.wd.pm h.wd.g).mono ?_
 rintro e w' ⟨r,rfl,s',H',P,g',x,ht⟩
 have nlt:=h.bx.lt
 refine ⟨r,rfl,s',H',⟨h.wd.ext P g' x,h.cap,by rw [x.v];exact h.ve,h.bx.keep P.mod fun ⟨x,e⟩=>h.nw x e,fun x e=> ?_,h.nf,fun x k hk=> ?_,h.wn,h.g.then P.mod fun k hk ⟨x,e⟩=>by have:=h.ow x k e;omega⟩,x,ht,P⟩
 · rcases P.ft x n e with ⟨y,e2⟩|e2
   · exact h.nw y e2
   · omega
 · rcases P.ft x k hk with ⟨y,e2⟩|e2
   · exact h.ow y k e2
   · have:=h.g.size;omega
theorem Bx.run {W u:World} {n:Nat} (h:Bx W u n b v H s cp cc hs cs gp gc gl dp dc dl):Calls Tryz.prog prop_Prop_Run.id #[ptrV b] u fun e w'=> ∃r:Int,e= .returned (.int .i64 r)∧∃s' H',Bx W w' n b v H' s' cp cc hs cs gp gc gl dp dc dl∧Ext s s'∧Told s' r:=
 h.runP.mono fun e w' ⟨r,h1,s',H',h2,h3,h4,_⟩=> ⟨r,h1,s',H',h2,h3,h4⟩
end Go.Proofs.YtenmibfmhccmiaaGreat.W
namespace Go.Proofs.YtenmibfmhccmiaaGreat.W
open Go Go.Fw Go.RowKit Go.SoP Go.LiP
variable {w w' w0 w2 w3:World} {z p cp:Option Addr} {n m cc an ac:Nat} {ap:Option Addr}
def Nb (z:Option Addr) (w:World):Prop:=z=none∨∃n,z=some ⟨n,0,none⟩∧Has w n #[.int .i64 0,.slice none 0 0,.slice none 0 0,.slice none 0 0,.slice none 0 0,.slice none 0 0,.slice none 0 0,.slice none 0 0,.slice none 0 0,.int .i64 0,.slice none 0 0]
theorem Nb.grow (h:Nb z w) (g:Grow w w'):Nb z w':=h.imp id fun ⟨n,e,h⟩=> ⟨n,e,h.grow g⟩
end Go.Proofs.YtenmibfmhccmiaaGreat.W
namespace Go.Proofs.YtenmibfmhccmiaaGreat.W
open Go Go.Fw Go.RowKit Go.SoP Go.LiP
variable {w w' w0 w2 w3:World} {b:Nat} {H H' H2:Pt→Sl} {s t u s' T:PSt} {p cp gp dp ap:Option Addr} {hs:List Sl} {cs:List (List Int)} {gl:List Bool} {dl c m:List Int} {cn cc gn gc dn dc an ac:Nat} {v:Int}
theorem tr_decide (l:Int):(s.decide l).R .tr=s.R .tr++ [l]:=by
 unfold PSt.decide;rw [put_tr];unfold PSt.begin;rw [set_ne (by simp),set_ne (by simp)]
end Go.Proofs.YtenmibfmhccmiaaGreat.W
