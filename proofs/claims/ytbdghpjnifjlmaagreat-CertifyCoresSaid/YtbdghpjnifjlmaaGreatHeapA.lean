/- Slices that one has made: rows of one-cell elements. -/
import Derived.Test.YtbdghpjnifjlmaaGreatFwMem
import Derived.Laws.AppendOwn
import Derived.Laws.OwnMore
import Derived.Test.YtbdghpjnifjlmaaGreatGenCert
set_option linter.unusedVariables false
namespace Go.Fw
open Go Go.RowKit
variable {P:Program} {α:Type} {f:α->Value} {T:TypeId} {w w':World} {p:sn} {c:Nat} {l:List α}
def Ow (f:α->Value) (T:TypeId) (w:World) (p:sn) (c:Nat) (l:List α):Prop:=w.ownsRow 0 T 1 (.slice p l.length c) l.length (l.map f)
abbrev dz:=Ow sT
def aG (p:sn):Option Nat:=p.map (·.block)
theorem Ow.nil (f:α->Value) (T:TypeId) (w:World):Ow f T w none 0 []:=World.ownsRow_nil w 0 T 1
theorem Ow.cap (h:Ow f T w p c l):l.length<=maxLen:=by
 rcases h.2 with ⟨_,h⟩| ⟨g,cap,cur,h,_,_,h1,I,_⟩
 . rw [h];exact vx _
 . omega
theorem Ow.un (h:Ow f T w p c l):(p=none/\c=0/\l= [])\/∃g cur,p=some ⟨g,0,none⟩/\w.heap[g]? =some (.cells cur T (0,0))/\l.length<=c/\c<=maxLen/\cur.size=c/\cur.toList.take l.length=l.map f:=by
 rcases h.2 with ⟨h1,I⟩| ⟨g,cap,cur,h1,_,I,Q,J,h5,O⟩
 . simp only [Value.slice.injEq] at h1;exact .inl ⟨h1.1,h1.2.2,UF I⟩
 . simp only [Value.slice.injEq] at h1;obtain ⟨rfl,_,rfl⟩:=h1;exact .inr ⟨g,cur,rfl,I,Q,J,by simpa using h5,by simpa using O⟩
theorem Ow.df {g:Nat} {cur:Array Value} (O:w.heap[g]? =some (.cells cur T (0,0))) (h1:l.length<=c) (J:c<=maxLen) (I:cur.size=c) (Q:cur.toList.take l.length=l.map f):Ow f T w (some ⟨g,0,none⟩) c l:=
 ⟨by simp,.inr ⟨g,c,cur,rfl,vx _,O,h1,J,by simpa using I,by simpa using Q⟩⟩
theorem Ow.lt (h:Ow f T w p c l):∀b,aG p=some b->b<w.heap.size:=by
 intro b hb;rcases h.un with ⟨rfl,_⟩| ⟨g,cur,rfl,J,_⟩
 . simp [aG] at hb
 . simp [aG] at hb;subst hb;rcases UU g w.heap.size with I|I
   . exact I
   . simp [UQ I] at J
theorem Ow.keep {S:Nat->Prop} (h:Ow f T w p c l) (m:aD S w w') (hs:∀b,aG p=some b->¬S b):Ow f T w' p c l:=by
 have hl:=h.lt;rcases h.un with ⟨rfl,rfl,rfl⟩| ⟨g,cur,rfl,Q,h1,I,O,J⟩
 . exact Ow.nil f T w'
 . exact Ow.df ((m.block g (hl g rfl) (hs g rfl)).trans Q) h1 I O J
theorem Ow.grow (h:Ow f T w p c l) (m:ak w w'):Ow f T w' p c l:=h.keep m λ_ _=>id
theorem Ow.drew (h:Ow f T w p c l):Ow f T w.drew p c l:=h
theorem Ow.cell (h:Ow f T w p c l) {j:Nat} (I:j<l.length):∃g,p=some ⟨g,0,none⟩/\w.cell? ⟨g,j,none⟩=some (f l[j]):=by
 rcases h.un with ⟨_,_,rfl⟩| ⟨g,cur,rfl,O,h1,Q,U,J⟩
 . simp at I
 . refine ⟨g,rfl,aV ⟨T,O⟩ ?_⟩;have:(cur.toList.take l.length)[j]? =some (f l[j]):=by rw [J];simp [I]
   rw [Vf,if_pos I] at this;simpa using this
theorem Ow.ix (h:Ow f T w p c l) {i:Int} {n:Nat} (d:α) (J:0<=i) (hn:n=l.length) (h1:i<n) {K:Addr->Prop} (I:∀a,w.cell? a=some (f (l.getD i.toNat d))->K a):aW p n i 1 K:=by
 subst hn;obtain ⟨g,rfl,O⟩:=h.cell (j:=i.toNat) (by omega);refine ⟨_,rfl,J,h1,I _ ?_⟩;rw [Wt,dI,UX,O];simp [List.getD,show i.toNat<l.length by omega]
theorem map_set (f:α->Value):∀ (l:List α) (j:Nat) (x:α),(l.set j x).map f=(l.map f).set j (f x)
 | [],_,_=>rfl
 |_::_,0,_=>rfl
 |y::l,j+1,x=>by simp [map_set f l j x]
theorem Ow.st (h:Ow f T w p c l) {i:Int} {n:Nat} {v:Value} (x:α) (hv:v=f x) (Y:km v=true) (U:0<=i) (hn:n=l.length) (h1:i<n) {K:World->Prop}
 (J:∀w',Ow f T w' p c (l.set i.toNat x)->aD (λb=>aG p=some b) w w'->K w'):aW p n i 1 λa=>∃w',bB a 0 [v] w w'/\K w':=by
 subst hn hv;rcases h.un with ⟨_,_,rfl⟩| ⟨g,cur,rfl,I,Q,X,V,h5⟩
 . simp at h1;omega
 . refine ⟨_,rfl,U,h1,?_⟩;rw [Wt,dI,UX];have O:i.toNat<cur.size:=by omega
   refine ⟨w.setCell ⟨g,i.toNat,none⟩ (f x),⟨⟨cur[i.toNat],ae ⟨T,I⟩ (by simp [O])⟩,by rw [dI];exact tw ⟨T,I⟩,Y,by rw [dI];rfl⟩,J _ ?_ ?_⟩
   . refine Ow.df (cur:=cur.setIfInBounds i.toNat (f x)) (y9 I _ O) (by simpa using Q) X (by simpa using V) ?_;rw [map_set,<- h5,Wd,VT,Yh]
   . exact ⟨rfl,rfl,rfl,by simp,λk _ J=>Below.heap_setCell w _ _ k λe=>J (by simp [aG,e])⟩
def nE (P:Program) (t e:TypeId) (bytes:Nat):Bool:=
 (match P.underlying t with|some (.slice I)=>Nat.beq I e|_=>false) && (match P.info? e with|some i=>Nat.beq i.size 1 && Nat.beq i.bytes bytes && (match i.zero with|some z=>Nat.beq z.cells.size 1|none=>false)|none=>false)
theorem nH {t e bytes:Nat} (h:nE P t e bytes=true):P.underlying t=some (.slice e)/\∃i z,P.info? e=some i/\i.zero=some z/\i.size=1/\i.bytes=bytes/\z.cells.size=1:=by
 simp only [nE,ts] at h;obtain ⟨h1,I⟩:=h;split at h1
 . rename_i J he;have:J=e:=UG h1;subst this;split at I
   . rename_i i hi;simp only [ts] at I;obtain ⟨⟨U,O⟩,h5⟩:=I;split at h5
     . rename_i z Q;exact ⟨he,i,z,hi,Q,UG U,UG O,UG h5⟩
     . simp at h5
   . simp at I
 . simp at h1
theorem Ow.cells (h:Ow f T w p c l) {g:Nat} (hp:p=some ⟨g,0,none⟩):∀j u,(l.map f)[j]? =some u->w.cell? ((⟨g,0,none⟩:Addr).add j)=some u:=by
 intro j u J;subst hp;have hl:j<l.length:=by have:=(Vg.1 J).1;simpa using this
 obtain ⟨Q,I,O⟩:=h.cell hl;simp only [U4,Addr.mk.injEq,and_true] at I;subst I;rw [dI,UX,O];simpa [hl] using J
theorem Ow.mA {t ty e bytes:Nat} (hs:nE P t e bytes=true) (h:Ow f e w p c l) {a:Addr} {m k n:Nat} (hn:n=l.length) (news:List α) (hm:news.length=m) (X:0<m) (hc:∀j (hj:j<news.length),w.cell? (a.add j)=some (f news[j])) (ho:∀x,(f x).oneCell'=true)
 (hlen:(l.length+m)* (bytes+1)<=140737488355328) {K:World->sn->Nat->Nat->Prop}
 (J:∀w' O c',Ow f e w' O c' (l++news)->aD (λb=>aG p=some b) w w'->(O=p\/O=some ⟨w.heap.size,0,none⟩)->w.heap.size<=w'.heap.size->K w' O (l++news).length c'):
 ∃w',∃O n' c',(Builtin.append_ #[t,t] ty #[.slice p n c,.slice (some a) m k]).run P w=.ok (.slice O n' c') w'/\K w' O n' c':=by
 obtain ⟨ht,i,z,hi,hz,h1,h2,h3⟩:=nH hs;subst hn hm;have hb:(l.length+news.length)*bytes<=140737488355328:=UY (WC _ (Nat.le_succ _)) hlen;have aa:l.length+news.length<=140737488355328:=UY (Xy _ (Nat.succ_pos _)) hlen;have I:(l++news).length=l.length+news.length:=by simp
 have V:(news.map f).length=news.length*i.size:=by simp [h1]
 have U:∀j u,(news.map f)[j]? =some u->w.cell? (a.add j)=some u:=by
  intro j u hj;have Y:j<news.length:=by have:=(Vg.1 hj).1;simpa using this
  rw [hc j Y];simpa [Y] using hj
 have cW:∀vY,vY<l.length+news.length->Ow f e (w.drew.alloc (.cells ((l.map f).toArray++ (news.map f).toArray++Builtin.zeroCells z.cells (grownCap w (l.length+news.length) vY e - (l.length+news.length))) e))
  (some ⟨w.heap.size,0,none⟩) (grownCap w (l.length+news.length) vY e) (l++news):=by
  intro vY _;have ax:=grownCap_ge w (l.length+news.length) vY e;have Z:grownCap w (l.length+news.length) vY e<=maxLen:=grownCap_le_maxLen w _ vY e (by simp only [maxLen];omega);refine Ow.df (cur:=(l.map f).toArray++ (news.map f).toArray++Builtin.zeroCells z.cells (grownCap w (l.length+news.length) vY e - (l.length+news.length))) ?_ (by omega) Z ?_ ?_
  . exact Xt
  . simp only [Array.size_append,Wb,UL,size_zeroCells,h3];omega
  . simp only [Array.toList_append,LV];rw [UO (by simp),UM (by simp)]
 have gr:∀ (o:Obj),aD (λb=>aG p=some b) w (w.drew.alloc o):=λo=>⟨rfl,rfl,rfl,by simp,λk J _=>Below.heap_alloc w.drew o k J⟩
 rcases h.un with ⟨rfl,rfl,rfl⟩| ⟨g,cur,rfl,hg,g1,g2,g3,g4⟩
 . have hr:=run_append_nil (P:=P) w t ty e i z ht hi hz a news.length k (news.map f) V U X (by simp at aa;omega) (by rw [h2];simp at hb;omega);have hf:=cW 0 (by simp;omega);simp only [VE,UX,X',Vh] at hf hr I J ⊢;refine ⟨_,_,_,_,hr,?_⟩;refine J _ _ _ (by simpa using hf) (gr _) (.inr rfl) (by simp)
 . by_cases Q:l.length+news.length<=c
   . have hr:=run_append_room (P:=P) w t ty e i ht hi g l.length c cur hg a news.length k (news.map f) V U (λu hu=>by obtain ⟨x,_,rfl⟩:=L0.1 hu;exact ho x) Q (by simp [h1];omega);refine ⟨_,_,_,_,hr,?_⟩;rw [<- I];refine J _ _ _ (Ow.df (setRow_heap w g cur _ e _ hg) (by omega) g2 ?_ ?_) ⟨rfl,rfl,rfl,by simp,λk _ J=>setRow_other w g k _ λhe=>J (by simp [aG,he])⟩ (.inl rfl) (by simp)
     . simp [h1];omega
     . simp only [h1,Wt];rw [I,LV,UO (by simp;omega),UM (by simp;omega),g4]
   . have hr:=run_append_grow (P:=P) w t ty e i z ht hi hz ⟨g,0,none⟩ l.length c (l.map f) (by simp [h1]) (h.cells rfl) a news.length k (news.map f) V U (by omega) (by omega) (growslice_fits (by omega) (by rw [h2];exact hb));refine ⟨_,_,_,_,hr,?_⟩;rw [<- I];exact J _ _ _ (by rw [I];exact cW c (by omega)) (gr _) (.inr rfl) (by simp)
theorem Ow.Rw {t ty e bytes:Nat} (hs:nE P t e bytes=true) (h:Ow f e w p c l) {q:sn} {k n:Nat} (hn:n=l.length):
 (Builtin.append_ #[t,t] ty #[.slice p n c,.slice q 0 k]).run P w=.ok (.slice p n c) w:=by
 obtain ⟨ht,i,z,hi,U,h1,O,V⟩:=nH hs;subst hn;rcases h.un with ⟨rfl,rfl,rfl⟩| ⟨g,cur,rfl,X,Y,Q,I,J⟩<;>cases q<;>
  simp [Builtin.append_,run_underlying ht,sizeOf,typeInfo,Builtin.lenOf,Builtin.firstCells,loadCells,loadCellsFrom,storeCells, *]
theorem Ow.SB {t ty e bytes:Nat} (hs:nE P t e bytes=true) (h:Ow f e w p c l) {q:sn} {Q:Nat} {news:List α} (U:Ow f e w q Q news) {n m:Nat} (hn:n=l.length) (hm:m=news.length) (Z:∀x,(f x).oneCell'=true)
 (hlen:(l.length+news.length)* (bytes+1)<=140737488355328) {K:World->sn->Nat->Nat->Prop}
 (V:∀w' I c',Ow f e w' I c' (l++news)->aD (λb=>aG p=some b) w w'->(I=p\/I=some ⟨w.heap.size,0,none⟩)->w.heap.size<=w'.heap.size->K w' I (l++news).length c'):
 ∃w',∃I n' c',(Builtin.append_ #[t,t] ty #[.slice p n c,.slice q m Q]).run P w=.ok (.slice I n' c') w'/\K w' I n' c':=by
 subst hm;rcases UZ news.length with O|O
 . have:news= []:=UF O;subst this;refine ⟨w,p,n,c,h.Rw hs hn,?_⟩;have:=V w p c (by simpa using h) (aD.refl w) (.inl rfl) (y4 _);simpa [hn] using this
 . obtain ⟨g,X,_⟩:=U.cell O;subst X;refine Ow.mA hs h hn news rfl O (λj Y=>?_) Z hlen V;obtain ⟨g',J,hc⟩:=U.cell Y;simp only [U4,Addr.mk.injEq,and_true] at J;subst J;rw [dI,UX];exact hc
theorem jI.Ap {e:TypeId} {n:Nat} (h:jI (.cells #[] e) w n w'):Ow f e w' (some ⟨n,0,none⟩) 0 []:=
 Ow.df h.at (y4 _) (vx _) rfl rfl
theorem Ow.lP {t ty e bytes:Nat} (hs:nE P t e bytes=true) (h:Ow f e w p c l) {b n:Nat} (x:α) {v:Value} (hb:bT w b #[v]) (hv:v=f x) (hn:n=l.length) (V:∀x,(f x).oneCell'=true)
 (hlen:(l.length+1)* (bytes+1)<=140737488355328) {K:World->sn->Nat->Nat->Prop}
 (X:∀w' I c',Ow f e w' I c' (l++ [x])->aD (λb=>aG p=some b) w w'->(I=p\/I=some ⟨w.heap.size,0,none⟩)->w.heap.size<=w'.heap.size->K w' I (l.length+1) c'):
 ∃w',∃I n' c',(Builtin.append_ #[t,t] ty #[.slice p n c,.slice (some ⟨b,0,none⟩) 1 1]).run P w=.ok (.slice I n' c') w'/\K w' I n' c':=by
 subst hv;refine Ow.mA (m:=1) hs h hn [x] rfl (by omega) (λj J=>?_) V hlen λw' I c' h1 O U Q=>?_
 . have:j=0:=by simpa using J
   subst this;exact ae hb rfl
 . have:=X w' I c' h1 O U Q;simpa using this
theorem rZ {t e bytes:Nat} (hs:nE P t e bytes=true) {x:α} {v:Value} (J:(P.info? e).bind (·.zero)=some v) (hv:v.cells= #[f x]) {n:Int} (m:Nat) (hn:n=m) (hlen:m* (bytes+1)<=281474976710656) {K:World->sn->Nat->Nat->Prop}
 (I:∀w',Ow f e w' (some ⟨w.heap.size,0,none⟩) m (List.replicate m x)->ak w w'->w'.heap.size=w.heap.size+1->K w' (some ⟨w.heap.size,0,none⟩) m m):
 ∃w',∃O n' c',(Instr.makeSlice t (.i n) (.i n)).run P w=.ok (.slice O n' c') w'/\K w' O n' c':=by
 obtain ⟨ht,i,z,hi,Q,h1,U,X⟩:=nH hs;subst hn;simp only [hi,V8] at J;have hm:m<=281474976710656:=UY (Xy _ (Nat.succ_pos _)) hlen;have V:m*bytes<=281474976710656:=UY (WC _ (Nat.le_succ _)) hlen;have hr:=run_make (P:=P) w t e i v ht hi J .i64 .i64 m m (by omega) (U3 _) (by rw [U,<- XR,XB];omega) (by omega);simp only [tn,h1,Wt,hv] at hr;refine ⟨_,_,_,_,hr,I _ ?_ ⟨rfl,rfl,rfl,by simp,λk I _=>Below.heap_alloc w _ k I⟩ (by simp)⟩;refine Ow.df (cur:=madeCells #[f x] m) ?_ (by simp) (by simp only [maxLen];omega) (size_madeCells _ _) ?_
 . exact Xt
 . rw [toList_madeCells_one];simp
theorem Ow.take (h:Ow f T w p c l) {k:Nat} (I:k<=l.length):Ow f T w p c (l.take k):=by
 rcases h.un with ⟨rfl,rfl,rfl⟩| ⟨g,cur,rfl,U,V,Q,J,O⟩
 . simpa using Ow.nil f T w
 . refine Ow.df U (by simp;omega) Q J ?_;rw [GD,U7 I,WX,<- O,Wu,U7 I]
def ru (h:α->α) (t:Nat) (l:List α):List α:=(l.take t).map h++l.drop t
theorem Gg (h:α->α) (l:List α):ru h 0 l=l:=by simp [ru]
theorem Jq (h:α->α) (l:List α):ru h l.length l=l.map h:=by simp [ru]
theorem C7 (h:α->α) (t:Nat) (l:List α):(ru h t l).length=l.length:=by simp [ru];omega
theorem IF (h:α->α) {t:Nat} {l:List α} (d:α) (ht:t<l.length):(ru h t l).getD t d=l.getD t d:=by
 simp only [ru,y6];rw [We (by simp;omega)];simp [U7 (Nat.le_of_lt ht)]
theorem JD (h:α->α) {t:Nat} {l:List α} (d:α) (ht:t<l.length):(ru h t l).set t (h (l.getD t d))=ru h (t+1) l:=by
 apply VO;intro j;simp only [ru,VC,UH,UL,GD,U0,y6];by_cases e:t=j
 . subst e;rw [if_pos rfl,if_pos (by omega),UT (by simp;omega)];simp [ht]
 . rw [if_neg e];by_cases h1:j<t
   . rw [UT (by simp;omega),UT (by simp;omega)];simp [h1,show j<t+1 by omega]
   . rw [We (by simp;omega),We (by simp;omega)];simp only [UL,GD,VX];congr 1;omega
theorem fz (x:Int):(Value.int .i64 x).oneCell'=true:=rfl
end Go.Fw
namespace Go.HeapP
def g (l:List Int) (i:Int):Int:=if i<0 then 0 else l.getD i.toNat 0
theorem oV {l:List Int} {i:Int} (h:0<=i):l.getD i.toNat 0=g l i:=by unfold g;rw [if_neg (by omega)]
theorem BR {l:List Int} {i v:Int} (J:0<=i) (h1:i<l.length):g (l.set i.toNat v)=λj=>if j=i then v else g l j:=by
 funext j;unfold g;simp only [y6,VC];by_cases I:j<0
 . simp [I];omega
 . by_cases h:j=i
   . subst h;simp [show j.toNat<l.length by omega,I]
   . rw [if_neg I,if_neg (by omega),if_neg h,if_neg I]
def Bt (S:Int->Int) (a c:Int):Prop:=S c<S a\/S a=S c/\a<c
theorem Bt.zJ {S a c} (h:Bt S a c): ¬Bt S c a:=by unfold Bt at*;omega
theorem Bt.FL {S a b c} (h: ¬Bt S a b) (k: ¬Bt S b c): ¬Bt S a c:=by unfold Bt at*;omega
theorem Bt.Rt {S a b c} (h: ¬Bt S a b) (k:Bt S c b): ¬Bt S a c:=by unfold Bt at*;omega
structure AR (L A:Int->Int) (n N:Int):Prop where
 yh:∀j,0<=j->j<n->1<=L j/\L j<=N/\A (L j)=j+1
 bW:∀v,1<=v->v<=N->0<=A v/\A v<=n/\(0<A v->L (A v - 1)=v)
theorem AR.inj {L A n N} (h:AR L A n N) {j k:Int} (h1:0<=j) (J:j<n) (I:0<=k) (O:k<n) (e:L j=L k):j=k:=by
 have a:=h.yh j h1 J;have b:=h.yh k I O;rw [e] at a;omega
def rD (L:Int->Int) (i p:Int):Int->Int:=λj=>if j=p then L i else if j=i then L p else L j
def xB (L A:Int->Int) (i p:Int):Int->Int:=λu=>if u=L i then p+1 else if u=L p then i+1 else A u
theorem AR.swap {L A n N} (h:AR L A n N) {i p:Int} (h1:0<=i) (U:i<n) (h3:0<=p) (V:p<n) (J:i≠p):AR (rD L i p) (xB L A i p) n N:=by
 have fi:=h.yh i h1 U;have fp:=h.yh p h3 V;have hn:L i≠L p:=λe=>J (h.inj h1 U h3 V e);constructor
 . intro j Y Q;have fj:=h.yh j Y Q;unfold rD xB;by_cases O:j=p
   . subst O;simp;omega
   . by_cases I:j=i
     . subst I;simp [J,Vc hn];omega
     . have Z:L j≠L i:=λe=>I (h.inj Y Q h1 U e);have X:L j≠L p:=λe=>O (h.inj Y Q h3 V e);simp [O,I,Z,X];omega
 . intro v v1 v2;have bv:=h.bW v v1 v2;unfold rD xB;by_cases O:v=L i
   . subst O;simp;omega
   . by_cases I:v=L p
     . subst I;simp [Vc hn,J];omega
     . simp only [O,I,if_false];refine ⟨bv.1,bv.2.1,λhp=>?_⟩;have:=bv.2.2 hp;have Z:A v - 1≠p:=λe=>I (by rw [<- e,this]);have X:A v - 1≠i:=λe=>O (by rw [<- e,this]);simp [Z,X,this]
theorem IN {L A n N} (h:AR L A n N) {i p:Int} (h1:0<=i) (Q:i<n) (O:0<=p) (U:p<n) (u:Int):0<xB L A i p u↔0<A u:=by
 have V:=h.yh i h1 Q;have fp:=h.yh p O U;unfold xB;by_cases I:u=L i
 . subst I;simp;omega
 . by_cases J:u=L p
   . subst J;simp [I];omega
   . simp [I,J]
def Ord (S L:Int->Int) (n k x:Int):Prop:=∀j,1<=j->j<n->k<=(j - 1) / 2->(j - 1) / 2≠x->¬Bt S (L j) (L ((j - 1) / 2))
def EZ (S L:Int->Int) (n x:Int):Prop:=(∀j,1<=j->j<n->j≠x->¬Bt S (L j) (L ((j - 1) / 2)))/\(∀j,1<=j->j<n->(j - 1) / 2=x->1<=x->¬Bt S (L j) (L ((x - 1) / 2)))
theorem EZ.step {S L n i} (h:EZ S L n i) (h1:1<=i) (Z:i<n) (hb:Bt S (L i) (L ((i - 1) / 2))):EZ S (rD L i ((i - 1) / 2)) n ((i - 1) / 2):=by
 obtain ⟨ha,X⟩:=h;have hp:(i - 1) / 2<i:=by omega
 constructor
 . intro j O I V;unfold rD;by_cases e:j=i
   . subst e;rw [if_neg (by omega),if_pos rfl,if_pos rfl];exact hb.zJ
   . rw [if_neg V,if_neg e];by_cases U:(j - 1) / 2=(i - 1) / 2
     . rw [if_pos U];have:=ha j O I e;rw [U] at this;exact Bt.Rt this hb
     . rw [if_neg U];by_cases Q:(j - 1) / 2=i
       . rw [if_pos Q];exact X j O I Q h1
       . rw [if_neg Q];exact ha j O I e
 . intro j O I V Y;have J:=ha ((i - 1) / 2) Y (by omega) (by omega);unfold rD;rw [if_neg (show ¬((i - 1) / 2 - 1) / 2=(i - 1) / 2 by omega),if_neg (show ¬((i - 1) / 2 - 1) / 2=i by omega)];by_cases e:j=i
   . subst e;rw [if_neg (by omega),if_pos rfl];exact J
   . rw [if_neg (by omega),if_neg e];have:=ha j O I e;rw [V] at this;exact Bt.FL this J
theorem EZ.done {S L n i} (h:EZ S L n i) (hb:i<=0\/¬Bt S (L i) (L ((i - 1) / 2))):Ord S L n 0 (-1):=by
 intro j J I _ _;by_cases e:j=i
 . subst e;exact hb.resolve_left (by omega)
 . exact h.1 j J I e
def D_ (S L:Int->Int) (n k x:Int):Prop:=Ord S L n k x/\(∀j,1<=j->j<n->(j - 1) / 2=x->1<=x->k<=(x - 1) / 2->¬Bt S (L j) (L ((x - 1) / 2)))
theorem D_.step {S L n k i c} (h:D_ S L n k i) (ac:k<=i) (h0:0<=i) (h1:c<n) (X:(c - 1) / 2=i) (V:1<=c) (hb:Bt S (L c) (L i)) (I:∀j,1<=j->j<n->(j - 1) / 2=i->¬Bt S (L j) (L c)):D_ S (rD L i c) n k c:=by
 obtain ⟨ha,hd⟩:=h;constructor
 . intro j J O U Z;unfold rD;by_cases e:j=c
   . subst e;rw [if_pos rfl,X,if_neg (by omega),if_pos rfl];exact hb.zJ
   . rw [if_neg e,if_neg Z];by_cases Y:j=i
     . subst Y;rw [if_pos rfl,if_neg (by omega)];exact hd c V h1 X J U
     . rw [if_neg Y];by_cases Q:(j - 1) / 2=i
       . rw [if_pos Q];exact I j J O Q
       . rw [if_neg Q];exact ha j J O U Q
 . intro j J O U Z j5;unfold rD;rw [if_neg (by omega),if_neg (by omega),X,if_neg (by omega),if_pos rfl];have:=ha j J O (by omega) (by omega);rw [U] at this;exact this
theorem D_.done {S L n k i} (h:D_ S L n k i) (hb:∀j,1<=j->j<n->(j - 1) / 2=i->¬Bt S (L j) (L i)):Ord S L n k (-1):=by
 intro j J I O _;by_cases e:(j - 1) / 2=i
 . rw [e];exact hb j J I e
 . exact h.1 j J I O e
theorem R_:∀ (N n:Nat) (L:Nat->Int),(∀j,j<n->1<=L j/\L j<=N)->(∀j k,j<n->k<n->L j=L k->j=k)->n<=N:=by
 intro N
 induction N with
 |zero=>
  intro n L h _;rcases UZ n with U|U
  . omega
  . have:=h 0 U;omega
 |succ N ih=>
  intro n L h hi;by_cases he:∃j,j<n/\L j=((N+1:Nat):Int)
  . obtain ⟨j,V,Q⟩:=he;have:=ih (n - 1) (λk=>if k=j then L (n - 1) else L k) (λk O=>by
     by_cases e:k=j
     . have h1:=h (n - 1) (by omega);have:L (n - 1)≠((N+1:Nat):Int):=λI=>by
        have:=hi (n - 1) j (by omega) V (by rw [I,Q]);omega
       simp only [e,if_true];omega
     . have h1:=h k (by omega);have:L k≠((N+1:Nat):Int):=λI=>e (hi k j (by omega) V (by rw [I,Q]));simp only [e,if_false];omega) (λk m O hm=>by
     intro J;by_cases e:k=j
     . by_cases I:m=j
       . omega
       . simp only [e,I,if_true,if_false] at J;have:=hi _ _ (by omega) (by omega) J;omega
     . by_cases I:m=j
       . simp only [e,I,if_true,if_false] at J;have:=hi _ _ (by omega) (by omega) J;omega
       . simp only [e,I,if_false] at J;exact hi _ _ (by omega) (by omega) J)
    omega
  . have:=ih n L (λk O=>by
     have h1:=h k O;have:L k≠((N+1:Nat):Int):=λe=>he ⟨k,O,e⟩;omega) hi
    omega
theorem AR.le {L A:Int->Int} {n N:Nat} (h:AR L A n N):n<=N:=
 R_ N n (λj=>L j) (λj I=>by have:=h.yh j (by omega) (by omega);exact ⟨this.1,this.2.1⟩) λj k I J e=>by
  have:=h.inj (j:=j) (k:=k) (by omega) (by omega) (by omega) (by omega) e;omega
theorem AR.push {L A:Int->Int} {n N v:Int} (h:AR L A n N) (n0:0<=n) (v1:1<=v) (v2:v<=N) (hv:A v=0):AR (λj=>if j=n then v else L j) (λu=>if u=v then n+1 else A u) (n+1) N:=by
 constructor
 . intro j Q U;by_cases e:j=n
   . subst e;simp;omega
   . have f:=h.yh j Q (by omega);have:L j≠v:=λJ=>by rw [J] at f;omega
     simp only [e,if_false,this];exact f
 . intro u I O;by_cases e:u=v
   . subst e;simp;omega
   . have f:=h.bW u I O;simp only [e,if_false];refine ⟨f.1,by omega,λhp=>?_⟩;rw [if_neg (by omega)];exact f.2.2 hp
theorem AR.T8 {L A:Int->Int} {n N v:Int} (h:AR L A (n+1) N) (n0:0<=n) (hv:L 0=v):AR (λj=>if j=0 then L n else L j) (λu=>if u=L n then (if n=0 then 0 else 1) else if u=v then 0 else A u) n N:=by
 have Z:=h.yh 0 (U3 _) (by omega);have fn:=h.yh n n0 (by omega);constructor
 . intro j Q Y;by_cases e:j=0
   . subst e;simp [show n≠0 by omega];omega
   . have f:=h.yh j Q (by omega);have U:L j≠v:=λI=>e (h.inj Q (by omega) (U3 _) (by omega) (by rw [I,hv]));have J:L j≠L n:=λI=>by have:=h.inj Q (by omega) n0 (by omega) I;omega
     simp only [e,if_false,U,J];exact f
 . intro u V X;have f:=h.bW u V X;by_cases e:u=L n
   . subst e;simp only [if_true];split
     . omega
     . simp;omega
   . by_cases I:u=v
     . subst I;simp [e,n0]
     . simp only [e,I,if_false];have U:A u - 1≠n\/A u=0:=by
        by_cases hp:0<A u
        . left;intro O;have:=f.2.2 hp;rw [O] at this;exact e this.symm
        . right;omega
       refine ⟨f.1,by omega,λhp=>?_⟩;have J:A u - 1≠0:=λO=>I (by have:=f.2.2 hp;rw [O] at this;rw [<- this,hv]);rw [if_neg J];exact f.2.2 hp
end Go.HeapP
namespace Go.Proofs.YtbdghpjnifjlmaaGreat.W.Hp
open Go Go.Fw Go.RowKit Go.HeapP
open Go.Proofs.Tryz (prog)
open Go.IntKind (i64)
section
theorem c9:nE prog aE aq 8=true:=by kernel_rfl
structure HS where
 pl:sn
 cl:Nat
 pa:sn
 ca:Nat
 ps:sn
 cs:Nat
 l:List Int
 at_:List Int
 score:List Int
 step:Int
def HS.cq (x:HS) (b:Nat) (k:Nat):Prop:=k=b\/aG x.pl=some k\/aG x.pa=some k\/aG x.ps=some k
structure cN (w:World) (b:Nat) (x:HS):Prop where
 me:bT w b #[.slice x.pl x.l.length x.cl,.slice x.pa x.at_.length x.ca,.slice x.ps x.score.length x.cs,.i x.step]
 hl:dz aq w x.pl x.cl x.l
 ha:dz aq w x.pa x.ca x.at_
 hs:dz aq w x.ps x.cs x.score
 bl:aG x.pl≠some b
 ba:aG x.pa≠some b
 bs:aG x.ps≠some b
 la:∀k,aG x.pl=some k->aG x.pa≠some k
 ls:∀k,aG x.pl=some k->aG x.ps≠some k
 sa:∀k,aG x.pa=some k->aG x.ps≠some k
theorem cN.keep {w w':World} {b:Nat} {x:HS} {S:Nat->Prop} (h:cN w b x) (m:aD S w w') (J:∀k,x.cq b k->¬S k):cN w' b x:=
 ⟨h.me.keep m (J b (.inl rfl)),h.hl.keep m λk I=>J k (.inr (.inl I)),h.ha.keep m λk I=>J k (.inr (.inr (.inl I))),h.hs.keep m λk I=>J k (.inr (.inr (.inr I))),h.bl,h.ba,h.bs,h.la,h.ls,h.sa⟩
theorem cN.grow {w w':World} {b:Nat} {x:HS} (h:cN w b x) (m:ak w w'):cN w' b x:=h.keep m λ_ _=>id
theorem cN.drew {w:World} {b:Nat} {x:HS} (h:cN w b x):cN w.drew b x:=⟨h.me,h.hl,h.ha,h.hs,h.bl,h.ba,h.bs,h.la,h.ls,h.sa⟩
theorem cN.lt {w:World} {b:Nat} {x:HS} (h:cN w b x):∀k,x.cq b k->k<w.heap.size:=by
 rintro k (rfl|I|I|I)
 . exact h.me.lt
 . exact h.hl.lt k I
 . exact h.ha.lt k I
 . exact h.hs.lt k I
abbrev ptr (b:Nat):Value:=.pointer (some ⟨b,0,none⟩)
def bt (s:List Int) (a c:Int):Bool:=if g s a=g s c then decide (a<c) else decide (g s a>g s c)
theorem wU (s:List Int) (a c:Int):bt s a c=true↔Bt (g s) a c:=by
 unfold bt Bt;split<;>simp<;>omega
theorem sk {w:World} {b:Nat} {x:HS} (h:cN w b x) (a c:Int) (a0:0<=a) (a1:a<x.score.length) (I:0<=c) (U:c<x.score.length):
 Calls prog eS.id #[ptr b,.i a,.i c] w λe w'=>e=.returned (.bool (bt x.score a c))/\ak w w':=by
 refine eS.aj ?_;have h1:=h.drew;have J:=h1.drew;refine ⟨_,rfl,_,_,_,ae h1.me rfl,h1.hs.ix 0 a0 rfl a1 λa3 O=>⟨_,O,_,rfl,_,_,_,ae h1.me rfl,h1.hs.ix 0 I rfl U λV Q=>⟨_,Q,ah (λt=>?_) (λt=>?_)⟩⟩⟩
 . refine ⟨_,rfl,_,_,_,ae J.me rfl,J.hs.ix 0 a0 rfl a1 λa3 O=>⟨_,O,_,rfl,_,_,_,ae J.me rfl,J.hs.ix 0 I rfl U λV Q=>⟨_,Q,?_,((aD.refl w).drew).drew⟩⟩⟩;simp only [bne_iff_ne,ne_eq,oV a0,oV I] at t;rw [oV a0,oV I];unfold bt;rw [if_neg t]
 . simp only [bne_eq_false_iff_eq,oV a0,oV I] at t;refine ⟨?_,(aD.refl w).drew⟩;unfold bt;rw [if_pos t]
def HS.put (x:HS) (i v:Int):HS:= {x with l:=x.l.set i.toNat v,at_:=x.at_.set v.toNat (i+1)}
theorem cN.TS {w w':World} {b:Nat} {x:HS} (h:cN w b x) {l':List Int} (hl:l'.length=x.l.length) (o:dz aq w' x.pl x.cl l') (m:aD (λk=>aG x.pl=some k) w w'):cN w' b {x with l:=l'}:=
 ⟨by have:=h.me.keep m h.bl;rwa [<- hl] at this,o,h.ha.keep m λk J I=>h.la k I J,h.hs.keep m λk J I=>h.ls k I J,h.bl,h.ba,h.bs,h.la,h.ls,h.sa⟩
theorem cN.NT {w w':World} {b:Nat} {x:HS} (h:cN w b x) {l':List Int} (hl:l'.length=x.at_.length) (o:dz aq w' x.pa x.ca l') (m:aD (λk=>aG x.pa=some k) w w'):cN w' b {x with at_:=l'}:=
 ⟨by have:=h.me.keep m h.ba;rwa [<- hl] at this,h.hl.keep m λk J I=>h.la k J I,o,h.hs.keep m λk J I=>h.sa k I J,h.bl,h.ba,h.bs,h.la,h.ls,h.sa⟩
theorem cN.Sk {w w':World} {b:Nat} {x:HS} (h:cN w b x) {l':List Int} (hl:l'.length=x.score.length) (o:dz aq w' x.ps x.cs l') (m:aD (λk=>aG x.ps=some k) w w'):cN w' b {x with score:=l'}:=
 ⟨by have:=h.me.keep m h.bs;rwa [<- hl] at this,h.hl.keep m λk J I=>h.ls k J I,h.ha.keep m λk J I=>h.sa k J I,o,h.bl,h.ba,h.bs,h.la,h.ls,h.sa⟩
theorem cN.SL {w w':World} {b:Nat} {x:HS} (h:cN w b x) {t:Int} (o:bT w' b #[.slice x.pl x.l.length x.cl,.slice x.pa x.at_.length x.ca,.slice x.ps x.score.length x.cs,.i t]) (m:aD (·=b) w w'):cN w' b {x with step:=t}:=
 ⟨o,h.hl.keep m λ_ J I=>h.bl (I▸J),h.ha.keep m λ_ J I=>h.ba (I▸J),h.hs.keep m λ_ J I=>h.bs (I▸J),h.bl,h.ba,h.bs,h.la,h.ls,h.sa⟩
theorem rP {w:World} {b:Nat} {x:HS} (h:cN w b x) (i v:Int) (O:0<=i) (U:i<x.l.length) (v0:0<=v) (v1:v<x.at_.length) (hb:x.l.length<2147483648):
 Calls prog dK.id #[ptr b,.i i,.i v] w λe w'=>e=.returned (.tuple #[])/\cN w' b (x.put i v)/\aD (x.cq b) w w':=by
 refine dK.aj ?_;refine ⟨_,rfl,_,_,_,ae h.me rfl,h.hl.st v rfl rfl O rfl U λV o m=>?_⟩;have I:=h.TS (by simp) o m;refine ⟨_,rfl,_,_,_,ae I.me rfl,?_⟩;rw [aA (x:=i+1) (by omega) (by omega)];refine I.ha.st (i+1) rfl rfl v0 rfl v1 λX Q m'=>⟨rfl,I.NT (by simp) Q m',?_⟩
 exact (m.mono λk _ J=> .inr (.inl J)).trans (m'.mono λk _ J=> .inr (.inr (.inl J)))
structure uv (x:HS) (N:Int):Prop where
 na:(x.at_.length:Int)=N+1
 ns:(x.score.length:Int)=N+1
 FQ:N<=1048576
 pos:AR (g x.l) (g x.at_) x.l.length N
 nl:(x.l.length:Int)<=N
structure Lk (N:Int) (x y:HS):Prop where
 pl:y.pl=x.pl
 cl:y.cl=x.cl
 pa:y.pa=x.pa
 ca:y.ca=x.ca
 ps:y.ps=x.ps
 cs:y.cs=x.cs
 l:y.l.length=x.l.length
 a:y.at_.length=x.at_.length
 score:y.score=x.score
 step:y.step=x.step
 has:∀u,1<=u->u<=N->(0<g y.at_ u↔0<g x.at_ u)
theorem Lk.refl (N:Int) (x:HS):Lk N x x:=⟨rfl,rfl,rfl,rfl,rfl,rfl,rfl,rfl,rfl,rfl,λ_ _ _=>WK⟩
theorem Lk.trans {N:Int} {x y z:HS} (h:Lk N x y) (k:Lk N y z):Lk N x z:=
 ⟨k.pl.trans h.pl,k.cl.trans h.cl,k.pa.trans h.pa,k.ca.trans h.ca,k.ps.trans h.ps,k.cs.trans h.cs,k.l.trans h.l,k.a.trans h.a,k.score.trans h.score,k.step.trans h.step,λu a b=> (k.has u a b).trans (h.has u a b)⟩
theorem Lk.cq {N:Int} {x y:HS} (h:Lk N x y) (b:Nat):y.cq b=x.cq b:=by funext k;unfold HS.cq;rw [h.pl,h.pa,h.ps]
theorem oC {x:HS} {i v:Int} (I:0<=i) (J:i<x.l.length):g (x.put i v).l=λj=>if j=i then v else g x.l j:=BR I J
theorem Ea {x:HS} {i v:Int} (v0:0<=v) (v1:v<x.at_.length):g (x.put i v).at_=λu=>if u=v then i+1 else g x.at_ u:=BR v0 v1
theorem uT {x:HS} {N i:Int} (h:uv x N) (I:0<=i) (J:i<x.l.length):g (x.put i (g x.l i)).l=g x.l/\g (x.put i (g x.l i)).at_=g x.at_:=by
 have f:=h.pos.yh i I J;have O:=h.na;rw [oC I J,Ea (by omega) (by omega)];constructor
 . funext j;split
   . subst_vars;rfl
   . rfl
 . funext u;split
   . subst_vars;omega
   . rfl
theorem HQ {y:HS} {N i p v:Int} (h:uv (y.put i v) N) (v1:1<=v) (v2:v<=N) (O:0<=i) (Q:i<y.l.length) (Y:0<=p) (X:p<y.l.length) (I:i≠p):
 g ((y.put i (g y.l p)).put p v).l=rD (g (y.put i v).l) i p/\g ((y.put i (g y.l p)).put p v).at_=xB (g (y.put i v).l) (g (y.put i v).at_) i p/\1<=g y.l p/\g y.l p<=N:=by
 have hl:(y.put i v).l.length=y.l.length:=by simp [HS.put]
 have U:(y.put i (g y.l p)).l.length=y.l.length:=by simp [HS.put]
 have V:(y.put i (g y.l p)).at_.length=y.at_.length:=by simp [HS.put]
 have Z:(y.at_.length:Int)=N+1:=by have:=h.na;simpa [HS.put] using this
 have f:=h.pos.yh p Y (by rw [hl];exact X);rw [oC O Q] at f;simp only [if_neg (Vc I)] at f;refine ⟨?_,?_,f.1,f.2.1⟩
 . rw [oC Y (by rw [U];exact X),oC O Q,oC O Q];funext j;unfold rD;by_cases e:j=p
   . simp [e]
   . by_cases J:j=i
     . simp [J,I,Vc I]
     . simp [e,J]
 . rw [Ea (by omega) (by rw [V];omega),Ea (by omega) (by omega),oC O Q,Ea (by omega) (by omega)];funext u;unfold xB;simp only [if_neg (Vc I),if_true];by_cases e:u=v
   . simp [e]
   . by_cases J:u=g y.l p
     . simp [J]
     . simp [e,J]
theorem uv.swap {y z:HS} {N i p:Int} (h:uv y N) (O:0<=i) (U:i<y.l.length) (Q:0<=p) (J:p<y.l.length) (I:i≠p) (hl:g z.l=rD (g y.l) i p) (ha:g z.at_=xB (g y.l) (g y.at_) i p) (k:z.l.length=y.l.length) (X:z.at_.length=y.at_.length) (V:z.score.length=y.score.length):
 uv z N/\∀u,(0<g z.at_ u↔0<g y.at_ u):=by
 refine ⟨⟨by rw [X];exact h.na,by rw [V];exact h.ns,h.FQ,?_,by rw [k];exact h.nl⟩,λu=>?_⟩
 . rw [hl,ha,k];exact h.pos.swap O U Q J I
 . rw [ha];exact IN h.pos O U Q J u
theorem Ik {w:World} {b:Nat} {x:HS} {N:Int} (h:cN w b x) (ok:uv x N) (i:Int) (I:0<=i) (J:i<x.l.length) (ho:EZ (g x.score) (g x.l) x.l.length i):
 Calls prog kR.id #[ptr b,.i i] w λe w'=>e=.returned (.tuple #[])/\∃O,cN w' b O/\uv O N/\Lk N x O/\Ord (g x.score) (g O.l) O.l.length 0 (-1)/\aD (x.cq b) w w':=by
 refine kR.aj ?_;have aT:(x.l.length:Int)<=1048576:=Int.le_trans ok.nl ok.FQ;refine ⟨_,rfl,_,_,_,ae h.me rfl,h.hl.ix 0 I rfl J λa3 e3=>⟨_,e3,?_⟩⟩;rw [oV I];have fv:=ok.pos.yh i I J;generalize hv:g x.l i=v at fv ⊢;refine ⟨λi w' k=>∃y:HS,cN w' b y/\Lk N x (y.put i v)/\uv (y.put i v) N/\EZ (g x.score) (g (y.put i v).l) x.l.length i/\0<=i/\i<x.l.length/\k=i.toNat/\aD (x.cq b) w w',⟨i.toNat,x,h,?_,?_,?_,I,J,rfl,aD.refl w⟩,?_⟩
 . have ps:=uT ok I J;rw [hv] at ps;exact ⟨rfl,rfl,rfl,rfl,rfl,rfl,by simp [HS.put],by simp [HS.put],rfl,rfl,λu _ _=>by rw [ps.2]⟩
 . have ps:=uT ok I J;rw [hv] at ps;exact ⟨by simpa [HS.put] using ok.na,ok.ns,ok.FQ,by rw [ps.1,ps.2];simpa [HS.put] using ok.pos,by simpa [HS.put] using ok.nl⟩
 . have ps:=uT ok I J;rw [hv] at ps;rw [ps.1];exact ho
 clear h ho I J fv hv;rintro i w' k _ ⟨y,Q,lk,V,ou,I,J,hk,M⟩;have a':y.l.length=x.l.length:=by simpa [HS.put] using lk.l
 have a_:y.at_.length=x.at_.length:=by simpa [HS.put] using lk.a
 have X:y.score=x.score:=lk.score;have bb:=ok.na;have bk:=ok.ns;have ac:y.cq b=x.cq b:=lk.cq b;have U:(y.put i v).l.length=x.l.length:=lk.l;have fv:=V.pos.yh i I (by rw [U];exact J);rw [oC I (by omega)] at fv;simp only [if_true] at fv;have dG:(i<=0\/¬Bt (g x.score) v (g y.l ((i - 1) / 2)))->∀w2,cN w2 b y->aD (x.cq b) w w2->Calls prog dK.id #[ptr b,.i i,.i v] w2 λe w'=>e=.returned (.tuple #[])/\(Ending.returned (.tuple #[])=.returned (.tuple #[])/\∃O,cN w' b O/\uv O N/\Lk N x O/\Ord (g x.score) (g O.l) O.l.length 0 (-1)/\aD (x.cq b) w w'):=by
  intro hb w2 ar M2;refine (rP ar i v I (by omega) (by omega) (by omega) (by omega)).mono ?_;rintro e w3 ⟨rfl,h3,m3⟩;refine ⟨rfl,rfl,_,h3,V,lk,?_,M2.trans (ac▸m3)⟩;rw [U];refine ou.done (hb.imp id λhb=>?_);rw [oC I (by omega)];simp only [if_true];by_cases e:(i - 1) / 2=i
  . rw [if_pos e];exact λhb=>hb.zJ hb
  . rw [if_neg e];exact hb
 refine ah (λt=>?_) (λt=>dG (.inl (by simpa using t)) w' Q M);simp only [decide_eq_true_eq] at t;have ep:i64.wrap ((i64.wrap (i - 1)).tdiv 2)=(i - 1) / 2:=by
  rw [aA (x:=i - 1) (by omega) (by omega),Wg (by omega),aA (by omega) (by omega)]
 rw [ep];have Y:0<=(i - 1) / 2:=by omega
 have pp:=HQ V (by omega) (by omega) I (by omega) Y (by omega) (show i≠(i - 1) / 2 by omega);obtain ⟨e1,e2,u1,u2⟩:=pp;refine ⟨by decide,_,rfl,_,_,_,ae Q.me rfl,Q.hl.ix 0 Y rfl (by omega) λaw Z=>⟨_,Z,?_⟩⟩;rw [oV Y];refine (sk Q v (g y.l ((i - 1) / 2)) (by omega) (by rw [X];omega) (by omega) (by rw [X];omega)).mono ?_;rintro e ax ⟨rfl,aa⟩;have Q:=Q.grow aa;have M:=M.grow aa;refine ⟨_,rfl,ah (λtb=>dG (.inr ?_) ax Q M) (λtb=>?_)⟩
 . rw [<- wU,<- X];simpa using tb
 . have tb:Bt (g x.score) v (g y.l ((i - 1) / 2)):=by rw [<- wU,<- X];simpa using tb
   refine ⟨_,rfl,_,_,_,ae Q.me rfl,Q.hl.ix 0 Y rfl (by omega) λaw Z=>⟨_,Z,?_⟩⟩;rw [oV Y];refine (rP Q i _ I (by omega) (show 0<=g y.l ((i - 1) / 2) by omega) (by omega) (by omega)).mono ?_;rintro e a8 ⟨rfl,ap,av⟩;have sw:=uv.swap (z:=(y.put i (g y.l ((i - 1) / 2))).put ((i - 1) / 2) v) V I (by rw [U];exact J) Y (by rw [U];omega) (by omega) e1 e2 (by simp [HS.put]) (by simp [HS.put]) rfl;refine ⟨rfl,((i - 1) / 2).toNat,by omega,_,ap,?_,sw.1,?_,Y,by omega,rfl,M.trans (ac▸av)⟩
   . refine lk.trans ⟨rfl,rfl,rfl,rfl,rfl,rfl,by simp [HS.put],by simp [HS.put],rfl,rfl,λu _ _=>sw.2 u⟩
   . rw [e1];refine ou.step (by omega) J ?_;rw [oC I (by omega)];simpa [show ¬(i - 1) / 2=i by omega] using tb
theorem Cb {w:World} {b:Nat} {x:HS} {N:Int} (h:cN w b x) (ok:uv x N) (i:Int) (J:0<=i) (i1:i<x.l.length) (k:Int) (ki:k<=i) (ho:D_ (g x.score) (g x.l) x.l.length k i):
 Calls prog jy.id #[ptr b,.i i] w λe w'=>e=.returned (.tuple #[])/\∃O,cN w' b O/\uv O N/\Lk N x O/\Ord (g x.score) (g O.l) O.l.length k (-1)/\aD (x.cq b) w w':=by
 refine jy.aj ?_;have cb:(x.l.length:Int)<=1048576:=Int.le_trans ok.nl ok.FQ;refine ⟨_,rfl,_,_,_,ae h.me rfl,h.hl.ix 0 J rfl i1 λa3 e3=>⟨_,e3,?_⟩⟩;rw [oV J];generalize hv:g x.l i=v;have ps:=uT ok J i1;rw [hv] at ps;refine ⟨λi w' m=>∃y:HS,cN w' b y/\Lk N x (y.put i v)/\uv (y.put i v) N/\D_ (g x.score) (g (y.put i v).l) x.l.length k i/\k<=i/\0<=i/\i<x.l.length/\m=x.l.length - i.toNat/\aD (x.cq b) w w',⟨x.l.length - i.toNat,x,h,?_,?_,?_,ki,J,i1,rfl,aD.refl w⟩,?_⟩
 . exact ⟨rfl,rfl,rfl,rfl,rfl,rfl,by simp [HS.put],by simp [HS.put],rfl,rfl,λu _ _=>by rw [ps.2]⟩
 . exact ⟨by simpa [HS.put] using ok.na,ok.ns,ok.FQ,by rw [ps.1,ps.2];simpa [HS.put] using ok.pos,by simpa [HS.put] using ok.nl⟩
 . rw [ps.1];exact ho
 clear h ho J i1 hv ps ki;rintro i w' m _ ⟨y,I,lk,X,ou,ki,J,i1,hm,M⟩;have cT:y.l.length=x.l.length:=by simpa [HS.put] using lk.l
 have cp:y.at_.length=x.at_.length:=by simpa [HS.put] using lk.a
 have Q:y.score=x.score:=lk.score;have c1:=ok.na;have dc:=ok.ns;have bf:y.cq b=x.cq b:=lk.cq b;have V:(y.put i v).l.length=x.l.length:=lk.l;have fv:=X.pos.yh i J (by rw [V];exact i1);rw [oC J (by omega)] at fv;simp only [if_true] at fv;have dG:(∀j:Int,1<=j->j<x.l.length->(j - 1) / 2=i->¬Bt (g x.score) (g y.l j) v)->∀w2,cN w2 b y->aD (x.cq b) w w2->Calls prog dK.id #[ptr b,.i i,.i v] w2 λe w'=>e=.returned (.tuple #[])/\(Ending.returned (.tuple #[])=.returned (.tuple #[])/\∃O,cN w' b O/\uv O N/\Lk N x O/\Ord (g x.score) (g O.l) O.l.length k (-1)/\aD (x.cq b) w w'):=by
  intro hb w2 bY M2;refine (rP bY i v J (by omega) (by omega) (by omega) (by omega)).mono ?_;rintro e w3 ⟨rfl,h3,m3⟩;refine ⟨rfl,rfl,_,h3,X,lk,?_,M2.trans (bf▸m3)⟩;rw [V];refine ou.done λj j1 j2 j3=>?_;rw [oC J (by omega)];simp only [if_true];rw [if_neg (by omega)];exact hb j j1 j2 j3
 have ec:i64.wrap (i64.wrap (2*i)+1)=2*i+1:=by rw [aA (x:=2*i) (by omega) (by omega),aA (by omega) (by omega)]
 have b7:i64.wrap (2*i+1+1)=2*i+2:=by rw [aA (by omega) (by omega)];omega
 rw [ec,b7];refine ⟨_,rfl,_,_,_,ae I.me rfl,ah (λt=>dG ?_ w' I M) (λt=>?_)⟩
 . simp only [decide_eq_true_eq,ge_iff_le] at t;intro j j1 j2 j3;omega
 simp only [decide_eq_false_iff_not,ge_iff_le] at t;have kids:∀c,c=2*i+1\/c=2*i+2->c<x.l.length->1<=g y.l c/\g y.l c<=N:=by
  intro c hc b4;have:=X.pos.yh c (by omega) (by rw [V];exact b4);rw [oC J (by omega)] at this;simp only [show ¬c=i by omega,if_false] at this;exact ⟨this.1,this.2.1⟩
 have I:=I.drew;have M:=M.drew;have rest:∀c w2,cN w2 b y->aD (x.cq b) w w2->c=2*i+1\/c=2*i+2->c<x.l.length->(∀j:Int,1<=j->j<x.l.length->(j - 1) / 2=i->¬Bt (g x.score) (g y.l j) (g y.l c))->
  (∃a25,(some (⟨b,0,none⟩:Addr))=some a25/\∃ax ay bk,w2.cell? (a25.add 0)=some (.slice ax ay bk)/\
    aW ax ay c 1 λbx=>
    ∃a6,w2.cell? bx=some (.i a6)/\
    Calls prog eS.id #[.pointer (some ⟨b,0,none⟩),.i a6,.i v] w2 λe ag=>∃a8,e=.returned (.bool a8)/\
    aF (!a8)
    (Calls prog dK.id #[.pointer (some ⟨b,0,none⟩),.i i,.i v] ag λe bb=>e=.returned (.tuple #[])/\
      (Ending.returned (.tuple #[])=.returned (.tuple #[])/\∃O,cN bb b O/\uv O N/\Lk N x O/\Ord (g x.score) (g O.l) O.l.length k (-1)/\aD (x.cq b) w bb))
    (∃a7,(some (⟨b,0,none⟩:Addr))=some a7/\∃aw av bg,ag.cell? (a7.add 0)=some (.slice aw av bg)/\
      aW aw av c 1 λbu=>
      ∃bi,ag.cell? bu=some (.i bi)/\
      Calls prog dK.id #[.pointer (some ⟨b,0,none⟩),.i i,.i bi] ag λe bc=>e=.returned (.tuple #[])/\
      ∃k7,k7<m/\∃y:HS,cN bc b y/\Lk N x (y.put c v)/\uv (y.put c v) N/\D_ (g x.score) (g (y.put c v).l) x.l.length k c/\k<=c/\0<=c/\c<x.l.length/\k7=x.l.length - c.toNat/\aD (x.cq b) w bc)):=by
  intro c w2 I M hc a' aa;have fc:=kids c hc a';have pp:=HQ X (by omega) (by omega) J (by omega) (show 0<=c by omega) (by omega) (show i≠c by omega);obtain ⟨e1,e2,u1,u2⟩:=pp;have c0:0<=c:=by omega
  refine ⟨_,rfl,_,_,_,ae I.me rfl,I.hl.ix 0 c0 rfl (by omega) λa_ Y=>⟨_,Y,?_⟩⟩;rw [oV c0];refine (sk I (g y.l c) v (by omega) (by rw [Q];omega) (by omega) (by rw [Q];omega)).mono ?_;rintro e an ⟨rfl,Z⟩;have I:=I.grow Z;have M:=M.grow Z;refine ⟨_,rfl,ah (λU=>dG (λj j1 j2 j3=>?_) an I M) (λU=>?_)⟩
  . have: ¬Bt (g x.score) (g y.l c) v:=by rw [<- wU,<- Q];simpa using U
    exact Bt.FL (aa j j1 j2 j3) this
  . have U:Bt (g x.score) (g y.l c) v:=by rw [<- wU,<- Q];simpa using U
    refine ⟨_,rfl,_,_,_,ae I.me rfl,I.hl.ix 0 c0 rfl (by omega) λa_ Y=>⟨_,Y,?_⟩⟩;rw [oV c0];refine (rP I i _ J (by omega) (show 0<=g y.l c by omega) (by omega) (by omega)).mono ?_;rintro e cm ⟨rfl,bv,b3⟩;have sw:=uv.swap (z:=(y.put i (g y.l c)).put c v) X J (by rw [V];exact i1) c0 (by rw [V];omega) (by omega) e1 e2 (by simp [HS.put]) (by simp [HS.put]) rfl;refine ⟨rfl,x.l.length - c.toNat,by omega,_,bv,?_,sw.1,?_,by omega,c0,by omega,rfl,M.trans (bf▸b3)⟩
    . refine lk.trans ⟨rfl,rfl,rfl,rfl,rfl,rfl,by simp [HS.put],by simp [HS.put],rfl,rfl,λu _ _=>sw.2 u⟩
    . rw [e1];refine ou.step ki J a' (by omega) (by omega) ?_ ?_
      . rw [oC J (by omega)];simpa [show ¬c=i by omega] using U
      . intro j j1 j2 j3;rw [oC J (by omega)];simpa [show ¬c=i by omega,show ¬j=i by omega] using aa j j1 j2 j3
 refine ⟨_,rfl,_,_,_,ae I.me rfl,ah (λt1=>?_) (λt1=>?_)⟩<;>simp only [decide_eq_true_eq,decide_eq_false_iff_not] at t1
 . have f1:=kids (2*i+1) (.inl rfl) (by omega);have f2:=kids (2*i+2) (.inr rfl) (by omega);refine ⟨_,rfl,_,_,_,ae I.me rfl,I.hl.ix 0 (by omega) rfl t1 λa_ Y=>⟨_,Y,_,rfl,_,_,_,ae I.me rfl,I.hl.ix 0 (by omega) rfl (by omega) λdd b5=>⟨_,b5,?_⟩⟩⟩;rw [oV (by omega),oV (by omega)];refine (sk I _ _ (show 0<=g y.l (2*i+2) by omega) (by rw [Q];omega) (show 0<=g y.l (2*i+1) by omega) (by rw [Q];omega)).mono ?_;rintro e an ⟨rfl,Z⟩;have I:=I.grow Z;have M:=M.grow Z;refine ⟨_,rfl,ah (λU=>rest _ an I M (.inr rfl) (by omega) λj j1 j2 j3=>?_) (λU=>rest _ an I M (.inl rfl) (by omega) λj j1 j2 j3=>?_)⟩
   . have U:Bt (g x.score) (g y.l (2*i+2)) (g y.l (2*i+1)):=by rw [<- wU,<- Q];simpa using U
     obtain rfl|rfl:j=2*i+1\/j=2*i+2:=by omega
     . exact U.zJ
     . exact λhb=>hb.zJ hb
   . have U: ¬Bt (g x.score) (g y.l (2*i+2)) (g y.l (2*i+1)):=by rw [<- wU,<- Q];simpa using U
     obtain rfl|rfl:j=2*i+1\/j=2*i+2:=by omega
     . exact λhb=>hb.zJ hb
     . exact U
 . refine rest _ _ I M (.inl rfl) (by omega) λj j1 j2 j3=>?_;obtain rfl:j=2*i+1:=by omega
   exact λhb=>hb.zJ hb
end
section
def f20 (x:Int):Int:=x / 1048576
theorem SG (x:Int):x.fdiv (2 ^ (min (20:Int).toNat (IntKind.bits .i64)))=f20 x:=by
 show x.fdiv 1048576=_;rw [WR _ (by omega)];rfl
def qI:Int:=1099511627776
def po (x:HS) (v:Int):Prop:=qI<x.step\/qI<g x.score v
instance (x:HS) (v:Int):Decidable (po x v):=by unfold po;infer_instance
def HS.ky (x:HS):HS:= {x with score:=x.score.map f20,step:=imax 1 (f20 x.step)}
theorem uv.score {x:HS} {N:Int} (h:uv x N) {s:List Int} {t:Int} (hs:s.length=x.score.length):uv {x with score:=s,step:=t} N:=
 ⟨h.na,by show (s.length:Int)=_;rw [hs];exact h.ns,h.FQ,h.pos,h.nl⟩
theorem Ai {w:World} {b:Nat} {x:HS} {N:Int} (h:cN w b x) (ok:uv x N) (v:Int) (v0:0<=v) (v1:v<=N) (ho:Ord (g x.score) (g x.l) x.l.length 0 (-1)):
 Calls prog fJ.id #[ptr b,.i v] w λe w'=>e=.returned (.tuple #[])/\∃U,cN w' b U/\uv U N/\Lk N (if po x v then x.ky else x) U/\Ord (g U.score) (g U.l) U.l.length 0 (-1)/\aD (x.cq b) w w':=by
 refine fJ.aj ?_;have bk:=ok.ns;have hN:=ok.FQ;have a7:(x.l.length:Int)<=1048576:=Int.le_trans ok.nl ok.FQ;refine ⟨_,rfl,_,ae h.me rfl,ah (λt1=>⟨_,rfl,_,_,_,ae h.me rfl,h.hs.ix 0 v0 rfl (by omega) λa e=>⟨_,e,ah (λt2=>?_) (λt2=>?_)⟩⟩) (λt1=>?_)⟩
 . rw [oV v0] at t2;simp only [decide_eq_true_eq] at t1 t2;have hm: ¬po x v:=by unfold po qI;omega
   rw [if_neg hm];exact ⟨rfl,x,h,ok,Lk.refl N x,ho,aD.refl w⟩
 all_goals (
  have hm:po x v:=by
   unfold po qI;first
   | (rw [oV v0] at t2;simp only [decide_eq_false_iff_not] at t2;omega)
   | (simp only [decide_eq_false_iff_not] at t1;omega)
  rw [if_pos hm];clear t1;refine ⟨_,rfl,_,_,_,ae h.me rfl,?_⟩;refine ⟨λi w' k=>∃t:Nat,i=t/\t<=x.score.length/\cN w' b {x with score:=ru f20 t x.score}/\aD (x.cq b) w w'/\k+t=x.score.length,⟨x.score.length,0,rfl,vx _,by rw [Gg];exact h,aD.refl w,rfl⟩,?_⟩;rintro i w' k _ ⟨t,rfl,ht,I,M,hk⟩;refine ah (λJ=>?_) (λJ=>?_)<;>simp only [decide_eq_true_eq,decide_eq_false_iff_not] at J
  . have hl:=C7 f20 t x.score;refine ⟨_,rfl,_,_,_,ae I.me rfl,I.hs.ix 0 (by omega) rfl (by rw [hl];exact J) λbg ap=>⟨_,ap,by decide,?_⟩⟩;rw [tn,IF f20 0 (by omega),SG];refine I.hs.st (f20 (x.score.getD t 0)) rfl rfl (by omega) rfl (by rw [hl];exact J) λa' o m=>⟨k - 1,by omega,t+1,?_,by omega,?_,M.trans (m.mono λk _ hk=> .inr (.inr (.inr hk))),by omega⟩
    . rw [aA (by omega) (by omega)];omega
    . have:=I.Sk (by simp) o m;rw [tn,JD f20 0 (by omega)] at this;exact this
  . have et:t=x.score.length:=by omega
    subst et;rw [Jq] at I;refine ⟨_,rfl,_,ae I.me rfl,by decide,_,rfl,?_⟩;rw [SG];refine cz I.me rfl rfl λV o m=>?_;have O:cN V b x.ky:=I.SL o m;have M2:aD (x.cq b) w V:=M.trans (m.mono λk _ hk=> .inl hk);have Z:uv x.ky N:=ok.score (by simp);refine ⟨_,rfl,_,_,_,ae O.me rfl,?_⟩;have en:i64.wrap ((x.ky.l.length:Int) - 1)=(x.l.length:Int) - 1:=by show i64.wrap ((x.l.length:Int) - 1)=_;rw [aA (by omega) (by omega)]
    try dsimp only
    rw [en];refine ⟨λi w' k=>∃y,cN w' b y/\uv y N/\Lk N x.ky y/\Ord (g x.ky.score) (g y.l) x.l.length (i+1) (-1)/\ -1<=i/\i<x.l.length/\k=(i+1).toNat/\aD (x.cq b) w w',⟨_,x.ky,O,Z,Lk.refl N _,?_,by omega,by omega,rfl,M2⟩,?_⟩
    . intro j j1 j2 j3 j4;omega
    clear I O Z M M2 m o ho;rintro i w' k _ ⟨y,I,X,lk,oy,i0,i1,hk,M⟩;have Y:y.l.length=x.l.length:=lk.l;have Q:y.score=x.ky.score:=lk.score;have ar:y.cq b=x.cq b:=lk.cq b;refine ah (λJ=>?_) (λJ=>?_)<;>simp only [decide_eq_true_eq,decide_eq_false_iff_not,ge_iff_le] at J
    . refine (Cb I X i J (by omega) i (U3 _) ⟨?_,?_⟩).mono ?_
      . intro j j1 j2 j3 j4;rw [Q];exact oy j j1 (by omega) (by omega) (by omega)
      . intro j j1 j2 j3 j4 j5;omega
      . rintro e w2 ⟨rfl,z,hz,an,lz,oz,mz⟩;have av:z.l.length=y.l.length:=lz.l;refine ⟨rfl,i.toNat,by omega,z,hz,an,lk.trans lz,?_,?_,?_,?_,M.trans (ar▸mz)⟩
        . have e1:i64.wrap (i - 1)+1=i:=by rw [aA (by omega) (by omega)];omega
          rw [e1,<- Q,<- Y,<- av];exact oz
        . rw [aA (by omega) (by omega)];omega
        . rw [aA (by omega) (by omega)];omega
        . rw [aA (by omega) (by omega)];omega
    . have ei:i= -1:=by omega
      subst ei;refine ⟨rfl,y,I,X,lk,?_,M⟩;rw [Q,Y];exact oy)
theorem RA {w:World} {b:Nat} {x:HS} (h:cN w b x):Calls prog jY.id #[ptr b] w λe w'=>e=.returned (.i x.l.length)/\ak w w':=by
 refine jY.aj ?_;exact bA rfl ⟨_,rfl,_,_,_,ae h.me rfl,rfl,aD.refl w⟩
theorem xa {w:World} {b:Nat} {x:HS} (h:cN w b x) (v:Int):Calls prog lH.id #[ptr b,.i v] w λe w'=>e=.returned (.bool (decide (1<=v/\v<x.at_.length)))/\ak w w':=by
 refine lH.aj ?_;refine bP rfl (ah (λt=>⟨_,rfl,_,_,_,ae h.me rfl,?_,aD.refl w⟩) (λt=>⟨?_,aD.refl w⟩))<;>simp only [decide_eq_true_eq,decide_eq_false_iff_not,ge_iff_le] at t
 . simp [t]
 . simp [t]
theorem HD {w:World} {b:Nat} {x:HS} (h:cN w b x) (hb:x.l.length<2147483648):Calls prog jm.id #[ptr b] w λe w'=>e=.returned (.tuple #[.i (if x.l.length=0 then 0 else g x.l 0),.bool (decide (x.l.length≠0))])/\ak w w':=by
 refine jm.aj ?_;refine (RA h).mono ?_;rintro e w1 ⟨rfl,I⟩;have h:=h.grow I;refine ⟨_,rfl,ah (λt=>⟨?_,I⟩) (λt=>⟨_,rfl,_,_,_,ae h.me rfl,h.hl.ix 0 (U3 _) rfl ?_ λa e=>⟨_,e,?_,I⟩⟩)⟩
 . have:x.l.length=0:=by have:=beq_iff_eq.1 t;omega
   simp [this]
 . have:=beq_eq_false_iff_ne.1 t;omega
 . have t:=beq_eq_false_iff_ne.1 t;have:x.l.length≠0:=by omega
   rw [oV (U3 0),if_neg this];simp [this]
structure o_ (x:HS) (N:Int):Prop where
 ok:uv x N
 n0:0<=N
 Su:Ord (g x.score) (g x.l) x.l.length 0 (-1)
 sc:∀v,0<=v->v<=N->0<=g x.score v/\g x.score v<=qI
 st:1<=x.step/\x.step<=qI
theorem St {l:List Int} {f:Int->Int} (I:f 0=0) (v:Int):g (l.map f) v=f (g l v):=by
 unfold g;split
 . exact I.symm
 . simp only [y6,Vx];cases l[v.toNat]? <;>simp [I]
theorem yT {y z:HS} {N v:Int} (n0:0<=N) (ok:uv z N) (lk:Lk N (if po y v then y.ky else y) z) (o:Ord (g z.score) (g z.l) z.l.length 0 (-1))
 (hs:∀u,0<=u->u<=N->0<=g y.score u/\g y.score u<=4398046511104/\(u≠v->g y.score u<=qI)) (ht:1<=y.step/\y.step<=4398046511104):o_ z N:=by
 by_cases hm:po y v
 . rw [if_pos hm] at lk;have O:z.score=y.score.map f20:=lk.score;have J:z.step=imax 1 (f20 y.step):=lk.step;refine ⟨ok,n0,o,λu u0 I=>?_,?_⟩
   . rw [O,St rfl];have:=hs u u0 I;unfold f20 qI;omega
   . rw [J];unfold imax f20 qI;split<;>omega
 . rw [if_neg hm] at lk;have O:z.score=y.score:=lk.score;have J:z.step=y.step:=lk.step;unfold po at hm;refine ⟨ok,n0,o,λu u0 I=>?_,?_⟩
   . rw [O];have:=hs u u0 I;by_cases e:u=v
     . subst e;omega
     . exact ⟨this.1,this.2.2 e⟩
   . rw [J];omega
theorem Kr {w:World} {b:Nat} {x:HS} {N:Int} (h:cN w b x) (I:o_ x N):Calls prog fR.id #[ptr b] w λe w'=>e=.returned (.tuple #[])/\
 ∃z,cN w' b z/\o_ z N/\Lk N (if qI<x.step+ (x.step / 16+1) then {x with step:=x.step+ (x.step / 16+1)}.ky else {x with step:=x.step+ (x.step / 16+1)}) z/\aD (x.cq b) w w':=by
 refine fR.aj ?_;have hN:=I.ok.FQ;have hs:=I.st;have ac:=I.ok.na;have an:=I.n0;unfold qI at hs;refine bA rfl ⟨_,rfl,_,_,_,ae h.me rfl,bA ?_ ?_⟩
 . obtain ⟨q,hq,_⟩:=h.ha.cell (j:=0) (by omega);rw [hq];rfl
 have h:=h.drew;refine ⟨_,rfl,_,ae h.me rfl,_,rfl,_,ae h.me rfl,by decide,_,rfl,?_⟩;have e1:i64.wrap (x.step+i64.wrap (i64.wrap (x.step.tdiv 16)+1))=x.step+ (x.step / 16+1):=by
  rw [Wg (by omega),aA (x:=x.step / 16) (by omega) (by omega),aA (x:=x.step / 16+1) (by omega) (by omega),aA (by omega) (by omega)]
 rw [e1];refine cz h.me rfl rfl λZ o m=>?_;have V:=h.SL o m;have M8:aD (x.cq b) w Z:=((aD.refl w).drew).trans (m.mono λk _ hk=> .inl hk);refine (Ai V (I.ok.score rfl) 0 (by omega) I.n0 I.Su).mono ?_;rintro e w9 ⟨rfl,z,X,O,Q,Y,mz⟩;refine ⟨rfl,rfl,z,X,?_,?_,M8.trans mz⟩
 . refine yT I.n0 O Q Y (λu u0 U=>?_) ?_
   . have:=I.sc u u0 U;unfold qI at this;exact ⟨this.1,by show g x.score u<=_;omega,λ_=> (I.sc u u0 U).2⟩
   . show 1<=x.step+ (x.step / 16+1)/\x.step+ (x.step / 16+1)<=_;omega
 . have:po {x with step:=x.step+ (x.step / 16+1)} 0↔qI<x.step+ (x.step / 16+1):=by
    unfold po;have:=(I.sc 0 (U3 _) I.n0).2;constructor
    . rintro (h|h)
      . exact h
      . exact absurd this (by show ¬g x.score 0<=qI;exact Int.not_le.2 h)
    . exact .inl
   by_cases J:qI<x.step+ (x.step / 16+1)
   . rw [if_pos J];rwa [if_pos (this.2 J)] at Q
   . rw [if_neg J];rwa [if_neg (λh=>J (this.1 h))] at Q
theorem Ord.UC {S L:Int->Int} {n i:Int} (h:Ord S L n 0 (-1)) (S':Int->Int) (J:∀j,0<=j->j<n->j≠i->S' (L j)=S (L j)) (hi:0<=i->i<n->S (L i)<=S' (L i)):EZ S' L n i:=by
 constructor
 . intro j U I X;have O:=h j U I (by omega) (by omega);have e:=J j (by omega) I X;by_cases hp:(j - 1) / 2=i
   . have:=hi (by omega) (by omega);unfold Bt at*
     rw [hp] at O ⊢;rw [e];omega
   . have V:=J ((j - 1) / 2) (by omega) (by omega) hp;unfold Bt at*
     rw [e,V];omega
 . intro j U I X Y;have O:=h j U I (by omega) (by omega);have Q:=h i Y (by omega) (by omega) (by omega);rw [X] at O;have e:=J j (by omega) I (by omega);have V:=J ((i - 1) / 2) (by omega) (by omega) (by omega);have:=Bt.FL O Q;unfold Bt at*
   rw [e,V];omega
theorem On {w:World} {b:Nat} {x:HS} {N:Int} (h:cN w b x) (J:o_ x N) (v:Int):Calls prog gR.id #[ptr b,.i v] w λe w'=>
 e=.returned (.i (if 1<=v/\v<=N then 0 else 1))/\∃z,cN w' b z/\o_ z N/\
  Lk N (if 1<=v/\v<=N then (if qI<g x.score v+x.step then {x with score:=x.score.set v.toNat (g x.score v+x.step)}.ky else {x with score:=x.score.set v.toNat (g x.score v+x.step)}) else x) z/\aD (x.cq b) w w':=by
 refine gR.aj ?_;have hN:=J.ok.FQ;have hs:=J.st;have bn:=J.ok.na;have b4:=J.ok.ns;have bv:=J.ok.nl;have a6:=J.n0;unfold qI at hs;refine (xa h v).mono ?_;rintro e w1 ⟨rfl,g1⟩;have h:=h.grow g1;refine ⟨_,rfl,ah (λt=>?_) (λt=>?_)⟩
 . have t: ¬(1<=v/\v<=N):=by simp at t;omega
   rw [if_neg t,if_neg t];exact ⟨rfl,x,h,J,Lk.refl N x,g1.mono λ_ _ h=>h.elim⟩
 have t:1<=v/\v<=N:=by simp at t;omega
 rw [if_pos t,if_pos t];have h:=h.drew;have v0:0<=v:=by omega
 have v1:v<x.score.length:=by omega
 have sv:=J.sc v v0 t.2;have bu:g x.score v<=1099511627776:=sv.2;refine ⟨_,rfl,_,_,_,ae h.me rfl,h.hs.ix 0 v0 rfl v1 λa e=>⟨_,e,_,rfl,_,ae h.me rfl,?_⟩⟩;try dsimp only
 rw [oV v0,aA (x:=g x.score v+x.step) (by omega) (by omega)];refine h.hs.st (g x.score v+x.step) rfl rfl v0 rfl v1 λZ o m=>?_;have lU:=h.Sk (by simp) o m;have aa:aD (x.cq b) w Z:=((g1.mono λ_ _ h=>h.elim).drew).trans (m.mono λk _ hk=> .inr (.inr (.inr hk)));generalize U:({x with score:=x.score.set v.toNat (g x.score v+x.step)}:HS)=y at lU ⊢;have gy:g y.score=λj=>if j=v then g x.score v+x.step else g x.score j:=by rw [<- U];exact BR v0 v1
 have X:uv y N:=by rw [<- U];exact J.ok.score (by simp)
 have yl:y.l=x.l:=by rw [<- U]
 have ya:y.at_=x.at_:=by rw [<- U]
 have yt:y.step=x.step:=by rw [<- U]
 have yf:y.cq b=x.cq b:=by rw [<- U];rfl
 have Y:g y.score v=g x.score v+x.step:=by rw [gy];simp
 have dG:∀z,uv z N->Lk N y z->Ord (g y.score) (g z.l) z.l.length 0 (-1)->∀O,cN O b z->aD (x.cq b) w O->Calls prog fJ.id #[ptr b,.i v] O λe O=>e=.returned (.tuple #[])/\
  (Ending.returned (.i 0)=.returned (.i 0)/\∃z,cN O b z/\o_ z N/\Lk N (if qI<g x.score v+x.step then y.ky else y) z/\aD (x.cq b) w O):=by
  intro z Q I oz O hz M;have zs:z.score=y.score:=I.score;have zt:z.step=y.step:=I.step;refine (Ai hz Q v v0 t.2 (by rw [zs];exact oz)).mono ?_;rintro e bg ⟨rfl,u,hu,a7,lu,ou,mu⟩;have gF:po z v↔qI<g x.score v+x.step:=by unfold po;rw [zs,zt,Y,yt];unfold qI;omega
  have aT:Lk N (if qI<g x.score v+x.step then y.ky else y) u:=by
   by_cases hc:qI<g x.score v+x.step
   . rw [if_pos (gF.2 hc)] at lu;rw [if_pos hc];have ls:Lk N y.ky z.ky:=⟨I.pl,I.cl,I.pa,I.ca,I.ps,I.cs,I.l,I.a,congrArg (List.map f20) zs,congrArg (λt=>imax 1 (f20 t)) zt,I.has⟩
     exact ls.trans lu
   . rw [if_neg (λh=>hc (gF.1 h))] at lu;rw [if_neg hc];exact I.trans lu
  refine ⟨rfl,rfl,u,hu,?_,aT,M.trans (by have:=I.cq b;rw [this,yf] at mu;exact mu)⟩;refine yT a6 a7 lu ou (λq q0 q1=>?_) (by rw [zt,yt];omega);rw [zs,gy];have:=J.sc q q0 q1;unfold qI at*
  by_cases e:q=v
  . subst e;simp;omega
  . simp [e];omega
 refine ⟨_,rfl,_,_,_,ae lU.me rfl,lU.ha.ix 0 v0 rfl (by rw [ya];omega) λa e=>⟨_,e,?_⟩⟩;rw [oV v0];have bk:=J.ok.pos.bW v t.1 t.2;refine ah (λV=>?_) (λV=>?_)<;>simp only [decide_eq_true_eq,decide_eq_false_iff_not] at V
 . refine ⟨_,rfl,_,_,_,ae lU.me rfl,lU.ha.ix 0 v0 rfl (by rw [ya];omega) λa e=>⟨_,e,?_⟩⟩;rw [ya] at V ⊢;rw [oV v0,aA (x:=g x.at_ v - 1) (by omega) (by omega)];have hl:g x.l (g x.at_ v - 1)=v:=bk.2.2 V;refine (Ik lU X (g x.at_ v - 1) (by omega) (by rw [yl];omega) ?_).mono ?_
   . rw [yl];refine Ord.UC J.Su _ (λj j0 j1 j2=>?_) λ_ _=>?_
     . rw [gy];have:g x.l j≠v:=λe=>j2 (J.ok.pos.inj j0 j1 (by omega) (by omega) (by rw [e,hl]));simp [this]
     . rw [hl,Y];omega
   . rintro e ax ⟨rfl,z,hz,Q,I,oz,mz⟩;exact ⟨rfl,dG z Q I oz ax hz (aa.trans (yf▸mz))⟩
 . refine dG y X (Lk.refl N y) ?_ Z lU aa;rw [yl];have no:∀j:Int,0<=j->j<x.l.length->g x.l j≠v:=by
    intro j j0 j1 e;have:=J.ok.pos.yh j j0 j1;rw [e] at this;rw [ya] at V;omega
   intro j j1 j2 j3 j4;have:=J.Su j j1 j2 j3 j4;unfold Bt at*
   rw [gy];simp only [no j (by omega) j2,no ((j - 1) / 2) (by omega) (by omega),if_false];exact this
theorem Qb {l:List Int} {v:Int}:g (l++ [v])=λj:Int=>if j=l.length then v else g l j:=by
 funext j;unfold g;simp only [y6];by_cases I:j<0
 . simp [I];omega
 . simp only [if_neg I];by_cases e:j=l.length
   . subst e;simp
   . rw [if_neg e];by_cases J:j.toNat<l.length
     . rw [UT J]
     . rw [Vz (by simp;omega),Vz (by omega)]
structure Uw (N v:Int) (x y:HS):Prop where
 pa:y.pa=x.pa
 ca:y.ca=x.ca
 ps:y.ps=x.ps
 cs:y.cs=x.cs
 a:y.at_.length=x.at_.length
 score:y.score=x.score
 step:y.step=x.step
 has:∀u,1<=u->u<=N->(0<g y.at_ u↔0<g x.at_ u\/u=v)
theorem O9 {w:World} {b:Nat} {x:HS} {N:Int} (h:cN w b x) (U:o_ x N) (v:Int) (hv:1<=v/\v<=N):Calls prog ig.id #[ptr b,.i v] w λe w'=>
 e=.returned (.i 0)/\∃z,cN w' b z/\o_ z N/\Uw N v x z/\aD (x.cq b) w w'/\∀k,z.cq b k->x.cq b k\/w.heap.size<=k:=by
 refine ig.aj ?_;have hN:=U.ok.FQ;have bf:=U.ok.na;have bv:=U.ok.ns;have cm:=U.ok.nl;have az:=U.n0;refine (xa h v).mono ?_;rintro e w1 ⟨rfl,g1⟩;have h:=h.grow g1;refine ⟨_,rfl,bA ?_ ?_⟩
 . simp;omega
 have v0:0<=v:=by omega
 refine ⟨_,rfl,_,_,_,ae h.me rfl,h.ha.ix 0 v0 rfl (by omega) λa e=>⟨_,e,?_⟩⟩;rw [oV v0];have bk:=U.ok.pos.bW v hv.1 hv.2;refine ah (λtt=>?_) (λtt=>?_)
 . have tt:g x.at_ v=0:=beq_iff_eq.1 tt;have no:∀j:Int,0<=j->j<x.l.length->g x.l j≠v:=by
    intro j j0 j1 e;have:=U.ok.pos.yh j j0 j1;rw [e] at this;omega
   have pp:=U.ok.pos.push (by omega) hv.1 hv.2 tt;have co:(x.l.length:Int)+1<=N:=by
    have:AR (λj=>if j=(x.l.length:Int) then v else g x.l j) (λu=>if u=v then (x.l.length:Int)+1 else g x.at_ u) ((x.l.length+1:Nat):Int) ((N.toNat:Nat):Int):=by
     rw [Wi az];exact pp
    have:=this.le;omega
   refine ⟨_,rfl,_,_,_,ae h.me rfl,?_⟩;intro n9 ax ap;have O:=h.grow ap.mod;have aT:ak w ax:=g1.trans ap.mod;refine O.hl.lP c9 v ap.has rfl rfl fz (by omega) λce p' c' o m hp cp=>?_;have S:∀k,aG p'=some k->aG x.pl=some k\/ax.heap.size<=k:=by
    intro k I;rcases hp with rfl|rfl
    . exact .inl I
    . right;simp [aG] at I;omega
   have X:=O.lt;have m1:=O.me.keep m O.bl;refine ⟨_,rfl,cz m1 rfl rfl λan bg ac=>?_⟩;have pb:aG p'≠some b:=λe=>by
    rcases S b e with e2|e2
    . exact O.bl e2
    . have:=X b (.inl rfl);omega
   generalize hy:({x with l:=x.l++ [v],pl:=p',cl:=c'}:HS)=y;have Q:cN an b y:=by
    rw [<- hy];refine ⟨?_,o.keep ac λk I e=>pb (e▸I),(O.ha.keep m λk I J=>O.la k J I).keep ac λk I e=>O.ba (e▸I),(O.hs.keep m λk I J=>O.ls k J I).keep ac λk I e=>O.bs (e▸I),pb,O.ba,O.bs,?_,?_,O.sa⟩
    . have e:(x.l++ [v]).length=x.l.length+1:=by simp
      show bT an b #[.slice p' (x.l++ [v]).length c',_,_,_];rw [e];exact bg
    . intro k I J;rcases S k I with e|e
      . exact O.la k e J
      . have:=X k (.inr (.inr (.inl J)));omega
    . intro k I J;rcases S k I with e|e
      . exact O.ls k e J
      . have:=X k (.inr (.inr (.inr J)));omega
   have bY:aD (x.cq b) w an:=(((aT.mono λ_ _ h=>h.elim).trans (m.mono λk _ I=> .inr (.inl I))).trans (ac.mono λk _ I=> .inl I))
   have yl:y.l=x.l++ [v]:=by rw [<- hy]
   have ay:y.l.length=x.l.length+1:=by rw [yl];simp
   have ya:y.at_=x.at_:=by rw [<- hy]
   have ys:y.score=x.score:=by rw [<- hy]
   have yt:y.step=x.step:=by rw [<- hy]
   have yf:∀k,y.cq b k->x.cq b k\/w.heap.size<=k:=by
    rw [<- hy];rintro k (e|e|e|e)
    . exact .inl (.inl e)
    . rcases S k e with e|e
      . exact .inl (.inr (.inl e))
      . right;have:=aT.size;omega
    . exact .inl (.inr (.inr (.inl e)))
    . exact .inl (.inr (.inr (.inr e)))
   have Q:=Q.drew;refine ⟨_,rfl,_,_,_,ae Q.me rfl,_,rfl,_,_,_,ae Q.me rfl,Q.ha.st ((y.l.length:Nat):Int) rfl rfl v0 rfl (by rw [ya];omega) λbn bi av=>?_⟩;have ag:=Q.NT (by simp) bi av;generalize Z:({y with at_:=y.at_.set v.toNat ((y.l.length:Nat):Int)}:HS)=z at ag;have zl:z.l=y.l:=by rw [<- Z]
   have zs:z.score=x.score:=by rw [<- Z];exact ys
   have zt:z.step=x.step:=by rw [<- Z];exact yt
   have Y:z.l.length=x.l.length+1:=by rw [zl,ay]
   have za:g z.at_=λu=>if u=v then (x.l.length:Int)+1 else g x.at_ u:=by
    rw [<- Z];show g (y.at_.set v.toNat ((y.l.length:Nat):Int))=_;rw [BR v0 (by rw [ya];omega),ya,ay];funext u;split<;>omega
   have zL:g z.l=λj:Int=>if j=x.l.length then v else g x.l j:=by rw [zl,yl,Qb]
   have aw:z.at_.length=x.at_.length:=by rw [<- Z];simp [ya]
   have zf:z.cq b=y.cq b:=by rw [<- Z];rfl
   have bu:aD (x.cq b) w bn:=bY.drew.then av λk I e=> (yf k (.inr (.inr (.inl e)))).resolve_right (by omega);have bb:uv z N:=by
    refine ⟨by rw [aw];exact bf,by rw [zs];exact bv,hN,?_,by rw [Y];omega⟩;rw [zL,za,Y];exact pp
   refine ⟨_,rfl,_,_,_,ae ag.me rfl,?_⟩;have ei:i64.wrap ((z.l.length:Int) - 1)=(x.l.length:Int):=by rw [Y,aA (by omega) (by omega)];omega
   try dsimp only
   rw [ei];refine (Ik ag bb (x.l.length:Int) (by omega) (by rw [Y];omega) ?_).mono ?_
   . rw [zs,zL,Y];constructor
     . intro j j1 j2 j3;have:=U.Su j j1 (by omega) (by omega) (by omega);simp only [j3,if_false,show ¬(j - 1) / 2=(x.l.length:Int) by omega];exact this
     . intro j j1 j2 j3 j4;omega
   . rintro e cg ⟨rfl,q,hq,bc,V,oq,mq⟩;refine ⟨rfl,rfl,q,hq,⟨bc,az,by rw [V.score];exact oq,λu u0 u1=>by rw [V.score,zs];exact U.sc u u0 u1,by rw [V.step,zt];exact U.st⟩,?_,?_,?_⟩
     . refine ⟨by rw [V.pa,<- Z,<- hy],by rw [V.ca,<- Z,<- hy],by rw [V.ps,<- Z,<- hy],by rw [V.cs,<- Z,<- hy],by rw [V.a,aw],by rw [V.score,zs],by rw [V.step,zt],λu u0 u1=>?_⟩;rw [V.has u u0 u1,za];by_cases e:u=v
       . simp [e]
       . simp [e]
     . exact bu.then mq λk I e=> (yf k (zf▸e)).resolve_right (by omega)
     . intro k I;rw [V.cq b,zf] at I;exact yf k I
 . have tt:g x.at_ v≠0:=beq_eq_false_iff_ne.1 tt;refine ⟨rfl,x,h,U,⟨rfl,rfl,rfl,rfl,rfl,rfl,rfl,λu u0 u1=>⟨.inl,?_⟩⟩,g1.mono λ_ _ h=>h.elim,λ_=> .inl⟩;rintro (h|rfl)
   . exact h
   . omega
structure Uy (N v:Int) (x y:HS):Prop where
 pa:y.pa=x.pa
 ca:y.ca=x.ca
 ps:y.ps=x.ps
 cs:y.cs=x.cs
 a:y.at_.length=x.at_.length
 score:y.score=x.score
 step:y.step=x.step
 has:∀u,1<=u->u<=N->(0<g y.at_ u↔0<g x.at_ u/\u≠v)
theorem QD {w:World} {b:Nat} {x:HS} (h:cN w b x) (J:x.l.length=0):Calls prog eO.id #[ptr b] w λe w'=>
 e=.returned (.tuple #[.i 0,.bool false])/\cN w' b x/\ak w w':=by
 refine eO.aj ?_;refine (HD h (by omega)).mono ?_;rintro e w1 ⟨rfl,I⟩;exact ⟨_,_,rfl,bP (by simp [J]) ⟨rfl,h.grow I,I⟩⟩
theorem Qt {l:List Int} {k:Nat} {j:Int} (h:j<k):g (l.take k) j=g l j:=by
 unfold g;simp only [y6];split
 . rfl
 . rw [Vf,if_pos (by omega)]
theorem AR.congr {L A L' A':Int->Int} {n N:Int} (h:AR L A n N) (J:∀j,0<=j->j<n->L' j=L j) (O:∀u,1<=u->u<=N->A' u=A u):AR L' A' n N:=by
 constructor
 . intro j Q I;have f:=h.yh j Q I;rw [J j Q I,O _ f.1 f.2.1];exact f
 . intro v v1 v2;have f:=h.bW v v1 v2;rw [O v v1 v2];exact ⟨f.1,f.2.1,λhp=>by rw [J _ (by omega) (by omega)];exact f.2.2 hp⟩
theorem R0 {w:World} {b:Nat} {x:HS} {N:Int} (h:cN w b x) (J:o_ x N) (h0:x.l.length≠0):Calls prog eO.id #[ptr b] w λe w'=>
 e=.returned (.tuple #[.i (g x.l 0),.bool true])/\∃z,cN w' b z/\o_ z N/\Uy N (g x.l 0) x z/\z.l.length+1=x.l.length/\aD (x.cq b) w w'/\z.cq b=x.cq b:=by
 refine eO.aj ?_;have hN:=J.ok.FQ;have ay:=J.ok.na;have a7:=J.ok.ns;have co:=J.ok.nl;have az:=J.n0;obtain ⟨n,hn⟩: ∃n,x.l.length=n+1:=⟨x.l.length - 1,by omega⟩
 refine (HD h (by omega)).mono ?_;rintro e w1 ⟨rfl,g1⟩;have h:=h.grow g1;refine ⟨_,_,rfl,?_⟩;rw [if_neg h0,decide_eq_true h0];have f0:=J.ok.pos.yh 0 (U3 _) (by omega);have fn:=J.ok.pos.yh n (by omega) (by omega);have en:i64.wrap ((x.l.length:Int) - 1)=(n:Int):=by rw [aA (by omega) (by omega)];omega
 refine bA rfl ⟨_,rfl,_,_,_,ae h.me rfl,?_⟩;try dsimp only
 rw [en];refine ⟨_,rfl,_,_,_,ae h.me rfl,h.hl.ix 0 (by omega) rfl (by omega) λa8 e8=>⟨_,e8,_,rfl,_,_,_,ae h.me rfl,?_⟩⟩;rw [oV (by omega)];have hc:n<=x.cl:=by
  rcases h.hl.un with ⟨_,_,e⟩| ⟨_,_,_,_,e,_⟩
  . simp [e] at h0
  . omega
 refine eh 0 n x.cl rfl rfl rfl (y4 _) hc (vx _) ?_;have ep:(if x.cl=0 then x.pl else x.pl.map (·.add (0*1)))=x.pl:=by
  split
  . rfl
  . cases x.pl<;>simp [Addr.add]
 rw [ep,Ve,Ve];refine ⟨_,rfl,cz h.me rfl rfl λar o m=>?_⟩;generalize X:({x with l:=x.l.take n}:HS)=y;have ap:cN ar b y:=by
  rw [<- X];have ht:=h.hl.take (k:=n) (by omega);refine ⟨?_,ht.keep m λk Y e=>h.bl (e▸Y),h.ha.keep m λk Y e=>h.ba (e▸Y),h.hs.keep m λk Y e=>h.bs (e▸Y),h.bl,h.ba,h.bs,h.la,h.ls,h.sa⟩;have e:(x.l.take n).length=n:=by simp;omega
  show bT ar b #[.slice x.pl (x.l.take n).length x.cl,_,_,_];rw [e];exact o
 have b7:aD (x.cq b) w ar:=(g1.mono λ_ _ h=>h.elim).trans (m.mono λk _ Y=> .inl Y);have yl:y.l=x.l.take n:=by rw [<- X]
 have bv:y.l.length=n:=by rw [yl];simp;omega
 have ya:y.at_=x.at_:=by rw [<- X]
 have yf:y.cq b=x.cq b:=by rw [<- X];rfl
 refine ⟨_,rfl,_,_,_,ae ap.me rfl,ap.ha.st 0 rfl rfl (by omega) rfl (by rw [ya];omega) λbk b5 bb=>?_⟩;have ux:=ap.NT (by simp) b5 bb;generalize V:({y with at_:=y.at_.set (g x.l 0).toNat 0}:HS)=z at ux;have zl:z.l=y.l:=by rw [<- V]
 have I:z.l.length=n:=by rw [zl,bv]
 have zs:z.score=x.score:=by rw [<- V,<- X]
 have zt:z.step=x.step:=by rw [<- V,<- X]
 have zf:z.cq b=x.cq b:=by rw [<- yf,<- V];rfl
 have O:z.at_.length=x.at_.length:=by rw [<- V];simp [ya]
 have za:g z.at_=λu=>if u=g x.l 0 then 0 else g x.at_ u:=by
  rw [<- V];show g (y.at_.set (g x.l 0).toNat 0)=_;rw [BR (by omega) (by rw [ya];omega),ya]
 have a6:aD (x.cq b) w bk:=b7.trans (bb.mono λk _ Y=>by rw [<- yf];exact .inr (.inr (.inl Y)));have pp:=AR.T8 (n:=(n:Int)) (by have:=J.ok.pos;rw [hn] at this;exact this) (by omega) rfl;have aT:z.pa=x.pa:=by rw [<- V,<- X]
 have a':z.ca=x.ca:=by rw [<- V,<- X]
 have aw:z.ps=x.ps:=by rw [<- V,<- X]
 have ax:z.cs=x.cs:=by rw [<- V,<- X]
 refine ah (λt=>?_) (λt=>?_)<;>simp only [decide_eq_true_eq,decide_eq_false_iff_not] at t
 . have n0:(n:Int)≠0:=by omega
   refine (rP ux 0 (g x.l n) (U3 _) (by rw [I];omega) (by omega) (by rw [O];omega) (by rw [I];omega)).mono ?_;rintro e cg ⟨rfl,b3,b6⟩;have av:g (z.put 0 (g x.l n)).l=λj=>if j=0 then g x.l n else g z.l j:=oC (U3 _) (by rw [I];omega)
   have aa:g (z.put 0 (g x.l n)).at_=λu=>if u=g x.l n then 0+1 else g z.at_ u:=Ea (by omega) (by rw [O];omega)
   have Q:∀j:Int,0<=j->j<n->g (z.put 0 (g x.l n)).l j=if j=0 then g x.l n else g x.l j:=by
    intro j j0 j1;rw [av];show (if j=0 then g x.l n else g z.l j)=_;split
    . rfl
    . rw [zl,yl,Qt (by omega)]
   have bc:uv (z.put 0 (g x.l n)) N:=by
    refine ⟨by simpa [HS.put,O] using ay,by show (z.score.length:Int)=_;rw [zs];exact a7,hN,?_,by simp [HS.put,I];omega⟩;have e1:((z.put 0 (g x.l n)).l.length:Int)=n:=by simp [HS.put,I]
    rw [e1];refine AR.congr pp Q λu u0 u1=>?_;rw [aa,za];simp only [if_neg n0];rfl
   refine ⟨rfl,?_⟩;have e1:(z.put 0 (g x.l n)).l.length=n:=by simp [HS.put,I]
   refine (Cb b3 bc 0 (U3 _) (by rw [e1];omega) 0 (U3 _) ⟨?_,λj j1 j2 j3 j4=>by omega⟩).mono ?_
   . rw [e1];show Ord (g z.score) _ _ _ _;rw [zs];intro j j1 j2 j3 j4;rw [Q j (by omega) j2,Q ((j - 1) / 2) (by omega) (by omega),if_neg (by omega),if_neg j4];exact J.Su j j1 (by omega) (by omega) (by omega)
   . rintro e c0 ⟨rfl,q,hq,bx,U,oq,mq⟩;have qs:q.score=x.score:=U.score.trans zs;have pf:(z.put 0 (g x.l n)).cq b=x.cq b:=zf;refine ⟨rfl,rfl,q,hq,⟨bx,az,?_,λu u0 u1=>by rw [qs];exact J.sc u u0 u1,by rw [show q.step=x.step from U.step.trans zt];exact J.st⟩,?_,?_,?_,?_⟩
     . rw [qs,<- zs];exact oq
     . refine ⟨U.pa.trans aT,U.ca.trans a',U.ps.trans aw,U.cs.trans ax,U.a.trans (by simp [HS.put,O]),qs,U.step.trans zt,λu u0 u1=>?_⟩;rw [U.has u u0 u1,aa,za];have Z:g x.l n≠g x.l 0:=λe=>by have:=J.ok.pos.inj (by omega) (by omega) (U3 0) (by omega) e;omega
       by_cases e1:u=g x.l n
       . subst e1;simp [Z];omega
       . by_cases e2:u=g x.l 0
         . simp [e2,Vc Z]
         . simp [e1,e2]
     . have:=U.l;omega
     . exact (a6.trans (zf▸b6)).trans (pf▸mq)
     . rw [U.cq b,pf]
 . have n0:n=0:=by omega
   subst n0;refine ⟨rfl,z,ux,⟨⟨by rw [O];exact ay,by rw [zs];exact a7,hN,?_,by rw [I];omega⟩,az,?_,λu u0 u1=>by rw [zs];exact J.sc u u0 u1,by rw [zt];exact J.st⟩,⟨aT,a',aw,ax,O,zs,zt,λu u0 u1=>?_⟩,by rw [I,hn],a6,zf⟩
   . rw [I];refine AR.congr pp (λj j0 j1=>by omega) λu u0 u1=>?_;rw [za];show (if u=g x.l 0 then 0 else g x.at_ u)=if u=g x.l ((0:Nat):Int) then (if ((0:Nat):Int)=0 then 0 else 1) else if u=g x.l 0 then 0 else g x.at_ u
     split
     . subst_vars;simp
     . rename_i Z;rw [if_neg (by simpa using Z)]
   . rw [I];intro j j1 j2;omega
   . rw [za];by_cases e:u=g x.l 0
     . simp [e]
     . simp [e]
end
section
theorem jx:(Tryz.prog.info? aq).bind (·.zero)=some (.i 0):=by kernel_rfl
theorem Ev (n:Nat) (v:Int):g (List.replicate n 0) v=0:=by
 unfold g;split
 . rfl
 . simp only [y6,List.getElem?_replicate];split<;>rfl
structure zB (x:HS) (n t:Nat):Prop where
 l:x.l.length=t
 lj:∀j:Int,0<=j->j<t->g x.l j=j+1
 a:x.at_.length=n+1
 au:∀u:Int,0<=u->u<=n->g x.at_ u=if u<=t then u else 0
 s:x.score=List.replicate (n+1) 0
 st:x.step=64
theorem zB.T6 {x:HS} {n:Nat} (h:zB x n n) (hn:n<=1048576):o_ x n:=by
 have hl:=h.l;refine ⟨⟨by rw [h.a];omega,by rw [h.s];simp,by omega,⟨λj I J=>?_,λv v1 v2=>?_⟩,by rw [hl];omega⟩,by omega,λj J O U Q=>?_,λv _ _=>?_,by rw [h.st];decide⟩
 . have:=h.lj j I (by omega);rw [this,h.au _ (by omega) (by omega)];refine ⟨by omega,by omega,?_⟩;rw [if_pos (by omega)]
 . rw [h.au v (by omega) v2,if_pos v2];refine ⟨by omega,by omega,λ_=>?_⟩;rw [h.lj _ (by omega) (by omega)];omega
 . rw [h.lj j (by omega) (by omega),h.lj _ (by omega) (by omega),h.s];unfold Bt;rw [Ev,Ev];omega
 . rw [h.s,Ev];decide
theorem z_ {w:World} (n:Nat) (hn:n<=1048576):Calls prog rT.id #[.i n] w λe w'=>∃b x,e=.returned (.tuple #[ptr b,.i 0])/\cN w' b x/\zB x n n/\(∀k,x.cq b k->w.heap.size<=k)/\ak w w':=by
 refine rT.aj ?_;refine bA (decide_eq_false (by omega)) (bA (decide_eq_false (by omega)) ?_);have e1:i64.wrap ((n:Int)+1)=((n+1:Nat):Int):=by rw [aA (by omega) (by omega)];omega
 rw [e1];have made:∀ (b:Nat) (x:HS) (w6:World),cN w6 b x->zB x n 0->(∀k,x.cq b k->w.heap.size<=k)->ak w w6->
  ∃I7:Int->World->Nat->Prop,(∃k8,I7 1 w6 k8)/\
   ∀ (J:Int) (Q:World) (k8:Nat) (_:Fr),I7 J Q k8->
   aF (decide (J<=(n:Int)))
    (∃bf,(some (qw b))=some bf/\∃Z aa ag,Q.cell? (bf.add 0)=some (.slice Z aa ag)/\
      ∀n14 bk,jI (.cells #[.i J] aq) Q n14 bk->
      ∃bg ar an ac,(Builtin.append_ #[aE,aE] aE #[.slice Z aa ag,.slice (some (qw n14)) 1 1]).run prog bk=.ok (.slice ar an ac) bg/\
      ∃bi,(some (qw b))=some bi/\∃aw,bB (bi.add 0) 0 [.slice ar an ac] bg aw/\
      ∃bu,(some (qw b))=some bu/\∃av ap a7,aw.cell? (bu.add 1)=some (.slice av ap a7)/\
      aW av ap J 1 λa22=>
      ∃a8,bB a22 0 [.i J] aw a8/\
      ∃k9,k9<k8/\I7 (i64.wrap (J+ (1:Int))) a8 k9)
    (∃b' x,Ending.returned (.tuple #[.pointer (some (qw b)),.i 0])=.returned (.tuple #[ptr b',.i 0])/\cN Q b' x/\zB x n n/\(∀k,x.cq b' k->w.heap.size<=k)/\ak w Q):=by
  intro b x w6 h f hf G;refine ⟨λv w' k=>∃ (t:Nat) (y:HS),v=t+1/\t<=n/\cN w' b y/\zB y n t/\(∀k,y.cq b k->w.heap.size<=k)/\ak w w'/\k+t=n,⟨n,0,x,by omega,by omega,h,f,hf,G,by omega⟩,?_⟩;clear h f hf G;rintro v Q k _ ⟨t,x,rfl,ht,h,f,hf,G,I⟩;refine ah (λtt=>?_) (λtt=>?_)<;>simp only [decide_eq_true_eq,decide_eq_false_iff_not] at tt
  . refine ⟨_,rfl,_,_,_,ae h.me rfl,?_⟩;intro n9 bb aT;have U:=h.grow aT.mod;have bn:ak w bb:=G.trans aT.mod;have hl:=f.l;refine U.hl.lP c9 ((t:Int)+1) aT.has rfl rfl fz (by omega) λQ p' c' o m hp c1=>?_;have X:=U.lt;have S:∀k,aG p'=some k->aG x.pl=some k\/bb.heap.size<=k:=by
     intro k I;rcases hp with rfl|rfl
     . exact .inl I
     . right;simp [aG] at I;omega
    have S2:∀k,aG p'=some k->w.heap.size<=k:=λk I=> (S k I).elim (λe=>hf k (.inr (.inl e))) (λe=>UY bn.size e);have m1:=U.me.keep m U.bl;refine ⟨_,rfl,cz m1 rfl rfl λaz bY Y=>?_⟩;have pb:aG p'≠some b:=λe=>by
     rcases S b e with e2|e2
     . exact U.bl e2
     . have:=X b (.inl rfl);omega
    have ay:cN az b {x with l:=x.l++ [(t:Int)+1],pl:=p',cl:=c'}:=by
     refine ⟨?_,o.keep Y λk I e=>pb (e▸I),(U.ha.keep m λk I O=>U.la k O I).keep Y λk I e=>U.ba (e▸I),(U.hs.keep m λk I O=>U.ls k O I).keep Y λk I e=>U.bs (e▸I),pb,U.ba,U.bs,?_,?_,U.sa⟩
     . have e:(x.l++ [(t:Int)+1]).length=x.l.length+1:=by simp
       show bT az b #[.slice p' (x.l++ [(t:Int)+1]).length c',_,_,_];rw [e];exact bY
     . intro k I O;rcases S k I with e|e
       . exact U.la k e O
       . have:=X k (.inr (.inr (.inl O)));omega
     . intro k I O;rcases S k I with e|e
       . exact U.ls k e O
       . have:=X k (.inr (.inr (.inr O)));omega
    have b4:ak w Q:=bn.then m λk I e=>by have:=hf k (.inr (.inl e));omega
    have b6:ak w az:=b4.then Y λk I e=>by have:=hf b (.inl rfl);omega
    refine ⟨_,rfl,_,_,_,ae ay.me rfl,ay.ha.st ((t:Int)+1) rfl rfl (by omega) rfl (by have:=f.a;show (t:Int)+1< (x.at_.length:Int);omega) λc2 b7 a6=>?_⟩;have b3:=ay.NT (by simp) b7 a6;refine ⟨k - 1,by omega,t+1,_,?_,by omega,b3,?_,?_,?_,by omega⟩
    . rw [aA (by omega) (by omega)];omega
    . refine ⟨by simp [hl],λj j0 j1=>?_,by simpa using f.a,λu u0 u1=>?_,f.s,f.st⟩
      . show g (x.l++ [(t:Int)+1]) j=j+1;rw [Qb];show (if j=(x.l.length:Int) then (t:Int)+1 else g x.l j)=j+1;split
        . omega
        . exact f.lj j j0 (by omega)
      . show g (x.at_.set ((t:Int)+1).toNat ((t:Int)+1)) u=_;rw [BR (by omega) (by have:=f.a;omega)];show (if u=(t:Int)+1 then (t:Int)+1 else g x.at_ u)=_;rw [f.au u u0 u1];split
        . rw [if_pos (by omega)];omega
        . split
          . rw [if_pos (by omega)]
          . rw [if_neg (by omega)]
    . rintro k (e|e|e|e)
      . exact hf k (.inl e)
      . exact S2 k e
      . exact hf k (.inr (.inr (.inl e)))
      . exact hf k (.inr (.inr (.inr e)))
    . exact b6.then a6 λk I e=>by have:=hf k (.inr (.inr (.inl e)));omega
  . have:t=n:=by omega
    subst this;exact ⟨b,x,rfl,h,f,hf,G⟩
 have G0:ak w w.drew:=(aD.refl w).drew;have s0:w.drew.heap.size=w.heap.size:=rfl;refine ⟨?_,?_⟩<;>refine rZ c9 jx (f:=Value.int .i64) (x:=0) rfl (n+1) rfl (by omega) λw1 o1 g1 z1=>rZ c9 jx (f:=Value.int .i64) (x:=0) rfl (n+1) rfl (by omega) λw3 o3 g3 z3=>?_<;>intro n5 w6 V<;>have bc:=(o1.grow g3).grow V.mod<;>have a':=o3.grow V.mod<;>have cm:=V.num
 . refine made n5 ⟨none,0,some ⟨w.heap.size,0,none⟩,n+1,some ⟨w1.heap.size,0,none⟩,n+1,[],List.replicate (n+1) 0,List.replicate (n+1) 0,64⟩ w6 ⟨?_,Ow.nil _ _ _,bc,a',?_,?_,?_,?_,?_,?_⟩ ⟨rfl,λj j0 j1=>by omega,by simp,λu u0 u1=>?_,rfl,rfl⟩ ?_ (((G0.trans g1).trans g3).trans V.mod)
   . have:=V.has;simpa using this
   . simp [aG]
   . simp [aG];omega
   . simp [aG];omega
   . simp [aG]
   . simp [aG]
   . simp [aG];omega
   . rw [Ev];split<;>omega
   . rintro k (e|e|e|e)<;> (try simp [aG] at e)<;>omega
 . refine made n5 ⟨none,0,some ⟨w1.heap.size,0,none⟩,n+1,some ⟨w.heap.size,0,none⟩,n+1,[],List.replicate (n+1) 0,List.replicate (n+1) 0,64⟩ w6 ⟨?_,Ow.nil _ _ _,a',bc,?_,?_,?_,?_,?_,?_⟩ ⟨rfl,λj j0 j1=>by omega,by simp,λu u0 u1=>?_,rfl,rfl⟩ ?_ (((G0.trans g1).trans g3).trans V.mod)
   . have:=V.has;simpa using this
   . simp [aG]
   . simp [aG];omega
   . simp [aG];omega
   . simp [aG]
   . simp [aG]
   . simp [aG];omega
   . rw [Ev];split<;>omega
   . rintro k (e|e|e|e)<;> (try simp [aG] at e)<;>omega
end
end Go.Proofs.YtbdghpjnifjlmaaGreat.W.Hp
