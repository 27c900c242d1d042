/- Slices that one has made: rows of one-cell elements. -/
import Derived.Test.YtbdghpjnifjlmaaGreatFwMem
import Derived.Laws.AppendOwn
import Derived.Laws.OwnMore
import Derived.Test.YtbdghpjnifjlmaaGreatGenCert
set_option linter.all false
namespace Go.Fw
open Go Go.RowKit
variable{P:Program}{α:Type}{f:α->Value}{T:TypeId}{w w':World}{p:sn}{c:Nat}{l:List α}
def Ow(f:α->Value)(T:TypeId)(w:World)(p:sn)(c:Nat)(l:List α):Prop:=w.ownsRow 0 T 1 (.slice p l.length c) l.length (l.map f)
abbrev d_:=Ow sT
abbrev BA:=Ow Value.bool
def aF(p:sn):Option Nat:=p.map (·.block)
theorem Ow.nil(f:α->Value)(T:TypeId)(w:World):Ow f T w none 0 []:=World.ownsRow_nil w 0 T 1
theorem Ow.cap(h:Ow f T w p c l):l.length<=maxLen:=by
 rcases h.2 with⟨_,h⟩| ⟨g,cap,cur,h,_,_,h1,I,_⟩
 .rw [h];exact xc _
 .omega
theorem Ow.un(h:Ow f T w p c l):(p=none/\c=0/\l= [])\/∃g cur,p=some ⟨g,0,none⟩/\w.heap[g]? =some (.cells cur T (0,0))/\l.length<=c/\c<=maxLen/\cur.size=c/\cur.toList.take l.length=l.map f:=by
 rcases h.2 with⟨h1,I⟩| ⟨g,cap,cur,h1,_,I,Q,O,h5,J⟩
 .simp only[Value.slice.injEq]at h1;exact .inl ⟨h1.1,h1.2.2,Wa I⟩
 .simp only[Value.slice.injEq]at h1;obtain⟨rfl,_,rfl⟩:=h1;exact .inr ⟨g,cur,rfl,I,Q,O,by simpa using h5,by simpa using J⟩
theorem Ow.da{g:Nat}{cur:Array Value}(Q:w.heap[g]? =some (.cells cur T (0,0)))(h1:l.length<=c)(J:c<=maxLen)(O:cur.size=c)(I:cur.toList.take l.length=l.map f):Ow f T w (some ⟨g,0,none⟩) c l:=
 ⟨by simp,.inr ⟨g,c,cur,rfl,xc _,Q,h1,J,by simpa using O,by simpa using I⟩⟩
theorem Ow.lt(h:Ow f T w p c l):∀b,aF p=some b->b<w.heap.size:=by
 intro b hb;rcases h.un with⟨rfl,_⟩| ⟨g,cur,rfl,J,_⟩
 .simp [aF]at hb
 .simp [aF]at hb;subst hb;rcases Wp g w.heap.size with I|I
  .exact I
  .simp [Wm I]at J
theorem Ow.keep{S:Nat->Prop}(h:Ow f T w p c l)(m:aE S w w')(hs:∀b,aF p=some b->¬S b):Ow f T w' p c l:=by
 have hl:=h.lt;rcases h.un with⟨rfl,rfl,rfl⟩| ⟨g,cur,rfl,Q,h1,I,O,J⟩
 .exact Ow.nil f T w'
 .exact Ow.da ((m.block g (hl g rfl) (hs g rfl)).trans Q) h1 I O J
theorem Ow.grow(h:Ow f T w p c l)(m:ak w w'):Ow f T w' p c l:=h.keep m λ_ _=>id
theorem Ow.drew(h:Ow f T w p c l):Ow f T w.drew p c l:=h
theorem Ow.cell(h:Ow f T w p c l){j:Nat}(I:j<l.length):∃g,p=some ⟨g,0,none⟩/\w.cell? ⟨g,j,none⟩=some (f l[j]):=by
 rcases h.un with⟨_,_,rfl⟩| ⟨g,cur,rfl,O,h1,Q,U,J⟩
 .simp at I
 .refine ⟨g,rfl,aP ⟨T,O⟩ ?_⟩;have:(cur.toList.take l.length)[j]? =some (f l[j]):=by rw[J];simp[I]
  rw[WE,v8 I]at this;simpa using this
theorem Ow.ix(h:Ow f T w p c l){i:Int}{n:Nat}(d:α)(J:0<=i)(hn:n=l.length)(h1:i<n){K:Addr->Prop}(I:∀a,w.cell? a=some (f (l.getD i.toNat d))->K a):aV p n i 1 K:=by
 subst hn;obtain⟨g,rfl,O⟩:=h.cell (j:=i.toNat) (by omega);refine⟨_,rfl,J,h1,I _ ?_⟩;rw[XZ,cA,Wr,O];simp[List.getD,show i.toNat<l.length by omega]
theorem map_set(f:α->Value):∀ (l:List α) (j:Nat) (x:α),(l.set j x).map f=(l.map f).set j (f x)
 | [],_,_=>rfl
 |_::_,0,_=>rfl
 |y::l,j+1,x=>by simp[map_set f l j x]
theorem Ow.st(h:Ow f T w p c l){i:Int}{n:Nat}{v:Value}(x:α)(hv:v=f x)(Y:jA v=true)(U:0<=i)(hn:n=l.length)(h1:i<n){K:World->Prop}
 (J:∀w',Ow f T w' p c (l.set i.toNat x)->aE (λb=>aF p=some b) w w'->K w'):aV p n i 1 λa=>∃w',bD a 0 [v] w w'/\K w':=by
 subst hn hv;rcases h.un with⟨_,_,rfl⟩| ⟨g,cur,rfl,I,Q,X,V,h5⟩
 .simp at h1;omega
 .refine ⟨_,rfl,U,h1,?_⟩;rw[XZ,cA,Wr];have O:i.toNat<cur.size:=by omega
  refine⟨w.setCell ⟨g,i.toNat,none⟩ (f x),⟨⟨cur[i.toNat],ae ⟨T,I⟩ (by simp[O])⟩,by rw[cA];exact tN ⟨T,I⟩,Y,by rw[cA];rfl⟩,J _ ?_ ?_⟩
  .refine Ow.da (cur:=cur.setIfInBounds i.toNat (f x)) (By I _ O) (by simpa using Q) X (by simpa using V) ?_;rw[map_set,<- h5,XO,Xv,ZG]
  .exact ⟨rfl,rfl,rfl,by simp,λk _ J=>Below.heap_setCell w _ _ k λe=>J (by simp[aF,e])⟩
def mg(P:Program)(t e:TypeId)(bytes:Nat):Bool:=
 (match P.underlying t with|some (.slice I)=>Nat.beq I e|_=>false) && (match P.info? e with|some i=>Nat.beq i.size 1 && Nat.beq i.bytes bytes && (match i.zero with|some z=>Nat.beq z.cells.size 1|none=>false)|none=>false)
theorem nV{t e bytes:Nat}(h:mg P t e bytes=true):P.underlying t=some (.slice e)/\∃i z,P.info? e=some i/\i.zero=some z/\i.size=1/\i.bytes=bytes/\z.cells.size=1:=by
 simp only[mg,ts]at h;obtain⟨h1,I⟩:=h;split at h1
 .rename_i J he;have:J=e:=V_ h1;subst this;split at I
  .rename_i i hi;simp only[ts]at I;obtain⟨⟨Q,O⟩,h5⟩:=I;split at h5
   .rename_i z U;exact⟨he,i,z,hi,U,V_ Q,V_ O,V_ h5⟩
   .simp at h5
  .simp at I
 .simp at h1
theorem Ow.cells(h:Ow f T w p c l){g:Nat}(hp:p=some ⟨g,0,none⟩):∀j u,(l.map f)[j]? =some u->w.cell? ((⟨g,0,none⟩:Addr).add j)=some u:=by
 intro j u I;subst hp;have hl:j<l.length:=by have:=(Ws.1 I).1;simpa using this
 obtain⟨Q,J,O⟩:=h.cell hl;simp only[Wu,Addr.mk.injEq,and_true]at J;subst J;rw[cA,Wr,O];simpa[hl]using I
theorem Ow.nu{t ty e bytes:Nat}(hs:mg P t e bytes=true)(h:Ow f e w p c l){a:Addr}{m k n:Nat}(hn:n=l.length)(news:List α)(hm:news.length=m)(X:0<m)(hc:∀j (hj:j<news.length),w.cell? (a.add j)=some (f news[j]))(ho:∀x,(f x).oneCell'=true)
 (hlen:(l.length+m)* (bytes+1)<=140737488355328) {K:World->sn->Nat->Nat->Prop}
 (J:∀w' Q c',Ow f e w' Q c' (l++news)->aE (λb=>aF p=some b) w w'->(Q=p\/Q=some ⟨w.heap.size,0,none⟩)->w.heap.size<=w'.heap.size->K w' Q (l++news).length c'):
 ∃w',∃Q n' c',(Builtin.append_ #[t,t] ty #[.slice p n c,.slice (some a) m k]).run P w=.ok (.slice Q n' c') w'/\K w' Q n' c':=by
 obtain⟨ht,i,z,hi,hz,h1,h2,h3⟩:=nV hs;subst hn hm;have hb:(l.length+news.length)*bytes<=140737488355328:=Wl (X8 _ (Nat.le_succ _)) hlen;have Z:l.length+news.length<=140737488355328:=Wl (YW _ (Nat.succ_pos _)) hlen;have I:(l++news).length=l.length+news.length:=by simp
 have U:(news.map f).length=news.length*i.size:=by simp[h1]
 have O:∀j u,(news.map f)[j]? =some u->w.cell? (a.add j)=some u:=by
  intro j u hj;have Y:j<news.length:=by have:=(Ws.1 hj).1;simpa using this
  rw[hc j Y];simpa[Y]using hj
 have cE:∀vU,vU<l.length+news.length->Ow f e (w.drew.alloc (.cells ((l.map f).toArray++ (news.map f).toArray++Builtin.zeroCells z.cells (grownCap w (l.length+news.length) vU e - (l.length+news.length))) e))
  (some ⟨w.heap.size,0,none⟩) (grownCap w (l.length+news.length) vU e) (l++news):=by
  intro vU _;have av:=grownCap_ge w (l.length+news.length) vU e;have aa:grownCap w (l.length+news.length) vU e<=maxLen:=grownCap_le_maxLen w _ vU e (by simp only[maxLen];omega);refine Ow.da (cur:=(l.map f).toArray++ (news.map f).toArray++Builtin.zeroCells z.cells (grownCap w (l.length+news.length) vU e - (l.length+news.length))) ?_ (by omega) aa ?_ ?_
  .exact YS
  .simp only[Array.size_append,XK,We,size_zeroCells,h3];omega
  .simp only[Array.toList_append,GD];rw[Wg (by simp),Wi (by simp)]
 have gr:∀ (o:Obj),aE (λb=>aF p=some b) w (w.drew.alloc o):=λo=>⟨rfl,rfl,rfl,by simp,λk J _=>Below.heap_alloc w.drew o k J⟩
 rcases h.un with⟨rfl,rfl,rfl⟩| ⟨g,cur,rfl,hg,g1,g2,g3,g4⟩
 .have hr:=run_append_nil (P:=P) w t ty e i z ht hi hz a news.length k (news.map f) U O X (by simp at Z;omega) (by rw[h2];simp at hb;omega);have hf:=cE 0 (by simp;omega);simp only[Xi,Wr,Zw,WY]at hf hr I J ⊢;refine⟨_,_,_,_,hr,?_⟩;refine J _ _ _ (by simpa using hf) (gr _) (.inr rfl) (by simp)
 .by_cases V:l.length+news.length<=c
  .have hr:=run_append_room (P:=P) w t ty e i ht hi g l.length c cur hg a news.length k (news.map f) U O (λu hu=>by obtain⟨x,_,rfl⟩:=LV.1 hu;exact ho x) V (by simp[h1];omega);refine⟨_,_,_,_,hr,?_⟩;rw[<- I];refine J _ _ _ (Ow.da (setRow_heap w g cur _ e _ hg) (by omega) g2 ?_ ?_) ⟨rfl,rfl,rfl,by simp,λk _ J=>setRow_other w g k _ λhe=>J (by simp[aF,he])⟩ (.inl rfl) (by simp)
   .simp [h1];omega
   .simp only[h1,XZ];rw[I,GD,Wg (by simp;omega),Wi (by simp;omega),g4]
  .have hr:=run_append_grow (P:=P) w t ty e i z ht hi hz ⟨g,0,none⟩ l.length c (l.map f) (by simp[h1]) (h.cells rfl) a news.length k (news.map f) U O (by omega) (by omega) (growslice_fits (by omega) (by rw[h2];exact hb));refine⟨_,_,_,_,hr,?_⟩;rw[<- I];exact J _ _ _ (by rw[I];exact cE c (by omega)) (gr _) (.inr rfl) (by simp)
theorem Ow.Sn{t ty e bytes:Nat}(hs:mg P t e bytes=true)(h:Ow f e w p c l){q:sn}{k n:Nat}(hn:n=l.length):
 (Builtin.append_ #[t,t] ty #[.slice p n c,.slice q 0 k]).run P w=.ok (.slice p n c) w:=by
 obtain⟨ht,i,z,hi,Y,h1,I,Q⟩:=nV hs;subst hn;rcases h.un with⟨rfl,rfl,rfl⟩| ⟨g,cur,rfl,V,O,X,J,U⟩<;>cases q<;>
  simp[Builtin.append_,run_underlying ht,sizeOf,typeInfo,Builtin.lenOf,Builtin.firstCells,loadCells,loadCellsFrom,storeCells, *]
theorem Ow.Um{t ty e bytes:Nat}(hs:mg P t e bytes=true)(h:Ow f e w p c l){q:sn}{V:Nat}{news:List α}(Q:Ow f e w q V news){n m:Nat}(hn:n=l.length)(hm:m=news.length)(ho:∀x,(f x).oneCell'=true)
 (hlen:(l.length+news.length)* (bytes+1)<=140737488355328) {K:World->sn->Nat->Nat->Prop}
 (U:∀w' I c',Ow f e w' I c' (l++news)->aE (λb=>aF p=some b) w w'->(I=p\/I=some ⟨w.heap.size,0,none⟩)->w.heap.size<=w'.heap.size->K w' I (l++news).length c'):
 ∃w',∃I n' c',(Builtin.append_ #[t,t] ty #[.slice p n c,.slice q m V]).run P w=.ok (.slice I n' c') w'/\K w' I n' c':=by
 subst hm;rcases Wt news.length with O|O
 .have:news= []:=Wa O;subst this;refine⟨w,p,n,c,h.Sn hs hn,?_⟩;have:=U w p c (by simpa using h) (aE.refl w) (.inl rfl) (vy _);simpa[hn]using this
 .obtain ⟨g,Z,_⟩:=Q.cell O;subst Z;refine Ow.nu hs h hn news rfl O (λj Y=>?_) ho hlen U;obtain⟨g',J,X⟩:=Q.cell Y;simp only[Wu,Addr.mk.injEq,and_true]at J;subst J;rw[cA,Wr];exact X
theorem jz.RQ{e:TypeId}{n:Nat}(h:jz (.cells #[] e) w n w'):Ow f e w' (some ⟨n,0,none⟩) 0 []:=
 Ow.da h.at (vy _) (xc _) rfl rfl
theorem Ow.jS{t ty e bytes:Nat}(hs:mg P t e bytes=true)(h:Ow f e w p c l){b n:Nat}(x:α){v:Value}(hb:bO w b #[v])(hv:v=f x)(hn:n=l.length)(X:∀x,(f x).oneCell'=true)
 (hlen:(l.length+1)* (bytes+1)<=140737488355328) {K:World->sn->Nat->Nat->Prop}
 (Q:∀w' I c',Ow f e w' I c' (l++ [x])->aE (λb=>aF p=some b) w w'->(I=p\/I=some ⟨w.heap.size,0,none⟩)->w.heap.size<=w'.heap.size->K w' I (l.length+1) c'):
 ∃w',∃I n' c',(Builtin.append_ #[t,t] ty #[.slice p n c,.slice (some ⟨b,0,none⟩) 1 1]).run P w=.ok (.slice I n' c') w'/\K w' I n' c':=by
 subst hv;refine Ow.nu (m:=1) hs h hn [x] rfl (by omega) (λj O=>?_) X hlen λw' I c' h1 J V U=>?_
 .have:j=0:=by simpa using O
  subst this;exact ae hb rfl
 .have:=Q w' I c' h1 J V U;simpa using this
theorem ra{t e bytes:Nat}(hs:mg P t e bytes=true){x:α}{v:Value}(O:(P.info? e).bind (·.zero)=some v)(hv:v.cells= #[f x]){n:Int}(m:Nat)(hn:n=m)(hlen:m* (bytes+1)<=281474976710656){K:World->sn->Nat->Nat->Prop}
 (I:∀w',Ow f e w' (some ⟨w.heap.size,0,none⟩) m (List.replicate m x)->ak w w'->w'.heap.size=w.heap.size+1->K w' (some ⟨w.heap.size,0,none⟩) m m):
 ∃w',∃J n' c',(Instr.makeSlice t (.i n) (.i n)).run P w=.ok (.slice J n' c') w'/\K w' J n' c':=by
 obtain⟨ht,i,z,hi,U,h1,Q,X⟩:=nV hs;subst hn;simp only[hi,XD]at O;have hm:m<=281474976710656:=Wl (YW _ (Nat.succ_pos _)) hlen;have V:m*bytes<=281474976710656:=Wl (X8 _ (Nat.le_succ _)) hlen;have hr:=run_make (P:=P) w t e i v ht hi O .i64 .i64 m m (by omega) (Ww _) (by rw[Q,<- Zd,YN];omega) (by omega);simp only[tn,h1,XZ,hv]at hr;refine⟨_,_,_,_,hr,I _ ?_ ⟨rfl,rfl,rfl,by simp,λk I _=>Below.heap_alloc w _ k I⟩ (by simp)⟩;refine Ow.da (cur:=madeCells #[f x] m) ?_ (by simp) (by simp only[maxLen];omega) (size_madeCells _ _) ?_
 .exact YS
 .rw [toList_madeCells_one];simp
theorem Ow.take(h:Ow f T w p c l){k:Nat}(I:k<=l.length):Ow f T w p c (l.take k):=by
 rcases h.un with⟨rfl,rfl,rfl⟩| ⟨g,cur,rfl,Q,V,U,J,O⟩
 .simpa using Ow.nil f T w
 .refine Ow.da Q (by simp;omega) U J ?_;rw[y6,WK I,YC,<- O,X0,WK I]
def rL(h:α->α)(t:Nat)(l:List α):List α:=(l.take t).map h++l.drop t
theorem HP(h:α->α)(l:List α):rL h 0 l=l:=by simp[rL]
theorem KU(h:α->α)(l:List α):rL h l.length l=l.map h:=by simp[rL]
theorem Dn(h:α->α)(t:Nat)(l:List α):(rL h t l).length=l.length:=by simp[rL];omega
theorem J1(h:α->α){t:Nat}{l:List α}(d:α)(ht:t<l.length):(rL h t l).getD t d=l.getD t d:=by
 simp only[rL,vx];rw[Xd (by simp;omega)];simp[WK (Zx ht)]
theorem K9(h:α->α){t:Nat}{l:List α}(d:α)(ht:t<l.length):(rL h t l).set t (h (l.getD t d))=rL h (t+1) l:=by
 apply Xr;intro j;simp only[rL,Xe,I',We,y6,WD,vx];by_cases e:t=j
 .subst e;rw[v8 rfl,v8 (by omega),Wd (by simp;omega)];simp[ht]
 .rw [r8 e];by_cases h1:j<t
  .rw [Wd (by simp;omega),Wd (by simp;omega)];simp[h1,show j<t+1 by omega]
  .rw [Xd (by simp;omega),Xd (by simp;omega)];simp only[We,y6,Xp];congr 1;omega
theorem eI(x:Int):(Value.int .i64 x).oneCell'=true:=rfl
theorem Em(x:Bool):(Value.bool x).oneCell'=true:=rfl
end Go.Fw
namespace Go.HeapP
def g(l:List Int)(i:Int):Int:=if i<0 then 0 else l.getD i.toNat 0
theorem pj{l:List Int}{i:Int}(h:0<=i):l.getD i.toNat 0=g l i:=by unfold g;rw[r8 (by omega)]
theorem Dh{l:List Int}{i v:Int}(J:0<=i)(h1:i<l.length):g (l.set i.toNat v)=λj=>if j=i then v else g l j:=by
 funext j;unfold g;simp only[vx,Xe];by_cases I:j<0
 .simp [I];omega
 .by_cases h:j=i
  .subst h;simp[show j.toNat<l.length by omega,I]
  .rw [r8 I,r8 (by omega),r8 h,r8 I]
def Bt(S:Int->Int)(a c:Int):Prop:=S c<S a\/S a=S c/\a<c
theorem Bt.zS{S a c}(h:Bt S a c): ¬Bt S c a:=by unfold Bt at*;omega
theorem Bt.GO{S a b c}(h: ¬Bt S a b)(k: ¬Bt S b c): ¬Bt S a c:=by unfold Bt at*;omega
theorem Bt.Sa{S a b c}(h: ¬Bt S a b)(k:Bt S c b): ¬Bt S a c:=by unfold Bt at*;omega
structure BB(L A:Int->Int)(n N:Int):Prop where
 yL:∀j,0<=j->j<n->1<=L j/\L j<=N/\A (L j)=j+1
 bV:∀v,1<=v->v<=N->0<=A v/\A v<=n/\(0<A v->L (A v - 1)=v)
theorem BB.inj{L A n N}(h:BB L A n N){j k:Int}(h1:0<=j)(J:j<n)(O:0<=k)(I:k<n)(e:L j=L k):j=k:=by
 have a:=h.yL j h1 J;have b:=h.yL k O I;rw[e]at a;omega
def rJ(L:Int->Int)(i p:Int):Int->Int:=λj=>if j=p then L i else if j=i then L p else L j
def yx(L A:Int->Int)(i p:Int):Int->Int:=λu=>if u=L i then p+1 else if u=L p then i+1 else A u
theorem BB.swap{L A n N}(h:BB L A n N){i p:Int}(h1:0<=i)(U:i<n)(Z:0<=p)(Y:p<n)(J:i≠p):BB (rJ L i p) (yx L A i p) n N:=by
 have fi:=h.yL i h1 U;have fp:=h.yL p Z Y;have hn:L i≠L p:=λe=>J (h.inj h1 U Z Y e);constructor
 .intro j j1 V;have fj:=h.yL j j1 V;unfold rJ yx;by_cases I:j=p
  .subst I;simp;omega
  .by_cases O:j=i
   .subst O;simp[J,WL hn];omega
   .have Q:L j≠L i:=λe=>O (h.inj j1 V h1 U e);have X:L j≠L p:=λe=>I (h.inj j1 V Z Y e);simp[I,O,Q,X];omega
 .intro v v1 v2;have bv:=h.bV v v1 v2;unfold rJ yx;by_cases I:v=L i
  .subst I;simp;omega
  .by_cases O:v=L p
   .subst O;simp[WL hn,J];omega
   .simp only[I,O,I8];refine⟨bv.1,bv.2.1,λhp=>?_⟩;have:=bv.2.2 hp;have Q:A v - 1≠p:=λe=>O (by rw[<- e,this]);have X:A v - 1≠i:=λe=>I (by rw[<- e,this]);simp[Q,X,this]
theorem JR{L A n N}(h:BB L A n N){i p:Int}(h1:0<=i)(Q:i<n)(U:0<=p)(O:p<n)(u:Int):0<yx L A i p u↔0<A u:=by
 have V:=h.yL i h1 Q;have fp:=h.yL p U O;unfold yx;by_cases I:u=L i
 .subst I;simp;omega
 .by_cases J:u=L p
  .subst J;simp[I];omega
  .simp [I,J]
def Ord(S L:Int->Int)(n k x:Int):Prop:=∀j,1<=j->j<n->k<=(j - 1) / 2->(j - 1) / 2≠x->¬Bt S (L j) (L ((j - 1) / 2))
def F_(S L:Int->Int)(n x:Int):Prop:=(∀j,1<=j->j<n->j≠x->¬Bt S (L j) (L ((j - 1) / 2)))/\(∀j,1<=j->j<n->(j - 1) / 2=x->1<=x->¬Bt S (L j) (L ((x - 1) / 2)))
theorem F_.step{S L n i}(h:F_ S L n i)(h1:1<=i)(Z:i<n)(hb:Bt S (L i) (L ((i - 1) / 2))):F_ S (rJ L i ((i - 1) / 2)) n ((i - 1) / 2):=by
 obtain⟨ha,X⟩:=h;have hp:(i - 1) / 2<i:=by omega
 constructor
 .intro j O I Q;unfold rJ;by_cases e:j=i
  .subst e;rw[r8 (by omega),v8 rfl,v8 rfl];exact hb.zS
  .rw [r8 Q,r8 e];by_cases U:(j - 1) / 2=(i - 1) / 2
   .rw [v8 U];have:=ha j O I e;rw[U]at this;exact Bt.Sa this hb
   .rw [r8 U];by_cases V:(j - 1) / 2=i
    .rw [v8 V];exact X j O I V h1
    .rw [r8 V];exact ha j O I e
 .intro j O I Q Y;have J:=ha ((i - 1) / 2) Y (by omega) (by omega);unfold rJ;rw[r8 (show ¬((i - 1) / 2 - 1) / 2=(i - 1) / 2 by omega),r8 (show ¬((i - 1) / 2 - 1) / 2=i by omega)];by_cases e:j=i
  .subst e;rw[r8 (by omega),v8 rfl];exact J
  .rw [r8 (by omega),r8 e];have:=ha j O I e;rw[Q]at this;exact Bt.GO this J
theorem F_.done{S L n i}(h:F_ S L n i)(hb:i<=0\/¬Bt S (L i) (L ((i - 1) / 2))):Ord S L n 0 (-1):=by
 intro j I J _ _;by_cases e:j=i
 .subst e;exact hb.resolve_left (by omega)
 .exact h.1 j I J e
def EG(S L:Int->Int)(n k x:Int):Prop:=Ord S L n k x/\(∀j,1<=j->j<n->(j - 1) / 2=x->1<=x->k<=(x - 1) / 2->¬Bt S (L j) (L ((x - 1) / 2)))
theorem EG.step{S L n k i c}(h:EG S L n k i)(aa:k<=i)(h0:0<=i)(h1:c<n)(V:(c - 1) / 2=i)(X:1<=c)(hb:Bt S (L c) (L i))(I:∀j,1<=j->j<n->(j - 1) / 2=i->¬Bt S (L j) (L c)):EG S (rJ L i c) n k c:=by
 obtain⟨ha,hd⟩:=h;constructor
 .intro j J O Q Z;unfold rJ;by_cases e:j=c
  .subst e;rw[v8 rfl,V,r8 (by omega),v8 rfl];exact hb.zS
  .rw [r8 e,r8 Z];by_cases Y:j=i
   .subst Y;rw[v8 rfl,r8 (by omega)];exact hd c X h1 V J Q
   .rw [r8 Y];by_cases U:(j - 1) / 2=i
    .rw [v8 U];exact I j J O U
    .rw [r8 U];exact ha j J O Q U
 .intro j J O Q Z j5;unfold rJ;rw[r8 (by omega),r8 (by omega),V,r8 (by omega),v8 rfl];have:=ha j J O (by omega) (by omega);rw[Q]at this;exact this
theorem EG.done{S L n k i}(h:EG S L n k i)(hb:∀j,1<=j->j<n->(j - 1) / 2=i->¬Bt S (L j) (L i)):Ord S L n k (-1):=by
 intro j I J O _;by_cases e:(j - 1) / 2=i
 .rw [e];exact hb j I J e
 .exact h.1 j I J O e
theorem Sf:∀ (N n:Nat) (L:Nat->Int),(∀j,j<n->1<=L j/\L j<=N)->(∀j k,j<n->k<n->L j=L k->j=k)->n<=N:=by
 intro N
 induction N with
 |zero=>
  intro n L h _;rcases Wt n with Q|Q
  .omega
  .have:=h 0 Q;omega
 |succ N ih=>
  intro n L h hi;by_cases he:∃j,j<n/\L j=((N+1:Nat):Int)
  .obtain ⟨j,V,U⟩:=he;have:=ih (n - 1) (λk=>if k=j then L (n - 1) else L k) (λk O=>by
    by_cases e:k=j
    .have h1:=h (n - 1) (by omega);have:L (n - 1)≠((N+1:Nat):Int):=λI=>by
      have:=hi (n - 1) j (by omega) V (by rw[I,U]);omega
     simp only[e,I5];omega
    .have h1:=h k (by omega);have:L k≠((N+1:Nat):Int):=λI=>e (hi k j (by omega) V (by rw[I,U]));simp only[e,I8];omega) (λk m O hm=>by
    intro J;by_cases e:k=j
    .by_cases I:m=j
     .omega
     .simp only[e,I,I5,I8]at J;have:=hi _ _ (by omega) (by omega) J;omega
    .by_cases I:m=j
     .simp only[e,I,I5,I8]at J;have:=hi _ _ (by omega) (by omega) J;omega
     .simp only[e,I,I8]at J;exact hi _ _ (by omega) (by omega) J)
   omega
  .have:=ih n L (λk O=>by
    have h1:=h k O;have:L k≠((N+1:Nat):Int):=λe=>he ⟨k,O,e⟩;omega) hi
   omega
theorem BB.le{L A:Int->Int}{n N:Nat}(h:BB L A n N):n<=N:=
 Sf N n (λj=>L j) (λj I=>by have:=h.yL j (by omega) (by omega);exact⟨this.1,this.2.1⟩) λj k I J e=>by
  have:=h.inj (j:=j) (k:=k) (by omega) (by omega) (by omega) (by omega) e;omega
theorem BB.push{L A:Int->Int}{n N v:Int}(h:BB L A n N)(n0:0<=n)(v1:1<=v)(v2:v<=N)(hv:A v=0):BB (λj=>if j=n then v else L j) (λu=>if u=v then n+1 else A u) (n+1) N:=by
 constructor
 .intro j J U;by_cases e:j=n
  .subst e;simp;omega
  .have f:=h.yL j J (by omega);have:L j≠v:=λO=>by rw[O]at f;omega
   simp only[e,I8,this];exact f
 .intro u Q I;by_cases e:u=v
  .subst e;simp;omega
  .have f:=h.bV u Q I;simp only[e,I8];refine⟨f.1,by omega,λhp=>?_⟩;rw[r8 (by omega)];exact f.2.2 hp
theorem BB.Ve{L A:Int->Int}{n N v:Int}(h:BB L A (n+1) N)(n0:0<=n)(hv:L 0=v):BB (λj=>if j=0 then L n else L j) (λu=>if u=L n then (if n=0 then 0 else 1) else if u=v then 0 else A u) n N:=by
 have Z:=h.yL 0 (Ww _) (by omega);have fn:=h.yL n n0 (by omega);constructor
 .intro j O Y;by_cases e:j=0
  .subst e;simp[show n≠0 by omega];omega
  .have f:=h.yL j O (by omega);have U:L j≠v:=λI=>e (h.inj O (by omega) (Ww _) (by omega) (by rw[I,hv]));have J:L j≠L n:=λI=>by have:=h.inj O (by omega) n0 (by omega) I;omega
   simp only[e,I8,U,J];exact f
 .intro u X V;have f:=h.bV u X V;by_cases e:u=L n
  .subst e;simp only[I5];split
   .omega
   .simp;omega
  .by_cases I:u=v
   .subst I;simp[e,n0]
   .simp only[e,I,I8];have U:A u - 1≠n\/A u=0:=by
     by_cases hp:0<A u
     .left;intro Q;have:=f.2.2 hp;rw[Q]at this;exact e this.symm
     .right;omega
    refine⟨f.1,by omega,λhp=>?_⟩;have J:A u - 1≠0:=λQ=>I (by have:=f.2.2 hp;rw[Q]at this;rw[<- this,hv]);rw[r8 J];exact f.2.2 hp
end Go.HeapP
namespace Go.Proofs.YtbdghpjnifjlmaaGreat.W.Hp
open Go Go.Fw Go.RowKit Go.HeapP
open Go.Proofs.Tryz (prog)
open Go.IntKind (i64)
section
theorem cR:mg prog aI aB 8=true:=by kernel_rfl
structure HS where
 pl:sn
 cl:Nat
 pa:sn
 ca:Nat
 ps:sn
 cs:Nat
 l:List Int
 at_:List Int
 score:List Int
 step:Int
def HS.bK(x:HS)(b:Nat)(k:Nat):Prop:=k=b\/aF x.pl=some k\/aF x.pa=some k\/aF x.ps=some k
structure cN(w:World)(b:Nat)(x:HS):Prop where
 me:bO w b #[.slice x.pl x.l.length x.cl,.slice x.pa x.at_.length x.ca,.slice x.ps x.score.length x.cs,.i x.step]
 hl:d_ aB w x.pl x.cl x.l
 ha:d_ aB w x.pa x.ca x.at_
 hs:d_ aB w x.ps x.cs x.score
 bl:aF x.pl≠some b
 ba:aF x.pa≠some b
 bs:aF x.ps≠some b
 la:∀k,aF x.pl=some k->aF x.pa≠some k
 ls:∀k,aF x.pl=some k->aF x.ps≠some k
 sa:∀k,aF x.pa=some k->aF x.ps≠some k
theorem cN.keep{w w':World}{b:Nat}{x:HS}{S:Nat->Prop}(h:cN w b x)(m:aE S w w')(J:∀k,x.bK b k->¬S k):cN w' b x:=
 ⟨h.me.keep m (J b (.inl rfl)),h.hl.keep m λk I=>J k (.inr (.inl I)),h.ha.keep m λk I=>J k (.inr (.inr (.inl I))),h.hs.keep m λk I=>J k (.inr (.inr (.inr I))),h.bl,h.ba,h.bs,h.la,h.ls,h.sa⟩
theorem cN.grow{w w':World}{b:Nat}{x:HS}(h:cN w b x)(m:ak w w'):cN w' b x:=h.keep m λ_ _=>id
theorem cN.drew{w:World}{b:Nat}{x:HS}(h:cN w b x):cN w.drew b x:=⟨h.me,h.hl,h.ha,h.hs,h.bl,h.ba,h.bs,h.la,h.ls,h.sa⟩
theorem cN.lt{w:World}{b:Nat}{x:HS}(h:cN w b x):∀k,x.bK b k->k<w.heap.size:=by
 rintro k (rfl|I|I|I)
 .exact h.me.lt
 .exact h.hl.lt k I
 .exact h.ha.lt k I
 .exact h.hs.lt k I
abbrev ptr(b:Nat):Value:=.pointer (some ⟨b,0,none⟩)
def bt(s:List Int)(a c:Int):Bool:=if g s a=g s c then decide (a<c) else decide (g s a>g s c)
theorem wM(s:List Int)(a c:Int):bt s a c=true↔Bt (g s) a c:=by
 unfold bt Bt;split<;>simp<;>omega
theorem sb{w:World}{b:Nat}{x:HS}(h:cN w b x)(a c:Int)(a0:0<=a)(a1:a<x.score.length)(I:0<=c)(U:c<x.score.length):
 Calls prog 188 #[ptr b,.i a,.i c] w λe w'=>e=.returned (.bool (bt x.score a c))/\ak w w':=by
 refine eZ.aj ?_;have h1:=h.drew;have J:=h1.drew;refine⟨_,rfl,_,_,_,ae h1.me rfl,h1.hs.ix 0 a0 rfl a1 λa3 Q=>⟨_,Q,_,rfl,_,_,_,ae h1.me rfl,h1.hs.ix 0 I rfl U λV O=>⟨_,O,ah (λt=>?_) (λt=>?_)⟩⟩⟩
 .refine ⟨_,rfl,_,_,_,ae J.me rfl,J.hs.ix 0 a0 rfl a1 λa3 Q=>⟨_,Q,_,rfl,_,_,_,ae J.me rfl,J.hs.ix 0 I rfl U λV O=>⟨_,O,?_,((aE.refl w).drew).drew⟩⟩⟩;simp only[ZH,J5,pj a0,pj I]at t;rw[pj a0,pj I];unfold bt;rw[r8 t]
 .simp only[bne_eq_false_iff_eq,pj a0,pj I]at t;refine⟨?_,(aE.refl w).drew⟩;unfold bt;rw[v8 t]
def HS.put(x:HS)(i v:Int):HS:= {x with l:=x.l.set i.toNat v,at_:=x.at_.set v.toNat (i+1)}
theorem cN.Vz{w w':World}{b:Nat}{x:HS}(h:cN w b x){l':List Int}(hl:l'.length=x.l.length)(o:d_ aB w' x.pl x.cl l')(m:aE (λk=>aF x.pl=some k) w w'):cN w' b {x with l:=l'}:=
 ⟨by have:=h.me.keep m h.bl;rwa [<- hl]at this,o,h.ha.keep m λk J I=>h.la k I J,h.hs.keep m λk J I=>h.ls k I J,h.bl,h.ba,h.bs,h.la,h.ls,h.sa⟩
theorem cN.Rh{w w':World}{b:Nat}{x:HS}(h:cN w b x){l':List Int}(hl:l'.length=x.at_.length)(o:d_ aB w' x.pa x.ca l')(m:aE (λk=>aF x.pa=some k) w w'):cN w' b {x with at_:=l'}:=
 ⟨by have:=h.me.keep m h.ba;rwa [<- hl]at this,h.hl.keep m λk J I=>h.la k J I,o,h.hs.keep m λk J I=>h.sa k I J,h.bl,h.ba,h.bs,h.la,h.ls,h.sa⟩
theorem cN.UK{w w':World}{b:Nat}{x:HS}(h:cN w b x){l':List Int}(hl:l'.length=x.score.length)(o:d_ aB w' x.ps x.cs l')(m:aE (λk=>aF x.ps=some k) w w'):cN w' b {x with score:=l'}:=
 ⟨by have:=h.me.keep m h.bs;rwa [<- hl]at this,h.hl.keep m λk J I=>h.ls k J I,h.ha.keep m λk J I=>h.sa k J I,o,h.bl,h.ba,h.bs,h.la,h.ls,h.sa⟩
theorem cN.Uk{w w':World}{b:Nat}{x:HS}(h:cN w b x){t:Int}(o:bO w' b #[.slice x.pl x.l.length x.cl,.slice x.pa x.at_.length x.ca,.slice x.ps x.score.length x.cs,.i t])(m:aE (·=b) w w'):cN w' b {x with step:=t}:=
 ⟨o,h.hl.keep m λ_ J I=>h.bl (I▸J),h.ha.keep m λ_ J I=>h.ba (I▸J),h.hs.keep m λ_ J I=>h.bs (I▸J),h.bl,h.ba,h.bs,h.la,h.ls,h.sa⟩
theorem sJ{w:World}{b:Nat}{x:HS}(h:cN w b x)(i v:Int)(Q:0<=i)(U:i<x.l.length)(v0:0<=v)(v1:v<x.at_.length)(hb:x.l.length<2147483648):
 Calls prog 158 #[ptr b,.i i,.i v] w λe w'=>e=.returned (.tuple #[])/\cN w' b (x.put i v)/\aE (x.bK b) w w':=by
 refine dP.aj ?_;refine⟨_,rfl,_,_,_,ae h.me rfl,h.hl.st v rfl rfl Q rfl U λV o m=>?_⟩;have J:=h.Vz (by simp) o m;refine⟨_,rfl,_,_,_,ae J.me rfl,?_⟩;rw[ao (x:=i+1) (by omega) (by omega)];refine J.ha.st (i+1) rfl rfl v0 rfl v1 λX O m'=>⟨rfl,J.Rh (by simp) O m',?_⟩
 exact(m.mono λk _ I=> .inr (.inl I)).trans (m'.mono λk _ I=> .inr (.inr (.inl I)))
structure uQ(x:HS)(N:Int):Prop where
 na:(x.at_.length:Int)=N+1
 ns:(x.score.length:Int)=N+1
 Lm:N<=1048576
 pos:BB (g x.l) (g x.at_) x.l.length N
 nl:(x.l.length:Int)<=N
structure Lk(N:Int)(x y:HS):Prop where
 pl:y.pl=x.pl
 cl:y.cl=x.cl
 pa:y.pa=x.pa
 ca:y.ca=x.ca
 ps:y.ps=x.ps
 cs:y.cs=x.cs
 l:y.l.length=x.l.length
 a:y.at_.length=x.at_.length
 score:y.score=x.score
 step:y.step=x.step
 has:∀u,1<=u->u<=N->(0<g y.at_ u↔0<g x.at_ u)
theorem Lk.refl(N:Int)(x:HS):Lk N x x:=⟨rfl,rfl,rfl,rfl,rfl,rfl,rfl,rfl,rfl,rfl,λ_ _ _=>Yb⟩
theorem Lk.trans{N:Int}{x y z:HS}(h:Lk N x y)(k:Lk N y z):Lk N x z:=
 ⟨k.pl.trans h.pl,k.cl.trans h.cl,k.pa.trans h.pa,k.ca.trans h.ca,k.ps.trans h.ps,k.cs.trans h.cs,k.l.trans h.l,k.a.trans h.a,k.score.trans h.score,k.step.trans h.step,λu a b=> (k.has u a b).trans (h.has u a b)⟩
theorem Lk.bK{N:Int}{x y:HS}(h:Lk N x y)(b:Nat):y.bK b=x.bK b:=by funext k;unfold HS.bK;rw[h.pl,h.pa,h.ps]
theorem oO{x:HS}{i v:Int}(J:0<=i)(I:i<x.l.length):g (x.put i v).l=λj=>if j=i then v else g x.l j:=Dh J I
theorem Ft{x:HS}{i v:Int}(v0:0<=v)(v1:v<x.at_.length):g (x.put i v).at_=λu=>if u=v then i+1 else g x.at_ u:=Dh v0 v1
theorem wE{x:HS}{N i:Int}(h:uQ x N)(I:0<=i)(J:i<x.l.length):g (x.put i (g x.l i)).l=g x.l/\g (x.put i (g x.l i)).at_=g x.at_:=by
 have f:=h.pos.yL i I J;have O:=h.na;rw[oO I J,Ft (by omega) (by omega)];constructor
 .funext j;split
  .subst_vars;rfl
  .rfl
 .funext u;split
  .subst_vars;omega
  .rfl
theorem IP{y:HS}{N i p v:Int}(h:uQ (y.put i v) N)(v1:1<=v)(v2:v<=N)(O:0<=i)(Q:i<y.l.length)(X:0<=p)(Y:p<y.l.length)(I:i≠p):
 g ((y.put i (g y.l p)).put p v).l=rJ (g (y.put i v).l) i p/\g ((y.put i (g y.l p)).put p v).at_=yx (g (y.put i v).l) (g (y.put i v).at_) i p/\1<=g y.l p/\g y.l p<=N:=by
 have hl:(y.put i v).l.length=y.l.length:=by simp[HS.put]
 have V:(y.put i (g y.l p)).l.length=y.l.length:=by simp[HS.put]
 have U:(y.put i (g y.l p)).at_.length=y.at_.length:=by simp[HS.put]
 have Z:(y.at_.length:Int)=N+1:=by have:=h.na;simpa[HS.put]using this
 have f:=h.pos.yL p X (by rw[hl];exact Y);rw[oO O Q]at f;simp only[r8 (WL I)]at f;refine⟨?_,?_,f.1,f.2.1⟩
 .rw [oO X (by rw[V];exact Y),oO O Q,oO O Q];funext j;unfold rJ;by_cases e:j=p
  .simp [e]
  .by_cases J:j=i
   .simp [J,I,WL I]
   .simp [e,J]
 .rw [Ft (by omega) (by rw[U];omega),Ft (by omega) (by omega),oO O Q,Ft (by omega) (by omega)];funext u;unfold yx;simp only[r8 (WL I),I5];by_cases e:u=v
  .simp [e]
  .by_cases J:u=g y.l p
   .simp [J]
   .simp [e,J]
theorem uQ.swap{y z:HS}{N i p:Int}(h:uQ y N)(J:0<=i)(Q:i<y.l.length)(O:0<=p)(U:p<y.l.length)(I:i≠p)(hl:g z.l=rJ (g y.l) i p)(ha:g z.at_=yx (g y.l) (g y.at_) i p)(k:z.l.length=y.l.length)(X:z.at_.length=y.at_.length)(V:z.score.length=y.score.length):
 uQ z N/\∀u,(0<g z.at_ u↔0<g y.at_ u):=by
 refine⟨⟨by rw[X];exact h.na,by rw[V];exact h.ns,h.Lm,?_,by rw[k];exact h.nl⟩,λu=>?_⟩
 .rw [hl,ha,k];exact h.pos.swap J Q O U I
 .rw [ha];exact JR h.pos J Q O U u
theorem Jp{w:World}{b:Nat}{x:HS}{N:Int}(h:cN w b x)(ok:uQ x N)(i:Int)(I:0<=i)(O:i<x.l.length)(ho:F_ (g x.score) (g x.l) x.l.length i):
 Calls prog 168 #[ptr b,.i i] w λe w'=>e=.returned (.tuple #[])/\∃J,cN w' b J/\uQ J N/\Lk N x J/\Ord (g x.score) (g J.l) J.l.length 0 (-1)/\aE (x.bK b) w w':=by
 refine lx.aj ?_;have az:(x.l.length:Int)<=1048576:=Int.le_trans ok.nl ok.Lm;refine⟨_,rfl,_,_,_,ae h.me rfl,h.hl.ix 0 I rfl O λa3 e3=>⟨_,e3,?_⟩⟩;rw[pj I];have fv:=ok.pos.yL i I O;generalize hv:g x.l i=v at fv ⊢;refine⟨λi w' k=>∃y:HS,cN w' b y/\Lk N x (y.put i v)/\uQ (y.put i v) N/\F_ (g x.score) (g (y.put i v).l) x.l.length i/\0<=i/\i<x.l.length/\k=i.toNat/\aE (x.bK b) w w',⟨i.toNat,x,h,?_,?_,?_,I,O,rfl,aE.refl w⟩,?_⟩
 .have ps:=wE ok I O;rw[hv]at ps;exact⟨rfl,rfl,rfl,rfl,rfl,rfl,by simp[HS.put],by simp[HS.put],rfl,rfl,λu _ _=>by rw[ps.2]⟩
 .have ps:=wE ok I O;rw[hv]at ps;exact⟨by simpa[HS.put]using ok.na,ok.ns,ok.Lm,by rw[ps.1,ps.2];simpa[HS.put]using ok.pos,by simpa[HS.put]using ok.nl⟩
 .have ps:=wE ok I O;rw[hv]at ps;rw[ps.1];exact ho
 clear h ho I O fv hv;rintro i w' k _⟨y,Q,lk,X,ou,I,O,hk,M⟩;have bu:y.l.length=x.l.length:=by simpa[HS.put]using lk.l
 have a8:y.at_.length=x.at_.length:=by simpa[HS.put]using lk.a
 have V:y.score=x.score:=lk.score;have a7:=ok.na;have bg:=ok.ns;have an:y.bK b=x.bK b:=lk.bK b;have U:(y.put i v).l.length=x.l.length:=lk.l;have fv:=X.pos.yL i I (by rw[U];exact O);rw[oO I (by omega)]at fv;simp only[I5]at fv;have eh:(i<=0\/¬Bt (g x.score) v (g y.l ((i - 1) / 2)))->∀w2,cN w2 b y->aE (x.bK b) w w2->Calls prog 158 #[ptr b,.i i,.i v] w2 λe w'=>e=.returned (.tuple #[])/\(Ending.returned (.tuple #[])=.returned (.tuple #[])/\∃J,cN w' b J/\uQ J N/\Lk N x J/\Ord (g x.score) (g J.l) J.l.length 0 (-1)/\aE (x.bK b) w w'):=by
  intro hb w2 ap M2;refine(sJ ap i v I (by omega) (by omega) (by omega) (by omega)).mono ?_;rintro e w3⟨rfl,h3,m3⟩;refine⟨rfl,rfl,_,h3,X,lk,?_,M2.trans (an▸m3)⟩;rw[U];refine ou.done (hb.imp id λhb=>?_);rw[oO I (by omega)];simp only[I5];by_cases e:(i - 1) / 2=i
  .rw [v8 e];exactλhb=>hb.zS hb
  .rw [r8 e];exact hb
 refine ah (λt=>?_) (λt=>eh (.inl (by simpa using t)) w' Q M);simp only[x7]at t;have ep:i64.wrap ((i64.wrap (i - 1)).tdiv 2)=(i - 1) / 2:=by
  rw[ao (x:=i - 1) (by omega) (by omega),Wc (by omega),ao (by omega) (by omega)]
 rw[ep];have Y:0<=(i - 1) / 2:=by omega
 have pp:=IP X (by omega) (by omega) I (by omega) Y (by omega) (show i≠(i - 1) / 2 by omega);obtain⟨e1,e2,u1,u2⟩:=pp;refine⟨by decide,_,rfl,_,_,_,ae Q.me rfl,Q.hl.ix 0 Y rfl (by omega) λav Z=>⟨_,Z,?_⟩⟩;rw[pj Y];refine(sb Q v (g y.l ((i - 1) / 2)) (by omega) (by rw[V];omega) (by omega) (by rw[V];omega)).mono ?_;rintro e aw⟨rfl,ac⟩;have Q:=Q.grow ac;have M:=M.grow ac;refine⟨_,rfl,ah (λtb=>eh (.inr ?_) aw Q M) (λtb=>?_)⟩
 .rw [<- wM,<- V];simpa using tb
 .have tb:Bt (g x.score) v (g y.l ((i - 1) / 2)):=by rw[<- wM,<- V];simpa using tb
  refine⟨_,rfl,_,_,_,ae Q.me rfl,Q.hl.ix 0 Y rfl (by omega) λav Z=>⟨_,Z,?_⟩⟩;rw[pj Y];refine(sJ Q i _ I (by omega) (show 0<=g y.l ((i - 1) / 2) by omega) (by omega) (by omega)).mono ?_;rintro e bf⟨rfl,ax,ar⟩;have sw:=uQ.swap (z:=(y.put i (g y.l ((i - 1) / 2))).put ((i - 1) / 2) v) X I (by rw[U];exact O) Y (by rw[U];omega) (by omega) e1 e2 (by simp[HS.put]) (by simp[HS.put]) rfl;refine⟨rfl,((i - 1) / 2).toNat,by omega,_,ax,?_,sw.1,?_,Y,by omega,rfl,M.trans (an▸ar)⟩
  .refine lk.trans ⟨rfl,rfl,rfl,rfl,rfl,rfl,by simp[HS.put],by simp[HS.put],rfl,rfl,λu _ _=>sw.2 u⟩
  .rw [e1];refine ou.step (by omega) O ?_;rw[oO I (by omega)];simpa[show ¬(i - 1) / 2=i by omega]using tb
theorem CU{w:World}{b:Nat}{x:HS}{N:Int}(h:cN w b x)(ok:uQ x N)(i:Int)(O:0<=i)(i1:i<x.l.length)(k:Int)(ki:k<=i)(ho:EG (g x.score) (g x.l) x.l.length k i):
 Calls prog 159 #[ptr b,.i i] w λe w'=>e=.returned (.tuple #[])/\∃J,cN w' b J/\uQ J N/\Lk N x J/\Ord (g x.score) (g J.l) J.l.length k (-1)/\aE (x.bK b) w w':=by
 refine jc.aj ?_;have ce:(x.l.length:Int)<=1048576:=Int.le_trans ok.nl ok.Lm;refine⟨_,rfl,_,_,_,ae h.me rfl,h.hl.ix 0 O rfl i1 λa3 e3=>⟨_,e3,?_⟩⟩;rw[pj O];generalize hv:g x.l i=v;have ps:=wE ok O i1;rw[hv]at ps;refine⟨λi w' m=>∃y:HS,cN w' b y/\Lk N x (y.put i v)/\uQ (y.put i v) N/\EG (g x.score) (g (y.put i v).l) x.l.length k i/\k<=i/\0<=i/\i<x.l.length/\m=x.l.length - i.toNat/\aE (x.bK b) w w',⟨x.l.length - i.toNat,x,h,?_,?_,?_,ki,O,i1,rfl,aE.refl w⟩,?_⟩
 .exact ⟨rfl,rfl,rfl,rfl,rfl,rfl,by simp[HS.put],by simp[HS.put],rfl,rfl,λu _ _=>by rw[ps.2]⟩
 .exact ⟨by simpa[HS.put]using ok.na,ok.ns,ok.Lm,by rw[ps.1,ps.2];simpa[HS.put]using ok.pos,by simpa[HS.put]using ok.nl⟩
 .rw [ps.1];exact ho
 clear h ho O i1 hv ps ki;rintro i w' m _⟨y,I,lk,aa,ou,ki,O,i1,hm,M⟩;have dk:y.l.length=x.l.length:=by simpa[HS.put]using lk.l
 have cr:y.at_.length=x.at_.length:=by simpa[HS.put]using lk.a
 have Q:y.score=x.score:=lk.score;have cT:=ok.na;have c7:=ok.ns;have bf:y.bK b=x.bK b:=lk.bK b;have X:(y.put i v).l.length=x.l.length:=lk.l;have fv:=aa.pos.yL i O (by rw[X];exact i1);rw[oO O (by omega)]at fv;simp only[I5]at fv;have eh:(∀j:Int,1<=j->j<x.l.length->(j - 1) / 2=i->¬Bt (g x.score) (g y.l j) v)->∀w2,cN w2 b y->aE (x.bK b) w w2->Calls prog 158 #[ptr b,.i i,.i v] w2 λe w'=>e=.returned (.tuple #[])/\(Ending.returned (.tuple #[])=.returned (.tuple #[])/\∃J,cN w' b J/\uQ J N/\Lk N x J/\Ord (g x.score) (g J.l) J.l.length k (-1)/\aE (x.bK b) w w'):=by
  intro hb w2 bx M2;refine(sJ bx i v O (by omega) (by omega) (by omega) (by omega)).mono ?_;rintro e w3⟨rfl,h3,m3⟩;refine⟨rfl,rfl,_,h3,aa,lk,?_,M2.trans (bf▸m3)⟩;rw[X];refine ou.done λj j1 j2 j3=>?_;rw[oO O (by omega)];simp only[I5];rw[r8 (by omega)];exact hb j j1 j2 j3
 have ec:i64.wrap (i64.wrap (2*i)+1)=2*i+1:=by rw[ao (x:=2*i) (by omega) (by omega),ao (by omega) (by omega)]
 have b4:i64.wrap (2*i+1+1)=2*i+2:=by rw[ao (by omega) (by omega)];omega
 rw[ec,b4];refine⟨_,rfl,_,_,_,ae I.me rfl,ah (λt=>eh ?_ w' I M) (λt=>?_)⟩
 .simp only[x7,I9]at t;intro j j1 j2 j3;omega
 simp only[x8,I9]at t;have kids:∀c,c=2*i+1\/c=2*i+2->c<x.l.length->1<=g y.l c/\g y.l c<=N:=by
  intro c hc b7;have:=aa.pos.yL c (by omega) (by rw[X];exact b7);rw[oO O (by omega)]at this;simp only[show ¬c=i by omega,I8]at this;exact⟨this.1,this.2.1⟩
 have I:=I.drew;have M:=M.drew;have rest:∀c w2,cN w2 b y->aE (x.bK b) w w2->c=2*i+1\/c=2*i+2->c<x.l.length->(∀j:Int,1<=j->j<x.l.length->(j - 1) / 2=i->¬Bt (g x.score) (g y.l j) (g y.l c))->
  (∃a25,(some (⟨b,0,none⟩:Addr))=some a25/\∃ay aw bn,w2.cell? (a25.add 0)=some (.slice ay aw bn)/\
    aV ay aw c 1 λb3=>
    ∃a8,w2.cell? b3=some (.i a8)/\
    Calls prog 188 #[.pointer (some ⟨b,0,none⟩),.i a8,.i v] w2 λe ag=>∃bg,e=.returned (.bool bg)/\
    aD (!bg)
    (Calls prog 158 #[.pointer (some ⟨b,0,none⟩),.i i,.i v] ag λe bk=>e=.returned (.tuple #[])/\
      (Ending.returned (.tuple #[])=.returned (.tuple #[])/\∃J,cN bk b J/\uQ J N/\Lk N x J/\Ord (g x.score) (g J.l) J.l.length k (-1)/\aE (x.bK b) w bk))
    (∃a_,(some (⟨b,0,none⟩:Addr))=some a_/\∃av ax a7,ag.cell? (a_.add 0)=some (.slice av ax a7)/\
      aV av ax c 1 λb6=>
      ∃a6,ag.cell? b6=some (.i a6)/\
      Calls prog 158 #[.pointer (some ⟨b,0,none⟩),.i i,.i a6] ag λe a'=>e=.returned (.tuple #[])/\
      ∃k7,k7<m/\∃y:HS,cN a' b y/\Lk N x (y.put c v)/\uQ (y.put c v) N/\EG (g x.score) (g (y.put c v).l) x.l.length k c/\k<=c/\0<=c/\c<x.l.length/\k7=x.l.length - c.toNat/\aE (x.bK b) w a')):=by
  intro c w2 I M hc bi V;have fc:=kids c hc bi;have pp:=IP aa (by omega) (by omega) O (by omega) (show 0<=c by omega) (by omega) (show i≠c by omega);obtain⟨e1,e2,u1,u2⟩:=pp;have c0:0<=c:=by omega
  refine⟨_,rfl,_,_,_,ae I.me rfl,I.hl.ix 0 c0 rfl (by omega) λbb Z=>⟨_,Z,?_⟩⟩;rw[pj c0];refine(sb I (g y.l c) v (by omega) (by rw[Q];omega) (by omega) (by rw[Q];omega)).mono ?_;rintro e ap⟨rfl,Y⟩;have I:=I.grow Y;have M:=M.grow Y;refine⟨_,rfl,ah (λU=>eh (λj j1 j2 j3=>?_) ap I M) (λU=>?_)⟩
  .have: ¬Bt (g x.score) (g y.l c) v:=by rw[<- wM,<- Q];simpa using U
   exact Bt.GO (V j j1 j2 j3) this
  .have U:Bt (g x.score) (g y.l c) v:=by rw[<- wM,<- Q];simpa using U
   refine⟨_,rfl,_,_,_,ae I.me rfl,I.hl.ix 0 c0 rfl (by omega) λbb Z=>⟨_,Z,?_⟩⟩;rw[pj c0];refine(sJ I i _ O (by omega) (show 0<=g y.l c by omega) (by omega) (by omega)).mono ?_;rintro e c4⟨rfl,b9,bY⟩;have sw:=uQ.swap (z:=(y.put i (g y.l c)).put c v) aa O (by rw[X];exact i1) c0 (by rw[X];omega) (by omega) e1 e2 (by simp[HS.put]) (by simp[HS.put]) rfl;refine⟨rfl,x.l.length - c.toNat,by omega,_,b9,?_,sw.1,?_,by omega,c0,by omega,rfl,M.trans (bf▸bY)⟩
   .refine lk.trans ⟨rfl,rfl,rfl,rfl,rfl,rfl,by simp[HS.put],by simp[HS.put],rfl,rfl,λu _ _=>sw.2 u⟩
   .rw [e1];refine ou.step ki O bi (by omega) (by omega) ?_ ?_
    .rw [oO O (by omega)];simpa[show ¬c=i by omega]using U
    .intro j j1 j2 j3;rw[oO O (by omega)];simpa[show ¬c=i by omega,show ¬j=i by omega]using V j j1 j2 j3
 refine⟨_,rfl,_,_,_,ae I.me rfl,ah (λt1=>?_) (λt1=>?_)⟩<;>simp only[x7,x8]at t1
 .have f1:=kids (2*i+1) (.inl rfl) (by omega);have f2:=kids (2*i+2) (.inr rfl) (by omega);refine⟨_,rfl,_,_,_,ae I.me rfl,I.hl.ix 0 (by omega) rfl t1 λbb Z=>⟨_,Z,_,rfl,_,_,_,ae I.me rfl,I.hl.ix 0 (by omega) rfl (by omega) λcp b5=>⟨_,b5,?_⟩⟩⟩;rw[pj (by omega),pj (by omega)];refine(sb I _ _ (show 0<=g y.l (2*i+2) by omega) (by rw[Q];omega) (show 0<=g y.l (2*i+1) by omega) (by rw[Q];omega)).mono ?_;rintro e ap⟨rfl,Y⟩;have I:=I.grow Y;have M:=M.grow Y;refine⟨_,rfl,ah (λU=>rest _ ap I M (.inr rfl) (by omega) λj j1 j2 j3=>?_) (λU=>rest _ ap I M (.inl rfl) (by omega) λj j1 j2 j3=>?_)⟩
  .have U:Bt (g x.score) (g y.l (2*i+2)) (g y.l (2*i+1)):=by rw[<- wM,<- Q];simpa using U
   obtain rfl|rfl:j=2*i+1\/j=2*i+2:=by omega
   .exact U.zS
   .exact λhb=>hb.zS hb
  .have U: ¬Bt (g x.score) (g y.l (2*i+2)) (g y.l (2*i+1)):=by rw[<- wM,<- Q];simpa using U
   obtain rfl|rfl:j=2*i+1\/j=2*i+2:=by omega
   .exact λhb=>hb.zS hb
   .exact U
 .refine rest _ _ I M (.inl rfl) (by omega) λj j1 j2 j3=>?_;obtain rfl:j=2*i+1:=by omega
  exactλhb=>hb.zS hb
end
section
def f20(x:Int):Int:=x / 1048576
theorem UB(x:Int):x.fdiv (2 ^ (min (20:Int).toNat (IntKind.bits .i64)))=f20 x:=by
 show x.fdiv 1048576=_;rw[XL _ (by omega)];rfl
def qd:Int:=1099511627776
def pM(x:HS)(v:Int):Prop:=qd<x.step\/qd<g x.score v
instance(x:HS)(v:Int):Decidable (pM x v):=by unfold pM;infer_instance
def HS.ko(x:HS):HS:= {x with score:=x.score.map f20,step:=imax 1 (f20 x.step)}
theorem uQ.score{x:HS}{N:Int}(h:uQ x N){s:List Int}{t:Int}(hs:s.length=x.score.length):uQ {x with score:=s,step:=t} N:=
 ⟨h.na,by show (s.length:Int)=_;rw[hs];exact h.ns,h.Lm,h.pos,h.nl⟩
theorem zI{w:World}{b:Nat}{x:HS}{N:Int}(h:cN w b x)(ok:uQ x N)(v:Int)(v0:0<=v)(v1:v<=N)(ho:Ord (g x.score) (g x.l) x.l.length 0 (-1)):
 Calls prog 169 #[ptr b,.i v] w λe w'=>e=.returned (.tuple #[])/\∃U,cN w' b U/\uQ U N/\Lk N (if pM x v then x.ko else x) U/\Ord (g U.score) (g U.l) U.l.length 0 (-1)/\aE (x.bK b) w w':=by
 refine fT.aj ?_;have bk:=ok.ns;have hN:=ok.Lm;have az:(x.l.length:Int)<=1048576:=Int.le_trans ok.nl ok.Lm;refine⟨_,rfl,_,ae h.me rfl,ah (λt1=>⟨_,rfl,_,_,_,ae h.me rfl,h.hs.ix 0 v0 rfl (by omega) λa e=>⟨_,e,ah (λX=>?_) (λX=>?_)⟩⟩) (λt1=>?_)⟩
 .rw [pj v0]at X;simp only[x7]at t1 X;have hm: ¬pM x v:=by unfold pM qd;omega
  rw[r8 hm];exact⟨rfl,x,h,ok,Lk.refl N x,ho,aE.refl w⟩
 all_goals (
  have hm:pM x v:=by
   unfold pM qd;first
   | (rw[pj v0]at X;simp only[x8]at X;omega)
   | (simp only[x8]at t1;omega)
  rw[v8 hm];clear t1;refine⟨_,rfl,_,_,_,ae h.me rfl,?_⟩;refine⟨λi w' k=>∃t:Nat,i=t/\t<=x.score.length/\cN w' b {x with score:=rL f20 t x.score}/\aE (x.bK b) w w'/\k+t=x.score.length,⟨x.score.length,0,rfl,xc _,by rw[HP];exact h,aE.refl w,rfl⟩,?_⟩;rintro i w' k _⟨t,rfl,ht,I,M,Z⟩;refine ah (λJ=>?_) (λJ=>?_)<;>simp only[x7,x8]at J
  .have hl:=Dn f20 t x.score;refine⟨_,rfl,_,_,_,ae I.me rfl,I.hs.ix 0 (by omega) rfl (by rw[hl];exact J) λbu an=>⟨_,an,by decide,?_⟩⟩;rw[tn,J1 f20 0 (by omega),UB];refine I.hs.st (f20 (x.score.getD t 0)) rfl rfl (by omega) rfl (by rw[hl];exact J) λbg o m=>⟨k - 1,by omega,t+1,?_,by omega,?_,M.trans (m.mono λk _ Z=> .inr (.inr (.inr Z))),by omega⟩
   .rw [ao (by omega) (by omega)];omega
   .have:=I.UK (by simp) o m;rw[tn,K9 f20 0 (by omega)]at this;exact this
  .have et:t=x.score.length:=by omega
   subst et;rw[KU]at I;refine⟨_,rfl,_,ae I.me rfl,by decide,_,rfl,?_⟩;rw[UB];refine cz I.me rfl rfl λY o m=>?_;have O:cN Y b x.ko:=I.Uk o m;have M2:aE (x.bK b) w Y:=M.trans (m.mono λk _ Z=> .inl Z);have ac:uQ x.ko N:=ok.score (by simp);refine⟨_,rfl,_,_,_,ae O.me rfl,?_⟩;have en:i64.wrap ((x.ko.l.length:Int) - 1)=(x.l.length:Int) - 1:=by show i64.wrap ((x.l.length:Int) - 1)=_;rw[ao (by omega) (by omega)]
   try dsimp only
   rw[en];refine⟨λi w' k=>∃y,cN w' b y/\uQ y N/\Lk N x.ko y/\Ord (g x.ko.score) (g y.l) x.l.length (i+1) (-1)/\ -1<=i/\i<x.l.length/\k=(i+1).toNat/\aE (x.bK b) w w',⟨_,x.ko,O,ac,Lk.refl N _,?_,by omega,by omega,rfl,M2⟩,?_⟩
   .intro j j1 j2 j3 j4;omega
   clear I O ac M M2 m o ho;rintro i w' k _⟨y,I,V,lk,oy,i0,i1,Z,M⟩;have aa:y.l.length=x.l.length:=lk.l;have Q:y.score=x.ko.score:=lk.score;have av:y.bK b=x.bK b:=lk.bK b;refine ah (λJ=>?_) (λJ=>?_)<;>simp only[x7,x8,I9]at J
   .refine (CU I V i J (by omega) i (Ww _) ⟨?_,?_⟩).mono ?_
    .intro j j1 j2 j3 j4;rw[Q];exact oy j j1 (by omega) (by omega) (by omega)
    .intro j j1 j2 j3 j4 j5;omega
    .rintro e w2 ⟨rfl,z,hz,aw,lz,oz,mz⟩;have ar:z.l.length=y.l.length:=lz.l;refine⟨rfl,i.toNat,by omega,z,hz,aw,lk.trans lz,?_,?_,?_,?_,M.trans (av▸mz)⟩
     .have e1:i64.wrap (i - 1)+1=i:=by rw[ao (by omega) (by omega)];omega
      rw[e1,<- Q,<- aa,<- ar];exact oz
     .rw [ao (by omega) (by omega)];omega
     .rw [ao (by omega) (by omega)];omega
     .rw [ao (by omega) (by omega)];omega
   .have ei:i= -1:=by omega
    subst ei;refine⟨rfl,y,I,V,lk,?_,M⟩;rw[Q,aa];exact oy)
theorem SI{w:World}{b:Nat}{x:HS}(h:cN w b x):Calls prog 187 #[ptr b] w λe w'=>e=.returned (.i x.l.length)/\ak w w':=by
 refine jR.aj ?_;exact bq rfl ⟨_,rfl,_,_,_,ae h.me rfl,rfl,aE.refl w⟩
theorem xR{w:World}{b:Nat}{x:HS}(h:cN w b x)(v:Int):Calls prog 167 #[ptr b,.i v] w λe w'=>e=.returned (.bool (decide (1<=v/\v<x.at_.length)))/\ak w w':=by
 refine kZ.aj ?_;refine bJ rfl (ah (λt=>⟨_,rfl,_,_,_,ae h.me rfl,?_,aE.refl w⟩) (λt=>⟨?_,aE.refl w⟩))<;>simp only[x7,x8,I9]at t
 .simp [t]
 .simp [t]
theorem IZ{w:World}{b:Nat}{x:HS}(h:cN w b x)(hb:x.l.length<2147483648):Calls prog 157 #[ptr b] w λe w'=>e=.returned (.tuple #[.i (if x.l.length=0 then 0 else g x.l 0),.bool (decide (x.l.length≠0))])/\ak w w':=by
 refine iZ.aj ?_;refine(SI h).mono ?_;rintro e w1⟨rfl,I⟩;have h:=h.grow I;refine⟨_,rfl,ah (λt=>⟨?_,I⟩) (λt=>⟨_,rfl,_,_,_,ae h.me rfl,h.hl.ix 0 (Ww _) rfl ?_ λa e=>⟨_,e,?_,I⟩⟩)⟩
 .have:x.l.length=0:=by have:=beq_iff_eq.1 t;omega
  simp[this]
 .have:=beq_eq_false_iff_ne.1 t;omega
 .have t:=beq_eq_false_iff_ne.1 t;have:x.l.length≠0:=by omega
  rw[pj (Ww 0),r8 this];simp[this]
structure pK(x:HS)(N:Int):Prop where
 ok:uQ x N
 n0:0<=N
 Up:Ord (g x.score) (g x.l) x.l.length 0 (-1)
 sc:∀v,0<=v->v<=N->0<=g x.score v/\g x.score v<=qd
 st:1<=x.step/\x.step<=qd
theorem UT{l:List Int}{f:Int->Int}(I:f 0=0)(v:Int):g (l.map f) v=f (g l v):=by
 unfold g;split
 .exact I.symm
 .simp only[vx,WW];cases l[v.toNat]? <;>simp[I]
theorem Am{y z:HS}{N v:Int}(n0:0<=N)(ok:uQ z N)(lk:Lk N (if pM y v then y.ko else y) z)(o:Ord (g z.score) (g z.l) z.l.length 0 (-1))
 (hs:∀u,0<=u->u<=N->0<=g y.score u/\g y.score u<=4398046511104/\(u≠v->g y.score u<=qd)) (ht:1<=y.step/\y.step<=4398046511104):pK z N:=by
 by_cases hm:pM y v
 .rw [v8 hm]at lk;have I:z.score=y.score.map f20:=lk.score;have J:z.step=imax 1 (f20 y.step):=lk.step;refine⟨ok,n0,o,λu u0 O=>?_,?_⟩
  .rw [I,UT rfl];have:=hs u u0 O;unfold f20 qd;omega
  .rw [J];unfold imax f20 qd;split<;>omega
 .rw [r8 hm]at lk;have I:z.score=y.score:=lk.score;have J:z.step=y.step:=lk.step;unfold pM at hm;refine⟨ok,n0,o,λu u0 O=>?_,?_⟩
  .rw [I];have:=hs u u0 O;by_cases e:u=v
   .subst e;omega
   .exact ⟨this.1,this.2.2 e⟩
  .rw [J];omega
theorem MN{w:World}{b:Nat}{x:HS}{N:Int}(h:cN w b x)(I:pK x N):Calls prog 113 #[ptr b] w λe w'=>e=.returned (.tuple #[])/\
 ∃z,cN w' b z/\pK z N/\Lk N (if qd<x.step+ (x.step / 16+1) then {x with step:=x.step+ (x.step / 16+1)}.ko else {x with step:=x.step+ (x.step / 16+1)}) z/\aE (x.bK b) w w':=by
 refine fU.aj ?_;have hN:=I.ok.Lm;have hs:=I.st;have V:=I.ok.na;have an:=I.n0;unfold qd at hs;refine bq rfl ⟨_,rfl,_,_,_,ae h.me rfl,bq ?_ ?_⟩
 .obtain ⟨q,hq,_⟩:=h.ha.cell (j:=0) (by omega);rw[hq];rfl
 have h:=h.drew;refine⟨_,rfl,_,ae h.me rfl,_,rfl,_,ae h.me rfl,by decide,_,rfl,?_⟩;have e1:i64.wrap (x.step+i64.wrap (i64.wrap (x.step.tdiv 16)+1))=x.step+ (x.step / 16+1):=by
  rw[Wc (by omega),ao (x:=x.step / 16) (by omega) (by omega),ao (x:=x.step / 16+1) (by omega) (by omega),ao (by omega) (by omega)]
 rw[e1];refine cz h.me rfl rfl λw8 o m=>?_;have Y:=h.Uk o m;have M8:aE (x.bK b) w w8:=((aE.refl w).drew).trans (m.mono λk _ Z=> .inl Z);refine(zI Y (I.ok.score rfl) 0 (by omega) I.n0 I.Up).mono ?_;rintro e w9⟨rfl,z,hz,Q,O,X,mz⟩;refine⟨rfl,rfl,z,hz,?_,?_,M8.trans mz⟩
 .refine Am I.n0 Q O X (λu u0 U=>?_) ?_
  .have:=I.sc u u0 U;unfold qd at this;exact⟨this.1,by show g x.score u<=_;omega,λ_=> (I.sc u u0 U).2⟩
  .show 1<=x.step+ (x.step / 16+1)/\x.step+ (x.step / 16+1)<=_;omega
 .have:pM {x with step:=x.step+ (x.step / 16+1)} 0↔qd<x.step+ (x.step / 16+1):=by
   unfold pM;have:=(I.sc 0 (Ww _) I.n0).2;constructor
   .rintro (h|h)
    .exact h
    .exact absurd this (by show ¬g x.score 0<=qd;exact Int.not_le.2 h)
   .exact .inl
  by_cases J:qd<x.step+ (x.step / 16+1)
  .rw [v8 J];rwa [v8 (this.2 J)]at O
  .rw [r8 J];rwa [r8 (λh=>J (this.1 h))]at O
theorem Ord.VY{S L:Int->Int}{n i:Int}(h:Ord S L n 0 (-1))(S':Int->Int)(O:∀j,0<=j->j<n->j≠i->S' (L j)=S (L j))(hi:0<=i->i<n->S (L i)<=S' (L i)):F_ S' L n i:=by
 constructor
 .intro j V I U;have J:=h j V I (by omega) (by omega);have e:=O j (by omega) I U;by_cases hp:(j - 1) / 2=i
  .have:=hi (by omega) (by omega);unfold Bt at*
   rw[hp]at J ⊢;rw[e];omega
  .have X:=O ((j - 1) / 2) (by omega) (by omega) hp;unfold Bt at*
   rw[e,X];omega
 .intro j V I U Y;have J:=h j V I (by omega) (by omega);have Q:=h i Y (by omega) (by omega) (by omega);rw[U]at J;have e:=O j (by omega) I (by omega);have X:=O ((i - 1) / 2) (by omega) (by omega) (by omega);have:=Bt.GO J Q;unfold Bt at*
  rw[e,X];omega
theorem PT{w:World}{b:Nat}{x:HS}{N:Int}(h:cN w b x)(J:pK x N)(v:Int):Calls prog 112 #[ptr b,.i v] w λe w'=>
 e=.returned (.i (if 1<=v/\v<=N then 0 else 1))/\∃z,cN w' b z/\pK z N/\
  Lk N (if 1<=v/\v<=N then (if qd<g x.score v+x.step then {x with score:=x.score.set v.toNat (g x.score v+x.step)}.ko else {x with score:=x.score.set v.toNat (g x.score v+x.step)}) else x) z/\aE (x.bK b) w w':=by
 refine gZ.aj ?_;have hN:=J.ok.Lm;have hs:=J.st;have bi:=J.ok.na;have b5:=J.ok.ns;have b4:=J.ok.nl;have az:=J.n0;unfold qd at hs;refine(xR h v).mono ?_;rintro e w1⟨rfl,g1⟩;have h:=h.grow g1;refine⟨_,rfl,ah (λt=>?_) (λt=>?_)⟩
 .have t: ¬(1<=v/\v<=N):=by simp at t;omega
  rw[r8 t,r8 t];exact⟨rfl,x,h,J,Lk.refl N x,g1.mono λ_ _ h=>h.elim⟩
 have t:1<=v/\v<=N:=by simp at t;omega
 rw[v8 t,v8 t];have h:=h.drew;have v0:0<=v:=by omega
 have v1:v<x.score.length:=by omega
 have sv:=J.sc v v0 t.2;have bn:g x.score v<=1099511627776:=sv.2;refine⟨_,rfl,_,_,_,ae h.me rfl,h.hs.ix 0 v0 rfl v1 λa e=>⟨_,e,_,rfl,_,ae h.me rfl,?_⟩⟩;try dsimp only
 rw[pj v0,ao (x:=g x.score v+x.step) (by omega) (by omega)];refine h.hs.st (g x.score v+x.step) rfl rfl v0 rfl v1 λV o m=>?_;have ni:=h.UK (by simp) o m;have ag:aE (x.bK b) w V:=((g1.mono λ_ _ h=>h.elim).drew).trans (m.mono λk _ hk=> .inr (.inr (.inr hk)));generalize U:({x with score:=x.score.set v.toNat (g x.score v+x.step)}:HS)=y at ni ⊢;have gy:g y.score=λj=>if j=v then g x.score v+x.step else g x.score j:=by rw[<- U];exact Dh v0 v1
 have Z:uQ y N:=by rw[<- U];exact J.ok.score (by simp)
 have yl:y.l=x.l:=by rw[<- U]
 have ya:y.at_=x.at_:=by rw[<- U]
 have yt:y.step=x.step:=by rw[<- U]
 have yf:y.bK b=x.bK b:=by rw[<- U];rfl
 have Y:g y.score v=g x.score v+x.step:=by rw[gy];simp
 have eh:∀z,uQ z N->Lk N y z->Ord (g y.score) (g z.l) z.l.length 0 (-1)->∀O,cN O b z->aE (x.bK b) w O->Calls prog 169 #[ptr b,.i v] O λe O=>e=.returned (.tuple #[])/\
  (Ending.returned (.i 0)=.returned (.i 0)/\∃z,cN O b z/\pK z N/\Lk N (if qd<g x.score v+x.step then y.ko else y) z/\aE (x.bK b) w O):=by
  intro z Q I oz O hz M;have zs:z.score=y.score:=I.score;have zt:z.step=y.step:=I.step;refine(zI hz Q v v0 t.2 (by rw[zs];exact oz)).mono ?_;rintro e b3⟨rfl,u,hu,ax,lu,ou,mu⟩;have gD:pM z v↔qd<g x.score v+x.step:=by unfold pM;rw[zs,zt,Y,yt];unfold qd;omega
  have a':Lk N (if qd<g x.score v+x.step then y.ko else y) u:=by
   by_cases hc:qd<g x.score v+x.step
   .rw [v8 (gD.2 hc)]at lu;rw[v8 hc];have ls:Lk N y.ko z.ko:=⟨I.pl,I.cl,I.pa,I.ca,I.ps,I.cs,I.l,I.a,congrArg (List.map f20) zs,congrArg (λt=>imax 1 (f20 t)) zt,I.has⟩
    exact ls.trans lu
   .rw [r8 (λh=>hc (gD.1 h))]at lu;rw[r8 hc];exact I.trans lu
  refine⟨rfl,rfl,u,hu,?_,a',M.trans (by have:=I.bK b;rw[this,yf]at mu;exact mu)⟩;refine Am az ax lu ou (λq q0 q1=>?_) (by rw[zt,yt];omega);rw[zs,gy];have:=J.sc q q0 q1;unfold qd at*
  by_cases e:q=v
  .subst e;simp;omega
  .simp [e];omega
 refine⟨_,rfl,_,_,_,ae ni.me rfl,ni.ha.ix 0 v0 rfl (by rw[ya];omega) λa e=>⟨_,e,?_⟩⟩;rw[pj v0];have bk:=J.ok.pos.bV v t.1 t.2;refine ah (λtt=>?_) (λtt=>?_)<;>simp only[x7,x8]at tt
 .refine ⟨_,rfl,_,_,_,ae ni.me rfl,ni.ha.ix 0 v0 rfl (by rw[ya];omega) λa e=>⟨_,e,?_⟩⟩;rw[ya]at tt ⊢;rw[pj v0,ao (x:=g x.at_ v - 1) (by omega) (by omega)];have hl:g x.l (g x.at_ v - 1)=v:=bk.2.2 tt;refine(Jp ni Z (g x.at_ v - 1) (by omega) (by rw[yl];omega) ?_).mono ?_
  .rw [yl];refine Ord.VY J.Up _ (λj j0 X j2=>?_) λ_ _=>?_
   .rw [gy];have:g x.l j≠v:=λe=>j2 (J.ok.pos.inj j0 X (by omega) (by omega) (by rw[e,hl]));simp[this]
   .rw [hl,Y];omega
  .rintro e a6 ⟨rfl,z,hz,Q,I,oz,mz⟩;exact⟨rfl,eh z Q I oz a6 hz (ag.trans (yf▸mz))⟩
 .refine eh y Z (Lk.refl N y) ?_ V ni ag;rw[yl];have no:∀j:Int,0<=j->j<x.l.length->g x.l j≠v:=by
   intro j j0 X e;have:=J.ok.pos.yL j j0 X;rw[e]at this;rw[ya]at tt;omega
  intro j X j2 j3 j4;have:=J.Up j X j2 j3 j4;unfold Bt at*
  rw[gy];simp only[no j (by omega) j2,no ((j - 1) / 2) (by omega) (by omega),I8];exact this
theorem RS{l:List Int}{v:Int}:g (l++ [v])=λj:Int=>if j=l.length then v else g l j:=by
 funext j;unfold g;simp only[vx];by_cases I:j<0
 .simp [I];omega
 .simp only[r8 I];by_cases e:j=l.length
  .subst e;simp
  .rw [r8 e];by_cases J:j.toNat<l.length
   .rw [Wd J]
   .rw [W6 (by simp;omega),W6 (by omega)]
structure VV(N v:Int)(x y:HS):Prop where
 pa:y.pa=x.pa
 ca:y.ca=x.ca
 ps:y.ps=x.ps
 cs:y.cs=x.cs
 a:y.at_.length=x.at_.length
 score:y.score=x.score
 step:y.step=x.step
 has:∀u,1<=u->u<=N->(0<g y.at_ u↔0<g x.at_ u\/u=v)
theorem PS{w:World}{b:Nat}{x:HS}{N:Int}(h:cN w b x)(V:pK x N)(v:Int)(hv:1<=v/\v<=N):Calls prog 171 #[ptr b,.i v] w λe w'=>
 e=.returned (.i 0)/\∃z,cN w' b z/\pK z N/\VV N v x z/\aE (x.bK b) w w'/\∀k,z.bK b k->x.bK b k\/w.heap.size<=k:=by
 refine g_.aj ?_;have hN:=V.ok.Lm;have bf:=V.ok.na;have bx:=V.ok.ns;have c1:=V.ok.nl;have ax:=V.n0;refine(xR h v).mono ?_;rintro e w1⟨rfl,g1⟩;have h:=h.grow g1;refine⟨_,rfl,bq ?_ ?_⟩
 .simp;omega
 have v0:0<=v:=by omega
 refine⟨_,rfl,_,_,_,ae h.me rfl,h.ha.ix 0 v0 rfl (by omega) λa e=>⟨_,e,?_⟩⟩;rw[pj v0];have bk:=V.ok.pos.bV v hv.1 hv.2;refine ah (λtt=>?_) (λtt=>?_)
 .have tt:g x.at_ v=0:=beq_iff_eq.1 tt;have no:∀j:Int,0<=j->j<x.l.length->g x.l j≠v:=by
   intro j j0 j1 e;have:=V.ok.pos.yL j j0 j1;rw[e]at this;omega
  have pp:=V.ok.pos.push (by omega) hv.1 hv.2 tt;have co:(x.l.length:Int)+1<=N:=by
   have:BB (λj=>if j=(x.l.length:Int) then v else g x.l j) (λu=>if u=v then (x.l.length:Int)+1 else g x.at_ u) ((x.l.length+1:Nat):Int) ((N.toNat:Nat):Int):=by
    rw[XQ ax];exact pp
   have:=this.le;omega
  refine⟨_,rfl,_,_,_,ae h.me rfl,?_⟩;intro n9 av an;have O:=h.grow an.mod;have ay:ak w av:=g1.trans an.mod;refine O.hl.jS cR v an.has rfl rfl eI (by omega) λcp p' c' o m hp c4=>?_;have S:∀k,aF p'=some k->aF x.pl=some k\/av.heap.size<=k:=by
   intro k I;rcases hp with rfl|rfl
   .exact .inl I
   .right;simp[aF]at I;omega
  have X:=O.lt;have m1:=O.me.keep m O.bl;refine⟨_,rfl,cz m1 rfl rfl λap bi ac=>?_⟩;have pb:aF p'≠some b:=λe=>by
   rcases S b e with e2|e2
   .exact O.bl e2
   .have:=X b (.inl rfl);omega
  generalize Z:({x with l:=x.l++ [v],pl:=p',cl:=c'}:HS)=y;have Q:cN ap b y:=by
   rw[<- Z];refine⟨?_,o.keep ac λk I e=>pb (e▸I),(O.ha.keep m λk I J=>O.la k J I).keep ac λk I e=>O.ba (e▸I),(O.hs.keep m λk I J=>O.ls k J I).keep ac λk I e=>O.bs (e▸I),pb,O.ba,O.bs,?_,?_,O.sa⟩
   .have e:(x.l++ [v]).length=x.l.length+1:=by simp
    show bO ap b #[.slice p' (x.l++ [v]).length c',_,_,_];rw[e];exact bi
   .intro k I J;rcases S k I with e|e
    .exact O.la k e J
    .have:=X k (.inr (.inr (.inl J)));omega
   .intro k I J;rcases S k I with e|e
    .exact O.ls k e J
    .have:=X k (.inr (.inr (.inr J)));omega
  have bg:aE (x.bK b) w ap:=(((ay.mono λ_ _ h=>h.elim).trans (m.mono λk _ I=> .inr (.inl I))).trans (ac.mono λk _ I=> .inl I))
  have yl:y.l=x.l++ [v]:=by rw[<- Z]
  have az:y.l.length=x.l.length+1:=by rw[yl];simp
  have ya:y.at_=x.at_:=by rw[<- Z]
  have ys:y.score=x.score:=by rw[<- Z]
  have yt:y.step=x.step:=by rw[<- Z]
  have yf:∀k,y.bK b k->x.bK b k\/w.heap.size<=k:=by
   rw[<- Z];rintro k (e|e|e|e)
   .exact .inl (.inl e)
   .rcases S k e with e|e
    .exact .inl (.inr (.inl e))
    .right;have:=ay.size;omega
   .exact .inl (.inr (.inr (.inl e)))
   .exact .inl (.inr (.inr (.inr e)))
  have Q:=Q.drew;refine⟨_,rfl,_,_,_,ae Q.me rfl,_,rfl,_,_,_,ae Q.me rfl,Q.ha.st ((y.l.length:Nat):Int) rfl rfl v0 rfl (by rw[ya];omega) λb3 bu aw=>?_⟩;have ag:=Q.Rh (by simp) bu aw;generalize hz:({y with at_:=y.at_.set v.toNat ((y.l.length:Nat):Int)}:HS)=z at ag;have zl:z.l=y.l:=by rw[<- hz]
  have zs:z.score=x.score:=by rw[<- hz];exact ys
  have zt:z.step=x.step:=by rw[<- hz];exact yt
  have Y:z.l.length=x.l.length+1:=by rw[zl,az]
  have za:g z.at_=λu=>if u=v then (x.l.length:Int)+1 else g x.at_ u:=by
   rw[<- hz];show g (y.at_.set v.toNat ((y.l.length:Nat):Int))=_;rw[Dh v0 (by rw[ya];omega),ya,az];funext u;split<;>omega
  have zL:g z.l=λj:Int=>if j=x.l.length then v else g x.l j:=by rw[zl,yl,RS]
  have aT:z.at_.length=x.at_.length:=by rw[<- hz];simp[ya]
  have zf:z.bK b=y.bK b:=by rw[<- hz];rfl
  have bb:aE (x.bK b) w b3:=bg.drew.then aw λk I e=> (yf k (.inr (.inr (.inl e)))).resolve_right (by omega);have b5:uQ z N:=by
   refine⟨by rw[aT];exact bf,by rw[zs];exact bx,hN,?_,by rw[Y];omega⟩;rw[zL,za,Y];exact pp
  refine⟨_,rfl,_,_,_,ae ag.me rfl,?_⟩;have ei:i64.wrap ((z.l.length:Int) - 1)=(x.l.length:Int):=by rw[Y,ao (by omega) (by omega)];omega
  try dsimp only
  rw[ei];refine(Jp ag b5 (x.l.length:Int) (by omega) (by rw[Y];omega) ?_).mono ?_
  .rw [zs,zL,Y];constructor
   .intro j j1 j2 j3;have:=V.Up j j1 (by omega) (by omega) (by omega);simp only[j3,I8,show ¬(j - 1) / 2=(x.l.length:Int) by omega];exact this
   .intro j j1 j2 j3 j4;omega
  .rintro e c2 ⟨rfl,q,hq,bY,U,oq,mq⟩;refine⟨rfl,rfl,q,hq,⟨bY,ax,by rw[U.score];exact oq,λu u0 u1=>by rw[U.score,zs];exact V.sc u u0 u1,by rw[U.step,zt];exact V.st⟩,?_,?_,?_⟩
   .refine ⟨by rw[U.pa,<- hz,<- Z],by rw[U.ca,<- hz,<- Z],by rw[U.ps,<- hz,<- Z],by rw[U.cs,<- hz,<- Z],by rw[U.a,aT],by rw[U.score,zs],by rw[U.step,zt],λu u0 u1=>?_⟩;rw[U.has u u0 u1,za];by_cases e:u=v
    .simp [e]
    .simp [e]
   .exact bb.then mq λk I e=> (yf k (zf▸e)).resolve_right (by omega)
   .intro k I;rw[U.bK b,zf]at I;exact yf k I
 .have tt:g x.at_ v≠0:=beq_eq_false_iff_ne.1 tt;refine⟨rfl,x,h,V,⟨rfl,rfl,rfl,rfl,rfl,rfl,rfl,λu u0 u1=>⟨.inl,?_⟩⟩,g1.mono λ_ _ h=>h.elim,λ_=> .inl⟩;rintro(h|rfl)
  .exact h
  .omega
structure VT(N v:Int)(x y:HS):Prop where
 pa:y.pa=x.pa
 ca:y.ca=x.ca
 ps:y.ps=x.ps
 cs:y.cs=x.cs
 a:y.at_.length=x.at_.length
 score:y.score=x.score
 step:y.step=x.step
 has:∀u,1<=u->u<=N->(0<g y.at_ u↔0<g x.at_ u/\u≠v)
theorem RV{w:World}{b:Nat}{x:HS}(h:cN w b x)(J:x.l.length=0):Calls prog 107 #[ptr b] w λe w'=>
 e=.returned (.tuple #[.i 0,.bool false])/\cN w' b x/\ak w w':=by
 refine eQ.aj ?_;refine(IZ h (by omega)).mono ?_;rintro e w1⟨rfl,I⟩;exact⟨_,_,rfl,bJ (by simp[J]) ⟨rfl,h.grow I,I⟩⟩
theorem Se{l:List Int}{k:Nat}{j:Int}(h:j<k):g (l.take k) j=g l j:=by
 unfold g;simp only[vx];split
 .rfl
 .rw [WE,v8 (by omega)]
theorem BB.congr{L A L' A':Int->Int}{n N:Int}(h:BB L A n N)(I:∀j,0<=j->j<n->L' j=L j)(O:∀u,1<=u->u<=N->A' u=A u):BB L' A' n N:=by
 constructor
 .intro j Q J;have f:=h.yL j Q J;rw[I j Q J,O _ f.1 f.2.1];exact f
 .intro v v1 v2;have f:=h.bV v v1 v2;rw[O v v1 v2];exact⟨f.1,f.2.1,λhp=>by rw[I _ (by omega) (by omega)];exact f.2.2 hp⟩
theorem Sb{w:World}{b:Nat}{x:HS}{N:Int}(h:cN w b x)(J:pK x N)(h0:x.l.length≠0):Calls prog 107 #[ptr b] w λe w'=>
 e=.returned (.tuple #[.i (g x.l 0),.bool true])/\∃z,cN w' b z/\pK z N/\VT N (g x.l 0) x z/\z.l.length+1=x.l.length/\aE (x.bK b) w w'/\z.bK b=x.bK b:=by
 refine eQ.aj ?_;have hN:=J.ok.Lm;have av:=J.ok.na;have a7:=J.ok.ns;have c2:=J.ok.nl;have az:=J.n0;obtain⟨n,hn⟩: ∃n,x.l.length=n+1:=⟨x.l.length - 1,by omega⟩
 refine(IZ h (by omega)).mono ?_;rintro e w1⟨rfl,g1⟩;have h:=h.grow g1;refine⟨_,_,rfl,?_⟩;rw[r8 h0,I4 h0];have f0:=J.ok.pos.yL 0 (Ww _) (by omega);have fn:=J.ok.pos.yL n (by omega) (by omega);have en:i64.wrap ((x.l.length:Int) - 1)=(n:Int):=by rw[ao (by omega) (by omega)];omega
 refine bq rfl ⟨_,rfl,_,_,_,ae h.me rfl,?_⟩;try dsimp only
 rw[en];refine⟨_,rfl,_,_,_,ae h.me rfl,h.hl.ix 0 (by omega) rfl (by omega) λa8 e8=>⟨_,e8,_,rfl,_,_,_,ae h.me rfl,?_⟩⟩;rw[pj (by omega)];have hc:n<=x.cl:=by
  rcases h.hl.un with⟨_,_,e⟩| ⟨_,_,_,_,e,_⟩
  .simp [e]at h0
  .omega
 refine gh 0 n x.cl rfl rfl rfl (vy _) hc (xc _) ?_;have ep:(if x.cl=0 then x.pl else x.pl.map (·.add (0*1)))=x.pl:=by
  split
  .rfl
  .cases x.pl<;>simp[Addr.add]
 rw[ep,WO,WO];refine⟨_,rfl,cz h.me rfl rfl λar o m=>?_⟩;generalize V:({x with l:=x.l.take n}:HS)=y;have ap:cN ar b y:=by
  rw[<- V];have ht:=h.hl.take (k:=n) (by omega);refine⟨?_,ht.keep m λk Y e=>h.bl (e▸Y),h.ha.keep m λk Y e=>h.ba (e▸Y),h.hs.keep m λk Y e=>h.bs (e▸Y),h.bl,h.ba,h.bs,h.la,h.ls,h.sa⟩;have e:(x.l.take n).length=n:=by simp;omega
  show bO ar b #[.slice x.pl (x.l.take n).length x.cl,_,_,_];rw[e];exact o
 have bx:aE (x.bK b) w ar:=(g1.mono λ_ _ h=>h.elim).trans (m.mono λk _ Y=> .inl Y);have yl:y.l=x.l.take n:=by rw[<- V]
 have b9:y.l.length=n:=by rw[yl];simp;omega
 have ya:y.at_=x.at_:=by rw[<- V]
 have yf:y.bK b=x.bK b:=by rw[<- V];rfl
 refine⟨_,rfl,_,_,_,ae ap.me rfl,ap.ha.st 0 rfl rfl (by omega) rfl (by rw[ya];omega) λb5 b7 ay=>?_⟩;have tz:=ap.Rh (by simp) b7 ay;generalize X:({y with at_:=y.at_.set (g x.l 0).toNat 0}:HS)=z at tz;have zl:z.l=y.l:=by rw[<- X]
 have I:z.l.length=n:=by rw[zl,b9]
 have zs:z.score=x.score:=by rw[<- X,<- V]
 have zt:z.step=x.step:=by rw[<- X,<- V]
 have zf:z.bK b=x.bK b:=by rw[<- yf,<- X];rfl
 have O:z.at_.length=x.at_.length:=by rw[<- X];simp[ya]
 have za:g z.at_=λu=>if u=g x.l 0 then 0 else g x.at_ u:=by
  rw[<- X];show g (y.at_.set (g x.l 0).toNat 0)=_;rw[Dh (by omega) (by rw[ya];omega),ya]
 have a':aE (x.bK b) w b5:=bx.trans (ay.mono λk _ Y=>by rw[<- yf];exact .inr (.inr (.inl Y)));have pp:=BB.Ve (n:=(n:Int)) (by have:=J.ok.pos;rw[hn]at this;exact this) (by omega) rfl;have a_:z.pa=x.pa:=by rw[<- X,<- V]
 have ax:z.ca=x.ca:=by rw[<- X,<- V]
 have a6:z.ps=x.ps:=by rw[<- X,<- V]
 have bb:z.cs=x.cs:=by rw[<- X,<- V]
 refine ah (λt=>?_) (λt=>?_)<;>simp only[x7,x8]at t
 .have n0:(n:Int)≠0:=by omega
  refine(sJ tz 0 (g x.l n) (Ww _) (by rw[I];omega) (by omega) (by rw[O];omega) (by rw[I];omega)).mono ?_;rintro e c1⟨rfl,b3,bu⟩;have bf:g (z.put 0 (g x.l n)).l=λj=>if j=0 then g x.l n else g z.l j:=oO (Ww _) (by rw[I];omega)
  have aa:g (z.put 0 (g x.l n)).at_=λu=>if u=g x.l n then 0+1 else g z.at_ u:=Ft (by omega) (by rw[O];omega)
  have U:∀j:Int,0<=j->j<n->g (z.put 0 (g x.l n)).l j=if j=0 then g x.l n else g x.l j:=by
   intro j j0 j1;rw[bf];show (if j=0 then g x.l n else g z.l j)=_;split
   .rfl
   .rw [zl,yl,Se (by omega)]
  have aT:uQ (z.put 0 (g x.l n)) N:=by
   refine⟨by simpa[HS.put,O]using av,by show (z.score.length:Int)=_;rw[zs];exact a7,hN,?_,by simp[HS.put,I];omega⟩;have e1:((z.put 0 (g x.l n)).l.length:Int)=n:=by simp[HS.put,I]
   rw[e1];refine BB.congr pp U λu u0 u1=>?_;rw[aa,za];simp only[r8 n0];rfl
  refine⟨rfl,?_⟩;have e1:(z.put 0 (g x.l n)).l.length=n:=by simp[HS.put,I]
  refine(CU b3 aT 0 (Ww _) (by rw[e1];omega) 0 (Ww _) ⟨?_,λj j1 j2 j3 j4=>by omega⟩).mono ?_
  .rw [e1];show Ord (g z.score) _ _ _ _;rw[zs];intro j j1 j2 j3 j4;rw[U j (by omega) j2,U ((j - 1) / 2) (by omega) (by omega),r8 (by omega),r8 j4];exact J.Up j j1 (by omega) (by omega) (by omega)
  .rintro e c7 ⟨rfl,q,hq,b8,Q,oq,mq⟩;have qs:q.score=x.score:=Q.score.trans zs;have pf:(z.put 0 (g x.l n)).bK b=x.bK b:=zf;refine⟨rfl,rfl,q,hq,⟨b8,az,?_,λu u0 u1=>by rw[qs];exact J.sc u u0 u1,by rw[show q.step=x.step from Q.step.trans zt];exact J.st⟩,?_,?_,?_,?_⟩
   .rw [qs,<- zs];exact oq
   .refine ⟨Q.pa.trans a_,Q.ca.trans ax,Q.ps.trans a6,Q.cs.trans bb,Q.a.trans (by simp[HS.put,O]),qs,Q.step.trans zt,λu u0 u1=>?_⟩;rw[Q.has u u0 u1,aa,za];have Z:g x.l n≠g x.l 0:=λe=>by have:=J.ok.pos.inj (by omega) (by omega) (Ww 0) (by omega) e;omega
    by_cases e1:u=g x.l n
    .subst e1;simp[Z];omega
    .by_cases e2:u=g x.l 0
     .simp [e2,WL Z]
     .simp [e1,e2]
   .have:=Q.l;omega
   .exact (a'.trans (zf▸bu)).trans (pf▸mq)
   .rw [Q.bK b,pf]
 .have n0:n=0:=by omega
  subst n0;refine⟨rfl,z,tz,⟨⟨by rw[O];exact av,by rw[zs];exact a7,hN,?_,by rw[I];omega⟩,az,?_,λu u0 u1=>by rw[zs];exact J.sc u u0 u1,by rw[zt];exact J.st⟩,⟨a_,ax,a6,bb,O,zs,zt,λu u0 u1=>?_⟩,by rw[I,hn],a',zf⟩
  .rw [I];refine BB.congr pp (λj j0 j1=>by omega) λu u0 u1=>?_;rw[za];show (if u=g x.l 0 then 0 else g x.at_ u)=if u=g x.l ((0:Nat):Int) then (if ((0:Nat):Int)=0 then 0 else 1) else if u=g x.l 0 then 0 else g x.at_ u
   split
   .subst_vars;simp
   .rename_i Z;rw[r8 (by simpa using Z)]
  .rw [I];intro j j1 j2;omega
  .rw [za];by_cases e:u=g x.l 0
   .simp [e]
   .simp [e]
end
section
theorem iC:(Tryz.prog.info? aB).bind (·.zero)=some (.i 0):=by kernel_rfl
theorem Ge(n:Nat)(v:Int):g (List.replicate n 0) v=0:=by
 unfold g;split
 .rfl
 .simp only[vx,List.getElem?_replicate];split<;>rfl
structure zK(x:HS)(n t:Nat):Prop where
 l:x.l.length=t
 lj:∀j:Int,0<=j->j<t->g x.l j=j+1
 a:x.at_.length=n+1
 au:∀u:Int,0<=u->u<=n->g x.at_ u=if u<=t then u else 0
 s:x.score=List.replicate (n+1) 0
 st:x.step=64
theorem zK.Vm{x:HS}{n:Nat}(h:zK x n n)(hn:n<=1048576):pK x n:=by
 have hl:=h.l;refine⟨⟨by rw[h.a];omega,by rw[h.s];simp,by omega,⟨λj J I=>?_,λv v1 v2=>?_⟩,by rw[hl];omega⟩,by omega,λj I Q O U=>?_,λv _ _=>?_,by rw[h.st];decide⟩
 .have:=h.lj j J (by omega);rw[this,h.au _ (by omega) (by omega)];refine⟨by omega,by omega,?_⟩;rw[v8 (by omega)]
 .rw [h.au v (by omega) v2,v8 v2];refine⟨by omega,by omega,λ_=>?_⟩;rw[h.lj _ (by omega) (by omega)];omega
 .rw [h.lj j (by omega) (by omega),h.lj _ (by omega) (by omega),h.s];unfold Bt;rw[Ge,Ge];omega
 .rw [h.s,Ge];decide
theorem zX{w:World}(n:Nat)(hn:n<=1048576):Calls prog 62 #[.i n] w λe w'=>∃b x,e=.returned (.tuple #[ptr b,.i 0])/\cN w' b x/\zK x n n/\(∀k,x.bK b k->w.heap.size<=k)/\ak w w':=by
 refine sY.aj ?_;refine bq (x9 (by omega)) (bq (x9 (by omega)) ?_);have e1:i64.wrap ((n:Int)+1)=((n+1:Nat):Int):=by rw[ao (by omega) (by omega)];omega
 rw[e1];have made:∀ (b:Nat) (x:HS) (w6:World),cN w6 b x->zK x n 0->(∀k,x.bK b k->w.heap.size<=k)->ak w w6->
  ∃I7:Int->World->Nat->Prop,(∃k8,I7 1 w6 k8)/\
   ∀ (J:Int) (Q:World) (k8:Nat) (_:Fr),I7 J Q k8->
   aD (decide (J<=(n:Int)))
    (∃bi,(some (qw b))=some bi/\∃av ag ar,Q.cell? (bi.add 0)=some (.slice av ag ar)/\
      ∀n14 bf,jz (.cells #[.i J] aB) Q n14 bf->
      ∃bb aa ap Z,(Builtin.append_ #[aI,aI] aI #[.slice av ag ar,.slice (some (qw n14)) 1 1]).run prog bf=.ok (.slice aa ap Z) bb/\
      ∃bx,(some (qw b))=some bx/\∃ax,bD (bx.add 0) 0 [.slice aa ap Z] bb ax/\
      ∃bg,(some (qw b))=some bg/\∃an ac a8,ax.cell? (bg.add 1)=some (.slice an ac a8)/\
      aV an ac J 1 λa22=>
      ∃bk,bD a22 0 [.i J] ax bk/\
      ∃k9,k9<k8/\I7 (i64.wrap (J+ (1:Int))) bk k9)
    (∃b' x,Ending.returned (.tuple #[.pointer (some (qw b)),.i 0])=.returned (.tuple #[ptr b',.i 0])/\cN Q b' x/\zK x n n/\(∀k,x.bK b' k->w.heap.size<=k)/\ak w Q):=by
  intro b x w6 h f hf G;refine⟨λv w' k=>∃ (t:Nat) (y:HS),v=t+1/\t<=n/\cN w' b y/\zK y n t/\(∀k,y.bK b k->w.heap.size<=k)/\ak w w'/\k+t=n,⟨n,0,x,by omega,by omega,h,f,hf,G,by omega⟩,?_⟩;clear h f hf G;rintro v Q k _⟨t,x,rfl,ht,h,f,hf,G,I⟩;refine ah (λtt=>?_) (λtt=>?_)<;>simp only[x7,x8]at tt
  .refine ⟨_,rfl,_,_,_,ae h.me rfl,?_⟩;intro n9 a6 ay;have U:=h.grow ay.mod;have bu:ak w a6:=G.trans ay.mod;have hl:=f.l;refine U.hl.jS cR ((t:Int)+1) ay.has rfl rfl eI (by omega) λQ p' c' o m hp c7=>?_;have X:=U.lt;have S:∀k,aF p'=some k->aF x.pl=some k\/a6.heap.size<=k:=by
    intro k I;rcases hp with rfl|rfl
    .exact .inl I
    .right;simp[aF]at I;omega
   have S2:∀k,aF p'=some k->w.heap.size<=k:=λk I=> (S k I).elim (λe=>hf k (.inr (.inl e))) (λe=>Wl bu.size e);have m1:=U.me.keep m U.bl;refine⟨_,rfl,cz m1 rfl rfl λaT b5 Y=>?_⟩;have pb:aF p'≠some b:=λe=>by
    rcases S b e with e2|e2
    .exact U.bl e2
    .have:=X b (.inl rfl);omega
   have aw:cN aT b {x with l:=x.l++ [(t:Int)+1],pl:=p',cl:=c'}:=by
    refine⟨?_,o.keep Y λk I e=>pb (e▸I),(U.ha.keep m λk I O=>U.la k O I).keep Y λk I e=>U.ba (e▸I),(U.hs.keep m λk I O=>U.ls k O I).keep Y λk I e=>U.bs (e▸I),pb,U.ba,U.bs,?_,?_,U.sa⟩
    .have e:(x.l++ [(t:Int)+1]).length=x.l.length+1:=by simp
     show bO aT b #[.slice p' (x.l++ [(t:Int)+1]).length c',_,_,_];rw[e];exact b5
    .intro k I O;rcases S k I with e|e
     .exact U.la k e O
     .have:=X k (.inr (.inr (.inl O)));omega
    .intro k I O;rcases S k I with e|e
     .exact U.ls k e O
     .have:=X k (.inr (.inr (.inr O)));omega
   have b4:ak w Q:=bu.then m λk I e=>by have:=hf k (.inr (.inl e));omega
   have b3:ak w aT:=b4.then Y λk I e=>by have:=hf b (.inl rfl);omega
   refine⟨_,rfl,_,_,_,ae aw.me rfl,aw.ha.st ((t:Int)+1) rfl rfl (by omega) rfl (by have:=f.a;show (t:Int)+1< (x.at_.length:Int);omega) λc3 b8 a'=>?_⟩;have b7:=aw.Rh (by simp) b8 a';refine⟨k - 1,by omega,t+1,_,?_,by omega,b7,?_,?_,?_,by omega⟩
   .rw [ao (by omega) (by omega)];omega
   .refine ⟨by simp[hl],λj j0 j1=>?_,by simpa using f.a,λu u0 u1=>?_,f.s,f.st⟩
    .show g (x.l++ [(t:Int)+1]) j=j+1;rw[RS];show (if j=(x.l.length:Int) then (t:Int)+1 else g x.l j)=j+1;split
     .omega
     .exact f.lj j j0 (by omega)
    .show g (x.at_.set ((t:Int)+1).toNat ((t:Int)+1)) u=_;rw[Dh (by omega) (by have:=f.a;omega)];show (if u=(t:Int)+1 then (t:Int)+1 else g x.at_ u)=_;rw[f.au u u0 u1];split
     .rw [v8 (by omega)];omega
     .split
      .rw [v8 (by omega)]
      .rw [r8 (by omega)]
   .rintro k (e|e|e|e)
    .exact hf k (.inl e)
    .exact S2 k e
    .exact hf k (.inr (.inr (.inl e)))
    .exact hf k (.inr (.inr (.inr e)))
   .exact b3.then a' λk I e=>by have:=hf k (.inr (.inr (.inl e)));omega
  .have:t=n:=by omega
   subst this;exact⟨b,x,rfl,h,f,hf,G⟩
 have G0:ak w w.drew:=(aE.refl w).drew;have s0:w.drew.heap.size=w.heap.size:=rfl;refine⟨?_,?_⟩<;>refine ra cR iC (f:=Value.int .i64) (x:=0) rfl (n+1) rfl (by omega) λw1 o1 g1 z1=>ra cR iC (f:=Value.int .i64) (x:=0) rfl (n+1) rfl (by omega) λw3 o3 g3 z3=>?_<;>intro n5 w6 V<;>have bn:=(o1.grow g3).grow V.mod<;>have a7:=o3.grow V.mod<;>have cp:=V.num
 .refine made n5 ⟨none,0,some ⟨w.heap.size,0,none⟩,n+1,some ⟨w1.heap.size,0,none⟩,n+1,[],List.replicate (n+1) 0,List.replicate (n+1) 0,64⟩ w6 ⟨?_,Ow.nil _ _ _,bn,a7,?_,?_,?_,?_,?_,?_⟩ ⟨rfl,λj j0 j1=>by omega,by simp,λu u0 u1=>?_,rfl,rfl⟩ ?_ (((G0.trans g1).trans g3).trans V.mod)
  .have:=V.has;simpa using this
  .simp [aF]
  .simp [aF];omega
  .simp [aF];omega
  .simp [aF]
  .simp [aF]
  .simp [aF];omega
  .rw [Ge];split<;>omega
  .rintro k (e|e|e|e)<;> (try simp[aF]at e)<;>omega
 .refine made n5 ⟨none,0,some ⟨w1.heap.size,0,none⟩,n+1,some ⟨w.heap.size,0,none⟩,n+1,[],List.replicate (n+1) 0,List.replicate (n+1) 0,64⟩ w6 ⟨?_,Ow.nil _ _ _,a7,bn,?_,?_,?_,?_,?_,?_⟩ ⟨rfl,λj j0 j1=>by omega,by simp,λu u0 u1=>?_,rfl,rfl⟩ ?_ (((G0.trans g1).trans g3).trans V.mod)
  .have:=V.has;simpa using this
  .simp [aF]
  .simp [aF];omega
  .simp [aF];omega
  .simp [aF]
  .simp [aF]
  .simp [aF];omega
  .rw [Ge];split<;>omega
  .rintro k (e|e|e|e)<;> (try simp[aF]at e)<;>omega
end
