/- Quotas, plain. -/
import Derived.Test.YtbdghpjnifjlmaaGreatLearnA
import Derived.Test.YtbdghpjnifjlmaaGreatLitA
import Derived.Test.YtbdghpjnifjlmaaGreatSortA
set_option linter.all false
namespace Go.QuP
def quo(first:Nat):Nat->Nat
 |0=>first
 |t+1=>quo first t+quo first t / 10+1
theorem NO{a b:Nat}(h:a<=b):∀t,quo a t<=quo b t
 |0=>h
 |t+1=>by
  have:=NO h t;unfold quo;omega
theorem Al(a:Nat):∀s t,s<=t->quo a s<=quo a t:=by
 intro s t h
 induction t with
 |zero=>rw[show s=0 by omega];exact vy _
 |succ t ih=>
  by_cases e:s=t+1
  .rw [e];exact vy _
  .have:=ih (by omega);have:quo a t<=quo a (t+1):=by simp only[quo];omega
   omega
theorem Qj:quo 1048576 101<1000000000000:=by decide+kernel
theorem NP{a t:Nat}(h:a<=1048576)(ht:t<=101):quo a t<1000000000000:=
 Nat.lt_of_le_of_lt (Wl (NO h t) (Al _ t 101 ht)) Qj
end Go.QuP
namespace Go.Proofs.YtbdghpjnifjlmaaGreat.W.Re
open Go Go.Fw Go.RowKit Go.SoP Go.RedP Go.QuP
variable{w:World}{p:sn}{n c:Nat}{l:List Lr}
def Gq(first times:Int):Bool:=decide (1<=first/\first<=1048576/\0<=times/\times<=100)
def nZ(first times:Int):Int:=if Gq first times then (quo first.toNat times.toNat:Int) else 0
theorem LU(first times:Int)(w:World):Calls Tryz.prog 175 #[.i first,.i times] w λe w'=>e=.returned (.i (nZ first times))/\ak w w':=by
 refine lO.aj ?_;have np:Gq first times=false->(Ending.returned (.i 0)=.returned (.i (nZ first times))/\ak w w):=λh=>by unfold nZ;rw[h];exact⟨rfl,aE.refl w⟩
 refine ah (λq=>np (by simp at q;unfold Gq;exact x9 (by omega))) (λQ=>ah (λq=>np (by simp at q;unfold Gq;exact x9 (by omega))) (λO=>ah (λq=>np (by simp at q;unfold Gq;exact x9 (by omega))) (λU=>ah (λq=>np (by simp at q;unfold Gq;exact x9 (by omega))) (λI=>?_))));simp only[x8]at Q O U I;have hm:Gq first times=true:=I4 (by omega)
 refine⟨λN V w' k=>∃t:Nat,V=t/\N=(quo first.toNat t:Nat)/\(t:Int)<=times/\k=times.toNat - t/\ak w w',⟨_,0,rfl,by simp only[quo];omega,by omega,rfl,aE.refl w⟩,?_⟩;rintro N V w1 k _⟨t,rfl,rfl,ht,rfl,G⟩;have b0:=NP (a:=first.toNat) (t:=t) (by omega) (by omega);have b1:=NP (a:=first.toNat) (t:=t+1) (by omega) (by omega);refine ah (λq=>?_) (λq=>⟨?_,G⟩)
 .have q:(t:Int)<times:=by simpa using q
  refine⟨by decide,_,?_,t+1,wN,?_,by omega,rfl,G⟩
  .omega
  .have J:IntKind.i64.wrap (((quo first.toNat t:Nat):Int).tdiv 10)=((quo first.toNat t / 10:Nat):Int):=wN (by rw[Wc (by omega)];omega) (by omega);have X:IntKind.i64.wrap (((quo first.toNat t / 10:Nat):Int)+1)=((quo first.toNat t / 10+1:Nat):Int):=wN;rw[J,X];exact wN (by simp only[quo];omega) (by omega)
 .have q:(t:Int)=times:=by simp at q;omega
  unfold nZ;rw[hm,v8 rfl,<- q,tn]
theorem Sg(I first times:Int)(w:World):Calls Tryz.prog 117 #[.i I,.i first,.i times] w λe w'=>e=.returned (.bool (decide (nZ first times>0) && decide (I>=nZ first times)))/\ak w w':=by
 refine pd.aj ?_;refine(LU first times w).mono ?_;rintro e w1⟨rfl,J⟩;refine⟨_,rfl,ah (λq=>⟨?_,J⟩) (λq=>⟨?_,J⟩)⟩
 .rw [q];rfl
 .rw [q];rfl
end Go.Proofs.YtbdghpjnifjlmaaGreat.W.Re
namespace Go.Proofs.YtbdghpjnifjlmaaGreat.W
open Go Go.Fw Go.RowKit Go.SoP Go.LiP
open Go.Proofs.Tryz (prog)
section
variable{w:World}{p q:sn}{n c:Nat}{l:List Int}
theorem SH{hs:List Sl}{cs:lq}(Q:V2 sT w q hs cs){m t:Nat}(hm:m=cs.length)(ht:t<cs.length){K:Addr->Prop}
 (J:∀a (s:Sl),w.cell? a=some (.slice s.p s.n s.c)->s.n=(cs.getD t []).length->s.n<=maxLen->Vw sT w s.p (cs.getD t [])->s=hs.getD t Sl.nil->K a):aV q m (t:Int) 1 K:=
 ID Q hm ht λa s e hs h1 I O=>J a s e h1 I O hs
theorem DI{α:Type}{a b:List α}{t:Nat}{d:α}(ha:t<a.length)(hb:t<b.length)(h:a.take t=b.take t)(e:a.getD t d=b.getD t d):a.take (t+1)=b.take (t+1):=by
 have I:a[t]? =some (a.getD t d):=by simp[List.getD,ha]
 have J:b[t]? =some (b.getD t d):=by simp[List.getD,hb]
 rw[Wo,Wo,h,I,J,e]
theorem Fv{v:List Int}{m d:Nat}(h:Vw sT w p l)(hn:n=l.length)(hm:n<=maxLen)(Q:Vw sT w q v)(O:m=v.length):Calls prog 125 #[.slice p n c,.slice q m d] w λe w'=>e=.returned (.bool (decide (l=v)))/\ak w w':=by
 refine dY.aj ?_;unfold maxLen at hm;refine ah (λs=>⟨?_,aE.refl w⟩) (λs=>?_)
 .have s:(n:Int)≠m:=by simpa using s
  rw[x9];rintro rfl;omega
 .have s:(n:Int)=m:=by simpa using s
  refine⟨λI w' k=>∃t:Nat,I=t/\t<=n/\k=n - t/\l.take t=v.take t/\ak w w',⟨_,0,rfl,xc _,rfl,rfl,aE.refl w⟩,?_⟩;rintro I w2 X _⟨t,rfl,ht,rfl,ha,G⟩;refine ah (λr=>?_) (λr=>⟨?_,G⟩)
  .have r:t<n:=by simpa using r
   refine(h.grow G).drew.ix 0 (by omega) hn (by omega) λa e=>⟨_,e,(Q.grow G).drew.ix 0 (by omega) O (by omega) λa e=>⟨_,e,?_⟩⟩
   rw[tn];refine ah (λJ=>⟨?_,G.drew⟩) (λJ=>⟨_,?_,t+1,wN,by omega,rfl,DI (d:=0) (by omega) (by omega) ha (by simpa using J),G.drew⟩)
   .have J:l.getD t 0≠v.getD t 0:=by simpa using J
    rw[x9];rintro rfl;exact J rfl
   .omega
  .have r:t=n:=by simp at r;omega
   subst r;have V:l.take t=l:=Wi (by omega);have U:v.take t=v:=Wi (by omega);rw[V,U]at ha;rw[I4 ha]
end
section
variable{w:World}{p q:sn}{n c:Nat}{l:List Int}
theorem iP:mg prog eJ aI 24=true:=by kernel_rfl
theorem QQ(h:Vw sT w p l)(hn:n=l.length)(hm:n<=maxLen){I:FuncId}{U:Array Value}(he:f_ prog I=true)(pr:Int->Bool)
 (hf:∀x∈l,∀w',ak w w'->Calls prog I (#[]++ #[.i x]++U) w' λe w2=>e=.returned (.bool (pr x))/\ak w' w2):
 Calls prog 93 #[.slice p n c,.func (.func I) #[] U] w λe w'=>ak w w'/\((e=.returned (.i (-1))/\∀t,t<l.length->pr (l.getD t 0)=false)\/
  ∃t:Nat,e=.returned (.i t)/\t<l.length/\pr (l.getD t 0)=true/\∀j,j<t->pr (l.getD j 0)=false):=by
 refine bS.aj ?_;unfold maxLen at hm;refine⟨λv w' k=>∃t:Nat,v=t/\t<=l.length/\k=l.length - t/\(∀j,j<t->pr (l.getD j 0)=false)/\ak w w',⟨_,0,rfl,xc _,rfl,λj J=>by omega,aE.refl w⟩,?_⟩;rintro v V k _⟨t,rfl,ht,rfl,ha,G⟩;refine ah (λq=>?_) (λq=>⟨G,.inl ⟨rfl,λj J=>ha j (by simp at q;omega)⟩⟩);have Q:t<l.length:=by simp at q;omega
 refine(h.grow G).ix 0 (by omega) hn (by omega) λa e=>⟨_,e,?_⟩
 rw[he];show Calls _ _ _ _ _;rw[tn];refine(hf _ (cw Q) V G).mono ?_;rintro e X⟨rfl,O⟩;refine⟨_,rfl,ah (λs=>⟨G.trans O,.inr ⟨t,rfl,Q,s,ha⟩⟩) (λs=>⟨_,?_,t+1,wN,by omega,rfl,λj J=>?_,G.trans O⟩)⟩
 .omega
 .by_cases e:j=t
  .subst e;exact s
  .exact ha j (by omega)
theorem pB{f:Int->Bool}{t:Nat}(h:t<l.length):(l.take (t+1)).filter f=(l.take t).filter f++ (if f (l.getD t 0) then [l.getD t 0] else []):=by
 rw[Wo,Yi];have:l[t]? =some (l.getD t 0):=by simp[List.getD,h]
 rw[this];simp only[Xn,Yh,Ze]
theorem xp(o:d_ aB w p c l)(hn:n=l.length)(hm:n<=1000000){Q:FuncId}{fv:Array Value}(he:f_ prog Q=true)(pr:Int->Bool)
 (hf:∀x∈l,∀w',aE (Bk p) w w'->Calls prog Q (#[]++ #[.i x]++fv) w' λe w2=>e=.returned (.bool (pr x))/\ak w' w2):
 Calls prog 151 #[.slice p n c,.func (.func Q) #[] fv] w λe w'=>e=.returned (.slice p (l.filter λx=> !pr x).length c)/\d_ aB w' p c (l.filter λx=> !pr x)/\aE (Bk p) w w':=by
 refine cQ.aj ?_;refine(QQ o.vw hn (by unfold maxLen;omega) he pr λx O w' g=>hf x O w' (g.mono λ_ _=>False.elim)).mono ?_;rintro e w1⟨g1,⟨rfl,an⟩| ⟨t,rfl,ht,ar,ac⟩⟩
 .have:(l.filter λx=> !pr x)=l:=by
   rw[Yq];intro x O;obtain⟨j,V,e⟩:=Bs.1 O;have:=an j V;simp only[List.getD,V9 V,Wn,e]at this;rw[this];rfl
  rw[this];exact⟨_,rfl,bJ rfl ⟨by rw[hn],o.grow g1,g1.mono λ_ _=>False.elim⟩⟩
 .have M1:aE (Bk p) w w1:=g1.mono λ_ _=>False.elim;have a7:l.length<=c:=by
   rcases o.un with⟨_,_,rfl⟩| ⟨_,_,_,_,h,_⟩
   .simp at ht
   .exact h
  have f0:(l.take t).filter (λx=> !pr x)=l.take t:=by
   rw[Yq];intro x O;obtain⟨j,V,e⟩:=Bs.1 O;rw[y6]at V;have h2:=ac j (by omega);rw[XP]at e;simp only[List.getD,V9 (show j<l.length by omega),Wn,e]at h2;rw[h2];rfl
  have f1:(l.take (t+1)).filter (λx=> !pr x)=l.take t:=by
   rw[pB ht,f0,ar];simp
  refine⟨_,rfl,bq (by simp) ?_⟩;have et:IntKind.i64.wrap ((t:Int)+1)=((t+1:Nat):Int):=wN;rw[et];refine⟨λI J w' k=>∃ (i j:Nat) (cur:List Int),I=i/\J=j/\i<j/\j<=n/\k=n - j/\cur.length=n/\(∀x,j<=x->x<n->cur.getD x 0=l.getD x 0)/\cur.take i=(l.take j).filter (λx=> !pr x)/\d_ aB w' p c cur/\aE (Bk p) w w',⟨_,t,t+1,l,rfl,rfl,by omega,by omega,rfl,hn.symm,λ_ _ _=>rfl,f1.symm,o.grow g1,M1⟩,?_⟩;rintro I J w2 k _⟨i,j,cur,rfl,rfl,a6,V,rfl,Y,O,U,o2,m2⟩;refine ah (λs=>?_) (λs=>?_)
  .have s:j<n:=by simpa using s
   have sl:j<l.length:=by omega
   refine o2.ix 0 (by omega) Y.symm (by omega) λa e=>⟨_,e,?_⟩
   rw[tn,O j (vy _) s,he];show Calls _ _ _ _ _;refine(hf _ (cw sl) w2 m2).mono ?_;rintro e w3⟨rfl,Z⟩;have X:=pB (f:=λx=> !pr x) sl;refine⟨_,rfl,ah (λr=>?_) (λr=>?_)⟩
   .rw [v8 r]at X;refine(o2.grow Z).st (l.getD j 0) rfl rfl (by omega) Y.symm (by omega) λw4 o4 m4=>?_;rw[tn]at o4;refine⟨_,?_,i+1,j+1,_,wN,wN,by omega,by omega,rfl,by simpa using Y,λx x1 x2=>?_,?_,o4,(m2.grow Z).trans m4⟩
    .omega
    .rw [Cg (by omega),r8 (by omega)];exact O x (by omega) x2
    .rw [pW (by omega),U,X]
   .rw [r8 (by rw[r];exact Bool.false_ne_true),W9]at X;refine⟨_,?_,i,j+1,cur,rfl,wN,by omega,by omega,rfl,Y,λx x1 x2=>O x (by omega) x2,by rw[U,X],o2.grow Z,m2.grow Z⟩;omega
  .have s:j=n:=by simp at s;omega
   have e0:l.take j=l:=Wi (by omega);rw[e0]at U;have ap:(l.filter λx=> !pr x).length=i:=by rw[<- U];simp;omega
   refine gh i n c rfl rfl rfl (by omega) (by omega) (by omega) ?_;rw[r8 (by omega)];refine o2.clear cR iC (x:=(0:Int)) rfl rfl (by omega) (by omega) λw3 o3 m3=>?_;refine gh 0 i c rfl rfl rfl (by omega) (by omega) (by omega) ?_;rw[r8 (by omega),WO,WO,TT,ap];rw[U]at o3;exact⟨rfl,o3,m2.trans m3⟩
end
section
variable{w w' w2:World}{b:Nat}
inductive Pt where
 |st|c|wa|va|le|re|tr|be|ds|lo
 |w (i:Nat)|l (i:Nat)|a (i:Nat)
deriving DecidableEq
def Pt.row:Pt->Bool
 | .st| .c| .wa=>false
 |_=>true
def Pt.f:Pt->Int->Value
 | .va=>Value.int .i8
 |_=>Value.int .i64
def Pt.T:Pt->TypeId
 | .va=>zj
 |_=>aB
def Pt.off:Pt->Nat
 | .c=>1| .wa=>2| .va=>3| .le=>4| .re=>5| .tr=>6| .be=>7| .ds=>8| .lo=>10
 |_=>0
def Pt.field:Pt->Bool
 | .tr| .be| .ds| .lo=>true
 |_=>false
structure aH where
 vars:Nat
 nc:Nat
 gone:Nat->Bool
 done:Nat
 R:Pt->List Int
def bI{α:Type}(R:Pt->α)(x:Pt)(v:α):Pt->α:=λy=>if y=x then v else R y
theorem bE{α:Type}{R:Pt->α}{x:Pt}{v:α}:bI R x v x=v:=by simp[bI]
theorem aW{α:Type}{R:Pt->α}{x y:Pt}{v:α}(h:y≠x):bI R x v y=R y:=by simp[bI,h]
def aH.set(s:aH)(x:Pt)(l:List Int):aH:= {s with R:=bI s.R x l}
abbrev Ce:=Sl × Sl × Bool
def TS(x:Ce):List Value:= [x.1.v,x.2.1.v,.bool x.2.2]
theorem Nv:Jk 3 TS:=⟨λ_=>rfl,by omega,λx v hv=>by
 simp only[TS,V',W5,W8]at hv;rcases hv with rfl|rfl|rfl<;>rfl⟩
def Hf(H:Pt->Sl)(g:Nat->Bool)(i:Nat):Ce:=(H (.a i),H (.l i),g i)
def jM(H:Pt->Sl)(n:Nat):List Sl:=(List.range n).map λi=>H (.w i)
def FB(H:Pt->Sl)(g:Nat->Bool)(n:Nat):List Ce:=(List.range n).map (Hf H g)
def own(b:Nat)(H:Pt->Sl):Pt->Option Nat
 | .st=>some b
 |x=>aF (H x).p
def Eg(s:aH)(H:Pt->Sl):Array Value:=
 #[.i s.vars,(H .c).v,(H .wa).v,(H .va).v,(H .le).v,(H .re).v,(H .tr).v,(H .be).v,(H .ds).v,.i s.done,(H .lo).v]
structure PM(w:World)(b:Nat)(H:Pt->Sl)(s:aH):Prop where
 st:bO w b (Eg s H)
 c:Row 3 TS kW w (H .c).p (H .c).c (FB H s.gone s.nc)
 cn:(H .c).n=s.nc
 wa:Ow Sl.v aI w (H .wa).p (H .wa).c (jM H (2* (s.vars+1)))
 wn:(H .wa).n=2* (s.vars+1)
 row:∀x,x.row=true->Ow x.f x.T w (H x).p (H x).c (s.R x)
 len:∀x,x.row=true->(H x).n=(s.R x).length
 inj:∀x y k,own b H x=some k->own b H y=some k->x=y
theorem cy{H:Pt->Sl}{x:Pt}(h:x≠ .st):own b H x=aF (H x).p:=by cases x<;>first|rfl|exact absurd rfl h
theorem dX{x:Pt}(h:x.row=true):x≠ .st/\x≠ .c/\x≠ .wa:=by cases x<;>simp[Pt.row]at h ⊢
theorem tj{x:Pt}(h:x.field=true):x.row=true:=by cases x<;>simp[Pt.field]at h<;>rfl
variable{H:Pt->Sl}{s:aH}
theorem PM.lt(h:PM w b H s):∀x k,own b H x=some k->k<w.heap.size:=by
 intro x k I;cases x
 case st=>simp[own]at I;subst I;exact h.st.lt
 case c=>exact h.c.lt k I
 case wa=>exact h.wa.lt k I
 all_goals exact(h.row _ rfl).lt k I
theorem PM.keep{S:Nat->Prop}(h:PM w b H s)(m:aE S w w')(J:∀x k,own b H x=some k->¬S k):PM w' b H s:=by
 refine⟨h.st.keep m (J .st b rfl),h.c.keep m λk I=>J .c k I,h.cn,h.wa.keep m λk I=>J .wa k I,h.wn,λx O=> (h.row x O).keep m λk I=>J x k ?_,h.len,h.inj⟩;rw[cy (dX O).1];exact I
theorem PM.grow(h:PM w b H s)(m:ak w w'):PM w' b H s:=h.keep m λ_ _ _=>id
theorem PM.drew(h:PM w b H s):PM w.drew b H s:=h.grow (aE.refl w).drew
theorem PM.j8(h:PM w b H s){x y:Pt}(O:x≠ .st)(I:y≠x){k:Nat}(J:own b H y=some k):aF (H x).p≠some k:=by
 intro e;exact I (h.inj y x k J (by rw[cy O];exact e))
theorem PM.setRow(h:PM w b H s){x:Pt}(U:x.row=true){l':List Int}(hl:l'.length=(s.R x).length)(o:Ow x.f x.T w' (H x).p (H x).c l')(m:aE (λk=>aF (H x).p=some k) w w'):
 PM w' b H (s.set x l'):=by
 obtain⟨h1,Q,V⟩:=dX U;have I:∀y k,y≠x->own b H y=some k->¬aF (H x).p=some k:=λy k O J=>h.j8 h1 O J;refine⟨h.st.keep m (I .st b (WL h1) rfl),h.c.keep m λk J=>I .c k (WL Q) J,h.cn,h.wa.keep m λk J=>I .wa k (WL V) J,h.wn,λy O=>?_,λy O=>?_,h.inj⟩
 .by_cases e:y=x
  .subst e;simpa[aH.set,bE]using o
  .simp only[aH.set,aW e];exact(h.row y O).keep m λk J=>I y k e (by rw[cy (dX O).1];exact J)
 .by_cases e:y=x
  .subst e;simp only[aH.set,bE,hl];exact h.len y O
  .simp only[aH.set,aW e];exact h.len y O
structure VE(w:World)(b:Nat)(H:Pt->Sl)(s:aH)(x:Pt):Prop where
 st:bO w b (Eg s H)
 c:Row 3 TS kW w (H .c).p (H .c).c (FB H s.gone s.nc)
 wa:Ow Sl.v aI w (H .wa).p (H .wa).c (jM H (2* (s.vars+1)))
 row:∀y,y.row=true->y≠x->Ow y.f y.T w (H y).p (H y).c (s.R y)
theorem PM.Kd(h:PM w b H s){x:Pt}(U:x.row=true)(m:aE (λk=>aF (H x).p=some k) w w'):VE w' b H s x:=by
 obtain⟨h1,Q,V⟩:=dX U;have I:∀y k,y≠x->own b H y=some k->¬aF (H x).p=some k:=λy k O J=>h.j8 h1 O J;exact⟨h.st.keep m (I .st b (WL h1) rfl),h.c.keep m λk J=>I .c k (WL Q) J,h.wa.keep m λk J=>I .wa k (WL V) J,
  λy O e=> (h.row y O).keep m λk J=>I y k e (by rw[cy (dX O).1];exact J)⟩
theorem I0(h:PM w b H s){x:Pt}(U:x≠ .st){q:Sl}(hp:∀k,aF q.p=some k->aF (H x).p=some k\/∀y,own b H y≠some k):
 ∀y z k,own b (bI H x q) y=some k->own b (bI H x q) z=some k->y=z:=by
 have key:∀y,y≠x->own b (bI H x q) y=own b H y:=λy e=>by
  cases y<;>first|rfl| (simp only[own];rw[aW e])
 have same:own b (bI H x q) x=aF q.p:=by rw[cy U,bE]
 intro y z k I J;by_cases O:y=x<;>by_cases Q:z=x
 .rw [O,Q]
 .subst O;rw[same]at I;rw[key z Q]at J;rcases hp k I with e|e
  .exact h.inj y z k (by rw[cy U];exact e) J
  .exact absurd J (e z)
 .subst Q;rw[same]at J;rw[key y O]at I;rcases hp k J with e|e
  .exact h.inj y z k I (by rw[cy U];exact e)
  .exact absurd I (e y)
 .rw [key y O]at I;rw[key z Q]at J;exact h.inj y z k I J
theorem Eu{x:Pt}{q:Sl}{g:Nat->Bool}{n:Nat}(hl:∀i,x≠ .l i)(ha:∀i,x≠ .a i):FB (bI H x q) g n=FB H g n:=by
 unfold FB Hf;refine WT λi _=>?_;rw[aW (λe=>hl i e.symm),aW (λe=>ha i e.symm)]
theorem l6{x:Pt}{q:Sl}{n:Nat}(I:∀i,x≠ .w i):jM (bI H x q) n=jM H n:=by
 unfold jM;refine WT λi _=>?_;rw[aW (λe=>I i e.symm)]
theorem PM.head(h:PM w b H s){x:Pt}(Q:x.field=true){J:sn}{c':Nat}{l':List Int}(o:Ow x.f x.T w2 J c' l')(X:VE w2 b H s x)
 (hp:∀k,aF J=some k->aF (H x).p=some k\/∀y,own b H y≠some k) {n':Nat} (hn:n'=l'.length) {K:World->Prop}
 (I:∀w3,PM w3 b (bI H x ⟨J,n',c'⟩) (s.set x l')->aE (·=b) w2 w3->K w3):
 ∃w3,bD ((qw b).add x.off) 0 [.slice J n' c'] w2 w3/\K w3:=by
 subst hn;have hr:=tj Q;obtain⟨h1,h2,h3⟩:=dX hr;have hb:∀y k,y≠ .st->own b H y=some k->k≠b:=λy k O I e=>by subst e;exact O (h.inj y .st k I rfl)
 have Z:∀k,aF J=some k->¬k=b:=λk U e=>by
  rcases hp k U with V|V
  .exact h1 (h.inj x .st k (by rw[cy h1];exact V) (by rw[e];rfl))
  .exact V .st (by rw[e];rfl)
 refine cz (k:=x.off) (i:=0) X.st (by cases x<;>simp[Pt.field]at Q<;>rfl) rfl λw3 Y m3=>I w3 ?_ m3;have hl:∀i,x≠ .l i:=λi e=>by subst e;simp[Pt.field]at Q
 have ha:∀i,x≠ .a i:=λi e=>by subst e;simp[Pt.field]at Q
 have hw:∀i,x≠ .w i:=λi e=>by subst e;simp[Pt.field]at Q
 refine⟨?_,?_,?_,?_,?_,λy O=>?_,λy O=>?_,I0 h h1 hp⟩
 .have e:wr (Eg s H) (0+x.off+0) [.slice J l'.length c']=Eg (s.set x l') (bI H x ⟨J,l'.length,c'⟩):=by
   cases x<;>simp[Pt.field]at Q<;>simp[wr,Eg,Pt.off,bI,aH.set,Sl.v]
  rw[<- e];exact Y
 .rw [Eu hl ha,aW (WL h2)];exact X.c.keep m3 λk I=>hb .c k (by simp) I
 .rw [aW (WL h2)];exact h.cn
 .show Ow Sl.v aI w3 _ _ (jM (bI H x _) (2* (s.vars+1)));rw[l6 hw,aW (WL h3)];exact X.wa.keep m3 λk I=>hb .wa k (by simp) I
 .rw [aW (WL h3)];exact h.wn
 .by_cases e:y=x
  .subst e;simp only[aH.set,bE];exact o.keep m3 λk I=>Z k I
  .simp only[aH.set,aW e];exact(X.row y O e).keep m3 λk I=>hb y k (dX O).1 (by rw[cy (dX O).1];exact I)
 .by_cases e:y=x
  .subst e;simp only[aH.set,bE]
  .simp only[aH.set,aW e];exact h.len y O
theorem PM.IY(h:PM w b H s){d:Int}{n:Nat}(Q:d=n){K:World->Prop}(I:∀w3,PM w3 b H {s with done:=n}->aE (·=b) w w3->K w3):
 ∃w3,bD ((qw b).add 9) 0 [.i d] w w3/\K w3:=by
 subst Q;have hb:∀y k,y≠ .st->own b H y=some k->k≠b:=λy k J I e=>by subst e;exact J (h.inj y .st k I rfl)
 refine cz (k:=9) (i:=0) h.st rfl rfl λw3 O m3=>I w3 ?_ m3;refine⟨O,h.c.keep m3 λk I=>hb .c k (by simp) I,h.cn,h.wa.keep m3 λk I=>hb .wa k (by simp) I,h.wn,λy J=> (h.row y J).keep m3 λk I=>hb y k (dX J).1 (by rw[cy (dX J).1];exact I),h.len,h.inj⟩
theorem GM{n i:Nat}(hi:i<n):(jM H n).getD i Sl.nil=H (.w i):=by
 simp[jM,List.getD,hi]
theorem CJ{n:Nat}:(jM H n).length=n:=by simp[jM]
theorem Mi{g:Nat->Bool}{n i:Nat}(hi:i<n)(d:Ce):(FB H g n).getD i d=Hf H g i:=by
 simp[FB,List.getD,hi]
theorem vH{g:Nat->Bool}{n:Nat}:(FB H g n).length=n:=by simp[FB]
theorem PM.JE(h:PM w b H s){i:Nat}(hi:i<2* (s.vars+1)){O:sn}{c':Nat}{l':List Int}(o:d_ aB w2 O c' l')(X:VE w2 b H s (.w i))
 (hp:∀k,aF O=some k->aF (H (.w i)).p=some k\/∀y,own b H y≠some k) {n' n:Nat} (hn:n'=l'.length) (Y:n=2* (s.vars+1)) {I:Int} (hI:I=i) {K:World->Prop}
 (J:∀w3,PM w3 b (bI H (.w i) ⟨O,n',c'⟩) (s.set (.w i) l')->aE (λk=>aF (H .wa).p=some k) w2 w3->K w3):
 aV (H .wa).p n I 1 λa=>∃w3,bD a 0 [.slice O n' c'] w2 w3/\K w3:=by
 subst hn hI;have hb:∀y k,y≠ .wa->own b H y=some k->¬aF (H .wa).p=some k:=λy k Q J=>h.j8 (x:=.wa) (by simp) Q J;have V:∀k,aF O=some k->¬aF (H .wa).p=some k:=λk J e=>by
  rcases hp k J with U|U
  .have:=h.inj (.w i) .wa k U e;cases this
  .exact U .wa e
 refine X.wa.st (x:=⟨O,l'.length,c'⟩) rfl rfl (by omega) (by rw[CJ];exact Y) (by omega) λw3 o3 m3=>J w3 ?_ m3;rw[tn]at o3;refine⟨?_,?_,?_,?_,?_,λy Q=>?_,λy Q=>?_,I0 h (by simp) hp⟩
 .have e:Eg (s.set (.w i) l') (bI H (.w i) ⟨O,l'.length,c'⟩)=Eg s H:=by simp[Eg,bI,aH.set]
  rw[e];exact X.st.keep m3 (hb .st b (by simp) rfl)
 .rw [Eu (by simp) (by simp),aW (by simp)];exact X.c.keep m3 λk J=>hb .c k (by simp) J
 .rw [aW (by simp)];exact h.cn
 .rw [aW (by simp)];have e:jM (bI H (.w i) ⟨O,l'.length,c'⟩) (2* ((s.set (.w i) l').vars+1))=(jM H (2* (s.vars+1))).set i ⟨O,l'.length,c'⟩:=by
   apply Xr;intro j;simp only[jM,aH.set,WW,Xe,We,Xt];by_cases e:i=j
   .subst e;simp[hi,bI]
   .rw [r8 e];by_cases Z:j<2* (s.vars+1)
    .simp [Z,bI,WL e]
    .simp [Z]
  rw[e];exact o3
 .rw [aW (by simp)];exact h.wn
 .by_cases e:y=.w i
  .subst e;simp only[aH.set,bE];exact o.keep m3 λk J=>V k J
  .simp only[aH.set,aW e];exact(X.row y Q e).keep m3 λk J=>hb y k (dX Q).2.2 (by rw[cy (dX Q).1];exact J)
 .by_cases e:y=.w i
  .subst e;simp only[aH.set,bE]
  .simp only[aH.set,aW e];exact h.len y Q
theorem PM.cE(h:PM w b H s){k:Nat}(I:w.heap.size<=k):∀y,own b H y≠some k:=λy e=>by have:=h.lt y k e;omega
theorem fI{a:Addr}{v:Value}(h:w.cell? a=some v):yY (·=w) a v:=λu e=>by rw[e];exact h
theorem PM.U6(h:PM w b H s){i:Nat}(hi:i<2* (s.vars+1)){n:Nat}(hn:n=(H .wa).n){I:Int}(Q:I=i){K:Addr->Prop}
 (O:∀a,aF (H .wa).p=some a.block->w.cell? a=some (H (.w i)).v->K a):aV (H .wa).p n I 1 K:=by
 subst Q;refine h.wa.vw.VH Sl.nil (by omega) (by rw[hn,h.wn,CJ]) (by rw[hn,h.wn];omega) λa ha J=>O a ha ?_;rw[tn,GM hi]at J;exact J
theorem PM.O_(h:PM w b H s){i:Nat}(hi:i<s.nc){n:Nat}(hn:n=(H .c).n){I:Int}(Q:I=i){K:Addr->Prop}
 (O:∀a,aM w a 0 [(H (.a i)).v,(H (.l i)).v,.bool (s.gone i)]->K a):aV (H .c).p n I 3 K:=by
 subst Q;refine(h.c.vr Nv).ix (Sl.nil,Sl.nil,false) (by omega) (by rw[hn,h.cn,vH]) (by rw[hn,h.cn];omega) λa J=>O a ?_;rw[tn,Mi hi]at J;exact J
theorem PM.AJ(h:PM w b H s){x:Pt}(J:x.row=true){I:Int}(Q:0<=I){n:Nat}(hn:n=(H x).n)(h1:I< (s.R x).length){K:Addr->Prop}
 (O:∀a,aF (H x).p=some a.block->w.cell? a=some (x.f ((s.R x).getD I.toNat 0))->K a):aV (H x).p n I 1 K:=
 (h.row x J).vw.VH 0 Q (by rw[hn,h.len x J]) (by rw[hn,h.len x J];omega) O
theorem PM.PH(h:PM w b H s){x:Pt}(X:x.row=true){I:Int}(Q:0<=I){n:Nat}(h1:I< (s.R x).length)(J:I<n){K:Addr->Prop}
 (O:∀a,aF (H x).p=some a.block->w.cell? a=some (x.f ((s.R x).getD I.toNat 0))->K a):aV (H x).p n I 1 K:=by
 obtain⟨a,Y,V,h5,U⟩:=h.AJ X Q rfl h1 O;exact⟨a,Y,V,J,U⟩
theorem PM.Lh(h:PM w b H s){x:Pt}(J:x.row=true){I:Int}(Q:0<=I){n:Nat}(hn:n=(H x).n)(h1:I< (s.R x).length){y:Int}{v:Value}(hv:v=x.f y)(U:jA v=true){K:World->Prop}
 (O:∀w',PM w' b H (s.set x ((s.R x).set I.toNat y))->aE (λk=>aF (H x).p=some k) w w'->K w'):aV (H x).p n I 1 λa=>∃w',bD a 0 [v] w w'/\K w':=
 (h.row x J).st y hv U Q (by rw[hn,h.len x J]) (by rw[hn,h.len x J];omega) λw' o m=>O w' (h.setRow J (by simp) o m) m
end
