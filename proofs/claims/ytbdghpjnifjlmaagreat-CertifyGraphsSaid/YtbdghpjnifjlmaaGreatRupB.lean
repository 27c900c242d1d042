/- Layer 7: steps as arguments; what is small. -/
import Derived.Test.YtbdghpjnifjlmaaGreatRupA
import Derived.Test.YtbdghpjnifjlmaaGreatPropC
import Derived.Test.YtbdghpjnifjlmaaGreatQuotaA
import Derived.Test.YtbdghpjnifjlmaaGreatSortA
import Derived.Test.YtbdghpjnifjlmaaGreatHeapA
import Derived.Test.YtbdghpjnifjlmaaGreatFwRead
import Derived.Test.YtbdghpjnifjlmaaGreatLubyA
import Derived.Test.YtbdghpjnifjlmaaGreatLearnA
set_option linter.all false
namespace Go.Proofs.YtbdghpjnifjlmaaGreat.W
open Go Go.Fw Go.RowKit Go.SoP Go.LiP
open Go.Proofs.Tryz (prog)
open Go.IntKind (i64)
section
variable{w w' w0 w2 w3:World}{p q:sn}{n m c d:Nat}{k:Int}{hs:List Sl}{cs:lq}{l:List Int}
abbrev jJ:=Bool × List Int
def dH:jJ:=(false,[])
def SV(w:World)(p:sn)(al:List jJ):Prop:=∀i,i<al.length->∃ (a:Addr) (s:Sl),p=some a/\aM w (a.add (i*2)) 0 [.bool (al.getD i dH).1,.slice s.p s.n s.c]/\
 s.n=(al.getD i dH).2.length/\s.n<=maxLen/\Vw sT w s.p (al.getD i dH).2
theorem SV.grow{al:List jJ}(h:SV w p al)(g:ak w w'):SV w' p al:=by
 intro i hi;obtain⟨a,s,rfl,J,h1,I,O⟩:=h i hi;exact⟨a,s,rfl,aM.keep g id J,h1,I,O.grow g⟩
theorem SV.ix{al:List jJ}(h:SV w p al)(g:ak w w'){i n:Nat}(hn:n=al.length)(hi:i<al.length){K:Addr->Prop}
 (J:∀a (s:Sl),(∀u,ak w u->aM u a 0 [.bool (al.getD i dH).1,.slice s.p s.n s.c])->s.n=(al.getD i dH).2.length->s.n<=maxLen->Vw sT w s.p (al.getD i dH).2->K a):aV p n (i:Int) 2 K:=by
 subst hn;obtain⟨a,s,rfl,O,h1,I,U⟩:=h i hi;refine⟨a,rfl,by omega,by omega,J _ s (λu Q=>?_) h1 I U⟩;rw[tn];exact aM.keep Q id O
def ig(al:List jJ):Bool:=al.all λx=>jL x.2
theorem FO:f_ prog 54=true:=by kernel_rfl
theorem H_{b:Bool}(h:Vw sT w p l)(hn:n=l.length)(hm:n<=maxLen):Calls prog 54 #[.agg #[.bool b,.slice p n c]] w λe w'=>e=.returned (.bool (!jL l))/\ak w w':=by
 refine iL.aj ?_;intro J w2 I;refine⟨_,_,_,ae I.has rfl,(fW (h.grow I.mod) hn hm).mono ?_⟩;rintro e O⟨rfl,g⟩;refine⟨_,rfl,?_,I.mod.trans g⟩;cases jL l<;>rfl
theorem jQ{al:List jJ}(h:SV w p al)(hn:n=al.length)(hm:n<=262144):Calls prog 26 #[.slice p n c] w λe w'=>e=.returned (.i (if ig al then 0 else 1))/\ak w w':=by
 subst hn;refine mZ.aj (bq (by simp;omega) ?_);refine(bU.aj (R:=λe w'=>e=.returned (.bool (!ig al))/\ak w w') ?_).mono ?_
 .refine (bH.aj (R:=λe w'=>∃r:Int,e=.returned (.i r)/\(decide (r>=0)= !ig al)/\ak w w') ?_).mono ?_
  .refine ⟨λI u z=>∃i:Nat,I=i/\z=al.length - i/\i<=al.length/\ak w u/\∀j,j<i->jL (al.getD j dH).2=true,⟨_,0,rfl,rfl,by omega,aE.refl w,λj U=>by omega⟩,?_⟩;rintro I u z _⟨i,rfl,rfl,hi,g,J⟩;refine ah (λr=>?_) (λr=>?_)
   .have r:i<al.length:=by simpa using r
    have O:al.getD i dH∈al:=by simp[List.getD,r]
    refine h.ix g rfl r λa s Y h1 X h3=>⟨_,_,_,_,Y u g,?_⟩
    rw[FO];show Calls _ _ _ _ _;rw[O0];refine(H_ (h3.grow g) h1 X).mono ?_;rintro e w9⟨rfl,V⟩;refine⟨_,rfl,ah (λQ=>⟨_,rfl,?_,g.trans V⟩) (λQ=>⟨_,by omega,i+1,wN,rfl,r,g.trans V,λj U=>?_⟩)⟩
    .have:ig al=false:=by
      rw[<- WI];intro e;unfold ig at e;rw[K']at e;rw[e _ O]at Q;cases Q
     rw[this];simp
    .by_cases e:j<i
     .exact J j e
     .obtain rfl:j=i:=by omega
      simpa using Q
   .have r:i=al.length:=by simp at r;omega
    subst r;have:ig al=true:=by
     unfold ig;rw[K'];intro x Z;obtain⟨j,U,rfl⟩:=Bs.1 Z;have:=J j U;simpa[List.getD,U]using this
    rw[this];exact⟨_,rfl,by decide,g⟩
  .rintro e w1 ⟨r,rfl,hr,g⟩;exact⟨r,rfl,by rw[hr],g⟩
 .rintro e w1 ⟨rfl,g⟩;refine⟨_,rfl,ah (λr=>?_) (λr=>?_)⟩
  .have:ig al=false:=by simpa using r
   rw[this];exact⟨rfl,g⟩
  .have:ig al=true:=by simpa using r
   rw[this];exact⟨rfl,g⟩
theorem cI{b:Nat}{x y:Value}(h:bO w b #[x,y]):aM w ⟨b,0,none⟩ 0 [x,y]:=⟨ae h rfl,ae h rfl,trivial⟩
theorem K1(O:V2 sT w p hs cs)(hn:n=cs.length)(hl:Vw sT w q l)(hm:m=l.length)(J:m<=maxLen){c d:Nat}:Calls prog 178 #[.agg #[.i k,.slice p n d],.slice q m c] w λe w'=>e=.returned (.bool (c5 k cs && jL l))/\ak w w':=by
 subst hn;refine uW.aj ?_;intro V w2 I;refine⟨_,_,_,_,cI I.has,(eP (O.grow I.mod) rfl).mono ?_⟩;rintro e Y⟨rfl,g⟩;refine⟨_,rfl,?_⟩;cases Q:c5 k cs with
 |false=>exact bq rfl ⟨rfl,I.mod.trans g⟩
 |true=>
  refine bJ rfl ((fW (hl.grow (I.mod.trans g)) hm J).mono ?_);rintro e X⟨rfl,U⟩;refine⟨_,rfl,?_,(I.mod.trans g).trans U⟩;cases jL l<;>rfl
end
section
variable{W w w' w0 w2 w3 u:World}{p q:sn}{n m d i c:Nat}{hs:List Sl}{cs:lq}{l:List Int}
abbrev So:=Sl × Bool × Int
abbrev Sr:=List Int × Bool × Int
def SO:So:=(Sl.nil,false,0)
def yo:Sr:=([],false,0)
def yQ(x:So):List Value:= [.slice x.1.p x.1.n x.1.c,.bool x.2.1,.i x.2.2]
theorem tX:Jk 3 yQ:=⟨λ_=>rfl,by omega,λx v hv=>by
 simp only[yQ,V',W5,W8]at hv;rcases hv with rfl|rfl|rfl<;>rfl⟩
theorem wZ:rM prog iV bG 3 40=true:=by kernel_rfl
structure SW(W:World)(ss:List So)(l:List Sr):Prop where
 n:ss.length=l.length
 r:∀j,j<l.length->(ss.getD j SO).2=(l.getD j yo).2/\(ss.getD j SO).1.n=(l.getD j yo).1.length/\(ss.getD j SO).1.n<=maxLen/\Vw sT W (ss.getD j SO).1.p (l.getD j yo).1
theorem SW.nil:SW W [] []:=⟨rfl,λj I=>by simp at I⟩
theorem SW.nu{ss I:List So}{l k:List Sr}(h:SW W ss l)(g:SW W I k):SW W (ss++I) (l++k):=by
 refine⟨by simp[h.n,g.n],λj J=>?_⟩;rw[tg,tg,h.n];by_cases e:j<l.length
 .rw [v8 e,v8 e];exact h.r j e
 .rw [r8 e,r8 e];exact g.r (j - l.length) (by simp at J;omega)
theorem SW.bP{s:So}{x:Sr}(h1:s.2=x.2)(J:s.1.n=x.1.length)(O:s.1.n<=maxLen)(I:Vw sT W s.1.p x.1):SW W [s] [x]:=by
 refine⟨rfl,λj Q=>?_⟩;have:j=0:=by simpa using Q
 subst this;exact⟨h1,J,O,I⟩
theorem SW.part{ss:List So}{l:List Sr}(h:SW W ss l)(i:Nat)(hi:i<l.length):SW W (ss.take i++ss.drop (i+1)) (l.take i++l.drop (i+1)):=by
 refine SW.nu ⟨by simp[h.n],λj I=>?_⟩ ⟨by simp[h.n],λj I=>?_⟩
 .rw [y6]at I;have e:∀ {β:Type} (l:List β) (d:β),(l.take i).getD j d=l.getD j d:=λl d=>by
   simp only[vx,WE];rw[v8 (by omega)]
  rw[e,e];exact h.r j (by omega)
 .rw [WD]at I;have e:∀ {β:Type} (l:List β) (d:β),(l.drop (i+1)).getD j d=l.getD (i+1+j) d:=λl d=>by
   simp only[vx,Xp]
  rw[e,e];exact h.r _ (by omega)
theorem SW.ix{ss:List So}{l:List Sr}(h:SW W ss l)(o:Row 3 yQ bG u p c ss)(hn:n=l.length)(hi:i<l.length){K:Addr->Prop}
 (O:∀a (s:Sl),aM u a 0 [.slice s.p s.n s.c,.bool (l.getD i yo).2.1,.i (l.getD i yo).2.2]->s.n=(l.getD i yo).1.length->s.n<=maxLen->Vw sT W s.p (l.getD i yo).1->K a):aV p n (i:Int) 3 K:=by
 subst hn;obtain⟨h1,J,U,Q⟩:=h.r i hi;refine(o.vr tX).ix SO (by omega) (by rw[h.n]) (by omega) λa I=>O a (ss.getD i SO).1 ?_ J U Q;rw[tn]at I;unfold yQ at I;rw[h1]at I;exact I
theorem Hs{s:So}{b:Nat}(h:bO u b #[.slice s.1.p s.1.n s.1.c,.bool s.2.1,.i s.2.2]):Vr 3 yQ u (some ⟨b,0,none⟩) [s]:=by
 intro j I;have:j=0:=by simpa using I
 subst this;exact⟨_,rfl,bN h rfl,bN h rfl,bN h rfl,trivial⟩
def uu(cs:lq)(k:Nat):List Sr:=(List.range k).map λi=> (cs.getD i [],false,(i:Int))
theorem vW(k:Nat):(uu cs k).length=k:=by simp[uu]
theorem K2(k:Nat):uu cs (k+1)=uu cs k++ [(cs.getD k [],false,(k:Int))]:=by unfold uu;rw[Xh,GD];rfl
theorem Be{k:Int}(hv:V2 sT w p hs cs)(hn:n=cs.length)(hx:n<=1000000):
 Calls prog 73 #[.agg #[.i k,.slice p n d]] w λe w'=>∃ (q:sn) (d':Nat) (ss:List So),e=.returned (.slice q cs.length d')/\Row 3 yQ bG w' q d' ss/\SW w ss (uu cs cs.length)/\ak w w'/\∀j,aF q=some j->w.heap.size<=j:=by
 subst hn;refine lQ.aj ?_;intro n1 w2 Q;have e1:=Q.num;refine⟨_,_,_,ae Q.has rfl,?_⟩;refine⟨λP N C I u z=>∃ (i:Nat) (ss:List So),I=i/\i<=cs.length/\z=cs.length - i/\i=N/\ak w2 u/\Row 3 yQ bG u P C ss/\SW w ss (uu cs i)/\∀j,aF P=some j->w2.heap.size<=j,
  ⟨_,0,[],rfl,xc _,rfl,rfl,aE.refl _,Row.nil _ _ _ _,SW.nil,λj O=>by simp[aF]at O⟩,?_⟩
 rintro P N C I u z _⟨i,ss,rfl,hi,rfl,rfl,Z,o,sw,U⟩;have Gu:=Q.mod.trans Z;have J:=sw.n;rw[vW]at J;refine ah (λr=>?_) (λr=>?_)
 .have r:i<cs.length:=by simpa using r
  refine(hv.grow Gu).ix (by omega) rfl (by omega) λa sl k1 k0 k2 k3 k4=>⟨_,_,_,k1,?_⟩
  rw[tn]at k0 k2;obtain⟨_,_,r3⟩:=hv.r i r;rw[<- k0]at r3;intro aT aw qW;have z2:=Z.size;refine Row.nu tX wZ (o.grow qW.mod) (Hs (s:=(sl,false,(i:Int))) qW.has) J.symm rfl (by simp;omega) λay p' c' V X Y ax=>?_;have ap:=qW.num;refine⟨_,?_,i+1,_,wN,r,rfl,by simp[J],(Z.trans qW.mod).then X λj O e=>by have:=U j e;omega,V,by rw[K2];exact sw.nu (SW.bP rfl k2 k3 r3),λj O=>?_⟩
  .omega
  .have:=qW.mod.size;rcases Y with rfl|rfl
   .exact U j O
   .have:=aO O;omega
 .have r:i=cs.length:=by simp at r;omega
  subst r;have s2:=Q.mod.size;exact⟨P,C,ss,rfl,o,sw,Gu,λj O=>by have:=U j O;omega⟩
theorem xJ{ss:List So}{al:List Sr}(o:Row 3 yQ bG w p d ss)(sw:SW W ss al)(hW:ak W w)(hn:n=al.length)(hx:n<=1000000){e:Nat}:
 Calls prog 77 #[.slice p n e] w λe w'=>∃ (q:sn) (d':Nat) (ks:List Sl),e=.returned (.slice q al.length d')/\V2 sT w' q ks (al.map (·.1))/\ak w w':=by
 subst hn;refine lJ.aj ?_;refine⟨λP N C I u z=>∃ (i:Nat) (ks:List Sl),I=i/\i<=al.length/\z=al.length - i/\i=N/\ak w u/\Ow Sl.v aI u P C ks/\VR sT W ks ((al.take i).map (·.1))/\∀j,aF P=some j->w.heap.size<=j,
  ⟨_,0,[],rfl,xc _,rfl,rfl,aE.refl _,Ow.nil _ _ _,VR.nil,λj U=>by simp[aF]at U⟩,?_⟩
 rintro P N C I u z _⟨i,ks,rfl,hi,rfl,rfl,Y,ok,vr,fo⟩;have Q:=vr.n;rw[We,y6,WK hi]at Q;refine ah (λr=>?_) (λr=>?_)
 .have r:i<al.length:=by simpa using r
  refine sw.ix (o.grow Y) rfl r λa s ar h1 h2 h3=>⟨_,_,_,_,_,ar,?_⟩
  intro a_ a6 O;have bb:=O.num;refine aX O.has rfl rfl λac aa ag=>⟨_,_,_,ae aa rfl,?_⟩
  have X:ak u ac:=O.mod.then ag λj U e=>by omega
  intro n15 a' J;have az:=J.num;have zu:=Y.size;have ay:=X.size;have V:=X.trans J.mod;refine Ow.uv iP (ok.grow V) (we (sl:=s) J.has) Q.symm rfl (λ_=>rfl) (by simp;omega) λax p' c' Z an ap a8=>?_;have bf:=J.mod.size;refine⟨_,by omega,i+1,_,wN,r,rfl,by simp[Q],(Y.trans V).then an λj U e=>by have:=fo j e;omega,Z,?_,λj U=>?_⟩
  .rw [dN r yo,GD];exact vr.nu (VR.bP (s:=s) h3 h1 h2)
  .rcases ap with rfl|rfl
   .exact fo j U
   .have:=aO U;omega
 .have r:i=al.length:=by simp at r;omega
  subst r;rw[L0]at vr;exact⟨P,C,ks,rfl,(vr.grow (hW.trans Y)).v2 ok.vw,Y⟩
end
section
variable{W w w' w0 w2 w3 u:World}{p q:sn}{n m d i c:Nat}{hs:List Sl}{cs:lq}{l:List Int}{ss:List So}{al:List Sr}
theorem xx{e:Nat}(o:Row 3 yQ bG w p d ss)(hn:n=ss.length)(Z:n<=1000000):Calls prog 75 #[.slice p n e] w λe w'=>∃ (q:sn) (Q:Nat),e=.returned (.slice q ss.length Q)/\Row 3 yQ bG w' q Q ss/\ak w w'/\∀j,aF q=some j->w.heap.size<=j:=by
 subst hn;refine bj.aj (ah (λr=>?_) (λr=>?_))
 .have hp:p=none:=by cases p<;>simp at r ⊢
  subst hp;have:ss= []:=by
   rcases o.un with⟨_,_,h⟩| ⟨_,_,h,_⟩
   .exact h
   .cases h
  subst this;exact⟨none,0,rfl,Row.nil _ _ _ _,aE.refl w,λj J=>by simp[aF]at J⟩
 .intro U w2 I;have e1:=I.num;have o2:Row 3 yQ bG w2 (some ⟨U,0,none⟩) 0 []:=Row.da tX.len I.at (vy _) (xc _) rfl rfl;refine Row.nu tX wZ o2 ((o.vr tX).grow I.mod) rfl rfl (by simp;omega) λw3 Y V o3 m3 O X=>?_;rw[WY]at o3 ⊢;have z2:=I.mod.size;refine⟨Y,V,rfl,o3,I.mod.then m3 λj J e=>by have:=aO e;omega,λj J=>?_⟩;rcases O with rfl|rfl
  .have:=aO J;omega
  .have:=aO J;omega
theorem OX:∃v,(Tryz.prog.info? bG).bind (·.zero)=some v/\v.cells.toList=yQ SO:=⟨.agg #[.slice none 0 0,.bool false,.i 0],by kernel_rfl,rfl⟩
theorem VU(p:sn):p.map (·.add (0*3))=p:=by cases p<;>simp[Addr.add]
theorem HD(o:Row 3 yQ bG w p d ss)(hn:n=ss.length)(hx:n<=1000000){i:Nat}(hi:i<n):
 Calls prog 126 #[.slice p n d,.i (i:Int),.i ((i+1:Nat):Int)] w λe w'=>e=.returned (.slice p (ss.length - 1) d)/\Row 3 yQ bG w' p d (ss.take i++ss.drop (i+1))/\aE (λb=>aF p=some b) w w':=by
 subst hn;have Y:=o.cap;refine bh.aj ?_;refine gh i (i+1) ss.length rfl rfl rfl (by omega) (by omega) (by omega) ?_;refine bq (by simp;omega) ?_;refine gh 0 i d rfl rfl rfl (by omega) (by omega) (by omega) ?_;refine gh (i+1) ss.length d rfl rfl rfl (by omega) (by omega) (by omega) ?_;rw[r8 (by omega),VU,WO,WO];have hv:Vr 3 yQ w.drew (if d=i+1 then p else p.map (·.add ((i+1)*3))) (ss.drop (i+1)):=by
  by_cases e:d=i+1
  .rw [List.drop_eq_nil_of_le (by omega)];exact Vr.nil
  .rw [r8 e];have:=((o.drew).vr tX).part (i:=i+1) (m:=ss.length - (i+1)) (by omega)
   rwa [Wi (by rw[WD];omega)]at this
 obtain⟨I,hr,U,Z⟩:=Row.DT tX wZ o.drew (ty:=iV) (d:=d - (i+1)) (k:=i) hv (m:=ss.length - (i+1)) (by rw[WD]) (by omega) (K:=λI=>Row 3 yQ bG I p d (ss.take i++ss.drop (i+1)++ss.drop (i+ (ss.length - (i+1))))/\aE (λb=>aF p=some b) w.drew I) λw' a b=>⟨a,b⟩
 have Q:i+ (ss.length - (i+1))=ss.length - 1:=by omega
 rw[Q]at hr U;have hlen:(ss.take i++ss.drop (i+1)).length=ss.length - 1:=by rw[I',y6,WD];omega
 have J:(ss.take i++ss.drop (i+1)++ss.drop (ss.length - 1)).length=ss.length:=by rw[I',hlen,WD];omega
 refine⟨I,_,_,_,hr,?_⟩;refine gh (ss.length - 1) ss.length d rfl rfl rfl (by omega) (by omega) (by omega) ?_;rw[r8 (by omega)];obtain⟨vz,hz,O⟩:=OX;rw[show ss.length - (ss.length - 1)=1 by omega];refine Row.clear tX wZ hz O U (k:=ss.length - 1) (by rw[J];omega) λw7 V X=>?_;rw[Wg (by omega),Wi (by omega)]at V;exact⟨rfl,V,(aE.mono ((aE.refl w).drew:ak w w.drew) λ_ _ e=>e.elim).trans (Z.trans X)⟩
def lX(c:List Int):List Sr->List Sr
 | []=> []
 |x::l=>if bC x.1=bC c then l else x::lX c l
theorem Fg{c:List Int}:∀ {al:List Sr} {i:Nat},i<al.length->(∀j,j<i->bC (al.getD j yo).1≠bC c)->bC (al.getD i yo).1=bC c->lX c al=al.take i++al.drop (i+1)
 | [],_,h,_,_=>by simp at h
 |x::l,0,_,_,h=>by
  have h:bC x.1=bC c:=h;show (if bC x.1=bC c then l else _)=_;rw[v8 h];rfl
 |x::l,i+1,hi,hj,h=>by
  have I:bC x.1≠bC c:=hj 0 (by omega);show (if bC x.1=bC c then l else x::lX c l)=_;rw[r8 I,Fg (i:=i) (by simpa using hi) (λj h=>hj (j+1) (by omega)) h];rfl
theorem Fs{c:List Int}:∀ {al:List Sr},(∀j,j<al.length->bC (al.getD j yo).1≠bC c)->lX c al=al
 | [],_=>rfl
 |x::l,h=>by
  have I:bC x.1≠bC c:=h 0 (by simp);show (if bC x.1=bC c then l else x::lX c l)=_;rw[r8 I];exact congrArg _ (Fs λj J=>h (j+1) (by simpa using J))
theorem KI:f_ prog 124=true:=by kernel_rfl
theorem Ox{x c:List Int}{b:Bool}{a:Int}{nw m' V:Nat}{Q:sn}(hv:Vw sT w p x)(hn:n=x.length)(U:jL x=true)(hb:bO w nw #[.slice Q m' V])(Z:Vw sT w Q (bC c))(hm:m'=(bC c).length):
 Calls prog 124 #[.agg #[.slice p n d,.bool b,.i a],.pointer (some ⟨nw,0,none⟩)] w λe w'=>e=.returned (.bool (decide (bC x=bC c)))/\ak w w':=by
 subst hn;have aa:=cX U;have nl:=sM x;refine kG.aj ?_;intro n1 w2 J;refine⟨_,_,_,ae J.has rfl,(wk (hv.grow J.mod) rfl (by unfold maxLen;omega)).mono ?_⟩;rintro e w4⟨q,dq,mq,I,rfl,X,g4⟩;rw[U]at I;simp only[I5]at I;subst I;have O:=J.mod.trans g4;refine⟨_,_,_,_,rfl,_,_,_,aP (hb.grow O) rfl,(Fv X.vw rfl (by unfold maxLen;omega) (Z.grow O) hm).mono ?_⟩;rintro e w8⟨rfl,Y⟩;exact⟨_,rfl,rfl,O.trans Y⟩
end
section
variable{W w w' w0 w2 w3 u:World}{p q:sn}{n m d i c:Nat}{hs:List Sl}{cs:lq}{l:List Int}{ss:List So}{al:List Sr}
theorem Jh{x:List Int}{e:Nat}(o:Row 3 yQ bG w p d ss)(sw:SW W ss al)(hW:ak W w)(hn:n=al.length)(hx:n<=1000000)(ay:∀y∈al,jL y.1=true)(hv:Vw sT W q x)(hm:m=x.length)(X:jL x=true)(hd:n<=d):
 Calls prog 74 #[.slice p n d,.slice q m e] w λe w'=>∃ (q':sn) (d':Nat) (tt:List So),e=.returned (.slice q' (lX x al).length d')/\Row 3 yQ bG w' q' d' tt/\SW W tt (lX x al)/\ak w w'/\(lX x al).length<=d'/\∀j,aF q'=some j->aF p=some j\/w.heap.size<=j:=by
 subst hn hm;have bn:=cX X;have nl:=sM x;have aw:=sw.n;refine ql.aj ((wk (hv.grow hW) rfl (by unfold maxLen;omega)).mono ?_);rintro e1 w1⟨qn,dn,mn,Q,rfl,on,g1⟩;rw[X]at Q;simp only[I5]at Q;subst Q;refine⟨_,_,_,_,rfl,?_⟩;intro n4 w5 h5;have e5:=h5.num;refine aX h5.has rfl rfl λw6 b6 m6=>?_;have z1:=g1.size;have V:ak w w6:=(g1.trans h5.mod).then m6 λj O e=>by omega
 have av:Vw sT w6 qn (bC x):=((on.grow h5.mod).keep m6 λk hk e=>by have:=on.lt k hk;omega).vw;refine(bQ.aj (R:=λe w'=>ak w6 w'/\((e=.returned (.i (-1))/\∀t,t<al.length->bC (al.getD t yo).1≠bC x)\/
  ∃t:Nat,e=.returned (.i t)/\t<al.length/\bC (al.getD t yo).1=bC x/\∀j,j<t->bC (al.getD j yo).1≠bC x)) ?_).mono ?_
 .refine ⟨λI u z=>∃t:Nat,I=t/\t<=al.length/\z=al.length - t/\ak w6 u/\∀j,j<t->bC (al.getD j yo).1≠bC x,⟨_,0,rfl,xc _,rfl,aE.refl _,λj O=>by omega⟩,?_⟩;rintro I u z _⟨t,rfl,ht,rfl,U,J⟩;refine ah (λr=>?_) (λr=>⟨U,.inl ⟨rfl,λj O=>J j (by simp at r;omega)⟩⟩);have r:t<al.length:=by simpa using r
  have Y:al.getD t yo∈al:=by simp[List.getD,r]
  refine sw.ix (o.grow (V.trans U)) rfl r λa s ar h1 h2 h3=>⟨_,_,_,_,_,ar,?_⟩
  rw[KI];show Calls _ _ _ _ _;rw[w_];refine(Ox (h3.grow (hW.trans (V.trans U))) h1 (ay _ Y) (b6.grow U) (av.grow U) rfl).mono ?_;rintro bu bg⟨rfl,Z⟩;refine⟨_,rfl,ah (λr2=>⟨U.trans Z,.inr ⟨t,rfl,r,by simpa using r2,J⟩⟩) (λr2=>⟨_,by omega,t+1,wN,r,rfl,U.trans Z,λj O=>?_⟩)⟩;by_cases e:j<t
  .exact J j e
  .obtain rfl:j=t:=by omega
   simpa using r2
 .rintro e7 w7 ⟨g7,⟨rfl,J⟩| ⟨t,rfl,ht,ax,J⟩⟩
  .refine ⟨_,rfl,bJ (by decide) ?_⟩;rw[Fs J];exact⟨p,d,ss,rfl,o.grow (V.trans g7),sw,V.trans g7,hd,λj O=> .inl O⟩
  .refine ⟨_,rfl,bq (by simp) ((xx (o.grow (V.trans g7)) aw.symm hx).mono ?_)⟩;rintro e9 w9⟨q9,d9,rfl,o9,g9,f9⟩;refine⟨_,_,_,rfl,?_⟩;rw[wN (i:=t+1) (by omega) (by omega)];refine(HD o9 rfl (by omega) (i:=t) (by omega)).mono ?_;rintro bx bk⟨rfl,az,ap⟩;have G7:=V.trans g7;have z7:=G7.size;have hg:lX x al=al.take t++al.drop (t+1):=Fg ht J ax;have hl:(lX x al).length=ss.length - 1:=by rw[hg,I',y6,WD];omega
   refine⟨_,_,_,rfl,q9,d9,ss.take t++ss.drop (t+1),by rw[hl],az,by rw[hg];exact sw.part t ht,(G7.trans g9).then ap λj O e=>by have:=f9 j e;omega,?_,λj O=> .inr (by have:=f9 j O;omega)⟩;have:=o9.cap;omega
theorem yu{k:Int}{al:List jJ}(hl:SV w q al)(hm:m=al.length)(hx:m<=1000000)(Z:∀x∈al,jL x.2=true){e:Nat}:
 Calls prog 119 #[.agg #[.i k,.slice p n d],.slice q m e] w λe w'=>e=.returned (.i ((al.map (·.2)).foldl wI k))/\ak w w':=by
 subst hm;refine jX.aj ?_;intro n1 w2 h2;refine⟨_,ae h2.has rfl,?_⟩;refine⟨λN I u z=>∃i:Nat,I=i/\i<=al.length/\z=al.length - i/\N=((al.take i).map (·.2)).foldl wI k/\ak w2 u,⟨_,0,rfl,xc _,rfl,rfl,aE.refl _⟩,?_⟩;rintro N I u z _⟨i,rfl,hi,rfl,rfl,gu⟩;have X:=h2.mod.trans gu;refine ah (λr=>?_) (λr=>?_)
 .have r:i<al.length:=by simpa using r
  have Q:al.getD i dH∈al:=by simp[List.getD,r]
  have ac:=cX (Z _ Q);refine hl.ix X rfl r λa s an h1 a6 h3=>⟨_,_,_,_,an u X,?_⟩
  intro av ay O;have ax:=O.num;refine aX O.has rfl rfl λU ag aa=>⟨_,_,_,ae ag rfl,?_⟩
  have V:ak u U:=O.mod.then aa λj hj e=>by omega
  refine⟨λN I y z=>∃j:Nat,I=j/\j<=(al.getD i dH).2.length/\z=(al.getD i dH).2.length - j/\N=wI (((al.take i).map (·.2)).foldl wI k) ((al.getD i dH).2.take j)/\ak U y,⟨_,0,rfl,xc _,rfl,rfl,aE.refl _⟩,?_⟩;rintro N I y z _⟨j,rfl,hj,rfl,rfl,Y⟩;have Gy:=(X.trans V).trans Y;refine ah (λJ=>?_) (λJ=>?_)
  .have J:j< (al.getD i dH).2.length:=by rw[h1]at J;simpa using J
   refine(h3.grow Gy).ix 0 (by omega) h1 (by omega) λa e=>⟨_,e,_,?_,j+1,wN,J,rfl,?_,Y⟩
   .omega
   .rw [tn,nw _ (rz (ac.1 _ (bL J)))];exact(FE J).symm
  .have J:j=(al.getD i dH).2.length:=by rw[x8]at J;omega
   subst J;rw[L0];refine⟨_,?_,i+1,wN,r,rfl,?_,(gu.trans V).trans Y⟩
   .omega
   .rw [dN r dH,GD,Y2];rfl
 .have r:i=al.length:=by simp at r;omega
  subst r;rw[L0];exact⟨rfl,X⟩
end
section
open Go.LeP
variable{s t s':aH}{l c d:List Int}{x y:Int}{i j N:Nat}{cs:lq}
structure Rg(N:Nat)(v:Int->Int):Prop where
 neg:∀l,v (-l)= -v l
 val:∀l,v l=0\/v l=1\/v l= -1
 set:∀l,dZ N l->v l≠0
def F7(N:Nat)(cs:lq)(c:List Int):Prop:=∀v,Rg N v->(∀d∈cs,BP v d)->BP v c
def RC(s:aH)(c P:List Int):Prop:=(∃x∈c,x∈P)\/∃x∈c,∃y∈c,x≠y/\x ∉ P/\ -x ∉ P/\y ∉ P/\ -y ∉ P
def aH.df(s:aH)(j:Nat):List Int:=(s.R .tr).take ((s.R .be).getD j 0).toNat
def Ez(s:aH):Prop:=∀j,j< (s.R .be).length->∀i,s.aN i->RC s (s.R (.a i)) (s.df j)
theorem Ez.ext(g:aL s)(h:Ez s)(e:jI s s'):Ez s':=by
 intro j I i hi;rw[e.be]at I;have hi:=e.lN.1 hi;have hb:=g.bl j I;have O:s'.df j=s.df j:=by
  unfold aH.df;obtain⟨k,J⟩:=e.tr;rw[e.be,J,Wg (by omega)]
 rw[e.a i,O];exact h j I i hi
theorem oE(g:aL s)(I:dZ s.vars x)(h:s.val x=0):x ∉ s.R .tr/\ -x ∉ s.R .tr:=by
 refine⟨λhm=>?_,λhm=>?_⟩
 .have:=(g.v1 x I).2 hm;omega
 .have:=(g.v1 (-x) I.neg).2 hm;rw[pN I]at this;omega
theorem Kr(g:aL s)(h:dE s)(hi:s.aN i):RC s (s.R (.a i)) (s.R .tr):=by
 rcases h i hi with h| ⟨x,J,y,O,I,h1,Q⟩
 .exact .inl h
 .have U:=g.cv i hi x ((g.ca i hi x).2 J);have X:=g.cv i hi y ((g.ca i hi y).2 O);obtain⟨a,b⟩:=oE g U h1;obtain⟨Y,V⟩:=oE g X Q;exact .inr ⟨x,J,y,O,I,a,b,Y,V⟩
theorem qk:(s.decide x).R (.a i)=s.R (.a i):=by
 unfold aH.decide;rw[kO (by simp) (by simp) (by simp) (by simp)];unfold aH.kP;rw[aq (by simp),aq (by simp)]
theorem nO:(s.decide x).R .be=s.R .be++ [((s.R .tr).length:Int)]:=by
 unfold aH.decide;rw[kO (by simp) (by simp) (by simp) (by simp)];unfold aH.kP;rw[aq (by simp),aQ]
theorem xo:(s.decide x).R .tr=s.R .tr++ [x]:=by
 unfold aH.decide;rw[sQ];unfold aH.kP;rw[aq (by simp),aq (by simp)]
theorem lE:(s.decide x).aN i↔s.aN i:=by
 unfold aH.decide aH.kP aH.put aH.aN aH.set;exact Yb
theorem Ez.decide(g:aL s)(h:Ez s)(O:dE s):Ez (s.decide x):=by
 intro j J i hi;have hi:s.aN i:=lE.1 hi;rw[nO,I',Wz,Xi]at J;unfold aH.df;rw[nO,xo,qk];by_cases e:j< (s.R .be).length
 .have hb:=g.bl j e;have I:(s.R .be++ [((s.R .tr).length:Int)]).getD j 0=(s.R .be).getD j 0:=by simp[List.getD,Wd e]
  rw[I,Wg (by omega)];exact h j e i hi
 .have e0:j=(s.R .be).length:=by omega
  subst e0;have I:(s.R .be++ [((s.R .tr).length:Int)]).getD (s.R .be).length 0=((s.R .tr).length:Int):=by simp[List.getD]
  rw[I,tn,Wg (vy _),L0];exact Kr g O hi
theorem DU(i:Nat):(s.bV i).R .be=(s.R .be).take i/\(s.bV i).R .tr=(s.R .tr).take ((s.R .be).getD i 0).toNat/\∀j,(s.bV i).R (.a j)=s.R (.a j):=by
 unfold aH.bV;simp only[aH.set];refine⟨?_,?_,λj=>?_⟩<;>simp[bI]
theorem tq:(s.bV i).R .be=(s.R .be).take i:=(DU i).1
theorem uU:(s.bV i).R .tr=(s.R .tr).take ((s.R .be).getD i 0).toNat:=(DU i).2.1
theorem pT:(s.bV i).R (.a j)=s.R (.a j):=(DU i).2.2 j
theorem ER(g:aL s)(hi:i< (s.R .be).length)(I:j<i):(s.bV i).df j=s.df j:=by
 unfold aH.df;rw[tq,uU,hZ I,X0];have:=g.bs j i I hi;have:=g.bl j (by omega);rw[WK (by omega)]
theorem Ez.bV(g:aL s)(h:Ez s)(hi:i< (s.R .be).length):Ez (s.bV i):=by
 intro j J k I;have I:s.aN k:=I;rw[tq,y6]at J;rw[pT,ER g hi (by omega)];exact h j (by omega) k I
theorem xw(g:aL s){p:Nat}(I:j< (s.R .be).length):j< (s.R .be).countP (λe=>decide (e<=(p:Int)))↔(s.R .be).getD j 0<=(p:Int):=by
 have mono:∀a b,a<b->b< (s.R .be).length->(s.R .be).getD a 0< (s.R .be).getD b 0:=λa b h1 O=>g.bs a b h1 O;have key:∀ (be:List Int),(∀a b,a<b->b<be.length->be.getD a 0<be.getD b 0)->∀j,j<be.length->(j<be.countP (λe=>decide (e<=(p:Int)))↔be.getD j 0<=(p:Int)):=by
  intro be
  induction be with
  |nil=>intro _ j I;simp at I
  |cons a t Q=>
   intro hm j I;have Q:=Q (λx y h1 O=>by have:=hm (x+1) (y+1) (by omega) (by simpa using O);simpa using this);rw[WX];by_cases ha:a<=(p:Int)
   .rw [v8 (by simpa using ha)];cases j with
    |zero=>simp[ha]
    |succ j=>
     have I:j<t.length:=by simpa using I
     have:=Q j I;have J:(a::t).getD (j+1) 0=t.getD j 0:=by simp
     rw[J,<- this];omega
   .rw [r8 (by simpa using ha)];have z:t.countP (λe=>decide (e<=(p:Int)))=0:=by
     rw[X9];intro e he;obtain⟨k,U,rfl⟩:=Bs.1 he;have:=hm 0 (k+1) (by omega) (by simpa using U);simp only[Zf,Zg]at this;rw[vx,V9 U,Wn]at this;simp;omega
    rw[z];cases j with
    |zero=>simp;omega
    |succ j=>
     have I:j<t.length:=by simpa using I
     have:=hm 0 (j+1) (by omega) (by simpa using I);have J:(a::t).getD (j+1) 0=t.getD j 0:=by simp
     have e0:(a::t).getD 0 0=a:=by simp
     rw[J,e0]at this;rw[J];omega
 exact key _ mono j I
theorem CL(I:x∈s.R .tr):∃p,p< (s.R .tr).length/\(s.R .tr).getD p 0=x:=by
 obtain⟨p,hp,e⟩:=Bs.1 I;exact⟨p,hp,by simp[List.getD,hp,e]⟩
theorem Lx(g:aL s){p q:Nat}(hp:p< (s.R .tr).length)(hq:q< (s.R .tr).length)(h:bo ((s.R .tr).getD p 0)=bo ((s.R .tr).getD q 0)):p=q:=by
 have I:(s.R .tr).getD p 0=(s.R .tr)[p]:=by simp[List.getD,hp]
 have J:(s.R .tr).getD q 0=(s.R .tr)[q]:=by simp[List.getD,hq]
 rw[I,J]at h;have:=(XE (h₀:=show p< ((s.R .tr).map bo).length by simpa using hp) (h₁:=by simpa using hq) g.nd).1 (by simpa using h);exact this
theorem F9{l:List Int}{k:Nat}:x∈l.take k↔∃p,p<k/\p<l.length/\l.getD p 0=x:=by
 constructor
 .intro h;obtain⟨p,hp,e⟩:=Bs.1 h;rw[y6]at hp;refine⟨p,by omega,by omega,?_⟩;rw[XP]at e;simp[List.getD,show p<l.length by omega,e]
 .rintro ⟨p,h1,I,rfl⟩;rw[Bs];refine⟨p,by rw[y6];omega,?_⟩;rw[XP];simp[List.getD,I]
theorem tf:s.bM (-x)=s.bM x:=by unfold aH.bM;rw[pz]
theorem q_(g:aL s)(O: -x∈s.R .tr)(I:j< (s.R .be).length): -x∈s.df j↔s.bM x<=j:=by
 obtain⟨p,hp,e⟩:=CL O;have hl:=g.lv p hp;rw[e,tf]at hl;have U:=xw g (p:=p) I;have hb:=g.bl j I;unfold aH.df;rw[F9,hl];constructor
 .rintro ⟨q,h1,J,Q⟩;have:=Lx g J hp (by rw[Q,e]);subst this;omega
 .intro h;refine⟨p,?_,hp,e⟩;omega
theorem iR(g:aL s)(I: -x∈s.R .tr):x ∉ s.R .tr:=by
 intro h;obtain⟨p,hp,e⟩:=CL I;obtain⟨q,hq,J⟩:=CL h;have:=Lx g hp hq (by rw[e,J,pz]);subst this;have:=(g.tv x h).1;omega
structure LS(s:aH)(l:List Int)(bl:Nat):Prop where
 ft:∀x∈l,-x∈s.R .tr
 qd:∃x∈l,s.bM x=(s.R .be).length/\∀y∈l,y≠x->s.bM y<=bl
 lt:bl< (s.R .be).length
 aC:bl=0\/∃y∈l,s.bM y=bl
 nd:l.Nodup
theorem LS.tI(g:aL s)(h:LS s l i)(I:x∈l):dZ s.vars x:=by
 have:=(g.tv _ (h.ft x I)).neg
 rwa [WJ]at this
theorem LS.new(g:aL s)(b:Ez s)(h:LS s l i)(V:s.aN j): ¬∀x,x∈s.R (.a j)↔x∈l:=by
 intro e;have X:=h.lt;obtain⟨x,Z,h1,U⟩:=h.qd;have Q:(s.R .be).length - 1< (s.R .be).length:=by omega
 rcases b _ Q j V with⟨y,O,J⟩| ⟨y,O,z,Y,I,_,b1,_,b2⟩
 .exact iR g (h.ft y ((e y).1 O)) (Wh J)
 .have key:∀u∈l,-u ∉ s.df ((s.R .be).length - 1)->u=x:=λu hu hn=>by
   refine Wj λI=>hn ((q_ g (h.ft u hu) Q).2 ?_);have:=U u hu I;omega
  exact I ((key y ((e y).1 O) b1).trans (key z ((e z).1 Y) b2).symm)
theorem LS.add(g:aL s)(b:Ez s)(h:LS s l i)(ha:lM (s.bV i) l s'):Ez s':=by
 intro j Z k U;have gb:=l4 g h.lt;have ac:=h.lt;rw[ha.be,tq,y6]at Z;have Y:s'.df j=s.df j:=by
  have:s'.df j=(s.bV i).df j:=by unfold aH.df;rw[ha.tr,ha.be]
  rw[this,ER g h.lt (by omega)]
 have aa:k< (s.bV i).nc+1:=by have:=U.1;rw[ha.n]at this;exact this
 rw[Y,ha.a];by_cases e:k=(s.bV i).nc
 .rw [v8 e];obtain⟨x,J,h1,h2⟩:=h.qd;rcases h.aC with e0| ⟨y,O,e0⟩
  .omega
  .have I:j< (s.R .be).length:=by omega
   have V:=iR g (h.ft x J);have X:=iR g (h.ft y O);refine .inr ⟨x,J,y,O,λe=>by rw[e,e0]at h1;omega,λhm=>V (Wh hm),λhm=>?_,λhm=>X (Wh hm),λhm=>?_⟩
   .have:=(q_ g (h.ft x J) I).1 hm;omega
   .have:=(q_ g (h.ft y O) I).1 hm;omega
 .rw [r8 e];have hg:(s.bV i).gone k=false:=by have:=U.2;rw[ha.g,r8 e]at this;exact this
  have Q:s.aN k:=⟨by show k< (s.bV i).nc;omega,hg⟩
  rw[pT];exact b j (by omega) k Q
def NG(c:List Int)(v:Int):Nat:=if v∈c then 1 else if -v∈c then 2 else 0
def xF(c:List Int):Nat->Nat
 |0=>0
 |n+1=>NG c ((n:Int)+1)+3*xF c n
theorem Oj(c:List Int)(v:Int):NG c v<3:=by
 unfold NG;split
 .omega
 .split<;>omega
theorem FL{c d:List Int}:∀ {n:Nat},xF c n=xF d n->∀v:Nat,v<n->NG c ((v:Int)+1)=NG d ((v:Int)+1)
 |0,_,v,hv=>by omega
 |n+1,h,v,hv=>by
  unfold xF at h;have h1:=Oj c ((n:Int)+1);have J:=Oj d ((n:Int)+1);have I:NG c ((n:Int)+1)=NG d ((n:Int)+1):=by omega
  by_cases e:v=n
  .subst e;exact I
  .exact FL (n:=n) (by omega) v (by omega)
structure GF(N:Nat)(c:List Int):Prop where
 tI:∀x∈c,dZ N x
 nt:∀x∈c,-x ∉ c
 nd:c.Nodup
theorem GF.mem(h:GF N c)(I:dZ N x):x∈c↔(0<x/\NG c (bo x)=1)\/(x<0/\NG c (bo x)=2):=by
 obtain⟨O,h1,J⟩:=I;unfold bo;by_cases e:x<0
 .rw [v8 e];unfold NG;rw[WJ];constructor
  .intro hm;have:=h.nt x hm;rw[r8 this,v8 hm];exact .inr ⟨e,rfl⟩
  .rintro (⟨a,_⟩| ⟨_,b⟩)
   .omega
   .split at b
    .omega
    .split at b
     .assumption
     .omega
 .rw [r8 e];unfold NG;constructor
  .intro hm;rw[v8 hm];exact .inl ⟨by omega,rfl⟩
  .rintro (⟨_,b⟩| ⟨a,_⟩)
   .split at b
    .assumption
    .split at b<;>omega
   .omega
theorem GF.same(h:GF N c)(k:GF N d)(e:xF c N=xF d N):∀x,x∈c↔x∈d:=by
 have key:∀x,dZ N x->(x∈c↔x∈d):=λx I=>by
  rw[h.mem I,k.mem I];have ha:=I.bo;have:=FL e ((bo x).toNat - 1) (by omega);rw[show (((bo x).toNat - 1:Nat):Int)+1=bo x by omega]at this;rw[this]
 intro x;exact⟨λI=> (key x (h.tI x I)).1 I,λI=> (key x (k.tI x I)).2 I⟩
end
section
open Go.LeP
variable{s t s':aH}{l c d:List Int}{x y:Int}{i j N:Nat}{cs:lq}{hv:List (Nat × List Int)}{un:lq}
theorem jl(g:aL s)(I:dZ s.vars x):s.val x=0↔x ∉ s.R .tr/\ -x ∉ s.R .tr:=by
 refine⟨oE g I,λ⟨h1,J⟩=>?_⟩;have hb:=s.rD g.wf x;rcases hb with h|h|h
 .exact h
 .exact absurd ((g.v1 x I).1 h) h1
 .exact absurd ((g.v1 (-x) I.neg).1 (by rw[pN I];omega)) J
structure qB(N:Nat)(cs:lq)(s:aH)(hv:List (Nat × List Int))(un:lq):Prop where
 g:aL s
 v:s.vars=N
 fc:∀j,j<cs.length->s.aN j/\s.R (.a j)=cs.getD j []
 imp:∀i,s.aN i->F7 N cs (s.R (.a i))
 Ey:∀h∈hv,cs.length<=h.1/\s.aN h.1/\s.R (.a h.1)=h.2
 hn:(hv.map (·.1)).Nodup
 Nw:∀c∈un,∃i,cs.length<=i/\s.aN i/\s.R (.a i)=c/\i ∉ hv.map (·.1)
 Lg:Ez s
 dn:((hv.map (·.2)++un).map λc=>xF c N).Nodup
 ok:∀c∈hv.map (·.2)++un,GF N c
theorem qB.run(h:qB N cs s hv un)(e:jI s s')(X:aL s'):qB N cs s' hv un:=by
 have th:∀i,s'.aN i↔s.aN i:=λi=>e.lN;exact⟨X,by rw[e.v,h.v],λj J=>⟨(th j).2 (h.fc j J).1,by rw[e.a];exact(h.fc j J).2⟩,λi hi=>by rw[e.a];exact h.imp i ((th i).1 hi),
  λk I=>⟨(h.Ey k I).1,(th _).2 (h.Ey k I).2.1,by rw[e.a];exact(h.Ey k I).2.2⟩,h.hn,
  λc Q=>by obtain⟨i,h1,O,V,U⟩:=h.Nw c Q;exact⟨i,h1,(th i).2 O,by rw[e.a];exact V,U⟩,h.Lg.ext h.g e,h.dn,h.ok⟩
theorem qB.decide(h:qB N cs s hv un)(J:dE s)(hl:dZ s.vars x)(U:s.val x=0):qB N cs (s.decide x) hv un:=by
 exact⟨px h.g hl U,h.v,λj O=>⟨lE.2 (h.fc j O).1,by rw[qk];exact(h.fc j O).2⟩,λi hi=>by rw[qk];exact h.imp i (lE.1 hi),
  λk I=>⟨(h.Ey k I).1,lE.2 (h.Ey k I).2.1,by rw[qk];exact(h.Ey k I).2.2⟩,h.hn,
  λc J=>by obtain⟨i,h1,Q,X,V⟩:=h.Nw c J;exact⟨i,h1,lE.2 Q,by rw[qk];exact X,V⟩,h.Lg.decide h.g J,h.dn,h.ok⟩
theorem qB.bV(h:qB N cs s hv un)(hi:i< (s.R .be).length):qB N cs (s.bV i) hv un:=by
 exact⟨l4 h.g hi,h.v,λj J=>⟨(h.fc j J).1,by rw[pT];exact(h.fc j J).2⟩,λk I=>by rw[pT];exact h.imp k I,
  λk I=>⟨(h.Ey k I).1,(h.Ey k I).2.1,by rw[pT];exact(h.Ey k I).2.2⟩,h.hn,
  λc V=>by obtain⟨k,h1,Q,U,O⟩:=h.Nw c V;exact⟨k,h1,Q,by rw[pT];exact U,O⟩,h.Lg.bV h.g hi,h.dn,h.ok⟩
theorem LS.TN(h:qB N cs s hv un)(k:LS s l i):GF N l:=
 ⟨λx I=>by have:=k.tI h.g I;rwa [h.v]at this,λx I hm=>iR h.g (k.ft x I) (by have:=k.ft _ hm;rwa [WJ]at this),k.nd⟩
theorem LS.O2(h:qB N cs s hv un)(k:LS s l i):xF l N ∉ (hv.map (·.2)++un).map λc=>xF c N:=by
 intro hm;obtain⟨c,I,e⟩:=LV.1 hm;have same:=(h.ok c I).same (k.TN h) e;rcases y4.1 I with I|I
 .obtain ⟨p,hp,rfl⟩:=LV.1 I;obtain⟨_,J,O⟩:=h.Ey p hp;exact k.new h.g h.Lg J (by rw[O];exact same)
 .obtain ⟨q,_,J,O,_⟩:=h.Nw c I;exact k.new h.g h.Lg J (by rw[O];exact same)
structure MW(N:Nat)(cs:lq)(s:aH)(hv:List (Nat × List Int))(un:lq)(l:List Int)(nc:Nat):Prop where
 g:aL s
 v:s.vars=N
 fc:∀j,j<cs.length->s.aN j/\s.R (.a j)=cs.getD j []
 imp:∀i,s.aN i->F7 N cs (s.R (.a i))
 Ey:∀h∈hv,cs.length<=h.1/\s.aN h.1/\s.R (.a h.1)=h.2
 hn:(hv.map (·.1)).Nodup
 Nw:∀c∈un,∃i,cs.length<=i/\s.aN i/\s.R (.a i)=c/\i ∉ hv.map (·.1)/\i<nc
 Lg:Ez s
 dn:((hv.map (·.2)++un).map λc=>xF c N).Nodup
 ok:∀c∈hv.map (·.2)++un,GF N c
 lc:xF l N ∉ (hv.map (·.2)++un).map λc=>xF c N
 lo:GF N l
 la:cs.length<=nc/\s.aN nc/\s.R (.a nc)=l
 hl:∀h∈hv,h.1<nc
theorem qB.UO(h:qB N cs s hv un)(k:LS s l i)(f:F7 N cs l)(ha:lM (s.bV i) l s')(g':aL s'):MW N cs s' hv un l s.nc:=by
 have enc:(s.bV i).nc=s.nc:=rfl;have U:cs.length<=s.nc:=by
  rcases Wp s.nc cs.length with e|e
  .exact absurd (h.fc _ e).1.1 (Nat.lt_irrefl _)
  .exact e
 have th:∀ {j},s.aN j->s'.aN j/\s'.R (.a j)=s.R (.a j):=λ{j} I=>by
  have Q:j≠s.nc:=by have:=I.1;omega
  refine⟨⟨?_,?_⟩,?_⟩
  .rw [ha.n,enc];have:=I.1;omega
  .rw [ha.g,enc,r8 Q];exact I.2
  .rw [ha.a,enc,r8 Q,pT]
 have X:s'.aN s.nc/\s'.R (.a s.nc)=l:=by
  refine⟨⟨?_,?_⟩,?_⟩
  .rw [ha.n,enc];omega
  .rw [ha.g,enc,v8 rfl]
  .rw [ha.a,enc,v8 rfl]
 refine⟨g',by rw[ha.v];exact h.v,λj I=>⟨(th (h.fc j I).1).1,by rw[(th (h.fc j I).1).2];exact(h.fc j I).2⟩,λj I=>?_,λp hp=>?_,h.hn,λc Y=>?_,k.add h.g h.Lg ha,h.dn,h.ok,k.O2 h,k.TN h,⟨U,X⟩,λp hp=> (h.Ey p hp).2.1.1⟩
 .by_cases e:j=s.nc
  .subst e;rw[X.2];exact f
  .have O:s.aN j:=by
    refine⟨?_,?_⟩
    .have:=I.1;rw[ha.n,enc]at this;omega
    .have:=I.2;rw[ha.g,enc,r8 e]at this;exact this
   rw[(th O).2];exact h.imp j O
 .obtain ⟨h1,J,V⟩:=h.Ey p hp;exact⟨h1,(th J).1,by rw[(th J).2];exact V⟩
 .obtain ⟨q,h1,J,V,Z⟩:=h.Nw c Y;exact⟨q,h1,(th J).1,by rw[(th J).2];exact V,Z,J.1⟩
theorem DA{α:Type}{l:List α}{a:α}(h:l.Nodup)(ha:a ∉ l):(l++ [a]).Nodup:=by
 rw[Xu];exact⟨h,by simp,λx J y I=>by rw[xv]at I;subst I;rintro rfl;exact ha J⟩
theorem To{α:Type}{l m:List α}{a:α}(h:(l++m).Nodup)(ha:a ∉ l++m):(l++ [a]++m).Nodup:=by
 have hp:(l++ [a]++m).Perm (l++m++ [a]):=by
  rw[WH,WH];exact List.Perm.append_left _ (List.perm_append_comm)
 exact hp.nodup_iff.2 (DA h ha)
theorem MW.Mc(h:MW N cs s hv un l i):qB N cs s (hv++ [(i,l)]) un:=by
 obtain⟨h1,J,V⟩:=h.la;refine⟨h.g,h.v,h.fc,h.imp,λp hp=>?_,?_,λc I=>?_,h.Lg,?_,λc I=>?_⟩
 .rcases y4.1 hp with hp|hp
  .exact h.Ey p hp
  .rw [xv]at hp;subst hp;exact⟨h1,J,V⟩
 .rw [GD];exact DA h.hn λhm=>by
   obtain⟨p,hp,e⟩:=LV.1 hm;have:=h.hl p hp;simp at e;omega
 .obtain ⟨q,U,Q,X,O,Y⟩:=h.Nw c I;refine⟨q,U,Q,X,λhm=>?_⟩;rw[GD]at hm;rcases y4.1 hm with hm|hm
  .exact O hm
  .simp at hm;omega
 .rw [GD,GD,GD];have:=h.dn;have hl:=h.lc;rw[GD]at this hl;exact To this hl
 .rw [GD]at I;rcases y4.1 I with I|I
  .rcases y4.1 I with I|I
   .exact h.ok c (Wq _ I)
   .simp at I;subst I;exact h.lo
  .exact h.ok c (WB _ I)
theorem MW.NV(h:MW N cs s hv un l i):qB N cs s hv (un++ [l]):=by
 obtain⟨h1,J,V⟩:=h.la;refine⟨h.g,h.v,h.fc,h.imp,h.Ey,h.hn,λc I=>?_,h.Lg,?_,λc I=>?_⟩
 .rcases y4.1 I with I|I
  .obtain ⟨q,U,Q,X,O,Y⟩:=h.Nw c I;exact⟨q,U,Q,X,O⟩
  .rw [xv]at I;subst I;exact⟨i,h1,J,V,λhm=>by
    obtain⟨p,hp,e⟩:=LV.1 hm;have:=h.hl p hp;omega⟩
 .rw [<- WH,GD];exact DA h.dn h.lc
 .rw [<- WH]at I;rcases y4.1 I with I|I
  .exact h.ok c I
  .rw [xv]at I;subst I;exact h.lo
theorem wV(h:j≠i):(s.drop i).R (.a j)=s.R (.a j):=by
 unfold aH.drop aH.del;show (((((pq i s ((s.R (.l i)).take 2)).set .lo _).set (.a i) []).set (.l i) []).R (.a j))=_;rw[aq (by simp),aq (by simpa using h),aq (by simp),jE _ (by simp)]
theorem wX{z:Pt}(h:z=.tr\/z=.be):(s.drop i).R z=s.R z:=by
 unfold aH.drop aH.del;show (((((pq i s ((s.R (.l i)).take 2)).set .lo _).set (.a i) []).set (.l i) []).R z)=_;rcases h with rfl|rfl<;>rw[aq (by simp),aq (by simp),aq (by simp),jE _ (by simp)]
theorem HF:(s.drop i).vars=s.vars:=by
 obtain⟨d1,d2,d3,_⟩:=jb (i:Int) ((s.R (.l i)).take 2) s;exact d1
theorem qB.drop{A B:List (Nat × List Int)}{p:Nat × List Int}(h:qB N cs s (A++p::B) un)(X:aL (s.drop p.1)):qB N cs (s.drop p.1) (A++B) un:=by
 have hp:=h.Ey p (by simp);have hn:=h.hn;rw[GD,Xj]at hn;have U:p.1 ∉ (A++B).map (·.1)/\((A++B).map (·.1)).Nodup:=by
  rw[GD];have hp:(A.map (·.1)++p.1::B.map (·.1)).Perm (p.1::(A.map (·.1)++B.map (·.1))):=List.perm_middle;exact Ym.1 (hp.nodup_iff.1 hn)
 have sub:∀q∈A++B,q∈A++p::B:=λq hq=>by
  rcases y4.1 hq with hq|hq
  .exact Wq _ hq
  .exact WB _ (xk _ hq)
 have ne:∀q∈A++B,q.1≠p.1:=λq hq e=>U.1 (by rw[<- e];exact LV.2 ⟨q,hq,rfl⟩);refine⟨X,by rw[HF];exact h.v,λj O=>?_,λj O=>?_,λq hq=>?_,U.2,λc J=>?_,λj O k Y=>?_,?_,λc J=>?_⟩
 .have I:j≠p.1:=by omega
  exact⟨gF.2 ⟨(h.fc j O).1,I⟩,by rw[wV I];exact(h.fc j O).2⟩
 .obtain ⟨h1,Q⟩:=gF.1 O;rw[wV Q];exact h.imp j h1
 .obtain ⟨h1,Q,h3⟩:=h.Ey q (sub q hq);exact⟨h1,gF.2 ⟨Q,ne q hq⟩,by rw[wV (ne q hq)];exact h3⟩
 .obtain ⟨q,q1,Z,q3,V⟩:=h.Nw c J;have I:q≠p.1:=λe=>V (by rw[e];exact LV.2 ⟨p,by simp,rfl⟩);exact⟨q,q1,gF.2 ⟨Z,I⟩,by rw[wV I];exact q3,λhm=>by
   obtain⟨r,hr,e⟩:=LV.1 hm;exact V (LV.2 ⟨r,sub r hr,e⟩)⟩
 .obtain ⟨h1,Q⟩:=gF.1 Y;rw[wX (.inr rfl)]at O;have:=h.Lg j O k h1;unfold aH.df;rw[wV Q,wX (.inl rfl),wX (.inr rfl)];exact this
 .have:=h.dn;refine this.sublist (List.Sublist.map _ ?_);refine YQ ?_ (YF _);exact List.Sublist.map _ (YQ (YF _) (Y5 _ _))
 .refine h.ok c ?_;rcases y4.1 J with J|J
  .obtain ⟨q,hq,rfl⟩:=LV.1 J;exact Wq _ (LV.2 ⟨q,sub q hq,rfl⟩)
  .exact WB _ J
def Ei(N:Nat)(s:aH)(S:Int->Prop):Prop:=∀v:Int,1<=v->v<=N->s.val v=0->S v
theorem Ei.run{S:Int->Prop}(h:Ei N s S)(k:qB N cs s hv un)(e:jI s s')(O:aL s'):Ei N s' S:=by
 intro v v1 v2 Q;have J:dZ s.vars v:=⟨by omega,by rw[k.v];omega,by rw[k.v];omega⟩
 have I:dZ s'.vars v:=by rw[e.v];exact J
 obtain⟨a,b⟩:=(jl O I).1 Q;exact h v v1 v2 ((jl k.g J).2 ⟨λm=>a (e.mem m),λm=>b (e.mem m)⟩)
end
section
open Go.LeP
variable{w0 w w' w1 w2:World}{B N:Nat}{L L':Nat->Nat}
structure Hc where
 i:Nat
 sl:Sl
 c:List Int
 lv:Int
 sz:Int
 lk:Bool
def JL(h:Hc):List Value:= [.i h.i,h.sl.v,.i h.lv,.i h.sz,.bool h.lk]
theorem Cm:Jk 5 JL:=⟨λ_=>rfl,by omega,λx v hv=>by
 simp only[JL,V',W5,W8]at hv;rcases hv with rfl|rfl|rfl|rfl|rfl<;>rfl⟩
abbrev Us:=Sl × List Int
abbrev Ps:=Bool × Sl × List Int
def Tp(h:Ps):List Value:= [.bool h.1,h.2.1.v]
theorem Oz:Jk 2 Tp:=⟨λ_=>rfl,by omega,λx v hv=>by
 simp only[Tp,V',W5,W8]at hv;rcases hv with rfl|rfl<;>rfl⟩
structure Me where
 n:Int
 f:Sl
 AQ:Int
 yV:Int
 lrn:Int
 pu:Int
 pa:Int
 pl:Int
 bX:Int
 dO:Int
 cf:Int
 de:Int
 re:Int
 dr:Int
structure Xs where
 m:Me
 pb:Nat
 hb:Nat
 Jf:Sl
 hs:Sl
 us:Sl
 ps:Sl
 ms:Sl
 s:aH
 S:Int->Prop
 ph:List Int
 hv:List Hc
 un:List Us
 pr:List Ps
 mo:List Int
def Xs.cells(x:Xs):Array Value:= #[.i x.m.n,x.m.f.v,.i x.m.AQ,.i x.m.yV,.i x.m.lrn,cj x.pb,cj x.hb,x.Jf.v,.i x.m.pu,.i x.m.pa,.i x.m.pl,
 x.hs.v,x.us.v,.i x.m.bX,.i x.m.dO,x.ms.v,x.ps.v,.i x.m.cf,.i x.m.de,.i x.m.re,.i x.m.dr]
structure RO(w:World)(L:Nat->Nat)(s:Sl)(c:List Int):Prop where
 n:s.n=c.length
 v:Vw sT w s.p c
 l:∀k,aF s.p=some k->L k=9/\k<w.heap.size
structure Qz(E:Nat->Prop)(w0 w:World)(B:Nat)(L:Nat->Nat)(N:Nat)(x:Xs):Prop where
 g:ak w0 w
 me: ¬E 1->bO w B x.cells
 ml:L B=1/\w0.heap.size<=B/\B<w.heap.size
 pm: ¬E 2->∃H,PM w x.pb H x.s/\∀y k,own x.pb H y=some k->L k=2/\w0.heap.size<=k
 hp: ¬E 3->∃z,Hp.cN w x.hb z/\Hp.pK z N/\(∀u:Int,1<=u->u<=N->(0<HeapP.g z.at_ u↔x.S u))/\∀k,z.bK x.hb k->L k=3/\w0.heap.size<=k
 ph: ¬E 4->d_ aB w x.Jf.p x.Jf.c x.ph/\x.Jf.n=x.ph.length/\∀k,aF x.Jf.p=some k->L k=4/\w0.heap.size<=k
 hv: ¬E 5->Row 5 JL cK w x.hs.p x.hs.c x.hv/\x.hs.n=x.hv.length/\∀k,aF x.hs.p=some k->L k=5/\w0.heap.size<=k
 hr: ¬E 9->∀h∈x.hv,RO w L h.sl h.c
 un: ¬E 6->Ow Sl.v aI w x.us.p x.us.c (x.un.map (·.1))/\x.us.n=x.un.length/\∀k,aF x.us.p=some k->L k=6/\w0.heap.size<=k
 ur: ¬E 9->∀u∈x.un,RO w L u.1 u.2
 pr: ¬E 7->Row 2 Tp kN w x.ps.p x.ps.c x.pr/\x.ps.n=x.pr.length/\∀k,aF x.ps.p=some k->L k=7/\w0.heap.size<=k
 rr: ¬E 9->∀u∈x.pr,RO w L u.2.1 u.2.2
 mo: ¬E 8->d_ aB w x.ms.p x.ms.c x.mo/\x.ms.n=x.mo.length/\∀k,aF x.ms.p=some k->L k=8/\w0.heap.size<=k
abbrev SR:=Qz λ_=>False
structure mF(E:Nat->Prop)(w0 w w':World)(L L':Nat->Nat):Prop where
 mod:aE (λk=>E (L k)/\w0.heap.size<=k) w w'
 EC:∀k,k<w.heap.size->L' k=L k
def lW(L:Nat->Nat)(n i:Nat):Nat->Nat:=λk=>if k<n then L k else i
theorem dF{n i k:Nat}(h:k<n):lW L n i k=L k:=by unfold lW;rw[v8 h]
theorem jw{n i k:Nat}(h:n<=k):lW L n i k=i:=by unfold lW;rw[r8 (by omega)]
abbrev Kp:=mF λi=>i≠9
theorem mF.trans{E:Nat->Prop}{I:Nat->Nat}(h:mF E w0 w w1 L I)(k:mF E w0 w1 w2 I L'):mF E w0 w w2 L L':=
 ⟨h.mod.then k.mod λb hb ⟨e,J⟩=>⟨by rw[<- h.EC b hb];exact e,J⟩,λb hb=>by rw[k.EC b (Xg hb h.mod.size),h.EC b hb]⟩
theorem mF.grow{E:Nat->Prop}(g:ak w w'):mF E w0 w w' L L:=⟨g.mono λ_ _ e=>e.elim,λ_ _=>rfl⟩
theorem mF.new{E:Nat->Prop}(g:ak w w')(i:Nat):mF E w0 w w' L (lW L w.heap.size i):=⟨g.mono λ_ _ e=>e.elim,λ_ I=>dF I⟩
theorem mF.yH{E E':Nat->Prop}(h:mF E w0 w w' L L')(I:∀i,E i->E' i):mF E' w0 w w' L L':=⟨h.mod.mono λ_ _ e=>⟨I _ e.1,e.2⟩,h.EC⟩
theorem RO.keep{s:Sl}{c:List Int}{E:Nat->Prop}(h:RO w L s c)(k:mF E w0 w w' L L')(I: ¬E 9):RO w' L' s c:=
 ⟨h.n,h.v.keep k.mod λb hb ⟨e,_⟩=>I (by rw[<- (h.l b hb).1];exact e),λb hb=>⟨by rw[k.EC b (h.l b hb).2];exact(h.l b hb).1,Xg (h.l b hb).2 k.mod.size⟩⟩
theorem Qz.Ro{E E':Nat->Prop}{x:Xs}(h:Qz E w0 w B L N x)(k:mF E' w0 w w' L L'):Qz (λi=>E i\/E' i) w0 w' B L' N x:=by
 have nt:∀ {i:Nat} {j:Nat},¬(E i\/E' i)->L j=i->¬(E' (L j)/\w0.heap.size<=j):=λhi I U=>hi (.inr (by rw[<- I];exact U.1));refine⟨h.g.then k.mod λb hb U=>by omega,λe=> (h.me λJ=>e (.inl J)).keep k.mod (nt e h.ml.1),⟨by rw[k.EC B h.ml.2.2];exact h.ml.1,h.ml.2.1,Xg h.ml.2.2 k.mod.size⟩,λe=>?_,λe=>?_,λe=>?_,λe=>?_,λe u hu=> (h.hr (λJ=>e (.inl J)) u hu).keep k λJ=>e (.inr J),λe=>?_,λe u hu=> (h.ur (λJ=>e (.inl J)) u hu).keep k λJ=>e (.inr J),λe=>?_,λe u hu=> (h.rr (λJ=>e (.inl J)) u hu).keep k λJ=>e (.inr J),λe=>?_⟩
 .obtain ⟨H,h1,Q⟩:=h.pm λJ=>e (.inl J);exact⟨H,h1.keep k.mod λy j I=>nt e (Q y j I).1,λy j I=>by rw[k.EC j (h1.lt y j I)];exact Q y j I⟩
 .obtain ⟨z,h1,Q,O,V⟩:=h.hp λJ=>e (.inl J);exact⟨z,h1.keep k.mod λj I=>nt e (V j I).1,Q,O,λj I=>by rw[k.EC j (h1.lt j I)];exact V j I⟩
 .obtain ⟨h1,Q,O⟩:=h.ph λJ=>e (.inl J);exact⟨h1.keep k.mod λj I=>nt e (O j I).1,Q,λj I=>by rw[k.EC j (h1.lt j I)];exact O j I⟩
 .obtain ⟨h1,Q,O⟩:=h.hv λJ=>e (.inl J);exact⟨h1.keep k.mod λj I=>nt e (O j I).1,Q,λj I=>by rw[k.EC j (h1.lt j I)];exact O j I⟩
 .obtain ⟨h1,Q,O⟩:=h.un λJ=>e (.inl J);exact⟨h1.keep k.mod λj I=>nt e (O j I).1,Q,λj I=>by rw[k.EC j (h1.lt j I)];exact O j I⟩
 .obtain ⟨h1,Q,O⟩:=h.pr λJ=>e (.inl J);exact⟨h1.keep k.mod λj I=>nt e (O j I).1,Q,λj I=>by rw[k.EC j (h1.lt j I)];exact O j I⟩
 .obtain ⟨h1,Q,O⟩:=h.mo λJ=>e (.inl J);exact⟨h1.keep k.mod λj I=>nt e (O j I).1,Q,λj I=>by rw[k.EC j (h1.lt j I)];exact O j I⟩
section
variable{x:Xs}
theorem Qz.yH{E E':Nat->Prop}(h:Qz E w0 w B L N x)(I:∀i,E i->E' i):Qz E' w0 w B L N x:=
 ⟨h.g,λe=>h.me λc=>e (I _ c),h.ml,λe=>h.pm λc=>e (I _ c),λe=>h.hp λc=>e (I _ c),λe=>h.ph λc=>e (I _ c),λe=>h.hv λc=>e (I _ c),λe=>h.hr λc=>e (I _ c),λe=>h.un λc=>e (I _ c),λe=>h.ur λc=>e (I _ c),λe=>h.pr λc=>e (I _ c),λe=>h.rr λc=>e (I _ c),λe=>h.mo λc=>e (I _ c)⟩
theorem SR.at(h:SR w0 w B L N x):bO w B x.cells:=h.me id
theorem SR.new(h:SR w0 w B L N x)(m:ak w w')(i:Nat):SR w0 w' B (lW L w.heap.size i) N x:=
 (h.Ro (E':=λ_=>False) ⟨m.mono λ_ _ e=>e.elim,λ_ I=>dF I⟩).yH λ_ e=>e.elim id id
theorem SR.grow(h:SR w0 w B L N x)(m:ak w w'):SR w0 w' B L N x:=
 (h.Ro (E':=λ_=>False) ⟨m.mono λ_ _ e=>e.elim,λ_ I=>rfl⟩).yH λ_ e=>e.elim id id
theorem SR.drew(h:SR w0 w B L N x):SR w0 w.drew B L N x:=h.grow (aE.refl _).drew
theorem SR.bP(h:SR w0 w B L N x)(i:Nat)(m:aE (λk=>L k=i/\w0.heap.size<=k) w w'):Qz (λj=>j=i) w0 w' B (lW L w.heap.size i) N x:=
 (h.Ro (E':=λj=>j=i) ⟨m,λ_ I=>dF I⟩).yH λ_ e=>e.elim False.elim id
theorem SR.aC(h:SR w0 w B L N x)(i:Nat)(m:aE (λk=>L k=i/\w0.heap.size<=k) w w1)(m2:aE (·=B) w1 w'):Qz (λj=>j=i\/j=1) w0 w' B (lW L w.heap.size i) N x:=by
 refine(h.Ro (E':=λj=>j=i\/j=1) ⟨?_,λ_ I=>dF I⟩).yH λ_ e=>e.elim False.elim id;exact(m.mono λk _ e=>⟨.inl e.1,e.2⟩).then m2 λk I (e:k=B)=>by subst e;exact⟨.inr h.ml.1,h.ml.2.1⟩
theorem zJ{p q:sn}{i:Nat}(h:∀k,aF p=some k->L k=i/\w0.heap.size<=k)(hl:∀k,aF p=some k->k<w.heap.size)(g:ak w0 w)(hq:∀k,aF q=some k->aF p=some k\/w.heap.size<=k):
 ∀k,aF q=some k->lW L w.heap.size i k=i/\w0.heap.size<=k:=by
 intro k I;rcases hq k I with e|e
 .rw [dF (hl k e)];exact h k e
 .exact ⟨jw e,Wl g.size e⟩
theorem SR.own(h:SR w0 w B L N x){m':Me}(st:bO w' B {x with m:=m'}.cells)(m:aE (·=B) w w'):(SR w0 w' B L N {x with m:=m'})/\Kp w0 w w' L L:=by
 have b:=(h.Ro (E':=λj=>j=1) (w':=w') (L':=L) ⟨m.mono λk _ (e:k=B)=>by subst e;exact⟨h.ml.1,h.ml.2.1⟩,λ_ _=>rfl⟩)
 exact⟨⟨b.g,λ_=>st,b.ml,λ_=>b.pm (by simp),λ_=>b.hp (by simp),λ_=>b.ph (by simp),λ_=>b.hv (by simp),λ_=>b.hr (by simp),λ_=>b.un (by simp),λ_=>b.ur (by simp),λ_=>b.pr (by simp),λ_=>b.rr (by simp),λ_=>b.mo (by simp)⟩,⟨m.mono λk _ (e:k=B)=>by subst e;exact⟨by rw[h.ml.1];decide,h.ml.2.1⟩,λ_ _=>rfl⟩⟩
theorem SR.wU(h:SR w0 w B L N x){H Q:Pt->Sl}(I:∀y k,Go.Proofs.YtbdghpjnifjlmaaGreat.W.own x.pb H y=some k->L k=2/\w0.heap.size<=k)(O:∀y k,Go.Proofs.YtbdghpjnifjlmaaGreat.W.own x.pb H y=some k->k<w.heap.size){s':aH}(p:Pw w w' x.pb H Q s'):(SR w0 w' B (lW L w.heap.size 2) N {x with s:=s'})/\Kp w0 w w' L (lW L w.heap.size 2):=by
 have b:=h.bP 2 (p.mod.mono λk _ ⟨y,e⟩=>I y k e);refine⟨⟨b.g,λ_=>b.me (by simp),b.ml,λ_=>⟨Q,p.pm,λy k J=>?_⟩,λ_=>b.hp (by simp),λ_=>b.ph (by simp),λ_=>b.hv (by simp),λ_=>b.hr (by simp),λ_=>b.un (by simp),λ_=>b.ur (by simp),λ_=>b.pr (by simp),λ_=>b.rr (by simp),λ_=>b.mo (by simp)⟩,⟨p.mod.mono λk _ ⟨y,e⟩=>⟨by rw[(I y k e).1];decide,(I y k e).2⟩,λ_ J=>dF J⟩⟩;rcases p.ft y k J with⟨z,e⟩|e
 .rw [dF (O z k e)];exact I z k e
 .exact ⟨jw e,Wl h.g.size e⟩
theorem SR.heap(h:SR w0 w B L N x){z I:Hp.HS}(J:∀k,z.bK x.hb k->L k=3/\w0.heap.size<=k)(Q:∀k,z.bK x.hb k->k<w.heap.size)(r:Hp.cN w' x.hb I)(U:Hp.pK I N){S':Int->Prop}(V:∀u:Int,1<=u->u<=N->(0<HeapP.g I.at_ u↔S' u))
 (m:aE (z.bK x.hb) w w') (hf:∀k,I.bK x.hb k->z.bK x.hb k\/w.heap.size<=k):(SR w0 w' B (lW L w.heap.size 3) N {x with S:=S'})/\Kp w0 w w' L (lW L w.heap.size 3):=by
 have b:=h.bP 3 (m.mono λk _ e=>J k e);refine⟨⟨b.g,λ_=>b.me (by simp),b.ml,λ_=>b.pm (by simp),λ_=>⟨I,r,U,V,λk O=>?_⟩,λ_=>b.ph (by simp),λ_=>b.hv (by simp),λ_=>b.hr (by simp),λ_=>b.un (by simp),λ_=>b.ur (by simp),λ_=>b.pr (by simp),λ_=>b.rr (by simp),λ_=>b.mo (by simp)⟩,⟨m.mono λk _ e=>⟨by rw[(J k e).1];decide,(J k e).2⟩,λ_ O=>dF O⟩⟩;rcases hf k O with e|e
 .rw [dF (Q k e)];exact J k e
 .exact ⟨jw e,Wl h.g.size e⟩
theorem SR.phase(h:SR w0 w B L N x){l':List Int}(hl:l'.length=x.ph.length)(o:d_ aB w' x.Jf.p x.Jf.c l')(m:aE (λk=>aF x.Jf.p=some k) w w'):(SR w0 w' B (lW L w.heap.size 4) N {x with ph:=l'})/\Kp w0 w w' L (lW L w.heap.size 4):=by
 obtain⟨O,Q,I⟩:=h.ph id;have b:=h.bP 4 (m.mono λk _ e=>I k e);exact⟨⟨b.g,λ_=>b.me (by simp),b.ml,λ_=>b.pm (by simp),λ_=>b.hp (by simp),λ_=>⟨o,by rw[Q];exact hl.symm,zJ I O.lt h.g λk e=> .inl e⟩,λ_=>b.hv (by simp),λ_=>b.hr (by simp),λ_=>b.un (by simp),λ_=>b.ur (by simp),λ_=>b.pr (by simp),λ_=>b.rr (by simp),λ_=>b.mo (by simp)⟩,⟨m.mono λk _ e=>⟨by rw[(I k e).1];decide,(I k e).2⟩,λ_ J=>dF J⟩⟩
theorem RO.re{s:Sl}{c:List Int}{i:Nat}(h:RO w L s c){E:Nat->Prop}(m:aE (λk=>E (L k)/\w0.heap.size<=k) w w')(J: ¬E 9):RO w' (lW L w.heap.size i) s c:=h.keep ⟨m,λ_ I=>dF I⟩ J
theorem SR.Mc(h:SR w0 w B L N x){q:Sl}{hv':List Hc}(m:aE (λk=>aF x.hs.p=some k) w w1)(r:Row 5 JL cK w1 q.p q.c hv')(hq:q.n=hv'.length)(hf:∀k,aF q.p=some k->aF x.hs.p=some k\/w.heap.size<=k)
 (O:∀u∈hv',RO w L u.sl u.c) (st:bO w2 B {x with hs:=q,hv:=hv'}.cells) (m2:aE (·=B) w1 w2) (U:aF q.p≠some B):(SR w0 w2 B (lW L w.heap.size 5) N {x with hs:=q,hv:=hv'})/\Kp w0 w w2 L (lW L w.heap.size 5):=by
 obtain⟨Q,X,I⟩:=h.hv id;have b:=h.aC 5 (m.mono λk _ e=>I k e) m2;have V:aE (λk=> (L k=5\/L k=1)/\w0.heap.size<=k) w w2:=(m.mono λk _ e=>⟨.inl (I k e).1,(I k e).2⟩).then m2 λk J (e:k=B)=>by subst e;exact⟨.inr h.ml.1,h.ml.2.1⟩
 exact⟨⟨b.g,λ_=>st,b.ml,λ_=>b.pm (by simp),λ_=>b.hp (by simp),λ_=>b.ph (by simp),λ_=>⟨r.keep m2 λk J (e:k=B)=>U (by rw[<- e];exact J),hq,zJ I Q.lt h.g hf⟩,λ_ u hu=> (O u hu).re (E:=λj=>j=5\/j=1) V (by simp),λ_=>b.un (by simp),λ_=>b.ur (by simp),λ_=>b.pr (by simp),λ_=>b.rr (by simp),λ_=>b.mo (by simp)⟩,⟨(m.mono λk _ e=>⟨by rw[(I k e).1];decide,(I k e).2⟩).then m2 λk J (e:k=B)=>by subst e;exact⟨by rw[h.ml.1];decide,h.ml.2.1⟩,λ_ J=>dF J⟩⟩
theorem SR.NV(h:SR w0 w B L N x){q:Sl}{un':List Us}(m:aE (λk=>aF x.us.p=some k) w w1)(r:Ow Sl.v aI w1 q.p q.c (un'.map (·.1)))(hq:q.n=un'.length)(hf:∀k,aF q.p=some k->aF x.us.p=some k\/w.heap.size<=k)
 (O:∀u∈un',RO w L u.1 u.2) (st:bO w2 B {x with us:=q,un:=un'}.cells) (m2:aE (·=B) w1 w2) (U:aF q.p≠some B):(SR w0 w2 B (lW L w.heap.size 6) N {x with us:=q,un:=un'})/\Kp w0 w w2 L (lW L w.heap.size 6):=by
 obtain⟨Q,X,I⟩:=h.un id;have b:=h.aC 6 (m.mono λk _ e=>I k e) m2;have V:aE (λk=> (L k=6\/L k=1)/\w0.heap.size<=k) w w2:=(m.mono λk _ e=>⟨.inl (I k e).1,(I k e).2⟩).then m2 λk J (e:k=B)=>by subst e;exact⟨.inr h.ml.1,h.ml.2.1⟩
 exact⟨⟨b.g,λ_=>st,b.ml,λ_=>b.pm (by simp),λ_=>b.hp (by simp),λ_=>b.ph (by simp),λ_=>b.hv (by simp),λ_=>b.hr (by simp),λ_=>⟨r.keep m2 λk J (e:k=B)=>U (by rw[<- e];exact J),hq,zJ I Q.lt h.g hf⟩,λ_ u hu=> (O u hu).re (E:=λj=>j=6\/j=1) V (by simp),λ_=>b.pr (by simp),λ_=>b.rr (by simp),λ_=>b.mo (by simp)⟩,⟨(m.mono λk _ e=>⟨by rw[(I k e).1];decide,(I k e).2⟩).then m2 λk J (e:k=B)=>by subst e;exact⟨by rw[h.ml.1];decide,h.ml.2.1⟩,λ_ J=>dF J⟩⟩
theorem SR.O9(h:SR w0 w B L N x){q:Sl}{pr':List Ps}(m:aE (λk=>aF x.ps.p=some k) w w1)(r:Row 2 Tp kN w1 q.p q.c pr')(hq:q.n=pr'.length)(hf:∀k,aF q.p=some k->aF x.ps.p=some k\/w.heap.size<=k)
 (O:∀u∈pr',RO w L u.2.1 u.2.2) (st:bO w2 B {x with ps:=q,pr:=pr'}.cells) (m2:aE (·=B) w1 w2) (U:aF q.p≠some B):(SR w0 w2 B (lW L w.heap.size 7) N {x with ps:=q,pr:=pr'})/\Kp w0 w w2 L (lW L w.heap.size 7):=by
 obtain⟨Q,X,I⟩:=h.pr id;have b:=h.aC 7 (m.mono λk _ e=>I k e) m2;have V:aE (λk=> (L k=7\/L k=1)/\w0.heap.size<=k) w w2:=(m.mono λk _ e=>⟨.inl (I k e).1,(I k e).2⟩).then m2 λk J (e:k=B)=>by subst e;exact⟨.inr h.ml.1,h.ml.2.1⟩
 exact⟨⟨b.g,λ_=>st,b.ml,λ_=>b.pm (by simp),λ_=>b.hp (by simp),λ_=>b.ph (by simp),λ_=>b.hv (by simp),λ_=>b.hr (by simp),λ_=>b.un (by simp),λ_=>b.ur (by simp),λ_=>⟨r.keep m2 λk J (e:k=B)=>U (by rw[<- e];exact J),hq,zJ I Q.lt h.g hf⟩,λ_ u hu=> (O u hu).re (E:=λj=>j=7\/j=1) V (by simp),λ_=>b.mo (by simp)⟩,⟨(m.mono λk _ e=>⟨by rw[(I k e).1];decide,(I k e).2⟩).then m2 λk J (e:k=B)=>by subst e;exact⟨by rw[h.ml.1];decide,h.ml.2.1⟩,λ_ J=>dF J⟩⟩
theorem SR.Ui(h:SR w0 w B L N x){q:Sl}{mo':List Int}(m:aE (λk=>aF x.ms.p=some k) w w1)(r:d_ aB w1 q.p q.c mo')(hq:q.n=mo'.length)(hf:∀k,aF q.p=some k->aF x.ms.p=some k\/w.heap.size<=k)
 (st:bO w2 B {x with ms:=q,mo:=mo'}.cells) (m2:aE (·=B) w1 w2) (Q:aF q.p≠some B):(SR w0 w2 B (lW L w.heap.size 8) N {x with ms:=q,mo:=mo'})/\Kp w0 w w2 L (lW L w.heap.size 8):=by
 obtain⟨O,U,J⟩:=h.mo id;have b:=h.aC 8 (m.mono λk _ e=>J k e) m2;exact⟨⟨b.g,λ_=>st,b.ml,λ_=>b.pm (by simp),λ_=>b.hp (by simp),λ_=>b.ph (by simp),λ_=>b.hv (by simp),λ_=>b.hr (by simp),λ_=>b.un (by simp),λ_=>b.ur (by simp),λ_=>b.pr (by simp),λ_=>b.rr (by simp),λ_=>⟨r.keep m2 λk I (e:k=B)=>Q (by rw[<- e];exact I),hq,zJ J O.lt h.g hf⟩⟩,⟨(m.mono λk _ e=>⟨by rw[(J k e).1];decide,(J k e).2⟩).then m2 λk I (e:k=B)=>by subst e;exact⟨by rw[h.ml.1];decide,h.ml.2.1⟩,λ_ I=>dF I⟩⟩
theorem SR.Uf(h:SR w0 w B L N x){p q:sn}{i:Nat}(hi:i≠1)(hp:∀k,aF p=some k->L k=i/\w0.heap.size<=k)(hq:q=p\/q=some ⟨w1.heap.size,0,none⟩)(g:w.heap.size<=w1.heap.size):aF q≠some B:=by
 intro e;rcases hq with rfl|rfl
 .have:=(hp B e).1;rw[h.ml.1]at this;exact hi this.symm
 .have:w1.heap.size=B:=by simpa[aF]using e
  have:=h.ml.2.2;omega
theorem FZ{p q:sn}(hq:q=p\/q=some ⟨w1.heap.size,0,none⟩)(g:w.heap.size<=w1.heap.size):∀k,aF q=some k->aF p=some k\/w.heap.size<=k:=by
 intro k I;rcases hq with rfl|rfl
 .exact .inl I
 .have:w1.heap.size=k:=by simpa[aF]using I
  exact .inr (by omega)
end
end
section
open Go.LeP
variable{w0 w w' w1 w2:World}{B N:Nat}{L L':Nat->Nat}{x:Xs}{l:List Int}
theorem EX:rM prog sW kN 2 32=true:=by kernel_rfl
theorem RD{u:Ps}{b:Nat}(h:bO w b #[.bool u.1,u.2.1.v]):Vr 2 Tp w (some ⟨b,0,none⟩) [u]:=by
 intro j I;have:j=0:=by simpa using I
 subst this;exact⟨_,rfl,ae h rfl,ae h rfl,trivial⟩
theorem Ou(h:SR w0 w B L N x)(hp:x.pr.length<=1000000000)(del:Bool){sl:Sl}(ro:RO w L sl l){b:Nat}(hb:bO w b #[.bool del,sl.v]){K:World->Prop}
 (hk:∀w' L' q,SR w0 w' B L' N {x with ps:=q,pr:=x.pr++ [(del,sl,l)]}->Kp w0 w w' L L'->K w'):
 ∃X V Q J,(Builtin.append_ #[26,26] 26 #[.slice x.ps.p x.ps.n x.ps.c,.slice (some (qw b)) 1 1]).run prog w=.ok (.slice V Q J) X/\
  ∃O,(some (qw B))=some O/\∃I,bD ((O.add 14).add 2) 0 [.slice V Q J] X I/\K I:=by
 obtain⟨r1,r2,r3⟩:=h.pr id;refine Row.nu Oz EX r1 (RD (u:=(del,sl,l)) hb) r2 rfl (by simp;omega) λX p' c' o8 m8 U ar=>⟨_,rfl,?_⟩
 have Z:bO X B x.cells:=h.at.keep m8 λe=>by have:=(r3 B e).1;rw[h.ml.1]at this;exact absurd this (by decide)
 refine iK Z rfl rfl λI Y aa=>?_;have:=h.O9 (q:=⟨p',(x.pr++ [(del,sl,l)]).length,c'⟩) (pr':=x.pr++ [(del,sl,l)]) m8 o8 rfl (FZ U (vy _)) (λu hu=>by
  rcases y4.1 hu with hu|hu
  .exact h.rr id u hu
  .rw [xv]at hu;subst hu;exact ro) Y aa (h.Uf (by decide) r3 U (vy _))
 exact hk _ _ _ this.1 this.2
theorem IX(h:SR w0 w B L N x)(hp:x.pr.length<=1000000000){p:sn}{n c:Nat}(hv:Vw sT w p l)(hn:n=l.length)(Y:n<=1000000):
 Calls prog 68 #[cj B,.slice p n c] w λe w'=>e=.returned (.tuple #[])/\∃L' q sl,SR w0 w' B L' N {x with ps:=q,pr:=x.pr++ [(false,sl,l)]}/\Kp w0 w w' L L':=by
 refine ic.aj ?_;have D:=h.drew;refine⟨λu=>ak w.drew u,aE.refl _,_,rfl,_,_,_,λu g=>bN (D.at.grow g) rfl,(iA hv.drew hn Y).mono ?_⟩;rintro e w4⟨q,d,rfl,O,U,f4⟩;refine⟨_,_,_,rfl,U,λn6 V I=>?_⟩;have J:=U.trans I.mod;refine⟨J,?_⟩;have S7:=D.new J 9;have ro:RO V (lW L w.drew.heap.size 9) ⟨q,l.length,d⟩ l:=⟨rfl,(O.grow I.mod).vw,λk Q=>⟨jw (f4 k Q),Xg (O.lt k Q) I.mod.size⟩⟩
 refine Ou S7 hp false ro I.has λw' L' Z S' X=>⟨rfl,L',Z,_,S',?_⟩
 exact((mF.grow (aE.refl w).drew).trans (mF.new J 9)).trans X
end
section
open Go.LeP
variable{w0 w w' w1 w2:World}{B N:Nat}{L L':Nat->Nat}{x:Xs}{l:List Int}
theorem A6{y:Int}(h1: -1048576<=y)(I:y<=1048576):imax y (i64.wrap (0 - y))=bo y:=by
 rw[ao (by omega) (by omega)];unfold imax bo;split<;>split<;>omega
theorem Oe{q:sn}{i:Nat}:aF (q.map (·.add i))=aF q:=by
 cases q with
 |none=>rfl
 |some a=>simp[aF,cV]
structure R9(w:World)(L:Nat->Nat)(p:sn):Prop where
 l:∀k,aF p=some k->L k=9/\k<w.heap.size
theorem mF.r9(k:Kp w0 w w' L L'){p:sn}(r:R9 w L p):R9 w' L' p:=⟨λb hb=>⟨by rw[k.EC b (r.l b hb).2];exact(r.l b hb).1,Xg (r.l b hb).2 k.mod.size⟩⟩
theorem mF.no(k:Kp w0 w w' L L'){p:sn}(r:R9 w L p):∀b,aF p=some b->¬(L b≠9/\w0.heap.size<=b):=λb hb e=>e.1 (r.l b hb).1
theorem mF.vw(k:Kp w0 w w' L L'){p:sn}{α:Type}{f:α->Value}{m:List α}(v:Vw f w p m)(r:R9 w L p):Vw f w' p m:=v.keep k.mod (k.no r)
theorem mF.has(k:Kp w0 w w' L L'){b:Nat}{cs:Array Value}(h:bO w b cs)(r:L b=9):bO w' b cs:=h.keep k.mod λe=>e.1 r
theorem mF.ro(k:Kp w0 w w' L L'){s:Sl}{c:List Int}(h:RO w L s c):RO w' L' s c:=RO.keep h k (by simp)
theorem Kp.refl:Kp w0 w w L L:=mF.grow (aE.refl w)
theorem SR.push(h:SR w0 w B L N x){v:Int}(h1:1<=v)(Q:v<=N):Calls prog 171 #[Hp.ptr x.hb,.i v] w λe w'=>∃r:Int,e=.returned (.i r)/\
 ∃L',SR w0 w' B L' N {x with S:=λu=>x.S u\/u=v}/\Kp w0 w w' L L':=by
 obtain⟨z,J,z2,z3,z4⟩:=h.hp id;refine(Hp.PS J z2 v ⟨h1,Q⟩).mono ?_;rintro e w'⟨rfl,y,Y,Z,X,U,V⟩;have:=h.heap z4 J.lt Y Z (S':=λu=>x.S u\/u=v) (λu O I=>by rw[X.has u O I,z3 u O I]) U V;exact⟨_,rfl,_,this.1,this.2⟩
theorem SR.RN(h:SR w0 w B L N x)(g:aL x.s)(hN:x.s.vars<=1000000):Calls prog 170 #[cj x.pb] w λe w'=>∃ (q:sn) (d:Nat),e=.returned (.slice q (x.s.R .tr).length d)/\d_ aB w' q d (x.s.R .tr)/\ak w w'/\
 ∃L',SR w0 w' B L' N x/\Kp w0 w w' L L'/\R9 w' L' q:=by
 obtain⟨H,pm,_⟩:=h.pm id;have:=g.CQ;refine(Bw pm (by omega)).mono ?_;rintro e w'⟨q,d,rfl,o,I,f⟩;exact⟨q,d,rfl,o,I,_,h.new I 9,mF.new I 9,⟨λk J=>⟨jw (f k J),o.lt k J⟩⟩⟩
def cu(s:aH)(bM:Int):aH:=if (max 0 bM).toNat< (s.R .be).length then s.bV (max 0 bM).toNat else s
theorem xG{s:aH}(g:aL s)(bM:Int):aL (cu s bM):=by
 unfold cu;split
 .exact l4 g (by assumption)
 .exact g
theorem Cs{s:aH}(bM:Int):∃k,(cu s bM).R .tr=(s.R .tr).take k/\(cu s bM).vars=s.vars:=by
 unfold cu;split
 .exact ⟨_,uU,rfl⟩
 .exact ⟨_,L0.symm,rfl⟩
theorem SR.Tt(h:SR w0 w B L N x)(g:aL x.s)(bM:Int):Calls prog 143 #[cj x.pb,.i bM] w λe w'=>e=.returned (.tuple #[])/\∃L',SR w0 w' B L' N {x with s:=cu x.s bM}/\Kp w0 w w' L L':=by
 obtain⟨H,pm,hl⟩:=h.pm id;refine(Qh pm g bM).mono ?_;rintro e w'⟨rfl,I,p⟩;have:=h.wU hl pm.lt p;exact⟨rfl,_,this.1,this.2⟩
theorem Aa(h:SR w0 w B L N x)(g:aL x.s)(hv:x.s.vars=N)(hN:N<=1000)(ay:x.ph.length=N+1)(bM:Int):Calls prog 114 #[cj B,.i bM] w λe w'=>e=.returned (.tuple #[])/\
 ∃L' S' J,SR w0 w' B L' N {x with s:=cu x.s bM,S:=S',ph:=J}/\Kp w0 w w' L L'/\J.length=N+1/\(∀v,x.S v->S' v)/\∀y∈x.s.R .tr,y ∉ (cu x.s bM).R .tr->S' (bo y):=by
 refine hG.aj ⟨_,rfl,_,ae h.at rfl,(h.RN g (by omega)).mono ?_⟩;rintro e w3⟨q,d,rfl,o3,g3,L3,S3,k3,r3⟩;refine⟨_,_,_,rfl,_,rfl,_,ae S3.at rfl,(S3.Tt g bM).mono ?_⟩;rintro e w7⟨rfl,L7,S7,k7⟩;obtain⟨kk,ek,ev⟩:=Cs (s:=x.s) bM;refine⟨rfl,_,rfl,_,ae S7.at rfl,(S7.RN (xG g bM) (by show (cu x.s bM).vars<=_;omega)).mono ?_⟩;rintro e aa⟨q2,d2,rfl,c4,c1,U,X,az,cm⟩;refine⟨_,_,_,rfl,?_⟩;have X:SR w0 aa B U N {x with s:=cu x.s bM}:=X;have ap:((cu x.s bM).R .tr).length<=(x.s.R .tr).length:=by rw[ek,y6];omega
 have Z:=k7.trans az;have b4:=o3.cap;have hd:(x.s.R .tr).length<=d:=by
  rcases o3.un with⟨_,_,e⟩| ⟨_,_,_,_,h1,_⟩
  .rw [e];exact xc _
  .exact h1
 obtain⟨m,em⟩: ∃m,((cu x.s bM).R .tr).length=m:=⟨_,rfl⟩
 rw[em]at ap;show rT q (x.s.R .tr).length d 1 (some ((((cu x.s bM).R .tr).length:Nat):Int)) none none _;rw[em];obtain⟨D,hD⟩: ∃D,D=(x.s.R .tr).drop m:=⟨_,rfl⟩
 have V3:Vw sT w3 (q.map (·.add (m*1))) D:=by
  have:=o3.vw.part (i:=m) (m:=(x.s.R .tr).length - m) (by omega);rw[Wi (by rw[WD];omega)]at this;rw[hD];exact this
 have c0:=g.CQ;have lD:D.length=(x.s.R .tr).length - m:=by rw[hD,WD]
 have bn:Vw sT w3 (if d=m then q else q.map (·.add (m*1))) D:=by
  by_cases e:d=m
  .have:D= []:=Wa (by omega);rw[this];exact Vw.nil
  .rw [r8 e];exact V3
 have R3:R9 w3 L3 (if d=m then q else q.map (·.add (m*1))):=by
  by_cases e:d=m
  .rw [v8 e];exact r3
  .rw [r8 e];exact⟨λb hb=>r3.l b (by rw[Oe]at hb;exact hb)⟩
 have bi:=Z.vw bn R3;have ax:=Z.r9 R3;refine gh m (x.s.R .tr).length d rfl rfl rfl (vy _) hd ap ?_;have bf:∀y∈D,dZ N y:=λy I=>by have:=g.tv y (by rw[hD]at I;exact YI I);rwa [hv]at this
 refine⟨λV u z=>∃ (t:Nat) (L':Nat->Nat) (S':Int->Prop) (J:List Int),V=t/\t<=D.length/\z=D.length - t/\SR w0 u B L' N {x with s:=cu x.s bM,S:=S',ph:=J}/\Kp w0 aa u U L'/\J.length=N+1/\(∀v,x.S v->S' v)/\∀j,j<t->S' (bo (D.getD j 0)),
  ⟨_,0,U,x.S,x.ph,rfl,xc _,rfl,X,Kp.refl,ay,λ_ h=>h,λj hj=>by omega⟩,?_⟩
 rintro V u z _⟨t,L1,S1,O,rfl,ht,rfl,SS,Y,an,ac,ar⟩;refine ah (λr=>?_) (λr=>?_)
 .have r:t<D.length:=by simp at r;omega
  have V1:=Y.vw bi ax;refine V1.ix 0 (by omega) (by omega) (by omega) λa ha=>⟨_,ha,?_⟩
  rw[tn];obtain⟨y,I⟩: ∃y,D.getD t 0=y:=⟨_,rfl⟩
  have a8:y∈D:=by rw[<- I];simp[List.getD,r]
  have ag:=bf y a8;have hb:=ag.bd (by omega);have b':=ag.bo;obtain⟨p1,p2,p3⟩:=SS.ph id;have p2:x.Jf.n=O.length:=p2;rw[I];refine⟨_,rfl,_,_,_,ae SS.at rfl,?_⟩;rw[A6 hb.1 hb.2];refine p1.st (i:=bo y) (n:=x.Jf.n) y rfl rfl (by omega) p2 (by omega) λcr bu bk=>?_;have Q:=SS.phase (by show (O.set _ _).length=O.length;simp) bu bk;refine⟨_,rfl,_,ae Q.1.at rfl,(Q.1.push (v:=bo y) (by omega) (by omega)).mono ?_⟩;rintro e cT⟨b8,rfl,bb,a6,a7⟩;refine⟨_,rfl,_,?_,t+1,bb,_,_,wN,by omega,rfl,a6,(Y.trans Q.2).trans a7,by simp[an],λv hv=> .inl (ac v hv),λj hj=>?_⟩
  .omega
  .by_cases e:j=t
   .subst e;rw[I];exact .inr rfl
   .exact .inl (ar j (by omega))
 .have r:t=D.length:=by simp at r;omega
  refine⟨rfl,L1,S1,O,SS,(k3.trans Z).trans Y,an,ac,λy I hn=>?_⟩;have a_:y∈D:=by
   have av:m=((x.s.R .tr).take kk).length:=by rw[<- ek,em]
   have hk:(x.s.R .tr).take kk=(x.s.R .tr).take m:=by
    rw[y6]at av;rw[av,List.take_eq_take_iff];omega
   rw[ek,hk]at hn;rw[hD];have:=WN m (x.s.R .tr);rw[<- this]at I;rcases y4.1 I with I|I
   .exact absurd I hn
   .exact I
  obtain⟨j,hj,ej⟩:=Bs.1 a_;have:=ar j (by omega);rw[show D.getD j 0=y by simp[List.getD,hj,ej]]at this;exact this
end
section
open Go.LeP
variable{w0 w w' w1 w2:World}{B N:Nat}{L L':Nat->Nat}{x:Xs}{l:List Int}
structure HO(w0 w:World)(L:Nat->Nat)(N:Nat)(hb:Nat)(S:Int->Prop)(z:Hp.HS):Prop where
 r:Hp.cN w hb z
 g:Hp.pK z N
 m:∀u:Int,1<=u->u<=N->(0<HeapP.g z.at_ u↔S u)
 f:∀k,z.bK hb k->L k=3/\w0.heap.size<=k
theorem SR.Ve(h:SR w0 w B L N x){z:Hp.HS}(o:HO w0 w L N x.hb x.S z):Calls prog 107 #[Hp.ptr x.hb] w λe w'=>
 (z.l.length=0/\e=.returned (.tuple #[.i 0,.bool false])/\ak w w')\/
 ∃v:Int,e=.returned (.tuple #[.i v,.bool true])/\1<=v/\v<=N/\x.S v/\∃L' J,SR w0 w' B L' N {x with S:=λu=>x.S u/\u≠v}/\Kp w0 w w' L L'/\HO w0 w' L' N x.hb (λu=>x.S u/\u≠v) J/\J.l.length+1=z.l.length:=by
 by_cases O:z.l.length=0
 .refine (Hp.RV o.r O).mono ?_;rintro e w'⟨rfl,_,g⟩;exact .inl ⟨O,rfl,g⟩
 .refine (Hp.Sb o.r o.g O).mono ?_;rintro e w'⟨rfl,J,Q,X,y3,Z,y5,U⟩;have hf:=o.g.ok.pos.yL 0 (by omega) (by omega);have hm:∀u:Int,1<=u->u<=N->(0<HeapP.g J.at_ u↔x.S u/\u≠HeapP.g z.l 0):=λu V Y=>by rw[y3.has u V Y,o.m u V Y]
  have:=h.heap o.f o.r.lt Q X hm y5 (λk I=> .inl (by rw[<- U];exact I));refine .inr ⟨_,rfl,hf.1,hf.2.1,(o.m _ hf.1 hf.2.1).1 (by rw[hf.2.2];omega),_,J,this.1,this.2,⟨Q,X,hm,λk I=>?_⟩,Z⟩;rw[U]at I;rw[dF (o.r.lt k I)];exact o.f k I
theorem SR.value(h:SR w0 w B L N x)(g:aL x.s)(v:Int):Calls prog 108 #[cj x.pb,.i v] w λe w'=>e=.returned (.i (x.s.value v))/\ak w w':=by
 obtain⟨H,pm,_⟩:=h.pm id;exact Br pm g.wf v
theorem EO{s:aH}(g:aL s){v:Int}(hv:dZ s.vars v):s.value v=s.val v:=by
 unfold aH.value;rw[v8 ((iX g.eM).2 hv)]
theorem SR.Jc(h:SR w0 w B L N x)(g:aL x.s){v:Int}(hv:dZ x.s.vars v)(I:x.s.val v=0):Calls prog 109 #[cj x.pb,.i v] w λe w'=>∃r:Int,e=.returned (.i r)/\∃L',SR w0 w' B L' N {x with s:=x.s.decide v}/\Kp w0 w w' L L':=by
 obtain⟨H,pm,hl⟩:=h.pm id;refine(wP pm g v).mono ?_;rintro e w'⟨r,rfl,J,⟨_,_,_,p⟩| ⟨_,hn,_⟩⟩
 .have:=h.wU hl pm.lt p;exact⟨_,rfl,_,this.1,this.2⟩
 .exact absurd ⟨hv,I⟩ hn
theorem Jw(h:SR w0 w B L N x){K:World->Prop}(V:∀w',SR w0 w' B L N {x with m:= {x.m with de:=i64.wrap (x.m.de+1)}}->Kp w0 w w' L L->K w'):
 ∃a22,(some (qw B))=some a22/\∃O,w.cell? ((a22.add 14).add 4)=some (.i O)/\
  ∃J,(some (qw B))=some J/\∃I,bD ((J.add 14).add 4) 0 [.i (i64.wrap (O+ (1:Int)))] w I/\K I:=by
 refine⟨_,rfl,_,bN h.at rfl,_,rfl,?_⟩;refine iK h.at rfl rfl λI Q U=>?_;have:=h.own (m':= {x.m with de:=i64.wrap (x.m.de+1)}) Q U;exact V _ this.1 this.2
theorem Hl{s:aH}{v u:Int}(g:aL s)(hv:dZ s.vars v)(I:s.val v=0)(hu:dZ s.vars u):(s.decide v).val u=0->s.val u=0/\bo u≠bo v:=by
 intro h;have J:=px g hv I;obtain⟨a,b⟩:=(jl J (x:=u) hu).1 h;rw[xo]at a b;refine⟨(jl g hu).2 ⟨λm=>a (Wq _ m),λm=>b (Wq _ m)⟩,λe=>?_⟩;rcases Eh e with e|e
 .subst e;exact a (by simp)
 .subst e;rw[WJ]at b;exact b (by simp)
theorem GJ(h:SR w0 w B L N x)(g:aL x.s)(hv:x.s.vars=N)(hN:N<=1000)(bi:x.ph.length=N+1)(hi:Ei N x.s x.S):Calls prog 65 #[cj B] w λe w'=>∃r:Bool,e=.returned (.bool r)/\
 ∃L' S',Kp w0 w w' L L'/\((r=false/\(∀v:Int,1<=v->v<=N->x.s.val v≠0)/\SR w0 w' B L' N {x with S:=S'})\/
  (r=true/\∃v,dZ N v/\x.s.val v=0/\Ei N (x.s.decide v) S'/\SR w0 w' B L' N {x with s:=x.s.decide v,S:=S',m:= {x.m with de:=i64.wrap (x.m.de+1)}})):=by
 refine dM.aj ?_;obtain⟨z0,z1,z2,z3,z4⟩:=h.hp id;refine⟨λu k=>∃L1 X z,SR w0 u B L1 N {x with S:=X}/\Kp w0 w u L L1/\HO w0 u L1 N x.hb X z/\z.l.length=k/\Ei N x.s X,⟨_,L,x.S,z0,h,Kp.refl,⟨z1,z2,z3,z4⟩,rfl,hi⟩,?_⟩;rintro u k _⟨L1,X,z,SS,kk,ho,rfl,hc⟩;refine⟨_,rfl,_,ae SS.at rfl,(SS.Ve ho).mono ?_⟩;rintro e w7 (⟨h0,rfl,g7⟩| ⟨v,rfl,v1,v2,b6,L7,z7,S7,k7,o7,bn⟩)
 .refine ⟨_,_,rfl,bJ rfl ⟨false,rfl,L1,X,kk.trans (mF.grow g7),.inl ⟨rfl,λv v1 v2 aT=>?_,SS.grow g7⟩⟩⟩;have hm:=(ho.m v v1 v2).2 (hc v v1 v2 aT);have:=(ho.g.ok.pos.bV v v1 v2).2.1;omega
 .have J:dZ x.s.vars v:=⟨by omega,by omega,by omega⟩
  refine⟨_,_,rfl,bq rfl ⟨_,rfl,_,ae S7.at rfl,(S7.value g v).mono ?_⟩⟩;rintro e bk⟨rfl,O⟩;have Z:aH.value x.s v=x.s.val v:=EO g J;refine⟨_,rfl,?_⟩;show aD (x.s.value v !=0) _ _;rw[Z];have I:=S7.grow O;refine ah (λr=>?_) (λr=>?_)
  .have r:x.s.val v≠0:=by simpa using r
   refine⟨_,?_,L7,_,z7,I,(kk.trans k7).trans (mF.grow O),⟨o7.r.grow O,o7.g,o7.m,o7.f⟩,rfl,λu u1 u2 hu=>⟨hc u u1 u2 hu,λe=>r (by rw[<- e];exact hu)⟩⟩;omega
  .have r:x.s.val v=0:=by simpa using r
   obtain⟨p1,p2,p3⟩:=I.ph id;have p2:x.Jf.n=x.ph.length:=p2;have eh:∀ {w':World} {L':Nat->Nat} {y:Int},bo y=v->dZ x.s.vars y->x.s.val y=0->Kp w0 w w' L L'->SR w0 w' B L' N {x with s:=x.s.decide y,S:=λu=>X u/\u≠v,m:= {x.m with de:=i64.wrap (x.m.de+1)}}->∃r:Bool,Ending.returned (.bool true)=.returned (.bool r)/\
    ∃L' S',Kp w0 w w' L L'/\((r=false/\(∀v:Int,1<=v->v<=N->x.s.val v≠0)/\SR w0 w' B L' N {x with S:=S'})\/
    (r=true/\∃v,dZ N v/\x.s.val v=0/\Ei N (x.s.decide v) S'/\SR w0 w' B L' N {x with s:=x.s.decide v,S:=S',m:= {x.m with de:=i64.wrap (x.m.de+1)}})):=by
    intro w' L' y ey hy h0 kp sr;refine⟨true,rfl,L',_,kp,.inr ⟨rfl,y,by rw[<- hv];exact hy,h0,λu u1 u2 hu=>?_,sr⟩⟩;have av:dZ x.s.vars u:=⟨by omega,by omega,by omega⟩
    obtain⟨a,b⟩:=Hl g hy h0 av hu;refine⟨hc u u1 u2 a,λe=>b ?_⟩;rw[e,ey];unfold bo;rw[r8 (by omega)]
   refine⟨_,rfl,_,_,_,ae I.at rfl,p1.ix 0 (by omega) p2 (by omega) λa ha=>⟨_,ha,?_⟩⟩;have Q:=(kk.trans k7).trans (mF.grow O);refine ah (λ_=>?_) (λ_=>?_)
   .refine ⟨_,rfl,_,ae I.at rfl,(I.Jc g J r).mono ?_⟩;rintro e a7⟨ar,rfl,an,U,V⟩;refine⟨_,rfl,Jw U λw' S' k'=>?_⟩;exact eh (by unfold bo;rw[r8 (by omega)]) J r ((Q.trans V).trans k') S'
   .have ew:i64.wrap (0 - v)= -v:=by rw[ao (by omega) (by omega)];omega
    rw[ew];have Y:x.s.val (-v)=0:=by rw[pN J];omega
    refine⟨_,rfl,_,ae I.at rfl,(I.Jc g J.neg Y).mono ?_⟩;rintro e a7⟨ar,rfl,an,U,V⟩;refine⟨_,rfl,Jw U λw' S' k'=>?_⟩;exact eh (by unfold bo;rw[v8 (by omega)];omega) J.neg Y ((Q.trans V).trans k') S'
theorem yK:mg prog aI aB 8=true:=by kernel_rfl
def nG(s:aH)(n:Nat):List Int:=(List.range n).map λi:Nat=>s.val ((i:Int)+1)
theorem KM{s:aH}{n:Nat}:nG s (n+1)=nG s n++ [s.val ((n:Int)+1)]:=by unfold nG;rw[Xh,GD];rfl
theorem P5(h:SR w0 w B L N x)(g:aL x.s)(hv:x.s.vars=N)(hN:N<=1000)(hn:x.m.n=N)(Z:x.mo= []):Calls prog 66 #[cj B] w λe w'=>e=.returned (.tuple #[])/\
 ∃L' q,SR w0 w' B L' N {x with m:= {x.m with dO:=1},ps:=Sl.nil,pr:= [],ms:=q,mo:=nG x.s N}/\Kp w0 w w' L L':=by
 refine iH.aj ⟨_,rfl,?_⟩;refine iK h.at rfl rfl λw2 h2 m2=>?_;obtain⟨S2,k2⟩:=h.own (m':= {x.m with dO:=1}) h2 m2;refine⟨_,rfl,iK S2.at rfl rfl λw4 h4 m4=>?_⟩;have P4:=S2.O9 (q:=Sl.nil) (pr':= []) (aE.refl w2|>.mono λ_ _ e=>e) (Row.nil _ _ _ _) rfl (λk hk=>by simp[aF,Sl.nil]at hk) (λu hu=>by simp at hu) h4 m4 (by simp[aF,Sl.nil]);obtain⟨S4,k4⟩:=P4;refine⟨λV u k=>∃ (t:Nat) (L':Nat->Nat) (q:Sl),V=(t:Int)+1/\t<=N/\k=N - t/\SR w0 u B L' N {x with m:= {x.m with dO:=1},ps:=Sl.nil,pr:= [],ms:=q,mo:=nG x.s t}/\Kp w0 w u L L',
  ⟨_,0,_,x.ms,rfl,xc _,rfl,by have:nG x.s 0=x.mo:=(by rw[Z];rfl);rw[this];exact S4,k2.trans k4⟩,?_⟩
 rintro V u k _⟨t,L1,q,rfl,ht,rfl,SS,kk⟩;refine⟨_,rfl,_,bN SS.at rfl,?_⟩;show aD (decide ((t:Int)+1<=x.m.n)) _ _;rw[hn];refine ah (λr=>?_) (λr=>?_)
 .have r:t<N:=by simp at r;omega
  have D:=SS.drew;refine⟨λv=>ak u.drew v,aE.refl _,_,rfl,_,_,_,λv gv=>bN (D.at.grow gv) rfl,_,rfl,_,λv gv=>ae (D.at.grow gv) rfl,(D.value g _).mono ?_⟩;rintro e az⟨rfl,O⟩;have ar:dZ x.s.vars ((t:Int)+1):=⟨by omega,by omega,by omega⟩
  refine⟨_,rfl,O,λbi bn J=>⟨O.trans J.mod,?_⟩⟩;have I:=D.new (O.trans J.mod) 9;obtain⟨p1,p2,p3⟩:=I.mo id;have hl:(nG x.s t).length=t:=by simp[nG]
  refine Ow.jS yK p1 (x.s.val ((t:Int)+1)) J.has (by show Value.int .i64 (x.s.value _)=_;rw[EO g ar]) p2 eI (by rw[hl];omega) λX p' c' Q U Y a8=>⟨_,rfl,?_⟩
  have ap:bO X B _:=I.at.keep U λe=>by have:=(p3 B e).1;rw[I.ml.1]at this;exact absurd this (by decide)
  refine iK ap rfl rfl λbb ag ac=>?_;have Q:d_ aB X p' c' (nG x.s (t+1)):=by rw[KM];exact Q
  have:=I.Ui (q:=⟨p',(nG x.s t).length+1,c'⟩) (mo':=nG x.s (t+1)) U Q (by simp[nG]) (FZ Y (vy _)) ag ac (I.Uf (by decide) p3 Y (vy _));refine⟨_,?_,t+1,_,_,?_,by omega,rfl,this.1,((kk.trans (mF.grow (aE.refl u).drew)).trans (mF.new (O.trans J.mod) 9)).trans this.2⟩
  .omega
  .rw [ao (by omega) (by omega)];omega
 .have r:t=N:=by simp at r;omega
  subst r;exact⟨rfl,L1,q,SS,kk⟩
end
