/- Layer 7: where a proof ends. -/
import Derived.Test.YtbdghpjnifjlmaaGreatPfA
import Derived.Test.YtbdghpjnifjlmaaGreatLitA
import Derived.DeepKeys4
set_option linter.all false
namespace Go.Proofs.YtbdghpjnifjlmaaGreat.W
open Go Go.Fw Go.RowKit Go.SoP Go.LiP
variable{w w' w0 w2 w3:World}{p q:sn}{n m c d:Nat}{k:Int}{hs ks:List Sl}{cs:lq}{l:List Int}
noncomputable def Bz:lq->List jJ->Int × Int
 |_,[]=> (0,4)
 |cs,s::l=>if lZ cs s≠0 then (0,lZ cs s) else if s.1=false/\s.2= [] then (0,0) else ((Bz (sB cs s) l).1+1,(Bz (sB cs s) l).2)
theorem uw{α:Type}{l:List α}{i:Nat}(h:i<l.length)(d:α):l.drop i=l.getD i d::l.drop (i+1):=by
 rw[XV h];simp[List.getD,h]
def BL(cs:lq)(al:List jJ)(i:Nat)(ci:lq):Prop:=Bz cs al=((i:Int)+ (Bz ci (al.drop i)).1,(Bz ci (al.drop i)).2)
theorem BL.zero(cs:lq)(al:List jJ):BL cs al 0 cs:=by unfold BL;simp
theorem BL.np{al:List jJ}{i:Nat}{ci:lq}(h:BL cs al i ci)(hi:i<al.length)(he:lZ ci (al.getD i dH)≠0):Bz cs al=((i:Int),lZ ci (al.getD i dH)):=by
 unfold BL at h;rw[h,uw hi dH,Bz,v8 he];simp
theorem BL.eh{al:List jJ}{i:Nat}{ci:lq}(h:BL cs al i ci)(hi:i<al.length)(he:lZ ci (al.getD i dH)=0)(h1:(al.getD i dH).1=false/\(al.getD i dH).2= []):Bz cs al=((i:Int),0):=by
 unfold BL at h;rw[h,uw hi dH,Bz,r8 (by simpa using he),v8 h1];simp
theorem BL.next{al:List jJ}{i:Nat}{ci:lq}(h:BL cs al i ci)(hi:i<al.length)(he:lZ ci (al.getD i dH)=0)(h1: ¬((al.getD i dH).1=false/\(al.getD i dH).2= [])):BL cs al (i+1) (sB ci (al.getD i dH)):=by
 unfold BL at*
 rw[h,uw hi dH,Bz,r8 (by simpa using he),r8 h1];congr 1;simp;omega
theorem BL.all{al:List jJ}{ci:lq}(h:BL cs al al.length ci):Bz cs al=((al.length:Int),4):=by
 unfold BL at h;rw[h,Yt,Bz];simp
theorem B7{al:List jJ}(V:V2 sT w p hs cs)(hn:n=cs.length)(dA:cs.length+m<262144)(hl:SV w q al)(hm:m=al.length):
 Calls Tryz.prog 28 #[.agg #[.i k,.slice p n d],.slice q m c] w λe w'=>e=.returned (.tuple #[.i (if c5 k cs && ig al then Bz cs al else (0,1)).1,.i (if c5 k cs && ig al then Bz cs al else (0,1)).2])/\ak w w':=by
 subst hn hm;refine oT.aj ?_;intro n1 w2 h2;have e1:=h2.num;refine⟨_,_,_,_,cI h2.has,(eP (V.grow h2.mod) rfl).mono ?_⟩;rintro e w5⟨rfl,g5⟩;have G5:=h2.mod.trans g5;refine⟨_,rfl,?_⟩;cases cb:c5 k cs with
 |false=>exact bJ rfl ⟨rfl,G5⟩
 |true=>
 refine bq rfl ((jQ (hl.grow G5) rfl (by omega)).mono ?_);rintro e w7⟨rfl,g7⟩;have G7:=G5.trans g7;refine⟨_,rfl,?_⟩;cases co:ig al with
 |false=>exact bJ rfl ⟨rfl,G7⟩
 |true=>
 have Q:∀x∈al,jL x.2=true:=by
  have:=co;unfold ig at this
  rwa [K']at this
 refine bq rfl ?_;have gm:∀i,i<al.length->al.getD i dH∈al:=λi hi=>by simp[List.getD,hi]
 have z5:=G5.size;have z7:=g7.size;refine⟨λP N C I u z=>∃ (i:Nat) (hs:List Sl),I=i/\i<=al.length/\z=al.length - i/\i=N/\hs.length=i/\ak w7 u/\OV sT aI u P C hs ((al.take i).map (·.2))/\(∀j,aF P=some j->w7.heap.size<=j),
  ⟨_,0,[],rfl,xc _,rfl,rfl,rfl,aE.refl _,OV.nil,λj J=>by simp[aF]at J⟩,?_⟩
 rintro P N C I u z _⟨i,d5,rfl,hi,rfl,rfl,hlen,gu,o,fP⟩;have Gu:=G7.trans gu;refine ah (λr=>?_) (λr=>?_)
 .have r:i<al.length:=by simpa using r
  refine hl.ix Gu rfl r λa s ag h1 bk h3=>⟨_,_,_,_,ag u Gu,?_⟩
  intro d4 d6 ac;refine aX ac.has rfl rfl λcr b3 b4=>⟨_,_,_,ae b3 rfl,?_⟩
  have ec:=ac.num;have b_:ak u cr:=ac.mod.then b4 λj J e=>by omega
  intro n22 cg bf;have X:ak u cg:=b_.trans bf.mod;have zu:=gu.size;refine(o.grow X).nu iP (ns:= [⟨s.p,s.n,s.c⟩]) (nrows:= [(al.getD i dH).2]) (q:=some ⟨n22,0,none⟩) (m:=1) (k:=1) (λj J=>by
   have:j=0:=by simpa using J
   subst this;exact⟨_,rfl,ae bf.has rfl⟩) (VR.bP (h3.grow (Gu.trans X)) h1 bk) hlen.symm rfl (λj J e=>?_) (by simp;omega) λd7 P' C' bg b7 c3 dB=>?_
  .obtain ⟨x,O,h0,hk⟩:=J;rw[xv]at O;subst O;have h0:0<s.n:=h0;have:=h3.lt (λe3=>by rw[e3]at h1;simp at h1;omega) j hk;have:=fP j e;omega
  .have d':=X.size;have ce:(al.take (i+1)).map (·.2)=(al.take i).map (·.2)++ [(al.getD i dH).2]:=by rw[dN r dH,GD];rfl
   rw[<- ce]at bg;refine⟨_,?_,i+1,_,wN,r,rfl,by simp[hlen],by simp[hlen],(gu.trans X).then b7 λj J e=>by have:=fP j e;omega,bg,λj J=>?_⟩
   .omega
   .rcases c3 with rfl|rfl
    .exact fP j J
    .have:=aO J;omega
 have r:i=al.length:=by simp at r;omega
 subst r;rw[L0]at o;have b1:bO u n1 _:=(h2.has.grow (g5.trans g7)).grow gu;refine⟨_,_,_,_,cI b1,?_⟩;have hL:=vh cb;refine(Fm (V.grow Gu) rfl o.v2 (by simp) (λc V=>⟨(hL c V).1,λx O=> ((hL c V).2 x O).1⟩) (λc V=>by
  obtain⟨x,O,rfl⟩:=LV.1 V;have:=(cX (Q x O)).2;exact⟨by omega,(cX (Q x O)).1⟩) (by omega) (by simp;omega)).mono ?_
 rintro e eb⟨nb,id,rfl,hW,hN⟩;rw[xf λc V x O=> ((hL c V).2 x O).2]at hW;refine⟨_,rfl,?_⟩;refine⟨λI v z=>∃ (i:Nat) (ci:lq) (vi:Int),I=i/\i<=al.length/\z=al.length - i/\Wk true (λ_=>False) u v nb vi id ci (cs.length+i)/\BL cs al i ci,⟨_,0,cs,k,rfl,xc _,rfl,hW,BL.zero cs al⟩,?_⟩;rintro I v z _⟨i,ci,vi,rfl,hi,rfl,a7,Y⟩;have Gv:=Gu.trans a7.wg;refine ah (λr=>?_) (λr=>?_)
 .have r:i<al.length:=by simpa using r
  have Z:=gm i r;have a_:=cX (Q _ Z);refine hl.ix Gv rfl r λa s ag h1 bk h3=>⟨_,_,_,_,ag v Gv,?_⟩
  intro c4 ea ap;have dq:=ap.num;refine aX ap.has rfl rfl λb9 an bY=>⟨_,_,_,_,cI an,?_⟩
  have cp:ak v b9:=ap.mod.then bY λj J e=>by omega
  have b':=an.lt;refine((a7.enter cp).step (s:=al.getD i dH) (h3.grow Gu) h1 a_.2 (λx O=>⟨a_.1 x O,hN _ (WB _ (WA Z)) x O⟩) (by omega)).mono ?_;rintro e a'⟨rfl,cT,t,ht,av⟩;have a8:bO a' c4 _:=an.keep cT λe=>e (.inr ⟨by omega,b'⟩);have aT:=Gu.trans av.wg;have aw:=av.Na (A':=λ_=>False) λj J=>J.elim;refine⟨_,rfl,ah (λU=>?_) (λU=>?_)⟩
  .have U:lZ ci (al.getD i dH)≠0:=by simpa using U
   have:=Y.np r U;simp only[Zr,I5];rw[this];exact⟨rfl,aT⟩
  .have U:lZ ci (al.getD i dH)=0:=by simpa using U
   have next: ¬((al.getD i dH).1=false/\(al.getD i dH).2= [])->∃bb,bb<al.length - i/\∃ (i':Nat) (a6:lq) (b6:Int),IntKind.i64.wrap ((i:Int)+1)=i'/\i'<=al.length/\bb=al.length - i'/\Wk true (λ_=>False) u a' nb b6 id a6 (cs.length+i')/\BL cs al i' a6:=λbi=>by
    have hh:(al.getD i dH).1=true\/(al.getD i dH).2≠[]:=by
     cases h:(al.getD i dH).1 with
     |true=>exact .inl rfl
     |false=>exact .inr λe=>bi ⟨h,e⟩
    have:=ht U hh;subst this;exact⟨_,by omega,i+1,_,_,wN,r,rfl,aw,Y.next r U bi⟩
   refine⟨_,ae a8 rfl,ah (λr3=>?_) (λr3=>next λe=>by rw[e.1]at r3;cases r3)⟩;have r3:(al.getD i dH).1=false:=by simpa using r3
   refine⟨_,_,_,ae a8 rfl,ah (λr4=>?_) (λr4=>next λe=>?_)⟩
   .have r4:(al.getD i dH).2= []:=by
     have:(s.n:Int)=0:=by simpa using r4
     exact Wa (by omega)
    have:=Y.eh r U ⟨r3,r4⟩;simp only[Zr,I5];rw[this];exact⟨rfl,aT⟩
   .have:(s.n:Int)≠0:=by simpa using r4
    rw[e.2]at h1;simp at h1;omega
 .have r:i=al.length:=by simp at r;omega
  subst r;simp only[Zr,I5];rw[Y.all];exact⟨rfl,Gv⟩
end Go.Proofs.YtbdghpjnifjlmaaGreat.W
namespace Go.Fw
open Go Go.RowKit Go.Maps
variable{P:Program}{t k e:TypeId}{w w':World}{b n:Nat}{s:Bool × Int->Bool}
def JB(P:Program)(k:TypeId):Bool:=
 P.keyType k && Nat.beq (P.cellsOf k) 2 && !Nat.beq P.types.size 0 && (match P.underlying k with
  |some (.struct O)=> (O.all (·.name != "_")) && (match O.toList with
   | [J,I]=>Nat.beq J.offset 0 && Nat.beq I.offset 1 && Nat.beq (P.cellsOf J.type) 1 && Nat.beq (P.cellsOf I.type) 1 && (match P.underlying J.type with|some .bool=>true|_=>false) && (match P.underlying I.type with|some (.int .i64)=>true|_=>false)
   |_=>false)
  |_=>false)
abbrev ov(x:Bool × Int):Value:=.agg #[.bool x.1,.i x.2]
theorem Of{ty:TypeId}(h:(match P.underlying ty with|some (.int .i64)=>true|_=>false)=true):P.underlying ty=some (.int .i64):=by
 split at h
 .assumption
 .simp at h
theorem Cz{ty:TypeId}(h:(match P.underlying ty with|some .bool=>true|_=>false)=true):P.underlying ty=some .bool:=by
 split at h
 .assumption
 .simp at h
theorem Co(h:JB P k=true){x:Bool × Int}(h2:(Lit.int .i64 x.2).wf=true):∃l,keyOf P k (ov x)=some l:=by
 simp only[JB,ts]at h;obtain⟨⟨⟨hk,O⟩,J⟩,h⟩:=h;have O:P.cellsOf k=2:=V_ O;split at h
 .rename_i fs hu;simp only[ts]at h;obtain⟨hn,h⟩:=h;split at h
  .rename_i f0 f1 hl;simp only[ts]at h;obtain⟨⟨⟨⟨⟨U,o1⟩,X⟩,c1⟩,u0⟩,Q⟩:=h;have U:=V_ U;have o1:=V_ o1;have X:=V_ X;have c1:=V_ c1;have u0:=Cz u0;have Q:=Of Q;have hf:(ov x).formed P k=true:=by simp[Value.formed,hu,O]
   have V:(ov x).cells.toList= [.bool x.1,.i x.2]:=by simp[Value.cells]
   have Z:P.types.size≠0:=λe=>by rw[e]at J;simp at J
   have k0:P.keyLits P.types.size f0.type [.bool x.1]=some [.bool x.1]:=by
    cases I:P.types.size with
    |zero=>exact absurd I Z
    |succ z=>unfold Program.keyLits;simp[u0]
   have k1:P.keyLits P.types.size f1.type [.i x.2]=some [.i x.2]:=by
    cases I:P.types.size with
    |zero=>exact absurd I Z
    |succ z=>unfold Program.keyLits;simp[Q,h2]
   have Y:P.keyLits (P.types.size+1) k [.bool x.1,.i x.2]=some [.bool x.1,.i x.2]:=by
    unfold Program.keyLits;simp only[hu];rw[v8 ⟨by simp[O],hn⟩,hl];simp only[Zo,List.mapM_nil,U,o1,X,c1,Y4,Yp,Zl,List.drop_succ_cons,k0,k1,Option.bind_eq_bind,XD,Option.pure_def,Xw];rfl
   refine⟨.string (keyBytes [.bool x.1,.i x.2]),?_⟩;unfold keyOf;simp only[hu];rw[hk,hf,V,Y];rfl
  .simp at h
 .simp at h
def Mp(P:Program)(t k e:TypeId):Bool:=
 (match P.underlying t with|some (.map J I)=>Nat.beq J k && Nat.beq I e|_=>false) && JB P k && (match P.underlying e with|some .bool=>true|_=>false) && (match P.info? e with|some i=> (match i.zero with|some (.bool b)=> !b|_=>false)|none=>false)
theorem Dc(h:Mp P t k e=true):P.underlying t=some (.map k e)/\JB P k=true/\P.underlying e=some .bool/\∀w,(zeroValue e).run P w=.ok (.bool false) w:=by
 simp only[Mp,ts]at h;obtain⟨⟨⟨h1,J⟩,V⟩,I⟩:=h;split at h1
 .rename_i U Q hu;simp only[ts]at h1;have O:U=k:=V_ h1.1;have X:Q=e:=V_ h1.2;subst O X;refine⟨hu,J,Cz V,λw=>?_⟩;split at I
  .rename_i i hi;split at I
   .rename_i n Y;have:n=false:=by simpa using I
    subst this;unfold zeroValue;simp only[Sem.run_bind,eS hi,Result.andThen_ok,Y,Sem.run_pure]
   .simp at I
  .simp at I
 .simp at h1
def MO(P:Program)(k e:TypeId)(w:World)(b n:Nat)(s:Bool × Int->Bool):Prop:=
 ∃D:DataW Unit,w.ownsMap P k (plainElem P e) b n D/\∀ (x:Bool × Int) (l:Lit),keyOf P k (ov x)=some l->D.atKey l (.lit (.bool false))=.lit (.bool (s x))
theorem MO.lt(h:MO P k e w b n s):b<w.heap.size:=by obtain⟨D,h,_⟩:=h;exact h.lt
theorem MO.keep{S:Nat->Prop}(h:MO P k e w b n s)(m:aE S w w')(hs: ¬S b):MO P k e w' b n s:=by
 have hl:=h.lt;obtain⟨D,⟨I,clock,hb,h⟩,J⟩:=h;exact⟨D,⟨I,clock,(m.block b hl hs).trans hb,h⟩,J⟩
theorem MO.grow(h:MO P k e w b n s)(m:ak w w'):MO P k e w' b n s:=h.keep m id
theorem MO.new{b:Nat}(h:jz (.map #[] 0) w b w'):MO P k e w' b 0 λ_=>false:=by
 obtain⟨rfl,rfl⟩:=h;exact⟨.map [],World.ownsMap_made w P k _,λx l _=>rfl⟩
theorem MO.cY(hm:Mp P t k e=true)(K:Keyed P k)(h:MO P k e w b n s){x:Bool × Int}(J:(Lit.int .i64 x.2).wf=true):
 (Instr.lookup t (.map (some b)) (ov x) false).run P w=.ok (.bool (s x)) w:=by
 obtain⟨ht,I,he,O⟩:=Dc hm;obtain⟨D,h,Q⟩:=h;obtain⟨l,hl⟩:=Co I J;obtain⟨v,ps,hr,hv⟩:=h.lookup K ht (O w) (plainElem_bool he false) hl;rw[Q x l hl]at hv;have:v=.bool (s x):=by
  unfold plainElem at hv;rw[he]at hv;cases v<;>simp_all
 rw[hr,this]
theorem MO.put(hm:Mp P t k e=true)(K:Keyed P k)(h:MO P k e w b n s)(hn:n<maxLen){x:Bool × Int}(X:(Lit.int .i64 x.2).wf=true)(v:Bool):
 ∃w',(Instr.mapUpdate t (.map (some b)) (ov x) (.bool v)).run P w=.ok () w'/\MO P k e w' b (n+1) (λu=>if u=x then v else s u)/\aE (·=b) w w':=by
 obtain⟨ht,Y,he,hz⟩:=Dc hm;obtain⟨D,h,Z⟩:=h;have Q:=h.isMap;obtain⟨l,hl⟩:=Co Y X;obtain⟨w',hr,h',J⟩:=h.update K ht hn hl (plainElem_bool (H:=Unit) he v);refine⟨w',hr,⟨_,h',λu l' I=>?_⟩,⟨J.os,J.tape,J.output,J.size,λi hi hn=>J.block i hi λe=>hn (WS e)⟩⟩;by_cases hu:u=x
 .subst hu;have:l'=l:=WS (I.symm.trans hl);subst this;exact(atKey_put_same Q (K.key hl) _ _).trans (by simp)
 .have O:l'≠l:=λe=>by
   subst e;have:=K.inj I hl;injection this with this;apply hu;have V:=congrArg (λ(a:Array Value)=>a[0]?) this;have U:=congrArg (λ(a:Array Value)=>a[1]?) this;simp at V U;exact Prod.ext V U
  exact((atKey_put_other O _ _).trans (Z u l' I)).trans (by simp[hu])
end Go.Fw
namespace Go.Proofs.YtbdghpjnifjlmaaGreat.W
open Go Go.Fw Go.RowKit Go.SoP Go.LiP
open Go.Proofs.Tryz (prog)
section
open Go.Maps
variable{W w w' w0 w2 w3 u:World}{p q:sn}{n m d i c:Nat}{k:Int}{hs tl:List Sl}{cs:lq}{l:List Int}{ss:List So}{al:List jJ}
theorem vp:Keyed prog dg:=Keyed.of_law (deep_law_laid (by kernel_rfl) (m:=2) (by omega) (of_decide_eq_true (by kernel_rfl)) (by kernel_rfl) (by kernel_rfl))
theorem u9:Mp prog qv dg bA=true:=by kernel_rfl
theorem JS:mg prog sN iV 24=true:=by kernel_rfl
def TH(W u:World)(cs:lq)(al:List jJ)(I:sn)(tl:List Sl):Prop:=∀j,j<tl.length->∃ss,Row 3 yQ bG u (tl.getD j Sl.nil).p (tl.getD j Sl.nil).c ss/\SW W ss (iY cs al j)/\(tl.getD j Sl.nil).n=(iY cs al j).length/\∀b,aF (tl.getD j Sl.nil).p=some b->aF I≠some b
theorem TH.nil:TH W u cs al none []:=λj I=>by simp at I
theorem TH.grow{I:sn}(h:TH W u cs al I tl)(g:ak u w'):TH W w' cs al I tl:=λj J=>by
 obtain⟨ss,a,b⟩:=h j J;exact⟨ss,a.grow g,b⟩
theorem TH.nu{J I:sn}{s:Sl}{ss:List So}(h:TH W u cs al J tl)(m:aE (λb=>aF J=some b) u w')(hp:I=J\/I=some ⟨u.heap.size,0,none⟩)(o:Row 3 yQ bG u s.p s.c ss)(sw:SW W ss (iY cs al tl.length))(hn:s.n=(iY cs al tl.length).length)
 (Q:∀b,aF s.p=some b->aF J≠some b):TH W w' cs al I (tl++ [s]):=by
 have key:∀ {q:sn},(∀b,aF q=some b->b<u.heap.size)->(∀b,aF q=some b->aF J≠some b)->∀b,aF q=some b->aF I≠some b:=λh1 U b hb e=>by
  rcases hp with rfl|rfl
  .exact U b hb e
  .have:=h1 b hb;have:=aO e;omega
 intro j V;by_cases e:j<tl.length
 .have O:(tl++ [s]).getD j Sl.nil=tl.getD j Sl.nil:=by simp[List.getD,Wd e]
  rw[O];obtain⟨ss,a,b,c,d⟩:=h j e;exact⟨ss,a.keep m d,b,c,key (λb hb=>a.lt b hb) d⟩
 .have:j=tl.length:=by simp at V;omega
  subst this;have O:(tl++ [s]).getD tl.length Sl.nil=s:=by simp[List.getD]
  rw[O];exact⟨ss,o.keep m Q,sw,hn,key (λb hb=>o.lt b hb) Q⟩
theorem Un{x:Int}(h: -9223372036854775808<=x/\x<=9223372036854775807):(Lit.int .i64 x).wf=true:=by
 simp[Lit.wf,IntKind.min,IntKind.max,IntKind.signed,IntKind.bits];omega
theorem MO.Uy{α:Type}{f:α->Value}{T I O:TypeId}{b n c:Nat}{s:Bool × Int->Bool}{l:List α}(h:MO prog I O w b n s)(o:Ow f T w p c l):aF p≠some b:=λe=>by
 obtain⟨D,⟨Q,clock,hb,_⟩,_⟩:=h;rcases o.un with⟨rfl,_,_⟩| ⟨g,cur,rfl,J,_⟩
 .simp [aF]at e
 .have:=aO e;subst this;rw[J]at hb;simp at hb
theorem RW{s:Bool × Int->Prop}(h: ¬s (true,(i:Int))):Th cs al i s=s:=by
 funext x;exact propext ⟨λe=>e.resolve_right λe=>h e.1,.inl⟩
theorem yq{K:List Nat}{v:Nat}:(K.map λj:Nat=> (j:Int)).getD v 0=((K.getD v 0:Nat):Int):=by
 simp only[vx,WW];cases K[v]? <;>rfl
theorem FX{f:Nat->Bool}{x:Nat}(h:f x=true):(List.range (x+1)).filter f=(List.range x).filter f++ [x]:=by
 rw[Xh,Yi,X4 h,Ze]
theorem Gf{f:Nat->Bool}{x:Nat}(h: ¬f x=true):(List.range (x+1)).filter f=(List.range x).filter f:=by
 rw[Xh,Yi,X5 h,Ze,W9]
def kc(K:List Nat):List Int:=K.map λj:Nat=> (j:Int)
theorem fX(K:List Nat):(kc K).length=K.length:=by simp[kc]
def OY(k:Int)(cs:lq)(al:List jJ)(E:Int)(A B:List Nat):Prop:=
 (¬(c5 k cs=true/\ig al=true)/\E=1/\A= []/\B= [])\/
 ((c5 k cs=true/\ig al=true)/\¬zr cs al/\E=4/\A= []/\B= [])\/
 ((c5 k cs=true/\ig al=true)/\∃t,pE al t/\(∀i,i<=t->(al.getD i dH).1=true\/uB ((iY cs al i).map (·.1)) (al.getD i dH).2)/\E=0/\A=q7 cs al t/\B=ju cs al t)
def FI(W:World)(cs:lq)(al:List jJ)(t:Nat)(J:sn)(O Q:Nat)(P:sn)(N C:Nat)(I:Int)(u:World)(z:Nat):Prop:=
 ∃ (i:Nat) (ss:List So) (tl:List Sl),I=i/\i<=t+1/\z=t+1 - i/\tl.length=i/\O=i/\N=(iY cs al i).length/\ak W u/\Row 3 yQ bG u P C ss/\SW W ss (iY cs al i)/\
   Ow Sl.v iV u J Q tl/\TH W u cs al J tl/\(∀j,aF P=some j->W.heap.size<=j/\aF J≠some j)/\∀j,aF J=some j->W.heap.size<=j
end
section
open Go.Maps
variable{W w w' w0 w2 w3 u:World}{p q:sn}{n m d i c:Nat}{k:Int}{hs tl:List Sl}{cs:lq}{l:List Int}{ss:List So}{al:List jJ}
theorem rN(w:World):ak w w.drew:=(aE.refl w).drew
theorem E3(c:List Int):∀l:List Sr,wK ((lX c l).map (·.1))<=wK (l.map (·.1))
 | []=>vy _
 |x::l=>by
  have I:=E3 c l;have e:∀m:List Sr,wK ((x::m).map (·.1))=x.1.length+wK (m.map (·.1)):=λm=>by simp[wK]
  unfold lX;rw[e];split
  .omega
  .rw [e];omega
theorem LL:∀n,n<=cs.length->(uu cs n).map (·.1)=cs.take n:=by
 intro n hn;unfold uu;rw[XW];refine XC (by simp;omega) λi h1 I=>?_;have:i<cs.length:=by simp at h1;omega
 simp[List.getD,this]
theorem II(h:∀x∈al,x.2.length<=40):∀ {i:Nat},i<=al.length->wK ((iY cs al i).map (·.1))<=wK cs+i*40
 |0,_=>by
  have:(iY cs al 0).map (·.1)=cs:=by
   show (uu cs cs.length).map (·.1)=cs;rw[LL _ (vy _),L0]
  rw[this];omega
 |i+1,hi=>by
  have I:=II h (i:=i) (by omega);rw[Az];unfold yy;split
  .have:=E3 (al.getD i dH).2 (iY cs al i);omega
  .have:=h _ (uN (al:=al) (j:=i) (by omega));rw[GD,Yj,wD];show _+ (al.getD i dH).2.length<=_;omega
theorem Qx{e:Nat}(hc:V2 sT w p hs cs)(hn:n=cs.length)(hx:cs.length<=40)(hl:SV w q al)(hm:m=al.length)(mc:m<=20000)(gc:∀x∈al,x.2.length<=40)(hJ:m<=e):
 Calls prog 36 #[.agg #[.i k,.slice p n d],.slice q m e] w λe w'=>∃ (p1 p2:sn) (c1 c2:Nat) (E:Int) (A B:List Nat),e=.returned (.tuple #[.agg #[.slice p1 A.length c1,.slice p2 B.length c2],.i E])/\OY k cs al E A B/\d_ aB w' p1 c1 (kc A)/\d_ aB w' p2 c2 (kc B)/\ak w w':=by
 subst hn hm;refine qi.aj ?_;intro n1 w2 h2 n3 w4 h4;have e1:=h2.num;have e3:=h4.num;have z2:=h2.mod.size;have G4:=h2.mod.trans h4.mod;have b4:=h2.has.grow h4.mod;have ay:∀ {u v:World} {E:Int},OY k cs al E [] []->ak w4 u->aE (·=n3) u v->∃ (p1 p2:sn) (c1 c2:Nat) (E':Int) (A B:List Nat),Ending.returned (Value.tuple #[.agg #[.slice none 0 0,.slice none 0 0],.i E])=.returned (.tuple #[.agg #[.slice p1 A.length c1,.slice p2 B.length c2],.i E'])/\OY k cs al E' A B/\d_ aB v p1 c1 (kc A)/\d_ aB v p2 c2 (kc B)/\ak w v:=
  λh g m=>⟨none,none,0,0,_,[],[],rfl,h,Ow.nil _ _ _,Ow.nil _ _ _,(G4.trans g).then m λj J e=>by omega⟩
 refine⟨_,_,_,_,cI b4,(eP (hc.grow G4) rfl).mono ?_⟩;rintro e5 w7⟨rfl,g7⟩;have G7:=G4.trans g7;refine⟨_,rfl,?_⟩;cases b6:c5 k cs with
 |false=>exact bJ rfl (aX (h4.has.grow g7) rfl rfl λw9 b9 m9=>⟨_,_,_,_,_,_,cI b9,ay (.inl ⟨(λh=>by rw[b6]at h;cases h.1),rfl,rfl,rfl⟩) g7 m9⟩)
 |true=>
 refine bq rfl ((jQ (hl.grow G7) rfl (by omega)).mono ?_);rintro e7 lw⟨rfl,ax⟩;have ax:=g7.trans ax;have f1:=G4.trans ax;refine⟨_,rfl,?_⟩;cases av:ig al with
 |false=>exact bJ rfl (aX (h4.has.grow ax) rfl rfl λw9 b9 m9=>⟨_,_,_,_,_,_,cI b9,ay (.inl ⟨(λh=>by rw[av]at h;cases h.2),rfl,rfl,rfl⟩) ax m9⟩)
 |true=>
 refine bq rfl ⟨_,_,_,_,cI (b4.grow ax),(Ki (hc.grow f1) rfl (by omega) (hl.grow f1) rfl hJ).mono ?_⟩;rintro lr lD⟨rp,rfl,gp,a'⟩;have a':=ax.trans a';have g8:=G4.trans a';refine⟨_,rfl,?_⟩;cases rp with
 |false=>exact bJ rfl (aX (h4.has.grow a') rfl rfl λw9 b9 m9=>⟨_,_,_,_,_,_,cI b9,ay (.inr (.inl ⟨⟨b6,av⟩,(λh=>by have:=gp.2 ⟨b6,av,h⟩;cases this),rfl,rfl,rfl⟩)) a' m9⟩)
 |true=>
 obtain⟨_,_,t,ht,eH⟩:=gp.1 rfl;refine bq rfl ((Mk (hl.grow g8) rfl (by omega)).mono ?_);rintro ma ar⟨a_,⟨hR,rfl⟩| ⟨t',hT,rfl⟩⟩
 .exact absurd ht.2.1 (hR t ht.1)
 obtain rfl:=ht.HY hT;have a_:=a'.trans a_;have cb:=G4.trans a_;have kd:=ht.1;have ey:=b4.grow a_;have k0:=cb.size;refine⟨_,rfl,_,_,_,_,cI ey,(Be (k:=k) (hc.grow cb) rfl (by omega)).mono ?_⟩;rintro k2 k'⟨q0,d0,g0,rfl,o0,hP,g3,f0⟩;refine⟨_,_,_,rfl,?_⟩;rw[wN (x:=(t:Int)+1) (i:=t+1) (by omega) (by omega)];refine gh 0 (t+1) e rfl rfl rfl (by omega) (by omega) (by omega) ?_;have ei:(if e=0 then q else q.map (·.add (0*2)))=q:=by split;rfl;exact VL q
 rw[ei,WO];have dd:=hl.grow cb;have eg:=GN b6;refine⟨FI ar cs al t,⟨_,0,g0,[],rfl,xc _,rfl,rfl,rfl,by show _=(uu cs cs.length).length;rw[vW],g3,o0,hP,Ow.nil _ _ _,TH.nil,λj J=>⟨f0 j J,λe=>by simp[aF]at e⟩,λj J=>by simp[aF]at J⟩,?_⟩;rintro P1 N1 C1 P N C I u z _⟨i,ss,tl,rfl,hi,rfl,cm,ku,rfl,gu,o,sw,ot,th,fo,ft⟩;have j5:=zm (cs:=cs) (al:=al) (i:=i);have aa:=sw.n;refine ah (λr=>?_) (λr=>?_)
 .have r:i<t+1:=by rw[x7]at r;omega
  have a6:=uN (al:=al) (j:=i) (by omega);have aT:=j6 av _ a6;have et:(al.take (t+1)).getD i dH=al.getD i dH:=by
   simp only[vx,WE];rw[v8 (by omega)]
  refine(dd.take (t+1)).ix gu (by rw[y6];omega) (by rw[y6];omega) λa s dB h1 h7 h3=>⟨_,_,_,_,dB u gu,?_⟩
  rw[et]at h1 h3 ⊢;intro g4 k1 eb;have kn:=eb.num;refine aX eb.has rfl rfl λho gx hX=>?_;have fq:ak u ho:=eb.mod.then hX λj J e=>by omega
  have zu:=gu.size;intro l3 jN bY;have j_:=bY.num;have kw:=fq.size;have a8:=fq.trans bY.mod;have ke:=gx.lt;have kf:=bY.size;refine Ow.jS JS (ot.grow a8) (⟨P,(iY cs al i).length,C⟩:Sl) bY.has rfl (by omega) (λ_=>rfl) (by omega) λZ bi gV d7 cp aw ez=>?_;have e8:=gu.trans a8;have cr:ak ar Z:=e8.then cp λj J e=>by have:=ft j e;omega
  have d5:bO Z g4 _:=(gx.grow bY.mod).keep cp λe=>by have:=ot.lt _ e;omega
  have el:Row 3 yQ bG Z P C ss:=(o.grow a8).keep cp λj J e=> (fo j J).2 e;have gb:TH ar Z cs al bi (tl++ [⟨P,(iY cs al i).length,C⟩]):=(th.grow a8).nu (s:=⟨P,(iY cs al i).length,C⟩) cp aw (o.grow a8) (by rw[cm];exact sw) (by rw[cm]) λb hb=> (fo b hb).2;have gl:∀j,aF bi=some j->ar.heap.size<=j:=λj J=>by
   rcases aw with rfl|rfl
   .exact ft j J
   .have:=aO J;have:=e8.size;omega
  have hA:∀j,aF P=some j->ar.heap.size<=j/\aF bi≠some j:=λj J=>⟨(fo j J).1,λe=>by
   rcases aw with rfl|rfl
   .exact (fo j J).2 e
   .have:=aO e;have:=(o.grow a8).lt j J;omega⟩
  have c4:∀ {q':sn} {v:World},(∀j,aF q'=some j->aF P=some j\/Z.heap.size<=j)->∀j,aF q'=some j->ar.heap.size<=j/\aF bi≠some j:=λ{q'} {v} h j J=>by
   rcases h j J with h|h
   .exact hA j h
   .have:=cr.size;exact⟨by omega,λe=>by have:=d7.lt j e;omega⟩
  refine⟨_,ae d5 rfl,ah (λr2=>⟨_,_,_,ae d5 rfl,?_⟩) (λr2=>?_)⟩
  .have hd:(al.getD i dH).1=true:=by simpa using r2
   refine(Jh el sw cr rfl (by omega) (Dp eg av (by omega)) h3 h1 aT (by have:=o.cap;omega)).mono ?_;rintro k9 hw⟨q',d',tt,rfl,hI,fP,d4,jp,f50⟩;refine⟨_,_,_,rfl,_,by omega,i+1,tt,_,wN,r,rfl,by simp[cm],by omega,by rw[yX hd],cr.trans d4,hI,by rw[yX hd];exact fP,d7.grow d4,gb.grow d4,c4 (v:=hw) f50,gl⟩
  .have hd:(al.getD i dH).1=false:=by simpa using r2
   have eh:∀ {v:World} (_:ak Z v) {n:Nat} {r:sn} {c:Nat},bO v n #[.slice s.p s.n s.c,.bool true,.i (i:Int)]->Row 3 yQ bG v r c ss->(∀j,aF r=some j->Z.heap.size<=j)->
    ∃b7,∃p' n' c',(Builtin.append_ #[121,121] 121 #[.slice r (iY cs al i).length c,.slice (some (qw n)) 1 1]).run prog v=.ok (.slice p' n' c') b7/\∃gs,gs<t+1 - i/\FI ar cs al t bi (tl.length+1) gV p' n' c' (IntKind.i64.wrap ((i:Int)+1)) b7 gs:=by
    intro v gv n r c hb o5 f5;have zv:=gv.size;refine Row.nu tX wZ o5 (Hs (s:=(s,true,(i:Int))) hb) aa.symm rfl (by simp;omega) λb7 p' c' h0 hU fA ih=>?_;have d6:ak Z b7:=gv.then hU λj J e=>by have:=f5 j e;omega
    refine⟨_,by omega,i+1,_,_,wN,by omega,rfl,by simp[cm],by omega,by rw[yO hd];simp[aa],cr.trans d6,h0,by rw[yO hd];exact sw.nu (SW.bP rfl h1 h7 h3),d7.grow d6,gb.grow d6,c4 (v:=b7) (λj J=> .inr ?_),gl⟩;rcases fA with rfl|rfl
    .exact f5 j J
    .have:=aO J;omega
   have gd:=rN Z;refine⟨ak Z,gd,_,_,_,λv g=>ae (d5.grow g) rfl,?_,?_⟩
   .refine (xx (el.grow gd) aa.symm (by omega)).mono ?_;rintro hO lu⟨q9,d9,rfl,o9,g9,f9⟩;refine⟨_,_,_,rfl,gd.trans g9,?_⟩;intro lR kh ef;rw[aa];exact eh ((gd.trans g9).trans ef.mod) ef.has (o9.grow ef.mod) λj J=>by have:=f9 j J;have:=gd.size;omega
   .intro k4 j0 eR;have cT:=gd.trans eR.mod;refine(xx (el.grow cT) aa.symm (by omega)).mono ?_;rintro hO kv⟨q9,d9,rfl,o9,g9,f9⟩;refine⟨_,_,_,rfl,cT.trans g9,?_⟩;rw[aa];exact eh (cT.trans g9) (eR.has.grow g9) o9 λj J=>by have:=f9 j J;have:=cT.size;omega
 .have r:i=t+1:=by rw[x8]at r;omega
  subst r;intro ap k6 dA;have l_:=dA.num;obtain⟨fd,fa,e9,hB⟩:=MO.put u9 vp (MO.new (P:=prog) (k:=dg) (e:=bA) dA) (by unfold maxLen;omega) (x:=(true,(t:Int))) (Un (by omega)) true;refine⟨fd,fa,?_⟩;have hM:ak u fd:=dA.mod.then hB λj J e=>by omega
  refine⟨λI v z=>∃ (j:Nat) (S:Bool × Int->Prop) (s:Bool × Int->Bool) (eY:Nat),I=(j:Int) - 1/\j<=t+1/\z=j/\ak u v/\MO prog dg bA v ap eY s/\eY<=1+20050* (t+1 - j)/\(∀x,s x=true↔S x)/\(∀x,S x->AK cs al t x)/\Lb cs al j S=Ln cs al t,
   ⟨_,t+1,λx=>x=(true,(t:Int)),_,1,by omega,vy _,rfl,hM,e9,by omega,λx=>by by_cases e:x=(true,(t:Int))<;>simp[e],λx hx=> .inr ⟨t,vy _,ht.2.1.1,hx⟩,rfl⟩,?_⟩
  rintro I v j _⟨_,S,s,eY,rfl,J,rfl,gv,mo,io,hs,fC,gz⟩;refine ah (λr=>?_) (λr=>?_)
  .obtain ⟨O,rfl⟩: ∃O,j=O+1:=⟨j - 1,by rw[x7]at r;omega⟩
   have ej:((O+1:Nat):Int) - 1=(O:Int):=by omega
   rw[ej];have next:∀ {v':World} {S':Bool × Int->Prop} {s':Bool × Int->Bool} {X:Nat},ak u v'->MO prog dg bA v' ap X s'->X<=20050+eY->(∀x,s' x=true↔S' x)->S'=Th cs al O S->∃e2,e2<O+1/\
    ∃ (j:Nat) (S:Bool × Int->Prop) (s:Bool × Int->Bool) (eY:Nat),IntKind.i64.wrap ((O:Int) - 1)=(j:Int) - 1/\j<=t+1/\e2=j/\ak u v'/\MO prog dg bA v' ap eY s/\eY<=1+20050* (t+1 - j)/\(∀x,s x=true↔S x)/\(∀x,S x->AK cs al t x)/\Lb cs al j S=Ln cs al t:=
    λ{v' S' s' X} a b c d e=>⟨O,by omega,O,S',s',X,ao (by omega) (by omega),by omega,rfl,a,b,by omega,d,by rw[e];exact OC (by omega) fC,by rw[e];exact gz⟩
   refine⟨v,_,MO.cY u9 vp mo (x:=(true,(O:Int))) (Un (by omega)),?_⟩;refine ah (λr2=>?_) (λr2=>?_)
   .have r2: ¬S (true,(O:Int)):=λe=>by rw[(hs _).2 e]at r2;cases r2
    exact next gv mo (by omega) hs (RW r2).symm
   .have hS:S (true,(O:Int)):=(hs _).1 (by simpa using r2);have hd:(al.getD O dH).1=false:=by
     rcases fC _ hS with⟨a,_,e⟩| ⟨a,_,hd,e⟩
     .cases e
     .have e:=(YV e).2;have:O=a:=by omega
      rw[this];exact hd
    have hu:=(eH O (by omega)).resolve_left (by rw[hd];decide);have a6:=uN (al:=al) (j:=O) (by omega);have aT:=j6 av _ a6;have h9:=cX aT;obtain⟨k7,oj,ec,dq,_⟩:=th O (by omega);have ip:=zm (cs:=cs) (al:=al) (i:=O);have gd:=rN v;refine⟨ak v,gd,ot.vw.ix Sl.nil (by omega) (by omega) (by omega) λa ha=>⟨_,_,_,λv' g=>ee (gv.trans g) ha id,?_⟩⟩;rw[tn];refine(xJ (oj.grow (gv.trans gd)) ec (gu.trans (gv.trans gd)) dq (by omega)).mono ?_;rintro mm ki⟨lm,k_,ks,rfl,g',b_⟩;have b_:=gd.trans b_;refine⟨_,_,_,rfl,b_,dd.ix (gu.trans gv) rfl (by omega) λa sL dB h1 h2 h3=>⟨_,_,_,λv' g=>aM.get (dB v' ((gu.trans gv).trans g)) 1 _ rfl,?_⟩⟩;have hL:∀c∈(iY cs al O).map (·.1),c.length<=4096/\∀x∈c,cC x=true:=λc hk=>by
     obtain⟨y,hy,rfl⟩:=LV.1 hk;have:=cX (Dp eg av (by omega) y hy);exact⟨this.2,this.1⟩
    have f':((iY cs al O).map (·.1)).length=(iY cs al O).length:=We _;have i_:=II (cs:=cs) gc (i:=O) (by omega);have i0:=NI (cs:=cs) (B:=4096) λc hc=> (cX (eg c hc)).2;have ir:cs.length*4096<=40*4096:=WQ _ hx;have h_:=gc _ a6;refine(MH g' f'.symm hL (h3.grow ((gu.trans gv).trans b_)) h1 aT (by omega) (by omega)).mono ?_;rw[f'];rintro k3 h6 (⟨hh,_⟩| ⟨_,q',d',rfl,ea,cg⟩)
    .exact absurd hu hh
    have eK:CE ((iY cs al O).map (·.1)) (al.getD O dH).2 (iY cs al O).length []=Ec cs al O:=rfl;rw[eK]at ea;have cg:=b_.trans cg;have dc:=mo.grow cg;have g1:∀b,aF q'=some b->¬b=ap:=λb hb e=>by subst e;exact MO.Uy dc ea hb
    refine⟨_,_,_,_,rfl,?_⟩;rw[eK];have hK:(Ec cs al O).length<=20050:=by
     have:=Ex (yS (cs:=(iY cs al O).map (·.1)) (c:=(al.getD O dH).2) (n:=(iY cs al O).length) (by simp) (i:=(iY cs al O).length) (K:= []) (vy _) ⟨λj J=>by simp at J,.nil⟩).1 (xc _);rw[eK]at this;omega
    refine⟨λV v' z=>∃ (x:Nat) (s':Bool × Int->Bool) (X:Nat),V=x/\x<=(Ec cs al O).length/\z=(Ec cs al O).length - x/\aE (·=ap) h6 v'/\MO prog dg bA v' ap X s'/\X<=eY+x/\∀y,s' y=true↔S y\/∃jj∈(Ec cs al O).take x,((iY cs al O).getD jj yo).2=y,
     ⟨_,0,s,eY,rfl,xc _,rfl,aE.refl _,dc,by omega,λy=>by rw[hs];simp⟩,?_⟩
    rintro V v' z _⟨x,s',X,rfl,j3,rfl,m',mo',hQ,d8⟩;have gg:ak u v':=(gv.trans cg).then m' λj J e=>by omega
    refine ah (λQ=>?_) (λQ=>?_)
    .have Q:x< (Ec cs al O).length:=by simpa using Q
     refine(ea.keep m' g1).vw.ix 0 (by omega) (by rw[We]) (by omega) λa ha=>⟨_,ha,?_⟩
     rw[tn,yq];have gA:(Ec cs al O).getD x 0∈Ec cs al O:=by simp[List.getD,Q]
     have gf:=GZ gA;have hz:(Lit.int .i64 ((iY cs al O).getD ((Ec cs al O).getD x 0) yo).2.2).wf=true:=by
      rcases yJ gA with⟨a,ha,e⟩| ⟨a,ha,_,e⟩<;> (rw[e];exact Un (x:=(a:Int)) (by omega))
     refine ot.vw.ix Sl.nil (by omega) (by omega) (by omega) λa1 hg=>⟨_,_,_,ee (S:=λ_=>False) (gg.trans (rN v')) hg id,?_⟩
     rw[tn];refine ec.ix (oj.grow (gg.trans (rN v'))) dq gf λa2 s2 fk _ _ _=>⟨_,aM.get fk 1 _ rfl,?_⟩
     refine ot.vw.ix Sl.nil (by omega) (by omega) (by omega) λa3 gT=>⟨_,_,_,ee (S:=λ_=>False) (gg.trans (rN v')) gT id,?_⟩
     rw[tn];refine ec.ix (oj.grow (gg.trans (rN v'))) dq gf λa4 s4 gy _ _ _=>⟨_,aM.get gy 2 _ rfl,?_⟩
     obtain⟨gr,hr,ek,fm⟩:=MO.put u9 vp (mo'.grow (rN v')) (by unfold maxLen;omega) (x:=((iY cs al O).getD ((Ec cs al O).getD x 0) yo).2) hz true;refine⟨gr,hr,_,by omega,x+1,_,_,wN,Q,rfl,m'.trans ((aE.mono (rN v') λ_ _ e=>e.elim).trans fm),ek,by omega,λy=>?_⟩;rw[dN Q 0];by_cases e:y=((iY cs al O).getD ((Ec cs al O).getD x 0) yo).2
     .rw [v8 e];exact⟨λ_=> .inr ⟨_,WB _ (xv.2 rfl),e.symm⟩,λ_=>rfl⟩
     .rw [r8 e,d8];refine or_congr Yb ⟨λ⟨jj,h1,h2⟩=>⟨jj,Wq _ h1,h2⟩,λ⟨jj,h1,h2⟩=>?_⟩;rcases y4.1 h1 with h1|h1
      .exact ⟨jj,h1,h2⟩
      .rw [xv]at h1;rw[h1]at h2;exact absurd h2.symm e
    .have Q:x=(Ec cs al O).length:=by simp at Q;omega
     subst Q;rw[L0]at d8;exact next gg mo' (by omega) d8 (by
      funext y;exact propext ⟨λh=>h.imp id λh=>⟨hS,h⟩,λh=>h.imp id λh=>h.2⟩)
  .have g2:j=0:=by rw[x8]at r;omega
   subst g2;have hF:∀x,s x=true↔Ln cs al t x:=λx=>by rw[hs,<- gz];rfl
   intro n102 U an;have iv:=an.num;have az:ak u U:=gv.trans an.mod;have fj:bO U n1 _:=ey.grow ((gu.trans az));have ii:=an.size;have zv:=gv.size;have zu:=gu.size;have b8:=mo.grow an.mod;have kt:=mo.lt;refine⟨_,_,_,ae fj rfl,?_⟩;refine⟨λV y z=>∃ (x:Nat) (P:sn) (C:Nat),V=x/\x<=cs.length/\z=cs.length - x/\aE (·=n102) U y/\bO y n102 #[.slice P ((List.range x).filter λi:Nat=>s (false,(i:Int))).length C,.slice none 0 0]/\d_ aB y P C (kc ((List.range x).filter λi:Nat=>s (false,(i:Int))))/\∀j,aF P=some j->U.heap.size<=j,
    ⟨_,0,none,0,rfl,xc _,rfl,aE.refl _,an.has,Ow.nil _ _ _,λj J=>by simp[aF]at J⟩,?_⟩
   rintro V y z _⟨x,P,C,rfl,j2,rfl,my,ce,oy,fy⟩;have eT:MO prog dg bA y ap eY s:=b8.keep my (by omega);have zy:=my.size;refine ah (λQ=>?_) (λQ=>?_)
   .have Q:x<cs.length:=by simpa using Q
    refine⟨y,_,MO.cY u9 vp eT (x:=(false,(x:Int))) (Un (by omega)),ah (λr4=>?_) (λr4=>?_)⟩
    .have eF:(List.range (x+1)).filter (λi:Nat=>s (false,(i:Int)))=(List.range x).filter (λi:Nat=>s (false,(i:Int)))++ [x]:=FX r4;refine⟨_,_,_,ae ce rfl,?_⟩;intro n113 i9 ac;have i1:=ac.num;have ed:=WZ (λi:Nat=>s (false,(i:Int))) (List.range x);rw[Xt]at ed;refine Ow.jS cR (oy.grow ac.mod) (x:Int) ac.has rfl (fX _).symm (λ_=>rfl) (by rw[fX];omega) λeL p' c' fL dk aw ez=>?_;have gk:bO eL n102 _:=(ce.grow ac.mod).keep dk λe=>by have:=fy _ e;omega
     refine cz gk rfl rfl λi7 gn c7=>?_;have bg:∀j,aF p'=some j->U.heap.size<=j:=λj J=>by
      have:=ac.mod.size;rcases aw with rfl|rfl
      .exact fy j J
      .have:=aO J;omega
     refine⟨_,by omega,x+1,p',c',wN,Q,rfl,?_,?_,?_,bg⟩
     .exact ((my.then ac.mod λ_ _ h=>h.elim).then dk λj J e=>by have:=fy j e;omega).trans c7
     .rw [eF,I',WG,<- fX];exact gn
     .rw [eF];have:=fL.keep c7 λj J e=>by have:=bg j J;omega
      unfold kc at this ⊢;rw[GD];exact this
    .have eF:(List.range (x+1)).filter (λi:Nat=>s (false,(i:Int)))=(List.range x).filter (λi:Nat=>s (false,(i:Int))):=Gf (by rw[r4];decide);exact⟨_,by omega,x+1,P,C,wN,Q,rfl,my,by rw[eF];exact ce,by rw[eF];exact oy,fy⟩
   .have Q:x=cs.length:=by simp at Q;omega
    subst Q;refine⟨λV v2 z=>∃ (x:Nat) (P2:sn) (C2:Nat),V=x/\x<=t+1/\z=t+1 - x/\aE (·=n102) U v2/\bO v2 n102 #[.slice P ((List.range cs.length).filter λi:Nat=>s (false,(i:Int))).length C,.slice P2 ((List.range x).filter λi:Nat=>s (true,(i:Int))).length C2]/\
     d_ aB v2 P C (kc ((List.range cs.length).filter λi:Nat=>s (false,(i:Int))))/\d_ aB v2 P2 C2 (kc ((List.range x).filter λi:Nat=>s (true,(i:Int))))/\∀j,aF P2=some j->U.heap.size<=j/\aF P≠some j,
     ⟨_,0,none,0,rfl,xc _,rfl,my,ce,oy,Ow.nil _ _ _,λj J=>by simp[aF]at J⟩,?_⟩
    clear eT;rintro V v2 z _⟨x,P2,C2,rfl,li,rfl,mv,bv,co,dT,fv⟩;have hW:MO prog dg bA v2 ap eY s:=b8.keep mv (by omega);have kq:=mv.size;refine ah (λQ=>?_) (λQ=>?_)
    .have Q:x<t+1:=by rw[x7]at Q;omega
     refine⟨v2,_,MO.cY u9 vp hW (x:=(true,(x:Int))) (Un (by omega)),ah (λr4=>?_) (λr4=>?_)⟩
     .have eF:(List.range (x+1)).filter (λi:Nat=>s (true,(i:Int)))=(List.range x).filter (λi:Nat=>s (true,(i:Int)))++ [x]:=FX r4;refine⟨_,_,_,ae bv rfl,?_⟩;intro n126 i5 Y;have it:=Y.num;have ed:=WZ (λi:Nat=>s (true,(i:Int))) (List.range x);rw[Xt]at ed;refine Ow.jS cR (dT.grow Y.mod) (x:Int) Y.has rfl (fX _).symm (λ_=>rfl) (by rw[fX];omega) λgm p' c' fi bu aw ez=>?_;have e6:bO gm n102 _:=(bv.grow Y.mod).keep bu λe=>by have:=(fv _ e).1;omega
      have z127:=Y.mod.size;have e4:=co.lt;refine cz e6 rfl rfl λh8 fl bn=>?_;have bg:∀j,aF p'=some j->U.heap.size<=j/\aF P≠some j:=λj J=>by
       rcases aw with rfl|rfl
       .exact fv j J
       .have:=aO J;exact⟨by omega,λe=>by have:=e4 j e;omega⟩
      refine⟨_,by omega,x+1,p',c',wN,Q,rfl,?_,?_,?_,?_,bg⟩
      .exact ((mv.then Y.mod λ_ _ h=>h.elim).then bu λj J e=>by have:=(fv j e).1;omega).trans bn
      .rw [eF,I',WG,<- fX ((List.range x).filter λi:Nat=>s (true,(i:Int)))];exact fl
      .exact ((co.grow Y.mod).keep bu λj J e=> (fv j e).2 J).keep bn λj J e=>by have:=fy j J;omega
      .rw [eF];have:=fi.keep bn λj J e=>by have:=(bg j J).1;omega
       unfold kc at this ⊢;rw[GD];exact this
     .have eF:(List.range (x+1)).filter (λi:Nat=>s (true,(i:Int)))=(List.range x).filter (λi:Nat=>s (true,(i:Int))):=Gf (by rw[r4];decide);exact⟨_,by omega,x+1,P2,C2,wN,Q,rfl,mv,by rw[eF];exact bv,co,by rw[eF];exact dT,fv⟩
    .have Q:x=t+1:=by rw[x8]at Q;omega
     subst Q;refine⟨_,_,_,_,_,_,cI bv,?_⟩;have hE:ak ar v2:=(gu.trans az).then mv λj J e=>by omega
     have i3:=h4.has.lt;have i2:=a_.size;have b3:bO v2 n3 _:=(h4.has.grow (a_.trans (gu.trans az))).keep mv (by omega);refine aX b3 rfl rfl λi4 fs bk=>⟨_,_,_,_,_,_,cI fs,P,P2,C,C2,0,_,_,rfl,.inr (.inr ⟨⟨b6,av⟩,t,ht,eH,rfl,?_,?_⟩),co.keep bk λj J e=>by have:=fy j J;omega,dT.keep bk λj J e=>by have:=(fv j J).1;omega,(cb.trans hE).then bk λj J e=>by omega⟩
     .unfold q7;refine List.filter_congr λi _=>?_;rw[W4,@decide_eq_true_eq _ (Classical.propDecidable _)];exact hF _
     .unfold ju;refine List.filter_congr λi _=>?_;rw[W4,@decide_eq_true_eq _ (Classical.propDecidable _)];exact hF _
end
section
variable{W w w' w0 w2 w3 u:World}{p q p1 p2:sn}{n m d i c t n1 n2 d1 d2:Nat}{k:Int}{hs tl:List Sl}{cs:lq}{l c1 c2:List Int}{ss:List So}{al:List jJ}
def RU(n:Nat)(l:List Int):Prop:=∀i,i<l.length->0<=l.getD i 0/\l.getD i 0<n/\(0<i->l.getD (i - 1) 0<l.getD i 0)
theorem Df{e:Nat}(hl:Vw sT w q l)(hm:m=l.length)(hx:l.length<=100000)(hn:n<=1000000):Calls prog 133 #[.slice q m e,.i (n:Int)] w λe w'=>∃r:Bool,e=.returned (.bool r)/\(r=true↔RU n l)/\ak w w':=by
 subst hm;refine mL.aj ?_;refine⟨λI u z=>∃i:Nat,I=i/\i<=l.length/\z=l.length - i/\ak w u/\∀j,j<i->0<=l.getD j 0/\l.getD j 0<n/\(0<j->l.getD (j - 1) 0<l.getD j 0),⟨_,0,rfl,xc _,rfl,aE.refl _,λj hj=>by omega⟩,?_⟩;rintro I u z _⟨i,rfl,hi,rfl,O,J⟩;refine ah (λr=>?_) (λr=>?_)
 .have r:i<l.length:=by simpa using r
  refine(hl.grow O).ix 0 (by omega) rfl (by omega) λa ha=>⟨_,ha,?_⟩
  rw[tn];have no: ¬(0<=l.getD i 0/\l.getD i 0<n/\(0<i->l.getD (i - 1) 0<l.getD i 0))->∃r:Bool,Ending.returned (Value.bool false)=.returned (.bool r)/\(r=true↔RU n l)/\ak w u:=λh=>⟨false,rfl,⟨λe=> (by cases e),λe=>absurd (e i r) h⟩,O⟩
  have next:(0<=l.getD i 0/\l.getD i 0<n/\(0<i->l.getD (i - 1) 0<l.getD i 0))->∃k3,k3<l.length - i/\∃V:Nat,IntKind.i64.wrap ((i:Int)+1)=V/\V<=l.length/\k3=l.length - V/\ak w u/\∀j,j<V->0<=l.getD j 0/\l.getD j 0<n/\(0<j->l.getD (j - 1) 0<l.getD j 0):=λh=>
   ⟨_,by omega,i+1,wN,r,rfl,O,λj hj=>by
     by_cases e:j<i
     .exact J j e
     .obtain rfl:j=i:=by omega
      exact h⟩
  refine ah (λU=>no λh=>by rw[x7]at U;omega) (λU=>ah (λQ=>no λh=>by rw[x7]at Q;omega) (λQ=>ah (λY=>?_) (λY=>?_)))
  .rw [x7]at Y;rw[ao (x:=(i:Int) - 1) (by omega) (by omega)];refine(hl.grow O).ix 0 (by omega) rfl (by omega) λa2 X=>⟨_,X,?_⟩
   rw[show ((i:Int) - 1).toNat=i - 1 by omega];refine ah (λZ=>no λh=>?_) (λZ=>next ?_)
   .rw [x7]at Z;have:=h.2.2 (by omega);omega
   .rw [x8]at U Q Z;exact⟨by omega,by omega,λ_=>by omega⟩
  .rw [x8]at U Q Y;exact next ⟨by omega,by omega,λ_=>by omega⟩
 .have r:i=l.length:=by simp at r;omega
  subst r;exact⟨true,rfl,⟨λ_=>J,λ_=>rfl⟩,O⟩
abbrev EA(cs:lq)(v:Int):List Int:=cs.getD v.toNat []
abbrev B9(al:List jJ)(v:Int):jJ:=al.getD v.toNat dH
def lY(cs:lq)(al:List jJ)(c1 c2:List Int)(j:Nat):lq:=c1.map (EA cs)++ (c2.take j).map λv=> (B9 al v).2
def Cf(cs:lq)(al:List jJ)(c1 c2:List Int):Prop:=(∀j,j<c2.length->uB (lY cs al c1 c2 j) (B9 al (c2.getD j 0)).2)/\∃j,j<c2.length/\(B9 al (c2.getD j 0)).2= []
def Ml(al:List jJ)(c2:List Int):Prop:=∀j,j<c2.length->(B9 al (c2.getD j 0)).1=false
def HN(k:Int)(cs:lq)(al:List jJ)(c1 c2:List Int):Prop:=(c5 k cs=true/\ig al=true)/\RU cs.length c1/\RU al.length c2/\Ml al c2
def K5(k:Int)(cs:lq)(al:List jJ)(c1 c2:List Int)(E:Int):Prop:=(¬HN k cs al c1 c2/\E=1)\/(HN k cs al c1 c2/\¬Cf cs al c1 c2/\E=7)\/(HN k cs al c1 c2/\Cf cs al c1 c2/\E=0)
theorem K5.HY{E E':Int}(h:K5 k cs al c1 c2 E)(O:K5 k cs al c1 c2 E'):E=E':=by
 rcases h with⟨a,rfl⟩| ⟨a,b,rfl⟩| ⟨a,b,rfl⟩<;>rcases O with⟨I,rfl⟩| ⟨I,J,rfl⟩| ⟨I,J,rfl⟩<;>first|rfl|exact absurd ‹_› ‹_›|exact absurd I a|exact absurd a I|exact absurd J b|exact absurd b J
theorem zH(h:RU n l)(hi:i<l.length):(l.getD i 0).toNat<n/\((l.getD i 0).toNat:Int)=l.getD i 0:=by
 have:=h i hi;omega
theorem ET:f_ prog 134=true:=by kernel_rfl
theorem OO{b e:Nat}{X:sn}{m2 e2:Nat}(hb:bO w b #[.slice X m2 e2])(ha:SV w X al)(Q:m2=al.length)(hl:Vw sT w q l)(hm:m=l.length)(hx:l.length<=100000)(hr:RU al.length l):
 Calls prog 50 #[.slice q m e,.func (.func 134) #[] #[.pointer (some ⟨b,0,none⟩)]] w λe w'=>∃r:Bool,e=.returned (.bool r)/\(r=false↔Ml al l)/\ak w w':=by
 subst hm Q;refine bR.aj ((bS.aj (R:=λe w'=>∃r:Int,e=.returned (.i r)/\(r<0↔Ml al l)/\ak w w') ?_).mono ?_)
 .refine ⟨λI u z=>∃i:Nat,I=i/\z=l.length - i/\i<=l.length/\ak w u/\∀j,j<i->(B9 al (l.getD j 0)).1=false,⟨_,0,rfl,rfl,by omega,aE.refl w,λj hj=>by omega⟩,?_⟩;rintro I u z _⟨i,rfl,rfl,hi,g,J⟩;refine ah (λr=>?_) (λr=>?_)
  .have r:i<l.length:=by simpa using r
   refine(hl.grow g).ix 0 (by omega) rfl (by omega) λa U=>⟨_,U,?_⟩
   rw[tn,ET];show Calls _ _ _ _ _;rw[w_];obtain⟨h1,Y⟩:=zH hr r;refine(js.aj (R:=λe w'=>e=.returned (.bool (B9 al (l.getD i 0)).1)/\w'=u) ?_).mono ?_
   .refine ⟨_,_,_,aP (hb.grow g) rfl,?_⟩;rw[<- Y];refine ha.ix g rfl h1 λa s Z h1 ag h3=>⟨_,aM.get (Z u g) 0 _ rfl,rfl,rfl⟩
   .rintro e9 _ ⟨rfl,rfl⟩;refine⟨_,rfl,ah (λO=>⟨_,rfl,⟨λh=>by omega,λh=>by rw[h i r]at O;cases O⟩,g⟩) (λO=>⟨_,by omega,i+1,wN,rfl,r,g,λj hj=>?_⟩)⟩;by_cases e:j<i
    .exact J j e
    .obtain rfl:j=i:=by omega
     exact O
  .have r:i=l.length:=by simp at r;omega
   subst r;exact⟨_,rfl,⟨λ_=>J,λ_=>by decide⟩,g⟩
 .rintro e1 w1 ⟨r,rfl,V,g⟩;refine⟨_,rfl,_,rfl,?_,g⟩;rw[x8,<- V];omega
theorem xh{b:Nat}{x:Value}(h:bO w b #[x]):w.cell? ⟨b,0,none⟩=some x:=aP h rfl
theorem MJ{e:Nat}(hc:V2 sT w p hs cs)(hn:n=cs.length)(hx:cs.length<=40)(hl:SV w q al)(hm:m=al.length)(fk:m<=20000)(v1:Vw sT w p1 c1)(eb:n1=c1.length)(ey:n1<=60)(v2:Vw sT w p2 c2)(ek:n2=c2.length)(e3:n2<=20000):
 Calls prog 78 #[.agg #[.i k,.slice p n d],.slice q m e,.agg #[.slice p1 n1 d1,.slice p2 n2 d2]] w λe w'=>∃E:Int,e=.returned (.i E)/\K5 k cs al c1 c2 E/\ak w w':=by
 subst hn hm eb ek;have no:∀ {u:World},¬HN k cs al c1 c2->ak w u->∃E:Int,Ending.returned (Value.int .i64 1)=.returned (.i E)/\K5 k cs al c1 c2 E/\ak w u:=λh g=>⟨1,rfl,.inl ⟨h,rfl⟩,g⟩
 refine oB.aj ?_;intro nf w2 h2 nl w4 h4 nc w6 h6;have ef:=h2.num;have G6:=(h2.mod.trans h4.mod).trans h6.mod;have bf:=(h2.has.grow h4.mod).grow h6.mod;have bl:=h4.has.grow h6.mod;have bc:=h6.has;refine⟨_,_,_,_,cI bf,(eP (hc.grow G6) rfl).mono ?_⟩;rintro e9 w9⟨rfl,g9⟩;have G9:=G6.trans g9;refine⟨_,rfl,?_⟩;cases bx:c5 k cs with
 |false=>exact bJ rfl (no (λh=>by have:=h.1.1;rw[bx]at this;cases this) G9)
 |true=>
 refine bq rfl ⟨_,_,_,xh (bl.grow g9),(jQ (hl.grow G9) rfl (by omega)).mono ?_⟩;rintro fa e4⟨rfl,Y⟩;have Y:=g9.trans Y;have cg:=G6.trans Y;refine⟨_,rfl,?_⟩;cases ax:ig al with
 |false=>exact bJ rfl (no (λh=>by have:=h.1.2;rw[ax]at this;cases this) cg)
 |true=>
 refine bq rfl ⟨_,_,_,ae (bc.grow Y) rfl,_,_,_,ae (bf.grow Y) rfl,(Df (v1.grow cg) rfl (by omega) (by omega)).mono ?_⟩;rintro eu e8⟨ed,rfl,a_,aa⟩;have aa:=Y.trans aa;have ce:=G6.trans aa;refine⟨_,rfl,?_⟩;cases ed with
 |false=>exact bJ rfl (no (λh=>by have:=a_.2 h.2.1;cases this) ce)
 |true=>
 have bu:=a_.1 rfl;refine bq rfl ⟨_,_,_,ae (bc.grow aa) rfl,_,_,_,xh (bl.grow aa),(Df (v2.grow ce) rfl (by omega) (by omega)).mono ?_⟩;rintro eN fi⟨du,rfl,a8,V⟩;have V:=aa.trans V;have bk:=G6.trans V;refine⟨_,rfl,?_⟩;cases du with
 |false=>exact bJ rfl (no (λh=>by have:=a8.2 h.2.2.1;cases this) bk)
 |true=>
 have aT:=a8.1 rfl;refine bq rfl ⟨_,_,_,ae (bc.grow V) rfl,(OO (bl.grow V) (hl.grow bk) rfl (v2.grow bk) rfl (by omega) aT).mono ?_⟩;rintro eA X⟨dq,rfl,a6,ac⟩;have ac:=V.trans ac;have Z:=G6.trans ac;refine⟨_,rfl,?_⟩;cases dq with
 |true=>exact bJ rfl (no (λh=>by have:=a6.2 h.2.2.2;cases this) Z)
 |false=>
 have ej:=a6.1 rfl;have an:HN k cs al c1 c2:=⟨⟨bx,ax⟩,bu,aT,ej⟩
 have bb:=bf.grow ac;have Q:=bl.grow ac;have bg:=bc.grow ac;have e1:=Z.size;refine bq rfl ⟨_,_,_,ae bg rfl,?_⟩;refine⟨λP N C I u z=>∃ (i:Nat) (ks:List Sl),I=i/\i<=c1.length/\z=c1.length - i/\i=N/\ak X u/\Ow Sl.v aI u P C ks/\VR sT w ks ((c1.take i).map (EA cs))/\∀j,aF P=some j->X.heap.size<=j,
  ⟨_,0,[],rfl,xc _,rfl,rfl,aE.refl _,Ow.nil _ _ _,VR.nil,λj J=>by simp[aF]at J⟩,?_⟩
 rintro P N C I u z _⟨i,ks,rfl,hi,rfl,rfl,gu,ok,vr,fo⟩;have Gu:=Z.trans gu;have U:=vr.n;rw[We,y6,WK hi]at U;refine ah (λr=>?_) (λr=>?_)
 .have r:i<c1.length:=by simpa using r
  obtain⟨q1,q2⟩:=zH bu r;refine(v1.grow Gu).ix 0 (by omega) rfl (by omega) λa ha=>⟨_,ha,_,_,_,ae (bb.grow gu) rfl,?_⟩
  rw[tn,<- q2];refine(hc.grow Gu).ix (by omega) rfl (by omega) λad sl k1 k0 k2 k3 k4=>⟨_,_,_,k1,?_⟩
  rw[tn]at k0 k2;obtain⟨_,_,r3⟩:=hc.r _ q1;rw[<- k0]at r3;intro eL fq ap;have fh:=ap.num;have zu:=gu.size;have fb:=ap.mod.size;refine Ow.uv iP (ok.grow ap.mod) (we (sl:=sl) ap.has) U.symm rfl (λ_=>rfl) (by simp;omega) λe2 p' c' dA d' b3 dk=>?_;refine⟨_,by omega,i+1,_,wN,r,rfl,by simp[U],(gu.trans ap.mod).then d' λj J e=>by have:=fo j e;omega,dA,?_,λj J=>?_⟩
  .rw [dN r 0,GD];exact vr.nu (VR.bP (s:=sl) r3 k2 k3)
  .rcases b3 with rfl|rfl
   .exact fo j J
   .have:=aO J;omega
 have r:i=c1.length:=by simp at r;omega
 subst r;rw[L0]at vr;refine⟨_,_,_,_,cI (bb.grow gu),_,_,_,xh (Q.grow gu),(yu (p:=p) (n:=cs.length) (d:=d) (hl.grow Gu) rfl (by omega) (j6 ax)).mono ?_⟩;rintro eK eT⟨rfl,cr⟩;have a':=gu.trans cr;refine⟨_,rfl,_,_,_,ae (bg.grow a') rfl,?_⟩;refine⟨λP N C ends I u z=>∃ (i:Nat) (ks:List Sl),I=i/\i<=c2.length/\z=c2.length - i/\N=(lY cs al c1 c2 i).length/\ak X u/\Ow Sl.v aI u P C ks/\VR sT w ks (lY cs al c1 c2 i)/\(∀j,aF P=some j->X.heap.size<=j)/\
  (∀j,j<i->uB (lY cs al c1 c2 j) (B9 al (c2.getD j 0)).2)/\(ends=true↔∃j,j<i/\(B9 al (c2.getD j 0)).2= []),
  ⟨_,0,ks,rfl,xc _,rfl,by simp[lY],a',ok.grow cr,by simpa[lY]using vr,fo,λj J=>by omega,⟨λe=> (by cases e),λ⟨j,J,_⟩=>by omega⟩⟩,?_⟩
 clear vr ok fo U Gu hi;rintro P N C ends I v z _⟨i,ks,rfl,hi,rfl,rfl,gv,ok,vr,fo,bi,O⟩;have Gv:=Z.trans gv;have U:=vr.n;have fl:(lY cs al c1 c2 i).length=c1.length+i:=by unfold lY;rw[I',We,We,y6];omega
 refine ah (λr=>?_) (λr=>?_)
 .have r:i<c2.length:=by simpa using r
  obtain⟨q1,q2⟩:=zH aT r;have b':=uN q1;have b9:=j6 ax _ b';refine(v2.grow Gv).ix 0 (by omega) rfl (by omega) λa ha=>⟨_,ha,bq (by simp;omega) ⟨_,_,_,xh (Q.grow gv),?_⟩⟩
  rw[tn,<- q2];refine hl.ix Gv rfl q1 λa1 s1 cb ei dh qW=>⟨_,_,_,aM.get (cb v Gv) 1 _ rfl,?_⟩
  refine(yk (k:=Rw k al) ((vr.grow Gv).v2 ok.vw) rfl (λ_ _=>by omega) (qW.grow Gv) ei dh).mono ?_;rintro eF d7⟨fj,rfl,a7,ar⟩;have co:c5 (Rw k al) (lY cs al c1 c2 i)=true:=Jd bx ax (by omega) (λc cp=>by
   unfold lY at cp;rcases y4.1 cp with h|h
   .obtain ⟨y,hy,rfl⟩:=LV.1 h;obtain⟨j,J,rfl⟩:=Bs.1 hy;have:=(zH bu J).1;simp only[vx,V9 J,Wn]at this;exact .inl (iO this)
   .obtain ⟨y,hy,rfl⟩:=LV.1 h;obtain⟨j,J,rfl⟩:=Bs.1 (Wh hy);have:=(zH aT J).1;simp only[vx,V9 J,Wn]at this;exact .inr (WA (uN this)))
  refine⟨_,rfl,ah (λr3=>?_) (λr3=>?_)⟩
  .refine ⟨7,rfl,.inr (.inl ⟨an,λh=>?_,rfl⟩),Gv.trans ar⟩;rw[a7.2 ⟨co,b9,h.1 i r⟩]at r3;cases r3
  .have hu:=(a7.1 (by simpa using r3)).2.2;have av:=gv.trans ar;refine⟨_,_,_,xh (Q.grow av),hl.ix (Gv.trans ar) rfl q1 λa2 s2 cT el d4 d6=>⟨_,_,_,aM.get (cT d7 (Gv.trans ar)) 1 _ rfl,?_⟩⟩;intro e7 e6 aw;have e5:=aw.num;have e':=av.size;have ez:=aw.mod.size;refine Ow.uv iP (ok.grow (ar.trans aw.mod)) (we (sl:=s2) aw.has) U.symm rfl (λ_=>rfl) (by simp;omega) λc0 p' c' cm ea b3 dk=>?_;have ag:ak X c0:=(av.trans aw.mod).then ea λj J e=>by have:=fo j e;omega
   have eH:lY cs al c1 c2 (i+1)=lY cs al c1 c2 i++ [(B9 al (c2.getD i 0)).2]:=by
    unfold lY;rw[dN r 0,GD,WH];rfl
   have bn:VR sT w (ks++ [s2]) (lY cs al c1 c2 (i+1)):=by rw[eH];exact vr.nu (VR.bP (s:=s2) d6 el d4)
   have b_:∀j,aF p'=some j->X.heap.size<=j:=λj J=>by
    rcases b3 with rfl|rfl
    .exact fo j J
    .have:=aO J;omega
   have ay:∀j,j<i+1->uB (lY cs al c1 c2 j) (B9 al (c2.getD j 0)).2:=λj J=>by
    by_cases e:j<i
    .exact bi j e
    .obtain rfl:j=i:=by omega
     exact hu
   have hN:(ks++ [s2]).length=(lY cs al c1 c2 (i+1)).length:=bn.n;refine ah (λr4=>?_) (λr4=>?_)
   .subst r4;exact⟨_,by omega,i+1,_,wN,r,rfl,hN,ag,cm,bn,b_,ay,⟨λ_=> (O.1 rfl).imp λj h=>⟨by omega,h.2⟩,λ_=>rfl⟩⟩
   .refine ⟨_,_,_,xh (Q.grow ag),hl.ix (Z.trans ag) rfl q1 λa3 s3 b8 d5 ew eR=>⟨_,_,_,aM.get (b8 c0 (Z.trans ag)) 1 _ rfl,?_⟩⟩;refine⟨_,by omega,i+1,_,wN,r,rfl,hN,ag,cm,bn,b_,ay,?_⟩;rw[d5];constructor
    .intro h;exact⟨i,by omega,Wa (by have h:(((B9 al (c2.getD i 0)).2.length:Nat):Int)=0:=(by simpa using h);omega)⟩
    .rintro ⟨j,J,h⟩;by_cases e:j<i
     .rw [O.2 ⟨j,e,h⟩]at r4;cases r4
     .obtain rfl:j=i:=by omega
      rw[h];rfl
 .have r:i=c2.length:=by simp at r;omega
  subst r;refine ah (λr=>⟨7,rfl,.inr (.inl ⟨an,λh=>?_,rfl⟩),Gv⟩) (λr=>⟨0,rfl,.inr (.inr ⟨an,⟨bi,O.1 (by simpa using r)⟩,rfl⟩),Gv⟩);rw[O.2 h.2]at r;cases r
end
section
variable{W w w' w0 w2 w3 u:World}{p q p1 p2:sn}{n m d i c t n1 n2 d1 d2:Nat}{k:Int}{hs tl:List Sl}{cs:lq}{l c1 c2:List Int}{ss:List So}{al:List jJ}
def Uc(x:Bool × Sl):List Value:= [.bool x.1,.slice x.2.p x.2.n x.2.c]
theorem Ni:Jk 2 Uc:=⟨λ_=>rfl,by omega,λx v hv=>by
 simp only[Uc,V',W5,W8]at hv;rcases hv with rfl|rfl<;>rfl⟩
theorem Qv:rM prog sW kN 2 32=true:=by kernel_rfl
structure BZ(w:World)(hh:List (Bool × Sl))(al:List jJ):Prop where
 b:hh.map (·.1)=al.map (·.1)
 v:VR sT w (hh.map (·.2)) (al.map (·.2))
theorem BZ.nil:BZ w [] []:=⟨rfl,VR.nil⟩
theorem BZ.len{I:List (Bool × Sl)}(h:BZ w I al):I.length=al.length:=by have:=congrArg List.length h.b;simpa using this
theorem BZ.nu{I J:List (Bool × Sl)}{bl:List jJ}(h:BZ w I al)(g:BZ w J bl):BZ w (I++J) (al++bl):=⟨by rw[GD,GD,h.b,g.b],by rw[GD,GD];exact h.v.nu g.v⟩
theorem BZ.bP{s:Sl}{x:jJ}(h:Vw sT w s.p x.2)(hn:s.n=x.2.length)(hm:s.n<=maxLen):BZ w [(x.1,s)] [x]:=⟨rfl,VR.bP h hn hm⟩
theorem BZ.keep{S:Nat->Prop}{I:List (Bool × Sl)}(h:BZ w I al)(m:aE S w w')(J:∀k,oI (I.map (·.2)) k->¬S k):BZ w' I al:=⟨h.b,h.v.keep m J⟩
theorem BZ.grow{I:List (Bool × Sl)}(h:BZ w I al)(m:ak w w'):BZ w' I al:=h.keep m λ_ _=>id
theorem BZ.sv{I:List (Bool × Sl)}(h:BZ w I al)(o:Vr 2 Uc w p I):SV w p al:=by
 intro i hi;have hn:=h.len;obtain⟨a,rfl,U⟩:=o i (by omega);obtain⟨h1,J,O⟩:=h.v.r i (by simpa using hi);rw[nT _ _ _ _ (false,Sl.nil) (by omega),nT _ _ _ _ dH hi]at h1 O;rw[nT _ _ _ _ (false,Sl.nil) (by omega)]at J;have Q:I.getD i (false,Sl.nil)=I[i]:=by simp[List.getD,show i<I.length by omega]
 have V:(I[i]'(by omega)).1=(al.getD i dH).1:=by
  have:=congrArg (λl:List Bool=>l.getD i false) h.b;rw[nT _ _ _ _ (false,Sl.nil) (by omega),nT _ _ _ _ dH hi,Q]at this;exact this
 rw[Q]at h1 J O;refine⟨a,I[i].2,rfl,?_,h1,J,O⟩;rw[<- V];exact U
theorem QV{b:Nat}{x:Bool × Sl}(h:bO u b #[.bool x.1,.slice x.2.p x.2.n x.2.c]):Vr 2 Uc u (some ⟨b,0,none⟩) [x]:=by
 intro j I;have:j=0:=by simpa using I
 subst this;exact⟨_,rfl,bN h rfl,bN h rfl,trivial⟩
def Jb(al:List jJ)(c2:List Int):List jJ:=c2.map λv=> (false,(B9 al v).2)
theorem EU{i:Nat}(h:i<c2.length):Jb al (c2.take (i+1))=Jb al (c2.take i)++ [(false,(B9 al (c2.getD i 0)).2)]:=by unfold Jb;rw[dN h 0,GD];rfl
theorem Qm{e:Nat}(hc:V2 sT w p hs cs)(hn:n=cs.length)(hx:cs.length<=40)(hl:SV w q al)(hm:m=al.length)(ez:m<=20000)(v1:Vw sT w p1 c1)(ek:n1=c1.length)(dq:n1<=60)(v2:Vw sT w p2 c2)(eK:n2=c2.length)(dT:n2<=20000):
 Calls prog 37 #[.agg #[.i k,.slice p n d],.slice q m e,.agg #[.slice p1 n1 d1,.slice p2 n2 d2]] w λe w'=>∃ (g0:Int) (P:sn) (C:Nat) (P2:sn) (C2:Nat) (E:Int) (ks:List Sl) (rows:lq) (bl:List jJ),
  e=.returned (.tuple #[.agg #[.i g0,.slice P rows.length C],.slice P2 bl.length C2,.i E])/\K5 k cs al c1 c2 E/\(∀ (S:Nat->Prop) (v:World),aE S w' v->(∀j,S j->j<w.heap.size)->V2 sT v P ks rows/\SV v P2 bl)/\ak w w'/\(E≠0->g0=0/\rows= []/\bl= [])/\(E=0->g0=k/\rows=c1.map (EA cs)/\bl=Jb al c2):=by
 subst hn hm ek eK;refine p9.aj ?_;intro nf w2 h2 nc w4 h4 ng w6 h6;have ef:=h2.num;have ec:=h4.num;have eg:=h6.num;have z2:=h2.mod.size;have z4:=h4.mod.size;have G6:=(h2.mod.trans h4.mod).trans h6.mod;have bf:=(h2.has.grow h4.mod).grow h6.mod;have bc:=h4.has.grow h6.mod;have bg:=h6.has;refine⟨_,_,_,_,cI bf,_,_,_,_,_,_,cI bc,(MJ (hc.grow G6) rfl hx (hl.grow G6) rfl ez (v1.grow G6) rfl dq (v2.grow G6) rfl dT).mono ?_⟩;rintro f' cb⟨E,rfl,hE,X⟩;have av:=G6.trans X;refine⟨_,rfl,ah (λr=>?_) (λr=>?_)⟩
 .have r:E≠0:=by simpa using r
  refine aX (bg.grow X) rfl rfl λfa en eb=>⟨_,_,_,_,cI en,0,none,0,none,0,E,[],[],[],rfl,hE,λS v _ _=>⟨V2.nil,λi hi=>by simp at hi⟩,av.then eb λj J e=>by omega,λ_=>⟨rfl,rfl,rfl⟩,λh=>absurd h r⟩
 have r:E=0:=by simpa using r
 subst r;obtain⟨bx,f1⟩:HN k cs al c1 c2/\Cf cs al c1 c2:=by
  rcases hE with⟨_,h⟩| ⟨_,_,h⟩| ⟨a,b,_⟩
  .cases h
  .cases h
  .exact ⟨a,b⟩
 obtain⟨⟨dA,ew⟩,c7,ei,gl⟩:=bx;have hL:=vh dA;have O:=bf.grow X;have ay:=bc.grow X;have Z:=bg.grow X;have gg:=av.size;have zg:=Z.lt;refine⟨_,ae O rfl,?_⟩;intro aT fm tz;have fC:=tz.num;refine aX tz.has rfl rfl λax cg ea=>?_;have Q:ak cb ax:=tz.mod.then ea λj J e=>by omega
 have d6:=av.trans Q;have fq:=Q.size;have fl:=cg.lt;have e5:=O.grow Q;have b8:=ay.grow Q;have e7:=Z.grow Q;refine⟨_,_,_,ae b8 rfl,?_⟩;refine⟨λI u z=>∃ (i:Nat) (P:sn) (C:Nat) (ks:List Sl),I=i/\i<=c1.length/\z=c1.length - i/\aE (·=aT) ax u/\bO u aT #[.i k,.slice P ((c1.take i).map (EA cs)).length C]/\OV sT aI u P C ks ((c1.take i).map (EA cs))/\∀j,OV.bK P ks j->ax.heap.size<=j,
  ⟨_,0,none,0,[],rfl,xc _,rfl,aE.refl _,cg,OV.nil,λj J=>by rcases J with J| ⟨s,hs,_⟩;simp[aF]at J;simp at hs⟩,?_⟩
 rintro I u z _⟨i,P,C,ks,rfl,hi,rfl,mu,bu,ov,fo⟩;have gu:ak cb u:=Q.then mu λj J e=>by omega
 have Gu:=av.trans gu;have du:=ov.v.n;have dk:((c1.take i).map (EA cs)).length=i:=by rw[We,y6];omega
 have zu:=mu.size;refine ah (λr=>?_) (λr=>?_)
 .have r:i<c1.length:=by simpa using r
  obtain⟨q1,q2⟩:=zH c7 r;have gd:=rN u;refine(v1.grow Gu).ix 0 (by omega) rfl (by omega) λa ha=>⟨_,ha,ak u,gd,_,_,_,λv g=>ae (bu.grow g) rfl,_,_,_,λv g=>ae ((O.grow gu).grow g) rfl,?_⟩
  rw[tn,<- q2];refine(hc.grow Gu).ix (by omega) rfl (by omega) λad sl k1 k0 k2 k3 k4=>⟨_,_,_,λv g=>ee (S:=λ_=>False) g k1 id,?_⟩
  rw[tn]at k0 k2 k4;have b':=hL _ (iO q1);refine(iA (k4.grow gd) k2 (by have:=b'.1;omega)).mono ?_;rintro f0 fj⟨az,a6,rfl,eu,dB,f33⟩;have U:=gd.trans dB;refine⟨_,_,_,rfl,U,?_⟩;intro fu fk V;have fP:=V.num;have ag:=U.trans V.mod;have fd:=U.size;have zd:u.drew.heap.size=u.heap.size:=rfl;have fy:=V.mod.size;have c4:=eu.grow V.mod;refine⟨ag,OV.nu iP (ov.grow ag) (ns:= [⟨az,(EA cs (c1.getD i 0)).length,a6⟩]) (nrows:= [EA cs (c1.getD i 0)]) (we (sl:=⟨az,(EA cs (c1.getD i 0)).length,a6⟩) V.has) (VR.bP c4.vw rfl (Wl b'.1 (by unfold maxLen;omega))) du.symm rfl (λj J e=>?_) (by simp;omega) λer p' c' cp b5 an dc=>?_⟩
  .obtain ⟨s,hs,_,hb⟩:=J;rw[xv]at hs;subst hs;have:=f33 j hb;have:=ov.h.lt j e;omega
  have d4:bO er aT _:=(bu.grow ag).keep b5 λe=>by have:=fo _ (.inl e);omega
  refine cz d4 rfl rfl λfA dh b_=>?_;have eL:(c1.take (i+1)).map (EA cs)=(c1.take i).map (EA cs)++ [EA cs (c1.getD i 0)]:=by rw[dN r 0,GD];rfl
  have bb:∀j,OV.bK p' (ks++ [⟨az,(EA cs (c1.getD i 0)).length,a6⟩]) j->ax.heap.size<=j:=λj J=>by
   rcases J with J|J
   .rcases an with rfl|rfl
    .exact fo j (.inl J)
    .have:=aO J;omega
   .rcases qH.1 J with J| ⟨s,hs,_,hb⟩
    .exact fo j (.inr J)
    .rw [xv]at hs;subst hs;have:=f33 j hb;omega
  refine⟨_,by omega,i+1,p',c',_,wN,r,rfl,((mu.then ag λ_ _ h=>h.elim).then b5 λj J e=>by have:=fo j (.inl e);omega).trans b_,?_,?_,bb⟩
  .have:=cp.v.n;rw[eL,<- this];exact dh
  .rw [eL];exact cp.keep b_ λj J e=>by have:=bb j J;omega
 have r:i=c1.length:=by simp at r;omega
 subst r;rw[L0]at bu ov dk;have gf:=O.grow gu;have eH:=ay.grow gu;have el:=Z.grow gu;refine⟨_,_,_,ae eH rfl,?_⟩;refine⟨λP2 N2 C2 I v z=>∃ (i:Nat) (hh:List (Bool × Sl)),I=i/\i<=c2.length/\z=c2.length - i/\N2=(Jb al (c2.take i)).length/\ak u v/\Row 2 Uc kN v P2 C2 hh/\BZ v hh (Jb al (c2.take i))/\(∀j,aF P2=some j->u.heap.size<=j)/\∀j,oI (hh.map (·.2)) j->u.heap.size<=j/\aF P2≠some j,
  ⟨_,0,[],rfl,xc _,rfl,rfl,aE.refl _,Row.nil _ _ _ _,BZ.nil,λj J=>by simp[aF]at J,λj ⟨s,hs,_⟩=>by simp at hs⟩,?_⟩
 rintro P2 N2 C2 I v z _⟨i,hh,rfl,e',rfl,rfl,gv,o2,sv,fp,fr⟩;have Gv:=Gu.trans gv;have eA:(Jb al (c2.take i)).length=i:=by unfold Jb;rw[We,y6];omega
 have eF:=sv.len;have zv:=gv.size;refine ah (λr=>?_) (λr=>?_)
 .have r:i<c2.length:=by simpa using r
  obtain⟨q1,q2⟩:=zH ei r;have bk:=uN q1;have b3:=cX (j6 ew _ bk);refine(v2.grow Gv).ix 0 (by omega) rfl (by omega) λa ha=>⟨_,ha,?_⟩
  rw[tn,<- q2];refine hl.ix Gv rfl q1 λa1 s1 bY ey fh qW=>⟨_,_,_,aM.get (bY v Gv) 1 _ rfl,?_⟩
  refine(iA (qW.grow Gv) ey (by omega)).mono ?_;rintro fb e9⟨ac,ap,rfl,dd,b9,f51⟩;refine⟨_,_,_,rfl,?_⟩;intro gc d8 Y;have e8:=Y.num;have aw:=b9.trans Y.mod;have ga:=b9.size;have fs:=Y.mod.size;have cm:=dd.grow Y.mod;have et:=o2.lt;refine Row.nu Ni Qv (o2.grow aw) (QV (x:=(false,⟨ac,(B9 al (c2.getD i 0)).2.length,ap⟩)) Y.has) (by omega) rfl (by simp;omega) λfi p' c' ep bi an dc=>?_;have bn:∀j,oI ((hh++ [((false,⟨ac,(B9 al (c2.getD i 0)).2.length,ap⟩):Bool × Sl)]).map (·.2)) j->u.heap.size<=j/\aF P2≠some j/\j<d8.heap.size:=λj J=>by
   rw[GD]at J;rcases qH.1 J with J| ⟨s,hs,_,hb⟩
   .have:=(sv.grow aw).v.lt j J;exact⟨(fr j J).1,(fr j J).2,this⟩
   .have hs:s=⟨ac,(B9 al (c2.getD i 0)).2.length,ap⟩:=by simpa using hs
    subst hs;have:=f51 j hb;have:=cm.lt j hb;exact⟨by omega,λe=>by have:=et j e;omega,by omega⟩
  refine⟨_,by omega,i+1,_,wN,r,rfl,?_,(gv.trans aw).then bi λj J e=>by have:=fp j e;omega,ep,?_,λj J=>?_,λj J=>?_⟩
  .rw [EU r,I',I',eF];rfl
  .rw [EU r];exact((sv.grow aw).nu (BZ.bP (x:=(false,(B9 al (c2.getD i 0)).2)) (s:=⟨ac,(B9 al (c2.getD i 0)).2.length,ap⟩) cm.vw rfl (Wl b3.2 (by unfold maxLen;omega)))).keep bi λj J e=> (bn j J).2.1 e
  .rcases an with rfl|rfl
   .exact fp j J
   .have:=aO J;omega
  .obtain ⟨a1,a2,a3⟩:=bn j J;refine⟨a1,λe=>?_⟩;rcases an with rfl|rfl
   .exact a2 e
   .have:=aO e;omega
 .have r:i=c2.length:=by simp at r;omega
  subst r;rw[L0]at sv eA;refine⟨_,_,_,_,cI (bu.grow gv),?_⟩;refine aX (el.grow gv) rfl rfl λfv ed aa=>⟨_,_,_,_,cI ed,k,P,C,P2,C2,0,ks,c1.map (EA cs),Jb al c2,by rw[L0],hE,λS x mS hS=>⟨(((ov.grow gv).keep aa λj J e=>by have:=fo j J;omega).keep mS λj J e=>by have:=fo j J;have:=hS j e;have:=d6.size;omega).v2,((sv.keep aa λj J e=>by have:=(fr j J).1;omega).keep mS λj J e=>by have:=(fr j J).1;have:=hS j e;have:=Gu.size;omega).sv (((o2.keep aa λj J e=>by have:=fp j J;omega).keep mS λj J e=>by have:=fp j J;have:=hS j e;have:=Gu.size;omega).vr Ni)⟩,Gv.then aa λj J e=>by omega,λh=>absurd rfl h,λ_=>⟨rfl,rfl,rfl⟩⟩
end
