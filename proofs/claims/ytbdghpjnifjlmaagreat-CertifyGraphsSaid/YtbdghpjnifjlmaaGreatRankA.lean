/- Layer 19: what an order's square and clauses are. -/
import Derived.Test.YtbdghpjnifjlmaaGreatSortA
import Derived.Test.YtbdghpjnifjlmaaGreatAigA
set_option linter.all false
namespace Go.Proofs.YtbdghpjnifjlmaaGreat.W.Rk
open Go Go.Fw Go.RowKit
section
theorem ME(m:Nat):(2*m) ^^^ 1=2*m+1:=by
 have h:=ZB ((2*m) ^^^ 1) 2;have J:=Nat.xor_mod_two_pow (a:=2*m) (b:=1) (n:=1);have O:2*m / 2=m:=by omega
 rw[Nat.xor_div_two,O]at h;have I:2*m % 2=0:=by omega
 have h5:(2*m ^^^ 1) % 2=1:=by
  have:(2*m ^^^ 1) % 2 ^ 1=(2*m ^^^ 1) % 2:=rfl;rw[<- this,J];show (2*m % 2) ^^^ 1=1;rw[I];rfl
 have Q:m ^^^ 1 / 2=m:=by simp
 rw[h5,Q]at h;omega
theorem Qb(m:Nat):(2*m+1) ^^^ 1=2*m:=by
 have h:=ZB ((2*m+1) ^^^ 1) 2;have J:=Nat.xor_mod_two_pow (a:=2*m+1) (b:=1) (n:=1);have O:(2*m+1) / 2=m:=by omega
 rw[Nat.xor_div_two,O]at h;have I:(2*m+1) % 2=1:=by omega
 simp[I]at h J;omega
def K_(x:Int):Int:=if x % 2=0 then x+1 else x - 1
theorem Sd{x:Int}(O:0<=x)(h1:x<4611686018427387904):IntKind.i64.wrap ((BitVec.ofInt (IntKind.bits .i64) x ^^^ BitVec.ofInt (IntKind.bits .i64) (1:Int)).toNat)=K_ x:=by
 show IntKind.i64.wrap ((BitVec.ofInt 64 x ^^^ BitVec.ofInt 64 (1:Int)).toNat)=K_ x;rw[BitVec.toNat_xor,BitVec.toNat_ofInt,BitVec.toNat_ofInt];obtain⟨n,rfl⟩: ∃n:Nat,x=n:=⟨x.toNat,by omega⟩
 have I:((n:Int) % ((2 ^ 64:Nat):Int)).toNat=n:=by omega
 have J:((1:Int) % ((2 ^ 64:Nat):Int)).toNat=1:=by decide
 rw[I,J];unfold K_;rcases Nat.mod_two_eq_zero_or_one n with h|h
 .obtain ⟨m,rfl⟩: ∃m,n=2*m:=⟨n / 2,by omega⟩
  rw[ME,v8 (by omega),ao (by omega) (by omega)];omega
 .obtain ⟨m,rfl⟩: ∃m,n=2*m+1:=⟨n / 2,by omega⟩
  rw[Qb,r8 (by omega),ao (by omega) (by omega)];omega
end
section
open Go.TsP
def OB(v:List Int):Prop:=∀x∈v,-1073741824<=x/\x<=1073741824
theorem NC{w:World}{a:Int}{Y:sn}{O c1:Nat}{pv:sn}{U cv:Nat}{v:List Int}(hv:Vw sT w pv v)(hn:U=v.length)(hs:OB v){l:Int}(h1: -1073741824<=l)(h2:l<=1073741824):
 Calls Tryz.prog 140 #[.agg #[.i a,.slice Y O c1,.slice pv U cv],.i l] w λe w'=>e=.returned (.i (sR v l))/\ak w w':=by
 refine lA.aj ?_;intro O w2 I;have H:=I.has;unfold sR;refine ah (λq=>⟨?_,I.mod⟩) (λq=>?_)<;>simp only[x7,x8]at q
 .rw [v8 (.inl q)]
 .have hd:l.tdiv 2=l / 2:=Wc (by omega);have X:IntKind.i64.wrap (l.tdiv 2)=l.tdiv 2:=ao (by omega) (by omega);have Z:IntKind.i64.wrap (l.tdiv 2 - 1)=l.tdiv 2 - 1:=ao (by omega) (by omega);rw[X,Z];refine⟨by decide,_,_,_,ae H rfl,ah (λQ=>⟨?_,I.mod⟩) (λQ=>?_)⟩<;>simp only[x7,x8]at Q
  .rw [v8 (.inr (by omega))]
  .rw [r8 (by omega)];refine⟨_,_,_,ae H rfl,by decide,(hv.grow I.mod).ix 0 (by omega) hn (by omega) λa5 V=>⟨_,V,by decide,ah (λJ=>⟨?_,I.mod⟩) (λJ=>⟨?_,I.mod⟩)⟩⟩<;>simp only[J8,ZI]at J
   .rw [v8 J];have:=hs _ (kY (l:=v) (t:=(l.tdiv 2 - 1).toNat) (by omega) 0);rw[ao (by omega) (by omega)];congr 2;omega
   .rw [r8 J]
structure Bd where
 k:Int
 pc:sn
 cc:Nat
 hs:List Sl
 cl:lq
 pv:sn
 cv:Nat
 v:List Int
abbrev Bd.row(x:Bd):Array Value:= #[.i x.k,.slice x.pc x.cl.length x.cc,.slice x.pv x.v.length x.cv]
structure oJ(w:World)(b:Nat)(x:Bd):Prop where
 me:bO w b x.row
 c:OV sT aI w x.pc x.cc x.hs x.cl
 v:d_ aB w x.pv x.cv x.v
 bc: ¬OV.bK x.pc x.hs b
 bv:aF x.pv≠some b
 cv:∀k,aF x.pv=some k->¬OV.bK x.pc x.hs k
def Bd.bK(x:Bd)(b k:Nat):Prop:=k=b\/OV.bK x.pc x.hs k\/aF x.pv=some k
theorem oJ.keep{w w':World}{b:Nat}{x:Bd}{S:Nat->Prop}(h:oJ w b x)(m:aE S w w')(J:∀k,x.bK b k->¬S k):oJ w' b x:=
 ⟨h.me.keep m (J b (.inl rfl)),h.c.keep m λk I=>J k (.inr (.inl I)),h.v.keep m λk I=>J k (.inr (.inr I)),h.bc,h.bv,h.cv⟩
theorem oJ.grow{w w':World}{b:Nat}{x:Bd}(h:oJ w b x)(m:ak w w'):oJ w' b x:=h.keep m λ_ _=>id
theorem oJ.lt{w:World}{b:Nat}{x:Bd}(h:oJ w b x):∀k,x.bK b k->k<w.heap.size:=by
 rintro k (rfl|I|I)
 .exact h.me.lt
 .exact h.c.lt k I
 .exact h.v.lt k I
theorem Ur:mg Tryz.prog eJ aI 24=true:=iP
theorem oJ.nu{w:World}{b:Nat}{x:Bd}(h:oJ w b x)(hlen:x.cl.length<=1000000){s:Sl}{l:List Int}{n:Nat}(hb:bO w n #[s.v])(hl:Vw sT w s.p l)(hn:s.n=l.length)(hm:s.n<=maxLen)(U:∀k,oI [s] k->¬x.bK b k){K:World->sn->Nat->Nat->Prop}
 (I:∀w' J c',OV sT aI w' J c' (x.hs++ [s]) (x.cl++ [l])->(∀k,OV.bK J (x.hs++ [s]) k->OV.bK x.pc x.hs k\/oI [s] k\/w.heap.size<=k)->aE (λk=>aF x.pc=some k) w w'->K w' J (x.cl.length+1) c'):
 ∃w',∃J n' c',(Builtin.append_ #[eJ,eJ] eJ #[.slice x.pc x.cl.length x.cc,.slice (some ⟨n,0,none⟩) 1 1]).run Tryz.prog w=.ok (.slice J n' c') w'/\K w' J n' c':=by
 have hv:Vw Sl.v w (some ⟨n,0,none⟩) [s]:=by
  intro j Q;have:j=0:=by simpa using Q
  subst this;exact⟨_,rfl,ae hb rfl⟩
 have hr:VR sT w [s] [l]:=VR.bP hl hn hm;have O:=h.c.v.n;refine h.c.nu Ur hv hr (by omega) rfl (λk I e=>U k I (.inr (.inl (.inl e)))) (by simp;omega) λw' J c' o m hp V=>?_;have e:(x.hs++ [s]).length=x.cl.length+1:=by simp[O]
 rw[e];refine I w' J c' o (λk I=>?_) m;rcases I with I|I
 .rcases hp with rfl|rfl
  .exact .inl (.inl I)
  .have:=aO I;exact .inr (.inr (by omega))
 .rcases qH.1 I with I|I
  .exact .inl (.inr I)
  .exact .inr (.inl I)
theorem mf{w:World}{b:Nat}{x:Bd}(h:oJ w b x)(hs:OB x.v)(hlen:x.cl.length<=1000000){p:sn}{n c:Nat}{l:List Int}(hl:Vw sT w p l)(hn:n=l.length)(hb:∀y∈l,-1073741824<=y/\y<=1073741824)(b4:n<=1000000):
 Calls Tryz.prog 86 #[ptr b,.slice p n c] w λe w'=>e=.returned (.tuple #[])/\∃x',oJ w' b x'/\x'.k=x.k/\x'.v=x.v/\x'.cl=x.cl++ (uP x.v l).toList/\(∀k,x'.bK b k->x.bK b k\/w.heap.size<=k)/\aE (x.bK b) w w':=by
 subst hn;refine eC.aj ?_;refine⟨λpc nc cc v w' k=>∃ (t:Nat) (o:List Int),nc=o.length/\v=t/\t<=l.length/\uP x.v (l.take t)=some o/\o.length<=t/\d_ aB w' pc cc o/\(∀k,aF pc=some k->w.heap.size<=k)/\ak w w'/\k+t=l.length,⟨_,0,[],rfl,rfl,xc _,rfl,xc _,Ow.nil _ _ _,by simp[aF],aE.refl w,rfl⟩,?_⟩;rintro pc nc cc v w6 k _⟨t,o,rfl,rfl,ht,ho,b6,O,fr,G,I⟩;have h6:=h.grow G;refine ah (λq=>?_) (λq=>?_)<;>simp only[x7,x8]at q
 .have Q:t<l.length:=by omega
  have aw:=hb _ (kY Q 0);have ct:=AB Q ho;refine(hl.grow G).ix 0 (by omega) rfl q λa e=>⟨_,e,?_⟩
  rw[tn];refine ah (λq1=>?_) (λq1=>ah (λq2=>?_) (λq2=>?_))<;>simp only[J8,ZI]at*
  .refine ⟨trivial,x,h6,rfl,rfl,?_,λk=> .inl,G.mono λ_ _=>False.elim⟩;rw[IJ Q q1];simp
  .rw [r8 q1,v8 q2]at ct;exact⟨k - 1,by omega,t+1,o,rfl,by rw[ao (by omega) (by omega)];omega,Q,ct,by omega,O,fr,G,by omega⟩
  .rw [r8 q1,r8 q2]at ct;have e0:(qw b).add 0=⟨b,0,none⟩:=by rw[cA]
   refine⟨_,rfl,_,_,_,_,_,_,_,by rw[e0];exact gG h6.me,(NC h6.v.vw rfl hs aw.1 aw.2).mono ?_⟩;rintro e bu⟨rfl,aa⟩;refine⟨_,rfl,?_⟩;intro n15 bY V;refine((O.grow aa).grow V.mod).jS cR _ V.has rfl rfl eI (by omega) λbi bk b3 a6 a' an bn=>?_;have av:=(G.trans aa).trans V.mod;refine⟨k - 1,by omega,t+1,_,by simp,by rw[ao (by omega) (by omega)];omega,Q,ct,by simp;omega,a6,λj hj=>?_,av.then a' λj hj e=>by have:=fr j e;omega,by omega⟩;rcases an with rfl|rfl
   .exact fr j hj
   .have:=aO hj;have:=av.size;omega
 .have:t=l.length:=by omega
  subst this;rw[L0]at ho;refine⟨_,rfl,_,_,_,xj h6.me rfl,?_⟩;intro n21 bx J;have X:=h6.grow J.mod;have a_:=O.grow J.mod;have ac:=h.lt;have b7:=h.lt b (.inl rfl);refine X.nu hlen (s:=⟨pc,o.length,cc⟩) (l:=o) J.has a_.vw rfl (by unfold maxLen;simp only;omega) (λk I e=>?_) λb5 Z ax bf f23 Y=>?_
  .obtain ⟨s,hm,h0,I⟩:=I;simp at hm;subst hm;have:=fr k I;have:=ac k e;omega
  .have ap:=X.me.keep Y λe=>h.bc (.inl e);refine⟨_,rfl,EV ap rfl rfl λa8 az U=>⟨rfl,⟨x.k,Z,ax,x.hs++ [⟨pc,o.length,cc⟩],x.cl++ [o],x.pv,x.cv,x.v⟩,?_,rfl,rfl,by rw[ho];rfl,?_,?_⟩⟩
   .have z22:=(G.trans J.mod).size;have rf:∀k,oI [(⟨pc,o.length,cc⟩:Sl)] k->w.heap.size<=k:=λk ⟨s,hm,h0,I⟩=>by
     simp at hm;subst hm;exact fr k I
    have nb: ¬OV.bK Z (x.hs++ [⟨pc,o.length,cc⟩]) b:=λe=>by
     rcases f23 b e with e|e|e
     .exact h.bc e
     .have:=rf b e;omega
     .omega
    refine⟨?_,bf.keep U λk I e=>nb (by rw[<- e];exact I),(X.v.keep Y λk I e=>h.cv k I (.inl e)).keep U λk I e=>h.bv (by rw[I,e]),nb,h.bv,λk I e=>?_⟩
    .have:(x.cl++ [o]).length=x.cl.length+1:=by simp
     show bO a8 b #[_,.slice Z (x.cl++ [o]).length ax,_];rw[this];exact az
    .have:=ac k (.inr (.inr I));rcases f23 k e with e|e|e
     .exact h.cv k I e
     .have:=rf k e;omega
     .omega
   .have z22:=(G.trans J.mod).size;rintro k (rfl|I|I)
    .exact .inl (.inl rfl)
    .rcases f23 k I with e| ⟨s,hm,h0,I⟩|e
     .exact .inl (.inr (.inl e))
     .simp at hm;subst hm;exact .inr (fr k I)
     .exact .inr (by omega)
    .exact .inl (.inr (.inr I))
   .exact (((G.trans J.mod).mono λ_ _=>False.elim).then Y λk _ e=> .inr (.inl (.inl e))).then U λk _ e=> .inl e
end
section
open Go.TsP
open Classical in
noncomputable def dK(g:List (Int × Int))(cs:lq)(k:Nat):Bool:=decide (H g cs k)
theorem lL{g:List (Int × Int)}{cs:lq}{k:Nat}:dK g cs k=true↔H g cs k:=by simp[dK]
theorem JK{wb w:World}{b:Nat}{x:Bd}(h:oJ w b x)(F:∀k,x.bK b k->wb.heap.size<=k)(G:ak wb w)(y:Int)(hl:x.v.length<=1000000){K:World->Prop}
 (I:∀w' x',oJ w' b x'->x'.k=x.k->x'.cl=x.cl->x'.v=x.v++ [y]->(∀k,x'.bK b k->wb.heap.size<=k)->ak wb w'->K w'):
 ∀n28 Q,jz (.cells #[.i y] 3) w n28 Q->
  ∃U Y X Z,(Builtin.append_ #[aI,aI] aI #[.slice x.pv x.v.length x.cv,.slice (some (qw n28)) 1 1]).run Tryz.prog Q=.ok (.slice Y X Z) U/\
  ∃ag,(some (qw b))=some ag/\∃O,bD ((ag.add 0).add 2) 0 [.slice Y X Z] U O/\K O:=by
 intro n28 Q V;have J:=h.grow V.mod;refine J.v.jS cR y V.has rfl rfl eI (by omega) λU p c o m hp z=>?_;have me:=J.me.keep m λe=>h.bv e;have hc:=J.c.keep m λk I e=>h.cv k e I;refine⟨_,rfl,iK me rfl rfl λO ap aa=>?_⟩;have zG:=(G.trans V.mod).size;have fr:∀k,aF p=some k->(aF x.pv=some k\/Q.heap.size<=k):=λk I=>by
  rcases hp with rfl|rfl
  .exact .inl I
  .have:=aO I;exact .inr (by omega)
 have aw:=J.lt b (.inl rfl);have nb:aF p≠some b:=λe=>by
  rcases fr b e with e|e
  .exact h.bv e
  .omega
 have ar:ak wb U:=(G.trans V.mod).then m λk I e=>by have:=F k (.inr (.inr e));omega
 refine I O ⟨x.k,x.pc,x.cc,x.hs,x.cl,p,c,x.v++ [y]⟩ ⟨?_,hc.keep aa λk I e=>h.bc (by rw[<- e];exact I),o.keep aa λk I e=>nb (by rw[I,e]),h.bc,nb,λk I e=>?_⟩ rfl rfl rfl ?_ (ar.then aa λk I e=>by have:=F b (.inl rfl);omega)
 .have:(x.v++ [y]).length=x.v.length+1:=by simp
  show bO O b #[_,_,.slice p (x.v++ [y]).length c];rw[this];exact ap
 .rcases fr k I with e2|e2
  .exact h.cv k e2 e
  .have:=J.lt k (.inr (.inl e));omega
 .rintro k (rfl|I|I)
  .exact F k (.inl rfl)
  .exact F k (.inr (.inl I))
  .rcases fr k I with e|e
   .exact F k (.inr (.inr e))
   .omega
theorem oJ.Vp{w w':World}{b:Nat}{x:Bd}(h:oJ w b x){k:Int}(J:bO w' b #[.i k,.slice x.pc x.cl.length x.cc,.slice x.pv x.v.length x.cv])(m:aE (·=b) w w'):oJ w' b {x with k:=k}:=
 ⟨J,h.c.keep m λk I e=>h.bc (by rw[<- e];exact I),h.v.keep m λk I e=>h.bv (by rw[I,e]),h.bc,h.bv,h.cv⟩
theorem M0(P:Nat->Bool){n:Nat}(h:n<=1073741824):OB (vs P n):=by
 intro x I;simp only[vs,LV,Wv]at I;obtain⟨i,hi,rfl⟩:=I;have:=sO P (i+1);split<;>omega
theorem Dx(g:List (Int × Int))(P:Nat->Bool)(t:Nat):(DV g P t).length<=3*t:=by
 induction t with
 |zero=>simp[DV]
 |succ t ih=>
  rw[Cn,I'];have:(Jo g P t).length<=3:=by unfold Jo;split<;>simp
  omega
theorem vN(v:List Int)(l:lq):(rR v l).length<=l.length:=List.length_filterMap_le _ _
theorem J3(v:List Int)(l:lq)(c:List Int):rR v (l++ [c])=rR v l++ (uP v c).toList:=by rw[uT,vA]
theorem Jz{g:List (Int × Int)}{cs:lq}(h:gq g cs=true)(hn:g.length<=4096)(hm:cs.length<=4096):c5 (eY (dK g cs) g.length) (rR (vs (dK g cs) g.length) (zO g cs (dK g cs)))=true:=by
 have Y:=rB h;have hc:=sO (dK g cs) g.length;have h1:=Dx g (dK g cs) g.length;have h2:=vN (vs (dK g cs) g.length) (zO g cs (dK g cs));have h3:(zO g cs (dK g cs)).length<=3*g.length+cs.length:=by unfold zO;rw[I'];omega
 unfold c5;rw[I4 (by omega),W2,K'];intro o ho;obtain⟨c,J,Z⟩:=Yw.1 ho;have key:c.length<=4096/\∀l∈c,l≠0->l≠1->2<=l/\l<=2*g.length+1/\dK g cs (l.tdiv 2).toNat=true:=by
  rcases y4.1 J with J|J
  .obtain ⟨i,hi,I⟩:=Yu.1 J;have hi:i<g.length:=Wv.1 hi;unfold Jo at I;split at I
   .rename_i hP;obtain⟨hP,hA⟩:=hP;have hb:=kX (jC Y hi) hA;have hH:=lL.1 hP;generalize Q:g.getD i (0,0)=x at*
    obtain⟨A,B⟩:=x;simp only at hA hb I;have O:∀l:Int,(l / 2=A / 2\/l / 2=B / 2)->0<=l->dK g cs (l.tdiv 2).toNat=true:=by
     intro l hl U;rw[lL,Wc U];have hk:BG g i (l / 2).toNat:=by
      refine⟨by rw[Q];exact hA,?_⟩;rw[Q];simp only;rw[Wc hA,Wc hb.1];omega
     exact .BG (Aj Y hi hk) hi hk hH
    have V:∀l:Int,(l=2*i+3\/l=2*i+2)->dK g cs (l.tdiv 2).toNat=true:=by
     intro l hl;rw[Wc (by omega),show (l / 2).toNat=i+1 by omega];exact hP
    have fA:dU A / 2=A / 2/\0<=dU A/\dU A<=2*i+1:=by unfold dU;split<;>omega
    have fB:dU B / 2=B / 2/\0<=dU B/\dU B<=2*i+1:=by unfold dU;split<;>omega
    simp only[V',W5,W8]at I;rcases I with rfl|rfl|rfl
    .refine ⟨by simp,λl hl U h1=>?_⟩;simp only[V',W5,W8]at hl;rcases hl with rfl|rfl
     .exact ⟨by omega,by omega,V _ (.inl rfl)⟩
     .exact ⟨by omega,by omega,O _ (.inl rfl) (by omega)⟩
    .refine ⟨by simp,λl hl U h1=>?_⟩;simp only[V',W5,W8]at hl;rcases hl with rfl|rfl
     .exact ⟨by omega,by omega,V _ (.inl rfl)⟩
     .exact ⟨by omega,by omega,O _ (.inr rfl) (by omega)⟩
    .refine ⟨by simp,λl hl U h1=>?_⟩;simp only[V',W5,W8]at hl;rcases hl with rfl|rfl|rfl
     .exact ⟨by omega,by omega,V _ (.inr rfl)⟩
     .exact ⟨by omega,by omega,O _ (.inl fA.1) (by omega)⟩
     .exact ⟨by omega,by omega,O _ (.inr fB.1) (by omega)⟩
   .simp at I
  .have h':=h;simp only[gq,ts,K']at h';have X:=h'.2 c J;simp only[tP,ts,K',x7]at X;refine⟨X.2,λl hl U h1=>?_⟩;have:=X.1 l hl;simp only[sg,x7]at this;refine⟨by omega,this.2,?_⟩;rw[lL];refine .Lp ⟨c,J,l,hl,?_⟩;rw[Wc this.1];omega
 have hl:∀x∈o,x≠0/\ -(eY (dK g cs) g.length:Int)<=x/\x<=eY (dK g cs) g.length:=by
  intro x Q;obtain⟨l,hl,U,h1,rfl⟩:=Ep Z x Q;obtain⟨k1,k2,k3⟩:=key.2 l hl U h1;exact yN k1 k2 k3
 rw[ts];refine⟨?_,?_⟩
 .have:=DR Z;simp only[jL,ts,K',x7];refine⟨λx Q=>?_,by omega⟩;have:=hl x Q;simp only[cC,x7];omega
 .rw [K'];intro x Q;have:=hl x Q;refine I4 ?_;unfold bo;split<;>omega
end
end Go.Proofs.YtbdghpjnifjlmaaGreat.W.Rk
namespace Go.TsP
def dC(g:List Gt):Nat->Nat
 |0=>0
 |t+1=>dC g t+ (if (g.getD t (0,0)).1<0 then 1 else 0)
theorem je(g:List Gt)(t:Nat):dC g (t+1)=dC g t+ (if (g.getD t (0,0)).1<0 then 1 else 0):=rfl
theorem pe(g:List Gt):∀t,dC g t<=t
 |0=>vy _
 |t+1=>by have:=pe g t;rw[je];split<;>omega
theorem Hw(g:List Gt){a b:Nat}(h:a<=b):dC g a<=dC g b:=by
 induction h with
 |refl=>exact vy _
 |step _ ih=>exact Wl ih (by rw[je];omega)
def rW(v:List Bool)(l:Int):Bool:=if l<2 then l==1 else !(v.getD (l / 2 - 1).toNat false==(l % 2==1))
def E_(g:List Gt)(ins:List Bool)(v:List Bool)(i:Nat):Bool:=
 if 0<=(g.getD i (0,0)).1 then rW v (g.getD i (0,0)).1 && rW v (g.getD i (0,0)).2 else ins.getD (dC g i) false
def m_(g:List Gt)(ins:List Bool):Nat->List Bool
 |0=> []
 |t+1=>m_ g ins t++ [E_ g ins (m_ g ins t) t]
theorem xm(g:List Gt)(ins:List Bool)(t:Nat):m_ g ins (t+1)=m_ g ins t++ [E_ g ins (m_ g ins t) t]:=rfl
theorem oU(g:List Gt)(ins:List Bool):∀t,(m_ g ins t).length=t
 |0=>rfl
 |t+1=>by rw[xm,I',oU g ins t];rfl
theorem vO(g:List Gt)(ins:List Bool){i:Nat}:∀ {t:Nat},i<t->(m_ g ins t).getD i false=E_ g ins (m_ g ins i) i
 |0,h=>by omega
 |t+1,h=>by
  rw[xm];simp only[vx];by_cases e:i=t
  .subst e;rw[Xd (by rw[oU];exact vy _),oU,Zj];rfl
  .rw [Wd (by rw[oU];omega)];have:=vO g ins (i:=i) (t:=t) (by omega);rw[vx]at this;exact this
theorem AA(g:List Gt)(ins:List Bool){t n:Nat}{l:Int}(h:t<=n)(hl:l<=2*t+1):rW (m_ g ins t) l=rW (m_ g ins n) l:=by
 unfold rW;split
 .rfl
 .rw [vO g ins (show (l / 2 - 1).toNat<t by omega),vO g ins (show (l / 2 - 1).toNat<n by omega)]
def gj(g:List Gt)(ins:List Bool)(l:Int):Bool:=rW (m_ g ins g.length) l
theorem gL{g:List Gt}{ins:List Bool}{l:Int}(h:l<2):gj g ins l=(l==1):=by unfold gj rW;rw[v8 h]
theorem iq{g:List Gt}{ins:List Bool}(hm:iT g=true){i:Nat}(hi:i<g.length){l:Int}(hl:l / 2=i+1)(J:2<=l):
 gj g ins l= !((if 0<=(g.getD i (0,0)).1 then gj g ins (g.getD i (0,0)).1 && gj g ins (g.getD i (0,0)).2 else ins.getD (dC g i) false)==(l % 2==1)):=by
 conv=>lhs;unfold gj rW
 rw[r8 (by omega),show (l / 2 - 1).toNat=i by omega,vO g ins hi];congr 2;unfold E_;split
 .rename_i I;have hb:=kX (jC hm hi) I;rw[AA g ins (Zx hi) (by omega),AA g ins (Zx hi) (by omega)];rfl
 .rfl
def ik(g:List Gt)(cs:lq)(ins:List Bool):Bool:=cs.all λc=>c.any (gj g ins)
end Go.TsP
namespace Go.Proofs.YtbdghpjnifjlmaaGreat.W.Rk
open Go Go.Fw Go.RowKit Go.TsP
section
theorem Hr{p q:sn}{g:List (Int × Int)}{n c k d:Nat}{ins:List Bool}(hn:n=g.length)(hg:n<=4194304)(hk:k=ins.length)(hx:k<=maxLen)(hm:iT g=true):
 ∀ (f:Nat) (w:World) (l:Int),l<=f->l<=2*g.length+1-> -1073741824<=l->Vr 2 nB w p g->Vw Value.bool w q ins->
   Calls Tryz.prog 48 #[.slice p n c,.slice q k d,.i l] w λe w'=>e=.returned (.bool (gj g ins l))/\ak w w':=by
 intro f
 induction f with
 |zero=>
  intro w l hf hl h0 h hi;refine eX.aj ?_;refine bJ (I4 (by omega)) ⟨?_,aE.refl w⟩;rw[gL (by omega)]
 |succ f ih=>
  intro w l hf hl h0 h hi;subst hn hk;unfold maxLen at hx;refine eX.aj ?_;refine ah (λs=>⟨?_,aE.refl w⟩) (λs=>?_)<;>simp only[x7,x8]at s
  .rw [gL s]
  have d1:l.tdiv 2=l / 2:=Wc (by omega);have d2:l.tmod 2=l % 2:=XM (by omega);have w1:IntKind.i64.wrap (l.tdiv 2)=l / 2:=by rw[d1];exact ao (by omega) (by omega)
  have w2:IntKind.i64.wrap (l / 2 - 1)=l / 2 - 1:=ao (by omega) (by omega);rw[w1,w2,d2];obtain⟨i,ag,O⟩: ∃i:Nat,l / 2 - 1=i/\i<g.length:=⟨(l / 2 - 1).toNat,by omega,by omega⟩
  have J:=iq (ins:=ins) hm O (l:=l) (by omega) (by omega);rw[ag];have ac:=jC hm O;refine⟨by decide,QY h rfl O λa x0 x1=>⟨_,_,⟨x0,x1,trivial⟩,?_⟩⟩;generalize a8:g.getD i (0,0)=x at*
  obtain⟨A,B⟩:=x;intro n4 w5 h5;refine aX h5.has rfl rfl λZ Y m6=>?_;have Q:ak w Z:=h5.mod.cE m6 (by have:=h5.num;omega);have Y:bO Z n4 #[.i A,.i B]:=Y;refine⟨_,ae Y rfl,ah (λV=>?_) (λV=>?_)⟩<;>simp only[x7,x8,I9]at V
  .simp only at J;rw[v8 V]at J;have hb:=kX ac V;simp only at hb;refine⟨_,ae Y rfl,(ih Z A (by omega) (by omega) (by omega) (h.grow Q) (hi.grow Q)).mono ?_⟩;rintro e w9⟨rfl,g9⟩;have G9:=Q.trans g9;refine⟨_,rfl,ah (λU=>?_) (λU=>⟨by decide,?_,G9⟩)⟩
   .refine ⟨_,ae (Y.grow g9) rfl,(ih w9 B (by omega) (by omega) (by omega) (h.grow G9) (hi.grow G9)).mono ?_⟩;rintro e az⟨rfl,ap⟩;refine⟨_,rfl,by decide,?_,G9.trans ap⟩;rw[J,U,W2]
   .rw [J,U,XY]
  .simp only at J;rw[r8 V]at J;refine⟨λkk v w' z=>∃t:Nat,v=t/\kk=dC g t/\t<=i/\w'=Z/\z+t=i,⟨i,0,rfl,rfl,xc _,rfl,rfl⟩,?_⟩;rintro kk v a6 z _⟨t,rfl,rfl,ht,rfl,hz⟩;have an:=h.grow Q;have bf:=pe g t;have ev:IntKind.i64.wrap ((t:Int)+1)=((t+1:Nat):Int):=by rw[ao (by omega) (by omega)];omega
   rw[ev];refine⟨by decide,ah (λU=>?_) (λU=>?_)⟩<;>simp only[x7,x8]at U
   .have X:t<i:=by omega
    refine QY an rfl (by omega) λa y0 _=>⟨_,y0,ah (λI=>⟨z - 1,by omega,t+1,rfl,?_,X,rfl,by omega⟩) (λI=>⟨z - 1,by omega,t+1,rfl,?_,X,rfl,by omega⟩)⟩<;>simp only[x7,x8]at I
    .rw [je,v8 I,ao (by omega) (by omega)];omega
    .rw [je,r8 I];rfl
   .have et:t=i:=by omega
    subst et;refine ah (λI=>?_) (λI=>⟨by decide,?_,Q⟩)<;>simp only[x7,x8]at I
    .refine (hi.grow Q).ix false (by omega) rfl I λa e=>⟨_,e,by decide,?_,Q⟩
     rw[tn,J]
    .rw [J];have:ins.getD (dC g t) false=false:=by simp[List.getD,show ins.length<=dC g t by omega]
     rw[this]
theorem Uv{w:World}{q:sn}{hs:List Sl}{cs:lq}(Q:V2 sT w q hs cs){m t:Nat}(hm:m=cs.length)(ht:t<cs.length){K:Addr->Prop}(O:∀a (s:Sl),w.cell? a=some (.slice s.p s.n s.c)->s=hs.getD t Sl.nil->s.n=(cs.getD t []).length->s.n<=maxLen->Vw sT w s.p (cs.getD t [])->K a):aV q m (t:Int) 1 K:=
 Q.ix (by omega) hm (by omega) λa s e hs h1 J I=>O a s e (by rw[tn]at hs;exact hs) (by rw[tn]at h1;exact h1) J (by rw[tn]at I;exact I)
theorem Aq{α:Type}{l:List α}{q:α->Bool}{t:Nat}{d:α}(ht:t<l.length):(l.take (t+1)).any q=((l.take t).any q||q (l.getD t d)):=by
 rw[Wo,ZC];have:l[t]? =some (l.getD t d):=by simp[List.getD,ht]
 simp only[this,Xn,Yd,Zz,XJ]
theorem xO{w:World}{p q r:sn}{g:List (Int × Int)}{n c m d k b:Nat}{hs:List Sl}{cs:lq}{ins:List Bool}(hn:n=g.length)(hg:n<=4194304)(hm:m=cs.length)(hx:m<=maxLen)(hk:k=ins.length)(ac:k<=maxLen)(X:iT g=true)(hl:∀t,t<cs.length->∀l∈cs.getD t [],-1073741824<=l/\l<=2*g.length+1)
 (h:Vr 2 nB w p g) (hc:V2 sT w q hs cs) (hi:Vw Value.bool w r ins):
 Calls Tryz.prog 23 #[.slice p n c,.slice q m d,.slice r k b] w λe w'=>e=.returned (.bool (ik g cs ins))/\ak w w':=by
 subst hm;unfold maxLen at hx;refine eo.aj ?_;refine⟨λv w' z=>∃t:Nat,v=t/\t<=cs.length/\((cs.take t).all λc=>c.any (gj g ins))=true/\ak w w'/\z+t=cs.length,⟨_,0,rfl,xc _,rfl,aE.refl _,rfl⟩,?_⟩;rintro v w5 z _⟨t,rfl,ht,ha,G,hz⟩;refine ah (λs=>?_) (λs=>?_)<;>simp only[x7,x8]at s
 .have J:t<cs.length:=by omega
  refine⟨λo v w' z=>∃O:Nat,v=O/\O<=(cs.getD t []).length/\o=((cs.getD t []).take O).any (gj g ins)/\ak w w'/\z+O=(cs.getD t []).length,⟨_,0,rfl,xc _,rfl,G,rfl⟩,?_⟩;rintro o v aa z2 _⟨O,rfl,az,rfl,Q,ax⟩;refine Uv (hc.grow Q) rfl J λa sl e _ V Y hv=>⟨_,_,_,e,ah (λs2=>?_) (λs2=>?_)⟩<;>simp only[x7,x8]at s2
  .have I:O< (cs.getD t []).length:=by omega
   unfold maxLen at Y;have ev:IntKind.i64.wrap ((O:Int)+1)=((O+1:Nat):Int):=by rw[ao (by omega) (by omega)];omega
   have nx:=Aq (q:=gj g ins) (d:=0) I;rw[ev];refine ah (λU=>⟨z2 - 1,by omega,O+1,rfl,I,?_,Q,by omega⟩) (λU=>?_)
   .rw [nx,U];rfl
   .refine Uv (hc.grow Q) rfl J λa sl e _ V Y hv=>⟨_,_,_,e,hv.ix 0 (by omega) V (by omega) λa e=>⟨_,e,?_⟩⟩
    rw[tn];have hb:=hl t J _ (kY I 0);refine(Hr hn hg hk ac X (((cs.getD t []).getD O 0).toNat) aa _ (by omega) hb.2 hb.1 (h.grow Q) (hi.grow Q)).mono ?_;rintro e aT⟨rfl,Z⟩;refine⟨_,rfl,z2 - 1,by omega,O+1,rfl,I,?_,Q.trans Z,by omega⟩;rw[nx,U,Yc]
  .have et:O=(cs.getD t []).length:=by omega
   subst et;rw[L0];refine ah (λU=>⟨?_,Q⟩) (λU=>⟨z - 1,by omega,t+1,by rw[ao (by omega) (by omega)];omega,J,ka (d:= []) J ha (by simpa using U),Q,by omega⟩);have:ik g cs ins=false:=pY (d:= []) J (by simpa using U);rw[this]
 .have:t=cs.length:=by omega
  subst this;rw[L0]at ha;refine⟨?_,G⟩;unfold ik;rw[ha]
end
section
def uL(g:List (Int × Int))(v m:List Int):Nat->List Bool
 |0=> []
 |t+1=>uL g v m t++ (if (g.getD t (0,0)).1<0 then [decide (jF m (v.getD t 0)>0)] else [])
theorem wY(g:List (Int × Int))(v m:List Int)(t:Nat):uL g v m (t+1)=uL g v m t++ (if (g.getD t (0,0)).1<0 then [decide (jF m (v.getD t 0)>0)] else []):=rfl
theorem qe(g:List (Int × Int))(v m:List Int):∀t,(uL g v m t).length=dC g t
 |0=>rfl
 |t+1=>by rw[wY,I',qe g v m t,je];split<;>rfl
theorem AW(g:List (Int × Int))(v m:List Int){i:Nat}(I:(g.getD i (0,0)).1<0):∀ {t:Nat},i<t->(uL g v m t).getD (dC g i) false=decide (jF m (v.getD i 0)>0)
 |0,h=>by omega
 |t+1,h=>by
  rw[wY];by_cases e:i=t
  .subst e;rw[v8 I,vx,Xd (by rw[qe];exact vy _),qe,Zj];rfl
  .have J:dC g (i+1)<=dC g t:=Hw g (by omega);rw[je,v8 I]at J;have:=AW g v m I (t:=t) (by omega);rw[vx]at this ⊢;rw[Wd (by rw[qe];omega),this]
theorem pz(x:Int):bo (-x)=bo x:=by unfold bo;split<;>split<;>omega
theorem Gj{m:List Int}(hb:∀x∈m,x=1\/x= -1){x:Int}(h1:1<=x)(J:x<=m.length)(O:x<=1048576):jF m x=m.getD (x - 1).toNat 0/\jF m (-x)= - m.getD (x - 1).toNat 0:=by
 have I:=hb _ (kY (l:=m) (t:=(x - 1).toNat) (by omega) 0);have a1:bo x=x:=by unfold bo;rw[r8 (by omega)]
 have l1:cC x=true:=by simp only[cC,x7];omega
 have l2:cC (-x)=true:=by simp only[cC,x7];omega
 refine⟨?_,?_⟩
 .unfold jF;rw[a1,l1,r8 (by rintro(h|h);(cases h);omega),r8 (by omega)];rcases I with e|e<;>rw[e]
  .rw [I4 (by omega),I4 (by omega),v8 rfl]
  .rw [x9 (by omega),I4 (by omega),r8 (by simp)]
 .unfold jF;rw[pz,a1,l2,r8 (by rintro(h|h);(cases h);omega),r8 (by omega)];rcases I with e|e<;>rw[e]
  .rw [I4 (by omega),x9 (by omega),r8 (by simp)]
  .rw [x9 (by omega),x9 (by omega),v8 rfl];rfl
section
variable{g:List (Int × Int)}{cs:lq}{m:List Int}
def DH(v m:List Int)(i:Nat):Bool:=decide (jF m (v.getD i 0)=1)
def pP(v m:List Int)(l:Int):Bool:=if l<2 then l==1 else !(DH v m (l / 2 - 1).toNat==(l % 2==1))
theorem UF{P:Nat->Bool}{n:Nat}(hm:m.length=eY P n)(hn:n<=1048576)(hb:∀x∈m,x=1\/x= -1){l:Int}(U:2<=l)(hl:l<=2*n+1)(Q:P (l / 2).toNat=true):decide (jF m (sR (vs P n) l)=1)=pP (vs P n) m l:=by
 have hi:(l / 2 - 1).toNat<n:=by omega
 have e:(l / 2 - 1).toNat+1=(l / 2).toNat:=by omega
 have hv:=Iy P hi;rw[e,Q,v8 rfl]at hv;have h1:0<eY P (l / 2).toNat:=by rw[<- e];exact kg P (by rw[e];exact Q)
 have X:eY P (l / 2).toNat<=eY P n:=qG P (by omega);have V:=sO P n;have I:=Gj hb (x:=(eY P (l / 2).toNat:Int)) (by omega) (by omega) (by omega);have O:=hb _ (kY (l:=m) (t:=((eY P (l / 2).toNat:Int) - 1).toNat) (by omega) 0);unfold pP DH sR;rw[DQ,Wc (show 0<=l by omega),XM (show 0<=l by omega),r8 (show ¬(l<2\/l / 2> (n:Int)) by omega),r8 (show ¬l<2 by omega),hv];by_cases J:l % 2=1
 .rw [v8 J,I.1,I.2];rw[show (l % 2==1)=true by simpa using J];rcases O with e|e<;>rw[e]<;>decide
 .rw [r8 J,I.1];rw[show (l % 2==1)=false by simpa using J];rcases O with e|e<;>rw[e]<;>decide
theorem U_{P:Nat->Bool}{n:Nat}(hm:m.length=eY P n)(hn:n<=1048576)(hb:∀x∈m,x=1\/x= -1):∀ {c:List Int},(∀l∈c,l=0\/l=1\/(2<=l/\l<=2*n+1/\P (l / 2).toNat=true))->
 (match uP (vs P n) c with|none=>true|some o=>o.any λx=>decide (jF m x=1))=c.any (pP (vs P n) m)
 | [],_=>rfl
 |l::c,h=>by
  have I:=U_ hm hn hb (c:=c) λx V=>h x (xk _ V);simp only[uP,Yd];rcases h l Wb with rfl|rfl| ⟨O,X,U⟩
  .rw [r8 (by decide),v8 rfl,I];have:pP (vs P n) m 0=false:=rfl;rw[this,Yc]
  .rw [v8 rfl];have:pP (vs P n) m 1=true:=rfl;rw[this,Bool.true_or]
  .rw [r8 (by omega),r8 (by omega)];have Q:=UF hm hn hb O X U;cases J:uP (vs P n) c with
   |none=>rw[J]at I;simp only at I;rw[<- I];simp
   |some o=>
    rw[J]at I;simp only[Xw,Yd];rw[Q];simp only at I;rw[I]
theorem vd(h:gq g cs=true){c:List Int}(J:c∈zO g cs (dK g cs)):∀l∈c,l=0\/l=1\/(2<=l/\l<=2*g.length+1/\dK g cs (l / 2).toNat=true):=by
 have U:=rB h;rcases y4.1 J with J|J
 .obtain ⟨i,hi,I⟩:=Yu.1 J;have hi:i<g.length:=Wv.1 hi;unfold Jo at I;split at I
  .rename_i Y;obtain⟨Y,X⟩:=Y;have hb:=kX (jC U hi) X;have hH:=lL.1 Y;generalize Z:g.getD i (0,0)=x at*
   obtain⟨A,B⟩:=x;simp only at X hb I;have O:∀l:Int,(l / 2=A / 2\/l / 2=B / 2)->0<=l->dK g cs (l / 2).toNat=true:=by
    intro l hl h0;rw[lL];have hk:BG g i (l / 2).toNat:=by
     refine⟨by rw[Z];exact X,?_⟩;rw[Z];simp only;rw[Wc X,Wc hb.1];omega
    exact .BG (Aj U hi hk) hi hk hH
   have Q:∀l:Int,(l=2*i+3\/l=2*i+2)->dK g cs (l / 2).toNat=true:=by
    intro l hl;rw[show (l / 2).toNat=i+1 by omega];exact Y
   have fA:dU A / 2=A / 2/\0<=dU A/\dU A<=2*i+1:=by unfold dU;split<;>omega
   have fB:dU B / 2=B / 2/\0<=dU B/\dU B<=2*i+1:=by unfold dU;split<;>omega
   have wrap:∀l:Int,0<=l->l<=2*g.length+1->dK g cs (l / 2).toNat=true->l=0\/l=1\/(2<=l/\l<=2*g.length+1/\dK g cs (l / 2).toNat=true):=by
    intro l h0 h1 h2;by_cases e:2<=l
    .exact .inr (.inr ⟨e,h1,h2⟩)
    .omega
   simp only[V',W5,W8]at I;intro l hl;rcases I with rfl|rfl|rfl<;>simp only[V',W5,W8]at hl
   .rcases hl with rfl|rfl
    .exact wrap _ (by omega) (by omega) (Q _ (.inl rfl))
    .exact wrap _ (by omega) (by omega) (O _ (.inl rfl) (by omega))
   .rcases hl with rfl|rfl
    .exact wrap _ (by omega) (by omega) (Q _ (.inl rfl))
    .exact wrap _ (by omega) (by omega) (O _ (.inr rfl) (by omega))
   .rcases hl with rfl|rfl|rfl
    .exact wrap _ (by omega) (by omega) (Q _ (.inr rfl))
    .exact wrap _ (by omega) (by omega) (O _ (.inl fA.1) (by omega))
    .exact wrap _ (by omega) (by omega) (O _ (.inr fB.1) (by omega))
  .simp at I
 .have h':=h;simp only[gq,ts,K']at h';have V:=h'.2 c J;simp only[tP,ts,K',x7]at V;intro l hl;have:=V.1 l hl;simp only[sg,x7]at this;by_cases e:2<=l
  .refine .inr (.inr ⟨e,this.2,?_⟩);rw[lL];refine .Lp ⟨c,J,l,hl,?_⟩;rw[Wc this.1];omega
  .omega
theorem Kf(h:gq g cs=true)(hn:g.length<=1048576)(hm:m.length=eY (dK g cs) g.length)(hb:∀x∈m,x=1\/x= -1):
 ij m (rR (vs (dK g cs) g.length) (zO g cs (dK g cs)))=(zO g cs (dK g cs)).all λc=>c.any (pP (vs (dK g cs) g.length) m):=by
 rw[W4];unfold ij rR;rw[K',K'];constructor
 .intro O c J;have ct:=U_ (c:=c) hm hn hb (vd h J);cases I:uP (vs (dK g cs) g.length) c with
  |none=>rw[I]at ct;exact ct.symm
  |some o=>
   rw[I]at ct;simp only at ct;rw[<- ct];exact O o (Yw.2 ⟨c,J,I⟩)
 .intro O o Q;obtain⟨c,J,I⟩:=Yw.1 Q;have ct:=U_ (c:=c) hm hn hb (vd h J);rw[I]at ct;simp only at ct;rw[ct];exact O c J
theorem C6(v:List Int){l:Int}(h:0<=l):pP v m (dU l)= !pP v m l:=by
 unfold pP dU;by_cases I:l<2
 .have:l=0\/l=1:=by omega
  rcases this with rfl|rfl<;>simp
 .by_cases he:l % 2=0
  .rw [v8 he,r8 (by omega),r8 I,show ((l+1) / 2 - 1).toNat=(l / 2 - 1).toNat by omega,show ((l+1) % 2==1)=true by simp<;>omega,show (l % 2==1)=false by simp<;>omega];cases DH v m (l / 2 - 1).toNat<;>rfl
  .rw [r8 he,r8 (by omega),r8 I,show ((l - 1) / 2 - 1).toNat=(l / 2 - 1).toNat by omega,show ((l - 1) % 2==1)=false by simp<;>omega,show (l % 2==1)=true by simp<;>omega];cases DH v m (l / 2 - 1).toNat<;>rfl
theorem Rx(h:gq g cs=true)(hn:g.length<=1048576)(hm:m.length=eY (dK g cs) g.length)(hb:∀x∈m,x=1\/x= -1):
 ij m (rR (vs (dK g cs) g.length) (zO g cs (dK g cs)))=true↔(ik g cs (uL g (vs (dK g cs) g.length) m g.length)=true/\∀i,i<g.length->dK g cs (i+1)=true->DH (vs (dK g cs) g.length) m i=gj g (uL g (vs (dK g cs) g.length) m g.length) (2*i+2)):=by
 have V:=rB h;have hv:∀ {i:Nat},i<g.length->dK g cs (i+1)=true->decide (jF m ((vs (dK g cs) g.length).getD i 0)>0)=DH (vs (dK g cs) g.length) m i:=by
  intro i _ _;unfold DH;rcases um m ((vs (dK g cs) g.length).getD i 0) with e|e|e<;>rw[e]<;>decide
 rw[Kf h hn hm hb,K'];generalize ap:uL g (vs (dK g cs) g.length) m g.length=ins;have gate:∀i,i<g.length->dK g cs (i+1)=true->0<=(g.getD i (0,0)).1->((∀c∈Jo g (dK g cs) i,c.any (pP (vs (dK g cs) g.length) m)=true)↔DH (vs (dK g cs) g.length) m i=(pP (vs (dK g cs) g.length) m (g.getD i (0,0)).1 && pP (vs (dK g cs) g.length) m (g.getD i (0,0)).2)):=by
  intro i hi J O;have ac:=kX (jC V hi) O;unfold Jo;rw[v8 ⟨J,O⟩];have l3:pP (vs (dK g cs) g.length) m (2* (i:Int)+3)= !DH (vs (dK g cs) g.length) m i:=by
   unfold pP;rw[r8 (by omega),show ((2* (i:Int)+3) / 2 - 1).toNat=i by omega,show ((2* (i:Int)+3) % 2==1)=true by simp<;>omega];cases DH (vs (dK g cs) g.length) m i<;>rfl
  have l2:pP (vs (dK g cs) g.length) m (2* (i:Int)+2)=DH (vs (dK g cs) g.length) m i:=by
   unfold pP;rw[r8 (by omega),show ((2* (i:Int)+2) / 2 - 1).toNat=i by omega,show ((2* (i:Int)+2) % 2==1)=false by simp<;>omega];cases DH (vs (dK g cs) g.length) m i<;>rfl
  simp only[V',W5,W8,forall_eq_or_imp,forall_eq,Yd,Zz,XJ,l3,l2,C6 _ O,C6 _ ac.1];cases DH (vs (dK g cs) g.length) m i<;>cases pP (vs (dK g cs) g.length) m (g.getD i (0,0)).1<;>cases pP (vs (dK g cs) g.length) m (g.getD i (0,0)).2<;>simp
 have kids:∀i,i<g.length->dK g cs (i+1)=true->0<=(g.getD i (0,0)).1->∀l,(l=(g.getD i (0,0)).1\/l=(g.getD i (0,0)).2)->0<=l/\l<=2*i+1/\dK g cs (l / 2).toNat=true:=by
  intro i hi J O l hl;have ac:=kX (jC V hi) O;have hk:BG g i (l / 2).toNat:=by
   refine⟨O,?_⟩;rw[Wc O,Wc ac.1];rcases hl with rfl|rfl<;>omega
  exact⟨by omega,by omega,lL.2 (.BG (Aj V hi hk) hi hk (lL.1 J))⟩
 have I:∀ (N:Nat),(∀i,i<N->i<g.length->dK g cs (i+1)=true->DH (vs (dK g cs) g.length) m i=gj g ins (2*i+2))->∀l:Int,0<=l->l<=2*N+1->l<=2*g.length+1->dK g cs (l / 2).toNat=true->pP (vs (dK g cs) g.length) m l=gj g ins l:=by
  intro N hN l h0 h1 h3 J;by_cases h2:l<2
  .rw [gL h2];unfold pP;rw[v8 h2]
  .have e1:(l / 2 - 1).toNat+1=(l / 2).toNat:=by omega
   have:=hN (l / 2 - 1).toNat (by omega) (by omega) (by rw[e1];exact J);have t1:=iq (ins:=ins) V (i:=(l / 2 - 1).toNat) (by omega) (l:=l) (by omega) (by omega);have t2:=iq (ins:=ins) V (i:=(l / 2 - 1).toNat) (by omega) (l:=2* ((l / 2 - 1).toNat:Int)+2) (by omega) (by omega);rw[show ((2* ((l / 2 - 1).toNat:Int)+2) % 2==1)=false by simp<;>omega]at t2;unfold pP;rw[r8 h2,this,t1,t2];simp
 constructor
 .intro hh;have U:∀N,N<=g.length->∀i,i<N->i<g.length->dK g cs (i+1)=true->DH (vs (dK g cs) g.length) m i=gj g ins (2*i+2):=by
   intro N
   induction N with
   |zero=>intro _ i hi;omega
   |succ N ih=>
    intro hN i hi Q J;by_cases e:i<N
    .exact ih (by omega) i e Q J
    have e:i=N:=by omega
    subst e;have t2:=iq (ins:=ins) V Q (l:=2* (i:Int)+2) (by omega) (by omega);rw[show ((2* (i:Int)+2) % 2==1)=false by simp<;>omega]at t2;rw[t2];by_cases O:0<=(g.getD i (0,0)).1
    .rw [v8 O];have hg:=(gate i Q J O).1 λc Y=>hh c (Wq _ (Yu.2 ⟨i,Wv.2 Q,Y⟩));obtain⟨a1,a2,a3⟩:=kids i Q J O _ (.inl rfl);obtain⟨b1,b2,b3⟩:=kids i Q J O _ (.inr rfl);rw[hg,I i (ih (by omega)) _ a1 a2 (by omega) a3,I i (ih (by omega)) _ b1 b2 (by omega) b3];simp
    .rw [r8 O,<- ap,AW g _ m (by omega) Q,hv Q J];simp
  refine⟨?_,λi hi J=>U g.length (vy _) i hi hi J⟩;unfold ik;rw[K'];intro c Y;have:=hh c (WB _ Y);rw[Xk]at this ⊢;obtain⟨l,hl,ht⟩:=this;refine⟨l,hl,?_⟩;rcases vd h (WB _ Y) l hl with rfl|rfl| ⟨h2,h3,J⟩
  .cases ht
  .rw [gL (by omega)];rfl
  .rw [<- I g.length (U g.length (vy _)) l (by omega) h3 h3 J];exact ht
 .rintro ⟨ha,U⟩ c Y;have X:∀i,i<g.length->i<g.length->dK g cs (i+1)=true->DH (vs (dK g cs) g.length) m i=gj g ins (2*i+2):=λi _ hi J=>U i hi J;rcases y4.1 Y with Y|Y
  .obtain ⟨i,hi,an⟩:=Yu.1 Y;have hi:i<g.length:=Wv.1 hi;have Z:=an;unfold Jo at Z;split at Z
   .rename_i J;obtain⟨J,O⟩:=J;refine(gate i hi J O).2 ?_ c an;obtain⟨a1,a2,a3⟩:=kids i hi J O _ (.inl rfl);obtain⟨b1,b2,b3⟩:=kids i hi J O _ (.inr rfl);have t2:=iq (ins:=ins) V hi (l:=2* (i:Int)+2) (by omega) (by omega);rw[show ((2* (i:Int)+2) % 2==1)=false by simp<;>omega,v8 O]at t2;rw[U i hi J,t2,I g.length X _ a1 (by omega) (by omega) a3,I g.length X _ b1 (by omega) (by omega) b3];simp
   .simp at Z
  .unfold ik at ha;rw[K']at ha;have:=ha c Y;rw[Xk]at this ⊢;obtain⟨l,hl,ht⟩:=this;refine⟨l,hl,?_⟩;rcases vd h (WB _ Y) l hl with rfl|rfl| ⟨h2,h3,J⟩
   .rw [gL (by omega)]at ht;cases ht
   .rfl
   .rw [I g.length X l (by omega) h3 h3 J];exact ht
end
end
end Go.Proofs.YtbdghpjnifjlmaaGreat.W.Rk
namespace Go.Proofs.YtbdghpjnifjlmaaGreat.W
open Go Go.Fw Go.RowKit Go.TsP Rk
variable{g:List (Int × Int)}{cs:lq}{ins:List Bool}
theorem OK(P:Nat->Bool){a b:Nat}(h:a<b)(hb:P b=true):eY P a<eY P b:=by
 obtain⟨c,rfl⟩: ∃c,b=c+1:=⟨b - 1,by omega⟩
 have:=qG P (show a<=c by omega);rw[oK,v8 hb];omega
noncomputable def AV(g:List (Int × Int))(cs:lq)(ins:List Bool):List Int:=
 (List.range (eY (dK g cs) g.length)).map λj=>if (List.range g.length).any λi=>dK g cs (i+1) && decide (eY (dK g cs) (i+1)=j+1) && gj g ins (2*i+2) then 1 else -1
theorem PL{i:Nat}(hi:i<g.length)(I:dK g cs (i+1)=true):(AV g cs ins).getD (eY (dK g cs) (i+1) - 1) 0=if gj g ins (2*i+2) then 1 else -1:=by
 have h1:=kg (dK g cs) I;have O:=qG (dK g cs) (show i+1<=g.length by omega);have J:eY (dK g cs) (i+1) - 1<eY (dK g cs) g.length:=by omega
 unfold AV;rw[vx,WW,List.getElem?_range J];show (if (List.range g.length).any _=true then (1:Int) else -1)=_;congr 1;rw[Xk];refine propext ⟨?_,λh=>⟨i,Wv.2 hi,by rw[I,h,I4 (by omega)];rfl⟩⟩;rintro⟨j,Q,h⟩;simp only[ts,x7]at h;obtain⟨⟨a,b⟩,c⟩:=h;have:j=i:=by
  rcases YG j i with e|e|e
  .have:=OK (dK g cs) (show j+1<i+1 by omega) I;omega
  .exact e
  .have:=OK (dK g cs) (show i+1<j+1 by omega) a;omega
 rw[<- this];exact c
theorem O5(h:gq g cs=true)(hn:g.length<=1048576)(ha:ik g cs ins=true):
 ∃m:List Int,m.length=eY (dK g cs) g.length/\(∀x∈m,x=1\/x= -1)/\ij m (rR (vs (dK g cs) g.length) (zO g cs (dK g cs)))=true:=by
 have O:=rB h;have hm:(AV g cs ins).length=eY (dK g cs) g.length:=by simp[AV]
 have hb:∀x∈AV g cs ins,x=1\/x= -1:=by
  intro x hx;unfold AV at hx;obtain⟨j,_,rfl⟩:=LV.1 hx;split
  .exact .inl rfl
  .exact .inr rfl
 refine⟨AV g cs ins,hm,hb,(Rx h hn hm hb).2 ?_⟩;have ay:=sO (dK g cs) g.length;have tv:∀i,i<g.length->dK g cs (i+1)=true->DH (vs (dK g cs) g.length) (AV g cs ins) i=gj g ins (2*i+2):=by
  intro i hi U;have h1:=kg (dK g cs) U;have h2:=qG (dK g cs) (show i+1<=g.length by omega);unfold DH;rw[Iy _ hi,v8 U,(Gj hb (by omega) (by rw[hm];omega) (by omega)).1,show ((eY (dK g cs) (i+1):Int) - 1).toNat=eY (dK g cs) (i+1) - 1 by omega,PL hi U];cases gj g ins (2*i+2)<;>rfl
 obtain⟨I,X⟩: ∃I,I=uL g (vs (dK g cs) g.length) (AV g cs ins) g.length:=⟨_,rfl⟩
 rw[<- X];have kids:∀i,i<g.length->dK g cs (i+1)=true->0<=(g.getD i (0,0)).1->∀l,(l=(g.getD i (0,0)).1\/l=(g.getD i (0,0)).2)->0<=l/\l<=2*i+1/\(l<2\/dK g cs (l / 2).toNat=true):=by
  intro i hi U Y l hl;have ac:=kX (jC O hi) Y;have hk:BG g i (l / 2).toNat:=by
   refine⟨Y,?_⟩;rw[Wc Y,Wc ac.1];rcases hl with rfl|rfl<;>omega
  exact⟨by omega,by omega,.inr (lL.2 (.BG (Aj O hi hk) hi hk (lL.1 U)))⟩
 have V:∀ (J:List Bool) (l:Int),2<=l->l<=2*g.length+1->gj g J l= !(gj g J (2* ((l / 2 - 1).toNat:Int)+2)==(l % 2==1)):=by
  intro J l h2 hl;have t1:=iq (ins:=J) O (i:=(l / 2 - 1).toNat) (by omega) (l:=l) (by omega) (by omega);have Z:=iq (ins:=J) O (i:=(l / 2 - 1).toNat) (by omega) (l:=2* ((l / 2 - 1).toNat:Int)+2) (by omega) (by omega);rw[show ((2* ((l / 2 - 1).toNat:Int)+2) % 2==1)=false by simp<;>omega]at Z;rw[t1,Z];simp
 have same:∀N i,i<N->i<g.length->dK g cs (i+1)=true->gj g I (2*i+2)=gj g ins (2*i+2):=by
  intro N
  induction N with
  |zero=>intro i hi;omega
  |succ N ih=>
   intro i hi Q U;by_cases e:i<N
   .exact ih i e Q U
   have t1:=iq (ins:=ins) O Q (l:=2* (i:Int)+2) (by omega) (by omega);have Z:=iq (ins:=I) O Q (l:=2* (i:Int)+2) (by omega) (by omega);by_cases Y:0<=(g.getD i (0,0)).1
   .rw [v8 Y]at t1 Z;have lit:∀l,(l=(g.getD i (0,0)).1\/l=(g.getD i (0,0)).2)->gj g I l=gj g ins l:=by
     intro l hl;obtain⟨a,b,c⟩:=kids i Q U Y l hl;rcases c with c|c
     .rw [gL c,gL c]
     .by_cases l2:l<2
      .rw [gL l2,gL l2]
      .rw [V I l (by omega) (by omega),V ins l (by omega) (by omega),ih (l / 2 - 1).toNat (by omega) (by omega) (by rw[show (l / 2 - 1).toNat+1=(l / 2).toNat by omega];exact c)]
    rw[t1,Z,lit _ (.inl rfl),lit _ (.inr rfl)]
   .rw [r8 Y]at t1 Z;have ei:=AW g (vs (dK g cs) g.length) (AV g cs ins) (i:=i) (by omega) (t:=g.length) Q;rw[<- X]at ei;have e2:=tv i Q U;unfold DH at e2;rw[Z,ei,<- e2];rw[show ((2* (i:Int)+2) % 2==1)=false by simp<;>omega];rcases um (AV g cs ins) ((vs (dK g cs) g.length).getD i 0) with e|e|e<;>rw[e]<;>decide
 refine⟨?_,λi hi U=>by rw[tv i hi U,same (i+1) i (by omega) hi U]⟩;unfold ik at ha ⊢;rw[K']at ha ⊢;intro c hc;have h1:=ha c hc;rw[Xk]at h1 ⊢;obtain⟨l,hl,ht⟩:=h1;refine⟨l,hl,?_⟩;rw[<- ht];rcases vd h (WB _ hc) l hl with rfl|rfl| ⟨a,b,d⟩
 .rw [gL (by decide),gL (by decide)]
 .rw [gL (by decide),gL (by decide)]
 .rw [V I l a b,V ins l a b,same _ _ (Nat.lt_succ_self _) (by omega) (by rw[show (l / 2 - 1).toNat+1=(l / 2).toNat by omega];exact d)]
end Go.Proofs.YtbdghpjnifjlmaaGreat.W
namespace Go.Proofs.YtbdghpjnifjlmaaGreat.W.Rk
open Go Go.Fw Go.RowKit Go.TsP
open Go.Proofs.Tryz (prog)
open Go.IntKind (i64)
section
structure Jg(w:World)(pc:sn)(cl:lq)(pv:sn)(v:List Int):Prop where
 c:∃hs,V2 sT w pc hs cl
 v:Vw sT w pv v
theorem Jg.grow{w w':World}{pc pv:sn}{cl:lq}{v:List Int}(h:Jg w pc cl pv v)(g:ak w w'):Jg w' pc cl pv v:=by
 obtain⟨⟨hs,h1⟩,I⟩:=h;exact⟨⟨hs,h1.grow g⟩,I.grow g⟩
noncomputable abbrev tV(g:List (Int × Int))(cs:lq):List Int:=vs (dK g cs) g.length
noncomputable abbrev tK(g:List (Int × Int))(cs:lq):Int:=(eY (dK g cs) g.length:Nat)
noncomputable abbrev tC(g:List (Int × Int))(cs:lq):lq:=rR (tV g cs) (zO g cs (dK g cs))
theorem LP{w:World}{p q:sn}{g:List (Int × Int)}{n c m d:Nat}{hs:List Sl}{cs:lq}(hn:n=g.length)(hg:n<=4096)(hm:m=cs.length)(hx:m<=4096)(h:Vr 2 nB w p g)(hc:V2 sT w q hs cs):
 Calls prog 43 #[.slice p n c,.slice q m d] w λe w'=> ((gq g cs=false/\e=.returned (.tuple #[.agg #[.i 0,.slice none 0 0,.slice none 0 0],.i 1]))\/
  (gq g cs=true/\∃pc cc pv cv,e=.returned (.tuple #[.agg #[.i (tK g cs),.slice pc (tC g cs).length cc,.slice pv (tV g cs).length cv],.i 0])/\Jg w' pc (tC g cs) pv (tV g cs)))/\ak w w':=by
 subst hn hm;refine jW.aj ?_;intro n1 w2 h2;have H1:=h2.has;have e1:=h2.num;have z2:=jz.size h2;refine(LX (h.grow h2.mod) rfl (by omega) (hc.grow h2.mod) rfl (by omega)).mono ?_;rintro e w3⟨rfl,g3⟩;have G3:=h2.mod.trans g3;have z3:=g3.size;refine⟨_,rfl,ah (λs=>?_) (λs=>?_)⟩<;>simp only[WU,Xx]at s
 .refine aX (H1.grow g3) rfl rfl λw5 h5 m5=>⟨_,_,_,_,_,_,_,gG h5,.inl ⟨s,rfl⟩,G3.then m5 λk U e=>by omega⟩
 refine(DW rfl (by omega) rfl (by omega) s (h.grow G3) (hc.grow G3)).mono ?_;rintro e X⟨⟨r,cr,d8,rfl,O,b4,ez⟩,g9⟩;have G9:=G3.trans g9;have z9:=g9.size;have az:∀k,k<=g.length->d8.getD k false=dK g cs k:=λk U=>by
  exact W4.2 ((ez k U).trans lL.symm)
 refine⟨_,_,_,rfl,?_⟩;intro I d' a6;have gu:=a6.num;have B0:oJ d' I ⟨0,none,0,[],[],none,0,[]⟩:=⟨a6.has,OV.nil,Ow.nil _ _ _,(by rintro(e| ⟨s,hs,_⟩)<;>simp[aF]at*),(by simp[aF]),(by simp[aF])⟩
 have F0:∀k,Bd.bK ⟨0,none,0,[],[],none,0,[]⟩ I k->X.heap.size<=k:=by
  rintro k (rfl| (e| ⟨s,hs,_⟩)|e)
  .omega
  .simp [aF]at e
  .simp at hs
  .simp [aF]at e
 refine⟨λv w' z=>∃ (t:Nat) (x:Bd),v=t/\t<=g.length/\oJ w' I x/\x.k=eY (dK g cs) t/\x.v=vs (dK g cs) t/\x.cl= []/\(∀k,x.bK I k->X.heap.size<=k)/\ak X w'/\z+t=g.length,
  ⟨_,0,_,rfl,xc _,B0,rfl,rfl,rfl,F0,a6.mod,rfl⟩,?_⟩
 clear B0 F0;rintro v fd z _⟨t,x,rfl,ht,B,Z,Q,V,F,G,hz⟩;have b3:=O.grow G;refine ah (λq1=>?_) (λq1=>?_)<;>simp only[x7,x8]at q1
 .have J:t<g.length:=by omega
  have ew:i64.wrap ((t:Int)+1)=((t+1:Nat):Int):=by rw[ao (by omega) (by omega)];omega
  have fu:x.v.length=t:=by rw[Q,DQ]
  have ep:=sO (dK g cs) t;rw[ew];refine b3.ix false (by omega) b4.symm (by omega) λa e=>⟨_,e,?_⟩
  rw[tn,az (t+1) (by omega)];refine ah (λq2=>?_) (λq2=>?_)
  .have ek:i64.wrap (x.k+1)=((eY (dK g cs) (t+1):Nat):Int):=by
    rw[Z,ao (by omega) (by omega)];rw[oK,v8 q2];omega
   refine⟨_,rfl,_,xj B.me rfl,_,rfl,EV B.me rfl rfl λb5 d5 ce=>?_⟩;have B2:oJ b5 I {x with k:=i64.wrap (x.k+1)}:=B.Vp d5 ce;have eb:ak X b5:=G.then ce λk U e=>by have:=F I (.inl rfl);omega
   refine⟨_,rfl,_,xj B2.me rfl,_,rfl,_,_,_,bN B2.me rfl,?_⟩;refine JK B2 F eb _ (by simp only;omega) λw' x' B' k' c' v' F' G'=>⟨z - 1,by omega,t+1,x',rfl,J,B',?_,?_,by rw[c'];exact V,F',G',by omega⟩
   .rw [k'];exact ek
   .rw [v',Jm,v8 q2,<- Q];simp only;rw[ek]
  .refine ⟨_,rfl,_,_,_,bN B.me rfl,?_⟩;refine JK B F G _ (by omega) λw' x' B' k' c' v' F' G'=>⟨z - 1,by omega,t+1,x',rfl,J,B',?_,?_,by rw[c'];exact V,F',G',by omega⟩
   .rw [k',Z,oK,q2];rfl
   .rw [v',Jm,q2,<- Q];rfl
 have et:t=g.length:=by omega
 subst et;have sm:=M0 (dK g cs) (n:=g.length) (by omega);have fy:=sO (dK g cs) g.length;have el:=rB s;have bu:=Dx g (dK g cs);refine⟨λv w' z=>∃ (t:Nat) (x:Bd),v=t/\t<=g.length/\oJ w' I x/\x.k=tK g cs/\x.v=tV g cs/\x.cl=rR (tV g cs) (DV g (dK g cs) t)/\(∀k,x.bK I k->X.heap.size<=k)/\ak X w'/\z+t=g.length,
  ⟨_,0,x,rfl,xc _,B,Z,Q,by rw[V];rfl,F,G,rfl⟩,?_⟩
 clear B Z Q V F G b3 hz;rintro v b8 z _⟨t,x,rfl,ht,B,Z,Q,V,F,G,hz⟩;refine ah (λq1=>?_) (λq1=>?_)<;>simp only[x7,x8]at q1
 .have J:t<g.length:=by omega
  have ew:i64.wrap ((t:Int)+1)=((t+1:Nat):Int):=by rw[ao (by omega) (by omega)];omega
  rw[ew];have dc:=jC el J;refine QY (h.grow (G9.trans G)) rfl J λa x0 x1=>⟨_,_,⟨x0,x1,trivial⟩,?_⟩
  intro n50 fi aw;have fk:=aw.num;have gk:=jz.size aw;refine aX aw.has rfl rfl λbg ag es=>?_;have aa:ak b8 bg:=aw.mod.cE es (by omega);have cg:=G.trans aa;have f':=aa.size;have d9:=B.lt;have gs:=Cn g (dK g cs) t;generalize bY:g.getD t (0,0)=gt at*
  obtain⟨A,C⟩:=gt;have ag:bO bg n50 #[.i A,.i C]:=ag;have same:∀w',ak b8 w'->Jo g (dK g cs) t= []->∃bx:Nat,bx<z/\∃ (t':Nat) (x:Bd),((t+1:Nat):Int)=t'/\t'<=g.length/\oJ w' I x/\x.k=tK g cs/\x.v=tV g cs/\x.cl=rR (tV g cs) (DV g (dK g cs) t')/\(∀k,x.bK I k->X.heap.size<=k)/\ak X w'/\bx+t'=g.length:=λw' gg ef=>
   ⟨z - 1,by omega,t+1,x,rfl,J,B.grow gg,Z,Q,by rw[gs,ef,W9];exact V,F,G.trans gg,by omega⟩
  refine(O.grow cg).ix false (by omega) b4.symm (by omega) λa e=>⟨_,e,?_⟩
  rw[tn,az (t+1) (by omega)];refine ah (λq2=>same _ aa ?_) (λq2=>⟨_,_,⟨ae ag rfl,ae ag rfl,trivial⟩,(Ak A C bg).mono ?_⟩)<;>simp only[WU,Xx]at q2
  .unfold Jo;rw[q2];simp
  rintro e ga⟨rfl,an⟩;refine⟨_,rfl,ah (λq3=>same _ (aa.trans an) ?_) (λq3=>?_)⟩<;>simp only[WU,Xx,x7,x8,I9]at q3
  .unfold Jo;rw[bY,r8 (λhh=>q3 hh.2)]
  have hb:=kX dc q3;simp only at hb;have gc:Jo g (dK g cs) t= [[2* (t:Int)+3,A],[2* (t:Int)+3,C],[2* (t:Int)+2,dU A,dU C]]:=by
   unfold Jo;rw[bY,v8 ⟨q2,q3⟩]
  have l2:i64.wrap (2* ((t+1:Nat):Int))=2* (t:Int)+2:=by rw[ao (by omega) (by omega)];omega
  have f1:K_ (2* (t:Int)+2)=2* (t:Int)+3:=by unfold K_;rw[v8 (by omega)];omega
  have fl:∀y,K_ y=dU y:=λ_=>rfl;rw[l2,Sd (by omega) (by omega),f1];have b_:=cg.trans an;have bf:=ag.grow an;have en:=B.grow (aa.trans an);have gd:=an.size;have e2:x.cl.length<=3*t:=by rw[V];exact Wl (vN _ _) (bu t)
  refine⟨_,ae bf rfl,?_⟩;intro dq dh Y;have L1:d_ aB dh (some ⟨dq,0,none⟩) 2 [2* (t:Int)+3,A]:=Ow.da Y.at (vy _) (by unfold maxLen;omega) rfl rfl;refine(mf (en.grow Y.mod) (by rw[Q];exact sm) (by omega) L1.vw rfl (λy hy=>by simp at hy;rcases hy with rfl|rfl<;>omega) (by simp)).mono ?_;rintro e eg⟨rfl,x2,B2,k2,v2,c2,f2,m2⟩;have cb:ak X eg:=(b_.trans Y.mod).then m2 λk U e=>by have:=F k e;omega
  have F2:∀k,x2.bK I k->X.heap.size<=k:=λk U=>by
   rcases f2 k U with e|e
   .exact F k e
   .have:=(b_.trans Y.mod).size;omega
  have ay: ¬x.bK I n50:=λe=>by have:=d9 n50 e;omega
  have b6:=(bf.vU Y).keep m2 ay;refine⟨rfl,_,ae b6 rfl,?_⟩;intro ed ec ac;have L2:d_ aB ec (some ⟨ed,0,none⟩) 2 [2* (t:Int)+3,C]:=Ow.da ac.at (vy _) (by unfold maxLen;omega) rfl rfl;have eT:x2.cl.length<=3*t+1:=by
   rw[c2,I'];have:(uP x.v [2* (t:Int)+3,A]).toList.length<=1:=by cases uP x.v [2* (t:Int)+3,A]<;>simp
   omega
  refine(mf (B2.grow ac.mod) (by rw[v2,Q];exact sm) (by omega) L2.vw rfl (λy hy=>by simp at hy;rcases hy with rfl|rfl<;>omega) (by simp)).mono ?_;rintro e ey⟨rfl,x3,B3,k3,v3,c3,f3,m3⟩;have b':ak X ey:=(cb.trans ac.mod).then m3 λk U e=>by have:=F2 k e;omega
  have F3:∀k,x3.bK I k->X.heap.size<=k:=λk U=>by
   rcases f3 k U with e|e
   .exact F2 k e
   .have:=(cb.trans ac.mod).size;omega
  have a8: ¬x2.bK I n50:=λe=>by
   rcases f2 n50 e with e|e
   .exact ay e
   .have:=bf.lt;have:=Y.mod.size;omega
  have b9:=(b6.vU ac).keep m3 a8;refine⟨rfl,_,ae b9 rfl,_,ae b9 rfl,?_⟩;(try dsimp only);rw[Sd q3 (by omega),Sd hb.1 (by omega),fl,fl];intro er d6 av;have L3:d_ aB d6 (some ⟨er,0,none⟩) 3 [2* (t:Int)+2,dU A,dU C]:=Ow.da av.at (vy _) (by unfold maxLen;omega) rfl rfl;have eN:x3.cl.length<=3*t+2:=by
   rw[c3,I'];have:(uP x2.v [2* (t:Int)+3,C]).toList.length<=1:=by cases uP x2.v [2* (t:Int)+3,C]<;>simp
   omega
  have fA:0<=dU A/\dU A<=2*t+1:=by unfold dU;split<;>omega
  have fC:0<=dU C/\dU C<=2*t+1:=by unfold dU;split<;>omega
  refine(mf (B3.grow av.mod) (by rw[v3,v2,Q];exact sm) (by omega) L3.vw rfl (λy hy=>by simp at hy;rcases hy with rfl|rfl|rfl<;>omega) (by simp)).mono ?_;rintro e fP⟨rfl,x4,B4,k4,v4,c4,f4,m4⟩;refine⟨rfl,z - 1,by omega,t+1,x4,rfl,J,B4,by rw[k4,k3,k2,Z],by rw[v4,v3,v2,Q],?_,λk U=>?_,(b'.trans av.mod).then m4 λk U e=>by have:=F3 k e;omega,by omega⟩
  .rw [c4,c3,c2,V,v3,v2,Q,gs,gc,uT];rw[show ([[2* (t:Int)+3,A],[2* (t:Int)+3,C],[2* (t:Int)+2,dU A,dU C]]:lq)= [[2* (t:Int)+3,A]]++ ([[2* (t:Int)+3,C]]++ [[2* (t:Int)+2,dU A,dU C]]) from rfl,uT,uT,vA,vA,vA];simp only[WH]
  .rcases f4 k U with e|e
   .exact F3 k e
   .have:=(b'.trans av.mod).size;omega
 have et:t=g.length:=by omega
 subst et;refine⟨λv w' z=>∃ (t:Nat) (x:Bd),v=t/\t<=cs.length/\oJ w' I x/\x.k=tK g cs/\x.v=tV g cs/\x.cl=rR (tV g cs) (DV g (dK g cs) g.length++cs.take t)/\(∀k,x.bK I k->X.heap.size<=k)/\ak X w'/\z+t=cs.length,
  ⟨_,0,x,rfl,xc _,B,Z,Q,by rw[V];simp,F,G,rfl⟩,?_⟩
 clear B Z Q V F G hz;rintro v fs z _⟨t,x,rfl,ht,B,Z,Q,V,F,G,hz⟩;refine ah (λq1=>?_) (λq1=>?_)<;>simp only[x7,x8]at q1
 .have J:t<cs.length:=by omega
  have eK:=bu g.length;refine ID (hc.grow (G9.trans G)) rfl J λa sl e _ ej gm hv=>⟨_,_,_,e,?_⟩
  have ep:x.cl.length<=3*g.length+cs.length:=by
   rw[V];refine Wl (vN _ _) ?_;rw[I',y6];omega
  have gf:(cs.getD t []).length<=4096:=by
   have h':=s;simp only[gq,ts,K']at h';have:=h'.2 (cs.getD t []) (by simp[List.getD,J]);simp only[tP,ts,x7]at this;exact this.2
  refine(mf B (by rw[Q];exact sm) (by omega) hv ej (λy hy=>?_) (by omega)).mono ?_
  .obtain ⟨j,hj⟩:=XB hy;have du:=(Ws.1 hj).1;have:=D8 s J du;rw[show (cs.getD t []).getD j 0=y by simp only[vx]at hj ⊢;rw[hj];rfl]at this;omega
  .rintro e gb ⟨rfl,x2,B2,k2,v2,c2,f2,m2⟩;refine⟨rfl,z - 1,by omega,t+1,x2,by rw[ao (by omega) (by omega)];omega,J,B2,by rw[k2,Z],by rw[v2,Q],?_,λk U=>?_,G.then m2 λk U e=>by have:=F k e;omega,by omega⟩
   .rw [c2,V,Q,Wo,<- WH];have:cs[t]? =some (cs.getD t []):=by simp[List.getD,J]
    rw[this,Xn,J3]
   .rcases f2 k U with e|e
    .exact F k e
    .have:=G.size;omega
 have et:t=cs.length:=by omega
 subst et;rw[L0]at V;have a_:x.cl=tC g cs:=V;have e0:((qw I).add 0).add 0=⟨I,0,none⟩:=by rw[cA,cA]
 have dd:(qw I).add 0=⟨I,0,none⟩:=by rw[cA]
 refine⟨_,rfl,_,_,_,_,by rw[e0];exact⟨ae B.me rfl,ae B.me rfl,trivial⟩,(eP B.c.v2 rfl).mono ?_⟩;rintro e eA⟨rfl,bb⟩;have a':=B.grow bb;rw[a_,Z,Jz s (by omega) (by omega)];refine⟨_,rfl,bq rfl ⟨_,rfl,_,_,_,_,_,_,_,by rw[dd];exact gG a'.me,?_⟩⟩;have dk:bO eA n1 _:=(((H1.grow g3).grow g9).grow G).grow bb;refine aX dk rfl rfl λgA dT aT=>⟨_,_,_,_,_,_,_,gG dT,.inr ⟨s,x.pc,x.cc,x.pv,x.cv,?_,⟨x.hs,?_⟩,?_⟩,((G9.trans G).trans bb).then aT λk U e=>by omega⟩
 .rw [Z,a_,Q]
 .rw [<- a_];exact(a'.c.keep aT λk U e=>by have:=F k (.inr (.inl U));omega).v2
 .rw [<- Q];exact(a'.v.keep aT λk U e=>by have:=F k (.inr (.inr U));omega).vw
end
section
theorem E4{w:World}{v:Value}(h:O' w (.sl (.cons (.int .i64) (.cons (.int .i64) .nil))) v):∃p n c g,v=.slice p n c/\n=g.length/\n<=maxLen/\Vr 2 nB w p g:=by
 rcases h with rfl| ⟨a,len,cap,rfl,h1,J,Q⟩
 .exact ⟨none,0,0,[],rfl,rfl,xc _,Vr.nil⟩
 .have:∀i,∃x:Int × Int,i<len->aM w (a.add (i*2)) 0 (nB x):=by
   intro i;by_cases hi:i<len
   .obtain ⟨V,_,O,_,_,rfl,⟨d,rfl,_⟩,_,_,rfl,⟨v,rfl,_⟩,rfl⟩:=Q i hi;exact⟨(d,v),λ_=>O⟩
   .exact ⟨(0,0),λh=>absurd h hi⟩
  refine⟨some a,len,cap,(List.range len).map λi=>Classical.choose (this i),rfl,by simp,Wl h1 J,λj U=>⟨a,rfl,?_⟩⟩;have I:j<len:=by simpa using U
  have:=Yk (this j) I;simpa using this
end
section
theorem NL{w:World}{p q r:sn}{g:List (Int × Int)}{n c k b:Nat}{k0:Int}{p1:sn}{n1 c1 nv cv:Nat}{v m:List Int}(hn:n=g.length)(hg:n<=4194304)(h:Vr 2 nB w p g)(hv:Vw sT w q v)(aT:nv=v.length)(hm:Vw sT w r m)(hk:k=m.length)(bf:k<=maxLen):
 Calls prog 44 #[.slice p n c,.agg #[.i k0,.slice p1 n1 c1,.slice q nv cv],.slice r k b] w λe w'=> ((iT g=true/\v.length=g.length/\∃po co,e=.returned (.slice po (uL g v m g.length).length co)/\BA bA w' po co (uL g v m g.length))\/(¬(iT g=true/\v.length=g.length)/\e=.returned (.slice none 0 0)))/\ak w w':=by
 subst hn aT;refine mU.aj ?_;intro n1 w2 h2;have H:=h2.has;refine(pC (h.grow h2.mod) rfl (by unfold maxLen;omega)).mono ?_;rintro e w3⟨rfl,g3⟩;have G3:=h2.mod.trans g3;refine⟨_,rfl,ah (λs=>?_) (λs=>?_)⟩
 .refine ⟨.inr ⟨λhh=>?_,rfl⟩,G3⟩;rw[hh.1]at s;simp at s
 have a_:iT g=true:=by
  cases hh:iT g with
  |true=>rfl
  |false=>rw[hh]at s;simp at s
 have H3:=H.grow g3;refine⟨_,_,_,ae H3 rfl,ah (λs2=>?_) (λs2=>?_)⟩
 .refine ⟨.inr ⟨λhh=>?_,rfl⟩,G3⟩;rw[hh.2]at s2;simp at s2
 have ax:v.length=g.length:=by
  have:(v.length:Int)=g.length:=by simpa using s2
  omega
 refine⟨λpo no co vv w' z=>∃t:Nat,no=(uL g v m t).length/\vv=t/\t<=g.length/\BA bA w' po co (uL g v m t)/\(∀j,aF po=some j->w3.heap.size<=j)/\ak w3 w'/\z+t=g.length,⟨_,0,rfl,rfl,xc _,Ow.nil _ _ _,by simp[aF],aE.refl _,rfl⟩,?_⟩;rintro po no co vv aw z _⟨t,rfl,rfl,ht,O,fr,G,hz⟩;have Q:=G3.trans G;refine ah (λs3=>?_) (λs3=>?_)<;>simp only[x7,x8]at s3
 .have Y:t<g.length:=by omega
  have J:=wY g v m t;have ev:i64.wrap ((t:Int)+1)=((t+1:Nat):Int):=by rw[ao (by omega) (by omega)];omega
  rw[ev];refine QY (h.grow Q) rfl Y λa x0 x1=>⟨_,_,⟨x0,x1,trivial⟩,?_⟩
  generalize hx:g.getD t (0,0)=x at*
  obtain⟨A,B⟩:=x;intro n15 b5 Z;refine aX Z.has rfl rfl λV U bb=>?_;have a':ak aw V:=Z.mod.cE bb (by have:=Z.num;omega);have U:bO V n15 #[.i A,.i B]:=U;refine⟨_,_,⟨ae U rfl,ae U rfl,trivial⟩,(Ak A B V).mono ?_⟩;rintro e cg⟨rfl,a8⟩;have I:=a'.trans a8;have hlen:=qe g v m t;have ce:=pe g t;refine⟨_,rfl,ah (λs4=>?_) (λs4=>?_)⟩<;>simp only[WU,Xx,x7,x8,I9]at s4
  .have hA:A<0:=by omega
   rw[v8 (show (A,B).1<0 from hA)]at J;refine⟨_,_,_,ae ((H3.grow G).grow I) rfl,(hv.grow (Q.trans I)).ix 0 (by omega) rfl (by omega) λa e=>⟨_,e,(xQ (hm.grow (Q.trans I)) hk bf _).mono ?_⟩⟩;rw[tn];rintro e b6⟨rfl,ap⟩;refine⟨_,rfl,?_⟩;intro n27 cp X;have an:=((G.trans I).trans ap).trans X.mod;refine(((O.grow I).grow ap).grow X.mod).jS rH _ X.has rfl rfl Em (by omega) λb3 b' b9 az ay hp b4=>⟨z - 1,by omega,t+1,by rw[J];simp,rfl,Y,by rw[J];exact az,λj hj=>?_,an.then ay λj hj e=>by have:=fr j e;omega,by omega⟩
   rcases hp with h1|h1<;>rw[h1]at hj
   .exact fr j hj
   .have:=aO hj;have:=an.size;omega
  .rw [r8 (show ¬(A,B).1<0 from by simp only;omega),W9]at J;exact⟨z - 1,by omega,t+1,by rw[J],rfl,Y,by rw[J];exact O.grow I,fr,G.trans I,by omega⟩
 .have:t=g.length:=by omega
  subst this;exact⟨.inl ⟨a_,ax,po,co,rfl,O⟩,Q⟩
theorem Ek{g:List (Int × Int)}{cs:lq}(h:gq g cs=true):∀t,t<cs.length->∀l∈cs.getD t [],-1073741824<=l/\l<=2*g.length+1:=by
 intro t ht l hl;obtain⟨j,J⟩:=XB hl;have I:=(Ws.1 J).1;have:=D8 h ht I;rw[show (cs.getD t []).getD j 0=l by simp only[vx]at J ⊢;rw[J];rfl]at this;exact⟨by omega,this.2⟩
end
section
def wR(v:List Bool)(l:Int):Bool:=if l<0\/l / 2>v.length then false else rW v l
theorem sf{w:World}{p:sn}{n c:Nat}{v:List Bool}(h:Vw Value.bool w p v)(hn:n=v.length){l:Int}(h1: -1073741824<=l)(O:l<=1073741824):
 Calls prog 90 #[.slice p n c,.i l] w λe w'=>e=.returned (.bool (wR v l))/\ak w w':=by
 subst hn;refine kE.aj ?_;unfold kE.w wR rW;refine ah (λs=>⟨?_,aE.refl w⟩) (λs=>?_)<;>simp only[x7,x8]at s
 .rw [v8 (.inl s)]
 have d1:l.tdiv 2=l / 2:=Wc (by omega);have d2:l.tmod 2=l % 2:=XM (by omega);have w1:i64.wrap (l / 2)=l / 2:=ao (by omega) (by omega);have w2:i64.wrap (l / 2 - 1)=l / 2 - 1:=ao (by omega) (by omega);rw[d1,d2,w1,w2];refine⟨by decide,ah (λJ=>⟨?_,aE.refl w⟩) (λJ=>?_)⟩<;>simp only[x7,x8]at J
 .rw [v8 (.inr J)]
 rw[r8 (show ¬(l<0\/l / 2> (v.length:Int)) by omega)];refine ah (λI=>⟨?_,aE.refl w⟩) (λI=>⟨by decide,?_⟩)<;>simp only[x7,x8]at I
 .rw [v8 I]
 .refine h.ix false (by omega) rfl (by omega) λa e=>⟨_,e,by decide,?_,aE.refl w⟩
  rw[r8 I]
theorem sS{g:List (Int × Int)}{ins:List Bool}{t:Nat}{l:Int}(I:0<=l)(h1:l<=2*t+1):wR (m_ g ins t) l=rW (m_ g ins t) l:=by
 unfold wR;rw[oU,r8 (by omega)]
theorem GS{w:World}{p q:sn}{g:List (Int × Int)}{n c k d:Nat}{ins:List Bool}(hn:n=g.length)(hg:n<=4194304)(h:Vr 2 nB w p g)(hi:Vw Value.bool w q ins)(hk:k=ins.length)(c7:k<=maxLen)(cr:iT g=true):
 Calls prog 88 #[.slice p n c,.slice q k d] w λe w'=> (∃Z co,e=.returned (.slice Z g.length co)/\BA bA w' Z co (m_ g ins g.length)/\∀j,aF Z=some j->w.heap.size<=j)/\ak w w':=by
 subst hn hk;unfold maxLen at c7;refine sE.aj ?_;refine(pC h rfl (by unfold maxLen;omega)).mono ?_;rintro e w1⟨rfl,g1⟩;rw[cr];refine⟨_,rfl,bq rfl ?_⟩;refine⟨λZ no co kk vv w' z=>∃t:Nat,no=t/\kk=dC g t/\vv=t/\t<=g.length/\BA bA w' Z co (m_ g ins t)/\(∀j,aF Z=some j->w.heap.size<=j)/\ak w w'/\z+t=g.length,⟨_,0,rfl,rfl,rfl,xc _,Ow.nil _ _ _,by simp[aF],g1,rfl⟩,?_⟩;rintro Z no co kk vv w9 z _⟨t,rfl,rfl,rfl,ht,O,fr,G,hz⟩;refine ah (λs3=>?_) (λs3=>?_)<;>simp only[x7,x8]at s3
 .have bu:no<g.length:=by omega
  have ev:i64.wrap ((no:Int)+1)=((no+1:Nat):Int):=by rw[ao (by omega) (by omega)];omega
  have d7:=pe g no;have ec:i64.wrap ((dC g no:Int)+1)=((dC g no+1:Nat):Int):=by rw[ao (by omega) (by omega)];omega
  rw[ev,ec];have U:=jC cr bu;have J:=xm g ins no;have aa:=je g no;have vl:=oU g ins no;refine QY (h.grow G) rfl bu λa x0 x1=>⟨_,_,⟨x0,x1,trivial⟩,?_⟩
  unfold E_ at J;generalize hx:g.getD no (0,0)=x at*
  obtain⟨A,B⟩:=x;simp only at J aa;intro az d9 qW;refine aX qW.has rfl rfl λb5 an dd=>?_;have b7:ak w9 b5:=qW.mod.cE dd (by have:=qW.num;omega);have an:bO b5 az #[.i A,.i B]:=an;have push:∀ (w':World) (y:Bool),ak w9 w'->m_ g ins (no+1)=m_ g ins no++ [y]->∀ (kk:Int),kk=dC g (no+1)->∀n25 ap,jz (.cells #[.bool y] 4) w' n25 ap->
        ∃X Q V Y,(Builtin.append_ #[cM,cM] cM #[.slice Z no co,.slice (some (qw n25)) 1 1]).run prog ap=.ok (.slice Q V Y) X/\
        ∃k5:Nat,k5<z/\∃I:Nat,V=I/\kk=dC g I/\((no+1:Nat):Int)=I/\I<=g.length/\BA bA X Q Y (m_ g ins I)/\(∀j,aF Q=some j->w.heap.size<=j)/\ak w X/\k5+I=g.length:=by
   rintro w' y gg hv kk rfl n25 ap bn;have b4:=(G.trans gg).trans bn.mod;refine((O.grow gg).grow bn.mod).jS rH y bn.has rfl vl.symm Em (by omega) λX dA dB dc dk hp d5=>⟨z - 1,by omega,no+1,by omega,rfl,rfl,bu,by rw[hv];exact dc,λj hj=>?_,b4.then dk λj hj e=>by have:=fr j e;omega,by omega⟩
   rcases hp with h1|h1<;>rw[h1]at hj
   .exact fr j hj
   .have:=aO hj;have:=b4.size;omega
  have rest:∀w',ak w9 w'->bO w' az #[.i A,.i B]->aD ([A,B]== [-1,-1])
   (aD (decide ((dC g no:Int)< (ins.length:Int)))
     (aV q ins.length (dC g no:Int) 1 λc1=>
     ∃b9,w'.cell? c1=some (.bool b9)/\
     ∀n25 ap,jz (.cells #[.bool b9] 4) w' n25 ap->
     ∃X Q V Y,(Builtin.append_ #[cM,cM] cM #[.slice Z no co,.slice (some (qw n25)) 1 1]).run prog ap=.ok (.slice Q V Y) X/\
     ∃k5:Nat,k5<z/\∃I:Nat,V=I/\((dC g no+1:Nat):Int)=dC g I/\((no+1:Nat):Int)=I/\I<=g.length/\BA bA X Q Y (m_ g ins I)/\(∀j,aF Q=some j->w.heap.size<=j)/\ak w X/\k5+I=g.length)
     (∀n29 cg,jz (.cells #[.bool false] 4) w' n29 cg->
     ∃bY ar a' aT,(Builtin.append_ #[cM,cM] cM #[.slice Z no co,.slice (some (qw n29)) 1 1]).run prog cg=.ok (.slice ar a' aT) bY/\
     ∃k5:Nat,k5<z/\∃I:Nat,a'=I/\((dC g no+1:Nat):Int)=dC g I/\((no+1:Nat):Int)=I/\I<=g.length/\BA bA bY ar aT (m_ g ins I)/\(∀j,aF ar=some j->w.heap.size<=j)/\ak w bY/\k5+I=g.length))
   (∃cb,w'.cell? ((qw az).add 0)=some (.i cb)/\
     Calls prog 90 #[.slice Z no co,.i cb] w' λe ay=>∃ce,e=.returned (.bool ce)/\
     aD ce
     (∃b6,ay.cell? ((qw az).add 1)=some (.i b6)/\
     Calls prog 90 #[.slice Z no co,.i b6] ay λe bx=>∃cT,e=.returned (.bool cT)/\
     ∀b' cm,jz (.cells #[.bool cT] 4) bx b' cm->
     ∃bi aw bb a8,(Builtin.append_ #[cM,cM] cM #[.slice Z no co,.slice (some (qw b')) 1 1]).run prog cm=.ok (.slice aw bb a8) bi/\
     ∃k5:Nat,k5<z/\∃I:Nat,bb=I/\(dC g no:Int)=dC g I/\((no+1:Nat):Int)=I/\I<=g.length/\BA bA bi aw a8 (m_ g ins I)/\(∀j,aF aw=some j->w.heap.size<=j)/\ak w bi/\k5+I=g.length)
     (∀b8 b_,jz (.cells #[.bool false] 4) ay b8 b_->
     ∃bg ax a_ a6,(Builtin.append_ #[cM,cM] cM #[.slice Z no co,.slice (some (qw b8)) 1 1]).run prog b_=.ok (.slice ax a_ a6) bg/\
     ∃k5:Nat,k5<z/\∃I:Nat,a_=I/\(dC g no:Int)=dC g I/\((no+1:Nat):Int)=I/\I<=g.length/\BA bA bg ax a6 (m_ g ins I)/\(∀j,aF ax=some j->w.heap.size<=j)/\ak w bg/\k5+I=g.length)):=by
   intro w' gg H;refine ah (λs=>?_) (λs=>?_)
   .have s:A= -1/\B= -1:=by simpa using s
    obtain⟨rfl,rfl⟩:=s;rw[r8 (by decide)]at J;rw[v8 (by decide)]at aa;refine ah (λs2=>?_) (λs2=>?_)<;>simp only[x7,x8]at s2
    .refine (hi.grow (G.trans gg)).ix false (by omega) rfl s2 λa e=>⟨_,e,?_⟩
     rw[tn];exact push w' _ gg J _ (by rw[aa])
    .have:ins.getD (dC g no) false=false:=by simp[List.getD,show ins.length<=dC g no by omega]
     rw[this]at J;exact push w' _ gg J _ (by rw[aa])
   .have hA:0<=A:=by
     simp only[BX,W7,x7]at U;rcases U with U|U
     .simp only[YR]at U;obtain⟨rfl,rfl⟩:=U;simp at s
     .exact U.1
    have hb:=kX U hA;simp only at hb;rw[v8 hA]at J;rw[r8 (by omega),XN]at aa;refine⟨_,ae H rfl,(sf (O.grow gg).vw vl.symm (l:=A) (by omega) (by omega)).mono ?_⟩;rintro e ay⟨rfl,cp⟩;rw[sS hA (by omega)];have bf:=gg.trans cp;refine⟨_,rfl,ah (λs2=>?_) (λs2=>?_)⟩
    .refine ⟨_,ae (H.grow cp) rfl,(sf (O.grow bf).vw vl.symm (l:=B) (by omega) (by omega)).mono ?_⟩;rintro e bx⟨rfl,c2⟩;rw[sS hb.1 (by omega)];refine⟨_,rfl,?_⟩;rw[s2,W2]at J;exact push bx _ (bf.trans c2) J _ (by rw[aa];rfl)
    .rw [s2,XY]at J;exact push ay _ bf J _ (by rw[aa];rfl)
  refine⟨?_,?_⟩
  .refine ⟨_,_,⟨ae an.drew rfl,ae an.drew rfl,trivial⟩,(pF _).mono ?_⟩;rintro e c4⟨rfl,av⟩;exact⟨_,_,rfl,_,_,Fq zh _ _ _ _ _ _ _,rest _ (b7.drew.trans av) (an.drew.grow av)⟩
  .refine (pF _).mono ?_;rintro e c4⟨rfl,av⟩;have tz:=an.drew.grow av;exact⟨_,_,rfl,_,_,⟨ae tz rfl,ae tz rfl,trivial⟩,_,_,Fq zh _ _ _ _ _ _ _,rest _ (b7.drew.trans av) tz⟩
 .have:no=g.length:=by omega
  subst this;exact⟨⟨Z,co,rfl,O,fr⟩,G⟩
theorem JV{b:Nat}{p:sn}{n c:Nat}{v:List Bool}{w:World}(H:bO w b #[.slice p n c])(h:Vw Value.bool w p v)(hn:n=v.length){l:Int}(h1: -1073741824<=l)(I:l<=1073741824):
 Calls prog 89 #[.i l,.pointer (some ⟨b,0,none⟩)] w λe w'=>e=.returned (.bool (wR v l))/\ak w w':=by
 refine fK.aj ?_;refine⟨_,_,_,aP H rfl,(sf h hn h1 I).mono ?_⟩;rintro e w2⟨rfl,g⟩;exact⟨_,rfl,rfl,g⟩
theorem GP:f_ prog 89=true:=by kernel_rfl
theorem Ib{w:World}{p q r:sn}{g:List (Int × Int)}{n c m d k b:Nat}{hs:List Sl}{cs:lq}{ins:List Bool}(hn:n=g.length)(hg:n<=4194304)(h:Vr 2 nB w p g)(hc:V2 sT w q hs cs)(hm:m=cs.length)(J:m<=maxLen)(hi:Vw Value.bool w r ins)(hk:k=ins.length)(ar:k<=maxLen)(U:iT g=false\/gq g cs=true):
 Calls prog 45 #[.slice p n c,.slice q m d,.slice r k b] w λe w'=>e=.returned (.bool (iT g && ik g cs ins))/\ak w w':=by
 subst hm;unfold maxLen at J;refine j9.aj ?_;refine(pC h hn (by unfold maxLen;omega)).mono ?_;rintro e w1⟨rfl,Y⟩;rcases U with hf|ht
 .rw [hf];exact⟨_,rfl,bJ rfl ⟨rfl,Y⟩⟩
 have X:=rB ht;rw[X,W2];refine⟨_,rfl,bq rfl ((GS hn hg (h.grow Y) (hi.grow Y) hk ar X).mono ?_)⟩;rintro e w3⟨⟨po,co,rfl,O,_⟩,g3⟩;refine⟨_,_,_,rfl,?_⟩;intro n5 w6 h5;refine aX h5.has rfl rfl λw7 h7 m7=>?_;have g7:ak w3 w7:=h5.mod.cE m7 (by have:=h5.num;omega);have G7:=(Y.trans g3).trans g7;have O7:=O.grow g7;refine⟨λv w' z=>∃t:Nat,v=t/\t<=cs.length/\((cs.take t).all λc=>c.any (gj g ins))=true/\ak w7 w'/\z+t=cs.length,⟨_,0,rfl,xc _,rfl,aE.refl _,rfl⟩,?_⟩;rintro v az z _⟨t,rfl,a_,ha,G,hz⟩;have Q:=G7.trans G;refine ah (λs=>?_) (λs=>?_)<;>simp only[x7,x8]at s
 .have I:t<cs.length:=by omega
  have hb:=Ek ht t I;have aa:∀x∈cs.getD t [],0<=x:=by
   intro x J;obtain⟨j,hj⟩:=XB J;have ap:=(Ws.1 hj).1;have:=D8 ht I ap;rw[show (cs.getD t []).getD j 0=x by simp only[vx]at hj ⊢;rw[hj];rfl]at this;exact this.1
  refine ID (hc.grow Q) rfl I λa sl e _ ag ac hv=>⟨_,_,_,e,(fS hv ag ac GP (gj g ins) λx J w' g'=>?_).mono ?_⟩
  .rw [RE];have e1:gj g ins x=wR (m_ g ins g.length) x:=by
    rw[sS (aa x J) (hb x J).2];rfl
   rw[e1];have:=hb x J;exact JV ((h7.grow G).grow g') ((O7.grow G).grow g').vw (oU _ _ _).symm (by omega) (by omega)
  .rintro e a7 ⟨rfl,V⟩;refine⟨_,rfl,ah (λZ=>⟨?_,Q.trans V⟩) (λZ=>⟨z - 1,by omega,t+1,by rw[ao (by omega) (by omega)];omega,I,ka (d:= []) I ha (by simpa using Z),G.trans V,by omega⟩)⟩;have:ik g cs ins=false:=pY (d:= []) I (by simpa using Z);rw[this]
 .have:t=cs.length:=by omega
  subst this;rw[L0]at ha;refine⟨?_,Q⟩;unfold ik;rw[ha]
end
