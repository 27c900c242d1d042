/- Layer 1: clauses in order, and what is resolved. -/
import Derived.Test.YtenmibfmhccmiaaGreatSortA
import Derived.Test.YtenmibfmhccmiaaGreatFwRead
import Derived.Test.YtenmibfmhccmiaaGreatFwMem
import Derived.Maps.Own
import Derived.Maps.OwnSet
import Derived.Maps.Range
namespace Go.Proofs.YtenmibfmhccmiaaGreat.W
open Go Go.Fw Go.RowKit Go.SoP Go.LiP
open Go.Proofs.Tryz (prog)
section
variable {w:World} {p q:Option Addr} {n c:Nat} {l:List Int}
theorem Cg (h:Vw (Value.int .i64) w p l) (hn:n=l.length) (hm:n<=maxLen) (hl: ∀x∈l,bq x=true):Calls prog fF.id #[.slice p n c] w fun e w'=>e= .returned (.bool (mL l))/\ao w w':=by
 refine fF.ak ?_;have O:=hm;unfold maxLen at O;refine ⟨fun I w' k=> ∃t:Nat,I=t/\t<=l.length/\k=l.length - t/\(∀x∈l.take t,-x ∉ l)/\ao w w',⟨_,0,rfl,Nat.zero_le _,rfl,by simp,aF.refl w⟩,?_⟩;rintro I w1 k _ ⟨t,rfl,ht,rfl,ha,G⟩;refine aj (fun s=> ?_) (fun s=> ⟨?_,G⟩)
 . have s:t<l.length:=by simp at s;omega
   refine (h.grow G).ix 0 (by omega) hn (by omega) fun a e=> ⟨_,e,?_⟩
   rw [Int.toNat_natCast];have hb:=cx (hl _ (bo s));have X:IntKind.i64.wrap (0 - l.getD t 0)= -(l.getD t 0):=by rw [aD (by omega) (by omega)];omega
   rw [X];refine (sL (h.grow G) hn hm _).mono ?_;rintro e w2 ⟨rfl,U⟩;refine ⟨_,rfl,aj (fun J=> ⟨?_,G.trans U⟩) (fun J=> ⟨_,?_,t+1,wN (by omega) (by omega),by omega,rfl,?_,G.trans U⟩)⟩
   . have J: -(l.getD t 0)∈l:=by simpa using J
     have:mL l=true:=List.any_eq_true.2 ⟨_,bo s,by simpa using J⟩;rw [this]
   . omega
   . have J: -(l.getD t 0) ∉ l:=by simpa using J
     intro x Q;rcases (cW s).1 Q with e|e
     . exact ha x e
     . rw [e];exact J
 . have:t=l.length:=by simp at s;omega
   subst this;rw [List.take_length] at ha;have:mL l=false:=by
    rw [<- Bool.not_eq_true];intro h;obtain ⟨x,Q,V⟩:=List.any_eq_true.1 h;exact ha x Q (by simpa using V)
   rw [this]
theorem d6 {W0:World} {l:List Int} (o:da aC w p c l) (G:ao W0 w) (fr: ∀b,aJ p=some b->W0.heap.size<=b) {m k:Nat} {news:List Int} (v:Vw (Value.int .i64) w q news) (hn:n=l.length) (hm:m=news.length) (hlen:l.length+news.length<=1000000) {K:World->Option Addr->Nat->Nat->Prop}
 (U: ∀w' I c',da aC w' I c' (l++news)->ao W0 w'->(∀b,aJ I=some b->W0.heap.size<=b)->K w' I (l++news).length c'):
 ∃w',∃I n' c',(Builtin.append_ #[aI,aI] aI #[.slice p n c,.slice q m k]).run prog w= .ok (.slice I n' c') w'/\K w' I n' c':=by
 refine o.qG c4 v hn hm eV (by omega) fun w2 p2 O o2 m2 J Q=> ?_;refine U w2 p2 O o2 (G.then m2 fun b hb e=> ?_) fun b hb=> ?_
 . have:=fr b e;omega
 . rcases J with rfl|rfl
   . exact fr b hb
   . have:=aO hb;have:=G.size;omega
theorem IU (p:Option Addr):p.map (·.add (0*1))=p:=by cases p<;>simp [Addr.add]
theorem Vw.M0 (h:Vw (Value.int .i64) w p l) {k:Nat} (I:k<=l.length):Vw (Value.int .i64) w p (l.take k):=by
 have:=h.part (i:=0) (m:=k) (by omega)
 rwa [IU,List.drop_zero] at this
theorem Bm (h:Vw (Value.int .i64) w p l) (hn:n=l.length) (hm:n<=100000) (hl: ∀x∈l,bq x=true):Calls prog c_.id #[.slice p n c] w fun e w'=> ∃ (q:Option Addr) (d:Nat),e= .returned (.slice q (aW l).length d)/\da aC w' q d (aW l)/\ao w w'/\(∀b,aJ q=some b->w.heap.size<=b):=by
 refine c_.ak ?_;intro n1 w1 h1;have e1:=h1.num;refine ⟨fun P N C I w' k=> ∃t:Nat,I=t/\t<=n/\k=n - t/\N=(dL l t).length/\da aC w' P C (dL l t)/\ao w w'/\(∀b,aJ P=some b->w.heap.size<=b),⟨_,0,rfl,Nat.zero_le _,rfl,rfl,aY.o0 h1,h1.mod,fun b hb=>by have:=aO hb;omega⟩,?_⟩;rintro P N C I w2 k _ ⟨t,rfl,ht,rfl,rfl,o2,g2,f2⟩;refine aj (fun s=> ?_) (fun s=> ?_)
 . have s:t<n:=by simpa using s
   have sl:t<l.length:=by omega
   have hx:=hl _ (bo sl);have ed:=nX (c:=l) t;have Q:(dL l t).length<=C\/dL l t= []:=by
    rcases o2.un with ⟨_,_,h⟩| ⟨_,_,_,_,h,_⟩
    . exact .inr h
    . exact .inl h
   refine (h.grow g2).ix 0 (by omega) hn (by omega) fun a e=> ⟨_,e,?_⟩
   rw [Int.toNat_natCast];refine (sL o2.vw rfl (by unfold maxLen;omega) _).mono ?_;rintro e w3 ⟨rfl,g3⟩;have G3:=g2.trans g3;have o3:=o2.grow g3;have es:dL l (t+1)=if l.getD t 0∈dL l t then dL l t else BC (dL l t) (l.getD t 0):=rfl
   refine ⟨_,rfl,aj (fun s2=> ?_) (fun s2=> ?_)⟩
   . have s2:l.getD t 0∈dL l t:=by simpa using s2
     rw [if_pos s2] at es;refine ⟨_,?_,t+1,wN (by omega) (by omega),by omega,rfl,by rw [es],by rw [es];exact o3,G3,f2⟩;omega
   . have s2:l.getD t 0 ∉ dL l t:=by simpa using s2
     rw [if_neg s2] at es;have c2: ∀y∈dL l t,bq y=true:=fun y hy=>hl y (List.mem_of_mem_take ((u7 (c:=l) (k:=t) (by omega)).mem y|>.1 hy));have put: ∀ {w4:World} {at_:Nat},ao w w4->at_=jV (dL l t) (l.getD t 0)->da aC w4 P C (dL l t)->
      ∀n24 U,aY (.cells #[] 3) w4 n24 U->
       nZ P (dL l t).length C 1 none (some (at_:Int)) none fun a' a8 a_=>
       ∃ad aw an ar,(Builtin.append_ #[aI,aI] aI #[.slice (some (Addr.mk n24 0 none)) 0 0,.slice a' a8 a_]).run prog U= .ok (.slice aw an ar) ad/\
       aP p n (t:Int) 1 fun c0=>
       ∃b5,ad.cell? c0=some (.int .i64 b5)/\
       ∀V ac,aY (.cells #[.int .i64 b5] 3) ad V ac->
       ∃X av ap ay,(Builtin.append_ #[aI,aI] aI #[.slice aw an ar,.slice (some (Addr.mk V 0 none)) 1 1]).run prog ac= .ok (.slice av ap ay) X/\
       nZ P (dL l t).length C 1 (some (at_:Int)) none none fun bc bu a7=>
       ∃Z O aT az,(Builtin.append_ #[aI,aI] aI #[.slice av ap ay,.slice bc bu a7]).run prog X= .ok (.slice O aT az) Z/\
       ∃k5,k5<n - t/\∃t2:Nat,IntKind.i64.wrap ((t:Int)+1)=t2/\t2<=n/\k5=n - t2/\aT=(dL l t2).length/\da aC Z O az (dL l t2)/\ao w Z/\(∀b,aJ O=some b->w.heap.size<=b):=by
      intro w4 at_ g4 b' o4 n24 U ag;have hp:at_<=(dL l t).length:=by rw [b'];exact uj _ _
      have hC:at_<=C:=by
       rcases Q with h|h
       . omega
       . rw [h] at hp;simp at hp;omega
      have b7:BC (dL l t) (l.getD t 0)=(dL l t).take at_++ [l.getD t 0]++ (dL l t).drop at_:=by rw [b'];rfl
      have d':=ag.num;have s4:=g4.size;have cm:=o4.grow ag.mod;refine fe 0 at_ C rfl rfl rfl (Nat.le_refl _) hC (Nat.zero_le _) ?_;have ep:(if C=0 then P else P.map (·.add (0*1)))=P:=by rw [IU];split<;>rfl
      rw [ep,Nat.sub_zero,Nat.sub_zero];have ov:da aC U (some ⟨n24,0,none⟩) 0 []:=aY.o0 ag;have Y:((dL l t).take at_).length=at_:=by rw [List.length_take];omega
      refine d6 (W0:=w4) ov ag.mod (fun b hb=>by have:=aO hb;omega) (Vw.M0 cm.vw hp) rfl Y.symm (by rw [Y];simp;omega) fun ad di d5 b4 b6 f27=> ?_;rw [List.nil_append] at b4 ⊢;refine ((h.grow (g4.trans b6))).ix 0 (by omega) hn (by omega) fun a e=> ⟨_,e,?_⟩
      rw [Int.toNat_natCast];intro V ac aa;have dk:=aa.num;have cg:Vw (Value.int .i64) ac (some ⟨V,0,none⟩) [l.getD t 0]:=by
       intro j hj;have:j=0:=by simpa using hj
       subst this;exact ⟨_,rfl,ae aa.has rfl⟩
      have c1:((dL l t).take at_++ [l.getD t 0]).length=at_+1:=by rw [List.length_append,Y];rfl
      refine d6 (W0:=w4) (b4.grow aa.mod) (b6.trans aa.mod) f27 cg rfl rfl (by rw [Y];simp;omega) fun X d8 d4 cc b_ f33=> ?_;refine fe at_ (dL l t).length C rfl rfl rfl (Nat.le_refl _) (by rcases Q with h|h;omega;rw [h];exact Nat.zero_le _) hp ?_;have ld:((dL l t).drop at_).length=(dL l t).length - at_:=List.length_drop;have vd:Vw (Value.int .i64) X (if C=at_ then P else P.map (·.add (at_*1))) ((dL l t).drop at_):=by
       by_cases e:at_=(dL l t).length
       . rw [e,List.drop_length];exact Vw.nil
       . have d9:(dL l t).length<=C:=by
          rcases Q with h|h
          . exact h
          . rw [h] at hp e;simp at hp;simp [hp] at e
         rw [if_neg (by omega)];have:=(o4.grow b_).vw.part (i:=at_) (m:=(dL l t).length - at_) (by omega)
         rwa [List.take_of_length_le (by rw [ld];exact Nat.le_refl _)] at this
      refine d6 (W0:=w4) cc b_ f33 vd rfl ld.symm (by rw [c1,ld];omega) fun Z ea dw b8 cp f36=> ?_;rw [<- b7] at b8 ⊢;refine ⟨_,?_,t+1,wN (by omega) (by omega),by omega,rfl,by rw [es],by rw [es];exact b8,g4.trans cp,fun b hb=>by have:=f36 b hb;omega⟩;omega
     refine ⟨fun J w' k=> ∃j:Nat,J=j/\j<=(dL l t).length/\k=(dL l t).length - j/\(∀i,i<j->mM ((dL l t).getD i 0) (l.getD t 0)<0)/\ao w3 w',⟨_,0,rfl,Nat.zero_le _,rfl,fun i hi=>by omega,aF.refl w3⟩,?_⟩;rintro J w4 k _ ⟨j,rfl,hj,rfl,bb,g4⟩;have G4:=G3.trans g4;have o4:=o3.grow g4;refine aj (fun r=> ?_) (fun r=> ?_)
     . have r:j< (dL l t).length:=by simpa using r
       refine o4.drew.ix 0 (by omega) rfl (by omega) fun a e=> ⟨_,e,(h.grow G4).drew.ix 0 (by omega) hn (by omega) fun a e=> ⟨_,e,?_⟩⟩
       rw [Int.toNat_natCast,Int.toNat_natCast];refine (Gt (c2 _ (bo r)) hx _).mono ?_;rintro e w5 ⟨rfl,g5⟩;refine ⟨_,rfl,aj (fun r2=> ⟨_,?_,j+1,wN (by omega) (by omega),by omega,rfl,fun i hi=> ?_,g4.drew.trans g5⟩) (fun r2=> ?_)⟩
       . omega
       . have r2:mM ((dL l t).getD j 0) (l.getD t 0)<0:=by simpa using r2
         by_cases e:i=j
         . subst e;exact r2
         . exact bb i (by omega)
       . have r2: ¬mM ((dL l t).getD j 0) (l.getD t 0)<0:=by simpa using r2
         exact put (G4.drew.trans g5) (xJ bb hj fun _=>r2) (o4.drew.grow g5)
     . have r:j=(dL l t).length:=by simp at r;omega
       exact put G4.drew (xJ bb hj fun h=>by omega) o4.drew
 . have s:t=l.length:=by simp at s;omega
   subst s;exact ⟨P,C,rfl,o2,g2,f2⟩
theorem l6 (h:Vw (Value.int .i64) w p l) (hn:n=l.length) (hm:n<=100000) (hl: ∀x∈l,bq x=true):Calls prog c_.id #[.slice p n c] w fun e w'=> ∃ (q:Option Addr) (d:Nat),e= .returned (.slice q (aW l).length d)/\da aC w' q d (aW l)/\ao w w':=by
 refine (Bm h hn hm hl).mono ?_;rintro e w' ⟨q,d,rfl,o,g,_⟩;exact ⟨q,d,rfl,o,g⟩
end
section
variable {w:World} {p q:Option Addr} {n c:Nat} {l:List Int}
theorem Hk (o:da aC w p c l) (hn:n=l.length) (hm:n<=100000) (hl: ∀x∈l,bq x=true) {K:Ending->World->Prop}
 (O: ∀w',da aC w' p c (aW l)->aF (Bk p) w w'->K (.returned (.slice p (aW l).length c)) w'):
 Calls prog jd.id #[.slice p n c,.func (.func g_.id) #[] #[]] w fun e w1=>e= .returned (.tuple #[])/\Calls prog ck.id #[.slice p n c] w1 K:=by
 have X:Cx w p n l g_.id #[] mM:=by
  refine ⟨hn,by omega,Cy,fun x U y J w' _=> ?_,qW⟩;have:(#[]++ #[Value.int .i64 x,.int .i64 y]++ #[]:Array Value)= #[.int .i64 x,.int .i64 y]:=by simp
  rw [this];exact EK (hl x U) (hl y J) w'
 refine (yS X o).mono ?_;rintro e w1 ⟨rfl,l1,o1,m1,I,Q⟩;refine ⟨rfl,(Cw o1 (by rw [hn,I.length_eq]) (by omega)).mono ?_⟩;rintro e w2 ⟨rfl,o2,m2⟩;have:tS l1 l1.length=aW l:=(I4 I Q).LH (cC l);rw [this] at o2 ⊢;exact O w2 o2 (m1.trans m2)
theorem D1 {l:List Int} (h:iy l=true): ∀x∈l,bq x=true:=(cX h).1
theorem F_ (hl: ∀x∈l,bq x=true): ∀x∈aW l,bq x=true:=fun x I=>hl x (((cC l).mem x).1 I)
theorem Ec (h:Vw (Value.int .i64) w p l) (hn:n=l.length) (hm:n<=maxLen):Calls prog mU.id #[.slice p n c] w fun e w'=> ∃ (q:Option Addr) (d:Nat) (m:List Int),m=(if iy l then aW l else [])/\e= .returned (.tuple #[.slice q m.length d,.bool (iy l && mL l)])/\da aC w' q d m/\ao w w'/\(∀b,aJ q=some b->w.heap.size<=b):=by
 refine mU.ak ?_;refine (fR h hn hm).mono ?_;rintro e w1 ⟨rfl,Q⟩;cases hc:iy l with
 |false=>exact ⟨_,rfl,cu rfl ⟨none,0,[],rfl,rfl,Ow.nil _ _ _,Q,fun b e=>by simp [aJ] at e⟩⟩
 |true=>
 have O:=D1 hc;have hlen:=(cX hc).2;refine ⟨_,rfl,bm rfl ((iO (h.grow Q) hn (by omega)).mono ?_)⟩;rintro e w2 ⟨q,d,rfl,o2,g2,f2⟩;refine ⟨_,_,_,rfl,Hk o2 rfl (by omega) O fun w4 o4 m4=> ?_⟩;have g4:ao w w4:=(Q.trans g2).then m4 fun b hb e=>by
  have:=f2 b e;have:=Q.size;omega
 have fq: ∀b,aJ q=some b->w.heap.size<=b:=fun b e=>by have:=f2 b e;have:=Q.size;omega
 have ag:=nN l;have nz: ∀x∈l,x≠0:=fun x hx=> (cx (O x hx)).1;have ta:=GP (cC l) nz;refine ⟨_,_,_,rfl,fun I w' k=> ∃t:Nat,I=t/\1<=t/\(∀i,0<i->i<t->i< (aW l).length->(aW l).getD i 0≠ -((aW l).getD (i - 1) 0))/\k=(aW l).length - t/\da aC w' q d (aW l)/\ao w w',⟨_,1,rfl,Nat.le_refl _,fun i V Z=>by omega,rfl,o4,g4⟩,?_⟩;rintro I w5 k _ ⟨t,rfl,t1,ha,rfl,U,X⟩;refine aj (fun s=> ?_) (fun s=> ?_)
 . have s:t< (aW l).length:=by simpa using s
   have e1:IntKind.i64.wrap ((t:Int) - 1)=((t - 1:Nat):Int):=wN (by omega) (by omega);rw [e1];refine U.drew.ix 0 (by omega) rfl (by omega) fun a e=> ⟨_,e,U.drew.ix 0 (by omega) rfl (by omega) fun a e=> ⟨_,e,?_⟩⟩
   rw [Int.toNat_natCast,Int.toNat_natCast];have hb:=cx (F_ O _ (bo (l:=aW l) (t:=t - 1) (by omega)));have ew:IntKind.i64.wrap (0 - (aW l).getD (t - 1) 0)= -((aW l).getD (t - 1) 0):=by rw [aD (by omega) (by omega)];omega
   rw [ew];refine aj (fun J=> ?_) (fun J=> ⟨_,?_,t+1,wN (by omega) (by omega),by omega,fun i V Z Y=> ?_,rfl,U.drew,X.drew⟩)
   . have J:(aW l).getD t 0= -((aW l).getD (t - 1) 0):=by simpa using J
     have:mL l=true:=ta.2 ⟨t,by omega,s,J⟩;exact ⟨q,d,aW l,rfl,by rw [this];rfl,U.drew,X.drew,fq⟩
   . omega
   . have J:(aW l).getD t 0≠ -((aW l).getD (t - 1) 0):=by simpa using J
     by_cases e:i=t
     . subst e;exact J
     . exact ha i V (by omega) Y
 . have s:(aW l).length<=t:=by simp at s;omega
   have:mL l=false:=by
    rw [<- Bool.not_eq_true];intro h;obtain ⟨i,V,Z,Y⟩:=ta.1 h;exact ha i V (by omega) Z Y
   exact ⟨q,d,aW l,rfl,by rw [this];rfl,U,X,fq⟩
def wo (l:List Int) (x:Int):List Int:=l.filter fun y=>y !=x
theorem DO (h:Vw (Value.int .i64) w p l) (hn:n=l.length) (hm:n<=maxLen):Calls prog mU.id #[.slice p n c] w fun e w'=> ∃ (q:Option Addr) (d:Nat) (m:List Int),m=(if iy l then aW l else [])/\e= .returned (.tuple #[.slice q m.length d,.bool (iy l && mL l)])/\da aC w' q d m/\ao w w':=
 (Ec h hn hm).mono fun _ _ ⟨q,d,m,I,J,o,g,_⟩=> ⟨q,d,m,I,J,o,g⟩
theorem IA {t:Nat} {x:Int} (h:t<l.length):wo (l.take (t+1)) x=wo (l.take t) x++ (if l.getD t 0 !=x then [l.getD t 0] else []):=by
 unfold wo;rw [List.take_add_one,List.filter_append];have:l[t]? =some (l.getD t 0):=by simp [List.getD,h]
 rw [this];simp only [Option.toList_some,List.filter_cons,List.filter_nil]
theorem Ct {x:Int}:(wo l x).length<=l.length:=List.length_filter_le _ _
theorem B2 (h:Vw (Value.int .i64) w p l) (hn:n=l.length) (hm:n<=100000) (x:Int):Calls prog dh.id #[.slice p n c,.int .i64 x] w fun e w'=> ∃ (q:Option Addr) (d:Nat),e= .returned (.slice q (wo l x).length d)/\da aC w' q d (wo l x)/\ao w w'/\(∀b,aJ q=some b->w.heap.size<=b):=by
 refine dh.ak ?_;intro n1 w1 h1;have e1:=h1.num;refine ⟨fun P N C I w' k=> ∃t:Nat,I=t/\t<=n/\k=n - t/\N=(wo (l.take t) x).length/\da aC w' P C (wo (l.take t) x)/\ao w w'/\(∀b,aJ P=some b->w.heap.size<=b),⟨_,0,rfl,Nat.zero_le _,rfl,rfl,aY.o0 h1,h1.mod,fun b hb=>by have:=aO hb;omega⟩,?_⟩;rintro P N C I w2 k _ ⟨t,rfl,ht,rfl,rfl,o2,Q,f2⟩;refine aj (fun s=> ?_) (fun s=> ?_)
 . have s:t<n:=by simpa using s
   have sl:t<l.length:=by omega
   have hw:=Ct (l:=l.take t) (x:=x);rw [List.length_take] at hw;have O:=IA (x:=x) sl;refine (h.grow Q).ix 0 (by omega) hn (by omega) fun a e=> ⟨_,e,?_⟩
   rw [Int.toNat_natCast];refine aj (fun U=> ?_) (fun U=> ?_)
   . rw [if_pos U] at O;refine (h.grow Q).ix 0 (by omega) hn (by omega) fun a e=> ⟨_,e,?_⟩
     rw [Int.toNat_natCast];intro X aa J;have Z:Vw (Value.int .i64) aa (some ⟨X,0,none⟩) [l.getD t 0]:=by
      intro j hj;have:j=0:=by simpa using hj
      subst this;exact ⟨_,rfl,ae J.has rfl⟩
     refine d6 (W0:=w) (o2.grow J.mod) (Q.trans J.mod) f2 Z rfl rfl (by simp;omega) fun ag ap ad V Y f33=> ?_;refine ⟨_,?_,t+1,wN (by omega) (by omega),by omega,rfl,by rw [O],by rw [O];exact V,Y,f33⟩;omega
   . rw [if_neg (by rw [U];exact Bool.false_ne_true),List.append_nil] at O;refine ⟨_,?_,t+1,wN (by omega) (by omega),by omega,rfl,by rw [O],by rw [O];exact o2,Q,f2⟩;omega
 . have s:t=l.length:=by simp at s;omega
   subst s;rw [List.take_length] at o2 ⊢;exact ⟨P,C,rfl,o2,Q,f2⟩
end
section
variable {w:World} {p q:Option Addr} {n c:Nat} {l:List Int}
theorem Gl {m:List Int} {l:Int} (h:bq l=true):pe m (-l)= -pe m l:=by
 have hb:=cx h;have I:bq (-l)=true:=by unfold bq;exact decide_eq_true (by omega)
 have ha:bf (-l)=bf l:=by unfold bf;split<;>split<;>omega
 unfold pe;rw [h,I,ha];split
 . rfl
 . split
   . rfl
   . generalize m.getD (bf l - 1).toNat 0=z at*
     by_cases h1:z>0<;>by_cases J:l>0<;>by_cases O: -l>0<;>simp [h1,J]<;>omega
end
end Go.Proofs.YtenmibfmhccmiaaGreat.W
namespace Go.Fw
open Go Go.RowKit Go.Maps
section
variable {P:Program} {t k e:TypeId} {w w':World} {b n:Nat} {s:Int->Bool}
def rH (P:Program) (t k e:TypeId):Bool:=
 (match P.underlying t with|some (.map J I)=>Nat.beq J k && Nat.beq I e|_=>false) && (match P.underlying k with|some (.int .i64)=>true|_=>false) && (match P.underlying e with|some .bool=>true|_=>false) && (match P.info? e with|some i=> (match i.zero with|some (.bool false)=>true|_=>false)|none=>false)
theorem ip (h:rH P t k e=true):P.underlying t=some (.map k e)/\P.underlying k=some (.int .i64)/\P.underlying e=some .bool/\∀w,(zeroValue e).run P w= .ok (.bool false) w:=by
 simp only [rH,Bool.and_eq_true] at h;obtain ⟨⟨⟨h1,O⟩,J⟩,I⟩:=h;split at h1
 . rename_i V U hu;simp only [Bool.and_eq_true] at h1;have X:V=k:=Nat.eq_of_beq_eq_true h1.1;have Q:U=e:=Nat.eq_of_beq_eq_true h1.2;subst X Q;refine ⟨hu,?_,?_,?_⟩
   . split at O
     . assumption
     . simp at O
   . split at J
     . assumption
     . simp at J
   . intro w;split at I
     . rename_i i hi;split at I
       . rename_i Y;unfold zeroValue;simp only [Sem.run_bind,eS hi,Result.andThen_ok,Y,Sem.run_pure]
       . simp at I
     . simp at I
 . simp at h1
def MB (P:Program) (k e:TypeId) (w:World) (b n:Nat) (s:Int->Bool):Prop:=
 ∃D:DataW Unit,w.ownsMap P k (plainElem P e) b n D/\∀a:Int,D.atKey (.int .i64 a) (.lit (.bool false))= .lit (.bool (s a))
theorem MB.lt (h:MB P k e w b n s):b<w.heap.size:=by obtain ⟨D,h,_⟩:=h;exact h.lt
theorem MB.keep {S:Nat->Prop} (h:MB P k e w b n s) (m:aF S w w') (hs: ¬S b):MB P k e w' b n s:=by
 have hl:=h.lt;obtain ⟨D,⟨J,clock,hb,h⟩,I⟩:=h;exact ⟨D,⟨J,clock,(m.block b hl hs).trans hb,h⟩,I⟩
theorem MB.grow (h:MB P k e w b n s) (m:ao w w'):MB P k e w' b n s:=h.keep m id
theorem MB.Cb (h:MB P k e w b n s) {c:Nat} (m:aF (·=c) w w') (I:b≠c):MB P k e w' b n s:=h.keep m I
theorem MB.new {b:Nat} (h:aY (.map #[] 0) w b w'):MB P k e w' b 0 fun _=>false:=by
 obtain ⟨rfl,rfl⟩:=h;exact ⟨.map [],World.ownsMap_made w P k _,fun a=>rfl⟩
theorem MB.cA (hm:rH P t k e=true) (h:MB P k e w b n s) {a:Int} (ha:(Lit.int .i64 a).wf=true):(Instr.lookup t (.map (some b)) (.int .i64 a) false).run P w= .ok (.bool (s a)) w:=by
 obtain ⟨ht,I,he,O⟩:=ip hm;obtain ⟨D,h,J⟩:=h;obtain ⟨v,ps,hr,hv⟩:=h.lookup (int_keyed I) ht (O w) (plainElem_bool he false) (keyOf_int_mk I ha);rw [J a] at hv;have:v= .bool (s a):=by
  unfold plainElem at hv;rw [he] at hv;cases v<;>simp_all
 rw [hr,this]
theorem MB.put (hm:rH P t k e=true) (h:MB P k e w b n s) (hn:n<maxLen) {a:Int} (ha:(Lit.int .i64 a).wf=true) (v:Bool):
 ∃w',(Instr.mapUpdate t (.map (some b)) (.int .i64 a) (.bool v)).run P w= .ok () w'/\MB P k e w' b (n+1) (fun u=>if u=a then v else s u)/\aF (·=b) w w':=by
 obtain ⟨ht,O,he,V⟩:=ip hm;obtain ⟨D,h,Q⟩:=h;have J:=h.isMap;obtain ⟨w',hr,U,I⟩:=h.update (int_keyed O) ht hn (keyOf_int_mk O ha) (plainElem_bool (H:=Unit) he v);refine ⟨w',hr,⟨_,U,fun u=> ?_⟩,⟨I.os,I.tape,I.output,I.size,fun i hi hn=>I.block i hi fun e=>hn (Option.some.inj e)⟩⟩;by_cases hu:u=a
 . subst hu;exact (atKey_put_same J (show WideAt.IsKeyLit (.int .i64 u) from trivial) _ _).trans (by simp)
 . exact ((atKey_put_other (fun e=>hu (by injection e)) _ _).trans (Q u)).trans (by simp [hu])
theorem xk {a:Int} (h1: -9223372036854775808<=a) (I:a<9223372036854775808):(Lit.int .i64 a).wf=true:=by
 simp [Lit.wf,IntKind.min,IntKind.max,IntKind.signed,IntKind.bits];omega
end
section
variable {P:Program} {t k e:TypeId} {w w':World} {b r n oN:Nat} {s lf:Int->Bool}
def MS (P:Program) (k e:TypeId) (w:World) (b n:Nat) (s:Int->Bool):Prop:=
 ∃D:DataW Unit,w.ownsMap P k (plainElem P e) b n D/\(∀a:Int,D.atKey (.int .i64 a) (.lit (.bool false))= .lit (.bool (s a)))/\∀a:Int,Maps.has D (.int .i64 a)=s a
theorem MS.mb (h:MS P k e w b n s):MB P k e w b n s:=by obtain ⟨D,h1,I,_⟩:=h;exact ⟨D,h1,I⟩
theorem MS.lt (h:MS P k e w b n s):b<w.heap.size:=h.mb.lt
theorem MS.keep {S:Nat->Prop} (h:MS P k e w b n s) (m:aF S w w') (hs: ¬S b):MS P k e w' b n s:=by
 have hl:=h.lt;obtain ⟨D,⟨J,clock,hb,h⟩,I⟩:=h;exact ⟨D,⟨J,clock,(m.block b hl hs).trans hb,h⟩,I⟩
theorem MS.grow (h:MS P k e w b n s) (m:ao w w'):MS P k e w' b n s:=h.keep m id
theorem MS.new {b:Nat} (h:aY (.map #[] 0) w b w'):MS P k e w' b 0 fun _=>false:=by
 obtain ⟨rfl,rfl⟩:=h;exact ⟨.map [],World.ownsMap_made w P k _,fun a=>rfl,fun a=>rfl⟩
theorem MS.cA (hm:rH P t k e=true) (h:MS P k e w b n s) {a:Int} (ha:(Lit.int .i64 a).wf=true):(Instr.lookup t (.map (some b)) (.int .i64 a) false).run P w= .ok (.bool (s a)) w:=h.mb.cA hm ha
theorem MS.put (hm:rH P t k e=true) (h:MS P k e w b n s) (hn:n<maxLen) {a:Int} (ha:(Lit.int .i64 a).wf=true):
 ∃w',(Instr.mapUpdate t (.map (some b)) (.int .i64 a) (.bool true)).run P w= .ok () w'/\MS P k e w' b (n+1) (fun u=>if u=a then true else s u)/\aF (·=b) w w':=by
 obtain ⟨ht,O,he,X⟩:=ip hm;obtain ⟨D,h,V,Q⟩:=h;have I:=h.isMap;obtain ⟨w',hr,U,J⟩:=h.update (int_keyed O) ht hn (keyOf_int_mk O ha) (plainElem_bool (H:=Unit) he true);refine ⟨w',hr,⟨_,U,fun u=> ?_,fun u=> ?_⟩,⟨J.os,J.tape,J.output,J.size,fun i hi hn=>J.block i hi fun e=>hn (Option.some.inj e)⟩⟩
 . by_cases hu:u=a
   . subst hu;exact (atKey_put_same I (show WideAt.IsKeyLit (.int .i64 u) from trivial) _ _).trans (by simp)
   . exact ((atKey_put_other (fun e=>hu (by injection e)) _ _).trans (V u)).trans (by simp [hu])
 . by_cases hu:u=a
   . subst hu;exact (has_put_same I (show WideAt.IsKeyLit (.int .i64 u) from trivial) _).trans (by simp)
   . exact ((has_put_other (fun e=>hu (by injection e)) _).trans (Q u)).trans (by simp [hu])
theorem MS.del (hm:rH P t k e=true) (h:MS P k e w b n s) {a:Int} (ha:(Lit.int .i64 a).wf=true) (ty:TypeId):
 ∃w',(Builtin.delete_ #[t,k] ty #[.map (some b),.int .i64 a]).run P w= .ok (.tuple #[]) w'/\MS P k e w' b n (fun u=>if u=a then false else s u)/\aF (·=b) w w':=by
 obtain ⟨ht,J,he,V⟩:=ip hm;obtain ⟨D,h,Q,O⟩:=h;obtain ⟨w',hr,U,I⟩:=h.drop (int_keyed J) ht (keyOf_int_mk J ha) ty;have I:=I.grown;refine ⟨w',hr,⟨_,U,fun u=> ?_,fun u=> ?_⟩,⟨I.os,I.tape,I.output,I.size,fun i hi hn=>I.block i hi fun e=>hn (Option.some.inj e)⟩⟩
 . by_cases hu:u=a
   . subst hu;exact (atKey_del_same _).trans (by simp)
   . exact ((atKey_del_other (fun e=>hu (by injection e)) _).trans (Q u)).trans (by simp [hu])
 . by_cases hu:u=a
   . subst hu;exact has_del_same.trans (by simp)
   . exact ((has_del_other (fun e=>hu (by injection e))).trans (O u)).trans (by simp [hu])
theorem MS.len (hm:rH P t k e=true) (h:MS P k e w b n s) (ty:TypeId): ∃c:Nat,c<=n/\(Builtin.len_ #[t] ty #[.map (some b)]).run P w= .ok (.int .i64 c) w:=by
 obtain ⟨ht,J,he,Q⟩:=ip hm;obtain ⟨D,h,I,O⟩:=h;exact ⟨Maps.size D,h.size_le,h.len ht ty⟩
def MR (P:Program) (k e:TypeId) (w:World) (b r n:Nat) (s lf:Int->Bool) (oN:Nat):Prop:=
 ∃ (D:DataW Unit) (left:Lit->Bool),w.ranges P k (plainElem P e) b r n D left oN/\(∀a:Int,D.atKey (.int .i64 a) (.lit (.bool false))= .lit (.bool (s a)))/\(∀a:Int,Maps.has D (.int .i64 a)=s a)/\∀a:Int,left (.int .i64 a)=lf a
theorem MR.ms (h:MR P k e w b r n s lf oN):MS P k e w b n s:=by
 obtain ⟨D,left,h1,J,I,_⟩:=h;exact ⟨D,h1.owns,J,I⟩
theorem MR.lt (h:MR P k e w b r n s lf oN):r<w.heap.size:=by
 obtain ⟨D,left,h1,_⟩:=h;exact h1.lt
theorem MR.keep {S:Nat->Prop} (h:MR P k e w b r n s lf oN) (m:aF S w w') (h1: ¬S b) (V: ¬S r):MR P k e w' b r n s lf oN:=by
 have J:=h.ms.lt;have I:=h.lt;obtain ⟨D,left,⟨Q,clock,since,seen,U,hb,F,hs,hD,hr,rest⟩,O⟩:=h;exact ⟨D,left,⟨Q,clock,since,seen,U,(m.block b J h1).trans hb,F,hs,hD,(m.block r I V).trans hr,rest⟩,O⟩
theorem MR.grow (h:MR P k e w b r n s lf oN) (m:ao w w'):MR P k e w' b r n s lf oN:=h.keep m id id
theorem MR.drew (h:MR P k e w b r n s lf oN):MR P k e w.drew b r n s lf oN:=h.grow (aF.refl w).drew
theorem MS.range (hm:rH P t k e=true) (h:MS P k e w b n s): ∃w' oN,(Instr.range t (.map (some b))).run P w= .ok (.pointer (some ⟨w.heap.size,0,none⟩)) w'/\MR P k e w' b w.heap.size n s s oN/\ao w w':=by
 obtain ⟨ht,O,he,V⟩:=ip hm;obtain ⟨D,h,Q,J⟩:=h;obtain ⟨w',hr,U,I,_⟩:=h.range (int_keyed O) ht;exact ⟨w',_,hr,⟨D,_,U,Q,J,J⟩,⟨I.os,I.tape,I.output,I.size,fun i hi _=>I.block i hi (by simp)⟩⟩
theorem wW {key:Value} {I:Lit} (J:P.underlying k=some (.int .i64)) (h:keyOf P k key=some I): ∃a:Int,key= .int .i64 a/\I= .int .i64 a/\(Lit.int .i64 a).wf=true:=by
 cases key<;>simp [keyOf,J,mapKey] at h;rename_i q a;obtain ⟨h1,rfl⟩:=h;obtain ⟨rfl,O⟩:=h1;exact ⟨a,rfl,rfl,O⟩
theorem MR.next (hm:rH P t k e=true) (h:MR P k e w b r n s lf oN) (ty:TypeId):
 (oN=0/\(∀a,lf a=false)/\(Instr.next (.pointer (some ⟨r,0,none⟩)) false ty).run P w= .ok (.tuple #[.bool false]) w)\/
 ∃ (a:Int) (v:Value) (w':World) (I:Nat),lf a=true/\(Lit.int .i64 a).wf=true/\(Instr.next (.pointer (some ⟨r,0,none⟩)) false ty).run P w= .ok (.tuple #[.bool true,.int .i64 a,v]) w'/\
   (Instr.entry (.pointer (some ⟨r,0,none⟩))).run P w'= .ok (.tuple #[.int .i64 a,v]) w'/\MR P k e w' b r n s (fun x=>lf x && x !=a) I/\I<oN/\aF (·=r) w w':=by
 obtain ⟨ht,Q,he,hz⟩:=ip hm;obtain ⟨D,left,h,Y,U,hl⟩:=h;rcases h.next (int_keyed Q) ty with ⟨Z,h1,O⟩| ⟨key,v,kl,y,w',I,h1,O,h3,h4,h5,V,X,J,h9,kP⟩
 . exact .inl ⟨Z,fun a=>by rw [<- hl];exact h1 _,O⟩
 . obtain ⟨a,rfl,rfl,ha⟩:=wW Q h1;refine .inr ⟨a,v,w',I,by rw [<- hl];exact O,ha,h5,kP,⟨D,_,V,Y,U,fun x=> ?_⟩,X,⟨J.os,J.tape,J.output,J.size,fun i hi hn=>J.block i hi fun e=>hn (Option.some.inj e)⟩⟩;show (left (.int .i64 x) && !(Lit.sameKey (.int .i64 x) (.int .i64 a)))=_;rw [hl x];congr 1;simp [Lit.sameKey,bne];rfl
def HN (P:Program) (t k e:TypeId):Bool:=
 (match P.underlying t with|some (.map J I)=>Nat.beq J k && Nat.beq I e|_=>false) && (match P.underlying k with|some (.int .i64)=>true|_=>false) && (match P.underlying e with|some (.int .i64)=>true|_=>false) && (match P.info? e with|some i=> (match i.zero with|some (.int .i64 n)=>n==0|_=>false)|none=>false)
theorem xx (h:HN P t k e=true):P.underlying t=some (.map k e)/\P.underlying k=some (.int .i64)/\P.underlying e=some (.int .i64)/\∀w,(zeroValue e).run P w= .ok (.int .i64 0) w:=by
 simp only [HN,Bool.and_eq_true] at h;obtain ⟨⟨⟨h1,O⟩,J⟩,I⟩:=h;split at h1
 . rename_i U Y hu;simp only [Bool.and_eq_true] at h1;have Q:U=k:=Nat.eq_of_beq_eq_true h1.1;have X:Y=e:=Nat.eq_of_beq_eq_true h1.2;subst Q X;refine ⟨hu,?_,?_,?_⟩
   . split at O
     . assumption
     . simp at O
   . split at J
     . assumption
     . simp at J
   . intro w;split at I
     . rename_i i hi;split at I
       . rename_i n V;have:n=0:=by simpa using I
         subst this;unfold zeroValue;simp only [Sem.run_bind,eS hi,Result.andThen_ok,V,Sem.run_pure]
       . simp at I
     . simp at I
 . simp at h1
def MI (P:Program) (k e:TypeId) (w:World) (b n:Nat) (s:Int->Int):Prop:=
 ∃D:DataW Unit,w.ownsMap P k (plainElem P e) b n D/\∀a:Int,D.atKey (.int .i64 a) (.lit (.int .i64 0))= .lit (.int .i64 (s a))
theorem MI.lt {s:Int->Int} (h:MI P k e w b n s):b<w.heap.size:=by obtain ⟨D,h,_⟩:=h;exact h.lt
theorem MI.keep {s:Int->Int} {S:Nat->Prop} (h:MI P k e w b n s) (m:aF S w w') (hs: ¬S b):MI P k e w' b n s:=by
 have hl:=h.lt;obtain ⟨D,⟨J,clock,hb,h⟩,I⟩:=h;exact ⟨D,⟨J,clock,(m.block b hl hs).trans hb,h⟩,I⟩
theorem MI.grow {s:Int->Int} (h:MI P k e w b n s) (m:ao w w'):MI P k e w' b n s:=h.keep m id
theorem MI.new {b:Nat} (h:aY (.map #[] 0) w b w'):MI P k e w' b 0 fun _=>0:=by
 obtain ⟨rfl,rfl⟩:=h;exact ⟨.map [],World.ownsMap_made w P k _,fun a=>rfl⟩
theorem MI.cA {s:Int->Int} (hm:HN P t k e=true) (h:MI P k e w b n s) {a:Int} (ha:(Lit.int .i64 a).wf=true):(Instr.lookup t (.map (some b)) (.int .i64 a) false).run P w= .ok (.int .i64 (s a)) w:=by
 obtain ⟨ht,I,he,Q⟩:=xx hm;obtain ⟨D,h,O⟩:=h;obtain ⟨c,h1,J,U⟩:=h.lookup_int (int_keyed I) ht he (Q w) (keyOf_int_mk I ha);rw [O a] at J;have:s a=c:=by simpa using J
 rw [h1,this]
theorem MI.put {s:Int->Int} (hm:HN P t k e=true) (h:MI P k e w b n s) (hn:n<maxLen) {a:Int} (ha:(Lit.int .i64 a).wf=true) {v:Int} (hv:(Lit.int .i64 v).wf=true):
 ∃w',(Instr.mapUpdate t (.map (some b)) (.int .i64 a) (.int .i64 v)).run P w= .ok () w'/\MI P k e w' b (n+1) (fun u=>if u=a then v else s u)/\aF (·=b) w w':=by
 obtain ⟨ht,O,he,V⟩:=xx hm;obtain ⟨D,h,Q⟩:=h;have J:=h.isMap;obtain ⟨w',hr,U,I⟩:=h.update (int_keyed O) ht hn (keyOf_int_mk O ha) (plainElem_int (H:=Unit) he hv);refine ⟨w',hr,⟨_,U,fun u=> ?_⟩,⟨I.os,I.tape,I.output,I.size,fun i hi hn=>I.block i hi fun e=>hn (Option.some.inj e)⟩⟩;by_cases hu:u=a
 . subst hu;exact (atKey_put_same J (show WideAt.IsKeyLit (.int .i64 u) from trivial) _ _).trans (by simp)
 . exact ((atKey_put_other (fun e=>hu (by injection e)) _ _).trans (Q u)).trans (by simp [hu])
end
end Go.Fw
namespace Go.LeP
open Go.SoP Go.LiP
section
structure As where
 lit:Int
 bi:Int
 rs:List Int
def d0:As:=⟨0,0,[]⟩
def aS (tr:List As) (i:Nat):As:=tr.getD i d0
def w_ (l:Int):Bool:=decide (l≠0/\ -1048576<=l/\l<=1048576)
def wo (l:List Int) (x:Int):List Int:=l.filter fun y=>y !=x
theorem nW {l:List Int} {x y:Int}:y∈wo l x↔y∈l/\y≠x:=by
 unfold wo;rw [List.mem_filter];simp
def cL:List As->Int->Nat
 | [],_=>0
 |a::t,v=>if am a.lit=v then 0 else cL t v+1
theorem om: ∀ {tr:List As} {v:Int},cL tr v<tr.length->am (aS tr (cL tr v)).lit=v
 | [],_,h=>by simp at h
 |a::t,v,h=>by
  unfold cL at h ⊢;split
  . rename_i e;exact e
  . rename_i e;rw [if_neg e] at h;have:=om (tr:=t) (v:=v) (by simpa using h);simpa [aS,List.getD] using this
theorem nD: ∀ {tr:List As} {v:Int} {j:Nat},j<cL tr v->am (aS tr j).lit≠v
 | [],_,_,h=>by simp [cL] at h
 |a::t,v,j,h=>by
  unfold cL at h;split at h
  . omega
  . rename_i e;cases j with
    |zero=>exact e
    |succ j=>
     have:=nD (tr:=t) (v:=v) (j:=j) (by omega);simpa [aS,List.getD] using this
theorem BR {tr:List As} {v:Int} {i:Nat} (hi:i<tr.length) (h:am (aS tr i).lit=v) (hm: ∀j,j<i->am (aS tr j).lit≠v):cL tr v=i:=by
 rcases Nat.lt_trichotomy (cL tr v) i with e|e|e
 . exact absurd (om (by omega)) (hm _ e)
 . exact e
 . exact absurd h (nD e)
theorem jn {tr:List As} {i j:Nat} (h:j<i):aS (tr.take i) j=aS tr j:=by
 unfold aS;simp only [List.getD_eq_getElem?_getD,List.getElem?_take];rw [if_pos h]
theorem lC {tr:List As} {v:Int} {i:Nat} (hi:i<=tr.length):(cL (tr.take i) v<i↔cL tr v<i)/\(cL tr v<i->cL (tr.take i) v=cL tr v):=by
 have hl:(tr.take i).length=i:=by rw [List.length_take];omega
 have key:cL tr v<i->cL (tr.take i) v=cL tr v:=fun h=>by
  refine BR (by omega) ?_ fun j I=> ?_
  . rw [jn h];exact om (by omega)
  . rw [jn (by omega)];exact nD I
 refine ⟨⟨fun h=> ?_,fun h=>by rw [key h];exact h⟩,key⟩;have h1:=om (tr:=tr.take i) (v:=v) (by omega);rw [jn h] at h1;rcases Nat.lt_or_ge (cL tr v) i with e|e
 . exact e
 . exact absurd h1 (nD (by omega))
def C6 (tr:List As) (c:List Int):Bool:=c.all fun l=>w_ l && decide (cL tr (am l)<tr.length) && ((aS tr (cL tr (am l))).lit== -l)
def ic (tr:List As) (i:Nat):Int:=if i=0 then 0 else (aS tr (i - 1)).bi
def G8 (tr:List As) (i:Nat):Bool:=
 w_ (aS tr i).lit && decide (¬cL (tr.take i) (am (aS tr i).lit)<i) && decide (ic tr i<=(aS tr i).bi/\(aS tr i).bi<=ic tr i+1) &&
  (if (aS tr i).bi>ic tr i then (aS tr i).rs.isEmpty else decide ((aS tr i).rs.length<=256) && decide ((aS tr i).lit∈(aS tr i).rs) && C6 (tr.take i) (wo (aS tr i).rs (aS tr i).lit))
def pH (tr:List As):Bool:=decide (tr.length<=4096) && (List.range tr.length).all (G8 tr)
structure jJ (tr:List As) (l:Int):Prop where
 qv:w_ l=true
 lt:cL tr (am l)<tr.length
 eq:(aS tr (cL tr (am l))).lit= -l
theorem kN {tr:List As} {c:List Int}:C6 tr c=true↔∀l∈c,jJ tr l:=by
 unfold C6;rw [List.all_eq_true];constructor
 . intro h l hl;have:=h l hl;simp only [Bool.and_eq_true,decide_eq_true_eq,beq_iff_eq] at this;exact ⟨this.1.1,this.1.2,this.2⟩
 . intro h l hl;obtain ⟨h1,J,I⟩:=h l hl;simp only [Bool.and_eq_true,decide_eq_true_eq,beq_iff_eq];exact ⟨⟨h1,J⟩,I⟩
structure dN (tr:List As):Prop where
 qv: ∀i,i<tr.length->w_ (aS tr i).lit=true
 uq: ∀i j,i<j->j<tr.length->am (aS tr i).lit≠am (aS tr j).lit
 lo: ∀i,i<tr.length->ic tr i<=(aS tr i).bi
 hi: ∀i,i<tr.length->(aS tr i).bi<=ic tr i+1
 uc: ∀i,i<tr.length->ic tr i< (aS tr i).bi->(aS tr i).rs= []
 kG: ∀i,i<tr.length->¬ic tr i< (aS tr i).bi->(aS tr i).rs.length<=256/\(aS tr i).lit∈(aS tr i).rs/\∀x∈(aS tr i).rs,x≠(aS tr i).lit->jJ tr x/\cL tr (am x)<i
theorem oB {tr:List As} (h:pH tr=true):dN tr/\tr.length<=4096:=by
 unfold pH at h;simp only [Bool.and_eq_true,decide_eq_true_eq,List.all_eq_true,List.mem_range] at h;obtain ⟨hl,h⟩:=h;have H: ∀i,i<tr.length->w_ (aS tr i).lit=true/\¬cL (tr.take i) (am (aS tr i).lit)<i/\(ic tr i<=(aS tr i).bi/\(aS tr i).bi<=ic tr i+1)/\
  (if (aS tr i).bi>ic tr i then (aS tr i).rs.isEmpty else decide ((aS tr i).rs.length<=256) && decide ((aS tr i).lit∈(aS tr i).rs) && C6 (tr.take i) (wo (aS tr i).rs (aS tr i).lit))=true:=by
  intro i hi;have:=h i hi;unfold G8 at this;simp only [Bool.and_eq_true,decide_eq_true_eq] at this;exact ⟨this.1.1.1,this.1.1.2,this.1.2,this.2⟩
 refine ⟨⟨fun i hi=> (H i hi).1,fun i j U V e=> ?_,fun i hi=> (H i hi).2.2.1.1,fun i hi=> (H i hi).2.2.1.2,fun i hi O=> ?_,fun i hi O=> ?_⟩,hl⟩
 . have h1:=(H j V).2.1;rw [(lC (by omega)).1] at h1;exact nD (tr:=tr) (v:=am (aS tr j).lit) (j:=i) (by omega) e
 . have:=(H i hi).2.2.2;rw [if_pos O] at this;simpa using this
 . have:=(H i hi).2.2.2;rw [if_neg (by omega)] at this;simp only [Bool.and_eq_true,decide_eq_true_eq] at this;refine ⟨this.1.1,this.1.2,fun x Q J=> ?_⟩;have hb:=kN.1 this.2 x (nW.2 ⟨Q,J⟩);have I:=hb.lt;rw [List.length_take,Nat.min_eq_left (by omega)] at I;have h1:=(lC (v:=am x) (by omega)).1.1 I;have X:=(lC (v:=am x) (by omega)).2 h1;refine ⟨⟨hb.qv,by omega,?_⟩,h1⟩;have:=hb.eq;rw [X,jn h1] at this;exact this
theorem dN.mono {tr:List As} (h:dN tr): ∀ {i j:Nat},i<=j->j<tr.length->(aS tr i).bi<=(aS tr j).bi:=by
 intro i j J O
 induction j with
 |zero=>rw [show i=0 by omega];exact Int.le_refl _
 |succ j ih=>
  by_cases e:i=j+1
  . rw [e];exact Int.le_refl _
  . have h1:=ih (by omega) (by omega);have I:=h.lo (j+1) O;unfold ic at I;rw [if_neg (by omega),Nat.add_sub_cancel] at I;omega
theorem dN.nn {tr:List As} (h:dN tr) {i:Nat} (hi:i<tr.length):0<=(aS tr i).bi:=by
 have h1:=h.lo 0 (by omega);have I:=h.mono (Nat.zero_le i) hi;unfold ic at h1;rw [if_pos rfl] at h1;omega
theorem dN.le {tr:List As} (h:dN tr) {i:Nat} (hi:i<tr.length):(aS tr i).bi<=i+1:=by
 induction i with
 |zero=>
  have:=h.hi 0 hi;unfold ic at this;rw [if_pos rfl] at this;simpa using this
 |succ i ih=>
  have h1:=ih (by omega);have I:=h.hi (i+1) hi;unfold ic at I;rw [if_neg (by omega),Nat.add_sub_cancel] at I;omega
theorem dN.at {tr:List As} (h:dN tr) {i:Nat} (hi:i<tr.length):cL tr (am (aS tr i).lit)=i:=
 BR hi rfl fun j I=>h.uq j i I hi
theorem vt (x:Int):am (-x)=am x:=by unfold am;split<;>split<;>omega
theorem JO {x:Int} (h:w_ x=true):w_ (-x)=true:=by
 unfold w_ at*
 simp only [decide_eq_true_eq] at*
 omega
theorem dN.first {tr:List As} (h:dN tr) {i:Nat} (hi:i<tr.length) (hr:(aS tr i).rs= []):0< (aS tr i).bi/\∀j,j<i->(aS tr j).bi< (aS tr i).bi:=by
 have I:ic tr i< (aS tr i).bi:=by
  by_cases e:ic tr i< (aS tr i).bi
  . exact e
  . have:=(h.kG i hi e).2.1;rw [hr] at this;simp at this
 unfold ic at I;split at I
 . rename_i e;exact ⟨I,fun j J=>by omega⟩
 . have:=h.nn (i:=i - 1) (by omega);refine ⟨by omega,fun j J=> ?_⟩;have:=h.mono (i:=j) (j:=i - 1) (by omega) (by omega);omega
theorem dN.dY {tr:List As} (h:dN tr) {i:Nat} (hi:i<tr.length) (hr:(aS tr i).rs≠[]):(aS tr i).rs.length<=256/\(aS tr i).lit∈(aS tr i).rs/\∀x∈(aS tr i).rs,x≠(aS tr i).lit->jJ tr x/\cL tr (am x)<i:=
 h.kG i hi fun e=>hr (h.uc i hi e)
def lv (tr:List As) (l:Int):Int:=(aS tr (cL tr (am l))).bi
theorem dN.Ke {tr:List As} (h:dN tr) {i:Nat} (hi:i<tr.length):lv tr (-(aS tr i).lit)=(aS tr i).bi/\lv tr (aS tr i).lit=(aS tr i).bi:=by
 unfold lv;rw [vt,h.at hi];exact ⟨rfl,rfl⟩
theorem jJ.same {tr:List As} {x y:Int} (I:jJ tr x) (J:jJ tr y) (h:cL tr (am x)=cL tr (am y)):x=y:=by
 have h1:=I.eq;have O:=J.eq;rw [h,O] at h1;omega
theorem jJ.am {tr:List As} {x y:Int} (I:jJ tr x) (J:jJ tr y) (h:am x=am y):x=y:=I.same J (by rw [h])
def fO (tr:List As) (c:List Int) (L:Int):Nat:=c.countP fun x=>lv tr x==L
def po (tr:List As) (i:Nat) (c:List Int):List Int:=aW (wo c (-(aS tr i).lit)++wo (aS tr i).rs (aS tr i).lit)
def lrn (tr:List As) (L:Int):Nat->List Int->List Int
 |0,c=>c
 |i+1,c=>if fO tr c L=0\/fO tr c L=1/\0<L then c else if (aS tr i).bi=L/\ -(aS tr i).lit∈c then lrn tr L i (po tr i c) else lrn tr L i c
theorem jb {tr:List As} {i:Nat} {c:List Int} {x:Int}:x∈po tr i c↔x∈c/\x≠ -(aS tr i).lit\/x∈(aS tr i).rs/\x≠(aS tr i).lit:=by
 unfold po;rw [(cC _).mem,List.mem_append,nW,nW]
theorem vN {tr:List As} {L:Int} {c:List Int} {p:Nat}: ∀ {k:Nat},p<=k->(∀i,p<=i->i<k->¬((aS tr i).bi=L/\ -(aS tr i).lit∈c))->¬(fO tr c L=0\/fO tr c L=1/\0<L)->lrn tr L k c=lrn tr L p c
 |0,h,_,_=>by rw [show p=0 by omega]
 |k+1,h,hs,hn=>by
  by_cases e:p=k+1
  . rw [e]
  . rw [lrn,if_neg hn,if_neg (hs k (by omega) (by omega))];exact vN (by omega) (fun i h1 I=>hs i h1 (by omega)) hn
theorem wJ {tr:List As} {L:Int} {c:List Int} {k:Nat} (h:fO tr c L=0\/fO tr c L=1/\0<L):lrn tr L k c=c:=by
 cases k with
 |zero=>rfl
 |succ k=>rw [lrn,if_pos h]
structure In (tr:List As) (L:Int) (c:List Int) (k:Nat):Prop where
 br: ∀x∈c,jJ tr x
 le: ∀x∈c,lv tr x<=L
 pl: ∀x∈c,lv tr x=L->cL tr (am x)<k
 mZ:c= []\/0<fO tr c L
 nn:0<=L
 nd:jL c
theorem od {tr:List As} {L:Int} {c:List Int}:0<fO tr c L↔∃x∈c,lv tr x=L:=by
 unfold fO;rw [List.countP_pos_iff];simp
theorem eh {c:List Int} (h:jL c):c.Nodup:=h.imp fun {a b} I e=>by subst e;exact pZ a I
theorem y7 {tr:List As} {L:Int} {c:List Int} (hs:c.Nodup) {x:Int} (h:1<fO tr c L): ∃y∈c,y≠x/\lv tr y=L:=by
 refine Classical.byContradiction fun hn=> ?_;have:fO tr c L<=c.countP (fun y=>y==x):=by
  refine List.countP_mono_left fun y I hl=> ?_;have hl:lv tr y=L:=by simpa using hl
  by_cases e:y=x
  . simp [e]
  . exact absurd ⟨y,I,e,hl⟩ hn
 have J:c.countP (fun y=>y==x)<=1:=List.nodup_iff_count.1 hs x;omega
theorem In.step {tr:List As} (ok:dN tr) {L:Int} {c:List Int} {k p:Nat} (h:In tr L c k) (hn: ¬(fO tr c L=0\/fO tr c L=1/\0<L)) (hp:p<tr.length) (V:(aS tr p).bi=L) (hm: -(aS tr p).lit∈c) (I: ∀x∈c,lv tr x=L->cL tr (am x)<=p):
 In tr L (po tr p c) p/\lrn tr L k c=lrn tr L p (po tr p c)/\(aS tr p).rs≠[]/\p<k:=by
 have ad:p<k:=by
  have:=h.pl _ hm (by rw [(ok.Ke hp).1];exact V)
  rwa [vt,ok.at hp] at this
 have X:(aS tr p).rs≠[]:=by
  intro e;obtain ⟨f1,f2⟩:=ok.first hp e;have h1:1<fO tr c L:=by omega
  obtain ⟨y,Z,Q,J⟩:=y7 (eh h.nd) (x:= -(aS tr p).lit) h1;have O:=I y Z J;rcases Nat.lt_or_ge (cL tr (am y)) p with e2|e2
  . have:=f2 _ e2;unfold lv at J;omega
  . refine Q ((h.br y Z).same (h.br _ hm) ?_);rw [vt,ok.at hp];omega
 obtain ⟨r1,r2,r3⟩:=ok.dY hp X;have U: ∀x∈po tr p c,jJ tr x:=by
  intro x Y;rcases jb.1 Y with ⟨a,b⟩| ⟨a,b⟩
  . exact h.br x a
  . exact (r3 x a b).1
 have O: ∀x∈po tr p c,lv tr x<=L:=by
  intro x Y;rcases jb.1 Y with ⟨a,b⟩| ⟨a,b⟩
  . exact h.le x a
  . have:=(r3 x a b).2;have:=ok.mono (i:=cL tr (am x)) (j:=p) (by omega) hp;unfold lv;omega
 refine ⟨⟨U,O,fun x Y hl=> ?_,?_,h.nn,(cC _).st⟩,?_,X,ad⟩
 . rcases jb.1 Y with ⟨a,b⟩| ⟨a,b⟩
   . have h1:=I x a hl;rcases Nat.lt_or_ge (cL tr (am x)) p with e|e
     . exact e
     . exact absurd ((h.br x a).same (h.br _ hm) (by rw [vt,ok.at hp];omega)) b
   . exact (r3 x a b).2
 . by_cases e:fO tr c L=1
   . have hL:L=0:=by
      have:=h.nn;by_cases e2:0<L
      . exact absurd (.inr ⟨e,e2⟩) hn
      . omega
     cases hs:po tr p c with
     |nil=>exact .inl rfl
     |cons x t=>
      refine .inr (od.2 ⟨x,by simp,?_⟩);have h1:=O x (by rw [hs];simp);have h2:=ok.nn ((U x (by rw [hs];simp)).lt);have:lv tr x=(aS tr (cL tr (am x))).bi:=rfl;omega
   . obtain ⟨y,Z,Q,J⟩:=y7 (eh h.nd) (x:= -(aS tr p).lit) (L:=L) (tr:=tr) (c:=c) (by omega);exact .inr (od.2 ⟨y,jb.2 (.inl ⟨Z,Q⟩),J⟩)
 . rw [vN (p:=p+1) (k:=k) (by omega) (fun i h1 h2 hc=> ?_) hn,lrn,if_neg hn,if_pos ⟨V,hm⟩];have hi:i<tr.length:=by
    have:=(h.br _ hc.2).lt;rcases Nat.lt_or_ge i tr.length with e|e
    . exact e
    . have hd:aS tr i=d0:=by
       unfold aS;rw [List.getD_eq_getElem?_getD,List.getElem?_eq_none e];rfl
      have:=(h.br _ hc.2).qv;rw [hd] at this;exact absurd this (by decide)
   have:=I _ hc.2 (by rw [(ok.Ke hi).1];exact hc.1);rw [vt,ok.at hi] at this;omega
theorem In.end {tr:List As} (ok:dN tr) {L:Int}: ∀ {k:Nat} {c:List Int},In tr L c k->k<=tr.length->∃d U,lrn tr L k c=d/\In tr L d U/\(d= []/\(L=0\/c= [])\/fO tr d L=1/\0<L)
 |0,c,h,_=>by
  have X:c= []:=by
   rcases h.mZ with e|e
   . exact e
   . obtain ⟨x,I,hl⟩:=od.1 e;have:=h.pl x I hl;omega
  exact ⟨c,0,rfl,h,.inl ⟨X,.inr X⟩⟩
 |k+1,c,h,hk=>by
  by_cases hn:fO tr c L=0\/fO tr c L=1/\0<L
  . refine ⟨c,k+1,wJ hn,h,?_⟩;rcases hn with hn|hn
    . rcases h.mZ with e|e
      . exact .inl ⟨e,.inr e⟩
      . omega
    . exact .inr hn
  . by_cases e:(aS tr k).bi=L/\ -(aS tr k).lit∈c
    . obtain ⟨h1,Z,_,_⟩:=h.step ok hn (p:=k) (by omega) e.1 e.2 fun x I hl=>by have:=h.pl x I hl;omega
      obtain ⟨d,U,e1,O,e3⟩:=h1.end ok (by omega);refine ⟨d,U,by rw [Z];exact e1,O,?_⟩;rcases e3 with ⟨a,b⟩|b
      . refine .inl ⟨a,?_⟩;have:=h.nn;by_cases hL:0<L
        ·
         obtain ⟨y,hy,V,ac⟩:=y7 (eh h.nd) (x:= -(aS tr k).lit) (L:=L) (tr:=tr) (c:=c) (by omega);have J:y∈po tr k c:=jb.2 (.inl ⟨hy,V⟩);rcases b with b|b
         . omega
         . rw [b] at J;simp at J
        . exact .inl (by omega)
      . exact .inr b
    . have Q:=vN (p:=k) (k:=k+1) (by omega) (fun i h1 Z=>by rw [show i=k by omega];exact e) hn;have h':In tr L c k:=⟨h.br,h.le,fun x I hl=>by
       have:=h.pl x I hl;rcases Nat.lt_or_ge (cL tr (am x)) k with O|O
       . exact O
       . have Y:cL tr (am x)=k:=by omega
         refine absurd ⟨?_,?_⟩ e
         . rw [<- Y];exact hl
         . rw [<- Y,(h.br x I).eq,Int.neg_neg];exact I,h.mZ,h.nn,h.nd⟩
      rw [Q];exact h'.end ok (by omega)
end
section
def mE (tr:List As) (a b:Int):Int:=if lv tr a≠lv tr b then lv tr b - lv tr a else am a - am b
theorem uG (tr:List As):Ord (mE tr):=by
 constructor
 . intro x y h;unfold mE at*
   split at h<;>split<;>omega
 . intro x y z h1 I;unfold Le mE at*
   split at h1<;>split at I<;>split<;>omega
abbrev oI (tr:List As) (m:List Int):Prop:=m.Pairwise fun a b=>mE tr a b<0
theorem pG (tr:List As) (a:Int): ¬mE tr a a<0:=by unfold mE;simp
theorem CC {tr:List As} {a b c:Int} (h1:mE tr a b<0) (I:mE tr b c<0):mE tr a c<0:=(uG tr).Hw h1 ((uG tr).lt I)
theorem vZ {tr:List As}: ∀ {m k:List Int},oI tr m->oI tr k->(∀x,x∈m↔x∈k)->m=k
 | [],[],_,_,_=>rfl
 | [],y::k,_,_,h=>by have:=(h y).2 (by simp);simp at this
 |x::m,[],_,_,h=>by have:=(h x).1 (by simp);simp at this
 |x::m,y::k,h1,J,h=>by
  have h1:=List.pairwise_cons.1 h1;have J:=List.pairwise_cons.1 J;have e:x=y:=by
   rcases List.mem_cons.1 ((h x).1 (by simp)) with e|e
   . exact e
   . rcases List.mem_cons.1 ((h y).2 (by simp)) with O|O
     . exact O.symm
     . exact absurd (CC (h1.1 y O) (J.1 x e)) (pG tr x)
  subst e;congr 1;refine vZ h1.2 J.2 fun z=> ?_;constructor
  . intro I;rcases List.mem_cons.1 ((h z).1 (List.mem_cons_of_mem _ I)) with e|e
    . subst e;exact absurd (h1.1 z I) (pG tr z)
    . exact e
  . intro I;rcases List.mem_cons.1 ((h z).2 (List.mem_cons_of_mem _ I)) with e|e
    . subst e;exact absurd (J.1 z I) (pG tr z)
    . exact e
def Cj (tr:List As) (c:List Int) (M:Nat):Nat->List Int
 |0=> []
 |j+1=>Cj tr c M j++ (aW c).filter fun x=>lv tr x==(M:Int) - j
def IE (tr:List As):Int:=tr.foldl (fun m a=>if a.bi>m then a.bi else m) 0
def jo (tr:List As) (c:List Int):List Int:=Cj tr c (IE tr).toNat ((IE tr).toNat+1)
theorem uP: ∀ (tr:List As) (m:Int),m<=tr.foldl (fun m a=>if a.bi>m then a.bi else m) m/\∀a∈tr,a.bi<=tr.foldl (fun m a=>if a.bi>m then a.bi else m) m
 | [],m=> ⟨Int.le_refl _,by simp⟩
 |b::t,m=>by
  rw [List.foldl_cons];generalize I:(if b.bi>m then b.bi else m)=X;have hm:m<=X/\b.bi<=X:=by rw [<- I];split<;>omega
  obtain ⟨h1,J⟩:=uP t X;refine ⟨by omega,fun a ha=> ?_⟩;rcases List.mem_cons.1 ha with e|e
  . subst e;omega
  . exact J a e
theorem J2 (tr:List As):0<=IE tr:=(uP tr 0).1
theorem IJ {tr:List As} {i:Nat} (h:i<tr.length):(aS tr i).bi<=IE tr:=(uP tr 0).2 _ (by simp [aS,List.getD,h])
theorem wP {tr:List As} {c:List Int} {M:Nat}: ∀ {j:Nat} {x:Int},x∈Cj tr c M j↔x∈c/\lv tr x<=M/\(M:Int) - j<lv tr x
 |0,x=>by
  unfold Cj;simp
 |j+1,x=>by
  unfold Cj;rw [List.mem_append,wP,List.mem_filter,(cC c).mem,beq_iff_eq];constructor
  . rintro (⟨h1,I,J⟩| ⟨h1,I⟩)
    . exact ⟨h1,I,by omega⟩
    . exact ⟨h1,by omega,by omega⟩
  . rintro ⟨h1,I,J⟩;by_cases e:lv tr x=(M:Int) - j
    . exact .inr ⟨h1,e⟩
    . exact .inl ⟨h1,I,by omega⟩
theorem tH {tr:List As} {c:List Int} {M:Nat} (hb: ∀x∈c,jJ tr x): ∀j,oI tr (Cj tr c M j)
 |0=>List.Pairwise.nil
 |j+1=>by
  unfold Cj;rw [oI,List.pairwise_append];refine ⟨tH hb j,?_,fun x Z y Y=> ?_⟩
  . have h1:jL ((aW c).filter fun x=>lv tr x==(M:Int) - j):=List.Pairwise.filter _ (cC c).st;rw [List.pairwise_iff_getElem];intro a b ha J Q;have I:=List.pairwise_iff_getElem.1 h1 a b ha J Q;have X:=List.mem_filter.1 (List.getElem_mem ha);have mb:=List.mem_filter.1 (List.getElem_mem J);have la:lv tr _=(M:Int) - j:=beq_iff_eq.1 X.2;have lb:lv tr _=(M:Int) - j:=beq_iff_eq.1 mb.2;have U:=hb _ (((cC c).mem _).1 X.1);have O:=hb _ (((cC c).mem _).1 mb.1);generalize ((aW c).filter fun x=>lv tr x==(M:Int) - j)[a]=u at*
    generalize ((aW c).filter fun x=>lv tr x==(M:Int) - j)[b]=v at*
    have V:am u≠am v:=fun e=>by
     have:=U.am O e;subst this;exact pZ _ I
    unfold mE;rw [if_neg (by omega)];unfold mM at I;rw [if_pos V] at I;exact I
  . have h1:=wP.1 Z;have I:=List.mem_filter.1 Y;have h3:lv tr y=(M:Int) - j:=beq_iff_eq.1 I.2;unfold mE;rw [if_pos (by omega)];omega
theorem iS {tr:List As} (ok:dN tr) {c:List Int} (hb: ∀x∈c,jJ tr x) {x:Int}:x∈jo tr c↔x∈c:=by
 unfold jo;rw [wP];refine ⟨fun h=>h.1,fun h=> ⟨h,?_,?_⟩⟩
 . have:=IJ (hb x h).lt;have:=J2 tr;unfold lv;omega
 . have:=ok.nn (hb x h).lt;unfold lv;omega
theorem l7 {tr:List As} {c:List Int} (hb: ∀x∈c,jJ tr x):oI tr (jo tr c):=tH hb _
theorem EX {tr:List As} (ok:dN tr) {c m:List Int} (hb: ∀x∈c,jJ tr x) (hm: ∀x,x∈m↔x∈c) (nd:m.Nodup) (hs:rz (mE tr) m 0 m.length):m=jo tr c:=by
 refine vZ ?_ (l7 hb) fun x=> (hm x).trans (iS ok hb).symm;rw [oI,List.pairwise_iff_getElem];intro i j hi O I;have h:=hs i j (Nat.zero_le _) I O;simp only [List.getD,List.getElem?_eq_getElem hi,List.getElem?_eq_getElem O,Option.getD_some] at h;have J:m[i]≠m[j]:=fun e=>by have:=(List.getElem_inj nd).1 e;omega
 have h1:=hb _ ((hm _).1 (List.getElem_mem hi));have Q:=hb _ ((hm _).1 (List.getElem_mem O));have ha:am m[i]≠am m[j]:=fun e=>J (h1.am Q e);unfold Le mE at h;unfold mE;split at h<;>split<;>omega
def GL (tr:List As) (ld:List Int):Nat->Int->Bool
 |0,_=>false
 |f+1,l=> !(aS tr (cL tr (am l))).rs.isEmpty && (aS tr (cL tr (am l))).rs.all fun x=>x==(aS tr (cL tr (am l))).lit||decide (lv tr x<=0)||decide (x∈ld)||GL tr ld f x
def mI (tr:List As) (ld:List Int) (l:Int):Bool:=GL tr ld (cL tr (am l)+1) l
theorem FR {tr:List As} (ok:dN tr) {ld:List Int}: ∀ (f:Nat) {l:Int},cL tr (am l)<tr.length->cL tr (am l)<f->GL tr ld f l=mI tr ld l:=by
 have key: ∀ (f g:Nat) {l:Int},cL tr (am l)<tr.length->cL tr (am l)<f->cL tr (am l)<g->GL tr ld f l=GL tr ld g l:=by
  intro f
  induction f with
  |zero=>intro g l _ h;omega
  |succ f Q=>
   intro g l hl hf U;cases g with
   |zero=>omega
   |succ g=>
    unfold GL;by_cases hr:(aS tr (cL tr (am l))).rs= []
    . rw [hr];rfl
    . obtain ⟨_,_,O⟩:=ok.dY hl hr;have I: ∀x∈(aS tr (cL tr (am l))).rs,(x==(aS tr (cL tr (am l))).lit||decide (lv tr x<=0)||decide (x∈ld)||GL tr ld f x)=(x==(aS tr (cL tr (am l))).lit||decide (lv tr x<=0)||decide (x∈ld)||GL tr ld g x):=by
       intro x J;by_cases e:x=(aS tr (cL tr (am l))).lit
       . simp [e]
       . obtain ⟨b1,b2⟩:=O x J e;rw [Q g b1.lt (by omega) (by omega)]
      congr 1;rw [Bool.eq_iff_iff,List.all_eq_true,List.all_eq_true];constructor
      . intro h x J;rw [<- I x J];exact h x J
      . intro h x J;rw [I x J];exact h x J
 intro f l hl hf;exact key f (cL tr (am l)+1) hl hf (by omega)
theorem D4 {tr:List As} (ok:dN tr) {ld:List Int} {l:Int} (hl:cL tr (am l)<tr.length):
 mI tr ld l=(!(aS tr (cL tr (am l))).rs.isEmpty && (aS tr (cL tr (am l))).rs.all fun x=>x==(aS tr (cL tr (am l))).lit||decide (lv tr x<=0)||decide (x∈ld)||mI tr ld x):=by
 unfold mI;rw [GL];by_cases hr:(aS tr (cL tr (am l))).rs= []
 . rw [hr];rfl
 . obtain ⟨_,_,O⟩:=ok.dY hl hr;have I: ∀x∈(aS tr (cL tr (am l))).rs,(x==(aS tr (cL tr (am l))).lit||decide (lv tr x<=0)||decide (x∈ld)||GL tr ld (cL tr (am l)) x)=(x==(aS tr (cL tr (am l))).lit||decide (lv tr x<=0)||decide (x∈ld)||GL tr ld (cL tr (am x)+1) x):=by
    intro x J;by_cases e:x=(aS tr (cL tr (am l))).lit
    . simp [e]
    . obtain ⟨b1,b2⟩:=O x J e;rw [FR ok _ b1.lt b2];rfl
   congr 1;rw [Bool.eq_iff_iff,List.all_eq_true,List.all_eq_true];constructor
   . intro h x J;rw [<- I x J];exact h x J
   . intro h x J;rw [I x J];exact h x J
def shr (tr:List As) (ld:List Int):List Int:=
 match ld with
 | []=> []
 |x::t=>x::t.filter fun y=>decide (0<lv tr y) && !mI tr ld y
theorem DA {tr:List As} {ld:List Int} {x:Int} (h:x∈shr tr ld):x∈ld:=by
 cases ld with
 |nil=>exact h
 |cons y t=>
  rcases List.mem_cons.1 h with e|e
  . rw [e];simp
  . exact List.mem_cons_of_mem _ (List.mem_filter.1 e).1
theorem Iz (tr:List As) (ld:List Int):(shr tr ld).length<=ld.length:=by
 cases ld with
 |nil=>exact Nat.le_refl _
 |cons y t=>simp [shr];exact List.length_filter_le _ _
def xM (v:Int->Int) (c:List Int):Prop:= ∃l∈c,v l=1
structure zq (tr:List As) (v:Int->Int):Prop where
 neg: ∀l,w_ l=true->v (-l)= -v l
 val: ∀l,v l=0\/v l=1\/v l= -1
 set: ∀i,i<tr.length->v (aS tr i).lit≠0
 kG: ∀i,i<tr.length->(aS tr i).rs≠[]->xM v (aS tr i).rs
theorem E4 {tr:List As} {v:Int->Int} (ok:dN tr) (V:zq tr v) {c:List Int} {p:Nat} (hp:p<tr.length) (hr:(aS tr p).rs≠[]) (h:xM v c):xM v (po tr p c):=by
 obtain ⟨x,J,ex⟩:=h;by_cases e:x= -(aS tr p).lit
 . obtain ⟨y,I,Q⟩:=V.kG p hp hr;refine ⟨y,jb.2 (.inr ⟨I,?_⟩),Q⟩;intro O;have:=V.neg _ (ok.qv p hp);rw [<- e,<- O] at this;omega
 . exact ⟨x,jb.2 (.inl ⟨J,e⟩),ex⟩
theorem wh {tr:List As} {v:Int->Int} (ok:dN tr) (V:zq tr v) {L:Int}: ∀ {k:Nat} {c:List Int},In tr L c k->k<=tr.length->xM v c->xM v (lrn tr L k c)
 |0,_,_,_,h=>h
 |k+1,c,h,hk,ht=>by
  by_cases hn:fO tr c L=0\/fO tr c L=1/\0<L
  . rw [wJ hn];exact ht
  . by_cases e:(aS tr k).bi=L/\ -(aS tr k).lit∈c
    . obtain ⟨h1,X,Q,_⟩:=h.step ok hn (p:=k) (by omega) e.1 e.2 fun x I hl=>by have:=h.pl x I hl;omega
      rw [X];exact wh ok V h1 (by omega) (E4 ok V (by omega) Q ht)
    . have U:In tr L c k:=⟨h.br,h.le,fun x I hl=>by
       have:=h.pl x I hl;rcases Nat.lt_or_ge (cL tr (am x)) k with O|O
       . exact O
       . have J:cL tr (am x)=k:=by omega
         refine absurd ⟨?_,?_⟩ e
         . rw [<- J];exact hl
         . rw [<- J,(h.br x I).eq,Int.neg_neg];exact I,h.mZ,h.nn,h.nd⟩
      rw [lrn,if_neg hn,if_neg e];exact wh ok V U (by omega) ht
theorem E2 {tr:List As} {v:Int->Int} (ok:dN tr) (V:zq tr v): ∀ (i:Nat),i<tr.length->(aS tr i).bi<=0->v (aS tr i).lit=1:=by
 intro i
 induction i using Nat.strongRecOn with
 |_ i O=>
  intro hi hl;have hr:(aS tr i).rs≠[]:=fun e=>by have:=(ok.first hi e).1;omega
  obtain ⟨y,J,Q⟩:=V.kG i hi hr;by_cases e:y=(aS tr i).lit
  . rw [<- e];exact Q
  . obtain ⟨b1,b2⟩:=(ok.dY hi hr).2.2 y J e;have I:=b1.lt;have:=ok.mono (i:=cL tr (am y)) (j:=i) (by omega) hi;have h1:=O _ b2 I (by omega);rw [b1.eq,V.neg _ b1.qv] at h1;omega
theorem vq {tr:List As} {v:Int->Int} (ok:dN tr) (V:zq tr v) {l:Int} (h:jJ tr l) (hl:lv tr l<=0):v l= -1:=by
 have h1:=E2 ok V _ h.lt hl;rw [h.eq,V.neg _ h.qv] at h1;omega
theorem EW {tr:List As} {v:Int->Int} (ok:dN tr) (V:zq tr v) {ld:List Int}: ∀ (n:Nat) {l:Int},jJ tr l->cL tr (am l)=n->v l=1->mI tr ld l=true->∃y∈ld,v y=1/\cL tr (am y)<n:=by
 intro n
 induction n using Nat.strongRecOn with
 |_ n Q=>
  intro l hb hn hv hi;subst hn;rw [D4 ok hb.lt] at hi;simp only [Bool.and_eq_true,Bool.not_eq_true',List.isEmpty_eq_false_iff,List.all_eq_true,Bool.or_eq_true,beq_iff_eq,decide_eq_true_eq] at hi;obtain ⟨hr,ha⟩:=hi;obtain ⟨y,J,I⟩:=V.kG _ hb.lt hr;by_cases e:y=(aS tr (cL tr (am l))).lit
  . rw [hb.eq] at e;have:=V.neg _ hb.qv;rw [<- e,I] at this;omega
  . obtain ⟨b1,b2⟩:=(ok.dY hb.lt hr).2.2 y J e;rcases ha y J with ((h|h)|h)|h
    . exact absurd h e
    . have:=vq ok V b1 h;omega
    . exact ⟨y,h,I,b2⟩
    . obtain ⟨z,O,z2,z3⟩:=Q _ b2 b1 rfl I h;exact ⟨z,O,z2,by omega⟩
theorem A_ {tr:List As} {v:Int->Int} (ok:dN tr) (V:zq tr v) {ld:List Int} (hb: ∀x∈ld,jJ tr x) (h:xM v ld):xM v (shr tr ld):=by
 have key: ∀ (n:Nat) {x:Int},x∈ld->v x=1->cL tr (am x)=n->xM v (shr tr ld):=by
  intro n
  induction n using Nat.strongRecOn with
  |_ n O=>
   intro x I hv hn;by_cases hs:x∈shr tr ld
   . exact ⟨x,hs,hv⟩
   . have hp: ¬lv tr x<=0:=fun e=>by have:=vq ok V (hb x I) e;omega
     have hi:mI tr ld x=true:=by
      cases ld with
      |nil=>simp at I
      |cons y t=>
       rcases List.mem_cons.1 I with e|e
       . exact absurd (by rw [e];simp [shr]) hs
       . cases hi:mI tr (y::t) x with
         |true=>rfl
         |false=>exact absurd (List.mem_cons_of_mem _ (List.mem_filter.2 ⟨e,by rw [hi];simp;omega⟩)) hs
     obtain ⟨z,J,z2,z3⟩:=EW ok V n (hb x I) hn hv hi;exact O _ z3 J z2 rfl
 obtain ⟨x,I,hv⟩:=h;exact key _ I hv rfl
structure yz (tr:List As) (L:Int) (ld:List Int):Prop where
 br: ∀x∈ld,jJ tr x
 zero:L=0->ld= []
 bH: ∀i,i<ld.length->(lv tr (ld.getD i 0)=L↔i=0)
 le: ∀x∈ld,lv tr x<=L
 nn:0<=L
theorem K5 {tr:List As} {c:List Int} {L x y:Int} (Q:x∈c) (O:y∈c) (I:x≠y) (h1:lv tr x=L) (U:lv tr y=L):1<fO tr c L:=by
 unfold fO;rw [List.countP_eq_length_filter];have mx:x∈c.filter fun z=>lv tr z==L:=List.mem_filter.2 ⟨Q,by simpa using h1⟩;have J:y∈c.filter fun z=>lv tr z==L:=List.mem_filter.2 ⟨O,by simpa using U⟩;obtain ⟨s,t,e⟩:=List.append_of_mem mx;rw [e] at J ⊢;rw [List.length_append,List.length_cons];rcases List.mem_append.1 J with h|h
 . have:=List.length_pos_of_mem h;omega
 . rcases List.mem_cons.1 h with h|h
   . exact absurd h.symm I
   . have:=List.length_pos_of_mem h;omega
theorem HL {tr:List As} (ok:dN tr) {L:Int} {c:List Int} {k:Nat} (h:In tr L c k) (he:c= []/\(L=0\/c= [])\/fO tr c L=1/\0<L):yz tr L (jo tr c):=by
 have hb: ∀x∈jo tr c,jJ tr x:=fun x U=>h.br x ((iS ok h.br).1 U);have J: ∀x∈jo tr c,lv tr x<=L:=fun x U=>h.le x ((iS ok h.br).1 U);have nil:c= []->jo tr c= []:=fun e=>by
  rw [List.eq_nil_iff_forall_not_mem];intro x U;have:=(iS ok h.br).1 U;rw [e] at this;simp at this
 refine ⟨hb,fun e=> ?_,fun i hi=> ?_,J,h.nn⟩
 . rcases he with ⟨a,_⟩| ⟨_,b⟩
   . exact nil a
   . omega
 . rcases he with ⟨a,_⟩| ⟨h1,hL⟩
   . rw [nil a] at hi;simp at hi
   . have st:=l7 h.br;have mem: ∀j,j< (jo tr c).length->(jo tr c).getD j 0∈jo tr c:=fun j X=>by simp [List.getD,X]
     have O: ∀a b,a<b->b< (jo tr c).length->lv tr ((jo tr c).getD b 0)<=lv tr ((jo tr c).getD a 0):=by
      intro a b Y V;have:=List.pairwise_iff_getElem.1 st a b (by omega) V Y;have e1:(jo tr c).getD a 0=(jo tr c)[a]'(by omega):=by simp [List.getD,show a< (jo tr c).length by omega]
      have e2:(jo tr c).getD b 0=(jo tr c)[b]:=by simp [List.getD,V]
      rw [e1,e2];unfold mE at this;split at this<;>omega
     obtain ⟨y,hy,I⟩:=od.1 (show 0<fO tr c L by omega);obtain ⟨j,X,ej⟩:=List.mem_iff_getElem.1 ((iS ok h.br).2 hy);have Q:(jo tr c).getD j 0=y:=by simp [List.getD,X,ej]
     have Z:lv tr ((jo tr c).getD 0 0)=L:=by
      rcases Nat.eq_zero_or_pos j with e|e
      . subst e;rw [Q];exact I
      . have h2:=O 0 j e X;have h3:=J _ (mem 0 (by omega));rw [Q,I] at h2;omega
     constructor
     . intro hl;refine Classical.byContradiction fun ap=> ?_;have hd:(jo tr c).getD i 0≠(jo tr c).getD 0 0:=by
        intro e;have:=List.pairwise_iff_getElem.1 st 0 i (by omega) hi (by omega);simp only [List.getD,List.getElem?_eq_getElem hi,List.getElem?_eq_getElem (show 0< (jo tr c).length by omega),Option.getD_some] at e;rw [e] at this;exact pG _ _ this
       have aE:1<fO tr c L:=K5 ((iS ok h.br).1 (mem 0 (by omega))) ((iS ok h.br).1 (mem i hi)) (fun e=>hd e.symm) Z hl;omega
     . rintro rfl;exact Z
theorem yz.shr {tr:List As} {L:Int} {ld:List Int} (h:yz tr L ld):yz tr L (shr tr ld):=by
 refine ⟨fun x J=>h.br x (DA J),fun e=>by rw [h.zero e];rfl,fun i hi=> ?_,fun x J=>h.le x (DA J),h.nn⟩;cases ld with
 |nil=>simp [LeP.shr] at hi
 |cons y t=>
  have Q:=(h.bH 0 (by simp)).2 rfl;have e0:(y::t).getD 0 0=y:=rfl;rw [e0] at Q;cases i with
  |zero=>exact ⟨fun _=>rfl,fun _=>Q⟩
  |succ i=>
   refine ⟨fun hl=> ?_,fun e=>by omega⟩;have I:i< (t.filter fun z=>decide (0<lv tr z) && !mI tr (y::t) z).length:=by simpa [LeP.shr] using hi
   have em:(LeP.shr tr (y::t)).getD (i+1) 0=(t.filter fun z=>decide (0<lv tr z) && !mI tr (y::t) z)[i]:=by simp [LeP.shr,List.getD,I]
   rw [em] at hl;have hm:=(List.mem_filter.1 (List.getElem_mem I)).1;obtain ⟨j,O,U⟩:=List.mem_iff_getElem.1 hm;have:=(h.bH (j+1) (by simpa using O)).1 (by rw [<- hl,<- U];simp [List.getD,O]);omega
end
section
theorem He {tr:List As} {t i:Nat} (hi:i<t):G8 (tr.take t) i=G8 tr i:=by
 have h1:(tr.take t).take i=tr.take i:=by rw [List.take_take,Nat.min_eq_left (by omega)]
 have I:ic (tr.take t) i=ic tr i:=by
  unfold ic;split
  . rfl
  . rw [jn (by omega)]
 unfold G8;rw [h1,I,jn hi]
theorem EJ {tr:List As} {t:Nat} (ht:t<=tr.length) (hl:t<=4096) (h:(List.range t).all (G8 tr)=true):dN (tr.take t):=by
 refine (oB (tr:=tr.take t) ?_).1;have hlen:(tr.take t).length=t:=by rw [List.length_take];omega
 unfold pH;rw [hlen,decide_eq_true hl,Bool.true_and,List.all_eq_true];intro i hi;rw [List.mem_range] at hi;rw [He hi];exact List.all_eq_true.1 h i (List.mem_range.2 hi)
theorem pq {f:Nat->Bool} {t:Nat} (h:(List.range t).all f=true) (hf:f t=true):(List.range (t+1)).all f=true:=by
 rw [List.range_succ,List.all_append,h];simp [hf]
theorem EU {f:Nat->Bool} {t n:Nat} (ht:t<n) (hf:f t=false):(List.range n).all f=false:=by
 cases h:(List.range n).all f with
 |false=>rfl
 |true=>have:=List.all_eq_true.1 h t (List.mem_range.2 ht);rw [hf] at this;exact this.symm
def tP (tr:List As) (u:Int):Int:=if cL tr u<tr.length then (cL tr u:Int)+1 else 0
theorem DV (u:Int):tP [] u=0:=by unfold tP;simp
theorem ra {tr:List As} {t:Nat} (h:t<=tr.length):(tr.take t).length=t:=by rw [List.length_take];omega
theorem wb {tr:List As} {t:Nat} (ht:t<tr.length) (h: ¬cL (tr.take t) (am (aS tr t).lit)<t) (u:Int):tP (tr.take (t+1)) u=if u=am (aS tr t).lit then (t:Int)+1 else tP (tr.take t) u:=by
 have J:=lC (tr:=tr) (v:=u) (i:=t) (by omega);have I:=lC (tr:=tr) (v:=u) (i:=t+1) (by omega);have l1:=ra (tr:=tr) (t:=t) (by omega);have l2:=ra (tr:=tr) (t:=t+1) (by omega);unfold tP;rw [l1,l2];by_cases hu:u=am (aS tr t).lit
 . rw [if_pos hu];have U:cL tr u=t:=by
    subst hu;rw [(lC (by omega)).1] at h;refine BR ht rfl fun j V=>nD (by omega)
   rw [if_pos (I.1.2 (by omega)),I.2 (by omega),U]
 . rw [if_neg hu];by_cases hl:cL tr u<t
   . rw [if_pos (I.1.2 (by omega)),if_pos (J.1.2 hl),I.2 (by omega),J.2 hl]
   . rw [if_neg (fun O=> ?_),if_neg (fun O=>hl (J.1.1 O))];have X:=I.1.1 O;have Q:cL tr u=t:=by omega
     have:=om (tr:=tr) (v:=u) (by omega);rw [Q] at this;exact hu this.symm
theorem rR {tr:List As} {u:Int}:tP tr u=0↔¬cL tr u<tr.length:=by
 unfold tP;split<;>omega
theorem Fx {tr:List As} (hl:tr.length<=4096) (h:(List.range tr.length).all (G8 tr)=true):pH tr=true:=by
 unfold pH;rw [decide_eq_true hl,h];rfl
theorem Dj {tr:List As} {i:Nat} (hi:i<tr.length) (h:G8 tr i=false):pH tr=false:=by
 unfold pH;rw [EU hi h,Bool.and_false]
def ER (tr:List As) (i:Nat):Bool:=decide ((aS tr i).rs.length<=256) && decide ((aS tr i).lit∈(aS tr i).rs) && C6 (tr.take i) (wo (aS tr i).rs (aS tr i).lit)
end
end Go.LeP
namespace Go.Proofs.YtenmibfmhccmiaaGreat.W.Le
open Go Go.Fw Go.RowKit Go.SoP Go.LiP Go.LeP
open Go.Proofs.Tryz (prog)
section
variable {w:World} {p q:Option Addr} {n c m d:Nat} {tr:List As} {l:List Int}
def TV (w:World) (p:Option Addr) (tr:List As):Prop:= ∀i,i<tr.length->∃ (a:Addr) (s:Sl),p=some a/\aB w (a.add (i*3)) 0 [.int .i64 (aS tr i).lit,.int .i64 (aS tr i).bi,.slice s.p s.n s.c]/\
 s.n=(aS tr i).rs.length/\s.n<=maxLen/\Vw (Value.int .i64) w s.p (aS tr i).rs
theorem TV.grow {w':World} (h:TV w p tr) (g:ao w w'):TV w' p tr:=by
 intro i hi;obtain ⟨a,s,rfl,I,h1,O,J⟩:=h i hi;exact ⟨a,s,rfl,aB.keep g id I,h1,O,J.grow g⟩
theorem TV.ix (h:TV w p tr) (hn:n=tr.length) {X:Int} (i:Nat) (e:X=i) (hi:i<tr.length) {K:Addr->Prop}
 (I: ∀a (s:Sl),aB w a 0 [.int .i64 (aS tr i).lit,.int .i64 (aS tr i).bi,.slice s.p s.n s.c]->s.n=(aS tr i).rs.length->s.n<=maxLen->Vw (Value.int .i64) w s.p (aS tr i).rs->K a):aP p n X 3 K:=by
 subst e hn;obtain ⟨a,s,rfl,J,h1,Q,O⟩:=h i hi;exact ⟨a,rfl,by omega,by omega,I _ s (by rw [Int.toNat_natCast];exact J) h1 Q O⟩
theorem AH (l:Int):w_ l=bq l:=rfl
theorem cK {l:Int} (h: -9223372036854775808<l) (I:l<9223372036854775808) (w:World):Calls prog co.id #[.int .i64 l] w fun e w'=>e= .returned (.int .i64 (am l))/\ao w w':=by
 refine co.ak ?_;unfold co.w;rw [aD (x:=0 - l) (by omega) (by omega)];refine ⟨?_,aF.refl w⟩;unfold imax am;congr 2;split<;>split<;>omega
end
section
variable {w:World} {p q:Option Addr} {n c m d:Nat} {tr:List As} {l:List Int}
theorem jt:HN prog ie aC aC=true:=by kernel_rfl
theorem jm:rH prog oP aC cO=true:=by kernel_rfl
theorem nH {x:Int} (h:w_ x=true):(Lit.int .i64 (am x)).wf=true:=by
 have:=AI (x:=x) h;exact xk (by omega) (by omega)
theorem Cn {x:Int} (h:w_ x=true):(Lit.int .i64 x).wf=true:=by
 have:=cx h;exact xk (by omega) (by omega)
theorem Dg {w2:World} {u v:Int} {m d:Nat} {K:World->Prop} (h:aY (.cells #[.int .i64 0,.int .i64 0,.slice none 0 0] bQ) w n w2)
 (I: ∀w3,bA w3 n #[.int .i64 u,.int .i64 v,.slice q m d]->ao w w3->K w3): ∃w3,ah (Addr.mk n 0 none) 0 [.int .i64 u,.int .i64 v,.slice q m d] w2 w3/\K w3:=by
 have e:=h.num;exact bj h.has rfl rfl fun w3 H m=>I w3 H (h.mod.then m fun k I (e:k=n)=>by omega)
theorem sq {t:Nat}:ic tr (t+1)=(aS tr t).bi:=by unfold ic;rw [if_neg (by omega),Nat.add_sub_cancel]
theorem xO:ic tr 0=0:=by unfold ic;rw [if_pos rfl]
end
section
variable {w:World} {p q:Option Addr} {n c m d:Nat} {tr:List As} {l:List Int}
theorem _root_.Go.LeP.dN.bV (ok:dN tr) {t:Nat} (ht:t<tr.length): ¬cL (tr.take t) (am (aS tr t).lit)<t:=by
 intro e;rw [(lC (by omega)).1] at e;exact ok.uq _ t e ht (om (by omega))
theorem ru {b n:Nat} {s I:Int->Int} (h:MI prog aC aC w b n s) (e: ∀u,s u=I u):MI prog aC aC w b n I:=by
 rw [<- show s=I from funext e];exact h
theorem lK {v:Int} (hl:tr.length<=4096) (h:cL tr v<tr.length):IntKind.i64.wrap (tP tr v - 1)=(cL tr v:Nat):=by
 unfold tP;rw [if_pos h,aD (by omega) (by omega)];omega
theorem np (h:TV w p tr) (hn:n=tr.length) (ok:dN tr) (hl:tr.length<=4096):Calls prog jy.id #[.slice p n c] w fun e w'=> ∃b,e= .returned (.map (some b))/\MI prog aC aC w' b tr.length (tP tr)/\ao w w'/\w.heap.size<=b:=by
 refine jy.ak ?_;intro n1 w2 V;have e1:=V.num;have M2:MI prog aC aC w2 n1 0 (tP (tr.take 0)):=ru (MI.new V) fun u=> (DV u).symm;refine ⟨fun I w' k=> ∃t:Nat,I=t/\t<=tr.length/\k=tr.length - t/\MI prog aC aC w' n1 t (tP (tr.take t))/\ao w w',⟨_,0,rfl,Nat.zero_le _,rfl,M2,V.mod⟩,?_⟩;rintro I w7 k _ ⟨t,rfl,ht,rfl,M,G⟩;refine aj (fun s=> ?_) (fun s=> ?_)
 . have s:t<tr.length:=by simp at s;omega
   refine (h.grow G).ix hn t rfl s fun a x C e1 e2 v=> ⟨_,_,_,_,_,C,fun ad ag qz=>Dg qz fun X H J=> ⟨_,ae H rfl,?_⟩⟩
   have hb:=cx (ok.qv t s);refine (cK (by omega) (by omega) X).mono ?_;rintro e ap ⟨rfl,O⟩;have Q:=(G.trans J).trans O;obtain ⟨U,hr,Y,Z⟩:=(M.grow (J.trans O)).put jt (by unfold maxLen;omega) (nH (ok.qv t s)) (v:=(t:Int)+1) (xk (by omega) (by omega));refine ⟨_,rfl,U,by rw [aD (by omega) (by omega)];exact hr,_,?_,t+1,wN (by omega) (by omega),by omega,rfl,ru Y fun u=> (wb s (ok.bV s) u).symm,aF.bV Q Z (by omega)⟩;omega
 . have s:t=tr.length:=by simp at s;omega
   subst s;rw [List.take_length] at M;exact ⟨n1,rfl,M,G,by omega⟩
theorem JY {x:Int}:iy [x]=bq x:=by unfold iy;simp
theorem Ln {x:Int} {b:Nat} (h:bA w b #[.int .i64 x]):Vw (Value.int .i64) w (some ⟨b,0,none⟩) [x]:=by
 intro j I;have:j=0:=by simpa using I
 subst this;exact ⟨_,rfl,ae h rfl⟩
theorem Be {t b nn:Nat} (h:TV w p tr) (hn:n=tr.length) (hl:tr.length<=4096) (ht:t<tr.length) (hi:w_ (aS tr t).lit=true) (M:MI prog aC aC w b nn (tP (tr.take t))) (hv:Vw (Value.int .i64) w q (aS tr t).rs) (hm:m=(aS tr t).rs.length) (Q:m<=maxLen):
 Calls prog gR.id #[.slice p n c,.map (some b),.agg #[.int .i64 (aS tr t).lit,.int .i64 (aS tr t).bi,.slice q m d]] w fun e w'=>e= .returned (.bool (ER tr t))/\ao w w':=by
 refine gR.ak ?_;intro n1 w2 h2;have H:=h2.has;have G2:=h2.mod;generalize a8:(aS tr t).rs=rs at*
 generalize a7:(aS tr t).lit=Y at*
 have J:ER tr t=(decide (rs.length<=256) && decide (Y∈rs) && C6 (tr.take t) (LeP.wo rs Y)):=by unfold ER;rw [a8,a7]
 have bk:(tr.take t).length=t:=ra (by omega);have U: ∀ {w':World} {x:Int},ao w w'->x∈rs->x≠Y->¬jJ (tr.take t) x->(Ending.returned (.bool false)= .returned (.bool (ER tr t))/\ao w w'):=by
  intro w' x g Q O hb;have:C6 (tr.take t) (LeP.wo rs Y)=false:=by
   cases e:C6 (tr.take t) (LeP.wo rs Y) with
   |false=>rfl
   |true=>exact absurd (kN.1 e x (nW.2 ⟨Q,O⟩)) hb
  rw [J,this,Bool.and_false];exact ⟨rfl,g⟩
 refine ⟨_,_,_,ae H rfl,aj (fun r=> ?_) (fun r=> ⟨_,_,_,ae H rfl,(fR (hv.grow G2) hm Q).mono ?_⟩)⟩
 . simp at r;rw [J,decide_eq_false (by omega)];exact ⟨rfl,G2⟩
 have r:rs.length<=256:=by simp at r;omega
 rintro e w5 ⟨rfl,g5⟩;have G5:=G2.trans g5;have H5:=H.grow g5;refine ⟨_,rfl,aj (fun r2=> ?_) (fun r2=> ⟨_,_,_,ae H5 rfl,_,ae H5 rfl,(sW (hv.grow G5) hm Q _).mono ?_⟩)⟩
 . have V:iy rs=false:=by
    cases e:iy rs with
    |false=>rfl
    |true=>rw [e] at r2;simp at r2
   have aa:rs.all bq=false:=by
    unfold iy at V;rw [decide_eq_true (p:=_<=4096) (by omega),Bool.and_true] at V;exact V
   rw [List.all_eq_false] at aa;obtain ⟨x,bb,aw⟩:=aa;refine U G5 bb (fun e=> ?_) fun hb=> ?_
   . subst e;exact aw hi
   . exact aw hb.qv
 have V:iy rs=true:=by
  cases e:iy rs with
  |true=>rfl
  |false=>rw [e] at r2;simp at r2
 have av:=(cX V).1;rintro e w9 ⟨rfl,g9⟩;have G9:=G5.trans g9;have H9:=H5.grow g9;refine ⟨_,rfl,aj (fun r3=> ?_) (fun r3=> ⟨_,_,_,ae H9 rfl,?_⟩)⟩
 . have r3:Y ∉ rs:=by simpa using r3
   rw [J,decide_eq_false r3,Bool.and_false];exact ⟨rfl,G9⟩
 have r3:Y∈rs:=by simpa using r3
 refine ⟨fun I w' k=> ∃j:Nat,I=j/\j<=rs.length/\k=rs.length - j/\(∀x∈rs.take j,x≠Y->jJ (tr.take t) x)/\ao w2 w',⟨_,0,rfl,Nat.zero_le _,rfl,by simp,g5.trans g9⟩,?_⟩;rintro I a' k _ ⟨j,rfl,hj,rfl,ha,G⟩;refine aj (fun s=> ?_) (fun s=> ?_)
 . have s:j<rs.length:=by simp at s;omega
   refine (hv.grow (G2.trans G)).ix 0 (by omega) hm (by omega) fun a e=> ⟨_,e,_,ae (H.grow G) rfl,?_⟩
   rw [Int.toNat_natCast];refine aj (fun r4=> ⟨_,?_,j+1,wN (by omega) (by omega),by omega,rfl,fun x Q O=> ?_,G⟩) (fun r4=> ?_)
   . omega
   . rcases (cW s).1 Q with e|e
     . exact ha x e O
     . exact absurd (e.trans (by simpa using r4)) O
   have r4:rs.getD j 0≠Y:=by simpa using r4
   have ac:=av _ (bo s);have hb:=cx ac;refine (cK (by omega) (by omega) a').mono ?_;rintro e a_ ⟨rfl,ar⟩;have Z:=(G2.trans G).trans ar;refine ⟨_,rfl,a_,_,(M.grow Z).cA jt (nH ac),aj (fun X=> ?_) (fun X=> ?_)⟩
   . refine U Z (bo s) r4 fun hB=> ?_;have X:tP (tr.take t) (am (rs.getD j 0))=0:=by simpa using X
     exact rR.1 X hB.lt
   have X:cL (tr.take t) (am (rs.getD j 0))< (tr.take t).length:=Classical.byContradiction fun e=>by
    rw [rR.2 e] at X;simp at X
   have r6:=X;rw [bk] at r6;rw [lK (by omega) X];refine (h.grow Z).ix hn _ rfl (by omega) fun a2 x C e1 e2 v=> ⟨_,C.1,?_⟩
   rw [aD (by omega) (by omega),Int.zero_sub];refine aj (fun r7=>U Z (bo s) r4 fun hB=> ?_) (fun r7=> ⟨_,?_,j+1,wN (by omega) (by omega),by omega,rfl,fun x Q O=> ?_,G.trans ar⟩)
   . have:=hB.eq;rw [jn r6] at this;rw [this] at r7;simp at r7
   . omega
   . rcases (cW s).1 Q with e|e
     . exact ha x e O
     . subst e;refine ⟨ac,X,?_⟩;rw [jn r6];simpa using r7
 . have s:j=rs.length:=by simp at s;omega
   subst s;rw [List.take_length] at ha;refine ⟨?_,G2.trans G⟩;rw [J,decide_eq_true r,decide_eq_true r3,kN.2 fun x Q=>ha x (nW.1 Q).1 (nW.1 Q).2];rfl
theorem KJ (t:Nat):G8 tr t=(w_ (aS tr t).lit && decide (¬cL (tr.take t) (am (aS tr t).lit)<t) && decide (ic tr t<=(aS tr t).bi/\(aS tr t).bi<=ic tr t+1) &&
 (if (aS tr t).bi>ic tr t then (aS tr t).rs.isEmpty else ER tr t)):=rfl
theorem rN (h:TV w p tr) (hn:n=tr.length):Calls prog km.id #[.slice p n c] w fun e w'=>e= .returned (.bool (pH tr))/\ao w w':=by
 refine km.ak ?_;refine aj (fun q=> ?_) (fun q=> ?_)
 . simp at q;refine ⟨?_,aF.refl w⟩;unfold pH;rw [decide_eq_false (by omega)];rfl
 have hl:tr.length<=4096:=by simp at q;omega
 intro n1 w2 h2;have e1:=h2.num;have M2:MI prog aC aC w2 n1 0 (tP (tr.take 0)):=ru (MI.new h2) fun u=> (DV u).symm;refine ⟨fun L I w' k=> ∃t:Nat,I=t/\t<=tr.length/\L=ic tr t/\(List.range t).all (G8 tr)=true/\k=tr.length - t/\MI prog aC aC w' n1 t (tP (tr.take t))/\ao w w',⟨_,0,rfl,Nat.zero_le _,xO.symm,rfl,rfl,M2,h2.mod⟩,?_⟩;rintro L I w8 k _ ⟨t,rfl,ht,rfl,ha,rfl,M,G⟩;refine aj (fun s=> ?_) (fun s=> ⟨?_,G⟩)
 . have s:t<tr.length:=by simp at s;omega
   have nM: ∀ {w':World},ao w w'->G8 tr t=false->(Ending.returned (.bool false)= .returned (.bool (pH tr))/\ao w w'):=fun g hf=>by
    rw [Dj s hf];exact ⟨rfl,g⟩
   have aT:=EJ ht (by omega) ha;have a6:(tr.take t).length=t:=ra ht;have b8:0<=ic tr t/\ic tr t<=t:=by
    cases t with
    |zero=>rw [xO];omega
    |succ t=>
     rw [sq];have h1:=aT.nn (i:=t) (by omega);have h2:=aT.le (i:=t) (by omega);rw [jn (by omega)] at h1 h2;omega
   refine (h.grow G).ix hn t rfl s fun a x C e1 e2 v=> ⟨_,_,_,_,_,C,fun b4 b7 ag=>Dg ag fun bx H an=> ⟨_,ae H rfl,fun b3 b6 tj=> ?_⟩⟩
   have vw:=Ln tj.has;refine (fR vw rfl (by unfold maxLen;simp)).mono ?_;rw [JY];rintro e bb ⟨rfl,bk⟩;have g:=(tj.mod.trans bk)
   have aw:=(G.trans an).trans g;have av:=H.grow g;have J:=KJ (tr:=tr) t;refine ⟨_,rfl,aj (fun r=>nM aw ?_) (fun r=> ?_)⟩
   . have:w_ (aS tr t).lit=false:=by
      cases e:w_ (aS tr t).lit with
      |false=>rfl
      |true=>rw [<- AH,e] at r;simp at r
     rw [J,this];rfl
   have r:w_ (aS tr t).lit=true:=by
    cases e:w_ (aS tr t).lit with
    |true=>rfl
    |false=>rw [<- AH,e] at r;simp at r
   have hb:=cx r;refine ⟨_,ae av rfl,(cK (by omega) (by omega) bb).mono ?_⟩;rintro e az ⟨rfl,Z⟩;have Q:=aw.trans Z;have O:=av.grow Z;have ac:=M.grow ((an.trans g).trans Z);refine ⟨_,rfl,az,_,ac.cA jt (nH r),aj (fun V=>nM Q ?_) (fun V=> ?_)⟩
   . have V:cL (tr.take t) (am (aS tr t).lit)<t:=Classical.byContradiction fun e=>by
      rw [rR.2 (by rw [a6];exact e)] at V;simp at V
     rw [J,decide_eq_false (by simp [V]),Bool.and_false];rfl
   have V: ¬cL (tr.take t) (am (aS tr t).lit)<t:=fun e=>by
    unfold tP at V;rw [a6,if_pos e] at V;simp at V
   rw [aD (by omega) (by omega)];refine ⟨_,ae O rfl,aj (fun r3=>nM Q ?_) (fun r3=> ⟨_,ae O rfl,aj (fun r4=>nM Q ?_) (fun r4=> ⟨_,ae O rfl,_,_,_,ae O rfl,?_⟩)⟩)⟩
   . simp at r3;rw [J,decide_eq_false (p:=_<=_/\_) (by omega),Bool.and_false];rfl
   . simp at r4;rw [J,decide_eq_false (p:=_<=_/\_) (by omega),Bool.and_false];rfl
   have r3:ic tr t<=(aS tr t).bi:=by simpa using r3
   have r4:(aS tr t).bi<=ic tr t+1:=by simpa using r4
   rw [r,decide_eq_true (p:= ¬_) V,decide_eq_true (p:=_<=_/\_) ⟨r3,r4⟩,Bool.and_true,Bool.and_true,Bool.true_and] at J;refine aj (fun Y=>nM Q ?_) (fun Y=>aj (fun r6=> ?_) (fun r6=> ?_))
   . rw [J];split
     . rename_i e;rw [decide_eq_true e] at Y;simp [e1] at Y;simp [Y]
     . rename_i e;rw [decide_eq_false e] at Y;simp [e1] at Y;unfold ER;rw [Y];simp
   . have r6: ¬(aS tr t).bi>ic tr t:=by simpa using r6
     rw [if_neg r6] at J;refine ⟨_,_,_,_,_,jM O,(Be (h.grow Q) hn hl s r ac (v.grow ((an.trans g).trans Z)) e1 e2).mono ?_⟩;rintro e bu ⟨rfl,aa⟩;have a8:=O.grow aa;refine ⟨_,rfl,aj (fun r7=>nM (Q.trans aa) (by rw [J];simpa using r7)) (fun r7=> ⟨_,ae a8 rfl,(cK (by omega) (by omega) bu).mono ?_⟩)⟩;rintro e bc ⟨rfl,U⟩;obtain ⟨ap,hr,ar,X⟩:=(ac.grow (aa.trans U)).put jt (by unfold maxLen;omega) (nH r) (v:=(t:Int)+1) (xk (by omega) (by omega));refine ⟨_,rfl,ap,by rw [aD (by omega) (by omega)];exact hr,_,ae ((a8.grow U).put X (fun e=> ?_)) rfl,_,?_,t+1,wN (by omega) (by omega),by omega,sq.symm,pq ha (by rw [J];simpa using r7),rfl,ru ar fun u=> (wb s V u).symm,aF.bV ((Q.trans aa).trans U) X (by omega)⟩
     . have:=ag.num;have:=M.lt;omega
     . omega
   . have r6:(aS tr t).bi>ic tr t:=by simpa using r6
     rw [if_pos r6] at J;have r7:(aS tr t).rs.isEmpty=true:=by
      rw [decide_eq_true r6] at Y;simp [e1] at Y;simp [Y]
     refine ⟨_,ae O rfl,(cK (by omega) (by omega) az).mono ?_⟩;rintro e bc ⟨rfl,U⟩;obtain ⟨ap,hr,ar,X⟩:=(ac.grow U).put jt (by unfold maxLen;omega) (nH r) (v:=(t:Int)+1) (xk (by omega) (by omega));refine ⟨_,rfl,ap,by rw [aD (by omega) (by omega)];exact hr,_,ae ((O.grow U).put X (fun e=> ?_)) rfl,_,?_,t+1,wN (by omega) (by omega),by omega,sq.symm,pq ha (by rw [J];exact r7),rfl,ru ar fun u=> (wb s V u).symm,aF.bV (Q.trans U) X (by omega)⟩
     . have:=ag.num;have:=M.lt;omega
     . omega
 . have s:t=tr.length:=by simp at s;omega
   subst s;rw [Fx hl ha]
theorem sR (h:TV w p tr) (hn:n=tr.length) (ok:dN tr) (hl:tr.length<=4096) (hc:Vw (Value.int .i64) w q l) (hk:m=l.length) (X:m<=maxLen) (hi: ∀x∈l,w_ x=true):
 Calls prog jw.id #[.slice p n c,.slice q m d] w fun e w'=>e= .returned (.bool (C6 tr l))/\ao w w':=by
 refine jw.ak ?_;have ac:=X;unfold maxLen at ac;refine (np h hn ok hl).mono ?_;rintro e w1 ⟨b,rfl,M1,Z,_⟩;refine ⟨_,rfl,fun I w' k=> ∃t:Nat,I=t/\t<=l.length/\k=l.length - t/\(∀x∈l.take t,jJ tr x)/\ao w1 w',⟨_,0,rfl,Nat.zero_le _,rfl,by simp,aF.refl w1⟩,?_⟩;rintro I w7 k _ ⟨t,rfl,ht,rfl,ha,G⟩;have O: ∀ {w':World} {x:Int},ao w w'->x∈l->¬jJ tr x->(Ending.returned (.bool false)= .returned (.bool (C6 tr l))/\ao w w'):=by
  intro w' x g X hb;have:C6 tr l=false:=by
   cases e:C6 tr l with
   |false=>rfl
   |true=>exact absurd (kN.1 e x X) hb
  rw [this];exact ⟨rfl,g⟩
 refine aj (fun s=> ?_) (fun s=> ?_)
 . have s:t<l.length:=by simp at s;omega
   refine (hc.grow (Z.trans G)).ix 0 (by omega) hk (by omega) fun a e=> ⟨_,e,?_⟩
   rw [Int.toNat_natCast];have Q:=hi _ (bo s);have hb:=cx Q;refine (cK (by omega) (by omega) w7).mono ?_;rintro e aa ⟨rfl,U⟩;have V:=(Z.trans G).trans U;refine ⟨_,rfl,aa,_,(M1.grow (G.trans U)).cA jt (nH Q),aj (fun J=> ?_) (fun J=> ?_)⟩
   . refine O V (bo s) fun hB=> ?_;have J:tP tr (am (l.getD t 0))=0:=by simpa using J
     exact rR.1 J hB.lt
   have J:cL tr (am (l.getD t 0))<tr.length:=Classical.byContradiction fun e=>by
    rw [rR.2 e] at J;simp at J
   rw [lK hl J];refine (h.grow V).ix hn _ rfl J fun a2 x C e1 e2 v=> ⟨_,C.1,?_⟩
   rw [aD (by omega) (by omega),Int.zero_sub];refine aj (fun Y=>O V (bo s) fun hB=> ?_) (fun Y=> ⟨_,?_,t+1,wN (by omega) (by omega),by omega,rfl,fun x X=> ?_,G.trans U⟩)
   . rw [hB.eq] at Y;simp at Y
   . omega
   . rcases (cW s).1 X with e|e
     . exact ha x e
     . subst e;exact ⟨Q,J,by simpa using Y⟩
 . have s:t=l.length:=by simp at s;omega
   subst s;rw [List.take_length] at ha;rw [kN.2 ha];exact ⟨rfl,Z.trans G⟩
def qM (tr:List As) (l:List Int):Bool:=pH tr && iy l && C6 tr l
theorem xa (h:TV w p tr) (hn:n=tr.length) (V:Vw (Value.int .i64) w q l) (U:m=l.length) (Y:m<=maxLen):
 Calls prog kD.id #[.slice p n c,.slice q m d] w fun e w'=>e= .returned (.int .i64 (if qM tr l then 0 else 1))/\ao w w':=by
 refine kD.ak ?_;refine (rN h hn).mono ?_;rintro e w1 ⟨rfl,J⟩;refine ⟨_,rfl,aj (fun r=> ⟨?_,J⟩) (fun r=> (fR (V.grow J) U Y).mono ?_)⟩
 . have r:pH tr=false:=by simpa using r
   unfold qM;rw [r];rfl
 have r:pH tr=true:=by simpa using r
 rintro e w3 ⟨rfl,Q⟩;refine ⟨_,rfl,aj (fun I=> ⟨?_,J.trans Q⟩) (fun I=> ?_)⟩
 . have:iy l=false:=by
    cases e:iy l with
    |false=>rfl
    |true=>rw [e] at I;simp at I
   unfold qM;rw [this,Bool.and_false];rfl
 have I:iy l=true:=by
  cases e:iy l with
  |true=>rfl
  |false=>rw [e] at I;simp at I
 obtain ⟨ok,hl⟩:=oB r;refine (sR (h.grow (J.trans Q)) hn ok hl (V.grow (J.trans Q)) U Y (cX I).1).mono ?_;rintro e Z ⟨rfl,X⟩;refine ⟨_,rfl,aj (fun O=> ⟨?_,(J.trans Q).trans X⟩) (fun O=> ⟨?_,(J.trans Q).trans X⟩)⟩
 . have O:C6 tr l=false:=by simpa using O
   unfold qM;rw [O,Bool.and_false];rfl
 . have O:C6 tr l=true:=by simpa using O
   unfold qM;rw [r,I,O];rfl
end
section
variable {W0 w w':World} {p q:Option Addr} {n c m d ns b1 b2 nb:Nat} {tr:List As} {l:List Int} {s:Int->Bool}
structure wV (W0 w:World) (ns:Nat) (p:Option Addr) (n c:Nat) (tr:List As) (b1 b2:Nat):Prop where
 tv:TV W0 p tr
 hn:n=tr.length
 ok:dN tr
 hl:tr.length<=4096
 G:ao W0 w
 h:bA w ns #[.slice p n c,.map (some b1),.map (some b2)]
 M:MI prog aC aC w b1 tr.length (tP tr)
 f2:W0.heap.size<=b2
 d1:b1≠b2
 d2:ns≠b2
theorem wV.keep {S:Nat->Prop} (h:wV W0 w ns p n c tr b1 b2) (m:aF S w w') (I: ∀b,S b->W0.heap.size<=b) (h1: ¬S ns) (J: ¬S b1):wV W0 w' ns p n c tr b1 b2:=
 ⟨h.tv,h.hn,h.ok,h.hl,h.G.then m fun x O e=>by have:=I x e;omega,h.h.keep m h1,h.M.keep m J,h.f2,h.d1,h.d2⟩
theorem wV.grow (h:wV W0 w ns p n c tr b1 b2) (m:ao w w'):wV W0 w' ns p n c tr b1 b2:=h.keep m (fun _ e=>e.elim) id id
theorem wV.put (h:wV W0 w ns p n c tr b1 b2) (m:aF (·=b2) w w'):wV W0 w' ns p n c tr b1 b2:=h.keep m (fun _ (e:_=b2)=>by subst e;exact h.f2) h.d2 h.d1
theorem sZ {l:Int} (h: -9223372036854775808<l) (I:l<9223372036854775808) (w:World):Calls prog co.id #[.int .i64 l] w fun e w'=>e= .returned (.int .i64 (am l))/\w'=w:=by
 refine co.ak ?_;unfold co.w;rw [aD (x:=0 - l) (by omega) (by omega)];refine ⟨?_,rfl⟩;unfold imax am;congr 2;split<;>split<;>omega
theorem AJ (h:wV W0 w ns p n c tr b1 b2) {x:Int} (J:jJ tr x):Calls prog cF.id #[.pointer (some ⟨ns,0,none⟩),.int .i64 x] w fun e w'=>e= .returned (.int .i64 (lv tr x))/\w'=w.drew:=by
 refine cF.ak ?_;have hb:=cx J.qv;have H:bA w.drew ns _:=h.h.drew;have sl:w.drew.cell? ((Addr.mk ns 0 none).add 0)=some (.slice p n c):=ae H rfl;have mp:w.drew.cell? ((Addr.mk ns 0 none).add 1)=some (.map (some b1)):=ae H rfl;have O:ao w w.drew:=(aF.refl w).drew;have I: ∀ {Q:Ending->World->Prop},Q (.returned (.int .i64 (am x))) w.drew->Calls prog co.id #[.int .i64 x] w.drew Q:=fun U=>by
  refine (sZ (by omega) (by omega) w.drew).mono ?_;rintro e u ⟨rfl,rfl⟩;exact U
 have cA:(Instr.lookup ie (.map (some b1)) (.int .i64 (am x)) false).run prog w.drew= .ok (.int .i64 (tP tr (am x))) w.drew:=(h.M.grow O).cA jt (nH J.qv);have dV:aP p n (IntKind.i64.wrap (tP tr (am x) - 1)) 3 fun a=> ∃y:Int,w.drew.cell? (a.add 1)=some (.int .i64 y)/\(Ending.returned (.int .i64 y)= .returned (.int .i64 (lv tr x))/\w.drew=w.drew):=by
  rw [lK h.hl J.lt];exact (h.tv.grow (h.G.trans O)).ix h.hn _ rfl J.lt fun a s C V X v=> ⟨_,C.2.1,rfl,rfl⟩
 refine ⟨_,rfl,_,rfl,⟨_,_,_,sl,⟨_,mp,I ⟨_,rfl,_,_,cA,dV⟩⟩,I ⟨_,rfl,_,mp,_,_,cA,dV⟩⟩,
  ⟨_,mp,⟨_,_,_,sl,I ⟨_,rfl,_,_,cA,dV⟩⟩,I ⟨_,rfl,⟨_,_,_,sl,_,_,cA,dV⟩,⟨_,_,cA,_,_,_,sl,dV⟩⟩⟩,
  I ⟨_,rfl,_,mp,⟨_,_,_,sl,_,_,cA,dV⟩,⟨_,_,cA,_,_,_,sl,dV⟩⟩⟩
theorem vU (h:wV W0 w ns p n c tr b1 b2) {x:Int} (I:jJ tr x):Calls prog cF.id #[.pointer (some ⟨ns,0,none⟩),.int .i64 x] w fun e w'=>e= .returned (.int .i64 (lv tr x))/\ao w w':=
 (AJ h I).mono fun _ _ ⟨h1,J⟩=> ⟨h1,by rw [J];exact (aF.refl w).drew⟩
theorem qH (h:wV W0 w ns p n c tr b1 b2) (M:MS prog aC cO w b2 nb s) (hc:Vw (Value.int .i64) W0 q l) (Z:m=l.length) (hx:nb+l.length<=10000000) (hi: ∀x∈l,w_ x=true) (Fh:Int):
 Calls prog gg.id #[.pointer (some ⟨ns,0,none⟩),.slice q m d,.int .i64 Fh] w fun e w'=>e= .returned (.tuple #[])/\wV W0 w' ns p n c tr b1 b2/\∃J O,J<=nb+l.length/\MS prog aC cO w' b2 J O/\∀u,O u=(s u||decide (u∈l/\u≠Fh)):=by
 refine gg.ak ?_;refine ⟨fun I w' k=> ∃ (t J:Nat) (O:Int->Bool),I=t/\t<=l.length/\k=l.length - t/\J<=nb+t/\wV W0 w' ns p n c tr b1 b2/\MS prog aC cO w' b2 J O/\∀u,O u=(s u||decide (u∈l.take t/\u≠Fh)),⟨_,0,nb,s,rfl,Nat.zero_le _,rfl,Nat.le_refl _,h,M,fun u=>by simp⟩,?_⟩;rintro I w5 k _ ⟨t,J,O,rfl,ht,rfl,hb,S,V,hs⟩;refine aj (fun r=> ?_) (fun r=> ?_)
 . have r:t<l.length:=by simp at r;omega
   refine (hc.grow S.G).ix 0 (by omega) Z (by omega) fun a e=> ⟨_,e,?_⟩
   rw [Int.toNat_natCast];refine aj (fun Q=> ⟨_,rfl,_,ae S.h rfl,?_⟩) (fun Q=> ⟨_,?_,t+1,J,O,wN (by omega) (by omega),by omega,rfl,by omega,S,V,fun u=> ?_⟩)
   . have Q:l.getD t 0≠Fh:=by simpa using Q
     obtain ⟨U,hr,X,Y⟩:=V.put jm (by unfold maxLen;omega) (Cn (hi _ (bo r)));refine ⟨U,hr,_,?_,t+1,J+1,_,wN (by omega) (by omega),by omega,rfl,by omega,S.put Y,X,fun u=> ?_⟩
     . omega
     . simp only [cW r,hs u];by_cases e:u=l.getD t 0
       . rw [if_pos e];have:decide ((u∈l.take t\/u=l.getD t 0)/\u≠Fh)=true:=decide_eq_true ⟨.inr e,e▸Q⟩;rw [this,Bool.or_true]
       . rw [if_neg e];exact congrArg (s u|| ·) (decide_eq_decide.2 ⟨fun h=> ⟨.inl h.1,h.2⟩,fun h=> ⟨h.1.resolve_right e,h.2⟩⟩)
   . omega
   . have Q:l.getD t 0=Fh:=by simpa using Q
     rw [hs u];refine congrArg (s u|| ·) (decide_eq_decide.2 ?_);rw [cW r];constructor
     . rintro ⟨a,b⟩;exact ⟨.inl a,b⟩
     . rintro ⟨a|a,b⟩
       . exact ⟨a,b⟩
       . exact absurd (a.trans Q) b
 . have r:t=l.length:=by simp at r;omega
   subst r;rw [List.take_length] at hs;exact ⟨rfl,S,J,O,by omega,V,hs⟩
def sC (tr:List As) (c:List Int) (L N P:Int):Prop:=
 (c= []/\L=0/\N=0/\P= -1)\/((∀x∈c,lv tr x<=L)/\N=fO tr c L/\0<N/\(∃x∈c,lv tr x=L/\(cL tr (am x):Int)=P)/\∀x∈c,lv tr x=L->(cL tr (am x):Int)<=P)
theorem sC.On {c k:List Int} {L N P:Int} (h:sC tr c L N P) (e:c.Perm k):sC tr k L N P:=by
 rcases h with ⟨rfl,h⟩| ⟨h1,Q,J,⟨x,I,O⟩,h5⟩
 . exact .inl ⟨e.nil_eq.symm,h⟩
 . exact .inr ⟨fun x I=>h1 x (e.mem_iff.2 I),by rw [Q];unfold fO;rw [e.countP_eq],J,⟨x,e.mem_iff.1 I,O⟩,fun x I=>h5 x (e.mem_iff.2 I)⟩
theorem sC.step {c:List Int} {L N P a:Int} (h:sC tr c L N P):
 (N=0\/L<lv tr a->sC tr (a::c) (lv tr a) 1 (cL tr (am a)))/\(N≠0->lv tr a=L->sC tr (a::c) L (N+1) (imax P (cL tr (am a))))/\(N≠0->lv tr a<L->sC tr (a::c) L N P):=by
 refine ⟨fun e=> ?_,fun hN e=> ?_,fun hN e=> ?_⟩
 . have all: ∀x∈c,lv tr x<lv tr a:=by
    rcases h with ⟨rfl,h⟩| ⟨h1,O,V,_⟩
    . simp
    . intro x J;have:=h1 x J;omega
   refine .inr ⟨fun x J=> ?_,?_,by omega,⟨a,by simp,rfl,rfl⟩,fun x J hl=> ?_⟩
   . rcases List.mem_cons.1 J with e|e
     . rw [e];exact Int.le_refl _
     . have:=all x e;omega
   . have:c.countP (fun x=>lv tr x==lv tr a)=0:=List.countP_eq_zero.2 fun x J=>by
      have:=all x J;simp;omega
     unfold fO;rw [List.countP_cons,this];simp
   . rcases List.mem_cons.1 J with e|e
     . rw [e];exact Int.le_refl _
     . have:=all x e;omega
 . rcases h with ⟨rfl,h⟩| ⟨h1,O,V,⟨y,Q,U,X⟩,h5⟩
   . exact absurd h.2.1 hN
   . refine .inr ⟨fun x J=> ?_,?_,by omega,?_,fun x J hl=> ?_⟩
     . rcases List.mem_cons.1 J with I|I
       . rw [I,e];exact Int.le_refl _
       . exact h1 x I
     . rw [O];unfold fO;rw [List.countP_cons,if_pos (by simpa using e)];simp
     . unfold imax;split
       . exact ⟨a,by simp,e,rfl⟩
       . exact ⟨y,List.mem_cons_of_mem _ Q,U,X⟩
     . unfold imax;rcases List.mem_cons.1 J with I|I
       . subst I;split<;>omega
       . have:=h5 x I hl;split<;>omega
 . rcases h with ⟨rfl,h⟩| ⟨h1,O,V,⟨y,Q,U⟩,h5⟩
   . exact absurd h.2.1 hN
   . refine .inr ⟨fun x J=> ?_,?_,V,⟨y,List.mem_cons_of_mem _ Q,U⟩,fun x J hl=> ?_⟩
     . rcases List.mem_cons.1 J with I|I
       . rw [I];omega
       . exact h1 x I
     . rw [O];unfold fO;rw [List.countP_cons,if_neg (by simp;omega)];simp
     . rcases List.mem_cons.1 J with I|I
       . subst I;omega
       . exact h5 x I hl
def sS (s lf:Int->Bool) (V:List Int):Prop:=V.Nodup/\∀x,x∈V↔s x=true/\lf x=false
theorem sS.nil:sS s s []:=⟨List.nodup_nil,fun x=>by
 constructor
 . intro h;simp at h
 . rintro ⟨a,b⟩;rw [a] at b;simp at b⟩
theorem sS.step {lf:Int->Bool} {V:List Int} {a:Int} (h:sS s lf V) (ha:lf a=true) (hs:s a=true):sS s (fun x=>lf x && x !=a) (a::V):=by
 refine ⟨List.nodup_cons.2 ⟨fun e=> ?_,h.1⟩,fun x=> ?_⟩
 . have:=((h.2 a).1 e).2;rw [ha] at this;simp at this
 . rw [List.mem_cons,h.2 x];constructor
   . rintro (rfl| ⟨h1,I⟩)
     . exact ⟨hs,by simp⟩
     . exact ⟨h1,by show (lf x && x !=a)=false;rw [I];rfl⟩
   . rintro ⟨h1,I⟩;by_cases e:x=a
     . exact .inl e
     . refine .inr ⟨h1,?_⟩;simpa [e] using I
theorem sS.Ob {lf:Int->Bool} {V:List Int} {a:Int} (h:sS s lf V) (ha:lf a=true) (hs:s a=true):sS s (fun x=>lf x && x !=a) (V++ [a]):=by
 have I:=h.step ha hs;have e:(V++ [a]).Perm (a::V):=List.perm_append_comm (l₁:=V) (l₂:= [a]);exact ⟨e.nodup_iff.2 I.1,fun x=>e.mem_iff.trans (I.2 x)⟩
theorem sS.done {lf:Int->Bool} {V c:List Int} (h:sS s lf V) (hl: ∀a,lf a=false) (J: ∀x,s x=true↔x∈c) (I:c.Nodup):V.Perm c:=
 (List.perm_ext_iff_of_nodup h.1 I).2 fun x=>by rw [h.2 x,hl x,<- J x];simp
theorem GN (h:wV W0 w ns p n c tr b1 b2) (M:MS prog aC cO w b2 nb s) {k:List Int} (hs: ∀x,s x=true↔x∈k) (hd:k.Nodup) (hb: ∀x∈k,jJ tr x):
 Calls prog gF.id #[.pointer (some ⟨ns,0,none⟩)] w fun e w'=> ∃L N P:Int,e= .returned (.tuple #[.int .i64 L,.int .i64 N,.int .i64 P])/\sC tr k L N P/\ao w w':=by
 refine gF.ak ?_;obtain ⟨w3,oN,hr,R,g3⟩:=M.range jm;have b3:=R.lt;refine ⟨_,rfl,_,ae h.h rfl,w3,_,hr,?_⟩;refine ⟨fun L N P u z=> ∃ (V:List Int) (lf:Int->Bool),sS s lf V/\sC tr V L N P/\(∀x,lf x=true->s x=true)/\MR prog aC cO u b2 w.heap.size nb s lf z/\ao w u,⟨_,[],s,sS.nil,.inl ⟨rfl,rfl,rfl,rfl⟩,fun x=>id,R,g3⟩,?_⟩;rintro L N P bk z _ ⟨V,lf,v,T,aT,bb,G⟩;rcases bb.next jm 0 with ⟨h0,hl,Y⟩| ⟨a,va,ap,z',ha,b8,Y,ax,a8,hz,a'⟩
 . exact .inl ⟨bk,Y,_,_,_,rfl,T.On (v.done hl hs hd),G⟩
 refine .inr ⟨ap,_,_,Y,ap,_,_,ax,?_⟩;have aa:ao w ap:=aF.bV G a' (Nat.le_refl _);have ay:=aT a ha;have hB:=hb a ((hs a).1 ay);have b5:=cx hB.qv;have v':=v.step ha ay;have J: ∀x,(lf x && x !=a)=true->s x=true:=fun x e=>aT x (by simp at e;exact e.1);have T':=T.step (a:=a);refine (vU (h.grow aa) hB).mono ?_;rintro e I ⟨rfl,ac⟩;have az:=a8.grow ac;have aw:=(h.grow (aa.trans ac)).grow (aF.refl I).drew;have g0:ao I.drew I.drew:=aF.refl _;have O:ao w I.drew:=(aa.trans ac).trans (aF.refl I).drew;have mp: ∀ {u:World},ao I.drew u->u.cell? ((Addr.mk ns 0 none).add 1)=some (.map (some b1)):=fun g=>ae (aw.h.grow g) rfl;have U: ∀ {Q:Ending->World->Prop},(∀u,ao I.drew u->Q (.returned (.int .i64 (am a))) u)->Calls prog co.id #[.int .i64 a] I.drew Q:=fun hQ=>by
  refine (cK (by omega) (by omega) I.drew).mono ?_;rintro e u ⟨rfl,g⟩;exact hQ u g
 have cA: ∀ {u:World},ao I.drew u->(Instr.lookup ie (.map (some b1)) (.int .i64 (am a)) false).run prog u= .ok (.int .i64 (tP tr (am a))) u:=fun g=> (aw.M.grow g).cA jt (nH hB.qv);have X: ∀ {u:World},ao I.drew u->MR prog aC cO u b2 w.heap.size nb s (fun x=>lf x && x !=a) z':=fun g=>az.drew.grow g;have hw:=lK h.hl hB.lt;have N0:0<=N/\N<=1000000:=by
  have b7:N<=V.length:=by
   rcases T with ⟨rfl,_,e,_⟩| ⟨_,e,_⟩
   . rw [e];simp
   . rw [e];have:fO tr V L<=V.length:=List.countP_le_length;omega
  have b6:V.length<=tr.length:=by
   have inj:(V.map fun x=>cL tr (am x)).Nodup:=by
    refine List.pairwise_map.2 (List.Pairwise.imp_of_mem (fun {x y} hx hy bu e=> ?_) v.1);exact bu ((hb x ((hs x).1 ((v.2 x).1 hx).1)).same (hb y ((hs y).1 ((v.2 y).1 hy).1)) e)
   have:=List.Nodup.length_le_of_subset inj (l₂:=List.range tr.length) fun y hy=>by
    obtain ⟨x,hx,rfl⟩:=List.mem_map.1 hy;exact List.mem_range.2 (hb x ((hs x).1 ((v.2 x).1 hx).1)).lt
   simpa using this
  have:=h.hl;refine ⟨?_,by omega⟩;rcases T with ⟨_,_,e,_⟩| ⟨_,_,e,_⟩<;>omega
 refine ⟨_,rfl,aj (fun r=> ?_) (fun r=>aj (fun r2=> ?_) (fun r2=>aj (fun r3=> ?_) (fun r3=> ?_)))⟩
 . have r:N=0:=by simpa using r
   have Z:=T'.1 (.inl r);rw [<- hw] at Z;exact ⟨_,rfl,⟨_,mp g0,U fun u g=> ⟨_,rfl,u,_,cA g,z',hz,_,_,v',Z,J,X g,O.trans g⟩⟩,U fun u g=> ⟨_,rfl,_,mp g,u,_,cA g,z',hz,_,_,v',Z,J,X g,O.trans g⟩⟩
 . have r2:L<lv tr a:=by simpa using r2
   have Z:=T'.1 (.inr r2);rw [<- hw] at Z;exact ⟨_,rfl,⟨_,mp g0,U fun u g=> ⟨_,rfl,u,_,cA g,z',hz,_,_,v',Z,J,X g,O.trans g⟩⟩,U fun u g=> ⟨_,rfl,_,mp g,u,_,cA g,z',hz,_,_,v',Z,J,X g,O.trans g⟩⟩
 . have r:N≠0:=by simpa using r
   have r3:lv tr a=L:=by simpa using r3
   have Z:=T'.2.1 r r3;rw [<- hw,<- aD (x:=N+1) (by omega) (by omega)] at Z;exact ⟨_,rfl,⟨_,mp g0,U fun u g=> ⟨_,rfl,u,_,cA g,z',hz,_,_,v',Z,J,X g,O.trans g⟩⟩,U fun u g=> ⟨_,rfl,_,mp g,u,_,cA g,z',hz,_,_,v',Z,J,X g,O.trans g⟩⟩
 . have r:N≠0:=by simpa using r
   have r2: ¬L<lv tr a:=by simpa using r2
   have r3:lv tr a≠L:=by simpa using r3
   exact ⟨z',hz,_,_,v',T'.2.2 r (by omega),J,az,aa.trans ac⟩
end
section
variable {W0 w w':World} {p q:Option Addr} {n c m d ns b1 b2 nb:Nat} {tr:List As} {l:List Int} {s:Int->Bool}
theorem Hz {V:List Int} (Q:V.Nodup) (hb: ∀x∈V,jJ tr x):V.length<=tr.length:=by
 have inj:(V.map fun x=>cL tr (am x)).Nodup:=by
  refine List.pairwise_map.2 (List.Pairwise.imp_of_mem (fun {x y} I J O e=> ?_) Q);exact O ((hb x I).same (hb y J) e)
 have:=List.Nodup.length_le_of_subset inj (l₂:=List.range tr.length) fun y J=>by
  obtain ⟨x,I,rfl⟩:=List.mem_map.1 J;exact List.mem_range.2 (hb x I).lt
 simpa using this
theorem DR (ok:dN tr) (hl:tr.length<=4096) {x:Int} (I:jJ tr x):0<=lv tr x/\lv tr x<=4096:=by
 have h1:=ok.nn I.lt;have J:=ok.le I.lt;have O:=I.lt;unfold lv;omega
theorem KH (h:wV W0 w ns p n c tr b1 b2) {n1:Nat} (hc:bA w n1 #[.pointer (some ⟨ns,0,none⟩)]) {x y:Int} (O:jJ tr x) (J:jJ tr y):
 Calls prog bR.id #[.int .i64 x,.int .i64 y,.pointer (some ⟨n1,0,none⟩)] w fun e w'=>e= .returned (.int .i64 (mE tr x y))/\tg w w':=by
 refine bR.ak ?_;have Z:tg w w.drew:=(tg.refl w).drew;have cl: ∀ {u:World},tg w u->u.cell? (Addr.mk n1 0 none)=some (.pointer (some ⟨ns,0,none⟩)):=fun g=>aQ (hc.grow g.grow) rfl;have I: ∀ {u:World} {z:Int} {Q:Ending->World->Prop},jJ tr z->tg w u->(∀v,tg w v->Q (.returned (.int .i64 (lv tr z))) v)->Calls prog cF.id #[.pointer (some ⟨ns,0,none⟩),.int .i64 z] u Q:=by
  intro u z Q hz g hQ;refine (AJ (h.grow g.grow) hz).mono ?_;rintro e v ⟨rfl,rfl⟩;exact hQ _ g.drew
 have AM: ∀ {u:World} {z:Int} {Q:Ending->World->Prop},jJ tr z->tg w u->(∀v,tg w v->Q (.returned (.int .i64 (am z))) v)->Calls prog co.id #[.int .i64 z] u Q:=by
  intro u z Q hz g hQ;have hb:=cx hz.qv;refine (sZ (by omega) (by omega) u).mono ?_;rintro e v ⟨rfl,rfl⟩;exact hQ _ g
 have bx:=DR h.ok h.hl O;have bY:=DR h.ok h.hl J;have ax:=AI (x:=x) O.qv;have ay:=AI (x:=y) J.qv;have F1:(lv tr x !=lv tr y)=true->IntKind.i64.wrap (lv tr y - lv tr x)=mE tr x y:=fun r=>by
  have r:lv tr x≠lv tr y:=by simpa using r
  rw [aD (by omega) (by omega)];unfold mE;rw [if_pos r]
 have F2:(lv tr x !=lv tr y)=false->IntKind.i64.wrap (am x - am y)=mE tr x y:=fun r=>by
  have r:lv tr x=lv tr y:=by simpa using r
  rw [aD (by omega) (by omega)];unfold mE;rw [if_neg (by omega)]
 refine ⟨_,cl Z,I O Z fun u1 X=> ⟨_,rfl,_,cl X,I J X fun u2 g2=> ⟨_,rfl,?_⟩⟩,_,cl Z,I O Z fun u1 X=> ⟨_,rfl,I J X fun u2 g2=> ⟨_,rfl,?_⟩⟩⟩;all_goals
  have Y:=g2.drew;exact aj (fun r=> ⟨_,cl Y,I J Y fun u3 U=> ⟨_,rfl,_,cl U,I O U fun u4 V=> ⟨_,rfl,by rw [F1 r],V⟩⟩,_,cl Y,I J Y fun u3 U=> ⟨_,rfl,I O U fun u4 V=> ⟨_,rfl,by rw [F1 r],V⟩⟩⟩)
   (fun r=>AM O g2 fun u3 U=> ⟨_,rfl,AM J U fun u4 V=> ⟨_,rfl,by rw [F2 r],V⟩⟩)
theorem Jr:fX prog bR.id=true:=by kernel_rfl
theorem Cq (h:wV W0 w ns p n c tr b1 b2) (M:MS prog aC cO w b2 nb s) {k:List Int} (hs: ∀x,s x=true↔x∈k) (hd:k.Nodup) (hb: ∀x∈k,jJ tr x):
 Calls prog dm.id #[.pointer (some ⟨ns,0,none⟩)] w fun e w'=> ∃ (q:Option Addr) (d:Nat),e= .returned (.slice q (jo tr k).length d)/\da aC w' q d (jo tr k)/\ao w w':=by
 refine dm.ak ?_;intro n1 w2 h2;have e1:=h2.num;have G2:=h2.mod;obtain ⟨w6,oN,hr,R,Z⟩:=(M.grow G2).range jm;have H1:bA w6 n1 #[.pointer (some ⟨ns,0,none⟩)]:=h2.has.grow Z;have b5:=G2.size;have b3:=R.lt;have S6:=h.grow (G2.trans Z);have cg:=h.h.lt;have cc:=h.M.lt;have b4:=h.G.size;have c3:=h2.has.lt;refine ⟨_,aQ h2.has rfl,_,rfl,_,ae (h.h.grow G2) rfl,w6,_,hr,?_⟩;refine ⟨fun pm nm cm u z=> ∃ (V:List Int) (lf:Int->Bool),sS s lf V/\nm=V.length/\(∀x,lf x=true->s x=true)/\MR prog aC cO u b2 w2.heap.size nb s lf z/\da aC u pm cm V/\(∀b,aJ pm=some b->w6.heap.size<=b)/\aF (·=w2.heap.size) w6 u,
  ⟨_,[],s,sS.nil,rfl,fun x=>id,R,Ow.nil _ _ _,fun b hb=>by simp [aJ] at hb,aF.refl w6⟩,?_⟩
 rintro pm nm cm U z _ ⟨V,lf,v,rfl,ap,a7,O,fr,I⟩;have hV: ∀x∈V,jJ tr x:=fun x hx=>hb x ((hs x).1 ((v.2 x).1 hx).1);have ce:=Hz v.1 hV;have hl:=h.hl;rcases a7.next jm 0 with ⟨h0,hl,J⟩| ⟨a,va,an,z',ha,cT,J,ag,bc,hz,az⟩
 . have aw:wV W0 U ns p n c tr b1 b2:=S6.keep I (fun b (e:b=_)=>by omega) (fun (e:ns=_)=>by omega) (fun (e:b1=_)=>by omega);have ax:bA U n1 #[.pointer (some ⟨ns,0,none⟩)]:=H1.keep I fun (e:n1=_)=>by omega
   have X:Cx U pm V.length V bR.id #[.pointer (some ⟨n1,0,none⟩)] (mE tr):=by
    refine ⟨rfl,by omega,Jr,fun x hx y hy w' m'=> ?_,uG tr⟩;have:(#[]++ #[Value.int .i64 x,.int .i64 y]++ #[.pointer (some ⟨n1,0,none⟩)]:Array Value)= #[.int .i64 x,.int .i64 y,.pointer (some ⟨n1,0,none⟩)]:=by simp
    rw [this];have s6:=Z.size;refine KH (aw.keep m' (fun b e=> ?_) (fun e=> ?_) (fun e=> ?_)) (ax.keep m' fun e=> ?_) (hV x hx) (hV y hy);all_goals
     have:=fr _ e;omega
   refine .inl ⟨U,J,(yS X O).mono ?_⟩;rintro e b6 ⟨rfl,l1,o1,m1,p1,s1⟩;have pk:=v.done hl hs hd;have eq:l1=jo tr k:=EX h.ok hb (fun x=> (p1.mem_iff.trans pk.mem_iff)) (p1.nodup_iff.2 v.1) s1;subst eq;refine ⟨rfl,_,_,by rw [p1.length_eq],o1,?_⟩;have s6:=Z.size;refine (((G2.trans Z).then I fun x hx (e:x=_)=> ?_).then m1 fun x hx e=> ?_)
   . omega
   . have:=fr x e;omega
 refine .inr ⟨an,_,_,J,an,_,_,ag,fun n21 ay Q=> ?_⟩;have a8:=ap a ha;have Y:=az.grow Q.mod;have a_:da aC ay pm cm V:=O.keep Y fun b e e2=>by
  have:=fr b e;omega
 have s6:=Z.size;have bY:=(I.trans Y).size;refine a_.mF c4 a Q.has rfl rfl eV (by omega) fun bx p' c' o' m' a6 bk=> ?_;refine ⟨z',hz,V++ [a],_,v.Ob ha a8,by simp,fun x e=>ap x (by simp at e;exact e.1),(bc.grow Q.mod).keep m' (fun e=> ?_) (fun e=> ?_),o',fun b hb=> ?_,(I.trans Y).then m' fun x hx e=> ?_⟩
 . have:=fr _ e;have:=M.lt;omega
 . have:=fr _ e;omega
 . rcases a6 with rfl|rfl
   . exact fr b hb
   . have:=aO hb;have:=Q.num;have:=Q.size;omega
 . have:=fr x e;omega
def mK (tr:List As) (k:List Int):Int:=k.foldl (fun m x=>if lv tr x>m then lv tr x else m) 0
theorem kK (tr:List As): ∀ (k:List Int) (m:Int),(m<=k.foldl (fun m x=>if lv tr x>m then lv tr x else m) m)/\(∀x∈k,lv tr x<=k.foldl (fun m x=>if lv tr x>m then lv tr x else m) m)/\(k.foldl (fun m x=>if lv tr x>m then lv tr x else m) m=m\/∃x∈k,lv tr x=k.foldl (fun m x=>if lv tr x>m then lv tr x else m) m)
 | [],m=> ⟨Int.le_refl _,by simp,.inl rfl⟩
 |y::t,m=>by
  rw [List.foldl_cons];generalize O:(if lv tr y>m then lv tr y else m)=X;have hm:m<=X/\lv tr y<=X/\(X=m\/X=lv tr y):=by
   rw [<- O];split<;>omega
  obtain ⟨h1,Q,J⟩:=kK tr t X;refine ⟨by omega,fun x I=> ?_,?_⟩
  . rcases List.mem_cons.1 I with e|e
    . subst e;omega
    . exact Q x e
  . rcases J with e| ⟨x,I,e⟩
    . rcases hm.2.2 with h|h
      . exact .inl (e.trans h)
      . exact .inr ⟨y,by simp,(e.trans h).symm⟩
    . exact .inr ⟨x,List.mem_cons_of_mem _ I,e⟩
theorem uU (tr:List As) (k:List Int):0<=mK tr k:=(kK tr k 0).1
theorem sN {k:List Int} {x:Int} (h:x∈k):lv tr x<=mK tr k:=(kK tr k 0).2.1 x h
theorem FN {k:List Int} {L:Int} (Q:0<=L) (h1: ∀x∈k,lv tr x<=L) (J:L=0\/∃x∈k,lv tr x=L):mK tr k=L:=by
 have a:=uU tr k;have b:=(kK tr k 0).2.2;rcases J with J| ⟨x,I,e⟩
 . rcases b with b| ⟨x,I,e⟩
   . exact b.trans J.symm
   . have:=h1 x I;unfold mK at*
     omega
 . have:=sN (tr:=tr) I;rcases b with b| ⟨y,O,U⟩
   . unfold mK at*;omega
   . have:=h1 y O;unfold mK at*
     omega
def tZ (tr:List As) (l:List Int):List Int:=jo tr (lrn tr (mK tr (aW l)) tr.length (aW l))
theorem Mj (ok:dN tr) (hb: ∀x∈l,jJ tr x):In tr (mK tr (aW l)) (aW l) tr.length:=by
 have J: ∀x∈aW l,jJ tr x:=fun x I=>hb x (((cC l).mem x).1 I);refine ⟨J,fun x I=>sN I,fun x I _=> (J x I).lt,?_,uU _ _,(cC l).st⟩;cases hn:aW l with
 |nil=>exact .inl rfl
 |cons y t=>
  refine .inr (od.2 ?_);rw [<- hn];rcases (kK tr (aW l) 0).2.2 with e| ⟨x,I,e⟩
  . have O:y∈aW l:=by rw [hn];simp
    have h1:=sN (tr:=tr) O;have Q:=ok.nn (J y O).lt;refine ⟨y,O,?_⟩;have:lv tr y=(aS tr (cL tr (am y))).bi:=rfl;unfold mK at*
    omega
  . exact ⟨x,I,e⟩
end
section
variable {W0 w w':World} {p q:Option Addr} {n c m d ns b1 b2 nb:Nat} {tr:List As} {l:List Int} {s:Int->Bool}
theorem TV.NG (h:TV w p tr) (g:ao w w') (hn:n=tr.length) {X:Int} (i:Nat) (e:X=i) (hi:i<tr.length) {K:Addr->Prop}
 (I: ∀a (s:Sl),aB w' a 0 [.int .i64 (aS tr i).lit,.int .i64 (aS tr i).bi,.slice s.p s.n s.c]->s.n=(aS tr i).rs.length->s.n<=maxLen->Vw (Value.int .i64) w s.p (aS tr i).rs->K a):aP p n X 3 K:=by
 subst e hn;obtain ⟨a,s,rfl,J,h1,Q,O⟩:=h i hi;exact ⟨a,rfl,by omega,by omega,I _ s (by rw [Int.toNat_natCast];exact aB.keep g id J) h1 Q O⟩
theorem K_ {k:List Int} {L J N P:Int} {Y:Nat} (T:sC tr k L N P) (I:In tr J k Y):N=fO tr k J/\(0<N->∃x∈k,lv tr x=J/\(cL tr (am x):Int)=P/\∀y∈k,lv tr y=J->(cL tr (am y):Int)<=P):=by
 rcases T with ⟨rfl,h1,Q,V⟩| ⟨h1,Q,V,⟨x,O,hl,hp⟩,h5⟩
 . exact ⟨Q,fun e=>by omega⟩
 . have e:L=J:=by
    have:=I.le x O;rcases I.mZ with e|e
    . rw [e] at O;simp at O
    . obtain ⟨y,U,X⟩:=od.1 e;have:=h1 y U;omega
   subst e;exact ⟨Q,fun _=> ⟨x,O,hl,hp,h5⟩⟩
theorem LU {k:List Int} {L N P:Int} (ok:dN tr) (hb: ∀x∈k,jJ tr x) (T:sC tr k L N P):mK tr k=L:=by
 rcases T with ⟨rfl,h1,O,J⟩| ⟨h1,O,J,⟨x,I,hl,hp⟩,h5⟩
 . subst h1;rfl
 . refine FN ?_ h1 (.inr ⟨x,I,hl⟩);have:=ok.nn (hb x I).lt;rw [<- hl];exact this
theorem Eh (h:TV w p tr) (hn:n=tr.length) (hc:Vw (Value.int .i64) w q l) (hk:m=l.length) (hx:m<=maxLen):
 Calls prog ko.id #[.slice p n c,.slice q m d] w fun e w'=> ∃ (q2:Option Addr) (d2:Nat) (o:List Int),o=(if qM tr l then tZ tr l else [])/\e= .returned (.tuple #[.slice q2 o.length d2,.int .i64 (if qM tr l then 0 else 1)])/\da aC w' q2 d2 o/\ao w w':=by
 refine ko.ak ?_;refine (xa h hn hc hk hx).mono ?_;rintro e w1 ⟨rfl,g1⟩;refine ⟨_,rfl,aj (fun r=> ?_) (fun r=> ?_)⟩
 . have r:qM tr l=false:=by
    cases e:qM tr l with
    |false=>rfl
    |true=>rw [e] at r;simp at r
   rw [r];exact ⟨none,0,[],rfl,rfl,Ow.nil _ _ _,g1⟩
 have r:qM tr l=true:=by
  cases e:qM tr l with
  |true=>rfl
  |false=>rw [e] at r;simp at r
 rw [r];have r':=r;unfold qM at r';simp only [Bool.and_eq_true] at r';obtain ⟨⟨r1,r2⟩,r3⟩:=r';obtain ⟨ok,hl⟩:=oB r1;have hB:=kN.1 r3;obtain ⟨Q,hlen⟩:=cX r2;refine (np (h.grow g1) hn ok hl).mono ?_;rintro e w3 ⟨b,rfl,M3,g3,fb⟩;refine ⟨_,rfl,fun n5 w6 h6 n7 w8 h8=> ?_⟩;have e5:=h6.num;have e7:=h8.num;have s1:=g1.size;have s3:=g3.size;have s6:=h6.size;have lb:=M3.lt;have S8:wV w w8 n7 p n c tr b n5:=⟨h,hn,ok,hl,((g1.trans g3).trans h6.mod).trans h8.mod,h8.has,(M3.grow h6.mod).grow h8.mod,by omega,by omega,by omega⟩
 have M8:MS prog aC cO w8 n5 0 fun _=>false:=(MS.new h6).grow h8.mod;refine (qH S8 M8 hc hk (by omega) Q 0).mono ?_;rintro e w9 ⟨rfl,S9,b_,s9,du,M9,c3⟩;have V: ∀x,s9 x=true↔x∈aW l:=fun x=>by
  rw [c3 x,(cC l).mem x];constructor
  . intro e;simp at e;exact e.1
  . intro e;have:=cx (Q x e);simp [e,this.1]
 have bk: ∀x∈aW l,jJ tr x:=fun x hx=>hB x (((cC l).mem x).1 hx);refine ⟨rfl,(GN S9 M9 V (eh (cC l).st) bk).mono ?_⟩;rintro e ec ⟨L,N,P,rfl,T,ag⟩;have hL:=LU ok bk T;refine ⟨_,_,_,rfl,?_⟩;refine ⟨fun N P u z=> ∃ (k:List Int) (nb:Nat) (s:Int->Bool) (L':Int),sC tr k L' N P/\In tr L k z/\z<=tr.length/\lrn tr L tr.length (aW l)=lrn tr L z k/\wV w u n7 p n c tr b n5/\MS prog aC cO u n5 nb s/\(∀x,s x=true↔x∈k)/\nb<=4096+256* (tr.length - z),
  ⟨tr.length,aW l,b_,s9,L,T,hL▸Mj ok hB,Nat.le_refl _,rfl,S9.grow ag,M9.grow ag,V,by omega⟩,?_⟩
 rintro N1 P1 ed z _ ⟨k,nb,s,L',T1,I1,hz,ap,S,M,hs,eA⟩;obtain ⟨hN,hP⟩:=K_ T1 I1;refine aj (fun r=> ?a1) (fun r=>aj (fun r1=>aj (fun r2=> ?a2) (fun r2=> ?b1)) (fun r1=> ?b2))
 case' a1=>have U: ¬(fO tr k L=0\/fO tr k L=1/\0<L):=by simp at r;omega
 case' a2=>have U: ¬(fO tr k L=0\/fO tr k L=1/\0<L):=by simp at r1 r2;omega
 case' b1=>have a_:fO tr k L=0\/fO tr k L=1/\0<L:=by have:=uU tr (aW l);simp at r1 r2;omega
 case' b2=>have a_:fO tr k L=0\/fO tr k L=1/\0<L:=by simp at r r1;omega
 case b1|b2=>
  refine (Cq S M hs (eh I1.nd) I1.br).mono ?_;rintro e er ⟨q2,d2,rfl,O,c2⟩;have:tZ tr l=jo tr k:=by
   unfold tZ;rw [hL,ap,wJ a_]
  refine ⟨_,_,_,rfl,q2,d2,_,rfl,?_,?_,S.G.trans c2⟩
  . rw [if_pos rfl,if_pos rfl,this]
  . rw [if_pos rfl,this];exact O
 case a1|a2=>
  obtain ⟨x,hx,cg,cp,bb⟩:=hP (by omega);clear hP;have az:=I1.br x hx;generalize Y:cL tr (am x)=I at*
  have hp:I<tr.length:=Y▸az.lt;have X:x= -(aS tr I).lit:=by have:=az.eq;rw [Y] at this;omega
  have av:(aS tr I).bi=L:=by rw [<- cg];unfold lv;rw [Y]
  obtain ⟨I2,a6,b8,ce⟩:=I1.step ok U hp av (X▸hx) fun y hy cT=>by have:=bb y hy cT;omega
  obtain ⟨rl,rm,rb⟩:=ok.dY hp b8;have Z:=ok.qv I hp;have ez:=cx Z;have c7: ∀y∈(aS tr I).rs,w_ y=true:=fun y hy=>by
   by_cases e:y=(aS tr I).lit
   . rw [e];exact Z
   . exact (rb y hy e).1.qv
  refine TV.NG h S.G hn I cp.symm hp fun a sl C e1 e2 v=> ⟨_,_,_,_,_,C,fun n24 ef bv=>Dg bv fun b' H cm=> ?_⟩
  have en:=bv.num;have J:=cm.trans (aF.refl b').drew;have ax:=S.grow J;have c0:=M.grow J;have lm:=M.lt;obtain ⟨ay,hr,c1,ar⟩:=c0.del jm (a:= -(aS tr I).lit) (Cn (JO Z)) 0;have b4:=ax.put ar;have aT:bA ay n24 _:=H.drew.keep ar fun (e:n24=_)=>by omega
  have ew:IntKind.i64.wrap (0 - (aS tr I).lit)= -(aS tr I).lit:=by rw [aD (by omega) (by omega),Int.zero_sub]
  refine ⟨_,rfl,_,ae ax.h rfl,_,ae H.drew rfl,ay,by rw [ew];exact hr,_,_,_,ae aT rfl,_,ae aT rfl,(qH b4 c1 v e1 (by omega) c7 _).mono ?_⟩;rintro e ep ⟨rfl,a8,b7,s',dc,bu,b6⟩;have bc: ∀y,s' y=true↔y∈po tr I k:=fun y=>by
   rw [b6 y,jb,Bool.or_eq_true,decide_eq_true_eq];refine or_congr ?_ Iff.rfl;by_cases e:y= -(aS tr I).lit
   . rw [if_pos e];simp [e]
   . rw [if_neg e,hs y];exact ⟨fun a=> ⟨a,e⟩,fun a=>a.1⟩
  refine ⟨rfl,(GN a8 bu bc (eh I2.nd) I2.br).mono ?_⟩;rintro e et ⟨L2,N2,P2,rfl,T2,a7⟩;exact ⟨_,_,_,rfl,I,ce,_,b7,s',L2,T2,I2,by omega,ap.trans a6,a8.grow a7,bu.grow a7,bc,by omega⟩
end
section
variable {W0 w w':World} {p q:Option Addr} {n c m d ns b1 b2 nb:Nat} {tr:List As} {l:List Int} {s:Int->Bool}
theorem FT {k:List Int} {t:Nat} (h:t<k.length):mK tr (k.take (t+1))=if lv tr (k.getD t 0)>mK tr (k.take t) then lv tr (k.getD t 0) else mK tr (k.take t):=by
 unfold mK;have:k[t]? =some (k.getD t 0):=by simp [List.getD,h]
 rw [List.take_add_one,this,List.foldl_append];rfl
theorem qu {k:List Int} (h:oI tr k):k.Nodup:=h.imp fun {a b} I e=>by subst e;exact pG tr a I
theorem mg {f:Int->Bool} {k:List Int} {t:Nat} (h:t<k.length):(k.take (t+1)).filter f=(k.take t).filter f++ (if f (k.getD t 0) then [k.getD t 0] else []):=by
 have:k[t]? =some (k.getD t 0):=by simp [List.getD,h]
 rw [List.take_add_one,this,List.filter_append];generalize k.getD t 0=x;cases hf:f x<;>simp [hf]
end
end Go.Proofs.YtenmibfmhccmiaaGreat.W.Le
