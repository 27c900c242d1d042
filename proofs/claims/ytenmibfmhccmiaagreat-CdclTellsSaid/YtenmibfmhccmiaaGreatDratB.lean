/- Layer 8: clauses that are there, and where they come from. -/
import Derived.Test.YtenmibfmhccmiaaGreatDratA
import Derived.Test.YtenmibfmhccmiaaGreatHeapA
import Derived.Test.YtenmibfmhccmiaaGreatFwRead
import Derived.Test.YtenmibfmhccmiaaGreatLubyA
import Derived.Test.YtenmibfmhccmiaaGreatLearnA
import Derived.Test.YtenmibfmhccmiaaGreatQuotaA
namespace Go.Proofs.YtenmibfmhccmiaaGreat.W
open Go Go.Fw Go.RowKit Go.SoP Go.LiP
open Go.Proofs.Tryz (prog)
open Go.IntKind (i64)
section
variable {W w w' w0 w2 w3 u:World} {p q:Option Addr} {n m d i c:Nat} {hs:List Sl} {cs:List (List Int)} {l:List Int}
abbrev So:=Sl × Bool × Int
abbrev Sr:=List Int × Bool × Int
def Ka:So:=(Sl.nil,false,0)
def An:Sr:=([],false,0)
def xx (x:So):List Value:= [.slice x.1.p x.1.n x.1.c,.bool x.2.1,.int .i64 x.2.2]
theorem qA:Do 3 xx:=⟨fun _=>rfl,by omega,fun x v hv=>by
 simp only [xx,List.mem_cons,List.not_mem_nil,or_false] at hv;rcases hv with rfl|rfl|rfl<;>rfl⟩
theorem uw:nP prog ly bo 3 40=true:=by kernel_rfl
structure SW (W:World) (ss:List So) (l:List Sr):Prop where
 n:ss.length=l.length
 r: ∀j,j<l.length->(ss.getD j Ka).2=(l.getD j An).2/\(ss.getD j Ka).1.n=(l.getD j An).1.length/\(ss.getD j Ka).1.n<=maxLen/\Vw (Value.int .i64) W (ss.getD j Ka).1.p (l.getD j An).1
theorem SW.nil:SW W [] []:=⟨rfl,fun j I=>by simp at I⟩
theorem SW.oV {ss I:List So} {l k:List Sr} (h:SW W ss l) (g:SW W I k):SW W (ss++I) (l++k):=by
 refine ⟨by simp [h.n,g.n],fun j J=> ?_⟩;rw [oI,oI,h.n];by_cases e:j<l.length
 . rw [if_pos e,if_pos e];exact h.r j e
 . rw [if_neg e,if_neg e];exact g.r (j - l.length) (by simp at J;omega)
theorem SW.bS {s:So} {x:Sr} (h1:s.2=x.2) (J:s.1.n=x.1.length) (I:s.1.n<=maxLen) (Q:Vw (Value.int .i64) W s.1.p x.1):SW W [s] [x]:=by
 refine ⟨rfl,fun j O=> ?_⟩;have:j=0:=by simpa using O
 subst this;exact ⟨h1,J,I,Q⟩
theorem SW.part {ss:List So} {l:List Sr} (h:SW W ss l) (i:Nat) (hi:i<l.length):SW W (ss.take i++ss.drop (i+1)) (l.take i++l.drop (i+1)):=by
 refine SW.oV ⟨by simp [h.n],fun j I=> ?_⟩ ⟨by simp [h.n],fun j I=> ?_⟩
 . rw [List.length_take] at I;have e: ∀ {β:Type} (l:List β) (d:β),(l.take i).getD j d=l.getD j d:=fun l d=>by
    simp only [List.getD_eq_getElem?_getD,List.getElem?_take];rw [if_pos (by omega)]
   rw [e,e];exact h.r j (by omega)
 . rw [List.length_drop] at I;have e: ∀ {β:Type} (l:List β) (d:β),(l.drop (i+1)).getD j d=l.getD (i+1+j) d:=fun l d=>by
    simp only [List.getD_eq_getElem?_getD,List.getElem?_drop]
   rw [e,e];exact h.r _ (by omega)
theorem SW.ix {ss:List So} {l:List Sr} (h:SW W ss l) (o:Row 3 xx bo u p c ss) (hn:n=l.length) (hi:i<l.length) {K:Addr->Prop}
 (O: ∀a (s:Sl),aD u a 0 [.slice s.p s.n s.c,.bool (l.getD i An).2.1,.int .i64 (l.getD i An).2.2]->s.n=(l.getD i An).1.length->s.n<=maxLen->Vw (Value.int .i64) W s.p (l.getD i An).1->K a):aV p n (i:Int) 3 K:=by
 subst hn;obtain ⟨h1,J,Q,U⟩:=h.r i hi;refine (o.vr qA).ix Ka (by omega) (by rw [h.n]) (by omega) fun a I=>O a (ss.getD i Ka).1 ?_ J Q U;rw [Int.toNat_natCast] at I;unfold xx at I;rw [h1] at I;exact I
theorem GY {s:So} {b:Nat} (h:bF u b #[.slice s.1.p s.1.n s.1.c,.bool s.2.1,.int .i64 s.2.2]):Vr 3 xx u (some ⟨b,0,none⟩) [s]:=by
 intro j I;have:j=0:=by simpa using I
 subst this;exact ⟨_,rfl,bp h rfl,bp h rfl,bp h rfl,trivial⟩
def sk (cs:List (List Int)) (k:Nat):List Sr:=(List.range k).map fun i=> (cs.getD i [],false,(i:Int))
theorem tw (k:Nat):(sk cs k).length=k:=by simp [sk]
theorem CZ (k:Nat):sk cs (k+1)=sk cs k++ [(cs.getD k [],false,(k:Int))]:=by unfold sk;rw [List.range_succ,List.map_append];rfl
theorem AL {k:Int} (hv:V2 (Value.int .i64) w p hs cs) (hn:n=cs.length) (hx:n<=1000000):
 Calls prog gM.id #[.agg #[.int .i64 k,.slice p n d]] w fun e w'=> ∃ (q:Option Addr) (d':Nat) (ss:List So),e= .returned (.slice q cs.length d')/\Row 3 xx bo w' q d' ss/\SW w ss (sk cs cs.length)/\aq w w'/\∀j,aI q=some j->w.heap.size<=j:=by
 subst hn;refine gM.ah ?_;intro n1 w2 Q;have e1:=Q.num;refine ⟨_,_,_,ad Q.has rfl,?_⟩;refine ⟨fun P N C I u z=> ∃ (i:Nat) (ss:List So),I=i/\i<=cs.length/\z=cs.length - i/\i=N/\aq w2 u/\Row 3 xx bo u P C ss/\SW w ss (sk cs i)/\∀j,aI P=some j->w2.heap.size<=j,
  ⟨_,0,[],rfl,Nat.zero_le _,rfl,rfl,aE.refl _,Row.nil _ _ _ _,SW.nil,fun j O=>by simp [aI] at O⟩,?_⟩
 rintro P N C I u z _ ⟨i,ss,rfl,hi,rfl,rfl,Z,o,sw,X⟩;have Gu:=Q.mod.trans Z;have J:=sw.n;rw [tw] at J;refine ao (fun r=> ?_) (fun r=> ?_)
 . have r:i<cs.length:=by simpa using r
   refine (hv.grow Gu).ix (by omega) rfl (by omega) fun a sl k1 k0 k2 k3 k4=> ⟨_,_,_,k1,?_⟩
   rw [Int.toNat_natCast] at k0 k2;obtain ⟨_,_,r3⟩:=hv.r i r;rw [<- k0] at r3;intro ay ax pE;have z2:=Z.size;refine Row.oV qA uw (o.grow pE.mod) (GY (s:=(sl,false,(i:Int))) pE.has) J.symm rfl (by simp;omega) fun aT p' c' U V Y aw=> ?_;have av:=pE.num;refine ⟨_,?_,i+1,_,wN (by omega) (by omega),r,rfl,by simp [J],(Z.trans pE.mod).then V fun j O e=>by have:=X j e;omega,U,by rw [CZ];exact sw.oV (SW.bS rfl k2 k3 r3),fun j O=> ?_⟩
   . omega
   . have:=pE.mod.size;rcases Y with rfl|rfl
     . exact X j O
     . have:=bg O;omega
 . have r:i=cs.length:=by simp at r;omega
   subst r;have s2:=Q.mod.size;exact ⟨P,C,ss,rfl,o,sw,Gu,fun j O=>by have:=X j O;omega⟩
theorem zV {ss:List So} {al:List Sr} (o:Row 3 xx bo w p d ss) (sw:SW W ss al) (hW:aq W w) (hn:n=al.length) (hx:n<=1000000) {e:Nat}:
 Calls prog gN.id #[.slice p n e] w fun e w'=> ∃ (q:Option Addr) (d':Nat) (ks:List Sl),e= .returned (.slice q al.length d')/\V2 (Value.int .i64) w' q ks (al.map (·.1))/\aq w w':=by
 subst hn;refine gN.ah ?_;refine ⟨fun P N C I u z=> ∃ (i:Nat) (ks:List Sl),I=i/\i<=al.length/\z=al.length - i/\i=N/\aq w u/\Ow Sl.v aJ u P C ks/\VR (Value.int .i64) W ks ((al.take i).map (·.1))/\∀j,aI P=some j->w.heap.size<=j,
  ⟨_,0,[],rfl,Nat.zero_le _,rfl,rfl,aE.refl _,Ow.nil _ _ _,VR.nil,fun j U=>by simp [aI] at U⟩,?_⟩
 rintro P N C I u z _ ⟨i,ks,rfl,hi,rfl,rfl,X,ok,vr,fo⟩;have Q:=vr.n;rw [List.length_map,List.length_take,Nat.min_eq_left hi] at Q;refine ao (fun r=> ?_) (fun r=> ?_)
 . have r:i<al.length:=by simpa using r
   refine sw.ix (o.grow X) rfl r fun a s an h1 h2 h3=> ⟨_,_,_,_,_,an,?_⟩
   intro bk bv O;have a6:=O.num;refine bq O.has rfl rfl fun Z ap ac=> ⟨_,_,_,ad ap rfl,?_⟩
   have V:aq u Z:=O.mod.then ac fun j U e=>by omega
   intro n15 ay J;have az:=J.num;have zu:=X.size;have a7:=V.size;have Y:=V.trans J.mod;refine Ow.uZ xf (ok.grow Y) (Hr (sl:=s) J.has) Q.symm rfl (fun _=>rfl) (by simp;omega) fun bb p' c' ar aa ag ax=> ?_;have a_:=J.mod.size;refine ⟨_,by omega,i+1,_,wN (by omega) (by omega),r,rfl,by simp [Q],(X.trans Y).then aa fun j U e=>by have:=fo j e;omega,ar,?_,fun j U=> ?_⟩
   . rw [mh r An,List.map_append];exact vr.oV (VR.bS (s:=s) h3 h1 h2)
   . rcases ag with rfl|rfl
     . exact fo j U
     . have:=bg U;omega
 . have r:i=al.length:=by simp at r;omega
   subst r;rw [List.take_length] at vr;exact ⟨P,C,ks,rfl,(vr.grow (hW.trans X)).v2 ok.vw,X⟩
end
section
variable {W w w' w0 w2 w3 u:World} {p q:Option Addr} {n m d i c:Nat} {hs:List Sl} {cs:List (List Int)} {l:List Int} {ss:List So} {al:List Sr}
theorem DG {e:Nat} (o:Row 3 xx bo w p d ss) (hn:n=ss.length) (hx:n<=1000000):Calls prog aN.id #[.slice p n e] w fun e w'=> ∃ (q:Option Addr) (Q:Nat),e= .returned (.slice q ss.length Q)/\Row 3 xx bo w' q Q ss/\aq w w'/\∀j,aI q=some j->w.heap.size<=j:=by
 subst hn;refine aN.ah (ao (fun r=> ?_) (fun r=> ?_))
 . have hp:p=none:=by cases p<;>simp at r ⊢
   subst hp;have:ss= []:=by
    rcases o.un with ⟨_,_,h⟩| ⟨_,_,h,_⟩
    . exact h
    . cases h
   subst this;exact ⟨none,0,rfl,Row.nil _ _ _ _,aE.refl w,fun j J=>by simp [aI] at J⟩
 . intro V w2 I;have Z:=I.num;have o2:Row 3 xx bo w2 (some ⟨V,0,none⟩) 0 []:=Row.dx qA.len I.at (Nat.le_refl _) (Nat.zero_le _) rfl rfl;refine Row.oV qA uw o2 ((o.vr qA).grow I.mod) rfl rfl (by simp;omega) fun w3 Y U o3 m3 O X=> ?_;rw [List.nil_append] at o3 ⊢;have z2:=I.mod.size;refine ⟨Y,U,rfl,o3,I.mod.then m3 fun j J e=>by have:=bg e;omega,fun j J=> ?_⟩;rcases O with rfl|rfl
   . have:=bg J;omega
   . have:=bg J;omega
theorem EU: ∃v,(Tryz.prog.info? bo).bind (·.zero)=some v/\v.cells.toList=xx Ka:=⟨.agg #[.slice none 0 0,.bool false,.int .i64 0],by kernel_rfl,rfl⟩
theorem Nm (p:Option Addr):p.map (·.add (0*3))=p:=by cases p<;>simp [Addr.add]
theorem Bn (o:Row 3 xx bo w p d ss) (hn:n=ss.length) (hx:n<=1000000) {i:Nat} (hi:i<n):
 Calls prog aL.id #[.slice p n d,.int .i64 (i:Int),.int .i64 ((i+1:Nat):Int)] w fun e w'=>e= .returned (.slice p (ss.length - 1) d)/\Row 3 xx bo w' p d (ss.take i++ss.drop (i+1))/\aE (fun b=>aI p=some b) w w':=by
 subst hn;have aa:=o.cap;refine aL.ah ?_;refine gD i (i+1) ss.length rfl rfl rfl (by omega) (by omega) (by omega) ?_;refine bm (by simp;omega) ?_;refine gD 0 i d rfl rfl rfl (by omega) (by omega) (by omega) ?_;refine gD (i+1) ss.length d rfl rfl rfl (by omega) (by omega) (by omega) ?_;rw [if_neg (by omega),Nm,Nat.sub_zero,Nat.sub_zero];have hv:Vr 3 xx w.drew (if d=i+1 then p else p.map (·.add ((i+1)*3))) (ss.drop (i+1)):=by
  by_cases e:d=i+1
  . rw [List.drop_eq_nil_of_le (by omega)];exact Vr.nil
  . rw [if_neg e];have:=((o.drew).vr qA).part (i:=i+1) (m:=ss.length - (i+1)) (by omega)
    rwa [List.take_of_length_le (by rw [List.length_drop];omega)] at this
 obtain ⟨I,hr,V,Y⟩:=Row.Hh qA uw o.drew (ty:=ly) (d:=d - (i+1)) (k:=i) hv (m:=ss.length - (i+1)) (by rw [List.length_drop]) (by omega) (K:=fun I=>Row 3 xx bo I p d (ss.take i++ss.drop (i+1)++ss.drop (i+ (ss.length - (i+1))))/\aE (fun b=>aI p=some b) w.drew I) fun w' a b=> ⟨a,b⟩
 have J:i+ (ss.length - (i+1))=ss.length - 1:=by omega
 rw [J] at hr V;have hlen:(ss.take i++ss.drop (i+1)).length=ss.length - 1:=by rw [List.length_append,List.length_take,List.length_drop];omega
 have O:(ss.take i++ss.drop (i+1)++ss.drop (ss.length - 1)).length=ss.length:=by rw [List.length_append,hlen,List.length_drop];omega
 refine ⟨I,_,_,_,hr,?_⟩;refine gD (ss.length - 1) ss.length d rfl rfl rfl (by omega) (by omega) (by omega) ?_;rw [if_neg (by omega)];obtain ⟨vz,Z,Q⟩:=EU;rw [show ss.length - (ss.length - 1)=1 by omega];refine Row.clear qA uw Z Q V (k:=ss.length - 1) (by rw [O];omega) fun w7 U X=> ?_;rw [List.take_append_of_le_length (by omega),List.take_of_length_le (by omega)] at U;exact ⟨rfl,U,(aE.mono ((aE.refl w).drew:aq w w.drew) fun _ _ e=>e.elim).trans (Y.trans X)⟩
def jh (c:List Int):List Sr->List Sr
 | []=> []
 |x::l=>if bh x.1=bh c then l else x::jh c l
theorem zQ {c:List Int}: ∀ {al:List Sr} {i:Nat},i<al.length->(∀j,j<i->bh (al.getD j An).1≠bh c)->bh (al.getD i An).1=bh c->jh c al=al.take i++al.drop (i+1)
 | [],_,h,_,_=>by simp at h
 |x::l,0,_,_,h=>by
  have h:bh x.1=bh c:=h;show (if bh x.1=bh c then l else _)=_;rw [if_pos h];rfl
 |x::l,i+1,hi,hj,h=>by
  have I:bh x.1≠bh c:=hj 0 (by omega);show (if bh x.1=bh c then l else x::jh c l)=_;rw [if_neg I,zQ (i:=i) (by simpa using hi) (fun j h=>hj (j+1) (by omega)) h];rfl
theorem Ab {c:List Int}: ∀ {al:List Sr},(∀j,j<al.length->bh (al.getD j An).1≠bh c)->jh c al=al
 | [],_=>rfl
 |x::l,h=>by
  have J:bh x.1≠bh c:=h 0 (by simp);show (if bh x.1=bh c then l else x::jh c l)=_;rw [if_neg J];exact congrArg _ (Ab fun j I=>h (j+1) (by simpa using I))
theorem Di:fM prog gB.id=true:=by kernel_rfl
theorem FA {x c:List Int} {b:Bool} {a:Int} {nw m' e':Nat} {Q:Option Addr} (hv:Vw (Value.int .i64) w p x) (hn:n=x.length) (U:iu x=true) (hb:bF w nw #[.slice Q m' e']) (X:Vw (Value.int .i64) w Q (bh c)) (hm:m'=(bh c).length):
 Calls prog gB.id #[.agg #[.slice p n d,.bool b,.int .i64 a],.pointer (some ⟨nw,0,none⟩)] w fun e w'=>e= .returned (.bool (decide (bh x=bh c)))/\aq w w':=by
 subst hn;have V:=fh U;have nl:=qJ x;refine gB.ah ?_;intro n1 w2 J;refine ⟨_,_,_,ad J.has rfl,(CK (hv.grow J.mod) rfl (by unfold maxLen;omega)).mono ?_⟩;rintro e w4 ⟨q,dq,mq,I,rfl,Y,g4⟩;rw [U] at I;simp only [if_true] at I;subst I;have O:=J.mod.trans g4;refine ⟨_,_,_,_,rfl,_,_,_,aR (hb.grow O) rfl,(Gd Y.vw rfl (by unfold maxLen;omega) (X.grow O) hm).mono ?_⟩;rintro e w8 ⟨rfl,Z⟩;exact ⟨_,rfl,rfl,O.trans Z⟩
end
section
variable {W w w' w0 w2 w3 u:World} {p q:Option Addr} {n m d i c:Nat} {hs:List Sl} {cs:List (List Int)} {l:List Int} {ss:List So} {al:List Sr}
theorem HU {x:List Int} {e:Nat} (o:Row 3 xx bo w p d ss) (sw:SW W ss al) (hW:aq W w) (hn:n=al.length) (hx:n<=1000000) (ar: ∀y∈al,iu y.1=true) (hv:Vw (Value.int .i64) W q x) (hm:m=x.length) (Y:iu x=true) (hd:n<=d):
 Calls prog ky.id #[.slice p n d,.slice q m e] w fun e w'=> ∃ (q':Option Addr) (d':Nat) (tt:List So),e= .returned (.slice q' (jh x al).length d')/\Row 3 xx bo w' q' d' tt/\SW W tt (jh x al)/\aq w w'/\(jh x al).length<=d'/\∀j,aI q'=some j->aI p=some j\/w.heap.size<=j:=by
 subst hn hm;have b3:=fh Y;have nl:=qJ x;have aT:=sw.n;refine ky.ah ((CK (hv.grow hW) rfl (by unfold maxLen;omega)).mono ?_);rintro e1 w1 ⟨qn,dn,mn,Q,rfl,on,g1⟩;rw [Y] at Q;simp only [if_true] at Q;subst Q;refine ⟨_,_,_,_,rfl,?_⟩;intro n4 w5 h5;have e5:=h5.num;refine bq h5.has rfl rfl fun w6 b6 m6=> ?_;have z1:=g1.size;have V:aq w w6:=(g1.trans h5.mod).then m6 fun j O e=>by omega
 have a6:Vw (Value.int .i64) w6 qn (bh x):=((on.grow h5.mod).keep m6 fun k hk e=>by have:=on.lt k hk;omega).vw;refine (aY.ah (R:=fun e w'=>aq w6 w'/\((e= .returned (.int .i64 (-1))/\∀t,t<al.length->bh (al.getD t An).1≠bh x)\/
  ∃t:Nat,e= .returned (.int .i64 t)/\t<al.length/\bh (al.getD t An).1=bh x/\∀j,j<t->bh (al.getD j An).1≠bh x)) ?_).mono ?_
 . refine ⟨fun I u z=> ∃t:Nat,I=t/\t<=al.length/\z=al.length - t/\aq w6 u/\∀j,j<t->bh (al.getD j An).1≠bh x,⟨_,0,rfl,Nat.zero_le _,rfl,aE.refl _,fun j O=>by omega⟩,?_⟩;rintro I u z _ ⟨t,rfl,ht,rfl,U,J⟩;refine ao (fun r=> ?_) (fun r=> ⟨U,.inl ⟨rfl,fun j O=>J j (by simp at r;omega)⟩⟩);have r:t<al.length:=by simpa using r
   have X:al.getD t An∈al:=by simp [List.getD,r]
   refine sw.ix (o.grow (V.trans U)) rfl r fun a s aw h1 h2 h3=> ⟨_,_,_,_,_,aw,?_⟩
   rw [Di];show Calls _ _ _ _ _;rw [uk];refine (FA (h3.grow (hW.trans (V.trans U))) h1 (ar _ X) (b6.grow U) (a6.grow U) rfl).mono ?_;rintro b4 b5 ⟨rfl,Z⟩;refine ⟨_,rfl,ao (fun r2=> ⟨U.trans Z,.inr ⟨t,rfl,r,by simpa using r2,J⟩⟩) (fun r2=> ⟨_,by omega,t+1,wN (by omega) (by omega),r,rfl,U.trans Z,fun j O=> ?_⟩)⟩;by_cases e:j<t
   . exact J j e
   . obtain rfl:j=t:=by omega
     simpa using r2
 . rintro e7 w7 ⟨g7,⟨rfl,J⟩| ⟨t,rfl,ht,an,J⟩⟩
   . refine ⟨_,rfl,cj (by decide) ?_⟩;rw [Ab J];exact ⟨p,d,ss,rfl,o.grow (V.trans g7),sw,V.trans g7,hd,fun j O=> .inl O⟩
   . refine ⟨_,rfl,bm (by simp) ((DG (o.grow (V.trans g7)) aT.symm hx).mono ?_)⟩;rintro e9 w9 ⟨q9,d9,rfl,o9,g9,f9⟩;refine ⟨_,_,_,rfl,?_⟩;rw [wN (i:=t+1) (by omega) (by omega)];refine (Bn o9 rfl (by omega) (i:=t) (by omega)).mono ?_;rintro b' cc ⟨rfl,ay,az⟩;have G7:=V.trans g7;have z7:=G7.size;have hg:jh x al=al.take t++al.drop (t+1):=zQ ht J an;have hl:(jh x al).length=ss.length - 1:=by rw [hg,List.length_append,List.length_take,List.length_drop];omega
     refine ⟨_,_,_,rfl,q9,d9,ss.take t++ss.drop (t+1),by rw [hl],ay,by rw [hg];exact sw.part t ht,(G7.trans g9).then az fun j O e=>by have:=f9 j e;omega,?_,fun j O=> .inr (by have:=f9 j O;omega)⟩;have:=o9.cap;omega
theorem yy {k:Int} {al:List Ap} (hl:SV w q al) (hm:m=al.length) (hx:m<=1000000) (Z: ∀x∈al,iu x.2=true) {e:Nat}:
 Calls prog fY.id #[.agg #[.int .i64 k,.slice p n d],.slice q m e] w fun e w'=>e= .returned (.int .i64 ((al.map (·.2)).foldl rQ k))/\aq w w':=by
 subst hm;refine fY.ah ?_;intro n1 w2 h2;refine ⟨_,ad h2.has rfl,?_⟩;refine ⟨fun N I u z=> ∃i:Nat,I=i/\i<=al.length/\z=al.length - i/\N=((al.take i).map (·.2)).foldl rQ k/\aq w2 u,⟨_,0,rfl,Nat.zero_le _,rfl,rfl,aE.refl _⟩,?_⟩;rintro N I u z _ ⟨i,rfl,hi,rfl,rfl,gu⟩;have X:=h2.mod.trans gu;refine ao (fun r=> ?_) (fun r=> ?_)
 . have r:i<al.length:=by simpa using r
   have V:al.getD i lZ∈al:=by simp [List.getD,r]
   have Y:=fh (Z _ V);refine hl.ix X rfl r fun a s aa h1 av h3=> ⟨_,_,_,_,aa u X,?_⟩
   intro ay aT O;have az:=O.num;refine bq O.has rfl rfl fun Q an ac=> ⟨_,_,_,ad an rfl,?_⟩
   have U:aq u Q:=O.mod.then ac fun j hj e=>by omega
   refine ⟨fun N I y z=> ∃j:Nat,I=j/\j<=(al.getD i lZ).2.length/\z=(al.getD i lZ).2.length - j/\N=rQ (((al.take i).map (·.2)).foldl rQ k) ((al.getD i lZ).2.take j)/\aq Q y,⟨_,0,rfl,Nat.zero_le _,rfl,rfl,aE.refl _⟩,?_⟩;rintro N I y z _ ⟨j,rfl,hj,rfl,rfl,gy⟩;have Gy:=(X.trans U).trans gy;refine ao (fun J=> ?_) (fun J=> ?_)
   . have J:j< (al.getD i lZ).2.length:=by rw [h1] at J;simpa using J
     refine (h3.grow Gy).ix 0 (by omega) h1 (by omega) fun a e=> ⟨_,e,_,?_,j+1,wN (by omega) (by omega),J,rfl,?_,gy⟩
     . omega
     . rw [Int.toNat_natCast,nw _ (qM (Y.1 _ (bE J)))];exact (Ad J).symm
   . have J:j=(al.getD i lZ).2.length:=by rw [decide_eq_false_iff_not] at J;omega
     subst J;rw [List.take_length];refine ⟨_,?_,i+1,wN (by omega) (by omega),r,rfl,?_,(gu.trans U).trans gy⟩
     . omega
     . rw [mh r lZ,List.map_append,List.foldl_append];rfl
 . have r:i=al.length:=by simp at r;omega
   subst r;rw [List.take_length];exact ⟨rfl,X⟩
end
section
open Go.LeP
variable {s t s':aG} {l c d:List Int} {x y:Int} {i j N:Nat} {cs:List (List Int)}
structure Jp (N:Nat) (v:Int->Int):Prop where
 neg: ∀l,v (-l)= -v l
 val: ∀l,v l=0\/v l=1\/v l= -1
 set: ∀l,dR N l->v l≠0
def zK (N:Nat) (cs:List (List Int)) (c:List Int):Prop:= ∀v,Jp N v->(∀d∈cs,vS v d)->vS v c
def Jl (s:aG) (c P:List Int):Prop:=(∃x∈c,x∈P)\/∃x∈c,∃y∈c,x≠y/\x ∉ P/\ -x ∉ P/\y ∉ P/\ -y ∉ P
def aG.cP (s:aG) (j:Nat):List Int:=(s.R .tr).take ((s.R .be).getD j 0).toNat
def yz (s:aG):Prop:= ∀j,j< (s.R .be).length->∀i,s.aQ i->Jl s (s.R (.a i)) (s.cP j)
theorem yz.ext (g:aM s) (h:yz s) (e:iq s s'):yz s':=by
 intro j I i hi;rw [e.be] at I;have hi:=e.mB.1 hi;have hb:=g.bl j I;have J:s'.cP j=s.cP j:=by
  unfold aG.cP;obtain ⟨k,O⟩:=e.tr;rw [e.be,O,List.take_append_of_le_length (by omega)]
 rw [e.a i,J];exact h j I i hi
theorem kQ (g:aM s) (I:dR s.vars x) (h:s.val x=0):x ∉ s.R .tr/\ -x ∉ s.R .tr:=by
 refine ⟨fun hm=> ?_,fun hm=> ?_⟩
 . have:=(g.v1 x I).2 hm;omega
 . have:=(g.v1 (-x) I.neg).2 hm;rw [mN I] at this;omega
theorem Dz (g:aM s) (h:dM s) (hi:s.aQ i):Jl s (s.R (.a i)) (s.R .tr):=by
 rcases h i hi with h| ⟨x,O,y,J,I,h1,Q⟩
 . exact .inl h
 . have U:=g.cv i hi x ((g.ca i hi x).2 O);have X:=g.cv i hi y ((g.ca i hi y).2 J);obtain ⟨a,b⟩:=kQ g U h1;obtain ⟨Y,V⟩:=kQ g X Q;exact .inr ⟨x,O,y,J,I,a,b,Y,V⟩
theorem mE:(s.decide x).R (.a i)=s.R (.a i):=by
 unfold aG.decide;rw [iP (by simp) (by simp) (by simp) (by simp)];unfold aG.iM;rw [ak (by simp),ak (by simp)]
theorem ot:(s.decide x).R .be=s.R .be++ [((s.R .tr).length:Int)]:=by
 unfold aG.decide;rw [iP (by simp) (by simp) (by simp) (by simp)];unfold aG.iM;rw [ak (by simp),aK]
theorem ry:(s.decide x).R .tr=s.R .tr++ [x]:=by
 unfold aG.decide;rw [oe];unfold aG.iM;rw [ak (by simp),ak (by simp)]
theorem ja:(s.decide x).aQ i↔s.aQ i:=by
 unfold aG.decide aG.iM aG.put aG.aQ aG.set;exact Iff.rfl
theorem yz.decide (g:aM s) (h:yz s) (O:dM s):yz (s.decide x):=by
 intro j J i hi;have hi:s.aQ i:=ja.1 hi;rw [ot,List.length_append,List.length_cons,List.length_nil] at J;unfold aG.cP;rw [ot,ry,mE];by_cases e:j< (s.R .be).length
 . have hb:=g.bl j e;have I:(s.R .be++ [((s.R .tr).length:Int)]).getD j 0=(s.R .be).getD j 0:=by simp [List.getD,List.getElem?_append_left e]
   rw [I,List.take_append_of_le_length (by omega)];exact h j e i hi
 . have e0:j=(s.R .be).length:=by omega
   subst e0;have I:(s.R .be++ [((s.R .tr).length:Int)]).getD (s.R .be).length 0=((s.R .tr).length:Int):=by simp [List.getD]
   rw [I,Int.toNat_natCast,List.take_append_of_le_length (Nat.le_refl _),List.take_length];exact Dz g O hi
theorem xn (i:Nat):(s.bC i).R .be=(s.R .be).take i/\(s.bC i).R .tr=(s.R .tr).take ((s.R .be).getD i 0).toNat/\∀j,(s.bC i).R (.a j)=s.R (.a j):=by
 unfold aG.bC;simp only [aG.set];refine ⟨?_,?_,fun j=> ?_⟩<;>simp [bi]
theorem qa:(s.bC i).R .be=(s.R .be).take i:=(xn i).1
theorem xm:(s.bC i).R .tr=(s.R .tr).take ((s.R .be).getD i 0).toNat:=(xn i).2.1
theorem lI:(s.bC i).R (.a j)=s.R (.a j):=(xn i).2.2 j
theorem zP (g:aM s) (hi:i< (s.R .be).length) (I:j<i):(s.bC i).cP j=s.cP j:=by
 unfold aG.cP;rw [qa,xm,fN I,List.take_take];have:=g.bs j i I hi;have:=g.bl j (by omega);rw [Nat.min_eq_left (by omega)]
theorem yz.bC (g:aM s) (h:yz s) (hi:i< (s.R .be).length):yz (s.bC i):=by
 intro j J k I;have I:s.aQ k:=I;rw [qa,List.length_take] at J;rw [lI,zP g hi (by omega)];exact h j (by omega) k I
theorem q_ (g:aM s) {p:Nat} (I:j< (s.R .be).length):j< (s.R .be).countP (fun e=>decide (e<=(p:Int)))↔(s.R .be).getD j 0<=(p:Int):=by
 have mono: ∀a b,a<b->b< (s.R .be).length->(s.R .be).getD a 0< (s.R .be).getD b 0:=fun a b h1 O=>g.bs a b h1 O;have key: ∀ (be:List Int),(∀a b,a<b->b<be.length->be.getD a 0<be.getD b 0)->∀j,j<be.length->(j<be.countP (fun e=>decide (e<=(p:Int)))↔be.getD j 0<=(p:Int)):=by
  intro be
  induction be with
  |nil=>intro _ j I;simp at I
  |cons a t Q=>
   intro hm j I;have Q:=Q (fun x y h1 O=>by have:=hm (x+1) (y+1) (by omega) (by simpa using O);simpa using this);rw [List.countP_cons];by_cases ha:a<=(p:Int)
   . rw [if_pos (by simpa using ha)];cases j with
     |zero=>simp [ha]
     |succ j=>
      have I:j<t.length:=by simpa using I
      have:=Q j I;have J:(a::t).getD (j+1) 0=t.getD j 0:=by simp
      rw [J,<- this];omega
   . rw [if_neg (by simpa using ha)];have z:t.countP (fun e=>decide (e<=(p:Int)))=0:=by
      rw [List.countP_eq_zero];intro e he;obtain ⟨k,U,rfl⟩:=List.mem_iff_getElem.1 he;have:=hm 0 (k+1) (by omega) (by simpa using U);simp only [List.getD_cons_zero,List.getD_cons_succ] at this;rw [List.getD_eq_getElem?_getD,List.getElem?_eq_getElem U,Option.getD_some] at this;simp;omega
     rw [z];cases j with
     |zero=>simp;omega
     |succ j=>
      have I:j<t.length:=by simpa using I
      have:=hm 0 (j+1) (by omega) (by simpa using I);have J:(a::t).getD (j+1) 0=t.getD j 0:=by simp
      have e0:(a::t).getD 0 0=a:=by simp
      rw [J,e0] at this;rw [J];omega
 exact key _ mono j I
theorem vQ (I:x∈s.R .tr): ∃p,p< (s.R .tr).length/\(s.R .tr).getD p 0=x:=by
 obtain ⟨p,hp,e⟩:=List.mem_iff_getElem.1 I;exact ⟨p,hp,by simp [List.getD,hp,e]⟩
theorem Fz (g:aM s) {p q:Nat} (hp:p< (s.R .tr).length) (hq:q< (s.R .tr).length) (h:aX ((s.R .tr).getD p 0)=aX ((s.R .tr).getD q 0)):p=q:=by
 have I:(s.R .tr).getD p 0=(s.R .tr)[p]:=by simp [List.getD,hp]
 have J:(s.R .tr).getD q 0=(s.R .tr)[q]:=by simp [List.getD,hq]
 rw [I,J] at h;have:=(List.getElem_inj (h₀:=show p< ((s.R .tr).map aX).length by simpa using hp) (h₁:=by simpa using hq) g.nd).1 (by simpa using h);exact this
theorem yB {l:List Int} {k:Nat}:x∈l.take k↔∃p,p<k/\p<l.length/\l.getD p 0=x:=by
 constructor
 . intro h;obtain ⟨p,hp,e⟩:=List.mem_iff_getElem.1 h;rw [List.length_take] at hp;refine ⟨p,by omega,by omega,?_⟩;rw [List.getElem_take] at e;simp [List.getD,show p<l.length by omega,e]
 . rintro ⟨p,h1,I,rfl⟩;rw [List.mem_iff_getElem];refine ⟨p,by rw [List.length_take];omega,?_⟩;rw [List.getElem_take];simp [List.getD,I]
theorem oM:s.bj (-x)=s.bj x:=by unfold aG.bj;rw [oJ]
theorem oQ (g:aM s) (O: -x∈s.R .tr) (I:j< (s.R .be).length): -x∈s.cP j↔s.bj x<=j:=by
 obtain ⟨p,hp,e⟩:=vQ O;have hl:=g.lv p hp;rw [e,oM] at hl;have U:=q_ g (p:=p) I;have hb:=g.bl j I;unfold aG.cP;rw [yB,hl];constructor
 . rintro ⟨q,h1,J,Q⟩;have:=Fz g J hp (by rw [Q,e]);subst this;omega
 . intro h;refine ⟨p,?_,hp,e⟩;omega
theorem gh (g:aM s) (J: -x∈s.R .tr):x ∉ s.R .tr:=by
 intro h;obtain ⟨p,hp,e⟩:=vQ J;obtain ⟨q,hq,I⟩:=vQ h;have:=Fz g hp hq (by rw [e,I,oJ]);subst this;have:=(g.tv x h).1;omega
structure LS (s:aG) (l:List Int) (bl:Nat):Prop where
 ft: ∀x∈l,-x∈s.R .tr
 lS: ∃x∈l,s.bj x=(s.R .be).length/\∀y∈l,y≠x->s.bj y<=bl
 lt:bl< (s.R .be).length
 aF:bl=0\/∃y∈l,s.bj y=bl
 nd:l.Nodup
theorem LS.qD (g:aM s) (h:LS s l i) (I:x∈l):dR s.vars x:=by
 have:=(g.tv _ (h.ft x I)).neg
 rwa [Int.neg_neg] at this
theorem LS.new (g:aM s) (b:yz s) (h:LS s l i) (X:s.aQ j): ¬∀x,x∈s.R (.a j)↔x∈l:=by
 intro e;have V:=h.lt;obtain ⟨x,Z,h1,U⟩:=h.lS;have Q:(s.R .be).length - 1< (s.R .be).length:=by omega
 rcases b _ Q j X with ⟨y,J,O⟩| ⟨y,J,z,Y,I,_,b1,_,b2⟩
 . exact gh g (h.ft y ((e y).1 J)) (List.mem_of_mem_take O)
 . have key: ∀u∈l,-u ∉ s.cP ((s.R .be).length - 1)->u=x:=fun u hu hn=>by
    refine Classical.byContradiction fun I=>hn ((oQ g (h.ft u hu) Q).2 ?_);have:=U u hu I;omega
   exact I ((key y ((e y).1 J) b1).trans (key z ((e z).1 Y) b2).symm)
theorem LS.add (g:aM s) (b:yz s) (h:LS s l i) (ha:jT (s.bC i) l s'):yz s':=by
 intro j X k U;have gb:=ke g h.lt;have Y:=h.lt;rw [ha.be,qa,List.length_take] at X;have Z:s'.cP j=s.cP j:=by
  have:s'.cP j=(s.bC i).cP j:=by unfold aG.cP;rw [ha.tr,ha.be]
  rw [this,zP g h.lt (by omega)]
 have aa:k< (s.bC i).nc+1:=by have:=U.1;rw [ha.n] at this;exact this
 rw [Z,ha.a];by_cases e:k=(s.bC i).nc
 . rw [if_pos e];obtain ⟨x,Q,h1,h2⟩:=h.lS;rcases h.aF with e0| ⟨y,O,e0⟩
   . omega
   . have I:j< (s.R .be).length:=by omega
     have V:=gh g (h.ft x Q);have ny:=gh g (h.ft y O);refine .inr ⟨x,Q,y,O,fun e=>by rw [e,e0] at h1;omega,fun hm=>V (List.mem_of_mem_take hm),fun hm=> ?_,fun hm=>ny (List.mem_of_mem_take hm),fun hm=> ?_⟩
     . have:=(oQ g (h.ft x Q) I).1 hm;omega
     . have:=(oQ g (h.ft y O) I).1 hm;omega
 . rw [if_neg e];have hg:(s.bC i).gone k=false:=by have:=U.2;rw [ha.g,if_neg e] at this;exact this
   have J:s.aQ k:=⟨by show k< (s.bC i).nc;omega,hg⟩
   rw [lI];exact b j (by omega) k J
def Ga (c:List Int) (v:Int):Nat:=if v∈c then 1 else if -v∈c then 2 else 0
def qQ (c:List Int):Nat->Nat
 |0=>0
 |n+1=>Ga c ((n:Int)+1)+3*qQ c n
theorem EL (c:List Int) (v:Int):Ga c v<3:=by
 unfold Ga;split
 . omega
 . split<;>omega
theorem zH {c d:List Int}: ∀ {n:Nat},qQ c n=qQ d n->∀v:Nat,v<n->Ga c ((v:Int)+1)=Ga d ((v:Int)+1)
 |0,_,v,hv=>by omega
 |n+1,h,v,hv=>by
  unfold qQ at h;have h1:=EL c ((n:Int)+1);have J:=EL d ((n:Int)+1);have I:Ga c ((n:Int)+1)=Ga d ((n:Int)+1):=by omega
  by_cases e:v=n
  . subst e;exact I
  . exact zH (n:=n) (by omega) v (by omega)
structure Ar (N:Nat) (c:List Int):Prop where
 qD: ∀x∈c,dR N x
 nt: ∀x∈c,-x ∉ c
 nd:c.Nodup
theorem Ar.mem (h:Ar N c) (I:dR N x):x∈c↔(0<x/\Ga c (aX x)=1)\/(x<0/\Ga c (aX x)=2):=by
 obtain ⟨O,h1,J⟩:=I;unfold aX;by_cases e:x<0
 . rw [if_pos e];unfold Ga;rw [Int.neg_neg];constructor
   . intro hm;have:=h.nt x hm;rw [if_neg this,if_pos hm];exact .inr ⟨e,rfl⟩
   . rintro (⟨a,_⟩| ⟨_,b⟩)
     . omega
     . split at b
       . omega
       . split at b
         . assumption
         . omega
 . rw [if_neg e];unfold Ga;constructor
   . intro hm;rw [if_pos hm];exact .inl ⟨by omega,rfl⟩
   . rintro (⟨_,b⟩| ⟨a,_⟩)
     . split at b
       . assumption
       . split at b<;>omega
     . omega
theorem Ar.same (h:Ar N c) (k:Ar N d) (e:qQ c N=qQ d N): ∀x,x∈c↔x∈d:=by
 have key: ∀x,dR N x->(x∈c↔x∈d):=fun x I=>by
  rw [h.mem I,k.mem I];have ha:=I.aX;have:=zH e ((aX x).toNat - 1) (by omega);rw [show (((aX x).toNat - 1:Nat):Int)+1=aX x by omega] at this;rw [this]
 intro x;exact ⟨fun I=> (key x (h.qD x I)).1 I,fun I=> (key x (k.qD x I)).2 I⟩
end
section
open Go.LeP
variable {s t s':aG} {l c d:List Int} {x y:Int} {i j N:Nat} {cs:List (List Int)} {hv:List (Nat × List Int)} {un:List (List Int)}
theorem gx (g:aM s) (I:dR s.vars x):s.val x=0↔x ∉ s.R .tr/\ -x ∉ s.R .tr:=by
 refine ⟨kQ g I,fun ⟨h1,J⟩=> ?_⟩;have hb:=s.pz g.wf x;rcases hb with h|h|h
 . exact h
 . exact absurd ((g.v1 x I).1 h) h1
 . exact absurd ((g.v1 (-x) I.neg).1 (by rw [mN I];omega)) J
structure ni (N:Nat) (cs:List (List Int)) (s:aG) (hv:List (Nat × List Int)) (un:List (List Int)):Prop where
 g:aM s
 v:s.vars=N
 fc: ∀j,j<cs.length->s.aQ j/\s.R (.a j)=cs.getD j []
 imp: ∀i,s.aQ i->zK N cs (s.R (.a i))
 yv: ∀h∈hv,cs.length<=h.1/\s.aQ h.1/\s.R (.a h.1)=h.2
 hn:(hv.map (·.1)).Nodup
 Id: ∀c∈un,∃i,cs.length<=i/\s.aQ i/\s.R (.a i)=c/\i ∉ hv.map (·.1)
 En:yz s
 dn:((hv.map (·.2)++un).map fun c=>qQ c N).Nodup
 ok: ∀c∈hv.map (·.2)++un,Ar N c
theorem ni.run (h:ni N cs s hv un) (e:iq s s') (Q:aM s'):ni N cs s' hv un:=by
 have th: ∀i,s'.aQ i↔s.aQ i:=fun i=>e.mB;exact ⟨Q,by rw [e.v,h.v],fun j J=> ⟨(th j).2 (h.fc j J).1,by rw [e.a];exact (h.fc j J).2⟩,fun i hi=>by rw [e.a];exact h.imp i ((th i).1 hi),
  fun k I=> ⟨(h.yv k I).1,(th _).2 (h.yv k I).2.1,by rw [e.a];exact (h.yv k I).2.2⟩,h.hn,
  fun c U=>by obtain ⟨i,h1,O,X,V⟩:=h.Id c U;exact ⟨i,h1,(th i).2 O,by rw [e.a];exact X,V⟩,h.En.ext h.g e,h.dn,h.ok⟩
theorem ni.decide (h:ni N cs s hv un) (J:dM s) (hl:dR s.vars x) (U:s.val x=0):ni N cs (s.decide x) hv un:=by
 exact ⟨od h.g hl U,h.v,fun j O=> ⟨ja.2 (h.fc j O).1,by rw [mE];exact (h.fc j O).2⟩,fun i hi=>by rw [mE];exact h.imp i (ja.1 hi),
  fun k I=> ⟨(h.yv k I).1,ja.2 (h.yv k I).2.1,by rw [mE];exact (h.yv k I).2.2⟩,h.hn,
  fun c J=>by obtain ⟨i,h1,Q,X,V⟩:=h.Id c J;exact ⟨i,h1,ja.2 Q,by rw [mE];exact X,V⟩,h.En.decide h.g J,h.dn,h.ok⟩
theorem ni.bC (h:ni N cs s hv un) (hi:i< (s.R .be).length):ni N cs (s.bC i) hv un:=by
 exact ⟨ke h.g hi,h.v,fun j J=> ⟨(h.fc j J).1,by rw [lI];exact (h.fc j J).2⟩,fun k I=>by rw [lI];exact h.imp k I,
  fun k I=> ⟨(h.yv k I).1,(h.yv k I).2.1,by rw [lI];exact (h.yv k I).2.2⟩,h.hn,
  fun c Q=>by obtain ⟨k,h1,O,V,U⟩:=h.Id c Q;exact ⟨k,h1,O,by rw [lI];exact V,U⟩,h.En.bC h.g hi,h.dn,h.ok⟩
theorem LS.KU (h:ni N cs s hv un) (k:LS s l i):Ar N l:=
 ⟨fun x I=>by have:=k.qD h.g I;rwa [h.v] at this,fun x I hm=>gh h.g (k.ft x I) (by have:=k.ft _ hm;rwa [Int.neg_neg] at this),k.nd⟩
theorem LS.EC (h:ni N cs s hv un) (k:LS s l i):qQ l N ∉ (hv.map (·.2)++un).map fun c=>qQ c N:=by
 intro hm;obtain ⟨c,I,e⟩:=List.mem_map.1 hm;have same:=(h.ok c I).same (k.KU h) e;rcases List.mem_append.1 I with I|I
 . obtain ⟨p,hp,rfl⟩:=List.mem_map.1 I;obtain ⟨_,J,O⟩:=h.yv p hp;exact k.new h.g h.En J (by rw [O];exact same)
 . obtain ⟨q,_,J,O,_⟩:=h.Id c I;exact k.new h.g h.En J (by rw [O];exact same)
structure Gs (N:Nat) (cs:List (List Int)) (s:aG) (hv:List (Nat × List Int)) (un:List (List Int)) (l:List Int) (nc:Nat):Prop where
 g:aM s
 v:s.vars=N
 fc: ∀j,j<cs.length->s.aQ j/\s.R (.a j)=cs.getD j []
 imp: ∀i,s.aQ i->zK N cs (s.R (.a i))
 yv: ∀h∈hv,cs.length<=h.1/\s.aQ h.1/\s.R (.a h.1)=h.2
 hn:(hv.map (·.1)).Nodup
 Id: ∀c∈un,∃i,cs.length<=i/\s.aQ i/\s.R (.a i)=c/\i ∉ hv.map (·.1)/\i<nc
 En:yz s
 dn:((hv.map (·.2)++un).map fun c=>qQ c N).Nodup
 ok: ∀c∈hv.map (·.2)++un,Ar N c
 lc:qQ l N ∉ (hv.map (·.2)++un).map fun c=>qQ c N
 lo:Ar N l
 la:cs.length<=nc/\s.aQ nc/\s.R (.a nc)=l
 hl: ∀h∈hv,h.1<nc
theorem ni.LN (h:ni N cs s hv un) (k:LS s l i) (f:zK N cs l) (ha:jT (s.bC i) l s') (Y:aM s'):Gs N cs s' hv un l s.nc:=by
 have enc:(s.bC i).nc=s.nc:=rfl;have U:cs.length<=s.nc:=by
  rcases Nat.lt_or_ge s.nc cs.length with e|e
  . exact absurd (h.fc _ e).1.1 (Nat.lt_irrefl _)
  . exact e
 have th: ∀ {j},s.aQ j->s'.aQ j/\s'.R (.a j)=s.R (.a j):=fun {j} I=>by
  have Q:j≠s.nc:=by have:=I.1;omega
  refine ⟨⟨?_,?_⟩,?_⟩
  . rw [ha.n,enc];have:=I.1;omega
  . rw [ha.g,enc,if_neg Q];exact I.2
  . rw [ha.a,enc,if_neg Q,lI]
 have X:s'.aQ s.nc/\s'.R (.a s.nc)=l:=by
  refine ⟨⟨?_,?_⟩,?_⟩
  . rw [ha.n,enc];omega
  . rw [ha.g,enc,if_pos rfl]
  . rw [ha.a,enc,if_pos rfl]
 refine ⟨Y,by rw [ha.v];exact h.v,fun j I=> ⟨(th (h.fc j I).1).1,by rw [(th (h.fc j I).1).2];exact (h.fc j I).2⟩,fun j I=> ?_,fun p hp=> ?_,h.hn,fun c Z=> ?_,k.add h.g h.En ha,h.dn,h.ok,k.EC h,k.KU h,⟨U,X⟩,fun p hp=> (h.yv p hp).2.1.1⟩
 . by_cases e:j=s.nc
   . subst e;rw [X.2];exact f
   . have O:s.aQ j:=by
      refine ⟨?_,?_⟩
      . have:=I.1;rw [ha.n,enc] at this;omega
      . have:=I.2;rw [ha.g,enc,if_neg e] at this;exact this
     rw [(th O).2];exact h.imp j O
 . obtain ⟨h1,J,V⟩:=h.yv p hp;exact ⟨h1,(th J).1,by rw [(th J).2];exact V⟩
 . obtain ⟨q,h1,J,V,h4⟩:=h.Id c Z;exact ⟨q,h1,(th J).1,by rw [(th J).2];exact V,h4,J.1⟩
theorem sW {α:Type} {l:List α} {a:α} (h:l.Nodup) (ha:a ∉ l):(l++ [a]).Nodup:=by
 rw [List.nodup_append];exact ⟨h,by simp,fun x J y I=>by rw [List.mem_singleton] at I;subst I;rintro rfl;exact ha J⟩
theorem JP {α:Type} {l m:List α} {a:α} (h:(l++m).Nodup) (ha:a ∉ l++m):(l++ [a]++m).Nodup:=by
 have hp:(l++ [a]++m).Perm (l++m++ [a]):=by
  rw [List.append_assoc,List.append_assoc];exact List.Perm.append_left _ (List.perm_append_comm)
 exact hp.nodup_iff.2 (sW h ha)
theorem Gs.EY (h:Gs N cs s hv un l i):ni N cs s (hv++ [(i,l)]) un:=by
 obtain ⟨h1,J,U⟩:=h.la;refine ⟨h.g,h.v,h.fc,h.imp,fun p hp=> ?_,?_,fun c I=> ?_,h.En,?_,fun c I=> ?_⟩
 . rcases List.mem_append.1 hp with hp|hp
   . exact h.yv p hp
   . rw [List.mem_singleton] at hp;subst hp;exact ⟨h1,J,U⟩
 . rw [List.map_append];exact sW h.hn fun hm=>by
    obtain ⟨p,hp,e⟩:=List.mem_map.1 hm;have:=h.hl p hp;simp at e;omega
 . obtain ⟨q,Q,O,X,V,Y⟩:=h.Id c I;refine ⟨q,Q,O,X,fun hm=> ?_⟩;rw [List.map_append] at hm;rcases List.mem_append.1 hm with hm|hm
   . exact V hm
   . simp at hm;omega
 . rw [List.map_append,List.map_append,List.map_append];have:=h.dn;have hl:=h.lc;rw [List.map_append] at this hl;exact JP this hl
 . rw [List.map_append] at I;rcases List.mem_append.1 I with I|I
   . rcases List.mem_append.1 I with I|I
     . exact h.ok c (List.mem_append_left _ I)
     . simp at I;subst I;exact h.lo
   . exact h.ok c (List.mem_append_right _ I)
theorem Gs.FM (h:Gs N cs s hv un l i):ni N cs s hv (un++ [l]):=by
 obtain ⟨h1,J,X⟩:=h.la;refine ⟨h.g,h.v,h.fc,h.imp,h.yv,h.hn,fun c I=> ?_,h.En,?_,fun c I=> ?_⟩
 . rcases List.mem_append.1 I with I|I
   . obtain ⟨q,U,Q,V,O,Y⟩:=h.Id c I;exact ⟨q,U,Q,V,O⟩
   . rw [List.mem_singleton] at I;subst I;exact ⟨i,h1,J,X,fun hm=>by
      obtain ⟨p,hp,e⟩:=List.mem_map.1 hm;have:=h.hl p hp;omega⟩
 . rw [<- List.append_assoc,List.map_append];exact sW h.dn h.lc
 . rw [<- List.append_assoc] at I;rcases List.mem_append.1 I with I|I
   . exact h.ok c I
   . rw [List.mem_singleton] at I;subst I;exact h.lo
theorem rB (h:j≠i):(s.drop i).R (.a j)=s.R (.a j):=by
 unfold aG.drop aG.del;show (((((lg i s ((s.R (.l i)).take 2)).set .lo _).set (.a i) []).set (.l i) []).R (.a j))=_;rw [ak (by simp),ak (by simpa using h),ak (by simp),ij _ (by simp)]
theorem ut {z:Pt} (h:z= .tr\/z= .be):(s.drop i).R z=s.R z:=by
 unfold aG.drop aG.del;show (((((lg i s ((s.R (.l i)).take 2)).set .lo _).set (.a i) []).set (.l i) []).R z)=_;rcases h with rfl|rfl<;>rw [ak (by simp),ak (by simp),ak (by simp),ij _ (by simp)]
theorem A0:(s.drop i).vars=s.vars:=by
 obtain ⟨d1,d2,d3,_⟩:=iw (i:Int) ((s.R (.l i)).take 2) s;exact d1
theorem ni.drop {A B:List (Nat × List Int)} {p:Nat × List Int} (h:ni N cs s (A++p::B) un) (g':aM (s.drop p.1)):ni N cs (s.drop p.1) (A++B) un:=by
 have hp:=h.yv p (by simp);have hn:=h.hn;rw [List.map_append,List.map_cons] at hn;have U:p.1 ∉ (A++B).map (·.1)/\((A++B).map (·.1)).Nodup:=by
  rw [List.map_append];have hp:(A.map (·.1)++p.1::B.map (·.1)).Perm (p.1::(A.map (·.1)++B.map (·.1))):=List.perm_middle;exact List.nodup_cons.1 (hp.nodup_iff.1 hn)
 have sub: ∀q∈A++B,q∈A++p::B:=fun q hq=>by
  rcases List.mem_append.1 hq with hq|hq
  . exact List.mem_append_left _ hq
  . exact List.mem_append_right _ (List.mem_cons_of_mem _ hq)
 have ne: ∀q∈A++B,q.1≠p.1:=fun q hq e=>U.1 (by rw [<- e];exact List.mem_map.2 ⟨q,hq,rfl⟩);refine ⟨g',by rw [A0];exact h.v,fun j J=> ?_,fun j J=> ?_,fun q hq=> ?_,U.2,fun c O=> ?_,fun j J k X=> ?_,?_,fun c O=> ?_⟩
 . have I:j≠p.1:=by omega
   exact ⟨iG.2 ⟨(h.fc j J).1,I⟩,by rw [rB I];exact (h.fc j J).2⟩
 . obtain ⟨h1,Q⟩:=iG.1 J;rw [rB Q];exact h.imp j h1
 . obtain ⟨h1,Q,h3⟩:=h.yv q (sub q hq);exact ⟨h1,iG.2 ⟨Q,ne q hq⟩,by rw [rB (ne q hq)];exact h3⟩
 . obtain ⟨q,Z,Y,q3,V⟩:=h.Id c O;have I:q≠p.1:=fun e=>V (by rw [e];exact List.mem_map.2 ⟨p,by simp,rfl⟩);exact ⟨q,Z,iG.2 ⟨Y,I⟩,by rw [rB I];exact q3,fun hm=>by
    obtain ⟨r,hr,e⟩:=List.mem_map.1 hm;exact V (List.mem_map.2 ⟨r,sub r hr,e⟩)⟩
 . obtain ⟨h1,Q⟩:=iG.1 X;rw [ut (.inr rfl)] at J;have:=h.En j J k h1;unfold aG.cP;rw [rB Q,ut (.inl rfl),ut (.inr rfl)];exact this
 . have:=h.dn;refine this.sublist (List.Sublist.map _ ?_);refine List.Sublist.append ?_ (List.Sublist.refl _);exact List.Sublist.map _ (List.Sublist.append (List.Sublist.refl _) (List.sublist_cons_self _ _))
 . refine h.ok c ?_;rcases List.mem_append.1 O with O|O
   . obtain ⟨q,hq,rfl⟩:=List.mem_map.1 O;exact List.mem_append_left _ (List.mem_map.2 ⟨q,sub q hq,rfl⟩)
   . exact List.mem_append_right _ O
def xW (N:Nat) (s:aG) (S:Int->Prop):Prop:= ∀v:Int,1<=v->v<=N->s.val v=0->S v
theorem xW.run {S:Int->Prop} (h:xW N s S) (k:ni N cs s hv un) (e:iq s s') (O:aM s'):xW N s' S:=by
 intro v v1 v2 Q;have J:dR s.vars v:=⟨by omega,by rw [k.v];omega,by rw [k.v];omega⟩
 have I:dR s'.vars v:=by rw [e.v];exact J
 obtain ⟨a,b⟩:=(gx O I).1 Q;exact h v v1 v2 ((gx k.g J).2 ⟨fun m=>a (e.mem m),fun m=>b (e.mem m)⟩)
end
section
open Go.LeP
variable {w0 w w' w1 w2:World} {B N:Nat} {L L':Nat->Nat}
structure Hc where
 i:Nat
 sl:Sl
 c:List Int
 lv:Int
 sz:Int
 lk:Bool
def D9 (h:Hc):List Value:= [.int .i64 h.i,h.sl.v,.int .i64 h.lv,.int .i64 h.sz,.bool h.lk]
theorem wD:Do 5 D9:=⟨fun _=>rfl,by omega,fun x v hv=>by
 simp only [D9,List.mem_cons,List.not_mem_nil,or_false] at hv;rcases hv with rfl|rfl|rfl|rfl|rfl<;>rfl⟩
abbrev Us:=Sl × List Int
abbrev Ps:=Bool × Sl × List Int
def Jt (h:Ps):List Value:= [.bool h.1,h.2.1.v]
theorem F9:Do 2 Jt:=⟨fun _=>rfl,by omega,fun x v hv=>by
 simp only [Jt,List.mem_cons,List.not_mem_nil,or_false] at hv;rcases hv with rfl|rfl<;>rfl⟩
structure Me where
 n:Int
 f:Sl
 tx:Int
 uni:Int
 lrn:Int
 pu:Int
 pa:Int
 pl:Int
 bB:Int
 jO:Int
 cf:Int
 de:Int
 re:Int
 dr:Int
structure Xs where
 m:Me
 pb:Nat
 hb:Nat
 CI:Sl
 hs:Sl
 us:Sl
 ps:Sl
 ms:Sl
 s:aG
 S:Int->Prop
 ph:List Int
 hv:List Hc
 un:List Us
 pr:List Ps
 mo:List Int
def Xs.cells (x:Xs):Array Value:= #[.int .i64 x.m.n,x.m.f.v,.int .i64 x.m.tx,.int .i64 x.m.uni,.int .i64 x.m.lrn,bR x.pb,bR x.hb,x.CI.v,.int .i64 x.m.pu,.int .i64 x.m.pa,.int .i64 x.m.pl,
 x.hs.v,x.us.v,.int .i64 x.m.bB,.int .i64 x.m.jO,x.ms.v,x.ps.v,.int .i64 x.m.cf,.int .i64 x.m.de,.int .i64 x.m.re,.int .i64 x.m.dr]
structure RO (w:World) (L:Nat->Nat) (s:Sl) (c:List Int):Prop where
 n:s.n=c.length
 v:Vw (Value.int .i64) w s.p c
 l: ∀k,aI s.p=some k->L k=9/\k<w.heap.size
structure IK (E:Nat->Prop) (w0 w:World) (B:Nat) (L:Nat->Nat) (N:Nat) (x:Xs):Prop where
 g:aq w0 w
 me: ¬E 1->bF w B x.cells
 ml:L B=1/\w0.heap.size<=B/\B<w.heap.size
 pm: ¬E 2->∃H,PM w x.pb H x.s/\∀y k,own x.pb H y=some k->L k=2/\w0.heap.size<=k
 hp: ¬E 3->∃z,Hp.co w x.hb z/\Hp.lw z N/\(∀u:Int,1<=u->u<=N->(0<HeapP.g z.at_ u↔x.S u))/\∀k,z.bI x.hb k->L k=3/\w0.heap.size<=k
 ph: ¬E 4->eC aC w x.CI.p x.CI.c x.ph/\x.CI.n=x.ph.length/\∀k,aI x.CI.p=some k->L k=4/\w0.heap.size<=k
 hv: ¬E 5->Row 5 D9 ck w x.hs.p x.hs.c x.hv/\x.hs.n=x.hv.length/\∀k,aI x.hs.p=some k->L k=5/\w0.heap.size<=k
 hr: ¬E 9->∀h∈x.hv,RO w L h.sl h.c
 un: ¬E 6->Ow Sl.v aJ w x.us.p x.us.c (x.un.map (·.1))/\x.us.n=x.un.length/\∀k,aI x.us.p=some k->L k=6/\w0.heap.size<=k
 ur: ¬E 9->∀u∈x.un,RO w L u.1 u.2
 pr: ¬E 7->Row 2 Jt lx w x.ps.p x.ps.c x.pr/\x.ps.n=x.pr.length/\∀k,aI x.ps.p=some k->L k=7/\w0.heap.size<=k
 rr: ¬E 9->∀u∈x.pr,RO w L u.2.1 u.2.2
 mo: ¬E 8->eC aC w x.ms.p x.ms.c x.mo/\x.ms.n=x.mo.length/\∀k,aI x.ms.p=some k->L k=8/\w0.heap.size<=k
abbrev SR:=IK fun _=>False
structure jA (E:Nat->Prop) (w0 w w':World) (L L':Nat->Nat):Prop where
 mod:aE (fun k=>E (L k)/\w0.heap.size<=k) w w'
 yx: ∀k,k<w.heap.size->L' k=L k
def jf (L:Nat->Nat) (n i:Nat):Nat->Nat:=fun k=>if k<n then L k else i
theorem cU {n i k:Nat} (h:k<n):jf L n i k=L k:=by unfold jf;rw [if_pos h]
theorem hJ {n i k:Nat} (h:n<=k):jf L n i k=i:=by unfold jf;rw [if_neg (by omega)]
abbrev Kp:=jA fun i=>i≠9
theorem jA.trans {E:Nat->Prop} {I:Nat->Nat} (h:jA E w0 w w1 L I) (k:jA E w0 w1 w2 I L'):jA E w0 w w2 L L':=
 ⟨h.mod.then k.mod fun b hb ⟨e,J⟩=> ⟨by rw [<- h.yx b hb];exact e,J⟩,fun b hb=>by rw [k.yx b (Nat.lt_of_lt_of_le hb h.mod.size),h.yx b hb]⟩
theorem jA.grow {E:Nat->Prop} (g:aq w w'):jA E w0 w w' L L:=⟨g.mono fun _ _ e=>e.elim,fun _ _=>rfl⟩
theorem jA.new {E:Nat->Prop} (g:aq w w') (i:Nat):jA E w0 w w' L (jf L w.heap.size i):=⟨g.mono fun _ _ e=>e.elim,fun _ I=>cU I⟩
theorem jA.sj {E E':Nat->Prop} (h:jA E w0 w w' L L') (I: ∀i,E i->E' i):jA E' w0 w w' L L':=⟨h.mod.mono fun _ _ e=> ⟨I _ e.1,e.2⟩,h.yx⟩
theorem RO.keep {s:Sl} {c:List Int} {E:Nat->Prop} (h:RO w L s c) (k:jA E w0 w w' L L') (I: ¬E 9):RO w' L' s c:=
 ⟨h.n,h.v.keep k.mod fun b hb ⟨e,_⟩=>I (by rw [<- (h.l b hb).1];exact e),fun b hb=> ⟨by rw [k.yx b (h.l b hb).2];exact (h.l b hb).1,Nat.lt_of_lt_of_le (h.l b hb).2 k.mod.size⟩⟩
theorem IK.Ja {E E':Nat->Prop} {x:Xs} (h:IK E w0 w B L N x) (k:jA E' w0 w w' L L'):IK (fun i=>E i\/E' i) w0 w' B L' N x:=by
 have nt: ∀ {i:Nat} {j:Nat},¬(E i\/E' i)->L j=i->¬(E' (L j)/\w0.heap.size<=j):=fun hi I U=>hi (.inr (by rw [<- I];exact U.1));refine ⟨h.g.then k.mod fun b hb U=>by omega,fun e=> (h.me fun J=>e (.inl J)).keep k.mod (nt e h.ml.1),⟨by rw [k.yx B h.ml.2.2];exact h.ml.1,h.ml.2.1,Nat.lt_of_lt_of_le h.ml.2.2 k.mod.size⟩,fun e=> ?_,fun e=> ?_,fun e=> ?_,fun e=> ?_,fun e u hu=> (h.hr (fun J=>e (.inl J)) u hu).keep k fun J=>e (.inr J),fun e=> ?_,fun e u hu=> (h.ur (fun J=>e (.inl J)) u hu).keep k fun J=>e (.inr J),fun e=> ?_,fun e u hu=> (h.rr (fun J=>e (.inl J)) u hu).keep k fun J=>e (.inr J),fun e=> ?_⟩
 . obtain ⟨H,h1,Q⟩:=h.pm fun J=>e (.inl J);exact ⟨H,h1.keep k.mod fun y j I=>nt e (Q y j I).1,fun y j I=>by rw [k.yx j (h1.lt y j I)];exact Q y j I⟩
 . obtain ⟨z,h1,Q,O,V⟩:=h.hp fun J=>e (.inl J);exact ⟨z,h1.keep k.mod fun j I=>nt e (V j I).1,Q,O,fun j I=>by rw [k.yx j (h1.lt j I)];exact V j I⟩
 . obtain ⟨h1,Q,O⟩:=h.ph fun J=>e (.inl J);exact ⟨h1.keep k.mod fun j I=>nt e (O j I).1,Q,fun j I=>by rw [k.yx j (h1.lt j I)];exact O j I⟩
 . obtain ⟨h1,Q,O⟩:=h.hv fun J=>e (.inl J);exact ⟨h1.keep k.mod fun j I=>nt e (O j I).1,Q,fun j I=>by rw [k.yx j (h1.lt j I)];exact O j I⟩
 . obtain ⟨h1,Q,O⟩:=h.un fun J=>e (.inl J);exact ⟨h1.keep k.mod fun j I=>nt e (O j I).1,Q,fun j I=>by rw [k.yx j (h1.lt j I)];exact O j I⟩
 . obtain ⟨h1,Q,O⟩:=h.pr fun J=>e (.inl J);exact ⟨h1.keep k.mod fun j I=>nt e (O j I).1,Q,fun j I=>by rw [k.yx j (h1.lt j I)];exact O j I⟩
 . obtain ⟨h1,Q,O⟩:=h.mo fun J=>e (.inl J);exact ⟨h1.keep k.mod fun j I=>nt e (O j I).1,Q,fun j I=>by rw [k.yx j (h1.lt j I)];exact O j I⟩
section
variable {x:Xs}
theorem IK.sj {E E':Nat->Prop} (h:IK E w0 w B L N x) (I: ∀i,E i->E' i):IK E' w0 w B L N x:=
 ⟨h.g,fun e=>h.me fun c=>e (I _ c),h.ml,fun e=>h.pm fun c=>e (I _ c),fun e=>h.hp fun c=>e (I _ c),fun e=>h.ph fun c=>e (I _ c),fun e=>h.hv fun c=>e (I _ c),fun e=>h.hr fun c=>e (I _ c),fun e=>h.un fun c=>e (I _ c),fun e=>h.ur fun c=>e (I _ c),fun e=>h.pr fun c=>e (I _ c),fun e=>h.rr fun c=>e (I _ c),fun e=>h.mo fun c=>e (I _ c)⟩
theorem SR.at (h:SR w0 w B L N x):bF w B x.cells:=h.me id
theorem SR.new (h:SR w0 w B L N x) (m:aq w w') (i:Nat):SR w0 w' B (jf L w.heap.size i) N x:=
 (h.Ja (E':=fun _=>False) ⟨m.mono fun _ _ e=>e.elim,fun _ I=>cU I⟩).sj fun _ e=>e.elim id id
theorem SR.grow (h:SR w0 w B L N x) (m:aq w w'):SR w0 w' B L N x:=
 (h.Ja (E':=fun _=>False) ⟨m.mono fun _ _ e=>e.elim,fun _ I=>rfl⟩).sj fun _ e=>e.elim id id
theorem SR.drew (h:SR w0 w B L N x):SR w0 w.drew B L N x:=h.grow (aE.refl _).drew
theorem SR.bS (h:SR w0 w B L N x) (i:Nat) (m:aE (fun k=>L k=i/\w0.heap.size<=k) w w'):IK (fun j=>j=i) w0 w' B (jf L w.heap.size i) N x:=
 (h.Ja (E':=fun j=>j=i) ⟨m,fun _ I=>cU I⟩).sj fun _ e=>e.elim False.elim id
theorem SR.aF (h:SR w0 w B L N x) (i:Nat) (m:aE (fun k=>L k=i/\w0.heap.size<=k) w w1) (m2:aE (·=B) w1 w'):IK (fun j=>j=i\/j=1) w0 w' B (jf L w.heap.size i) N x:=by
 refine (h.Ja (E':=fun j=>j=i\/j=1) ⟨?_,fun _ I=>cU I⟩).sj fun _ e=>e.elim False.elim id;exact (m.mono fun k _ e=> ⟨.inl e.1,e.2⟩).then m2 fun k I (e:k=B)=>by subst e;exact ⟨.inr h.ml.1,h.ml.2.1⟩
theorem tj {p q:Option Addr} {i:Nat} (h: ∀k,aI p=some k->L k=i/\w0.heap.size<=k) (hl: ∀k,aI p=some k->k<w.heap.size) (g:aq w0 w) (hq: ∀k,aI q=some k->aI p=some k\/w.heap.size<=k):
 ∀k,aI q=some k->jf L w.heap.size i k=i/\w0.heap.size<=k:=by
 intro k I;rcases hq k I with e|e
 . rw [cU (hl k e)];exact h k e
 . exact ⟨hJ e,Nat.le_trans g.size e⟩
theorem SR.own (h:SR w0 w B L N x) {m':Me} (st:bF w' B {x with m:=m'}.cells) (m:aE (·=B) w w'):(SR w0 w' B L N {x with m:=m'})/\Kp w0 w w' L L:=by
 have b:=(h.Ja (E':=fun j=>j=1) (w':=w') (L':=L) ⟨m.mono fun k _ (e:k=B)=>by subst e;exact ⟨h.ml.1,h.ml.2.1⟩,fun _ _=>rfl⟩)
 exact ⟨⟨b.g,fun _=>st,b.ml,fun _=>b.pm (by simp),fun _=>b.hp (by simp),fun _=>b.ph (by simp),fun _=>b.hv (by simp),fun _=>b.hr (by simp),fun _=>b.un (by simp),fun _=>b.ur (by simp),fun _=>b.pr (by simp),fun _=>b.rr (by simp),fun _=>b.mo (by simp)⟩,⟨m.mono fun k _ (e:k=B)=>by subst e;exact ⟨by rw [h.ml.1];decide,h.ml.2.1⟩,fun _ _=>rfl⟩⟩
theorem SR.sg (h:SR w0 w B L N x) {H Q:Pt->Sl} (I: ∀y k,Go.Proofs.YtenmibfmhccmiaaGreat.W.own x.pb H y=some k->L k=2/\w0.heap.size<=k) (J: ∀y k,Go.Proofs.YtenmibfmhccmiaaGreat.W.own x.pb H y=some k->k<w.heap.size) {s':aG} (p:Pw w w' x.pb H Q s'):(SR w0 w' B (jf L w.heap.size 2) N {x with s:=s'})/\Kp w0 w w' L (jf L w.heap.size 2):=by
 have b:=h.bS 2 (p.mod.mono fun k _ ⟨y,e⟩=>I y k e);refine ⟨⟨b.g,fun _=>b.me (by simp),b.ml,fun _=> ⟨Q,p.pm,fun y k O=> ?_⟩,fun _=>b.hp (by simp),fun _=>b.ph (by simp),fun _=>b.hv (by simp),fun _=>b.hr (by simp),fun _=>b.un (by simp),fun _=>b.ur (by simp),fun _=>b.pr (by simp),fun _=>b.rr (by simp),fun _=>b.mo (by simp)⟩,⟨p.mod.mono fun k _ ⟨y,e⟩=> ⟨by rw [(I y k e).1];decide,(I y k e).2⟩,fun _ O=>cU O⟩⟩;rcases p.ft y k O with ⟨z,e⟩|e
 . rw [cU (J z k e)];exact I z k e
 . exact ⟨hJ e,Nat.le_trans h.g.size e⟩
theorem SR.heap (h:SR w0 w B L N x) {z I:Hp.HS} (J: ∀k,z.bI x.hb k->L k=3/\w0.heap.size<=k) (O: ∀k,z.bI x.hb k->k<w.heap.size) (r:Hp.co w' x.hb I) (V:Hp.lw I N) {S':Int->Prop} (U: ∀u:Int,1<=u->u<=N->(0<HeapP.g I.at_ u↔S' u))
 (m:aE (z.bI x.hb) w w') (hf: ∀k,I.bI x.hb k->z.bI x.hb k\/w.heap.size<=k):(SR w0 w' B (jf L w.heap.size 3) N {x with S:=S'})/\Kp w0 w w' L (jf L w.heap.size 3):=by
 have b:=h.bS 3 (m.mono fun k _ e=>J k e);refine ⟨⟨b.g,fun _=>b.me (by simp),b.ml,fun _=>b.pm (by simp),fun _=> ⟨I,r,V,U,fun k Q=> ?_⟩,fun _=>b.ph (by simp),fun _=>b.hv (by simp),fun _=>b.hr (by simp),fun _=>b.un (by simp),fun _=>b.ur (by simp),fun _=>b.pr (by simp),fun _=>b.rr (by simp),fun _=>b.mo (by simp)⟩,⟨m.mono fun k _ e=> ⟨by rw [(J k e).1];decide,(J k e).2⟩,fun _ Q=>cU Q⟩⟩;rcases hf k Q with e|e
 . rw [cU (O k e)];exact J k e
 . exact ⟨hJ e,Nat.le_trans h.g.size e⟩
theorem SR.phase (h:SR w0 w B L N x) {l':List Int} (hl:l'.length=x.ph.length) (o:eC aC w' x.CI.p x.CI.c l') (m:aE (fun k=>aI x.CI.p=some k) w w'):(SR w0 w' B (jf L w.heap.size 4) N {x with ph:=l'})/\Kp w0 w w' L (jf L w.heap.size 4):=by
 obtain ⟨O,p2,I⟩:=h.ph id;have b:=h.bS 4 (m.mono fun k _ e=>I k e);exact ⟨⟨b.g,fun _=>b.me (by simp),b.ml,fun _=>b.pm (by simp),fun _=>b.hp (by simp),fun _=> ⟨o,by rw [p2];exact hl.symm,tj I O.lt h.g fun k e=> .inl e⟩,fun _=>b.hv (by simp),fun _=>b.hr (by simp),fun _=>b.un (by simp),fun _=>b.ur (by simp),fun _=>b.pr (by simp),fun _=>b.rr (by simp),fun _=>b.mo (by simp)⟩,⟨m.mono fun k _ e=> ⟨by rw [(I k e).1];decide,(I k e).2⟩,fun _ J=>cU J⟩⟩
theorem RO.re {s:Sl} {c:List Int} {i:Nat} (h:RO w L s c) {E:Nat->Prop} (m:aE (fun k=>E (L k)/\w0.heap.size<=k) w w') (I: ¬E 9):RO w' (jf L w.heap.size i) s c:=h.keep ⟨m,fun _ J=>cU J⟩ I
theorem SR.EY (h:SR w0 w B L N x) {q:Sl} {hv':List Hc} (m:aE (fun k=>aI x.hs.p=some k) w w1) (r:Row 5 D9 ck w1 q.p q.c hv') (hq:q.n=hv'.length) (hf: ∀k,aI q.p=some k->aI x.hs.p=some k\/w.heap.size<=k)
 (O: ∀u∈hv',RO w L u.sl u.c) (st:bF w2 B {x with hs:=q,hv:=hv'}.cells) (m2:aE (·=B) w1 w2) (Q:aI q.p≠some B):(SR w0 w2 B (jf L w.heap.size 5) N {x with hs:=q,hv:=hv'})/\Kp w0 w w2 L (jf L w.heap.size 5):=by
 obtain ⟨U,p2,I⟩:=h.hv id;have b:=h.aF 5 (m.mono fun k _ e=>I k e) m2;have V:aE (fun k=> (L k=5\/L k=1)/\w0.heap.size<=k) w w2:=(m.mono fun k _ e=> ⟨.inl (I k e).1,(I k e).2⟩).then m2 fun k J (e:k=B)=>by subst e;exact ⟨.inr h.ml.1,h.ml.2.1⟩
 exact ⟨⟨b.g,fun _=>st,b.ml,fun _=>b.pm (by simp),fun _=>b.hp (by simp),fun _=>b.ph (by simp),fun _=> ⟨r.keep m2 fun k J (e:k=B)=>Q (by rw [<- e];exact J),hq,tj I U.lt h.g hf⟩,fun _ u hu=> (O u hu).re (E:=fun j=>j=5\/j=1) V (by simp),fun _=>b.un (by simp),fun _=>b.ur (by simp),fun _=>b.pr (by simp),fun _=>b.rr (by simp),fun _=>b.mo (by simp)⟩,⟨(m.mono fun k _ e=> ⟨by rw [(I k e).1];decide,(I k e).2⟩).then m2 fun k J (e:k=B)=>by subst e;exact ⟨by rw [h.ml.1];decide,h.ml.2.1⟩,fun _ J=>cU J⟩⟩
theorem SR.FM (h:SR w0 w B L N x) {q:Sl} {un':List Us} (m:aE (fun k=>aI x.us.p=some k) w w1) (r:Ow Sl.v aJ w1 q.p q.c (un'.map (·.1))) (hq:q.n=un'.length) (hf: ∀k,aI q.p=some k->aI x.us.p=some k\/w.heap.size<=k)
 (O: ∀u∈un',RO w L u.1 u.2) (st:bF w2 B {x with us:=q,un:=un'}.cells) (m2:aE (·=B) w1 w2) (Q:aI q.p≠some B):(SR w0 w2 B (jf L w.heap.size 6) N {x with us:=q,un:=un'})/\Kp w0 w w2 L (jf L w.heap.size 6):=by
 obtain ⟨U,p2,I⟩:=h.un id;have b:=h.aF 6 (m.mono fun k _ e=>I k e) m2;have V:aE (fun k=> (L k=6\/L k=1)/\w0.heap.size<=k) w w2:=(m.mono fun k _ e=> ⟨.inl (I k e).1,(I k e).2⟩).then m2 fun k J (e:k=B)=>by subst e;exact ⟨.inr h.ml.1,h.ml.2.1⟩
 exact ⟨⟨b.g,fun _=>st,b.ml,fun _=>b.pm (by simp),fun _=>b.hp (by simp),fun _=>b.ph (by simp),fun _=>b.hv (by simp),fun _=>b.hr (by simp),fun _=> ⟨r.keep m2 fun k J (e:k=B)=>Q (by rw [<- e];exact J),hq,tj I U.lt h.g hf⟩,fun _ u hu=> (O u hu).re (E:=fun j=>j=6\/j=1) V (by simp),fun _=>b.pr (by simp),fun _=>b.rr (by simp),fun _=>b.mo (by simp)⟩,⟨(m.mono fun k _ e=> ⟨by rw [(I k e).1];decide,(I k e).2⟩).then m2 fun k J (e:k=B)=>by subst e;exact ⟨by rw [h.ml.1];decide,h.ml.2.1⟩,fun _ J=>cU J⟩⟩
theorem SR.EH (h:SR w0 w B L N x) {q:Sl} {pr':List Ps} (m:aE (fun k=>aI x.ps.p=some k) w w1) (r:Row 2 Jt lx w1 q.p q.c pr') (hq:q.n=pr'.length) (hf: ∀k,aI q.p=some k->aI x.ps.p=some k\/w.heap.size<=k)
 (O: ∀u∈pr',RO w L u.2.1 u.2.2) (st:bF w2 B {x with ps:=q,pr:=pr'}.cells) (m2:aE (·=B) w1 w2) (Q:aI q.p≠some B):(SR w0 w2 B (jf L w.heap.size 7) N {x with ps:=q,pr:=pr'})/\Kp w0 w w2 L (jf L w.heap.size 7):=by
 obtain ⟨U,p2,I⟩:=h.pr id;have b:=h.aF 7 (m.mono fun k _ e=>I k e) m2;have V:aE (fun k=> (L k=7\/L k=1)/\w0.heap.size<=k) w w2:=(m.mono fun k _ e=> ⟨.inl (I k e).1,(I k e).2⟩).then m2 fun k J (e:k=B)=>by subst e;exact ⟨.inr h.ml.1,h.ml.2.1⟩
 exact ⟨⟨b.g,fun _=>st,b.ml,fun _=>b.pm (by simp),fun _=>b.hp (by simp),fun _=>b.ph (by simp),fun _=>b.hv (by simp),fun _=>b.hr (by simp),fun _=>b.un (by simp),fun _=>b.ur (by simp),fun _=> ⟨r.keep m2 fun k J (e:k=B)=>Q (by rw [<- e];exact J),hq,tj I U.lt h.g hf⟩,fun _ u hu=> (O u hu).re (E:=fun j=>j=7\/j=1) V (by simp),fun _=>b.mo (by simp)⟩,⟨(m.mono fun k _ e=> ⟨by rw [(I k e).1];decide,(I k e).2⟩).then m2 fun k J (e:k=B)=>by subst e;exact ⟨by rw [h.ml.1];decide,h.ml.2.1⟩,fun _ J=>cU J⟩⟩
theorem SR.K4 (h:SR w0 w B L N x) {q:Sl} {mo':List Int} (m:aE (fun k=>aI x.ms.p=some k) w w1) (r:eC aC w1 q.p q.c mo') (hq:q.n=mo'.length) (hf: ∀k,aI q.p=some k->aI x.ms.p=some k\/w.heap.size<=k)
 (st:bF w2 B {x with ms:=q,mo:=mo'}.cells) (m2:aE (·=B) w1 w2) (O:aI q.p≠some B):(SR w0 w2 B (jf L w.heap.size 8) N {x with ms:=q,mo:=mo'})/\Kp w0 w w2 L (jf L w.heap.size 8):=by
 obtain ⟨Q,p2,J⟩:=h.mo id;have b:=h.aF 8 (m.mono fun k _ e=>J k e) m2;exact ⟨⟨b.g,fun _=>st,b.ml,fun _=>b.pm (by simp),fun _=>b.hp (by simp),fun _=>b.ph (by simp),fun _=>b.hv (by simp),fun _=>b.hr (by simp),fun _=>b.un (by simp),fun _=>b.ur (by simp),fun _=>b.pr (by simp),fun _=>b.rr (by simp),fun _=> ⟨r.keep m2 fun k I (e:k=B)=>O (by rw [<- e];exact I),hq,tj J Q.lt h.g hf⟩⟩,⟨(m.mono fun k _ e=> ⟨by rw [(J k e).1];decide,(J k e).2⟩).then m2 fun k I (e:k=B)=>by subst e;exact ⟨by rw [h.ml.1];decide,h.ml.2.1⟩,fun _ I=>cU I⟩⟩
theorem SR.L8 (h:SR w0 w B L N x) {p q:Option Addr} {i:Nat} (hi:i≠1) (hp: ∀k,aI p=some k->L k=i/\w0.heap.size<=k) (hq:q=p\/q=some ⟨w1.heap.size,0,none⟩) (g:w.heap.size<=w1.heap.size):aI q≠some B:=by
 intro e;rcases hq with rfl|rfl
 . have:=(hp B e).1;rw [h.ml.1] at this;exact hi this.symm
 . have:w1.heap.size=B:=by simpa [aI] using e
   have:=h.ml.2.2;omega
theorem yS {p q:Option Addr} (hq:q=p\/q=some ⟨w1.heap.size,0,none⟩) (g:w.heap.size<=w1.heap.size): ∀k,aI q=some k->aI p=some k\/w.heap.size<=k:=by
 intro k I;rcases hq with rfl|rfl
 . exact .inl I
 . have:w1.heap.size=k:=by simpa [aI] using I
   exact .inr (by omega)
end
end
section
open Go.LeP
variable {w0 w w' w1 w2:World} {B N:Nat} {L L':Nat->Nat} {x:Xs} {l:List Int}
theorem zY:nP prog uO lx 2 32=true:=by kernel_rfl
theorem Jo {u:Ps} {b:Nat} (h:bF w b #[.bool u.1,u.2.1.v]):Vr 2 Jt w (some ⟨b,0,none⟩) [u]:=by
 intro j I;have:j=0:=by simpa using I
 subst this;exact ⟨_,rfl,ad h rfl,ad h rfl,trivial⟩
theorem FN (h:SR w0 w B L N x) (hp:x.pr.length<=1000000000) (del:Bool) {sl:Sl} (ro:RO w L sl l) {b:Nat} (hb:bF w b #[.bool del,sl.v]) {K:World->Prop}
 (hk: ∀w' L' q,SR w0 w' B L' N {x with ps:=q,pr:=x.pr++ [(del,sl,l)]}->Kp w0 w w' L L'->K w'):
 ∃X U V Q,(Builtin.append_ #[25,25] 25 #[.slice x.ps.p x.ps.n x.ps.c,.slice (some (Addr.mk b 0 none)) 1 1]).run prog w= .ok (.slice U V Q) X/\
  ∃O,(some (Addr.mk B 0 none))=some O/\∃I,af ((O.add 14).add 2) 0 [.slice U V Q] X I/\K I:=by
 obtain ⟨r1,r2,r3⟩:=h.pr id;refine Row.oV F9 zY r1 (Jo (u:=(del,sl,l)) hb) r2 rfl (by simp;omega) fun X p' c' o8 m8 J ag=> ⟨_,rfl,?_⟩
 have aa:bF X B x.cells:=h.at.keep m8 fun e=>by have:=(r3 B e).1;rw [h.ml.1] at this;exact absurd this (by decide)
 refine gC aa rfl rfl fun I Y Z=> ?_;have:=h.EH (q:=⟨p',(x.pr++ [(del,sl,l)]).length,c'⟩) (pr':=x.pr++ [(del,sl,l)]) m8 o8 rfl (yS J (Nat.le_refl _)) (fun u hu=>by
  rcases List.mem_append.1 hu with hu|hu
  . exact h.rr id u hu
  . rw [List.mem_singleton] at hu;subst hu;exact ro) Y Z (h.L8 (by decide) r3 J (Nat.le_refl _))
 exact hk _ _ _ this.1 this.2
theorem CR (h:SR w0 w B L N x) (hp:x.pr.length<=1000000000) {p:Option Addr} {n c:Nat} (hv:Vw (Value.int .i64) w p l) (hn:n=l.length) (hx:n<=1000000):
 Calls prog dW.id #[bR B,.slice p n c] w fun e w'=>e= .returned (.tuple #[])/\∃L' q sl,SR w0 w' B L' N {x with ps:=q,pr:=x.pr++ [(false,sl,l)]}/\Kp w0 w w' L L':=by
 refine dW.ah ?_;have D:=h.drew;refine ⟨fun u=>aq w.drew u,aE.refl _,_,rfl,_,_,_,fun u g=>bp (D.at.grow g) rfl,(je hv.drew hn hx).mono ?_⟩;rintro e w4 ⟨q,d,rfl,Q,U,f4⟩;refine ⟨_,_,_,rfl,U,fun n6 Z I=> ?_⟩;have J:=U.trans I.mod;refine ⟨J,?_⟩;have X:=D.new J 9;have ro:RO Z (jf L w.drew.heap.size 9) ⟨q,l.length,d⟩ l:=⟨rfl,(Q.grow I.mod).vw,fun k O=> ⟨hJ (f4 k O),Nat.lt_of_lt_of_le (Q.lt k O) I.mod.size⟩⟩
 refine FN X hp false ro I.has fun w' L' V S' Y=> ⟨rfl,L',V,_,S',?_⟩
 exact ((jA.grow (aE.refl w).drew).trans (jA.new J 9)).trans Y
end
section
open Go.LeP
variable {w0 w w' w1 w2:World} {B N:Nat} {L L':Nat->Nat} {x:Xs} {l:List Int}
theorem sZ {y:Int} (h1: -1048576<=y) (I:y<=1048576):imax y (i64.wrap (0 - y))=aX y:=by
 rw [aB (by omega) (by omega)];unfold imax aX;split<;>split<;>omega
theorem E8 {q:Option Addr} {i:Nat}:aI (q.map (·.add i))=aI q:=by
 cases q with
 |none=>rfl
 |some a=>simp [aI,cy]
structure R9 (w:World) (L:Nat->Nat) (p:Option Addr):Prop where
 l: ∀k,aI p=some k->L k=9/\k<w.heap.size
theorem jA.r9 (k:Kp w0 w w' L L') {p:Option Addr} (r:R9 w L p):R9 w' L' p:=⟨fun b hb=> ⟨by rw [k.yx b (r.l b hb).2];exact (r.l b hb).1,Nat.lt_of_lt_of_le (r.l b hb).2 k.mod.size⟩⟩
theorem jA.no (k:Kp w0 w w' L L') {p:Option Addr} (r:R9 w L p): ∀b,aI p=some b->¬(L b≠9/\w0.heap.size<=b):=fun b hb e=>e.1 (r.l b hb).1
theorem jA.vw (k:Kp w0 w w' L L') {p:Option Addr} {α:Type} {f:α->Value} {m:List α} (v:Vw f w p m) (r:R9 w L p):Vw f w' p m:=v.keep k.mod (k.no r)
theorem jA.has (k:Kp w0 w w' L L') {b:Nat} {cs:Array Value} (h:bF w b cs) (r:L b=9):bF w' b cs:=h.keep k.mod fun e=>e.1 r
theorem jA.ro (k:Kp w0 w w' L L') {s:Sl} {c:List Int} (h:RO w L s c):RO w' L' s c:=RO.keep h k (by simp)
theorem Kp.refl:Kp w0 w w L L:=jA.grow (aE.refl w)
theorem SR.push (h:SR w0 w B L N x) {v:Int} (h1:1<=v) (U:v<=N):Calls prog eo.id #[Hp.ptr x.hb,.int .i64 v] w fun e w'=> ∃r:Int,e= .returned (.int .i64 r)/\
 ∃L',SR w0 w' B L' N {x with S:=fun u=>x.S u\/u=v}/\Kp w0 w w' L L':=by
 obtain ⟨z,J,z2,z3,z4⟩:=h.hp id;refine (Hp.HK J z2 v ⟨h1,U⟩).mono ?_;rintro e w' ⟨rfl,y,Y,Q,Z,X,V⟩;have:=h.heap z4 J.lt Y Q (S':=fun u=>x.S u\/u=v) (fun u O I=>by rw [Z.has u O I,z3 u O I]) X V;exact ⟨_,rfl,_,this.1,this.2⟩
theorem SR.Js (h:SR w0 w B L N x) (g:aM x.s) (hN:x.s.vars<=1000000):Calls prog dI.id #[bR x.pb] w fun e w'=> ∃ (q:Option Addr) (d:Nat),e= .returned (.slice q (x.s.R .tr).length d)/\eC aC w' q d (x.s.R .tr)/\aq w w'/\
 ∃L',SR w0 w' B L' N x/\Kp w0 w w' L L'/\R9 w' L' q:=by
 obtain ⟨H,pm,_⟩:=h.pm id;have:=g.xh;refine (tT pm (by omega)).mono ?_;rintro e w' ⟨q,d,rfl,o,I,f⟩;exact ⟨q,d,rfl,o,I,_,h.new I 9,jA.new I 9,⟨fun k J=> ⟨hJ (f k J),o.lt k J⟩⟩⟩
def bN (s:aG) (bj:Int):aG:=if (max 0 bj).toNat< (s.R .be).length then s.bC (max 0 bj).toNat else s
theorem rC {s:aG} (g:aM s) (bj:Int):aM (bN s bj):=by
 unfold bN;split
 . exact ke g (by assumption)
 . exact g
theorem vY {s:aG} (bj:Int): ∃k,(bN s bj).R .tr=(s.R .tr).take k/\(bN s bj).vars=s.vars:=by
 unfold bN;split
 . exact ⟨_,xm,rfl⟩
 . exact ⟨_,List.take_length.symm,rfl⟩
theorem SR.JT (h:SR w0 w B L N x) (g:aM x.s) (bj:Int):Calls prog bu.id #[bR x.pb,.int .i64 bj] w fun e w'=>e= .returned (.tuple #[])/\∃L',SR w0 w' B L' N {x with s:=bN x.s bj}/\Kp w0 w w' L L':=by
 obtain ⟨H,pm,hl⟩:=h.pm id;refine (Io pm g bj).mono ?_;rintro e w' ⟨rfl,I,p⟩;have:=h.sg hl pm.lt p;exact ⟨rfl,_,this.1,this.2⟩
theorem uy (h:SR w0 w B L N x) (g:aM x.s) (hv:x.s.vars=N) (hN:N<=1000) (b3:x.ph.length=N+1) (bj:Int):Calls prog dS.id #[bR B,.int .i64 bj] w fun e w'=>e= .returned (.tuple #[])/\
 ∃L' S' J,SR w0 w' B L' N {x with s:=bN x.s bj,S:=S',ph:=J}/\Kp w0 w w' L L'/\J.length=N+1/\(∀v,x.S v->S' v)/\∀y∈x.s.R .tr,y ∉ (bN x.s bj).R .tr->S' (aX y):=by
 refine dS.ah ⟨_,rfl,_,ad h.at rfl,(h.Js g (by omega)).mono ?_⟩;rintro e w3 ⟨q,d,rfl,o3,g3,L3,S3,k3,r3⟩;refine ⟨_,_,_,rfl,_,rfl,_,ad S3.at rfl,(S3.JT g bj).mono ?_⟩;rintro e w7 ⟨rfl,L7,S7,k7⟩;obtain ⟨kk,ek,ev⟩:=vY (s:=x.s) bj;refine ⟨rfl,_,rfl,_,ad S7.at rfl,(S7.Js (rC g bj) (by show (bN x.s bj).vars<=_;omega)).mono ?_⟩;rintro e aa ⟨q2,d2,rfl,dd,dk,Z,U,ay,ce⟩;refine ⟨_,_,_,rfl,?_⟩;have U:SR w0 aa B Z N {x with s:=bN x.s bj}:=U;have an:((bN x.s bj).R .tr).length<=(x.s.R .tr).length:=by rw [ek,List.length_take];omega
 have X:=k7.trans ay;have b9:=o3.cap;have hd:(x.s.R .tr).length<=d:=by
  rcases o3.un with ⟨_,_,e⟩| ⟨_,_,_,_,h1,_⟩
  . rw [e];exact Nat.zero_le _
  . exact h1
 obtain ⟨m,em⟩: ∃m,((bN x.s bj).R .tr).length=m:=⟨_,rfl⟩
 rw [em] at an;show pP q (x.s.R .tr).length d 1 (some ((((bN x.s bj).R .tr).length:Nat):Int)) none none _;rw [em];obtain ⟨D,hD⟩: ∃D,D=(x.s.R .tr).drop m:=⟨_,rfl⟩
 have V3:Vw (Value.int .i64) w3 (q.map (·.add (m*1))) D:=by
  have:=o3.vw.part (i:=m) (m:=(x.s.R .tr).length - m) (by omega);rw [List.take_of_length_le (by rw [List.length_drop];omega)] at this;rw [hD];exact this
 have cm:=g.xh;have lD:D.length=(x.s.R .tr).length - m:=by rw [hD,List.length_drop]
 have bY:Vw (Value.int .i64) w3 (if d=m then q else q.map (·.add (m*1))) D:=by
  by_cases e:d=m
  . have:D= []:=List.eq_nil_of_length_eq_zero (by omega);rw [this];exact Vw.nil
  . rw [if_neg e];exact V3
 have R3:R9 w3 L3 (if d=m then q else q.map (·.add (m*1))):=by
  by_cases e:d=m
  . rw [if_pos e];exact r3
  . rw [if_neg e];exact ⟨fun b hb=>r3.l b (by rw [E8] at hb;exact hb)⟩
 have bx:=X.vw bY R3;have bb:=X.r9 R3;refine gD m (x.s.R .tr).length d rfl rfl rfl (Nat.le_refl _) hd an ?_;have a7: ∀y∈D,dR N y:=fun y I=>by have:=g.tv y (by rw [hD] at I;exact List.mem_of_mem_drop I);rwa [hv] at this
 refine ⟨fun V u z=> ∃ (t:Nat) (L':Nat->Nat) (S':Int->Prop) (J:List Int),V=t/\t<=D.length/\z=D.length - t/\SR w0 u B L' N {x with s:=bN x.s bj,S:=S',ph:=J}/\Kp w0 aa u Z L'/\J.length=N+1/\(∀v,x.S v->S' v)/\∀j,j<t->S' (aX (D.getD j 0)),
  ⟨_,0,Z,x.S,x.ph,rfl,Nat.zero_le _,rfl,U,Kp.refl,b3,fun _ h=>h,fun j hj=>by omega⟩,?_⟩
 rintro V u z _ ⟨t,L1,S1,O,rfl,ht,rfl,SS,Y,av,ar,ap⟩;refine ao (fun r=> ?_) (fun r=> ?_)
 . have r:t<D.length:=by simp at r;omega
   have V1:=Y.vw bx bb;refine V1.ix 0 (by omega) (by omega) (by omega) fun a ha=> ⟨_,ha,?_⟩
   rw [Int.toNat_natCast];obtain ⟨y,I⟩: ∃y,D.getD t 0=y:=⟨_,rfl⟩
   have aT:y∈D:=by rw [<- I];simp [List.getD,r]
   have ag:=a7 y aT;have hb:=ag.bd (by omega);have b':=ag.aX;obtain ⟨p1,p2,p3⟩:=SS.ph id;have p2:x.CI.n=O.length:=p2;rw [I];refine ⟨_,rfl,_,_,_,ad SS.at rfl,?_⟩;rw [sZ hb.1 hb.2];refine p1.st (i:=aX y) (n:=x.CI.n) y rfl rfl (by omega) p2 (by omega) fun c1 az a_=> ?_;have Q:=SS.phase (by show (O.set _ _).length=O.length;simp) az a_;refine ⟨_,rfl,_,ad Q.1.at rfl,(Q.1.push (v:=aX y) (by omega) (by omega)).mono ?_⟩;rintro e dc ⟨c2,rfl,a6,bk,ax⟩;refine ⟨_,rfl,_,?_,t+1,a6,_,_,wN (by omega) (by omega),by omega,rfl,bk,(Y.trans Q.2).trans ax,by simp [av],fun v hv=> .inl (ar v hv),fun j hj=> ?_⟩
   . omega
   . by_cases e:j=t
     . subst e;rw [I];exact .inr rfl
     . exact .inl (ap j (by omega))
 . have r:t=D.length:=by simp at r;omega
   refine ⟨rfl,L1,S1,O,SS,(k3.trans X).trans Y,av,ar,fun y I hn=> ?_⟩;have a8:y∈D:=by
    have ac:m=((x.s.R .tr).take kk).length:=by rw [<- ek,em]
    have hk:(x.s.R .tr).take kk=(x.s.R .tr).take m:=by
     rw [List.length_take] at ac;rw [ac,List.take_eq_take_iff];omega
    rw [ek,hk] at hn;rw [hD];have:=List.take_append_drop m (x.s.R .tr);rw [<- this] at I;rcases List.mem_append.1 I with I|I
    . exact absurd I hn
    . exact I
   obtain ⟨j,hj,ej⟩:=List.mem_iff_getElem.1 a8;have:=ap j (by omega);rw [show D.getD j 0=y by simp [List.getD,hj,ej]] at this;exact this
end
section
open Go.LeP
variable {w0 w w' w1 w2:World} {B N:Nat} {L L':Nat->Nat} {x:Xs} {l:List Int}
structure HO (w0 w:World) (L:Nat->Nat) (N:Nat) (hb:Nat) (S:Int->Prop) (z:Hp.HS):Prop where
 r:Hp.co w hb z
 g:Hp.lw z N
 m: ∀u:Int,1<=u->u<=N->(0<HeapP.g z.at_ u↔S u)
 f: ∀k,z.bI hb k->L k=3/\w0.heap.size<=k
theorem SR.MN (h:SR w0 w B L N x) {z:Hp.HS} (o:HO w0 w L N x.hb x.S z):Calls prog dg.id #[Hp.ptr x.hb] w fun e w'=>
 (z.l.length=0/\e= .returned (.tuple #[.int .i64 0,.bool false])/\aq w w')\/
 ∃v:Int,e= .returned (.tuple #[.int .i64 v,.bool true])/\1<=v/\v<=N/\x.S v/\∃L' I,SR w0 w' B L' N {x with S:=fun u=>x.S u/\u≠v}/\Kp w0 w w' L L'/\HO w0 w' L' N x.hb (fun u=>x.S u/\u≠v) I/\I.l.length+1=z.l.length:=by
 by_cases O:z.l.length=0
 . refine (Hp.JX o.r O).mono ?_;rintro e w' ⟨rfl,_,g⟩;exact .inl ⟨O,rfl,g⟩
 . refine (Hp.Kg o.r o.g O).mono ?_;rintro e w' ⟨rfl,I,V,Q,y3,y4,Z,Y⟩;have hf:=o.g.ok.pos.sB 0 (by omega) (by omega);have hm: ∀u:Int,1<=u->u<=N->(0<HeapP.g I.at_ u↔x.S u/\u≠HeapP.g z.l 0):=fun u U X=>by rw [y3.has u U X,o.m u U X]
   have:=h.heap o.f o.r.lt V Q hm Z (fun k J=> .inl (by rw [<- Y];exact J));refine .inr ⟨_,rfl,hf.1,hf.2.1,(o.m _ hf.1 hf.2.1).1 (by rw [hf.2.2];omega),_,I,this.1,this.2,⟨V,Q,hm,fun k J=> ?_⟩,y4⟩;rw [Y] at J;rw [cU (o.r.lt k J)];exact o.f k J
theorem SR.value (h:SR w0 w B L N x) (g:aM x.s) (v:Int):Calls prog dK.id #[bR x.pb,.int .i64 v] w fun e w'=>e= .returned (.int .i64 (x.s.value v))/\aq w w':=by
 obtain ⟨H,pm,_⟩:=h.pm id;exact yO pm g.wf v
theorem y7 {s:aG} (g:aM s) {v:Int} (hv:dR s.vars v):s.value v=s.val v:=by
 unfold aG.value;rw [if_pos ((ia g.d7).2 hv)]
theorem SR.Co (h:SR w0 w B L N x) (g:aM x.s) {v:Int} (hv:dR x.s.vars v) (I:x.s.val v=0):Calls prog c6.id #[bR x.pb,.int .i64 v] w fun e w'=> ∃r:Int,e= .returned (.int .i64 r)/\∃L',SR w0 w' B L' N {x with s:=x.s.decide v}/\Kp w0 w w' L L':=by
 obtain ⟨H,pm,hl⟩:=h.pm id;refine (vR pm g v).mono ?_;rintro e w' ⟨r,rfl,J,⟨_,_,_,p⟩| ⟨_,hn,_⟩⟩
 . have:=h.sg hl pm.lt p;exact ⟨_,rfl,_,this.1,this.2⟩
 . exact absurd ⟨hv,I⟩ hn
theorem Cg (h:SR w0 w B L N x) {K:World->Prop} (V: ∀w',SR w0 w' B L N {x with m:= {x.m with de:=i64.wrap (x.m.de+1)}}->Kp w0 w w' L L->K w'):
 ∃a22,(some (Addr.mk B 0 none))=some a22/\∃O,w.cell? ((a22.add 14).add 4)=some (.int .i64 O)/\
  ∃J,(some (Addr.mk B 0 none))=some J/\∃I,af ((J.add 14).add 4) 0 [.int .i64 (i64.wrap (O+ (1:Int)))] w I/\K I:=by
 refine ⟨_,rfl,_,bp h.at rfl,_,rfl,?_⟩;refine gC h.at rfl rfl fun I U Q=> ?_;have:=h.own (m':= {x.m with de:=i64.wrap (x.m.de+1)}) U Q;exact V _ this.1 this.2
theorem AB {s:aG} {v u:Int} (g:aM s) (hv:dR s.vars v) (J:s.val v=0) (hu:dR s.vars u):(s.decide v).val u=0->s.val u=0/\aX u≠aX v:=by
 intro h;have I:=od g hv J;obtain ⟨a,b⟩:=(gx I (x:=u) hu).1 h;rw [ry] at a b;refine ⟨(gx g hu).2 ⟨fun m=>a (List.mem_append_left _ m),fun m=>b (List.mem_append_left _ m)⟩,fun e=> ?_⟩;rcases xv e with e|e
 . subst e;exact a (by simp)
 . subst e;rw [Int.neg_neg] at b;exact b (by simp)
theorem Bh (h:SR w0 w B L N x) (g:aM x.s) (hv:x.s.vars=N) (hN:N<=1000) (b9:x.ph.length=N+1) (hi:xW N x.s x.S):Calls prog cA.id #[bR B] w fun e w'=> ∃r:Bool,e= .returned (.bool r)/\
 ∃L' S',Kp w0 w w' L L'/\((r=false/\(∀v:Int,1<=v->v<=N->x.s.val v≠0)/\SR w0 w' B L' N {x with S:=S'})\/
  (r=true/\∃v,dR N v/\x.s.val v=0/\xW N (x.s.decide v) S'/\SR w0 w' B L' N {x with s:=x.s.decide v,S:=S',m:= {x.m with de:=i64.wrap (x.m.de+1)}})):=by
 refine cA.ah ?_;obtain ⟨z0,z1,z2,z3,z4⟩:=h.hp id;refine ⟨fun u k=> ∃Y X z,SR w0 u B Y N {x with S:=X}/\Kp w0 w u L Y/\HO w0 u Y N x.hb X z/\z.l.length=k/\xW N x.s X,⟨_,L,x.S,z0,h,Kp.refl,⟨z1,z2,z3,z4⟩,rfl,hi⟩,?_⟩;rintro u k _ ⟨Y,X,z,SS,kk,ho,rfl,hc⟩;refine ⟨_,rfl,_,ad SS.at rfl,(SS.MN ho).mono ?_⟩;rintro e w7 (⟨h0,rfl,g7⟩| ⟨v,rfl,v1,v2,b8,L7,z7,S7,k7,o7,bY⟩)
 . refine ⟨_,_,rfl,cj rfl ⟨false,rfl,Y,X,kk.trans (jA.grow g7),.inl ⟨rfl,fun v v1 v2 ap=> ?_,SS.grow g7⟩⟩⟩;have hm:=(ho.m v v1 v2).2 (hc v v1 v2 ap);have:=(ho.g.ok.pos.bC v v1 v2).2.1;omega
 . have J:dR x.s.vars v:=⟨by omega,by omega,by omega⟩
   refine ⟨_,_,rfl,bm rfl ⟨_,rfl,_,ad S7.at rfl,(S7.value g v).mono ?_⟩⟩;rintro e b6 ⟨rfl,O⟩;have aa:aG.value x.s v=x.s.val v:=y7 g J;refine ⟨_,rfl,?_⟩;show aH (x.s.value v !=0) _ _;rw [aa];have I:=S7.grow O;refine ao (fun r=> ?_) (fun r=> ?_)
   . have r:x.s.val v≠0:=by simpa using r
     refine ⟨_,?_,L7,_,z7,I,(kk.trans k7).trans (jA.grow O),⟨o7.r.grow O,o7.g,o7.m,o7.f⟩,rfl,fun u u1 u2 hu=> ⟨hc u u1 u2 hu,fun e=>r (by rw [<- e];exact hu)⟩⟩;omega
   . have r:x.s.val v=0:=by simpa using r
     obtain ⟨p1,p2,p3⟩:=I.ph id;have p2:x.CI.n=x.ph.length:=p2;have fI: ∀ {w':World} {L':Nat->Nat} {y:Int},aX y=v->dR x.s.vars y->x.s.val y=0->Kp w0 w w' L L'->SR w0 w' B L' N {x with s:=x.s.decide y,S:=fun u=>X u/\u≠v,m:= {x.m with de:=i64.wrap (x.m.de+1)}}->∃r:Bool,Ending.returned (.bool true)= .returned (.bool r)/\
      ∃L' S',Kp w0 w w' L L'/\((r=false/\(∀v:Int,1<=v->v<=N->x.s.val v≠0)/\SR w0 w' B L' N {x with S:=S'})\/
      (r=true/\∃v,dR N v/\x.s.val v=0/\xW N (x.s.decide v) S'/\SR w0 w' B L' N {x with s:=x.s.decide v,S:=S',m:= {x.m with de:=i64.wrap (x.m.de+1)}})):=by
      intro w' L' y ey hy h0 kp sr;refine ⟨true,rfl,L',_,kp,.inr ⟨rfl,y,by rw [<- hv];exact hy,h0,fun u u1 u2 hu=> ?_,sr⟩⟩;have a7:dR x.s.vars u:=⟨by omega,by omega,by omega⟩
      obtain ⟨a,b⟩:=AB g hy h0 a7 hu;refine ⟨hc u u1 u2 a,fun e=>b ?_⟩;rw [e,ey];unfold aX;rw [if_neg (by omega)]
     refine ⟨_,rfl,_,_,_,ad I.at rfl,p1.ix 0 (by omega) p2 (by omega) fun a ha=> ⟨_,ha,?_⟩⟩;have Q:=(kk.trans k7).trans (jA.grow O);refine ao (fun _=> ?_) (fun _=> ?_)
     . refine ⟨_,rfl,_,ad I.at rfl,(I.Co g J r).mono ?_⟩;rintro e ag ⟨an,rfl,az,U,V⟩;refine ⟨_,rfl,Cg U fun w' S' k'=> ?_⟩;exact fI (by unfold aX;rw [if_neg (by omega)]) J r ((Q.trans V).trans k') S'
     . have ew:i64.wrap (0 - v)= -v:=by rw [aB (by omega) (by omega)];omega
       rw [ew];have Z:x.s.val (-v)=0:=by rw [mN J];omega
       refine ⟨_,rfl,_,ad I.at rfl,(I.Co g J.neg Z).mono ?_⟩;rintro e ag ⟨an,rfl,az,U,V⟩;refine ⟨_,rfl,Cg U fun w' S' k'=> ?_⟩;exact fI (by unfold aX;rw [if_pos (by omega)];omega) J.neg Z ((Q.trans V).trans k') S'
theorem qK:lN prog aJ aC 8=true:=by kernel_rfl
def jW (s:aG) (n:Nat):List Int:=(List.range n).map fun i:Nat=>s.val ((i:Int)+1)
theorem CY {s:aG} {n:Nat}:jW s (n+1)=jW s n++ [s.val ((n:Int)+1)]:=by unfold jW;rw [List.range_succ,List.map_append];rfl
theorem Ix (h:SR w0 w B L N x) (g:aM x.s) (hv:x.s.vars=N) (hN:N<=1000) (hn:x.m.n=N) (an:x.mo= []):Calls prog eK.id #[bR B] w fun e w'=>e= .returned (.tuple #[])/\
 ∃L' q,SR w0 w' B L' N {x with m:= {x.m with jO:=1},ps:=Sl.nil,pr:= [],ms:=q,mo:=jW x.s N}/\Kp w0 w w' L L':=by
 refine eK.ah ⟨_,rfl,?_⟩;refine gC h.at rfl rfl fun w2 h2 m2=> ?_;obtain ⟨S2,k2⟩:=h.own (m':= {x.m with jO:=1}) h2 m2;refine ⟨_,rfl,gC S2.at rfl rfl fun w4 h4 m4=> ?_⟩;have P4:=S2.EH (q:=Sl.nil) (pr':= []) (aE.refl w2|>.mono fun _ _ e=>e) (Row.nil _ _ _ _) rfl (fun k hk=>by simp [aI,Sl.nil] at hk) (fun u hu=>by simp at hu) h4 m4 (by simp [aI,Sl.nil]);obtain ⟨S4,k4⟩:=P4;refine ⟨fun V u k=> ∃ (t:Nat) (L':Nat->Nat) (q:Sl),V=(t:Int)+1/\t<=N/\k=N - t/\SR w0 u B L' N {x with m:= {x.m with jO:=1},ps:=Sl.nil,pr:= [],ms:=q,mo:=jW x.s t}/\Kp w0 w u L L',
  ⟨_,0,_,x.ms,rfl,Nat.zero_le _,rfl,by have:jW x.s 0=x.mo:=by rw [an];rfl
                                       rw [this];exact S4,k2.trans k4⟩,?_⟩
 rintro V u k _ ⟨t,L1,q,rfl,ht,rfl,SS,kk⟩;refine ⟨_,rfl,_,bp SS.at rfl,?_⟩;show aH (decide ((t:Int)+1<=x.m.n)) _ _;rw [hn];refine ao (fun r=> ?_) (fun r=> ?_)
 . have r:t<N:=by simp at r;omega
   have D:=SS.drew;refine ⟨fun v=>aq u.drew v,aE.refl _,_,rfl,_,_,_,fun v gv=>bp (D.at.grow gv) rfl,_,rfl,_,fun v gv=>ad (D.at.grow gv) rfl,(D.value g _).mono ?_⟩;rintro e b5 ⟨rfl,O⟩;have ag:dR x.s.vars ((t:Int)+1):=⟨by omega,by omega,by omega⟩
   refine ⟨_,rfl,O,fun b3 az J=> ⟨O.trans J.mod,?_⟩⟩;have I:=D.new (O.trans J.mod) 9;obtain ⟨p1,p2,p3⟩:=I.mo id;have hl:(jW x.s t).length=t:=by simp [jW]
   refine Ow.kZ qK p1 (x.s.val ((t:Int)+1)) J.has (by show Value.int .i64 (x.s.value _)=_;rw [y7 g ag]) p2 fH (by rw [hl];omega) fun X p' c' Q Y U bv=> ⟨_,rfl,?_⟩
   have Z:bF X B _:=I.at.keep Y fun e=>by have:=(p3 B e).1;rw [I.ml.1] at this;exact absurd this (by decide)
   refine gC Z rfl rfl fun bb aa ap=> ?_;have Q:eC aC X p' c' (jW x.s (t+1)):=by rw [CY];exact Q
   have:=I.K4 (q:=⟨p',(jW x.s t).length+1,c'⟩) (mo':=jW x.s (t+1)) Y Q (by simp [jW]) (yS U (Nat.le_refl _)) aa ap (I.L8 (by decide) p3 U (Nat.le_refl _));refine ⟨_,?_,t+1,_,_,?_,by omega,rfl,this.1,((kk.trans (jA.grow (aE.refl u).drew)).trans (jA.new (O.trans J.mod) 9)).trans this.2⟩
   . omega
   . rw [aB (by omega) (by omega)];omega
 . have r:t=N:=by simp at r;omega
   subst r;exact ⟨rfl,L1,q,SS,kk⟩
end
end Go.Proofs.YtenmibfmhccmiaaGreat.W
