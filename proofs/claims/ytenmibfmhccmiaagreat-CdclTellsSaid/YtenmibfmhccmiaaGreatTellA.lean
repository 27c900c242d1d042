/- Layer 14: a search's proof is a plain one, plain. -/
import Derived.Test.YtenmibfmhccmiaaGreatSolveA
import Derived.Test.YtenmibfmhccmiaaGreatLitB
namespace Go.Proofs.YtenmibfmhccmiaaGreat.W
open Go Go.Fw Go.RowKit Go.SoP Go.LiP Go.LeP
open Go.Proofs.Tryz (prog)
open Go.IntKind (i64)
section
variable {N i T:Nat} {cs:List (List Int)} {pr:List (Bool × List Int)} {k:Int} {c:List Int}
theorem zU (c:List Int): ∀l:List Sr,(jh c l).map (·.1)=Al c (l.map (·.1))
 | []=>rfl
 |x::l=>by
  unfold jh;rw [List.map_cons,Al];by_cases e:bh x.1=bh c
  . rw [if_pos e,if_pos e]
  . rw [if_neg e,if_neg e,List.map_cons,zU c l]
theorem Cy: ∀i,(vd cs pr i).map (·.1)=Ci cs pr i
 |0=>by
  show (sk cs cs.length).map (·.1)=cs;unfold sk;rw [List.map_map];refine List.ext_getElem (by simp) fun i h1 J=> ?_;simp [List.getD,J]
 |i+1=>by
  have I:=Cy i;rw [ug];unfold tI Ci lZ;by_cases h:(pr.getD i (false,[])).1=true
  . rw [if_pos h,if_pos h,zU,I]
  . rw [if_neg h,if_neg h,List.map_append,I];rfl
theorem wR {z:Bool × List Int}:rT z↔z=(false,[]):=by
 obtain ⟨a,b⟩:=z;unfold rT;simp
theorem PE.plain (h:PE cs N pr):xu cs pr:=by
 obtain ⟨t,ht,he,hn⟩:=h.fI;refine ⟨t,⟨by omega,wR.2 he,fun j I e=>hn j I (wR.1 e)⟩,fun i hi=> ?_⟩;rw [Cy];exact h.up i (by omega)
theorem Ar.len (h:Ar N c):c.length<=N:=by
 have O:(c.map aX).Nodup:=by
  unfold List.Nodup;rw [List.pairwise_map];refine List.Pairwise.imp_of_mem (fun {a b} ha hb J e=> ?_) h.nd;have h1:=h.nt a ha;unfold aX at e;have:b=a\/b= -a:=by split at e<;>split at e<;>omega
  rcases this with I|I
  . exact J I.symm
  . rw [I] at hb;exact h1 hb
 have hs:=List.Nodup.length_le_of_subset O (l₂:=(List.range N).map fun j:Nat=> (j:Int)+1) fun y Q=>by
  obtain ⟨x,U,rfl⟩:=List.mem_map.1 Q;have:=(h.qD x U).aX;exact List.mem_map.2 ⟨(aX x - 1).toNat,List.mem_range.2 (by omega),by show (((aX x - 1).toNat:Nat):Int)+1=_;omega⟩
 simpa using hs
theorem Ar.cl (h:Ar N c) (hN:N<=4096):iu c=true:=by
 unfold iu;simp only [Bool.and_eq_true,decide_eq_true_eq,List.all_eq_true];exact ⟨fun l hl=>oD (n:=N) (by omega) (h.qD l hl),Nat.le_trans h.len hN⟩
theorem PE.KZ (h:PE cs N pr) (hN:N<=4096):mR pr=true:=by
 unfold mR;rw [List.all_eq_true];exact fun z I=> (h.qD z I).cl hN
end
section
variable {w w' w1 w2 u u':World} {N n14:Nat} {cs:List (List Int)} {mo:List Int} {ms:List (List Int)} {hs':List Sl} {gp:Option Addr} {gc:Nat}
structure nv (w u:World) (n14 N:Nat) (cs:List (List Int)) (hs':List Sl) (ms:List (List Int)) (gp:Option Addr) (gc:Nat):Prop where
 g:aq w u
 has:bF u n14 #[.int .i64 N,.slice gp hs'.length gc]
 own:Ow Sl.v aJ u gp gc hs'
 n:hs'.length=(cs++ms.map jP).length
 r: ∀j,j< (cs++ms.map jP).length->(hs'.getD j Sl.nil).n=((cs++ms.map jP).getD j []).length/\(hs'.getD j Sl.nil).n<=maxLen/\Vw (Value.int .i64) u (hs'.getD j Sl.nil).p ((cs++ms.map jP).getD j [])
 rf: ∀j,j< (cs++ms.map jP).length->(cs++ms.map jP).getD j []≠[]->∀k,aI (hs'.getD j Sl.nil).p=some k->k≠n14/\aI gp≠some k/\k<u.heap.size
 nd:ms.Nodup
 pm: ∀m∈ms,sA N m/\eD m cs=true
 z:w.heap.size<=n14
 fr: ∀k,aI gp=some k->w.heap.size<=k/\k≠n14
theorem nv.grow (I:nv w u n14 N cs hs' ms gp gc) (g:aq u u'):nv w u' n14 N cs hs' ms gp gc:=
 ⟨I.g.trans g,I.has.grow g,I.own.grow g,I.n,fun j J=> ⟨(I.r j J).1,(I.r j J).2.1,(I.r j J).2.2.grow g⟩,fun j J O k Q=> ⟨(I.rf j J O k Q).1,(I.rf j J O k Q).2.1,Nat.lt_of_lt_of_le (I.rf j J O k Q).2.2 g.size⟩,I.nd,I.pm,I.z,I.fr⟩
theorem nv.v2 (I:nv w u n14 N cs hs' ms gp gc):V2 (Value.int .i64) u gp hs' (cs++ms.map jP):=⟨I.own.vw,I.n,I.r⟩
theorem nv.push (I:nv w u n14 N cs hs' ms gp gc) {op:Option Addr} {oc:Nat} (O:eC aC u op oc (jP mo)) (hf: ∀b,aI op=some b->b≠n14/\aI gp≠some b) (hm:sA N mo) (hN:N<=4096) (hh:eD mo cs=true) (aT:mo ∉ ms) (hb:hs'.length<=1000000)
 {n124:Nat} {ac:World} (h:bc (.cells #[.slice op (jP mo).length oc] 28) u n124 ac) {K:World->Prop}
 (Q: ∀u' bx ar aw,nv w u' n14 N cs bx (ms++ [mo]) ar aw->K u'):
 ∃X aa ap an,(Builtin.append_ #[22,22] 22 #[.slice gp hs'.length gc,.slice (some (Addr.mk n124 0 none)) 1 1]).run prog ac= .ok (.slice aa ap an) X/\
  ∃U,af ((Addr.mk n14 0 none).add 1) 0 [.slice aa ap an] X U/\K U:=by
 have J:=I.grow h.mod;have b3:=h.num;have bY:=h.size;have b_:=I.has.lt;refine J.own.kZ FT (⟨op,(jP mo).length,oc⟩:Sl) h.has rfl rfl (fun _=>rfl) (by omega) fun X ar aw o' m' ax b7=> ?_;have b8:=m'.size;have av: ∀k,aI ar=some k->w.heap.size<=k/\k≠n14:=fun k Q=>by
  rcases ax with rfl|rfl
  . exact I.fr k Q
  . have:=bg Q;have:=I.g.size;omega
 have ha:bF X n14 #[.int .i64 N,.slice gp hs'.length gc]:=J.has.keep m' fun e=> (I.fr _ e).2 rfl;refine bZ ha rfl rfl fun U a_ V=> ?_;have b5:=V.size;have ag: ∀ {p:Option Addr} {l:List Int},Vw (Value.int .i64) ac p l->(l≠[]->∀k,aI p=some k->k≠n14/\aI gp≠some k)->Vw (Value.int .i64) U p l:=fun {p l} v hv=>by
  by_cases e:l= []
  . subst e;exact Vw.nil
  . exact (v.keep m' fun k Q e2=> (hv e k Q).2 e2).keep V fun k Q (e2:k=n14)=> (hv e k Q).1 e2
 have a6:Vw (Value.int .i64) U op (jP mo):=ag (O.grow h.mod).vw fun _ k Q=>hf k Q;have hlen:(cs++ (ms++ [mo]).map jP).length=(cs++ms.map jP).length+1:=by simp;omega
 have gl: ∀j,j< (cs++ms.map jP).length->(cs++ (ms++ [mo]).map jP).getD j []=(cs++ms.map jP).getD j []/\(hs'++ [(⟨op,(jP mo).length,oc⟩:Sl)]).getD j Sl.nil=hs'.getD j Sl.nil:=fun j hj=>by
  have hn:=I.n;refine ⟨?_,?_⟩
  . rw [List.map_append,<- List.append_assoc];simp only [List.getD_eq_getElem?_getD];rw [List.getElem?_append_left hj]
  . simp only [List.getD_eq_getElem?_getD];rw [List.getElem?_append_left (by omega)]
 have gn:(cs++ (ms++ [mo]).map jP).getD (cs++ms.map jP).length []=jP mo/\(hs'++ [(⟨op,(jP mo).length,oc⟩:Sl)]).getD (cs++ms.map jP).length Sl.nil=⟨op,(jP mo).length,oc⟩:=by
  refine ⟨?_,?_⟩
  . rw [List.map_append,<- List.append_assoc];simp only [List.getD_eq_getElem?_getD];rw [List.getElem?_append_right (Nat.le_refl _)];simp
  . rw [<- I.n];simp only [List.getD_eq_getElem?_getD];rw [List.getElem?_append_right (Nat.le_refl _)];simp
 have bk:=(O.grow h.mod).lt;refine Q U (hs'++ [(⟨op,(jP mo).length,oc⟩:Sl)]) ar aw ⟨?_,?_,?_,?_,fun j hj=> ?_,fun j hj Z k Q=> ?_,?_,fun m Y=> ?_,I.z,av⟩
 . refine ((I.g.trans h.mod).then m' fun k Q e=> ?_).then V fun k Q (e:k=n14)=>by have:=I.z;omega
   have:=(I.fr k e).1;omega
 . rw [List.length_append,List.length_singleton];exact a_
 . exact o'.keep V fun k Q (e:k=n14)=> (av k Q).2 e
 . rw [hlen,List.length_append,List.length_singleton,I.n]
 . rw [hlen] at hj;by_cases e:j< (cs++ms.map jP).length
   . rw [(gl j e).1,(gl j e).2];obtain ⟨r1,r2,r3⟩:=J.r j e;exact ⟨r1,r2,ag r3 fun Z k Q=> ⟨(J.rf j e Z k Q).1,(J.rf j e Z k Q).2.1⟩⟩
   . have e:j=(cs++ms.map jP).length:=by omega
     subst e;rw [gn.1,gn.2];refine ⟨rfl,?_,a6⟩;show (jP mo).length<=maxLen;rw [sJ,hm.len];unfold maxLen;omega
 . rw [hlen] at hj;by_cases e:j< (cs++ms.map jP).length
   . rw [(gl j e).1] at Z;rw [(gl j e).2] at Q;obtain ⟨r1,r2,r3⟩:=J.rf j e Z k Q;refine ⟨r1,?_,by omega⟩;rcases ax with rfl|rfl
     . exact r2
     . intro e2;have:=bg e2;omega
   . have e:j=(cs++ms.map jP).length:=by omega
     subst e;rw [gn.2] at Q;have Q:aI op=some k:=Q;obtain ⟨r1,r2⟩:=hf k Q;have:=bk k Q;refine ⟨r1,?_,by omega⟩;rcases ax with rfl|rfl
     . exact r2
     . intro e2;have:=bg e2;omega
 . exact sW I.nd aT
 . rcases List.mem_append.1 Y with Y|Y
   . exact I.pm m Y
   . rw [List.mem_singleton] at Y;subst Y;exact ⟨hm,hh⟩
theorem IQ {q:Option Addr} {n:Nat} (v:Vw (Value.int .i64) w q mo) (hn:n=mo.length) (hm:sA N mo) (hN:N<=4096) {K:Option Addr->Nat->Nat->World->Prop}
 (hk: ∀op oc u,eC aC u op oc (jP mo)->(∀b,aI op=some b->w.heap.size<=b)->aq w u->K op (jP mo).length oc u):
 ∃ar:Option Addr->Nat->Nat->Int->World->Nat->Prop,(∃Y,ar none 0 0 0 w Y)/\
  ∀ (I:Option Addr) (J:Nat) (O:Nat) (U:Int) (X:World) (Y:Nat) (_:Fr),ar I J O U X Y->
  aH (decide (U< (n:Int)))
   (aV q n U 1 fun az=>
     ∃aw,X.cell? az=some (.int .i64 aw)/\
     ∀ag an,bc (.cells #[.int .i64 (i64.wrap ((i64.wrap (0 - aw))* (i64.wrap (U+ (1:Int)))))] 3) X ag an->
     ∃ap Z aa ac,(Builtin.append_ #[28,28] 28 #[.slice I J O,.slice (some (Addr.mk ag 0 none)) 1 1]).run prog an= .ok (.slice Z aa ac) ap/\
     ∃av,av<Y/\ar Z aa ac (i64.wrap (U+ (1:Int))) ap av)
   (K I J O X):=by
 have hl:=hm.len;have ax: ∀t,t<mo.length->(jP mo).take (t+1)=(jP mo).take t++ [-(mo.getD t 0)* ((t:Int)+1)]:=fun t ht=>by
  rw [List.take_add_one];congr 1;rw [List.getElem?_eq_getElem (by rw [sJ];exact ht)];simp [jP]
 refine ⟨fun p k c V u z=> ∃t:Nat,V=t/\t<=mo.length/\z=mo.length - t/\k=((jP mo).take t).length/\eC aC u p c ((jP mo).take t)/\(∀b,aI p=some b->w.heap.size<=b)/\aq w u,
  ⟨_,0,rfl,Nat.zero_le _,rfl,rfl,Ow.nil _ _ _,fun b hb=>by simp [aI] at hb,aE.refl _⟩,?_⟩
 rintro p k c V u z _ ⟨t,rfl,ht,rfl,rfl,o,fr,G⟩;refine ao (fun r=> ?_) (fun r=> ?_)
 . have r:t<mo.length:=by simp at r;omega
   refine (v.grow G).ix 0 (by omega) hn (by omega) fun a ha=> ⟨_,ha,fun ag an Q=> ?_⟩
   rw [Int.toNat_natCast] at Q;have a7:=Q.num;have sG:=G.size;have hy:=hm.at_ (i:=t) (by omega);have ew:i64.wrap ((i64.wrap (0 - mo.getD t 0))* (i64.wrap ((t:Int)+1)))= -(mo.getD t 0)* ((t:Int)+1):=by
    have e1:i64.wrap (0 - mo.getD t 0)= -(mo.getD t 0):=by rw [aB (by omega) (by omega)];omega
    have e2:i64.wrap ((t:Int)+1)=(t:Int)+1:=aB (by omega) (by omega);rw [e1,e2];rcases hy with e|e<;>rw [e]<;>exact aB (by omega) (by omega)
   rw [ew] at Q;have bb:((jP mo).take t).length<=t:=List.length_take_le t _;refine (o.grow Q.mod).kZ qK _ Q.has rfl rfl fH (by omega) fun ap p' c' o' m' ay hs'=> ?_;refine ⟨_,?_,t+1,wN (by omega) (by omega),by omega,rfl,by rw [ax t r];simp,by rw [ax t r];exact o',fun b hb=> ?_,(G.trans Q.mod).then m' fun b hb e=> ?_⟩
   . omega
   . rcases ay with rfl|rfl
     . exact fr b hb
     . have:=bg hb;have:=Q.size;omega
   . have:=fr b e;omega
 . have r:t=mo.length:=by simp at r;omega
   subst r;rw [List.take_of_length_le (by rw [sJ];exact Nat.le_refl _)] at o ⊢;exact hk _ _ _ o fr G
end
section
variable {w w' w1 w2 u u':World} {N n14:Nat} {cs:List (List Int)} {mo:List Int} {ms:List (List Int)} {hs':List Sl} {gp:Option Addr} {gc:Nat}
def Ly (y:World) (N:Nat) (cs:List (List Int)) (jO I:Int) (mp:Option Addr) (J:Nat):Prop:=
 I=0/\((jO=1/\∃mo:List Int,J=mo.length/\Vw (Value.int .i64) y mp mo/\sA N mo/\eD mo cs=true)\/(jO=2/\∀v,Jp N v->¬∀d∈cs,vS v d))
theorem t_ {nS t k18:Nat} {y:World} {I17:Int->World->Nat->Prop} {K:Value->World->Prop} {jO er:Int} {mp:Option Addr} {mn mc:Nat} {v3 v4 v5 v6 v7:Value} (I:nv w u n14 N cs hs' ms gp gc) (g:aq u y) (hN:N<=4096) (hb:hs'.length<=1000000)
 (H:bF y nS #[.int .i64 jO,.slice mp mn mc,v3,v4,v5,v6,v7]) (M:Ly y N (cs++ms.map jP) jO er mp mn)
 (hK:aq w y->mU N cs<=ms.length->K (.tuple #[.int .i64 t,.int .i64 0]) y)
 (hI: ∀u' a8 a6 a7 mo,nv w u' n14 N cs a8 (ms++ [mo]) a6 a7->∃Y,Y<k18/\I17 (i64.wrap ((t:Int)+ (1:Int))) u' Y):
 aH (er !=(0:Int))
       (K (.tuple #[.int .i64 (t:Int),.int .i64 0]) y)
       (∃bv,y.cell? ((Addr.mk nS 0 none).add 0)=some (.int .i64 bv)/\
       aH (bv !=(1:Int))
       (K (.tuple #[.int .i64 (t:Int),.int .i64 0]) y)
       (∃aw aa bY,y.cell? ((Addr.mk nS 0 none).add 1)=some (.slice aw aa bY)/\
         ∃a_:Option Addr->Nat->Nat->Int->World->Nat->Prop,(∃ac,a_ none 0 0 0 y ac)/\
         ∀ (Q:Option Addr) (U:Nat) (V:Nat) (Z:Int) (X:World) (ac:Nat) (_:Fr),a_ Q U V Z X ac->
         aH (decide (Z< (aa:Int)))
          (aV aw aa Z 1 fun b8=>
            ∃b6,X.cell? b8=some (.int .i64 b6)/\
            ∀bx b3,bc (.cells #[.int .i64 (i64.wrap ((i64.wrap (0 - b6))* (i64.wrap (Z+ (1:Int)))))] 3) X bx b3->
            ∃b7 an ap ay,(Builtin.append_ #[28,28] 28 #[.slice Q U V,.slice (some (Addr.mk bx 0 none)) 1 1]).run prog b3= .ok (.slice an ap ay) b7/\
            ∃bk,bk<ac/\a_ an ap ay (i64.wrap (Z+ (1:Int))) b7 bk)
          (∃aT ag ax,X.cell? ((Addr.mk n14 0 none).add 1)=some (.slice aT ag ax)/\
            ∀bb a',bc (.cells #[.slice Q U V] 28) X bb a'->
            ∃b4 av ar az,(Builtin.append_ #[22,22] 22 #[.slice aT ag ax,.slice (some (Addr.mk bb 0 none)) 1 1]).run prog a'= .ok (.slice av ar az) b4/\
            ∃b5,af ((Addr.mk n14 0 none).add 1) 0 [.slice av ar az] b4 b5/\
            ∃Y,Y<k18/\I17 (i64.wrap ((t:Int)+ (1:Int))) b5 Y))):=by
 have J:=I.grow g;obtain ⟨rfl,M⟩:=M;refine bm rfl ⟨_,ad H rfl,?_⟩;rcases M with ⟨rfl,mo,rfl,v,hm,hh⟩| ⟨rfl,hu⟩
 . refine bm rfl ⟨_,_,_,ad H rfl,IQ v rfl hm hN fun op oc u' O fr G=> ?_⟩;have A:=J.grow G;have cb: ∀m∈ms,sA N m:=fun m hm=> (I.pm m hm).1;obtain ⟨h1,h2⟩:=(vI hN hm cb).1 hh;refine ⟨_,_,_,ad A.has rfl,fun bb a' b9=> ?_⟩;refine A.push O (fun b hb=> ?_) hm hN h1 h2 hb b9 fun u2 a8 a6 a7 B=>hI u2 a8 a6 a7 _ B;have h3:=fr b hb;have h4:=J.has.lt;refine ⟨by omega,fun e=> ?_⟩;have:=J.own.lt b e;omega
 . refine cj rfl (hK J.g ?_);refine JE fun m hm hh=>Classical.byContradiction fun hn=> ?_;have h1:=yP (by omega) hu hm;rw [(vI hN hm fun m hm=> (I.pm m hm).1).2 ⟨hh,hn⟩] at h1;exact absurd h1 (by decide)
theorem xp {z M:Nat} {y:World} {I:Nat} {jO U cf de re dr:Int} {mp pp:Option Addr} {O mc pn pc:Nat} (h:zj z w N M cs (-1) (.returned (.tuple #[.agg #[.int .i64 jO,.slice mp O mc,.slice pp pn pc,.int .i64 cf,.int .i64 de,.int .i64 re,.int .i64 dr],.int .i64 U]))) (m:aE (·=I) w y) (hn:I<z\/w.heap.size<=I):Ly y N cs jO U mp O:=by
 obtain ⟨V,a7,ax,ay,Y,aw,X,az,Z,an,aa,ar,he,_,_,_,_,hh⟩:=h;simp only [Ending.returned.injEq,Value.tuple.injEq,Array.mk.injEq,List.cons.injEq,Value.agg.injEq,Value.int.injEq,Value.slice.injEq,and_true,true_and] at he;obtain ⟨⟨rfl,⟨rfl,rfl,rfl⟩,⟨rfl,rfl,rfl⟩,rfl,rfl,rfl,rfl⟩,rfl⟩:=he;rcases hh with ⟨_,_,_,_,h0,_⟩| ⟨rfl,rfl,_,_,mo,h1,J,h3,h4,h5,h6⟩| ⟨rfl,rfl,_,_,h1,_⟩
 . exact absurd h0 (by decide)
 . refine ⟨rfl,.inl ⟨rfl,mo,h1,?_,⟨h4,h5⟩,kD.2 h6⟩⟩;by_cases e:mo= []
   . subst e;exact Vw.nil
   . refine J.keep m fun k Q (e2:k=I)=> ?_;have:=h3 k Q;have:=J.lt e k Q;omega
 . exact ⟨rfl,.inr ⟨rfl,h1⟩⟩
theorem uh (w:World):Calls prog js.id #[] w fun e w'=>e= .returned (.agg #[.int .i64 (-1),.int .i64 64,.int .i64 200])/\aq w w':=by
 refine js.ah ?_;intro O w2 J;refine bq J.has rfl rfl fun w3 I m3=> ?_;have I:bF w3 O #[.int .i64 (-1),.int .i64 64,.int .i64 200]:=I;exact ⟨_,_,_,⟨ad I rfl,ad I rfl,ad I rfl,trivial⟩,rfl,aE.bW J.mod m3 (by have:=J.num;omega)⟩
theorem Gn (h:N<=6):2 ^ N<=64:=by
 have:N=0\/N=1\/N=2\/N=3\/N=4\/N=5\/N=6:=by omega
 rcases this with rfl|rfl|rfl|rfl|rfl|rfl|rfl<;>decide
theorem Ik:mU N cs<=2 ^ N:=by
 unfold mU;have:=List.countP_le_length (p:=fun k=>eD (cZ N k) cs) (l:=List.range (2 ^ N));simpa using this
theorem DM (I:dH N cs=true) (hN:N<=6) (U:cs.length<=100000) (V:ms.length<=64) (O: ∀m∈ms,sA N m):dH N (cs++ms.map jP)=true:=by
 unfold dH at*
 simp only [Bool.and_eq_true,decide_eq_true_eq,List.all_eq_true] at I ⊢;obtain ⟨⟨h1,Q,Y⟩,X⟩:=I;refine ⟨⟨h1,Q,by simp;omega⟩,fun c J=> ?_⟩;rcases List.mem_append.1 J with J|J
 . exact X c J
 . obtain ⟨m,hm,rfl⟩:=List.mem_map.1 J;have hp:=O m hm;refine ⟨?_,fun l hl=> ?_⟩
   . unfold iu;simp only [Bool.and_eq_true,decide_eq_true_eq,List.all_eq_true];exact ⟨fun l hl=>oD (n:=N) (by omega) (AQ hp hl),by rw [sJ,hp.len];omega⟩
   . exact (AQ hp hl).aX.2
theorem xj (I:nv w u n14 N cs hs' ms gp gc) (g:aq u u') (U:dH N cs=true) (hN:N<=6) (O:cs.length<=100000) (Q:ms.length<=64):
 Calls prog iH.id #[.agg #[.int .i64 N,.slice gp hs'.length gc],.agg #[.int .i64 (-1),.int .i64 64,.int .i64 200]] u' fun e w'=>zj u'.heap.size w' N 62000 (cs++ms.map jP) (-1) e/\aq u' w':=by
 have J:=I.grow g;obtain ⟨K,ok,V,X⟩:=Mi (N:=N) (uni:=64) (lrn:=200) (by omega) (by decide);rw [<- X];refine uj J.v2 J.n (DM U hN O Q fun m hm=> (I.pm m hm).1) (by decide) rfl (by omega) ok V ?_;have:(cs++ms.map jP).length=cs.length+ms.length:=by simp
 omega
def FB (w:World) (n14 N:Nat) (cs:List (List Int)) (n:Int):Int->World->Nat->Prop:=fun v u z=>
 ∃ (t:Nat) (hs':List Sl) (ms:List (List Int)) (gp:Option Addr) (gc:Nat),v=t/\(t:Int)<=n/\z=n.toNat - t/\ms.length=t/\nv w u n14 N cs hs' ms gp gc
theorem zE {k18:Nat} {v v0:World} {I17:Int->World->Nat->Prop} {K:Value->World->Prop} (I:nv w u n14 N cs hs' ms gp gc) (g:aq u v) (g0:aq v0 v) (dT:dH N cs=true) (hN:N<=6) (dd:cs.length<=100000) (dq:ms.length<=64)
 (hK: ∀y,aq w y->mU N cs<=ms.length->K (.tuple #[.int .i64 (ms.length:Nat),.int .i64 0]) y)
 (hI: ∀u' du c7 dc mo,nv w u' n14 N cs du (ms++ [mo]) c7 dc->∃Y,Y<k18/\I17 (i64.wrap ((ms.length:Int)+ (1:Int))) u' Y):
 Calls prog 37 #[.agg #[.int .i64 (N:Int),.slice gp hs'.length gc],.agg #[.int .i64 (-1),.int .i64 64,.int .i64 200]] v fun e an=> ∃b' a8 a' bv a_ ar aw cT c1 cg cb b_,e= .returned (.tuple #[.agg #[.int .i64 b',.slice a8 a' bv,.slice a_ ar aw,.int .i64 cT,.int .i64 c1,.int .i64 cg,.int .i64 cb],.int .i64 b_])/\
       ∀V ag,bc (.cells #[.int .i64 0,.slice none 0 0,.slice none 0 0,.int .i64 0,.int .i64 0,.int .i64 0,.int .i64 0] 58) an V ag->
       (aq v0) ag/\∃U,af (Addr.mk V 0 none) 0 [.int .i64 b',.slice a8 a' bv,.slice a_ ar aw,.int .i64 cT,.int .i64 c1,.int .i64 cg,.int .i64 cb] ag U/\
       aH (b_ !=(0:Int))
       (K (.tuple #[.int .i64 (ms.length:Int),.int .i64 0]) U)
       (∃b6,U.cell? ((Addr.mk V 0 none).add 0)=some (.int .i64 b6)/\
       aH (b6 !=(1:Int))
       (K (.tuple #[.int .i64 (ms.length:Int),.int .i64 0]) U)
       (∃a6 aa b7,U.cell? ((Addr.mk V 0 none).add 1)=some (.slice a6 aa b7)/\
         ∃b3:Option Addr->Nat->Nat->Int->World->Nat->Prop,(∃ap,b3 none 0 0 0 U ap)/\
         ∀ (J:Option Addr) (O:Nat) (Q:Nat) (Z:Int) (X:World) (ap:Nat) (_:Fr),b3 J O Q Z X ap->
         aH (decide (Z< (aa:Int)))
          (aV a6 aa Z 1 fun dk=>
            ∃cp,X.cell? dk=some (.int .i64 cp)/\
            ∀b8 b9,bc (.cells #[.int .i64 (i64.wrap ((i64.wrap (0 - cp))* (i64.wrap (Z+ (1:Int)))))] 3) X b8 b9->
            ∃c0 ax ay bb,(Builtin.append_ #[28,28] 28 #[.slice J O Q,.slice (some (Addr.mk b8 0 none)) 1 1]).run prog b9= .ok (.slice ax ay bb) c0/\
            ∃b4,b4<ap/\b3 ax ay bb (i64.wrap (Z+ (1:Int))) c0 b4)
          (∃bx av a7,X.cell? ((Addr.mk n14 0 none).add 1)=some (.slice bx av a7)/\
            ∀c3 c2,bc (.cells #[.slice J O Q] 28) X c3 c2->
            ∃ce aT az bk,(Builtin.append_ #[22,22] 22 #[.slice bx av a7,.slice (some (Addr.mk c3 0 none)) 1 1]).run prog c2= .ok (.slice aT az bk) ce/\
            ∃cm,af ((Addr.mk n14 0 none).add 1) 0 [.slice aT az bk] ce cm/\
            ∃Y,Y<k18/\I17 (i64.wrap ((ms.length:Int)+ (1:Int))) cm Y))):=by
 have ed:=I.n;have d4:(cs++ms.map jP).length=cs.length+ms.length:=by simp
 refine (xj I g dT hN dd dq).mono ?_;rintro e an ⟨hs,cc⟩;have hs':=hs;obtain ⟨jO,mp,mn,mc,pp,pn,pc,cf,de,re,dr,er,rfl,_⟩:=hs';refine ⟨_,_,_,_,_,_,_,_,_,_,_,_,rfl,fun V ag ac=> ?_⟩;refine ⟨(g0.trans cc).trans ac.mod,?_⟩;refine bq ac.has rfl rfl fun U bY dp=> ?_;have bY:bF U V #[.int .i64 jO,.slice mp mn mc,.slice pp pn pc,.int .i64 cf,.int .i64 de,.int .i64 re,.int .i64 dr]:=bY;have eb:=ac.num;have b5:aq an U:=aE.bW ac.mod dp (by omega);have mm:aE (·=V) an U:=b5.mono fun _ _ e=>e.elim;exact t_ I (g.trans (cc.trans b5)) (by omega) (by omega) bY (xp hs mm (.inr (by omega))) (hK _) hI
theorem qL {nS k18:Nat} {v:World} {I17:Int->World->Nat->Prop} {K:Value->World->Prop} (I:nv w u n14 N cs hs' ms gp gc) (g:aq u v) (hS:bF v nS #[.int .i64 0,.slice none 0 0,.slice none 0 0,.int .i64 0,.int .i64 0,.int .i64 0,.int .i64 0]) (hz:u.heap.size<=nS) (dp:dH N cs=true) (hN:N<=6) (c7:cs.length<=100000) (dd:ms.length<=64)
 (hK: ∀y,aq w y->mU N cs<=ms.length->K (.tuple #[.int .i64 (ms.length:Nat),.int .i64 0]) y)
 (hI: ∀u' dk c2 c3 mo,nv w u' n14 N cs dk (ms++ [mo]) c2 c3->∃Y,Y<k18/\I17 (i64.wrap ((ms.length:Int)+ (1:Int))) u' Y):
 Calls prog 37 #[.agg #[.int .i64 (N:Int),.slice gp hs'.length gc],.agg #[.int .i64 (-1),.int .i64 64,.int .i64 200]] v fun e cp=> ∃b_ aT az ac aw ap ax bx cg b6 b5 cT,e= .returned (.tuple #[.agg #[.int .i64 b_,.slice aT az ac,.slice aw ap ax,.int .i64 bx,.int .i64 cg,.int .i64 b6,.int .i64 b5],.int .i64 cT])/\
       ∃U,af (Addr.mk nS 0 none) 0 [.int .i64 b_,.slice aT az ac,.slice aw ap ax,.int .i64 bx,.int .i64 cg,.int .i64 b6,.int .i64 b5] cp U/\
       aH (cT !=(0:Int))
       (K (.tuple #[.int .i64 (ms.length:Int),.int .i64 0]) U)
       (∃b',U.cell? ((Addr.mk nS 0 none).add 0)=some (.int .i64 b')/\
       aH (b' !=(1:Int))
       (K (.tuple #[.int .i64 (ms.length:Int),.int .i64 0]) U)
       (∃a' V b7,U.cell? ((Addr.mk nS 0 none).add 1)=some (.slice a' V b7)/\
         ∃bv:Option Addr->Nat->Nat->Int->World->Nat->Prop,(∃aa,bv none 0 0 0 U aa)/\
         ∀ (Q:Option Addr) (J:Nat) (O:Nat) (X:Int) (Z:World) (aa:Nat) (_:Fr),bv Q J O X Z aa->
         aH (decide (X< (V:Int)))
          (aV a' V X 1 fun dq=>
            ∃c1,Z.cell? dq=some (.int .i64 c1)/\
            ∀ce bY,bc (.cells #[.int .i64 (i64.wrap ((i64.wrap (0 - c1))* (i64.wrap (X+ (1:Int)))))] 3) Z ce bY->
            ∃cb ay a6 a_,(Builtin.append_ #[28,28] 28 #[.slice Q J O,.slice (some (Addr.mk ce 0 none)) 1 1]).run prog bY= .ok (.slice ay a6 a_) cb/\
            ∃b4,b4<aa/\bv ay a6 a_ (i64.wrap (X+ (1:Int))) cb b4)
          (∃av ar ag,Z.cell? ((Addr.mk n14 0 none).add 1)=some (.slice av ar ag)/\
            ∀b3 b9,bc (.cells #[.slice Q J O] 28) Z b3 b9->
            ∃cc a7 an a8,(Builtin.append_ #[22,22] 22 #[.slice av ar ag,.slice (some (Addr.mk b3 0 none)) 1 1]).run prog b9= .ok (.slice a7 an a8) cc/\
            ∃c0,af ((Addr.mk n14 0 none).add 1) 0 [.slice a7 an a8] cc c0/\
            ∃Y,Y<k18/\I17 (i64.wrap ((ms.length:Int)+ (1:Int))) c0 Y))):=by
 have d':=I.n;have dT:(cs++ms.map jP).length=cs.length+ms.length:=by simp
 refine (xj I g dp hN c7 dd).mono ?_;rintro e cp ⟨hs,b8⟩;have hs':=hs;obtain ⟨jO,mp,mn,mc,pp,pn,pc,cf,de,re,dr,er,rfl,_⟩:=hs';refine ⟨_,_,_,_,_,_,_,_,_,_,_,_,rfl,?_⟩;refine bq (hS.grow b8) rfl rfl fun U bb cm=> ?_;have bb:bF U nS #[.int .i64 jO,.slice mp mn mc,.slice pp pn pc,.int .i64 cf,.int .i64 de,.int .i64 re,.int .i64 dr]:=bb;have dc:aq u U:=(g.trans b8).then cm fun k hk (e:k=nS)=>by omega
 exact t_ I dc (by omega) (by omega) bb (xp hs cm (.inl hS.lt)) (hK _) hI
theorem ui {n:Int} (I0:nv w u n14 N cs hs' [] gp gc) (fs:dH N cs=true) (hN:N<=6) (fl:cs.length<=100000) (h0:0<=n) (h1:n<=4096) {K:Value->World->Prop}
 (hk: ∀u' (r:Nat),(r:Int)<=n->r<=mU N cs->((r:Int)=n\/mU N cs<=r)->aq w u'->K (.tuple #[.int .i64 r,.int .i64 0]) u'):
 ∃I17:Int->World->Nat->Prop,(∃k18,I17 0 u k18)/\
  ∀ (ag:Int) (a':World) (k18:Nat) (_:Fr),I17 ag a' k18->
  aH (decide (ag<n))
   (∃av:World->Prop,av a'.drew/\
     ∃du ay az ax,kG av (Addr.mk n14 0 none) [.int .i64 du,.slice ay az ax]/\
     (Calls prog 39 #[] a'.drew fun e dk=> ∃f' f1 fu,e= .returned (.agg #[.int .i64 f',.int .i64 f1,.int .i64 fu])/\
     av dk/\(Calls prog 37 #[.agg #[.int .i64 du,.slice ay az ax],.agg #[.int .i64 f',.int .i64 f1,.int .i64 fu]] dk fun e hL=> ∃hy el es ew ep eH d8 g5 g7 g1 hz hx,e= .returned (.tuple #[.agg #[.int .i64 hy,.slice el es ew,.slice ep eH d8,.int .i64 g5,.int .i64 g7,.int .i64 g1,.int .i64 hz],.int .i64 hx])/\
     ∀dd fv,bc (.cells #[.int .i64 0,.slice none 0 0,.slice none 0 0,.int .i64 0,.int .i64 0,.int .i64 0,.int .i64 0] 58) hL dd fv->
     av fv/\∃a6,af (Addr.mk dd 0 none) 0 [.int .i64 hy,.slice el es ew,.slice ep eH d8,.int .i64 g5,.int .i64 g7,.int .i64 g1,.int .i64 hz] fv a6/\
     aH (hx !=(0:Int))
     (K (.tuple #[.int .i64 ag,.int .i64 0]) a6)
     (∃gw,a6.cell? ((Addr.mk dd 0 none).add 0)=some (.int .i64 gw)/\
     aH (gw !=(1:Int))
     (K (.tuple #[.int .i64 ag,.int .i64 0]) a6)
     (∃ei b6 gz,a6.cell? ((Addr.mk dd 0 none).add 1)=some (.slice ei b6 gz)/\
       ∃fA:Option Addr->Nat->Nat->Int->World->Nat->Prop,(∃dp,fA none 0 0 0 a6 dp)/\
       ∀ (U:Option Addr) (V:Nat) (aa:Nat) (bY:Int) (bb:World) (dp:Nat) (_:Fr),fA U V aa bY bb dp->
       aH (decide (bY< (b6:Int)))
        (aV ei b6 bY 1 fun hH=>
          ∃g4,bb.cell? hH=some (.int .i64 g4)/\
          ∀gA hw,bc (.cells #[.int .i64 (i64.wrap ((i64.wrap (0 - g4))* (i64.wrap (bY+ (1:Int)))))] 3) bb gA hw->
          ∃g6 d' ea fb,(Builtin.append_ #[28,28] 28 #[.slice U V aa,.slice (some (Addr.mk gA 0 none)) 1 1]).run prog hw= .ok (.slice d' ea fb) g6/\
          ∃gn,gn<dp/\fA d' ea fb (i64.wrap (bY+ (1:Int))) g6 gn)
        (∃fk d5 e7,bb.cell? ((Addr.mk n14 0 none).add 1)=some (.slice fk d5 e7)/\
          ∀g' g9,bc (.cells #[.slice U V aa] 28) bb g' g9->
          ∃gW ef eb eu,(Builtin.append_ #[22,22] 22 #[.slice fk d5 e7,.slice (some (Addr.mk g' 0 none)) 1 1]).run prog g9= .ok (.slice ef eb eu) gW/\
          ∃g3,af ((Addr.mk n14 0 none).add 1) 0 [.slice ef eb eu] gW g3/\
          ∃ac,ac<k18/\I17 (i64.wrap (ag+ (1:Int))) g3 ac))))/\
   (∀c3 dq,bc (.cells #[.int .i64 0,.slice none 0 0,.slice none 0 0,.int .i64 0,.int .i64 0,.int .i64 0,.int .i64 0] 58) dk c3 dq->
     av dq/\Calls prog 37 #[.agg #[.int .i64 du,.slice ay az ax],.agg #[.int .i64 f',.int .i64 f1,.int .i64 fu]] dq fun e hP=> ∃ho e' e9 ez e4 eR e5 gl gV gu gs hE,e= .returned (.tuple #[.agg #[.int .i64 ho,.slice e' e9 ez,.slice e4 eR e5,.int .i64 gl,.int .i64 gV,.int .i64 gu,.int .i64 gs],.int .i64 hE])/\
     ∃a8,af (Addr.mk c3 0 none) 0 [.int .i64 ho,.slice e' e9 ez,.slice e4 eR e5,.int .i64 gl,.int .i64 gV,.int .i64 gu,.int .i64 gs] hP a8/\
     aH (hE !=(0:Int))
     (K (.tuple #[.int .i64 ag,.int .i64 0]) a8)
     (∃gP,a8.cell? ((Addr.mk c3 0 none).add 0)=some (.int .i64 gP)/\
     aH (gP !=(1:Int))
     (K (.tuple #[.int .i64 ag,.int .i64 0]) a8)
     (∃ey cb hj,a8.cell? ((Addr.mk c3 0 none).add 1)=some (.slice ey cb hj)/\
       ∃gb:Option Addr->Nat->Nat->Int->World->Nat->Prop,(∃dc,gb none 0 0 0 a8 dc)/\
       ∀ (Y:Option Addr) (Z:Nat) (X:Nat) (cg:Int) (cm:World) (dc:Nat) (_:Fr),gb Y Z X cg cm dc->
       aH (decide (cg< (cb:Int)))
        (aV ey cb cg 1 fun hR=>
          ∃g8,cm.cell? hR=some (.int .i64 g8)/\
          ∀hB hd,bc (.cells #[.int .i64 (i64.wrap ((i64.wrap (0 - g8))* (i64.wrap (cg+ (1:Int)))))] 3) cm hB hd->
          ∃hA e6 en fj,(Builtin.append_ #[28,28] 28 #[.slice Y Z X,.slice (some (Addr.mk hB 0 none)) 1 1]).run prog hd= .ok (.slice e6 en fj) hA/\
          ∃gr,gr<dc/\gb e6 en fj (i64.wrap (cg+ (1:Int))) hA gr)
        (∃e3 eT d4,cm.cell? ((Addr.mk n14 0 none).add 1)=some (.slice e3 eT d4)/\
          ∀hg gJ,bc (.cells #[.slice Y Z X] 28) cm hg gJ->
          ∃gT er eL fd,(Builtin.append_ #[22,22] 22 #[.slice e3 eT d4,.slice (some (Addr.mk hg 0 none)) 1 1]).run prog gJ= .ok (.slice er eL fd) gT/\
          ∃g0,af ((Addr.mk n14 0 none).add 1) 0 [.slice er eL fd] gT g0/\
          ∃ac,ac<k18/\I17 (i64.wrap (ag+ (1:Int))) g0 ac)))))/\
   (∀b7 dT,bc (.cells #[.int .i64 0,.slice none 0 0,.slice none 0 0,.int .i64 0,.int .i64 0,.int .i64 0,.int .i64 0] 58) a'.drew b7 dT->
     av dT/\Calls prog 39 #[] dT fun e fq=> ∃gm hh gS,e= .returned (.agg #[.int .i64 gm,.int .i64 hh,.int .i64 gS])/\
     av fq/\Calls prog 37 #[.agg #[.int .i64 du,.slice ay az ax],.agg #[.int .i64 gm,.int .i64 hh,.int .i64 gS]] fq fun e hO=> ∃d9 b3 bx c0 b' b8 c2 e8 eN eg e1 et,e= .returned (.tuple #[.agg #[.int .i64 d9,.slice b3 bx c0,.slice b' b8 c2,.int .i64 e8,.int .i64 eN,.int .i64 eg,.int .i64 e1],.int .i64 et])/\
     ∃an,af (Addr.mk b7 0 none) 0 [.int .i64 d9,.slice b3 bx c0,.slice b' b8 c2,.int .i64 e8,.int .i64 eN,.int .i64 eg,.int .i64 e1] hO an/\
     aH (et !=(0:Int))
     (K (.tuple #[.int .i64 ag,.int .i64 0]) an)
     (∃e2,an.cell? ((Addr.mk b7 0 none).add 0)=some (.int .i64 e2)/\
     aH (e2 !=(1:Int))
     (K (.tuple #[.int .i64 ag,.int .i64 0]) an)
     (∃bv aw fo,an.cell? ((Addr.mk b7 0 none).add 1)=some (.slice bv aw fo)/\
       ∃cc:Option Addr->Nat->Nat->Int->World->Nat->Prop,(∃aT,cc none 0 0 0 an aT)/\
       ∀ (J:Option Addr) (O:Nat) (Q:Nat) (ar:Int) (ap:World) (aT:Nat) (_:Fr),cc J O Q ar ap aT->
       aH (decide (ar< (aw:Int)))
        (aV bv aw ar 1 fun a117=>
          ∃ec,ap.cell? a117=some (.int .i64 ec)/\
          ∀n119 ej,bc (.cells #[.int .i64 (i64.wrap ((i64.wrap (0 - ec))* (i64.wrap (ar+ (1:Int)))))] 3) ap n119 ej->
          ∃ek c1 a_ b9,(Builtin.append_ #[28,28] 28 #[.slice J O Q,.slice (some (Addr.mk n119 0 none)) 1 1]).run prog ej= .ok (.slice c1 a_ b9) ek/\
          ∃eA,eA<aT/\cc c1 a_ b9 (i64.wrap (ar+ (1:Int))) ek eA)
        (∃ce b4 b_,ap.cell? ((Addr.mk n14 0 none).add 1)=some (.slice ce b4 b_)/\
          ∀n124 ed,bc (.cells #[.slice J O Q] 28) ap n124 ed->
          ∃fi bk b5 cT,(Builtin.append_ #[22,22] 22 #[.slice ce b4 b_,.slice (some (Addr.mk n124 0 none)) 1 1]).run prog ed= .ok (.slice bk b5 cT) fi/\
          ∃fa,af ((Addr.mk n14 0 none).add 1) 0 [.slice bk b5 cT] fi fa/\
          ∃ac,ac<k18/\I17 (i64.wrap (ag+ (1:Int))) fa ac)))))
   (K (.tuple #[.int .i64 n,.int .i64 0]) a'):=by
 refine ⟨FB w n14 N cs n,⟨_,0,hs',[],gp,gc,rfl,h0,rfl,rfl,I0⟩,?_⟩;clear I0;rintro v u z _ ⟨t,hs',ms,gp,gc,rfl,ht,rfl,rfl,I⟩;have g2:=Jy I.nd I.pm;have h3:=Ik (N:=N) (cs:=cs);have h6:=Gn hN;have hY:=I.n;have hT:(cs++ms.map jP).length=cs.length+ms.length:=by simp
 refine ao (fun r=> ?_) (fun r=> ?_)
 . have r:(ms.length:Int)<n:=by simpa using r
   have gd:aq u u.drew:=(aE.refl u).drew;have hI: ∀u' ga fL fP mo,nv w u' n14 N cs ga (ms++ [mo]) fL fP->∃ac,ac<n.toNat - ms.length/\FB w n14 N cs n (i64.wrap ((ms.length:Int)+ (1:Int))) u' ac:=by
    intro u' ga fL fP mo B;refine ⟨_,?_,ms.length+1,ga,ms++ [mo],fL,fP,wN (by omega) (by omega),by omega,rfl,by simp,B⟩;omega
   have hK: ∀y,aq w y->mU N cs<=ms.length->K (.tuple #[.int .i64 (ms.length:Nat),.int .i64 0]) y:=fun y gy hc=>hk y ms.length ht g2 (.inr hc) gy;have D: ∀ {v:World},aq u.drew v->bF v n14 #[.int .i64 N,.slice gp hs'.length gc]:=fun gv=> (I.has.grow gd).grow gv;refine ⟨aq u.drew,aE.refl _,_,_,_,_,fun v gv=> ⟨ad (D gv) rfl,ad (D gv) rfl,trivial⟩,⟨?_,?_⟩⟩
   . refine (uh _).mono ?_;rintro e dk ⟨rfl,a7⟩;refine ⟨_,_,_,rfl,a7,⟨?_,?_⟩⟩
     . exact zE (I17:=FB w n14 N cs n) (k18:=n.toNat - ms.length) I (gd.trans a7) a7 fs hN fl (by omega) hK hI
     . intro c3 dq c7;have hX:=c7.num;exact ⟨a7.trans c7.mod,qL (I17:=FB w n14 N cs n) (k18:=n.toNat - ms.length) I ((gd.trans a7).trans c7.mod) c7.has (by have:=gd.size;have:=a7.size;omega) fs hN fl (by omega) hK hI⟩
   . intro b7 dT cp;have h4:=cp.num;refine ⟨cp.mod,(uh _).mono ?_⟩;rintro e fq ⟨rfl,f0⟩;exact ⟨_,_,_,rfl,cp.mod.trans f0,qL (I17:=FB w n14 N cs n) (k18:=n.toNat - ms.length) I ((gd.trans cp.mod).trans f0) (cp.has.grow f0) (by have:=gd.size;omega) fs hN fl (by omega) hK hI⟩
 . have r:n<=(ms.length:Int):=by simpa using r
   have e:(ms.length:Int)=n:=by omega
   have:=hk u ms.length ht g2 (.inl e) I.g;rw [e] at this;exact this
end
section
variable {w w' w1 w2 u u':World} {N n14:Nat} {cs:List (List Int)} {mo:List Int} {ms:List (List Int)} {hs hs':List Sl} {gp q:Option Addr} {gc m d:Nat}
theorem EG {k n:Int} (hc:V2 (Value.int .i64) w q hs cs) (hm:m=cs.length) (an:dH k cs=true) (O:k=N) (hN:N<=6) (ax:cs.length<=100000) (h0:0<=n) (h1:n<=4096):
 Calls prog jv.id #[.agg #[.int .i64 k,.slice q m d],.int .i64 n] w fun e w'=> ∃r:Nat,e= .returned (.tuple #[.int .i64 r,.int .i64 0])/\(r:Int)<=n/\r<=mU N cs/\((r:Int)=n\/mU N cs<=r)/\aq w w':=by
 subst O hm;refine jv.ah ?_;intro n1 w2 h2;refine ⟨_,_,_,_,⟨ad h2.has rfl,ad h2.has rfl,trivial⟩,(jJ (hc.grow h2.mod) rfl).mono ?_⟩;rintro e w5 ⟨rfl,g5⟩;rw [an];have G5:=h2.mod.trans g5;have B5:=h2.has.grow g5;have gd:aq w5 w5.drew:=(aE.refl w5).drew;have hw:i64.wrap ((cs.length:Int)+n)=(cs.length:Int)+n:=aB (by omega) (by omega);have V:=hc.grow G5;have e1:=h2.num;have sG:=G5.size;have sd:=gd.size;refine ⟨_,rfl,bm rfl (bm (decide_eq_false (by omega)) (bm (decide_eq_false (by omega)) ⟨_,ad B5 rfl,bm (decide_eq_false (by omega)) ⟨_,_,_,ad B5 rfl,?_⟩⟩))⟩;rw [hw];refine bm (decide_eq_false (by omega)) ⟨aq w5.drew,aE.refl _,_,fun v gv=>ad ((B5.grow gd).grow gv) rfl,_,_,_,fun v gv=>ad ((B5.grow gd).grow gv) rfl,?_,?_⟩
 . refine (wM (V.grow gd).h V.n.symm (by omega)).mono ?_;rintro e a' ⟨gp,gc,rfl,ay,Z,f12⟩;refine ⟨_,_,_,rfl,Z,fun n14 ce ac=> ⟨Z.trans ac.mod,?_⟩⟩;refine bq ac.has rfl rfl fun aw ar bk=> ?_;have ar:bF aw n14 #[.int .i64 N,.slice gp hs.length gc]:=ar;have cp:=ac.num;have ap:aq a' aw:=aE.bW ac.mod bk (by omega);have GG:=(gd.trans Z).trans ap;have cm:=Z.size;refine ui (w:=w) (K:=fun v w'=> ∃r:Nat,Ending.returned v= .returned (.tuple #[.int .i64 r,.int .i64 0])/\(r:Int)<=n/\r<=mU N cs/\((r:Int)=n\/mU N cs<=r)/\aq w w') ⟨G5.trans GG,ar,ay.grow ap,by simpa using V.n,fun j Y=> ?_,fun j Y U k O=> ?_,by simp,by simp,by omega,fun k O=> ?_⟩ an hN ax h0 h1 fun u' r r1 r2 r3 gu=> ⟨r,rfl,r1,r2,r3,gu⟩
   . simp only [List.map_nil,List.append_nil] at Y ⊢;exact (V.grow GG).r j Y
   . simp only [List.map_nil,List.append_nil] at Y U;have h3:=(V.grow gd).r j Y;have h4:=h3.2.2.lt U k O;have:=ap.size;refine ⟨by omega,fun e=> ?_,by omega⟩;have:=f12 k e;omega
   . have h5:=f12 k O;have h6:=ay.lt k O;exact ⟨by omega,by omega⟩
 . intro n129 b7 I;refine ⟨I.mod,(wM ((V.grow gd).grow I.mod).h V.n.symm (by omega)).mono ?_⟩;rintro e cb ⟨gp,gc,rfl,az,J,f131⟩;refine ⟨_,_,_,rfl,I.mod.trans J,?_⟩;have b_:=I.num;have b8:=I.size;have b6:=I.has.lt;refine bq (I.has.grow J) rfl rfl fun ag Q X=> ?_;have Q:bF ag n129 #[.int .i64 N,.slice gp hs.length gc]:=Q;have GG:aq w5 ag:=(gd.trans (I.mod.trans J)).then X fun k O (e:k=n129)=>by omega
   have b9:=X.size;have b':=J.size;refine ui (w:=w) (K:=fun v w'=> ∃r:Nat,Ending.returned v= .returned (.tuple #[.int .i64 r,.int .i64 0])/\(r:Int)<=n/\r<=mU N cs/\((r:Int)=n\/mU N cs<=r)/\aq w w') ⟨G5.trans GG,Q,az.keep X fun k O (e:k=n129)=>by have:=f131 k O;omega,by simpa using V.n,fun j Y=> ?_,fun j Y U k O=> ?_,by simp,by simp,by omega,fun k O=> ?_⟩ an hN ax h0 h1 fun u' r r1 r2 r3 gu=> ⟨r,rfl,r1,r2,r3,gu⟩
   . simp only [List.map_nil,List.append_nil] at Y ⊢;exact (V.grow GG).r j Y
   . simp only [List.map_nil,List.append_nil] at Y U;have h3:=(V.grow gd).r j Y;have h4:=h3.2.2.lt U k O;refine ⟨by omega,fun e=> ?_,by omega⟩;have:=f131 k e;omega
   . have h5:=f131 k O;exact ⟨by omega,by omega⟩
def MJ:List (List Int):= [[1,2],[-1,2],[1,-2],[-1,-2]]
theorem HB (w:World):Calls prog cL.id #[] w fun e w'=>e= .returned (.bool true)/\aq w w':=by
 refine cL.ah ?_;intro n1 w2 h2 n3 w4 h4 n5 w6 h6 n7 w8 h8 n9 a6 jQ a7 b' aa;have cp:=aa.num;refine bq aa.has rfl rfl fun Y O bv=> ?_;have O:bF Y a7 #[.int .i64 2,.slice (some ⟨n9,0,none⟩) 4 4]:=O;have J:aq a6 Y:=aE.bW aa.mod bv (by omega);have A1:=((((h2.has.grow h4.mod).grow h6.mod).grow h8.mod).grow jQ.mod).grow J;have A3:=(((h4.has.grow h6.mod).grow h8.mod).grow jQ.mod).grow J;have A5:=((h6.has.grow h8.mod).grow jQ.mod).grow J;have A7:=(h8.has.grow jQ.mod).grow J;have A9:=jQ.has.grow J;have aF: ∀ {a b:Int} {n:Nat} {v:World},bF v n #[.int .i64 a,.int .i64 b]->Vw (Value.int .i64) v (some ⟨n,0,none⟩) [a,b]:=fun {a b n v} h j U=>by
  have:j=0\/j=1:=by simp at U;omega
  rcases this with rfl|rfl
  . exact ⟨_,rfl,ad h rfl⟩
  . exact ⟨_,rfl,ad h rfl⟩
 have V:V2 (Value.int .i64) Y (some ⟨n9,0,none⟩) [⟨some ⟨n1,0,none⟩,2,2⟩,⟨some ⟨n3,0,none⟩,2,2⟩,⟨some ⟨n5,0,none⟩,2,2⟩,⟨some ⟨n7,0,none⟩,2,2⟩] MJ:=by
  refine ⟨fun j U=> ?_,rfl,fun j U=> ?_⟩
  . have:j=0\/j=1\/j=2\/j=3:=by simp at U;omega
    rcases this with rfl|rfl|rfl|rfl<;>exact ⟨_,rfl,ad A9 rfl⟩
  . have:j=0\/j=1\/j=2\/j=3:=by simp [MJ] at U;omega
    rcases this with rfl|rfl|rfl|rfl
    . exact ⟨rfl,by show 2<=maxLen;decide,aF A1⟩
    . exact ⟨rfl,by show 2<=maxLen;decide,aF A3⟩
    . exact ⟨rfl,by show 2<=maxLen;decide,aF A5⟩
    . exact ⟨rfl,by show 2<=maxLen;decide,aF A7⟩
 refine ⟨_,_,_,_,⟨ad O rfl,ad O rfl,trivial⟩,?_⟩;obtain ⟨K,ok,hK,hT⟩:=Mi (N:=2) (uni:=4) (lrn:=4) (by decide) (by decide);refine (uj (N:=2) (cs:=MJ) V rfl (by decide) (by decide) rfl (by decide) ok hK (by rw [hT];decide)).mono ?_;rintro e I ⟨hs,bx⟩;have b3:aq w I:=(((((h2.mod.trans h4.mod).trans h6.mod).trans h8.mod).trans jQ.mod).trans J).trans bx;have hv: ∀ {jO er cf de re dr:Int} {mp pp:Option Addr} {mn mc pn pc:Nat},e= .returned (.tuple #[.agg #[.int .i64 jO,.slice mp mn mc,.slice pp pn pc,.int .i64 cf,.int .i64 de,.int .i64 re,.int .i64 dr],.int .i64 er])->er=0/\jO=2:=by
  intro jO er cf de re dr mp pp mn mc pn pc he;subst he;obtain ⟨rfl,h⟩:=xp hs (aE.refl I:aE (·=I.heap.size) I I) (.inr (Nat.le_refl _));refine ⟨rfl,?_⟩;rcases h with ⟨_,mo,_,_,hm,hh⟩| ⟨rfl,_⟩
  . exfalso;obtain ⟨a,b,rfl⟩: ∃a b,mo= [a,b]:=by
     have:=hm.len
     match mo,this with
     | [a,b],_=>exact ⟨a,b,rfl⟩
    rcases hm.pm a (by simp) with rfl|rfl<;>rcases hm.pm b (by simp) with rfl|rfl<;>exact absurd hh (by decide)
  . rfl
 obtain ⟨jO,mp,mn,mc,pp,pn,pc,cf,de,re,dr,er,rfl,_⟩:=hs;obtain ⟨rfl,rfl⟩:=hv rfl;clear hv;refine ⟨_,_,_,_,_,_,_,_,_,_,_,_,rfl,fun n25 cg X=> ?_⟩;have dk:=X.num;refine bq X.has rfl rfl fun ap Z bk=> ?_;have Z:bF ap n25 #[.int .i64 2,.slice mp mn mc,.slice pp pn pc,.int .i64 cf,.int .i64 de,.int .i64 re,.int .i64 dr]:=Z;have bb:aq I ap:=aE.bW X.mod bk (by omega);intro n28 dc ac aT bY Q;have a8:V2 (Value.int .i64) bY (some ⟨aT,0,none⟩) [⟨some ⟨n28,0,none⟩,2,2⟩] [[1,2]]:=by
  refine ⟨fun j U=> ?_,rfl,fun j U=> ?_⟩
  . have:j=0:=by simpa using U
    subst this;exact ⟨_,rfl,ad Q.has rfl⟩
  . have:j=0:=by simpa using U
    subst this;exact ⟨rfl,by show 2<=maxLen;decide,aF (ac.has.grow Q.mod)⟩
 refine (EG (N:=2) a8 rfl (by decide) rfl (by decide) (by decide) (by decide) (by decide)).mono ?_;rintro e b7 ⟨r,rfl,r1,r2,r3,an⟩;have a':mU 2 [[1,2]]=3:=by decide
 rw [a'] at r2 r3;have hr:r=3:=by omega
 subst hr;refine ⟨_,_,rfl,cj rfl ⟨_,ad (((Z.grow ac.mod).grow Q.mod).grow an) rfl,cj rfl (cj rfl (cj rfl ((uh _).mono ?_)))⟩⟩;rintro e ce ⟨rfl,b4⟩;exact ⟨_,_,_,rfl,rfl,((((b3.trans bb).trans ac.mod).trans Q.mod).trans an).trans b4⟩
end
end Go.Proofs.YtenmibfmhccmiaaGreat.W
