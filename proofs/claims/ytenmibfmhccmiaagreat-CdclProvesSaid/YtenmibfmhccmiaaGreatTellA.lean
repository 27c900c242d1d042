/- Layer 14: a search's proof is a plain one, plain. -/
import Derived.Test.YtenmibfmhccmiaaGreatSolveA
import Derived.Test.YtenmibfmhccmiaaGreatCountA
namespace Go.Proofs.YtenmibfmhccmiaaGreat.W
open Go Go.Fw Go.RowKit Go.SoP Go.LiP Go.LeP
open Go.Proofs.Tryz (prog)
open Go.IntKind (i64)
section
variable {N i T:Nat} {cs:List (List Int)} {pr:List (Bool × List Int)} {k:Int} {c:List Int}
theorem Ai (c:List Int): ∀l:List Sr,(lI c l).map (·.1)=lX c (l.map (·.1))
 | []=>rfl
 |x::l=>by
  unfold lI;rw [List.map_cons,lX];by_cases e:aW x.1=aW c
  . rw [if_pos e,if_pos e]
  . rw [if_neg e,if_neg e,List.map_cons,Ai c l]
theorem DG: ∀i,(ng cs pr i).map (·.1)=wH cs pr i
 |0=>by
  show (vX cs cs.length).map (·.1)=cs;unfold vX;rw [List.map_map];refine List.ext_getElem (by simp) fun i h1 J=> ?_;simp [List.getD,J]
 |i+1=>by
  have I:=DG i;rw [uZ];unfold uJ wH dR;by_cases h:(pr.getD i (false,[])).1=true
  . rw [if_pos h,if_pos h,Ai,I]
  . rw [if_neg h,if_neg h,List.map_append,I];rfl
theorem pX {z:Bool × List Int}:tF z↔z=(false,[]):=by
 obtain ⟨a,b⟩:=z;unfold tF;simp
theorem PE.plain (h:PE cs N pr):FK cs pr:=by
 obtain ⟨t,ht,he,hn⟩:=h.dV;refine ⟨t,⟨by omega,pX.2 he,fun j I e=>hn j I (pX.1 e)⟩,fun i hi=> ?_⟩;rw [DG];exact h.up i (by omega)
theorem BQ.len (h:BQ N c):c.length<=N:=by
 have Q:(c.map bf).Nodup:=by
  unfold List.Nodup;rw [List.pairwise_map];refine List.Pairwise.imp_of_mem (fun {a b} ha hb I e=> ?_) h.nd;have h1:=h.nt a ha;unfold bf at e;have:b=a\/b= -a:=by split at e<;>split at e<;>omega
  rcases this with J|J
  . exact I J.symm
  . rw [J] at hb;exact h1 hb
 have hs:=List.Nodup.length_le_of_subset Q (l₂:=(List.range N).map fun j:Nat=> (j:Int)+1) fun y O=>by
  obtain ⟨x,U,rfl⟩:=List.mem_map.1 O;have:=(h.qX x U).bf;exact List.mem_map.2 ⟨(bf x - 1).toNat,List.mem_range.2 (by omega),by show (((bf x - 1).toNat:Nat):Int)+1=_;omega⟩
 simpa using hs
theorem BQ.cl (h:BQ N c) (hN:N<=4096):iy c=true:=by
 unfold iy;simp only [Bool.and_eq_true,decide_eq_true_eq,List.all_eq_true];exact ⟨fun l hl=>p6 (n:=N) (by omega) (h.qX l hl),Nat.le_trans h.len hN⟩
theorem PE.Ma (h:PE cs N pr) (hN:N<=4096):jP pr=true:=by
 unfold jP;rw [List.all_eq_true];exact fun z I=> (h.qX z I).cl hN
end
section
variable {w w' w1 w2 u u':World} {N n14:Nat} {cs:List (List Int)} {mo:List Int} {ms:List (List Int)} {hs':List Sl} {gp:Option Addr} {gc:Nat}
structure oR (w u:World) (n14 N:Nat) (cs:List (List Int)) (hs':List Sl) (ms:List (List Int)) (gp:Option Addr) (gc:Nat):Prop where
 g:ao w u
 has:bA u n14 #[.int .i64 N,.slice gp hs'.length gc]
 own:Ow Sl.v aI u gp gc hs'
 n:hs'.length=(cs++ms.map kE).length
 r: ∀j,j< (cs++ms.map kE).length->(hs'.getD j Sl.nil).n=((cs++ms.map kE).getD j []).length/\(hs'.getD j Sl.nil).n<=maxLen/\Vw (Value.int .i64) u (hs'.getD j Sl.nil).p ((cs++ms.map kE).getD j [])
 rf: ∀j,j< (cs++ms.map kE).length->(cs++ms.map kE).getD j []≠[]->∀k,aJ (hs'.getD j Sl.nil).p=some k->k≠n14/\aJ gp≠some k/\k<u.heap.size
 nd:ms.Nodup
 pm: ∀m∈ms,xe N m/\iY m cs=true
 z:w.heap.size<=n14
 fr: ∀k,aJ gp=some k->w.heap.size<=k/\k≠n14
theorem oR.grow (I:oR w u n14 N cs hs' ms gp gc) (g:ao u u'):oR w u' n14 N cs hs' ms gp gc:=
 ⟨I.g.trans g,I.has.grow g,I.own.grow g,I.n,fun j O=> ⟨(I.r j O).1,(I.r j O).2.1,(I.r j O).2.2.grow g⟩,fun j O J k Q=> ⟨(I.rf j O J k Q).1,(I.rf j O J k Q).2.1,Nat.lt_of_lt_of_le (I.rf j O J k Q).2.2 g.size⟩,I.nd,I.pm,I.z,I.fr⟩
theorem oR.v2 (I:oR w u n14 N cs hs' ms gp gc):V2 (Value.int .i64) u gp hs' (cs++ms.map kE):=⟨I.own.vw,I.n,I.r⟩
theorem oR.push (I:oR w u n14 N cs hs' ms gp gc) {op:Option Addr} {oc:Nat} (O:da aC u op oc (kE mo)) (hf: ∀b,aJ op=some b->b≠n14/\aJ gp≠some b) (hm:xe N mo) (hN:N<=4096) (hh:iY mo cs=true) (a7:mo ∉ ms) (hb:hs'.length<=1000000)
 {n124:Nat} {Z:World} (h:aY (.cells #[.slice op (kE mo).length oc] 28) u n124 Z) {K:World->Prop}
 (Q: ∀u' bb ap av,oR w u' n14 N cs bb (ms++ [mo]) ap av->K u'):
 ∃V ad ag an,(Builtin.append_ #[22,22] 22 #[.slice gp hs'.length gc,.slice (some (Addr.mk n124 0 none)) 1 1]).run prog Z= .ok (.slice ad ag an) V/\
  ∃U,ah ((Addr.mk n14 0 none).add 1) 0 [.slice ad ag an] V U/\K U:=by
 have J:=I.grow h.mod;have bv:=h.num;have bu:=h.size;have b5:=I.has.lt;refine J.own.mF FG (⟨op,(kE mo).length,oc⟩:Sl) h.has rfl rfl (fun _=>rfl) (by omega) fun V ap av o' m' ay b6=> ?_;have b4:=m'.size;have ar: ∀k,aJ ap=some k->w.heap.size<=k/\k≠n14:=fun k Q=>by
  rcases ay with rfl|rfl
  . exact I.fr k Q
  . have:=aO Q;have:=I.g.size;omega
 have ha:bA V n14 #[.int .i64 N,.slice gp hs'.length gc]:=J.has.keep m' fun e=> (I.fr _ e).2 rfl;refine bO ha rfl rfl fun U a6 X=> ?_;have bx:=X.size;have aa: ∀ {p:Option Addr} {l:List Int},Vw (Value.int .i64) Z p l->(l≠[]->∀k,aJ p=some k->k≠n14/\aJ gp≠some k)->Vw (Value.int .i64) U p l:=fun {p l} v hv=>by
  by_cases e:l= []
  . subst e;exact Vw.nil
  . exact (v.keep m' fun k Q e2=> (hv e k Q).2 e2).keep X fun k Q (e2:k=n14)=> (hv e k Q).1 e2
 have aT:Vw (Value.int .i64) U op (kE mo):=aa (O.grow h.mod).vw fun _ k Q=>hf k Q;have hlen:(cs++ (ms++ [mo]).map kE).length=(cs++ms.map kE).length+1:=by simp;omega
 have gl: ∀j,j< (cs++ms.map kE).length->(cs++ (ms++ [mo]).map kE).getD j []=(cs++ms.map kE).getD j []/\(hs'++ [(⟨op,(kE mo).length,oc⟩:Sl)]).getD j Sl.nil=hs'.getD j Sl.nil:=fun j hj=>by
  have hn:=I.n;refine ⟨?_,?_⟩
  . rw [List.map_append,<- List.append_assoc];simp only [List.getD_eq_getElem?_getD];rw [List.getElem?_append_left hj]
  . simp only [List.getD_eq_getElem?_getD];rw [List.getElem?_append_left (by omega)]
 have gn:(cs++ (ms++ [mo]).map kE).getD (cs++ms.map kE).length []=kE mo/\(hs'++ [(⟨op,(kE mo).length,oc⟩:Sl)]).getD (cs++ms.map kE).length Sl.nil=⟨op,(kE mo).length,oc⟩:=by
  refine ⟨?_,?_⟩
  . rw [List.map_append,<- List.append_assoc];simp only [List.getD_eq_getElem?_getD];rw [List.getElem?_append_right (Nat.le_refl _)];simp
  . rw [<- I.n];simp only [List.getD_eq_getElem?_getD];rw [List.getElem?_append_right (Nat.le_refl _)];simp
 have bk:=(O.grow h.mod).lt;refine Q U (hs'++ [(⟨op,(kE mo).length,oc⟩:Sl)]) ap av ⟨?_,?_,?_,?_,fun j hj=> ?_,fun j hj ac k Q=> ?_,?_,fun m Y=> ?_,I.z,ar⟩
 . refine ((I.g.trans h.mod).then m' fun k Q e=> ?_).then X fun k Q (e:k=n14)=>by have:=I.z;omega
   have:=(I.fr k e).1;omega
 . rw [List.length_append,List.length_singleton];exact a6
 . exact o'.keep X fun k Q (e:k=n14)=> (ar k Q).2 e
 . rw [hlen,List.length_append,List.length_singleton,I.n]
 . rw [hlen] at hj;by_cases e:j< (cs++ms.map kE).length
   . rw [(gl j e).1,(gl j e).2];obtain ⟨r1,r2,r3⟩:=J.r j e;exact ⟨r1,r2,aa r3 fun ac k Q=> ⟨(J.rf j e ac k Q).1,(J.rf j e ac k Q).2.1⟩⟩
   . have e:j=(cs++ms.map kE).length:=by omega
     subst e;rw [gn.1,gn.2];refine ⟨rfl,?_,aT⟩;show (kE mo).length<=maxLen;rw [t_,hm.len];unfold maxLen;omega
 . rw [hlen] at hj;by_cases e:j< (cs++ms.map kE).length
   . rw [(gl j e).1] at ac;rw [(gl j e).2] at Q;obtain ⟨r1,r2,r3⟩:=J.rf j e ac k Q;refine ⟨r1,?_,by omega⟩;rcases ay with rfl|rfl
     . exact r2
     . intro e2;have:=aO e2;omega
   . have e:j=(cs++ms.map kE).length:=by omega
     subst e;rw [gn.2] at Q;have Q:aJ op=some k:=Q;obtain ⟨r1,r2⟩:=hf k Q;have:=bk k Q;refine ⟨r1,?_,by omega⟩;rcases ay with rfl|rfl
     . exact r2
     . intro e2;have:=aO e2;omega
 . exact ub I.nd a7
 . rcases List.mem_append.1 Y with Y|Y
   . exact I.pm m Y
   . rw [List.mem_singleton] at Y;subst Y;exact ⟨hm,hh⟩
theorem IN {q:Option Addr} {n:Nat} (v:Vw (Value.int .i64) w q mo) (hn:n=mo.length) (hm:xe N mo) (hN:N<=4096) {K:Option Addr->Nat->Nat->World->Prop}
 (hk: ∀op oc u,da aC u op oc (kE mo)->(∀b,aJ op=some b->w.heap.size<=b)->ao w u->K op (kE mo).length oc u):
 ∃ag:Option Addr->Nat->Nat->Int->World->Nat->Prop,(∃X,ag none 0 0 0 w X)/\
  ∀ (I:Option Addr) (J:Nat) (O:Nat) (U:Int) (Y:World) (X:Nat) (_:Fr),ag I J O U Y X->
  aG (decide (U< (n:Int)))
   (aP q n U 1 fun ay=>
     ∃aw,Y.cell? ay=some (.int .i64 aw)/\
     ∀ad an,aY (.cells #[.int .i64 (i64.wrap ((i64.wrap (0 - aw))* (i64.wrap (U+ (1:Int)))))] 3) Y ad an->
     ∃ap ac aa Z,(Builtin.append_ #[28,28] 28 #[.slice I J O,.slice (some (Addr.mk ad 0 none)) 1 1]).run prog an= .ok (.slice ac aa Z) ap/\
     ∃av,av<X/\ag ac aa Z (i64.wrap (U+ (1:Int))) ap av)
   (K I J O Y):=by
 have hl:=hm.len;have ar: ∀t,t<mo.length->(kE mo).take (t+1)=(kE mo).take t++ [-(mo.getD t 0)* ((t:Int)+1)]:=fun t ht=>by
  rw [List.take_add_one];congr 1;rw [List.getElem?_eq_getElem (by rw [t_];exact ht)];simp [kE]
 refine ⟨fun p k c V u z=> ∃t:Nat,V=t/\t<=mo.length/\z=mo.length - t/\k=((kE mo).take t).length/\da aC u p c ((kE mo).take t)/\(∀b,aJ p=some b->w.heap.size<=b)/\ao w u,
  ⟨_,0,rfl,Nat.zero_le _,rfl,rfl,Ow.nil _ _ _,fun b hb=>by simp [aJ] at hb,aF.refl _⟩,?_⟩
 rintro p k c V u z _ ⟨t,rfl,ht,rfl,rfl,o,fr,G⟩;refine aj (fun r=> ?_) (fun r=> ?_)
 . have r:t<mo.length:=by simp at r;omega
   refine (v.grow G).ix 0 (by omega) hn (by omega) fun a ha=> ⟨_,ha,fun ad an Q=> ?_⟩
   rw [Int.toNat_natCast] at Q;have a':=Q.num;have sG:=G.size;have hy:=hm.at_ (i:=t) (by omega);have ew:i64.wrap ((i64.wrap (0 - mo.getD t 0))* (i64.wrap ((t:Int)+1)))= -(mo.getD t 0)* ((t:Int)+1):=by
    have e1:i64.wrap (0 - mo.getD t 0)= -(mo.getD t 0):=by rw [aD (by omega) (by omega)];omega
    have e2:i64.wrap ((t:Int)+1)=(t:Int)+1:=aD (by omega) (by omega);rw [e1,e2];rcases hy with e|e<;>rw [e]<;>exact aD (by omega) (by omega)
   rw [ew] at Q;have a7:((kE mo).take t).length<=t:=List.length_take_le t _;refine (o.grow Q.mod).mF rM _ Q.has rfl rfl eV (by omega) fun ap p' c' o' m' ax hs'=> ?_;refine ⟨_,?_,t+1,wN (by omega) (by omega),by omega,rfl,by rw [ar t r];simp,by rw [ar t r];exact o',fun b hb=> ?_,(G.trans Q.mod).then m' fun b hb e=> ?_⟩
   . omega
   . rcases ax with rfl|rfl
     . exact fr b hb
     . have:=aO hb;have:=Q.size;omega
   . have:=fr b e;omega
 . have r:t=mo.length:=by simp at r;omega
   subst r;rw [List.take_of_length_le (by rw [t_];exact Nat.le_refl _)] at o ⊢;exact hk _ _ _ o fr G
end
section
variable {w w' w1 w2 u u':World} {N n14:Nat} {cs:List (List Int)} {mo:List Int} {ms:List (List Int)} {hs':List Sl} {gp:Option Addr} {gc:Nat}
def MZ (y:World) (N:Nat) (cs:List (List Int)) (ke I:Int) (mp:Option Addr) (J:Nat):Prop:=
 I=0/\((ke=1/\∃mo:List Int,J=mo.length/\Vw (Value.int .i64) y mp mo/\xe N mo/\iY mo cs=true)\/(ke=2/\∀v,Km N v->¬∀d∈cs,xM v d))
theorem wq {nS t k18:Nat} {y:World} {I17:Int->World->Nat->Prop} {K:Value->World->Prop} {ke er:Int} {mp:Option Addr} {mn mc:Nat} {v3 v4 v5 v6 v7:Value} (I:oR w u n14 N cs hs' ms gp gc) (g:ao u y) (hN:N<=4096) (hb:hs'.length<=1000000)
 (H:bA y nS #[.int .i64 ke,.slice mp mn mc,v3,v4,v5,v6,v7]) (M:MZ y N (cs++ms.map kE) ke er mp mn)
 (hK:ao w y->og N cs<=ms.length->K (.tuple #[.int .i64 t,.int .i64 0]) y)
 (hI: ∀u' a7 a_ aT mo,oR w u' n14 N cs a7 (ms++ [mo]) a_ aT->∃Y,Y<k18/\I17 (i64.wrap ((t:Int)+ (1:Int))) u' Y):
 aG (er !=(0:Int))
       (K (.tuple #[.int .i64 (t:Int),.int .i64 0]) y)
       (∃bu,y.cell? ((Addr.mk nS 0 none).add 0)=some (.int .i64 bu)/\
       aG (bu !=(1:Int))
       (K (.tuple #[.int .i64 (t:Int),.int .i64 0]) y)
       (∃ay Z bk,y.cell? ((Addr.mk nS 0 none).add 1)=some (.slice ay Z bk)/\
         ∃a8:Option Addr->Nat->Nat->Int->World->Nat->Prop,(∃ac,a8 none 0 0 0 y ac)/\
         ∀ (Q:Option Addr) (U:Nat) (V:Nat) (X:Int) (aa:World) (ac:Nat) (_:Fr),a8 Q U V X aa ac->
         aG (decide (X< (Z:Int)))
          (aP ay Z X 1 fun b7=>
            ∃b3,aa.cell? b7=some (.int .i64 b3)/\
            ∀bb bx,aY (.cells #[.int .i64 (i64.wrap ((i64.wrap (0 - b3))* (i64.wrap (X+ (1:Int)))))] 3) aa bb bx->
            ∃bY ax an ag,(Builtin.append_ #[28,28] 28 #[.slice Q U V,.slice (some (Addr.mk bb 0 none)) 1 1]).run prog bx= .ok (.slice ax an ag) bY/\
            ∃bv,bv<ac/\a8 ax an ag (i64.wrap (X+ (1:Int))) bY bv)
          (∃av aw ar,aa.cell? ((Addr.mk n14 0 none).add 1)=some (.slice av aw ar)/\
            ∀a6 a',aY (.cells #[.slice Q U V] 28) aa a6 a'->
            ∃bc az ad ap,(Builtin.append_ #[22,22] 22 #[.slice av aw ar,.slice (some (Addr.mk a6 0 none)) 1 1]).run prog a'= .ok (.slice az ad ap) bc/\
            ∃b4,ah ((Addr.mk n14 0 none).add 1) 0 [.slice az ad ap] bc b4/\
            ∃Y,Y<k18/\I17 (i64.wrap ((t:Int)+ (1:Int))) b4 Y))):=by
 have J:=I.grow g;obtain ⟨rfl,M⟩:=M;refine bm rfl ⟨_,ae H rfl,?_⟩;rcases M with ⟨rfl,mo,rfl,v,hm,hh⟩| ⟨rfl,hu⟩
 . refine bm rfl ⟨_,_,_,ae H rfl,IN v rfl hm hN fun op oc u' O fr G=> ?_⟩;have A:=J.grow G;have b_: ∀m∈ms,xe N m:=fun m hm=> (I.pm m hm).1;obtain ⟨h1,h2⟩:=(yq hN hm b_).1 hh;refine ⟨_,_,_,ae A.has rfl,fun a6 a' b5=> ?_⟩;refine A.push O (fun b hb=> ?_) hm hN h1 h2 hb b5 fun u2 a7 a_ aT B=>hI u2 a7 a_ aT _ B;have h3:=fr b hb;have h4:=J.has.lt;refine ⟨by omega,fun e=> ?_⟩;have:=J.own.lt b e;omega
 . refine cu rfl (hK J.g ?_);refine KW fun m hm hh=>Classical.byContradiction fun hn=> ?_;have h1:=Gz (by omega) hu hm;rw [(yq hN hm fun m hm=> (I.pm m hm).1).2 ⟨hh,hn⟩] at h1;exact absurd h1 (by decide)
theorem yO {z M:Nat} {y:World} {I:Nat} {ke O cf de re dr:Int} {mp pp:Option Addr} {V mc pn pc:Nat} (h:BD z w N M cs (-1) (.returned (.tuple #[.agg #[.int .i64 ke,.slice mp V mc,.slice pp pn pc,.int .i64 cf,.int .i64 de,.int .i64 re,.int .i64 dr],.int .i64 O]))) (m:aF (·=I) w y) (hn:I<z\/w.heap.size<=I):MZ y N cs ke O mp V:=by
 obtain ⟨U,av,ap,Z,X,ag,ac,aa,aT,ar,a7,an,he,_,_,_,_,hh⟩:=h;simp only [Ending.returned.injEq,Value.tuple.injEq,Array.mk.injEq,List.cons.injEq,Value.agg.injEq,Value.int.injEq,Value.slice.injEq,and_true,true_and] at he;obtain ⟨⟨rfl,⟨rfl,rfl,rfl⟩,⟨rfl,rfl,rfl⟩,rfl,rfl,rfl,rfl⟩,rfl⟩:=he;rcases hh with ⟨_,_,_,_,h0,_⟩| ⟨rfl,rfl,_,_,mo,h1,Q,h3,Y,h5,h6⟩| ⟨rfl,rfl,_,_,h1,_⟩
 . exact absurd h0 (by decide)
 . refine ⟨rfl,.inl ⟨rfl,mo,h1,?_,⟨Y,h5⟩,oD.2 h6⟩⟩;by_cases e:mo= []
   . subst e;exact Vw.nil
   . refine Q.keep m fun k J (e2:k=I)=> ?_;have:=h3 k J;have:=Q.lt e k J;omega
 . exact ⟨rfl,.inr ⟨rfl,h1⟩⟩
theorem vE (w:World):Calls prog lS.id #[] w fun e w'=>e= .returned (.agg #[.int .i64 (-1),.int .i64 64,.int .i64 200])/\ao w w':=by
 refine lS.ak ?_;intro O w2 J;refine bj J.has rfl rfl fun w3 I m3=> ?_;have I:bA w3 O #[.int .i64 (-1),.int .i64 64,.int .i64 200]:=I;exact ⟨_,_,_,⟨ae I rfl,ae I rfl,ae I rfl,trivial⟩,rfl,aF.bV J.mod m3 (by have:=J.num;omega)⟩
theorem Io (h:N<=6):2 ^ N<=64:=by
 have:N=0\/N=1\/N=2\/N=3\/N=4\/N=5\/N=6:=by omega
 rcases this with rfl|rfl|rfl|rfl|rfl|rfl|rfl<;>decide
theorem JQ:og N cs<=2 ^ N:=by
 unfold og;have:=List.countP_le_length (p:=fun k=>iY (io N k) cs) (l:=List.range (2 ^ N));simpa using this
theorem E1 (J:ff N cs=true) (hN:N<=6) (U:cs.length<=100000) (Q:ms.length<=64) (O: ∀m∈ms,xe N m):ff N (cs++ms.map kE)=true:=by
 unfold ff at*
 simp only [Bool.and_eq_true,decide_eq_true_eq,List.all_eq_true] at J ⊢;obtain ⟨⟨h1,X,Y⟩,V⟩:=J;refine ⟨⟨h1,X,by simp;omega⟩,fun c I=> ?_⟩;rcases List.mem_append.1 I with I|I
 . exact V c I
 . obtain ⟨m,hm,rfl⟩:=List.mem_map.1 I;have hp:=O m hm;refine ⟨?_,fun l hl=> ?_⟩
   . unfold iy;simp only [Bool.and_eq_true,decide_eq_true_eq,List.all_eq_true];exact ⟨fun l hl=>p6 (n:=N) (by omega) (Ck hp hl),by rw [t_,hp.len];omega⟩
   . exact (Ck hp hl).bf.2
theorem yI (I:oR w u n14 N cs hs' ms gp gc) (g:ao u u') (U:ff N cs=true) (hN:N<=6) (Q:cs.length<=100000) (O:ms.length<=64):
 Calls prog jS.id #[.agg #[.int .i64 N,.slice gp hs'.length gc],.agg #[.int .i64 (-1),.int .i64 64,.int .i64 200]] u' fun e w'=>BD u'.heap.size w' N 62000 (cs++ms.map kE) (-1) e/\ao u' w':=by
 have J:=I.grow g;obtain ⟨K,ok,X,V⟩:=Ok (N:=N) (uni:=64) (lrn:=200) (by omega) (by decide);rw [<- V];refine vO J.v2 J.n (E1 U hN Q O fun m hm=> (I.pm m hm).1) (by decide) rfl (by omega) ok X ?_;have:(cs++ms.map kE).length=cs.length+ms.length:=by simp
 omega
def Gg (w:World) (n14 N:Nat) (cs:List (List Int)) (n:Int):Int->World->Nat->Prop:=fun v u z=>
 ∃ (t:Nat) (hs':List Sl) (ms:List (List Int)) (gp:Option Addr) (gc:Nat),v=t/\(t:Int)<=n/\z=n.toNat - t/\ms.length=t/\oR w u n14 N cs hs' ms gp gc
theorem Bz {k18:Nat} {v v0:World} {I17:Int->World->Nat->Prop} {K:Value->World->Prop} (I:oR w u n14 N cs hs' ms gp gc) (g:ao u v) (g0:ao v0 v) (dp:ff N cs=true) (hN:N<=6) (dk:cs.length<=100000) (c3:ms.length<=64)
 (hK: ∀y,ao w y->og N cs<=ms.length->K (.tuple #[.int .i64 (ms.length:Nat),.int .i64 0]) y)
 (hI: ∀u' dc di c2 mo,oR w u' n14 N cs dc (ms++ [mo]) di c2->∃Y,Y<k18/\I17 (i64.wrap ((ms.length:Int)+ (1:Int))) u' Y):
 Calls prog 37 #[.agg #[.int .i64 (N:Int),.slice gp hs'.length gc],.agg #[.int .i64 (-1),.int .i64 64,.int .i64 200]] v fun e ac=> ∃b8 a_ ay aw ax a8 ar b6 cb b7 b5 b4,e= .returned (.tuple #[.agg #[.int .i64 b8,.slice a_ ay aw,.slice ax a8 ar,.int .i64 b6,.int .i64 cb,.int .i64 b7,.int .i64 b5],.int .i64 b4])/\
       ∀V ag,aY (.cells #[.int .i64 0,.slice none 0 0,.slice none 0 0,.int .i64 0,.int .i64 0,.int .i64 0,.int .i64 0] 58) ac V ag->
       (ao v0) ag/\∃U,ah (Addr.mk V 0 none) 0 [.int .i64 b8,.slice a_ ay aw,.slice ax a8 ar,.int .i64 b6,.int .i64 cb,.int .i64 b7,.int .i64 b5] ag U/\
       aG (b4 !=(0:Int))
       (K (.tuple #[.int .i64 (ms.length:Int),.int .i64 0]) U)
       (∃b',U.cell? ((Addr.mk V 0 none).add 0)=some (.int .i64 b')/\
       aG (b' !=(1:Int))
       (K (.tuple #[.int .i64 (ms.length:Int),.int .i64 0]) U)
       (∃bc Z b_,U.cell? ((Addr.mk V 0 none).add 1)=some (.slice bc Z b_)/\
         ∃bu:Option Addr->Nat->Nat->Int->World->Nat->Prop,(∃ad,bu none 0 0 0 U ad)/\
         ∀ (J:Option Addr) (O:Nat) (Q:Nat) (X:Int) (aa:World) (ad:Nat) (_:Fr),bu J O Q X aa ad->
         aG (decide (X< (Z:Int)))
          (aP bc Z X 1 fun dd=>
            ∃cT,aa.cell? dd=some (.int .i64 cT)/\
            ∀bx ce,aY (.cells #[.int .i64 (i64.wrap ((i64.wrap (0 - cT))* (i64.wrap (X+ (1:Int)))))] 3) aa bx ce->
            ∃cm bb az av,(Builtin.append_ #[28,28] 28 #[.slice J O Q,.slice (some (Addr.mk bx 0 none)) 1 1]).run prog ce= .ok (.slice bb az av) cm/\
            ∃cc,cc<ad/\bu bb az av (i64.wrap (X+ (1:Int))) cm cc)
          (∃a7 a' a6,aa.cell? ((Addr.mk n14 0 none).add 1)=some (.slice a7 a' a6)/\
            ∀b3 c0,aY (.cells #[.slice J O Q] 28) aa b3 c0->
            ∃bY bk ap aT,(Builtin.append_ #[22,22] 22 #[.slice a7 a' a6,.slice (some (Addr.mk b3 0 none)) 1 1]).run prog c0= .ok (.slice bk ap aT) bY/\
            ∃c1,ah ((Addr.mk n14 0 none).add 1) 0 [.slice bk ap aT] bY c1/\
            ∃Y,Y<k18/\I17 (i64.wrap ((ms.length:Int)+ (1:Int))) c1 Y))):=by
 have d8:=I.n;have du:(cs++ms.map kE).length=cs.length+ms.length:=by simp
 refine (yI I g dp hN dk c3).mono ?_;rintro e ac ⟨hs,cp⟩;have hs':=hs;obtain ⟨ke,mp,mn,mc,pp,pn,pc,cf,de,re,dr,er,rfl,_⟩:=hs';refine ⟨_,_,_,_,_,_,_,_,_,_,_,_,rfl,fun V ag an=> ?_⟩;refine ⟨(g0.trans cp).trans an.mod,?_⟩;refine bj an.has rfl rfl fun U bv c7=> ?_;have bv:bA U V #[.int .i64 ke,.slice mp mn mc,.slice pp pn pc,.int .i64 cf,.int .i64 de,.int .i64 re,.int .i64 dr]:=bv;have d9:=an.num;have cg:ao ac U:=aF.bV an.mod c7 (by omega);have mm:aF (·=V) ac U:=cg.mono fun _ _ e=>e.elim;exact wq I (g.trans (cp.trans cg)) (by omega) (by omega) bv (yO hs mm (.inr (by omega))) (hK _) hI
theorem rV {nS k18:Nat} {v:World} {I17:Int->World->Nat->Prop} {K:Value->World->Prop} (I:oR w u n14 N cs hs' ms gp gc) (g:ao u v) (hS:bA v nS #[.int .i64 0,.slice none 0 0,.slice none 0 0,.int .i64 0,.int .i64 0,.int .i64 0,.int .i64 0]) (hz:u.heap.size<=nS) (di:ff N cs=true) (hN:N<=6) (dd:cs.length<=100000) (c1:ms.length<=64)
 (hK: ∀y,ao w y->og N cs<=ms.length->K (.tuple #[.int .i64 (ms.length:Nat),.int .i64 0]) y)
 (hI: ∀u' c2 c7 c0 mo,oR w u' n14 N cs c2 (ms++ [mo]) c7 c0->∃X,X<k18/\I17 (i64.wrap ((ms.length:Int)+ (1:Int))) u' X):
 Calls prog 37 #[.agg #[.int .i64 (N:Int),.slice gp hs'.length gc],.agg #[.int .i64 (-1),.int .i64 64,.int .i64 200]] v fun e cb=> ∃b7 a6 ap an az aw a8 bu b' b3 b5 ce,e= .returned (.tuple #[.agg #[.int .i64 b7,.slice a6 ap an,.slice az aw a8,.int .i64 bu,.int .i64 b',.int .i64 b3,.int .i64 b5],.int .i64 ce])/\
       ∃U,ah (Addr.mk nS 0 none) 0 [.int .i64 b7,.slice a6 ap an,.slice az aw a8,.int .i64 bu,.int .i64 b',.int .i64 b3,.int .i64 b5] cb U/\
       aG (ce !=(0:Int))
       (K (.tuple #[.int .i64 (ms.length:Int),.int .i64 0]) U)
       (∃b8,U.cell? ((Addr.mk nS 0 none).add 0)=some (.int .i64 b8)/\
       aG (b8 !=(1:Int))
       (K (.tuple #[.int .i64 (ms.length:Int),.int .i64 0]) U)
       (∃aT Z cT,U.cell? ((Addr.mk nS 0 none).add 1)=some (.slice aT Z cT)/\
         ∃bb:Option Addr->Nat->Nat->Int->World->Nat->Prop,(∃aa,bb none 0 0 0 U aa)/\
         ∀ (J:Option Addr) (Q:Nat) (O:Nat) (Y:Int) (V:World) (aa:Nat) (_:Fr),bb J Q O Y V aa->
         aG (decide (Y< (Z:Int)))
          (aP aT Z Y 1 fun c3=>
            ∃cc,V.cell? c3=some (.int .i64 cc)/\
            ∀cm bx,aY (.cells #[.int .i64 (i64.wrap ((i64.wrap (0 - cc))* (i64.wrap (Y+ (1:Int)))))] 3) V cm bx->
            ∃bY ac ag a_,(Builtin.append_ #[28,28] 28 #[.slice J Q O,.slice (some (Addr.mk cm 0 none)) 1 1]).run prog bx= .ok (.slice ac ag a_) bY/\
            ∃bk,bk<aa/\bb ac ag a_ (i64.wrap (Y+ (1:Int))) bY bk)
          (∃ax ar ad,V.cell? ((Addr.mk n14 0 none).add 1)=some (.slice ax ar ad)/\
            ∀cp b6,aY (.cells #[.slice J Q O] 28) V cp b6->
            ∃b_ ay a7 av,(Builtin.append_ #[22,22] 22 #[.slice ax ar ad,.slice (some (Addr.mk cp 0 none)) 1 1]).run prog b6= .ok (.slice ay a7 av) b_/\
            ∃cg,ah ((Addr.mk n14 0 none).add 1) 0 [.slice ay a7 av] b_ cg/\
            ∃X,X<k18/\I17 (i64.wrap ((ms.length:Int)+ (1:Int))) cg X))):=by
 have d4:=I.n;have dk:(cs++ms.map kE).length=cs.length+ms.length:=by simp
 refine (yI I g di hN dd c1).mono ?_;rintro e cb ⟨hs,b4⟩;have hs':=hs;obtain ⟨ke,mp,mn,mc,pp,pn,pc,cf,de,re,dr,er,rfl,_⟩:=hs';refine ⟨_,_,_,_,_,_,_,_,_,_,_,_,rfl,?_⟩;refine bj (hS.grow b4) rfl rfl fun U a' bv=> ?_;have a':bA U nS #[.int .i64 ke,.slice mp mn mc,.slice pp pn pc,.int .i64 cf,.int .i64 de,.int .i64 re,.int .i64 dr]:=a';have dc:ao u U:=(g.trans b4).then bv fun k hk (e:k=nS)=>by omega
 exact wq I dc (by omega) (by omega) a' (yO hs bv (.inl hS.lt)) (hK _) hI
theorem u9 {n:Int} (I0:oR w u n14 N cs hs' [] gp gc) (fT:ff N cs=true) (hN:N<=6) (fq:cs.length<=100000) (h0:0<=n) (h1:n<=4096) {K:Value->World->Prop}
 (hk: ∀u' (r:Nat),(r:Int)<=n->r<=og N cs->((r:Int)=n\/og N cs<=r)->ao w u'->K (.tuple #[.int .i64 r,.int .i64 0]) u'):
 ∃I17:Int->World->Nat->Prop,(∃k18,I17 0 u k18)/\
  ∀ (ac:Int) (bv:World) (k18:Nat) (_:Fr),I17 ac bv k18->
  aG (decide (ac<n))
   (∃av:World->Prop,av bv.drew/\
     ∃dc ay aw az,jB av (Addr.mk n14 0 none) [.int .i64 dc,.slice ay aw az]/\
     (Calls prog 39 #[] bv.drew fun e c2=> ∃fl fj fi,e= .returned (.agg #[.int .i64 fl,.int .i64 fj,.int .i64 fi])/\
     av c2/\(Calls prog 37 #[.agg #[.int .i64 dc,.slice ay aw az],.agg #[.int .i64 fl,.int .i64 fj,.int .i64 fi]] c2 fun e hB=> ∃gm e5 d8 ez d4 e4 es g3 hh g8 g1 g0,e= .returned (.tuple #[.agg #[.int .i64 gm,.slice e5 d8 ez,.slice d4 e4 es,.int .i64 g3,.int .i64 hh,.int .i64 g8,.int .i64 g1],.int .i64 g0])/\
     ∀c3 fA,aY (.cells #[.int .i64 0,.slice none 0 0,.slice none 0 0,.int .i64 0,.int .i64 0,.int .i64 0,.int .i64 0] 58) hB c3 fA->
     av fA/\∃a6,ah (Addr.mk c3 0 none) 0 [.int .i64 gm,.slice e5 d8 ez,.slice d4 e4 es,.int .i64 g3,.int .i64 hh,.int .i64 g8,.int .i64 g1] fA a6/\
     aG (g0 !=(0:Int))
     (K (.tuple #[.int .i64 ac,.int .i64 0]) a6)
     (∃hd,a6.cell? ((Addr.mk c3 0 none).add 0)=some (.int .i64 hd)/\
     aG (hd !=(1:Int))
     (K (.tuple #[.int .i64 ac,.int .i64 0]) a6)
     (∃en cT gs,a6.cell? ((Addr.mk c3 0 none).add 1)=some (.slice en cT gs)/\
       ∃fm:Option Addr->Nat->Nat->Int->World->Nat->Prop,(∃dd,fm none 0 0 0 a6 dd)/\
       ∀ (U:Option Addr) (X:Nat) (Y:Nat) (a8:Int) (c0:World) (dd:Nat) (_:Fr),fm U X Y a8 c0 dd->
       aG (decide (a8< (cT:Int)))
        (aP en cT a8 1 fun hJ=>
          ∃gS,c0.cell? hJ=some (.int .i64 gS)/\
          ∀f1 gz,aY (.cells #[.int .i64 (i64.wrap ((i64.wrap (0 - gS))* (i64.wrap (a8+ (1:Int)))))] 3) c0 f1 gz->
          ∃ho e9 d9 et,(Builtin.append_ #[28,28] 28 #[.slice U X Y,.slice (some (Addr.mk f1 0 none)) 1 1]).run prog gz= .ok (.slice e9 d9 et) ho/\
          ∃gu,gu<dd/\fm e9 d9 et (i64.wrap (a8+ (1:Int))) ho gu)
        (∃ei ej ec,c0.cell? ((Addr.mk n14 0 none).add 1)=some (.slice ei ej ec)/\
          ∀gW hw,aY (.cells #[.slice U X Y] 28) c0 gW hw->
          ∃ga ep er eb,(Builtin.append_ #[22,22] 22 #[.slice ei ej ec,.slice (some (Addr.mk gW 0 none)) 1 1]).run prog hw= .ok (.slice ep er eb) ga/\
          ∃hx,ah ((Addr.mk n14 0 none).add 1) 0 [.slice ep er eb] ga hx/\
          ∃ad,ad<k18/\I17 (i64.wrap (ac+ (1:Int))) hx ad))))/\
   (∀cp c7,aY (.cells #[.int .i64 0,.slice none 0 0,.slice none 0 0,.int .i64 0,.int .i64 0,.int .i64 0,.int .i64 0] 58) c2 cp c7->
     av c7/\Calls prog 37 #[.agg #[.int .i64 dc,.slice ay aw az],.agg #[.int .i64 fl,.int .i64 fj,.int .i64 fi]] c7 fun e hH=> ∃gl e' eA ey e6 eN ek gb gn gT g5 gw,e= .returned (.tuple #[.agg #[.int .i64 gl,.slice e' eA ey,.slice e6 eN ek,.int .i64 gb,.int .i64 gn,.int .i64 gT,.int .i64 g5],.int .i64 gw])/\
     ∃aT,ah (Addr.mk cp 0 none) 0 [.int .i64 gl,.slice e' eA ey,.slice e6 eN ek,.int .i64 gb,.int .i64 gn,.int .i64 gT,.int .i64 g5] hH aT/\
     aG (gw !=(0:Int))
     (K (.tuple #[.int .i64 ac,.int .i64 0]) aT)
     (∃g7,aT.cell? ((Addr.mk cp 0 none).add 0)=some (.int .i64 g7)/\
     aG (g7 !=(1:Int))
     (K (.tuple #[.int .i64 ac,.int .i64 0]) aT)
     (∃e7 b3 gV,aT.cell? ((Addr.mk cp 0 none).add 1)=some (.slice e7 b3 gV)/\
       ∃fk:Option Addr->Nat->Nat->Int->World->Nat->Prop,(∃dp,fk none 0 0 0 aT dp)/\
       ∀ (V:Option Addr) (aa:Nat) (Z:Nat) (bY:Int) (cg:World) (dp:Nat) (_:Fr),fk V aa Z bY cg dp->
       aG (decide (bY< (b3:Int)))
        (aP e7 b3 bY 1 fun hE=>
          ∃gr,cg.cell? hE=some (.int .i64 gr)/\
          ∀gJ g4,aY (.cells #[.int .i64 (i64.wrap ((i64.wrap (0 - gr))* (i64.wrap (bY+ (1:Int)))))] 3) cg gJ g4->
          ∃gf eu ew fd,(Builtin.append_ #[28,28] 28 #[.slice V aa Z,.slice (some (Addr.mk gJ 0 none)) 1 1]).run prog g4= .ok (.slice eu ew fd) gf/\
          ∃f',f'<dp/\fk eu ew fd (i64.wrap (bY+ (1:Int))) gf f')
        (∃eR d5 du,cg.cell? ((Addr.mk n14 0 none).add 1)=some (.slice eR d5 du)/\
          ∀gP g6,aY (.cells #[.slice V aa Z] 28) cg gP g6->
          ∃g' ed fa d',(Builtin.append_ #[22,22] 22 #[.slice eR d5 du,.slice (some (Addr.mk gP 0 none)) 1 1]).run prog g6= .ok (.slice ed fa d') g'/\
          ∃gA,ah ((Addr.mk n14 0 none).add 1) 0 [.slice ed fa d'] g' gA/\
          ∃ad,ad<k18/\I17 (i64.wrap (ac+ (1:Int))) gA ad)))))/\
   (∀cb di,aY (.cells #[.int .i64 0,.slice none 0 0,.slice none 0 0,.int .i64 0,.int .i64 0,.int .i64 0,.int .i64 0] 58) bv.drew cb di->
     av di/\Calls prog 39 #[] di fun e fs=> ∃g9 g2 hg,e= .returned (.agg #[.int .i64 g9,.int .i64 g2,.int .i64 hg])/\
     av fs/\Calls prog 37 #[.agg #[.int .i64 dc,.slice ay aw az],.agg #[.int .i64 g9,.int .i64 g2,.int .i64 hg]] fs fun e hF=> ∃e8 b5 bc b6 a_ ce c1 el e1 dw eL fb,e= .returned (.tuple #[.agg #[.int .i64 e8,.slice b5 bc b6,.slice a_ ce c1,.int .i64 el,.int .i64 e1,.int .i64 dw,.int .i64 eL],.int .i64 fb])/\
     ∃ag,ah (Addr.mk cb 0 none) 0 [.int .i64 e8,.slice b5 bc b6,.slice a_ ce c1,.int .i64 el,.int .i64 e1,.int .i64 dw,.int .i64 eL] hF ag/\
     aG (fb !=(0:Int))
     (K (.tuple #[.int .i64 ac,.int .i64 0]) ag)
     (∃eg,ag.cell? ((Addr.mk cb 0 none).add 0)=some (.int .i64 eg)/\
     aG (eg !=(1:Int))
     (K (.tuple #[.int .i64 ac,.int .i64 0]) ag)
     (∃cc ar fv,ag.cell? ((Addr.mk cb 0 none).add 1)=some (.slice cc ar fv)/\
       ∃bx:Option Addr->Nat->Nat->Int->World->Nat->Prop,(∃ax,bx none 0 0 0 ag ax)/\
       ∀ (J:Option Addr) (O:Nat) (Q:Nat) (ap:Int) (an:World) (ax:Nat) (_:Fr),bx J O Q ap an ax->
       aG (decide (ap< (ar:Int)))
        (aP cc ar ap 1 fun a117=>
          ∃ea,an.cell? a117=some (.int .i64 ea)/\
          ∀n119 ef,aY (.cells #[.int .i64 (i64.wrap ((i64.wrap (0 - ea))* (i64.wrap (ap+ (1:Int)))))] 3) an n119 ef->
          ∃e3 b7 b_ bb,(Builtin.append_ #[28,28] 28 #[.slice J O Q,.slice (some (Addr.mk n119 0 none)) 1 1]).run prog ef= .ok (.slice b7 b_ bb) e3/\
          ∃e2,e2<ax/\bx b7 b_ bb (i64.wrap (ap+ (1:Int))) e3 e2)
        (∃a' bk b',an.cell? ((Addr.mk n14 0 none).add 1)=some (.slice a' bk b')/\
          ∀n124 eH,aY (.cells #[.slice J O Q] 28) an n124 eH->
          ∃dT bu cm b4,(Builtin.append_ #[22,22] 22 #[.slice a' bk b',.slice (some (Addr.mk n124 0 none)) 1 1]).run prog eH= .ok (.slice bu cm b4) dT/\
          ∃eT,ah ((Addr.mk n14 0 none).add 1) 0 [.slice bu cm b4] dT eT/\
          ∃ad,ad<k18/\I17 (i64.wrap (ac+ (1:Int))) eT ad)))))
   (K (.tuple #[.int .i64 n,.int .i64 0]) bv):=by
 refine ⟨Gg w n14 N cs n,⟨_,0,hs',[],gp,gc,rfl,h0,rfl,rfl,I0⟩,?_⟩;clear I0;rintro v u z _ ⟨t,hs',ms,gp,gc,rfl,ht,rfl,rfl,I⟩;have hj:=K1 I.nd I.pm;have hW:=JQ (N:=N) (cs:=cs);have hS:=Io hN;have hP:=I.n;have hO:(cs++ms.map kE).length=cs.length+ms.length:=by simp
 refine aj (fun r=> ?_) (fun r=> ?_)
 . have r:(ms.length:Int)<n:=by simpa using r
   have gd:ao u u.drew:=(aF.refl u).drew;have hI: ∀u' fL fP fu mo,oR w u' n14 N cs fL (ms++ [mo]) fP fu->∃ad,ad<n.toNat - ms.length/\Gg w n14 N cs n (i64.wrap ((ms.length:Int)+ (1:Int))) u' ad:=by
    intro u' fL fP fu mo B;refine ⟨_,?_,ms.length+1,fL,ms++ [mo],fP,fu,wN (by omega) (by omega),by omega,rfl,by simp,B⟩;omega
   have hK: ∀y,ao w y->og N cs<=ms.length->K (.tuple #[.int .i64 (ms.length:Nat),.int .i64 0]) y:=fun y gy hc=>hk y ms.length ht hj (.inr hc) gy;have D: ∀ {v:World},ao u.drew v->bA v n14 #[.int .i64 N,.slice gp hs'.length gc]:=fun gv=> (I.has.grow gd).grow gv;refine ⟨ao u.drew,aF.refl _,_,_,_,_,fun v gv=> ⟨ae (D gv) rfl,ae (D gv) rfl,trivial⟩,⟨?_,?_⟩⟩
   . refine (vE _).mono ?_;rintro e c2 ⟨rfl,a7⟩;refine ⟨_,_,_,rfl,a7,⟨?_,?_⟩⟩
     . exact Bz (I17:=Gg w n14 N cs n) (k18:=n.toNat - ms.length) I (gd.trans a7) a7 fT hN fq (by omega) hK hI
     . intro cp c7 dk;have hU:=dk.num;exact ⟨a7.trans dk.mod,rV (I17:=Gg w n14 N cs n) (k18:=n.toNat - ms.length) I ((gd.trans a7).trans dk.mod) dk.has (by have:=gd.size;have:=a7.size;omega) fT hN fq (by omega) hK hI⟩
   . intro cb di b8;have hQ:=b8.num;refine ⟨b8.mod,(vE _).mono ?_⟩;rintro e fs ⟨rfl,fo⟩;exact ⟨_,_,_,rfl,b8.mod.trans fo,rV (I17:=Gg w n14 N cs n) (k18:=n.toNat - ms.length) I ((gd.trans b8.mod).trans fo) (b8.has.grow fo) (by have:=gd.size;omega) fT hN fq (by omega) hK hI⟩
 . have r:n<=(ms.length:Int):=by simpa using r
   have e:(ms.length:Int)=n:=by omega
   have:=hk u ms.length ht hj (.inl e) I.g;rw [e] at this;exact this
end
section
variable {w w' w1 w2 u u':World} {N n14:Nat} {cs:List (List Int)} {mo:List Int} {ms:List (List Int)} {hs hs':List Sl} {gp q:Option Addr} {gc m d:Nat}
theorem GB {k n:Int} (hc:V2 (Value.int .i64) w q hs cs) (hm:m=cs.length) (ap:ff k cs=true) (O:k=N) (hN:N<=6) (aT:cs.length<=100000) (h0:0<=n) (h1:n<=4096):
 Calls prog lO.id #[.agg #[.int .i64 k,.slice q m d],.int .i64 n] w fun e w'=> ∃r:Nat,e= .returned (.tuple #[.int .i64 r,.int .i64 0])/\(r:Int)<=n/\r<=og N cs/\((r:Int)=n\/og N cs<=r)/\ao w w':=by
 subst O hm;refine lO.ak ?_;intro n1 w2 h2;refine ⟨_,_,_,_,⟨ae h2.has rfl,ae h2.has rfl,trivial⟩,(l9 (hc.grow h2.mod) rfl).mono ?_⟩;rintro e w5 ⟨rfl,g5⟩;rw [ap];have G5:=h2.mod.trans g5;have B5:=h2.has.grow g5;have Z:ao w5 w5.drew:=(aF.refl w5).drew;have hw:i64.wrap ((cs.length:Int)+n)=(cs.length:Int)+n:=aD (by omega) (by omega);have V:=hc.grow G5;have e1:=h2.num;have sG:=G5.size;have sd:=Z.size;refine ⟨_,rfl,bm rfl (bm (decide_eq_false (by omega)) (bm (decide_eq_false (by omega)) ⟨_,ae B5 rfl,bm (decide_eq_false (by omega)) ⟨_,_,_,ae B5 rfl,?_⟩⟩))⟩;rw [hw];refine bm (decide_eq_false (by omega)) ⟨ao w5.drew,aF.refl _,_,fun v gv=>ae ((B5.grow Z).grow gv) rfl,_,_,_,fun v gv=>ae ((B5.grow Z).grow gv) rfl,?_,?_⟩
 . refine (yw (V.grow Z).h V.n.symm (by omega)).mono ?_;rintro e bv ⟨gp,gc,rfl,ay,ac,f12⟩;refine ⟨_,_,_,rfl,ac,fun n14 cb aa=> ⟨ac.trans aa.mod,?_⟩⟩;refine bj aa.has rfl rfl fun aw ag bk=> ?_;have ag:bA aw n14 #[.int .i64 N,.slice gp hs.length gc]:=ag;have ce:=aa.num;have an:ao bv aw:=aF.bV aa.mod bk (by omega);have GG:=(Z.trans ac).trans an;have cm:=ac.size;refine u9 (w:=w) (K:=fun v w'=> ∃r:Nat,Ending.returned v= .returned (.tuple #[.int .i64 r,.int .i64 0])/\(r:Int)<=n/\r<=og N cs/\((r:Int)=n\/og N cs<=r)/\ao w w') ⟨G5.trans GG,ag,ay.grow an,by simpa using V.n,fun j U=> ?_,fun j U X k O=> ?_,by simp,by simp,by omega,fun k O=> ?_⟩ ap hN aT h0 h1 fun u' r r1 r2 r3 gu=> ⟨r,rfl,r1,r2,r3,gu⟩
   . simp only [List.map_nil,List.append_nil] at U ⊢;exact (V.grow GG).r j U
   . simp only [List.map_nil,List.append_nil] at U X;have h3:=(V.grow Z).r j U;have h4:=h3.2.2.lt X k O;have:=an.size;refine ⟨by omega,fun e=> ?_,by omega⟩;have:=f12 k e;omega
   . have h5:=f12 k O;have h6:=ay.lt k O;exact ⟨by omega,by omega⟩
 . intro n129 bx I;refine ⟨I.mod,(yw ((V.grow Z).grow I.mod).h V.n.symm (by omega)).mono ?_⟩;rintro e b5 ⟨gp,gc,rfl,ax,J,f131⟩;refine ⟨_,_,_,rfl,I.mod.trans J,?_⟩;have b':=I.num;have b8:=I.size;have b4:=I.has.lt;refine bj (I.has.grow J) rfl rfl fun ad Q Y=> ?_;have Q:bA ad n129 #[.int .i64 N,.slice gp hs.length gc]:=Q;have GG:ao w5 ad:=(Z.trans (I.mod.trans J)).then Y fun k O (e:k=n129)=>by omega
   have b3:=Y.size;have b6:=J.size;refine u9 (w:=w) (K:=fun v w'=> ∃r:Nat,Ending.returned v= .returned (.tuple #[.int .i64 r,.int .i64 0])/\(r:Int)<=n/\r<=og N cs/\((r:Int)=n\/og N cs<=r)/\ao w w') ⟨G5.trans GG,Q,ax.keep Y fun k O (e:k=n129)=>by have:=f131 k O;omega,by simpa using V.n,fun j U=> ?_,fun j U X k O=> ?_,by simp,by simp,by omega,fun k O=> ?_⟩ ap hN aT h0 h1 fun u' r r1 r2 r3 gu=> ⟨r,rfl,r1,r2,r3,gu⟩
   . simp only [List.map_nil,List.append_nil] at U ⊢;exact (V.grow GG).r j U
   . simp only [List.map_nil,List.append_nil] at U X;have h3:=(V.grow Z).r j U;have h4:=h3.2.2.lt X k O;refine ⟨by omega,fun e=> ?_,by omega⟩;have:=f131 k e;omega
   . have h5:=f131 k O;exact ⟨by omega,by omega⟩
def NP:List (List Int):= [[1,2],[-1,2],[1,-2],[-1,-2]]
theorem Jh (w:World):Calls prog cG.id #[] w fun e w'=>e= .returned (.bool true)/\ao w w':=by
 refine cG.ak ?_;intro n1 w2 h2 n3 w4 h4 n5 w6 h6 n7 w8 h8 n9 a7 kP bv dc ac;have cm:=ac.num;refine bj ac.has rfl rfl fun Z O bb=> ?_;have O:bA Z bv #[.int .i64 2,.slice (some ⟨n9,0,none⟩) 4 4]:=O;have J:ao a7 Z:=aF.bV ac.mod bb (by omega);have A1:=((((h2.has.grow h4.mod).grow h6.mod).grow h8.mod).grow kP.mod).grow J;have A3:=(((h4.has.grow h6.mod).grow h8.mod).grow kP.mod).grow J;have A5:=((h6.has.grow h8.mod).grow kP.mod).grow J;have A7:=(h8.has.grow kP.mod).grow J;have A9:=kP.has.grow J;have aE: ∀ {a b:Int} {n:Nat} {v:World},bA v n #[.int .i64 a,.int .i64 b]->Vw (Value.int .i64) v (some ⟨n,0,none⟩) [a,b]:=fun {a b n v} h j U=>by
  have:j=0\/j=1:=by simp at U;omega
  rcases this with rfl|rfl
  . exact ⟨_,rfl,ae h rfl⟩
  . exact ⟨_,rfl,ae h rfl⟩
 have V:V2 (Value.int .i64) Z (some ⟨n9,0,none⟩) [⟨some ⟨n1,0,none⟩,2,2⟩,⟨some ⟨n3,0,none⟩,2,2⟩,⟨some ⟨n5,0,none⟩,2,2⟩,⟨some ⟨n7,0,none⟩,2,2⟩] NP:=by
  refine ⟨fun j U=> ?_,rfl,fun j U=> ?_⟩
  . have:j=0\/j=1\/j=2\/j=3:=by simp at U;omega
    rcases this with rfl|rfl|rfl|rfl<;>exact ⟨_,rfl,ae A9 rfl⟩
  . have:j=0\/j=1\/j=2\/j=3:=by simp [NP] at U;omega
    rcases this with rfl|rfl|rfl|rfl
    . exact ⟨rfl,by show 2<=maxLen;decide,aE A1⟩
    . exact ⟨rfl,by show 2<=maxLen;decide,aE A3⟩
    . exact ⟨rfl,by show 2<=maxLen;decide,aE A5⟩
    . exact ⟨rfl,by show 2<=maxLen;decide,aE A7⟩
 refine ⟨_,_,_,_,⟨ae O rfl,ae O rfl,trivial⟩,?_⟩;obtain ⟨K,ok,hK,hT⟩:=Ok (N:=2) (uni:=4) (lrn:=4) (by decide) (by decide);refine (vO (N:=2) (cs:=NP) V rfl (by decide) (by decide) rfl (by decide) ok hK (by rw [hT];decide)).mono ?_;rintro e I ⟨hs,bk⟩;have bu:ao w I:=(((((h2.mod.trans h4.mod).trans h6.mod).trans h8.mod).trans kP.mod).trans J).trans bk;have hv: ∀ {ke er cf de re dr:Int} {mp pp:Option Addr} {mn mc pn pc:Nat},e= .returned (.tuple #[.agg #[.int .i64 ke,.slice mp mn mc,.slice pp pn pc,.int .i64 cf,.int .i64 de,.int .i64 re,.int .i64 dr],.int .i64 er])->er=0/\ke=2:=by
  intro ke er cf de re dr mp pp mn mc pn pc he;subst he;obtain ⟨rfl,h⟩:=yO hs (aF.refl I:aF (·=I.heap.size) I I) (.inr (Nat.le_refl _));refine ⟨rfl,?_⟩;rcases h with ⟨_,mo,_,_,hm,hh⟩| ⟨rfl,_⟩
  . exfalso;obtain ⟨a,b,rfl⟩: ∃a b,mo= [a,b]:=by
     have:=hm.len
     match mo,this with
     | [a,b],_=>exact ⟨a,b,rfl⟩
    rcases hm.pm a (by simp) with rfl|rfl<;>rcases hm.pm b (by simp) with rfl|rfl<;>exact absurd hh (by decide)
  . rfl
 obtain ⟨ke,mp,mn,mc,pp,pn,pc,cf,de,re,dr,er,rfl,_⟩:=hs;obtain ⟨rfl,rfl⟩:=hv rfl;clear hv;refine ⟨_,_,_,_,_,_,_,_,_,_,_,_,rfl,fun n25 cb X=> ?_⟩;have b_:=X.num;refine bj X.has rfl rfl fun an Y a_=> ?_;have Y:bA an n25 #[.int .i64 2,.slice mp mn mc,.slice pp pn pc,.int .i64 cf,.int .i64 de,.int .i64 re,.int .i64 dr]:=Y;have bx:ao I an:=aF.bV X.mod a_ (by omega);intro n28 b6 aa bc a' Q;have aT:V2 (Value.int .i64) a' (some ⟨bc,0,none⟩) [⟨some ⟨n28,0,none⟩,2,2⟩] [[1,2]]:=by
  refine ⟨fun j U=> ?_,rfl,fun j U=> ?_⟩
  . have:j=0:=by simpa using U
    subst this;exact ⟨_,rfl,ae Q.has rfl⟩
  . have:j=0:=by simpa using U
    subst this;exact ⟨rfl,by show 2<=maxLen;decide,aE (aa.has.grow Q.mod)⟩
 refine (GB (N:=2) aT rfl (by decide) rfl (by decide) (by decide) (by decide) (by decide)).mono ?_;rintro e cc ⟨r,rfl,r1,r2,r3,ad⟩;have az:og 2 [[1,2]]=3:=by decide
 rw [az] at r2 r3;have hr:r=3:=by omega
 subst hr;refine ⟨_,_,rfl,cu rfl ⟨_,ae (((Y.grow aa.mod).grow Q.mod).grow ad) rfl,cu rfl (cu rfl (cu rfl ((vE _).mono ?_)))⟩⟩;rintro e b' ⟨rfl,a6⟩;exact ⟨_,_,_,rfl,rfl,((((bu.trans bx).trans aa.mod).trans Q.mod).trans ad).trans a6⟩
end
end Go.Proofs.YtenmibfmhccmiaaGreat.W
