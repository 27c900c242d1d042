/- Layer 7: a formula begins to be worked on. -/
import Derived.Test.YtenmibfmhccmiaaGreatPropC
import Derived.Test.YtenmibfmhccmiaaGreatPropB
import Derived.Test.YtenmibfmhccmiaaGreatSortA
namespace Go.Proofs.YtenmibfmhccmiaaGreat.W
open Go Go.Fw Go.RowKit Go.SoP Go.LiP
section
variable {W w w' w0 w2 w3:World} {nb b ib ab k:Nat} {vars:Int} {id id':List (Int × Int)} {cs ms:List (List Int)} {t:Bool} {cp:Option Addr} {n cc:Nat} {c:List Int}
theorem nE {l:List (List Int)} {i:Nat} (h:i<l.length):l.getD i []∈l:=by simp [List.getD,h]
theorem nK {α:Type} {l:List α} {i:Nat} (h:i<l.length) (d:α):l.take (i+1)=l.take i++ [l.getD i d]:=by
 rw [List.take_add_one];simp [List.getD,h]
theorem IY {p2 p3 p4:Value} {q:Option Addr} {m d:Nat} {hs:List Sl} (U:bA w nb #[.int .i64 vars,.map (some ib),p2,p3,p4]) (V:MV (Value.int .i64) w ib id) (xy:BM id) (ap:nb≠ib) (hW:ao W w) (y1:W.heap.size<=nb) (y2:W.heap.size<=ib)
 (hv:V2 (Value.int .i64) W q hs cs) (hm:m=cs.length) (an: ∀c∈cs,c.length<=4096/\∀x∈c,bq x=true/\Nt id x) (hlen:cs.length<262144) (c0:id.length<=1048576):
 Calls Tryz.prog iP.id #[bL nb,.slice q m d] w fun e w'=>e= .returned (.tuple #[])/\Wk true (fun _=>False) W w' nb (cs.foldl xm vars) id cs cs.length:=by
 subst hm;refine iP.ak ⟨_,rfl,_,ae U rfl,_,V.len vD _,?_⟩;refine (zX (k:=(id.length:Int)) (cs:= []) (hs:= []) (q:=none) (m:=0) (d:=0) V2.nil rfl).mono ?_;have a':ff (id.length:Int) []=true:=by unfold ff;simp;omega
 rintro e w4 (⟨hf,_⟩| ⟨_,b,s,H,rfl,pm,g,N,gw,fo⟩)
 . rw [a'] at hf;cases hf
 have aT:=U.grow gw;have a_:=V.grow gw;have zw:=hW.size;have z4:=gw.size;have i1:=U.lt;have i2:=V.lt;refine ⟨_,_,rfl,_,rfl,bO aT rfl rfl fun w8 bc M8=> ?_⟩;intro n9 Z kP;have b_:=kP.num;have z8:=M8.size;have ar:bA Z nb _:=bc.grow kP.mod;refine ⟨_,rfl,bO ar rfl rfl fun cT ag av=> ⟨_,rfl,bO ag rfl rfl fun J ac aa=> ?_⟩⟩;have Q:aF (·=nb) w4 J:=((M8.grow kP.mod).trans av).trans aa;have a7:aF (·=nb) Z J:=av.trans aa;have az:n9≠nb:=by omega
 have bb:s.vars=id.length:=by have:=N.v;simpa using this
 have cm:s.nc=0:=N.n;have X: ∀x k,own b H x=some k->W.heap.size<=k/\w.heap.size<=k/\k<w4.heap.size:=fun x k e=> ⟨by have:=fo x k e;omega,fo x k e,pm.lt x k e⟩
 have aS: ∀i,¬s.aN i:=fun i h=>by have:=h.1;omega
 have hB:RB W J nb b ib n9 vars id H s none 0 [] [] fun _=> []:=by
  refine ⟨ac,pm.keep Q fun x k Y e=> ?_,g,a_.keep Q fun e=>ap e.symm,(MV.new kP).keep a7 az,Ow.nil _ _ _,fun x hx=>by simp at hx,fun x k Y=> ?_,?_,fun x hx=>by simp at hx,?_,?_,N.be,xy,bb,by simp,fun i=>by simp [aS],fun i hi=>by simp at hi,fun i hi=>by simp at hi,fun i hi=>absurd hi (aS i),fun i hi=>by simp at hi,fun i hi=>by simp at hi,fun x hx=>by simp at hx,by simp⟩
  . have:=X x k Y;omega
  . have:=X x k Y;exact ⟨by omega,by omega,by omega,by simp [aJ]⟩
  . exact ⟨ap,by omega,by omega,by simp [aJ],by simp [aJ],by simp [aJ]⟩
  . exact (hW.trans gw).then Q fun k Y e=>by omega
  . exact ⟨y1,y2,by omega,by simp [aJ],fun x k Y=> (X x k Y).1⟩
 have a6:Wk true (fun _=>False) W J nb vars id [] 0:=⟨b,ib,n9,H,s,none,0,[],[],_,hB,rfl,by omega,fun _=>N.tr,fun j hj=>hj.elim⟩
 refine ⟨fun I u z=> ∃v:Nat,I=v/\v<=cs.length/\z=cs.length - v/\Wk true (fun _=>False) W u nb ((cs.take v).foldl xm vars) id (cs.take v) v,⟨_,0,rfl,Nat.zero_le _,rfl,a6⟩,?_⟩;rintro I u z _ ⟨v,rfl,ce,rfl,ku⟩;refine aj (fun r=> ?_) (fun r=> ?_)
 . have r:v<cs.length:=by simpa using r
   have O:=nE r;refine (hv.grow ku.wg).ix (by omega) rfl (by omega) fun a sl k1 k0 k2 k3 k4=> ⟨_,_,_,k1,?_⟩
   rw [Int.toNat_natCast] at k0 k2;obtain ⟨r1,r2,r3⟩:=hv.r v r;rw [<- k0] at r3;refine (ku.add r3 k2 (an _ O).1 (an _ O).2 (by omega)).mono ?_;rintro e b8 ⟨rfl,ay,_⟩;refine ⟨rfl,_,?_,v+1,wN (by omega) (by omega),r,rfl,?_⟩
   . omega
   . rw [nK r [],List.foldl_append];exact ay
 . have r:v=cs.length:=by simp at r;omega
   subst r;rw [List.take_length] at ku;exact ⟨rfl,ku⟩
theorem FZ {v:Int} {p q:Option Addr} {n d m e:Nat} {hs ks:List Sl} (hv:V2 (Value.int .i64) w p hs cs) (hn:n=cs.length) (hw:V2 (Value.int .i64) w q ks ms) (hm:m=ms.length)
 (Y: ∀c∈cs,c.length<=4096/\∀x∈c,bq x=true) (ax: ∀c∈ms,c.length<=50000/\∀x∈c,bq x=true) (hlen:cs.length<262144) (b7:ms.length<=1000000):
 Calls Tryz.prog nI.id #[.agg #[.int .i64 v,.slice p n d],.slice q m e] w fun e w'=> ∃ (nb:Nat) (id:List (Int × Int)),e= .returned (bL nb)/\Wk true (fun _=>False) w w' nb (cs.foldl xm v) id cs cs.length/\(∀c∈cs++ms,∀x∈c,Nt id x):=by
 subst hn hm;refine nI.ak ?_;intro n1 w2 h2;have e2:=h2.num;refine ⟨_,ae h2.has rfl,?_⟩;intro V w5 h5;have e5:=h5.num;have z2:=h2.mod.size;have s2:=h2.size;intro n6 Z h7;have e7:=h7.num;have s5:=h5.size;have G7:ao w Z:=(h2.mod.trans h5.mod).trans h7.mod;have a6:bA Z n1 _:=(h2.has.grow h5.mod).grow h7.mod;refine ⟨_,_,_,ae a6 rfl,?_⟩;have ay:BM []:=⟨by simp,fun j hj=>by simp at hj,fun x X=>by simp at X⟩
 refine ⟨fun I u z=> ∃ (i:Nat) (id:List (Int × Int)),I=i/\i<=cs.length/\z=cs.length - i/\aF (·=V) Z u/\MV (Value.int .i64) u V id/\BM id/\∀c∈cs.take i,∀x∈c,Nt id x,
  ⟨_,0,[],rfl,Nat.zero_le _,rfl,aF.refl _,(MV.new h5).grow h7.mod,ay,fun c J=>by simp at J⟩,?_⟩
 rintro I u z _ ⟨i,id,rfl,hi,rfl,O,mu,Q,hN⟩;have Ki:=hv.Ki;have bk:=hw.Ki;have bx: ∀ {u:World},aF (·=V) Z u->V2 (Value.int .i64) u p hs cs:=fun O=> (hv.grow G7).jG O fun k hk e=>by have:=Ki k hk;omega
 have a': ∀ {u:World},aF (·=V) Z u->V2 (Value.int .i64) u q ks ms:=fun O=> (hw.grow G7).jG O fun k hk e=>by have:=bk k hk;omega
 have ad: ∀ {u:World},aF (·=V) Z u->bA u n6 #[.int .i64 v,.map (some V),.pointer none,.slice none 0 0,.map none]:=fun O=>h7.has.keep O (by omega);have bY: ∀ {u:World},aF (·=V) Z u->bA u n1 #[.int .i64 v,.slice p cs.length d]:=fun O=>a6.keep O (by omega);refine aj (fun r=> ?_) (fun r=> ?_)
 . have r:i<cs.length:=by simpa using r
   have U:=nE r;have bu:=Q.le;have bc:=(Y _ U).1;refine (bx O).ix (by omega) rfl (by omega) fun a sl k1 k0 k2 k3 k4=> ⟨_,_,_,k1,?_⟩
   rw [Int.toNat_natCast] at k2 k4 k0;obtain ⟨r1,r2,r3⟩:=hv.r i r;rw [<- k0] at r3;refine (Du (ad O) mu Q (by omega) k4 (fun ac e=>by have:=r3.lt ac V e;omega) k2 (Y _ U).2 (by omega)).mono ?_;rintro e bv ⟨rfl,id',aa,ag,nt⟩;refine ⟨rfl,_,?_,i+1,id',wN (by omega) (by omega),r,rfl,O.trans aa,ag,nt.wS,fun c J x X=> ?_⟩
   . omega
   . rw [nK r []] at J;rcases List.mem_append.1 J with J|J
     . exact nt.kp x (hN c J x X)
     . rw [List.mem_singleton] at J;subst J;exact nt.all x X
 have r:i=cs.length:=by simp at r;omega
 subst r;rw [List.take_length] at hN;refine ⟨fun I u z=> ∃ (i:Nat) (id:List (Int × Int)),I=i/\i<=ms.length/\z=ms.length - i/\aF (·=V) Z u/\MV (Value.int .i64) u V id/\BM id/\∀c∈cs++ms.take i,∀x∈c,Nt id x,
  ⟨_,0,id,rfl,Nat.zero_le _,rfl,O,mu,Q,fun c J=>by simp at J;exact hN c J⟩,?_⟩
 clear O mu Q hN;rintro I u z _ ⟨i,id,rfl,hi,rfl,O,mu,Q,hN⟩;refine aj (fun r=> ?_) (fun r=> ?_)
 . have r:i<ms.length:=by simpa using r
   have U:=nE r;have bu:=Q.le;have bc:=(ax _ U).1;refine (a' O).ix (by omega) rfl (by omega) fun a sl k1 k0 k2 k3 k4=> ⟨_,_,_,k1,?_⟩
   rw [Int.toNat_natCast] at k2 k4 k0;obtain ⟨r1,r2,r3⟩:=hw.r i r;rw [<- k0] at r3;refine (Du (ad O) mu Q (by omega) k4 (fun ac e=>by have:=r3.lt ac V e;omega) k2 (ax _ U).2 (by omega)).mono ?_;rintro e bv ⟨rfl,id',aa,ag,nt⟩;refine ⟨rfl,_,?_,i+1,id',wN (by omega) (by omega),r,rfl,O.trans aa,ag,nt.wS,fun c J x X=> ?_⟩
   . omega
   . rw [nK r [],<- List.append_assoc] at J;rcases List.mem_append.1 J with J|J
     . exact nt.kp x (hN c J x X)
     . rw [List.mem_singleton] at J;subst J;exact nt.all x X
 have r:i=ms.length:=by simp at r;omega
 subst r;rw [List.take_length] at hN;refine ⟨_,_,_,ae (bY O) rfl,?_⟩;have Gu:ao w u:=G7.then O fun k hk e=>by omega
 refine (IY (ad O) mu Q (by omega) Gu (by omega) (by omega) hv rfl (fun c J=> ⟨(Y c J).1,fun x X=> ⟨(Y c J).2 x X,hN c (List.mem_append_left _ J) x X⟩⟩) hlen Q.le).mono ?_;rintro e b6 ⟨rfl,a_⟩;exact ⟨rfl,n6,id,rfl,a_,hN⟩
end
section
variable {W w w' w0 w2 w3 u:World} {p q:Option Addr} {n m d b nl i:Nat} {id:List (Int × Int)} {hs ks:List Sl} {cs R:List (List Int)} {c l:List Int} {H H' H2:Pt->Sl} {s t s':aH} {K:List Nat} {vars:Nat}
theorem yw {e:Nat} (h:Vw Sl.v w p hs) (hn:n=hs.length) (hm:n<=100000):Calls Tryz.prog cD.id #[.slice p n e] w fun e w'=> ∃ (q:Option Addr) (d:Nat),e= .returned (.slice q hs.length d)/\Ow Sl.v aI w' q d hs/\ao w w'/\(∀b,aJ q=some b->w.heap.size<=b):=by
 refine cD.ak ?_;refine aj (fun s=> ?_) (fun s=> ?_)
 . have hp:p=none:=by cases p<;>simp at s ⊢
   subst hp;have:hs= []:=by
    rcases hs with _| ⟨x,l⟩
    . rfl
    . obtain ⟨a,ha,_⟩:=h 0 (by simp);cases ha
   subst this;exact ⟨none,0,rfl,Ow.nil _ _ _,aF.refl w,fun b hb=>by simp [aJ] at hb⟩
 . intro U w1 h1;refine Ow.qG (l:=([]:List Sl)) kS (aY.o0 h1) (h.grow h1.mod) rfl hn (fun _=>rfl) (by simp;omega) fun w2 p2 J o2 m2 I O=> ?_;rw [List.nil_append] at o2 ⊢;have Q:=h1.num;refine ⟨p2,J,rfl,o2,h1.mod.then m2 fun b hb e=> ?_,fun b hb=> ?_⟩
   . have:=aO e;omega
   . have:=h1.mod.size;rcases I with rfl|rfl
     . have:=aO hb;omega
     . have:=aO hb;omega
end
section
variable {W w w' w0 w2 w3 u:World} {p q:Option Addr} {n m d b nl i:Nat} {id:List (Int × Int)} {hs ks:List Sl} {cs R:List (List Int)} {c l:List Int} {H H' H2:Pt->Sl} {s t s' s2:aH} {K:List Nat} {vars:Nat} {mp:List (Int × Int)} {num:Nat->Nat}
theorem Jo {b:Nat} {sl:Sl} (h:bA w b #[.slice sl.p sl.n sl.c]):Vw Sl.v w (some ⟨b,0,none⟩) [sl]:=fun j I=>by
 have:j=0:=by simpa using I
 subst this;exact ⟨_,rfl,ae h rfl⟩
end
end Go.Proofs.YtenmibfmhccmiaaGreat.W
namespace Go.Fw
open Go Go.RowKit
variable {P:Program} {α:Type} {sz:Nat} {f:α->List Value} {T:TypeId} {w w':World} {p q:Option Addr} {c:Nat} {l:List α}
theorem Row.cap (h:Row sz f T w p c l):l.length<=c:=by
 rcases h.un with ⟨_,_,rfl⟩| ⟨_,_,_,_,I,_⟩
 . simp
 . exact I
theorem Vr.part (h:Vr sz f w p l) {i m:Nat} (h1:i+m<=l.length):Vr sz f w (p.map (·.add (i*sz))) ((l.drop i).take m):=by
 intro j J;rw [List.length_take,List.length_drop] at J;obtain ⟨a,rfl,I⟩:=h (i+j) (by omega);refine ⟨_,rfl,?_⟩;rw [List.getElem_take,List.getElem_drop,rW,<- Nat.add_mul];exact I
end Go.Fw
