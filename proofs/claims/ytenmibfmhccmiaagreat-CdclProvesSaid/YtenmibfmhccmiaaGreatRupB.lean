/- Layer 7: steps as arguments; what is small. -/
import Derived.Test.YtenmibfmhccmiaaGreatRupA
import Derived.Test.YtenmibfmhccmiaaGreatPropC
import Derived.Test.YtenmibfmhccmiaaGreatQuotaA
import Derived.Test.YtenmibfmhccmiaaGreatSortA
import Derived.Test.YtenmibfmhccmiaaGreatHeapA
import Derived.Test.YtenmibfmhccmiaaGreatFwRead
import Derived.Test.YtenmibfmhccmiaaGreatLubyA
import Derived.Test.YtenmibfmhccmiaaGreatLearnA
namespace Go.Proofs.YtenmibfmhccmiaaGreat.W
open Go Go.Fw Go.RowKit Go.SoP Go.LiP
open Go.Proofs.Tryz (prog)
open Go.IntKind (i64)
section
variable {w w' w0 w2 w3:World} {p q:Option Addr} {n m c d:Nat} {k:Int} {hs:List Sl} {cs:List (List Int)} {l:List Int}
abbrev nu:=Bool × List Int
def dR:nu:=(false,[])
def SV (w:World) (p:Option Addr) (al:List nu):Prop:= ∀i,i<al.length->∃ (a:Addr) (s:Sl),p=some a/\aB w (a.add (i*2)) 0 [.bool (al.getD i dR).1,.slice s.p s.n s.c]/\
 s.n=(al.getD i dR).2.length/\s.n<=maxLen/\Vw (Value.int .i64) w s.p (al.getD i dR).2
theorem SV.grow {al:List nu} (h:SV w p al) (g:ao w w'):SV w' p al:=by
 intro i hi;obtain ⟨a,s,rfl,I,h1,O,J⟩:=h i hi;exact ⟨a,s,rfl,aB.keep g id I,h1,O,J.grow g⟩
theorem SV.ix {al:List nu} (h:SV w p al) (g:ao w w') {i n:Nat} (hn:n=al.length) (hi:i<al.length) {K:Addr->Prop}
 (I: ∀a (s:Sl),(∀u,ao w u->aB u a 0 [.bool (al.getD i dR).1,.slice s.p s.n s.c])->s.n=(al.getD i dR).2.length->s.n<=maxLen->Vw (Value.int .i64) w s.p (al.getD i dR).2->K a):aP p n (i:Int) 2 K:=by
 subst hn;obtain ⟨a,s,rfl,J,h1,U,O⟩:=h i hi;refine ⟨a,rfl,by omega,by omega,I _ s (fun u Q=> ?_) h1 U O⟩;rw [Int.toNat_natCast];exact aB.keep Q id J
def jP (al:List nu):Bool:=al.all fun x=>iy x.2
theorem GQ {al:List nu} (h:SV w p al) (hn:n=al.length) (hm:n<=1000):Calls prog gj.id #[.slice p n c] w fun e w'=>e= .returned (.bool (jP al))/\ao w w':=by
 subst hn;refine gj.ak ⟨fun I u z=> ∃i:Nat,I=i/\z=al.length - i/\i<=al.length/\ao w u/\∀j,j<i->iy (al.getD j dR).2=true,⟨_,0,rfl,rfl,by omega,aF.refl w,fun j Q=>by omega⟩,?_⟩;rintro I u z _ ⟨i,rfl,rfl,hi,g,J⟩;refine aj (fun r=> ?_) (fun r=> ?_)
 . have r:i<al.length:=by simpa using r
   refine h.ix g rfl r fun a s V h1 Z X=> ⟨_,_,_,aB.get (V u g) 1 _ rfl,(xA (X.grow g) h1 Z).mono ?_⟩
   rintro e w8 ⟨rfl,U⟩;refine ⟨_,rfl,aj (fun O=> ?_) (fun O=> ⟨_,by omega,i+1,wN (by omega) (by omega),rfl,r,g.trans U,fun j Q=> ?_⟩)⟩
   . have:jP al=false:=by
      rw [<- Bool.not_eq_true];intro e;unfold jP at e;rw [List.all_eq_true] at e;have hm:al.getD i dR∈al:=by simp [List.getD,r]
      have:=e _ hm;rw [this] at O;cases O
     rw [this];exact ⟨rfl,g.trans U⟩
   . by_cases e:j<i
     . exact J j e
     . obtain rfl:j=i:=by omega
       simpa using O
 . have r:i=al.length:=by simp at r;omega
   subst r;have:jP al=true:=by
    unfold jP;rw [List.all_eq_true];intro x Y;obtain ⟨j,Q,rfl⟩:=List.mem_iff_getElem.1 Y;have:=J j Q;simpa [List.getD,Q] using this
   rw [this,decide_eq_true (by omega)];exact ⟨rfl,g⟩
theorem Av:fX prog gH.id=true:=by kernel_rfl
theorem Dc {b:Bool} (h:Vw (Value.int .i64) w p l) (hn:n=l.length) (hm:n<=maxLen):Calls prog gH.id #[.agg #[.bool b,.slice p n c]] w fun e w'=>e= .returned (.bool (!iy l))/\ao w w':=by
 refine gH.ak ?_;intro O w2 I;refine ⟨_,_,_,ae I.has rfl,(fR (h.grow I.mod) hn hm).mono ?_⟩;rintro e J ⟨rfl,g⟩;refine ⟨_,rfl,?_,I.mod.trans g⟩;cases iy l<;>rfl
theorem xd {al:List nu} (h:SV w p al) (hn:n=al.length) (hm:n<=262144):Calls prog kj.id #[.slice p n c] w fun e w'=>e= .returned (.int .i64 (if jP al then 0 else 1))/\ao w w':=by
 subst hn;refine kj.ak (bm (by simp;omega) ?_);refine (bn.ak (R:=fun e w'=>e= .returned (.bool (!jP al))/\ao w w') ?_).mono ?_
 . refine (bp.ak (R:=fun e w'=> ∃r:Int,e= .returned (.int .i64 r)/\(decide (r>=0)= !jP al)/\ao w w') ?_).mono ?_
   . refine ⟨fun I u z=> ∃i:Nat,I=i/\z=al.length - i/\i<=al.length/\ao w u/\∀j,j<i->iy (al.getD j dR).2=true,⟨_,0,rfl,rfl,by omega,aF.refl w,fun j U=>by omega⟩,?_⟩;rintro I u z _ ⟨i,rfl,rfl,hi,g,J⟩;refine aj (fun r=> ?_) (fun r=> ?_)
     . have r:i<al.length:=by simpa using r
       have O:al.getD i dR∈al:=by simp [List.getD,r]
       refine h.ix g rfl r fun a s X h1 h2 Y=> ⟨_,_,_,_,X u g,?_⟩
       rw [Av];show Calls _ _ _ _ _;rw [Kz];refine (Dc (Y.grow g) h1 h2).mono ?_;rintro e w9 ⟨rfl,V⟩;refine ⟨_,rfl,aj (fun Q=> ⟨_,rfl,?_,g.trans V⟩) (fun Q=> ⟨_,by omega,i+1,wN (by omega) (by omega),rfl,r,g.trans V,fun j U=> ?_⟩)⟩
       . have:jP al=false:=by
          rw [<- Bool.not_eq_true];intro e;unfold jP at e;rw [List.all_eq_true] at e;rw [e _ O] at Q;cases Q
         rw [this];simp
       . by_cases e:j<i
         . exact J j e
         . obtain rfl:j=i:=by omega
           simpa using Q
     . have r:i=al.length:=by simp at r;omega
       subst r;have:jP al=true:=by
        unfold jP;rw [List.all_eq_true];intro x Z;obtain ⟨j,U,rfl⟩:=List.mem_iff_getElem.1 Z;have:=J j U;simpa [List.getD,U] using this
       rw [this];exact ⟨_,rfl,by decide,g⟩
   . rintro e w1 ⟨r,rfl,hr,g⟩;exact ⟨r,rfl,by rw [hr],g⟩
 . rintro e w1 ⟨rfl,g⟩;refine ⟨_,rfl,aj (fun r=> ?_) (fun r=> ?_)⟩
   . have:jP al=false:=by simpa using r
     rw [this];exact ⟨rfl,g⟩
   . have:jP al=true:=by simpa using r
     rw [this];exact ⟨rfl,g⟩
theorem eY {b:Nat} {x y:Value} (h:bA w b #[x,y]):aB w ⟨b,0,none⟩ 0 [x,y]:=⟨ae h rfl,ae h rfl,trivial⟩
theorem FV (J:V2 (Value.int .i64) w p hs cs) (hn:n=cs.length):Calls prog eQ.id #[.agg #[.int .i64 k,.slice p n d]] w fun e w'=> ∃r:Bool,e= .returned (.bool r)/\(r=true->cs.length<=40)/\ao w w':=by
 subst hn;refine eQ.ak ?_;intro Q w2 I;refine ⟨_,_,_,_,eY I.has,(HB (J.grow I.mod) rfl).mono ?_⟩;rintro e O ⟨r,rfl,g⟩;refine ⟨_,rfl,aj (fun _=> ?_) (fun _=> ⟨false,rfl,fun e=> (by cases e),I.mod.trans g⟩)⟩;exact ⟨_,_,_,ae (I.has.grow g) rfl,_,rfl,fun e=>by rw [decide_eq_true_eq] at e;omega,I.mod.trans g⟩
end
section
variable {W w w' w0 w2 w3 u:World} {p q:Option Addr} {n m d i c:Nat} {hs:List Sl} {cs:List (List Int)} {l:List Int}
abbrev So:=Sl × Bool × Int
abbrev Sr:=List Int × Bool × Int
def Mf:So:=(Sl.nil,false,0)
def zZ:Sr:=([],false,0)
structure SW (W:World) (ss:List So) (l:List Sr):Prop where
 n:ss.length=l.length
 r: ∀j,j<l.length->(ss.getD j Mf).2=(l.getD j zZ).2/\(ss.getD j Mf).1.n=(l.getD j zZ).1.length/\(ss.getD j Mf).1.n<=maxLen/\Vw (Value.int .i64) W (ss.getD j Mf).1.p (l.getD j zZ).1
theorem SW.nil:SW W [] []:=⟨rfl,fun j I=>by simp at I⟩
theorem SW.mN {ss I:List So} {l k:List Sr} (h:SW W ss l) (g:SW W I k):SW W (ss++I) (l++k):=by
 refine ⟨by simp [h.n,g.n],fun j J=> ?_⟩;rw [pS,pS,h.n];by_cases e:j<l.length
 . rw [if_pos e,if_pos e];exact h.r j e
 . rw [if_neg e,if_neg e];exact g.r (j - l.length) (by simp at J;omega)
theorem SW.bH {s:So} {x:Sr} (h1:s.2=x.2) (Q:s.1.n=x.1.length) (I:s.1.n<=maxLen) (O:Vw (Value.int .i64) W s.1.p x.1):SW W [s] [x]:=by
 refine ⟨rfl,fun j J=> ?_⟩;have:j=0:=by simpa using J
 subst this;exact ⟨h1,Q,I,O⟩
theorem SW.part {ss:List So} {l:List Sr} (h:SW W ss l) (i:Nat) (hi:i<l.length):SW W (ss.take i++ss.drop (i+1)) (l.take i++l.drop (i+1)):=by
 refine SW.mN ⟨by simp [h.n],fun j I=> ?_⟩ ⟨by simp [h.n],fun j I=> ?_⟩
 . rw [List.length_take] at I;have e: ∀ {β:Type} (l:List β) (d:β),(l.take i).getD j d=l.getD j d:=fun l d=>by
    simp only [List.getD_eq_getElem?_getD,List.getElem?_take];rw [if_pos (by omega)]
   rw [e,e];exact h.r j (by omega)
 . rw [List.length_drop] at I;have e: ∀ {β:Type} (l:List β) (d:β),(l.drop (i+1)).getD j d=l.getD (i+1+j) d:=fun l d=>by
    simp only [List.getD_eq_getElem?_getD,List.getElem?_drop]
   rw [e,e];exact h.r _ (by omega)
def vX (cs:List (List Int)) (k:Nat):List Sr:=(List.range k).map fun i=> (cs.getD i [],false,(i:Int))
theorem uC (k:Nat):(vX cs k).length=k:=by simp [vX]
theorem Fd (k:Nat):vX cs (k+1)=vX cs k++ [(cs.getD k [],false,(k:Int))]:=by unfold vX;rw [List.range_succ,List.map_append];rfl
end
section
variable {W w w' w0 w2 w3 u:World} {p q:Option Addr} {n m d i c:Nat} {hs:List Sl} {cs:List (List Int)} {l:List Int} {ss:List So} {al:List Sr}
def lI (c:List Int):List Sr->List Sr
 | []=> []
 |x::l=>if aW x.1=aW c then l else x::lI c l
theorem BK {c:List Int}: ∀ {al:List Sr} {i:Nat},i<al.length->(∀j,j<i->aW (al.getD j zZ).1≠aW c)->aW (al.getD i zZ).1=aW c->lI c al=al.take i++al.drop (i+1)
 | [],_,h,_,_=>by simp at h
 |x::l,0,_,_,h=>by
  have h:aW x.1=aW c:=h;show (if aW x.1=aW c then l else _)=_;rw [if_pos h];rfl
 |x::l,i+1,hi,hj,h=>by
  have I:aW x.1≠aW c:=hj 0 (by omega);show (if aW x.1=aW c then l else x::lI c l)=_;rw [if_neg I,BK (i:=i) (by simpa using hi) (fun j h=>hj (j+1) (by omega)) h];rfl
theorem Ax {c:List Int}: ∀ {al:List Sr},(∀j,j<al.length->aW (al.getD j zZ).1≠aW c)->lI c al=al
 | [],_=>rfl
 |x::l,h=>by
  have J:aW x.1≠aW c:=h 0 (by simp);show (if aW x.1=aW c then l else x::lI c l)=_;rw [if_neg J];exact congrArg _ (Ax fun j I=>h (j+1) (by simpa using I))
end
section
open Go.LeP
variable {s t s':aH} {l c d:List Int} {x y:Int} {i j N:Nat} {cs:List (List Int)}
structure Km (N:Nat) (v:Int->Int):Prop where
 neg: ∀l,v (-l)= -v l
 val: ∀l,v l=0\/v l=1\/v l= -1
 set: ∀l,dB N l->v l≠0
def AB (N:Nat) (cs:List (List Int)) (c:List Int):Prop:= ∀v,Km N v->(∀d∈cs,xM v d)->xM v c
def Ku (s:aH) (c P:List Int):Prop:=(∃x∈c,x∈P)\/∃x∈c,∃y∈c,x≠y/\x ∉ P/\ -x ∉ P/\y ∉ P/\ -y ∉ P
def aH.cM (s:aH) (j:Nat):List Int:=(s.R .tr).take ((s.R .be).getD j 0).toNat
def AQ (s:aH):Prop:= ∀j,j< (s.R .be).length->∀i,s.aN i->Ku s (s.R (.a i)) (s.cM j)
theorem AQ.ext (g:aL s) (h:AQ s) (e:iM s s'):AQ s':=by
 intro j I i hi;rw [e.be] at I;have hi:=e.ni.1 hi;have hb:=g.bl j I;have O:s'.cM j=s.cM j:=by
  unfold aH.cM;obtain ⟨k,J⟩:=e.tr;rw [e.be,J,List.take_append_of_le_length (by omega)]
 rw [e.a i,O];exact h j I i hi
theorem lx (g:aL s) (I:dB s.vars x) (h:s.val x=0):x ∉ s.R .tr/\ -x ∉ s.R .tr:=by
 refine ⟨fun hm=> ?_,fun hm=> ?_⟩
 . have:=(g.v1 x I).2 hm;omega
 . have:=(g.v1 (-x) I.neg).2 hm;rw [oe I] at this;omega
theorem EG (g:aL s) (h:dz s) (hi:s.aN i):Ku s (s.R (.a i)) (s.R .tr):=by
 rcases h i hi with h| ⟨x,O,y,J,I,h1,Y⟩
 . exact .inl h
 . have V:=g.cv i hi x ((g.ca i hi x).2 O);have X:=g.cv i hi y ((g.ca i hi y).2 J);obtain ⟨a,b⟩:=lx g V h1;obtain ⟨Q,U⟩:=lx g X Y;exact .inr ⟨x,O,y,J,I,a,b,Q,U⟩
theorem mX:(s.decide x).R (.a i)=s.R (.a i):=by
 unfold aH.decide;rw [iZ (by simp) (by simp) (by simp) (by simp)];unfold aH.je;rw [aq (by simp),aq (by simp)]
theorem pQ:(s.decide x).R .be=s.R .be++ [((s.R .tr).length:Int)]:=by
 unfold aH.decide;rw [iZ (by simp) (by simp) (by simp) (by simp)];unfold aH.je;rw [aq (by simp),aK]
theorem sV:(s.decide x).R .tr=s.R .tr++ [x]:=by
 unfold aH.decide;rw [pO];unfold aH.je;rw [aq (by simp),aq (by simp)]
theorem js:(s.decide x).aN i↔s.aN i:=by
 unfold aH.decide aH.je aH.put aH.aN aH.set;exact Iff.rfl
theorem AQ.decide (g:aL s) (h:AQ s) (J:dz s):AQ (s.decide x):=by
 intro j O i hi;have hi:s.aN i:=js.1 hi;rw [pQ,List.length_append,List.length_cons,List.length_nil] at O;unfold aH.cM;rw [pQ,sV,mX];by_cases e:j< (s.R .be).length
 . have hb:=g.bl j e;have I:(s.R .be++ [((s.R .tr).length:Int)]).getD j 0=(s.R .be).getD j 0:=by simp [List.getD,List.getElem?_append_left e]
   rw [I,List.take_append_of_le_length (by omega)];exact h j e i hi
 . have e0:j=(s.R .be).length:=by omega
   subst e0;have I:(s.R .be++ [((s.R .tr).length:Int)]).getD (s.R .be).length 0=((s.R .tr).length:Int):=by simp [List.getD]
   rw [I,Int.toNat_natCast,List.take_append_of_le_length (Nat.le_refl _),List.take_length];exact EG g J hi
theorem zA (i:Nat):(s.bD i).R .be=(s.R .be).take i/\(s.bD i).R .tr=(s.R .tr).take ((s.R .be).getD i 0).toNat/\∀j,(s.bD i).R (.a j)=s.R (.a j):=by
 unfold aH.bD;simp only [aH.set];refine ⟨?_,?_,fun j=> ?_⟩<;>simp [bh]
theorem rq:(s.bD i).R .be=(s.R .be).take i:=(zA i).1
theorem zN:(s.bD i).R .tr=(s.R .tr).take ((s.R .be).getD i 0).toNat:=(zA i).2.1
theorem mD:(s.bD i).R (.a j)=s.R (.a j):=(zA i).2.2 j
theorem Ap (g:aL s) (hi:i< (s.R .be).length) (I:j<i):(s.bD i).cM j=s.cM j:=by
 unfold aH.cM;rw [rq,zN,fG I,List.take_take];have:=g.bs j i I hi;have:=g.bl j (by omega);rw [Nat.min_eq_left (by omega)]
theorem AQ.bD (g:aL s) (h:AQ s) (hi:i< (s.R .be).length):AQ (s.bD i):=by
 intro j J k I;have I:s.aN k:=I;rw [rq,List.length_take] at J;rw [mD,Ap g hi (by omega)];exact h j (by omega) k I
theorem sF (g:aL s) {p:Nat} (I:j< (s.R .be).length):j< (s.R .be).countP (fun e=>decide (e<=(p:Int)))↔(s.R .be).getD j 0<=(p:Int):=by
 have mono: ∀a b,a<b->b< (s.R .be).length->(s.R .be).getD a 0< (s.R .be).getD b 0:=fun a b h1 Q=>g.bs a b h1 Q;have key: ∀ (be:List Int),(∀a b,a<b->b<be.length->be.getD a 0<be.getD b 0)->∀j,j<be.length->(j<be.countP (fun e=>decide (e<=(p:Int)))↔be.getD j 0<=(p:Int)):=by
  intro be
  induction be with
  |nil=>intro _ j I;simp at I
  |cons a t O=>
   intro hm j I;have O:=O (fun x y h1 Q=>by have:=hm (x+1) (y+1) (by omega) (by simpa using Q);simpa using this);rw [List.countP_cons];by_cases ha:a<=(p:Int)
   . rw [if_pos (by simpa using ha)];cases j with
     |zero=>simp [ha]
     |succ j=>
      have I:j<t.length:=by simpa using I
      have:=O j I;have J:(a::t).getD (j+1) 0=t.getD j 0:=by simp
      rw [J,<- this];omega
   . rw [if_neg (by simpa using ha)];have z:t.countP (fun e=>decide (e<=(p:Int)))=0:=by
      rw [List.countP_eq_zero];intro e he;obtain ⟨k,U,rfl⟩:=List.mem_iff_getElem.1 he;have:=hm 0 (k+1) (by omega) (by simpa using U);simp only [List.getD_cons_zero,List.getD_cons_succ] at this;rw [List.getD_eq_getElem?_getD,List.getElem?_eq_getElem U,Option.getD_some] at this;simp;omega
     rw [z];cases j with
     |zero=>simp;omega
     |succ j=>
      have I:j<t.length:=by simpa using I
      have:=hm 0 (j+1) (by omega) (by simpa using I);have J:(a::t).getD (j+1) 0=t.getD j 0:=by simp
      have e0:(a::t).getD 0 0=a:=by simp
      rw [J,e0] at this;rw [J];omega
 exact key _ mono j I
theorem xU (I:x∈s.R .tr): ∃p,p< (s.R .tr).length/\(s.R .tr).getD p 0=x:=by
 obtain ⟨p,hp,e⟩:=List.mem_iff_getElem.1 I;exact ⟨p,hp,by simp [List.getD,hp,e]⟩
theorem Ga (g:aL s) {p q:Nat} (hp:p< (s.R .tr).length) (hq:q< (s.R .tr).length) (h:bf ((s.R .tr).getD p 0)=bf ((s.R .tr).getD q 0)):p=q:=by
 have I:(s.R .tr).getD p 0=(s.R .tr)[p]:=by simp [List.getD,hp]
 have J:(s.R .tr).getD q 0=(s.R .tr)[q]:=by simp [List.getD,hq]
 rw [I,J] at h;have:=(List.getElem_inj (h₀:=show p< ((s.R .tr).map bf).length by simpa using hp) (h₁:=by simpa using hq) g.nd).1 (by simpa using h);exact this
theorem AV {l:List Int} {k:Nat}:x∈l.take k↔∃p,p<k/\p<l.length/\l.getD p 0=x:=by
 constructor
 . intro h;obtain ⟨p,hp,e⟩:=List.mem_iff_getElem.1 h;rw [List.length_take] at hp;refine ⟨p,by omega,by omega,?_⟩;rw [List.getElem_take] at e;simp [List.getD,show p<l.length by omega,e]
 . rintro ⟨p,h1,I,rfl⟩;rw [List.mem_iff_getElem];refine ⟨p,by rw [List.length_take];omega,?_⟩;rw [List.getElem_take];simp [List.getD,I]
theorem qd:s.bi (-x)=s.bi x:=by unfold aH.bi;rw [p9]
theorem p8 (g:aL s) (O: -x∈s.R .tr) (I:j< (s.R .be).length): -x∈s.cM j↔s.bi x<=j:=by
 obtain ⟨p,hp,e⟩:=xU O;have hl:=g.lv p hp;rw [e,qd] at hl;have U:=sF g (p:=p) I;have hb:=g.bl j I;unfold aH.cM;rw [AV,hl];constructor
 . rintro ⟨q,h1,Q,J⟩;have:=Ga g Q hp (by rw [J,e]);subst this;omega
 . intro h;refine ⟨p,?_,hp,e⟩;omega
theorem gL (g:aL s) (I: -x∈s.R .tr):x ∉ s.R .tr:=by
 intro h;obtain ⟨p,hp,e⟩:=xU I;obtain ⟨q,hq,J⟩:=xU h;have:=Ga g hp hq (by rw [e,J,p9]);subst this;have:=(g.tv x h).1;omega
structure LS (s:aH) (l:List Int) (bl:Nat):Prop where
 ft: ∀x∈l,-x∈s.R .tr
 mZ: ∃x∈l,s.bi x=(s.R .be).length/\∀y∈l,y≠x->s.bi y<=bl
 lt:bl< (s.R .be).length
 aE:bl=0\/∃y∈l,s.bi y=bl
 nd:l.Nodup
theorem LS.qX (g:aL s) (h:LS s l i) (I:x∈l):dB s.vars x:=by
 have:=(g.tv _ (h.ft x I)).neg
 rwa [Int.neg_neg] at this
theorem LS.new (g:aL s) (b:AQ s) (h:LS s l i) (X:s.aN j): ¬∀x,x∈s.R (.a j)↔x∈l:=by
 intro e;have U:=h.lt;obtain ⟨x,Z,h1,Y⟩:=h.mZ;have Q:(s.R .be).length - 1< (s.R .be).length:=by omega
 rcases b _ Q j X with ⟨y,J,O⟩| ⟨y,J,z,V,I,_,b1,_,b2⟩
 . exact gL g (h.ft y ((e y).1 J)) (List.mem_of_mem_take O)
 . have key: ∀u∈l,-u ∉ s.cM ((s.R .be).length - 1)->u=x:=fun u hu hn=>by
    refine Classical.byContradiction fun I=>hn ((p8 g (h.ft u hu) Q).2 ?_);have:=Y u hu I;omega
   exact I ((key y ((e y).1 J) b1).trans (key z ((e z).1 V) b2).symm)
theorem LS.add (g:aL s) (b:AQ s) (h:LS s l i) (ha:kI (s.bD i) l s'):AQ s':=by
 intro j hj k U;have gb:=lw g h.lt;have V:=h.lt;rw [ha.be,rq,List.length_take] at hj;have Y:s'.cM j=s.cM j:=by
  have:s'.cM j=(s.bD i).cM j:=by unfold aH.cM;rw [ha.tr,ha.be]
  rw [this,Ap g h.lt (by omega)]
 have X:k< (s.bD i).nc+1:=by have:=U.1;rw [ha.n] at this;exact this
 rw [Y,ha.a];by_cases e:k=(s.bD i).nc
 . rw [if_pos e];obtain ⟨x,Q,h1,h2⟩:=h.mZ;rcases h.aE with e0| ⟨y,J,e0⟩
   . omega
   . have I:j< (s.R .be).length:=by omega
     have nx:=gL g (h.ft x Q);have Z:=gL g (h.ft y J);refine .inr ⟨x,Q,y,J,fun e=>by rw [e,e0] at h1;omega,fun hm=>nx (List.mem_of_mem_take hm),fun hm=> ?_,fun hm=>Z (List.mem_of_mem_take hm),fun hm=> ?_⟩
     . have:=(p8 g (h.ft x Q) I).1 hm;omega
     . have:=(p8 g (h.ft y J) I).1 hm;omega
 . rw [if_neg e];have hg:(s.bD i).gone k=false:=by have:=U.2;rw [ha.g,if_neg e] at this;exact this
   have O:s.aN k:=⟨by show k< (s.bD i).nc;omega,hg⟩
   rw [mD];exact b j (by omega) k O
def Hh (c:List Int) (v:Int):Nat:=if v∈c then 1 else if -v∈c then 2 else 0
def sK (c:List Int):Nat->Nat
 |0=>0
 |n+1=>Hh c ((n:Int)+1)+3*sK c n
theorem F8 (c:List Int) (v:Int):Hh c v<3:=by
 unfold Hh;split
 . omega
 . split<;>omega
theorem Al {c d:List Int}: ∀ {n:Nat},sK c n=sK d n->∀v:Nat,v<n->Hh c ((v:Int)+1)=Hh d ((v:Int)+1)
 |0,_,v,hv=>by omega
 |n+1,h,v,hv=>by
  unfold sK at h;have h1:=F8 c ((n:Int)+1);have J:=F8 d ((n:Int)+1);have I:Hh c ((n:Int)+1)=Hh d ((n:Int)+1):=by omega
  by_cases e:v=n
  . subst e;exact I
  . exact Al (n:=n) (by omega) v (by omega)
structure BQ (N:Nat) (c:List Int):Prop where
 qX: ∀x∈c,dB N x
 nt: ∀x∈c,-x ∉ c
 nd:c.Nodup
theorem BQ.mem (h:BQ N c) (I:dB N x):x∈c↔(0<x/\Hh c (bf x)=1)\/(x<0/\Hh c (bf x)=2):=by
 obtain ⟨O,h1,J⟩:=I;unfold bf;by_cases e:x<0
 . rw [if_pos e];unfold Hh;rw [Int.neg_neg];constructor
   . intro hm;have:=h.nt x hm;rw [if_neg this,if_pos hm];exact .inr ⟨e,rfl⟩
   . rintro (⟨a,_⟩| ⟨_,b⟩)
     . omega
     . split at b
       . omega
       . split at b
         . assumption
         . omega
 . rw [if_neg e];unfold Hh;constructor
   . intro hm;rw [if_pos hm];exact .inl ⟨by omega,rfl⟩
   . rintro (⟨_,b⟩| ⟨a,_⟩)
     . split at b
       . assumption
       . split at b<;>omega
     . omega
theorem BQ.same (h:BQ N c) (k:BQ N d) (e:sK c N=sK d N): ∀x,x∈c↔x∈d:=by
 have key: ∀x,dB N x->(x∈c↔x∈d):=fun x I=>by
  rw [h.mem I,k.mem I];have ha:=I.bf;have:=Al e ((bf x).toNat - 1) (by omega);rw [show (((bf x).toNat - 1:Nat):Int)+1=bf x by omega] at this;rw [this]
 intro x;exact ⟨fun I=> (key x (h.qX x I)).1 I,fun I=> (key x (k.qX x I)).2 I⟩
end
section
open Go.LeP
variable {s t s':aH} {l c d:List Int} {x y:Int} {i j N:Nat} {cs:List (List Int)} {hv:List (Nat × List Int)} {un:List (List Int)}
theorem hG (g:aL s) (I:dB s.vars x):s.val x=0↔x ∉ s.R .tr/\ -x ∉ s.R .tr:=by
 refine ⟨lx g I,fun ⟨h1,J⟩=> ?_⟩;have hb:=s.pw g.wf x;rcases hb with h|h|h
 . exact h
 . exact absurd ((g.v1 x I).1 h) h1
 . exact absurd ((g.v1 (-x) I.neg).1 (by rw [oe I];omega)) J
structure oQ (N:Nat) (cs:List (List Int)) (s:aH) (hv:List (Nat × List Int)) (un:List (List Int)):Prop where
 g:aL s
 v:s.vars=N
 fc: ∀j,j<cs.length->s.aN j/\s.R (.a j)=cs.getD j []
 imp: ∀i,s.aN i->AB N cs (s.R (.a i))
 Aa: ∀h∈hv,cs.length<=h.1/\s.aN h.1/\s.R (.a h.1)=h.2
 hn:(hv.map (·.1)).Nodup
 Kc: ∀c∈un,∃i,cs.length<=i/\s.aN i/\s.R (.a i)=c/\i ∉ hv.map (·.1)
 FD:AQ s
 dn:((hv.map (·.2)++un).map fun c=>sK c N).Nodup
 ok: ∀c∈hv.map (·.2)++un,BQ N c
theorem oQ.run (h:oQ N cs s hv un) (e:iM s s') (Q:aL s'):oQ N cs s' hv un:=by
 have th: ∀i,s'.aN i↔s.aN i:=fun i=>e.ni;exact ⟨Q,by rw [e.v,h.v],fun j J=> ⟨(th j).2 (h.fc j J).1,by rw [e.a];exact (h.fc j J).2⟩,fun i hi=>by rw [e.a];exact h.imp i ((th i).1 hi),
  fun k I=> ⟨(h.Aa k I).1,(th _).2 (h.Aa k I).2.1,by rw [e.a];exact (h.Aa k I).2.2⟩,h.hn,
  fun c O=>by obtain ⟨i,h1,X,U,V⟩:=h.Kc c O;exact ⟨i,h1,(th i).2 X,by rw [e.a];exact U,V⟩,h.FD.ext h.g e,h.dn,h.ok⟩
theorem oQ.decide (h:oQ N cs s hv un) (J:dz s) (hl:dB s.vars x) (X:s.val x=0):oQ N cs (s.decide x) hv un:=by
 exact ⟨pD h.g hl X,h.v,fun j O=> ⟨js.2 (h.fc j O).1,by rw [mX];exact (h.fc j O).2⟩,fun i hi=>by rw [mX];exact h.imp i (js.1 hi),
  fun k I=> ⟨(h.Aa k I).1,js.2 (h.Aa k I).2.1,by rw [mX];exact (h.Aa k I).2.2⟩,h.hn,
  fun c J=>by obtain ⟨i,h1,V,Q,U⟩:=h.Kc c J;exact ⟨i,h1,js.2 V,by rw [mX];exact Q,U⟩,h.FD.decide h.g J,h.dn,h.ok⟩
theorem oQ.bD (h:oQ N cs s hv un) (hi:i< (s.R .be).length):oQ N cs (s.bD i) hv un:=by
 exact ⟨lw h.g hi,h.v,fun j J=> ⟨(h.fc j J).1,by rw [mD];exact (h.fc j J).2⟩,fun k I=>by rw [mD];exact h.imp k I,
  fun k I=> ⟨(h.Aa k I).1,(h.Aa k I).2.1,by rw [mD];exact (h.Aa k I).2.2⟩,h.hn,
  fun c O=>by obtain ⟨k,h1,V,Q,U⟩:=h.Kc c O;exact ⟨k,h1,V,by rw [mD];exact Q,U⟩,h.FD.bD h.g hi,h.dn,h.ok⟩
theorem LS.Md (h:oQ N cs s hv un) (k:LS s l i):BQ N l:=
 ⟨fun x I=>by have:=k.qX h.g I;rwa [h.v] at this,fun x I hm=>gL h.g (k.ft x I) (by have:=k.ft _ hm;rwa [Int.neg_neg] at this),k.nd⟩
theorem LS.F0 (h:oQ N cs s hv un) (k:LS s l i):sK l N ∉ (hv.map (·.2)++un).map fun c=>sK c N:=by
 intro hm;obtain ⟨c,I,e⟩:=List.mem_map.1 hm;have same:=(h.ok c I).same (k.Md h) e;rcases List.mem_append.1 I with I|I
 . obtain ⟨p,hp,rfl⟩:=List.mem_map.1 I;obtain ⟨_,O,J⟩:=h.Aa p hp;exact k.new h.g h.FD O (by rw [J];exact same)
 . obtain ⟨q,_,O,J,_⟩:=h.Kc c I;exact k.new h.g h.FD O (by rw [J];exact same)
structure GY (N:Nat) (cs:List (List Int)) (s:aH) (hv:List (Nat × List Int)) (un:List (List Int)) (l:List Int) (nc:Nat):Prop where
 g:aL s
 v:s.vars=N
 fc: ∀j,j<cs.length->s.aN j/\s.R (.a j)=cs.getD j []
 imp: ∀i,s.aN i->AB N cs (s.R (.a i))
 Aa: ∀h∈hv,cs.length<=h.1/\s.aN h.1/\s.R (.a h.1)=h.2
 hn:(hv.map (·.1)).Nodup
 Kc: ∀c∈un,∃i,cs.length<=i/\s.aN i/\s.R (.a i)=c/\i ∉ hv.map (·.1)/\i<nc
 FD:AQ s
 dn:((hv.map (·.2)++un).map fun c=>sK c N).Nodup
 ok: ∀c∈hv.map (·.2)++un,BQ N c
 lc:sK l N ∉ (hv.map (·.2)++un).map fun c=>sK c N
 lo:BQ N l
 la:cs.length<=nc/\s.aN nc/\s.R (.a nc)=l
 hl: ∀h∈hv,h.1<nc
theorem oQ.MH (h:oQ N cs s hv un) (k:LS s l i) (f:AB N cs l) (ha:kI (s.bD i) l s') (Z:aL s'):GY N cs s' hv un l s.nc:=by
 have enc:(s.bD i).nc=s.nc:=rfl;have V:cs.length<=s.nc:=by
  rcases Nat.lt_or_ge s.nc cs.length with e|e
  . exact absurd (h.fc _ e).1.1 (Nat.lt_irrefl _)
  . exact e
 have th: ∀ {j},s.aN j->s'.aN j/\s'.R (.a j)=s.R (.a j):=fun {j} I=>by
  have Q:j≠s.nc:=by have:=I.1;omega
  refine ⟨⟨?_,?_⟩,?_⟩
  . rw [ha.n,enc];have:=I.1;omega
  . rw [ha.g,enc,if_neg Q];exact I.2
  . rw [ha.a,enc,if_neg Q,mD]
 have X:s'.aN s.nc/\s'.R (.a s.nc)=l:=by
  refine ⟨⟨?_,?_⟩,?_⟩
  . rw [ha.n,enc];omega
  . rw [ha.g,enc,if_pos rfl]
  . rw [ha.a,enc,if_pos rfl]
 refine ⟨Z,by rw [ha.v];exact h.v,fun j I=> ⟨(th (h.fc j I).1).1,by rw [(th (h.fc j I).1).2];exact (h.fc j I).2⟩,fun j I=> ?_,fun p hp=> ?_,h.hn,fun c Y=> ?_,k.add h.g h.FD ha,h.dn,h.ok,k.F0 h,k.Md h,⟨V,X⟩,fun p hp=> (h.Aa p hp).2.1.1⟩
 . by_cases e:j=s.nc
   . subst e;rw [X.2];exact f
   . have O:s.aN j:=by
      refine ⟨?_,?_⟩
      . have:=I.1;rw [ha.n,enc] at this;omega
      . have:=I.2;rw [ha.g,enc,if_neg e] at this;exact this
     rw [(th O).2];exact h.imp j O
 . obtain ⟨h1,J,U⟩:=h.Aa p hp;exact ⟨h1,(th J).1,by rw [(th J).2];exact U⟩
 . obtain ⟨q,h1,J,U,h4⟩:=h.Kc c Y;exact ⟨q,h1,(th J).1,by rw [(th J).2];exact U,h4,J.1⟩
theorem ub {α:Type} {l:List α} {a:α} (h:l.Nodup) (ha:a ∉ l):(l++ [a]).Nodup:=by
 rw [List.nodup_append];exact ⟨h,by simp,fun x J y I=>by rw [List.mem_singleton] at I;subst I;rintro rfl;exact ha J⟩
theorem LO {α:Type} {l m:List α} {a:α} (h:(l++m).Nodup) (ha:a ∉ l++m):(l++ [a]++m).Nodup:=by
 have hp:(l++ [a]++m).Perm (l++m++ [a]):=by
  rw [List.append_assoc,List.append_assoc];exact List.Perm.append_left _ (List.perm_append_comm)
 exact hp.nodup_iff.2 (ub h ha)
theorem GY.HV (h:GY N cs s hv un l i):oQ N cs s (hv++ [(i,l)]) un:=by
 obtain ⟨h1,X,U⟩:=h.la;refine ⟨h.g,h.v,h.fc,h.imp,fun p hp=> ?_,?_,fun c I=> ?_,h.FD,?_,fun c I=> ?_⟩
 . rcases List.mem_append.1 hp with hp|hp
   . exact h.Aa p hp
   . rw [List.mem_singleton] at hp;subst hp;exact ⟨h1,X,U⟩
 . rw [List.map_append];exact ub h.hn fun hm=>by
    obtain ⟨p,hp,e⟩:=List.mem_map.1 hm;have:=h.hl p hp;simp at e;omega
 . obtain ⟨q,O,Q,J,V,Y⟩:=h.Kc c I;refine ⟨q,O,Q,J,fun hm=> ?_⟩;rw [List.map_append] at hm;rcases List.mem_append.1 hm with hm|hm
   . exact V hm
   . simp at hm;omega
 . rw [List.map_append,List.map_append,List.map_append];have:=h.dn;have hl:=h.lc;rw [List.map_append] at this hl;exact LO this hl
 . rw [List.map_append] at I;rcases List.mem_append.1 I with I|I
   . rcases List.mem_append.1 I with I|I
     . exact h.ok c (List.mem_append_left _ I)
     . simp at I;subst I;exact h.lo
   . exact h.ok c (List.mem_append_right _ I)
theorem GY.Gd (h:GY N cs s hv un l i):oQ N cs s hv (un++ [l]):=by
 obtain ⟨h1,X,O⟩:=h.la;refine ⟨h.g,h.v,h.fc,h.imp,h.Aa,h.hn,fun c I=> ?_,h.FD,?_,fun c I=> ?_⟩
 . rcases List.mem_append.1 I with I|I
   . obtain ⟨q,Q,V,J,U,Y⟩:=h.Kc c I;exact ⟨q,Q,V,J,U⟩
   . rw [List.mem_singleton] at I;subst I;exact ⟨i,h1,X,O,fun hm=>by
      obtain ⟨p,hp,e⟩:=List.mem_map.1 hm;have:=h.hl p hp;omega⟩
 . rw [<- List.append_assoc,List.map_append];exact ub h.dn h.lc
 . rw [<- List.append_assoc] at I;rcases List.mem_append.1 I with I|I
   . exact h.ok c I
   . rw [List.mem_singleton] at I;subst I;exact h.lo
theorem sy (h:j≠i):(s.drop i).R (.a j)=s.R (.a j):=by
 unfold aH.drop aH.del;show (((((lV i s ((s.R (.l i)).take 2)).set .lo _).set (.a i) []).set (.l i) []).R (.a j))=_;rw [aq (by simp),aq (by simpa using h),aq (by simp),iB _ (by simp)]
theorem uw {z:Pt} (h:z= .tr\/z= .be):(s.drop i).R z=s.R z:=by
 unfold aH.drop aH.del;show (((((lV i s ((s.R (.l i)).take 2)).set .lo _).set (.a i) []).set (.l i) []).R z)=_;rcases h with rfl|rfl<;>rw [aq (by simp),aq (by simp),aq (by simp),iB _ (by simp)]
theorem BU:(s.drop i).vars=s.vars:=by
 obtain ⟨d1,d2,d3,_⟩:=gZ (i:Int) ((s.R (.l i)).take 2) s;exact d1
theorem oQ.drop {A B:List (Nat × List Int)} {p:Nat × List Int} (h:oQ N cs s (A++p::B) un) (Z:aL (s.drop p.1)):oQ N cs (s.drop p.1) (A++B) un:=by
 have hp:=h.Aa p (by simp);have hn:=h.hn;rw [List.map_append,List.map_cons] at hn;have Q:p.1 ∉ (A++B).map (·.1)/\((A++B).map (·.1)).Nodup:=by
  rw [List.map_append];have hp:(A.map (·.1)++p.1::B.map (·.1)).Perm (p.1::(A.map (·.1)++B.map (·.1))):=List.perm_middle;exact List.nodup_cons.1 (hp.nodup_iff.1 hn)
 have sub: ∀q∈A++B,q∈A++p::B:=fun q hq=>by
  rcases List.mem_append.1 hq with hq|hq
  . exact List.mem_append_left _ hq
  . exact List.mem_append_right _ (List.mem_cons_of_mem _ hq)
 have ne: ∀q∈A++B,q.1≠p.1:=fun q hq e=>Q.1 (by rw [<- e];exact List.mem_map.2 ⟨q,hq,rfl⟩);refine ⟨Z,by rw [BU];exact h.v,fun j O=> ?_,fun j O=> ?_,fun q hq=> ?_,Q.2,fun c J=> ?_,fun j O k X=> ?_,?_,fun c J=> ?_⟩
 . have I:j≠p.1:=by omega
   exact ⟨fS.2 ⟨(h.fc j O).1,I⟩,by rw [sy I];exact (h.fc j O).2⟩
 . obtain ⟨h1,U⟩:=fS.1 O;rw [sy U];exact h.imp j h1
 . obtain ⟨h1,U,h3⟩:=h.Aa q (sub q hq);exact ⟨h1,fS.2 ⟨U,ne q hq⟩,by rw [sy (ne q hq)];exact h3⟩
 . obtain ⟨q,q1,q2,Y,V⟩:=h.Kc c J;have I:q≠p.1:=fun e=>V (by rw [e];exact List.mem_map.2 ⟨p,by simp,rfl⟩);exact ⟨q,q1,fS.2 ⟨q2,I⟩,by rw [sy I];exact Y,fun hm=>by
    obtain ⟨r,hr,e⟩:=List.mem_map.1 hm;exact V (List.mem_map.2 ⟨r,sub r hr,e⟩)⟩
 . obtain ⟨h1,U⟩:=fS.1 X;rw [uw (.inr rfl)] at O;have:=h.FD j O k h1;unfold aH.cM;rw [sy U,uw (.inl rfl),uw (.inr rfl)];exact this
 . have:=h.dn;refine this.sublist (List.Sublist.map _ ?_);refine List.Sublist.append ?_ (List.Sublist.refl _);exact List.Sublist.map _ (List.Sublist.append (List.Sublist.refl _) (List.sublist_cons_self _ _))
 . refine h.ok c ?_;rcases List.mem_append.1 J with J|J
   . obtain ⟨q,hq,rfl⟩:=List.mem_map.1 J;exact List.mem_append_left _ (List.mem_map.2 ⟨q,sub q hq,rfl⟩)
   . exact List.mem_append_right _ J
def zU (N:Nat) (s:aH) (S:Int->Prop):Prop:= ∀v:Int,1<=v->v<=N->s.val v=0->S v
theorem zU.run {S:Int->Prop} (h:zU N s S) (k:oQ N cs s hv un) (e:iM s s') (O:aL s'):zU N s' S:=by
 intro v v1 v2 Q;have J:dB s.vars v:=⟨by omega,by rw [k.v];omega,by rw [k.v];omega⟩
 have I:dB s'.vars v:=by rw [e.v];exact J
 obtain ⟨a,b⟩:=(hG O I).1 Q;exact h v v1 v2 ((hG k.g J).2 ⟨fun m=>a (e.mem m),fun m=>b (e.mem m)⟩)
end
section
open Go.LeP
variable {w0 w w' w1 w2:World} {B N:Nat} {L L':Nat->Nat}
structure Hc where
 i:Nat
 sl:Sl
 c:List Int
 lv:Int
 sz:Int
 lk:Bool
def EA (h:Hc):List Value:= [.int .i64 h.i,h.sl.v,.int .i64 h.lv,.int .i64 h.sz,.bool h.lk]
theorem xF:HJ 5 EA:=⟨fun _=>rfl,by omega,fun x v hv=>by
 simp only [EA,List.mem_cons,List.not_mem_nil,or_false] at hv;rcases hv with rfl|rfl|rfl|rfl|rfl<;>rfl⟩
abbrev Us:=Sl × List Int
abbrev Ps:=Bool × Sl × List Int
def KF (h:Ps):List Value:= [.bool h.1,h.2.1.v]
theorem GC:HJ 2 KF:=⟨fun _=>rfl,by omega,fun x v hv=>by
 simp only [KF,List.mem_cons,List.not_mem_nil,or_false] at hv;rcases hv with rfl|rfl<;>rfl⟩
structure Me where
 n:Int
 f:Sl
 vj:Int
 uni:Int
 lrn:Int
 pu:Int
 pa:Int
 pl:Int
 bE:Int
 ke:Int
 cf:Int
 de:Int
 re:Int
 dr:Int
structure Xs where
 m:Me
 pb:Nat
 hb:Nat
 DS:Sl
 hs:Sl
 us:Sl
 ps:Sl
 ms:Sl
 s:aH
 S:Int->Prop
 ph:List Int
 hv:List Hc
 un:List Us
 pr:List Ps
 mo:List Int
def Xs.cells (x:Xs):Array Value:= #[.int .i64 x.m.n,x.m.f.v,.int .i64 x.m.vj,.int .i64 x.m.uni,.int .i64 x.m.lrn,bL x.pb,bL x.hb,x.DS.v,.int .i64 x.m.pu,.int .i64 x.m.pa,.int .i64 x.m.pl,
 x.hs.v,x.us.v,.int .i64 x.m.bE,.int .i64 x.m.ke,x.ms.v,x.ps.v,.int .i64 x.m.cf,.int .i64 x.m.de,.int .i64 x.m.re,.int .i64 x.m.dr]
structure RO (w:World) (L:Nat->Nat) (s:Sl) (c:List Int):Prop where
 n:s.n=c.length
 v:Vw (Value.int .i64) w s.p c
 l: ∀k,aJ s.p=some k->L k=9/\k<w.heap.size
structure J7 (E:Nat->Prop) (w0 w:World) (B:Nat) (L:Nat->Nat) (N:Nat) (x:Xs):Prop where
 g:ao w0 w
 me: ¬E 1->bA w B x.cells
 ml:L B=1/\w0.heap.size<=B/\B<w.heap.size
 pm: ¬E 2->∃H,PM w x.pb H x.s/\∀y k,own x.pb H y=some k->L k=2/\w0.heap.size<=k
 hp: ¬E 3->∃z,Hp.bZ w x.hb z/\Hp.mh z N/\(∀u:Int,1<=u->u<=N->(0<HeapP.g z.at_ u↔x.S u))/\∀k,z.bK x.hb k->L k=3/\w0.heap.size<=k
 ph: ¬E 4->da aC w x.DS.p x.DS.c x.ph/\x.DS.n=x.ph.length/\∀k,aJ x.DS.p=some k->L k=4/\w0.heap.size<=k
 hv: ¬E 5->Row 5 EA bX w x.hs.p x.hs.c x.hv/\x.hs.n=x.hv.length/\∀k,aJ x.hs.p=some k->L k=5/\w0.heap.size<=k
 hr: ¬E 9->∀h∈x.hv,RO w L h.sl h.c
 un: ¬E 6->Ow Sl.v aI w x.us.p x.us.c (x.un.map (·.1))/\x.us.n=x.un.length/\∀k,aJ x.us.p=some k->L k=6/\w0.heap.size<=k
 ur: ¬E 9->∀u∈x.un,RO w L u.1 u.2
 pr: ¬E 7->Row 2 KF mi w x.ps.p x.ps.c x.pr/\x.ps.n=x.pr.length/\∀k,aJ x.ps.p=some k->L k=7/\w0.heap.size<=k
 rr: ¬E 9->∀u∈x.pr,RO w L u.2.1 u.2.2
 mo: ¬E 8->da aC w x.ms.p x.ms.c x.mo/\x.ms.n=x.mo.length/\∀k,aJ x.ms.p=some k->L k=8/\w0.heap.size<=k
abbrev SR:=J7 fun _=>False
structure jY (E:Nat->Prop) (w0 w w':World) (L L':Nat->Nat):Prop where
 mod:aF (fun k=>E (L k)/\w0.heap.size<=k) w w'
 Ac: ∀k,k<w.heap.size->L' k=L k
def jE (L:Nat->Nat) (n i:Nat):Nat->Nat:=fun k=>if k<n then L k else i
theorem cN {n i k:Nat} (h:k<n):jE L n i k=L k:=by unfold jE;rw [if_pos h]
theorem iA {n i k:Nat} (h:n<=k):jE L n i k=i:=by unfold jE;rw [if_neg (by omega)]
abbrev Kp:=jY fun i=>i≠9
theorem jY.trans {E:Nat->Prop} {I:Nat->Nat} (h:jY E w0 w w1 L I) (k:jY E w0 w1 w2 I L'):jY E w0 w w2 L L':=
 ⟨h.mod.then k.mod fun b hb ⟨e,J⟩=> ⟨by rw [<- h.Ac b hb];exact e,J⟩,fun b hb=>by rw [k.Ac b (Nat.lt_of_lt_of_le hb h.mod.size),h.Ac b hb]⟩
theorem jY.grow {E:Nat->Prop} (g:ao w w'):jY E w0 w w' L L:=⟨g.mono fun _ _ e=>e.elim,fun _ _=>rfl⟩
theorem jY.new {E:Nat->Prop} (g:ao w w') (i:Nat):jY E w0 w w' L (jE L w.heap.size i):=⟨g.mono fun _ _ e=>e.elim,fun _ I=>cN I⟩
theorem jY.tK {E E':Nat->Prop} (h:jY E w0 w w' L L') (I: ∀i,E i->E' i):jY E' w0 w w' L L':=⟨h.mod.mono fun _ _ e=> ⟨I _ e.1,e.2⟩,h.Ac⟩
theorem RO.keep {s:Sl} {c:List Int} {E:Nat->Prop} (h:RO w L s c) (k:jY E w0 w w' L L') (I: ¬E 9):RO w' L' s c:=
 ⟨h.n,h.v.keep k.mod fun b hb ⟨e,_⟩=>I (by rw [<- (h.l b hb).1];exact e),fun b hb=> ⟨by rw [k.Ac b (h.l b hb).2];exact (h.l b hb).1,Nat.lt_of_lt_of_le (h.l b hb).2 k.mod.size⟩⟩
theorem J7.Ky {E E':Nat->Prop} {x:Xs} (h:J7 E w0 w B L N x) (k:jY E' w0 w w' L L'):J7 (fun i=>E i\/E' i) w0 w' B L' N x:=by
 have nt: ∀ {i:Nat} {j:Nat},¬(E i\/E' i)->L j=i->¬(E' (L j)/\w0.heap.size<=j):=fun hi I U=>hi (.inr (by rw [<- I];exact U.1));refine ⟨h.g.then k.mod fun b hb U=>by omega,fun e=> (h.me fun J=>e (.inl J)).keep k.mod (nt e h.ml.1),⟨by rw [k.Ac B h.ml.2.2];exact h.ml.1,h.ml.2.1,Nat.lt_of_lt_of_le h.ml.2.2 k.mod.size⟩,fun e=> ?_,fun e=> ?_,fun e=> ?_,fun e=> ?_,fun e u hu=> (h.hr (fun J=>e (.inl J)) u hu).keep k fun J=>e (.inr J),fun e=> ?_,fun e u hu=> (h.ur (fun J=>e (.inl J)) u hu).keep k fun J=>e (.inr J),fun e=> ?_,fun e u hu=> (h.rr (fun J=>e (.inl J)) u hu).keep k fun J=>e (.inr J),fun e=> ?_⟩
 . obtain ⟨H,h1,Q⟩:=h.pm fun J=>e (.inl J);exact ⟨H,h1.keep k.mod fun y j I=>nt e (Q y j I).1,fun y j I=>by rw [k.Ac j (h1.lt y j I)];exact Q y j I⟩
 . obtain ⟨z,h1,Q,O,V⟩:=h.hp fun J=>e (.inl J);exact ⟨z,h1.keep k.mod fun j I=>nt e (V j I).1,Q,O,fun j I=>by rw [k.Ac j (h1.lt j I)];exact V j I⟩
 . obtain ⟨h1,Q,O⟩:=h.ph fun J=>e (.inl J);exact ⟨h1.keep k.mod fun j I=>nt e (O j I).1,Q,fun j I=>by rw [k.Ac j (h1.lt j I)];exact O j I⟩
 . obtain ⟨h1,Q,O⟩:=h.hv fun J=>e (.inl J);exact ⟨h1.keep k.mod fun j I=>nt e (O j I).1,Q,fun j I=>by rw [k.Ac j (h1.lt j I)];exact O j I⟩
 . obtain ⟨h1,Q,O⟩:=h.un fun J=>e (.inl J);exact ⟨h1.keep k.mod fun j I=>nt e (O j I).1,Q,fun j I=>by rw [k.Ac j (h1.lt j I)];exact O j I⟩
 . obtain ⟨h1,Q,O⟩:=h.pr fun J=>e (.inl J);exact ⟨h1.keep k.mod fun j I=>nt e (O j I).1,Q,fun j I=>by rw [k.Ac j (h1.lt j I)];exact O j I⟩
 . obtain ⟨h1,Q,O⟩:=h.mo fun J=>e (.inl J);exact ⟨h1.keep k.mod fun j I=>nt e (O j I).1,Q,fun j I=>by rw [k.Ac j (h1.lt j I)];exact O j I⟩
section
variable {x:Xs}
theorem J7.tK {E E':Nat->Prop} (h:J7 E w0 w B L N x) (I: ∀i,E i->E' i):J7 E' w0 w B L N x:=
 ⟨h.g,fun e=>h.me fun c=>e (I _ c),h.ml,fun e=>h.pm fun c=>e (I _ c),fun e=>h.hp fun c=>e (I _ c),fun e=>h.ph fun c=>e (I _ c),fun e=>h.hv fun c=>e (I _ c),fun e=>h.hr fun c=>e (I _ c),fun e=>h.un fun c=>e (I _ c),fun e=>h.ur fun c=>e (I _ c),fun e=>h.pr fun c=>e (I _ c),fun e=>h.rr fun c=>e (I _ c),fun e=>h.mo fun c=>e (I _ c)⟩
theorem SR.at (h:SR w0 w B L N x):bA w B x.cells:=h.me id
theorem SR.new (h:SR w0 w B L N x) (m:ao w w') (i:Nat):SR w0 w' B (jE L w.heap.size i) N x:=
 (h.Ky (E':=fun _=>False) ⟨m.mono fun _ _ e=>e.elim,fun _ I=>cN I⟩).tK fun _ e=>e.elim id id
theorem SR.grow (h:SR w0 w B L N x) (m:ao w w'):SR w0 w' B L N x:=
 (h.Ky (E':=fun _=>False) ⟨m.mono fun _ _ e=>e.elim,fun _ I=>rfl⟩).tK fun _ e=>e.elim id id
theorem SR.drew (h:SR w0 w B L N x):SR w0 w.drew B L N x:=h.grow (aF.refl _).drew
theorem SR.bH (h:SR w0 w B L N x) (i:Nat) (m:aF (fun k=>L k=i/\w0.heap.size<=k) w w'):J7 (fun j=>j=i) w0 w' B (jE L w.heap.size i) N x:=
 (h.Ky (E':=fun j=>j=i) ⟨m,fun _ I=>cN I⟩).tK fun _ e=>e.elim False.elim id
theorem SR.aE (h:SR w0 w B L N x) (i:Nat) (m:aF (fun k=>L k=i/\w0.heap.size<=k) w w1) (m2:aF (·=B) w1 w'):J7 (fun j=>j=i\/j=1) w0 w' B (jE L w.heap.size i) N x:=by
 refine (h.Ky (E':=fun j=>j=i\/j=1) ⟨?_,fun _ I=>cN I⟩).tK fun _ e=>e.elim False.elim id;exact (m.mono fun k _ e=> ⟨.inl e.1,e.2⟩).then m2 fun k I (e:k=B)=>by subst e;exact ⟨.inr h.ml.1,h.ml.2.1⟩
theorem we {p q:Option Addr} {i:Nat} (h: ∀k,aJ p=some k->L k=i/\w0.heap.size<=k) (hl: ∀k,aJ p=some k->k<w.heap.size) (g:ao w0 w) (hq: ∀k,aJ q=some k->aJ p=some k\/w.heap.size<=k):
 ∀k,aJ q=some k->jE L w.heap.size i k=i/\w0.heap.size<=k:=by
 intro k I;rcases hq k I with e|e
 . rw [cN (hl k e)];exact h k e
 . exact ⟨iA e,Nat.le_trans g.size e⟩
theorem SR.own (h:SR w0 w B L N x) {m':Me} (st:bA w' B {x with m:=m'}.cells) (m:aF (·=B) w w'):(SR w0 w' B L N {x with m:=m'})/\Kp w0 w w' L L:=by
 have b:=(h.Ky (E':=fun j=>j=1) (w':=w') (L':=L) ⟨m.mono fun k _ (e:k=B)=>by subst e;exact ⟨h.ml.1,h.ml.2.1⟩,fun _ _=>rfl⟩)
 exact ⟨⟨b.g,fun _=>st,b.ml,fun _=>b.pm (by simp),fun _=>b.hp (by simp),fun _=>b.ph (by simp),fun _=>b.hv (by simp),fun _=>b.hr (by simp),fun _=>b.un (by simp),fun _=>b.ur (by simp),fun _=>b.pr (by simp),fun _=>b.rr (by simp),fun _=>b.mo (by simp)⟩,⟨m.mono fun k _ (e:k=B)=>by subst e;exact ⟨by rw [h.ml.1];decide,h.ml.2.1⟩,fun _ _=>rfl⟩⟩
theorem SR.sU (h:SR w0 w B L N x) {H Q:Pt->Sl} (I: ∀y k,Go.Proofs.YtenmibfmhccmiaaGreat.W.own x.pb H y=some k->L k=2/\w0.heap.size<=k) (J: ∀y k,Go.Proofs.YtenmibfmhccmiaaGreat.W.own x.pb H y=some k->k<w.heap.size) {s':aH} (p:Pw w w' x.pb H Q s'):(SR w0 w' B (jE L w.heap.size 2) N {x with s:=s'})/\Kp w0 w w' L (jE L w.heap.size 2):=by
 have b:=h.bH 2 (p.mod.mono fun k _ ⟨y,e⟩=>I y k e);refine ⟨⟨b.g,fun _=>b.me (by simp),b.ml,fun _=> ⟨Q,p.pm,fun y k O=> ?_⟩,fun _=>b.hp (by simp),fun _=>b.ph (by simp),fun _=>b.hv (by simp),fun _=>b.hr (by simp),fun _=>b.un (by simp),fun _=>b.ur (by simp),fun _=>b.pr (by simp),fun _=>b.rr (by simp),fun _=>b.mo (by simp)⟩,⟨p.mod.mono fun k _ ⟨y,e⟩=> ⟨by rw [(I y k e).1];decide,(I y k e).2⟩,fun _ O=>cN O⟩⟩;rcases p.ft y k O with ⟨z,e⟩|e
 . rw [cN (J z k e)];exact I z k e
 . exact ⟨iA e,Nat.le_trans h.g.size e⟩
theorem SR.heap (h:SR w0 w B L N x) {z I:Hp.HS} (J: ∀k,z.bK x.hb k->L k=3/\w0.heap.size<=k) (O: ∀k,z.bK x.hb k->k<w.heap.size) (r:Hp.bZ w' x.hb I) (U:Hp.mh I N) {S':Int->Prop} (V: ∀u:Int,1<=u->u<=N->(0<HeapP.g I.at_ u↔S' u))
 (m:aF (z.bK x.hb) w w') (hf: ∀k,I.bK x.hb k->z.bK x.hb k\/w.heap.size<=k):(SR w0 w' B (jE L w.heap.size 3) N {x with S:=S'})/\Kp w0 w w' L (jE L w.heap.size 3):=by
 have b:=h.bH 3 (m.mono fun k _ e=>J k e);refine ⟨⟨b.g,fun _=>b.me (by simp),b.ml,fun _=>b.pm (by simp),fun _=> ⟨I,r,U,V,fun k Q=> ?_⟩,fun _=>b.ph (by simp),fun _=>b.hv (by simp),fun _=>b.hr (by simp),fun _=>b.un (by simp),fun _=>b.ur (by simp),fun _=>b.pr (by simp),fun _=>b.rr (by simp),fun _=>b.mo (by simp)⟩,⟨m.mono fun k _ e=> ⟨by rw [(J k e).1];decide,(J k e).2⟩,fun _ Q=>cN Q⟩⟩;rcases hf k Q with e|e
 . rw [cN (O k e)];exact J k e
 . exact ⟨iA e,Nat.le_trans h.g.size e⟩
theorem SR.phase (h:SR w0 w B L N x) {l':List Int} (hl:l'.length=x.ph.length) (o:da aC w' x.DS.p x.DS.c l') (m:aF (fun k=>aJ x.DS.p=some k) w w'):(SR w0 w' B (jE L w.heap.size 4) N {x with ph:=l'})/\Kp w0 w w' L (jE L w.heap.size 4):=by
 obtain ⟨O,p2,I⟩:=h.ph id;have b:=h.bH 4 (m.mono fun k _ e=>I k e);exact ⟨⟨b.g,fun _=>b.me (by simp),b.ml,fun _=>b.pm (by simp),fun _=>b.hp (by simp),fun _=> ⟨o,by rw [p2];exact hl.symm,we I O.lt h.g fun k e=> .inl e⟩,fun _=>b.hv (by simp),fun _=>b.hr (by simp),fun _=>b.un (by simp),fun _=>b.ur (by simp),fun _=>b.pr (by simp),fun _=>b.rr (by simp),fun _=>b.mo (by simp)⟩,⟨m.mono fun k _ e=> ⟨by rw [(I k e).1];decide,(I k e).2⟩,fun _ J=>cN J⟩⟩
theorem RO.re {s:Sl} {c:List Int} {i:Nat} (h:RO w L s c) {E:Nat->Prop} (m:aF (fun k=>E (L k)/\w0.heap.size<=k) w w') (J: ¬E 9):RO w' (jE L w.heap.size i) s c:=h.keep ⟨m,fun _ I=>cN I⟩ J
theorem SR.HV (h:SR w0 w B L N x) {q:Sl} {hv':List Hc} (m:aF (fun k=>aJ x.hs.p=some k) w w1) (r:Row 5 EA bX w1 q.p q.c hv') (hq:q.n=hv'.length) (hf: ∀k,aJ q.p=some k->aJ x.hs.p=some k\/w.heap.size<=k)
 (O: ∀u∈hv',RO w L u.sl u.c) (st:bA w2 B {x with hs:=q,hv:=hv'}.cells) (m2:aF (·=B) w1 w2) (V:aJ q.p≠some B):(SR w0 w2 B (jE L w.heap.size 5) N {x with hs:=q,hv:=hv'})/\Kp w0 w w2 L (jE L w.heap.size 5):=by
 obtain ⟨U,p2,I⟩:=h.hv id;have b:=h.aE 5 (m.mono fun k _ e=>I k e) m2;have Q:aF (fun k=> (L k=5\/L k=1)/\w0.heap.size<=k) w w2:=(m.mono fun k _ e=> ⟨.inl (I k e).1,(I k e).2⟩).then m2 fun k J (e:k=B)=>by subst e;exact ⟨.inr h.ml.1,h.ml.2.1⟩
 exact ⟨⟨b.g,fun _=>st,b.ml,fun _=>b.pm (by simp),fun _=>b.hp (by simp),fun _=>b.ph (by simp),fun _=> ⟨r.keep m2 fun k J (e:k=B)=>V (by rw [<- e];exact J),hq,we I U.lt h.g hf⟩,fun _ u hu=> (O u hu).re (E:=fun j=>j=5\/j=1) Q (by simp),fun _=>b.un (by simp),fun _=>b.ur (by simp),fun _=>b.pr (by simp),fun _=>b.rr (by simp),fun _=>b.mo (by simp)⟩,⟨(m.mono fun k _ e=> ⟨by rw [(I k e).1];decide,(I k e).2⟩).then m2 fun k J (e:k=B)=>by subst e;exact ⟨by rw [h.ml.1];decide,h.ml.2.1⟩,fun _ J=>cN J⟩⟩
theorem SR.Gd (h:SR w0 w B L N x) {q:Sl} {un':List Us} (m:aF (fun k=>aJ x.us.p=some k) w w1) (r:Ow Sl.v aI w1 q.p q.c (un'.map (·.1))) (hq:q.n=un'.length) (hf: ∀k,aJ q.p=some k->aJ x.us.p=some k\/w.heap.size<=k)
 (O: ∀u∈un',RO w L u.1 u.2) (st:bA w2 B {x with us:=q,un:=un'}.cells) (m2:aF (·=B) w1 w2) (V:aJ q.p≠some B):(SR w0 w2 B (jE L w.heap.size 6) N {x with us:=q,un:=un'})/\Kp w0 w w2 L (jE L w.heap.size 6):=by
 obtain ⟨U,p2,I⟩:=h.un id;have b:=h.aE 6 (m.mono fun k _ e=>I k e) m2;have Q:aF (fun k=> (L k=6\/L k=1)/\w0.heap.size<=k) w w2:=(m.mono fun k _ e=> ⟨.inl (I k e).1,(I k e).2⟩).then m2 fun k J (e:k=B)=>by subst e;exact ⟨.inr h.ml.1,h.ml.2.1⟩
 exact ⟨⟨b.g,fun _=>st,b.ml,fun _=>b.pm (by simp),fun _=>b.hp (by simp),fun _=>b.ph (by simp),fun _=>b.hv (by simp),fun _=>b.hr (by simp),fun _=> ⟨r.keep m2 fun k J (e:k=B)=>V (by rw [<- e];exact J),hq,we I U.lt h.g hf⟩,fun _ u hu=> (O u hu).re (E:=fun j=>j=6\/j=1) Q (by simp),fun _=>b.pr (by simp),fun _=>b.rr (by simp),fun _=>b.mo (by simp)⟩,⟨(m.mono fun k _ e=> ⟨by rw [(I k e).1];decide,(I k e).2⟩).then m2 fun k J (e:k=B)=>by subst e;exact ⟨by rw [h.ml.1];decide,h.ml.2.1⟩,fun _ J=>cN J⟩⟩
theorem SR.Ig (h:SR w0 w B L N x) {q:Sl} {pr':List Ps} (m:aF (fun k=>aJ x.ps.p=some k) w w1) (r:Row 2 KF mi w1 q.p q.c pr') (hq:q.n=pr'.length) (hf: ∀k,aJ q.p=some k->aJ x.ps.p=some k\/w.heap.size<=k)
 (O: ∀u∈pr',RO w L u.2.1 u.2.2) (st:bA w2 B {x with ps:=q,pr:=pr'}.cells) (m2:aF (·=B) w1 w2) (V:aJ q.p≠some B):(SR w0 w2 B (jE L w.heap.size 7) N {x with ps:=q,pr:=pr'})/\Kp w0 w w2 L (jE L w.heap.size 7):=by
 obtain ⟨U,p2,I⟩:=h.pr id;have b:=h.aE 7 (m.mono fun k _ e=>I k e) m2;have Q:aF (fun k=> (L k=7\/L k=1)/\w0.heap.size<=k) w w2:=(m.mono fun k _ e=> ⟨.inl (I k e).1,(I k e).2⟩).then m2 fun k J (e:k=B)=>by subst e;exact ⟨.inr h.ml.1,h.ml.2.1⟩
 exact ⟨⟨b.g,fun _=>st,b.ml,fun _=>b.pm (by simp),fun _=>b.hp (by simp),fun _=>b.ph (by simp),fun _=>b.hv (by simp),fun _=>b.hr (by simp),fun _=>b.un (by simp),fun _=>b.ur (by simp),fun _=> ⟨r.keep m2 fun k J (e:k=B)=>V (by rw [<- e];exact J),hq,we I U.lt h.g hf⟩,fun _ u hu=> (O u hu).re (E:=fun j=>j=7\/j=1) Q (by simp),fun _=>b.mo (by simp)⟩,⟨(m.mono fun k _ e=> ⟨by rw [(I k e).1];decide,(I k e).2⟩).then m2 fun k J (e:k=B)=>by subst e;exact ⟨by rw [h.ml.1];decide,h.ml.2.1⟩,fun _ J=>cN J⟩⟩
theorem SR.Ng (h:SR w0 w B L N x) {q:Sl} {mo':List Int} (m:aF (fun k=>aJ x.ms.p=some k) w w1) (r:da aC w1 q.p q.c mo') (hq:q.n=mo'.length) (hf: ∀k,aJ q.p=some k->aJ x.ms.p=some k\/w.heap.size<=k)
 (st:bA w2 B {x with ms:=q,mo:=mo'}.cells) (m2:aF (·=B) w1 w2) (Q:aJ q.p≠some B):(SR w0 w2 B (jE L w.heap.size 8) N {x with ms:=q,mo:=mo'})/\Kp w0 w w2 L (jE L w.heap.size 8):=by
 obtain ⟨O,p2,J⟩:=h.mo id;have b:=h.aE 8 (m.mono fun k _ e=>J k e) m2;exact ⟨⟨b.g,fun _=>st,b.ml,fun _=>b.pm (by simp),fun _=>b.hp (by simp),fun _=>b.ph (by simp),fun _=>b.hv (by simp),fun _=>b.hr (by simp),fun _=>b.un (by simp),fun _=>b.ur (by simp),fun _=>b.pr (by simp),fun _=>b.rr (by simp),fun _=> ⟨r.keep m2 fun k I (e:k=B)=>Q (by rw [<- e];exact I),hq,we J O.lt h.g hf⟩⟩,⟨(m.mono fun k _ e=> ⟨by rw [(J k e).1];decide,(J k e).2⟩).then m2 fun k I (e:k=B)=>by subst e;exact ⟨by rw [h.ml.1];decide,h.ml.2.1⟩,fun _ I=>cN I⟩⟩
theorem SR.Np (h:SR w0 w B L N x) {p q:Option Addr} {i:Nat} (hi:i≠1) (hp: ∀k,aJ p=some k->L k=i/\w0.heap.size<=k) (hq:q=p\/q=some ⟨w1.heap.size,0,none⟩) (g:w.heap.size<=w1.heap.size):aJ q≠some B:=by
 intro e;rcases hq with rfl|rfl
 . have:=(hp B e).1;rw [h.ml.1] at this;exact hi this.symm
 . have:w1.heap.size=B:=by simpa [aJ] using e
   have:=h.ml.2.2;omega
theorem A0 {p q:Option Addr} (hq:q=p\/q=some ⟨w1.heap.size,0,none⟩) (g:w.heap.size<=w1.heap.size): ∀k,aJ q=some k->aJ p=some k\/w.heap.size<=k:=by
 intro k I;rcases hq with rfl|rfl
 . exact .inl I
 . have:w1.heap.size=k:=by simpa [aJ] using I
   exact .inr (by omega)
end
end
section
open Go.LeP
variable {w0 w w' w1 w2:World} {B N:Nat} {L L':Nat->Nat} {x:Xs} {l:List Int}
theorem Bh:q6 prog vC mi 2 32=true:=by kernel_rfl
theorem Kt {u:Ps} {b:Nat} (h:bA w b #[.bool u.1,u.2.1.v]):Vr 2 KF w (some ⟨b,0,none⟩) [u]:=by
 intro j I;have:j=0:=by simpa using I
 subst this;exact ⟨_,rfl,ae h rfl,ae h rfl,trivial⟩
theorem Gn (h:SR w0 w B L N x) (hp:x.pr.length<=1000000000) (del:Bool) {sl:Sl} (ro:RO w L sl l) {b:Nat} (hb:bA w b #[.bool del,sl.v]) {K:World->Prop}
 (hk: ∀w' L' q,SR w0 w' B L' N {x with ps:=q,pr:=x.pr++ [(del,sl,l)]}->Kp w0 w w' L L'->K w'):
 ∃X U J V,(Builtin.append_ #[25,25] 25 #[.slice x.ps.p x.ps.n x.ps.c,.slice (some (Addr.mk b 0 none)) 1 1]).run prog w= .ok (.slice U J V) X/\
  ∃O,(some (Addr.mk B 0 none))=some O/\∃I,ah ((O.add 14).add 2) 0 [.slice U J V] X I/\K I:=by
 obtain ⟨r1,r2,r3⟩:=h.pr id;refine Row.mN GC Bh r1 (Kt (u:=(del,sl,l)) hb) r2 rfl (by simp;omega) fun X p' c' o8 m8 Q ap=> ⟨_,rfl,?_⟩
 have Z:bA X B x.cells:=h.at.keep m8 fun e=>by have:=(r3 B e).1;rw [h.ml.1] at this;exact absurd this (by decide)
 refine ig Z rfl rfl fun I aa Y=> ?_;have:=h.Ig (q:=⟨p',(x.pr++ [(del,sl,l)]).length,c'⟩) (pr':=x.pr++ [(del,sl,l)]) m8 o8 rfl (A0 Q (Nat.le_refl _)) (fun u hu=>by
  rcases List.mem_append.1 hu with hu|hu
  . exact h.rr id u hu
  . rw [List.mem_singleton] at hu;subst hu;exact ro) aa Y (h.Np (by decide) r3 Q (Nat.le_refl _))
 exact hk _ _ _ this.1 this.2
theorem DZ (h:SR w0 w B L N x) (hp:x.pr.length<=1000000000) {p:Option Addr} {n c:Nat} (hv:Vw (Value.int .i64) w p l) (hn:n=l.length) (hx:n<=1000000):
 Calls prog fh.id #[bL B,.slice p n c] w fun e w'=>e= .returned (.tuple #[])/\∃L' q sl,SR w0 w' B L' N {x with ps:=q,pr:=x.pr++ [(false,sl,l)]}/\Kp w0 w w' L L':=by
 refine fh.ak ?_;have D:=h.drew;refine ⟨fun u=>ao w.drew u,aF.refl _,_,rfl,_,_,_,fun u g=>bG (D.at.grow g) rfl,(iO hv.drew hn hx).mono ?_⟩;rintro e w4 ⟨q,d,rfl,Q,U,f4⟩;refine ⟨_,_,_,rfl,U,fun n6 Y I=> ?_⟩;have J:=U.trans I.mod;refine ⟨J,?_⟩;have Z:=D.new J 9;have ro:RO Y (jE L w.drew.heap.size 9) ⟨q,l.length,d⟩ l:=⟨rfl,(Q.grow I.mod).vw,fun k O=> ⟨iA (f4 k O),Nat.lt_of_lt_of_le (Q.lt k O) I.mod.size⟩⟩
 refine Gn Z hp false ro I.has fun w' L' V S' X=> ⟨rfl,L',V,_,S',?_⟩
 exact ((jY.grow (aF.refl w).drew).trans (jY.new J 9)).trans X
end
section
open Go.LeP
variable {w0 w w' w1 w2:World} {B N:Nat} {L L':Nat->Nat} {x:Xs} {l:List Int}
theorem vL {y:Int} (h1: -1048576<=y) (I:y<=1048576):imax y (i64.wrap (0 - y))=bf y:=by
 rw [aD (by omega) (by omega)];unfold imax bf;split<;>split<;>omega
theorem HF {q:Option Addr} {i:Nat}:aJ (q.map (·.add i))=aJ q:=by
 cases q with
 |none=>rfl
 |some a=>simp [aJ,cy]
structure R9 (w:World) (L:Nat->Nat) (p:Option Addr):Prop where
 l: ∀k,aJ p=some k->L k=9/\k<w.heap.size
theorem jY.r9 (k:Kp w0 w w' L L') {p:Option Addr} (r:R9 w L p):R9 w' L' p:=⟨fun b hb=> ⟨by rw [k.Ac b (r.l b hb).2];exact (r.l b hb).1,Nat.lt_of_lt_of_le (r.l b hb).2 k.mod.size⟩⟩
theorem jY.no (k:Kp w0 w w' L L') {p:Option Addr} (r:R9 w L p): ∀b,aJ p=some b->¬(L b≠9/\w0.heap.size<=b):=fun b hb e=>e.1 (r.l b hb).1
theorem jY.vw (k:Kp w0 w w' L L') {p:Option Addr} {α:Type} {f:α->Value} {m:List α} (v:Vw f w p m) (r:R9 w L p):Vw f w' p m:=v.keep k.mod (k.no r)
theorem jY.has (k:Kp w0 w w' L L') {b:Nat} {cs:Array Value} (h:bA w b cs) (r:L b=9):bA w' b cs:=h.keep k.mod fun e=>e.1 r
theorem jY.ro (k:Kp w0 w w' L L') {s:Sl} {c:List Int} (h:RO w L s c):RO w' L' s c:=RO.keep h k (by simp)
theorem Kp.refl:Kp w0 w w L L:=jY.grow (aF.refl w)
theorem SR.push (h:SR w0 w B L N x) {v:Int} (h1:1<=v) (Z:v<=N):Calls prog fD.id #[Hp.ptr x.hb,.int .i64 v] w fun e w'=> ∃r:Int,e= .returned (.int .i64 r)/\
 ∃L',SR w0 w' B L' N {x with S:=fun u=>x.S u\/u=v}/\Kp w0 w w' L L':=by
 obtain ⟨z,I,z2,z3,z4⟩:=h.hp id;refine (Hp.JM I z2 v ⟨h1,Z⟩).mono ?_;rintro e w' ⟨rfl,y,Q,V,X,U,Y⟩;have:=h.heap z4 I.lt Q V (S':=fun u=>x.S u\/u=v) (fun u J O=>by rw [X.has u J O,z3 u J O]) U Y;exact ⟨_,rfl,_,this.1,this.2⟩
theorem SR.Kj (h:SR w0 w B L N x) (g:aL x.s) (hN:x.s.vars<=1000000):Calls prog eD.id #[bL x.pb] w fun e w'=> ∃ (q:Option Addr) (d:Nat),e= .returned (.slice q (x.s.R .tr).length d)/\da aC w' q d (x.s.R .tr)/\ao w w'/\
 ∃L',SR w0 w' B L' N x/\Kp w0 w w' L L'/\R9 w' L' q:=by
 obtain ⟨H,pm,_⟩:=h.pm id;have:=g.yL;refine (uz pm (by omega)).mono ?_;rintro e w' ⟨q,d,rfl,o,I,f⟩;exact ⟨q,d,rfl,o,I,_,h.new I 9,jY.new I 9,⟨fun k J=> ⟨iA (f k J),o.lt k J⟩⟩⟩
def bN (s:aH) (bi:Int):aH:=if (max 0 bi).toNat< (s.R .be).length then s.bD (max 0 bi).toNat else s
theorem sX {s:aH} (g:aL s) (bi:Int):aL (bN s bi):=by
 unfold bN;split
 . exact lw g (by assumption)
 . exact g
theorem yG {s:aH} (bi:Int): ∃k,(bN s bi).R .tr=(s.R .tr).take k/\(bN s bi).vars=s.vars:=by
 unfold bN;split
 . exact ⟨_,zN,rfl⟩
 . exact ⟨_,List.take_length.symm,rfl⟩
theorem SR.K2 (h:SR w0 w B L N x) (g:aL x.s) (bi:Int):Calls prog bJ.id #[bL x.pb,.int .i64 bi] w fun e w'=>e= .returned (.tuple #[])/\∃L',SR w0 w' B L' N {x with s:=bN x.s bi}/\Kp w0 w w' L L':=by
 obtain ⟨H,pm,hl⟩:=h.pm id;refine (Ix pm g bi).mono ?_;rintro e w' ⟨rfl,I,p⟩;have:=h.sU hl pm.lt p;exact ⟨rfl,_,this.1,this.2⟩
theorem vR (h:SR w0 w B L N x) (g:aL x.s) (hv:x.s.vars=N) (hN:N<=1000) (a_:x.ph.length=N+1) (bi:Int):Calls prog fM.id #[bL B,.int .i64 bi] w fun e w'=>e= .returned (.tuple #[])/\
 ∃L' S' J,SR w0 w' B L' N {x with s:=bN x.s bi,S:=S',ph:=J}/\Kp w0 w w' L L'/\J.length=N+1/\(∀v,x.S v->S' v)/\∀y∈x.s.R .tr,y ∉ (bN x.s bi).R .tr->S' (bf y):=by
 refine fM.ak ⟨_,rfl,_,ae h.at rfl,(h.Kj g (by omega)).mono ?_⟩;rintro e w3 ⟨q,d,rfl,o3,g3,L3,S3,k3,r3⟩;refine ⟨_,_,_,rfl,_,rfl,_,ae S3.at rfl,(S3.K2 g bi).mono ?_⟩;rintro e w7 ⟨rfl,L7,S7,k7⟩;obtain ⟨kk,ek,ev⟩:=yG (s:=x.s) bi;refine ⟨rfl,_,rfl,_,ae S7.at rfl,(S7.Kj (sX g bi) (by show (bN x.s bi).vars<=_;omega)).mono ?_⟩;rintro e aa ⟨q2,d2,rfl,b',ce,Y,Z,bk,cT⟩;refine ⟨_,_,_,rfl,?_⟩;have Z:SR w0 aa B Y N {x with s:=bN x.s bi}:=Z;have ap:((bN x.s bi).R .tr).length<=(x.s.R .tr).length:=by rw [ek,List.length_take];omega
 have X:=k7.trans bk;have b4:=o3.cap;have hd:(x.s.R .tr).length<=d:=by
  rcases o3.un with ⟨_,_,e⟩| ⟨_,_,_,_,h1,_⟩
  . rw [e];exact Nat.zero_le _
  . exact h1
 obtain ⟨m,em⟩: ∃m,((bN x.s bi).R .tr).length=m:=⟨_,rfl⟩
 rw [em] at ap;show nZ q (x.s.R .tr).length d 1 (some ((((bN x.s bi).R .tr).length:Nat):Int)) none none _;rw [em];obtain ⟨D,hD⟩: ∃D,D=(x.s.R .tr).drop m:=⟨_,rfl⟩
 have V3:Vw (Value.int .i64) w3 (q.map (·.add (m*1))) D:=by
  have:=o3.vw.part (i:=m) (m:=(x.s.R .tr).length - m) (by omega);rw [List.take_of_length_le (by rw [List.length_drop];omega)] at this;rw [hD];exact this
 have cc:=g.yL;have lD:D.length=(x.s.R .tr).length - m:=by rw [hD,List.length_drop]
 have bu:Vw (Value.int .i64) w3 (if d=m then q else q.map (·.add (m*1))) D:=by
  by_cases e:d=m
  . have:D= []:=List.eq_nil_of_length_eq_zero (by omega);rw [this];exact Vw.nil
  . rw [if_neg e];exact V3
 have R3:R9 w3 L3 (if d=m then q else q.map (·.add (m*1))):=by
  by_cases e:d=m
  . rw [if_pos e];exact r3
  . rw [if_neg e];exact ⟨fun b hb=>r3.l b (by rw [HF] at hb;exact hb)⟩
 have aT:=X.vw bu R3;have ay:=X.r9 R3;refine fe m (x.s.R .tr).length d rfl rfl rfl (Nat.le_refl _) hd ap ?_;have bc: ∀y∈D,dB N y:=fun y I=>by have:=g.tv y (by rw [hD] at I;exact List.mem_of_mem_drop I);rwa [hv] at this
 refine ⟨fun V u z=> ∃ (t:Nat) (L':Nat->Nat) (S':Int->Prop) (J:List Int),V=t/\t<=D.length/\z=D.length - t/\SR w0 u B L' N {x with s:=bN x.s bi,S:=S',ph:=J}/\Kp w0 aa u Y L'/\J.length=N+1/\(∀v,x.S v->S' v)/\∀j,j<t->S' (bf (D.getD j 0)),
  ⟨_,0,Y,x.S,x.ph,rfl,Nat.zero_le _,rfl,Z,Kp.refl,a_,fun _ h=>h,fun j hj=>by omega⟩,?_⟩
 rintro V u z _ ⟨t,L1,S1,O,rfl,ht,rfl,SS,U,ad,ar,ag⟩;refine aj (fun r=> ?_) (fun r=> ?_)
 . have r:t<D.length:=by simp at r;omega
   have V1:=U.vw aT ay;refine V1.ix 0 (by omega) (by omega) (by omega) fun a ha=> ⟨_,ha,?_⟩
   rw [Int.toNat_natCast];obtain ⟨y,I⟩: ∃y,D.getD t 0=y:=⟨_,rfl⟩
   have a7:y∈D:=by rw [<- I];simp [List.getD,r]
   have ac:=bc y a7;have hb:=ac.bd (by omega);have c3:=ac.bf;obtain ⟨p1,p2,p3⟩:=SS.ph id;have p2:x.DS.n=O.length:=p2;rw [I];refine ⟨_,rfl,_,_,_,ae SS.at rfl,?_⟩;rw [vL hb.1 hb.2];refine p1.st (i:=bf y) (n:=x.DS.n) y rfl rfl (by omega) p2 (by omega) fun b_ aw a'=> ?_;have Q:=SS.phase (by show (O.set _ _).length=O.length;simp) aw a';refine ⟨_,rfl,_,ae Q.1.at rfl,(Q.1.push (v:=bf y) (by omega) (by omega)).mono ?_⟩;rintro e cm ⟨c1,rfl,az,bb,ax⟩;refine ⟨_,rfl,_,?_,t+1,az,_,_,wN (by omega) (by omega),by omega,rfl,bb,(U.trans Q.2).trans ax,by simp [ad],fun v hv=> .inl (ar v hv),fun j hj=> ?_⟩
   . omega
   . by_cases e:j=t
     . subst e;rw [I];exact .inr rfl
     . exact .inl (ag j (by omega))
 . have r:t=D.length:=by simp at r;omega
   refine ⟨rfl,L1,S1,O,SS,(k3.trans X).trans U,ad,ar,fun y I hn=> ?_⟩;have a6:y∈D:=by
    have an:m=((x.s.R .tr).take kk).length:=by rw [<- ek,em]
    have hk:(x.s.R .tr).take kk=(x.s.R .tr).take m:=by
     rw [List.length_take] at an;rw [an,List.take_eq_take_iff];omega
    rw [ek,hk] at hn;rw [hD];have:=List.take_append_drop m (x.s.R .tr);rw [<- this] at I;rcases List.mem_append.1 I with I|I
    . exact absurd I hn
    . exact I
   obtain ⟨j,hj,ej⟩:=List.mem_iff_getElem.1 a6;have:=ag j (by omega);rw [show D.getD j 0=y by simp [List.getD,hj,ej]] at this;exact this
end
section
open Go.LeP
variable {w0 w w' w1 w2:World} {B N:Nat} {L L':Nat->Nat} {x:Xs} {l:List Int}
structure HO (w0 w:World) (L:Nat->Nat) (N:Nat) (hb:Nat) (S:Int->Prop) (z:Hp.HS):Prop where
 r:Hp.bZ w hb z
 g:Hp.mh z N
 m: ∀u:Int,1<=u->u<=N->(0<HeapP.g z.at_ u↔S u)
 f: ∀k,z.bK hb k->L k=3/\w0.heap.size<=k
theorem SR.NU (h:SR w0 w B L N x) {z:Hp.HS} (o:HO w0 w L N x.hb x.S z):Calls prog dA.id #[Hp.ptr x.hb] w fun e w'=>
 (z.l.length=0/\e= .returned (.tuple #[.int .i64 0,.bool false])/\ao w w')\/
 ∃v:Int,e= .returned (.tuple #[.int .i64 v,.bool true])/\1<=v/\v<=N/\x.S v/\∃L' J,SR w0 w' B L' N {x with S:=fun u=>x.S u/\u≠v}/\Kp w0 w w' L L'/\HO w0 w' L' N x.hb (fun u=>x.S u/\u≠v) J/\J.l.length+1=z.l.length:=by
 by_cases O:z.l.length=0
 . refine (Hp.K4 o.r O).mono ?_;rintro e w' ⟨rfl,_,g⟩;exact .inl ⟨O,rfl,g⟩
 . refine (Hp.K6 o.r o.g O).mono ?_;rintro e w' ⟨rfl,J,X,Y,Z,y4,y5,U⟩;have hf:=o.g.ok.pos.ul 0 (by omega) (by omega);have hm: ∀u:Int,1<=u->u<=N->(0<HeapP.g J.at_ u↔x.S u/\u≠HeapP.g z.l 0):=fun u V Q=>by rw [Z.has u V Q,o.m u V Q]
   have:=h.heap o.f o.r.lt X Y hm y5 (fun k I=> .inl (by rw [<- U];exact I));refine .inr ⟨_,rfl,hf.1,hf.2.1,(o.m _ hf.1 hf.2.1).1 (by rw [hf.2.2];omega),_,J,this.1,this.2,⟨X,Y,hm,fun k I=> ?_⟩,y4⟩;rw [U] at I;rw [cN (o.r.lt k I)];exact o.f k I
theorem SR.value (h:SR w0 w B L N x) (g:aL x.s) (v:Int):Calls prog eB.id #[bL x.pb,.int .i64 v] w fun e w'=>e= .returned (.int .i64 (x.s.value v))/\ao w w':=by
 obtain ⟨H,pm,_⟩:=h.pm id;exact An pm g.wf v
theorem AC {s:aH} (g:aL s) {v:Int} (hv:dB s.vars v):s.value v=s.val v:=by
 unfold aH.value;rw [if_pos ((ir g.dS).2 hv)]
theorem SR.DB (h:SR w0 w B L N x) (g:aL x.s) {v:Int} (hv:dB x.s.vars v) (I:x.s.val v=0):Calls prog dD.id #[bL x.pb,.int .i64 v] w fun e w'=> ∃r:Int,e= .returned (.int .i64 r)/\∃L',SR w0 w' B L' N {x with s:=x.s.decide v}/\Kp w0 w w' L L':=by
 obtain ⟨H,pm,hl⟩:=h.pm id;refine (yJ pm g v).mono ?_;rintro e w' ⟨r,rfl,J,⟨_,_,_,p⟩| ⟨_,hn,_⟩⟩
 . have:=h.sU hl pm.lt p;exact ⟨_,rfl,_,this.1,this.2⟩
 . exact absurd ⟨hv,I⟩ hn
theorem Ed (h:SR w0 w B L N x) {K:World->Prop} (V: ∀w',SR w0 w' B L N {x with m:= {x.m with de:=i64.wrap (x.m.de+1)}}->Kp w0 w w' L L->K w'):
 ∃a22,(some (Addr.mk B 0 none))=some a22/\∃J,w.cell? ((a22.add 14).add 4)=some (.int .i64 J)/\
  ∃O,(some (Addr.mk B 0 none))=some O/\∃I,ah ((O.add 14).add 4) 0 [.int .i64 (i64.wrap (J+ (1:Int)))] w I/\K I:=by
 refine ⟨_,rfl,_,bG h.at rfl,_,rfl,?_⟩;refine ig h.at rfl rfl fun I U Q=> ?_;have:=h.own (m':= {x.m with de:=i64.wrap (x.m.de+1)}) U Q;exact V _ this.1 this.2
theorem C7 {s:aH} {v u:Int} (g:aL s) (hv:dB s.vars v) (J:s.val v=0) (hu:dB s.vars u):(s.decide v).val u=0->s.val u=0/\bf u≠bf v:=by
 intro h;have I:=pD g hv J;obtain ⟨a,b⟩:=(hG I (x:=u) hu).1 h;rw [sV] at a b;refine ⟨(hG g hu).2 ⟨fun m=>a (List.mem_append_left _ m),fun m=>b (List.mem_append_left _ m)⟩,fun e=> ?_⟩;rcases zR e with e|e
 . subst e;exact a (by simp)
 . subst e;rw [Int.neg_neg] at b;exact b (by simp)
theorem CA (h:SR w0 w B L N x) (g:aL x.s) (hv:x.s.vars=N) (hN:N<=1000) (bY:x.ph.length=N+1) (hi:zU N x.s x.S):Calls prog cS.id #[bL B] w fun e w'=> ∃r:Bool,e= .returned (.bool r)/\
 ∃L' S',Kp w0 w w' L L'/\((r=false/\(∀v:Int,1<=v->v<=N->x.s.val v≠0)/\SR w0 w' B L' N {x with S:=S'})\/
  (r=true/\∃v,dB N v/\x.s.val v=0/\zU N (x.s.decide v) S'/\SR w0 w' B L' N {x with s:=x.s.decide v,S:=S',m:= {x.m with de:=i64.wrap (x.m.de+1)}})):=by
 refine cS.ak ?_;obtain ⟨z0,z1,z2,z3,z4⟩:=h.hp id;refine ⟨fun u k=> ∃Z X z,SR w0 u B Z N {x with S:=X}/\Kp w0 w u L Z/\HO w0 u Z N x.hb X z/\z.l.length=k/\zU N x.s X,⟨_,L,x.S,z0,h,Kp.refl,⟨z1,z2,z3,z4⟩,rfl,hi⟩,?_⟩;rintro u k _ ⟨Z,X,z,SS,kk,ho,rfl,hc⟩;refine ⟨_,rfl,_,ae SS.at rfl,(SS.NU ho).mono ?_⟩;rintro e w7 (⟨h0,rfl,g7⟩| ⟨v,rfl,v1,v2,b6,L7,z7,S7,k7,o7,bx⟩)
 . refine ⟨_,_,rfl,cu rfl ⟨false,rfl,Z,X,kk.trans (jY.grow g7),.inl ⟨rfl,fun v v1 v2 ap=> ?_,SS.grow g7⟩⟩⟩;have hm:=(ho.m v v1 v2).2 (hc v v1 v2 ap);have:=(ho.g.ok.pos.bD v v1 v2).2.1;omega
 . have J:dB x.s.vars v:=⟨by omega,by omega,by omega⟩
   refine ⟨_,_,rfl,bm rfl ⟨_,rfl,_,ae S7.at rfl,(S7.value g v).mono ?_⟩⟩;rintro e b5 ⟨rfl,O⟩;have aa:aH.value x.s v=x.s.val v:=AC g J;refine ⟨_,rfl,?_⟩;show aG (x.s.value v !=0) _ _;rw [aa];have I:=S7.grow O;refine aj (fun r=> ?_) (fun r=> ?_)
   . have r:x.s.val v≠0:=by simpa using r
     refine ⟨_,?_,L7,_,z7,I,(kk.trans k7).trans (jY.grow O),⟨o7.r.grow O,o7.g,o7.m,o7.f⟩,rfl,fun u u1 u2 hu=> ⟨hc u u1 u2 hu,fun e=>r (by rw [<- e];exact hu)⟩⟩;omega
   . have r:x.s.val v=0:=by simpa using r
     obtain ⟨p1,p2,p3⟩:=I.ph id;have p2:x.DS.n=x.ph.length:=p2;have dV: ∀ {w':World} {L':Nat->Nat} {y:Int},bf y=v->dB x.s.vars y->x.s.val y=0->Kp w0 w w' L L'->SR w0 w' B L' N {x with s:=x.s.decide y,S:=fun u=>X u/\u≠v,m:= {x.m with de:=i64.wrap (x.m.de+1)}}->∃r:Bool,Ending.returned (.bool true)= .returned (.bool r)/\
      ∃L' S',Kp w0 w w' L L'/\((r=false/\(∀v:Int,1<=v->v<=N->x.s.val v≠0)/\SR w0 w' B L' N {x with S:=S'})\/
      (r=true/\∃v,dB N v/\x.s.val v=0/\zU N (x.s.decide v) S'/\SR w0 w' B L' N {x with s:=x.s.decide v,S:=S',m:= {x.m with de:=i64.wrap (x.m.de+1)}})):=by
      intro w' L' y ey hy h0 kp sr;refine ⟨true,rfl,L',_,kp,.inr ⟨rfl,y,by rw [<- hv];exact hy,h0,fun u u1 u2 hu=> ?_,sr⟩⟩;have az:dB x.s.vars u:=⟨by omega,by omega,by omega⟩
      obtain ⟨a,b⟩:=C7 g hy h0 az hu;refine ⟨hc u u1 u2 a,fun e=>b ?_⟩;rw [e,ey];unfold bf;rw [if_neg (by omega)]
     refine ⟨_,rfl,_,_,_,ae I.at rfl,p1.ix 0 (by omega) p2 (by omega) fun a ha=> ⟨_,ha,?_⟩⟩;have Q:=(kk.trans k7).trans (jY.grow O);refine aj (fun _=> ?_) (fun _=> ?_)
     . refine ⟨_,rfl,_,ae I.at rfl,(I.DB g J r).mono ?_⟩;rintro e ax ⟨a8,rfl,ag,V,U⟩;refine ⟨_,rfl,Ed V fun w' S' k'=> ?_⟩;exact dV (by unfold bf;rw [if_neg (by omega)]) J r ((Q.trans U).trans k') S'
     . have ew:i64.wrap (0 - v)= -v:=by rw [aD (by omega) (by omega)];omega
       rw [ew];have Y:x.s.val (-v)=0:=by rw [oe J];omega
       refine ⟨_,rfl,_,ae I.at rfl,(I.DB g J.neg Y).mono ?_⟩;rintro e ax ⟨a8,rfl,ag,V,U⟩;refine ⟨_,rfl,Ed V fun w' S' k'=> ?_⟩;exact dV (by unfold bf;rw [if_pos (by omega)];omega) J.neg Y ((Q.trans U).trans k') S'
theorem rM:mB prog aI aC 8=true:=by kernel_rfl
def kO (s:aH) (n:Nat):List Int:=(List.range n).map fun i:Nat=>s.val ((i:Int)+1)
theorem Fq {s:aH} {n:Nat}:kO s (n+1)=kO s n++ [s.val ((n:Int)+1)]:=by unfold kO;rw [List.range_succ,List.map_append];rfl
theorem IX (h:SR w0 w B L N x) (g:aL x.s) (hv:x.s.vars=N) (hN:N<=1000) (hn:x.m.n=N) (ac:x.mo= []):Calls prog gC.id #[bL B] w fun e w'=>e= .returned (.tuple #[])/\
 ∃L' q,SR w0 w' B L' N {x with m:= {x.m with ke:=1},ps:=Sl.nil,pr:= [],ms:=q,mo:=kO x.s N}/\Kp w0 w w' L L':=by
 refine gC.ak ⟨_,rfl,?_⟩;refine ig h.at rfl rfl fun w2 h2 m2=> ?_;obtain ⟨S2,k2⟩:=h.own (m':= {x.m with ke:=1}) h2 m2;refine ⟨_,rfl,ig S2.at rfl rfl fun w4 h4 m4=> ?_⟩;have P4:=S2.Ig (q:=Sl.nil) (pr':= []) (aF.refl w2|>.mono fun _ _ e=>e) (Row.nil _ _ _ _) rfl (fun k hk=>by simp [aJ,Sl.nil] at hk) (fun u hu=>by simp at hu) h4 m4 (by simp [aJ,Sl.nil]);obtain ⟨S4,k4⟩:=P4;refine ⟨fun V u k=> ∃ (t:Nat) (L':Nat->Nat) (q:Sl),V=(t:Int)+1/\t<=N/\k=N - t/\SR w0 u B L' N {x with m:= {x.m with ke:=1},ps:=Sl.nil,pr:= [],ms:=q,mo:=kO x.s t}/\Kp w0 w u L L',
  ⟨_,0,_,x.ms,rfl,Nat.zero_le _,rfl,by have:kO x.s 0=x.mo:=by rw [ac];rfl
                                       rw [this];exact S4,k2.trans k4⟩,?_⟩
 rintro V u k _ ⟨t,L1,q,rfl,ht,rfl,Z,kk⟩;refine ⟨_,rfl,_,bG Z.at rfl,?_⟩;show aG (decide ((t:Int)+1<=x.m.n)) _ _;rw [hn];refine aj (fun r=> ?_) (fun r=> ?_)
 . have r:t<N:=by simp at r;omega
   have D:=Z.drew;refine ⟨fun v=>ao u.drew v,aF.refl _,_,rfl,_,_,_,fun v gv=>bG (D.at.grow gv) rfl,_,rfl,_,fun v gv=>ae (D.at.grow gv) rfl,(D.value g _).mono ?_⟩;rintro e bk ⟨rfl,J⟩;have an:dB x.s.vars ((t:Int)+1):=⟨by omega,by omega,by omega⟩
   refine ⟨_,rfl,J,fun bv bc O=> ⟨J.trans O.mod,?_⟩⟩;have I:=D.new (J.trans O.mod) 9;obtain ⟨p1,p2,p3⟩:=I.mo id;have hl:(kO x.s t).length=t:=by simp [kO]
   refine Ow.mF rM p1 (x.s.val ((t:Int)+1)) O.has (by show Value.int .i64 (x.s.value _)=_;rw [AC g an]) p2 eV (by rw [hl];omega) fun U p' c' Q Y X a7=> ⟨_,rfl,?_⟩
   have ap:bA U B _:=I.at.keep Y fun e=>by have:=(p3 B e).1;rw [I.ml.1] at this;exact absurd this (by decide)
   refine ig ap rfl rfl fun bb ad ag=> ?_;have Q:da aC U p' c' (kO x.s (t+1)):=by rw [Fq];exact Q
   have:=I.Ng (q:=⟨p',(kO x.s t).length+1,c'⟩) (mo':=kO x.s (t+1)) Y Q (by simp [kO]) (A0 X (Nat.le_refl _)) ad ag (I.Np (by decide) p3 X (Nat.le_refl _));refine ⟨_,?_,t+1,_,_,?_,by omega,rfl,this.1,((kk.trans (jY.grow (aF.refl u).drew)).trans (jY.new (J.trans O.mod) 9)).trans this.2⟩
   . omega
   . rw [aD (by omega) (by omega)];omega
 . have r:t=N:=by simp at r;omega
   subst r;exact ⟨rfl,L1,q,Z,kk⟩
end
end Go.Proofs.YtenmibfmhccmiaaGreat.W
