/- Layer 6: the statement PropOnce. -/
import Derived.Test.YtenmibfmhccmiaaGreatPropB
import Derived.Test.YtenmibfmhccmiaaGreatFwMem
import Derived.Maps.OwnSet
import Derived.Test.YtenmibfmhccmiaaGreatSortA
import Derived.Test.YtenmibfmhccmiaaGreatQuotaA
namespace Go.Proofs.YtenmibfmhccmiaaGreat.W
open Go Go.Fw Go.RowKit Go.SoP Go.LiP
section
variable {w w' w0 w2 w3:World} {b:Nat} {H H' H2:Pt->Sl} {s t u s' T:aG} {p cp gp dp ap:Option Addr} {hs:List Sl} {cs:List (List Int)} {gl:List Bool} {dl c m:List Int} {cn cc gn gc dn dc an ac:Nat} {v:Int}
theorem DB (l:Int):(s.decide l).R .tr=s.R .tr++ [l]:=by
 unfold aG.decide;rw [oe];unfold aG.iM;rw [ak (by simp),ak (by simp)]
end
section
variable {cs:List (List Int)} {c d T T':List Int} {κ:Int->Int}
def IY (T:List Int):Prop:= ∀x∈T,-x ∉ T
def Mh (cs:List (List Int)) (T:List Int):Prop:= ∀c∈cs,cR c T=false/\df c T=0
def NZ (cs:List (List Int)):Prop:= ∀c∈cs,∀x∈c,x≠0
def qZ (c:List Int):List Int:=c.map fun x=> -x
theorem nV {x:Int}:x∈qZ c↔ -x∈c:=by
 unfold qZ;rw [List.mem_map];exact ⟨fun ⟨y,I,e⟩=>by rw [<- e,Int.neg_neg];exact I,fun h=> ⟨-x,h,Int.neg_neg x⟩⟩
theorem xY (h:BD cs d T): ∀x∈d,x∈T:=by
 induction h with
 |refl=>exact fun _ h=>h
 |step _ _ _ ih=>exact fun x I=>List.mem_append_left _ (ih x I)
theorem yF (h: ∀x∈T,x∈T') (hb:cR c T=true):cR c T'=true:=cO.2 fun x I=>h _ (cO.1 hb x I)
theorem Gq (Q: ∀x∈c,x≠0) (h1:cR c T'=false) (O:df c T'=0) (U:IY T') (hs: ∀x∈T,x∈T') (hu:df c T≠0):df c T∈T':=by
 obtain ⟨a1,a2,a3,a4⟩:=kK Q hu;rcases Classical.em (df c T∈T') with h|h
 . exact h
 . exfalso;have hn: -(df c T) ∉ T':=fun e=>by
    rw [<- Bool.not_eq_true,cO] at h1;exact h1 fun y J=> (a4 y J).elim (fun I=>by rw [I];exact e) fun I=>hs _ I
   have:=kW (t:=T') (l:=df c T) hu hn c 0 (fun y J=>by
    rcases a4 y J with e|e
    . exact ⟨by rw [e];exact h,.inl e⟩
    . exact ⟨fun I=>U y I (hs _ e),.inr (hs _ e)⟩) (.inr ⟨rfl,a1⟩)
   unfold df at O;rw [O] at this;exact hu this.symm
theorem Ii (V:NZ cs) (Q:Mh cs T') (X:IY T') (U: ∀x∈d,x∈T') (h:BD cs d T): ∀x∈T,x∈T':=by
 induction h with
 |refl=>exact U
 |step h1 J Y O=>
  intro x I;rcases List.mem_append.1 I with I|I
  . exact O x I
  . rw [List.mem_singleton] at I;rw [I];exact Gq (V _ J) (Q _ J).1 (Q _ J).2 X O Y
theorem xI (Q:NZ cs) (J:IY d) (h:BD cs d T):IY T:=by
 induction h with
 |refl=>exact J
 |step h1 h2 h3 O=>
  rename_i t c;obtain ⟨_,a2,a3,_⟩:=kK (Q _ h2) h3;intro x I e;rcases List.mem_append.1 I with I|I
  . rcases List.mem_append.1 e with e|e
    . exact O x I e
    . rw [List.mem_singleton] at e;exact a3 (by rw [<- e,Int.neg_neg];exact I)
  . rw [List.mem_singleton] at I;rcases List.mem_append.1 e with e|e
    . rw [I] at e;exact a3 e
    . rw [List.mem_singleton] at e;omega
def CS (cs:List (List Int)) (T:List Int):Nat:=(cs.filter fun c=> !c.any fun x=>decide (x∈T)).length
theorem tO (Q:NZ cs) (O:c∈cs) (hu:df c T≠0):CS cs (T++ [df c T])<CS cs T:=by
 obtain ⟨a1,a2,a3,a4⟩:=kK (Q _ O) hu;unfold CS;have I:(cs.filter fun c'=> !c'.any fun x=>decide (x∈T++ [df c T])).length< (cs.filter fun c'=> !c'.any fun x=>decide (x∈T)).length:=by
  rw [<- List.countP_eq_length_filter,<- List.countP_eq_length_filter];have key: ∀l:List (List Int),c∈l->l.countP (fun c'=> !c'.any fun x=>decide (x∈T++ [df c T]))<l.countP (fun c'=> !c'.any fun x=>decide (x∈T)):=by
   intro l;have le: ∀l:List (List Int),l.countP (fun c'=> !c'.any fun x=>decide (x∈T++ [df c T]))<=l.countP (fun c'=> !c'.any fun x=>decide (x∈T)):=fun l=>by
    refine List.countP_mono_left fun x _ h=> ?_;simp only [Bool.not_eq_true',List.any_eq_false,decide_eq_true_eq] at h ⊢;exact fun y J e=>h y J (List.mem_append_left _ e)
   induction l with
   |nil=>intro h;simp at h
   |cons y l X=>
    intro h;rw [List.countP_cons,List.countP_cons];rcases List.mem_cons.1 h with h|h
    . subst h;have V:(!c.any fun x=>decide (x∈T++ [df c T]))=false:=by
       simp only [Bool.not_eq_false',List.any_eq_true,decide_eq_true_eq];exact ⟨_,a1,by simp⟩
      have U:(!c.any fun x=>decide (x∈T))=true:=by
       simp only [Bool.not_eq_true',List.any_eq_false,decide_eq_true_eq];intro y J e;obtain ⟨a,b⟩:=qN c 0 (Q _ O) hu;exact (a y J).1 e
      have:=le l;rw [V,U,if_neg (by simp),if_pos rfl];omega
    . have:=X h;have hm:(if (!y.any fun x=>decide (x∈T++ [df c T]))=true then 1 else 0)<=if (!y.any fun x=>decide (x∈T))=true then 1 else 0:=by
       have:=le [y];simpa [List.countP_cons] using this
      omega
  exact key cs O
 exact I
theorem xz (O:NZ cs): ∀ (n:Nat) (T:List Int),CS cs T<=n->BD cs d T->∃T',BD cs d T'/\((∃x∈cs,cR x T'=true)\/Mh cs T'):=by
 intro n
 induction n with
 |zero=>
  intro T h J;rcases Classical.em (∃x∈cs,cR x T=true) with hb|hb
  . exact ⟨T,J,.inl hb⟩
  . refine ⟨T,J,.inr fun c I=> ⟨by rw [<- Bool.not_eq_true];exact fun e=>hb ⟨c,I,e⟩,?_⟩⟩;rcases Classical.em (df c T=0) with e|e
    . exact e
    . have:=tO O I e;omega
 |succ n ih=>
  intro T h J;rcases Classical.em (∃x∈cs,cR x T=true) with hb|hb
  . exact ⟨T,J,.inl hb⟩
  rcases Classical.em (∃c∈cs,df c T≠0) with ⟨c,I,e⟩|hn
  . have:=tO O I e;exact ih _ (by omega) (.step J I e)
  . exact ⟨T,J,.inr fun c I=> ⟨by rw [<- Bool.not_eq_true];exact fun e=>hb ⟨c,I,e⟩,Classical.byContradiction fun e=>hn ⟨c,I,e⟩⟩⟩
def uB (cs:List (List Int)) (c:List Int):Prop:=nB c=true\/∃T,BD cs (qZ c) T/\∃x∈cs,cR x T=true
theorem nT:nB c=true↔∃x∈c,-x∈c:=by unfold nB;simp
theorem tg (h:nB c=false):IY (qZ c):=by
 intro x I e;rw [<- Bool.not_eq_true,nT] at h;rw [nV] at I e;rw [Int.neg_neg] at e;exact h ⟨x,e,I⟩
theorem KH (J:NZ cs) (h:nB c=false) (Q:BD cs (qZ c) T) (U:Mh cs T): ¬uB cs c:=by
 rintro (O| ⟨T',I,x,V,hb⟩)
 . rw [h] at O;cases O
 . have:=yF (Ii J U (xI J (tg h) Q) (xY Q) I) hb;rw [(U x V).1] at this;cases this
theorem AD (O:NZ cs) (h:nB c=false) (I:BD cs (qZ c) T) (V:(∃x∈cs,cR x T=true)\/Mh cs T):uB cs c↔∃x∈cs,cR x T=true:=by
 rcases V with hb|J
 . exact ⟨fun _=>hb,fun _=> .inr ⟨T,I,hb⟩⟩
 . refine ⟨fun Q=>absurd Q (KH O h I J),fun ⟨x,U,hb⟩=> ?_⟩;rw [(J x U).1] at hb;cases hb
theorem HJ {s:aG} (g:aM s) {r:Int} (ht:Ms s r) (J: ∀x,x∈cs↔s.BR x) (O:nB c=false) (h1: ∀x∈c,-x∈s.R .tr) (h2: ∀x∈s.sE,-x∈c):r>=0↔uB cs c:=by
 have X:NZ cs:=fun x I y hy=> (g.Kd ((J x).1 I) y hy).1;obtain ⟨T,V,hT⟩:=xz (cs:=cs) (d:=qZ c) X _ _ (Nat.le_refl _) .refl;rw [AD X O V hT];have U:=xI X (tg O) V;have Q:=xY V;rcases ht with ⟨rfl,hC⟩| ⟨i,rfl,Z⟩
 . have hs:=hC.MG g (fun x I=> (J x).1 I) (fun x I=>by rw [nV] at I;have:=h1 _ I;rwa [Int.neg_neg] at this) V;refine ⟨fun h=>by omega,fun ⟨x,I,hb⟩=> ?_⟩;rw [hC.C5 g hs ((J x).1 I)] at hb;cases hb
 . refine ⟨fun _=> ?_,fun _=>by omega⟩;rcases hT with hb|Y
   . exact hb
   . exfalso;have hs:=g.qY (T:=T) (fun x I=>Q x (nV.2 (h2 x I))) U fun c hc=>Y c ((J c).2 hc);have:=(Y _ ((J _).2 ⟨i,Z.1,rfl⟩)).1;rw [<- Bool.not_eq_true,cO] at this;exact this fun x I=>hs _ (Z.2 x I)
structure vp (N:Int->Prop) (κ:Int->Int):Prop where
 neg: ∀x,κ (-x)= -κ x
 inj: ∀x y,N x->N y->κ x=κ y->x=y
 nz: ∀x,N x->κ x≠0
 sym: ∀x,N x->N (-x)
 n0: ¬N 0
theorem vp.z {N:Int->Prop} (h:vp N κ):κ 0=0:=by have:=h.neg 0;simp at this;omega
theorem vp.mem {N:Int->Prop} (h:vp N κ) {x:Int} (I:N x) (O: ∀y∈T,N y):κ x∈T.map κ↔x∈T:=by
 rw [List.mem_map];exact ⟨fun ⟨y,J,e⟩=>by rw [<- h.inj y x (O y J) I e];exact J,fun I=> ⟨x,I,rfl⟩⟩
theorem vp.tE {N:Int->Prop} (h:vp N κ) {x:Int} (I:N x) (J: ∀y∈T,N y): -κ x∈T.map κ↔ -x∈T:=by rw [<- h.neg];exact h.mem (h.sym x I) J
theorem vp.Au {N:Int->Prop} (h:vp N κ) (Q: ∀y∈T,N y): ∀ (c:List Int) (o:Int),(∀x∈c,N x)->(o=0\/N o)->jG (T.map κ) (c.map κ) (κ o)=κ (jG T c o)
 | [],o,_,_=>rfl
 |x::c,o,hc,I=>by
  have J:=hc x (List.mem_cons_self ..);have O: ∀y∈c,N y:=fun y Y=>hc y (List.mem_cons_of_mem _ Y);rw [List.map_cons];unfold jG;have V:κ x∈T.map κ↔x∈T:=h.mem J Q;have U:(-κ x∈T.map κ\/κ x=κ o)↔(-x∈T\/x=o):=by
   rw [h.tE J Q];refine or_congr Iff.rfl ⟨fun e=> ?_,fun e=>by rw [e]⟩;rcases I with rfl|I
   . rw [h.z] at e;exact absurd e (h.nz x J)
   . exact h.inj x o J I e
  have X:κ o≠0↔o≠0:=by
   rcases I with rfl|I
   . rw [h.z]
   . exact ⟨fun _ e=>h.n0 (e▸I),fun _=>h.nz o I⟩
  by_cases a1:x∈T
  . rw [if_pos (V.2 a1),if_pos a1,h.z]
  . rw [if_neg (fun e=>a1 (V.1 e)),if_neg a1];by_cases a2: -x∈T\/x=o
    . rw [if_pos (U.2 a2),if_pos a2];exact h.Au Q c o O I
    . rw [if_neg (fun e=>a2 (U.1 e)),if_neg a2];by_cases a3:o≠0
      . rw [if_pos (X.2 a3),if_pos a3,h.z]
      . rw [if_neg (fun e=>a3 (X.1 e)),if_neg a3];exact h.Au Q c x O (.inr J)
theorem vp.Bl {N:Int->Prop} (h:vp N κ) (J: ∀y∈T,N y) (I: ∀x∈c,N x):df (c.map κ) (T.map κ)=κ (df c T):=by
 have:=h.Au J c 0 I (.inl rfl);rw [h.z] at this;exact this
theorem vp.mW {N:Int->Prop} (h:vp N κ) (O: ∀y∈T,N y) (J: ∀x∈c,N x):cR (c.map κ) (T.map κ)=cR c T:=by
 rw [Bool.eq_iff_iff,cO,cO];constructor
 . intro hb x I;exact (h.tE (J x I) O).1 (hb _ (List.mem_map_of_mem I))
 . intro hb y Q;obtain ⟨x,I,rfl⟩:=List.mem_map.1 Q;exact (h.tE (J x I) O).2 (hb x I)
theorem vp.Fg {N:Int->Prop} (h:vp N κ) (J: ∀x∈c,N x):nB (c.map κ)=nB c:=by
 rw [Bool.eq_iff_iff,nT,nT];constructor
 . rintro ⟨y,Q,O⟩;obtain ⟨x,I,rfl⟩:=List.mem_map.1 Q;exact ⟨x,I,(h.tE (J x I) J).1 O⟩
 . rintro ⟨x,I,O⟩;exact ⟨κ x,List.mem_map_of_mem I,(h.tE (J x I) J).2 O⟩
theorem FC {N:Int->Prop} (V:NZ cs) (J: ∀c∈cs,∀x∈c,N x) (Q: ∀x∈d,N x) (h:BD cs d T): ∀x∈T,N x:=by
 induction h with
 |refl=>exact Q
 |step h1 O X U=>
  intro x I;rcases List.mem_append.1 I with I|I
  . exact U x I
  . rw [List.mem_singleton] at I;rw [I];exact J _ O _ (kK (V _ O) X).1
theorem vp.MG {N:Int->Prop} (h:vp N κ) (O:NZ cs) (I: ∀c∈cs,∀x∈c,N x) (Q: ∀x∈d,N x) (U:BD cs d T):BD (cs.map (List.map κ)) (d.map κ) (T.map κ):=by
 induction U with
 |refl=>exact .refl
 |step h1 h2 h3 ih=>
  rename_i t c;have J:=FC O I Q h1;rw [List.map_append,List.map_singleton,<- h.Bl J (I _ h2)];refine .step ih (List.mem_map_of_mem h2) ?_;rw [h.Bl J (I _ h2)];exact h.nz _ (I _ h2 _ (kK (O _ h2) h3).1)
theorem vp.LR {N:Int->Prop} (h:vp N κ) (c:List Int):qZ (c.map κ)=(qZ c).map κ:=by
 unfold qZ;rw [List.map_map,List.map_map];exact List.map_congr_left fun x _=> (h.neg x).symm
theorem vp.No {N:Int->Prop} (h:vp N κ) (J: ∀c∈cs,∀x∈c,N x) (hc: ∀x∈c,N x):uB (cs.map (List.map κ)) (c.map κ)↔uB cs c:=by
 have X:NZ cs:=fun x O y hy e=>h.n0 (e▸J x O y hy);have hn: ∀x∈qZ c,N x:=fun x O=>by rw [nV] at O;have:=h.sym _ (hc _ O);rwa [Int.neg_neg] at this
 cases ht:nB c with
 |true=>exact ⟨fun _=> .inl ht,fun _=> .inl (by rw [h.Fg hc];exact ht)⟩
 |false=>
  have Y:NZ (cs.map (List.map κ)):=fun x O y hy=>by
   obtain ⟨x',I,rfl⟩:=List.mem_map.1 O;obtain ⟨y',aa,rfl⟩:=List.mem_map.1 hy;exact h.nz _ (J _ I _ aa)
  obtain ⟨T,Z,hT⟩:=xz (cs:=cs) (d:=qZ c) X _ _ (Nat.le_refl _) .refl;have Q:=FC X J hn Z;have V:=h.MG X J hn Z;rw [<- h.LR] at V;rw [AD X ht Z hT];have U:(∃x∈cs.map (List.map κ),cR x (T.map κ)=true)↔∃x∈cs,cR x T=true:=by
   constructor
   . rintro ⟨x,O,hb⟩;obtain ⟨x',I,rfl⟩:=List.mem_map.1 O;exact ⟨x',I,by rwa [h.mW Q (J _ I)] at hb⟩
   . rintro ⟨x,O,hb⟩;exact ⟨_,List.mem_map_of_mem O,by rwa [h.mW Q (J _ O)]⟩
  rw [AD Y (by rw [h.Fg hc];exact ht) V (hT.imp (fun e=>U.2 e) fun hE x O=> ?_),U];obtain ⟨x',I,rfl⟩:=List.mem_map.1 O;rw [h.mW Q (J _ I),h.Bl Q (J _ I),(hE _ I).2,h.z];exact ⟨(hE _ I).1,rfl⟩
end
section
variable {w w' w0 w2 w3:World} {p q:Option Addr} {n m c d:Nat} {l t T:List Int} {hs:List Sl} {cs:List (List Int)}
theorem qM {x:Int} (h:cq x=true): -1048576<=x/\x<=1048576:=by
 unfold cq at h;simp only [decide_eq_true_eq] at h;exact ⟨h.2.1,h.2.2⟩
theorem Iv {x:Int} (h:cq x=true):x≠0:=by
 unfold cq at h;simp only [decide_eq_true_eq] at h;exact h.1
end
end Go.Proofs.YtenmibfmhccmiaaGreat.W
namespace Go.Fw
open Go Go.RowKit Go.MapKept
variable {P:Program} {α:Type} {g:α->Value} {t k e:TypeId} {w w':World} {b:Nat} {m:List (Int × α)}
def AO (P:Program) (t k e:TypeId):Bool:=
 (match P.underlying t with|some (.map J I)=>Nat.beq J k && Nat.beq I e|_=>false) && (match P.underlying k with|some (.int .i64)=>true|_=>false)
theorem q7 (h:AO P t k e=true):P.underlying t=some (.map k e)/\P.underlying k=some (.int .i64):=by
 simp only [AO,Bool.and_eq_true] at h;obtain ⟨h1,I⟩:=h;constructor
 . split at h1
   . rename_i O J hu;simp only [Bool.and_eq_true] at h1;rw [hu,Nat.eq_of_beq_eq_true h1.1,Nat.eq_of_beq_eq_true h1.2]
   . simp at h1
 . split at I
   . assumption
   . simp at I
def al (m:List (Int × α)) (a:Int):Option α:=(m.find? fun x=>x.1==a).map (·.2)
def ai (m:List (Int × α)) (a:Int) (v:α):List (Int × α):=if (al m a).isSome then m.map (fun x=>if x.1=a then (a,v) else x) else m++ [(a,v)]
theorem pX {a:Int}:al m a=none↔∀x∈m,x.1≠a:=by
 unfold al;rw [Option.map_eq_none_iff,List.find?_eq_none];simp
theorem E1 {a:Int} {x:α} (h:al m a=some x):(a,x)∈m:=by
 unfold al at h;rw [Option.map_eq_some_iff] at h;obtain ⟨y,h1,rfl⟩:=h;have I:=List.find?_some h1;have J:=List.mem_of_find?_eq_some h1;have:y.1=a:=by simpa using I
 rw [<- this];exact J
theorem Lw (nd:(m.map (·.1)).Nodup) {a:Int} {x:α} (h:(a,x)∈m):al m a=some x:=by
 cases ha:al m a with
 |none=>exact absurd rfl (pX.1 ha (a,x) h)
 |some y=>
  have O:=E1 ha;obtain ⟨i,hi,J⟩:=List.mem_iff_getElem.1 h;obtain ⟨j,Q,I⟩:=List.mem_iff_getElem.1 O;have:=(List.getElem_inj (h₀:=show i< (m.map (·.1)).length by simpa using hi) (h₁:=show j< (m.map (·.1)).length by simpa using Q) nd).1 (by rw [List.getElem_map,List.getElem_map,J,I]);subst this;rw [J] at I;rw [(Prod.mk.inj I).2]
theorem Il (m:List (Int × α)) (a:Int) (v:α):(ai m a v).map (·.1)=if (al m a).isSome then m.map (·.1) else m.map (·.1)++ [a]:=by
 unfold ai;split
 . rw [List.map_map];refine List.map_congr_left fun x _=> ?_;simp only [Function.comp];split
   . rename_i h;exact h.symm
   . rfl
 . simp
theorem uT (nd:(m.map (·.1)).Nodup) (a:Int) (v:α):((ai m a v).map (·.1)).Nodup:=by
 rw [Il];split
 . exact nd
 . rename_i h;have h:al m a=none:=by simpa using h
   rw [List.nodup_append];refine ⟨nd,by simp,fun x O y I e=> ?_⟩;rw [List.mem_singleton] at I;obtain ⟨z,J,rfl⟩:=List.mem_map.1 O;exact pX.1 h z J (e.trans I)
theorem Jq (m:List (Int × α)) (a u:Int) (v:α):al (ai m a v) u=if u=a then some v else al m u:=by
 unfold ai;split
 . rename_i h;unfold al;rw [List.find?_map];by_cases e:u=a
   . subst e;rw [if_pos rfl];have hf:m.find? ((fun x:Int × α=>x.1==u) ∘ fun x=>if x.1=u then (u,v) else x)=m.find? fun x=>x.1==u:=by
      congr 1;funext x;simp only [Function.comp];split<;>simp_all
     rw [hf];unfold al at h;cases J:m.find? fun x=>x.1==u with
     |none=>rw [J] at h;simp at h
     |some y=>have:=List.find?_some J;simp at this;simp [this]
   . rw [if_neg e];have hf:m.find? ((fun x:Int × α=>x.1==u) ∘ fun x=>if x.1=a then (a,v) else x)=m.find? fun x=>x.1==u:=by
      congr 1;funext x;simp only [Function.comp];by_cases I:x.1=a
      . rw [if_pos I,I]
      . rw [if_neg I]
     rw [hf];cases J:m.find? fun x=>x.1==u with
     |none=>rfl
     |some y=>
      have h1:=List.find?_some J;have h1:y.1=u:=by simpa using h1
      have: ¬y.1=a:=fun I=>e (h1.symm.trans I);simp [this]
 . rename_i h;have h:al m a=none:=by simpa using h
   unfold al;rw [List.find?_append];by_cases e:u=a
   . subst e;rw [if_pos rfl];unfold al at h;rw [Option.map_eq_none_iff] at h;rw [h];simp
   . rw [if_neg e];cases J:m.find? fun x=>x.1==u with
     |some y=>simp
     |none=>simp [Ne.symm e]
def MV (g:α->Value) (w:World) (b:Nat) (m:List (Int × α)):Prop:=
 (∃I clock,w.heap[b]? =some (.map I clock)/\I.toList.map (fun e=> (e.key,e.val))=m.map fun x=> (Value.int .i64 x.1,g x.2))/\(m.map (·.1)).Nodup
theorem MV.lt (h:MV g w b m):b<w.heap.size:=by obtain ⟨⟨I,c,h,_⟩,_⟩:=h;exact (Array.getElem?_eq_some_iff.1 h).1
theorem MV.keep {S:Nat->Prop} (h:MV g w b m) (m':aE S w w') (hs: ¬S b):MV g w' b m:=by
 have hl:=h.lt;obtain ⟨⟨I,c,h,he⟩,nd⟩:=h;exact ⟨⟨I,c,(m'.block b hl hs).trans h,he⟩,nd⟩
theorem MV.grow (h:MV g w b m) (m':aq w w'):MV g w' b m:=h.keep m' id
theorem MV.drew (h:MV g w b m):MV g w.drew b m:=h
theorem MV.new {b:Nat} (h:bc (.map #[] 0) w b w'):MV g w' b []:=⟨⟨#[],0,h.at,rfl⟩,by simp⟩
theorem MV.len (hm:AO P t k e=true) (h:MV g w b m) (ty:TypeId):(Builtin.len_ #[t] ty #[.map (some b)]).run P w= .ok (.int .i64 m.length) w:=by
 obtain ⟨ht,_⟩:=q7 hm;obtain ⟨⟨I,c,hb,he⟩,_⟩:=h;have:I.size=m.length:=by have:=congrArg List.length he;simpa using this
 simp [Builtin.len_,run_underlying ht,MapKept.run_getObj_map hb,Result.andThen,goInt,this]
theorem MV.find (h:MV g w b m) (a:Int): ∃I c,w.heap[b]? =some (.map I c)/\I.toList.map (fun e=> (e.key,e.val))=(m.map fun x=> (Value.int .i64 x.1,g x.2))/\
 ((Instr.findNow (.int .i64) (.int .i64 a) I.toList 0=some none/\al m a=none)\/∃j x e,Instr.findNow (.int .i64) (.int .i64 a) I.toList 0=some (some (j,g x))/\I[j]? =some e/\e.key= .int .i64 a/\m[j]? =some (a,x)/\al m a=some x):=by
 obtain ⟨⟨I,c,hb,he⟩,nd⟩:=h;refine ⟨I,c,hb,he,?_⟩;have get: ∀ (j:Nat) (e:MapEntry),I.toList[j]? =some e->∃x:Int × α,m[j]? =some x/\e.key= .int .i64 x.1/\e.val=g x.2:=by
  intro j e Q;have:=congrArg (·[j]?) he;simp only [List.getElem?_map,Q,Option.map_some] at this;cases hm:m[j]? with
  |none=>rw [hm] at this;simp at this
  |some x=>
   rw [hm] at this;simp at this;exact ⟨x,rfl,this⟩
 have X: ∀x∈I.toList,IsKey (.int .i64) x.key:=by
  intro x O;obtain ⟨j,Q,e⟩:=List.mem_iff_getElem.1 O;obtain ⟨y,_,h1,_⟩:=get j x (by rw [List.getElem?_eq_getElem Q,e]);rw [h1];rfl
 rcases findNow_spec (d:= .int .i64) (show IsKey (.int .i64) (.int .i64 a) from rfl) I.toList 0 X with ⟨h1,U⟩| ⟨j,e,h1,U,V⟩
 . refine .inl ⟨h1,pX.2 fun x O=> ?_⟩;obtain ⟨j,Q,e⟩:=List.mem_iff_getElem.1 O;have hlen:I.toList.length=m.length:=by have:=congrArg List.length he;simpa using this
   obtain ⟨y,J,h5,_⟩:=get j I.toList[j] (by rw [List.getElem?_eq_getElem (by omega)]);rw [List.getElem?_eq_getElem Q,e] at J;have J:=Option.some.inj J;have:=U _ (List.getElem_mem (show j<I.toList.length by omega));rw [h5,<- J] at this;exact fun Y=>this (by rw [Y])
 . obtain ⟨x,J,h5,Z⟩:=get j e U;have O:x.1=a:=by rw [h5] at V;injection V
   refine .inr ⟨j,x.2,e,by rw [h1,<- Z,Nat.zero_add],by simpa using U,V,by rw [J,<- O],Lw nd ?_⟩;rw [<- O];exact List.mem_of_getElem? J
theorem MV.di (hm:AO P t k e=true) (h:MV g w b m) (a:Int) {z:Value} (Q:(zeroValue e).run P w= .ok z w):
 (Instr.lookup t (.map (some b)) (.int .i64 a) false).run P w= .ok (((al m a).map g).getD z) w:=by
 obtain ⟨ht,J⟩:=q7 hm;obtain ⟨U,c,hb,he,hf⟩:=h.find a;have I:IsKey (.int .i64) (.int .i64 a):=rfl;rcases hf with ⟨h1,O⟩| ⟨j,x,e,h1,O,X,V,h5⟩
 . simp [Instr.lookup,run_underlying ht,MapKept.run_getObj_map hb,MapKept.run_checkKey J I,MapKept.run_findKey J h1,Q,Result.andThen,O]
 . simp [Instr.lookup,run_underlying ht,MapKept.run_getObj_map hb,MapKept.run_checkKey J I,MapKept.run_findKey J h1,Result.andThen,h5]
theorem Gz {w:World} {b:Nat} (o:Obj):aE (·=b) w {w with heap:=w.heap.setIfInBounds b o}:=
 ⟨rfl,rfl,rfl,by simp,fun x _ I=>by simp [Array.getElem?_setIfInBounds_ne (Ne.symm I)]⟩
theorem MV.put (hm:AO P t k e=true) (h:MV g w b m) (a:Int) (v:α):
 ∃w',(Instr.mapUpdate t (.map (some b)) (.int .i64 a) (g v)).run P w= .ok () w'/\MV g w' b (ai m a v)/\aE (·=b) w w'/\w'.heap.size=w.heap.size:=by
 obtain ⟨ht,Y⟩:=q7 hm;have nd:=h.2;have ag:=h.lt;obtain ⟨V,c,hb,he,hf⟩:=h.find a;have I:IsKey (.int .i64) (.int .i64 a):=rfl;rcases hf with ⟨h1,X⟩| ⟨j,x,e,h1,X,h3,Z,h5⟩
 . refine ⟨_,?_,⟨⟨V.push {key:= .int .i64 a,val:=g v,born:=c},c+1,(MapKept.heap_set hb).1,?_⟩,uT nd a v⟩,Gz _,by simp⟩
   . simp [Instr.mapUpdate,run_underlying ht,MapKept.run_getObj_map hb,MapKept.run_checkKey Y I,MapKept.run_findKey Y h1,MapKept.run_setObj_map _ hb,Result.andThen]
   . unfold ai;rw [X];simp only [Option.isSome_none,Bool.false_eq_true,if_false,Array.toList_push,List.map_append,he,List.map_cons,List.map_nil]
 . refine ⟨_,?_,⟨⟨V.modify j fun e=> {e with key:= .int .i64 a,val:=g v},c,(MapKept.heap_set hb).1,?_⟩,uT nd a v⟩,Gz _,by simp⟩
   . simp [Instr.mapUpdate,run_underlying ht,MapKept.run_getObj_map hb,MapKept.run_checkKey Y I,MapKept.run_findKey Y h1,X,h3,run_keyThatStays I,MapKept.run_setObj_map _ hb,Result.andThen]
   . unfold ai;rw [h5];simp only [Option.isSome_some,if_true,Array.toList_modify];apply List.ext_getElem?;intro i;have hi:=congrArg (·[i]?) he;simp only [List.getElem?_map] at hi;simp only [List.getElem?_map,List.getElem?_modify];by_cases e2:j=i
     . subst e2;rw [Z] at hi ⊢;have:V.toList[j]? =some e:=by simpa using X
       rw [this];simp
     . cases J:m[i]? with
       |none=>rw [J] at hi;cases O:V.toList[i]? with
        |none=>simp
        |some z=>rw [O] at hi;simp at hi
       |some y=>
        rw [J] at hi;cases O:V.toList[i]? with
        |none=>rw [O] at hi;simp at hi
        |some z=>
         rw [O] at hi;simp at hi;have:y.1≠a:=fun e3=>by
          have U:i<m.length:=(List.getElem?_eq_some_iff.1 J).1;have Q:j<m.length:=(List.getElem?_eq_some_iff.1 Z).1;have:=(List.getElem_inj (h₀:=show i< (m.map (·.1)).length by simpa using U) (h₁:=show j< (m.map (·.1)).length by simpa using Q) nd).1 (by
           rw [List.getElem_map,List.getElem_map];rw [List.getElem?_eq_getElem U] at J;rw [List.getElem?_eq_getElem Q] at Z;rw [Option.some.inj J,Option.some.inj Z];exact e3)
          omega
         simp [e2,this,hi]
end Go.Fw
namespace Go.Proofs.YtenmibfmhccmiaaGreat.W
open Go Go.Fw Go.RowKit Go.SoP Go.LiP
open Go.Proofs.Tryz (prog)
section
variable {W w w' w0 w2 w3:World} {nb b ib ab:Nat} {vars:Int} {id:List (Int × Int)} {H H' H2:Pt->Sl} {s t u s':aG} {lp:Option Addr} {lc:Nat} {ls:List Int} {sm:List (Int × Sl)} {cl:Int->List Int} {cp:Option Addr} {n cc:Nat} {c:List Int}
def jg (id:List (Int × Int)) (x:Int):Int:=if x<0 then -((al id (aX x)).getD 0) else (al id (aX x)).getD 0
structure Ao (id:List (Int × Int)):Prop where
 nd:(id.map (·.1)).Nodup
 ve: ∀j,j<id.length->(id.getD j (0,0)).2=((j+1:Nat):Int)
 Mv: ∀x∈id,1<=x.1/\x.1<=1048576
theorem Hv {l:List Int} {B:Nat} (nd:l.Nodup) (h: ∀x∈l,1<=x/\x<=B):l.length<=B:=by
 have hs:=List.Nodup.length_le_of_subset nd (l₂:=(List.range B).map fun j:Nat=> (j:Int)+1) fun y I=>by
  have:=h y I;exact List.mem_map.2 ⟨(y - 1).toNat,List.mem_range.2 (by omega),by show (((y - 1).toNat:Nat):Int)+1=_;omega⟩
 rwa [List.length_map,List.length_range] at hs
theorem Ao.le {id:List (Int × Int)} (h:Ao id):id.length<=1048576:=by
 have:=Hv (l:=id.map (·.1)) (B:=1048576) h.nd fun x I=>by
  obtain ⟨y,J,rfl⟩:=List.mem_map.1 I;exact h.Mv y J
 rwa [List.length_map] at this
def Nt (id:List (Int × Int)) (x:Int):Prop:=x≠0/\(al id (aX x)).isSome
theorem Ao.get (h:Ao id) {x:Int} {v:Int} (hv:al id x=some v): ∃j,j<id.length/\id.getD j (0,0)=(x,v)/\v=((j+1:Nat):Int):=by
 obtain ⟨j,I,e⟩:=List.mem_iff_getElem.1 (E1 hv);have e:id.getD j (0,0)=(x,v):=by simp [List.getD,I,e]
 have:=h.ve j I;rw [e] at this;exact ⟨j,I,e,this⟩
theorem Hk {x:Int} (I:x≠0):jg id (-x)= -jg id x:=by
 unfold jg;rw [oJ];by_cases h:x<0
 . rw [if_neg (by omega),if_pos h];omega
 . rw [if_pos (by omega),if_neg h]
theorem Ao.jg (h:Ao id):vp (Nt id) (jg id):=by
 have O:al id 0=none:=pX.2 fun x I=>by have:=h.Mv x I;omega
 have val: ∀x,Nt id x->∃v j:Nat,al id (aX x)=some (v:Int)/\v=j+1/\j<id.length/\id.getD j (0,0)=(aX x,(v:Int)):=fun x I=>by
  obtain ⟨v,hv⟩:=Option.isSome_iff_exists.1 I.2;obtain ⟨j,Q,e,rfl⟩:=h.get hv;exact ⟨j+1,j,hv,rfl,Q,e⟩
 refine ⟨fun x=> ?_,fun x y I hy e=> ?_,fun x I=> ?_,fun x I=> ⟨by have:=I.1;omega,by rw [oJ];exact I.2⟩,fun h=>h.1 rfl⟩
 . by_cases I:x=0
   . subst I;unfold Go.Proofs.YtenmibfmhccmiaaGreat.W.jg;have:aX 0=0:=by decide
     simp [this,O]
   . exact Hk I
 . obtain ⟨v,j,h1,Y,h3,V⟩:=val x I;obtain ⟨v',X,U,aa,ag,J⟩:=val y hy;unfold Go.Proofs.YtenmibfmhccmiaaGreat.W.jg at e;rw [h1,U] at e;simp only [Option.getD_some] at e;have Q:j=X/\(x<0↔y<0):=by
    split at e<;>split at e<;>omega
   have ha:aX x=aX y:=by
    rw [Q.1] at V;rw [V] at J;exact (Prod.mk.inj J).1
   have:=I.1;rcases xv ha with Z|Z<;>omega
 . obtain ⟨v,j,h1,Y,_,_⟩:=val x I;unfold Go.Proofs.YtenmibfmhccmiaaGreat.W.jg;rw [h1];simp only [Option.getD_some];split<;>omega
theorem Ao.qD (h:Ao id) {x:Int} (I:Nt id x):dR id.length (Go.Proofs.YtenmibfmhccmiaaGreat.W.jg id x):=by
 obtain ⟨v,hv⟩:=Option.isSome_iff_exists.1 I.2;obtain ⟨j,J,e,rfl⟩:=h.get hv;unfold Go.Proofs.YtenmibfmhccmiaaGreat.W.jg dR;rw [hv];simp only [Option.getD_some];split<;>omega
structure RB (W w:World) (nb b ib ab:Nat) (vars:Int) (id:List (Int × Int)) (H:Pt->Sl) (s:aG) (lp:Option Addr) (lc:Nat) (ls:List Int) (sm:List (Int × Sl)) (cl:Int->List Int):Prop where
 st:bF w nb #[.int .i64 vars,.map (some ib),bR b,.slice lp ls.length lc,.map (some ab)]
 pm:PM w b H s
 g:aM s
 im:MV (Value.int .i64) w ib id
 am:MV Sl.v w ab sm
 lo:eC aC w lp lc ls
 rw: ∀x∈sm,x.2.n=(cl x.1).length/\x.2.n<=maxLen/\Vw (Value.int .i64) w x.2.p (cl x.1)
 d1: ∀x k,own b H x=some k->k≠nb/\k≠ib/\k≠ab/\aI lp≠some k
 d2:nb≠ib/\nb≠ab/\ib≠ab/\aI lp≠some nb/\aI lp≠some ib/\aI lp≠some ab
 d3: ∀x∈sm,0<x.2.n->∀k,aI x.2.p=some k->k≠nb/\k≠ib/\k≠ab/\aI lp≠some k/\∀y,own b H y≠some k
 wg:aq W w
 wy:W.heap.size<=nb/\W.heap.size<=ib/\W.heap.size<=ab/\(∀k,aI lp=some k->W.heap.size<=k)/\∀x k,own b H x=some k->W.heap.size<=k
 be:s.R .be= []
 ve:Ao id
 sv:s.vars=id.length
 nd:ls.Nodup
 th: ∀i:Nat,s.aQ i↔(i:Int)∈ls
 l0: ∀i∈ls,0<=i
 lk: ∀i∈ls,(al sm i).isSome
 cd: ∀i:Nat,s.aQ i->s.R (.a i)=(cl i).map (jg id)
 lt: ∀i∈ls,∀x∈cl i,cq x=true/\Nt id x
 ln: ∀i∈ls,(cl i).length<=4096
 Jd: ∀x∈sm,0<=x.1/\x.1<s.nc
 ll:ls.length<=s.nc
theorem RB.grow (h:RB W w nb b ib ab vars id H s lp lc ls sm cl) (m:aq w w'):RB W w' nb b ib ab vars id H s lp lc ls sm cl:=
 ⟨h.st.grow m,h.pm.grow m,h.g,h.im.grow m,h.am.grow m,h.lo.grow m,fun x I=> ⟨(h.rw x I).1,(h.rw x I).2.1,(h.rw x I).2.2.grow m⟩,h.d1,h.d2,h.d3,h.wg.trans m,h.wy,h.be,h.ve,h.sv,h.nd,h.th,h.l0,h.lk,h.cd,h.lt,h.ln,h.Jd,h.ll⟩
theorem RB.drew (h:RB W w nb b ib ab vars id H s lp lc ls sm cl):RB W w.drew nb b ib ab vars id H s lp lc ls sm cl:=h.grow (aE.refl w).drew
theorem RB.sg (h:RB W w nb b ib ab vars id H s lp lc ls sm cl) (P:Pw w w' b H H' s') (g:aM s') (hv:s'.vars=s.vars) (hn:s'.nc=s.nc) (hg:s'.gone=s.gone) (ha: ∀i,s'.R (.a i)=s.R (.a i)) (hb:s'.R .be= []):
 RB W w' nb b ib ab vars id H' s' lp lc ls sm cl:=by
 have no: ∀ {k:Nat},(∀x,own b H x≠some k)->¬∃x,own b H x=some k:=fun h ⟨x,e⟩=>h x e;have Z: ∀x,own b H x≠some nb:=fun x e=> (h.d1 x _ e).1 rfl;have n2: ∀x,own b H x≠some ib:=fun x e=> (h.d1 x _ e).2.1 rfl;have n3: ∀x,own b H x≠some ab:=fun x e=> (h.d1 x _ e).2.2.1 rfl;have O: ∀i,s'.aQ i↔s.aQ i:=fun i=>by unfold aG.aQ;rw [hn,hg]
 have aa:=h.st.lt;refine ⟨h.st.keep P.mod (no Z),P.pm,g,h.im.keep P.mod (no n2),h.am.keep P.mod (no n3),h.lo.keep P.mod fun k I ⟨x,e⟩=> (h.d1 x k e).2.2.2 I,fun x J=> ?_,fun x k I=> ?_,h.d2,fun x J Y k I=> ?_,h.wg.then P.mod fun k I ⟨x,e⟩=> ?_,⟨h.wy.1,h.wy.2.1,h.wy.2.2.1,h.wy.2.2.2.1,fun x k I=> ?_⟩,hb,h.ve,hv.trans h.sv,h.nd,fun i=> (O i).trans (h.th i),h.l0,h.lk,fun i hi=>by rw [ha];exact h.cd i ((O i).1 hi),h.lt,h.ln,fun x J=>by rw [hn];exact h.Jd x J,by rw [hn];exact h.ll⟩
 . obtain ⟨Q,r2,V⟩:=h.rw x J;refine ⟨Q,r2,V.nf P.mod fun X k I ⟨y,e⟩=> (h.d3 x J (by rw [Q];exact List.length_pos_iff.2 X) k I).2.2.2.2 y e⟩
 . rcases P.ft x k I with ⟨y,e⟩|e
   . exact h.d1 y k e
   . have l1:=h.st.lt;have l2:=h.im.lt;have l3:=h.am.lt;exact ⟨by omega,by omega,by omega,fun U=>by have:=h.lo.lt k U;omega⟩
 . obtain ⟨a1,a2,a3,a4,a5⟩:=h.d3 x J Y k I;refine ⟨a1,a2,a3,a4,fun y e=> ?_⟩;rcases P.ft y k e with ⟨z,U⟩|U
   . exact a5 z U
   . obtain ⟨Q,_,V⟩:=h.rw x J;have:=V.lt (fun e3=>by rw [e3] at Q;simp at Q;omega) k I;omega
 . have:=h.wy.2.2.2.2 x k e;omega
 . rcases P.ft x k I with ⟨y,e⟩|e
   . exact h.wy.2.2.2.2 y k e
   . have:=h.wg.size;omega
theorem ue:AO prog gE aC aC=true:=by kernel_rfl
theorem Ks:AO prog qI aC aJ=true:=by kernel_rfl
theorem Hy {e:TypeId} {z:Value} (h:(Tryz.prog.info? e).bind (·.zero)=some z) (w:World):(zeroValue e).run prog w= .ok z w:=by
 cases hi:Tryz.prog.info? e with
 |none=>rw [hi] at h;simp at h
 |some i=>
  rw [hi] at h;simp at h;unfold zeroValue;simp only [Sem.run_bind,fD hi,Result.andThen_ok,h,Sem.run_pure]
theorem yH (w:World):(zeroValue aC).run prog w= .ok (.int .i64 0) w:=Hy ip w
theorem Cf (h:RB W w nb b ib ab vars id H s lp lc ls sm cl) (hc:Vw (Value.int .i64) w cp c) (hn:n=c.length) (hx:n<=100000) (hl: ∀x∈c,cq x=true):
 Calls prog fX.id #[bR nb,.slice cp n cc] w fun e w'=> ∃ (q:Option Addr) (d:Nat),e= .returned (.slice q c.length d)/\eC aC w' q d (c.map (jg id))/\aq w w'/\∀k,aI q=some k->w.heap.size<=k:=by
 subst hn;refine fX.ah ?_;refine ⟨fun P N C I u z=> ∃i:Nat,I=i/\i<=c.length/\z=c.length - i/\N=((c.take i).map (jg id)).length/\eC aC u P C ((c.take i).map (jg id))/\(∀k,aI P=some k->w.heap.size<=k)/\aq w u,
  ⟨_,0,rfl,Nat.zero_le _,rfl,by simp,Ow.nil _ _ _,fun k hk=>by simp [aI] at hk,aE.refl w⟩,?_⟩
 rintro P N C I u z _ ⟨i,rfl,hi,rfl,rfl,o,fP,Y⟩;have hlen:((c.take i).map (jg id)).length=i:=by simp;omega
 refine ao (fun r=> ?_) (fun r=> ?_)
 . have r:i<c.length:=by simpa using r
   refine (hc.grow Y).ix 0 (by omega) rfl (by omega) fun a e=> ⟨_,e,_,rfl,_,ad (h.st.grow Y) rfl,?_⟩
   rw [Int.toNat_natCast];have ag:=hl _ (bE r);have hb:=qM ag;have hs:(c.take (i+1)).map (jg id)=(c.take i).map (jg id)++ [jg id (c.getD i 0)]:=by
    rw [List.take_add_one,List.map_append];simp [List.getD,r]
   generalize c.getD i 0=X at*
   have ea:imax X (IntKind.i64.wrap (0 - X))=aX X:=by
    rw [nw X hb];unfold imax aX;split<;>split<;>omega
   rw [ea];have Z:=(h.im.grow Y).di ue (aX X) (yH u);have aa:((al id (aX X)).map (Value.int .i64)).getD (.int .i64 0)= .int .i64 ((al id (aX X)).getD 0):=by cases al id (aX X)<;>rfl
   rw [aa] at Z;have a7:0<=(al id (aX X)).getD 0/\(al id (aX X)).getD 0<=1048576:=by
    cases hv:al id (aX X) with
    |none=>simp
    |some v=>
     obtain ⟨j,hj,_,rfl⟩:=h.ve.get hv;have:=h.sv;have:=h.g.d7;simp only [Option.getD_some];omega
   refine ⟨_,_,Z,ao (fun V=> ?_) (fun V=> ?_)⟩
   . have V:X<0:=by simpa using V
     intro aw ay J;rw [nw _ (by omega)] at J;refine xa (W0:=w) (o.grow J.mod) (Y.trans J.mod) fP (Lv J) rfl rfl (by rw [hlen];simp;omega) fun ar av ax O Q f15=> ?_;have U:jg id X= -((al id (aX X)).getD 0):=by unfold jg;rw [if_pos V]
     rw [<- U] at O;refine ⟨_,by omega,i+1,wN (by omega) (by omega),r,rfl,by rw [hs];simp,by rw [hs];exact O,f15,Q⟩
   . have V: ¬X<0:=by simpa using V
     intro aw ay J;refine xa (W0:=w) (o.grow J.mod) (Y.trans J.mod) fP (Lv J) rfl rfl (by rw [hlen];simp;omega) fun ar av ax O Q f15=> ?_;have U:jg id X=(al id (aX X)).getD 0:=by unfold jg;rw [if_neg V]
     rw [<- U] at O;refine ⟨_,by omega,i+1,wN (by omega) (by omega),r,rfl,by rw [hs];simp,by rw [hs];exact O,f15,Q⟩
 . have r:i=c.length:=by simp at r;omega
   subst r;rw [List.take_length] at o hlen;exact ⟨P,C,by rw [List.take_length,hlen],o,Y,fP⟩
end
section
variable {W w w' w0 w2 w3:World} {nb b ib ab:Nat} {vars:Int} {id:List (Int × Int)} {H H' H2:Pt->Sl} {s t u s':aG} {lp:Option Addr} {lc:Nat} {ls:List Int} {sm:List (Int × Sl)} {cl:Int->List Int} {cp:Option Addr} {n cc:Nat} {c:List Int}
structure yu (s s':aG):Prop where
 v:s'.vars=s.vars
 n:s'.nc=s.nc
 g:s'.gone=s.gone
 a: ∀i,s'.R (.a i)=s.R (.a i)
theorem yu.refl (s:aG):yu s s:=⟨rfl,rfl,rfl,fun _=>rfl⟩
theorem yu.trans (h:yu s t) (k:yu t u):yu s u:=⟨k.v.trans h.v,k.n.trans h.n,k.g.trans h.g,fun i=> (k.a i).trans (h.a i)⟩
theorem yu.decide (s:aG) (l:Int):yu s (s.decide l):=by
 obtain ⟨Q,J,O,I⟩:=zX (s:=s) l;exact ⟨Q,J,O,I⟩
theorem yu.ext (h:iq s t):yu s t:=⟨h.v,h.n,h.g,h.a⟩
theorem yu.bC (s:aG) (L:Nat):yu s (s.bC L):=by
 obtain ⟨Q,J,O,I,_⟩:=wG (s:=s) L;exact ⟨Q,J,O,I⟩
theorem yu.mB (h:yu s t) {i:Nat}:t.aQ i↔s.aQ i:=by unfold aG.aQ;rw [h.n,h.g]
theorem Ee (s:aG) (l:Int):(s.decide l).R .be=s.R .be++ [((s.R .tr).length:Int)]:=by
 unfold aG.decide;rw [iP (by simp) (by simp) (by simp) (by simp)];unfold aG.iM;rw [ak (by simp),aK]
theorem RB.BR (h:RB W w nb b ib ab vars id H s lp lc ls sm cl) (k:yu s t) (x:List Int):x∈(ls.map cl).map (List.map (jg id))↔t.BR x:=by
 unfold aG.BR;rw [List.map_map,List.mem_map];constructor
 . rintro ⟨i,hi,rfl⟩;have J:=h.l0 i hi;have I:s.aQ i.toNat:=(h.th _).2 (by rw [Int.toNat_of_nonneg J];exact hi);refine ⟨i.toNat,k.mB.2 I,?_⟩;rw [k.a,h.cd _ I,Int.toNat_of_nonneg J];rfl
 . rintro ⟨i,hi,rfl⟩;have I:=k.mB.1 hi;exact ⟨(i:Int),(h.th i).1 I,by rw [k.a,h.cd _ I];rfl⟩
structure Rd (s s':aG) (id:List (Int × Int)) (c:List Int) (j:Nat):Prop where
 g:aM s'
 k:yu s s'
 dt:s'.sE=s'.R .tr
 bt:(s'.R .be).length=(s'.R .tr).length
 b0:s'.R .be≠[]->(s'.R .be).getD 0 0=0
 fw: ∀x∈c.take j,-jg id x∈s'.R .tr
 bw: ∀y∈s'.R .tr,∃x∈c.take j,y= -jg id x
theorem EZ {u:FrameMode} (h:PM w b H s) (g:aM s) (bj:Int):CallsD prog bu.id #[bR b,.int .i64 bj] u w fun e I w'=>I=u/\e= .returned (.tuple #[])/\∃H',Pw w w' b H H' (if (max 0 bj).toNat< (s.R .be).length then s.bC (max 0 bj).toNat else s):=
 bu.Kq (R:=fun e w'=>e= .returned (.tuple #[])/\∃H',Pw w w' b H H' (if (max 0 bj).toNat< (s.R .be).length then s.bC (max 0 bj).toNat else s)) (FE h g bj)
theorem RB.Ju (h:RB W w nb b ib ab vars id H s lp lc ls sm cl) (P:Pw w w2 b H H2 t) (g:aM t) (k:yu s t) (Q:t.R .be≠[]->(t.R .be).getD 0 0=0) {R:World->Prop}
 (U: ∀w' H' s',RB W w' nb b ib ab vars id H' s' lp lc ls sm cl->Pw w w' b H H' s'->s'.nc=s.nc->(t.R .be≠[]->s'.R .tr= [])->R w'):
 CallsD prog bu.id #[bR b,.int .i64 0] .returning w2 fun e u w'=>u= .returning/\∃v:Value,e= .returned v/\R w':=by
 refine (EZ P.pm g 0).mono ?_;rintro e u w' ⟨rfl,rfl,H',V⟩;refine ⟨rfl,_,rfl,?_⟩;have Z:(max (0:Int) 0).toNat=0:=rfl;rw [Z] at V;have J:=P.trans V;by_cases hb:0< (t.R .be).length
 . rw [if_pos hb] at J;have I:=Q (List.length_pos_iff.1 hb);obtain ⟨_,_,_,_,Y,X⟩:=wG (s:=t) 0;have O:=k.trans (yu.bC t 0);refine U _ _ _ (h.sg J (ke g hb) O.v O.n O.g O.a (by rw [Y];rfl)) J O.n fun _=> ?_;rw [X,I];rfl
 . rw [if_neg hb] at J;have I:t.R .be= []:=List.eq_nil_of_length_eq_zero (by omega);exact U _ _ _ (h.sg J g k.v k.n k.g k.a I) J k.n fun e=>absurd I e
theorem HA (h:RB W w nb b ib ab vars id H s lp lc ls sm cl) (ax:s.R .tr= []) (hc:Vw (Value.int .i64) w cp c) (hn:n=c.length) (J:n<=100000) (hl: ∀x∈c,cq x=true) (hN: ∀x∈c,Nt id x):
 Calls prog fF.id #[bR nb,.slice cp n cc] w fun e w'=> ∃r:Bool,e= .returned (.bool r)/\(r=true↔uB (ls.map cl) c)/\∃H' s',RB W w' nb b ib ab vars id H' s' lp lc ls sm cl/\Pw w w' b H H' s'/\s'.nc=s.nc/\(c≠[]->s'.R .tr= []):=by
 have C:=h.ve.jg;refine fF.ah ⟨_,rfl,_,ad h.st rfl,(Cf h hc hn J hl).mono ?_⟩;rintro e w3 ⟨q,d,rfl,o3,g3,f3⟩;have h3:=h.grow g3;have sv:=h.sv;have hinv: ∀x∈c,dR s.vars (jg id x):=fun x J=>by rw [sv];exact h.ve.qD (hN x J)
 have cb: ∀ {k:Nat},aI q=some k->∀x,own b H x≠some k:=fun hk x e=>by have:=f3 _ hk;have:=h.pm.lt x _ e;omega
 have a7: ∀i,i∈ls->∀x∈cl i,Nt id x:=fun i hi x J=> (h.lt i hi x J).2;have b4:uB ((ls.map cl).map (List.map (jg id))) (c.map (jg id))↔uB (ls.map cl) c:=C.No (fun x J y O=>by
  obtain ⟨i,hi,rfl⟩:=List.mem_map.1 J;exact a7 i hi y O) hN
 refine ⟨_,_,_,rfl,?_⟩;refine ⟨fun I u z=> ∃j:Nat,I=j/\j<=c.length/\z=c.length - j/\∃H' s',Pw w3 u b H H' s'/\Rd s s' id c j,⟨_,0,rfl,Nat.zero_le _,rfl,H,s,Pw.refl h3.pm (aE.refl _),
  ⟨h.g,.refl s,by unfold aG.sE;rw [h.be,ax];rfl,by rw [h.be,ax],fun e=>absurd h.be e,fun x J=>by simp at J,fun y O=>by rw [ax] at O;simp at O⟩⟩,?_⟩
 rintro I u z _ ⟨j,rfl,hj,rfl,H1,Q,P1,R⟩;have b7:Vw (Value.int .i64) u q (c.map (jg id)):=o3.vw.nf P1.mod fun _ k hk ⟨x,e⟩=>cb hk x e;have av:bF u nb _:=h3.st.keep P1.mod fun ⟨x,e⟩=> (h.d1 x _ e).1 rfl;have k1:=R.g.wf;refine ao (fun r=> ?_) (fun r=> ?_)
 . have r:j<c.length:=by simpa using r
   have hm:=bE r;have b8:(c.map (jg id)).getD j 0=jg id (c.getD j 0):=by simp [List.getD,r]
   have tk: ∀x,x∈c.take (j+1)↔x∈c.take j\/x=c.getD j 0:=fun x=>iY r;refine b7.ix 0 (by omega) (by simp) (by omega) fun a e=> ⟨_,e,_,rfl,_,ad av rfl,?_⟩
   rw [Int.toNat_natCast,b8];generalize hX:c.getD j 0=X at*
   have hv:dR Q.vars (jg id X):=by rw [R.k.v];exact hinv X hm
   refine (yO P1.pm k1 _).mono ?_;rintro e cm ⟨rfl,a_⟩;have Z:=P1.grow a_;have a6:Q.value (jg id X)=Q.val (jg id X):=by
    unfold aG.value;rw [(ia R.g.d7).2 hv];rfl
   rw [a6];refine ⟨_,rfl,ao (fun r1=> ?_) (fun r1=>ao (fun r2=> ?_) (fun r2=> ?_))⟩
   . have r1:Q.val (jg id X)=1:=by simpa using r1
     have V:=(R.g.v1 _ hv).1 r1;obtain ⟨x',ag,e⟩:=R.bw _ V;have aa:=List.mem_of_mem_take ag;have ex:X= -x':=C.inj _ _ (hN X hm) (C.sym _ (hN x' aa)) (by rw [C.neg];exact e);have U:Q.R .be≠[]:=fun e2=>by
      have:=R.bt;rw [e2] at this;have:=List.eq_nil_of_length_eq_zero this.symm;rw [this] at V;simp at V
     refine h3.Ju Z R.g R.k R.b0 fun w' H' s' hB hP hn ht=> ⟨true,rfl,⟨fun _=> .inl (nT.2 ⟨x',aa,ex▸hm⟩),fun _=>rfl⟩,H',s',hB,hP.cP g3,hn,fun _=>ht U⟩
   . have r2:Q.val (jg id X)=0:=by simpa using r2
     refine ⟨_,rfl,_,ad (av.grow a_) rfl,?_⟩;rw [nw _ (hv.bd R.g.d7)];have az:Q.val (-jg id X)=0:=by rw [mN hv,r2];rfl
     refine (vR Z.pm R.g (-jg id X)).mono ?_;rintro e bY ⟨r,rfl,H',hd⟩;obtain ⟨rfl,P⟩:r=0/\Pw cm bY b H1 H' (Q.decide (-jg id X)):=hd.elim (fun h=> ⟨h.1,h.2.2.2⟩) fun h=>absurd ⟨hv.neg,az⟩ h.2.1;have Y:=DB (s:=Q) (-jg id X);have aT:=Ee Q (-jg id X);refine ⟨_,rfl,_,by omega,j+1,wN (by omega) (by omega),r,rfl,H',_,Z.trans P,⟨od R.g hv.neg az,R.k.trans (.decide Q _),by rw [AH R.g,R.dt,Y],by rw [aT,Y];simp [R.bt],fun _=> ?_,fun x J=> ?_,fun y O=> ?_⟩⟩
     . rw [aT];cases U:Q.R .be with
       |nil=>
        have:=R.bt;rw [U] at this;rw [<- this];rfl
       |cons y l=>
        have:=R.b0 (by rw [U];simp);rw [U] at this;simpa using this
     . rw [Y];rcases (tk x).1 J with J|rfl
       . exact List.mem_append_left _ (R.fw x J)
       . simp
     . rw [Y] at O;rcases List.mem_append.1 O with O|O
       . obtain ⟨x,J,e⟩:=R.bw y O;exact ⟨x,(tk x).2 (.inl J),e⟩
       . rw [List.mem_singleton] at O;exact ⟨X,(tk X).2 (.inr rfl),O⟩
   . have r1: ¬Q.val (jg id X)=1:=by simpa using r1
     have r2: ¬Q.val (jg id X)=0:=by simpa using r2
     have b5:Q.val (jg id X)= -1:=by
      rcases aG.pz k1 (jg id X) with e|e|e
      . exact absurd e r2
      . exact absurd e r1
      . exact e
     have V:=(R.g.vm hv).1 b5;refine ⟨_,by omega,j+1,wN (by omega) (by omega),r,rfl,H1,Q,Z,⟨R.g,R.k,R.dt,R.bt,R.b0,fun x J=> ?_,fun y O=> ?_⟩⟩
     . rcases (tk x).1 J with J|rfl
       . exact R.fw x J
       . exact V
     . obtain ⟨x,J,e⟩:=R.bw y O;exact ⟨x,(tk x).2 (.inl J),e⟩
 . have r:j=c.length:=by simp at r;omega
   subst r;refine ⟨_,rfl,_,ad av rfl,(Ey P1.pm R.g).mono ?_⟩;rintro e dd ⟨r,rfl,s2,H2,P2,g2,x,ht⟩;have PP:=P1.trans P2;have kk:=R.k.trans (.ext x);have fw: ∀x∈c,-jg id x∈Q.R .tr:=fun x J=>R.fw x (by rw [List.take_length];exact J);have bw: ∀y∈Q.R .tr,∃x∈c,y= -jg id x:=fun y O=>by
    obtain ⟨x,J,e⟩:=R.bw y O;exact ⟨x,List.mem_of_mem_take J,e⟩
   have b_:nB (c.map (jg id))=false:=by
    rw [<- Bool.not_eq_true,C.Fg hN,nT];rintro ⟨x,J,ag⟩;have a1:=fw x J;have a2:=fw _ ag;rw [C.neg,Int.neg_neg] at a2;exact R.g.cons a2 a1
   have bb:s2.sE=Q.R .tr:=by rw [HR R.g x,R.dt]
   have key:=HJ (cs:=(ls.map cl).map (List.map (jg id))) g2 ht (fun x=>h.BR kk x) b_ (fun y O=>by
    obtain ⟨z,hz,rfl⟩:=List.mem_map.1 O;exact x.mem (fw z hz)) (fun y O=>by
    rw [bb] at O;obtain ⟨z,hz,rfl⟩:=bw y O;rw [Int.neg_neg];exact List.mem_map_of_mem hz)
   refine ⟨_,rfl,h3.Ju PP g2 kk (by rw [x.be];exact R.b0) fun w' H' s' hB hP hn ht=> ⟨_,rfl,?_,H',s',hB,hP.cP g3,hn,fun bx=>ht ?_⟩⟩
   . rw [decide_eq_true_eq,key,b4]
   . rw [x.be];intro e2;have:=R.bt;rw [e2] at this;have a8:=List.eq_nil_of_length_eq_zero this.symm;have:=fw _ (List.head_mem bx);rw [a8] at this;simp at this
end
section
variable {W w w' w0 w2 w3:World} {nb b ib ab:Nat} {vars:Int} {id id':List (Int × Int)} {H H' H2:Pt->Sl} {s t u s':aG} {lp:Option Addr} {lc:Nat} {ls:List Int} {sm:List (Int × Sl)} {cl:Int->List Int} {cp:Option Addr} {n cc:Nat} {c:List Int}
structure RM (W w:World) (nb b ib ab:Nat) (vars:Int) (id:List (Int × Int)) (H:Pt->Sl) (s:aG) (lp:Option Addr) (lc:Nat) (ls:List Int) (sm:List (Int × Sl)) (cl:Int->List Int):Prop where
 st:bF w nb #[.int .i64 vars,.map (some ib),bR b,.slice lp ls.length lc,.map (some ab)]
 pm:PM w b H s
 im:MV (Value.int .i64) w ib id
 am:MV Sl.v w ab sm
 lo:eC aC w lp lc ls
 rw: ∀x∈sm,x.2.n=(cl x.1).length/\x.2.n<=maxLen/\Vw (Value.int .i64) w x.2.p (cl x.1)
 d1: ∀x k,own b H x=some k->k≠nb/\k≠ib/\k≠ab/\aI lp≠some k
 d2:nb≠ib/\nb≠ab/\ib≠ab/\aI lp≠some nb/\aI lp≠some ib/\aI lp≠some ab
 d3: ∀x∈sm,0<x.2.n->∀k,aI x.2.p=some k->k≠nb/\k≠ib/\k≠ab/\aI lp≠some k/\∀y,own b H y≠some k
 wg:aq W w
 wy:W.heap.size<=nb/\W.heap.size<=ib/\W.heap.size<=ab/\(∀k,aI lp=some k->W.heap.size<=k)/\∀x k,own b H x=some k->W.heap.size<=k
def FP (nb ib ab b:Nat) (H:Pt->Sl) (lp:Option Addr) (k:Nat):Prop:=k=nb\/k=ib\/k=ab\/aI lp=some k\/∃x,own b H x=some k
structure RL (id:List (Int × Int)) (s:aG) (ls:List Int) (sm:List (Int × Sl)) (cl:Int->List Int):Prop where
 g:aM s
 be:s.R .be= []
 ve:Ao id
 sv:s.vars=id.length
 nd:ls.Nodup
 th: ∀i:Nat,s.aQ i↔(i:Int)∈ls
 l0: ∀i∈ls,0<=i
 lk: ∀i∈ls,(al sm i).isSome
 cd: ∀i:Nat,s.aQ i->s.R (.a i)=(cl i).map (jg id)
 lt: ∀i∈ls,∀x∈cl i,cq x=true/\Nt id x
 ln: ∀i∈ls,(cl i).length<=4096
 Jd: ∀x∈sm,0<=x.1/\x.1<s.nc
 ll:ls.length<=s.nc
theorem RB.of (m:RM W w nb b ib ab vars id H s lp lc ls sm cl) (l:RL id s ls sm cl):RB W w nb b ib ab vars id H s lp lc ls sm cl:=
 ⟨m.st,m.pm,l.g,m.im,m.am,m.lo,m.rw,m.d1,m.d2,m.d3,m.wg,m.wy,l.be,l.ve,l.sv,l.nd,l.th,l.l0,l.lk,l.cd,l.lt,l.ln,l.Jd,l.ll⟩
theorem RB.rm (h:RB W w nb b ib ab vars id H s lp lc ls sm cl):RM W w nb b ib ab vars id H s lp lc ls sm cl:=
 ⟨h.st,h.pm,h.im,h.am,h.lo,h.rw,h.d1,h.d2,h.d3,h.wg,h.wy⟩
theorem RB.rl (h:RB W w nb b ib ab vars id H s lp lc ls sm cl):RL id s ls sm cl:=
 ⟨h.g,h.be,h.ve,h.sv,h.nd,h.th,h.l0,h.lk,h.cd,h.lt,h.ln,h.Jd,h.ll⟩
theorem RM.sg (h:RM W w nb b ib ab vars id H s lp lc ls sm cl) (P:Pw w w' b H H' s'):RM W w' nb b ib ab vars id H' s' lp lc ls sm cl:=by
 have no: ∀ {k:Nat},(∀x,own b H x≠some k)->¬∃x,own b H x=some k:=fun h ⟨x,e⟩=>h x e;have Y: ∀x,own b H x≠some nb:=fun x e=> (h.d1 x _ e).1 rfl;have n2: ∀x,own b H x≠some ib:=fun x e=> (h.d1 x _ e).2.1 rfl;have Z: ∀x,own b H x≠some ab:=fun x e=> (h.d1 x _ e).2.2.1 rfl;refine ⟨h.st.keep P.mod (no Y),P.pm,h.im.keep P.mod (no n2),h.am.keep P.mod (no Z),h.lo.keep P.mod fun k I ⟨x,e⟩=> (h.d1 x k e).2.2.2 I,fun x J=> ?_,fun x k I=> ?_,h.d2,fun x J X k I=> ?_,h.wg.then P.mod fun k I ⟨x,e⟩=> ?_,⟨h.wy.1,h.wy.2.1,h.wy.2.2.1,h.wy.2.2.2.1,fun x k I=> ?_⟩⟩
 . obtain ⟨O,r2,U⟩:=h.rw x J;refine ⟨O,r2,U.nf P.mod fun V k I ⟨y,e⟩=> (h.d3 x J (by rw [O];exact List.length_pos_iff.2 V) k I).2.2.2.2 y e⟩
 . rcases P.ft x k I with ⟨y,e⟩|e
   . exact h.d1 y k e
   . have l1:=h.st.lt;have l2:=h.im.lt;have l3:=h.am.lt;exact ⟨by omega,by omega,by omega,fun Q=>by have:=h.lo.lt k Q;omega⟩
 . obtain ⟨a1,a2,a3,a4,a5⟩:=h.d3 x J X k I;refine ⟨a1,a2,a3,a4,fun y e=> ?_⟩;rcases P.ft y k e with ⟨z,Q⟩|Q
   . exact a5 z Q
   . obtain ⟨O,_,U⟩:=h.rw x J;have:=U.lt (fun e3=>by rw [e3] at O;simp at O;omega) k I;omega
 . have:=h.wy.2.2.2.2 x k e;omega
 . rcases P.ft x k I with ⟨y,e⟩|e
   . exact h.wy.2.2.2.2 y k e
   . have:=h.wg.size;omega
structure LJ (id id':List (Int × Int)) (c:List Int):Prop where
 ve:Ao id'
 kp: ∀x,Nt id x->Nt id' x
 all: ∀x∈c,Nt id' x
 len:id'.length<=id.length+c.length
theorem CC {p0 p2 p3 p4:Value} (Z:bF w nb #[p0,.map (some ib),p2,p3,p4]) (ay:MV (Value.int .i64) w ib id) (vN:Ao id) (aa:nb≠ib) (hc:Vw (Value.int .i64) w cp c) (a6:c≠[]->aI cp≠some ib) (hn:n=c.length) (hl: ∀x∈c,cq x=true) (hlen:id.length+c.length<=1100000):
 Calls prog f_.id #[bR nb,.slice cp n cc] w fun e w'=>e= .returned (.tuple #[])/\∃id',aE (·=ib) w w'/\MV (Value.int .i64) w' ib id'/\LJ id id' c:=by
 subst hn;refine f_.ah ?_;refine ⟨fun I u z=> ∃i:Nat,I=i/\i<=c.length/\z=c.length - i/\∃id',aE (·=ib) w u/\MV (Value.int .i64) u ib id'/\LJ id id' (c.take i),
  ⟨_,0,rfl,Nat.zero_le _,rfl,id,aE.refl w,ay,vN,fun _ h=>h,fun x J=>by simp at J,by simp⟩,?_⟩
 rintro I u z _ ⟨i,rfl,hi,rfl,id',Y,mu,nt⟩;refine ao (fun r=> ?_) (fun r=> ?_)
 . have r:i<c.length:=by simpa using r
   have tk: ∀x,x∈c.take (i+1)↔x∈c.take i\/x=c.getD i 0:=fun x=>iY r;refine (hc.nf Y fun aT k hk e=>a6 aT (by rw [<- e];exact hk)).ix 0 (by omega) rfl (by omega) fun a e=> ⟨_,e,_,rfl,_,ad (Z.keep Y aa) rfl,?_⟩
   rw [Int.toNat_natCast];have aw:=hl _ (bE r);have hb:=qM aw;have hz:=Iv aw;generalize c.getD i 0=X at*
   have ea:imax X (IntKind.i64.wrap (0 - X))=aX X:=by
    rw [nw X hb];unfold imax aX;split<;>split<;>omega
   rw [ea];have ha:1<=aX X/\aX X<=1048576:=by unfold aX;split<;>omega
   have av:=mu.di ue (aX X) (yH u);have ag:((al id' (aX X)).map (Value.int .i64)).getD (.int .i64 0)= .int .i64 ((al id' (aX X)).getD 0):=by cases al id' (aX X)<;>rfl
   rw [ag] at av;refine ⟨_,_,av,ao (fun O=> ?_) (fun O=> ?_)⟩
   . have O:(al id' (aX X)).getD 0=0:=by simpa using O
     have a7:al id' (aX X)=none:=by
      cases hv:al id' (aX X) with
      |none=>rfl
      |some v=>
       obtain ⟨j,_,_,rfl⟩:=nt.ve.get hv;rw [hv] at O;simp only [Option.getD_some] at O;omega
     have hd:=mu.drew;have ar:=(Z.keep Y aa).drew;have U:=nt.len;rw [List.length_take] at U;refine ⟨_,rfl,_,ad ar rfl,_,rfl,_,ad ar rfl,_,hd.len ue _,?_⟩;rw [wN (i:=id'.length+1) (by omega) (by omega)];obtain ⟨a8,hr,mv,mm,_⟩:=hd.put ue (aX X) ((id'.length+1:Nat):Int);have V:ai id' (aX X) ((id'.length+1:Nat):Int)=id'++ [(aX X,((id'.length+1:Nat):Int))]:=by unfold ai;rw [a7];rfl
     have Q: ∀y,al (ai id' (aX X) ((id'.length+1:Nat):Int)) y=if y=aX X then some ((id'.length+1:Nat):Int) else al id' y:=fun y=>Jq _ _ _ _
     refine ⟨a8,hr,_,by omega,i+1,wN (by omega) (by omega),r,rfl,_,(Y.grow (aE.refl u).drew).trans mm,mv,⟨uT nt.ve.nd _ _,fun j hj=> ?_,fun x J=> ?_⟩,fun x J=> ⟨(nt.kp x J).1,?_⟩,fun x J=> ?_,?_⟩
     . rw [V] at hj ⊢;rw [List.length_append,List.length_singleton] at hj;by_cases e:j<id'.length
       . have:=nt.ve.ve j e;simp only [List.getD,List.getElem?_append_left e] at this ⊢;exact this
       . have:j=id'.length:=by omega
         subst this;simp [List.getD]
     . rw [V] at J;rcases List.mem_append.1 J with J|J
       . exact nt.ve.Mv x J
       . rw [List.mem_singleton] at J;rw [J];exact ha
     . rw [Q];split
       . rfl
       . exact (nt.kp x J).2
     . rcases (tk x).1 J with J|rfl
       . refine ⟨(nt.all x J).1,?_⟩;rw [Q];split
         . rfl
         . exact (nt.all x J).2
       . exact ⟨hz,by rw [Q,if_pos rfl];rfl⟩
     . rw [V,List.length_append,List.length_singleton,List.length_take];omega
   . have O:(al id' (aX X)).getD 0≠0:=by simpa using O
     have az:(al id' (aX X)).isSome:=by
      cases hv:al id' (aX X) with
      |none=>rw [hv] at O;simp at O
      |some v=>rfl
     have U:=nt.len;rw [List.length_take] at U;refine ⟨_,by omega,i+1,wN (by omega) (by omega),r,rfl,id',Y,mu,nt.ve,nt.kp,fun x J=> ?_,by rw [List.length_take];omega⟩;rcases (tk x).1 J with J|rfl
     . exact nt.all x J
     . exact ⟨hz,az⟩
 . have r:i=c.length:=by simp at r;omega
   subst r;rw [List.take_length] at nt;exact ⟨rfl,id',Y,mu,nt⟩
def rQ (v:Int) (c:List Int):Int:=c.foldl (fun a x=>imax (imax a x) (-x)) v
theorem Ad {v:Int} {j:Nat} (r:j<c.length):rQ v (c.take (j+1))=imax (imax (rQ v (c.take j)) (c.getD j 0)) (-(c.getD j 0)):=by
 unfold rQ;rw [List.take_add_one,List.foldl_append];simp [List.getD,r]
end
section
variable {W w w' w0 w2 w3:World} {nb b ib ab:Nat} {vars:Int} {id id':List (Int × Int)} {H H' H2:Pt->Sl} {s t u s':aG} {lp:Option Addr} {lc:Nat} {ls:List Int} {sm:List (Int × Sl)} {cl:Int->List Int} {cp:Option Addr} {n cc:Nat} {c:List Int}
theorem IC (hv: ∀x∈c,dR n (jg id x)) (hm:n<=1048576) (hlen:c.length<=4096):um n (c.map (jg id))=true:=by
 unfold um;rw [Bool.and_eq_true,List.all_eq_true];constructor
 . unfold iu;rw [Bool.and_eq_true,List.all_eq_true];first
   |refine ⟨by simpa using hlen,fun y J=> ?_⟩
    obtain ⟨x,I,rfl⟩:=List.mem_map.1 J;have:=hv x I;have:=this.bd hm;have Q:=this;unfold cq;simp only [decide_eq_true_eq];have O:=(hv x I).1;exact ⟨O,this.1,this.2⟩
   |refine ⟨fun y J=> ?_,by simpa using hlen⟩
    obtain ⟨x,I,rfl⟩:=List.mem_map.1 J;have:=(hv x I).bd hm;unfold cq;simp only [decide_eq_true_eq];have O:=(hv x I).1;exact ⟨O,this.1,this.2⟩
 . intro y J;obtain ⟨x,I,rfl⟩:=List.mem_map.1 J;exact (ia hm).2 (hv x I)
theorem RL.add (h:RL id s ls sm cl) (g:aM s') (A:jT s (c.map (jg id)) s') (hl: ∀x∈c,cq x=true/\Nt id x) (hlen:c.length<=4096) (sl:Sl):
 RL id s' (ls++ [(s.nc:Int)]) (ai sm (s.nc:Int) sl) (fun j=>if j=(s.nc:Int) then c else cl j)/\(ls++ [(s.nc:Int)]).map (fun j=>if j=(s.nc:Int) then c else cl j)=ls.map cl++ [c]/\ai sm (s.nc:Int) sl=sm++ [((s.nc:Int),sl)]:=by
 have U: ∀j∈ls,j< (s.nc:Int):=fun j Z=>by
  have h0:=h.l0 j Z;have:=((h.th j.toNat).2 (by rw [Int.toNat_of_nonneg h0];exact Z)).1;omega
 have Y:al sm (s.nc:Int)=none:=pX.2 fun x J=>by have:=(h.Jd x J).2;omega
 have V:ai sm (s.nc:Int) sl=sm++ [((s.nc:Int),sl)]:=by unfold ai;rw [Y];rfl
 have I: ∀i,i∈ls++ [(s.nc:Int)]↔i∈ls\/i=(s.nc:Int):=fun i=>by simp
 have O: ∀i∈ls,(if i=(s.nc:Int) then c else cl i)=cl i:=fun i hi=>if_neg (by have:=U i hi;omega);have Q: ∀i:Nat,s'.aQ i↔s.aQ i\/i=s.nc:=fun i=>by
  unfold aG.aQ;rw [A.n,A.g];by_cases e:i=s.nc
  . subst e;simp
  . rw [if_neg e];exact ⟨fun ⟨h1,X⟩=> .inl ⟨by omega,X⟩,fun h=>h.elim (fun ⟨h1,X⟩=> ⟨by omega,X⟩) fun h=>absurd h e⟩
 refine ⟨⟨g,A.be.trans h.be,h.ve,A.v.trans h.sv,?_,fun i=> ?_,fun i hi=> ?_,fun i hi=> ?_,fun i hi=> ?_,fun i hi=> ?_,fun i hi=> ?_,fun x J=> ?_,?_⟩,?_,V⟩
 . rw [List.nodup_append];refine ⟨h.nd,by simp,fun x J y hy e=> ?_⟩;rw [List.mem_singleton] at hy;have:=U x J;omega
 . rw [Q,I,h.th];refine or_congr Iff.rfl (by omega)
 . rcases (I i).1 hi with hi|rfl
   . exact h.l0 i hi
   . omega
 . rw [Jq];split
   . rfl
   . rename_i e;exact h.lk i (((I i).1 hi).resolve_right e)
 . rw [A.a];by_cases e:i=s.nc
   . subst e;simp
   . rw [if_neg e,if_neg (by omega)];exact h.cd i (((Q i).1 hi).resolve_right e)
 . rcases (I i).1 hi with hi|rfl
   . rw [O i hi];exact h.lt i hi
   . rw [if_pos rfl];exact hl
 . rcases (I i).1 hi with hi|rfl
   . rw [O i hi];exact h.ln i hi
   . rw [if_pos rfl];exact hlen
 . rw [V] at J;rw [A.n];rcases List.mem_append.1 J with J|J
   . have:=h.Jd x J;omega
   . rw [List.mem_singleton] at J;rw [J];show 0<=(s.nc:Int)/\(s.nc:Int)<_;omega
 . rw [List.length_append,List.length_singleton,A.n];have:=h.ll;omega
 . rw [List.map_append,List.map_singleton,if_pos rfl];refine congrArg (·++ [c]) (List.map_congr_left O)
theorem H0 (h:RB W w nb b ib ab vars id H s lp lc ls sm cl) (hc:Vw (Value.int .i64) W cp c) (hn:n=c.length) (hlen:c.length<=4096) (hl: ∀x∈c,cq x=true/\Nt id x) (ek:s.nc<262144):
 Calls prog fW.id #[bR nb,.slice cp n cc] w fun e w'=>e= .returned (.tuple #[])/\∃H' s' lp' c2 b6 d4 b4,RB W w' nb b ib ab (rQ vars c) id H' s' lp' c2 b6 d4 b4/\b6.map b4=ls.map cl++ [c]/\s'.nc=s.nc+1/\s'.R .tr=s.R .tr/\aE (FP nb ib ab b H lp) w w'/\(∀k,FP nb ib ab b H' lp' k->FP nb ib ab b H lp k\/w.heap.size<=k):=by
 subst hn;have C:=h.ve.jg;have sv:=h.sv;have hinv: ∀x∈c,dR s.vars (jg id x):=fun x Q=>by rw [sv];exact h.ve.qD (hl x Q).2
 have hd:=h.drew;refine fW.ah ⟨aq w.drew,aE.refl _,_,rfl,_,fun u g=>ad (hd.st.grow g) rfl,(Cf hd (hc.grow hd.wg) rfl (by omega) fun x Q=> (hl x Q).1).mono ?_⟩;rintro e w4 ⟨q,d,rfl,o4,g4,f4⟩;have h4:=hd.grow g4;refine ⟨_,_,_,rfl,g4,(pI h4.pm h4.g o4.vw (by simp) (by unfold maxLen;omega)).mono ?_⟩;rintro e w6 ⟨r1,r2,rfl,s',H2,P,g',hr⟩;have dT:=IC hinv h.g.d7 hlen;have ⟨e1,e2,A⟩:r1=s.nc/\r2=0/\jT s (c.map (jg id)) s':=by
  rcases hr with ⟨_,_,hb,_⟩| ⟨_,_,_,hb,_⟩| ⟨a,a2,_,_,a3⟩
  . rw [dT] at hb;cases hb
  . omega
  . exact ⟨a,a2,a3⟩
 subst e1 e2;have O:=h4.rm.sg P;have ll:=h.ll;refine ⟨_,_,rfl,bm rfl ⟨_,rfl,_,_,_,ad O.st rfl,?_⟩⟩;intro n47 ec U;have z6:=O.wg.size;have eg:=U.num;have ed:=U.mod.size;have i6:=O.st.lt;have i7:=O.im.lt;have i8:=O.am.lt;refine Ow.kZ dN (O.lo.grow U.mod) ((s.nc:Int)) U.has rfl rfl fH (by omega) fun bv p' c' bx aa c1 d8=> ?_;have az: ∀k,aI p'=some k->aI lp=some k\/w6.heap.size<=k:=fun k J=>by
  rcases c1 with rfl|rfl
  . exact .inl J
  . right;have:=bg J;omega
 have b9:=(O.st.grow U.mod).keep aa fun e=>O.d2.2.2.2.1 e;refine ⟨_,rfl,bZ b9 rfl rfl fun V ag Y=> ?_⟩;have en:=Y.size;have ax:=ag.drew;have a_:aq W V:=((O.wg.trans U.mod).then aa fun k J e=>by have:=O.wy.2.2.2.1 k e;omega).then Y fun k J e=>by have:=O.wy.1;omega
 refine ⟨aq V.drew,aE.refl _,_,rfl,_,fun u g=>ad (ax.grow g) rfl,(je (hc.grow a_.drew) rfl (by omega)).mono ?_⟩;rintro e b3 ⟨q2,d2,rfl,dq,aT,f56⟩;have f56: ∀k,aI q2=some k->V.heap.size<=k:=f56;have b':MV Sl.v bv ab sm:=(O.am.grow U.mod).keep aa fun e=>O.d2.2.2.2.2.2 e;have bb:MV Sl.v b3 ab sm:=((b'.keep Y fun e=>O.d2.2.1 e.symm).drew).grow aT;obtain ⟨aw,b5,b_,Z,_⟩:=bb.put Ks (s.nc:Int) (⟨q2,c.length,d2⟩:Sl);refine ⟨_,_,_,rfl,aT,aw,b5,?_⟩;have X:aq V b3:=((aE.refl V).drew:aq V V.drew).trans aT;have c3:aq W aw:=(a_.trans X).then Z fun k J e=>by have:=O.wy.2.2.1;omega
 have a':=(ag.grow X).keep Z fun e=>O.d2.2.1 e;refine ⟨fun I u z=> ∃j:Nat,I=j/\j<=c.length/\z=c.length - j/\aE (·=nb) aw u/\bF u nb #[.int .i64 (rQ vars (c.take j)),.map (some ib),bR b,.slice p' (ls.length+1) c',.map (some ab)],⟨_,0,rfl,Nat.zero_le _,rfl,aE.refl _,a'⟩,?_⟩;rintro I u z _ ⟨j,rfl,hj,rfl,gu,su⟩;have Gu:aq W u:=c3.then gu fun k J e=>by have:=O.wy.1;omega
 refine ao (fun r=> ?_) (fun r=> ?_)
 . have r:j<c.length:=by simpa using r
   refine (hc.grow Gu).ix 0 (by omega) rfl (by omega) fun a e=> ⟨_,e,_,rfl,_,ad su rfl,_,rfl,?_⟩
   rw [Int.toNat_natCast,nw _ (qM (hl _ (bE r)).1),<- Ad r];refine bZ su rfl rfl fun ej bk dd=> ⟨_,by omega,j+1,wN (by omega) (by omega),r,rfl,gu.trans dd,bk⟩
 . have r:j=c.length:=by simp at r;omega
   subst r;rw [List.take_length] at su;obtain ⟨L,b7,b8⟩:=h.rl.add g' A hl hlen ⟨q2,c.length,d2⟩;have MM:aE (fun k=>aI lp=some k\/k=nb\/k=ab) w6 u:=by
    have a1:aE (fun k=>aI lp=some k\/k=nb\/k=ab) w6 bv:=(U.mod.mono fun _ _ e=>e.elim).then aa fun k _ e=> .inl e;have a2:=a1.then Y fun k _ e=> .inr (.inl e);have a3:=(a2.then X fun k _ e=>e.elim).then Z fun k _ e=> .inr (.inr e);exact a3.then gu fun k _ e=> .inr (.inl e)
   have z4:=g4.size;have z46:=P.mod.size;have zd:w.drew.heap.size=w.heap.size:=rfl;refine ⟨rfl,H2,s',p',c',_,_,_,RB.of ?_ L,b7,A.n,A.tr,(((((aE.refl w).drew.grow g4:aq w w4)).mono fun _ _ e=>e.elim).then P.mod fun k _ e=> .inr (.inr (.inr (.inr e)))).then MM fun k _ e=> ?_,fun k J=> ?_⟩
   rotate_left
   . rcases e with e|e|e
     . exact .inr (.inr (.inr (.inl e)))
     . exact .inl e
     . exact .inr (.inr (.inl e))
   . rcases J with e|e|e|e| ⟨x,e⟩
     . exact .inl (.inl e)
     . exact .inl (.inr (.inl e))
     . exact .inl (.inr (.inr (.inl e)))
     . rcases az k e with e|e
       . exact .inl (.inr (.inr (.inr (.inl e))))
       . right;omega
     . rcases P.ft x k e with ⟨y,e⟩|e
       . exact .inl (.inr (.inr (.inr (.inr ⟨y,e⟩))))
       . right;omega
   have G6:=O.wg.size;have hz: ∀k,k<w6.heap.size->aI lp≠some k->aI p'≠some k:=fun k J hn e=>by
    rcases az k e with e|e
    . exact hn e
    . omega
   have ay:=bx.lt;refine ⟨by simpa using su,O.pm.keep MM fun x k J e=> ?_,O.im.keep MM fun e=> ?_,b_.keep gu fun e=>O.d2.2.1 e.symm,?_,fun x Q=> ?_,fun x k J=> ?_,?_,fun x Q h0 k J=> ?_,Gu,?_⟩
   . obtain ⟨a1,a2,a3,a4⟩:=O.d1 x k J;rcases e with e|e|e
     . exact a4 e
     . exact a1 e
     . exact a3 e
   . obtain ⟨a1,a2,a3,a4,a5,a6⟩:=O.d2;rcases e with e|e|e
     . exact a5 e
     . exact a1 e.symm
     . exact a3 e
   . have nn: ∀k,aI p'=some k->k≠nb/\k≠ab:=fun k J=> ⟨fun e=>hz nb i6 O.d2.2.2.2.1 (e▸J),fun e=>hz ab i8 O.d2.2.2.2.2.2 (e▸J)⟩
     exact (((bx.keep Y fun k J e=> (nn k J).1 e).grow X).keep Z fun k J e=> (nn k J).2 e).keep gu fun k J e=> (nn k J).1 e
   . rw [b8] at Q;rcases List.mem_append.1 Q with Q|Q
     . obtain ⟨r1,r2,r3⟩:=O.rw x Q;have ar:x.1≠(s.nc:Int):=by have:=(h.Jd x Q).2;omega
       rw [if_neg ar];refine ⟨r1,r2,r3.nf MM fun ar k J e=> ?_⟩;obtain ⟨a1,a2,a3,a4,a5⟩:=O.d3 x Q (by rw [r1];exact List.length_pos_iff.2 ar) k J;rcases e with e|e|e
       . exact a4 e
       . exact a1 e
       . exact a3 e
     . rw [List.mem_singleton] at Q;subst Q;rw [if_pos rfl];refine ⟨rfl,by show c.length<=maxLen;unfold maxLen;omega,(dq.vw.keep Z fun k J e=> ?_).keep gu fun k J e=> ?_⟩
       . have:=f56 k J;omega
       . have:=f56 k J;omega
   . obtain ⟨a1,a2,a3,a4⟩:=O.d1 x k J;exact ⟨a1,a2,a3,hz k (O.pm.lt x k J) a4⟩
   . obtain ⟨a1,a2,a3,a4,a5,a6⟩:=O.d2;exact ⟨a1,a2,a3,hz _ i6 a4,hz _ i7 a5,hz _ i8 a6⟩
   . rw [b8] at Q;rcases List.mem_append.1 Q with Q|Q
     . obtain ⟨r1,r2,r3⟩:=O.rw x Q;obtain ⟨a1,a2,a3,a4,a5⟩:=O.d3 x Q h0 k J;exact ⟨a1,a2,a3,hz k (r3.lt (fun e3=>by rw [e3] at r1;simp at r1;omega) k J) a4,a5⟩
     . rw [List.mem_singleton] at Q;subst Q;have fk:=f56 k J;refine ⟨by omega,by omega,by omega,fun e=> ?_,fun y e=> ?_⟩
       . have:=ay k e;omega
       . have:=O.pm.lt y k e;omega
   . obtain ⟨a1,a2,a3,a4,a5⟩:=O.wy;refine ⟨a1,a2,a3,fun k J=> ?_,a5⟩;rcases az k J with e|e
     . exact a4 k e
     . omega
end
section
variable {W w w' w0 w2 w3:World} {nb b ib ab:Nat} {vars:Int} {id id':List (Int × Int)} {H H' H2:Pt->Sl} {s t u s':aG} {lp:Option Addr} {lc:Nat} {ls:List Int} {sm:List (Int × Sl)} {cl:Int->List Int} {cp:Option Addr} {n cc:Nat} {c:List Int}
def Al (c:List Int):List (List Int)->List (List Int)
 | []=> []
 |x::l=>if bh x=bh c then l else x::Al c l
end
section
variable {W w w' w0 w2 w3:World} {nb b ib ab k:Nat} {vars:Int} {id id':List (Int × Int)} {cs:List (List Int)} {t:Bool} {A A':Nat->Prop} {cp lp lp':Option Addr} {n cc:Nat} {c:List Int} {H H':Pt->Sl} {s s':aG} {lc:Nat} {ls:List Int} {sm:List (Int × Sl)} {cl:Int->List Int}
theorem Pw.fp (P:Pw w w' b H H' s'):aE (FP nb ib ab b H lp) w w'/\∀k,FP nb ib ab b H' lp k->FP nb ib ab b H lp k\/w.heap.size<=k:=by
 refine ⟨P.mod.mono fun k _ e=> .inr (.inr (.inr (.inr e))),fun k I=> ?_⟩;rcases I with e|e|e|e| ⟨x,e⟩
 . exact .inl (.inl e)
 . exact .inl (.inr (.inl e))
 . exact .inl (.inr (.inr (.inl e)))
 . exact .inl (.inr (.inr (.inr (.inl e))))
 . rcases P.ft x k e with ⟨y,e⟩|e
   . exact .inl (.inr (.inr (.inr (.inr ⟨y,e⟩))))
   . exact .inr e
def Aw (A:Nat->Prop) (w:World) (F:Nat->Prop):Prop:= ∀j,A j->j<w.heap.size/\¬F j
theorem Aw.go {F J:Nat->Prop} (h:Aw A w F) (M:aE F w w') (f: ∀k,J k->F k\/w.heap.size<=k):Aw A w' J/\aE (fun j=> ¬A j) w w':=by
 refine ⟨fun j I=> ⟨by have:=(h j I).1;have:=M.size;omega,fun e=> ?_⟩,M.mono fun k _ e O=> (h k O).2 e⟩;rcases f j e with e|e
 . exact (h j I).2 e
 . have:=(h j I).1;omega
def Wk (t:Bool) (A:Nat->Prop) (W w:World) (nb:Nat) (vars:Int) (id:List (Int × Int)) (cs:List (List Int)) (k:Nat):Prop:=
 ∃b ib ab H s lp lc ls sm cl,RB W w nb b ib ab vars id H s lp lc ls sm cl/\ls.map cl=cs/\s.nc<=k/\(t=true->s.R .tr= [])/\Aw A w (FP nb ib ab b H lp)
theorem Wk.wg (h:Wk t A W w nb vars id cs k):aq W w:=by
 obtain ⟨b,ib,ab,H,s,lp,lc,ls,sm,cl,h,h1,I,J⟩:=h;exact h.wg
theorem Wk.unit (h:Wk true A W w nb vars id cs k) (X:Vw (Value.int .i64) W cp c) (hn:n=c.length) (I:n<=100000) (hl: ∀x∈c,cq x=true/\Nt id x):
 Calls prog fF.id #[bR nb,.slice cp n cc] w fun e w'=> ∃r:Bool,e= .returned (.bool r)/\(r=true↔uB cs c)/\Wk (!c.isEmpty) A W w' nb vars id cs k/\aE (fun j=> ¬A j) w w':=by
 obtain ⟨b,ib,ab,H,s,lp,lc,ls,sm,cl,h,rfl,Z,Q,Y⟩:=h;refine (HA h (Q rfl) (X.grow h.wg) hn I (fun x I=> (hl x I).1) (fun x I=> (hl x I).2)).mono ?_;rintro e w' ⟨r,rfl,hr,H',s',U,P,V,ht⟩;obtain ⟨O,p2⟩:=P.fp (nb:=nb) (ib:=ib) (ab:=ab) (lp:=lp);obtain ⟨a1,a2⟩:=Y.go O p2;exact ⟨r,rfl,hr,⟨b,ib,ab,H',s',lp,lc,ls,sm,cl,U,rfl,by omega,fun e=>ht fun J=>by subst J;simp at e,a1⟩,a2⟩
theorem Wk.add (h:Wk t A W w nb vars id cs k) (Z:Vw (Value.int .i64) W cp c) (hn:n=c.length) (hlen:c.length<=4096) (hl: ∀x∈c,cq x=true/\Nt id x) (hk:k<262144):
 Calls prog fW.id #[bR nb,.slice cp n cc] w fun e w'=>e= .returned (.tuple #[])/\Wk t A W w' nb (rQ vars c) id (cs++ [c]) (k+1)/\aE (fun j=> ¬A j) w w':=by
 obtain ⟨b,ib,ab,H,s,lp,lc,ls,sm,cl,h,rfl,h2,V,h4⟩:=h;refine (H0 h Z hn hlen hl (by omega)).mono ?_;rintro e w' ⟨rfl,H',s',lp',Q,J,I,O,X,hm,Y,ht,U,p2⟩;obtain ⟨a1,a2⟩:=h4.go U p2;exact ⟨rfl,⟨b,ib,ab,H',s',lp',Q,J,I,O,X,hm,by omega,fun e=>ht.trans (V e),a1⟩,a2⟩
end
section
variable {W w w' w0 w2 w3:World} {nb b ib ab k:Nat} {vars:Int} {id id':List (Int × Int)} {cs ms:List (List Int)} {t:Bool} {cp:Option Addr} {n cc:Nat} {c:List Int}
theorem oh {l:List (List Int)} {i:Nat} (h:i<l.length):l.getD i []∈l:=by simp [List.getD,h]
theorem mh {α:Type} {l:List α} {i:Nat} (h:i<l.length) (d:α):l.take (i+1)=l.take i++ [l.getD i d]:=by
 rw [List.take_add_one];simp [List.getD,h]
theorem HE {p2 p3 p4:Value} {q:Option Addr} {m d:Nat} {hs:List Sl} (V:bF w nb #[.int .i64 vars,.map (some ib),p2,p3,p4]) (Q:MV (Value.int .i64) w ib id) (vN:Ao id) (aa:nb≠ib) (hW:aq W w) (y1:W.heap.size<=nb) (y2:W.heap.size<=ib)
 (hv:V2 (Value.int .i64) W q hs cs) (hm:m=cs.length) (av: ∀c∈cs,c.length<=4096/\∀x∈c,cq x=true/\Nt id x) (hlen:cs.length<262144) (cg:id.length<=1048576):
 Calls prog fZ.id #[bR nb,.slice q m d] w fun e w'=>e= .returned (.tuple #[])/\Wk true (fun _=>False) W w' nb (cs.foldl rQ vars) id cs cs.length:=by
 subst hm;refine fZ.ah ⟨_,rfl,_,ad V rfl,_,Q.len ue _,?_⟩;refine (yb (k:=(id.length:Int)) (cs:= []) (hs:= []) (q:=none) (m:=0) (d:=0) V2.nil rfl).mono ?_;have bk:dH (id.length:Int) []=true:=by unfold dH;simp;omega
 rintro e w4 (⟨hf,_⟩| ⟨_,b,s,H,rfl,pm,g,N,gw,fo⟩)
 . rw [bk] at hf;cases hf
 have a7:=V.grow gw;have bY:=Q.grow gw;have zw:=hW.size;have z4:=gw.size;have i1:=V.lt;have i2:=Q.lt;refine ⟨_,_,rfl,_,rfl,bZ a7 rfl rfl fun w8 bv M8=> ?_⟩;intro n9 Z jQ;have cb:=jQ.num;have z8:=M8.size;have ar:bF Z nb _:=bv.grow jQ.mod;refine ⟨_,rfl,bZ ar rfl rfl fun c1 ay az=> ⟨_,rfl,bZ ay rfl rfl fun J ax aw=> ?_⟩⟩;have X:aE (·=nb) w4 J:=((M8.grow jQ.mod).trans az).trans aw;have bx:aE (·=nb) Z J:=az.trans aw;have b3:n9≠nb:=by omega
 have a':s.vars=id.length:=by have:=N.v;simpa using this
 have ce:s.nc=0:=N.n;have U: ∀x k,own b H x=some k->W.heap.size<=k/\w.heap.size<=k/\k<w4.heap.size:=fun x k e=> ⟨by have:=fo x k e;omega,fo x k e,pm.lt x k e⟩
 have aS: ∀i,¬s.aQ i:=fun i h=>by have:=h.1;omega
 have hB:RB W J nb b ib n9 vars id H s none 0 [] [] fun _=> []:=by
  refine ⟨ax,pm.keep X fun x k Y e=> ?_,g,bY.keep X fun e=>aa e.symm,(MV.new jQ).keep bx b3,Ow.nil _ _ _,fun x hx=>by simp at hx,fun x k Y=> ?_,?_,fun x hx=>by simp at hx,?_,?_,N.be,vN,a',by simp,fun i=>by simp [aS],fun i hi=>by simp at hi,fun i hi=>by simp at hi,fun i hi=>absurd hi (aS i),fun i hi=>by simp at hi,fun i hi=>by simp at hi,fun x hx=>by simp at hx,by simp⟩
  . have:=U x k Y;omega
  . have:=U x k Y;exact ⟨by omega,by omega,by omega,by simp [aI]⟩
  . exact ⟨aa,by omega,by omega,by simp [aI],by simp [aI],by simp [aI]⟩
  . exact (hW.trans gw).then X fun k Y e=>by omega
  . exact ⟨y1,y2,by omega,by simp [aI],fun x k Y=> (U x k Y).1⟩
 have bb:Wk true (fun _=>False) W J nb vars id [] 0:=⟨b,ib,n9,H,s,none,0,[],[],_,hB,rfl,by omega,fun _=>N.tr,fun j hj=>hj.elim⟩
 refine ⟨fun I u z=> ∃v:Nat,I=v/\v<=cs.length/\z=cs.length - v/\Wk true (fun _=>False) W u nb ((cs.take v).foldl rQ vars) id (cs.take v) v,⟨_,0,rfl,Nat.zero_le _,rfl,bb⟩,?_⟩;rintro I u z _ ⟨v,rfl,cT,rfl,ku⟩;refine ao (fun r=> ?_) (fun r=> ?_)
 . have r:v<cs.length:=by simpa using r
   have O:=oh r;refine (hv.grow ku.wg).ix (by omega) rfl (by omega) fun a sl k1 k0 k2 k3 k4=> ⟨_,_,_,k1,?_⟩
   rw [Int.toNat_natCast] at k0 k2;obtain ⟨r1,r2,r3⟩:=hv.r v r;rw [<- k0] at r3;refine (ku.add r3 k2 (av _ O).1 (av _ O).2 (by omega)).mono ?_;rintro e c7 ⟨rfl,a8,_⟩;refine ⟨rfl,_,?_,v+1,wN (by omega) (by omega),r,rfl,?_⟩
   . omega
   . rw [mh r [],List.foldl_append];exact a8
 . have r:v=cs.length:=by simp at r;omega
   subst r;rw [List.take_length] at ku;exact ⟨rfl,ku⟩
theorem Ev {v:Int} {p q:Option Addr} {n d m e:Nat} {hs ks:List Sl} (hv:V2 (Value.int .i64) w p hs cs) (hn:n=cs.length) (hw:V2 (Value.int .i64) w q ks ms) (hm:m=ms.length)
 (Y: ∀c∈cs,c.length<=4096/\∀x∈c,cq x=true) (a7: ∀c∈ms,c.length<=50000/\∀x∈c,cq x=true) (hlen:cs.length<262144) (b':ms.length<=1000000):
 Calls prog jt.id #[.agg #[.int .i64 v,.slice p n d],.slice q m e] w fun e w'=> ∃ (nb:Nat) (id:List (Int × Int)),e= .returned (bR nb)/\Wk true (fun _=>False) w w' nb (cs.foldl rQ v) id cs cs.length/\(∀c∈cs++ms,∀x∈c,Nt id x):=by
 subst hn hm;refine jt.ah ?_;intro n1 w2 h2;have e2:=h2.num;refine ⟨_,ad h2.has rfl,?_⟩;intro V w5 h5;have e5:=h5.num;have z2:=h2.mod.size;have s2:=h2.size;intro n6 Z h7;have e7:=h7.num;have s5:=h5.size;have G7:aq w Z:=(h2.mod.trans h5.mod).trans h7.mod;have az:bF Z n1 _:=(h2.has.grow h5.mod).grow h7.mod;refine ⟨_,_,_,ad az rfl,?_⟩;have a':Ao []:=⟨by simp,fun j hj=>by simp at hj,fun x X=>by simp at X⟩
 refine ⟨fun I u z=> ∃ (i:Nat) (id:List (Int × Int)),I=i/\i<=cs.length/\z=cs.length - i/\aE (·=V) Z u/\MV (Value.int .i64) u V id/\Ao id/\∀c∈cs.take i,∀x∈c,Nt id x,
  ⟨_,0,[],rfl,Nat.zero_le _,rfl,aE.refl _,(MV.new h5).grow h7.mod,a',fun c J=>by simp at J⟩,?_⟩
 rintro I u z _ ⟨i,id,rfl,hi,rfl,O,mu,Q,hN⟩;have Lm:=hv.Lm;have b7:=hw.Lm;have b4: ∀ {u:World},aE (·=V) Z u->V2 (Value.int .i64) u p hs cs:=fun O=> (hv.grow G7).nf O fun k hk e=>by have:=Lm k hk;omega
 have b3: ∀ {u:World},aE (·=V) Z u->V2 (Value.int .i64) u q ks ms:=fun O=> (hw.grow G7).nf O fun k hk e=>by have:=b7 k hk;omega
 have aa: ∀ {u:World},aE (·=V) Z u->bF u n6 #[.int .i64 v,.map (some V),.pointer none,.slice none 0 0,.map none]:=fun O=>h7.has.keep O (by omega);have bk: ∀ {u:World},aE (·=V) Z u->bF u n1 #[.int .i64 v,.slice p cs.length d]:=fun O=>az.keep O (by omega);refine ao (fun r=> ?_) (fun r=> ?_)
 . have r:i<cs.length:=by simpa using r
   have U:=oh r;have b8:=Q.le;have b9:=(Y _ U).1;refine (b4 O).ix (by omega) rfl (by omega) fun a sl k1 k0 k2 k3 k4=> ⟨_,_,_,k1,?_⟩
   rw [Int.toNat_natCast] at k2 k4 k0;obtain ⟨r1,r2,r3⟩:=hv.r i r;rw [<- k0] at r3;refine (CC (aa O) mu Q (by omega) k4 (fun ag e=>by have:=r3.lt ag V e;omega) k2 (Y _ U).2 (by omega)).mono ?_;rintro e bx ⟨rfl,id',ar,av,nt⟩;refine ⟨rfl,_,?_,i+1,id',wN (by omega) (by omega),r,rfl,O.trans ar,av,nt.ve,fun c J x X=> ?_⟩
   . omega
   . rw [mh r []] at J;rcases List.mem_append.1 J with J|J
     . exact nt.kp x (hN c J x X)
     . rw [List.mem_singleton] at J;subst J;exact nt.all x X
 have r:i=cs.length:=by simp at r;omega
 subst r;rw [List.take_length] at hN;refine ⟨fun I u z=> ∃ (i:Nat) (id:List (Int × Int)),I=i/\i<=ms.length/\z=ms.length - i/\aE (·=V) Z u/\MV (Value.int .i64) u V id/\Ao id/\∀c∈cs++ms.take i,∀x∈c,Nt id x,
  ⟨_,0,id,rfl,Nat.zero_le _,rfl,O,mu,Q,fun c J=>by simp at J;exact hN c J⟩,?_⟩
 clear O mu Q hN;rintro I u z _ ⟨i,id,rfl,hi,rfl,O,mu,Q,hN⟩;refine ao (fun r=> ?_) (fun r=> ?_)
 . have r:i<ms.length:=by simpa using r
   have U:=oh r;have b8:=Q.le;have b9:=(a7 _ U).1;refine (b3 O).ix (by omega) rfl (by omega) fun a sl k1 k0 k2 k3 k4=> ⟨_,_,_,k1,?_⟩
   rw [Int.toNat_natCast] at k2 k4 k0;obtain ⟨r1,r2,r3⟩:=hw.r i r;rw [<- k0] at r3;refine (CC (aa O) mu Q (by omega) k4 (fun ag e=>by have:=r3.lt ag V e;omega) k2 (a7 _ U).2 (by omega)).mono ?_;rintro e bx ⟨rfl,id',ar,av,nt⟩;refine ⟨rfl,_,?_,i+1,id',wN (by omega) (by omega),r,rfl,O.trans ar,av,nt.ve,fun c J x X=> ?_⟩
   . omega
   . rw [mh r [],<- List.append_assoc] at J;rcases List.mem_append.1 J with J|J
     . exact nt.kp x (hN c J x X)
     . rw [List.mem_singleton] at J;subst J;exact nt.all x X
 have r:i=ms.length:=by simp at r;omega
 subst r;rw [List.take_length] at hN;refine ⟨_,_,_,ad (bk O) rfl,?_⟩;have Gu:aq w u:=G7.then O fun k hk e=>by omega
 refine (HE (aa O) mu Q (by omega) Gu (by omega) (by omega) hv rfl (fun c J=> ⟨(Y c J).1,fun x X=> ⟨(Y c J).2 x X,hN c (List.mem_append_left _ J) x X⟩⟩) hlen Q.le).mono ?_;rintro e cg ⟨rfl,bv⟩;exact ⟨rfl,n6,id,rfl,bv,hN⟩
end
end Go.Proofs.YtenmibfmhccmiaaGreat.W
