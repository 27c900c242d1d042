/- Layer 1: the statements LitNorms, LitValues and LitResolves. -/
import Derived.Test.YtbdghpjnifjlmaaGreatSortA
import Derived.Test.YtbdghpjnifjlmaaGreatFwRead
import Derived.Test.YtbdghpjnifjlmaaGreatFwMem
import Derived.Maps.Own
import Derived.Maps.OwnSet
import Derived.Maps.Range
set_option linter.all false
namespace Go.Proofs.YtbdghpjnifjlmaaGreat.W
open Go Go.Fw Go.RowKit Go.SoP Go.LiP
variable{w:World}{p q:sn}{n c:Nat}{l:List Int}
theorem Ng{m:List Int}{l:Int}(h:cC l=true):jF m (-l)= -jF m l:=by
 have hb:=dj h;have I:cC (-l)=true:=by unfold cC;exact I4 (by omega)
 have ha:bo (-l)=bo l:=by unfold bo;split<;>split<;>omega
 unfold jF;rw[h,I,ha];split
 .rfl
 .split
  .rfl
  .generalize m.getD (bo l - 1).toNat 0=z at*
   by_cases h1:z>0<;>by_cases J:l>0<;>by_cases O: -l>0<;>simp[h1,J]<;>omega
end Go.Proofs.YtbdghpjnifjlmaaGreat.W
namespace Go.Fw
open Go Go.RowKit Go.Maps
section
variable{P:Program}{t k e:TypeId}{w w':World}{b n:Nat}{s:Int->Bool}
def vt(P:Program)(t k e:TypeId):Bool:=
 (match P.underlying t with|some (.map J I)=>Nat.beq J k && Nat.beq I e|_=>false) && (match P.underlying k with|some (.int .i64)=>true|_=>false) && (match P.underlying e with|some .bool=>true|_=>false) && (match P.info? e with|some i=> (match i.zero with|some (.bool false)=>true|_=>false)|none=>false)
theorem jr(h:vt P t k e=true):P.underlying t=some (.map k e)/\P.underlying k=some (.int .i64)/\P.underlying e=some .bool/\∀w,(zeroValue e).run P w=.ok (.bool false) w:=by
 simp only[vt,ts]at h;obtain⟨⟨⟨h1,J⟩,O⟩,I⟩:=h;split at h1
 .rename_i U Q hu;simp only[ts]at h1;have X:U=k:=V_ h1.1;have V:Q=e:=V_ h1.2;subst X V;refine⟨hu,?_,?_,?_⟩
  .split at J
   .assumption
   .simp at J
  .split at O
   .assumption
   .simp at O
  .intro w;split at I
   .rename_i i hi;split at I
    .rename_i Y;unfold zeroValue;simp only[Sem.run_bind,eS hi,Result.andThen_ok,Y,Sem.run_pure]
    .simp at I
   .simp at I
 .simp at h1
def MB(P:Program)(k e:TypeId)(w:World)(b n:Nat)(s:Int->Bool):Prop:=
 ∃D:DataW Unit,w.ownsMap P k (plainElem P e) b n D/\∀a:Int,D.atKey (.i a) (.lit (.bool false))=.lit (.bool (s a))
theorem MB.lt(h:MB P k e w b n s):b<w.heap.size:=by obtain⟨D,h,_⟩:=h;exact h.lt
theorem MB.keep{S:Nat->Prop}(h:MB P k e w b n s)(m:aE S w w')(hs: ¬S b):MB P k e w' b n s:=by
 have hl:=h.lt;obtain⟨D,⟨I,clock,hb,h⟩,J⟩:=h;exact⟨D,⟨I,clock,(m.block b hl hs).trans hb,h⟩,J⟩
theorem MB.grow(h:MB P k e w b n s)(m:ak w w'):MB P k e w' b n s:=h.keep m id
theorem MB.Il(h:MB P k e w b n s){c:Nat}(m:aE (·=c) w w')(I:b≠c):MB P k e w' b n s:=h.keep m I
theorem MB.new{b:Nat}(h:jz (.map #[] 0) w b w'):MB P k e w' b 0 λ_=>false:=by
 obtain⟨rfl,rfl⟩:=h;exact⟨.map [],World.ownsMap_made w P k _,λa=>rfl⟩
theorem MB.cY(hm:vt P t k e=true)(h:MB P k e w b n s){a:Int}(ha:(Lit.int .i64 a).wf=true):(Instr.lookup t (.map (some b)) (.i a) false).run P w=.ok (.bool (s a)) w:=by
 obtain⟨ht,I,he,O⟩:=jr hm;obtain⟨D,h,J⟩:=h;obtain⟨v,ps,hr,hv⟩:=h.lookup (int_keyed I) ht (O w) (plainElem_bool he false) (keyOf_int_mk I ha);rw[J a]at hv;have:v=.bool (s a):=by
  unfold plainElem at hv;rw[he]at hv;cases v<;>simp_all
 rw[hr,this]
theorem MB.put(hm:vt P t k e=true)(h:MB P k e w b n s)(hn:n<maxLen){a:Int}(ha:(Lit.int .i64 a).wf=true)(v:Bool):
 ∃w',(Instr.mapUpdate t (.map (some b)) (.i a) (.bool v)).run P w=.ok () w'/\MB P k e w' b (n+1) (λu=>if u=a then v else s u)/\aE (·=b) w w':=by
 obtain⟨ht,O,he,V⟩:=jr hm;obtain⟨D,h,Q⟩:=h;have J:=h.isMap;obtain⟨w',hr,U,I⟩:=h.update (int_keyed O) ht hn (keyOf_int_mk O ha) (plainElem_bool (H:=Unit) he v);refine⟨w',hr,⟨_,U,λu=>?_⟩,⟨I.os,I.tape,I.output,I.size,λi hi hn=>I.block i hi λe=>hn (WS e)⟩⟩;by_cases hu:u=a
 .subst hu;exact(atKey_put_same J (show WideAt.IsKeyLit (.i u) from trivial) _ _).trans (by simp)
 .exact ((atKey_put_other (λe=>hu (by injection e)) _ _).trans (Q u)).trans (by simp[hu])
theorem BH{a:Int}(h1: -9223372036854775808<=a)(I:a<9223372036854775808):(Lit.int .i64 a).wf=true:=by
 simp[Lit.wf,IntKind.min,IntKind.max,IntKind.signed,IntKind.bits];omega
end
section
variable{P:Program}{t k e:TypeId}{w w':World}{b r n eY:Nat}{s lf:Int->Bool}
def MS(P:Program)(k e:TypeId)(w:World)(b n:Nat)(s:Int->Bool):Prop:=
 ∃D:DataW Unit,w.ownsMap P k (plainElem P e) b n D/\(∀a:Int,D.atKey (.i a) (.lit (.bool false))=.lit (.bool (s a)))/\∀a:Int,Maps.has D (.i a)=s a
theorem MS.mb(h:MS P k e w b n s):MB P k e w b n s:=by obtain⟨D,h1,I,_⟩:=h;exact⟨D,h1,I⟩
theorem MS.lt(h:MS P k e w b n s):b<w.heap.size:=h.mb.lt
theorem MS.keep{S:Nat->Prop}(h:MS P k e w b n s)(m:aE S w w')(hs: ¬S b):MS P k e w' b n s:=by
 have hl:=h.lt;obtain⟨D,⟨I,clock,hb,h⟩,J⟩:=h;exact⟨D,⟨I,clock,(m.block b hl hs).trans hb,h⟩,J⟩
theorem MS.grow(h:MS P k e w b n s)(m:ak w w'):MS P k e w' b n s:=h.keep m id
theorem MS.new{b:Nat}(h:jz (.map #[] 0) w b w'):MS P k e w' b 0 λ_=>false:=by
 obtain⟨rfl,rfl⟩:=h;exact⟨.map [],World.ownsMap_made w P k _,λa=>rfl,λa=>rfl⟩
theorem MS.cY(hm:vt P t k e=true)(h:MS P k e w b n s){a:Int}(ha:(Lit.int .i64 a).wf=true):(Instr.lookup t (.map (some b)) (.i a) false).run P w=.ok (.bool (s a)) w:=h.mb.cY hm ha
theorem MS.put(hm:vt P t k e=true)(h:MS P k e w b n s)(hn:n<maxLen){a:Int}(ha:(Lit.int .i64 a).wf=true):
 ∃w',(Instr.mapUpdate t (.map (some b)) (.i a) (.bool true)).run P w=.ok () w'/\MS P k e w' b (n+1) (λu=>if u=a then true else s u)/\aE (·=b) w w':=by
 obtain⟨ht,O,he,X⟩:=jr hm;obtain⟨D,h,U,Q⟩:=h;have I:=h.isMap;obtain⟨w',hr,V,J⟩:=h.update (int_keyed O) ht hn (keyOf_int_mk O ha) (plainElem_bool (H:=Unit) he true);refine⟨w',hr,⟨_,V,λu=>?_,λu=>?_⟩,⟨J.os,J.tape,J.output,J.size,λi hi hn=>J.block i hi λe=>hn (WS e)⟩⟩
 .by_cases hu:u=a
  .subst hu;exact(atKey_put_same I (show WideAt.IsKeyLit (.i u) from trivial) _ _).trans (by simp)
  .exact ((atKey_put_other (λe=>hu (by injection e)) _ _).trans (U u)).trans (by simp[hu])
 .by_cases hu:u=a
  .subst hu;exact(has_put_same I (show WideAt.IsKeyLit (.i u) from trivial) _).trans (by simp)
  .exact ((has_put_other (λe=>hu (by injection e)) _).trans (Q u)).trans (by simp[hu])
theorem MS.del(hm:vt P t k e=true)(h:MS P k e w b n s){a:Int}(ha:(Lit.int .i64 a).wf=true)(ty:TypeId):
 ∃w',(Builtin.delete_ #[t,k] ty #[.map (some b),.i a]).run P w=.ok (.tuple #[]) w'/\MS P k e w' b n (λu=>if u=a then false else s u)/\aE (·=b) w w':=by
 obtain⟨ht,J,he,V⟩:=jr hm;obtain⟨D,h,Q,O⟩:=h;obtain⟨w',hr,U,I⟩:=h.drop (int_keyed J) ht (keyOf_int_mk J ha) ty;have I:=I.grown;refine⟨w',hr,⟨_,U,λu=>?_,λu=>?_⟩,⟨I.os,I.tape,I.output,I.size,λi hi hn=>I.block i hi λe=>hn (WS e)⟩⟩
 .by_cases hu:u=a
  .subst hu;exact(atKey_del_same _).trans (by simp)
  .exact ((atKey_del_other (λe=>hu (by injection e)) _).trans (Q u)).trans (by simp[hu])
 .by_cases hu:u=a
  .subst hu;exact has_del_same.trans (by simp)
  .exact ((has_del_other (λe=>hu (by injection e))).trans (O u)).trans (by simp[hu])
theorem MS.len(hm:vt P t k e=true)(h:MS P k e w b n s)(ty:TypeId):∃c:Nat,c<=n/\(Builtin.len_ #[t] ty #[.map (some b)]).run P w=.ok (.i c) w:=by
 obtain⟨ht,I,he,Q⟩:=jr hm;obtain⟨D,h,O,J⟩:=h;exact⟨Maps.size D,h.size_le,h.len ht ty⟩
def MR(P:Program)(k e:TypeId)(w:World)(b r n:Nat)(s lf:Int->Bool)(eY:Nat):Prop:=
 ∃ (D:DataW Unit) (left:Lit->Bool),w.ranges P k (plainElem P e) b r n D left eY/\(∀a:Int,D.atKey (.i a) (.lit (.bool false))=.lit (.bool (s a)))/\(∀a:Int,Maps.has D (.i a)=s a)/\∀a:Int,left (.i a)=lf a
theorem MR.ms(h:MR P k e w b r n s lf eY):MS P k e w b n s:=by
 obtain⟨D,left,h1,I,J,_⟩:=h;exact⟨D,h1.owns,I,J⟩
theorem MR.lt(h:MR P k e w b r n s lf eY):r<w.heap.size:=by
 obtain⟨D,left,h1,_⟩:=h;exact h1.lt
theorem MR.keep{S:Nat->Prop}(h:MR P k e w b r n s lf eY)(m:aE S w w')(h1: ¬S b)(O: ¬S r):MR P k e w' b r n s lf eY:=by
 have J:=h.ms.lt;have I:=h.lt;obtain⟨D,left,⟨V,clock,since,seen,Q,hb,F,hs,hD,hr,rest⟩,U⟩:=h;exact⟨D,left,⟨V,clock,since,seen,Q,(m.block b J h1).trans hb,F,hs,hD,(m.block r I O).trans hr,rest⟩,U⟩
theorem MR.grow(h:MR P k e w b r n s lf eY)(m:ak w w'):MR P k e w' b r n s lf eY:=h.keep m id id
theorem MR.drew(h:MR P k e w b r n s lf eY):MR P k e w.drew b r n s lf eY:=h.grow (aE.refl w).drew
theorem MS.range(hm:vt P t k e=true)(h:MS P k e w b n s):∃w' eY,(Instr.range t (.map (some b))).run P w=.ok (.pointer (some ⟨w.heap.size,0,none⟩)) w'/\MR P k e w' b w.heap.size n s s eY/\ak w w':=by
 obtain⟨ht,Q,he,V⟩:=jr hm;obtain⟨D,h,U,J⟩:=h;obtain⟨w',hr,O,I,_⟩:=h.range (int_keyed Q) ht;exact⟨w',_,hr,⟨D,_,O,U,J,J⟩,⟨I.os,I.tape,I.output,I.size,λi hi _=>I.block i hi (by simp)⟩⟩
theorem BF{key:Value}{I:Lit}(O:P.underlying k=some (.int .i64))(h:keyOf P k key=some I):∃a:Int,key=.i a/\I=.i a/\(Lit.int .i64 a).wf=true:=by
 cases key<;>simp[keyOf,O,mapKey]at h;rename_i q a;obtain⟨h1,rfl⟩:=h;obtain⟨rfl,J⟩:=h1;exact⟨a,rfl,rfl,J⟩
theorem MR.next(hm:vt P t k e=true)(h:MR P k e w b r n s lf eY)(ty:TypeId):
 (eY=0/\(∀a,lf a=false)/\(Instr.next (.pointer (some ⟨r,0,none⟩)) false ty).run P w=.ok (.tuple #[.bool false]) w)\/
 ∃ (a:Int) (v:Value) (w':World) (I:Nat),lf a=true/\(Lit.int .i64 a).wf=true/\(Instr.next (.pointer (some ⟨r,0,none⟩)) false ty).run P w=.ok (.tuple #[.bool true,.i a,v]) w'/\
   (Instr.entry (.pointer (some ⟨r,0,none⟩))).run P w'=.ok (.tuple #[.i a,v]) w'/\MR P k e w' b r n s (λx=>lf x && x !=a) I/\I<eY/\aE (·=r) w w':=by
 obtain⟨ht,Q,he,hz⟩:=jr hm;obtain⟨D,left,h,Z,X,hl⟩:=h;rcases h.next (int_keyed Q) ty with⟨U,h1,O⟩| ⟨key,v,kl,y,w',I,h1,O,h3,h4,h5,V,Y,J,h9,ni⟩
 .exact .inl ⟨U,λa=>by rw[<- hl];exact h1 _,O⟩
 .obtain ⟨a,rfl,rfl,ha⟩:=BF Q h1;refine .inr ⟨a,v,w',I,by rw[<- hl];exact O,ha,h5,ni,⟨D,_,V,Z,X,λx=>?_⟩,Y,⟨J.os,J.tape,J.output,J.size,λi hi hn=>J.block i hi λe=>hn (WS e)⟩⟩;show (left (.i x) && !(Lit.sameKey (.i x) (.i a)))=_;rw[hl x];congr 1;simp[Lit.sameKey,bne];rfl
def OP(P:Program)(t k e:TypeId):Bool:=
 (match P.underlying t with|some (.map J I)=>Nat.beq J k && Nat.beq I e|_=>false) && (match P.underlying k with|some (.int .i64)=>true|_=>false) && (match P.underlying e with|some (.int .i64)=>true|_=>false) && (match P.info? e with|some i=> (match i.zero with|some (.i n)=>n==0|_=>false)|none=>false)
theorem Dd(h:OP P t k e=true):P.underlying t=some (.map k e)/\P.underlying k=some (.int .i64)/\P.underlying e=some (.int .i64)/\∀w,(zeroValue e).run P w=.ok (.i 0) w:=by
 simp only[OP,ts]at h;obtain⟨⟨⟨h1,J⟩,O⟩,I⟩:=h;split at h1
 .rename_i V U hu;simp only[ts]at h1;have Q:V=k:=V_ h1.1;have X:U=e:=V_ h1.2;subst Q X;refine⟨hu,?_,?_,?_⟩
  .split at J
   .assumption
   .simp at J
  .split at O
   .assumption
   .simp at O
  .intro w;split at I
   .rename_i i hi;split at I
    .rename_i n Y;have:n=0:=by simpa using I
     subst this;unfold zeroValue;simp only[Sem.run_bind,eS hi,Result.andThen_ok,Y,Sem.run_pure]
    .simp at I
   .simp at I
 .simp at h1
def MI(P:Program)(k e:TypeId)(w:World)(b n:Nat)(s:Int->Int):Prop:=
 ∃D:DataW Unit,w.ownsMap P k (plainElem P e) b n D/\∀a:Int,D.atKey (.i a) (.lit (.i 0))=.lit (.i (s a))
theorem MI.lt{s:Int->Int}(h:MI P k e w b n s):b<w.heap.size:=by obtain⟨D,h,_⟩:=h;exact h.lt
theorem MI.keep{s:Int->Int}{S:Nat->Prop}(h:MI P k e w b n s)(m:aE S w w')(hs: ¬S b):MI P k e w' b n s:=by
 have hl:=h.lt;obtain⟨D,⟨I,clock,hb,h⟩,J⟩:=h;exact⟨D,⟨I,clock,(m.block b hl hs).trans hb,h⟩,J⟩
theorem MI.grow{s:Int->Int}(h:MI P k e w b n s)(m:ak w w'):MI P k e w' b n s:=h.keep m id
theorem MI.new{b:Nat}(h:jz (.map #[] 0) w b w'):MI P k e w' b 0 λ_=>0:=by
 obtain⟨rfl,rfl⟩:=h;exact⟨.map [],World.ownsMap_made w P k _,λa=>rfl⟩
theorem MI.cY{s:Int->Int}(hm:OP P t k e=true)(h:MI P k e w b n s){a:Int}(ha:(Lit.int .i64 a).wf=true):(Instr.lookup t (.map (some b)) (.i a) false).run P w=.ok (.i (s a)) w:=by
 obtain⟨ht,I,he,Q⟩:=Dd hm;obtain⟨D,h,O⟩:=h;obtain⟨c,h1,J,U⟩:=h.lookup_int (int_keyed I) ht he (Q w) (keyOf_int_mk I ha);rw[O a]at J;have:s a=c:=by simpa using J
 rw[h1,this]
theorem MI.put{s:Int->Int}(hm:OP P t k e=true)(h:MI P k e w b n s)(hn:n<maxLen){a:Int}(ha:(Lit.int .i64 a).wf=true){v:Int}(hv:(Lit.int .i64 v).wf=true):
 ∃w',(Instr.mapUpdate t (.map (some b)) (.i a) (.i v)).run P w=.ok () w'/\MI P k e w' b (n+1) (λu=>if u=a then v else s u)/\aE (·=b) w w':=by
 obtain⟨ht,O,he,V⟩:=Dd hm;obtain⟨D,h,Q⟩:=h;have J:=h.isMap;obtain⟨w',hr,U,I⟩:=h.update (int_keyed O) ht hn (keyOf_int_mk O ha) (plainElem_int (H:=Unit) he hv);refine⟨w',hr,⟨_,U,λu=>?_⟩,⟨I.os,I.tape,I.output,I.size,λi hi hn=>I.block i hi λe=>hn (WS e)⟩⟩;by_cases hu:u=a
 .subst hu;exact(atKey_put_same J (show WideAt.IsKeyLit (.i u) from trivial) _ _).trans (by simp)
 .exact ((atKey_put_other (λe=>hu (by injection e)) _ _).trans (Q u)).trans (by simp[hu])
end
end Go.Fw
namespace Go.LeP
open Go.SoP Go.LiP
section
structure As where
 lit:Int
 bM:Int
 rs:List Int
def d0:As:=⟨0,0,[]⟩
def aZ(tr:List As)(i:Nat):As:=tr.getD i d0
def sg(l:Int):Bool:=decide (l≠0/\ -1048576<=l/\l<=1048576)
def wo(l:List Int)(x:Int):List Int:=l.filter λy=>y !=x
theorem sV{l:List Int}{x y:Int}:y∈wo l x↔y∈l/\y≠x:=by
 unfold wo;rw[WC];simp
def dD:List As->Int->Nat
 | [],_=>0
 |a::t,v=>if am a.lit=v then 0 else dD t v+1
theorem rq:∀ {tr:List As} {v:Int},dD tr v<tr.length->am (aZ tr (dD tr v)).lit=v
 | [],_,h=>by simp at h
 |a::t,v,h=>by
  unfold dD at h ⊢;split
  .rename_i e;exact e
  .rename_i e;rw[r8 e]at h;have:=rq (tr:=t) (v:=v) (by simpa using h);simpa[aZ,List.getD]using this
theorem qx:∀ {tr:List As} {v:Int} {j:Nat},j<dD tr v->am (aZ tr j).lit≠v
 | [],_,_,h=>by simp[dD]at h
 |a::t,v,j,h=>by
  unfold dD at h;split at h
  .omega
  .rename_i e;cases j with
   |zero=>exact e
   |succ j=>
    have:=qx (tr:=t) (v:=v) (j:=j) (by omega);simpa[aZ,List.getD]using this
theorem Hj{tr:List As}{v:Int}{i:Nat}(hi:i<tr.length)(h:am (aZ tr i).lit=v)(hm:∀j,j<i->am (aZ tr j).lit≠v):dD tr v=i:=by
 rcases YG (dD tr v) i with e|e|e
 .exact absurd (rq (by omega)) (hm _ e)
 .exact e
 .exact absurd h (qx e)
theorem lF{tr:List As}{i j:Nat}(h:j<i):aZ (tr.take i) j=aZ tr j:=by
 unfold aZ;simp only[vx,WE];rw[v8 h]
theorem oS{tr:List As}{v:Int}{i:Nat}(hi:i<=tr.length):(dD (tr.take i) v<i↔dD tr v<i)/\(dD tr v<i->dD (tr.take i) v=dD tr v):=by
 have hl:(tr.take i).length=i:=by rw[y6];omega
 have key:dD tr v<i->dD (tr.take i) v=dD tr v:=λh=>by
  refine Hj (by omega) ?_ λj I=>?_
  .rw [lF h];exact rq (by omega)
  .rw [lF (by omega)];exact qx I
 refine⟨⟨λh=>?_,λh=>by rw[key h];exact h⟩,key⟩;have h1:=rq (tr:=tr.take i) (v:=v) (by omega);rw[lF h]at h1;rcases Wp (dD tr v) i with e|e
 .exact e
 .exact absurd h1 (qx (by omega))
def GK(tr:List As)(c:List Int):Bool:=c.all λl=>sg l && decide (dD tr (am l)<tr.length) && ((aZ tr (dD tr (am l))).lit== -l)
def ji(tr:List As)(i:Nat):Int:=if i=0 then 0 else (aZ tr (i - 1)).bM
def NH(tr:List As)(i:Nat):Bool:=
 sg (aZ tr i).lit && decide (¬dD (tr.take i) (am (aZ tr i).lit)<i) && decide (ji tr i<=(aZ tr i).bM/\(aZ tr i).bM<=ji tr i+1) &&
  (if (aZ tr i).bM>ji tr i then (aZ tr i).rs.isEmpty else decide ((aZ tr i).rs.length<=256) && decide ((aZ tr i).lit∈(aZ tr i).rs) && GK (tr.take i) (wo (aZ tr i).rs (aZ tr i).lit))
def gq(tr:List As):Bool:=decide (tr.length<=4096) && (List.range tr.length).all (NH tr)
structure mA(tr:List As)(l:Int):Prop where
 ug:sg l=true
 lt:dD tr (am l)<tr.length
 eq:(aZ tr (dD tr (am l))).lit= -l
theorem nH{tr:List As}{c:List Int}:GK tr c=true↔∀l∈c,mA tr l:=by
 unfold GK;rw[K'];constructor
 .intro h l hl;have:=h l hl;simp only[ts,x7,J8]at this;exact⟨this.1.1,this.1.2,this.2⟩
 .intro h l hl;obtain⟨h1,I,J⟩:=h l hl;simp only[ts,x7,J8];exact⟨⟨h1,I⟩,J⟩
structure fF(tr:List As):Prop where
 ug:∀i,i<tr.length->sg (aZ tr i).lit=true
 uq:∀i j,i<j->j<tr.length->am (aZ tr i).lit≠am (aZ tr j).lit
 lo:∀i,i<tr.length->ji tr i<=(aZ tr i).bM
 hi:∀i,i<tr.length->(aZ tr i).bM<=ji tr i+1
 wL:∀i,i<tr.length->ji tr i< (aZ tr i).bM->(aZ tr i).rs= []
 nD:∀i,i<tr.length->¬ji tr i< (aZ tr i).bM->(aZ tr i).rs.length<=256/\(aZ tr i).lit∈(aZ tr i).rs/\∀x∈(aZ tr i).rs,x≠(aZ tr i).lit->mA tr x/\dD tr (am x)<i
theorem q6{tr:List As}(h:gq tr=true):fF tr/\tr.length<=4096:=by
 unfold gq at h;simp only[ts,x7,K',Wv]at h;obtain⟨hl,h⟩:=h;have H:∀i,i<tr.length->sg (aZ tr i).lit=true/\¬dD (tr.take i) (am (aZ tr i).lit)<i/\(ji tr i<=(aZ tr i).bM/\(aZ tr i).bM<=ji tr i+1)/\
  (if (aZ tr i).bM>ji tr i then (aZ tr i).rs.isEmpty else decide ((aZ tr i).rs.length<=256) && decide ((aZ tr i).lit∈(aZ tr i).rs) && GK (tr.take i) (wo (aZ tr i).rs (aZ tr i).lit))=true:=by
  intro i hi;have:=h i hi;unfold NH at this;simp only[ts,x7]at this;exact⟨this.1.1.1,this.1.1.2,this.1.2,this.2⟩
 refine⟨⟨λi hi=> (H i hi).1,λi j U X e=>?_,λi hi=> (H i hi).2.2.1.1,λi hi=> (H i hi).2.2.1.2,λi hi O=>?_,λi hi O=>?_⟩,hl⟩
 .have h1:=(H j X).2.1;rw[(oS (by omega)).1]at h1;exact qx (tr:=tr) (v:=am (aZ tr j).lit) (j:=i) (by omega) e
 .have:=(H i hi).2.2.2;rw[v8 O]at this;simpa using this
 .have:=(H i hi).2.2.2;rw[r8 (by omega)]at this;simp only[ts,x7]at this;refine⟨this.1.1,this.1.2,λx V J=>?_⟩;have hb:=nH.1 this.2 x (sV.2 ⟨V,J⟩);have I:=hb.lt;rw[y6,WK (by omega)]at I;have h1:=(oS (v:=am x) (by omega)).1.1 I;have Q:=(oS (v:=am x) (by omega)).2 h1;refine⟨⟨hb.ug,by omega,?_⟩,h1⟩;have:=hb.eq;rw[Q,lF h1]at this;exact this
theorem fF.mono{tr:List As}(h:fF tr):∀ {i j:Nat},i<=j->j<tr.length->(aZ tr i).bM<=(aZ tr j).bM:=by
 intro i j O J
 induction j with
 |zero=>rw[show i=0 by omega];exact Ww _
 |succ j ih=>
  by_cases e:i=j+1
  .rw [e];exact Ww _
  .have h1:=ih (by omega) (by omega);have I:=h.lo (j+1) J;unfold ji at I;rw[r8 (by omega),Xy]at I;omega
theorem fF.nn{tr:List As}(h:fF tr){i:Nat}(hi:i<tr.length):0<=(aZ tr i).bM:=by
 have h1:=h.lo 0 (by omega);have I:=h.mono (xc i) hi;unfold ji at h1;rw[v8 rfl]at h1;omega
theorem fF.le{tr:List As}(h:fF tr){i:Nat}(hi:i<tr.length):(aZ tr i).bM<=i+1:=by
 induction i with
 |zero=>
  have:=h.hi 0 hi;unfold ji at this;rw[v8 rfl]at this;simpa using this
 |succ i ih=>
  have h1:=ih (by omega);have I:=h.hi (i+1) hi;unfold ji at I;rw[r8 (by omega),Xy]at I;omega
theorem fF.at{tr:List As}(h:fF tr){i:Nat}(hi:i<tr.length):dD tr (am (aZ tr i).lit)=i:=
 Hj hi rfl λj I=>h.uq j i I hi
theorem Ar(x:Int):am (-x)=am x:=by unfold am;split<;>split<;>omega
theorem QO{x:Int}(h:sg x=true):sg (-x)=true:=by
 unfold sg at*
 simp only[x7]at*
 omega
theorem fF.first{tr:List As}(h:fF tr){i:Nat}(hi:i<tr.length)(hr:(aZ tr i).rs= []):0< (aZ tr i).bM/\∀j,j<i->(aZ tr j).bM< (aZ tr i).bM:=by
 have I:ji tr i< (aZ tr i).bM:=by
  by_cases e:ji tr i< (aZ tr i).bM
  .exact e
  .have:=(h.nD i hi e).2.1;rw[hr]at this;simp at this
 unfold ji at I;split at I
 .rename_i e;exact⟨I,λj J=>by omega⟩
 .have:=h.nn (i:=i - 1) (by omega);refine⟨by omega,λj J=>?_⟩;have:=h.mono (i:=j) (j:=i - 1) (by omega) (by omega);omega
theorem fF.fH{tr:List As}(h:fF tr){i:Nat}(hi:i<tr.length)(hr:(aZ tr i).rs≠[]):(aZ tr i).rs.length<=256/\(aZ tr i).lit∈(aZ tr i).rs/\∀x∈(aZ tr i).rs,x≠(aZ tr i).lit->mA tr x/\dD tr (am x)<i:=
 h.nD i hi λe=>hr (h.wL i hi e)
def lv(tr:List As)(l:Int):Int:=(aZ tr (dD tr (am l))).bM
theorem fF.RF{tr:List As}(h:fF tr){i:Nat}(hi:i<tr.length):lv tr (-(aZ tr i).lit)=(aZ tr i).bM/\lv tr (aZ tr i).lit=(aZ tr i).bM:=by
 unfold lv;rw[Ar,h.at hi];exact⟨rfl,rfl⟩
theorem mA.same{tr:List As}{x y:Int}(O:mA tr x)(I:mA tr y)(h:dD tr (am x)=dD tr (am y)):x=y:=by
 have h1:=O.eq;have J:=I.eq;rw[h,J]at h1;omega
theorem mA.am{tr:List As}{x y:Int}(J:mA tr x)(I:mA tr y)(h:am x=am y):x=y:=J.same I (by rw[h])
def gM(tr:List As)(c:List Int)(L:Int):Nat:=c.countP λx=>lv tr x==L
def rX(tr:List As)(i:Nat)(c:List Int):List Int:=bC (wo c (-(aZ tr i).lit)++wo (aZ tr i).rs (aZ tr i).lit)
def lrn(tr:List As)(L:Int):Nat->List Int->List Int
 |0,c=>c
 |i+1,c=>if gM tr c L=0\/gM tr c L=1/\0<L then c else if (aZ tr i).bM=L/\ -(aZ tr i).lit∈c then lrn tr L i (rX tr i c) else lrn tr L i c
theorem kM{tr:List As}{i:Nat}{c:List Int}{x:Int}:x∈rX tr i c↔x∈c/\x≠ -(aZ tr i).lit\/x∈(aZ tr i).rs/\x≠(aZ tr i).lit:=by
 unfold rX;rw[(c_ _).mem,y4,sV,sV]
theorem zV{tr:List As}{L:Int}{c:List Int}{p:Nat}:∀ {k:Nat},p<=k->(∀i,p<=i->i<k->¬((aZ tr i).bM=L/\ -(aZ tr i).lit∈c))->¬(gM tr c L=0\/gM tr c L=1/\0<L)->lrn tr L k c=lrn tr L p c
 |0,h,_,_=>by rw[show p=0 by omega]
 |k+1,h,hs,hn=>by
  by_cases e:p=k+1
  .rw [e]
  .rw [lrn,r8 hn,r8 (hs k (by omega) (by omega))];exact zV (by omega) (λi h1 I=>hs i h1 (by omega)) hn
theorem A_{tr:List As}{L:Int}{c:List Int}{k:Nat}(h:gM tr c L=0\/gM tr c L=1/\0<L):lrn tr L k c=c:=by
 cases k with
 |zero=>rfl
 |succ k=>rw[lrn,v8 h]
structure In(tr:List As)(L:Int)(c:List Int)(k:Nat):Prop where
 br:∀x∈c,mA tr x
 le:∀x∈c,lv tr x<=L
 pl:∀x∈c,lv tr x=L->dD tr (am x)<k
 qd:c= []\/0<gM tr c L
 nn:0<=L
 nd:mh c
theorem kg{tr:List As}{L:Int}{c:List Int}:0<gM tr c L↔∃x∈c,lv tr x=L:=by
 unfold gM;rw[List.countP_pos_iff];simp
theorem fO{c:List Int}(h:mh c):c.Nodup:=h.imp λ{a b} I e=>by subst e;exact tx a I
theorem D9{tr:List As}{L:Int}{c:List Int}(hs:c.Nodup){x:Int}(h:1<gM tr c L):∃y∈c,y≠x/\lv tr y=L:=by
 refine Wj λhn=>?_;have:gM tr c L<=c.countP (λy=>y==x):=by
  refine YD λy I hl=>?_;have hl:lv tr y=L:=by simpa using hl
  by_cases e:y=x
  .simp [e]
  .exact absurd ⟨y,I,e,hl⟩ hn
 have J:c.countP (λy=>y==x)<=1:=List.nodup_iff_count.1 hs x;omega
theorem In.step{tr:List As}(ok:fF tr){L:Int}{c:List Int}{k p:Nat}(h:In tr L c k)(hn: ¬(gM tr c L=0\/gM tr c L=1/\0<L))(hp:p<tr.length)(X:(aZ tr p).bM=L)(hm: -(aZ tr p).lit∈c)(I:∀x∈c,lv tr x=L->dD tr (am x)<=p):
 In tr L (rX tr p c) p/\lrn tr L k c=lrn tr L p (rX tr p c)/\(aZ tr p).rs≠[]/\p<k:=by
 have ag:p<k:=by
  have:=h.pl _ hm (by rw[(ok.RF hp).1];exact X)
  rwa [Ar,ok.at hp]at this
 have U:(aZ tr p).rs≠[]:=by
  intro e;obtain⟨f1,f2⟩:=ok.first hp e;have h1:1<gM tr c L:=by omega
  obtain⟨y,hy,Q,J⟩:=D9 (fO h.nd) (x:= -(aZ tr p).lit) h1;have O:=I y hy J;rcases Wp (dD tr (am y)) p with e2|e2
  .have:=f2 _ e2;unfold lv at J;omega
  .refine Q ((h.br y hy).same (h.br _ hm) ?_);rw[Ar,ok.at hp];omega
 obtain⟨r1,r2,r3⟩:=ok.fH hp U;have Y:∀x∈rX tr p c,mA tr x:=by
  intro x V;rcases kM.1 V with⟨a,b⟩| ⟨a,b⟩
  .exact h.br x a
  .exact (r3 x a b).1
 have O:∀x∈rX tr p c,lv tr x<=L:=by
  intro x V;rcases kM.1 V with⟨a,b⟩| ⟨a,b⟩
  .exact h.le x a
  .have:=(r3 x a b).2;have:=ok.mono (i:=dD tr (am x)) (j:=p) (by omega) hp;unfold lv;omega
 refine⟨⟨Y,O,λx V hl=>?_,?_,h.nn,(c_ _).st⟩,?_,U,ag⟩
 .rcases kM.1 V with⟨a,b⟩| ⟨a,b⟩
  .have h1:=I x a hl;rcases Wp (dD tr (am x)) p with e|e
   .exact e
   .exact absurd ((h.br x a).same (h.br _ hm) (by rw[Ar,ok.at hp];omega)) b
  .exact (r3 x a b).2
 .by_cases e:gM tr c L=1
  .have hL:L=0:=by
    have:=h.nn;by_cases e2:0<L
    .exact absurd (.inr ⟨e,e2⟩) hn
    .omega
   cases hs:rX tr p c with
   |nil=>exact .inl rfl
   |cons x t=>
    refine .inr (kg.2 ⟨x,by simp,?_⟩);have h1:=O x (by rw[hs];simp);have h2:=ok.nn ((Y x (by rw[hs];simp)).lt);have:lv tr x=(aZ tr (dD tr (am x))).bM:=rfl;omega
  .obtain ⟨y,hy,Q,J⟩:=D9 (fO h.nd) (x:= -(aZ tr p).lit) (L:=L) (tr:=tr) (c:=c) (by omega);exact .inr (kg.2 ⟨y,kM.2 (.inl ⟨hy,Q⟩),J⟩)
 .rw [zV (p:=p+1) (k:=k) (by omega) (λi h1 h2 Z=>?_) hn,lrn,r8 hn,v8 ⟨X,hm⟩];have hi:i<tr.length:=by
   have:=(h.br _ Z.2).lt;rcases Wp i tr.length with e|e
   .exact e
   .have hd:aZ tr i=d0:=by
     unfold aZ;rw[vx,W6 e];rfl
    have:=(h.br _ Z.2).ug;rw[hd]at this;exact absurd this (by decide)
  have:=I _ Z.2 (by rw[(ok.RF hi).1];exact Z.1);rw[Ar,ok.at hi]at this;omega
theorem In.end{tr:List As}(ok:fF tr){L:Int}:∀ {k:Nat} {c:List Int},In tr L c k->k<=tr.length->∃d Q,lrn tr L k c=d/\In tr L d Q/\(d= []/\(L=0\/c= [])\/gM tr d L=1/\0<L)
 |0,c,h,_=>by
  have Y:c= []:=by
   rcases h.qd with e|e
   .exact e
   .obtain ⟨x,I,hl⟩:=kg.1 e;have:=h.pl x I hl;omega
  exact⟨c,0,rfl,h,.inl ⟨Y,.inr Y⟩⟩
 |k+1,c,h,hk=>by
  by_cases hn:gM tr c L=0\/gM tr c L=1/\0<L
  .refine ⟨c,k+1,A_ hn,h,?_⟩;rcases hn with hn|hn
   .rcases h.qd with e|e
    .exact .inl ⟨e,.inr e⟩
    .omega
   .exact .inr hn
  .by_cases e:(aZ tr k).bM=L/\ -(aZ tr k).lit∈c
   .obtain ⟨h1,X,_,_⟩:=h.step ok hn (p:=k) (by omega) e.1 e.2 λx I hl=>by have:=h.pl x I hl;omega
    obtain⟨d,Q,e1,O,e3⟩:=h1.end ok (by omega);refine⟨d,Q,by rw[X];exact e1,O,?_⟩;rcases e3 with⟨a,b⟩|b
    .refine .inl ⟨a,?_⟩;have:=h.nn;by_cases hL:0<L
     ·
      obtain⟨y,hy,U,ag⟩:=D9 (fO h.nd) (x:= -(aZ tr k).lit) (L:=L) (tr:=tr) (c:=c) (by omega);have J:y∈rX tr k c:=kM.2 (.inl ⟨hy,U⟩);rcases b with b|b
      .omega
      .rw [b]at J;simp at J
     .exact .inl (by omega)
    .exact .inr b
   .have V:=zV (p:=k) (k:=k+1) (by omega) (λi h1 X=>by rw[show i=k by omega];exact e) hn;have h':In tr L c k:=⟨h.br,h.le,λx I hl=>by
     have:=h.pl x I hl;rcases Wp (dD tr (am x)) k with O|O
     .exact O
     .have Z:dD tr (am x)=k:=by omega
      refine absurd ⟨?_,?_⟩ e
      .rw [<- Z];exact hl
      .rw [<- Z,(h.br x I).eq,WJ];exact I,h.qd,h.nn,h.nd⟩
    rw[V];exact h'.end ok (by omega)
end
section
def pO(tr:List As)(a b:Int):Int:=if lv tr a≠lv tr b then lv tr b - lv tr a else am a - am b
theorem z_(tr:List As):Ord (pO tr):=by
 constructor
 .intro x y h;unfold pO at*
  split at h<;>split<;>omega
 .intro x y z h1 I;unfold Le pO at*
  split at h1<;>split at I<;>split<;>omega
abbrev rC(tr:List As)(m:List Int):Prop:=m.Pairwise λa b=>pO tr a b<0
theorem rY(tr:List As)(a:Int): ¬pO tr a a<0:=by unfold pO;simp
theorem HQ{tr:List As}{a b c:Int}(h1:pO tr a b<0)(I:pO tr b c<0):pO tr a c<0:=(z_ tr).MX h1 ((z_ tr).lt I)
theorem Bg{tr:List As}:∀ {m k:List Int},rC tr m->rC tr k->(∀x,x∈m↔x∈k)->m=k
 | [],[],_,_,_=>rfl
 | [],y::k,_,_,h=>by have:=(h y).2 (by simp);simp at this
 |x::m,[],_,_,h=>by have:=(h x).1 (by simp);simp at this
 |x::m,y::k,h1,I,h=>by
  have h1:=XA.1 h1;have I:=XA.1 I;have e:x=y:=by
   rcases V'.1 ((h x).1 (by simp)) with e|e
   .exact e
   .rcases V'.1 ((h y).2 (by simp)) with O|O
    .exact O.symm
    .exact absurd (HQ (h1.1 y O) (I.1 x e)) (rY tr x)
  subst e;congr 1;refine Bg h1.2 I.2 λz=>?_;constructor
  .intro J;rcases V'.1 ((h z).1 (xk _ J)) with e|e
   .subst e;exact absurd (h1.1 z J) (rY tr z)
   .exact e
  .intro J;rcases V'.1 ((h z).2 (xk _ J)) with e|e
   .subst e;exact absurd (I.1 z J) (rY tr z)
   .exact e
def HW(tr:List As)(c:List Int)(M:Nat):Nat->List Int
 |0=> []
 |j+1=>HW tr c M j++ (bC c).filter λx=>lv tr x==(M:Int) - j
def Q_(tr:List As):Int:=tr.foldl (λm a=>if a.bM>m then a.bM else m) 0
def lH(tr:List As)(c:List Int):List Int:=HW tr c (Q_ tr).toNat ((Q_ tr).toNat+1)
theorem Ad:∀ (tr:List As) (m:Int),m<=tr.foldl (λm a=>if a.bM>m then a.bM else m) m/\∀a∈tr,a.bM<=tr.foldl (λm a=>if a.bM>m then a.bM else m) m
 | [],m=>⟨Ww _,by simp⟩
 |b::t,m=>by
  rw[XR];generalize J:(if b.bM>m then b.bM else m)=X;have hm:m<=X/\b.bM<=X:=by rw[<- J];split<;>omega
  obtain⟨h1,I⟩:=Ad t X;refine⟨by omega,λa ha=>?_⟩;rcases V'.1 ha with e|e
  .subst e;omega
  .exact I a e
theorem Qd(tr:List As):0<=Q_ tr:=(Ad tr 0).1
theorem Qu{tr:List As}{i:Nat}(h:i<tr.length):(aZ tr i).bM<=Q_ tr:=(Ad tr 0).2 _ (by simp[aZ,List.getD,h])
theorem AO{tr:List As}{c:List Int}{M:Nat}:∀ {j:Nat} {x:Int},x∈HW tr c M j↔x∈c/\lv tr x<=M/\(M:Int) - j<lv tr x
 |0,x=>by
  unfold HW;simp
 |j+1,x=>by
  unfold HW;rw[y4,AO,WC,(c_ c).mem,J8];constructor
  .rintro (⟨h1,I,J⟩| ⟨h1,I⟩)
   .exact ⟨h1,I,by omega⟩
   .exact ⟨h1,by omega,by omega⟩
  .rintro ⟨h1,I,J⟩;by_cases e:lv tr x=(M:Int) - j
   .exact .inr ⟨h1,e⟩
   .exact .inl ⟨h1,I,by omega⟩
theorem yg{tr:List As}{c:List Int}{M:Nat}(hb:∀x∈c,mA tr x):∀j,rC tr (HW tr c M j)
 |0=>List.Pairwise.nil
 |j+1=>by
  unfold HW;rw[rC,YJ];refine⟨yg hb j,?_,λx Y y Z=>?_⟩
  .have h1:mh ((bC c).filter λx=>lv tr x==(M:Int) - j):=YK _ (c_ c).st;rw[Wy];intro a b ha J U;have I:=Wy.1 h1 a b ha J U;have X:=WC.1 (XF ha);have mb:=WC.1 (XF J);have la:lv tr _=(M:Int) - j:=beq_iff_eq.1 X.2;have lb:lv tr _=(M:Int) - j:=beq_iff_eq.1 mb.2;have Q:=hb _ (((c_ c).mem _).1 X.1);have V:=hb _ (((c_ c).mem _).1 mb.1);generalize ((bC c).filter λx=>lv tr x==(M:Int) - j)[a]=u at*
   generalize ((bC c).filter λx=>lv tr x==(M:Int) - j)[b]=v at*
   have O:am u≠am v:=λe=>by
    have:=Q.am V e;subst this;exact tx _ I
   unfold pO;rw[r8 (by omega)];unfold tT at I;rw[v8 O]at I;exact I
  .have h1:=AO.1 Y;have I:=WC.1 Z;have h3:lv tr y=(M:Int) - j:=beq_iff_eq.1 I.2;unfold pO;rw[v8 (by omega)];omega
theorem jV{tr:List As}(ok:fF tr){c:List Int}(hb:∀x∈c,mA tr x){x:Int}:x∈lH tr c↔x∈c:=by
 unfold lH;rw[AO];refine⟨λh=>h.1,λh=>⟨h,?_,?_⟩⟩
 .have:=Qu (hb x h).lt;have:=Qd tr;unfold lv;omega
 .have:=ok.nn (hb x h).lt;unfold lv;omega
theorem pI{tr:List As}{c:List Int}(hb:∀x∈c,mA tr x):rC tr (lH tr c):=yg hb _
theorem JO{tr:List As}(ok:fF tr){c m:List Int}(hb:∀x∈c,mA tr x)(hm:∀x,x∈m↔x∈c)(nd:m.Nodup)(hs:uV (pO tr) m 0 m.length):m=lH tr c:=by
 refine Bg ?_ (pI hb) λx=> (hm x).trans (jV ok hb).symm;rw[rC,Wy];intro i j hi O J;have h:=hs i j (xc _) J O;simp only[List.getD,V9 hi,V9 O,Wn]at h;have I:m[i]≠m[j]:=λe=>by have:=(XE nd).1 e;omega
 have h1:=hb _ ((hm _).1 (XF hi));have Q:=hb _ ((hm _).1 (XF O));have ha:am m[i]≠am m[j]:=λe=>I (h1.am Q e);unfold Le pO at h;unfold pO;split at h<;>split<;>omega
def LC(tr:List As)(ld:List Int):Nat->Int->Bool
 |0,_=>false
 |f+1,l=> !(aZ tr (dD tr (am l))).rs.isEmpty && (aZ tr (dD tr (am l))).rs.all λx=>x==(aZ tr (dD tr (am l))).lit||decide (lv tr x<=0)||decide (x∈ld)||LC tr ld f x
def pV(tr:List As)(ld:List Int)(l:Int):Bool:=LC tr ld (dD tr (am l)+1) l
theorem Mg{tr:List As}(ok:fF tr){ld:List Int}:∀ (f:Nat) {l:Int},dD tr (am l)<tr.length->dD tr (am l)<f->LC tr ld f l=pV tr ld l:=by
 have key:∀ (f g:Nat) {l:Int},dD tr (am l)<tr.length->dD tr (am l)<f->dD tr (am l)<g->LC tr ld f l=LC tr ld g l:=by
  intro f
  induction f with
  |zero=>intro g l _ h;omega
  |succ f O=>
   intro g l hl hf U;cases g with
   |zero=>omega
   |succ g=>
    unfold LC;by_cases hr:(aZ tr (dD tr (am l))).rs= []
    .rw [hr];rfl
    .obtain ⟨_,_,Q⟩:=ok.fH hl hr;have I:∀x∈(aZ tr (dD tr (am l))).rs,(x==(aZ tr (dD tr (am l))).lit||decide (lv tr x<=0)||decide (x∈ld)||LC tr ld f x)=(x==(aZ tr (dD tr (am l))).lit||decide (lv tr x<=0)||decide (x∈ld)||LC tr ld g x):=by
      intro x J;by_cases e:x=(aZ tr (dD tr (am l))).lit
      .simp [e]
      .obtain ⟨b1,b2⟩:=Q x J e;rw[O g b1.lt (by omega) (by omega)]
     congr 1;rw[W4,K',K'];constructor
     .intro h x J;rw[<- I x J];exact h x J
     .intro h x J;rw[I x J];exact h x J
 intro f l hl hf;exact key f (dD tr (am l)+1) hl hf (by omega)
theorem IC{tr:List As}(ok:fF tr){ld:List Int}{l:Int}(hl:dD tr (am l)<tr.length):
 pV tr ld l=(!(aZ tr (dD tr (am l))).rs.isEmpty && (aZ tr (dD tr (am l))).rs.all λx=>x==(aZ tr (dD tr (am l))).lit||decide (lv tr x<=0)||decide (x∈ld)||pV tr ld x):=by
 unfold pV;rw[LC];by_cases hr:(aZ tr (dD tr (am l))).rs= []
 .rw [hr];rfl
 .obtain ⟨_,_,O⟩:=ok.fH hl hr;have I:∀x∈(aZ tr (dD tr (am l))).rs,(x==(aZ tr (dD tr (am l))).lit||decide (lv tr x<=0)||decide (x∈ld)||LC tr ld (dD tr (am l)) x)=(x==(aZ tr (dD tr (am l))).lit||decide (lv tr x<=0)||decide (x∈ld)||LC tr ld (dD tr (am x)+1) x):=by
   intro x J;by_cases e:x=(aZ tr (dD tr (am l))).lit
   .simp [e]
   .obtain ⟨b1,b2⟩:=O x J e;rw[Mg ok _ b1.lt b2];rfl
  congr 1;rw[W4,K',K'];constructor
  .intro h x J;rw[<- I x J];exact h x J
  .intro h x J;rw[I x J];exact h x J
def shr(tr:List As)(ld:List Int):List Int:=
 match ld with
 | []=> []
 |x::t=>x::t.filter λy=>decide (0<lv tr y) && !pV tr ld y
theorem IQ{tr:List As}{ld:List Int}{x:Int}(h:x∈shr tr ld):x∈ld:=by
 cases ld with
 |nil=>exact h
 |cons y t=>
  rcases V'.1 h with e|e
  .rw [e];simp
  .exact xk _ (WC.1 e).1
theorem Q9(tr:List As)(ld:List Int):(shr tr ld).length<=ld.length:=by
 cases ld with
 |nil=>exact vy _
 |cons y t=>simp[shr];exact WZ _ _
def BP(v:Int->Int)(c:List Int):Prop:=∃l∈c,v l=1
structure Ed(tr:List As)(v:Int->Int):Prop where
 neg:∀l,sg l=true->v (-l)= -v l
 val:∀l,v l=0\/v l=1\/v l= -1
 set:∀i,i<tr.length->v (aZ tr i).lit≠0
 nD:∀i,i<tr.length->(aZ tr i).rs≠[]->BP v (aZ tr i).rs
theorem Ko{tr:List As}{v:Int->Int}(ok:fF tr)(V:Ed tr v){c:List Int}{p:Nat}(hp:p<tr.length)(hr:(aZ tr p).rs≠[])(h:BP v c):BP v (rX tr p c):=by
 obtain⟨x,J,ex⟩:=h;by_cases e:x= -(aZ tr p).lit
 .obtain ⟨y,O,I⟩:=V.nD p hp hr;refine⟨y,kM.2 (.inr ⟨O,?_⟩),I⟩;intro Q;have:=V.neg _ (ok.ug p hp);rw[<- e,<- Q]at this;omega
 .exact ⟨x,kM.2 (.inl ⟨J,e⟩),ex⟩
theorem AG{tr:List As}{v:Int->Int}(ok:fF tr)(V:Ed tr v){L:Int}:∀ {k:Nat} {c:List Int},In tr L c k->k<=tr.length->BP v c->BP v (lrn tr L k c)
 |0,_,_,_,h=>h
 |k+1,c,h,hk,ht=>by
  by_cases hn:gM tr c L=0\/gM tr c L=1/\0<L
  .rw [A_ hn];exact ht
  .by_cases e:(aZ tr k).bM=L/\ -(aZ tr k).lit∈c
   .obtain ⟨h1,Q,U,_⟩:=h.step ok hn (p:=k) (by omega) e.1 e.2 λx I hl=>by have:=h.pl x I hl;omega
    rw[Q];exact AG ok V h1 (by omega) (Ko ok V (by omega) U ht)
   .have X:In tr L c k:=⟨h.br,h.le,λx I hl=>by
     have:=h.pl x I hl;rcases Wp (dD tr (am x)) k with O|O
     .exact O
     .have J:dD tr (am x)=k:=by omega
      refine absurd ⟨?_,?_⟩ e
      .rw [<- J];exact hl
      .rw [<- J,(h.br x I).eq,WJ];exact I,h.qd,h.nn,h.nd⟩
    rw[lrn,r8 hn,r8 e];exact AG ok V X (by omega) ht
theorem Kk{tr:List As}{v:Int->Int}(ok:fF tr)(V:Ed tr v):∀ (i:Nat),i<tr.length->(aZ tr i).bM<=0->v (aZ tr i).lit=1:=by
 intro i
 induction i using Nat.strongRecOn with
 |_ i O=>
  intro hi hl;have hr:(aZ tr i).rs≠[]:=λe=>by have:=(ok.first hi e).1;omega
  obtain⟨y,Q,J⟩:=V.nD i hi hr;by_cases e:y=(aZ tr i).lit
  .rw [<- e];exact J
  .obtain ⟨b1,b2⟩:=(ok.fH hi hr).2.2 y Q e;have I:=b1.lt;have:=ok.mono (i:=dD tr (am y)) (j:=i) (by omega) hi;have h1:=O _ b2 I (by omega);rw[b1.eq,V.neg _ b1.ug]at h1;omega
theorem Ai{tr:List As}{v:Int->Int}(ok:fF tr)(V:Ed tr v){l:Int}(h:mA tr l)(hl:lv tr l<=0):v l= -1:=by
 have h1:=Kk ok V _ h.lt hl;rw[h.eq,V.neg _ h.ug]at h1;omega
theorem Ks{tr:List As}{v:Int->Int}(ok:fF tr)(V:Ed tr v){ld:List Int}:∀ (n:Nat) {l:Int},mA tr l->dD tr (am l)=n->v l=1->pV tr ld l=true->∃y∈ld,v y=1/\dD tr (am y)<n:=by
 intro n
 induction n using Nat.strongRecOn with
 |_ n O=>
  intro l hb hn hv hi;subst hn;rw[IC ok hb.lt]at hi;simp only[ts,WU,Zq,K',W7,J8,x7]at hi;obtain⟨hr,ha⟩:=hi;obtain⟨y,J,I⟩:=V.nD _ hb.lt hr;by_cases e:y=(aZ tr (dD tr (am l))).lit
  .rw [hb.eq]at e;have:=V.neg _ hb.ug;rw[<- e,I]at this;omega
  .obtain ⟨b1,b2⟩:=(ok.fH hb.lt hr).2.2 y J e;rcases ha y J with((h|h)|h)|h
   .exact absurd h e
   .have:=Ai ok V b1 h;omega
   .exact ⟨y,h,I,b2⟩
   .obtain ⟨z,Q,z2,z3⟩:=O _ b2 b1 rfl I h;exact⟨z,Q,z2,by omega⟩
theorem Ga{tr:List As}{v:Int->Int}(ok:fF tr)(V:Ed tr v){ld:List Int}(hb:∀x∈ld,mA tr x)(h:BP v ld):BP v (shr tr ld):=by
 have key:∀ (n:Nat) {x:Int},x∈ld->v x=1->dD tr (am x)=n->BP v (shr tr ld):=by
  intro n
  induction n using Nat.strongRecOn with
  |_ n J=>
   intro x I hv hn;by_cases hs:x∈shr tr ld
   .exact ⟨x,hs,hv⟩
   .have hp: ¬lv tr x<=0:=λe=>by have:=Ai ok V (hb x I) e;omega
    have hi:pV tr ld x=true:=by
     cases ld with
     |nil=>simp at I
     |cons y t=>
      rcases V'.1 I with e|e
      .exact absurd (by rw[e];simp[shr]) hs
      .cases hi:pV tr (y::t) x with
       |true=>rfl
       |false=>exact absurd (xk _ (WC.2 ⟨e,by rw[hi];simp;omega⟩)) hs
    obtain⟨z,O,z2,z3⟩:=Ks ok V n (hb x I) hn hv hi;exact J _ z3 O z2 rfl
 obtain⟨x,I,hv⟩:=h;exact key _ I hv rfl
structure Ch(tr:List As)(L:Int)(ld:List Int):Prop where
 br:∀x∈ld,mA tr x
 zero:L=0->ld= []
 bP:∀i,i<ld.length->(lv tr (ld.getD i 0)=L↔i=0)
 le:∀x∈ld,lv tr x<=L
 nn:0<=L
theorem Si{tr:List As}{c:List Int}{L x y:Int}(Q:x∈c)(U:y∈c)(I:x≠y)(h1:lv tr x=L)(O:lv tr y=L):1<gM tr c L:=by
 unfold gM;rw[YA];have mx:x∈c.filter λz=>lv tr z==L:=WC.2 ⟨Q,by simpa using h1⟩;have J:y∈c.filter λz=>lv tr z==L:=WC.2 ⟨U,by simpa using O⟩;obtain⟨s,t,e⟩:=List.append_of_mem mx;rw[e]at J ⊢;rw[I',Wz];rcases y4.1 J with h|h
 .have:=Xq h;omega
 .rcases V'.1 h with h|h
  .exact absurd h.symm I
  .have:=Xq h;omega
theorem OE{tr:List As}(ok:fF tr){L:Int}{c:List Int}{k:Nat}(h:In tr L c k)(he:c= []/\(L=0\/c= [])\/gM tr c L=1/\0<L):Ch tr L (lH tr c):=by
 have hb:∀x∈lH tr c,mA tr x:=λx O=>h.br x ((jV ok h.br).1 O);have Q:∀x∈lH tr c,lv tr x<=L:=λx O=>h.le x ((jV ok h.br).1 O);have nil:c= []->lH tr c= []:=λe=>by
  rw[List.eq_nil_iff_forall_not_mem];intro x O;have:=(jV ok h.br).1 O;rw[e]at this;simp at this
 refine⟨hb,λe=>?_,λi hi=>?_,Q,h.nn⟩
 .rcases he with⟨a,_⟩| ⟨_,b⟩
  .exact nil a
  .omega
 .rcases he with⟨a,_⟩| ⟨h1,hL⟩
  .rw [nil a]at hi;simp at hi
  .have st:=pI h.br;have mem:∀j,j< (lH tr c).length->(lH tr c).getD j 0∈lH tr c:=λj X=>by simp[List.getD,X]
   have J:∀a b,a<b->b< (lH tr c).length->lv tr ((lH tr c).getD b 0)<=lv tr ((lH tr c).getD a 0):=by
    intro a b Y V;have:=Wy.1 st a b (by omega) V Y;have e1:(lH tr c).getD a 0=(lH tr c)[a]'(by omega):=by simp[List.getD,show a< (lH tr c).length by omega]
    have e2:(lH tr c).getD b 0=(lH tr c)[b]:=by simp[List.getD,V]
    rw[e1,e2];unfold pO at this;split at this<;>omega
   obtain⟨y,hy,U⟩:=kg.1 (show 0<gM tr c L by omega);obtain⟨j,X,ej⟩:=Bs.1 ((jV ok h.br).2 hy);have I:(lH tr c).getD j 0=y:=by simp[List.getD,X,ej]
   have Z:lv tr ((lH tr c).getD 0 0)=L:=by
    rcases Wt j with e|e
    .subst e;rw[I];exact U
    .have h2:=J 0 j e X;have h3:=Q _ (mem 0 (by omega));rw[I,U]at h2;omega
   constructor
   .intro hl;refine Wj λar=>?_;have hd:(lH tr c).getD i 0≠(lH tr c).getD 0 0:=by
     intro e;have:=Wy.1 st 0 i (by omega) hi (by omega);simp only[List.getD,V9 hi,V9 (show 0< (lH tr c).length by omega),Wn]at e;rw[e]at this;exact rY _ _ this
    have aC:1<gM tr c L:=Si ((jV ok h.br).1 (mem 0 (by omega))) ((jV ok h.br).1 (mem i hi)) (λe=>hd e.symm) Z hl;omega
   .rintro rfl;exact Z
theorem Ch.shr{tr:List As}{L:Int}{ld:List Int}(h:Ch tr L ld):Ch tr L (shr tr ld):=by
 refine⟨λx J=>h.br x (IQ J),λe=>by rw[h.zero e];rfl,λi hi=>?_,λx J=>h.le x (IQ J),h.nn⟩;cases ld with
 |nil=>simp[LeP.shr]at hi
 |cons y t=>
  have O:=(h.bP 0 (by simp)).2 rfl;have e0:(y::t).getD 0 0=y:=rfl;rw[e0]at O;cases i with
  |zero=>exact⟨λ_=>rfl,λ_=>O⟩
  |succ i=>
   refine⟨λhl=>?_,λe=>by omega⟩;have I:i< (t.filter λz=>decide (0<lv tr z) && !pV tr (y::t) z).length:=by simpa[LeP.shr]using hi
   have em:(LeP.shr tr (y::t)).getD (i+1) 0=(t.filter λz=>decide (0<lv tr z) && !pV tr (y::t) z)[i]:=by simp[LeP.shr,List.getD,I]
   rw[em]at hl;have hm:=(WC.1 (XF I)).1;obtain⟨j,Q,U⟩:=Bs.1 hm;have:=(h.bP (j+1) (by simpa using Q)).1 (by rw[<- hl,<- U];simp[List.getD,Q]);omega
end
section
theorem NF{tr:List As}{t i:Nat}(hi:i<t):NH (tr.take t) i=NH tr i:=by
 have h1:(tr.take t).take i=tr.take i:=by rw[X0,WK (by omega)]
 have I:ji (tr.take t) i=ji tr i:=by
  unfold ji;split
  .rfl
  .rw [lF (by omega)]
 unfold NH;rw[h1,I,lF hi]
theorem KD{tr:List As}{t:Nat}(ht:t<=tr.length)(hl:t<=4096)(h:(List.range t).all (NH tr)=true):fF (tr.take t):=by
 refine(q6 (tr:=tr.take t) ?_).1;have hlen:(tr.take t).length=t:=by rw[y6];omega
 unfold gq;rw[hlen,I4 hl,W2,K'];intro i hi;rw[Wv]at hi;rw[NF hi];exact K'.1 h i (Wv.2 hi)
theorem sI{f:Nat->Bool}{t:Nat}(h:(List.range t).all f=true)(hf:f t=true):(List.range (t+1)).all f=true:=by
 rw[Xh,Yz,h];simp[hf]
theorem JM{f:Nat->Bool}{t n:Nat}(ht:t<n)(hf:f t=false):(List.range n).all f=false:=by
 cases h:(List.range n).all f with
 |false=>rfl
 |true=>have:=K'.1 h t (Wv.2 ht);rw[hf]at this;exact this.symm
def yD(tr:List As)(u:Int):Int:=if dD tr u<tr.length then (dD tr u:Int)+1 else 0
theorem IE(u:Int):yD [] u=0:=by unfold yD;simp
theorem vf{tr:List As}{t:Nat}(h:t<=tr.length):(tr.take t).length=t:=by rw[y6];omega
theorem AT{tr:List As}{t:Nat}(ht:t<tr.length)(h: ¬dD (tr.take t) (am (aZ tr t).lit)<t)(u:Int):yD (tr.take (t+1)) u=if u=am (aZ tr t).lit then (t:Int)+1 else yD (tr.take t) u:=by
 have O:=oS (tr:=tr) (v:=u) (i:=t) (by omega);have I:=oS (tr:=tr) (v:=u) (i:=t+1) (by omega);have l1:=vf (tr:=tr) (t:=t) (by omega);have l2:=vf (tr:=tr) (t:=t+1) (by omega);unfold yD;rw[l1,l2];by_cases hu:u=am (aZ tr t).lit
 .rw [v8 hu];have Q:dD tr u=t:=by
   subst hu;rw[(oS (by omega)).1]at h;refine Hj ht rfl λj X=>qx (by omega)
  rw[v8 (I.1.2 (by omega)),I.2 (by omega),Q]
 .rw [r8 hu];by_cases hl:dD tr u<t
  .rw [v8 (I.1.2 (by omega)),v8 (O.1.2 hl),I.2 (by omega),O.2 hl]
  .rw [r8 (λJ=>?_),r8 (λJ=>hl (O.1.1 J))];have V:=I.1.1 J;have U:dD tr u=t:=by omega
   have:=rq (tr:=tr) (v:=u) (by omega);rw[U]at this;exact hu this.symm
theorem vP{tr:List As}{u:Int}:yD tr u=0↔¬dD tr u<tr.length:=by
 unfold yD;split<;>omega
theorem KY{tr:List As}(hl:tr.length<=4096)(h:(List.range tr.length).all (NH tr)=true):gq tr=true:=by
 unfold gq;rw[I4 hl,h];rfl
theorem H8{tr:List As}{i:Nat}(hi:i<tr.length)(h:NH tr i=false):gq tr=false:=by
 unfold gq;rw[JM hi h,Xa]
def KZ(tr:List As)(i:Nat):Bool:=decide ((aZ tr i).rs.length<=256) && decide ((aZ tr i).lit∈(aZ tr i).rs) && GK (tr.take i) (wo (aZ tr i).rs (aZ tr i).lit)
end
end Go.LeP
namespace Go.Proofs.YtbdghpjnifjlmaaGreat.W.Le
open Go Go.Fw Go.RowKit Go.SoP Go.LiP Go.LeP
open Go.Proofs.Tryz (prog)
section
variable{w:World}{p q:sn}{n c m d:Nat}{tr:List As}{l:List Int}
def TV(w:World)(p:sn)(tr:List As):Prop:=∀i,i<tr.length->∃ (a:Addr) (s:Sl),p=some a/\aM w (a.add (i*3)) 0 [.i (aZ tr i).lit,.i (aZ tr i).bM,.slice s.p s.n s.c]/\
 s.n=(aZ tr i).rs.length/\s.n<=maxLen/\Vw sT w s.p (aZ tr i).rs
theorem TV.grow{w':World}(h:TV w p tr)(g:ak w w'):TV w' p tr:=by
 intro i hi;obtain⟨a,s,rfl,J,h1,I,O⟩:=h i hi;exact⟨a,s,rfl,aM.keep g id J,h1,I,O.grow g⟩
theorem TV.ix(h:TV w p tr)(hn:n=tr.length){X:Int}(i:Nat)(e:X=i)(hi:i<tr.length){K:Addr->Prop}
 (J:∀a (s:Sl),aM w a 0 [.i (aZ tr i).lit,.i (aZ tr i).bM,.slice s.p s.n s.c]->s.n=(aZ tr i).rs.length->s.n<=maxLen->Vw sT w s.p (aZ tr i).rs->K a):aV p n X 3 K:=by
 subst e hn;obtain⟨a,s,rfl,O,h1,I,Q⟩:=h i hi;exact⟨a,rfl,by omega,by omega,J _ s (by rw[tn];exact O) h1 I Q⟩
theorem EN(l:Int):sg l=cC l:=rfl
theorem dy{l:Int}(h: -9223372036854775808<l)(I:l<9223372036854775808)(w:World):Calls prog 204 #[.i l] w λe w'=>e=.returned (.i (am l))/\ak w w':=by
 refine cO.aj ?_;unfold cO.w;rw[ao (x:=0 - l) (by omega) (by omega)];refine⟨?_,aE.refl w⟩;unfold imax am;congr 2;split<;>split<;>omega
end
section
variable{w:World}{p q:sn}{n c m d:Nat}{tr:List As}{l:List Int}
theorem kR:OP prog dW aB aB=true:=by kernel_rfl
theorem lU:vt prog rO aB bA=true:=by kernel_rfl
theorem qy{x:Int}(h:sg x=true):(Lit.int .i64 (am x)).wf=true:=by
 have:=Gr (x:=x) h;exact BH (by omega) (by omega)
theorem Ir{x:Int}(h:sg x=true):(Lit.int .i64 x).wf=true:=by
 have:=dj h;exact BH (by omega) (by omega)
theorem Ix{w2:World}{u v:Int}{m d:Nat}{K:World->Prop}(h:jz (.cells #[.i 0,.i 0,.slice none 0 0] cD) w n w2)
 (I:∀w3,bO w3 n #[.i u,.i v,.slice q m d]->ak w w3->K w3):∃w3,bD (qw n) 0 [.i u,.i v,.slice q m d] w2 w3/\K w3:=by
 have e:=h.num;exact aX h.has rfl rfl λw3 H m=>I w3 H (h.mod.then m λk I (e:k=n)=>by omega)
theorem xE{t:Nat}:ji tr (t+1)=(aZ tr t).bM:=by unfold ji;rw[r8 (by omega),Xy]
theorem Cp:ji tr 0=0:=by unfold ji;rw[v8 rfl]
end
section
variable{w:World}{p q:sn}{n c m d:Nat}{tr:List As}{l:List Int}
theorem _root_.Go.LeP.fF.cE(ok:fF tr){t:Nat}(ht:t<tr.length): ¬dD (tr.take t) (am (aZ tr t).lit)<t:=by
 intro e;rw[(oS (by omega)).1]at e;exact ok.uq _ t e ht (rq (by omega))
theorem wG{b n:Nat}{s I:Int->Int}(h:MI prog aB aB w b n s)(e:∀u,s u=I u):MI prog aB aB w b n I:=by
 rw[<- show s=I from funext e];exact h
theorem oe{v:Int}(hl:tr.length<=4096)(h:dD tr v<tr.length):IntKind.i64.wrap (yD tr v - 1)=(dD tr v:Nat):=by
 unfold yD;rw[v8 h,ao (by omega) (by omega)];omega
theorem qM(h:TV w p tr)(hn:n=tr.length)(ok:fF tr)(hl:tr.length<=4096):Calls prog 196 #[.slice p n c] w λe w'=>∃b,e=.returned (.map (some b))/\MI prog aB aB w' b tr.length (yD tr)/\ak w w'/\w.heap.size<=b:=by
 refine kV.aj ?_;intro Q w2 U;have e1:=U.num;have M2:MI prog aB aB w2 Q 0 (yD (tr.take 0)):=wG (MI.new U) λu=> (IE u).symm;refine⟨λI w' k=>∃t:Nat,I=t/\t<=tr.length/\k=tr.length - t/\MI prog aB aB w' Q t (yD (tr.take t))/\ak w w',⟨_,0,rfl,xc _,rfl,M2,U.mod⟩,?_⟩;rintro I w7 k _⟨t,rfl,ht,rfl,M,G⟩;refine ah (λs=>?_) (λs=>?_)
 .have s:t<tr.length:=by simp at s;omega
  refine(h.grow G).ix hn t rfl s λa x C e1 e2 v=>⟨_,_,_,_,_,C,λar ac qW=>Ix qW λY H J=>⟨_,ae H rfl,?_⟩⟩
  have hb:=dj (ok.ug t s);refine(dy (by omega) (by omega) Y).mono ?_;rintro e ap⟨rfl,O⟩;have V:=(G.trans J).trans O;obtain⟨aa,hr,X,Z⟩:=(M.grow (J.trans O)).put kR (by unfold maxLen;omega) (qy (ok.ug t s)) (v:=(t:Int)+1) (BH (by omega) (by omega));refine⟨_,rfl,aa,by rw[ao (by omega) (by omega)];exact hr,_,?_,t+1,wN,by omega,rfl,wG X λu=> (AT s (ok.cE s) u).symm,aE.cE V Z (by omega)⟩;omega
 .have s:t=tr.length:=by simp at s;omega
  subst s;rw[L0]at M;exact⟨Q,rfl,M,G,by omega⟩
theorem Qt{x:Int}:jL [x]=cC x:=by unfold jL;simp
theorem TI{x:Int}{b:Nat}(h:bO w b #[.i x]):Vw sT w (some ⟨b,0,none⟩) [x]:=by
 intro j I;have:j=0:=by simpa using I
 subst this;exact⟨_,rfl,ae h rfl⟩
theorem E0{t b nn:Nat}(h:TV w p tr)(hn:n=tr.length)(hl:tr.length<=4096)(ht:t<tr.length)(hi:sg (aZ tr t).lit=true)(M:MI prog aB aB w b nn (yD (tr.take t)))(hv:Vw sT w q (aZ tr t).rs)(hm:m=(aZ tr t).rs.length)(Q:m<=maxLen):
 Calls prog 213 #[.slice p n c,.map (some b),.agg #[.i (aZ tr t).lit,.i (aZ tr t).bM,.slice q m d]] w λe w'=>e=.returned (.bool (KZ tr t))/\ak w w':=by
 refine jd.aj ?_;intro n1 w2 h2;have H:=h2.has;have G2:=h2.mod;generalize aT:(aZ tr t).rs=rs at*
 generalize a6:(aZ tr t).lit=Z at*
 have J:KZ tr t=(decide (rs.length<=256) && decide (Z∈rs) && GK (tr.take t) (LeP.wo rs Z)):=by unfold KZ;rw[aT,a6]
 have a7:(tr.take t).length=t:=vf (by omega);have V:∀ {w':World} {x:Int},ak w w'->x∈rs->x≠Z->¬mA (tr.take t) x->(Ending.returned (.bool false)=.returned (.bool (KZ tr t))/\ak w w'):=by
  intro w' x g Q O hb;have:GK (tr.take t) (LeP.wo rs Z)=false:=by
   cases e:GK (tr.take t) (LeP.wo rs Z) with
   |false=>rfl
   |true=>exact absurd (nH.1 e x (sV.2 ⟨Q,O⟩)) hb
  rw[J,this,Xa];exact⟨rfl,g⟩
 refine⟨_,_,_,ae H rfl,ah (λr=>?_) (λr=>⟨_,_,_,ae H rfl,(fW (hv.grow G2) hm Q).mono ?_⟩)⟩
 .simp at r;rw[J,x9 (by omega)];exact⟨rfl,G2⟩
 have r:rs.length<=256:=by simp at r;omega
 rintro e w5⟨rfl,g5⟩;have G5:=G2.trans g5;have H5:=H.grow g5;refine⟨_,rfl,ah (λr2=>?_) (λr2=>⟨_,_,_,ae H5 rfl,_,ae H5 rfl,(xH (hv.grow G5) hm Q _).mono ?_⟩)⟩
 .have U:jL rs=false:=by
   cases e:jL rs with
   |false=>rfl
   |true=>rw[e]at r2;simp at r2
  have aa:rs.all cC=false:=by
   unfold jL at U;rw[I4 (p:=_<=4096) (by omega),XI]at U;exact U
  rw[List.all_eq_false]at aa;obtain⟨x,a',ax⟩:=aa;refine V G5 a' (λe=>?_) λhb=>?_
  .subst e;exact ax hi
  .exact ax hb.ug
 have U:jL rs=true:=by
  cases e:jL rs with
  |true=>rfl
  |false=>rw[e]at r2;simp at r2
 have av:=(cX U).1;rintro e w9⟨rfl,g9⟩;have G9:=G5.trans g9;have H9:=H5.grow g9;refine⟨_,rfl,ah (λr3=>?_) (λr3=>⟨_,_,_,ae H9 rfl,?_⟩)⟩
 .have r3:Z ∉ rs:=by simpa using r3
  rw[J,x9 r3,Xa];exact⟨rfl,G9⟩
 have r3:Z∈rs:=by simpa using r3
 refine⟨λI w' k=>∃j:Nat,I=j/\j<=rs.length/\k=rs.length - j/\(∀x∈rs.take j,x≠Z->mA (tr.take t) x)/\ak w2 w',⟨_,0,rfl,xc _,rfl,by simp,g5.trans g9⟩,?_⟩;rintro I a8 k _⟨j,rfl,hj,rfl,ha,G⟩;refine ah (λs=>?_) (λs=>?_)
 .have s:j<rs.length:=by simp at s;omega
  refine(hv.grow (G2.trans G)).ix 0 (by omega) hm (by omega) λa e=>⟨_,e,_,ae (H.grow G) rfl,?_⟩
  rw[tn];refine ah (λr4=>⟨_,?_,j+1,wN,by omega,rfl,λx Q O=>?_,G⟩) (λr4=>?_)
  .omega
  .rcases (gK s).1 Q with e|e
   .exact ha x e O
   .exact absurd (e.trans (by simpa using r4)) O
  have r4:rs.getD j 0≠Z:=by simpa using r4
  have ag:=av _ (cw s);have hb:=dj ag;refine(dy (by omega) (by omega) a8).mono ?_;rintro e bg⟨rfl,aw⟩;have Y:=(G2.trans G).trans aw;refine⟨_,rfl,bg,_,(M.grow Y).cY kR (qy ag),ah (λX=>?_) (λX=>?_)⟩
  .refine V Y (cw s) r4 λhB=>?_;have X:yD (tr.take t) (am (rs.getD j 0))=0:=by simpa using X
   exact vP.1 X hB.lt
  have X:dD (tr.take t) (am (rs.getD j 0))< (tr.take t).length:=Wj λe=>by
   rw[vP.2 e]at X;simp at X
  have r6:=X;rw[a7]at r6;rw[oe (by omega) X];refine(h.grow Y).ix hn _ rfl (by omega) λa2 x C e1 e2 v=>⟨_,C.1,?_⟩
  rw[ao (by omega) (by omega),Int.zero_sub];refine ah (λr7=>V Y (cw s) r4 λhB=>?_) (λr7=>⟨_,?_,j+1,wN,by omega,rfl,λx Q O=>?_,G.trans aw⟩)
  .have:=hB.eq;rw[lF r6]at this;rw[this]at r7;simp at r7
  .omega
  .rcases (gK s).1 Q with e|e
   .exact ha x e O
   .subst e;refine⟨ag,X,?_⟩;rw[lF r6];simpa using r7
 .have s:j=rs.length:=by simp at s;omega
  subst s;rw[L0]at ha;refine⟨?_,G2.trans G⟩;rw[J,I4 r,I4 r3,nH.2 λx Q=>ha x (sV.1 Q).1 (sV.1 Q).2];rfl
theorem S0(t:Nat):NH tr t=(sg (aZ tr t).lit && decide (¬dD (tr.take t) (am (aZ tr t).lit)<t) && decide (ji tr t<=(aZ tr t).bM/\(aZ tr t).bM<=ji tr t+1) &&
 (if (aZ tr t).bM>ji tr t then (aZ tr t).rs.isEmpty else KZ tr t)):=rfl
theorem wh(h:TV w p tr)(hn:n=tr.length):Calls prog 200 #[.slice p n c] w λe w'=>e=.returned (.bool (gq tr))/\ak w w':=by
 refine mM.aj ?_;refine ah (λq=>?_) (λq=>?_)
 .simp at q;refine⟨?_,aE.refl w⟩;unfold gq;rw[x9 (by omega)];rfl
 have hl:tr.length<=4096:=by simp at q;omega
 intro n1 w2 h2;have e1:=h2.num;have M2:MI prog aB aB w2 n1 0 (yD (tr.take 0)):=wG (MI.new h2) λu=> (IE u).symm;refine⟨λL I w' k=>∃t:Nat,I=t/\t<=tr.length/\L=ji tr t/\(List.range t).all (NH tr)=true/\k=tr.length - t/\MI prog aB aB w' n1 t (yD (tr.take t))/\ak w w',⟨_,0,rfl,xc _,Cp.symm,rfl,rfl,M2,h2.mod⟩,?_⟩;rintro L I w8 k _⟨t,rfl,ht,rfl,ha,rfl,M,G⟩;refine ah (λs=>?_) (λs=>⟨?_,G⟩)
 .have s:t<tr.length:=by simp at s;omega
  have np:∀ {w':World},ak w w'->NH tr t=false->(Ending.returned (.bool false)=.returned (.bool (gq tr))/\ak w w'):=λg hf=>by
   rw[H8 s hf];exact⟨rfl,g⟩
  have a6:=KD ht (by omega) ha;have ax:(tr.take t).length=t:=vf ht;have bu:0<=ji tr t/\ji tr t<=t:=by
   cases t with
   |zero=>rw[Cp];omega
   |succ t=>
    rw[xE];have h1:=a6.nn (i:=t) (by omega);have h2:=a6.le (i:=t) (by omega);rw[lF (by omega)]at h1 h2;omega
  refine(h.grow G).ix hn t rfl s λa x C e1 e2 v=>⟨_,_,_,_,_,C,λb4 b8 an=>Ix an λbx H ap=>⟨_,ae H rfl,λb7 bY tz=>?_⟩⟩
  have vw:=TI tz.has;refine(fW vw rfl (by unfold maxLen;simp)).mono ?_;rw[Qt];rintro e bi⟨rfl,bk⟩;have g:=(tz.mod.trans bk)
  have aw:=(G.trans ap).trans g;have a7:=H.grow g;have J:=S0 (tr:=tr) t;refine⟨_,rfl,ah (λr=>np aw ?_) (λr=>?_)⟩
  .have:sg (aZ tr t).lit=false:=by
    cases e:sg (aZ tr t).lit with
    |false=>rfl
    |true=>rw[<- EN,e]at r;simp at r
   rw[J,this];rfl
  have r:sg (aZ tr t).lit=true:=by
   cases e:sg (aZ tr t).lit with
   |true=>rfl
   |false=>rw[<- EN,e]at r;simp at r
  have hb:=dj r;refine⟨_,ae a7 rfl,(dy (by omega) (by omega) bi).mono ?_⟩;rintro e az⟨rfl,aa⟩;have O:=aw.trans aa;have Q:=a7.grow aa;have Z:=M.grow ((ap.trans g).trans aa);refine⟨_,rfl,az,_,Z.cY kR (qy r),ah (λV=>np O ?_) (λV=>?_)⟩
  .have V:dD (tr.take t) (am (aZ tr t).lit)<t:=Wj λe=>by
    rw[vP.2 (by rw[ax];exact e)]at V;simp at V
   rw[J,x9 (by simp[V]),Xa];rfl
  have V: ¬dD (tr.take t) (am (aZ tr t).lit)<t:=λe=>by
   unfold yD at V;rw[ax,v8 e]at V;simp at V
  rw[ao (by omega) (by omega)];refine⟨_,ae Q rfl,ah (λr3=>np O ?_) (λr3=>⟨_,ae Q rfl,ah (λr4=>np O ?_) (λr4=>⟨_,ae Q rfl,_,_,_,ae Q rfl,?_⟩)⟩)⟩
  .simp at r3;rw[J,x9 (p:=_<=_/\_) (by omega),Xa];rfl
  .simp at r4;rw[J,x9 (p:=_<=_/\_) (by omega),Xa];rfl
  have r3:ji tr t<=(aZ tr t).bM:=by simpa using r3
  have r4:(aZ tr t).bM<=ji tr t+1:=by simpa using r4
  rw[r,I4 (p:= ¬_) V,I4 (p:=_<=_/\_) ⟨r3,r4⟩,XI,XI,W2]at J;refine ah (λY=>np O ?_) (λY=>ah (λr6=>?_) (λr6=>?_))
  .rw [J];split
   .rename_i e;rw[I4 e]at Y;simp[e1]at Y;simp[Y]
   .rename_i e;rw[x9 e]at Y;simp[e1]at Y;unfold KZ;rw[Y];simp
  .have r6: ¬(aZ tr t).bM>ji tr t:=by simpa using r6
   rw[r8 r6]at J;refine⟨_,_,_,_,_,gG Q,(E0 (h.grow O) hn hl s r Z (v.grow ((ap.trans g).trans aa)) e1 e2).mono ?_⟩;rintro e bf⟨rfl,ac⟩;have bb:=Q.grow ac;refine⟨_,rfl,ah (λr7=>np (O.trans ac) (by rw[J];simpa using r7)) (λr7=>⟨_,ae bb rfl,(dy (by omega) (by omega) bf).mono ?_⟩)⟩;rintro e bg⟨rfl,U⟩;obtain⟨av,hr,ar,X⟩:=(Z.grow (ac.trans U)).put kR (by unfold maxLen;omega) (qy r) (v:=(t:Int)+1) (BH (by omega) (by omega));refine⟨_,rfl,av,by rw[ao (by omega) (by omega)];exact hr,_,ae ((bb.grow U).put X (λe=>?_)) rfl,_,?_,t+1,wN,by omega,xE.symm,sI ha (by rw[J];simpa using r7),rfl,wG ar λu=> (AT s V u).symm,aE.cE ((O.trans ac).trans U) X (by omega)⟩
   .have:=an.num;have:=M.lt;omega
   .omega
  .have r6:(aZ tr t).bM>ji tr t:=by simpa using r6
   rw[v8 r6]at J;have r7:(aZ tr t).rs.isEmpty=true:=by
    rw[I4 r6]at Y;simp[e1]at Y;simp[Y]
   refine⟨_,ae Q rfl,(dy (by omega) (by omega) az).mono ?_⟩;rintro e bg⟨rfl,U⟩;obtain⟨av,hr,ar,X⟩:=(Z.grow U).put kR (by unfold maxLen;omega) (qy r) (v:=(t:Int)+1) (BH (by omega) (by omega));refine⟨_,rfl,av,by rw[ao (by omega) (by omega)];exact hr,_,ae ((Q.grow U).put X (λe=>?_)) rfl,_,?_,t+1,wN,by omega,xE.symm,sI ha (by rw[J];exact r7),rfl,wG ar λu=> (AT s V u).symm,aE.cE (O.trans U) X (by omega)⟩
   .have:=an.num;have:=M.lt;omega
   .omega
 .have s:t=tr.length:=by simp at s;omega
  subst s;rw[KY hl ha]
theorem xu(h:TV w p tr)(hn:n=tr.length)(ok:fF tr)(hl:tr.length<=4096)(hc:Vw sT w q l)(hk:m=l.length)(X:m<=maxLen)(hi:∀x∈l,sg x=true):
 Calls prog 201 #[.slice p n c,.slice q m d] w λe w'=>e=.returned (.bool (GK tr l))/\ak w w':=by
 refine lI.aj ?_;have ag:=X;unfold maxLen at ag;refine(qM h hn ok hl).mono ?_;rintro e w1⟨b,rfl,M1,g1,_⟩;refine⟨_,rfl,λI w' k=>∃t:Nat,I=t/\t<=l.length/\k=l.length - t/\(∀x∈l.take t,mA tr x)/\ak w1 w',⟨_,0,rfl,xc _,rfl,by simp,aE.refl w1⟩,?_⟩;rintro I w7 k _⟨t,rfl,ht,rfl,ha,G⟩;have O:∀ {w':World} {x:Int},ak w w'->x∈l->¬mA tr x->(Ending.returned (.bool false)=.returned (.bool (GK tr l))/\ak w w'):=by
  intro w' x g X hb;have:GK tr l=false:=by
   cases e:GK tr l with
   |false=>rfl
   |true=>exact absurd (nH.1 e x X) hb
  rw[this];exact⟨rfl,g⟩
 refine ah (λs=>?_) (λs=>?_)
 .have s:t<l.length:=by simp at s;omega
  refine(hc.grow (g1.trans G)).ix 0 (by omega) hk (by omega) λa e=>⟨_,e,?_⟩
  rw[tn];have V:=hi _ (cw s);have hb:=dj V;refine(dy (by omega) (by omega) w7).mono ?_;rintro e Z⟨rfl,U⟩;have Q:=(g1.trans G).trans U;refine⟨_,rfl,Z,_,(M1.grow (G.trans U)).cY kR (qy V),ah (λJ=>?_) (λJ=>?_)⟩
  .refine O Q (cw s) λhB=>?_;have J:yD tr (am (l.getD t 0))=0:=by simpa using J
   exact vP.1 J hB.lt
  have J:dD tr (am (l.getD t 0))<tr.length:=Wj λe=>by
   rw[vP.2 e]at J;simp at J
  rw[oe hl J];refine(h.grow Q).ix hn _ rfl J λa2 x C e1 e2 v=>⟨_,C.1,?_⟩
  rw[ao (by omega) (by omega),Int.zero_sub];refine ah (λY=>O Q (cw s) λhB=>?_) (λY=>⟨_,?_,t+1,wN,by omega,rfl,λx X=>?_,G.trans U⟩)
  .rw [hB.eq]at Y;simp at Y
  .omega
  .rcases (gK s).1 X with e|e
   .exact ha x e
   .subst e;exact⟨V,J,by simpa using Y⟩
 .have s:t=l.length:=by simp at s;omega
  subst s;rw[L0]at ha;rw[nH.2 ha];exact⟨rfl,g1.trans G⟩
def uz(tr:List As)(l:List Int):Bool:=gq tr && jL l && GK tr l
theorem BY(h:TV w p tr)(hn:n=tr.length)(V:Vw sT w q l)(U:m=l.length)(X:m<=maxLen):
 Calls prog 195 #[.slice p n c,.slice q m d] w λe w'=>e=.returned (.i (if uz tr l then 0 else 1))/\ak w w':=by
 refine mQ.aj ?_;refine(wh h hn).mono ?_;rintro e w1⟨rfl,O⟩;refine⟨_,rfl,ah (λr=>⟨?_,O⟩) (λr=> (fW (V.grow O) U X).mono ?_)⟩
 .have r:gq tr=false:=by simpa using r
  unfold uz;rw[r];rfl
 have r:gq tr=true:=by simpa using r
 rintro e w3⟨rfl,Q⟩;refine⟨_,rfl,ah (λI=>⟨?_,O.trans Q⟩) (λI=>?_)⟩
 .have:jL l=false:=by
   cases e:jL l with
   |false=>rfl
   |true=>rw[e]at I;simp at I
  unfold uz;rw[this,Xa];rfl
 have I:jL l=true:=by
  cases e:jL l with
  |true=>rfl
  |false=>rw[e]at I;simp at I
 obtain⟨ok,hl⟩:=q6 r;refine(xu (h.grow (O.trans Q)) hn ok hl (V.grow (O.trans Q)) U X (cX I).1).mono ?_;rintro e Z⟨rfl,Y⟩;refine⟨_,rfl,ah (λJ=>⟨?_,(O.trans Q).trans Y⟩) (λJ=>⟨?_,(O.trans Q).trans Y⟩)⟩
 .have J:GK tr l=false:=by simpa using J
  unfold uz;rw[J,Xa];rfl
 .have J:GK tr l=true:=by simpa using J
  unfold uz;rw[r,I,J];rfl
end
section
variable{W0 w w':World}{p q:sn}{n c m d ns b1 b2 nb:Nat}{tr:List As}{l:List Int}{s:Int->Bool}
structure BC(W0 w:World)(ns:Nat)(p:sn)(n c:Nat)(tr:List As)(b1 b2:Nat):Prop where
 tv:TV W0 p tr
 hn:n=tr.length
 ok:fF tr
 hl:tr.length<=4096
 G:ak W0 w
 h:bO w ns #[.slice p n c,.map (some b1),.map (some b2)]
 M:MI prog aB aB w b1 tr.length (yD tr)
 f2:W0.heap.size<=b2
 d1:b1≠b2
 d2:ns≠b2
theorem BC.keep{S:Nat->Prop}(h:BC W0 w ns p n c tr b1 b2)(m:aE S w w')(J:∀b,S b->W0.heap.size<=b)(h1: ¬S ns)(I: ¬S b1):BC W0 w' ns p n c tr b1 b2:=
 ⟨h.tv,h.hn,h.ok,h.hl,h.G.then m λx O e=>by have:=J x e;omega,h.h.keep m h1,h.M.keep m I,h.f2,h.d1,h.d2⟩
theorem BC.grow(h:BC W0 w ns p n c tr b1 b2)(m:ak w w'):BC W0 w' ns p n c tr b1 b2:=h.keep m (λ_ e=>e.elim) id id
theorem BC.put(h:BC W0 w ns p n c tr b1 b2)(m:aE (·=b2) w w'):BC W0 w' ns p n c tr b1 b2:=h.keep m (λ_ (e:_=b2)=>by subst e;exact h.f2) h.d2 h.d1
theorem xU{l:Int}(h: -9223372036854775808<l)(I:l<9223372036854775808)(w:World):Calls prog 204 #[.i l] w λe w'=>e=.returned (.i (am l))/\w'=w:=by
 refine cO.aj ?_;unfold cO.w;rw[ao (x:=0 - l) (by omega) (by omega)];refine⟨?_,rfl⟩;unfold imax am;congr 2;split<;>split<;>omega
theorem FH(h:BC W0 w ns p n c tr b1 b2){x:Int}(J:mA tr x):Calls prog 202 #[.pointer (some ⟨ns,0,none⟩),.i x] w λe w'=>e=.returned (.i (lv tr x))/\w'=w.drew:=by
 refine dm.aj ?_;have hb:=dj J.ug;have H:bO w.drew ns _:=h.h.drew;have sl:w.drew.cell? ((qw ns).add 0)=some (.slice p n c):=ae H rfl;have mp:w.drew.cell? ((qw ns).add 1)=some (.map (some b1)):=ae H rfl;have O:ak w w.drew:=(aE.refl w).drew;have I:∀ {Q:Ending->World->Prop},Q (.returned (.i (am x))) w.drew->Calls prog 204 #[.i x] w.drew Q:=λU=>by
  refine(xU (by omega) (by omega) w.drew).mono ?_;rintro e u⟨rfl,rfl⟩;exact U
 have cY:(Instr.lookup dW (.map (some b1)) (.i (am x)) false).run prog w.drew=.ok (.i (yD tr (am x))) w.drew:=(h.M.grow O).cY kR (qy J.ug);have eh:aV p n (IntKind.i64.wrap (yD tr (am x) - 1)) 3 λa=>∃y:Int,w.drew.cell? (a.add 1)=some (.i y)/\(Ending.returned (.i y)=.returned (.i (lv tr x))/\w.drew=w.drew):=by
  rw[oe h.hl J.lt];exact(h.tv.grow (h.G.trans O)).ix h.hn _ rfl J.lt λa s C V X v=>⟨_,C.2.1,rfl,rfl⟩
 refine⟨_,rfl,_,rfl,⟨_,_,_,sl,⟨_,mp,I ⟨_,rfl,_,_,cY,eh⟩⟩,I ⟨_,rfl,_,mp,_,_,cY,eh⟩⟩,
  ⟨_,mp,⟨_,_,_,sl,I ⟨_,rfl,_,_,cY,eh⟩⟩,I ⟨_,rfl,⟨_,_,_,sl,_,_,cY,eh⟩,⟨_,_,cY,_,_,_,sl,eh⟩⟩⟩,
  I ⟨_,rfl,_,mp,⟨_,_,_,sl,_,_,cY,eh⟩,⟨_,_,cY,_,_,_,sl,eh⟩⟩⟩
theorem AZ(h:BC W0 w ns p n c tr b1 b2){x:Int}(J:mA tr x):Calls prog 202 #[.pointer (some ⟨ns,0,none⟩),.i x] w λe w'=>e=.returned (.i (lv tr x))/\ak w w':=
 (FH h J).mono λ_ _ ⟨h1,I⟩=>⟨h1,by rw[I];exact(aE.refl w).drew⟩
theorem mf(h:BC W0 w ns p n c tr b1 b2)(M:MS prog aB bA w b2 nb s)(Z:Vw sT W0 q l)(hk:m=l.length)(hx:nb+l.length<=10000000)(hi:∀x∈l,sg x=true)(Kd:Int):
 Calls prog 197 #[.pointer (some ⟨ns,0,none⟩),.slice q m d,.i Kd] w λe w'=>e=.returned (.tuple #[])/\BC W0 w' ns p n c tr b1 b2/\∃J O,J<=nb+l.length/\MS prog aB bA w' b2 J O/\∀u,O u=(s u||decide (u∈l/\u≠Kd)):=by
 refine iG.aj ?_;refine⟨λI w' k=>∃ (t J:Nat) (O:Int->Bool),I=t/\t<=l.length/\k=l.length - t/\J<=nb+t/\BC W0 w' ns p n c tr b1 b2/\MS prog aB bA w' b2 J O/\∀u,O u=(s u||decide (u∈l.take t/\u≠Kd)),⟨_,0,nb,s,rfl,xc _,rfl,vy _,h,M,λu=>by simp⟩,?_⟩;rintro I w5 k _⟨t,J,O,rfl,ht,rfl,hb,S,V,hs⟩;refine ah (λr=>?_) (λr=>?_)
 .have r:t<l.length:=by simp at r;omega
  refine(Z.grow S.G).ix 0 (by omega) hk (by omega) λa e=>⟨_,e,?_⟩
  rw[tn];refine ah (λQ=>⟨_,rfl,_,ae S.h rfl,?_⟩) (λQ=>⟨_,?_,t+1,J,O,wN,by omega,rfl,by omega,S,V,λu=>?_⟩)
  .have Q:l.getD t 0≠Kd:=by simpa using Q
   obtain⟨X,hr,Y,U⟩:=V.put lU (by unfold maxLen;omega) (Ir (hi _ (cw r)));refine⟨X,hr,_,?_,t+1,J+1,_,wN,by omega,rfl,by omega,S.put U,Y,λu=>?_⟩
   .omega
   .simp only[gK r,hs u];by_cases e:u=l.getD t 0
    .rw [v8 e];have:decide ((u∈l.take t\/u=l.getD t 0)/\u≠Kd)=true:=I4 ⟨.inr e,e▸Q⟩;rw[this,Y1]
    .rw [r8 e];exact congrArg (s u|| ·) (decide_eq_decide.2 ⟨λh=>⟨.inl h.1,h.2⟩,λh=>⟨h.1.resolve_right e,h.2⟩⟩)
  .omega
  .have Q:l.getD t 0=Kd:=by simpa using Q
   rw[hs u];refine congrArg (s u|| ·) (decide_eq_decide.2 ?_);rw[gK r];constructor
   .rintro ⟨a,b⟩;exact⟨.inl a,b⟩
   .rintro ⟨a|a,b⟩
    .exact ⟨a,b⟩
    .exact absurd (a.trans Q) b
 .have r:t=l.length:=by simp at r;omega
  subst r;rw[L0]at hs;exact⟨rfl,S,J,O,by omega,V,hs⟩
def xe(tr:List As)(c:List Int)(L N P:Int):Prop:=
 (c= []/\L=0/\N=0/\P= -1)\/((∀x∈c,lv tr x<=L)/\N=gM tr c L/\0<N/\(∃x∈c,lv tr x=L/\(dD tr (am x):Int)=P)/\∀x∈c,lv tr x=L->(dD tr (am x):Int)<=P)
theorem xe.VF{c k:List Int}{L N P:Int}(h:xe tr c L N P)(e:c.Perm k):xe tr k L N P:=by
 rcases h with⟨rfl,h⟩| ⟨h1,J,Q,⟨x,I,O⟩,h5⟩
 .exact .inl ⟨e.nil_eq.symm,h⟩
 .exact .inr ⟨λx I=>h1 x (e.mem_iff.2 I),by rw[J];unfold gM;rw[e.countP_eq],Q,⟨x,e.mem_iff.1 I,O⟩,λx I=>h5 x (e.mem_iff.2 I)⟩
theorem xe.step{c:List Int}{L N P a:Int}(h:xe tr c L N P):
 (N=0\/L<lv tr a->xe tr (a::c) (lv tr a) 1 (dD tr (am a)))/\(N≠0->lv tr a=L->xe tr (a::c) L (N+1) (imax P (dD tr (am a))))/\(N≠0->lv tr a<L->xe tr (a::c) L N P):=by
 refine⟨λe=>?_,λhN e=>?_,λhN e=>?_⟩
 .have all:∀x∈c,lv tr x<lv tr a:=by
   rcases h with⟨rfl,h⟩| ⟨h1,O,V,_⟩
   .simp
   .intro x I;have:=h1 x I;omega
  refine .inr ⟨λx I=>?_,?_,by omega,⟨a,by simp,rfl,rfl⟩,λx I hl=>?_⟩
  .rcases V'.1 I with e|e
   .rw [e];exact Ww _
   .have:=all x e;omega
  .have:c.countP (λx=>lv tr x==lv tr a)=0:=X9.2 λx I=>by
    have:=all x I;simp;omega
   unfold gM;rw[WX,this];simp
  .rcases V'.1 I with e|e
   .rw [e];exact Ww _
   .have:=all x e;omega
 .rcases h with⟨rfl,h⟩| ⟨h1,O,V,⟨y,Q,U,X⟩,h5⟩
  .exact absurd h.2.1 hN
  .refine .inr ⟨λx I=>?_,?_,by omega,?_,λx I hl=>?_⟩
   .rcases V'.1 I with J|J
    .rw [J,e];exact Ww _
    .exact h1 x J
   .rw [O];unfold gM;rw[WX,v8 (by simpa using e)];simp
   .unfold imax;split
    .exact ⟨a,by simp,e,rfl⟩
    .exact ⟨y,xk _ Q,U,X⟩
   .unfold imax;rcases V'.1 I with J|J
    .subst J;split<;>omega
    .have:=h5 x J hl;split<;>omega
 .rcases h with⟨rfl,h⟩| ⟨h1,O,V,⟨y,Q,U⟩,h5⟩
  .exact absurd h.2.1 hN
  .refine .inr ⟨λx I=>?_,?_,V,⟨y,xk _ Q,U⟩,λx I hl=>?_⟩
   .rcases V'.1 I with J|J
    .rw [J];omega
    .exact h1 x J
   .rw [O];unfold gM;rw[WX,r8 (by simp;omega)];simp
   .rcases V'.1 I with J|J
    .subst J;omega
    .exact h5 x J hl
def xg(s lf:Int->Bool)(V:List Int):Prop:=V.Nodup/\∀x,x∈V↔s x=true/\lf x=false
theorem xg.nil:xg s s []:=⟨List.nodup_nil,λx=>by
 constructor
 .intro h;simp at h
 .rintro ⟨a,b⟩;rw[a]at b;simp at b⟩
theorem xg.step{lf:Int->Bool}{V:List Int}{a:Int}(h:xg s lf V)(ha:lf a=true)(hs:s a=true):xg s (λx=>lf x && x !=a) (a::V):=by
 refine⟨Ym.2 ⟨λe=>?_,h.1⟩,λx=>?_⟩
 .have:=((h.2 a).1 e).2;rw[ha]at this;simp at this
 .rw [V',h.2 x];constructor
  .rintro (rfl| ⟨h1,I⟩)
   .exact ⟨hs,by simp⟩
   .exact ⟨h1,by show (lf x && x !=a)=false;rw[I];rfl⟩
  .rintro ⟨h1,I⟩;by_cases e:x=a
   .exact .inl e
   .refine .inr ⟨h1,?_⟩;simpa[e]using I
theorem xg.Vb{lf:Int->Bool}{V:List Int}{a:Int}(h:xg s lf V)(ha:lf a=true)(hs:s a=true):xg s (λx=>lf x && x !=a) (V++ [a]):=by
 have I:=h.step ha hs;have e:(V++ [a]).Perm (a::V):=List.perm_append_comm (l₁:=V) (l₂:= [a]);exact⟨e.nodup_iff.2 I.1,λx=>e.mem_iff.trans (I.2 x)⟩
theorem xg.done{lf:Int->Bool}{V c:List Int}(h:xg s lf V)(hl:∀a,lf a=false)(I:∀x,s x=true↔x∈c)(J:c.Nodup):V.Perm c:=
 (List.perm_ext_iff_of_nodup h.1 J).2 λx=>by rw[h.2 x,hl x,<- I x];simp
theorem NY(h:BC W0 w ns p n c tr b1 b2)(M:MS prog aB bA w b2 nb s){k:List Int}(hs:∀x,s x=true↔x∈k)(hd:k.Nodup)(hb:∀x∈k,mA tr x):
 Calls prog 198 #[.pointer (some ⟨ns,0,none⟩)] w λe w'=>∃L N P:Int,e=.returned (.tuple #[.i L,.i N,.i P])/\xe tr k L N P/\ak w w':=by
 refine iE.aj ?_;obtain⟨w3,eY,hr,R,g3⟩:=M.range lU;have b6:=R.lt;refine⟨_,rfl,_,ae h.h rfl,w3,_,hr,?_⟩;refine⟨λL N P u z=>∃ (V:List Int) (lf:Int->Bool),xg s lf V/\xe tr V L N P/\(∀x,lf x=true->s x=true)/\MR prog aB bA u b2 w.heap.size nb s lf z/\ak w u,⟨_,[],s,xg.nil,.inl ⟨rfl,rfl,rfl,rfl⟩,λx=>id,R,g3⟩,?_⟩;rintro L N P bb z _⟨V,lf,v,T,az,bn,G⟩;rcases bn.next lU 0 with⟨h0,hl,Y⟩| ⟨a,va,an,z',ha,b8,Y,ax,a',hz,bf⟩
 .exact .inl ⟨bb,Y,_,_,_,rfl,T.VF (v.done hl hs hd),G⟩
 refine .inr ⟨an,_,_,Y,an,_,_,ax,?_⟩;have aa:ak w an:=aE.cE G bf (vy _);have a6:=az a ha;have hB:=hb a ((hs a).1 a6);have bY:=dj hB.ug;have v':=v.step ha a6;have J:∀x,(lf x && x !=a)=true->s x=true:=λx e=>az x (by simp at e;exact e.1);have T':=T.step (a:=a);refine(AZ (h.grow aa) hB).mono ?_;rintro e I⟨rfl,ac⟩;have ay:=a'.grow ac;have aT:=(h.grow (aa.trans ac)).grow (aE.refl I).drew;have g0:ak I.drew I.drew:=aE.refl _;have O:ak w I.drew:=(aa.trans ac).trans (aE.refl I).drew;have mp:∀ {u:World},ak I.drew u->u.cell? ((qw ns).add 1)=some (.map (some b1)):=λg=>ae (aT.h.grow g) rfl;have U:∀ {Q:Ending->World->Prop},(∀u,ak I.drew u->Q (.returned (.i (am a))) u)->Calls prog 204 #[.i a] I.drew Q:=λhQ=>by
  refine(dy (by omega) (by omega) I.drew).mono ?_;rintro e u⟨rfl,g⟩;exact hQ u g
 have cY:∀ {u:World},ak I.drew u->(Instr.lookup dW (.map (some b1)) (.i (am a)) false).run prog u=.ok (.i (yD tr (am a))) u:=λg=> (aT.M.grow g).cY kR (qy hB.ug);have X:∀ {u:World},ak I.drew u->MR prog aB bA u b2 w.heap.size nb s (λx=>lf x && x !=a) z':=λg=>ay.drew.grow g;have hw:=oe h.hl hB.lt;have N0:0<=N/\N<=1000000:=by
  have bx:N<=V.length:=by
   rcases T with⟨rfl,_,e,_⟩| ⟨_,e,_⟩
   .rw [e];simp
   .rw [e];have:gM tr V L<=V.length:=Xm;omega
  have b7:V.length<=tr.length:=by
   have inj:(V.map λx=>dD tr (am x)).Nodup:=by
    refine X2.2 (XX (λ{x y} hx hy bu e=>?_) v.1);exact bu ((hb x ((hs x).1 ((v.2 x).1 hx).1)).same (hb y ((hs y).1 ((v.2 y).1 hy).1)) e)
   have:=WR inj (l₂:=List.range tr.length) λy hy=>by
    obtain⟨x,hx,rfl⟩:=LV.1 hy;exact Wv.2 (hb x ((hs x).1 ((v.2 x).1 hx).1)).lt
   simpa using this
  have:=h.hl;refine⟨?_,by omega⟩;rcases T with⟨_,_,e,_⟩| ⟨_,_,e,_⟩<;>omega
 refine⟨_,rfl,ah (λr=>?_) (λr=>ah (λr2=>?_) (λr2=>ah (λr3=>?_) (λr3=>?_)))⟩
 .have r:N=0:=by simpa using r
  have Z:=T'.1 (.inl r);rw[<- hw]at Z;exact⟨_,rfl,⟨_,mp g0,U λu g=>⟨_,rfl,u,_,cY g,z',hz,_,_,v',Z,J,X g,O.trans g⟩⟩,U λu g=>⟨_,rfl,_,mp g,u,_,cY g,z',hz,_,_,v',Z,J,X g,O.trans g⟩⟩
 .have r2:L<lv tr a:=by simpa using r2
  have Z:=T'.1 (.inr r2);rw[<- hw]at Z;exact⟨_,rfl,⟨_,mp g0,U λu g=>⟨_,rfl,u,_,cY g,z',hz,_,_,v',Z,J,X g,O.trans g⟩⟩,U λu g=>⟨_,rfl,_,mp g,u,_,cY g,z',hz,_,_,v',Z,J,X g,O.trans g⟩⟩
 .have r:N≠0:=by simpa using r
  have r3:lv tr a=L:=by simpa using r3
  have Z:=T'.2.1 r r3;rw[<- hw,<- ao (x:=N+1) (by omega) (by omega)]at Z;exact⟨_,rfl,⟨_,mp g0,U λu g=>⟨_,rfl,u,_,cY g,z',hz,_,_,v',Z,J,X g,O.trans g⟩⟩,U λu g=>⟨_,rfl,_,mp g,u,_,cY g,z',hz,_,_,v',Z,J,X g,O.trans g⟩⟩
 .have r:N≠0:=by simpa using r
  have r2: ¬L<lv tr a:=by simpa using r2
  have r3:lv tr a≠L:=by simpa using r3
  exact⟨z',hz,_,_,v',T'.2.2 r (by omega),J,ay,aa.trans ac⟩
end
section
variable{W0 w w':World}{p q:sn}{n c m d ns b1 b2 nb:Nat}{tr:List As}{l:List Int}{s:Int->Bool}
theorem NJ{V:List Int}(Q:V.Nodup)(hb:∀x∈V,mA tr x):V.length<=tr.length:=by
 have inj:(V.map λx=>dD tr (am x)).Nodup:=by
  refine X2.2 (XX (λ{x y} I J O e=>?_) Q);exact O ((hb x I).same (hb y J) e)
 have:=WR inj (l₂:=List.range tr.length) λy J=>by
  obtain⟨x,I,rfl⟩:=LV.1 J;exact Wv.2 (hb x I).lt
 simpa using this
theorem IU(ok:fF tr)(hl:tr.length<=4096){x:Int}(I:mA tr x):0<=lv tr x/\lv tr x<=4096:=by
 have h1:=ok.nn I.lt;have J:=ok.le I.lt;have O:=I.lt;unfold lv;omega
theorem SD(h:BC W0 w ns p n c tr b1 b2){n1:Nat}(hc:bO w n1 #[.pointer (some ⟨ns,0,none⟩)]){x y:Int}(J:mA tr x)(O:mA tr y):
 Calls prog 212 #[.i x,.i y,.pointer (some ⟨n1,0,none⟩)] w λe w'=>e=.returned (.i (pO tr x y))/\xZ w w':=by
 refine cF.aj ?_;have Z:xZ w w.drew:=(xZ.refl w).drew;have cl:∀ {u:World},xZ w u->u.cell? (qw n1)=some (.pointer (some ⟨ns,0,none⟩)):=λg=>aP (hc.grow g.grow) rfl;have I:∀ {u:World} {z:Int} {Q:Ending->World->Prop},mA tr z->xZ w u->(∀v,xZ w v->Q (.returned (.i (lv tr z))) v)->Calls prog 202 #[.pointer (some ⟨ns,0,none⟩),.i z] u Q:=by
  intro u z Q hz g hQ;refine(FH (h.grow g.grow) hz).mono ?_;rintro e v⟨rfl,rfl⟩;exact hQ _ g.drew
 have AM:∀ {u:World} {z:Int} {Q:Ending->World->Prop},mA tr z->xZ w u->(∀v,xZ w v->Q (.returned (.i (am z))) v)->Calls prog 204 #[.i z] u Q:=by
  intro u z Q hz g hQ;have hb:=dj hz.ug;refine(xU (by omega) (by omega) u).mono ?_;rintro e v⟨rfl,rfl⟩;exact hQ _ g
 have bx:=IU h.ok h.hl J;have bY:=IU h.ok h.hl O;have ax:=Gr (x:=x) J.ug;have ay:=Gr (x:=y) O.ug;have F1:(lv tr x !=lv tr y)=true->IntKind.i64.wrap (lv tr y - lv tr x)=pO tr x y:=λr=>by
  have r:lv tr x≠lv tr y:=by simpa using r
  rw[ao (by omega) (by omega)];unfold pO;rw[v8 r]
 have F2:(lv tr x !=lv tr y)=false->IntKind.i64.wrap (am x - am y)=pO tr x y:=λr=>by
  have r:lv tr x=lv tr y:=by simpa using r
  rw[ao (by omega) (by omega)];unfold pO;rw[r8 (by omega)]
 refine⟨_,cl Z,I J Z λu1 Y=>⟨_,rfl,_,cl Y,I O Y λu2 g2=>⟨_,rfl,?_⟩⟩,_,cl Z,I J Z λu1 Y=>⟨_,rfl,I O Y λu2 g2=>⟨_,rfl,?_⟩⟩⟩;all_goals
  have X:=g2.drew;exact ah (λr=>⟨_,cl X,I O X λu3 U=>⟨_,rfl,_,cl U,I J U λu4 V=>⟨_,rfl,by rw[F1 r],V⟩⟩,_,cl X,I O X λu3 U=>⟨_,rfl,I J U λu4 V=>⟨_,rfl,by rw[F1 r],V⟩⟩⟩)
   (λr=>AM J g2 λu3 U=>⟨_,rfl,AM O U λu4 V=>⟨_,rfl,by rw[F2 r],V⟩⟩)
theorem Qk:f_ prog 212=true:=by kernel_rfl
theorem Hg(h:BC W0 w ns p n c tr b1 b2)(M:MS prog aB bA w b2 nb s){k:List Int}(hs:∀x,s x=true↔x∈k)(hd:k.Nodup)(hb:∀x∈k,mA tr x):
 Calls prog 199 #[.pointer (some ⟨ns,0,none⟩)] w λe w'=>∃ (q:sn) (d:Nat),e=.returned (.slice q (lH tr k).length d)/\d_ aB w' q d (lH tr k)/\ak w w':=by
 refine eD.aj ?_;intro n1 w2 h2;have e1:=h2.num;have G2:=h2.mod;obtain⟨w6,eY,hr,R,Z⟩:=(M.grow G2).range lU;have H1:bO w6 n1 #[.pointer (some ⟨ns,0,none⟩)]:=h2.has.grow Z;have cT:=G2.size;have b8:=R.lt;have S6:=h.grow (G2.trans Z);have bx:=h.h.lt;have b7:=h.M.lt;have cp:=h.G.size;have b':=h2.has.lt;refine⟨_,aP h2.has rfl,_,rfl,_,ae (h.h.grow G2) rfl,w6,_,hr,?_⟩;refine⟨λpm nm cm u z=>∃ (V:List Int) (lf:Int->Bool),xg s lf V/\nm=V.length/\(∀x,lf x=true->s x=true)/\MR prog aB bA u b2 w2.heap.size nb s lf z/\d_ aB u pm cm V/\(∀b,aF pm=some b->w6.heap.size<=b)/\aE (·=w2.heap.size) w6 u,
  ⟨_,[],s,xg.nil,rfl,λx=>id,R,Ow.nil _ _ _,λb hb=>by simp[aF]at hb,aE.refl w6⟩,?_⟩
 rintro pm nm cm U z _⟨V,lf,v,rfl,aw,bb,O,fr,I⟩;have hV:∀x∈V,mA tr x:=λx hx=>hb x ((hs x).1 ((v.2 x).1 hx).1);have b_:=NJ v.1 hV;have hl:=h.hl;rcases bb.next lU 0 with⟨h0,hl,J⟩| ⟨a,va,av,z',ha,ce,J,an,bf,hz,a8⟩
 .have ay:BC W0 U ns p n c tr b1 b2:=S6.keep I (λb (e:b=_)=>by omega) (λ(e:ns=_)=>by omega) (λ(e:b1=_)=>by omega);have az:bO U n1 #[.pointer (some ⟨ns,0,none⟩)]:=H1.keep I λ(e:n1=_)=>by omega
  have X:Cx U pm V.length V 212 #[.pointer (some ⟨n1,0,none⟩)] (pO tr):=by
   refine⟨rfl,by omega,Qk,λx hx y hy w' m'=>?_,z_ tr⟩;have:(#[]++ #[Value.int .i64 x,.i y]++ #[.pointer (some ⟨n1,0,none⟩)]:Array Value)= #[.i x,.i y,.pointer (some ⟨n1,0,none⟩)]:=by simp
   rw[this];have s6:=Z.size;refine SD (ay.keep m' (λb e=>?_) (λe=>?_) (λe=>?_)) (az.keep m' λe=>?_) (hV x hx) (hV y hy);all_goals
    have:=fr _ e;omega
  refine .inl ⟨U,J,(D0 X O).mono ?_⟩;rintro e bu⟨rfl,l1,o1,m1,p1,s1⟩;have pk:=v.done hl hs hd;have eq:l1=lH tr k:=JO h.ok hb (λx=> (p1.mem_iff.trans pk.mem_iff)) (p1.nodup_iff.2 v.1) s1;subst eq;refine⟨rfl,_,_,by rw[p1.length_eq],o1,?_⟩;have s6:=Z.size;refine(((G2.trans Z).then I λx hx (e:x=_)=>?_).then m1 λx hx e=>?_)
  .omega
  .have:=fr x e;omega
 refine .inr ⟨av,_,_,J,av,_,_,an,λn21 aT Q=>?_⟩;have bg:=aw a ha;have Y:=a8.grow Q.mod;have a_:d_ aB aT pm cm V:=O.keep Y λb e e2=>by
  have:=fr b e;omega
 have s6:=Z.size;have b9:=(I.trans Y).size;refine a_.jS cR a Q.has rfl rfl eI (by omega) λcb p' c' o' m' a' bn=>?_;refine⟨z',hz,V++ [a],_,v.Vb ha bg,by simp,λx e=>aw x (by simp at e;exact e.1),(bf.grow Q.mod).keep m' (λe=>?_) (λe=>?_),o',λb hb=>?_,(I.trans Y).then m' λx hx e=>?_⟩
 .have:=fr _ e;have:=M.lt;omega
 .have:=fr _ e;omega
 .rcases a' with rfl|rfl
  .exact fr b hb
  .have:=aO hb;have:=Q.num;have:=Q.size;omega
 .have:=fr x e;omega
def pS(tr:List As)(k:List Int):Int:=k.foldl (λm x=>if lv tr x>m then lv tr x else m) 0
theorem nI(tr:List As):∀ (k:List Int) (m:Int),(m<=k.foldl (λm x=>if lv tr x>m then lv tr x else m) m)/\(∀x∈k,lv tr x<=k.foldl (λm x=>if lv tr x>m then lv tr x else m) m)/\(k.foldl (λm x=>if lv tr x>m then lv tr x else m) m=m\/∃x∈k,lv tr x=k.foldl (λm x=>if lv tr x>m then lv tr x else m) m)
 | [],m=>⟨Ww _,by simp,.inl rfl⟩
 |y::t,m=>by
  rw[XR];generalize Q:(if lv tr y>m then lv tr y else m)=X;have hm:m<=X/\lv tr y<=X/\(X=m\/X=lv tr y):=by
   rw[<- Q];split<;>omega
  obtain⟨h1,J,O⟩:=nI tr t X;refine⟨by omega,λx I=>?_,?_⟩
  .rcases V'.1 I with e|e
   .subst e;omega
   .exact J x e
  .rcases O with e| ⟨x,I,e⟩
   .rcases hm.2.2 with h|h
    .exact .inl (e.trans h)
    .exact .inr ⟨y,by simp,(e.trans h).symm⟩
   .exact .inr ⟨x,xk _ I,e⟩
theorem AU(tr:List As)(k:List Int):0<=pS tr k:=(nI tr k 0).1
theorem xC{k:List Int}{x:Int}(h:x∈k):lv tr x<=pS tr k:=(nI tr k 0).2.1 x h
theorem Oq{k:List Int}{L:Int}(Q:0<=L)(h1:∀x∈k,lv tr x<=L)(I:L=0\/∃x∈k,lv tr x=L):pS tr k=L:=by
 have a:=AU tr k;have b:=(nI tr k 0).2.2;rcases I with I| ⟨x,J,e⟩
 .rcases b with b| ⟨x,J,e⟩
  .exact b.trans I.symm
  .have:=h1 x J;unfold pS at*
   omega
 .have:=xC (tr:=tr) J;rcases b with b| ⟨y,O,U⟩
  .unfold pS at*;omega
  .have:=h1 y O;unfold pS at*
   omega
def y8(tr:List As)(l:List Int):List Int:=lH tr (lrn tr (pS tr (bC l)) tr.length (bC l))
theorem TR(ok:fF tr)(hb:∀x∈l,mA tr x):In tr (pS tr (bC l)) (bC l) tr.length:=by
 have I:∀x∈bC l,mA tr x:=λx J=>hb x (((c_ l).mem x).1 J);refine⟨I,λx J=>xC J,λx J _=> (I x J).lt,?_,AU _ _,(c_ l).st⟩;cases hn:bC l with
 |nil=>exact .inl rfl
 |cons y t=>
  refine .inr (kg.2 ?_);rw[<- hn];rcases(nI tr (bC l) 0).2.2 with e| ⟨x,J,e⟩
  .have O:y∈bC l:=by rw[hn];simp
   have h1:=xC (tr:=tr) O;have Q:=ok.nn (I y O).lt;refine⟨y,O,?_⟩;have:lv tr y=(aZ tr (dD tr (am y))).bM:=rfl;unfold pS at*
   omega
  .exact ⟨x,J,e⟩
end
section
variable{W0 w w':World}{p q:sn}{n c m d ns b1 b2 nb:Nat}{tr:List As}{l:List Int}{s:Int->Bool}
theorem TV.V8(h:TV w p tr)(g:ak w w')(hn:n=tr.length){X:Int}(i:Nat)(e:X=i)(hi:i<tr.length){K:Addr->Prop}
 (J:∀a (s:Sl),aM w' a 0 [.i (aZ tr i).lit,.i (aZ tr i).bM,.slice s.p s.n s.c]->s.n=(aZ tr i).rs.length->s.n<=maxLen->Vw sT w s.p (aZ tr i).rs->K a):aV p n X 3 K:=by
 subst e hn;obtain⟨a,s,rfl,O,h1,I,Q⟩:=h i hi;exact⟨a,rfl,by omega,by omega,J _ s (by rw[tn];exact aM.keep g id O) h1 I Q⟩
theorem Tz{k:List Int}{L J N P:Int}{X:Nat}(T:xe tr k L N P)(I:In tr J k X):N=gM tr k J/\(0<N->∃x∈k,lv tr x=J/\(dD tr (am x):Int)=P/\∀y∈k,lv tr y=J->(dD tr (am y):Int)<=P):=by
 rcases T with⟨rfl,h1,Q,U⟩| ⟨h1,Q,U,⟨x,O,hl,hp⟩,h5⟩
 .exact ⟨Q,λe=>by omega⟩
 .have e:L=J:=by
   have:=I.le x O;rcases I.qd with e|e
   .rw [e]at O;simp at O
   .obtain ⟨y,V,Y⟩:=kg.1 e;have:=h1 y V;omega
  subst e;exact⟨Q,λ_=>⟨x,O,hl,hp,h5⟩⟩
theorem R_{k:List Int}{L N P:Int}(ok:fF tr)(hb:∀x∈k,mA tr x)(T:xe tr k L N P):pS tr k=L:=by
 rcases T with⟨rfl,h1,J,O⟩| ⟨h1,J,O,⟨x,I,hl,hp⟩,h5⟩
 .subst h1;rfl
 .refine Oq ?_ h1 (.inr ⟨x,I,hl⟩);have:=ok.nn (hb x I).lt;rw[<- hl];exact this
theorem JZ(h:TV w p tr)(hn:n=tr.length)(hc:Vw sT w q l)(hk:m=l.length)(hx:m<=maxLen):
 Calls prog 162 #[.slice p n c,.slice q m d] w λe w'=>∃ (q2:sn) (d2:Nat) (o:List Int),o=(if uz tr l then y8 tr l else [])/\e=.returned (.tuple #[.slice q2 o.length d2,.i (if uz tr l then 0 else 1)])/\d_ aB w' q2 d2 o/\ak w w':=by
 refine mR.aj ?_;refine(BY h hn hc hk hx).mono ?_;rintro e w1⟨rfl,g1⟩;refine⟨_,rfl,ah (λr=>?_) (λr=>?_)⟩
 .have r:uz tr l=false:=by
   cases e:uz tr l with
   |false=>rfl
   |true=>rw[e]at r;simp at r
  rw[r];exact⟨none,0,[],rfl,rfl,Ow.nil _ _ _,g1⟩
 have r:uz tr l=true:=by
  cases e:uz tr l with
  |true=>rfl
  |false=>rw[e]at r;simp at r
 rw[r];have r':=r;unfold uz at r';simp only[ts]at r';obtain⟨⟨r1,r2⟩,r3⟩:=r';obtain⟨ok,hl⟩:=q6 r1;have hB:=nH.1 r3;obtain⟨J,hlen⟩:=cX r2;refine(qM (h.grow g1) hn ok hl).mono ?_;rintro e w3⟨b,rfl,M3,g3,fb⟩;refine⟨_,rfl,λn5 w6 h6 n7 w8 h8=>?_⟩;have e5:=h6.num;have e7:=h8.num;have s1:=g1.size;have s3:=g3.size;have s6:=h6.size;have lb:=M3.lt;have S8:BC w w8 n7 p n c tr b n5:=⟨h,hn,ok,hl,((g1.trans g3).trans h6.mod).trans h8.mod,h8.has,(M3.grow h6.mod).grow h8.mod,by omega,by omega,by omega⟩
 have M8:MS prog aB bA w8 n5 0 λ_=>false:=(MS.new h6).grow h8.mod;refine(mf S8 M8 hc hk (by omega) J 0).mono ?_;rintro e w9⟨rfl,S9,c0,s9,dB,M9,b'⟩;have U:∀x,s9 x=true↔x∈bC l:=λx=>by
  rw[b' x,(c_ l).mem x];constructor
  .intro e;simp at e;exact e.1
  .intro e;have:=dj (J x e);simp[e,this.1]
 have bn:∀x∈bC l,mA tr x:=λx hx=>hB x (((c_ l).mem x).1 hx);refine⟨rfl,(NY S9 M9 U (fO (c_ l).st) bn).mono ?_⟩;rintro e ec⟨L,N,P,rfl,T,bi⟩;have hL:=R_ ok bn T;refine⟨_,_,_,rfl,?_⟩;refine⟨λN P u z=>∃ (k:List Int) (nb:Nat) (s:Int->Bool) (L':Int),xe tr k L' N P/\In tr L k z/\z<=tr.length/\lrn tr L tr.length (bC l)=lrn tr L z k/\BC w u n7 p n c tr b n5/\MS prog aB bA u n5 nb s/\(∀x,s x=true↔x∈k)/\nb<=4096+256* (tr.length - z),
  ⟨tr.length,bC l,c0,s9,L,T,hL▸TR ok hB,vy _,rfl,S9.grow bi,M9.grow bi,U,by omega⟩,?_⟩
 rintro N1 P1 ef z _⟨k,nb,s,L',T1,I1,hz,bb,S,M,hs,el⟩;obtain⟨hN,hP⟩:=Tz T1 I1;refine ah (λr=>?a1) (λr=>ah (λr1=>ah (λr2=>?a2) (λr2=>?b1)) (λr1=>?b2))
 case' a1=>have Q: ¬(gM tr k L=0\/gM tr k L=1/\0<L):=by simp at r;omega
 case' a2=>have Q: ¬(gM tr k L=0\/gM tr k L=1/\0<L):=by simp at r1 r2;omega
 case' b1=>have bf:gM tr k L=0\/gM tr k L=1/\0<L:=by have:=AU tr (bC l);simp at r1 r2;omega
 case' b2=>have bf:gM tr k L=0\/gM tr k L=1/\0<L:=by simp at r r1;omega
 case b1|b2=>
  refine(Hg S M hs (fO I1.nd) I1.br).mono ?_;rintro e ep⟨q2,d2,rfl,O,cg⟩;have:y8 tr l=lH tr k:=by
   unfold y8;rw[hL,bb,A_ bf]
  refine⟨_,_,_,rfl,q2,d2,_,rfl,?_,?_,S.G.trans cg⟩
  .rw [v8 rfl,v8 rfl,this]
  .rw [v8 rfl,this];exact O
 case a1|a2=>
  obtain⟨x,hx,b9,cp,av⟩:=hP (by omega);clear hP;have aT:=I1.br x hx;generalize Y:dD tr (am x)=I at*
  have hp:I<tr.length:=Y▸aT.lt;have X:x= -(aZ tr I).lit:=by have:=aT.eq;rw[Y]at this;omega
  have ar:(aZ tr I).bM=L:=by rw[<- b9];unfold lv;rw[Y]
  obtain⟨I2,ap,b6,b7⟩:=I1.step ok Q hp ar (X▸hx) λy hy cT=>by have:=av y hy cT;omega
  obtain⟨rl,rm,rb⟩:=ok.fH hp b6;have Z:=ok.ug I hp;have eg:=dj Z;have b5:∀y∈(aZ tr I).rs,sg y=true:=λy hy=>by
   by_cases e:y=(aZ tr I).lit
   .rw [e];exact Z
   .exact (rb y hy e).1.ug
  refine TV.V8 h S.G hn I cp.symm hp λa sl C e1 e2 v=>⟨_,_,_,_,_,C,λn24 d8 a7=>Ix a7 λcb H b4=>?_⟩
  have en:=a7.num;have V:=b4.trans (aE.refl cb).drew;have a8:=S.grow V;have ce:=M.grow V;have lm:=M.lt;obtain⟨a6,hr,b_,an⟩:=ce.del lU (a:= -(aZ tr I).lit) (Ir (QO Z)) 0;have b8:=a8.put an;have aw:bO a6 n24 _:=H.drew.keep an λ(e:n24=_)=>by omega
  have ew:IntKind.i64.wrap (0 - (aZ tr I).lit)= -(aZ tr I).lit:=by rw[ao (by omega) (by omega),Int.zero_sub]
  refine⟨_,rfl,_,ae a8.h rfl,_,ae H.drew rfl,a6,by rw[ew];exact hr,_,_,_,ae aw rfl,_,ae aw rfl,(mf b8 b_ v e1 (by omega) b5 _).mono ?_⟩;rintro e d7⟨rfl,bk,c1,s',dh,ay,cm⟩;have ax:∀y,s' y=true↔y∈rX tr I k:=λy=>by
   rw[cm y,kM,W7,x7];refine or_congr ?_ Yb;by_cases e:y= -(aZ tr I).lit
   .rw [v8 e];simp[e]
   .rw [r8 e,hs y];exact⟨λa=>⟨a,e⟩,λa=>a.1⟩
  refine⟨rfl,(NY bk ay ax (fO I2.nd) I2.br).mono ?_⟩;rintro e ej⟨L2,N2,P2,rfl,T2,a_⟩;exact⟨_,_,_,rfl,I,b7,_,c1,s',L2,T2,I2,by omega,bb.trans ap,bk.grow a_,ay.grow a_,ax,by omega⟩
end
section
variable{W0 w w':World}{p q:sn}{n c m d ns b1 b2 nb:Nat}{tr:List As}{l:List Int}{s:Int->Bool}
theorem MP{k:List Int}{t:Nat}(h:t<k.length):pS tr (k.take (t+1))=if lv tr (k.getD t 0)>pS tr (k.take t) then lv tr (k.getD t 0) else pS tr (k.take t):=by
 unfold pS;have:k[t]? =some (k.getD t 0):=by simp[List.getD,h]
 rw[Wo,this,Y2];rfl
theorem tZ{k:List Int}(h:rC tr k):k.Nodup:=h.imp λ{a b} I e=>by subst e;exact rY tr a I
theorem pB{f:Int->Bool}{k:List Int}{t:Nat}(h:t<k.length):(k.take (t+1)).filter f=(k.take t).filter f++ (if f (k.getD t 0) then [k.getD t 0] else []):=by
 have:k[t]? =some (k.getD t 0):=by simp[List.getD,h]
 rw[Wo,this,Yi];generalize k.getD t 0=x;cases hf:f x<;>simp[hf]
end
end Go.Proofs.YtbdghpjnifjlmaaGreat.W.Le
namespace Go.Fw
open Go Go.RowKit Go.Maps
variable{P:Program}{t k e:TypeId}{w w':World}{b n:Nat}{s h:Int->Bool}
def MK(P:Program)(k e:TypeId)(w:World)(b n:Nat)(s h:Int->Bool):Prop:=
 ∃D:DataW Unit,w.ownsMap P k (plainElem P e) b n D/\(∀a:Int,D.atKey (.i a) (.lit (.bool false))=.lit (.bool (s a)))/\∀a:Int,Maps.has D (.i a)=h a
theorem MK.mb(m:MK P k e w b n s h):MB P k e w b n s:=by obtain⟨D,h1,I,_⟩:=m;exact⟨D,h1,I⟩
theorem MK.lt(m:MK P k e w b n s h):b<w.heap.size:=m.mb.lt
theorem MK.keep{S:Nat->Prop}(I:MK P k e w b n s h)(m:aE S w w')(hs: ¬S b):MK P k e w' b n s h:=by
 have hl:=I.lt;obtain⟨D,⟨J,clock,hb,h1⟩,O⟩:=I;exact⟨D,⟨J,clock,(m.block b hl hs).trans hb,h1⟩,O⟩
theorem MK.grow(I:MK P k e w b n s h)(m:ak w w'):MK P k e w' b n s h:=I.keep m id
theorem MK.new{b:Nat}(I:jz (.map #[] 0) w b w'):MK P k e w' b 0 (λ_=>false) λ_=>false:=by
 obtain⟨rfl,rfl⟩:=I;exact⟨.map [],World.ownsMap_made w P k _,λa=>rfl,λa=>rfl⟩
theorem MK.cY(hm:vt P t k e=true)(I:MK P k e w b n s h){a:Int}(ha:(Lit.int .i64 a).wf=true):(Instr.lookup t (.map (some b)) (.i a) true).run P w=.ok (.tuple #[.bool (s a),.bool (h a)]) w:=by
 obtain⟨ht,J,he,Q⟩:=jr hm;obtain⟨D,I,U,O⟩:=I;obtain⟨v,ps,hr,hv⟩:=I.look_ok (int_keyed J) ht (Q w) (plainElem_bool he false) (keyOf_int_mk J ha);rw[U a]at hv;have:v=.bool (s a):=by
  unfold plainElem at hv;rw[he]at hv;cases v<;>simp_all
 rw[hr,this,O a]
theorem MK.put(hm:vt P t k e=true)(O:MK P k e w b n s h)(hn:n<maxLen){a:Int}(ha:(Lit.int .i64 a).wf=true)(v:Bool):
 ∃w',(Instr.mapUpdate t (.map (some b)) (.i a) (.bool v)).run P w=.ok () w'/\MK P k e w' b (n+1) (λu=>if u=a then v else s u) (λu=>if u=a then true else h u)/\aE (·=b) w w':=by
 obtain⟨ht,Q,he,Y⟩:=jr hm;obtain⟨D,O,V,U⟩:=O;have I:=O.isMap;obtain⟨w',hr,X,J⟩:=O.update (int_keyed Q) ht hn (keyOf_int_mk Q ha) (plainElem_bool (H:=Unit) he v);refine⟨w',hr,⟨_,X,λu=>?_,λu=>?_⟩,⟨J.os,J.tape,J.output,J.size,λi hi hn=>J.block i hi λe=>hn (WS e)⟩⟩
 .by_cases hu:u=a
  .subst hu;exact(atKey_put_same I (show WideAt.IsKeyLit (.i u) from trivial) _ _).trans (by simp)
  .exact ((atKey_put_other (λe=>hu (by injection e)) _ _).trans (V u)).trans (by simp[hu])
 .by_cases hu:u=a
  .subst hu;exact(has_put_same I (show WideAt.IsKeyLit (.i u) from trivial) _).trans (by simp)
  .exact ((has_put_other (λe=>hu (by injection e)) _).trans (U u)).trans (by simp[hu])
end Go.Fw
namespace Go.Proofs.YtbdghpjnifjlmaaGreat.W.Le
open Go Go.Fw Go.RowKit Go.SoP Go.LiP Go.LeP
variable{W0 w w' W u:World}{p q:sn}{n c m d ns b1 b2 b3 nb:Nat}{tr:List As}{l ld:List Int}{s h:Int->Bool}
def Ip(tr:List As)(ld:List Int)(lit x:Int):Bool:=x==lit||decide (lv tr x<=0)||decide (x∈ld)||pV tr ld x
theorem MD(ok:fF tr){x:Int}(I:dD tr (am x)<tr.length):pV tr ld x=(!(aZ tr (dD tr (am x))).rs.isEmpty && (aZ tr (dD tr (am x))).rs.all (Ip tr ld (aZ tr (dD tr (am x))).lit)):=IC ok I
def Ot(tr:List As)(h:Int->Bool):Nat:=(List.range tr.length).countP λi=>h (am (aZ tr i).lit)
theorem FG{L:List Nat}{f g:Nat->Bool}{i:Nat}(hi:i∈L)(O:f i=false)(h1:g i=true)(hm:∀j,f j=true->g j=true):L.countP f+1<=L.countP g:=by
 induction L with
 |nil=>simp at hi
 |cons a L ih=>
  rw[WX,WX];have J:L.countP f<=L.countP g:=YD λj _=>hm j;by_cases e:i=a
  .subst e;rw[O,h1];simp;omega
  .have:=ih ((V'.1 hi).resolve_left e);have Q:(if f a=true then 1 else 0)<=(if g a=true then 1 else 0):=by
    by_cases I:f a=true
    .rw [v8 I,v8 (hm a I)];exact vy _
    .rw [r8 I];omega
   omega
structure Kn(W0 w:World)(ns:Nat)(p:sn)(n c:Nat)(tr:List As)(b1 b2 b3:Nat)(ld:List Int)(h:Int->Bool):Prop where
 S:BC W0 w ns p n c tr b1 b2
 M:∃nb s,MS Tryz.prog aB bA w b2 nb s/\∀x,s x=decide (x∈ld)
 K:∃nk s,MK Tryz.prog aB bA w b3 nk s h/\nk<=Ot tr h/\∀x,mA tr x->h (am x)=true->s (am x)=pV tr ld x
 d1:b1≠b3
 d2:b2≠b3
 d3:ns≠b3
 f:W0.heap.size<=b3
theorem Kn.grow(k:Kn W0 w ns p n c tr b1 b2 b3 ld h)(m:ak w w'):Kn W0 w' ns p n c tr b1 b2 b3 ld h:=by
 obtain⟨S,⟨nb,s,M,hs⟩,⟨O,J,K,I,hi⟩,d1,d2,d3,f⟩:=k;exact⟨S.grow m,⟨nb,s,M.grow m,hs⟩,⟨O,J,K.grow m,I,hi⟩,d1,d2,d3,f⟩
theorem Kn.put(k:Kn W0 w ns p n c tr b1 b2 b3 ld h){x:Int}(I:mA tr x)(Q:h (am x)=false):
 ∃w',(Instr.mapUpdate rO (.map (some b3)) (.i (am x)) (.bool (pV tr ld x))).run Tryz.prog w=.ok () w'/\Kn W0 w' ns p n c tr b1 b2 b3 ld (λu=>if u=am x then true else h u)/\aE (·=b3) w w':=by
 obtain⟨S,⟨nb,s,M,hs⟩,⟨X,Z,K,hk,hi⟩,d1,d2,d3,f⟩:=k;have U:Ot tr h<=tr.length:=by
  have:Ot tr h<=(List.range tr.length).length:=Xm;simpa using this
 have hl:=S.hl;obtain⟨w',hr,Y,m'⟩:=K.put lU (by unfold maxLen;omega) (qy I.ug) (pV tr ld x);refine⟨w',hr,⟨S.keep m' (λb (e:b=b3)=>by omega) (λe=>d3 e) (λe=>d1 e),⟨nb,s,M.keep m' (λe=>d2 e),hs⟩,⟨X+1,_,Y,?_,λy O J=>?_⟩,d1,d2,d3,f⟩,m'⟩
 .have e0:am (aZ tr (dD tr (am x))).lit=am x:=rq I.lt;have:=FG (L:=List.range tr.length) (f:=λi=>h (am (aZ tr i).lit)) (g:=λi=>if am (aZ tr i).lit=am x then true else h (am (aZ tr i).lit)) (i:=dD tr (am x)) (Wv.2 I.lt) (by show h (am (aZ tr (dD tr (am x))).lit)=false;rw[e0];exact Q) (by rw[v8 e0]) λj V=>by
   show (if am (aZ tr j).lit=am x then true else h (am (aZ tr j).lit))=true;split
   .rfl
   .exact V
  have e1:Ot tr h=(List.range tr.length).countP λi=>h (am (aZ tr i).lit):=rfl;have e2:Ot tr (λu=>if u=am x then true else h u)=(List.range tr.length).countP λi=>if am (aZ tr i).lit=am x then true else h (am (aZ tr i).lit):=rfl
  omega
 .by_cases e:am y=am x
  .rw [v8 e,O.am I e]
  .rw [r8 e]at J ⊢;exact hi y O J
structure Zs(W u:World)(o:Option Nat):Prop where
 g:ak W u
 z:∀nc,o=some nc->bO u nc #[.i 0,.i 0,.slice none 0 0]/\W.heap.size<=nc
theorem Zs.grow{o:Option Nat}(z:Zs W u o){v:World}(g:ak u v):Zs W v o:=⟨z.g.trans g,λnc e=>⟨(z.z nc e).1.grow g,(z.z nc e).2⟩⟩
theorem Zs.new(z:Zs W u none){nc:Nat}{v:World}(hn:jz (.cells #[.i 0,.i 0,.slice none 0 0] cD) u nc v):Zs W v (some nc):=by
 refine⟨z.g.trans hn.mod,λk e=>?_⟩;obtain rfl:nc=k:=WS e;have:=z.g.size;have:=hn.num;exact⟨hn.has,by omega⟩
theorem Zs.store{nc:Nat}(z:Zs W u (some nc)){a b:Int}{J:sn}{I sc:Nat}{K:World->Prop}(O:∀v,bO v nc #[.i a,.i b,.slice J I sc]->ak W v->W.heap.size<=nc->K v):
 ∃v,bD (qw nc) 0 [.i a,.i b,.slice J I sc] u v/\K v:=by
 obtain⟨H,hf⟩:=z.z nc rfl;exact aX H rfl rfl λv Q m=>O v Q (aE.cE z.g m hf) hf
theorem Nj:∀ (n0:Nat) {w:World} {x:Int} {h:Int->Bool},Kn W0 w ns p n c tr b1 b2 b3 ld h->mA tr x->dD tr (am x)=n0->
 Calls Tryz.prog 203 #[.pointer (some ⟨ns,0,none⟩),.i x,.map (some b3)] w λe w'=>e=.returned (.bool (pV tr ld x))/\∃h',Kn W0 w' ns p n c tr b1 b2 b3 ld h'/\(∀v,h v=true->h' v=true)/\(∀v,h' v=true->h v=true\/dD tr v<=n0)/\aE (·=b3) w w':=by
 intro n0
 induction n0 using Nat.strongRecOn with
 |_ n0 ih=>
 intro w x h k hB cb;subst cb;refine ie.aj ?_;have du:=dj hB.ug;refine(dy (by omega) (by omega) w).mono ?_;rintro e w1⟨rfl,g1⟩;have Z:=k.grow g1;obtain⟨nk,s,K,hk,hi⟩:=Z.K;refine⟨_,rfl,w1,_,_,K.cY lU (qy hB.ug),ah (λr=>?_) (λrK=>?_)⟩
 .refine ⟨?_,h,Z,λv hv=>hv,λv hv=> .inl hv,g1.mono λ_ _ e=>e.elim⟩;rw[hi x hB r]
 have U:=Z.grow (aE.refl w1).drew;have G2:ak w w1.drew:=g1.trans (aE.refl w1).drew;clear K hk hi Z;generalize w1.drew=W at U G2;have hl:=U.S.hl;have ok:=U.S.ok;have Z0:Zs W W none:=⟨aE.refl _,λnc e=>by simp at e⟩
 have a8:∀ {u:World} {o:Option Nat} {Q:Ending->World->Prop},Zs W u o->(∀v,Zs W v o->Q (.returned (.i (am x))) v)->Calls Tryz.prog 204 #[.i x] u Q:=λ{u o Q} z hQ=>by
  refine(dy (by omega) (by omega) u).mono ?_;rintro e v⟨rfl,g⟩;exact hQ v (z.grow g)
 have cY:∀ {u:World} {o:Option Nat},Zs W u o->(Instr.lookup dW (.map (some b1)) (.i (am x)) false).run Tryz.prog u=.ok (.i (yD tr (am x))) u:=λz=> (U.S.M.grow z.g).cY kR (qy hB.ug);obtain⟨aT,O,eT,cT,e1,e2,vT⟩:=U.S.tv _ hB.lt;have uO:=MD (ld:=ld) ok hB.lt;have az:=λhr=>ok.fH hB.lt hr;have ix:∀ {P:Addr->Prop},(∀a,(∀ {u:World} {o:Option Nat},Zs W u o->aM u a 0 [.i (aZ tr (dD tr (am x))).lit,.i (aZ tr (dD tr (am x))).bM,.slice O.p O.n O.c])->P a)->aV p n (IntKind.i64.wrap (yD tr (am x) - 1)) 3 P:=λhP=>by
  rw[oe hl hB.lt];have hn:=U.S.hn;have b_:=hB.lt;refine⟨aT,eT,by omega,by omega,hP _ λz=>?_⟩;rw[tn];exact aM.keep (U.S.G.trans z.g) id cT
 generalize c4:(aZ tr (dD tr (am x))).rs=rs at*
 generalize b_:(aZ tr (dD tr (am x))).lit=J at*
 generalize c0:(aZ tr (dD tr (am x))).bM=y0 at*
 refine⟨λa v=>∃nc,a=⟨nc,0,none⟩/\bO v nc #[.i J,.i y0,.slice O.p O.n O.c]/\ak W v/\W.heap.size<=nc,⟨ak W,aE.refl _,_,rfl,_,_,_,λu V=>ae (U.S.h.grow V) rfl,_,rfl,_,λu V=>ae (U.S.h.grow V) rfl,?_⟩,?_⟩
 .have zn:∀ {u:World},ak W u->Zs W u none:=λV=>⟨V,λnc e=>by simp at e⟩
  have st:∀ {u:World} {nc:Nat},Zs W u (some nc)->∃v,bD (qw nc) 0 [.i J,.i y0,.slice O.p O.n O.c] u v/\∃av,(qw nc)=⟨av,0,none⟩/\bO v av #[.i J,.i y0,.slice O.p O.n O.c]/\ak W v/\W.heap.size<=av:=λz=>z.store λv H g hf=>⟨_,rfl,H,g,hf⟩
  refine⟨a8 Z0 λv z=>⟨_,rfl,z.g,⟨v,_,cY z,z.g,ix λa ca=>⟨_,_,_,_,_,λu V=>ca (zn V),λnc v2 hn=>⟨(z.new hn).g,st (z.new hn)⟩⟩⟩,λnc v2 hn=>⟨(z.new hn).g,v2,_,cY (z.new hn),(z.new hn).g,ix λa ca=>⟨_,_,_,_,_,λu V=>ca (zn V),st (z.new hn)⟩⟩⟩,λnc v2 hn=>⟨(Z0.new hn).g,a8 (Z0.new hn) λv z=>⟨_,rfl,z.g,v,_,cY z,z.g,ix λa ca=>⟨_,_,_,_,_,λu V=>ca (zn V),st z⟩⟩⟩⟩
 rintro c1 v _⟨nc,rfl,H,G,hf⟩;obtain⟨nk,s,K,_,_⟩:=U.K;have lk:=K.lt;refine⟨_,_,_,ae H rfl,_,_,_,ae H rfl,?_⟩;refine⟨λis I u z=>∃ (t:Nat) (h1:Int->Bool),I=t/\t<=rs.length/\z=rs.length - t/\is=(!rs.isEmpty && (rs.take t).all (Ip tr ld J))/\Kn W0 u ns p n c tr b1 b2 b3 ld h1/\(∀v,h v=true->h1 v=true)/\(∀v,h1 v=true->h v=true\/dD tr v<dD tr (am x))/\bO u nc #[.i J,.i y0,.slice O.p O.n O.c]/\aE (·=b3) w u,
  ⟨_,0,h,rfl,xc _,rfl,?_,U.grow G,λv hv=>hv,λv hv=> .inl hv,H,(G2.trans G).mono λ_ _ e=>e.elim⟩,?_⟩
 .rw [e1];cases rs<;>simp
 clear H G K;rintro is I a6 z _⟨t,h1,rfl,ht,rfl,rfl,Z,ag,Y,H,mm⟩;refine ah (λr=>?_) (λr=>?_)
 .have r:t<rs.length:=by simp at r;omega
  have bg:rs≠[]:=λe=>by rw[e]at r;simp at r
  obtain⟨rl,rm,rb⟩:=az bg;have cg:rs.isEmpty=false:=Zq.2 bg;rw[cg];have et:(rs.take (t+1)).all (Ip tr ld J)=((rs.take t).all (Ip tr ld J) && Ip tr ld J (rs.getD t 0)):=by
   have:rs[t]? =some (rs.getD t 0):=by simp[List.getD,r]
   rw[Wo,this,Yz];simp
  refine(vT.grow Z.S.G).ix 0 (by omega) e1 (by omega) λa e=>⟨_,e,?_⟩
  rw[tn];refine⟨λv u=>u=a6/\v=((rs.take t).all (Ip tr ld J) && (rs.getD t 0 !=J)),?_,?_⟩
  .refine ah (λr2=>⟨_,ae H rfl,rfl,?_⟩) (λr2=>⟨rfl,?_⟩)
   .have r2:(rs.take t).all (Ip tr ld J)=true:=by simpa using r2
    rw[r2];rfl
   .have r2:(rs.take t).all (Ip tr ld J)=false:=by simpa using r2
    rw[r2];rfl
  rintro dd b9 _⟨rfl,rfl⟩;refine ah (λr3=>?_) (λr3=>⟨_,?_,t+1,h1,wN,by omega,rfl,?_,Z,ag,Y,H,mm⟩)
  .rw [ts]at r3;obtain⟨r2,r3⟩:=r3;rw[r2]at et;have aw:∀ {u:World},ak b9 u->Ip tr ld J (rs.getD t 0)=true->∃a_,a_<rs.length - t/\∃ (t2:Nat) (h1:Int->Bool),IntKind.i64.wrap ((t:Int)+1)=t2/\t2<=rs.length/\a_=rs.length - t2/\true=(!false && (rs.take t2).all (Ip tr ld J))/\Kn W0 u ns p n c tr b1 b2 b3 ld h1/\(∀v,h v=true->h1 v=true)/\(∀v,h1 v=true->h v=true\/dD tr v<dD tr (am x))/\bO u nc #[.i J,.i y0,.slice O.p O.n O.c]/\aE (·=b3) w u:=λg hp=>
    ⟨_,by omega,t+1,h1,wN,by omega,rfl,by rw[et,hp];rfl,Z.grow g,ag,Y,H.grow g,mm.grow g⟩
   have r3:rs.getD t 0≠J:=by simpa using r3
   obtain⟨ap,a7⟩:=rb _ (cw r) r3;have dp:=IU ok hl ap;refine(AZ Z.S ap).mono ?_;rintro e co⟨rfl,X⟩;refine⟨_,rfl,ah (λr4=>aw X (by unfold Ip;rw[I4 (show lv tr (rs.getD t 0)<=0 by have:=beq_iff_eq.1 r4;omega)];simp)) (λr4=>?_)⟩;have ar:=Z.grow X;obtain⟨nb,s2,M2,b7⟩:=ar.M;have a':=M2.cY lU (Ir ap.ug);rw[b7]at a';refine⟨_,rfl,_,ae ar.S.h rfl,co,_,a',ah (λr5=>aw X (by unfold Ip;rw[r5];simp)) (λr5=>?_)⟩;refine(ih _ a7 ar ap rfl).mono ?_;rintro e d8⟨rfl,h2,bx,ce,cr,ax⟩;have d7:=G2.size;refine⟨_,rfl,_,?_,t+1,h2,wN,by omega,rfl,?_,bx,λv hv=>ce v (ag v hv),λv hv=>?_,(H.grow X).keep ax λ(e:nc=b3)=>by omega,(mm.grow X).trans ax⟩
   .omega
   .rw [et];unfold Ip;rw[show (rs.getD t 0==J)=false by simpa using r3,x9 (show ¬lv tr (rs.getD t 0)<=0 by have:=beq_eq_false_iff_ne.1 r4;omega),r5];simp
   .rcases cr v hv with e|e
    .exact Y v e
    .exact .inr (by omega)
  .omega
  .rw [et];cases e:(rs.take t).all (Ip tr ld J) with
   |false=>rfl
   |true=>
    rw[e]at r3;have r4:rs.getD t 0=J:=by simpa using r3
    rw[r4];unfold Ip;simp
 .have r:t=rs.length:=by simp at r;omega
  subst r;rw[L0,<- uO];refine(dy (by omega) (by omega) a6).mono ?_;rintro e dB⟨rfl,bf⟩;have h0:h1 (am x)=false:=by
   cases e:h1 (am x) with
   |false=>rfl
   |true=>
    rcases Y _ e with e|e
    .rw [rK]at e;simp at e
    .omega
  obtain⟨b5,hr,b6,bu⟩:=(Z.grow bf).put hB h0;refine⟨_,rfl,b5,hr,rfl,_,b6,λv hv=>?_,λv hv=>?_,(mm.grow bf).trans bu⟩
  .show (if v=am x then true else h1 v)=true;split
   .rfl
   .exact ag v hv
  .by_cases e:v=am x
   .right;rw[e];exact vy _
   .have hv:(if v=am x then true else h1 v)=true:=hv;rw[r8 e]at hv;rcases Y v hv with e|e
    .exact .inl e
    .right;omega
