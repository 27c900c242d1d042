/- Layer 1: clauses in order, and what is resolved. -/
import Derived.Test.YtenmibfmhccmiaaGreatSortA
import Derived.Test.YtenmibfmhccmiaaGreatFwRead
import Derived.Test.YtenmibfmhccmiaaGreatFwMem
import Derived.Maps.Own
import Derived.Maps.OwnSet
import Derived.Maps.Range
namespace Go.Proofs.YtenmibfmhccmiaaGreat.W
open Go Go.Fw Go.RowKit Go.SoP Go.LiP
section
variable {w:World} {p q:Option Addr} {n c:Nat} {l:List Int}
theorem xa {W0:World} {l:List Int} (o:eC aC w p c l) (G:aq W0 w) (fr: ∀b,aI p=some b->W0.heap.size<=b) {m k:Nat} {news:List Int} (v:Vw (Value.int .i64) w q news) (hn:n=l.length) (hm:m=news.length) (hlen:l.length+news.length<=1000000) {K:World->Option Addr->Nat->Nat->Prop}
 (U: ∀w' I c',eC aC w' I c' (l++news)->aq W0 w'->(∀b,aI I=some b->W0.heap.size<=b)->K w' I (l++news).length c'):
 ∃w',∃I n' c',(Builtin.append_ #[aJ,aJ] aJ #[.slice p n c,.slice q m k]).run Tryz.prog w= .ok (.slice I n' c') w'/\K w' I n' c':=by
 refine o.uZ dN v hn hm fH (by omega) fun w2 p2 O o2 m2 J Q=> ?_;refine U w2 p2 O o2 (G.then m2 fun b hb e=> ?_) fun b hb=> ?_
 . have:=fr b e;omega
 . rcases J with rfl|rfl
   . exact fr b hb
   . have:=bg hb;have:=G.size;omega
theorem L9 (p:Option Addr):p.map (·.add (0*1))=p:=by cases p<;>simp [Addr.add]
end
section
variable {w:World} {p q:Option Addr} {n c:Nat} {l:List Int}
theorem FL (o:eC aC w p c l) (hn:n=l.length) (hm:n<=100000) (hl: ∀x∈l,cq x=true) {K:Ending->World->Prop}
 (O: ∀w',eC aC w' p c (bh l)->aE (Bk p) w w'->K (.returned (.slice p (bh l).length c)) w'):
 Calls Tryz.prog iJ.id #[.slice p n c,.func (.func fV.id) #[] #[]] w fun e w1=>e= .returned (.tuple #[])/\Calls Tryz.prog bL.id #[.slice p n c] w1 K:=by
 have X:Cx w p n l fV.id #[] oT:=by
  refine ⟨hn,by omega,BT,fun x Q y J w' _=> ?_,qf⟩;have:(#[]++ #[Value.int .i64 x,.int .i64 y]++ #[]:Array Value)= #[.int .i64 x,.int .i64 y]:=by simp
  rw [this];exact DQ (hl x Q) (hl y J) w'
 refine (yo X o).mono ?_;rintro e w1 ⟨rfl,l1,o1,m1,I,U⟩;refine ⟨rfl,(BS o1 (by rw [hn,I.length_eq]) (by omega)).mono ?_⟩;rintro e w2 ⟨rfl,o2,m2⟩;have:sC l1 l1.length=bh l:=(Ih I U).KD (cE l);rw [this] at o2 ⊢;exact O w2 o2 (m1.trans m2)
theorem Cs {l:List Int} (h:iu l=true): ∀x∈l,cq x=true:=(fh h).1
theorem Gt (hl: ∀x∈l,cq x=true): ∀x∈bh l,cq x=true:=fun x I=>hl x (((cE l).mem x).1 I)
theorem Cq (h:Vw (Value.int .i64) w p l) (hn:n=l.length) (hm:n<=maxLen):Calls Tryz.prog kI.id #[.slice p n c] w fun e w'=> ∃ (q:Option Addr) (d:Nat) (m:List Int),m=(if iu l then bh l else [])/\e= .returned (.tuple #[.slice q m.length d,.bool (iu l && nB l)])/\eC aC w' q d m/\aq w w'/\(∀b,aI q=some b->w.heap.size<=b):=by
 refine kI.ah ?_;refine (fg h hn hm).mono ?_;rintro e w1 ⟨rfl,Q⟩;cases hc:iu l with
 |false=>exact ⟨_,rfl,cj rfl ⟨none,0,[],rfl,rfl,Ow.nil _ _ _,Q,fun b e=>by simp [aI] at e⟩⟩
 |true=>
 have O:=Cs hc;have hlen:=(fh hc).2;refine ⟨_,rfl,bm rfl ((je (h.grow Q) hn (by omega)).mono ?_)⟩;rintro e w2 ⟨q,d,rfl,o2,g2,f2⟩;refine ⟨_,_,_,rfl,FL o2 rfl (by omega) O fun w4 o4 m4=> ?_⟩;have g4:aq w w4:=(Q.trans g2).then m4 fun b hb e=>by
  have:=f2 b e;have:=Q.size;omega
 have fq: ∀b,aI q=some b->w.heap.size<=b:=fun b e=>by have:=f2 b e;have:=Q.size;omega
 have aT:=qJ l;have nz: ∀x∈l,x≠0:=fun x hx=> (cH (O x hx)).1;have ta:=FK (cE l) nz;refine ⟨_,_,_,rfl,fun I w' k=> ∃t:Nat,I=t/\1<=t/\(∀i,0<i->i<t->i< (bh l).length->(bh l).getD i 0≠ -((bh l).getD (i - 1) 0))/\k=(bh l).length - t/\eC aC w' q d (bh l)/\aq w w',⟨_,1,rfl,Nat.le_refl _,fun i V Z=>by omega,rfl,o4,g4⟩,?_⟩;rintro I w5 k _ ⟨t,rfl,t1,ha,rfl,U,Y⟩;refine ao (fun s=> ?_) (fun s=> ?_)
 . have s:t< (bh l).length:=by simpa using s
   have e1:IntKind.i64.wrap ((t:Int) - 1)=((t - 1:Nat):Int):=wN (by omega) (by omega);rw [e1];refine U.drew.ix 0 (by omega) rfl (by omega) fun a e=> ⟨_,e,U.drew.ix 0 (by omega) rfl (by omega) fun a e=> ⟨_,e,?_⟩⟩
   rw [Int.toNat_natCast,Int.toNat_natCast];have hb:=cH (Gt O _ (bM (l:=bh l) (t:=t - 1) (by omega)));have ew:IntKind.i64.wrap (0 - (bh l).getD (t - 1) 0)= -((bh l).getD (t - 1) 0):=by rw [aB (by omega) (by omega)];omega
   rw [ew];refine ao (fun J=> ?_) (fun J=> ⟨_,?_,t+1,wN (by omega) (by omega),by omega,fun i V Z X=> ?_,rfl,U.drew,Y.drew⟩)
   . have J:(bh l).getD t 0= -((bh l).getD (t - 1) 0):=by simpa using J
     have:nB l=true:=ta.2 ⟨t,by omega,s,J⟩;exact ⟨q,d,bh l,rfl,by rw [this];rfl,U.drew,Y.drew,fq⟩
   . omega
   . have J:(bh l).getD t 0≠ -((bh l).getD (t - 1) 0):=by simpa using J
     by_cases e:i=t
     . subst e;exact J
     . exact ha i V (by omega) X
 . have s:(bh l).length<=t:=by simp at s;omega
   have:nB l=false:=by
    rw [<- Bool.not_eq_true];intro h;obtain ⟨i,V,Z,X⟩:=ta.1 h;exact ha i V (by omega) Z X
   exact ⟨q,d,bh l,rfl,by rw [this];rfl,U,Y,fq⟩
theorem CK (h:Vw (Value.int .i64) w p l) (hn:n=l.length) (hm:n<=maxLen):Calls Tryz.prog kI.id #[.slice p n c] w fun e w'=> ∃ (q:Option Addr) (d:Nat) (m:List Int),m=(if iu l then bh l else [])/\e= .returned (.tuple #[.slice q m.length d,.bool (iu l && nB l)])/\eC aC w' q d m/\aq w w':=
 (Cq h hn hm).mono fun _ _ ⟨q,d,m,I,J,o,g,_⟩=> ⟨q,d,m,I,J,o,g⟩
end
section
variable {w:World} {p q:Option Addr} {n c:Nat} {l:List Int}
theorem EF {m:List Int} {l:Int} (h:cq l=true):iE m (-l)= -iE m l:=by
 have hb:=cH h;have I:cq (-l)=true:=by unfold cq;exact decide_eq_true (by omega)
 have ha:aX (-l)=aX l:=by unfold aX;split<;>split<;>omega
 unfold iE;rw [h,I,ha];split
 . rfl
 . split
   . rfl
   . generalize m.getD (aX l - 1).toNat 0=z at*
     by_cases h1:z>0<;>by_cases J:l>0<;>by_cases O: -l>0<;>simp [h1,J]<;>omega
end
end Go.Proofs.YtenmibfmhccmiaaGreat.W
namespace Go.Fw
open Go Go.RowKit Go.Maps
section
variable {P:Program} {t k e:TypeId} {w w':World} {b n:Nat} {s:Int->Bool}
def qj (P:Program) (t k e:TypeId):Bool:=
 (match P.underlying t with|some (.map J I)=>Nat.beq J k && Nat.beq I e|_=>false) && (match P.underlying k with|some (.int .i64)=>true|_=>false) && (match P.underlying e with|some .bool=>true|_=>false) && (match P.info? e with|some i=> (match i.zero with|some (.bool false)=>true|_=>false)|none=>false)
theorem gX (h:qj P t k e=true):P.underlying t=some (.map k e)/\P.underlying k=some (.int .i64)/\P.underlying e=some .bool/\∀w,(zeroValue e).run P w= .ok (.bool false) w:=by
 simp only [qj,Bool.and_eq_true] at h;obtain ⟨⟨⟨h1,J⟩,O⟩,I⟩:=h;split at h1
 . rename_i V Y hu;simp only [Bool.and_eq_true] at h1;have U:V=k:=Nat.eq_of_beq_eq_true h1.1;have Q:Y=e:=Nat.eq_of_beq_eq_true h1.2;subst U Q;refine ⟨hu,?_,?_,?_⟩
   . split at J
     . assumption
     . simp at J
   . split at O
     . assumption
     . simp at O
   . intro w;split at I
     . rename_i i hi;split at I
       . rename_i X;unfold zeroValue;simp only [Sem.run_bind,fD hi,Result.andThen_ok,X,Sem.run_pure]
       . simp at I
     . simp at I
 . simp at h1
def MB (P:Program) (k e:TypeId) (w:World) (b n:Nat) (s:Int->Bool):Prop:=
 ∃D:DataW Unit,w.ownsMap P k (plainElem P e) b n D/\∀a:Int,D.atKey (.int .i64 a) (.lit (.bool false))= .lit (.bool (s a))
theorem MB.lt (h:MB P k e w b n s):b<w.heap.size:=by obtain ⟨D,h,_⟩:=h;exact h.lt
theorem MB.keep {S:Nat->Prop} (h:MB P k e w b n s) (m:aE S w w') (hs: ¬S b):MB P k e w' b n s:=by
 have hl:=h.lt;obtain ⟨D,⟨I,clock,hb,h⟩,J⟩:=h;exact ⟨D,⟨I,clock,(m.block b hl hs).trans hb,h⟩,J⟩
theorem MB.grow (h:MB P k e w b n s) (m:aq w w'):MB P k e w' b n s:=h.keep m id
theorem MB.AG (h:MB P k e w b n s) {c:Nat} (m:aE (·=c) w w') (I:b≠c):MB P k e w' b n s:=h.keep m I
theorem MB.new {b:Nat} (h:bc (.map #[] 0) w b w'):MB P k e w' b 0 fun _=>false:=by
 obtain ⟨rfl,rfl⟩:=h;exact ⟨.map [],World.ownsMap_made w P k _,fun a=>rfl⟩
theorem MB.di (hm:qj P t k e=true) (h:MB P k e w b n s) {a:Int} (ha:(Lit.int .i64 a).wf=true):(Instr.lookup t (.map (some b)) (.int .i64 a) false).run P w= .ok (.bool (s a)) w:=by
 obtain ⟨ht,I,he,J⟩:=gX hm;obtain ⟨D,h,O⟩:=h;obtain ⟨v,ps,hr,hv⟩:=h.lookup (int_keyed I) ht (J w) (plainElem_bool he false) (keyOf_int_mk I ha);rw [O a] at hv;have:v= .bool (s a):=by
  unfold plainElem at hv;rw [he] at hv;cases v<;>simp_all
 rw [hr,this]
theorem MB.put (hm:qj P t k e=true) (h:MB P k e w b n s) (hn:n<maxLen) {a:Int} (ha:(Lit.int .i64 a).wf=true) (v:Bool):
 ∃w',(Instr.mapUpdate t (.map (some b)) (.int .i64 a) (.bool v)).run P w= .ok () w'/\MB P k e w' b (n+1) (fun u=>if u=a then v else s u)/\aE (·=b) w w':=by
 obtain ⟨ht,O,he,V⟩:=gX hm;obtain ⟨D,h,Q⟩:=h;have J:=h.isMap;obtain ⟨w',hr,U,I⟩:=h.update (int_keyed O) ht hn (keyOf_int_mk O ha) (plainElem_bool (H:=Unit) he v);refine ⟨w',hr,⟨_,U,fun u=> ?_⟩,⟨I.os,I.tape,I.output,I.size,fun i hi hn=>I.block i hi fun e=>hn (Option.some.inj e)⟩⟩;by_cases hu:u=a
 . subst hu;exact (atKey_put_same J (show WideAt.IsKeyLit (.int .i64 u) from trivial) _ _).trans (by simp)
 . exact ((atKey_put_other (fun e=>hu (by injection e)) _ _).trans (Q u)).trans (by simp [hu])
theorem vC {a:Int} (h1: -9223372036854775808<=a) (I:a<9223372036854775808):(Lit.int .i64 a).wf=true:=by
 simp [Lit.wf,IntKind.min,IntKind.max,IntKind.signed,IntKind.bits];omega
end
section
variable {P:Program} {t k e:TypeId} {w w':World} {b r n nr:Nat} {s lf:Int->Bool}
def MS (P:Program) (k e:TypeId) (w:World) (b n:Nat) (s:Int->Bool):Prop:=
 ∃D:DataW Unit,w.ownsMap P k (plainElem P e) b n D/\(∀a:Int,D.atKey (.int .i64 a) (.lit (.bool false))= .lit (.bool (s a)))/\∀a:Int,Maps.has D (.int .i64 a)=s a
theorem MS.mb (h:MS P k e w b n s):MB P k e w b n s:=by obtain ⟨D,h1,I,_⟩:=h;exact ⟨D,h1,I⟩
theorem MS.lt (h:MS P k e w b n s):b<w.heap.size:=h.mb.lt
theorem MS.keep {S:Nat->Prop} (h:MS P k e w b n s) (m:aE S w w') (hs: ¬S b):MS P k e w' b n s:=by
 have hl:=h.lt;obtain ⟨D,⟨I,clock,hb,h⟩,J⟩:=h;exact ⟨D,⟨I,clock,(m.block b hl hs).trans hb,h⟩,J⟩
theorem MS.grow (h:MS P k e w b n s) (m:aq w w'):MS P k e w' b n s:=h.keep m id
theorem MS.new {b:Nat} (h:bc (.map #[] 0) w b w'):MS P k e w' b 0 fun _=>false:=by
 obtain ⟨rfl,rfl⟩:=h;exact ⟨.map [],World.ownsMap_made w P k _,fun a=>rfl,fun a=>rfl⟩
theorem MS.di (hm:qj P t k e=true) (h:MS P k e w b n s) {a:Int} (ha:(Lit.int .i64 a).wf=true):(Instr.lookup t (.map (some b)) (.int .i64 a) false).run P w= .ok (.bool (s a)) w:=h.mb.di hm ha
theorem MS.put (hm:qj P t k e=true) (h:MS P k e w b n s) (hn:n<maxLen) {a:Int} (ha:(Lit.int .i64 a).wf=true):
 ∃w',(Instr.mapUpdate t (.map (some b)) (.int .i64 a) (.bool true)).run P w= .ok () w'/\MS P k e w' b (n+1) (fun u=>if u=a then true else s u)/\aE (·=b) w w':=by
 obtain ⟨ht,O,he,X⟩:=gX hm;obtain ⟨D,h,Q,U⟩:=h;have I:=h.isMap;obtain ⟨w',hr,V,J⟩:=h.update (int_keyed O) ht hn (keyOf_int_mk O ha) (plainElem_bool (H:=Unit) he true);refine ⟨w',hr,⟨_,V,fun u=> ?_,fun u=> ?_⟩,⟨J.os,J.tape,J.output,J.size,fun i hi hn=>J.block i hi fun e=>hn (Option.some.inj e)⟩⟩
 . by_cases hu:u=a
   . subst hu;exact (atKey_put_same I (show WideAt.IsKeyLit (.int .i64 u) from trivial) _ _).trans (by simp)
   . exact ((atKey_put_other (fun e=>hu (by injection e)) _ _).trans (Q u)).trans (by simp [hu])
 . by_cases hu:u=a
   . subst hu;exact (has_put_same I (show WideAt.IsKeyLit (.int .i64 u) from trivial) _).trans (by simp)
   . exact ((has_put_other (fun e=>hu (by injection e)) _).trans (U u)).trans (by simp [hu])
theorem MS.del (hm:qj P t k e=true) (h:MS P k e w b n s) {a:Int} (ha:(Lit.int .i64 a).wf=true) (ty:TypeId):
 ∃w',(Builtin.delete_ #[t,k] ty #[.map (some b),.int .i64 a]).run P w= .ok (.tuple #[]) w'/\MS P k e w' b n (fun u=>if u=a then false else s u)/\aE (·=b) w w':=by
 obtain ⟨ht,J,he,V⟩:=gX hm;obtain ⟨D,h,O,Q⟩:=h;obtain ⟨w',hr,U,I⟩:=h.drop (int_keyed J) ht (keyOf_int_mk J ha) ty;have I:=I.grown;refine ⟨w',hr,⟨_,U,fun u=> ?_,fun u=> ?_⟩,⟨I.os,I.tape,I.output,I.size,fun i hi hn=>I.block i hi fun e=>hn (Option.some.inj e)⟩⟩
 . by_cases hu:u=a
   . subst hu;exact (atKey_del_same _).trans (by simp)
   . exact ((atKey_del_other (fun e=>hu (by injection e)) _).trans (O u)).trans (by simp [hu])
 . by_cases hu:u=a
   . subst hu;exact has_del_same.trans (by simp)
   . exact ((has_del_other (fun e=>hu (by injection e))).trans (Q u)).trans (by simp [hu])
theorem MS.len (hm:qj P t k e=true) (h:MS P k e w b n s) (ty:TypeId): ∃c:Nat,c<=n/\(Builtin.len_ #[t] ty #[.map (some b)]).run P w= .ok (.int .i64 c) w:=by
 obtain ⟨ht,Q,he,I⟩:=gX hm;obtain ⟨D,h,J,O⟩:=h;exact ⟨Maps.size D,h.size_le,h.len ht ty⟩
def MR (P:Program) (k e:TypeId) (w:World) (b r n:Nat) (s lf:Int->Bool) (nr:Nat):Prop:=
 ∃ (D:DataW Unit) (left:Lit->Bool),w.ranges P k (plainElem P e) b r n D left nr/\(∀a:Int,D.atKey (.int .i64 a) (.lit (.bool false))= .lit (.bool (s a)))/\(∀a:Int,Maps.has D (.int .i64 a)=s a)/\∀a:Int,left (.int .i64 a)=lf a
theorem MR.ms (h:MR P k e w b r n s lf nr):MS P k e w b n s:=by
 obtain ⟨D,left,h1,I,J,_⟩:=h;exact ⟨D,h1.owns,I,J⟩
theorem MR.lt (h:MR P k e w b r n s lf nr):r<w.heap.size:=by
 obtain ⟨D,left,h1,_⟩:=h;exact h1.lt
theorem MR.keep {S:Nat->Prop} (h:MR P k e w b r n s lf nr) (m:aE S w w') (h1: ¬S b) (Q: ¬S r):MR P k e w' b r n s lf nr:=by
 have I:=h.ms.lt;have J:=h.lt;obtain ⟨D,left,⟨O,clock,since,seen,U,hb,F,hs,hD,hr,rest⟩,V⟩:=h;exact ⟨D,left,⟨O,clock,since,seen,U,(m.block b I h1).trans hb,F,hs,hD,(m.block r J Q).trans hr,rest⟩,V⟩
theorem MR.grow (h:MR P k e w b r n s lf nr) (m:aq w w'):MR P k e w' b r n s lf nr:=h.keep m id id
theorem MR.drew (h:MR P k e w b r n s lf nr):MR P k e w.drew b r n s lf nr:=h.grow (aE.refl w).drew
theorem MS.range (hm:qj P t k e=true) (h:MS P k e w b n s): ∃w' nr,(Instr.range t (.map (some b))).run P w= .ok (.pointer (some ⟨w.heap.size,0,none⟩)) w'/\MR P k e w' b w.heap.size n s s nr/\aq w w':=by
 obtain ⟨ht,U,he,V⟩:=gX hm;obtain ⟨D,h,Q,J⟩:=h;obtain ⟨w',hr,O,I,_⟩:=h.range (int_keyed U) ht;exact ⟨w',_,hr,⟨D,_,O,Q,J,J⟩,⟨I.os,I.tape,I.output,I.size,fun i hi _=>I.block i hi (by simp)⟩⟩
theorem vB {key:Value} {I:Lit} (O:P.underlying k=some (.int .i64)) (h:keyOf P k key=some I): ∃a:Int,key= .int .i64 a/\I= .int .i64 a/\(Lit.int .i64 a).wf=true:=by
 cases key<;>simp [keyOf,O,mapKey] at h;rename_i q a;obtain ⟨h1,rfl⟩:=h;obtain ⟨rfl,J⟩:=h1;exact ⟨a,rfl,rfl,J⟩
theorem MR.next (hm:qj P t k e=true) (h:MR P k e w b r n s lf nr) (ty:TypeId):
 (nr=0/\(∀a,lf a=false)/\(Instr.next (.pointer (some ⟨r,0,none⟩)) false ty).run P w= .ok (.tuple #[.bool false]) w)\/
 ∃ (a:Int) (v:Value) (w':World) (I:Nat),lf a=true/\(Lit.int .i64 a).wf=true/\(Instr.next (.pointer (some ⟨r,0,none⟩)) false ty).run P w= .ok (.tuple #[.bool true,.int .i64 a,v]) w'/\
   (Instr.entry (.pointer (some ⟨r,0,none⟩))).run P w'= .ok (.tuple #[.int .i64 a,v]) w'/\MR P k e w' b r n s (fun x=>lf x && x !=a) I/\I<nr/\aE (·=r) w w':=by
 obtain ⟨ht,Q,he,hz⟩:=gX hm;obtain ⟨D,left,h,X,Y,hl⟩:=h;rcases h.next (int_keyed Q) ty with ⟨U,h1,O⟩| ⟨key,v,kl,y,w',I,h1,O,h3,h4,h5,V,Z,J,h9,jQ⟩
 . exact .inl ⟨U,fun a=>by rw [<- hl];exact h1 _,O⟩
 . obtain ⟨a,rfl,rfl,ha⟩:=vB Q h1;refine .inr ⟨a,v,w',I,by rw [<- hl];exact O,ha,h5,jQ,⟨D,_,V,X,Y,fun x=> ?_⟩,Z,⟨J.os,J.tape,J.output,J.size,fun i hi hn=>J.block i hi fun e=>hn (Option.some.inj e)⟩⟩;show (left (.int .i64 x) && !(Lit.sameKey (.int .i64 x) (.int .i64 a)))=_;rw [hl x];congr 1;simp [Lit.sameKey,bne];rfl
def E3 (P:Program) (t k e:TypeId):Bool:=
 (match P.underlying t with|some (.map J I)=>Nat.beq J k && Nat.beq I e|_=>false) && (match P.underlying k with|some (.int .i64)=>true|_=>false) && (match P.underlying e with|some (.int .i64)=>true|_=>false) && (match P.info? e with|some i=> (match i.zero with|some (.int .i64 n)=>n==0|_=>false)|none=>false)
theorem w_ (h:E3 P t k e=true):P.underlying t=some (.map k e)/\P.underlying k=some (.int .i64)/\P.underlying e=some (.int .i64)/\∀w,(zeroValue e).run P w= .ok (.int .i64 0) w:=by
 simp only [E3,Bool.and_eq_true] at h;obtain ⟨⟨⟨h1,J⟩,O⟩,I⟩:=h;split at h1
 . rename_i U X hu;simp only [Bool.and_eq_true] at h1;have V:U=k:=Nat.eq_of_beq_eq_true h1.1;have Q:X=e:=Nat.eq_of_beq_eq_true h1.2;subst V Q;refine ⟨hu,?_,?_,?_⟩
   . split at J
     . assumption
     . simp at J
   . split at O
     . assumption
     . simp at O
   . intro w;split at I
     . rename_i i hi;split at I
       . rename_i n Y;have:n=0:=by simpa using I
         subst this;unfold zeroValue;simp only [Sem.run_bind,fD hi,Result.andThen_ok,Y,Sem.run_pure]
       . simp at I
     . simp at I
 . simp at h1
def MI (P:Program) (k e:TypeId) (w:World) (b n:Nat) (s:Int->Int):Prop:=
 ∃D:DataW Unit,w.ownsMap P k (plainElem P e) b n D/\∀a:Int,D.atKey (.int .i64 a) (.lit (.int .i64 0))= .lit (.int .i64 (s a))
theorem MI.lt {s:Int->Int} (h:MI P k e w b n s):b<w.heap.size:=by obtain ⟨D,h,_⟩:=h;exact h.lt
theorem MI.keep {s:Int->Int} {S:Nat->Prop} (h:MI P k e w b n s) (m:aE S w w') (hs: ¬S b):MI P k e w' b n s:=by
 have hl:=h.lt;obtain ⟨D,⟨I,clock,hb,h⟩,J⟩:=h;exact ⟨D,⟨I,clock,(m.block b hl hs).trans hb,h⟩,J⟩
theorem MI.grow {s:Int->Int} (h:MI P k e w b n s) (m:aq w w'):MI P k e w' b n s:=h.keep m id
theorem MI.new {b:Nat} (h:bc (.map #[] 0) w b w'):MI P k e w' b 0 fun _=>0:=by
 obtain ⟨rfl,rfl⟩:=h;exact ⟨.map [],World.ownsMap_made w P k _,fun a=>rfl⟩
theorem MI.di {s:Int->Int} (hm:E3 P t k e=true) (h:MI P k e w b n s) {a:Int} (ha:(Lit.int .i64 a).wf=true):(Instr.lookup t (.map (some b)) (.int .i64 a) false).run P w= .ok (.int .i64 (s a)) w:=by
 obtain ⟨ht,J,he,Q⟩:=w_ hm;obtain ⟨D,h,O⟩:=h;obtain ⟨c,h1,I,U⟩:=h.lookup_int (int_keyed J) ht he (Q w) (keyOf_int_mk J ha);rw [O a] at I;have:s a=c:=by simpa using I
 rw [h1,this]
theorem MI.put {s:Int->Int} (hm:E3 P t k e=true) (h:MI P k e w b n s) (hn:n<maxLen) {a:Int} (ha:(Lit.int .i64 a).wf=true) {v:Int} (hv:(Lit.int .i64 v).wf=true):
 ∃w',(Instr.mapUpdate t (.map (some b)) (.int .i64 a) (.int .i64 v)).run P w= .ok () w'/\MI P k e w' b (n+1) (fun u=>if u=a then v else s u)/\aE (·=b) w w':=by
 obtain ⟨ht,O,he,V⟩:=w_ hm;obtain ⟨D,h,Q⟩:=h;have J:=h.isMap;obtain ⟨w',hr,U,I⟩:=h.update (int_keyed O) ht hn (keyOf_int_mk O ha) (plainElem_int (H:=Unit) he hv);refine ⟨w',hr,⟨_,U,fun u=> ?_⟩,⟨I.os,I.tape,I.output,I.size,fun i hi hn=>I.block i hi fun e=>hn (Option.some.inj e)⟩⟩;by_cases hu:u=a
 . subst hu;exact (atKey_put_same J (show WideAt.IsKeyLit (.int .i64 u) from trivial) _ _).trans (by simp)
 . exact ((atKey_put_other (fun e=>hu (by injection e)) _ _).trans (Q u)).trans (by simp [hu])
end
end Go.Fw
namespace Go.LeP
open Go.SoP Go.LiP
section
structure As where
 lit:Int
 bj:Int
 rs:List Int
def d0:As:=⟨0,0,[]⟩
def aS (tr:List As) (i:Nat):As:=tr.getD i d0
def vn (l:Int):Bool:=decide (l≠0/\ -1048576<=l/\l<=1048576)
def wo (l:List Int) (x:Int):List Int:=l.filter fun y=>y !=x
theorem rn {l:List Int} {x y:Int}:y∈wo l x↔y∈l/\y≠x:=by
 unfold wo;rw [List.mem_filter];simp
def cQ:List As->Int->Nat
 | [],_=>0
 |a::t,v=>if am a.lit=v then 0 else cQ t v+1
theorem mP: ∀ {tr:List As} {v:Int},cQ tr v<tr.length->am (aS tr (cQ tr v)).lit=v
 | [],_,h=>by simp at h
 |a::t,v,h=>by
  unfold cQ at h ⊢;split
  . rename_i e;exact e
  . rename_i e;rw [if_neg e] at h;have:=mP (tr:=t) (v:=v) (by simpa using h);simpa [aS,List.getD] using this
theorem l7: ∀ {tr:List As} {v:Int} {j:Nat},j<cQ tr v->am (aS tr j).lit≠v
 | [],_,_,h=>by simp [cQ] at h
 |a::t,v,j,h=>by
  unfold cQ at h;split at h
  . omega
  . rename_i e;cases j with
    |zero=>exact e
    |succ j=>
     have:=l7 (tr:=t) (v:=v) (j:=j) (by omega);simpa [aS,List.getD] using this
theorem Bj {tr:List As} {v:Int} {i:Nat} (hi:i<tr.length) (h:am (aS tr i).lit=v) (hm: ∀j,j<i->am (aS tr j).lit≠v):cQ tr v=i:=by
 rcases Nat.lt_trichotomy (cQ tr v) i with e|e|e
 . exact absurd (mP (by omega)) (hm _ e)
 . exact e
 . exact absurd h (l7 e)
theorem jc {tr:List As} {i j:Nat} (h:j<i):aS (tr.take i) j=aS tr j:=by
 unfold aS;simp only [List.getD_eq_getElem?_getD,List.getElem?_take];rw [if_pos h]
theorem kS {tr:List As} {v:Int} {i:Nat} (hi:i<=tr.length):(cQ (tr.take i) v<i↔cQ tr v<i)/\(cQ tr v<i->cQ (tr.take i) v=cQ tr v):=by
 have hl:(tr.take i).length=i:=by rw [List.length_take];omega
 have key:cQ tr v<i->cQ (tr.take i) v=cQ tr v:=fun h=>by
  refine Bj (by omega) ?_ fun j I=> ?_
  . rw [jc h];exact mP (by omega)
  . rw [jc (by omega)];exact l7 I
 refine ⟨⟨fun h=> ?_,fun h=>by rw [key h];exact h⟩,key⟩;have h1:=mP (tr:=tr.take i) (v:=v) (by omega);rw [jc h] at h1;rcases Nat.lt_or_ge (cQ tr v) i with e|e
 . exact e
 . exact absurd h1 (l7 (by omega))
def Ax (tr:List As) (c:List Int):Bool:=c.all fun l=>vn l && decide (cQ tr (am l)<tr.length) && ((aS tr (cQ tr (am l))).lit== -l)
def gH (tr:List As) (i:Nat):Int:=if i=0 then 0 else (aS tr (i - 1)).bj
def F6 (tr:List As) (i:Nat):Bool:=
 vn (aS tr i).lit && decide (¬cQ (tr.take i) (am (aS tr i).lit)<i) && decide (gH tr i<=(aS tr i).bj/\(aS tr i).bj<=gH tr i+1) &&
  (if (aS tr i).bj>gH tr i then (aS tr i).rs.isEmpty else decide ((aS tr i).rs.length<=256) && decide ((aS tr i).lit∈(aS tr i).rs) && Ax (tr.take i) (wo (aS tr i).rs (aS tr i).lit))
def nH (tr:List As):Bool:=decide (tr.length<=4096) && (List.range tr.length).all (F6 tr)
structure jk (tr:List As) (l:Int):Prop where
 pw:vn l=true
 lt:cQ tr (am l)<tr.length
 eq:(aS tr (cQ tr (am l))).lit= -l
theorem j7 {tr:List As} {c:List Int}:Ax tr c=true↔∀l∈c,jk tr l:=by
 unfold Ax;rw [List.all_eq_true];constructor
 . intro h l hl;have:=h l hl;simp only [Bool.and_eq_true,decide_eq_true_eq,beq_iff_eq] at this;exact ⟨this.1.1,this.1.2,this.2⟩
 . intro h l hl;obtain ⟨h1,I,J⟩:=h l hl;simp only [Bool.and_eq_true,decide_eq_true_eq,beq_iff_eq];exact ⟨⟨h1,I⟩,J⟩
structure eB (tr:List As):Prop where
 pw: ∀i,i<tr.length->vn (aS tr i).lit=true
 uq: ∀i j,i<j->j<tr.length->am (aS tr i).lit≠am (aS tr j).lit
 lo: ∀i,i<tr.length->gH tr i<=(aS tr i).bj
 hi: ∀i,i<tr.length->(aS tr i).bj<=gH tr i+1
 sE: ∀i,i<tr.length->gH tr i< (aS tr i).bj->(aS tr i).rs= []
 j8: ∀i,i<tr.length->¬gH tr i< (aS tr i).bj->(aS tr i).rs.length<=256/\(aS tr i).lit∈(aS tr i).rs/\∀x∈(aS tr i).rs,x≠(aS tr i).lit->jk tr x/\cQ tr (am x)<i
theorem mV {tr:List As} (h:nH tr=true):eB tr/\tr.length<=4096:=by
 unfold nH at h;simp only [Bool.and_eq_true,decide_eq_true_eq,List.all_eq_true,List.mem_range] at h;obtain ⟨hl,h⟩:=h;have H: ∀i,i<tr.length->vn (aS tr i).lit=true/\¬cQ (tr.take i) (am (aS tr i).lit)<i/\(gH tr i<=(aS tr i).bj/\(aS tr i).bj<=gH tr i+1)/\
  (if (aS tr i).bj>gH tr i then (aS tr i).rs.isEmpty else decide ((aS tr i).rs.length<=256) && decide ((aS tr i).lit∈(aS tr i).rs) && Ax (tr.take i) (wo (aS tr i).rs (aS tr i).lit))=true:=by
  intro i hi;have:=h i hi;unfold F6 at this;simp only [Bool.and_eq_true,decide_eq_true_eq] at this;exact ⟨this.1.1.1,this.1.1.2,this.1.2,this.2⟩
 refine ⟨⟨fun i hi=> (H i hi).1,fun i j X U e=> ?_,fun i hi=> (H i hi).2.2.1.1,fun i hi=> (H i hi).2.2.1.2,fun i hi O=> ?_,fun i hi O=> ?_⟩,hl⟩
 . have h1:=(H j U).2.1;rw [(kS (by omega)).1] at h1;exact l7 (tr:=tr) (v:=am (aS tr j).lit) (j:=i) (by omega) e
 . have:=(H i hi).2.2.2;rw [if_pos O] at this;simpa using this
 . have:=(H i hi).2.2.2;rw [if_neg (by omega)] at this;simp only [Bool.and_eq_true,decide_eq_true_eq] at this;refine ⟨this.1.1,this.1.2,fun x V J=> ?_⟩;have hb:=j7.1 this.2 x (rn.2 ⟨V,J⟩);have I:=hb.lt;rw [List.length_take,Nat.min_eq_left (by omega)] at I;have h1:=(kS (v:=am x) (by omega)).1.1 I;have Q:=(kS (v:=am x) (by omega)).2 h1;refine ⟨⟨hb.pw,by omega,?_⟩,h1⟩;have:=hb.eq;rw [Q,jc h1] at this;exact this
theorem eB.mono {tr:List As} (h:eB tr): ∀ {i j:Nat},i<=j->j<tr.length->(aS tr i).bj<=(aS tr j).bj:=by
 intro i j O J
 induction j with
 |zero=>rw [show i=0 by omega];exact Int.le_refl _
 |succ j ih=>
  by_cases e:i=j+1
  . rw [e];exact Int.le_refl _
  . have h1:=ih (by omega) (by omega);have I:=h.lo (j+1) J;unfold gH at I;rw [if_neg (by omega),Nat.add_sub_cancel] at I;omega
theorem eB.nn {tr:List As} (h:eB tr) {i:Nat} (hi:i<tr.length):0<=(aS tr i).bj:=by
 have h1:=h.lo 0 (by omega);have I:=h.mono (Nat.zero_le i) hi;unfold gH at h1;rw [if_pos rfl] at h1;omega
theorem eB.le {tr:List As} (h:eB tr) {i:Nat} (hi:i<tr.length):(aS tr i).bj<=i+1:=by
 induction i with
 |zero=>
  have:=h.hi 0 hi;unfold gH at this;rw [if_pos rfl] at this;simpa using this
 |succ i ih=>
  have h1:=ih (by omega);have I:=h.hi (i+1) hi;unfold gH at I;rw [if_neg (by omega),Nat.add_sub_cancel] at I;omega
theorem eB.at {tr:List As} (h:eB tr) {i:Nat} (hi:i<tr.length):cQ tr (am (aS tr i).lit)=i:=
 Bj hi rfl fun j I=>h.uq j i I hi
theorem tL (x:Int):am (-x)=am x:=by unfold am;split<;>split<;>omega
theorem HH {x:Int} (h:vn x=true):vn (-x)=true:=by
 unfold vn at*
 simp only [decide_eq_true_eq] at*
 omega
theorem eB.first {tr:List As} (h:eB tr) {i:Nat} (hi:i<tr.length) (hr:(aS tr i).rs= []):0< (aS tr i).bj/\∀j,j<i->(aS tr j).bj< (aS tr i).bj:=by
 have I:gH tr i< (aS tr i).bj:=by
  by_cases e:gH tr i< (aS tr i).bj
  . exact e
  . have:=(h.j8 i hi e).2.1;rw [hr] at this;simp at this
 unfold gH at I;split at I
 . rename_i e;exact ⟨I,fun j J=>by omega⟩
 . have:=h.nn (i:=i - 1) (by omega);refine ⟨by omega,fun j J=> ?_⟩;have:=h.mono (i:=j) (j:=i - 1) (by omega) (by omega);omega
theorem eB.eE {tr:List As} (h:eB tr) {i:Nat} (hi:i<tr.length) (hr:(aS tr i).rs≠[]):(aS tr i).rs.length<=256/\(aS tr i).lit∈(aS tr i).rs/\∀x∈(aS tr i).rs,x≠(aS tr i).lit->jk tr x/\cQ tr (am x)<i:=
 h.j8 i hi fun e=>hr (h.sE i hi e)
def lv (tr:List As) (l:Int):Int:=(aS tr (cQ tr (am l))).bj
theorem eB.IX {tr:List As} (h:eB tr) {i:Nat} (hi:i<tr.length):lv tr (-(aS tr i).lit)=(aS tr i).bj/\lv tr (aS tr i).lit=(aS tr i).bj:=by
 unfold lv;rw [tL,h.at hi];exact ⟨rfl,rfl⟩
theorem jk.same {tr:List As} {x y:Int} (O:jk tr x) (J:jk tr y) (h:cQ tr (am x)=cQ tr (am y)):x=y:=by
 have h1:=O.eq;have I:=J.eq;rw [h,I] at h1;omega
theorem jk.am {tr:List As} {x y:Int} (J:jk tr x) (I:jk tr y) (h:am x=am y):x=y:=J.same I (by rw [h])
def fO (tr:List As) (c:List Int) (L:Int):Nat:=c.countP fun x=>lv tr x==L
def nM (tr:List As) (i:Nat) (c:List Int):List Int:=bh (wo c (-(aS tr i).lit)++wo (aS tr i).rs (aS tr i).lit)
def lrn (tr:List As) (L:Int):Nat->List Int->List Int
 |0,c=>c
 |i+1,c=>if fO tr c L=0\/fO tr c L=1/\0<L then c else if (aS tr i).bj=L/\ -(aS tr i).lit∈c then lrn tr L i (nM tr i c) else lrn tr L i c
theorem iV {tr:List As} {i:Nat} {c:List Int} {x:Int}:x∈nM tr i c↔x∈c/\x≠ -(aS tr i).lit\/x∈(aS tr i).rs/\x≠(aS tr i).lit:=by
 unfold nM;rw [(cE _).mem,List.mem_append,rn,rn]
theorem tS {tr:List As} {L:Int} {c:List Int} {p:Nat}: ∀ {k:Nat},p<=k->(∀i,p<=i->i<k->¬((aS tr i).bj=L/\ -(aS tr i).lit∈c))->¬(fO tr c L=0\/fO tr c L=1/\0<L)->lrn tr L k c=lrn tr L p c
 |0,h,_,_=>by rw [show p=0 by omega]
 |k+1,h,hs,hn=>by
  by_cases e:p=k+1
  . rw [e]
  . rw [lrn,if_neg hn,if_neg (hs k (by omega) (by omega))];exact tS (by omega) (fun i h1 I=>hs i h1 (by omega)) hn
theorem uH {tr:List As} {L:Int} {c:List Int} {k:Nat} (h:fO tr c L=0\/fO tr c L=1/\0<L):lrn tr L k c=c:=by
 cases k with
 |zero=>rfl
 |succ k=>rw [lrn,if_pos h]
structure In (tr:List As) (L:Int) (c:List Int) (k:Nat):Prop where
 br: ∀x∈c,jk tr x
 le: ∀x∈c,lv tr x<=L
 pl: ∀x∈c,lv tr x=L->cQ tr (am x)<k
 lS:c= []\/0<fO tr c L
 nn:0<=L
 nd:jn c
theorem mT {tr:List As} {L:Int} {c:List Int}:0<fO tr c L↔∃x∈c,lv tr x=L:=by
 unfold fO;rw [List.countP_pos_iff];simp
theorem eI {c:List Int} (h:jn c):c.Nodup:=h.imp fun {a b} I e=>by subst e;exact oH a I
theorem xo {tr:List As} {L:Int} {c:List Int} (hs:c.Nodup) {x:Int} (h:1<fO tr c L): ∃y∈c,y≠x/\lv tr y=L:=by
 refine Classical.byContradiction fun hn=> ?_;have:fO tr c L<=c.countP (fun y=>y==x):=by
  refine List.countP_mono_left fun y I hl=> ?_;have hl:lv tr y=L:=by simpa using hl
  by_cases e:y=x
  . simp [e]
  . exact absurd ⟨y,I,e,hl⟩ hn
 have J:c.countP (fun y=>y==x)<=1:=List.nodup_iff_count.1 hs x;omega
theorem In.step {tr:List As} (ok:eB tr) {L:Int} {c:List Int} {k p:Nat} (h:In tr L c k) (hn: ¬(fO tr c L=0\/fO tr c L=1/\0<L)) (hp:p<tr.length) (U:(aS tr p).bj=L) (hm: -(aS tr p).lit∈c) (I: ∀x∈c,lv tr x=L->cQ tr (am x)<=p):
 In tr L (nM tr p c) p/\lrn tr L k c=lrn tr L p (nM tr p c)/\(aS tr p).rs≠[]/\p<k:=by
 have an:p<k:=by
  have:=h.pl _ hm (by rw [(ok.IX hp).1];exact U)
  rwa [tL,ok.at hp] at this
 have X:(aS tr p).rs≠[]:=by
  intro e;obtain ⟨f1,f2⟩:=ok.first hp e;have h1:1<fO tr c L:=by omega
  obtain ⟨y,hy,O,J⟩:=xo (eI h.nd) (x:= -(aS tr p).lit) h1;have Q:=I y hy J;rcases Nat.lt_or_ge (cQ tr (am y)) p with Z|Z
  . have:=f2 _ Z;unfold lv at J;omega
  . refine O ((h.br y hy).same (h.br _ hm) ?_);rw [tL,ok.at hp];omega
 obtain ⟨r1,r2,r3⟩:=ok.eE hp X;have V: ∀x∈nM tr p c,jk tr x:=by
  intro x Y;rcases iV.1 Y with ⟨a,b⟩| ⟨a,b⟩
  . exact h.br x a
  . exact (r3 x a b).1
 have Q: ∀x∈nM tr p c,lv tr x<=L:=by
  intro x Y;rcases iV.1 Y with ⟨a,b⟩| ⟨a,b⟩
  . exact h.le x a
  . have:=(r3 x a b).2;have:=ok.mono (i:=cQ tr (am x)) (j:=p) (by omega) hp;unfold lv;omega
 refine ⟨⟨V,Q,fun x Y hl=> ?_,?_,h.nn,(cE _).st⟩,?_,X,an⟩
 . rcases iV.1 Y with ⟨a,b⟩| ⟨a,b⟩
   . have h1:=I x a hl;rcases Nat.lt_or_ge (cQ tr (am x)) p with e|e
     . exact e
     . exact absurd ((h.br x a).same (h.br _ hm) (by rw [tL,ok.at hp];omega)) b
   . exact (r3 x a b).2
 . by_cases e:fO tr c L=1
   . have hL:L=0:=by
      have:=h.nn;by_cases Z:0<L
      . exact absurd (.inr ⟨e,Z⟩) hn
      . omega
     cases hs:nM tr p c with
     |nil=>exact .inl rfl
     |cons x t=>
      refine .inr (mT.2 ⟨x,by simp,?_⟩);have h1:=Q x (by rw [hs];simp);have h2:=ok.nn ((V x (by rw [hs];simp)).lt);have:lv tr x=(aS tr (cQ tr (am x))).bj:=rfl;omega
   . obtain ⟨y,hy,O,J⟩:=xo (eI h.nd) (x:= -(aS tr p).lit) (L:=L) (tr:=tr) (c:=c) (by omega);exact .inr (mT.2 ⟨y,iV.2 (.inl ⟨hy,O⟩),J⟩)
 . rw [tS (p:=p+1) (k:=k) (by omega) (fun i h1 h2 hc=> ?_) hn,lrn,if_neg hn,if_pos ⟨U,hm⟩];have hi:i<tr.length:=by
    have:=(h.br _ hc.2).lt;rcases Nat.lt_or_ge i tr.length with e|e
    . exact e
    . have hd:aS tr i=d0:=by
       unfold aS;rw [List.getD_eq_getElem?_getD,List.getElem?_eq_none e];rfl
      have:=(h.br _ hc.2).pw;rw [hd] at this;exact absurd this (by decide)
   have:=I _ hc.2 (by rw [(ok.IX hi).1];exact hc.1);rw [tL,ok.at hi] at this;omega
theorem In.end {tr:List As} (ok:eB tr) {L:Int}: ∀ {k:Nat} {c:List Int},In tr L c k->k<=tr.length->∃d V,lrn tr L k c=d/\In tr L d V/\(d= []/\(L=0\/c= [])\/fO tr d L=1/\0<L)
 |0,c,h,_=>by
  have Y:c= []:=by
   rcases h.lS with e|e
   . exact e
   . obtain ⟨x,I,hl⟩:=mT.1 e;have:=h.pl x I hl;omega
  exact ⟨c,0,rfl,h,.inl ⟨Y,.inr Y⟩⟩
 |k+1,c,h,hk=>by
  by_cases hn:fO tr c L=0\/fO tr c L=1/\0<L
  . refine ⟨c,k+1,uH hn,h,?_⟩;rcases hn with hn|hn
    . rcases h.lS with e|e
      . exact .inl ⟨e,.inr e⟩
      . omega
    . exact .inr hn
  . by_cases e:(aS tr k).bj=L/\ -(aS tr k).lit∈c
    . obtain ⟨h1,X,_,_⟩:=h.step ok hn (p:=k) (by omega) e.1 e.2 fun x I hl=>by have:=h.pl x I hl;omega
      obtain ⟨d,V,e1,O,e3⟩:=h1.end ok (by omega);refine ⟨d,V,by rw [X];exact e1,O,?_⟩;rcases e3 with ⟨a,b⟩|b
      . refine .inl ⟨a,?_⟩;have:=h.nn;by_cases hL:0<L
        ·
         obtain ⟨y,hy,Q,aa⟩:=xo (eI h.nd) (x:= -(aS tr k).lit) (L:=L) (tr:=tr) (c:=c) (by omega);have J:y∈nM tr k c:=iV.2 (.inl ⟨hy,Q⟩);rcases b with b|b
         . omega
         . rw [b] at J;simp at J
        . exact .inl (by omega)
      . exact .inr b
    . have U:=tS (p:=k) (k:=k+1) (by omega) (fun i h1 X=>by rw [show i=k by omega];exact e) hn;have h':In tr L c k:=⟨h.br,h.le,fun x I hl=>by
       have:=h.pl x I hl;rcases Nat.lt_or_ge (cQ tr (am x)) k with O|O
       . exact O
       . have Z:cQ tr (am x)=k:=by omega
         refine absurd ⟨?_,?_⟩ e
         . rw [<- Z];exact hl
         . rw [<- Z,(h.br x I).eq,Int.neg_neg];exact I,h.lS,h.nn,h.nd⟩
      rw [U];exact h'.end ok (by omega)
end
section
def lH (tr:List As) (a b:Int):Int:=if lv tr a≠lv tr b then lv tr b - lv tr a else am a - am b
theorem ud (tr:List As):Ord (lH tr):=by
 constructor
 . intro x y h;unfold lH at*
   split at h<;>split<;>omega
 . intro x y z h1 I;unfold Le lH at*
   split at h1<;>split at I<;>split<;>omega
abbrev mG (tr:List As) (m:List Int):Prop:=m.Pairwise fun a b=>lH tr a b<0
theorem nF (tr:List As) (a:Int): ¬lH tr a a<0:=by unfold lH;simp
theorem AS {tr:List As} {a b c:Int} (h1:lH tr a b<0) (I:lH tr b c<0):lH tr a c<0:=(ud tr).GS h1 ((ud tr).lt I)
theorem sY {tr:List As}: ∀ {m k:List Int},mG tr m->mG tr k->(∀x,x∈m↔x∈k)->m=k
 | [],[],_,_,_=>rfl
 | [],y::k,_,_,h=>by have:=(h y).2 (by simp);simp at this
 |x::m,[],_,_,h=>by have:=(h x).1 (by simp);simp at this
 |x::m,y::k,h1,I,h=>by
  have h1:=List.pairwise_cons.1 h1;have I:=List.pairwise_cons.1 I;have e:x=y:=by
   rcases List.mem_cons.1 ((h x).1 (by simp)) with e|e
   . exact e
   . rcases List.mem_cons.1 ((h y).2 (by simp)) with O|O
     . exact O.symm
     . exact absurd (AS (h1.1 y O) (I.1 x e)) (nF tr x)
  subst e;congr 1;refine sY h1.2 I.2 fun z=> ?_;constructor
  . intro J;rcases List.mem_cons.1 ((h z).1 (List.mem_cons_of_mem _ J)) with e|e
    . subst e;exact absurd (h1.1 z J) (nF tr z)
    . exact e
  . intro J;rcases List.mem_cons.1 ((h z).2 (List.mem_cons_of_mem _ J)) with e|e
    . subst e;exact absurd (I.1 z J) (nF tr z)
    . exact e
def B2 (tr:List As) (c:List Int) (M:Nat):Nat->List Int
 |0=> []
 |j+1=>B2 tr c M j++ (bh c).filter fun x=>lv tr x==(M:Int) - j
def Iu (tr:List As):Int:=tr.foldl (fun m a=>if a.bj>m then a.bj else m) 0
def iZ (tr:List As) (c:List Int):List Int:=B2 tr c (Iu tr).toNat ((Iu tr).toNat+1)
theorem tY: ∀ (tr:List As) (m:Int),m<=tr.foldl (fun m a=>if a.bj>m then a.bj else m) m/\∀a∈tr,a.bj<=tr.foldl (fun m a=>if a.bj>m then a.bj else m) m
 | [],m=> ⟨Int.le_refl _,by simp⟩
 |b::t,m=>by
  rw [List.foldl_cons];generalize J:(if b.bj>m then b.bj else m)=X;have hm:m<=X/\b.bj<=X:=by rw [<- J];split<;>omega
  obtain ⟨h1,I⟩:=tY t X;refine ⟨by omega,fun a ha=> ?_⟩;rcases List.mem_cons.1 ha with e|e
  . subst e;omega
  . exact I a e
theorem Ip (tr:List As):0<=Iu tr:=(tY tr 0).1
theorem IF {tr:List As} {i:Nat} (h:i<tr.length):(aS tr i).bj<=Iu tr:=(tY tr 0).2 _ (by simp [aS,List.getD,h])
theorem tK {tr:List As} {c:List Int} {M:Nat}: ∀ {j:Nat} {x:Int},x∈B2 tr c M j↔x∈c/\lv tr x<=M/\(M:Int) - j<lv tr x
 |0,x=>by
  unfold B2;simp
 |j+1,x=>by
  unfold B2;rw [List.mem_append,tK,List.mem_filter,(cE c).mem,beq_iff_eq];constructor
  . rintro (⟨h1,I,J⟩| ⟨h1,I⟩)
    . exact ⟨h1,I,by omega⟩
    . exact ⟨h1,by omega,by omega⟩
  . rintro ⟨h1,I,J⟩;by_cases e:lv tr x=(M:Int) - j
    . exact .inr ⟨h1,e⟩
    . exact .inl ⟨h1,I,by omega⟩
theorem rE {tr:List As} {c:List Int} {M:Nat} (hb: ∀x∈c,jk tr x): ∀j,mG tr (B2 tr c M j)
 |0=>List.Pairwise.nil
 |j+1=>by
  unfold B2;rw [mG,List.pairwise_append];refine ⟨rE hb j,?_,fun x Z y Y=> ?_⟩
  . have h1:jn ((bh c).filter fun x=>lv tr x==(M:Int) - j):=List.Pairwise.filter _ (cE c).st;rw [List.pairwise_iff_getElem];intro a b ha J Q;have I:=List.pairwise_iff_getElem.1 h1 a b ha J Q;have X:=List.mem_filter.1 (List.getElem_mem ha);have mb:=List.mem_filter.1 (List.getElem_mem J);have la:lv tr _=(M:Int) - j:=beq_iff_eq.1 X.2;have lb:lv tr _=(M:Int) - j:=beq_iff_eq.1 mb.2;have U:=hb _ (((cE c).mem _).1 X.1);have O:=hb _ (((cE c).mem _).1 mb.1);generalize ((bh c).filter fun x=>lv tr x==(M:Int) - j)[a]=u at*
    generalize ((bh c).filter fun x=>lv tr x==(M:Int) - j)[b]=v at*
    have V:am u≠am v:=fun e=>by
     have:=U.am O e;subst this;exact oH _ I
    unfold lH;rw [if_neg (by omega)];unfold oT at I;rw [if_pos V] at I;exact I
  . have h1:=tK.1 Z;have I:=List.mem_filter.1 Y;have h3:lv tr y=(M:Int) - j:=beq_iff_eq.1 I.2;unfold lH;rw [if_pos (by omega)];omega
theorem iv {tr:List As} (ok:eB tr) {c:List Int} (hb: ∀x∈c,jk tr x) {x:Int}:x∈iZ tr c↔x∈c:=by
 unfold iZ;rw [tK];refine ⟨fun h=>h.1,fun h=> ⟨h,?_,?_⟩⟩
 . have:=IF (hb x h).lt;have:=Ip tr;unfold lv;omega
 . have:=ok.nn (hb x h).lt;unfold lv;omega
theorem lA {tr:List As} {c:List Int} (hb: ∀x∈c,jk tr x):mG tr (iZ tr c):=rE hb _
theorem Dj {tr:List As} (ok:eB tr) {c m:List Int} (hb: ∀x∈c,jk tr x) (hm: ∀x,x∈m↔x∈c) (nd:m.Nodup) (hs:pT (lH tr) m 0 m.length):m=iZ tr c:=by
 refine sY ?_ (lA hb) fun x=> (hm x).trans (iv ok hb).symm;rw [mG,List.pairwise_iff_getElem];intro i j hi I J;have h:=hs i j (Nat.zero_le _) J I;simp only [List.getD,List.getElem?_eq_getElem hi,List.getElem?_eq_getElem I,Option.getD_some] at h;have O:m[i]≠m[j]:=fun e=>by have:=(List.getElem_inj nd).1 e;omega
 have h1:=hb _ ((hm _).1 (List.getElem_mem hi));have Q:=hb _ ((hm _).1 (List.getElem_mem I));have ha:am m[i]≠am m[j]:=fun e=>O (h1.am Q e);unfold Le lH at h;unfold lH;split at h<;>split<;>omega
def F7 (tr:List As) (ld:List Int):Nat->Int->Bool
 |0,_=>false
 |f+1,l=> !(aS tr (cQ tr (am l))).rs.isEmpty && (aS tr (cQ tr (am l))).rs.all fun x=>x==(aS tr (cQ tr (am l))).lit||decide (lv tr x<=0)||decide (x∈ld)||F7 tr ld f x
def lJ (tr:List As) (ld:List Int) (l:Int):Bool:=F7 tr ld (cQ tr (am l)+1) l
theorem Fd {tr:List As} (ok:eB tr) {ld:List Int}: ∀ (f:Nat) {l:Int},cQ tr (am l)<tr.length->cQ tr (am l)<f->F7 tr ld f l=lJ tr ld l:=by
 have key: ∀ (f g:Nat) {l:Int},cQ tr (am l)<tr.length->cQ tr (am l)<f->cQ tr (am l)<g->F7 tr ld f l=F7 tr ld g l:=by
  intro f
  induction f with
  |zero=>intro g l _ h;omega
  |succ f Q=>
   intro g l hl hf U;cases g with
   |zero=>omega
   |succ g=>
    unfold F7;by_cases hr:(aS tr (cQ tr (am l))).rs= []
    . rw [hr];rfl
    . obtain ⟨_,_,O⟩:=ok.eE hl hr;have I: ∀x∈(aS tr (cQ tr (am l))).rs,(x==(aS tr (cQ tr (am l))).lit||decide (lv tr x<=0)||decide (x∈ld)||F7 tr ld f x)=(x==(aS tr (cQ tr (am l))).lit||decide (lv tr x<=0)||decide (x∈ld)||F7 tr ld g x):=by
       intro x J;by_cases e:x=(aS tr (cQ tr (am l))).lit
       . simp [e]
       . obtain ⟨b1,b2⟩:=O x J e;rw [Q g b1.lt (by omega) (by omega)]
      congr 1;rw [Bool.eq_iff_iff,List.all_eq_true,List.all_eq_true];constructor
      . intro h x J;rw [<- I x J];exact h x J
      . intro h x J;rw [I x J];exact h x J
 intro f l hl hf;exact key f (cQ tr (am l)+1) hl hf (by omega)
theorem CJ {tr:List As} (ok:eB tr) {ld:List Int} {l:Int} (hl:cQ tr (am l)<tr.length):
 lJ tr ld l=(!(aS tr (cQ tr (am l))).rs.isEmpty && (aS tr (cQ tr (am l))).rs.all fun x=>x==(aS tr (cQ tr (am l))).lit||decide (lv tr x<=0)||decide (x∈ld)||lJ tr ld x):=by
 unfold lJ;rw [F7];by_cases hr:(aS tr (cQ tr (am l))).rs= []
 . rw [hr];rfl
 . obtain ⟨_,_,O⟩:=ok.eE hl hr;have I: ∀x∈(aS tr (cQ tr (am l))).rs,(x==(aS tr (cQ tr (am l))).lit||decide (lv tr x<=0)||decide (x∈ld)||F7 tr ld (cQ tr (am l)) x)=(x==(aS tr (cQ tr (am l))).lit||decide (lv tr x<=0)||decide (x∈ld)||F7 tr ld (cQ tr (am x)+1) x):=by
    intro x J;by_cases e:x=(aS tr (cQ tr (am l))).lit
    . simp [e]
    . obtain ⟨b1,b2⟩:=O x J e;rw [Fd ok _ b1.lt b2];rfl
   congr 1;rw [Bool.eq_iff_iff,List.all_eq_true,List.all_eq_true];constructor
   . intro h x J;rw [<- I x J];exact h x J
   . intro h x J;rw [I x J];exact h x J
def shr (tr:List As) (ld:List Int):List Int:=
 match ld with
 | []=> []
 |x::t=>x::t.filter fun y=>decide (0<lv tr y) && !lJ tr ld y
theorem Cr {tr:List As} {ld:List Int} {x:Int} (h:x∈shr tr ld):x∈ld:=by
 cases ld with
 |nil=>exact h
 |cons y t=>
  rcases List.mem_cons.1 h with e|e
  . rw [e];simp
  . exact List.mem_cons_of_mem _ (List.mem_filter.1 e).1
theorem Hz (tr:List As) (ld:List Int):(shr tr ld).length<=ld.length:=by
 cases ld with
 |nil=>exact Nat.le_refl _
 |cons y t=>simp [shr];exact List.length_filter_le _ _
def vS (v:Int->Int) (c:List Int):Prop:= ∃l∈c,v l=1
structure xF (tr:List As) (v:Int->Int):Prop where
 neg: ∀l,vn l=true->v (-l)= -v l
 val: ∀l,v l=0\/v l=1\/v l= -1
 set: ∀i,i<tr.length->v (aS tr i).lit≠0
 j8: ∀i,i<tr.length->(aS tr i).rs≠[]->vS v (aS tr i).rs
theorem Dv {tr:List As} {v:Int->Int} (ok:eB tr) (V:xF tr v) {c:List Int} {p:Nat} (hp:p<tr.length) (hr:(aS tr p).rs≠[]) (h:vS v c):vS v (nM tr p c):=by
 obtain ⟨x,O,ex⟩:=h;by_cases e:x= -(aS tr p).lit
 . obtain ⟨y,J,Q⟩:=V.j8 p hp hr;refine ⟨y,iV.2 (.inr ⟨J,?_⟩),Q⟩;intro I;have:=V.neg _ (ok.pw p hp);rw [<- e,<- I] at this;omega
 . exact ⟨x,iV.2 (.inl ⟨O,e⟩),ex⟩
theorem tZ {tr:List As} {v:Int->Int} (ok:eB tr) (V:xF tr v) {L:Int}: ∀ {k:Nat} {c:List Int},In tr L c k->k<=tr.length->vS v c->vS v (lrn tr L k c)
 |0,_,_,_,h=>h
 |k+1,c,h,hk,ht=>by
  by_cases hn:fO tr c L=0\/fO tr c L=1/\0<L
  . rw [uH hn];exact ht
  . by_cases e:(aS tr k).bj=L/\ -(aS tr k).lit∈c
    . obtain ⟨h1,Q,U,_⟩:=h.step ok hn (p:=k) (by omega) e.1 e.2 fun x I hl=>by have:=h.pl x I hl;omega
      rw [Q];exact tZ ok V h1 (by omega) (Dv ok V (by omega) U ht)
    . have X:In tr L c k:=⟨h.br,h.le,fun x I hl=>by
       have:=h.pl x I hl;rcases Nat.lt_or_ge (cQ tr (am x)) k with J|J
       . exact J
       . have O:cQ tr (am x)=k:=by omega
         refine absurd ⟨?_,?_⟩ e
         . rw [<- O];exact hl
         . rw [<- O,(h.br x I).eq,Int.neg_neg];exact I,h.lS,h.nn,h.nd⟩
      rw [lrn,if_neg hn,if_neg e];exact tZ ok V X (by omega) ht
theorem C6 {tr:List As} {v:Int->Int} (ok:eB tr) (V:xF tr v): ∀ (i:Nat),i<tr.length->(aS tr i).bj<=0->v (aS tr i).lit=1:=by
 intro i
 induction i using Nat.strongRecOn with
 |_ i O=>
  intro hi hl;have hr:(aS tr i).rs≠[]:=fun e=>by have:=(ok.first hi e).1;omega
  obtain ⟨y,J,Q⟩:=V.j8 i hi hr;by_cases e:y=(aS tr i).lit
  . rw [<- e];exact Q
  . obtain ⟨b1,b2⟩:=(ok.eE hi hr).2.2 y J e;have I:=b1.lt;have:=ok.mono (i:=cQ tr (am y)) (j:=i) (by omega) hi;have h1:=O _ b2 I (by omega);rw [b1.eq,V.neg _ b1.pw] at h1;omega
theorem uX {tr:List As} {v:Int->Int} (ok:eB tr) (V:xF tr v) {l:Int} (h:jk tr l) (hl:lv tr l<=0):v l= -1:=by
 have h1:=C6 ok V _ h.lt hl;rw [h.eq,V.neg _ h.pw] at h1;omega
theorem Ej {tr:List As} {v:Int->Int} (ok:eB tr) (V:xF tr v) {ld:List Int}: ∀ (n:Nat) {l:Int},jk tr l->cQ tr (am l)=n->v l=1->lJ tr ld l=true->∃y∈ld,v y=1/\cQ tr (am y)<n:=by
 intro n
 induction n using Nat.strongRecOn with
 |_ n O=>
  intro l hb hn hv hi;subst hn;rw [CJ ok hb.lt] at hi;simp only [Bool.and_eq_true,Bool.not_eq_true',List.isEmpty_eq_false_iff,List.all_eq_true,Bool.or_eq_true,beq_iff_eq,decide_eq_true_eq] at hi;obtain ⟨hr,ha⟩:=hi;obtain ⟨y,J,I⟩:=V.j8 _ hb.lt hr;by_cases e:y=(aS tr (cQ tr (am l))).lit
  . rw [hb.eq] at e;have:=V.neg _ hb.pw;rw [<- e,I] at this;omega
  . obtain ⟨b1,b2⟩:=(ok.eE hb.lt hr).2.2 y J e;rcases ha y J with ((h|h)|h)|h
    . exact absurd h e
    . have:=uX ok V b1 h;omega
    . exact ⟨y,h,I,b2⟩
    . obtain ⟨z,Q,z2,z3⟩:=O _ b2 b1 rfl I h;exact ⟨z,Q,z2,by omega⟩
theorem Aj {tr:List As} {v:Int->Int} (ok:eB tr) (V:xF tr v) {ld:List Int} (hb: ∀x∈ld,jk tr x) (h:vS v ld):vS v (shr tr ld):=by
 have key: ∀ (n:Nat) {x:Int},x∈ld->v x=1->cQ tr (am x)=n->vS v (shr tr ld):=by
  intro n
  induction n using Nat.strongRecOn with
  |_ n O=>
   intro x I hv hn;by_cases hs:x∈shr tr ld
   . exact ⟨x,hs,hv⟩
   . have hp: ¬lv tr x<=0:=fun e=>by have:=uX ok V (hb x I) e;omega
     have hi:lJ tr ld x=true:=by
      cases ld with
      |nil=>simp at I
      |cons y t=>
       rcases List.mem_cons.1 I with e|e
       . exact absurd (by rw [e];simp [shr]) hs
       . cases hi:lJ tr (y::t) x with
         |true=>rfl
         |false=>exact absurd (List.mem_cons_of_mem _ (List.mem_filter.2 ⟨e,by rw [hi];simp;omega⟩)) hs
     obtain ⟨z,J,z2,z3⟩:=Ej ok V n (hb x I) hn hv hi;exact O _ z3 J z2 rfl
 obtain ⟨x,I,hv⟩:=h;exact key _ I hv rfl
structure wL (tr:List As) (L:Int) (ld:List Int):Prop where
 br: ∀x∈ld,jk tr x
 zero:L=0->ld= []
 bS: ∀i,i<ld.length->(lv tr (ld.getD i 0)=L↔i=0)
 le: ∀x∈ld,lv tr x<=L
 nn:0<=L
theorem JR {tr:List As} {c:List Int} {L x y:Int} (U:x∈c) (Q:y∈c) (I:x≠y) (h1:lv tr x=L) (O:lv tr y=L):1<fO tr c L:=by
 unfold fO;rw [List.countP_eq_length_filter];have mx:x∈c.filter fun z=>lv tr z==L:=List.mem_filter.2 ⟨U,by simpa using h1⟩;have J:y∈c.filter fun z=>lv tr z==L:=List.mem_filter.2 ⟨Q,by simpa using O⟩;obtain ⟨s,t,e⟩:=List.append_of_mem mx;rw [e] at J ⊢;rw [List.length_append,List.length_cons];rcases List.mem_append.1 J with h|h
 . have:=List.length_pos_of_mem h;omega
 . rcases List.mem_cons.1 h with h|h
   . exact absurd h.symm I
   . have:=List.length_pos_of_mem h;omega
theorem Gl {tr:List As} (ok:eB tr) {L:Int} {c:List Int} {k:Nat} (h:In tr L c k) (he:c= []/\(L=0\/c= [])\/fO tr c L=1/\0<L):wL tr L (iZ tr c):=by
 have hb: ∀x∈iZ tr c,jk tr x:=fun x V=>h.br x ((iv ok h.br).1 V);have Q: ∀x∈iZ tr c,lv tr x<=L:=fun x V=>h.le x ((iv ok h.br).1 V);have nil:c= []->iZ tr c= []:=fun e=>by
  rw [List.eq_nil_iff_forall_not_mem];intro x V;have:=(iv ok h.br).1 V;rw [e] at this;simp at this
 refine ⟨hb,fun e=> ?_,fun i hi=> ?_,Q,h.nn⟩
 . rcases he with ⟨a,_⟩| ⟨_,b⟩
   . exact nil a
   . omega
 . rcases he with ⟨a,_⟩| ⟨h1,hL⟩
   . rw [nil a] at hi;simp at hi
   . have st:=lA h.br;have mem: ∀j,j< (iZ tr c).length->(iZ tr c).getD j 0∈iZ tr c:=fun j X=>by simp [List.getD,X]
     have U: ∀a b,a<b->b< (iZ tr c).length->lv tr ((iZ tr c).getD b 0)<=lv tr ((iZ tr c).getD a 0):=by
      intro a b Y J;have:=List.pairwise_iff_getElem.1 st a b (by omega) J Y;have e1:(iZ tr c).getD a 0=(iZ tr c)[a]'(by omega):=by simp [List.getD,show a< (iZ tr c).length by omega]
      have e2:(iZ tr c).getD b 0=(iZ tr c)[b]:=by simp [List.getD,J]
      rw [e1,e2];unfold lH at this;split at this<;>omega
     obtain ⟨y,hy,I⟩:=mT.1 (show 0<fO tr c L by omega);obtain ⟨j,X,ej⟩:=List.mem_iff_getElem.1 ((iv ok h.br).2 hy);have O:(iZ tr c).getD j 0=y:=by simp [List.getD,X,ej]
     have Z:lv tr ((iZ tr c).getD 0 0)=L:=by
      rcases Nat.eq_zero_or_pos j with e|e
      . subst e;rw [O];exact I
      . have h2:=U 0 j e X;have h3:=Q _ (mem 0 (by omega));rw [O,I] at h2;omega
     constructor
     . intro hl;refine Classical.byContradiction fun ap=> ?_;have hd:(iZ tr c).getD i 0≠(iZ tr c).getD 0 0:=by
        intro e;have:=List.pairwise_iff_getElem.1 st 0 i (by omega) hi (by omega);simp only [List.getD,List.getElem?_eq_getElem hi,List.getElem?_eq_getElem (show 0< (iZ tr c).length by omega),Option.getD_some] at e;rw [e] at this;exact nF _ _ this
       have aF:1<fO tr c L:=JR ((iv ok h.br).1 (mem 0 (by omega))) ((iv ok h.br).1 (mem i hi)) (fun e=>hd e.symm) Z hl;omega
     . rintro rfl;exact Z
theorem wL.shr {tr:List As} {L:Int} {ld:List Int} (h:wL tr L ld):wL tr L (shr tr ld):=by
 refine ⟨fun x J=>h.br x (Cr J),fun e=>by rw [h.zero e];rfl,fun i hi=> ?_,fun x J=>h.le x (Cr J),h.nn⟩;cases ld with
 |nil=>simp [LeP.shr] at hi
 |cons y t=>
  have Q:=(h.bS 0 (by simp)).2 rfl;have e0:(y::t).getD 0 0=y:=rfl;rw [e0] at Q;cases i with
  |zero=>exact ⟨fun _=>rfl,fun _=>Q⟩
  |succ i=>
   refine ⟨fun hl=> ?_,fun e=>by omega⟩;have I:i< (t.filter fun z=>decide (0<lv tr z) && !lJ tr (y::t) z).length:=by simpa [LeP.shr] using hi
   have em:(LeP.shr tr (y::t)).getD (i+1) 0=(t.filter fun z=>decide (0<lv tr z) && !lJ tr (y::t) z)[i]:=by simp [LeP.shr,List.getD,I]
   rw [em] at hl;have hm:=(List.mem_filter.1 (List.getElem_mem I)).1;obtain ⟨j,O,U⟩:=List.mem_iff_getElem.1 hm;have:=(h.bS (j+1) (by simpa using O)).1 (by rw [<- hl,<- U];simp [List.getD,O]);omega
end
section
theorem Ex {tr:List As} {t i:Nat} (hi:i<t):F6 (tr.take t) i=F6 tr i:=by
 have h1:(tr.take t).take i=tr.take i:=by rw [List.take_take,Nat.min_eq_left (by omega)]
 have I:gH (tr.take t) i=gH tr i:=by
  unfold gH;split
  . rfl
  . rw [jc (by omega)]
 unfold F6;rw [h1,I,jc hi]
theorem D8 {tr:List As} {t:Nat} (ht:t<=tr.length) (hl:t<=4096) (h:(List.range t).all (F6 tr)=true):eB (tr.take t):=by
 refine (mV (tr:=tr.take t) ?_).1;have hlen:(tr.take t).length=t:=by rw [List.length_take];omega
 unfold nH;rw [hlen,decide_eq_true hl,Bool.true_and,List.all_eq_true];intro i hi;rw [List.mem_range] at hi;rw [Ex hi];exact List.all_eq_true.1 h i (List.mem_range.2 hi)
theorem nQ {f:Nat->Bool} {t:Nat} (h:(List.range t).all f=true) (hf:f t=true):(List.range (t+1)).all f=true:=by
 rw [List.range_succ,List.all_append,h];simp [hf]
theorem C9 {f:Nat->Bool} {t n:Nat} (ht:t<n) (hf:f t=false):(List.range n).all f=false:=by
 cases h:(List.range n).all f with
 |false=>rfl
 |true=>have:=List.all_eq_true.1 h t (List.mem_range.2 ht);rw [hf] at this;exact this.symm
def se (tr:List As) (u:Int):Int:=if cQ tr u<tr.length then (cQ tr u:Int)+1 else 0
theorem CE (u:Int):se [] u=0:=by unfold se;simp
theorem qt {tr:List As} {t:Nat} (h:t<=tr.length):(tr.take t).length=t:=by rw [List.length_take];omega
theorem uK {tr:List As} {t:Nat} (ht:t<tr.length) (h: ¬cQ (tr.take t) (am (aS tr t).lit)<t) (u:Int):se (tr.take (t+1)) u=if u=am (aS tr t).lit then (t:Int)+1 else se (tr.take t) u:=by
 have O:=kS (tr:=tr) (v:=u) (i:=t) (by omega);have I:=kS (tr:=tr) (v:=u) (i:=t+1) (by omega);have l1:=qt (tr:=tr) (t:=t) (by omega);have l2:=qt (tr:=tr) (t:=t+1) (by omega);unfold se;rw [l1,l2];by_cases hu:u=am (aS tr t).lit
 . rw [if_pos hu];have Q:cQ tr u=t:=by
    subst hu;rw [(kS (by omega)).1] at h;refine Bj ht rfl fun j V=>l7 (by omega)
   rw [if_pos (I.1.2 (by omega)),I.2 (by omega),Q]
 . rw [if_neg hu];by_cases hl:cQ tr u<t
   . rw [if_pos (I.1.2 (by omega)),if_pos (O.1.2 hl),I.2 (by omega),O.2 hl]
   . rw [if_neg (fun J=> ?_),if_neg (fun J=>hl (O.1.1 J))];have X:=I.1.1 J;have U:cQ tr u=t:=by omega
     have:=mP (tr:=tr) (v:=u) (by omega);rw [U] at this;exact hu this.symm
theorem ql {tr:List As} {u:Int}:se tr u=0↔¬cQ tr u<tr.length:=by
 unfold se;split<;>omega
theorem Dk {tr:List As} (hl:tr.length<=4096) (h:(List.range tr.length).all (F6 tr)=true):nH tr=true:=by
 unfold nH;rw [decide_eq_true hl,h];rfl
theorem AC {tr:List As} {i:Nat} (hi:i<tr.length) (h:F6 tr i=false):nH tr=false:=by
 unfold nH;rw [C9 hi h,Bool.and_false]
def DE (tr:List As) (i:Nat):Bool:=decide ((aS tr i).rs.length<=256) && decide ((aS tr i).lit∈(aS tr i).rs) && Ax (tr.take i) (wo (aS tr i).rs (aS tr i).lit)
end
end Go.LeP
namespace Go.Proofs.YtenmibfmhccmiaaGreat.W.Le
open Go Go.Fw Go.RowKit Go.SoP Go.LiP Go.LeP
open Go.Proofs.Tryz (prog)
section
variable {w:World} {p q:Option Addr} {n c m d:Nat} {tr:List As} {l:List Int}
def TV (w:World) (p:Option Addr) (tr:List As):Prop:= ∀i,i<tr.length->∃ (a:Addr) (s:Sl),p=some a/\aD w (a.add (i*3)) 0 [.int .i64 (aS tr i).lit,.int .i64 (aS tr i).bj,.slice s.p s.n s.c]/\
 s.n=(aS tr i).rs.length/\s.n<=maxLen/\Vw (Value.int .i64) w s.p (aS tr i).rs
theorem TV.grow {w':World} (h:TV w p tr) (g:aq w w'):TV w' p tr:=by
 intro i hi;obtain ⟨a,s,rfl,J,h1,I,O⟩:=h i hi;exact ⟨a,s,rfl,aD.keep g id J,h1,I,O.grow g⟩
theorem TV.ix (h:TV w p tr) (hn:n=tr.length) {X:Int} (i:Nat) (e:X=i) (hi:i<tr.length) {K:Addr->Prop}
 (J: ∀a (s:Sl),aD w a 0 [.int .i64 (aS tr i).lit,.int .i64 (aS tr i).bj,.slice s.p s.n s.c]->s.n=(aS tr i).rs.length->s.n<=maxLen->Vw (Value.int .i64) w s.p (aS tr i).rs->K a):aV p n X 3 K:=by
 subst e hn;obtain ⟨a,s,rfl,Q,h1,I,O⟩:=h i hi;exact ⟨a,rfl,by omega,by omega,J _ s (by rw [Int.toNat_natCast];exact Q) h1 I O⟩
theorem yG (l:Int):vn l=cq l:=rfl
theorem cN {l:Int} (h: -9223372036854775808<l) (I:l<9223372036854775808) (w:World):Calls prog bU.id #[.int .i64 l] w fun e w'=>e= .returned (.int .i64 (am l))/\aq w w':=by
 refine bU.ah ?_;unfold bU.w;rw [aB (x:=0 - l) (by omega) (by omega)];refine ⟨?_,aE.refl w⟩;unfold imax am;congr 2;split<;>split<;>omega
end
section
variable {w:World} {p q:Option Addr} {n c m d:Nat} {tr:List As} {l:List Int}
theorem jd:E3 prog gE aC aC=true:=by kernel_rfl
theorem jb:qj prog nh aC cV=true:=by kernel_rfl
theorem mw {x:Int} (h:vn x=true):(Lit.int .i64 (am x)).wf=true:=by
 have:=zS (x:=x) h;exact vC (by omega) (by omega)
theorem A6 {x:Int} (h:vn x=true):(Lit.int .i64 x).wf=true:=by
 have:=cH h;exact vC (by omega) (by omega)
theorem BO {w2:World} {u v:Int} {m d:Nat} {K:World->Prop} (h:bc (.cells #[.int .i64 0,.int .i64 0,.slice none 0 0] bP) w n w2)
 (I: ∀w3,bF w3 n #[.int .i64 u,.int .i64 v,.slice q m d]->aq w w3->K w3): ∃w3,af (Addr.mk n 0 none) 0 [.int .i64 u,.int .i64 v,.slice q m d] w2 w3/\K w3:=by
 have e:=h.num;exact bq h.has rfl rfl fun w3 H m=>I w3 H (h.mod.then m fun k I (e:k=n)=>by omega)
theorem rj {t:Nat}:gH tr (t+1)=(aS tr t).bj:=by unfold gH;rw [if_neg (by omega),Nat.add_sub_cancel]
theorem vG:gH tr 0=0:=by unfold gH;rw [if_pos rfl]
end
section
variable {w:World} {p q:Option Addr} {n c m d:Nat} {tr:List As} {l:List Int}
theorem _root_.Go.LeP.eB.bW (ok:eB tr) {t:Nat} (ht:t<tr.length): ¬cQ (tr.take t) (am (aS tr t).lit)<t:=by
 intro e;rw [(kS (by omega)).1] at e;exact ok.uq _ t e ht (mP (by omega))
theorem qC {b n:Nat} {s I:Int->Int} (h:MI prog aC aC w b n s) (e: ∀u,s u=I u):MI prog aC aC w b n I:=by
 rw [<- show s=I from funext e];exact h
theorem kN {v:Int} (hl:tr.length<=4096) (h:cQ tr v<tr.length):IntKind.i64.wrap (se tr v - 1)=(cQ tr v:Nat):=by
 unfold se;rw [if_pos h,aB (by omega) (by omega)];omega
theorem lQ (h:TV w p tr) (hn:n=tr.length) (ok:eB tr) (hl:tr.length<=4096):Calls prog ic.id #[.slice p n c] w fun e w'=> ∃b,e= .returned (.map (some b))/\MI prog aC aC w' b tr.length (se tr)/\aq w w'/\w.heap.size<=b:=by
 refine ic.ah ?_;intro X w2 Q;have e1:=Q.num;have M2:MI prog aC aC w2 X 0 (se (tr.take 0)):=qC (MI.new Q) fun u=> (CE u).symm;refine ⟨fun I w' k=> ∃t:Nat,I=t/\t<=tr.length/\k=tr.length - t/\MI prog aC aC w' X t (se (tr.take t))/\aq w w',⟨_,0,rfl,Nat.zero_le _,rfl,M2,Q.mod⟩,?_⟩;rintro I w7 k _ ⟨t,rfl,ht,rfl,M,G⟩;refine ao (fun s=> ?_) (fun s=> ?_)
 . have s:t<tr.length:=by simp at s;omega
   refine (h.grow G).ix hn t rfl s fun a x C e1 e2 v=> ⟨_,_,_,_,_,C,fun ar ag pE=>BO pE fun Z H J=> ⟨_,ad H rfl,?_⟩⟩
   have hb:=cH (ok.pw t s);refine (cN (by omega) (by omega) Z).mono ?_;rintro e ac ⟨rfl,O⟩;have Y:=(G.trans J).trans O;obtain ⟨aa,hr,V,U⟩:=(M.grow (J.trans O)).put jd (by unfold maxLen;omega) (mw (ok.pw t s)) (v:=(t:Int)+1) (vC (by omega) (by omega));refine ⟨_,rfl,aa,by rw [aB (by omega) (by omega)];exact hr,_,?_,t+1,wN (by omega) (by omega),by omega,rfl,qC V fun u=> (uK s (ok.bW s) u).symm,aE.bW Y U (by omega)⟩;omega
 . have s:t=tr.length:=by simp at s;omega
   subst s;rw [List.take_length] at M;exact ⟨X,rfl,M,G,by omega⟩
theorem HX {x:Int}:iu [x]=cq x:=by unfold iu;simp
theorem Jv {x:Int} {b:Nat} (h:bF w b #[.int .i64 x]):Vw (Value.int .i64) w (some ⟨b,0,none⟩) [x]:=by
 intro j I;have:j=0:=by simpa using I
 subst this;exact ⟨_,rfl,ad h rfl⟩
theorem Af {t b nn:Nat} (h:TV w p tr) (hn:n=tr.length) (hl:tr.length<=4096) (ht:t<tr.length) (hi:vn (aS tr t).lit=true) (M:MI prog aC aC w b nn (se (tr.take t))) (hv:Vw (Value.int .i64) w q (aS tr t).rs) (hm:m=(aS tr t).rs.length) (U:m<=maxLen):
 Calls prog fK.id #[.slice p n c,.map (some b),.agg #[.int .i64 (aS tr t).lit,.int .i64 (aS tr t).bj,.slice q m d]] w fun e w'=>e= .returned (.bool (DE tr t))/\aq w w':=by
 refine fK.ah ?_;intro n1 w2 h2;have H:=h2.has;have G2:=h2.mod;generalize a_:(aS tr t).rs=rs at*
 generalize bv:(aS tr t).lit=Y at*
 have J:DE tr t=(decide (rs.length<=256) && decide (Y∈rs) && Ax (tr.take t) (LeP.wo rs Y)):=by unfold DE;rw [a_,bv]
 have bY:(tr.take t).length=t:=qt (by omega);have V: ∀ {w':World} {x:Int},aq w w'->x∈rs->x≠Y->¬jk (tr.take t) x->(Ending.returned (.bool false)= .returned (.bool (DE tr t))/\aq w w'):=by
  intro w' x g U O hb;have:Ax (tr.take t) (LeP.wo rs Y)=false:=by
   cases e:Ax (tr.take t) (LeP.wo rs Y) with
   |false=>rfl
   |true=>exact absurd (j7.1 e x (rn.2 ⟨U,O⟩)) hb
  rw [J,this,Bool.and_false];exact ⟨rfl,g⟩
 refine ⟨_,_,_,ad H rfl,ao (fun r=> ?_) (fun r=> ⟨_,_,_,ad H rfl,(fg (hv.grow G2) hm U).mono ?_⟩)⟩
 . simp at r;rw [J,decide_eq_false (by omega)];exact ⟨rfl,G2⟩
 have r:rs.length<=256:=by simp at r;omega
 rintro e w5 ⟨rfl,g5⟩;have G5:=G2.trans g5;have H5:=H.grow g5;refine ⟨_,rfl,ao (fun r2=> ?_) (fun r2=> ⟨_,_,_,ad H5 rfl,_,ad H5 rfl,(zO (hv.grow G5) hm U _).mono ?_⟩)⟩
 . have Q:iu rs=false:=by
    cases e:iu rs with
    |false=>rfl
    |true=>rw [e] at r2;simp at r2
   have aa:rs.all cq=false:=by
    unfold iu at Q;rw [decide_eq_true (p:=_<=4096) (by omega),Bool.and_true] at Q;exact Q
   rw [List.all_eq_false] at aa;obtain ⟨x,az,ax⟩:=aa;refine V G5 az (fun e=> ?_) fun hb=> ?_
   . subst e;exact ax hi
   . exact ax hb.pw
 have Q:iu rs=true:=by
  cases e:iu rs with
  |true=>rfl
  |false=>rw [e] at r2;simp at r2
 have ar:=(fh Q).1;rintro e w9 ⟨rfl,g9⟩;have G9:=G5.trans g9;have H9:=H5.grow g9;refine ⟨_,rfl,ao (fun r3=> ?_) (fun r3=> ⟨_,_,_,ad H9 rfl,?_⟩)⟩
 . have r3:Y ∉ rs:=by simpa using r3
   rw [J,decide_eq_false r3,Bool.and_false];exact ⟨rfl,G9⟩
 have r3:Y∈rs:=by simpa using r3
 refine ⟨fun I w' k=> ∃j:Nat,I=j/\j<=rs.length/\k=rs.length - j/\(∀x∈rs.take j,x≠Y->jk (tr.take t) x)/\aq w2 w',⟨_,0,rfl,Nat.zero_le _,rfl,by simp,g5.trans g9⟩,?_⟩;rintro I a6 k _ ⟨j,rfl,hj,rfl,ha,G⟩;refine ao (fun s=> ?_) (fun s=> ?_)
 . have s:j<rs.length:=by simp at s;omega
   refine (hv.grow (G2.trans G)).ix 0 (by omega) hm (by omega) fun a e=> ⟨_,e,_,ad (H.grow G) rfl,?_⟩
   rw [Int.toNat_natCast];refine ao (fun r4=> ⟨_,?_,j+1,wN (by omega) (by omega),by omega,rfl,fun x U O=> ?_,G⟩) (fun r4=> ?_)
   . omega
   . rcases (fm s).1 U with e|e
     . exact ha x e O
     . exact absurd (e.trans (by simpa using r4)) O
   have r4:rs.getD j 0≠Y:=by simpa using r4
   have ag:=ar _ (bM s);have hb:=cH ag;refine (cN (by omega) (by omega) a6).mono ?_;rintro e aT ⟨rfl,av⟩;have Z:=(G2.trans G).trans av;refine ⟨_,rfl,aT,_,(M.grow Z).di jd (mw ag),ao (fun X=> ?_) (fun X=> ?_)⟩
   . refine V Z (bM s) r4 fun hB=> ?_;have X:se (tr.take t) (am (rs.getD j 0))=0:=by simpa using X
     exact ql.1 X hB.lt
   have X:cQ (tr.take t) (am (rs.getD j 0))< (tr.take t).length:=Classical.byContradiction fun e=>by
    rw [ql.2 e] at X;simp at X
   have r6:=X;rw [bY] at r6;rw [kN (by omega) X];refine (h.grow Z).ix hn _ rfl (by omega) fun a2 x C e1 e2 v=> ⟨_,C.1,?_⟩
   rw [aB (by omega) (by omega),Int.zero_sub];refine ao (fun r7=>V Z (bM s) r4 fun hB=> ?_) (fun r7=> ⟨_,?_,j+1,wN (by omega) (by omega),by omega,rfl,fun x U O=> ?_,G.trans av⟩)
   . have:=hB.eq;rw [jc r6] at this;rw [this] at r7;simp at r7
   . omega
   . rcases (fm s).1 U with e|e
     . exact ha x e O
     . subst e;refine ⟨ag,X,?_⟩;rw [jc r6];simpa using r7
 . have s:j=rs.length:=by simp at s;omega
   subst s;rw [List.take_length] at ha;refine ⟨?_,G2.trans G⟩;rw [J,decide_eq_true r,decide_eq_true r3,j7.2 fun x U=>ha x (rn.1 U).1 (rn.1 U).2];rfl
theorem JS (t:Nat):F6 tr t=(vn (aS tr t).lit && decide (¬cQ (tr.take t) (am (aS tr t).lit)<t) && decide (gH tr t<=(aS tr t).bj/\(aS tr t).bj<=gH tr t+1) &&
 (if (aS tr t).bj>gH tr t then (aS tr t).rs.isEmpty else DE tr t)):=rfl
theorem qi (h:TV w p tr) (hn:n=tr.length):Calls prog iR.id #[.slice p n c] w fun e w'=>e= .returned (.bool (nH tr))/\aq w w':=by
 refine iR.ah ?_;refine ao (fun q=> ?_) (fun q=> ?_)
 . simp at q;refine ⟨?_,aE.refl w⟩;unfold nH;rw [decide_eq_false (by omega)];rfl
 have hl:tr.length<=4096:=by simp at q;omega
 intro n1 w2 h2;have e1:=h2.num;have M2:MI prog aC aC w2 n1 0 (se (tr.take 0)):=qC (MI.new h2) fun u=> (CE u).symm;refine ⟨fun L I w' k=> ∃t:Nat,I=t/\t<=tr.length/\L=gH tr t/\(List.range t).all (F6 tr)=true/\k=tr.length - t/\MI prog aC aC w' n1 t (se (tr.take t))/\aq w w',⟨_,0,rfl,Nat.zero_le _,vG.symm,rfl,rfl,M2,h2.mod⟩,?_⟩;rintro L I w8 k _ ⟨t,rfl,ht,rfl,ha,rfl,M,G⟩;refine ao (fun s=> ?_) (fun s=> ⟨?_,G⟩)
 . have s:t<tr.length:=by simp at s;omega
   have V: ∀ {w':World},aq w w'->F6 tr t=false->(Ending.returned (.bool false)= .returned (.bool (nH tr))/\aq w w'):=fun g hf=>by
    rw [AC s hf];exact ⟨rfl,g⟩
   have a_:=D8 ht (by omega) ha;have a7:(tr.take t).length=t:=qt ht;have b_:0<=gH tr t/\gH tr t<=t:=by
    cases t with
    |zero=>rw [vG];omega
    |succ t=>
     rw [rj];have h1:=a_.nn (i:=t) (by omega);have h2:=a_.le (i:=t) (by omega);rw [jc (by omega)] at h1 h2;omega
   refine (h.grow G).ix hn t rfl s fun a x C e1 e2 v=> ⟨_,_,_,_,_,C,fun b8 b' av=>BO av fun b5 H ap=> ⟨_,ad H rfl,fun b6 cb rN=> ?_⟩⟩
   have vw:=Jv rN.has;refine (fg vw rfl (by unfold maxLen;simp)).mono ?_;rw [HX];rintro e bv ⟨rfl,b3⟩;have g:=(rN.mod.trans b3)
   have bb:=(G.trans ap).trans g;have a':=H.grow g;have J:=JS (tr:=tr) t;refine ⟨_,rfl,ao (fun r=>V bb ?_) (fun r=> ?_)⟩
   . have:vn (aS tr t).lit=false:=by
      cases e:vn (aS tr t).lit with
      |false=>rfl
      |true=>rw [<- yG,e] at r;simp at r
     rw [J,this];rfl
   have r:vn (aS tr t).lit=true:=by
    cases e:vn (aS tr t).lit with
    |true=>rfl
    |false=>rw [<- yG,e] at r;simp at r
   have hb:=cH r;refine ⟨_,ad a' rfl,(cN (by omega) (by omega) bv).mono ?_⟩;rintro e a8 ⟨rfl,ag⟩;have Q:=bb.trans ag;have O:=a'.grow ag;have ac:=M.grow ((ap.trans g).trans ag);refine ⟨_,rfl,a8,_,ac.di jd (mw r),ao (fun X=>V Q ?_) (fun X=> ?_)⟩
   . have X:cQ (tr.take t) (am (aS tr t).lit)<t:=Classical.byContradiction fun e=>by
      rw [ql.2 (by rw [a7];exact e)] at X;simp at X
     rw [J,decide_eq_false (by simp [X]),Bool.and_false];rfl
   have X: ¬cQ (tr.take t) (am (aS tr t).lit)<t:=fun e=>by
    unfold se at X;rw [a7,if_pos e] at X;simp at X
   rw [aB (by omega) (by omega)];refine ⟨_,ad O rfl,ao (fun r3=>V Q ?_) (fun r3=> ⟨_,ad O rfl,ao (fun r4=>V Q ?_) (fun r4=> ⟨_,ad O rfl,_,_,_,ad O rfl,?_⟩)⟩)⟩
   . simp at r3;rw [J,decide_eq_false (p:=_<=_/\_) (by omega),Bool.and_false];rfl
   . simp at r4;rw [J,decide_eq_false (p:=_<=_/\_) (by omega),Bool.and_false];rfl
   have r3:gH tr t<=(aS tr t).bj:=by simpa using r3
   have r4:(aS tr t).bj<=gH tr t+1:=by simpa using r4
   rw [r,decide_eq_true (p:= ¬_) X,decide_eq_true (p:=_<=_/\_) ⟨r3,r4⟩,Bool.and_true,Bool.and_true,Bool.true_and] at J;refine ao (fun Z=>V Q ?_) (fun Z=>ao (fun r6=> ?_) (fun r6=> ?_))
   . rw [J];split
     . rename_i e;rw [decide_eq_true e] at Z;simp [e1] at Z;simp [Z]
     . rename_i e;rw [decide_eq_false e] at Z;simp [e1] at Z;unfold DE;rw [Z];simp
   . have r6: ¬(aS tr t).bj>gH tr t:=by simpa using r6
     rw [if_neg r6] at J;refine ⟨_,_,_,_,_,jy O,(Af (h.grow Q) hn hl s r ac (v.grow ((ap.trans g).trans ag)) e1 e2).mono ?_⟩;rintro e bx ⟨rfl,aa⟩;have ay:=O.grow aa;refine ⟨_,rfl,ao (fun r7=>V (Q.trans aa) (by rw [J];simpa using r7)) (fun r7=> ⟨_,ad ay rfl,(cN (by omega) (by omega) bx).mono ?_⟩)⟩;rintro e bY ⟨rfl,U⟩;obtain ⟨ar,hr,aw,Y⟩:=(ac.grow (aa.trans U)).put jd (by unfold maxLen;omega) (mw r) (v:=(t:Int)+1) (vC (by omega) (by omega));refine ⟨_,rfl,ar,by rw [aB (by omega) (by omega)];exact hr,_,ad ((ay.grow U).put Y (fun e=> ?_)) rfl,_,?_,t+1,wN (by omega) (by omega),by omega,rj.symm,nQ ha (by rw [J];simpa using r7),rfl,qC aw fun u=> (uK s X u).symm,aE.bW ((Q.trans aa).trans U) Y (by omega)⟩
     . have:=av.num;have:=M.lt;omega
     . omega
   . have r6:(aS tr t).bj>gH tr t:=by simpa using r6
     rw [if_pos r6] at J;have r7:(aS tr t).rs.isEmpty=true:=by
      rw [decide_eq_true r6] at Z;simp [e1] at Z;simp [Z]
     refine ⟨_,ad O rfl,(cN (by omega) (by omega) a8).mono ?_⟩;rintro e bY ⟨rfl,U⟩;obtain ⟨ar,hr,aw,Y⟩:=(ac.grow U).put jd (by unfold maxLen;omega) (mw r) (v:=(t:Int)+1) (vC (by omega) (by omega));refine ⟨_,rfl,ar,by rw [aB (by omega) (by omega)];exact hr,_,ad ((O.grow U).put Y (fun e=> ?_)) rfl,_,?_,t+1,wN (by omega) (by omega),by omega,rj.symm,nQ ha (by rw [J];exact r7),rfl,qC aw fun u=> (uK s X u).symm,aE.bW (Q.trans U) Y (by omega)⟩
     . have:=av.num;have:=M.lt;omega
     . omega
 . have s:t=tr.length:=by simp at s;omega
   subst s;rw [Dk hl ha]
theorem rq (h:TV w p tr) (hn:n=tr.length) (ok:eB tr) (hl:tr.length<=4096) (hc:Vw (Value.int .i64) w q l) (hk:m=l.length) (X:m<=maxLen) (hi: ∀x∈l,vn x=true):
 Calls prog g_.id #[.slice p n c,.slice q m d] w fun e w'=>e= .returned (.bool (Ax tr l))/\aq w w':=by
 refine g_.ah ?_;have aa:=X;unfold maxLen at aa;refine (lQ h hn ok hl).mono ?_;rintro e w1 ⟨b,rfl,M1,Z,_⟩;refine ⟨_,rfl,fun I w' k=> ∃t:Nat,I=t/\t<=l.length/\k=l.length - t/\(∀x∈l.take t,jk tr x)/\aq w1 w',⟨_,0,rfl,Nat.zero_le _,rfl,by simp,aE.refl w1⟩,?_⟩;rintro I w7 k _ ⟨t,rfl,ht,rfl,ha,G⟩;have O: ∀ {w':World} {x:Int},aq w w'->x∈l->¬jk tr x->(Ending.returned (.bool false)= .returned (.bool (Ax tr l))/\aq w w'):=by
  intro w' x g X hb;have:Ax tr l=false:=by
   cases e:Ax tr l with
   |false=>rfl
   |true=>exact absurd (j7.1 e x X) hb
  rw [this];exact ⟨rfl,g⟩
 refine ao (fun s=> ?_) (fun s=> ?_)
 . have s:t<l.length:=by simp at s;omega
   refine (hc.grow (Z.trans G)).ix 0 (by omega) hk (by omega) fun a e=> ⟨_,e,?_⟩
   rw [Int.toNat_natCast];have U:=hi _ (bM s);have hb:=cH U;refine (cN (by omega) (by omega) w7).mono ?_;rintro e ac ⟨rfl,Q⟩;have V:=(Z.trans G).trans Q;refine ⟨_,rfl,ac,_,(M1.grow (G.trans Q)).di jd (mw U),ao (fun J=> ?_) (fun J=> ?_)⟩
   . refine O V (bM s) fun hB=> ?_;have J:se tr (am (l.getD t 0))=0:=by simpa using J
     exact ql.1 J hB.lt
   have J:cQ tr (am (l.getD t 0))<tr.length:=Classical.byContradiction fun e=>by
    rw [ql.2 e] at J;simp at J
   rw [kN hl J];refine (h.grow V).ix hn _ rfl J fun a2 x C e1 e2 v=> ⟨_,C.1,?_⟩
   rw [aB (by omega) (by omega),Int.zero_sub];refine ao (fun Y=>O V (bM s) fun hB=> ?_) (fun Y=> ⟨_,?_,t+1,wN (by omega) (by omega),by omega,rfl,fun x X=> ?_,G.trans Q⟩)
   . rw [hB.eq] at Y;simp at Y
   . omega
   . rcases (fm s).1 X with e|e
     . exact ha x e
     . subst e;exact ⟨U,J,by simpa using Y⟩
 . have s:t=l.length:=by simp at s;omega
   subst s;rw [List.take_length] at ha;rw [j7.2 ha];exact ⟨rfl,Z.trans G⟩
def pM (tr:List As) (l:List Int):Bool:=nH tr && iu l && Ax tr l
theorem vj (h:TV w p tr) (hn:n=tr.length) (Y:Vw (Value.int .i64) w q l) (U:m=l.length) (X:m<=maxLen):
 Calls prog iU.id #[.slice p n c,.slice q m d] w fun e w'=>e= .returned (.int .i64 (if pM tr l then 0 else 1))/\aq w w':=by
 refine iU.ah ?_;refine (qi h hn).mono ?_;rintro e w1 ⟨rfl,J⟩;refine ⟨_,rfl,ao (fun r=> ⟨?_,J⟩) (fun r=> (fg (Y.grow J) U X).mono ?_)⟩
 . have r:nH tr=false:=by simpa using r
   unfold pM;rw [r];rfl
 have r:nH tr=true:=by simpa using r
 rintro e w3 ⟨rfl,Q⟩;refine ⟨_,rfl,ao (fun I=> ⟨?_,J.trans Q⟩) (fun I=> ?_)⟩
 . have:iu l=false:=by
    cases e:iu l with
    |false=>rfl
    |true=>rw [e] at I;simp at I
   unfold pM;rw [this,Bool.and_false];rfl
 have I:iu l=true:=by
  cases e:iu l with
  |true=>rfl
  |false=>rw [e] at I;simp at I
 obtain ⟨ok,hl⟩:=mV r;refine (rq (h.grow (J.trans Q)) hn ok hl (Y.grow (J.trans Q)) U X (fh I).1).mono ?_;rintro e Z ⟨rfl,V⟩;refine ⟨_,rfl,ao (fun O=> ⟨?_,(J.trans Q).trans V⟩) (fun O=> ⟨?_,(J.trans Q).trans V⟩)⟩
 . have O:Ax tr l=false:=by simpa using O
   unfold pM;rw [O,Bool.and_false];rfl
 . have O:Ax tr l=true:=by simpa using O
   unfold pM;rw [r,I,O];rfl
end
section
variable {W0 w w':World} {p q:Option Addr} {n c m d ns b1 b2 nb:Nat} {tr:List As} {l:List Int} {s:Int->Bool}
structure u7 (W0 w:World) (ns:Nat) (p:Option Addr) (n c:Nat) (tr:List As) (b1 b2:Nat):Prop where
 tv:TV W0 p tr
 hn:n=tr.length
 ok:eB tr
 hl:tr.length<=4096
 G:aq W0 w
 h:bF w ns #[.slice p n c,.map (some b1),.map (some b2)]
 M:MI prog aC aC w b1 tr.length (se tr)
 f2:W0.heap.size<=b2
 d1:b1≠b2
 d2:ns≠b2
theorem u7.keep {S:Nat->Prop} (h:u7 W0 w ns p n c tr b1 b2) (m:aE S w w') (J: ∀b,S b->W0.heap.size<=b) (h1: ¬S ns) (I: ¬S b1):u7 W0 w' ns p n c tr b1 b2:=
 ⟨h.tv,h.hn,h.ok,h.hl,h.G.then m fun x O e=>by have:=J x e;omega,h.h.keep m h1,h.M.keep m I,h.f2,h.d1,h.d2⟩
theorem u7.grow (h:u7 W0 w ns p n c tr b1 b2) (m:aq w w'):u7 W0 w' ns p n c tr b1 b2:=h.keep m (fun _ e=>e.elim) id id
theorem u7.put (h:u7 W0 w ns p n c tr b1 b2) (m:aE (·=b2) w w'):u7 W0 w' ns p n c tr b1 b2:=h.keep m (fun _ (e:_=b2)=>by subst e;exact h.f2) h.d2 h.d1
theorem rI {l:Int} (h: -9223372036854775808<l) (I:l<9223372036854775808) (w:World):Calls prog bU.id #[.int .i64 l] w fun e w'=>e= .returned (.int .i64 (am l))/\w'=w:=by
 refine bU.ah ?_;unfold bU.w;rw [aB (x:=0 - l) (by omega) (by omega)];refine ⟨?_,rfl⟩;unfold imax am;congr 2;split<;>split<;>omega
theorem y_ (h:u7 W0 w ns p n c tr b1 b2) {x:Int} (J:jk tr x):Calls prog cw.id #[.pointer (some ⟨ns,0,none⟩),.int .i64 x] w fun e w'=>e= .returned (.int .i64 (lv tr x))/\w'=w.drew:=by
 refine cw.ah ?_;have hb:=cH J.pw;have H:bF w.drew ns _:=h.h.drew;have sl:w.drew.cell? ((Addr.mk ns 0 none).add 0)=some (.slice p n c):=ad H rfl;have mp:w.drew.cell? ((Addr.mk ns 0 none).add 1)=some (.map (some b1)):=ad H rfl;have O:aq w w.drew:=(aE.refl w).drew;have I: ∀ {Q:Ending->World->Prop},Q (.returned (.int .i64 (am x))) w.drew->Calls prog bU.id #[.int .i64 x] w.drew Q:=fun U=>by
  refine (rI (by omega) (by omega) w.drew).mono ?_;rintro e u ⟨rfl,rfl⟩;exact U
 have di:(Instr.lookup gE (.map (some b1)) (.int .i64 (am x)) false).run prog w.drew= .ok (.int .i64 (se tr (am x))) w.drew:=(h.M.grow O).di jd (mw J.pw);have fI:aV p n (IntKind.i64.wrap (se tr (am x) - 1)) 3 fun a=> ∃y:Int,w.drew.cell? (a.add 1)=some (.int .i64 y)/\(Ending.returned (.int .i64 y)= .returned (.int .i64 (lv tr x))/\w.drew=w.drew):=by
  rw [kN h.hl J.lt];exact (h.tv.grow (h.G.trans O)).ix h.hn _ rfl J.lt fun a s C X V v=> ⟨_,C.2.1,rfl,rfl⟩
 refine ⟨_,rfl,_,rfl,⟨_,_,_,sl,⟨_,mp,I ⟨_,rfl,_,_,di,fI⟩⟩,I ⟨_,rfl,_,mp,_,_,di,fI⟩⟩,
  ⟨_,mp,⟨_,_,_,sl,I ⟨_,rfl,_,_,di,fI⟩⟩,I ⟨_,rfl,⟨_,_,_,sl,_,_,di,fI⟩,⟨_,_,di,_,_,_,sl,fI⟩⟩⟩,
  I ⟨_,rfl,_,mp,⟨_,_,_,sl,_,_,di,fI⟩,⟨_,_,di,_,_,_,sl,fI⟩⟩⟩
theorem uC (h:u7 W0 w ns p n c tr b1 b2) {x:Int} (J:jk tr x):Calls prog cw.id #[.pointer (some ⟨ns,0,none⟩),.int .i64 x] w fun e w'=>e= .returned (.int .i64 (lv tr x))/\aq w w':=
 (y_ h J).mono fun _ _ ⟨h1,I⟩=> ⟨h1,by rw [I];exact (aE.refl w).drew⟩
theorem pI (h:u7 W0 w ns p n c tr b1 b2) (M:MS prog aC cV w b2 nb s) (hc:Vw (Value.int .i64) W0 q l) (Z:m=l.length) (hx:nb+l.length<=10000000) (hi: ∀x∈l,vn x=true) (DT:Int):
 Calls prog eZ.id #[.pointer (some ⟨ns,0,none⟩),.slice q m d,.int .i64 DT] w fun e w'=>e= .returned (.tuple #[])/\u7 W0 w' ns p n c tr b1 b2/\∃J O,J<=nb+l.length/\MS prog aC cV w' b2 J O/\∀u,O u=(s u||decide (u∈l/\u≠DT)):=by
 refine eZ.ah ?_;refine ⟨fun I w' k=> ∃ (t J:Nat) (O:Int->Bool),I=t/\t<=l.length/\k=l.length - t/\J<=nb+t/\u7 W0 w' ns p n c tr b1 b2/\MS prog aC cV w' b2 J O/\∀u,O u=(s u||decide (u∈l.take t/\u≠DT)),⟨_,0,nb,s,rfl,Nat.zero_le _,rfl,Nat.le_refl _,h,M,fun u=>by simp⟩,?_⟩;rintro I w5 k _ ⟨t,J,O,rfl,ht,rfl,hb,S,U,hs⟩;refine ao (fun r=> ?_) (fun r=> ?_)
 . have r:t<l.length:=by simp at r;omega
   refine (hc.grow S.G).ix 0 (by omega) Z (by omega) fun a e=> ⟨_,e,?_⟩
   rw [Int.toNat_natCast];refine ao (fun Q=> ⟨_,rfl,_,ad S.h rfl,?_⟩) (fun Q=> ⟨_,?_,t+1,J,O,wN (by omega) (by omega),by omega,rfl,by omega,S,U,fun u=> ?_⟩)
   . have Q:l.getD t 0≠DT:=by simpa using Q
     obtain ⟨V,hr,X,Y⟩:=U.put jb (by unfold maxLen;omega) (A6 (hi _ (bM r)));refine ⟨V,hr,_,?_,t+1,J+1,_,wN (by omega) (by omega),by omega,rfl,by omega,S.put Y,X,fun u=> ?_⟩
     . omega
     . simp only [fm r,hs u];by_cases e:u=l.getD t 0
       . rw [if_pos e];have:decide ((u∈l.take t\/u=l.getD t 0)/\u≠DT)=true:=decide_eq_true ⟨.inr e,e▸Q⟩;rw [this,Bool.or_true]
       . rw [if_neg e];exact congrArg (s u|| ·) (decide_eq_decide.2 ⟨fun h=> ⟨.inl h.1,h.2⟩,fun h=> ⟨h.1.resolve_right e,h.2⟩⟩)
   . omega
   . have Q:l.getD t 0=DT:=by simpa using Q
     rw [hs u];refine congrArg (s u|| ·) (decide_eq_decide.2 ?_);rw [fm r];constructor
     . rintro ⟨a,b⟩;exact ⟨.inl a,b⟩
     . rintro ⟨a|a,b⟩
       . exact ⟨a,b⟩
       . exact absurd (a.trans Q) b
 . have r:t=l.length:=by simp at r;omega
   subst r;rw [List.take_length] at hs;exact ⟨rfl,S,J,O,by omega,U,hs⟩
def rx (tr:List As) (c:List Int) (L N P:Int):Prop:=
 (c= []/\L=0/\N=0/\P= -1)\/((∀x∈c,lv tr x<=L)/\N=fO tr c L/\0<N/\(∃x∈c,lv tr x=L/\(cQ tr (am x):Int)=P)/\∀x∈c,lv tr x=L->(cQ tr (am x):Int)<=P)
theorem rx.Mp {c k:List Int} {L N P:Int} (h:rx tr c L N P) (e:c.Perm k):rx tr k L N P:=by
 rcases h with ⟨rfl,h⟩| ⟨h1,J,Q,⟨x,I,O⟩,h5⟩
 . exact .inl ⟨e.nil_eq.symm,h⟩
 . exact .inr ⟨fun x I=>h1 x (e.mem_iff.2 I),by rw [J];unfold fO;rw [e.countP_eq],Q,⟨x,e.mem_iff.1 I,O⟩,fun x I=>h5 x (e.mem_iff.2 I)⟩
theorem rx.step {c:List Int} {L N P a:Int} (h:rx tr c L N P):
 (N=0\/L<lv tr a->rx tr (a::c) (lv tr a) 1 (cQ tr (am a)))/\(N≠0->lv tr a=L->rx tr (a::c) L (N+1) (imax P (cQ tr (am a))))/\(N≠0->lv tr a<L->rx tr (a::c) L N P):=by
 refine ⟨fun e=> ?_,fun hN e=> ?_,fun hN e=> ?_⟩
 . have all: ∀x∈c,lv tr x<lv tr a:=by
    rcases h with ⟨rfl,h⟩| ⟨h1,O,Q,_⟩
    . simp
    . intro x J;have:=h1 x J;omega
   refine .inr ⟨fun x J=> ?_,?_,by omega,⟨a,by simp,rfl,rfl⟩,fun x J hl=> ?_⟩
   . rcases List.mem_cons.1 J with e|e
     . rw [e];exact Int.le_refl _
     . have:=all x e;omega
   . have:c.countP (fun x=>lv tr x==lv tr a)=0:=List.countP_eq_zero.2 fun x J=>by
      have:=all x J;simp;omega
     unfold fO;rw [List.countP_cons,this];simp
   . rcases List.mem_cons.1 J with e|e
     . rw [e];exact Int.le_refl _
     . have:=all x e;omega
 . rcases h with ⟨rfl,h⟩| ⟨h1,O,Q,⟨y,U,V,X⟩,h5⟩
   . exact absurd h.2.1 hN
   . refine .inr ⟨fun x J=> ?_,?_,by omega,?_,fun x J hl=> ?_⟩
     . rcases List.mem_cons.1 J with I|I
       . rw [I,e];exact Int.le_refl _
       . exact h1 x I
     . rw [O];unfold fO;rw [List.countP_cons,if_pos (by simpa using e)];simp
     . unfold imax;split
       . exact ⟨a,by simp,e,rfl⟩
       . exact ⟨y,List.mem_cons_of_mem _ U,V,X⟩
     . unfold imax;rcases List.mem_cons.1 J with I|I
       . subst I;split<;>omega
       . have:=h5 x I hl;split<;>omega
 . rcases h with ⟨rfl,h⟩| ⟨h1,O,Q,⟨y,U,V⟩,h5⟩
   . exact absurd h.2.1 hN
   . refine .inr ⟨fun x J=> ?_,?_,Q,⟨y,List.mem_cons_of_mem _ U,V⟩,fun x J hl=> ?_⟩
     . rcases List.mem_cons.1 J with I|I
       . rw [I];omega
       . exact h1 x I
     . rw [O];unfold fO;rw [List.countP_cons,if_neg (by simp;omega)];simp
     . rcases List.mem_cons.1 J with I|I
       . subst I;omega
       . exact h5 x I hl
def qV (s lf:Int->Bool) (V:List Int):Prop:=V.Nodup/\∀x,x∈V↔s x=true/\lf x=false
theorem qV.nil:qV s s []:=⟨List.nodup_nil,fun x=>by
 constructor
 . intro h;simp at h
 . rintro ⟨a,b⟩;rw [a] at b;simp at b⟩
theorem qV.step {lf:Int->Bool} {V:List Int} {a:Int} (h:qV s lf V) (ha:lf a=true) (hs:s a=true):qV s (fun x=>lf x && x !=a) (a::V):=by
 refine ⟨List.nodup_cons.2 ⟨fun e=> ?_,h.1⟩,fun x=> ?_⟩
 . have:=((h.2 a).1 e).2;rw [ha] at this;simp at this
 . rw [List.mem_cons,h.2 x];constructor
   . rintro (rfl| ⟨h1,I⟩)
     . exact ⟨hs,by simp⟩
     . exact ⟨h1,by show (lf x && x !=a)=false;rw [I];rfl⟩
   . rintro ⟨h1,I⟩;by_cases e:x=a
     . exact .inl e
     . refine .inr ⟨h1,?_⟩;simpa [e] using I
theorem qV.MP {lf:Int->Bool} {V:List Int} {a:Int} (h:qV s lf V) (ha:lf a=true) (hs:s a=true):qV s (fun x=>lf x && x !=a) (V++ [a]):=by
 have I:=h.step ha hs;have e:(V++ [a]).Perm (a::V):=List.perm_append_comm (l₁:=V) (l₂:= [a]);exact ⟨e.nodup_iff.2 I.1,fun x=>e.mem_iff.trans (I.2 x)⟩
theorem qV.done {lf:Int->Bool} {V c:List Int} (h:qV s lf V) (hl: ∀a,lf a=false) (J: ∀x,s x=true↔x∈c) (I:c.Nodup):V.Perm c:=
 (List.perm_ext_iff_of_nodup h.1 I).2 fun x=>by rw [h.2 x,hl x,<- J x];simp
theorem Fi (h:u7 W0 w ns p n c tr b1 b2) (M:MS prog aC cV w b2 nb s) {k:List Int} (hs: ∀x,s x=true↔x∈k) (hd:k.Nodup) (hb: ∀x∈k,jk tr x):
 Calls prog eV.id #[.pointer (some ⟨ns,0,none⟩)] w fun e w'=> ∃L N P:Int,e= .returned (.tuple #[.int .i64 L,.int .i64 N,.int .i64 P])/\rx tr k L N P/\aq w w':=by
 refine eV.ah ?_;obtain ⟨w3,nr,hr,R,g3⟩:=M.range jb;have b7:=R.lt;refine ⟨_,rfl,_,ad h.h rfl,w3,_,hr,?_⟩;refine ⟨fun L N P u z=> ∃ (V:List Int) (lf:Int->Bool),qV s lf V/\rx tr V L N P/\(∀x,lf x=true->s x=true)/\MR prog aC cV u b2 w.heap.size nb s lf z/\aq w u,⟨_,[],s,qV.nil,.inl ⟨rfl,rfl,rfl,rfl⟩,fun x=>id,R,g3⟩,?_⟩;rintro L N P b3 z _ ⟨V,lf,v,T,ay,bv,G⟩;rcases bv.next jb 0 with ⟨h0,hl,Z⟩| ⟨a,va,an,z',ha,b',Z,aT,a',hz,bx⟩
 . exact .inl ⟨b3,Z,_,_,_,rfl,T.Mp (v.done hl hs hd),G⟩
 refine .inr ⟨an,_,_,Z,an,_,_,aT,?_⟩;have aa:aq w an:=aE.bW G bx (Nat.le_refl _);have a6:=ay a ha;have hB:=hb a ((hs a).1 a6);have b8:=cH hB.pw;have v':=v.step ha a6;have I: ∀x,(lf x && x !=a)=true->s x=true:=fun x e=>ay x (by simp at e;exact e.1);have T':=T.step (a:=a);refine (uC (h.grow aa) hB).mono ?_;rintro e J ⟨rfl,ac⟩;have ax:=a'.grow ac;have az:=(h.grow (aa.trans ac)).grow (aE.refl J).drew;have g0:aq J.drew J.drew:=aE.refl _;have X:aq w J.drew:=(aa.trans ac).trans (aE.refl J).drew;have mp: ∀ {u:World},aq J.drew u->u.cell? ((Addr.mk ns 0 none).add 1)=some (.map (some b1)):=fun g=>ad (az.h.grow g) rfl;have U: ∀ {Q:Ending->World->Prop},(∀u,aq J.drew u->Q (.returned (.int .i64 (am a))) u)->Calls prog bU.id #[.int .i64 a] J.drew Q:=fun hQ=>by
  refine (cN (by omega) (by omega) J.drew).mono ?_;rintro e u ⟨rfl,g⟩;exact hQ u g
 have di: ∀ {u:World},aq J.drew u->(Instr.lookup gE (.map (some b1)) (.int .i64 (am a)) false).run prog u= .ok (.int .i64 (se tr (am a))) u:=fun g=> (az.M.grow g).di jd (mw hB.pw);have O: ∀ {u:World},aq J.drew u->MR prog aC cV u b2 w.heap.size nb s (fun x=>lf x && x !=a) z':=fun g=>ax.drew.grow g;have hw:=kN h.hl hB.lt;have N0:0<=N/\N<=1000000:=by
  have b9:N<=V.length:=by
   rcases T with ⟨rfl,_,e,_⟩| ⟨_,e,_⟩
   . rw [e];simp
   . rw [e];have:fO tr V L<=V.length:=List.countP_le_length;omega
  have b6:V.length<=tr.length:=by
   have inj:(V.map fun x=>cQ tr (am x)).Nodup:=by
    refine List.pairwise_map.2 (List.Pairwise.imp_of_mem (fun {x y} hx hy bb e=> ?_) v.1);exact bb ((hb x ((hs x).1 ((v.2 x).1 hx).1)).same (hb y ((hs y).1 ((v.2 y).1 hy).1)) e)
   have:=List.Nodup.length_le_of_subset inj (l₂:=List.range tr.length) fun y hy=>by
    obtain ⟨x,hx,rfl⟩:=List.mem_map.1 hy;exact List.mem_range.2 (hb x ((hs x).1 ((v.2 x).1 hx).1)).lt
   simpa using this
  have:=h.hl;refine ⟨?_,by omega⟩;rcases T with ⟨_,_,e,_⟩| ⟨_,_,e,_⟩<;>omega
 refine ⟨_,rfl,ao (fun r=> ?_) (fun r=>ao (fun r2=> ?_) (fun r2=>ao (fun r3=> ?_) (fun r3=> ?_)))⟩
 . have r:N=0:=by simpa using r
   have Y:=T'.1 (.inl r);rw [<- hw] at Y;exact ⟨_,rfl,⟨_,mp g0,U fun u g=> ⟨_,rfl,u,_,di g,z',hz,_,_,v',Y,I,O g,X.trans g⟩⟩,U fun u g=> ⟨_,rfl,_,mp g,u,_,di g,z',hz,_,_,v',Y,I,O g,X.trans g⟩⟩
 . have r2:L<lv tr a:=by simpa using r2
   have Y:=T'.1 (.inr r2);rw [<- hw] at Y;exact ⟨_,rfl,⟨_,mp g0,U fun u g=> ⟨_,rfl,u,_,di g,z',hz,_,_,v',Y,I,O g,X.trans g⟩⟩,U fun u g=> ⟨_,rfl,_,mp g,u,_,di g,z',hz,_,_,v',Y,I,O g,X.trans g⟩⟩
 . have r:N≠0:=by simpa using r
   have r3:lv tr a=L:=by simpa using r3
   have Y:=T'.2.1 r r3;rw [<- hw,<- aB (x:=N+1) (by omega) (by omega)] at Y;exact ⟨_,rfl,⟨_,mp g0,U fun u g=> ⟨_,rfl,u,_,di g,z',hz,_,_,v',Y,I,O g,X.trans g⟩⟩,U fun u g=> ⟨_,rfl,_,mp g,u,_,di g,z',hz,_,_,v',Y,I,O g,X.trans g⟩⟩
 . have r:N≠0:=by simpa using r
   have r2: ¬L<lv tr a:=by simpa using r2
   have r3:lv tr a≠L:=by simpa using r3
   exact ⟨z',hz,_,_,v',T'.2.2 r (by omega),I,ax,aa.trans ac⟩
end
section
variable {W0 w w':World} {p q:Option Addr} {n c m d ns b1 b2 nb:Nat} {tr:List As} {l:List Int} {s:Int->Bool}
theorem FU {V:List Int} (Q:V.Nodup) (hb: ∀x∈V,jk tr x):V.length<=tr.length:=by
 have inj:(V.map fun x=>cQ tr (am x)).Nodup:=by
  refine List.pairwise_map.2 (List.Pairwise.imp_of_mem (fun {x y} I O J e=> ?_) Q);exact J ((hb x I).same (hb y O) e)
 have:=List.Nodup.length_le_of_subset inj (l₂:=List.range tr.length) fun y O=>by
  obtain ⟨x,I,rfl⟩:=List.mem_map.1 O;exact List.mem_range.2 (hb x I).lt
 simpa using this
theorem CL (ok:eB tr) (hl:tr.length<=4096) {x:Int} (I:jk tr x):0<=lv tr x/\lv tr x<=4096:=by
 have h1:=ok.nn I.lt;have J:=ok.le I.lt;have O:=I.lt;unfold lv;omega
theorem JZ (h:u7 W0 w ns p n c tr b1 b2) {n1:Nat} (hc:bF w n1 #[.pointer (some ⟨ns,0,none⟩)]) {x y:Int} (O:jk tr x) (J:jk tr y):
 Calls prog bG.id #[.int .i64 x,.int .i64 y,.pointer (some ⟨n1,0,none⟩)] w fun e w'=>e= .returned (.int .i64 (lH tr x y))/\rH w w':=by
 refine bG.ah ?_;have Z:rH w w.drew:=(rH.refl w).drew;have cl: ∀ {u:World},rH w u->u.cell? (Addr.mk n1 0 none)=some (.pointer (some ⟨ns,0,none⟩)):=fun g=>aR (hc.grow g.grow) rfl;have I: ∀ {u:World} {z:Int} {Q:Ending->World->Prop},jk tr z->rH w u->(∀v,rH w v->Q (.returned (.int .i64 (lv tr z))) v)->Calls prog cw.id #[.pointer (some ⟨ns,0,none⟩),.int .i64 z] u Q:=by
  intro u z Q hz g hQ;refine (y_ (h.grow g.grow) hz).mono ?_;rintro e v ⟨rfl,rfl⟩;exact hQ _ g.drew
 have AM: ∀ {u:World} {z:Int} {Q:Ending->World->Prop},jk tr z->rH w u->(∀v,rH w v->Q (.returned (.int .i64 (am z))) v)->Calls prog bU.id #[.int .i64 z] u Q:=by
  intro u z Q hz g hQ;have hb:=cH hz.pw;refine (rI (by omega) (by omega) u).mono ?_;rintro e v ⟨rfl,rfl⟩;exact hQ _ g
 have bx:=CL h.ok h.hl O;have bY:=CL h.ok h.hl J;have ax:=zS (x:=x) O.pw;have ay:=zS (x:=y) J.pw;have F1:(lv tr x !=lv tr y)=true->IntKind.i64.wrap (lv tr y - lv tr x)=lH tr x y:=fun r=>by
  have r:lv tr x≠lv tr y:=by simpa using r
  rw [aB (by omega) (by omega)];unfold lH;rw [if_pos r]
 have F2:(lv tr x !=lv tr y)=false->IntKind.i64.wrap (am x - am y)=lH tr x y:=fun r=>by
  have r:lv tr x=lv tr y:=by simpa using r
  rw [aB (by omega) (by omega)];unfold lH;rw [if_neg (by omega)]
 refine ⟨_,cl Z,I O Z fun u1 X=> ⟨_,rfl,_,cl X,I J X fun u2 g2=> ⟨_,rfl,?_⟩⟩,_,cl Z,I O Z fun u1 X=> ⟨_,rfl,I J X fun u2 g2=> ⟨_,rfl,?_⟩⟩⟩;all_goals
  have Y:=g2.drew;exact ao (fun r=> ⟨_,cl Y,I J Y fun u3 U=> ⟨_,rfl,_,cl U,I O U fun u4 V=> ⟨_,rfl,by rw [F1 r],V⟩⟩,_,cl Y,I J Y fun u3 U=> ⟨_,rfl,I O U fun u4 V=> ⟨_,rfl,by rw [F1 r],V⟩⟩⟩)
   (fun r=>AM O g2 fun u3 U=> ⟨_,rfl,AM J U fun u4 V=> ⟨_,rfl,by rw [F2 r],V⟩⟩)
theorem IN:fM prog bG.id=true:=by kernel_rfl
theorem Bc (h:u7 W0 w ns p n c tr b1 b2) (M:MS prog aC cV w b2 nb s) {k:List Int} (hs: ∀x,s x=true↔x∈k) (hd:k.Nodup) (hb: ∀x∈k,jk tr x):
 Calls prog cM.id #[.pointer (some ⟨ns,0,none⟩)] w fun e w'=> ∃ (q:Option Addr) (d:Nat),e= .returned (.slice q (iZ tr k).length d)/\eC aC w' q d (iZ tr k)/\aq w w':=by
 refine cM.ah ?_;intro n1 w2 h2;have e1:=h2.num;have G2:=h2.mod;obtain ⟨w6,nr,hr,R,g6⟩:=(M.grow G2).range jb;have H1:bF w6 n1 #[.pointer (some ⟨ns,0,none⟩)]:=h2.has.grow g6;have c2:=G2.size;have b':=R.lt;have S6:=h.grow (G2.trans g6);have c1:=h.h.lt;have c0:=h.M.lt;have cp:=h.G.size;have ce:=h2.has.lt;refine ⟨_,aR h2.has rfl,_,rfl,_,ad (h.h.grow G2) rfl,w6,_,hr,?_⟩;refine ⟨fun pm nm cm u z=> ∃ (V:List Int) (lf:Int->Bool),qV s lf V/\nm=V.length/\(∀x,lf x=true->s x=true)/\MR prog aC cV u b2 w2.heap.size nb s lf z/\eC aC u pm cm V/\(∀b,aI pm=some b->w6.heap.size<=b)/\aE (·=w2.heap.size) w6 u,
  ⟨_,[],s,qV.nil,rfl,fun x=>id,R,Ow.nil _ _ _,fun b hb=>by simp [aI] at hb,aE.refl w6⟩,?_⟩
 rintro pm nm cm U z _ ⟨V,lf,v,rfl,ap,ax,O,fr,I⟩;have hV: ∀x∈V,jk tr x:=fun x Z=>hb x ((hs x).1 ((v.2 x).1 Z).1);have b_:=FU v.1 hV;have hl:=h.hl;rcases ax.next jb 0 with ⟨h0,hl,Q⟩| ⟨a,va,aw,z',ha,cT,Q,av,a',hz,ay⟩
 . have a_:u7 W0 U ns p n c tr b1 b2:=S6.keep I (fun b (e:b=_)=>by omega) (fun (e:ns=_)=>by omega) (fun (e:b1=_)=>by omega);have az:bF U n1 #[.pointer (some ⟨ns,0,none⟩)]:=H1.keep I fun (e:n1=_)=>by omega
   have X:Cx U pm V.length V bG.id #[.pointer (some ⟨n1,0,none⟩)] (lH tr):=by
    refine ⟨rfl,by omega,IN,fun x Z y hy w' m'=> ?_,ud tr⟩;have:(#[]++ #[Value.int .i64 x,.int .i64 y]++ #[.pointer (some ⟨n1,0,none⟩)]:Array Value)= #[.int .i64 x,.int .i64 y,.pointer (some ⟨n1,0,none⟩)]:=by simp
    rw [this];have s6:=g6.size;refine JZ (a_.keep m' (fun b e=> ?_) (fun e=> ?_) (fun e=> ?_)) (az.keep m' fun e=> ?_) (hV x Z) (hV y hy);all_goals
     have:=fr _ e;omega
   refine .inl ⟨U,Q,(yo X O).mono ?_⟩;rintro e c7 ⟨rfl,l1,o1,m1,p1,s1⟩;have pk:=v.done hl hs hd;have eq:l1=iZ tr k:=Dj h.ok hb (fun x=> (p1.mem_iff.trans pk.mem_iff)) (p1.nodup_iff.2 v.1) s1;subst eq;refine ⟨rfl,_,_,by rw [p1.length_eq],o1,?_⟩;have s6:=g6.size;refine (((G2.trans g6).then I fun x Z (e:x=_)=> ?_).then m1 fun x Z e=> ?_)
   . omega
   . have:=fr x e;omega
 refine .inr ⟨aw,_,_,Q,aw,_,_,av,fun n21 bk J=> ?_⟩;have bv:=ap a ha;have Y:=ay.grow J.mod;have bb:eC aC bk pm cm V:=O.keep Y fun b e e2=>by
  have:=fr b e;omega
 have s6:=g6.size;have b5:=(I.trans Y).size;refine bb.kZ dN a J.has rfl rfl fH (by omega) fun cc p' c' o' m' a6 bx=> ?_;refine ⟨z',hz,V++ [a],_,v.MP ha bv,by simp,fun x e=>ap x (by simp at e;exact e.1),(a'.grow J.mod).keep m' (fun e=> ?_) (fun e=> ?_),o',fun b hb=> ?_,(I.trans Y).then m' fun x Z e=> ?_⟩
 . have:=fr _ e;have:=M.lt;omega
 . have:=fr _ e;omega
 . rcases a6 with rfl|rfl
   . exact fr b hb
   . have:=bg hb;have:=J.num;have:=J.size;omega
 . have:=fr x e;omega
def lG (tr:List As) (k:List Int):Int:=k.foldl (fun m x=>if lv tr x>m then lv tr x else m) 0
theorem jZ (tr:List As): ∀ (k:List Int) (m:Int),(m<=k.foldl (fun m x=>if lv tr x>m then lv tr x else m) m)/\(∀x∈k,lv tr x<=k.foldl (fun m x=>if lv tr x>m then lv tr x else m) m)/\(k.foldl (fun m x=>if lv tr x>m then lv tr x else m) m=m\/∃x∈k,lv tr x=k.foldl (fun m x=>if lv tr x>m then lv tr x else m) m)
 | [],m=> ⟨Int.le_refl _,by simp,.inl rfl⟩
 |y::t,m=>by
  rw [List.foldl_cons];generalize O:(if lv tr y>m then lv tr y else m)=X;have hm:m<=X/\lv tr y<=X/\(X=m\/X=lv tr y):=by
   rw [<- O];split<;>omega
  obtain ⟨h1,J,Q⟩:=jZ tr t X;refine ⟨by omega,fun x I=> ?_,?_⟩
  . rcases List.mem_cons.1 I with e|e
    . subst e;omega
    . exact J x e
  . rcases Q with e| ⟨x,I,e⟩
    . rcases hm.2.2 with h|h
      . exact .inl (e.trans h)
      . exact .inr ⟨y,by simp,(e.trans h).symm⟩
    . exact .inr ⟨x,List.mem_cons_of_mem _ I,e⟩
theorem uF (tr:List As) (k:List Int):0<=lG tr k:=(jZ tr k 0).1
theorem qS {k:List Int} {x:Int} (h:x∈k):lv tr x<=lG tr k:=(jZ tr k 0).2.1 x h
theorem ED {k:List Int} {L:Int} (U:0<=L) (h1: ∀x∈k,lv tr x<=L) (I:L=0\/∃x∈k,lv tr x=L):lG tr k=L:=by
 have a:=uF tr k;have b:=(jZ tr k 0).2.2;rcases I with I| ⟨x,J,e⟩
 . rcases b with b| ⟨x,J,e⟩
   . exact b.trans I.symm
   . have:=h1 x J;unfold lG at*
     omega
 . have:=qS (tr:=tr) J;rcases b with b| ⟨y,O,Q⟩
   . unfold lG at*;omega
   . have:=h1 y O;unfold lG at*
     omega
def sF (tr:List As) (l:List Int):List Int:=iZ tr (lrn tr (lG tr (bh l)) tr.length (bh l))
theorem KY (ok:eB tr) (hb: ∀x∈l,jk tr x):In tr (lG tr (bh l)) (bh l) tr.length:=by
 have I: ∀x∈bh l,jk tr x:=fun x J=>hb x (((cE l).mem x).1 J);refine ⟨I,fun x J=>qS J,fun x J _=> (I x J).lt,?_,uF _ _,(cE l).st⟩;cases hn:bh l with
 |nil=>exact .inl rfl
 |cons y t=>
  refine .inr (mT.2 ?_);rw [<- hn];rcases (jZ tr (bh l) 0).2.2 with e| ⟨x,J,e⟩
  . have O:y∈bh l:=by rw [hn];simp
    have h1:=qS (tr:=tr) O;have Q:=ok.nn (I y O).lt;refine ⟨y,O,?_⟩;have:lv tr y=(aS tr (cQ tr (am y))).bj:=rfl;unfold lG at*
    omega
  . exact ⟨x,J,e⟩
end
section
variable {W0 w w':World} {p q:Option Addr} {n c m d ns b1 b2 nb:Nat} {tr:List As} {l:List Int} {s:Int->Bool}
theorem TV.Nf (h:TV w p tr) (g:aq w w') (hn:n=tr.length) {X:Int} (i:Nat) (e:X=i) (hi:i<tr.length) {K:Addr->Prop}
 (J: ∀a (s:Sl),aD w' a 0 [.int .i64 (aS tr i).lit,.int .i64 (aS tr i).bj,.slice s.p s.n s.c]->s.n=(aS tr i).rs.length->s.n<=maxLen->Vw (Value.int .i64) w s.p (aS tr i).rs->K a):aV p n X 3 K:=by
 subst e hn;obtain ⟨a,s,rfl,Q,h1,I,O⟩:=h i hi;exact ⟨a,rfl,by omega,by omega,J _ s (by rw [Int.toNat_natCast];exact aD.keep g id Q) h1 I O⟩
theorem Kw {k:List Int} {L J N P:Int} {V:Nat} (T:rx tr k L N P) (I:In tr J k V):N=fO tr k J/\(0<N->∃x∈k,lv tr x=J/\(cQ tr (am x):Int)=P/\∀y∈k,lv tr y=J->(cQ tr (am y):Int)<=P):=by
 rcases T with ⟨rfl,h1,Q,Y⟩| ⟨h1,Q,Y,⟨x,O,hl,hp⟩,h5⟩
 . exact ⟨Q,fun e=>by omega⟩
 . have e:L=J:=by
    have:=I.le x O;rcases I.lS with e|e
    . rw [e] at O;simp at O
    . obtain ⟨y,X,U⟩:=mT.1 e;have:=h1 y X;omega
   subst e;exact ⟨Q,fun _=> ⟨x,O,hl,hp,h5⟩⟩
theorem KS {k:List Int} {L N P:Int} (ok:eB tr) (hb: ∀x∈k,jk tr x) (T:rx tr k L N P):lG tr k=L:=by
 rcases T with ⟨rfl,h1,J,O⟩| ⟨h1,J,O,⟨x,I,hl,hp⟩,h5⟩
 . subst h1;rfl
 . refine ED ?_ h1 (.inr ⟨x,I,hl⟩);have:=ok.nn (hb x I).lt;rw [<- hl];exact this
theorem Eg (h:TV w p tr) (hn:n=tr.length) (hc:Vw (Value.int .i64) w q l) (hk:m=l.length) (hx:m<=maxLen):
 Calls prog iS.id #[.slice p n c,.slice q m d] w fun e w'=> ∃ (q2:Option Addr) (d2:Nat) (o:List Int),o=(if pM tr l then sF tr l else [])/\e= .returned (.tuple #[.slice q2 o.length d2,.int .i64 (if pM tr l then 0 else 1)])/\eC aC w' q2 d2 o/\aq w w':=by
 refine iS.ah ?_;refine (vj h hn hc hk hx).mono ?_;rintro e w1 ⟨rfl,g1⟩;refine ⟨_,rfl,ao (fun r=> ?_) (fun r=> ?_)⟩
 . have r:pM tr l=false:=by
    cases e:pM tr l with
    |false=>rfl
    |true=>rw [e] at r;simp at r
   rw [r];exact ⟨none,0,[],rfl,rfl,Ow.nil _ _ _,g1⟩
 have r:pM tr l=true:=by
  cases e:pM tr l with
  |true=>rfl
  |false=>rw [e] at r;simp at r
 rw [r];have r':=r;unfold pM at r';simp only [Bool.and_eq_true] at r';obtain ⟨⟨r1,r2⟩,r3⟩:=r';obtain ⟨ok,hl⟩:=mV r1;have hB:=j7.1 r3;obtain ⟨Q,hlen⟩:=fh r2;refine (lQ (h.grow g1) hn ok hl).mono ?_;rintro e w3 ⟨b,rfl,M3,g3,fb⟩;refine ⟨_,rfl,fun n5 w6 h6 n7 w8 h8=> ?_⟩;have e5:=h6.num;have e7:=h8.num;have s1:=g1.size;have s3:=g3.size;have s6:=h6.size;have lb:=M3.lt;have S8:u7 w w8 n7 p n c tr b n5:=⟨h,hn,ok,hl,((g1.trans g3).trans h6.mod).trans h8.mod,h8.has,(M3.grow h6.mod).grow h8.mod,by omega,by omega,by omega⟩
 have M8:MS prog aC cV w8 n5 0 fun _=>false:=(MS.new h6).grow h8.mod;refine (pI S8 M8 hc hk (by omega) Q 0).mono ?_;rintro e w9 ⟨rfl,S9,dc,s9,d9,M9,cp⟩;have V: ∀x,s9 x=true↔x∈bh l:=fun x=>by
  rw [cp x,(cE l).mem x];constructor
  . intro e;simp at e;exact e.1
  . intro e;have:=cH (Q x e);simp [e,this.1]
 have bY: ∀x∈bh l,jk tr x:=fun x hx=>hB x (((cE l).mem x).1 hx);refine ⟨rfl,(Fi S9 M9 V (eI (cE l).st) bY).mono ?_⟩;rintro e eu ⟨L,N,P,rfl,T,az⟩;have hL:=KS ok bY T;refine ⟨_,_,_,rfl,?_⟩;refine ⟨fun N P u z=> ∃ (k:List Int) (nb:Nat) (s:Int->Bool) (L':Int),rx tr k L' N P/\In tr L k z/\z<=tr.length/\lrn tr L tr.length (bh l)=lrn tr L z k/\u7 w u n7 p n c tr b n5/\MS prog aC cV u n5 nb s/\(∀x,s x=true↔x∈k)/\nb<=4096+256* (tr.length - z),
  ⟨tr.length,bh l,dc,s9,L,T,hL▸KY ok hB,Nat.le_refl _,rfl,S9.grow az,M9.grow az,V,by omega⟩,?_⟩
 rintro N1 P1 ek z _ ⟨k,nb,s,L',T1,I1,hz,ap,S,M,hs,ej⟩;obtain ⟨hN,hP⟩:=Kw T1 I1;refine ao (fun r=> ?a1) (fun r=>ao (fun r1=>ao (fun r2=> ?a2) (fun r2=> ?b1)) (fun r1=> ?b2))
 case' a1=>have J: ¬(fO tr k L=0\/fO tr k L=1/\0<L):=by simp at r;omega
 case' a2=>have J: ¬(fO tr k L=0\/fO tr k L=1/\0<L):=by simp at r1 r2;omega
 case' b1=>have an:fO tr k L=0\/fO tr k L=1/\0<L:=by have:=uF tr (bh l);simp at r1 r2;omega
 case' b2=>have an:fO tr k L=0\/fO tr k L=1/\0<L:=by simp at r r1;omega
 case b1|b2=>
  refine (Bc S M hs (eI I1.nd) I1.br).mono ?_;rintro e ey ⟨q2,d2,rfl,O,c0⟩;have:sF tr l=iZ tr k:=by
   unfold sF;rw [hL,ap,uH an]
  refine ⟨_,_,_,rfl,q2,d2,_,rfl,?_,?_,S.G.trans c0⟩
  . rw [if_pos rfl,if_pos rfl,this]
  . rw [if_pos rfl,this];exact O
 case a1|a2=>
  obtain ⟨x,hx,cm,b_,bk⟩:=hP (by omega);clear hP;have bb:=I1.br x hx;generalize Z:cQ tr (am x)=I at*
  have hp:I<tr.length:=Z▸bb.lt;have Y:x= -(aS tr I).lit:=by have:=bb.eq;rw [Z] at this;omega
  have a':(aS tr I).bj=L:=by rw [<- cm];unfold lv;rw [Z]
  obtain ⟨I2,aT,c1,b8⟩:=I1.step ok J hp a' (Y▸hx) fun y hy b9=>by have:=bk y hy b9;omega
  obtain ⟨rl,rm,rb⟩:=ok.eE hp c1;have X:=ok.pw I hp;have eH:=cH X;have c7: ∀y∈(aS tr I).rs,vn y=true:=fun y hy=>by
   by_cases e:y=(aS tr I).lit
   . rw [e];exact X
   . exact (rb y hy e).1.pw
  refine TV.Nf h S.G hn I b_.symm hp fun a sl C e1 e2 v=> ⟨_,_,_,_,_,C,fun n24 el av=>BO av fun cb H cT=> ?_⟩
  have en:=av.num;have U:=cT.trans (aE.refl cb).drew;have bx:=S.grow U;have b':=M.grow U;have lm:=M.lt;obtain ⟨a6,hr,b7,b3⟩:=b'.del jb (a:= -(aS tr I).lit) (A6 (HH X)) 0;have c2:=bx.put b3;have a7:bF a6 n24 _:=H.drew.keep b3 fun (e:n24=_)=>by omega
  have ew:IntKind.i64.wrap (0 - (aS tr I).lit)= -(aS tr I).lit:=by rw [aB (by omega) (by omega),Int.zero_sub]
  refine ⟨_,rfl,_,ad bx.h rfl,_,ad H.drew rfl,a6,by rw [ew];exact hr,_,_,_,ad a7 rfl,_,ad a7 rfl,(pI c2 b7 v e1 (by omega) c7 _).mono ?_⟩;rintro e eA ⟨rfl,ar,ce,s',eb,aw,c3⟩;have bv: ∀y,s' y=true↔y∈nM tr I k:=fun y=>by
   rw [c3 y,iV,Bool.or_eq_true,decide_eq_true_eq];refine or_congr ?_ Iff.rfl;by_cases e:y= -(aS tr I).lit
   . rw [if_pos e];simp [e]
   . rw [if_neg e,hs y];exact ⟨fun a=> ⟨a,e⟩,fun a=>a.1⟩
  refine ⟨rfl,(Fi ar aw bv (eI I2.nd) I2.br).mono ?_⟩;rintro e et ⟨L2,N2,P2,rfl,T2,ag⟩;exact ⟨_,_,_,rfl,I,b8,_,ce,s',L2,T2,I2,by omega,ap.trans aT,ar.grow ag,aw.grow ag,bv,by omega⟩
end
section
variable {W0 w w':World} {p q:Option Addr} {n c m d ns b1 b2 nb:Nat} {tr:List As} {l:List Int} {s:Int->Bool}
theorem ER {k:List Int} {t:Nat} (h:t<k.length):lG tr (k.take (t+1))=if lv tr (k.getD t 0)>lG tr (k.take t) then lv tr (k.getD t 0) else lG tr (k.take t):=by
 unfold lG;have:k[t]? =some (k.getD t 0):=by simp [List.getD,h]
 rw [List.take_add_one,this,List.foldl_append];rfl
theorem oX {k:List Int} (h:mG tr k):k.Nodup:=h.imp fun {a b} I e=>by subst e;exact nF tr a I
theorem lE {f:Int->Bool} {k:List Int} {t:Nat} (h:t<k.length):(k.take (t+1)).filter f=(k.take t).filter f++ (if f (k.getD t 0) then [k.getD t 0] else []):=by
 have:k[t]? =some (k.getD t 0):=by simp [List.getD,h]
 rw [List.take_add_one,this,List.filter_append];generalize k.getD t 0=x;cases hf:f x<;>simp [hf]
end
end Go.Proofs.YtenmibfmhccmiaaGreat.W.Le
