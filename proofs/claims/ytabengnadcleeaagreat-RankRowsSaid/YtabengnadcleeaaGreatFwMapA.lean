/- Maps from ints to bools that one has made. -/
import Derived.Test.YtabengnadcleeaaGreatFwMem
import Derived.Maps.Own
import Derived.Maps.OwnSet
import Derived.Maps.Range
namespace Go.Fw
open Go Go.RowKit Go.Maps
variable {P:Program} {t k e:TypeId} {w w':World} {b n:Nat} {s:Int→Bool}
def mapB (P:Program) (t k e:TypeId):Bool:=
 (match P.underlying t with|some (.map k' e')=>Nat.beq k' k && Nat.beq e' e|_=>false) && (match P.underlying k with|some (.int .i64)=>true|_=>false) && (match P.underlying e with|some .bool=>true|_=>false) && (match P.info? e with|some i=> (match i.zero with|some (.bool false)=>true|_=>false)|none=>false)
theorem mapB_spec (h:mapB P t k e=true):P.underlying t=some (.map k e)∧P.underlying k=some (.int .i64)∧P.underlying e=some .bool∧∀w,(zeroValue e).run P w= .ok (.bool false) w:=by
 simp only [mapB,Bool.and_eq_true] at h
 obtain ⟨⟨⟨h1,h2⟩,h3⟩,h4⟩:=h
 split at h1
 · rename_i k' e' hu
   simp only [Bool.and_eq_true] at h1
   have e1:k'=k:=Nat.eq_of_beq_eq_true h1.1
   have e2:e'=e:=Nat.eq_of_beq_eq_true h1.2
   subst e1 e2
   refine ⟨hu,?_,?_,?_⟩
   · split at h2
     · assumption
     · simp at h2
   · split at h3
     · assumption
     · simp at h3
   · intro w
     split at h4
     · rename_i i hi
       split at h4
       · rename_i hz
         unfold zeroValue
         simp only [Sem.run_bind,run_info_some hi,Result.andThen_ok,hz,Sem.run_pure]
       · simp at h4
     · simp at h4
 · simp at h1
def MB (P:Program) (k e:TypeId) (w:World) (b n:Nat) (s:Int→Bool):Prop:=
 ∃D:DataW Unit,w.ownsMap P k (plainElem P e) b n D∧∀a:Int,D.atKey (.int .i64 a) (.lit (.bool false))= .lit (.bool (s a))
theorem MB.lt (h:MB P k e w b n s):b<w.heap.size:=by obtain ⟨D,h,_⟩:=h;exact h.lt
theorem MB.keep {S:Nat→Prop} (h:MB P k e w b n s) (m:Mod S w w') (hs: ¬S b):MB P k e w' b n s:=by
 have hl:=h.lt
 obtain ⟨D,⟨es,clock,hb,h⟩,hd⟩:=h
 exact ⟨D,⟨es,clock,(m.block b hl hs).trans hb,h⟩,hd⟩
theorem MB.grow (h:MB P k e w b n s) (m:Grow w w'):MB P k e w' b n s:=h.keep m id
theorem MB.put' (h:MB P k e w b n s) {c:Nat} (m:Mod (·=c) w w') (hne:b≠c):MB P k e w' b n s:=h.keep m hne
theorem MB.new {b:Nat} (h:New (.map #[] 0) w b w'):MB P k e w' b 0 fun _=>false:=by
 obtain ⟨rfl,rfl⟩:=h
 exact ⟨.map [],World.ownsMap_made w P k _,fun a=>rfl⟩
theorem MB.look (hm:mapB P t k e=true) (h:MB P k e w b n s) {a:Int} (ha:(Lit.int .i64 a).wf=true):(Instr.lookup t (.map (some b)) (.int .i64 a) false).run P w= .ok (.bool (s a)) w:=by
 obtain ⟨ht,hk,he,hz⟩:=mapB_spec hm
 obtain ⟨D,h,hd⟩:=h
 obtain ⟨v,ps,hr,hv⟩:=h.lookup (int_keyed hk) ht (hz w) (plainElem_bool he false) (keyOf_int_mk hk ha)
 rw [hd a] at hv
 have:v= .bool (s a):=by
  unfold plainElem at hv
  rw [he] at hv
  cases v<;>simp_all
 rw [hr,this]
theorem MB.put (hm:mapB P t k e=true) (h:MB P k e w b n s) (hn:n<maxLen) {a:Int} (ha:(Lit.int .i64 a).wf=true) (v:Bool):
 ∃w',(Instr.mapUpdate t (.map (some b)) (.int .i64 a) (.bool v)).run P w= .ok () w'∧MB P k e w' b (n+1) (fun u=>if u=a then v else s u)∧Mod (·=b) w w':=by
 obtain ⟨ht,hk,he,hz⟩:=mapB_spec hm
 obtain ⟨D,h,hd⟩:=h
 have him:=h.isMap
 obtain ⟨w',hr,h',hg⟩:=h.update (int_keyed hk) ht hn (keyOf_int_mk hk ha) (plainElem_bool (H:=Unit) he v)
 refine ⟨w',hr,⟨_,h',fun u=> ?_⟩,⟨hg.os,hg.tape,hg.output,hg.size,fun i hi hn=>hg.block i hi fun e=>hn (Option.some.inj e)⟩⟩
 by_cases hu:u=a
 · subst hu
   exact (atKey_put_same him (show WideAt.IsKeyLit (.int .i64 u) from trivial) _ _).trans (by simp)
 · exact ((atKey_put_other (fun e=>hu (by injection e)) _ _).trans (hd u)).trans (by simp [hu])
theorem wf64 {a:Int} (h1: -9223372036854775808≤a) (h2:a<9223372036854775808):(Lit.int .i64 a).wf=true:=by
 simp [Lit.wf,IntKind.min,IntKind.max,IntKind.signed,IntKind.bits];omega
end Go.Fw
namespace Go.Fw
open Go Go.RowKit Go.Maps
variable {P:Program} {t k e:TypeId} {w w':World} {b r n cnt:Nat} {s lf:Int→Bool}
def MS (P:Program) (k e:TypeId) (w:World) (b n:Nat) (s:Int→Bool):Prop:=
 ∃D:DataW Unit,w.ownsMap P k (plainElem P e) b n D∧(∀a:Int,D.atKey (.int .i64 a) (.lit (.bool false))= .lit (.bool (s a)))∧∀a:Int,Maps.has D (.int .i64 a)=s a
theorem MS.mb (h:MS P k e w b n s):MB P k e w b n s:=by obtain ⟨D,h1,h2,_⟩:=h;exact ⟨D,h1,h2⟩
theorem MS.lt (h:MS P k e w b n s):b<w.heap.size:=h.mb.lt
theorem MS.keep {S:Nat→Prop} (h:MS P k e w b n s) (m:Mod S w w') (hs: ¬S b):MS P k e w' b n s:=by
 have hl:=h.lt
 obtain ⟨D,⟨es,clock,hb,h⟩,hd⟩:=h
 exact ⟨D,⟨es,clock,(m.block b hl hs).trans hb,h⟩,hd⟩
theorem MS.grow (h:MS P k e w b n s) (m:Grow w w'):MS P k e w' b n s:=h.keep m id
theorem MS.new {b:Nat} (h:New (.map #[] 0) w b w'):MS P k e w' b 0 fun _=>false:=by
 obtain ⟨rfl,rfl⟩:=h
 exact ⟨.map [],World.ownsMap_made w P k _,fun a=>rfl,fun a=>rfl⟩
theorem MS.look (hm:mapB P t k e=true) (h:MS P k e w b n s) {a:Int} (ha:(Lit.int .i64 a).wf=true):(Instr.lookup t (.map (some b)) (.int .i64 a) false).run P w= .ok (.bool (s a)) w:=h.mb.look hm ha
theorem MS.put (hm:mapB P t k e=true) (h:MS P k e w b n s) (hn:n<maxLen) {a:Int} (ha:(Lit.int .i64 a).wf=true):
 ∃w',(Instr.mapUpdate t (.map (some b)) (.int .i64 a) (.bool true)).run P w= .ok () w'∧MS P k e w' b (n+1) (fun u=>if u=a then true else s u)∧Mod (·=b) w w':=by
 obtain ⟨ht,hk,he,hz⟩:=mapB_spec hm
 obtain ⟨D,h,hd,hh⟩:=h
 have him:=h.isMap
 obtain ⟨w',hr,h',hg⟩:=h.update (int_keyed hk) ht hn (keyOf_int_mk hk ha) (plainElem_bool (H:=Unit) he true)
 refine ⟨w',hr,⟨_,h',fun u=> ?_,fun u=> ?_⟩,⟨hg.os,hg.tape,hg.output,hg.size,fun i hi hn=>hg.block i hi fun e=>hn (Option.some.inj e)⟩⟩
 · by_cases hu:u=a
   · subst hu
     exact (atKey_put_same him (show WideAt.IsKeyLit (.int .i64 u) from trivial) _ _).trans (by simp)
   · exact ((atKey_put_other (fun e=>hu (by injection e)) _ _).trans (hd u)).trans (by simp [hu])
 · by_cases hu:u=a
   · subst hu
     exact (has_put_same him (show WideAt.IsKeyLit (.int .i64 u) from trivial) _).trans (by simp)
   · exact ((has_put_other (fun e=>hu (by injection e)) _).trans (hh u)).trans (by simp [hu])
theorem MS.del (hm:mapB P t k e=true) (h:MS P k e w b n s) {a:Int} (ha:(Lit.int .i64 a).wf=true) (ty:TypeId):
 ∃w',(Builtin.delete_ #[t,k] ty #[.map (some b),.int .i64 a]).run P w= .ok (.tuple #[]) w'∧MS P k e w' b n (fun u=>if u=a then false else s u)∧Mod (·=b) w w':=by
 obtain ⟨ht,hk,he,hz⟩:=mapB_spec hm
 obtain ⟨D,h,hd,hh⟩:=h
 obtain ⟨w',hr,h',hg⟩:=h.drop (int_keyed hk) ht (keyOf_int_mk hk ha) ty
 have hg:=hg.grown
 refine ⟨w',hr,⟨_,h',fun u=> ?_,fun u=> ?_⟩,⟨hg.os,hg.tape,hg.output,hg.size,fun i hi hn=>hg.block i hi fun e=>hn (Option.some.inj e)⟩⟩
 · by_cases hu:u=a
   · subst hu
     exact (atKey_del_same _).trans (by simp)
   · exact ((atKey_del_other (fun e=>hu (by injection e)) _).trans (hd u)).trans (by simp [hu])
 · by_cases hu:u=a
   · subst hu
     exact has_del_same.trans (by simp)
   · exact ((has_del_other (fun e=>hu (by injection e))).trans (hh u)).trans (by simp [hu])
theorem MS.len (hm:mapB P t k e=true) (h:MS P k e w b n s) (ty:TypeId): ∃c:Nat,c≤n∧(Builtin.len_ #[t] ty #[.map (some b)]).run P w= .ok (.int .i64 c) w:=by
 obtain ⟨ht,hk,he,hz⟩:=mapB_spec hm
 obtain ⟨D,h,hd,hh⟩:=h
 exact ⟨Maps.size D,h.size_le,h.len ht ty⟩
def MR (P:Program) (k e:TypeId) (w:World) (b r n:Nat) (s lf:Int→Bool) (cnt:Nat):Prop:=
 ∃ (D:DataW Unit) (left:Lit→Bool),w.ranges P k (plainElem P e) b r n D left cnt∧(∀a:Int,D.atKey (.int .i64 a) (.lit (.bool false))= .lit (.bool (s a)))∧(∀a:Int,Maps.has D (.int .i64 a)=s a)∧∀a:Int,left (.int .i64 a)=lf a
theorem MR.ms (h:MR P k e w b r n s lf cnt):MS P k e w b n s:=by
 obtain ⟨D,left,h1,h2,h3,_⟩:=h
 exact ⟨D,h1.owns,h2,h3⟩
theorem MR.lt (h:MR P k e w b r n s lf cnt):r<w.heap.size:=by
 obtain ⟨D,left,h1,_⟩:=h
 exact h1.lt
theorem MR.keep {S:Nat→Prop} (h:MR P k e w b r n s lf cnt) (m:Mod S w w') (h1: ¬S b) (h2: ¬S r):MR P k e w' b r n s lf cnt:=by
 have hl1:=h.ms.lt
 have hl2:=h.lt
 obtain ⟨D,left,⟨es,clock,since,seen,c0,hb,F,hs,hD,hr,rest⟩,h3⟩:=h
 exact ⟨D,left,⟨es,clock,since,seen,c0,(m.block b hl1 h1).trans hb,F,hs,hD,(m.block r hl2 h2).trans hr,rest⟩,h3⟩
theorem MR.grow (h:MR P k e w b r n s lf cnt) (m:Grow w w'):MR P k e w' b r n s lf cnt:=h.keep m id id
theorem MR.drew (h:MR P k e w b r n s lf cnt):MR P k e w.drew b r n s lf cnt:=h.grow (Mod.refl w).drew
theorem MS.range (hm:mapB P t k e=true) (h:MS P k e w b n s): ∃w' cnt,(Instr.range t (.map (some b))).run P w= .ok (.pointer (some ⟨w.heap.size,0,none⟩)) w'∧MR P k e w' b w.heap.size n s s cnt∧Grow w w':=by
 obtain ⟨ht,hk,he,hz⟩:=mapB_spec hm
 obtain ⟨D,h,hd,hh⟩:=h
 obtain ⟨w',hr,hR,hg,_⟩:=h.range (int_keyed hk) ht
 exact ⟨w',_,hr,⟨D,_,hR,hd,hh,hh⟩,⟨hg.os,hg.tape,hg.output,hg.size,fun i hi _=>hg.block i hi (by simp)⟩⟩
theorem keyOf_int_inv {key:Value} {kl:Lit} (hk:P.underlying k=some (.int .i64)) (h:keyOf P k key=some kl): ∃a:Int,key= .int .i64 a∧kl= .int .i64 a∧(Lit.int .i64 a).wf=true:=by
 cases key<;>simp [keyOf,hk,mapKey] at h
 rename_i q a
 obtain ⟨h1,rfl⟩:=h
 obtain ⟨rfl,h2⟩:=h1
 exact ⟨a,rfl,rfl,h2⟩
theorem MR.next (hm:mapB P t k e=true) (h:MR P k e w b r n s lf cnt) (ty:TypeId):
 (cnt=0∧(∀a,lf a=false)∧(Instr.next (.pointer (some ⟨r,0,none⟩)) false ty).run P w= .ok (.tuple #[.bool false]) w)∨
 ∃ (a:Int) (v:Value) (w':World) (cnt':Nat),lf a=true∧(Lit.int .i64 a).wf=true∧(Instr.next (.pointer (some ⟨r,0,none⟩)) false ty).run P w= .ok (.tuple #[.bool true,.int .i64 a,v]) w'∧
   (Instr.entry (.pointer (some ⟨r,0,none⟩))).run P w'= .ok (.tuple #[.int .i64 a,v]) w'∧MR P k e w' b r n s (fun x=>lf x && x !=a) cnt'∧cnt'<cnt∧Mod (·=r) w w':=by
 obtain ⟨ht,hk,he,hz⟩:=mapB_spec hm
 obtain ⟨D,left,h,hd,hh,hl⟩:=h
 rcases h.next (int_keyed hk) ty with ⟨h0,h1,h2⟩| ⟨key,v,kl,y,w',cnt',h1,h2,h3,h4,h5,h6,h7,h8,h9,h10⟩
 · exact .inl ⟨h0,fun a=>by rw [← hl];exact h1 _,h2⟩
 · obtain ⟨a,rfl,rfl,ha⟩:=keyOf_int_inv hk h1
   refine .inr ⟨a,v,w',cnt',by rw [← hl];exact h2,ha,h5,h10,⟨D,_,h6,hd,hh,fun x=> ?_⟩,h7,⟨h8.os,h8.tape,h8.output,h8.size,fun i hi hn=>h8.block i hi fun e=>hn (Option.some.inj e)⟩⟩
   show (left (.int .i64 x) && !(Lit.sameKey (.int .i64 x) (.int .i64 a)))=_
   rw [hl x]
   congr 1
   simp [Lit.sameKey,bne]
   rfl
def mapI (P:Program) (t k e:TypeId):Bool:=
 (match P.underlying t with|some (.map k' e')=>Nat.beq k' k && Nat.beq e' e|_=>false) && (match P.underlying k with|some (.int .i64)=>true|_=>false) && (match P.underlying e with|some (.int .i64)=>true|_=>false) && (match P.info? e with|some i=> (match i.zero with|some (.int .i64 n)=>n==0|_=>false)|none=>false)
theorem mapI_spec (h:mapI P t k e=true):P.underlying t=some (.map k e)∧P.underlying k=some (.int .i64)∧P.underlying e=some (.int .i64)∧∀w,(zeroValue e).run P w= .ok (.int .i64 0) w:=by
 simp only [mapI,Bool.and_eq_true] at h
 obtain ⟨⟨⟨h1,h2⟩,h3⟩,h4⟩:=h
 split at h1
 · rename_i k' e' hu
   simp only [Bool.and_eq_true] at h1
   have e1:k'=k:=Nat.eq_of_beq_eq_true h1.1
   have e2:e'=e:=Nat.eq_of_beq_eq_true h1.2
   subst e1 e2
   refine ⟨hu,?_,?_,?_⟩
   · split at h2
     · assumption
     · simp at h2
   · split at h3
     · assumption
     · simp at h3
   · intro w
     split at h4
     · rename_i i hi
       split at h4
       · rename_i n hz
         have:n=0:=by simpa using h4
         subst this
         unfold zeroValue
         simp only [Sem.run_bind,run_info_some hi,Result.andThen_ok,hz,Sem.run_pure]
       · simp at h4
     · simp at h4
 · simp at h1
def MI (P:Program) (k e:TypeId) (w:World) (b n:Nat) (s:Int→Int):Prop:=
 ∃D:DataW Unit,w.ownsMap P k (plainElem P e) b n D∧∀a:Int,D.atKey (.int .i64 a) (.lit (.int .i64 0))= .lit (.int .i64 (s a))
theorem MI.lt {s:Int→Int} (h:MI P k e w b n s):b<w.heap.size:=by obtain ⟨D,h,_⟩:=h;exact h.lt
theorem MI.keep {s:Int→Int} {S:Nat→Prop} (h:MI P k e w b n s) (m:Mod S w w') (hs: ¬S b):MI P k e w' b n s:=by
 have hl:=h.lt
 obtain ⟨D,⟨es,clock,hb,h⟩,hd⟩:=h
 exact ⟨D,⟨es,clock,(m.block b hl hs).trans hb,h⟩,hd⟩
theorem MI.grow {s:Int→Int} (h:MI P k e w b n s) (m:Grow w w'):MI P k e w' b n s:=h.keep m id
theorem MI.new {b:Nat} (h:New (.map #[] 0) w b w'):MI P k e w' b 0 fun _=>0:=by
 obtain ⟨rfl,rfl⟩:=h
 exact ⟨.map [],World.ownsMap_made w P k _,fun a=>rfl⟩
theorem MI.look {s:Int→Int} (hm:mapI P t k e=true) (h:MI P k e w b n s) {a:Int} (ha:(Lit.int .i64 a).wf=true):(Instr.lookup t (.map (some b)) (.int .i64 a) false).run P w= .ok (.int .i64 (s a)) w:=by
 obtain ⟨ht,hk,he,hz⟩:=mapI_spec hm
 obtain ⟨D,h,hd⟩:=h
 obtain ⟨c,h1,h2,h3⟩:=h.lookup_int (int_keyed hk) ht he (hz w) (keyOf_int_mk hk ha)
 rw [hd a] at h2
 have:s a=c:=by simpa using h2
 rw [h1,this]
theorem MI.put {s:Int→Int} (hm:mapI P t k e=true) (h:MI P k e w b n s) (hn:n<maxLen) {a:Int} (ha:(Lit.int .i64 a).wf=true) {v:Int} (hv:(Lit.int .i64 v).wf=true):
 ∃w',(Instr.mapUpdate t (.map (some b)) (.int .i64 a) (.int .i64 v)).run P w= .ok () w'∧MI P k e w' b (n+1) (fun u=>if u=a then v else s u)∧Mod (·=b) w w':=by
 obtain ⟨ht,hk,he,hz⟩:=mapI_spec hm
 obtain ⟨D,h,hd⟩:=h
 have him:=h.isMap
 obtain ⟨w',hr,h',hg⟩:=h.update (int_keyed hk) ht hn (keyOf_int_mk hk ha) (plainElem_int (H:=Unit) he hv)
 refine ⟨w',hr,⟨_,h',fun u=> ?_⟩,⟨hg.os,hg.tape,hg.output,hg.size,fun i hi hn=>hg.block i hi fun e=>hn (Option.some.inj e)⟩⟩
 by_cases hu:u=a
 · subst hu
   exact (atKey_put_same him (show WideAt.IsKeyLit (.int .i64 u) from trivial) _ _).trans (by simp)
 · exact ((atKey_put_other (fun e=>hu (by injection e)) _ _).trans (hd u)).trans (by simp [hu])
end Go.Fw
