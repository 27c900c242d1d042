/- Laws of the heap for proofs over the frame. -/
import Derived.Test.YtenmibfmhccmiaaGreatFwLib
namespace Go.Fw
open Go Go.RowKit
def bF (w:World) (b:Nat) (cs:Array Value):Prop:= ∃t,w.heap[b]? =some (.cells cs t)
theorem bF.lt {w:World} {b:Nat} {cs:Array Value} (h:bF w b cs):b<w.heap.size:=by
 obtain ⟨t,h⟩:=h;rcases Nat.lt_or_ge b w.heap.size with I|I
 . exact I
 . simp [Array.getElem?_eq_none I] at h
structure aE (S:Nat->Prop) (w w':World):Prop where
 os:w'.os=w.os
 tape:w'.tape=w.tape
 output:w'.output=w.output
 size:w.heap.size<=w'.heap.size
 block: ∀k,k<w.heap.size->¬S k->w'.heap[k]? =w.heap[k]?
abbrev aq:=aE fun _=>False
theorem aE.refl {S:Nat->Prop} (w:World):aE S w w:=⟨rfl,rfl,rfl,Nat.le_refl _,fun _ _ _=>rfl⟩
theorem aE.then {S S':Nat->Prop} {a b c:World} (h:aE S a b) (k:aE S' b c) (hs: ∀x,x<a.heap.size->S' x->S x):aE S a c:=
 ⟨k.os.trans h.os,k.tape.trans h.tape,k.output.trans h.output,Nat.le_trans h.size k.size,fun x I hn=> (k.block x (Nat.lt_of_lt_of_le I h.size) fun J=>hn (hs x I J)).trans (h.block x I hn)⟩
theorem aE.trans {S:Nat->Prop} {a b c:World} (h:aE S a b) (k:aE S b c):aE S a c:=h.then k fun _ _ h=>h
theorem aE.grow {S:Nat->Prop} {a b c:World} (h:aE S a b) (k:aq b c):aE S a c:=h.then k fun _ _ h=>h.elim
theorem aE.mono {S S':Nat->Prop} {a b:World} (h:aE S a b) (hs: ∀x,x<a.heap.size->S x->S' x):aE S' a b:=(aE.refl a).then h hs
theorem aE.drew {S:Nat->Prop} {a w:World} (h:aE S a w):aE S a w.drew:=⟨h.os,h.tape,h.output,h.size,h.block⟩
theorem aE.below {w w':World} (h:aq w w'):Below w.heap.size w w':=⟨h.os,h.tape,h.output,h.size,fun k I=>h.block k I id⟩
theorem aE.Gi {w w':World} (h:Below w.heap.size w w'):aq w w':=⟨h.os,h.tape,h.output,h.size,fun k I _=>h.block k I⟩
theorem jM.mod {S:Nat->Prop} {w w':World} (h:jM w w'):aE S w w':=⟨h.os,h.tape,h.output,by rw [h.heap];exact Nat.le_refl _,fun k _ _=>by rw [h.heap]⟩
theorem bF.keep {S:Nat->Prop} {w w':World} {b:Nat} {cs:Array Value} (h:bF w b cs) (m:aE S w w') (hs: ¬S b):bF w' b cs:=by
 have hl:=h.lt;obtain ⟨t,h⟩:=h;exact ⟨t,(m.block b hl hs).trans h⟩
theorem bF.grow {w w':World} {b:Nat} {cs:Array Value} (h:bF w b cs) (m:aq w w'):bF w' b cs:=h.keep m id
theorem bF.drew {w:World} {b:Nat} {cs:Array Value} (h:bF w b cs):bF w.drew b cs:=h
theorem bc.mod {o:Obj} {w:World} {n:Nat} {w':World} (h:bc o w n w'):aq w w':=by
 obtain ⟨rfl,rfl⟩:=h;exact ⟨rfl,rfl,rfl,by simp,fun k I _=>Below.heap_alloc w o k I⟩
theorem bc.at {o:Obj} {w:World} {n:Nat} {w':World} (h:bc o w n w'):w'.heap[n]? =some o:=by
 obtain ⟨rfl,rfl⟩:=h;show (w.heap.push o)[w.heap.size]? =some o;simp
theorem bc.has {cs:Array Value} {t:TypeId} {w:World} {n:Nat} {w':World} (h:bc (.cells cs t) w n w'):bF w' n cs:=⟨t,h.at⟩
theorem aR {w:World} {b off:Nat} {cs:Array Value} {v:Value} (h:bF w b cs) (hv:cs[off]? =some v):w.cell? ⟨b,off,none⟩=some v:=by
 obtain ⟨t,h⟩:=h;unfold World.cell?;simp only [h];simpa using hv
theorem cX (b off i:Nat):(Addr.mk b off none).add i=⟨b,off+i,none⟩:=by simp [Addr.add]
theorem ad {w:World} {b off i:Nat} {cs:Array Value} {v:Value} (h:bF w b cs) (hv:cs[off+i]? =some v):w.cell? ((Addr.mk b off none).add i)=some v:=by rw [cX];exact aR h hv
theorem oK {w:World} {b off:Nat} {cs:Array Value} (h:bF w b cs):w.frozen? ⟨b,off,none⟩=false:=by
 obtain ⟨t,h⟩:=h;unfold World.frozen?;simp [h]
theorem aD.get {w:World} {a:Addr}: ∀ {i:Nat} {vs:List Value},aD w a i vs->∀j v,vs[j]? =some v->w.cell? (a.add (i+j))=some v
 |_,[],_,_,_,h=>by simp at h
 |i,u::vs,⟨h1,h2⟩,0,v,h=>by simp at h;subst h;exact h1
 |i,u::vs,⟨h1,h2⟩,j+1,v,h=>by
  have:=aD.get h2 j v (by simpa using h)
  rwa [show i+1+j=i+ (j+1) by omega] at this
theorem bF.put {w w':World} {b J:Nat} {cs:Array Value} (h:bF w b cs) (m:aE (·=J) w w') (I:b≠J):bF w' b cs:=h.keep m I
theorem bF.qT {w w':World} {b n:Nat} {o:Obj} {cs:Array Value} (h:bF w b cs) (m:bc o w n w'):bF w' b cs:=h.grow m.mod
theorem bc.ne {w w':World} {b n:Nat} {o:Obj} {cs:Array Value} (m:bc o w n w') (h:bF w b cs):b≠n:=by
 have:=h.lt;have:=m.num;omega
def wr (cs:Array Value):Nat->List Value->Array Value
 |_,[]=>cs
 |i,v::vs=>wr (cs.setIfInBounds i v) (i+1) vs
theorem tX {w:World} {b off:Nat} {cs:Array Value} {t:TypeId} (h:w.heap[b]? =some (.cells cs t)) (v:Value) (I:off<cs.size):
 (w.setCell ⟨b,off,none⟩ v).heap[b]? =some (.cells (cs.setIfInBounds off v) t):=by
 simp only [World.setCell,Array.getElem?_modify,↓reduceIte,h,Option.map_some];simp
theorem IL {w:World} {b off:Nat} {cs:Array Value} {K:World->Prop}: ∀ {vs:List Value} {i:Nat},bF w b cs->off+i+vs.length<=cs.size->vs.all iz=true->
 (∀w',bF w' b (wr cs (off+i) vs)->aE (·=b) w w'->w'.heap.size=w.heap.size->K w')->∃w',af ⟨b,off,none⟩ i vs w w'/\K w':=by
 intro vs
 induction vs generalizing w cs with
 |nil=>intro i h _ _ I;exact ⟨w,rfl,I w h (aE.refl w) rfl⟩
 |cons v vs X=>
  intro i h hl J I;simp only [List.length_cons,List.all_cons,Bool.and_eq_true] at hl J;obtain ⟨t,ht⟩:=h;have Q:bF (w.setCell ⟨b,off+i,none⟩ v) b (cs.setIfInBounds (off+i) v):=⟨t,tX ht v (by omega)⟩
  have hm:aE (·=b) w (w.setCell ⟨b,off+i,none⟩ v):=⟨rfl,rfl,rfl,by simp,fun k _ I=>Below.heap_setCell w _ v k I⟩
  obtain ⟨w',U,O⟩:=X (i:=i+1) Q (by simp;omega) J.2 fun w' h1 V Y=>I w' (by simpa only [wr,Nat.add_assoc] using h1) (hm.trans V) (by rw [Y];simp);refine ⟨w',⟨⟨cs[off+i]'(by omega),ad ⟨t,ht⟩ (by simp [show off+i<cs.size by omega])⟩,by rw [cX];exact oK ⟨t,ht⟩,J.1,by rw [cX];exact U⟩,O⟩
theorem bq {w:World} {b off:Nat} {cs:Array Value} {K:World->Prop} {vs:List Value} {i:Nat} (h:bF w b cs) (hl:Nat.ble (off+i+vs.length) cs.size=true) (I:vs.all iz=true)
 (J: ∀w',bF w' b (wr cs (off+i) vs)->aE (·=b) w w'->K w'): ∃w',af ⟨b,off,none⟩ i vs w w'/\K w':=
 IL h (Nat.le_of_ble_eq_true hl) I fun w' h m _=>J w' h m
theorem bZ {w:World} {b off k:Nat} {cs:Array Value} {K:World->Prop} {vs:List Value} {i:Nat} (h:bF w b cs) (hl:Nat.ble (off+k+i+vs.length) cs.size=true) (I:vs.all iz=true)
 (J: ∀w',bF w' b (wr cs (off+k+i) vs)->aE (·=b) w w'->K w'): ∃w',af ((Addr.mk b off none).add k) i vs w w'/\K w':=by
 rw [cX];exact bq h hl I J
theorem jy {w:World} {b:Nat} {x y z:Value} (h:bF w b #[x,y,z]):aD w ⟨b,0,none⟩ 0 [x,y,z]:=
 ⟨ad h rfl,ad h rfl,ad h rfl,trivial⟩
theorem aE.bW {w w' w2:World} {b:Nat} (h:aq w w') (m:aE (·=b) w' w2) (hb:w.heap.size<=b):aq w w2:=
 h.then m fun x I he=>by subst he;omega
end Go.Fw
