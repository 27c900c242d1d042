/- Laws of the heap for proofs over the frame. -/
import Derived.Test.YtbdghpjnifjlmaaGreatFwLib
namespace Go.Fw
open Go Go.RowKit
def bT (w:World) (b:Nat) (cs:Array Value):Prop:=∃t,w.heap[b]? =some (.cells cs t)
theorem bT.lt {w:World} {b:Nat} {cs:Array Value} (h:bT w b cs):b<w.heap.size:=by
 obtain ⟨t,h⟩:=h;rcases UU b w.heap.size with I|I
 . exact I
 . simp [UQ I] at h
structure aD (S:Nat->Prop) (w w':World):Prop where
 os:w'.os=w.os
 tape:w'.tape=w.tape
 output:w'.output=w.output
 size:w.heap.size<=w'.heap.size
 block:∀k,k<w.heap.size->¬S k->w'.heap[k]? =w.heap[k]?
abbrev ak:=aD λ_=>False
theorem aD.refl {S:Nat->Prop} (w:World):aD S w w:=⟨rfl,rfl,rfl,y4 _,λ_ _ _=>rfl⟩
theorem aD.then {S S':Nat->Prop} {a b c:World} (h:aD S a b) (k:aD S' b c) (hs:∀x,x<a.heap.size->S' x->S x):aD S a c:=
 ⟨k.os.trans h.os,k.tape.trans h.tape,k.output.trans h.output,UY h.size k.size,λx I hn=> (k.block x (VD I h.size) λJ=>hn (hs x I J)).trans (h.block x I hn)⟩
theorem aD.trans {S:Nat->Prop} {a b c:World} (h:aD S a b) (k:aD S b c):aD S a c:=h.then k λ_ _ h=>h
theorem aD.grow {S:Nat->Prop} {a b c:World} (h:aD S a b) (k:ak b c):aD S a c:=h.then k λ_ _ h=>h.elim
theorem aD.mono {S S':Nat->Prop} {a b:World} (h:aD S a b) (hs:∀x,x<a.heap.size->S x->S' x):aD S' a b:=(aD.refl a).then h hs
theorem aD.drew {S:Nat->Prop} {a w:World} (h:aD S a w):aD S a w.drew:=⟨h.os,h.tape,h.output,h.size,h.block⟩
theorem aD.below {w w':World} (h:ak w w'):Below w.heap.size w w':=⟨h.os,h.tape,h.output,h.size,λk I=>h.block k I id⟩
theorem aD.KD {w w':World} (h:Below w.heap.size w w'):ak w w':=⟨h.os,h.tape,h.output,h.size,λk I _=>h.block k I⟩
theorem mU.mod {S:Nat->Prop} {w w':World} (h:mU w w'):aD S w w':=⟨h.os,h.tape,h.output,by rw [h.heap];exact y4 _,λk _ _=>by rw [h.heap]⟩
theorem bT.keep {S:Nat->Prop} {w w':World} {b:Nat} {cs:Array Value} (h:bT w b cs) (m:aD S w w') (hs: ¬S b):bT w' b cs:=by
 have hl:=h.lt;obtain ⟨t,h⟩:=h;exact ⟨t,(m.block b hl hs).trans h⟩
theorem bT.grow {w w':World} {b:Nat} {cs:Array Value} (h:bT w b cs) (m:ak w w'):bT w' b cs:=h.keep m id
theorem bT.drew {w:World} {b:Nat} {cs:Array Value} (h:bT w b cs):bT w.drew b cs:=h
theorem jI.mod {o:Obj} {w:World} {n:Nat} {w':World} (h:jI o w n w'):ak w w':=by
 obtain ⟨rfl,rfl⟩:=h;exact ⟨rfl,rfl,rfl,by simp,λk I _=>Below.heap_alloc w o k I⟩
theorem jI.at {o:Obj} {w:World} {n:Nat} {w':World} (h:jI o w n w'):w'.heap[n]? =some o:=by
 obtain ⟨rfl,rfl⟩:=h;show (w.heap.push o)[w.heap.size]? =some o;simp
theorem jI.has {cs:Array Value} {t:TypeId} {w:World} {n:Nat} {w':World} (h:jI (.cells cs t) w n w'):bT w' n cs:=⟨t,h.at⟩
theorem aV {w:World} {b off:Nat} {cs:Array Value} {v:Value} (h:bT w b cs) (hv:cs[off]? =some v):w.cell? ⟨b,off,none⟩=some v:=by
 obtain ⟨t,h⟩:=h;unfold World.cell?;simp only [h];simpa using hv
theorem dI (b off i:Nat):(Addr.mk b off none).add i=⟨b,off+i,none⟩:=by simp [Addr.add]
theorem ae {w:World} {b off i:Nat} {cs:Array Value} {v:Value} (h:bT w b cs) (hv:cs[off+i]? =some v):w.cell? ((Addr.mk b off none).add i)=some v:=by rw [dI];exact aV h hv
theorem tw {w:World} {b off:Nat} {cs:Array Value} (h:bT w b cs):w.frozen? ⟨b,off,none⟩=false:=by
 obtain ⟨t,h⟩:=h;unfold World.frozen?;simp [h]
theorem aK.get {w:World} {a:Addr}:∀ {i:Nat} {vs:List Value},aK w a i vs->∀j v,vs[j]? =some v->w.cell? (a.add (i+j))=some v
 |_,[],_,_,_,h=>by simp at h
 |i,u::vs,⟨h1,h2⟩,0,v,h=>by simp at h;subst h;exact h1
 |i,u::vs,⟨h1,h2⟩,j+1,v,h=>by
  have:=aK.get h2 j v (by simpa using h)
  rwa [show i+1+j=i+ (j+1) by omega] at this
theorem bT.put {w w':World} {b J:Nat} {cs:Array Value} (h:bT w b cs) (m:aD (·=J) w w') (I:b≠J):bT w' b cs:=h.keep m I
theorem bT.vY {w w':World} {b n:Nat} {o:Obj} {cs:Array Value} (h:bT w b cs) (m:jI o w n w'):bT w' b cs:=h.grow m.mod
theorem jI.ne {w w':World} {b n:Nat} {o:Obj} {cs:Array Value} (m:jI o w n w') (h:bT w b cs):b≠n:=by
 have:=h.lt;have:=m.num;omega
def wr (cs:Array Value):Nat->List Value->Array Value
 |_,[]=>cs
 |i,v::vs=>wr (cs.setIfInBounds i v) (i+1) vs
theorem y9 {w:World} {b off:Nat} {cs:Array Value} {t:TypeId} (h:w.heap[b]? =some (.cells cs t)) (v:Value) (I:off<cs.size):
 (w.setCell ⟨b,off,none⟩ v).heap[b]? =some (.cells (cs.setIfInBounds off v) t):=by
 simp only [World.setCell,XH,↓reduceIte,h,Wj];simp
theorem PJ {w:World} {b off:Nat} {cs:Array Value} {K:World->Prop}:∀ {vs:List Value} {i:Nat},bT w b cs->off+i+vs.length<=cs.size->vs.all km=true->
 (∀w',bT w' b (wr cs (off+i) vs)->aD (·=b) w w'->w'.heap.size=w.heap.size->K w')->∃w',bB ⟨b,off,none⟩ i vs w w'/\K w':=by
 intro vs
 induction vs generalizing w cs with
 |nil=>intro i h _ _ I;exact ⟨w,rfl,I w h (aD.refl w) rfl⟩
 |cons v vs U=>
  intro i h hl O I;simp only [U9,Xq,ts] at hl O;obtain ⟨t,ht⟩:=h;have V:bT (w.setCell ⟨b,off+i,none⟩ v) b (cs.setIfInBounds (off+i) v):=⟨t,y9 ht v (by omega)⟩
  have hm:aD (·=b) w (w.setCell ⟨b,off+i,none⟩ v):=⟨rfl,rfl,rfl,by simp,λk _ I=>Below.heap_setCell w _ v k I⟩
  obtain ⟨w',Q,J⟩:=U (i:=i+1) V (by simp;omega) O.2 λw' h1 Y X=>I w' (by simpa only [wr,WL] using h1) (hm.trans Y) (by rw [X];simp);refine ⟨w',⟨⟨cs[off+i]'(by omega),ae ⟨t,ht⟩ (by simp [show off+i<cs.size by omega])⟩,by rw [dI];exact tw ⟨t,ht⟩,O.1,by rw [dI];exact Q⟩,J⟩
theorem bD {w:World} {b off:Nat} {cs:Array Value} {K:World->Prop} {vs:List Value} {i:Nat} (h:bT w b cs) (hl:Nat.ble (off+i+vs.length) cs.size=true) (I:vs.all km=true)
 (J:∀w',bT w' b (wr cs (off+i) vs)->aD (·=b) w w'->K w'):∃w',bB ⟨b,off,none⟩ i vs w w'/\K w':=
 PJ h (XI hl) I λw' h m _=>J w' h m
theorem cz {w:World} {b off k:Nat} {cs:Array Value} {K:World->Prop} {vs:List Value} {i:Nat} (h:bT w b cs) (hl:Nat.ble (off+k+i+vs.length) cs.size=true) (I:vs.all km=true)
 (J:∀w',bT w' b (wr cs (off+k+i) vs)->aD (·=b) w w'->K w'):∃w',bB ((Addr.mk b off none).add k) i vs w w'/\K w':=by
 rw [dI];exact bD h hl I J
theorem jq {w:World} {b:Nat} {x y z:Value} (h:bT w b #[x,y,z]):aK w ⟨b,0,none⟩ 0 [x,y,z]:=
 ⟨ae h rfl,ae h rfl,ae h rfl,trivial⟩
theorem aD.cW {w w' w2:World} {b:Nat} (h:ak w w') (m:aD (·=b) w' w2) (hb:w.heap.size<=b):ak w w2:=
 h.then m λx I he=>by subst he;omega
end Go.Fw
