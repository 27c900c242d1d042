/- Laws of the heap for proofs over the frame. -/
import Derived.Test.YtbdghpjnifjlmaaGreatFwLib
set_option linter.all false
namespace Go.Fw
open Go Go.RowKit
def bO(w:World)(b:Nat)(cs:Array Value):Prop:=∃t,w.heap[b]? =some (.cells cs t)
theorem bO.lt{w:World}{b:Nat}{cs:Array Value}(h:bO w b cs):b<w.heap.size:=by
 obtain⟨t,h⟩:=h;rcases Wp b w.heap.size with I|I
 .exact I
 .simp [Wm I]at h
structure aE(S:Nat->Prop)(w w':World):Prop where
 os:w'.os=w.os
 tape:w'.tape=w.tape
 output:w'.output=w.output
 size:w.heap.size<=w'.heap.size
 block:∀k,k<w.heap.size->¬S k->w'.heap[k]? =w.heap[k]?
abbrev ak:=aE λ_=>False
theorem aE.refl{S:Nat->Prop}(w:World):aE S w w:=⟨rfl,rfl,rfl,vy _,λ_ _ _=>rfl⟩
theorem aE.then{S S':Nat->Prop}{a b c:World}(h:aE S a b)(k:aE S' b c)(hs:∀x,x<a.heap.size->S' x->S x):aE S a c:=
 ⟨k.os.trans h.os,k.tape.trans h.tape,k.output.trans h.output,Wl h.size k.size,λx I hn=> (k.block x (Xg I h.size) λJ=>hn (hs x I J)).trans (h.block x I hn)⟩
theorem aE.trans{S:Nat->Prop}{a b c:World}(h:aE S a b)(k:aE S b c):aE S a c:=h.then k λ_ _ h=>h
theorem aE.grow{S:Nat->Prop}{a b c:World}(h:aE S a b)(k:ak b c):aE S a c:=h.then k λ_ _ h=>h.elim
theorem aE.mono{S S':Nat->Prop}{a b:World}(h:aE S a b)(hs:∀x,x<a.heap.size->S x->S' x):aE S' a b:=(aE.refl a).then h hs
theorem aE.drew{S:Nat->Prop}{a w:World}(h:aE S a w):aE S a w.drew:=⟨h.os,h.tape,h.output,h.size,h.block⟩
theorem aE.below{w w':World}(h:ak w w'):Below w.heap.size w w':=⟨h.os,h.tape,h.output,h.size,λk I=>h.block k I id⟩
theorem aE.Ns{w w':World}(h:Below w.heap.size w w'):ak w w':=⟨h.os,h.tape,h.output,h.size,λk I _=>h.block k I⟩
theorem mO.mod{S:Nat->Prop}{w w':World}(h:mO w w'):aE S w w':=⟨h.os,h.tape,h.output,by rw[h.heap];exact vy _,λk _ _=>by rw[h.heap]⟩
theorem bO.keep{S:Nat->Prop}{w w':World}{b:Nat}{cs:Array Value}(h:bO w b cs)(m:aE S w w')(hs: ¬S b):bO w' b cs:=by
 have hl:=h.lt;obtain⟨t,h⟩:=h;exact⟨t,(m.block b hl hs).trans h⟩
theorem bO.grow{w w':World}{b:Nat}{cs:Array Value}(h:bO w b cs)(m:ak w w'):bO w' b cs:=h.keep m id
theorem bO.drew{w:World}{b:Nat}{cs:Array Value}(h:bO w b cs):bO w.drew b cs:=h
theorem jz.mod{o:Obj}{w:World}{n:Nat}{w':World}(h:jz o w n w'):ak w w':=by
 obtain⟨rfl,rfl⟩:=h;exact⟨rfl,rfl,rfl,by simp,λk I _=>Below.heap_alloc w o k I⟩
theorem jz.at{o:Obj}{w:World}{n:Nat}{w':World}(h:jz o w n w'):w'.heap[n]? =some o:=by
 obtain⟨rfl,rfl⟩:=h;show (w.heap.push o)[w.heap.size]? =some o;simp
theorem jz.has{cs:Array Value}{t:TypeId}{w:World}{n:Nat}{w':World}(h:jz (.cells cs t) w n w'):bO w' n cs:=⟨t,h.at⟩
theorem aP{w:World}{b off:Nat}{cs:Array Value}{v:Value}(h:bO w b cs)(hv:cs[off]? =some v):w.cell? ⟨b,off,none⟩=some v:=by
 obtain⟨t,h⟩:=h;unfold World.cell?;simp only[h];simpa using hv
theorem cA(b off i:Nat):(Addr.mk b off none).add i=⟨b,off+i,none⟩:=by simp[Addr.add]
theorem ae{w:World}{b off i:Nat}{cs:Array Value}{v:Value}(h:bO w b cs)(hv:cs[off+i]? =some v):w.cell? ((Addr.mk b off none).add i)=some v:=by rw[cA];exact aP h hv
theorem tN{w:World}{b off:Nat}{cs:Array Value}(h:bO w b cs):w.frozen? ⟨b,off,none⟩=false:=by
 obtain⟨t,h⟩:=h;unfold World.frozen?;simp[h]
theorem aM.get{w:World}{a:Addr}:∀ {i:Nat} {vs:List Value},aM w a i vs->∀j v,vs[j]? =some v->w.cell? (a.add (i+j))=some v
 |_,[],_,_,_,h=>by simp at h
 |i,u::vs,⟨h1,h2⟩,0,v,h=>by simp at h;subst h;exact h1
 |i,u::vs,⟨h1,h2⟩,j+1,v,h=>by
  have:=aM.get h2 j v (by simpa using h)
  rwa [show i+1+j=i+ (j+1) by omega]at this
theorem bO.put{w w':World}{b J:Nat}{cs:Array Value}(h:bO w b cs)(m:aE (·=J) w w')(I:b≠J):bO w' b cs:=h.keep m I
theorem bO.vU{w w':World}{b n:Nat}{o:Obj}{cs:Array Value}(h:bO w b cs)(m:jz o w n w'):bO w' b cs:=h.grow m.mod
theorem jz.ne{w w':World}{b n:Nat}{o:Obj}{cs:Array Value}(m:jz o w n w')(h:bO w b cs):b≠n:=by
 have:=h.lt;have:=m.num;omega
def wr(cs:Array Value):Nat->List Value->Array Value
 |_,[]=>cs
 |i,v::vs=>wr (cs.setIfInBounds i v) (i+1) vs
theorem By{w:World}{b off:Nat}{cs:Array Value}{t:TypeId}(h:w.heap[b]? =some (.cells cs t))(v:Value)(I:off<cs.size):
 (w.setCell ⟨b,off,none⟩ v).heap[b]? =some (.cells (cs.setIfInBounds off v) t):=by
 simp only[World.setCell,Y7,↓reduceIte,h,Xw];simp
theorem Qw{w:World}{b off:Nat}{cs:Array Value}{K:World->Prop}:∀ {vs:List Value} {i:Nat},bO w b cs->off+i+vs.length<=cs.size->vs.all jA=true->
 (∀w',bO w' b (wr cs (off+i) vs)->aE (·=b) w w'->w'.heap.size=w.heap.size->K w')->∃w',bD ⟨b,off,none⟩ i vs w w'/\K w':=by
 intro vs
 induction vs generalizing w cs with
 |nil=>intro i h _ _ I;exact⟨w,rfl,I w h (aE.refl w) rfl⟩
 |cons v vs U=>
  intro i h hl O I;simp only[Wz,YB,ts]at hl O;obtain⟨t,ht⟩:=h;have Q:bO (w.setCell ⟨b,off+i,none⟩ v) b (cs.setIfInBounds (off+i) v):=⟨t,By ht v (by omega)⟩
  have hm:aE (·=b) w (w.setCell ⟨b,off+i,none⟩ v):=⟨rfl,rfl,rfl,by simp,λk _ I=>Below.heap_setCell w _ v k I⟩
  obtain⟨w',V,J⟩:=U (i:=i+1) Q (by simp;omega) O.2 λw' h1 Y X=>I w' (by simpa only[wr,Ye]using h1) (hm.trans Y) (by rw[X];simp);refine⟨w',⟨⟨cs[off+i]'(by omega),ae ⟨t,ht⟩ (by simp[show off+i<cs.size by omega])⟩,by rw[cA];exact tN ⟨t,ht⟩,O.1,by rw[cA];exact V⟩,J⟩
theorem aX{w:World}{b off:Nat}{cs:Array Value}{K:World->Prop}{vs:List Value}{i:Nat}(h:bO w b cs)(hl:Nat.ble (off+i+vs.length) cs.size=true)(J:vs.all jA=true)
 (I:∀w',bO w' b (wr cs (off+i) vs)->aE (·=b) w w'->K w'):∃w',bD ⟨b,off,none⟩ i vs w w'/\K w':=
 Qw h (Y8 hl) J λw' h m _=>I w' h m
theorem cz{w:World}{b off k:Nat}{cs:Array Value}{K:World->Prop}{vs:List Value}{i:Nat}(h:bO w b cs)(hl:Nat.ble (off+k+i+vs.length) cs.size=true)(J:vs.all jA=true)
 (I:∀w',bO w' b (wr cs (off+k+i) vs)->aE (·=b) w w'->K w'):∃w',bD ((Addr.mk b off none).add k) i vs w w'/\K w':=by
 rw[cA];exact aX h hl J I
theorem gG{w:World}{b:Nat}{x y z:Value}(h:bO w b #[x,y,z]):aM w ⟨b,0,none⟩ 0 [x,y,z]:=
 ⟨ae h rfl,ae h rfl,ae h rfl,trivial⟩
theorem aE.cE{w w' w2:World}{b:Nat}(h:ak w w')(m:aE (·=b) w' w2)(hb:w.heap.size<=b):ak w w2:=
 h.then m λx I he=>by subst he;omega
