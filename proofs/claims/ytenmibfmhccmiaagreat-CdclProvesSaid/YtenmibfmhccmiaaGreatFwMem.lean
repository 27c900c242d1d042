/- Laws of the heap for proofs over the frame. -/
import Derived.Test.YtenmibfmhccmiaaGreatFwLib
namespace Go.Fw
open Go Go.RowKit
def bA (w:World) (b:Nat) (cs:Array Value):Prop:= ∃t,w.heap[b]? =some (.cells cs t)
theorem bA.lt {w:World} {b:Nat} {cs:Array Value} (h:bA w b cs):b<w.heap.size:=by
 obtain ⟨t,h⟩:=h;rcases Nat.lt_or_ge b w.heap.size with I|I
 . exact I
 . simp [Array.getElem?_eq_none I] at h
structure aF (S:Nat->Prop) (w w':World):Prop where
 os:w'.os=w.os
 tape:w'.tape=w.tape
 output:w'.output=w.output
 size:w.heap.size<=w'.heap.size
 block: ∀k,k<w.heap.size->¬S k->w'.heap[k]? =w.heap[k]?
abbrev ao:=aF fun _=>False
theorem aF.refl {S:Nat->Prop} (w:World):aF S w w:=⟨rfl,rfl,rfl,Nat.le_refl _,fun _ _ _=>rfl⟩
theorem aF.then {S S':Nat->Prop} {a b c:World} (h:aF S a b) (k:aF S' b c) (hs: ∀x,x<a.heap.size->S' x->S x):aF S a c:=
 ⟨k.os.trans h.os,k.tape.trans h.tape,k.output.trans h.output,Nat.le_trans h.size k.size,fun x I hn=> (k.block x (Nat.lt_of_lt_of_le I h.size) fun J=>hn (hs x I J)).trans (h.block x I hn)⟩
theorem aF.trans {S:Nat->Prop} {a b c:World} (h:aF S a b) (k:aF S b c):aF S a c:=h.then k fun _ _ h=>h
theorem aF.grow {S:Nat->Prop} {a b c:World} (h:aF S a b) (k:ao b c):aF S a c:=h.then k fun _ _ h=>h.elim
theorem aF.mono {S S':Nat->Prop} {a b:World} (h:aF S a b) (hs: ∀x,x<a.heap.size->S x->S' x):aF S' a b:=(aF.refl a).then h hs
theorem aF.drew {S:Nat->Prop} {a w:World} (h:aF S a w):aF S a w.drew:=⟨h.os,h.tape,h.output,h.size,h.block⟩
theorem aF.below {w w':World} (h:ao w w'):Below w.heap.size w w':=⟨h.os,h.tape,h.output,h.size,fun k I=>h.block k I id⟩
theorem aF.If {w w':World} (h:Below w.heap.size w w'):ao w w':=⟨h.os,h.tape,h.output,h.size,fun k I _=>h.block k I⟩
theorem ky.mod {S:Nat->Prop} {w w':World} (h:ky w w'):aF S w w':=⟨h.os,h.tape,h.output,by rw [h.heap];exact Nat.le_refl _,fun k _ _=>by rw [h.heap]⟩
theorem bA.keep {S:Nat->Prop} {w w':World} {b:Nat} {cs:Array Value} (h:bA w b cs) (m:aF S w w') (hs: ¬S b):bA w' b cs:=by
 have hl:=h.lt;obtain ⟨t,h⟩:=h;exact ⟨t,(m.block b hl hs).trans h⟩
theorem bA.grow {w w':World} {b:Nat} {cs:Array Value} (h:bA w b cs) (m:ao w w'):bA w' b cs:=h.keep m id
theorem bA.drew {w:World} {b:Nat} {cs:Array Value} (h:bA w b cs):bA w.drew b cs:=h
theorem aY.mod {o:Obj} {w:World} {n:Nat} {w':World} (h:aY o w n w'):ao w w':=by
 obtain ⟨rfl,rfl⟩:=h;exact ⟨rfl,rfl,rfl,by simp,fun k I _=>Below.heap_alloc w o k I⟩
theorem aY.at {o:Obj} {w:World} {n:Nat} {w':World} (h:aY o w n w'):w'.heap[n]? =some o:=by
 obtain ⟨rfl,rfl⟩:=h;show (w.heap.push o)[w.heap.size]? =some o;simp
theorem aY.has {cs:Array Value} {t:TypeId} {w:World} {n:Nat} {w':World} (h:aY (.cells cs t) w n w'):bA w' n cs:=⟨t,h.at⟩
theorem aQ {w:World} {b off:Nat} {cs:Array Value} {v:Value} (h:bA w b cs) (hv:cs[off]? =some v):w.cell? ⟨b,off,none⟩=some v:=by
 obtain ⟨t,h⟩:=h;unfold World.cell?;simp only [h];simpa using hv
theorem c5 (b off i:Nat):(Addr.mk b off none).add i=⟨b,off+i,none⟩:=by simp [Addr.add]
theorem ae {w:World} {b off i:Nat} {cs:Array Value} {v:Value} (h:bA w b cs) (hv:cs[off+i]? =some v):w.cell? ((Addr.mk b off none).add i)=some v:=by rw [c5];exact aQ h hv
theorem pY {w:World} {b off:Nat} {cs:Array Value} (h:bA w b cs):w.frozen? ⟨b,off,none⟩=false:=by
 obtain ⟨t,h⟩:=h;unfold World.frozen?;simp [h]
theorem aB.get {w:World} {a:Addr}: ∀ {i:Nat} {vs:List Value},aB w a i vs->∀j v,vs[j]? =some v->w.cell? (a.add (i+j))=some v
 |_,[],_,_,_,h=>by simp at h
 |i,u::vs,⟨h1,h2⟩,0,v,h=>by simp at h;subst h;exact h1
 |i,u::vs,⟨h1,h2⟩,j+1,v,h=>by
  have:=aB.get h2 j v (by simpa using h)
  rwa [show i+1+j=i+ (j+1) by omega] at this
theorem bA.put {w w':World} {b J:Nat} {cs:Array Value} (h:bA w b cs) (m:aF (·=J) w w') (I:b≠J):bA w' b cs:=h.keep m I
theorem bA.sI {w w':World} {b n:Nat} {o:Obj} {cs:Array Value} (h:bA w b cs) (m:aY o w n w'):bA w' b cs:=h.grow m.mod
theorem aY.ne {w w':World} {b n:Nat} {o:Obj} {cs:Array Value} (m:aY o w n w') (h:bA w b cs):b≠n:=by
 have:=h.lt;have:=m.num;omega
def wr (cs:Array Value):Nat->List Value->Array Value
 |_,[]=>cs
 |i,v::vs=>wr (cs.setIfInBounds i v) (i+1) vs
theorem vn {w:World} {b off:Nat} {cs:Array Value} {t:TypeId} (h:w.heap[b]? =some (.cells cs t)) (v:Value) (I:off<cs.size):
 (w.setCell ⟨b,off,none⟩ v).heap[b]? =some (.cells (cs.setIfInBounds off v) t):=by
 simp only [World.setCell,Array.getElem?_modify,↓reduceIte,h,Option.map_some];simp
theorem JU {w:World} {b off:Nat} {cs:Array Value} {K:World->Prop}: ∀ {vs:List Value} {i:Nat},bA w b cs->off+i+vs.length<=cs.size->vs.all iU=true->
 (∀w',bA w' b (wr cs (off+i) vs)->aF (·=b) w w'->w'.heap.size=w.heap.size->K w')->∃w',ah ⟨b,off,none⟩ i vs w w'/\K w':=by
 intro vs
 induction vs generalizing w cs with
 |nil=>intro i h _ _ I;exact ⟨w,rfl,I w h (aF.refl w) rfl⟩
 |cons v vs X=>
  intro i h hl O I;simp only [List.length_cons,List.all_cons,Bool.and_eq_true] at hl O;obtain ⟨t,ht⟩:=h;have Y:bA (w.setCell ⟨b,off+i,none⟩ v) b (cs.setIfInBounds (off+i) v):=⟨t,vn ht v (by omega)⟩
  have hm:aF (·=b) w (w.setCell ⟨b,off+i,none⟩ v):=⟨rfl,rfl,rfl,by simp,fun k _ I=>Below.heap_setCell w _ v k I⟩
  obtain ⟨w',U,J⟩:=X (i:=i+1) Y (by simp;omega) O.2 fun w' h1 V Q=>I w' (by simpa only [wr,Nat.add_assoc] using h1) (hm.trans V) (by rw [Q];simp);refine ⟨w',⟨⟨cs[off+i]'(by omega),ae ⟨t,ht⟩ (by simp [show off+i<cs.size by omega])⟩,by rw [c5];exact pY ⟨t,ht⟩,O.1,by rw [c5];exact U⟩,J⟩
theorem bj {w:World} {b off:Nat} {cs:Array Value} {K:World->Prop} {vs:List Value} {i:Nat} (h:bA w b cs) (hl:Nat.ble (off+i+vs.length) cs.size=true) (J:vs.all iU=true)
 (I: ∀w',bA w' b (wr cs (off+i) vs)->aF (·=b) w w'->K w'): ∃w',ah ⟨b,off,none⟩ i vs w w'/\K w':=
 JU h (Nat.le_of_ble_eq_true hl) J fun w' h m _=>I w' h m
theorem bO {w:World} {b off k:Nat} {cs:Array Value} {K:World->Prop} {vs:List Value} {i:Nat} (h:bA w b cs) (hl:Nat.ble (off+k+i+vs.length) cs.size=true) (J:vs.all iU=true)
 (I: ∀w',bA w' b (wr cs (off+k+i) vs)->aF (·=b) w w'->K w'): ∃w',ah ((Addr.mk b off none).add k) i vs w w'/\K w':=by
 rw [c5];exact bj h hl J I
theorem jM {w:World} {b:Nat} {x y z:Value} (h:bA w b #[x,y,z]):aB w ⟨b,0,none⟩ 0 [x,y,z]:=
 ⟨ae h rfl,ae h rfl,ae h rfl,trivial⟩
theorem aF.bV {w w' w2:World} {b:Nat} (h:ao w w') (m:aF (·=b) w' w2) (hb:w.heap.size<=b):ao w w2:=
 h.then m fun x I he=>by subst he;omega
end Go.Fw
