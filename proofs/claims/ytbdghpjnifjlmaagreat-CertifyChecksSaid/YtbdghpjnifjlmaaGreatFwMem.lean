/- Laws of the heap for proofs over the frame. -/
import Derived.Test.YtbdghpjnifjlmaaGreatFwLib
namespace Go.Fw
open Go Go.RowKit
def Has (w:World) (b:Nat) (cs:Array Value):Prop:= ∃t,w.heap[b]? =some (.cells cs t)
theorem Has.lt {w:World} {b:Nat} {cs:Array Value} (h:Has w b cs):b<w.heap.size:=by
 obtain ⟨t,h⟩:=h
 rcases Nat.lt_or_ge b w.heap.size with h'|h'
 · exact h'
 · simp [Array.getElem?_eq_none h'] at h
structure Mod (S:Nat→Prop) (w w':World):Prop where
 os:w'.os=w.os
 tape:w'.tape=w.tape
 output:w'.output=w.output
 size:w.heap.size≤w'.heap.size
 block: ∀k,k<w.heap.size→¬S k→w'.heap[k]? =w.heap[k]?
abbrev Grow:=Mod fun _=>False
theorem Mod.refl {S:Nat→Prop} (w:World):Mod S w w:=⟨rfl,rfl,rfl,Nat.le_refl _,fun _ _ _=>rfl⟩
theorem Mod.then {S S':Nat→Prop} {a b c:World} (h:Mod S a b) (k:Mod S' b c) (hs: ∀x,x<a.heap.size→S' x→S x):Mod S a c:=
 ⟨k.os.trans h.os,k.tape.trans h.tape,k.output.trans h.output,Nat.le_trans h.size k.size,fun x hx hn=> (k.block x (Nat.lt_of_lt_of_le hx h.size) fun h'=>hn (hs x hx h')).trans (h.block x hx hn)⟩
theorem Mod.trans {S:Nat→Prop} {a b c:World} (h:Mod S a b) (k:Mod S b c):Mod S a c:=h.then k fun _ _ h=>h
theorem Mod.grow {S:Nat→Prop} {a b c:World} (h:Mod S a b) (k:Grow b c):Mod S a c:=h.then k fun _ _ h=>h.elim
theorem Mod.mono {S S':Nat→Prop} {a b:World} (h:Mod S a b) (hs: ∀x,x<a.heap.size→S x→S' x):Mod S' a b:=(Mod.refl a).then h hs
theorem Mod.drew {S:Nat→Prop} {a w:World} (h:Mod S a w):Mod S a w.drew:=⟨h.os,h.tape,h.output,h.size,h.block⟩
theorem Mod.below {w w':World} (h:Grow w w'):Below w.heap.size w w':=⟨h.os,h.tape,h.output,h.size,fun k hk=>h.block k hk id⟩
theorem Same.mod {S:Nat→Prop} {w w':World} (h:Same w w'):Mod S w w':=⟨h.os,h.tape,h.output,by rw [h.heap];exact Nat.le_refl _,fun k _ _=>by rw [h.heap]⟩
theorem Has.keep {S:Nat→Prop} {w w':World} {b:Nat} {cs:Array Value} (h:Has w b cs) (m:Mod S w w') (hs: ¬S b):Has w' b cs:=by
 have hl:=h.lt
 obtain ⟨t,h⟩:=h
 exact ⟨t,(m.block b hl hs).trans h⟩
theorem Has.grow {w w':World} {b:Nat} {cs:Array Value} (h:Has w b cs) (m:Grow w w'):Has w' b cs:=h.keep m id
theorem Has.drew {w:World} {b:Nat} {cs:Array Value} (h:Has w b cs):Has w.drew b cs:=h
theorem New.mod {o:Obj} {w:World} {n:Nat} {w':World} (h:New o w n w'):Grow w w':=by
 obtain ⟨rfl,rfl⟩:=h
 exact ⟨rfl,rfl,rfl,by simp,fun k hk _=>Below.heap_alloc w o k hk⟩
theorem New.at {o:Obj} {w:World} {n:Nat} {w':World} (h:New o w n w'):w'.heap[n]? =some o:=by
 obtain ⟨rfl,rfl⟩:=h
 show (w.heap.push o)[w.heap.size]? =some o
 simp
theorem New.has {cs:Array Value} {t:TypeId} {w:World} {n:Nat} {w':World} (h:New (.cells cs t) w n w'):Has w' n cs:=⟨t,h.at⟩
theorem cell_of {w:World} {b off:Nat} {cs:Array Value} {v:Value} (h:Has w b cs) (hv:cs[off]? =some v):w.cell? ⟨b,off,none⟩=some v:=by
 obtain ⟨t,h⟩:=h
 unfold World.cell?
 simp only [h]
 simpa using hv
theorem add_at (b off i:Nat):(Addr.mk b off none).add i=⟨b,off+i,none⟩:=by simp [Addr.add]
theorem cell_add {w:World} {b off i:Nat} {cs:Array Value} {v:Value} (h:Has w b cs) (hv:cs[off+i]? =some v):w.cell? ((Addr.mk b off none).add i)=some v:=by rw [add_at];exact cell_of h hv
theorem frozen_of {w:World} {b off:Nat} {cs:Array Value} (h:Has w b cs):w.frozen? ⟨b,off,none⟩=false:=by
 obtain ⟨t,h⟩:=h
 unfold World.frozen?
 simp [h]
theorem CellsAt.get {w:World} {a:Addr}: ∀ {i:Nat} {vs:List Value},CellsAt w a i vs→∀j v,vs[j]? =some v→w.cell? (a.add (i+j))=some v
 |_,[],_,_,_,h=>by simp at h
 |i,u::vs,⟨h1,h2⟩,0,v,h=>by simp at h;subst h;exact h1
 |i,u::vs,⟨h1,h2⟩,j+1,v,h=>by
  have:=CellsAt.get h2 j v (by simpa using h)
  rwa [show i+1+j=i+ (j+1) by omega] at this
def wr (cs:Array Value):Nat→List Value→Array Value
 |_,[]=>cs
 |i,v::vs=>wr (cs.setIfInBounds i v) (i+1) vs
theorem set_heap {w:World} {b off:Nat} {cs:Array Value} {t:TypeId} (h:w.heap[b]? =some (.cells cs t)) (v:Value) (_ho:off<cs.size):
 (w.setCell ⟨b,off,none⟩ v).heap[b]? =some (.cells (cs.setIfInBounds off v) t):=by
 simp only [World.setCell,Array.getElem?_modify,↓reduceIte,h,Option.map_some]
 simp
theorem store_n {w:World} {b off:Nat} {cs:Array Value} {K:World→Prop}: ∀ {vs:List Value} {i:Nat},Has w b cs→off+i+vs.length≤cs.size→vs.all oneCell=true→
 (∀w',Has w' b (wr cs (off+i) vs)→Mod (·=b) w w'→w'.heap.size=w.heap.size→K w')→∃w',StoreAt ⟨b,off,none⟩ i vs w w'∧K w':=by
 intro vs
 induction vs generalizing w cs with
 |nil=>intro i h _ _ hk;exact ⟨w,rfl,hk w h (Mod.refl w) rfl⟩
 |cons v vs ih=>
  intro i h hl ho hk
  simp only [List.length_cons,List.all_cons,Bool.and_eq_true] at hl ho
  obtain ⟨t,ht⟩:=h
  have h2:Has (w.setCell ⟨b,off+i,none⟩ v) b (cs.setIfInBounds (off+i) v):=⟨t,set_heap ht v (by omega)⟩
  have hm:Mod (·=b) w (w.setCell ⟨b,off+i,none⟩ v):=⟨rfl,rfl,rfl,by simp,fun k _ hk=>Below.heap_setCell w _ v k hk⟩
  obtain ⟨w',hw,hk'⟩:=ih (i:=i+1) h2 (by simp;omega) ho.2 fun w' h1 h3 h4=>hk w' (by simpa only [wr,Nat.add_assoc] using h1) (hm.trans h3) (by rw [h4];simp)
  refine ⟨w',⟨⟨cs[off+i]'(by omega),cell_add ⟨t,ht⟩ (by simp [show off+i<cs.size by omega])⟩,by rw [add_at];exact frozen_of ⟨t,ht⟩,ho.1,by rw [add_at];exact hw⟩,hk'⟩
theorem store_i {w:World} {b off:Nat} {cs:Array Value} {K:World→Prop} {vs:List Value} {i:Nat} (h:Has w b cs) (hl:Nat.ble (off+i+vs.length) cs.size=true) (ho:vs.all oneCell=true)
 (hk: ∀w',Has w' b (wr cs (off+i) vs)→Mod (·=b) w w'→K w'): ∃w',StoreAt ⟨b,off,none⟩ i vs w w'∧K w':=
 store_n h (Nat.le_of_ble_eq_true hl) ho fun w' h m _=>hk w' h m
theorem store_f {w:World} {b off k:Nat} {cs:Array Value} {K:World→Prop} {vs:List Value} {i:Nat} (h:Has w b cs) (hl:Nat.ble (off+k+i+vs.length) cs.size=true) (ho:vs.all oneCell=true)
 (hk: ∀w',Has w' b (wr cs (off+k+i) vs)→Mod (·=b) w w'→K w'): ∃w',StoreAt ((Addr.mk b off none).add k) i vs w w'∧K w':=by
 rw [add_at]
 exact store_i h hl ho hk
theorem cells3 {w:World} {b:Nat} {x y z:Value} (h:Has w b #[x,y,z]):CellsAt w ⟨b,0,none⟩ 0 [x,y,z]:=
 ⟨cell_add h rfl,cell_add h rfl,cell_add h rfl,trivial⟩
theorem Mod.fresh {w w' w2:World} {b:Nat} (h:Grow w w') (m:Mod (·=b) w' w2) (hb:w.heap.size≤b):Grow w w2:=
 h.then m fun x hx he=>by subst he;omega
end Go.Fw
