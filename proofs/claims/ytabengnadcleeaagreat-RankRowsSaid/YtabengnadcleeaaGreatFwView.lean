/- Rows that are only looked at. -/
import Derived.Test.YtabengnadcleeaaGreatFwSlice
import Derived.Test.YtabengnadcleeaaGreatFwRead
namespace Go.Fw
open Go Go.RowKit
variable {P:Program} {α:Type} {f:α→Value} {T:TypeId} {w w':World} {p q:Option Addr} {c:Nat} {l:List α}
theorem cell_keep {S:Nat→Prop} {a:Addr} {v:Value} (g:Mod S w w') (h:w.cell? a=some v) (hs: ¬S a.block):w'.cell? a=some v:=by
 have hb:=World.block_lt_of_cell? w a h
 rw [← h]
 exact World.cell?_of_block (g.block a.block hb hs)
def Vw (f:α→Value) (w:World) (p:Option Addr) (l:List α):Prop:= ∀j (hj:j<l.length),∃a,p=some a∧w.cell? (a.add j)=some (f l[j])
theorem add_block (a:Addr) (n:Nat):(a.add n).block=a.block:=by unfold Addr.add;split<;>rfl
theorem Vw.keep {S:Nat→Prop} (h:Vw f w p l) (m:Mod S w w') (hs: ∀b,blk p=some b→¬S b):Vw f w' p l:=by
 intro j hj
 obtain ⟨a,rfl,hc⟩:=h j hj
 exact ⟨a,rfl,cell_keep m hc (by rw [add_block];exact hs _ rfl)⟩
theorem Vw.grow (h:Vw f w p l) (m:Grow w w'):Vw f w' p l:=h.keep m fun _ _=>id
theorem Vw.drew (h:Vw f w p l):Vw f w.drew p l:=h
theorem Vw.nil:Vw f w p []:=fun j hj=>by simp at hj
theorem Vw.lt (h:Vw f w p l) (hl:l≠[]): ∀b,blk p=some b→b<w.heap.size:=by
 intro b hb
 obtain ⟨a,rfl,hc⟩:=h 0 (List.length_pos_iff.2 hl)
 have:=World.block_lt_of_cell? w _ hc
 rw [add_block] at this
 simp [blk] at hb
 omega
theorem Ow.vw (h:Ow f T w p c l):Vw f w p l:=by
 intro j hj
 obtain ⟨g,rfl,hc⟩:=h.cell hj
 exact ⟨_,rfl,by rw [add_at,Nat.zero_add];exact hc⟩
theorem Vw.ix (h:Vw f w p l) {i:Int} {n:Nat} (d:α) (h0:0≤i) (hn:n=l.length) (h1:i<n) {K:Addr→Prop} (hk: ∀a,w.cell? a=some (f (l.getD i.toNat d))→K a):ixK p n i 1 K:=by
 subst hn
 obtain ⟨a,rfl,hc⟩:=h i.toNat (by omega)
 refine ⟨_,rfl,h0,h1,hk _ ?_⟩
 rw [Nat.mul_one,hc]
 simp [List.getD,show i.toNat<l.length by omega]
theorem Vw.ixb (h:Vw f w p l) {i:Int} {n:Nat} (d:α) (h0:0≤i) (hn:n=l.length) (h1:i<n) {K:Addr→Prop} (hk: ∀a,blk p=some a.block→w.cell? a=some (f (l.getD i.toNat d))→K a):ixK p n i 1 K:=by
 subst hn
 obtain ⟨a,rfl,hc⟩:=h i.toNat (by omega)
 refine ⟨_,rfl,h0,h1,hk _ (by rw [add_block];rfl) ?_⟩
 rw [Nat.mul_one,hc]
 simp [List.getD,show i.toNat<l.length by omega]
theorem add_add (a:Addr) (m n:Nat):(a.add m).add n=a.add (m+n):=by
 unfold Addr.add
 by_cases h1:m=0<;>by_cases h2:n=0<;>simp [h1,h2,Nat.add_assoc]
theorem Vw.part (h:Vw f w p l) {i m:Nat} (h1:i+m≤l.length):Vw f w (p.map (·.add (i*1))) ((l.drop i).take m):=by
 intro j hj
 simp only [List.length_take,List.length_drop] at hj
 obtain ⟨a,rfl,hc⟩:=h (i+j) (by omega)
 refine ⟨_,rfl,?_⟩
 rw [Nat.mul_one,add_add,hc]
 simp
theorem Ow.appV {t ty e bytes:Nat} (hs:slOk P t e bytes=true) (h:Ow f e w p c l) {c2:Nat} {news:List α} (h2:Vw f w q news) {n m:Nat} (hn:n=l.length) (hm:m=news.length) (ho: ∀x,(f x).oneCell'=true)
 (hlen:(l.length+news.length)* (bytes+1)≤140737488355328) {K:World→Option Addr→Nat→Nat→Prop}
 (hk: ∀w' p' c',Ow f e w' p' c' (l++news)→Mod (fun b=>blk p=some b) w w'→(p'=p∨p'=some ⟨w.heap.size,0,none⟩)→w.heap.size≤w'.heap.size→K w' p' (l++news).length c'):
 ∃w',∃p' n' c',(Builtin.append_ #[t,t] ty #[.slice p n c,.slice q m c2]).run P w= .ok (.slice p' n' c') w'∧K w' p' n' c':=by
 subst hm
 rcases Nat.eq_zero_or_pos news.length with h0|h0
 · have:news= []:=List.eq_nil_of_length_eq_zero h0
   subst this
   refine ⟨w,p,n,c,h.app0 hs hn,?_⟩
   have:=hk w p c (by simpa using h) (Mod.refl w) (.inl rfl) (Nat.le_refl _)
   simpa [hn] using this
 · obtain ⟨g,hg,_⟩:=h2 0 h0
   subst hg
   refine Ow.app hs h hn news rfl h0 (fun j hj=> ?_) ho hlen hk
   obtain ⟨g',hg',hc⟩:=h2 j hj
   simp only [Option.some.injEq] at hg'
   subst hg'
   exact hc
end Go.Fw
