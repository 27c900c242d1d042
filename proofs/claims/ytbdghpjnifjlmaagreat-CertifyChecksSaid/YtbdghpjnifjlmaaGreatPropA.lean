/- Layer 6: what a propagator's small functions answer. -/
import Derived.Test.YtbdghpjnifjlmaaGreatRedA
import Derived.Test.YtbdghpjnifjlmaaGreatLubyA
import Derived.Laws.CopyRow
import Derived.Laws.IdiomCopy
namespace Go.Proofs.YtbdghpjnifjlmaaGreat.W
open Go Go.Fw Go.RowKit Go.SoP Go.LiP
open Go.Proofs.Tryz (prog)
open Go.IntKind (i64)
section
variable {w w' w2:World} {b:Nat} {H:Pt→Sl} {s:PSt} {l:Int}
abbrev ptrV (b:Nat):Value:= .pointer (some ⟨b,0,none⟩)
theorem sl_int8:slOk prog ty_sl_int8 ty_int8 1=true:=by kernel_rfl
def InV (n:Nat) (l:Int):Prop:=l≠0∧ -(n:Int)≤l∧l≤n
def sideN (l:Int):Nat:=if l<0 then (-2*l+1).toNat else (2*l).toNat
def PSt.val (s:PSt) (l:Int):Int:=if l<0 then -((s.R .va).getD (-l).toNat 0) else (s.R .va).getD l.toNat 0
def PSt.lev (s:PSt) (l:Int):Int:=(s.R .le).getD (amt l).toNat 0
def PSt.rea (s:PSt) (l:Int):Int:=(s.R .re).getD (amt l).toNat 0
def PSt.rk (s:PSt) (l:Int):Int:=if s.val l≥0 then 1048577 else s.lev l
structure Wf (s:PSt):Prop where
 vmax:s.vars≤1048576
 va:(s.R .va).length=s.vars+1
 vb: ∀i,(s.R .va).getD i 0=0∨(s.R .va).getD i 0=1∨(s.R .va).getD i 0= -1
 le:(s.R .le).length=s.vars+1
 re:(s.R .re).length=s.vars+1
 be:(s.R .be).length≤2000000
 tr:(s.R .tr).length≤2000000
 nc:s.nc≤262144
theorem InV.amt {n:Nat} (h:InV n l):1≤Go.Proofs.YtbdghpjnifjlmaaGreat.W.amt l∧Go.Proofs.YtbdghpjnifjlmaaGreat.W.amt l≤n:=by
 obtain ⟨h1,h2,h3⟩:=h
 unfold Go.Proofs.YtbdghpjnifjlmaaGreat.W.amt
 split<;>omega
theorem InV.bd {n:Nat} (h:InV n l) (hn:n≤1048576): -1048576≤l∧l≤1048576:=by
 obtain ⟨h1,h2,h3⟩:=h
 omega
theorem InV.neg {n:Nat} (h:InV n l):InV n (-l):=by
 obtain ⟨h1,h2,h3⟩:=h
 exact ⟨by omega,by omega,by omega⟩
theorem sideN_lt {n:Nat} (h:InV n l):sideN l<2* (n+1):=by
 obtain ⟨h1,h2,h3⟩:=h
 unfold sideN
 split<;>omega
theorem pamount_ok (hl: -1048576≤l∧l≤1048576) (w:World):Calls prog prop_amount.id #[.int .i64 l] w fun e w'=>e= .returned (.int .i64 (amt l))∧w'=w:=by
 refine prop_amount.calls ?_
 have e:imax l (i64.wrap (0 - l))=amt l:=by
  rw [wrap64_of (by omega) (by omega)]
  unfold imax amt
  split<;>split<;>omega
 exact ⟨by rw [e],rfl⟩
theorem side_ok (hl: -1048576≤l∧l≤1048576) (w:World):Calls prog prop_side.id #[.int .i64 l] w fun e w'=>e= .returned (.int .i64 (sideN l))∧w'=w:=by
 refine prop_side.calls ?_
 refine cnd_i (fun s=> ?_) (fun s=> ?_)
 · have s:l<0:=by simpa using s
   have e:i64.wrap (i64.wrap ((-2)*l)+1)=((sideN l:Nat):Int):=by
    rw [wrap64_of (x:=(-2)*l) (by omega) (by omega),wrap64_of (by omega) (by omega)]
    unfold sideN;rw [if_pos s];omega
   exact ⟨by rw [e],rfl⟩
 · have s: ¬l<0:=by simpa using s
   have e:i64.wrap (2*l)=((sideN l:Nat):Int):=by
    rw [wrap64_of (by omega) (by omega)]
    unfold sideN;rw [if_neg s];omega
   exact ⟨by rw [e],rfl⟩
theorem wrap8_of {x:Int} (h1: -128≤x) (h2:x<128):IntKind.i8.wrap x=x:=by
 simp only [IntKind.wrap,IntKind.bits,IntKind.signed]
 simp only [Int.reducePow,Nat.reduceSub,Bool.true_and,decide_eq_true_eq,ge_iff_le]
 split<;>omega
theorem PSt.val_bd (k:Wf s) (l:Int):s.val l=0∨s.val l=1∨s.val l= -1:=by
 unfold PSt.val
 split
 · rcases k.vb (-l).toNat with h|h|h<;>rw [h]<;>simp
 · exact k.vb l.toNat
theorem val_ok (h:PM w b H s) (k:Wf s) (hl:InV s.vars l):Calls prog prop_Prop_val.id #[ptrV b,.int .i64 l] w fun e w'=>e= .returned (.int .i8 (s.val l))∧w'=w:=by
 have hb:=hl.bd k.vmax
 obtain ⟨h1,h2,h3⟩:=hl
 refine prop_Prop_val.calls ?_
 refine cnd_i (fun r=> ?_) (fun r=> ?_)
 · have r:l<0:=by simpa using r
   have e:i64.wrap (0 - l)= -l:=by rw [wrap64_of (by omega) (by omega)];omega
   rw [show i64.wrap (0 - l)= -l from e]
   refine ⟨_,rfl,_,_,_,cell_add h.st rfl,h.rIx (x:= .va) rfl (by omega) rfl (by rw [k.va];omega) fun a ha hc=> ⟨_,hc,?_,rfl⟩⟩
   have:=k.vb (-l).toNat
   rw [wrap8_of (by omega) (by omega)]
   unfold PSt.val
   rw [if_pos r]
   simp
 · have r: ¬l<0:=by simpa using r
   refine ⟨_,rfl,_,_,_,cell_add h.st rfl,h.rIx (x:= .va) rfl (by omega) rfl (by rw [k.va];omega) fun a ha hc=> ⟨_,hc,?_,rfl⟩⟩
   unfold PSt.val
   rw [if_neg r]
theorem rank_ok (h:PM w b H s) (k:Wf s) (hl:InV s.vars l):Calls prog prop_Prop_rank.id #[ptrV b,.int .i64 l] w fun e w'=>e= .returned (.int .i64 (s.rk l))∧Same w w':=by
 have hb:=hl.bd k.vmax
 have ha:=hl.amt
 refine prop_Prop_rank.calls ?_
 refine (val_ok h k hl).mono ?_
 rintro e w1 ⟨rfl,rfl⟩
 refine ⟨_,rfl,cnd_i (fun r=> ⟨?_,Same.refl _⟩) (fun r=> ?_)⟩
 · unfold PSt.rk;rw [if_pos (by simpa using r)]
 · refine ⟨(·=w1.drew),rfl,_,rfl,_,_,_,atW_eq (cell_add h.st rfl),(pamount_ok hb _).mono ?_⟩
   rintro e w2 ⟨rfl,rfl⟩
   refine ⟨_,rfl,rfl,h.drew.rIx (x:= .le) rfl (by omega) rfl (by rw [k.le];omega) fun a ha hc=> ⟨_,atW_eq hc,?_,(Same.refl _).drew⟩⟩
   unfold PSt.rk;rw [if_neg (by simpa using r)];rfl
end
section
variable {w w' w2 w3:World} {b:Nat} {H H' H2:Pt→Sl} {s t u:PSt} {l:Int}
structure Pw (w w':World) (b:Nat) (H H':Pt→Sl) (s':PSt):Prop where
 pm:PM w' b H' s'
 mod:Mod (fun k=> ∃x,own b H x=some k) w w'
 ft: ∀x k,own b H' x=some k→(∃y,own b H y=some k)∨w.heap.size≤k
theorem Pw.refl (h:PM w' b H s) (g:Grow w w'):Pw w w' b H H s:=⟨h,g.mono fun _ _ e=>e.elim,fun x _ hk=> .inl ⟨x,hk⟩⟩
theorem Pw.trans (h:Pw w w2 b H H2 t) (k:Pw w2 w3 b H2 H' u):Pw w w3 b H H' u:=by
 refine ⟨k.pm,h.mod.then k.mod fun j hj ⟨x,e⟩=> ?_,fun x j hj=> ?_⟩
 · rcases h.ft x j e with e|e
   · exact e
   · omega
 · rcases k.ft x j hj with ⟨y,e⟩|e
   · exact h.ft y j e
   · exact .inr (Nat.le_trans h.mod.size e)
theorem Pw.grow (h:Pw w w2 b H H' t) (g:Grow w2 w3):Pw w w3 b H H' t:=h.trans (.refl (h.pm.grow g) g)
theorem Pw.drew (h:Pw w w2 b H H' t):Pw w w2.drew b H H' t:=h.grow (Mod.refl _).drew
theorem Pw.pre {w0:World} (g:Grow w0 w) (h:Pw w w2 b H H' t):Pw w0 w2 b H H' t:=
 ⟨h.pm,(g.mono fun _ _ e=>e.elim).trans h.mod,fun x k hk=> (h.ft x k hk).imp id fun e=>Nat.le_trans g.size e⟩
theorem Pw.row (h:PM w' b H t) {x:Pt} (hx:x.row=true) (m:Mod (fun k=>blk (H x).p=some k) w w'):Pw w w' b H H t:=
 ⟨h,m.mono fun k _ e=> ⟨x,by rw [own_ne (row_ne hx).1];exact e⟩,fun x _ hk=> .inl ⟨x,hk⟩⟩
theorem Pw.head {x z:Pt} {q:Sl} (hx:x≠ .st) (h:PM w3 b (updF H x q) t) (m:Mod (fun k=>blk (H x).p=some k) w w2) (m2:Mod (fun k=>own b H z=some k) w2 w3)
 (hp: ∀k,blk q.p=some k→blk (H x).p=some k∨w.heap.size≤k):Pw w w3 b H (updF H x q) t:=by
 refine ⟨h,(m.mono fun k _ e=> ⟨x,by rw [own_ne hx];exact e⟩).trans (m2.mono fun k _ e=> ⟨z,e⟩),fun y k hk=> ?_⟩
 by_cases e:y=x
 · subst e
   rw [own_ne hx,updF_same] at hk
   rcases hp k hk with e|e
   · exact .inl ⟨y,by rw [own_ne hx];exact e⟩
   · exact .inr e
 · refine .inl ⟨y,?_⟩
   cases y<;>first|exact hk| (simp only [own] at hk ⊢;rwa [updF_ne e] at hk)
theorem fresh_or (h:PM w b H s) {p':Option Addr} {x:Pt} {w1:World} (g:w.heap.size≤w1.heap.size) (hp:p'=(H x).p∨p'=some ⟨w1.heap.size,0,none⟩):
 (∀k,blk p'=some k→blk (H x).p=some k∨∀y,own b H y≠some k)∧(∀k,blk p'=some k→blk (H x).p=some k∨w.heap.size≤k):=by
 rcases hp with rfl|rfl
 · exact ⟨fun k hk=> .inl hk,fun k hk=> .inl hk⟩
 · exact ⟨fun k hk=> .inr (h.fresh (by have:=blk_some hk;omega)),fun k hk=> .inr (by have:=blk_some hk;omega)⟩
theorem PM.app1 (h:PM w b H s) {x:Pt} (hx:x.field=true) (y:Int) (hlen:(s.R x).length≤4000000) {n:Nat} (hn:n=(H x).n) {K:World→Prop}
 (hk: ∀w3 q,PM w3 b (updF H x q) (s.set x (s.R x++ [y]))→Pw w w3 b H (updF H x q) (s.set x (s.R x++ [y]))→K w3):
 ∀n1 w1,New (.cells #[.int .i64 y] ty_int) w n1 w1→∃w2,∃ (p':Option Addr) (n' c':Nat),(Builtin.append_ #[ty_sl_int,ty_sl_int] ty_sl_int #[.slice (H x).p n (H x).c,.slice (some (Addr.mk n1 0 none)) 1 1]).run prog w1= .ok (.slice p' n' c') w2∧
  ∃a:Addr,(some ⟨b,0,none⟩:Option Addr)=some a∧∃w3,StoreAt (a.add x.off) 0 [.slice p' n' c'] w2 w3∧K w3:=by
 intro n1 w1 h1
 have hr:=field_row hx
 have ef:x.f=Value.int .i64:=by cases x<;>simp [Pt.field] at hx<;>rfl
 have eT:x.T=ty_int:=by cases x<;>simp [Pt.field] at hx<;>rfl
 have h':=h.grow h1.mod
 have o:OwI ty_int w1 (H x).p (H x).c (s.R x):=by have:=h'.row x hr;rw [ef,eT] at this;exact this
 refine o.app1 sl_int y h1.has rfl (by rw [hn,h.len x hr]) oneInt (by omega) fun w2 p' c' o2 m2 hp2 hs2=> ⟨_,rfl,?_⟩
 have g1:=h1.mod.size
 obtain ⟨f1,f2⟩:=fresh_or h (x:=x) g1 hp2
 refine h'.head hx (c':=c') (l':=s.R x++ [y]) (by rw [ef,eT];exact o2) (h'.but hr m2) (fun k hk=> (f1 k hk)) (by simp) fun w3 h3 m3=>hk w3 _ h3 (Pw.head (z:= .st) (row_ne hr).1 h3 ((h1.mod.mono fun _ _ e=>e.elim).trans m2) (m3.mono fun k _ e=>by rw [e];rfl) f2)
def PSt.put (s:PSt) (l r:Int):PSt:=
 (((s.set .va ((s.R .va).set (amt l).toNat (if l<0 then -1 else 1))).set .le ((s.R .le).set (amt l).toNat (s.R .be).length)).set .re ((s.R .re).set (amt l).toNat r)).set .tr (s.R .tr++ [l])
theorem put_ok (h:PM w b H s) (k:Wf s) (hl:InV s.vars l) (r:Int):Calls prog prop_Prop_put.id #[ptrV b,.int .i64 l,.int .i64 r] w fun e w'=>e= .returned (.tuple #[])∧∃q,Pw w w' b H (updF H .tr q) (s.put l r):=by
 have hb:=hl.bd k.vmax
 have ha:=hl.amt
 have hlc:=hl
 obtain ⟨l1,l2,l3⟩:=hlc
 have sz: ∀x,x≠Pt.va→∀V,(s.set .va V).R x=s.R x:=fun x hx V=>updF_ne hx
 have tail: ∀w7:World,PM w7 b H (s.set .va ((s.R .va).set (amt l).toNat (if l<0 then -1 else 1)))→Pw w.drew w7 b H H (s.set .va ((s.R .va).set (amt l).toNat (if l<0 then -1 else 1)))→
  (∃W35:World→Prop,W35 w7.drew∧
  ∃a36,(some ⟨b,0,none⟩:Option Addr)=some a36∧∃x37p x37n x37c,AtW W35 (a36.add 4) (.slice x37p x37n x37c)∧
  Calls prog prop_amount.id #[.int .i64 l] w7.drew fun e w38=> ∃r39,e= .returned (.int .i64 r39)∧
  W35 w38∧∃a40,(some ⟨b,0,none⟩:Option Addr)=some a40∧∃x41p x41n x41c,AtW W35 (a40.add 5) (.slice x41p x41n x41c)∧
  Calls prog prop_amount.id #[.int .i64 l] w38 fun e w42=> ∃r43,e= .returned (.int .i64 r43)∧
  W35 w42∧∃a44,(some ⟨b,0,none⟩:Option Addr)=some a44∧∃x45p x45n x45c,AtW W35 (a44.add 7) (.slice x45p x45n x45c)∧
  ixK x37p x37n r39 1 fun a46=>
  ∃w47,StoreAt a46 0 [.int .i64 (x45n:Int)] w42 w47∧
  ixK x41p x41n r43 1 fun a48=>
  ∃w49,StoreAt a48 0 [.int .i64 r] w47 w49∧
  ∃a50,(some ⟨b,0,none⟩:Option Addr)=some a50∧∃x51p x51n x51c,w49.cell? (a50.add 6)=some (.slice x51p x51n x51c)∧
  ∀n52 w53,New (.cells #[.int .i64 l] ty_int) w49 n52 w53→
  ∃w54 r55p r55n r55c,(Builtin.append_ #[ty_sl_int,ty_sl_int] ty_sl_int #[.slice x51p x51n x51c,.slice (some (Addr.mk n52 0 none)) 1 1]).run prog w53= .ok (.slice r55p r55n r55c) w54∧
  ∃a56,(some ⟨b,0,none⟩:Option Addr)=some a56∧∃w57,StoreAt (a56.add 6) 0 [.slice r55p r55n r55c] w54 w57∧
  ((Ending.returned (.tuple #[])= .returned (.tuple #[]))∧∃q,Pw w w57 b H (updF H .tr q) (s.put l r))):=by
  intro w7 h7 p7
  generalize hV:(s.R .va).set (amt l).toNat (if l<0 then -1 else 1)=V at h7 p7
  refine ⟨(·=w7.drew),rfl,_,rfl,_,_,_,atW_eq (cell_add h7.drew.st rfl),(pamount_ok hb _).mono ?_⟩
  rintro e w8 ⟨rfl,rfl⟩
  refine ⟨_,rfl,rfl,_,rfl,_,_,_,atW_eq (cell_add h7.drew.st rfl),(pamount_ok hb _).mono ?_⟩
  rintro e w9 ⟨rfl,rfl⟩
  refine ⟨_,rfl,rfl,_,rfl,_,_,_,atW_eq (cell_add h7.drew.st rfl),h7.drew.rSt (x:= .le) rfl (by omega) rfl (by rw [sz _ (by simp),k.le];omega) (y:=(s.R .be).length) (by rw [h.len .be rfl];rfl) rfl fun w24 h24 m24=> ?_⟩
  refine h24.rSt (x:= .re) rfl (by omega) rfl (by simp [PSt.set,updF,k.re];omega) (y:=r) rfl rfl fun w26 h26 m26=> ?_
  have p26:=(p7.drew.trans (Pw.row h24 (x:= .le) rfl m24)).trans (Pw.row h26 (x:= .re) rfl m26)
  refine ⟨_,rfl,_,_,_,cell_add h26.st rfl,?_⟩
  refine h26.app1 (x:= .tr) rfl l (by have:=k.tr;simp [PSt.set,updF];omega) rfl fun w34 q h34 p34=> ?_
  refine ⟨rfl,q,?_⟩
  have e34:s.put l r=((((s.set .va V).set .le (((s.set .va V).R .le).set (amt l).toNat ((s.R .be).length))).set .re ((((s.set .va V).set .le (((s.set .va V).R .le).set (amt l).toNat ((s.R .be).length))).R .re).set (amt l).toNat r)).set .tr
   ((((s.set .va V).set .le (((s.set .va V).R .le).set (amt l).toNat ((s.R .be).length))).set .re ((((s.set .va V).set .le (((s.set .va V).R .le).set (amt l).toNat ((s.R .be).length))).R .re).set (amt l).toNat r)).R .tr++ [l])):=by
   simp [PSt.put,← hV,PSt.set,updF]
  rw [e34]
  exact (p26.trans p34).pre (Mod.refl w).drew
 refine prop_Prop_put.calls ?_
 refine ⟨(·=w.drew),rfl,_,rfl,_,_,_,atW_eq (cell_add h.drew.st rfl),(pamount_ok hb _).mono ?_⟩
 rintro e w1 ⟨rfl,rfl⟩
 refine ⟨_,rfl,rfl,h.drew.rSt (x:= .va) rfl (by omega) rfl (by rw [k.va];omega) (y:=1) rfl rfl fun w3 h3 m3=>cnd_i (fun r=> ?_) (fun r=> ?_)⟩
 · have r:l<0:=by simpa using r
   have e:i64.wrap (0 - l)=amt l:=by rw [wrap64_of (by omega) (by omega)];unfold amt;rw [if_pos r];omega
   rw [e]
   refine ⟨_,rfl,_,_,_,cell_add h3.st rfl,h3.rSt (x:= .va) rfl (by omega) rfl (by simp [PSt.set,updF_same,k.va];omega) (y:= -1) rfl rfl fun w7 h7 m7=> ?_⟩
   have e7:(s.set .va ((s.R .va).set (amt l).toNat 1)).set .va (((s.set .va ((s.R .va).set (amt l).toNat 1)).R .va).set (amt l).toNat (-1))=s.set .va ((s.R .va).set (amt l).toNat (if l<0 then -1 else 1)):=by
    rw [if_pos r]
    simp only [PSt.set,updF_same,List.set_set]
    congr 1;funext y;simp only [updF];split<;>rfl
   rw [e7] at h7
   have p7:=(Pw.row h3 (x:= .va) rfl m3).trans (Pw.row h7 (x:= .va) rfl m7)
   exact tail w7 h7 p7
 · have r: ¬l<0:=by simpa using r
   have p3:=Pw.row h3 (x:= .va) rfl m3
   refine tail w3 ?_ ?_
   · rw [if_neg r];exact h3
   · rw [if_neg r];exact p3
end
section
variable {w w' w2 w3:World} {b:Nat} {H H' H2:Pt→Sl} {s t u:PSt} {l:Int}
def isB (n:Nat) (l:Int):Bool:=litB l && decide (amt l≤n)
theorem isB_iff {n:Nat} (hn:n≤1048576):isB n l=true↔InV n l:=by
 unfold isB litB InV amt
 simp only [Bool.and_eq_true,decide_eq_true_eq]
 split<;>omega
theorem va_some (h:PM w b H s) (k:Wf s): ∃a,(H .va).p=some a:=by
 rcases (h.row .va rfl).un with ⟨_,_,e⟩| ⟨g,_,e,_⟩
 · have:=k.va;rw [e] at this;simp at this
 · exact ⟨_,e⟩
theorem is_ok (h:PM w b H s) (k:Wf s) (l:Int):Calls prog prop_Prop_is.id #[ptrV b,.int .i64 l] w fun e w'=>e= .returned (.bool (isB s.vars l))∧Grow w w':=by
 refine prop_Prop_is.calls ?_
 obtain ⟨av,hav⟩:=va_some h k
 refine ⟨fun u=>Grow w u,(Mod.refl w).drew,cnd_t rfl ⟨_,rfl,_,_,_,fun u g=>cell_add (h.grow g).st rfl,?_⟩⟩
 rw [hav]
 refine cnd_t rfl ?_
 intro n1 w1 h1
 have g1:Grow w w1:=(Mod.refl w).drew.trans h1.mod
 have v1:Vw (Value.int .i64) w1 (some ⟨n1,0,none⟩) [l]:=by
  intro j hj
  have hj:j=0:=by simpa using hj
  subst hj
  exact ⟨_,rfl,cell_add h1.has rfl⟩
 refine ⟨g1,(litCheck_ok v1 rfl (by simp [maxLen])).mono ?_⟩
 rintro e w2 ⟨rfl,g2⟩
 have G2:=g1.trans g2
 have ec:clB [l]=litB l:=by simp [clB]
 refine ⟨_,rfl,G2,?_⟩
 rw [ec]
 cases hl:litB l with
 |false=>exact cnd_f rfl ⟨by simp [isB,hl],G2⟩
 |true=>
  refine cnd_t rfl ((pamount_ok (litB_bd hl).2 _).mono ?_)
  rintro e w3 ⟨rfl,rfl⟩
  exact ⟨_,rfl,G2,_,rfl,_,fun u g=>cell_add (h.grow g).st rfl,by simp [isB,hl],G2⟩
def PSt.value (s:PSt) (l:Int):Int:=if isB s.vars l then s.val l else 0
theorem value_ok (h:PM w b H s) (k:Wf s) (l:Int):Calls prog prop_Prop_Value.id #[ptrV b,.int .i64 l] w fun e w'=>e= .returned (.int .i64 (s.value l))∧Grow w w':=by
 refine prop_Prop_Value.calls ((is_ok h k l).mono ?_)
 rintro e w1 ⟨rfl,g1⟩
 refine ⟨_,rfl,?_⟩
 cases hi:isB s.vars l with
 |false=>exact cnd_t rfl ⟨by simp [PSt.value,hi],g1⟩
 |true=>
  refine cnd_f rfl ((val_ok (h.grow g1) k ((isB_iff k.vmax).1 hi)).mono ?_)
  rintro e w2 ⟨rfl,rfl⟩
  refine ⟨_,rfl,?_,g1⟩
  have:=PSt.val_bd k l
  rw [wrap64_of (by omega) (by omega)]
  simp [PSt.value,hi]
theorem levels_ok (h:PM w b H s):Calls prog prop_Prop_Levels.id #[ptrV b] w fun e w'=>e= .returned (.int .i64 (s.R .be).length)∧w'=w:=by
 refine prop_Prop_Levels.calls (cnd_f rfl ⟨_,rfl,_,_,_,cell_add h.st rfl,?_,rfl⟩)
 rw [h.len .be rfl]
def PSt.is (s:PSt) (i:Int):Bool:=decide (0≤i∧i<s.nc) && !s.gone i.toNat
theorem there_ok (h:PM w b H s) (i:Int):Calls prog prop_Prop_there.id #[ptrV b,.int .i64 i] w fun e w'=>e= .returned (.bool (s.is i))∧w'=w:=by
 refine prop_Prop_there.calls (cnd_t rfl (cnd_i (fun r=> ?_) fun r=> ?_))
 · have r:0≤i:=by simpa using r
   refine ⟨_,rfl,_,_,_,cell_add h.st rfl,cnd_i (fun r2=> ?_) fun r2=> ?_⟩
   · have r2:i<s.nc:=by rw [h.cn] at r2;simpa using r2
     refine ⟨_,rfl,_,_,_,cell_add h.st rfl,h.cIx (i:=i.toNat) (by omega) rfl (by omega) fun a hc=> ⟨_,hc.get 2 _ rfl,?_,rfl⟩⟩
     simp [PSt.is,r,r2]
   · have r2: ¬i<s.nc:=by rw [h.cn] at r2;simpa using r2
     exact ⟨by simp [PSt.is,r2],rfl⟩
 · have r: ¬0≤i:=by simpa using r
   exact ⟨by simp [PSt.is,r],rfl⟩
theorem same1 {i:Int} {n1:Nat} (h:Has w n1 #[.int .i64 i]) (x:Int):Calls prog prop_Prop_unwatch_1.id #[.int .i64 x,.pointer (some ⟨n1,0,none⟩)] w fun e w'=>e= .returned (.bool (x==i))∧Grow w w':=
 prop_Prop_unwatch_1.calls ⟨_,cell_of h rfl,rfl,Mod.refl _⟩
theorem same2 {i:Int} {n1:Nat} (h:Has w n1 #[.int .i64 i]) (x:Int):Calls prog prop_Prop_Drop_1.id #[.int .i64 x,.pointer (some ⟨n1,0,none⟩)] w fun e w'=>e= .returned (.bool (x==i))∧Grow w w':=
 prop_Prop_Drop_1.calls ⟨_,cell_of h rfl,rfl,Mod.refl _⟩
theorem same1_ent:entB prog prop_Prop_unwatch_1.id=true:=by kernel_rfl
theorem same2_ent:entB prog prop_Prop_Drop_1.id=true:=by kernel_rfl
theorem false1 (h:PM w b H s) (k:Wf s) {n1:Nat} (h1:Has w n1 #[ptrV b]) {x:Int} (hx:InV s.vars x):Calls prog prop_Prop_loosely_1.id #[.int .i64 x,.pointer (some ⟨n1,0,none⟩)] w fun e w'=>e= .returned (.bool (decide (s.val x<0)))∧Grow w w':=by
 refine prop_Prop_loosely_1.calls ⟨_,cell_of h1 rfl,(val_ok h k hx).mono ?_⟩
 rintro e w1 ⟨rfl,rfl⟩
 exact ⟨_,rfl,rfl,Mod.refl _⟩
theorem false1_ent:entB prog prop_Prop_loosely_1.id=true:=by kernel_rfl
theorem add1 (h:PM w b H s) (k:Wf s) {n1:Nat} (h1:Has w n1 #[ptrV b]) (x:Int):Calls prog prop_Prop_Add_1.id #[.int .i64 x,.pointer (some ⟨n1,0,none⟩)] w fun e w'=>e= .returned (.bool (!isB s.vars x))∧Grow w w':=by
 refine prop_Prop_Add_1.calls ⟨_,cell_of h1 rfl,(is_ok h k x).mono ?_⟩
 rintro e w1 ⟨rfl,g⟩
 exact ⟨_,rfl,rfl,g⟩
theorem add1_ent:entB prog prop_Prop_Add_1.id=true:=by kernel_rfl
end
section
variable {w w' w0 w2 w3 wA:World} {b:Nat} {H H' H2:Pt→Sl} {s t u:PSt} {l:Int}
theorem Wf.set {x:Pt} (k:Wf s) (h1:x≠ .va) (h2:x≠ .le) (h3:x≠ .re) (h4:x≠ .be) (h5:x≠ .tr) (l:List Int):Wf (s.set x l):=
 ⟨k.vmax,by simp only [PSt.set,updF_ne (Ne.symm h1)];exact k.va,by simp only [PSt.set,updF_ne (Ne.symm h1)];exact k.vb,by simp only [PSt.set,updF_ne (Ne.symm h2)];exact k.le,by simp only [PSt.set,updF_ne (Ne.symm h3)];exact k.re,
   by simp only [PSt.set,updF_ne (Ne.symm h4)];exact k.be,by simp only [PSt.set,updF_ne (Ne.symm h5)];exact k.tr,k.nc⟩
theorem val_eq (e:t.R .va=s.R .va) (l:Int):t.val l=s.val l:=by unfold PSt.val;rw [e]
theorem rk_eq (e:t.R .va=s.R .va) (e2:t.R .le=s.R .le) (l:Int):t.rk l=s.rk l:=by unfold PSt.rk PSt.lev;rw [val_eq e,e2]
theorem set_ne {x y:Pt} {l:List Int} (h:y≠x):(s.set x l).R y=s.R y:=updF_ne h
theorem set_eq {x:Pt} {l:List Int}:(s.set x l).R x=l:=updF_same
theorem set_set {x:Pt} {l m:List Int}:(s.set x l).set x m=s.set x m:=by
 simp only [PSt.set]
 congr 1
 funext y
 simp only [updF]
 split<;>rfl
theorem set_self' {x:Pt}:s.set x (s.R x)=s:=by
 unfold PSt.set
 congr 1
 funext y
 simp only [updF]
 split
 · rename_i e;rw [e]
 · rfl
theorem PM.appW (h:PM w0 b H t) {j:Nat} (hj:j<2* (t.vars+1)) (g:Grow w0 wA) {n:Nat} {i:Int} (hb:Has wA n #[.int .i64 i]) (hlen:(t.R (.w j)).length≤4000000) {K:World→Prop}
 (hk: ∀w3 q,Pw w0 w3 b H (updF H (.w j) q) (t.set (.w j) (t.R (.w j)++ [i]))→K w3) {I:Int} (hI:I=j):
 ∃w2,∃ (p':Option Addr) (n' c':Nat),(Builtin.append_ #[ty_sl_int,ty_sl_int] ty_sl_int #[.slice (H (.w j)).p (H (.w j)).n (H (.w j)).c,.slice (some (Addr.mk n 0 none)) 1 1]).run prog wA= .ok (.slice p' n' c') w2∧
  Mod (fun k=>blk (H (.w j)).p=some k) w0 w2∧ixK (H .wa).p (H .wa).n I 1 fun a=> ∃w3,StoreAt a 0 [.slice p' n' c'] w2 w3∧K w3:=by
 have h':=h.grow g
 have o:OwI ty_int wA (H (.w j)).p (H (.w j)).c (t.R (.w j)):=h'.row (.w j) rfl
 refine o.app1 sl_int i hb rfl (h.len (.w j) rfl) oneInt (by omega) fun w2 p' c' o2 m2 hp2 hs2=> ?_
 have m:Mod (fun k=>blk (H (.w j)).p=some k) w0 w2:=(g.mono fun _ _ e=>e.elim).trans m2
 obtain ⟨f1,f2⟩:=fresh_or h (x:= .w j) g.size hp2
 refine ⟨m,h'.headW hj o2 (h'.but rfl m2) f1 (by simp) h.wn hI fun w3 h3 m3=>hk w3 _ (Pw.head (z:= .wa) (by simp) h3 m m3 f2)⟩
def wF (i:Int) (t:PSt) (xs:List Int):PSt:=xs.foldl (fun t x=>t.set (.w (sideN x)) (t.R (.w (sideN x))++ [i])) t
theorem wF_append (i:Int) (t:PSt) (xs:List Int) (x:Int):wF i t (xs++ [x])=(wF i t xs).set (.w (sideN x)) ((wF i t xs).R (.w (sideN x))++ [i]):=by simp [wF]
theorem wF_R (i:Int) {y:Pt} (hy: ∀j,y≠ .w j): ∀ (xs:List Int) (t:PSt),(wF i t xs).R y=t.R y
 | [],_=>rfl
 |_::xs,_=> (wF_R i hy xs _).trans (set_ne (hy _))
theorem wF_vars (i:Int): ∀ (xs:List Int) (t:PSt),(wF i t xs).vars=t.vars∧(wF i t xs).nc=t.nc∧(wF i t xs).gone=t.gone∧(wF i t xs).done=t.done
 | [],_=> ⟨rfl,rfl,rfl,rfl⟩
 |x::xs,t=>wF_vars i xs (t.set (.w (sideN x)) (t.R (.w (sideN x))++ [i]))
theorem wF_len (i:Int) (j:Nat): ∀ (xs:List Int) (t:PSt),((wF i t xs).R (.w j)).length≤(t.R (.w j)).length+xs.length
 | [],_=>Nat.le_refl _
 |x::xs,t=>by
  have:=wF_len i j xs (t.set (.w (sideN x)) (t.R (.w (sideN x))++ [i]))
  refine Nat.le_trans this ?_
  by_cases e:sideN x=j
  · subst e;rw [set_eq];simp;omega
  · rw [set_ne (fun h=>e (by injection h with h;exact h.symm))];simp
def Best (rk:Int→Int) (n:Nat) (l:List Int):Prop:= ∀t,t<n→∀j,t≤j→j<l.length→rk (l.getD j 0)≤rk (l.getD t 0)
def settleS (s:PSt) (i:Nat) (l':List Int):PSt:=
 let u:=wF i (s.set (.l i) l') (l'.take 2)
 if l'.length<2∨s.val (l'.getD 1 0)<0 then u.set .lo (s.R .lo++ [(i:Int)]) else u
def KeepH (H H':Pt→Sl):Prop:= ∀x,(∀j,x≠ .w j)→x≠ .lo→H' x=H x
theorem KeepH.refl:KeepH H H:=fun _ _ _=>rfl
theorem KeepH.wt (h:KeepH H H') {j:Nat} {q:Sl}:KeepH H (updF H' (.w j) q):=fun x h1 h2=>by rw [updF_ne (h1 j)];exact h x h1 h2
set_option linter.unusedVariables false in
theorem settle_ok (h:PM w b H s) (k:Wf s) {i:Nat} (hi:i<s.nc) (hl: ∀x∈s.R (.l i),InV s.vars x) (hn:(s.R (.l i)).length≤100000) (hw: ∀j,(s.R (.w j)).length+2≤4000000) (hlo:(s.R .lo).length≤4000000):
 Calls prog prop_Prop_settle.id #[ptrV b,.int .i64 i] w fun e w'=>e= .returned (.tuple #[])∧∃l' H',Best s.rk 2 l'∧l'.Perm (s.R (.l i))∧Pw w w' b H H' (settleS s i l')∧KeepH H H'∧(2≤l'.length→0≤s.val (l'.getD 1 0)→H' .lo=H .lo):=by
 have nc:=k.nc
 refine prop_Prop_settle.calls ?_
 refine ⟨_,rfl,_,_,_,cell_add h.st rfl,h.cIx hi rfl rfl fun a3 hc3=> ⟨_,_,_,hc3.get 1 _ rfl,?_⟩⟩
 have hln:(H (.l i)).n=(s.R (.l i)).length:=h.len (.l i) rfl
 generalize hN:(s.R (.l i)).length=N at*
 refine ⟨fun K u m=> ∃ (t:Nat) (l':List Int),K=t∧t≤2∧t≤N∧m=2 - t∧l'.Perm (s.R (.l i))∧Best s.rk t l'∧Pw w u b H H (s.set (.l i) l'),
  ⟨_,0,s.R (.l i),rfl,Nat.zero_le _,Nat.zero_le _,rfl,List.Perm.refl _,fun t ht=>by omega,by rw [set_self'];exact Pw.refl h (Mod.refl w)⟩,?_⟩
 rintro K w9 m _ ⟨t,l',rfl,ht,htN,rfl,pm,hb,P9⟩
 have hlen:l'.length=N:=by rw [pm.length_eq,hN]
 have hin: ∀x∈l',InV s.vars x:=fun x hx=>hl x (pm.mem_iff.1 hx)
 have e2: ∀y,y≠Pt.l i→∀L,(s.set (.l i) L).R y=s.R y:=fun y hy L=>set_ne hy
 have him:imin 2 ((H (.l i)).n:Int)=((min 2 N:Nat):Int):=by rw [hln];unfold imin;split<;>omega
 rw [him]
 refine cnd_i (fun r=> ?_) (fun r=> ?_)
 · have r:t<min 2 N:=by simp at r;omega
   have h9:=P9.pm
   have k9:Wf (s.set (.l i) l'):=k.set (by simp) (by simp) (by simp) (by simp) (by simp) l'
   refine ⟨fun B J u m=> ∃ (B' J':Nat),B=B'∧J=J'∧t≤B'∧B'<N∧B'<J'∧J'≤N∧m=N - J'∧(∀x,t≤x→x<J'→s.rk (l'.getD x 0)≤s.rk (l'.getD B' 0))∧Grow w9 u,
    ⟨_,t,t+1,rfl,wN (by omega) (by omega),Nat.le_refl _,by omega,by omega,by omega,rfl,fun x x1 x2=> (by rw [show x=t by omega];exact Int.le_refl _),Mod.refl _⟩,?_⟩
   rintro B J w15 m _ ⟨B,J,rfl,rfl,tB,BN,BJ,JN,rfl,hmax,g15⟩
   refine cnd_i (fun r2=> ?_) (fun r2=> ?_)
   · have r2:J<N:=by rw [hln] at r2;simpa using r2
     have h15:=h9.grow g15
     have hr: ∀ {u:World} {X:Nat},Grow w9 u→X<N→Calls prog prop_Prop_rank.id #[ptrV b,.int .i64 (l'.getD X 0)] u fun e w'=>e= .returned (.int .i64 (s.rk (l'.getD X 0)))∧Grow u w':=by
      intro u X g hX
      refine (rank_ok (h9.grow g) k9 (hin _ (mem_getD (by omega)))).mono ?_
      rintro e w' ⟨rfl,sm⟩
      rw [rk_eq (s:=s) (set_ne (by simp)) (set_ne (by simp))]
      exact ⟨rfl,sm.mod⟩
     refine ⟨fun u=>Grow w15 u,(Mod.refl _).drew,h15.rIx (x:= .l i) rfl (by omega) rfl (by rw [set_eq];omega) fun a17 _ hc17=> ⟨_,fun u g=>cell_keep g hc17 id,?_⟩⟩
     rw [set_eq,Int.toNat_natCast]
     refine (hr g15.drew r2).mono ?_
     rintro e w19 ⟨rfl,g19⟩
     have G19:=((Mod.refl w15).drew).trans g19
     refine ⟨_,rfl,G19,h15.rIx (x:= .l i) rfl (by omega) rfl (by rw [set_eq];omega) fun a21 _ hc21=> ⟨_,fun u g=>cell_keep g hc21 id,?_⟩⟩
     rw [set_eq,Int.toNat_natCast]
     refine (hr (g15.trans G19) BN).mono ?_
     rintro e w23 ⟨rfl,g23⟩
     have G23:=g15.trans (G19.trans g23)
     refine ⟨_,rfl,cnd_i (fun r3=> ?_) (fun r3=> ?_)⟩
     · have r3:s.rk (l'.getD B 0)<s.rk (l'.getD J 0):=by simpa using r3
       refine ⟨_,?_,J,J+1,rfl,wN (by omega) (by omega),by omega,r2,by omega,by omega,rfl,fun x x1 x2=> ?_,G23⟩
       · omega
       · by_cases e:x=J
         · rw [e];exact Int.le_refl _
         · have:=hmax x x1 (by omega);omega
     · have r3:s.rk (l'.getD J 0)≤s.rk (l'.getD B 0):=by simpa using r3
       refine ⟨_,?_,B,J+1,rfl,wN (by omega) (by omega),tB,BN,by omega,by omega,rfl,fun x x1 x2=> ?_,G23⟩
       · omega
       · by_cases e:x=J
         · rw [e];exact r3
         · exact hmax x x1 (by omega)
   · have r2:J=N:=by rw [hln] at r2;simp at r2;omega
     subst r2
     have h15:=(h9.grow g15).drew
     refine h15.rIx (x:= .l i) rfl (by omega) rfl (by rw [set_eq];omega) fun a25 _ hc25=> ⟨_,hc25,h15.rIx (x:= .l i) rfl (by omega) rfl (by rw [set_eq];omega) fun a27 _ hc27=> ⟨_,hc27,?_⟩⟩
     rw [set_eq,Int.toNat_natCast,Int.toNat_natCast]
     refine h15.rSt (x:= .l i) rfl (by omega) rfl (by rw [set_eq];omega) (y:=l'.getD B 0) rfl rfl fun w30 h30 m30=>h30.rSt (x:= .l i) rfl (by omega) rfl (by simp [set_eq];omega) (y:=l'.getD t 0) rfl rfl fun w32 h32 m32=> ?_
     rw [set_eq,Int.toNat_natCast,Int.toNat_natCast,set_set,set_eq,set_set] at h32
     have esw:(l'.set t (l'.getD B 0)).set B (l'.getD t 0)=swp l' t B:=rfl
     rw [esw] at h32
     have P32:Pw w w32 b H H (s.set (.l i) (swp l' t B)):=(P9.grow g15.drew).trans ⟨h32,(m30.mono fun k _ e=> ⟨.l i,e⟩).trans (m32.mono fun k _ e=> ⟨.l i,e⟩),fun x _ hk=> .inl ⟨x,hk⟩⟩
     refine ⟨_,?_,t+1,_,wN (by omega) (by omega),by omega,by omega,rfl,(perm_swp (by omega) (by omega)).trans pm,?_,P32⟩
     · omega
     · intro y hy j hyj hj
       rw [swp_len] at hj
       rw [swp_get (by omega) (by omega),swp_get (by omega) (by omega)]
       by_cases e:y=t
       · subst e
         have hmt:s.rk (l'.getD y 0)≤s.rk (l'.getD B 0):=hmax y (Nat.le_refl _) (by omega)
         have e5:(if y=B then l'.getD y 0 else if y=y then l'.getD B 0 else l'.getD y 0)=l'.getD B 0:=by
          split
          · rename_i e;rw [← e]
          · rw [if_pos rfl]
         rw [e5]
         split
         · exact hmt
         · split
           · exact Int.le_refl _
           · exact hmax j hyj (by omega)
       · rw [if_neg (show y≠B by omega),if_neg e]
         have hy':y<t:=by omega
         split
         · exact hb y hy' t (by omega) (by omega)
         · split
           · exact hb y hy' B (by omega) (by omega)
           · exact hb y hy' j hyj (by omega)
 · have r:t=min 2 N:=by simp at r;omega
   have h9:=P9.pm
   have hb2:Best s.rk 2 l':=fun y hy j hyj hj=>hb y (by omega) j hyj hj
   have hcap:N≤(H (.l i)).c:=by
    rcases (h9.row (.l i) rfl).un with ⟨_,e1,e2⟩| ⟨_,_,_,_,e,_⟩
    · rw [set_eq] at e2;rw [e2] at hlen;simp at hlen;omega
    · rw [set_eq] at e;omega
   refine slK_i 0 (min 2 N) (H (.l i)).c rfl rfl rfl (Nat.le_refl _) (by omega) (Nat.zero_le _) ?_
   have ep:(if (H (.l i)).c=0 then (H (.l i)).p else (H (.l i)).p.map (·.add (0*1)))=(H (.l i)).p:=by rw [ep0];split<;>rfl
   rw [ep,Nat.sub_zero]
   refine ⟨fun V u m=> ∃ (v:Nat) (H':Pt→Sl),V=v∧v≤min 2 N∧m=min 2 N - v∧Pw w u b H H' (wF i (s.set (.l i) l') (l'.take v))∧KeepH H H'∧H' .lo=H .lo,
    ⟨_,0,H,rfl,Nat.zero_le _,rfl,P9,KeepH.refl,rfl⟩,?_⟩
   rintro V w38 m _ ⟨v,H',rfl,hv,rfl,P38,kh,hlo'⟩
   have h38:=P38.pm
   have eL:H' (.l i)=H (.l i):=kh _ (by simp) (by simp)
   have hvars:(wF i (s.set (.l i) l') (l'.take v)).vars=s.vars:=(wF_vars i _ _).1
   have hRl:(wF i (s.set (.l i) l') (l'.take v)).R (.l i)=l':=by rw [wF_R i (by simp),set_eq]
   refine cnd_i (fun r2=> ?_) (fun r2=> ?_)
   · have r2:v<min 2 N:=by simpa using r2
     rw [← eL]
     have hx:=hin _ (mem_getD (l:=l') (t:=v) (by omega))
     have hxb:=hx.bd k.vmax
     have hsd:=sideN_lt hx
     refine h38.rIx' (x:= .l i) rfl (n:=min 2 N) (by omega) (by rw [hRl];omega) (by omega) fun a39 _ hc39=> ⟨_,hc39,?_⟩
     rw [hRl,Int.toNat_natCast]
     have h0:=h38.drew
     generalize hT:wF i (s.set (.l i) l') (l'.take v)=T at*
     generalize hX:l'.getD v 0=X at*
     have hlen2:(T.R (.w (sideN X))).length≤4000000:=by
      have:=wF_len i (sideN X) (l'.take v) (s.set (.l i) l')
      rw [hT,set_ne (by simp)] at this
      have h2:=hw (sideN X)
      have h3:(l'.take v).length≤2:=by simp;omega
      omega
     have hsd':sideN X<2* (T.vars+1):=by rw [hvars];exact hsd
     have fin: ∀w3 q,Pw w38.drew w3 b H' (updF H' (.w (sideN X)) q) (T.set (.w (sideN X)) (T.R (.w (sideN X))++ [(i:Int)]))→
      ∃k36,k36<min 2 N - v∧∃ (v':Nat) (H2:Pt→Sl),i64.wrap ((v:Int)+1)=v'∧v'≤min 2 N∧k36=min 2 N - v'∧Pw w w3 b H H2 (wF i (s.set (.l i) l') (l'.take v'))∧KeepH H H2∧H2 .lo=H .lo:=by
      intro w3 q P
      refine ⟨_,?_,v+1,_,wN (by omega) (by omega),by omega,rfl,?_,kh.wt (q:=q) (j:=sideN X),by rw [updF_ne (by simp)];exact hlo'⟩
      · omega
      · have:l'.take (v+1)=l'.take v++ [X]:=by
         rw [List.take_add_one,← hX]
         simp [List.getD,show v<l'.length by omega]
        rw [this,wF_append,hT]
        exact P38.drew.trans P
     have aw: ∀ {a:Addr} {u:Value},w38.drew.cell? a=some u→a.block≠0∨True→¬blk (H' (.w (sideN X))).p=some a.block→AtW (Mod (fun k=>blk (H' (.w (sideN X))).p=some k) w38.drew) a u:=fun hc _ hne u' g=>cell_keep g hc hne
     have nst: ¬blk (H' (.w (sideN X))).p=some b:=h0.other (x:= .w (sideN X)) (by simp) (y:= .st) (by simp) rfl
     refine ⟨Mod (fun k=>blk (H' (.w (sideN X))).p=some k) w38.drew,Mod.refl _,_,rfl,_,_,_,aw (cell_add h0.st rfl) (.inr trivial) (by rw [add_block];exact nst),_,rfl,_,_,_,aw (cell_add h0.st rfl) (.inr trivial) (by rw [add_block];exact nst),?_⟩
     have rd: ∀ {n:Nat} {w1 w2:World},New (.cells #[.int .i64 (i:Int)] ty_int) w1 n w2→Grow w1 w2∧Has w2 n #[.int .i64 (i:Int)]:=fun h=> ⟨h.mod,h.has⟩
     have gm: ∀ {w1:World},Grow w38.drew w1→Mod (fun k=>blk (H' (.w (sideN X))).p=some k) w38.drew w1:=fun g=>g.mono fun _ _ e=>e.elim
     have look: ∀ {K:Addr→Prop},(∀a,AtW (Mod (fun k=>blk (H' (.w (sideN X))).p=some k) w38.drew) a (H' (.w (sideN X))).v→K a)→ixK (H' .wa).p (H' .wa).n (sideN X:Int) 1 K:=fun hk=>
      h0.wIx hsd' rfl rfl fun a hb hc=>hk a (aw hc (.inr trivial) fun e=>h0.other (x:= .w (sideN X)) (by simp) (y:= .wa) (by simp) hb e)
     refine ⟨(side_ok hxb _).mono ?_,?_⟩
     · rintro e w46 ⟨rfl,rfl⟩
       refine ⟨_,rfl,Mod.refl _,(side_ok hxb _).mono ?_,?_⟩
       · rintro e w48 ⟨rfl,rfl⟩
         exact ⟨_,rfl,Mod.refl _,look fun a50 ha=> ⟨_,_,_,ha,fun n52 w53 h53=> ⟨gm h53.mod,h0.appW hsd' h53.mod h53.has hlen2 fin rfl⟩⟩⟩
       · intro n58 w59 h59
         refine ⟨gm h59.mod,(side_ok hxb _).mono ?_⟩
         rintro e w60 ⟨rfl,rfl⟩
         exact ⟨_,rfl,gm h59.mod,look fun a62 ha=> ⟨_,_,_,ha,h0.appW hsd' h59.mod h59.has hlen2 fin rfl⟩⟩
     · intro n68 w69 h69
       refine ⟨gm h69.mod,(side_ok hxb _).mono ?_⟩
       rintro e w70 ⟨rfl,rfl⟩
       refine ⟨_,rfl,gm h69.mod,(side_ok hxb _).mono ?_⟩
       rintro e w72 ⟨rfl,rfl⟩
       exact ⟨_,rfl,gm h69.mod,look fun a74 ha=> ⟨_,_,_,ha,h0.appW hsd' h69.mod h69.has hlen2 fin rfl⟩⟩
   · have r2:v=min 2 N:=by simp at r2;omega
     subst r2
     have etk:l'.take (min 2 N)=l'.take 2:=by
      rw [← hlen]
      by_cases e:2≤l'.length
      · rw [Nat.min_eq_left e]
      · rw [Nat.min_eq_right (by omega),List.take_length,List.take_of_length_le (by omega)]
     rw [etk] at P38 h38 hvars hRl
     have kT:Wf (wF i (s.set (.l i) l') (l'.take 2)):=by
      have hR: ∀y,(∀j,y≠Pt.w j)→y≠ .l i→(wF i (s.set (.l i) l') (l'.take 2)).R y=s.R y:=fun y h1 h2=>by rw [wF_R i h1,set_ne h2]
      exact ⟨by rw [hvars];exact k.vmax,by rw [hR _ (by simp) (by simp),hvars];exact k.va,by rw [hR _ (by simp) (by simp)];exact k.vb,by rw [hR _ (by simp) (by simp),hvars];exact k.le,by rw [hR _ (by simp) (by simp),hvars];exact k.re,
       by rw [hR _ (by simp) (by simp)];exact k.be,by rw [hR _ (by simp) (by simp)];exact k.tr,by rw [(wF_vars i _ _).2.1];exact k.nc⟩
     have eva:(wF i (s.set (.l i) l') (l'.take 2)).R .va=s.R .va:=by rw [wF_R i (by simp),set_ne (by simp)]
     have elo:(wF i (s.set (.l i) l') (l'.take 2)).R .lo=s.R .lo:=by rw [wF_R i (by simp),set_ne (by simp)]
     have loose:(l'.length<2∨s.val (l'.getD 1 0)<0)→∀ {u:World},Grow w38 u→∀w3 q,PM w3 b (updF H' .lo q) ((wF i (s.set (.l i) l') (l'.take 2)).set .lo ((wF i (s.set (.l i) l') (l'.take 2)).R .lo++ [(i:Int)]))→
      Pw u w3 b H' (updF H' .lo q) ((wF i (s.set (.l i) l') (l'.take 2)).set .lo ((wF i (s.set (.l i) l') (l'.take 2)).R .lo++ [(i:Int)]))→
      Ending.returned (.tuple #[])= .returned (.tuple #[])∧∃l' H',Best s.rk 2 l'∧l'.Perm (s.R (.l i))∧Pw w w3 b H H' (settleS s i l')∧KeepH H H'∧(2≤l'.length→0≤s.val (l'.getD 1 0)→H' .lo=H .lo):=by
      intro hc u gu w3 q _ P
      refine ⟨rfl,l',updF H' .lo q,hb2,pm,?_,fun x h1 h2=>by rw [updF_ne h2];exact kh x h1 h2,fun h1 h2=>by omega⟩
      unfold settleS
      simp only [if_pos hc]
      rw [elo] at P
      exact (P38.grow gu).trans P
     rw [hln]
     refine cnd_i (fun r3=> ?_) (fun r3=> ?_)
     · have r3':(N:Int)<2:=by simpa using r3
       have r3:l'.length<2:=by rw [hlen];omega
       refine ⟨_,rfl,_,_,_,cell_add h38.st rfl,?_⟩
       exact h38.app1 (x:= .lo) rfl (i:Int) (by rw [elo];omega) rfl fun w3 q p P=>loose (.inl r3) (Mod.refl _) w3 q p P
     · have r3:2≤l'.length:=by rw [hlen];simp at r3;omega
       rw [← eL]
       refine h38.rIx' (x:= .l i) rfl (by omega) (by rw [hRl];omega) (by omega) fun a88 _ hc88=> ⟨_,hc88,?_⟩
       rw [hRl]
       have hx:=hin _ (mem_getD (l:=l') (t:=1) (by omega))
       refine (val_ok h38 kT (by rw [hvars];exact hx)).mono ?_
       rintro e w90 ⟨rfl,rfl⟩
       rw [val_eq eva]
       refine ⟨_,rfl,cnd_i (fun r4=> ?_) (fun r4=> ?_)⟩
       · have r4:s.val (l'.getD 1 0)<0:=by simpa using r4
         refine ⟨_,rfl,_,_,_,cell_add h38.st rfl,?_⟩
         exact h38.app1 (x:= .lo) rfl (i:Int) (by rw [elo];omega) rfl fun w3 q p P=>loose (.inr r4) (Mod.refl _) w3 q p P
       · have r4: ¬s.val (l'.getD 1 0)<0:=by simpa using r4
         refine ⟨rfl,l',H',hb2,pm,?_,kh,fun _ _=>hlo'⟩
         unfold settleS
         simp only [if_neg (show ¬(l'.length<2∨s.val (l'.getD 1 0)<0) by omega)]
         exact P38
end
section
variable {w w' w0 w2 w3 wA:World} {b:Nat} {H H' H2:Pt→Sl} {s t u:PSt} {l:Int}
def unF (i:Int) (t:PSt) (xs:List Int):PSt:=xs.foldl (fun t x=>t.set (.w (sideN x)) ((t.R (.w (sideN x))).filter fun k=> !(k==i))) t
theorem unF_append (i:Int) (t:PSt) (xs:List Int) (x:Int):unF i t (xs++ [x])=(unF i t xs).set (.w (sideN x)) (((unF i t xs).R (.w (sideN x))).filter fun k=> !(k==i)):=by simp [unF]
theorem unF_R (i:Int) {y:Pt} (hy: ∀j,y≠ .w j): ∀ (xs:List Int) (t:PSt),(unF i t xs).R y=t.R y
 | [],_=>rfl
 |_::xs,_=> (unF_R i hy xs _).trans (set_ne (hy _))
theorem unF_vars (i:Int): ∀ (xs:List Int) (t:PSt),(unF i t xs).vars=t.vars∧(unF i t xs).nc=t.nc∧(unF i t xs).gone=t.gone∧(unF i t xs).done=t.done
 | [],_=> ⟨rfl,rfl,rfl,rfl⟩
 |x::xs,t=>unF_vars i xs (t.set (.w (sideN x)) ((t.R (.w (sideN x))).filter fun k=> !(k==i)))
theorem unF_len (i:Int) (j:Nat): ∀ (xs:List Int) (t:PSt),((unF i t xs).R (.w j)).length≤(t.R (.w j)).length
 | [],_=>Nat.le_refl _
 |x::xs,t=>by
  have:=unF_len i j xs (t.set (.w (sideN x)) ((t.R (.w (sideN x))).filter fun k=> !(k==i)))
  refine Nat.le_trans this ?_
  by_cases e:sideN x=j
  · subst e;rw [set_eq];exact List.length_filter_le _ _
  · rw [set_ne (fun h=>e (by injection h with h;exact h.symm))];exact Nat.le_refl _
def KeepW (H H':Pt→Sl):Prop:= ∀x,(∀j,x≠ .w j)→H' x=H x
theorem KeepW.refl:KeepW H H:=fun _ _=>rfl
theorem KeepW.wt (h:KeepW H H') {j:Nat} {q:Sl}:KeepW H (updF H' (.w j) q):=fun x h1=>by rw [updF_ne (h1 j)];exact h x h1
theorem KeepW.trans (h:KeepW H H2) (k:KeepW H2 H'):KeepW H H':=fun x hx=> (k x hx).trans (h x hx)
theorem clauseRow (h:PM w b H s) {i:Nat} (hn:(s.R (.l i)).length≤100000):(s.R (.l i)).length≤(H (.l i)).c∧imin 2 ((H (.l i)).n:Int)=((min 2 (s.R (.l i)).length:Nat):Int):=by
 have hln:=h.len (.l i) rfl
 refine ⟨?_,by rw [hln];unfold imin;split<;>omega⟩
 rcases (h.row (.l i) rfl).un with ⟨_,_,e2⟩| ⟨_,_,_,_,e,_⟩
 · rw [e2];exact Nat.zero_le _
 · exact e
theorem unwatch_ok (h:PM w b H s) (hv:s.vars≤1048576) {i:Nat} (hi:i<s.nc) (hl: ∀x∈s.R (.l i),InV s.vars x) (hn:(s.R (.l i)).length≤100000) (hw: ∀j,(s.R (.w j)).length≤1000000):
 Calls prog prop_Prop_unwatch.id #[ptrV b,.int .i64 i] w fun e w'=>e= .returned (.tuple #[])∧∃H',Pw w w' b H H' (unF i s ((s.R (.l i)).take 2))∧KeepW H H':=by
 refine prop_Prop_unwatch.calls ?_
 intro n1 w1 h1
 have hA:=(h.grow h1.mod)
 obtain ⟨hcap,him⟩:=clauseRow h hn
 refine ⟨_,rfl,_,_,_,cell_add hA.drew.st rfl,_,cell_of h1.has.drew rfl,hA.drew.cIx hi rfl rfl fun a6 hc6=> ⟨_,_,_,hc6.get 1 _ rfl,?_⟩⟩
 try dsimp only
 rw [him]
 generalize hN:(s.R (.l i)).length=N at*
 refine slK_i 0 (min 2 N) (H (.l i)).c rfl rfl rfl (Nat.le_refl _) (by omega) (Nat.zero_le _) ?_
 have ep:(if (H (.l i)).c=0 then (H (.l i)).p else (H (.l i)).p.map (·.add (0*1)))=(H (.l i)).p:=by rw [ep0];split<;>rfl
 rw [ep,Nat.sub_zero]
 have hnot: ∀x,¬own b H x=some n1:=fun x e=>by have:=h.lt x n1 e;have:=h1.num;omega
 refine ⟨fun V u m=> ∃ (v:Nat) (H':Pt→Sl),V=v∧v≤min 2 N∧m=min 2 N - v∧Pw w1 u b H H' (unF i s ((s.R (.l i)).take v))∧KeepW H H',
  ⟨_,0,H,rfl,Nat.zero_le _,rfl,Pw.refl hA.drew (Mod.refl w1).drew,KeepW.refl⟩,?_⟩
 rintro V w13 m _ ⟨v,H',rfl,hv2,rfl,P13,kh⟩
 have h13:=P13.pm
 have eL:H' (.l i)=H (.l i):=kh _ (by simp)
 have hvars:(unF i s ((s.R (.l i)).take v)).vars=s.vars:=(unF_vars i _ _).1
 have hRl:(unF i s ((s.R (.l i)).take v)).R (.l i)=s.R (.l i):=unF_R i (by simp) _ _
 refine cnd_i (fun r2=> ?_) (fun r2=> ?_)
 · have r2:v<min 2 N:=by simpa using r2
   rw [← eL]
   have hx:=hl _ (mem_getD (l:=s.R (.l i)) (t:=v) (by omega))
   have hxb:=hx.bd hv
   have hsd:=sideN_lt hx
   refine h13.rIx' (x:= .l i) rfl (n:=min 2 N) (by omega) (by rw [hRl];omega) (by omega) fun a14 _ hc14=> ⟨_,hc14,?_⟩
   rw [hRl,Int.toNat_natCast]
   have hn13:Has w13 n1 #[.int .i64 (i:Int)]:=h1.has.keep P13.mod fun ⟨x,e⟩=>hnot x e
   generalize hT:unF i s ((s.R (.l i)).take v)=T at*
   generalize hX:(s.R (.l i)).getD v 0=X at*
   have hlenT:(T.R (.w (sideN X))).length≤1000000:=by
    have:=unF_len i (sideN X) ((s.R (.l i)).take v) s
    rw [hT] at this
    exact Nat.le_trans this (hw _)
   have hsd':sideN X<2* (T.vars+1):=by rw [hvars];exact hsd
   refine ⟨(·=w13.drew),rfl,_,rfl,_,_,_,atW_eq (cell_add h13.drew.st rfl),(side_ok hxb _).mono ?_⟩
   rintro e w19 ⟨rfl,rfl⟩
   refine ⟨_,rfl,rfl,h13.drew.wIx hsd' rfl rfl fun a21 _ hc21=> ⟨_,_,_,atW_eq hc21,?_⟩⟩
   have h0:=h13.drew.drew
   have aw: ∀ {a:Addr} {u:Value},w13.drew.drew.cell? a=some u→¬blk (H' (.w (sideN X))).p=some a.block→AtW (Mod (fun k=>blk (H' (.w (sideN X))).p=some k) w13.drew.drew) a u:=fun hc hne u' g=>cell_keep g hc hne
   have nst: ¬blk (H' (.w (sideN X))).p=some b:=h0.other (x:= .w (sideN X)) (by simp) (y:= .st) (by simp) rfl
   have nn1: ¬blk (H' (.w (sideN X))).p=some n1:=fun e=>by
    rcases P13.ft (.w (sideN X)) n1 e with ⟨y,e2⟩|e2
    · exact hnot y e2
    · have:=h1.has.lt;omega
   refine ⟨Mod (fun k=>blk (H' (.w (sideN X))).p=some k) w13.drew.drew,Mod.refl _,_,rfl,_,_,_,aw (cell_add h0.st rfl) (by rw [add_block];exact nst),(side_ok hxb _).mono ?_⟩
   rintro e w26 ⟨rfl,rfl⟩
   have o:OwI ty_int w13.drew.drew (H' (.w (sideN X))).p (H' (.w (sideN X))).c (T.R (.w (sideN X))):=h0.row (.w (sideN X)) rfl
   refine ⟨_,rfl,Mod.refl _,(delete_ok o (h0.len (.w (sideN X)) rfl) (by rw [h0.len (.w (sideN X)) rfl];exact hlenT) same1_ent (fun x=>x==(i:Int)) fun x _ w' g=> ?_).mono ?_⟩
   · rw [args2w]
     exact same1 (hn13.drew.drew.keep g nn1) x
   rintro e w28 ⟨rfl,o28,m28⟩
   refine ⟨_,_,_,rfl,m28,?_⟩
   refine h0.headW hsd' o28 (h0.but rfl m28) (fun k hk=> .inl hk) rfl h0.wn rfl fun w31 h31 m31=> ?_
   refine ⟨_,?_,v+1,updF H' (.w (sideN X)) ⟨(H' (.w (sideN X))).p,((T.R (.w (sideN X))).filter fun x=> !(x==(i:Int))).length,(H' (.w (sideN X))).c⟩,wN (by omega) (by omega),by omega,rfl,?_,kh.wt⟩
   · omega
   · have:(s.R (.l i)).take (v+1)=(s.R (.l i)).take v++ [X]:=by
      rw [List.take_add_one,← hX]
      simp [List.getD,show v< (s.R (.l i)).length by omega]
     rw [this,unF_append,hT]
     exact P13.drew.drew.trans (Pw.head (z:= .wa) (by simp) h31 m28 m31 fun k hk=> .inl hk)
 · have r2:v=min 2 N:=by simp at r2;omega
   subst r2
   refine ⟨rfl,H',?_,kh⟩
   have etk:(s.R (.l i)).take (min 2 N)=(s.R (.l i)).take 2:=by
    rw [← hN]
    by_cases e:2≤(s.R (.l i)).length
    · rw [Nat.min_eq_left e]
    · rw [Nat.min_eq_right (by omega),List.take_length,List.take_of_length_le (by omega)]
   rw [etk] at P13
   exact P13.pre h1.mod
theorem Best.two {l':List Int} (hb:Best s.rk 2 l') (hlev: ∀x∈l',s.val x<0→s.lev x<1048577) {m:List Int} (pm:l'.Perm m) (h2:2≤(m.filter fun x=> !decide (s.val x<0)).length):
 2≤l'.length∧0≤s.val (l'.getD 1 0)∧0≤s.val (l'.getD 0 0):=by
 have hf:(l'.filter fun x=> !decide (s.val x<0)).length=(m.filter fun x=> !decide (s.val x<0)).length:=(pm.filter _).length_eq
 have hle:2≤l'.length:=by have:=List.length_filter_le (fun x=> !decide (s.val x<0)) l';omega
 match l',hle with
 |x::y::r,_=>
  have key:0≤s.val y:=by
   rcases Int.lt_or_le (s.val y) 0 with hy|hy
   · exfalso
     have hyl:s.rk y<1048577:=by unfold PSt.rk;rw [if_neg (by omega)];exact hlev y (by simp) hy
     have: ∀z∈y::r,s.val z<0:=by
      intro z hz
      obtain ⟨j,hj,e⟩:=List.mem_iff_getElem.1 hz
      have:=hb 1 (by omega) (j+1) (by omega) (by simpa using hj)
      have e1:(x::y::r).getD (j+1) 0=z:=by
       show (y::r).getD j 0=z
       rw [← e,List.getD_eq_getElem?_getD,List.getElem?_eq_getElem hj];rfl
      rw [e1] at this
      have e2:(x::y::r).getD 1 0=y:=rfl
      rw [e2] at this
      rcases Int.lt_or_le (s.val z) 0 with h|h
      · exact h
      · unfold PSt.rk at this hyl
        rw [if_pos (show s.val z≥0 from h)] at this
        omega
     have e0:((y::r).filter fun x=> !decide (s.val x<0))= []:=by
      rw [List.filter_eq_nil_iff]
      intro z hz
      simp [this z hz]
     rw [List.filter_cons,e0] at hf
     split at hf<;>simp at hf<;>omega
   · exact hy
  refine ⟨by simp,key,?_⟩
  have:=hb 0 (by omega) 1 (by omega) (by simp)
  have e2:(x::y::r).getD 1 0=y:=rfl
  have e3:(x::y::r).getD 0 0=x:=rfl
  rw [e2,e3] at this
  rw [e3]
  rcases Int.lt_or_le (s.val x) 0 with h|h
  · unfold PSt.rk at this
    rw [if_pos (show s.val y≥0 from key),if_neg (show ¬s.val x≥0 by omega)] at this
    have:=hlev x (by simp) h
    omega
  · exact h
theorem settleS_lo {i:Nat} {l':List Int} (h1:2≤l'.length) (h2:0≤s.val (l'.getD 1 0)):settleS s i l'=wF i (s.set (.l i) l') (l'.take 2):=by
 unfold settleS
 simp only [if_neg (show ¬(l'.length<2∨s.val (l'.getD 1 0)<0) by omega)]
theorem again_ok (h:PM w b H s) (k:Wf s) {i:Nat} (hi:i<s.nc) (hl: ∀x∈s.R (.l i),InV s.vars x) (hn:(s.R (.l i)).length≤100000) (hw: ∀j,(s.R (.w j)).length+2≤4000000) (hlo:(s.R .lo).length≤4000000)
 (hlev: ∀x∈s.R (.l i),s.val x<0→s.lev x<1048577) (h2:2≤((s.R (.l i)).filter fun x=> !decide (s.val x<0)).length):
 Calls prog prop_Prop_again.id #[ptrV b,.int .i64 i] w fun e w'=>e= .returned (.tuple #[])∧∃l' H',Best s.rk 2 l'∧l'.Perm (s.R (.l i))∧2≤l'.length∧0≤s.val (l'.getD 1 0)∧0≤s.val (l'.getD 0 0)∧Pw w w' b H H' (wF i (s.set (.l i) l') (l'.take 2))∧KeepW H H':=by
 refine prop_Prop_again.calls ?_
 refine ⟨_,rfl,_,_,_,cell_add h.st rfl,(settle_ok h k hi hl hn hw hlo).mono ?_⟩
 rintro e w3 ⟨rfl,l',H',hb,pm,P3,kh,hlo'⟩
 obtain ⟨b1,b2,b3⟩:=hb.two (fun x hx=>hlev x (pm.mem_iff.1 hx)) pm h2
 rw [settleS_lo b1 b2] at P3
 have e1:=hlo' b1 b2
 have h3:=P3.pm
 refine ⟨rfl,_,rfl,?_⟩
 have o:=h3.row .lo rfl
 rw [e1] at o
 have:=h3.head (x:= .lo) rfl o ⟨h3.st,h3.c,h3.wa,fun y hy _=>h3.row y hy⟩ (fun k hk=> .inl (by rw [e1];exact hk)) (n':=(H .lo).n) (by rw [← e1];exact h3.len .lo rfl) (K:=fun w'=>Ending.returned (.tuple #[])= .returned (.tuple #[])∧∃l' H',Best s.rk 2 l'∧l'.Perm (s.R (.l i))∧2≤l'.length∧0≤s.val (l'.getD 1 0)∧0≤s.val (l'.getD 0 0)∧Pw w w' b H H' (wF i (s.set (.l i) l') (l'.take 2))∧KeepW H H') ?_
 · exact this
 · intro w5 h5 m5
   have eH:updF H' .lo ⟨(H .lo).p,(H .lo).n,(H .lo).c⟩=H':=by
    funext y
    simp only [updF]
    split
    · rename_i e;rw [e,e1]
    · rfl
   rw [eH,set_self'] at h5
   refine ⟨rfl,l',H',hb,pm,b1,b2,b3,P3.trans ⟨h5,m5.mono fun k _ e=> ⟨.st,by rw [e];rfl⟩,fun x k hk=> .inl ⟨x,hk⟩⟩,fun x hx=> ?_⟩
   by_cases e:x= .lo
   · rw [e,e1]
   · exact kh x hx e
end
section
variable {w w' w0 w2 w3 wA:World} {b:Nat} {H H' H2:Pt→Sl} {s t u:PSt} {l:Int}
def front (l:List Int) (f:Int):List Int:=if l.getD 0 0=f∧1<l.length then swp l 0 1 else l
theorem front_len (l:List Int) (f:Int):(front l f).length=l.length:=by unfold front;split<;>simp [swp_len]
theorem front_perm (l:List Int) (f:Int):(front l f).Perm l:=by
 unfold front
 split
 · rename_i h;exact perm_swp (by omega) h.2
 · exact List.Perm.refl _
inductive Vis (s:PSt) (i:Nat) (m:List Int):PSt→Bool→Bool→Prop
 |sat:0<s.val (m.getD 0 0)→Vis s i m (s.set (.l i) m) true false
 |moved (k:Nat): ¬0<s.val (m.getD 0 0)→2≤k→k<m.length→0≤s.val (m.getD k 0)→
   Vis s i m ((s.set (.l i) (swp m 1 k)).set (.w (sideN (m.getD k 0))) (s.R (.w (sideN (m.getD k 0)))++ [(i:Int)])) false false
 |broken:s.val (m.getD 0 0)<0→(∀k,2≤k→k<m.length→s.val (m.getD k 0)<0)→Vis s i m (s.set (.l i) m) true true
 |unit:s.val (m.getD 0 0)=0→(∀k,2≤k→k<m.length→s.val (m.getD k 0)<0)→Vis s i m ((s.set (.l i) m).put (m.getD 0 0) i) true false
def KeepV (s:PSt) (H H':Pt→Sl):Prop:= ∀x,x≠ .tr→(∀z,InV s.vars z→0≤s.val z→x≠ .w (sideN z))→H' x=H x
theorem visit_ok (h:PM w b H s) (k:Wf s) {i:Nat} (hi:i<s.nc) (hl: ∀x∈s.R (.l i),InV s.vars x) (hn:(s.R (.l i)).length≤100000) (hw: ∀j,(s.R (.w j)).length≤1000000) (h2:2≤(s.R (.l i)).length) (f:Int):
 Calls prog prop_Prop_visit.id #[ptrV b,.int .i64 i,.int .i64 f] w fun e w'=> ∃st br,e= .returned (.tuple #[.bool st,.bool br])∧∃s' H',Vis s i (front (s.R (.l i)) f) s' st br∧Pw w w' b H H' s'∧KeepV s H H':=by
 have hln:=h.len (.l i) rfl
 refine prop_Prop_visit.calls ?_
 refine ⟨_,rfl,_,_,_,cell_add h.st rfl,h.cIx hi rfl rfl fun a3 hc3=> ⟨_,_,_,hc3.get 1 _ rfl,?_⟩⟩
 generalize hm:front (s.R (.l i)) f=m at*
 have hml:m.length=(s.R (.l i)).length:=by rw [← hm,front_len]
 have hmp:m.Perm (s.R (.l i)):=by rw [← hm];exact front_perm _ _
 have hin: ∀x∈m,InV s.vars x:=fun x hx=>hl x (hmp.mem_iff.1 hx)
 generalize hN:(s.R (.l i)).length=N at*
 have P0:=Pw.refl h (Mod.refl w)
 refine ⟨fun u=>Pw w u b H H (s.set (.l i) m),?_,?_⟩
 · refine h.rIx (x:= .l i) rfl (by omega) rfl (by omega) fun a6 _ hc6=> ⟨_,hc6,cnd_i (fun r=>cnd_i (fun r2=> ?_) fun r2=> ?_) fun r=> ?_⟩
   · have r:(s.R (.l i)).getD 0 0=f:=by simpa using r
     have em:m=swp (s.R (.l i)) 0 1:=by rw [← hm];unfold front;rw [if_pos ⟨r,by omega⟩]
     have h0:=h.drew
     refine h0.rIx (x:= .l i) rfl (by omega) rfl (by omega) fun a8 _ hc8=> ⟨_,hc8,h0.rIx (x:= .l i) rfl (by omega) rfl (by omega) fun a10 _ hc10=> ⟨_,hc10,?_⟩⟩
     refine h0.rSt (x:= .l i) rfl (by omega) rfl (by omega) (y:=(s.R (.l i)).getD 1 0) rfl rfl fun w13 h13 m13=>h13.rSt (x:= .l i) rfl (by omega) rfl (by simp [set_eq];omega) (y:=(s.R (.l i)).getD 0 0) rfl rfl fun w15 h15 m15=> ?_
     rw [set_eq,set_set] at h15
     rw [em]
     exact P0.drew.trans ⟨h15,(m13.mono fun k _ e=> ⟨.l i,e⟩).trans (m15.mono fun k _ e=> ⟨.l i,e⟩),fun x _ hk=> .inl ⟨x,hk⟩⟩
   · simp at r2;omega
   · have r: ¬(s.R (.l i)).getD 0 0=f:=by simpa using r
     have em:m=s.R (.l i):=by rw [← hm];unfold front;rw [if_neg (fun e=>r e.1)]
     rw [em,set_self']
     exact P0
 intro w16 _ P16
 have h16:=P16.pm
 have k16:Wf (s.set (.l i) m):=k.set (by simp) (by simp) (by simp) (by simp) (by simp) m
 have ev: ∀x,(s.set (.l i) m).val x=s.val x:=fun x=>val_eq (set_ne (by simp)) x
 have kv:KeepV s H H:=fun _ _ _=>rfl
 have look: ∀ {I:Int} (j:Nat),I=j→j<N→∀ {K:Addr→Prop},(∀a,w16.cell? a=some (.int .i64 (m.getD j 0))→K a)→ixK (H (.l i)).p (H (.l i)).n I 1 K:=fun {I} j hI hj {K} hk=>by
  subst hI
  refine h16.rIx (x:= .l i) rfl (by omega) rfl (by rw [set_eq];omega) fun a _ hc=>hk a ?_
  rw [set_eq,Int.toNat_natCast] at hc
  exact hc
 have vok: ∀j,j<N→Calls prog prop_Prop_val.id #[ptrV b,.int .i64 (m.getD j 0)] w16 fun e w'=>e= .returned (.int .i8 (s.val (m.getD j 0)))∧w'=w16:=fun j hj=>by
  have:=val_ok h16 k16 (l:=m.getD j 0) (hin _ (mem_getD (by omega)))
  rw [ev] at this
  exact this
 refine look 0 rfl (by omega) fun a17 hc17=> ⟨_,hc17,(vok 0 (by omega)).mono ?_⟩
 rintro e w19 ⟨rfl,rfl⟩
 refine ⟨_,rfl,cnd_i (fun r=> ⟨true,false,rfl,_,H,.sat (by simpa using r),P16,kv⟩) fun r=> ?_⟩
 have r: ¬0<s.val (m.getD 0 0):=by simpa using r
 refine ⟨fun K u z=> ∃j:Nat,K=j∧2≤j∧j≤N∧z=N - j∧u=w19∧∀y,2≤y→y<j→s.val (m.getD y 0)<0,⟨_,2,rfl,Nat.le_refl _,h2,rfl,rfl,fun y y1 y2=>by omega⟩,?_⟩
 rintro K u z _ ⟨j,rfl,j2,jN,rfl,rfl,hall⟩
 refine cnd_i (fun r2=> ?_) (fun r2=> ?_)
 · have r2:j<N:=by rw [hln] at r2;simpa using r2
   refine look j rfl r2 fun a26 hc26=> ⟨_,hc26,(vok j r2).mono ?_⟩
   rintro e w28 ⟨rfl,rfl⟩
   refine ⟨_,rfl,cnd_i (fun r3=> ?_) (fun r3=> ?_)⟩
   · have r3:0≤s.val (m.getD j 0):=by simpa using r3
     have h0:=h16.drew
     refine h0.rIx (x:= .l i) rfl (by omega) rfl (by rw [set_eq];omega) fun a30 _ hc30=> ⟨_,hc30,h0.rIx (x:= .l i) rfl (by omega) rfl (by rw [set_eq];omega) fun a32 _ hc32=> ⟨_,hc32,?_⟩⟩
     rw [set_eq,Int.toNat_natCast]
     refine h0.rSt (x:= .l i) rfl (by omega) rfl (by rw [set_eq];omega) (y:=m.getD j 0) rfl rfl fun w35 h35 m35=>h35.rSt (x:= .l i) rfl (by omega) rfl (by simp [set_eq];omega) (y:=m.getD 1 0) rfl rfl fun w37 h37 m37=> ?_
     rw [set_eq,set_set,set_eq,Int.toNat_natCast,set_set] at h37
     have esw:(m.set (Int.toNat 1) (m.getD j 0)).set j (m.getD 1 0)=swp m 1 j:=rfl
     rw [esw] at h37
     have P37:Pw w w37 b H H (s.set (.l i) (swp m 1 j)):=P16.drew.trans ⟨h37,(m35.mono fun k _ e=> ⟨.l i,e⟩).trans (m37.mono fun k _ e=> ⟨.l i,e⟩),fun x _ hk=> .inl ⟨x,hk⟩⟩
     generalize hX:m.getD j 0=X at*
     have hx:InV s.vars X:=by rw [← hX];exact hin _ (mem_getD (by omega))
     have hxb:=hx.bd k.vmax
     have hsd:=sideN_lt hx
     have h0:=h37.drew
     have e1:(swp m 1 j).getD 1 0=X:=by
      rw [swp_get (by omega) (by omega)]
      by_cases e:1=j
      · omega
      · rw [if_neg e,if_pos rfl,hX]
     have hlen2:((s.set (.l i) (swp m 1 j)).R (.w (sideN X))).length≤4000000:=by rw [set_ne (by simp)];have:=hw (sideN X);omega
     have hsd':sideN X<2* ((s.set (.l i) (swp m 1 j)).vars+1):=hsd
     have fin: ∀w3 q,Pw w37.drew w3 b H (updF H (.w (sideN X)) q) ((s.set (.l i) (swp m 1 j)).set (.w (sideN X)) ((s.set (.l i) (swp m 1 j)).R (.w (sideN X))++ [(i:Int)]))→
      ∃st br,Ending.returned (.tuple #[.bool false,.bool false])= .returned (.tuple #[.bool st,.bool br])∧∃s' H',Vis s i m s' st br∧Pw w w3 b H H' s'∧KeepV s H H':=by
      intro w3 q P
      have V:=Vis.moved (s:=s) (i:=i) (m:=m) j r j2 (by omega) (by rw [hX];exact r3)
      rw [hX] at V
      rw [set_ne (by simp)] at P
      refine ⟨_,_,rfl,_,_,V,P37.drew.trans P,fun x hx1 hx2=> ?_⟩
      exact updF_ne (hx2 X hx r3)
     have aw: ∀ {a:Addr} {u:Value},w37.drew.cell? a=some u→¬blk (H (.w (sideN X))).p=some a.block→AtW (Mod (fun k=>blk (H (.w (sideN X))).p=some k) w37.drew) a u:=fun hc hne u' g=>cell_keep g hc hne
     have nst: ¬blk (H (.w (sideN X))).p=some b:=h0.other (x:= .w (sideN X)) (by simp) (y:= .st) (by simp) rfl
     have gm: ∀ {w1:World},Grow w37.drew w1→Mod (fun k=>blk (H (.w (sideN X))).p=some k) w37.drew w1:=fun g=>g.mono fun _ _ e=>e.elim
     have lookw: ∀ {K:Addr→Prop},(∀a,AtW (Mod (fun k=>blk (H (.w (sideN X))).p=some k) w37.drew) a (H (.w (sideN X))).v→K a)→ixK (H .wa).p (H .wa).n (sideN X:Int) 1 K:=fun hk=>
      h0.wIx hsd' rfl rfl fun a hb hc=>hk a (aw hc fun e=>h0.other (x:= .w (sideN X)) (by simp) (y:= .wa) (by simp) hb e)
     have look1: ∀ {K:Addr→Prop},(∀a,AtW (Mod (fun k=>blk (H (.w (sideN X))).p=some k) w37.drew) a (.int .i64 X)→K a)→ixK (H (.l i)).p (H (.l i)).n 1 1 K:=fun hk=>by
      refine h0.rIx (x:= .l i) rfl (by omega) rfl (by rw [set_eq,swp_len];omega) fun a hb hc=>hk a ?_
      rw [set_eq] at hc
      have e2:(swp m 1 j).getD (Int.toNat 1) 0=X:=e1
      rw [e2] at hc
      exact aw hc fun e=>h0.other (x:= .w (sideN X)) (by simp) (y:= .l i) (by simp) hb e
     refine ⟨Mod (fun k=>blk (H (.w (sideN X))).p=some k) w37.drew,Mod.refl _,_,rfl,_,_,_,aw (cell_add h0.st rfl) (by rw [add_block];exact nst),look1 fun a41 ha41=> ⟨_,ha41,_,rfl,_,_,_,aw (cell_add h0.st rfl) (by rw [add_block];exact nst),look1 fun a45 ha45=> ⟨_,ha45,?_⟩⟩⟩
     refine ⟨(side_ok hxb _).mono ?_,?_⟩
     · rintro e w46 ⟨rfl,rfl⟩
       refine ⟨_,rfl,Mod.refl _,(side_ok hxb _).mono ?_,?_⟩
       · rintro e w48 ⟨rfl,rfl⟩
         exact ⟨_,rfl,Mod.refl _,lookw fun a50 ha=> ⟨_,_,_,ha,fun n52 w53 h53=> ⟨gm h53.mod,h0.appW hsd' h53.mod h53.has hlen2 fin rfl⟩⟩⟩
       · intro n58 w59 h59
         refine ⟨gm h59.mod,(side_ok hxb _).mono ?_⟩
         rintro e w60 ⟨rfl,rfl⟩
         exact ⟨_,rfl,gm h59.mod,lookw fun a62 ha=> ⟨_,_,_,ha,h0.appW hsd' h59.mod h59.has hlen2 fin rfl⟩⟩
     · intro n68 w69 h69
       refine ⟨gm h69.mod,(side_ok hxb _).mono ?_⟩
       rintro e w70 ⟨rfl,rfl⟩
       refine ⟨_,rfl,gm h69.mod,(side_ok hxb _).mono ?_⟩
       rintro e w72 ⟨rfl,rfl⟩
       exact ⟨_,rfl,gm h69.mod,lookw fun a74 ha=> ⟨_,_,_,ha,h0.appW hsd' h69.mod h69.has hlen2 fin rfl⟩⟩
   · have r3:s.val (m.getD j 0)<0:=by simpa using r3
     refine ⟨_,?_,j+1,wN (by omega) (by omega),by omega,r2,rfl,rfl,fun y y1 y2=> ?_⟩
     · omega
     · by_cases e:y=j
       · rw [e];exact r3
       · exact hall y y1 (by omega)
 · have r2:j=N:=by rw [hln] at r2;simp at r2;omega
   subst r2
   refine look 0 rfl (by omega) fun a81 hc81=> ⟨_,hc81,(vok 0 (by omega)).mono ?_⟩
   rintro e w83 ⟨rfl,rfl⟩
   refine ⟨_,rfl,cnd_i (fun r3=> ⟨true,true,rfl,_,H,.broken (by simpa using r3) (fun y y1 y2=>hall y y1 (by omega)),P16,kv⟩) fun r3=> ?_⟩
   have r3:0≤s.val (m.getD 0 0):=by simpa using r3
   refine look 0 rfl (by omega) fun a85 hc85=> ⟨_,hc85,(put_ok h16 k16 (l:=m.getD 0 0) (hin _ (mem_getD (by omega))) i).mono ?_⟩
   rintro e w87 ⟨rfl,q,P87⟩
   exact ⟨rfl,true,false,rfl,_,_,.unit (by omega) (fun y y1 y2=>hall y y1 (by omega)),P16.trans P87,fun x hx _=>updF_ne hx⟩
end
section
variable {s t u:PSt} {l x y:Int}
def PSt.There (s:PSt) (i:Nat):Prop:=i<s.nc∧s.gone i=false
def W1 (s:PSt) (i D:Nat) (t:List Int):Prop:= ∀x∈(s.R (.l i)).take 2,∀y∈(s.R (.l i)).take 2,x≠y→ -x∈(s.R .tr).take D→y∈t
structure Good (s:PSt):Prop where
 vmax:s.vars≤1048576
 ncm:s.nc≤262144
 va:(s.R .va).length=s.vars+1
 vb: ∀i,(s.R .va).getD i 0=0∨(s.R .va).getD i 0=1∨(s.R .va).getD i 0= -1
 le:(s.R .le).length=s.vars+1
 rl:(s.R .re).length=s.vars+1
 tv: ∀x∈s.R .tr,InV s.vars x
 nd:((s.R .tr).map amt).Nodup
 v1: ∀x,InV s.vars x→(s.val x=1↔x∈s.R .tr)
 bl: ∀j,j< (s.R .be).length→0≤(s.R .be).getD j 0∧(s.R .be).getD j 0< (s.R .tr).length
 bs: ∀i j,i<j→j< (s.R .be).length→(s.R .be).getD i 0< (s.R .be).getD j 0
 dl:(s.R .ds).length=(s.R .be).length
 db: ∀j,j< (s.R .be).length→0≤(s.R .ds).getD j 0∧(s.R .ds).getD j 0≤(s.R .be).getD j 0
 lv: ∀p,p< (s.R .tr).length→s.lev ((s.R .tr).getD p 0)=((s.R .be).countP fun e=>decide (e≤(p:Int)):Nat)
 re1: ∀p,p< (s.R .tr).length→(p:Int)∈s.R .be→s.rea ((s.R .tr).getD p 0)= -1
 re2: ∀p,p< (s.R .tr).length→(p:Int) ∉ s.R .be→∃i:Nat,s.rea ((s.R .tr).getD p 0)=i∧s.There i∧(s.R .tr).getD p 0∈s.R (.l i)∧∀x∈s.R (.l i),x≠(s.R .tr).getD p 0→ -x∈(s.R .tr).take p
 dn:s.done≤(s.R .tr).length
 cv: ∀i,s.There i→∀x∈s.R (.l i),InV s.vars x
 cn: ∀i,s.There i→(s.R (.l i)).Nodup
 cl: ∀i,s.There i→(s.R (.l i)).length≤4096
 ca: ∀i,s.There i→∀x,x∈s.R (.l i)↔x∈s.R (.a i)
 al: ∀i,(s.R (.a i)).length≤4096
 w1: ∀j,∀c∈s.R (.w j),∃i:Nat,c=i∧s.There i∧∃x∈(s.R (.l i)).take 2,sideN x=j
 w2: ∀i,s.There i→∀x∈(s.R (.l i)).take 2,(i:Int)∈s.R (.w (sideN x))
 w3: ∀j,(s.R (.w j)).Nodup
 o1: ∀c∈s.R .lo,∃i:Nat,c=i∧s.There i
 o2: ∀i,s.There i→(s.R (.l i)).length<2→(i:Int)∈s.R .lo
 o3:(s.R .lo).Nodup
 wd: ∀i,s.There i→(i:Int) ∉ s.R .lo→W1 s i s.done (s.R .tr)
 wj: ∀j,j< (s.R .be).length→∀i,s.There i→(i:Int) ∉ s.R .lo→W1 s i ((s.R .ds).getD j 0).toNat ((s.R .tr).take ((s.R .be).getD j 0).toNat)
theorem val_neg {n:Nat} (h:InV n l):s.val (-l)= -s.val l:=by
 obtain ⟨h1,_,_⟩:=h
 unfold PSt.val
 by_cases e:l<0
 · rw [if_pos e,if_neg (by omega)];omega
 · rw [if_neg e,if_pos (by omega),Int.neg_neg]
theorem amt_eq (h:amt x=amt y):x=y∨x= -y:=by
 unfold amt at h
 split at h<;>split at h<;>omega
theorem amt_neg (x:Int):amt (-x)=amt x:=by unfold amt;split<;>split<;>omega
theorem nodup_len {n:Nat} {l:List Int} (hd:l.Nodup) (h: ∀x∈l,0≤x∧x<n):l.length≤n:=by
 have inj:(l.map Int.toNat).Nodup:=by
  refine List.pairwise_map.2 (List.Pairwise.imp_of_mem (fun {x y} hx hy hne e=> ?_) hd)
  have:=h x hx;have:=h y hy
  exact hne (by omega)
 have:=List.Nodup.length_le_of_subset inj (l₂:=List.range n) fun y hy=>by
  obtain ⟨x,hx,rfl⟩:=List.mem_map.1 hy
  have:=h x hx
  exact List.mem_range.2 (by omega)
 simpa using this
theorem Good.trl (g:Good s):(s.R .tr).length≤s.vars:=by
 have h:=nodup_len (n:=s.vars+1) (l:=0::(s.R .tr).map amt) (List.nodup_cons.2 ⟨fun h=>by
  obtain ⟨x,hx,e⟩:=List.mem_map.1 h
  have:=(g.tv x hx).amt;omega,g.nd⟩) fun x hx=>by
   rcases List.mem_cons.1 hx with rfl|hx
   · omega
   · obtain ⟨y,hy,rfl⟩:=List.mem_map.1 hx
     have:=(g.tv y hy).amt;omega
 simpa using h
theorem Good.bel (g:Good s):(s.R .be).length≤(s.R .tr).length:=by
 refine nodup_len ?_ fun x hx=> ?_
 · rw [List.nodup_iff_pairwise_ne,List.pairwise_iff_getElem]
   intro i j hi hj hij
   have:=g.bs i j hij hj
   simp only [List.getD,List.getElem?_eq_getElem hi,List.getElem?_eq_getElem hj,Option.getD_some] at this
   omega
 · obtain ⟨j,hj,e⟩:=List.mem_iff_getElem.1 hx
   have:=g.bl j hj
   simp only [List.getD,List.getElem?_eq_getElem hj,Option.getD_some,e] at this
   exact this
theorem Good.wf (g:Good s):Wf s:=⟨g.vmax,g.va,g.vb,g.le,g.rl,by have:=g.trl;have:=g.bel;have:=g.vmax;omega,by have:=g.trl;have:=g.vmax;omega,g.ncm⟩
theorem Good.wl (g:Good s) (j:Nat):(s.R (.w j)).length≤262144:=by
 refine Nat.le_trans (nodup_len (n:=s.nc) (g.w3 j) fun x hx=> ?_) g.ncm
 obtain ⟨i,rfl,⟨hi,_⟩,_⟩:=g.w1 j x hx
 omega
theorem Good.lol (g:Good s):(s.R .lo).length≤262144:=by
 refine Nat.le_trans (nodup_len (n:=s.nc) g.o3 fun x hx=> ?_) g.ncm
 obtain ⟨i,rfl,⟨hi,_⟩⟩:=g.o1 x hx
 omega
theorem Good.vm (g:Good s) (h:InV s.vars x):s.val x= -1↔ -x∈s.R .tr:=by
 rw [← g.v1 _ h.neg,val_neg h];omega
theorem Good.v0 (g:Good s) (h:InV s.vars x):s.val x=0↔x ∉ s.R .tr∧ -x ∉ s.R .tr:=by
 have h1:=g.v1 x h;have h2:=g.vm h
 have:=PSt.val_bd g.wf x
 constructor
 · intro e;exact ⟨fun m=>by have:=h1.2 m;omega,fun m=>by have:=h2.2 m;omega⟩
 · rintro ⟨a,b⟩
   rcases this with e|e|e
   · exact e
   · exact absurd (h1.1 e) a
   · exact absurd (h2.1 e) b
theorem Good.vlt (g:Good s) (h:InV s.vars x):s.val x<0↔ -x∈s.R .tr:=by
 rw [← g.vm h];have:=PSt.val_bd g.wf x;omega
theorem Good.vgt (g:Good s) (h:InV s.vars x):0<s.val x↔x∈s.R .tr:=by
 rw [← g.v1 x h];have:=PSt.val_bd g.wf x;omega
theorem Good.cons (g:Good s) (h:x∈s.R .tr): -x ∉ s.R .tr:=fun e=>by
 have hv:=g.tv x h
 have:=(g.v1 x hv).2 h
 have:=(g.vm hv).2 e
 omega
theorem Good.levb (g:Good s) {x:Int} (h:InV s.vars x) (hx:s.val x<0):s.lev x<1048577:=by
 have hm:=(g.vlt h).1 hx
 obtain ⟨p,hp,e⟩:=List.mem_iff_getElem.1 hm
 have h2:=g.lv p hp
 have e2:(s.R .tr).getD p 0= -x:=by simp [List.getD,hp,e]
 rw [e2] at h2
 have e3:s.lev (-x)=s.lev x:=by unfold PSt.lev;rw [amt_neg]
 have h4:=List.countP_le_length (p:=fun e=>decide (e≤(p:Int))) (l:=s.R .be)
 have:=g.bel;have:=g.trl;have:=g.vmax
 omega
theorem put_R {r:Int} {y:Pt} (h1:y≠ .va) (h2:y≠ .le) (h3:y≠ .re) (h4:y≠ .tr):(s.put l r).R y=s.R y:=by
 unfold PSt.put;rw [set_ne h4,set_ne h3,set_ne h2,set_ne h1]
theorem put_tr {r:Int}:(s.put l r).R .tr=s.R .tr++ [l]:=by unfold PSt.put;rw [set_eq]
theorem put_va {r:Int}:(s.put l r).R .va=(s.R .va).set (amt l).toNat (if l<0 then -1 else 1):=by
 unfold PSt.put;rw [set_ne (by simp),set_ne (by simp),set_ne (by simp),set_eq]
theorem put_le {r:Int}:(s.put l r).R .le=(s.R .le).set (amt l).toNat (s.R .be).length:=by
 unfold PSt.put;rw [set_ne (by simp),set_ne (by simp),set_eq]
theorem put_re {r:Int}:(s.put l r).R .re=(s.R .re).set (amt l).toNat r:=by
 unfold PSt.put;rw [set_ne (by simp),set_eq]
theorem put_val (g:(s.R .va).length=s.vars+1) {r:Int} (hl:InV s.vars l) (hy:InV s.vars y):(s.put l r).val y=if amt y=amt l then (if y=l then 1 else -1) else s.val y:=by
 have a1:=hl.amt;have a2:=hy.amt
 obtain ⟨y0,_,_⟩:=hy
 obtain ⟨l0,_,_⟩:=hl
 unfold PSt.val
 rw [put_va]
 by_cases e:y<0
 · have ea:amt y= -y:=by unfold amt;rw [if_pos e]
   rw [if_pos e,if_pos e,getD_setN (by omega)]
   by_cases e2:amt y=amt l
   · rw [if_pos (show (-y).toNat=(amt l).toNat by omega),if_pos e2]
     unfold amt at e2
     rw [if_pos e] at e2
     split at e2
     · rename_i h;rw [if_pos h,if_pos (by omega)];rfl
     · rename_i h;rw [if_neg h,if_neg (by omega)]
   · rw [if_neg (show ¬(-y).toNat=(amt l).toNat by omega),if_neg e2]
 · have ea:amt y=y:=by unfold amt;rw [if_neg e]
   rw [if_neg e,if_neg e,getD_setN (by omega)]
   by_cases e2:amt y=amt l
   · rw [if_pos (show y.toNat=(amt l).toNat by omega),if_pos e2]
     unfold amt at e2
     rw [if_neg e] at e2
     split at e2
     · rename_i h;rw [if_pos h,if_neg (by omega)]
     · rename_i h;rw [if_neg h,if_pos (by omega)]
   · rw [if_neg (show ¬y.toNat=(amt l).toNat by omega),if_neg e2]
theorem getD_mem' {l:List Int} {p:Nat} (h:p<l.length):l.getD p 0∈l:=by simp [List.getD,h]
theorem getD_append_lt {l m:List Int} {p:Nat} (h:p<l.length):(l++m).getD p 0=l.getD p 0:=by
 simp only [List.getD_eq_getElem?_getD];rw [List.getElem?_append_left h]
theorem getD_append_eq {l:List Int} {x:Int}:(l++ [x]).getD l.length 0=x:=by simp [List.getD]
end
section
variable {s t u:PSt} {l x y:Int}
theorem countP_all {l:List Int} {p:Int→Bool} (h: ∀x∈l,p x=true):l.countP p=l.length:=List.countP_eq_length.2 h
theorem put_good (g:Good s) (hl:InV s.vars l) (h0:s.val l=0) (ht: ∀y,y≠ .be→y≠ .ds→t.R y=s.R y) (hv:t.vars=s.vars) (hn:t.nc=s.nc) (hg:t.gone=s.gone) (hd:t.done=s.done) {r:Int}
 (hb:(t.R .be=s.R .be∧t.R .ds=s.R .ds∧∃i:Nat,r=i∧s.There i∧l∈s.R (.l i)∧∀x∈s.R (.l i),x≠l→ -x∈s.R .tr)∨(t.R .be=s.R .be++ [((s.R .tr).length:Int)]∧t.R .ds=s.R .ds++ [(s.done:Int)]∧r= -1)):
 Good (t.put l r):=by
 have eR: ∀y,y≠ .va→y≠ .le→y≠ .re→y≠ .tr→y≠ .be→y≠ .ds→(t.put l r).R y=s.R y:=fun y a1 a2 a3 a4 a5 a6=>by rw [put_R a1 a2 a3 a4,ht y a5 a6]
 have etr:(t.put l r).R .tr=s.R .tr++ [l]:=by rw [put_tr,ht _ (by simp) (by simp)]
 have ebe:(t.put l r).R .be=t.R .be:=put_R (by simp) (by simp) (by simp) (by simp)
 have eds:(t.put l r).R .ds=t.R .ds:=put_R (by simp) (by simp) (by simp) (by simp)
 have el: ∀i,(t.put l r).R (.l i)=s.R (.l i):=fun i=>eR _ (by simp) (by simp) (by simp) (by simp) (by simp) (by simp)
 have ea: ∀i,(t.put l r).R (.a i)=s.R (.a i):=fun i=>eR _ (by simp) (by simp) (by simp) (by simp) (by simp) (by simp)
 have ew: ∀i,(t.put l r).R (.w i)=s.R (.w i):=fun i=>eR _ (by simp) (by simp) (by simp) (by simp) (by simp) (by simp)
 have elo:(t.put l r).R .lo=s.R .lo:=eR _ (by simp) (by simp) (by simp) (by simp) (by simp) (by simp)
 have eth: ∀i,(t.put l r).There i↔s.There i:=fun i=>by show (i<t.nc∧t.gone i=false)↔_;rw [hn,hg];exact Iff.rfl
 have evr:(t.put l r).vars=s.vars:=hv
 have hla:=hl.amt
 have tva:(t.R .va).length=t.vars+1:=by rw [ht _ (by simp) (by simp),hv];exact g.va
 have eval: ∀y,InV s.vars y→(t.put l r).val y=if amt y=amt l then (if y=l then 1 else -1) else s.val y:=fun y hy=>by
  rw [put_val tva (by rw [hv];exact hl) (by rw [hv];exact hy),val_eq (s:=s) (ht _ (by simp) (by simp))]
 have out:=(g.v0 hl).1 h0
 have fr: ∀x∈s.R .tr,amt x≠amt l:=fun x hx e=>by
  rcases amt_eq e with rfl|rfl
  · exact out.1 hx
  · exact out.2 hx
 have elev: ∀x,(t.put l r).lev x=if (amt x).toNat=(amt l).toNat then ((t.R .be).length:Int) else s.lev x:=fun x=>by
  unfold PSt.lev;rw [put_le,ht .le (by simp) (by simp),getD_setN (by rw [g.le];omega)]
 have erea: ∀x,(t.put l r).rea x=if (amt x).toNat=(amt l).toNat then r else s.rea x:=fun x=>by
  unfold PSt.rea;rw [put_re,ht .re (by simp) (by simp),getD_setN (by rw [g.rl];omega)]
 have old: ∀p,p< (s.R .tr).length→¬(amt ((s.R .tr).getD p 0)).toNat=(amt l).toNat:=fun p hp e=>by
  have:=g.tv _ (getD_mem' hp)
  have h2:=this.amt
  exact fr _ (getD_mem' hp) (by omega)
 have hbe:(t.R .be).length≤(s.R .be).length+1:=by rcases hb with ⟨e,_⟩| ⟨e,_⟩<;>rw [e]<;>simp
 have w1': ∀ {i D:Nat} {T T':List Int},W1 s i D T→D≤(s.R .tr).length→(∀y∈T,y∈T')→W1 (t.put l r) i D T':=fun {i D T T'} h hD hT x hx y hy hne hm=>by
  rw [el] at hx hy
  rw [etr,List.take_append_of_le_length hD] at hm
  exact hT y (h x hx y hy hne hm)
 refine ⟨by rw [evr];exact g.vmax,by show t.nc≤_;rw [hn];exact g.ncm,by rw [put_va,List.length_set,evr,tva,hv],?_,by rw [put_le,List.length_set,evr,ht _ (by simp) (by simp)];exact g.le,by rw [put_re,List.length_set,evr,ht _ (by simp) (by simp)];exact g.rl,
  ?_,?_,?_,?_,?_,?_,?_,?_,?_,?_,?_,?_,?_,?_,?_,?_,?_,?_,?_,?_,?_,?_,?_,?_⟩
 · intro i
   rw [put_va,ht _ (by simp) (by simp)]
   rw [getD_setN (by rw [g.va];omega)]
   split
   · split<;>simp
   · exact g.vb i
 · intro x hx
   rw [etr,List.mem_append,List.mem_singleton] at hx
   rw [evr]
   rcases hx with hx|rfl
   · exact g.tv x hx
   · exact hl
 · rw [etr,List.map_append,List.nodup_append]
   refine ⟨g.nd,by simp,fun a ha c hc e=> ?_⟩
   obtain ⟨x,hx,rfl⟩:=List.mem_map.1 ha
   simp at hc
   rw [hc] at e
   exact fr x hx e
 · intro x hx
   rw [evr] at hx
   rw [eval x hx,etr,List.mem_append,List.mem_singleton]
   by_cases e:amt x=amt l
   · rw [if_pos e]
     by_cases e2:x=l
     · rw [if_pos e2];simp [e2]
     · rw [if_neg e2]
       constructor
       · intro h;omega
       · rintro (h|h)
         · exact absurd e (fr x h)
         · exact absurd h e2
   · rw [if_neg e,g.v1 x hx]
     constructor
     · intro h;exact .inl h
     · rintro (h|h)
       · exact h
       · rw [h] at e;exact absurd rfl e
 · intro j hj
   rw [ebe] at hj ⊢
   rw [etr,List.length_append]
   rcases hb with ⟨e,_⟩| ⟨e,_⟩
   · rw [e] at hj ⊢;have:=g.bl j hj;simp only [List.length_cons,List.length_nil];omega
   · rw [e] at hj ⊢
     by_cases h:j< (s.R .be).length
     · rw [getD_append_lt h];have:=g.bl j h;simp only [List.length_cons,List.length_nil];omega
     · have:j=(s.R .be).length:=by simp at hj;omega
       rw [this,getD_append_eq];simp;omega
 · intro i j hij hj
   rw [ebe] at hj ⊢
   rcases hb with ⟨e,_⟩| ⟨e,_⟩
   · rw [e] at hj ⊢;exact g.bs i j hij hj
   · rw [e] at hj ⊢
     by_cases h:j< (s.R .be).length
     · rw [getD_append_lt h,getD_append_lt (by omega)];exact g.bs i j hij h
     · have:j=(s.R .be).length:=by simp at hj;omega
       rw [this,getD_append_eq,getD_append_lt (by omega)];have:=g.bl i (by omega);omega
 · rw [ebe,eds]
   rcases hb with ⟨e,e2,_⟩| ⟨e,e2,_⟩
   · rw [e,e2];exact g.dl
   · rw [e,e2];simp [g.dl]
 · intro j hj
   rw [ebe] at hj ⊢
   rw [eds]
   have gl:=g.dl
   rcases hb with ⟨e,e2,_⟩| ⟨e,e2,_⟩
   · rw [e] at hj ⊢;rw [e2];exact g.db j hj
   · rw [e] at hj ⊢
     rw [e2]
     by_cases h:j< (s.R .be).length
     · rw [getD_append_lt h,getD_append_lt (by omega)];exact g.db j h
     · have:j=(s.R .be).length:=by simp at hj;omega
       rw [this,getD_append_eq]
       rw [← gl,getD_append_eq];have:=g.dn;omega
 · intro p hp
   rw [etr] at hp ⊢
   rw [ebe,elev]
   by_cases h:p< (s.R .tr).length
   · rw [getD_append_lt h,if_neg (old p h),g.lv p h]
     rcases hb with ⟨e,_⟩| ⟨e,_⟩
     · rw [e]
     · have e9: [((s.R .tr).length:Int)].countP (fun e=>decide (e≤(p:Int)))=0:=List.countP_eq_zero.2 fun x hx=>by
        rw [List.mem_singleton] at hx
        rw [decide_eq_true_eq];omega
       rw [e,List.countP_append,e9,Nat.add_zero]
   · have hp2:p=(s.R .tr).length:=by simp at hp;omega
     rw [hp2,getD_append_eq,if_pos rfl,countP_all]
     intro x hx
     rw [decide_eq_true_eq]
     have key: ∀x∈s.R .be,x< ((s.R .tr).length:Int):=fun x hx=>by
      obtain ⟨j,hj,e⟩:=List.mem_iff_getElem.1 hx
      have:=(g.bl j hj).2
      simp only [List.getD,List.getElem?_eq_getElem hj,Option.getD_some,e] at this
      exact this
     rcases hb with ⟨e,_⟩| ⟨e,_⟩
     · rw [e] at hx;have:=key x hx;omega
     · rw [e,List.mem_append,List.mem_singleton] at hx
       rcases hx with hx|rfl
       · have:=key x hx;omega
       · exact Int.le_refl _
 · intro p hp hm
   rw [etr] at hp ⊢
   rw [ebe] at hm
   rw [erea]
   by_cases h:p< (s.R .tr).length
   · rw [getD_append_lt h,if_neg (old p h)]
     refine g.re1 p h ?_
     rcases hb with ⟨e,_⟩| ⟨e,_⟩
     · rw [e] at hm;exact hm
     · rw [e,List.mem_append,List.mem_singleton] at hm
       rcases hm with hm|hm
       · exact hm
       · omega
   · have hp2:p=(s.R .tr).length:=by simp at hp;omega
     rw [hp2,getD_append_eq,if_pos rfl]
     rw [hp2] at hm
     rcases hb with ⟨e,_⟩| ⟨e,_,e3⟩
     · exfalso
       rw [e] at hm
       obtain ⟨j,hj,e⟩:=List.mem_iff_getElem.1 hm
       have:=(g.bl j hj).2
       simp only [List.getD,List.getElem?_eq_getElem hj,Option.getD_some,e] at this
       omega
     · exact e3
 · intro p hp hm
   rw [etr] at hp ⊢
   rw [ebe] at hm
   rw [erea]
   by_cases h:p< (s.R .tr).length
   · rw [getD_append_lt h,if_neg (old p h)]
     have hm':(p:Int) ∉ s.R .be:=by
      rcases hb with ⟨e,_⟩| ⟨e,_⟩
      · rw [e] at hm;exact hm
      · rw [e] at hm;exact fun h2=>hm (List.mem_append_left _ h2)
     obtain ⟨i,e1,e2,e3,e4⟩:=g.re2 p h hm'
     refine ⟨i,e1,(eth i).2 e2,by rw [el];exact e3,fun x hx hne=> ?_⟩
     rw [el] at hx
     rw [List.take_append_of_le_length (by omega)]
     exact e4 x hx hne
   · have hp2:p=(s.R .tr).length:=by simp at hp;omega
     rw [hp2,getD_append_eq,if_pos rfl]
     rw [hp2] at hm
     rcases hb with ⟨e,_,i,e1,e2,e3,e4⟩| ⟨e,_⟩
     · refine ⟨i,e1,(eth i).2 e2,by rw [el];exact e3,fun x hx hne=> ?_⟩
       rw [el] at hx
       rw [List.take_append_of_le_length (Nat.le_refl _),List.take_length]
       exact e4 x hx hne
     · rw [e] at hm;exact absurd (List.mem_append_right _ (by simp)) hm
 · show t.done≤_
   rw [hd,etr,List.length_append];have:=g.dn;omega
 · intro i hi x hx;rw [el] at hx;rw [evr];exact g.cv i ((eth i).1 hi) x hx
 · intro i hi;rw [el];exact g.cn i ((eth i).1 hi)
 · intro i hi;rw [el];exact g.cl i ((eth i).1 hi)
 · intro i hi;rw [el,ea];exact g.ca i ((eth i).1 hi)
 · intro i;rw [ea];exact g.al i
 · intro j c hc
   rw [ew] at hc
   obtain ⟨i,e1,e2,e3⟩:=g.w1 j c hc
   exact ⟨i,e1,(eth i).2 e2,by rw [el];exact e3⟩
 · intro i hi x hx;rw [el] at hx;rw [ew];exact g.w2 i ((eth i).1 hi) x hx
 · intro j;rw [ew];exact g.w3 j
 · intro c hc
   rw [elo] at hc
   obtain ⟨i,e1,e2⟩:=g.o1 c hc
   exact ⟨i,e1,(eth i).2 e2⟩
 · intro i hi h;rw [el] at h;rw [elo];exact g.o2 i ((eth i).1 hi) h
 · rw [elo];exact g.o3
 · intro i hi h
   rw [elo] at h
   show W1 (t.put l r) i t.done _
   rw [hd,etr]
   exact w1' (g.wd i ((eth i).1 hi) h) g.dn fun y hy=>List.mem_append_left _ hy
 · intro j hj i hi h
   rw [elo] at h
   rw [ebe] at hj ⊢
   rw [eds,etr]
   have gl:=g.dl
   have inb: ∀j,j< (s.R .be).length→W1 (t.put l r) i ((s.R .ds).getD j 0).toNat ((s.R .tr++ [l]).take ((s.R .be).getD j 0).toNat):=fun j hj=>by
    have h1:=g.bl j hj;have h2:=g.db j hj
    rw [List.take_append_of_le_length (by omega)]
    exact w1' (g.wj j hj i ((eth i).1 hi) h) (by omega) fun y hy=>hy
   rcases hb with ⟨e,e2,_⟩| ⟨e,e2,_⟩
   · rw [e] at hj ⊢;rw [e2];exact inb j hj
   · rw [e] at hj ⊢
     rw [e2]
     by_cases h2:j< (s.R .be).length
     · rw [getD_append_lt h2,getD_append_lt (by omega)];exact inb j h2
     · have:j=(s.R .be).length:=by simp at hj;omega
       rw [this,getD_append_eq,← gl,getD_append_eq,Int.toNat_natCast,Int.toNat_natCast,List.take_append_of_le_length (Nat.le_refl _),List.take_length]
       exact w1' (g.wd i ((eth i).1 hi) h) g.dn fun y hy=>hy
end
section
variable {s t u:PSt} {l x y:Int}
theorem sideN_inj (h:sideN x=sideN y):x=y:=by
 unfold sideN at h
 split at h<;>split at h<;>omega
theorem take2_mem {l:List Int}:x∈l.take 2↔(0<l.length∧x=l.getD 0 0)∨(1<l.length∧x=l.getD 1 0):=by
 match l with
 | []=>simp
 | [a]=>simp [List.getD]
 |a::b::r=>simp [List.getD]
theorem rewatch_good (g:Good s) (hs: ∀y,(∀i,y≠Pt.l i)→(∀j,y≠Pt.w j)→y≠ .lo→t.R y=s.R y) (hv:t.vars=s.vars) (hn:t.nc=s.nc) (hg:t.gone=s.gone) (hd:t.done=s.done)
 (pm: ∀i,s.There i→(t.R (.l i)).Perm (s.R (.l i)))
 (wm: ∀j c,c∈t.R (.w j)↔∃i:Nat,c=i∧s.There i∧∃x∈(t.R (.l i)).take 2,sideN x=j) (wn: ∀j,(t.R (.w j)).Nodup)
 (o1: ∀c∈t.R .lo,∃i:Nat,c=i∧s.There i) (o2: ∀i,s.There i→(s.R (.l i)).length<2→(i:Int)∈t.R .lo) (o3:(t.R .lo).Nodup)
 (wz: ∀i,s.There i→(i:Int) ∉ t.R .lo→((i:Int) ∉ s.R .lo∧∀x,x∈(t.R (.l i)).take 2↔x∈(s.R (.l i)).take 2)∨
   ∀x∈(t.R (.l i)).take 2,-x ∉ (s.R .tr).take s.done∧∀j,j< (s.R .be).length→ -x ∉ (s.R .tr).take ((s.R .ds).getD j 0).toNat):Good t:=by
 have e: ∀y,(∀i,y≠Pt.l i)→(∀j,y≠Pt.w j)→y≠ .lo→t.R y=s.R y:=hs
 have etr:t.R .tr=s.R .tr:=e _ (by simp) (by simp) (by simp)
 have ebe:t.R .be=s.R .be:=e _ (by simp) (by simp) (by simp)
 have eds:t.R .ds=s.R .ds:=e _ (by simp) (by simp) (by simp)
 have eva:t.R .va=s.R .va:=e _ (by simp) (by simp) (by simp)
 have ele:t.R .le=s.R .le:=e _ (by simp) (by simp) (by simp)
 have ere:t.R .re=s.R .re:=e _ (by simp) (by simp) (by simp)
 have ea: ∀i,t.R (.a i)=s.R (.a i):=fun i=>e _ (by simp) (by simp) (by simp)
 have eth: ∀i,t.There i↔s.There i:=fun i=>by show (i<t.nc∧t.gone i=false)↔_;rw [hn,hg];exact Iff.rfl
 have ev: ∀x,t.val x=s.val x:=fun x=>val_eq eva x
 have elev: ∀x,t.lev x=s.lev x:=fun x=>by unfold PSt.lev;rw [ele]
 have erea: ∀x,t.rea x=s.rea x:=fun x=>by unfold PSt.rea;rw [ere]
 refine ⟨by rw [hv];exact g.vmax,by rw [hn];exact g.ncm,by rw [eva,hv];exact g.va,by rw [eva];exact g.vb,by rw [ele,hv];exact g.le,by rw [ere,hv];exact g.rl,by rw [etr,hv];exact g.tv,by rw [etr];exact g.nd,fun x hx=>by rw [ev,etr];exact g.v1 x (by rw [hv] at hx;exact hx),
  by rw [ebe,etr];exact g.bl,by rw [ebe];exact g.bs,by rw [eds,ebe];exact g.dl,by rw [ebe,eds];exact g.db,fun p hp=>by rw [etr] at hp ⊢;rw [elev,ebe];exact g.lv p hp,fun p hp hm=>by rw [etr] at hp ⊢;rw [erea];rw [ebe] at hm;exact g.re1 p hp hm,
  fun p hp hm=> ?_,by rw [hd,etr];exact g.dn,fun i hi x hx=>by rw [hv];exact g.cv i ((eth i).1 hi) x ((pm i ((eth i).1 hi)).mem_iff.1 hx),fun i hi=> (pm i ((eth i).1 hi)).nodup_iff.2 (g.cn i ((eth i).1 hi)),
  fun i hi=>by rw [(pm i ((eth i).1 hi)).length_eq];exact g.cl i ((eth i).1 hi),fun i hi x=>by rw [(pm i ((eth i).1 hi)).mem_iff,ea];exact g.ca i ((eth i).1 hi) x,fun i=>by rw [ea];exact g.al i,
  fun j c hc=> ?_,fun i hi x hx=> ?_,wn,fun c hc=> ?_,fun i hi h=> ?_,o3,fun i hi h=> ?_,fun j hj i hi h=> ?_⟩
 · rw [etr] at hp ⊢
   rw [ebe] at hm
   obtain ⟨i,e1,e2,e3,e4⟩:=g.re2 p hp hm
   exact ⟨i,by rw [erea];exact e1,(eth i).2 e2,(pm i e2).mem_iff.2 e3,fun x hx hne=>e4 x ((pm i e2).mem_iff.1 hx) hne⟩
 · obtain ⟨i,e1,e2,e3⟩:=(wm j c).1 hc
   exact ⟨i,e1,(eth i).2 e2,e3⟩
 · exact (wm _ _).2 ⟨i,rfl,(eth i).1 hi,x,hx,rfl⟩
 · obtain ⟨i,e1,e2⟩:=o1 c hc
   exact ⟨i,e1,(eth i).2 e2⟩
 · rw [(pm i ((eth i).1 hi)).length_eq] at h;exact o2 i ((eth i).1 hi) h
 · intro x hx y hy hne hm
   rw [etr,hd] at hm
   rw [etr]
   rcases wz i ((eth i).1 hi) h with ⟨h1,h2⟩|h1
   · exact g.wd i ((eth i).1 hi) h1 x ((h2 x).1 hx) y ((h2 y).1 hy) hne hm
   · exact absurd hm (h1 x hx).1
 · intro x hx y hy hne hm
   rw [ebe] at hj
   rw [etr,eds] at hm
   rw [etr,ebe]
   rcases wz i ((eth i).1 hi) h with ⟨h1,h2⟩|h1
   · exact g.wj j hj i ((eth i).1 hi) h1 x ((h2 x).1 hx) y ((h2 y).1 hy) hne hm
   · exact absurd hm ((h1 x hx).2 j hj)
theorem Good.wm (g:Good s) (j:Nat) (c:Int):c∈s.R (.w j)↔∃i:Nat,c=i∧s.There i∧∃x∈(s.R (.l i)).take 2,sideN x=j:=
 ⟨g.w1 j c,fun ⟨i,e1,e2,x,e3,e4⟩=>by subst e1 e4;exact g.w2 i e2 x e3⟩
theorem unF_mem (i:Int) (j:Nat) (c:Int): ∀ (xs:List Int) (t:PSt),c∈(unF i t xs).R (.w j)↔c∈t.R (.w j)∧(c≠i∨∀x∈xs,sideN x≠j)
 | [],t=>by simp [unF]
 |z::xs,t=>by
  show c∈(unF i (t.set (.w (sideN z)) ((t.R (.w (sideN z))).filter fun k=> !(k==i))) xs).R (.w j)↔_
  rw [unF_mem i j c xs]
  by_cases e:sideN z=j
  · subst e
    rw [set_eq,List.mem_filter]
    simp only [List.mem_cons,Bool.not_eq_true',beq_eq_false_iff_ne,ne_eq]
    constructor
    · rintro ⟨⟨h1,h2⟩,_⟩;exact ⟨h1,.inl h2⟩
    · rintro ⟨h1,h2|h2⟩
      · exact ⟨⟨h1,h2⟩,.inl h2⟩
      · exact absurd rfl (h2 z (.inl rfl))
  · rw [set_ne (fun h=>e (by injection h with h;exact h.symm))]
    simp only [List.mem_cons,ne_eq]
    constructor
    · rintro ⟨h1,h2|h2⟩
      · exact ⟨h1,.inl h2⟩
      · refine ⟨h1,.inr fun x hx=> ?_⟩
        rcases hx with rfl|hx
        · exact e
        · exact h2 x hx
    · rintro ⟨h1,h2|h2⟩
      · exact ⟨h1,.inl h2⟩
      · exact ⟨h1,.inr fun x hx=>h2 x (.inr hx)⟩
theorem unF_nodup (i:Int) (j:Nat): ∀ (xs:List Int) (t:PSt),(t.R (.w j)).Nodup→((unF i t xs).R (.w j)).Nodup
 | [],_,h=>h
 |z::xs,t,h=>by
  refine unF_nodup i j xs _ ?_
  by_cases e:sideN z=j
  · subst e;rw [set_eq];exact h.filter _
  · rw [set_ne (fun h=>e (by injection h with h;exact h.symm))];exact h
theorem wF_mem (i:Int) (j:Nat) (c:Int): ∀ (xs:List Int) (t:PSt),c∈(wF i t xs).R (.w j)↔c∈t.R (.w j)∨(c=i∧∃x∈xs,sideN x=j)
 | [],t=>by simp [wF]
 |z::xs,t=>by
  show c∈(wF i (t.set (.w (sideN z)) (t.R (.w (sideN z))++ [i])) xs).R (.w j)↔_
  rw [wF_mem i j c xs]
  by_cases e:sideN z=j
  · subst e
    rw [set_eq,List.mem_append,List.mem_singleton]
    constructor
    · rintro ((h|h)| ⟨h,x,hx,hxe⟩)
      · exact .inl h
      · exact .inr ⟨h,z,List.mem_cons_self ..,rfl⟩
      · exact .inr ⟨h,x,List.mem_cons_of_mem _ hx,hxe⟩
    · rintro (h| ⟨h,_⟩)
      · exact .inl (.inl h)
      · exact .inl (.inr h)
  · rw [set_ne (fun h=>e (by injection h with h;exact h.symm))]
    constructor
    · rintro (h| ⟨h,x,hx,hxe⟩)
      · exact .inl h
      · exact .inr ⟨h,x,List.mem_cons_of_mem _ hx,hxe⟩
    · rintro (h| ⟨h,x,hx,hxe⟩)
      · exact .inl h
      · rcases List.mem_cons.1 hx with rfl|hx
        · exact absurd hxe e
        · exact .inr ⟨h,x,hx,hxe⟩
theorem nodup_snoc {l:List Int} {a:Int} (h:l.Nodup) (ha:a ∉ l):(l++ [a]).Nodup:=by
 rw [List.nodup_append]
 refine ⟨h,by simp,fun x hx y hy e=> ?_⟩
 rw [List.mem_singleton] at hy
 rw [e,hy] at hx
 exact ha hx
theorem wF_nodup (i:Int) (j:Nat): ∀ (xs:List Int) (t:PSt),xs.Nodup→(t.R (.w j)).Nodup→((∃x∈xs,sideN x=j)→i ∉ t.R (.w j))→((wF i t xs).R (.w j)).Nodup
 | [],_,_,h,_=>h
 |z::xs,t,hx,h,hi=>by
  obtain ⟨hz,hx'⟩:=List.nodup_cons.1 hx
  by_cases e:sideN z=j
  · subst e
    refine wF_nodup i _ xs _ hx' ?_ ?_
    · rw [set_eq];exact nodup_snoc h (hi ⟨z,List.mem_cons_self ..,rfl⟩)
    · rintro ⟨x,hxm,hxe⟩
      rw [sideN_inj hxe] at hxm
      exact absurd hxm hz
  · refine wF_nodup i j xs _ hx' ?_ ?_
    · rw [set_ne (fun h=>e (by injection h with h;exact h.symm))];exact h
    · rintro ⟨x,hxm,hxe⟩
      rw [set_ne (fun h=>e (by injection h with h;exact h.symm))]
      exact hi ⟨x,List.mem_cons_of_mem _ hxm,hxe⟩
theorem take2_nodup {l:List Int} (h:l.Nodup):(l.take 2).Nodup:=(List.take_sublist 2 l).nodup h
end
section
variable {s t u s':PSt} {l x y:Int} {i:Nat}
structure Ext (s s':PSt):Prop where
 v:s'.vars=s.vars
 n:s'.nc=s.nc
 g:s'.gone=s.gone
 a: ∀i,s'.R (.a i)=s.R (.a i)
 be:s'.R .be=s.R .be
 ds:s'.R .ds=s.R .ds
 tr: ∃e,s'.R .tr=s.R .tr++e
theorem Ext.refl (s:PSt):Ext s s:=⟨rfl,rfl,rfl,fun _=>rfl,rfl,rfl,[],by simp⟩
theorem Ext.trans (h:Ext s t) (k:Ext t u):Ext s u:=by
 obtain ⟨e,he⟩:=h.tr
 obtain ⟨e2,he2⟩:=k.tr
 exact ⟨k.v.trans h.v,k.n.trans h.n,k.g.trans h.g,fun i=> (k.a i).trans (h.a i),k.be.trans h.be,k.ds.trans h.ds,e++e2,by rw [he2,he,List.append_assoc]⟩
theorem Ext.mem (h:Ext s t) (hx:x∈s.R .tr):x∈t.R .tr:=by
 obtain ⟨e,he⟩:=h.tr
 rw [he];exact List.mem_append_left _ hx
theorem Ext.there (h:Ext s t):t.There i↔s.There i:=by
 show (i<t.nc∧t.gone i=false)↔_
 rw [h.n,h.g];exact Iff.rfl
theorem Ext.set {x:Pt} (h1: ∀i,x≠ .a i) (h2:x≠ .be) (h3:x≠ .ds) (h4:x≠ .tr) {l:List Int}:Ext s (s.set x l):=
 ⟨rfl,rfl,rfl,fun i=>set_ne (fun e=>h1 i e.symm),set_ne (Ne.symm h2),set_ne (Ne.symm h3),[],by rw [set_ne (Ne.symm h4)];simp⟩
theorem Ext.put {r:Int}:Ext s (s.put l r):=
 ⟨rfl,rfl,rfl,fun _=>put_R (by simp) (by simp) (by simp) (by simp),put_R (by simp) (by simp) (by simp) (by simp),put_R (by simp) (by simp) (by simp) (by simp),[l],put_tr⟩
theorem Ext.wF {c:Int} {xs:List Int}:Ext s (wF c s xs):=by
 obtain ⟨h1,h2,h3,_⟩:=wF_vars c xs s
 exact ⟨h1,h2,h3,fun _=>wF_R c (by simp) _ _,wF_R c (by simp) _ _,wF_R c (by simp) _ _,[],by rw [wF_R c (by simp)];simp⟩
theorem Ext.unF {c:Int} {xs:List Int}:Ext s (unF c s xs):=by
 obtain ⟨h1,h2,h3,_⟩:=unF_vars c xs s
 exact ⟨h1,h2,h3,fun _=>unF_R c (by simp) _ _,unF_R c (by simp) _ _,unF_R c (by simp) _ _,[],by rw [unF_R c (by simp)];simp⟩
theorem front_take2 {l:List Int} {f:Int}:x∈(front l f).take 2↔x∈l.take 2:=by
 unfold front
 split
 · rename_i h
   rw [take2_mem,take2_mem,swp_len,swp_get (by omega) h.2,swp_get (by omega) h.2]
   simp only [if_pos,if_neg (show (0:Nat)≠1 by omega),if_neg (show (1:Nat)≠0 by omega)]
   constructor
   · rintro (⟨a,b⟩| ⟨a,b⟩)
     · exact .inr ⟨h.2,b⟩
     · exact .inl ⟨by omega,b⟩
   · rintro (⟨a,b⟩| ⟨a,b⟩)
     · exact .inr ⟨h.2,b⟩
     · exact .inl ⟨by omega,b⟩
 · exact Iff.rfl
theorem front_snd {l:List Int} {f:Int} (h2:2≤l.length) (hf:f∈l.take 2):(front l f).getD 1 0=f:=by
 unfold front
 rcases take2_mem.1 hf with ⟨_,e⟩| ⟨_,e⟩
 · rw [if_pos ⟨e.symm,by omega⟩,swp_get (by omega) (by omega),if_pos rfl,e]
 · split
   · rename_i h
     rw [swp_get (by omega) (by omega),if_pos rfl,h.1]
   · exact e.symm
theorem front_good (g:Good s) (i:Nat) (f:Int):Good (s.set (.l i) (front (s.R (.l i)) f)):=by
 have el: ∀k,(s.set (.l i) (front (s.R (.l i)) f)).R (.l k)=if k=i then front (s.R (.l i)) f else s.R (.l k):=fun k=>by
  by_cases e:k=i
  · rw [if_pos e,e,set_eq]
  · rw [if_neg e,set_ne (by simpa using e)]
 have et: ∀k x,x∈((s.set (.l i) (front (s.R (.l i)) f)).R (.l k)).take 2↔x∈(s.R (.l k)).take 2:=fun k x=>by
  rw [el]
  split
  · rename_i e;rw [e];exact front_take2
  · exact Iff.rfl
 refine rewatch_good g (fun y h1 _ _=>set_ne (h1 i)) rfl rfl rfl rfl (fun k _=> ?_) (fun j c=> ?_) (fun j=>by rw [set_ne (by simp)];exact g.w3 j) (by rw [set_ne (by simp)];exact g.o1) (by rw [set_ne (by simp)];exact g.o2) (by rw [set_ne (by simp)];exact g.o3)
  (fun k _ h=> .inl ⟨by rw [set_ne (by simp)] at h;exact h,et k⟩)
 · rw [el]
   split
   · rename_i e;rw [e];exact front_perm _ _
   · exact List.Perm.refl _
 · rw [set_ne (by simp),g.wm]
   constructor
   · rintro ⟨k,e1,e2,x,hx,e3⟩;exact ⟨k,e1,e2,x,(et k x).2 hx,e3⟩
   · rintro ⟨k,e1,e2,x,hx,e3⟩;exact ⟨k,e1,e2,x,(et k x).1 hx,e3⟩
def Pg (s:PSt) (i:Nat):Prop:=(i:Int) ∉ s.R .lo→W1 s i (s.done+1) (s.R .tr)
theorem mem_take_succ' {l:List Int} {n:Nat} (h:n<l.length):x∈l.take (n+1)↔x∈l.take n∨x=l.getD n 0:=mem_take_succ h
theorem put_Pg {r:Int} (h:Pg s i) (hd:s.done< (s.R .tr).length):Pg (s.put l r) i:=by
 intro hlo x hx y hy hne hm
 rw [put_R (by simp) (by simp) (by simp) (by simp)] at hlo hx hy
 rw [put_tr] at hm ⊢
 have hm: -x∈(s.R .tr++ [l]).take (s.done+1):=hm
 rw [List.take_append_of_le_length (show s.done+1≤_ from hd)] at hm
 exact List.mem_append_left _ (h hlo x hx y hy hne hm)
theorem visit_good (g:Good s) (hi:s.There i) (h2:2≤(s.R (.l i)).length) {f:Int} (hf:f∈(s.R (.l i)).take 2) (hd:s.done< (s.R .tr).length) (hp:(s.R .tr).getD s.done 0= -f) {st br:Bool} (V:Vis s i (front (s.R (.l i)) f) s' st br)
 {r:List Int} (hr1:st=true→r=s.R (.w (sideN f))) (hr2:st=false→(∀c,c∈r↔c∈s.R (.w (sideN f))∧c≠(i:Int))∧r.Nodup):
 Good (s'.set (.w (sideN f)) r)∧(br=false→Pg (s'.set (.w (sideN f)) r) i)∧(∀k,k≠i→Pg s k→Pg (s'.set (.w (sideN f)) r) k)∧Ext s (s'.set (.w (sideN f)) r)∧(br=true→∀x∈s.R (.l i),-x∈s.R .tr)∧
  s'.R .lo=s.R .lo∧s'.done=s.done∧(∀j,j≠sideN f→∀c,c∈s.R (.w j)→c∈s'.R (.w j))∧(∀k,k≠i→s'.R (.l k)=s.R (.l k))∧(∀x,x∈s'.R (.l i)↔x∈s.R (.l i)):=by
 have hfl:f∈s.R (.l i):=List.mem_of_mem_take hf
 have hfv:=g.cv i hi f hfl
 have hft: -f∈s.R .tr:=by rw [← hp];exact getD_mem' hd
 have hff:f ∉ s.R .tr:=fun e=>g.cons e hft
 have hm1:=front_snd h2 hf
 have hml:=front_len (s.R (.l i)) f
 have hmp:=front_perm (s.R (.l i)) f
 have hmt: ∀x,x∈(front (s.R (.l i)) f).take 2↔x∈(s.R (.l i)).take 2:=fun x=>front_take2
 have gm:=front_good g i f
 generalize front (s.R (.l i)) f=m at*
 have hmn:m.Nodup:=hmp.nodup_iff.2 (g.cn i hi)
 have h0f:m.getD 0 0≠f:=fun e=>by
  have:=(List.getElem_inj (h₀:=show 0<m.length by omega) (h₁:=show 1<m.length by omega) hmn).1 (by
   have e0:m.getD 0 0=m[0]:=by simp [List.getD,show 0<m.length by omega]
   have e1:m.getD 1 0=m[1]:=by simp [List.getD,show 1<m.length by omega]
   rw [← e0,← e1,e,hm1])
  omega
 have h0m:m.getD 0 0∈m:=getD_mem' (by omega)
 have h0v:InV s.vars (m.getD 0 0):=g.cv i hi _ (hmp.mem_iff.1 h0m)
 have same:st=true→s'.R (.w (sideN f))=s.R (.w (sideN f))→s'.set (.w (sideN f)) r=s':=fun h e=>by rw [hr1 h,← e,set_self']
 have tm: ∀x,x∈m.take 2↔x=m.getD 0 0∨x=f:=fun x=>by
  rw [take2_mem,hm1]
  exact ⟨fun h=>h.elim (fun h=> .inl h.2) fun h=> .inr h.2,fun h=>h.elim (fun h=> .inl ⟨by omega,h⟩) fun h=> .inr ⟨by omega,h⟩⟩
 have setPg: ∀k,k≠i→Pg s k→Pg (s.set (.l i) m) k:=fun k hk h hlo x hx y hy hne hm=>by
  rw [set_ne (by simp)] at hlo
  rw [set_ne (by simpa using hk)] at hx hy
  rw [set_ne (by simp)] at hm ⊢
  exact h hlo x hx y hy hne hm
 cases V with
 |sat h=>
  have e:(s.set (.l i) m).R (.w (sideN f))=s.R (.w (sideN f)):=set_ne (by simp)
  rw [same rfl e]
  have h0t:=(g.vgt h0v).1 h
  refine ⟨gm,fun _ hlo x hx y hy hne hm=> ?_,setPg,Ext.set (by simp) (by simp) (by simp) (by simp),fun h=> (by cases h),set_ne (by simp),rfl,fun j _ c hc=> (by rw [set_ne (by simp)];exact hc),fun k hk=>set_ne (by simpa using hk),fun x=>by rw [set_eq];exact hmp.mem_iff⟩
  rw [set_eq] at hx hy
  rw [set_ne (by simp)] at hm ⊢
  rcases (tm x).1 hx with rfl|rfl
  · exact absurd (List.mem_of_mem_take hm) (g.cons h0t)
  · rcases (tm y).1 hy with rfl|rfl
    · exact h0t
    · exact absurd rfl hne
 |broken h hall=>
  have e:(s.set (.l i) m).R (.w (sideN f))=s.R (.w (sideN f)):=set_ne (by simp)
  rw [same rfl e]
  refine ⟨gm,fun h=> (by cases h),setPg,Ext.set (by simp) (by simp) (by simp) (by simp),fun _ x hx=> ?_,set_ne (by simp),rfl,fun j _ c hc=> (by rw [set_ne (by simp)];exact hc),fun k hk=>set_ne (by simpa using hk),fun x=>by rw [set_eq];exact hmp.mem_iff⟩
  have hxm:=hmp.mem_iff.2 hx
  obtain ⟨j,hj,e⟩:=List.mem_iff_getElem.1 hxm
  have ej:m.getD j 0=x:=by simp [List.getD,hj,e]
  have hxv:=g.cv i hi x hx
  match j,ej with
  |0,ej=>rw [ej] at h;exact (g.vlt hxv).1 h
  |1,ej=>rw [hm1] at ej;rw [← ej];exact hft
  |j+2,ej=>have:=hall (j+2) (by omega) hj;rw [ej] at this;exact (g.vlt hxv).1 this
 |unit h hall=>
  have e:((s.set (.l i) m).put (m.getD 0 0) i).R (.w (sideN f))=s.R (.w (sideN f)):=by rw [put_R (by simp) (by simp) (by simp) (by simp),set_ne (by simp)]
  rw [same rfl e]
  have ev:(s.set (.l i) m).val (m.getD 0 0)=0:=by rw [val_eq (s:=s) (set_ne (by simp))];exact h
  have oth: ∀x∈m,x≠m.getD 0 0→ -x∈s.R .tr:=fun x hx hne=>by
   obtain ⟨j,hj,e⟩:=List.mem_iff_getElem.1 hx
   have ej:m.getD j 0=x:=by simp [List.getD,hj,e]
   have hxv:=g.cv i hi x (hmp.mem_iff.1 hx)
   match j,ej with
   |0,ej=>exact absurd ej.symm hne
   |1,ej=>rw [hm1] at ej;rw [← ej];exact hft
   |j+2,ej=>have:=hall (j+2) (by omega) hj;rw [ej] at this;exact (g.vlt hxv).1 this
  have gp:Good ((s.set (.l i) m).put (m.getD 0 0) i):=put_good gm h0v ev (fun _ _ _=>rfl) rfl rfl rfl rfl (.inl ⟨rfl,rfl,i,rfl,hi,by rw [set_eq];exact h0m,fun x hx hne=>by
   rw [set_eq] at hx;rw [set_ne (by simp)];exact oth x hx hne⟩)
  have xt:Ext s ((s.set (.l i) m).put (m.getD 0 0) i):=(Ext.set (by simp) (by simp) (by simp) (by simp)).trans Ext.put
  refine ⟨gp,fun _ hlo x hx y hy hne hm=> ?_,fun k hk h=>put_Pg (setPg k hk h) (by rw [set_ne (by simp)];exact hd),xt,fun h=> (by cases h),by rw [put_R (by simp) (by simp) (by simp) (by simp),set_ne (by simp)],rfl,
   fun j _ c hc=> (by rw [put_R (by simp) (by simp) (by simp) (by simp),set_ne (by simp)];exact hc),fun k hk=>by rw [put_R (by simp) (by simp) (by simp) (by simp)];exact set_ne (by simpa using hk),fun x=>by rw [put_R (by simp) (by simp) (by simp) (by simp),set_eq];exact hmp.mem_iff⟩
  rw [put_R (by simp) (by simp) (by simp) (by simp),set_eq] at hx hy
  have h0t:m.getD 0 0∈((s.set (.l i) m).put (m.getD 0 0) i).R .tr:=by rw [put_tr];simp
  rcases (tm x).1 hx with rfl|rfl
  · exact absurd (List.mem_of_mem_take hm) (gp.cons h0t)
  · rcases (tm y).1 hy with rfl|rfl
    · exact h0t
    · exact absurd rfl hne
 |moved k hn k2 kl hk=>
  obtain ⟨hr,hrn⟩:=hr2 rfl
  have hzm:m.getD k 0∈m:=getD_mem' kl
  generalize hz:m.getD k 0=z at*
  have hzv:=g.cv i hi z (hmp.mem_iff.1 hzm)
  have hzf:z≠f:=fun e=>by
   have:=(g.vlt hfv).2 hft
   rw [← e] at this;omega
  have hz2:z ∉ m.take 2:=fun e=>by
   rcases (tm z).1 e with e|e
   · have:=(List.getElem_inj (h₀:=show 0<m.length by omega) (h₁:=kl) hmn).1 (by
      have e0:m.getD 0 0=m[0]:=by simp [List.getD,show 0<m.length by omega]
      have e1:m.getD k 0=m[k]:=by simp [List.getD,kl]
      rw [← e0,← e1,hz,e])
     omega
   · exact hzf e
  have hsf:sideN z≠sideN f:=fun e=>hzf (sideN_inj e)
  have t2: ∀x,x∈(swp m 1 k).take 2↔x=m.getD 0 0∨x=z:=fun x=>by
   have e0:(swp m 1 k).getD 0 0=m.getD 0 0:=by rw [swp_get (by omega) (by omega),if_neg (by omega),if_neg (by omega)]
   have e1:(swp m 1 k).getD 1 0=z:=by rw [swp_get (by omega) (by omega),if_neg (by omega),if_pos rfl,hz]
   rw [take2_mem,swp_len,e0,e1]
   exact ⟨fun h=>h.elim (fun h=> .inl h.2) fun h=> .inr h.2,fun h=>h.elim (fun h=> .inl ⟨by omega,h⟩) fun h=> .inr ⟨by omega,h⟩⟩
  have hp2:(swp m 1 k).Perm (s.R (.l i)):=(perm_swp (by omega) kl).trans hmp
  have ezt: -z ∉ s.R .tr:=fun e=>by have:=(g.vlt hzv).2 e;omega
  have etr: ∀y,(∀i,y≠Pt.l i)→(∀j,y≠Pt.w j)→(((s.set (.l i) (swp m 1 k)).set (.w (sideN z)) (s.R (.w (sideN z))++ [(i:Int)])).set (.w (sideN f)) r).R y=s.R y:=fun y h1 h2=>by
   rw [set_ne (h2 _),set_ne (h2 _),set_ne (h1 _)]
  have el: ∀q,(((s.set (.l i) (swp m 1 k)).set (.w (sideN z)) (s.R (.w (sideN z))++ [(i:Int)])).set (.w (sideN f)) r).R (.l q)=if q=i then swp m 1 k else s.R (.l q):=fun q=>by
   rw [set_ne (by simp),set_ne (by simp)]
   by_cases e:q=i
   · rw [if_pos e,e,set_eq]
   · rw [if_neg e,set_ne (by simpa using e)]
  have ew: ∀j c,c∈(((s.set (.l i) (swp m 1 k)).set (.w (sideN z)) (s.R (.w (sideN z))++ [(i:Int)])).set (.w (sideN f)) r).R (.w j)↔(c∈s.R (.w j)∧(j=sideN f→c≠(i:Int)))∨(j=sideN z∧c=(i:Int)):=fun j c=>by
   by_cases e:j=sideN f
   · subst e
     rw [set_eq,hr]
     exact ⟨fun h=> .inl ⟨h.1,fun _=>h.2⟩,fun h=>h.elim (fun h=> ⟨h.1,h.2 rfl⟩) fun h=>absurd h.1.symm hsf⟩
   · rw [set_ne (by simpa using e)]
     by_cases e2:j=sideN z
     · subst e2
       rw [set_eq,List.mem_append,List.mem_singleton]
       exact ⟨fun h=>h.elim (fun h=> .inl ⟨h,fun h=>absurd h e⟩) fun h=> .inr ⟨rfl,h⟩,fun h=>h.elim (fun h=> .inl h.1) fun h=> .inr h.2⟩
     · rw [set_ne (by simpa using e2),set_ne (by simp)]
       exact ⟨fun h=> .inl ⟨h,fun h=>absurd h e⟩,fun h=>h.elim (fun h=>h.1) fun h=>absurd h.1 e2⟩
  have out:(i:Int) ∉ s.R (.w (sideN z)):=fun e=>by
   obtain ⟨q,e1,e2,x,hx,e3⟩:=g.w1 _ _ e
   have:q=i:=by omega
   subst this
   rw [sideN_inj e3] at hx
   exact hz2 ((hmt z).2 hx)
  have other:(i:Int) ∉ s.R .lo→(∀D,(∀x∈(s.R (.l i)).take 2,∀y∈(s.R (.l i)).take 2,x≠y→ -x∈(s.R .tr).take D→y∈s.R .tr)→ -(m.getD 0 0) ∉ (s.R .tr).take D):=fun _ D h hm=>by
   have:=h (m.getD 0 0) ((hmt _).1 ((tm _).2 (.inl rfl))) f hf h0f hm
   exact hff this
  have G':Good (((s.set (.l i) (swp m 1 k)).set (.w (sideN z)) (s.R (.w (sideN z))++ [(i:Int)])).set (.w (sideN f)) r):=by
   refine rewatch_good g (fun y h1 h2 _=>etr y h1 h2) rfl rfl rfl rfl (fun q _=> ?_) (fun j c=> ?_) (fun j=> ?_) (by rw [etr _ (by simp) (by simp)];exact g.o1) (by rw [etr _ (by simp) (by simp)];exact g.o2) (by rw [etr _ (by simp) (by simp)];exact g.o3) (fun q hq hlo=> ?_)
   · rw [el]
     split
     · rename_i e;rw [e];exact hp2
     · exact List.Perm.refl _
   · rw [ew,g.wm]
     constructor
     · rintro (⟨⟨q,e1,e2,x,hx,e3⟩,h⟩| ⟨e1,e2⟩)
       · refine ⟨q,e1,e2,?_⟩
         rw [el]
         by_cases e:q=i
         · subst e
           rw [if_pos rfl]
           rcases (tm x).1 ((hmt x).2 hx) with rfl|rfl
           · exact ⟨_,(t2 _).2 (.inl rfl),e3⟩
           · exact absurd e1 (h e3.symm)
         · rw [if_neg e];exact ⟨x,hx,e3⟩
       · exact ⟨i,e2,hi,z,by rw [el,if_pos rfl];exact (t2 _).2 (.inr rfl),e1.symm⟩
     · rintro ⟨q,e1,e2,x,hx,e3⟩
       rw [el] at hx
       by_cases e:q=i
       · subst e
         rw [if_pos rfl] at hx
         rcases (t2 x).1 hx with rfl|rfl
         · refine .inl ⟨⟨q,e1,e2,_,(hmt _).1 ((tm _).2 (.inl rfl)),e3⟩,fun h=> ?_⟩
           exact absurd (sideN_inj (e3.trans h)) h0f
         · exact .inr ⟨e3.symm,e1⟩
       · rw [if_neg e] at hx
         exact .inl ⟨⟨q,e1,e2,x,hx,e3⟩,fun _ h=>e (by omega)⟩
   · by_cases e:j=sideN f
     · subst e;rw [set_eq];exact hrn
     · rw [set_ne (by simpa using e)]
       by_cases e2:j=sideN z
       · subst e2;rw [set_eq];exact nodup_snoc (g.w3 _) out
       · rw [set_ne (by simpa using e2),set_ne (by simp)];exact g.w3 j
   · rw [etr _ (by simp) (by simp)] at hlo
     rw [el]
     by_cases e:q=i
     · subst e
       rw [if_pos rfl]
       refine .inr fun x hx=> ?_
       rcases (t2 x).1 hx with rfl|rfl
       · exact ⟨other hlo _ (g.wd q hi hlo),fun j hj=>other hlo _ fun x hx y hy hne hm=>List.mem_of_mem_take (g.wj j hj q hi hlo x hx y hy hne hm)⟩
       · exact ⟨fun h=>ezt (List.mem_of_mem_take h),fun j _ h=>ezt (List.mem_of_mem_take h)⟩
     · rw [if_neg e];exact .inl ⟨hlo,fun _=>Iff.rfl⟩
  refine ⟨G',fun _ hlo x hx y hy hne hm=> ?_,fun q hq h hlo x hx y hy hne hm=> ?_,?_,fun h=> (by cases h),by rw [set_ne (by simp),set_ne (by simp)],rfl,fun j hj c hc=> ?_,fun q hq=>by rw [set_ne (by simp),set_ne (by simpa using hq)],fun x=>by rw [set_ne (by simp),set_eq];exact hp2.mem_iff⟩
  · rw [etr _ (by simp) (by simp)] at hlo hm ⊢
    rw [el,if_pos rfl] at hx hy
    have hm: -x∈(s.R .tr).take (s.done+1):=hm
    exfalso
    rcases (t2 x).1 hx with rfl|rfl
    · rcases (mem_take_succ' hd).1 hm with hm|hm
      · exact other hlo _ (g.wd i hi hlo) hm
      · rw [hp] at hm
        exact h0f (by omega)
    · exact ezt (List.mem_of_mem_take hm)
  · rw [etr _ (by simp) (by simp)] at hlo hm ⊢
    rw [el,if_neg hq] at hx hy
    exact h hlo x hx y hy hne hm
  · exact ⟨rfl,rfl,rfl,fun q=>etr _ (by simp) (by simp),etr _ (by simp) (by simp),etr _ (by simp) (by simp),[],by rw [etr _ (by simp) (by simp)];simp⟩
  · by_cases e2:j=sideN z
    · subst e2;rw [set_eq];exact List.mem_append_left _ hc
    · rw [set_ne (by simpa using e2),set_ne (by simp)];exact hc
theorem again_good (g:Good s) (hi:s.There i) {keep rest:List Int} (hlo:s.R .lo=keep++ (i:Int)::rest) {l':List Int} (pm:l'.Perm (s.R (.l i))) (h2:2≤l'.length) (v0:0≤s.val (l'.getD 0 0)) (v1:0≤s.val (l'.getD 1 0)):
 Good ((wF i ((unF i s ((s.R (.l i)).take 2)).set (.l i) l') (l'.take 2)).set .lo (keep++rest)):=by
 have eR: ∀y,(∀i,y≠Pt.l i)→(∀j,y≠Pt.w j)→y≠ .lo→((wF i ((unF i s ((s.R (.l i)).take 2)).set (.l i) l') (l'.take 2)).set .lo (keep++rest)).R y=s.R y:=fun y h1 h2 h3=>by
  rw [set_ne h3,wF_R _ h2,set_ne (h1 _),unF_R _ h2]
 have el: ∀q,((wF i ((unF i s ((s.R (.l i)).take 2)).set (.l i) l') (l'.take 2)).set .lo (keep++rest)).R (.l q)=if q=i then l' else s.R (.l q):=fun q=>by
  rw [set_ne (by simp),wF_R _ (by simp)]
  by_cases e:q=i
  · rw [if_pos e,e,set_eq]
  · rw [if_neg e,set_ne (by simpa using e),unF_R _ (by simp)]
 have ew: ∀j c,c∈((wF i ((unF i s ((s.R (.l i)).take 2)).set (.l i) l') (l'.take 2)).set .lo (keep++rest)).R (.w j)↔(c∈s.R (.w j)∧c≠(i:Int))∨(c=(i:Int)∧∃x∈l'.take 2,sideN x=j):=fun j c=>by
  rw [set_ne (by simp),wF_mem,set_ne (by simp),unF_mem]
  constructor
  · rintro (⟨h1,h2|h2⟩|h)
    · exact .inl ⟨h1,h2⟩
    · refine .inl ⟨h1,fun e=> ?_⟩
      subst e
      obtain ⟨q,e1,e2,x,hx,e3⟩:=g.w1 _ _ h1
      have:q=i:=by omega
      subst this
      exact h2 x hx e3
    · exact .inr h
  · rintro (⟨h1,h2⟩|h)
    · exact .inl ⟨h1,.inl h2⟩
    · exact .inr h
 obtain ⟨d1,d2,d3,d4⟩:=wF_vars i (l'.take 2) ((unF i s ((s.R (.l i)).take 2)).set (.l i) l')
 obtain ⟨u1,u2,u3,u4⟩:=unF_vars i ((s.R (.l i)).take 2) s
 have nl:=g.o3
 rw [hlo] at nl
 have hsub:(keep++rest).Sublist (keep++ (i:Int)::rest):=List.Sublist.append (List.Sublist.refl _) (List.sublist_cons_self _ _)
 have hmem: ∀c,c∈s.R .lo→c≠(i:Int)→c∈keep++rest:=fun c hc hne=>by
  rw [hlo,List.mem_append,List.mem_cons] at hc
  rw [List.mem_append]
  rcases hc with h|h|h
  · exact .inl h
  · exact absurd h hne
  · exact .inr h
 have hin: ∀x∈l',InV s.vars x:=fun x hx=>g.cv i hi x (pm.mem_iff.1 hx)
 refine rewatch_good g eR (d1.trans u1) (d2.trans u2) (d3.trans u3) (d4.trans u4) (fun q _=> ?_) (fun j c=> ?_) (fun j=> ?_) (by rw [set_eq];exact fun c hc=>g.o1 c (by rw [hlo];exact hsub.mem hc)) (fun q hq h=> ?_) (by rw [set_eq];exact hsub.nodup nl) (fun q hq h=> ?_)
 · rw [el]
   split
   · rename_i e;rw [e];exact pm
   · exact List.Perm.refl _
 · rw [ew,g.wm]
   constructor
   · rintro (⟨⟨q,e1,e2,x,hx,e3⟩,h⟩| ⟨e1,x,hx,e3⟩)
     · exact ⟨q,e1,e2,x,by rw [el,if_neg (fun e=>h (by rw [e1,e]))];exact hx,e3⟩
     · exact ⟨i,e1,hi,x,by rw [el,if_pos rfl];exact hx,e3⟩
   · rintro ⟨q,e1,e2,x,hx,e3⟩
     rw [el] at hx
     by_cases e:q=i
     · subst e
       rw [if_pos rfl] at hx
       exact .inr ⟨e1,x,hx,e3⟩
     · rw [if_neg e] at hx
       exact .inl ⟨⟨q,e1,e2,x,hx,e3⟩,fun h=>e (by omega)⟩
 · rw [set_ne (by simp)]
   refine wF_nodup i j _ _ (take2_nodup (pm.nodup_iff.2 (g.cn i hi))) (by rw [set_ne (by simp)];exact unF_nodup i j _ _ (g.w3 j)) fun _=> ?_
   rw [set_ne (by simp),unF_mem]
   rintro ⟨h1,h2|h2⟩
   · exact h2 rfl
   · obtain ⟨q,e1,e2,x,hx,e3⟩:=g.w1 _ _ h1
     have:q=i:=by omega
     subst this
     exact h2 x hx e3
 · rw [set_eq]
   refine hmem _ (g.o2 q hq h) fun e=> ?_
   have:q=i:=by omega
   subst this
   rw [pm.length_eq] at h2
   omega
 · rw [set_eq] at h
   rw [el]
   by_cases e:q=i
   · subst e
     rw [if_pos rfl]
     refine .inr fun x hx=> ?_
     have hxv:0≤s.val x:=by
      rcases take2_mem.1 hx with ⟨_,e⟩| ⟨_,e⟩<;>rw [e]<;>assumption
     have: -x ∉ s.R .tr:=fun e=>by
      have:=(g.vlt (hin x (List.mem_of_mem_take hx))).2 e;omega
     exact ⟨fun h=>this (List.mem_of_mem_take h),fun j _ h=>this (List.mem_of_mem_take h)⟩
   · rw [if_neg e]
     exact .inl ⟨fun h2=>h (hmem _ h2 fun h3=>e (by omega)),fun _=>Iff.rfl⟩
end
section
variable {w w' w0 w2 w3:World} {b:Nat} {H H' H2:Pt→Sl} {s t u s' T:PSt} {l x y:Int} {i:Nat}
theorem set_comm {x y:Pt} (h:x≠y) {l m:List Int}:(s.set x l).set y m=(s.set y m).set x l:=by
 simp only [PSt.set]
 congr 1
 funext z
 simp only [updF]
 by_cases e:z=x
 · subst e
   rw [if_neg h,if_pos rfl,if_pos rfl]
 · by_cases e2:z=y
   · subst e2
     rw [if_pos rfl,if_neg e,if_pos rfl]
   · rw [if_neg e2,if_neg e,if_neg e,if_neg e2]
theorem wF_lo (c:Int) {L:List Int}: ∀ (xs:List Int) (t:PSt),wF c (t.set .lo L) xs=(wF c t xs).set .lo L
 | [],_=>rfl
 |x::xs,t=>by
  show wF c ((t.set .lo L).set (.w (sideN x)) ((t.set .lo L).R (.w (sideN x))++ [c])) xs=_
  rw [set_ne (by simp),set_comm (by simp),wF_lo c xs];rfl
theorem unF_lo (c:Int) {L:List Int}: ∀ (xs:List Int) (t:PSt),unF c (t.set .lo L) xs=(unF c t xs).set .lo L
 | [],_=>rfl
 |x::xs,t=>by
  show unF c ((t.set .lo L).set (.w (sideN x)) (((t.set .lo L).R (.w (sideN x))).filter fun k=> !(k==c))) xs=_
  rw [set_ne (by simp),set_comm (by simp),unF_lo c xs];rfl
theorem put_lo {L:List Int} {r:Int}:(t.set .lo L).put l r=(t.put l r).set .lo L:=by
 unfold PSt.put
 simp only [set_ne (s:=t) (x:= .lo) (l:=L) (y:= .va) (by simp),set_ne (s:=t) (x:= .lo) (l:=L) (y:= .le) (by simp),set_ne (s:=t) (x:= .lo) (l:=L) (y:= .re) (by simp),set_ne (s:=t) (x:= .lo) (l:=L) (y:= .be) (by simp),set_ne (s:=t) (x:= .lo) (l:=L) (y:= .tr) (by simp)]
 rw [set_comm (x:= .lo) (y:= .va) (by simp),set_comm (x:= .lo) (y:= .le) (by simp),set_comm (x:= .lo) (y:= .re) (by simp),set_comm (x:= .lo) (y:= .tr) (by simp)]
theorem Pw.side {S:Nat→Prop} (h:Pw w w2 b H H' t) (m:Mod S w2 w3) (hS: ∀k,S k→w.heap.size≤k∧∀x,own b H' x≠some k):Pw w w3 b H H' t:=
 ⟨h.pm.keep m fun x k hk hs=> (hS k hs).2 x hk,h.mod.then m fun k hk hs=>by have:=(hS k hs).1;omega,h.ft⟩
def Lsat (s:PSt):Prop:= ∀i,s.There i→(i:Int)∈s.R .lo→∃x∈s.R (.a i),x∈s.R .tr
def Brk (s:PSt) (i:Nat):Prop:=s.There i∧∀x∈s.R (.a i),-x∈s.R .tr
theorem Brk.ext (h:Brk s i) (e:Ext s t):Brk t i:=⟨e.there.2 h.1,fun x hx=>e.mem (h.2 x (by rw [← e.a];exact hx))⟩
theorem loosely_ok (h:PM w b H s) (g:Good s):Calls prog prop_Prop_loosely.id #[ptrV b] w fun e w'=> ∃r:Int,e= .returned (.int .i64 r)∧∃s' H',Pw w w' b H H' s'∧Good s'∧Ext s s'∧s'.done=s.done∧((r= -1∧Lsat s')∨∃i:Nat,r=i∧Brk s' i):=by
 refine prop_Prop_loosely.calls ?_
 intro n1 w1 h1
 have hA:=h.grow h1.mod
 have z1:=h1.size
 have e1:=h1.num
 have hnot: ∀x,¬own b H x=some n1:=fun x e=>by have:=h.lt x n1 e;omega
 refine ⟨_,cell_of h1.has rfl,_,rfl,_,_,_,cell_add hA.st rfl,?_⟩
 have hN:=h.len .lo rfl
 generalize hL:s.R .lo=L at*
 have hLb:L.length≤262144:=by rw [← hL];exact g.lol
 refine ⟨fun P N C B V u m=> ∃ (v:Nat) (T:PSt) (H':Pt→Sl) (keep:List Int),V=v∧v≤L.length∧m=L.length - v∧N=keep.length∧Pw w1 u b H H' T∧OwI ty_int u P C keep∧(∀k,blk P=some k→w1.heap.size≤k∧∀x,own b H' x≠some k)∧
  T.R .lo=L∧H' .lo=H .lo∧keep.length≤v∧Good (T.set .lo (keep++L.drop v))∧Ext s T∧T.done=s.done∧
  ((B= -1∧∀c∈keep,∃i:Nat,c=i∧∃x∈T.R (.a i),x∈T.R .tr)∨∃i:Nat,B=i∧Brk T i),
  ⟨_,0,s,H,[],rfl,Nat.zero_le _,rfl,rfl,Pw.refl hA (Mod.refl w1),Ow.nil _ _ _,fun k hk=>by simp [blk] at hk,hL,rfl,Nat.le_refl _,by rw [List.nil_append,List.drop_zero,← hL,set_self'];exact g,Ext.refl s,rfl,.inl ⟨rfl,fun c hc=>by simp at hc⟩⟩,?_⟩
 rintro P N C B V u m _ ⟨v,T,H',keep,rfl,hv,rfl,rfl,Pu,ok,fr,tlo,hlo,kl,gV,xT,dT,hB⟩
 have hT:=Pu.pm
 have hn1:Has u n1 #[ptrV b]:=h1.has.keep Pu.mod fun ⟨x,e⟩=>hnot x e
 have nn1: ∀x,own b H' x≠some n1:=fun x e=>by
  rcases Pu.ft x n1 e with ⟨y,e2⟩|e2
  · exact hnot y e2
  · omega
 refine cnd_i (fun r=> ?_) (fun r=> ?_)
 · have r:v<L.length:=by rw [hN] at r;simpa using r
   have hlook: ∀ {u':World},Pw w1 u' b H H' T→∀ {K:Addr→Prop},(∀a,u'.cell? a=some (.int .i64 (L.getD v 0))→K a)→ixK (H .lo).p (H .lo).n (v:Int) 1 K:=fun {u'} P K hk=>by
    rw [← hlo]
    refine P.pm.rIx (x:= .lo) rfl (by omega) rfl (by rw [tlo];omega) fun a _ hc=>hk a ?_
    rw [tlo,Int.toNat_natCast] at hc
    exact hc
   have hdrop:L.drop v=L.getD v 0::L.drop (v+1):=by
    rw [List.drop_eq_getElem_cons r]
    simp [List.getD,r]
   have hmem:L.getD v 0∈(T.set .lo (keep++L.drop v)).R .lo:=by rw [set_eq,hdrop];simp
   obtain ⟨i,ei,hth⟩:=gV.o1 _ hmem
   have hth:T.There i:=hth
   have hiT:i<T.nc:=hth.1
   refine hlook Pu fun a13 hc13=> ⟨_,hc13,?_⟩
   rw [ei]
   have app: ∀ {u':World} {T':PSt} {H2:Pt→Sl},Pw w1 u' b H H2 T'→OwI ty_int u' P C keep→(∀k,blk P=some k→w1.heap.size≤k∧∀x,own b H2 x≠some k)→
    ∀ {K:World→Option Addr→Nat→Nat→Prop},(∀w2 p' c',Pw w1 w2 b H H2 T'→OwI ty_int w2 p' c' (keep++ [(i:Int)])→(∀k,blk p'=some k→w1.heap.size≤k∧∀x,own b H2 x≠some k)→Mod (fun k=>blk P=some k) u' w2→K w2 p' (keep.length+1) c')→
    ∀n20 w21,New (.cells #[.int .i64 (i:Int)] ty_int) u' n20 w21→∃w22,∃ (p':Option Addr) (n' c':Nat),(Builtin.append_ #[ty_sl_int,ty_sl_int] ty_sl_int #[.slice P keep.length C,.slice (some (Addr.mk n20 0 none)) 1 1]).run prog w21= .ok (.slice p' n' c') w22∧K w22 p' n' c':=by
    intro u' T' H2 P' o' f' K hk n20 w21 h20
    have P21:=P'.grow h20.mod
    refine (o'.grow h20.mod).app1 sl_int (i:Int) h20.has rfl rfl oneInt (by omega) fun w2 p' c' o2 m2 hp2 hs2=> ?_
    refine hk w2 p' c' (P21.side m2 fun k hk=>f' k hk) o2 (fun k hk9=> ?_) ((h20.mod.mono fun _ _ e=>e.elim).trans m2)
    rcases hp2 with hp2|hp2
    · rw [hp2] at hk9;exact f' k hk9
    · rw [hp2] at hk9
      have:=blk_some hk9
      refine ⟨by have:=P21.mod.size;omega,fun x e=> ?_⟩
      have:=P21.pm.lt x k e;omega
   have hsame:keep++ [(i:Int)]++L.drop (v+1)=keep++L.drop v:=by rw [hdrop,ei];simp
   refine cnd_i (fun r2=> ?_) (fun r2=> ?_)
   · have r2:0≤B:=by simpa using r2
     refine ⟨_,cell_of hn1 rfl,_,rfl,_,_,_,cell_add hT.st rfl,?_⟩
     rw [hlo]
     refine hlook Pu fun a18 hc18=> ⟨_,hc18,?_⟩
     rw [ei]
     refine app Pu ok fr fun w22 p' c' P22 o22 f22 _=> ?_
     refine ⟨_,?_,v+1,T,H',keep++ [(i:Int)],wN (by omega) (by omega),r,rfl,by simp,P22,o22,f22,tlo,hlo,by simp;omega,by rw [hsame];exact gV,xT,dT,?_⟩
     · omega
     · rcases hB with ⟨e,_⟩|hB
       · omega
       · exact .inr hB
   · have r2: ¬0≤B:=by simpa using r2
     have hB:B= -1∧∀c∈keep,∃i:Nat,c=i∧∃x∈T.R (.a i),x∈T.R .tr:=by
      rcases hB with h| ⟨i,e,_⟩
      · exact h
      · omega
     have kT:Wf T:=by
      have:=gV.wf
      have e:T=(T.set .lo (keep++L.drop v)).set .lo (T.R .lo):=by rw [set_set,set_self']
      rw [e]
      exact this.set (by simp) (by simp) (by simp) (by simp) (by simp) _
     have hlT:T.R (.l i)=(T.set .lo (keep++L.drop v)).R (.l i):=(set_ne (by simp)).symm
     have evV: ∀x,(T.set .lo (keep++L.drop v)).val x=T.val x:=fun x=>val_eq (set_ne (by simp)) x
     have hv: ∀x∈T.R (.l i),InV T.vars x:=fun x hx=>gV.cv i hth x (by rw [← hlT];exact hx)
     have hl4:(T.R (.l i)).length≤4096:=by rw [hlT];exact gV.cl i hth
     have hca: ∀x,x∈T.R (.l i)↔x∈T.R (.a i):=fun x=>by
      have:=gV.ca i hth x
      rw [set_ne (by simp),set_ne (by simp)] at this
      exact this
     have hw: ∀j,(T.R (.w j)).length≤262144:=fun j=>by have:=gV.wl j;rw [set_ne (by simp)] at this;exact this
     refine ⟨_,cell_of hn1 rfl,_,rfl,_,_,_,cell_add hT.st rfl,hT.cIx hiT rfl rfl fun a27 hc27=> ⟨_,_,_,hc27.get 1 _ rfl,?_⟩⟩
     refine (clone_ok (hT.row (.l i) rfl).vw (hT.len _ rfl) (by rw [hT.len _ rfl];omega)).mono ?_
     rintro e w29 ⟨q30,d30,rfl,o30,g29,f30⟩
     have P29:=Pu.grow g29
     have hn29:=hn1.grow g29
     have nq: ∀k,blk q30=some k→w1.heap.size≤k∧(∀x,own b H' x≠some k)∧k≠n1∧blk P≠some k:=fun k hk=>by
      have:=f30 k hk
      have g0:=Pu.mod.size
      refine ⟨by omega,fun x e=> ?_,fun e=> ?_,fun e=> ?_⟩
      · have:=hT.lt x k e;omega
      · omega
      · have:=ok.lt k e;omega
     refine ⟨_,_,_,rfl,(delete_ok o30 rfl (by omega) false1_ent (fun x=>decide (T.val x<0)) fun x hx w' m=> ?_).mono ?_⟩
     · rw [args2w]
       exact false1 (P29.pm.keep m fun x k hk hs=> (nq k hs).2.1 x hk) kT (hn29.keep m fun hs=> (nq n1 hs).2.2.1 rfl) (hv x hx)
     rintro e w31 ⟨rfl,o31,m31⟩
     have P31:=P29.side m31 fun k hs=> ⟨(nq k hs).1,(nq k hs).2.1⟩
     have h31:=P31.pm
     have hn31:Has w31 n1 #[ptrV b]:=hn29.keep m31 fun hs=> (nq n1 hs).2.2.1 rfl
     have ok31:OwI ty_int w31 P C keep:=(ok.grow g29).keep m31 fun k hk hs=> (nq k hs).2.2.2 hk
     generalize hF:(T.R (.l i)).filter (fun x=> !decide (T.val x<0))=F at*
     have hFm: ∀x,x∈F↔x∈T.R (.l i)∧0≤T.val x:=fun x=>by
      rw [← hF,List.mem_filter]
      simp
     refine ⟨_,_,_,rfl,cnd_i (fun r3=> ?_) (fun r3=> ?_)⟩
     · have r3:2≤F.length:=by simp at r3;omega
       refine ⟨_,cell_of hn31 rfl,(unwatch_ok h31 kT.vmax hiT hv (by omega) (fun j=>by have:=hw j;omega)).mono ?_⟩
       rintro e w34 ⟨rfl,H34,P34,kh34⟩
       have h34:=P34.pm
       have eRl:(unF i T ((T.R (.l i)).take 2)).R (.l i)=T.R (.l i):=unF_R _ (by simp) _ _
       have eva:(unF i T ((T.R (.l i)).take 2)).R .va=T.R .va:=unF_R _ (by simp) _ _
       have ele:(unF i T ((T.R (.l i)).take 2)).R .le=T.R .le:=unF_R _ (by simp) _ _
       obtain ⟨u1,u2,u3,u4⟩:=unF_vars i ((T.R (.l i)).take 2) T
       have kU:Wf (unF i T ((T.R (.l i)).take 2)):=⟨by rw [u1];exact kT.vmax,by rw [eva,u1];exact kT.va,by rw [eva];exact kT.vb,by rw [ele,u1];exact kT.le,by rw [unF_R _ (by simp),u1];exact kT.re,by rw [unF_R _ (by simp)];exact kT.be,by rw [unF_R _ (by simp)];exact kT.tr,by rw [u2];exact kT.nc⟩
       have hn34:Has w34 n1 #[ptrV b]:=hn31.keep P34.mod fun ⟨x,e⟩=>nn1 x e
       refine ⟨rfl,_,cell_of hn34 rfl,(again_ok h34 kU (by rw [u2];exact hiT) (by rw [eRl,u1];exact hv) (by rw [eRl];omega) (fun j=>by have:=unF_len i j ((T.R (.l i)).take 2) T;have:=hw j;omega) (by rw [unF_R _ (by simp),tlo];omega) ?_ ?_).mono ?_⟩
       · rw [eRl]
         intro x hx hvx
         rw [val_eq eva] at hvx
         have:=gV.levb (x:=x) (hv x hx) (by rw [evV];exact hvx)
         unfold PSt.lev at this ⊢
         rw [ele];rw [set_ne (by simp)] at this;exact this
       · rw [eRl]
         have:(fun x=> !decide ((unF i T ((T.R (.l i)).take 2)).val x<0))=fun x=> !decide (T.val x<0):=by funext x;rw [val_eq eva]
         rw [this,hF];exact r3
       rintro e w36 ⟨rfl,l',H36,hb,pm,b1,b2,b3,P36,kh36⟩
       rw [eRl] at pm
       rw [val_eq eva] at b2 b3
       have PP:=(P31.trans P34).trans P36
       have kk:KeepW H' H36:=kh34.trans kh36
       have fr36: ∀k,blk P=some k→w1.heap.size≤k∧∀x,own b H36 x≠some k:=fun k hk=>by
        have:=fr k hk
        refine ⟨this.1,fun x e=> ?_⟩
        rcases (P34.trans P36).ft x k e with ⟨y,e2⟩|e2
        · exact this.2 y e2
        · have:=ok31.lt k hk;omega
       have ok36:OwI ty_int w36 P C keep:=ok31.keep (P34.trans P36).mod fun k hk ⟨x,e⟩=> (fr k hk).2 x e
       have gA:=again_good gV hth (keep:=keep) (rest:=L.drop (v+1)) (by rw [set_eq,hdrop,ei]) (l':=l') (by rw [← hlT];exact pm) b1 (by rw [evV];exact b3) (by rw [evV];exact b2)
       rw [← hlT,unF_lo,set_comm (x:= .lo) (y:= .l i) (by simp),wF_lo,set_set] at gA
       refine ⟨rfl,_,?_,v+1,_,H36,keep,wN (by omega) (by omega),r,rfl,rfl,PP,ok36,fr36,by rw [wF_R _ (by simp),set_ne (by simp),unF_R _ (by simp)];exact tlo,by rw [kk _ (by simp)];exact hlo,by omega,gA,?_,?_,.inl ⟨hB.1,fun c hc=> ?_⟩⟩
       · omega
       · exact xT.trans (Ext.unF.trans ((Ext.set (by simp) (by simp) (by simp) (by simp)).trans Ext.wF))
       · rw [(wF_vars i _ _).2.2.2];exact u4.trans dT
       · obtain ⟨k,e,x,hx,hxt⟩:=hB.2 c hc
         refine ⟨k,e,x,by rw [wF_R _ (by simp),set_ne (by simp),unF_R _ (by simp)];exact hx,by rw [wF_R _ (by simp),set_ne (by simp),unF_R _ (by simp)];exact hxt⟩
     · have r3:F.length≤1:=by simp at r3;omega
       refine app P31 ok31 fr fun w39 p' c' P39 o39 f39 m39=> ?_
       have h39:=P39.pm
       have hn39:Has w39 n1 #[ptrV b]:=h1.has.keep P39.mod fun ⟨x,e⟩=>hnot x e
       have o40:OwI ty_int w39 q30 d30 F:=o31.keep m39 fun k hk hs=> (nq k hk).2.2.2 hs
       have etV:(T.set .lo (keep++L.drop v)).R .tr=T.R .tr:=set_ne (by simp)
       refine cnd_i (fun r4=> ?_) (fun r4=> ?_)
       · have r4:F= []:=by simpa using r4
         refine ⟨_,?_,v+1,T,H',keep++ [(i:Int)],wN (by omega) (by omega),r,rfl,by simp,P39,o39,f39,tlo,hlo,by simp;omega,by rw [hsame];exact gV,xT,dT,.inr ⟨i,rfl,hth,fun x hx=> ?_⟩⟩
         · omega
         · have hxl:=(hca x).2 hx
           have hn: ¬0≤T.val x:=fun h0=>by
            have:=(hFm x).2 ⟨hxl,h0⟩
            rw [r4] at this;simp at this
           rw [← etV]
           exact (gV.vlt (x:=x) (hv x hxl)).1 (by rw [evV];omega)
       · have r4:0<F.length:=by
          rcases Nat.eq_zero_or_pos F.length with e|e
          · rw [e] at r4;simp at r4
          · exact e
         have hone: ∀x∈F,x=F.getD 0 0:=fun x hx=>by
          match F,r3,r4,hx with
          | [a],_,_,hx=>simpa using hx
         have hF0:=(hFm (F.getD 0 0)).1 (getD_mem' r4)
         generalize hX0:F.getD 0 0=X at*
         refine ⟨_,cell_of hn39.drew rfl,o40.drew.ix 0 (by omega) rfl (by omega) fun a42 hc42=> ⟨_,hc42,?_⟩⟩
         rw [Int.toNat_zero,hX0]
         have P40:=P39.drew
         refine (val_ok P40.pm kT (hv _ hF0.1)).mono ?_
         rintro e w44 ⟨rfl,rfl⟩
         have sat1: ∀ {T':PSt},Ext T T'→∀c∈keep,∃i:Nat,c=i∧∃x∈T'.R (.a i),x∈T'.R .tr:=fun e c hc=>by
          obtain ⟨k,e1,x,hx,hxt⟩:=hB.2 c hc
          exact ⟨k,e1,x,by rw [e.a];exact hx,e.mem hxt⟩
         refine ⟨_,rfl,cnd_i (fun r5=> ?_) (fun r5=> ?_)⟩
         · have r5:T.val X=0:=by simpa using r5
           refine ⟨_,cell_of hn39.drew.drew rfl,o40.drew.drew.ix 0 (by omega) rfl (by omega) fun a47 hc47=> ⟨_,hc47,?_⟩⟩
           rw [Int.toNat_zero,hX0]
           have P41:=P40.drew
           refine (put_ok P41.pm kT (hv _ hF0.1) (i:Int)).mono ?_
           rintro e w49 ⟨rfl,q,P49⟩
           have gP:=put_good (t:=T.set .lo (keep++L.drop v)) gV (hv X hF0.1) (by rw [evV];exact r5) (fun _ _ _=>rfl) rfl rfl rfl rfl (r:=(i:Int)) (.inl ⟨rfl,rfl,i,rfl,hth,by rw [← hlT];exact hF0.1,fun x hx hne=>by
            rw [← hlT] at hx
            have hn: ¬0≤T.val x:=fun h0=>hne (hone x ((hFm x).2 ⟨hx,h0⟩))
            exact (gV.vlt (x:=x) (hv x hx)).1 (by rw [evV];omega)⟩)
           rw [put_lo] at gP
           have xP:Ext T (T.put X (i:Int)):=Ext.put
           have e8:(T.put X (i:Int)).R .lo=T.R .lo:=put_R (by simp) (by simp) (by simp) (by simp)
           refine ⟨rfl,_,?_,v+1,_,updF H' .tr q,keep++ [(i:Int)],wN (by omega) (by omega),r,rfl,by simp,P41.trans P49,(o39.drew.drew).keep P49.mod fun k hk ⟨x,e⟩=> (f39 k hk).2 x e,fun k hk=> ⟨(f39 k hk).1,fun x e=> ?_⟩,
            by rw [e8];exact tlo,by rw [updF_ne (by simp)];exact hlo,by simp;omega,by rw [hsame];exact gP,xT.trans xP,dT,.inl ⟨hB.1,fun c hc=> ?_⟩⟩
           · omega
           · rcases P49.ft x k e with ⟨y,e2⟩|e2
             · exact (f39 k hk).2 y e2
             · have:=o39.lt k hk
               have:w39.drew.drew.heap.size=w39.heap.size:=rfl
               omega
           · rcases List.mem_append.1 hc with hc|hc
             · exact sat1 xP c hc
             · rw [List.mem_singleton] at hc
               refine ⟨i,hc,X,?_,?_⟩
               · rw [xP.a];exact (hca X).1 hF0.1
               · rw [put_tr];simp
         · have r5: ¬T.val X=0:=by simpa using r5
           have hXt:X∈T.R .tr:=by
            rw [← etV]
            exact (gV.vgt (x:=X) (hv X hF0.1)).1 (by rw [evV];have:=hF0.2;omega)
           refine ⟨_,?_,v+1,T,H',keep++ [(i:Int)],wN (by omega) (by omega),r,rfl,by simp,P40,o39.drew,f39,tlo,hlo,by simp;omega,by rw [hsame];exact gV,xT,dT,.inl ⟨hB.1,fun c hc=> ?_⟩⟩
           · omega
           · rcases List.mem_append.1 hc with hc|hc
             · exact sat1 (Ext.refl T) c hc
             · rw [List.mem_singleton] at hc
               exact ⟨i,hc,X,(hca X).1 hF0.1,hXt⟩
 · have r:v=L.length:=by rw [hN] at r;simp at r;omega
   subst r
   rw [List.drop_length,List.append_nil] at gV
   refine ⟨_,cell_of hn1 rfl,_,rfl,?_⟩
   refine hT.head (x:= .lo) rfl ok ⟨hT.st,hT.c,hT.wa,fun y hy _=>hT.row y hy⟩ (fun k hk=> .inr (fr k hk).2) rfl fun w3 h3 m3=> ?_
   have xL:Ext T (T.set .lo keep):=Ext.set (by simp) (by simp) (by simp) (by simp)
   have P0:=Pu.pre h1.mod
   refine ⟨_,rfl,_,_,⟨h3,P0.mod.then m3 fun k hk e=> ?_,fun x k hk=> ?_⟩,gV,xT.trans xL,dT,?_⟩
   · rcases P0.ft .st k (by rw [e];rfl) with h|h
     · exact h
     · omega
   · by_cases e:x= .lo
     · subst e
       rw [own_ne (by simp),updF_same] at hk
       have:=(fr k hk).1
       exact .inr (by omega)
     · refine P0.ft x k ?_
       cases x<;>first|exact hk| (simp only [own] at hk ⊢;rwa [updF_ne e] at hk)
   · rcases hB with ⟨e,h⟩| ⟨i,e,h⟩
     · refine .inl ⟨e,fun i hi hm=> ?_⟩
       rw [set_eq] at hm
       obtain ⟨k,e1,x,hx,hxt⟩:=h _ hm
       have:k=i:=by omega
       subst this
       exact ⟨x,by rw [set_ne (by simp)];exact hx,by rw [set_ne (by simp)];exact hxt⟩
     · exact .inr ⟨i,e,h.ext xL⟩
end
end Go.Proofs.YtbdghpjnifjlmaaGreat.W
namespace Go.Fw
open Go Go.RowKit
variable {P:Program} {α:Type} {f:α→Value} {T:TypeId} {w w':World} {p q q':Option Addr} {c:Nat} {l:List α}
theorem Ow.copyM {t ty e bytes:Nat} (hs:slOk P t e bytes=true) (h:Ow f e w p c l) {o m d k D:Nat} {news:List α} (h2:Vw f w q news) (hm:m=news.length) (hD:m≤D) (hq:0<m→q'=p.map (·.add (o*1))) (hfit:o+m≤l.length) (ho: ∀x,(f x).oneCell'=true) {K:Int→World→Prop}
 (hk: ∀w',Ow f e w' p c (l.take o++news++l.drop (o+m))→Mod (fun b=>blk p=some b) w w'→w'.heap.size=w.heap.size→K m w'):
 ∃w',∃r:Int,(Builtin.copy_ #[t,t] ty #[.slice q' D d,.slice q m k]).run P w= .ok (.int .i64 r) w'∧K r w':=by
 obtain ⟨ht,i,z,hi,hz,h1,hb,h3⟩:=slOk_spec hs
 have hsz:(P.info? e).map (·.size)=some 1:=by rw [hi];simp [h1]
 subst hm
 rcases Nat.eq_zero_or_pos news.length with h0|h0
 · have hn:news= []:=List.eq_nil_of_length_eq_zero h0
   subst hn
   refine ⟨w,0,run_copy_none w t t ty e _ _ _ _ _ _ ht hsz (by simp),?_⟩
   have:=hk w (by simpa using h) (Mod.refl w) rfl
   simpa using this
 · rw [hq h0]
   obtain ⟨a,rfl,_⟩:=h2 0 h0
   rcases h.un with ⟨rfl,rfl,rfl⟩| ⟨g,cur,rfl,hg,g1,g2,g3,g4⟩
   · rw [List.length_nil] at hfit;omega
   · have hr:=run_copy_row (P:=P) w t t ty e g o D d a news.length k cur e (news.map f) ht hsz hg (by rw [List.length_map];exact (Nat.min_eq_left hD).symm) (fun j v hj=>by
      have hj':j<news.length:=by have:=(List.getElem?_eq_some_iff.1 hj).1;simpa using this
      obtain ⟨a',ha,hc⟩:=h2 j hj'
      simp only [Option.some.injEq] at ha
      subst ha
      rw [hc]
      simpa [hj'] using hj) (by simp;omega) (fun u hu=>by obtain ⟨x,_,rfl⟩:=List.mem_map.1 hu;exact ho x)
     have hkk:=hk (w.setRow g (cur.toList.take o++news.map f++cur.toList.drop (o+ (news.map f).length)).toArray) (Ow.of_some (setRow_heap w g cur _ e _ hg) (by simp;omega) g2 ?_ ?_) ⟨rfl,rfl,rfl,by simp,fun k _ hk=>setRow_other w g k _ fun he=>hk (by simp [blk,he])⟩ (by simp [World.setRow])
     · refine ⟨_,((news.map f).length:Int),?_,by rw [List.length_map];exact hkk⟩
       simp only [Option.map_some,add_at,Nat.zero_add,Nat.mul_one]
       exact hr
     · simp;omega
     · have hl:(l.take o++news++l.drop (o+news.length)).length=l.length:=by simp;omega
       rw [hl,List.map_append,List.map_append,List.map_take,List.map_drop,← g4]
       have hc:cur.toList.length=c:=by simpa using g3
       apply List.ext_getElem?
       intro j
       simp only [List.length_map,List.getElem?_take,List.getElem?_append,List.length_append,List.length_take,List.getElem?_drop,hc]
       repeat' split
       all_goals first
        |rfl
        |omega
        | (congr 1;omega)
end Go.Fw
namespace Go.Proofs.YtbdghpjnifjlmaaGreat.W
open Go Go.Fw Go.RowKit Go.SoP Go.LiP
section
variable {w w' w0 w2 w3:World} {b:Nat} {H H' H2:Pt→Sl} {s t u s' T:PSt} {l x y:Int} {i:Nat}
def PSt.step (s:PSt):PSt:= {s with done:=s.done+1}
theorem step_good (g:Good s) (hd:s.done< (s.R .tr).length) (hp: ∀i,s.There i→Pg s i):Good s.step:=
 ⟨g.vmax,g.ncm,g.va,g.vb,g.le,g.rl,g.tv,g.nd,g.v1,g.bl,g.bs,g.dl,g.db,g.lv,g.re1,g.re2,hd,g.cv,g.cn,g.cl,g.ca,g.al,g.w1,g.w2,g.w3,g.o1,g.o2,g.o3,
   fun i hi h=>hp i hi h,g.wj⟩
theorem vis_set {m:List Int} {st br:Bool} {j:Nat} {r:List Int} (V:Vis s i m s' st br) (hm: ∀z∈m,0≤s.val z→sideN z≠j):Vis (s.set (.w j) r) i m (s'.set (.w j) r) st br:=by
 have ev: ∀x,(s.set (.w j) r).val x=s.val x:=fun x=>val_eq (set_ne (by simp)) x
 cases V with
 |sat h=>rw [set_comm (by simp)];exact .sat (by rw [ev];exact h)
 |broken h h2=>rw [set_comm (by simp)];exact .broken (by rw [ev];exact h) fun k a c=>by rw [ev];exact h2 k a c
 |unit h h2=>
  have e:((s.set (.l i) m).put (m.getD 0 0) i).set (.w j) r=((s.set (.w j) r).set (.l i) m).put (m.getD 0 0) i:=by
   rw [set_comm (x:= .w j) (y:= .l i) (by simp)]
   generalize s.set (.l i) m=q
   unfold PSt.put
   simp only [set_ne (s:=q) (x:= .w j) (l:=r) (y:= .va) (by simp),set_ne (s:=q) (x:= .w j) (l:=r) (y:= .le) (by simp),set_ne (s:=q) (x:= .w j) (l:=r) (y:= .re) (by simp),set_ne (s:=q) (x:= .w j) (l:=r) (y:= .be) (by simp),set_ne (s:=q) (x:= .w j) (l:=r) (y:= .tr) (by simp)]
   rw [set_comm (x:= .w j) (y:= .va) (by simp),set_comm (x:= .w j) (y:= .le) (by simp),set_comm (x:= .w j) (y:= .re) (by simp),set_comm (x:= .w j) (y:= .tr) (by simp)]
  rw [e]
  exact .unit (by rw [ev];exact h) fun k a c=>by rw [ev];exact h2 k a c
 |moved k h1 h2 h3 h4=>
  have hne:sideN (m.getD k 0)≠j:=hm _ (getD_mem' h3) h4
  have V:=Vis.moved (s:=s.set (.w j) r) (i:=i) (m:=m) k (by rw [ev];exact h1) h2 h3 (by rw [ev];exact h4)
  rw [set_ne (by simpa using hne),set_comm (x:= .w j) (y:= .l i) (by simp),set_comm (x:= .w j) (by simpa using Ne.symm hne)] at V
  exact V
def Closed (s:PSt):Prop:= ∀i,s.There i→(∃x∈s.R (.a i),x∈s.R .tr)∨∃x∈s.R (.a i),∃y∈s.R (.a i),x≠y∧s.val x=0∧s.val y=0
theorem closed_of (g:Good s) (hd:(s.R .tr).length≤s.done) (hl:Lsat s):Closed s:=by
 intro i hi
 by_cases hm:(i:Int)∈s.R .lo
 · exact .inl (hl i hi hm)
 · have h2:2≤(s.R (.l i)).length:=by
    rcases Nat.lt_or_ge (s.R (.l i)).length 2 with h|h
    · exact absurd (g.o2 i hi h) hm
    · exact h
   have hw:=g.wd i hi hm
   rw [W1,List.take_of_length_le hd] at hw
   have m0:(s.R (.l i)).getD 0 0∈(s.R (.l i)).take 2:=take2_mem.2 (.inl ⟨by omega,rfl⟩)
   have m1:(s.R (.l i)).getD 1 0∈(s.R (.l i)).take 2:=take2_mem.2 (.inr ⟨by omega,rfl⟩)
   have hne:(s.R (.l i)).getD 0 0≠(s.R (.l i)).getD 1 0:=fun e=>by
    have:=(List.getElem_inj (h₀:=show 0< (s.R (.l i)).length by omega) (h₁:=show 1< (s.R (.l i)).length by omega) (g.cn i hi)).1 (by
     have e0:(s.R (.l i)).getD 0 0=(s.R (.l i))[0]:=by simp [List.getD,show 0< (s.R (.l i)).length by omega]
     have e1:(s.R (.l i)).getD 1 0=(s.R (.l i))[1]:=by simp [List.getD,show 1< (s.R (.l i)).length by omega]
     rw [← e0,← e1,e])
    omega
   generalize (s.R (.l i)).getD 0 0=a at*
   generalize (s.R (.l i)).getD 1 0=c at*
   have la:=List.mem_of_mem_take m0
   have lc:=List.mem_of_mem_take m1
   have va:=g.cv i hi a la
   have vc:=g.cv i hi c lc
   have aa:=(g.ca i hi a).1 la
   have ac:=(g.ca i hi c).1 lc
   by_cases ta:a∈s.R .tr
   · exact .inl ⟨a,aa,ta⟩
   by_cases tc:c∈s.R .tr
   · exact .inl ⟨c,ac,tc⟩
   by_cases fa: -a∈s.R .tr
   · exact absurd (hw a m0 c m1 hne fa) tc
   by_cases fc: -c∈s.R .tr
   · exact absurd (hw c m1 a m0 (Ne.symm hne) fc) ta
   exact .inr ⟨a,aa,c,ac,hne,(g.v0 va).2 ⟨ta,fa⟩,(g.v0 vc).2 ⟨tc,fc⟩⟩
end
section
variable {w w' w0 w2 w3:World} {b:Nat} {H H' H2:Pt→Sl} {s t u s' T:PSt} {l x y:Int} {i:Nat}
theorem vis_row {m:List Int} {st br:Bool} {j:Nat} (V:Vis s i m s' st br) (hm: ∀z∈m,0≤s.val z→sideN z≠j):s'.R (.w j)=s.R (.w j):=by
 cases V with
 |sat h=>exact set_ne (by simp)
 |broken h h2=>exact set_ne (by simp)
 |unit h h2=>rw [put_R (by simp) (by simp) (by simp) (by simp),set_ne (by simp)]
 |moved k h1 h2 h3 h4=>rw [set_ne (by simpa using Ne.symm (hm _ (getD_mem' h3) h4)),set_ne (by simp)]
theorem drop_set_le {l:List Int} {k v:Nat} {x:Int} (h:k<v):(l.set k x).drop v=l.drop v:=by
 apply List.ext_getElem?
 intro j
 rw [List.getElem?_drop,List.getElem?_drop,List.getElem?_set,if_neg (by omega)]
theorem Pw.rowW (h:PM w2 b H t) {j:Nat} {w1:World} (m:Mod (fun k=>blk (H (.w j)).p=some k) w1 w2):Pw w1 w2 b H H t:=Pw.row h (x:= .w j) rfl m
theorem ep1 {p:Option Addr} {c:Nat}:(if c=0 then p else p.map (·.add (0*1)))=p:=by rw [ep0];split<;>rfl
theorem run_ok (h:PM w b H s) (g:Good s):Calls Tryz.prog prop_Prop_Run.id #[ptrV b] w fun e w'=> ∃r:Int,e= .returned (.int .i64 r)∧∃s' H',Pw w w' b H H' s'∧Good s'∧Ext s s'∧((r= -1∧Closed s')∨∃i:Nat,r=i∧Brk s' i):=by
 refine prop_Prop_Run.calls (cnd_f rfl ⟨_,rfl,_,_,_,cell_add h.st rfl,?_⟩)
 obtain ⟨av,hav⟩:=va_some h g.wf
 rw [hav]
 refine cnd_f rfl ((loosely_ok h g).mono ?_)
 rintro e w3 ⟨r4,rfl,s1,H1,P3,g1,x1,d1,hr⟩
 refine ⟨_,rfl,cnd_i (fun r=> ?_) fun r=> ?_⟩
 · have r:0≤r4:=by simpa using r
   refine ⟨r4,rfl,s1,H1,P3,g1,x1,.inr ?_⟩
   rcases hr with h|h
   · omega
   · exact h
 have r: ¬0≤r4:=by simpa using r
 have hl:Lsat s1:=by
  rcases hr with h| ⟨i,h,_⟩
  · exact h.2
  · omega
 refine ⟨fun u m=> ∃ (T:PSt) (H':Pt→Sl),m=T.vars - T.done∧Pw w u b H H' T∧Good T∧Ext s T∧Lsat T,⟨_,s1,H1,rfl,P3,g1,x1,hl⟩,?_⟩
 rintro w8 m _ ⟨T,H',rfl,P8,gT,xT,lT⟩
 have h8:=P8.pm
 refine ⟨_,rfl,_,cell_add h8.drew.st rfl,_,rfl,_,_,_,cell_add h8.drew.st rfl,?_⟩
 rw [h8.len .tr rfl]
 refine cnd_i (fun r=> ?_) (fun r=> ?_)
 · have hd:T.done< (T.R .tr).length:=by simpa using r
   have hD:=h8.drew.drew
   refine ⟨_,rfl,_,_,_,cell_add hD.st rfl,_,rfl,_,cell_add hD.st rfl,hD.rIx (x:= .tr) rfl (by omega) rfl (by omega) fun a17 _ hc17=> ⟨_,hc17,?_⟩⟩
   rw [Int.toNat_natCast]
   have hXm:(T.R .tr).getD T.done 0∈T.R .tr:=getD_mem' hd
   generalize hX:(T.R .tr).getD T.done 0=X at*
   have hXv:=gT.tv X hXm
   have hXb:=hXv.bd gT.vmax
   have ef:IntKind.i64.wrap (0 - X)= -X:=by rw [wrap64_of (by omega) (by omega)];omega
   try dsimp only
   rw [ef]
   have hfv:=hXv.neg
   have hfb:=hfv.bd gT.vmax
   obtain ⟨f,hf⟩: ∃f,f= -X:=⟨_,rfl⟩
   rw [← hf] at hfv hfb ⊢
   have hXf:X= -f:=by omega
   have hsl:=sideN_lt hfv
   refine ⟨(·=w8.drew.drew.drew),rfl,_,rfl,_,_,_,atW_eq (cell_add hD.drew.st rfl),(side_ok hfb _).mono ?_⟩
   rintro e w22 ⟨rfl,rfl⟩
   have P22:=((P8.drew).drew).drew
   have h22:=P22.pm
   refine ⟨_,rfl,rfl,h22.wIx hsl rfl rfl fun a24 _ hc24=> ⟨_,_,_,atW_eq hc24,?_⟩⟩
   have hNn:=h22.len (.w (sideN f)) rfl
   have hcap:(T.R (.w (sideN f))).length≤(H' (.w (sideN f))).c:=by
    rcases (h22.row (.w (sideN f)) rfl).un with ⟨_,_,e2⟩| ⟨_,_,_,_,e,_⟩
    · rw [e2];exact Nat.zero_le _
    · exact e
   have hNb:=gT.wl (sideN f)
   generalize hrow:T.R (.w (sideN f))=row at*
   refine ⟨fun KP V u m=> ∃ (kp v:Nat) (T2:PSt) (H2:Pt→Sl) (kept cur:List Int),KP=kp∧V=v∧v≤row.length∧kp≤v∧m=row.length - v∧kept.length=kp∧cur.length=row.length∧cur.take kp=kept∧cur.drop v=row.drop v∧
    T2.R (.w (sideN f))=cur∧H2 (.w (sideN f))=H' (.w (sideN f))∧Pw w u b H H2 T2∧Good (T2.set (.w (sideN f)) (kept++row.drop v))∧Ext T T2∧T2.done=T.done∧T2.R .lo=T.R .lo∧
    ∀k,T2.There k→(k:Int) ∉ row.drop v→Pg (T2.set (.w (sideN f)) (kept++row.drop v)) k,
    ⟨_,0,0,T,H',[],row,rfl,rfl,Nat.zero_le _,Nat.le_refl _,rfl,rfl,rfl,rfl,rfl,hrow,rfl,P22,?_,Ext.refl T,rfl,rfl,?_⟩,?_⟩
   · rw [List.nil_append,List.drop_zero,← hrow,set_self'];exact gT
   · rw [List.nil_append,List.drop_zero,← hrow,set_self']
     intro k hk hnm hlo x hx y hy hne hm
     rcases (mem_take_succ' hd).1 hm with hm|hm
     · exact gT.wd k hk hlo x hx y hy hne hm
     · rw [hX] at hm
       have:x=f:=by omega
       rw [this] at hx
       exact absurd (gT.w2 k hk f hx) hnm
   rintro KP V u m _ ⟨kp,v,T2,H2,kept,cur,rfl,rfl,hv,hkv,rfl,hkl,hcl,htk,hdk,hTc,hH2,Pu,gV,x2,d2,lo2,pg⟩
   have hu:=Pu.pm
   have hd2:T2.done< (T2.R .tr).length:=by
    rw [d2];obtain ⟨e,he⟩:=x2.tr;rw [he,List.length_append];omega
   have hp2:(T2.R .tr).getD T2.done 0= -f:=by
    rw [d2];obtain ⟨e,he⟩:=x2.tr;rw [he,getD_append_lt hd,hX,hXf]
   have hv2:T2.vars=T.vars:=x2.v
   refine cnd_i (fun r2=> ?_) (fun r2=> ?_)
   · have rv:v<row.length:=by rw [hNn] at r2;simpa using r2
     clear r2
     have hdrop:row.drop v=row.getD v 0::row.drop (v+1):=by
      rw [List.drop_eq_getElem_cons rv]
      simp [List.getD,rv]
     have hcv:cur.getD v 0=row.getD v 0:=by
      have e1:(cur.drop v).getD 0 0=cur.getD v 0:=by simp [List.getD]
      have e2:(row.drop v).getD 0 0=row.getD v 0:=by simp [List.getD]
      rw [← e1,hdk,e2]
     have hcd:cur.drop (v+1)=row.drop (v+1):=by
      have e1:(cur.drop v).drop 1=cur.drop (v+1):=by rw [List.drop_drop]
      have e2:(row.drop v).drop 1=row.drop (v+1):=by rw [List.drop_drop]
      rw [← e1,hdk,e2]
     rw [← hH2]
     refine hu.rIx (x:= .w (sideN f)) rfl (by omega) rfl (by rw [hTc];omega) fun a32 _ hc32=> ⟨_,hc32,?_⟩
     rw [hTc,Int.toNat_natCast,hcv]
     generalize hc:row.getD v 0=c at*
     obtain ⟨i,rfl,hth,z,hz,hsz⟩:=gV.w1 (sideN f) c (by rw [set_eq,hdrop];simp)
     have:=sideN_inj hsz
     subst this
     rw [set_ne (by simp)] at hz
     have hth:T2.There i:=hth
     have eRl:(T2.set (.w (sideN z)) (kept++row.drop v)).R (.l i)=T2.R (.l i):=set_ne (by simp)
     have hlin: ∀x∈T2.R (.l i),InV T2.vars x:=fun x hx=>gV.cv i hth x (by rw [eRl];exact hx)
     have hl4:(T2.R (.l i)).length≤4096:=by have:=gV.cl i hth;rw [eRl] at this;exact this
     have kT:Wf T2:=by
      have:=gV.wf
      have e:T2=(T2.set (.w (sideN z)) (kept++row.drop v)).set (.w (sideN z)) (T2.R (.w (sideN z))):=by rw [set_set,set_self']
      rw [e]
      exact this.set (by simp) (by simp) (by simp) (by simp) (by simp) _
     have hw: ∀j,(T2.R (.w j)).length≤262144:=fun j=>by
      by_cases e:j=sideN z
      · rw [e,hTc];omega
      · have:=gV.wl j;rw [set_ne (by simpa using e)] at this;exact this
     have keepIt: ∀ {u':World} {T':PSt} {H3:Pt→Sl},Pw w u' b H H3 T'→T'.R (.w (sideN z))=cur→H3 (.w (sideN z))=H2 (.w (sideN z))→∀ {K:World→Prop},
      (∀w3,Pw w w3 b H H3 (T'.set (.w (sideN z)) (cur.set kp (i:Int)))→K w3)→ixK (H2 (.w (sideN z))).p (H2 (.w (sideN z))).n (kp:Int) 1 fun a=> ∃w3,StoreAt a 0 [.int .i64 (i:Int)] u' w3∧K w3:=by
      intro u' T' H3 P e1 e2 K hk
      rw [← e2]
      refine P.pm.rSt (x:= .w (sideN z)) rfl (by omega) rfl (by rw [e1];omega) (y:=(i:Int)) rfl rfl fun w3 h3 m3=>hk w3 ?_
      rw [e1,Int.toNat_natCast] at h3
      exact P.trans (Pw.rowW h3 m3)
     have etk:(cur.set kp (i:Int)).take (kp+1)=kept++ [(i:Int)]:=by rw [take_set_succ (by omega),htk]
     have edk:(cur.set kp (i:Int)).drop (v+1)=row.drop (v+1):=by rw [drop_set_le (by omega),hcd]
     have eli:kept++ [(i:Int)]++row.drop (v+1)=kept++row.drop v:=by rw [hdrop];simp
     have eN:(H2 (.l i)).n=(T2.R (.l i)).length:=hu.len (.l i) rfl
     refine ⟨_,rfl,_,_,_,cell_add hu.st rfl,hu.cIx hth.1 rfl rfl fun a36 hc36=> ⟨_,_,_,hc36.get 1 _ rfl,?_⟩⟩
     rw [eN]
     refine cnd_i (fun r3=> ?_) (fun r3=> ?_)
     · have r3':((T2.R (.l i)).length:Int)<2:=by simpa using r3
       have r3:(T2.R (.l i)).length<2:=by omega
       refine keepIt Pu hTc rfl fun w39 P39=> ?_
       refine ⟨_,?_,kp+1,v+1,_,H2,kept++ [(i:Int)],cur.set kp (i:Int),wN (by omega) (by omega),wN (by omega) (by omega),rv,by omega,rfl,by simp [hkl],by simp [hcl],etk,edk,set_eq,rfl,P39,by rw [set_set,eli];exact gV,
        x2.trans (Ext.set (by simp) (by simp) (by simp) (by simp)),d2,by rw [set_ne (by simp)];exact lo2,fun k hk hnm=> ?_⟩
       · omega
       · rw [set_set,eli]
         by_cases e:k=i
         · subst e
           intro hlo
           exact absurd (gV.o2 k hk (by rw [eRl];exact r3)) hlo
         · refine pg k hk fun hm=> ?_
           rw [hdrop] at hm
           rcases List.mem_cons.1 hm with h|h
           · omega
           · exact hnm h
     · have r3:2≤(T2.R (.l i)).length:=by simp at r3;omega
       refine (visit_ok hu kT hth.1 hlin (by omega) (fun j=>by have:=hw j;omega) r3 z).mono ?_
       rintro e w40 ⟨st,br,rfl,s',H3,V3,P40,kv⟩
       have vz: ∀y,InV T2.vars y→0≤T2.val y→sideN y≠sideN z:=fun y _ hy e=>by
        rw [sideN_inj e] at hy
        have h1:(T2.set (.w (sideN z)) (kept++row.drop v)).val z<0:=(gV.vlt (by rw [show (T2.set (.w (sideN z)) (kept++row.drop v)).vars=T.vars from hv2];exact hfv)).2 (by
         rw [set_ne (by simp),← hp2];exact getD_mem' hd2)
        rw [val_eq (s:=T2) (set_ne (by simp))] at h1
        omega
       have vm: ∀y∈front (T2.R (.l i)) z,0≤T2.val y→sideN y≠sideN z:=fun y hy h0=>vz y (hlin y ((front_perm _ _).mem_iff.1 hy)) h0
       have eH3:H3 (.w (sideN z))=H2 (.w (sideN z)):=kv _ (by simp) fun y hy h0 e=>vz y hy h0 (by injection e with e;exact e.symm)
       have eRow:s'.R (.w (sideN z))=cur:=(vis_row V3 vm).trans hTc
       have V4:=vis_set (r:=kept++row.drop v) V3 vm
       rw [← eRl] at V4
       have hp4:((T2.set (.w (sideN z)) (kept++row.drop v)).R .tr).getD (T2.set (.w (sideN z)) (kept++row.drop v)).done 0= -z:=by rw [set_ne (by simp)];exact hp2
       have hd4:(T2.set (.w (sideN z)) (kept++row.drop v)).done< ((T2.set (.w (sideN z)) (kept++row.drop v)).R .tr).length:=by rw [set_ne (by simp)];exact hd2
       have P40':=Pu.trans P40
       have h40:=P40'.pm
       cases st with
       |true=>
        obtain ⟨G5,p5,q5,x5,b5,l5,d5,_⟩:=visit_good gV hth (by rw [eRl];exact r3) (by rw [eRl];exact hz) hd4 hp4 V4 (r:=kept++row.drop v) (fun _=>by rw [set_eq]) (fun h=>by cases h)
        rw [set_set] at G5 p5 q5 x5
        have x6:Ext T s':=x2.trans ((Ext.set (x:= .w (sideN z)) (by simp) (by simp) (by simp) (by simp)).trans (x5.trans (by
         have:=Ext.set (s:=s'.set (.w (sideN z)) (kept++row.drop v)) (x:= .w (sideN z)) (by simp) (by simp) (by simp) (by simp) (l:=s'.R (.w (sideN z)))
         rw [set_set,set_self'] at this
         exact this)))
        have dn6:s'.done=T.done:=d5.trans d2
        have lo6:s'.R .lo=T.R .lo:=by
         rw [set_ne (by simp),set_ne (by simp)] at l5
         exact l5.trans lo2
        refine ⟨_,_,rfl,cnd_t rfl (keepIt P40' eRow eH3 fun w44 P44=> ?_)⟩
        cases br with
        |true=>
         refine cnd_t rfl ?_
         rw [hH2]
         have e1:IntKind.i64.wrap ((kp:Int)+1)=((kp+1:Nat):Int):=wN (by omega) (by omega)
         have e2:IntKind.i64.wrap ((v:Int)+1)=((v+1:Nat):Int):=wN (by omega) (by omega)
         rw [e1,e2,hNn]
         refine slK_i (kp+1) row.length (H' (.w (sideN z))).c rfl rfl rfl (Nat.le_refl _) hcap (by omega) ?_
         refine slK_i (v+1) row.length (H' (.w (sideN z))).c rfl rfl rfl (Nat.le_refl _) hcap (by omega) ?_
         have h44:=P44.pm.drew
         have o44:OwI ty_int w44.drew (H' (.w (sideN z))).p (H' (.w (sideN z))).c (cur.set kp (i:Int)):=by
          have:=h44.row (.w (sideN z)) rfl
          rw [set_eq,eH3,hH2] at this
          exact this
         have vw:Vw (Value.int .i64) w44.drew (if (H' (.w (sideN z))).c=v+1 then (H' (.w (sideN z))).p else (H' (.w (sideN z))).p.map (·.add ((v+1)*1))) (row.drop (v+1)):=by
          split
          · have:row.drop (v+1)= []:=List.drop_of_length_le (by omega)
            rw [this];exact Vw.nil
          · have:=o44.vw.part (i:=v+1) (m:=row.length - (v+1)) (by simp [hcl];omega)
            rw [edk,List.take_of_length_le (by simp)] at this
            exact this
         refine o44.copyM sl_int (o:=kp+1) vw (by simp) (by omega) (fun h=> ?_) (by simp [hcl];omega) oneInt fun w47 o47 m47 z47=> ?_
         · rw [if_neg (by omega)]
         have hlen47:(cur.set kp (i:Int)).take (kp+1)++row.drop (v+1)=kept++row.drop v:=by rw [etk,eli]
         rw [hlen47] at o47
         have h47:=h44.but (x:= .w (sideN z)) rfl (w':=w47.drew) (m47.trans (Mod.refl _).drew|>.mono fun k _ e=>by rw [eH3,hH2];exact e)
         have h44s:=h44.st
         have hstc: ¬blk (H' (.w (sideN z))).p=some b:=by
          have:=h44.other (x:= .w (sideN z)) (by simp) (y:= .st) (by simp) (k:=b) rfl
          rw [eH3,hH2] at this;exact this
         refine ⟨(·=w47.drew),rfl,_,rfl,_,_,_,atW_eq (cell_add h47.st rfl),(side_ok hfb _).mono ?_⟩
         rintro e w52 ⟨rfl,rfl⟩
         have e3:IntKind.i64.wrap (((kp+1:Nat):Int)+ ((row.length - (v+1):Nat):Int))=((kp+1+ (row.length - (v+1)):Nat):Int):=wN (by omega) (by omega)
         refine ⟨_,rfl,rfl,?_⟩
         rw [e3]
         refine slK_i 0 (kp+1+ (row.length - (v+1))) (H' (.w (sideN z))).c rfl rfl rfl (Nat.le_refl _) (by omega) (Nat.zero_le _) ?_
         rw [ep1,Nat.sub_zero,Nat.sub_zero]
         have o52:OwI ty_int w47.drew (H' (.w (sideN z))).p (H' (.w (sideN z))).c (kept++row.drop v):=by
          have:=o47.drew.take (k:=(kept++row.drop v).length) (by simp)
          rw [List.take_left'] at this
          · exact this
          · rfl
         have hln:kp+1+ (row.length - (v+1))=(kept++row.drop v).length:=by simp [hkl];omega
         refine h44.headW (i:=sideN z) (by show _<2* (s'.vars+1);rw [x6.v];exact hsl) o52 h47 (fun k hk=> .inl (by rw [eH3,hH2];exact hk)) hln h44.wn rfl fun w56 h56 m56=> ?_
         rw [set_set] at h56
         have P56:Pw w w56 b H _ (s'.set (.w (sideN z)) (kept++row.drop v)):=P44.drew.trans (Pw.head (x:= .w (sideN z)) (z:= .wa) (by simp) h56 (m47.trans (Mod.refl _).drew|>.mono fun k _ e=>by rw [eH3,hH2];exact e) m56 fun k hk=> .inl (by rw [eH3,hH2];exact hk))
         refine ⟨_,rfl,_,_,P56,G5,xT.trans (x6.trans (Ext.set (by simp) (by simp) (by simp) (by simp))),.inr ⟨i,rfl,x5.there.2 hth,fun x hx=> ?_⟩⟩
         have hb:=b5 rfl x (by
          rw [x5.a] at hx
          exact (gV.ca i hth x).2 hx)
         exact x5.mem hb
        |false=>
         refine cnd_f rfl ?_
         refine ⟨_,?_,kp+1,v+1,_,H3,kept++ [(i:Int)],cur.set kp (i:Int),wN (by omega) (by omega),wN (by omega) (by omega),rv,by omega,rfl,by simp [hkl],by simp [hcl],etk,edk,set_eq,eH3,P44,by rw [set_set,eli];exact G5,
          x6.trans (Ext.set (by simp) (by simp) (by simp) (by simp)),dn6,by rw [set_ne (by simp)];exact lo6,fun k hk hnm=> ?_⟩
         · omega
         · rw [set_set,eli]
           by_cases e:k=i
           · subst e;exact p5 rfl
           · refine q5 k e (pg k (x5.there.1 hk) fun hm=> ?_)
             rw [hdrop] at hm
             rcases List.mem_cons.1 hm with h|h
             · omega
             · exact hnm h
       |false=>
        have hbr:br=false:=by cases V3;rfl
        subst hbr
        have hnd:=gV.w3 (sideN z)
        rw [set_eq,hdrop] at hnd
        have hr2: ∀c,c∈kept++row.drop (v+1)↔c∈(T2.set (.w (sideN z)) (kept++row.drop v)).R (.w (sideN z))∧c≠(i:Int):=fun c=>by
         rw [set_eq,hdrop,List.mem_append,List.mem_append,List.mem_cons]
         have h1:=List.nodup_append.1 hnd
         have h2:=List.nodup_cons.1 h1.2.1
         constructor
         · rintro (h|h)
           · exact ⟨.inl h,fun e=>h1.2.2 c h (i:Int) (by simp) e⟩
           · exact ⟨.inr (.inr h),fun e=>h2.1 (e▸h)⟩
         · rintro ⟨h|h|h,hne⟩
           · exact .inl h
           · exact absurd h hne
           · exact .inr h
        have hsub:(kept++row.drop (v+1)).Sublist (kept++ (i:Int)::row.drop (v+1)):=List.Sublist.append (List.Sublist.refl _) (List.sublist_cons_self _ _)
        obtain ⟨G5,p5,q5,x5,b5,l5,d5,_⟩:=visit_good gV hth (by rw [eRl];exact r3) (by rw [eRl];exact hz) hd4 hp4 V4 (r:=kept++row.drop (v+1)) (fun h=>by cases h) (fun _=> ⟨hr2,hsub.nodup hnd⟩)
        rw [set_set] at G5 p5 q5 x5
        have x6:Ext T s':=x2.trans ((Ext.set (x:= .w (sideN z)) (by simp) (by simp) (by simp) (by simp)).trans (x5.trans (by
         have:=Ext.set (s:=s'.set (.w (sideN z)) (kept++row.drop (v+1))) (x:= .w (sideN z)) (by simp) (by simp) (by simp) (by simp) (l:=s'.R (.w (sideN z)))
         rw [set_set,set_self'] at this
         exact this)))
        have lo6:s'.R .lo=T.R .lo:=by
         rw [set_ne (by simp),set_ne (by simp)] at l5
         exact l5.trans lo2
        refine ⟨_,_,rfl,cnd_f rfl (cnd_f rfl ?_)⟩
        refine ⟨_,?_,kp,v+1,s',H3,kept,cur,rfl,wN (by omega) (by omega),rv,by omega,rfl,hkl,hcl,htk,hcd,eRow,eH3,P40',G5,x6,d5.trans d2,lo6,fun k hk hnm=> ?_⟩
        · omega
        · by_cases e:k=i
          · subst e;exact p5 rfl
          · refine q5 k e (pg k (x5.there.1 hk) fun hm=> ?_)
            rw [hdrop] at hm
            rcases List.mem_cons.1 hm with h|h
            · omega
            · exact hnm h
   · have r2:v=row.length:=by rw [hNn] at r2;simp at r2;omega
     subst r2
     rw [List.drop_length,List.append_nil] at gV
     have h31:=hu.drew
     refine ⟨(·=u.drew),rfl,_,rfl,_,_,_,atW_eq (cell_add h31.st rfl),(side_ok hfb _).mono ?_⟩
     rintro e w72 ⟨rfl,rfl⟩
     refine ⟨_,rfl,rfl,?_⟩
     rw [hNn]
     refine slK_i 0 kp (H' (.w (sideN f))).c rfl rfl rfl (Nat.le_refl _) (by omega) (Nat.zero_le _) ?_
     rw [ep1,Nat.sub_zero,Nat.sub_zero]
     have o72:OwI ty_int u.drew (H' (.w (sideN f))).p (H' (.w (sideN f))).c kept:=by
      have:=(h31.row (.w (sideN f)) rfl).take (k:=kp) (by rw [hTc];omega)
      rw [hTc,htk,hH2] at this
      exact this
     refine h31.headW (i:=sideN f) (by rw [hv2];exact hsl) o72 ⟨h31.st,h31.c,h31.wa,fun y hy _=>h31.row y hy⟩ (fun k hk=> .inl (by rw [hH2];exact hk)) hkl.symm h31.wn rfl fun w76 h76 m76=> ?_
     have P76:Pw w w76 b H _ (T2.set (.w (sideN f)) kept):=Pu.drew.trans (Pw.head (x:= .w (sideN f)) (z:= .wa) (by simp) h76 (Mod.refl _) m76 fun k hk=> .inl (by rw [hH2];exact hk))
     refine ⟨_,rfl,_,cell_add h76.st rfl,_,rfl,?_⟩
     have e1:IntKind.i64.wrap (((T2.set (.w (sideN f)) kept).done:Int)+1)=((T2.done+1:Nat):Int):=wN rfl (by have:=gT.trl;have:=gT.vmax;omega)
     refine h76.setDone (n:=T2.done+1) e1 fun w80 h80 m80=> ?_
     have gS:=step_good gV (by rw [set_ne (by simp)];exact hd2) fun k hk=>by
      have:=pg k hk (by rw [List.drop_length];simp)
      rw [List.drop_length,List.append_nil] at this
      exact this
     have xs1:Ext T2 (T2.set (.w (sideN f)) kept):=Ext.set (by simp) (by simp) (by simp) (by simp)
     have xS:Ext T (T2.set (.w (sideN f)) kept).step:=x2.trans ⟨xs1.v,xs1.n,xs1.g,xs1.a,xs1.be,xs1.ds,xs1.tr⟩
     refine ⟨_,?_,(T2.set (.w (sideN f)) kept).step,_,rfl,P76.trans ⟨h80,m80.mono fun k _ e=> ⟨.st,by rw [e];rfl⟩,fun x k hk=> .inl ⟨x,hk⟩⟩,gS,xT.trans xS,fun k hk hm=> ?_⟩
     · show T2.vars - (T2.done+1)<T.vars - T.done
       have:=gT.trl
       rw [hv2,d2];omega
     · have hm':(k:Int)∈T.R .lo:=by
        have e:(T2.set (.w (sideN f)) kept).step.R .lo=T2.R .lo:=set_ne (s:=T2) (x:= .w (sideN f)) (y:= .lo) (l:=kept) (by simp)
        rw [e,lo2] at hm;exact hm
       obtain ⟨x,hx,hxt⟩:=lT k (xS.there.1 hk) hm'
       exact ⟨x,by rw [xS.a];exact hx,xS.mem hxt⟩
 · have hd:(T.R .tr).length≤T.done:=by simp at r;omega
   exact ⟨_,rfl,T,H',P8.drew,gT,xT,.inl ⟨rfl,closed_of gT hd lT⟩⟩
end
end Go.Proofs.YtbdghpjnifjlmaaGreat.W
