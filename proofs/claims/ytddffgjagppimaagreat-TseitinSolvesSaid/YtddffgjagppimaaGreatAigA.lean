/- Layer 15: nodes in memory. -/
import Derived.Test.YtddffgjagppimaaGreatGenTs
import Derived.Test.YtddffgjagppimaaGreatLitA
import Derived.Test.YtddffgjagppimaaGreatFwEq
namespace Go.Proofs.YtddffgjagppimaaGreat.W.Rk
open Go Go.Fw Go.RowKit
abbrev gateV (x:Int × Int):List Value:= [.int .i64 x.1,.int .i64 x.2]
theorem gateE:Enc 2 gateV:=⟨fun _=>rfl,by decide,fun x v hv=>by simp [gateV] at hv;rcases hv with rfl|rfl<;>rfl⟩
theorem sl_int:slOk Tryz.prog ty_sl_int ty_int 8=true:=by kernel_rfl
theorem sl_sl_int:slOk Tryz.prog ty_sl_sl_int ty_sl_int 24=true:=by kernel_rfl
theorem int_zero:(Tryz.prog.info? ty_int).bind (·.zero)=some (.int .i64 0):=by kernel_rfl
abbrev ptr (b:Nat):Value:= .pointer (some ⟨b,0,none⟩)
theorem aigInput_ok (w:World):Calls Tryz.prog aig_input.id #[] w fun e w'=>e= .returned (.agg #[.int .i64 (-1),.int .i64 (-1)])∧Grow w w':=by
 refine aig_input.calls ?_
 intro n1 w2 h1
 have s1:=h1.num
 refine store_i h1.has rfl rfl fun w3 H m=> ⟨_,_,⟨cell_add H rfl,cell_add H rfl,trivial⟩,rfl,h1.mod.then m fun k hk (e:k=n1)=>by omega⟩
end Go.Proofs.YtddffgjagppimaaGreat.W.Rk
namespace Go.TsP
section
abbrev Gt:=Int × Int
def okG (i:Nat) (x:Gt):Bool:=decide (x=(-1,-1))||decide (0≤x.1∧0≤x.2∧x.1≤2*i+1∧x.2≤2*i+1)
def mayG (g:List Gt):Bool:=decide (g.length≤1048576) && (List.range g.length).all fun i=>okG i (g.getD i (0,0))
def isL (n:Nat) (l:Int):Bool:=decide (0≤l∧l≤2*n+1)
def mayC (n:Nat) (c:List Int):Bool:=c.all (isL n) && decide (c.length≤4096)
def mayT (g:List Gt) (cs:List (List Int)):Bool:=mayG g && cs.all (mayC g.length)
theorem mayG_at {g:List Gt} (h:mayG g=true) {i:Nat} (hi:i<g.length):okG i (g.getD i (0,0))=true:=by
 simp only [mayG,Bool.and_eq_true,List.all_eq_true,List.mem_range] at h
 exact h.2 i hi
theorem okG_and {i:Nat} {x:Gt} (h:okG i x=true) (h0:0≤x.1):0≤x.2∧x.1≤2*i+1∧x.2≤2*i+1:=by
 simp only [okG,Bool.or_eq_true,decide_eq_true_eq] at h
 rcases h with h|h
 · rw [h] at h0;simp at h0
 · exact ⟨h.2.1,h.2.2.1,h.2.2.2⟩
def hit (cs:List (List Int)) (n:Nat):Prop:= ∃c∈cs,∃l∈c,l.tdiv 2=(n:Int)
def kid (g:List Gt) (i n:Nat):Prop:=0≤(g.getD i (0,0)).1∧((g.getD i (0,0)).1.tdiv 2=n∨(g.getD i (0,0)).2.tdiv 2=n)
inductive H (g:List Gt) (cs:List (List Int)):Nat→Prop
 |hit {n:Nat}:hit cs n→H g cs n
 |kid {n i:Nat}:n≤i→i<g.length→kid g i n→H g cs (i+1)→H g cs n
theorem H.cases' {g:List Gt} {cs:List (List Int)} {n:Nat}:H g cs n↔TsP.hit cs n∨∃i,n≤i∧i<g.length∧TsP.kid g i n∧H g cs (i+1):=by
 constructor
 · intro h
   cases h with
   |hit h=>exact .inl h
   |kid h1 h2 h3 h4=>exact .inr ⟨_,h1,h2,h3,h4⟩
 · rintro (h| ⟨i,h1,h2,h3,h4⟩)
   · exact .hit h
   · exact .kid h1 h2 h3 h4
theorem kid_le {g:List Gt} (h:mayG g=true) {i n:Nat} (hi:i<g.length) (hk:kid g i n):n≤i:=by
 obtain ⟨h0,h1⟩:=hk
 have:=okG_and (mayG_at h hi) h0
 rw [Int.tdiv_eq_ediv_of_nonneg h0,Int.tdiv_eq_ediv_of_nonneg this.1] at h1
 omega
def cnt (P:Nat→Bool):Nat→Nat
 |0=>0
 |t+1=>cnt P t+ (if P (t+1) then 1 else 0)
def vs (P:Nat→Bool) (t:Nat):List Int:=(List.range t).map fun i=>if P (i+1) then (cnt P (i+1):Int) else 0
theorem vs_len (P:Nat→Bool) (t:Nat):(vs P t).length=t:=by simp [vs]
theorem vs_succ (P:Nat→Bool) (t:Nat):vs P (t+1)=vs P t++ [if P (t+1) then (cnt P (t+1):Int) else 0]:=by simp [vs,List.range_succ]
theorem vs_get (P:Nat→Bool) {t i:Nat} (h:i<t):(vs P t).getD i 0=if P (i+1) then (cnt P (i+1):Int) else 0:=by simp [vs,List.getD,h]
theorem cnt_succ (P:Nat→Bool) (t:Nat):cnt P (t+1)=cnt P t+ (if P (t+1) then 1 else 0):=rfl
theorem cnt_mono (P:Nat→Bool) {a b:Nat} (h:a≤b):cnt P a≤cnt P b:=by
 induction h with
 |refl=>exact Nat.le_refl _
 |step _ ih=>exact Nat.le_trans ih (Nat.le_add_right _ _)
theorem cnt_le (P:Nat→Bool): ∀t,cnt P t≤t
 |0=>Nat.le_refl _
 |t+1=>by have:=cnt_le P t;unfold cnt;split<;>omega
theorem cnt_pos (P:Nat→Bool) {t:Nat} (h:P (t+1)=true):0<cnt P (t+1):=by unfold cnt;rw [if_pos h];omega
def codeP (v:List Int) (l:Int):Int:=if l<2∨l.tdiv 2>v.length then 0 else if l.tmod 2=1 then - v.getD (l.tdiv 2 - 1).toNat 0 else v.getD (l.tdiv 2 - 1).toNat 0
def clP (v:List Int):List Int→Option (List Int)
 | []=>some []
 |l::c=>if l=1 then none else if l=0 then clP v c else (clP v c).map (codeP v l:: ·)
def flipL (l:Int):Int:=if l % 2=0 then l+1 else l - 1
def gcl (g:List Gt) (P:Nat→Bool) (i:Nat):List (List Int):=
 if P (i+1)=true∧0≤(g.getD i (0,0)).1 then [[2*i+3,(g.getD i (0,0)).1],[2*i+3,(g.getD i (0,0)).2],[2*i+2,flipL (g.getD i (0,0)).1,flipL (g.getD i (0,0)).2]] else []
def gcls (g:List Gt) (P:Nat→Bool) (t:Nat):List (List Int):=(List.range t).flatMap (gcl g P)
theorem gcls_succ (g:List Gt) (P:Nat→Bool) (t:Nat):gcls g P (t+1)=gcls g P t++gcl g P t:=by simp [gcls,List.range_succ]
def allC (g:List Gt) (cs:List (List Int)) (P:Nat→Bool):List (List Int):=gcls g P g.length++cs
def outC (v:List Int) (l:List (List Int)):List (List Int):=l.filterMap (clP v)
theorem outC_app (v:List Int) (l k:List (List Int)):outC v (l++k)=outC v l++outC v k:=by simp [outC]
theorem outC_one (v:List Int) (c:List Int):outC v [c]=(clP v c).toList:=by cases h:clP v c<;>simp [outC,h]
theorem clP_mem {v:List Int}: ∀ {c o:List Int},clP v c=some o→∀x∈o,∃l∈c,l≠0∧l≠1∧x=codeP v l
 | [],o,h,x,hx=>by simp [clP] at h;subst h;simp at hx
 |l::c,o,h,x,hx=>by
  simp only [clP] at h
  split at h
  · cases h
  · split at h
    · obtain ⟨k,hk,e⟩:=clP_mem h x hx
      exact ⟨k,List.mem_cons_of_mem _ hk,e⟩
    · rename_i h1 h0
      simp only [Option.map_eq_some_iff] at h
      obtain ⟨o',h',rfl⟩:=h
      rcases List.mem_cons.1 hx with rfl|hx
      · exact ⟨l,List.mem_cons_self,h0,h1,rfl⟩
      · obtain ⟨k,hk,e⟩:=clP_mem h' x hx
        exact ⟨k,List.mem_cons_of_mem _ hk,e⟩
theorem clP_len {v:List Int}: ∀ {c o:List Int},clP v c=some o→o.length≤c.length
 | [],o,h=>by simp [clP] at h;subst h;simp
 |l::c,o,h=>by
  simp only [clP] at h
  split at h
  · cases h
  · split at h
    · have:=clP_len h;simp;omega
    · simp only [Option.map_eq_some_iff] at h
      obtain ⟨o',h',rfl⟩:=h
      have:=clP_len h'
      simp;omega
theorem code_ok {P:Nat→Bool} {n:Nat} {l:Int} (h2:2≤l) (hn:l≤2*n+1) (hP:P (l.tdiv 2).toNat=true):codeP (vs P n) l≠0∧ -(cnt P n:Int)≤codeP (vs P n) l∧codeP (vs P n) l≤cnt P n:=by
 unfold codeP
 rw [vs_len,Int.tdiv_eq_ediv_of_nonneg (by omega)] at*
 have hi:(l / 2 - 1).toNat<n:=by omega
 rw [if_neg (by omega),vs_get P hi]
 have e:(l / 2 - 1).toNat+1=(l / 2).toNat:=by omega
 rw [e,hP]
 have h1:0<cnt P (l / 2).toNat:=by rw [← e];exact cnt_pos P (by rw [e];exact hP)
 have h3:cnt P (l / 2).toNat≤cnt P n:=cnt_mono P (by omega)
 split<;>simp only [if_true]<;>omega
end
section
theorem clP_take {v:List Int}: ∀ {c:List Int} {t:Nat} {o:List Int},t<c.length→clP v (c.take t)=some o→clP v (c.take (t+1))=if c.getD t 0=1 then none else if c.getD t 0=0 then some o else some (o++ [codeP v (c.getD t 0)])
 | [],t,o,h,_=>by simp at h
 |x::c,0,o,h,ho=>by
  simp [clP] at ho
  subst ho
  simp only [List.take_succ_cons,List.take_zero,clP,List.getD_cons_zero]
  split
  · rfl
  · split
    · rfl
    · rfl
 |x::c,t+1,o,h,ho=>by
  simp only [List.take_succ_cons,clP,List.getD_cons_succ] at ho ⊢
  split at ho
  · cases ho
  · rename_i h1
    rw [if_neg h1]
    split at ho
    · rename_i h0
      rw [if_pos h0]
      exact clP_take (by simpa using h) ho
    · rename_i h0
      rw [if_neg h0]
      simp only [Option.map_eq_some_iff] at ho
      obtain ⟨o',ho',rfl⟩:=ho
      rw [clP_take (by simpa using h) ho']
      split
      · rfl
      · split
        · rfl
        · rfl
theorem clP_one {v:List Int}: ∀ {c:List Int} {t:Nat},t<c.length→c.getD t 0=1→clP v c=none
 | [],t,h,_=>by simp at h
 |x::c,0,h,e=>by
  simp only [List.getD_cons_zero] at e
  simp [clP,e]
 |x::c,t+1,h,e=>by
  simp only [List.getD_cons_succ] at e
  have:=clP_one (v:=v) (by simpa using h) e
  simp only [clP,this]
  split
  · rfl
  · split<;>rfl
end
section
end
end Go.TsP
namespace Go.Proofs.YtddffgjagppimaaGreat.W.Rk
open Go Go.Fw Go.RowKit Go.TsP
open Go.Proofs.Tryz (prog)
open Go.IntKind (i64)
section
theorem gate_eq:structInts prog ty_api_Gate 2=true:=by kernel_rfl
theorem gIx {w:World} {p:Option Addr} {g:List (Int × Int)} (h:Vr 2 gateV w p g) {t n:Nat} (hn:n=g.length) (ht:t<g.length) {K:Addr→Prop} (hk: ∀a,w.cell? (a.add 0)=some (.int .i64 (g.getD t (0,0)).1)→w.cell? (a.add 1)=some (.int .i64 (g.getD t (0,0)).2)→K a):ixK p n (t:Int) 2 K:=
 h.ix (0,0) (by omega) hn (by omega) fun a e=>by
  rw [Int.toNat_natCast] at e
  exact hk a e.1 e.2.1
theorem all_range_succ {q:Nat→Bool} {t:Nat} (h:(List.range t).all q=true) (hq:q t=true):(List.range (t+1)).all q=true:=by
 rw [List.range_succ,List.all_append,h];simp [hq]
theorem all_take_succ {α:Type} {l:List α} {q:α→Bool} {t:Nat} {d:α} (ht:t<l.length) (h:(l.take t).all q=true) (hq:q (l.getD t d)=true):(l.take (t+1)).all q=true:=by
 rw [List.take_add_one,List.all_append,h]
 have:l[t]? =some (l.getD t d):=by simp [List.getD,ht]
 simp only [this,Option.toList_some,List.all_cons,List.all_nil,hq,Bool.and_true]
theorem all_false {α:Type} {l:List α} {q:α→Bool} {t:Nat} {d:α} (ht:t<l.length) (hq:q (l.getD t d)=false):l.all q=false:=by
 rw [← Bool.not_eq_true,List.all_eq_true]
 intro h
 rw [h _ (by simp [List.getD,ht])] at hq;cases hq
end
section
theorem aigCheck_ok {w:World} {p:Option Addr} {g:List (Int × Int)} {n c:Nat} (h:Vr 2 gateV w p g) (hn:n=g.length) (hm:n≤maxLen):
 Calls prog aig_Check.id #[.slice p n c] w fun e w'=>e= .returned (.int .i64 (if mayG g then 0 else 1))∧Grow w w':=by
 subst hn
 refine aig_Check.calls ?_
 refine cnd_i (fun q=> ⟨?_,Mod.refl w⟩) (fun q=> ?_)<;>simp only [decide_eq_true_eq,decide_eq_false_iff_not] at q
 · have:mayG g=false:=by unfold mayG;rw [decide_eq_false (by omega)];rfl
   rw [this];rfl
 · refine ⟨fun v w' k=> ∃t:Nat,v=t∧t≤g.length∧(List.range t).all (fun i=>okG i (g.getD i (0,0)))=true∧Grow w w'∧k+t=g.length,⟨_,0,rfl,Nat.zero_le _,rfl,Mod.refl w,rfl⟩,?_⟩
   rintro v w5 k _ ⟨t,rfl,ht,ha,G,hk⟩
   refine cnd_i (fun q2=> ?_) (fun q2=> ?_)<;>simp only [decide_eq_true_eq,decide_eq_false_iff_not] at q2
   · have ht':t<g.length:=by omega
     have no:okG t (g.getD t (0,0))=false→mayG g=false:=fun hf=>by
      cases hh:mayG g with
      |false=>rfl
      |true=>rw [mayG_at hh ht'] at hf;cases hf
     refine gIx (h.grow G) rfl ht' fun a6 x0 x1=> ⟨_,_,⟨x0,x1,trivial⟩,?_⟩
     intro n9 w10 h9
     refine store_i h9.has rfl rfl fun w11 h11 m11=> ?_
     have g11:Grow w5 w11:=h9.mod.fresh m11 (by have:=h9.num;omega)
     have e1:i64.wrap (2* (t:Int))=2*t:=wrap64_of (by omega) (by omega)
     have e2:i64.wrap (2* (t:Int)+1)=2*t+1:=wrap64_of (by omega) (by omega)
     rw [e1,e2]
     have next: ∀w',Grow w5 w'→okG t (g.getD t (0,0))=true→∃k3:Nat,k3<k∧∃t':Nat,i64.wrap ((t:Int)+1)=t'∧t'≤g.length∧(List.range t').all (fun i=>okG i (g.getD i (0,0)))=true∧Grow w w'∧k3+t'=g.length:=fun w' g1 hok=>
      ⟨k - 1,by omega,t+1,by rw [wrap64_of (by omega) (by omega)];omega,by omega,all_range_succ ha hok,G.trans g1,by omega⟩
     generalize g.getD t (0,0)=x at*
     obtain ⟨A,B⟩:=x
     have h11:Has w11 n9 #[.int .i64 A,.int .i64 B]:=h11
     have bad: ∀w',Grow w5 w'→okG t (A,B)=false→(Ending.returned (.int .i64 1)= .returned (.int .i64 (if mayG g=true then 0 else 1))∧Grow w w'):=fun w' g1 hf=>by
      rw [no hf];exact ⟨rfl,G.trans g1⟩
     have okg:okG t (A,B)=(([A,B]== [-1,-1])||decide (0≤A∧0≤B∧A≤2*t+1∧B≤2*t+1)):=by
      unfold okG
      congr 1
      rw [Bool.eq_iff_iff]
      simp
     have rest: ∀w',Grow w5 w'→Has w' n9 #[.int .i64 A,.int .i64 B]→cnd (!([A,B]== [-1,-1]))
      (∃x19,w'.cell? ((Addr.mk n9 0 none).add 0)=some (.int .i64 x19)∧
      cnd (decide (x19< (0:Int)))
      (Ending.returned (.int .i64 1)= .returned (.int .i64 (if mayG g=true then 0 else 1))∧Grow w w')
      (∃x20,w'.cell? ((Addr.mk n9 0 none).add 1)=some (.int .i64 x20)∧
      cnd (decide (x20< (0:Int)))
      (Ending.returned (.int .i64 1)= .returned (.int .i64 (if mayG g=true then 0 else 1))∧Grow w w')
      (∃x21,w'.cell? ((Addr.mk n9 0 none).add 0)=some (.int .i64 x21)∧
      cnd (decide (x21>2* (t:Int)+1))
      (Ending.returned (.int .i64 1)= .returned (.int .i64 (if mayG g=true then 0 else 1))∧Grow w w')
      (∃x22,w'.cell? ((Addr.mk n9 0 none).add 1)=some (.int .i64 x22)∧
      cnd (decide (x22>2* (t:Int)+1))
      (Ending.returned (.int .i64 1)= .returned (.int .i64 (if mayG g=true then 0 else 1))∧Grow w w')
      (∃k3:Nat,k3<k∧∃t':Nat,i64.wrap ((t:Int)+1)=t'∧t'≤g.length∧(List.range t').all (fun i=>okG i (g.getD i (0,0)))=true∧Grow w w'∧k3+t'=g.length)))))
      (∃k3:Nat,k3<k∧∃t':Nat,i64.wrap ((t:Int)+1)=t'∧t'≤g.length∧(List.range t').all (fun i=>okG i (g.getD i (0,0)))=true∧Grow w w'∧k3+t'=g.length):=by
      intro w' g1 H
      refine cnd_i (fun s=> ⟨_,cell_add H rfl,cnd_i (fun s1=>bad _ g1 ?_) (fun s1=> ⟨_,cell_add H rfl,cnd_i (fun s2=>bad _ g1 ?_) (fun s2=> ⟨_,cell_add H rfl,cnd_i (fun s3=>bad _ g1 ?_) (fun s3=> ⟨_,cell_add H rfl,cnd_i (fun s4=>bad _ g1 ?_) (fun s4=>next _ g1 ?_)⟩)⟩)⟩)⟩) (fun s=>next _ g1 ?_)<;>rw [okg]<;>simp only [Bool.not_eq_true',Bool.not_eq_false',decide_eq_true_eq,decide_eq_false_iff_not] at* <;>rw [s]
      · rw [decide_eq_false (by omega)];rfl
      · rw [decide_eq_false (by omega)];rfl
      · rw [decide_eq_false (by omega)];rfl
      · rw [decide_eq_false (by omega)];rfl
      · rw [decide_eq_true (by omega)];rfl
      · rfl
     refine ⟨?_,?_⟩
     · refine ⟨_,_,⟨cell_add h11.drew rfl,cell_add h11.drew rfl,trivial⟩,(aigInput_ok _).mono ?_⟩
       rintro e w14 ⟨rfl,g14⟩
       exact ⟨_,_,rfl,_,_,run_neq2 gate_eq _ _ _ _ _ _ _,rest _ (g11.drew.trans g14) (h11.drew.grow g14)⟩
     · refine (aigInput_ok _).mono ?_
       rintro e w14 ⟨rfl,g14⟩
       have h14:=h11.drew.grow g14
       exact ⟨_,_,rfl,_,_,⟨cell_add h14 rfl,cell_add h14 rfl,trivial⟩,_,_,run_neq2 gate_eq _ _ _ _ _ _ _,rest _ (g11.drew.trans g14) h14⟩
   · have:t=g.length:=by omega
     subst this
     have:mayG g=true:=by unfold mayG;rw [ha,decide_eq_true (by omega)];rfl
     rw [this]
     exact ⟨rfl,G⟩
end
section
theorem refMayG_ok {w:World} {p:Option Addr} {g:List (Int × Int)} {n c:Nat} (h:Vr 2 gateV w p g) (hn:n=g.length) (hm:n≤4194304):
 Calls prog fathomref15_May.id #[.slice p n c] w fun e w'=>e= .returned (.bool (mayG g))∧Grow w w':=by
 subst hn
 refine fathomref15_May.calls ?_
 refine ⟨fun v w' k=> ∃t:Nat,v=t∧t≤g.length∧(List.range t).all (fun i=>okG i (g.getD i (0,0)))=true∧w'=w∧k+t=g.length,⟨_,0,rfl,Nat.zero_le _,rfl,rfl,rfl⟩,?_⟩
 rintro v w5 k _ ⟨t,rfl,ht,ha,rfl,hk⟩
 refine cnd_i (fun q2=> ?_) (fun q2=> ?_)<;>simp only [decide_eq_true_eq,decide_eq_false_iff_not] at q2
 · have ht':t<g.length:=by omega
   have no:okG t (g.getD t (0,0))=false→mayG g=false:=fun hf=>by
    cases hh:mayG g with
    |false=>rfl
    |true=>rw [mayG_at hh ht'] at hf;cases hf
   have next:okG t (g.getD t (0,0))=true→∃k3:Nat,k3<k∧∃t':Nat,i64.wrap ((t:Int)+1)=t'∧t'≤g.length∧(List.range t').all (fun i=>okG i (g.getD i (0,0)))=true∧w5=w5∧k3+t'=g.length:=fun hok=>
    ⟨k - 1,by omega,t+1,by rw [wrap64_of (by omega) (by omega)];omega,by omega,all_range_succ ha hok,rfl,by omega⟩
   have e1:i64.wrap (2* (t:Int))=2*t:=wrap64_of (by omega) (by omega)
   have e2:i64.wrap (2* (t:Int)+1)=2*t+1:=wrap64_of (by omega) (by omega)
   rw [e1,e2]
   have ix: ∀ {K:Addr→Prop},(∀a,w5.cell? (a.add 0)=some (.int .i64 (g.getD t (0,0)).1)→w5.cell? (a.add 1)=some (.int .i64 (g.getD t (0,0)).2)→K a)→ixK p g.length (t:Int) 2 K:=fun hk=>gIx h rfl ht' hk
   have bad:okG t (g.getD t (0,0))=false→(Ending.returned (.bool false)= .returned (.bool (mayG g))∧Grow w5 w5):=fun hf=>by
    rw [no hf];exact ⟨rfl,Mod.refl _⟩
   generalize g.getD t (0,0)=x at*
   obtain ⟨A,B⟩:=x
   have okg:okG t (A,B)=((decide (A= -1) && decide (B= -1))||decide (0≤A∧0≤B∧A≤2*t+1∧B≤2*t+1)):=by
    unfold okG
    congr 1
    rw [Bool.eq_iff_iff]
    simp
   refine ix fun a x0 _=> ⟨_,x0,cnd_i (fun s0=>ix fun a _ x1=> ⟨_,x1,cnd_i (fun s1=> ?_) (fun s1=>next ?_)⟩) (fun s0=> ?_)⟩
   · refine ix fun a y0 _=> ⟨_,y0,cnd_i (fun t0=>bad ?_) (fun t0=>ix fun a _ y1=> ⟨_,y1,cnd_i (fun t1=>bad ?_) (fun t1=>ix fun a z0 _=> ⟨_,z0,cnd_i (fun t2=>bad ?_) (fun t2=>ix fun a _ z1=> ⟨_,z1,cnd_i (fun t3=>bad ?_) (fun t3=>next ?_)⟩)⟩)⟩)⟩<;>rw [okg]<;>simp only [decide_eq_true_eq,decide_eq_false_iff_not,Bool.not_eq_true',beq_eq_false_iff_ne,beq_iff_eq] at* <;>rw [decide_eq_false s1,Bool.and_false,Bool.false_or]
     all_goals first
      | (rw [decide_eq_false (by omega)];done)
      | (rw [decide_eq_true (by omega)];done)
   · rw [okg]
     simp only [Bool.not_eq_false',beq_iff_eq] at s0 s1
     simp [s0,s1]
   · refine ix fun a y0 _=> ⟨_,y0,cnd_i (fun t0=>bad ?_) (fun t0=>ix fun a _ y1=> ⟨_,y1,cnd_i (fun t1=>bad ?_) (fun t1=>ix fun a z0 _=> ⟨_,z0,cnd_i (fun t2=>bad ?_) (fun t2=>ix fun a _ z1=> ⟨_,z1,cnd_i (fun t3=>bad ?_) (fun t3=>next ?_)⟩)⟩)⟩)⟩<;>rw [okg]<;>simp only [decide_eq_true_eq,decide_eq_false_iff_not,beq_eq_false_iff_ne] at* <;>rw [decide_eq_false s0,Bool.false_and,Bool.false_or]
     all_goals first
      | (rw [decide_eq_false (by omega)];done)
      | (rw [decide_eq_true (by omega)];done)
 · have:t=g.length:=by omega
   subst this
   refine ⟨?_,Mod.refl _⟩
   unfold mayG
   rw [ha,Bool.and_true]
   congr 2
   exact decide_eq_decide.2 (by omega)
theorem refIs_ok {n:Nat} (hn:n≤4194304) (p:Option Addr) (c:Nat) (l:Int) (w:World):
 Calls prog fathomref15_Is.id #[.slice p n c,.int .i64 l] w fun e w'=>e= .returned (.bool (isL n l))∧Grow w w':=by
 refine fathomref15_Is.calls ?_
 unfold fathomref15_Is.w
 have e1:i64.wrap (2* (n:Int))=2*n:=wrap64_of (by omega) (by omega)
 have e2:i64.wrap (2* (n:Int)+1)=2*n+1:=wrap64_of (by omega) (by omega)
 rw [e1,e2]
 unfold isL
 refine cnd_i (fun q=> ⟨?_,Mod.refl w⟩) (fun q=> ⟨?_,Mod.refl w⟩)<;>simp only [decide_eq_true_eq,decide_eq_false_iff_not,ge_iff_le] at q
 · congr 2
   exact decide_eq_decide.2 (by omega)
 · rw [decide_eq_false (by omega)]
theorem may1_ok {n:Nat} (hn:n≤4194304) {b:Nat} {p:Option Addr} {c:Nat} {w:World} (h:Has w b #[.slice p n c]) (l:Int):
 Calls prog tseitin_may_1.id #[.int .i64 l,.pointer (some ⟨b,0,none⟩)] w fun e w'=>e= .returned (.bool (!isL n l))∧Grow w w':=by
 refine tseitin_may_1.calls ?_
 unfold tseitin_may_1.w
 have e1:i64.wrap (2* (n:Int))=2*n:=wrap64_of (by omega) (by omega)
 have e2:i64.wrap (2* (n:Int)+1)=2*n+1:=wrap64_of (by omega) (by omega)
 unfold isL
 refine cnd_i (fun q=> ⟨?_,Mod.refl w⟩) (fun q=> ⟨_,_,_,cell_of h rfl,?_,Mod.refl w⟩)<;>simp only [decide_eq_true_eq,decide_eq_false_iff_not] at q
 · rw [decide_eq_false (by omega)];rfl
 · rw [e1,e2]
   congr 2
   rw [Bool.eq_iff_iff]
   simp
   omega
theorem may1_ent:entB prog tseitin_may_1.id=true:=by kernel_rfl
theorem args2 (u v:Value):(#[]++ #[u]++ #[v]:Array Value)= #[u,v]:=by simp
theorem any_nisL {n:Nat} {l:List Int}:l.any (fun x=> !isL n x)= !l.all (isL n):=by
 induction l with
 |nil=>rfl
 |cons x l ih=>rw [List.any_cons,List.all_cons,ih,Bool.not_and]
theorem tsMay_ok {w:World} {p q:Option Addr} {g:List (Int × Int)} {n c m d:Nat} {hs:List Sl} {cs:List (List Int)} (h:Vr 2 gateV w p g) (hn:n=g.length) (hg:n≤4194304) (hc:V2 (Value.int .i64) w q hs cs) (hm:m=cs.length) (hx:m≤4194304):
 Calls prog tseitin_may.id #[.slice p n c,.slice q m d] w fun e w'=>e= .returned (.bool (mayT g cs))∧Grow w w':=by
 refine tseitin_may.calls ?_
 intro n1 w2 h2
 have H:=h2.has
 refine ⟨_,_,_,cell_of H rfl,(aigCheck_ok (h.grow h2.mod) hn (by unfold maxLen;omega)).mono ?_⟩
 rintro e w4 ⟨rfl,g4⟩
 have G4:=h2.mod.trans g4
 replace H:=H.grow g4
 unfold mayT
 refine ⟨_,rfl,cnd_i (fun s=> ?_) (fun s=> ?_)⟩
 · have:mayG g=false:=by
    cases hh:mayG g with
    |false=>rfl
    |true=>rw [hh] at s;simp at s
   rw [this]
   exact ⟨rfl,G4⟩
 · have:mayG g=true:=by
    cases hh:mayG g with
    |false=>rw [hh] at s;simp at s
    |true=>rfl
   rw [this,Bool.true_and]
   subst hm
   refine ⟨fun v w' k=> ∃t:Nat,v=t∧t≤cs.length∧(cs.take t).all (mayC g.length)=true∧Grow w4 w'∧k+t=cs.length,⟨_,0,rfl,Nat.zero_le _,rfl,Mod.refl _,rfl⟩,?_⟩
   rintro v w10 k _ ⟨t,rfl,ht,ha,g10,hk⟩
   refine cnd_i (fun s2=> ?_) (fun s2=> ?_)<;>simp only [decide_eq_true_eq,decide_eq_false_iff_not] at s2
   · have ht':t<cs.length:=by omega
     have no:mayC g.length (cs.getD t [])=false→cs.all (mayC g.length)=false:=all_false ht'
     refine (hc.grow (G4.trans g10)).ix (by omega) rfl s2 fun a s e _ hsn hsm hv=> ⟨_,_,_,e,?_⟩
     rw [Int.toNat_natCast] at hsn hv
     refine cnd_i (fun s3=> ?_) (fun s3=> ?_)<;>simp only [decide_eq_true_eq,decide_eq_false_iff_not] at s3
     · rw [no (by unfold mayC;rw [decide_eq_false (by omega),Bool.and_false])]
       exact ⟨rfl,G4.trans g10⟩
     · have H10:=H.grow g10
       refine (containsFunc_ok hv hsn hsm may1_ent (fun x=> !isL n x) fun x _ w' g'=> ?_).mono ?_
       · rw [args2]
         exact may1_ok hg (H10.grow g') x
       · rintro e w13 ⟨rfl,g13⟩
         rw [any_nisL]
         have em:mayC g.length (cs.getD t [])=(cs.getD t []).all (isL n):=by
          unfold mayC
          rw [decide_eq_true (by omega),Bool.and_true,hn]
         refine ⟨_,rfl,cnd_i (fun s4=> ?_) (fun s4=> ⟨k - 1,by omega,t+1,by rw [wrap64_of (by omega) (by omega)];omega,ht',all_take_succ (d:= []) ht' ha ?_,g10.trans g13,by omega⟩)⟩
         · rw [no (by rw [em];simpa using s4)]
           exact ⟨rfl,(G4.trans g10).trans g13⟩
         · rw [em];simpa using s4
   · have:t=cs.length:=by omega
     subst this
     rw [List.take_length] at ha
     rw [ha]
     exact ⟨rfl,G4.trans g10⟩
theorem refMayT_ok {w:World} {p q:Option Addr} {g:List (Int × Int)} {n c m d:Nat} {hs:List Sl} {cs:List (List Int)} (h:Vr 2 gateV w p g) (hn:n=g.length) (hg:n≤4194304) (hc:V2 (Value.int .i64) w q hs cs) (hm:m=cs.length) (hx:m≤4194304):
 Calls prog fathomref18_May.id #[.slice p n c,.slice q m d] w fun e w'=>e= .returned (.bool (mayT g cs))∧Grow w w':=by
 refine fathomref18_May.calls ?_
 subst hm
 refine ⟨fun v w' k=> ∃t:Nat,v=t∧t≤cs.length∧(cs.take t).all (mayC g.length)=true∧Grow w w'∧k+t=cs.length,⟨_,0,rfl,Nat.zero_le _,rfl,Mod.refl _,rfl⟩,?_⟩
 rintro v w5 k _ ⟨t,rfl,ht,ha,g5,hk⟩
 refine cnd_i (fun s2=> ?_) (fun s2=> ?_)<;>simp only [decide_eq_true_eq,decide_eq_false_iff_not] at s2
 · have ht':t<cs.length:=by omega
   have no:mayC g.length (cs.getD t [])=false→mayT g cs=false:=fun hf=>by
    unfold mayT;rw [all_false ht' hf,Bool.and_false]
   refine ⟨fun v w' k=> ∃t2:Nat,v=t2∧t2≤(cs.getD t []).length∧((cs.getD t []).take t2).all (isL n)=true∧Grow w w'∧k+t2=(cs.getD t []).length,⟨_,0,rfl,Nat.zero_le _,rfl,g5,rfl⟩,?_⟩
   rintro v w10 k2 _ ⟨t2,rfl,ht2,ha2,g10,hk2⟩
   have ix: ∀ {K:Addr→Prop},(∀a (s:Sl),w10.cell? a=some (.slice s.p s.n s.c)→s.n=(cs.getD t []).length→s.n≤maxLen→Vw (Value.int .i64) w10 s.p (cs.getD t [])→K a)→ixK q cs.length (t:Int) 1 K:=fun hk=>
    (hc.grow g10).ix (by omega) rfl s2 fun a s e _ h1 h2 h3=>hk a s e (by rw [Int.toNat_natCast] at h1;exact h1) h2 (by rw [Int.toNat_natCast] at h3;exact h3)
   refine ix fun a s e hsn hsm hv=> ⟨_,_,_,e,cnd_i (fun s3=> ?_) (fun s3=> ?_)⟩<;>simp only [decide_eq_true_eq,decide_eq_false_iff_not] at s3
   · have ht2':t2< (cs.getD t []).length:=by omega
     refine ix fun a s e hsn hsm hv=> ⟨_,_,_,e,hv.ix 0 (by omega) hsn (by omega) fun a e=> ⟨_,e,(refIs_ok hg p c _ w10).mono ?_⟩⟩
     rw [Int.toNat_natCast]
     rintro e w17 ⟨rfl,g17⟩
     unfold maxLen at hsm
     refine ⟨_,rfl,cnd_i (fun s4=> ?_) (fun s4=> ⟨k2 - 1,by omega,t2+1,by rw [wrap64_of (by omega) (by omega)];omega,ht2',all_take_succ (d:=0) ht2' ha2 (by simpa using s4),g10.trans g17,by omega⟩)⟩
     rw [no (by unfold mayC;rw [← hn,all_false (d:=0) ht2' (by simpa using s4),Bool.false_and])]
     exact ⟨rfl,g10.trans g17⟩
   · have et:t2=(cs.getD t []).length:=by omega
     subst et
     rw [List.take_length] at ha2
     refine ix fun a s e hsn hsm hv=> ⟨_,_,_,e,cnd_i (fun s4=> ?_) (fun s4=> ⟨k - 1,by omega,t+1,by rw [wrap64_of (by omega) (by omega)];omega,ht',all_take_succ (d:= []) ht' ha ?_,g10,by omega⟩)⟩<;>simp only [decide_eq_true_eq,decide_eq_false_iff_not] at s4
     · rw [no (by unfold mayC;rw [decide_eq_false (by omega),Bool.and_false])]
       exact ⟨rfl,g10⟩
     · unfold mayC
       rw [← hn,ha2,decide_eq_true (by omega)];rfl
 · have:t=cs.length:=by omega
   subst this
   rw [List.take_length] at ha
   refine (refMayG_ok (h.grow g5) hn hg).mono ?_
   rintro e w21 ⟨rfl,g21⟩
   unfold mayT
   rw [ha,Bool.and_true]
   exact ⟨_,rfl,rfl,g5.trans g21⟩
end
section
theorem mayT_g {g:List (Int × Int)} {cs:List (List Int)} (h:mayT g cs=true):mayG g=true:=by
 simp only [mayT,Bool.and_eq_true] at h;exact h.1
theorem mayT_l {g:List (Int × Int)} {cs:List (List Int)} (h:mayT g cs=true) {i:Nat} (hi:i<cs.length) {j:Nat} (hj:j< (cs.getD i []).length):0≤(cs.getD i []).getD j 0∧(cs.getD i []).getD j 0≤2*g.length+1:=by
 simp only [mayT,Bool.and_eq_true,List.all_eq_true] at h
 have h1:=h.2 (cs.getD i []) (by simp [List.getD,hi])
 simp only [mayC,Bool.and_eq_true,List.all_eq_true] at h1
 have:=h1.1 ((cs.getD i []).getD j 0) (getD_mem hj 0)
 simpa [isL] using this
theorem cIx {w:World} {q:Option Addr} {hs:List Sl} {cs:List (List Int)} (hc:V2 (Value.int .i64) w q hs cs) {m t:Nat} (hm:m=cs.length) (ht:t<cs.length) {K:Addr→Prop} (hk: ∀a (s:Sl),w.cell? a=some (.slice s.p s.n s.c)→s=hs.getD t Sl.nil→s.n=(cs.getD t []).length→s.n≤maxLen→Vw (Value.int .i64) w s.p (cs.getD t [])→K a):ixK q m (t:Int) 1 K:=
 hc.ix (by omega) hm (by omega) fun a s e hs h1 h2 h3=>hk a s e (by rw [Int.toNat_natCast] at hs;exact hs) (by rw [Int.toNat_natCast] at h1;exact h1) h2 (by rw [Int.toNat_natCast] at h3;exact h3)
end
section
theorem ts_sl_bool:slOk prog ty_sl_bool ty_bool 1=true:=by kernel_rfl
theorem ts_bool_zero:(Tryz.prog.info? ty_bool).bind (·.zero)=some (.bool false):=by kernel_rfl
theorem tsAnd_ok (a b:Int) (w:World):Calls prog tseitin_and.id #[.agg #[.int .i64 a,.int .i64 b]] w fun e w'=>e= .returned (.bool (decide (a≥0)))∧Grow w w':=by
 refine tseitin_and.calls ?_
 intro n1 w2 h2
 exact ⟨_,cell_add h2.has rfl,rfl,h2.mod⟩
theorem cone_ok {w:World} {p q:Option Addr} {g:List (Int × Int)} {n c m d:Nat} {hs:List Sl} {cs:List (List Int)} (hn:n=g.length) (hg:n≤4194304) (hm:m=cs.length) (hx:m≤4194304) (hmay:mayT g cs=true) (h:Vr 2 gateV w p g) (hc:V2 (Value.int .i64) w q hs cs):
 Calls prog tseitin_cone.id #[.slice p n c,.slice q m d] w fun e w'=> (∃r cc inn,e= .returned (.slice r (g.length+1) cc)∧OwB ty_bool w' r cc inn∧inn.length=g.length+1∧(∀k,k≤g.length→(inn.getD k false=true↔H g cs k)))∧Grow w w':=by
 subst hn hm
 refine tseitin_cone.calls ?_
 have e1:i64.wrap ((g.length:Int)+1)=((g.length+1:Nat):Int):=by rw [wrap64_of (by omega) (by omega)];omega
 unfold tseitin_cone.w
 rw [e1]
 refine make_i ts_sl_bool ts_bool_zero (f:=Value.bool) (x:=false) rfl (g.length+1) rfl (by omega) fun w1 o1 g1 z1=> ?_
 have fr: ∀j,blk (some (Addr.mk w.heap.size 0 none))=some j→w.heap.size≤j:=fun j hj=>by have:=blk_some hj;omega
 generalize (some (Addr.mk w.heap.size 0 none))=r at*
 refine ⟨fun v w' z=> ∃ (t:Nat) (inn:List Bool),v=t∧t≤cs.length∧OwB ty_bool w' r (g.length+1) inn∧inn.length=g.length+1∧(∀k,k≤g.length→(inn.getD k false=true↔∃i,i<t∧∃l∈cs.getD i [],l.tdiv 2=(k:Int)))∧Grow w w'∧z+t=cs.length,
  ⟨_,0,_,rfl,Nat.zero_le _,o1,by simp,fun k hk=> ?_,g1,rfl⟩,?_⟩
 · simp [List.getD,show k<g.length+1 by omega]
 clear o1 g1 z1
 rintro v w7 z _ ⟨t,inn,rfl,ht,o,hl,hi,G,hz⟩
 refine cnd_i (fun s=> ?_) (fun s=> ?_)<;>simp only [decide_eq_true_eq,decide_eq_false_iff_not] at s
 · have ht':t<cs.length:=by omega
   refine cIx (hc.grow G) rfl ht' fun a s e _ hsn hsm hv=> ⟨_,_,_,e,?_⟩
   unfold maxLen at hsm
   refine ⟨fun v w' z=> ∃ (t2:Nat) (inn:List Bool),v=t2∧t2≤(cs.getD t []).length∧OwB ty_bool w' r (g.length+1) inn∧inn.length=g.length+1∧(∀k,k≤g.length→(inn.getD k false=true↔(∃i,i<t∧∃l∈cs.getD i [],l.tdiv 2=(k:Int))∨∃j,j<t2∧((cs.getD t []).getD j 0).tdiv 2=(k:Int)))∧Grow w w'∧Mod (fun j=>blk r=some j) w7 w'∧z+t2=(cs.getD t []).length,
    ⟨_,0,inn,rfl,Nat.zero_le _,o,hl,fun k hk=> ?_,G,Mod.refl _,rfl⟩,?_⟩
   · rw [hi k hk]
     constructor
     · exact .inl
     · rintro (h| ⟨j,hj,_⟩)
       · exact h
       · omega
   clear o hl hi
   rintro v w14 z2 _ ⟨t2,inn,rfl,ht2,o,hl,hi,G2,M2,hz2⟩
   refine cnd_i (fun s2=> ?_) (fun s2=> ?_)<;>simp only [decide_eq_true_eq,decide_eq_false_iff_not] at s2
   · have ht2':t2< (cs.getD t []).length:=by omega
     have hll:=mayT_l hmay ht' ht2'
     have hvg:Vw (Value.int .i64) w14 s.p (cs.getD t []):=by
      have:=(hc.grow G2).r t ht'
      have e2:=(hc.r t ht').2.2
      rename s=hs.getD t Sl.nil=>es
      rw [es];exact this.2.2
     refine hvg.ix 0 (by omega) hsn (by omega) fun a e=> ⟨_,e,by decide,?_⟩
     rw [Int.toNat_natCast]
     generalize hlv:(cs.getD t []).getD t2 0=lv at*
     have hd:lv.tdiv 2=lv / 2:=Int.tdiv_eq_ediv_of_nonneg hll.1
     have ew:i64.wrap (lv.tdiv 2)=lv.tdiv 2:=wrap64_of (by omega) (by omega)
     rw [ew]
     refine o.st true rfl rfl (by omega) hl.symm (by omega) fun w18 o18 m18=> ⟨z2 - 1,by omega,t2+1,_,by rw [wrap64_of (by omega) (by omega)];omega,ht2',o18,by simpa using hl,fun k hk=> ?_,G2.then m18 fun j hj e=>by have:=fr j e;omega,M2.trans m18,by omega⟩
     rw [getD_set (by omega)]
     have key:(∃j,j<t2+1∧((cs.getD t []).getD j 0).tdiv 2=(k:Int))↔(∃j,j<t2∧((cs.getD t []).getD j 0).tdiv 2=(k:Int))∨lv.tdiv 2=k:=by
      constructor
      · rintro ⟨j,hj,e9⟩
        rcases Nat.lt_or_ge j t2 with c|c
        · exact .inl ⟨j,c,e9⟩
        · have:j=t2:=by omega
          rw [this,hlv] at e9;exact .inr e9
      · rintro (⟨j,hj,e⟩|e)
        · exact ⟨j,by omega,e⟩
        · exact ⟨t2,by omega,by rw [hlv];exact e⟩
     rw [key]
     by_cases hk2:k=(lv.tdiv 2).toNat
     · rw [if_pos hk2]
       simp only [true_iff]
       exact .inr (.inr (by omega))
     · rw [if_neg hk2,hi k hk]
       constructor
       · rintro (h|h)
         · exact .inl h
         · exact .inr (.inl h)
       · rintro (h|h|h)
         · exact .inl h
         · exact .inr h
         · omega
   · have et:t2=(cs.getD t []).length:=by omega
     subst et
     refine ⟨z - 1,by omega,t+1,inn,by rw [wrap64_of (by omega) (by omega)];omega,ht',o,hl,fun k hk=> ?_,G2,by omega⟩
     rw [hi k hk]
     constructor
     · rintro (⟨i,hi,h⟩| ⟨j,hj,e⟩)
       · exact ⟨i,by omega,h⟩
       · exact ⟨t,by omega,_,getD_mem hj 0,e⟩
     · rintro ⟨i,hi,l,hll,e⟩
       rcases Nat.lt_or_ge i t with c|c
       · exact .inl ⟨i,c,l,hll,e⟩
       · have:i=t:=by omega
         subst this
         obtain ⟨j,hj⟩:=List.getElem?_of_mem hll
         have hjl:=(List.getElem?_eq_some_iff.1 hj).1
         refine .inr ⟨j,hjl,?_⟩
         rw [show (cs.getD i []).getD j 0=l by simp only [List.getD_eq_getElem?_getD] at hj ⊢;rw [hj];rfl]
         exact e
 · have et:t=cs.length:=by omega
   subst et
   have hhit: ∀k,(∃i,i<cs.length∧∃l∈cs.getD i [],l.tdiv 2=((k:Nat):Int))↔hit cs k:=by
    intro k
    constructor
    · rintro ⟨i,hi,l,hl,e⟩
      exact ⟨_,by simp [List.getD,hi],l,hl,e⟩
    · rintro ⟨c,hc,l,hl,e⟩
      obtain ⟨i,hi⟩:=List.getElem?_of_mem hc
      have hil:=(List.getElem?_eq_some_iff.1 hi).1
      exact ⟨i,hil,l,by rw [List.getD_eq_getElem?_getD,hi];exact hl,e⟩
   have hgm:=mayT_g hmay
   refine ⟨fun v w' z=> ∃ (t:Nat) (inn:List Bool),v=t∧t≤g.length∧OwB ty_bool w' r (g.length+1) inn∧inn.length=g.length+1∧(∀k,k≤g.length→(inn.getD k false=true↔hit cs k∨∃j,t≤j∧j<g.length∧kid g j k∧H g cs (j+1)))∧Grow w w'∧z=t,
    ⟨_,g.length,inn,rfl,Nat.le_refl _,o,hl,fun k hk=> ?_,G,rfl⟩,?_⟩
   · rw [hi k hk,hhit]
     constructor
     · exact .inl
     · rintro (h| ⟨j,h1,h2,_⟩)
       · exact h
       · omega
   clear o hl hi G
   rintro v w23 z _ ⟨t,inn,rfl,ht,o,hl,hi,G,hz⟩
   refine cnd_i (fun s=> ?_) (fun s=> ?_)<;>simp only [decide_eq_true_eq,decide_eq_false_iff_not,ge_iff_le] at s
   · obtain ⟨t,rfl⟩: ∃u,t=u+1:=⟨t - 1,by omega⟩
     have ht':t<g.length:=by omega
     have e2:i64.wrap (((t+1:Nat):Int) - 1)=(t:Int):=by rw [wrap64_of (by omega) (by omega)];omega
     rw [e2]
     have hok:=mayG_at hgm ht'
     have hin:inn.getD (t+1) false=true↔H g cs (t+1):=by
      rw [hi (t+1) ht,H.cases']
     refine gIx (h.grow G) rfl ht' fun a x0 x1=> ⟨_,_,⟨x0,x1,trivial⟩,?_⟩
     intro n27 w28 h27
     refine store_i h27.has rfl rfl fun w29 h29 m29=> ?_
     have g29:Grow w23 w29:=h27.mod.fresh m29 (by have:=h27.num;omega)
     have o29:=o.grow g29
     generalize hx:g.getD t (0,0)=x at*
     obtain ⟨A,B⟩:=x
     have h29:Has w29 n27 #[.int .i64 A,.int .i64 B]:=h29
     have same: ∀w',Grow w w'→OwB ty_bool w' r (g.length+1) inn→(¬(0≤A∧H g cs (t+1)))→∃z':Nat,z'<z∧∃ (t':Nat) (inn:List Bool),(t:Int)=t'∧t'≤g.length∧OwB ty_bool w' r (g.length+1) inn∧inn.length=g.length+1∧(∀k,k≤g.length→(inn.getD k false=true↔hit cs k∨∃j,t'≤j∧j<g.length∧kid g j k∧H g cs (j+1)))∧Grow w w'∧z'=t':=by
      intro w' gg oo hno
      refine ⟨t,by omega,t,inn,rfl,by omega,oo,hl,fun k hk=> ?_,gg,rfl⟩
      rw [hi k hk]
      constructor
      · rintro (h| ⟨j,h1,h2⟩)
        · exact .inl h
        · exact .inr ⟨j,by omega,h2⟩
      · rintro (h| ⟨j,h1,h2,h3,h4⟩)
        · exact .inl h
        · rcases Nat.lt_or_ge t j with c|c
          · exact .inr ⟨j,by omega,h2,h3,h4⟩
          · have:j=t:=by omega
            subst this
            exact absurd ⟨by have:=h3.1;rw [hx] at this;exact this,h4⟩ hno
     refine o29.ix false (by omega) hl.symm (by omega) fun a30 e30=> ⟨_,e30,?_⟩
     rw [Int.toNat_natCast]
     refine cnd_i (fun s1=> ?_) (fun s1=>same _ (G.trans g29) o29 (fun hh=>by rw [hin.2 hh.2] at s1;cases s1))
     refine ⟨_,_,⟨cell_add h29 rfl,cell_add h29 rfl,trivial⟩,(tsAnd_ok A B w29).mono ?_⟩
     rintro e w34 ⟨rfl,g34⟩
     have g34':=g29.trans g34
     refine ⟨_,rfl,cnd_i (fun s2=> ?_) (fun s2=>same _ (G.trans g34') (o.grow g34') (fun hh=>by have:=hh.1;simp only [decide_eq_false_iff_not] at s2;omega))⟩
     simp only [decide_eq_true_eq,ge_iff_le] at s2
     have hb:=okG_and hok s2
     simp only at hb
     have dA:A.tdiv 2=A / 2:=Int.tdiv_eq_ediv_of_nonneg s2
     have dB:B.tdiv 2=B / 2:=Int.tdiv_eq_ediv_of_nonneg hb.1
     have wA:i64.wrap (A.tdiv 2)=A.tdiv 2:=wrap64_of (by omega) (by omega)
     have wB:i64.wrap (B.tdiv 2)=B.tdiv 2:=wrap64_of (by omega) (by omega)
     have G34:Grow w w34.drew:=(G.trans g34').drew
     have o34:OwB ty_bool w34.drew r (g.length+1) inn:=(o.grow g34').drew
     have h34:Has w34.drew n27 #[.int .i64 A,.int .i64 B]:=(h29.grow g34).drew
     have hrn:blk r≠some n27:=fun e=>by have:=o.lt _ e;have:=h27.num;omega
     have fin: ∀w',Grow w w'→OwB ty_bool w' r (g.length+1) ((inn.set (A.tdiv 2).toNat true).set (B.tdiv 2).toNat true)→∃z':Nat,z'<z∧∃ (t':Nat) (inn:List Bool),(t:Int)=t'∧t'≤g.length∧OwB ty_bool w' r (g.length+1) inn∧inn.length=g.length+1∧(∀k,k≤g.length→(inn.getD k false=true↔hit cs k∨∃j,t'≤j∧j<g.length∧kid g j k∧H g cs (j+1)))∧Grow w w'∧z'=t':=by
      intro w' gg oo
      refine ⟨t,by omega,t,_,rfl,by omega,oo,by simpa using hl,fun k hk=> ?_,gg,rfl⟩
      rw [getD_set (by simp;omega),getD_set (by omega)]
      have hkid:kid g t k↔((k:Int)=A.tdiv 2∨(k:Int)=B.tdiv 2):=by
       unfold kid
       rw [hx]
       simp only
       constructor
       · rintro ⟨_,h|h⟩
         · exact .inl h.symm
         · exact .inr h.symm
       · rintro (h|h)
         · exact ⟨s2,.inl h.symm⟩
         · exact ⟨s2,.inr h.symm⟩
      have hH:H g cs (t+1):=hin.1 s1
      have key:(hit cs k∨∃j,t≤j∧j<g.length∧kid g j k∧H g cs (j+1))↔inn.getD k false=true∨kid g t k:=by
       rw [hi k hk]
       constructor
       · rintro (h| ⟨j,h1,h2,h3,h4⟩)
         · exact .inl (.inl h)
         · rcases Nat.lt_or_ge t j with c|c
           · exact .inl (.inr ⟨j,by omega,h2,h3,h4⟩)
           · have:j=t:=by omega
             subst this
             exact .inr h3
       · rintro ((h| ⟨j,h1,h2⟩)|h)
         · exact .inl h
         · exact .inr ⟨j,by omega,h2⟩
         · exact .inr ⟨t,by omega,ht',h,hH⟩
      rw [key,hkid]
      by_cases k1:k=(B.tdiv 2).toNat
      · rw [if_pos k1]
        simp only [true_iff]
        exact .inr (.inr (by omega))
      · rw [if_neg k1]
        by_cases k2:k=(A.tdiv 2).toNat
        · rw [if_pos k2]
          simp only [true_iff]
          exact .inr (.inl (by omega))
        · rw [if_neg k2]
          constructor
          · exact .inl
          · rintro (h|h|h)
            · exact h
            · omega
            · omega
     refine ⟨_,cell_add h34 rfl,by decide,?_⟩
     rw [wA]
     have st1:=fun {K:World→Prop}=>o34.st (K:=K) true rfl rfl (show 0≤A.tdiv 2 by omega) hl.symm (show A.tdiv 2<_ by omega)
     obtain ⟨aa,ea,_,_,_⟩:=st1 (K:=fun _=>True) fun _ _ _=>trivial
     refine ⟨aa,ea,by omega,by omega,?_,?_⟩
     · refine ⟨_,cell_add h34 rfl,by decide,?_⟩
       rw [wB]
       obtain ⟨a',ea',_,_,w39,hs39,o39,m39⟩:=st1 (K:=fun w39=>OwB ty_bool w39 r (g.length+1) (inn.set (A.tdiv 2).toNat true)∧Mod (fun b=>blk r=some b) w34.drew w39) fun w' o' m'=> ⟨o',m'⟩
       rw [ea] at ea'
       simp only [Option.some.injEq] at ea'
       subst ea'
       refine ⟨w39,hs39,o39.st true rfl rfl (by omega) (by simp [hl]) (by omega) fun w41 o41 m41=>fin w41 ((G34.then m39 fun j hj e=>by have:=fr j e;omega).then m41 fun j hj e=>by have:=fr j e;omega) o41⟩
     · obtain ⟨a',ea',_,_,w39,hs39,o39,m39⟩:=st1 (K:=fun w39=>OwB ty_bool w39 r (g.length+1) (inn.set (A.tdiv 2).toNat true)∧Mod (fun b=>blk r=some b) w34.drew w39) fun w' o' m'=> ⟨o',m'⟩
       rw [ea] at ea'
       simp only [Option.some.injEq] at ea'
       subst ea'
       have h39:=h34.keep m39 (fun e=>hrn e)
       refine ⟨w39,hs39,_,cell_add h39 rfl,by decide,?_⟩
       rw [wB]
       exact o39.st true rfl rfl (by omega) (by simp [hl]) (by omega) fun w41 o41 m41=>fin w41 ((G34.then m39 fun j hj e=>by have:=fr j e;omega).then m41 fun j hj e=>by have:=fr j e;omega) o41
   · have et:t=0:=by omega
     subst et
     refine ⟨⟨r,_,inn,rfl,o,hl,fun k hk=> ?_⟩,G⟩
     rw [hi k hk,H.cases']
     constructor
     · rintro (h| ⟨j,h1,h2,h3,h4⟩)
       · exact .inl h
       · exact .inr ⟨j,kid_le hgm h2 h3,h2,h3,h4⟩
     · rintro (h| ⟨j,h1,h2,h3,h4⟩)
       · exact .inl h
       · exact .inr ⟨j,Nat.zero_le _,h2,h3,h4⟩
end
end Go.Proofs.YtddffgjagppimaaGreat.W.Rk
