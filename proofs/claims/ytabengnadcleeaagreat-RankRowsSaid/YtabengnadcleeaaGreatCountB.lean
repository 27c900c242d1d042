/- Layer 14: counting models, walked. -/
import Derived.Test.YtabengnadcleeaaGreatCountA
namespace Go.Proofs.YtabengnadcleeaaGreat.W
open Go Go.Fw Go.RowKit Go.SoP Go.LiP Go.LeP
open Go.Proofs.Tryz (prog)
open Go.IntKind (i64)
section
variable {w w' w1 w2 u u':World} {N n14:Nat} {cs:List (List Int)} {mo:List Int} {ms:List (List Int)} {hs':List Sl} {gp:Option Addr} {gc:Nat}
def SolM (y:World) (N:Nat) (cs:List (List Int)) (ver er:Int) (mp:Option Addr) (mn:Nat):Prop:=
 er=0∧((ver=1∧∃mo:List Int,mn=mo.length∧Vw (Value.int .i64) y mp mo∧Pm1 N mo∧holdsP mo cs=true)∨(ver=2∧∀v,Mdl N v→¬∀d∈cs,Tr1 v d))
theorem count_tail {nS t k18:Nat} {y:World} {I17:Int→World→Nat→Prop} {K:Value→World→Prop} {ver er:Int} {mp:Option Addr} {mn mc:Nat} {v3 v4 v5 v6 v7:Value} (I:CntI w u n14 N cs hs' ms gp gc) (g:Grow u y) (hN:N≤4096) (hb:hs'.length≤1000000)
 (H:Has y nS #[.int .i64 ver,.slice mp mn mc,v3,v4,v5,v6,v7]) (M:SolM y N (cs++ms.map bcl) ver er mp mn)
 (hK:Grow w y→cntM N cs≤ms.length→K (.tuple #[.int .i64 t,.int .i64 0]) y)
 (hI: ∀u' hs2 gp' gc' mo,CntI w u' n14 N cs hs2 (ms++ [mo]) gp' gc'→∃k19,k19<k18∧I17 (i64.wrap ((t:Int)+ (1:Int))) u' k19):
 cnd (er !=(0:Int))
       (K (.tuple #[.int .i64 (t:Int),.int .i64 0]) y)
       (∃x41,y.cell? ((Addr.mk nS 0 none).add 0)=some (.int .i64 x41)∧
       cnd (x41 !=(1:Int))
       (K (.tuple #[.int .i64 (t:Int),.int .i64 0]) y)
       (∃x42p x42n x42c,y.cell? ((Addr.mk nS 0 none).add 1)=some (.slice x42p x42n x42c)∧
         ∃I43:Option Addr→Nat→Nat→Int→World→Nat→Prop,(∃k44,I43 none 0 0 0 y k44)∧
         ∀ (other_46_p:Option Addr) (other_46_n:Nat) (other_46_c:Nat) (v47:Int) (w48:World) (k44:Nat) (_:Fr),I43 other_46_p other_46_n other_46_c v47 w48 k44→
         cnd (decide (v47< (x42n:Int)))
          (ixK x42p x42n v47 1 fun a49=>
            ∃x50,w48.cell? a49=some (.int .i64 x50)∧
            ∀n51 w52,New (.cells #[.int .i64 (i64.wrap ((i64.wrap (0 - x50))* (i64.wrap (v47+ (1:Int)))))] 3) w48 n51 w52→
            ∃w53 r54p r54n r54c,(Builtin.append_ #[28,28] 28 #[.slice other_46_p other_46_n other_46_c,.slice (some (Addr.mk n51 0 none)) 1 1]).run prog w52= .ok (.slice r54p r54n r54c) w53∧
            ∃k45,k45<k44∧I43 r54p r54n r54c (i64.wrap (v47+ (1:Int))) w53 k45)
          (∃x55p x55n x55c,w48.cell? ((Addr.mk n14 0 none).add 1)=some (.slice x55p x55n x55c)∧
            ∀n56 w57,New (.cells #[.slice other_46_p other_46_n other_46_c] 28) w48 n56 w57→
            ∃w58 r59p r59n r59c,(Builtin.append_ #[24,24] 24 #[.slice x55p x55n x55c,.slice (some (Addr.mk n56 0 none)) 1 1]).run prog w57= .ok (.slice r59p r59n r59c) w58∧
            ∃w60,StoreAt ((Addr.mk n14 0 none).add 1) 0 [.slice r59p r59n r59c] w58 w60∧
            ∃k19,k19<k18∧I17 (i64.wrap ((t:Int)+ (1:Int))) w60 k19))):=by
 have J:=I.grow g
 obtain ⟨rfl,M⟩:=M
 refine cnd_f rfl ⟨_,cell_add H rfl,?_⟩
 rcases M with ⟨rfl,mo,rfl,v,hm,hh⟩| ⟨rfl,hu⟩
 · refine cnd_f rfl ⟨_,_,_,cell_add H rfl,other_w v rfl hm hN fun op oc u' O fr G=> ?_⟩
   have A:=J.grow G
   have hpm: ∀m∈ms,Pm1 N m:=fun m hm=> (I.pm m hm).1
   obtain ⟨h1,h2⟩:=(holds_bcl hN hm hpm).1 hh
   refine ⟨_,_,_,cell_add A.has rfl,fun n56 w57 h57=> ?_⟩
   refine A.push O (fun b hb=> ?_) hm hN h1 h2 hb h57 fun u2 hs2 gp' gc' B=>hI u2 hs2 gp' gc' _ B
   have h3:=fr b hb
   have h4:=J.has.lt
   refine ⟨by omega,fun e=> ?_⟩
   have:=J.own.lt b e
   omega
 · refine cnd_t rfl (hK J.g ?_)
   refine cnt_ge fun m hm hh=>Classical.byContradiction fun hn=> ?_
   have h1:=unsat_no (by omega) hu hm
   rw [(holds_bcl hN hm fun m hm=> (I.pm m hm).1).2 ⟨hh,hn⟩] at h1
   exact absurd h1 (by decide)
theorem solM_of {z:Nat} {y:World} {nS:Nat} {ver er cf de re dr:Int} {mp pp:Option Addr} {mn mc pn pc:Nat} (h:SolP z w N cs (-1) (.returned (.tuple #[.agg #[.int .i64 ver,.slice mp mn mc,.slice pp pn pc,.int .i64 cf,.int .i64 de,.int .i64 re,.int .i64 dr],.int .i64 er]))) (m:Mod (·=nS) w y) (hn:nS<z∨w.heap.size≤nS):SolM y N cs ver er mp mn:=by
 obtain ⟨ver',mp',mn',mc',pp',pn',pc',cf',de',re',dr',er',he,_,_,_,_,hh⟩:=h
 simp only [Ending.returned.injEq,Value.tuple.injEq,Array.mk.injEq,List.cons.injEq,Value.agg.injEq,Value.int.injEq,Value.slice.injEq,and_true,true_and] at he
 obtain ⟨⟨rfl,⟨rfl,rfl,rfl⟩,⟨rfl,rfl,rfl⟩,rfl,rfl,rfl,rfl⟩,rfl⟩:=he
 rcases hh with ⟨_,_,_,_,h0,_⟩| ⟨rfl,rfl,_,_,mo,h1,h2,h3,h4,h5,h6⟩| ⟨rfl,rfl,_,_,h1,_⟩
 · exact absurd h0 (by decide)
 · refine ⟨rfl,.inl ⟨rfl,mo,h1,?_,⟨h4,h5⟩,holdsP_iff.2 h6⟩⟩
   by_cases e:mo= []
   · subst e;exact Vw.nil
   · refine h2.keep m fun k hk (e2:k=nS)=> ?_
     have:=h3 k hk
     have:=h2.lt e k hk
     omega
 · exact ⟨rfl,.inr ⟨rfl,h1⟩⟩
theorem usual_ok (w:World):Calls prog cdcl_Usual.id #[] w fun e w'=>e= .returned (.agg #[.int .i64 (-1),.int .i64 64,.int .i64 200])∧Grow w w':=by
 refine cdcl_Usual.calls ?_
 intro n1 w2 h2
 refine store_i h2.has rfl rfl fun w3 H3 m3=> ?_
 have H3:Has w3 n1 #[.int .i64 (-1),.int .i64 64,.int .i64 200]:=H3
 exact ⟨_,_,_,⟨cell_add H3 rfl,cell_add H3 rfl,cell_add H3 rfl,trivial⟩,rfl,Mod.fresh h2.mod m3 (by have:=h2.num;omega)⟩
theorem pow_le6 (h:N≤6):3 ^ N≤729:=by
 have:N=0∨N=1∨N=2∨N=3∨N=4∨N=5∨N=6:=by omega
 rcases this with rfl|rfl|rfl|rfl|rfl|rfl|rfl<;>decide
theorem pow2_le6 (h:N≤6):2 ^ N≤64:=by
 have:N=0∨N=1∨N=2∨N=3∨N=4∨N=5∨N=6:=by omega
 rcases this with rfl|rfl|rfl|rfl|rfl|rfl|rfl<;>decide
theorem cntM_le:cntM N cs≤2 ^ N:=by
 unfold cntM
 have:=List.countP_le_length (p:=fun k=>holdsP (modelP N k) cs) (l:=List.range (2 ^ N))
 simpa using this
theorem count_cnf (hcn:cnfB N cs=true) (hN:N≤6) (hcl:cs.length≤100000) (hms:ms.length≤64) (hpm: ∀m∈ms,Pm1 N m):cnfB N (cs++ms.map bcl)=true:=by
 unfold cnfB at*
 simp only [Bool.and_eq_true,decide_eq_true_eq,List.all_eq_true] at hcn ⊢
 obtain ⟨⟨h1,h2,h3⟩,h4⟩:=hcn
 refine ⟨⟨h1,h2,by simp;omega⟩,fun c hc=> ?_⟩
 rcases List.mem_append.1 hc with hc|hc
 · exact h4 c hc
 · obtain ⟨m,hm,rfl⟩:=List.mem_map.1 hc
   have hp:=hpm m hm
   refine ⟨?_,fun l hl=> ?_⟩
   · unfold clB
     simp only [Bool.and_eq_true,decide_eq_true_eq,List.all_eq_true]
     exact ⟨fun l hl=>litB_of (n:=N) (by omega) (bcl_am hp hl),by rw [bcl_len,hp.len];omega⟩
   · exact (bcl_am hp hl).amt.2
theorem solve_cnt (I:CntI w u n14 N cs hs' ms gp gc) (g:Grow u u') (hcn:cnfB N cs=true) (hN:N≤6) (hcl:cs.length≤100000) (hms:ms.length≤64):
 Calls prog cdcl_Solve.id #[.agg #[.int .i64 N,.slice gp hs'.length gc],.agg #[.int .i64 (-1),.int .i64 64,.int .i64 200]] u' fun e w'=>SolP u'.heap.size w' N (cs++ms.map bcl) (-1) e∧Grow u' w':=by
 have h3:=pow_le6 hN
 have J:=I.grow g
 refine solve_ok J.v2 J.n (count_cnf hcn hN hcl hms fun m hm=> (I.pm m hm).1) (by decide) rfl (by omega) (by omega) ?_ ?_
 · have:=quota_big (l:=200) (by decide) (by decide)
   omega
 · unfold cmeas
   have:(cs++ms.map bcl).length=cs.length+ms.length:=by simp
   rw [this]
   omega
def CntQ (w:World) (n14 N:Nat) (cs:List (List Int)) (n:Int):Int→World→Nat→Prop:=fun v u z=>
 ∃ (t:Nat) (hs':List Sl) (ms:List (List Int)) (gp:Option Addr) (gc:Nat),v=t∧(t:Int)≤n∧z=n.toNat - t∧ms.length=t∧CntI w u n14 N cs hs' ms gp gc
theorem count_after {k18:Nat} {v v0:World} {I17:Int→World→Nat→Prop} {K:Value→World→Prop} (I:CntI w u n14 N cs hs' ms gp gc) (g:Grow u v) (g0:Grow v0 v) (hcn:cnfB N cs=true) (hN:N≤6) (hcl:cs.length≤100000) (hms:ms.length≤64)
 (hK: ∀y,Grow w y→cntM N cs≤ms.length→K (.tuple #[.int .i64 (ms.length:Nat),.int .i64 0]) y)
 (hI: ∀u' hs2 gp' gc' mo,CntI w u' n14 N cs hs2 (ms++ [mo]) gp' gc'→∃k19,k19<k18∧I17 (i64.wrap ((ms.length:Int)+ (1:Int))) u' k19):
 Calls prog 22 #[.agg #[.int .i64 (N:Int),.slice gp hs'.length gc],.agg #[.int .i64 (-1),.int .i64 64,.int .i64 200]] v fun e w29=> ∃r30 r31p r31n r31c r32p r32n r32c r33 r34 r35 r36 r37,e= .returned (.tuple #[.agg #[.int .i64 r30,.slice r31p r31n r31c,.slice r32p r32n r32c,.int .i64 r33,.int .i64 r34,.int .i64 r35,.int .i64 r36],.int .i64 r37])∧
       ∀n38 w39,New (.cells #[.int .i64 0,.slice none 0 0,.slice none 0 0,.int .i64 0,.int .i64 0,.int .i64 0,.int .i64 0] 63) w29 n38 w39→
       (Grow v0) w39∧∃w40,StoreAt (Addr.mk n38 0 none) 0 [.int .i64 r30,.slice r31p r31n r31c,.slice r32p r32n r32c,.int .i64 r33,.int .i64 r34,.int .i64 r35,.int .i64 r36] w39 w40∧
       cnd (r37 !=(0:Int))
       (K (.tuple #[.int .i64 (ms.length:Int),.int .i64 0]) w40)
       (∃x41,w40.cell? ((Addr.mk n38 0 none).add 0)=some (.int .i64 x41)∧
       cnd (x41 !=(1:Int))
       (K (.tuple #[.int .i64 (ms.length:Int),.int .i64 0]) w40)
       (∃x42p x42n x42c,w40.cell? ((Addr.mk n38 0 none).add 1)=some (.slice x42p x42n x42c)∧
         ∃I43:Option Addr→Nat→Nat→Int→World→Nat→Prop,(∃k44,I43 none 0 0 0 w40 k44)∧
         ∀ (other_46_p:Option Addr) (other_46_n:Nat) (other_46_c:Nat) (v47:Int) (w48:World) (k44:Nat) (_:Fr),I43 other_46_p other_46_n other_46_c v47 w48 k44→
         cnd (decide (v47< (x42n:Int)))
          (ixK x42p x42n v47 1 fun a49=>
            ∃x50,w48.cell? a49=some (.int .i64 x50)∧
            ∀n51 w52,New (.cells #[.int .i64 (i64.wrap ((i64.wrap (0 - x50))* (i64.wrap (v47+ (1:Int)))))] 3) w48 n51 w52→
            ∃w53 r54p r54n r54c,(Builtin.append_ #[28,28] 28 #[.slice other_46_p other_46_n other_46_c,.slice (some (Addr.mk n51 0 none)) 1 1]).run prog w52= .ok (.slice r54p r54n r54c) w53∧
            ∃k45,k45<k44∧I43 r54p r54n r54c (i64.wrap (v47+ (1:Int))) w53 k45)
          (∃x55p x55n x55c,w48.cell? ((Addr.mk n14 0 none).add 1)=some (.slice x55p x55n x55c)∧
            ∀n56 w57,New (.cells #[.slice other_46_p other_46_n other_46_c] 28) w48 n56 w57→
            ∃w58 r59p r59n r59c,(Builtin.append_ #[24,24] 24 #[.slice x55p x55n x55c,.slice (some (Addr.mk n56 0 none)) 1 1]).run prog w57= .ok (.slice r59p r59n r59c) w58∧
            ∃w60,StoreAt ((Addr.mk n14 0 none).add 1) 0 [.slice r59p r59n r59c] w58 w60∧
            ∃k19,k19<k18∧I17 (i64.wrap ((ms.length:Int)+ (1:Int))) w60 k19))):=by
 have hln:=I.n
 have hln2:(cs++ms.map bcl).length=cs.length+ms.length:=by simp
 refine (solve_cnt I g hcn hN hcl hms).mono ?_
 rintro e w29 ⟨hs,g29⟩
 have hs':=hs
 obtain ⟨ver,mp,mn,mc,pp,pn,pc,cf,de,re,dr,er,rfl,_⟩:=hs'
 refine ⟨_,_,_,_,_,_,_,_,_,_,_,_,rfl,fun n38 w39 h39=> ?_⟩
 refine ⟨(g0.trans g29).trans h39.mod,?_⟩
 refine store_i h39.has rfl rfl fun w40 H40 m40=> ?_
 have H40:Has w40 n38 #[.int .i64 ver,.slice mp mn mc,.slice pp pn pc,.int .i64 cf,.int .i64 de,.int .i64 re,.int .i64 dr]:=H40
 have e38:=h39.num
 have g40:Grow w29 w40:=Mod.fresh h39.mod m40 (by omega)
 have mm:Mod (·=n38) w29 w40:=g40.mono fun _ _ e=>e.elim
 exact count_tail I (g.trans (g29.trans g40)) (by omega) (by omega) H40 (solM_of hs mm (.inr (by omega))) (hK _) hI
theorem count_before {nS k18:Nat} {v:World} {I17:Int→World→Nat→Prop} {K:Value→World→Prop} (I:CntI w u n14 N cs hs' ms gp gc) (g:Grow u v) (hS:Has v nS #[.int .i64 0,.slice none 0 0,.slice none 0 0,.int .i64 0,.int .i64 0,.int .i64 0,.int .i64 0]) (hz:u.heap.size≤nS) (hcn:cnfB N cs=true) (hN:N≤6) (hcl:cs.length≤100000) (hms:ms.length≤64)
 (hK: ∀y,Grow w y→cntM N cs≤ms.length→K (.tuple #[.int .i64 (ms.length:Nat),.int .i64 0]) y)
 (hI: ∀u' hs2 gp' gc' mo,CntI w u' n14 N cs hs2 (ms++ [mo]) gp' gc'→∃k19,k19<k18∧I17 (i64.wrap ((ms.length:Int)+ (1:Int))) u' k19):
 Calls prog 22 #[.agg #[.int .i64 (N:Int),.slice gp hs'.length gc],.agg #[.int .i64 (-1),.int .i64 64,.int .i64 200]] v fun e w63=> ∃r64 r65p r65n r65c r66p r66n r66c r67 r68 r69 r70 r71,e= .returned (.tuple #[.agg #[.int .i64 r64,.slice r65p r65n r65c,.slice r66p r66n r66c,.int .i64 r67,.int .i64 r68,.int .i64 r69,.int .i64 r70],.int .i64 r71])∧
       ∃w72,StoreAt (Addr.mk nS 0 none) 0 [.int .i64 r64,.slice r65p r65n r65c,.slice r66p r66n r66c,.int .i64 r67,.int .i64 r68,.int .i64 r69,.int .i64 r70] w63 w72∧
       cnd (r71 !=(0:Int))
       (K (.tuple #[.int .i64 (ms.length:Int),.int .i64 0]) w72)
       (∃x73,w72.cell? ((Addr.mk nS 0 none).add 0)=some (.int .i64 x73)∧
       cnd (x73 !=(1:Int))
       (K (.tuple #[.int .i64 (ms.length:Int),.int .i64 0]) w72)
       (∃x74p x74n x74c,w72.cell? ((Addr.mk nS 0 none).add 1)=some (.slice x74p x74n x74c)∧
         ∃I75:Option Addr→Nat→Nat→Int→World→Nat→Prop,(∃k76,I75 none 0 0 0 w72 k76)∧
         ∀ (other_78_p:Option Addr) (other_78_n:Nat) (other_78_c:Nat) (v79:Int) (w80:World) (k76:Nat) (_:Fr),I75 other_78_p other_78_n other_78_c v79 w80 k76→
         cnd (decide (v79< (x74n:Int)))
          (ixK x74p x74n v79 1 fun a81=>
            ∃x82,w80.cell? a81=some (.int .i64 x82)∧
            ∀n83 w84,New (.cells #[.int .i64 (i64.wrap ((i64.wrap (0 - x82))* (i64.wrap (v79+ (1:Int)))))] 3) w80 n83 w84→
            ∃w85 r86p r86n r86c,(Builtin.append_ #[28,28] 28 #[.slice other_78_p other_78_n other_78_c,.slice (some (Addr.mk n83 0 none)) 1 1]).run prog w84= .ok (.slice r86p r86n r86c) w85∧
            ∃k77,k77<k76∧I75 r86p r86n r86c (i64.wrap (v79+ (1:Int))) w85 k77)
          (∃x87p x87n x87c,w80.cell? ((Addr.mk n14 0 none).add 1)=some (.slice x87p x87n x87c)∧
            ∀n88 w89,New (.cells #[.slice other_78_p other_78_n other_78_c] 28) w80 n88 w89→
            ∃w90 r91p r91n r91c,(Builtin.append_ #[24,24] 24 #[.slice x87p x87n x87c,.slice (some (Addr.mk n88 0 none)) 1 1]).run prog w89= .ok (.slice r91p r91n r91c) w90∧
            ∃w92,StoreAt ((Addr.mk n14 0 none).add 1) 0 [.slice r91p r91n r91c] w90 w92∧
            ∃k19,k19<k18∧I17 (i64.wrap ((ms.length:Int)+ (1:Int))) w92 k19))):=by
 have hln:=I.n
 have hln2:(cs++ms.map bcl).length=cs.length+ms.length:=by simp
 refine (solve_cnt I g hcn hN hcl hms).mono ?_
 rintro e w63 ⟨hs,g63⟩
 have hs':=hs
 obtain ⟨ver,mp,mn,mc,pp,pn,pc,cf,de,re,dr,er,rfl,_⟩:=hs'
 refine ⟨_,_,_,_,_,_,_,_,_,_,_,_,rfl,?_⟩
 refine store_i (hS.grow g63) rfl rfl fun w72 H72 m72=> ?_
 have H72:Has w72 nS #[.int .i64 ver,.slice mp mn mc,.slice pp pn pc,.int .i64 cf,.int .i64 de,.int .i64 re,.int .i64 dr]:=H72
 have G72:Grow u w72:=(g.trans g63).then m72 fun k hk (e:k=nS)=>by omega
 exact count_tail I G72 (by omega) (by omega) H72 (solM_of hs m72 (.inl hS.lt)) (hK _) hI
theorem count_loop {n:Int} (I0:CntI w u n14 N cs hs' [] gp gc) (hcn:cnfB N cs=true) (hN:N≤6) (hcl:cs.length≤100000) (h0:0≤n) (h1:n≤4096) {K:Value→World→Prop}
 (hk: ∀u' (r:Nat),(r:Int)≤n→r≤cntM N cs→((r:Int)=n∨cntM N cs≤r)→Grow w u'→K (.tuple #[.int .i64 r,.int .i64 0]) u'):
 ∃I17:Int→World→Nat→Prop,(∃k18,I17 0 u k18)∧
  ∀ (v20:Int) (w21:World) (k18:Nat) (_:Fr),I17 v20 w21 k18→
  cnd (decide (v20<n))
   (∃W22:World→Prop,W22 w21.drew∧
     ∃x23 x24p x24n x24c,CellsW W22 (Addr.mk n14 0 none) [.int .i64 x23,.slice x24p x24n x24c]∧
     (Calls prog 23 #[] w21.drew fun e w25=> ∃r26 r27 r28,e= .returned (.agg #[.int .i64 r26,.int .i64 r27,.int .i64 r28])∧
     W22 w25∧(Calls prog 22 #[.agg #[.int .i64 x23,.slice x24p x24n x24c],.agg #[.int .i64 r26,.int .i64 r27,.int .i64 r28]] w25 fun e w29=> ∃r30 r31p r31n r31c r32p r32n r32c r33 r34 r35 r36 r37,e= .returned (.tuple #[.agg #[.int .i64 r30,.slice r31p r31n r31c,.slice r32p r32n r32c,.int .i64 r33,.int .i64 r34,.int .i64 r35,.int .i64 r36],.int .i64 r37])∧
     ∀n38 w39,New (.cells #[.int .i64 0,.slice none 0 0,.slice none 0 0,.int .i64 0,.int .i64 0,.int .i64 0,.int .i64 0] 63) w29 n38 w39→
     W22 w39∧∃w40,StoreAt (Addr.mk n38 0 none) 0 [.int .i64 r30,.slice r31p r31n r31c,.slice r32p r32n r32c,.int .i64 r33,.int .i64 r34,.int .i64 r35,.int .i64 r36] w39 w40∧
     cnd (r37 !=(0:Int))
     (K (.tuple #[.int .i64 v20,.int .i64 0]) w40)
     (∃x41,w40.cell? ((Addr.mk n38 0 none).add 0)=some (.int .i64 x41)∧
     cnd (x41 !=(1:Int))
     (K (.tuple #[.int .i64 v20,.int .i64 0]) w40)
     (∃x42p x42n x42c,w40.cell? ((Addr.mk n38 0 none).add 1)=some (.slice x42p x42n x42c)∧
       ∃I43:Option Addr→Nat→Nat→Int→World→Nat→Prop,(∃k44,I43 none 0 0 0 w40 k44)∧
       ∀ (other_46_p:Option Addr) (other_46_n:Nat) (other_46_c:Nat) (v47:Int) (w48:World) (k44:Nat) (_:Fr),I43 other_46_p other_46_n other_46_c v47 w48 k44→
       cnd (decide (v47< (x42n:Int)))
        (ixK x42p x42n v47 1 fun a49=>
          ∃x50,w48.cell? a49=some (.int .i64 x50)∧
          ∀n51 w52,New (.cells #[.int .i64 (i64.wrap ((i64.wrap (0 - x50))* (i64.wrap (v47+ (1:Int)))))] 3) w48 n51 w52→
          ∃w53 r54p r54n r54c,(Builtin.append_ #[28,28] 28 #[.slice other_46_p other_46_n other_46_c,.slice (some (Addr.mk n51 0 none)) 1 1]).run prog w52= .ok (.slice r54p r54n r54c) w53∧
          ∃k45,k45<k44∧I43 r54p r54n r54c (i64.wrap (v47+ (1:Int))) w53 k45)
        (∃x55p x55n x55c,w48.cell? ((Addr.mk n14 0 none).add 1)=some (.slice x55p x55n x55c)∧
          ∀n56 w57,New (.cells #[.slice other_46_p other_46_n other_46_c] 28) w48 n56 w57→
          ∃w58 r59p r59n r59c,(Builtin.append_ #[24,24] 24 #[.slice x55p x55n x55c,.slice (some (Addr.mk n56 0 none)) 1 1]).run prog w57= .ok (.slice r59p r59n r59c) w58∧
          ∃w60,StoreAt ((Addr.mk n14 0 none).add 1) 0 [.slice r59p r59n r59c] w58 w60∧
          ∃k19,k19<k18∧I17 (i64.wrap (v20+ (1:Int))) w60 k19))))∧
   (∀n61 w62,New (.cells #[.int .i64 0,.slice none 0 0,.slice none 0 0,.int .i64 0,.int .i64 0,.int .i64 0,.int .i64 0] 63) w25 n61 w62→
     W22 w62∧Calls prog 22 #[.agg #[.int .i64 x23,.slice x24p x24n x24c],.agg #[.int .i64 r26,.int .i64 r27,.int .i64 r28]] w62 fun e w63=> ∃r64 r65p r65n r65c r66p r66n r66c r67 r68 r69 r70 r71,e= .returned (.tuple #[.agg #[.int .i64 r64,.slice r65p r65n r65c,.slice r66p r66n r66c,.int .i64 r67,.int .i64 r68,.int .i64 r69,.int .i64 r70],.int .i64 r71])∧
     ∃w72,StoreAt (Addr.mk n61 0 none) 0 [.int .i64 r64,.slice r65p r65n r65c,.slice r66p r66n r66c,.int .i64 r67,.int .i64 r68,.int .i64 r69,.int .i64 r70] w63 w72∧
     cnd (r71 !=(0:Int))
     (K (.tuple #[.int .i64 v20,.int .i64 0]) w72)
     (∃x73,w72.cell? ((Addr.mk n61 0 none).add 0)=some (.int .i64 x73)∧
     cnd (x73 !=(1:Int))
     (K (.tuple #[.int .i64 v20,.int .i64 0]) w72)
     (∃x74p x74n x74c,w72.cell? ((Addr.mk n61 0 none).add 1)=some (.slice x74p x74n x74c)∧
       ∃I75:Option Addr→Nat→Nat→Int→World→Nat→Prop,(∃k76,I75 none 0 0 0 w72 k76)∧
       ∀ (other_78_p:Option Addr) (other_78_n:Nat) (other_78_c:Nat) (v79:Int) (w80:World) (k76:Nat) (_:Fr),I75 other_78_p other_78_n other_78_c v79 w80 k76→
       cnd (decide (v79< (x74n:Int)))
        (ixK x74p x74n v79 1 fun a81=>
          ∃x82,w80.cell? a81=some (.int .i64 x82)∧
          ∀n83 w84,New (.cells #[.int .i64 (i64.wrap ((i64.wrap (0 - x82))* (i64.wrap (v79+ (1:Int)))))] 3) w80 n83 w84→
          ∃w85 r86p r86n r86c,(Builtin.append_ #[28,28] 28 #[.slice other_78_p other_78_n other_78_c,.slice (some (Addr.mk n83 0 none)) 1 1]).run prog w84= .ok (.slice r86p r86n r86c) w85∧
          ∃k77,k77<k76∧I75 r86p r86n r86c (i64.wrap (v79+ (1:Int))) w85 k77)
        (∃x87p x87n x87c,w80.cell? ((Addr.mk n14 0 none).add 1)=some (.slice x87p x87n x87c)∧
          ∀n88 w89,New (.cells #[.slice other_78_p other_78_n other_78_c] 28) w80 n88 w89→
          ∃w90 r91p r91n r91c,(Builtin.append_ #[24,24] 24 #[.slice x87p x87n x87c,.slice (some (Addr.mk n88 0 none)) 1 1]).run prog w89= .ok (.slice r91p r91n r91c) w90∧
          ∃w92,StoreAt ((Addr.mk n14 0 none).add 1) 0 [.slice r91p r91n r91c] w90 w92∧
          ∃k19,k19<k18∧I17 (i64.wrap (v20+ (1:Int))) w92 k19)))))∧
   (∀n93 w94,New (.cells #[.int .i64 0,.slice none 0 0,.slice none 0 0,.int .i64 0,.int .i64 0,.int .i64 0,.int .i64 0] 63) w21.drew n93 w94→
     W22 w94∧Calls prog 23 #[] w94 fun e w95=> ∃r96 r97 r98,e= .returned (.agg #[.int .i64 r96,.int .i64 r97,.int .i64 r98])∧
     W22 w95∧Calls prog 22 #[.agg #[.int .i64 x23,.slice x24p x24n x24c],.agg #[.int .i64 r96,.int .i64 r97,.int .i64 r98]] w95 fun e w99=> ∃r100 r101p r101n r101c r102p r102n r102c r103 r104 r105 r106 r107,e= .returned (.tuple #[.agg #[.int .i64 r100,.slice r101p r101n r101c,.slice r102p r102n r102c,.int .i64 r103,.int .i64 r104,.int .i64 r105,.int .i64 r106],.int .i64 r107])∧
     ∃w108,StoreAt (Addr.mk n93 0 none) 0 [.int .i64 r100,.slice r101p r101n r101c,.slice r102p r102n r102c,.int .i64 r103,.int .i64 r104,.int .i64 r105,.int .i64 r106] w99 w108∧
     cnd (r107 !=(0:Int))
     (K (.tuple #[.int .i64 v20,.int .i64 0]) w108)
     (∃x109,w108.cell? ((Addr.mk n93 0 none).add 0)=some (.int .i64 x109)∧
     cnd (x109 !=(1:Int))
     (K (.tuple #[.int .i64 v20,.int .i64 0]) w108)
     (∃x110p x110n x110c,w108.cell? ((Addr.mk n93 0 none).add 1)=some (.slice x110p x110n x110c)∧
       ∃I111:Option Addr→Nat→Nat→Int→World→Nat→Prop,(∃k112,I111 none 0 0 0 w108 k112)∧
       ∀ (other_114_p:Option Addr) (other_114_n:Nat) (other_114_c:Nat) (v115:Int) (w116:World) (k112:Nat) (_:Fr),I111 other_114_p other_114_n other_114_c v115 w116 k112→
       cnd (decide (v115< (x110n:Int)))
        (ixK x110p x110n v115 1 fun a117=>
          ∃x118,w116.cell? a117=some (.int .i64 x118)∧
          ∀n119 w120,New (.cells #[.int .i64 (i64.wrap ((i64.wrap (0 - x118))* (i64.wrap (v115+ (1:Int)))))] 3) w116 n119 w120→
          ∃w121 r122p r122n r122c,(Builtin.append_ #[28,28] 28 #[.slice other_114_p other_114_n other_114_c,.slice (some (Addr.mk n119 0 none)) 1 1]).run prog w120= .ok (.slice r122p r122n r122c) w121∧
          ∃k113,k113<k112∧I111 r122p r122n r122c (i64.wrap (v115+ (1:Int))) w121 k113)
        (∃x123p x123n x123c,w116.cell? ((Addr.mk n14 0 none).add 1)=some (.slice x123p x123n x123c)∧
          ∀n124 w125,New (.cells #[.slice other_114_p other_114_n other_114_c] 28) w116 n124 w125→
          ∃w126 r127p r127n r127c,(Builtin.append_ #[24,24] 24 #[.slice x123p x123n x123c,.slice (some (Addr.mk n124 0 none)) 1 1]).run prog w125= .ok (.slice r127p r127n r127c) w126∧
          ∃w128,StoreAt ((Addr.mk n14 0 none).add 1) 0 [.slice r127p r127n r127c] w126 w128∧
          ∃k19,k19<k18∧I17 (i64.wrap (v20+ (1:Int))) w128 k19)))))
   (K (.tuple #[.int .i64 n,.int .i64 0]) w21):=by
 refine ⟨CntQ w n14 N cs n,⟨_,0,hs',[],gp,gc,rfl,h0,rfl,rfl,I0⟩,?_⟩
 clear I0
 rintro v u z _ ⟨t,hs',ms,gp,gc,rfl,ht,rfl,rfl,I⟩
 have hle:=cnt_le I.nd I.pm
 have h64:=cntM_le (N:=N) (cs:=cs)
 have h65:=pow2_le6 hN
 have hln:=I.n
 have hln2:(cs++ms.map bcl).length=cs.length+ms.length:=by simp
 refine cnd_i (fun r=> ?_) (fun r=> ?_)
 · have r:(ms.length:Int)<n:=by simpa using r
   have gd:Grow u u.drew:=(Mod.refl u).drew
   have hI: ∀u' hs2 gp' gc' mo,CntI w u' n14 N cs hs2 (ms++ [mo]) gp' gc'→∃k19,k19<n.toNat - ms.length∧CntQ w n14 N cs n (i64.wrap ((ms.length:Int)+ (1:Int))) u' k19:=by
    intro u' hs2 gp' gc' mo B
    refine ⟨_,?_,ms.length+1,hs2,ms++ [mo],gp',gc',wN (by omega) (by omega),by omega,rfl,by simp,B⟩
    omega
   have hK: ∀y,Grow w y→cntM N cs≤ms.length→K (.tuple #[.int .i64 (ms.length:Nat),.int .i64 0]) y:=fun y gy hc=>hk y ms.length ht hle (.inr hc) gy
   have D: ∀ {v:World},Grow u.drew v→Has v n14 #[.int .i64 N,.slice gp hs'.length gc]:=fun gv=> (I.has.grow gd).grow gv
   refine ⟨Grow u.drew,Mod.refl _,_,_,_,_,fun v gv=> ⟨cell_add (D gv) rfl,cell_add (D gv) rfl,trivial⟩,⟨?_,?_⟩⟩
   · refine (usual_ok _).mono ?_
     rintro e w25 ⟨rfl,g25⟩
     refine ⟨_,_,_,rfl,g25,⟨?_,?_⟩⟩
     · exact count_after (I17:=CntQ w n14 N cs n) (k18:=n.toNat - ms.length) I (gd.trans g25) g25 hcn hN hcl (by omega) hK hI
     · intro n61 w62 h62
       have e61:=h62.num
       exact ⟨g25.trans h62.mod,count_before (I17:=CntQ w n14 N cs n) (k18:=n.toNat - ms.length) I ((gd.trans g25).trans h62.mod) h62.has (by have:=gd.size;have:=g25.size;omega) hcn hN hcl (by omega) hK hI⟩
   · intro n93 w94 h94
     have e93:=h94.num
     refine ⟨h94.mod,(usual_ok _).mono ?_⟩
     rintro e w95 ⟨rfl,g95⟩
     exact ⟨_,_,_,rfl,h94.mod.trans g95,count_before (I17:=CntQ w n14 N cs n) (k18:=n.toNat - ms.length) I ((gd.trans h94.mod).trans g95) (h94.has.grow g95) (by have:=gd.size;omega) hcn hN hcl (by omega) hK hI⟩
 · have r:n≤(ms.length:Int):=by simpa using r
   have e:(ms.length:Int)=n:=by omega
   have:=hk u ms.length ht hle (.inl e) I.g
   rw [e] at this
   exact this
end
section
variable {w w' w1 w2 u u':World} {N n14:Nat} {cs:List (List Int)} {mo:List Int} {ms:List (List Int)} {hs hs':List Sl} {gp q:Option Addr} {gc m d:Nat}
theorem count_ok {k n:Int} (hc:V2 (Value.int .i64) w q hs cs) (hm:m=cs.length) (hcn:cnfB k cs=true) (hk:k=N) (hN:N≤6) (hcl:cs.length≤100000) (h0:0≤n) (h1:n≤4096):
 Calls prog cdcl_Count.id #[.agg #[.int .i64 k,.slice q m d],.int .i64 n] w fun e w'=> ∃r:Nat,e= .returned (.tuple #[.int .i64 r,.int .i64 0])∧(r:Int)≤n∧r≤cntM N cs∧((r:Int)=n∨cntM N cs≤r)∧Grow w w':=by
 subst hk hm
 refine cdcl_Count.calls ?_
 intro n1 w2 h2
 refine ⟨_,_,_,_,⟨cell_add h2.has rfl,cell_add h2.has rfl,trivial⟩,(checkCnf_ok (hc.grow h2.mod) rfl).mono ?_⟩
 rintro e w5 ⟨rfl,g5⟩
 rw [hcn]
 have G5:=h2.mod.trans g5
 have B5:=h2.has.grow g5
 have gd:Grow w5 w5.drew:=(Mod.refl w5).drew
 have hw:i64.wrap ((cs.length:Int)+n)=(cs.length:Int)+n:=wrap64_of (by omega) (by omega)
 have V:=hc.grow G5
 have e1:=h2.num
 have sG:=G5.size
 have sd:=gd.size
 refine ⟨_,rfl,cnd_f rfl (cnd_f (decide_eq_false (by omega)) (cnd_f (decide_eq_false (by omega)) ⟨_,cell_add B5 rfl,cnd_f (decide_eq_false (by omega)) ⟨_,_,_,cell_add B5 rfl,?_⟩⟩))⟩
 rw [hw]
 refine cnd_f (decide_eq_false (by omega)) ⟨Grow w5.drew,Mod.refl _,_,fun v gv=>cell_add ((B5.grow gd).grow gv) rfl,_,_,_,fun v gv=>cell_add ((B5.grow gd).grow gv) rfl,?_,?_⟩
 · refine (clone2_ok (V.grow gd).h V.n.symm (by omega)).mono ?_
   rintro e w12 ⟨gp,gc,rfl,o12,g12,f12⟩
   refine ⟨_,_,_,rfl,g12,fun n14 w15 h15=> ⟨g12.trans h15.mod,?_⟩⟩
   refine store_i h15.has rfl rfl fun w16 H16 m16=> ?_
   have H16:Has w16 n14 #[.int .i64 N,.slice gp hs.length gc]:=H16
   have e14:=h15.num
   have g16:Grow w12 w16:=Mod.fresh h15.mod m16 (by omega)
   have GG:=(gd.trans g12).trans g16
   have s12:=g12.size
   refine count_loop (w:=w) (K:=fun v w'=> ∃r:Nat,Ending.returned v= .returned (.tuple #[.int .i64 r,.int .i64 0])∧(r:Int)≤n∧r≤cntM N cs∧((r:Int)=n∨cntM N cs≤r)∧Grow w w') ⟨G5.trans GG,H16,o12.grow g16,by simpa using V.n,fun j hj=> ?_,fun j hj hne k hk=> ?_,by simp,by simp,by omega,fun k hk=> ?_⟩ hcn hN hcl h0 h1 fun u' r r1 r2 r3 gu=> ⟨r,rfl,r1,r2,r3,gu⟩
   · simp only [List.map_nil,List.append_nil] at hj ⊢
     exact (V.grow GG).r j hj
   · simp only [List.map_nil,List.append_nil] at hj hne
     have h3:=(V.grow gd).r j hj
     have h4:=h3.2.2.lt hne k hk
     have:=g16.size
     refine ⟨by omega,fun e=> ?_,by omega⟩
     have:=f12 k e
     omega
   · have h5:=f12 k hk
     have h6:=o12.lt k hk
     exact ⟨by omega,by omega⟩
 · intro n129 w130 h130
   refine ⟨h130.mod,(clone2_ok ((V.grow gd).grow h130.mod).h V.n.symm (by omega)).mono ?_⟩
   rintro e w131 ⟨gp,gc,rfl,o131,g131,f131⟩
   refine ⟨_,_,_,rfl,h130.mod.trans g131,?_⟩
   have e129:=h130.num
   have s130:=h130.size
   have l129:=h130.has.lt
   refine store_i (h130.has.grow g131) rfl rfl fun w133 H133 m133=> ?_
   have H133:Has w133 n129 #[.int .i64 N,.slice gp hs.length gc]:=H133
   have GG:Grow w5 w133:=(gd.trans (h130.mod.trans g131)).then m133 fun k hk (e:k=n129)=>by omega
   have s133:=m133.size
   have s131:=g131.size
   refine count_loop (w:=w) (K:=fun v w'=> ∃r:Nat,Ending.returned v= .returned (.tuple #[.int .i64 r,.int .i64 0])∧(r:Int)≤n∧r≤cntM N cs∧((r:Int)=n∨cntM N cs≤r)∧Grow w w') ⟨G5.trans GG,H133,o131.keep m133 fun k hk (e:k=n129)=>by have:=f131 k hk;omega,by simpa using V.n,fun j hj=> ?_,fun j hj hne k hk=> ?_,by simp,by simp,by omega,fun k hk=> ?_⟩ hcn hN hcl h0 h1 fun u' r r1 r2 r3 gu=> ⟨r,rfl,r1,r2,r3,gu⟩
   · simp only [List.map_nil,List.append_nil] at hj ⊢
     exact (V.grow GG).r j hj
   · simp only [List.map_nil,List.append_nil] at hj hne
     have h3:=(V.grow gd).r j hj
     have h4:=h3.2.2.lt hne k hk
     refine ⟨by omega,fun e=> ?_,by omega⟩
     have:=f131 k e
     omega
   · have h5:=f131 k hk
     exact ⟨by omega,by omega⟩
end
end Go.Proofs.YtabengnadcleeaaGreat.W
