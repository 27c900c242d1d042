/- Layer 18: literals and clauses of a formula. -/
import Derived.Test.YtabengnadcleeaaGreatTsA
import Derived.Test.YtabengnadcleeaaGreatRankA
import Derived.Test.YtabengnadcleeaaGreatLitA
namespace Go.Proofs.YtabengnadcleeaaGreat.W.Rk
open Go Go.Fw Go.RowKit Go.TsP
open Go.IntKind (i64)
section
def small (v:List Int):Prop:= ∀x∈v,-1073741824≤x∧x≤1073741824
theorem code_ok' {w:World} {a:Int} {p1:Option Addr} {n1 c1:Nat} {pv:Option Addr} {nv cv:Nat} {v:List Int} (hv:Vw (Value.int .i64) w pv v) (hn:nv=v.length) (hs:small v) {l:Int} (h1: -1073741824≤l) (h2:l≤1073741824):
 Calls Tryz.prog tseitin_Code.id #[.agg #[.int .i64 a,.slice p1 n1 c1,.slice pv nv cv],.int .i64 l] w fun e w'=>e= .returned (.int .i64 (codeP v l))∧Grow w w':=by
 refine tseitin_Code.calls ?_
 intro n1 w2 hw2
 have H:=hw2.has
 unfold codeP
 refine cnd_i (fun q=> ⟨?_,hw2.mod⟩) (fun q=> ?_)<;>simp only [decide_eq_true_eq,decide_eq_false_iff_not] at q
 · rw [if_pos (.inl q)]
 · have hd:l.tdiv 2=l / 2:=Int.tdiv_eq_ediv_of_nonneg (by omega)
   have e1:i64.wrap (l.tdiv 2)=l.tdiv 2:=wrap64_of (by omega) (by omega)
   have e2:i64.wrap (l.tdiv 2 - 1)=l.tdiv 2 - 1:=wrap64_of (by omega) (by omega)
   rw [e1,e2]
   refine ⟨by decide,_,_,_,cell_add H rfl,cnd_i (fun q2=> ⟨?_,hw2.mod⟩) (fun q2=> ?_)⟩<;>simp only [decide_eq_true_eq,decide_eq_false_iff_not] at q2
   · rw [if_pos (.inr (by omega))]
   · rw [if_neg (by omega)]
     refine ⟨_,_,_,cell_add H rfl,by decide,(hv.grow hw2.mod).ix 0 (by omega) hn (by omega) fun a5 e5=> ⟨_,e5,by decide,cnd_i (fun q3=> ⟨?_,hw2.mod⟩) (fun q3=> ⟨?_,hw2.mod⟩)⟩⟩<;>simp only [beq_iff_eq,beq_eq_false_iff_ne] at q3
     · rw [if_pos q3]
       have:=hs _ (getD_mem (l:=v) (t:=(l.tdiv 2 - 1).toNat) (by omega) 0)
       rw [wrap64_of (by omega) (by omega)]
       congr 2;omega
     · rw [if_neg q3]
structure Bd where
 k:Int
 pc:Option Addr
 cc:Nat
 hs:List Sl
 cl:List (List Int)
 pv:Option Addr
 cv:Nat
 v:List Int
abbrev Bd.row (x:Bd):Array Value:= #[.int .i64 x.k,.slice x.pc x.cl.length x.cc,.slice x.pv x.v.length x.cv]
structure BRep (w:World) (b:Nat) (x:Bd):Prop where
 me:Has w b x.row
 c:OV (Value.int .i64) ty_sl_int w x.pc x.cc x.hs x.cl
 v:OwI ty_int w x.pv x.cv x.v
 bc: ¬OV.foot x.pc x.hs b
 bv:blk x.pv≠some b
 cv: ∀k,blk x.pv=some k→¬OV.foot x.pc x.hs k
def Bd.foot (x:Bd) (b k:Nat):Prop:=k=b∨OV.foot x.pc x.hs k∨blk x.pv=some k
theorem BRep.keep {w w':World} {b:Nat} {x:Bd} {S:Nat→Prop} (h:BRep w b x) (m:Mod S w w') (hS: ∀k,x.foot b k→¬S k):BRep w' b x:=
 ⟨h.me.keep m (hS b (.inl rfl)),h.c.keep m fun k hk=>hS k (.inr (.inl hk)),h.v.keep m fun k hk=>hS k (.inr (.inr hk)),h.bc,h.bv,h.cv⟩
theorem BRep.grow {w w':World} {b:Nat} {x:Bd} (h:BRep w b x) (m:Grow w w'):BRep w' b x:=h.keep m fun _ _=>id
theorem BRep.lt {w:World} {b:Nat} {x:Bd} (h:BRep w b x): ∀k,x.foot b k→k<w.heap.size:=by
 rintro k (rfl|hk|hk)
 · exact h.me.lt
 · exact h.c.lt k hk
 · exact h.v.lt k hk
theorem sl_sl:slOk Tryz.prog ty_sl_sl_int ty_sl_int 24=true:=sl_sl_int
theorem BRep.app {w:World} {b:Nat} {x:Bd} (h:BRep w b x) (hlen:x.cl.length≤1000000) {s:Sl} {l:List Int} {n:Nat} (hb:Has w n #[s.v]) (hl:Vw (Value.int .i64) w s.p l) (hn:s.n=l.length) (hm:s.n≤maxLen) (hd: ∀k,rfoot [s] k→¬x.foot b k) {K:World→Option Addr→Nat→Nat→Prop}
 (hk: ∀w' p' c',OV (Value.int .i64) ty_sl_int w' p' c' (x.hs++ [s]) (x.cl++ [l])→(∀k,OV.foot p' (x.hs++ [s]) k→OV.foot x.pc x.hs k∨rfoot [s] k∨w.heap.size≤k)→Mod (fun k=>blk x.pc=some k) w w'→K w' p' (x.cl.length+1) c'):
 ∃w',∃p' n' c',(Builtin.append_ #[24,24] 24 #[.slice x.pc x.cl.length x.cc,.slice (some ⟨n,0,none⟩) 1 1]).run Tryz.prog w= .ok (.slice p' n' c') w'∧K w' p' n' c':=by
 have hv:Vw Sl.v w (some ⟨n,0,none⟩) [s]:=by
  intro j hj
  have:j=0:=by simpa using hj
  subst this
  exact ⟨_,rfl,cell_add hb rfl⟩
 have hr:VR (Value.int .i64) w [s] [l]:=VR.one hl hn hm
 have hx:=h.c.v.n
 refine h.c.app sl_sl hv hr (by omega) rfl (fun k hk e=>hd k hk (.inr (.inl (.inl e)))) (by simp;omega) fun w' p' c' o m hp hz=> ?_
 have e:(x.hs++ [s]).length=x.cl.length+1:=by simp [hx]
 rw [e]
 refine hk w' p' c' o (fun k hk=> ?_) m
 rcases hk with hk|hk
 · rcases hp with rfl|rfl
   · exact .inl (.inl hk)
   · have:=blk_some hk;exact .inr (.inr (by omega))
 · rcases rfoot_app.1 hk with hk|hk
   · exact .inl (.inr hk)
   · exact .inr (.inl hk)
theorem add_ok {w:World} {b:Nat} {x:Bd} (h:BRep w b x) (hs:small x.v) (hlen:x.cl.length≤1000000) {p:Option Addr} {n c:Nat} {l:List Int} (hl:Vw (Value.int .i64) w p l) (hn:n=l.length) (hb: ∀y∈l,-1073741824≤y∧y≤1073741824) (hll:n≤1000000):
 Calls Tryz.prog tseitin_builder_add.id #[ptr b,.slice p n c] w fun e w'=>e= .returned (.tuple #[])∧∃x',BRep w' b x'∧x'.k=x.k∧x'.v=x.v∧x'.cl=x.cl++ (clP x.v l).toList∧(∀k,x'.foot b k→x.foot b k∨w.heap.size≤k)∧Mod (x.foot b) w w':=by
 subst hn
 refine tseitin_builder_add.calls ?_
 refine ⟨fun pc nc cc v w' k=> ∃ (t:Nat) (o:List Int),nc=o.length∧v=t∧t≤l.length∧clP x.v (l.take t)=some o∧o.length≤t∧OwI ty_int w' pc cc o∧(∀k,blk pc=some k→w.heap.size≤k)∧Grow w w'∧k+t=l.length,⟨_,0,[],rfl,rfl,Nat.zero_le _,rfl,Nat.zero_le _,Ow.nil _ _ _,by simp [blk],Mod.refl w,rfl⟩,?_⟩
 rintro pc nc cc v w6 k _ ⟨t,o,rfl,rfl,ht,ho,hol,O,fr,G,hk⟩
 have h6:=h.grow G
 refine cnd_i (fun q=> ?_) (fun q=> ?_)<;>simp only [decide_eq_true_eq,decide_eq_false_iff_not] at q
 · have ht':t<l.length:=by omega
   have hbl:=hb _ (getD_mem ht' 0)
   have ct:=clP_take ht' ho
   refine (hl.grow G).ix 0 (by omega) rfl q fun a e=> ⟨_,e,?_⟩
   rw [Int.toNat_natCast]
   refine cnd_i (fun q1=> ?_) (fun q1=>cnd_i (fun q2=> ?_) (fun q2=> ?_))<;>simp only [beq_iff_eq,beq_eq_false_iff_ne] at*
   · refine ⟨trivial,x,h6,rfl,rfl,?_,fun k=> .inl,G.mono fun _ _=>False.elim⟩
     rw [clP_one ht' q1];simp
   · rw [if_neg q1,if_pos q2] at ct
     exact ⟨k - 1,by omega,t+1,o,rfl,by rw [wrap64_of (by omega) (by omega)];omega,ht',ct,by omega,O,fr,G,by omega⟩
   · rw [if_neg q1,if_neg q2] at ct
     have e0:(Addr.mk b 0 none).add 0=⟨b,0,none⟩:=by rw [add_at]
     refine ⟨_,rfl,_,_,_,_,_,_,_,by rw [e0];exact cells3 h6.me,(code_ok' h6.v.vw rfl hs hbl.1 hbl.2).mono ?_⟩
     rintro e w13 ⟨rfl,g13⟩
     refine ⟨_,rfl,?_⟩
     intro n15 w16 h15
     refine ((O.grow g13).grow h15.mod).app1 sl_int _ h15.has rfl rfl oneInt (by omega) fun w17 p17 c17 O17 m17 hp17 z17=> ?_
     have g16:=(G.trans g13).trans h15.mod
     refine ⟨k - 1,by omega,t+1,_,by simp,by rw [wrap64_of (by omega) (by omega)];omega,ht',ct,by simp;omega,O17,fun j hj=> ?_,g16.then m17 fun j hj e=>by have:=fr j e;omega,by omega⟩
     rcases hp17 with rfl|rfl
     · exact fr j hj
     · have:=blk_some hj;have:=g16.size;omega
 · have:t=l.length:=by omega
   subst this
   rw [List.take_length] at ho
   refine ⟨_,rfl,_,_,_,cell_add3 h6.me rfl,?_⟩
   intro n21 w22 h21
   have h22:=h6.grow h21.mod
   have O22:=O.grow h21.mod
   have hlt:=h.lt
   have hxb:=h.lt b (.inl rfl)
   refine h22.app hlen (s:=⟨pc,o.length,cc⟩) (l:=o) h21.has O22.vw rfl (by unfold maxLen;simp only;omega) (fun k hk e=> ?_) fun w23 p23 c23 o23 f23 m23=> ?_
   · obtain ⟨s,hm,h0,hk⟩:=hk
     simp at hm;subst hm
     have:=fr k hk
     have:=hlt k e;omega
   · have me23:=h22.me.keep m23 fun e=>h.bc (.inl e)
     refine ⟨_,rfl,store_f3 me23 rfl rfl fun w26 h26 m26=> ⟨rfl,⟨x.k,p23,c23,x.hs++ [⟨pc,o.length,cc⟩],x.cl++ [o],x.pv,x.cv,x.v⟩,?_,rfl,rfl,by rw [ho];rfl,?_,?_⟩⟩
     · have z22:=(G.trans h21.mod).size
       have rf: ∀k,rfoot [(⟨pc,o.length,cc⟩:Sl)] k→w.heap.size≤k:=fun k ⟨s,hm,h0,hk⟩=>by
        simp at hm;subst hm
        exact fr k hk
       have nb: ¬OV.foot p23 (x.hs++ [⟨pc,o.length,cc⟩]) b:=fun e=>by
        rcases f23 b e with e|e|e
        · exact h.bc e
        · have:=rf b e;omega
        · omega
       refine ⟨?_,o23.keep m26 fun k hk e=>nb (by rw [← e];exact hk),(h22.v.keep m23 fun k hk e=>h.cv k hk (.inl e)).keep m26 fun k hk e=>h.bv (by rw [hk,e]),nb,h.bv,fun k hk e=> ?_⟩
       · have:(x.cl++ [o]).length=x.cl.length+1:=by simp
         show Has w26 b #[_,.slice p23 (x.cl++ [o]).length c23,_]
         rw [this]
         exact h26
       · have:=hlt k (.inr (.inr hk))
         rcases f23 k e with e|e|e
         · exact h.cv k hk e
         · have:=rf k e;omega
         · omega
     · have z22:=(G.trans h21.mod).size
       rintro k (rfl|hk|hk)
       · exact .inl (.inl rfl)
       · rcases f23 k hk with e| ⟨s,hm,h0,hk⟩|e
         · exact .inl (.inr (.inl e))
         · simp at hm;subst hm
           exact .inr (fr k hk)
         · exact .inr (by omega)
       · exact .inl (.inr (.inr hk))
     · exact (((G.trans h21.mod).mono fun _ _=>False.elim).then m23 fun k _ e=> .inr (.inl (.inl e))).then m26 fun k _ e=> .inl e
end
section
open Classical in
noncomputable def inP (g:List (Int × Int)) (cs:List (List Int)) (k:Nat):Bool:=decide (H g cs k)
theorem inP_iff {g:List (Int × Int)} {cs:List (List Int)} {k:Nat}:inP g cs k=true↔H g cs k:=by simp [inP]
theorem pushVar {wb w:World} {b:Nat} {x:Bd} (h:BRep w b x) (F: ∀k,x.foot b k→wb.heap.size≤k) (G:Grow wb w) (y:Int) (hl:x.v.length≤1000000) {K:World→Prop}
 (hk: ∀w' x',BRep w' b x'→x'.k=x.k→x'.cl=x.cl→x'.v=x.v++ [y]→(∀k,x'.foot b k→wb.heap.size≤k)→Grow wb w'→K w'):
 ∀n28 w29,New (.cells #[.int .i64 y] 3) w n28 w29→
  ∃w30 r31p r31n r31c,(Builtin.append_ #[28,28] 28 #[.slice x.pv x.v.length x.cv,.slice (some (Addr.mk n28 0 none)) 1 1]).run Tryz.prog w29= .ok (.slice r31p r31n r31c) w30∧
  ∃a32,(some (Addr.mk b 0 none))=some a32∧∃w33,StoreAt ((a32.add 0).add 2) 0 [.slice r31p r31n r31c] w30 w33∧K w33:=by
 intro n28 w29 h28
 have h29:=h.grow h28.mod
 refine h29.v.app1 sl_int y h28.has rfl rfl oneInt (by omega) fun w30 p c o m hp z=> ?_
 have me:=h29.me.keep m fun e=>h.bv e
 have hc:=h29.c.keep m fun k hk e=>h.cv k e hk
 refine ⟨_,rfl,store_f2 me rfl rfl fun w33 h33 m33=> ?_⟩
 have zG:=(G.trans h28.mod).size
 have fr: ∀k,blk p=some k→(blk x.pv=some k∨w29.heap.size≤k):=fun k hk=>by
  rcases hp with rfl|rfl
  · exact .inl hk
  · have:=blk_some hk;exact .inr (by omega)
 have hb29:=h29.lt b (.inl rfl)
 have nb:blk p≠some b:=fun e=>by
  rcases fr b e with e|e
  · exact h.bv e
  · omega
 have g30:Grow wb w30:=(G.trans h28.mod).then m fun k hk e=>by have:=F k (.inr (.inr e));omega
 refine hk w33 ⟨x.k,x.pc,x.cc,x.hs,x.cl,p,c,x.v++ [y]⟩ ⟨?_,hc.keep m33 fun k hk e=>h.bc (by rw [← e];exact hk),o.keep m33 fun k hk e=>nb (by rw [hk,e]),h.bc,nb,fun k hk e=> ?_⟩ rfl rfl rfl ?_ (g30.then m33 fun k hk e=>by have:=F b (.inl rfl);omega)
 · have:(x.v++ [y]).length=x.v.length+1:=by simp
   show Has w33 b #[_,_,.slice p (x.v++ [y]).length c]
   rw [this]
   exact h33
 · rcases fr k hk with e2|e2
   · exact h.cv k e2 e
   · have:=h29.lt k (.inr (.inl e));omega
 · rintro k (rfl|hk|hk)
   · exact F k (.inl rfl)
   · exact F k (.inr (.inl hk))
   · rcases fr k hk with e|e
     · exact F k (.inr (.inr e))
     · omega
theorem BRep.setK {w w':World} {b:Nat} {x:Bd} (h:BRep w b x) {k:Int} (hw:Has w' b #[.int .i64 k,.slice x.pc x.cl.length x.cc,.slice x.pv x.v.length x.cv]) (m:Mod (·=b) w w'):BRep w' b {x with k:=k}:=
 ⟨hw,h.c.keep m fun k hk e=>h.bc (by rw [← e];exact hk),h.v.keep m fun k hk e=>h.bv (by rw [hk,e]),h.bc,h.bv,h.cv⟩
theorem vs_small (P:Nat→Bool) {n:Nat} (h:n≤1073741824):small (vs P n):=by
 intro x hx
 simp only [vs,List.mem_map,List.mem_range] at hx
 obtain ⟨i,hi,rfl⟩:=hx
 have:=cnt_le P (i+1)
 split<;>omega
theorem gcl_len (g:List (Int × Int)) (P:Nat→Bool) (t:Nat):(gcls g P t).length≤3*t:=by
 induction t with
 |zero=>simp [gcls]
 |succ t ih=>
  rw [gcls_succ,List.length_append]
  have:(gcl g P t).length≤3:=by unfold gcl;split<;>simp
  omega
theorem outC_len (v:List Int) (l:List (List Int)):(outC v l).length≤l.length:=List.length_filterMap_le _ _
theorem outC_snoc (v:List Int) (l:List (List Int)) (c:List Int):outC v (l++ [c])=outC v l++ (clP v c).toList:=by rw [outC_app,outC_one]
theorem out_cnf {g:List (Int × Int)} {cs:List (List Int)} (h:mayT g cs=true) (hn:g.length≤4096) (hm:cs.length≤4096):cnfB (cnt (inP g cs) g.length) (outC (vs (inP g cs) g.length) (allC g cs (inP g cs)))=true:=by
 have hgm:=mayT_g h
 have hc:=cnt_le (inP g cs) g.length
 have h1:=gcl_len g (inP g cs) g.length
 have h2:=outC_len (vs (inP g cs) g.length) (allC g cs (inP g cs))
 have h3:(allC g cs (inP g cs)).length≤3*g.length+cs.length:=by unfold allC;rw [List.length_append];omega
 unfold cnfB
 rw [decide_eq_true (by omega),Bool.true_and,List.all_eq_true]
 intro o ho
 obtain ⟨c,hca,hco⟩:=List.mem_filterMap.1 ho
 have key:c.length≤4096∧∀l∈c,l≠0→l≠1→2≤l∧l≤2*g.length+1∧inP g cs (l.tdiv 2).toNat=true:=by
  rcases List.mem_append.1 hca with hca|hca
  · obtain ⟨i,hi,hci⟩:=List.mem_flatMap.1 hca
    have hi:i<g.length:=List.mem_range.1 hi
    unfold gcl at hci
    split at hci
    · rename_i hP
      obtain ⟨hP,hA⟩:=hP
      have hb:=okG_and (mayG_at hgm hi) hA
      have hH:=inP_iff.1 hP
      generalize hx:g.getD i (0,0)=x at*
      obtain ⟨A,B⟩:=x
      simp only at hA hb hci
      have in1: ∀l:Int,(l / 2=A / 2∨l / 2=B / 2)→0≤l→inP g cs (l.tdiv 2).toNat=true:=by
       intro l hl h0
       rw [inP_iff,Int.tdiv_eq_ediv_of_nonneg h0]
       have hk:kid g i (l / 2).toNat:=by
        refine ⟨by rw [hx];exact hA,?_⟩
        rw [hx]
        simp only
        rw [Int.tdiv_eq_ediv_of_nonneg hA,Int.tdiv_eq_ediv_of_nonneg hb.1]
        omega
       exact .kid (kid_le hgm hi hk) hi hk hH
      have in2: ∀l:Int,(l=2*i+3∨l=2*i+2)→inP g cs (l.tdiv 2).toNat=true:=by
       intro l hl
       rw [Int.tdiv_eq_ediv_of_nonneg (by omega),show (l / 2).toNat=i+1 by omega]
       exact hP
      have fA:flipL A / 2=A / 2∧0≤flipL A∧flipL A≤2*i+1:=by unfold flipL;split<;>omega
      have fB:flipL B / 2=B / 2∧0≤flipL B∧flipL B≤2*i+1:=by unfold flipL;split<;>omega
      simp only [List.mem_cons,List.not_mem_nil,or_false] at hci
      rcases hci with rfl|rfl|rfl
      · refine ⟨by simp,fun l hl h0 h1=> ?_⟩
        simp only [List.mem_cons,List.not_mem_nil,or_false] at hl
        rcases hl with rfl|rfl
        · exact ⟨by omega,by omega,in2 _ (.inl rfl)⟩
        · exact ⟨by omega,by omega,in1 _ (.inl rfl) (by omega)⟩
      · refine ⟨by simp,fun l hl h0 h1=> ?_⟩
        simp only [List.mem_cons,List.not_mem_nil,or_false] at hl
        rcases hl with rfl|rfl
        · exact ⟨by omega,by omega,in2 _ (.inl rfl)⟩
        · exact ⟨by omega,by omega,in1 _ (.inr rfl) (by omega)⟩
      · refine ⟨by simp,fun l hl h0 h1=> ?_⟩
        simp only [List.mem_cons,List.not_mem_nil,or_false] at hl
        rcases hl with rfl|rfl|rfl
        · exact ⟨by omega,by omega,in2 _ (.inr rfl)⟩
        · exact ⟨by omega,by omega,in1 _ (.inl fA.1) (by omega)⟩
        · exact ⟨by omega,by omega,in1 _ (.inr fB.1) (by omega)⟩
    · simp at hci
  · have h':=h
    simp only [mayT,Bool.and_eq_true,List.all_eq_true] at h'
    have hc1:=h'.2 c hca
    simp only [mayC,Bool.and_eq_true,List.all_eq_true,decide_eq_true_eq] at hc1
    refine ⟨hc1.2,fun l hl h0 h1=> ?_⟩
    have:=hc1.1 l hl
    simp only [isL,decide_eq_true_eq] at this
    refine ⟨by omega,this.2,?_⟩
    rw [inP_iff]
    refine .hit ⟨c,hca,l,hl,?_⟩
    rw [Int.tdiv_eq_ediv_of_nonneg this.1];omega
 have hl: ∀x∈o,x≠0∧ -(cnt (inP g cs) g.length:Int)≤x∧x≤cnt (inP g cs) g.length:=by
  intro x hx
  obtain ⟨l,hl,h0,h1,rfl⟩:=clP_mem hco x hx
  obtain ⟨k1,k2,k3⟩:=key.2 l hl h0 h1
  exact code_ok k1 k2 k3
 rw [Bool.and_eq_true]
 refine ⟨?_,?_⟩
 · have:=clP_len hco
   simp only [clB,Bool.and_eq_true,List.all_eq_true,decide_eq_true_eq]
   refine ⟨fun x hx=> ?_,by omega⟩
   have:=hl x hx
   simp only [litB,decide_eq_true_eq]
   omega
 · rw [List.all_eq_true]
   intro x hx
   have:=hl x hx
   refine decide_eq_true ?_
   unfold amt
   split<;>omega
end
section
structure Coded (w:World) (pc:Option Addr) (cl:List (List Int)) (pv:Option Addr) (v:List Int):Prop where
 c: ∃hs,V2 (Value.int .i64) w pc hs cl
 v:Vw (Value.int .i64) w pv v
noncomputable abbrev tV (g:List (Int × Int)) (cs:List (List Int)):List Int:=vs (inP g cs) g.length
noncomputable abbrev tK (g:List (Int × Int)) (cs:List (List Int)):Int:=(cnt (inP g cs) g.length:Nat)
noncomputable abbrev tC (g:List (Int × Int)) (cs:List (List Int)):List (List Int):=outC (tV g cs) (allC g cs (inP g cs))
theorem build_ok {w:World} {p q:Option Addr} {g:List (Int × Int)} {n c m d:Nat} {hs:List Sl} {cs:List (List Int)} (hn:n=g.length) (hg:n≤4096) (hm:m=cs.length) (hx:m≤4096) (h:Vr 2 gateV w p g) (hc:V2 (Value.int .i64) w q hs cs):
 Calls Tryz.prog tseitin_Build.id #[.slice p n c,.slice q m d] w fun e w'=> ((mayT g cs=false∧e= .returned (.tuple #[.agg #[.int .i64 0,.slice none 0 0,.slice none 0 0],.int .i64 1]))∨
  (mayT g cs=true∧∃pc cc pv cv,e= .returned (.tuple #[.agg #[.int .i64 (tK g cs),.slice pc (tC g cs).length cc,.slice pv (tV g cs).length cv],.int .i64 0])∧Coded w' pc (tC g cs) pv (tV g cs)))∧Grow w w':=by
 subst hn hm
 refine tseitin_Build.calls ?_
 intro n1 w2 h2
 have H1:=h2.has
 have e1:=h2.num
 have z2:=New.size h2
 refine (tsMay_ok (h.grow h2.mod) rfl (by omega) (hc.grow h2.mod) rfl (by omega)).mono ?_
 rintro e w3 ⟨rfl,g3⟩
 have G3:=h2.mod.trans g3
 have z3:=g3.size
 refine ⟨_,rfl,cnd_i (fun s=> ?_) (fun s=> ?_)⟩<;>simp only [Bool.not_eq_true',Bool.not_eq_false'] at s
 · refine store_i (H1.grow g3) rfl rfl fun w5 h5 m5=> ⟨_,_,_,_,_,_,_,cells3 h5,.inl ⟨s,rfl⟩,G3.then m5 fun k hk e=>by omega⟩
 refine (cone_ok rfl (by omega) rfl (by omega) s (h.grow G3) (hc.grow G3)).mono ?_
 rintro e w9 ⟨⟨r,cr,inn,rfl,O,hil,hin⟩,g9⟩
 have G9:=G3.trans g9
 have z9:=g9.size
 have hinn: ∀k,k≤g.length→inn.getD k false=inP g cs k:=fun k hk=>by
  exact Bool.eq_iff_iff.2 ((hin k hk).trans inP_iff.symm)
 refine ⟨_,_,_,rfl,?_⟩
 intro n11 w12 h12
 have e12:=h12.num
 have B0:BRep w12 n11 ⟨0,none,0,[],[],none,0,[]⟩:=⟨h12.has,OV.nil,Ow.nil _ _ _,(by rintro (e| ⟨s,hs,_⟩)<;>simp [blk] at*),(by simp [blk]),(by simp [blk])⟩
 have F0: ∀k,Bd.foot ⟨0,none,0,[],[],none,0,[]⟩ n11 k→w9.heap.size≤k:=by
  rintro k (rfl| (e| ⟨s,hs,_⟩)|e)
  · omega
  · simp [blk] at e
  · simp at hs
  · simp [blk] at e
 refine ⟨fun v w' z=> ∃ (t:Nat) (x:Bd),v=t∧t≤g.length∧BRep w' n11 x∧x.k=cnt (inP g cs) t∧x.v=vs (inP g cs) t∧x.cl= []∧(∀k,x.foot n11 k→w9.heap.size≤k)∧Grow w9 w'∧z+t=g.length,
  ⟨_,0,_,rfl,Nat.zero_le _,B0,rfl,rfl,rfl,F0,h12.mod,rfl⟩,?_⟩
 clear B0 F0
 rintro v w17 z _ ⟨t,x,rfl,ht,B,xk,xv,xc,F,G,hz⟩
 have O17:=O.grow G
 refine cnd_i (fun q1=> ?_) (fun q1=> ?_)<;>simp only [decide_eq_true_eq,decide_eq_false_iff_not] at q1
 · have ht':t<g.length:=by omega
   have ew:i64.wrap ((t:Int)+1)=((t+1:Nat):Int):=by rw [wrap64_of (by omega) (by omega)];omega
   have hxl:x.v.length=t:=by rw [xv,vs_len]
   have hcl:=cnt_le (inP g cs) t
   rw [ew]
   refine O17.ix false (by omega) hil.symm (by omega) fun a e=> ⟨_,e,?_⟩
   rw [Int.toNat_natCast,hinn (t+1) (by omega)]
   refine cnd_i (fun q2=> ?_) (fun q2=> ?_)
   · have ek:i64.wrap (x.k+1)=((cnt (inP g cs) (t+1):Nat):Int):=by
      rw [xk,wrap64_of (by omega) (by omega)]
      rw [cnt_succ,if_pos q2];omega
     refine ⟨_,rfl,_,cell_add3 B.me rfl,_,rfl,store_f3 B.me rfl rfl fun w23 h23 m23=> ?_⟩
     have B2:BRep w23 n11 {x with k:=i64.wrap (x.k+1)}:=B.setK h23 m23
     have G23:Grow w9 w23:=G.then m23 fun k hk e=>by have:=F n11 (.inl rfl);omega
     refine ⟨_,rfl,_,cell_add3 B2.me rfl,_,rfl,_,_,_,cell_add2 B2.me rfl,?_⟩
     refine pushVar B2 F G23 _ (by simp only;omega) fun w' x' B' k' c' v' F' G'=> ⟨z - 1,by omega,t+1,x',rfl,ht',B',?_,?_,by rw [c'];exact xc,F',G',by omega⟩
     · rw [k'];exact ek
     · rw [v',vs_succ,if_pos q2,← xv];simp only;rw [ek]
   · refine ⟨_,rfl,_,_,_,cell_add2 B.me rfl,?_⟩
     refine pushVar B F G _ (by omega) fun w' x' B' k' c' v' F' G'=> ⟨z - 1,by omega,t+1,x',rfl,ht',B',?_,?_,by rw [c'];exact xc,F',G',by omega⟩
     · rw [k',xk,cnt_succ,q2];rfl
     · rw [v',vs_succ,q2,← xv];rfl
 have et:t=g.length:=by omega
 subst et
 have sm:=vs_small (inP g cs) (n:=g.length) (by omega)
 have hcn:=cnt_le (inP g cs) g.length
 have hgm:=mayT_g s
 have hgl:=gcl_len g (inP g cs)
 refine ⟨fun v w' z=> ∃ (t:Nat) (x:Bd),v=t∧t≤g.length∧BRep w' n11 x∧x.k=tK g cs∧x.v=tV g cs∧x.cl=outC (tV g cs) (gcls g (inP g cs) t)∧(∀k,x.foot n11 k→w9.heap.size≤k)∧Grow w9 w'∧z+t=g.length,
  ⟨_,0,x,rfl,Nat.zero_le _,B,xk,xv,by rw [xc];rfl,F,G,rfl⟩,?_⟩
 clear B xk xv xc F G O17 hz
 rintro v w46 z _ ⟨t,x,rfl,ht,B,xk,xv,xc,F,G,hz⟩
 refine cnd_i (fun q1=> ?_) (fun q1=> ?_)<;>simp only [decide_eq_true_eq,decide_eq_false_iff_not] at q1
 · have ht':t<g.length:=by omega
   have ew:i64.wrap ((t:Int)+1)=((t+1:Nat):Int):=by rw [wrap64_of (by omega) (by omega)];omega
   rw [ew]
   have hok:=mayG_at hgm ht'
   refine gIx (h.grow (G9.trans G)) rfl ht' fun a x0 x1=> ⟨_,_,⟨x0,x1,trivial⟩,?_⟩
   intro n50 w51 h51
   have e51:=h51.num
   have z51:=New.size h51
   refine store_i h51.has rfl rfl fun w52 h52 m52=> ?_
   have g52:Grow w46 w52:=h51.mod.fresh m52 (by omega)
   have G52:=G.trans g52
   have z52:=g52.size
   have hlt:=B.lt
   have gs:=gcls_succ g (inP g cs) t
   generalize hgt:g.getD t (0,0)=gt at*
   obtain ⟨A,C⟩:=gt
   have h52:Has w52 n50 #[.int .i64 A,.int .i64 C]:=h52
   have same: ∀w',Grow w46 w'→gcl g (inP g cs) t= []→∃k44:Nat,k44<z∧∃ (t':Nat) (x:Bd),((t+1:Nat):Int)=t'∧t'≤g.length∧BRep w' n11 x∧x.k=tK g cs∧x.v=tV g cs∧x.cl=outC (tV g cs) (gcls g (inP g cs) t')∧(∀k,x.foot n11 k→w9.heap.size≤k)∧Grow w9 w'∧k44+t'=g.length:=fun w' gg hno=>
    ⟨z - 1,by omega,t+1,x,rfl,ht',B.grow gg,xk,xv,by rw [gs,hno,List.append_nil];exact xc,F,G.trans gg,by omega⟩
   refine (O.grow G52).ix false (by omega) hil.symm (by omega) fun a e=> ⟨_,e,?_⟩
   rw [Int.toNat_natCast,hinn (t+1) (by omega)]
   refine cnd_i (fun q2=>same _ g52 ?_) (fun q2=> ⟨_,_,⟨cell_add h52 rfl,cell_add h52 rfl,trivial⟩,(tsAnd_ok A C w52).mono ?_⟩)<;>simp only [Bool.not_eq_true',Bool.not_eq_false'] at q2
   · unfold gcl;rw [q2];simp
   rintro e w57 ⟨rfl,g57⟩
   refine ⟨_,rfl,cnd_i (fun q3=>same _ (g52.trans g57) ?_) (fun q3=> ?_)⟩<;>simp only [Bool.not_eq_true',Bool.not_eq_false',decide_eq_true_eq,decide_eq_false_iff_not,ge_iff_le] at q3
   · unfold gcl;rw [hgt,if_neg (fun hh=>q3 hh.2)]
   have hb:=okG_and hok q3
   simp only at hb
   have gc:gcl g (inP g cs) t= [[2* (t:Int)+3,A],[2* (t:Int)+3,C],[2* (t:Int)+2,flipL A,flipL C]]:=by
    unfold gcl;rw [hgt,if_pos ⟨q2,q3⟩]
   have l2:i64.wrap (2* ((t+1:Nat):Int))=2* (t:Int)+2:=by rw [wrap64_of (by omega) (by omega)];omega
   have f1:flip (2* (t:Int)+2)=2* (t:Int)+3:=by unfold flip;rw [if_pos (by omega)];omega
   have fl: ∀y,flip y=flipL y:=fun _=>rfl
   rw [l2,xor1 (by omega) (by omega),f1]
   have G57:=G52.trans g57
   have h57:=h52.grow g57
   have B57:=B.grow (g52.trans g57)
   have z57:=g57.size
   have hcl0:x.cl.length≤3*t:=by rw [xc];exact Nat.le_trans (outC_len _ _) (hgl t)
   refine ⟨_,cell_add h57 rfl,?_⟩
   intro n60 w61 h61
   have L1:OwI ty_int w61 (some ⟨n60,0,none⟩) 2 [2* (t:Int)+3,A]:=Ow.of_some h61.at (Nat.le_refl _) (by unfold maxLen;omega) rfl rfl
   refine (add_ok (B57.grow h61.mod) (by rw [xv];exact sm) (by omega) L1.vw rfl (fun y hy=>by simp at hy;rcases hy with rfl|rfl<;>omega) (by simp)).mono ?_
   rintro e w62 ⟨rfl,x2,B2,k2,v2,c2,f2,m2⟩
   have G62:Grow w9 w62:=(G57.trans h61.mod).then m2 fun k hk e=>by have:=F k e;omega
   have F2: ∀k,x2.foot n11 k→w9.heap.size≤k:=fun k hk=>by
    rcases f2 k hk with e|e
    · exact F k e
    · have:=(G57.trans h61.mod).size;omega
   have n50f: ¬x.foot n11 n50:=fun e=>by have:=hlt n50 e;omega
   have h62:=(h57.old h61).keep m2 n50f
   refine ⟨rfl,_,cell_add h62 rfl,?_⟩
   intro n64 w65 h65
   have L2:OwI ty_int w65 (some ⟨n64,0,none⟩) 2 [2* (t:Int)+3,C]:=Ow.of_some h65.at (Nat.le_refl _) (by unfold maxLen;omega) rfl rfl
   have hcl1:x2.cl.length≤3*t+1:=by
    rw [c2,List.length_append]
    have:(clP x.v [2* (t:Int)+3,A]).toList.length≤1:=by cases clP x.v [2* (t:Int)+3,A]<;>simp
    omega
   refine (add_ok (B2.grow h65.mod) (by rw [v2,xv];exact sm) (by omega) L2.vw rfl (fun y hy=>by simp at hy;rcases hy with rfl|rfl<;>omega) (by simp)).mono ?_
   rintro e w66 ⟨rfl,x3,B3,k3,v3,c3,f3,m3⟩
   have G66:Grow w9 w66:=(G62.trans h65.mod).then m3 fun k hk e=>by have:=F2 k e;omega
   have F3: ∀k,x3.foot n11 k→w9.heap.size≤k:=fun k hk=>by
    rcases f3 k hk with e|e
    · exact F2 k e
    · have:=(G62.trans h65.mod).size;omega
   have n50f2: ¬x2.foot n11 n50:=fun e=>by
    rcases f2 n50 e with e|e
    · exact n50f e
    · have:=h57.lt;have:=h61.mod.size;omega
   have h66:=(h62.old h65).keep m3 n50f2
   refine ⟨rfl,_,cell_add h66 rfl,_,cell_add h66 rfl,?_⟩
   rw [xor1 q3 (by omega),xor1 hb.1 (by omega),fl,fl]
   intro n69 w70 h70
   have L3:OwI ty_int w70 (some ⟨n69,0,none⟩) 3 [2* (t:Int)+2,flipL A,flipL C]:=Ow.of_some h70.at (Nat.le_refl _) (by unfold maxLen;omega) rfl rfl
   have hcl2:x3.cl.length≤3*t+2:=by
    rw [c3,List.length_append]
    have:(clP x2.v [2* (t:Int)+3,C]).toList.length≤1:=by cases clP x2.v [2* (t:Int)+3,C]<;>simp
    omega
   have fA:0≤flipL A∧flipL A≤2*t+1:=by unfold flipL;split<;>omega
   have fC:0≤flipL C∧flipL C≤2*t+1:=by unfold flipL;split<;>omega
   refine (add_ok (B3.grow h70.mod) (by rw [v3,v2,xv];exact sm) (by omega) L3.vw rfl (fun y hy=>by simp at hy;rcases hy with rfl|rfl|rfl<;>omega) (by simp)).mono ?_
   rintro e w71 ⟨rfl,x4,B4,k4,v4,c4,f4,m4⟩
   refine ⟨rfl,z - 1,by omega,t+1,x4,rfl,ht',B4,by rw [k4,k3,k2,xk],by rw [v4,v3,v2,xv],?_,fun k hk=> ?_,(G66.trans h70.mod).then m4 fun k hk e=>by have:=F3 k e;omega,by omega⟩
   · rw [c4,c3,c2,xc,v3,v2,xv,gs,gc,outC_app]
     rw [show ([[2* (t:Int)+3,A],[2* (t:Int)+3,C],[2* (t:Int)+2,flipL A,flipL C]]:List (List Int))= [[2* (t:Int)+3,A]]++ ([[2* (t:Int)+3,C]]++ [[2* (t:Int)+2,flipL A,flipL C]]) from rfl,outC_app,outC_app,outC_one,outC_one,outC_one]
     simp only [List.append_assoc]
   · rcases f4 k hk with e|e
     · exact F3 k e
     · have:=(G66.trans h70.mod).size;omega
 have et:t=g.length:=by omega
 subst et
 refine ⟨fun v w' z=> ∃ (t:Nat) (x:Bd),v=t∧t≤cs.length∧BRep w' n11 x∧x.k=tK g cs∧x.v=tV g cs∧x.cl=outC (tV g cs) (gcls g (inP g cs) g.length++cs.take t)∧(∀k,x.foot n11 k→w9.heap.size≤k)∧Grow w9 w'∧z+t=cs.length,
  ⟨_,0,x,rfl,Nat.zero_le _,B,xk,xv,by rw [xc];simp,F,G,rfl⟩,?_⟩
 clear B xk xv xc F G hz
 rintro v w76 z _ ⟨t,x,rfl,ht,B,xk,xv,xc,F,G,hz⟩
 refine cnd_i (fun q1=> ?_) (fun q1=> ?_)<;>simp only [decide_eq_true_eq,decide_eq_false_iff_not] at q1
 · have ht':t<cs.length:=by omega
   have hgl':=hgl g.length
   refine rowIx (hc.grow (G9.trans G)) rfl ht' fun a sl e _ hsn hsm hv=> ⟨_,_,_,e,?_⟩
   have hcl:x.cl.length≤3*g.length+cs.length:=by
    rw [xc]
    refine Nat.le_trans (outC_len _ _) ?_
    rw [List.length_append,List.length_take];omega
   have hmc:(cs.getD t []).length≤4096:=by
    have h':=s
    simp only [mayT,Bool.and_eq_true,List.all_eq_true] at h'
    have:=h'.2 (cs.getD t []) (by simp [List.getD,ht'])
    simp only [mayC,Bool.and_eq_true,decide_eq_true_eq] at this
    exact this.2
   refine (add_ok B (by rw [xv];exact sm) (by omega) hv hsn (fun y hy=> ?_) (by omega)).mono ?_
   · obtain ⟨j,hj⟩:=List.getElem?_of_mem hy
     have hjl:=(List.getElem?_eq_some_iff.1 hj).1
     have:=mayT_l s ht' hjl
     rw [show (cs.getD t []).getD j 0=y by simp only [List.getD_eq_getElem?_getD] at hj ⊢;rw [hj];rfl] at this
     omega
   · rintro e w79 ⟨rfl,x2,B2,k2,v2,c2,f2,m2⟩
     refine ⟨rfl,z - 1,by omega,t+1,x2,by rw [wrap64_of (by omega) (by omega)];omega,ht',B2,by rw [k2,xk],by rw [v2,xv],?_,fun k hk=> ?_,G.then m2 fun k hk e=>by have:=F k e;omega,by omega⟩
     · rw [c2,xc,xv,List.take_add_one,← List.append_assoc]
       have:cs[t]? =some (cs.getD t []):=by simp [List.getD,ht']
       rw [this,Option.toList_some,outC_snoc]
     · rcases f2 k hk with e|e
       · exact F k e
       · have:=G.size;omega
 have et:t=cs.length:=by omega
 subst et
 rw [List.take_length] at xc
 have xc':x.cl=tC g cs:=xc
 have e0:((Addr.mk n11 0 none).add 0).add 0=⟨n11,0,none⟩:=by rw [add_at,add_at]
 have e00:(Addr.mk n11 0 none).add 0=⟨n11,0,none⟩:=by rw [add_at]
 refine ⟨_,rfl,_,_,_,_,by rw [e0];exact ⟨cell_add B.me rfl,cell_add B.me rfl,trivial⟩,(checkCnf_ok B.c.v2 rfl).mono ?_⟩
 rintro e w83 ⟨rfl,g83⟩
 have B83:=B.grow g83
 rw [xc',xk,out_cnf s (by omega) (by omega)]
 refine ⟨_,rfl,cnd_f rfl ⟨_,rfl,_,_,_,_,_,_,_,by rw [e00];exact cells3 B83.me,?_⟩⟩
 have H1':Has w83 n1 _:=(((H1.grow g3).grow g9).grow G).grow g83
 refine store_i H1' rfl rfl fun w93 h93 m93=> ⟨_,_,_,_,_,_,_,cells3 h93,.inr ⟨s,x.pc,x.cc,x.pv,x.cv,?_,⟨x.hs,?_⟩,?_⟩,((G9.trans G).trans g83).then m93 fun k hk e=>by omega⟩
 · rw [xk,xc',xv]
 · rw [← xc']
   exact (B83.c.keep m93 fun k hk e=>by have:=F k (.inr (.inl hk));omega).v2
 · rw [← xv]
   exact (B83.v.keep m93 fun k hk e=>by have:=F k (.inr (.inr hk));omega).vw
end
end Go.Proofs.YtabengnadcleeaaGreat.W.Rk
