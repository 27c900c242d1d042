/- Layer 19: what an order's square and clauses are. -/
import Derived.Test.YtddffgjagppimaaGreatLitA
import Derived.Test.YtddffgjagppimaaGreatAigA
namespace Go.Proofs.YtddffgjagppimaaGreat.W.Rk
open Go Go.Fw Go.RowKit
section
theorem xor_even (m:Nat):(2*m) ^^^ 1=2*m+1:=by
 have h:=Nat.div_add_mod ((2*m) ^^^ 1) 2
 have h2:=Nat.xor_mod_two_pow (a:=2*m) (b:=1) (n:=1)
 have h3:2*m / 2=m:=by omega
 rw [Nat.xor_div_two,h3] at h
 have h4:2*m % 2=0:=by omega
 have h5:(2*m ^^^ 1) % 2=1:=by
  have:(2*m ^^^ 1) % 2 ^ 1=(2*m ^^^ 1) % 2:=rfl
  rw [← this,h2]
  show (2*m % 2) ^^^ 1=1
  rw [h4]
  rfl
 have h6:m ^^^ 1 / 2=m:=by simp
 rw [h5,h6] at h
 omega
theorem xor_odd (m:Nat):(2*m+1) ^^^ 1=2*m:=by
 have h:=Nat.div_add_mod ((2*m+1) ^^^ 1) 2
 have h2:=Nat.xor_mod_two_pow (a:=2*m+1) (b:=1) (n:=1)
 have h3:(2*m+1) / 2=m:=by omega
 rw [Nat.xor_div_two,h3] at h
 have h4:(2*m+1) % 2=1:=by omega
 simp [h4] at h h2
 omega
def flip (x:Int):Int:=if x % 2=0 then x+1 else x - 1
theorem xor1 {x:Int} (h0:0≤x) (h1:x<4611686018427387904):IntKind.i64.wrap ((BitVec.ofInt (IntKind.bits .i64) x ^^^ BitVec.ofInt (IntKind.bits .i64) (1:Int)).toNat)=flip x:=by
 show IntKind.i64.wrap ((BitVec.ofInt 64 x ^^^ BitVec.ofInt 64 (1:Int)).toNat)=flip x
 rw [BitVec.toNat_xor,BitVec.toNat_ofInt,BitVec.toNat_ofInt]
 obtain ⟨n,rfl⟩: ∃n:Nat,x=n:=⟨x.toNat,by omega⟩
 have e1:((n:Int) % ((2 ^ 64:Nat):Int)).toNat=n:=by omega
 have e2:((1:Int) % ((2 ^ 64:Nat):Int)).toNat=1:=by decide
 rw [e1,e2]
 unfold flip
 rcases Nat.mod_two_eq_zero_or_one n with h|h
 · obtain ⟨m,rfl⟩: ∃m,n=2*m:=⟨n / 2,by omega⟩
   rw [xor_even,if_pos (by omega),wrap64_of (by omega) (by omega)]
   omega
 · obtain ⟨m,rfl⟩: ∃m,n=2*m+1:=⟨n / 2,by omega⟩
   rw [xor_odd,if_neg (by omega),wrap64_of (by omega) (by omega)]
   omega
end
section
open Go.TsP
def small (v:List Int):Prop:= ∀x∈v,-1073741824≤x∧x≤1073741824
theorem code_ok' {w:World} {a:Int} {p1:Option Addr} {n1 c1:Nat} {pv:Option Addr} {nv cv:Nat} {v:List Int} (hv:Vw (Value.int .i64) w pv v) (hn:nv=v.length) (hs:small v) {l:Int} (h1: -1073741824≤l) (h2:l≤1073741824):
 Calls Tryz.prog tseitin_Code.id #[.agg #[.int .i64 a,.slice p1 n1 c1,.slice pv nv cv],.int .i64 l] w fun e w'=>e= .returned (.int .i64 (codeP v l))∧Grow w w':=by
 refine tseitin_Code.calls ?_
 intro n1 w2 hw2
 have H:=hw2.has
 unfold codeP
 refine cnd_i (fun q=> ⟨?_,hw2.mod⟩) (fun q=> ?_)<;>simp only [decide_eq_true_eq,decide_eq_false_iff_not] at q
 · rw [if_pos (.inl q)]
 · have hd:l.tdiv 2=l / 2:=Int.tdiv_eq_ediv_of_nonneg (by omega)
   have e1:IntKind.i64.wrap (l.tdiv 2)=l.tdiv 2:=wrap64_of (by omega) (by omega)
   have e2:IntKind.i64.wrap (l.tdiv 2 - 1)=l.tdiv 2 - 1:=wrap64_of (by omega) (by omega)
   rw [e1,e2]
   refine ⟨by decide,_,_,_,cell_add H rfl,cnd_i (fun q2=> ⟨?_,hw2.mod⟩) (fun q2=> ?_)⟩<;>simp only [decide_eq_true_eq,decide_eq_false_iff_not] at q2
   · rw [if_pos (.inr (by omega))]
   · rw [if_neg (by omega)]
     refine ⟨_,_,_,cell_add H rfl,by decide,(hv.grow hw2.mod).ix 0 (by omega) hn (by omega) fun a5 e5=> ⟨_,e5,by decide,cnd_i (fun q3=> ⟨?_,hw2.mod⟩) (fun q3=> ⟨?_,hw2.mod⟩)⟩⟩<;>simp only [beq_iff_eq,beq_eq_false_iff_ne] at q3
     · rw [if_pos q3]
       have:=hs _ (getD_mem (l:=v) (t:=(l.tdiv 2 - 1).toNat) (by omega) 0)
       rw [wrap64_of (by omega) (by omega)]
       congr 2;omega
     · rw [if_neg q3]
structure Bd where
 k:Int
 pc:Option Addr
 cc:Nat
 hs:List Sl
 cl:List (List Int)
 pv:Option Addr
 cv:Nat
 v:List Int
abbrev Bd.row (x:Bd):Array Value:= #[.int .i64 x.k,.slice x.pc x.cl.length x.cc,.slice x.pv x.v.length x.cv]
structure BRep (w:World) (b:Nat) (x:Bd):Prop where
 me:Has w b x.row
 c:OV (Value.int .i64) ty_sl_int w x.pc x.cc x.hs x.cl
 v:OwI ty_int w x.pv x.cv x.v
 bc: ¬OV.foot x.pc x.hs b
 bv:blk x.pv≠some b
 cv: ∀k,blk x.pv=some k→¬OV.foot x.pc x.hs k
def Bd.foot (x:Bd) (b k:Nat):Prop:=k=b∨OV.foot x.pc x.hs k∨blk x.pv=some k
theorem BRep.keep {w w':World} {b:Nat} {x:Bd} {S:Nat→Prop} (h:BRep w b x) (m:Mod S w w') (hS: ∀k,x.foot b k→¬S k):BRep w' b x:=
 ⟨h.me.keep m (hS b (.inl rfl)),h.c.keep m fun k hk=>hS k (.inr (.inl hk)),h.v.keep m fun k hk=>hS k (.inr (.inr hk)),h.bc,h.bv,h.cv⟩
theorem BRep.grow {w w':World} {b:Nat} {x:Bd} (h:BRep w b x) (m:Grow w w'):BRep w' b x:=h.keep m fun _ _=>id
theorem BRep.lt {w:World} {b:Nat} {x:Bd} (h:BRep w b x): ∀k,x.foot b k→k<w.heap.size:=by
 rintro k (rfl|hk|hk)
 · exact h.me.lt
 · exact h.c.lt k hk
 · exact h.v.lt k hk
theorem sl_sl:slOk Tryz.prog ty_sl_sl_int ty_sl_int 24=true:=sl_sl_int
theorem BRep.app {w:World} {b:Nat} {x:Bd} (h:BRep w b x) (hlen:x.cl.length≤1000000) {s:Sl} {l:List Int} {n:Nat} (hb:Has w n #[s.v]) (hl:Vw (Value.int .i64) w s.p l) (hn:s.n=l.length) (hm:s.n≤maxLen) (hd: ∀k,rfoot [s] k→¬x.foot b k) {K:World→Option Addr→Nat→Nat→Prop}
 (hk: ∀w' p' c',OV (Value.int .i64) ty_sl_int w' p' c' (x.hs++ [s]) (x.cl++ [l])→(∀k,OV.foot p' (x.hs++ [s]) k→OV.foot x.pc x.hs k∨rfoot [s] k∨w.heap.size≤k)→Mod (fun k=>blk x.pc=some k) w w'→K w' p' (x.cl.length+1) c'):
 ∃w',∃p' n' c',(Builtin.append_ #[ty_sl_sl_int,ty_sl_sl_int] ty_sl_sl_int #[.slice x.pc x.cl.length x.cc,.slice (some ⟨n,0,none⟩) 1 1]).run Tryz.prog w= .ok (.slice p' n' c') w'∧K w' p' n' c':=by
 have hv:Vw Sl.v w (some ⟨n,0,none⟩) [s]:=by
  intro j hj
  have:j=0:=by simpa using hj
  subst this
  exact ⟨_,rfl,cell_add hb rfl⟩
 have hr:VR (Value.int .i64) w [s] [l]:=VR.one hl hn hm
 have hx:=h.c.v.n
 refine h.c.app sl_sl hv hr (by omega) rfl (fun k hk e=>hd k hk (.inr (.inl (.inl e)))) (by simp;omega) fun w' p' c' o m hp hz=> ?_
 have e:(x.hs++ [s]).length=x.cl.length+1:=by simp [hx]
 rw [e]
 refine hk w' p' c' o (fun k hk=> ?_) m
 rcases hk with hk|hk
 · rcases hp with rfl|rfl
   · exact .inl (.inl hk)
   · have:=blk_some hk;exact .inr (.inr (by omega))
 · rcases rfoot_app.1 hk with hk|hk
   · exact .inl (.inr hk)
   · exact .inr (.inl hk)
theorem add_ok {w:World} {b:Nat} {x:Bd} (h:BRep w b x) (hs:small x.v) (hlen:x.cl.length≤1000000) {p:Option Addr} {n c:Nat} {l:List Int} (hl:Vw (Value.int .i64) w p l) (hn:n=l.length) (hb: ∀y∈l,-1073741824≤y∧y≤1073741824) (hll:n≤1000000):
 Calls Tryz.prog tseitin_builder_add.id #[ptr b,.slice p n c] w fun e w'=>e= .returned (.tuple #[])∧∃x',BRep w' b x'∧x'.k=x.k∧x'.v=x.v∧x'.cl=x.cl++ (clP x.v l).toList∧(∀k,x'.foot b k→x.foot b k∨w.heap.size≤k)∧Mod (x.foot b) w w':=by
 subst hn
 refine tseitin_builder_add.calls ?_
 refine ⟨fun pc nc cc v w' k=> ∃ (t:Nat) (o:List Int),nc=o.length∧v=t∧t≤l.length∧clP x.v (l.take t)=some o∧o.length≤t∧OwI ty_int w' pc cc o∧(∀k,blk pc=some k→w.heap.size≤k)∧Grow w w'∧k+t=l.length,⟨_,0,[],rfl,rfl,Nat.zero_le _,rfl,Nat.zero_le _,Ow.nil _ _ _,by simp [blk],Mod.refl w,rfl⟩,?_⟩
 rintro pc nc cc v w6 k _ ⟨t,o,rfl,rfl,ht,ho,hol,O,fr,G,hk⟩
 have h6:=h.grow G
 refine cnd_i (fun q=> ?_) (fun q=> ?_)<;>simp only [decide_eq_true_eq,decide_eq_false_iff_not] at q
 · have ht':t<l.length:=by omega
   have hbl:=hb _ (getD_mem ht' 0)
   have ct:=clP_take ht' ho
   refine (hl.grow G).ix 0 (by omega) rfl q fun a e=> ⟨_,e,?_⟩
   rw [Int.toNat_natCast]
   refine cnd_i (fun q1=> ?_) (fun q1=>cnd_i (fun q2=> ?_) (fun q2=> ?_))<;>simp only [beq_iff_eq,beq_eq_false_iff_ne] at*
   · refine ⟨trivial,x,h6,rfl,rfl,?_,fun k=> .inl,G.mono fun _ _=>False.elim⟩
     rw [clP_one ht' q1];simp
   · rw [if_neg q1,if_pos q2] at ct
     exact ⟨k - 1,by omega,t+1,o,rfl,by rw [wrap64_of (by omega) (by omega)];omega,ht',ct,by omega,O,fr,G,by omega⟩
   · rw [if_neg q1,if_neg q2] at ct
     have e0:(Addr.mk b 0 none).add 0=⟨b,0,none⟩:=by rw [add_at]
     refine ⟨_,rfl,_,_,_,_,_,_,_,by rw [e0];exact cells3 h6.me,(code_ok' h6.v.vw rfl hs hbl.1 hbl.2).mono ?_⟩
     rintro e w13 ⟨rfl,g13⟩
     refine ⟨_,rfl,?_⟩
     intro n15 w16 h15
     refine ((O.grow g13).grow h15.mod).app1 sl_int _ h15.has rfl rfl oneInt (by omega) fun w17 p17 c17 O17 m17 hp17 z17=> ?_
     have g16:=(G.trans g13).trans h15.mod
     refine ⟨k - 1,by omega,t+1,_,by simp,by rw [wrap64_of (by omega) (by omega)];omega,ht',ct,by simp;omega,O17,fun j hj=> ?_,g16.then m17 fun j hj e=>by have:=fr j e;omega,by omega⟩
     rcases hp17 with rfl|rfl
     · exact fr j hj
     · have:=blk_some hj;have:=g16.size;omega
 · have:t=l.length:=by omega
   subst this
   rw [List.take_length] at ho
   refine ⟨_,rfl,_,_,_,cell_add3 h6.me rfl,?_⟩
   intro n21 w22 h21
   have h22:=h6.grow h21.mod
   have O22:=O.grow h21.mod
   have hlt:=h.lt
   have hxb:=h.lt b (.inl rfl)
   refine h22.app hlen (s:=⟨pc,o.length,cc⟩) (l:=o) h21.has O22.vw rfl (by unfold maxLen;simp only;omega) (fun k hk e=> ?_) fun w23 p23 c23 o23 f23 m23=> ?_
   · obtain ⟨s,hm,h0,hk⟩:=hk
     simp at hm;subst hm
     have:=fr k hk
     have:=hlt k e;omega
   · have me23:=h22.me.keep m23 fun e=>h.bc (.inl e)
     refine ⟨_,rfl,store_f3 me23 rfl rfl fun w26 h26 m26=> ⟨rfl,⟨x.k,p23,c23,x.hs++ [⟨pc,o.length,cc⟩],x.cl++ [o],x.pv,x.cv,x.v⟩,?_,rfl,rfl,by rw [ho];rfl,?_,?_⟩⟩
     · have z22:=(G.trans h21.mod).size
       have rf: ∀k,rfoot [(⟨pc,o.length,cc⟩:Sl)] k→w.heap.size≤k:=fun k ⟨s,hm,h0,hk⟩=>by
        simp at hm;subst hm
        exact fr k hk
       have nb: ¬OV.foot p23 (x.hs++ [⟨pc,o.length,cc⟩]) b:=fun e=>by
        rcases f23 b e with e|e|e
        · exact h.bc e
        · have:=rf b e;omega
        · omega
       refine ⟨?_,o23.keep m26 fun k hk e=>nb (by rw [← e];exact hk),(h22.v.keep m23 fun k hk e=>h.cv k hk (.inl e)).keep m26 fun k hk e=>h.bv (by rw [hk,e]),nb,h.bv,fun k hk e=> ?_⟩
       · have:(x.cl++ [o]).length=x.cl.length+1:=by simp
         show Has w26 b #[_,.slice p23 (x.cl++ [o]).length c23,_]
         rw [this]
         exact h26
       · have:=hlt k (.inr (.inr hk))
         rcases f23 k e with e|e|e
         · exact h.cv k hk e
         · have:=rf k e;omega
         · omega
     · have z22:=(G.trans h21.mod).size
       rintro k (rfl|hk|hk)
       · exact .inl (.inl rfl)
       · rcases f23 k hk with e| ⟨s,hm,h0,hk⟩|e
         · exact .inl (.inr (.inl e))
         · simp at hm;subst hm
           exact .inr (fr k hk)
         · exact .inr (by omega)
       · exact .inl (.inr (.inr hk))
     · exact (((G.trans h21.mod).mono fun _ _=>False.elim).then m23 fun k _ e=> .inr (.inl (.inl e))).then m26 fun k _ e=> .inl e
end
section
open Go.TsP
open Classical in
noncomputable def inP (g:List (Int × Int)) (cs:List (List Int)) (k:Nat):Bool:=decide (H g cs k)
theorem inP_iff {g:List (Int × Int)} {cs:List (List Int)} {k:Nat}:inP g cs k=true↔H g cs k:=by simp [inP]
theorem pushVar {wb w:World} {b:Nat} {x:Bd} (h:BRep w b x) (F: ∀k,x.foot b k→wb.heap.size≤k) (G:Grow wb w) (y:Int) (hl:x.v.length≤1000000) {K:World→Prop}
 (hk: ∀w' x',BRep w' b x'→x'.k=x.k→x'.cl=x.cl→x'.v=x.v++ [y]→(∀k,x'.foot b k→wb.heap.size≤k)→Grow wb w'→K w'):
 ∀n28 w29,New (.cells #[.int .i64 y] 3) w n28 w29→
  ∃w30 r31p r31n r31c,(Builtin.append_ #[ty_sl_int,ty_sl_int] ty_sl_int #[.slice x.pv x.v.length x.cv,.slice (some (Addr.mk n28 0 none)) 1 1]).run Tryz.prog w29= .ok (.slice r31p r31n r31c) w30∧
  ∃a32,(some (Addr.mk b 0 none))=some a32∧∃w33,StoreAt ((a32.add 0).add 2) 0 [.slice r31p r31n r31c] w30 w33∧K w33:=by
 intro n28 w29 h28
 have h29:=h.grow h28.mod
 refine h29.v.app1 sl_int y h28.has rfl rfl oneInt (by omega) fun w30 p c o m hp z=> ?_
 have me:=h29.me.keep m fun e=>h.bv e
 have hc:=h29.c.keep m fun k hk e=>h.cv k e hk
 refine ⟨_,rfl,store_f2 me rfl rfl fun w33 h33 m33=> ?_⟩
 have zG:=(G.trans h28.mod).size
 have fr: ∀k,blk p=some k→(blk x.pv=some k∨w29.heap.size≤k):=fun k hk=>by
  rcases hp with rfl|rfl
  · exact .inl hk
  · have:=blk_some hk;exact .inr (by omega)
 have hb29:=h29.lt b (.inl rfl)
 have nb:blk p≠some b:=fun e=>by
  rcases fr b e with e|e
  · exact h.bv e
  · omega
 have g30:Grow wb w30:=(G.trans h28.mod).then m fun k hk e=>by have:=F k (.inr (.inr e));omega
 refine hk w33 ⟨x.k,x.pc,x.cc,x.hs,x.cl,p,c,x.v++ [y]⟩ ⟨?_,hc.keep m33 fun k hk e=>h.bc (by rw [← e];exact hk),o.keep m33 fun k hk e=>nb (by rw [hk,e]),h.bc,nb,fun k hk e=> ?_⟩ rfl rfl rfl ?_ (g30.then m33 fun k hk e=>by have:=F b (.inl rfl);omega)
 · have:(x.v++ [y]).length=x.v.length+1:=by simp
   show Has w33 b #[_,_,.slice p (x.v++ [y]).length c]
   rw [this]
   exact h33
 · rcases fr k hk with e2|e2
   · exact h.cv k e2 e
   · have:=h29.lt k (.inr (.inl e));omega
 · rintro k (rfl|hk|hk)
   · exact F k (.inl rfl)
   · exact F k (.inr (.inl hk))
   · rcases fr k hk with e|e
     · exact F k (.inr (.inr e))
     · omega
theorem BRep.setK {w w':World} {b:Nat} {x:Bd} (h:BRep w b x) {k:Int} (hw:Has w' b #[.int .i64 k,.slice x.pc x.cl.length x.cc,.slice x.pv x.v.length x.cv]) (m:Mod (·=b) w w'):BRep w' b {x with k:=k}:=
 ⟨hw,h.c.keep m fun k hk e=>h.bc (by rw [← e];exact hk),h.v.keep m fun k hk e=>h.bv (by rw [hk,e]),h.bc,h.bv,h.cv⟩
theorem vs_small (P:Nat→Bool) {n:Nat} (h:n≤1073741824):small (vs P n):=by
 intro x hx
 simp only [vs,List.mem_map,List.mem_range] at hx
 obtain ⟨i,hi,rfl⟩:=hx
 have:=cnt_le P (i+1)
 split<;>omega
theorem gcl_len (g:List (Int × Int)) (P:Nat→Bool) (t:Nat):(gcls g P t).length≤3*t:=by
 induction t with
 |zero=>simp [gcls]
 |succ t ih=>
  rw [gcls_succ,List.length_append]
  have:(gcl g P t).length≤3:=by unfold gcl;split<;>simp
  omega
theorem outC_len (v:List Int) (l:List (List Int)):(outC v l).length≤l.length:=List.length_filterMap_le _ _
theorem outC_snoc (v:List Int) (l:List (List Int)) (c:List Int):outC v (l++ [c])=outC v l++ (clP v c).toList:=by rw [outC_app,outC_one]
theorem out_cnf {g:List (Int × Int)} {cs:List (List Int)} (h:mayT g cs=true) (hn:g.length≤4096) (hm:cs.length≤4096):cnfB (cnt (inP g cs) g.length) (outC (vs (inP g cs) g.length) (allC g cs (inP g cs)))=true:=by
 have hgm:=mayT_g h
 have hc:=cnt_le (inP g cs) g.length
 have h1:=gcl_len g (inP g cs) g.length
 have h2:=outC_len (vs (inP g cs) g.length) (allC g cs (inP g cs))
 have h3:(allC g cs (inP g cs)).length≤3*g.length+cs.length:=by unfold allC;rw [List.length_append];omega
 unfold cnfB
 rw [decide_eq_true (by omega),Bool.true_and,List.all_eq_true]
 intro o ho
 obtain ⟨c,hca,hco⟩:=List.mem_filterMap.1 ho
 have key:c.length≤4096∧∀l∈c,l≠0→l≠1→2≤l∧l≤2*g.length+1∧inP g cs (l.tdiv 2).toNat=true:=by
  rcases List.mem_append.1 hca with hca|hca
  · obtain ⟨i,hi,hci⟩:=List.mem_flatMap.1 hca
    have hi:i<g.length:=List.mem_range.1 hi
    unfold gcl at hci
    split at hci
    · rename_i hP
      obtain ⟨hP,hA⟩:=hP
      have hb:=okG_and (mayG_at hgm hi) hA
      have hH:=inP_iff.1 hP
      generalize hx:g.getD i (0,0)=x at*
      obtain ⟨A,B⟩:=x
      simp only at hA hb hci
      have in1: ∀l:Int,(l / 2=A / 2∨l / 2=B / 2)→0≤l→inP g cs (l.tdiv 2).toNat=true:=by
       intro l hl h0
       rw [inP_iff,Int.tdiv_eq_ediv_of_nonneg h0]
       have hk:kid g i (l / 2).toNat:=by
        refine ⟨by rw [hx];exact hA,?_⟩
        rw [hx]
        simp only
        rw [Int.tdiv_eq_ediv_of_nonneg hA,Int.tdiv_eq_ediv_of_nonneg hb.1]
        omega
       exact .kid (kid_le hgm hi hk) hi hk hH
      have in2: ∀l:Int,(l=2*i+3∨l=2*i+2)→inP g cs (l.tdiv 2).toNat=true:=by
       intro l hl
       rw [Int.tdiv_eq_ediv_of_nonneg (by omega),show (l / 2).toNat=i+1 by omega]
       exact hP
      have fA:flipL A / 2=A / 2∧0≤flipL A∧flipL A≤2*i+1:=by unfold flipL;split<;>omega
      have fB:flipL B / 2=B / 2∧0≤flipL B∧flipL B≤2*i+1:=by unfold flipL;split<;>omega
      simp only [List.mem_cons,List.not_mem_nil,or_false] at hci
      rcases hci with rfl|rfl|rfl
      · refine ⟨by simp,fun l hl h0 h1=> ?_⟩
        simp only [List.mem_cons,List.not_mem_nil,or_false] at hl
        rcases hl with rfl|rfl
        · exact ⟨by omega,by omega,in2 _ (.inl rfl)⟩
        · exact ⟨by omega,by omega,in1 _ (.inl rfl) (by omega)⟩
      · refine ⟨by simp,fun l hl h0 h1=> ?_⟩
        simp only [List.mem_cons,List.not_mem_nil,or_false] at hl
        rcases hl with rfl|rfl
        · exact ⟨by omega,by omega,in2 _ (.inl rfl)⟩
        · exact ⟨by omega,by omega,in1 _ (.inr rfl) (by omega)⟩
      · refine ⟨by simp,fun l hl h0 h1=> ?_⟩
        simp only [List.mem_cons,List.not_mem_nil,or_false] at hl
        rcases hl with rfl|rfl|rfl
        · exact ⟨by omega,by omega,in2 _ (.inr rfl)⟩
        · exact ⟨by omega,by omega,in1 _ (.inl fA.1) (by omega)⟩
        · exact ⟨by omega,by omega,in1 _ (.inr fB.1) (by omega)⟩
    · simp at hci
  · have h':=h
    simp only [mayT,Bool.and_eq_true,List.all_eq_true] at h'
    have hc1:=h'.2 c hca
    simp only [mayC,Bool.and_eq_true,List.all_eq_true,decide_eq_true_eq] at hc1
    refine ⟨hc1.2,fun l hl h0 h1=> ?_⟩
    have:=hc1.1 l hl
    simp only [isL,decide_eq_true_eq] at this
    refine ⟨by omega,this.2,?_⟩
    rw [inP_iff]
    refine .hit ⟨c,hca,l,hl,?_⟩
    rw [Int.tdiv_eq_ediv_of_nonneg this.1];omega
 have hl: ∀x∈o,x≠0∧ -(cnt (inP g cs) g.length:Int)≤x∧x≤cnt (inP g cs) g.length:=by
  intro x hx
  obtain ⟨l,hl,h0,h1,rfl⟩:=clP_mem hco x hx
  obtain ⟨k1,k2,k3⟩:=key.2 l hl h0 h1
  exact code_ok k1 k2 k3
 rw [Bool.and_eq_true]
 refine ⟨?_,?_⟩
 · have:=clP_len hco
   simp only [clB,Bool.and_eq_true,List.all_eq_true,decide_eq_true_eq]
   refine ⟨fun x hx=> ?_,by omega⟩
   have:=hl x hx
   simp only [litB,decide_eq_true_eq]
   omega
 · rw [List.all_eq_true]
   intro x hx
   have:=hl x hx
   refine decide_eq_true ?_
   unfold amt
   split<;>omega
end
end Go.Proofs.YtddffgjagppimaaGreat.W.Rk
namespace Go.TsP
def cntIn (g:List Gt):Nat→Nat
 |0=>0
 |t+1=>cntIn g t+ (if (g.getD t (0,0)).1<0 then 1 else 0)
theorem cntIn_succ (g:List Gt) (t:Nat):cntIn g (t+1)=cntIn g t+ (if (g.getD t (0,0)).1<0 then 1 else 0):=rfl
theorem cntIn_le (g:List Gt): ∀t,cntIn g t≤t
 |0=>Nat.le_refl _
 |t+1=>by have:=cntIn_le g t;rw [cntIn_succ];split<;>omega
theorem cntIn_mono (g:List Gt) {a b:Nat} (h:a≤b):cntIn g a≤cntIn g b:=by
 induction h with
 |refl=>exact Nat.le_refl _
 |step _ ih=>exact Nat.le_trans ih (by rw [cntIn_succ];omega)
def evalL (v:List Bool) (l:Int):Bool:=if l<2 then l==1 else !(v.getD (l / 2 - 1).toNat false==(l % 2==1))
def nodeV (g:List Gt) (ins:List Bool) (v:List Bool) (i:Nat):Bool:=
 if 0≤(g.getD i (0,0)).1 then evalL v (g.getD i (0,0)).1 && evalL v (g.getD i (0,0)).2 else ins.getD (cntIn g i) false
def vals (g:List Gt) (ins:List Bool):Nat→List Bool
 |0=> []
 |t+1=>vals g ins t++ [nodeV g ins (vals g ins t) t]
theorem vals_succ (g:List Gt) (ins:List Bool) (t:Nat):vals g ins (t+1)=vals g ins t++ [nodeV g ins (vals g ins t) t]:=rfl
theorem vals_len (g:List Gt) (ins:List Bool): ∀t,(vals g ins t).length=t
 |0=>rfl
 |t+1=>by rw [vals_succ,List.length_append,vals_len g ins t];rfl
theorem vals_get (g:List Gt) (ins:List Bool) {i:Nat}: ∀ {t:Nat},i<t→(vals g ins t).getD i false=nodeV g ins (vals g ins i) i
 |0,h=>by omega
 |t+1,h=>by
  rw [vals_succ]
  simp only [List.getD_eq_getElem?_getD]
  by_cases e:i=t
  · subst e
    rw [List.getElem?_append_right (by rw [vals_len];exact Nat.le_refl _),vals_len,Nat.sub_self];rfl
  · rw [List.getElem?_append_left (by rw [vals_len];omega)]
    have:=vals_get g ins (i:=i) (t:=t) (by omega)
    rw [List.getD_eq_getElem?_getD] at this
    exact this
theorem evalL_vals (g:List Gt) (ins:List Bool) {t n:Nat} {l:Int} (h:t≤n) (hl:l≤2*t+1):evalL (vals g ins t) l=evalL (vals g ins n) l:=by
 unfold evalL
 split
 · rfl
 · rw [vals_get g ins (show (l / 2 - 1).toNat<t by omega),vals_get g ins (show (l / 2 - 1).toNat<n by omega)]
def truth (g:List Gt) (ins:List Bool) (l:Int):Bool:=evalL (vals g ins g.length) l
theorem truth_lt {g:List Gt} {ins:List Bool} {l:Int} (h:l<2):truth g ins l=(l==1):=by unfold truth evalL;rw [if_pos h]
theorem truth_node {g:List Gt} {ins:List Bool} (hm:mayG g=true) {i:Nat} (hi:i<g.length) {l:Int} (hl:l / 2=i+1) (h2:2≤l):
 truth g ins l= !((if 0≤(g.getD i (0,0)).1 then truth g ins (g.getD i (0,0)).1 && truth g ins (g.getD i (0,0)).2 else ins.getD (cntIn g i) false)==(l % 2==1)):=by
 conv=>lhs;unfold truth evalL
 rw [if_neg (by omega),show (l / 2 - 1).toNat=i by omega,vals_get g ins hi]
 congr 2
 unfold nodeV
 split
 · rename_i h0
   have hb:=okG_and (mayG_at hm hi) h0
   rw [evalL_vals g ins (Nat.le_of_lt hi) (by omega),evalL_vals g ins (Nat.le_of_lt hi) (by omega)]
   rfl
 · rfl
def askedP (g:List Gt) (cs:List (List Int)) (ins:List Bool):Bool:=cs.all fun c=>c.any (truth g ins)
end Go.TsP
namespace Go.Proofs.YtddffgjagppimaaGreat.W.Rk
open Go Go.Fw Go.RowKit Go.TsP
section
theorem refTrue_ok {p q:Option Addr} {g:List (Int × Int)} {n c k d:Nat} {ins:List Bool} (hn:n=g.length) (hg:n≤4194304) (hk:k=ins.length) (hx:k≤maxLen) (hm:mayG g=true):
 ∀ (f:Nat) (w:World) (l:Int),l≤f→l≤2*g.length+1→ -1073741824≤l→Vr 2 gateV w p g→Vw Value.bool w q ins→
   Calls Tryz.prog fathomref15_True.id #[.slice p n c,.slice q k d,.int .i64 l] w fun e w'=>e= .returned (.bool (truth g ins l))∧Grow w w':=by
 intro f
 induction f with
 |zero=>
  intro w l hf hl h0 h hi
  refine fathomref15_True.calls ?_
  refine cnd_t (decide_eq_true (by omega)) ⟨?_,Mod.refl w⟩
  rw [truth_lt (by omega)]
 |succ f ih=>
  intro w l hf hl h0 h hi
  subst hn hk
  unfold maxLen at hx
  refine fathomref15_True.calls ?_
  refine cnd_i (fun s=> ⟨?_,Mod.refl w⟩) (fun s=> ?_)<;>simp only [decide_eq_true_eq,decide_eq_false_iff_not] at s
  · rw [truth_lt s]
  have d1:l.tdiv 2=l / 2:=Int.tdiv_eq_ediv_of_nonneg (by omega)
  have d2:l.tmod 2=l % 2:=Int.tmod_eq_emod_of_nonneg (by omega)
  have w1:IntKind.i64.wrap (l.tdiv 2)=l / 2:=by rw [d1];exact wrap64_of (by omega) (by omega)
  have w2:IntKind.i64.wrap (l / 2 - 1)=l / 2 - 1:=wrap64_of (by omega) (by omega)
  rw [w1,w2,d2]
  obtain ⟨i,hi1,hi2⟩: ∃i:Nat,l / 2 - 1=i∧i<g.length:=⟨(l / 2 - 1).toNat,by omega,by omega⟩
  have tn:=truth_node (ins:=ins) hm hi2 (l:=l) (by omega) (by omega)
  rw [hi1]
  have hok:=mayG_at hm hi2
  refine ⟨by decide,gIx h rfl hi2 fun a x0 x1=> ⟨_,_,⟨x0,x1,trivial⟩,?_⟩⟩
  generalize hgx:g.getD i (0,0)=x at*
  obtain ⟨A,B⟩:=x
  intro n4 w5 h5
  refine store_i h5.has rfl rfl fun w6 h6 m6=> ?_
  have g6:Grow w w6:=h5.mod.fresh m6 (by have:=h5.num;omega)
  have h6:Has w6 n4 #[.int .i64 A,.int .i64 B]:=h6
  refine ⟨_,cell_add h6 rfl,cnd_i (fun s2=> ?_) (fun s2=> ?_)⟩<;>simp only [decide_eq_true_eq,decide_eq_false_iff_not,ge_iff_le] at s2
  · simp only at tn
    rw [if_pos s2] at tn
    have hb:=okG_and hok s2
    simp only at hb
    refine ⟨_,cell_add h6 rfl,(ih w6 A (by omega) (by omega) (by omega) (h.grow g6) (hi.grow g6)).mono ?_⟩
    rintro e w9 ⟨rfl,g9⟩
    have G9:=g6.trans g9
    refine ⟨_,rfl,cnd_i (fun s3=> ?_) (fun s3=> ⟨by decide,?_,G9⟩)⟩
    · refine ⟨_,cell_add (h6.grow g9) rfl,(ih w9 B (by omega) (by omega) (by omega) (h.grow G9) (hi.grow G9)).mono ?_⟩
      rintro e w12 ⟨rfl,g12⟩
      refine ⟨_,rfl,by decide,?_,G9.trans g12⟩
      rw [tn,s3,Bool.true_and]
    · rw [tn,s3,Bool.false_and]
  · simp only at tn
    rw [if_neg s2] at tn
    refine ⟨fun kk v w' z=> ∃t:Nat,v=t∧kk=cntIn g t∧t≤i∧w'=w6∧z+t=i,⟨i,0,rfl,rfl,Nat.zero_le _,rfl,rfl⟩,?_⟩
    rintro kk v w19 z _ ⟨t,rfl,rfl,ht,rfl,hz⟩
    have hg6:=h.grow g6
    have hcl:=cntIn_le g t
    have ev:IntKind.i64.wrap ((t:Int)+1)=((t+1:Nat):Int):=by rw [wrap64_of (by omega) (by omega)];omega
    rw [ev]
    refine ⟨by decide,cnd_i (fun s3=> ?_) (fun s3=> ?_)⟩<;>simp only [decide_eq_true_eq,decide_eq_false_iff_not] at s3
    · have ht':t<i:=by omega
      refine gIx hg6 rfl (by omega) fun a y0 _=> ⟨_,y0,cnd_i (fun s4=> ⟨z - 1,by omega,t+1,rfl,?_,ht',rfl,by omega⟩) (fun s4=> ⟨z - 1,by omega,t+1,rfl,?_,ht',rfl,by omega⟩)⟩<;>simp only [decide_eq_true_eq,decide_eq_false_iff_not] at s4
      · rw [cntIn_succ,if_pos s4,wrap64_of (by omega) (by omega)];omega
      · rw [cntIn_succ,if_neg s4];rfl
    · have et:t=i:=by omega
      subst et
      refine cnd_i (fun s4=> ?_) (fun s4=> ⟨by decide,?_,g6⟩)<;>simp only [decide_eq_true_eq,decide_eq_false_iff_not] at s4
      · refine (hi.grow g6).ix false (by omega) rfl s4 fun a e=> ⟨_,e,by decide,?_,g6⟩
        rw [Int.toNat_natCast,tn]
      · rw [tn]
        have:ins.getD (cntIn g t) false=false:=by simp [List.getD,show ins.length≤cntIn g t by omega]
        rw [this]
theorem cIx2 {w:World} {q:Option Addr} {hs:List Sl} {cs:List (List Int)} (hc:V2 (Value.int .i64) w q hs cs) {m t:Nat} (hm:m=cs.length) (ht:t<cs.length) {K:Addr→Prop} (hk: ∀a (s:Sl),w.cell? a=some (.slice s.p s.n s.c)→s=hs.getD t Sl.nil→s.n=(cs.getD t []).length→s.n≤maxLen→Vw (Value.int .i64) w s.p (cs.getD t [])→K a):ixK q m (t:Int) 1 K:=
 hc.ix (by omega) hm (by omega) fun a s e hs h1 h2 h3=>hk a s e (by rw [Int.toNat_natCast] at hs;exact hs) (by rw [Int.toNat_natCast] at h1;exact h1) h2 (by rw [Int.toNat_natCast] at h3;exact h3)
theorem any_take_succ2 {α:Type} {l:List α} {q:α→Bool} {t:Nat} {d:α} (ht:t<l.length):(l.take (t+1)).any q=((l.take t).any q||q (l.getD t d)):=by
 rw [List.take_add_one,List.any_append]
 have:l[t]? =some (l.getD t d):=by simp [List.getD,ht]
 simp only [this,Option.toList_some,List.any_cons,List.any_nil,Bool.or_false]
theorem refAsked_ok {w:World} {p q r:Option Addr} {g:List (Int × Int)} {n c m d k b:Nat} {hs:List Sl} {cs:List (List Int)} {ins:List Bool} (hn:n=g.length) (hg:n≤4194304) (hm:m=cs.length) (hx:m≤maxLen) (hk:k=ins.length) (hkx:k≤maxLen) (hmay:mayG g=true) (hl: ∀t,t<cs.length→∀l∈cs.getD t [],-1073741824≤l∧l≤2*g.length+1)
 (h:Vr 2 gateV w p g) (hc:V2 (Value.int .i64) w q hs cs) (hi:Vw Value.bool w r ins):
 Calls Tryz.prog fathomref18_Asked.id #[.slice p n c,.slice q m d,.slice r k b] w fun e w'=>e= .returned (.bool (askedP g cs ins))∧Grow w w':=by
 subst hm
 unfold maxLen at hx
 refine fathomref18_Asked.calls ?_
 refine ⟨fun v w' z=> ∃t:Nat,v=t∧t≤cs.length∧((cs.take t).all fun c=>c.any (truth g ins))=true∧Grow w w'∧z+t=cs.length,⟨_,0,rfl,Nat.zero_le _,rfl,Mod.refl _,rfl⟩,?_⟩
 rintro v w5 z _ ⟨t,rfl,ht,ha,G,hz⟩
 refine cnd_i (fun s=> ?_) (fun s=> ?_)<;>simp only [decide_eq_true_eq,decide_eq_false_iff_not] at s
 · have ht':t<cs.length:=by omega
   refine ⟨fun o v w' z=> ∃t2:Nat,v=t2∧t2≤(cs.getD t []).length∧o=((cs.getD t []).take t2).any (truth g ins)∧Grow w w'∧z+t2=(cs.getD t []).length,⟨_,0,rfl,Nat.zero_le _,rfl,G,rfl⟩,?_⟩
   rintro o v w11 z2 _ ⟨t2,rfl,ht2,rfl,G2,hz2⟩
   refine cIx2 (hc.grow G2) rfl ht' fun a sl e _ hsn hsm hv=> ⟨_,_,_,e,cnd_i (fun s2=> ?_) (fun s2=> ?_)⟩<;>simp only [decide_eq_true_eq,decide_eq_false_iff_not] at s2
   · have ht2':t2< (cs.getD t []).length:=by omega
     unfold maxLen at hsm
     have ev:IntKind.i64.wrap ((t2:Int)+1)=((t2+1:Nat):Int):=by rw [wrap64_of (by omega) (by omega)];omega
     have nx:=any_take_succ2 (q:=truth g ins) (d:=0) ht2'
     rw [ev]
     refine cnd_i (fun s3=> ⟨z2 - 1,by omega,t2+1,rfl,ht2',?_,G2,by omega⟩) (fun s3=> ?_)
     · rw [nx,s3];rfl
     · refine cIx2 (hc.grow G2) rfl ht' fun a sl e _ hsn hsm hv=> ⟨_,_,_,e,hv.ix 0 (by omega) hsn (by omega) fun a e=> ⟨_,e,?_⟩⟩
       rw [Int.toNat_natCast]
       have hb:=hl t ht' _ (getD_mem ht2' 0)
       refine (refTrue_ok hn hg hk hkx hmay (((cs.getD t []).getD t2 0).toNat) w11 _ (by omega) hb.2 hb.1 (h.grow G2) (hi.grow G2)).mono ?_
       rintro e w18 ⟨rfl,g18⟩
       refine ⟨_,rfl,z2 - 1,by omega,t2+1,rfl,ht2',?_,G2.trans g18,by omega⟩
       rw [nx,s3,Bool.false_or]
   · have et:t2=(cs.getD t []).length:=by omega
     subst et
     rw [List.take_length]
     refine cnd_i (fun s3=> ⟨?_,G2⟩) (fun s3=> ⟨z - 1,by omega,t+1,by rw [wrap64_of (by omega) (by omega)];omega,ht',all_take_succ (d:= []) ht' ha (by simpa using s3),G2,by omega⟩)
     have:askedP g cs ins=false:=all_false (d:= []) ht' (by simpa using s3)
     rw [this]
 · have:t=cs.length:=by omega
   subst this
   rw [List.take_length] at ha
   refine ⟨?_,G⟩
   unfold askedP
   rw [ha]
end
section
def insP (g:List (Int × Int)) (v m:List Int):Nat→List Bool
 |0=> []
 |t+1=>insP g v m t++ (if (g.getD t (0,0)).1<0 then [decide (valP m (v.getD t 0)>0)] else [])
theorem insP_succ (g:List (Int × Int)) (v m:List Int) (t:Nat):insP g v m (t+1)=insP g v m t++ (if (g.getD t (0,0)).1<0 then [decide (valP m (v.getD t 0)>0)] else []):=rfl
theorem insP_len (g:List (Int × Int)) (v m:List Int): ∀t,(insP g v m t).length=cntIn g t
 |0=>rfl
 |t+1=>by rw [insP_succ,List.length_append,insP_len g v m t,cntIn_succ];split<;>rfl
theorem insP_get (g:List (Int × Int)) (v m:List Int) {i:Nat} (hA:(g.getD i (0,0)).1<0): ∀ {t:Nat},i<t→(insP g v m t).getD (cntIn g i) false=decide (valP m (v.getD i 0)>0)
 |0,h=>by omega
 |t+1,h=>by
  rw [insP_succ]
  by_cases e:i=t
  · subst e
    rw [if_pos hA,List.getD_eq_getElem?_getD,List.getElem?_append_right (by rw [insP_len];exact Nat.le_refl _),insP_len,Nat.sub_self]
    rfl
  · have h2:cntIn g (i+1)≤cntIn g t:=cntIn_mono g (by omega)
    rw [cntIn_succ,if_pos hA] at h2
    have:=insP_get g v m hA (t:=t) (by omega)
    rw [List.getD_eq_getElem?_getD] at this ⊢
    rw [List.getElem?_append_left (by rw [insP_len];omega),this]
theorem amt_neg (x:Int):amt (-x)=amt x:=by unfold amt;split<;>split<;>omega
theorem valP_var {m:List Int} (hb: ∀x∈m,x=1∨x= -1) {x:Int} (h1:1≤x) (h2:x≤m.length) (h3:x≤1048576):valP m x=m.getD (x - 1).toNat 0∧valP m (-x)= - m.getD (x - 1).toNat 0:=by
 have hx:=hb _ (getD_mem (l:=m) (t:=(x - 1).toNat) (by omega) 0)
 have a1:amt x=x:=by unfold amt;rw [if_neg (by omega)]
 have l1:litB x=true:=by simp only [litB,decide_eq_true_eq];omega
 have l2:litB (-x)=true:=by simp only [litB,decide_eq_true_eq];omega
 refine ⟨?_,?_⟩
 · unfold valP
   rw [a1,l1,if_neg (by rintro (h|h);(cases h);omega),if_neg (by omega)]
   rcases hx with e|e<;>rw [e]
   · rw [decide_eq_true (by omega),decide_eq_true (by omega),if_pos rfl]
   · rw [decide_eq_false (by omega),decide_eq_true (by omega),if_neg (by simp)]
 · unfold valP
   rw [amt_neg,a1,l2,if_neg (by rintro (h|h);(cases h);omega),if_neg (by omega)]
   rcases hx with e|e<;>rw [e]
   · rw [decide_eq_true (by omega),decide_eq_false (by omega),if_neg (by simp)]
   · rw [decide_eq_false (by omega),decide_eq_false (by omega),if_pos rfl];rfl
section
variable {g:List (Int × Int)} {cs:List (List Int)} {m:List Int}
def tvP (v m:List Int) (i:Nat):Bool:=decide (valP m (v.getD i 0)=1)
def litT (v m:List Int) (l:Int):Bool:=if l<2 then l==1 else !(tvP v m (l / 2 - 1).toNat==(l % 2==1))
theorem codeV {P:Nat→Bool} {n:Nat} (hm:m.length=cnt P n) (hn:n≤1048576) (hb: ∀x∈m,x=1∨x= -1) {l:Int} (h2:2≤l) (hl:l≤2*n+1) (hP:P (l / 2).toNat=true):decide (valP m (codeP (vs P n) l)=1)=litT (vs P n) m l:=by
 have hi:(l / 2 - 1).toNat<n:=by omega
 have e:(l / 2 - 1).toNat+1=(l / 2).toNat:=by omega
 have hv:=vs_get P hi
 rw [e,hP,if_pos rfl] at hv
 have h1:0<cnt P (l / 2).toNat:=by rw [← e];exact cnt_pos P (by rw [e];exact hP)
 have h3:cnt P (l / 2).toNat≤cnt P n:=cnt_mono P (by omega)
 have h4:=cnt_le P n
 have hval:=valP_var hb (x:=(cnt P (l / 2).toNat:Int)) (by omega) (by omega) (by omega)
 have hx:=hb _ (getD_mem (l:=m) (t:=((cnt P (l / 2).toNat:Int) - 1).toNat) (by omega) 0)
 unfold litT tvP codeP
 rw [vs_len,Int.tdiv_eq_ediv_of_nonneg (show 0≤l by omega),Int.tmod_eq_emod_of_nonneg (show 0≤l by omega),if_neg (show ¬(l<2∨l / 2> (n:Int)) by omega),if_neg (show ¬l<2 by omega),hv]
 by_cases ho:l % 2=1
 · rw [if_pos ho,hval.1,hval.2]
   rw [show (l % 2==1)=true by simpa using ho]
   rcases hx with e|e<;>rw [e]<;>decide
 · rw [if_neg ho,hval.1]
   rw [show (l % 2==1)=false by simpa using ho]
   rcases hx with e|e<;>rw [e]<;>decide
theorem clT {P:Nat→Bool} {n:Nat} (hm:m.length=cnt P n) (hn:n≤1048576) (hb: ∀x∈m,x=1∨x= -1): ∀ {c:List Int},(∀l∈c,l=0∨l=1∨(2≤l∧l≤2*n+1∧P (l / 2).toNat=true))→
 (match clP (vs P n) c with|none=>true|some o=>o.any fun x=>decide (valP m x=1))=c.any (litT (vs P n) m)
 | [],_=>rfl
 |l::c,h=>by
  have ih:=clT hm hn hb (c:=c) fun x hx=>h x (List.mem_cons_of_mem _ hx)
  simp only [clP,List.any_cons]
  rcases h l List.mem_cons_self with rfl|rfl| ⟨h2,h3,hP⟩
  · rw [if_neg (by decide),if_pos rfl,ih]
    have:litT (vs P n) m 0=false:=rfl
    rw [this,Bool.false_or]
  · rw [if_pos rfl]
    have:litT (vs P n) m 1=true:=rfl
    rw [this,Bool.true_or]
  · rw [if_neg (by omega),if_neg (by omega)]
    have hc:=codeV hm hn hb h2 h3 hP
    cases hh:clP (vs P n) c with
    |none=>rw [hh] at ih;simp only at ih;rw [← ih];simp
    |some o=>
     rw [hh] at ih
     simp only [Option.map_some,List.any_cons]
     rw [hc]
     simp only at ih
     rw [ih]
theorem allC_in (h:mayT g cs=true) {c:List Int} (hca:c∈allC g cs (inP g cs)): ∀l∈c,l=0∨l=1∨(2≤l∧l≤2*g.length+1∧inP g cs (l / 2).toNat=true):=by
 have hgm:=mayT_g h
 rcases List.mem_append.1 hca with hca|hca
 · obtain ⟨i,hi,hci⟩:=List.mem_flatMap.1 hca
   have hi:i<g.length:=List.mem_range.1 hi
   unfold gcl at hci
   split at hci
   · rename_i hP
     obtain ⟨hP,hA⟩:=hP
     have hb:=okG_and (mayG_at hgm hi) hA
     have hH:=inP_iff.1 hP
     generalize hx:g.getD i (0,0)=x at*
     obtain ⟨A,B⟩:=x
     simp only at hA hb hci
     have in1: ∀l:Int,(l / 2=A / 2∨l / 2=B / 2)→0≤l→inP g cs (l / 2).toNat=true:=by
      intro l hl h0
      rw [inP_iff]
      have hk:kid g i (l / 2).toNat:=by
       refine ⟨by rw [hx];exact hA,?_⟩
       rw [hx]
       simp only
       rw [Int.tdiv_eq_ediv_of_nonneg hA,Int.tdiv_eq_ediv_of_nonneg hb.1]
       omega
      exact .kid (kid_le hgm hi hk) hi hk hH
     have in2: ∀l:Int,(l=2*i+3∨l=2*i+2)→inP g cs (l / 2).toNat=true:=by
      intro l hl
      rw [show (l / 2).toNat=i+1 by omega]
      exact hP
     have fA:flipL A / 2=A / 2∧0≤flipL A∧flipL A≤2*i+1:=by unfold flipL;split<;>omega
     have fB:flipL B / 2=B / 2∧0≤flipL B∧flipL B≤2*i+1:=by unfold flipL;split<;>omega
     have wrap: ∀l:Int,0≤l→l≤2*g.length+1→inP g cs (l / 2).toNat=true→l=0∨l=1∨(2≤l∧l≤2*g.length+1∧inP g cs (l / 2).toNat=true):=by
      intro l h0 h1 h2
      by_cases e:2≤l
      · exact .inr (.inr ⟨e,h1,h2⟩)
      · omega
     simp only [List.mem_cons,List.not_mem_nil,or_false] at hci
     intro l hl
     rcases hci with rfl|rfl|rfl<;>simp only [List.mem_cons,List.not_mem_nil,or_false] at hl
     · rcases hl with rfl|rfl
       · exact wrap _ (by omega) (by omega) (in2 _ (.inl rfl))
       · exact wrap _ (by omega) (by omega) (in1 _ (.inl rfl) (by omega))
     · rcases hl with rfl|rfl
       · exact wrap _ (by omega) (by omega) (in2 _ (.inl rfl))
       · exact wrap _ (by omega) (by omega) (in1 _ (.inr rfl) (by omega))
     · rcases hl with rfl|rfl|rfl
       · exact wrap _ (by omega) (by omega) (in2 _ (.inr rfl))
       · exact wrap _ (by omega) (by omega) (in1 _ (.inl fA.1) (by omega))
       · exact wrap _ (by omega) (by omega) (in1 _ (.inr fB.1) (by omega))
   · simp at hci
 · have h':=h
   simp only [mayT,Bool.and_eq_true,List.all_eq_true] at h'
   have hc1:=h'.2 c hca
   simp only [mayC,Bool.and_eq_true,List.all_eq_true,decide_eq_true_eq] at hc1
   intro l hl
   have:=hc1.1 l hl
   simp only [isL,decide_eq_true_eq] at this
   by_cases e:2≤l
   · refine .inr (.inr ⟨e,this.2,?_⟩)
     rw [inP_iff]
     refine .hit ⟨c,hca,l,hl,?_⟩
     rw [Int.tdiv_eq_ediv_of_nonneg this.1];omega
   · omega
theorem holds_all (h:mayT g cs=true) (hn:g.length≤1048576) (hm:m.length=cnt (inP g cs) g.length) (hb: ∀x∈m,x=1∨x= -1):
 holdsP m (outC (vs (inP g cs) g.length) (allC g cs (inP g cs)))=(allC g cs (inP g cs)).all fun c=>c.any (litT (vs (inP g cs) g.length) m):=by
 rw [Bool.eq_iff_iff]
 unfold holdsP outC
 rw [List.all_eq_true,List.all_eq_true]
 constructor
 · intro hh c hc
   have ct:=clT (c:=c) hm hn hb (allC_in h hc)
   cases hcl:clP (vs (inP g cs) g.length) c with
   |none=>rw [hcl] at ct;exact ct.symm
   |some o=>
    rw [hcl] at ct
    simp only at ct
    rw [← ct]
    exact hh o (List.mem_filterMap.2 ⟨c,hc,hcl⟩)
 · intro hh o ho
   obtain ⟨c,hc,hcl⟩:=List.mem_filterMap.1 ho
   have ct:=clT (c:=c) hm hn hb (allC_in h hc)
   rw [hcl] at ct
   simp only at ct
   rw [ct]
   exact hh c hc
theorem litT_flip (v:List Int) {l:Int} (h:0≤l):litT v m (flipL l)= !litT v m l:=by
 unfold litT flipL
 by_cases h2:l<2
 · have:l=0∨l=1:=by omega
   rcases this with rfl|rfl<;>simp
 · by_cases he:l % 2=0
   · rw [if_pos he,if_neg (by omega),if_neg h2,show ((l+1) / 2 - 1).toNat=(l / 2 - 1).toNat by omega,show ((l+1) % 2==1)=true by simp<;>omega,show (l % 2==1)=false by simp<;>omega]
     cases tvP v m (l / 2 - 1).toNat<;>rfl
   · rw [if_neg he,if_neg (by omega),if_neg h2,show ((l - 1) / 2 - 1).toNat=(l / 2 - 1).toNat by omega,show ((l - 1) % 2==1)=false by simp<;>omega,show (l % 2==1)=true by simp<;>omega]
     cases tvP v m (l / 2 - 1).toNat<;>rfl
theorem means (h:mayT g cs=true) (hn:g.length≤1048576) (hm:m.length=cnt (inP g cs) g.length) (hb: ∀x∈m,x=1∨x= -1):
 holdsP m (outC (vs (inP g cs) g.length) (allC g cs (inP g cs)))=true↔(askedP g cs (insP g (vs (inP g cs) g.length) m g.length)=true∧∀i,i<g.length→inP g cs (i+1)=true→tvP (vs (inP g cs) g.length) m i=truth g (insP g (vs (inP g cs) g.length) m g.length) (2*i+2)):=by
 have hgm:=mayT_g h
 have hv: ∀ {i:Nat},i<g.length→inP g cs (i+1)=true→decide (valP m ((vs (inP g cs) g.length).getD i 0)>0)=tvP (vs (inP g cs) g.length) m i:=by
  intro i _ _
  unfold tvP
  rcases valP_cases m ((vs (inP g cs) g.length).getD i 0) with e|e|e<;>rw [e]<;>decide
 rw [holds_all h hn hm hb,List.all_eq_true]
 generalize hins:insP g (vs (inP g cs) g.length) m g.length=ins
 have gate: ∀i,i<g.length→inP g cs (i+1)=true→0≤(g.getD i (0,0)).1→((∀c∈gcl g (inP g cs) i,c.any (litT (vs (inP g cs) g.length) m)=true)↔tvP (vs (inP g cs) g.length) m i=(litT (vs (inP g cs) g.length) m (g.getD i (0,0)).1 && litT (vs (inP g cs) g.length) m (g.getD i (0,0)).2)):=by
  intro i hi hP hA
  have hok:=okG_and (mayG_at hgm hi) hA
  unfold gcl
  rw [if_pos ⟨hP,hA⟩]
  have l3:litT (vs (inP g cs) g.length) m (2* (i:Int)+3)= !tvP (vs (inP g cs) g.length) m i:=by
   unfold litT
   rw [if_neg (by omega),show ((2* (i:Int)+3) / 2 - 1).toNat=i by omega,show ((2* (i:Int)+3) % 2==1)=true by simp<;>omega]
   cases tvP (vs (inP g cs) g.length) m i<;>rfl
  have l2:litT (vs (inP g cs) g.length) m (2* (i:Int)+2)=tvP (vs (inP g cs) g.length) m i:=by
   unfold litT
   rw [if_neg (by omega),show ((2* (i:Int)+2) / 2 - 1).toNat=i by omega,show ((2* (i:Int)+2) % 2==1)=false by simp<;>omega]
   cases tvP (vs (inP g cs) g.length) m i<;>rfl
  simp only [List.mem_cons,List.not_mem_nil,or_false,forall_eq_or_imp,forall_eq,List.any_cons,List.any_nil,Bool.or_false,l3,l2,litT_flip _ hA,litT_flip _ hok.1]
  cases tvP (vs (inP g cs) g.length) m i<;>cases litT (vs (inP g cs) g.length) m (g.getD i (0,0)).1<;>cases litT (vs (inP g cs) g.length) m (g.getD i (0,0)).2<;>simp
 have kids: ∀i,i<g.length→inP g cs (i+1)=true→0≤(g.getD i (0,0)).1→∀l,(l=(g.getD i (0,0)).1∨l=(g.getD i (0,0)).2)→0≤l∧l≤2*i+1∧inP g cs (l / 2).toNat=true:=by
  intro i hi hP hA l hl
  have hok:=okG_and (mayG_at hgm hi) hA
  have hk:kid g i (l / 2).toNat:=by
   refine ⟨hA,?_⟩
   rw [Int.tdiv_eq_ediv_of_nonneg hA,Int.tdiv_eq_ediv_of_nonneg hok.1]
   rcases hl with rfl|rfl<;>omega
  exact ⟨by omega,by omega,inP_iff.2 (.kid (kid_le hgm hi hk) hi hk (inP_iff.1 hP))⟩
 have litEq: ∀ (N:Nat),(∀i,i<N→i<g.length→inP g cs (i+1)=true→tvP (vs (inP g cs) g.length) m i=truth g ins (2*i+2))→∀l:Int,0≤l→l≤2*N+1→l≤2*g.length+1→inP g cs (l / 2).toNat=true→litT (vs (inP g cs) g.length) m l=truth g ins l:=by
  intro N hN l h0 h1 h3 hP
  by_cases h2:l<2
  · rw [truth_lt h2];unfold litT;rw [if_pos h2]
  · have e1:(l / 2 - 1).toNat+1=(l / 2).toNat:=by omega
    have:=hN (l / 2 - 1).toNat (by omega) (by omega) (by rw [e1];exact hP)
    have t1:=truth_node (ins:=ins) hgm (i:=(l / 2 - 1).toNat) (by omega) (l:=l) (by omega) (by omega)
    have t2:=truth_node (ins:=ins) hgm (i:=(l / 2 - 1).toNat) (by omega) (l:=2* ((l / 2 - 1).toNat:Int)+2) (by omega) (by omega)
    rw [show ((2* ((l / 2 - 1).toNat:Int)+2) % 2==1)=false by simp<;>omega] at t2
    unfold litT
    rw [if_neg h2,this,t1,t2]
    simp
 constructor
 · intro hh
   have hall: ∀N,N≤g.length→∀i,i<N→i<g.length→inP g cs (i+1)=true→tvP (vs (inP g cs) g.length) m i=truth g ins (2*i+2):=by
    intro N
    induction N with
    |zero=>intro _ i hi;omega
    |succ N ih=>
     intro hN i hi hig hP
     by_cases e:i<N
     · exact ih (by omega) i e hig hP
     have e:i=N:=by omega
     subst e
     have t2:=truth_node (ins:=ins) hgm hig (l:=2* (i:Int)+2) (by omega) (by omega)
     rw [show ((2* (i:Int)+2) % 2==1)=false by simp<;>omega] at t2
     rw [t2]
     by_cases hA:0≤(g.getD i (0,0)).1
     · rw [if_pos hA]
       have hg:=(gate i hig hP hA).1 fun c hc=>hh c (List.mem_append_left _ (List.mem_flatMap.2 ⟨i,List.mem_range.2 hig,hc⟩))
       obtain ⟨a1,a2,a3⟩:=kids i hig hP hA _ (.inl rfl)
       obtain ⟨b1,b2,b3⟩:=kids i hig hP hA _ (.inr rfl)
       rw [hg,litEq i (ih (by omega)) _ a1 a2 (by omega) a3,litEq i (ih (by omega)) _ b1 b2 (by omega) b3]
       simp
     · rw [if_neg hA,← hins,insP_get g _ m (by omega) hig,hv hig hP]
       simp
   refine ⟨?_,fun i hi hP=>hall g.length (Nat.le_refl _) i hi hi hP⟩
   unfold askedP
   rw [List.all_eq_true]
   intro c hc
   have:=hh c (List.mem_append_right _ hc)
   rw [List.any_eq_true] at this ⊢
   obtain ⟨l,hl,ht⟩:=this
   refine ⟨l,hl,?_⟩
   rcases allC_in h (List.mem_append_right _ hc) l hl with rfl|rfl| ⟨h2,h3,hP⟩
   · cases ht
   · rw [truth_lt (by omega)];rfl
   · rw [← litEq g.length (hall g.length (Nat.le_refl _)) l (by omega) h3 h3 hP];exact ht
 · rintro ⟨ha,hall⟩ c hc
   have hall': ∀i,i<g.length→i<g.length→inP g cs (i+1)=true→tvP (vs (inP g cs) g.length) m i=truth g ins (2*i+2):=fun i _ hi hP=>hall i hi hP
   rcases List.mem_append.1 hc with hc|hc
   · obtain ⟨i,hi,hci⟩:=List.mem_flatMap.1 hc
     have hi:i<g.length:=List.mem_range.1 hi
     have hci':=hci
     unfold gcl at hci'
     split at hci'
     · rename_i hP
       obtain ⟨hP,hA⟩:=hP
       refine (gate i hi hP hA).2 ?_ c hci
       obtain ⟨a1,a2,a3⟩:=kids i hi hP hA _ (.inl rfl)
       obtain ⟨b1,b2,b3⟩:=kids i hi hP hA _ (.inr rfl)
       have t2:=truth_node (ins:=ins) hgm hi (l:=2* (i:Int)+2) (by omega) (by omega)
       rw [show ((2* (i:Int)+2) % 2==1)=false by simp<;>omega,if_pos hA] at t2
       rw [hall i hi hP,t2,litEq g.length hall' _ a1 (by omega) (by omega) a3,litEq g.length hall' _ b1 (by omega) (by omega) b3]
       simp
     · simp at hci'
   · unfold askedP at ha
     rw [List.all_eq_true] at ha
     have:=ha c hc
     rw [List.any_eq_true] at this ⊢
     obtain ⟨l,hl,ht⟩:=this
     refine ⟨l,hl,?_⟩
     rcases allC_in h (List.mem_append_right _ hc) l hl with rfl|rfl| ⟨h2,h3,hP⟩
     · rw [truth_lt (by omega)] at ht;cases ht
     · rfl
     · rw [litEq g.length hall' l (by omega) h3 h3 hP];exact ht
end
end
end Go.Proofs.YtddffgjagppimaaGreat.W.Rk
namespace Go.Proofs.YtddffgjagppimaaGreat.W
open Go Go.Fw Go.RowKit Go.TsP Rk
variable {g:List (Int × Int)} {cs:List (List Int)} {ins:List Bool}
theorem cnt_lt (P:Nat→Bool) {a b:Nat} (h:a<b) (hb:P b=true):cnt P a<cnt P b:=by
 obtain ⟨c,rfl⟩: ∃c,b=c+1:=⟨b - 1,by omega⟩
 have:=cnt_mono P (show a≤c by omega)
 rw [cnt_succ,if_pos hb]
 omega
noncomputable def modI (g:List (Int × Int)) (cs:List (List Int)) (ins:List Bool):List Int:=
 (List.range (cnt (inP g cs) g.length)).map fun j=>if (List.range g.length).any fun i=>inP g cs (i+1) && decide (cnt (inP g cs) (i+1)=j+1) && truth g ins (2*i+2) then 1 else -1
theorem modI_at {i:Nat} (hi:i<g.length) (hP:inP g cs (i+1)=true):(modI g cs ins).getD (cnt (inP g cs) (i+1) - 1) 0=if truth g ins (2*i+2) then 1 else -1:=by
 have h1:=cnt_pos (inP g cs) hP
 have h2:=cnt_mono (inP g cs) (show i+1≤g.length by omega)
 have h3:cnt (inP g cs) (i+1) - 1<cnt (inP g cs) g.length:=by omega
 unfold modI
 rw [List.getD_eq_getElem?_getD,List.getElem?_map,List.getElem?_range h3]
 show (if (List.range g.length).any _=true then (1:Int) else -1)=_
 congr 1
 rw [List.any_eq_true]
 refine propext ⟨?_,fun h=> ⟨i,List.mem_range.2 hi,by rw [hP,h,decide_eq_true (by omega)];rfl⟩⟩
 rintro ⟨j,hj,h⟩
 simp only [Bool.and_eq_true,decide_eq_true_eq] at h
 obtain ⟨⟨a,b⟩,c⟩:=h
 have:j=i:=by
  rcases Nat.lt_trichotomy j i with e|e|e
  · have:=cnt_lt (inP g cs) (show j+1<i+1 by omega) hP;omega
  · exact e
  · have:=cnt_lt (inP g cs) (show i+1<j+1 by omega) a;omega
 rw [← this];exact c
theorem means_ex (h:mayT g cs=true) (hn:g.length≤1048576) (ha:askedP g cs ins=true):
 ∃m:List Int,m.length=cnt (inP g cs) g.length∧(∀x∈m,x=1∨x= -1)∧holdsP m (outC (vs (inP g cs) g.length) (allC g cs (inP g cs)))=true:=by
 have hgm:=mayT_g h
 have hm:(modI g cs ins).length=cnt (inP g cs) g.length:=by simp [modI]
 have hb: ∀x∈modI g cs ins,x=1∨x= -1:=by
  intro x hx
  unfold modI at hx
  obtain ⟨j,_,rfl⟩:=List.mem_map.1 hx
  split
  · exact .inl rfl
  · exact .inr rfl
 refine ⟨modI g cs ins,hm,hb,(means h hn hm hb).2 ?_⟩
 have hcl:=cnt_le (inP g cs) g.length
 have tv: ∀i,i<g.length→inP g cs (i+1)=true→tvP (vs (inP g cs) g.length) (modI g cs ins) i=truth g ins (2*i+2):=by
  intro i hi hP
  have h1:=cnt_pos (inP g cs) hP
  have h2:=cnt_mono (inP g cs) (show i+1≤g.length by omega)
  unfold tvP
  rw [vs_get _ hi,if_pos hP,(valP_var hb (by omega) (by rw [hm];omega) (by omega)).1,show ((cnt (inP g cs) (i+1):Int) - 1).toNat=cnt (inP g cs) (i+1) - 1 by omega,modI_at hi hP]
  cases truth g ins (2*i+2)<;>rfl
 obtain ⟨ins',hins⟩: ∃ins',ins'=insP g (vs (inP g cs) g.length) (modI g cs ins) g.length:=⟨_,rfl⟩
 rw [← hins]
 have kids: ∀i,i<g.length→inP g cs (i+1)=true→0≤(g.getD i (0,0)).1→∀l,(l=(g.getD i (0,0)).1∨l=(g.getD i (0,0)).2)→0≤l∧l≤2*i+1∧(l<2∨inP g cs (l / 2).toNat=true):=by
  intro i hi hP hA l hl
  have hok:=okG_and (mayG_at hgm hi) hA
  have hk:kid g i (l / 2).toNat:=by
   refine ⟨hA,?_⟩
   rw [Int.tdiv_eq_ediv_of_nonneg hA,Int.tdiv_eq_ediv_of_nonneg hok.1]
   rcases hl with rfl|rfl<;>omega
  exact ⟨by omega,by omega,.inr (inP_iff.2 (.kid (kid_le hgm hi hk) hi hk (inP_iff.1 hP)))⟩
 have tr2: ∀ (J:List Bool) (l:Int),2≤l→l≤2*g.length+1→truth g J l= !(truth g J (2* ((l / 2 - 1).toNat:Int)+2)==(l % 2==1)):=by
  intro J l h2 hl
  have t1:=truth_node (ins:=J) hgm (i:=(l / 2 - 1).toNat) (by omega) (l:=l) (by omega) (by omega)
  have t2:=truth_node (ins:=J) hgm (i:=(l / 2 - 1).toNat) (by omega) (l:=2* ((l / 2 - 1).toNat:Int)+2) (by omega) (by omega)
  rw [show ((2* ((l / 2 - 1).toNat:Int)+2) % 2==1)=false by simp<;>omega] at t2
  rw [t1,t2]
  simp
 have same: ∀N i,i<N→i<g.length→inP g cs (i+1)=true→truth g ins' (2*i+2)=truth g ins (2*i+2):=by
  intro N
  induction N with
  |zero=>intro i hi;omega
  |succ N ih=>
   intro i hi hig hP
   by_cases e:i<N
   · exact ih i e hig hP
   have t1:=truth_node (ins:=ins) hgm hig (l:=2* (i:Int)+2) (by omega) (by omega)
   have t2:=truth_node (ins:=ins') hgm hig (l:=2* (i:Int)+2) (by omega) (by omega)
   by_cases hA:0≤(g.getD i (0,0)).1
   · rw [if_pos hA] at t1 t2
     have lit: ∀l,(l=(g.getD i (0,0)).1∨l=(g.getD i (0,0)).2)→truth g ins' l=truth g ins l:=by
      intro l hl
      obtain ⟨a,b,c⟩:=kids i hig hP hA l hl
      rcases c with c|c
      · rw [truth_lt c,truth_lt c]
      · by_cases l2:l<2
        · rw [truth_lt l2,truth_lt l2]
        · rw [tr2 ins' l (by omega) (by omega),tr2 ins l (by omega) (by omega),ih (l / 2 - 1).toNat (by omega) (by omega) (by rw [show (l / 2 - 1).toNat+1=(l / 2).toNat by omega];exact c)]
     rw [t1,t2,lit _ (.inl rfl),lit _ (.inr rfl)]
   · rw [if_neg hA] at t1 t2
     have ei:=insP_get g (vs (inP g cs) g.length) (modI g cs ins) (i:=i) (by omega) (t:=g.length) hig
     rw [← hins] at ei
     have e2:=tv i hig hP
     unfold tvP at e2
     rw [t2,ei,← e2]
     rw [show ((2* (i:Int)+2) % 2==1)=false by simp<;>omega]
     rcases valP_cases (modI g cs ins) ((vs (inP g cs) g.length).getD i 0) with e|e|e<;>rw [e]<;>decide
 refine ⟨?_,fun i hi hP=>by rw [tv i hi hP,same (i+1) i (by omega) hi hP]⟩
 unfold askedP at ha ⊢
 rw [List.all_eq_true] at ha ⊢
 intro c hc
 have h1:=ha c hc
 rw [List.any_eq_true] at h1 ⊢
 obtain ⟨l,hl,ht⟩:=h1
 refine ⟨l,hl,?_⟩
 rw [← ht]
 rcases allC_in h (List.mem_append_right _ hc) l hl with rfl|rfl| ⟨a,b,d⟩
 · rw [truth_lt (by decide),truth_lt (by decide)]
 · rw [truth_lt (by decide),truth_lt (by decide)]
 · rw [tr2 ins' l a b,tr2 ins l a b,same _ _ (Nat.lt_succ_self _) (by omega) (by rw [show (l / 2 - 1).toNat+1=(l / 2).toNat by omega];exact d)]
end Go.Proofs.YtddffgjagppimaaGreat.W
namespace Go.Proofs.YtddffgjagppimaaGreat.W.Rk
open Go Go.Fw Go.RowKit Go.TsP
open Go.IntKind (i64)
section
structure Coded (w:World) (pc:Option Addr) (cl:List (List Int)) (pv:Option Addr) (v:List Int):Prop where
 c: ∃hs,V2 (Value.int .i64) w pc hs cl
 v:Vw (Value.int .i64) w pv v
theorem Coded.grow {w w':World} {pc pv:Option Addr} {cl:List (List Int)} {v:List Int} (h:Coded w pc cl pv v) (g:Grow w w'):Coded w' pc cl pv v:=by
 obtain ⟨⟨hs,h1⟩,h2⟩:=h
 exact ⟨⟨hs,h1.grow g⟩,h2.grow g⟩
noncomputable abbrev tV (g:List (Int × Int)) (cs:List (List Int)):List Int:=vs (inP g cs) g.length
noncomputable abbrev tK (g:List (Int × Int)) (cs:List (List Int)):Int:=(cnt (inP g cs) g.length:Nat)
noncomputable abbrev tC (g:List (Int × Int)) (cs:List (List Int)):List (List Int):=outC (tV g cs) (allC g cs (inP g cs))
theorem build_ok {w:World} {p q:Option Addr} {g:List (Int × Int)} {n c m d:Nat} {hs:List Sl} {cs:List (List Int)} (hn:n=g.length) (hg:n≤4096) (hm:m=cs.length) (hx:m≤4096) (h:Vr 2 gateV w p g) (hc:V2 (Value.int .i64) w q hs cs):
 Calls Tryz.prog tseitin_Build.id #[.slice p n c,.slice q m d] w fun e w'=> ((mayT g cs=false∧e= .returned (.tuple #[.agg #[.int .i64 0,.slice none 0 0,.slice none 0 0],.int .i64 1]))∨
  (mayT g cs=true∧∃pc cc pv cv,e= .returned (.tuple #[.agg #[.int .i64 (tK g cs),.slice pc (tC g cs).length cc,.slice pv (tV g cs).length cv],.int .i64 0])∧Coded w' pc (tC g cs) pv (tV g cs)))∧Grow w w':=by
 subst hn hm
 refine tseitin_Build.calls ?_
 intro n1 w2 h2
 have H1:=h2.has
 have e1:=h2.num
 have z2:=New.size h2
 refine (tsMay_ok (h.grow h2.mod) rfl (by omega) (hc.grow h2.mod) rfl (by omega)).mono ?_
 rintro e w3 ⟨rfl,g3⟩
 have G3:=h2.mod.trans g3
 have z3:=g3.size
 refine ⟨_,rfl,cnd_i (fun s=> ?_) (fun s=> ?_)⟩<;>simp only [Bool.not_eq_true',Bool.not_eq_false'] at s
 · refine store_i (H1.grow g3) rfl rfl fun w5 h5 m5=> ⟨_,_,_,_,_,_,_,cells3 h5,.inl ⟨s,rfl⟩,G3.then m5 fun k hk e=>by omega⟩
 refine (cone_ok rfl (by omega) rfl (by omega) s (h.grow G3) (hc.grow G3)).mono ?_
 rintro e w9 ⟨⟨r,cr,inn,rfl,O,hil,hin⟩,g9⟩
 have G9:=G3.trans g9
 have z9:=g9.size
 have hinn: ∀k,k≤g.length→inn.getD k false=inP g cs k:=fun k hk=>by
  exact Bool.eq_iff_iff.2 ((hin k hk).trans inP_iff.symm)
 refine ⟨_,_,_,rfl,?_⟩
 intro n11 w12 h12
 have e12:=h12.num
 have B0:BRep w12 n11 ⟨0,none,0,[],[],none,0,[]⟩:=⟨h12.has,OV.nil,Ow.nil _ _ _,(by rintro (e| ⟨s,hs,_⟩)<;>simp [blk] at*),(by simp [blk]),(by simp [blk])⟩
 have F0: ∀k,Bd.foot ⟨0,none,0,[],[],none,0,[]⟩ n11 k→w9.heap.size≤k:=by
  rintro k (rfl| (e| ⟨s,hs,_⟩)|e)
  · omega
  · simp [blk] at e
  · simp at hs
  · simp [blk] at e
 refine ⟨fun v w' z=> ∃ (t:Nat) (x:Bd),v=t∧t≤g.length∧BRep w' n11 x∧x.k=cnt (inP g cs) t∧x.v=vs (inP g cs) t∧x.cl= []∧(∀k,x.foot n11 k→w9.heap.size≤k)∧Grow w9 w'∧z+t=g.length,
  ⟨_,0,_,rfl,Nat.zero_le _,B0,rfl,rfl,rfl,F0,h12.mod,rfl⟩,?_⟩
 clear B0 F0
 rintro v w17 z _ ⟨t,x,rfl,ht,B,xk,xv,xc,F,G,hz⟩
 have O17:=O.grow G
 refine cnd_i (fun q1=> ?_) (fun q1=> ?_)<;>simp only [decide_eq_true_eq,decide_eq_false_iff_not] at q1
 · have ht':t<g.length:=by omega
   have ew:i64.wrap ((t:Int)+1)=((t+1:Nat):Int):=by rw [wrap64_of (by omega) (by omega)];omega
   have hxl:x.v.length=t:=by rw [xv,vs_len]
   have hcl:=cnt_le (inP g cs) t
   rw [ew]
   refine O17.ix false (by omega) hil.symm (by omega) fun a e=> ⟨_,e,?_⟩
   rw [Int.toNat_natCast,hinn (t+1) (by omega)]
   refine cnd_i (fun q2=> ?_) (fun q2=> ?_)
   · have ek:i64.wrap (x.k+1)=((cnt (inP g cs) (t+1):Nat):Int):=by
      rw [xk,wrap64_of (by omega) (by omega)]
      rw [cnt_succ,if_pos q2];omega
     refine ⟨_,rfl,_,cell_add3 B.me rfl,_,rfl,store_f3 B.me rfl rfl fun w23 h23 m23=> ?_⟩
     have B2:BRep w23 n11 {x with k:=i64.wrap (x.k+1)}:=B.setK h23 m23
     have G23:Grow w9 w23:=G.then m23 fun k hk e=>by have:=F n11 (.inl rfl);omega
     refine ⟨_,rfl,_,cell_add3 B2.me rfl,_,rfl,_,_,_,cell_add2 B2.me rfl,?_⟩
     refine pushVar B2 F G23 _ (by simp only;omega) fun w' x' B' k' c' v' F' G'=> ⟨z - 1,by omega,t+1,x',rfl,ht',B',?_,?_,by rw [c'];exact xc,F',G',by omega⟩
     · rw [k'];exact ek
     · rw [v',vs_succ,if_pos q2,← xv];simp only;rw [ek]
   · refine ⟨_,rfl,_,_,_,cell_add2 B.me rfl,?_⟩
     refine pushVar B F G _ (by omega) fun w' x' B' k' c' v' F' G'=> ⟨z - 1,by omega,t+1,x',rfl,ht',B',?_,?_,by rw [c'];exact xc,F',G',by omega⟩
     · rw [k',xk,cnt_succ,q2];rfl
     · rw [v',vs_succ,q2,← xv];rfl
 have et:t=g.length:=by omega
 subst et
 have sm:=vs_small (inP g cs) (n:=g.length) (by omega)
 have hcn:=cnt_le (inP g cs) g.length
 have hgm:=mayT_g s
 have hgl:=gcl_len g (inP g cs)
 refine ⟨fun v w' z=> ∃ (t:Nat) (x:Bd),v=t∧t≤g.length∧BRep w' n11 x∧x.k=tK g cs∧x.v=tV g cs∧x.cl=outC (tV g cs) (gcls g (inP g cs) t)∧(∀k,x.foot n11 k→w9.heap.size≤k)∧Grow w9 w'∧z+t=g.length,
  ⟨_,0,x,rfl,Nat.zero_le _,B,xk,xv,by rw [xc];rfl,F,G,rfl⟩,?_⟩
 clear B xk xv xc F G O17 hz
 rintro v w46 z _ ⟨t,x,rfl,ht,B,xk,xv,xc,F,G,hz⟩
 refine cnd_i (fun q1=> ?_) (fun q1=> ?_)<;>simp only [decide_eq_true_eq,decide_eq_false_iff_not] at q1
 · have ht':t<g.length:=by omega
   have ew:i64.wrap ((t:Int)+1)=((t+1:Nat):Int):=by rw [wrap64_of (by omega) (by omega)];omega
   rw [ew]
   have hok:=mayG_at hgm ht'
   refine gIx (h.grow (G9.trans G)) rfl ht' fun a x0 x1=> ⟨_,_,⟨x0,x1,trivial⟩,?_⟩
   intro n50 w51 h51
   have e51:=h51.num
   have z51:=New.size h51
   refine store_i h51.has rfl rfl fun w52 h52 m52=> ?_
   have g52:Grow w46 w52:=h51.mod.fresh m52 (by omega)
   have G52:=G.trans g52
   have z52:=g52.size
   have hlt:=B.lt
   have gs:=gcls_succ g (inP g cs) t
   generalize hgt:g.getD t (0,0)=gt at*
   obtain ⟨A,C⟩:=gt
   have h52:Has w52 n50 #[.int .i64 A,.int .i64 C]:=h52
   have same: ∀w',Grow w46 w'→gcl g (inP g cs) t= []→∃k44:Nat,k44<z∧∃ (t':Nat) (x:Bd),((t+1:Nat):Int)=t'∧t'≤g.length∧BRep w' n11 x∧x.k=tK g cs∧x.v=tV g cs∧x.cl=outC (tV g cs) (gcls g (inP g cs) t')∧(∀k,x.foot n11 k→w9.heap.size≤k)∧Grow w9 w'∧k44+t'=g.length:=fun w' gg hno=>
    ⟨z - 1,by omega,t+1,x,rfl,ht',B.grow gg,xk,xv,by rw [gs,hno,List.append_nil];exact xc,F,G.trans gg,by omega⟩
   refine (O.grow G52).ix false (by omega) hil.symm (by omega) fun a e=> ⟨_,e,?_⟩
   rw [Int.toNat_natCast,hinn (t+1) (by omega)]
   refine cnd_i (fun q2=>same _ g52 ?_) (fun q2=> ⟨_,_,⟨cell_add h52 rfl,cell_add h52 rfl,trivial⟩,(tsAnd_ok A C w52).mono ?_⟩)<;>simp only [Bool.not_eq_true',Bool.not_eq_false'] at q2
   · unfold gcl;rw [q2];simp
   rintro e w57 ⟨rfl,g57⟩
   refine ⟨_,rfl,cnd_i (fun q3=>same _ (g52.trans g57) ?_) (fun q3=> ?_)⟩<;>simp only [Bool.not_eq_true',Bool.not_eq_false',decide_eq_true_eq,decide_eq_false_iff_not,ge_iff_le] at q3
   · unfold gcl;rw [hgt,if_neg (fun hh=>q3 hh.2)]
   have hb:=okG_and hok q3
   simp only at hb
   have gc:gcl g (inP g cs) t= [[2* (t:Int)+3,A],[2* (t:Int)+3,C],[2* (t:Int)+2,flipL A,flipL C]]:=by
    unfold gcl;rw [hgt,if_pos ⟨q2,q3⟩]
   have l2:i64.wrap (2* ((t+1:Nat):Int))=2* (t:Int)+2:=by rw [wrap64_of (by omega) (by omega)];omega
   have f1:flip (2* (t:Int)+2)=2* (t:Int)+3:=by unfold flip;rw [if_pos (by omega)];omega
   have fl: ∀y,flip y=flipL y:=fun _=>rfl
   rw [l2,xor1 (by omega) (by omega),f1]
   have G57:=G52.trans g57
   have h57:=h52.grow g57
   have B57:=B.grow (g52.trans g57)
   have z57:=g57.size
   have hcl0:x.cl.length≤3*t:=by rw [xc];exact Nat.le_trans (outC_len _ _) (hgl t)
   refine ⟨_,cell_add h57 rfl,?_⟩
   intro n60 w61 h61
   have L1:OwI ty_int w61 (some ⟨n60,0,none⟩) 2 [2* (t:Int)+3,A]:=Ow.of_some h61.at (Nat.le_refl _) (by unfold maxLen;omega) rfl rfl
   refine (add_ok (B57.grow h61.mod) (by rw [xv];exact sm) (by omega) L1.vw rfl (fun y hy=>by simp at hy;rcases hy with rfl|rfl<;>omega) (by simp)).mono ?_
   rintro e w62 ⟨rfl,x2,B2,k2,v2,c2,f2,m2⟩
   have G62:Grow w9 w62:=(G57.trans h61.mod).then m2 fun k hk e=>by have:=F k e;omega
   have F2: ∀k,x2.foot n11 k→w9.heap.size≤k:=fun k hk=>by
    rcases f2 k hk with e|e
    · exact F k e
    · have:=(G57.trans h61.mod).size;omega
   have n50f: ¬x.foot n11 n50:=fun e=>by have:=hlt n50 e;omega
   have h62:=(h57.old h61).keep m2 n50f
   refine ⟨rfl,_,cell_add h62 rfl,?_⟩
   intro n64 w65 h65
   have L2:OwI ty_int w65 (some ⟨n64,0,none⟩) 2 [2* (t:Int)+3,C]:=Ow.of_some h65.at (Nat.le_refl _) (by unfold maxLen;omega) rfl rfl
   have hcl1:x2.cl.length≤3*t+1:=by
    rw [c2,List.length_append]
    have:(clP x.v [2* (t:Int)+3,A]).toList.length≤1:=by cases clP x.v [2* (t:Int)+3,A]<;>simp
    omega
   refine (add_ok (B2.grow h65.mod) (by rw [v2,xv];exact sm) (by omega) L2.vw rfl (fun y hy=>by simp at hy;rcases hy with rfl|rfl<;>omega) (by simp)).mono ?_
   rintro e w66 ⟨rfl,x3,B3,k3,v3,c3,f3,m3⟩
   have G66:Grow w9 w66:=(G62.trans h65.mod).then m3 fun k hk e=>by have:=F2 k e;omega
   have F3: ∀k,x3.foot n11 k→w9.heap.size≤k:=fun k hk=>by
    rcases f3 k hk with e|e
    · exact F2 k e
    · have:=(G62.trans h65.mod).size;omega
   have n50f2: ¬x2.foot n11 n50:=fun e=>by
    rcases f2 n50 e with e|e
    · exact n50f e
    · have:=h57.lt;have:=h61.mod.size;omega
   have h66:=(h62.old h65).keep m3 n50f2
   refine ⟨rfl,_,cell_add h66 rfl,_,cell_add h66 rfl,?_⟩
   rw [xor1 q3 (by omega),xor1 hb.1 (by omega),fl,fl]
   intro n69 w70 h70
   have L3:OwI ty_int w70 (some ⟨n69,0,none⟩) 3 [2* (t:Int)+2,flipL A,flipL C]:=Ow.of_some h70.at (Nat.le_refl _) (by unfold maxLen;omega) rfl rfl
   have hcl2:x3.cl.length≤3*t+2:=by
    rw [c3,List.length_append]
    have:(clP x2.v [2* (t:Int)+3,C]).toList.length≤1:=by cases clP x2.v [2* (t:Int)+3,C]<;>simp
    omega
   have fA:0≤flipL A∧flipL A≤2*t+1:=by unfold flipL;split<;>omega
   have fC:0≤flipL C∧flipL C≤2*t+1:=by unfold flipL;split<;>omega
   refine (add_ok (B3.grow h70.mod) (by rw [v3,v2,xv];exact sm) (by omega) L3.vw rfl (fun y hy=>by simp at hy;rcases hy with rfl|rfl|rfl<;>omega) (by simp)).mono ?_
   rintro e w71 ⟨rfl,x4,B4,k4,v4,c4,f4,m4⟩
   refine ⟨rfl,z - 1,by omega,t+1,x4,rfl,ht',B4,by rw [k4,k3,k2,xk],by rw [v4,v3,v2,xv],?_,fun k hk=> ?_,(G66.trans h70.mod).then m4 fun k hk e=>by have:=F3 k e;omega,by omega⟩
   · rw [c4,c3,c2,xc,v3,v2,xv,gs,gc,outC_app]
     rw [show ([[2* (t:Int)+3,A],[2* (t:Int)+3,C],[2* (t:Int)+2,flipL A,flipL C]]:List (List Int))= [[2* (t:Int)+3,A]]++ ([[2* (t:Int)+3,C]]++ [[2* (t:Int)+2,flipL A,flipL C]]) from rfl,outC_app,outC_app,outC_one,outC_one,outC_one]
     simp only [List.append_assoc]
   · rcases f4 k hk with e|e
     · exact F3 k e
     · have:=(G66.trans h70.mod).size;omega
 have et:t=g.length:=by omega
 subst et
 refine ⟨fun v w' z=> ∃ (t:Nat) (x:Bd),v=t∧t≤cs.length∧BRep w' n11 x∧x.k=tK g cs∧x.v=tV g cs∧x.cl=outC (tV g cs) (gcls g (inP g cs) g.length++cs.take t)∧(∀k,x.foot n11 k→w9.heap.size≤k)∧Grow w9 w'∧z+t=cs.length,
  ⟨_,0,x,rfl,Nat.zero_le _,B,xk,xv,by rw [xc];simp,F,G,rfl⟩,?_⟩
 clear B xk xv xc F G hz
 rintro v w76 z _ ⟨t,x,rfl,ht,B,xk,xv,xc,F,G,hz⟩
 refine cnd_i (fun q1=> ?_) (fun q1=> ?_)<;>simp only [decide_eq_true_eq,decide_eq_false_iff_not] at q1
 · have ht':t<cs.length:=by omega
   have hgl':=hgl g.length
   refine rowIx (hc.grow (G9.trans G)) rfl ht' fun a sl e _ hsn hsm hv=> ⟨_,_,_,e,?_⟩
   have hcl:x.cl.length≤3*g.length+cs.length:=by
    rw [xc]
    refine Nat.le_trans (outC_len _ _) ?_
    rw [List.length_append,List.length_take];omega
   have hmc:(cs.getD t []).length≤4096:=by
    have h':=s
    simp only [mayT,Bool.and_eq_true,List.all_eq_true] at h'
    have:=h'.2 (cs.getD t []) (by simp [List.getD,ht'])
    simp only [mayC,Bool.and_eq_true,decide_eq_true_eq] at this
    exact this.2
   refine (add_ok B (by rw [xv];exact sm) (by omega) hv hsn (fun y hy=> ?_) (by omega)).mono ?_
   · obtain ⟨j,hj⟩:=List.getElem?_of_mem hy
     have hjl:=(List.getElem?_eq_some_iff.1 hj).1
     have:=mayT_l s ht' hjl
     rw [show (cs.getD t []).getD j 0=y by simp only [List.getD_eq_getElem?_getD] at hj ⊢;rw [hj];rfl] at this
     omega
   · rintro e w79 ⟨rfl,x2,B2,k2,v2,c2,f2,m2⟩
     refine ⟨rfl,z - 1,by omega,t+1,x2,by rw [wrap64_of (by omega) (by omega)];omega,ht',B2,by rw [k2,xk],by rw [v2,xv],?_,fun k hk=> ?_,G.then m2 fun k hk e=>by have:=F k e;omega,by omega⟩
     · rw [c2,xc,xv,List.take_add_one,← List.append_assoc]
       have:cs[t]? =some (cs.getD t []):=by simp [List.getD,ht']
       rw [this,Option.toList_some,outC_snoc]
     · rcases f2 k hk with e|e
       · exact F k e
       · have:=G.size;omega
 have et:t=cs.length:=by omega
 subst et
 rw [List.take_length] at xc
 have xc':x.cl=tC g cs:=xc
 have e0:((Addr.mk n11 0 none).add 0).add 0=⟨n11,0,none⟩:=by rw [add_at,add_at]
 have e00:(Addr.mk n11 0 none).add 0=⟨n11,0,none⟩:=by rw [add_at]
 refine ⟨_,rfl,_,_,_,_,by rw [e0];exact ⟨cell_add B.me rfl,cell_add B.me rfl,trivial⟩,(checkCnf_ok B.c.v2 rfl).mono ?_⟩
 rintro e w83 ⟨rfl,g83⟩
 have B83:=B.grow g83
 rw [xc',xk,out_cnf s (by omega) (by omega)]
 refine ⟨_,rfl,cnd_f rfl ⟨_,rfl,_,_,_,_,_,_,_,by rw [e00];exact cells3 B83.me,?_⟩⟩
 have H1':Has w83 n1 _:=(((H1.grow g3).grow g9).grow G).grow g83
 refine store_i H1' rfl rfl fun w93 h93 m93=> ⟨_,_,_,_,_,_,_,cells3 h93,.inr ⟨s,x.pc,x.cc,x.pv,x.cv,?_,⟨x.hs,?_⟩,?_⟩,((G9.trans G).trans g83).then m93 fun k hk e=>by omega⟩
 · rw [xk,xc',xv]
 · rw [← xc']
   exact (B83.c.keep m93 fun k hk e=>by have:=F k (.inr (.inl hk));omega).v2
 · rw [← xv]
   exact (B83.v.keep m93 fun k hk e=>by have:=F k (.inr (.inr hk));omega).vw
end
section
theorem vw_heads {w:World} {n:Nat} {l:List Sl} (h:Has w n (l.map Sl.v).toArray):Vw Sl.v w (some ⟨n,0,none⟩) l:=by
 intro j hj
 exact ⟨_,rfl,cell_add h (by simp [hj])⟩
end
section
theorem light18_ok {w:World} {p q:Option Addr} {g:List (Int × Int)} {n c m d:Nat} {hs:List Sl} {cs:List (List Int)} (hn:n=g.length) (hm:m=cs.length) (hx:m≤maxLen) (hc:V2 (Value.int .i64) w q hs cs):
 Calls Tryz.prog fathomlaw18_light.id #[.slice p n c,.slice q m d] w fun e w'=> (∃r,e= .returned (.bool r)∧(r=true→g.length≤12∧cs.length≤12∧∀t,t<cs.length→(cs.getD t []).length≤30))∧Grow w w':=by
 subst hn hm
 unfold maxLen at hx
 refine fathomlaw18_light.calls ?_
 refine ⟨fun v w' z=> ∃t:Nat,v=t∧t≤cs.length∧(∀i,i<t→(cs.getD i []).length≤30)∧Grow w w'∧z+t=cs.length,⟨_,0,rfl,Nat.zero_le _,fun i hi=>by omega,Mod.refl _,rfl⟩,?_⟩
 rintro v w5 z _ ⟨t,rfl,ht,ha,G,hz⟩
 have fin:(12<cs.length∨t=cs.length)→cnd (decide ((g.length:Int)≤(12:Int))) ((∃r,Ending.returned (.bool (decide ((cs.length:Int)≤(12:Int))))= .returned (.bool r)∧(r=true→g.length≤12∧cs.length≤12∧∀t,t<cs.length→(cs.getD t []).length≤30))∧Grow w w5) ((∃r,Ending.returned (.bool false)= .returned (.bool r)∧(r=true→g.length≤12∧cs.length≤12∧∀t,t<cs.length→(cs.getD t []).length≤30))∧Grow w w5):=fun h=>
  cnd_i (fun q=> ⟨⟨_,rfl,fun h2=>by
   simp only [decide_eq_true_eq] at q h2
   refine ⟨by omega,by omega,fun i hi=>ha i (by omega)⟩⟩,G⟩) (fun q=> ⟨⟨_,rfl,fun h2=>by cases h2⟩,G⟩)
 refine cnd_i (fun q=>cnd_i (fun q2=> ?_) (fun q2=>fin (.inl ?_))) (fun q=>fin (.inr ?_))<;>simp only [decide_eq_true_eq,decide_eq_false_iff_not] at*
 · have ht':t<cs.length:=by omega
   refine rowIx (hc.grow G) rfl ht' fun a sl e _ hsn hsm hv=> ⟨_,_,_,e,cnd_i (fun q3=> ⟨⟨_,rfl,fun h2=>by cases h2⟩,G⟩) (fun q3=> ⟨z - 1,by omega,t+1,by rw [wrap64_of (by omega) (by omega)];omega,ht',fun i hi=> ?_,G,by omega⟩)⟩
   simp only [decide_eq_false_iff_not] at q3
   rcases Nat.lt_or_ge i t with c|c
   · exact ha i c
   · have:i=t:=by omega
     subst this;omega
 · omega
 · omega
theorem aw_H: ∀k,1≤k→k≤3→inP [(-1,-1),(-1,-1),(2,4)] [[6]] k=true:=by
 have h3:H [(-1,-1),(-1,-1),(2,4)] [[6]] 3:= .hit ⟨[6],by simp,6,by simp,by decide⟩
 intro k h1 h2
 rw [inP_iff]
 have:k=1∨k=2∨k=3:=by omega
 rcases this with rfl|rfl|rfl
 · exact .kid (i:=2) (by omega) (by decide) ⟨by decide,.inl (by decide)⟩ h3
 · exact .kid (i:=2) (by omega) (by decide) ⟨by decide,.inr (by decide)⟩ h3
 · exact h3
theorem cnt_congr {P Q:Nat→Bool}: ∀ {n:Nat},(∀k,1≤k→k≤n→P k=Q k)→cnt P n=cnt Q n
 |0,_=>rfl
 |n+1,h=>by rw [cnt_succ,cnt_succ,cnt_congr (n:=n) fun k h1 h2=>h k h1 (by omega),h (n+1) (by omega) (by omega)]
theorem vs_congr {P Q:Nat→Bool} {n:Nat} (h: ∀k,1≤k→k≤n→P k=Q k):vs P n=vs Q n:=by
 unfold vs
 apply List.map_congr_left
 intro i hi
 have hi:=List.mem_range.1 hi
 rw [h (i+1) (by omega) (by omega),cnt_congr fun k h1 h2=>h k h1 (by omega)]
theorem gcls_congr {g:List (Int × Int)} {P Q:Nat→Bool} {n:Nat} (h: ∀k,1≤k→k≤n→P k=Q k):gcls g P n=gcls g Q n:=by
 induction n with
 |zero=>rfl
 |succ n ih=>
  rw [gcls_succ,gcls_succ,ih fun k h1 h2=>h k h1 (by omega)]
  unfold gcl
  rw [h (n+1) (by omega) (by omega)]
theorem aw_K:tK [(-1,-1),(-1,-1),(2,4)] [[6]]=3:=by
 unfold tK
 rw [cnt_congr (Q:=fun _=>true) (n:=List.length [((-1:Int),(-1:Int)),(-1,-1),(2,4)]) aw_H]
 rfl
theorem aw_V:tV [(-1,-1),(-1,-1),(2,4)] [[6]]= [1,2,3]:=by
 unfold tV
 rw [vs_congr (Q:=fun _=>true) (n:=List.length [((-1:Int),(-1:Int)),(-1,-1),(2,4)]) aw_H]
 decide
theorem aw_C:(tC [(-1,-1),(-1,-1),(2,4)] [[6]]).length=4:=by
 unfold tC
 rw [aw_V]
 unfold allC
 rw [gcls_congr (Q:=fun _=>true) (n:=List.length [((-1:Int),(-1:Int)),(-1,-1),(2,4)]) aw_H]
 decide
theorem awake18 {w0 w:World} (G0:Grow w0 w):Calls Tryz.prog fathomlaw18_awake.id #[] w fun e w'=>e= .returned (.bool true)∧Grow w0 w':=by
 refine fathomlaw18_awake.calls ?_
 intro n1 w2 h2 n3 w4 h4 n5 w6 h6
 have R:Row 2 gateV ty_api_Gate w2 (some ⟨n1,0,none⟩) 3 [(-1,-1),(-1,-1),(2,4)]:=Row.of_some gateE.len h2.at (Nat.le_refl _) (by unfold maxLen;simp) rfl rfl
 have L:OwI ty_int w4 (some ⟨n3,0,none⟩) 1 [6]:=Ow.of_some h4.at (Nat.le_refl _) (by unfold maxLen;simp) rfl rfl
 have hv:Vw Sl.v w6 (some ⟨n5,0,none⟩) [⟨some ⟨n3,0,none⟩,1,1⟩]:=vw_heads h6.has
 have hc:V2 (Value.int .i64) w6 (some ⟨n5,0,none⟩) [⟨some ⟨n3,0,none⟩,1,1⟩] [[6]]:=(VR.one (L.grow h6.mod).vw rfl (by unfold maxLen;simp)).v2 hv
 have G6:=((G0.trans h2.mod).trans h4.mod).trans h6.mod
 refine (build_ok (g:= [(-1,-1),(-1,-1),(2,4)]) (cs:= [[6]]) rfl (by simp) rfl (by simp) (((R.vr gateE).grow h4.mod).grow h6.mod) hc).mono ?_
 rintro e w7 ⟨⟨hf,_⟩| ⟨_,pc,cc,pv,cv,rfl,C⟩,g7⟩
 · exact absurd hf (by decide)
 · rw [aw_K,aw_V,aw_C] at*
   refine ⟨_,_,_,_,_,_,_,_,rfl,?_⟩
   intro n12 w13 h13
   refine store_i h13.has rfl rfl fun w14 h14 m14=> ?_
   have g14:Grow w7 w14:=h13.mod.fresh m14 (by have:=h13.num;omega)
   refine cnd_t rfl ⟨_,cell_add2 h14 rfl,cnd_t rfl ⟨_,_,_,cell_add2 h14 rfl,cnd_t rfl ⟨_,_,_,_,_,_,_,cells3 h14,(code_ok' (C.v.grow g14) rfl (fun x hx=>by simp at hx;rcases hx with rfl|rfl|rfl<;>omega) (by omega) (by omega)).mono ?_⟩⟩⟩
   rintro e w20 ⟨rfl,g20⟩
   exact ⟨_,rfl,rfl,((G6.trans g7).trans g14).trans g20⟩
theorem gates_of_rd {w:World} {v:Value} (h:RdV w (.sl (.cons (.int .i64) (.cons (.int .i64) .nil))) v): ∃p n c g,v= .slice p n c∧n=g.length∧n≤maxLen∧Vr 2 gateV w p g:=by
 rcases h with rfl| ⟨a,len,cap,rfl,h1,h2,h3⟩
 · exact ⟨none,0,0,[],rfl,rfl,Nat.zero_le _,Vr.nil⟩
 · have: ∀i,∃x:Int × Int,i<len→CellsAt w (a.add (i*2)) 0 (gateV x):=by
    intro i
    by_cases hi:i<len
    · obtain ⟨es,_,hc,_,_,rfl,⟨d,rfl,_⟩,_,_,rfl,⟨v,rfl,_⟩,rfl⟩:=h3 i hi
      exact ⟨(d,v),fun _=>hc⟩
    · exact ⟨(0,0),fun h=>absurd h hi⟩
   refine ⟨some a,len,cap,(List.range len).map fun i=>Classical.choose (this i),rfl,by simp,Nat.le_trans h1 h2,fun j hj=> ⟨a,rfl,?_⟩⟩
   have hj':j<len:=by simpa using hj
   have:=Classical.choose_spec (this j) hj'
   simpa using this
end
section
theorem tsIns_ok {w:World} {p q r:Option Addr} {g:List (Int × Int)} {n c k b:Nat} {k0:Int} {p1:Option Addr} {n1 c1 nv cv:Nat} {v m:List Int} (hn:n=g.length) (hg:n≤4194304) (h:Vr 2 gateV w p g) (hv:Vw (Value.int .i64) w q v) (hnv:nv=v.length) (hm:Vw (Value.int .i64) w r m) (hk:k=m.length) (hkx:k≤maxLen):
 Calls Tryz.prog tseitin_Ins.id #[.slice p n c,.agg #[.int .i64 k0,.slice p1 n1 c1,.slice q nv cv],.slice r k b] w fun e w'=> ((mayG g=true∧v.length=g.length∧∃po co,e= .returned (.slice po (insP g v m g.length).length co)∧OwB ty_bool w' po co (insP g v m g.length))∨(¬(mayG g=true∧v.length=g.length)∧e= .returned (.slice none 0 0)))∧Grow w w':=by
 subst hn hnv
 refine tseitin_Ins.calls ?_
 intro n1 w2 h2
 have H:=h2.has
 refine (aigCheck_ok (h.grow h2.mod) rfl (by unfold maxLen;omega)).mono ?_
 rintro e w3 ⟨rfl,g3⟩
 have G3:=h2.mod.trans g3
 refine ⟨_,rfl,cnd_i (fun s=> ?_) (fun s=> ?_)⟩
 · refine ⟨.inr ⟨fun hh=> ?_,rfl⟩,G3⟩
   rw [hh.1] at s;simp at s
 have hgm:mayG g=true:=by
  cases hh:mayG g with
  |true=>rfl
  |false=>rw [hh] at s;simp at s
 have H3:=H.grow g3
 refine ⟨_,_,_,cell_add H3 rfl,cnd_i (fun s2=> ?_) (fun s2=> ?_)⟩
 · refine ⟨.inr ⟨fun hh=> ?_,rfl⟩,G3⟩
   rw [hh.2] at s2;simp at s2
 have hvl:v.length=g.length:=by
  have:(v.length:Int)=g.length:=by simpa using s2
  omega
 refine ⟨fun po no co vv w' z=> ∃t:Nat,no=(insP g v m t).length∧vv=t∧t≤g.length∧OwB ty_bool w' po co (insP g v m t)∧(∀j,blk po=some j→w3.heap.size≤j)∧Grow w3 w'∧z+t=g.length,⟨_,0,rfl,rfl,Nat.zero_le _,Ow.nil _ _ _,by simp [blk],Mod.refl _,rfl⟩,?_⟩
 rintro po no co vv w11 z _ ⟨t,rfl,rfl,ht,O,fr,G,hz⟩
 have G11:=G3.trans G
 refine cnd_i (fun s3=> ?_) (fun s3=> ?_)<;>simp only [decide_eq_true_eq,decide_eq_false_iff_not] at s3
 · have ht':t<g.length:=by omega
   have is_:=insP_succ g v m t
   have ev:i64.wrap ((t:Int)+1)=((t+1:Nat):Int):=by rw [wrap64_of (by omega) (by omega)];omega
   rw [ev]
   refine gIx (h.grow G11) rfl ht' fun a x0 x1=> ⟨_,_,⟨x0,x1,trivial⟩,?_⟩
   generalize hx:g.getD t (0,0)=x at*
   obtain ⟨A,B⟩:=x
   intro n15 w16 h15
   refine store_i h15.has rfl rfl fun w17 h17 m17=> ?_
   have g17:Grow w11 w17:=h15.mod.fresh m17 (by have:=h15.num;omega)
   have h17:Has w17 n15 #[.int .i64 A,.int .i64 B]:=h17
   refine ⟨_,_,⟨cell_add h17 rfl,cell_add h17 rfl,trivial⟩,(tsAnd_ok A B w17).mono ?_⟩
   rintro e w20 ⟨rfl,g20⟩
   have g20':=g17.trans g20
   have hlen:=insP_len g v m t
   have hcl:=cntIn_le g t
   refine ⟨_,rfl,cnd_i (fun s4=> ?_) (fun s4=> ?_)⟩<;>simp only [Bool.not_eq_true',Bool.not_eq_false',decide_eq_true_eq,decide_eq_false_iff_not,ge_iff_le] at s4
   · have hA:A<0:=by omega
     rw [if_pos (show (A,B).1<0 from hA)] at is_
     refine ⟨_,_,_,cell_add ((H3.grow G).grow g20') rfl,(hv.grow (G11.trans g20')).ix 0 (by omega) rfl (by omega) fun a e=> ⟨_,e,(litValue_ok (hm.grow (G11.trans g20')) hk hkx _).mono ?_⟩⟩
     rw [Int.toNat_natCast]
     rintro e w25 ⟨rfl,g25⟩
     refine ⟨_,rfl,?_⟩
     intro n27 w28 h27
     have G28:=((G.trans g20').trans g25).trans h27.mod
     refine (((O.grow g20').grow g25).grow h27.mod).app1 ts_sl_bool _ h27.has rfl rfl oneBool (by omega) fun w29 p29 c29 O29 m29 hp z29=> ⟨z - 1,by omega,t+1,by rw [is_];simp,rfl,ht',by rw [is_];exact O29,fun j hj=> ?_,G28.then m29 fun j hj e=>by have:=fr j e;omega,by omega⟩
     rcases hp with h1|h1<;>rw [h1] at hj
     · exact fr j hj
     · have:=blk_some hj;have:=G28.size;omega
   · rw [if_neg (show ¬(A,B).1<0 from by simp only;omega),List.append_nil] at is_
     exact ⟨z - 1,by omega,t+1,by rw [is_],rfl,ht',by rw [is_];exact O.grow g20',fr,G.trans g20',by omega⟩
 · have:t=g.length:=by omega
   subst this
   exact ⟨.inl ⟨hgm,hvl,po,co,rfl,O⟩,G11⟩
theorem mayT_bd {g:List (Int × Int)} {cs:List (List Int)} (h:mayT g cs=true): ∀t,t<cs.length→∀l∈cs.getD t [],-1073741824≤l∧l≤2*g.length+1:=by
 intro t ht l hl
 obtain ⟨j,hj⟩:=List.getElem?_of_mem hl
 have hjl:=(List.getElem?_eq_some_iff.1 hj).1
 have:=mayT_l h ht hjl
 rw [show (cs.getD t []).getD j 0=l by simp only [List.getD_eq_getElem?_getD] at hj ⊢;rw [hj];rfl] at this
 exact ⟨by omega,this.2⟩
end
end Go.Proofs.YtddffgjagppimaaGreat.W.Rk
