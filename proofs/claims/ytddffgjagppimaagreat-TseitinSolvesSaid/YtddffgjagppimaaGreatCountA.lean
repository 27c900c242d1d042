/- Layer 14: counting models, plain. -/
import Derived.Test.YtddffgjagppimaaGreatSolveA
import Derived.Test.YtddffgjagppimaaGreatLitA
import Derived.Test.YtddffgjagppimaaGreatRankA
namespace Go.Proofs.YtddffgjagppimaaGreat.W
open Go Go.Fw Go.RowKit Go.SoP Go.LiP Go.LeP
open Go.Proofs.Tryz (prog)
section
variable {N:Nat} {cs:List (List Int)} {m m':List Int} {ms:List (List Int)}
structure Pm1 (N:Nat) (m:List Int):Prop where
 len:m.length=N
 pm: ∀y∈m,y=1∨y= -1
theorem Pm1.at_ (h:Pm1 N m) {i:Nat} (hi:i<N):m.getD i 0=1∨m.getD i 0= -1:=h.pm _ (by have:=h.len;simp [List.getD,show i<m.length by omega])
theorem holdsP_iff:holdsP m cs=true↔∀c∈cs,∃l∈c,valP m l=1:=by
 unfold holdsP
 rw [List.all_eq_true]
 constructor
 · intro h c hc
   have:=h c hc
   rw [List.any_eq_true] at this
   obtain ⟨l,hl,e⟩:=this
   exact ⟨l,hl,by simpa using e⟩
 · intro h c hc
   obtain ⟨l,hl,e⟩:=h c hc
   rw [List.any_eq_true]
   exact ⟨l,hl,by simpa using e⟩
theorem litB_neg' (l:Int):litB (-l)=litB l:=by
 unfold litB
 refine decide_eq_decide.2 ?_
 omega
theorem mdl_of (hN:N≤1048576) (h:Pm1 N m):Mdl N (valP m):=by
 have h0: ∀l,litB l=false→valP m l=0:=fun l hl=>by unfold valP;rw [if_pos (.inl hl)]
 refine ⟨fun l=> ?_,fun l=> ?_,fun l hl=> ?_⟩
 · cases hl:litB l with
   |true=>exact valP_neg hl
   |false=>rw [h0 _ hl,h0 _ (by rw [litB_neg'];exact hl)];rfl
 · unfold valP
   split
   · exact .inl rfl
   · split
     · exact .inl rfl
     · split
       · exact .inr (.inl rfl)
       · exact .inr (.inr rfl)
 · have hlit:=litB_of hN hl
   have ha:=hl.amt
   have hlen:=h.len
   unfold valP
   rw [if_neg (by rw [hlit];simp;omega)]
   have:=h.at_ (i:=(amt l - 1).toNat) (by omega)
   rw [if_neg (by omega)]
   split<;>decide
theorem unsat_no (hN:N≤1048576) (h: ∀v,Mdl N v→¬∀d∈cs,Tr1 v d) (hm:Pm1 N m):holdsP m cs=false:=by
 cases e:holdsP m cs with
 |false=>rfl
 |true=>exact absurd (holdsP_iff.1 e) (h _ (mdl_of hN hm))
end
section
variable {N:Nat}
theorem quo_dif {a D v:Nat} (h:D≤QuP.quo a v / 10+1): ∀w,v+1≤w→D≤QuP.quo a w - PotP.qp (QuP.quo a) w:=by
 intro w hw
 obtain ⟨m,rfl⟩: ∃m,w=m+1:=⟨w - 1,by omega⟩
 have h1:=QuP.quo_mono a v m (by omega)
 have h2:QuP.quo a (m+1)=QuP.quo a m+QuP.quo a m / 10+1:=rfl
 have h3:PotP.qp (QuP.quo a) (m+1)=QuP.quo a m:=rfl
 omega
theorem ma_le (a:Nat): ∀d w,PotP.MA (QuP.quo a) d w+7*QuP.quo a w≤7*QuP.quo a (w+d)
 |0,w=>by simp [PotP.MA]
 |d+1,w=>by
  have ih:=ma_le a d (w+1)
  have h2:QuP.quo a (w+1)=QuP.quo a w+QuP.quo a w / 10+1:=rfl
  rw [show w+ (d+1)=w+1+d by omega]
  simp only [PotP.MA]
  omega
theorem quo_reach (a b:Nat) (h:a<b): ∃v,b≤QuP.quo a v∧QuP.quo a v≤b+b / 10:=by
 have key: ∀n,b≤QuP.quo a n→∃v,b≤QuP.quo a v∧QuP.quo a v≤b+b / 10:=by
  intro n
  induction n with
  |zero=>intro e;have:QuP.quo a 0=a:=rfl;omega
  |succ n ih=>
   intro e
   by_cases e2:b≤QuP.quo a n
   · exact ih e2
   · refine ⟨n+1,e,?_⟩
     have h2:QuP.quo a (n+1)=QuP.quo a n+QuP.quo a n / 10+1:=rfl
     omega
 have up: ∀n,n≤QuP.quo a n:=by
  intro n
  induction n with
  |zero=>exact Nat.zero_le _
  |succ n ih=>
   have h2:QuP.quo a (n+1)=QuP.quo a n+QuP.quo a n / 10+1:=rfl
   omega
 exact key b (up b)
theorem kok12 (hN:N≤12): ∃K,KOk K N 200∧(64:Int)=K.u∧K.T=190000:=by
 have h2N:2 ^ (N - 1)≤2048:=Nat.le_trans (Nat.pow_le_pow_right (by omega) (by omega:N - 1≤11)) (by decide)
 obtain ⟨v,v1,v2⟩:=quo_reach 200 20470 (by decide)
 have t200:((200:Int)).toNat=200:=rfl
 refine ⟨⟨2048,v+1,28672,64,190000⟩,⟨⟨by show 1≤64;omega,by show 64≤1048576;omega⟩,by decide,h2N,fun b l h1 h2=> ?_,fun w hw=> ?_,?_,?_⟩,rfl,rfl⟩
 · exact PotP.Tl.ex (D:=2048) (u:=64) (k:=6) (by decide) h1 h2
 · show 2048≤QuP.quo 200 w - PotP.qp (QuP.quo 200) w
   exact quo_dif (by omega) w hw
 · show 190001<QuP.quo 200 100
   decide+kernel
 · unfold KP.top
   show (if 0<v+1 then QuP.quo 200 0+ (2*N+2)+PotP.MA (QuP.quo 200) (v+1 - 1) 0+ (2048+28672) else 28672)≤190000
   rw [if_pos (by omega),Nat.add_sub_cancel]
   have:=ma_le 200 v 0
   rw [Nat.zero_add] at this
   omega
end
section
variable {w w' w1 w2 u u':World} {N n14:Nat} {cs:List (List Int)} {mo:List Int} {ms:List (List Int)} {hs':List Sl} {gp:Option Addr} {gc:Nat}
def SolM (y:World) (N:Nat) (cs:List (List Int)) (ver er:Int) (mp:Option Addr) (mn:Nat):Prop:=
 er=0∧((ver=1∧∃mo:List Int,mn=mo.length∧Vw (Value.int .i64) y mp mo∧Pm1 N mo∧holdsP mo cs=true)∨(ver=2∧∀v,Mdl N v→¬∀d∈cs,Tr1 v d))
theorem solM_of {z:Nat} {y:World} {nS:Nat} {ver er cf de re dr:Int} {mp pp:Option Addr} {mn mc pn pc:Nat} (h:SolP z w N cs (-1) (.returned (.tuple #[.agg #[.int .i64 ver,.slice mp mn mc,.slice pp pn pc,.int .i64 cf,.int .i64 de,.int .i64 re,.int .i64 dr],.int .i64 er]))) (m:Mod (·=nS) w y) (hn:nS<z∨w.heap.size≤nS):SolM y N cs ver er mp mn:=by
 obtain ⟨ver',mp',mn',mc',pp',pn',pc',cf',de',re',dr',er',he,_,_,_,_,hh⟩:=h
 simp only [Ending.returned.injEq,Value.tuple.injEq,Array.mk.injEq,List.cons.injEq,Value.agg.injEq,Value.int.injEq,Value.slice.injEq,and_true,true_and] at he
 obtain ⟨⟨rfl,⟨rfl,rfl,rfl⟩,⟨rfl,rfl,rfl⟩,rfl,rfl,rfl,rfl⟩,rfl⟩:=he
 rcases hh with ⟨_,_,_,_,h0,_⟩| ⟨rfl,rfl,_,_,mo,h1,h2,h3,h4,h5,h6⟩| ⟨rfl,rfl,_,_,h1,_⟩
 · exact absurd h0 (by decide)
 · refine ⟨rfl,.inl ⟨rfl,mo,h1,?_,⟨h4,h5⟩,holdsP_iff.2 h6⟩⟩
   by_cases e:mo= []
   · subst e;exact Vw.nil
   · refine h2.keep m fun k hk (e2:k=nS)=> ?_
     have:=h3 k hk
     have:=h2.lt e k hk
     omega
 · exact ⟨rfl,.inr ⟨rfl,h1⟩⟩
theorem usual_ok (w:World):Calls prog cdcl_Usual.id #[] w fun e w'=>e= .returned (.agg #[.int .i64 (-1),.int .i64 64,.int .i64 200])∧Grow w w':=by
 refine cdcl_Usual.calls ?_
 intro n1 w2 h2
 refine store_i h2.has rfl rfl fun w3 H3 m3=> ?_
 have H3:Has w3 n1 #[.int .i64 (-1),.int .i64 64,.int .i64 200]:=H3
 exact ⟨_,_,_,⟨cell_add H3 rfl,cell_add H3 rfl,cell_add H3 rfl,trivial⟩,rfl,Mod.fresh h2.mod m3 (by have:=h2.num;omega)⟩
end
section
open Go.TsP Rk
variable {g:List (Int × Int)} {cs:List (List Int)}
def bitI (k:Nat) (i:Nat):Bool:=k / 2 ^ i % 2==1
def insK (n k:Nat):List Bool:=(List.range n).map (bitI k)
theorem insK_len (n k:Nat):(insK n k).length=n:=by simp [insK]
theorem insK_surj: ∀l:List Bool,∃k,k<2 ^ l.length∧insK l.length k=l
 | []=> ⟨0,by simp,rfl⟩
 |b::l=>by
  obtain ⟨k,hk,e⟩:=insK_surj l
  have key: ∀r:Nat,r<2→insK (b::l).length (2*k+r)=(decide (r=1))::l:=by
   intro r hr
   unfold insK at e ⊢
   rw [List.length_cons,List.range_succ_eq_map,List.map_cons,List.map_map]
   have e0:bitI (2*k+r) 0=decide (r=1):=by
    unfold bitI
    rw [Nat.pow_zero,Nat.div_one,show (2*k+r) % 2=r by omega]
    rfl
   have e1:(bitI (2*k+r) ∘ Nat.succ)=bitI k:=by
    funext i
    show bitI (2*k+r) (i+1)=_
    unfold bitI
    rw [Nat.pow_succ,Nat.mul_comm (2 ^ i) 2,← Nat.div_div_eq_div_mul,show (2*k+r) / 2=k by omega]
   rw [e0,e1,e]
  rw [List.length_cons]
  cases b with
  |true=>exact ⟨2*k+1,by rw [Nat.pow_succ];omega,key 1 (by decide)⟩
  |false=>exact ⟨2*k,by rw [Nat.pow_succ];omega,key 0 (by decide)⟩
theorem bit_at {k i:Nat} (hi:i<64):((((k:Int).fdiv (2 ^ (min (IntKind.u64.wrap (i:Int)).toNat (IntKind.bits .i64)))).tmod (2:Int))==(1:Int))=bitI k i:=by
 have h1:IntKind.u64.wrap (i:Int)=i:=by
  unfold IntKind.wrap
  simp [IntKind.signed,IntKind.bits]
  omega
 rw [h1,Int.toNat_natCast,show min i (IntKind.bits .i64)=i by show min i 64=i;omega]
 have h2:((k:Int).fdiv (2 ^ i))=((k / 2 ^ i:Nat):Int):=by
  rw [Int.fdiv_eq_ediv_of_nonneg _ (by exact_mod_cast Nat.zero_le (2 ^ i))]
  norm_cast
 rw [h2,Int.tmod_eq_emod_of_nonneg (Int.natCast_nonneg _)]
 unfold bitI
 generalize k / 2 ^ i=m
 rw [Bool.eq_iff_iff,beq_iff_eq,beq_iff_eq]
 omega
theorem has7 {w:World} {n:Nat} {a1 a2 a3 a4 a5 a6 a7 b1 b2 b3 b4 b5 b6 b7:Value} (h:Has w n (wr #[a1,a2,a3,a4,a5,a6,a7] (0+0) [b1,b2,b3,b4,b5,b6,b7])):Has w n #[b1,b2,b3,b4,b5,b6,b7]:=(show wr #[a1,a2,a3,a4,a5,a6,a7] (0+0) [b1,b2,b3,b4,b5,b6,b7]= #[b1,b2,b3,b4,b5,b6,b7] by kernel_rfl)▸h
def SJ (w16:World) (N:Nat) (C:List (List Int)) (s:Addr) (f:Int) (u:World):Prop:=
 ∃ (nS:Nat) (ver:Int) (mp:Option Addr) (mn mc:Nat) (v3 v4 v5 v6 v7:Value),s=⟨nS,0,none⟩∧Grow w16 u∧Has u nS #[.int .i64 ver,.slice mp mn mc,v3,v4,v5,v6,v7]∧SolM u N C ver f mp mn
theorem ts_search {w16:World} {n14 N:Nat} {C:List (List Int)} {pc:Option Addr} {cc:Nat} {v2:Value} (H16:Has w16 n14 #[.int .i64 (N:Int),.slice pc C.length cc,v2])
 (usol: ∀ {u:World},Grow w16 u→Calls prog cdcl_Solve.id #[.agg #[.int .i64 (N:Int),.slice pc C.length cc],.agg #[.int .i64 (-1),.int .i64 64,.int .i64 200]] u fun e w'=>SolP u.heap.size w' N C (-1) e∧Grow u w'):
 ∃W18:World→Prop,W18 w16∧
 ∃x19 x20p x20n x20c,CellsW W18 ((Addr.mk n14 0 none).add 0) [.int .i64 x19,.slice x20p x20n x20c]∧
 (Calls prog cdcl_Usual.id #[] w16 fun e w21=> ∃r22 r23 r24,e= .returned (.agg #[.int .i64 r22,.int .i64 r23,.int .i64 r24])∧
 W18 w21∧(Calls prog cdcl_Solve.id #[.agg #[.int .i64 x19,.slice x20p x20n x20c],.agg #[.int .i64 r22,.int .i64 r23,.int .i64 r24]] w21 fun e w25=> ∃r26 r27p r27n r27c r28p r28n r28c r29 r30 r31 r32 r33,e= .returned (.tuple #[.agg #[.int .i64 r26,.slice r27p r27n r27c,.slice r28p r28n r28c,.int .i64 r29,.int .i64 r30,.int .i64 r31,.int .i64 r32],.int .i64 r33])∧
 ∀n34 w35,New (.cells #[.int .i64 0,.slice none 0 0,.slice none 0 0,.int .i64 0,.int .i64 0,.int .i64 0,.int .i64 0] ty_api_Solved) w25 n34 w35→
 W18 w35∧∃w36,StoreAt (Addr.mk n34 0 none) 0 [.int .i64 r26,.slice r27p r27n r27c,.slice r28p r28n r28c,.int .i64 r29,.int .i64 r30,.int .i64 r31,.int .i64 r32] w35 w36∧
 SJ w16 N C (Addr.mk n34 0 none) r33 w36)∧
 (∀n37 w38,New (.cells #[.int .i64 0,.slice none 0 0,.slice none 0 0,.int .i64 0,.int .i64 0,.int .i64 0,.int .i64 0] ty_api_Solved) w21 n37 w38→
 W18 w38∧Calls prog cdcl_Solve.id #[.agg #[.int .i64 x19,.slice x20p x20n x20c],.agg #[.int .i64 r22,.int .i64 r23,.int .i64 r24]] w38 fun e w39=> ∃r40 r41p r41n r41c r42p r42n r42c r43 r44 r45 r46 r47,e= .returned (.tuple #[.agg #[.int .i64 r40,.slice r41p r41n r41c,.slice r42p r42n r42c,.int .i64 r43,.int .i64 r44,.int .i64 r45,.int .i64 r46],.int .i64 r47])∧
 ∃w48,StoreAt (Addr.mk n37 0 none) 0 [.int .i64 r40,.slice r41p r41n r41c,.slice r42p r42n r42c,.int .i64 r43,.int .i64 r44,.int .i64 r45,.int .i64 r46] w39 w48∧
 SJ w16 N C (Addr.mk n37 0 none) r47 w48))∧
 (∀n49 w50,New (.cells #[.int .i64 0,.slice none 0 0,.slice none 0 0,.int .i64 0,.int .i64 0,.int .i64 0,.int .i64 0] ty_api_Solved) w16 n49 w50→
 W18 w50∧Calls prog cdcl_Usual.id #[] w50 fun e w51=> ∃r52 r53 r54,e= .returned (.agg #[.int .i64 r52,.int .i64 r53,.int .i64 r54])∧
 W18 w51∧Calls prog cdcl_Solve.id #[.agg #[.int .i64 x19,.slice x20p x20n x20c],.agg #[.int .i64 r52,.int .i64 r53,.int .i64 r54]] w51 fun e w55=> ∃r56 r57p r57n r57c r58p r58n r58c r59 r60 r61 r62 r63,e= .returned (.tuple #[.agg #[.int .i64 r56,.slice r57p r57n r57c,.slice r58p r58n r58c,.int .i64 r59,.int .i64 r60,.int .i64 r61,.int .i64 r62],.int .i64 r63])∧
 ∃w64,StoreAt (Addr.mk n49 0 none) 0 [.int .i64 r56,.slice r57p r57n r57c,.slice r58p r58n r58c,.int .i64 r59,.int .i64 r60,.int .i64 r61,.int .i64 r62] w55 w64∧
 SJ w16 N C (Addr.mk n49 0 none) r63 w64):=by
 have add0: ∀ {n:Nat},(Addr.mk n 0 none).add 0=⟨n,0,none⟩:=fun {n}=>by rw [add_at]
 refine ⟨Grow w16,Mod.refl _,_,_,_,_,fun u gu=>by rw [add0];exact ⟨cell_add (H16.grow gu) rfl,cell_add (H16.grow gu) rfl,trivial⟩,?_,?_⟩
 · refine (usual_ok _).mono ?_
   rintro e w21 ⟨rfl,g21⟩
   refine ⟨_,_,_,rfl,g21,(usol g21).mono ?_,fun n37 w38 h38=> ⟨g21.trans h38.mod,(usol (g21.trans h38.mod)).mono ?_⟩⟩
   · rintro e w25 ⟨hs5,g25⟩
     obtain ⟨ver,mp,mn,mc,pp,pn,pc',cf,de,re,dr,er,rfl,hrest⟩:=id hs5
     clear hrest
     refine ⟨_,_,_,_,_,_,_,_,_,_,_,_,rfl,fun n34 w35 h35=> ⟨(g21.trans g25).trans h35.mod,?_⟩⟩
     have e34:=h35.num
     refine store_i h35.has rfl rfl fun w36 H36 m36=> ?_
     have H36:=has7 H36
     have g36:Grow w25 w36:=Mod.fresh h35.mod m36 (by omega)
     have M:=solM_of hs5 (g36.mono fun _ _ e=>e.elim:Mod (·=n34) w25 w36) (.inr (by omega))
     obtain ⟨rfl,_⟩:=id M
     exact ⟨n34,_,_,_,_,_,_,_,_,_,rfl,(g21.trans g25).trans g36,H36,M⟩
   · rintro e w39 ⟨hs5,g39⟩
     obtain ⟨ver,mp,mn,mc,pp,pn,pc',cf,de,re,dr,er,rfl,hrest⟩:=id hs5
     clear hrest
     have e37:=h38.num
     have l37:=h38.has.lt
     refine ⟨_,_,_,_,_,_,_,_,_,_,_,_,rfl,store_i (h38.has.grow g39) rfl rfl fun w48 H48 m48=> ?_⟩
     have H48:=has7 H48
     have M:=solM_of hs5 m48 (.inl l37)
     obtain ⟨rfl,_⟩:=id M
     have s21:=g21.size
     exact ⟨n37,_,_,_,_,_,_,_,_,_,rfl,((g21.trans h38.mod).trans g39).then m48 fun k hk (e:k=n37)=>by rw [e,e37] at hk;exact Nat.lt_irrefl _ (Nat.lt_of_lt_of_le hk s21),H48,M⟩
 · intro n49 w50 h50
   refine ⟨h50.mod,(usual_ok _).mono ?_⟩
   rintro e w51 ⟨rfl,g51⟩
   refine ⟨_,_,_,rfl,h50.mod.trans g51,(usol (h50.mod.trans g51)).mono ?_⟩
   rintro e w55 ⟨hs5,g55⟩
   obtain ⟨ver,mp,mn,mc,pp,pn,pc',cf,de,re,dr,er,rfl,hrest⟩:=id hs5
   clear hrest
   have e49:=h50.num
   have l49:=(h50.has.grow g51).lt
   refine ⟨_,_,_,_,_,_,_,_,_,_,_,_,rfl,store_i ((h50.has.grow g51).grow g55) rfl rfl fun w64 H64 m64=> ?_⟩
   have H64:=has7 H64
   have M:=solM_of hs5 m64 (.inl l49)
   obtain ⟨rfl,_⟩:=id M
   exact ⟨n49,_,_,_,_,_,_,_,_,_,rfl,((h50.mod.trans g51).trans g55).then m64 fun k hk (e:k=n49)=>by rw [e,e49] at hk;exact Nat.lt_irrefl _ hk,H64,M⟩
theorem TseitinSolves_calls {W:World} {p q:Option Addr} {c d:Nat} {hs:List Sl} (h:Vr 2 gateV W p g) (hc:V2 (Value.int .i64) W q hs cs) (hx:cs.length≤maxLen):
 Calls prog fathomlaw18_TseitinSolves.id #[.slice p g.length c,.slice q cs.length d] W fun e W'=>e= .returned (.bool true)∧Grow W W':=by
 refine fathomlaw18_TseitinSolves.calls ?_
 refine (light18_ok rfl rfl hx hc).mono ?_
 rintro e w1 ⟨⟨r,rfl,hl⟩,g1⟩
 refine ⟨_,rfl,cnd_i (fun _=> (awake18 g1).mono ?_) (fun t=> ?_)⟩
 · rintro e w3 ⟨rfl,g3⟩
   exact ⟨_,rfl,rfl,g3⟩
 obtain ⟨hg,hcl,_⟩:=hl (by simpa using t)
 refine (refMayT_ok (h.grow g1) rfl (by omega) (hc.grow g1) rfl (by omega)).mono ?_
 rintro e w5 ⟨rfl,g5⟩
 have G5:=g1.trans g5
 refine ⟨_,rfl,cnd_i (fun _=> (awake18 G5).mono ?_) (fun t=> ?_)⟩
 · rintro e w7 ⟨rfl,g7⟩
   exact ⟨_,rfl,rfl,g7⟩
 have ht:mayT g cs=true:=by simpa using t
 refine (build_ok rfl (by omega) rfl (by omega) (h.grow G5) (hc.grow G5)).mono ?_
 rintro e w9 ⟨⟨hf,_⟩| ⟨_,pc,cc,pv,cv,rfl,C⟩,g9⟩
 · rw [hf] at ht;cases ht
 have G9:=G5.trans g9
 refine ⟨_,_,_,_,_,_,_,_,rfl,?_⟩
 intro n14 w15 h15
 refine store_i h15.has rfl rfl fun w16 h16 m16=> ?_
 have g16:Grow w9 w16:=h15.mod.fresh m16 (by have:=h15.num;omega)
 have G16:=(G9.trans g16).trans (Mod.refl w16).drew
 have H16:Has w16.drew n14 #[.int .i64 (tK g cs),.slice pc (tC g cs).length cc,.slice pv (tV g cs).length cv]:=Has.grow (show Has w16 n14 #[.int .i64 (tK g cs),.slice pc (tC g cs).length cc,.slice pv (tV g cs).length cv] from h16) (Mod.refl w16).drew
 have C16:=(C.grow g16).grow (Mod.refl w16).drew
 have hvl:(tV g cs).length=g.length:=vs_len _ _
 have hcn:=TsP.cnt_le (inP g cs) g.length
 have hgm:=mayT_g ht
 have hcnf:cnfB (tK g cs) (tC g cs)=true:=out_cnf ht (by omega) (by omega)
 have hal:(tC g cs).length≤48:=by
  refine Nat.le_trans (outC_len _ _) ?_
  unfold allC
  rw [List.length_append]
  have:=gcl_len g (inP g cs) g.length
  omega
 obtain ⟨N,hN⟩: ∃N,N=cnt (inP g cs) g.length:=⟨_,rfl⟩
 have hK:tK g cs=N:=by rw [hN]
 rw [hK] at H16 hcnf
 obtain ⟨K,ok,hKu,hKT⟩:=kok12 (N:=N) (by omega)
 have usol: ∀ {u:World},Grow w16.drew u→Calls prog cdcl_Solve.id #[.agg #[.int .i64 (N:Int),.slice pc (tC g cs).length cc],.agg #[.int .i64 (-1),.int .i64 64,.int .i64 200]] u fun e w'=>SolP u.heap.size w' N (tC g cs) (-1) e∧Grow u w':=by
  intro u gu
  obtain ⟨hs1,V1⟩:=(C16.grow gu).c
  exact solve_ok V1 rfl hcnf (by decide) rfl (by omega) ok hKu (by omega)
 refine ⟨SJ w16.drew N (tC g cs),ts_search H16 usol,?_⟩
 rintro s f w67 _ ⟨nS,ver,mp,mn,mc,v3,v4,v5,v6,v7,rfl,g67,H67,rfl,M⟩
 have G67:=G16.trans g67
 have C67:=C16.grow g67
 have H14:=H16.grow g67
 clear usol C16 H16 C h15
 refine cnd_f rfl (cnd_f rfl ?_)
 refine ⟨fun n i u z=> ∃t:Nat,n=cntIn g t∧i=t∧t≤g.length∧u=w67∧z+t=g.length,⟨_,0,rfl,rfl,Nat.zero_le _,rfl,rfl⟩,?_⟩
 rintro n i w73 z _ ⟨t,rfl,rfl,htt,e73,hz⟩
 have e73:=e73.symm
 subst e73
 refine cnd_i (fun s=> ?_) (fun s=> ?_)<;>simp only [decide_eq_true_eq,decide_eq_false_iff_not] at s
 · have ht':t<g.length:=by omega
   have ev:IntKind.i64.wrap ((t:Int)+1)=((t+1:Nat):Int):=by rw [wrap64_of (by omega) (by omega)];omega
   have hci:=cntIn_le g t
   have ec:IntKind.i64.wrap ((cntIn g t:Int)+1)=((cntIn g t+1:Nat):Int):=by rw [wrap64_of (by omega) (by omega)];omega
   have is_:=cntIn_succ g t
   rw [ev,ec]
   refine gIx (h.grow G67) rfl ht' fun a x0 _=> ⟨_,x0,cnd_i (fun s4=> ?_) (fun s4=> ?_)⟩<;>simp only [decide_eq_true_eq,decide_eq_false_iff_not] at s4
   · rw [if_pos s4] at is_
     exact ⟨z - 1,by omega,t+1,by rw [is_],rfl,ht',rfl,by omega⟩
   · rw [if_neg s4] at is_
     exact ⟨z - 1,by omega,t+1,by rw [is_];rfl,rfl,ht',rfl,by omega⟩
 have e:t=g.length:=by omega
 subst e
 obtain ⟨n,hn⟩: ∃n,n=cntIn g g.length:=⟨_,rfl⟩
 have hn12:n≤12:=by have:=cntIn_le g g.length;omega
 rw [← hn]
 have hpow:2 ^ n≤4096:=Nat.le_trans (Nat.pow_le_pow_right (by omega) hn12) (by decide)
 have epow:IntKind.i64.wrap ((1:Int)*2 ^ (min ((n:Int)).toNat (IntKind.bits .i64)))=((2 ^ n:Nat):Int):=by
  rw [Int.toNat_natCast,show min n (IntKind.bits .i64)=n by show min n 64=n;omega,Int.one_mul,wrap64_of]
  · norm_cast
  · have:(0:Int)≤((2 ^ n:Nat):Int):=Int.natCast_nonneg _
    have e:((2 ^ n:Nat):Int)=(2:Int) ^ n:=by norm_cast
    omega
  · have e:((2 ^ n:Nat):Int)=(2:Int) ^ n:=by norm_cast
    omega
 refine ⟨fun sm u=>Grow w67 u∧((sm=true∧∃ins,ins.length=n∧askedP g cs ins=true)∨(sm=false∧∀j,j<2 ^ n→askedP g cs (insK n j)=false)),?_,?_⟩
 · refine ⟨fun sm k u z=> ∃t:Nat,k=t∧t≤2 ^ n∧Grow w67 u∧((sm=true∧∃ins,ins.length=n∧askedP g cs ins=true)∨(sm=false∧∀j,j<t→askedP g cs (insK n j)=false))∧z+t=2 ^ n,⟨_,0,rfl,Nat.zero_le _,Mod.refl _,.inr ⟨rfl,fun j hj=>by omega⟩,rfl⟩,?_⟩
   rintro sm k w82 z2 _ ⟨t,rfl,ht2,g82,hsm,hz2⟩
   refine ⟨by omega,?_⟩
   rw [epow]
   refine cnd_i (fun s2=> ?_) (fun s2=> ?_)<;>simp only [decide_eq_true_eq,decide_eq_false_iff_not] at s2
   · rcases hsm with ⟨rfl,hi⟩| ⟨rfl,hi⟩
     · exact cnd_f rfl ⟨g82,.inl ⟨rfl,hi⟩⟩
     refine cnd_t rfl ?_
     intro n83 w84 h84
     have e83:=h84.num
     have s82:=g82.size
     have O84:OwB ty_bool w84 (some ⟨n83,0,none⟩) 0 []:=Ow.of_some h84.at (Nat.le_refl _) (Nat.zero_le _) rfl rfl
     refine ⟨fun po no co iv u z=> ∃t2:Nat,no=t2∧iv=t2∧t2≤n∧OwB ty_bool u po co (insK t2 t)∧(∀j,blk po=some j→w67.heap.size≤j)∧Grow w67 u∧z+t2=n,⟨_,0,rfl,rfl,Nat.zero_le _,O84,fun j hj=>by have:=blk_some hj;omega,g82.trans h84.mod,rfl⟩,?_⟩
     clear O84
     rintro po no co iv w90 z3 _ ⟨t2,rfl,rfl,ht3,O,fr,G90,hz3⟩
     refine cnd_i (fun s3=> ?_) (fun s3=> ?_)<;>simp only [decide_eq_true_eq,decide_eq_false_iff_not] at s3
     · have u0:0≤IntKind.u64.wrap (no:Int):=by
        have h1:IntKind.u64.wrap (no:Int)=no:=by
         unfold IntKind.wrap
         simp [IntKind.signed,IntKind.bits]
         omega
        omega
       rw [bit_at (by omega)]
       refine ⟨u0,by decide,?_⟩
       intro n91 w92 h92
       have ev:IntKind.i64.wrap ((no:Int)+1)=((no+1:Nat):Int):=by rw [wrap64_of (by omega) (by omega)];omega
       rw [ev]
       have is_:insK (no+1) t=insK no t++ [bitI t no]:=by simp [insK,List.range_succ]
       have G92:=G90.trans h92.mod
       refine (O.grow h92.mod).app1 ts_sl_bool _ h92.has rfl (insK_len no t).symm oneBool (by rw [insK_len];omega) fun w93 p93 c93 O93 m93 hp z93=> ⟨z3 - 1,by omega,no+1,by rw [insK_len],rfl,by omega,by rw [is_];exact O93,fun j hj=> ?_,G92.then m93 fun j hj e=>by have:=fr j e;omega,by omega⟩
       rcases hp with h1|h1<;>rw [h1] at hj
       · exact fr j hj
       · have:=blk_some hj;have:=G92.size;omega
     · have e:no=n:=by omega
       subst e
       refine (refAsked_ok rfl (by omega) rfl (by unfold maxLen;omega) (insK_len no t).symm (by unfold maxLen;omega) hgm (mayT_bd ht) (h.grow (G67.trans G90)) (hc.grow (G67.trans G90)) O.vw).mono ?_
       rintro e w95 ⟨rfl,g95⟩
       have ev:IntKind.i64.wrap ((t:Int)+1)=((t+1:Nat):Int):=by rw [wrap64_of (by omega) (by omega)];omega
       rw [ev]
       refine ⟨_,rfl,z2 - 1,by omega,t+1,rfl,by omega,G90.trans g95,?_,by omega⟩
       cases ha:askedP g cs (insK no t) with
       |true=>exact .inl ⟨rfl,_,insK_len no t,ha⟩
       |false=>
        refine .inr ⟨rfl,fun j hj=> ?_⟩
        by_cases e:j<t
        · exact hi j e
        · have:j=t:=by omega
          subst this;exact ha
   · have e:t=2 ^ n:=by omega
     subst e
     exact ⟨g82,hsm⟩
 rintro sm w98 _ ⟨g98,hsm⟩
 have H98:=H67.grow g98
 have G98:=G67.trans g98
 have hN10:N≤1048576:=by omega
 have may: ∀ {mo:List Int},Pm1 N mo→holdsP mo (tC g cs)=true→askedP g cs (insP g (tV g cs) mo g.length)=true:=fun {mo} hp hh=> ((means ht (by omega) (by rw [← hN];exact hp.len) hp.pm).1 hh).1
 rcases hsm with ⟨rfl,ins,hil,hia⟩| ⟨rfl,hno⟩
 · refine cnd_f rfl ⟨_,cell_add H98 rfl,?_⟩
   rcases M with ⟨rfl,mo,rfl,hv,hp,hh⟩| ⟨rfl,hu⟩
   rotate_left
   · exfalso
     obtain ⟨m,m1,m2,m3⟩:=means_ex ht (by omega) hia
     have:=unsat_no hN10 hu (m:=m) ⟨by rw [hN];exact m1,m2⟩
     have m3:holdsP m (tC g cs)=true:=m3
     rw [m3] at this;cases this
   have hml:=hp.len
   have hvw:=hv.grow g98
   refine cnd_t rfl ⟨_,_,_,_,_,_,_,cells3 (H14.grow g98),_,_,_,cell_add H98 rfl,(tsIns_ok rfl (by omega) (h.grow G98) (C67.grow g98).v rfl hvw rfl (by unfold maxLen;omega)).mono ?_⟩
   rintro e w107 ⟨⟨_,_,po,co,rfl,OI⟩| ⟨hno,_⟩,g107⟩
   rotate_left
   · exact absurd ⟨hgm,hvl⟩ hno
   have G107:=G98.trans g107
   have hil2:(insP g (tV g cs) mo g.length).length≤12:=by rw [insP_len];omega
   refine ⟨_,_,_,rfl,(refAsked_ok rfl (by omega) rfl (by unfold maxLen;omega) rfl (by unfold maxLen;omega) hgm (mayT_bd ht) (h.grow G107) (hc.grow G107) OI.vw).mono ?_⟩
   rintro e w109 ⟨rfl,g109⟩
   refine ⟨_,rfl,cnd_t (may hp hh) ((awake18 (G107.trans g109)).mono ?_)⟩
   rintro e w111 ⟨rfl,g111⟩
   exact ⟨_,rfl,rfl,g111⟩
 · refine cnd_t rfl ⟨_,cell_add H98 rfl,?_⟩
   rcases M with ⟨rfl,mo,rfl,hv,hp,hh⟩| ⟨rfl,hu⟩
   · exfalso
     have h1:=may hp hh
     obtain ⟨k,hk,e⟩:=insK_surj (insP g (tV g cs) mo g.length)
     rw [insP_len,← hn] at hk e
     have:=hno k hk
     rw [e,h1] at this;cases this
   refine cnd_t rfl ((awake18 G98).mono ?_)
   rintro e w100 ⟨rfl,g100⟩
   exact ⟨_,rfl,rfl,g100⟩
theorem TseitinSolves_law (v0 v1:Value) (W:World) (h0:RdV W (.sl (.cons (.int .i64) (.cons (.int .i64) .nil))) v0) (h1:RdV W (.sl (.sl (.int .i64))) v1):Calls prog fathomlaw18_TseitinSolves.id #[v0,v1] W fun e W'=>e= .returned (.bool true)∧Grow W W':=by
 obtain ⟨p,n,c,g,rfl,rfl,hn,hg⟩:=gates_of_rd h0
 obtain ⟨q,m,d,hs,cs,rfl,rfl,hm1,hm2,hc⟩:=rows_of_rd (fun v=>ints_of_rd') h1
 exact TseitinSolves_calls hg hc (Nat.le_trans hm1 hm2)
end
end Go.Proofs.YtddffgjagppimaaGreat.W
