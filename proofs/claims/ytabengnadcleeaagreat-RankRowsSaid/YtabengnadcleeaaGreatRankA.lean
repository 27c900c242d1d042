/- Layer 15: nodes in memory. -/
import Derived.Test.YtabengnadcleeaaGreatGenRows
import Derived.Test.YtabengnadcleeaaGreatLitA
import Derived.Test.YtabengnadcleeaaGreatSortA
namespace Go.Proofs.YtabengnadcleeaaGreat.W.Rk
open Go Go.Fw Go.RowKit
open Go.Proofs.Tryz (prog)
open Go.IntKind (i64)
section
abbrev gateV (x:Int × Int):List Value:= [.int .i64 x.1,.int .i64 x.2]
theorem gateE:Enc 2 gateV:=⟨fun _=>rfl,by decide,fun x v hv=>by simp [gateV] at hv;rcases hv with rfl|rfl<;>rfl⟩
theorem sl_gate:slOkN prog ty_sl_api_Gate ty_api_Gate 2 16=true:=by kernel_rfl
theorem sl_int:slOk prog ty_sl_int ty_int 8=true:=by kernel_rfl
theorem sl_sl_int:slOk prog ty_sl_sl_int ty_sl_int 24=true:=by kernel_rfl
theorem int_zero:(Tryz.prog.info? ty_int).bind (·.zero)=some (.int .i64 0):=by kernel_rfl
abbrev ptr (b:Nat):Value:= .pointer (some ⟨b,0,none⟩)
theorem aigInput_ok (w:World):Calls prog aig_input.id #[] w fun e w'=>e= .returned (.agg #[.int .i64 (-1),.int .i64 (-1)])∧Grow w w':=by
 refine aig_input.calls ?_
 intro n1 w2 h1
 have s1:=h1.num
 refine store_i h1.has rfl rfl fun w3 H m=> ⟨_,_,⟨cell_add H rfl,cell_add H rfl,trivial⟩,rfl,h1.mod.then m fun k hk (e:k=n1)=>by omega⟩
end
section
structure AG where
 pg:Option Addr
 cg:Nat
 bm:Nat
 g:List (Int × Int)
def AG.foot (x:AG) (b:Nat) (k:Nat):Prop:=k=b∨blk x.pg=some k
structure ARep (w:World) (b:Nat) (x:AG):Prop where
 me:Has w b #[.slice x.pg x.g.length x.cg,.map (some x.bm)]
 hg:Row 2 gateV ty_api_Gate w x.pg x.cg x.g
 bg:blk x.pg≠some b
theorem ARep.keep {w w':World} {b:Nat} {x:AG} {S:Nat→Prop} (h:ARep w b x) (m:Mod S w w') (hS: ∀k,x.foot b k→¬S k):ARep w' b x:=
 ⟨h.me.keep m (hS b (.inl rfl)),h.hg.keep m fun k hk=>hS k (.inr hk),h.bg⟩
theorem ARep.grow {w w':World} {b:Nat} {x:AG} (h:ARep w b x) (m:Grow w w'):ARep w' b x:=h.keep m fun _ _=>id
theorem ARep.lt {w:World} {b:Nat} {x:AG} (h:ARep w b x): ∀k,x.foot b k→k<w.heap.size:=by
 rintro k (rfl|hk)
 · exact h.me.lt
 · exact h.hg.lt k hk
theorem aigNew_ok (w:World):Calls prog aig_New.id #[] w fun e w'=> ∃b x,e= .returned (ptr b)∧ARep w' b x∧x.g= []∧(∀k,x.foot b k→w.heap.size≤k)∧Grow w w':=by
 refine aig_New.calls ?_
 intro n1 w2 h1 n3 w4 h3
 have s1:=h1.num;have s3:=h3.num;have z1:=h1.mod.size
 refine ⟨n3,⟨none,0,n1,[]⟩,rfl,⟨h3.has,Row.nil _ _ _ _,by simp [blk]⟩,rfl,?_,h1.mod.trans h3.mod⟩
 rintro k (rfl|hk)
 · omega
 · simp [blk] at hk
theorem aigLen_ok {w:World} {b:Nat} {x:AG} (h:ARep w b x):Calls prog aig_Aig_Len.id #[ptr b] w fun e w'=>e= .returned (.int .i64 x.g.length)∧Grow w w':=by
 refine aig_Aig_Len.calls ?_
 exact cnd_f rfl ⟨_,rfl,_,_,_,cell_add h.me rfl,rfl,Mod.refl w⟩
theorem aigIs_ok {w:World} {b:Nat} {x:AG} (h:ARep w b x) (hb:x.g.length≤1048576) (l:Int):Calls prog aig_Aig_Is.id #[ptr b,.int .i64 l] w fun e w'=>e= .returned (.bool (decide (0≤l∧l≤2*x.g.length+1)))∧Grow w w':=by
 refine aig_Aig_Is.calls ?_
 refine cnd_t rfl ⟨_,rfl,_,cell_add h.me rfl,_,_,map_neq ty_map_api_Gate_int.und _ _ _ _,cnd_t rfl (cnd_i (fun q=> ⟨_,rfl,_,_,_,cell_add h.me rfl,?_,Mod.refl w⟩) (fun q=> ⟨?_,Mod.refl w⟩))⟩<;>simp only [decide_eq_true_eq,decide_eq_false_iff_not,ge_iff_le] at q
 · rw [wrap64_of (x:=2* (x.g.length:Int)) (by omega) (by omega),wrap64_of (by omega) (by omega)]
   congr 2
   exact decide_eq_decide.2 (by omega)
 · congr 2
   exact (decide_eq_false (by omega)).symm
structure More (w:World) (b:Nat) (x y:AG) (n:Int × Int):Prop where
 g:y.g=x.g++ [n]
 bm:y.bm=x.bm
 foot: ∀k,y.foot b k→x.foot b k∨w.heap.size≤k
theorem aigAdd_ok {w:World} {b:Nat} {x:AG} (h:ARep w b x) (hb:x.g.length<1048576) (n0 n1:Int):Calls prog aig_Aig_add.id #[ptr b,.agg #[.int .i64 n0,.int .i64 n1]] w fun e w'=>
 e= .returned (.int .i64 (2* (x.g.length+1:Nat)))∧∃y,ARep w' b y∧More w b x y (n0,n1)∧Mod (x.foot b) w w':=by
 refine aig_Aig_add.calls ?_
 intro m1 w2 h1
 have s1:=h1.num
 have h2:=h.grow h1.mod
 have hlt:=h.lt
 refine ⟨_,rfl,_,_,_,cell_add h2.me rfl,cnd_f (decide_eq_false (by omega)) ⟨_,rfl,_,_,⟨cell_add h1.has rfl,cell_add h1.has rfl,trivial⟩,?_⟩⟩
 have fin: ∀ (w10:World) (n9:Nat),Grow w w10→ARep w10 b x→Has w10 n9 #[.int .i64 n0,.int .i64 n1]→w.heap.size≤n9→
  ∃w11 r12p r12n r12c,(Builtin.append_ #[ty_sl_api_Gate,ty_sl_api_Gate] ty_sl_api_Gate #[.slice x.pg x.g.length x.cg,.slice (some (Addr.mk n9 0 none)) 1 1]).run prog w10= .ok (.slice r12p r12n r12c) w11∧
   ∃a13,(some (⟨b,0,none⟩:Addr))=some a13∧∃w14,StoreAt (a13.add 0) 0 [.slice r12p r12n r12c] w11 w14∧
   ∃a15,(some (⟨b,0,none⟩:Addr))=some a15∧∃x16p:Option Addr,∃x16n:Nat,∃x16c:Nat,w14.cell? (a15.add 0)=some (.slice x16p x16n x16c)∧
   (Ending.returned (.int .i64 (i64.wrap ((2:Int)* (x16n:Int))))= .returned (.int .i64 (2* (x.g.length+1:Nat)))∧∃y,ARep w14 b y∧More w b x y (n0,n1)∧Mod (x.foot b) w w14):=by
  intro w10 n9 G h10 H9 hn9
  have l10:=h10.lt
  refine h10.hg.app gateE sl_gate (news:= [(n0,n1)]) (fun j hj=> ?_) rfl rfl (by simp;omega) fun w11 p' c' o m hp hsz=> ?_
  · have:j=0:=by simpa using hj
    subst this
    exact ⟨_,rfl,cell_add H9 rfl,cell_add H9 rfl,trivial⟩
  have hme:=h10.me.keep m h10.bg
  refine ⟨_,rfl,store_f hme rfl rfl fun w14 o14 m14=> ⟨_,rfl,_,_,_,cell_add o14 rfl,?_,⟨p',c',x.bm,x.g++ [(n0,n1)]⟩,?_,⟨rfl,rfl,?_⟩,?_⟩⟩
  · rw [show (x.g++ [(n0,n1)]).length=x.g.length+1 by simp,wrap64_of (by omega) (by omega)]
  · have pb:blk p'≠some b:=fun e=>by
     rcases hp with rfl|rfl
     · exact h10.bg e
     · simp [blk] at e
       have:=l10 b (.inl rfl);omega
    exact ⟨o14,o.keep m14 fun k hk e=>pb (e▸hk),pb⟩
  · rintro k (e|e)
    · exact .inl (.inl e)
    · rcases hp with rfl|rfl
      · exact .inl (.inr e)
      · right;simp [blk] at e;have:=G.size;omega
  · exact ((G.mono fun _ _ h=>h.elim).trans (m.mono fun k _ hk=> .inr hk)).trans (m14.mono fun k _ hk=> .inl hk)
 have G2:Grow w w2.drew:=h1.mod.drew
 have h2':ARep w2.drew b x:=h2.grow (Mod.refl w2).drew
 refine ⟨⟨_,_,_,cell_add h2'.me rfl,?_⟩,?_⟩
 · intro n9 w10 h9
   have s9:=h9.num
   have:=G2.size
   exact fin w10 n9 (G2.trans h9.mod) (h2'.grow h9.mod) h9.has (by omega)
 · intro n9 w10 h9
   have s9:=h9.num
   have:=G2.size
   exact ⟨_,_,_,cell_add (h2'.grow h9.mod).me rfl,fin w10 n9 (G2.trans h9.mod) (h2'.grow h9.mod) h9.has (by omega)⟩
theorem aigIn_ok {w:World} {b:Nat} {x:AG} (h:ARep w b x) (hb:x.g.length<1048576):Calls prog aig_Aig_In.id #[ptr b] w fun e w'=>
 e= .returned (.int .i64 (2* (x.g.length+1:Nat)))∧∃y,ARep w' b y∧More w b x y (-1,-1)∧Mod (x.foot b) w w':=by
 refine aig_Aig_In.calls ?_
 refine cnd_f rfl ⟨_,rfl,_,cell_add h.me rfl,_,_,map_eql ty_map_api_Gate_int.und _ _ _ _,cnd_f rfl ((aigInput_ok w).mono ?_)⟩
 rintro e w5 ⟨rfl,g5⟩
 refine ⟨_,_,rfl,(aigAdd_ok (h.grow g5) hb (-1) (-1)).mono ?_⟩
 rintro e w8 ⟨rfl,y,hy,my,m⟩
 refine ⟨_,rfl,rfl,y,hy,⟨my.g,my.bm,fun k hk=> (my.foot k hk).imp id fun e=>Nat.le_trans g5.size e⟩,?_⟩
 exact (g5.mono fun _ _ h=>h.elim).trans (m.mono fun _ _ h=>h)
theorem room_ok {w:World} {b:Nat} {x:AG} (h:ARep w b x) (hb:x.g.length≤1048576) (n:Int):Calls prog rank_room.id #[ptr b,.int .i64 n] w fun e w'=>e= .returned (.bool (decide (n≤1048576 - x.g.length)))∧Grow w w':=by
 refine rank_room.calls ?_
 refine (aigIs_ok h hb 0).mono ?_
 rintro e w1 ⟨rfl,g1⟩
 refine ⟨_,rfl,cnd_t (by simp;omega) ((aigLen_ok (h.grow g1)).mono ?_)⟩
 rintro e w3 ⟨rfl,g3⟩
 refine ⟨_,rfl,?_,g1.trans g3⟩
 rw [wrap64_of (by omega) (by omega)]
theorem square_ok (n:Nat) (hn:n≤40) (w:World):Calls prog rank_square.id #[.int .i64 n] w fun e w'=> ∃p c hs,e= .returned (.slice p n c)∧Own2 (Value.int .i64) ty_sl_int ty_int w' p c hs (List.replicate n (List.replicate n 0))∧(∀k,foot2 p hs k→w.heap.size≤k)∧Grow w w':=by
 refine rank_square.calls ?_
 refine ⟨fun p m c v w' k=> ∃t hs,v=(t:Nat)∧t=m∧t≤n∧k+t=n∧Own2 (Value.int .i64) ty_sl_int ty_int w' p c hs (List.replicate t (List.replicate n 0))∧(∀k,foot2 p hs k→w.heap.size≤k)∧Grow w w',⟨n,0,[],rfl,rfl,by omega,rfl,⟨Ow.nil _ _ _,rfl,fun j hj=>by simp at hj,fun j k hj=>by simp at hj,fun i j k hi=>by simp at hi⟩,fun k hk=> ?_,Mod.refl w⟩,?_⟩
 · rcases hk with e| ⟨_,h,_⟩
   · simp [blk] at e
   · simp at h
 rintro p m c v w6 k _ ⟨t,hs,rfl,rfl,ht,hk,o,hf,G⟩
 refine cnd_i (fun q=> ?_) (fun q=> ?_)<;>simp only [decide_eq_true_eq,decide_eq_false_iff_not] at q
 · refine make_i sl_int int_zero (f:=Value.int .i64) (x:=0) rfl n rfl (by omega) fun w7 o7 g7 z7=> ?_
   intro n9 w10 h9
   have s9:=h9.num
   have olt:=o.lt
   have z6:=G.size
   have o10:=(o.grow g7).grow h9.mod
   have G10:=(G.trans g7).trans h9.mod
   refine o10.app1 sl_sl_int (s:=⟨some ⟨w6.heap.size,0,none⟩,n,n⟩) h9.has (by simp) (o7.grow h9.mod) (by simp) (fun k hk e=> ?_) (by simp;omega) fun w11 p' c' o' m' hp hsz=> ?_
   · simp [blk] at hk
     have:=olt k e;omega
   rw [List.length_replicate]
   have hf': ∀k,foot2 p' (hs++ [⟨some ⟨w6.heap.size,0,none⟩,n,n⟩]) k→w.heap.size≤k:=by
    rintro k (e| ⟨s,hs',e⟩)
    · rcases hp with rfl|rfl
      · exact hf k (.inl e)
      · simp [blk] at e;have:=G10.size;omega
    · rcases List.mem_append.1 hs' with hs'|hs'
      · exact hf k (.inr ⟨s,hs',e⟩)
      · simp at hs';subst hs'
        simp [blk] at e;omega
   refine ⟨k - 1,by omega,t+1,_,?_,rfl,by omega,by omega,by rw [List.replicate_succ'];exact o',hf',G10.then m' fun k hk e=>by have:=hf k (.inl e);omega⟩
   rw [wrap64_of (by omega) (by omega)];omega
 · have:t=n:=by omega
   subst this
   exact ⟨p,c,hs,rfl,o,hf,G⟩
end
section
theorem xor_even (m:Nat):(2*m) ^^^ 1=2*m+1:=by
 have h:=Nat.div_add_mod ((2*m) ^^^ 1) 2
 have h2:=Nat.xor_mod_two_pow (a:=2*m) (b:=1) (n:=1)
 have h3:2*m / 2=m:=by omega
 rw [Nat.xor_div_two,h3] at h
 have h4:2*m % 2=0:=by omega
 have h5:(2*m ^^^ 1) % 2=1:=by
  have:(2*m ^^^ 1) % 2 ^ 1=(2*m ^^^ 1) % 2:=rfl
  rw [← this,h2]
  show (2*m % 2) ^^^ 1=1
  rw [h4]
  rfl
 have h6:m ^^^ 1 / 2=m:=by simp
 rw [h5,h6] at h
 omega
theorem xor_odd (m:Nat):(2*m+1) ^^^ 1=2*m:=by
 have h:=Nat.div_add_mod ((2*m+1) ^^^ 1) 2
 have h2:=Nat.xor_mod_two_pow (a:=2*m+1) (b:=1) (n:=1)
 have h3:(2*m+1) / 2=m:=by omega
 rw [Nat.xor_div_two,h3] at h
 have h4:(2*m+1) % 2=1:=by omega
 simp [h4] at h h2
 omega
def flip (x:Int):Int:=if x % 2=0 then x+1 else x - 1
theorem xor1 {x:Int} (h0:0≤x) (h1:x<4611686018427387904):i64.wrap ((BitVec.ofInt (IntKind.bits .i64) x ^^^ BitVec.ofInt (IntKind.bits .i64) (1:Int)).toNat)=flip x:=by
 show i64.wrap ((BitVec.ofInt 64 x ^^^ BitVec.ofInt 64 (1:Int)).toNat)=flip x
 rw [BitVec.toNat_xor,BitVec.toNat_ofInt,BitVec.toNat_ofInt]
 obtain ⟨n,rfl⟩: ∃n:Nat,x=n:=⟨x.toNat,by omega⟩
 have e1:((n:Int) % ((2 ^ 64:Nat):Int)).toNat=n:=by omega
 have e2:((1:Int) % ((2 ^ 64:Nat):Int)).toNat=1:=by decide
 rw [e1,e2]
 unfold flip
 rcases Nat.mod_two_eq_zero_or_one n with h|h
 · obtain ⟨m,rfl⟩: ∃m,n=2*m:=⟨n / 2,by omega⟩
   rw [xor_even,if_pos (by omega),wrap64_of (by omega) (by omega)]
   omega
 · obtain ⟨m,rfl⟩: ∃m,n=2*m+1:=⟨n / 2,by omega⟩
   rw [xor_odd,if_neg (by omega),wrap64_of (by omega) (by omega)]
   omega
def pst (n:Nat):Nat→Nat
 |0=>0
 |i+1=>pst n i+ (n - 1 - i)
def pidx (n i j:Nat):Nat:=pst n i+ (j - i - 1)
theorem pst_le (n:Nat): ∀i,i≤n→2*pst n i+ (n - i)* (n - i - 1)=n* (n - 1)
 |0,_=>by simp [pst]
 |i+1,h=>by
  have ih:=pst_le n i (by omega)
  obtain ⟨m,rfl⟩: ∃m,n=i+1+m:=⟨n - (i+1),by omega⟩
  simp only [pst]
  have e1:i+1+m - i=m+1:=by omega
  have e2:i+1+m - i - 1=m:=by omega
  have e3:i+1+m - (i+1)=m:=by omega
  have e4:i+1+m - 1 - i=m:=by omega
  have e5:i+1+m - (i+1) - 1=m - 1:=by omega
  rw [e2,e1] at ih
  rw [e4,e3]
  have:m* (m - 1)+2*m=(m+1)*m:=by
   cases m with
   |zero=>rfl
   |succ m=>
    simp only [Nat.add_sub_cancel]
    have:(m+1+1)* (m+1)=(m+1)* (m+1)+ (m+1):=by rw [Nat.add_mul,Nat.one_mul]
    have:(m+1)* (m+1)=(m+1)*m+ (m+1):=by rw [Nat.mul_add,Nat.mul_one]
    omega
  omega
def ordM (n g0 t i j:Nat):Int:=if i<j then (if pidx n i j<t then 2* (g0+pidx n i j+1:Nat) else 0) else if j<i then (if pidx n j i<t then 2* (g0+pidx n j i+1:Nat)+1 else 0) else 0
def rowsAre (n:Nat) (rows:List (List Int)) (M:Nat→Nat→Int):Prop:=rows.length=n∧∀i,i<n→(rows.getD i []).length=n∧∀j,j<n→(rows.getD i []).getD j 0=M i j
theorem rowsAre.set {n:Nat} {rows:List (List Int)} {M:Nat→Nat→Int} (h:rowsAre n rows M) {i j:Nat} (hi:i<n) (hj:j<n) (x:Int):rowsAre n (rows.set i ((rows.getD i []).set j x)) (fun a b=>if a=i∧b=j then x else M a b):=by
 obtain ⟨h1,h2⟩:=h
 refine ⟨by rw [List.length_set];exact h1,fun a ha=> ?_⟩
 rw [getD_set (by omega)]
 by_cases e:a=i
 · subst e
   rw [if_pos rfl]
   refine ⟨by rw [List.length_set];exact (h2 a ha).1,fun b hb=> ?_⟩
   rw [getD_set (by rw [(h2 a ha).1];exact hj)]
   by_cases e2:b=j
   · simp [e2]
   · simp only [e2,if_false,and_false];exact (h2 a ha).2 b hb
 · rw [if_neg e]
   refine ⟨(h2 a ha).1,fun b hb=> ?_⟩
   simp only [e,false_and,if_false];exact (h2 a ha).2 b hb
def mustK (A:Nat→Nat→Int) (i j k:Nat):List (List Int):=if i≠j∧j≠k∧i≠k then [[flip (A i j),flip (A j k),A i k]] else []
def mustJ (A:Nat→Nat→Int) (i j m:Nat):List (List Int):=(List.range m).flatMap (mustK A i j)
def mustI (A:Nat→Nat→Int) (n i m:Nat):List (List Int):=(List.range m).flatMap fun j=>mustJ A i j n
def mustO (A:Nat→Nat→Int) (n m:Nat):List (List Int):=(List.range m).flatMap fun i=>mustI A n i n
theorem mustJ_succ (A:Nat→Nat→Int) (i j m:Nat):mustJ A i j (m+1)=mustJ A i j m++mustK A i j m:=by simp [mustJ,List.range_succ]
theorem mustI_succ (A:Nat→Nat→Int) (n i m:Nat):mustI A n i (m+1)=mustI A n i m++mustJ A i m n:=by simp [mustI,List.range_succ]
theorem mustO_succ (A:Nat→Nat→Int) (n m:Nat):mustO A n (m+1)=mustO A n m++mustI A n m n:=by simp [mustO,List.range_succ]
end
section
theorem New.ow {α:Type} {f:α→Value} {T:TypeId} {w w':World} {n:Nat} {cs:Array Value} {l:List α} (h:New (.cells cs T) w n w') (hc:cs.toList=l.map f) (hl:l.length≤maxLen):Ow f T w' (some ⟨n,0,none⟩) l.length l:=by
 refine Ow.of_some h.at (Nat.le_refl _) hl ?_ ?_
 · have:=congrArg List.length hc;simpa using this
 · rw [hc,List.take_of_length_le (by simp)]
theorem pst_step (n:Nat): ∀i a,a<i→pst n a+ (n - 1 - a)≤pst n i
 |0,a,h=>by omega
 |i+1,a,h=>by
  simp only [pst]
  rcases Nat.lt_or_ge a i with h1|h1
  · have:=pst_step n i a h1;omega
  · have:a=i:=by omega
    subst this;omega
theorem pidx_inj {n i j a b:Nat} (h1:i<j) (h2:j<n) (h3:a<b) (h4:b<n) (e:pidx n a b=pidx n i j):a=i∧b=j:=by
 unfold pidx at e
 rcases Nat.lt_trichotomy a i with h|h|h
 · have:=pst_step n i a h;omega
 · subst h;omega
 · have:=pst_step n a i h;omega
theorem ordM_step {n g0 i j:Nat} (h1:i<j) (h2:j<n) (a b:Nat) (ha:a<n) (hb:b<n):
 (if a=j∧b=i then 2* ((g0+pidx n i j+1:Nat):Int)+1 else if a=i∧b=j then 2* ((g0+pidx n i j+1:Nat):Int) else ordM n g0 (pidx n i j) a b)=ordM n g0 (pidx n i j+1) a b:=by
 unfold ordM
 by_cases e1:a=j∧b=i
 · obtain ⟨rfl,rfl⟩:=e1
   rw [if_pos ⟨rfl,rfl⟩,if_neg (by omega),if_pos h1,if_pos (by omega)]
 · rw [if_neg e1]
   by_cases e2:a=i∧b=j
   · obtain ⟨rfl,rfl⟩:=e2
     rw [if_pos ⟨rfl,rfl⟩,if_pos h1,if_pos (by omega)]
   · rw [if_neg e2]
     by_cases c1:a<b
     · rw [if_pos c1,if_pos c1]
       have:pidx n a b≠pidx n i j:=fun e=>e2 (pidx_inj h1 h2 c1 hb e)
       by_cases c2:pidx n a b<pidx n i j
       · rw [if_pos c2,if_pos (by omega)]
       · rw [if_neg c2,if_neg (by omega)]
     · rw [if_neg c1,if_neg c1]
       by_cases c3:b<a
       · rw [if_pos c3,if_pos c3]
         have:pidx n b a≠pidx n i j:=fun e=>e1 (by have:=pidx_inj h1 h2 c3 ha e;omega)
         by_cases c2:pidx n b a<pidx n i j
         · rw [if_pos c2,if_pos (by omega)]
         · rw [if_neg c2,if_neg (by omega)]
       · rw [if_neg c3,if_neg c3]
theorem pidx_lt {n i j:Nat} (h1:i<j) (h2:j<n):pidx n i j<pst n n:=by
 have:=pst_step n n i (by omega)
 unfold pidx;omega
theorem ordM_bd {n g0 t:Nat} (a b:Nat):0≤ordM n g0 t a b∧ordM n g0 t a b≤2* ((g0+t:Nat):Int)+1:=by
 unfold ordM
 split
 · split<;>omega
 · split
   · split<;>omega
   · omega
structure OSt (w0:World) (b:Nat) (x:AG) (n:Nat) (p:Option Addr) (c:Nat) (hs:List Sl) (t:Nat) (w:World) (y:AG) (rows:List (List Int)):Prop where
 a:ARep w b y
 g:y.g=x.g++List.replicate t (-1,-1)
 o:Own2 (Value.int .i64) ty_sl_int ty_int w p c hs rows
 m:rowsAre n rows (ordM n x.g.length t)
 d: ∀k,foot2 p hs k→¬y.foot b k∧w0.heap.size≤k
 f: ∀k,y.foot b k→x.foot b k∨w0.heap.size≤k
 M:Mod (x.foot b) w0 w
 bm:y.bm=x.bm
theorem OSt.grow {w0 w w':World} {b:Nat} {x y:AG} {n:Nat} {p:Option Addr} {c:Nat} {hs:List Sl} {t:Nat} {rows:List (List Int)} (h:OSt w0 b x n p c hs t w y rows) (g:Grow w w'):OSt w0 b x n p c hs t w' y rows:=
 ⟨h.a.grow g,h.g,h.o.grow g,h.m,h.d,h.f,h.M.grow g,h.bm⟩
theorem OSt.step {w0 w w1 w2 w3:World} {b:Nat} {x y z:AG} {n:Nat} {p:Option Addr} {c:Nat} {hs:List Sl} {rows:List (List Int)} {i j:Nat} (h1:i<j) (h2:j<n) (h:OSt w0 b x n p c hs (pidx n i j) w y rows)
 (hz:ARep w1 b z) (mz:More w b y z (-1,-1)) (m1:Mod (y.foot b) w w1) (hn:hs.length=n)
 (o1:OwI ty_int w2 (hs.getD i Sl.nil).p (hs.getD i Sl.nil).c ((rows.getD i []).set j (2* ((x.g.length+pidx n i j+1:Nat):Int)))) (m2:Mod (fun k=>blk (hs.getD i Sl.nil).p=some k) w1 w2)
 (o2:OwI ty_int w3 (hs.getD j Sl.nil).p (hs.getD j Sl.nil).c (((rows.set i ((rows.getD i []).set j (2* ((x.g.length+pidx n i j+1:Nat):Int)))).getD j []).set i (2* ((x.g.length+pidx n i j+1:Nat):Int)+1))) (m3:Mod (fun k=>blk (hs.getD j Sl.nil).p=some k) w2 w3):
 ∃rows',OSt w0 b x n p c hs (pidx n i j+1) w3 z rows':=by
 have hr:=h.m.1
 have mem: ∀i,i<n→hs.getD i Sl.nil∈hs:=fun i hi=>by
  have:i<hs.length:=by omega
  simp [List.getD,this]
 have fi: ∀k,blk (hs.getD i Sl.nil).p=some k→foot2 p hs k:=fun k hk=> .inr ⟨_,mem i (by omega),hk⟩
 have fj: ∀k,blk (hs.getD j Sl.nil).p=some k→foot2 p hs k:=fun k hk=> .inr ⟨_,mem j h2,hk⟩
 have lt:=h.o.lt
 have zf: ∀k,foot2 p hs k→¬z.foot b k:=fun k hk e=>by
  rcases mz.foot k e with e|e
  · exact (h.d k hk).1 e
  · have:=lt k hk;omega
 have q1:=h.o.keep m1 fun k hk e=> (h.d k hk).1 e
 have q2:=q1.set (by omega) (by simp) o1 m2
 have q3:=q2.set (by rw [List.length_set];omega) (by simp) o2 m3
 refine ⟨_,(hz.keep m2 fun k hk e=>zf k (fi k e) hk).keep m3 fun k hk e=>zf k (fj k e) hk,?_,q3,?_,fun k hk=> ⟨zf k hk,(h.d k hk).2⟩,fun k hk=> ?_,?_,mz.bm.trans h.bm⟩
 · rw [mz.g,h.g,List.append_assoc,← List.replicate_succ']
 · have r1:=h.m.set (i:=i) (j:=j) (by omega) h2 (2* ((x.g.length+pidx n i j+1:Nat):Int))
   have r2:=r1.set (i:=j) (j:=i) h2 (by omega) (2* ((x.g.length+pidx n i j+1:Nat):Int)+1)
   refine ⟨r2.1,fun a ha=> ⟨(r2.2 a ha).1,fun b hb=> ?_⟩⟩
   rw [(r2.2 a ha).2 b hb]
   exact ordM_step h1 h2 a b ha hb
 · rcases mz.foot k hk with e|e
   · exact h.f k e
   · right;have:=h.M.size;omega
 · refine ((h.M.then m1 fun k hk e=> ?_).then m2 fun k hk e=> ?_).then m3 fun k hk e=> ?_
   · exact (h.f k e).resolve_right (by omega)
   · have:=(h.d k (fi k e)).2;omega
   · have:=(h.d k (fj k e)).2;omega
end
section
def MSt (w9 w:World) (mp:Option Addr) (mn mc:Nat) (L:List (List Int)):Prop:=mn=L.length∧∃ms,Own2 (Value.int .i64) ty_sl_int ty_int w mp mc ms L∧(∀k,foot2 mp ms k→w9.heap.size≤k)∧Grow w9 w
theorem MSt.drew {w9 w:World} {mp:Option Addr} {mn mc:Nat} {L:List (List Int)} (h:MSt w9 w mp mn mc L):MSt w9 w.drew mp mn mc L:=by
 obtain ⟨h1,ms,h2,h3,h4⟩:=h
 exact ⟨h1,ms,h2.grow (Mod.refl w).drew,h3,h4.drew⟩
theorem MSt.app {w9 w:World} {mp:Option Addr} {mn mc:Nat} {L:List (List Int)} (h:MSt w9 w mp mn mc L) (hb:mn≤1000000) {K:World→Option Addr→Nat→Nat→Prop} (a c d:Int)
 (hk: ∀w' mp' mn' mc',MSt w9 w' mp' mn' mc' (L++ [[a,c,d]])→mn'=mn+1→K w' mp' mn' mc'):
 ∀n72 w73,New (.cells #[.int .i64 a,.int .i64 c,.int .i64 d] ty_int) w n72 w73→∀n74 w75,New (.cells #[.slice (some (Addr.mk n72 0 none)) 3 3] ty_sl_int) w73 n74 w75→
  ∃w76 r77p r77n r77c,(Builtin.append_ #[ty_sl_sl_int,ty_sl_sl_int] ty_sl_sl_int #[.slice mp mn mc,.slice (some (Addr.mk n74 0 none)) 1 1]).run prog w75= .ok (.slice r77p r77n r77c) w76∧K w76 r77p r77n r77c:=by
 intro n72 w73 h72 n74 w75 h74
 obtain ⟨h1,ms,o,hf,G⟩:=h
 have olt:=o.lt
 have s72:=h72.num
 have ol:OwI ty_int w73 (some ⟨n72,0,none⟩) 3 [a,c,d]:=New.ow (l:= [a,c,d]) h72 rfl (by show 3≤maxLen;decide)
 have o75:=(o.grow h72.mod).grow h74.mod
 have G75:=(G.trans h72.mod).trans h74.mod
 refine o75.app1 sl_sl_int (s:=⟨some ⟨n72,0,none⟩,3,3⟩) h74.has h1 (ol.grow h74.mod) rfl (fun k hk e=> ?_) (by omega) fun w76 p' c' o' m hp hsz=> ?_
 · simp [blk] at hk
   have:=olt k e;omega
 refine hk w76 p' _ c' ⟨by simp,_,o',?_,G75.then m fun k hk e=>by have:=hf k (.inl e);omega⟩ (by omega)
 have z:=G.size
 rintro k (e| ⟨s,hs',e⟩)
 · rcases hp with rfl|rfl
   · exact hf k (.inl e)
   · simp [blk] at e;have:=G75.size;omega
 · rcases List.mem_append.1 hs' with hs'|hs'
   · exact hf k (.inr ⟨s,hs',e⟩)
   · simp at hs';subst hs'
     simp [blk] at e;omega
theorem order_ok {w0:World} {b:Nat} {x:AG} (hx:ARep w0 b x) (n:Nat) (hn:n≤40) (hr:x.g.length+pst n n≤1048576):Calls prog rank_Order.id #[ptr b,.int .i64 n] w0 fun e w'=>
 ∃p c hs pm cm ms rows y,e= .returned (.tuple #[.slice p n c,.slice pm (mustO (ordM n x.g.length (pst n n)) n n).length cm])∧OSt w0 b x n p c hs (pst n n) w' y rows∧
  Own2 (Value.int .i64) ty_sl_int ty_int w' pm cm ms (mustO (ordM n x.g.length (pst n n)) n n)∧∀k,foot2 pm ms k→¬y.foot b k∧¬foot2 p hs k∧w0.heap.size≤k:=by
 refine rank_Order.calls ?_
 unfold rank_Order.w
 have hp:=pst_le n n (Nat.le_refl _)
 simp only [Nat.sub_self,Nat.zero_mul,Nat.add_zero] at hp
 have hnn:n* (n - 1)≤40*39:=Nat.mul_le_mul hn (by omega)
 have er:i64.wrap ((i64.wrap ((n:Int)*i64.wrap ((n:Int) - 1))).tdiv 2)=(pst n n:Int):=by
  rcases Nat.eq_zero_or_pos n with h0|h0
  · subst h0;rfl
  · have e1:i64.wrap ((n:Int) - 1)=((n - 1:Nat):Int):=by rw [wrap64_of (by omega) (by omega)];omega
    rw [e1,← Int.natCast_mul,wrap64_of (x:=((n* (n - 1):Nat):Int)) (by omega) (by omega),Int.tdiv_eq_ediv_of_nonneg (by omega),wrap64_of (by omega) (by omega)]
    omega
 rw [er]
 refine cnd_f (decide_eq_false (by omega)) (cnd_f (decide_eq_false (by omega)) ⟨by decide,(room_ok hx (by omega) _).mono ?_⟩)
 rintro e w1 ⟨rfl,g1⟩
 refine ⟨_,rfl,cnd_f (by simp;omega) ((square_ok n hn w1).mono ?_)⟩
 rintro e w3 ⟨p,c,hs,rfl,o3,hf,g3⟩
 have hhs:hs.length=n:=by rw [o3.n];simp
 have S0:OSt w0 b x n p c hs 0 w3 x (List.replicate n (List.replicate n 0)):=by
  refine ⟨(hx.grow g1).grow g3,by simp,o3,⟨by simp,fun i hi=> ⟨by simp [List.getD,hi],fun j hj=> ?_⟩⟩,fun k hk=> ?_,fun k hk=> .inl hk,(g1.trans g3).mono fun _ _ h=>h.elim,rfl⟩
  · unfold ordM
    simp [List.getD,hi,hj]
  · have:=hf k hk;have:=g1.size
    exact ⟨fun e=>by have:=hx.lt k e;omega,by omega⟩
 clear hf o3 g3 g1 er
 refine ⟨_,_,_,rfl,?_⟩
 refine ⟨fun i w' k=> ∃ (t:Nat) (y:AG) (rows:List (List Int)),i=t∧t≤n∧k+t=n∧OSt w0 b x n p c hs (pst n t) w' y rows,⟨n,0,x,_,rfl,by omega,rfl,S0⟩,?_⟩
 clear S0
 rintro i w9 k _ ⟨i,y,rows,rfl,hi,hk,S⟩
 refine cnd_i (fun q=> ?_) (fun q=> ?_)<;>simp only [decide_eq_true_eq,decide_eq_false_iff_not] at q
 · have ei:i64.wrap ((i:Int)+1)=((i+1:Nat):Int):=by rw [wrap64_of (by omega) (by omega)];omega
   rw [ei]
   refine ⟨fun j w' m=> ∃ (t:Nat) (y:AG) (rows:List (List Int)),j=t∧i<t∧t≤n∧m+t=n∧OSt w0 b x n p c hs (pidx n i t) w' y rows,⟨n - (i+1),i+1,y,rows,rfl,by omega,by omega,by omega,by
    have:pidx n i (i+1)=pst n i:=by unfold pidx;omega
    rw [this];exact S⟩,?_⟩
   clear S
   rintro j w14 m _ ⟨j,y,rows,rfl,hij,hj,hm,S⟩
   refine cnd_i (fun q2=> ?_) (fun q2=> ?_)<;>simp only [decide_eq_true_eq,decide_eq_false_iff_not] at q2
   · have hjn:j<n:=by omega
     have hin:i<n:=by omega
     have hpl:=pidx_lt hij hjn
     have hrows:=S.m.1
     have yl:y.g.length=x.g.length+pidx n i j:=by rw [S.g];simp
     have S:=S.grow (Mod.refl w14).drew
     have ej:i64.wrap ((j:Int)+1)=((j+1:Nat):Int):=by rw [wrap64_of (by omega) (by omega)];omega
     rw [ej]
     have nxt: ∀w' y rows,OSt w0 b x n p c hs (pidx n i j+1) w' y rows→∃k12:Nat,k12<m∧∃ (t:Nat) (y:AG) (rows:List (List Int)),((j+1:Nat):Int)=t∧i<t∧t≤n∧k12+t=n∧OSt w0 b x n p c hs (pidx n i t) w' y rows:=by
      intro w' y rows S'
      refine ⟨m - 1,by omega,j+1,y,rows,rfl,by omega,by omega,by omega,?_⟩
      have:pidx n i (j+1)=pidx n i j+1:=by unfold pidx;omega
      rw [this];exact S'
     have li:((hs.getD i Sl.nil).n=(rows.getD i []).length):=(S.o.r i (by omega)).1
     have lj:((hs.getD j Sl.nil).n=(rows.getD j []).length):=(S.o.r j (by omega)).1
     have mi:=(S.m.2 i hin).1
     have mj:=(S.m.2 j hjn).1
     have hne:i≠j:=by omega
     obtain ⟨r,hrr⟩: ∃r:Int,r=2* ((x.g.length+pidx n i j+1:Nat):Int):=⟨_,rfl⟩
     have rb:0≤r∧r<4611686018427387904∧flip r=r+1:=by
      refine ⟨by omega,by omega,?_⟩
      unfold flip;rw [if_pos (by omega)]
     have rest: ∀ (w17 w20:World) (z:AG),ARep w17 b z→More w14.drew b y z (-1,-1)→Mod (y.foot b) w14.drew w17→OwI ty_int w20 (hs.getD i Sl.nil).p (hs.getD i Sl.nil).c ((rows.getD i []).set j r)→Mod (fun k=>blk (hs.getD i Sl.nil).p=some k) w17 w20→
      ixK p n (j:Int) 1 fun a21=>
       ∃x22p x22n x22c,w20.drew.cell? a21=some (.slice x22p x22n x22c)∧
       ixK p n (i:Int) 1 fun a23=>
       ∃x24p x24n x24c,w20.drew.cell? a23=some (.slice x24p x24n x24c)∧
       ixK x24p x24n (j:Int) 1 fun a25=>
       ∃x26,w20.drew.cell? a25=some (.int .i64 x26)∧
       ixK x22p x22n (i:Int) 1 fun a27=>
       ∃w28,StoreAt a27 0 [.int .i64 (i64.wrap ((BitVec.ofInt (IntKind.bits .i64) x26 ^^^ BitVec.ofInt (IntKind.bits .i64) (1:Int)).toNat))] w20.drew w28∧
       ∃k12:Nat,k12<m∧∃ (t:Nat) (y:AG) (rows:List (List Int)),((j+1:Nat):Int)=t∧i<t∧t≤n∧k12+t=n∧OSt w0 b x n p c hs (pidx n i t) w28 y rows:=by
      intro w17 w20 z hz mz m1 o1 m2
      have q1:=S.o.keep m1 fun k hk e=> (S.d k hk).1 e
      have q2:=q1.set (i:=i) (by omega) (by simp) o1 m2
      have q2':=q2.grow (Mod.refl w20).drew
      have v2:=q2'.v2
      refine v2.h.ix Sl.nil (by omega) (by omega) (by omega) fun a21 e21=> ⟨_,_,_,e21,?_⟩
      refine v2.h.ix Sl.nil (by omega) (by omega) (by omega) fun a23 e23=> ⟨_,_,_,e23,?_⟩
      rw [Int.toNat_natCast,Int.toNat_natCast]
      refine (o1.drew).ix 0 (by omega) (by rw [List.length_set];omega) (by omega) fun a25 e25=> ⟨_,e25,?_⟩
      have ev:((rows.getD i []).set j r).getD (j:Int).toNat 0=r:=by rw [Int.toNat_natCast,getD_set (by omega),if_pos rfl]
      rw [ev,xor1 rb.1 rb.2.1,rb.2.2]
      have oj:=(q2'.r j (by rw [List.length_set];omega)).2
      have lj2:(rows.set i ((rows.getD i []).set j r)).getD j []=rows.getD j []:=by rw [getD_set (by omega),if_neg (by omega)]
      refine oj.st (r+1) rfl rfl (by omega) (by rw [lj2];exact lj) (by omega) fun w28 o2 m3=> ?_
      rw [Int.toNat_natCast] at o2
      have m3':Mod (fun k=>blk (hs.getD j Sl.nil).p=some k) w20 w28:=((Mod.refl w20).drew).trans m3
      subst hrr
      obtain ⟨rows',S'⟩:=S.step hij hjn hz mz m1 hhs o1 m2 o2 m3'
      exact nxt w28 z rows' S'
     have v:=S.o.v2
     refine v.h.ixb Sl.nil (by omega) (by omega) (by omega) fun a15 b15 e15=> ?_
     rw [Int.toNat_natCast] at e15
     have In:=aigIn_ok S.a (by omega)
     refine ⟨⟨_,_,_,e15,In.mono ?_⟩,In.mono ?_⟩<;>rintro e w17 ⟨rfl,z,hz,mz,m1⟩
     · refine ⟨_,rfl,?_⟩
       rw [yl,← hrr]
       have q1:=S.o.keep m1 fun k hk e=> (S.d k hk).1 e
       refine (q1.r i (by omega)).2.st r rfl rfl (by omega) li (by omega) fun w20 o1 m2=> ?_
       rw [Int.toNat_natCast] at o1
       exact rest w17 w20 z hz mz m1 o1 m2
     · refine ⟨_,rfl,?_⟩
       rw [yl,← hrr]
       have q1:=S.o.keep m1 fun k hk e=> (S.d k hk).1 e
       have hbl: ¬y.foot b a15.block:=(S.d _ (.inl b15)).1
       refine ⟨_,_,_,cell_keep m1 e15 hbl,?_⟩
       refine (q1.r i (by omega)).2.st r rfl rfl (by omega) li (by omega) fun w20 o1 m2=> ?_
       rw [Int.toNat_natCast] at o1
       exact rest w17 w20 z hz mz m1 o1 m2
   · have:j=n:=by omega
     subst this
     refine ⟨k - 1,by omega,i+1,y,rows,?_,by omega,by omega,?_⟩
     · rfl
     · have:pidx j i j=pst j (i+1):=by unfold pidx;simp only [pst];omega
       rw [← this];exact S
 · have hin:i=n:=by omega
   rw [hin] at S
   clear q hi hk hin
   generalize hA:ordM n x.g.length (pst n n)=A
   have hM:=S.m
   rw [hA] at hM
   have bd: ∀i j,0≤A i j∧A i j<4611686018427387904:=by
    intro i j
    rw [← hA]
    have:=ordM_bd (n:=n) (g0:=x.g.length) (t:=pst n n) i j
    omega
   have read: ∀ (w':World) (i j:Nat) (K:Int→Prop),Grow w9 w'→i<n→j<n→K (A i j)→ixK p n (i:Int) 1 fun a60=>
    ∃x61p x61n x61c,w'.cell? a60=some (.slice x61p x61n x61c)∧
    ixK x61p x61n (j:Int) 1 fun a62=> ∃x63,w'.cell? a62=some (.int .i64 x63)∧K x63:=by
    intro w' i j K G hi hj hk
    have v:=S.o.v2.grow G
    refine v.ix (by omega) (by rw [hM.1]) (by omega) fun a s e _ hn _ hv=> ⟨_,_,_,e,hv.ix 0 (by omega) hn (by rw [hn,Int.toNat_natCast,(hM.2 i hi).1];omega) fun a e=> ⟨_,e,?_⟩⟩
    rw [Int.toNat_natCast,Int.toNat_natCast,(hM.2 i hi).2 j hj]
    exact hk
   have ew: ∀t:Nat,t<n→i64.wrap ((t:Int)+1)=((t+1:Nat):Int):=fun t ht=>by rw [wrap64_of (by omega) (by omega)];omega
   refine ⟨fun mp mn mc v w' k=> ∃i:Nat,v=i∧i≤n∧k+i=n∧mn≤1600*i∧MSt w9 w' mp mn mc (mustO A n i),⟨n,0,rfl,by omega,rfl,by omega,rfl,[],⟨Ow.nil _ _ _,rfl,fun j hj=>by simp [mustO] at hj,fun j k hj=>by simp [mustO] at hj,fun i j k hi=>by simp [mustO] at hi⟩,fun k hk=>by
    rcases hk with e| ⟨_,h,_⟩
    · simp [blk] at e
    · simp at h,Mod.refl w9⟩,?_⟩
   rintro mp mn mc v w47 k _ ⟨i,rfl,hi,hk,hb,T⟩
   refine cnd_i (fun q=> ?_) (fun q=> ?_)<;>simp only [decide_eq_true_eq,decide_eq_false_iff_not] at q
   · have hi':i<n:=by omega
     rw [ew i hi']
     refine ⟨fun mp mn mc v w' m=> ∃j:Nat,v=j∧j≤n∧m+j=n∧mn≤1600*i+40*j∧MSt w9 w' mp mn mc (mustO A n i++mustI A n i j),⟨n,0,rfl,by omega,rfl,by omega,by simpa [mustI] using T⟩,?_⟩
     clear T hb
     rintro mp mn mc v w53 m _ ⟨j,rfl,hj,hm,hb,T⟩
     refine cnd_i (fun q2=> ?_) (fun q2=> ?_)<;>simp only [decide_eq_true_eq,decide_eq_false_iff_not] at q2
     · have hj':j<n:=by omega
       rw [ew j hj']
       refine ⟨fun mp mn mc v w' o=> ∃l:Nat,v=l∧l≤n∧o+l=n∧mn≤1600*i+40*j+l∧MSt w9 w' mp mn mc (mustO A n i++mustI A n i j++mustJ A i j l),⟨n,0,rfl,by omega,rfl,by omega,by simpa [mustJ] using T⟩,?_⟩
       clear T hb
       rintro mp mn mc v w59 o _ ⟨l,rfl,hl,ho,hb,T⟩
       refine cnd_i (fun q3=> ?_) (fun q3=> ?_)<;>simp only [decide_eq_true_eq,decide_eq_false_iff_not] at q3
       · have hl':l<n:=by omega
         rw [ew l hl']
         have skip: ∀w',MSt w9 w' mp mn mc (mustO A n i++mustI A n i j++mustJ A i j l)→¬(i≠j∧j≠l∧i≠l)→∃k56:Nat,k56<o∧∃l':Nat,((l+1:Nat):Int)=l'∧l'≤n∧k56+l'=n∧mn≤1600*i+40*j+l'∧MSt w9 w' mp mn mc (mustO A n i++mustI A n i j++mustJ A i j l'):=by
          intro w' T h
          refine ⟨o - 1,by omega,l+1,rfl,by omega,by omega,by omega,?_⟩
          rw [mustJ_succ,mustK,if_neg h,List.append_nil]
          exact T
         refine cnd_i (fun c1=>cnd_i (fun c2=>cnd_i (fun c3=> ?_) (fun c3=>skip _ T (by simp at c3;omega))) (fun c2=>skip _ T (by simp at c2;omega))) (fun c1=>skip _ T (by simp at c1;omega))
         have hd:i≠j∧j≠l∧i≠l:=by simp at c1 c2 c3;omega
         have T:=T.drew
         obtain ⟨_,_,_,_,Gd⟩:=id T
         refine read _ i j _ Gd hi' hj' ?_
         refine read _ j l _ Gd hj' hl' ?_
         refine read _ i l _ Gd hi' hl' ?_
         rw [xor1 (bd i j).1 (bd i j).2,xor1 (bd j l).1 (bd j l).2]
         refine T.app (by omega) _ _ _ fun w' mp' mn' mc' T' hmn=> ⟨o - 1,by omega,l+1,rfl,by omega,by omega,by omega,?_⟩
         rw [mustJ_succ,mustK,if_pos hd,← List.append_assoc]
         exact T'
       · have:l=n:=by omega
         subst this
         refine ⟨m - 1,by omega,j+1,rfl,by omega,by omega,by omega,?_⟩
         rw [mustI_succ,← List.append_assoc]
         exact T
     · have:j=n:=by omega
       subst this
       refine ⟨k - 1,by omega,i+1,rfl,by omega,by omega,by omega,?_⟩
       rw [mustO_succ]
       exact T
   · have:i=n:=by omega
     subst this
     obtain ⟨h1,ms,o,hf,G⟩:=T
     have olt:=S.o.lt
     have alt:=S.a.lt
     have:=S.M.size
     rw [h1]
     exact ⟨p,c,hs,mp,mc,ms,rows,y,rfl,S.grow G,o,fun k hk=> ⟨fun e=>by have:=hf k hk;have:=alt k e;omega,fun e=>by have:=hf k hk;have:=olt k e;omega,by have:=hf k hk;omega⟩⟩
end
section
theorem awake19 {w0 w:World} (G0:Grow w0 w):Calls prog fathomlaw19_awake.id #[] w fun e w'=>e= .returned (.bool true)∧Grow w0 w':=by
 refine fathomlaw19_awake.calls ?_
 refine (aigNew_ok w).mono ?_
 rintro e w1 ⟨b,x,rfl,hx,hg,hf,g1⟩
 have hl:x.g.length=0:=by rw [hg];rfl
 have hp:pst 3 3=3:=by decide
 refine ⟨_,rfl,(order_ok hx 3 (by omega) (by omega)).mono ?_⟩
 rintro e w3 ⟨p,c,hs,pm,cm,ms,rows,y,rfl,S,o,_⟩
 rw [hp] at S ⊢
 have hm:(mustO (ordM 3 x.g.length 3) 3 3).length=6:=by rw [hl];decide
 rw [hm]
 have G3:Grow w w3:=g1.then S.M fun k hk e=>by have:=hf k e;omega
 refine ⟨_,_,_,_,_,_,rfl,cnd_t rfl (cnd_t rfl ((aigLen_ok S.a).mono ?_))⟩
 rintro e w6 ⟨rfl,g6⟩
 have hy:y.g.length=3:=by rw [S.g];simp [hl]
 rw [hy]
 have v:=S.o.v2.grow g6
 have hr:=S.m
 have read: ∀ (i j:Nat) (K:Int→Prop),i<3→j<3→K (ordM 3 x.g.length 3 i j)→ixK p 3 (i:Int) 1 fun a60=>
       ∃x61p x61n x61c,w6.cell? a60=some (.slice x61p x61n x61c)∧
       ixK x61p x61n (j:Int) 1 fun a62=> ∃x63,w6.cell? a62=some (.int .i64 x63)∧K x63:=by
  intro i j K hi hj hk
  refine v.ix (by omega) (by rw [hr.1]) (by omega) fun a s e _ hn _ hv=> ⟨_,_,_,e,hv.ix 0 (by omega) hn (by rw [hn,Int.toNat_natCast,(hr.2 i hi).1];omega) fun a e=> ⟨_,e,?_⟩⟩
  rw [Int.toNat_natCast,Int.toNat_natCast,(hr.2 i hi).2 j hj]
  exact hk
 rw [hl] at read
 refine ⟨_,rfl,cnd_t rfl ?_⟩
 refine read 0 1 _ (by omega) (by omega) (cnd_t (by decide) ?_)
 refine read 1 0 _ (by omega) (by omega) (cnd_t (by decide) ?_)
 refine read 1 1 _ (by omega) (by omega) ⟨?_,G0.trans (G3.trans g6)⟩
 have:ordM 3 0 3 1 1=0:=by decide
 rw [this];rfl
theorem awake19' {w0 w:World} (G:Grow w0 w):Calls prog fathomlaw19_awake.id #[] w fun e w'=> ∃b:Bool,e= .returned (.bool b)∧(Ending.returned (.bool b)= .returned (.bool true)∧Grow w0 w'):=
 (awake19 G).mono fun _ _ ⟨he,hw⟩=> ⟨true,he,rfl,hw⟩
end
section
theorem nodes_ok {w:World} {b:Nat} {x:AG} (h:ARep w b x) (hb:x.g.length≤1048576):Calls prog aig_Aig_Nodes.id #[ptr b] w fun e w'=> ∃p c,e= .returned (.slice p x.g.length c)∧Vr 2 gateV w' p x.g∧Grow w w':=by
 refine aig_Aig_Nodes.calls ?_
 refine cnd_f rfl ⟨_,rfl,_,_,_,cell_add h.me rfl,?_⟩
 have cl:Calls prog slices_Clone_fathom_api_Gate_fathom_api_Gate.id #[.slice x.pg x.g.length x.cg] w fun e w'=> ∃p c,e= .returned (.slice p x.g.length c)∧Vr 2 gateV w' p x.g∧Grow w w':=by
  refine slices_Clone_fathom_api_Gate_fathom_api_Gate.calls ?_
  refine cnd_i (fun s=> ?_) (fun s=> ?_)
  · have hp:x.pg=none:=by simpa using s
    have hg:x.g= []:=by
     rcases h.hg.un with ⟨_,_,e⟩| ⟨g,_,e,_⟩
     · exact e
     · rw [hp] at e;cases e
    refine ⟨none,0,by rw [hg];rfl,by rw [hg];exact Vr.nil,Mod.refl w⟩
  · intro n1 w2 h2
    have R0:Row 2 gateV ty_api_Gate w2 (some ⟨n1,0,none⟩) 0 []:=Row.of_some gateE.len h2.at (Nat.le_refl _) (Nat.zero_le _) rfl rfl
    refine Row.app gateE sl_gate R0 ((h.hg.grow h2.mod).vr gateE) rfl rfl (by simp;omega) fun w3 p c R m hp z=> ?_
    rw [List.nil_append] at R ⊢
    exact ⟨p,c,rfl,R.vr gateE,h2.mod.then m fun k hk e=>by have:=blk_some e;have:=h2.num;omega⟩
 refine cl.mono ?_
 rintro e w3 ⟨p,c,rfl,hv,g⟩
 exact ⟨_,_,_,rfl,p,c,rfl,hv,g⟩
end
end Go.Proofs.YtabengnadcleeaaGreat.W.Rk
