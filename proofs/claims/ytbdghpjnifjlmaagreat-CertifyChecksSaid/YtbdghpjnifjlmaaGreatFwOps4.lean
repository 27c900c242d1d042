/- Each operation of the frame does what the base does: the law. -/
import Derived.Test.YtbdghpjnifjlmaaGreatFwOps3
namespace Go.Fw
open Go
variable {P:Program}
theorem run_noguard (b:BinOp) (t:TypeId) (x y:Operand) (u v:Value) (hu: ∀cs,u≠ .agg cs) (hn:u≠ .nilIface) (w:World):
 (eqGuard b t x y u v).run P w= .ok () w:=by
 unfold eqGuard
 cases b<;>cases u<;>first
  |exact absurd rfl hn
  |exact absurd rfl (hu _)
  |simp
theorem binK_pure {b:BinOp} {t:TypeId} {x y:Operand} {u v:Value} {w:World} {K:Value→World→Prop}
 (hu: ∀cs,u≠ .agg cs) (hn:u≠ .nilIface) {r:Value} (h: ∀w,(binOp b t u v).run P w= .ok r w) (hk:K r w) (k:Nat):
 evid P k ((do pure (.value (← (do eqGuard b t x y u v;binOp b t u v)))):Sem Next) w K:=
 evid_of_pure (fun w'=>by rw [run_v];simp only [Sem.run_bind,run_noguard b t x y u v hu hn,Result.andThen_ok,h w']) hk
theorem equal_nil_ptr {t:TypeId} {e:TypeId} (hu:P.underlying t=some (.pointer e)) (p:Option Addr) (w:World):
 (Op.equal t (.pointer p) (.pointer none)).run P w= .ok p.isNone w:=by
 unfold Op.equal
 rw [show Op.maxDepth=9999+1 from rfl]
 unfold Op.equalIn
 cases p<;>simp [run_und_some hu]
theorem equal_nil_slice {t:TypeId} {e:TypeId} (hu:P.underlying t=some (.slice e)) (p:Option Addr) (n c:Nat) (w:World):
 (Op.equal t (.slice p n c) (.slice none 0 0)).run P w= .ok p.isNone w:=by
 unfold Op.equal
 rw [show Op.maxDepth=9999+1 from rfl]
 unfold Op.equalIn
 cases p<;>simp [run_und_some hu]
theorem equal_bool {t:TypeId} (hu:P.underlying t=some .bool) (a b:Bool) (w:World):
 (Op.equal t (.bool a) (.bool b)).run P w= .ok (a==b) w:=by
 unfold Op.equal
 rw [show Op.maxDepth=9999+1 from rfl]
 unfold Op.equalIn
 simp [run_und_some hu]
theorem nilCmp_spec {b:BinOp} {t:TypeId} {x y:Operand} {u v:Value} {w:World} {K:Value→World→Prop} {isNil:Bool}
 (hu: ∀cs,u≠ .agg cs) (hn:u≠ .nilIface) (hb: ∀w,(Op.equal t u v).run P w= .ok isNil w) (he:binOp .eql t u v=(do pure (.bool (← Op.equal t u v))))
 (hne:binOp .neq t u v=(do pure (.bool (!(← Op.equal t u v))))) (h:nilCmp b isNil w K) (k:Nat):
 evid P k ((do pure (.value (← (do eqGuard b t x y u v;binOp b t u v)))):Sem Next) w K:=by
 unfold nilCmp at h
 split at h
 · exact binK_pure hu hn (fun w=>by rw [he];simp only [Sem.run_bind,hb,Result.andThen_ok,Sem.run_pure]) h k
 · exact binK_pure hu hn (fun w=>by rw [hne];simp only [Sem.run_bind,hb,Result.andThen_ok,Sem.run_pure]) h k
 · exact h.elim
theorem binK_spec {b:BinOp} {t:TypeId} {x y:Operand} {u v:Value} {w:World} {K:Value→World→Prop} {yt:TypeId} {o:Oper} {f:Fr}
 (ho:o.op= .binOp b t x y yt) (hv:v=ev f y) (h:binK P b t x y u v w K):
 evid P (opKind P o) ((do pure (.value (← (do eqGuard b t x y u v;binOp b t u v)))):Sem Next) w K:=by
 unfold opKind
 rw [ho]
 unfold binK at h
 split at h
 · rename_i k0 hd
   simp only [hd]
   split at h
   · rename_i k a k' c
     split at h
     · obtain ⟨h0,h⟩:=h
       exact binK_pure (by simp) (by simp) (fun w=>by simp [binOp,Op.shift,Int.not_lt.2 h0]) h 0
     · obtain ⟨h0,h⟩:=h
       exact binK_pure (by simp) (by simp) (fun w=>by simp [binOp,Op.shift,Int.not_lt.2 h0]) h 0
     · rename_i hs1 hs2
       cases hk:k==k' with
       |false=>simp [hk] at h
       |true=>
        rw [hk,cond_true] at h
        obtain rfl:=eq_of_beq hk
        split at h
        case h_4=>exact binK_pure (by simp) (by simp) (fun w=>by simp [binOp,Op.intDiv,h.1]) h.2 0
        case h_5=>exact binK_pure (by simp) (by simp) (fun w=>by simp [binOp,Op.intDiv,h.1]) h.2 0
        case h_16=>exact h.elim
        all_goals exact binK_pure (by simp) (by simp) (fun w=>by simp [binOp,Op.intArith,Op.intBits,Op.intCmp]) h 0
   · exact h.elim
 · rename_i hd
   simp only [hd]
   split at h
   · exact nilCmp_spec (by simp) (by simp) (equal_bool hd _ _) rfl rfl h 0
   · exact h.elim
 · rename_i e hd
   simp only [hd]
   split at h
   · split at h
     · exact nilCmp_spec (by simp) (by simp) (equal_nil_ptr hd _) (by simp [binOp]) (by simp [binOp]) h _
     · exact h.elim
   · rename_i hne
     split
     · rename_i he
       exact absurd (hv.trans rfl) hne
     · exact evid_two (semK_upon h)
 · rename_i e hd
   simp only [hd]
   split at h
   · split at h
     · exact nilCmp_spec (by simp) (by simp) (equal_nil_slice hd _ _ _) (by simp [binOp]) (by simp [binOp]) h 0
     · exact h.elim
   · exact h.elim
 · rename_i h1 h2 h3 h4
   simp only []
   exact evid_two (semK_upon h)
theorem opK_sound (o:Oper) (f:Fr) (w:World) (K:Value→World→Prop) (hc:callOk P o=true) (h:opK P o f w K):
 evid P (opKind P o) (execOp (ev f) o) w K:=by
 obtain ⟨dst,op,type,pos,after,guard⟩:=o
 cases op
 case move x=>exact ⟨_,fun w'=>rfl,h⟩
 case assign x=>exact ⟨_,fun w'=>rfl,h⟩
 case pick c a b=>
  simp only [opK] at h
  split at h
  · rename_i t hc
    unfold pickK at h
    split at h
    · rename_i x y hx hy
      refine ⟨_,fun w'=> ?_,h⟩
      simp only [execOp,Sem.run_bind,hc,asBool,Sem.run_pure,Result.andThen_ok]
      cases t<;>simp [hx,hy]
    · cases t with
      |true=>exact ⟨_,fun w'=>by simp only [execOp,Sem.run_bind,hc,asBool,Sem.run_pure,Result.andThen_ok,if_true],h⟩
      |false=>exact ⟨_,fun w'=>by simp only [execOp,Sem.run_bind,hc,asBool,Sem.run_pure,Result.andThen_ok,Bool.false_eq_true,if_false],h⟩
  · exact h.elim
 case alloc t=>
  simp only [opK] at h
  split at h
  · rename_i i hi
    split at h
    · rename_i z hz
      refine evid_two ?_
      simp only [execOp,run_v,Instr.alloc,Sem.run_bind]
      have hzv:(zeroValue t).run P w= .ok z w:=by
       unfold zeroValue
       simp only [Sem.run_bind,run_info_some hi,Result.andThen_ok,hz,Sem.run_pure]
      simp only [hzv,Result.andThen_ok,newVar,newRow,Sem.run_bind,run_newObj,Sem.run_pure]
      exact newK_spec h
    · exact h.elim
  · exact h.elim
 case box t x=>
  refine evid_two ?_
  simp only [execOp,run_v,Instr.box,Sem.run_bind,newVar,newRow,run_newObj,Result.andThen_ok,Sem.run_pure]
  exact newK_spec h
 case build t parts=>
  obtain ⟨v,hr,hk⟩:=buildK_spec (K:=fun v=>K v w) h
  exact ⟨v,fun w'=>by simp only [execOp,run_v,hr,Result.andThen_ok],hk⟩
 case buildSlice t len parts=>
  simp only [opK] at h
  split at h
  · rename_i e hu
    split at h
    · rename_i i hi
      cases hb:(Nat.blt (len*i.size) 16777217 && Nat.beq parts.toList.length len && i.zero.isSome) with
      |false=>rw [hb] at h;exact h.elim
      |true=>
       rw [hb,cond_true] at h
       simp only [Bool.and_eq_true] at hb
       obtain ⟨⟨hb1,hb2⟩,hb4⟩:=hb
       have hlen:parts.toList.length=len:=Nat.eq_of_beq_eq_true hb2
       have hsz:len*i.size<16777217:=by simpa using hb1
       obtain ⟨z,hz⟩:=Option.isSome_iff_exists.1 hb4
       split at h
       · rename_i cs hcs
         refine evid_two ?_
         simp only [execOp,run_v,Instr.buildSlice,Sem.run_bind,run_und_some hu,Result.andThen_ok,run_size_some hi]
         rw [if_neg (by omega)]
         have hzv: ∀w,(zeroValue e).run P w= .ok z w:=fun w=>by
          unfold zeroValue
          simp only [Sem.run_bind,run_info_some hi,Result.andThen_ok,hz,Sem.run_pure]
         have hfill: ∀zero:Array Value,Instr.fill (fun i_1=>some (i_1*i.size,i.size)) ((Array.range (len*i.size)).map (zero[· % zero.size]!)) (parts.map fun (i,x)=> (i,ev f x)).toList=some cs.toArray:=by
          intro zero
          have he:(parts.map fun (i,x)=> (i,ev f x)).toList=partsOf f parts.toList:=by rw [partsOf_eq];simp
          rw [he]
          have:=fill_row i.size f parts.toList 0 cs ((Array.range (len*i.size)).map (zero[· % zero.size]!)).toList [] hcs (by simp) (by simp [← hlen])
          rw [map_arr]
          simpa using this
         by_cases h0:len*i.size=0
         · simp only [if_pos h0,Sem.run_bind,Sem.run_pure,Result.andThen_ok,hfill,newRow,run_newObj]
           exact newK_spec h
         · simp only [if_neg h0,Sem.run_bind,Sem.run_pure,Result.andThen_ok,hzv,hfill,newRow,run_newObj]
           exact newK_spec h
       · exact h.elim
    · exact h.elim
  · exact h.elim
 case load t x=>
  simp only [opK] at h
  split at h
  · rename_i a ha
    obtain ⟨v,hr,hk⟩:=ldK_spec h
    exact ⟨v,by simp only [execOp,run_v,Instr.loadAt,ha,Instr.sureAddr,Sem.run_bind,Sem.run_pure,Result.andThen_ok,hr],hk⟩
  · exact h.elim
 case store t x y=>
  simp only [opK] at h
  split at h
  · rename_i a ha
    obtain ⟨w',hr,hk⟩:=stK_spec h
    refine evid_two ?_
    simp only [execOp,run_u,Instr.storeAt,ha,Instr.sureAddr,Sem.run_bind,Sem.run_pure,Result.andThen_ok,hr]
    exact hk
  · exact h.elim
 case nilCheck x=>
  simp only [opK,nilK] at h
  split at h
  · rename_i p hp
    obtain ⟨a,rfl,hk⟩:=h
    exact ⟨_,fun w'=>by simp only [execOp,hp,Sem.run_pure],hk⟩
  · rename_i g x' y' hp
    exact ⟨_,fun w'=>by simp only [execOp,hp,Sem.run_pure],h⟩
  · exact h.elim
 case binOp b t x y yt=>exact binK_spec (o:=⟨dst,.binOp b t x y yt,type,pos,after,guard⟩) rfl rfl h
 case unOp u t x=>
  simp only [opK] at h
  split at h
  · rename_i k n hn
    exact ⟨_,fun w'=>by simp only [execOp,run_v,hn,Op.unary,Op.intArith,Sem.run_pure,Result.andThen_ok],h⟩
  · rename_i b hb
    exact ⟨_,fun w'=>by simp only [execOp,run_v,hb,Op.unary,Sem.run_pure,Result.andThen_ok],h⟩
  · exact h.elim
 case convert src dt x=>
  simp only [opK] at h
  split at h
  · rename_i ds k k' n hs hu hn
    refine ⟨_,fun w'=> ?_,h⟩
    simp only [execOp,run_v,hn]
    unfold convert
    simp only [Sem.run_bind,run_und_some hs,run_und_some hu,Result.andThen_ok]
    simp [Conv.intToInt]
  · exact h.elim
 case makeFunc fn first captured=>
  refine ⟨_,fun w'=> ?_,h⟩
  simp only [execOp,run_v,Instr.makeFunc,Sem.run_pure,Result.andThen_ok,evs_eq,map_arr]
 case makeMap t r=>
  simp only [opK] at h
  cases r with
  |some _=>exact h.elim
  |none=>
   refine evid_two ?_
   simp only [execOp,run_v,Instr.makeMap,Option.map_none,Sem.run_bind,run_newObj,Result.andThen_ok,Sem.run_pure]
   exact newK_spec h
 case makeSlice t l c=>exact evid_two (semK_upon h)
 case slice t x lo hi mx=>
  simp only [opK] at h
  split at h
  · rename_i p n c size l u m hx hs hl hu hm
    cases hb:(u.isSome||m.isNone) with
    |false=>rw [hb] at h;exact h.elim
    |true=>
    rw [hb,cond_true] at h
    obtain ⟨p',n',c',hr,hk⟩:=run_sliceAt hs (fun he=>by subst he;simpa using hb) h
    refine ⟨_,fun w'=> ?_,hk⟩
    simp only [execOp,run_v,hx,optInt_spec hl,optInt_spec hu,optInt_spec hm,hr,Result.andThen_ok]
  · exact h.elim
 case fieldAddr s x k=>
  simp only [opK] at h
  split at h
  · rename_i a off ha hoff
    exact ⟨_,fun w'=>by simp only [execOp,run_v,ha,run_fieldAt hoff,Result.andThen_ok],h⟩
  · exact h.elim
 case field s x k=>
  obtain ⟨u,hr,hk⟩:=fieldK_spec h
  exact ⟨u,fun w'=>by simp only [execOp,run_v,hr,Result.andThen_ok],hk⟩
 case indexAddr t x i=>
  simp only [opK] at h
  split at h
  · rename_i p n c size k j hx hs hj
    obtain ⟨a,hr,hk⟩:=run_indexAt (c:=c) (k:=k) hs h
    exact ⟨_,fun w'=>by simp only [execOp,run_v,hx,hj,hr,Result.andThen_ok],hk⟩
  · exact h.elim
 case index t x i=>
  simp only [opK] at h
  split at h
  · rename_i s k j hu hx hj
    obtain ⟨b,h0,hb,hk⟩:=h
    refine ⟨_,fun w'=> ?_,hk⟩
    simp only [execOp,run_v,hx,hj,Instr.index,asIntOf,Sem.run_bind,Sem.run_pure,Result.andThen_ok,run_und_some hu]
    simp [h0,hb]
  · exact h.elim
 case lookup t x i ok=>exact evid_two (semT_upon h)
 case mapUpdate t m k x=>
  obtain ⟨w',hr,hk⟩:=h
  refine evid_two ?_
  simp only [execOp,run_u,hr,Result.andThen_ok]
  exact hk
 case insert t m k x=>
  obtain ⟨w',hr,hk⟩:=h
  refine evid_two ?_
  simp only [execOp,run_u,hr,Result.andThen_ok]
  exact hk
 case range t x=>exact evid_two (semK_upon h)
 case next x s=>
  cases s with
  |true=>exact h.elim
  |false=>
  refine evid_two ?_
  simp only [execOp,run_v]
  rcases h with ⟨w',hr,hk⟩| ⟨w',k,v,hr,hk⟩
  · rw [hr];exact hk
  · rw [hr];exact hk
 case entry x=>
  obtain ⟨w',k,v,hr,hk⟩:=h
  refine evid_two ?_
  simp only [execOp,run_v]
  rw [hr];exact hk
 case extract x k=>
  simp only [opK] at h
  split at h
  · rename_i vs hx
    split at h
    · rename_i v hv
      exact ⟨v,fun w'=>by simp only [execOp,run_v,hx,Instr.extract,hv,Sem.run_pure,Result.andThen_ok],h⟩
    · exact h.elim
  · exact h.elim
 case call c=>
  obtain ⟨callee,args,argTypes⟩:=c
  have enter: ∀ (g:FuncId) (as:Array Value) (w:World),entB P g=true→(callFunc g as).run P w= .ok (.enter g as) w:=by
   intro g as w hg
   unfold entB at hg
   unfold callFunc
   simp only [Sem.run_bind,run_program,Result.andThen_ok]
   split at hg
   · rename_i fn hfn
     simp only [Bool.and_eq_true,bne_iff_ne,ne_eq] at hg
     simp only [hfn]
     have h1:(fn.name== "runtime.NumGoroutine")=false:=by simpa using hg.2
     have h2:fn.body.isNone=false:=by cases hbd:fn.body<;>simp_all
     simp [h1,h2]
   · simp at hg
  have hargs:args.map (ev f)=(evs f args.toList).toArray:=by rw [evs_eq,map_arr]
  cases callee with
  |invoke r m=>exact h.elim
  |builtin b=>
   simp only [opK,builtinK] at h
   cases b<;>simp only at h
   case append=>
    refine evid_two ?_
    simp only [execOp,resolve,Sem.run_bind,Sem.run_pure,Result.andThen_ok,invoke,builtin,hargs]
    have:=semK_upon h
    rw [run_v] at this
    exact this
   case copy=>
    refine evid_two ?_
    simp only [execOp,resolve,Sem.run_bind,Sem.run_pure,Result.andThen_ok,invoke,builtin,hargs]
    have:=semK_upon h
    rw [run_v] at this
    exact this
   case delete=>
    obtain ⟨w',hr,hk⟩:=h
    refine evid_two ?_
    simp only [execOp,resolve,Sem.run_bind,Sem.run_pure,Result.andThen_ok,invoke,builtin,hargs,hr]
    exact hk
   case clear=>
    obtain ⟨w',hr,hk⟩:=h
    refine evid_two ?_
    simp only [execOp,resolve,Sem.run_bind,Sem.run_pure,Result.andThen_ok,invoke,builtin,hargs,hr]
    exact hk
   case len=>
    split at h
    · rename_i p n c hl
      split at h
      · rename_i e he
        cases ha:argTypes[0]? with
        |none=>simp [ha] at he
        |some t=>
         simp only [ha,Option.bind_some] at he
         refine ⟨_,?_,h⟩
         simp only [execOp,resolve,Sem.run_bind,Sem.run_pure,Result.andThen_ok,invoke,builtin,hargs,hl,Builtin.len_,ha]
         simp [run_und_some he,goInt]
      · exact h.elim
    · rename_i r hl
      obtain ⟨n,hr,hk⟩:=h
      refine ⟨_,?_,hk⟩
      simp only [execOp,resolve,Sem.run_bind,Sem.run_pure,Result.andThen_ok,invoke,builtin,hargs,hl,hr]
    · exact h.elim
   case max=>
    split at h
    · rename_i a c hl
      refine ⟨_,fun w'=> ?_,h⟩
      simp only [execOp,resolve,Sem.run_bind,Sem.run_pure,Result.andThen_ok,invoke,builtin,hargs,hl,Builtin.max_]
      simp [Builtin.max2]
      first|done|rfl| (unfold imax;rfl)
    · rename_i a c d hl
      refine ⟨_,fun w'=> ?_,h⟩
      simp only [execOp,resolve,Sem.run_bind,Sem.run_pure,Result.andThen_ok,invoke,builtin,hargs,hl,Builtin.max_]
      simp [Builtin.max2]
      first|done|rfl| (unfold imax;rfl)
    · exact h.elim
   case min=>
    split at h
    · rename_i a c hl
      refine ⟨_,fun w'=> ?_,h⟩
      simp only [execOp,resolve,Sem.run_bind,Sem.run_pure,Result.andThen_ok,invoke,builtin,hargs,hl,Builtin.min_]
      simp [Builtin.min2]
      first|done|rfl| (unfold imin;rfl)
    · rename_i a c d hl
      refine ⟨_,fun w'=> ?_,h⟩
      simp only [execOp,resolve,Sem.run_bind,Sem.run_pure,Result.andThen_ok,invoke,builtin,hargs,hl,Builtin.min_]
      simp [Builtin.min2]
      first|done|rfl| (unfold imin;rfl)
    · exact h.elim
  |value x=>
   have go: ∀ (g:FuncId) (as:Array Value),callK P g as type w K→Calls P g as w fun e w''=> ∃v,e= .returned v∧K v w'':=
    fun g as h=>h.mono fun e w' hr=>rkK_spec hr
   cases x with
   |func g=>
    have hg:entB P g=true:=hc
    refine evid_two ?_
    simp only [execOp,resolve,ev,Deferred.ofValue,Sem.run_bind,Sem.run_pure,Result.andThen_ok,invoke,hargs]
    simp only [Array.empty_append,Array.append_empty]
    rw [enter g _ w hg]
    exact go _ _ h
   |_=>
    simp only [opK] at h
    split at h
    · rename_i g first captured hx
      cases hg:entB P g with
      |false=>rw [hg] at h;exact h.elim
      |true=>
       rw [hg] at h
       refine evid_two ?_
       simp only [execOp,resolve,hx,Deferred.ofValue,Sem.run_bind,Sem.run_pure,Result.andThen_ok,invoke,hargs]
       rw [enter g _ w hg]
       exact go _ _ h
    · exact h.elim
 all_goals exact h.elim
end Go.Fw
