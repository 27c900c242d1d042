/- Each operation of the frame does what the base does: all forms. -/
import Derived.Test.YtbdghpjnifjlmaaGreatFwOps2
namespace Go.Fw
open Go
variable {P:Program}
theorem run_fieldAt {s:TypeId} {a:Addr} {k off:Nat} (h:fieldOff P s k=some off) (w:World):
 (Instr.fieldAt s (.pointer (some a)) k).run P w= .ok (.pointer (some (a.add off))) w:=by
 unfold fieldOff at h
 split at h
 · rename_i fs hu
   split at h
   · rename_i fd hf
     split at h
     · rename_i i hi
       split at h
       · simp at h
       · rename_i hne
         simp only [Option.some.injEq] at h
         subst h
         unfold Instr.fieldAt
         simp only [Sem.run_bind,run_und_some hu,Result.andThen_ok,hf,Instr.sureAddr,fieldPlace,Sem.run_pure,run_size_some hi,if_neg hne]
     · simp at h
   · simp at h
 · simp at h
theorem sliceElem_spec {t:TypeId} {size:Nat} (h:sliceElem P t=some size): ∃e i,P.underlying t=some (.slice e)∧P.info? e=some i∧i.size=size:=by
 unfold sliceElem at h
 split at h
 · rename_i e hu
   cases hi:P.info? e with
   |none=>simp [hi] at h
   |some i=>exact ⟨e,i,hu,hi,by simpa [hi] using h⟩
 · simp at h
theorem run_indexAt {t:TypeId} {p:Option Addr} {n c size:Nat} {k:IntKind} {j:Int} {K:Addr→Prop} (hs:sliceElem P t=some size) (h:ixK p n j size K):
 ∃a,(∀w,(Instr.indexAt t (.slice p n c) (.int k j)).run P w= .ok (.pointer (some a)) w)∧K a:=by
 obtain ⟨a,rfl,h0,h1,hk⟩:=h
 obtain ⟨e,i,hu,hi,rfl⟩:=sliceElem_spec hs
 refine ⟨_,fun w=> ?_,hk⟩
 unfold Instr.indexAt
 simp only [asIntOf,Sem.run_bind,Sem.run_pure,Result.andThen_ok,run_und_some hu]
 simp [h0,h1,run_size_some hi]
theorem run_bound {x:Int} {y n:Nat} {k:IntKind} {c:BoundsCode} (h:x=(n:Int)) (hn:n≤y) (w:World):(Instr.sliceBound (.int k x) y c).run P w= .ok n w:=by
 subst h
 unfold Instr.sliceBound
 simp only [asIntOf,Sem.run_bind,Sem.run_pure,Result.andThen_ok]
 rw [if_pos ⟨by omega,by omega⟩]
 simp
theorem optInt_spec {f:Fr} {x:Option Operand} {r:Option Int} (h:optInt f x=some r):x.map (ev f)=r.map (Value.int .i64):=by
 unfold optInt at h
 cases x with
 |none=>simp at h;subst h;rfl
 |some x=>
  simp only at h
  split at h
  · rename_i n he
    simp only [Option.some.injEq] at h
    subst h
    simp [he]
  · simp at h
theorem run_sliceAt {t:TypeId} {p:Option Addr} {n c size:Nat} {lo hi mx:Option Int} {K:Option Addr→Nat→Nat→Prop} (hs:sliceElem P t=some size) (hm:hi=none→mx=none)
 (h:slK p n c size lo hi mx K):
 ∃p' n' c',(∀w,(Instr.sliceAt t (.slice p n c) (lo.map (Value.int .i64)) (hi.map (Value.int .i64)) (mx.map (Value.int .i64))).run P w= .ok (.slice p' n' c') w)∧K p' n' c':=by
 obtain ⟨l,u,m,h1,h2,h3,hmc,hhm,hlh,hk⟩:=h
 obtain ⟨e,i,hu,hi',rfl⟩:=sliceElem_spec hs
 refine ⟨_,_,_,fun w=> ?_,hk⟩
 unfold Instr.sliceAt
 simp only [Sem.run_bind,run_und_some hu,Result.andThen_ok]
 unfold Instr.slice
 simp only [Sem.run_bind,run_und_some hu,Result.andThen_ok]
 have hb:(Instr.sliceBounds true n c (lo.map (Value.int .i64)) (hi.map (Value.int .i64)) (mx.map (Value.int .i64))).run P w= .ok (l,u,m) w:=by
  unfold Instr.sliceBounds
  cases mx with
  |none=>
   simp only [Option.getD_none] at h1
   obtain rfl:m=c:=by omega
   cases hi with
   |none=>
    simp only [Option.getD_none] at h2
    obtain rfl:u=n:=by omega
    cases lo with
    |none=>
     simp only [Option.getD_none] at h3
     obtain rfl:l=0:=by omega
     simp
    |some x=>
     simp only [Option.getD_some] at h3
     simp [run_bound h3 hlh]
   |some y=>
    simp only [Option.getD_some] at h2
    cases lo with
    |none=>
     simp only [Option.getD_none] at h3
     obtain rfl:l=0:=by omega
     simp [run_bound h2 hhm]
    |some x=>
     simp only [Option.getD_some] at h3
     simp [run_bound h2 hhm,run_bound h3 hlh]
  |some z=>
   simp only [Option.getD_some] at h1
   cases hi with
   |none=>exact absurd (hm rfl) (by simp)
   |some y=>
    simp only [Option.getD_some] at h2
    cases lo with
    |none=>
     simp only [Option.getD_none] at h3
     obtain rfl:l=0:=by omega
     simp [run_bound h1 hmc,run_bound h2 hhm]
    |some x=>
     simp only [Option.getD_some] at h3
     simp [run_bound h1 hmc,run_bound h2 hhm,run_bound h3 hlh]
 rw [hb]
 simp only [Result.andThen_ok,run_size_some hi',Sem.run_pure]
theorem partK_spec {t:TypeId} {cs:Array Value} {off:Nat} {K:Value→Prop} (h:partK P t cs off K): ∃v,(∀w,(part t cs off).run P w= .ok v w)∧K v:=by
 unfold partK at h
 unfold part
 split at h
 · rename_i hb
   split at h
   · rename_i i hi
     exact ⟨_,fun w=>by simp only [Sem.run_bind,run_isAgg hb,Result.andThen_ok,if_true,run_size_some hi,Sem.run_pure],h⟩
   · exact h.elim
 · rename_i hb
   split at h
   · rename_i v hv
     exact ⟨v,fun w=>by simp only [Sem.run_bind,run_isAgg hb,Result.andThen_ok,Bool.false_eq_true,if_false,hv,Sem.run_pure],h⟩
   · exact h.elim
 · exact h.elim
theorem fieldK_spec {s:TypeId} {v:Value} {k:Nat} {K:Value→Prop} (h:fieldK P s v k K): ∃u,(∀w,(Instr.field s v k).run P w= .ok u w)∧K u:=by
 unfold fieldK at h
 split at h
 · rename_i fs hu
   split at h
   · rename_i fd cs hf
     obtain ⟨u,hr,hk⟩:=partK_spec h
     refine ⟨u,fun w=> ?_,hk⟩
     unfold Instr.field
     simp only [Sem.run_bind,run_und_some hu,Result.andThen_ok,hf,asAgg,Sem.run_pure,hr]
   · exact h.elim
 · exact h.elim
theorem buildK_spec {t:TypeId} {f:Fr} {parts:Array (Nat × Operand)} {K:Value→Prop} (h:buildK P t (partsOf f parts.toList) K):
 ∃v,(∀w,(Instr.build t (parts.map fun (i,x)=> (i,ev f x))).run P w= .ok v w)∧K v:=by
 unfold buildK at h
 split at h
 · rename_i i hi
   split at h
   · rename_i z fs hz hu
     split at h
     · rename_i ps hps
       split at h
       · rename_i cells hc
         refine ⟨_,fun w=> ?_,h⟩
         unfold Instr.build
         have hzv:(zeroValue t).run P w= .ok z w:=by
          unfold zeroValue
          simp only [Sem.run_bind,run_info_some hi,Result.andThen_ok,hz,Sem.run_pure]
         have hpl:(fs.mapM fun fd=> (do pure (fd.offset,← sizeOf fd.type):Sem (Nat × Nat))).run P w= .ok ps.toArray w:=by
          rw [Array.mapM_eq_mapM_toList]
          simp only [Sem.run_map,places_eq _ _ hps,Result.andThen_ok]
         simp only [Sem.run_bind,hzv,Result.andThen_ok,run_und_some hu]
         rw [hpl]
         simp only [Result.andThen_ok]
         have he:(parts.map fun (i,x)=> (i,ev f x)).toList=partsOf f parts.toList:=by
          rw [partsOf_eq];simp
         have hf':Instr.fill (fun k=>ps.toArray[k]?) z.cells (parts.map fun (i,x)=> (i,ev f x)).toList=some cells:=by
          rw [he];simpa using hc
         simp only [hf',Sem.run_pure]
       · exact h.elim
     · exact h.elim
   · exact h.elim
 · exact h.elim
end Go.Fw
