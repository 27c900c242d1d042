/- The statement CertifyGraphs holds: inputs of a graph of gates are told, and told right, whenever some make what is asked so, and none whenever none do, at every input that the statement lets in. -/
import Derived.Test.YtbdghpjnifjlmaaGreatRows
import Derived.Test.YtbdghpjnifjlmaaGreatCertA
import Derived.Test.YtbdghpjnifjlmaaGreatFwRead
import Derived.WalkKit
import Derived.ProofKit
import Derived.OpenShut
import Derived.ShutString
import Derived.ChangeOld
import Derived.Below
import Derived.SizedLaws
namespace Go.Proofs.YtbdghpjnifjlmaaGreat.certifyGraphs
open Go.ChangeShapes Go.WideShapes Go.ChangeAt Go.RowKit
theorem own:ownKnob Tryz.prog.godebug=none:=by kernel_rfl
set_option maxRecDepth 100000 in
theorem lifted(os:Os)(started:os.Started)(H:Type)(enc:TypeId × Value->H):
 ReturnsInHanded {} Tryz.checked os 6 .any (Rows.certifyGraphsSpec.pre6 enc Tryz.prog Tryz.f6 Rows.certifyGraphsRow.domain false) (Rows.certifyGraphsSpec.post enc Tryz.prog Tryz.f6 false true false false):=by
 refine returnsInHanded_of_change_sized (C:=Tryz.checked) own started (by kernel_rfl) Tryz.func6
  (ChangeSpec.witness6 (enc:=enc) (C:=Tryz.checked) false ⟨#[],#[.slice none 0 0,.slice none 0 0],[]⟩ 8 (by kernel_rfl) (by kernel_rfl) (by kernel_rfl) (by kernel_rfl)) ?_
 intro W base args ds gs before hval0 hW hcnd hsz0 _
 have hval: ∀ (j:Nat) t v,Tryz.f6.params[j]? =some t->args[j]? =some v->Value.okWide Tryz.prog W .any base t v:=hval0
 have hW':=hW
 obtain⟨p,q,hA0,hV,rfl,hfz,hnd⟩:=hW
 have hA:DataW.TrodAll enc Tryz.prog W 0 (fun _=>true) true Tryz.f6.params.toList args.toList ds p:=hA0
 rw[Tryz.params6]at hA hval
 have hA1:=hA
 obtain⟨v0,vs0,d0,ds0,p0,q0,hargs,rfl,rfl,h0,r0⟩:=trodAll_cons hA
 obtain⟨v1,vs1,d1,ds1,p1,q1,rfl,rfl,rfl,h1,r1⟩:=trodAll_cons r0
 obtain⟨rfl,rfl,rfl⟩:=trodAll_nil r1
 obtain rfl:args= #[v0,v1]:=by cases args;simp_all
 obtain⟨rfl,rfl⟩:=trodVars_none hV
 clear hA0 hval0 hsz0
 refine(Go.Proofs.YtbdghpjnifjlmaaGreat.W.vj v0 v1 W (Go.Fw.OU (n:=20) (by kernel_rfl) (hval 0 47 v0 rfl rfl) h0) (Go.Fw.OU (n:=20) (by kernel_rfl) (hval 1 22 v1 rfl rfl) h1)).mono fun e W' ⟨he,sm⟩=> ?_
 subst he
 exact⟨_,rfl,_,_,_,[],_,[],hW',trodAll_mk1 (shut_bool Tryz.underlying4 _),Go.Fw.Eb (n:=20) (by kernel_rfl) hA1 sm,rfl,sm.below.frame _,fun h=>by cases h⟩
theorem over:Rows.certifyGraphsRow.holds Tryz.pinned (OpenSpec.ofChange Rows.certifyGraphsSpec):=
 OpenClaim.holds_of_wide 6 Tryz.f6 rfl rfl rfl rfl rfl rfl rfl ⟨rfl,rfl,rfl,rfl,rfl⟩ rfl rfl rfl rfl rfl (by kernel_rfl) Tryz.func6 (by kernel_rfl)
  (of_decide_eq_true (by kernel_rfl)) (by unfold Func.isWrapper;first| (rw[if_pos (by decide+kernel)];kernel_rfl)| (rw[if_neg (by decide+kernel)];exact⟨rfl,rfl⟩))
  (fun os started H enc _=>lifted os started H enc)
theorem proved:Rows.CertifyGraphsSaid:=over
end Go.Proofs.YtbdghpjnifjlmaaGreat.certifyGraphs
namespace Go.Proofs.YtbdghpjnifjlmaaGreat
theorem certifyGraphs_holds:Rows.CertifyGraphsSaid:=certifyGraphs.proved
