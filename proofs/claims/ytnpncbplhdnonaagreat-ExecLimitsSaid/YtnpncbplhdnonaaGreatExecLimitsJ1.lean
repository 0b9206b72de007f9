/-
 THE ROW of 'ExecLimits': whatever the input,it returns true,and each argument reads as it did. No condition.
-/
import Derived.Test.YtnpncbplhdnonaaGreatExecS36
import Derived.Test.YtnpncbplhdnonaaGreatRows
import Derived.WalkKit
import Derived.ProofKit
import Derived.OpenShut
import Derived.ShutString
import Derived.ChangeOld
import Derived.Below
import Derived.SizedLaws
set_option linter.unusedVariables false
set_option linter.unusedSimpArgs false
namespace Go.Proofs.YtnpncbplhdnonaaGreat.execLimits
open Go.ChangeShapes Go.WideShapes Go.ChangeAt Go.RowKit Go.Pl
set_option linter.unusedVariables false
theorem own:ownKnob Tryz.prog.godebug=none:=by kernel_rfl
theorem laidOut:laidOutB Tryz.prog=true:=by kernel_rfl
set_option maxRecDepth 100000 in
theorem lifted (os:Os) (started:os.Started) (H:Type) (enc:TypeId × Value→H) :
  ReturnsInHanded {} Tryz.checked os 9 .any (Rows.execLimitsSpec.pre6 enc Tryz.prog Tryz.f9 Rows.execLimitsRow.domain false) (Rows.execLimitsSpec.post enc Tryz.prog Tryz.f9 false true false false):=by
 refine returnsInHanded_of_change_sized (C:=Tryz.checked) own started (by kernel_rfl) Tryz.func9
  (ChangeSpec.witness6 (enc:=enc) (C:=Tryz.checked) false ⟨#[],#[.agg #[.slice none 0 0,.int .i64 0,.slice none 0 0,.int .u8 0,.int .u8 0,.int .u8 0,.int .u8 0,.slice none 0 0,.int .i64 0,.int .i64 0,.int .i64 0,.int .i64 0,.int .u8 0,.int .u8 0,.int .u8 0,.int .u8 0]],[]⟩ 12 (by kernel_rfl) (by kernel_rfl) (by kernel_rfl) (by kernel_rfl)) ?_
 intro W base args ds gs before hval0 hW hcnd hsz0 _
 have hval:∀ (j:Nat) t v,Tryz.f9.params[j]? = some t→args[j]? = some v→Value.okWide Tryz.prog W .any base t v:=hval0
 have hW':=hW
 obtain ⟨p,q,hA0,hV,rfl,hfz,hnd⟩:=hW
 have hA:DataW.TrodAll enc Tryz.prog W 0 (fun _=>true) true Tryz.f9.params.toList args.toList ds p:=hA0
 rw [Tryz.params9] at hA hval
 obtain ⟨v0,vs0,d0,ds0,p0,q0,hargs,rfl,rfl,h0,r0⟩:=trodAll_cons hA
 obtain ⟨rfl,rfl,rfl⟩:=trodAll_nil r0
 obtain rfl:args=#[v0]:=by cases args; simp_all
 obtain ⟨rfl,rfl⟩:=trodVars_none hV
 have lt0:∀ x∈p0,x.block < W.heap.size:=by obtain ⟨m,hm⟩:=h0; exact DataW.trod_lt m _ _ _ hm
 obtain ⟨c0,k0,w0⟩:=wT (t:=37) 12 (sh:=[.sl [.sl [.int .i64],.sl [.sl [.int .i64]]],.int .i64,.sl [.int .u8,.int .u8,.int .u8,.int .u8,.int .i64,.int .i64],.int .u8,.int .u8,.int .u8,.int .u8,.sl [.int .i64,.int .i64,.sl [.int .i64]],.int .i64,.int .i64,.int .i64,.int .i64,.int .u8,.int .u8,.int .u8,.int .u8]) (by kernel_rfl) (by kernel_rfl) (hval 0 37 v0 rfl rfl) h0
 clear hA0 hval0 hsz0
 have hC:=Y0 c0 k0
 refine (kX (w:=W) (cs:=[.agg c0]) hC rfl (fun i h1 h2=>?_)).mono ?_
 ·match i,h1,h2 with
  | 0,_,_=>exact w0
  | n + 1,_,h2=>exact absurd h2 (by simp)
 ·rintro e W' ⟨v,he,hvv,bel⟩
  cases hvv
  subst he
  exact ⟨_,rfl,_,_,_,[],_,[],hW',trodAll_mk1 (shut_bool Tryz.underlying4 _),(trodAll_cons_mk (Below.trod laidOut (by kernel_rfl) (of_decide_eq_true (by kernel_rfl)) h0 bel lt0) trodAll_mk0),rfl,bel.frame _,fun h=>by cases h⟩
theorem over:Rows.execLimitsRow.holds Tryz.pinned (OpenSpec.ofChange Rows.execLimitsSpec) :=
 OpenClaim.holds_of_wide 9 Tryz.f9 rfl rfl rfl rfl rfl rfl rfl ⟨rfl,rfl,rfl,rfl,rfl⟩ rfl rfl rfl rfl rfl (by kernel_rfl) Tryz.func9 (by kernel_rfl)
  (of_decide_eq_true (by kernel_rfl)) (by unfold Func.isWrapper; first | (rw [if_pos (by decide +kernel)]; kernel_rfl) | (rw [if_neg (by decide +kernel)]; exact ⟨rfl,rfl⟩))
  (fun os started H enc _=>lifted os started H enc)
theorem proved:Rows.ExecLimitsSaid:=over
#print axioms proved
end Go.Proofs.YtnpncbplhdnonaaGreat.execLimits
namespace Go.Proofs.YtnpncbplhdnonaaGreat
theorem execLimits_holds:Rows.ExecLimitsSaid:=execLimits.proved
end Go.Proofs.YtnpncbplhdnonaaGreat