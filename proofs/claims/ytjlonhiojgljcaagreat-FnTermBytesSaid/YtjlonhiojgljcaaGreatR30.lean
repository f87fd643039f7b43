/- For all arguments, FnTermBytes returns true, and leaves its arguments as they were; no further conditions. -/
import Derived.Test.YtjlonhiojgljcaaGreatP30
import Derived.Test.YtjlonhiojgljcaaGreatD6
import Derived.Test.YtjlonhiojgljcaaGreatRows
import Derived.WalkKit
import Derived.ProofKit
import Derived.OpenShut
set_option linter.unusedVariables false
set_option linter.unusedSimpArgs false
set_option maxRecDepth 10000
namespace Go.Proofs.YtjlonhiojgljcaaGreat.fnTermBytes
open Go.ChangeShapes Go.WideShapes Go.ChangeAt Go.RowKit Go.Proofs.VI
theorem own:ownKnob Tryz.prog.godebug=none:=by kernel_rfl
theorem contract (H:Type) (enc:TypeId×Value→H) (W:World) (base:Nat) (args:Array Value) (ds gs:List (DataW H)) (before:List MemPlace)
  (hval:∀ (j:Nat) t v,Tryz.f9.params[j]?=some t→args[j]?=some v→Value.okWide Tryz.prog W .any base t v)
  (hW:DataW.Whole enc Tryz.prog Tryz.f9.params.toList Rows.fnTermBytesSpec.vars false W args.toList ds gs before):
  Calls Tryz.prog 9 args W fun e W'=>∃ v,e= .returned v∧Rows.fnTermBytesSpec.post enc Tryz.prog Tryz.f9 false true false false W args v W':=by
 refine law_contract (S:=[5,74]) (tb:=4) (ts:=[74]) tok (by kernel_rfl) Tryz.func9 rfl (by kernel_rfl) rfl (by kernel_rfl) rfl (by decide) (by kernel_rfl) (by decide+kernel) ?_ rfl ?_ enc W base args ds gs before hval hW
 ·intro avs h
  obtain ⟨v0,r0,rfl,g0,h0⟩:=args_cons rfl h
  obtain rfl:r0=[]:=h0
  obtain ⟨code,rfl,l0,o0⟩:=hty_ByteS g0
  exact ⟨_,law_TermBytes code l0 o0⟩
 ·intro ds hd
  match ds,hd with
  | [d0],_=>rfl
set_option maxRecDepth 100000 in
theorem lifted (os:Os) (started:os.Started) (H:Type) (enc:TypeId×Value→H):
  ReturnsInHanded {} Tryz.checked os 9 .any (Rows.fnTermBytesSpec.pre6 enc Tryz.prog Tryz.f9 Rows.fnTermBytesRow.domain false) (Rows.fnTermBytesSpec.post enc Tryz.prog Tryz.f9 false true false false):=by
 refine returnsInHanded_of_change (C:=Tryz.checked) own started (by kernel_rfl) Tryz.func9
  (ChangeSpec.witness6 (enc:=enc) (C:=Tryz.checked) false ⟨#[],#[.slice none 0 0],[]⟩ 8 (by kernel_rfl) (by kernel_rfl) (by kernel_rfl) (by kernel_rfl)) ?_
 intro W base args ds gs before hval hW _ _
 exact contract H enc W base args ds gs before hval hW
set_option maxHeartbeats 4000000 in
theorem closed:joinedFacts Tryz.pinned.checked.prog 9 Tryz.f9 Rows.fnTermBytesSpec Rows.fnTermBytesRow=true:=by
 unfold joinedFacts
 simp only[Bool.and_eq_true]
 repeat' apply And.intro
 all_goals (as_aux_lemma=>kernel_rfl)
theorem over:Rows.fnTermBytesRow.holds Tryz.pinned (OpenSpec.ofChange Rows.fnTermBytesSpec):=
 OpenClaim.holds_of_wide 9 Tryz.f9 rfl rfl rfl rfl rfl rfl rfl ⟨rfl,rfl,rfl,rfl,rfl⟩ rfl rfl rfl rfl rfl (by kernel_rfl) Tryz.func9 closed
  (of_decide_eq_true (by kernel_rfl)) (by unfold Func.isWrapper;first | (rw[if_pos (by decide+kernel)];kernel_rfl) | (rw[if_neg (by decide+kernel)];exact ⟨rfl,rfl⟩))
  (fun os started H enc _=>lifted os started H enc)
theorem proved:Rows.FnTermBytesSaid:=over
end Go.Proofs.YtjlonhiojgljcaaGreat.fnTermBytes
