/- The law answers true and leaves its arguments as they were, where what it reads is of bulk at most 1048576: the theorem treeMoreProved. -/
import Derived.Test.YtmedmnondjmleaaGreatQ39
import Derived.Test.YtmedmnondjmleaaGreatQ40
import Derived.Test.YtmedmnondjmleaaGreatQCjd
set_option linter.unusedVariables false
set_option linter.unusedSimpArgs false
namespace Go.Proofs.YtmedmnondjmleaaGreat.treeMore
open Go.ChangeShapes Go.WideShapes Go.ChangeAt Go.RowKit Go.Vx
theorem aT:Tryz.checked.prog.funcNamed Rows.treeMoreUptoRow.func=some 4:=by kernel_rfl
theorem bC:Tryz.f4.isInstance Tryz.checked.prog Rows.treeMoreUptoRow.origin Rows.treeMoreUptoRow.targs:=of_decide_eq_true (by kernel_rfl)
theorem J4:Tryz.f4.isWrapper Tryz.checked.prog Rows.treeMoreUptoRow.wrapper Rows.treeMoreUptoRow.mainSum:=by
 unfold Func.isWrapper;first | (rw [if_pos (by decide +kernel)];kernel_rfl) | (rw [if_neg (by decide +kernel)];exact ⟨rfl,rfl⟩)
theorem own:ownKnob Tryz.prog.godebug=none:=by kernel_rfl
set_option maxRecDepth 100000 in
theorem Es (H:Type)(enc:TypeId×Value→H)(W:World)(base:Nat)(args:Array Value)(ds gs:List (DataW H))(before:List MemPlace)
 (hval:∀ (j:Nat) t v,Tryz.f4.params[j]?=some t→args[j]?=some v→Value.okWide Tryz.prog W .any base t v)
 (hW:DataW.Whole enc Tryz.prog Tryz.f4.params.toList Rows.treeMoreSpec.vars false W args.toList ds gs before) (hk:Rows.uptoSmall H (ds++gs)=true) :
 Calls Tryz.prog 4 args W fun e W'=>∃ v,e=.returned v∧Rows.treeMoreSpec.post enc Tryz.prog Tryz.f4 false true false false W args v W':=by
 obtain ⟨fl,pred,xr,xa,a0,a1,l,d1,d2,d3,rfl,rfl,h1,hV⟩:=IE Tryz.params4 rfl hval hW hk
 exact IQ hW rfl rfl (by rw [Tryz.params4];decide +kernel) rfl hV (LB fl pred xr xa a0 a1 l (fun hr=>I6 h1 hr))
set_option maxRecDepth 100000 in
theorem Ak (os:Os)(started:os.Started)(H:Type)(enc:TypeId×Value→H)(F:Stop.Interp) :
 ReturnsInHanded {} Tryz.checked os 4 .any ((Rows.OpenSpec.upto Rows.treeMoreSpec).pre6 enc Tryz.prog Tryz.f4 Rows.treeMoreUptoRow.domain false) (((Rows.OpenSpec.upto Rows.treeMoreSpec).at F).post enc Tryz.prog Tryz.f4 false true false false):=by
 refine returnsInHanded_of_cond (C:=Tryz.checked) (s:=Rows.OpenSpec.upto Rows.treeMoreSpec) (k:=Rows.uptoSmall) rfl own started (by kernel_rfl) Tryz.func4
  (OpenSpec.witness (enc:=enc) (C:=Tryz.checked) (s:=Rows.OpenSpec.upto Rows.treeMoreSpec) (k:=Rows.uptoSmall) rfl false
   ⟨#[],#[.agg #[.slice none 0 0,.slice none 0 0],.agg #[.string .empty,.int .i64 0,.int .i64 0,.slice none 0 0],.agg #[.int .i64 0,.int .i64 0]],[]⟩ 8 (by kernel_rfl) (by kernel_rfl) (by kernel_rfl)
   (x:=([.agg [.nil,.nil],.agg [.lit (.string []),.agg [.lit (.int .i64 0),.lit (.int .i64 0)],.nil],.agg [.lit (.int .i64 0),.lit (.int .i64 0)]],[],[])) (by kernel_rfl) rfl (by kernel_rfl)) ?_
 intro W base args ds gs before hval hW _ hk _
 exact Es H enc W base args ds gs before hval hW hk
end Go.Proofs.YtmedmnondjmleaaGreat.treeMore
namespace Go.Proofs.YtmedmnondjmleaaGreat
open Go.Proofs.YtmedmnondjmleaaGreat.treeMore
theorem treeMoreProved:Rows.TreeMoreUptoSaid :=
 OpenClaim.holds_of_cond 4 Tryz.f4 rfl rfl rfl rfl rfl rfl rfl ⟨rfl,rfl,rfl,rfl,rfl⟩ rfl rfl rfl rfl rfl aT Tryz.func4 Ay bC J4
  (fun os started H enc _ F=>Ak os started H enc F)
end Go.Proofs.YtmedmnondjmleaaGreat
#print axioms Go.Proofs.YtmedmnondjmleaaGreat.treeMoreProved
