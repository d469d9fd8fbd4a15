/- The law answers true and leaves its arguments as they were, where what it reads is of bulk at most 1048576: the theorem treeLooksProved. -/
import Derived.Test.YtmedmnondjmleaaGreatQ40
import Derived.Test.YtmedmnondjmleaaGreatQ41
import Derived.Test.YtmedmnondjmleaaGreatQCje
set_option linter.unusedVariables false
set_option linter.unusedSimpArgs false
namespace Go.Proofs.YtmedmnondjmleaaGreat.treeLooks
open Go.ChangeShapes Go.WideShapes Go.ChangeAt Go.RowKit Go.Vx
theorem aX:Tryz.checked.prog.funcNamed Rows.treeLooksUptoRow.func=some 9:=by kernel_rfl
theorem bF:Tryz.f9.isInstance Tryz.checked.prog Rows.treeLooksUptoRow.origin Rows.treeLooksUptoRow.targs:=of_decide_eq_true (by kernel_rfl)
theorem J5:Tryz.f9.isWrapper Tryz.checked.prog Rows.treeLooksUptoRow.wrapper Rows.treeLooksUptoRow.mainSum:=by
 unfold Func.isWrapper;first | (rw [if_pos (by decide +kernel)];kernel_rfl) | (rw [if_neg (by decide +kernel)];exact ⟨rfl,rfl⟩)
theorem own:ownKnob Tryz.prog.godebug=none:=by kernel_rfl
set_option maxRecDepth 100000 in
theorem EE (H:Type)(enc:TypeId×Value→H)(W:World)(base:Nat)(args:Array Value)(ds gs:List (DataW H))(before:List MemPlace)
 (hval:∀ (j:Nat) t v,Tryz.f9.params[j]?=some t→args[j]?=some v→Value.okWide Tryz.prog W .any base t v)
 (hW:DataW.Whole enc Tryz.prog Tryz.f9.params.toList Rows.treeLooksSpec.vars false W args.toList ds gs before) (hk:Rows.uptoSmall H (ds++gs)=true) :
 Calls Tryz.prog 9 args W fun e W'=>∃ v,e=.returned v∧Rows.treeLooksSpec.post enc Tryz.prog Tryz.f9 false true false false W args v W':=by
 obtain ⟨fl,t,pred,d1,d2,d3,rfl,rfl,h1,h2,hV⟩:=L5 Tryz.params9 rfl hval hW hk
 exact IQ hW rfl rfl (by rw [Tryz.params9];decide +kernel) rfl hV (NT fl t pred (Nat.le_trans h2 (by decide)) (fun hr=>I6 h1 hr))
set_option maxRecDepth 100000 in
theorem As (os:Os)(started:os.Started)(H:Type)(enc:TypeId×Value→H)(F:Stop.Interp) :
 ReturnsInHanded {} Tryz.checked os 9 .any ((Rows.OpenSpec.upto Rows.treeLooksSpec).pre6 enc Tryz.prog Tryz.f9 Rows.treeLooksUptoRow.domain false) (((Rows.OpenSpec.upto Rows.treeLooksSpec).at F).post enc Tryz.prog Tryz.f9 false true false false):=by
 refine returnsInHanded_of_cond (C:=Tryz.checked) (s:=Rows.OpenSpec.upto Rows.treeLooksSpec) (k:=Rows.uptoSmall) rfl own started (by kernel_rfl) Tryz.func9
  (OpenSpec.witness (enc:=enc) (C:=Tryz.checked) (s:=Rows.OpenSpec.upto Rows.treeLooksSpec) (k:=Rows.uptoSmall) rfl false
   ⟨#[],#[.agg #[.slice none 0 0,.slice none 0 0],.agg #[.int .i64 0,.slice none 0 0,.int .i64 0,.slice none 0 0,.slice none 0 0,.slice none 0 0],.string .empty],[]⟩ 8 (by kernel_rfl) (by kernel_rfl) (by kernel_rfl)
   (x:=([.agg [.nil,.nil],.agg [.lit (.int .i64 0),.nil,.lit (.int .i64 0),.nil,.nil,.nil],.lit (.string [])],[],[])) (by kernel_rfl) rfl (by kernel_rfl)) ?_
 intro W base args ds gs before hval hW _ hk _
 exact EE H enc W base args ds gs before hval hW hk
end Go.Proofs.YtmedmnondjmleaaGreat.treeLooks
namespace Go.Proofs.YtmedmnondjmleaaGreat
open Go.Proofs.YtmedmnondjmleaaGreat.treeLooks
theorem treeLooksProved:Rows.TreeLooksUptoSaid :=
 OpenClaim.holds_of_cond 9 Tryz.f9 rfl rfl rfl rfl rfl rfl rfl ⟨rfl,rfl,rfl,rfl,rfl⟩ rfl rfl rfl rfl rfl aX Tryz.func9 AF bF J5
  (fun os started H enc _ F=>As os started H enc F)
end Go.Proofs.YtmedmnondjmleaaGreat
#print axioms Go.Proofs.YtmedmnondjmleaaGreat.treeLooksProved
