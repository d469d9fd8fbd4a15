/- The law answers true and leaves its arguments as they were, where what it reads is of bulk at most 1048576: the theorem treeCaughtProved. -/
import Derived.Test.YtmedmnondjmleaaGreatQBt
import Derived.Test.YtmedmnondjmleaaGreatQ39
import Derived.Test.YtmedmnondjmleaaGreatQCjb
set_option linter.unusedVariables false
set_option linter.unusedSimpArgs false
namespace Go.Proofs.YtmedmnondjmleaaGreat.treeCaught
open Go.ChangeShapes Go.WideShapes Go.ChangeAt Go.RowKit Go.Vx
theorem named:Tryz.checked.prog.funcNamed Rows.treeCaughtUptoRow.func=some 3:=by kernel_rfl
theorem alone:Tryz.f3.isInstance Tryz.checked.prog Rows.treeCaughtUptoRow.origin Rows.treeCaughtUptoRow.targs:=of_decide_eq_true (by kernel_rfl)
theorem unwrapped:Tryz.f3.isWrapper Tryz.checked.prog Rows.treeCaughtUptoRow.wrapper Rows.treeCaughtUptoRow.mainSum:=by
  unfold Func.isWrapper;first | (rw [if_pos (by decide +kernel)];kernel_rfl) | (rw [if_neg (by decide +kernel)];exact ⟨rfl,rfl⟩)
theorem own:ownKnob Tryz.prog.godebug=none:=by kernel_rfl
set_option maxRecDepth 100000 in
theorem contract (H:Type)(enc:TypeId×Value→H)(W:World)(base:Nat)(args:Array Value)(ds gs:List (DataW H))(before:List MemPlace)
    (hval:∀ (j:Nat) t v,Tryz.f3.params[j]?=some t→args[j]?=some v→Value.okWide Tryz.prog W .any base t v)
    (hW:DataW.Whole enc Tryz.prog Tryz.f3.params.toList Rows.treeCaughtSpec.vars false W args.toList ds gs before) (hk:Rows.uptoSmall H (ds++gs)=true) :
    Calls Tryz.prog 3 args W fun e W'=>∃ v,e=.returned v∧Rows.treeCaughtSpec.post enc Tryz.prog Tryz.f3 false true false false W args v W':=by
  obtain ⟨fl,t,pred,xr,xa,l,d1,d2,d3,rfl,rfl,h1,h2,hV⟩:=three_args Tryz.params3 rfl hval hW hk
  exact law_calls hW rfl rfl (by rw [Tryz.params3];decide +kernel) rfl hV (treeCaught_c fl t pred xr xa l (Nat.le_trans h2 (by decide)) (fun hr=>heads_few h1 hr))
set_option maxRecDepth 100000 in
theorem lifted (os:Os)(started:os.Started)(H:Type)(enc:TypeId×Value→H)(F:Stop.Interp) :
    ReturnsInHanded {} Tryz.checked os 3 .any ((Rows.OpenSpec.upto Rows.treeCaughtSpec).pre6 enc Tryz.prog Tryz.f3 Rows.treeCaughtUptoRow.domain false) (((Rows.OpenSpec.upto Rows.treeCaughtSpec).at F).post enc Tryz.prog Tryz.f3 false true false false):=by
  refine returnsInHanded_of_cond (C:=Tryz.checked) (s:=Rows.OpenSpec.upto Rows.treeCaughtSpec) (k:=Rows.uptoSmall) rfl own started (by kernel_rfl) Tryz.func3
    (OpenSpec.witness (enc:=enc) (C:=Tryz.checked) (s:=Rows.OpenSpec.upto Rows.treeCaughtSpec) (k:=Rows.uptoSmall) rfl false
      ⟨#[],#[.agg #[.slice none 0 0,.slice none 0 0],.agg #[.int .i64 0,.slice none 0 0,.int .i64 0,.slice none 0 0,.slice none 0 0,.slice none 0 0],.agg #[.string .empty,.int .i64 0,.int .i64 0,.slice none 0 0]],[]⟩ 8 (by kernel_rfl) (by kernel_rfl) (by kernel_rfl)
      (x:=([.agg [.nil,.nil],.agg [.lit (.int .i64 0),.nil,.lit (.int .i64 0),.nil,.nil,.nil],.agg [.lit (.string []),.agg [.lit (.int .i64 0),.lit (.int .i64 0)],.nil]],[],[])) (by kernel_rfl) rfl (by kernel_rfl)) ?_
  intro W base args ds gs before hval hW _ hk _
  exact contract H enc W base args ds gs before hval hW hk
end Go.Proofs.YtmedmnondjmleaaGreat.treeCaught
namespace Go.Proofs.YtmedmnondjmleaaGreat
open Go.Proofs.YtmedmnondjmleaaGreat.treeCaught
/-- The law TreeCaught,where what it reads is bounded. -/
theorem treeCaughtProved:Rows.TreeCaughtUptoSaid :=
  OpenClaim.holds_of_cond 3 Tryz.f3 rfl rfl rfl rfl rfl rfl rfl ⟨rfl,rfl,rfl,rfl,rfl⟩ rfl rfl rfl rfl rfl named Tryz.func3 closed alone unwrapped
    (fun os started H enc _ F=>lifted os started H enc F)
end Go.Proofs.YtmedmnondjmleaaGreat
#print axioms Go.Proofs.YtmedmnondjmleaaGreat.treeCaughtProved
