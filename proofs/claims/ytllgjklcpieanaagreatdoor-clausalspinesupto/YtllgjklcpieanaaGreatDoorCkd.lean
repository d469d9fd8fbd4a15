/- The law answers true and leaves its arguments aS they were, where what it reads is of bulk at most 1048576: the theorem clausalSpinesProved. -/
import Derived.Test.YtllgjklcpieanaaGreatDoorR36
import Derived.Test.YtllgjklcpieanaaGreatDoorR47
import Derived.Test.YtllgjklcpieanaaGreatDoorR11
import Derived.Deep.DeepHandedRow
import Derived.LaidLaws
set_option linter.unusedVariables false
set_option linter.unusedSimpArgs false
namespace Go.Proofs.YtllgjklcpieanaaGreatDoor.clausalSpines
open Go.ChangeShapes Go.WideShapes Go.ChangeAt Go.RowKit Go.Vx
theorem bO:Tryz.checked.prog.funcNamed Rows.clausalSpinesUptoRow.func=some 3:=by kernel_rfl
theorem bZ:Tryz.f3.isInstance Tryz.checked.prog Rows.clausalSpinesUptoRow.origin Rows.clausalSpinesUptoRow.targs:=of_decide_eq_true xy
theorem IQ:Tryz.f3.isWrapper Tryz.checked.prog Rows.clausalSpinesUptoRow.wrapper Rows.clausalSpinesUptoRow.mainSum:=by
 unfold Func.isWrapper;first|(rw[gZ (by decide +kernel)];kernel_rfl)|(rw[ig (by decide +kernel)];exact⟨rfl,rfl⟩)
theorem own:ownKnob nC.godebug=none:=by kernel_rfl
set_option maxRecDepth 100000 in
theorem E3(H:Type)(enc:nF×nG->H)(W:nH)(base:Nat)(args:nN nG)(ds gs:List (DataW H))(before:List MemPlace)
 (hval:∀ (j:Nat) t v,Tryz.f3.params[j]?=some t->args[j]?=some v->Value.okWide nC W .any base t v)
 (hW:DataW.Whole enc nC Tryz.f3.params.toList Rows.clausalSpinesSpec.vars false W args.toList ds gs before) (hk:Rows.uptoSmall H (ds++gs)=true) :
 Calls nC 3 args W fun e W'=>∃ v,e=.returned v/\Rows.clausalSpinesSpec.post enc nC Tryz.f3 false true false false W args v W':=by
 obtain⟨c,l,q,d1,d2,d3,rfl,rfl,hV⟩:=Mn Tryz.params3 rfl hval hW hk
 exact Hx hW rfl rfl (by rw[Tryz.params3];decide +kernel) rfl hV (GZ c l q)
def aq:DataW Unit->nN nG
 | .agg l=>(l.map fun d=>match d with|.lit (.int k n)=>Value.int k n|_=>.bool false).toArray
 | _=>#[]
def put(k:Nat)(d:DataW Unit)(h:nN Obj):nN Obj:=h.modify k fun
 | .cells _ t frozen=>.cells (aq d) t frozen
 | o=>o
noncomputable def Rh(os:Os):nH :=
 { World.holding nC os ⟨#[],#[],[]⟩ with heap:=put 2 Rows.laid_math_bits_deBruijn32tab (put 3 Rows.laid_math_bits_deBruijn64tab (put 1 Rows.laid_internal_strconv_uint64pow10 (World.holding nC os ⟨#[],#[],[]⟩).heap)) }
def IE:nN nG:=#[.agg #[.slice none 0 0,.slice none 0 0,.slice none 0 0,.string .empty,.slice none 0 0,.slice none 0 0,.slice none 0 0],.slice none 0 0,.slice none 0 0]
theorem F0(os:Os):laidMet nC Rows.clausalSpinesUptoRow.laid ((Rh os).forCall (fun _ _=>0) ⟨#[],IE,[]⟩).memory :=
 laidMet_of_run' 8 xy xy
theorem BZ(os:Os){H:Type}(enc:nF×nG->H):∃ places,DataW.whole enc nC ((Rh os).forCall (fun _ _=>0) ⟨#[],IE,[]⟩).memory Tryz.f3.params.toList Rows.clausalSpinesSpec.vars false IE.toList 8=some ([.agg [.nil,.nil,.nil,.lit (.string []),.nil,.nil,.nil],.nil,.nil],[],places) :=
 ⟨[],by kernel_rfl⟩
set_option maxRecDepth 100000 in
theorem AE(os:Os)(started:os.Started)(H:Type)(enc:nF×nG->H)(F:Stop.Interp) :
 ReturnsInHanded {} Tryz.checked os 3 .any ((Rows.OpenSpec.upto Rows.clausalSpinesSpec).preRow enc nC Tryz.f3 Rows.clausalSpinesUptoRow.domain false Rows.clausalSpinesUptoRow.laid) (((Rows.OpenSpec.upto Rows.clausalSpinesSpec).at F).post enc nC Tryz.f3 false true false false):=by
 obtain⟨places,hx⟩:=BZ os enc
 refine returnsInHanded_of_row (C:=Tryz.checked) (s:=Rows.OpenSpec.upto Rows.clausalSpinesSpec) own started xy Tryz.func3
  (witness_row_at (enc:=enc) (C:=Tryz.checked) false (Rh os) IE rfl xy xy xy
   (OpenSpec.preRow_of_cond 8 hx xy (fun k hk=>by cases hk;kernel_rfl) xy (F0 os))) ?_
 intro W base args ds gs before hval hW _ hcond _ hL _ _
 exact E3 H enc W base args ds gs before hval hW (hcond _ rfl)
end Go.Proofs.YtllgjklcpieanaaGreatDoor.clausalSpines
namespace Go.Proofs.YtllgjklcpieanaaGreatDoor
open Go.Proofs.YtllgjklcpieanaaGreatDoor.clausalSpines
theorem clausalSpinesProved:Rows.ClausalSpinesUptoSaid :=
 OpenClaim.holds_of_cond 3 Tryz.f3 rfl rfl rfl rfl rfl rfl rfl ⟨rfl,rfl,rfl,rfl,rfl⟩ rfl rfl rfl rfl rfl bO Tryz.func3 ac bZ IQ
  (fun os started H enc _ F=>by rw[OpenClaim.pre_eq_preRow];exact AE os started H enc F)
end Go.Proofs.YtllgjklcpieanaaGreatDoor
#print axioms Go.Proofs.YtllgjklcpieanaaGreatDoor.clausalSpinesProved
