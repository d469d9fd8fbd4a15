/- A part of the proof of clausalSpinesProved. -/
import Derived.Test.YtllgjklcpieanaaGreatDoorR10
import Derived.Test.YtllgjklcpieanaaGreatDoorProg
import Derived.KernelRfl
import Derived.Test.YtllgjklcpieanaaGreatDoorR11
import Derived.Test.YtllgjklcpieanaaGreatDoorR12
import Derived.Lib.Bytealg
set_option linter.unusedVariables false
set_option linter.unusedSimpArgs false
set_option maxRecDepth 100000
section
namespace Go.Vx
open Go.Proofs Go.RowKit
@[go_sem] theorem fa0:nC.underlying 186=some (.map 3 4):=by kernel_rfl
@[go_sem] theorem fa1:nC.underlying 3=some (.int .i64):=by kernel_rfl
@[go_sem] theorem fa2:Zy Tryz.prog 4=some (.bool false):=by kernel_rfl
@[go_sem] theorem fa3:nC.underlying 185=some (.map 3 4):=by kernel_rfl
@[go_sem] theorem fa4:nC.underlying 149=some (.map 3 152):=by kernel_rfl
@[go_sem] theorem fa5:Zy Tryz.prog 152=some (.agg #[(.bool false),(.int .i64 0),(.int .i64 0),(.int .i64 0),(.string ⟨#[]⟩),(.slice none 0 0)]):=by kernel_rfl
@[go_sem] theorem fa6:nC.underlying 22=some (.slice 54):=by kernel_rfl
@[go_sem] theorem fa7:Yf Tryz.prog 22=some 54:=by kernel_rfl
@[go_sem] theorem fa8:ZB Tryz.prog 54=some 2:=by kernel_rfl
@[go_sem] theorem fa9:Zy Tryz.prog 54=some (.agg #[(.string ⟨#[]⟩),(.slice none 0 0)]):=by kernel_rfl
@[go_sem] theorem AY:ZY Tryz.prog 54=some 40:=by kernel_rfl
@[go_sem] theorem cx:nC.underlying 47=some (.slice 75):=by kernel_rfl
@[go_sem] theorem AX:Yf Tryz.prog 47=some 75:=by kernel_rfl
@[go_sem] theorem bU:ZB Tryz.prog 75=some 2:=by kernel_rfl
@[go_sem] theorem cw:Zy Tryz.prog 75=some (.agg #[(.slice none 0 0),(.slice none 0 0)]):=by kernel_rfl
@[go_sem] theorem cu:ZY Tryz.prog 75=some 48:=by kernel_rfl
@[go_sem] theorem PQ:nC.underlying 141=some (.map 3 3):=by kernel_rfl
@[go_sem] theorem Bc:Zy Tryz.prog 3=some (.int .i64 0):=by kernel_rfl
@[go_sem] theorem bT:nC.underlying 316=some (.map 9 54):=by kernel_rfl
@[go_sem] theorem AW:nC.underlying 9=some .string:=by kernel_rfl
@[go_sem] theorem cr:nC.underlying 315=some (.map 9 4):=by kernel_rfl
@[go_sem] theorem bR:nC.underlying 317=some (.map 9 92):=by kernel_rfl
@[go_sem] theorem cq:Zy Tryz.prog 92=some (.agg #[(.string ⟨#[]⟩),(.slice none 0 0),(.int .i64 0),(.slice none 0 0)]):=by kernel_rfl
@[go_sem] theorem fz0:(ZG Tryz.prog 49 0=some 0)/\(ZB Tryz.prog 47=some 1)/\(ZF Tryz.prog 47=some false)/\(ZB Tryz.prog 49=some 2)/\(ZF Tryz.prog 49=some true)/\(ZG Tryz.prog 49 1=some 1)/\(ZB Tryz.prog 23=some 1)/\(ZF Tryz.prog 23=some false)/\(Yf Tryz.prog 23=some 3)/\(ZB Tryz.prog 3=some 1)/\(ZF Tryz.prog 3=some false)/\(ZG Tryz.prog 75 0=some 0)/\(ZB Tryz.prog 22=some 1)/\(ZF Tryz.prog 22=some false)/\(ZF Tryz.prog 75=some true)/\(ZG Tryz.prog 75 1=some 1)/\(ZB Tryz.prog 73=some 1)/\(ZF Tryz.prog 73=some false)/\(Yf Tryz.prog 73=some 28)/\(ZB Tryz.prog 28=some 7)/\(ZF Tryz.prog 28=some true)/\(Zy Tryz.prog 28=some (.agg #[(.slice none 0 0),(.slice none 0 0),(.slice none 0 0),(.string ⟨#[]⟩),(.slice none 0 0),(.slice none 0 0),(.slice none 0 0)]))/\(ZG Tryz.prog 28 2=some 2)/\(Yf Tryz.prog 134=some 23)/\(Zy Tryz.prog 23=some (.slice none 0 0))/\(nC.underlying 23=some (.slice 3))/\(nC.underlying 73=some (.slice 28))/\(ZY Tryz.prog 23=some 24)/\(ZG Tryz.prog 28 3=some 3)/\(ZB Tryz.prog 9=some 1)/\(ZF Tryz.prog 9=some false)/\(Zy Tryz.prog 63=some (.agg #[(.int .i64 0),(.int .i64 0)]))/\(Ys Tryz.prog 63=some [(0,1),(1,1)])/\(Yf Tryz.prog 64=some 63)/\(ZB Tryz.prog 63=some 2)/\(ZY Tryz.prog 63=some 16)/\(nC.underlying 134=some (.slice 23))/\(Zy Tryz.prog 1=some .nilFunc)/\(ZB Tryz.prog 1=some 1)/\(Zy Tryz.prog 181=some .nilFunc):=by
  and_intros<;>kernel_rfl
@[go_sem] theorem fz1:(ZB Tryz.prog 181=some 1)/\(Zy Tryz.prog 119=some .nilFunc)/\(ZB Tryz.prog 119=some 1)/\(ZF Tryz.prog 1=some false)/\(ZG Tryz.prog 28 4=some 4)/\(ZB Tryz.prog 24=some 1)/\(ZF Tryz.prog 24=some false)/\(Yf Tryz.prog 24=some 99)/\(ZB Tryz.prog 99=some 4)/\(ZF Tryz.prog 99=some true)/\(Zy Tryz.prog 99=some (.agg #[(.int .i64 0),(.int .i64 0),(.string ⟨#[]⟩),(.slice none 0 0)]))/\(ZF Tryz.prog 181=some false)/\(ZG Tryz.prog 28 5=some 5)/\(ZB Tryz.prog 25=some 1)/\(ZF Tryz.prog 25=some false)/\(Yf Tryz.prog 25=some 82)/\(ZB Tryz.prog 82=some 9)/\(ZF Tryz.prog 82=some true)/\(Zy Tryz.prog 82=some (.agg #[(.int .i64 0),(.string ⟨#[]⟩),(.slice none 0 0),(.string ⟨#[]⟩),(.slice none 0 0),(.slice none 0 0),(.int .i64 0),(.int .i64 0),(.slice none 0 0)]))/\(ZF Tryz.prog 119=some false)/\(nC.underlying 24=some (.slice 99))/\(nC.underlying 25=some (.slice 82))/\(ZG Tryz.prog 99 3=some 3)/\(ZG Tryz.prog 82 2=some 2)/\(ZG Tryz.prog 82 4=some 5)/\(ZG Tryz.prog 28 0=some 0)/\(ZG Tryz.prog 28 1=some 1)/\(ZG Tryz.prog 28 6=some 6)/\(ZB Tryz.prog 26=some 1)/\(ZF Tryz.prog 26=some false)/\(Zy Tryz.prog 189=some (.agg #[(.slice none 0 0),(.slice none 0 0),(.int .i64 0),(.slice none 0 0),(.int .i64 0),(.int .i64 0)]))/\(Ys Tryz.prog 189=some [(0,2),(2,1),(3,1),(4,1),(5,1)])/\(Yf Tryz.prog 26=some 4)/\(ZB Tryz.prog 4=some 1)/\(ZF Tryz.prog 4=some false)/\(nC.underlying 4=some .bool)/\(ZG Tryz.prog 189 4=some 5)/\(nC.underlying 26=some (.slice 4))/\(ZG Tryz.prog 82 0=some 0)/\(ZG Tryz.prog 82 1=some 1):=by
  and_intros<;>kernel_rfl
@[go_sem] theorem fz2:(ZG Tryz.prog 82 5=some 6)/\(ZG Tryz.prog 82 3=some 3)/\(ZG Tryz.prog 54 0=some 0)/\(ZG Tryz.prog 54 1=some 1)/\(ZG Tryz.prog 82 6=some 7)/\(ZG Tryz.prog 82 7=some 8)/\(ZG Tryz.prog 189 3=some 4)/\(ZG Tryz.prog 189 2=some 3)/\(ZF Tryz.prog 54=some true)/\(ZB Tryz.prog 186=some 1)/\(ZF Tryz.prog 186=some false)/\(ZG Tryz.prog 189 1=some 2)/\(ZG Tryz.prog 189 0=some 0)/\(Zy Tryz.prog 185=some (.map none))/\(ZB Tryz.prog 185=some 1)/\(ZG Tryz.prog 99 0=some 0)/\(ZF Tryz.prog 185=some false)/\(ZG Tryz.prog 99 1=some 1)/\(ZY Tryz.prog 3=some 8)/\(ZG Tryz.prog 99 2=some 2)/\(ZG Tryz.prog 169 1=some 1)/\(Yf Tryz.prog 308=some 169)/\(ZB Tryz.prog 169=some 3)/\(ZG Tryz.prog 169 0=some 0)/\(nC.underlying 308=some (.slice 169))/\(Zy Tryz.prog 169=some (.agg #[(.int .i64 0),(.string ⟨#[]⟩),(.int .i64 0)]))/\(Ys Tryz.prog 169=some [(0,1),(1,1),(2,1)])/\(Z7 (nC.underlying 20)=true)/\((nC.underlying 335).isSome=true)/\(Z7 (nC.underlying 335)=false)/\(Zy Tryz.prog 335=some (.agg #[(.int .i64 0),(.int .i64 0)]))/\(ZB Tryz.prog 335=some 2)/\(ZG Tryz.prog 335 0=some 0)/\(ZG Tryz.prog 335 1=some 1)/\(ZB Tryz.prog 32=some 1)/\(ZF Tryz.prog 32=some false)/\(ZB Tryz.prog 308=some 1)/\(Ys Tryz.prog 335=some [(0,1),(1,1)])/\(ZF Tryz.prog 169=some true)/\(Zy Tryz.prog 308=some (.slice none 0 0)):=by
  and_intros<;>kernel_rfl
@[go_sem] theorem fz3:(Zy Tryz.prog 32=some (.int .i64 0))/\(ZF Tryz.prog 308=some false)/\(ZY Tryz.prog 169=some 32)/\(Yf Tryz.prog 361=none)/\(nC.underlying 361=some (.array 256 4))/\(Zy Tryz.prog 9=some (.string ⟨#[]⟩))/\(Zy Tryz.prog 361=some (.agg #[(.bool false),(.bool false),(.bool false),(.bool false),(.bool false),(.bool false),(.bool false),(.bool false),(.bool false),(.bool false),(.bool false),(.bool false),(.bool false),(.bool false),(.bool false),(.bool false),(.bool false),(.bool false),(.bool false),(.bool false),(.bool false),(.bool false),(.bool false),(.bool false),(.bool false),(.bool false),(.bool false),(.bool false),(.bool false),(.bool false),(.bool false),(.bool false),(.bool false),(.bool false),(.bool false),(.bool false),(.bool false),(.bool false),(.bool false),(.bool false),(.bool false),(.bool false),(.bool false),(.bool false),(.bool false),(.bool false),(.bool false),(.bool false),(.bool false),(.bool false),(.bool false),(.bool false),(.bool false),(.bool false),(.bool false),(.bool false),(.bool false),(.bool false),(.bool false),(.bool false),(.bool false),(.bool false),(.bool false),(.bool false),(.bool false),(.bool false),(.bool false),(.bool false),(.bool false),(.bool false),(.bool false),(.bool false),(.bool false),(.bool false),(.bool false),(.bool false),(.bool false),(.bool false),(.bool false),(.bool false),(.bool false),(.bool false),(.bool false),(.bool false),(.bool false),(.bool false),(.bool false),(.bool false),(.bool false),(.bool false),(.bool false),(.bool false),(.bool false),(.bool false),(.bool false),(.bool false),(.bool false),(.bool false),(.bool false),(.bool false),(.bool false),(.bool false),(.bool false),(.bool false),(.bool false),(.bool false),(.bool false),(.bool false),(.bool false),(.bool false),(.bool false),(.bool false),(.bool false),(.bool false),(.bool false),(.bool false),(.bool false),(.bool false),(.bool false),(.bool false),(.bool false),(.bool false),(.bool false),(.bool false),(.bool false),(.bool false),(.bool false),(.bool false),(.bool false),(.bool false),(.bool false),(.bool false),(.bool false),(.bool false),(.bool false),(.bool false),(.bool false),(.bool false),(.bool false),(.bool false),(.bool false),(.bool false),(.bool false),(.bool false),(.bool false),(.bool false),(.bool false),(.bool false),(.bool false),(.bool false),(.bool false),(.bool false),(.bool false),(.bool false),(.bool false),(.bool false),(.bool false),(.bool false),(.bool false),(.bool false),(.bool false),(.bool false),(.bool false),(.bool false),(.bool false),(.bool false),(.bool false),(.bool false),(.bool false),(.bool false),(.bool false),(.bool false),(.bool false),(.bool false),(.bool false),(.bool false),(.bool false),(.bool false),(.bool false),(.bool false),(.bool false),(.bool false),(.bool false),(.bool false),(.bool false),(.bool false),(.bool false),(.bool false),(.bool false),(.bool false),(.bool false),(.bool false),(.bool false),(.bool false),(.bool false),(.bool false),(.bool false),(.bool false),(.bool false),(.bool false),(.bool false),(.bool false),(.bool false),(.bool false),(.bool false),(.bool false),(.bool false),(.bool false),(.bool false),(.bool false),(.bool false),(.bool false),(.bool false),(.bool false),(.bool false),(.bool false),(.bool false),(.bool false),(.bool false),(.bool false),(.bool false),(.bool false),(.bool false),(.bool false),(.bool false),(.bool false),(.bool false),(.bool false),(.bool false),(.bool false),(.bool false),(.bool false),(.bool false),(.bool false),(.bool false),(.bool false),(.bool false),(.bool false),(.bool false),(.bool false),(.bool false),(.bool false),(.bool false),(.bool false),(.bool false),(.bool false),(.bool false),(.bool false),(.bool false),(.bool false),(.bool false),(.bool false),(.bool false),(.bool false),(.bool false),(.bool false)]))/\(ZB Tryz.prog 361=some 256)/\(Yf Tryz.prog 40=some 9)/\(ZF Tryz.prog 361=some true)/\(nC.underlying 40=some (.slice 9))/\(Yf Tryz.prog 55=some 57)/\(ZB Tryz.prog 57=some 6)/\(ZF Tryz.prog 57=some true)/\(nC.underlying 55=some (.slice 57))/\(Yf Tryz.prog 42=some 92)/\(ZB Tryz.prog 92=some 4)/\(ZF Tryz.prog 92=some true)/\(nC.underlying 42=some (.slice 92))/\(Yf Tryz.prog 44=some 79)/\(ZB Tryz.prog 79=some 8)/\(ZF Tryz.prog 79=some true)/\(nC.underlying 44=some (.slice 79))/\((nC.underlying 256).isSome=true)/\(Z7 (nC.underlying 256)=false)/\(Zy Tryz.prog 256=some (.agg #[(.int .i64 0)]))/\(ZB Tryz.prog 256=some 1)/\(ZG Tryz.prog 256 0=some 0)/\(Ys Tryz.prog 256=some [(0,1)])/\((nC.underlying 163).isSome=true)/\(Z7 (nC.underlying 163)=false)/\(Zy Tryz.prog 163=some (.agg #[(.int .i64 0)]))/\(ZB Tryz.prog 163=some 1)/\(ZG Tryz.prog 163 0=some 0)/\(Ys Tryz.prog 163=some [(0,1)])/\(ZB Tryz.prog 204=some 1)/\(ZF Tryz.prog 204=some false)/\(ZB Tryz.prog 284=some 1)/\(ZF Tryz.prog 284=some false)/\(Zy Tryz.prog 284=some .nilFunc):=by
  and_intros<;>kernel_rfl
@[go_sem] theorem fz4:(ZB Tryz.prog 312=some 1)/\(ZF Tryz.prog 312=some false)/\(Zy Tryz.prog 312=some .nilFunc)/\(ZB Tryz.prog 243=some 1)/\(ZF Tryz.prog 243=some false)/\(ZB Tryz.prog 306=some 1)/\(ZF Tryz.prog 306=some false)/\(Zy Tryz.prog 306=some .nilFunc)/\(ZB Tryz.prog 294=some 1)/\(ZF Tryz.prog 294=some false)/\(Zy Tryz.prog 294=some .nilFunc)/\(Zy Tryz.prog 46=some (.agg #[(.slice none 0 0),(.slice none 0 0),(.slice none 0 0),(.slice none 0 0),(.slice none 0 0)]))/\(Ys Tryz.prog 46=some [(0,1),(1,1),(2,1),(3,1),(4,1)])/\(ZG Tryz.prog 46 0=some 0)/\(ZB Tryz.prog 40=some 1)/\(ZF Tryz.prog 40=some false)/\(ZB Tryz.prog 244=some 1)/\(ZF Tryz.prog 244=some false)/\(Zy Tryz.prog 244=some .nilFunc)/\(Zy Tryz.prog 36=some (.agg #[(.slice none 0 0),(.int .i64 0)]))/\(ZB Tryz.prog 36=some 2)/\(ZG Tryz.prog 36 1=some 1)/\(ZG Tryz.prog 36 0=some 0)/\(ZB Tryz.prog 31=some 1)/\(ZF Tryz.prog 31=some false)/\(Zy Tryz.prog 57=some (.agg #[(.int .i64 0),(.string ⟨#[]⟩),(.slice none 0 0),(.string ⟨#[]⟩),(.slice none 0 0),(.slice none 0 0)]))/\(Ys Tryz.prog 99=some [(0,1),(1,1),(2,1),(3,1)])/\(Ys Tryz.prog 57=some [(0,1),(1,1),(2,1),(3,2),(5,1)])/\(Ys Tryz.prog 54=some [(0,1),(1,1)])/\(Ys Tryz.prog 92=some [(0,1),(1,1),(2,1),(3,1)])/\(ZB Tryz.prog 46=some 5)/\(Zy Tryz.prog 59=some (.agg #[(.string ⟨#[]⟩),(.int .i64 0),(.string ⟨#[]⟩),(.slice none 0 0),(.string ⟨#[]⟩),(.slice none 0 0),(.slice none 0 0),(.int .i64 0)]))/\(Ys Tryz.prog 59=some [(0,1),(1,6),(7,1)])/\(Yf Tryz.prog 43=some 59)/\(ZB Tryz.prog 59=some 8)/\(ZG Tryz.prog 46 3=some 3)/\(ZB Tryz.prog 43=some 1)/\(ZF Tryz.prog 46=some true)/\(Zy Tryz.prog 49=some (.agg #[(.slice none 0 0),(.slice none 0 0)]))/\(ZG Tryz.prog 57 0=some 0):=by
  and_intros<;>kernel_rfl
@[go_sem] theorem fz5:(ZG Tryz.prog 57 2=some 2)/\(ZF Tryz.prog 63=some true)/\(eqT Tryz.prog 63=some [0,0])/\(nC.underlying 64=some (.slice 63))/\(Zy Tryz.prog 149=some (.map none))/\(ZB Tryz.prog 149=some 1)/\(ZF Tryz.prog 149=some false)/\(Ys Tryz.prog 152=some [(0,1),(1,1),(2,4)])/\(ZB Tryz.prog 156=some 1)/\(ZF Tryz.prog 156=some false)/\(ZB Tryz.prog 154=some 1)/\(ZF Tryz.prog 154=some false)/\(Zy Tryz.prog 207=some (.agg #[(.slice none 0 0),(.slice none 0 0),(.int .i64 0),(.bool false)]))/\(Ys Tryz.prog 207=some [(0,2),(2,1),(3,1)])/\(Zy Tryz.prog 154=some (.pointer none))/\(ZG Tryz.prog 207 2=some 3)/\(ZG Tryz.prog 57 4=some 5)/\(ZB Tryz.prog 55=some 1)/\(ZF Tryz.prog 55=some false)/\(ZG Tryz.prog 207 0=some 0)/\(Zy Tryz.prog 211=some (.agg #[(.pointer none),(.int .i64 0),(.int .i64 0),(.int .i64 0),(.int .i64 0)]))/\(Ys Tryz.prog 211=some [(0,1),(1,1),(2,1),(3,1),(4,1)])/\(Yf Tryz.prog 208=some 211)/\(ZB Tryz.prog 211=some 5)/\(ZY Tryz.prog 211=some 40)/\(ZF Tryz.prog 211=some true)/\(ZG Tryz.prog 211 2=some 2)/\(ZG Tryz.prog 211 0=some 0)/\(ZB Tryz.prog 209=some 1)/\(ZF Tryz.prog 209=some false)/\(ZG Tryz.prog 211 3=some 3)/\(ZG Tryz.prog 211 1=some 1)/\(ZG Tryz.prog 211 4=some 4)/\(nC.underlying 208=some (.slice 211))/\(ZG Tryz.prog 207 1=some 2)/\(ZB Tryz.prog 152=some 6)/\(ZG Tryz.prog 152 2=some 2)/\(ZG Tryz.prog 152 0=some 0)/\(ZG Tryz.prog 152 1=some 1)/\(ZY Tryz.prog 99=some 56):=by
  and_intros<;>kernel_rfl
@[go_sem] theorem fz6:(ZB Tryz.prog 108=some 1)/\(ZF Tryz.prog 108=some false)/\(ZG Tryz.prog 110 0=some 0)/\(Ys Tryz.prog 49=some [(0,1),(1,1)])/\(Zy Tryz.prog 110=some (.agg #[(.slice none 0 0),(.int .i64 0)]))/\(Ys Tryz.prog 110=some [(0,1),(1,1)])/\(Zy Tryz.prog 108=some (.pointer none))/\(ZF Tryz.prog 43=some false)/\(ZF Tryz.prog 59=some true)/\(ZG Tryz.prog 59 1=some 1)/\(Zy Tryz.prog 143=some (.agg #[(.slice none 0 0),(.map none)]))/\(Ys Tryz.prog 143=some [(0,1),(1,1)])/\(nC.underlying 43=some (.slice 59))/\(ZG Tryz.prog 140 0=some 0)/\(Ys Tryz.prog 82=some [(0,1),(1,1),(2,1),(3,2),(5,1),(6,1),(7,1),(8,1)])/\(ZG Tryz.prog 57 1=some 1)/\(ZB Tryz.prog 143=some 2)/\(ZF Tryz.prog 143=some true)/\(ZG Tryz.prog 140 1=some 1)/\(ZG Tryz.prog 57 3=some 3)/\(ZG Tryz.prog 140 2=some 2)/\(ZY Tryz.prog 82=some 152)/\(Ys Tryz.prog 75=some [(0,1),(1,1)])/\(ZG Tryz.prog 143 0=some 0)/\(ZG Tryz.prog 143 1=some 1)/\(ZB Tryz.prog 141=some 1)/\(ZF Tryz.prog 141=some false)/\(Zy Tryz.prog 222=some (.agg #[(.slice none 0 0),(.slice none 0 0),(.slice none 0 0),(.int .i64 0),(.string ⟨#[]⟩),(.slice none 0 0),(.string ⟨#[]⟩),(.slice none 0 0),(.slice none 0 0),(.slice none 0 0),(.map none)]))/\(Ys Tryz.prog 222=some [(0,1),(1,1),(2,1),(3,6),(9,2)])/\(Yf Tryz.prog 218=some 222)/\(ZB Tryz.prog 222=some 11)/\(ZF Tryz.prog 222=some true)/\(nC.underlying 218=some (.slice 222))/\(ZY Tryz.prog 28=some 160)/\(ZG Tryz.prog 222 1=some 1)/\(Yf Tryz.prog 174=some 22)/\(Zy Tryz.prog 22=some (.slice none 0 0))/\(Zy Tryz.prog 140=some (.agg #[(.pointer none),(.slice none 0 0),(.slice none 0 0)]))/\(Ys Tryz.prog 140=some [(0,1),(1,1),(2,1)])/\(ZG Tryz.prog 222 0=some 0):=by
  and_intros<;>kernel_rfl
@[go_sem] theorem fz7:(ZG Tryz.prog 222 3=some 3)/\(Ys Tryz.prog 28=some [(0,1),(1,1),(2,1),(3,1),(4,1),(5,1),(6,1)])/\(ZG Tryz.prog 222 2=some 2)/\(ZB Tryz.prog 220=some 1)/\(ZF Tryz.prog 220=some false)/\(Yf Tryz.prog 220=some 270)/\(ZB Tryz.prog 270=some 9)/\(ZF Tryz.prog 270=some true)/\(Zy Tryz.prog 270=some (.agg #[(.int .i64 0),(.string ⟨#[]⟩),(.slice none 0 0),(.string ⟨#[]⟩),(.slice none 0 0),(.slice none 0 0),(.slice none 0 0),(.map none),(.bool false)]))/\(ZG Tryz.prog 270 0=some 0)/\(ZG Tryz.prog 270 1=some 6)/\(ZG Tryz.prog 270 2=some 8)/\(ZG Tryz.prog 222 4=some 9)/\(nC.underlying 220=some (.slice 270))/\(ZY Tryz.prog 4=some 1)/\((nC.underlying 9).isSome=true)/\(Z7 (nC.underlying 9)=false)/\(nC.underlying 174=some (.slice 22))/\(ZB Tryz.prog 249=some 1)/\(ZF Tryz.prog 249=some false)/\(ZB Tryz.prog 234=some 1)/\(ZF Tryz.prog 234=some false)/\(ZB Tryz.prog 176=some 1)/\(ZF Tryz.prog 176=some false)/\(Zy Tryz.prog 234=some .nilFunc)/\(Zy Tryz.prog 176=some .nilFunc)/\(Ys Tryz.prog 270=some [(0,6),(6,2),(8,1)])/\(ZY Tryz.prog 222=some 216)/\(ZY Tryz.prog 270=some 152)/\(ZG Tryz.prog 110 1=some 1)/\(ZB Tryz.prog 125=some 1)/\(ZF Tryz.prog 125=some true)/\(ZG Tryz.prog 59 2=some 7)/\(ZG Tryz.prog 46 2=some 2)/\(ZB Tryz.prog 42=some 1)/\(ZF Tryz.prog 42=some false)/\(Zy Tryz.prog 125=some (.agg #[(.slice none 0 0)]))/\(Ys Tryz.prog 125=some [(0,1)])/\(ZG Tryz.prog 46 4=some 4)/\(ZB Tryz.prog 44=some 1):=by
  and_intros<;>kernel_rfl
@[go_sem] theorem fz8:(ZF Tryz.prog 44=some false)/\(Zy Tryz.prog 79=some (.agg #[(.string ⟨#[]⟩),(.slice none 0 0),(.int .i64 0),(.string ⟨#[]⟩),(.slice none 0 0),(.string ⟨#[]⟩),(.slice none 0 0),(.slice none 0 0)]))/\(ZG Tryz.prog 79 2=some 2)/\(Zy Tryz.prog 179=some (.agg #[.nilFunc,.nilFunc,.nilFunc,.nilFunc,.nilFunc]))/\(Ys Tryz.prog 179=some [(0,1),(1,1),(2,1),(3,1),(4,1)])/\(nC.underlying 179=some (.array 5 178))/\(ZB Tryz.prog 178=some 1)/\(ZF Tryz.prog 178=some false)/\(Uc (nC.underlying 178)=true)/\(ZY Tryz.prog 57=some 112)/\(Zy Tryz.prog 346=some (.agg #[(.slice none 0 0)]))/\(ZG Tryz.prog 346 0=some 0)/\(ZG Tryz.prog 92 0=some 0)/\(ZG Tryz.prog 125 0=some 0)/\(ZG Tryz.prog 92 2=some 2)/\(Zy Tryz.prog 278=some (.agg #[(.int .i64 0),(.int .i64 0),(.int .i64 0),(.int .i64 0),(.int .i64 0),(.int .i64 0),(.int .i64 0),(.int .i64 0),(.int .i64 0),(.int .i64 0),(.int .i64 0),(.int .i64 0),(.int .i64 0)]))/\(Ys Tryz.prog 278=some [(0,1),(1,1),(2,1),(3,1),(4,1),(5,1),(6,1),(7,1),(8,1),(9,1),(10,1),(11,1),(12,1)])/\(ZB Tryz.prog 278=some 13)/\(Yf Tryz.prog 278=none)/\(nC.underlying 278=some (.array 13 3))/\(ZG Tryz.prog 229 0=some 0)/\(Zy Tryz.prog 231=some (.agg #[]))/\(Ys Tryz.prog 231=some [])/\((nC.underlying 231).isSome=true)/\(Z7 (nC.underlying 231)=false)/\(ZB Tryz.prog 231=some 0)/\(Zy Tryz.prog 229=some (.agg #[(.int .i64 0)]))/\(Ys Tryz.prog 229=some [(0,1)])/\(ZB Tryz.prog 295=some 1)/\(ZF Tryz.prog 295=some false)/\(Zy Tryz.prog 330=some (.agg #[(.string ⟨#[]⟩),(.slice none 0 0),(.bool false)]))/\(Ys Tryz.prog 330=some [(0,2),(2,1)])/\(ZG Tryz.prog 320 4=some 4)/\(ZB Tryz.prog 318=some 1)/\(ZF Tryz.prog 318=some false)/\(Yf Tryz.prog 318=some 330)/\(ZB Tryz.prog 330=some 3)/\(ZF Tryz.prog 330=some true)/\(ZG Tryz.prog 330 1=some 2)/\(ZG Tryz.prog 330 0=some 0):=by
  and_intros<;>kernel_rfl
@[go_sem] theorem fz9:(nC.underlying 318=some (.slice 330))/\(ZG Tryz.prog 320 1=some 1)/\(ZB Tryz.prog 316=some 1)/\(ZF Tryz.prog 316=some false)/\(ZG Tryz.prog 320 3=some 3)/\(ZB Tryz.prog 77=some 1)/\(ZF Tryz.prog 77=some false)/\(Yf Tryz.prog 77=some 145)/\(ZB Tryz.prog 145=some 3)/\(ZG Tryz.prog 145 1=some 1)/\(nC.underlying 77=some (.slice 145))/\(ZY Tryz.prog 330=some 48)/\(ZG Tryz.prog 320 0=some 0)/\(ZB Tryz.prog 315=some 1)/\(ZF Tryz.prog 315=some false)/\(ZG Tryz.prog 92 1=some 1)/\(ZG Tryz.prog 79 1=some 1)/\(ZG Tryz.prog 46 1=some 1)/\(ZB Tryz.prog 41=some 1)/\(ZF Tryz.prog 41=some false)/\(nC.underlying 41=some (.slice 313))/\(ZF Tryz.prog 145=some true)/\(Zy Tryz.prog 145=some (.agg #[(.string ⟨#[]⟩),(.string ⟨#[]⟩),(.slice none 0 0)]))/\(Yf Tryz.prog 41=some 313)/\(ZB Tryz.prog 313=some 3)/\(ZF Tryz.prog 313=some true)/\(Zy Tryz.prog 313=some (.agg #[(.string ⟨#[]⟩),(.string ⟨#[]⟩),(.slice none 0 0)]))/\(ZG Tryz.prog 313 1=some 1)/\(Zy Tryz.prog 295=some (.pointer none))/\(ZG Tryz.prog 59 0=some 0)/\(ZG Tryz.prog 79 0=some 0)/\(Zy Tryz.prog 320=some (.agg #[(.map none),(.map none),(.map none),(.slice none 0 0),(.slice none 0 0)]))/\(Ys Tryz.prog 320=some [(0,1),(1,1),(2,1),(3,1),(4,1)])/\(ZG Tryz.prog 313 0=some 0)/\(ZG Tryz.prog 320 2=some 2)/\(ZB Tryz.prog 317=some 1)/\(ZF Tryz.prog 317=some false)/\(ZG Tryz.prog 145 0=some 0)/\(ZG Tryz.prog 92 3=some 3)/\(ZY Tryz.prog 9=some 16):=by
  and_intros<;>kernel_rfl
@[go_sem] theorem cE:(Yf Tryz.prog 293=some 291)/\(ZB Tryz.prog 291=some 1)/\(Zy Tryz.prog 291=some .nilFunc)/\(ZF Tryz.prog 291=some false)/\(nC.underlying 293=some (.slice 291))/\(Yf Tryz.prog 31=some 101)/\(ZB Tryz.prog 101=some 6)/\(ZG Tryz.prog 101 0=some 0)/\(ZG Tryz.prog 101 1=some 1)/\(ZG Tryz.prog 101 2=some 5)/\(ZB Tryz.prog 29=some 1)/\(ZF Tryz.prog 29=some false)/\(nC.underlying 31=some (.slice 101))/\(Yf Tryz.prog 29=some 104)/\(ZB Tryz.prog 104=some 10)/\(ZF Tryz.prog 104=some true)/\(Zy Tryz.prog 104=some (.agg #[(.int .i64 0),(.int .i64 0),(.slice none 0 0),(.int .i64 0),(.int .i64 0),(.string ⟨#[]⟩),(.slice none 0 0),(.slice none 0 0),(.slice none 0 0),(.slice none 0 0)]))/\(ZG Tryz.prog 104 0=some 0)/\(ZG Tryz.prog 104 1=some 1)/\(ZG Tryz.prog 104 2=some 2)/\(ZG Tryz.prog 104 3=some 3)/\(ZG Tryz.prog 104 4=some 7)/\(ZG Tryz.prog 104 6=some 9)/\(ZG Tryz.prog 104 5=some 8)/\(ZB Tryz.prog 102=some 1)/\(ZF Tryz.prog 102=some false)/\(Yf Tryz.prog 102=some 158)/\(ZB Tryz.prog 158=some 3)/\(ZG Tryz.prog 158 0=some 0)/\(ZG Tryz.prog 158 1=some 1)/\(ZG Tryz.prog 158 2=some 2)/\(nC.underlying 29=some (.slice 104))/\(nC.underlying 102=some (.slice 158))/\(Zy Tryz.prog 101=some (.agg #[(.int .i64 0),(.int .i64 0),(.int .i64 0),(.string ⟨#[]⟩),(.slice none 0 0),(.slice none 0 0)]))/\(Ys Tryz.prog 101=some [(0,1),(1,4),(5,1)])/\(ZF Tryz.prog 101=some true)/\(ZY Tryz.prog 101=some 88)/\(Ys Tryz.prog 36=some [(0,1),(1,1)])/\(ZF Tryz.prog 36=some true):=by
  and_intros<;>kernel_rfl
open Go.Proofs
def Pur(P:nE)(k:nL)(args:List AV)(v:AV):Prop:=∀ σ,Zh P k args σ (ZP v σ)
theorem Pur.use{P:nE}{k:nL}{args:List AV}{v:AV}{σ:Store}{K:ZE->Store->Prop}(h:Pur P k args v)(hk:K (.ret v) σ):Zh P k args σ K :=
 (h σ).mono fun r σ' ⟨e,e'⟩=>by rw[e,e'];exact hk
theorem Pur.head{P:nE}{k:nL}{args:List AV}{v:AV}{σ:Store}{K:AV->Prop}(h:Pur P k args v)(hk:K v):OU P (.val (.func (.func k) ⟨[]⟩ ⟨[]⟩)) args σ K :=
 ⟨v,fun σ' _=>by rw[Z4];simpa using h σ',hk⟩
theorem Zz{v v':AV}{σ σ':Store}(h:Wk v v')(s:Sub σ' σ):Tw (ZP v' σ') v σ:=.mk h s ⟨rfl,rfl⟩
theorem Zs{b b':Bool}{σ:Store}(h:b=b'):Tw (ZP (.val (.bool b')) σ) (.val (.bool b)) σ:=by rw[h];exact .mk (.refl _) (.refl _) ⟨rfl,rfl⟩
theorem Us{n n':Int}{σ:Store}(h:n=n'):Tw (ZP (.val (.int .i64 n')) σ) (.val (.int .i64 n)) σ:=by rw[h];exact .mk (.refl _) (.refl _) ⟨rfl,rfl⟩
theorem Zl{v:AV}{σ:Store}:Tw (ZP v σ) v σ:=.mk (.refl _) (.refl _) ⟨rfl,rfl⟩
def Yx(e:Int):nG:=.iface 256 (.agg #[.int .i64 e])
theorem Az(e:Int):Pur nC 129 [.val (.bool true),.val (.int .i64 e)] (.tup []):=by
 intro σ
 refine Zb [] [] Tryz.func129 rfl xy ?_;rw[Tryz.ntmps129,Tryz.results129]
 exact oG
theorem AA(e:Int)(σ:Store):Zh nC 129 [.val (.bool false),.val (.int .i64 e)] σ (fun r σ'=>r=.pan (Yx e)/\σ'=σ):=by
 refine Zb [] [] Tryz.func129 rfl xy ?_;rw[Tryz.ntmps129,Tryz.results129]
 refine uw ?_
 exact .mk (.refl _) ⟨rfl,rfl⟩
theorem VJ{b:Bool}{e:Int}{σ:Store}{K:ZE->Store->Prop}(h1:b=true->K (.ret (.tup [])) σ)(h2:b=false->K (.pan (Yx e)) σ):Zh nC 129 [.val (.bool b),.val (.int .i64 e)] σ K:=by
 cases b with
 | true=>exact(Az e).use (h1 rfl)
 | false=>exact(AA e σ).mono (by rintro r _ ⟨rfl,rfl⟩;exact h2 rfl)
theorem PN(b:Nat)(e:Int)(σ:Store)(hb:σ.get b=some (.cells [.val (.int .i64 e)]))(K:Store->Prop)(hK:K σ):Vl nC 189 [.pointer (some ⟨b,0,none⟩)] .returning .returning σ K:=by
 refine Tj [] [] .none Tryz.func189 rfl 4 rfl xy ?_
 rw[Tryz.ntmps189]
 exact rE
theorem PM(b:Nat)(e e':Int)(σ:Store)(hb:σ.get b=some (.cells [.val (.int .i64 e)]))(K:Store->Prop)(hK:K (σ.set b (.cells [.val (.int .i64 e')]))) :
 Vl nC 189 [.pointer (some ⟨b,0,none⟩)] (.panicking [{ v:=Yx e',recovered:=false }]) (.panicking [{ v:=Yx e',recovered:=true }]) σ K:=by
 refine Tj [2] [] (.some _) Tryz.func189 rfl 4 rfl xy ?_
 rw[Tryz.ntmps189]
 try simp only[go_sem,seval,Yx]
 exact sU
theorem Tb(f:nG)(σ:Store)(R:ZE->Store->Prop)
 (h:∀ b,Zm σ b->ZH nC (.val f) [] ((b,.cells [.val (.int .i64 0)])::σ) (fun r σ'=>∃ σ1,σ'=(b,.cells [.val (.int .i64 0)])::σ1/\match r with|.ret _=>R (.ret (.val (.int .i64 0))) σ1|.pan pv=>∃ e,pv=Yx e/\R (.ret (.val (.int .i64 e))) σ1)) :
 Zh nC 126 [.val f] σ R:=by
 refine XF Tryz.func126 rfl xy ?_
 rw[Tryz.ntmps126,Tryz.results126]
 refine vu ?_
 refine uw ?_
 intro b hb
 simp only[ZW]
 refine vQ ?_
 refine uw ?_
 refine wy ?_
 simp only[ZW]
 refine uC ?_
 refine uw ?_
 refine(h b hb).mono ?_
 rintro r _ ⟨σ1,rfl,hr⟩
 cases r with
 | ret v =>
   refine uw ?_
   simp only[WY]
   refine wy ?_
   refine PN b 0 _ xY _ ?_
   exact qY
 | pan pv =>
   obtain⟨e,rfl,hr⟩:=hr
   refine uw ?_
   simp only[U9]
   refine⟨_,_,_,rfl,rfl,?_⟩
   refine PM b 0 e _ xY _ ?_
   exact qY
def Y5(e:Int):nG:=.iface 163 (.agg #[.int .i64 e])
theorem Bl(e:Int):Pur nC 102 [.val (.bool true),.val (.int .i64 e)] (.tup []):=by
 intro σ
 refine Zb [] [] Tryz.func102 rfl xy ?_;rw[Tryz.ntmps102,Tryz.results102]
 exact oG
theorem Bm(e:Int)(σ:Store):Zh nC 102 [.val (.bool false),.val (.int .i64 e)] σ (fun r σ'=>r=.pan (Y5 e)/\σ'=σ):=by
 refine Zb [] [] Tryz.func102 rfl xy ?_;rw[Tryz.ntmps102,Tryz.results102]
 refine uw ?_
 exact .mk (.refl _) ⟨rfl,rfl⟩
theorem VR{b:Bool}{e:Int}{σ:Store}{K:ZE->Store->Prop}(h1:b=true->K (.ret (.tup [])) σ)(h2:b=false->K (.pan (Y5 e)) σ):Zh nC 102 [.val (.bool b),.val (.int .i64 e)] σ K:=by
 cases b with
 | true=>exact(Bl e).use (h1 rfl)
 | false=>exact(Bm e σ).mono (by rintro r _ ⟨rfl,rfl⟩;exact h2 rfl)
theorem UT(b:Nat)(e:Int)(σ:Store)(hb:σ.get b=some (.cells [.val (.int .i64 e)]))(K:Store->Prop)(hK:K σ):Vl nC 76 [.pointer (some ⟨b,0,none⟩)] .returning .returning σ K:=by
 refine Tj [] [] .none Tryz.func76 rfl 4 rfl xy ?_
 rw[Tryz.ntmps76]
 exact rE
theorem US(b:Nat)(e e':Int)(σ:Store)(hb:σ.get b=some (.cells [.val (.int .i64 e)]))(K:Store->Prop)(hK:K (σ.set b (.cells [.val (.int .i64 e')]))) :
 Vl nC 76 [.pointer (some ⟨b,0,none⟩)] (.panicking [{ v:=Y5 e',recovered:=false }]) (.panicking [{ v:=Y5 e',recovered:=true }]) σ K:=by
 refine Tj [2] [] (.some _) Tryz.func76 rfl 4 rfl xy ?_
 rw[Tryz.ntmps76]
 try simp only[go_sem,seval,Y5]
 exact sU
theorem Jc(f:nG)(σ:Store)(R:ZE->Store->Prop)
 (h:∀ b,Zm σ b->ZH nC (.val f) [] ((b,.cells [.val (.int .i64 0)])::σ) (fun r σ'=>∃ σ1,σ'=(b,.cells [.val (.int .i64 0)])::σ1/\match r with|.ret _=>R (.ret (.val (.int .i64 0))) σ1|.pan pv=>∃ e,pv=Y5 e/\R (.ret (.val (.int .i64 e))) σ1)) :
 Zh nC 38 [.val f] σ R:=by
 refine XF Tryz.func38 rfl xy ?_
 rw[Tryz.ntmps38,Tryz.results38]
 refine vu ?_
 refine uw ?_
 intro b hb
 simp only[ZW]
 refine vQ ?_
 refine uw ?_
 refine wy ?_
 simp only[ZW]
 refine uC ?_
 refine uw ?_
 refine(h b hb).mono ?_
 rintro r _ ⟨σ1,rfl,hr⟩
 cases r with
 | ret v =>
   refine uw ?_
   simp only[WY]
   refine wy ?_
   refine UT b 0 _ xY _ ?_
   exact qY
 | pan pv =>
   obtain⟨e,rfl,hr⟩:=hr
   refine uw ?_
   simp only[U9]
   refine⟨_,_,_,rfl,rfl,?_⟩
   refine US b 0 e _ xY _ ?_
   exact qY
open Go.Proofs
theorem PL(s:ByteArray)(c:Int)(σ:Store):Ext nC 333 [.val (.string s),.val (.int .u8 c)] σ (.val (.int .i64 (Lib.indexByte s.data.toList c.toNat.toUInt8))):=by
 intro w vs hσ hv
 have h0:=hv.1
 have hvs:vs=#[.string s,.int .u8 c]:=by
  apply Array.ext'
  match vs,hv with
  | ⟨[x,y]⟩,hv =>
    have h1:=hv.2 0 _ x rfl rfl
    have h2:=hv.2 1 _ y rfl rfl
    cases h1;cases h2;rfl
  | ⟨[]⟩,hv=>exact absurd hv.1 xf
  | ⟨[_]⟩,hv=>exact absurd hv.1 xf
  | ⟨_::_::_::_⟩,hv=>exact absurd hv.1 xf
 subst hvs
 refine⟨_,?_,.val _⟩
 rw[run_callFunc_extern (fn:=Tryz.f333) (by rfl) xy xy xy (e:=Extern.BytealgIndexByte.indexByte) xy,Lib.run_indexByteString]
 rfl
theorem RY(s:ByteArray)(c:Int):Pur nC 329 [vs s,.val (.int .u8 c)] (vi (Lib.indexByte s.data.toList c.toNat.toUInt8)):=by
 intro σ
 refine XF Tryz.func329 rfl xy ?_
 rw[Tryz.ntmps329,Tryz.results329]
 refine uA ?_
 refine uw ?_
 simp only[ZW]
 refine .seq (.of (AWp.ext (mu:=[]) (pre:=[_,_]) (post:=[_]) 333 [5,6] xy ?_))
 refine uw ?_
 refine⟨_,PL s c σ,?_⟩
 try simp only[go_sem,seval,ZW]
 refine uC ?_
 exact oG
theorem RK(s:ByteArray)(c:Int):Pur nC 316 [vs s,.val (.int .u8 c)] (vi (Lib.indexByte s.data.toList c.toNat.toUInt8)):=by
 intro σ
 refine Zb [] [] Tryz.func316 rfl xy ?_;rw[Tryz.ntmps316,Tryz.results316]
 refine uw ?_
 refine(RY s c).use ?_
 exact oG
open Go.Proofs
theorem JV(b:Int):Pur nC 320 [.val (.int .u8 b)] (vb (decide (97<=b/\b<=122))):=by
 intro σ
 refine Zb [] [] Tryz.func320 rfl xy ?_;rw[Tryz.ntmps320,Tryz.results320]
 exact th
theorem Gn(b:Int):Pur nC 322 [.val (.int .u8 b)] (vb (decide (65<=b/\b<=90))):=by
 intro σ
 refine Zb [] [] Tryz.func322 rfl xy ?_;rw[Tryz.ntmps322,Tryz.results322]
 exact th
def XB(s p:Str):Prop:=p.size<=s.size/\s.extract 0 p.size=p
instance (s p:Str):Decidable (XB s p):=by unfold XB;exact inferInstance
theorem NA(s p:Str):Pur nC 330 [vs s,vs p] (vb (decide (XB s p))):=by
 intro σ
 refine Zb [] [] Tryz.func330 rfl xy ?_;rw[Tryz.ntmps330,Tryz.results330]
 refine uw ?_
 refine⟨fun h=>⟨by omega,h,Zs ?_⟩,fun h=>Zs ?_⟩
 ·have:p.size<=s.size:=by omega
  simp[XB,this]
 ·have:¬ p.size<=s.size:=by omega
  simp[XB,this]
theorem Vt(s p:Str):Pur nC 323 [vs s,vs p] (vb (decide (XB s p))):=by
 intro σ
 refine Zb [] [] Tryz.func323 rfl xy ?_;rw[Tryz.ntmps323,Tryz.results323]
 refine uw ?_
 refine(NA s p).use ?_
 exact oG
end Go.Vx
end
