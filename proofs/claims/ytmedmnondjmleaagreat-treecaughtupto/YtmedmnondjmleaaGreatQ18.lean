/- Part Q18 of the proof of treeCaughtProved: the walk of the program on abstract values, and the plain law. -/
import Derived.Test.YtmedmnondjmleaaGreatQ14
import Derived.Test.YtmedmnondjmleaaGreatQ17
set_option linter.unusedVariables false
set_option linter.unusedSimpArgs false
set_option maxRecDepth 100000
namespace Go.Vx
open Go.Proofs
theorem tb273:(isIfaceB (Tryz.prog.underlying 20)=true)∧((Tryz.prog.underlying 313).isSome=true)∧(isIfaceB (Tryz.prog.underlying 313)=false)∧(zeroOf Tryz.prog 313=some (.agg #[(.int .i64 0),(.int .i64 0)]))∧(szOf Tryz.prog 313=some 2)∧(fOff Tryz.prog 313 0=some 0)∧(szOf Tryz.prog 3=some 1)∧(aggOf Tryz.prog 3=some false)∧(fOff Tryz.prog 313 1=some 1)∧(szOf Tryz.prog 40=some 1)∧(aggOf Tryz.prog 40=some false)∧(szOf Tryz.prog 307=some 1):=by
  refine ⟨?_,?_,?_,?_,?_,?_,?_,?_,?_,?_,?_,?_⟩<;>first | trivial | kernel_rfl
theorem tb274:(True):=by
  first | trivial | kernel_rfl
theorem tb275:(szOf Tryz.prog 9=some 1)∧(aggOf Tryz.prog 9=some false)∧(zeroOf Tryz.prog 203=some (.agg #[(.int .i64 0),(.string ⟨#[]⟩),(.int .i64 0)]))∧(szOf Tryz.prog 203=some 3)∧(zeroOf Tryz.prog 313=some (.agg #[(.int .i64 0),(.int .i64 0)]))∧(plsOf Tryz.prog 313=some [(0,1),(1,1)])∧((Tryz.prog.underlying 313).isSome=true)∧(isIfaceB (Tryz.prog.underlying 313)=false)∧(fOff Tryz.prog 203 0=some 0)∧(szOf Tryz.prog 3=some 1)∧(aggOf Tryz.prog 3=some false)∧(fOff Tryz.prog 203 1=some 1)∧(aggOf Tryz.prog 203=some true)∧(Tryz.prog.underlying 9=some .string):=by
  refine ⟨?_,?_,?_,?_,?_,?_,?_,?_,?_,?_,?_,?_,?_,?_⟩<;>first | trivial | kernel_rfl
theorem tb268:(zeroOf Tryz.prog 307=some (.slice none 0 0))∧(zeroOf Tryz.prog 3=some (.int .i64 0))∧(zeroOf Tryz.prog 40=some (.int .i64 0))∧(szOf Tryz.prog 307=some 1)∧(szOf Tryz.prog 3=some 1)∧(szOf Tryz.prog 40=some 1)∧(zeroOf Tryz.prog 203=some (.agg #[(.int .i64 0),(.string ⟨#[]⟩),(.int .i64 0)]))∧(szOf Tryz.prog 203=some 3)∧(aggOf Tryz.prog 307=some false)∧(aggOf Tryz.prog 203=some true)∧(elOf Tryz.prog 307=some 203)∧(aggOf Tryz.prog 3=some false)∧(aggOf Tryz.prog 40=some false)∧(Tryz.prog.underlying 9=some .string)∧(bytesOf Tryz.prog 203=some 32):=by
  refine ⟨?_,?_,?_,?_,?_,?_,?_,?_,?_,?_,?_,?_,?_,?_,?_⟩<;>first | trivial | kernel_rfl
def stopV (a e:Int):Value:=.iface 313 (.agg #[.int .i64 a,.int .i64 e])
theorem scan1_none (b2 b3 b4:Nat)(σ:Store)(K:Store→Prop)(hK:K σ):ADef Tryz.prog 273 [.pointer (some ⟨b2,0,none⟩),.pointer (some ⟨b3,0,none⟩),.pointer (some ⟨b4,0,none⟩)] .returning .returning σ K:=by
  refine adefW_of [] .none Tryz.func273 rfl 6 rfl (by kernel_rfl) ?_
  rw [Tryz.ntmps273]
  try simp only [go_sem,seval,tb273]
  refine .seq (avc_sound (mu:=[]) (dr:=[]) (by kernel_rfl) _ (by kernel_rfl) _ _ _ ?_)
  try simp only [go_sem,seval,tb273]
  refine .cond rfl false (by try simp only [go_sem,seval,tb273]) (fun h=>by cases h) (fun _=>.skip ?_)
  try simp only [go_sem,seval,tb273]
  exact ⟨_,.refl _,hK⟩
theorem scan1_some (b2 b3 b4:Nat)(a e:Int)(x2:AV)(x3 x4:AV)(σ:Store)(n23:b2≠b3)(n24:b2≠b4)(n34:b3≠b4)(g2:σ.get b2=some (.cells [x2]))(g3:σ.get b3=some (.cells [x3]))(g4:σ.get b4=some (.cells [x4]))(K:Store→Prop)
    (hK:K (((σ.set b2 (.cells [.list .full 0 []])).set b3 (.cells [vi a])).set b4 (.cells [vi e]))):ADef Tryz.prog 273 [.pointer (some ⟨b2,0,none⟩),.pointer (some ⟨b3,0,none⟩),.pointer (some ⟨b4,0,none⟩)] (.panicking [{ v:=stopV a e,recovered:=false }]) (.panicking [{ v:=stopV a e,recovered:=true }]) σ K:=by
  refine adefW_of [4] (.some _) Tryz.func273 rfl 6 rfl (by kernel_rfl) ?_
  rw [Tryz.ntmps273]
  try simp only [go_sem,seval,tb273,stopV]
  refine .seq (avc_sound (mu:=[]) (dr:=[]) (by kernel_rfl) _ (by kernel_rfl) _ _ _ ?_)
  try simp only [go_sem,seval,tb273]
  refine .cond rfl true (by try simp only [go_sem,seval,tb273]) (fun _=>?_) (fun h=>by cases h)
  refine .seq (avc_sound (mu:=[]) (dr:=[]) (by kernel_rfl) _ (by kernel_rfl) _ _ _ ?_)
  try simp only [go_sem,seval,tb273]
  intro b9 hb9
  try simp only [go_sem,seval,tb273]
  refine .seq (avc_sound (mu:=[]) (dr:=[]) (by kernel_rfl) _ (by kernel_rfl) _ _ _ ?_)
  try simp only [go_sem,seval,tb273]
  refine .ord (mu:=[]) 0 (.alt 1 (.alt 2 (.alt 3 (.alt 4 (.alt 5 (.alt 6 .done .done) .done) .done) (.alt 4 (.alt 3 (.alt 5 (.alt 6 .done .done) .done) (.alt 5 (.alt 3 (.alt 6 .done .done) .done) .done)) .done)) (.alt 4 (.alt 2 (.alt 3 (.alt 5 (.alt 6 .done .done) .done) (.alt 5 (.alt 3 (.alt 6 .done .done) .done) .done)) (.alt 5 (.alt 2 (.alt 3 (.alt 6 .done .done) .done) .done) .done)) .done)) (.alt 2 (.alt 1 (.alt 3 (.alt 4 (.alt 5 (.alt 6 .done .done) .done) .done) (.alt 4 (.alt 3 (.alt 5 (.alt 6 .done .done) .done) (.alt 5 (.alt 3 (.alt 6 .done .done) .done) .done)) .done)) (.alt 3 (.alt 1 (.alt 4 (.alt 5 (.alt 6 .done .done) .done) .done) (.alt 4 (.alt 1 (.alt 5 (.alt 6 .done .done) .done) .done) .done)) (.alt 4 (.alt 1 (.alt 3 (.alt 5 (.alt 6 .done .done) .done) (.alt 5 (.alt 3 (.alt 6 .done .done) .done) .done)) (.alt 3 (.alt 1 (.alt 5 (.alt 6 .done .done) .done) .done) .done)) .done))) (.alt 4 (.alt 1 (.alt 2 (.alt 3 (.alt 5 (.alt 6 .done .done) .done) (.alt 5 (.alt 3 (.alt 6 .done .done) .done) .done)) (.alt 5 (.alt 2 (.alt 3 (.alt 6 .done .done) .done) .done) .done)) (.alt 2 (.alt 1 (.alt 3 (.alt 5 (.alt 6 .done .done) .done) (.alt 5 (.alt 3 (.alt 6 .done .done) .done) .done)) (.alt 3 (.alt 1 (.alt 5 (.alt 6 .done .done) .done) .done) .done)) .done)) .done))) (.alt 2 (.alt 0 (.alt 1 (.alt 3 (.alt 4 (.alt 5 (.alt 6 .done .done) .done) .done) (.alt 4 (.alt 3 (.alt 5 (.alt 6 .done .done) .done) (.alt 5 (.alt 3 (.alt 6 .done .done) .done) .done)) .done)) (.alt 3 (.alt 1 (.alt 4 (.alt 5 (.alt 6 .done .done) .done) .done) (.alt 4 (.alt 1 (.alt 5 (.alt 6 .done .done) .done) .done) .done)) (.alt 4 (.alt 1 (.alt 3 (.alt 5 (.alt 6 .done .done) .done) (.alt 5 (.alt 3 (.alt 6 .done .done) .done) .done)) (.alt 3 (.alt 1 (.alt 5 (.alt 6 .done .done) .done) .done) .done)) .done))) (.alt 3 (.alt 0 (.alt 1 (.alt 4 (.alt 5 (.alt 6 .done .done) .done) .done) (.alt 4 (.alt 1 (.alt 5 (.alt 6 .done .done) .done) .done) .done)) (.alt 4 (.alt 0 (.alt 1 (.alt 5 (.alt 6 .done .done) .done) .done) .done) .done)) (.alt 4 (.alt 0 (.alt 1 (.alt 3 (.alt 5 (.alt 6 .done .done) .done) (.alt 5 (.alt 3 (.alt 6 .done .done) .done) .done)) (.alt 3 (.alt 1 (.alt 5 (.alt 6 .done .done) .done) .done) .done)) (.alt 3 (.alt 0 (.alt 1 (.alt 5 (.alt 6 .done .done) .done) .done) .done) .done)) .done))) (.alt 4 (.alt 0 (.alt 1 (.alt 2 (.alt 3 (.alt 5 (.alt 6 .done .done) .done) (.alt 5 (.alt 3 (.alt 6 .done .done) .done) .done)) (.alt 5 (.alt 2 (.alt 3 (.alt 6 .done .done) .done) .done) .done)) (.alt 2 (.alt 1 (.alt 3 (.alt 5 (.alt 6 .done .done) .done) (.alt 5 (.alt 3 (.alt 6 .done .done) .done) .done)) (.alt 3 (.alt 1 (.alt 5 (.alt 6 .done .done) .done) .done) .done)) .done)) (.alt 2 (.alt 0 (.alt 1 (.alt 3 (.alt 5 (.alt 6 .done .done) .done) (.alt 5 (.alt 3 (.alt 6 .done .done) .done) .done)) (.alt 3 (.alt 1 (.alt 5 (.alt 6 .done .done) .done) .done) .done)) (.alt 3 (.alt 0 (.alt 1 (.alt 5 (.alt 6 .done .done) .done) .done) .done) .done)) .done)) .done)) (by kernel_rfl) (by kernel_rfl) (by kernel_rfl) ?_
  have s2:(σ.get b2).isSome=true:=by rw [g2];rfl
  have s3:(σ.get b3).isSome=true:=by rw [g3];rfl
  have s4:(σ.get b4).isSome=true:=by rw [g4];rfl
  have k:∃ σ',Sub σ' ((b9,AObj.cells [vi a,vi e])::((σ.set b2 (.cells [.list .full 0 []])).set b3 (.cells [vi a])).set b4 (.cells [vi e]))∧K σ':=⟨_,.cons _ _,hK⟩
  have fs:∀ (b:Nat) (y:AObj),Fresh (σ.set b y) b9=Fresh σ b9:=fun b y=>fresh_set
  have fs2:∀ (b c:Nat) (y z:AObj),Fresh ((σ.set b y).set c z) b9=Fresh σ b9:=fun b c y z=>by rw [fresh_set,fresh_set]
  try simp only [go_sem,seval,tb273,aord,aguard_none,arr_get,kOrd_done,kOrd_alt,hb9,g2,g3,g4,n23,n24,n34,Ne.symm n23,Ne.symm n24,Ne.symm n34,fs,fs2,Option.isSome_map,Option.map_some]
  repeat' first | exact k | apply And.intro
/-! ### a call of yield,by what the round leaves -/
def YR (P:Program)(l:Nat)(tv:AV)(S:Store)(K:Store→Prop):Prop :=
  ∃ (r:Loop) (p id1 id2 id3:Nat) (la lb:List Oper) (mu2:List Nat) (Q1 Q2:Exit→Fr→Store→Prop),S.get l=some (.raw (.loop r))∧r.params=#[p]∧r.assign=.region id1 ⟨la⟩ false∧r.body=.block id2 (.region id3 ⟨lb⟩ false)∧r.state=.ready∧r.pending=none ∧
    (la.all (opB r.tmps.size)&&lb.all (opB r.tmps.size)&&la.all noDefer&&lb.all noDefer&&decide (p<r.tmps.size))=true∧(∀ e fr σ,Q1 e fr σ→e=.normal)∧(∀ e fr σ,Q2 e fr σ→e=.normal) ∧
    aops P mu2 ⟨la⟩ la Q1 ((Fr.vals r.tmps).put p tv) S ∧
    (∀ fr' σ',Q1 .normal fr' σ'→σ'.get l=some (.raw (.loop r))∧aops P mu2 ⟨lb⟩ lb Q2 fr' (σ'.set l (.raw (.loop { r with state:=.busy })))) ∧
    (∀ fr2 σ2,Q2 .normal fr2 σ2→σ2.get l=some (.raw (.loop { r with state:=.busy }))∧K (σ2.set l (.raw (.loop r))))
theorem YieldOk.of {P:Program}{mu:List Nat}{ops:Array Oper}{post:List Oper}{Q:Exit→Fr→Store→Prop}{j t:Nat}{d:Option Nat}{fr1:Fr}{σ1:Store}(l:Nat)(h1:fr1 j=.val (.func (.yield l) #[] #[]))
    (h:YR P l (fr1 t) σ1 (fun σ'=>aops P mu ops post (fun e fr σ=>e=.normal∧Q .normal fr σ) (fr1.putO d (.val (.bool true))) σ')):YieldOk P mu ops post Q j t d .normal fr1 σ1:=by
  obtain ⟨r,p,id1,id2,id3,la,lb,mu2,Q1,Q2,a1,a2,a3,a4,a5,a6,a7,a8,a9,a10,a11,a12⟩:=h
  exact ⟨rfl,l,r,p,id1,id2,id3,la,lb,mu2,Q1,Q2,h1,a1,a2,a3,a4,a5,a6,a7,a8,a9,a10,a11,a12⟩
theorem YR.mono {P:Program}{l:Nat}{tv tv':AV}{S:Store}{K K':Store→Prop}(e:tv=tv')(h:YR P l tv' S K')(k:∀ S',K' S'→K S'):YR P l tv S K:=by
  subst e
  obtain ⟨r,p,id1,id2,id3,la,lb,mu2,Q1,Q2,a1,a2,a3,a4,a5,a6,a7,a8,a9,a10,a11,a12⟩:=h
  exact ⟨r,p,id1,id2,id3,la,lb,mu2,Q1,Q2,a1,a2,a3,a4,a5,a6,a7,a8,a9,a10,a11,fun fr2 σ2 q=>⟨(a12 fr2 σ2 q).1,k _ (a12 fr2 σ2 q).2⟩⟩
theorem kBodyD_n0 (P:Program)(rs:List ResultVar)(R:ARes→Store→Prop)(fr:Fr)(σ:Store):kBodyD P rs R .normal [] fr σ=kEndD P rs R fr σ:=propext Iff.rfl
theorem kBodyD_p0 (P:Program)(rs:List ResultVar)(R:ARes→Store→Prop)(pv:Value)(fr:Fr)(σ:Store):kBodyD P rs R (.panic [{ v:=pv,recovered:=false }]) [] fr σ=APan R pv σ:=by
  simp only [kBodyD,eq_iff_iff]
  constructor
  · rintro ⟨x,hx,h⟩
    injection hx with hx _
    injection hx with hx
    subst hx
    exact h
  · intro h;exact ⟨_,rfl,h⟩
abbrev Tok:=Int×Str×Int
def tkE (t:Tok):List AV:=[vi t.1,vs t.2.1,vi t.2.2]
def tkEs (l:List Tok):List (List AV):=l.map tkE
def scanF (s:Str):Nat→Nat→Nat→Sum (Int×Int) (List Tok)
  | 0,_,_=>.inr []
  | f + 1,a,many=>if a<s.size then
      (match tokS (s.extract a s.size) with
      | none=>.inl (a,10)
      | some (k,n)=>if many=6000 then .inl (a,2) else if (k=1∨k=2)∧40<((s.extract a s.size).extract 0 n).size then .inl (a,11) else
        match scanF s f (skipS s (s.size+1) (a+((s.extract a s.size).extract 0 n).size)) (many+1) with
        | .inl e=>.inl e
        | .inr l=>.inr ((k,(s.extract a s.size).extract 0 n,(a:Int))::l))
    else .inr []
def comb (acc:List Tok):Sum (Int×Int) (List Tok)→Sum (Int×Int) (List Tok)
  | .inl e=>.inl e
  | .inr l=>.inr (acc++l)
def scanA (s:Str):Sum (Int×Int) (List Tok):=scanF s (s.size+1) (skipS s (s.size+1) 0) 0
theorem skipS_bd (s:Str):∀ f a,a≤s.size→a≤skipS s f a∧skipS s f a≤s.size:=by
  intro f
  induction f with
  | zero=>intro a h;exact ⟨Nat.le_refl _,h⟩
  | succ f ih =>
    intro a h
    rw [skipS]
    split
    · rename_i hlt
      split
      · have:=ih (a+1) (by omega);omega
      · split
        · rename_i h37
          split
          · rename_i h0
            have h1:=nlAt_bd s a hlt h37 h0
            have:=ih (a+(nlAt s a).toNat) (by omega);omega
          · have:=ih s.size (Nat.le_refl _);omega
        · omega
    · omega
theorem letters_sm:∀ k:Fin 26,bAt letters k.val=97+(k.val:Int):=by decide
theorem letters_cap:∀ k:Fin 26,bAt letters (26+k.val)=65+(k.val:Int):=by decide
theorem letB_sm {x:Int}(h:isSm x):letB x=true:=by
  unfold letB
  rw [decide_eq_true_eq]
  refine ⟨(x-97).toNat,?_,?_,?_⟩
  · show _<64;unfold isSm at h;omega
  · show _<64;unfold isSm at h;omega
  · have:=letters_sm ⟨(x-97).toNat,by unfold isSm at h;omega⟩
    rw [this];unfold isSm at h;simp only;omega
theorem letB_cap {x:Int}(h:isCap x):letB x=true:=by
  unfold letB
  rw [decide_eq_true_eq]
  refine ⟨26+(x-65).toNat,?_,?_,?_⟩
  · show _<64;unfold isCap at h;omega
  · show _<64;unfold isCap at h;omega
  · have:=letters_cap ⟨(x-65).toNat,by unfold isCap at h;omega⟩
    rw [this];unfold isCap at h;simp only;omega
theorem run_pos (r:Str)(h:0<r.size)(hb:letB (bAt r 0)=true):1≤runS r (r.size+1) 0:=by
  rw [runS,if_pos ⟨h,hb⟩]
  exact (runS_bd r r.size 1 (by omega)).1
theorem tokS_bd (r:Str)(h:0<r.size)(k:Int)(n:Nat)(ht:tokS r=some (k,n)):1≤n∧n≤r.size:=by
  unfold tokS at ht
  split at ht
  · rename_i hs
    have h1:=run_pos r h (letB_sm hs)
    have h2:=runS_bd r (r.size+1) 0 (by omega)
    have hN:1≤tokN r∧tokN r≤r.size:=by
      unfold tokN
      split
      · rename_i hc
        have:=runS_bd r (r.size+1) (runS r (r.size+1) 0+1) (by omega)
        omega
      · omega
    split at ht
    · rename_i ho;injection ht with ht;injection ht with a b;omega
    · split at ht<;>(injection ht with ht;injection ht with a b;omega)
  · split at ht
    · rename_i hc
      injection ht with ht;injection ht with a b
      have h1:=run_pos r h (letB_cap hc)
      have h2:=runS_bd r (r.size+1) 0 (by omega)
      omega
    · split at ht
      · rename_i hp
        injection ht with ht;injection ht with a b
        have:2≤r.size:=by rcases hp with hp | hp | hp<;>exact hp.1
        omega
      · split at ht
        · rename_i hp
          have:2≤r.size:=hp.1
          split at ht
          · injection ht with ht;injection ht with a b;omega
          · cases ht
        · split at ht
          · injection ht with ht;injection ht with a b;omega
          · cases ht
theorem tokens_c (s:Str)(σ:Store)(R:ARes→Store→Prop)(h:∀ b,Fresh σ b→R (.ret (.val (.func (.func 275) #[] #[.pointer (some ⟨b,0,none⟩)]))) ((b,.cells [vs s])::σ)):ACalls Tryz.prog 274 [vs s] σ R:=by
  refine acalls_of [1] [] Tryz.func274 rfl (by kernel_rfl) ?_;rw [Tryz.ntmps274,Tryz.results274]
  try simp only [go_sem,seval,tb274]
  intro b hb
  try simp only [go_sem,seval,tb274]
  exact .mk (.refl _) (.refl _) (h b hb)
theorem tk1_c (s:Str)(hsz:s.size≤20000)(l b1:Nat)(Pp:List Tok→Store→Prop)(hY:∀ acc S tok,acc.length≤6000→Pp acc S→YR Tryz.prog l (.agg (tkE tok)) S (fun S'=>Pp (acc++[tok]) S'∧∀ b t,S.get b=some (.cells (tkE t))→S'.get b=some (.cells (tkE t))))
    (hcons:∀ acc S b x,Pp acc S→Fresh S b→Pp acc ((b,x)::S)) (hb1:∀ acc S,Pp acc S→S.get b1=some (.cells [vs s])) (S0:Store) (h0:Pp [] S0) :
    ACalls Tryz.prog 275 [.val (.func (.yield l) #[] #[]),.val (.pointer (some ⟨b1,0,none⟩))] S0
      (fun res S'=>∃ acc,Pp acc S'∧match scanA s with | .inr toks=>res=.ret (.tup [])∧acc=toks | .inl (a,e)=>res=.pan (stopV a e)):=by
  refine acallsD_of Tryz.func275 rfl (by kernel_rfl) (.of ?_)
  rw [Tryz.ntmps275,Tryz.results275]
  refine .seq (avc_sound (mu:=[]) (dr:=[]) (by kernel_rfl) _ (by kernel_rfl) _ _ _ ?_)
  try simp only [go_sem,seval,tb275]
  have g1:=hb1 _ _ h0
  refine .seq (avc_sound (mu:=[]) (dr:=[]) (by kernel_rfl) _ (by kernel_rfl) _ _ _ ?_)
  try simp only [go_sem,seval,tb275,g1]
  refine (skip_c s 0 hsz).use ?_
  try simp only [go_sem,seval,tb275]
  have hk0:=skipS_bd s (s.size+1) 0 (by omega)
  refine .block (.loopT [3,4,5,6,9,10,11,12,13,14,15,16,17,18,19,20,21,22,23,24,25,26,27,28,29,30,31,32,33,34,35,36,37,38,39,40,41,42,43,44,45,46,47,48,49,50,51,52,53,54,55,56,57,58,59,60,61] (fun x:Nat×Nat×List Tok×Store=>[(4,vi x.1),(3,vi x.2.1)]) (fun x=>x.2.2.2) (fun x=>x.1≤s.size∧x.2.1≤6000∧x.2.2.1.length=x.2.1∧Pp x.2.2.1 x.2.2.2∧∃ f,s.size-x.1<f∧comb x.2.2.1 (scanF s f x.1 x.2.1)=scanA s)
    (fun x=>s.size-x.1) (skipS s (s.size+1) 0,0,[],S0) ⟨hk0.2,by simp,rfl,h0,s.size+1,by dsimp only;omega,by simp only [scanA];generalize scanF s (s.size+1) (skipS s (s.size+1) 0) 0=q;cases q<;>rfl⟩ ⟨.refl _,.refl _,trivial⟩ (.refl _) ?_)
  rintro ⟨a,m,acc,S⟩ ⟨ha,hm,hl,hP,f,hf,hc⟩
  dsimp only at ha hm hl hP hf hc ⊢
  have g1:=hb1 _ _ hP
  obtain ⟨f,rfl⟩:∃ g,f=g+1:=⟨f-1,by omega⟩
  rw [scanF] at hc
  refine .seq (avc_sound (mu:=[]) (dr:=[]) (by kernel_rfl) _ (by kernel_rfl) _ _ _ ?_)
  try simp only [go_sem,seval,tb275,g1]
  refine ⟨fun hlt=>?_,fun hlt=>?_⟩
  · have hlt:a<s.size:=by omega
    rw [if_pos hlt] at hc
    refine .block (.seq (avc_sound (mu:=[]) (dr:=[]) (by kernel_rfl) _ (by kernel_rfl) _ _ _ ?_))
    try simp only [go_sem,seval,tb275,g1]
    refine (token_c s a hlt hsz).use ?_
    obtain ⟨r,hr⟩:∃ r:Str,r=s.extract a s.size:=⟨_,rfl⟩
    have hrs:r.size=s.size-a:=by rw [hr];simp [ByteArray.size_extract]
    rw [← hr] at hc ⊢
    cases ht:tokS r with
    | none =>
      rw [ht] at hc
      have hv:tokV r a=.tup [.agg [vi 0,vs { data:=#[] },vi 0],vb false]:=by simp only [tokV,ht]
      rw [hv]
      try simp only [go_sem,seval,tb275]
      intro b5 hb5
      try simp only [go_sem,seval,tb275]
      refine .seq (avc_sound (mu:=[]) (dr:=[]) (by kernel_rfl) _ (by kernel_rfl) _ _ _ ?_)
      try simp only [go_sem,seval,tb275,kBodyD_p0]
      refine .mk (.cons _ _) ⟨acc,hP,?_⟩
      rw [← hc];rfl
    | some kn =>
      obtain ⟨k,n⟩:=kn
      have hn:=tokS_bd r (by omega) k n ht
      rw [ht] at hc
      dsimp only at hc
      obtain ⟨x,hx⟩:∃ x:Str,x=r.extract 0 n:=⟨_,rfl⟩
      have hxs:x.size=n:=by rw [hx];simp [ByteArray.size_extract];omega
      rw [← hx] at hc
      have hv:tokV r a=.tup [.agg [vi k,vs x,vi a],vb true]:=by simp only [tokV,ht,hx]
      rw [hv]
      try simp only [go_sem,seval,tb275]
      intro b5 hb5
      try simp only [go_sem,seval,tb275]
      refine .seq (avc_sound (mu:=[]) (dr:=[]) (by kernel_rfl) _ (by kernel_rfl) _ _ _ ?_)
      by_cases h6:m=6000
      · rw [if_pos h6] at hc
        have h6':((m:Int)=6000)=True:=eq_true (by omega)
        try simp only [go_sem,seval,tb275,kBodyD_p0,h6',decide_true]
        refine .mk (.cons _ _) ⟨acc,hP,?_⟩
        rw [← hc];rfl
      · rw [if_neg h6] at hc
        have h6':((m:Int)=6000)=False:=eq_false (by omega)
        by_cases h40:(k=1∨k=2)∧40<x.size
        · rw [if_pos h40] at hc
          have hb40:((40:Int)<(x.size:Int))=True:=eq_true (by omega)
          rcases h40.1 with rfl | rfl
          · try simp only [go_sem,seval,tb275,kBodyD_p0,h6',decide_false,hb40,decide_true]
            refine .mk (.cons _ _) ⟨acc,hP,?_⟩
            rw [← hc];rfl
          · try simp only [go_sem,seval,tb275,kBodyD_p0,h6',decide_false,hb40,decide_true]
            refine .mk (.cons _ _) ⟨acc,hP,?_⟩
            rw [← hc];rfl
        · rw [if_neg h40] at hc
          by_cases hk:k=1∨k=2
          · have hb40:((40:Int)<(x.size:Int))=False:=eq_false (fun h=>h40 ⟨hk,by omega⟩)
            rcases hk with rfl | rfl
            · try simp only [go_sem,seval,tb275,h6',decide_false,hb40,decide_true]
              refine .seq (avc_sound (mu:=[]) (dr:=[]) (by kernel_rfl) _ (by kernel_rfl) _ _ _ ?_)
              try simp only [go_sem,seval,tb275]
              rw [show IntKind.i64.wrap ((m:Int)+1)=((m+1:Nat):Int) from wrap64 (by omega) (by omega)]
              refine .seq (.seq (.yield (mu:=[]) (pre:=[_,_]) (post:=[_]) 51 52 (by kernel_rfl) ?_))
              try simp only [go_sem,seval,tb275]
              refine .of l (by try simp only [go_sem,seval,tb275]) ?_
              refine .mono (tv':=.agg (tkE (_,x,(a:Int)))) (by try simp only [go_sem,seval,tb275];rfl) (hY acc _ (_,x,(a:Int)) (by omega) (hcons _ _ _ _ hP hb5)) (fun S' hS'=>?_)
              obtain ⟨hP',hkeep⟩:=hS'
              have g1':=hb1 _ _ hP'
              have g5:=hkeep b5 (_,x,(a:Int)) (get_same _ _ _)
              try simp only [go_sem,seval,tb275]
              refine avc_sound (mu:=[]) (dr:=[]) (by kernel_rfl) _ (by kernel_rfl) _ _ _ ?_
              try simp only [go_sem,seval,tb275]
              refine avc_sound (mu:=[]) (dr:=[]) (by kernel_rfl) _ (by kernel_rfl) _ _ _ ?_
              try simp only [go_sem,seval,tb275,g1',g5,tkE]
              rw [show IntKind.i64.wrap ((a:Int)+(x.size:Int))=((a+x.size:Nat):Int) from by rw [wrap64 (by omega) (by omega)];omega]
              refine (skip_c s (a+x.size) hsz).use ?_
              have hbd:=skipS_bd s (s.size+1) (a+x.size) (by omega)
              try simp only [go_sem,seval,tb275]
              refine .mk (skipS s (s.size+1) (a+x.size),m+1,acc++[(_,x,(a:Int))],S') ⟨hbd.2,by dsimp only;omega,by simp [hl],hP',f,by dsimp only;omega,?_⟩ (by dsimp only;omega) ⟨.refl _,.refl _,trivial⟩ (by repeat first | exact Keeps.turn _ rfl | refine Keeps.put rfl ?_) (.refl _)
              rw [← hc]
              dsimp only
              generalize scanF s f (skipS s (s.size+1) (a+x.size)) (m+1)=q
              cases q<;>simp [comb]
            · try simp only [go_sem,seval,tb275,h6',decide_false,hb40,decide_true]
              refine .seq (avc_sound (mu:=[]) (dr:=[]) (by kernel_rfl) _ (by kernel_rfl) _ _ _ ?_)
              try simp only [go_sem,seval,tb275]
              rw [show IntKind.i64.wrap ((m:Int)+1)=((m+1:Nat):Int) from wrap64 (by omega) (by omega)]
              refine .seq (.seq (.yield (mu:=[]) (pre:=[_,_]) (post:=[_]) 51 52 (by kernel_rfl) ?_))
              try simp only [go_sem,seval,tb275]
              refine .of l (by try simp only [go_sem,seval,tb275]) ?_
              refine .mono (tv':=.agg (tkE (_,x,(a:Int)))) (by try simp only [go_sem,seval,tb275];rfl) (hY acc _ (_,x,(a:Int)) (by omega) (hcons _ _ _ _ hP hb5)) (fun S' hS'=>?_)
              obtain ⟨hP',hkeep⟩:=hS'
              have g1':=hb1 _ _ hP'
              have g5:=hkeep b5 (_,x,(a:Int)) (get_same _ _ _)
              try simp only [go_sem,seval,tb275]
              refine avc_sound (mu:=[]) (dr:=[]) (by kernel_rfl) _ (by kernel_rfl) _ _ _ ?_
              try simp only [go_sem,seval,tb275]
              refine avc_sound (mu:=[]) (dr:=[]) (by kernel_rfl) _ (by kernel_rfl) _ _ _ ?_
              try simp only [go_sem,seval,tb275,g1',g5,tkE]
              rw [show IntKind.i64.wrap ((a:Int)+(x.size:Int))=((a+x.size:Nat):Int) from by rw [wrap64 (by omega) (by omega)];omega]
              refine (skip_c s (a+x.size) hsz).use ?_
              have hbd:=skipS_bd s (s.size+1) (a+x.size) (by omega)
              try simp only [go_sem,seval,tb275]
              refine .mk (skipS s (s.size+1) (a+x.size),m+1,acc++[(_,x,(a:Int))],S') ⟨hbd.2,by dsimp only;omega,by simp [hl],hP',f,by dsimp only;omega,?_⟩ (by dsimp only;omega) ⟨.refl _,.refl _,trivial⟩ (by repeat first | exact Keeps.turn _ rfl | refine Keeps.put rfl ?_) (.refl _)
              rw [← hc]
              dsimp only
              generalize scanF s f (skipS s (s.size+1) (a+x.size)) (m+1)=q
              cases q<;>simp [comb]
          · have hk1:(k=1)=False:=eq_false (fun h=>hk (.inl h))
            have hk2:(k=2)=False:=eq_false (fun h=>hk (.inr h))
            try simp only [go_sem,seval,tb275,h6',decide_false,hk1,hk2,decide_true]
            refine .seq (avc_sound (mu:=[]) (dr:=[]) (by kernel_rfl) _ (by kernel_rfl) _ _ _ ?_)
            try simp only [go_sem,seval,tb275]
            rw [show IntKind.i64.wrap ((m:Int)+1)=((m+1:Nat):Int) from wrap64 (by omega) (by omega)]
            refine .seq (.seq (.yield (mu:=[]) (pre:=[_,_]) (post:=[_]) 51 52 (by kernel_rfl) ?_))
            try simp only [go_sem,seval,tb275]
            refine .of l (by try simp only [go_sem,seval,tb275]) ?_
            refine .mono (tv':=.agg (tkE (_,x,(a:Int)))) (by try simp only [go_sem,seval,tb275];rfl) (hY acc _ (_,x,(a:Int)) (by omega) (hcons _ _ _ _ hP hb5)) (fun S' hS'=>?_)
            obtain ⟨hP',hkeep⟩:=hS'
            have g1':=hb1 _ _ hP'
            have g5:=hkeep b5 (_,x,(a:Int)) (get_same _ _ _)
            try simp only [go_sem,seval,tb275]
            refine avc_sound (mu:=[]) (dr:=[]) (by kernel_rfl) _ (by kernel_rfl) _ _ _ ?_
            try simp only [go_sem,seval,tb275]
            refine avc_sound (mu:=[]) (dr:=[]) (by kernel_rfl) _ (by kernel_rfl) _ _ _ ?_
            try simp only [go_sem,seval,tb275,g1',g5,tkE]
            rw [show IntKind.i64.wrap ((a:Int)+(x.size:Int))=((a+x.size:Nat):Int) from by rw [wrap64 (by omega) (by omega)];omega]
            refine (skip_c s (a+x.size) hsz).use ?_
            have hbd:=skipS_bd s (s.size+1) (a+x.size) (by omega)
            try simp only [go_sem,seval,tb275]
            refine .mk (skipS s (s.size+1) (a+x.size),m+1,acc++[(_,x,(a:Int))],S') ⟨hbd.2,by dsimp only;omega,by simp [hl],hP',f,by dsimp only;omega,?_⟩ (by dsimp only;omega) ⟨.refl _,.refl _,trivial⟩ (by repeat first | exact Keeps.turn _ rfl | refine Keeps.put rfl ?_) (.refl _)
            rw [← hc]
            dsimp only
            generalize scanF s f (skipS s (s.size+1) (a+x.size)) (m+1)=q
            cases q<;>simp [comb]
  · have hlt:¬ a<s.size:=by omega
    rw [if_neg hlt] at hc
    try simp only [go_sem,seval,tb275,kBodyD_n0]
    refine .mk (.refl _) (.refl _) ⟨acc,hP,?_⟩
    rw [← hc]
    simp [comb]
end Go.Vx
