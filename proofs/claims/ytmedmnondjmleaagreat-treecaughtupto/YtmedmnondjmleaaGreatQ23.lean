/- Part Q23 of the proof of treeCaughtProved: the walk of the program on abstract values, and the plain law. -/
import Derived.Test.YtmedmnondjmleaaGreatQ22
set_option linter.unusedVariables false
set_option linter.unusedSimpArgs false
set_option maxRecDepth 100000
namespace Go.Vx
open Go.Proofs
theorem tb254:(zeroOf Tryz.prog 224=some (.agg #[(.slice none 0 0),(.slice none 0 0),(.slice none 0 0),(.slice none 0 0),(.slice none 0 0)]))∧(plsOf Tryz.prog 224=some [(0,1),(1,1),(2,1),(3,1),(4,1)])∧(szOf Tryz.prog 150=some 2)∧(aggOf Tryz.prog 150=some true):=by
  refine ⟨?_,?_,?_,?_⟩<;>first | trivial | kernel_rfl
theorem tb255:(fOff Tryz.prog 150 0=some 0)∧(szOf Tryz.prog 9=some 1)∧(aggOf Tryz.prog 9=some false)∧(fOff Tryz.prog 150 1=some 1)∧(szOf Tryz.prog 126=some 1)∧(aggOf Tryz.prog 126=some false):=by
  refine ⟨?_,?_,?_,?_,?_,?_⟩<;>first | trivial | kernel_rfl
theorem tb215:(szOf Tryz.prog 150=some 2)∧(aggOf Tryz.prog 150=some true):=by
  refine ⟨?_,?_⟩<;>first | trivial | kernel_rfl
theorem tb269:(elOf Tryz.prog 126=some 150)∧(szOf Tryz.prog 150=some 2)∧(aggOf Tryz.prog 150=some true)∧(zeroOf Tryz.prog 150=some (.agg #[(.string ⟨#[]⟩),(.slice none 0 0)]))∧(Tryz.prog.underlying 126=some (.slice 150)):=by
  refine ⟨?_,?_,?_,?_,?_⟩<;>first | trivial | kernel_rfl
theorem tb163:(zeroOf Tryz.prog 224=some (.agg #[(.slice none 0 0),(.slice none 0 0),(.slice none 0 0),(.slice none 0 0),(.slice none 0 0)]))∧(plsOf Tryz.prog 224=some [(0,1),(1,1),(2,1),(3,1),(4,1)])∧(szOf Tryz.prog 150=some 2)∧(aggOf Tryz.prog 150=some true):=by
  refine ⟨?_,?_,?_,?_⟩<;>first | trivial | kernel_rfl
theorem tb129:(True):=by
  first | trivial | kernel_rfl
def formedT (t:Ty):Bool:=decide (chkT [] t=0) || decide (chkT [] t=40)
theorem chk0 (t:Ty):Pur Tryz.prog 164 [.agg [.list .full 0 [],.list .full 0 [],.list .full 0 [],.list .full 0 [],.list .full 0 []],.agg t.emb] (vi (chkT [] t)) :=
  checkType_c [] .full 0 (.inr rfl) _ _ _ _ rfl rfl rfl rfl t
theorem formedT_c (t:Ty):Pur Tryz.prog 254 [.agg t.emb] (vb (formedT t)):=by
  intro σ
  have hc:=chk0 t
  have hd:formedT t=(decide (chkT [] t=0) || decide (chkT [] t=40)):=rfl
  obtain ⟨s,l⟩:=t
  simp only [Ty.emb_mk] at hc ⊢
  refine acalls_of [] [] Tryz.func254 rfl (by kernel_rfl) ?_;rw [Tryz.ntmps254,Tryz.results254]
  try simp only [go_sem,seval,tb254]
  refine hc.use ?_
  rw [hd]
  generalize chkT [] (Ty.mk s l)=e
  try simp only [go_sem,seval,tb254]
  refine ⟨fun h=>fin_b ?_,fun h=>fin_b ?_⟩<;>simp [h]
theorem cformed1_c (t:Ty):Pur Tryz.prog 163 [.agg t.emb] (vb (!formedT t)):=by
  intro σ
  have hc:=chk0 t
  have hd:formedT t=(decide (chkT [] t=0) || decide (chkT [] t=40)):=rfl
  obtain ⟨s,l⟩:=t
  simp only [Ty.emb_mk] at hc ⊢
  refine acalls_of [] [] Tryz.func163 rfl (by kernel_rfl) ?_;rw [Tryz.ntmps163,Tryz.results163]
  try simp only [go_sem,seval,tb163]
  refine hc.use ?_
  rw [hd]
  generalize chkT [] (Ty.mk s l)=e
  try simp only [go_sem,seval,tb163]
  refine ⟨fun h=>fin_b ?_,fun h=>fin_b ?_⟩<;>simp [h]
/-- ContainsFunc with a function that turns nothing,at types. -/
theorem cfPure {P:Program}{k n:Nat}{args:List AV}{b:Nat→Bool}{c:Bool}(h:∀ σ,ACalls P k args σ (ConR b n (fun _=>σ)))(hc:c=true↔∃ i,i<n∧b i=true):Pur P k args (vb c):=by
  intro σ
  refine (h σ).mono ?_
  rintro r σ' (⟨i,hi,hb,_,rfl,rfl⟩ | ⟨hn,rfl,rfl⟩)
  · rw [hc.2 ⟨i,hi,hb⟩];exact ⟨rfl,rfl⟩
  · have:c=false:=by
      cases hcc:c with
      | false=>rfl
      | true=>obtain ⟨i,hi,hb⟩:=hc.1 hcc;rw [hn i hi] at hb;cases hb
    rw [this];exact ⟨rfl,rfl⟩
theorem cformed_c (l:List Ty)(rt:Rt)(sz:Nat)(hs:sz=2∨l=[]):Pur Tryz.prog 129 [.list rt sz (Ty.embs l)] (vb (l.all formedT)):=by
  intro σ
  have hk:Pur Tryz.prog 162 [.list rt sz (Ty.embs l),.val (.func (.func 163) #[] #[])] (vb (!(l.all formedT))):=by
    refine cfPure (b:=fun i=>match l[i]? with | some t=>!formedT t | none=>false) (n:=l.length) (fun σ=>?_) ?_
    · have:=containsFunc_Ty (.func (.func 163) #[] #[]) rt sz (Ty.embs l) (fun _=>σ) (fun i=>match l[i]? with | some t=>!formedT t | none=>false) (hs.imp id (fun h=>by rw [h];rfl)) (fun i e he=>by obtain ⟨t,_,rfl⟩:=Ty.embs_get he;cases t;rfl)
        (fun i e he _=>by
          obtain ⟨t,ht,rfl⟩:=Ty.embs_get he
          rw [inv_of]
          simp only [ht]
          exact cformed1_c t σ)
      rw [Ty.embs_len] at this
      exact this
    · constructor
      · intro h
        simp only [Bool.not_eq_true',List.all_eq_false] at h
        obtain ⟨t,ht,hf⟩:=h
        obtain ⟨i,hi,rfl⟩:=List.getElem_of_mem ht
        exact ⟨i,hi,by simp only [List.getElem?_eq_getElem hi];simpa using hf⟩
      · rintro ⟨i,hi,hb⟩
        simp only [List.getElem?_eq_getElem hi] at hb
        simp only [Bool.not_eq_true',List.all_eq_false]
        exact ⟨l[i],List.getElem_mem hi,by simpa using hb⟩
  refine acalls_of [] [] Tryz.func129 rfl (by kernel_rfl) ?_;rw [Tryz.ntmps129,Tryz.results129]
  try simp only [go_sem,seval,tb129]
  refine hk.use ?_
  try simp only [go_sem,seval,tb129]
  exact fin_b (by simp)
mutual
def eqTy:Ty→Ty→Bool
  | .mk s l,.mk s' l'=>decide (s=s')&&eqTys l l'
def eqTys:List Ty→List Ty→Bool
  | [],[]=>true
  | a::r,b::q=>eqTy a b&&eqTys r q
  | _,_=>false
end
theorem eqTys_len:∀ (l m:List Ty),eqTys l m=true→l.length=m.length
  | [],[],_=>rfl
  | a::r,b::q,h=>by simp only [eqTys,Bool.and_eq_true] at h;simp [eqTys_len r q h.2]
  | [],_::_,h=>by simp [eqTys] at h
  | _::_,[],h=>by simp [eqTys] at h
theorem eqTys_get:∀ (l m:List Ty),l.length=m.length→(eqTys l m=true↔∀ (i:Nat) (a b:Ty),l[i]?=some a→m[i]?=some b→eqTy a b=true)
  | [],[],_=>by simp [eqTys]
  | a::r,b::q,h=>by
    simp only [eqTys,Bool.and_eq_true,eqTys_get r q (by simpa using h)]
    constructor
    · rintro ⟨h1,h2⟩ i x y hx hy
      cases i with
      | zero=>simp at hx hy;subst hx;subst hy;exact h1
      | succ i=>exact h2 i x y (by simpa using hx) (by simpa using hy)
    · intro k;exact ⟨k 0 a b rfl rfl,fun i x y hx hy=>k (i+1) x y (by simpa using hx) (by simpa using hy)⟩
  | [],_::_,h=>by simp at h
  | _::_,[],h=>by simp at h
theorem eqFunc_Ty (l m:List Ty)(r1 r2:Rt)(s1 s2:Nat)(h1:s1=2∨l=[])(h2:s2=2∨m=[])(hf:∀ a∈l,∀ b,Pur Tryz.prog 255 [.agg a.emb,.agg b.emb] (vb (eqTy a b))) :
    Pur Tryz.prog 269 [.list r1 s1 (Ty.embs l),.list r2 s2 (Ty.embs m),.val (.func (.func 255) #[] #[])] (vb (eqTys l m)):=by
  intro σ
  refine ACalls.ok (by kernel_rfl) (fun hok=>?_)
  have hl:=(hok _ List.mem_cons_self).len
  rw [Ty.embs_len] at hl
  clear hok
  refine acalls_of [] [] Tryz.func269 rfl (by kernel_rfl) ?_;rw [Tryz.ntmps269,Tryz.results269]
  try simp only [go_sem,seval,tb269,Ty.embs_len]
  refine ⟨fun q=>fin_b ?_,fun q=>?_⟩
  · cases h:eqTys l m with
    | false=>rfl
    | true=>exact absurd (by have:=eqTys_len l m h;omega) q
  · have q:l.length=m.length:=by omega
    refine aloopT (mu:=[]) (dr:=[]) [6,7,8,9,17,18,19,20,21,22,23,24,25,26,27,28,29,30,31] (fun i:Nat=>[(17,vi i)]) (fun _=>σ) (fun i=>i≤l.length∧∀ (j:Nat) (a b:Ty),j<i→l[j]?=some a→m[j]?=some b→eqTy a b=true) (fun i=>l.length-i) 0 (by kernel_rfl) ⟨by omega,fun j a b hj=>by omega⟩ ⟨.refl _,trivial⟩ (.refl _) ?_
    rintro i ⟨hi,hb⟩
    try simp only [go_sem,seval,tb269,Ty.embs_len]
    refine ⟨fun g1=>⟨?_,by omega,g1,fun c hc=>?_⟩,fun g1=>?_⟩
    · rcases h1 with h1 | h1
      · rw [h1]
      · rw [h1] at g1;simp at g1;omega
    · rw [Int.toNat_natCast] at hc
      obtain ⟨a,ha,rfl⟩:=Ty.embs_get hc
      have hfa:=hf a (List.mem_of_getElem? ha)
      obtain ⟨sa,la⟩:=a
      try simp only [go_sem,seval,tb269,Ty.emb_mk]
      intro b8 hb8
      try simp only [go_sem,seval,tb269,Ty.embs_len]
      refine ⟨?_,by omega,by omega,fun c hc=>?_⟩
      · rcases h2 with h2 | h2
        · rw [h2]
        · exfalso;rw [h2,List.length_nil] at q;omega
      rw [Int.toNat_natCast] at hc
      obtain ⟨d,hd,rfl⟩:=Ty.embs_get hc
      have hfd:=hfa d
      obtain ⟨sd,ld⟩:=d
      try simp only [go_sem,seval,tb269,Ty.emb_mk]
      intro b9 hb9
      try simp only [go_sem,seval,tb269,hb9,hb8]
      refine hfd.use ?_
      cases he:eqTy (Ty.mk sa la) (Ty.mk sd ld) with
      | true =>
        try simp only [go_sem,seval,tb269]
        rw [show IntKind.i64.wrap ((i:Int)+1)=((i+1:Nat):Int) from wrap64 (by omega) (by omega)]
        refine .mk (i+1) ⟨by omega,fun j a b hj hja hjb=>?_⟩ (by omega) ⟨.refl _,trivial⟩ (by repeat first | exact Keeps.turn _ rfl | refine Keeps.put rfl ?_) ((Sub.refl σ).skip _ |>.skip _)
        by_cases e:j=i
        · subst e;rw [ha] at hja;rw [hd] at hjb;injection hja with hja;injection hjb with hjb;subst hja;subst hjb;exact he
        · exact hb j a b (by omega) hja hjb
      | false =>
        try simp only [go_sem,seval,tb269]
        have:eqTys l m=false:=by
          cases h:eqTys l m with
          | false=>rfl
          | true=>have:=(eqTys_get l m q).1 h i _ _ ha hd;rw [he] at this;cases this
        rw [this]
        exact fin_pur (.refl _) ((Sub.refl σ).skip _ |>.skip _)
    · have:eqTys l m=true:=(eqTys_get l m q).2 (fun j a b hja hjb=>hb j a b (by have:=(List.getElem?_eq_some_iff.1 hja).1;omega) hja hjb)
      rw [this]
      exact fin_same
theorem equalT_c (a:Ty):∀ b,Pur Tryz.prog 255 [.agg a.emb,.agg b.emb] (vb (eqTy a b)):=by
  induction a using Ty.ind with | h s l ih=>?_
  intro b σ
  obtain ⟨s',l'⟩:=b
  simp only [Ty.emb_mk]
  refine acalls_of [] [] Tryz.func255 rfl (by kernel_rfl) ?_;rw [Tryz.ntmps255,Tryz.results255]
  try simp only [go_sem,seval,tb255]
  refine ⟨fun h=>?_,fun h=>?_⟩
  · refine (eqFunc_Ty l l' .none .none 2 2 (.inl rfl) (.inl rfl) ih).use ?_
    try simp only [go_sem,seval,tb255]
    exact fin_b (by simp [eqTy,h])
  · exact fin_b (by simp [eqTy,h])
theorem sameType_c (a b:Ty):Pur Tryz.prog 215 [.agg a.emb,.agg b.emb] (vb (formedT a&&formedT b&&eqTy a b)):=by
  intro σ
  have ha:=formedT_c a
  have hb:=formedT_c b
  have he:=equalT_c a b
  generalize hfa:formedT a=fa at ha ⊢
  generalize hfb:formedT b=fb at hb ⊢
  generalize heq:eqTy a b=eq at he ⊢
  obtain ⟨s,l⟩:=a
  obtain ⟨s',l'⟩:=b
  simp only [Ty.emb_mk] at ha hb he ⊢
  refine acalls_of [] [] Tryz.func215 rfl (by kernel_rfl) ?_;rw [Tryz.ntmps215,Tryz.results215]
  try simp only [go_sem,seval,tb215]
  refine ha.use ?_
  cases fa with
  | false =>
    try simp only [go_sem,seval,tb215]
    exact fin_b (by simp)
  | true =>
    try simp only [go_sem,seval,tb215]
    refine hb.use ?_
    cases fb with
    | false =>
      try simp only [go_sem,seval,tb215]
      exact fin_b (by simp)
    | true =>
      try simp only [go_sem,seval,tb215]
      refine he.use ?_
      try simp only [go_sem,seval,tb215]
      exact fin_b (by simp)
end Go.Vx
