/- Part Q35 of the proof of treeLooksProved: the walk of the program on abstract values, and the plain law. -/
import Derived.Test.YtmedmnondjmleaaGreatQ34
set_option linter.unusedVariables false
set_option linter.unusedSimpArgs false
section
set_option maxRecDepth 100000
namespace Go.Vx
open Go.Proofs
theorem TD:(ZA Tryz.prog 26=some 32)∧(Zh Tryz.prog 32=some 2)∧(Ze Tryz.prog 32=some true)∧(eqT Tryz.prog 32=some [0,0])∧(Tryz.prog.underlying 26=some (.slice 32)):=by
 refine ⟨?_,?_,?_,?_,?_⟩<;>first | trivial | kernel_rfl
theorem BE:(Zz Tryz.prog 110 1=some 2)∧(Zh Tryz.prog 108=some 1)∧(Ze Tryz.prog 108=some false):=by
 refine ⟨?_,?_,?_⟩<;>first | trivial | kernel_rfl
theorem BD:(Zz Tryz.prog 107 0=some 0)∧(Zh Tryz.prog 4=some 1)∧(Ze Tryz.prog 4=some false):=by
 refine ⟨?_,?_,?_⟩<;>first | trivial | kernel_rfl
theorem YQ:(Zh Tryz.prog 99=some 1)∧(Ze Tryz.prog 99=some false)∧(ZA Tryz.prog 99=some 110)∧(Zh Tryz.prog 110=some 3)∧(Ze Tryz.prog 110=some true)∧(Zl Tryz.prog 110=some (.agg #[(.int .i64 0),(.int .i64 0),(.slice none 0 0)]))∧(Zz Tryz.prog 110 1=some 2)∧(Zh Tryz.prog 108=some 1)∧(Ze Tryz.prog 108=some false)∧(Zz Tryz.prog 30 2=some 2)∧(Zh Tryz.prog 3=some 1)∧(Ze Tryz.prog 3=some false)∧(ZA Tryz.prog 108=some 107)∧(Zh Tryz.prog 107=some 2)∧(Ze Tryz.prog 107=some true)∧(Zl Tryz.prog 107=some (.agg #[(.bool false),(.string ⟨#[]⟩)]))∧(Zz Tryz.prog 110 0=some 0)∧(Zh Tryz.prog 32=some 2)∧(Ze Tryz.prog 32=some true)∧(Yx Tryz.prog 110=some [(0,2),(2,1)])∧(Zz Tryz.prog 107 0=some 0)∧(Zh Tryz.prog 4=some 1)∧(Ze Tryz.prog 4=some false)∧(Yx Tryz.prog 107=some [(0,1),(1,1)])∧(Tryz.prog.underlying 99=some (.slice 110))∧(ZQ Tryz.prog 110=some 40):=by
 refine ⟨?_,?_,?_,?_,?_,?_,?_,?_,?_,?_,?_,?_,?_,?_,?_,?_,?_,?_,?_,?_,?_,?_,?_,?_,?_,?_⟩<;>first | trivial | kernel_rfl
theorem Jl:(Zz Tryz.prog 114 1=some 1)∧(Zh Tryz.prog 30=some 6)∧(Ze Tryz.prog 30=some true)∧(Zh Tryz.prog 172=some 1)∧(Ze Tryz.prog 172=some false)∧(Zz Tryz.prog 114 0=some 0)∧(Zh Tryz.prog 9=some 1)∧(Ze Tryz.prog 9=some false)∧(Zl Tryz.prog 107=some (.agg #[(.bool false),(.string ⟨#[]⟩)]))∧(Yx Tryz.prog 107=some [(0,1),(1,1)]):=by
 refine ⟨?_,?_,?_,?_,?_,?_,?_,?_,?_,?_⟩<;>first | trivial | kernel_rfl
theorem Xu:(Zz Tryz.prog 30 0=some 0)∧(Zh Tryz.prog 3=some 1)∧(Ze Tryz.prog 3=some false)∧(Zz Tryz.prog 30 1=some 1)∧(Zh Tryz.prog 26=some 1)∧(Ze Tryz.prog 26=some false)∧(Zh Tryz.prog 99=some 1)∧(Ze Tryz.prog 99=some false)∧(Zz Tryz.prog 30 4=some 4)∧(Zh Tryz.prog 28=some 1)∧(Ze Tryz.prog 28=some false)∧(ZA Tryz.prog 28=some 114)∧(Zh Tryz.prog 114=some 7)∧(Ze Tryz.prog 114=some true)∧(Zl Tryz.prog 114=some (.agg #[(.string ⟨#[]⟩),(.int .i64 0),(.slice none 0 0),(.int .i64 0),(.slice none 0 0),(.slice none 0 0),(.slice none 0 0)]))∧(Zz Tryz.prog 114 0=some 0)∧(Zh Tryz.prog 9=some 1)∧(Ze Tryz.prog 9=some false)∧(Tryz.prog.underlying 159=some (.map 9 4))∧(Tryz.prog.underlying 9=some .string)∧(Zl Tryz.prog 4=some (.bool false))∧(Zl Tryz.prog 172=some .nilFunc)∧(Zh Tryz.prog 172=some 1)∧(Zz Tryz.prog 30 2=some 2)∧(ZA Tryz.prog 64=some 9)∧(Ze Tryz.prog 172=some false)∧(Zl Tryz.prog 107=some (.agg #[(.bool false),(.string ⟨#[]⟩)]))∧(Yx Tryz.prog 107=some [(0,1),(1,1)])∧(ZA Tryz.prog 99=some 110)∧(Zh Tryz.prog 110=some 3)∧(Zz Tryz.prog 110 1=some 2)∧(Zh Tryz.prog 108=some 1)∧(Ze Tryz.prog 108=some false)∧(ZA Tryz.prog 108=some 107)∧(Zh Tryz.prog 107=some 2)∧(Zz Tryz.prog 30 3=some 3)∧(Zh Tryz.prog 27=some 1)∧(Ze Tryz.prog 27=some false)∧(ZA Tryz.prog 27=some 30)∧(Zh Tryz.prog 30=some 6)∧(Ze Tryz.prog 30=some true)∧(Zz Tryz.prog 30 5=some 5)∧(Tryz.prog.underlying 28=some (.slice 114))∧(Tryz.prog.underlying 64=some (.slice 9))∧(Tryz.prog.underlying 99=some (.slice 110)):=by
 refine ⟨?_,?_,?_,?_,?_,?_,?_,?_,?_,?_,?_,?_,?_,?_,?_,?_,?_,?_,?_,?_,?_,?_,?_,?_,?_,?_,?_,?_,?_,?_,?_,?_,?_,?_,?_,?_,?_,?_,?_,?_,?_,?_,?_,?_,?_⟩<;>first | trivial | kernel_rfl
theorem DZ (a b:Pick):(a.rule=b.rule∧a.alt=b.alt)↔a=b:=by
 obtain ⟨r,x⟩:=a;obtain ⟨s,y⟩:=b;simp
theorem Hj (l m:List Pick)(r1 r2:Rt)(s1 s2:Nat)(h1:s1=2∨l=[])(h2:s2=2∨m=[]):Pur Tryz.prog 107 [.list r1 s1 (cI l),.list r2 s2 (cI m)] (vb (decide (l=m))):=by
 intro σ
 refine Zj.ok (by kernel_rfl) (fun hok=>?_)
 have hl:=(hok _ List.mem_cons_self).len
 rw [cB] at hl
 clear hok
 refine Zc [] [(6,8,0)] Tryz.func107 rfl (by kernel_rfl) ?_;rw [Tryz.ntmps107,Tryz.results107]
 try simp only [go_sem,seval,TD,cB]
 by_cases hlm:l.length=m.length
 ·have e1:(((l.length:Nat):Int)=((m.length:Nat):Int))=True:=eq_true (by omega)
  try simp only [go_sem,seval,TD,cB,e1,decide_true]
  refine Zv (mu:=[]) (dr:=[(6,8,0)]) [4,5,13,14,15,16,17,18,19,20,21,22,23,24,25] (fun i:Nat=>[(13,vi i)]) (fun _=>σ) (fun i=>i≤l.length∧l.take i=m.take i) (fun i=>l.length-i) 0 (by kernel_rfl) ⟨by omega,rfl⟩ ⟨.refl _,trivial⟩ (.refl _) ?_
  rintro i ⟨i1,i2⟩
  try simp only [go_sem,seval,TD,cB]
  refine ⟨fun h3=>?_,fun h3=>?_⟩
  ·have hs1:s1=2:=by
    rcases h1 with h | h
    ·exact h
    ·rw [h] at h3;simp at h3;omega
   have hs2:s2=2:=by
    rcases h2 with h | h
    ·exact h
    ·rw [h] at hlm;simp only [List.length_nil] at hlm;omega
   refine ⟨by rw [hs1],by omega,by omega,fun c hc=>?_⟩
   rw [Int.toNat_natCast] at hc
   obtain ⟨a,ha,rfl⟩:=dj hc
   try simp only [go_sem,seval,TD,cB,Pick.emb]
   refine ⟨by rw [hs2],by omega,by omega,fun c hc=>?_⟩
   rw [Int.toNat_natCast] at hc
   obtain ⟨b,hb,rfl⟩:=dj hc
   try simp only [go_sem,seval,TD,Pick.emb]
   have hst:l.take (i+1)=m.take (i+1)↔a=b:=by
    rw [List.take_add_one,List.take_add_one,ha,hb,i2];simp
   by_cases hab:a=b
   ·have q1:(a.rule=b.rule)=True:=eq_true (by rw [hab])
    have q2:(a.alt=b.alt)=True:=eq_true (by rw [hab])
    try simp only [go_sem,seval,TD,q1,q2,decide_true]
    rw [show IntKind.i64.wrap ((i:Int)+1)=((i+1:Nat):Int) from Zp (by omega) (by omega)]
    exact .mk (i+1) ⟨by omega,hst.2 hab⟩ (by omega) ⟨.refl _,trivial⟩ (by repeat first | exact Zf.turn _ rfl | refine Zf.put rfl ?_) (.refl _)
   ·have q3:(decide (a.rule=b.rule)&&decide (a.alt=b.alt))=false:=by
     rw [Bool.eq_false_iff];simp only [ne_eq,Bool.and_eq_true,decide_eq_true_eq];rw [DZ];exact hab
    rw [q3]
    try simp only [go_sem,seval,TD,decide_false]
    refine ZC ?_
    have:l≠m:=fun e=>hab (hst.1 (by rw [e]))
    simp [this]
  ·try simp only [go_sem,seval,TD]
   refine ZC ?_
   rw [List.take_of_length_le (by omega),List.take_of_length_le (by omega)] at i2
   simp [i2]
 ·have e1:(((l.length:Nat):Int)=((m.length:Nat):Int))=False:=eq_false (by omega)
  try simp only [go_sem,seval,TD,cB,e1,decide_false]
  refine ZC ?_
  have:l≠m:=fun e=>hlm (by rw [e])
  simp [this]
theorem Ij (c:Cls):Pur Tryz.prog 111 [.agg c.emb] (vb (!c.any)):=by
 intro σ
 obtain ⟨a,n⟩:=c
 simp only [Cls.emb]
 refine Zc [] [] Tryz.func111 rfl (by kernel_rfl) ?_;rw [Tryz.ntmps111,Tryz.results111]
 try simp only [go_sem,seval,BD]
 cases a<;>try simp only [go_sem,seval,BD]<;>exact Zu
theorem Dk (l:List Cls):Pur Tryz.prog 110 [.list .none 2 (cA l),.val (.func (.func 111) #[] #[])] (vb (l.any fun c=>!c.any)):=by
 intro σ
 have h:=Ts (.func (.func 111) #[] #[]) .none 2 (cA l) (fun _=>σ) (fun i=>match l[i]? with | some t=>!t.any | none=>false) (.inl rfl) (fun i e he=>dh l e (List.mem_of_getElem? he))
  (fun i e he _=>by
   obtain ⟨t,ht,rfl⟩:=du he
   rw [Y5]
   simp only [ht]
   exact (Ij t) σ)
 refine h.mono fun x σ' hx=>?_
 refine hx.one ?_
 rw [cS,List.any_eq_true]
 constructor
 ·rintro ⟨n,hn,hb⟩
  obtain ⟨i,hi,rfl⟩:=List.getElem_of_mem hn
  exact ⟨i,hi,by simp only [List.getElem?_eq_getElem hi];exact hb⟩
 ·rintro ⟨i,hi,hb⟩
  simp only [List.getElem?_eq_getElem hi] at hb
  exact ⟨_,List.getElem_mem hi,hb⟩
theorem GQ (r:Row):Pur Tryz.prog 109 [.agg r.emb] (vb (r.classes.any fun c=>!c.any)):=by
 intro σ
 simp only [Row.emb]
 refine Zc [] [] Tryz.func109 rfl (by kernel_rfl) ?_;rw [Tryz.ntmps109,Tryz.results109]
 try simp only [go_sem,seval,BE]
 refine (Dk r.classes).use ?_
 try simp only [go_sem,seval,BE]
 exact Zu
theorem Dj (l:List Row):Pur Tryz.prog 108 [.list .none 3 (cC l),.val (.func (.func 109) #[] #[])] (vb (l.any fun r=>r.classes.any fun c=>!c.any)):=by
 intro σ
 have h:=SF (.func (.func 109) #[] #[]) .none 3 (cC l) (fun _=>σ) (fun i=>match l[i]? with | some r=>r.classes.any (fun c=>!c.any) | none=>false) (.inl rfl) (fun i e he=>by obtain ⟨t,_,rfl⟩:=df he;rfl)
  (fun i e he _=>by
   obtain ⟨t,ht,rfl⟩:=df he
   rw [Y5]
   simp only [ht]
   exact (GQ t) σ)
 refine h.mono fun x σ' hx=>?_
 refine hx.one ?_
 rw [cE,List.any_eq_true]
 constructor
 ·rintro ⟨n,hn,hb⟩
  obtain ⟨i,hi,rfl⟩:=List.getElem_of_mem hn
  exact ⟨i,hi,by simp only [List.getElem?_eq_getElem hi];exact hb⟩
 ·rintro ⟨i,hi,hb⟩
  simp only [List.getElem?_eq_getElem hi] at hb
  exact ⟨_,List.getElem_mem hi,hb⟩
theorem Fg {l:List Row}{i:Nat}{r:Row}(h:l[i]?=some r)(a:Int)(c:Cls):ofS (l.take (i+1)) a c=ofS (l.take i) a c++(if YD (YT r a) c=true then [YM a r] else []):=by
 unfold ofS
 rw [List.take_add_one,h,Option.toList_some,List.filter_append,List.map_append]
 congr 1
 by_cases hf:YD (YT r a) c=true<;>simp [hf]
theorem RA (l:List Row)(a:Int)(c:Cls):(ofS l a c).length≤l.length:=by
 unfold ofS;rw [List.length_map];exact List.length_filter_le _ _
def trO (k:Int)(p:List Pick)(a:Int)(y:List Tr)(c:List Cs)(e:List Tr):AObj:=.cells (Tr.mk k p a y c e).emb
def rwO (l:List Row):AObj:=.cells [.list .none 3 (cC l)]
def R7 (r:Row)(S0:Store):Fr→Store→Prop:=fun fr' σ'=>∃ b b9 cap rest,Zx S0 b∧Zx ((b,AObj.cells ((cA r.classes).flatten++rest))::S0) b9∧r.classes.length≤cap∧r.classes.length≤137438953472∧fr' 9=.val (.pointer (some ⟨b9,0,none⟩)) ∧
 Sub ((b9,.cells [vi r.pick.rule,vi r.pick.alt,.val (.slice (some ⟨b,0,none⟩) r.classes.length cap)])::(b,.cells ((cA r.classes).flatten++rest))::S0) σ'
section
variable (k:Int) (p:List Pick) (a:Int) (y:List Tr) (cs:List Cs) (e:List Tr) (l:List Row)
set_option maxHeartbeats 2000000 in
theorem BI (cl:Cls)(hcl:cl.any=false)(h0:0≤a)(hlen:l.length≤137438953472)(hc:∀ r∈l,a.toNat<r.classes.length)(b1 b2:Nat)(σ:Store)(g1:σ.get b1=some (rwO l))(g2:σ.get b2=some (trO k p a y cs e)) :
 Zj Tryz.prog 112 [.agg cl.emb,.val (.pointer (some ⟨b1,0,none⟩)),.val (.pointer (some ⟨b2,0,none⟩))] σ (Z8 (.list .none 3 (cC (ofS l a cl))) σ):=by
 refine Zj.nodup (by kernel_rfl) (fun hnd=>?_)
 obtain ⟨ai,rfl⟩:∃ ai:Nat,a=ai:=⟨a.toNat,by omega⟩
 simp only [Int.toNat_natCast] at hc
 obtain ⟨ca,cn⟩:=cl
 simp only at hcl
 subst hcl
 simp only [trO,rwO,cm] at g1 g2
 simp only [Cls.emb]
 refine Zc [] [(7,1000,0)] Tryz.func112 rfl (by kernel_rfl) ?_;rw [Tryz.ntmps112,Tryz.results112]
 try simp only [go_sem,seval,YQ,g1,g2,cE]
 refine Zv (mu:=[]) (dr:=[(7,1000,0)]) [5,7,8,9,12,13,14,15,16,17,18,19,20,21,22,23,24,25,26,27,28,29,30,31,32,33,34,35,36,37,38,39,40,41,42,43,44] (fun x:Nat×AV×Store=>[(12,vi x.1),(5,x.2.1)]) (fun x=>x.2.2) (fun x=>x.1≤l.length∧LV σ x.2.2 x.2.1 3 (cC (ofS (l.take x.1) (ai:Nat) ⟨false,cn⟩))∧Has σ x.2.2∧Yw σ σ x.2.2) (fun x=>l.length-x.1) (0,.list .full 0 [],σ) (by kernel_rfl) ⟨by omega,by simpa [ofS,cC] using LV.nil σ σ 3,.refl _,.refl _ _⟩ ⟨.refl _,.refl _,trivial⟩ (.refl _) ?_
 rintro ⟨i,v,S⟩ ⟨i1,i2,i3,i4⟩
 simp only at i1 i2 i3 i4
 have s2:S.get b2=_:=i4 b2 _ (by rw [g2];rfl) g2
 try simp only [go_sem,seval,YQ,cE]
 refine ⟨fun h1=>⟨by omega,h1,fun d hd=>?_⟩,fun h1=>?_⟩
 ·rw [Int.toNat_natCast] at hd
  obtain ⟨r,hr,rfl⟩:=df hd
  have hst:=Fg hr (ai:Nat) ⟨false,cn⟩
  have hra:=hc r (List.mem_of_getElem? hr)
  obtain ⟨c0,hc0⟩:∃ c0,r.classes[ai]?=some c0:=⟨_,List.getElem?_eq_getElem hra⟩
  have hco:YT r (ai:Nat)=c0:=by simp [YT,List.getD_eq_getElem?_getD,hc0]
  rw [hco] at hst
  have hof:=RA (l.take i) (ai:Nat) ⟨false,cn⟩
  rw [List.length_take] at hof
  try simp only [go_sem,seval,YQ,Row.emb]
  intro b7 hb7
  have n72:b7≠b2:=Zt hb7 s2
  try simp only [go_sem,seval,YQ,n72,s2,cS]
  refine ⟨by omega,by omega,fun d hd=>?_⟩
  rw [Int.toNat_natCast] at hd
  obtain ⟨c1,hc1,rfl⟩:=du hd
  rw [hc0] at hc1;injection hc1 with hc1;subst hc1
  try simp only [go_sem,seval,YQ,Cls.emb]
  intro b8 hb8
  try simp only [go_sem,seval,YQ]
  have hfit:=Ks c0 ⟨false,cn⟩
  simp only [Cls.emb] at hfit
  refine hfit.use ?_
  have n82:b8≠b2:=Zt hb8 (by rw [Za n72];exact s2)
  have n87:b8≠b7:=Ne.symm hb8.1
  cases hf:YD c0 ⟨false,cn⟩ with
  | false =>
    rw [hf,if_neg (by decide),List.append_nil] at hst
    try simp only [go_sem,seval,YQ]
    rw [show IntKind.i64.wrap ((i:Int)+1)=((i+1:Nat):Int) from Zp (by omega) (by omega)]
    exact .mk (i+1,v,S) ⟨by simp only;omega,by simp only [hst];exact i2,i3,i4⟩ (by simp only;omega) ⟨.refl _,.refl _,trivial⟩ (by repeat first | exact Zf.turn _ rfl | refine Zf.put rfl ?_) (((Sub.refl _).skip _).skip _)
  | true =>
    rw [hf,if_pos rfl] at hst
    try simp only [go_sem,seval,YQ,n87]
    have hne:r.classes≠[]:=fun h=>by rw [h] at hra;simp at hra
    refine .cut [9,25,26,27,28,29,30] (R7 r _) (fun _ _=>False) (.opq 7 (.val (.pointer (some ⟨b7,0,none⟩))) b7 (.cells [vi r.pick.rule,vi r.pick.alt,.list .none 2 (cA r.classes)]) rfl (by rw [Za n87,Zi]) fun fr0 S0 h7 g7=>.ord (mu:=[]) 0 (.alt 1 (.alt 2 (.alt 3 (.alt 4 (.alt 5 (.alt 6 (.alt 7 .done .done) .done) (.alt 6 (.alt 5 (.alt 7 .done .done) .done) .done)) (.alt 6 (.alt 4 (.alt 5 (.alt 7 .done .done) .done) .done) .done)) (.alt 6 (.alt 3 (.alt 4 (.alt 5 (.alt 7 .done .done) .done) .done) .done) .done)) (.alt 6 (.alt 2 (.alt 3 (.alt 4 (.alt 5 (.alt 7 .done .done) .done) .done) .done) .done) .done)) (.alt 2 (.alt 1 (.alt 3 (.alt 4 (.alt 5 (.alt 6 (.alt 7 .done .done) .done) (.alt 6 (.alt 5 (.alt 7 .done .done) .done) .done)) (.alt 6 (.alt 4 (.alt 5 (.alt 7 .done .done) .done) .done) .done)) (.alt 6 (.alt 3 (.alt 4 (.alt 5 (.alt 7 .done .done) .done) .done) .done) .done)) (.alt 3 (.alt 1 (.alt 4 (.alt 5 (.alt 6 (.alt 7 .done .done) .done) (.alt 6 (.alt 5 (.alt 7 .done .done) .done) .done)) (.alt 6 (.alt 4 (.alt 5 (.alt 7 .done .done) .done) .done) .done)) (.alt 4 (.alt 1 (.alt 5 (.alt 6 (.alt 7 .done .done) .done) (.alt 6 (.alt 5 (.alt 7 .done .done) .done) .done)) (.alt 6 (.alt 1 (.alt 5 (.alt 7 .done .done) .done) .done) .done)) (.alt 6 (.alt 1 (.alt 4 (.alt 5 (.alt 7 .done .done) .done) .done) (.alt 4 (.alt 1 (.alt 5 (.alt 7 .done .done) .done) .done) .done)) .done))) (.alt 6 (.alt 1 (.alt 3 (.alt 4 (.alt 5 (.alt 7 .done .done) .done) .done) .done) (.alt 3 (.alt 1 (.alt 4 (.alt 5 (.alt 7 .done .done) .done) .done) (.alt 4 (.alt 1 (.alt 5 (.alt 7 .done .done) .done) .done) .done)) .done)) .done))) (.alt 6 (.alt 1 (.alt 2 (.alt 3 (.alt 4 (.alt 5 (.alt 7 .done .done) .done) .done) .done) .done) (.alt 2 (.alt 1 (.alt 3 (.alt 4 (.alt 5 (.alt 7 .done .done) .done) .done) .done) (.alt 3 (.alt 1 (.alt 4 (.alt 5 (.alt 7 .done .done) .done) .done) (.alt 4 (.alt 1 (.alt 5 (.alt 7 .done .done) .done) .done) .done)) .done)) .done)) .done))) (.alt 2 (.alt 0 (.alt 1 (.alt 3 (.alt 4 (.alt 5 (.alt 6 (.alt 7 .done .done) .done) (.alt 6 (.alt 5 (.alt 7 .done .done) .done) .done)) (.alt 6 (.alt 4 (.alt 5 (.alt 7 .done .done) .done) .done) .done)) (.alt 6 (.alt 3 (.alt 4 (.alt 5 (.alt 7 .done .done) .done) .done) .done) .done)) (.alt 3 (.alt 1 (.alt 4 (.alt 5 (.alt 6 (.alt 7 .done .done) .done) (.alt 6 (.alt 5 (.alt 7 .done .done) .done) .done)) (.alt 6 (.alt 4 (.alt 5 (.alt 7 .done .done) .done) .done) .done)) (.alt 4 (.alt 1 (.alt 5 (.alt 6 (.alt 7 .done .done) .done) (.alt 6 (.alt 5 (.alt 7 .done .done) .done) .done)) (.alt 6 (.alt 1 (.alt 5 (.alt 7 .done .done) .done) .done) .done)) (.alt 6 (.alt 1 (.alt 4 (.alt 5 (.alt 7 .done .done) .done) .done) (.alt 4 (.alt 1 (.alt 5 (.alt 7 .done .done) .done) .done) .done)) .done))) (.alt 6 (.alt 1 (.alt 3 (.alt 4 (.alt 5 (.alt 7 .done .done) .done) .done) .done) (.alt 3 (.alt 1 (.alt 4 (.alt 5 (.alt 7 .done .done) .done) .done) (.alt 4 (.alt 1 (.alt 5 (.alt 7 .done .done) .done) .done) .done)) .done)) .done))) (.alt 3 (.alt 0 (.alt 1 (.alt 4 (.alt 5 (.alt 6 (.alt 7 .done .done) .done) (.alt 6 (.alt 5 (.alt 7 .done .done) .done) .done)) (.alt 6 (.alt 4 (.alt 5 (.alt 7 .done .done) .done) .done) .done)) (.alt 4 (.alt 1 (.alt 5 (.alt 6 (.alt 7 .done .done) .done) (.alt 6 (.alt 5 (.alt 7 .done .done) .done) .done)) (.alt 6 (.alt 1 (.alt 5 (.alt 7 .done .done) .done) .done) .done)) (.alt 6 (.alt 1 (.alt 4 (.alt 5 (.alt 7 .done .done) .done) .done) (.alt 4 (.alt 1 (.alt 5 (.alt 7 .done .done) .done) .done) .done)) .done))) (.alt 4 (.alt 0 (.alt 1 (.alt 5 (.alt 6 (.alt 7 .done .done) .done) (.alt 6 (.alt 5 (.alt 7 .done .done) .done) .done)) (.alt 6 (.alt 1 (.alt 5 (.alt 7 .done .done) .done) .done) .done)) (.alt 6 (.alt 0 (.alt 1 (.alt 5 (.alt 7 .done .done) .done) .done) .done) .done)) (.alt 6 (.alt 0 (.alt 1 (.alt 4 (.alt 5 (.alt 7 .done .done) .done) .done) (.alt 4 (.alt 1 (.alt 5 (.alt 7 .done .done) .done) .done) .done)) (.alt 4 (.alt 0 (.alt 1 (.alt 5 (.alt 7 .done .done) .done) .done) .done) .done)) .done))) (.alt 6 (.alt 0 (.alt 1 (.alt 3 (.alt 4 (.alt 5 (.alt 7 .done .done) .done) .done) .done) (.alt 3 (.alt 1 (.alt 4 (.alt 5 (.alt 7 .done .done) .done) .done) (.alt 4 (.alt 1 (.alt 5 (.alt 7 .done .done) .done) .done) .done)) .done)) (.alt 3 (.alt 0 (.alt 1 (.alt 4 (.alt 5 (.alt 7 .done .done) .done) .done) (.alt 4 (.alt 1 (.alt 5 (.alt 7 .done .done) .done) .done) .done)) (.alt 4 (.alt 0 (.alt 1 (.alt 5 (.alt 7 .done .done) .done) .done) .done) .done)) .done)) .done))) (.alt 6 (.alt 0 (.alt 1 (.alt 2 (.alt 3 (.alt 4 (.alt 5 (.alt 7 .done .done) .done) .done) .done) .done) (.alt 2 (.alt 1 (.alt 3 (.alt 4 (.alt 5 (.alt 7 .done .done) .done) .done) .done) (.alt 3 (.alt 1 (.alt 4 (.alt 5 (.alt 7 .done .done) .done) .done) (.alt 4 (.alt 1 (.alt 5 (.alt 7 .done .done) .done) .done) .done)) .done)) .done)) (.alt 2 (.alt 0 (.alt 1 (.alt 3 (.alt 4 (.alt 5 (.alt 7 .done .done) .done) .done) .done) (.alt 3 (.alt 1 (.alt 4 (.alt 5 (.alt 7 .done .done) .done) .done) (.alt 4 (.alt 1 (.alt 5 (.alt 7 .done .done) .done) .done) .done)) .done)) (.alt 3 (.alt 0 (.alt 1 (.alt 4 (.alt 5 (.alt 7 .done .done) .done) .done) (.alt 4 (.alt 1 (.alt 5 (.alt 7 .done .done) .done) .done) .done)) (.alt 4 (.alt 0 (.alt 1 (.alt 5 (.alt 7 .done .done) .done) .done) .done) .done)) .done)) .done)) .done)) (by kernel_rfl) (by kernel_rfl) (by kernel_rfl) ?_) ?_ (fun _ _ _ h=>h.elim)
    ·try simp only [go_sem,seval,YQ,Yd,Yt,Yc,ZU,Z4,Yp,h7,g7]
     repeat' first
      | trivial
      | (refine (VX r.classes hne .none 2 (.inl rfl) _).mono ?_
         rintro x σ' ⟨b,cap,rest,hb,hcap,hlim,rfl,rfl⟩
         have n97':=n97
         have nb7:b≠b7:=Zt hb.2 g7
         have nb1:=Ne.symm hb.1
         try simp only [go_sem,seval,YQ,Yd,Yt,Yc,ZU,Z4,Yp,h7,g7,nb7,nb1,n97])
      | (refine (VX r.classes hne .none 2 (.inl rfl) _).mono ?_
         rintro x σ' ⟨b,cap,rest,hb,hcap,hlim,rfl,rfl⟩
         have nb7:b≠b7:=Zt hb g7
         try simp only [go_sem,seval,YQ,Yd,Yt,Yc,ZU,Z4,Yp,h7,g7,nb7])
      | (intro b9 hb9
         have nb7':=nb7
         have n97:b9≠b7:=Zt hb9.2 g7
         try simp only [go_sem,seval,YQ,Yd,Yt,Yc,ZU,Z4,Yp,h7,g7,n97,nb7])
      | (intro b9 hb9
         have n97:b9≠b7:=Zt hb9 g7
         try simp only [go_sem,seval,YQ,Yd,Yt,Yc,ZU,Z4,Yp,h7,g7,n97])
      | apply And.intro
      | (refine .inl ⟨rfl,?_,b,b9,cap,rest,?_,?_,hcap,hlim,rfl,?_⟩
         ·repeat first | exact Zf.refl _ _ | refine Zf.put rfl ?_
         ·first | exact hb | exact hb.2
         ·first | exact hb9 | exact ⟨Ne.symm hb.1,hb9⟩
         ·first | exact .refl _ | exact .swap)
    rintro fr1 σ1 hks ⟨b,b9,cap,rest,hb,hb9,hcap,hlim,h9,hsub⟩
    refine AWp.wk (ZD (mu:=[]) (dr:=[(7,1000,0)]) (by kernel_rfl) _ (by kernel_rfl) _ _ _ ?_) (Sf.of_turn hks [(9,.val (.pointer (some ⟨b9,0,none⟩)))] ⟨by rw [h9];exact .refl _,trivial⟩) hsub
    have nb2:b≠b2:=Zt hb (by rw [Za n82,Za n72];exact s2)
    have n92:b9≠b2:=Zt hb9 (by rw [Za nb2,Za n82,Za n72];exact s2)
    have n9b:b9≠b:=Ne.symm hb9.1
    try simp only [go_sem,seval,YQ,n92,nb2,n82,n72,s2]
    refine ⟨by omega,by omega,?_⟩
    rw [Int.toNat_natCast]
    have hsp:=QV r.classes rest ai XB hra
    simp only [go_sem,seval,XB,Cls.emb] at hsp
    try simp only [go_sem,seval,YQ,n9b]
    rw [hsp]
    have hfl:=Px (dh r.classes)
    rw [cS] at hfl
    refine ⟨by rw [List.length_append,hfl];omega,rfl,((((i2.cons hb7 _).cons hb8 _).cons hb _).cons ⟨hb9.1,hb9.2⟩ _).append2 rfl (by decide) (by rw [cE];simp only [List.length_singleton];omega) rfl (by simp) ((((i3.cons _).cons _).cons _).cons _) (fun v' S' hv' hkin hk hH=>?_)⟩
    try simp only [go_sem,seval,YQ,hv'.one,hv'.cells]
    rw [show IntKind.i64.wrap ((i:Int)+1)=((i+1:Nat):Int) from Zp (by omega) (by omega)]
    have hgb:S'.get b=some (.cells ((cA (r.classes.set ai XB)).flatten++rest)):=hk b _ (by rw [Za n9b,Zi];rfl) (by intro _ _ h;cases h)
    have hfb:Zx σ b:=(((i3.cons _).cons _)).fresh hb
    have hrb:Lk σ S' ⟨YM (ai:Nat) r,b,cap,rest⟩:=⟨by simpa [YM] using hgb,hfb,by simpa [YM] using hcap,by simpa [YM] using hlim⟩
    have hsh:=N8 hrb
    obtain ⟨v2,hs2,hv2⟩:=hv'.freezeAt (i:=(cC (ofS (l.take i) (ai:Nat) ⟨false,cn⟩)).length) (e:=rbE ⟨YM (ai:Nat) r,b,cap,rest⟩) (e':=(YM (ai:Nat) r).emb) (by rw [List.getElem?_append_right (Nat.le_refl _),Nat.sub_self];simp [rbE,YM]) hgb rfl hsh
    have e2:(cC (ofS (l.take i) (ai:Nat) ⟨false,cn⟩)++[[vi r.pick.rule,vi r.pick.alt,AV.val (Value.slice (some { block:=b,off:=0 }) r.classes.length cap)]]).set (cC (ofS (l.take i) (ai:Nat) ⟨false,cn⟩)).length (YM (ai:Nat) r).emb=cC (ofS (l.take (i+1)) (ai:Nat) ⟨false,cn⟩):=by
     rw [hst];simp [cC]
    rw [e2] at hv2
    have hb9':Zx ((b,AObj.cells ((cA (r.classes.set ai { any:=true,name:=ZS })).flatten++rest))::(b8,AObj.cells [vb c0.any,vs c0.name])::(b7,.cells [vi r.pick.rule,vi r.pick.alt,.list .none 2 (cA r.classes)])::S) b9:=⟨hb9.1,hb9.2⟩
    exact .mkS (i+1,v2,S'.del b) _ _ (WC.put (k:=5) rfl hs2 (Ku S' b)) ⟨by simp only;omega,hv2,hH.del hfb,((((((i4.trans (.cons hb7 _)).trans (.cons hb8 _)).trans (.cons hb _)).trans (.cons hb9' _)).trans hkin).trans (.del hfb))⟩ (by simp only;omega) ⟨.refl _,.refl _,trivial⟩ (by repeat first | exact Zf.turn _ rfl | refine Zf.put rfl ?_ | refine cL _ rfl rfl ?_) (.refl _)
 ·try simp only [go_sem,seval,YQ,i2.one,i2.cells]
  have hil:l.take i=l:=List.take_of_length_le (by omega)
  rw [hil] at i2
  exact ir
end
end Go.Vx
end
section
set_option maxRecDepth 100000
namespace Go.Vx
open Go.Proofs
section
variable (k:Int) (p:List Pick) (a:Int) (y:List Tr) (cs:List Cs) (e:List Tr) (l:List Row)
def OfA (σ:Store)(l:List Row):ZO→Store→Prop:=fun r S=>∃ (v:AV) (xs:List RB),r=.ret v∧LV σ S v 3 (xs.map rbE)∧xs.map RB.row=l∧(∀ x∈xs,Lk σ S x)∧(xs.map RB.blk).Nodup∧Has σ S∧Yw σ σ S
set_option maxHeartbeats 2000000 in
theorem aW (h0:0≤a)(hlen:l.length≤137438953472)(hc:∀ r∈l,a.toNat<r.classes.length)(b1 b2:Nat)(σ:Store)(g1:σ.get b1=some (rwO l))(g2:σ.get b2=some (trO k p a y cs e)) :
 Zj Tryz.prog 112 [.agg [vb true,vs ZS],.val (.pointer (some ⟨b1,0,none⟩)),.val (.pointer (some ⟨b2,0,none⟩))] σ (OfA σ l):=by
 refine Zj.nodup (by kernel_rfl) (fun hnd=>?_)
 obtain ⟨ai,rfl⟩:∃ ai:Nat,a=ai:=⟨a.toNat,by omega⟩
 simp only [Int.toNat_natCast] at hc
 simp only [trO,rwO,cm] at g1 g2
 refine Zc [] [(7,1000,0)] Tryz.func112 rfl (by kernel_rfl) ?_;rw [Tryz.ntmps112,Tryz.results112]
 try simp only [go_sem,seval,YQ,g1,g2,cE]
 refine Zv (mu:=[]) (dr:=[(7,1000,0)]) [5,7,8,9,12,13,14,15,16,17,18,19,20,21,22,23,24,25,26,27,28,29,30,31,32,33,34,35,36,37,38,39,40,41,42,43,44] (fun x:Nat×AV×Store×List RB=>[(12,vi x.1),(5,x.2.1)]) (fun x=>x.2.2.1) (fun x=>x.1≤l.length∧LV σ x.2.2.1 x.2.1 3 (x.2.2.2.map rbE)∧Has σ x.2.2.1∧Yw σ σ x.2.2.1∧x.2.2.2.map RB.row=l.take x.1∧(∀ y∈x.2.2.2,Lk σ x.2.2.1 y)∧(x.2.2.2.map RB.blk).Nodup) (fun x=>l.length-x.1) (0,.list .full 0 [],σ,[]) (by kernel_rfl) ⟨by omega,LV.nil σ σ 3,.refl _,.refl _ _,rfl,by simp,List.nodup_nil⟩ ⟨.refl _,.refl _,trivial⟩ (.refl _) ?_
 rintro ⟨i,v,S,xs⟩ ⟨i1,i2,i3,i4,i5,i6,i7⟩
 simp only at i1 i2 i3 i4 i5 i6 i7
 have s2:S.get b2=_:=i4 b2 _ (by rw [g2];rfl) g2
 have hxl:xs.length=i:=by
  have:=congrArg List.length i5
  rw [List.length_map,List.length_take] at this;omega
 try simp only [go_sem,seval,YQ,cE]
 refine ⟨fun h1=>⟨by omega,h1,fun d hd=>?_⟩,fun h1=>?_⟩
 ·rw [Int.toNat_natCast] at hd
  obtain ⟨r,hr,rfl⟩:=df hd
  have hra:=hc r (List.mem_of_getElem? hr)
  obtain ⟨c0,hc0⟩:∃ c0,r.classes[ai]?=some c0:=⟨_,List.getElem?_eq_getElem hra⟩
  try simp only [go_sem,seval,YQ,Row.emb]
  intro b7 hb7
  have n72:b7≠b2:=Zt hb7 s2
  try simp only [go_sem,seval,YQ,n72,s2,cS]
  refine ⟨by omega,by omega,fun d hd=>?_⟩
  rw [Int.toNat_natCast] at hd
  obtain ⟨c1,hc1,rfl⟩:=du hd
  rw [hc0] at hc1;injection hc1 with hc1;subst hc1
  try simp only [go_sem,seval,YQ,Cls.emb]
  intro b8 hb8
  try simp only [go_sem,seval,YQ]
  have hfit:=Ks c0 ⟨true,ZS⟩
  simp only [Cls.emb] at hfit
  refine hfit.use ?_
  have n82:b8≠b2:=Zt hb8 (by rw [Za n72];exact s2)
  have n87:b8≠b7:=Ne.symm hb8.1
  have hf:YD c0 ⟨true,ZS⟩=true:=by simp [YD]
  rw [hf]
  try simp only [go_sem,seval,YQ,n87]
  have hne:r.classes≠[]:=fun h=>by rw [h] at hra;simp at hra
  refine .cut [9,25,26,27,28,29,30] (R7 r _) (fun _ _=>False) (.opq 7 (.val (.pointer (some ⟨b7,0,none⟩))) b7 (.cells [vi r.pick.rule,vi r.pick.alt,.list .none 2 (cA r.classes)]) rfl (by rw [Za n87,Zi]) fun fr0 S0 h7 g7=>.ord (mu:=[]) 0 (.alt 1 (.alt 2 (.alt 3 (.alt 4 (.alt 5 (.alt 6 (.alt 7 .done .done) .done) (.alt 6 (.alt 5 (.alt 7 .done .done) .done) .done)) (.alt 6 (.alt 4 (.alt 5 (.alt 7 .done .done) .done) .done) .done)) (.alt 6 (.alt 3 (.alt 4 (.alt 5 (.alt 7 .done .done) .done) .done) .done) .done)) (.alt 6 (.alt 2 (.alt 3 (.alt 4 (.alt 5 (.alt 7 .done .done) .done) .done) .done) .done) .done)) (.alt 2 (.alt 1 (.alt 3 (.alt 4 (.alt 5 (.alt 6 (.alt 7 .done .done) .done) (.alt 6 (.alt 5 (.alt 7 .done .done) .done) .done)) (.alt 6 (.alt 4 (.alt 5 (.alt 7 .done .done) .done) .done) .done)) (.alt 6 (.alt 3 (.alt 4 (.alt 5 (.alt 7 .done .done) .done) .done) .done) .done)) (.alt 3 (.alt 1 (.alt 4 (.alt 5 (.alt 6 (.alt 7 .done .done) .done) (.alt 6 (.alt 5 (.alt 7 .done .done) .done) .done)) (.alt 6 (.alt 4 (.alt 5 (.alt 7 .done .done) .done) .done) .done)) (.alt 4 (.alt 1 (.alt 5 (.alt 6 (.alt 7 .done .done) .done) (.alt 6 (.alt 5 (.alt 7 .done .done) .done) .done)) (.alt 6 (.alt 1 (.alt 5 (.alt 7 .done .done) .done) .done) .done)) (.alt 6 (.alt 1 (.alt 4 (.alt 5 (.alt 7 .done .done) .done) .done) (.alt 4 (.alt 1 (.alt 5 (.alt 7 .done .done) .done) .done) .done)) .done))) (.alt 6 (.alt 1 (.alt 3 (.alt 4 (.alt 5 (.alt 7 .done .done) .done) .done) .done) (.alt 3 (.alt 1 (.alt 4 (.alt 5 (.alt 7 .done .done) .done) .done) (.alt 4 (.alt 1 (.alt 5 (.alt 7 .done .done) .done) .done) .done)) .done)) .done))) (.alt 6 (.alt 1 (.alt 2 (.alt 3 (.alt 4 (.alt 5 (.alt 7 .done .done) .done) .done) .done) .done) (.alt 2 (.alt 1 (.alt 3 (.alt 4 (.alt 5 (.alt 7 .done .done) .done) .done) .done) (.alt 3 (.alt 1 (.alt 4 (.alt 5 (.alt 7 .done .done) .done) .done) (.alt 4 (.alt 1 (.alt 5 (.alt 7 .done .done) .done) .done) .done)) .done)) .done)) .done))) (.alt 2 (.alt 0 (.alt 1 (.alt 3 (.alt 4 (.alt 5 (.alt 6 (.alt 7 .done .done) .done) (.alt 6 (.alt 5 (.alt 7 .done .done) .done) .done)) (.alt 6 (.alt 4 (.alt 5 (.alt 7 .done .done) .done) .done) .done)) (.alt 6 (.alt 3 (.alt 4 (.alt 5 (.alt 7 .done .done) .done) .done) .done) .done)) (.alt 3 (.alt 1 (.alt 4 (.alt 5 (.alt 6 (.alt 7 .done .done) .done) (.alt 6 (.alt 5 (.alt 7 .done .done) .done) .done)) (.alt 6 (.alt 4 (.alt 5 (.alt 7 .done .done) .done) .done) .done)) (.alt 4 (.alt 1 (.alt 5 (.alt 6 (.alt 7 .done .done) .done) (.alt 6 (.alt 5 (.alt 7 .done .done) .done) .done)) (.alt 6 (.alt 1 (.alt 5 (.alt 7 .done .done) .done) .done) .done)) (.alt 6 (.alt 1 (.alt 4 (.alt 5 (.alt 7 .done .done) .done) .done) (.alt 4 (.alt 1 (.alt 5 (.alt 7 .done .done) .done) .done) .done)) .done))) (.alt 6 (.alt 1 (.alt 3 (.alt 4 (.alt 5 (.alt 7 .done .done) .done) .done) .done) (.alt 3 (.alt 1 (.alt 4 (.alt 5 (.alt 7 .done .done) .done) .done) (.alt 4 (.alt 1 (.alt 5 (.alt 7 .done .done) .done) .done) .done)) .done)) .done))) (.alt 3 (.alt 0 (.alt 1 (.alt 4 (.alt 5 (.alt 6 (.alt 7 .done .done) .done) (.alt 6 (.alt 5 (.alt 7 .done .done) .done) .done)) (.alt 6 (.alt 4 (.alt 5 (.alt 7 .done .done) .done) .done) .done)) (.alt 4 (.alt 1 (.alt 5 (.alt 6 (.alt 7 .done .done) .done) (.alt 6 (.alt 5 (.alt 7 .done .done) .done) .done)) (.alt 6 (.alt 1 (.alt 5 (.alt 7 .done .done) .done) .done) .done)) (.alt 6 (.alt 1 (.alt 4 (.alt 5 (.alt 7 .done .done) .done) .done) (.alt 4 (.alt 1 (.alt 5 (.alt 7 .done .done) .done) .done) .done)) .done))) (.alt 4 (.alt 0 (.alt 1 (.alt 5 (.alt 6 (.alt 7 .done .done) .done) (.alt 6 (.alt 5 (.alt 7 .done .done) .done) .done)) (.alt 6 (.alt 1 (.alt 5 (.alt 7 .done .done) .done) .done) .done)) (.alt 6 (.alt 0 (.alt 1 (.alt 5 (.alt 7 .done .done) .done) .done) .done) .done)) (.alt 6 (.alt 0 (.alt 1 (.alt 4 (.alt 5 (.alt 7 .done .done) .done) .done) (.alt 4 (.alt 1 (.alt 5 (.alt 7 .done .done) .done) .done) .done)) (.alt 4 (.alt 0 (.alt 1 (.alt 5 (.alt 7 .done .done) .done) .done) .done) .done)) .done))) (.alt 6 (.alt 0 (.alt 1 (.alt 3 (.alt 4 (.alt 5 (.alt 7 .done .done) .done) .done) .done) (.alt 3 (.alt 1 (.alt 4 (.alt 5 (.alt 7 .done .done) .done) .done) (.alt 4 (.alt 1 (.alt 5 (.alt 7 .done .done) .done) .done) .done)) .done)) (.alt 3 (.alt 0 (.alt 1 (.alt 4 (.alt 5 (.alt 7 .done .done) .done) .done) (.alt 4 (.alt 1 (.alt 5 (.alt 7 .done .done) .done) .done) .done)) (.alt 4 (.alt 0 (.alt 1 (.alt 5 (.alt 7 .done .done) .done) .done) .done) .done)) .done)) .done))) (.alt 6 (.alt 0 (.alt 1 (.alt 2 (.alt 3 (.alt 4 (.alt 5 (.alt 7 .done .done) .done) .done) .done) .done) (.alt 2 (.alt 1 (.alt 3 (.alt 4 (.alt 5 (.alt 7 .done .done) .done) .done) .done) (.alt 3 (.alt 1 (.alt 4 (.alt 5 (.alt 7 .done .done) .done) .done) (.alt 4 (.alt 1 (.alt 5 (.alt 7 .done .done) .done) .done) .done)) .done)) .done)) (.alt 2 (.alt 0 (.alt 1 (.alt 3 (.alt 4 (.alt 5 (.alt 7 .done .done) .done) .done) .done) (.alt 3 (.alt 1 (.alt 4 (.alt 5 (.alt 7 .done .done) .done) .done) (.alt 4 (.alt 1 (.alt 5 (.alt 7 .done .done) .done) .done) .done)) .done)) (.alt 3 (.alt 0 (.alt 1 (.alt 4 (.alt 5 (.alt 7 .done .done) .done) .done) (.alt 4 (.alt 1 (.alt 5 (.alt 7 .done .done) .done) .done) .done)) (.alt 4 (.alt 0 (.alt 1 (.alt 5 (.alt 7 .done .done) .done) .done) .done) .done)) .done)) .done)) .done)) (by kernel_rfl) (by kernel_rfl) (by kernel_rfl) ?_) ?_ (fun _ _ _ h=>h.elim)
  ·try simp only [go_sem,seval,YQ,Yd,Yt,Yc,ZU,Z4,Yp,h7,g7]
   repeat' first
    | trivial
    | (refine (VX r.classes hne .none 2 (.inl rfl) _).mono ?_
       rintro x σ' ⟨b,cap,rest,hb,hcap,hlim,rfl,rfl⟩
       have n97':=n97
       have nb7:b≠b7:=Zt hb.2 g7
       have nb1:=Ne.symm hb.1
       try simp only [go_sem,seval,YQ,Yd,Yt,Yc,ZU,Z4,Yp,h7,g7,nb7,nb1,n97])
    | (refine (VX r.classes hne .none 2 (.inl rfl) _).mono ?_
       rintro x σ' ⟨b,cap,rest,hb,hcap,hlim,rfl,rfl⟩
       have nb7:b≠b7:=Zt hb g7
       try simp only [go_sem,seval,YQ,Yd,Yt,Yc,ZU,Z4,Yp,h7,g7,nb7])
    | (intro b9 hb9
       have nb7':=nb7
       have n97:b9≠b7:=Zt hb9.2 g7
       try simp only [go_sem,seval,YQ,Yd,Yt,Yc,ZU,Z4,Yp,h7,g7,n97,nb7])
    | (intro b9 hb9
       have n97:b9≠b7:=Zt hb9 g7
       try simp only [go_sem,seval,YQ,Yd,Yt,Yc,ZU,Z4,Yp,h7,g7,n97])
    | apply And.intro
    | (refine .inl ⟨rfl,?_,b,b9,cap,rest,?_,?_,hcap,hlim,rfl,?_⟩
       ·repeat first | exact Zf.refl _ _ | refine Zf.put rfl ?_
       ·first | exact hb | exact hb.2
       ·first | exact hb9 | exact ⟨Ne.symm hb.1,hb9⟩
       ·first | exact .refl _ | exact .swap)
  rintro fr1 σ1 hks ⟨b,b9,cap,rest,hb,hb9,hcap,hlim,h9,hsub⟩
  refine AWp.wk (ZD (mu:=[]) (dr:=[(7,1000,0)]) (by kernel_rfl) _ (by kernel_rfl) _ _ _ ?_) (Sf.of_turn hks [(9,.val (.pointer (some ⟨b9,0,none⟩)))] ⟨by rw [h9];exact .refl _,trivial⟩) hsub
  have nb2:b≠b2:=Zt hb (by rw [Za n82,Za n72];exact s2)
  have n92:b9≠b2:=Zt hb9 (by rw [Za nb2,Za n82,Za n72];exact s2)
  have n9b:b9≠b:=Ne.symm hb9.1
  try simp only [go_sem,seval,YQ,n92,nb2,n82,n72,s2]
  refine ⟨rfl,((((i2.cons hb7 _).cons hb8 _).cons hb _).cons hb9 _).append2 rfl (by decide) (by rw [List.length_map];simp only [List.length_singleton];omega) rfl (by simp) ((((i3.cons _).cons _).cons _).cons _) (fun v' S' hv' hkin hk hH=>?_)⟩
  try simp only [go_sem,seval,YQ,hv'.one,hv'.cells]
  rw [show IntKind.i64.wrap ((i:Int)+1)=((i+1:Nat):Int) from Zp (by omega) (by omega)]
  have hgb:S'.get b=some (.cells ((cA r.classes).flatten++rest)):=hk b _ (by rw [Za n9b,Zi]) (by intro _ _ h;cases h)
  have hfb:Zx σ b:=(((i3.cons _).cons _)).fresh hb
  have hrb:Lk σ S' ⟨r,b,cap,rest⟩:=⟨hgb,hfb,hcap,hlim⟩
  have old:∀ y∈xs,Lk σ S' y∧y.blk≠b:=by
   intro y hy
   obtain ⟨q1,q2,q3,q4⟩:=i6 y hy
   have m7:b7≠y.blk:=Zt hb7 q1
   have m8:b8≠y.blk:=Zt hb8 (by rw [Za m7];exact q1)
   have mb:b≠y.blk:=Zt hb (by rw [Za m8,Za m7];exact q1)
   have m9:b9≠y.blk:=Zt hb9 (by rw [Za mb,Za m8,Za m7];exact q1)
   exact ⟨⟨hk y.blk _ (by rw [Za m9,Za mb,Za m8,Za m7];exact q1) (by intro _ _ h;cases h),q2,q3,q4⟩,Ne.symm mb⟩
  refine .mk (i+1,v',S',xs++[⟨r,b,cap,rest⟩]) ⟨by simp only;omega,by simp only [List.map_append];exact hv',hH,(((((i4.trans (.cons hb7 _)).trans (.cons hb8 _)).trans (.cons hb _)).trans (.cons hb9 _)).trans hkin),?_,?_,?_⟩ (by simp only;omega) ⟨.refl _,.refl _,trivial⟩ (by repeat first | exact Zf.turn _ rfl | refine Zf.put rfl ?_ | refine cL _ rfl rfl ?_) (.refl _)
  ·simp only;rw [List.map_append,i5,List.take_add_one,hr];rfl
  ·intro y hy
   rcases List.mem_append.1 hy with h | h
   ·exact (old y h).1
   ·simp at h;subst h;exact hrb
  ·simp only;rw [List.map_append,List.nodup_append]
   refine ⟨i7,by simp,fun x hx z hz=>?_⟩
   obtain ⟨y,hy,rfl⟩:=List.mem_map.1 hx
   simp at hz;subst hz
   exact (old y hy).2
 ·try simp only [go_sem,seval,YQ,i2.one,i2.cells]
  have hil:l.take i=l:=List.take_of_length_le (by omega)
  rw [hil] at i5
  exact .mk (.refl _) (.refl _) ⟨v,xs,rfl,i2,i5,i6,i7,i3,i4⟩
end
end Go.Vx
end
