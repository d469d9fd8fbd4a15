/- Part Q28 of the proof of treeCaughtProved: the walk of the program on abstract values, and the plain law. -/
import Derived.Test.YtmedmnondjmleaaGreatQ27
import Derived.Test.YtmedmnondjmleaaGreatQ16
import Derived.WideKeyRuns
import Derived.Test.YtmedmnondjmleaaGreatQ15
set_option linter.unusedVariables false
set_option linter.unusedSimpArgs false
section
set_option maxRecDepth 100000
namespace Go.Vx
open Go.Proofs
theorem tb91:(fOff Tryz.prog 25 0=some 0)∧(szOf Tryz.prog 22=some 1)∧(aggOf Tryz.prog 22=some false)∧(szOf Tryz.prog 25=some 2)∧(aggOf Tryz.prog 25=some true)∧(fOff Tryz.prog 25 1=some 1)∧(szOf Tryz.prog 23=some 1)∧(aggOf Tryz.prog 23=some false)∧(elOf Tryz.prog 23=some 3)∧(szOf Tryz.prog 3=some 1)∧(aggOf Tryz.prog 3=some false)∧(elOf Tryz.prog 22=some 129)∧(szOf Tryz.prog 129=some 2)∧(fOff Tryz.prog 129 0=some 0)∧(szOf Tryz.prog 126=some 1)∧(aggOf Tryz.prog 126=some false)∧(aggOf Tryz.prog 129=some true)∧(zeroOf Tryz.prog 129=some (.agg #[(.slice none 0 0),(.slice none 0 0)]))∧(fOff Tryz.prog 129 1=some 1)∧(szOf Tryz.prog 127=some 1)∧(aggOf Tryz.prog 127=some false)∧(elOf Tryz.prog 127=some 132)∧(szOf Tryz.prog 132=some 7)∧(aggOf Tryz.prog 132=some true)∧(zeroOf Tryz.prog 132=some (.agg #[(.slice none 0 0),(.slice none 0 0),(.slice none 0 0),(.string ⟨#[]⟩),(.slice none 0 0),(.slice none 0 0),(.slice none 0 0)]))∧(fOff Tryz.prog 132 2=some 2)∧(elOf Tryz.prog 184=some 23)∧(zeroOf Tryz.prog 23=some (.slice none 0 0))∧(Tryz.prog.underlying 22=some (.slice 129))∧(Tryz.prog.underlying 23=some (.slice 3))∧(Tryz.prog.underlying 126=some (.slice 150))∧(Tryz.prog.underlying 127=some (.slice 132))∧(bytesOf Tryz.prog 23=some 24):=by
  refine ⟨?_,?_,?_,?_,?_,?_,?_,?_,?_,?_,?_,?_,?_,?_,?_,?_,?_,?_,?_,?_,?_,?_,?_,?_,?_,?_,?_,?_,?_,?_,?_,?_,?_⟩<;>first | trivial | kernel_rfl
theorem tb92:(fOff Tryz.prog 25 1=some 1)∧(szOf Tryz.prog 23=some 1)∧(aggOf Tryz.prog 23=some false)∧(elOf Tryz.prog 23=some 3)∧(szOf Tryz.prog 3=some 1)∧(aggOf Tryz.prog 3=some false)∧(fOff Tryz.prog 25 0=some 0)∧(szOf Tryz.prog 22=some 1)∧(aggOf Tryz.prog 22=some false)∧(elOf Tryz.prog 22=some 129)∧(szOf Tryz.prog 129=some 2)∧(fOff Tryz.prog 129 1=some 1)∧(szOf Tryz.prog 127=some 1)∧(aggOf Tryz.prog 127=some false)∧(elOf Tryz.prog 127=some 132)∧(szOf Tryz.prog 132=some 7)∧(aggOf Tryz.prog 132=some true)∧(zeroOf Tryz.prog 132=some (.agg #[(.slice none 0 0),(.slice none 0 0),(.slice none 0 0),(.string ⟨#[]⟩),(.slice none 0 0),(.slice none 0 0),(.slice none 0 0)]))∧(fOff Tryz.prog 132 3=some 3)∧(szOf Tryz.prog 9=some 1)∧(aggOf Tryz.prog 9=some false)∧(zeroOf Tryz.prog 50=some (.agg #[(.int .i64 0),(.int .i64 0)]))∧(plsOf Tryz.prog 50=some [(0,1),(1,1)])∧(elOf Tryz.prog 153=some 50)∧(szOf Tryz.prog 50=some 2)∧(Tryz.prog.underlying 23=some (.slice 3))∧(Tryz.prog.underlying 22=some (.slice 129))∧(Tryz.prog.underlying 127=some (.slice 132))∧(bytesOf Tryz.prog 50=some 16):=by
  refine ⟨?_,?_,?_,?_,?_,?_,?_,?_,?_,?_,?_,?_,?_,?_,?_,?_,?_,?_,?_,?_,?_,?_,?_,?_,?_,?_,?_,?_,?_⟩<;>first | trivial | kernel_rfl
def maxLen (l:List (List Int)):Nat:=l.foldr (fun p m=>max p.length m) 0
theorem maxLen_le {l:List (List Int)}{p:List Int}(h:p∈l):p.length≤maxLen l:=by
  induction l with
  | nil=>cases h
  | cons a r ih =>
    simp only [maxLen,List.foldr_cons]
    rcases List.mem_cons.1 h with e | h
    · rw [e];omega
    · have:=ih h;simp only [maxLen] at this;omega
def fitB (l:List (List Int)):Bool:=fitF (maxLen l+1) l
theorem fitB_c (l:List (List Int))(hl:l≠[]):Pur Tryz.prog 131 [.list .none 1 (pths l)] (vb (fitB l)) :=
  fit_c (maxLen l+1) l hl (fun p hp=>by have:=maxLen_le hp;omega)
def ruleB (f:Flat)(n:Int):Bool:=decide (n=-1) || (decide (0≤n)&&(match f.groups[n.toNat]? with | some u=>decide (u.env.length=0) | none=>false))
def groupB (f:Flat)(i:Nat):Bool:=match f.groups[i]? with
  | some u=>!decide (u.alts.length=0)&&u.env.all formedT&&u.alts.all (clauseB f i)&&fitB (u.alts.map FClause.path)
  | none=>false
def chkOK (f:Flat):Bool:=decide (f.groups.length≤1000)&&decide (nodesN f≤8000)&&f.rules.all (ruleB f)&&(List.range f.groups.length).all (groupB f)
def chkF (f:Flat):Int:=if chkOK f then 0 else 220
theorem all_range_take {n:Nat}{P:Nat→Bool}:(List.range (n+1)).all P=((List.range n).all P&&P n):=by simp [List.range_succ]
theorem check_flat_c (f:Flat):Pur Tryz.prog 91 [.agg f.emb] (vi (chkF f)):=by
  intro σ
  refine ACalls.nodup (by kernel_rfl) (fun hnd=>?_)
  refine ACalls.ok (by kernel_rfl) (fun hok=>?_)
  have hf:=hok _ List.mem_cons_self
  clear hok
  have hgr:=hf.agg (c:=.list .none 2 (FGroup.embs f.groups)) (by simp [Flat.emb])
  have hlg:=hgr.len
  rw [FGroup.embs_len] at hlg
  have hlr:=(hf.agg (c:=.list .none 1 (ints f.rules)) (by simp [Flat.emb])).len
  rw [ints_len] at hlr
  have hn:=nodes_c f
  have hw:∀ j:Nat,j≤137438953472→IntKind.i64.wrap ((j:Int)+1)=((j+1:Nat):Int):=fun j hj=>wrap64 (by omega) (by omega)
  have hcl:=fun (i:Nat) (G:FGroup) (hG:f.groups[i]?=some G) (c:FClause)=>clause_c f i G hG c
  simp only [Flat.emb] at hn hcl ⊢
  have bad:chkOK f=false→chkF f=220:=fun h=>by unfold chkF;rw [h];rfl
  refine acalls_of [] [] Tryz.func91 rfl (by kernel_rfl) ?_;rw [Tryz.ntmps91,Tryz.results91]
  obtain ⟨bg,fg⟩:∃ b,decide (1000<(f.groups.length:Int))=b:=⟨_,rfl⟩
  try simp only [go_sem,seval,tb91,FGroup.embs_len,fg]
  cases bg with
  | true =>
    try simp only [go_sem,seval,tb91,FGroup.embs_len]
    have h:¬ f.groups.length≤1000:=by have:=of_decide_eq_true fg;omega
    rw [bad (by unfold chkOK;rw [decide_eq_false h];simp)]
    exact fin_same
  | false =>
    have hg0:f.groups.length≤1000:=by have:=of_decide_eq_false fg;omega
    try simp only [go_sem,seval,tb91,FGroup.embs_len]
    refine hn.use ?_
    by_cases hnn:nodesN f≤8000
    · have e1:nodesS f=nodesN f:=by unfold nodesS;rw [if_pos hnn]
      rw [e1]
      have f1:(8000<(nodesN f:Int))=False:=eq_false (by omega)
      try simp only [go_sem,seval,tb91,f1,decide_false,ints_len,FGroup.embs_len]
      refine aloopT (mu:=[]) (dr:=[]) [2,4,22,23,24,25,26,27,28,29,30,31,32,33,34,35,36,37,38,39,40,41,42,43,44,45,46,47,48,49] (fun i:Nat=>[(22,vi i)]) (fun _=>σ) (fun i=>i≤f.rules.length∧(f.rules.take i).all (ruleB f)=true) (fun i=>f.rules.length-i) 0 (by kernel_rfl) ⟨by omega,by simp⟩ ⟨.refl _,trivial⟩ (.refl _) ?_
      rintro i ⟨i1,i2⟩
      try simp only [go_sem,seval,tb91,ints_len,FGroup.embs_len]
      refine ⟨fun h1=>⟨by omega,h1,fun c hc=>?_⟩,fun h1=>?_⟩
      · rw [Int.toNat_natCast] at hc
        obtain ⟨n,hn',rfl⟩:=mapGet hc
        have hnx:(f.rules.take (i+1)).all (ruleB f)=ruleB f n:=by rw [List.take_add_one,hn',Option.toList_some,List.all_append,i2];simp
        have hrb:ruleB f n=false→chkF f=220:=fun h=>bad (by
          have:f.rules.all (ruleB f)=false:=by
            rw [List.all_eq_false]
            exact ⟨n,List.mem_of_getElem? hn',by rw [h];simp⟩
          unfold chkOK;rw [this];simp)
        by_cases n1:n=-1
        · have q1:(n=-1)=True:=eq_true n1
          try simp only [go_sem,seval,tb91,q1,decide_true]
          have hr:ruleB f n=true:=by simp [ruleB,n1]
          rw [hw i (by omega)]
          exact .mk (i+1) ⟨by omega,by rw [hnx];exact hr⟩ (by omega) ⟨.refl _,trivial⟩ (by repeat first | exact Keeps.turn _ rfl | refine Keeps.put rfl ?_) (.refl _)
        · have q1:(n=-1)=False:=eq_false n1
          by_cases n2:n<0
          · have q2:(n<0)=True:=eq_true n2
            try simp only [go_sem,seval,tb91,q1,q2,decide_true,decide_false]
            rw [hrb (by have:¬ 0≤n:=by omega
                        simp [ruleB,n1,this])]
            exact fin_same
          · have q2:(n<0)=False:=eq_false n2
            by_cases n3:(f.groups.length:Int)≤n
            · have q3:((f.groups.length:Int)≤n)=True:=eq_true n3
              try simp only [go_sem,seval,tb91,q1,q2,q3,decide_true,decide_false,FGroup.embs_len]
              rw [hrb (by have:f.groups[n.toNat]?=none:=List.getElem?_eq_none (by omega)
                          simp [ruleB,n1,this])]
              exact fin_same
            · have q3:((f.groups.length:Int)≤n)=False:=eq_false n3
              try simp only [go_sem,seval,tb91,q1,q2,q3,decide_true,decide_false,FGroup.embs_len]
              refine ⟨by omega,by omega,fun c hc=>?_⟩
              obtain ⟨u,hu,rfl⟩:=FGroup.embs_get hc
              try simp only [go_sem,seval,tb91,q1,q2,q3,decide_true,decide_false,FGroup.emb,Ty.embs_len]
              refine ⟨fun g1=>?_,fun g1=>?_⟩
              · have n4:¬ u.env.length=0:=by omega
                rw [hrb (by simp only [ruleB,hu,decide_eq_false n1,decide_eq_false n4];simp)]
                exact fin_same
              · have n4:u.env.length=0:=by omega
                have hr:ruleB f n=true:=by simp only [ruleB,hu,decide_eq_false n1,decide_eq_true n4];simp;omega
                rw [hw i (by omega)]
                exact .mk (i+1) ⟨by omega,by rw [hnx];exact hr⟩ (by omega) ⟨.refl _,trivial⟩ (by repeat first | exact Keeps.turn _ rfl | refine Keeps.put rfl ?_) (.refl _)
      · have hir:f.rules.take i=f.rules:=List.take_of_length_le (by omega)
        rw [hir] at i2
        try simp only [go_sem,seval,tb91,FGroup.embs_len]
        refine aloopT (mu:=[]) (dr:=[]) [2,5,6,7,9,53,54,55,56,57,58,59,60,61,62,63,64,65,66,67,68,69,70,71,72,73,74,75,76,77,78,79,80,81,82,83,84,85,86,87,88,89] (fun i:Nat=>[(53,vi i)]) (fun _=>σ) (fun i=>i≤f.groups.length∧(List.range i).all (groupB f)=true) (fun i=>f.groups.length-i) 0 (by kernel_rfl) ⟨by omega,by simp⟩ ⟨.refl _,trivial⟩ (.refl _) ?_
        rintro m ⟨m1,m2⟩
        try simp only [go_sem,seval,tb91,FGroup.embs_len]
        refine ⟨fun h1=>⟨by omega,h1,fun c hc=>?_⟩,fun h1=>?_⟩
        · rw [Int.toNat_natCast] at hc
          obtain ⟨u,hu,rfl⟩:=FGroup.embs_get hc
          have hml:m<f.groups.length:=(List.getElem?_eq_some_iff.1 hu).1
          have hgb:groupB f m=false→chkF f=220:=fun h=>bad (by
            have:(List.range f.groups.length).all (groupB f)=false:=by
              rw [List.all_eq_false]
              exact ⟨m,List.mem_range.2 hml,by rw [h];simp⟩
            unfold chkOK;rw [this];simp)
          have hgd:groupB f m=(!decide (u.alts.length=0)&&u.env.all formedT&&u.alts.all (clauseB f m)&&fitB (u.alts.map FClause.path)):=by simp only [groupB,hu]
          have hls:=((hgr.mem (e:=u.emb) (List.mem_of_getElem? hc)).agg (c:=.list .none 7 (FClause.embs u.alts)) (by simp [FGroup.emb])).len
          rw [FClause.embs_len] at hls
          have hclu:=hcl m u hu
          try simp only [go_sem,seval,tb91,FGroup.emb]
          intro b6 hb6
          by_cases a0:u.alts.length=0
          · have q1:((u.alts.length:Int)=0)=True:=eq_true (by omega)
            try simp only [go_sem,seval,tb91,q1,decide_true,FClause.embs_len]
            rw [hgb (by rw [hgd,decide_eq_true a0];simp)]
            exact fin_pur (.refl _) ((Sub.refl _).skip _)
          · have q1:((u.alts.length:Int)=0)=False:=eq_false (by omega)
            try simp only [go_sem,seval,tb91,q1,decide_false,FClause.embs_len]
            refine (cformed_c u.env .none 2 (.inl rfl)).use ?_
            obtain ⟨be,fe⟩:∃ b,u.env.all formedT=b:=⟨_,rfl⟩
            rw [fe]
            cases be with
            | false =>
              try simp only [go_sem,seval,tb91,FClause.embs_len]
              rw [hgb (by rw [hgd,fe];simp)]
              exact fin_pur (.refl _) ((Sub.refl _).skip _)
            | true =>
              try simp only [go_sem,seval,tb91,FClause.embs_len]
              obtain ⟨T,hT⟩:∃ T:Store,T=(b6,.cells [.list .none 2 (Ty.embs u.env),.list .none 7 (FClause.embs u.alts)])::σ:=⟨_,rfl⟩
              rw [← hT]
              have hSs:∀ {S:Store},Has T S→Sub σ S:=fun h=>Has.sub (fun p hp=>h p (by rw [hT];exact List.mem_cons_of_mem _ hp)) hnd
              refine aloopT (mu:=[]) (dr:=[]) [2,7,9,71,72,73,74,75,76,77,78,79,80,81,82,83,84,85] (fun x:Nat×AV×Store=>[(71,vi x.1),(7,x.2.1)]) (fun x=>x.2.2) (fun x=>x.1≤u.alts.length∧LV T x.2.2 x.2.1 1 (pths ((u.alts.take x.1).map FClause.path))∧Has T x.2.2∧(u.alts.take x.1).all (clauseB f m)=true) (fun x=>u.alts.length-x.1) (0,.list .full 0 [],T) (by kernel_rfl) ⟨by omega,LV.nil _ _ _,.refl _,by simp⟩ ⟨.refl _,.refl _,trivial⟩ (.refl _) ?_
              rintro ⟨j,v,S⟩ ⟨j1,j2,j3,j4⟩
              simp only at j1 j2 j3 j4
              try simp only [go_sem,seval,tb91,FClause.embs_len]
              refine ⟨fun h1=>⟨by omega,h1,fun c hc=>?_⟩,fun h1=>?_⟩
              · rw [Int.toNat_natCast] at hc
                obtain ⟨C,hC,rfl⟩:=FClause.embs_get hc
                have hcC:=hclu C
                have hst:(u.alts.take (j+1)).all (clauseB f m)=clauseB f m C:=by rw [List.take_add_one,hC,Option.toList_some,List.all_append,j4];simp
                have hcb:clauseB f m C=false→groupB f m=false:=fun h=>by
                  have:u.alts.all (clauseB f m)=false:=by
                    rw [List.all_eq_false]
                    exact ⟨C,List.mem_of_getElem? hC,by rw [h];simp⟩
                  rw [hgd,this];simp
                simp only [FClause.emb] at hcC
                try simp only [go_sem,seval,tb91,FClause.emb]
                intro b9 hb9
                try simp only [go_sem,seval,tb91]
                refine hcC.use ?_
                obtain ⟨bc,fc⟩:∃ b,clauseB f m C=b:=⟨_,rfl⟩
                rw [fc]
                cases bc with
                | false =>
                  try simp only [go_sem,seval,tb91,FClause.embs_len]
                  rw [hgb (hcb fc)]
                  exact fin_pur (.refl _) ((hSs j3).skip _)
                | true =>
                  try simp only [go_sem,seval,tb91,FClause.embs_len,j2.one,j2.cells]
                  refine ⟨rfl,(j2.cons hb9 _).append rfl (by decide) (by simp [pths];omega) rfl (by simp) (j3.cons _) (fun v' S' hv' hkp hS'=>?_)⟩
                  try simp only [go_sem,seval,tb91,hv'.one,hv'.cells]
                  rw [hw j (by omega)]
                  refine .mk (j+1,v',S') ⟨by simp only;omega,?_,hS',by simp only;rw [hst,fc]⟩ (by simp only;omega) ⟨.refl _,.refl _,trivial⟩ (by repeat first | exact Keeps.turn _ rfl | refine Keeps.put rfl ?_) (.refl _)
                  simp only
                  rw [List.take_add_one,hC,Option.toList_some,List.map_append]
                  have:pths ((u.alts.take j).map FClause.path++[C].map FClause.path)=pths ((u.alts.take j).map FClause.path)++[[AV.list .none 1 (ints C.path)]]:=by simp [pths]
                  rw [this]
                  exact hv'
              · have hjr:u.alts.take j=u.alts:=List.take_of_length_le (by omega)
                rw [hjr] at j2 j4
                try simp only [go_sem,seval,tb91,j2.one,j2.cells]
                refine ((fitB_c (u.alts.map FClause.path) (fun e=>by have:=congrArg List.length e;rw [List.length_map,List.length_nil] at this;omega)).use ?_).wk ⟨j2.wk,trivial⟩
                obtain ⟨bc,fc⟩:∃ b,fitB (u.alts.map FClause.path)=b:=⟨_,rfl⟩
                rw [fc]
                cases bc with
                | false =>
                  try simp only [go_sem,seval,tb91]
                  rw [hgb (by rw [hgd,fc];simp)]
                  exact fin_pur (.refl _) (hSs j3)
                | true =>
                  try simp only [go_sem,seval,tb91]
                  rw [hw m (by omega)]
                  refine .mk (m+1) ⟨by omega,?_⟩ (by omega) ⟨.refl _,trivial⟩ (by repeat first | exact Keeps.turn _ rfl | refine Keeps.put rfl ?_ | refine Keeps.turnS _ rfl rfl ?_) (hSs j3)
                  rw [all_range_take,m2,hgd,fe,j4,fc,decide_eq_false a0];rfl
        · have hme:m=f.groups.length:=by omega
          rw [hme] at m2
          have:chkF f=0:=by
            unfold chkF chkOK
            rw [decide_eq_true hg0,decide_eq_true hnn,i2,m2];rfl
          rw [this]
          try simp only [go_sem,seval,tb91]
          exact fin_same
    · have e1:nodesS f=8001:=by unfold nodesS;rw [if_neg hnn]
      rw [e1]
      try simp only [go_sem,seval,tb91]
      rw [bad (by unfold chkOK;rw [decide_eq_false hnn];simp)]
      exact fin_same
def hcl (pred:Str)(i:Nat):Nat→List FClause→List Pick
  | _,[]=>[]
  | k,c::r=>(if c.name=pred then [⟨i,k⟩] else [])++hcl pred i (k+1) r
def headsAt (f:Flat)(pred:Str)(i:Nat)(n:Int):List Pick :=
  if 0≤n then (match f.groups[n.toNat]? with | some u=>hcl pred i 0 u.alts | none=>[]) else []
def hrl (f:Flat)(pred:Str):Nat→List Int→List Pick
  | _,[]=>[]
  | i,n::r=>headsAt f pred i n++hrl f pred (i+1) r
def headsS (f:Flat)(pred:Str):List Pick:=hrl f pred 0 f.rules
theorem hcl_app (pred:Str)(i:Nat)(l m:List FClause)(k:Nat):hcl pred i k (l++m)=hcl pred i k l++hcl pred i (k+l.length) m:=by
  induction l generalizing k with
  | nil=>rfl
  | cons c r ih =>
    simp only [List.cons_append,hcl,ih,List.append_assoc,List.length_cons]
    rw [show k+1+r.length=k+(r.length+1) by omega]
theorem hrl_app (f:Flat)(pred:Str)(l m:List Int)(k:Nat):hrl f pred k (l++m)=hrl f pred k l++hrl f pred (k+l.length) m:=by
  induction l generalizing k with
  | nil=>rfl
  | cons c r ih =>
    simp only [List.cons_append,hrl,ih,List.append_assoc,List.length_cons]
    rw [show k+1+r.length=k+(r.length+1) by omega]
theorem hrl_step {f:Flat}{pred:Str}{l:List Int}{i:Nat}{n:Int}(h:l[i]?=some n):hrl f pred 0 (l.take (i+1))=hrl f pred 0 (l.take i)++headsAt f pred i n:=by
  rw [List.take_add_one,h,Option.toList_some,hrl_app,List.length_take,Nat.zero_add]
  have:min i l.length=i:=by have:=(List.getElem?_eq_some_iff.1 h).1;omega
  rw [this];simp [hrl]
theorem hcl_step {pred:Str}{l:List FClause}{i k:Nat}{c:FClause}(h:l[k]?=some c):hcl pred i 0 (l.take (k+1))=hcl pred i 0 (l.take k)++(if c.name=pred then [⟨i,k⟩] else []):=by
  rw [List.take_add_one,h,Option.toList_some,hcl_app,List.length_take,Nat.zero_add]
  have:min k l.length=k:=by have:=(List.getElem?_eq_some_iff.1 h).1;omega
  rw [this];simp [hcl]
theorem hrl_le (f:Flat)(pred:Str)(l:List Int)(i:Nat):(hrl f pred 0 (l.take i)).length≤(hrl f pred 0 l).length:=by
  have:=hrl_app f pred (l.take i) (l.drop i) 0
  rw [List.take_append_drop] at this
  rw [this,List.length_append];omega
theorem hcl_le (pred:Str)(j:Nat)(l:List FClause)(i:Nat):(hcl pred j 0 (l.take i)).length≤(hcl pred j 0 l).length:=by
  have:=hcl_app pred j (l.take i) (l.drop i) 0
  rw [List.take_append_drop] at this
  rw [this,List.length_append];omega
theorem heads_c (f:Flat)(pred:Str)(hh:(headsS f pred).length≤137438953472):Pur Tryz.prog 92 [.agg f.emb,vs pred] (.list .none 2 (Pick.embs (headsS f pred))):=by
  intro σ
  refine ACalls.nodup (by kernel_rfl) (fun hnd=>?_)
  refine ACalls.ok (by kernel_rfl) (fun hok=>?_)
  have hf:=hok _ List.mem_cons_self
  clear hok
  have hgr:=hf.agg (c:=.list .none 2 (FGroup.embs f.groups)) (by simp [Flat.emb])
  have hlr:=(hf.agg (c:=.list .none 1 (ints f.rules)) (by simp [Flat.emb])).len
  rw [ints_len] at hlr
  have hw:∀ j:Nat,j≤137438953472→IntKind.i64.wrap ((j:Int)+1)=((j+1:Nat):Int):=fun j hj=>wrap64 (by omega) (by omega)
  unfold headsS at hh ⊢
  simp only [Flat.emb]
  refine acalls_of [] [] Tryz.func92 rfl (by kernel_rfl) ?_;rw [Tryz.ntmps92,Tryz.results92]
  try simp only [go_sem,seval,tb92,ints_len]
  refine aloopT (mu:=[]) (dr:=[]) [5,6,7,8,9,13,14,15,16,17,18,19,20,21,22,23,24,25,26,27,28,29,30,31,32,33,34,35,36,37,38,39,40,41,42,43,44,45,46,47,48,49,50] (fun x:Nat×AV×Store=>[(13,vi x.1),(5,x.2.1)]) (fun x=>x.2.2) (fun x=>x.1≤f.rules.length∧LV σ x.2.2 x.2.1 2 (Pick.embs (hrl f pred 0 (f.rules.take x.1)))∧Has σ x.2.2) (fun x=>f.rules.length-x.1) (0,.list .full 0 [],σ) (by kernel_rfl) ⟨by omega,LV.nil _ _ _,.refl _⟩ ⟨.refl _,.refl _,trivial⟩ (.refl _) ?_
  rintro ⟨i,v,S⟩ ⟨i1,i2,i3⟩
  simp only at i1 i2 i3
  try simp only [go_sem,seval,tb92,ints_len]
  refine ⟨fun h1=>⟨by omega,h1,fun c hc=>?_⟩,fun h1=>?_⟩
  · rw [Int.toNat_natCast] at hc
    obtain ⟨n,hn,rfl⟩:=mapGet hc
    have hst:=hrl_step (f:=f) (pred:=pred) hn
    have hle:=hrl_le f pred f.rules (i+1)
    by_cases n1:n<0
    · have q1:(n<0)=True:=eq_true n1
      try simp only [go_sem,seval,tb92,q1,decide_true]
      have:headsAt f pred i n=[]:=by unfold headsAt;rw [if_neg (by omega)]
      rw [this,List.append_nil] at hst
      rw [hw i (by omega)]
      exact .mk (i+1,v,S) ⟨by simp only;omega,by simp only;rw [hst];exact i2,i3⟩ (by simp only;omega) ⟨.refl _,.refl _,trivial⟩ (by repeat first | exact Keeps.turn _ rfl | refine Keeps.put rfl ?_) (.refl _)
    · have q1:(n<0)=False:=eq_false n1
      by_cases n2:(f.groups.length:Int)≤n
      · have q2:((f.groups.length:Int)≤n)=True:=eq_true n2
        try simp only [go_sem,seval,tb92,q1,q2,decide_true,decide_false,FGroup.embs_len]
        have:headsAt f pred i n=[]:=by
          have:f.groups[n.toNat]?=none:=List.getElem?_eq_none (by omega)
          unfold headsAt;rw [if_pos (by omega),this]
        rw [this,List.append_nil] at hst
        rw [hw i (by omega)]
        exact .mk (i+1,v,S) ⟨by simp only;omega,by simp only;rw [hst];exact i2,i3⟩ (by simp only;omega) ⟨.refl _,.refl _,trivial⟩ (by repeat first | exact Keeps.turn _ rfl | refine Keeps.put rfl ?_) (.refl _)
      · have q2:((f.groups.length:Int)≤n)=False:=eq_false n2
        try simp only [go_sem,seval,tb92,q1,q2,decide_true,decide_false,FGroup.embs_len]
        refine ⟨by omega,by omega,fun c hc=>?_⟩
        obtain ⟨u,hu,rfl⟩:=FGroup.embs_get hc
        have hat:headsAt f pred i n=hcl pred i 0 u.alts:=by unfold headsAt;rw [if_pos (by omega),hu]
        rw [hat] at hst
        have hls:=((hgr.mem (e:=u.emb) (List.mem_of_getElem? hc)).agg (c:=.list .none 7 (FClause.embs u.alts)) (by simp [FGroup.emb])).len
        rw [FClause.embs_len] at hls
        try simp only [go_sem,seval,tb92,FGroup.emb,FClause.embs_len]
        refine aloopT (mu:=[]) (dr:=[]) [5,8,9,34,35,36,37,38,39,40,41,42,43,44,45,46,47,48,49] (fun x:Nat×AV×Store=>[(34,vi x.1),(5,x.2.1)]) (fun x=>x.2.2) (fun x=>x.1≤u.alts.length∧LV σ x.2.2 x.2.1 2 (Pick.embs (hrl f pred 0 (f.rules.take i)++hcl pred i 0 (u.alts.take x.1)))∧Has σ x.2.2) (fun x=>u.alts.length-x.1) (0,v,S) (by kernel_rfl) ⟨by omega,by simp only [List.take_zero,hcl,List.append_nil];exact i2,i3⟩ ⟨.refl _,.refl _,trivial⟩ (.refl _) ?_
        rintro ⟨k,v,S⟩ ⟨j1,j2,j3⟩
        simp only at j1 j2 j3
        try simp only [go_sem,seval,tb92,FClause.embs_len]
        refine ⟨fun h1=>⟨by omega,h1,fun c hc=>?_⟩,fun h1=>?_⟩
        · rw [Int.toNat_natCast] at hc
          obtain ⟨C,hC,rfl⟩:=FClause.embs_get hc
          have hct:=hcl_step (pred:=pred) (i:=i) hC
          have hcle:=hcl_le pred i u.alts (k+1)
          try simp only [go_sem,seval,tb92,FClause.emb]
          intro b9 hb9
          by_cases nm:C.name=pred
          · have q3:(C.name=pred)=True:=eq_true nm
            try simp only [go_sem,seval,tb92,q3,decide_true,j2.one,j2.cells]
            rw [if_pos nm] at hct
            have l1:=congrArg List.length hst
            have l2:=congrArg List.length hct
            rw [List.length_append] at l1 l2
            rw [List.length_singleton] at l2
            refine ⟨rfl,(j2.cons hb9 _).append rfl (by decide) (by rw [Pick.embs_len,List.length_append,List.length_singleton];omega) rfl (by simp) (j3.cons _) (fun v' S' hv' hkp hS'=>?_)⟩
            try simp only [go_sem,seval,tb92,hv'.one,hv'.cells]
            rw [hw k (by omega)]
            refine .mk (k+1,v',S') ⟨by simp only;omega,?_,hS'⟩ (by simp only;omega) ⟨.refl _,.refl _,trivial⟩ (by repeat first | exact Keeps.turn _ rfl | refine Keeps.put rfl ?_) (.refl _)
            simp only
            rw [hct,← List.append_assoc]
            have:Pick.embs (hrl f pred 0 (f.rules.take i)++hcl pred i 0 (u.alts.take k)++[⟨i,k⟩])=Pick.embs (hrl f pred 0 (f.rules.take i)++hcl pred i 0 (u.alts.take k))++[[vi i,vi k]]:=by simp [Pick.embs,Pick.emb]
            rw [this]
            exact hv'
          · have q3:(C.name=pred)=False:=eq_false nm
            try simp only [go_sem,seval,tb92,q3,decide_false]
            rw [if_neg nm,List.append_nil] at hct
            rw [hw k (by omega)]
            refine .mk (k+1,v,(b9,_)::S) ⟨by simp only;omega,by simp only;rw [hct];exact j2.cons hb9 _,j3.cons _⟩ (by simp only;omega) ⟨.refl _,.refl _,trivial⟩ (by repeat first | exact Keeps.turn _ rfl | refine Keeps.put rfl ?_) (.refl _)
        · have hjr:u.alts.take k=u.alts:=List.take_of_length_le (by omega)
          rw [hjr,← hst] at j2
          try simp only [go_sem,seval,tb92,j2.one,j2.cells]
          rw [hw i (by omega)]
          exact .mk (i+1,v,S) ⟨by simp only;omega,j2,j3⟩ (by simp only;omega) ⟨.refl _,.refl _,trivial⟩ (by repeat first | exact Keeps.turn _ rfl | refine Keeps.put rfl ?_ | refine Keeps.turnS _ rfl rfl ?_) (.refl _)
  · have hir:f.rules.take i=f.rules:=List.take_of_length_le (by omega)
    rw [hir] at i2
    try simp only [go_sem,seval,tb92,i2.one,i2.cells]
    exact .mk i2.wk (i3.sub hnd) ⟨rfl,rfl⟩
end Go.Vx
end
section
namespace Go.Vx
open Go.RowKit
theorem run_equal_key {κ:Type}[DecidableEq κ]{P:Program}{kt:TypeId}{enc:κ→List Value}{tags:List Nat}(hT:eqT P kt=some tags)
    (he:∀ x y,agEq tags ((enc x).map AV.val) ((enc y).map AV.val)=some (decide (x=y))) (x y:κ) (w:World):(Op.equal kt (.agg (enc x).toArray) (.agg (enc y).toArray)).run P w=.ok (decide (x=y)) w:=by
  have hv:∀ l:List Value,V (fun _ _=>False) w (.agg (l.map AV.val)) (.agg l.toArray):=fun l=>.agg _ _ (by simp) (fun i c v hc hv=>by
    rw [List.getElem?_map,hv] at hc;simp at hc;subst hc;exact .val _)
  obtain ⟨vs,us,h1,h2,_,h4⟩:=run_eqAgg (op:=.eql) (x:=.const .nilIface) (y:=.const .nilIface) (T:=kt) (r:=decide (x=y)) (by rw [hT];exact he x y) (hv (enc x)) (hv (enc y))
  injection h1 with h1;injection h2 with h2
  subst h1;subst h2
  exact h4
theorem run_checkF {P:Program}{vs:Array Value}{em:Bool}:∀ (fs:List Field) (o:Nat) (tags:List Nat) (w:World),tagF P o fs=some tags→o+tags.length≤vs.size →
    (do for f in fs do if f.name ≠ "_" then Instr.checkKey em 9999 f.type (← part f.type vs f.offset):Sem Unit).run P w=.ok () w
  | [],o,tags,w,ht,hs=>by simp
  | f::fs,o,tags,w,ht,hs=>by
    simp only [tagF] at ht
    split at ht
    · rename_i hf
      split at ht
      · rename_i k l hk hl
        injection ht with ht;subst ht
        simp only [List.length_cons] at hs
        have ih:=run_checkF (vs:=vs) (em:=em) fs (o+1) l w hl (by omega)
        have hp:=run_part_base (w:=w) hk (xs:=vs) (off:=f.offset) (v:=vs[o]'(by omega)) (by rw [hf.1];simp)
        have hc:∀ v:Value,(Instr.checkKey em 9999 f.type v).run P w=.ok () w:=by
          intro v
          unfold kindB at hk
          split at hk
          · rename_i hu;rw [show (9999:Nat)=9998+1 from rfl,Instr.checkKey];simp [run_underlying hu]
          · rename_i hu;rw [show (9999:Nat)=9998+1 from rfl,Instr.checkKey];simp [run_underlying hu]
          · rename_i hu;rw [show (9999:Nat)=9998+1 from rfl,Instr.checkKey];simp [run_underlying hu]
          · cases hk
        simp only [List.forIn_cons,if_pos hf.2,Sem.run_bind,hp,Result.andThen_ok,hc,Sem.run_pure]
        have ih':=ih
        simp at ih' ⊢
        rw [ih'];rfl
      · cases ht
    · cases ht
theorem agEq_len:∀ (tags:List Nat) (xs ys:List AV) (r:Bool),agEq tags xs ys=some r→xs.length=tags.length
  | [],[],[],_,_=>rfl
  | k::l,a::r,b::s,q,h=>by
    simp only [agEq] at h
    split at h
    · rename_i x y h1 h2;simp [agEq_len l r s y h2]
    · cases h
  | [],_::_,_,_,h=>by simp [agEq] at h
  | [],[],_::_,_,h=>by simp [agEq] at h
  | _::_,[],_,_,h=>by simp [agEq] at h
  | _::_,_::_,[],_,h=>by simp [agEq] at h
theorem keyLaw_agg {κ:Type}[DecidableEq κ]{P:Program}{kt:TypeId}{enc:κ→List Value}{tags:List Nat}(hT:eqT P kt=some tags)
    (he:∀ x y,agEq tags ((enc x).map AV.val) ((enc y).map AV.val)=some (decide (x=y))) (hs:∀ x,Instr.sameBits 10000 (.agg (enc x).toArray) (.agg (enc x).toArray)=true):KeyLaw P kt (fun x=>Value.agg (enc x).toArray) where
  inj a b h:=by
    have h1:enc a=enc b:=by injection h with h;simpa using congrArg Array.toList h
    have h2:=he a b
    have h3:=he b b
    rw [h1,h3] at h2
    injection h2 with h2
    simp at h2
    exact h2
  check em x w:=by
    unfold eqT at hT
    split at hT
    · rename_i fs hu
      split at hT
      · have hlen:=agEq_len _ _ _ _ (he x x)
        rw [List.length_map] at hlen
        have:=run_checkF (P:=P) (vs:=(enc x).toArray) (em:=em) fs.toList 0 tags w hT (by simp;omega)
        rw [show (10000:Nat)=9999+1 from rfl,Instr.checkKey]
        simp only [Sem.run_bind,run_underlying hu,Result.andThen_ok]
        rw [← Array.forIn_toList]
        have this':=this
        simp at this' ⊢
        rw [this'];rfl
      · cases hT
    · cases hT
  find x w es h:=by
    have hw:(match P.underlying kt with | some (.array _ _) | some (.struct _)=>true | _=>false)=true:=by
      unfold eqT at hT
      split at hT
      · rename_i fs hu;rw [hu]
      · cases hT
    rw [run_findKey_eq w hw]
    have key:∀ (es:List MapEntry) (i:Nat),(∀ e∈es,∃ y,e.key=Value.agg (enc y).toArray) →
        ((Instr.findAsking kt (.agg (enc x).toArray) es i).run P w=.ok none w∧∀ e∈es,e.key≠Value.agg (enc x).toArray)∨∃ j e,(Instr.findAsking kt (.agg (enc x).toArray) es i).run P w=.ok (some (i+j,e.val)) w∧es[j]?=some e∧e.key=Value.agg (enc x).toArray:=by
      intro es
      induction es with
      | nil=>intro i _;exact .inl ⟨by simp [Instr.findAsking],by simp⟩
      | cons e r ih =>
        intro i h
        obtain ⟨y,hy⟩:=h e List.mem_cons_self
        have heq:=run_equal_key hT he x y w
        by_cases hxy:x=y
        · refine .inr ⟨0,e,?_,rfl,by rw [hy,hxy]⟩
          rw [Instr.findAsking,Sem.run_bind,hy,heq,Result.andThen_ok,decide_eq_true hxy];rfl
        · have hne:e.key≠Value.agg (enc x).toArray:=by
            rw [hy];intro h
            have h1:enc y=enc x:=by injection h with h;simpa using congrArg Array.toList h
            have h2:=he x y
            rw [h1,he x x,decide_eq_false hxy] at h2
            simp at h2
          have hstep:(Instr.findAsking kt (.agg (enc x).toArray) (e::r) i).run P w=(Instr.findAsking kt (.agg (enc x).toArray) r (i+1)).run P w:=by
            rw [Instr.findAsking,Sem.run_bind,hy,heq,Result.andThen_ok,decide_eq_false hxy];rfl
          rcases ih (i+1) (fun e he=>h e (List.mem_cons_of_mem _ he)) with ⟨h1,h2⟩ | ⟨j,e',h1,h2,h3⟩
          · exact .inl ⟨hstep.trans h1,fun e' he'=>(List.mem_cons.1 he').elim (fun q=>q ▸ hne) (h2 e')⟩
          · exact .inr ⟨j+1,e',by rw [hstep,h1,show i+1+j=i+(j+1) by omega],by simpa using h2,h3⟩
    rcases key es 0 h with h | ⟨j,e,h1,h2,h3⟩
    · exact .inl h
    · exact .inr ⟨j,e,by rw [h1,Nat.zero_add],h2,h3⟩
  same:=hs
def encC (c:Cls):List Value:=[.bool c.any,.string c.name]
def keC (c:Cls):Value:=.agg (encC c).toArray
theorem keyLaw_cls {P:Program}{kt:TypeId}(h:eqT P kt=some [1,2]):KeyLaw P kt keC :=
  keyLaw_agg (enc:=encC) h (fun x y=>by
    obtain ⟨a,b⟩:=x
    obtain ⟨c,d⟩:=y
    simp [encC,agEq,cellEq]) (fun x=>by simp [encC,Instr.sameBits];rw [beq_toListBytes];simp)
theorem amapUpd_cls {P:Program}{t kt et:TypeId}{r c:Nat}{l:List (Cls×AV×Nat)}{x:Cls}{v:AV}{S:Store}{K:Store→Prop}{k:AV}(ht:P.underlying t=some (.map kt et))(hk:eqT P kt=some [1,2])
    (hx:k.toVal=some (keC x)) (hg:S.get r=some (.map (embM keC l) c)) (h:K (S.set r (.map (embM keC (updL l x v c)) (updC l x c)))):amapUpd P t (.val (.map (some r))) k v S K :=
  ⟨Cls,inferInstance,keC,r,c,l,x,kt,et,ht,keyLaw_cls hk,rfl,hx,hg,h⟩
theorem toVal_cls (a:Bool)(s:ByteArray):AV.toVal (.agg [.val (.bool a),.val (.string s)])=some (keC ⟨a,s⟩):=rfl
/-! ### elements told less -/
theorem Wk.elems {rt:Rt}{s:Nat}{es es':List (List AV)}(hl:es.length=es'.length)(h:∀ (i:Nat) (e e':List AV),es[i]?=some e→es'[i]?=some e'→e.length=e'.length∧∀ (j:Nat) (c c':AV),e[j]?=some c→e'[j]?=some c'→Wk c c'):Wk (.list rt s es) (.list rt s es'):=by
  intro L w v hv
  cases hv with
  | list _ _ _ cap a b o rd hcap hlim hsz ha hr h1 h2 =>
    have hget:∀ (i:Nat) (e':List AV),es'[i]?=some e'→∃ e,es[i]?=some e:=fun i e' h=>⟨_,List.getElem?_eq_getElem (by rw [hl];exact (List.getElem?_eq_some_iff.1 h).1)⟩
    rw [hl]
    refine .list rt s es' cap a b o rd (by rw [← hl];exact hcap) (by rw [← hl];exact hlim) (fun i e' he'=>?_) (fun hne=>ha (fun e=>hne (List.length_eq_zero_iff.1 (by rw [← hl,e];rfl)))) (by rw [← hl];exact hr) (fun i e' j c' he' hc'=>?_) (fun i e' j c' he' hc'=>?_)
    · obtain ⟨e,he⟩:=hget i e' he'
      rw [← (h i e e' he he').1];exact hsz i e he
    · obtain ⟨e,he⟩:=hget i e' he'
      obtain ⟨hl2,_⟩:=h i e e' he he'
      obtain ⟨c,hc⟩:∃ c,e[j]?=some c:=⟨_,List.getElem?_eq_getElem (by rw [hl2];exact (List.getElem?_eq_some_iff.1 hc').1)⟩
      exact h1 i e j c he hc
    · obtain ⟨e,he⟩:=hget i e' he'
      obtain ⟨hl2,hw⟩:=h i e e' he he'
      obtain ⟨c,hc⟩:∃ c,e[j]?=some c:=⟨_,List.getElem?_eq_getElem (by rw [hl2];exact (List.getElem?_eq_some_iff.1 hc').1)⟩
      exact hw j c c' hc hc' _ _ _ (h2 i e j c he hc)
/-- A growing list whose last element is told less. -/
theorem LV.last {σ0 S:Store}{v:AV}{sz:Nat}{es:List (List AV)}{e e':List AV}(h:LV σ0 S v sz (es++[e]))(hl:e.length=e'.length)(hw:∀ (j:Nat) (c c':AV),e[j]?=some c→e'[j]?=some c'→Wk c c'):∃ v',Wk v v'∧LV σ0 S v' sz (es++[e']):=by
  obtain ⟨rt,s',rfl,hz,ht⟩:=h
  refine ⟨.list rt s' (es++[e']),Wk.elems (by simp) (fun i a b ha hb=>?_),rt,s',rfl,hz.imp id (fun h=>by simp at h),ht.imp (fun h=>⟨h.1,by simpa using h.2⟩) id⟩
  by_cases hi:i<es.length
  · rw [List.getElem?_append_left hi] at ha hb
    rw [ha] at hb;injection hb with hb;subst hb
    exact ⟨rfl,fun j c c' hc hc'=>by rw [hc] at hc';injection hc' with hc';subst hc';exact .refl _⟩
  · rw [List.getElem?_append_right (by omega)] at ha hb
    have h0:i-es.length=0:=by
      have:=(List.getElem?_eq_some_iff.1 ha).1;simp at this;omega
    rw [h0] at ha hb
    simp at ha hb;subst ha;subst hb
    exact ⟨hl,hw⟩
end Go.Vx
end
section
set_option maxRecDepth 100000
namespace Go.Vx
open Go.Proofs
theorem tb93:(zeroOf Tryz.prog 107=some (.agg #[(.bool false),(.string ⟨#[]⟩)]))∧(fOff Tryz.prog 52 0=some 0)∧(szOf Tryz.prog 3=some 1)∧(aggOf Tryz.prog 3=some false)∧(fOff Tryz.prog 52 2=some 2)∧(szOf Tryz.prog 9=some 1)∧(aggOf Tryz.prog 9=some false)∧(plsOf Tryz.prog 107=some [(0,1),(1,1)])∧(szOf Tryz.prog 107=some 2)∧(aggOf Tryz.prog 107=some true):=by
  refine ⟨?_,?_,?_,?_,?_,?_,?_,?_,?_,?_⟩<;>first | trivial | kernel_rfl
theorem tb62:(zeroOf Tryz.prog 107=some (.agg #[(.bool false),(.string ⟨#[]⟩)]))∧(fOff Tryz.prog 52 0=some 0)∧(szOf Tryz.prog 3=some 1)∧(aggOf Tryz.prog 3=some false)∧(fOff Tryz.prog 52 2=some 2)∧(szOf Tryz.prog 9=some 1)∧(aggOf Tryz.prog 9=some false)∧(plsOf Tryz.prog 107=some [(0,1),(1,1)])∧(szOf Tryz.prog 107=some 2)∧(aggOf Tryz.prog 107=some true):=by
  refine ⟨?_,?_,?_,?_,?_,?_,?_,?_,?_,?_⟩<;>first | trivial | kernel_rfl
theorem tb96:(fOff Tryz.prog 32 0=some 0)∧(szOf Tryz.prog 3=some 1)∧(aggOf Tryz.prog 3=some false)∧(fOff Tryz.prog 32 1=some 1)∧(elOf Tryz.prog 23=some 3)∧(zeroOf Tryz.prog 3=some (.int .i64 0)):=by
  refine ⟨?_,?_,?_,?_,?_,?_⟩<;>first | trivial | kernel_rfl
theorem tb134:(elOf Tryz.prog 23=some 3)∧(szOf Tryz.prog 3=some 1)∧(aggOf Tryz.prog 3=some false)∧(Tryz.prog.underlying 23=some (.slice 3)):=by
  refine ⟨?_,?_,?_,?_⟩<;>first | trivial | kernel_rfl
theorem tb126:(True):=by
  first | trivial | kernel_rfl
theorem tb155:(True):=by
  first | trivial | kernel_rfl
theorem tb56:(elOf Tryz.prog 99=some 110)∧(szOf Tryz.prog 110=some 3)∧(aggOf Tryz.prog 110=some true)∧(zeroOf Tryz.prog 110=some (.agg #[(.int .i64 0),(.int .i64 0),(.slice none 0 0)]))∧(fOff Tryz.prog 110 0=some 0)∧(szOf Tryz.prog 32=some 2)∧(aggOf Tryz.prog 32=some true)∧(elOf Tryz.prog 26=some 32)∧(zeroOf Tryz.prog 32=some (.agg #[(.int .i64 0),(.int .i64 0)]))∧(Tryz.prog.underlying 99=some (.slice 110))∧(bytesOf Tryz.prog 32=some 16):=by
  refine ⟨?_,?_,?_,?_,?_,?_,?_,?_,?_,?_,?_⟩<;>first | trivial | kernel_rfl
theorem tb55:(fOff Tryz.prog 107 0=some 0)∧(szOf Tryz.prog 4=some 1)∧(aggOf Tryz.prog 4=some false)∧(szOf Tryz.prog 107=some 2)∧(aggOf Tryz.prog 107=some true)∧(eqT Tryz.prog 107=some [1,2]):=by
  refine ⟨?_,?_,?_,?_,?_,?_⟩<;>first | trivial | kernel_rfl
theorem tb95:(fOff Tryz.prog 110 0=some 0)∧(szOf Tryz.prog 32=some 2)∧(aggOf Tryz.prog 32=some true):=by
  refine ⟨?_,?_,?_⟩<;>first | trivial | kernel_rfl
def classS:Tm→Cls
  | .mk k _ s _=>if k=1 then ⟨false,s⟩ else if k=4 then ⟨true,emptyS⟩ else ⟨false,emptyS⟩
def rowCls:Tm→Cls
  | .mk k _ s _=>if k=1 then ⟨false,s⟩ else ⟨true,emptyS⟩
theorem rowClass_c (t:Tm):Pur Tryz.prog 93 [.agg t.emb] (.agg (rowCls t).emb):=by
  intro σ
  obtain ⟨k,n,s,l⟩:=t
  simp only [Tm.emb_mk,rowCls]
  refine acalls_of [] [] Tryz.func93 rfl (by kernel_rfl) ?_;rw [Tryz.ntmps93,Tryz.results93]
  try simp only [go_sem,seval,tb93]
  intro b hb
  try simp only [go_sem,seval,tb93]
  refine ⟨fun h=>?_,fun h=>?_⟩
  · rw [if_pos h]
    exact fin_pur (.refl _) ((Sub.refl _).skip _)
  · rw [if_neg h]
    exact fin_pur (.refl _) ((Sub.refl _).skip _)
theorem classOf_c (t:Tm):Pur Tryz.prog 62 [.agg t.emb] (.agg (classS t).emb):=by
  intro σ
  obtain ⟨k,n,s,l⟩:=t
  simp only [Tm.emb_mk,classS]
  refine acalls_of [] [] Tryz.func62 rfl (by kernel_rfl) ?_;rw [Tryz.ntmps62,Tryz.results62]
  try simp only [go_sem,seval,tb62]
  intro b hb
  try simp only [go_sem,seval,tb62]
  refine ⟨fun h=>?_,fun h=>⟨fun h2=>?_,fun h2=>?_⟩⟩
  · rw [if_pos h]
    exact fin_pur (.refl _) ((Sub.refl _).skip _)
  · rw [if_neg h,if_pos h2]
    exact fin_pur (.refl _) ((Sub.refl _).skip _)
  · rw [if_neg h,if_neg h2]
    exact fin_pur (.refl _) ((Sub.refl _).skip _)
def cmpI (a b:Int):Int:=if a<b then -1 else if b<a then 1 else 0
theorem isNaN_int (a:Int):Pur Tryz.prog 155 [vi a] (vb false):=by
  intro σ
  refine acalls_of [] [] Tryz.func155 rfl (by kernel_rfl) ?_;rw [Tryz.ntmps155,Tryz.results155]
  try simp only [go_sem,seval,tb155]
  exact fin_b (by simp)
theorem compare_int (a b:Int):Pur Tryz.prog 126 [vi a,vi b] (vi (cmpI a b)):=by
  intro σ
  refine acalls_of [] [] Tryz.func126 rfl (by kernel_rfl) ?_;rw [Tryz.ntmps126,Tryz.results126]
  try simp only [go_sem,seval,tb126]
  refine (isNaN_int a).use ?_
  try simp only [go_sem,seval,tb126]
  refine (isNaN_int b).use ?_
  try simp only [go_sem,seval,tb126]
  refine ⟨fun h=>?_,fun h=>⟨fun h2=>?_,fun h2=>?_⟩⟩
  · exact fin_i (by simp [cmpI,h])
  · exact fin_i (by simp [cmpI,h,h2])
  · exact fin_i (by simp [cmpI,h,h2])
def orI (l:List Int):Int:=(l.find? fun x=>!decide (x=0)).getD 0
theorem or_c (l:List Int)(rt:Rt)(s:Nat)(hs:s=1∨l=[]):Pur Tryz.prog 134 [.list rt s (ints l)] (vi (orI l)):=by
  intro σ
  refine ACalls.ok (by kernel_rfl) (fun hok=>?_)
  have hl:=(hok _ List.mem_cons_self).len
  rw [ints_len] at hl
  clear hok
  refine acalls_of [] [] Tryz.func134 rfl (by kernel_rfl) ?_;rw [Tryz.ntmps134,Tryz.results134]
  try simp only [go_sem,seval,tb134,ints_len]
  refine aloopT (mu:=[]) (dr:=[]) [2,5,8,9,10,11,12,13,14,15,16] (fun i:Nat=>[(8,vi i)]) (fun _=>σ) (fun i=>i≤l.length∧orI l=orI (l.drop i)) (fun i=>l.length-i) 0 (by kernel_rfl) ⟨by omega,by simp⟩ ⟨.refl _,trivial⟩ (.refl _) ?_
  rintro i ⟨i1,i2⟩
  try simp only [go_sem,seval,tb134,ints_len]
  refine ⟨fun h1=>⟨?_,by omega,h1,fun c hc=>?_⟩,fun h1=>?_⟩
  · rcases hs with hs | hs
    · rw [hs]
    · rw [hs] at h1;simp at h1;omega
  · rw [Int.toNat_natCast] at hc
    obtain ⟨n,hn,rfl⟩:=mapGet hc
    have hd:l.drop i=n::l.drop (i+1):=List.drop_eq_getElem_cons (List.getElem?_eq_some_iff.1 hn).1 |>.trans (by rw [(List.getElem?_eq_some_iff.1 hn).2])
    try simp only [go_sem,seval,tb134]
    refine ⟨fun h2=>?_,fun h2=>?_⟩
    · exact fin_i (by rw [i2,hd];simp [orI,h2])
    · rw [show IntKind.i64.wrap ((i:Int)+1)=((i+1:Nat):Int) from wrap64 (by omega) (by omega)]
      have h2':n=0:=by simpa using h2
      exact .mk (i+1) ⟨by omega,by rw [i2,hd];simp [orI,h2']⟩ (by omega) ⟨.refl _,trivial⟩ (by repeat first | exact Keeps.turn _ rfl | refine Keeps.put rfl ?_) (.refl _)
  · rw [i2,List.drop_of_length_le (by omega)]
    exact fin_i rfl
def cmpP (a b:Pick):Int:=if cmpI a.rule b.rule=0 then cmpI a.alt b.alt else cmpI a.rule b.rule
theorem comparePicks_c (a b:Pick):Pur Tryz.prog 96 [.agg a.emb,.agg b.emb] (vi (cmpP a b)):=by
  intro σ
  simp only [Pick.emb]
  refine acalls_of [] [(1,9,0)] Tryz.func96 rfl (by kernel_rfl) ?_;rw [Tryz.ntmps96,Tryz.results96]
  try simp only [go_sem,seval,tb96]
  refine (compare_int a.rule b.rule).head ?_
  try simp only [go_sem,seval,tb96]
  refine (compare_int a.alt b.alt).use ?_
  try simp only [go_sem,seval,tb96]
  have h:=or_c [cmpI a.rule b.rule,cmpI a.alt b.alt] .full 1 (.inl rfl)
  refine ⟨rfl,h.use ?_⟩
  try simp only [go_sem,seval,tb96]
  refine fin_i ?_
  unfold orI cmpP
  by_cases h1:cmpI a.rule b.rule=0
  · by_cases h2:cmpI a.alt b.alt=0<;>simp [h1,h2]
  · simp [h1]
def fitsB (own arg:Cls):Bool:=own.any || arg.any || decide (own=arg)
theorem fits_c (a b:Cls):Pur Tryz.prog 55 [.agg a.emb,.agg b.emb] (vb (fitsB a b)):=by
  intro σ
  obtain ⟨a1,a2⟩:=a
  obtain ⟨b1,b2⟩:=b
  simp only [Cls.emb,fitsB]
  refine acalls_of [] [] Tryz.func55 rfl (by kernel_rfl) ?_;rw [Tryz.ntmps55,Tryz.results55]
  try simp only [go_sem,seval,tb55]
  cases a1 with
  | true =>
    try simp only [go_sem,seval,tb55]
    exact fin_b (by simp)
  | false =>
    cases b1 with
    | true =>
      try simp only [go_sem,seval,tb55]
      exact fin_b (by simp)
    | false =>
      try simp only [go_sem,seval,tb55]
      exact fin_b (by simp)
theorem picks_c (l:List Row)(rt:Rt)(s:Nat)(hs:s=3∨l=[]):Pur Tryz.prog 56 [.list rt s (Row.embs l)] (.list .none 2 (Pick.embs (l.map Row.pick))):=by
  intro σ
  refine ACalls.nodup (by kernel_rfl) (fun hnd=>?_)
  refine ACalls.ok (by kernel_rfl) (fun hok=>?_)
  have hl:=(hok _ List.mem_cons_self).len
  rw [Row.embs_len] at hl
  clear hok
  refine acalls_of [] [] Tryz.func56 rfl (by kernel_rfl) ?_;rw [Tryz.ntmps56,Tryz.results56]
  try simp only [go_sem,seval,tb56,Row.embs_len]
  refine aloopT (mu:=[]) (dr:=[]) [3,5,8,9,10,11,12,13,14,15,16,17] (fun x:Nat×AV×Store=>[(8,vi x.1),(3,x.2.1)]) (fun x=>x.2.2) (fun x=>x.1≤l.length∧LV σ x.2.2 x.2.1 2 (Pick.embs ((l.take x.1).map Row.pick))∧Has σ x.2.2) (fun x=>l.length-x.1) (0,.list .full 0 [],σ) (by kernel_rfl) ⟨by omega,LV.nil _ _ _,.refl _⟩ ⟨.refl _,.refl _,trivial⟩ (.refl _) ?_
  rintro ⟨i,v,S⟩ ⟨i1,i2,i3⟩
  simp only at i1 i2 i3
  try simp only [go_sem,seval,tb56,Row.embs_len]
  refine ⟨fun h1=>⟨?_,by omega,h1,fun c hc=>?_⟩,fun h1=>?_⟩
  · rcases hs with hs | hs
    · rw [hs]
    · rw [hs] at h1;simp at h1;omega
  · rw [Int.toNat_natCast] at hc
    obtain ⟨r,hr,rfl⟩:=Row.embs_get hc
    try simp only [go_sem,seval,tb56,Row.emb]
    intro b5 hb5
    try simp only [go_sem,seval,tb56,i2.one,i2.cells]
    refine ⟨rfl,(i2.cons hb5 _).append rfl (by decide) (by simp [Pick.embs];omega) rfl (by simp) (i3.cons _) (fun v' S' hv' hkp hS'=>?_)⟩
    try simp only [go_sem,seval,tb56,hv'.one,hv'.cells]
    rw [show IntKind.i64.wrap ((i:Int)+1)=((i+1:Nat):Int) from wrap64 (by omega) (by omega)]
    refine .mk (i+1,v',S') ⟨by simp only;omega,?_,hS'⟩ (by simp only;omega) ⟨.refl _,.refl _,trivial⟩ (by repeat first | exact Keeps.turn _ rfl | refine Keeps.put rfl ?_) (.refl _)
    simp only
    rw [List.take_add_one,hr,Option.toList_some,List.map_append]
    have:Pick.embs ((l.take i).map Row.pick++[r].map Row.pick)=Pick.embs ((l.take i).map Row.pick)++[[vi r.pick.rule,vi r.pick.alt]]:=by simp [Pick.embs,Pick.emb]
    rw [this]
    exact hv'
  · try simp only [go_sem,seval,tb56,i2.one,i2.cells]
    have hil:l.take i=l:=List.take_of_length_le (by omega)
    rw [hil] at i2
    exact .mk i2.wk (i3.sub hnd) ⟨rfl,rfl⟩
end Go.Vx
end
