/- Part Q28 of the proof of treeLooksProved: the walk of the program on abstract values, and the plain law. -/
import Derived.Test.YtmedmnondjmleaaGreatQ27
import Derived.Test.YtmedmnondjmleaaGreatQ16
import Derived.WideKeyRuns
import Derived.Test.YtmedmnondjmleaaGreatQ15
set_option linter.unusedVariables false
set_option linter.unusedSimpArgs false
section
set_option maxRecDepth 100000
namespace Go.Vx
open Go.Proofs
theorem Wd:(Zz Tryz.prog 25 0=some 0)∧(Zh Tryz.prog 22=some 1)∧(Ze Tryz.prog 22=some false)∧(Zh Tryz.prog 25=some 2)∧(Ze Tryz.prog 25=some true)∧(Zz Tryz.prog 25 1=some 1)∧(Zh Tryz.prog 23=some 1)∧(Ze Tryz.prog 23=some false)∧(ZA Tryz.prog 23=some 3)∧(Zh Tryz.prog 3=some 1)∧(Ze Tryz.prog 3=some false)∧(ZA Tryz.prog 22=some 129)∧(Zh Tryz.prog 129=some 2)∧(Zz Tryz.prog 129 0=some 0)∧(Zh Tryz.prog 126=some 1)∧(Ze Tryz.prog 126=some false)∧(Ze Tryz.prog 129=some true)∧(Zl Tryz.prog 129=some (.agg #[(.slice none 0 0),(.slice none 0 0)]))∧(Zz Tryz.prog 129 1=some 1)∧(Zh Tryz.prog 127=some 1)∧(Ze Tryz.prog 127=some false)∧(ZA Tryz.prog 127=some 132)∧(Zh Tryz.prog 132=some 7)∧(Ze Tryz.prog 132=some true)∧(Zl Tryz.prog 132=some (.agg #[(.slice none 0 0),(.slice none 0 0),(.slice none 0 0),(.string ⟨#[]⟩),(.slice none 0 0),(.slice none 0 0),(.slice none 0 0)]))∧(Zz Tryz.prog 132 2=some 2)∧(ZA Tryz.prog 184=some 23)∧(Zl Tryz.prog 23=some (.slice none 0 0))∧(Tryz.prog.underlying 22=some (.slice 129))∧(Tryz.prog.underlying 23=some (.slice 3))∧(Tryz.prog.underlying 126=some (.slice 150))∧(Tryz.prog.underlying 127=some (.slice 132))∧(ZQ Tryz.prog 23=some 24):=by
 refine ⟨?_,?_,?_,?_,?_,?_,?_,?_,?_,?_,?_,?_,?_,?_,?_,?_,?_,?_,?_,?_,?_,?_,?_,?_,?_,?_,?_,?_,?_,?_,?_,?_,?_⟩<;>first | trivial | kernel_rfl
theorem Sj:(Zz Tryz.prog 25 1=some 1)∧(Zh Tryz.prog 23=some 1)∧(Ze Tryz.prog 23=some false)∧(ZA Tryz.prog 23=some 3)∧(Zh Tryz.prog 3=some 1)∧(Ze Tryz.prog 3=some false)∧(Zz Tryz.prog 25 0=some 0)∧(Zh Tryz.prog 22=some 1)∧(Ze Tryz.prog 22=some false)∧(ZA Tryz.prog 22=some 129)∧(Zh Tryz.prog 129=some 2)∧(Zz Tryz.prog 129 1=some 1)∧(Zh Tryz.prog 127=some 1)∧(Ze Tryz.prog 127=some false)∧(ZA Tryz.prog 127=some 132)∧(Zh Tryz.prog 132=some 7)∧(Ze Tryz.prog 132=some true)∧(Zl Tryz.prog 132=some (.agg #[(.slice none 0 0),(.slice none 0 0),(.slice none 0 0),(.string ⟨#[]⟩),(.slice none 0 0),(.slice none 0 0),(.slice none 0 0)]))∧(Zz Tryz.prog 132 3=some 3)∧(Zh Tryz.prog 9=some 1)∧(Ze Tryz.prog 9=some false)∧(Zl Tryz.prog 50=some (.agg #[(.int .i64 0),(.int .i64 0)]))∧(Yx Tryz.prog 50=some [(0,1),(1,1)])∧(ZA Tryz.prog 153=some 50)∧(Zh Tryz.prog 50=some 2)∧(Tryz.prog.underlying 23=some (.slice 3))∧(Tryz.prog.underlying 22=some (.slice 129))∧(Tryz.prog.underlying 127=some (.slice 132))∧(ZQ Tryz.prog 50=some 16):=by
 refine ⟨?_,?_,?_,?_,?_,?_,?_,?_,?_,?_,?_,?_,?_,?_,?_,?_,?_,?_,?_,?_,?_,?_,?_,?_,?_,?_,?_,?_,?_⟩<;>first | trivial | kernel_rfl
def Qh (l:List (List Int)):Nat:=l.foldr (fun p m=>max p.length m) 0
theorem IE {l:List (List Int)}{p:List Int}(h:p∈l):p.length≤Qh l:=by
 induction l with
 | nil=>cases h
 | cons a r ih =>
   simp only [Qh,List.foldr_cons]
   rcases List.mem_cons.1 h with e | h
   ·rw [e];omega
   ·have:=ih h;simp only [Qh] at this;omega
def CD (l:List (List Int)):Bool:=Py (Qh l+1) l
theorem AA (l:List (List Int))(hl:l≠[]):Pur Tryz.prog 131 [.list .none 1 (Xh l)] (vb (CD l)) :=
 bj (Qh l+1) l hl (fun p hp=>by have:=IE hp;omega)
def Vz (f:Flat)(n:Int):Bool:=decide (n=-1) || (decide (0≤n)&&(match f.groups[n.toNat]? with | some u=>decide (u.env.length=0) | none=>false))
def Tp (f:Flat)(i:Nat):Bool:=match f.groups[i]? with
 | some u=>!decide (u.alts.length=0)&&u.env.all Ya&&u.alts.all (Ws f i)&&CD (u.alts.map FClause.path)
 | none=>false
def QW (f:Flat):Bool:=decide (f.groups.length≤1000)&&decide (WW f≤8000)&&f.rules.all (Vz f)&&(List.range f.groups.length).all (Tp f)
def U4 (f:Flat):Int:=if QW f then 0 else 220
theorem Q5 {n:Nat}{P:Nat→Bool}:(List.range (n+1)).all P=((List.range n).all P&&P n):=by simp [List.range_succ]
theorem Nr (f:Flat):Pur Tryz.prog 91 [.agg f.emb] (vi (U4 f)):=by
 intro σ
 refine Zj.nodup (by kernel_rfl) (fun hnd=>?_)
 refine Zj.ok (by kernel_rfl) (fun hok=>?_)
 have hf:=hok _ List.mem_cons_self
 clear hok
 have hgr:=hf.agg (c:=.list .none 2 (cO f.groups)) (by simp [Flat.emb])
 have hlg:=hgr.len
 rw [ck] at hlg
 have hlr:=(hf.agg (c:=.list .none 1 (Yz f.rules)) (by simp [Flat.emb])).len
 rw [ZP] at hlr
 have hn:=D9 f
 have hw:∀ j:Nat,j≤137438953472→IntKind.i64.wrap ((j:Int)+1)=((j+1:Nat):Int):=fun j hj=>Zp (by omega) (by omega)
 have hcl:=fun (i:Nat) (G:FGroup) (hG:f.groups[i]?=some G) (c:FClause)=>EI f i G hG c
 simp only [Flat.emb] at hn hcl ⊢
 have bad:QW f=false→U4 f=220:=fun h=>by unfold U4;rw [h];rfl
 refine Zc [] [] Tryz.func91 rfl (by kernel_rfl) ?_;rw [Tryz.ntmps91,Tryz.results91]
 obtain ⟨bg,fg⟩:∃ b,decide (1000<(f.groups.length:Int))=b:=⟨_,rfl⟩
 try simp only [go_sem,seval,Wd,ck,fg]
 cases bg with
 | true =>
   try simp only [go_sem,seval,Wd,ck]
   have h:¬ f.groups.length≤1000:=by have:=of_decide_eq_true fg;omega
   rw [bad (by unfold QW;rw [decide_eq_false h];simp)]
   exact Zu
 | false =>
   have hg0:f.groups.length≤1000:=by have:=of_decide_eq_false fg;omega
   try simp only [go_sem,seval,Wd,ck]
   refine hn.use ?_
   by_cases hnn:WW f≤8000
   ·have e1:So f=WW f:=by unfold So;rw [if_pos hnn]
    rw [e1]
    have f1:(8000<(WW f:Int))=False:=eq_false (by omega)
    try simp only [go_sem,seval,Wd,f1,decide_false,ZP,ck]
    refine Zv (mu:=[]) (dr:=[]) [2,4,22,23,24,25,26,27,28,29,30,31,32,33,34,35,36,37,38,39,40,41,42,43,44,45,46,47,48,49] (fun i:Nat=>[(22,vi i)]) (fun _=>σ) (fun i=>i≤f.rules.length∧(f.rules.take i).all (Vz f)=true) (fun i=>f.rules.length-i) 0 (by kernel_rfl) ⟨by omega,by simp⟩ ⟨.refl _,trivial⟩ (.refl _) ?_
    rintro i ⟨i1,i2⟩
    try simp only [go_sem,seval,Wd,ZP,ck]
    refine ⟨fun h1=>⟨by omega,h1,fun c hc=>?_⟩,fun h1=>?_⟩
    ·rw [Int.toNat_natCast] at hc
     obtain ⟨n,hn',rfl⟩:=Yo hc
     have hnx:(f.rules.take (i+1)).all (Vz f)=Vz f n:=by rw [List.take_add_one,hn',Option.toList_some,List.all_append,i2];simp
     have hrb:Vz f n=false→U4 f=220:=fun h=>bad (by
      have:f.rules.all (Vz f)=false:=by
       rw [List.all_eq_false]
       exact ⟨n,List.mem_of_getElem? hn',by rw [h];simp⟩
      unfold QW;rw [this];simp)
     by_cases n1:n=-1
     ·have q1:(n=-1)=True:=eq_true n1
      try simp only [go_sem,seval,Wd,q1,decide_true]
      have hr:Vz f n=true:=by simp [Vz,n1]
      rw [hw i (by omega)]
      exact .mk (i+1) ⟨by omega,by rw [hnx];exact hr⟩ (by omega) ⟨.refl _,trivial⟩ (by repeat first | exact Zf.turn _ rfl | refine Zf.put rfl ?_) (.refl _)
     ·have q1:(n=-1)=False:=eq_false n1
      by_cases n2:n<0
      ·have q2:(n<0)=True:=eq_true n2
       try simp only [go_sem,seval,Wd,q1,q2,decide_true,decide_false]
       rw [hrb (by have:¬ 0≤n:=by omega
                   simp [Vz,n1,this])]
       exact Zu
      ·have q2:(n<0)=False:=eq_false n2
       by_cases n3:(f.groups.length:Int)≤n
       ·have q3:((f.groups.length:Int)≤n)=True:=eq_true n3
        try simp only [go_sem,seval,Wd,q1,q2,q3,decide_true,decide_false,ck]
        rw [hrb (by have:f.groups[n.toNat]?=none:=List.getElem?_eq_none (by omega)
                    simp [Vz,n1,this])]
        exact Zu
       ·have q3:((f.groups.length:Int)≤n)=False:=eq_false n3
        try simp only [go_sem,seval,Wd,q1,q2,q3,decide_true,decide_false,ck]
        refine ⟨by omega,by omega,fun c hc=>?_⟩
        obtain ⟨u,hu,rfl⟩:=cT hc
        try simp only [go_sem,seval,Wd,q1,q2,q3,decide_true,decide_false,FGroup.emb,cj]
        refine ⟨fun g1=>?_,fun g1=>?_⟩
        ·have n4:¬ u.env.length=0:=by omega
         rw [hrb (by simp only [Vz,hu,decide_eq_false n1,decide_eq_false n4];simp)]
         exact Zu
        ·have n4:u.env.length=0:=by omega
         have hr:Vz f n=true:=by simp only [Vz,hu,decide_eq_false n1,decide_eq_true n4];simp;omega
         rw [hw i (by omega)]
         exact .mk (i+1) ⟨by omega,by rw [hnx];exact hr⟩ (by omega) ⟨.refl _,trivial⟩ (by repeat first | exact Zf.turn _ rfl | refine Zf.put rfl ?_) (.refl _)
    ·have hir:f.rules.take i=f.rules:=List.take_of_length_le (by omega)
     rw [hir] at i2
     try simp only [go_sem,seval,Wd,ck]
     refine Zv (mu:=[]) (dr:=[]) [2,5,6,7,9,53,54,55,56,57,58,59,60,61,62,63,64,65,66,67,68,69,70,71,72,73,74,75,76,77,78,79,80,81,82,83,84,85,86,87,88,89] (fun i:Nat=>[(53,vi i)]) (fun _=>σ) (fun i=>i≤f.groups.length∧(List.range i).all (Tp f)=true) (fun i=>f.groups.length-i) 0 (by kernel_rfl) ⟨by omega,by simp⟩ ⟨.refl _,trivial⟩ (.refl _) ?_
     rintro m ⟨m1,m2⟩
     try simp only [go_sem,seval,Wd,ck]
     refine ⟨fun h1=>⟨by omega,h1,fun c hc=>?_⟩,fun h1=>?_⟩
     ·rw [Int.toNat_natCast] at hc
      obtain ⟨u,hu,rfl⟩:=cT hc
      have hml:m<f.groups.length:=(List.getElem?_eq_some_iff.1 hu).1
      have hgb:Tp f m=false→U4 f=220:=fun h=>bad (by
       have:(List.range f.groups.length).all (Tp f)=false:=by
        rw [List.all_eq_false]
        exact ⟨m,List.mem_range.2 hml,by rw [h];simp⟩
       unfold QW;rw [this];simp)
      have hgd:Tp f m=(!decide (u.alts.length=0)&&u.env.all Ya&&u.alts.all (Ws f m)&&CD (u.alts.map FClause.path)):=by simp only [Tp,hu]
      have hls:=((hgr.mem (e:=u.emb) (List.mem_of_getElem? hc)).agg (c:=.list .none 7 (cK u.alts)) (by simp [FGroup.emb])).len
      rw [cw] at hls
      have hclu:=hcl m u hu
      try simp only [go_sem,seval,Wd,FGroup.emb]
      intro b6 hb6
      by_cases a0:u.alts.length=0
      ·have q1:((u.alts.length:Int)=0)=True:=eq_true (by omega)
       try simp only [go_sem,seval,Wd,q1,decide_true,cw]
       rw [hgb (by rw [hgd,decide_eq_true a0];simp)]
       exact fm
      ·have q1:((u.alts.length:Int)=0)=False:=eq_false (by omega)
       try simp only [go_sem,seval,Wd,q1,decide_false,cw]
       refine (VG u.env .none 2 (.inl rfl)).use ?_
       obtain ⟨be,fe⟩:∃ b,u.env.all Ya=b:=⟨_,rfl⟩
       rw [fe]
       cases be with
       | false =>
         try simp only [go_sem,seval,Wd,cw]
         rw [hgb (by rw [hgd,fe];simp)]
         exact fm
       | true =>
         try simp only [go_sem,seval,Wd,cw]
         obtain ⟨T,hT⟩:∃ T:Store,T=(b6,.cells [.list .none 2 (cJ u.env),.list .none 7 (cK u.alts)])::σ:=⟨_,rfl⟩
         rw [← hT]
         have hSs:∀ {S:Store},Has T S→Sub σ S:=fun h=>Has.sub (fun p hp=>h p (by rw [hT];exact List.mem_cons_of_mem _ hp)) hnd
         refine Zv (mu:=[]) (dr:=[]) [2,7,9,71,72,73,74,75,76,77,78,79,80,81,82,83,84,85] (fun x:Nat×AV×Store=>[(71,vi x.1),(7,x.2.1)]) (fun x=>x.2.2) (fun x=>x.1≤u.alts.length∧LV T x.2.2 x.2.1 1 (Xh ((u.alts.take x.1).map FClause.path))∧Has T x.2.2∧(u.alts.take x.1).all (Ws f m)=true) (fun x=>u.alts.length-x.1) (0,.list .full 0 [],T) (by kernel_rfl) ⟨by omega,LV.nil _ _ _,.refl _,by simp⟩ ⟨.refl _,.refl _,trivial⟩ (.refl _) ?_
         rintro ⟨j,v,S⟩ ⟨j1,j2,j3,j4⟩
         simp only at j1 j2 j3 j4
         try simp only [go_sem,seval,Wd,cw]
         refine ⟨fun h1=>⟨by omega,h1,fun c hc=>?_⟩,fun h1=>?_⟩
         ·rw [Int.toNat_natCast] at hc
          obtain ⟨C,hC,rfl⟩:=cZ hc
          have hcC:=hclu C
          have hst:(u.alts.take (j+1)).all (Ws f m)=Ws f m C:=by rw [List.take_add_one,hC,Option.toList_some,List.all_append,j4];simp
          have hcb:Ws f m C=false→Tp f m=false:=fun h=>by
           have:u.alts.all (Ws f m)=false:=by
            rw [List.all_eq_false]
            exact ⟨C,List.mem_of_getElem? hC,by rw [h];simp⟩
           rw [hgd,this];simp
          simp only [FClause.emb] at hcC
          try simp only [go_sem,seval,Wd,FClause.emb]
          intro b9 hb9
          try simp only [go_sem,seval,Wd]
          refine hcC.use ?_
          obtain ⟨bc,fc⟩:∃ b,Ws f m C=b:=⟨_,rfl⟩
          rw [fc]
          cases bc with
          | false =>
            try simp only [go_sem,seval,Wd,cw]
            rw [hgb (hcb fc)]
            exact ZE (.refl _) ((hSs j3).skip _)
          | true =>
            try simp only [go_sem,seval,Wd,cw,j2.one,j2.cells]
            refine ⟨rfl,(j2.cons hb9 _).append rfl (by decide) (by simp [Xh];omega) rfl (by simp) (j3.cons _) (fun v' S' hv' hkp hS'=>?_)⟩
            try simp only [go_sem,seval,Wd,hv'.one,hv'.cells]
            rw [hw j (by omega)]
            refine .mk (j+1,v',S') ⟨by simp only;omega,?_,hS',by simp only;rw [hst,fc]⟩ (by simp only;omega) ⟨.refl _,.refl _,trivial⟩ (by repeat first | exact Zf.turn _ rfl | refine Zf.put rfl ?_) (.refl _)
            simp only
            rw [List.take_add_one,hC,Option.toList_some,List.map_append]
            have:Xh ((u.alts.take j).map FClause.path++[C].map FClause.path)=Xh ((u.alts.take j).map FClause.path)++[[AV.list .none 1 (Yz C.path)]]:=by simp [Xh]
            rw [this]
            exact hv'
         ·have hjr:u.alts.take j=u.alts:=List.take_of_length_le (by omega)
          rw [hjr] at j2 j4
          try simp only [go_sem,seval,Wd,j2.one,j2.cells]
          refine ((AA (u.alts.map FClause.path) (fun e=>by have:=congrArg List.length e;rw [List.length_map,List.length_nil] at this;omega)).use ?_).wk ⟨j2.wk,trivial⟩
          obtain ⟨bc,fc⟩:∃ b,CD (u.alts.map FClause.path)=b:=⟨_,rfl⟩
          rw [fc]
          cases bc with
          | false =>
            try simp only [go_sem,seval,Wd]
            rw [hgb (by rw [hgd,fc];simp)]
            exact ZE (.refl _) (hSs j3)
          | true =>
            try simp only [go_sem,seval,Wd]
            rw [hw m (by omega)]
            refine .mk (m+1) ⟨by omega,?_⟩ (by omega) ⟨.refl _,trivial⟩ (by repeat first | exact Zf.turn _ rfl | refine Zf.put rfl ?_ | refine cL _ rfl rfl ?_) (hSs j3)
            rw [Q5,m2,hgd,fe,j4,fc,decide_eq_false a0];rfl
     ·have hme:m=f.groups.length:=by omega
      rw [hme] at m2
      have:U4 f=0:=by
       unfold U4 QW
       rw [decide_eq_true hg0,decide_eq_true hnn,i2,m2];rfl
      rw [this]
      try simp only [go_sem,seval,Wd]
      exact Zu
   ·have e1:So f=8001:=by unfold So;rw [if_neg hnn]
    rw [e1]
    try simp only [go_sem,seval,Wd]
    rw [bad (by unfold QW;rw [decide_eq_false hnn];simp)]
    exact Zu
def hcl (pred:Str)(i:Nat):Nat→List FClause→List Pick
 | _,[]=>[]
 | k,c::r=>(if c.name=pred then [⟨i,k⟩] else [])++hcl pred i (k+1) r
def XE (f:Flat)(pred:Str)(i:Nat)(n:Int):List Pick :=
 if 0≤n then (match f.groups[n.toNat]? with | some u=>hcl pred i 0 u.alts | none=>[]) else []
def hrl (f:Flat)(pred:Str):Nat→List Int→List Pick
 | _,[]=>[]
 | i,n::r=>XE f pred i n++hrl f pred (i+1) r
def YI (f:Flat)(pred:Str):List Pick:=hrl f pred 0 f.rules
theorem JL (pred:Str)(i:Nat)(l m:List FClause)(k:Nat):hcl pred i k (l++m)=hcl pred i k l++hcl pred i (k+l.length) m:=by
 induction l generalizing k with
 | nil=>rfl
 | cons c r ih =>
   simp only [List.cons_append,hcl,ih,List.append_assoc,List.length_cons]
   rw [show k+1+r.length=k+(r.length+1) by omega]
theorem JI (f:Flat)(pred:Str)(l m:List Int)(k:Nat):hrl f pred k (l++m)=hrl f pred k l++hrl f pred (k+l.length) m:=by
 induction l generalizing k with
 | nil=>rfl
 | cons c r ih =>
   simp only [List.cons_append,hrl,ih,List.append_assoc,List.length_cons]
   rw [show k+1+r.length=k+(r.length+1) by omega]
theorem FW {f:Flat}{pred:Str}{l:List Int}{i:Nat}{n:Int}(h:l[i]?=some n):hrl f pred 0 (l.take (i+1))=hrl f pred 0 (l.take i)++XE f pred i n:=by
 rw [List.take_add_one,h,Option.toList_some,JI,List.length_take,Nat.zero_add]
 have:min i l.length=i:=by have:=(List.getElem?_eq_some_iff.1 h).1;omega
 rw [this];simp [hrl]
theorem FX {pred:Str}{l:List FClause}{i k:Nat}{c:FClause}(h:l[k]?=some c):hcl pred i 0 (l.take (k+1))=hcl pred i 0 (l.take k)++(if c.name=pred then [⟨i,k⟩] else []):=by
 rw [List.take_add_one,h,Option.toList_some,JL,List.length_take,Nat.zero_add]
 have:min k l.length=k:=by have:=(List.getElem?_eq_some_iff.1 h).1;omega
 rw [this];simp [hcl]
theorem Ax (f:Flat)(pred:Str)(l:List Int)(i:Nat):(hrl f pred 0 (l.take i)).length≤(hrl f pred 0 l).length:=by
 have:=JI f pred (l.take i) (l.drop i) 0
 rw [List.take_append_drop] at this
 rw [this,List.length_append];omega
theorem Ay (pred:Str)(j:Nat)(l:List FClause)(i:Nat):(hcl pred j 0 (l.take i)).length≤(hcl pred j 0 l).length:=by
 have:=JL pred j (l.take i) (l.drop i) 0
 rw [List.take_append_drop] at this
 rw [this,List.length_append];omega
theorem Cu (f:Flat)(pred:Str)(hh:(YI f pred).length≤137438953472):Pur Tryz.prog 92 [.agg f.emb,vs pred] (.list .none 2 (cI (YI f pred))):=by
 intro σ
 refine Zj.nodup (by kernel_rfl) (fun hnd=>?_)
 refine Zj.ok (by kernel_rfl) (fun hok=>?_)
 have hf:=hok _ List.mem_cons_self
 clear hok
 have hgr:=hf.agg (c:=.list .none 2 (cO f.groups)) (by simp [Flat.emb])
 have hlr:=(hf.agg (c:=.list .none 1 (Yz f.rules)) (by simp [Flat.emb])).len
 rw [ZP] at hlr
 have hw:∀ j:Nat,j≤137438953472→IntKind.i64.wrap ((j:Int)+1)=((j+1:Nat):Int):=fun j hj=>Zp (by omega) (by omega)
 unfold YI at hh ⊢
 simp only [Flat.emb]
 refine Zc [] [] Tryz.func92 rfl (by kernel_rfl) ?_;rw [Tryz.ntmps92,Tryz.results92]
 try simp only [go_sem,seval,Sj,ZP]
 refine Zv (mu:=[]) (dr:=[]) [5,6,7,8,9,13,14,15,16,17,18,19,20,21,22,23,24,25,26,27,28,29,30,31,32,33,34,35,36,37,38,39,40,41,42,43,44,45,46,47,48,49,50] (fun x:Nat×AV×Store=>[(13,vi x.1),(5,x.2.1)]) (fun x=>x.2.2) (fun x=>x.1≤f.rules.length∧LV σ x.2.2 x.2.1 2 (cI (hrl f pred 0 (f.rules.take x.1)))∧Has σ x.2.2) (fun x=>f.rules.length-x.1) (0,.list .full 0 [],σ) (by kernel_rfl) ⟨by omega,LV.nil _ _ _,.refl _⟩ ⟨.refl _,.refl _,trivial⟩ (.refl _) ?_
 rintro ⟨i,v,S⟩ ⟨i1,i2,i3⟩
 simp only at i1 i2 i3
 try simp only [go_sem,seval,Sj,ZP]
 refine ⟨fun h1=>⟨by omega,h1,fun c hc=>?_⟩,fun h1=>?_⟩
 ·rw [Int.toNat_natCast] at hc
  obtain ⟨n,hn,rfl⟩:=Yo hc
  have hst:=FW (f:=f) (pred:=pred) hn
  have hle:=Ax f pred f.rules (i+1)
  by_cases n1:n<0
  ·have q1:(n<0)=True:=eq_true n1
   try simp only [go_sem,seval,Sj,q1,decide_true]
   have:XE f pred i n=[]:=by unfold XE;rw [if_neg (by omega)]
   rw [this,List.append_nil] at hst
   rw [hw i (by omega)]
   exact .mk (i+1,v,S) ⟨by simp only;omega,by simp only;rw [hst];exact i2,i3⟩ (by simp only;omega) ⟨.refl _,.refl _,trivial⟩ (by repeat first | exact Zf.turn _ rfl | refine Zf.put rfl ?_) (.refl _)
  ·have q1:(n<0)=False:=eq_false n1
   by_cases n2:(f.groups.length:Int)≤n
   ·have q2:((f.groups.length:Int)≤n)=True:=eq_true n2
    try simp only [go_sem,seval,Sj,q1,q2,decide_true,decide_false,ck]
    have:XE f pred i n=[]:=by
     have:f.groups[n.toNat]?=none:=List.getElem?_eq_none (by omega)
     unfold XE;rw [if_pos (by omega),this]
    rw [this,List.append_nil] at hst
    rw [hw i (by omega)]
    exact .mk (i+1,v,S) ⟨by simp only;omega,by simp only;rw [hst];exact i2,i3⟩ (by simp only;omega) ⟨.refl _,.refl _,trivial⟩ (by repeat first | exact Zf.turn _ rfl | refine Zf.put rfl ?_) (.refl _)
   ·have q2:((f.groups.length:Int)≤n)=False:=eq_false n2
    try simp only [go_sem,seval,Sj,q1,q2,decide_true,decide_false,ck]
    refine ⟨by omega,by omega,fun c hc=>?_⟩
    obtain ⟨u,hu,rfl⟩:=cT hc
    have hat:XE f pred i n=hcl pred i 0 u.alts:=by unfold XE;rw [if_pos (by omega),hu]
    rw [hat] at hst
    have hls:=((hgr.mem (e:=u.emb) (List.mem_of_getElem? hc)).agg (c:=.list .none 7 (cK u.alts)) (by simp [FGroup.emb])).len
    rw [cw] at hls
    try simp only [go_sem,seval,Sj,FGroup.emb,cw]
    refine Zv (mu:=[]) (dr:=[]) [5,8,9,34,35,36,37,38,39,40,41,42,43,44,45,46,47,48,49] (fun x:Nat×AV×Store=>[(34,vi x.1),(5,x.2.1)]) (fun x=>x.2.2) (fun x=>x.1≤u.alts.length∧LV σ x.2.2 x.2.1 2 (cI (hrl f pred 0 (f.rules.take i)++hcl pred i 0 (u.alts.take x.1)))∧Has σ x.2.2) (fun x=>u.alts.length-x.1) (0,v,S) (by kernel_rfl) ⟨by omega,by simp only [List.take_zero,hcl,List.append_nil];exact i2,i3⟩ ⟨.refl _,.refl _,trivial⟩ (.refl _) ?_
    rintro ⟨k,v,S⟩ ⟨j1,j2,j3⟩
    simp only at j1 j2 j3
    try simp only [go_sem,seval,Sj,cw]
    refine ⟨fun h1=>⟨by omega,h1,fun c hc=>?_⟩,fun h1=>?_⟩
    ·rw [Int.toNat_natCast] at hc
     obtain ⟨C,hC,rfl⟩:=cZ hc
     have hct:=FX (pred:=pred) (i:=i) hC
     have hcle:=Ay pred i u.alts (k+1)
     try simp only [go_sem,seval,Sj,FClause.emb]
     intro b9 hb9
     by_cases nm:C.name=pred
     ·have q3:(C.name=pred)=True:=eq_true nm
      try simp only [go_sem,seval,Sj,q3,decide_true,j2.one,j2.cells]
      rw [if_pos nm] at hct
      have l1:=congrArg List.length hst
      have l2:=congrArg List.length hct
      rw [List.length_append] at l1 l2
      rw [List.length_singleton] at l2
      refine ⟨rfl,(j2.cons hb9 _).append rfl (by decide) (by rw [cB,List.length_append,List.length_singleton];omega) rfl (by simp) (j3.cons _) (fun v' S' hv' hkp hS'=>?_)⟩
      try simp only [go_sem,seval,Sj,hv'.one,hv'.cells]
      rw [hw k (by omega)]
      refine .mk (k+1,v',S') ⟨by simp only;omega,?_,hS'⟩ (by simp only;omega) ⟨.refl _,.refl _,trivial⟩ (by repeat first | exact Zf.turn _ rfl | refine Zf.put rfl ?_) (.refl _)
      simp only
      rw [hct,← List.append_assoc]
      have:cI (hrl f pred 0 (f.rules.take i)++hcl pred i 0 (u.alts.take k)++[⟨i,k⟩])=cI (hrl f pred 0 (f.rules.take i)++hcl pred i 0 (u.alts.take k))++[[vi i,vi k]]:=by simp [cI,Pick.emb]
      rw [this]
      exact hv'
     ·have q3:(C.name=pred)=False:=eq_false nm
      try simp only [go_sem,seval,Sj,q3,decide_false]
      rw [if_neg nm,List.append_nil] at hct
      rw [hw k (by omega)]
      refine .mk (k+1,v,(b9,_)::S) ⟨by simp only;omega,by simp only;rw [hct];exact j2.cons hb9 _,j3.cons _⟩ (by simp only;omega) ⟨.refl _,.refl _,trivial⟩ (by repeat first | exact Zf.turn _ rfl | refine Zf.put rfl ?_) (.refl _)
    ·have hjr:u.alts.take k=u.alts:=List.take_of_length_le (by omega)
     rw [hjr,← hst] at j2
     try simp only [go_sem,seval,Sj,j2.one,j2.cells]
     rw [hw i (by omega)]
     exact .mk (i+1,v,S) ⟨by simp only;omega,j2,j3⟩ (by simp only;omega) ⟨.refl _,.refl _,trivial⟩ (by repeat first | exact Zf.turn _ rfl | refine Zf.put rfl ?_ | refine cL _ rfl rfl ?_) (.refl _)
 ·have hir:f.rules.take i=f.rules:=List.take_of_length_le (by omega)
  rw [hir] at i2
  try simp only [go_sem,seval,Sj,i2.one,i2.cells]
  exact ir
end Go.Vx
end
section
namespace Go.Vx
open Go.RowKit
theorem Pi {κ:Type}[DecidableEq κ]{P:Program}{kt:TypeId}{enc:κ→List Value}{tags:List Nat}(hT:eqT P kt=some tags)
 (he:∀ x y,W7 tags ((enc x).map AV.val) ((enc y).map AV.val)=some (decide (x=y))) (x y:κ) (w:World):(Op.equal kt (.agg (enc x).toArray) (.agg (enc y).toArray)).run P w=.ok (decide (x=y)) w:=by
 have hv:∀ l:List Value,V (fun _ _=>False) w (.agg (l.map AV.val)) (.agg l.toArray):=fun l=>.agg _ _ (by simp) (fun i c v hc hv=>by
  rw [List.getElem?_map,hv] at hc;simp at hc;subst hc;exact .val _)
 obtain ⟨vs,us,h1,h2,_,h4⟩:=Sm (op:=.eql) (x:=.const .nilIface) (y:=.const .nilIface) (T:=kt) (r:=decide (x=y)) (by rw [hT];exact he x y) (hv (enc x)) (hv (enc y))
 injection h1 with h1;injection h2 with h2
 subst h1;subst h2
 exact h4
theorem R8 {P:Program}{vs:Array Value}{em:Bool}:∀ (fs:List Field) (o:Nat) (tags:List Nat) (w:World),LC P o fs=some tags→o+tags.length≤vs.size →
 (do for f in fs do if f.name ≠ "_" then Instr.checkKey em 9999 f.type (← part f.type vs f.offset):Sem Unit).run P w=.ok () w
 | [],o,tags,w,ht,hs=>by simp
 | f::fs,o,tags,w,ht,hs=>by
   simp only [LC] at ht
   split at ht
   ·rename_i hf
    split at ht
    ·rename_i k l hk hl
     injection ht with ht;subst ht
     simp only [List.length_cons] at hs
     have ih:=R8 (vs:=vs) (em:=em) fs (o+1) l w hl (by omega)
     have hp:=Vl (w:=w) hk (xs:=vs) (off:=f.offset) (v:=vs[o]'(by omega)) (by rw [hf.1];simp)
     have hc:∀ v:Value,(Instr.checkKey em 9999 f.type v).run P w=.ok () w:=by
      intro v
      unfold S4 at hk
      split at hk
      ·rename_i hu;rw [show (9999:Nat)=9998+1 from rfl,Instr.checkKey];simp [run_underlying hu]
      ·rename_i hu;rw [show (9999:Nat)=9998+1 from rfl,Instr.checkKey];simp [run_underlying hu]
      ·rename_i hu;rw [show (9999:Nat)=9998+1 from rfl,Instr.checkKey];simp [run_underlying hu]
      ·cases hk
     simp only [List.forIn_cons,if_pos hf.2,Sem.run_bind,hp,Result.andThen_ok,hc,Sem.run_pure]
     have ih':=ih
     simp at ih' ⊢
     rw [ih'];rfl
    ·cases ht
   ·cases ht
theorem M9:∀ (tags:List Nat) (xs ys:List AV) (r:Bool),W7 tags xs ys=some r→xs.length=tags.length
 | [],[],[],_,_=>rfl
 | k::l,a::r,b::s,q,h=>by
   simp only [W7] at h
   split at h
   ·rename_i x y h1 h2;simp [M9 l r s y h2]
   ·cases h
 | [],_::_,_,_,h=>by simp [W7] at h
 | [],[],_::_,_,h=>by simp [W7] at h
 | _::_,[],_,_,h=>by simp [W7] at h
 | _::_,_::_,[],_,h=>by simp [W7] at h
theorem Kc {κ:Type}[DecidableEq κ]{P:Program}{kt:TypeId}{enc:κ→List Value}{tags:List Nat}(hT:eqT P kt=some tags)
 (he:∀ x y,W7 tags ((enc x).map AV.val) ((enc y).map AV.val)=some (decide (x=y))) (hs:∀ x,Instr.sameBits 10000 (.agg (enc x).toArray) (.agg (enc x).toArray)=true):V3 P kt (fun x=>Value.agg (enc x).toArray) where
 inj a b h:=by
  have h1:enc a=enc b:=by injection h with h;simpa using congrArg Array.toList h
  have h2:=he a b
  have h3:=he b b
  rw [h1,h3] at h2
  injection h2 with h2
  simp at h2
  exact h2
 check em x w:=by
  unfold eqT at hT
  split at hT
  ·rename_i fs hu
   split at hT
   ·have hlen:=M9 _ _ _ _ (he x x)
    rw [List.length_map] at hlen
    have:=R8 (P:=P) (vs:=(enc x).toArray) (em:=em) fs.toList 0 tags w hT (by simp;omega)
    rw [show (10000:Nat)=9999+1 from rfl,Instr.checkKey]
    refine il ?_
    rw [← Array.forIn_toList]
    have this':=this
    simp at this' ⊢
    rw [this'];rfl
   ·cases hT
  ·cases hT
 find x w es h:=by
  have hw:(match P.underlying kt with | some (.array _ _) | some (.struct _)=>true | _=>false)=true:=by
   unfold eqT at hT
   split at hT
   ·rename_i fs hu;rw [hu]
   ·cases hT
  rw [run_findKey_eq w hw]
  have key:∀ (es:List MapEntry) (i:Nat),(∀ e∈es,∃ y,e.key=Value.agg (enc y).toArray) →
   ((Instr.findAsking kt (.agg (enc x).toArray) es i).run P w=.ok none w∧∀ e∈es,e.key≠Value.agg (enc x).toArray)∨∃ j e,(Instr.findAsking kt (.agg (enc x).toArray) es i).run P w=.ok (some (i+j,e.val)) w∧es[j]?=some e∧e.key=Value.agg (enc x).toArray:=by
   intro es
   induction es with
   | nil=>intro i _;exact .inl ⟨by simp [Instr.findAsking],by simp⟩
   | cons e r ih =>
     intro i h
     obtain ⟨y,hy⟩:=h e List.mem_cons_self
     have heq:=Pi hT he x y w
     by_cases hxy:x=y
     ·refine .inr ⟨0,e,?_,rfl,by rw [hy,hxy]⟩
      rw [Instr.findAsking,Sem.run_bind,hy,heq,Result.andThen_ok,decide_eq_true hxy];rfl
     ·have hne:e.key≠Value.agg (enc x).toArray:=by
       rw [hy];intro h
       have h1:enc y=enc x:=by injection h with h;simpa using congrArg Array.toList h
       have h2:=he x y
       rw [h1,he x x,decide_eq_false hxy] at h2
       simp at h2
      have hstep:(Instr.findAsking kt (.agg (enc x).toArray) (e::r) i).run P w=(Instr.findAsking kt (.agg (enc x).toArray) r (i+1)).run P w:=by
       rw [Instr.findAsking,Sem.run_bind,hy,heq,Result.andThen_ok,decide_eq_false hxy];rfl
      rcases ih (i+1) (fun e he=>h e (List.mem_cons_of_mem _ he)) with ⟨h1,h2⟩ | ⟨j,e',h1,h2,h3⟩
      ·exact .inl ⟨hstep.trans h1,fun e' he'=>(List.mem_cons.1 he').elim (fun q=>q ▸ hne) (h2 e')⟩
      ·exact .inr ⟨j+1,e',by rw [hstep,h1,show i+1+j=i+(j+1) by omega],by simpa using h2,h3⟩
  rcases key es 0 h with h | ⟨j,e,h1,h2,h3⟩
  ·exact .inl h
  ·exact .inr ⟨j,e,by rw [h1,Nat.zero_add],h2,h3⟩
 same:=hs
def Ew (c:Cls):List Value:=[.bool c.any,.string c.name]
def keC (c:Cls):Value:=.agg (Ew c).toArray
theorem Kb {P:Program}{kt:TypeId}(h:eqT P kt=some [1,2]):V3 P kt keC :=
 Kc (enc:=Ew) h (fun x y=>by
  obtain ⟨a,b⟩:=x
  obtain ⟨c,d⟩:=y
  simp [Ew,W7,Vo]) (fun x=>by simp [Ew,Instr.sameBits];rw [beq_toListBytes];simp)
theorem M5 {P:Program}{t kt et:TypeId}{r c:Nat}{l:List (Cls×AV×Nat)}{x:Cls}{v:AV}{S:Store}{K:Store→Prop}{k:AV}(ht:P.underlying t=some (.map kt et))(hk:eqT P kt=some [1,2])
 (hx:k.toVal=some (keC x)) (hg:S.get r=some (.map (ZM keC l) c)) (h:K (S.set r (.map (ZM keC (VL l x v c)) (Uh l x c)))):Vk P t (.val (.map (some r))) k v S K :=
 ⟨Cls,inferInstance,keC,r,c,l,x,kt,et,ht,Kb hk,rfl,hx,hg,h⟩
theorem J6 (a:Bool)(s:ByteArray):AV.toVal (.agg [.val (.bool a),.val (.string s)])=some (keC ⟨a,s⟩):=rfl
theorem Wk.elems {rt:Rt}{s:Nat}{es es':List (List AV)}(hl:es.length=es'.length)(h:∀ (i:Nat) (e e':List AV),es[i]?=some e→es'[i]?=some e'→e.length=e'.length∧∀ (j:Nat) (c c':AV),e[j]?=some c→e'[j]?=some c'→Wk c c'):Wk (.list rt s es) (.list rt s es'):=by
 intro L w v hv
 cases hv with
 | list _ _ _ cap a b o rd hcap hlim hsz ha hr h1 h2 =>
   have hget:∀ (i:Nat) (e':List AV),es'[i]?=some e'→∃ e,es[i]?=some e:=fun i e' h=>⟨_,List.getElem?_eq_getElem (by rw [hl];exact (List.getElem?_eq_some_iff.1 h).1)⟩
   rw [hl]
   refine .list rt s es' cap a b o rd (by rw [← hl];exact hcap) (by rw [← hl];exact hlim) (fun i e' he'=>?_) (fun hne=>ha (fun e=>hne (List.length_eq_zero_iff.1 (by rw [← hl,e];rfl)))) (by rw [← hl];exact hr) (fun i e' j c' he' hc'=>?_) (fun i e' j c' he' hc'=>?_)
   ·obtain ⟨e,he⟩:=hget i e' he'
    rw [← (h i e e' he he').1];exact hsz i e he
   ·obtain ⟨e,he⟩:=hget i e' he'
    obtain ⟨hl2,_⟩:=h i e e' he he'
    obtain ⟨c,hc⟩:∃ c,e[j]?=some c:=⟨_,List.getElem?_eq_getElem (by rw [hl2];exact (List.getElem?_eq_some_iff.1 hc').1)⟩
    exact h1 i e j c he hc
   ·obtain ⟨e,he⟩:=hget i e' he'
    obtain ⟨hl2,hw⟩:=h i e e' he he'
    obtain ⟨c,hc⟩:∃ c,e[j]?=some c:=⟨_,List.getElem?_eq_getElem (by rw [hl2];exact (List.getElem?_eq_some_iff.1 hc').1)⟩
    exact hw j c c' hc hc' _ _ _ (h2 i e j c he hc)
theorem LV.last {σ0 S:Store}{v:AV}{sz:Nat}{es:List (List AV)}{e e':List AV}(h:LV σ0 S v sz (es++[e]))(hl:e.length=e'.length)(hw:∀ (j:Nat) (c c':AV),e[j]?=some c→e'[j]?=some c'→Wk c c'):∃ v',Wk v v'∧LV σ0 S v' sz (es++[e']):=by
 obtain ⟨rt,s',rfl,hz,ht⟩:=h
 refine ⟨.list rt s' (es++[e']),Wk.elems (by simp) (fun i a b ha hb=>?_),rt,s',rfl,hz.imp id (fun h=>by simp at h),ht.imp (fun h=>⟨h.1,by simpa using h.2⟩) id⟩
 by_cases hi:i<es.length
 ·rw [List.getElem?_append_left hi] at ha hb
  rw [ha] at hb;injection hb with hb;subst hb
  exact ⟨rfl,fun j c c' hc hc'=>by rw [hc] at hc';injection hc' with hc';subst hc';exact .refl _⟩
 ·rw [List.getElem?_append_right (by omega)] at ha hb
  have h0:i-es.length=0:=by
   have:=(List.getElem?_eq_some_iff.1 ha).1;simp at this;omega
  rw [h0] at ha hb
  simp at ha hb;subst ha;subst hb
  exact ⟨hl,hw⟩
end Go.Vx
end
section
set_option maxRecDepth 100000
namespace Go.Vx
open Go.Proofs
theorem aC:(Zl Tryz.prog 107=some (.agg #[(.bool false),(.string ⟨#[]⟩)]))∧(Zz Tryz.prog 52 0=some 0)∧(Zh Tryz.prog 3=some 1)∧(Ze Tryz.prog 3=some false)∧(Zz Tryz.prog 52 2=some 2)∧(Zh Tryz.prog 9=some 1)∧(Ze Tryz.prog 9=some false)∧(Yx Tryz.prog 107=some [(0,1),(1,1)])∧(Zh Tryz.prog 107=some 2)∧(Ze Tryz.prog 107=some true):=by
 refine ⟨?_,?_,?_,?_,?_,?_,?_,?_,?_,?_⟩<;>first | trivial | kernel_rfl
theorem aD:(Zl Tryz.prog 107=some (.agg #[(.bool false),(.string ⟨#[]⟩)]))∧(Zz Tryz.prog 52 0=some 0)∧(Zh Tryz.prog 3=some 1)∧(Ze Tryz.prog 3=some false)∧(Zz Tryz.prog 52 2=some 2)∧(Zh Tryz.prog 9=some 1)∧(Ze Tryz.prog 9=some false)∧(Yx Tryz.prog 107=some [(0,1),(1,1)])∧(Zh Tryz.prog 107=some 2)∧(Ze Tryz.prog 107=some true):=by
 refine ⟨?_,?_,?_,?_,?_,?_,?_,?_,?_,?_⟩<;>first | trivial | kernel_rfl
theorem DE:(Zz Tryz.prog 32 0=some 0)∧(Zh Tryz.prog 3=some 1)∧(Ze Tryz.prog 3=some false)∧(Zz Tryz.prog 32 1=some 1)∧(ZA Tryz.prog 23=some 3)∧(Zl Tryz.prog 3=some (.int .i64 0)):=by
 refine ⟨?_,?_,?_,?_,?_,?_⟩<;>first | trivial | kernel_rfl
theorem Gq:(ZA Tryz.prog 23=some 3)∧(Zh Tryz.prog 3=some 1)∧(Ze Tryz.prog 3=some false)∧(Tryz.prog.underlying 23=some (.slice 3)):=by
 refine ⟨?_,?_,?_,?_⟩<;>first | trivial | kernel_rfl
theorem Gr:(True):=by
 first | trivial | kernel_rfl
theorem aP:(True):=by
 first | trivial | kernel_rfl
theorem Ib:(ZA Tryz.prog 99=some 110)∧(Zh Tryz.prog 110=some 3)∧(Ze Tryz.prog 110=some true)∧(Zl Tryz.prog 110=some (.agg #[(.int .i64 0),(.int .i64 0),(.slice none 0 0)]))∧(Zz Tryz.prog 110 0=some 0)∧(Zh Tryz.prog 32=some 2)∧(Ze Tryz.prog 32=some true)∧(ZA Tryz.prog 26=some 32)∧(Zl Tryz.prog 32=some (.agg #[(.int .i64 0),(.int .i64 0)]))∧(Tryz.prog.underlying 99=some (.slice 110))∧(ZQ Tryz.prog 32=some 16):=by
 refine ⟨?_,?_,?_,?_,?_,?_,?_,?_,?_,?_,?_⟩<;>first | trivial | kernel_rfl
theorem DF:(Zz Tryz.prog 107 0=some 0)∧(Zh Tryz.prog 4=some 1)∧(Ze Tryz.prog 4=some false)∧(Zh Tryz.prog 107=some 2)∧(Ze Tryz.prog 107=some true)∧(eqT Tryz.prog 107=some [1,2]):=by
 refine ⟨?_,?_,?_,?_,?_,?_⟩<;>first | trivial | kernel_rfl
theorem aB:(Zz Tryz.prog 110 0=some 0)∧(Zh Tryz.prog 32=some 2)∧(Ze Tryz.prog 32=some true):=by
 refine ⟨?_,?_,?_⟩<;>first | trivial | kernel_rfl
def Tt:Tm→Cls
 | .mk k _ s _=>if k=1 then ⟨false,s⟩ else if k=4 then ⟨true,ZS⟩ else ⟨false,ZS⟩
def Yh:Tm→Cls
 | .mk k _ s _=>if k=1 then ⟨false,s⟩ else ⟨true,ZS⟩
theorem Qa (t:Tm):Pur Tryz.prog 93 [.agg t.emb] (.agg (Yh t).emb):=by
 intro σ
 obtain ⟨k,n,s,l⟩:=t
 simp only [co,Yh]
 refine Zc [] [] Tryz.func93 rfl (by kernel_rfl) ?_;rw [Tryz.ntmps93,Tryz.results93]
 try simp only [go_sem,seval,aC]
 intro b hb
 try simp only [go_sem,seval,aC]
 refine ⟨fun h=>?_,fun h=>?_⟩
 ·rw [if_pos h]
  exact fm
 ·rw [if_neg h]
  exact fm
theorem Hq (t:Tm):Pur Tryz.prog 62 [.agg t.emb] (.agg (Tt t).emb):=by
 intro σ
 obtain ⟨k,n,s,l⟩:=t
 simp only [co,Tt]
 refine Zc [] [] Tryz.func62 rfl (by kernel_rfl) ?_;rw [Tryz.ntmps62,Tryz.results62]
 try simp only [go_sem,seval,aD]
 intro b hb
 try simp only [go_sem,seval,aD]
 refine ⟨fun h=>?_,fun h=>⟨fun h2=>?_,fun h2=>?_⟩⟩
 ·rw [if_pos h]
  exact fm
 ·rw [if_neg h,if_pos h2]
  exact fm
 ·rw [if_neg h,if_neg h2]
  exact fm
def VF (a b:Int):Int:=if a<b then -1 else if b<a then 1 else 0
theorem Of (a:Int):Pur Tryz.prog 155 [vi a] (vb false):=by
 intro σ
 refine Zc [] [] Tryz.func155 rfl (by kernel_rfl) ?_;rw [Tryz.ntmps155,Tryz.results155]
 try simp only [go_sem,seval,aP]
 exact ZC (by simp)
theorem UD (a b:Int):Pur Tryz.prog 126 [vi a,vi b] (vi (VF a b)):=by
 intro σ
 refine Zc [] [] Tryz.func126 rfl (by kernel_rfl) ?_;rw [Tryz.ntmps126,Tryz.results126]
 try simp only [go_sem,seval,Gr]
 refine (Of a).use ?_
 try simp only [go_sem,seval,Gr]
 refine (Of b).use ?_
 try simp only [go_sem,seval,Gr]
 refine ⟨fun h=>?_,fun h=>⟨fun h2=>?_,fun h2=>?_⟩⟩
 ·exact X8 (by simp [VF,h])
 ·exact X8 (by simp [VF,h,h2])
 ·exact X8 (by simp [VF,h,h2])
def orI (l:List Int):Int:=(l.find? fun x=>!decide (x=0)).getD 0
theorem bU (l:List Int)(rt:Rt)(s:Nat)(hs:s=1∨l=[]):Pur Tryz.prog 134 [.list rt s (Yz l)] (vi (orI l)):=by
 intro σ
 refine Zj.ok (by kernel_rfl) (fun hok=>?_)
 have hl:=(hok _ List.mem_cons_self).len
 rw [ZP] at hl
 clear hok
 refine Zc [] [] Tryz.func134 rfl (by kernel_rfl) ?_;rw [Tryz.ntmps134,Tryz.results134]
 try simp only [go_sem,seval,Gq,ZP]
 refine Zv (mu:=[]) (dr:=[]) [2,5,8,9,10,11,12,13,14,15,16] (fun i:Nat=>[(8,vi i)]) (fun _=>σ) (fun i=>i≤l.length∧orI l=orI (l.drop i)) (fun i=>l.length-i) 0 (by kernel_rfl) ⟨by omega,by simp⟩ ⟨.refl _,trivial⟩ (.refl _) ?_
 rintro i ⟨i1,i2⟩
 try simp only [go_sem,seval,Gq,ZP]
 refine ⟨fun h1=>⟨?_,by omega,h1,fun c hc=>?_⟩,fun h1=>?_⟩
 ·rcases hs with hs | hs
  ·rw [hs]
  ·rw [hs] at h1;simp at h1;omega
 ·rw [Int.toNat_natCast] at hc
  obtain ⟨n,hn,rfl⟩:=Yo hc
  have hd:l.drop i=n::l.drop (i+1):=List.drop_eq_getElem_cons (List.getElem?_eq_some_iff.1 hn).1 |>.trans (by rw [(List.getElem?_eq_some_iff.1 hn).2])
  try simp only [go_sem,seval,Gq]
  refine ⟨fun h2=>?_,fun h2=>?_⟩
  ·exact X8 (by rw [i2,hd];simp [orI,h2])
  ·rw [show IntKind.i64.wrap ((i:Int)+1)=((i+1:Nat):Int) from Zp (by omega) (by omega)]
   have h2':n=0:=by simpa using h2
   exact .mk (i+1) ⟨by omega,by rw [i2,hd];simp [orI,h2']⟩ (by omega) ⟨.refl _,trivial⟩ (by repeat first | exact Zf.turn _ rfl | refine Zf.put rfl ?_) (.refl _)
 ·rw [i2,List.drop_of_length_le (by omega)]
  exact X8 rfl
def U2 (a b:Pick):Int:=if VF a.rule b.rule=0 then VF a.alt b.alt else VF a.rule b.rule
theorem UE (a b:Pick):Pur Tryz.prog 96 [.agg a.emb,.agg b.emb] (vi (U2 a b)):=by
 intro σ
 simp only [Pick.emb]
 refine Zc [] [(1,9,0)] Tryz.func96 rfl (by kernel_rfl) ?_;rw [Tryz.ntmps96,Tryz.results96]
 try simp only [go_sem,seval,DE]
 refine (UD a.rule b.rule).head ?_
 try simp only [go_sem,seval,DE]
 refine (UD a.alt b.alt).use ?_
 try simp only [go_sem,seval,DE]
 have h:=bU [VF a.rule b.rule,VF a.alt b.alt] .full 1 (.inl rfl)
 refine ⟨rfl,h.use ?_⟩
 try simp only [go_sem,seval,DE]
 refine X8 ?_
 unfold orI U2
 by_cases h1:VF a.rule b.rule=0
 ·by_cases h2:VF a.alt b.alt=0<;>simp [h1,h2]
 ·simp [h1]
def YD (own arg:Cls):Bool:=own.any || arg.any || decide (own=arg)
theorem Ks (a b:Cls):Pur Tryz.prog 55 [.agg a.emb,.agg b.emb] (vb (YD a b)):=by
 intro σ
 obtain ⟨a1,a2⟩:=a
 obtain ⟨b1,b2⟩:=b
 simp only [Cls.emb,YD]
 refine Zc [] [] Tryz.func55 rfl (by kernel_rfl) ?_;rw [Tryz.ntmps55,Tryz.results55]
 try simp only [go_sem,seval,DF]
 cases a1 with
 | true =>
   try simp only [go_sem,seval,DF]
   exact ZC (by simp)
 | false =>
   cases b1 with
   | true =>
     try simp only [go_sem,seval,DF]
     exact ZC (by simp)
   | false =>
     try simp only [go_sem,seval,DF]
     exact ZC (by simp)
theorem OX (l:List Row)(rt:Rt)(s:Nat)(hs:s=3∨l=[]):Pur Tryz.prog 56 [.list rt s (cC l)] (.list .none 2 (cI (l.map Row.pick))):=by
 intro σ
 refine Zj.nodup (by kernel_rfl) (fun hnd=>?_)
 refine Zj.ok (by kernel_rfl) (fun hok=>?_)
 have hl:=(hok _ List.mem_cons_self).len
 rw [cE] at hl
 clear hok
 refine Zc [] [] Tryz.func56 rfl (by kernel_rfl) ?_;rw [Tryz.ntmps56,Tryz.results56]
 try simp only [go_sem,seval,Ib,cE]
 refine Zv (mu:=[]) (dr:=[]) [3,5,8,9,10,11,12,13,14,15,16,17] (fun x:Nat×AV×Store=>[(8,vi x.1),(3,x.2.1)]) (fun x=>x.2.2) (fun x=>x.1≤l.length∧LV σ x.2.2 x.2.1 2 (cI ((l.take x.1).map Row.pick))∧Has σ x.2.2) (fun x=>l.length-x.1) (0,.list .full 0 [],σ) (by kernel_rfl) ⟨by omega,LV.nil _ _ _,.refl _⟩ ⟨.refl _,.refl _,trivial⟩ (.refl _) ?_
 rintro ⟨i,v,S⟩ ⟨i1,i2,i3⟩
 simp only at i1 i2 i3
 try simp only [go_sem,seval,Ib,cE]
 refine ⟨fun h1=>⟨?_,by omega,h1,fun c hc=>?_⟩,fun h1=>?_⟩
 ·rcases hs with hs | hs
  ·rw [hs]
  ·rw [hs] at h1;simp at h1;omega
 ·rw [Int.toNat_natCast] at hc
  obtain ⟨r,hr,rfl⟩:=df hc
  try simp only [go_sem,seval,Ib,Row.emb]
  intro b5 hb5
  try simp only [go_sem,seval,Ib,i2.one,i2.cells]
  refine ⟨rfl,(i2.cons hb5 _).append rfl (by decide) (by simp [cI];omega) rfl (by simp) (i3.cons _) (fun v' S' hv' hkp hS'=>?_)⟩
  try simp only [go_sem,seval,Ib,hv'.one,hv'.cells]
  rw [show IntKind.i64.wrap ((i:Int)+1)=((i+1:Nat):Int) from Zp (by omega) (by omega)]
  refine .mk (i+1,v',S') ⟨by simp only;omega,?_,hS'⟩ (by simp only;omega) ⟨.refl _,.refl _,trivial⟩ (by repeat first | exact Zf.turn _ rfl | refine Zf.put rfl ?_) (.refl _)
  simp only
  rw [List.take_add_one,hr,Option.toList_some,List.map_append]
  have:cI ((l.take i).map Row.pick++[r].map Row.pick)=cI ((l.take i).map Row.pick)++[[vi r.pick.rule,vi r.pick.alt]]:=by simp [cI,Pick.emb]
  rw [this]
  exact hv'
 ·try simp only [go_sem,seval,Ib,i2.one,i2.cells]
  have hil:l.take i=l:=List.take_of_length_le (by omega)
  rw [hil] at i2
  exact ir
end Go.Vx
end
