/- Part Q37 of the proof of treeCaughtProved: the walk of the program on abstract values, and the plain law. -/
import Derived.Test.YtmedmnondjmleaaGreatQ36
set_option linter.unusedVariables false
set_option linter.unusedSimpArgs false
section
set_option maxRecDepth 100000
namespace Go.Vx
open Go.Proofs
theorem tb29:(elOf Tryz.prog 23=some 3)∧(szOf Tryz.prog 3=some 1)∧(aggOf Tryz.prog 3=some false)∧(Tryz.prog.underlying 23=some (.slice 3)):=by
  refine ⟨?_,?_,?_,?_⟩<;>first | trivial | kernel_rfl
theorem count_c (t:Tr):∀ (m:Int) (σ:Store),ACalls Tryz.prog 49 [.agg t.emb,vi m] σ (Ret1 σ):=by
  refine trN_ind (M:=fun t=>∀ (m:Int) (σ:Store),ACalls Tryz.prog 49 [.agg t.emb,vi m] σ (Ret1 σ)) (fun t ih m σ=>?_) t
  refine ACalls.ok (by kernel_rfl) (fun hok=>?_)
  have hmem:∀ x∈partsT t,trN x<trN t:=fun x hx=>parts_lt hx
  obtain ⟨k,p,a,y,c,e⟩:=t
  have hy:=((hok _ List.mem_cons_self).agg (c:=.list .none 6 (Tr.embs y)) (by simp [Tr.emb_mk])).len
  have hc:=((hok _ List.mem_cons_self).agg (c:=.list .none 7 (Cs.embs c)) (by simp [Tr.emb_mk])).len
  have he:=((hok _ List.mem_cons_self).agg (c:=.list .none 6 (Tr.embs e)) (by simp [Tr.emb_mk])).len
  rw [Tr.embs_len] at hy he
  rw [Cs.embs_len] at hc
  clear hok
  have hmy:=fun q (hq:q∈y)=>hmem q (by simp only [partsT,List.mem_append];exact .inl (.inl hq))
  have hme:=fun q (hq:q∈e)=>hmem q (by simp only [partsT,List.mem_append];exact .inl (.inr hq))
  have hmc:=fun (q:Cs) (hq:q∈c)=>hmem q.tree (by simp only [partsT,List.mem_append,List.mem_map];exact .inr ⟨q,hq,rfl⟩)
  simp only [Tr.emb_mk]
  refine acalls_of [] [] Tryz.func49 rfl (by kernel_rfl) ?_;rw [Tryz.ntmps49,Tryz.results49]
  try simp only [go_sem,seval,tb49]
  refine aloopT (mu:=[]) (dr:=[]) [5,6,9,10,11,12,13,14,15,16,17,18,19,20,21,22,23,24,25,26,27,28,29,30,31] (fun x:Nat×Int=>[(6,vi x.1),(5,vi x.2)]) (fun _=>σ) (fun x=>x.1≤y.length) (fun x=>y.length-x.1) (0,1) (by kernel_rfl) (by simp) ⟨.refl _,.refl _,trivial⟩ (.refl _) ?_
  rintro ⟨i,x⟩ hi
  simp only at hi
  by_cases p1:i<y.length
  · have e1:(((i:Nat):Int)<((y.length:Nat):Int))=True:=eq_true (by omega)
    by_cases p2:x≤m
    · have e2:=eq_true p2
      try simp only [go_sem,seval,tb49,Tr.embs_len,e1,e2,decide_true]
      refine ⟨by omega,fun c hc=>?_⟩
      rw [Int.toNat_natCast] at hc
      obtain ⟨q,hq,rfl⟩:=Tr.embs_get hc
      have ihq:=ih q (hmy q (List.mem_of_getElem? hq)) (IntKind.i64.wrap (m-x)) σ
      obtain ⟨k1,p1,a1,y1,c1,e1⟩:=q
      simp only [Tr.emb_mk] at ihq ⊢
      try simp only [go_sem,seval,tb49]
      refine ihq.mono ?_
      rintro r _ ⟨⟨z,rfl⟩,rfl⟩
      try simp only [go_sem,seval,tb49]
      rw [show IntKind.i64.wrap ((i:Int)+1)=((i+1:Nat):Int) from wrap64 (by omega) (by omega)]
      exact .mk (i+1,_) (by simp only;omega) (by simp only;omega) ⟨.refl _,.refl _,trivial⟩ (by repeat first | exact Keeps.turn _ rfl | refine Keeps.put rfl ?_) (.refl _)
    · have e2:=eq_false p2
      try simp only [go_sem,seval,tb49,Tr.embs_len,e1,e2,decide_true,decide_false]
      refine aloopT (mu:=[]) (dr:=[]) [5,7,32,33,34,35,36,37,38,39,40,41,42,43,44,45,46,47,48,49,50,51,52,53,54,55] (fun x:Nat×Int=>[(7,vi x.1),(5,vi x.2)]) (fun _=>σ) (fun x=>x.1≤c.length) (fun x=>c.length-x.1) (0,_) (by kernel_rfl) (by simp) ⟨.refl _,.refl _,trivial⟩ (.refl _) ?_
      rintro ⟨i2,x2⟩ hi2
      simp only at hi2
      by_cases p1:i2<c.length
      · have e1:(((i2:Nat):Int)<((c.length:Nat):Int))=True:=eq_true (by omega)
        by_cases p2:x2≤m
        · have e2:=eq_true p2
          try simp only [go_sem,seval,tb49,Cs.embs_len,e1,e2,decide_true]
          refine ⟨by omega,fun d hd=>?_⟩
          rw [Int.toNat_natCast] at hd
          obtain ⟨q,hq,rfl⟩:=Cs.embs_get hd
          have ihq:=ih q.tree (hmc q (List.mem_of_getElem? hq)) (IntKind.i64.wrap (m-x2)) σ
          obtain ⟨s1,k1,p1,a1,y1,c1,e1⟩:=q
          simp only [Cs.emb_mk,Cs.tree,Tr.emb_mk] at ihq ⊢
          try simp only [go_sem,seval,tb49]
          refine ihq.mono ?_
          rintro r _ ⟨⟨z,rfl⟩,rfl⟩
          try simp only [go_sem,seval,tb49]
          rw [show IntKind.i64.wrap ((i2:Int)+1)=((i2+1:Nat):Int) from wrap64 (by omega) (by omega)]
          exact .mk (i2+1,_) (by simp only;omega) (by simp only;omega) ⟨.refl _,.refl _,trivial⟩ (by repeat first | exact Keeps.turn _ rfl | refine Keeps.put rfl ?_) (.refl _)
        · have e2:=eq_false p2
          try simp only [go_sem,seval,tb49,Cs.embs_len,e1,e2,decide_true,decide_false]
          refine aloopT (mu:=[]) (dr:=[]) [5,8,56,57,58,59,60,61,62,63,64,65,66,67,68,69,70,71,72,73,74,75,76,77,78] (fun x:Nat×Int=>[(8,vi x.1),(5,vi x.2)]) (fun _=>σ) (fun x=>x.1≤e.length) (fun x=>e.length-x.1) (0,_) (by kernel_rfl) (by simp) ⟨.refl _,.refl _,trivial⟩ (.refl _) ?_
          rintro ⟨i3,x3⟩ hi3
          simp only at hi3
          by_cases p1:i3<e.length
          · have e1:(((i3:Nat):Int)<((e.length:Nat):Int))=True:=eq_true (by omega)
            by_cases p2:x3≤m
            · have e2:=eq_true p2
              try simp only [go_sem,seval,tb49,Tr.embs_len,e1,e2,decide_true]
              refine ⟨by omega,fun c hc=>?_⟩
              rw [Int.toNat_natCast] at hc
              obtain ⟨q,hq,rfl⟩:=Tr.embs_get hc
              have ihq:=ih q (hme q (List.mem_of_getElem? hq)) (IntKind.i64.wrap (m-x3)) σ
              obtain ⟨k1,p1,a1,y1,c1,e1⟩:=q
              simp only [Tr.emb_mk] at ihq ⊢
              try simp only [go_sem,seval,tb49]
              refine ihq.mono ?_
              rintro r _ ⟨⟨z,rfl⟩,rfl⟩
              try simp only [go_sem,seval,tb49]
              rw [show IntKind.i64.wrap ((i3:Int)+1)=((i3+1:Nat):Int) from wrap64 (by omega) (by omega)]
              exact .mk (i3+1,_) (by simp only;omega) (by simp only;omega) ⟨.refl _,.refl _,trivial⟩ (by repeat first | exact Keeps.turn _ rfl | refine Keeps.put rfl ?_) (.refl _)
            · have e2:=eq_false p2
              try simp only [go_sem,seval,tb49,Tr.embs_len,e1,e2,decide_true,decide_false]
              exact .mk (.refl _) (.refl _) ⟨⟨_,rfl⟩,rfl⟩
          · have e1:(((i3:Nat):Int)<((e.length:Nat):Int))=False:=eq_false (by omega)
            try simp only [go_sem,seval,tb49,Tr.embs_len,e1,decide_true,decide_false]
            exact .mk (.refl _) (.refl _) ⟨⟨_,rfl⟩,rfl⟩
      · have e1:(((i2:Nat):Int)<((c.length:Nat):Int))=False:=eq_false (by omega)
        try simp only [go_sem,seval,tb49,Cs.embs_len,e1,decide_true,decide_false]
        refine aloopT (mu:=[]) (dr:=[]) [5,8,56,57,58,59,60,61,62,63,64,65,66,67,68,69,70,71,72,73,74,75,76,77,78] (fun x:Nat×Int=>[(8,vi x.1),(5,vi x.2)]) (fun _=>σ) (fun x=>x.1≤e.length) (fun x=>e.length-x.1) (0,_) (by kernel_rfl) (by simp) ⟨.refl _,.refl _,trivial⟩ (.refl _) ?_
        rintro ⟨i3,x3⟩ hi3
        simp only at hi3
        by_cases p1:i3<e.length
        · have e1:(((i3:Nat):Int)<((e.length:Nat):Int))=True:=eq_true (by omega)
          by_cases p2:x3≤m
          · have e2:=eq_true p2
            try simp only [go_sem,seval,tb49,Tr.embs_len,e1,e2,decide_true]
            refine ⟨by omega,fun c hc=>?_⟩
            rw [Int.toNat_natCast] at hc
            obtain ⟨q,hq,rfl⟩:=Tr.embs_get hc
            have ihq:=ih q (hme q (List.mem_of_getElem? hq)) (IntKind.i64.wrap (m-x3)) σ
            obtain ⟨k1,p1,a1,y1,c1,e1⟩:=q
            simp only [Tr.emb_mk] at ihq ⊢
            try simp only [go_sem,seval,tb49]
            refine ihq.mono ?_
            rintro r _ ⟨⟨z,rfl⟩,rfl⟩
            try simp only [go_sem,seval,tb49]
            rw [show IntKind.i64.wrap ((i3:Int)+1)=((i3+1:Nat):Int) from wrap64 (by omega) (by omega)]
            exact .mk (i3+1,_) (by simp only;omega) (by simp only;omega) ⟨.refl _,.refl _,trivial⟩ (by repeat first | exact Keeps.turn _ rfl | refine Keeps.put rfl ?_) (.refl _)
          · have e2:=eq_false p2
            try simp only [go_sem,seval,tb49,Tr.embs_len,e1,e2,decide_true,decide_false]
            exact .mk (.refl _) (.refl _) ⟨⟨_,rfl⟩,rfl⟩
        · have e1:(((i3:Nat):Int)<((e.length:Nat):Int))=False:=eq_false (by omega)
          try simp only [go_sem,seval,tb49,Tr.embs_len,e1,decide_true,decide_false]
          exact .mk (.refl _) (.refl _) ⟨⟨_,rfl⟩,rfl⟩
  · have e1:(((i:Nat):Int)<((y.length:Nat):Int))=False:=eq_false (by omega)
    try simp only [go_sem,seval,tb49,Tr.embs_len,e1,decide_true,decide_false]
    refine aloopT (mu:=[]) (dr:=[]) [5,7,32,33,34,35,36,37,38,39,40,41,42,43,44,45,46,47,48,49,50,51,52,53,54,55] (fun x:Nat×Int=>[(7,vi x.1),(5,vi x.2)]) (fun _=>σ) (fun x=>x.1≤c.length) (fun x=>c.length-x.1) (0,_) (by kernel_rfl) (by simp) ⟨.refl _,.refl _,trivial⟩ (.refl _) ?_
    rintro ⟨i2,x2⟩ hi2
    simp only at hi2
    by_cases p1:i2<c.length
    · have e1:(((i2:Nat):Int)<((c.length:Nat):Int))=True:=eq_true (by omega)
      by_cases p2:x2≤m
      · have e2:=eq_true p2
        try simp only [go_sem,seval,tb49,Cs.embs_len,e1,e2,decide_true]
        refine ⟨by omega,fun d hd=>?_⟩
        rw [Int.toNat_natCast] at hd
        obtain ⟨q,hq,rfl⟩:=Cs.embs_get hd
        have ihq:=ih q.tree (hmc q (List.mem_of_getElem? hq)) (IntKind.i64.wrap (m-x2)) σ
        obtain ⟨s1,k1,p1,a1,y1,c1,e1⟩:=q
        simp only [Cs.emb_mk,Cs.tree,Tr.emb_mk] at ihq ⊢
        try simp only [go_sem,seval,tb49]
        refine ihq.mono ?_
        rintro r _ ⟨⟨z,rfl⟩,rfl⟩
        try simp only [go_sem,seval,tb49]
        rw [show IntKind.i64.wrap ((i2:Int)+1)=((i2+1:Nat):Int) from wrap64 (by omega) (by omega)]
        exact .mk (i2+1,_) (by simp only;omega) (by simp only;omega) ⟨.refl _,.refl _,trivial⟩ (by repeat first | exact Keeps.turn _ rfl | refine Keeps.put rfl ?_) (.refl _)
      · have e2:=eq_false p2
        try simp only [go_sem,seval,tb49,Cs.embs_len,e1,e2,decide_true,decide_false]
        refine aloopT (mu:=[]) (dr:=[]) [5,8,56,57,58,59,60,61,62,63,64,65,66,67,68,69,70,71,72,73,74,75,76,77,78] (fun x:Nat×Int=>[(8,vi x.1),(5,vi x.2)]) (fun _=>σ) (fun x=>x.1≤e.length) (fun x=>e.length-x.1) (0,_) (by kernel_rfl) (by simp) ⟨.refl _,.refl _,trivial⟩ (.refl _) ?_
        rintro ⟨i3,x3⟩ hi3
        simp only at hi3
        by_cases p1:i3<e.length
        · have e1:(((i3:Nat):Int)<((e.length:Nat):Int))=True:=eq_true (by omega)
          by_cases p2:x3≤m
          · have e2:=eq_true p2
            try simp only [go_sem,seval,tb49,Tr.embs_len,e1,e2,decide_true]
            refine ⟨by omega,fun c hc=>?_⟩
            rw [Int.toNat_natCast] at hc
            obtain ⟨q,hq,rfl⟩:=Tr.embs_get hc
            have ihq:=ih q (hme q (List.mem_of_getElem? hq)) (IntKind.i64.wrap (m-x3)) σ
            obtain ⟨k1,p1,a1,y1,c1,e1⟩:=q
            simp only [Tr.emb_mk] at ihq ⊢
            try simp only [go_sem,seval,tb49]
            refine ihq.mono ?_
            rintro r _ ⟨⟨z,rfl⟩,rfl⟩
            try simp only [go_sem,seval,tb49]
            rw [show IntKind.i64.wrap ((i3:Int)+1)=((i3+1:Nat):Int) from wrap64 (by omega) (by omega)]
            exact .mk (i3+1,_) (by simp only;omega) (by simp only;omega) ⟨.refl _,.refl _,trivial⟩ (by repeat first | exact Keeps.turn _ rfl | refine Keeps.put rfl ?_) (.refl _)
          · have e2:=eq_false p2
            try simp only [go_sem,seval,tb49,Tr.embs_len,e1,e2,decide_true,decide_false]
            exact .mk (.refl _) (.refl _) ⟨⟨_,rfl⟩,rfl⟩
        · have e1:(((i3:Nat):Int)<((e.length:Nat):Int))=False:=eq_false (by omega)
          try simp only [go_sem,seval,tb49,Tr.embs_len,e1,decide_true,decide_false]
          exact .mk (.refl _) (.refl _) ⟨⟨_,rfl⟩,rfl⟩
    · have e1:(((i2:Nat):Int)<((c.length:Nat):Int))=False:=eq_false (by omega)
      try simp only [go_sem,seval,tb49,Cs.embs_len,e1,decide_true,decide_false]
      refine aloopT (mu:=[]) (dr:=[]) [5,8,56,57,58,59,60,61,62,63,64,65,66,67,68,69,70,71,72,73,74,75,76,77,78] (fun x:Nat×Int=>[(8,vi x.1),(5,vi x.2)]) (fun _=>σ) (fun x=>x.1≤e.length) (fun x=>e.length-x.1) (0,_) (by kernel_rfl) (by simp) ⟨.refl _,.refl _,trivial⟩ (.refl _) ?_
      rintro ⟨i3,x3⟩ hi3
      simp only at hi3
      by_cases p1:i3<e.length
      · have e1:(((i3:Nat):Int)<((e.length:Nat):Int))=True:=eq_true (by omega)
        by_cases p2:x3≤m
        · have e2:=eq_true p2
          try simp only [go_sem,seval,tb49,Tr.embs_len,e1,e2,decide_true]
          refine ⟨by omega,fun c hc=>?_⟩
          rw [Int.toNat_natCast] at hc
          obtain ⟨q,hq,rfl⟩:=Tr.embs_get hc
          have ihq:=ih q (hme q (List.mem_of_getElem? hq)) (IntKind.i64.wrap (m-x3)) σ
          obtain ⟨k1,p1,a1,y1,c1,e1⟩:=q
          simp only [Tr.emb_mk] at ihq ⊢
          try simp only [go_sem,seval,tb49]
          refine ihq.mono ?_
          rintro r _ ⟨⟨z,rfl⟩,rfl⟩
          try simp only [go_sem,seval,tb49]
          rw [show IntKind.i64.wrap ((i3:Int)+1)=((i3+1:Nat):Int) from wrap64 (by omega) (by omega)]
          exact .mk (i3+1,_) (by simp only;omega) (by simp only;omega) ⟨.refl _,.refl _,trivial⟩ (by repeat first | exact Keeps.turn _ rfl | refine Keeps.put rfl ?_) (.refl _)
        · have e2:=eq_false p2
          try simp only [go_sem,seval,tb49,Tr.embs_len,e1,e2,decide_true,decide_false]
          exact .mk (.refl _) (.refl _) ⟨⟨_,rfl⟩,rfl⟩
      · have e1:(((i3:Nat):Int)<((e.length:Nat):Int))=False:=eq_false (by omega)
        try simp only [go_sem,seval,tb49,Tr.embs_len,e1,decide_true,decide_false]
        exact .mk (.refl _) (.refl _) ⟨⟨_,rfl⟩,rfl⟩
def RetB (σ:Store):ARes→Store→Prop:=fun r σ'=>(∃ b:Bool,r=.ret (vb b))∧σ'=σ
theorem lawSmall_c (t:Tr)(σ:Store):ACalls Tryz.prog 13 [.agg t.emb] σ (RetB σ):=by
  have h:=count_c t 4000 σ
  obtain ⟨k,p,a,y,c,e⟩:=t
  simp only [Tr.emb_mk] at h ⊢
  refine acalls_of [] [] Tryz.func13 rfl (by kernel_rfl) ?_;rw [Tryz.ntmps13,Tryz.results13]
  try simp only [go_sem,seval,tb13]
  refine h.mono ?_
  rintro r _ ⟨⟨z,rfl⟩,rfl⟩
  by_cases h3:z≤300
  · have e3:=eq_true h3
    try simp only [go_sem,seval,tb13,e3,decide_true]
    exact .mk (.refl _) (.refl _) ⟨⟨_,rfl⟩,rfl⟩
  · have e3:=eq_false h3
    try simp only [go_sem,seval,tb13,e3,decide_true,decide_false]
    exact .mk (.refl _) (.refl _) ⟨⟨_,rfl⟩,rfl⟩
def ShortR (l:List Tm)(σ:Store):ARes→Store→Prop:=fun r σ'=>(∃ b,r=.ret (vb b)∧(b=true→l.length≤12))∧σ'=σ
theorem short_c (l:List Tm)(rt:Rt)(sz:Nat)(hs:sz=4∨l=[])(σ:Store):ACalls Tryz.prog 14 [.list rt sz (Tm.embs l)] σ (ShortR l σ):=by
  refine acalls_of [] [] Tryz.func14 rfl (by kernel_rfl) ?_;rw [Tryz.ntmps14,Tryz.results14]
  try simp only [go_sem,seval,tb14,Tm.embs_len]
  by_cases h12:12<l.length
  · have e0:((12:Int)<((l.length:Nat):Int))=True:=eq_true (by omega)
    try simp only [go_sem,seval,tb14,e0,decide_true]
    exact .mk (.refl _) (.refl _) ⟨⟨_,rfl,fun h=>by cases h⟩,rfl⟩
  · have e0:((12:Int)<((l.length:Nat):Int))=False:=eq_false (by omega)
    try simp only [go_sem,seval,tb14,e0,decide_false]
    refine aloopT (mu:=[]) (dr:=[]) [2,3,7,8,9,10,11,12,13,14,15,16,17,18,19,20,21,22,23,24,25,26] (fun i:Nat=>[(3,vi i)]) (fun _=>σ) (fun i=>i≤l.length) (fun i=>l.length-i) 0 (by kernel_rfl) (by omega) ⟨.refl _,trivial⟩ (.refl _) ?_
    intro i hi
    try simp only [go_sem,seval,tb14,Tm.embs_len]
    refine ⟨fun h1=>?_,fun h1=>?_⟩
    · obtain ⟨a,ha⟩:∃ a,l[i]?=some a:=⟨_,List.getElem?_eq_getElem (by omega)⟩
      have iha:=size4_c a σ
      obtain ⟨k1,n1,s1,l1⟩:=a
      simp only [Tm.emb_mk] at iha
      refine ⟨?_,by omega,by omega,fun c hc=>?_⟩
      · rcases hs with hs | hs
        · rw [hs]
        · rw [hs] at h1;simp at h1;omega
      rw [Int.toNat_natCast] at hc
      obtain ⟨a',ha',rfl⟩:=Tm.embs_get hc
      rw [ha] at ha';injection ha' with ha';subst ha'
      simp only [Tm.emb_mk]
      try simp only [go_sem,seval,tb14]
      refine iha.mono ?_
      rintro r _ ⟨⟨z,rfl⟩,rfl⟩
      by_cases h2:60<z
      · have e2:=eq_true h2
        try simp only [go_sem,seval,tb14,Tm.embs_len,e2,decide_true]
        refine ⟨?_,by omega,by omega,fun c hc=>?_⟩
        · rcases hs with hs | hs
          · rw [hs]
          · rw [hs] at h1;simp at h1;omega
        rw [Int.toNat_natCast] at hc
        obtain ⟨a',ha',rfl⟩:=Tm.embs_get hc
        rw [ha] at ha';injection ha' with ha';subst ha'
        simp only [Tm.emb_mk]
        try simp only [go_sem,seval,tb14]
        refine iha.mono ?_
        rintro r _ ⟨⟨z2,rfl⟩,rfl⟩
        by_cases h3:z2≤4000
        · have e3:=eq_true h3
          try simp only [go_sem,seval,tb14,e3,decide_true]
          exact .mk (.refl _) (.refl _) ⟨⟨_,rfl,fun h=>by cases h⟩,rfl⟩
        · have e3:=eq_false h3
          try simp only [go_sem,seval,tb14,e3,decide_false]
          rw [show IntKind.i64.wrap ((i:Int)+1)=((i+1:Nat):Int) from wrap64 (by omega) (by omega)]
          exact .mk (i+1) (by omega) (by omega) ⟨.refl _,trivial⟩ (by repeat first | exact Keeps.turn _ rfl | refine Keeps.put rfl ?_) (.refl _)
      · have e2:=eq_false h2
        try simp only [go_sem,seval,tb14,e2,decide_false]
        rw [show IntKind.i64.wrap ((i:Int)+1)=((i+1:Nat):Int) from wrap64 (by omega) (by omega)]
        exact .mk (i+1) (by omega) (by omega) ⟨.refl _,trivial⟩ (by repeat first | exact Keeps.turn _ rfl | refine Keeps.put rfl ?_) (.refl _)
    · try simp only [go_sem,seval,tb14]
      exact .mk (.refl _) (.refl _) ⟨⟨_,rfl,fun _=>by omega⟩,rfl⟩
end Go.Vx
end
section
set_option maxRecDepth 100000
namespace Go.Vx
open Go.Proofs
theorem sameInts_c (l m:List Int)(r1 r2:Rt)(s1 s2:Nat)(h1:s1=1∨l=[])(h2:s2=1∨m=[]):Pur Tryz.prog 29 [.list r1 s1 (ints l),.list r2 s2 (ints m)] (vb (decide (l=m))):=by
  intro σ
  refine ACalls.ok (by kernel_rfl) (fun hok=>?_)
  have hl:=(hok _ List.mem_cons_self).len
  rw [ints_len] at hl
  clear hok
  refine acalls_of [] [(6,8,0)] Tryz.func29 rfl (by kernel_rfl) ?_;rw [Tryz.ntmps29,Tryz.results29]
  try simp only [go_sem,seval,tb29,ints_len]
  by_cases hlm:l.length=m.length
  · have e1:(((l.length:Nat):Int)=((m.length:Nat):Int))=True:=eq_true (by omega)
    try simp only [go_sem,seval,tb29,ints_len,e1,decide_true]
    refine aloopT (mu:=[]) (dr:=[(6,8,0)]) [4,5,11,12,13,14,15,16,17,18,19,20,21,22,23,24,25] (fun i:Nat=>[(5,vi i)]) (fun _=>σ) (fun i=>i≤l.length∧l.take i=m.take i) (fun i=>l.length-i) 0 (by kernel_rfl) ⟨by omega,rfl⟩ ⟨.refl _,trivial⟩ (.refl _) ?_
    rintro i ⟨i1,i2⟩
    try simp only [go_sem,seval,tb29,ints_len]
    refine ⟨fun h3=>?_,fun h3=>?_⟩
    · have hs1:s1=1:=by
        rcases h1 with h | h
        · exact h
        · rw [h] at h3;simp at h3;omega
      have hs2:s2=1:=by
        rcases h2 with h | h
        · exact h
        · rw [h] at hlm;simp only [List.length_nil] at hlm;omega
      refine ⟨by rw [hs1],by omega,by omega,fun c hc=>?_⟩
      rw [Int.toNat_natCast] at hc
      obtain ⟨a,ha,rfl⟩:=mapGet hc
      try simp only [go_sem,seval,tb29,ints_len]
      refine ⟨by rw [hs2],by omega,by omega,fun c hc=>?_⟩
      rw [Int.toNat_natCast] at hc
      obtain ⟨b,hb,rfl⟩:=mapGet hc
      try simp only [go_sem,seval,tb29]
      have hst:l.take (i+1)=m.take (i+1)↔a=b:=by
        rw [List.take_add_one,List.take_add_one,ha,hb,i2];simp
      by_cases hab:a=b
      · have q1:(a=b)=True:=eq_true hab
        try simp only [go_sem,seval,tb29,q1,decide_true]
        first
          | (rw [show IntKind.i64.wrap ((i:Int)+1)=((i+1:Nat):Int) from wrap64 (by omega) (by omega)]
             exact .mk (i+1) ⟨by omega,hst.2 hab⟩ (by omega) ⟨.refl _,trivial⟩ (by repeat first | exact Keeps.turn _ rfl | refine Keeps.put rfl ?_) (.refl _))
          | (refine ⟨fun h=>absurd hab h,fun _=>?_⟩
             rw [show IntKind.i64.wrap ((i:Int)+1)=((i+1:Nat):Int) from wrap64 (by omega) (by omega)]
             exact .mk (i+1) ⟨by omega,hst.2 hab⟩ (by omega) ⟨.refl _,trivial⟩ (by repeat first | exact Keeps.turn _ rfl | refine Keeps.put rfl ?_) (.refl _))
      · have q1:(a=b)=False:=eq_false hab
        try simp only [go_sem,seval,tb29,q1,decide_false]
        have:l≠m:=fun e=>hab (hst.1 (by rw [e]))
        first
          | exact fin_b (by simp [this])
          | exact ⟨fun _=>fin_b (by simp [this]),fun h=>absurd h hab⟩
    · try simp only [go_sem,seval,tb29]
      refine fin_b ?_
      rw [List.take_of_length_le (by omega),List.take_of_length_le (by omega)] at i2
      simp [i2]
  · have e1:(((l.length:Nat):Int)=((m.length:Nat):Int))=False:=eq_false (by omega)
    try simp only [go_sem,seval,tb29,ints_len,e1,decide_false]
    refine fin_b ?_
    have:l≠m:=fun e=>hlm (by rw [e])
    simp [this]
end Go.Vx
end
section
set_option maxRecDepth 100000
namespace Go.Vx
open Go.Proofs
theorem tb11:(zeroOf Tryz.prog 25=some (.agg #[(.slice none 0 0),(.slice none 0 0)]))∧(szOf Tryz.prog 25=some 2)∧(aggOf Tryz.prog 25=some true)∧(zeroOf Tryz.prog 30=some (.agg #[(.int .i64 0),(.slice none 0 0),(.int .i64 0),(.slice none 0 0),(.slice none 0 0),(.slice none 0 0)]))∧(szOf Tryz.prog 30=some 6)∧(elOf Tryz.prog 23=some 3)∧(szOf Tryz.prog 3=some 1)∧(zeroOf Tryz.prog 3=some (.int .i64 0))∧(zeroOf Tryz.prog 52=some (.agg #[(.int .i64 0),(.int .i64 0),(.string ⟨#[]⟩),(.slice none 0 0)]))∧(szOf Tryz.prog 52=some 4)∧(aggOf Tryz.prog 30=some true)∧(aggOf Tryz.prog 52=some true)∧(elOf Tryz.prog 33=some 52)∧(plsOf Tryz.prog 30=some [(0,1),(1,1),(2,1),(3,1),(4,1),(5,1)])∧(elOf Tryz.prog 26=some 32)∧(szOf Tryz.prog 32=some 2)∧(aggOf Tryz.prog 32=some true)∧(eqT Tryz.prog 32=some [0,0])∧(Tryz.prog.underlying 26=some (.slice 32)):=by
  refine ⟨?_,?_,?_,?_,?_,?_,?_,?_,?_,?_,?_,?_,?_,?_,?_,?_,?_,?_,?_⟩<;>first | trivial | kernel_rfl
theorem leaf_wk (L:List Pick):Wk (.agg [vi 1,.list .none 2 (Pick.embs L),vi 0,.list .full 0 [],.list .full 0 [],.list .full 0 []]) (.agg (Tr.mk 1 L 0 [] [] []).emb):=by
  refine Wk.agg rfl (fun i c c' h h'=>?_)
  match i with
  | 0=>simp [Tr.emb_mk,Tr.embs,Cs.embs] at h h';subst h;subst h';exact .refl _
  | 1=>simp [Tr.emb_mk,Tr.embs,Cs.embs] at h h';subst h;subst h';exact .refl _
  | 2=>simp [Tr.emb_mk,Tr.embs,Cs.embs] at h h';subst h;subst h';exact .refl _
  | 3=>simp [Tr.emb_mk,Tr.embs,Cs.embs] at h h';subst h;subst h';exact .nilA _ _ _
  | 4=>simp [Tr.emb_mk,Tr.embs,Cs.embs] at h h';subst h;subst h';exact .nilA _ _ _
  | 5=>simp [Tr.emb_mk,Tr.embs,Cs.embs] at h h';subst h;subst h';exact .nilA _ _ _
  | i+6=>simp at h
theorem sane_c:Pur Tryz.prog 11 [] (vb true):=by
  intro σ
  have hh:(headsS sampleF sPlus).length≤137438953472:=by rw [sm_heads];decide
  have hsm:=sample_c
  have hcl:=clauses_c sampleF sPlus hh
  have hwa:=wanted_c sampleF sPlus hh
  have hbu:=treeBuild_c sampleF sPlus hh
  rw [sm_clauses] at hcl
  rw [sm_wanted] at hwa
  rw [sm_build] at hbu
  have hs1:=select_c (buildS sampleF sPlus).1 [conT sZ [],slotT 0,slotT 0] sm_trn .full 4 (.inl rfl)
  have hs2:=select_c (buildS sampleF sPlus).1 [slotT 0,conT sZ [],conT sS [conT sZ []]] sm_trn .full 4 (.inl rfl)
  have hs3:=select_c (buildS sampleF sPlus).1 [conT sS [conT sZ []],conT sZ [],conT sZ []] sm_trn .full 4 (.inl rfl)
  rw [sm_sel1] at hs1
  rw [sm_sel2] at hs2
  rw [sm_sel3] at hs3
  have hc1:=treeCheck_c sampleF sPlus (.mk 1 [⟨0,0⟩,⟨1,0⟩] 0 [] [] []) (by decide +kernel) hh
  have hc2:=treeCheck_c sampleF sPlus (buildS sampleF sPlus).1 sm_trn hh
  rw [sm_chk1] at hc1
  rw [sm_chk2] at hc2
  have hz:=con_c sZ [] .full 0 (.inr rfl)
  have hsl:=slot_c 0
  have hcs:=con_c sS [conT sZ []] .full 4 (.inl rfl)
  obtain ⟨TT,hTT⟩:∃ T,T=(buildS sampleF sPlus).1:=⟨_,rfl⟩
  rw [← hTT] at hbu hs1 hs2 hs3 hc2
  obtain ⟨FF,hFF⟩:∃ F,F=sampleF:=⟨_,rfl⟩
  rw [← hFF] at hsm hcl hwa hbu hc1 hc2
  clear hTT hFF
  obtain ⟨kt,pt,at_,yt,ct,et⟩:=TT
  have hc1':∀ S,ACalls Tryz.prog 18 [.agg FF.emb,vs sPlus,.agg [vi 1,.list .none 2 (Pick.embs [⟨0,0⟩,⟨1,0⟩]),vi 0,.list .full 0 [],.list .full 0 [],.list .full 0 []]] S (kOnly (vi 230) S):=fun S=>ACalls.wk (hc1 S) ⟨.refl _,.refl _,leaf_wk _,trivial⟩
  have hsi:=sameInts_c [0,2] [0,2] .none .full 1 1 (.inl rfl) (.inl rfl)
  rw [decide_eq_true rfl] at hsi
  simp only [conT,slotT,Tm.emb_mk,Tm.embs,Flat.emb,Tr.emb_mk] at hsm hcl hwa hbu hs1 hs2 hs3 hc1' hc2 hz hsl hcs
  have t3:(((3:Nat):Int)=3)=True:=eq_true rfl
  refine acalls_of [] [(10,12,0),(11,12,0),(13,14,0)] Tryz.func11 rfl (by kernel_rfl) ?_;rw [Tryz.ntmps11,Tryz.results11]
  try simp only [go_sem,seval,tb11]
  refine hsm.use ?_
  try simp only [go_sem,seval,tb11]
  intro b1 hb1
  try simp only [go_sem,seval,tb11]
  refine hcl.use ?_
  try simp only [go_sem,seval,tb11]
  refine hwa.use ?_
  try simp only [go_sem,seval,tb11]
  refine hbu.use ?_
  try simp only [go_sem,seval,tb11]
  intro b7 hb7
  have n71:b7≠b1:=Ne.symm hb7.1
  have lp:∀ (x y:Pick),((((Pick.embs [x,y]).length:Nat):Int)=2)=True:=fun x y=>eq_true rfl
  have lp1:∀ (x:Pick),((((Pick.embs [x]).length:Nat):Int)=1)=True:=fun x=>eq_true rfl
  have lp0:((((Pick.embs []).length:Nat):Int)=0)=True:=eq_true rfl
  try simp only [go_sem,seval,tb11,t3,lp,decide_true]
  refine ⟨rfl,hsi.use ?_⟩
  try simp only [go_sem,seval,tb11]
  refine hz.use ?_
  try simp only [go_sem,seval,tb11]
  intro b9 hb9
  have n97:b9≠b7:=Ne.symm hb9.1
  have n91:b9≠b1:=Ne.symm hb9.2.1
  try simp only [go_sem,seval,tb11]
  refine hsl.use ?_
  try simp only [go_sem,seval,tb11]
  intro b10 hb10
  have nA9:b10≠b9:=Ne.symm hb10.1
  have nA7:b10≠b7:=Ne.symm hb10.2.1
  have nA1:b10≠b1:=Ne.symm hb10.2.2.1
  try simp only [go_sem,seval,tb11,nA9,nA7,nA1,n97,n91,n71]
  refine ⟨rfl,hs1.use ?_⟩
  try simp only [go_sem,seval,tb11,nA9,nA7,nA1,n97,n91,n71]
  refine ⟨rfl,hcs.head ?_⟩
  try simp only [go_sem,seval,tb11,nA9,nA7,nA1,n97,n91,n71]
  refine ⟨rfl,hs2.head ?_⟩
  try simp only [go_sem,seval,tb11,nA9,nA7,nA1,n97,n91,n71]
  refine ⟨rfl,hcs.head ?_⟩
  try simp only [go_sem,seval,tb11,nA9,nA7,nA1,n97,n91,n71]
  refine ⟨rfl,hs3.head ?_⟩
  try simp only [go_sem,seval,tb11,nA9,nA7,nA1,n97,n91,n71]
  intro b14 hb14
  have n147:b14≠b7:=Ne.symm hb14.2.2.1
  have n141:b14≠b1:=Ne.symm hb14.2.2.2.1
  try simp only [go_sem,seval,tb11,n141,n147,nA9,nA7,nA1,n97,n91,n71,lp,lp1,lp0,decide_true]
  refine ⟨by decide,fun d hd=>?_⟩
  have hd2:=Option.some.inj hd
  rw [← hd2]
  try simp only [go_sem,seval,tb11,Pick.emb,n141,n147,nA9,nA7,nA1,n97,n91,n71,lp,lp1,lp0,decide_true]
  refine ⟨by decide,fun d hd=>?_⟩
  have hd2:=Option.some.inj hd
  rw [← hd2]
  try simp only [go_sem,seval,tb11,Pick.emb,n141,n147,nA9,nA7,nA1,n97,n91,n71,lp,lp1,lp0,decide_true]
  refine (hc1' _).only ?_
  try simp only [go_sem,seval,tb11,n141,n147,nA9,nA7,nA1,n97,n91,n71,lp,lp1,lp0,decide_true]
  refine hc2.use ?_
  try simp only [go_sem,seval,tb11,n141,n147,nA9,nA7,nA1,n97,n91,n71,lp,lp1,lp0,decide_true]
  exact fin_pur (.refl _) ((((((Sub.refl _).skip _).skip _).skip _).skip _).skip _)
end Go.Vx
end
section
set_option maxRecDepth 100000
namespace Go.Vx
open Go.Proofs
def askE (pred:Str)(xr xa:Int)(args:List Tm):List AV:=[vs pred,vi xr,vi xa,.list .none 4 (Tm.embs args)]
end Go.Vx
end
