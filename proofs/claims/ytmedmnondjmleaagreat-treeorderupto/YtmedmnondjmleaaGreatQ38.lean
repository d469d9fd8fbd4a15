/- Part Q38 of the proof of treeOrderProved: the walk of the program on abstract values, and the plain law. -/
import Derived.Test.YtmedmnondjmleaaGreatQ37
set_option linter.unusedVariables false
set_option linter.unusedSimpArgs false
set_option maxRecDepth 100000
namespace Go.Vx
open Go.Proofs
theorem tb5:(szOf Tryz.prog 25 = some 2)∧(aggOf Tryz.prog 25 = some true)∧(szOf Tryz.prog 30 = some 6)∧(aggOf Tryz.prog 30 = some true)∧(fOff Tryz.prog 35 2 = some 3)∧(szOf Tryz.prog 33 = some 1)∧(aggOf Tryz.prog 33 = some false)∧(fOff Tryz.prog 35 0 = some 0)∧(szOf Tryz.prog 9 = some 1)∧(aggOf Tryz.prog 9 = some false)∧(elOf Tryz.prog 26 = some 32)∧(szOf Tryz.prog 32 = some 2)∧(fOff Tryz.prog 32 0 = some 0)∧(szOf Tryz.prog 3 = some 1)∧(aggOf Tryz.prog 3 = some false)∧(fOff Tryz.prog 32 1 = some 1)∧(Tryz.prog.underlying 9 = some .string)∧(Tryz.prog.underlying 26 = some (.slice 32)):=by
  refine ⟨?_,?_,?_,?_,?_,?_,?_,?_,?_,?_,?_,?_,?_,?_,?_,?_,?_,?_⟩ <;> first | trivial | kernel_rfl
theorem ofS_pick (l:List Row) (a:Int) (c:Cls):((ofS l a c).map Row.pick).Sublist (l.map Row.pick):=by
  unfold ofS
  rw [List.map_map]
  have:(Row.pick ∘ setAny a) = Row.pick:=by funext r;rfl
  rw [this]
  exact List.filter_sublist.map _
theorem sel_sub {m:Nat} (t:Tr):Shp (m:Int) t→∀ l,rightS t l = true→∀ args:List Tm,args.length = m→(selS t args).Sublist (l.map Row.pick):=by
  refine trN_ind (M:=fun t=>Shp (m:Int) t→∀ l,rightS t l = true→∀ args:List Tm,args.length = m→(selS t args).Sublist (l.map Row.pick)) (fun t ih hs l hr args ha=>?_) t
  cases hs with
  | mk _ h1 hp =>
  obtain ⟨k,p,a,y,c,e⟩:=t
  rcases h1 with ⟨rfl,rfl,rfl,rfl,rfl,_⟩ | ⟨rfl,ha0,han,rfl,⟨y0,rfl⟩,⟨e0,rfl⟩,_⟩
  · simp only [rightS,if_true,Bool.and_eq_true,decide_eq_true_eq] at hr
    simp only [selS]
    rw [if_neg (by decide),hr.1]
    exact List.Sublist.refl _
  · simp only [rightS,rightHd,Bool.and_eq_true] at hr
    rw [if_neg (by decide)] at hr
    simp only [Bool.and_eq_true] at hr
    obtain ⟨⟨⟨_,r1⟩,r2⟩,r3⟩:=hr
    obtain ⟨tm,htm⟩:∃ tm,args[a.toNat]? = some tm:=⟨_,List.getElem?_eq_getElem (by omega)⟩
    simp only [selS,if_true,htm,selHd]
    have hy:=ih y0 (parts_lt (by simp [partsT])) (hp y0 (by simp [partsT])) _ r1 args ha
    have he:=ih e0 (parts_lt (by simp [partsT])) (hp e0 (by simp [partsT])) _ r2 args ha
    split
    · exact hy.trans (ofS_pick _ _ _)
    · have:∀ c':List Cs,(∀ q∈c',q∈c)→(selCs (classS tm).name args (selS e0 args) c').Sublist (l.map Row.pick):=by
        intro c'
        induction c' with
        | nil=>intro _;exact he.trans (ofS_pick _ _ _)
        | cons q r ihc =>
          intro hq
          simp only [selCs]
          split
          · have hqc:=hq q List.mem_cons_self
            have hrq:rightS q.tree (ofS l a ⟨false,q.name⟩) = true:=by
              rw [rightCs_all,List.all_eq_true] at r3;exact r3 q hqc
            have hqm:q.tree∈partsT (.mk 2 [] a [y0] c [e0]):=by simp only [partsT,List.mem_append,List.mem_map];exact .inr ⟨q,hqc,rfl⟩
            have:=ih q.tree (parts_lt hqm) (hp _ hqm) _ hrq args ha
            cases q
            exact this.trans (ofS_pick _ _ _)
          · exact ihc (fun x hx=>hq x (List.mem_cons_of_mem _ hx))
      exact this c (fun _ h=>h)
theorem order_law (f:Flat) (pred:Str) (t:Tr) (args:List Tm) (h1:checkS f pred t = 0) (h2:(selectS t args).2 = 0):(selectS t args).1.Pairwise (fun x y=>cmpP x y < 0)∧(∀ x∈(selectS t args).1,x∈(clausesS f pred).1)∧(selectS t args).1.length≤(headsS f pred).length:=by
  unfold checkS at h1
  split at h1
  · rename_i h;exact absurd h1 h
  · rename_i he
    have he':(rowsR f pred).2.2 = 0:=by simpa using he
    split at h1
    · rename_i hI
      simp only [Bool.and_eq_true] at hI
      unfold selectS at h2 ⊢
      split at h2
      · cases h2
      · rename_i hno
        rw [if_neg hno]
        split at h2
        · cases h2
        · rename_i hf
          rw [if_neg hf]
          have hf':isFormedS t (args.length:Nat) = true:=by simpa using hf
          have hsh:=frm_shp (args.length:Nat) t ([],0) (by unfold isFormedS at hf';simp only [Bool.and_eq_true] at hf';exact hf'.2)
          have hsub:=sel_sub t hsh _ hI.2 args rfl
          obtain ⟨_,_,_,_,hp⟩:=rows_facts f pred he'
          refine ⟨?_,fun x hx=>?_,by rw [← hp];exact hsub.length_le⟩
          · have hs:=heads_sorted f pred
            rw [hp] at hsub
            exact hs.sublist hsub
          · unfold clausesS
            rw [if_neg he]
            exact hsub.subset hx
    · cases h1
def askE (pred:Str) (xr xa:Int) (args:List Tm):List AV:=[vs pred,vi xr,vi xa,.list .none 4 (Tm.embs args)]
theorem treeOrder_c (f:Flat) (t:Tr) (pred:Str) (xr xa:Int) (args:List Tm) (hB:trN t≤bigN) (hH:f.rules.length≤300→(headsS f pred).length≤137438953472) :
    Pur Tryz.prog 5 [.agg f.emb,.agg t.emb,.agg (askE pred xr xa args)] (vb true):=by
  intro σ
  have hsa:=sane_c
  have hfew:=few_c f
  have hsm:=lawSmall_c t
  have hsh:=short_c args .none 4 (.inl rfl)
  have hcl:=fun h=>clauses_c f pred (hH h)
  have hck:=fun h=>treeCheck_c f pred t hB (hH h)
  have hse:=select_c t args hB .none 4 (.inl rfl)
  have hlaw:=order_law f pred t args
  have hce:(clausesS f pred).2.2 = 0∨(clausesS f pred).2.2≠0:=by omega
  obtain ⟨⟨cl,n,e⟩,hC⟩:∃ q,q = clausesS f pred:=⟨_,rfl⟩
  obtain ⟨⟨sl,g⟩,hS⟩:∃ q,q = selectS t args:=⟨_,rfl⟩
  obtain ⟨ck,hK⟩:∃ q,q = checkS f pred t:=⟨_,rfl⟩
  rw [← hC] at hcl hlaw
  rw [← hS] at hse hlaw
  rw [← hK] at hck hlaw
  have hwi:=within_c sl cl .none .none 2 2 (.inl rfl) (.inl rfl)
  have hsl:=slot_c 0
  have hrw:=rawSlot_c
  clear hC hS hK hce
  simp only at hcl hse hlaw
  refine ACalls.ok (by kernel_rfl) (fun hok=>?_)
  clear hok
  obtain ⟨kt,pt,at_,yt,ct,et⟩:=t
  simp only [askE,Flat.emb,Tr.emb_mk,slotT,Tm.emb_mk,Tm.embs] at hfew hsm hcl hck hse hsl hrw ⊢
  refine acalls_of [] [(13,37,0)] Tryz.func5 rfl (by kernel_rfl) ?_;rw [Tryz.ntmps5,Tryz.results5]
  try simp only [go_sem,seval,tb5]
  refine hsa.use ?_
  try simp only [go_sem,seval,tb5]
  refine (hfew _).mono ?_
  rintro r _ ⟨⟨b1,rfl,hb1⟩,rfl⟩
  cases b1 with
  | false =>
    try simp only [go_sem,seval,tb5]
    exact fin_same
  | true =>
    have h300:=hb1 rfl
    try simp only [go_sem,seval,tb5]
    refine (hsm _).mono ?_
    rintro r _ ⟨⟨b2,rfl⟩,rfl⟩
    cases b2 with
    | false =>
      try simp only [go_sem,seval,tb5]
      exact fin_same
    | true =>
      try simp only [go_sem,seval,tb5]
      refine (hsh _).mono ?_
      rintro r _ ⟨⟨b3,rfl,hb3⟩,rfl⟩
      cases b3 with
      | false =>
        try simp only [go_sem,seval,tb5]
        exact fin_same
      | true =>
        by_cases h100:(100:Int) < ((pred.size:Nat):Int)
        · have e100:=eq_true h100
          try simp only [go_sem,seval,tb5,e100,decide_true]
          exact fin_same
        · have e100:=eq_false h100
          try simp only [go_sem,seval,tb5,e100,decide_false]
          refine (hcl h300).use ?_
          by_cases he:e = 0
          · subst he
            try simp only [go_sem,seval,tb5]
            refine (hck h300).use ?_
            by_cases hk:ck = 0
            · subst hk
              try simp only [go_sem,seval,tb5]
              refine hse.use ?_
              by_cases hg:g = 0
              · subst hg
                obtain ⟨l1,l2,l3⟩:=hlaw rfl rfl
                have hlen:=Nat.le_trans l3 (hH h300)
                try simp only [go_sem,seval,tb5]
                refine aloopT (mu:=[]) (dr:=[(13,37,0)]) [6,13,65,66,67,68,69,70,71,72,73,74,75,76,77,78,79,80,81,82,83,84,85,86,87,88,89,90,91,92,93,94,95,96,97,98,99,100,101,102,103,104,105,106,107,108,109,110] (fun i:Nat=>[(13,vi ((i+1:Nat):Int))]) (fun _=>_) (fun i=>i≤sl.length) (fun i=>sl.length - i) 0 (by kernel_rfl) (by omega) ⟨.refl _,trivial⟩ (.refl _) ?_
                intro i hi
                try simp only [go_sem,seval,tb5,Pick.embs_len]
                refine ⟨fun h1=>?_,fun h1=>?_⟩
                · obtain ⟨a,ha⟩:∃ a,sl[i+1]? = some a:=⟨_,List.getElem?_eq_getElem (by omega)⟩
                  obtain ⟨b,hb⟩:∃ b,sl[i]? = some b:=⟨_,List.getElem?_eq_getElem (by omega)⟩
                  have hab:cmpP b a < 0:=by
                    have hil:=(List.getElem?_eq_some_iff.1 hb)
                    have hjl:=(List.getElem?_eq_some_iff.1 ha)
                    have:=List.pairwise_iff_getElem.1 l1 i (i+1) hil.1 hjl.1 (by omega)
                    rwa [hil.2,hjl.2] at this
                  rw [cmpP_lt] at hab
                  have hw1:IntKind.i64.wrap (((i+1:Nat):Int) - 1) = ((i:Nat):Int):=by rw [wrap64 (by omega) (by omega)];omega
                  have hw2:IntKind.i64.wrap (((i+1:Nat):Int)+1) = ((i+1+1:Nat):Int):=by rw [wrap64 (by omega) (by omega)];omega
                  have q1:(a.rule < b.rule) = False:=eq_false (by omega)
                  refine ⟨by omega,by omega,fun c hc=>?_⟩
                  rw [Int.toNat_natCast] at hc
                  obtain ⟨a',ha',rfl⟩:=Pick.embs_get hc
                  rw [ha] at ha';injection ha' with ha';subst ha'
                  try simp only [go_sem,seval,tb5,Pick.emb,Pick.embs_len]
                  rw [hw1]
                  refine ⟨by omega,by omega,fun c hc=>?_⟩
                  rw [Int.toNat_natCast] at hc
                  obtain ⟨b',hb',rfl⟩:=Pick.embs_get hc
                  rw [hb] at hb';injection hb' with hb';subst hb'
                  try simp only [go_sem,seval,tb5,Pick.emb,Pick.embs_len]
                  try simp only [go_sem,seval,tb5,q1,decide_false,Pick.embs_len]
                  refine ⟨by omega,by omega,fun c hc=>?_⟩
                  rw [Int.toNat_natCast] at hc
                  obtain ⟨a',ha',rfl⟩:=Pick.embs_get hc
                  rw [ha] at ha';injection ha' with ha';subst ha'
                  try simp only [go_sem,seval,tb5,Pick.emb,Pick.embs_len]
                  rw [hw1]
                  refine ⟨by omega,by omega,fun c hc=>?_⟩
                  rw [Int.toNat_natCast] at hc
                  obtain ⟨b',hb',rfl⟩:=Pick.embs_get hc
                  rw [hb] at hb';injection hb' with hb';subst hb'
                  try simp only [go_sem,seval,tb5,Pick.emb,Pick.embs_len]
                  rcases hab with hab | ⟨hab,hab2⟩
                  · have q2:(a.rule = b.rule) = False:=eq_false (by omega)
                    try simp only [go_sem,seval,tb5,q2,decide_false]
                    rw [hw2]
                    exact .mk (i+1) (by omega) (by omega) ⟨.refl _,trivial⟩ (by repeat first | exact Keeps.turn _ rfl | refine Keeps.put rfl ?_) (.refl _)
                  · have q2:(a.rule = b.rule) = True:=eq_true (by omega)
                    have q3:(a.alt≤b.alt) = False:=eq_false (by omega)
                    try simp only [go_sem,seval,tb5,q2,decide_true,Pick.embs_len]
                    refine ⟨by omega,by omega,fun c hc=>?_⟩
                    rw [Int.toNat_natCast] at hc
                    obtain ⟨a',ha',rfl⟩:=Pick.embs_get hc
                    rw [ha] at ha';injection ha' with ha';subst ha'
                    try simp only [go_sem,seval,tb5,Pick.emb,Pick.embs_len]
                    rw [hw1]
                    refine ⟨by omega,by omega,fun c hc=>?_⟩
                    rw [Int.toNat_natCast] at hc
                    obtain ⟨b',hb',rfl⟩:=Pick.embs_get hc
                    rw [hb] at hb';injection hb' with hb';subst hb'
                    try simp only [go_sem,seval,tb5,Pick.emb,Pick.embs_len]
                    try simp only [go_sem,seval,tb5,q3,decide_false]
                    rw [hw2]
                    exact .mk (i+1) (by omega) (by omega) ⟨.refl _,trivial⟩ (by repeat first | exact Keeps.turn _ rfl | refine Keeps.put rfl ?_) (.refl _)
                · try simp only [go_sem,seval,tb5]
                  have hall:(sl.all fun x=>decide (x∈cl)) = true:=by
                    rw [List.all_eq_true];intro x hx;simpa using l2 x hx
                  rw [hall] at hwi
                  refine hwi.use ?_
                  try simp only [go_sem,seval,tb5]
                  refine hsl.use ?_
                  try simp only [go_sem,seval,tb5]
                  refine hrw.use ?_
                  try simp only [go_sem,seval,tb5]
                  exact fin_same
              · have eg:=eq_false hg
                try simp only [go_sem,seval,tb5,eg,decide_false]
                exact fin_same
            · have ek:=eq_false hk
              try simp only [go_sem,seval,tb5,ek,decide_false]
              exact fin_same
          · have ee:=eq_false he
            try simp only [go_sem,seval,tb5,ee,decide_false]
            exact fin_same
end Go.Vx
