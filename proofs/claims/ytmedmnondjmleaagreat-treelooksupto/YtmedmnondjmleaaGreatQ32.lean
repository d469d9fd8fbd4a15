/- Part Q32 of the proof of treeLooksProved: the walk of the program on abstract values, and the plain law. -/
import Derived.Test.YtmedmnondjmleaaGreatQ31
set_option linter.unusedVariables false
set_option linter.unusedSimpArgs false
section
set_option maxRecDepth 100000
namespace Go.Vx
open Go.Proofs
theorem Lz:(Zz Tryz.prog 30 3=some 3)∧(Zh Tryz.prog 27=some 1)∧(Ze Tryz.prog 27=some false)∧(Zz Tryz.prog 30 5=some 5)∧(ZA Tryz.prog 212=some 27)∧(Zl Tryz.prog 27=some (.slice none 0 0))∧(Zz Tryz.prog 30 4=some 4)∧(Zh Tryz.prog 28=some 1)∧(Ze Tryz.prog 28=some false)∧(ZA Tryz.prog 28=some 114)∧(Zh Tryz.prog 114=some 7)∧(Ze Tryz.prog 114=some true)∧(Zl Tryz.prog 114=some (.agg #[(.string ⟨#[]⟩),(.int .i64 0),(.slice none 0 0),(.int .i64 0),(.slice none 0 0),(.slice none 0 0),(.slice none 0 0)]))∧(Zz Tryz.prog 114 1=some 1)∧(Zh Tryz.prog 30=some 6)∧(Ze Tryz.prog 30=some true)∧(ZA Tryz.prog 27=some 30)∧(Zl Tryz.prog 30=some (.agg #[(.int .i64 0),(.slice none 0 0),(.int .i64 0),(.slice none 0 0),(.slice none 0 0),(.slice none 0 0)]))∧(Tryz.prog.underlying 28=some (.slice 114))∧(ZQ Tryz.prog 30=some 112):=by
 refine ⟨?_,?_,?_,?_,?_,?_,?_,?_,?_,?_,?_,?_,?_,?_,?_,?_,?_,?_,?_,?_⟩<;>first | trivial | kernel_rfl
theorem Jm:(ZA Tryz.prog 108=some 107)∧(Zh Tryz.prog 107=some 2)∧(Zl Tryz.prog 107=some (.agg #[(.bool false),(.string ⟨#[]⟩)]))∧(ZQ Tryz.prog 107=some 24):=by
 refine ⟨?_,?_,?_,?_⟩<;>first | trivial | kernel_rfl
theorem OG:(ZA Tryz.prog 26=some 32)∧(Zh Tryz.prog 32=some 2)∧(Zl Tryz.prog 32=some (.agg #[(.int .i64 0),(.int .i64 0)]))∧(ZQ Tryz.prog 32=some 16):=by
 refine ⟨?_,?_,?_,?_⟩<;>first | trivial | kernel_rfl
theorem NY:(Zh Tryz.prog 30=some 6)∧(Ze Tryz.prog 30=some true)∧(ZA Tryz.prog 27=some 30)∧(Zl Tryz.prog 30=some (.agg #[(.int .i64 0),(.slice none 0 0),(.int .i64 0),(.slice none 0 0),(.slice none 0 0),(.slice none 0 0)]))∧(Tryz.prog.underlying 27=some (.slice 30)):=by
 refine ⟨?_,?_,?_,?_,?_⟩<;>first | trivial | kernel_rfl
theorem NX:(Zh Tryz.prog 30=some 6)∧(Ze Tryz.prog 30=some true)∧(ZA Tryz.prog 27=some 30)∧(Zl Tryz.prog 30=some (.agg #[(.int .i64 0),(.slice none 0 0),(.int .i64 0),(.slice none 0 0),(.slice none 0 0),(.slice none 0 0)]))∧(Tryz.prog.underlying 27=some (.slice 30)):=by
 refine ⟨?_,?_,?_,?_,?_⟩<;>first | trivial | kernel_rfl
theorem aG:(Zh Tryz.prog 30=some 6)∧(Ze Tryz.prog 30=some true):=by
 refine ⟨?_,?_⟩<;>first | trivial | kernel_rfl
def BQ (ls:List (List Tr)):List (List AV):=ls.map fun l=>[AV.list .none 6 (cD l)]
theorem Tx (ls:List (List Tr)):(BQ ls).length=ls.length:=by simp [BQ]
theorem DB {a b:Nat}(h:a+b≤1000000000000):IntKind.i64.wrap ((a:Int)+(b:Int))=((a+b:Nat):Int):=Zp (by omega) (by omega)
theorem MW.appT {σ S:Store}{v:AV}{l m:List Tr}{rt:Rt}{s2:Nat}{K:AV→Store→Prop}(h:MW σ 6 S v (cD l))(hs2:s2=6∨cD m=[])(hl:l.length+m.length≤137438953472)(hH:Has σ S)
 (kk:∀ v' S',MW σ 6 S' v' (cD (l++m))→Yw σ S S'→Has σ S'→K v' S'):Ua Tryz.prog 27 27 v (.list rt s2 (cD m)) S K :=
 MW.append h (dy l) (dy m) (dz l) (dz m) hs2 WR.2.2.2.2.2.2.2.1 WR.2.2.2.2.2.2.2.2.1 WR.2.2.2.2.2.2.2.2.2.1 WR.2.2.2.2.2.2.2.2.2.2 (by rw [WR.2.2.2.2.2.2.2.1];rfl) rfl (by decide) (by rw [cu,cu];exact hl) hH (fun v' S' h1 h2 h3=>kk v' S' (by rw [dK];exact h1) h2 h3)
theorem EF (ls:List (List Tr))(hls:ls.flatten.length≤137438953472)(hl:ls.length≤1000)(σ:Store):Zj Tryz.prog 123 [.list .full 1 (BQ ls)] σ (fun r σ'=>∃ v,r=.ret v∧MW σ 6 σ' v (cD ls.flatten)∧Has σ σ'):=by
 refine Zc [33] [] Tryz.func123 rfl (by kernel_rfl) ?_;rw [Tryz.ntmps123,Tryz.results123]
 try simp only [go_sem,seval,WR,Tx]
 have hpre:∀ i,(ls.take i).flatten.length≤ls.flatten.length:=by
  intro i
  have:ls.flatten=(ls.take i).flatten++(ls.drop i).flatten:=by rw [← List.flatten_append,List.take_append_drop]
  rw [this,List.length_append];omega
 have hstep:∀ (i:Nat) (l:List Tr),ls[i]?=some l→(ls.take (i+1)).flatten=(ls.take i).flatten++l:=by
  intro i l h
  rw [List.take_add_one,h,Option.toList_some,List.flatten_append];simp
 refine Zv (mu:=[33]) (dr:=[]) [3,5,11,12,13,14,15,16,17,18,19,20,21,22] (fun i:Nat=>[(11,vi i),(3,vi ((ls.take i).flatten.length:Nat))]) (fun _=>σ) (fun i=>i≤ls.length) (fun i=>ls.length-i) 0 (by kernel_rfl) (by omega) ⟨.refl _,.refl _,trivial⟩ (.refl _) ?_
 intro i hi
 try simp only [go_sem,seval,WR,Tx]
 refine ⟨fun h1=>⟨by omega,h1,fun c hc=>?_⟩,fun h1=>?_⟩
 ·rw [Int.toNat_natCast] at hc
  obtain ⟨l,hl2,rfl⟩:=Yo hc
  have e1:=hstep i l hl2
  have e2:=hpre (i+1)
  rw [e1,List.length_append] at e2
  try simp only [go_sem,seval,WR,cu]
  rw [DB (by omega)]
  have h0:((((ls.take i).flatten.length+l.length:Nat):Int)<0)=False:=eq_false (by omega)
  try simp only [go_sem,seval,WR,h0,decide_false]
  rw [show IntKind.i64.wrap ((i:Int)+1)=((i+1:Nat):Int) from Zp (by omega) (by omega)]
  exact .mk (i+1) (by omega) (by omega) ⟨.refl _,by simp only [e1,List.length_append];exact .refl _,trivial⟩ (by repeat first | exact Zf.turn _ rfl | refine Zf.put rfl ?_) (.refl _)
 ·have hil:ls.take i=ls:=List.take_of_length_le (by omega)
  rw [hil]
  try simp only [go_sem,seval,WR]
  refine (Cx ls.flatten.length hls σ 0).mono ?_
  rintro r σ' ⟨v0,rfl,hm,hh⟩
  try simp only [go_sem,seval,WR,Tx]
  refine Zv (mu:=[33]) (dr:=[]) [6,8,27,28,29,30,31,32,33,34] (fun x:Nat×AV×Store=>[(27,vi x.1),(6,x.2.1)]) (fun x=>x.2.2) (fun x=>x.1≤ls.length∧MW σ 6 x.2.2 x.2.1 (cD (ls.take x.1).flatten)∧Has σ x.2.2) (fun x=>ls.length-x.1) (0,v0,σ') (by kernel_rfl) ⟨by simp,hm,hh⟩ ⟨.refl _,.refl _,trivial⟩ (.refl _) ?_
  rintro ⟨j,v,S⟩ ⟨j1,j2,j3⟩
  simp only at j1 j2 j3
  try simp only [go_sem,seval,WR,Tx]
  refine ⟨fun h1=>⟨by omega,h1,fun c hc=>?_⟩,fun h1=>?_⟩
  ·rw [Int.toNat_natCast] at hc
   obtain ⟨l,hl2,rfl⟩:=Yo hc
   have e1:=hstep j l hl2
   have e2:=hpre (j+1)
   rw [e1,List.length_append] at e2
   try simp only [go_sem,seval,WR,j2.one.1,j2.one.2]
   refine j2.appT (.inl rfl) (by omega) j3 (fun v' S' hv' hk hS'=>?_)
   try simp only [go_sem,seval,WR,hv'.one.1,hv'.one.2]
   rw [show IntKind.i64.wrap ((j:Int)+1)=((j+1:Nat):Int) from Zp (by omega) (by omega)]
   exact .mk (j+1,v',S') ⟨by simp only;omega,by simp only [e1];exact hv',hS'⟩ (by simp only;omega) ⟨.refl _,.refl _,trivial⟩ (by repeat first | exact Zf.turn _ rfl | refine Zf.put rfl ?_) (.refl _)
  ·have hjl:ls.take j=ls:=List.take_of_length_le (by omega)
   rw [hjl] at j2
   try simp only [go_sem,seval,WR,j2.one.1,j2.one.2]
   exact .mk (.refl _) (.refl _) ⟨v,rfl,j2,j3⟩
theorem Fc (t:Tr)(hB:trN t≤1073741824):Pur Tryz.prog 83 [.agg t.emb] (.list .none 6 (cD (ZH t))):=by
 intro σ
 refine Zj.nodup (by kernel_rfl) (fun hnd=>?_)
 have hpl:=WM t
 obtain ⟨k,p,a,y,c,e⟩:=t
 simp only [cm]
 simp only [ZH,List.length_append,List.length_map] at hpl
 refine Zc [23] [] Tryz.func83 rfl (by kernel_rfl) ?_;rw [Tryz.ntmps83,Tryz.results83]
 try simp only [go_sem,seval,Lz]
 refine ⟨rfl,(EF [y,e] (by simp;omega) (by simp) σ).mono ?_⟩
 rintro r σ' ⟨v0,rfl,hm,hh⟩
 have hye:[y,e].flatten=y++e:=by simp
 rw [hye] at hm
 try simp only [go_sem,seval,Lz,hm.one.1,hm.one.2,cF]
 refine Zv (mu:=[23]) (dr:=[]) [3,5,15,16,17,18,19,20,21,22,23,24] (fun x:Nat×AV×Store=>[(15,vi x.1),(3,x.2.1)]) (fun x=>x.2.2) (fun x=>x.1≤c.length∧MW σ 6 x.2.2 x.2.1 (cD (y++e++(c.take x.1).map Cs.tree))∧Has σ x.2.2) (fun x=>c.length-x.1) (0,v0,σ') (by kernel_rfl) ⟨by simp,by simpa using hm,hh⟩ ⟨.refl _,.refl _,trivial⟩ (.refl _) ?_
 rintro ⟨j,v,S⟩ ⟨j1,j2,j3⟩
 simp only at j1 j2 j3
 try simp only [go_sem,seval,Lz,cF]
 refine ⟨fun h1=>⟨by omega,h1,fun d hd=>?_⟩,fun h1=>?_⟩
 ·rw [Int.toNat_natCast] at hd
  obtain ⟨q,hq,rfl⟩:=da hd
  obtain ⟨s,t⟩:=q
  obtain ⟨k1,p1,a1,y1,c1,e1⟩:=t
  try simp only [go_sem,seval,Lz,di]
  intro b5 hb5
  try simp only [go_sem,seval,Lz,j2.one.1,j2.one.2]
  have hstep:y++e++(c.take (j+1)).map Cs.tree=(y++e++(c.take j).map Cs.tree)++[.mk k1 p1 a1 y1 c1 e1]:=by
   rw [List.take_add_one,hq,Option.toList_some,List.map_append];simp [Cs.tree]
  refine ⟨rfl,(j2.cons hb5 _).appT (m:=[.mk k1 p1 a1 y1 c1 e1]) (.inl rfl) (by simp;omega) (j3.cons _) (fun v' S' hv' hk hS'=>?_)⟩
  try simp only [go_sem,seval,Lz,hv'.one.1,hv'.one.2]
  rw [show IntKind.i64.wrap ((j:Int)+1)=((j+1:Nat):Int) from Zp (by omega) (by omega)]
  exact .mk (j+1,v',S') ⟨by simp only;omega,by simp only [hstep];exact hv',hS'⟩ (by simp only;omega) ⟨.refl _,.refl _,trivial⟩ (by repeat first | exact Zf.turn _ rfl | refine Zf.put rfl ?_) (.refl _)
 ·have hjl:c.take j=c:=List.take_of_length_le (by omega)
  rw [hjl] at j2
  try simp only [go_sem,seval,Lz,j2.one.1,j2.one.2]
  exact .mkS (j2.shift (dy _) (dz _) (by rw [cu];simp;omega) j3 hnd) ⟨rfl,rfl⟩
abbrev bigN:Nat:=1073741824
theorem TP (t:Tr)(hB:trN t≤bigN):Pur Tryz.prog 83 [.agg t.emb] (.list .none 6 (cD (ZH t))):=Fc t hB
theorem GD (t:Tr):∀ (m:Int),trN t≤bigN→0≤m→m≤1000000→Pur Tryz.prog 80 [.agg t.emb,vi m] (vi (WD t m)):=by
 refine Xa (M:=fun t=>∀ (m:Int),trN t≤bigN→0≤m→m≤1000000→Pur Tryz.prog 80 [.agg t.emb,vi m] (vi (WD t m))) (fun t ih m hB h0 h1=>?_) t
 intro σ
 have hpl:=WM t
 have hpc:=TP t hB
 have hbig:bigN=1073741824:=rfl
 rw [N5]
 have hmem:∀ x∈ZH t,trN x<trN t:=fun x hx=>Yj hx
 obtain ⟨l,hl⟩:∃ l,l=ZH t:=⟨_,rfl⟩
 rw [← hl] at hpc hmem hpl ⊢
 obtain ⟨k,p,a,y,c,e⟩:=t
 simp only [cm] at hpc ⊢
 refine Zc [] [] Tryz.func80 rfl (by kernel_rfl) ?_;rw [Tryz.ntmps80,Tryz.results80]
 try simp only [go_sem,seval,NY]
 refine hpc.use ?_
 try simp only [go_sem,seval,NY,cu]
 refine Zv (mu:=[]) (dr:=[]) [5,7,11,12,13,14,15,16,17,18,19,20,21,22,23,24,25] (fun x:Nat×Int=>[(11,vi x.1),(5,vi x.2)]) (fun _=>σ) (fun x=>x.1≤l.length∧Xr l m 1=Xr (l.drop x.1) m x.2∧1≤x.2∧x.2≤m+1) (fun x=>l.length-x.1) (0,1) (by kernel_rfl) ⟨by simp,by simp,by simp,by simp;omega⟩ ⟨.refl _,.refl _,trivial⟩ (.refl _) ?_
 rintro ⟨i,n⟩ ⟨i1,i2,i3,i4⟩
 simp only at i1 i2 i3 i4
 try simp only [go_sem,seval,NY,cu]
 refine ⟨fun h1=>⟨by omega,h1,fun d hd=>?_⟩,fun h1=>?_⟩
 ·rw [Int.toNat_natCast] at hd
  obtain ⟨q,hq,rfl⟩:=dc hd
  have hd:l.drop i=q::l.drop (i+1):=List.drop_eq_getElem_cons (List.getElem?_eq_some_iff.1 hq).1 |>.trans (by rw [(List.getElem?_eq_some_iff.1 hq).2])
  have hqm:=hmem q (List.mem_of_getElem? hq)
  have hsz:=GE q (m-n)
  have ihq:=fun (h:n≤m)=>ih q hqm (m-n) (by omega) (by omega) (by omega)
  rw [hd] at i2
  simp only [Xr] at i2
  obtain ⟨k1,p1,a1,y1,c1,e1⟩:=q
  try simp only [go_sem,seval,NY,cm]
  intro b7 hb7
  try simp only [go_sem,seval,NY]
  refine ⟨fun h2=>?_,fun h2=>?_⟩
  ·rw [if_pos h2] at i2
   try simp only [go_sem,seval,NY]
   rw [i2]
   exact fm
  ·rw [if_neg h2] at i2
   rw [Zp (x:=m-n) (by omega) (by omega)]
   refine (ihq (by omega)).use ?_
   have hs:=hsz (by omega)
   try simp only [go_sem,seval,NY]
   rw [show IntKind.i64.wrap ((i:Int)+1)=((i+1:Nat):Int) from Zp (by omega) (by omega),Zp (x:=n+_) (by omega) (by omega)]
   exact .mk (i+1,_) ⟨by simp only;omega,i2,by simp only;omega,by simp only;omega⟩ (by simp only;omega) ⟨.refl _,.refl _,trivial⟩ (by repeat first | exact Zf.turn _ rfl | refine Zf.put rfl ?_) ((Sub.refl _).skip _)
 ·rw [List.drop_of_length_le (by omega)] at i2
  try simp only [go_sem,seval,NY]
  exact X8 i2.symm
theorem FA (t:Tr):∀ (m:Int),trN t≤bigN→-1000≤m→m≤1000000→Pur Tryz.prog 85 [.agg t.emb,vi m] (vi (Uw t m)):=by
 refine Xa (M:=fun t=>∀ (m:Int),trN t≤bigN→-1000≤m→m≤1000000→Pur Tryz.prog 85 [.agg t.emb,vi m] (vi (Uw t m))) (fun t ih m hB h0 h1=>?_) t
 intro σ
 have hpl:=WM t
 have hpc:=TP t hB
 have hbig:bigN=1073741824:=rfl
 rw [O6]
 have hmem:∀ x∈ZH t,trN x<trN t:=fun x hx=>Yj hx
 obtain ⟨l,hl⟩:∃ l,l=ZH t:=⟨_,rfl⟩
 rw [← hl] at hpc hmem hpl ⊢
 obtain ⟨k,p,a,y,c,e⟩:=t
 simp only [cm] at hpc ⊢
 refine Zc [] [] Tryz.func85 rfl (by kernel_rfl) ?_;rw [Tryz.ntmps85,Tryz.results85]
 try simp only [go_sem,seval,NX]
 refine ⟨fun hm=>?_,fun hm=>?_⟩
 ·rw [if_pos hm]
  refine hpc.use ?_
  try simp only [go_sem,seval,NX,cu]
  refine Zv (mu:=[]) (dr:=[]) [5,7,13,14,15,16,17,18,19,20,21,22,23] (fun x:Nat×Int=>[(13,vi x.1),(5,vi x.2)]) (fun _=>σ) (fun x=>x.1≤l.length∧X4 l m 0=X4 (l.drop x.1) m x.2∧0≤x.2∧x.2≤m) (fun x=>l.length-x.1) (0,0) (by kernel_rfl) ⟨by simp,by simp,by simp,by simp;omega⟩ ⟨.refl _,.refl _,trivial⟩ (.refl _) ?_
  rintro ⟨i,n⟩ ⟨i1,i2,i3,i4⟩
  simp only at i1 i2 i3 i4
  try simp only [go_sem,seval,NX,cu]
  refine ⟨fun h1=>⟨by omega,h1,fun d hd=>?_⟩,fun h1=>?_⟩
  ·rw [Int.toNat_natCast] at hd
   obtain ⟨q,hq,rfl⟩:=dc hd
   have hd:l.drop i=q::l.drop (i+1):=List.drop_eq_getElem_cons (List.getElem?_eq_some_iff.1 hq).1 |>.trans (by rw [(List.getElem?_eq_some_iff.1 hq).2])
   have hqm:=hmem q (List.mem_of_getElem? hq)
   have hsz:=Cj q (m-1)
   have ihq:=ih q hqm (m-1) (by omega) (by omega) (by omega)
   rw [hd] at i2
   simp only [X4] at i2
   obtain ⟨k1,p1,a1,y1,c1,e1⟩:=q
   try simp only [go_sem,seval,NX,cm]
   intro b7 hb7
   try simp only [go_sem,seval,NX]
   rw [Zp (x:=m-1) (by omega) (by omega)]
   refine ihq.use ?_
   try simp only [go_sem,seval,NX]
   rw [show IntKind.i64.wrap ((i:Int)+1)=((i+1:Nat):Int) from Zp (by omega) (by omega)]
   exact .mk (i+1,_) ⟨by simp only;omega,i2,by simp only;omega,by simp only;omega⟩ (by simp only;omega) ⟨.refl _,by (first | exact .refl _ | (rw [Int.max_def];exact .refl _)),trivial⟩ (by repeat first | exact Zf.turn _ rfl | refine Zf.put rfl ?_) ((Sub.refl _).skip _)
  ·rw [List.drop_of_length_le (by omega)] at i2
   try simp only [go_sem,seval,NX]
   rw [Zp (by omega) (by omega)]
   exact X8 (by rw [i2];rfl)
 ·rw [if_neg hm]
  try simp only [go_sem,seval,NX]
  exact X8 (by decide)
theorem Tz (t:Tr)(hB:trN t≤bigN):Pur Tryz.prog 42 [.agg t.emb] (vi (min (Uw t 9) 10)):=by
 intro σ
 have h:=FA t 9 hB (by omega) (by omega)
 obtain ⟨k,p,a,y,c,e⟩:=t
 simp only [cm] at h ⊢
 refine Zc [] [] Tryz.func42 rfl (by kernel_rfl) ?_;rw [Tryz.ntmps42,Tryz.results42]
 try simp only [go_sem,seval,aG]
 refine h.use ?_
 try simp only [go_sem,seval,aG]
 first | exact Zu | exact X8 (by omega)
theorem dF (l:List Pick):∀ e∈cI l,e.length=2:=fun e he=>by obtain ⟨t,_,rfl⟩:=List.mem_map.1 he;rfl
theorem dC (l:List Pick):(cI l).flatten.all AV.one=true:=Q6 _ (fun p=>rfl) l
theorem MQ (l:List Pick)(rt:Rt)(s:Nat)(hs:s=2∨l=[]):Pur Tryz.prog 65 [.list rt s (cI l)] (.list .none 2 (cI l)):=by
 intro σ
 refine Zj.nodup (by kernel_rfl) (fun hnd=>?_)
 refine Zj.ok (by kernel_rfl) (fun hok=>?_)
 have hl:=(hok _ List.mem_cons_self).len
 rw [cB] at hl
 clear hok
 refine Zc [7] [] Tryz.func65 rfl (by kernel_rfl) ?_;rw [Tryz.ntmps65,Tryz.results65]
 try simp only [go_sem,seval,OG]
 intro b hb
 cases b with
 | true =>
   have:l=[]:=by have:=hb rfl;simpa [cI] using this
   subst this
   try simp only [go_sem,seval,OG]
   exact ZE (.nilA _ _ _) (.refl _)
 | false =>
   try simp only [go_sem,seval,OG]
   refine ⟨rfl,MW.append (sz:=2) (σ:=σ) (es:=[]) (.inl ⟨rfl,_,rfl⟩) (by simp) (dF l) (by simp) (dC l) (hs.imp id (fun h=>by rw [h];rfl)) OG.1 OG.2.1 OG.2.2.1 OG.2.2.2 (by rw [OG.1];rfl) rfl (by decide) (by simp [cB];omega) (.refl _) (fun v' S' h1 _ h3=>?_)⟩
   try simp only [go_sem,seval,OG,h1.one.1,h1.one.2]
   exact .mkS (h1.shift (dF l) (dC l) (by simpa [cB] using hl) h3 hnd) ⟨rfl,rfl⟩
theorem VX (l:List Cls)(hne:l≠[])(rt:Rt)(s:Nat)(hs:s=2∨l=[])(σ:Store):Zj Tryz.prog 113 [.list rt s (cA l)] σ (fun r σ'=>∃ b cap rest,Zx σ b∧l.length≤cap∧l.length≤137438953472∧r=.ret (.val (.slice (some ⟨b,0,none⟩) l.length cap))∧σ'=(b,.cells ((cA l).flatten++rest))::σ):=by
 refine Zj.ok (by kernel_rfl) (fun hok=>?_)
 have hl:=(hok _ List.mem_cons_self).len
 rw [cS] at hl
 clear hok
 refine Zc [7] [] Tryz.func113 rfl (by kernel_rfl) ?_;rw [Tryz.ntmps113,Tryz.results113]
 try simp only [go_sem,seval,Jm]
 intro b hb
 cases b with
 | true=>exact absurd (by have:=hb rfl;simpa [cA] using this) hne
 | false =>
   try simp only [go_sem,seval,Jm]
   unfold Ua
   simp only [Jm]
   refine ⟨rfl,rfl,rfl,by decide,hs.imp id (fun h=>by rw [h];rfl),dh l,by simpa [lim,cS] using hl,by simp,by simp,fun h=>absurd (by simpa [cA] using h) hne,fun _ b nc zs hb2 hnc hzs=>?_⟩
   simp only [List.length_nil,Nat.zero_add,cS] at hnc hzs ⊢
   try simp only [go_sem,seval,Jm]
   exact .mk (.refl _) (.refl _) ⟨b,nc,zs,hb2,hnc,hl,rfl,by simp⟩
end Go.Vx
end
section
set_option maxRecDepth 100000
namespace Go.Vx
open Go.Proofs
theorem ST:(ZA Tryz.prog 26=some 32)∧(Zh Tryz.prog 32=some 2)∧(Ze Tryz.prog 32=some true)∧(Tryz.prog.underlying 26=some (.slice 32)):=by
 refine ⟨?_,?_,?_,?_⟩<;>first | trivial | kernel_rfl
theorem SS:(ZA Tryz.prog 28=some 114)∧(Zh Tryz.prog 114=some 7)∧(Ze Tryz.prog 114=some true)∧(Tryz.prog.underlying 28=some (.slice 114)):=by
 refine ⟨?_,?_,?_,?_⟩<;>first | trivial | kernel_rfl
theorem Bw:(Zz Tryz.prog 114 0=some 0)∧(Zh Tryz.prog 9=some 1)∧(Ze Tryz.prog 9=some false):=by
 refine ⟨?_,?_,?_⟩<;>first | trivial | kernel_rfl
theorem Bv:(Zh Tryz.prog 30=some 6)∧(Ze Tryz.prog 30=some true)∧(Zh Tryz.prog 3=some 1)∧(Ze Tryz.prog 3=some false)∧(Zh Tryz.prog 141=some 1)∧(Ze Tryz.prog 141=some false):=by
 refine ⟨?_,?_,?_,?_,?_,?_⟩<;>first | trivial | kernel_rfl
theorem YC:(Zz Tryz.prog 30 0=some 0)∧(Zh Tryz.prog 3=some 1)∧(Ze Tryz.prog 3=some false)∧(Zz Tryz.prog 30 2=some 2)∧(Zh Tryz.prog 30=some 6)∧(Ze Tryz.prog 30=some true)∧(Zz Tryz.prog 30 1=some 1)∧(Zh Tryz.prog 26=some 1)∧(Ze Tryz.prog 26=some false)∧(Zh Tryz.prog 141=some 1)∧(Ze Tryz.prog 141=some false)∧(Tryz.prog.underlying 141=some (.map 3 4))∧(Tryz.prog.underlying 3=some (.int .i64))∧(Zl Tryz.prog 4=some (.bool false))∧(Zz Tryz.prog 30 3=some 3)∧(Zh Tryz.prog 27=some 1)∧(Ze Tryz.prog 27=some false)∧(Zz Tryz.prog 30 5=some 5)∧(Zz Tryz.prog 30 4=some 4)∧(Zh Tryz.prog 28=some 1)∧(Ze Tryz.prog 28=some false)∧(ZA Tryz.prog 28=some 114)∧(Zh Tryz.prog 114=some 7)∧(Zz Tryz.prog 114 0=some 0)∧(Zh Tryz.prog 9=some 1)∧(Ze Tryz.prog 9=some false)∧(Tryz.prog.underlying 27=some (.slice 30))∧(Tryz.prog.underlying 28=some (.slice 114))∧(Tryz.prog.underlying 26=some (.slice 32)):=by
 refine ⟨?_,?_,?_,?_,?_,?_,?_,?_,?_,?_,?_,?_,?_,?_,?_,?_,?_,?_,?_,?_,?_,?_,?_,?_,?_,?_,?_,?_,?_⟩<;>first | trivial | kernel_rfl
theorem H8:(Zh Tryz.prog 30=some 6)∧(Ze Tryz.prog 30=some true):=by
 refine ⟨?_,?_⟩<;>first | trivial | kernel_rfl
theorem Mj {κ:Type}[DecidableEq κ](l:List (κ×AV×Nat))(x y:κ)(v:AV)(c:Nat):XU (VL l x v c) y=if y=x then some v else XU l y:=by
 unfold VL
 split
 ·rename_i hx
  induction l with
  | nil=>simp at hx
  | cons e r ih =>
    obtain ⟨k,u,b⟩:=e
    simp only [List.map_cons]
    unfold XU at ih ⊢
    by_cases hk:k=x
    ·subst hk
     simp only [if_true,List.find?_cons]
     by_cases hy:y=k
     ·subst hy;simp
     ·have hy2:¬ k=y:=fun e=>hy e.symm
      simp only [decide_eq_false hy2,if_neg hy]
      by_cases hin:k∈r.map (·.1)
      ·have:=ih hin;rw [if_neg hy] at this;exact this
      ·have:∀ e∈r,(if e.1=k then (k,v,e.2.2) else e)=e:=by
        intro e he
        split
        ·rename_i h;exact absurd (h ▸ List.mem_map_of_mem (f:=(·.1)) he) hin
        ·rfl
       rw [show r.map (fun e=>if e.1=k then (k,v,e.2.2) else e)=r from (List.map_congr_left this).trans (by simp)]
    ·have hin:x∈r.map (·.1):=by
      simp only [List.map_cons,List.mem_cons] at hx
      rcases hx with h | h
      ·exact absurd h.symm hk
      ·exact h
     simp only [if_neg hk,List.find?_cons]
     by_cases hy:k=y
     ·subst hy
      simp [hk]
     ·simp only [decide_eq_false hy];exact ih hin
 ·rename_i hx
  unfold XU
  rw [List.find?_append]
  by_cases hy:y=x
  ·subst hy
   have:l.find? (fun e=>decide (e.1=y))=none:=by
    rw [List.find?_eq_none];intro e he;simp only [decide_eq_true_eq];exact fun h=>hx (h ▸ List.mem_map_of_mem (f:=(·.1)) he)
   simp [this]
  ·have hy2:¬ x=y:=fun e=>hy e.symm
   rw [if_neg hy]
   simp [List.find?_cons,decide_eq_false hy2]
theorem WE.put {q:ML}(h:WE q)(x:Int)(b:Bool):WE (Ud q x b):=by
 intro y v hv
 unfold Ud at hv
 rw [Mj] at hv
 split at hv
 ·injection hv with hv;exact ⟨b,hv.symm⟩
 ·exact h y v hv
theorem WE.get {q:ML}(h:WE q)(x:Int):(XU q.1 x).getD (vb false)=vb (Xv q x):=by
 unfold Xv
 cases hl:XU q.1 x with
 | none=>rfl
 | some v=>obtain ⟨b,rfl⟩:=h x v hl;rfl
theorem Kr (n:Int)(k:Int)(p:List Pick)(a:Int)(y:List Tr)(c:List Cs)(e:List Tr)(q:ML):frm n (.mk k p a y c e) q=if k=1 then (decide (a=0)&&decide ((ZH (.mk k p a y c e)).length=0)&&TX U2 p,q) else if k=2 then (if WZ n p a y c e q || Q0 c then (false,q) else ((Z3 n (ZH (.mk k p a y c e)) (true,Ud q a true)).1,Ud (Z3 n (ZH (.mk k p a y c e)) (true,Ud q a true)).2 a false)) else (false,q):=by
 simp only [frm,ZH,UR,QK]
theorem Tq {n:Int}:∀ (l:List Tr) (q:Bool×ML),(∀ x∈l,∀ q,WE q→WE (frm n x q).2)→WE q.2→WE (Z3 n l q).2
 | [],q,_,h=>h
 | t::r,q,hl,h=>by
   simp only [Z3]
   split
   ·exact Tq r _ (fun x hx=>hl x (List.mem_cons_of_mem _ hx)) (hl t List.mem_cons_self _ h)
   ·exact h
theorem Ej (n:Int)(t:Tr):∀ q,WE q→WE (frm n t q).2:=by
 refine Xa (M:=fun t=>∀ q,WE q→WE (frm n t q).2) (fun t ih q hq=>?_) t
 obtain ⟨k,p,a,y,c,e⟩:=t
 rw [Kr]
 split
 ·exact hq
 ·split
  ·split
   ·exact hq
   ·exact (Tq _ _ (fun x hx=>ih x (Yj hx)) (hq.put _ _)).put _ _
  ·exact hq
abbrev bM (α:Type):=α→α→Int
theorem Pick.emb_len (p:Pick):p.emb.length=2:=rfl
theorem Kk (f:Value)(cmp:bM Pick)(hf:f=.func (.func 96) #[] #[])(hc:∀ a b:Pick,Pur Tryz.prog 96 [.agg a.emb,.agg b.emb] (vi (cmp a b)))(l:List Pick)(rt:Rt)(s:Nat)(hs:s=2∨l=[]):Pur Tryz.prog 141 [.list rt s (cI l),.val f] (vb (TX cmp l)):=by
 subst hf
 intro σ
 refine Zj.ok (by kernel_rfl) (fun hok=>?_)
 have hl:=(hok _ List.mem_cons_self).len
 rw [cB] at hl
 clear hok
 refine Zc [] [(4,10,0)] Tryz.func141 rfl (by kernel_rfl) ?_;rw [Tryz.ntmps141,Tryz.results141]
 try simp only [go_sem,seval,ST,cB]
 refine Zv (mu:=[]) (dr:=[(4,10,0)]) [4,5,6,7,8,9,10,11,12,13,14,15,16,17,18,19,20,21,22,23] (fun i:Nat=>[(5,vi ((i+1:Nat):Int))]) (fun _=>σ) (fun i=>(i+1≤l.length∨i=0)∧∀ (j:Nat) (a b:Pick),j<i→l[j]?=some a→l[j+1]?=some b→cmp a b<0) (fun i=>l.length-i) 0 (by kernel_rfl) ⟨.inr rfl,fun j a b h=>absurd h (Nat.not_lt_zero _)⟩ ⟨.refl _,trivial⟩ (.refl _) ?_
 rintro i ⟨i1,i2⟩
 try simp only [go_sem,seval,ST,cB]
 refine ⟨fun h1=>?_,fun h1=>?_⟩
 ·rw [show IntKind.i64.wrap (((i+1:Nat):Int)-1)=((i:Nat):Int) from (by rw [Zp (by omega) (by omega)];omega)]
  have hs2:s=2:=by
   rcases hs with h | h
   ·exact h
   ·rw [h] at h1;simp at h1;omega
  refine ⟨by rw [hs2],by omega,by omega,fun c hc2=>?_⟩
  rw [Int.toNat_natCast] at hc2
  obtain ⟨a,ha,rfl⟩:=dj hc2
  have hla:(Pick.emb a).length=2:=Pick.emb_len a
  have hta:List.take 2 (Pick.emb a)=Pick.emb a:=List.take_of_length_le (by omega)
  try simp only [go_sem,seval,ST,cB,hla,hta]
  refine ⟨by rw [hs2],by omega,by omega,fun c hc3=>?_⟩
  rw [Int.toNat_natCast] at hc3
  obtain ⟨b,hb,rfl⟩:=dj hc3
  have hab:=hc a b
  have hlb:(Pick.emb b).length=2:=Pick.emb_len b
  have htb:List.take 2 (Pick.emb b)=Pick.emb b:=List.take_of_length_le (by omega)
  try simp only [go_sem,seval,ST,hlb,htb]
  first | refine hab.head ?_ | refine hab.use ?_
  try simp only [go_sem,seval,ST]
  refine ⟨fun h2=>?_,fun h2=>?_⟩
  ·try simp only [go_sem,seval,ST]
   refine ZC (Eq.symm ?_)
   rw [Bool.eq_false_iff]
   intro hi
   have:=(UA l).1 hi i a b ha hb
   omega
  ·try simp only [go_sem,seval,ST]
   have hlt:=(List.getElem?_eq_some_iff.1 hb).1
   rw [show IntKind.i64.wrap (((i+1:Nat):Int)+1)=((i+1+1:Nat):Int) from (by rw [Zp (by omega) (by omega)];omega)]
   refine .mk (i+1) ⟨.inl (by omega),fun j x y hj hx hy=>?_⟩ (by omega) ⟨.refl _,trivial⟩ (by repeat first | exact Zf.turn _ rfl | refine Zf.put rfl ?_) (.refl _)
   by_cases hji:j=i
   ·subst hji;rw [ha] at hx;rw [hb] at hy;injection hx with hx;injection hy with hy;subst hx;subst hy;omega
   ·exact i2 j x y (by omega) hx hy
 ·try simp only [go_sem,seval,ST]
  refine ZC (Eq.symm ((UA l).2 (fun j a b ha hb=>i2 j a b ?_ ha hb)))
  have:=(List.getElem?_eq_some_iff.1 hb).1
  omega
theorem Kl (f:Value)(cmp:bM Cs)(hf:f=.func (.func 143) #[] #[])(hc:∀ a b:Cs,Pur Tryz.prog 143 [.agg a.emb,.agg b.emb] (vi (cmp a b)))(l:List Cs)(rt:Rt)(s:Nat)(hs:s=7∨l=[]):Pur Tryz.prog 142 [.list rt s (cP l),.val f] (vb (TX cmp l)):=by
 subst hf
 intro σ
 refine Zj.ok (by kernel_rfl) (fun hok=>?_)
 have hl:=(hok _ List.mem_cons_self).len
 rw [cF] at hl
 clear hok
 refine Zc [] [(4,10,0)] Tryz.func142 rfl (by kernel_rfl) ?_;rw [Tryz.ntmps142,Tryz.results142]
 try simp only [go_sem,seval,SS,cF]
 refine Zv (mu:=[]) (dr:=[(4,10,0)]) [4,5,6,7,8,9,10,11,12,13,14,15,16,17,18,19,20,21,22,23] (fun i:Nat=>[(5,vi ((i+1:Nat):Int))]) (fun _=>σ) (fun i=>(i+1≤l.length∨i=0)∧∀ (j:Nat) (a b:Cs),j<i→l[j]?=some a→l[j+1]?=some b→cmp a b<0) (fun i=>l.length-i) 0 (by kernel_rfl) ⟨.inr rfl,fun j a b h=>absurd h (Nat.not_lt_zero _)⟩ ⟨.refl _,trivial⟩ (.refl _) ?_
 rintro i ⟨i1,i2⟩
 try simp only [go_sem,seval,SS,cF]
 refine ⟨fun h1=>?_,fun h1=>?_⟩
 ·rw [show IntKind.i64.wrap (((i+1:Nat):Int)-1)=((i:Nat):Int) from (by rw [Zp (by omega) (by omega)];omega)]
  have hs2:s=7:=by
   rcases hs with h | h
   ·exact h
   ·rw [h] at h1;simp at h1;omega
  refine ⟨by rw [hs2],by omega,by omega,fun c hc2=>?_⟩
  rw [Int.toNat_natCast] at hc2
  obtain ⟨a,ha,rfl⟩:=da hc2
  have hla:(Cs.emb a).length=7:=Cs.emb_len a
  have hta:List.take 7 (Cs.emb a)=Cs.emb a:=List.take_of_length_le (by omega)
  try simp only [go_sem,seval,SS,cF,hla,hta]
  refine ⟨by rw [hs2],by omega,by omega,fun c hc3=>?_⟩
  rw [Int.toNat_natCast] at hc3
  obtain ⟨b,hb,rfl⟩:=da hc3
  have hab:=hc a b
  have hlb:(Cs.emb b).length=7:=Cs.emb_len b
  have htb:List.take 7 (Cs.emb b)=Cs.emb b:=List.take_of_length_le (by omega)
  try simp only [go_sem,seval,SS,hlb,htb]
  first | refine hab.head ?_ | refine hab.use ?_
  try simp only [go_sem,seval,SS]
  refine ⟨fun h2=>?_,fun h2=>?_⟩
  ·try simp only [go_sem,seval,SS]
   refine ZC (Eq.symm ?_)
   rw [Bool.eq_false_iff]
   intro hi
   have:=(UA l).1 hi i a b ha hb
   omega
  ·try simp only [go_sem,seval,SS]
   have hlt:=(List.getElem?_eq_some_iff.1 hb).1
   rw [show IntKind.i64.wrap (((i+1:Nat):Int)+1)=((i+1+1:Nat):Int) from (by rw [Zp (by omega) (by omega)];omega)]
   refine .mk (i+1) ⟨.inl (by omega),fun j x y hj hx hy=>?_⟩ (by omega) ⟨.refl _,trivial⟩ (by repeat first | exact Zf.turn _ rfl | refine Zf.put rfl ?_) (.refl _)
   by_cases hji:j=i
   ·subst hji;rw [ha] at hx;rw [hb] at hy;injection hx with hx;injection hy with hy;subst hx;subst hy;omega
   ·exact i2 j x y (by omega) hx hy
 ·try simp only [go_sem,seval,SS]
  refine ZC (Eq.symm ((UA l).2 (fun j a b ha hb=>i2 j a b ?_ ha hb)))
  have:=(List.getElem?_eq_some_iff.1 hb).1
  omega
theorem Hg (a b:Cs):Pur Tryz.prog 143 [.agg a.emb,.agg b.emb] (vi (CJ a b)):=by
 intro σ
 obtain ⟨s,t⟩:=a
 obtain ⟨k,p,x,y,c,e⟩:=t
 obtain ⟨s2,t2⟩:=b
 obtain ⟨k2,p2,x2,y2,c2,e2⟩:=t2
 simp only [di]
 refine Zc [] [] Tryz.func143 rfl (by kernel_rfl) ?_;rw [Tryz.ntmps143,Tryz.results143]
 try simp only [go_sem,seval,Bw]
 refine (Rb s s2).use ?_
 try simp only [go_sem,seval,Bw]
 exact Zu
end Go.Vx
end
