/- A part of the proof of clausalSpinesProved. -/
import Derived.Test.YtllgjklcpieanaaGreatDoorR42
import Derived.Test.YtllgjklcpieanaaGreatDoorR22
import Derived.Test.YtllgjklcpieanaaGreatDoorR26
set_option linter.unusedVariables false
set_option linter.unusedSimpArgs false
set_option maxRecDepth 100000
namespace Go.Vx
open Go.Proofs Go.RowKit
theorem QM.set{S:Store}{mq:nM Nat}{qf:QF}(h:QM S mq qf){b:Nat}(hb:mq≠some b)(x:AObj):QM (S.set b x) mq qf:=by
 rcases h with h|⟨r,l,h1,h2,h3⟩
 ·exact .inl h
 ·exact .inr ⟨r,l,h1,by rw[Za (fun e=>hb (by rw[h1,e]))];exact h2,h3⟩
theorem QC{m:List (Int×AV)}{e:nG×AV×Nat}:e∈ZS keI (Xn m)↔∃ (i:Nat) (p:Int×AV),m[i]?=some p/\e=(keI p.1,p.2,i):=by
 unfold ZS Xn
 exact qW
theorem Ho{m:List (Int×AV)}(hn:(m.map (·.1)).Nodup){p:Int×AV}(hp:p∈m):Z3 m p.1=some p.2:=by
 unfold Z3
 induction m with
 | nil=>cases hp
 | cons a r ih =>
   rw[iR,lF] at hn
   rw[mV]
   rcases List.mem_cons.1 hp with rfl|hp
   ·simp
   ·have hne:a.1≠p.1:=fun e=>hn.1 (by rw[e];exact iB hp)
    simp only[hne,iV]
    exact ih hn.2 hp
theorem KD{m:List (Int×AV)}{k:Int}{v:AV}(h:Z3 m k=some v):∃ (i:Nat) (p:Int×AV),m[i]?=some p/\p.1=k:=by
 unfold Z3 at h
 rw[kQ] at h
 obtain⟨p,hp,_⟩:=h
 obtain⟨i,hi,he⟩:=iN (mP hp)
 exact⟨i,p,by rw[<- he];exact iO hi,by simpa using List.find?_some hp⟩
theorem Ko{m:List (Int×AV)}(hn:(m.map (·.1)).Nodup)(k:Int)(v:AV):((putA m k v).map (·.1)).Nodup:=by
 unfold putA
 split
 ·have:(m.map (fun e=>if e.1=k then(k,v) else e)).map (·.1)=m.map (·.1):=by
   rw[ki]
   apply mj
   intro e _
   simp only[Function.comp]
   split
   ·rename_i h;exact h.symm
   ·rfl
  rw[this];exact hn
 ·rename_i h
  rw[jv,iR,kI,List.nodup_append]
  exact⟨hn,by simp,fun a ha b hb e=>by simp at hb;rw[e,hb] at ha;exact h ha⟩
def mapQ(mq:nM Nat)(m:List (Int×AV))(S:Store):Prop:=match mq with
 | none=>m=[]
 | some r=>S.get r=some (.map (ZS keI (Xn m)) m.length)
def itO(mq:nM Nat)(m:List (Int×AV))(seen:List Nat):AObj:=match mq with
 | none=>.iter none 0 [] 0
 | some r=>.iter (some r) m.length seen m.length
theorem QN(mq:nM Nat)(m:List (Int×AV))(seen:List Nat):∃ a x z y,itO mq m seen=.iter a x z y:=by cases mq<;>exact⟨_,_,_,_,rfl⟩
theorem QM.mapQ{S:Store}{mq:nM Nat}{qf:QF}(h:QM S mq qf):∃ m,mapQ mq m S/\(m.map (·.1)).Nodup/\∀ k,Z3 m k=(qf k).map vi:=by
 rcases h with⟨rfl,h⟩|⟨r,m,rfl,h2,h3,h4⟩
 ·exact⟨[],rfl,by simp,fun k=>by rw[h k];rfl⟩
 ·exact⟨m,h2,h3,h4⟩
theorem mapQ.keep{mq:nM Nat}{m:List (Int×AV)}{S S':Store}(h:Go.Vx.mapQ mq m S)(k:∀ r l c,mq=some r->S.get r=some (.map l c)->S'.get r=some (.map l c)):Go.Vx.mapQ mq m S':=by
 cases mq with
 | none=>exact h
 | some r=>exact k r _ _ rfl h
theorem DE{P:nE}{t kt et:nF}{mq:nM Nat}{m:List (Int×AV)}{S:Store}{K:ZE->Store->Prop}(ht:P.underlying t=some (.map kt et))(h:Go.Vx.mapQ mq m S)(k:∀ b,Zm S b->K (.ret (.val (.pointer (some ⟨b,0,none⟩)))) ((b,itO mq m [])::S)):NZ P t (.val (.map mq)) S K:=by
 cases mq with
 | none=>exact .inr ⟨_,_,ht,rfl,k⟩
 | some r=>exact .inl ⟨r,_,_,_,_,ht,rfl,h,k⟩
theorem BF{mq:nM Nat}{m:List (Int×AV)}{S:Store}{b:Nat}{seen:List Nat}{K:ZE->Store->Prop}(h:Go.Vx.mapQ mq m S)(hb:S.get b=some (itO mq m seen))(h1:(∀ i,i<m.length->i∈seen)->K (.ret (.tup [.val (.bool false)])) S)
 (h2:∀ (i:Nat) (p:Int×AV),m[i]?=some p->i ∉ seen->K (.ret (.tup [.val (.bool true),vi p.1,p.2])) (S.set b (itO mq m (seen++[i])))):IF (.val (.pointer (some ⟨b,0,none⟩))) S K:=by
 cases mq with
 | none=>exact .inr ⟨b,rfl,hb,h1 (fun i hi=>by have:m=[]:=h;rw[this] at hi;simp at hi)⟩
 | some r =>
   refine .inl ⟨b,r,m.length,_,seen,rfl,hb,h,fun hall=>h1 (fun i hi=>hall _ (QC.2 ⟨i,m[i],iO hi,rfl⟩)),fun e he hne=>?_⟩
   obtain⟨i,p,hp,rfl⟩:=QC.1 he
   exact h2 i p hp hne
theorem DS{mq:nM Nat}{m:List (Int×AV)}{S:Store}{b:Nat}{seen:List Nat}{i:Nat}{p:Int×AV}{K:AV->Prop}(h:Go.Vx.mapQ mq m S)(hb:S.get b=some (itO mq m (seen++[i])))(hp:m[i]?=some p)(k:K (.tup [vi p.1,p.2])):N7 (.val (.pointer (some ⟨b,0,none⟩))) S K:=by
 cases mq with
 | none=>have:m=[]:=h;rw[this] at hp;simp at hp
 | some r=>exact⟨b,r,m.length,_,seen,(keI p.1,p.2,i),rfl,hb,h,QC.2 ⟨i,p,hp,rfl⟩,k⟩
structure GK (σ:Store) (bm:Nat) (gv0:AV) (S0:Store) (b11 b13 b14 bq Dm:Nat) (mq:Option Nat) (qf:QF) (tv:AV) (types:List Ty) (vo:AV) (gv:AV) (m:MSt) (cg co:List AV) (mo:AObj) (T:Nat->Prop) (S:Store):Prop where
 mkr:MK σ bm gv m S
 g11:S.get b11=some (.cells [vo])
 g13:S.get b13=some (.cells cg)
 g14:S.get b14=some (.cells co)
 gq:S.get bq=some mo
 gD:S.get Dm=some (.raw (.deferred (some [])))
 wt:MW σ 2 S tv (cI types)
 qm:QM S mq qf
 kp:Kp (mO bm gv0) (Or (mO bm gv) T) S0 S
 o11:¬ mO bm gv b11
 o13:¬ mO bm gv b13
 o14:¬ mO bm gv b14
 nt:∀ b,blk tv=some b->¬ mO bm gv b
 t13:blk tv≠some b13
 t14:blk tv≠some b14
 f13:Zm σ b13
 f14:Zm σ b14
 fq:Zm σ bq
 n13:NB (mO bm gv0) S0 b13
 n14:NB (mO bm gv0) S0 b14
 nq:NB (mO bm gv0) S0 bq
 d1113:b11≠b13
 d1114:b11≠b14
 d1314:b13≠b14
 mq':mq≠some bq
 ism:∃ l c,mo=.map l c
section
variable {σ:Store} {bm:Nat} {gv0:AV} {S0:Store} {b11 b13 b14 bq Dm:Nat} {mq:nM Nat} {qf:QF} {tv:AV} {types:List Ty} {vo:AV} {gv:AV} {m:MSt} {cg co:List AV} {mo:AObj} {T:Nat->Prop} {S:Store}
theorem GK.cons(h:GK σ bm gv0 S0 b11 b13 b14 bq Dm mq qf tv types vo gv m cg co mo T S){b:Nat}(hb:Zm S b)(x:AObj):GK σ bm gv0 S0 b11 b13 b14 bq Dm mq qf tv types vo gv m cg co mo T ((b,x)::S):=by
 have g:∀ k y,S.get k=some y->Store.get ((b,x)::S) k=some y:=fun k y hk=>by rw[Zg hb xC];exact hk
 exact{ h with mkr:=h.mkr.kc (.cons hb x) (h.mkr.has.cons _),g11:=g _ _ h.g11,g13:=g _ _ h.g13,g14:=g _ _ h.g14,gq:=g _ _ h.gq,gD:=g _ _ h.gD,wt:=h.wt.cell fun b' c _ hc=>g _ _ hc,qm:=h.qm.keep fun r m c hr=>g _ _ hr,kp:=h.kp.cons hb x }
theorem GK.app(h:GK σ bm gv0 S0 b11 b13 b14 bq Dm mq qf tv types vo gv m cg co mo T S){v v':AV}{sz:Nat}{es:List (List AV)}{T':Nat->Prop}{S':Store}(hv:LV σ S v sz es)(ht:Tn [] v v' S S')(hH:Has σ S')(hT:∀ k,Ym v=some k->T k)(hT':∀ k,T' k->T k\/Ym v'=some k) :
 GK σ bm gv0 S0 b11 b13 b14 bq Dm mq qf tv types vo gv m cg co mo T' S':=by
 have kk:=ht.kept hv
 have hk:Kp (mO bm gv0) (Or (mO bm gv) T') S0 S':=fun k x a b=>by
  exact qP
 obtain⟨l,c,rfl⟩:=id h.ism
 exact{ h with mkr:=h.mkr.kc (ht.kc hv) hH,g11:=kk _ _ h.g11 xf,g13:=kk _ _ h.g13 xf,g14:=kk _ _ h.g14 xf,gq:=kk _ _ h.gq xf,gD:=kk _ _ h.gD xf,wt:=h.wt.cell fun b' c _ hc=>kk _ _ hc xf,qm:=h.qm.keep fun r m c hr=>kk _ _ hr xf,kp:=hk }
theorem GK.sees(h:GK σ bm gv0 S0 b11 b13 b14 bq Dm mq qf tv types vo gv m cg co mo T S){S':Store}(g:Xl S S')(hH:Has σ S'):GK σ bm gv0 S0 b11 b13 b14 bq Dm mq qf tv types vo gv m cg co mo T S' :=
 { h with mkr:=h.mkr.kc (fun k c hk=>g _ _ hk) hH,g11:=g _ _ h.g11,g13:=g _ _ h.g13,g14:=g _ _ h.g14,gq:=g _ _ h.gq,gD:=g _ _ h.gD,wt:=h.wt.cell fun b' c _ hc=>g _ _ hc,qm:=h.qm.keep fun r m c hr=>g _ _ hr,kp:=fun k x a b=>by obtain⟨p,q⟩:=h.kp k x a b;exact⟨g _ _ p,q⟩ }
theorem GK.put13(h:GK σ bm gv0 S0 b11 b13 b14 bq Dm mq qf tv types vo gv m cg co mo T S)(cg':List AV):GK σ bm gv0 S0 b11 b13 b14 bq Dm mq qf tv types vo gv m cg' co mo T (S.set b13 (.cells cg')):=by
 obtain⟨l,c,rfl⟩:=id h.ism
 have g:∀ k y,k≠b13->S.get k=some y->(S.set b13 (.cells cg')).get k=some y:=fun k y hn hk=>by rw[Za hn];exact hk
 exact{ h with mkr:=h.mkr.at (fun b c hb hc=>g _ _ (fun e=>h.o13 yd) hc) (h.mkr.has.set h.f13 _),g11:=g _ _ h.d1113 h.g11,g13:=Zd h.g13,g14:=g _ _ h.d1314.symm h.g14,gq:=g _ _ (fun e=>by have:=h.gq;rw[e,h.g13] at this;cases this) h.gq,gD:=g _ _ (fun e=>by have:=h.gD;rw[e,h.g13] at this;cases this) h.gD,wt:=h.wt.cell fun b' c hb hc=>g _ _ (fun e=>h.t13 yd) hc,qm:=h.qm.keep fun r m c hr=>g _ _ (fun e=>by rw[e,h.g13] at hr;cases hr) hr,kp:=h.kp.setN h.n13 _ }
theorem GK.put14(h:GK σ bm gv0 S0 b11 b13 b14 bq Dm mq qf tv types vo gv m cg co mo T S)(co':List AV):GK σ bm gv0 S0 b11 b13 b14 bq Dm mq qf tv types vo gv m cg co' mo T (S.set b14 (.cells co')):=by
 obtain⟨l,c,rfl⟩:=id h.ism
 have g:∀ k y,k≠b14->S.get k=some y->(S.set b14 (.cells co')).get k=some y:=fun k y hn hk=>by rw[Za hn];exact hk
 exact{ h with mkr:=h.mkr.at (fun b c hb hc=>g _ _ (fun e=>h.o14 yd) hc) (h.mkr.has.set h.f14 _),g11:=g _ _ h.d1114 h.g11,g13:=g _ _ h.d1314 h.g13,g14:=Zd h.g14,gq:=g _ _ (fun e=>by have:=h.gq;rw[e,h.g14] at this;cases this) h.gq,gD:=g _ _ (fun e=>by have:=h.gD;rw[e,h.g14] at this;cases this) h.gD,wt:=h.wt.cell fun b' c hb hc=>g _ _ (fun e=>h.t14 yd) hc,qm:=h.qm.keep fun r m c hr=>g _ _ (fun e=>by rw[e,h.g14] at hr;cases hr) hr,kp:=h.kp.setN h.n14 _ }
theorem GK.putq(h:GK σ bm gv0 S0 b11 b13 b14 bq Dm mq qf tv types vo gv m cg co mo T S)(l':List (nG×AV×Nat))(c':Nat):GK σ bm gv0 S0 b11 b13 b14 bq Dm mq qf tv types vo gv m cg co (.map l' c') T (S.set bq (.map l' c')):=by
 obtain⟨l,c,rfl⟩:=id h.ism
 have g:∀ k y,(∀ l c,y≠.map l c)->S.get k=some y->(S.set bq (.map l' c')).get k=some y:=fun k y hn hk=>by rw[Za (fun e=>by rw[e,h.gq] at hk;injection hk with hk;exact hn _ _ hk.symm)];exact hk
 exact{ h with mkr:=h.mkr.kc (fun k c hk=>g _ _ xf hk) (h.mkr.has.set h.fq _),g11:=g _ _ xf h.g11,g13:=g _ _ xf h.g13,g14:=g _ _ xf h.g14,gq:=Zd h.gq,gD:=g _ _ xf h.gD,wt:=h.wt.cell fun b' c hb hc=>g _ _ xf hc,qm:=h.qm.set h.mq' _,kp:=h.kp.setN h.nq _,ism:=⟨_,_,rfl⟩ }
theorem GK.iter(h:GK σ bm gv0 S0 b11 b13 b14 bq Dm mq qf tv types vo gv m cg co mo T S){b:Nat}{a:nM Nat}{x y:Nat}{z:List Nat}(hb:S.get b=some (.iter a x z y))(hf:Zm σ b)(hn:NB (mO bm gv0) S0 b)(X:AObj):GK σ bm gv0 S0 b11 b13 b14 bq Dm mq qf tv types vo gv m cg co mo T (S.set b X):=by
 have g:∀ k y,(∀ a x z w,y≠.iter a x z w)->S.get k=some y->(S.set b X).get k=some y:=fun k y hn hk=>by rw[Za (fun e=>by rw[e,hb] at hk;injection hk with hk;exact hn _ _ _ _ hk.symm)];exact hk
 obtain⟨l,c,rfl⟩:=id h.ism
 exact{ h with mkr:=h.mkr.kc (fun k c hk=>g _ _ xf hk) (h.mkr.has.set hf _),g11:=g _ _ xf h.g11,g13:=g _ _ xf h.g13,g14:=g _ _ xf h.g14,gq:=g _ _ xf h.gq,gD:=g _ _ xf h.gD,wt:=h.wt.cell fun b' c hb hc=>g _ _ xf hc,qm:=h.qm.keep fun r m c hr=>g _ _ xf hr,kp:=h.kp.setN hn _ }
theorem GK.call(h:GK σ bm gv0 S0 b11 b13 b14 bq Dm mq qf tv types vo gv m cg co mo T S){gv':AV}{m':MSt}{S':Store}(hm:MK σ bm gv' m' S')(k:Kp (mO bm gv) (mO bm gv') S S'):GK σ bm gv0 S0 b11 b13 b14 bq Dm mq qf tv types vo gv' m' cg co mo T S':=by
 obtain⟨l,c,rfl⟩:=id h.ism
 have oc:∀ b x,(∀ c,x≠.cells c)->S.get b=some x->¬ mO bm gv b:=fun b x hx hb e=>by obtain⟨c,hc⟩:=h.mkr.own b e;rw[hb] at hc;injection hc with hc;exact hx _ hc
 obtain⟨w1,w2⟩:=h.wt.kp k h.nt
 exact{ h with mkr:=hm,g11:=(k _ _ h.g11 h.o11).1,g13:=(k _ _ h.g13 h.o13).1,g14:=(k _ _ h.g14 h.o14).1,gq:=(k _ _ h.gq (oc _ _ xf h.gq)).1,gD:=(k _ _ h.gD (oc _ _ xf h.gD)).1,wt:=w1,qm:=h.qm.kp k h.mkr.own,kp:=h.kp.call k,o11:=(k _ _ h.g11 h.o11).2,o13:=(k _ _ h.g13 h.o13).2,o14:=(k _ _ h.g14 h.o14).2,nt:=w2 }
theorem GK.tip(h:GK σ bm gv0 S0 b11 b13 b14 bq Dm mq qf tv types vo gv m cg co mo T S){T':Nat->Prop}(hT:∀ k,T' k->T k):GK σ bm gv0 S0 b11 b13 b14 bq Dm mq qf tv types vo gv m cg co mo T' S :=
 { h with kp:=h.kp.imp (fun _ _ e=>e) (fun k e=>e.imp id (hT k)) }
end
end Go.Vx
