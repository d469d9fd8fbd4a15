/- A part of the proof of clausalSpinesProved. -/
import Derived.Test.YtllgjklcpieanaaGreatDoorR17
import Derived.Test.YtllgjklcpieanaaGreatDoorR19
import Derived.Test.YtllgjklcpieanaaGreatDoorR14
import Derived.Test.YtllgjklcpieanaaGreatDoorR16
import Derived.Test.YtllgjklcpieanaaGreatDoorR21
import Derived.Test.YtllgjklcpieanaaGreatDoorR22
set_option linter.unusedVariables false
set_option linter.unusedSimpArgs false
set_option maxRecDepth 100000
section
namespace Go.Vx
open Go.Proofs Go.RowKit
def Xw(ok:Str->Bool):List Str->List (Str×AV)->Bool
 | [],_=>true
 | s::r,met=>if(Z3 met s).isSome || !ok s then false else Xw ok r (putA met s (vb true))
def N9(m:List (Str×AV)):Prop:=∀ e∈m,e.2=vb true
theorem N9.put{m:List (Str×AV)}(h:N9 m)(k:Str):N9 (putA m k (vb true)):=by
 intro e he
 unfold putA at he
 split at he
 ·obtain⟨x,hx,rfl⟩:=List.mem_map.1 he
  split
  ·rfl
  ·exact h x hx
 ·rcases List.mem_append.1 he with he|he
  ·exact h e he
  ·rw[List.mem_singleton.1 he]
theorem N9.look{m:List (Str×AV)}(h:N9 m)(k:Str):Z3 m k=if(Z3 m k).isSome then some (vb true) else none:=by
 unfold Z3
 cases hf:m.find? (fun e=>decide (e.1=k)) with
 | none=>rfl
 | some e=>simp[h e (mP hf)]
theorem bC:(Yf nC 40=some 9)/\(ZB nC 9=some 1)/\(ZF nC 9=some false)/\(nC.underlying 315=some (.map 9 4))/\(nC.underlying 9=some .string)/\(Zy nC 4=some (.bool false))/\(nC.underlying 40=some (.slice 9)):=by
 refine⟨?_,?_,?_,?_,?_,?_,?_⟩<;>first|trivial|kernel_rfl
theorem Vf(g:nL)(ok:Str->Bool)(hg:∀ s,Pur nC g [vs s] (vb (ok s)))(l:List Str)(rt:Rt)(sz:Nat)(hs:sz=1\/l=[])(hl:l.length<=137438953472):Pur nC 245 [.list rt sz (ZX l),.val (.func (.func g) #[] #[])] (vb (Xw ok l [])):=by
 intro σ
 have hsl:(ZX l).length=l.length:=by simp[ZX]
 refine Zb [] [] Tryz.func245 rfl xy ?_;rw[Tryz.ntmps245,Tryz.results245]
 refine uw ?_
 intro r1 hr1
 refine uw ?_
 rw[show([]:List (nG×AV×Nat))=ZS keS (Xn ([]:List (Str×AV))) from rfl]
 refine Zp (mu:=[]) (dr:=[]) [4,7,11,12,13,14,15,16,17,18,19,20,21,22,23,24,25,26] (fun x:Nat×List (Str×AV)=>[(11,vi x.1)]) (fun x=>(r1,.map (ZS keS (Xn x.2)) x.2.length)::σ)
  (fun x=>x.1<=l.length/\N9 x.2/\Xw ok l []=Xw ok (l.drop x.1) x.2) (fun x=>l.length-x.1) (0,[]) xy ⟨by simp,by intro e he;simp at he,rfl⟩ ⟨.refl _,trivial⟩ (.refl _) ?_
 rintro⟨i,m⟩ ⟨hi,hA,hx⟩
 dsimp only at hi hA hx
 by_cases hi2:(i:Int)<(l.length:Int)
 ·have x1:=iS hi2
  refine uB fun x0=>?_
  refine uG fun a ha=>?_
  have g0:(ZX l)[i]?=some [vs a]:=by rw[ZX,jp,ha];rfl
  refine uz fun w3=>?_
  have hsz:sz=1:=hs.resolve_right (fun e=>by rw[e] at hi2;simp at hi2;omega)
  subst hsz
  have hd:Xw ok (l.drop i) m=if(Z3 m a).isSome || !ok a then false else Xw ok (l.drop (i+1)) (putA m a (vb true)):=by rw[drop_at ha];rfl
  rw[hd] at hx
  try simp only[go_sem,seval,hsl,x0,x1,g0,iT,iF,jq,jr,jt]
  obtain⟨_,_,_,tm,ts,tz,_⟩:=bC
  refine Tg (z:=.bool false) tm ts tz (Ze _ _ _) ?_
  rw[Oo,WW,hA.look a]
  by_cases hin:(Z3 m a).isSome=true
  ·have hf:Xw ok l []=false:=by rw[hx,hin];simp
   rw[gZ hin,hf]
   try simp only[go_sem,seval,ko]
   exact oW
  ·have hin2:(Z3 m a).isSome=false:=by simpa using hin
   rw[hin2,ja] at hx
   rw[ig hin]
   try simp only[go_sem,seval,kr]
   refine(hg a).use ?_
   cases hok:ok a with
   | false =>
     have hf:Xw ok l []=false:=by rw[hx,hok];simp
     rw[hf]
     exact tT
   | true =>
     rw[hok] at hx
     simp only[jA,me,lJ] at hx
     refine uw ?_
     refine Vv (l:=Xn m) (c:=m.length) tm ts (Ze _ _ _) ?_
     obtain⟨u1,u2⟩:=VK m a (vb true)
     rw[u1,u2,Yo]
     refine vF ?_
     exact .mk (i+1,putA m a (vb true)) ⟨by dsimp only;omega,hA.put a,hx⟩ xX ⟨.refl _,trivial⟩ yS (.refl _)
 ·have x1:=iU hi2
  rw[jD xh] at hx
  have hf:Xw ok l []=true:=hx
  rw[hf]
  try simp only[go_sem,seval,hsl,x1,iV]
  exact oW
end Go.Vx
end
section
namespace Go.Vx
open Go.Proofs Go.RowKit
mutual
def YN(has:Str->Bool):Ty->Bool
 | .mk s l=>if s=WG then Ej has l else l.isEmpty&&has s
def Ej(has:Str->Bool):List Ty->Bool
 | [a,b]=>YN has a&&YN has b
 | _=>false
end
theorem bz:(ZG nC 54 0=some 0)/\(ZB nC 9=some 1)/\(ZF nC 9=some false)/\(ZG nC 54 1=some 1)/\(ZB nC 22=some 1)/\(ZF nC 22=some false)/\(Yf nC 22=some 54)/\(ZB nC 54=some 2)/\(ZF nC 54=some true)/\(ZG nC 320 0=some 0)/\(ZB nC 315=some 1)/\(ZF nC 315=some false)/\(nC.underlying 315=some (.map 9 4))/\(nC.underlying 9=some .string)/\(Zy nC 4=some (.bool false))/\(nC.underlying 22=some (.slice 54)):=by
 refine⟨?_,?_,?_,?_,?_,?_,?_,?_,?_,?_,?_,?_,?_,?_,?_,?_⟩<;>first|trivial|kernel_rfl
theorem QP(jb r0:Nat)(c1 c2 c3 c4:AV)(mt:List (Str×AV))(hA:N9 mt)(σ:Store)(g:σ.get jb=some (.cells [.val (.map (some r0)),c1,c2,c3,c4]))(g0:σ.get r0=some (.map (ZS keS (Xn mt)) mt.length)) :
 ∀ t:Ty,Zh nC 279 [.val (.pointer (some ⟨jb,0,none⟩)),.agg t.emb] σ (ZP (vb (YN (fun s=>(Z3 mt s).isSome) t)) σ):=by
 intro t
 induction t using eC with|h s l ih=>?_
 simp only[cQ]
 obtain⟨_,_,_,_,_,_,_,_,_,_,_,_,tm,ts,tz,_⟩:=bz
 refine Zb [] [(3,11,0)] Tryz.func279 rfl xy ?_;rw[Tryz.ntmps279,Tryz.results279]
 by_cases hs:s=WG
 ·have x1:(s={ data:=#[45,62] })=True:=iS hs
  by_cases h2:l.length=2
  ·obtain⟨a,b,rfl⟩:∃ a b,l=[a,b]:=by
    match l,h2 with
    | [a,b],_=>exact⟨a,b,rfl⟩
   have e:YN (fun s=>(Z3 mt s).isSome) (.mk s [a,b])=(YN (fun s=>(Z3 mt s).isSome) a&&YN (fun s=>(Z3 mt s).isSome) b):=by
    simp only[YN,gZ hs,Ej]
   rw[e]
   have ia:=ih a xf
   have ib:=ih b xf
   generalize YN (fun s=>(Z3 mt s).isSome) a=ba at ia
   generalize YN (fun s=>(Z3 mt s).isSome) b=bb at ib
   have y1:(((cI [a,b]).length:Int)=2)=True:=iS (by simp[cI])
   have q0:(cI [a,b])[0]?=some a.emb:=rfl
   have q1:(cI [a,b])[1]?=some b.emb:=rfl
   have q2:((cI [a,b]).length)=2:=by simp[cI]
   obtain⟨sa,la⟩:=a
   obtain⟨sb,lb⟩:=b
   simp only[cQ] at q0 q1 ia ib
   try simp only[go_sem,seval,x1,y1,q0,q1,q2,iT,jq,jr,jt]
   refine ia.mono ?_
   rintro r σ' ⟨rfl,rfl⟩
   cases ba with
   | false =>
     exact oG
   | true =>
     try simp only[go_sem,seval,q0,q1,q2,jq,jr,jt]
     refine ib.mono ?_
     rintro r σ' ⟨rfl,rfl⟩
     exact oP
  ·have e:YN (fun s=>(Z3 mt s).isSome) (.mk s l)=false:=by
    simp only[YN,gZ hs]
    match l,h2 with
    | [],_=>rfl
    | [a],_=>rfl
    | [a,b],h=>exact absurd rfl h
    | a::b::c::r,_=>rfl
   rw[e]
   have y1:((l.length:Int)=2)=False:=iU xh
   try simp only[go_sem,seval,x1,y1,cG,iT,iV]
   exact Zl
 ·have x1:(s={ data:=#[45,62] })=False:=iU hs
  have e:YN (fun s=>(Z3 mt s).isSome) (.mk s l)=(l.isEmpty&&(Z3 mt s).isSome):=by simp only[YN,ig hs]
  rw[e]
  by_cases h0:l.length=0
  ·obtain rfl:=List.eq_nil_of_length_eq_zero h0
   have y1:(((cI []).length:Int)=0)=True:=iS (by simp[cI])
   try simp only[go_sem,seval,x1,y1,g,iT,iV]
   refine Tg (z:=.bool false) tm ts tz g0 ?_
   rw[Oo,WW,hA.look s]
   cases hin:(Z3 mt s).isSome with
   | true =>
     try simp only[go_sem,seval,ko,iE]
     exact Zs xf
   | false =>
     try simp only[go_sem,seval,kr,me,lJ]
     exact Zs xf
  ·have y1:((l.length:Int)=0)=False:=iU xh
   have e2:l.isEmpty=false:=by cases l with|nil=>exact absurd rfl h0|cons a r=>rfl
   rw[e2]
   try simp only[go_sem,seval,x1,y1,cG,iT,iV]
   exact Zl
open Go.Proofs Go.RowKit
theorem LN{P:nE}{g:nL}{fn:Func}{c:Code}{cap:List nG}{u:FrameMode}{σ:Store}{K:Store->Prop}(hf:P.funcs[g]?=some fn)(hb:fn.body=some c)(hres:fn.results=#[])
 (hchk:(decide (cap.length<=fn.ntmps)&&YV P g)=true) (h:AWp P fn.ntmps [] c (HC K) (Fr.args (cap.map .val)) σ):Vl P g cap u u σ K:=by
 simp only[kJ,kD] at hchk
 obtain⟨h3,h4⟩:=hchk
 refine⟨h4,fun w hσ=>?_⟩
 refine(callsD_of_wp (R:=fun e w'=>(∃ v,e=.returned v)/\∃ σ',K σ'/\Zq σ' w'/\Ev σ w σ' w') hf hb ?_).mono (fun e u' w' hh=>⟨hh.2.1,hh.1,hh.2.2⟩)
 have hargs:XM fn.ntmps (live σ) w (Fr.args (cap.map .val)) (cap.toArray++Array.replicate (fn.ntmps-cap.toArray.size) undef):=by
  exact oF
 refine(mF (n:=0)).1 (h { tmps:=cap.toArray++Array.replicate (fn.ntmps-cap.toArray.size) undef,defers:=[] } w ⟨rfl,hargs,hσ⟩ _ (fun e fr2 σ2 a2 w2 q2 c2 v2=>?_) none 0)
 have hrs:∃ v,(results fn a2.tmps).run P w2=.ok v w2:=by
  refine⟨.tuple #[],?_⟩
  unfold results
  rw[hres]
  simp
 obtain⟨v,hv⟩:=hrs
 cases e with
 | normal=>obtain⟨σ3,s3,q3⟩:=q2;exact⟨c2.defers,v,hv,⟨v,rfl⟩,σ3,q3,c2.ok.sub s3,v2.trans (s3.ev _)⟩
 | ret=>obtain⟨σ3,s3,q3⟩:=q2;exact⟨c2.defers,v,hv,⟨v,rfl⟩,σ3,q3,c2.ok.sub s3,v2.trans (s3.ev _)⟩
 | exit i=>exact q2.elim
 | goto l=>exact q2.elim
 | panic ch=>exact q2.elim
 | outgrown=>exact q2.elim
theorem YJ{S:Store}{k:Nat}:Zm S k↔S.get k=none:=by
 refine⟨Zj,fun h=>?_⟩
 induction S with
 | nil=>trivial
 | cons p r ih =>
   obtain⟨b,x⟩:=p
   simp only[Store.get] at h
   by_cases e:b=k
   ·rw[gZ e] at h;cases h
   ·rw[ig e] at h;exact⟨e,ih h⟩
structure Plc where
 ty:Ty
 chosen:Bool
def Plc.emb(p:Plc):List AV:=p.ty.emb++[vb p.chosen]
def dF(l:List Plc):List (List AV):=l.map Plc.emb
theorem eE(s:Str)(l:List Ty)(b:Bool):Plc.emb ⟨.mk s l,b⟩=[vs s,.list .none 2 (cI l),vb b]:=rfl
theorem Plc.emb_len(p:Plc):p.emb.length=3:=by obtain⟨⟨s,l⟩,b⟩:=p;rfl
theorem Plc.flen(l:List Plc):(dF l).flatten.length=l.length * 3:=by
 induction l with
 | nil=>rfl
 | cons a r ih=>rw[dF,iR,mn,ii,a.emb_len];rw[dF] at ih;rw[ih,ij];omega
theorem Plc.one(l:List Plc):(dF l).flatten.all AV.one=true:=by
 induction l with
 | nil=>rfl
 | cons a r ih =>
   obtain⟨⟨s,l⟩,b⟩:=a
   rw[dF,iR,mn,mQ];rw[dF] at ih;rw[ih];rfl
def EV(e:nM Nat)(env:List Plc)(S:Store)(v:AV):Prop :=
 (e=none/\env=[]/\v=.list .full 0 [])\/∃ b cap rest,e=some b/\v=.val (.slice (some ⟨b,0,none⟩) env.length cap)/\S.get b=some (.cells ((dF env).flatten++rest))/\env.length * 3+rest.length=cap * 3/\env.length<=cap
structure Jd where
 σ0:Store
 jb:Nat
 r0:Nat
 r1:Nat
 r2:Nat
 mt:List (Str×AV)
 mc:List (Str×AV)
 mp:List (Str×AV)
 hasT:Str->Bool
 cT:Str->nM Ty
 pP:Str->nM Pd
structure JS (D:Jd) (vars:List Nt) (e:Option Nat) (env:List Plc) (S:Store):Prop where
 gj:∃ v va,S.get D.jb=some (.cells [.val (.map (some D.r0)),.val (.map (some D.r1)),.val (.map (some D.r2)),va,v])/\EV e env S v/\((va=.list .none 3 (cZ vars))\/(va=.list .full 0 []/\vars=[]))
 g0:S.get D.r0=some (.map (ZS keS (Xn D.mt)) D.mt.length)
 g1:S.get D.r1=some (.map (ZS keS (Xn D.mc)) D.mc.length)
 g2:S.get D.r2=some (.map (ZS keS (Xn D.mp)) D.mp.length)
 lt:N9 D.mt/\∀ s,(Z3 D.mt s).isSome=D.hasT s
 lc:∀ s,Z3 D.mc s=(D.cT s).map fun t=>.agg t.emb
 lp:∀ s,Z3 D.mp s=(D.pP s).map fun d=>.agg d.emb
 nej:e≠some D.jb
 fj:Zm D.σ0 D.jb
 fe:∀ b,e=some b->Zm D.σ0 b
 has:Has D.σ0 S
structure Stp (jb:Nat) (e e':Option Nat) (S S':Store):Prop where
 keep:∀ k x,S.get k=some x->k≠jb->e≠some k->S'.get k=some x
 new:e'=e\/∃ b,e'=some b/\Zm S b
 dom:∀ k,(S.get k).isSome=true->(S'.get k).isSome=true
theorem Stp.refl(jb:Nat)(e:nM Nat)(S:Store):Stp jb e e S S:=⟨fun _ _ h _ _=>h,.inl rfl,fun _ h=>h⟩
theorem Stp.trans{jb:Nat}{e e1 e2:nM Nat}{S S1 S2:Store}(h:Stp jb e e1 S S1)(k:Stp jb e1 e2 S1 S2):Stp jb e e2 S S2:=by
 refine⟨fun i x hi h1 h2=>k.keep i x (h.keep i x hi h1 h2) h1 ?_,?_,fun i hi=>k.dom i (h.dom i hi)⟩
 ·rcases h.new with q|⟨b,q,hb⟩
  ·rw[q];exact h2
  ·rw[q];intro q2;injection q2 with q2;rw[q2,YJ] at hb;rw[hb] at hi;cases hi
 ·rcases k.new with q|⟨b,q,hb⟩
  ·rw[q];exact h.new
  ·refine .inr ⟨b,q,YJ.2 ?_⟩
   have:=YJ.1 hb
   cases hs:S.get b with
   | none=>rfl
   | some x=>have:=h.dom b (by rw[hs];rfl);rw[YJ.1 hb] at this;cases this
theorem Stp.cons{jb:Nat}{e:nM Nat}{S:Store}{k:Nat}(hk:Zm S k)(x:AObj):Stp jb e e S ((k,x)::S) :=
 ⟨fun i y hi _ _=>by rw[Zg hk (by rw[hi];rfl)];exact hi,.inl rfl,fun i hi=>by
  cases hs:S.get i with
  | none=>rw[hs] at hi;cases hi
  | some y=>rw[Zg hk (by rw[hs];rfl),hs];rfl⟩
theorem JS.ne{D:Jd}{vars:List Nt}{e:nM Nat}{env:List Plc}{S:Store}(h:JS D vars e env S){k:Nat}(hk:Zm S k):k≠D.jb/\e≠some k:=by
 obtain⟨v,va,g,hv,_⟩:=h.gj
 refine⟨fun q=>(by rw[q,YJ] at hk;rw[hk] at g;cases g),fun q=>?_⟩
 rcases hv with⟨q2,_⟩|⟨b,cap,rest,q2,_,g2,_⟩
 ·rw[q2] at q;cases q
 ·rw[q2] at q;injection q with q;rw[<- q,YJ] at hk;rw[hk] at g2;cases g2
theorem JS.cons{D:Jd}{vars:List Nt}{e:nM Nat}{env:List Plc}{S:Store}(h:JS D vars e env S){k:Nat}(hk:Zm S k)(x:AObj):JS D vars e env ((k,x)::S):=by
 have kp:∀ (c:Nat) (y:AObj),S.get c=some y->Store.get ((k,x)::S) c=some y:=fun c y hy=>by rw[Zg hk xE];exact hy
 obtain⟨v,va,g,hv,hva⟩:=h.gj
 refine{ h with gj:=⟨v,va,kp _ _ g,?_,hva⟩,g0:=kp _ _ h.g0,g1:=kp _ _ h.g1,g2:=kp _ _ h.g2,has:=h.has.cons _ }
 rcases hv with q|⟨b,cap,rest,q1,q2,q3,q4⟩
 ·exact .inl q
 ·exact .inr ⟨b,cap,rest,q1,q2,kp _ _ q3,q4⟩
open Go.Proofs Go.RowKit
theorem bx:(ZB nC 295=some 1)/\(ZF nC 295=some false)/\(ZG nC 320 4=some 4)/\(ZB nC 318=some 1)/\(ZF nC 318=some false)/\(ZB nC 330=some 3)/\(ZF nC 330=some true)/\(Yf nC 318=some 330)/\(Zy nC 330=some (.agg #[(.string ⟨#[]⟩),(.slice none 0 0),(.bool false)]))/\(ZY nC 330=some 48):=by
 refine⟨?_,?_,?_,?_,?_,?_,?_,?_,?_,?_⟩<;>first|trivial|kernel_rfl
theorem IL(D:Jd)(vars:List Nt)(e:nM Nat)(env:List Plc)(p:Plc)(S:Store)(b3:Nat)(u:FrameMode)(K:Store->Prop)(h:JS D vars e (env++[p]) S)(g3:S.get b3=some (.cells [.val (.pointer (some ⟨D.jb,0,none⟩))]))(hl:env.length<1000000)
 (hK:∀ S',JS D vars e env S'->Stp D.jb e e S S'->K S'):Vl nC 303 [.pointer (some ⟨b3,0,none⟩)] u u S K:=by
 obtain⟨v,va,g,hv,hva⟩:=h.gj
 rcases hv with⟨_,q,_⟩|⟨b,cap,rest,he,rfl,gb,hc1,hc2⟩
 ·simp at q
 simp only[ii,ij,im,jG] at g hc1 hc2
 have hgo:K (S.set D.jb (.cells [.val (.map (some D.r0)),.val (.map (some D.r1)),.val (.map (some D.r2)),va,.val (.slice (some ⟨b,0,none⟩) env.length cap)])):=by
  have nb:b≠D.jb:=fun q=>h.nej (by rw[he,q])
  refine xc fun kp=>?_
  refine hK _ { h with gj:=⟨_,va,Zd g,.inr ⟨b,cap,p.emb++rest,he,rfl,?_,?_,by omega⟩,hva⟩,g0:=kp _ _ _ h.g0 ?_,g1:=kp _ _ _ h.g1 ?_,g2:=kp _ _ _ h.g2 ?_,has:=h.has.set h.fj _ } ⟨fun k x hx h1 _=>kp _ _ _ hx h1,.inl rfl,fun k hk=>?_⟩
  ·rw[Za nb,gb];simp[dF]
  ·rw[ii,p.emb_len];omega
  ·intro q;have:=h.g0;rw[q,g] at this;cases this
  ·intro q;have:=h.g1;rw[q,g] at this;cases this
  ·intro q;have:=h.g2;rw[q,g] at this;cases this
  ·by_cases q:k=D.jb
   ·rw[q,Zd g];rfl
   ·rw[Za q];exact hk
 have w1:IntKind.i64.wrap (((env.length+1:Nat):Int)-1)=(env.length:Int):=Zk xh xh |>.trans xh
 refine LN Tryz.func303 rfl rfl xy ?_
 rw[Tryz.ntmps303]
 refine Zn (mu:=[]) (dr:=[(0,12,0)]) xy _ xy _ _ _ ?_
 try simp only[go_sem,seval,g3,g,w1,jX]
 exact⟨by omega,by omega,_,.refl _,by rw[iF];exact hgo⟩
theorem JS.app{D:Jd}{vars:List Nt}{e:nM Nat}{env:List Plc}{S:Store}(h:JS D vars e env S){v va:AV}(g:S.get D.jb=some (.cells [.val (.map (some D.r0)),.val (.map (some D.r1)),.val (.map (some D.r2)),va,v])){P:nE}{sT xT el by_:Nat}{z:nG}{p:Plc}{rt:Rt}{K:AV->Store->Prop}
 (h1:Yf P sT=some el) (h2:ZB P el=some 3) (h3:Zy P el=some z) (h4:ZY P el=some by_) (h5:(Yf P xT).isSome=true) (h6:z.cells.size=3) (h7:by_<=512) (hl:env.length<1000000)
 (kk:∀ v' e' S',S'.get D.jb=some (.cells [.val (.map (some D.r0)),.val (.map (some D.r1)),.val (.map (some D.r2)),va,v])->v'.one=true->v'.cells=some [v'] ->
  JS D vars e' (env++[p]) (S'.set D.jb (.cells [.val (.map (some D.r0)),.val (.map (some D.r1)),.val (.map (some D.r2)),va,v']))->Stp D.jb e e' S (S'.set D.jb (.cells [.val (.map (some D.r0)),.val (.map (some D.r1)),.val (.map (some D.r2)),va,v']))->K v' S'):TJ P sT xT v (.list rt 3 [p.emb]) S K:=by
 obtain⟨v0,va0,g',hv,hva⟩:=h.gj
 rw[g] at g'
 simp only[jq,AObj.cells.injEq,lR,jt,and_true] at g'
 obtain⟨rfl,rfl⟩:=g'
 have fin:∀ (v':AV) (e':nM Nat) (S':Store),(∀ k x,S.get k=some x->e≠some k->S'.get k=some x)->EV e' (env++[p]) S' v'->(e'=e\/∃ b,e'=some b/\Zm S b)->(∀ k,(S.get k).isSome=true->(S'.get k).isSome=true)->Has D.σ0 S'->v'.one=true->v'.cells=some [v']->K v' S':=by
  intro v' e' S' kp hv' hn hd hH o1 o2
  have gj':=kp _ _ g h.nej
  have ne0:∀ b,e=some b->∀ (r:Nat) (m:List (nG×AV×Nat)) (c:Nat),S.get r=some (.map m c)->e≠some r:=by
   intro b hb r m c hr q
   rcases hv with⟨q2,_⟩|⟨b2,cap,rest,q2,_,q3,_⟩
   ·rw[q2] at q;cases q
   ·rw[q2] at q;injection q with q;rw[q,hr] at q3;cases q3
  have ne1:∀ (r:Nat) (m:List (nG×AV×Nat)) (c:Nat),S.get r=some (.map m c)->e≠some r:=fun r m c hr=>by
   cases he:e with
   | none=>simp
   | some b=>rw[<- he];exact ne0 b he r m c hr
  have nj:∀ (r:Nat) (m:List (nG×AV×Nat)) (c:Nat),S.get r=some (.map m c)->r≠D.jb:=fun r m c hr q=>by rw[q,g] at hr;cases hr
  have kp2:∀ (r:Nat) (m:List (nG×AV×Nat)) (c:Nat) (y:AObj),S.get r=some (.map m c)->(S'.set D.jb y).get r=some (.map m c):=fun r m c y hr=>by rw[Za (nj r m c hr)];exact kp _ _ hr (ne1 r m c hr)
  have nej':e'≠some D.jb:=by
   rcases hn with q|⟨b,q,hb⟩
   ·rw[q];exact h.nej
   ·rw[q];intro q2;injection q2 with q2;rw[q2,YJ] at hb;rw[hb] at g;cases g
  refine kk v' e' S' gj' o1 o2 { h with gj:=⟨v',va,Zd gj',?_,hva⟩,g0:=kp2 _ _ _ _ h.g0,g1:=kp2 _ _ _ _ h.g1,g2:=kp2 _ _ _ _ h.g2,nej:=nej',fe:=?_,has:=hH.set h.fj _ } ⟨fun k x hx h1 h2=>by rw[Za h1];exact kp _ _ hx h2,hn,fun k hk=>?_⟩
  ·rcases hv' with q|⟨b,cap,rest,q1,q2,q3,q4⟩
   ·exact .inl q
   ·exact .inr ⟨b,cap,rest,q1,q2,by rw[Za (fun q=>nej' (by rw[q1,q]))];exact q3,q4⟩
  ·intro b hb
   rcases hn with q|⟨b2,q,hb2⟩
   ·exact h.fe b (by rw[<- q,hb])
   ·rw[q] at hb;injection hb with hb;rw[<- hb];exact h.has.fresh hb2
  ·by_cases q:k=D.jb
   ·rw[q,Zd gj'];rfl
   ·rw[Za q];exact hd k hk
 have fcons:∀ (b:Nat) (x:AObj),Zm S b->∀ k,(S.get k).isSome=true->(Store.get ((b,x)::S) k).isSome=true:=fun b x hb k hk=>by rw[Zg hb hk];exact hk
 unfold TJ
 rw[h1]
 simp only[h2,h3,h4]
 refine⟨h5,h6,h7,.inl trivial,by simp[p.emb_len],?_⟩
 rcases hv with⟨he,rfl,rfl⟩|⟨b,cap,rest,he,rfl,gb,hc1,hc2⟩
 ·simp only
  refine⟨by simp[lim],by simp,by simp,fun q=>by simp at q,fun _ b nc zs hb hnc hzs=>?_⟩
  refine fin _ (some b) _ (fun k x hx _=>by rw[Zg hb (by rw[hx];rfl)];exact hx) (.inr ⟨b,nc,zs,rfl,by simp,by rw[Ze];simp[dF],?_,by simpa using hnc⟩) (.inr ⟨b,rfl,hb⟩) (fcons b _ hb) (h.has.cons _) rfl rfl
  simp at hzs hnc ⊢;omega
 ·simp only
  have htk:((dF env).flatten++rest).take (env.length * 3)=(dF env).flatten:=by rw[<- Plc.flen env,mD (kO _),List.take_length]
  refine⟨_,gb,by rw[ii,Plc.flen];exact hc1,hc2,by simp only[lim,ij,im];omega,?_,by rw[htk];exact Plc.one env,fun hfit=>?_,fun hno b' nc zs hb' hnc hzs=>?_⟩
  ·have:=Plc.one [p];simpa[dF] using this
  ·have hfit':env.length+1<=cap:=by simpa using hfit
   refine fin _ e _ (fun k x hx hk=>by rw[Za (fun q=>hk (by rw[he,q]))];exact hx) (.inr ⟨b,cap,rest.drop 3,he,by simp,?_,by rw[ii,iP];simp;omega,by simpa using hfit'⟩) (.inl rfl) (fun k hk=>?_) (h.has.set (h.fe b he) _) rfl rfl
   ·rw[Zd gb]
    have:Yn ((dF env).flatten++rest) (env.length * 3) [p.emb].flatten=(dF (env++[p])).flatten++rest.drop 3:=by
     unfold Yn
     rw[htk,<- Plc.flen env,List.drop_append]
     have hp:[p.emb].flatten.length=3:=by simp[p.emb_len]
     rw[hp]
     simp[dF]
    rw[this]
   ·by_cases q:k=b
    ·rw[q,Zd gb];rfl
    ·rw[Za q];exact hk
  ·have hnc':env.length+1<=nc:=by simpa using hnc
   refine fin _ (some b') _ (fun k x hx _=>by rw[Zg hb' (by rw[hx];rfl)];exact hx) (.inr ⟨b',nc,zs,rfl,by simp,?_,?_,by simpa using hnc'⟩) (.inr ⟨b',rfl,hb'⟩) (fcons b' _ hb') (h.has.cons _) rfl rfl
   ·rw[Ze,htk];simp[dF]
   ·simp only[ii,ij,im,jG] at hzs ⊢
    rw[hzs];omega
def JQ(D:Jd)(vars:List Nt)(e:nM Nat)(env:List Plc)(S:Store)(b:Bool):ZE->Store->Prop:=fun r S'=>r=.ret (vb b)/\∃ e',JS D vars e' env S'/\Stp D.jb e e' S S'
theorem Oz(D:Jd)(vars:List Nt)(e:nM Nat)(env:List Plc)(p:Plc)(S:Store)(f:nG)(b:Bool)(h:JS D vars e env S)(hl:env.length<1000000)
 (hf:∀ e1 S1,JS D vars e1 (env++[p]) S1->Stp D.jb e e1 S S1->ZH nC (.val f) [] S1 (JQ D vars e1 (env++[p]) S1 b)) :
 Zh nC 285 [.val (.pointer (some ⟨D.jb,0,none⟩)),.agg p.emb,.val f] S (JQ D vars e env S b):=by
 refine XF Tryz.func285 rfl xy ?_
 rw[Tryz.ntmps285,Tryz.results285]
 obtain⟨⟨s,l⟩,ch⟩:=p
 simp only[eE]
 refine .seq (.of (Zn (mu:=[3]) (dr:=[]) xy _ xy _ _ _ ?_))
 refine uw ?_
 intro b3 hb3
 simp only[ZW]
 obtain⟨hne1,hne2⟩:=h.ne hb3
 have h1:=h.cons hb3 (.cells [.val (.pointer (some ⟨D.jb,0,none⟩))])
 obtain⟨v,va,g,hv,hva⟩:=h1.gj
 have g0:=g
 rw[Zc hne1] at g0
 refine uw ?_
 refine .seq (.of (Zn (mu:=[14]) (dr:=[(1,8,10)]) xy _ xy _ _ _ ?_))
 try simp only[go_sem,seval,g0,iC hne1,hne1]
 obtain⟨_,_,_,_,_,_,_,tE,tZ,tB⟩:=bx
 refine⟨rfl,h1.app g (p:=⟨.mk s l,ch⟩) tE yy tZ tB (by rw[tE];rfl) rfl xj hl (fun v' e' S' gj' o1 o2 hJ hS=>?_)⟩
 have gS3:S'.get b3=some (.cells [.val (.pointer (some ⟨D.jb,0,none⟩))]):=by have:=hS.keep _ _ (Ze b3 _ _) hne1 hne2;rwa [Za hne1] at this
 try simp only[go_sem,seval,gj',o1,o2,jX,gS3]
 simp only[ZW]
 have gb3:=hS.keep _ _ (Ze b3 _ _) hne1 hne2
 generalize S'.set D.jb _=S2 at hJ hS gb3 ⊢
 have hS0:=(Stp.cons hb3 _).trans hS
 refine⟨rfl,?_⟩
 refine .seq (.region (mu:=[]) (pre:=[_]) 17 xy xy xj ?_)
 refine uw ?_
 refine wy ?_
 simp only[ZW]
 refine uC ?_
 refine uw ?_
 refine(hf e' S2 hJ hS0).mono ?_
 rintro r S3 ⟨rfl,e2,hJ3,hS3⟩
 refine uw ?_
 simp only[WY]
 refine wy ?_
 have hj3:e'≠some b3:=by
  rcases hS.new with q|⟨b',q,hb'⟩
  ·rw[q];exact hne2
  ·rw[q];intro q2;injection q2 with q2;rw[q2] at hb';exact hb'.1 rfl
 refine IL D vars e2 env _ S3 b3 _ _ hJ3 (hS3.keep _ _ gb3 hne1 hj3) hl (fun S4 hJ4 hS4=>?_)
 refine uw ?_
 exact .mk (.refl _) (.refl _) ⟨rfl,e2,hJ4,(hS0.trans hS3).trans hS4⟩
open Go.Proofs Go.RowKit
def YZ(cT:Str->nM Ty)(vars:List Nt)(env:List Plc)(k n:Int)(s:Str):nM (Ty×Bool×Int) :=
 if k=1 then(if n=0 then(cT s).map (fun t=>(t,false,0)) else none)
 else if k=2 then(if 0<=n/\n<env.length/\s={ data:=#[] } then(env[env.length-1-n.toNat]?).map (fun p=>(p.ty,p.chosen,n)) else none)
 else if k=4 then(if 0<=n/\n<vars.length/\s={ data:=#[] } then(vars[n.toNat]?).map (fun v=>(v.ty,true,(env.length:Int))) else none)
 else none
def ci(cT:Str->nM Ty)(o:nM (Ty×Bool×Int))(S:Store):ZE->Store->Prop:=fun r S'=>S'=S/\∃ (own:Ty) (b:Bool) (n:Int),r=.ret (.tup [.agg own.emb,vb b,vi n,vb o.isSome]) /\
 match o with
 | some x=>x=(own,b,n)
 | none=>own=.mk { data:=#[] } []\/∃ s,cT s=some own
theorem ep(b n c:AV):Wk (.tup [.agg [.val (.string { data:=#[] }),.list .full 0 []],b,n,c]) (.tup [.agg (Ty.mk { data:=#[] } []).emb,b,n,c]):=.tup rfl (fun i x y hx hy=>by
 match i with
 | 0 =>
   simp at hx hy;subst hx;subst hy
   exact .agg rfl (fun j x y hx hy=>by
    match j with
    | 0=>simp[Ty.emb] at hx hy;subst hx;subst hy;exact .refl _
    | 1=>simp[Ty.emb] at hx hy;subst hx;subst hy;exact .nilA _ _ _
    | j+2=>simp at hx)
 | 1=>simp at hx hy;subst hx;subst hy;exact .refl _
 | 2=>simp at hx hy;subst hx;subst hy;exact .refl _
 | 3=>simp at hx hy;subst hx;subst hy;exact .refl _
 | i+4=>simp at hx)
theorem Plc.drop_at{env:List Plc}{i:Nat}{p:Plc}(h:env[i]?=some p)(rest:List AV):∃ rest',((dF env).flatten++rest).drop (i * 3)=p.emb++rest':=by
 have hs:=Z6 h
 refine⟨(dF (env.drop (i+1))).flatten++rest,?_⟩
 have hi:=(List.getElem?_eq_some_iff.1 h).1
 have hl:(dF (env.take i)).flatten.length=i * 3:=by rw[Plc.flen,ip];omega
 conv=>lhs;rw[hs]
 have:(dF (env.take i++p::env.drop (i+1))).flatten++rest=(dF (env.take i)).flatten++(p.emb++((dF (env.drop (i+1))).flatten++rest)):=by simp[dF]
 rw[this,<- hl,List.drop_left]
theorem AO(D:Jd)(vars:List Nt)(e:nM Nat)(env:List Plc)(S:Store)(k n:Int)(s:Str)(l:List Tm)(h:JS D vars e env S)(hl:env.length<1000000)(hv:vars.length<1000000) :
 Zh nC 298 [.val (.pointer (some ⟨D.jb,0,none⟩)),.agg (Tm.mk k n s l).emb] S (ci D.cT (YZ D.cT vars env k n s) S):=by
 obtain⟨v,va,g,hV,hva⟩:=h.gj
 have tm:=bT
 have ts:=AW
 have tz:=fa9
 simp only[cO]
 refine Zb [] [(3,10,2),(4,10,0),(6,11,0),(7,15,1),(8,8,9),(10,11,0),(11,16,17)] Tryz.func298 rfl xy ?_;rw[Tryz.ntmps298,Tryz.results298]
 refine uw ?_
 intro b4 hb4
 have hn1:=(h.ne hb4).1
 have hn2:=iC hn1
 have g1:=(h.cons hb4 (.cells [.val (.string { data:=#[] }),.list .full 0 []])).g1
 by_cases k1:k=1
 ·subst k1
  try simp only[go_sem,seval,iT,hn1,hn2,g]
  refine Tg tm ts tz g1 ?_
  rw[FP,WW,h.lc s]
  by_cases hn:n=0
  ·have x1:=iS hn
   cases hc:D.cT s with
   | some ty =>
     have hh:YZ D.cT vars env 1 n s=some (ty,false,0):=by simp[YZ,hn,hc]
     rw[hh]
     obtain⟨sy,ly⟩:=ty
     try simp only[go_sem,seval,iT,hn1,hn2,x1,jX,ko,mH,cQ]
     exact .mk (.refl _) (.cons _ _) ⟨rfl,.mk sy ly,false,0,rfl,rfl⟩
   | none =>
     have hh:YZ D.cT vars env 1 n s=none:=by simp[YZ,hn,hc]
     rw[hh]
     try simp only[go_sem,seval,iT,hn1,hn2,x1,mI,kr,mb]
     exact oM
  ·have x1:=iU hn
   have hh:YZ D.cT vars env 1 n s=none:=by simp[YZ,hn]
   rw[hh]
   cases hc:D.cT s with
   | some ty =>
     obtain⟨sy,ly⟩:=ty
     try simp only[go_sem,seval,iT,iV,hn1,hn2,x1,jX,ko,mH,cQ]
     exact .mk (.refl _) (.cons _ _) ⟨rfl,.mk sy ly,false,0,rfl,.inr ⟨s,hc⟩⟩
   | none =>
     try simp only[go_sem,seval,iT,iV,hn1,hn2,x1,mI,kr,mb]
     exact oM
 have y1:=iU k1
 by_cases k2:k=2
 ·subst k2
  rcases hV with⟨_,henv,rfl⟩|⟨b,cap,rest,he,rfl,gb,hc1,hc2⟩
  ·have hh:YZ D.cT vars env 2 n s=none:=by simp[YZ,henv]
   rw[hh]
   by_cases hn:0<=n
   ·have x2:(n>=0)=True:=iS hn
    have x3:(n<0)=False:=iU xh
    try simp only[go_sem,seval,y1,x2,x3,iT,iV,hn1,hn2,g]
    exact oM
   ·have x2:(n>=0)=False:=iU hn
    try simp only[go_sem,seval,y1,x2,iT,iV,hn1,hn2,g]
    exact oM
  ·by_cases hn:0<=n/\n<env.length/\s={ data:=#[] }
   ·obtain⟨hn0,hnl,hs⟩:=hn
    have x2:(n>=0)=True:=iS hn0
    have x3:(n<(env.length:Int))=True:=iS hnl
    have x4:=iS hs
    obtain⟨p,hp⟩:∃ p,env[env.length-1-n.toNat]?=some p:=⟨env[env.length-1-n.toNat]' xh,iO xh⟩
    have hh:YZ D.cT vars env 2 n s=some (p.ty,p.chosen,n):=by simp[YZ,hn0,hnl,hs,hp]
    rw[hh]
    obtain⟨⟨sp,lp⟩,ch⟩:=p
    have w1:IntKind.i64.wrap ((env.length:Int)-1)=(env.length:Int)-1:=Zk xh xh
    have w2:IntKind.i64.wrap ((env.length:Int)-1-n)=((env.length-1-n.toNat:Nat):Int):=(Zk xh xh).trans xh
    obtain⟨rest',hdr⟩:=Plc.drop_at hp rest
    have hnb:b4≠b:=fun q=>(h.ne hb4).2 (by rw[he,q])
    have z1:(0<=((env.length-1-n.toNat:Nat):Int))=True:=iS xh
    have z2:(((env.length-1-n.toNat:Nat):Int)<(env.length:Int))=True:=iS xh
    try simp only[go_sem,seval,y1,x2,x3,x4,w1,w2,z1,z2,iT,iV,hn1,hn2,hnb,g,gb,hdr,iF,eE,kE,kF]
    intro b8 hb8
    have n84:=iC hb8.1
    have n48:=hb8.1
    refine⟨.inr (.cons hb8 _),?_⟩
    try simp only[go_sem,seval,n84,n48]
    exact .mk (.refl _) ((Sub.cons _ _).trans (.cons _ _)) ⟨rfl,.mk sp lp,ch,n,rfl,rfl⟩
   ·have hh:YZ D.cT vars env 2 n s=none:=by simp[YZ,hn]
    rw[hh]
    by_cases q1:0<=n
    ·have x2:(n>=0)=True:=iS q1
     by_cases q2:n<env.length
     ·have x3:(n<(env.length:Int))=True:=iS q2
      have x4:(s={ data:=#[] })=False:=iU (fun q3=>hn ⟨q1,q2,q3⟩)
      try simp only[go_sem,seval,y1,x2,x3,x4,iT,iV,hn1,hn2,g]
      exact oM
     ·have x3:(n<(env.length:Int))=False:=iU q2
      try simp only[go_sem,seval,y1,x2,x3,iT,iV,hn1,hn2,g]
      exact oM
    ·have x2:(n>=0)=False:=iU q1
     try simp only[go_sem,seval,y1,x2,iT,iV,hn1,hn2,g]
     exact oM
 have y2:=iU k2
 by_cases k4:k=4
 ·subst k4
  have hlen:∀ (P:nE) (t:Nat) (σ:Store) (K:AV->Prop),VC P t v σ K=lnL (P.underlying t) env.length K:=by
   intro P t σ K
   rcases hV with⟨_,henv,rfl⟩|⟨b,cap,rest,he,rfl,gb,hc1,hc2⟩
   ·rw[VV,henv];rfl
   ·rw[TZ]
  have hlva:∀ (P:nE) (t:Nat) (σ:Store) (K:AV->Prop),VC P t va σ K=lnL (P.underlying t) vars.length K:=by
   intro P t σ K
   rcases hva with rfl|⟨rfl,henv⟩
   ·rw[VV,dw]
   ·rw[VV,henv];rfl
  by_cases hn:0<=n/\n<vars.length/\s={ data:=#[] }
  ·obtain⟨hn0,hnl,hs⟩:=hn
   have x2:(n>=0)=True:=iS hn0
   have x3:(n<(vars.length:Int))=True:=iS hnl
   have x0:(0<=n)=True:=iS hn0
   have x4:=iS hs
   rcases hva with rfl|⟨rfl,henv⟩
   ·obtain⟨p,hp⟩:∃ p,vars[n.toNat]?=some p:=⟨vars[n.toNat]' xh,iO xh⟩
    have hh:YZ D.cT vars env 4 n s=some (p.ty,true,(env.length:Int)):=by unfold YZ;rw[ig xj,ig xj,gZ rfl,gZ ⟨hn0,hnl,hs⟩,hp];rfl
    rw[hh]
    have gp:(cZ vars)[n.toNat]?=some p.emb:=by rw[cZ,jp,hp];rfl
    obtain⟨np,⟨sp,lp⟩⟩:=p
    simp only[eb] at gp
    try simp only[go_sem,seval,y1,x0,x2,x3,x4,iT,iV,hn1,hn2,g,hlen,hlva,gp,dw,jq,jr,jt]
    exact .mk (.refl _) (.cons _ _) ⟨rfl,.mk sp lp,true,env.length,rfl,rfl⟩
   ·rw[henv] at hnl;simp at hnl;omega
  ·have hh:YZ D.cT vars env 4 n s=none:=by simp[YZ,hn]
   rw[hh]
   by_cases q1:0<=n
   ·have x2:(n>=0)=True:=iS q1
    by_cases q2:n<vars.length
    ·have x3:(n<(vars.length:Int))=True:=iS q2
     have x4:(s={ data:=#[] })=False:=iU (fun q3=>hn ⟨q1,q2,q3⟩)
     try simp only[go_sem,seval,y1,y2,x2,x3,x4,iT,iV,hn1,hn2,g,hlva]
     exact oM
    ·have x3:(n<(vars.length:Int))=False:=iU q2
     try simp only[go_sem,seval,y1,y2,x2,x3,iT,iV,hn1,hn2,g,hlva]
     exact oM
   ·have x2:(n>=0)=False:=iU q1
    try simp only[go_sem,seval,y1,y2,x2,iT,iV,hn1,hn2,g,hlva]
    exact oM
 ·have y4:=iU k4
  have hh:YZ D.cT vars env k n s=none:=by simp[YZ,k1,k2,k4]
  rw[hh]
  try simp only[go_sem,seval,y1,y2,y4,iT,iV,hn1,hn2,g]
  exact oM
open Go.Proofs Go.RowKit
def Tm.num:Tm->Int
 | .mk _ n _ _=>n
def UA(env:List Plc)(scope:Int):List Tm->List Tm->Bool
 | _,[]=>true
 | pre,.mk k n s args::r =>
   if k=2/\args.length=0/\s={ data:=#[] }/\0<=n/\n<scope then
    match env[env.length-1-n.toNat]? with
    | some p=>if p.chosen || decide (0<p.ty.kids.length) || pre.any (fun b=>decide (b.num=n)) then false else UA env scope (pre++[.mk k n s args]) r
    | none=>false
   else false
theorem Nq(b:Nat)(k n:Int)(s:Str)(l:List Tm)(σ:Store)(g:σ.get b=some (.cells (Tm.mk k n s l).emb))(t:Tm):Zh nC 311 [.agg t.emb,.val (.pointer (some ⟨b,0,none⟩))] σ (ZP (vb (decide (t.num=n))) σ):=by
 obtain⟨k',n',s',l'⟩:=t
 simp only[cO,Tm.num] at g ⊢
 refine Zb [] [] Tryz.func311 rfl xy ?_;rw[Tryz.ntmps311,Tryz.results311]
 try simp only[go_sem,seval,g]
 exact Zl
theorem M5(D:Jd)(vars:List Nt)(e:nM Nat)(env:List Plc)(S:Store)(l:List Tm)(scope:Int)(h:JS D vars e env S)(hl:env.length<1000000)(hs:scope<=env.length) :
 Zh nC 301 [.val (.pointer (some ⟨D.jb,0,none⟩)),.list .none 4 (cJ l),vi scope] S (ZP (vb (UA env scope [] l)) S):=by
 refine Zh.ok xy (fun hok=>?_)
 have hlen:=(hok (.list .none 4 (cJ l)) xf).len
 rw[cF] at hlen
 clear hok
 obtain⟨v,va,g,hV,hva⟩:=h.gj
 refine Zb [] [(6,15,1)] Tryz.func301 rfl xy ?_;rw[Tryz.ntmps301,Tryz.results301]
 refine uw ?_
 refine Zp (mu:=[]) (dr:=[(6,15,1)]) [6,7,8,9,12,13,14,15,16,17,18,19,20,21,22,23,24,25,26,27,28,29,30,31,32,33,34,35,36,37,38,39,40,41,42,43,44,45,46,47,48,49,50,51,52,53,54,55,56,57,58,59,60,61,62,63,64,65,66,67,68,69,70,71,72,73] (fun x:Nat=>[(12,vi x)]) (fun _=>S)
  (fun x=>x<=l.length/\UA env scope [] l=UA env scope (l.take x) (l.drop x)) (fun x=>l.length-x) 0 xy ⟨by simp,by simp⟩ ⟨.refl _,trivial⟩ (.refl _) ?_
 rintro i ⟨hi,hx⟩
 by_cases hi2:(i:Int)<(l.length:Int)
 ·have x1:=iS hi2
  refine uB fun x0=>?_
  refine uG fun a ha=>?_
  have g0:(cJ l)[i]?=some a.emb:=by rw[cW,jp,ha];rfl
  refine uz fun w3=>?_
  have htk:l.take (i+1)=l.take i++[a]:=by rw[jh,ha,jj]
  rw[drop_at ha] at hx
  obtain⟨k,n,s,args⟩:=a
  simp only[cO] at g0
  by_cases hc:k=2/\args.length=0/\s={ data:=#[] }/\0<=n/\n<scope
  ·obtain⟨c1,c2,c3,c4,c5⟩:=hc
   rcases hV with⟨_,henv,rfl⟩|⟨b,cap,rest,he,rfl,gb,hc1,hc2⟩
   ·rw[henv] at hs;simp at hs;omega
   obtain⟨p,hp⟩:∃ p,env[env.length-1-n.toNat]?=some p:=⟨env[env.length-1-n.toNat]' xh,iO xh⟩
   have hst:UA env scope (l.take i) (.mk k n s args::l.drop (i+1))=if p.chosen || decide (0<p.ty.kids.length) || (l.take i).any (fun b=>decide (b.num=n)) then false else UA env scope (l.take (i+1)) (l.drop (i+1)):=by
    rw[htk];simp only[UA];rw[gZ ⟨c1,c2,c3,c4,c5⟩,hp]
   rw[hst] at hx
   obtain⟨⟨sp,lp⟩,ch⟩:=p
   have y1:(k=2)=True:=iS c1
   have y2:((args.length:Int) > 0)=False:=iU xh
   have y3:=iS c3
   have y4:(n<0)=False:=iU xh
   have y5:(n>=scope)=False:=iU xh
   have w1:IntKind.i64.wrap ((env.length:Int)-1)=(env.length:Int)-1:=Zk xh xh
   have w2:IntKind.i64.wrap ((env.length:Int)-1-n)=((env.length-1-n.toNat:Nat):Int):=(Zk xh xh).trans xh
   obtain⟨rest',hdr⟩:=Plc.drop_at hp rest
   have z1:(0<=((env.length-1-n.toNat:Nat):Int))=True:=iS xh
   have z2:(((env.length-1-n.toNat:Nat):Int)<(env.length:Int))=True:=iS xh
   try simp only[go_sem,seval,cF,x0,x1,g0,iT,iF,jq,jr,jt]
   intro b8 hb8
   have hn1:=(h.ne hb8).1
   have hn2:=iC hn1
   have hnb:b8≠b:=fun q=>(h.ne hb8).2 (by rw[he,q])
   try simp only[go_sem,seval,cF,y1,y2,y3,y4,y5,w1,w2,z1,z2,hn1,hn2,hnb,g,gb,hdr,iT,iV,iF,eE,kE,kF]
   intro b9 hb9
   refine⟨.inr (.cons hb9 _),?_⟩
   have n98:=iC hb9.1
   have n89:=hb9.1
   cases ch with
   | true =>
     rw[hx,gZ xf]
     try simp only[go_sem,seval,iT,n98,n89]
     exact rT
   | false =>
     by_cases hk:0<lp.length
     ·have y6:((lp.length:Int) > 0)=True:=iS xh
      rw[hx,gZ (by simp[Ty.kids,hk])]
      try simp only[go_sem,seval,cG,iT,y6,n98,n89]
      exact rT
     ·have y6:((lp.length:Int) > 0)=False:=iU xh
      have g8:∀ z,Store.get ((b9,z)::(b8,AObj.cells [.val (.int .i64 k),.val (.int .i64 n),.val (.string s),.list .none 4 (cJ args)])::S) b8=some (.cells (Tm.mk k n s args).emb):=fun z=>by rw[Zc n98,Ze];rfl
      have hAny:=fun z=>TX ((b9,z)::(b8,AObj.cells [.val (.int .i64 k),.val (.int .i64 n),.val (.string s),.list .none 4 (cJ args)])::S) (l.take i) .none 4 (.inl rfl) (.func (.func 311) #[] #[.pointer (some ⟨b8,0,none⟩)]) (fun b=>decide (b.num=n)) (fun d _=>by rw[Z4];exact Nq b8 k n s args _ (g8 z) d)
      have hx2:UA env scope [] l=if(l.take i).any (fun b=>decide (b.num=n)) then false else UA env scope (l.take (i+1)) (l.drop (i+1)):=by rw[hx];simp[Ty.kids,hk]
      have htk2:List.take i (cJ l)=cJ (l.take i):=by rw[cW,cW,jx]
      have y7:((i:Int)<=(l.length:Int))=True:=iS xh
      generalize(l.take i).any (fun b=>decide (b.num=n))=q at hAny hx2
      try simp only[go_sem,seval,cG,cF,iV,y6,y7,x0,n98,n89,jd,Nat.sub_zero,htk2,iF]
      refine(hAny _).only' ?_
      cases q with
      | true =>
        rw[hx2,gZ rfl]
        refine uw ?_
        exact rT
      | false =>
        refine vF ?_
        exact .mk (i+1) ⟨by omega,by rw[hx2];simp⟩ xh ⟨.refl _,trivial⟩ yS ((Sub.cons _ _).trans (.cons _ _))
  ·have hst:UA env scope (l.take i) (.mk k n s args::l.drop (i+1))=false:=by simp only[UA];rw[ig hc]
   rw[hx,hst]
   try simp only[go_sem,seval,cF,x0,x1,g0,iT,iF,jq,jr,jt]
   intro b8 hb8
   by_cases c1:k=2
   ·have y1:(k=2)=True:=iS c1
    by_cases c2:args.length=0
    ·have y2:((args.length:Int) > 0)=False:=iU xh
     by_cases c3:s={ data:=#[] }
     ·have y3:=iS c3
      by_cases c4:0<=n
      ·have y4:(n<0)=False:=iU xh
       have y5:(n>=scope)=True:=iS (by
        by_cases q:n<scope
        ·exact absurd ⟨c1,c2,c3,c4,q⟩ hc
        ·omega)
       try simp only[go_sem,seval,cF,y1,y2,y3,y4,y5,iT,iV]
       exact pJ
      ·have y4:(n<0)=True:=iS xh
       try simp only[go_sem,seval,cF,y1,y2,y3,y4,iT,iV]
       exact pJ
     ·have y3:=iU c3
      try simp only[go_sem,seval,cF,y1,y2,y3,iT,iV]
      exact pJ
    ·have y2:((args.length:Int) > 0)=True:=iS xh
     try simp only[go_sem,seval,cF,y1,y2,iT,iV]
     exact pJ
   ·have y1:(k=2)=False:=iU c1
    try simp only[go_sem,seval,cF,y1,iT,iV]
    exact pJ
 ·have x1:=iU hi2
  rw[jD xh] at hx
  rw[hx]
  refine wY ?_
  exact Zs (by simp[UA])
end Go.Vx
end
section
namespace Go.Vx
open Go.Proofs Go.RowKit
mutual
def Ro.dpN:Ro->Nat
 | .mk l=>eJ l+1
def eJ:List Ro->Nat
 | []=>0
 | a::r=>max a.dpN (eJ r)
end
theorem eH{l:List Ro}{x:Ro}(h:x∈l):x.dpN<=eJ l:=by
 induction l with
 | nil=>cases h
 | cons a r ih =>
   simp only[eJ]
   exact se
theorem Ty.dp_kid{s:Str}{l:List Ty}{a:Ty}(h:a∈l):a.shape.dpN<(Ty.mk s l).shape.dpN:=by
 simp only[Ty.shape,Ro.dpN]
 have:a.shape∈dg l:=by rw[dY];exact iB h
 have:=eH this
 omega
theorem Tm.dp_kid{k n:Int}{s:Str}{l:List Tm}{a:Tm}(h:a∈l):a.shape.dpN<(Tm.mk k n s l).shape.dpN:=by
 simp only[Tm.shape,Ro.dpN]
 have:a.shape∈cK l:=by rw[cS];exact iB h
 have:=eH this
 omega
theorem O4:∀ t:Ty,(Xt t).1.length<t.shape.dpN/\∀ a∈(Xt t).1,a.shape.dpN<t.shape.dpN:=by
 intro t
 induction t using eC with|h s l ih=>?_
 match l,ih with
 | [a,b],ih =>
   have e:Xt (.mk s [a,b])=(a::(Xt b).1,(Xt b).2):=by simp[Xt,P8]
   have h1:=Ty.dp_kid (s:=s) (l:=[a,b]) (a:=a) xf
   have h2:=Ty.dp_kid (s:=s) (l:=[a,b]) (a:=b) xf
   obtain⟨i1,i2⟩:=ih b xf
   rw[e]
   refine⟨by simp only[ij];omega,fun x hx=>?_⟩
   rcases List.mem_cons.1 hx with rfl|hx
   ·exact h1
   ·have:=i2 x hx;omega
 | [],_=>simp[Xt,P8,Ty.shape,Ro.dpN]
 | [a],_=>simp[Xt,P8,Ty.shape,Ro.dpN]
 | a::b::c::r,_=>simp[Xt,P8,Ty.shape,Ro.dpN]
mutual
def tmS(cT:Str->nM Ty)(vars:List Nt)(env:List Plc):Tm->Ty->Bool
 | .mk k n s args,.mk ws wl=>match wl with
   | [a,b]=>decide (k=5)&&decide (n=0)&&decide (s={ data:=#[] })&&tm1 cT vars (env++[⟨a,false⟩]) args b
   | _=>match YZ cT vars env k n s with
     | none=>false
     | some (own,ch,sc)=>decide ((Xt own).1.length=args.length)&&decide ((Xt own).1.length<=8)&&UC (Xt own).2 (.mk ws wl)&&(!ch || UA env sc [] args)&&YM cT vars env args (Xt own).1
def tm1(cT:Str->nM Ty)(vars:List Nt)(env:List Plc):List Tm->Ty->Bool
 | [x],b=>tmS cT vars env x b
 | _,_=>false
def YM(cT:Str->nM Ty)(vars:List Nt)(env:List Plc):List Tm->List Ty->Bool
 | a::r,t::ts=>tmS cT vars env a t&&YM cT vars env r ts
 | _,_=>true
end
structure TB (cT:Str->Option Ty) (vars:List Nt) (env:List Plc):Prop where
 c:∀ s t,cT s=some t->t.shape.dpN<=1000
 v:∀ x∈vars,x.ty.shape.dpN<=1000
 e:∀ p∈env,p.ty.shape.dpN<=1000
theorem TB.push{cT:Str->nM Ty}{vars:List Nt}{env:List Plc}(h:TB cT vars env){p:Plc}(hp:p.ty.shape.dpN<=1000):TB cT vars (env++[p]) :=
 ⟨h.c,h.v,fun q hq=>by
  rcases List.mem_append.1 hq with hq|hq
  ·exact h.e q hq
  ·rw[List.mem_singleton.1 hq];exact hp⟩
theorem TB.head{cT:Str->nM Ty}{vars:List Nt}{env:List Plc}(h:TB cT vars env){k n:Int}{s:Str}{own:Ty}{b:Bool}{m:Int}(hh:YZ cT vars env k n s=some (own,b,m)):own.shape.dpN<=1000/\m<=env.length:=by
 unfold YZ at hh
 split at hh
 ·split at hh
  ·cases hc:cT s with
   | none=>rw[hc] at hh;cases hh
   | some t=>rw[hc] at hh;simp only[jX,jq,lE] at hh;obtain⟨rfl,-,rfl⟩:=hh;exact⟨h.c _ _ hc,by omega⟩
  ·cases hh
 ·split at hh
  ·split at hh
   ·rename_i hc
    cases hp:env[env.length-1-n.toNat]? with
    | none=>rw[hp] at hh;cases hh
    | some p=>rw[hp] at hh;simp only[jX,jq,lE] at hh;obtain⟨rfl,-,rfl⟩:=hh;exact⟨h.e _ (iG hp),by omega⟩
   ·cases hh
  ·split at hh
   ·split at hh
    ·cases hp:vars[n.toNat]? with
     | none=>rw[hp] at hh;cases hh
     | some p=>rw[hp] at hh;simp only[jX,jq,lE] at hh;obtain⟨rfl,-,rfl⟩:=hh;exact⟨h.v _ (iG hp),by omega⟩
    ·cases hh
   ·cases hh
end Go.Vx
end
