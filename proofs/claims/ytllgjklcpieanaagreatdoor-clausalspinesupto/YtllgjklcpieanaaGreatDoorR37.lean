/- A part of the proof of clausalSpinesProved. -/
import Derived.Test.YtllgjklcpieanaaGreatDoorR36
import Derived.Test.YtllgjklcpieanaaGreatDoorR34
import Derived.Test.YtllgjklcpieanaaGreatDoorR32
import Derived.Test.YtllgjklcpieanaaGreatDoorR14
set_option linter.unusedVariables false
set_option linter.unusedSimpArgs false
set_option maxRecDepth 100000
section
namespace Go.Vx
open Go.Proofs Go.RowKit
def Pm.emb(q:nM Nat)(x:Pm):List AV:=x.form.emb++[.list .none 1 (Zu x.bound),.val (.map q),vb x.last]
def dD(q:nM Nat)(l:List Pm):List (List AV):=l.map (Pm.emb q)
theorem eK(q:nM Nat)(l:List Pm):(dD q l).length=l.length:=by simp[dD]
def Dr.cs(q:nM Nat)(d:Dr)(vp vv va vb:AV):List AV:=vp::vv::va::(d.head.emb++[vb,.val (.map q)])
def Dr.emb(q:nM Nat)(d:Dr):List AV:=d.cs q (.list .none 1 (Zu d.path)) (.list .none 2 (cI d.vars)) (.list .none 9 (dD q d.ante)) (.list .none 1 (Zu d.bound))
def eM(q:nM Nat)(l:List Dr):List (List AV):=l.map (Dr.emb q)
theorem eo(q:nM Nat)(l:List Dr):(eM q l).length=l.length:=by simp[eM]
theorem Qf(q:nM Nat)(d:Dr)(kind:Int)(b:Nat)(S:Store)(hl:d.path.length<=1000000)
 (g:S.get b=some (.cells (d.cs q (.list .full 1 (Zu d.path)) (.list .full 2 (cI d.vars)) (.list .full 9 (dD q d.ante)) (.list .none 1 (Zu d.bound))))) :
 Zh nC 205 [vi kind,.val (.pointer (some ⟨b,0,none⟩))] S (fun r S'=>(∃ v,r=.ret (.agg (d.cs q v (.list .full 2 (cI d.vars)) (.list .full 9 (dD q d.ante)) (.list .none 1 (Zu d.bound))))/\LV S S' v 1 (Zu (d.path++[kind])))/\Has S S'):=by
 obtain⟨path,vars,ante,⟨k,s,a,⟨ts,tl⟩,l⟩,bound⟩:=d
 simp only[Dr.cs,cM,kE,kF] at g hl ⊢
 refine Zb [] [] Tryz.func205 rfl xy ?_;rw[Tryz.ntmps205,Tryz.results205]
 try simp only[go_sem,seval,g]
 intro b3 hb3
 have u:=(Zg hb3 xA (.cells [.list .full 0 [],.list .full 0 [],.list .full 0 [],vi 0,.val (.string { data:=#[] }),.list .full 0 [],.val (.string { data:=#[] }),.list .full 0 [],.list .full 0 [],.list .full 0 [],.val (.map none)])).trans g
 have u3:=Ze b3 (.cells [.list .full 0 [],.list .full 0 [],.list .full 0 [],vi 0,.val (.string { data:=#[] }),.list .full 0 [],.val (.string { data:=#[] }),.list .full 0 [],.list .full 0 [],.list .full 0 [],.val (.map none)]) S
 have uH:Has S ((b3,.cells [.list .full 0 [],.list .full 0 [],.list .full 0 [],vi 0,.val (.string { data:=#[] }),.list .full 0 [],.val (.string { data:=#[] }),.list .full 0 [],.list .full 0 [],.list .full 0 [],.val (.map none)])::S):=(Has.refl S).cons _
 generalize((b3,AObj.cells [.list .full 0 [],.list .full 0 [],.list .full 0 [],vi 0,.val (.string { data:=#[] }),.list .full 0 [],.val (.string { data:=#[] }),.list .full 0 [],.list .full 0 [],.list .full 0 [],.val (.map none)])::S)=U at u u3 uH ⊢
 have f3:Zm S b3:=hb3
 try simp only[go_sem,seval,u]
 intro b4 hb4
 refine⟨rfl,by simp only[Zu,io,lim];omega,fun bt e c hb=>?_⟩
 obtain⟨T,hT⟩:∃ T:Store,T=(bt,AObj.tail e c)::(b4,AObj.cells [.list .full 1 (Zu path),.list .full 2 (cI vars),.list .full 9 (dD q ante),vi k,vs s,.list .none 4 (cJ a),vs ts,.list .none 2 (cI tl),.list .none 6 (cN l),.list .none 1 (Zu bound),.val (.map q)])::U:=⟨_,rfl⟩
 have n43:=Zv u3 hb4
 have t4:T.get b4=some (.cells [.list .full 1 (Zu path),.list .full 2 (cI vars),.list .full 9 (dD q ante),vi k,vs s,.list .none 4 (cJ a),vs ts,.list .none 2 (cI tl),.list .none 6 (cN l),.list .none 1 (Zu bound),.val (.map q)]):=by rw[hT,Zg hb xB,Ze]
 have t3:T.get b3=some (.cells [.list .full 0 [],.list .full 0 [],.list .full 0 [],vi 0,.val (.string { data:=#[] }),.list .full 0 [],.val (.string { data:=#[] }),.list .full 0 [],.list .full 0 [],.list .full 0 [],.val (.map none)]):=by
  have w:Store.get ((b4,AObj.cells [.list .full 1 (Zu path),.list .full 2 (cI vars),.list .full 9 (dD q ante),vi k,vs s,.list .none 4 (cJ a),vs ts,.list .none 2 (cI tl),.list .none 6 (cN l),.list .none 1 (Zu bound),.val (.map q)])::U) b3=some (.cells [.list .full 0 [],.list .full 0 [],.list .full 0 [],vi 0,.val (.string { data:=#[] }),.list .full 0 [],.val (.string { data:=#[] }),.list .full 0 [],.list .full 0 [],.list .full 0 [],.val (.map none)]):=(Zg hb4 (by rw[u3];rfl) _).trans u3
  rw[hT,Zg hb (by rw[w];rfl),w]
 have tH:Has S T:=by rw[hT];exact(uH.cons _).cons _
 have f4:Zm S b4:=uH.fresh hb4
 have tL:LV S T (.list (.tip bt e c) 1 (Zu path++[[vi kind]])) 1 (Zu (path++[kind])):=⟨_,_,by simp[Zu],.inl rfl,.inr ⟨bt,e,c,rfl,rfl,by rw[hT];exact Ze _ _ _,uH.fresh (show Zm U bt from hb.2)⟩⟩
 rw[<- hT]
 clear hT hb hb4 u u3 uH g
 have nf:(b3=b4)=False:=iU n43
 try simp only[go_sem,seval,t4,t3,nf]
 have t3':(T.set b4 (.cells [.list (.tip bt e c) 1 (Zu path++[[vi kind]]),.list .full 2 (cI vars),.list .full 9 (dD q ante),vi k,vs s,.list .none 4 (cJ a),vs ts,.list .none 2 (cI tl),.list .none 6 (cN l),.list .none 1 (Zu bound),.val (.map q)])).get b3=some (.cells [.list .full 0 [],.list .full 0 [],.list .full 0 [],vi 0,.val (.string { data:=#[] }),.list .full 0 [],.val (.string { data:=#[] }),.list .full 0 [],.list .full 0 [],.list .full 0 [],.val (.map none)]):=by rw[Za n43];exact t3
 have tL':=(tL.set t4 xf (.cells [.list (.tip bt e c) 1 (Zu path++[[vi kind]]),.list .full 2 (cI vars),.list .full 9 (dD q ante),vi k,vs s,.list .none 4 (cJ a),vs ts,.list .none 2 (cI tl),.list .none 6 (cN l),.list .none 1 (Zu bound),.val (.map q)])).set t3' xf (.cells [.list (.tip bt e c) 1 (Zu path++[[vi kind]]),.list .full 2 (cI vars),.list .full 9 (dD q ante),vi k,vs s,.list .none 4 (cJ a),vs ts,.list .none 2 (cI tl),.list .none 6 (cN l),.list .none 1 (Zu bound),.val (.map q)])
 exact .mk (.refl _) (.refl _) ⟨⟨_,rfl,tL'⟩,(tH.set f4 _).set f3 _⟩
open Go.Proofs Go.RowKit
theorem Wk.elems{rt:Rt}{s:Nat}{es es':List (List AV)}(hl:es.length=es'.length)(h:∀ (i:Nat) (e e':List AV),es[i]?=some e->es'[i]?=some e'->Wkl e e'):Wk (.list rt s es) (.list rt s es'):=by
 intro L w v hv
 cases hv with
 | list _ _ _ cap a b o rd hcap hlim hsz ha hr h1 h2 =>
   have hget:∀ (i:Nat) (e':List AV),es'[i]?=some e'->∃ e,es[i]?=some e:=fun i e' h=>⟨_,iO (by rw[hl];exact(List.getElem?_eq_some_iff.1 h).1)⟩
   rw[hl]
   refine .list rt s es' cap a b o rd (by rw[<- hl];exact hcap) (by rw[<- hl];exact hlim) (fun i e' he'=>?_) (fun hne=>ha (fun e=>hne (List.length_eq_zero_iff.1 (by rw[<- hl,e];rfl)))) (by rw[<- hl];exact hr) (fun i e' j c' he' hc'=>?_) (fun i e' j c' he' hc'=>?_)
   ·obtain⟨e,he⟩:=hget i e' he'
    rw[<- (h i e e' he he').at.1];exact hsz i e he
   ·obtain⟨e,he⟩:=hget i e' he'
    obtain⟨hl2,_⟩:=(h i e e' he he').at
    obtain⟨c,hc⟩:∃ c,e[j]?=some c:=⟨_,iO yN⟩
    exact h1 i e j c he hc
   ·obtain⟨e,he⟩:=hget i e' he'
    obtain⟨hl2,hw⟩:=(h i e e' he he').at
    obtain⟨c,hc⟩:∃ c,e[j]?=some c:=⟨_,iO yN⟩
    exact hw j c c' hc hc' _ _ _ (h2 i e j c he hc)
theorem fH{rt:Rt}{s:Nat}{e e':List AV}(h:Wkl e e'):Wk (.list rt s [e]) (.list rt s [e']):=.elems rfl fun i a b ha hb=>by
 cases i with
 | zero=>simp at ha hb;subst ha;subst hb;exact h
 | succ i=>simp at ha
theorem Fm.nds_kid{k:Int}{s:Str}{a:List Tm}{t:Ty}{l:List Fm}{x:Fm}(h:x∈l):x.shape.nds<(Fm.mk k s a t l).shape.nds:=by
 simp only[Fm.shape,Ro.nds,ZL]
 have:x.shape.nds<=cP (cR l):=by
  induction l with
  | nil=>cases h
  | cons b r ih =>
    simp only[cR,cP]
    exact se
 omega
theorem ey{k:Int}{s:Str}{a:List Tm}{t:Ty}{x y:Fm}:x.shape.nds+y.shape.nds<(Fm.mk k s a t [x,y]).shape.nds:=by
 simp only[Fm.shape,Ro.nds,ZL,cR,cP];omega
theorem NH:∀ (f:Fm),Xy f=true->∀ (env:Nat) (d:Dr),(drS f env d).length<=f.shape.nds:=by
 intro f
 induction f using eg with|h k s a t l ih=>?_
 intro hs env d
 have hlen:=X6 hs
 have hm:=X5 hs
 simp only[drS]
 by_cases h10:k=10
 ·subst h10
  obtain⟨g,rfl⟩:=X8 hlen
  simp only[iE,EX]
  have:=ih g xf (hm g xf) env { d with path:=d.path++[3],bound:=d.bound++[((env+d.vars.length:Nat):Int)],vars:=d.vars++[t] }
  have h2:=Fm.nds_kid (k:=10) (s:=s) (a:=a) (t:=t) (l:=[g]) (x:=g) xf
  omega
 ·rw[ig h10]
  by_cases h5:k=5
  ·subst h5
   obtain⟨g,h,rfl⟩:=XI hlen
   simp only[iE,NG,ii]
   have h1:=ih g xf (hm g xf) env { d with path:=d.path++[1] }
   have h2:=ih h xf (hm h xf) env { d with path:=d.path++[2] }
   have h3:=ey (k:=5) (s:=s) (a:=a) (t:=t) (x:=g) (y:=h)
   omega
  ·rw[ig h5]
   by_cases h7:k=7\/k=8
   ·obtain⟨g,h,rfl⟩:∃ g h,l=[g,h]:=by rcases h7 with rfl|rfl<;>exact XI hlen
    simp only[gZ h7,IA]
    have h2:=ih h xf (hm h xf) env { d with path:=d.path++[if k=8 then 5 else 4],ante:=d.ante++[⟨g,d.bound,decide (k=8)⟩] }
    have h3:=ey (k:=k) (s:=s) (a:=a) (t:=t) (x:=g) (y:=h)
    omega
   ·simp only[ig h7,ij,im,Fm.shape,Ro.nds];omega
def Dr.len(d:Dr):Nat:=d.path.length+d.vars.length+d.ante.length+d.bound.length
theorem Zh.wk3{P:nE}{f:nL}{a b c a' b' c':AV}{σ:Store}{R:ZE->Store->Prop}(h:Zh P f [a',b',c'] σ R)(k1:Wk a a')(k2:Wk b b')(k3:Wk c c'):Zh P f [a,b,c] σ R:=h.wk ⟨k1,k2,k3,trivial⟩
def DfR(q:nM Nat)(S:Store)(l:List Dr):ZE->Store->Prop:=fun r S'=>(∃ v,r=.ret v/\LF S S' v 11 (eM q l))/\Has S S'
def DfC(q:nM Nat)(f:Fm):Prop:=∀ (env:Nat) (d:Dr) (S:Store),Xy f=true->d.len+3 * f.shape.nds<=900000->env<=1000000->Zh nC 138 [.agg f.emb,vi env,.agg (d.emb q)] S (DfR q S (drS f env d))
theorem EW(q:nM Nat):∀ f:Fm,DfC q f:=by
 intro f
 induction f using eg with|h k s a t l ih=>?_
 intro env d S hs hb he
 refine Zh.nodup xy (fun hnd=>?_)
 obtain⟨ts,tl⟩:=t
 have hlen:=X6 hs
 have hm:=X5 hs
 obtain⟨path,vars,ante,⟨hk,hs',ha,⟨hts,htl⟩,hl⟩,bound⟩:=d
 have hpp:=ID (Zu path)
 have hpv:=Bo (cI vars)
 have hpa:=Bp (dD q ante)
 simp only[Dr.len] at hb
 simp only[Dr.emb,Dr.cs,cM,kE,kF]
 refine Zb [5] [(1,10,0),(8,6,0),(10,1000,0),(14,13,0),(15,6,0)] Tryz.func138 rfl xy ?_;rw[Tryz.ntmps138,Tryz.results138]
 refine uw ?_
 intro b5 hb5
 refine uw ?_
 refine hpp.head ?_
 refine uw ?_
 refine hpv.head ?_
 refine uw ?_
 refine hpa.head ?_
 have n0:=Ze b5 (.cells ((Dr.mk path vars ante (.mk hk hs' ha (.mk hts htl) hl) bound).cs q (.list .full 1 (Zu path)) (.list .full 2 (cI vars)) (.list .full 9 (dD q ante)) (.list .none 1 (Zu bound)))) S
 by_cases h10:k=10
 ·subst h10
  obtain⟨g,rfl⟩:=X8 hlen
  have hw:IntKind.i64.wrap ((env:Int)+(vars.length:Int))=((env+vars.length:Nat):Int):=by rw[Zk xh xh];omega
  have hwc:=JR bound q ((env+vars.length:Nat):Int) xh
  have hkid:=Fm.nds_kid (k:=10) (s:=s) (a:=a) (t:=.mk ts tl) (l:=[g]) (x:=g) xf
  have hih:=ih g xf env ⟨path++[3],vars++[.mk ts tl],ante,.mk hk hs' ha (.mk hts htl) hl,bound++[((env+vars.length:Nat):Int)]⟩
  obtain⟨gk,gs,ga,⟨gts,gtl⟩,gl⟩:=g
  have e0:(cN [.mk gk gs ga (.mk gts gtl) gl])[0]?=some [vi gk,vs gs,.list .none 4 (cJ ga),vs gts,.list .none 2 (cI gtl),.list .none 6 (cN gl)]:=rfl
  have x0:((0:Int)<((cN [.mk gk gs ga (.mk gts gtl) gl]).length:Nat))=True:=iS xx
  simp only[cM] at hih
  refine uw ?_
  refine(Qf q _ 3 b5 _ xX n0).nd.mono ?_
  rintro r S1 ⟨⟨⟨v,rfl,hv⟩,hH⟩,hn⟩
  have g5:=hH.get hn n0
  have hS:Has S S1:=fun p hp=>hH _ (kR _ hp)
  clear n0
  simp only[Dr.cs,cM,kE,kF] at g5 ⊢
  refine uw ?_
  intro b8 hb8
  refine uZ fun U hU=>?_
  refine uS fun u5=>?_
  refine uY fun u8=>?_
  have uH:Has S U:=by rw[hU];exact hS.cons _
  have f8:Zm S b8:=hS.fresh hb8
  have v1:=hv.one
  have v2:=hv.cells
  have v3:=hv.wk
  rw[<- hU]
  clear hU g5 hS hb8 hH hn hv
  try simp only[go_sem,seval,u5,u8,v1,v2,hw,cG]
  refine hwc.use ?_
  try simp only[go_sem,seval,u5,u8,v1,v2,hw,cG]
  have w8:∀ x,(U.set b8 x).get b8=some x:=fun x=>Zd u8
  have wH:∀ x,Has S (U.set b8 x):=fun x=>uH.set f8 x
  refine⟨rfl,by simp only[lim];omega,fun bt e c hbt=>?_⟩
  have n8:bt≠b8:=(Zv (w8 _) hbt).symm
  have nf:(bt=b8)=False:=iU n8
  try simp only[go_sem,seval,u8,w8,v1,v2,nf,e0,x0,jf,jq,jr,jt]
  refine Zh.mono (Zh.wk3 (hih _ (hm _ xf) yD he) (.refl _) (.refl _) ?_) ?_
  ·simp only[Dr.emb,Dr.cs,cM,kE,kF,eW]
   exact Wkl.agg ⟨v3,.list _ _ _,.list _ _ _,.refl _,.refl _,.refl _,.refl _,.refl _,.refl _,.refl _,.refl _,trivial⟩
  rintro r S3 ⟨⟨v4,rfl,hv4⟩,hH3⟩
  refine uw ?_
  have hW:∀ x z,Has S (z::U.set b8 x):=fun x z=>(wH x).cons z
  refine .mk (.refl _) (.refl _) ⟨⟨_,?_,hv4.base (hW _ _)⟩,(hW _ _).trans hH3⟩
  rfl
 have z10:=iU h10
 by_cases h5:k=5
 ·subst h5
  obtain⟨g,h,rfl⟩:=XI hlen
  have hkid:=ey (k:=5) (s:=s) (a:=a) (t:=.mk ts tl) (x:=g) (y:=h)
  have hi1:=ih g xf env ⟨path++[1],vars,ante,.mk hk hs' ha (.mk hts htl) hl,bound⟩
  have hi2:=ih h xf env ⟨path++[2],vars,ante,.mk hk hs' ha (.mk hts htl) hl,bound⟩
  have eD:drS (.mk 5 s a (.mk ts tl) [g,h]) env ⟨path,vars,ante,.mk hk hs' ha (.mk hts htl) hl,bound⟩=drS g env ⟨path++[1],vars,ante,.mk hk hs' ha (.mk hts htl) hl,bound⟩++drS h env ⟨path++[2],vars,ante,.mk hk hs' ha (.mk hts htl) hl,bound⟩:=by simp[drS,NG]
  rw[eD]
  have hn1:=NH g (hm _ xf) env ⟨path++[1],vars,ante,.mk hk hs' ha (.mk hts htl) hl,bound⟩
  have hn2:=NH h (hm _ xf) env ⟨path++[2],vars,ante,.mk hk hs' ha (.mk hts htl) hl,bound⟩
  have hm1:=hm g xf
  have hm2:=hm h xf
  generalize drS g env ⟨path++[1],vars,ante,.mk hk hs' ha (.mk hts htl) hl,bound⟩=d1 at *
  generalize drS h env ⟨path++[2],vars,ante,.mk hk hs' ha (.mk hts htl) hl,bound⟩=d2 at *
  obtain⟨gk,gs,ga,⟨gts,gtl⟩,gl⟩:=g
  obtain⟨ik,is,ia,⟨its,itl⟩,il⟩:=h
  refine vX fun e0=>?_
  refine vY fun e1=>?_
  have x0:((0:Int)<((cN [.mk gk gs ga (.mk gts gtl) gl,.mk ik is ia (.mk its itl) il]).length:Nat))=True:=iS xx
  have x1:((1:Int)<((cN [.mk gk gs ga (.mk gts gtl) gl,.mk ik is ia (.mk its itl) il]).length:Nat))=True:=iS xx
  simp only[cM] at hi1 hi2
  try simp only[go_sem,seval,z10,iV]
  obtain⟨S4,hS4⟩:∃ S4:Store,S4=(b5,AObj.cells [.list .full 1 (Zu path),.list .full 2 (cI vars),.list .full 9 (dD q ante),vi hk,vs hs',.list .none 4 (cJ ha),vs hts,.list .none 2 (cI htl),.list .none 6 (cN hl),.list .none 1 (Zu bound),.val (.map q)])::S:=⟨_,rfl⟩
  have H4:Has S S4:=by rw[hS4];exact(Has.refl S).cons _
  have n4:S4.get b5=some (.cells ((Dr.mk path vars ante (.mk hk hs' ha (.mk hts htl) hl) bound).cs q (.list .full 1 (Zu path)) (.list .full 2 (cI vars)) (.list .full 9 (dD q ante)) (.list .none 1 (Zu bound)))):=by rw[hS4];exact n0
  rw[<- hS4]
  clear hS4 n0
  first|refine .seq ?_|skip
  refine eR [] 16 [54,55,56,57,58,59,60,61,62,63,64,65,66,67,68,69] [(54,[]),(55,[(0,54)]),(56,[(1,55)]),(57,[(2,56)]),(58,[]),(59,[]),(60,[(5,59)]),(61,[(3,57),(4,58),(6,60)]),(62,[]),(63,[(8,62)]),(64,[(9,63)]),(65,[(10,64)]),(66,[]),(67,[]),(68,[(13,67)]),(69,[(11,65),(12,66),(14,68)])] [(7,61),(15,69)] (fun i v U=>match i with
   | 0=>v=.ro [.list .none 6 (cN [.mk gk gs ga (.mk gts gtl) gl,.mk ik is ia (.mk its itl) il])]
   | 1=>v=.list .none 6 (cN [.mk gk gs ga (.mk gts gtl) gl,.mk ik is ia (.mk its itl) il])
   | 2=>v=.ro [vi gk,vs gs,.list .none 4 (cJ ga),vs gts,.list .none 2 (cI gtl),.list .none 6 (cN gl)]
   | 3=>v=.agg [vi gk,vs gs,.list .none 4 (cJ ga),vs gts,.list .none 2 (cI gtl),.list .none 6 (cN gl)]
   | 4=>v=vi env
   | 5=>v=.val (.func (.func 205) #[] #[.pointer (some ⟨b5,0,none⟩)])
   | 6=>Wk v (.agg ((Dr.mk (path++[1]) vars ante (.mk hk hs' ha (.mk hts htl) hl) bound).emb q))
   | 7=>LF S U v 11 (eM q d1)
   | 8=>v=.ro [.list .none 6 (cN [.mk gk gs ga (.mk gts gtl) gl,.mk ik is ia (.mk its itl) il])]
   | 9=>v=.list .none 6 (cN [.mk gk gs ga (.mk gts gtl) gl,.mk ik is ia (.mk its itl) il])
   | 10=>v=.ro [vi ik,vs is,.list .none 4 (cJ ia),vs its,.list .none 2 (cI itl),.list .none 6 (cN il)]
   | 11=>v=.agg [vi ik,vs is,.list .none 4 (cJ ia),vs its,.list .none 2 (cI itl),.list .none 6 (cN il)]
   | 12=>v=vi env
   | 13=>v=.val (.func (.func 205) #[] #[.pointer (some ⟨b5,0,none⟩)])
   | 14=>Wk v (.agg ((Dr.mk (path++[2]) vars ante (.mk hk hs' ha (.mk hts htl) hl) bound).emb q))
   | _=>LF S U v 11 (eM q d2)) Xl (fun U=>Xl S4 U/\Has S4 U) xy xy ?_ ⟨.refl _,.refl _⟩ ?_ ?_
  ·intro i v U U' hR h
   match i,h with
   | 0,h=>exact h
   | 1,h=>exact h
   | 2,h=>exact h
   | 3,h=>exact h
   | 4,h=>exact h
   | 5,h=>exact h
   | 6,h=>exact h
   | 7,h=>exact h.keep hR
   | 8,h=>exact h
   | 9,h=>exact h
   | 10,h=>exact h
   | 11,h=>exact h
   | 12,h=>exact h
   | 13,h=>exact h
   | 14,h=>exact h
   | _+15,h=>exact h.keep hR
  ·refine wZ ?_
   refine⟨?_,?_,?_,?_,?_,?_,?_,?_,?_,?_,?_,?_,?_,?_,?_,?_,trivial⟩
   ·exact pZ
   ·exact ur
   ·exact sR
   ·exact ur
   ·exact te
   ·exact rB
   ·rintro fr U hk hG ⟨h0,-⟩
    refine wM ?_
    refine(Qf q _ 1 b5 U xX (hG.1 _ _ n4)).nd.mono ?_
    exact pI
   ·rintro fr U hk hG ⟨h3,h4,h6,-⟩
    try simp only[go_sem,seval,h3,h4]
    refine((hi1 U hm1 yD he).wk3 (.refl _) (.refl _) h6).nd.mono ?_
    exact rc
   ·exact pZ
   ·exact ur
   ·exact sR
   ·exact ur
   ·exact te
   ·exact rB
   ·rintro fr U hk hG ⟨h0,-⟩
    refine wM ?_
    refine(Qf q _ 2 b5 U xX (hG.1 _ _ n4)).nd.mono ?_
    exact pI
   ·rintro fr U hk hG ⟨h3,h4,h6,-⟩
    try simp only[go_sem,seval,h3,h4]
    refine((hi2 U hm2 yD he).wk3 (.refl _) (.refl _) h6).nd.mono ?_
    exact rc
  rintro fr S5 hk ⟨hG1,hG2⟩ ⟨h5,h7,-⟩
  obtain⟨rt7,s7,e7,z7,-⟩:=id h7
  try simp only[go_sem,seval,e7]
  refine h5.append rfl xj (by rw[eo,eo];omega) z7 (H4.trans hG2) (fun v' S' hv' hkp hS'=>?_)
  refine uw ?_
  refine uJ ?_
  refine uw ?_
  exact .mk (.refl _) (.refl _) ⟨⟨_,rfl,by simpa[eM] using hv'⟩,hS'⟩
 have z5:=iU h5
 by_cases h7:k=7\/k=8
 ·obtain⟨g,h,rfl⟩:∃ g h,l=[g,h]:=by rcases h7 with rfl|rfl<;>exact XI hlen
  have hkid:=ey (k:=k) (s:=s) (a:=a) (t:=.mk ts tl) (x:=g) (y:=h)
  have hih:=ih h xf env
  have eD:drS (.mk k s a (.mk ts tl) [g,h]) env ⟨path,vars,ante,.mk hk hs' ha (.mk hts htl) hl,bound⟩=drS h env ⟨path++[if k=8 then 5 else 4],vars,ante++[⟨g,bound,decide (k=8)⟩],.mk hk hs' ha (.mk hts htl) hl,bound⟩:=by simp only[drS,IA,ig h10,ig h5,gZ h7]
  rw[eD]
  clear eD
  obtain⟨gk,gs,ga,⟨gts,gtl⟩,gl⟩:=g
  obtain⟨ik,is,ia,⟨its,itl⟩,il⟩:=h
  refine vX fun e0=>?_
  refine vY fun e1=>?_
  have x0:((0:Int)<((cN [.mk gk gs ga (.mk gts gtl) gl,.mk ik is ia (.mk its itl) il]).length:Nat))=True:=iS xx
  have x1:((1:Int)<((cN [.mk gk gs ga (.mk gts gtl) gl,.mk ik is ia (.mk its itl) il]).length:Nat))=True:=iS xx
  simp only[cM] at hih
  rcases h7 with rfl|rfl
  ·rw[ig xj,jY xj]
   have z7:True:=trivial
   try simp only[go_sem,seval,z10,z5,z7,iV]
   intro bm hbm
   refine Yv (l:=[]) (c:=0) PQ fa1 (Ze _ _ _) ?_
   rw[Yo]
   refine uw ?_
   refine Yv (l:=[(7,vi 4,0)]) (c:=1) PQ fa1 (Ze _ _ _) ?_
   rw[Yo]
   refine uw ?_
   refine Ws (l:=[(7,vi 4,0),(8,vi 5,1)]) (c:=2) PQ fa1 Bc (Ze _ _ _) ?_
   rw[show lkV (.int .i64 0) (VL [((7:Int),vi 4,0),(8,vi 5,1)] 7) false=vi 4 from rfl]
   refine uw ?_
   have nm:bm≠b5:=iC hbm.1
   refine(Qf q ⟨path,vars,ante,.mk hk hs' ha (.mk hts htl) hl,bound⟩ 4 b5 _ (by show path.length<=1000000;omega) (by rw[Zc nm];exact n0)).nd.mono ?_
   rintro r S1 ⟨⟨⟨v,rfl,hv⟩,hH⟩,hn⟩
   have g5:=hH.get hn ((Zc nm _ _).trans n0)
   have hS:Has S S1:=fun p hp=>hH _ (kR _ (kR _ hp))
   clear n0
   simp only[Dr.cs,cM,kE,kF] at g5 ⊢
   refine uw ?_
   intro b8 hb8
   refine uZ fun U hU=>?_
   refine uS fun u5=>?_
   refine uY fun u8=>?_
   have uH:Has S U:=by rw[hU];exact hS.cons _
   have f8:Zm S b8:=hS.fresh hb8
   have v1:=hv.one
   have v2:=hv.cells
   have v3:=hv.wk
   rw[<- hU]
   clear hU g5 hS hb8 hH hn hv
   try simp only[go_sem,seval,u5,u8,v1,v2,e0,x0,jf,jq,jr,jt]
   refine⟨rfl,by rw[eK];simp only[lim,ij,im];omega,fun bt e c hbt=>?_⟩
   have nf:(bt=b8)=False:=iU (Zv u8 hbt).symm
   have w8:∀ x,(U.set b8 x).get b8=some x:=fun x=>Zd u8
   try simp only[go_sem,seval,u5,u8,v1,v2,w8,nf,e1,x1,iT,iV,jg,jq,jr,jt]
   refine Zh.mono (Zh.wk3 (hih ⟨path++[4],vars,ante++[⟨.mk gk gs ga (.mk gts gtl) gl,bound,false⟩],.mk hk hs' ha (.mk hts htl) hl,bound⟩ _ (hm _ xf) yD he) (.refl _) (.refl _) ?_) ?_
   ·exact qN
   exact qe
  ·rw[gZ rfl,jy rfl]
   have z7:((8:Int)=7)=False:=by decide
   try simp only[go_sem,seval,z10,z5,z7,iV]
   intro bm hbm
   refine Yv (l:=[]) (c:=0) PQ fa1 (Ze _ _ _) ?_
   rw[Yo]
   refine uw ?_
   refine Yv (l:=[(7,vi 4,0)]) (c:=1) PQ fa1 (Ze _ _ _) ?_
   rw[Yo]
   refine uw ?_
   refine Ws (l:=[(7,vi 4,0),(8,vi 5,1)]) (c:=2) PQ fa1 Bc (Ze _ _ _) ?_
   rw[show lkV (.int .i64 0) (VL [((7:Int),vi 4,0),(8,vi 5,1)] 8) false=vi 5 from rfl]
   refine uw ?_
   have nm:bm≠b5:=iC hbm.1
   refine(Qf q ⟨path,vars,ante,.mk hk hs' ha (.mk hts htl) hl,bound⟩ 5 b5 _ (by show path.length<=1000000;omega) (by rw[Zc nm];exact n0)).nd.mono ?_
   rintro r S1 ⟨⟨⟨v,rfl,hv⟩,hH⟩,hn⟩
   have g5:=hH.get hn ((Zc nm _ _).trans n0)
   have hS:Has S S1:=fun p hp=>hH _ (kR _ (kR _ hp))
   clear n0
   simp only[Dr.cs,cM,kE,kF] at g5 ⊢
   refine uw ?_
   intro b8 hb8
   refine uZ fun U hU=>?_
   refine uS fun u5=>?_
   refine uY fun u8=>?_
   have uH:Has S U:=by rw[hU];exact hS.cons _
   have f8:Zm S b8:=hS.fresh hb8
   have v1:=hv.one
   have v2:=hv.cells
   have v3:=hv.wk
   rw[<- hU]
   clear hU g5 hS hb8 hH hn hv
   try simp only[go_sem,seval,u5,u8,v1,v2,e0,x0,jf,jq,jr,jt]
   refine⟨rfl,by rw[eK];simp only[lim,ij,im];omega,fun bt e c hbt=>?_⟩
   have nf:(bt=b8)=False:=iU (Zv u8 hbt).symm
   have w8:∀ x,(U.set b8 x).get b8=some x:=fun x=>Zd u8
   try simp only[go_sem,seval,u5,u8,v1,v2,w8,nf,e1,x1,iT,iV,jg,jq,jr,jt]
   refine Zh.mono (Zh.wk3 (hih ⟨path++[5],vars,ante++[⟨.mk gk gs ga (.mk gts gtl) gl,bound,true⟩],.mk hk hs' ha (.mk hts htl) hl,bound⟩ _ (hm _ xf) yD he) (.refl _) (.refl _) ?_) ?_
   ·exact qN
   exact qe
 ·have z7:(k=7)=False:=iU fun e=>h7 (.inl e)
  have z8:(k=8)=False:=iU fun e=>h7 (.inr e)
  try simp only[go_sem,seval,z10,z5,z7,z8,iV]
  have eD:drS (.mk k s a (.mk ts tl) l) env ⟨path,vars,ante,.mk hk hs' ha (.mk hts htl) hl,bound⟩=[⟨path,vars,ante,.mk k s a (.mk ts tl) l,bound⟩]:=by simp only[drS,ig h10,ig h5,ig h7]
  rw[eD]
  exact⟨rfl,.mk (fH (e':=(Dr.mk path vars ante (.mk k s a (.mk ts tl) l) bound).emb q) (by simp only[Dr.emb,Dr.cs,cM,kE,kF];exact⟨.list _ _ _,.list _ _ _,.list _ _ _,.refl _,.refl _,.refl _,.refl _,.refl _,.refl _,.refl _,.refl _,trivial⟩)) (.refl _) ⟨⟨_,rfl,.full,11,rfl,.inl rfl,.inl rfl⟩,(Has.refl _).cons _⟩⟩
end Go.Vx
end
