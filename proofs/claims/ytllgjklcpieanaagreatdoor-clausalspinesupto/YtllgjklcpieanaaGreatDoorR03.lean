/- A part of the proof of clausalSpinesProved. -/
import Derived.Test.YtllgjklcpieanaaGreatDoorR02
set_option linter.unusedVariables false
set_option linter.unusedSimpArgs false
section
namespace Go.Vx
open Go.RowKit
structure Yt (L:Nat->Nat->Prop) (w:World) (s:Nat) (es:List (List AV)) (xs:List Value):Prop where
 len:xs.length=es.length * s
 sz:∀ (i:Nat) (e:List AV),es[i]?=some e->e.length=s
 v:∀ (i:Nat) (e:List AV) (j:Nat) (c:AV) (y:nG),es[i]?=some e->e[j]?=some c->xs[i * s+j]?=some y->V L w c y
 one:∀ x∈xs,x.oneCell'=true
theorem Yt.ev{σ σ':Store}{w w':nH}{s:Nat}{es:List (List AV)}{xs:List nG}(h:Yt (live σ) w s es xs)(e:Ev σ w σ' w'):Yt (live σ') w' s es xs :=
 ⟨h.len,h.sz,fun i x j c y a b d=>(h.v i x j c y a b d).ev e,h.one⟩
theorem Yt.append{L:Nat->Nat->Prop}{w:nH}{s:Nat}{es ys:List (List AV)}{xs zs:List nG}(h:Yt L w s es xs)(k:Yt L w s ys zs):Yt L w s (es++ys) (xs++zs) where
 len:=by rw[ii,ii,h.len,k.len,lZ]
 sz i e he:=by
  by_cases hi:i<es.length
  ·rw[jU hi] at he;exact h.sz i e he
  ·rw[jT xh] at he;exact k.sz _ e he
 v i e j c y he hc hy:=by
   by_cases hi:i<es.length
   ·rw[jU hi] at he
    have hj:j<s:=by have:=(List.getElem?_eq_some_iff.1 hc).1;rw[h.sz i e he] at this;exact this
    have hlt:i * s+j<xs.length:=by
     rw[h.len]
     calc i * s+j<i * s+s:=by omega
      _=(i+1) * s:=(lU _ _).symm
      _<=es.length * s:=lY _ hi
    rw[jU hlt] at hy
    exact h.v i e j c y he hc hy
   ·rw[jT xh] at he
    have hge:xs.length<=i * s+j:=by rw[h.len];have:=lY s (show es.length<=i by omega);omega
    rw[jT hge] at hy
    have e2:i * s+j-xs.length=(i-es.length) * s+j:=by rw[h.len,Nat.sub_mul];have:=lY s (show es.length<=i by omega);omega
    rw[e2] at hy
    exact k.v _ e j c y he hc hy
 one x hx:=by
  rcases List.mem_append.1 hx with hx|hx
  ·exact h.one x hx
  ·exact k.one x hx
theorem V.list_form{L:Nat->Nat->Prop}{w:nH}{r:Rt}{s:Nat}{es:List (List AV)}{v:nG}(h:V L w (.list r s es) v) :
 ∃ (a:nM Addr) (cap b o:Nat) (xs:List nG),v=.slice a es.length cap/\es.length<=cap/\es.length<=lim/\Py r a es.length cap s/\(es≠[]->a=some ⟨b,o,none⟩)/\Yt L w s es xs /\
   (∀ k x,xs[k]?=some x->¬ L b (o+k)/\w.cell? ⟨b,o+k,none⟩=some x):=by
 cases h with
 | list _ _ _ cap a b o rd hcap hlim hsz ha hr h1 h2 =>
   have split:∀ k,k<es.length * s->∃ i j e c,k=i * s+j/\es[i]?=some e/\e[j]?=some c:=by
    intro k hk
    have hs:0<s:=Nat.pos_of_ne_zero (by rintro rfl;simp at hk)
    have hi:k / s<es.length:=(Nat.div_lt_iff_lt_mul hs).2 hk
    have hj:k % s<s:=Nat.mod_lt _ hs
    have he:=hsz (k / s) es[k / s] (iO hi)
    exact⟨k / s,k % s,es[k / s],es[k / s][k % s]' xh,by rw[Nat.mul_comm];exact(Nat.div_add_mod k s).symm,iO hi,iO xh⟩
   refine⟨a,cap,b,o,(List.range (es.length * s)).map rd,rfl,hcap,hlim,hr,ha,⟨by simp,hsz,fun i e j c y he hc hy=>?_,fun x hx=>?_⟩,fun k x hx=>?_⟩
   ·simp only[jp,kQ] at hy
    obtain⟨k,hk,rfl⟩:=hy
    have hlt:=(List.getElem?_eq_some_iff.1 hk).1
    rw[lB (by simpa using hlt)] at hk
    injection hk with hk
    subst hk
    exact h2 i e j c he hc
   ·simp only[kK,List.mem_range] at hx
    obtain⟨k,hk,rfl⟩:=hx
    obtain⟨i,j,e,c,rfl,he,hc⟩:=split k hk
    exact(h1 i e j c he hc).2.2
   ·simp only[jp,kQ] at hx
    obtain⟨k',hk,rfl⟩:=hx
    have hlt:=(List.getElem?_eq_some_iff.1 hk).1
    simp only[List.length_range] at hlt
    rw[lB hlt] at hk
    injection hk with hk
    subst hk
    obtain⟨i,j,e,c,rfl,he,hc⟩:=split k hlt
    have:=h1 i e j c he hc
    exact⟨this.1,this.2.1⟩
theorem fB{L:Nat->Nat->Prop}{w:nH}{s:Nat}{es:List (List AV)}{xs:List nG}{cap b o:Nat}{a:nM Addr}(r:Rt)(hcap:es.length<=cap)(hlim:es.length<=lim)(hr:Py r a es.length cap s)
 (ha:es≠[]->a=some ⟨b,o,none⟩) (hc:Yt L w s es xs) (hx:∀ k x,xs[k]?=some x->¬ L b (o+k)/\w.cell? ⟨b,o+k,none⟩=some x):V L w (.list r s es) (.slice a es.length cap):=by
 have idx:∀ (i:Nat) (e:List AV) (j:Nat) (c:AV),es[i]?=some e->e[j]?=some c->i * s+j<xs.length:=by
  intro i e j c he hcj
  have hi:=(List.getElem?_eq_some_iff.1 he).1
  have hj:=(List.getElem?_eq_some_iff.1 hcj).1
  rw[hc.sz i e he] at hj
  rw[hc.len]
  calc i * s+j<i * s+s:=by omega
   _=(i+1) * s:=(lU _ _).symm
   _<=es.length * s:=lY _ hi
 refine .list r s es cap a b o (fun k=>xs.getD k .nilFunc) hcap hlim hc.sz ha hr (fun i e j c he hcj=>?_) (fun i e j c he hcj=>?_)
 ·have hk:=idx i e j c he hcj
  obtain⟨q1,q2⟩:=hx _ _ (iO hk)
  have:=hc.one _ (kj hk)
  simp only[jQ,iO hk,ko]
  exact⟨q1,q2,this⟩
 ·have hk:=idx i e j c he hcj
  have:=hc.v i e j c _ he hcj (iO hk)
  simpa[hk] using this
theorem XR{P:nE}{L:Nat->Nat->Prop}{w:nH}{s sz:Nat}{es:List (List AV)}{xs:List nG}{a:nM Addr}{cap b o:Nat}(hs:s=sz\/es=[])(ha:es≠[]->a=some ⟨b,o,none⟩)
 (hc:Yt L w s es xs) (hx:∀ k x,xs[k]?=some x->¬ L b (o+k)/\w.cell? ⟨b,o+k,none⟩=some x):(Builtin.firstCells sz es.length (.slice a es.length cap)).run P w=.ok xs.toArray w:=by
 by_cases he:es=[]
 ·subst he
  have:xs=[]:=by have:=hc.len;simpa using this
  subst this
  cases a with
  | none=>rfl
  | some a=>simp[Builtin.firstCells,loadCells,loadCellsFrom]
 ·rw[ha he]
  have hsz:s=sz:=hs.resolve_right he
  subst hsz
  simp only[Builtin.firstCells]
  rw[<- hc.len]
  refine run_loadCells_list (w:=w) _ xs (fun j v hj=>?_)
  rw[YC]
  exact(hx j v hj).2
def Tk(P:nE)(sT xT:nF)(s x:AV)(σ:Store)(K:AV->Store->Prop):Prop :=
 match Yf P sT,s,x with
 | some e,.list r s1 es,.list _ s2 ys=>match ZB P e,Zy P e,ZY P e with
   | some sz,some z,some by_=>(Yf P xT).isSome=true/\z.cells.size=sz/\by_<=512/\es.length+ys.length<=lim/\(s1=sz\/es=[])/\(s2=sz\/ys=[]) /\
     match r with
     | .full=>(ys=[]->K (.list .full s1 es) σ)/\(ys≠[]->∀ b e c,Zm σ b->K (.list (.tip b e c) sz (es++ys)) ((b,.tail e c)::σ))
     | .tip b0 e0 c0=>σ.get b0=some (.tail e0 c0)/\s1=sz/\∀ b e c,Zm (σ.del b0) b->K (.list (.tip b e c) sz (es++ys)) ((b,.tail e c)::σ.del b0)
     | .none=>ys=[]/\K (.list .none s1 es) σ
   | _,_,_=>False
 | _,_,_=>False
theorem KA(need cap:Nat)(h:¬ need<=cap):Builtin.nextslicecap need cap<=2 * need+768:=by
 have grow:∀ r c,c<=2 * need+768->Builtin.growBy need r c<=2 * need+768:=by
  intro r
  induction r with
  | zero=>intro c h;exact h
  | succ r ih =>
    intro c hc
    simp only[Builtin.growBy]
    split
    ·exact hc
    ·exact ih _ xh
 unfold Builtin.nextslicecap
 split
 ·omega
 ·split
  ·omega
  ·exact grow 4 cap xh
theorem WR(σ:Store)(b:Nat):Sub (σ.del b) σ:=by
 induction σ with
 | nil=>exact Sub.refl _
 | cons p r ih =>
   obtain⟨c,x⟩:=p
   simp only[Store.del]
   split
   ·exact Sub.cons r _
   ·refine⟨fun q hq=>?_,fun hn=>?_⟩
    ·simp only[lD] at hq ⊢
     exact hq.imp id (fun h=>ih.1 q h)
    ·simp only[iR,lF] at hn ⊢
     refine⟨fun hm=>hn.1 ?_,ih.2 hn.2⟩
     simp only[kK] at hm ⊢
     obtain⟨q,hq,e⟩:=hm
     exact⟨q,ih.1 q hq,e⟩
theorem UQ{σ:Store}(hn:(σ.map (·.1)).Nodup)(b:Nat)(x:AObj):(b,x) ∉ σ.del b:=by
 induction σ with
 | nil=>simp[Store.del]
 | cons p r ih =>
   obtain⟨c,y⟩:=p
   simp only[iR,lF] at hn
   simp only[Store.del]
   split
   ·rename_i e
    subst e
    intro h
    exact hn.1 (iB (f:=(·.1)) h)
   ·rename_i e
    intro h
    simp only[lD,lE] at h
    rcases h with⟨h,_⟩|h
    ·exact e h.symm
    ·exact ih hn.2 h
theorem U6{σ:Store}{b b':Nat}{x:AObj}(h:(b',x)∈σ)(hne:b'≠b):(b',x)∈σ.del b:=by
 induction σ with
 | nil=>simp at h
 | cons p r ih =>
   obtain⟨c,y⟩:=p
   simp only[Store.del]
   simp only[lD,lE] at h
   split
   ·rename_i e
    rcases h with⟨rfl,_⟩|h
    ·exact absurd e hne
    ·exact h
   ·rcases h with⟨rfl,rfl⟩|h
    ·exact ir
    ·exact kR _ (ih h)
theorem LI{P:nE}{σ σd:Store}{w:nH}{e:nF}{sz:Nat}{es ys:List (List AV)}{xs zs rest:List nG}{need newCap:Nat}(hσ:Zq σ w)(hsub:Sub σd σ)
 (hc:Yt (live σ) w sz (es++ys) (xs++zs)) (hneed:need=(es++ys).length) (hle:need<=newCap) (hlim:need<=lim) (hrest:rest.length=(newCap-need) * sz) :
 let w':=World.alloc { w with drawn:=w.drawn+1 } (.cells (xs++zs++rest).toArray e)
 V (live ((w.heap.size,.tail (need * sz) (newCap * sz))::σd)) w' (.list (.tip w.heap.size (need * sz) (newCap * sz)) sz (es++ys)) (.slice (some ⟨w.heap.size,0,none⟩) need newCap) /\
   Zq ((w.heap.size,.tail (need * sz) (newCap * sz))::σd) w'/\Ev σ w ((w.heap.size,.tail (need * sz) (newCap * sz))::σd) w':=by
 intro w'
 have h0:=(hσ.sub hsub).drew
 have e0:=(hsub.ev w).trans (Ev.drew σd w)
 have hlen:(xs++zs).length=need * sz:=by rw[hc.len,hneed]
 have htot:need * sz+(newCap-need) * sz=newCap * sz:=by rw[<- lZ];congr 1;omega
 have hs:({ w with drawn:=w.drawn+1 }:nH).heap.size=w.heap.size:=rfl
 have e1:=Ev.alloc h0 (.cells (xs++zs++rest).toArray e) (.tail (need * sz) (newCap * sz))
 have hok:=h0.alloc (.cells (xs++zs++rest).toArray e) (.tail (need * sz) (newCap * sz)) ⟨_,e,Xb _ _,by simp only[kg,ii] at hlen ⊢;omega⟩
 rw[hs] at e1 hok
 have ev:=e0.trans e1
 refine⟨?_,hok,ev⟩
 subst hneed
 refine fB (b:=w.heap.size) (o:=0) (xs:=xs++zs) _ hle hlim ⟨0,rfl,by simp,by simp⟩ (fun _=>rfl) (hc.ev ev) (fun k x hk=>?_)
 have hlt:=(List.getElem?_eq_some_iff.1 hk).1
 simp only[jG]
 refine⟨fun hl=>?_,?_⟩
 ·obtain⟨y,hy,hlv⟩:=hl
  simp only[lD,lE] at hy
  rcases hy with⟨_,rfl⟩|hy
  ·simp only[AObj.liveAt] at hlv;omega
  ·have:=(h0.obj _ _ hy).lt;simp only[hs] at this;omega
 ·have hb:=Xb { w with drawn:=w.drawn+1 } (.cells (xs++zs++rest).toArray e)
  rw[hs] at hb
  unfold World.cell?
  simp only[w',hb]
  simp only[mb,me,lJ,mf]
  rw[jU hlt,hk]
theorem N0{P:nE}{σ:Store}{w:nH}{sz b o e0 c0 cap:Nat}{es ys:List (List AV)}{xs zs:List nG}(hσ:Zq σ w)(hg:σ.get b=some (.tail e0 c0))
 (hc:Yt (live σ) w sz es xs) (hx:∀ k x,xs[k]?=some x->¬ live σ b (o+k)/\w.cell? ⟨b,o+k,none⟩=some x) (hd:Yt (live σ) w sz ys zs)
 (he:o+es.length * sz=e0) (hcap:o+cap * sz=c0) (hle:es.length+ys.length<=cap) (hlim:es.length+ys.length<=lim) :
 ∃ w',(storeCells ⟨b,o+es.length * sz,none⟩ zs).run P w=.ok () w' /\
   V (live ((b,.tail (e0+ys.length * sz) c0)::σ.del b)) w' (.list (.tip b (e0+ys.length * sz) c0) sz (es++ys)) (.slice (some ⟨b,o,none⟩) (es.length+ys.length) cap) /\
   Zq ((b,.tail (e0+ys.length * sz) c0)::σ.del b) w'/\Ev σ w ((b,.tail (e0+ys.length * sz) c0)::σ.del b) w':=by
 obtain⟨cur,T,hb,hcs⟩:=hσ.obj b _ (ZU hg)
 have hle':es.length * sz+ys.length * sz<=cap * sz:=by rw[<- lZ];exact lY _ hle
 have hzl:=hd.len
 have hrun:=run_storeCells_cells (P:=P) b e0 zs 0 w (fun j hj=>by
  have:e0+0+j<cur.size:=by omega
  unfold World.cell?;simp only[hb];simp;omega) (fun j hj=>by simp[World.frozen?,hb]) hd.one
 simp only[iw] at hrun
 obtain⟨k1,k2,k3,k4,k5,k6⟩:=TG b e0 zs w cur T (0,0) hb xh
 have hlv:∀ b' o',live ((b,.tail (e0+ys.length * sz) c0)::σ.del b) b' o'->live σ b' o':=by
  intro b' o' ⟨y,hy,hl⟩
  simp only[lD,lE] at hy
  rcases hy with⟨rfl,rfl⟩|hy
  ·refine⟨_,ZU hg,?_⟩
   simp only[AObj.liveAt] at hl ⊢
   omega
  ·exact⟨y,(WR σ b).1 _ hy,hl⟩
 have out:∀ o',¬ (e0<=o'/\o'<e0+zs.length)->(w.setCells b e0 zs).cell? ⟨b,o',none⟩=w.cell? ⟨b,o',none⟩:=by
  intro o' ho
  exact World.cell?_setCells_out b zs e0 w ⟨b,o',none⟩ (fun _ _=>by simp only;omega)
 have ev:Ev σ w ((b,.tail (e0+ys.length * sz) c0)::σ.del b) (w.setCells b e0 zs) :=
  Ev.turn (b:=b) (fun b' o' _ hl=>hlv b' o' hl) k4 k5 k6 k3 k2 (fun o' hn=>out o' (fun⟨h1,h2⟩=>hn ⟨_,ZU hg,h1⟩)) ⟨e0,_,ZU hg,kO _⟩ (by rw[W4];exact kO _)
 refine⟨_,by rw[he];exact hrun,?_,⟨?_,fun b' y hy=>?_⟩,ev⟩
 ·have key:=fB (L:=live ((b,.tail (e0+ys.length * sz) c0)::σ.del b)) (w:=w.setCells b e0 zs) (s:=sz) (es:=es++ys) (xs:=xs++zs) (cap:=cap) (b:=b) (o:=o) (a:=some ⟨b,o,none⟩)
   (.tip b (e0+ys.length * sz) c0) (by simp;exact hle) (by simp;exact hlim) ⟨o,rfl,by simp only[ii,lZ];omega,hcap⟩ (fun _=>rfl) ((hc.append hd).ev ev) (fun k x hk=>by
    by_cases hlt:k<xs.length
    ·rw[jU hlt] at hk
     obtain⟨q1,q2⟩:=hx k x hk
     refine⟨fun hl=>q1 (hlv _ _ hl),?_⟩
     rw[out (o+k) (by rw[hc.len] at hlt;omega)]
     exact q2
    ·rw[jT xh] at hk
     have hlt2:=(List.getElem?_eq_some_iff.1 hk).1
     have hkk:o+k=e0+(k-xs.length):=by rw[hc.len] at hlt ⊢;omega
     refine⟨fun hl=>?_,?_⟩
     ·obtain⟨y,hy,hl⟩:=hl
      simp only[lD,lE] at hy
      rcases hy with⟨_,rfl⟩|hy
      ·simp only[AObj.liveAt] at hl;omega
      ·exact UQ hσ.nodup b y hy
     ·rw[hkk]
      unfold World.cell?
      simp only[k1]
      simp only[mb,me,lJ,mf]
      rw[jT (by rw[ip];omega)]
      have:(List.take e0 cur.toList).length=e0:=by rw[ip];simp;omega
      rw[this,show e0+(k-xs.length)-e0=k-xs.length from by omega,jU hlt2,hk])
  simpa using key
 ·simp only[iR,lF]
  refine⟨fun hm=>?_,(WR σ b).2 hσ.nodup⟩
  simp only[kK] at hm
  obtain⟨⟨b',y⟩,hy,rfl⟩:=hm
  exact UQ hσ.nodup _ y hy
 ·simp only[lD,lE] at hy
  rcases hy with⟨rfl,rfl⟩|hy
  ·exact⟨_,T,k1,by simp only[kg,ii,ip,iP,lO];omega⟩
  ·have hne:b'≠b:=by rintro rfl;exact UQ hσ.nodup _ y hy
   exact(hσ.obj b' y ((WR σ b).1 _ hy)).keep (k2 b' hne) (fun _ _ hv=>hv.ev ev)
open Go.RowKit
theorem W1{P:nE}{e by_:Nat}(hb:ZY P e=some by_)(w:nH):(typeInfo e).run P w=.ok ((P.info? e).getD default) w/\((P.info? e).getD default).bytes=by_:=by
 unfold ZY at hb
 simp only[kQ] at hb
 obtain⟨i,hi,rfl⟩:=hb
 exact⟨by simp[typeInfo,hi],by simp[hi]⟩
theorem Y6{P:nE}{sT xT ty e:nF}{w:nH}{sz:Nat}{base:nM Addr}{len cap n:Nat}{x:nG}{new:List nG}(he:Yf P sT=some e)(hs:ZB P e=some sz)
 (hx:(Yf P xT).isSome=true) (hl:(Builtin.lenOf x).run P w=.ok n w) (hnew:(Builtin.firstCells sz n x).run P w=.ok new.toArray w) (h1:len+n<=cap) :
 (Builtin.append_ #[sT,xT] ty #[.slice base len cap,x]).run P w=(match base with
  | some a=>(storeCells (a.add (len * sz)) new).run P w
  | none=>Result.ok () w).andThen fun _ w'=>.ok (.slice base (len+n) cap) w':=by
 obtain⟨e',he'⟩:=Option.isSome_iff_exists.1 hx
 have hd:=Xr he'
 unfold Builtin.append_
 simp only[mf,kU,mg]
 simp only[jZ,kB (Xr he),kC,Z8 hs,kB hd,kf,me,lJ,hl,h1,iE,jB,hnew]
 cases base with
 | none=>rfl
 | some a=>simp only[jZ,kf]
theorem Ur{P:nE}{sT xT ty e:nF}{w:nH}{sz by_:Nat}{z:nG}{base:nM Addr}{len cap n:Nat}{x:nG}{new old:List nG}(he:Yf P sT=some e)(hs:ZB P e=some sz)(hz:Zy P e=some z)(hb:ZY P e=some by_)
 (hx:(Yf P xT).isSome=true) (hl:(Builtin.lenOf x).run P w=.ok n w) (hnew:∀ w':nH,w'.heap=w.heap->(Builtin.firstCells sz n x).run P w'=.ok new.toArray w')
 (hold:∀ w':nH,w'.heap=w.heap->(Builtin.firstCells sz len (.slice base len cap)).run P w'=.ok old.toArray w') (h1:¬ len+n<=cap) (h2:len+n<=lim) (h3:by_<=512) :
 ∃ newCap,len+n<=newCap/\(Builtin.append_ #[sT,xT] ty #[.slice base len cap,x]).run P w =
   .ok (.slice (some ⟨w.heap.size,0,none⟩) (len+n) newCap) (World.alloc { w with drawn:=w.drawn+1 } (.cells (old++new++(Builtin.zeroCells z.cells (newCap-(len+n))).toList).toArray e)):=by
 obtain⟨e',he'⟩:=Option.isSome_iff_exists.1 hx
 have hd:=Xr he'
 have hmax:IntKind.i64.max=9223372036854775807:=rfl
 simp only[lim] at h2
 refine⟨(Question.appendCap (len+n) cap e).cut (w.tape w.drawn (Question.appendCap (len+n) cap e)),by simp[Question.cut],?_⟩
 generalize hq:(Question.appendCap (len+n) cap e).cut (w.tape w.drawn (Question.appendCap (len+n) cap e))=nc
 have k3:¬ (((len+n:Nat):Int) > IntKind.i64.max/\(False\/by_=0)):=by
  intro⟨a,_⟩
  rw[hmax] at a
  omega
 have k4:¬ Builtin.nextslicecap (len+n) cap * by_ > 2 ^ 48:=by
  have:=KA (len+n) cap h1
  have h5:Builtin.nextslicecap (len+n) cap * by_<=(2 * (len+n)+768) * 512:=Nat.mul_le_mul this h3
  omega
 have hch:∀ w':nH,w'.drawn=w.drawn->w'.tape=w.tape->(choose (Question.appendCap (len+n) cap e)).run P w'=.ok nc { w' with drawn:=w'.drawn+1 }:=by
  intro w' a b
  rw[run_choose,ig (by simp[Question.forced]),b,a,hq]
 unfold Builtin.append_
 simp only[mf,kU,mg]
 simp only[jZ,kB (Xr he),kC,Z8 hs,kB hd,kf,me,lJ,hl,h1,jB,(W1 hb _).1,(W1 hb w).2]
 rw[ig k3]
 simp only[jZ,(W1 hb _).1,(W1 hb w).2,kC]
 rw[ig k4]
 simp only[jZ,hch w rfl rfl,kC,(W1 hb _).1,run_askRoom,iE]
 rw[hold { w with drawn:=w.drawn+1 } rfl]
 simp only[kC]
 rw[hnew { w with drawn:=w.drawn+1 } rfl]
 simp only[kC,WV hz,newRow,jZ,kf,run_newObj]
 congr 2
 show w.heap.push _=w.heap.push _
 congr 2
 apply Array.toList_inj.1
 simp
theorem Wt(z:nN nG)(n:Nat):(Builtin.zeroCells z n).toList.length=n * z.size:=by simp[Builtin.zeroCells]
theorem P1{P:nE}{sT xT ty:nF}{s x:AV}{σ:Store}{K:AV->Store->Prop}{w:nH}{sv xv:nG}(h:Tk P sT xT s x σ K)(hσ:Zq σ w)(hs:V (live σ) w s sv)(hx:V (live σ) w x xv) :
 ∃ y w' av σ',(Builtin.append_ #[sT,xT] ty #[sv,xv]).run P w=.ok y w'/\V (live σ') w' av y/\Zq σ' w'/\Ev σ w σ' w'/\K av σ':=by
 unfold Tk at h
 split at h
 case h_2=>exact h.elim
 rename_i e r s1 es r2 s2 ys he
 split at h
 case h_2=>exact h.elim
 rename_i sz z by_ hsz hz hby
 obtain⟨hxT,hzs,hb512,hlim,hs1,hs2,h⟩:=h
 obtain⟨a,cap,b,o,xs,rfl,hcap,hl1,hr,ha,hc,hcx⟩:=hs.list_form
 obtain⟨a2,cap2,b2,o2,zs,rfl,hcap2,hl2,hr2,ha2,hd,hdx⟩:=hx.list_form
 have fit:∀ w':nH,w'.heap=w.heap->∀ (b o:Nat) (k:Nat) (x:nG),w.cell? ⟨b,o+k,none⟩=some x->w'.cell? ⟨b,o+k,none⟩=some x:=by
  intro w' hw b o k x hh
  rw[<- hh];unfold World.cell?;rw[hw]
 have hlen:∀ w',(Builtin.lenOf (.slice a2 ys.length cap2)).run P w'=.ok ys.length w':=fun _=>rfl
 have hnew:∀ w':nH,w'.heap=w.heap->(Builtin.firstCells sz ys.length (.slice a2 ys.length cap2)).run P w'=.ok zs.toArray w':=fun w' hw =>
  XR (L:=live σ) (w:=w') hs2 ha2 ⟨hd.len,hd.sz,fun i e j c y p q t=>(hd.v i e j c y p q t).mono (fun _ _ _ h=>h) (fun b o _ _=>by unfold World.cell?;rw[hw]),hd.one⟩ (fun k x hk=>⟨(hdx k x hk).1,fit w' hw _ _ _ _ (hdx k x hk).2⟩)
 have hold:∀ w':nH,w'.heap=w.heap->(Builtin.firstCells sz es.length (.slice a es.length cap)).run P w'=.ok xs.toArray w':=fun w' hw =>
  XR (L:=live σ) (w:=w') hs1 ha ⟨hc.len,hc.sz,fun i e j c y p q t=>(hc.v i e j c y p q t).mono (fun _ _ _ h=>h) (fun b o _ _=>by unfold World.cell?;rw[hw]),hc.one⟩ (fun k x hk=>⟨(hcx k x hk).1,fit w' hw _ _ _ _ (hcx k x hk).2⟩)
 have sure1:Yt (live σ) w sz es xs:=by
  rcases hs1 with rfl|rfl
  ·exact hc
  ·have:xs=[]:=by have:=hc.len;simpa using this
   subst this
   exact⟨by simp,by simp,by simp,by simp⟩
 have sure2:Yt (live σ) w sz ys zs:=by
  exact rC
 have grow:∀ σd,Sub σd σ->¬ es.length+ys.length<=cap->(∀ b e c,Zm σd b->K (.list (.tip b e c) sz (es++ys)) ((b,.tail e c)::σd)) ->
  ∃ y w' av σ',(Builtin.append_ #[sT,xT] ty #[.slice a es.length cap,.slice a2 ys.length cap2]).run P w=.ok y w'/\V (live σ') w' av y/\Zq σ' w'/\Ev σ w σ' w'/\K av σ':=by
  intro σd hsub hno hk
  obtain⟨nc,hnc,hrun⟩:=Ur (ty:=ty) (P:=P) (w:=w) he hsz hz hby hxT (hlen w) hnew hold hno hlim hb512
  obtain⟨q1,q2,q3⟩:=LI (P:=P) (e:=e) (need:=es.length+ys.length) (newCap:=nc) (rest:=(Builtin.zeroCells z.cells (nc-(es.length+ys.length))).toList) hσ hsub (sure1.append sure2) xf hnc hlim (by rw[Wt,hzs])
  exact⟨_,_,_,_,hrun,q1,q2,q3,hk _ _ _ ((hσ.sub hsub).fresh (kO _))⟩
 cases r with
 | full =>
   simp only[Py] at hr
   by_cases hy:ys=[]
   ·subst hy
    refine vT fun hrun=>?_
    have hz0:zs=[]:=by have:=hd.len;simpa using this
    subst hz0
    refine⟨_,w,_,σ,?_,hs,hσ,Ev.refl _ _,h.1 rfl⟩
    rw[hrun]
    cases a<;>simp[storeCells]
   ·refine grow σ (Sub.refl _) ?_ (h.2 hy)
    have:0<ys.length:=List.length_pos_iff.2 hy
    omega
 | none =>
   obtain⟨rfl,h⟩:=h
   refine vT fun hrun=>?_
   have hz0:zs=[]:=by have:=hd.len;simpa using this
   subst hz0
   refine⟨_,w,_,σ,?_,hs,hσ,Ev.refl _ _,h⟩
   rw[hrun]
   cases a<;>simp[storeCells]
 | tip b0 e0 c0 =>
   obtain⟨hg,rfl,hk⟩:=h
   obtain⟨o',ha',he0,hc0⟩:=hr
   by_cases hroom:es.length+ys.length<=cap
   ·subst ha'
    have hcx':∀ k x,xs[k]?=some x->¬ live σ b0 (o'+k)/\w.cell? ⟨b0,o'+k,none⟩=some x:=by
     intro k x hk
     by_cases hne:es=[]
     ·subst hne
      have:xs=[]:=by have:=hc.len;simpa using this
      subst this
      simp at hk
     ·have:=ha hne
      injection this with this
      injection this with e1 e2
      subst e1;subst e2
      exact hcx k x hk
    obtain⟨w',r1,r2,r3,r4⟩:=N0 (P:=P) hσ hg hc hcx' sure2 he0 hc0 hroom hlim
    have hrun:=Y6 (ty:=ty) (P:=P) (w:=w) (base:=some ⟨b0,o',none⟩) (cap:=cap) he hsz hxT (hlen w) (hnew w rfl) hroom
    refine⟨_,w',_,_,?_,r2,r3,r4,hk _ _ _ (QX fun x=>UQ hσ.nodup b0 x)⟩
    rw[hrun]
    simp only[YC,r1,kC]
   ·exact grow _ (WR σ b0) hroom hk
open Go.RowKit
def VC(P:nE)(t:nF)(x:AV)(σ:Store)(K:AV->Prop):Prop :=
 match x,P.underlying t with
 | .list _ _ es,some (.slice _)=>K (.val (.int .i64 es.length))
 | .val (.string s),some .string=>K (.val (.int .i64 s.size))
 | .val (.slice _ n _),some (.slice _)=>K (.val (.int .i64 n))
 | .val (.map none),some (.map _ _)=>K (.val (.int .i64 0))
 | .val (.map (some r)),some (.map _ _)=>match σ.get r with
   | some (.map es _)=>K (.val (.int .i64 es.length))
   | _=>False
 | _,some (.array n _)=>K (.val (.int .i64 n))
 | _,_=>False
theorem Jx{P:nE}{t ty:nF}{x:AV}{σ:Store}{K:AV->Prop}{w:nH}{v:nG}(h:VC P t x σ K)(hσ:Zq σ w)(hx:V (live σ) w x v) :
 ∃ y av,(Builtin.len_ #[t] ty #[v]).run P w=.ok y w/\V (live σ) w av y/\K av:=by
 unfold VC at h
 split at h
 ·rename_i e hu
  obtain⟨a,cap,b,o,xs,rfl,_⟩:=hx.list_form
  exact rk
 ·rename_i hu;cases hx
  exact rk
 ·rename_i hu;cases hx
  exact rk
 ·rename_i hu;cases hx
  exact rk
 ·rename_i hu;cases hx
  split at h
  ·rename_i es cl hg
   obtain⟨ms,hb,hl,_⟩:=hσ.obj _ _ (ZU hg)
   refine⟨_,_,?_,.val _,h⟩
   simp[Builtin.len_,kB hu,goInt,getObj,Sem.run,hb,hl]
  ·exact h.elim
 ·rename_i n e hu
  exact⟨_,_,by simp[Builtin.len_,kB (by assumption:P.underlying t=some (.array _ _)),goInt],.val _,h⟩
 ·exact h.elim
theorem Yt.cut{L:Nat->Nat->Prop}{w:nH}{s:Nat}{es:List (List AV)}{xs:List nG}(h:Yt L w s es xs){l n:Nat}(hl:l+n<=es.length) :
 Yt L w s ((es.drop l).take n) ((xs.drop (l * s)).take (n * s)) where
 len:=by
  have:=lY s hl
  rw[ip,iP,ip,iP,h.len]
  rw[lZ] at this
  rw[ks xh,ks xh]
 sz i e he:=by
  have hi:i<n:=by have:=(List.getElem?_eq_some_iff.1 he).1;rw[ip] at this;omega
  rw[jF hi,ku] at he
  exact h.sz _ e he
 v i e j c y he hc hy:=by
   have hi:i<n:=by have:=(List.getElem?_eq_some_iff.1 he).1;rw[ip] at this;omega
   rw[jF hi,ku] at he
   have hj:j<s:=by have:=(List.getElem?_eq_some_iff.1 hc).1;rw[h.sz _ e he] at this;exact this
   have hk:i * s+j<n * s:=by
    calc i * s+j<i * s+s:=by omega
     _=(i+1) * s:=(lU _ _).symm
     _<=n * s:=lY _ hi
   rw[jF hk,ku,show l * s+(i * s+j)=(l+i) * s+j from by rw[lZ];omega] at hy
   exact h.v _ e j c y he hc hy
 one x hx:=h.one x (iX (iY hx))
def XL(x:nM AV)(d:Int):nM Int :=
 match x with
 | none=>some d
 | some (.val (.int _ n))=>some n
 | some _=>none
def WF:nM AV->Rt->Rt
 | none,.full=>.full
 | _,_=>.none
def Tt(P:nE)(t:nF)(x:AV)(lo hi mx:nM AV)(K:AV->Prop):Prop :=
 match x,P.underlying t with
 | .val (.string s),some .string=>match XL lo 0,XL hi s.size,mx with
   | some l,some h,none=>0<=l/\l<=h/\h<=s.size/\K (.val (.string (s.extract l.toNat h.toNat)))
   | _,_,_=>False
 | .list r s es,some (.slice e)=>match XL lo 0,XL hi es.length,mx with
   | some l,some h,none=>ZB P e=some s/\0<=l/\l<=h/\h<=es.length/\K (.list (WF hi r) s ((es.drop l.toNat).take (h.toNat-l.toNat)))
   | some l,some h,some (.val (.int _ m))=>ZB P e=some s/\hi.isSome=true/\0<=l/\l<=h/\h=m/\m<=es.length/\K (.list .full s ((es.drop l.toNat).take (h.toNat-l.toNat)))
   | _,_,_=>False
 | .val (.slice (some ⟨b,o,none⟩) n cap),some (.slice e)=>match lo,XL hi n,mx with
   | none,some h,none=>(ZB P e).isSome=true/\0<=h/\h<=cap/\K (.val (.slice (some ⟨b,o,none⟩) h.toNat cap))
   | _,_,_=>False
 | _,_=>False
theorem Yp{P:nE}{k:IntKind}{i:Int}{y:Nat}{code:BoundsCode}{w:nH}(h0:0<=i)(h1:i<=y):(Instr.sliceBound (.int k i) y code).run P w=.ok i.toNat w:=by
 simp[Instr.sliceBound,asIntOf,h0,h1]
theorem WJ{P:nE}{b:Bool}{len cap:Nat}{lo hi:nM nG}{l h:Int}{w:nH}(hl:(lo=none/\l=0)\/∃ k,lo=some (.int k l))(hh:(hi=none/\h=len)\/∃ k,hi=some (.int k h))
 (h0:0<=l) (h1:l<=h) (h2:h<=cap):(Instr.sliceBounds b len cap lo hi none).run P w=.ok (l.toNat,h.toNat,cap) w:=by
 have e:h=(h.toNat:Int):=by omega
 rcases hl with⟨rfl,rfl⟩|⟨k,rfl⟩<;>rcases hh with⟨rfl,rfl⟩|⟨k',rfl⟩
 ·simp[Instr.sliceBounds]
 ·simp[Instr.sliceBounds,Yp (P:=P) (by omega:0<=h) h2]
 ·simp[Instr.sliceBounds,Yp (P:=P) h0 h1]
 ·simp[Instr.sliceBounds,Yp (P:=P) (by omega:0<=h) h2,Yp (P:=P) (y:=h.toNat) h0 xh]
theorem SW{P:nE}{b:Bool}{len cap:Nat}{lo:nM nG}{k1 k2:IntKind}{l h m:Int}{w:nH}(hl:(lo=none/\l=0)\/∃ k,lo=some (.int k l))
 (h0:0<=l) (h1:l<=h) (h2:h<=m) (h3:m<=cap):(Instr.sliceBounds b len cap lo (some (.int k1 h)) (some (.int k2 m))).run P w=.ok (l.toNat,h.toNat,m.toNat) w:=by
 rcases hl with⟨rfl,rfl⟩|⟨k,rfl⟩
 ·simp[Instr.sliceBounds,Yp (P:=P) (by omega:0<=m) h3,Yp (P:=P) (y:=m.toNat) (by omega:0<=h) xh]
 ·simp[Instr.sliceBounds,Yp (P:=P) (by omega:0<=m) h3,Yp (P:=P) (y:=m.toNat) (by omega:0<=h) xh,Yp (P:=P) (y:=h.toNat) h0 xh]
theorem Va{L:Nat->Nat->Prop}{w:nH}{x:nM AV}{v:nM nG}{d n:Int}(h:XL x d=some n)(hn:x=none↔v=none)(hv:∀ a u,x=some a->v=some u->V L w a u):(v=none/\n=d)\/∃ k,v=some (.int k n):=by
 cases x with
 | none=>simp[XL] at h;exact .inl ⟨hn.1 rfl,h.symm⟩
 | some a =>
   cases v with
   | none=>simp at hn
   | some u =>
     have:=hv a u rfl rfl
     unfold XL at h
     split at h
     ·rename_i e;cases e
     ·rename_i k n' e
      injection e with e
      subst e
      cases this
      injection h with h
      subst h
      exact .inr ⟨_,rfl⟩
     ·cases h
theorem JD{P:nE}{t:nF}{x:AV}{lo hi mx:nM AV}{K:AV->Prop}{L:Nat->Nat->Prop}{w:nH}{xv:nG}{lov hiv mxv:nM nG}(h:Tt P t x lo hi mx K)(hx:V L w x xv)
 (l1:lo=none↔lov=none) (l2:∀ a u,lo=some a->lov=some u->V L w a u) (h1:hi=none↔hiv=none) (h2:∀ a u,hi=some a->hiv=some u->V L w a u)
 (m1:mx=none↔mxv=none) (m2:∀ a u,mx=some a->mxv=some u->V L w a u) :
 ∃ y av,(Instr.sliceAt t xv lov hiv mxv).run P w=.ok y w/\V L w av y/\K av:=by
 unfold Tt at h
 split at h
 ·rename_i s hu
  cases hx
  split at h
  ·rename_i l hh el eh
   obtain⟨g0,g1,g2,hk⟩:=h
   have hm:mxv=none:=m1.1 rfl
   subst hm
   have:=WJ (P:=P) (b:=false) (len:=s.size) (cap:=s.size) (w:=w) (Va el l1 l2) (Va eh h1 h2) g0 g1 g2
   exact⟨_,_,by simp[Instr.sliceAt,Instr.slice,kB hu,this],.val _,hk⟩
  ·exact h.elim
 ·rename_i r s es e hu
  obtain⟨a,cap,b,o,xs,rfl,hcap,hl1,hr,ha,hc,hcx⟩:=hx.list_form
  have base:∀ (l h:Int) (m cap':Nat) (r':Rt),ZB P e=some s->0<=l->l<=h->h<=es.length->h.toNat<=m->m<=cap->cap'=m-l.toNat ->
   Py r' (if m=l.toNat then a else a.map (·.add (l.toNat * s))) (h.toNat-l.toNat) cap' s ->
   (Instr.sliceBounds true es.length cap lov hiv mxv).run P w=.ok (l.toNat,h.toNat,m) w ->
   ∃ y,(Instr.sliceAt t (.slice a es.length cap) lov hiv mxv).run P w=.ok y w/\V L w (.list r' s ((es.drop l.toNat).take (h.toNat-l.toNat))) y:=by
   intro l h m cap' r' hs g0 g1 g2 g3 g4 hc' hr' hb
   have hlen:((es.drop l.toNat).take (h.toNat-l.toNat)).length=h.toNat-l.toNat:=by rw[ip,iP];omega
   refine⟨.slice (if m=l.toNat then a else a.map (·.add (l.toNat * s))) (h.toNat-l.toNat) (m-l.toNat),?_,?_⟩
   ·simp only[Instr.sliceAt,jZ,kB hu,kC,Instr.slice,hb,Z8 hs,kf]
   ·have key:=fB (L:=L) (w:=w) (s:=s) (es:=(es.drop l.toNat).take (h.toNat-l.toNat)) (xs:=(xs.drop (l.toNat * s)).take ((h.toNat-l.toNat) * s)) (cap:=m-l.toNat) (b:=b) (o:=o+l.toNat * s)
     (a:=if m=l.toNat then a else a.map (·.add (l.toNat * s))) r' (by rw[hlen];omega) (by rw[hlen];omega) (by rw[hlen,<- hc'];exact hr') (fun hne=>by
      have hne':es≠[]:=by rintro rfl;simp at hne
      have hlt:l.toNat<h.toNat:=by
       rcases Nat.lt_or_ge l.toNat h.toNat with q|q
       ·exact q
       ·exact absurd (by rw[show h.toNat-l.toNat=0 from by omega];simp) hne
      rw[ig xh,ha hne']
      simp[YC]) (hc.cut xh) (fun k x hk=>by
      have hk1:=(List.getElem?_eq_some_iff.1 hk).1
      rw[ip] at hk1
      rw[jF xh,ku] at hk
      have:=hcx _ x hk
      rw[jV]
      exact this)
    rw[hlen] at key
    exact key
  split at h
  ·rename_i l hh el eh
   obtain⟨hs,g0,g1,g2,hk⟩:=h
   have hm:mxv=none:=m1.1 rfl
   subst hm
   have hb:=WJ (P:=P) (b:=true) (len:=es.length) (cap:=cap) (w:=w) (Va el l1 l2) (Va eh h1 h2) g0 g1 xh
   obtain⟨y,r1,r2⟩:=base l hh cap (cap-l.toNat) (WF hi r) hs g0 g1 g2 xh (kO _) rfl (by
    unfold WF
    split
    ·simp[XL] at eh
     subst eh
     simp only[Py] at hr ⊢
     omega
    ·trivial) hb
   exact⟨y,_,r1,r2,hk⟩
  ·rename_i l hh k m el eh
   obtain⟨hs,hsome,g0,g1,g2,g3,hk⟩:=h
   subst g2
   cases mxv with
   | none=>simp at m1
   | some mv =>
     have:=m2 _ _ rfl rfl
     cases this
     have hhi:=Va eh h1 h2
     rcases hhi with⟨q,_⟩|⟨k',q⟩
     ·rw[h1.2 q] at hsome;simp at hsome
     ·subst q
      have hb:=SW (P:=P) (b:=true) (len:=es.length) (cap:=cap) (k1:=k') (k2:=k) (w:=w) (Va el l1 l2) g0 g1 (Int.le_refl hh) xh
      obtain⟨y,r1,r2⟩:=base l hh hh.toNat (hh.toNat-l.toNat) .full hs g0 g1 g3 (kO _) xh rfl rfl hb
      exact⟨y,_,r1,r2,hk⟩
  ·exact h.elim
 ·rename_i b o n cap e hu
  cases hx
  split at h
  ·rename_i hh eh
   obtain⟨hs,g0,g1,hk⟩:=h
   obtain⟨s,hs⟩:=Option.isSome_iff_exists.1 hs
   have hm:mxv=none:=m1.1 rfl
   have hl:lov=none:=l1.1 rfl
   subst hm;subst hl
   have hb:=WJ (P:=P) (b:=true) (len:=n) (cap:=cap) (w:=w) (.inl ⟨rfl,rfl⟩) (Va eh h1 h2) (Int.le_refl 0) g0 g1
   refine⟨_,_,?_,.val _,hk⟩
   simp only[Instr.sliceAt,jZ,kB hu,kC,Instr.slice,hb,Z8 hs,kf]
   simp[YC]
  ·exact h.elim
 ·exact h.elim
def amm(mx:Bool)(xs:List AV)(K:AV->Prop):Prop :=
 match xs with
 | [.val (.int k x),.val (.int k' y)]=>K (.val (.int k (if mx then max x y else min x y)))
 | _=>False
theorem Jt{P:nE}{xs:List AV}{vs:nN nG}{ts:nN nF}{ty:nF}{K:AV->Prop}{L:Nat->Nat->Prop}{w:nH}(h:amm true xs K)(hl:xs.length=vs.toList.length)
 (hv:∀ (i:Nat) (a:AV) (v:nG),xs[i]?=some a->vs.toList[i]?=some v->V L w a v):∃ y av,(Builtin.max_ ts ty vs).run P w=.ok y w/\V L w av y/\K av:=by
 unfold amm at h
 split at h
 ·rename_i k x k' y
  obtain⟨v0,v1,rfl⟩:∃ v0 v1,vs=#[v0,v1]:=by
   obtain⟨l⟩:=vs
   match l,hl with
   | [a,b],_=>exact⟨a,b,rfl⟩
  have q0:=hv 0 _ v0 rfl rfl
  have q1:=hv 1 _ v1 rfl rfl
  cases q0;cases q1
  refine⟨_,_,?_,.val _,h⟩
  have:(if y > x then y else x)=max x y:=by rw[Int.max_def];split<;>split<;>omega
  simp only[Builtin.max_,List.foldlM_cons,List.foldlM_nil,Builtin.max2,jZ,kf,kC,this,iE]
 ·exact h.elim
theorem Js{P:nE}{xs:List AV}{vs:nN nG}{ts:nN nF}{ty:nF}{K:AV->Prop}{L:Nat->Nat->Prop}{w:nH}(h:amm false xs K)(hl:xs.length=vs.toList.length)
 (hv:∀ (i:Nat) (a:AV) (v:nG),xs[i]?=some a->vs.toList[i]?=some v->V L w a v):∃ y av,(Builtin.min_ ts ty vs).run P w=.ok y w/\V L w av y/\K av:=by
 unfold amm at h
 split at h
 ·rename_i k x k' y
  obtain⟨v0,v1,rfl⟩:∃ v0 v1,vs=#[v0,v1]:=by
   obtain⟨l⟩:=vs
   match l,hl with
   | [a,b],_=>exact⟨a,b,rfl⟩
  have q0:=hv 0 _ v0 rfl rfl
  have q1:=hv 1 _ v1 rfl rfl
  cases q0;cases q1
  refine⟨_,_,?_,.val _,h⟩
  have:(if y<x then y else x)=min x y:=by rw[Int.min_def];split<;>split<;>omega
  simp only[Builtin.min_,List.foldlM_cons,List.foldlM_nil,Builtin.min2,jZ,kf,kC,this,lJ,me]
 ·exact h.elim
end Go.Vx
end
