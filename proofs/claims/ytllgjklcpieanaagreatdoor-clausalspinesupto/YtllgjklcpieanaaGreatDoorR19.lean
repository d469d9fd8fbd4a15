/- A part of the proof of clausalSpinesProved. -/
import Derived.Test.YtllgjklcpieanaaGreatDoorR11
import Derived.Test.YtllgjklcpieanaaGreatDoorR18
import Derived.Test.YtllgjklcpieanaaGreatDoorR12
import Derived.Test.YtllgjklcpieanaaGreatDoorR14
set_option linter.unusedVariables false
set_option linter.unusedSimpArgs false
set_option maxRecDepth 100000
section
namespace Go.Vx
open Go.Proofs
def Mj(a e:Int):nG:=.iface 335 (.agg #[.int .i64 a,.int .i64 e])
theorem Kf(b2 b3 b4:Nat)(σ:Store)(K:Store->Prop)(hK:K σ):Vl nC 295 [.pointer (some ⟨b2,0,none⟩),.pointer (some ⟨b3,0,none⟩),.pointer (some ⟨b4,0,none⟩)] .returning .returning σ K:=by
 refine LM [] .none Tryz.func295 rfl 6 rfl xy ?_
 rw[Tryz.ntmps295]
 refine uw ?_
 refine uN ?_
 refine uw ?_
 refine .cond rfl false yy (fun h=>by cases h) (fun _=>.skip ?_)
 exact rE
theorem Ke(b2 b3 b4:Nat)(a e:Int)(x2:AV)(x3 x4:AV)(σ:Store)(n23:b2≠b3)(n24:b2≠b4)(n34:b3≠b4)(g2:σ.get b2=some (.cells [x2]))(g3:σ.get b3=some (.cells [x3]))(g4:σ.get b4=some (.cells [x4]))(K:Store->Prop)
 (hK:K (((σ.set b2 (.cells [.list .full 0 []])).set b3 (.cells [vi a])).set b4 (.cells [vi e]))):Vl nC 295 [.pointer (some ⟨b2,0,none⟩),.pointer (some ⟨b3,0,none⟩),.pointer (some ⟨b4,0,none⟩)] (.panicking [{ v:=Mj a e,recovered:=false }]) (.panicking [{ v:=Mj a e,recovered:=true }]) σ K:=by
 refine LM [4] (.some _) Tryz.func295 rfl 6 rfl xy ?_
 rw[Tryz.ntmps295]
 try simp only[go_sem,seval,Mj]
 refine uN ?_
 refine uw ?_
 refine .cond rfl true yy (fun _=>?_) (fun h=>by cases h)
 refine uN ?_
 refine uw ?_
 intro b9 hb9
 refine uw ?_
 refine uN ?_
 refine uw ?_
 refine .ord (mu:=[]) 0 (.alt 1 (.alt 2 (.alt 3 (.alt 4 (.alt 5 (.alt 6 .done .done) .done) .done) (.alt 4 (.alt 3 (.alt 5 (.alt 6 .done .done) .done) (.alt 5 (.alt 3 (.alt 6 .done .done) .done) .done)) .done)) (.alt 4 (.alt 2 (.alt 3 (.alt 5 (.alt 6 .done .done) .done) (.alt 5 (.alt 3 (.alt 6 .done .done) .done) .done)) (.alt 5 (.alt 2 (.alt 3 (.alt 6 .done .done) .done) .done) .done)) .done)) (.alt 2 (.alt 1 (.alt 3 (.alt 4 (.alt 5 (.alt 6 .done .done) .done) .done) (.alt 4 (.alt 3 (.alt 5 (.alt 6 .done .done) .done) (.alt 5 (.alt 3 (.alt 6 .done .done) .done) .done)) .done)) (.alt 3 (.alt 1 (.alt 4 (.alt 5 (.alt 6 .done .done) .done) .done) (.alt 4 (.alt 1 (.alt 5 (.alt 6 .done .done) .done) .done) .done)) (.alt 4 (.alt 1 (.alt 3 (.alt 5 (.alt 6 .done .done) .done) (.alt 5 (.alt 3 (.alt 6 .done .done) .done) .done)) (.alt 3 (.alt 1 (.alt 5 (.alt 6 .done .done) .done) .done) .done)) .done))) (.alt 4 (.alt 1 (.alt 2 (.alt 3 (.alt 5 (.alt 6 .done .done) .done) (.alt 5 (.alt 3 (.alt 6 .done .done) .done) .done)) (.alt 5 (.alt 2 (.alt 3 (.alt 6 .done .done) .done) .done) .done)) (.alt 2 (.alt 1 (.alt 3 (.alt 5 (.alt 6 .done .done) .done) (.alt 5 (.alt 3 (.alt 6 .done .done) .done) .done)) (.alt 3 (.alt 1 (.alt 5 (.alt 6 .done .done) .done) .done) .done)) .done)) .done))) (.alt 2 (.alt 0 (.alt 1 (.alt 3 (.alt 4 (.alt 5 (.alt 6 .done .done) .done) .done) (.alt 4 (.alt 3 (.alt 5 (.alt 6 .done .done) .done) (.alt 5 (.alt 3 (.alt 6 .done .done) .done) .done)) .done)) (.alt 3 (.alt 1 (.alt 4 (.alt 5 (.alt 6 .done .done) .done) .done) (.alt 4 (.alt 1 (.alt 5 (.alt 6 .done .done) .done) .done) .done)) (.alt 4 (.alt 1 (.alt 3 (.alt 5 (.alt 6 .done .done) .done) (.alt 5 (.alt 3 (.alt 6 .done .done) .done) .done)) (.alt 3 (.alt 1 (.alt 5 (.alt 6 .done .done) .done) .done) .done)) .done))) (.alt 3 (.alt 0 (.alt 1 (.alt 4 (.alt 5 (.alt 6 .done .done) .done) .done) (.alt 4 (.alt 1 (.alt 5 (.alt 6 .done .done) .done) .done) .done)) (.alt 4 (.alt 0 (.alt 1 (.alt 5 (.alt 6 .done .done) .done) .done) .done) .done)) (.alt 4 (.alt 0 (.alt 1 (.alt 3 (.alt 5 (.alt 6 .done .done) .done) (.alt 5 (.alt 3 (.alt 6 .done .done) .done) .done)) (.alt 3 (.alt 1 (.alt 5 (.alt 6 .done .done) .done) .done) .done)) (.alt 3 (.alt 0 (.alt 1 (.alt 5 (.alt 6 .done .done) .done) .done) .done) .done)) .done))) (.alt 4 (.alt 0 (.alt 1 (.alt 2 (.alt 3 (.alt 5 (.alt 6 .done .done) .done) (.alt 5 (.alt 3 (.alt 6 .done .done) .done) .done)) (.alt 5 (.alt 2 (.alt 3 (.alt 6 .done .done) .done) .done) .done)) (.alt 2 (.alt 1 (.alt 3 (.alt 5 (.alt 6 .done .done) .done) (.alt 5 (.alt 3 (.alt 6 .done .done) .done) .done)) (.alt 3 (.alt 1 (.alt 5 (.alt 6 .done .done) .done) .done) .done)) .done)) (.alt 2 (.alt 0 (.alt 1 (.alt 3 (.alt 5 (.alt 6 .done .done) .done) (.alt 5 (.alt 3 (.alt 6 .done .done) .done) .done)) (.alt 3 (.alt 1 (.alt 5 (.alt 6 .done .done) .done) .done) .done)) (.alt 3 (.alt 0 (.alt 1 (.alt 5 (.alt 6 .done .done) .done) .done) .done) .done)) .done)) .done)) xy xy xy ?_
 have s2:(σ.get b2).isSome=true:=by rw[g2];rfl
 have s3:(σ.get b3).isSome=true:=by rw[g3];rfl
 have s4:(σ.get b4).isSome=true:=by rw[g4];rfl
 have k:∃ σ',Sub σ' ((b9,AObj.cells [vi a,vi e])::((σ.set b2 (.cells [.list .full 0 []])).set b3 (.cells [vi a])).set b4 (.cells [vi e]))/\K σ':=⟨_,.cons _ _,hK⟩
 have fs:∀ (b:Nat) (y:AObj),Zm (σ.set b y) b9=Zm σ b9:=fun b y=>WZ
 have fs2:∀ (b c:Nat) (y z:AObj),Zm ((σ.set b y).set c z) b9=Zm σ b9:=fun b c y z=>by rw[WZ,WZ]
 try simp only[go_sem,seval,UW,Xg,BC,XY,WD,hb9,g2,g3,g4,n23,n24,n34,iC n23,iC n24,iC n34,fs,fs2,Option.isSome_map,jX]
 repeat' first|exact k|apply And.intro
theorem HJ(P:nE)(rs:List ResultVar)(R:ZE->Store->Prop)(fr:Fr)(σ:Store):UO P rs R .normal [] fr σ=Xf P rs R fr σ:=propext mG
theorem Ta(P:nE)(rs:List ResultVar)(R:ZE->Store->Prop)(pv:nG)(fr:Fr)(σ:Store):UO P rs R (.panic [{ v:=pv,recovered:=false }]) [] fr σ=JN R pv σ:=by
 simp only[UO,eq_iff_iff]
 exact rH
abbrev Tok:=Int×Str×Int
def tkE(t:Tok):List AV:=[vi t.1,vs t.2.1,vi t.2.2]
def WO(l:List Tok):List (List AV):=l.map tkE
def RF(s:Str):Nat->Nat->Nat->Sum (Int×Int) (List Tok)
 | 0,_,_=>.inr []
 | f + 1,a,many=>if a<s.size then
     (match Yk (s.extract a s.size) with
     | none=>.inl (a,10)
     | some (k,n)=>if many=6000 then .inl (a,2) else if(k=1\/k=2)/\40<((s.extract a s.size).extract 0 n).size then .inl (a,11) else
       match RF s f (XK s (s.size+1) (a+((s.extract a s.size).extract 0 n).size)) (many+1) with
       | .inl e=>.inl e
       | .inr l=>.inr ((k,(s.extract a s.size).extract 0 n,(a:Int))::l))
   else .inr []
def E4(acc:List Tok):Sum (Int×Int) (List Tok)->Sum (Int×Int) (List Tok)
 | .inl e=>.inl e
 | .inr l=>.inr (acc++l)
def Qm(s:Str):Sum (Int×Int) (List Tok):=RF s (s.size+1) (XK s (s.size+1) 0) 0
theorem T7(s:Str):∀ f a,a<=s.size->a<=XK s f a/\XK s f a<=s.size:=by
 intro f
 induction f with
 | zero=>intro a h;exact⟨kO _,h⟩
 | succ f ih =>
   intro a h
   rw[XK]
   split
   ·rename_i hlt
    split
    ·have:=ih (a+1) xh;omega
    ·split
     ·rename_i h37
      split
      ·rename_i h0
       have h1:=Ie s a hlt h37 h0
       have:=ih (a+(Qw s a).toNat) xh;omega
      ·have:=ih s.size (kO _);omega
     ·omega
   ·omega
theorem KG:∀ k:Fin 26,bAt Wv k.val=97+(k.val:Int):=by decide
theorem MR:∀ k:Fin 26,bAt Wv (26+k.val)=65+(k.val:Int):=by decide
theorem CM{x:Int}(h:Np x):QG x=true:=by
 unfold QG
 rw[kD]
 refine⟨(x-97).toNat,?_,?_,?_⟩
 ·show _<64;unfold Np at h;omega
 ·show _<64;unfold Np at h;omega
 ·have:=KG ⟨(x-97).toNat,by unfold Np at h;omega⟩
  rw[this];unfold Np at h;simp only;omega
theorem FW{x:Int}(h:QQ x):QG x=true:=by
 unfold QG
 rw[kD]
 refine⟨26+(x-65).toNat,?_,?_,?_⟩
 ·show _<64;unfold QQ at h;omega
 ·show _<64;unfold QQ at h;omega
 ·have:=MR ⟨(x-65).toNat,by unfold QQ at h;omega⟩
  rw[this];unfold QQ at h;simp only;omega
theorem JZ(r:Str)(h:0<r.size)(hb:QG (bAt r 0)=true):1<=Vw r (r.size+1) 0:=by
 rw[Vw,gZ ⟨h,hb⟩]
 exact(V4 r r.size 1 xh).1
theorem D9(r:Str)(h:0<r.size)(k:Int)(n:Nat)(ht:Yk r=some (k,n)):1<=n/\n<=r.size:=by
 unfold Yk at ht
 split at ht
 ·rename_i hs
  have h1:=JZ r h (CM hs)
  have h2:=V4 r (r.size+1) 0 xh
  have hN:1<=TL r/\TL r<=r.size:=by
   unfold TL
   split
   ·rename_i hc
    have:=V4 r (r.size+1) (Vw r (r.size+1) 0+1) xh
    omega
   ·omega
  split at ht
  ·rename_i ho;injection ht with ht;injection ht with a b;omega
  ·split at ht<;>(injection ht with ht;injection ht with a b;omega)
 ·split at ht
  ·rename_i hc
   injection ht with ht;injection ht with a b
   have h1:=JZ r h (FW hc)
   have h2:=V4 r (r.size+1) 0 xh
   omega
  ·split at ht
   ·rename_i hp
    injection ht with ht;injection ht with a b
    have:2<=r.size:=by rcases hp with hp|hp|hp<;>exact hp.1
    omega
   ·split at ht
    ·rename_i hp
     have:2<=r.size:=hp.1
     split at ht
     ·injection ht with ht;injection ht with a b;omega
     ·cases ht
    ·split at ht
     ·injection ht with ht;injection ht with a b;omega
     ·cases ht
theorem GV(s:Str)(σ:Store)(R:ZE->Store->Prop)(h:∀ b,Zm σ b->R (.ret (.val (.func (.func 308) #[] #[.pointer (some ⟨b,0,none⟩)]))) ((b,.cells [vs s])::σ)):Zh nC 296 [vs s] σ R:=by
 refine Zb [1] [] Tryz.func296 rfl xy ?_;rw[Tryz.ntmps296,Tryz.results296]
 exact qB
theorem bj(s:Str)(hsz:s.size<=20000)(l b1:Nat)(Pp:List Tok->Store->Prop)(hY:∀ acc S tok,acc.length<=6000->Pp acc S->WN nC l (.agg (tkE tok)) S (fun r S'=>r=.ret (.val (.bool true))/\Pp (acc++[tok]) S'/\∀ b t,S.get b=some (.cells (tkE t))->S'.get b=some (.cells (tkE t))))
 (hcons:∀ acc S b x,Pp acc S->Zm S b->Pp acc ((b,x)::S)) (hb1:∀ acc S,Pp acc S->S.get b1=some (.cells [vs s])) (S0:Store) (h0:Pp [] S0) :
 Zh nC 308 [.val (.func (.yield l) #[] #[]),.val (.pointer (some ⟨b1,0,none⟩))] S0
  (fun res S'=>∃ acc,Pp acc S'/\match Qm s with|.inr toks=>res=.ret (.tup [])/\acc=toks|.inl (a,e)=>res=.pan (Mj a e)):=by
 refine XF Tryz.func308 rfl xy (.of ?_)
 rw[Tryz.ntmps308,Tryz.results308]
 refine uN ?_
 refine uw ?_
 have g1:=hb1 _ _ h0
 refine uN ?_
 try simp only[go_sem,seval,g1]
 refine(O5 s 0 hsz).use ?_
 refine uw ?_
 have hk0:=T7 s (s.size+1) 0 xh
 refine .block (.loopT [3,4,5,6,9,10,11,12,13,14,15,16,17,18,19,20,21,22,23,24,25,26,27,28,29,30,31,32,33,34,35,36,37,38,39,40,41,42,43,44,45,46,47,48,49,50,51,52,53,54,55,56,57,58,59,60,61] (fun x:Nat×Nat×List Tok×Store=>[(4,vi x.1),(3,vi x.2.1)]) (fun x=>x.2.2.2) (fun x=>x.1<=s.size/\x.2.1<=6000/\x.2.2.1.length=x.2.1/\Pp x.2.2.1 x.2.2.2/\∃ f,s.size-x.1<f/\E4 x.2.2.1 (RF s f x.1 x.2.1)=Qm s)
  (fun x=>s.size-x.1) (XK s (s.size+1) 0,0,[],S0) ⟨hk0.2,by simp,rfl,h0,s.size+1,by dsimp only;omega,by simp only[Qm];generalize RF s (s.size+1) (XK s (s.size+1) 0) 0=q;cases q<;>rfl⟩ ⟨.refl _,.refl _,trivial⟩ (.refl _) ?_)
 rintro⟨a,m,acc,S⟩ ⟨ha,hm,hl,hP,f,hf,hc⟩
 dsimp only at ha hm hl hP hf hc ⊢
 have g1:=hb1 _ _ hP
 obtain⟨f,rfl⟩:∃ g,f=g+1:=⟨f-1,by omega⟩
 rw[RF] at hc
 refine uN ?_
 try simp only[go_sem,seval,g1]
 refine⟨fun hlt=>?_,fun hlt=>?_⟩
 ·have hlt:a<s.size:=by omega
  rw[gZ hlt] at hc
  refine .block (.seq (Zn (mu:=[]) (dr:=[]) xy _ xy _ _ _ ?_))
  try simp only[go_sem,seval,g1]
  refine(D7 s a hlt hsz).use ?_
  obtain⟨r,hr⟩:∃ r:Str,r=s.extract a s.size:=⟨_,rfl⟩
  have hrs:r.size=s.size-a:=by rw[hr];simp[mL]
  rw[<- hr] at hc ⊢
  cases ht:Yk r with
  | none =>
    rw[ht] at hc
    have hv:Y4 r a=.tup [.agg [vi 0,vs { data:=#[] },vi 0],vb false]:=by simp only[Y4,ht]
    rw[hv]
    refine uw ?_
    intro b5 hb5
    refine uw ?_
    refine uN ?_
    try simp only[go_sem,seval,Ta]
    exact rD
  | some kn =>
    obtain⟨k,n⟩:=kn
    have hn:=D9 r xh k n ht
    rw[ht] at hc
    dsimp only at hc
    obtain⟨x,hx⟩:∃ x:Str,x=r.extract 0 n:=⟨_,rfl⟩
    have hxs:x.size=n:=by rw[hx];simp[mL];omega
    rw[<- hx] at hc
    have hv:Y4 r a=.tup [.agg [vi k,vs x,vi a],vb true]:=by simp only[Y4,ht,hx]
    rw[hv]
    refine uw ?_
    intro b5 hb5
    refine uw ?_
    refine uN ?_
    by_cases h6:m=6000
    ·rw[gZ h6] at hc
     have h6':((m:Int)=6000)=True:=iS xh
     try simp only[go_sem,seval,Ta,h6',iT]
     exact rD
    ·rw[ig h6] at hc
     have h6':((m:Int)=6000)=False:=iU xh
     by_cases h40:(k=1\/k=2)/\40<x.size
     ·rw[gZ h40] at hc
      have hb40:((40:Int)<(x.size:Int))=True:=iS xh
      rcases h40.1 with rfl|rfl
      ·try simp only[go_sem,seval,Ta,h6',iV,hb40,iT]
       exact rD
      ·try simp only[go_sem,seval,Ta,h6',iV,hb40,iT]
       exact rD
     ·rw[ig h40] at hc
      by_cases hk:k=1\/k=2
      ·have hb40:((40:Int)<(x.size:Int))=False:=iU (fun h=>h40 ⟨hk,by omega⟩)
       rcases hk with rfl|rfl
       ·try simp only[go_sem,seval,h6',iV,hb40,iT]
        exact oi
       ·try simp only[go_sem,seval,h6',iV,hb40,iT]
        exact oi
      ·have hk1:(k=1)=False:=iU (fun h=>hk (.inl h))
       have hk2:(k=2)=False:=iU (fun h=>hk (.inr h))
       try simp only[go_sem,seval,h6',iV,hk1,hk2,iT]
       exact oi
 ·have hlt:¬ a<s.size:=by omega
  rw[ig hlt] at hc
  try simp only[go_sem,seval,HJ]
  refine .mk (.refl _) (.refl _) ⟨acc,hP,?_⟩
  rw[<- hc]
  simp[E4]
open Go.Proofs
structure PS (σ0:Store) (l D b1 b2 b3 b4:Nat) (r:Loop) (s:Str) (acc:List Tok) (S:Store):Prop where
 gl:S.get l=some (.raw (.loop r))
 gD:S.get D=some (.raw (.deferred (some [])))
 g1:S.get b1=some (.cells [vs s])
 g2:∃ rt sz,S.get b2=some (.cells [.list rt sz (WO acc)])/\(sz=3\/acc=[])/\((rt=.full/\acc=[])\/∃ b e c,rt=.tip b e c/\sz=3/\S.get b=some (.tail e c)/\Zm σ0 b)
 g3:S.get b3=some (.cells [vi 0])
 g4:S.get b4=some (.cells [vi 0])
 sub:∀ p∈σ0,p∈S
theorem PS.cons{σ0:Store}{l D b1 b2 b3 b4:Nat}{r:Loop}{s:Str}{acc:List Tok}{S:Store}(h:PS σ0 l D b1 b2 b3 b4 r s acc S){b:Nat}(hb:Zm S b)(x:AObj):PS σ0 l D b1 b2 b3 b4 r s acc ((b,x)::S):=by
 obtain⟨rt,sz,g2,hz,ht⟩:=h.g2
 refine⟨by rw[Zg hb (by rw[h.gl];rfl)];exact h.gl,by rw[Zg hb (by rw[h.gD];rfl)];exact h.gD,by rw[Zg hb (by rw[h.g1];rfl)];exact h.g1,
  ⟨rt,sz,by rw[Zg hb xG];exact g2,hz,ht.imp id (fun⟨b',e,c,h1,h2,h3,h4⟩=>⟨b',e,c,h1,h2,by rw[Zg hb (by rw[h3];rfl)];exact h3,h4⟩)⟩,
  by rw[Zg hb (by rw[h.g3];rfl)];exact h.g3,by rw[Zg hb (by rw[h.g4];rfl)];exact h.g4,fun p hp=>kR _ (h.sub p hp)⟩
theorem PS.app{σ0:Store}{l D b1 b2 b3 b4:Nat}{r:Loop}{s:Str}{acc:List Tok}{S S1:Store}(h:PS σ0 l D b1 b2 b3 b4 r s acc S)(hf2:Zm σ0 b2)(tok:Tok){b e c:Nat}
 (hS1:S1=S\/∃ b0 e0 c0,S.get b0=some (.tail e0 c0)/\Zm σ0 b0/\S1=S.del b0) (hb:Zm S1 b) :
 PS σ0 l D b1 b2 b3 b4 r s (acc++[tok]) (Store.set ((b,.tail e c)::S1) b2 (.cells [.list (.tip b e c) 3 (WO (acc++[tok]))]))/\∀ b' t,S.get b'=some (.cells (tkE t))->Store.get (Store.set ((b,.tail e c)::S1) b2 (.cells [.list (.tip b e c) 3 (WO (acc++[tok]))])) b'=some (.cells (tkE t)):=by
 obtain⟨rt,sz,g2,hz,ht⟩:=h.g2
 have keep:∀ k x,S.get k=some x->(∀ e c,x≠.tail e c)->S1.get k=some x:=by
  exact re
 have sub1:∀ p∈σ0,p∈S1:=by
  intro p hp
  rcases hS1 with rfl|⟨b0,e0,c0,hg,hf,rfl⟩
  ·exact h.sub p hp
  ·obtain⟨k,x⟩:=p
   exact U6 (h.sub _ hp) (YP hf hp)
 have k2:=keep b2 _ g2 xf
 have keep2:∀ k x,S.get k=some x->(∀ e c,x≠.tail e c)->k≠b2->Store.get (Store.set ((b,.tail e c)::S1) b2 (.cells [.list (.tip b e c) 3 (WO (acc++[tok]))])) k=some x:=by
  intro k x hk hx hne
  rw[Za hne,Zg hb (by rw[keep k x hk hx];rfl)]
  exact keep k x hk hx
 have n:∀ k x,S.get k=some x->x≠.cells [.list rt sz (WO acc)]->k≠b2:=fun k x hk hx e=>by rw[e,g2] at hk;injection hk with hk;exact hx hk.symm
 refine⟨⟨keep2 l _ h.gl xf (n l _ h.gl xf),keep2 D _ h.gD xf (n D _ h.gD xf),keep2 b1 _ h.g1 xf (n b1 _ h.g1 xf),⟨.tip b e c,3,Zd (x:=.cells [.list rt sz (WO acc)]) (by rw[Zg hb (by rw[k2];rfl)];exact k2),.inl rfl,.inr ⟨b,e,c,rfl,rfl,?_,Wa sub1 hb⟩⟩,keep2 b3 _ h.g3 xf (n b3 _ h.g3 xf),keep2 b4 _ h.g4 xf (n b4 _ h.g4 xf),fun p hp=>?_⟩,fun b' t hk=>?_⟩
 ·have hne:b≠b2:=fun e=>by rw[<- e,Zj hb] at k2;cases k2
  rw[Za hne,Ze]
 ·have h1:=kR (b,AObj.tail e c) (sub1 p hp)
  exact Qk p h1 (fun e=>by obtain⟨k,x⟩:=p;exact YP hf2 hp e)
 ·exact keep2 b' _ hk (by simp[tkE]) (n b' _ hk (by simp[tkE]))
theorem PS.turn{σ0:Store}{l D b1 b2 b3 b4:Nat}{r:Loop}{s:Str}{acc:List Tok}{S:Store}(h:PS σ0 l D b1 b2 b3 b4 r s acc S)(hf:Zm σ0 l)(r':Loop):PS σ0 l D b1 b2 b3 b4 r' s acc (S.set l (.raw (.loop r'))):=by
 obtain⟨rt,sz,g2,hz,ht⟩:=h.g2
 have n:∀ k x,S.get k=some x->x≠.raw (.loop r)->(S.set l (.raw (.loop r'))).get k=some x:=fun k x hk hx=>by
  rw[Za (fun e=>by rw[e,h.gl] at hk;injection hk with hk;exact hx hk.symm)];exact hk
 refine⟨Zd h.gl,n _ _ h.gD xf,n _ _ h.g1 xf,⟨rt,sz,n _ _ g2 xf,hz,ht.imp id (fun⟨b',e,c,h1,h2,h3,h4⟩=>⟨b',e,c,h1,h2,n _ _ h3 xf,h4⟩)⟩,n _ _ h.g3 xf,n _ _ h.g4 xf,fun p hp=>?_⟩
 exact Qk p (h.sub p hp) (fun e=>by obtain⟨k,x⟩:=p;exact YP hf hp e)
theorem T2(tmps:nN nG)(i:Nat):eV tmps i=.val (tmps.getD i undef):=rfl
def cz(σ:Store)(l D b1 b2 b3 b4:Nat)(r:Loop)(s:Str)(acc:List Tok)(Sx:Store):ZE->Store->Prop:=fun res S'=>res=.ret (.val (.bool true))/\PS σ l D b1 b2 b3 b4 r s acc S'/\∀ b t,Sx.get b=some (.cells (tkE t))->S'.get b=some (.cells (tkE t))
def VG(s:Str):AV:=if 20000<s.size then .tup [.list .none 3 [],vi 0,vi 2] else match Qm s with
 | .inr toks=>.tup [.list .none 3 (WO toks),vi 0,vi 0]
 | .inl (a,e)=>.tup [.list .none 3 [],vi a,vi e]
theorem Wk.nilN(s s':Nat):Wk (.list .full s []) (.list .none s' []):=(Wk.nil s s').trans (.list _ _ _)
theorem Ah(s:Str):Pur nC 266 [vs s] (VG s):=by
 intro σ
 refine Zh.nodup xy (fun hnd=>?_)
 refine Un Tryz.func266 rfl xy ?_
 rw[Tryz.ntmps266,Tryz.results266]
 refine uA ?_
 refine uy ?_
 intro b2 hb2 b3 hb3 b4 hb4
 simp only[ZW]
 have h2:Zm ((b3,AObj.cells [vi 0])::(b2,.cells [.list .full 0 []])::σ) b4:=hb4
 have g2:Store.get ((b4,AObj.cells [vi 0])::(b3,.cells [vi 0])::(b2,.cells [.list .full 0 []])::σ) b2=some (.cells [.list .full 0 []]):=by
  rw[Zg hb4 (by rw[Zg hb3 xB,Ze];rfl),Zg hb3 xB,Ze]
 have g3:Store.get ((b4,AObj.cells [vi 0])::(b3,.cells [vi 0])::(b2,.cells [.list .full 0 []])::σ) b3=some (.cells [vi 0]):=by
  rw[Zg hb4 xB,Ze]
 have g4:Store.get ((b4,AObj.cells [vi 0])::(b3,.cells [vi 0])::(b2,.cells [.list .full 0 []])::σ) b4=some (.cells [vi 0]):=Ze _ _ _
 obtain⟨S,hS⟩:∃ S:Store,S=(b4,AObj.cells [vi 0])::(b3,.cells [vi 0])::(b2,.cells [.list .full 0 []])::σ:=⟨_,rfl⟩
 have n34:b4≠b3:=hb4.1.symm
 have n24:b4≠b2:=hb4.2.1.symm
 have n23:b3≠b2:=hb3.1.symm
 have f2:Zm σ b2:=hb2
 have f3:Zm σ b3:=hb3.2
 have f4:Zm σ b4:=hb4.2.2
 have hsub:∀ p∈σ,p∈S:=fun p hp=>by rw[hS];simp[hp]
 rw[<- hS] at g2 g3 g4
 have hcl:((b4,AObj.cells [AV.val (Value.int IntKind.i64 0)])::(b3,.cells [.val (.int .i64 0)])::(b2,.cells [.list .full 0 []])::σ:Store)=S:=hS.symm
 rw[hcl]
 have hsubS:Sub σ S:=⟨hsub,fun _=>hnd⟩
 clear hcl hS h2 hb2 hb3 hb4
 refine uA ?_
 try simp only[go_sem,Int.reduceEq,Int.reduceLT,Int.reduceLE,↓reduceIte,Nat.reduceEqDiff,Nat.reduceAdd,Nat.reduceSub,Nat.reduceLT,Nat.reduceLeDiff,Nat.reduceMul,reduceCtorEq,g2,g3,g4,n34,n24,n23,iC n34,iC n24,iC n23]
 refine⟨fun hbig=>?_,fun hbig=>?_⟩
 ·have hv:VG s=.tup [.list .none 3 [],vi 0,vi 2]:=by unfold VG;rw[gZ xh]
  simp only[ZW]
  show Xf _ _ _ _ _
  try simp only[go_sem,Int.reduceEq,Int.reduceLT,Int.reduceLE,↓reduceIte,Nat.reduceEqDiff,Nat.reduceAdd,Nat.reduceSub,Nat.reduceLT,Nat.reduceLeDiff,Nat.reduceMul,reduceCtorEq,g2,g3,g4,n34,n24,n23,iC n34,iC n24,iC n23,jX]
  rw[hv]
  exact .mk (.tup3 (.nilN 0 3) (.refl _) (.refl _)) (((hsubS.set_of f2).set_of f3).set_of f4) ⟨rfl,rfl⟩
 ·simp only[ZW]
  refine .seq (.region (mu:=[]) (pre:=[_]) 9 xy xy xj ?_)
  refine uy ?_
  refine wy ?_
  simp only[ZW]
  refine vD ?_
  refine uy ?_
  refine GV s S _ (fun b1 hb1=>?_)
  refine uy ?_
  simp only[ZW]
  refine .block (.range (by rfl) 308 #[.pointer (some ⟨b1,0,none⟩)] (by try simp only[go_sem,Int.reduceEq,Int.reduceLT,Int.reduceLE,↓reduceIte,Nat.reduceEqDiff,Nat.reduceAdd,Nat.reduceSub,Nat.reduceLT,Nat.reduceLeDiff,Nat.reduceMul,reduceCtorEq]) ?_)
  intro D l r hD hl hst hpe hpa has hbo hrs htm
  have h2t:=htm 2 _ xj (by try simp only[go_sem,Int.reduceEq,Int.reduceLT,Int.reduceLE,↓reduceIte,Nat.reduceEqDiff,Nat.reduceAdd,Nat.reduceSub,Nat.reduceLT,Nat.reduceLeDiff,Nat.reduceMul,reduceCtorEq];rfl)
  refine(bj s xh l b1 (PS σ l D b1 b2 b3 b4 r s) ?_ (fun acc S b x h hb=>h.cons hb x) (fun acc S h=>h.g1) _ ?_).mono ?_
  ·intro acc Sx tok hacc hPx
   obtain⟨k,x,a⟩:=tok
   have hfl:Zm σ l:=Wa hsub hl.2.2
   have keep0:∀ b b5 t,Zm Sx b5->Sx.get b=some (.cells (tkE t))->Store.get (Store.set ((b5,.cells (tkE (k,x,a)))::Sx) l (.raw (.loop { r with state:=.busy }))) b=some (.cells (tkE t)):=by
    intro b b5 t h5 hb
    have hbl:b≠l:=fun e=>by rw[e,hPx.gl] at hb;simp at hb
    rw[Za hbl,Zg h5 (by rw[hb];rfl)]
    exact hb
   show WN _ _ _ _ (cz σ l D b1 b2 b3 b4 r s (acc++[(k,x,a)]) Sx)
   refine Tf hPx.gl hpa (by rw[hrs];decide) hst hpe ?_
   rw[hrs,has]
   refine uJ ?_
   refine vM ?_
   intro b5 hb5
   refine vM ?_
   ·show Store.get ((b5,.cells (tkE (k,x,a)))::Sx) l=_/\AWp _ _ _ _ _ _ (Store.set ((b5,.cells (tkE (k,x,a)))::Sx) l (.raw (.loop { r with state:=.busy })))
    have hP5:=(hPx.cons hb5 (.cells (tkE (k,x,a)))).turn hfl { r with state:=.busy }
    refine⟨by rw[Zg hb5 (by rw[hPx.gl];rfl)];exact hPx.gl,?_⟩
    have keep5:=fun b t=>keep0 b b5 t hb5
    have g5:Store.get (Store.set ((b5,.cells (tkE (k,x,a)))::Sx) l (.raw (.loop { r with state:=.busy }))) b5=some (.cells (tkE (k,x,a))):=by
     have hne:b5≠l:=fun e=>by have:=hPx.gl;rw[<- e,Zj hb5] at this;cases this
     rw[Za hne,Ze]
    generalize hSy:Store.set ((b5,.cells (tkE (k,x,a)))::Sx) l (.raw (.loop { r with state:=.busy }))=Sy at hP5 g5 keep5 ⊢
    rw[hrs,hbo]
    refine uJ ?_
    obtain⟨rt,sz,k2,hz,ht⟩:=hP5.g2
    have fin:∀ (b e c:Nat) (S1:Store),(S1=Sy\/∃ b0 e0 c0,Sy.get b0=some (.tail e0 c0)/\Zm σ b0/\S1=Sy.del b0)->Zm S1 b->(Store.set ((b,.tail e c)::S1) b2 (.cells [.list (.tip b e c) 3 (WO acc++[tkE (k,x,a)])])).get l=some (.raw (.loop { r with state:=.busy })) /\
     PS σ l D b1 b2 b3 b4 r s (acc++[(k,x,a)]) ((Store.set ((b,.tail e c)::S1) b2 (.cells [.list (.tip b e c) 3 (WO acc++[tkE (k,x,a)])])).set l (.raw (.loop r))) /\
     ∀ b' t,Sx.get b'=some (.cells (tkE t))->((Store.set ((b,.tail e c)::S1) b2 (.cells [.list (.tip b e c) 3 (WO acc++[tkE (k,x,a)])])).set l (.raw (.loop r))).get b'=some (.cells (tkE t)):=by
     intro b e c S1 hS1 hb
     have he:WO acc++[tkE (k,x,a)]=WO (acc++[(k,x,a)]):=by simp[WO]
     rw[he]
     obtain⟨q1,q2⟩:=hP5.app f2 (k,x,a) (b:=b) (e:=e) (c:=c) hS1 hb
     refine⟨q1.gl,q1.turn hfl r,fun b' t hb'=>?_⟩
     have hbl:b'≠l:=fun e=>by rw[e,hPx.gl] at hb';simp at hb'
     rw[Za hbl]
     exact q2 b' t (keep5 b' t hb')
    simp only[tkE] at g5 fin
    have hlen:(WO acc).length<=6000:=by simp[WO];exact hacc
    rcases ht with⟨rfl,rfl⟩|⟨b0,e0,c0,rfl,rfl,g0,f0⟩
    ·try simp only[go_sem,Int.reduceEq,Int.reduceLT,Int.reduceLE,↓reduceIte,Nat.reduceEqDiff,Nat.reduceAdd,Nat.reduceSub,Nat.reduceLT,Nat.reduceLeDiff,Nat.reduceMul,reduceCtorEq,T2,h2t,k2,g5,WO]
     refine⟨by decide,by simp[lim],fun b e c hb=>?_⟩
     have hgb:Store.get ((b,AObj.tail e c)::Sy) b2=some (.cells [.list .full sz []]):=by rw[Zg hb (by rw[k2];rfl)];exact k2
     refine vO ?_
     obtain⟨q1,q2,q3⟩:=fin b e c Sy (.inl rfl) hb
     simp only[TT,hgb,jX] at q1
     exact⟨q1,rfl,q2,q3⟩
    ·try simp only[go_sem,Int.reduceEq,Int.reduceLT,Int.reduceLE,↓reduceIte,Nat.reduceEqDiff,Nat.reduceAdd,Nat.reduceSub,Nat.reduceLT,Nat.reduceLeDiff,Nat.reduceMul,reduceCtorEq,T2,h2t,k2,g5]
     refine⟨by decide,by simp only[lim];omega,g0,fun b e c hb=>?_⟩
     have k2d:(Sy.del b0).get b2=some (.cells [.list (.tip b0 e0 c0) 3 (WO acc)]):=by rw[Xi (fun e=>by rw[e,g0] at k2;cases k2)];exact k2
     have hgb:Store.get ((b,AObj.tail e c)::Sy.del b0) b2=some (.cells [.list (.tip b0 e0 c0) 3 (WO acc)]):=by rw[Zg hb (by rw[k2d];rfl)];exact k2d
     refine vO ?_
     obtain⟨q1,q2,q3⟩:=fin b e c _ (.inr ⟨b0,e0,c0,g0,f0,rfl⟩) hb
     simp only[TT,hgb,jX] at q1
     exact⟨q1,rfl,q2,q3⟩
  ·have gb1:Store.get ((b1,AObj.cells [vs s])::S) b2=some (.cells [.list .full 0 []]):=by rw[Zg hb1 xG];exact g2
   have gb3:Store.get ((b1,AObj.cells [vs s])::S) b3=some (.cells [vi 0]):=by rw[Zg hb1 (by rw[g3];rfl)];exact g3
   have gb4:Store.get ((b1,AObj.cells [vs s])::S) b4=some (.cells [vi 0]):=by rw[Zg hb1 (by rw[g4];rfl)];exact g4
   have up:∀ k x,Store.get ((b1,AObj.cells [vs s])::S) k=some x->Store.get ((l,AObj.raw (.loop r))::(D,.raw (.deferred (some [])))::(b1,.cells [vs s])::S) k=some x:=by
    intro k x hk
    have h1:Store.get ((D,AObj.raw (.deferred (some [])))::(b1,.cells [vs s])::S) k=some x:=by rw[Zg hD xC];exact hk
    rw[Zg hl xD];exact h1
   exact⟨Ze _ _ _,by rw[Zg hl xB,Ze],up _ _ (Ze _ _ _),⟨.full,0,up _ _ gb1,.inr rfl,.inl ⟨rfl,rfl⟩⟩,up _ _ gb3,up _ _ gb4,fun p hp=>by simp[hsub p hp]⟩
  ·rintro res S' ⟨acc,hP,hres⟩
   have hfl:Zm σ l:=Wa hsub hl.2.2
   have hfD:Zm σ D:=Wa hsub hD.2
   have hsz:¬ 20000<s.size:=by omega
   obtain⟨rt,sz,k2,hz,ht⟩:=hP.g2
   have hsubP:Sub σ S':=⟨hP.sub,fun _=>hnd⟩
   cases hsc:Qm s with
   | inr toks =>
     rw[hsc] at hres
     obtain⟨hr1,hr2⟩:=hres
     rw[hr1]
     subst hr2
     refine⟨r,hP.gl,by rw[hst];decide,?_⟩
     have hP2:=hP.turn hfl { r with state:=.exhausted }
     generalize hS2:S'.set l (.raw (.loop { r with state:=.exhausted }))=S2 at hP2 ⊢
     rw[hpe]
     simp only[TR,Ww,ZW]
     obtain⟨rt2,sz2,k22,hz2,_⟩:=hP2.g2
     have n23':b2≠b3:=iC n23
     have n24':b2≠b4:=iC n24
     have n34':b3≠b4:=iC n34
     have nD2:D≠b2:=fun e=>by have:=hP2.gD;rw[e,k22] at this;simp at this
     have nD3:D≠b3:=fun e=>by have:=hP2.gD;rw[e,hP2.g3] at this;simp at this
     have nD4:D≠b4:=fun e=>by have:=hP2.gD;rw[e,hP2.g4] at this;simp at this
     refine uC ?_
     try simp only[go_sem,Int.reduceEq,Int.reduceLT,Int.reduceLE,↓reduceIte,Nat.reduceEqDiff,Nat.reduceAdd,Nat.reduceSub,Nat.reduceLT,Nat.reduceLeDiff,Nat.reduceMul,reduceCtorEq,k22,hP2.g3,hP2.g4,n23',n24',n34',n23,n24,n34]
     refine .inl ⟨D,rfl,by rw[Za nD4,Za nD3,Za nD2];exact hP2.gD,.inr ⟨_,_,rfl,rfl,?_⟩⟩
     refine Kf b2 b3 b4 _ _ ?_
     have hv:VG s=.tup [.list .none 3 (WO acc),vi 0,vi 0]:=by unfold VG;rw[ig hsz,hsc]
     rw[hv]
     try simp only[go_sem,Int.reduceEq,Int.reduceLT,Int.reduceLE,↓reduceIte,Nat.reduceEqDiff,Nat.reduceAdd,Nat.reduceSub,Nat.reduceLT,Nat.reduceLeDiff,Nat.reduceMul,reduceCtorEq,k22,hP2.g3,hP2.g4,n23',n24',n34',n23,n24,n34,iC nD2,iC nD3,iC nD4,jX]
     refine .mk (.tup3 ?_ (.refl _) (.refl _)) (Sub.set_of (Sub.set_of (Sub.set_of (Sub.set_of ⟨hP2.sub,fun _=>hnd⟩ f2) f3) f4) hfD) ⟨rfl,rfl⟩
     rcases hz2 with rfl|rfl
     ·exact .list _ _ _
     ·exact .nilA _ _ _
   | inl ae =>
     obtain⟨a,e⟩:=ae
     rw[hsc] at hres
     subst hres
     have n23':b2≠b3:=iC n23
     have n24':b2≠b4:=iC n24
     have n34':b3≠b4:=iC n34
     have nD2:D≠b2:=fun e=>by have:=hP.gD;rw[e,k2] at this;simp at this
     have nD3:D≠b3:=fun e=>by have:=hP.gD;rw[e,hP.g3] at this;simp at this
     have nD4:D≠b4:=fun e=>by have:=hP.gD;rw[e,hP.g4] at this;simp at this
     have hv:VG s=.tup [.list .none 3 [],vi a,vi e]:=by unfold VG;rw[ig hsz,hsc]
     refine⟨D,_,_,Mj a e,rfl,hP.gD,rfl,?_⟩
     refine Ke b2 b3 b4 a e _ _ _ _ n23' n24' n34' (by rw[Za (iC nD2)];exact k2) (by rw[Za (iC nD3)];exact hP.g3) (by rw[Za (iC nD4)];exact hP.g4) _ ?_
     rw[hv]
     try simp only[go_sem,Int.reduceEq,Int.reduceLT,Int.reduceLE,↓reduceIte,Nat.reduceEqDiff,Nat.reduceAdd,Nat.reduceSub,Nat.reduceLT,Nat.reduceLeDiff,Nat.reduceMul,reduceCtorEq,k2,hP.g3,hP.g4,n23',n24',n34',n23,n24,n34,iC nD2,iC nD3,iC nD4,jX]
     exact .mk (.tup3 (.nilA _ _ _) (.refl _) (.refl _)) (Sub.set_of (Sub.set_of (Sub.set_of (Sub.set_of ⟨hP.sub,fun _=>hnd⟩ hfD) f2) f3) f4) ⟨rfl,rfl⟩
def Me(k:Int)(s:Str):List Tok->Bool
 | [(k',x,_)]=>decide (k'=k)&&decide (x=s)
 | _=>false
def ZC(k:Int)(s:Str):Bool:=if 20000<s.size then false else match Qm s with
 | .inr l=>Me k s l
 | .inl _=>false
theorem NP(k a:Int)(s:Str):Pur nC 225 [.agg [vi k,vs s,vi a]] (vi (if ZC k s=true then 0 else 12)):=by
 intro σ
 refine Zb [] [(2,23,0)] Tryz.func225 rfl xy ?_;rw[Tryz.ntmps225,Tryz.results225]
 refine uy ?_
 refine(Ah s).use ?_
 have n01:(((0:Nat):Int)=1)=False:=iU xh
 by_cases hb:20000<s.size
 ·have hv:VG s=.tup [.list .none 3 [],vi 0,vi 2]:=by unfold VG;rw[gZ hb]
  have ht:ZC k s=false:=by unfold ZC;rw[gZ hb]
  rw[hv,ht]
  exact pD
 ·cases hsc:Qm s with
  | inl ae =>
    obtain⟨a',e⟩:=ae
    have hv:VG s=.tup [.list .none 3 [],vi a',vi e]:=by unfold VG;rw[ig hb,hsc]
    have ht:ZC k s=false:=by unfold ZC;rw[ig hb,hsc]
    rw[hv,ht]
    by_cases he:e=0
    ·try simp only[go_sem,Int.reduceEq,Int.reduceLT,Int.reduceLE,↓reduceIte,Nat.reduceEqDiff,Nat.reduceAdd,Nat.reduceSub,Nat.reduceLT,Nat.reduceLeDiff,Nat.reduceMul,reduceCtorEq,he,iT,n01,iV]
     exact Zl
    ·try simp only[go_sem,Int.reduceEq,Int.reduceLT,Int.reduceLE,↓reduceIte,Nat.reduceEqDiff,Nat.reduceAdd,Nat.reduceSub,Nat.reduceLT,Nat.reduceLeDiff,Nat.reduceMul,reduceCtorEq,he,iV]
     exact Zl
  | inr toks =>
    have hv:VG s=.tup [.list .none 3 (WO toks),vi 0,vi 0]:=by unfold VG;rw[ig hb,hsc]
    have ht:ZC k s=Me k s toks:=by unfold ZC;rw[ig hb,hsc]
    rw[hv,ht]
    clear hv ht hsc
    match toks with
    | [] =>
      try simp only[go_sem,Int.reduceEq,Int.reduceLT,Int.reduceLE,↓reduceIte,Nat.reduceEqDiff,Nat.reduceAdd,Nat.reduceSub,Nat.reduceLT,Nat.reduceLeDiff,Nat.reduceMul,reduceCtorEq,WO,n01,iV,Me]
      exact Zl
    | t1::t2::r =>
      have hne:(((r.length+1+1:Nat):Int)=1)=False:=iU xh
      try simp only[go_sem,Int.reduceEq,Int.reduceLT,Int.reduceLE,↓reduceIte,Nat.reduceEqDiff,Nat.reduceAdd,Nat.reduceSub,Nat.reduceLT,Nat.reduceLeDiff,Nat.reduceMul,reduceCtorEq,WO,io,hne,iV,Me]
      exact Zl
    | [(k',x,p)] =>
      have n11:(((1:Nat):Int)=1)=True:=iS xh
      have hts:Me k s [(k',x,p)]=(decide (k'=k)&&decide (x=s)):=rfl
      rw[hts]
      have hg:∀ c,[tkE (k',x,p)][(0:Int).toNat]?=some c->c=[vi k',vs x,vi p]:=fun c hc=>by simp[tkE] at hc;exact hc.symm
      refine vN ?_
      refine⟨by omega,fun c hc=>?_⟩
      obtain rfl:=hg c hc
      by_cases hk:k'=k
      ·subst hk
       refine vN ?_
       refine⟨by omega,fun c hc=>?_⟩
       obtain rfl:=hg c hc
       by_cases hx:x=s
       ·try simp only[go_sem,Int.reduceEq,Int.reduceLT,Int.reduceLE,↓reduceIte,Nat.reduceEqDiff,Nat.reduceAdd,Nat.reduceSub,Nat.reduceLT,Nat.reduceLeDiff,Nat.reduceMul,reduceCtorEq,hx,iT]
        exact Us xf
       ·try simp only[go_sem,Int.reduceEq,Int.reduceLT,Int.reduceLE,↓reduceIte,Nat.reduceEqDiff,Nat.reduceAdd,Nat.reduceSub,Nat.reduceLT,Nat.reduceLeDiff,Nat.reduceMul,reduceCtorEq,hx,iV]
        exact Us xf
      ·try simp only[go_sem,Int.reduceEq,Int.reduceLT,Int.reduceLE,↓reduceIte,Nat.reduceEqDiff,Nat.reduceAdd,Nat.reduceSub,Nat.reduceLT,Nat.reduceLeDiff,Nat.reduceMul,reduceCtorEq,hk,iV]
       exact Us (by simp[hk])
theorem Ek(s:Str):Pur nC 190 [vs s] (vb (ZC 1 s)):=by
 intro σ
 refine Zb [] [] Tryz.func190 rfl xy ?_;rw[Tryz.ntmps190,Tryz.results190]
 refine uy ?_
 have h:Pur nC 108 [vs s] (vb (ZC 1 s)):=by
  intro σ
  have h:Pur nC 169 [vs s,vi 1] (vb (ZC 1 s)):=by
   intro σ
   refine Zb [] [] Tryz.func169 rfl xy ?_;rw[Tryz.ntmps169,Tryz.results169]
   refine uy ?_
   refine(NP 1 0 s).use ?_
   refine uy ?_
   refine Zs ?_
   cases ZC 1 s<;>simp
  refine Zb [] [] Tryz.func108 rfl xy ?_;rw[Tryz.ntmps108,Tryz.results108]
  refine uy ?_
  refine h.use ?_
  exact pD
 refine h.use ?_
 exact pD
open Go.Proofs
def ZQ(k:Int):Int×Bool:=if k=1 then(0,true) else if k=2 then(0,true) else if k=3 then(0,true) else if k=9 then(1,true) else if k=12 then(1,true) else if k=10 then(1,true) else if k=11 then(1,true) else if k=4 then(2,true) else if k=5 then(2,true) else if k=6 then(2,true) else if k=7 then(2,true) else if k=8 then(2,true) else(0,false)
theorem GU(k:Int):Pur nC 281 [vi k] (.tup [vi (ZQ k).1,vb (ZQ k).2]):=by
 intro σ
 refine Zb [] [] Tryz.func281 rfl xy ?_;rw[Tryz.ntmps281,Tryz.results281]
 by_cases h1:k=1
 ·have e:ZQ k=(0,true):=by unfold ZQ;simp only[gZ h1]
  have x:=iS h1
  rw[e]
  try simp only[go_sem,seval,x,iT,iV]
  exact Zl
 have y1:=iU h1
 by_cases h2:k=2
 ·have e:ZQ k=(0,true):=by unfold ZQ;simp only[ig h1,gZ h2]
  have x:=iS h2
  rw[e]
  try simp only[go_sem,seval,x,y1,iT,iV]
  exact Zl
 have y2:=iU h2
 by_cases h3:k=3
 ·have e:ZQ k=(0,true):=by unfold ZQ;simp only[ig h1,ig h2,gZ h3]
  have x:=iS h3
  rw[e]
  try simp only[go_sem,seval,x,y1,y2,iT,iV]
  exact Zl
 have y3:=iU h3
 by_cases h9:k=9
 ·have e:ZQ k=(1,true):=by unfold ZQ;simp only[ig h1,ig h2,ig h3,gZ h9]
  have x:=iS h9
  rw[e]
  try simp only[go_sem,seval,x,y1,y2,y3,iT,iV]
  exact Zl
 have y9:=iU h9
 by_cases h12:k=12
 ·have e:ZQ k=(1,true):=by unfold ZQ;simp only[ig h1,ig h2,ig h3,ig h9,gZ h12]
  have x:=iS h12
  rw[e]
  try simp only[go_sem,seval,x,y1,y2,y3,y9,iT,iV]
  exact Zl
 have y12:=iU h12
 by_cases h10:k=10
 ·have e:ZQ k=(1,true):=by unfold ZQ;simp only[ig h1,ig h2,ig h3,ig h9,ig h12,gZ h10]
  have x:=iS h10
  rw[e]
  try simp only[go_sem,seval,x,y1,y2,y3,y9,y12,iT,iV]
  exact Zl
 have y10:=iU h10
 by_cases h11:k=11
 ·have e:ZQ k=(1,true):=by unfold ZQ;simp only[ig h1,ig h2,ig h3,ig h9,ig h12,ig h10,gZ h11]
  have x:=iS h11
  rw[e]
  try simp only[go_sem,seval,x,y1,y2,y3,y9,y12,y10,iT,iV]
  exact Zl
 have y11:=iU h11
 by_cases h4:k=4
 ·have e:ZQ k=(2,true):=by unfold ZQ;simp only[ig h1,ig h2,ig h3,ig h9,ig h12,ig h10,ig h11,gZ h4]
  have x:=iS h4
  rw[e]
  try simp only[go_sem,seval,x,y1,y2,y3,y9,y12,y10,y11,iT,iV]
  exact Zl
 have y4:=iU h4
 by_cases h5:k=5
 ·have e:ZQ k=(2,true):=by unfold ZQ;simp only[ig h1,ig h2,ig h3,ig h9,ig h12,ig h10,ig h11,ig h4,gZ h5]
  have x:=iS h5
  rw[e]
  try simp only[go_sem,seval,x,y1,y2,y3,y9,y12,y10,y11,y4,iT,iV]
  exact Zl
 have y5:=iU h5
 by_cases h6:k=6
 ·have e:ZQ k=(2,true):=by unfold ZQ;simp only[ig h1,ig h2,ig h3,ig h9,ig h12,ig h10,ig h11,ig h4,ig h5,gZ h6]
  have x:=iS h6
  rw[e]
  try simp only[go_sem,seval,x,y1,y2,y3,y9,y12,y10,y11,y4,y5,iT,iV]
  exact Zl
 have y6:=iU h6
 by_cases h7:k=7
 ·have e:ZQ k=(2,true):=by unfold ZQ;simp only[ig h1,ig h2,ig h3,ig h9,ig h12,ig h10,ig h11,ig h4,ig h5,ig h6,gZ h7]
  have x:=iS h7
  rw[e]
  try simp only[go_sem,seval,x,y1,y2,y3,y9,y12,y10,y11,y4,y5,y6,iT,iV]
  exact Zl
 have y7:=iU h7
 by_cases h8:k=8
 ·have e:ZQ k=(2,true):=by unfold ZQ;simp only[ig h1,ig h2,ig h3,ig h9,ig h12,ig h10,ig h11,ig h4,ig h5,ig h6,ig h7,gZ h8]
  have x:=iS h8
  rw[e]
  try simp only[go_sem,seval,x,y1,y2,y3,y9,y12,y10,y11,y4,y5,y6,y7,iT,iV]
  exact Zl
 have y8:=iU h8
 have e:ZQ k=(0,false):=by unfold ZQ;simp only[ig h1,ig h2,ig h3,ig h9,ig h12,ig h10,ig h11,ig h4,ig h5,ig h6,ig h7,ig h8]
 rw[e]
 try simp only[go_sem,seval,y1,y2,y3,y9,y12,y10,y11,y4,y5,y6,y7,y8,iV]
 exact Zl
end Go.Vx
end
