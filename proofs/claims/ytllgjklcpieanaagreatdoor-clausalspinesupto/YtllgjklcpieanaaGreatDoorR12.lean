/- A part of the proof of clausalSpinesProved. -/
import Derived.Test.YtllgjklcpieanaaGreatDoorR10
set_option linter.unusedVariables false
set_option linter.unusedSimpArgs false
section
namespace Go.Vx
abbrev Str:=ByteArray
inductive Ty where
 | mk (name:Str) (args:List Ty)
inductive Tm where
 | mk (kind n:Int) (name:Str) (args:List Tm)
abbrev vi (n:Int):AV:=.val (.int .i64 n)
abbrev vb (b:Bool):AV:=.val (.bool b)
abbrev vs (s:Str):AV:=.val (.string s)
mutual
def Ty.emb:Ty->List AV
 | .mk s l=>[.val (.string s),.list .none 2 (cI l)]
def cI:List Ty->List (List AV)
 | []=>[]
 | t::r=>Ty.emb t::cI r
end
mutual
def Tm.emb:Tm->List AV
 | .mk k n s l=>[.val (.int .i64 k),.val (.int .i64 n),.val (.string s),.list .none 4 (cJ l)]
def cJ:List Tm->List (List AV)
 | []=>[]
 | t::r=>Tm.emb t::cJ r
end
theorem di:∀ l:List Ty,cI l=l.map Ty.emb
 | []=>rfl
 | t::r=>by simp[cI,di r]
theorem cW:∀ l:List Tm,cJ l=l.map Tm.emb
 | []=>rfl
 | t::r=>by simp[cJ,cW r]
theorem cG(l:List Ty):(cI l).length=l.length:=by rw[di];simp
theorem cF(l:List Tm):(cJ l).length=l.length:=by rw[cW];simp
theorem dJ{l:List Ty}{i:Nat}{c:List AV}(h:(cI l)[i]?=some c):∃ t,l[i]?=some t/\c=t.emb:=by
 rw[di,jp,kQ] at h;obtain⟨t,h1,h2⟩:=h;exact⟨t,h1,h2.symm⟩
theorem dQ{l:List Tm}{i:Nat}{c:List AV}(h:(cJ l)[i]?=some c):∃ t,l[i]?=some t/\c=t.emb:=by
 rw[cW,jp,kQ] at h;obtain⟨t,h1,h2⟩:=h;exact⟨t,h1,h2.symm⟩
theorem cO(k n:Int)(s:Str)(l:List Tm):(Tm.mk k n s l).emb=[.val (.int .i64 k),.val (.int .i64 n),.val (.string s),.list .none 4 (cJ l)]:=rfl
theorem cQ(s:Str)(l:List Ty):(Ty.mk s l).emb=[.val (.string s),.list .none 2 (cI l)]:=rfl
inductive Ro where
 | mk (l:List Ro)
def Ro.kids:Ro->List Ro
 | .mk l=>l
mutual
def Ty.shape:Ty->Ro
 | .mk _ l=>.mk (dg l)
def dg:List Ty->List Ro
 | []=>[]
 | t::r=>t.shape::dg r
end
mutual
def Tm.shape:Tm->Ro
 | .mk _ _ _ l=>.mk (cK l)
def cK:List Tm->List Ro
 | []=>[]
 | t::r=>t.shape::cK r
end
theorem dY:∀ l:List Ty,dg l=l.map Ty.shape
 | []=>rfl
 | t::r=>by simp[dg,dY r]
theorem cS:∀ l:List Tm,cK l=l.map Tm.shape
 | []=>rfl
 | t::r=>by simp[cK,cS r]
def Tm.kids:Tm->List Tm
 | .mk _ _ _ l=>l
def Ty.kids:Ty->List Ty
 | .mk _ l=>l
theorem ed{M:Tm->Prop}(h:∀ k n s l,(∀ t∈l,M t)->M (.mk k n s l)):∀ t,M t
 | .mk k n s l=>h k n s l (go l)
 where go:∀ l:List Tm,∀ t∈l,M t
 | [],_,ht=>absurd ht xf
 | a::r,t,ht=>(List.mem_cons.1 ht).elim (fun e=>e ▸ ed h a) (fun hr=>go r t hr)
theorem eC{M:Ty->Prop}(h:∀ s l,(∀ t∈l,M t)->M (.mk s l)):∀ t,M t
 | .mk s l=>h s l (go l)
 where go:∀ l:List Ty,∀ t∈l,M t
 | [],_,ht=>absurd ht xf
 | a::r,t,ht=>(List.mem_cons.1 ht).elim (fun e=>e ▸ eC h a) (fun hr=>go r t hr)
end Go.Vx
end
section
namespace Go.Vx
abbrev ZX (l:List Str):List (List AV):=l.map fun s=>[.val (.string s)]
abbrev Zu (l:List Int):List (List AV):=l.map fun n=>[vi n]
abbrev Uv (l:List Bool):List (List AV):=l.map fun b=>[vb b]
inductive Zi where
 | mk (kind:Int) (name:Str) (args:List Tm) (ty:Ty) (l:List Zi) (n group:Int) (env:List Int)
structure Zr where
 vars:List Ty
 locals:List Ty
 path:List Int
 name:Str
 args:List Tm
 goals:List Zi
 lasts:List Bool
structure FGroup where
 env:List Ty
 alts:List Zr
structure Flat where
 groups:List FGroup
 rules:List Int
mutual
def Zi.emb:Zi->List AV
 | .mk k s a (.mk ts tl) l n g e=>[vi k,vs s,.list .none 4 (cJ a),vs ts,.list .none 2 (cI tl),.list .none 9 (cY l),vi n,vi g,.list .none 1 (Zu e)]
def cY:List Zi->List (List AV)
 | []=>[]
 | g::r=>Zi.emb g::cY r
end
theorem dP:∀ l:List Zi,cY l=l.map Zi.emb
 | []=>rfl
 | g::r=>by simp[cY,dP r]
theorem cH(l:List Zi):(cY l).length=l.length:=by rw[dP];simp
theorem dH{l:List Zi}{i:Nat}{c:List AV}(h:(cY l)[i]?=some c):∃ t,l[i]?=some t/\c=t.emb:=by
 rw[dP,jp,kQ] at h;obtain⟨t,h1,h2⟩:=h;exact⟨t,h1,h2.symm⟩
theorem cV(k:Int)(s:Str)(a:List Tm)(ts:Str)(tl:List Ty)(l:List Zi)(n g:Int)(e:List Int):(Zi.mk k s a (.mk ts tl) l n g e).emb=[vi k,vs s,.list .none 4 (cJ a),vs ts,.list .none 2 (cI tl),.list .none 9 (cY l),vi n,vi g,.list .none 1 (Zu e)]:=rfl
def Zi.kids:Zi->List Zi
 | .mk _ _ _ _ l _ _ _=>l
theorem fC{M:Zi->Prop}(h:∀ k s a t l n g e,(∀ x∈l,M x)->M (.mk k s a t l n g e)):∀ x,M x
 | .mk k s a t l n g e=>h k s a t l n g e (go l)
 where go:∀ l:List Zi,∀ t∈l,M t
 | [],_,ht=>absurd ht xf
 | a::r,t,ht=>(List.mem_cons.1 ht).elim (fun e=>e ▸ fC h a) (fun hr=>go r t hr)
def Zr.emb(c:Zr):List AV:=[.list .none 2 (cI c.vars),.list .none 2 (cI c.locals),.list .none 1 (Zu c.path),vs c.name,.list .none 4 (cJ c.args),.list .none 9 (cY c.goals),.list .none 1 (Uv c.lasts)]
def dc(l:List Zr):List (List AV):=l.map Zr.emb
def FGroup.emb(g:FGroup):List AV:=[.list .none 2 (cI g.env),.list .none 7 (dc g.alts)]
def cX(l:List FGroup):List (List AV):=l.map FGroup.emb
def Flat.emb(f:Flat):List AV:=[.list .none 2 (cX f.groups),.list .none 1 (Zu f.rules)]
theorem Yi{α β:Type}{f:α->β}{l:List α}{i:Nat}{c:β}(h:(l.map f)[i]?=some c):∃ t,l[i]?=some t/\c=f t:=by
 rw[jp,kQ] at h;obtain⟨t,h1,h2⟩:=h;exact⟨t,h1,h2.symm⟩
theorem dh(l:List Zr):(dc l).length=l.length:=by simp[dc]
theorem cL(l:List FGroup):(cX l).length=l.length:=by simp[cX]
theorem eA{l:List Zr}{i:Nat}{c:List AV}(h:(dc l)[i]?=some c):∃ t,l[i]?=some t/\c=t.emb:=Yi h
theorem dS{l:List FGroup}{i:Nat}{c:List AV}(h:(cX l)[i]?=some c):∃ t,l[i]?=some t/\c=t.emb:=Yi h
structure Pick where
 rule:Int
 alt:Int
 deriving DecidableEq
def Pick.emb(p:Pick):List AV:=[vi p.rule,vi p.alt]
def dR(l:List Pick):List (List AV):=l.map Pick.emb
theorem fK(l:List Pick):(dR l).length=l.length:=by simp[dR]
theorem gz{l:List Pick}{i:Nat}{c:List AV}(h:(dR l)[i]?=some c):∃ t,l[i]?=some t/\c=t.emb:=Yi h
structure Cls where
 any:Bool
 name:Str
 deriving DecidableEq
def Cls.emb(p:Cls):List AV:=[vb p.any,vs p.name]
def fx(l:List Cls):List (List AV):=l.map Cls.emb
theorem gF(l:List Cls):(fx l).length=l.length:=by simp[fx]
theorem gG{l:List Cls}{i:Nat}{c:List AV}(h:(fx l)[i]?=some c):∃ t,l[i]?=some t/\c=t.emb:=Yi h
structure Row where
 pick:Pick
 classes:List Cls
def Row.emb(r:Row):List AV:=[vi r.pick.rule,vi r.pick.alt,.list .none 2 (fx r.classes)]
def fI(l:List Row):List (List AV):=l.map Row.emb
theorem gA(l:List Row):(fI l).length=l.length:=by simp[fI]
theorem gB{l:List Row}{i:Nat}{c:List AV}(h:(fI l)[i]?=some c):∃ t,l[i]?=some t/\c=t.emb:=Yi h
mutual
inductive Tr where
 | mk (kind:Int) (picks:List Pick) (arg:Int) (any:List Tr) (cases:List Cs) (els:List Tr)
inductive Cs where
 | mk (name:Str) (t:Tr)
end
mutual
def Tr.emb:Tr->List AV
 | .mk k p a y c e=>[vi k,.list .none 2 (dR p),vi a,.list .none 6 (er y),.list .none 7 (eO c),.list .none 6 (er e)]
def er:List Tr->List (List AV)
 | []=>[]
 | t::r=>Tr.emb t::er r
def Cs.emb:Cs->List AV
 | .mk s t=>vs s::Tr.emb t
def eO:List Cs->List (List AV)
 | []=>[]
 | t::r=>Cs.emb t::eO r
end
theorem eY:∀ l:List Tr,er l=l.map Tr.emb
 | []=>rfl
 | g::r=>by simp[er,eY r]
theorem fp:∀ l:List Cs,eO l=l.map Cs.emb
 | []=>rfl
 | g::r=>by simp[eO,fp r]
theorem gI(l:List Tr):(er l).length=l.length:=by rw[eY];simp
theorem gO(l:List Cs):(eO l).length=l.length:=by rw[fp];simp
theorem gJ{l:List Tr}{i:Nat}{c:List AV}(h:(er l)[i]?=some c):∃ t,l[i]?=some t/\c=t.emb:=by
 rw[eY] at h;exact Yi h
theorem gP{l:List Cs}{i:Nat}{c:List AV}(h:(eO l)[i]?=some c):∃ t,l[i]?=some t/\c=t.emb:=by
 rw[fp] at h;exact Yi h
theorem gX(k:Int)(p:List Pick)(a:Int)(y:List Tr)(c:List Cs)(e:List Tr):(Tr.mk k p a y c e).emb=[vi k,.list .none 2 (dR p),vi a,.list .none 6 (er y),.list .none 7 (eO c),.list .none 6 (er e)]:=rfl
theorem gY(s:Str)(k:Int)(p:List Pick)(a:Int)(y:List Tr)(c:List Cs)(e:List Tr):(Cs.mk s (Tr.mk k p a y c e)).emb=[vs s,vi k,.list .none 2 (dR p),vi a,.list .none 6 (er y),.list .none 7 (eO c),.list .none 6 (er e)]:=rfl
def Cs.name:Cs->Str
 | .mk s _=>s
def Cs.tree:Cs->Tr
 | .mk _ t=>t
theorem gh{M:Tr->Prop}(h:∀ k p a y c e,(∀ x∈y,M x)->(∀ x∈c,M x.tree)->(∀ x∈e,M x)->M (.mk k p a y c e)):∀ x,M x
 | .mk k p a y c e=>h k p a y c e (go y) (goc c) (go e)
 where
 go:∀ l:List Tr,∀ t∈l,M t
 | [],_,ht=>absurd ht xf
 | a::r,t,ht=>(List.mem_cons.1 ht).elim (fun e=>e ▸ gh h a) (fun hr=>go r t hr)
 goc:∀ l:List Cs,∀ t∈l,M t.tree
 | [],_,ht=>absurd ht xf
 | .mk s a::r,t,ht=>(List.mem_cons.1 ht).elim (fun e=>e ▸ gh h a) (fun hr=>goc r t hr)
end Go.Vx
end
section
namespace Go.Vx
structure Mv where
 n:Int
 terms:List Tm
 uses:List Int
def Mv.emb(m:Mv):List AV:=[vi m.n,.list .none 4 (cJ m.terms),.list .none 1 (Zu m.uses)]
def ec(l:List Mv):List (List AV):=l.map Mv.emb
theorem dU(l:List Mv):(ec l).length=l.length:=by simp[ec]
theorem gN{l:List Mv}{i:Nat}{c:List AV}(h:(ec l)[i]?=some c):∃ t,l[i]?=some t/\c=t.emb:=Yi h
mutual
inductive Pf where
 | mk (kind n:Int) (uses:List Int) (term:Tm) (spine:List Tu) (moves:List Mv) (l:List Pf)
inductive Tu where
 | mk (kind:Int) (term:Tm) (l:List Pf)
end
mutual
def Pf.emb:Pf->List AV
 | .mk k n u (.mk tk tn ts ta) sp mv l=>[vi k,vi n,.list .none 1 (Zu u),vi tk,vi tn,vs ts,.list .none 4 (cJ ta),.list .none 6 (dM sp),.list .none 3 (ec mv),.list .none 10 (dB l)]
def dB:List Pf->List (List AV)
 | []=>[]
 | t::r=>Pf.emb t::dB r
def Tu.emb:Tu->List AV
 | .mk k (.mk tk tn ts ta) l=>[vi k,vi tk,vi tn,vs ts,.list .none 4 (cJ ta),.list .none 10 (dB l)]
def dM:List Tu->List (List AV)
 | []=>[]
 | t::r=>Tu.emb t::dM r
end
theorem ew:∀ l:List Pf,dB l=l.map Pf.emb
 | []=>rfl
 | g::r=>by simp[dB,ew r]
theorem eu:∀ l:List Tu,dM l=l.map Tu.emb
 | []=>rfl
 | g::r=>by simp[dM,eu r]
theorem dG(l:List Pf):(dB l).length=l.length:=by rw[ew];simp
theorem dE(l:List Tu):(dM l).length=l.length:=by rw[eu];simp
theorem gL{l:List Pf}{i:Nat}{c:List AV}(h:(dB l)[i]?=some c):∃ t,l[i]?=some t/\c=t.emb:=by
 rw[ew] at h;exact Yi h
theorem gH{l:List Tu}{i:Nat}{c:List AV}(h:(dM l)[i]?=some c):∃ t,l[i]?=some t/\c=t.emb:=by
 rw[eu] at h;exact Yi h
theorem eP(k n:Int)(u:List Int)(tk tn:Int)(ts:Str)(ta:List Tm)(sp:List Tu)(mv:List Mv)(l:List Pf):(Pf.mk k n u (.mk tk tn ts ta) sp mv l).emb=[vi k,vi n,.list .none 1 (Zu u),vi tk,vi tn,vs ts,.list .none 4 (cJ ta),.list .none 6 (dM sp),.list .none 3 (ec mv),.list .none 10 (dB l)]:=rfl
theorem fM(k tk tn:Int)(ts:Str)(ta:List Tm)(l:List Pf):(Tu.mk k (.mk tk tn ts ta) l).emb=[vi k,vi tk,vi tn,vs ts,.list .none 4 (cJ ta),.list .none 10 (dB l)]:=rfl
theorem gR{M:List Pf->Prop}{N:List Tu->Prop}(h0:M [])(n0:N [])(h:∀ k n u t sp mv l r,N sp->M l->M r->M (.mk k n u t sp mv l::r))(hn:∀ k t l r,M l->N r->N (.mk k t l::r)):(∀ l,M l)/\∀ l,N l :=
 ⟨go,got⟩
 where
 go:∀ l:List Pf,M l
 | []=>h0
 | .mk k n u t sp mv l::r=>h k n u t sp mv l r (got sp) (go l) (go r)
 got:∀ l:List Tu,N l
 | []=>n0
 | .mk k t l::r=>hn k t l r (go l) (got r)
end Go.Vx
end
section
namespace Go.Vx
inductive Fm where
 | mk (kind:Int) (name:Str) (args:List Tm) (ty:Ty) (l:List Fm)
mutual
def Fm.emb:Fm->List AV
 | .mk k s a (.mk ts tl) l=>[vi k,vs s,.list .none 4 (cJ a),vs ts,.list .none 2 (cI tl),.list .none 6 (cN l)]
def cN:List Fm->List (List AV)
 | []=>[]
 | g::r=>Fm.emb g::cN r
end
theorem dz:∀ l:List Fm,cN l=l.map Fm.emb
 | []=>rfl
 | g::r=>by simp[cN,dz r]
theorem cU(l:List Fm):(cN l).length=l.length:=by rw[dz];simp
theorem fF{l:List Fm}{i:Nat}{c:List AV}(h:(cN l)[i]?=some c):∃ t,l[i]?=some t/\c=t.emb:=by
 rw[dz] at h;exact Yi h
theorem cM(k:Int)(s:Str)(a:List Tm)(ts:Str)(tl:List Ty)(l:List Fm):(Fm.mk k s a (.mk ts tl) l).emb=[vi k,vs s,.list .none 4 (cJ a),vs ts,.list .none 2 (cI tl),.list .none 6 (cN l)]:=rfl
def Fm.kids:Fm->List Fm
 | .mk _ _ _ _ l=>l
theorem eg{M:Fm->Prop}(h:∀ k s a t l,(∀ x∈l,M x)->M (.mk k s a t l)):∀ x,M x
 | .mk k s a t l=>h k s a t l (go l)
 where go:∀ l:List Fm,∀ t∈l,M t
 | [],_,ht=>absurd ht xf
 | a::r,t,ht=>(List.mem_cons.1 ht).elim (fun e=>e ▸ eg h a) (fun hr=>go r t hr)
structure Nt where
 name:Str
 ty:Ty
def Nt.emb(c:Nt):List AV:=vs c.name::c.ty.emb
def cZ(l:List Nt):List (List AV):=l.map Nt.emb
structure Pd where
 name:Str
 types:List Ty
 kind:Int
 modes:List Int
def Pd.emb(d:Pd):List AV:=[vs d.name,.list .none 2 (cI d.types),vi d.kind,.list .none 1 (Zu d.modes)]
def df(l:List Pd):List (List AV):=l.map Pd.emb
structure Rl where
 name:Str
 form:Fm
 use:Int
def Rl.emb(r:Rl):List AV:=vs r.name::(r.form.emb++[vi r.use])
def dx(l:List Rl):List (List AV):=l.map Rl.emb
structure Qy where
 name:Str
 vars:List Nt
 form:Fm
def Qy.emb(q:Qy):List AV:=vs q.name::.list .none 3 (cZ q.vars)::q.form.emb
def dy(l:List Qy):List (List AV):=l.map Qy.emb
structure Pg where
 types:List Str
 consts:List Nt
 preds:List Pd
 rules:List Rl
 queries:List Qy
def Pg.emb(p:Pg):List AV:=[.list .none 1 (ZX p.types),.list .none 3 (cZ p.consts),.list .none 4 (df p.preds),.list .none 8 (dx p.rules),.list .none 8 (dy p.queries)]
theorem dw(l:List Nt):(cZ l).length=l.length:=by simp[cZ]
theorem dC(l:List Pd):(df l).length=l.length:=by simp[df]
theorem du(l:List Rl):(dx l).length=l.length:=by simp[dx]
theorem dA(l:List Qy):(dy l).length=l.length:=by simp[dy]
theorem gM{l:List Nt}{i:Nat}{c:List AV}(h:(cZ l)[i]?=some c):∃ t,l[i]?=some t/\c=t.emb:=Yi h
theorem eL{l:List Pd}{i:Nat}{c:List AV}(h:(df l)[i]?=some c):∃ t,l[i]?=some t/\c=t.emb:=Yi h
theorem gK{l:List Rl}{i:Nat}{c:List AV}(h:(dx l)[i]?=some c):∃ t,l[i]?=some t/\c=t.emb:=Yi h
theorem fE{l:List Qy}{i:Nat}{c:List AV}(h:(dy l)[i]?=some c):∃ t,l[i]?=some t/\c=t.emb:=Yi h
theorem eb(s ts:Str)(tl:List Ty):Nt.emb ⟨s,.mk ts tl⟩=[vs s,vs ts,.list .none 2 (cI tl)]:=rfl
theorem dZ(s:Str)(k:Int)(n:Str)(a:List Tm)(ts:Str)(tl:List Ty)(l:List Fm)(u:Int):Rl.emb ⟨s,.mk k n a (.mk ts tl) l,u⟩=[vs s,vi k,vs n,.list .none 4 (cJ a),vs ts,.list .none 2 (cI tl),.list .none 6 (cN l),vi u]:=rfl
theorem dX(s:Str)(v:List Nt)(k:Int)(n:Str)(a:List Tm)(ts:Str)(tl:List Ty)(l:List Fm):Qy.emb ⟨s,v,.mk k n a (.mk ts tl) l⟩=[vs s,.list .none 3 (cZ v),vi k,vs n,.list .none 4 (cJ a),vs ts,.list .none 2 (cI tl),.list .none 6 (cN l)]:=rfl
end Go.Vx
end
