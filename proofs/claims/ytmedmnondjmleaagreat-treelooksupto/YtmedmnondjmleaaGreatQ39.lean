/- Part Q39 of the proof of treeLooksProved: the walk of the program on abstract values, and the plain law. -/
import Derived.Test.YtmedmnondjmleaaGreatQ38
import Derived.Test.YtmedmnondjmleaaGreatRows
import Derived.ChangeArms
import Derived.WalkKit
import Derived.ProofKit
set_option linter.unusedVariables false
set_option linter.unusedSimpArgs false
section
namespace Go.Vx
open Go Go.Proofs
def Cvs (w:World)(a:List AV)(cs:List Value):Prop:=a.length=cs.length∧∀ (i:Nat) (c:AV) (v:Value),a[i]?=some c→cs[i]?=some v→v.oneCell'=true∧V (live []) w c v
theorem Ml {b o:Nat}:¬ live [] b o:=fun ⟨x,h,_⟩=>by cases h
theorem Cvs.nil {w:World}:Cvs w [] []:=⟨rfl,fun i c v h=>by simp at h⟩
theorem Cvs.one {w:World}{c:AV}{v:Value}(h1:v.oneCell'=true)(h:V (live []) w c v):Cvs w [c] [v]:=⟨rfl,fun i c' v' hc hv=>by
 match i with
 | 0=>simp at hc hv;subst hc;subst hv;exact ⟨h1,h⟩
 | i+1=>simp at hc⟩
theorem Cvs.app {w:World}{a b:List AV}{cs:List Value}{n:Nat}(hn:n≤cs.length)(ha:Cvs w a (cs.take n))(hb:Cvs w b (cs.drop n)):Cvs w (a++b) cs:=by
 have la:a.length=n:=by rw [ha.1,List.length_take];omega
 have lb:b.length=cs.length-n:=by rw [hb.1,List.length_drop]
 refine ⟨by rw [List.length_append];omega,fun i c v hc hv=>?_⟩
 by_cases hi:i<n
 ·rw [List.getElem?_append_left (by omega)] at hc
  exact ha.2 i c v hc (by rw [List.getElem?_take,if_pos hi];exact hv)
 ·rw [List.getElem?_append_right (by omega),la] at hc
  exact hb.2 (i-n) c v hc (by rw [List.getElem?_drop,show n+(i-n)=i by omega];exact hv)
def Seg {X:Type}(P:Program)(r:TypeId→List Value→Option X):List TypeId→List Value→List X→Prop
 | [],cs,xs=>cs=[]∧xs=[]
 | t::ts,cs,xs=>∃ x xs',xs=x::xs'∧P.cellsOf t≤cs.length∧r t (cs.take (P.cellsOf t))=some x∧Seg P r ts (cs.drop (P.cellsOf t)) xs'
def VS (P:Program):Nat→List Field→Nat→Bool
 | o,[],e=>o == e
 | o,f::r,e=>f.offset == o&&VS P (o+P.cellsOf f.type) r e
theorem P5 (P:Program):∀ (fs:List Field) (o e:Nat),VS P o fs e=true→o≤e
 | [],o,e,h=>by simp [VS] at h;omega
 | f::r,o,e,h=>by
   simp only [VS,Bool.and_eq_true] at h
   have:=P5 P r _ _ h.2;omega
theorem GL {X:Type}(P:Program)(r:TypeId→List Value→Option X):∀ (fs:List Field) (o:Nat) (cs:List Value) (xs:List X),VS P o fs cs.length=true→xs.length=fs.length →
 (∀ (i:Nat) (f:Field),fs[i]?=some f→r f.type ((cs.drop f.offset).take (P.cellsOf f.type))=xs[i]?)→Seg P r (fs.map (·.type)) (cs.drop o) xs
 | [],o,cs,xs,ho,hl,_=>by
   simp only [VS,beq_iff_eq] at ho
   refine ⟨?_,List.length_eq_zero_iff.1 hl⟩
   rw [ho];simp
 | f::r',o,cs,[],ho,hl,h=>by simp at hl
 | f::r',o,cs,x::xs,ho,hl,h=>by
   simp only [VS,Bool.and_eq_true,beq_iff_eq] at ho
   have h0:=h 0 f rfl
   rw [ho.1] at h0
   have hle:=P5 P _ _ _ ho.2
   refine ⟨x,xs,rfl,by rw [List.length_drop];show P.cellsOf f.type≤_;omega,by simpa using h0,?_⟩
   rw [List.drop_drop]
   exact GL P r r' _ cs xs ho.2 (by simpa using hl) fun i f' hf=>by simpa using h (i+1) f' (by simpa using hf)
def Rd {T:Type}(w:World)(n:Nat)(t:TypeId)(emb:T→List AV)(cost:T→Nat):Prop :=
 ∀ (H:Type) (enc:TypeId×Value→H) (sp:Nat→Bool) (fuel:Nat),fuel<n→∀ (cs:List Value) (x:DataW H×List MemPlace),DataW.trod enc Tryz.prog w 0 sp true fuel t cs=some x →
   Go.Proofs.YtmedmnondjmleaaGreat.Rows.uptoBulk x.1≤1048576→∃ a:T,Cvs w (emb a) cs∧cost a<Go.Proofs.YtmedmnondjmleaaGreat.Rows.uptoBulk x.1
def RdL {T:Type}(w:World)(n:Nat)(ts:List TypeId)(emb:T→List AV)(cost:T→Nat):Prop :=
 ∀ (H:Type) (enc:TypeId×Value→H) (sp:Nat→Bool) (fuel:Nat),fuel<n→∀ (cs:List Value) (xs:List (DataW H×List MemPlace)),Seg Tryz.prog (DataW.trod enc Tryz.prog w 0 sp true fuel) ts cs xs →
   Go.Proofs.YtmedmnondjmleaaGreat.Rows.uptoBulkAll (xs.map (·.1))≤1048576→∃ a:T,Cvs w (emb a) cs∧cost a≤Go.Proofs.YtmedmnondjmleaaGreat.Rows.uptoBulkAll (xs.map (·.1))
section
variable {w:World} {n:Nat} {t:TypeId}
open Go.Proofs.YtmedmnondjmleaaGreat.Rows (uptoBulk uptoBulkAll)
theorem EN {H:Type}(d:DataW H):1≤uptoBulk d:=by
 cases d with
 | lit l=>cases l<;>simp [uptoBulk]
 | nil=>simp [uptoBulk]
 | ptr d=>simp [uptoBulk]
 | slice elems spare=>simp [uptoBulk]
 | agg parts=>simp [uptoBulk]
 | iface t d=>simp [uptoBulk]
 | map entries=>simp [uptoBulk]
 | held h=>simp [uptoBulk]
theorem MY {H:Type}:∀ {l:List (DataW H)} {i:Nat} {d:DataW H},l[i]?=some d→uptoBulk d≤uptoBulkAll l
 | [],i,d,h=>by simp at h
 | x::r,0,d,h=>by simp at h;subst h;simp only [uptoBulkAll];omega
 | x::r,i+1,d,h=>by
   have:=MY (l:=r) (i:=i) (by simpa using h)
   simp only [uptoBulkAll];omega
theorem MX {H:Type}:∀ l:List (DataW H),l.length≤uptoBulkAll l
 | []=>by simp [uptoBulkAll]
 | x::r=>by have:=EN x;have:=MX r;simp only [uptoBulkAll,List.length_cons];omega
theorem Rd.mono {T:Type}{emb:T→List AV}{cost:T→Nat}{m:Nat}(h:Rd w n t emb cost)(hm:m≤n):Rd w m t emb cost :=
 fun H enc sp fuel hf=>h H enc sp fuel (by omega)
theorem Rd.map {T T':Type}{emb:T→List AV}{cost:T→Nat}{emb':T'→List AV}{cost':T'→Nat}(f:T→T')(h:Rd w n t emb cost)(he:∀ a,emb' (f a)=emb a)(hc:∀ a,cost' (f a)≤cost a):Rd w n t emb' cost':=by
 intro H enc sp fuel hf cs x hx hb
 obtain ⟨a,h1,h2⟩:=h H enc sp fuel hf cs x hx hb
 exact ⟨f a,by rw [he];exact h1,Nat.lt_of_le_of_lt (hc a) h2⟩
theorem Rd.int (ht:Tryz.prog.underlying t=some (.int .i64)):Rd w n t (fun k:Int=>[vi k]) (fun _=>0):=by
 intro H enc sp fuel _ cs x hx _
 obtain ⟨k,rfl,rfl,_⟩:=DataW.trod_int ht hx
 exact ⟨k,.one rfl (.val _),by simp [uptoBulk]⟩
theorem Rd.bool (ht:Tryz.prog.underlying t=some .bool):Rd w n t (fun k:Bool=>[vb k]) (fun _=>0):=by
 intro H enc sp fuel _ cs x hx _
 obtain ⟨k,rfl,rfl⟩:=DataW.trod_bool ht hx
 exact ⟨k,.one rfl (.val _),by simp [uptoBulk]⟩
theorem Rd.str (ht:Tryz.prog.underlying t=some .string):Rd w n t (fun k:Str=>[vs k]) (fun _=>0):=by
 intro H enc sp fuel _ cs x hx _
 obtain ⟨k,rfl,rfl,_⟩:=DataW.trod_string ht hx
 exact ⟨k,.one rfl (.val _),by simp [uptoBulk]⟩
theorem RdL.nil:RdL w n [] (fun _:Unit=>[]) (fun _=>0):=by
 intro H enc sp fuel _ cs xs hx _
 obtain ⟨rfl,rfl⟩:=hx
 exact ⟨(),.nil,by simp [uptoBulkAll]⟩
theorem RdL.cons {T U:Type}{ts:List TypeId}{e:T→List AV}{c:T→Nat}{e':U→List AV}{c':U→Nat}(h:Rd w n t e c)(h':RdL w n ts e' c'):RdL w n (t::ts) (fun a:T×U=>e a.1++e' a.2) (fun a=>c a.1+c' a.2):=by
 intro H enc sp fuel hf cs xs hx hb
 obtain ⟨x,xs',rfl,hl,h1,h2⟩:=hx
 simp only [List.map_cons,uptoBulkAll] at hb ⊢
 obtain ⟨a,a1,a2⟩:=h H enc sp fuel hf _ x h1 (by omega)
 obtain ⟨b,b1,b2⟩:=h' H enc sp fuel hf _ xs' h2 (by omega)
 exact ⟨(a,b),.app hl a1 b1,by simp only;omega⟩
theorem RdL.struct {T:Type}{ts:List TypeId}{fs:Array Field}{emb:T→List AV}{cost:T→Nat}(ht:Tryz.prog.underlying t=some (.struct fs))(hts:fs.toList.map (·.type)=ts)
 (ho:VS Tryz.prog 0 fs.toList (Tryz.prog.cellsOf t)=true) (h:RdL w n ts emb cost):Rd w (n+1) t emb cost:=by
 intro H enc sp fuel hf cs x hx hb
 obtain ⟨xs,m,rfl,rfl,hl,hn,hg⟩:=DataW.trod_struct ht hx
 have hs:=GL Tryz.prog (DataW.trod enc Tryz.prog w 0 sp true m) fs.toList 0 cs xs (by rw [hl];exact ho) (by simpa using hn) (fun i f hf=>hg i f (by simpa using hf))
 rw [hts] at hs
 simp only [uptoBulk] at hb ⊢
 obtain ⟨a,a1,a2⟩:=h H enc sp m (by omega) cs xs (by simpa using hs) (by omega)
 exact ⟨a,a1,by omega⟩
theorem Rd.mk {T U:Type}{ts:List TypeId}{fs:Array Field}{emb:T→List AV}{cost:T→Nat}{emb':U→List AV}{cost':U→Nat}(f:T→U)(ht:Tryz.prog.underlying t=some (.struct fs))(hts:fs.toList.map (·.type)=ts)
 (ho:VS Tryz.prog 0 fs.toList (Tryz.prog.cellsOf t)=true) (h:RdL w n ts emb cost) (he:∀ a,emb' (f a)=emb a) (hc:∀ a,cost' (f a)≤cost a):Rd w (n+1) t emb' cost' :=
 (RdL.struct ht hts ho h).map f he hc
theorem Fv {T:Type}{Q:Nat→T→Prop}:∀ n:Nat,(∀ i,i<n→∃ a,Q i a)→∃ l:List T,l.length=n∧∀ i a,l[i]?=some a→Q i a
 | 0,_=>⟨[],rfl,fun i a h=>by simp at h⟩
 | n+1,h=>by
   obtain ⟨l,h1,h2⟩:=Fv n (fun i hi=>h i (by omega))
   obtain ⟨a,ha⟩:=h n (by omega)
   refine ⟨l++[a],by simp [h1],fun i b hb=>?_⟩
   by_cases hi:i<n
   ·rw [List.getElem?_append_left (by omega)] at hb
    exact h2 i b hb
   ·have:i=n:=by
     have:=List.getElem?_eq_some_iff.1 hb
     obtain ⟨h3,_⟩:=this
     simp only [List.length_append,List.length_singleton] at h3;omega
    subst this
    rw [List.getElem?_append_right (by omega),h1,Nat.sub_self] at hb
    simp at hb;subst hb;exact ha
theorem Ow {w:World}{a:Addr}{n:Nat}{cs:List Value}(h:w.cells? 0 a n=some cs)(hn:0<n):a.spot=none∧cs.length=n∧∀ j,j<n→w.cell? ⟨a.block,a.off+j,none⟩=cs[j]?:=by
 unfold World.cells? at h
 rw [if_pos (Nat.zero_le _)] at h
 have hl:=mapM_some_length h
 have hg:=mapM_some_get h
 have h0:=hg 0 0 (by rw [List.getElem?_range hn])
 have hspot:a.spot=none:=by
  cases hs:a.spot with
  | none=>rfl
  | some s =>
    have:(0:Nat)<cs.length:=by rw [hl];simpa using hn
    rw [List.getElem?_eq_getElem this] at h0
    simp only [Addr.add,if_pos,World.cell?] at h0
    split at h0
    ·simp [hs] at h0
    ·cases h0
 refine ⟨hspot,by simpa using hl,fun j hj=>?_⟩
 rw [← hg j j (by rw [List.getElem?_range hj])]
 unfold Addr.add
 split
 ·rename_i h;subst h;cases a;simp at hspot;subst hspot;rfl
 ·rfl
def Nt (w:World)(b o j:Nat):Value:=match w.cell? ⟨b,o+j,none⟩ with | some v=>v | none=>.bool false
theorem Rd.slice {T:Type}{et:TypeId}{emb:T→List AV}{cost:T→Nat}{sz:Nat}(ht:Tryz.prog.underlying t=some (.slice et))(hc:Tryz.prog.cellsOf et=sz)(hz:0<sz)(h:Rd w n et emb cost) :
 Rd w (n+1) t (fun l:List T=>[.list .none sz (l.map emb)]) (fun l=>(l.map fun a=>cost a+1).sum):=by
 intro H enc sp fuel hf cs x hx hb
 rcases DataW.trod_slice ht hx with ⟨rfl,rfl⟩ | ⟨a,len,cap,elems,rest,m,rfl,rfl,rfl,_,hlc,hcm,hel,hget,_,_⟩
 ·refine ⟨[],.one rfl ?_,by simp [uptoBulk]⟩
  exact V.list (L:=live []) (w:=w) .none sz [] 0 none 0 0 (fun _=>.bool false) (by simp) (by simp) (fun i e h=>by simp at h) (fun h=>absurd rfl h) trivial (fun i e j c h=>by simp at h) (fun i e j c h=>by simp at h)
 ·simp only [uptoBulk] at hb ⊢
  have hlen:=MX (elems.map (·.1))
  rw [List.length_map] at hlen
  have one:∀ i,i<len→∃ a',∃ (cs':List Value) (y:DataW H×List MemPlace),elems[i]?=some y∧w.cells? 0 (a.add (i * sz)) sz=some cs'∧Cvs w (emb a') cs'∧cost a'<uptoBulk y.1:=by
   intro i hi
   have hg:=hget i hi
   rw [List.getElem?_eq_getElem (by omega),hc] at hg
   rw [Option.bind_eq_some_iff] at hg
   obtain ⟨cs',h1,h2⟩:=hg
   have hle:=MY (l:=elems.map (·.1)) (i:=i) (d:=elems[i].1) (by rw [List.getElem?_map,List.getElem?_eq_getElem (by omega)];rfl)
   obtain ⟨a',a1,a2⟩:=h H enc sp m (by omega) cs' _ h2 (by omega)
   exact ⟨a',cs',_,List.getElem?_eq_getElem (by omega),h1,a1,a2⟩
  obtain ⟨l,hl,hl2⟩:=Fv len one
  have hcost:(l.map fun a=>cost a+1).sum≤uptoBulkAll (elems.map (·.1)):=by
   have:∀ (l:List T) (es:List (DataW H×List MemPlace)),l.length=es.length→(∀ (i:Nat) (a:T),l[i]?=some a→∃ y:DataW H×List MemPlace,es[i]?=some y∧cost a<uptoBulk y.1)→(l.map fun a=>cost a+1).sum≤uptoBulkAll (es.map (·.1)):=by
    intro l
    induction l with
    | nil=>intro es _ _;simp
    | cons b r ih =>
      intro es he hh
      match es,he with
      | y::es,he =>
        obtain ⟨y',e1,e2⟩:=hh 0 b rfl
        simp at e1;subst e1
        have:=ih es (by simpa using he) (fun i a ha=>by simpa using hh (i+1) a (by simpa using ha))
        simp only [List.map_cons,List.sum_cons,uptoBulkAll]
        omega
   exact this l elems (by omega) fun i a' ha=>by obtain ⟨_,y,e1,_,_,e2⟩:=hl2 i a' ha;exact ⟨y,e1,e2⟩
  refine ⟨l,.one rfl ?_,by omega⟩
  have addr:∀ i a',l[i]?=some a'→a.spot=none∧(emb a').length=sz∧∀ j c,(emb a')[j]?=some c→∃ v,w.cell? ⟨a.block,a.off+(i * sz+j),none⟩=some v∧v.oneCell'=true∧V (live []) w c v:=by
   intro i a' ha
   obtain ⟨cs',y,_,h1,h2,_⟩:=hl2 i a' ha
   obtain ⟨g1,g2,g3⟩:=Ow h1 hz
   have hb:(a.add (i * sz)).block=a.block∧(a.add (i * sz)).off=a.off+i * sz∧(i * sz=0→(a.add (i * sz)).spot=a.spot):=by
    unfold Addr.add;split
    ·rename_i h;exact ⟨rfl,by omega,fun _=>rfl⟩
    ·rename_i h;exact ⟨rfl,rfl,fun h'=>absurd h' h⟩
   refine ⟨?_,by rw [h2.1,g2],fun j c hj=>?_⟩
   ·obtain ⟨cs0,y0,_,h10,_,_⟩:=hl2 0 (l[0]'(Nat.lt_of_le_of_lt (Nat.zero_le i) (List.getElem?_eq_some_iff.1 ha).1)) (List.getElem?_eq_getElem (Nat.lt_of_le_of_lt (Nat.zero_le i) (List.getElem?_eq_some_iff.1 ha).1))
    obtain ⟨g10,_,_⟩:=Ow h10 hz
    simpa [Addr.add] using g10
   ·have hjs:j<sz:=by rw [← g2,← h2.1];exact (List.getElem?_eq_some_iff.1 hj).1
    have e:=g3 j hjs
    rw [hb.1,hb.2.1] at e
    have hjc:j<cs'.length:=by rw [g2];exact hjs
    obtain ⟨v,hv⟩:∃ v,cs'[j]?=some v:=⟨_,List.getElem?_eq_getElem hjc⟩
    refine ⟨v,by rw [← hv,← e,Nat.add_assoc],h2.2 j c v hj hv⟩
  have key:=V.list (L:=live []) (w:=w) .none sz (l.map emb) cap (some a) a.block a.off (Nt w a.block a.off) (by rw [List.length_map];omega) (by rw [List.length_map];unfold lim;omega)
   (fun i e he=>by obtain ⟨a',h1,rfl⟩:=Yo he;exact (addr i a' h1).2.1)
   (fun hne=>by
    cases l with
    | nil=>simp at hne
    | cons b r =>
      have:=(addr 0 b rfl).1
      cases a;simp at this;subst this;rfl) trivial
   (fun i e j c he hj=>by
    obtain ⟨a',h1,rfl⟩:=Yo he
    obtain ⟨v,v1,v2,_⟩:=(addr i a' h1).2.2 j c hj
    refine ⟨Ml,?_,?_⟩
    ·simp only [Nt,v1]
    ·simp only [Nt,v1,v2])
   (fun i e j c he hj=>by
    obtain ⟨a',h1,rfl⟩:=Yo he
    obtain ⟨v,v1,_,v3⟩:=(addr i a' h1).2.2 j c hj
    simp only [Nt,v1];exact v3)
  rw [List.length_map,hl] at key
  exact key
end
end Go.Vx
end
section
namespace Go.Vx
open Go Go.Proofs
variable {w:World}
theorem Gy {α:Type}(l:List α):(l.map fun _=>0+1).sum=l.length:=by
 induction l with
 | nil=>rfl
 | cons a r ih=>simp only [List.map_cons,List.sum_cons,List.length_cons,ih];omega
theorem Pj (n:Nat):Rd w n 3 (fun k:Int=>[vi k]) (fun _=>0):=.int (by kernel_rfl)
theorem bT (n:Nat):Rd w n 4 (fun k:Bool=>[vb k]) (fun _=>0):=.bool (by kernel_rfl)
theorem GT (n:Nat):Rd w n 9 (fun k:Str=>[vs k]) (fun _=>0):=.str (by kernel_rfl)
theorem GV (n:Nat):Rd w n 23 (fun l:List Int=>[.list .none 1 (Yz l)]) (fun _=>0) :=
 ((Rd.slice (sz:=1) Tryz.underlying23 (by kernel_rfl) (by decide) (Pj n)).mono (Nat.le_succ n)).map (fun l=>l) (fun l=>rfl) (fun l=>Nat.zero_le _)
theorem aU (n:Nat):Rd w n 91 (fun l:List Bool=>[.list .none 1 (XA l)]) (fun _=>0) :=
 ((Rd.slice (sz:=1) Tryz.underlying91 (by kernel_rfl) (by decide) (bT n)).mono (Nat.le_succ n)).map (fun l=>l) (fun l=>rfl) (fun l=>Nat.zero_le _)
theorem GR:∀ n,Rd w n 150 Ty.emb (fun _=>0)
 | 0=>fun H enc sp fuel h=>absurd h (Nat.not_lt_zero _)
 | n + 1=>Rd.mk (fun a:Str×List Ty×Unit=>Ty.mk a.1 a.2.1) (ts:=[9,126]) Tryz.underlying150 (by kernel_rfl) (by kernel_rfl)
     (.cons (GT n) (.cons ((Rd.slice (sz:=2) (et:=150) (by kernel_rfl) (by kernel_rfl) (by decide) (GR n)).mono (Nat.le_succ n)) .nil))
     (fun ⟨s,l,_⟩=>by simp only [cG,dw];rfl) (fun _=>Nat.zero_le _)
theorem LQ (n:Nat):Rd w n 126 (fun l:List Ty=>[.list .none 2 (cJ l)]) (fun _=>0) :=
 ((Rd.slice (sz:=2) Tryz.underlying126 (by kernel_rfl) (by decide) (GR n)).mono (Nat.le_succ n)).map (fun l=>l) (fun l=>by rw [dw]) (fun l=>Nat.zero_le _)
theorem BH:∀ n,Rd w n 52 Tm.emb (fun _=>0)
 | 0=>fun H enc sp fuel h=>absurd h (Nat.not_lt_zero _)
 | n + 1=>Rd.mk (fun a:Int×Int×Str×List Tm×Unit=>Tm.mk a.1 a.2.1 a.2.2.1 a.2.2.2.1) (ts:=[3,3,9,33]) Tryz.underlying52 (by kernel_rfl) (by kernel_rfl)
     (.cons (Pj n) (.cons (Pj n) (.cons (GT n) (.cons ((Rd.slice (sz:=4) (et:=52) (by kernel_rfl) (by kernel_rfl) (by decide) (BH n)).mono (Nat.le_succ n)) .nil))))
     (fun ⟨k,m,s,l,_⟩=>by simp only [co,dg];rfl) (fun _=>Nat.zero_le _)
theorem GS (n:Nat):Rd w n 33 (fun l:List Tm=>[.list .none 4 (cH l)]) (fun _=>0) :=
 ((Rd.slice (sz:=4) Tryz.underlying33 (by kernel_rfl) (by decide) (BH n)).mono (Nat.le_succ n)).map (fun l=>l) (fun l=>by rw [dg]) (fun l=>Nat.zero_le _)
theorem Jx:∀ n,Rd w n 152 Zg.emb (fun _=>0)
 | 0=>fun H enc sp fuel h=>absurd h (Nat.not_lt_zero _)
 | n + 1=>Rd.mk (fun a:Int×Str×List Tm×Ty×List Zg×Int×Int×List Int×Unit=>Zg.mk a.1 a.2.1 a.2.2.1 a.2.2.2.1 a.2.2.2.2.1 a.2.2.2.2.2.1 a.2.2.2.2.2.2.1 a.2.2.2.2.2.2.2.1)
     (ts:=[3,9,33,150,130,3,3,23]) Tryz.underlying152 (by kernel_rfl) (by kernel_rfl)
     (.cons (Pj n) (.cons (GT n) (.cons (GS n) (.cons (GR n) (.cons ((Rd.slice (sz:=9) (et:=152) (by kernel_rfl) (by kernel_rfl) (by decide) (Jx n)).mono (Nat.le_succ n)) (.cons (Pj n) (.cons (Pj n) (.cons (GV n) .nil))))))))
     (fun ⟨k,s,l,⟨ts,tl⟩,gl,m,g,e,_⟩=>by simp only [cp,dl,cG];rfl) (fun _=>Nat.zero_le _)
theorem GX (n:Nat):Rd w n 130 (fun l:List Zg=>[.list .none 9 (cN l)]) (fun _=>0) :=
 ((Rd.slice (sz:=9) Tryz.underlying130 (by kernel_rfl) (by decide) (Jx n)).mono (Nat.le_succ n)).map (fun l=>l) (fun l=>by rw [dl]) (fun l=>Nat.zero_le _)
theorem Il:∀ n,Rd w n 132 FClause.emb (fun _=>0)
 | 0=>fun H enc sp fuel h=>absurd h (Nat.not_lt_zero _)
 | n + 1=>Rd.mk (fun a:List Ty×List Ty×List Int×Str×List Tm×List Zg×List Bool×Unit=>FClause.mk a.1 a.2.1 a.2.2.1 a.2.2.2.1 a.2.2.2.2.1 a.2.2.2.2.2.1 a.2.2.2.2.2.2.1)
     (ts:=[126,126,23,9,33,130,91]) Tryz.underlying132 (by kernel_rfl) (by kernel_rfl)
     (.cons (LQ n) (.cons (LQ n) (.cons (GV n) (.cons (GT n) (.cons (GS n) (.cons (GX n) (.cons (aU n) .nil)))))))
     (fun _=>rfl) (fun _=>Nat.zero_le _)
theorem GW:∀ n,Rd w n 129 FGroup.emb (fun g=>g.alts.length)
 | 0=>fun H enc sp fuel h=>absurd h (Nat.not_lt_zero _)
 | n + 1=>Rd.mk (fun a:List Ty×List FClause×Unit=>FGroup.mk a.1 a.2.1) (ts:=[126,127]) Tryz.underlying129 (by kernel_rfl) (by kernel_rfl)
     (.cons (LQ n) (.cons ((Rd.slice (sz:=7) (et:=132) (by kernel_rfl) (by kernel_rfl) (by decide) (Il n)).mono (Nat.le_succ n)) .nil))
     (fun _=>rfl) (fun ⟨e,l,_⟩=>by simp only [Gy];omega)
def S8 (f:Flat):Nat:=(f.groups.map fun g=>g.alts.length+1).sum
theorem DR:∀ n,Rd w n 25 Flat.emb S8
 | 0=>fun H enc sp fuel h=>absurd h (Nat.not_lt_zero _)
 | n + 1=>Rd.mk (fun a:List FGroup×List Int×Unit=>Flat.mk a.1 a.2.1) (ts:=[22,23]) Tryz.underlying25 (by kernel_rfl) (by kernel_rfl)
     (.cons ((Rd.slice (sz:=2) (et:=129) (by kernel_rfl) (by kernel_rfl) (by decide) (GW n)).mono (Nat.le_succ n)) (.cons (GV n) .nil))
     (fun _=>rfl) (fun ⟨e,l,_⟩=>by simp only [S8];omega)
theorem DQ:∀ n,Rd w n 32 Pick.emb (fun _=>0)
 | 0=>fun H enc sp fuel h=>absurd h (Nat.not_lt_zero _)
 | n + 1=>Rd.mk (fun a:Int×Int×Unit=>Pick.mk a.1 a.2.1) (ts:=[3,3]) Tryz.underlying32 (by kernel_rfl) (by kernel_rfl)
     (.cons (Pj n) (.cons (Pj n) .nil)) (fun _=>rfl) (fun _=>Nat.zero_le _)
theorem GU (n:Nat):Rd w n 26 (fun l:List Pick=>[.list .none 2 (cI l)]) (fun _=>0) :=
 ((Rd.slice (sz:=2) Tryz.underlying26 (by kernel_rfl) (by decide) (DQ n)).mono (Nat.le_succ n)).map (fun l=>l) (fun l=>rfl) (fun l=>Nat.zero_le _)
theorem Gx:∀ l:List Tr,(l.map fun a=>trN a-1+1).sum=trNs l
 | []=>rfl
 | a::r=>by have:=Rx a;simp only [List.map_cons,List.sum_cons,trNs,Gx r];omega
theorem Gz:∀ l:List Cs,(l.map fun a=>trN a.tree-1+1).sum=csN l
 | []=>rfl
 | .mk s a::r=>by
   have h1:=Rx a
   have h:=Gz r
   have e:((Cs.mk s a::r).map fun a=>trN a.tree-1+1).sum=(trN a-1+1)+(r.map fun a=>trN a.tree-1+1).sum:=by rw [List.map_cons,List.sum_cons];rfl
   rw [e,h];show _=trN a+csN r;omega
theorem dL (s:Str)(t:Tr):(Cs.mk s t).emb=vs s::t.emb:=by simp only [Cs.emb]
theorem Jw:∀ n,Rd w n 30 Tr.emb (fun t=>trN t-1)
 | 0=>fun H enc sp fuel h=>absurd h (Nat.not_lt_zero _)
 | n+1=>by
   have ih:=Jw n
   have hc:Rd w (n+1) 114 Cs.emb (fun c=>trN c.tree-1) :=
    Rd.mk (fun a:Str×Tr×Unit=>Cs.mk a.1 a.2.1) (ts:=[9,30]) Tryz.underlying114 (by kernel_rfl) (by kernel_rfl) (.cons (GT n) (.cons ih .nil))
     (fun ⟨s,t,_⟩=>by simp only [dL,List.append_nil];rfl) (fun ⟨s,t,_⟩=>by simp only [Cs.tree];omega)
   have ht:Rd w n 27 (fun l:List Tr=>[.list .none 6 (cD l)]) trNs :=
    ((Rd.slice (sz:=6) (et:=30) (by kernel_rfl) (by kernel_rfl) (by decide) ih).mono (Nat.le_succ n)).map (fun l=>l) (fun l=>by rw [dn]) (fun l=>Nat.le_of_eq (Gx l).symm)
   have hcs:Rd w n 28 (fun l:List Cs=>[.list .none 7 (cP l)]) csN :=
    ((Rd.slice (sz:=7) (et:=114) (by kernel_rfl) (by kernel_rfl) (by decide) hc).mono (by omega)).map (fun l=>l) (fun l=>by rw [dv]) (fun l=>Nat.le_of_eq (Gz l).symm)
   exact Rd.mk (fun a:Int×List Pick×Int×List Tr×List Cs×List Tr×Unit=>Tr.mk a.1 a.2.1 a.2.2.1 a.2.2.2.1 a.2.2.2.2.1 a.2.2.2.2.2.1)
    (ts:=[3,26,3,27,28,27]) Tryz.underlying30 (by kernel_rfl) (by kernel_rfl)
    (.cons (Pj n) (.cons (GU n) (.cons (Pj n) (.cons ht (.cons hcs (.cons ht .nil)))))) (fun ⟨k,p,a,y,c,e,_⟩=>by simp only [cm];rfl) (fun ⟨k,p,a,y,c,e,_⟩=>by simp only [trN];omega)
theorem JK (pred:Str)(i:Nat):∀ (l:List FClause) (k:Nat),(hcl pred i k l).length≤l.length
 | [],k=>Nat.le_refl _
 | c::r,k=>by
   have:=JK pred i r (k+1)
   simp only [hcl,List.length_append,List.length_cons]
   split<;>simp<;>omega
theorem Hh {f:Flat}{i:Nat}{u:FGroup}(h:f.groups[i]?=some u):u.alts.length≤S8 f:=by
 have:∀ (l:List FGroup) (i:Nat),l[i]?=some u→u.alts.length≤(l.map fun g=>g.alts.length+1).sum:=by
  intro l
  induction l with
  | nil=>intro i h;simp at h
  | cons a r ih =>
    intro i h
    match i with
    | 0=>simp at h;subst h;simp only [List.map_cons,List.sum_cons];omega
    | i+1=>have:=ih i (by simpa using h);simp only [List.map_cons,List.sum_cons];omega
 exact this _ _ h
theorem JH (f:Flat)(pred:Str):∀ (l:List Int) (i:Nat),(hrl f pred i l).length≤l.length * S8 f
 | [],i=>by simp [hrl]
 | n::r,i=>by
   have h1:=JH f pred r (i+1)
   have h2:(XE f pred i n).length≤S8 f:=by
    unfold XE
    split
    ·split
     ·rename_i u hu
      exact Nat.le_trans (JK _ _ _ _) (Hh hu)
     ·simp
    ·simp
   simp only [hrl,List.length_append,List.length_cons,Nat.add_mul]
   omega
theorem I6 {f:Flat}{pred:Str}(h:S8 f≤1048576)(hr:f.rules.length≤300):(YI f pred).length≤137438953472:=by
 have h1:=JH f pred f.rules 0
 have h2:f.rules.length * S8 f≤300 * 1048576:=Nat.mul_le_mul hr h
 unfold YI;omega
end Go.Vx
end
