/- Part Q30 of the proof of treeLooksProved: the walk of the program on abstract values, and the plain law. -/
import Derived.Test.YtmedmnondjmleaaGreatQ29
import Derived.Shelf.SlSortCmp.NoneTotal
set_option linter.unusedVariables false
set_option linter.unusedSimpArgs false
section
set_option maxRecDepth 100000
namespace Go.Vx
open Go.Proofs Go.Sort Go.Shelf
theorem Jp {κ:Type}[Inhabited κ]{P:Program}{ρ:Ren}(L:SlLaysF.n6 P ρ)(enc:κ→Value)(h1:OneCell enc)(cf:κ→κ→Int)(hO:SWO (ltOf cf))(g:Nat)(eg:∀ args w,(callFunc g args).run P w=.ok (.enter g args) w)(hent:Xn P (ρ.f 6)=true)
 (hcmp:∀ x y,Pur P g [.val (enc x),.val (enc y)] (vi (cf x y))) (ks:List κ) (rest:List AV) (b n cap:Nat) (σ:Store) (hn:n=ks.length) (hlim:n≤137438953472) (gb:σ.get b=some (.cells (ks.map (fun k=>.val (enc k))++rest))) :
 Zj P (ρ.f 6) [.val (.slice (some ⟨b,0,none⟩) n cap),.val (.func (.func g) #[] #[])] σ (fun r σ'=>∃ ks':List κ,ks'.Perm ks∧ks'.Pairwise (fun x y=>¬ cf y x<0)∧r=.ret (.tup [])∧σ'=σ.set b (.cells (ks'.map (fun k=>.val (enc k))++rest))):=by
 refine ⟨hent,fun w vs hσ hv=>?_⟩
 obtain ⟨hl2,hvv⟩:=hv
 obtain ⟨v0,v1,rfl⟩:∃ v0 v1,vs=#[v0,v1]:=by
  obtain ⟨vl⟩:=vs
  match vl,hl2 with
  | [x,y],_=>exact ⟨x,y,rfl⟩
 have hv0:=hvv 0 _ v0 rfl rfl
 have hv1:=hvv 1 _ v1 rfl rfl
 cases hv0
 cases hv1
 obtain ⟨xs,T,hb,hxl,hxv⟩:=hσ.obj b _ (ZW gb)
 have hbl:b<w.heap.size:=(Array.getElem?_eq_some_iff.1 hb).1
 have hks:∀ (i:Nat) (hi:i<ks.length),xs[i]?=some (enc ks[i]):=fun i hi=>by
  have hlt:i<xs.length:=by rw [hxl,List.length_append,List.length_map];omega
  have:=hxv i (.val (enc ks[i])) xs[i] (by rw [List.getElem?_append_left (by simpa using hi)];simp [hi]) (List.getElem?_eq_getElem hlt)
  rw [List.getElem?_eq_getElem hlt]
  generalize xs[i]=y at this
  cases this;rfl
 have hH:Holds enc w b 0 ks.toArray:=by
  intro j hj
  have hj':j<ks.length:=by simpa using hj
  refine ⟨?_,by unfold World.frozen?;rw [hb];simp⟩
  unfold World.cell?
  rw [hb]
  simp only [Nat.zero_add,Option.isSome_none,Bool.false_eq_true,if_false,List.getElem?_toArray]
  rw [hks j hj',getElem!_pos ks.toArray j hj]
  simp
 have hcl:CmpLays1 P g #[] enc cf b 0 ks.toArray.size w:=by
  intro m os dk _ x y
  have h:=(hcmp x y []).2 (sortWorld enc w b 0 m dk os) #[enc x,enc y] ⟨by simp,by simp⟩ ⟨rfl,fun i a v ha hv=>by
   match i with
   | 0=>simp at ha hv;subst ha;subst hv;exact .val _
   | 1=>simp at ha hv;subst ha;subst hv;exact .val _
   | i+2=>simp at ha⟩
  refine h.mono fun e w' he=>?_
  cases e with
  | returned v =>
    obtain ⟨av,σ',⟨h1,rfl⟩,hv,_,hev⟩:=he
    injection h1 with h1;subst h1
    cases hv
    exact ⟨rfl,_,_,QB hev⟩
  | panicked c=>obtain ⟨pv,σ',_,⟨h1,_⟩,_⟩:=he;cases h1
  | outgrown=>exact he.elim
 have hcon:=Any.slices_SortFunc L enc h1 cf hO g #[] b 0 cap ks.toArray w eg hcl hH hbl (by simp;omega)
 rw [show ks.toArray.size=n by simp [hn]] at hcon
 refine Calls.mono hcon fun en w' he=>?_
 obtain ⟨rfl,d',m,os,hp,hs',rfl⟩:=he
 obtain ⟨hp1,_,hp3⟩:=hp
 have hds:d'.size=ks.length:=by rw [hp1];simp
 have e1:d'.extract 0 n=d':=by rw [hn,← hds];simp
 have e2:ks.toArray.extract 0 n=ks.toArray:=by rw [hn];simp
 rw [e1,e2] at hp3
 have hperm:d'.toList.Perm ks:=by simpa using hp3
 have hpw:d'.toList.Pairwise (fun x y=>¬ cf y x<0):=by
  rw [List.pairwise_iff_getElem]
  intro i j hi hj hij
  have hi':i<d'.size:=by simpa using hi
  have hj':j<d'.size:=by simpa using hj
  have:=hs' i j (Nat.zero_le _) hij (by omega)
  simp only [ltOf,decide_eq_false_iff_not] at this
  rw [getElem!_pos d' i hi',getElem!_pos d' j hj'] at this
  simpa using this
 have hput:putRow enc w b 0 d'={ w with heap:=w.heap.setIfInBounds b (.cells (putCells enc 0 d' xs.toArray) T (0,0)) }:=by
  unfold putRow mapBlock
  congr 1
  apply Array.ext_getElem?
  intro k
  rw [Array.getElem?_modify,Array.getElem?_setIfInBounds]
  by_cases hk:b=k
  ·subst hk;rw [if_pos rfl,if_pos rfl,if_pos hbl,hb];rfl
  ·rw [if_neg hk,if_neg hk]
 have hpc:(putCells enc 0 d' xs.toArray).toList.length=xs.length:=by simp [putCells]
 obtain ⟨o1,o2⟩:=TQ (y:=.cells (d'.toList.map (fun k=>.val (enc k))++rest)) hσ gb (fun _=>trivial) rfl (.cells (putCells enc 0 d' xs.toArray) T (0,0)) (fun w' ev hb'=>by
  refine ⟨(putCells enc 0 d' xs.toArray).toList,T,by rw [hb'],by rw [hpc,hxl];simp [hds],fun i c v hc hv=>?_⟩
  have hil:i<xs.length:=by rw [← hpc];exact (List.getElem?_eq_some_iff.1 hv).1
  have hval:v=if i<d'.size then enc d'[i]! else xs[i]:=by
   have:=(List.getElem?_eq_some_iff.1 hv).2
   rw [← this]
   simp [putCells]
  by_cases hi:i<d'.size
  ·rw [if_pos hi] at hval
   rw [List.getElem?_append_left (by simpa using hi)] at hc
   rw [getElem!_pos d' i hi] at hval
   simp [hi] at hc
   rw [← hc,hval];exact .val _
  ·rw [if_neg hi] at hval
   rw [List.getElem?_append_right (by simpa using hi)] at hc
   have hold:=hxv i c xs[i] (by rw [List.getElem?_append_right (by simp;omega)];simpa [hds] using hc) (List.getElem?_eq_getElem hil)
   rw [hval]
   exact hold.ev ev)
 unfold sortWorld
 rw [show putRow enc (Sort.ahead w m) b 0 d'=Sort.ahead (putRow enc w b 0 d') m from rfl,hput]
 obtain ⟨k1,k2⟩:=JS (n:=m) (os:=os) o1
 exact ⟨.tup [],_,⟨d'.toList,hperm,hpw,rfl,rfl⟩,.tup [] [] rfl (fun i c v h=>by simp at h),k1,o2.trans k2⟩
end Go.Vx
end
section
set_option maxRecDepth 100000
namespace Go.Vx
open Go.Proofs Go.Sort Go.Shelf
theorem Gp:(True):=by
 first | trivial | kernel_rfl
theorem aO:(True):=by
 first | trivial | kernel_rfl
theorem UZ:(Tryz.prog.underlying 159=some (.map 9 4))∧(Tryz.prog.underlying 9=some .string)∧(Zl Tryz.prog 4=some (.bool false))∧(ZA Tryz.prog 64=some 9)∧(Zh Tryz.prog 9=some 1)∧(Zl Tryz.prog 9=some (.string ⟨#[]⟩))∧(ZQ Tryz.prog 9=some 16):=by
 refine ⟨?_,?_,?_,?_,?_,?_,?_⟩<;>first | trivial | kernel_rfl
theorem Bz:(True):=by
 first | trivial | kernel_rfl
theorem U0:(Tryz.prog.underlying 141=some (.map 3 4))∧(Tryz.prog.underlying 3=some (.int .i64))∧(Zl Tryz.prog 4=some (.bool false))∧(ZA Tryz.prog 23=some 3)∧(Zh Tryz.prog 3=some 1)∧(Zl Tryz.prog 3=some (.int .i64 0))∧(ZQ Tryz.prog 3=some 8):=by
 refine ⟨?_,?_,?_,?_,?_,?_,?_⟩<;>first | trivial | kernel_rfl
theorem BC:(True):=by
 first | trivial | kernel_rfl
def ltS (a b:Str):Bool:=Op.bytesLess a.data.toList b.data.toList
def T6 (a b:Str):Int:=if ltS a b then -1 else if a=b then 0 else 1
theorem Oe (a:Str):Pur Tryz.prog 182 [vs a] (vb false):=by
 intro σ
 refine Zc [] [] Tryz.func182 rfl (by kernel_rfl) ?_;rw [Tryz.ntmps182,Tryz.results182]
 try simp only [go_sem,seval,aO]
 exact ZC (by simp)
theorem Rb (a b:Str):Pur Tryz.prog 137 [vs a,vs b] (vi (T6 a b)):=by
 intro σ
 refine Zc [] [] Tryz.func137 rfl (by kernel_rfl) ?_;rw [Tryz.ntmps137,Tryz.results137]
 try simp only [go_sem,seval,Gp]
 refine (Oe a).use ?_
 try simp only [go_sem,seval,Gp]
 refine (Oe b).use ?_
 try simp only [go_sem,seval,Gp]
 refine ⟨fun h=>?_,fun h=>⟨fun h2=>?_,fun h2=>?_⟩⟩
 ·exact X8 (by simp [T6,ltS,h])
 ·exact X8 (by simp_all [T6,ltS])
 ·exact X8 (by simp_all [T6,ltS])
theorem Ch (a b:Str):ltS a b=decide (a.data.toList<b.data.toList):=bytesLess_eq _ _
theorem BV (a b:Str)(h:a.data.toList=b.data.toList):a=b:=by
 apply ByteArray.ext
 exact Array.toList_inj.1 h
theorem RH (a b:Str):T6 a b<0↔a.data.toList<b.data.toList:=by
 unfold T6
 rw [Ch]
 by_cases h:a.data.toList<b.data.toList
 ·simp [h]
 ·simp only [h,decide_false,Bool.false_eq_true,if_false,iff_false]
  split<;>simp
theorem UK:Go.Sort.SWO (ltOf T6) where
 irrefl x:=by simp only [ltOf,decide_eq_false_iff_not,RH];exact List.lt_irrefl _
 trans x y z h1 h2:=by simp only [ltOf,decide_eq_true_eq,RH] at h1 h2 ⊢;exact List.lt_trans h1 h2
 ntrans x y z h1 h2:=by
  simp only [ltOf,decide_eq_false_iff_not,RH,List.not_lt] at h1 h2 ⊢
  exact List.le_trans h2 h1
theorem RI (a b:Int):VF a b<0↔a<b:=by
 unfold VF
 split
 ·simp;omega
 ·split<;>simp<;>omega
theorem Ry:Go.Sort.SWO (ltOf VF) where
 irrefl x:=by simp only [ltOf,decide_eq_false_iff_not,RI];omega
 trans x y z h1 h2:=by simp only [ltOf,decide_eq_true_eq,RI] at h1 h2 ⊢;omega
 ntrans x y z h1 h2:=by simp only [ltOf,decide_eq_false_iff_not,RI] at h1 h2 ⊢;omega
theorem DL (a b:Str):Pur Tryz.prog 136 [vs a,vs b] (vi (T6 a b)):=by
 intro σ
 refine Zc [] [] Tryz.func136 rfl (by kernel_rfl) ?_;rw [Tryz.ntmps136,Tryz.results136]
 try simp only [go_sem,seval,Bz]
 refine (Rb a b).use ?_
 try simp only [go_sem,seval,Bz]
 exact Zu
theorem DM (a b:Int):Pur Tryz.prog 125 [vi a,vi b] (vi (VF a b)):=by
 intro σ
 refine Zc [] [] Tryz.func125 rfl (by kernel_rfl) ?_;rw [Tryz.ntmps125,Tryz.results125]
 try simp only [go_sem,seval,BC]
 refine (UD a b).use ?_
 try simp only [go_sem,seval,BC]
 exact Zu
end Go.Vx
end
section
set_option maxRecDepth 100000
namespace Go.Vx
open Go.Proofs Go.Sort Go.Shelf
def MV {κ:Type}(σ:Store)(e:κ→AV)(S:Store)(v:AV)(done:List κ):Prop :=
 (done=[]∧v=.list .full 0 [])∨∃ b cap rest,v=.val (.slice (some ⟨b,0,none⟩) done.length cap)∧S.get b=some (.cells (done.map e++rest))∧done.length+rest.length=cap∧Zx σ b
theorem MV.nil {κ:Type}(σ:Store)(e:κ→AV)(S:Store):MV σ e S (.list .full 0 []) []:=.inl ⟨rfl,rfl⟩
theorem MV.one {κ:Type}{σ:Store}{e:κ→AV}{S:Store}{v:AV}{done:List κ}(h:MV σ e S v done):v.one=true∧v.cells=some [v]:=by
 rcases h with ⟨_,rfl⟩ | ⟨b,cap,rest,rfl,_⟩<;>exact ⟨rfl,rfl⟩
theorem MV.append {κ:Type}{P:Program}{sT xT el by_:Nat}{z:Value}{σ S:Store}{e:κ→AV}{v:AV}{done:List κ}{k:κ}{rt:Rt}{K:AV→Store→Prop}(h:MV σ e S v done)(he:∀ x,(e x).one=true)
 (h1:ZA P sT=some el) (h2:Zh P el=some 1) (h3:Zl P el=some z) (h4:ZQ P el=some by_) (h5:(ZA P xT).isSome=true) (h6:z.cells.size=1) (h7:by_≤512) (hl:done.length+1≤137438953472) (hH:Has σ S)
 (kk:∀ v' S',MV σ e S' v' (done++[k])→(∀ b x,(σ.get b).isSome=true∨(∃ m s q l,x=.iter m s q l)→S.get b=some x→S'.get b=some x)→Has σ S'→K v' S'):Ua P sT xT v (.list rt 1 [[e k]]) S K:=by
 unfold Ua
 rw [h1]
 simp only [h2,h3,h4]
 refine ⟨h5,h6,h7,by simp,by simp,?_⟩
 have keepc:∀ (b:Nat) (x:AObj),Zx S b→∀ (c:Nat) (y:AObj),S.get c=some y→Store.get ((b,x)::S) c=some y:=fun b x hb c y hy=>by rw [Zy hb (by rw [hy];rfl)];exact hy
 rcases h with ⟨rfl,rfl⟩ | ⟨b,cap,rest,rfl,hg,hcap,hf⟩
 ·simp only
  refine ⟨by simp [lim],by simp,by simp,fun h=>by simp at h,fun _ b nc zs hb hnc hzs=>?_⟩
  refine kk _ _ (.inr ⟨b,nc,zs,by simp,?_,?_,hH.fresh hb⟩) (fun c y _ hy=>keepc b _ hb c y hy) (hH.cons _)
  ·rw [Zi];simp
  ·simp at hzs hnc ⊢;omega
 ·simp only
  have hall:∀ l:List κ,(l.map e).all AV.one=true:=fun l=>by simp [List.all_eq_true,he]
  refine ⟨_,hg,by simp;omega,by omega,by simp only [lim];simpa using hl,by simp [he],?_,fun hfit=>?_,fun hno b' nc zs hb' hnc hzs=>?_⟩
  ·rw [Nat.mul_one,List.take_append_of_le_length (by simp),List.take_of_length_le (by simp)];exact hall done
  ·have hr:rest≠[]:=fun e=>by rw [e] at hcap;simp at hcap hfit;omega
   obtain ⟨r0,r1,rfl⟩:=List.exists_cons_of_ne_nil hr
   refine kk _ _ (.inr ⟨b,cap,r1,by simp,?_,by simp at hcap ⊢;omega,hf⟩) (fun c y hc hy=>?_) (hH.set hf _)
   ·rw [Zd hg]
    have:Yu (done.map e++r0::r1) (done.length * 1) [[e k]].flatten=(done++[k]).map e++r1:=by
     simp [Yu,Nat.mul_one,List.take_append,List.drop_append]
    rw [this]
   ·rw [Zb (fun e=>?_)]
    ·exact hy
    ·rw [e,hg] at hy
     injection hy with hy
     rcases hc with hc | ⟨m,s,q,l,hc⟩
     ·rw [e,Zm hf] at hc;cases hc
     ·rw [hc] at hy;cases hy
  ·refine kk _ _ (.inr ⟨b',nc,zs,by simp,?_,?_,hH.fresh hb'⟩) (fun c y _ hy=>keepc b' _ hb' c y hy) (hH.cons _)
   ·rw [Zi,Nat.mul_one,List.take_append_of_le_length (by simp),List.take_of_length_le (by simp)]
    simp
   ·simp at hzs hnc ⊢;omega
def Y1 {κ:Type}(ks:List κ):List (κ×AV×Nat):=ks.zipIdx.map fun p=>(p.1,vb true,p.2)
theorem X3 {κ:Type}{ke:κ→Value}{A:List κ}{e:Value×AV×Nat}:e∈ZM ke (Y1 A)↔∃ (i:Nat) (x:κ),A[i]?=some x∧e=(ke x,vb true,i):=by
 unfold ZM Y1
 rw [List.map_map,List.mem_map]
 constructor
 ·rintro ⟨⟨x,i⟩,h,rfl⟩
  rw [List.mem_zipIdx_iff_getElem?] at h
  exact ⟨i,x,h,rfl⟩
 ·rintro ⟨i,x,h,rfl⟩
  exact ⟨(x,i),List.mem_zipIdx_iff_getElem?.2 h,rfl⟩
theorem OU {κ:Type}(ks:List κ):(List.range ks.length).filterMap (fun i=>ks[i]?)=ks:=by
 have:∀ n,n≤ks.length→(List.range n).filterMap (fun i=>ks[i]?)=ks.take n:=by
  intro n
  induction n with
  | zero=>intro _;simp
  | succ n ih =>
    intro h
    rw [List.range_succ,List.filterMap_append,ih (by omega),List.take_add_one]
    have:ks[n]?=some ks[n]:=List.getElem?_eq_getElem (by omega)
    simp [this]
 rw [this _ (Nat.le_refl _),List.take_length]
theorem P0 {κ:Type}{ks:List κ}{seen:List Nat}(h1:seen.Nodup)(h2:∀ i∈seen,i<ks.length)(h3:∀ i,i<ks.length→i∈seen):(seen.filterMap (fun i=>ks[i]?)).Perm ks:=by
 have:seen.Perm (List.range ks.length):=(List.perm_ext_iff_of_nodup h1 List.nodup_range).2 (fun i=>by rw [List.mem_range];exact ⟨h2 i,h3 i⟩)
 have:=this.filterMap (fun i=>ks[i]?)
 rwa [OU] at this
def Ko {κ:Type}(lt:κ→κ→Bool)(x:κ):List κ→List κ
 | []=>[x]
 | y::r=>if lt y x then y::Ko lt x r else x::y::r
def PY {κ:Type}(lt:κ→κ→Bool):List κ→List κ
 | []=>[]
 | x::r=>Ko lt x (PY lt r)
theorem Og {κ:Type}(lt:κ→κ→Bool)(x:κ)(l:List κ):(Ko lt x l).Perm (x::l):=by
 induction l with
 | nil=>exact .refl _
 | cons y r ih =>
   simp only [Ko]
   split
   ·exact (ih.cons y).trans (.swap _ _ _)
   ·exact .refl _
theorem Xj {κ:Type}(lt:κ→κ→Bool)(l:List κ):(PY lt l).Perm l:=by
 induction l with
 | nil=>exact .refl _
 | cons x r ih=>exact (Og lt x _).trans (ih.cons x)
theorem Mz {κ:Type}{lt:κ→κ→Bool}(hO:SWO lt)(x:κ){l:List κ}(h:l.Pairwise (fun a b=>lt b a=false)):(Ko lt x l).Pairwise (fun a b=>lt b a=false):=by
 induction l with
 | nil=>simp [Ko]
 | cons y r ih =>
   rw [List.pairwise_cons] at h
   simp only [Ko]
   split
   ·rename_i hyx
    rw [List.pairwise_cons]
    refine ⟨fun b hb=>?_,ih h.2⟩
    rcases List.mem_cons.1 ((Og lt x r).mem_iff.1 hb) with rfl | hb
    ·cases hc:lt b y with
     | false=>rfl
     | true=>have:=hO.trans _ _ _ hyx hc;rw [hO.irrefl] at this;cases this
    ·exact h.1 b hb
   ·rename_i hyx
    have hyx':lt y x=false:=by simpa using hyx
    rw [List.pairwise_cons]
    refine ⟨fun b hb=>?_,List.pairwise_cons.2 h⟩
    rcases List.mem_cons.1 hb with rfl | hb
    ·exact hyx'
    ·exact hO.ntrans _ _ _ (h.1 b hb) hyx'
theorem WG {κ:Type}{lt:κ→κ→Bool}(hO:SWO lt)(l:List κ):(PY lt l).Pairwise (fun a b=>lt b a=false):=by
 induction l with
 | nil=>exact .nil
 | cons x r ih=>exact Mz hO x ih
theorem Up {κ:Type}{lt:κ→κ→Bool}(hO:SWO lt)(ht:∀ a b,lt a b=false→lt b a=false→a=b){l l':List κ}(hp:l'.Perm l)(hs:l'.Pairwise (fun a b=>lt b a=false)):l'=PY lt l :=
 (hp.trans (Xj lt l).symm).eq_of_pairwise (le:=fun a b=>lt b a=false) (fun a b _ _ h1 h2=>ht a b h2 h1) hs (WG hO l)
end Go.Vx
end
section
set_option maxRecDepth 100000
namespace Go.Vx
open Go.Proofs Go.Sort Go.Shelf
theorem Y0.trans {a b c:AV}{σ σ1 σ2:Store}(h:Y0 a σ b σ1)(k:Y0 b σ1 c σ2):Y0 a σ c σ2:=fun w x ho hv=>by
 obtain ⟨h1,h2,h3⟩:=h w x ho hv
 obtain ⟨k1,k2,k3⟩:=k w x h2 h1
 exact ⟨k1,k2,h3.trans k3⟩
theorem Qk (a b:Str)(h1:ltOf T6 a b=false)(h2:ltOf T6 b a=false):a=b:=by
 simp only [ltOf,decide_eq_false_iff_not,RH,List.not_lt] at h1 h2
 exact BV _ _ (List.le_antisymm h2 h1)
theorem Mi (a b:Int)(h1:ltOf VF a b=false)(h2:ltOf VF b a=false):a=b:=by
 simp only [ltOf,decide_eq_false_iff_not,RI] at h1 h2;omega
def V4 (l:List Str):List Str:=PY (ltOf T6) l
def Vv (l:List Int):List Int:=PY (ltOf VF) l
theorem JR {κ:Type}(f:κ→AV)(l:List κ):(l.map fun k=>[f k]).flatten=l.map f:=by
 induction l with
 | nil=>rfl
 | cons a r ih=>simp only [List.map_cons,List.flatten_cons,ih];rfl
theorem OK (f:Value)(σ:Store):Zj Tryz.prog 135 [.list .full 0 [],.val f] σ (Z8 (.tup []) σ):=by
 refine ⟨by kernel_rfl,fun w vs hσ hv=>?_⟩
 obtain ⟨hl2,hvv⟩:=hv
 obtain ⟨v0,v1,rfl⟩:∃ v0 v1,vs=#[v0,v1]:=by
  obtain ⟨vl⟩:=vs
  match vl,hl2 with
  | [x,y],_=>exact ⟨x,y,rfl⟩
 have hv0:=hvv 0 _ v0 rfl rfl
 cases hv0 with
 | list _ _ _ cap a b' o rd hcap hlim hsz ha hr h1 h2 =>
 have hcon:=AnyF.slices_SortFunc_none (P:=Tryz.prog) (ρ:=Tryz.sortStrs_ren) { Tryz.sortStrs with } a cap v1 w
 refine Calls.mono hcon fun en w' he=>?_
 obtain ⟨rfl,rfl⟩:=he
 exact ⟨.tup [],σ,⟨rfl,rfl⟩,.tup [] [] rfl (fun i c v h=>by simp at h),hσ,.refl _ _⟩
theorem OJ (ks:List Str)(rest:List AV)(b n cap:Nat)(σ:Store)(hn:n=ks.length)(hlim:n≤137438953472)(gb:σ.get b=some (.cells (ks.map (fun k=>vs k)++rest))) :
 Zj Tryz.prog 135 [.val (.slice (some ⟨b,0,none⟩) n cap),.val (.func (.func 136) #[] #[])] σ (fun r σ'=>r=.ret (.tup [])∧σ'=σ.set b (.cells ((V4 ks).map (fun k=>vs k)++rest))):=by
 refine (Jp Tryz.sortStrs (fun k:Str=>Value.string k) (fun _=>rfl) T6 UK 136 (enters_of Tryz.func136 (by kernel_rfl) rfl) (by kernel_rfl) (fun x y=>DL x y) ks rest b n cap σ hn hlim gb).mono ?_
 rintro r σ' ⟨ks',h1,h2,h3,h4⟩
 have:ks'=V4 ks:=Up UK Qk h1 (h2.imp fun {x y} h=>by simpa [ltOf] using h)
 rw [this] at h4
 exact ⟨h3,h4⟩
theorem RX (ks:List Str)(hlen:ks.length≤137438953472)(σ:Store)(r:Nat)(g:σ.get r=some (.map (ZM keS (Y1 ks)) ks.length)) :
 Zj Tryz.prog 97 [.val (.map (some r))] σ (Z8 (.list .none 1 (Tk (V4 ks))) σ):=by
 refine Zj.nodup (by kernel_rfl) (fun hnd=>?_)
 refine Zc [14] [] Tryz.func97 rfl (by kernel_rfl) ?_;rw [Tryz.ntmps97,Tryz.results97]
 refine ix ?_
 refine ⟨r,ks.length,_,_,_,UZ.1,rfl,g,fun b6 hb6=>?_⟩
 refine ix ?_
 have nb6:b6≠r:=fun e=>by have:=Zm hb6;rw [e,g] at this;cases this
 refine Zv (mu:=[14]) (dr:=[]) [3,4,7,8,9,10,11,12,13,14] (fun x:List Nat×AV×Store=>[(3,x.2.1)]) (fun x=>x.2.2) (fun x=>x.2.2.get b6=some (.iter (some r) ks.length x.1 ks.length)∧x.2.2.get r=some (.map (ZM keS (Y1 ks)) ks.length)∧Has σ x.2.2∧x.1.Nodup∧(∀ i∈x.1,i<ks.length)∧MV σ (fun k:Str=>vs k) x.2.2 x.2.1 (x.1.filterMap (fun i=>ks[i]?))∧x.1.length+((List.range ks.length).filter (fun j=>decide (j ∉ x.1))).length≤ks.length) (fun x=>((List.range ks.length).filter (fun j=>decide (j ∉ x.1))).length) ([],.list .full 0 [],(b6,.iter (some r) ks.length [] ks.length)::σ) (by kernel_rfl) ⟨Zi _ _ _,by rw [Za nb6];exact g,(Has.refl σ).cons _,List.nodup_nil,by simp,.inl ⟨rfl,rfl⟩,by simp only [List.length_nil,Nat.zero_add];exact Nat.le_trans (List.length_filter_le _ _) (by simp)⟩ ⟨.refl _,trivial⟩ (.refl _) ?_
 rintro ⟨seen,v,S⟩ ⟨i1,i2,i3,i4,i5,i6,i7⟩
 simp only at i1 i2 i3 i4 i5 i6 i7
 refine ix ?_
 refine ⟨b6,r,ks.length,ZM keS (Y1 ks),seen,rfl,i1,i2,fun hall=>?_,fun e he hne=>?_⟩
 ·have hp:(seen.filterMap (fun i=>ks[i]?)).Perm ks:=P0 i4 i5 (fun i hi=>hall _ (X3.2 ⟨i,ks[i],List.getElem?_eq_getElem hi,rfl⟩))
  generalize seen.filterMap (fun i=>ks[i]?)=done at hp i6
  rcases i6 with ⟨rfl,rfl⟩ | ⟨b,cap,rest,rfl,hg,hcap,hf⟩
  ·refine ix ?_
   refine (OK _ S).only ?_
   refine ix ?_
   have:ks=[]:=List.Perm.nil_eq hp |>.symm
   rw [this]
   exact .mk (.nilA _ _ _) (i3.sub hnd) ⟨rfl,rfl⟩
  ·refine ix ?_
   have hdl:done.length=ks.length:=hp.length_eq
   refine (OJ done rest b done.length cap S rfl (by omega) hg).mono ?_
   rintro r' S' ⟨h1,h2⟩
   rw [h1,h2]
   refine ix ?_
   have hss:V4 done=V4 ks:=Up UK Qk ((Xj _ _).trans hp) (WG UK _)
   rw [hss]
   have hsl:(V4 ks).length=done.length:=(Xj _ ks).length_eq.trans hdl.symm
   refine .mkS ((dt (es:=Tk (V4 ks)) (sz:=1) (Zd hg) (by simp [hsl]) (by omega) (by simp only [lim];omega) (fun i e he=>by obtain ⟨k,_,rfl⟩:=Yo he;rfl) ?_ ?_).trans (Y0.of (.refl _) ?_)) ⟨rfl,rfl⟩
   ·rw [Nat.mul_one,List.take_append_of_le_length (by simp [hsl]),List.take_of_length_le (by simp [hsl])]
    exact (JR (fun k:Str=>vs k) _).symm
   ·rw [show (Tk (V4 ks)).flatten=(V4 ks).map (fun k=>vs k) from JR (fun k:Str=>vs k) _,List.all_eq_true]
    intro x hx
    obtain ⟨k,_,rfl⟩:=List.mem_map.1 hx
    rfl
   ·refine Has.sub (fun p hp'=>?_) hnd
    obtain ⟨k,x⟩:=p
    have hk:=Yv hf hp'
    exact Vc (X0 _ (i3 _ hp') hk) hk
 ·obtain ⟨i,k,hk,rfl⟩:=X3.1 he
  refine ix ?_
  have hil:=(List.getElem?_eq_some_iff.1 hk).1
  refine ⟨b6,r,ks.length,ZM keS (Y1 ks),seen,(keS k,vb true,i),rfl,Zd i1,by rw [Zb (Ne.symm nb6)];exact i2,X3.2 ⟨i,k,hk,rfl⟩,?_⟩
  try simp only [go_sem,seval,UZ,keS]
  have hM:MV σ (fun k:Str=>vs k) (S.set b6 (.iter (some r) ks.length (seen++[i]) ks.length)) v (seen.filterMap (fun i=>ks[i]?)):=by
   rcases i6 with h | ⟨b,cap,rest,h1,h2,h3⟩
   ·exact .inl h
   ·exact .inr ⟨b,cap,rest,h1,by rw [Zb (fun e=>by rw [e,i1] at h2;cases h2)];exact h2,h3⟩
  have hsub:(seen.filterMap (fun i=>ks[i]?)).length≤seen.length:=List.length_filterMap_le _ _
  have hseen:seen.length<ks.length:=by
   have:=Vd hil hne
   omega
  refine ⟨rfl,hM.append (fun _=>rfl) UZ.2.2.2.1 UZ.2.2.2.2.1 UZ.2.2.2.2.2.1 UZ.2.2.2.2.2.2 (by rw [UZ.2.2.2.1];rfl) rfl (by decide) (by omega) (i3.set hb6 _) (fun v' S' hv' hk' hS'=>?_)⟩
  try simp only [go_sem,seval,UZ,hv'.one.1,hv'.one.2]
  refine .mk (seen++[i],v',S') ⟨hk' _ _ (.inr ⟨_,_,_,_,rfl⟩) (Zd i1),hk' _ _ (.inl (by rw [g];rfl)) (by rw [Zb (Ne.symm nb6)];exact i2),hS',?_,?_,?_,?_⟩ (Vd hil hne) ⟨.refl _,trivial⟩ (by repeat first | exact Zf.turn _ rfl | refine Zf.put rfl ?_) (.refl _)
  ·simp only;rw [List.nodup_append];exact ⟨i4,by simp,fun a ha b hb e=>by simp at hb;subst hb;subst e;exact hne ha⟩
  ·intro a ha;rcases List.mem_append.1 ha with h | h
   ·exact i5 a h
   ·simp at h;subst h;exact hil
  ·simp only;rw [List.filterMap_append];simpa [hk] using hv'
  ·have:=Vd hil hne
   simp only [List.length_append,List.length_singleton];omega
theorem OL (f:Value)(σ:Store):Zj Tryz.prog 124 [.list .full 0 [],.val f] σ (Z8 (.tup []) σ):=by
 refine ⟨by kernel_rfl,fun w vs hσ hv=>?_⟩
 obtain ⟨hl2,hvv⟩:=hv
 obtain ⟨v0,v1,rfl⟩:∃ v0 v1,vs=#[v0,v1]:=by
  obtain ⟨vl⟩:=vs
  match vl,hl2 with
  | [x,y],_=>exact ⟨x,y,rfl⟩
 have hv0:=hvv 0 _ v0 rfl rfl
 cases hv0 with
 | list _ _ _ cap a b' o rd hcap hlim hsz ha hr h1 h2 =>
 have hcon:=AnyF.slices_SortFunc_none (P:=Tryz.prog) (ρ:=Tryz.sortInts_ren) { Tryz.sortInts with } a cap v1 w
 refine Calls.mono hcon fun en w' he=>?_
 obtain ⟨rfl,rfl⟩:=he
 exact ⟨.tup [],σ,⟨rfl,rfl⟩,.tup [] [] rfl (fun i c v h=>by simp at h),hσ,.refl _ _⟩
theorem OM (ks:List Int)(rest:List AV)(b n cap:Nat)(σ:Store)(hn:n=ks.length)(hlim:n≤137438953472)(gb:σ.get b=some (.cells (ks.map (fun k=>vi k)++rest))) :
 Zj Tryz.prog 124 [.val (.slice (some ⟨b,0,none⟩) n cap),.val (.func (.func 125) #[] #[])] σ (fun r σ'=>r=.ret (.tup [])∧σ'=σ.set b (.cells ((Vv ks).map (fun k=>vi k)++rest))):=by
 refine (Jp Tryz.sortInts (fun k:Int=>Value.int .i64 k) (fun _=>rfl) VF Ry 125 (enters_of Tryz.func125 (by kernel_rfl) rfl) (by kernel_rfl) (fun x y=>DM x y) ks rest b n cap σ hn hlim gb).mono ?_
 rintro r σ' ⟨ks',h1,h2,h3,h4⟩
 have:ks'=Vv ks:=Up Ry Mi h1 (h2.imp fun {x y} h=>by simpa [ltOf] using h)
 rw [this] at h4
 exact ⟨h3,h4⟩
theorem RZ (ks:List Int)(hlen:ks.length≤137438953472)(σ:Store)(r:Nat)(g:σ.get r=some (.map (ZM keI (Y1 ks)) ks.length)) :
 Zj Tryz.prog 84 [.val (.map (some r))] σ (Z8 (.list .none 1 (Yz (Vv ks))) σ):=by
 refine Zj.nodup (by kernel_rfl) (fun hnd=>?_)
 refine Zc [14] [] Tryz.func84 rfl (by kernel_rfl) ?_;rw [Tryz.ntmps84,Tryz.results84]
 refine iz ?_
 refine ⟨r,ks.length,_,_,_,U0.1,rfl,g,fun b6 hb6=>?_⟩
 refine iz ?_
 have nb6:b6≠r:=fun e=>by have:=Zm hb6;rw [e,g] at this;cases this
 refine Zv (mu:=[14]) (dr:=[]) [3,4,7,8,9,10,11,12,13,14] (fun x:List Nat×AV×Store=>[(3,x.2.1)]) (fun x=>x.2.2) (fun x=>x.2.2.get b6=some (.iter (some r) ks.length x.1 ks.length)∧x.2.2.get r=some (.map (ZM keI (Y1 ks)) ks.length)∧Has σ x.2.2∧x.1.Nodup∧(∀ i∈x.1,i<ks.length)∧MV σ (fun k:Int=>vi k) x.2.2 x.2.1 (x.1.filterMap (fun i=>ks[i]?))∧x.1.length+((List.range ks.length).filter (fun j=>decide (j ∉ x.1))).length≤ks.length) (fun x=>((List.range ks.length).filter (fun j=>decide (j ∉ x.1))).length) ([],.list .full 0 [],(b6,.iter (some r) ks.length [] ks.length)::σ) (by kernel_rfl) ⟨Zi _ _ _,by rw [Za nb6];exact g,(Has.refl σ).cons _,List.nodup_nil,by simp,.inl ⟨rfl,rfl⟩,by simp only [List.length_nil,Nat.zero_add];exact Nat.le_trans (List.length_filter_le _ _) (by simp)⟩ ⟨.refl _,trivial⟩ (.refl _) ?_
 rintro ⟨seen,v,S⟩ ⟨i1,i2,i3,i4,i5,i6,i7⟩
 simp only at i1 i2 i3 i4 i5 i6 i7
 refine iz ?_
 refine ⟨b6,r,ks.length,ZM keI (Y1 ks),seen,rfl,i1,i2,fun hall=>?_,fun e he hne=>?_⟩
 ·have hp:(seen.filterMap (fun i=>ks[i]?)).Perm ks:=P0 i4 i5 (fun i hi=>hall _ (X3.2 ⟨i,ks[i],List.getElem?_eq_getElem hi,rfl⟩))
  generalize seen.filterMap (fun i=>ks[i]?)=done at hp i6
  rcases i6 with ⟨rfl,rfl⟩ | ⟨b,cap,rest,rfl,hg,hcap,hf⟩
  ·refine iz ?_
   refine (OL _ S).only ?_
   refine iz ?_
   have:ks=[]:=List.Perm.nil_eq hp |>.symm
   rw [this]
   exact .mk (.nilA _ _ _) (i3.sub hnd) ⟨rfl,rfl⟩
  ·refine iz ?_
   have hdl:done.length=ks.length:=hp.length_eq
   refine (OM done rest b done.length cap S rfl (by omega) hg).mono ?_
   rintro r' S' ⟨h1,h2⟩
   rw [h1,h2]
   refine iz ?_
   have hss:Vv done=Vv ks:=Up Ry Mi ((Xj _ _).trans hp) (WG Ry _)
   rw [hss]
   have hsl:(Vv ks).length=done.length:=(Xj _ ks).length_eq.trans hdl.symm
   refine .mkS ((dt (es:=Yz (Vv ks)) (sz:=1) (Zd hg) (by simp [hsl]) (by omega) (by simp only [lim];omega) (fun i e he=>by obtain ⟨k,_,rfl⟩:=Yo he;rfl) ?_ ?_).trans (Y0.of (.refl _) ?_)) ⟨rfl,rfl⟩
   ·rw [Nat.mul_one,List.take_append_of_le_length (by simp [hsl]),List.take_of_length_le (by simp [hsl])]
    exact (JR (fun k:Int=>vi k) _).symm
   ·rw [show (Yz (Vv ks)).flatten=(Vv ks).map (fun k=>vi k) from JR (fun k:Int=>vi k) _,List.all_eq_true]
    intro x hx
    obtain ⟨k,_,rfl⟩:=List.mem_map.1 hx
    rfl
   ·refine Has.sub (fun p hp'=>?_) hnd
    obtain ⟨k,x⟩:=p
    have hk:=Yv hf hp'
    exact Vc (X0 _ (i3 _ hp') hk) hk
 ·obtain ⟨i,k,hk,rfl⟩:=X3.1 he
  refine iz ?_
  have hil:=(List.getElem?_eq_some_iff.1 hk).1
  refine ⟨b6,r,ks.length,ZM keI (Y1 ks),seen,(keI k,vb true,i),rfl,Zd i1,by rw [Zb (Ne.symm nb6)];exact i2,X3.2 ⟨i,k,hk,rfl⟩,?_⟩
  try simp only [go_sem,seval,U0,keI]
  have hM:MV σ (fun k:Int=>vi k) (S.set b6 (.iter (some r) ks.length (seen++[i]) ks.length)) v (seen.filterMap (fun i=>ks[i]?)):=by
   rcases i6 with h | ⟨b,cap,rest,h1,h2,h3⟩
   ·exact .inl h
   ·exact .inr ⟨b,cap,rest,h1,by rw [Zb (fun e=>by rw [e,i1] at h2;cases h2)];exact h2,h3⟩
  have hsub:(seen.filterMap (fun i=>ks[i]?)).length≤seen.length:=List.length_filterMap_le _ _
  have hseen:seen.length<ks.length:=by
   have:=Vd hil hne
   omega
  refine ⟨rfl,hM.append (fun _=>rfl) U0.2.2.2.1 U0.2.2.2.2.1 U0.2.2.2.2.2.1 U0.2.2.2.2.2.2 (by rw [U0.2.2.2.1];rfl) rfl (by decide) (by omega) (i3.set hb6 _) (fun v' S' hv' hk' hS'=>?_)⟩
  try simp only [go_sem,seval,U0,hv'.one.1,hv'.one.2]
  refine .mk (seen++[i],v',S') ⟨hk' _ _ (.inr ⟨_,_,_,_,rfl⟩) (Zd i1),hk' _ _ (.inl (by rw [g];rfl)) (by rw [Zb (Ne.symm nb6)];exact i2),hS',?_,?_,?_,?_⟩ (Vd hil hne) ⟨.refl _,trivial⟩ (by repeat first | exact Zf.turn _ rfl | refine Zf.put rfl ?_) (.refl _)
  ·simp only;rw [List.nodup_append];exact ⟨i4,by simp,fun a ha b hb e=>by simp at hb;subst hb;subst e;exact hne ha⟩
  ·intro a ha;rcases List.mem_append.1 ha with h | h
   ·exact i5 a h
   ·simp at h;subst h;exact hil
  ·simp only;rw [List.filterMap_append];simpa [hk] using hv'
  ·have:=Vd hil hne
   simp only [List.length_append,List.length_singleton];omega
end Go.Vx
end
section
set_option maxRecDepth 100000
namespace Go.Vx
open Go.Proofs
def MW (σ:Store)(sz:Nat)(S:Store)(v:AV)(es:List (List AV)):Prop :=
 (es=[]∧∃ s,v=.list .full s [])∨∃ b cap rest,v=.val (.slice (some ⟨b,0,none⟩) es.length cap)∧S.get b=some (.cells (es.flatten++rest))∧es.length * sz+rest.length=cap * sz∧es.length≤cap∧Zx σ b
theorem MW.one {σ:Store}{sz:Nat}{S:Store}{v:AV}{es:List (List AV)}(h:MW σ sz S v es):v.one=true∧v.cells=some [v]:=by
 rcases h with ⟨_,s,rfl⟩ | ⟨b,cap,rest,rfl,_⟩<;>exact ⟨rfl,rfl⟩
theorem Px {α:Type}{sz:Nat}{es:List (List α)}(h:∀ e∈es,e.length=sz):es.flatten.length=es.length * sz :=
 (Vf es (fun i e he=>h e (List.mem_of_getElem? he))).1
theorem MW.append {P:Program}{sT xT el by_ sz:Nat}{z:Value}{σ S:Store}{v:AV}{es ys:List (List AV)}{rt:Rt}{s2:Nat}{K:AV→Store→Prop}(h:MW σ sz S v es)(hes:∀ e∈es,e.length=sz)(hys:∀ e∈ys,e.length=sz)(he1:es.flatten.all AV.one=true)(hy1:ys.flatten.all AV.one=true)(hs2:s2=sz∨ys=[])
 (h1:ZA P sT=some el) (h2:Zh P el=some sz) (h3:Zl P el=some z) (h4:ZQ P el=some by_) (h5:(ZA P xT).isSome=true) (h6:z.cells.size=sz) (h7:by_≤512) (hl:es.length+ys.length≤137438953472) (hH:Has σ S)
 (kk:∀ v' S',MW σ sz S' v' (es++ys)→Yw σ S S'→Has σ S'→K v' S'):Ua P sT xT v (.list rt s2 ys) S K:=by
 unfold Ua
 rw [h1]
 simp only [h2,h3,h4]
 refine ⟨h5,h6,h7,hs2,hys,?_⟩
 rcases h with ⟨rfl,s,rfl⟩ | ⟨b,cap,rest,rfl,hg,hcap,hle,hf⟩
 ·simp only
  refine ⟨by simp only [lim];exact hl,by simp,by simp,fun h=>?_,fun hne b nc zs hb hnc hzs=>?_⟩
  ·subst h
   exact kk _ _ (.inl ⟨rfl,s,rfl⟩) (.refl _ _) hH
  ·simp only [List.length_nil,Nat.zero_add] at hnc hzs
   refine kk _ _ (.inr ⟨b,nc,zs,by simp,?_,?_,by simpa using hnc,hH.fresh hb⟩) (.cons hb _) (hH.cons _)
   ·rw [Zi];simp
   ·simp only [List.nil_append,hzs,← Nat.add_mul];congr 1;omega
 ·simp only
  have hfl:=Px hes
  have hcs:(es.flatten++rest).length=cap * sz:=by rw [List.length_append,hfl];exact hcap
  have htk:(es.flatten++rest).take (es.length * sz)=es.flatten:=by rw [← hfl,List.take_append_of_le_length (Nat.le_refl _),List.take_of_length_le (Nat.le_refl _)]
  refine ⟨_,hg,hcs,hle,by simp only [lim];exact hl,hy1,by rw [htk];exact he1,fun hfit=>?_,fun hno b' nc zs hb' hnc hzs=>?_⟩
  ·have hyl:=Px hys
   have hrl:ys.length * sz≤rest.length:=by
    have:(es.length+ys.length) * sz≤cap * sz:=Nat.mul_le_mul_right _ hfit
    rw [Nat.add_mul] at this;omega
   refine kk _ _ (.inr ⟨b,cap,rest.drop (ys.length * sz),by simp,?_,?_,by simpa using hfit,hf⟩) (.set hf _) (hH.set hf _)
   ·rw [Zd hg]
    have:Yu (es.flatten++rest) (es.length * sz) ys.flatten=(es++ys).flatten++rest.drop (ys.length * sz):=by
     unfold Yu
     rw [htk,hyl,← hfl,List.drop_append]
     simp [hyl]
    rw [this]
   ·simp only [List.length_append,List.length_drop,Nat.add_mul];omega
  ·refine kk _ _ (.inr ⟨b',nc,zs,by simp,?_,?_,by simpa using hnc,hH.fresh hb'⟩) (.cons hb' _) (hH.cons _)
   ·rw [Zi,htk];simp
   ·simp only [List.length_append,hzs,← Nat.add_mul];congr 1;omega
theorem MW.shift {σ S:Store}{sz:Nat}{v:AV}{es:List (List AV)}(h:MW σ sz S v es)(hes:∀ e∈es,e.length=sz)(he1:es.flatten.all AV.one=true)(hl:es.length≤137438953472)(hH:Has σ S)(hn:(σ.map (·.1)).Nodup):Y0 v S (.list .none sz es) σ:=by
 rcases h with ⟨rfl,s,rfl⟩ | ⟨b,cap,rest,rfl,hg,hcap,hle,hf⟩
 ·exact .of (.nilA _ _ _) (hH.sub hn)
 ·have hfl:=Px hes
  refine (dt (es:=es) (sz:=sz) hg rfl hle (by simp only [lim];exact hl) (fun i e he=>hes e (List.mem_of_getElem? he)) ?_ he1).trans (.of (.refl _) ?_)
  ·rw [← hfl,List.take_append_of_le_length (Nat.le_refl _),List.take_of_length_le (Nat.le_refl _)]
  ·refine Has.sub (fun p hp=>?_) hn
   obtain ⟨k,x⟩:=p
   exact Vc (hH _ hp) (Yv hf hp)
theorem MW.set {σ S:Store}{sz b:Nat}{v:AV}{es:List (List AV)}{x:AObj}(h:MW σ sz S v es)(hb:(σ.get b).isSome=true):MW σ sz (S.set b x) v es:=by
 rcases h with h | ⟨c,cap,rest,h1,h2,h3,h4,h5⟩
 ·exact .inl h
 ·exact .inr ⟨c,cap,rest,h1,by rw [Zb (fun e=>by rw [← e,Zm h5] at hb;cases hb)];exact h2,h3,h4,h5⟩
theorem MW.cons {σ S:Store}{sz b:Nat}{v:AV}{es:List (List AV)}(h:MW σ sz S v es)(hb:Zx S b)(x:AObj):MW σ sz ((b,x)::S) v es:=by
 rcases h with h | ⟨c,cap,rest,h1,h2,h3,h4,h5⟩
 ·exact .inl h
 ·exact .inr ⟨c,cap,rest,h1,by rw [Zy hb (by rw [h2];rfl)];exact h2,h3,h4,h5⟩
theorem Tr.emb_len (t:Tr):t.emb.length=6:=by cases t;rfl
theorem Cs.emb_len (t:Cs):t.emb.length=7:=by obtain ⟨s,t⟩:=t;cases t;rfl
theorem dP (t:Tr):t.emb.all AV.one=true:=by cases t;rfl
theorem dM (t:Cls):t.emb.all AV.one=true:=by cases t;rfl
theorem dX (t:Cs):t.emb.all AV.one=true:=by obtain ⟨s,t⟩:=t;cases t;rfl
theorem Q6 {α:Type}(f:α→List AV)(h:∀ x,(f x).all AV.one=true)(l:List α):(l.map f).flatten.all AV.one=true:=by
 induction l with
 | nil=>rfl
 | cons a r ih=>rw [List.map_cons,List.flatten_cons,List.all_append,h a,ih];rfl
theorem dy (l:List Tr):∀ e∈cD l,e.length=6:=fun e he=>by rw [dn] at he;obtain ⟨t,_,rfl⟩:=List.mem_map.1 he;exact t.emb_len
theorem dz (l:List Tr):(cD l).flatten.all AV.one=true:=by rw [dn];exact Q6 _ dP l
theorem dh (l:List Cls):∀ e∈cA l,e.length=2:=fun e he=>by obtain ⟨t,_,rfl⟩:=List.mem_map.1 he;rfl
theorem dJ (l:List Cls):(cA l).flatten.all AV.one=true:=Q6 _ dM l
theorem dK (l m:List Tr):cD (l++m)=cD l++cD m:=by simp [dn]
end Go.Vx
end
