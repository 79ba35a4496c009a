/- What the functions of the packages term and check answer is proved for every input. -/
import Derived.Test.YthhfolohakiemaaGreatDoorMagG
import Derived.Test.YthhfolohakiemaaGreatDoorMagH
import Derived.Test.YthhfolohakiemaaGreatDoorMagI
set_option linter.all false
set_option maxRecDepth 20000
set_option maxHeartbeats 800000
namespace Go.Ped
open Go.RowKit Go.Proofs
section
variable (rest:List AV) (l:List ByteArray)
theorem mo:∀id o,(id,o)∈vp l→bg (gX (vp l)) o=o:=by
 intro id o hm
 simp only [vp,List.mem_cons,Prod.mk.injEq,List.not_mem_nil,or_false] at hm
 rcases hm with ⟨rfl,rfl⟩|⟨rfl,rfl⟩|⟨rfl,rfl⟩
 ·rfl
 ·rfl
 ·simp only [bg,aM _ _ (bw l),aM _ _ (jg l)]
abbrev B4:AV:= .bZ 94 [] [.aA 100004 0 0,.aA 100003 0 0]
theorem U5 (v:ByteArray) (rest:List AV) (hl:l.length<8796093022208):Sp 94 [.aE (.J v::rest),.aA 100004 0 0,.aA 100003 0 0] (vp l) (.bC []) (vp (fl l v)):=by
 by_cases h3:v∈l
 ·obtain ⟨j,hf,hj⟩:=cy (i:=0) h3
  have hf:∃i,bs true (.J v) (l.map AV.J) 0=some (some i)∧(pos l)[i]? =some (sI ((j+1:Nat):Int)):=⟨j,by simpa using hf,zA (List.getElem?_eq_some_iff.1 hj).1⟩
  rw [fl,if_pos (.inr (.inr h3))]
  exact av Tryz.f94 60000 false (hr:=fun h=>zG Tryz.f94 39 h (mo l))
 ·have hf:=co h3 (i:=0)
  by_cases h:v=⟨#[]⟩∨v=⟨#[95]⟩
  ·rw [fl,if_pos (by grind)]
   exact av Tryz.f94 60000 false (hr:=fun h=>zG Tryz.f94 39 h (mo l))
  ·have k:Sp 94 [.aE (.J v::rest),.aA 100004 0 0,.aA 100003 0 0] (vp l) (.bC []) [(100003,.an [.aX 1 (l.map AV.J++[.J v])]),(100004,.an [.aI 100005]),(100005,.aI (l.map AV.J++[.J v]) (pos l++[sI (((l.map AV.J).length+1:Nat):Int)]))]:=av Tryz.f94 60000 false (hr:=fun h=>zM Tryz.f94 39 h (mo l))
   rw [fl,if_neg (by grind)]
   simpa [vp,uy] using k
theorem qD {α β:Type} (T:α→List β) {xs:List α} {i:Nat} {y:α} (h:xs[i]? =some y):(xs.take (i+1)).flatMap T=(xs.take i).flatMap T++T y:=by
 have hlt:i<xs.length:=(List.getElem?_eq_some_iff.1 h).1
 have e:xs[i]=y:=by rw [List.getElem?_eq_getElem hlt] at h;exact Option.some.inj h
 rw [List.take_succ_eq_append_getElem hlt,List.flatMap_append,e];simp
theorem A6 {α β:Type} (T:α→List β) {xs:List α} {i:Nat} {y:α} (h:xs[i]? =some y):((xs.take i).flatMap T).length+(T y).length≤(xs.flatMap T).length:=by
 have h2:xs.flatMap T=(xs.take (i+1)).flatMap T++(xs.drop (i+1)).flatMap T:=by rw [←List.flatMap_append,List.take_append_drop]
 rw [h2,qD T h];simp only [List.length_append];omega
theorem kY {P:Program} {n k:Nat} {c:Code} {α:Type} (T:α→List Tm) (xs:List α) (env:Nat→List (Nat×AV)) (envE:List (Nat×AV)) (l:List ByteArray) (hB:l.length+(xs.flatMap T).length<8796093022208)
  (turn:∀(i:Nat) (l':List ByteArray),i<xs.length→(∀y,xs[i]? =some y→l'.length+(T y).length<8796093022208)→dm P n c ⟨env i,vp l'⟩ (fun e t=>e= .aj∧∃y,xs[i]? =some y∧t=⟨env (i+1),vp (dU l' (T y))⟩))
  (hend:∀(l':List ByteArray),dm P n c ⟨env xs.length,vp l'⟩ (fun e t=>e= .ar k∧t=⟨envE,vp l'⟩)):bJ P n c ⟨env 0,vp l⟩ (.ar k) ⟨envE,vp (dU l (xs.flatMap T))⟩:=by
 have h:=bJ.rX (P:=P) (n:=n) (c:=c) (e:= .ar k) (st':=⟨envE,vp (dU l (xs.flatMap T))⟩) (st:=fun i=>⟨env i,vp (dU l ((xs.take i).flatMap T))⟩) (N:=xs.length) ?_ ?_
 ·simpa [dU] using h
 ·intro i hi
  obtain ⟨e,t,⟨rfl,y,hy,rfl⟩,h⟩:=turn i (dU l ((xs.take i).flatMap T)) hi (fun y hy=>by
   have:=eP ((xs.take i).flatMap T) l
   have:=A6 T hy
   omega)
  show cf P n c ⟨env i,vp (dU l ((xs.take i).flatMap T))⟩ .aj ⟨env (i+1),vp (dU l ((xs.take (i+1)).flatMap T))⟩
  rw [qD T hy,m9]
  exact h
 ·obtain ⟨e,t,⟨rfl,rfl⟩,h⟩:=hend (dU l ((xs.take xs.length).flatMap T))
  show bJ P n c ⟨env xs.length,vp (dU l ((xs.take xs.length).flatMap T))⟩ (.ar k) _
  rw [List.take_length] at h⊢
  exact .bD h (by simp)
theorem OU (p:ByteArray) (ts:List Tm) (rest:List AV) (l:List ByteArray) (hsm:ts.length≤9223372036854775807) (hB:l.length+ts.length<8796093022208):Sp 93 [.bu 108 (.aE (.J p::sT ts::rest)),B4] (vp l) (.bC []) (vp (dU l ts)):=by
 have o:=kY (P:=Tryz.prog) (n:=119) (k:=7) (c:=O Tryz.f93 3) (fun t:Tm=>[t]) ts (fun i=>[(1,B4),(10,.aE (.J p::sT ts::rest)),(106,sI (ts.map Tm.av).length),(107,sI (i:Int))]) [] l (by simpa using hB) (fun i l' hi hl=>by
  have hy:=List.getElem?_eq_getElem hi
  have hs:=hl _ hy
  generalize ts[i]=y at*
  have hx:=eY Tm.av hy rfl
  simp only [List.length_singleton] at hs
  have hk:=U5 l' y.v [sJ y.k,sI y.n,.J y.s] (by omega)
  exact av Tryz.f93 60000 false) (fun l'=>av Tryz.f93 60000 false)
 rw [show ts.flatMap (fun t=>[t])=ts by simp] at o
 exact av Tryz.f93 60000 false (hr:=fun h=>zM Tryz.f93 119 h (mo l))
theorem Ex.qC:∀(l:List Ex),Ex.bv l=l.flatMap Ex.af
 |[]=>rfl
 |e::r=>by simp only [Ex.bv,List.flatMap_cons,Ex.qC r]
theorem Ex.wg (x:Ex):x.af=x.t::Ex.bv x.ax:=by cases x;rfl
theorem Ex.gL:∀(l:List Ex),l.length≤(Ex.bv l).length
 |[]=>Nat.le_refl _
 |e::r=>by
  have:=Ex.gL r
  simp only [Ex.bv,Ex.wg e,List.length_cons,List.length_append];omega
theorem U4 (x:Ex) (rest:List AV) (l:List ByteArray) (hB:(fl l x.t.v).length+(Ex.bv x.ax).length<8796093022208) (h0:l.length<8796093022208) (k93:∀(y:Ex),y∈x.ax→∀(l:List ByteArray),l.length+y.af.length<8796093022208→Sp 93 [.bu 198 (.aE y.ac),B4] (vp l) (.bC []) (vp (dU l y.af))):Sp 93 [.bu 198 (.aE (x.ac++rest)),B4] (vp l) (.bC []) (vp (dU (fl l x.t.v) (Ex.bv x.ax))):=by
 have hk:=Ex.gL x.ax
 rw [Ex.qC] at hB hk⊢
 have o:=kY (P:=Tryz.prog) (n:=119) (k:=5) (c:=O Tryz.f93 2) Ex.af x.ax (fun i=>[(1,B4),(8,.aE (x.ac++rest)),(85,sI (x.ax.map Ex.av).length),(86,sI (i:Int))]) [] (fl l x.t.v) hB (fun i l' hi hl=>by
  have hy:=List.getElem?_eq_getElem hi
  have hs:=k93 _ (List.mem_of_getElem? hy) l' (hl _ hy)
  generalize x.ax[i]=y at*
  have hx:=eY Ex.av hy (Ex.de y)
  exact av Tryz.f93 60000 false) (fun l'=>av Tryz.f93 60000 false)
 have hk:=U5 l x.t.v (sJ x.t.k::sI x.t.n:: .J x.t.s::sE x.ax::rest) h0
 exact av Tryz.f93 60000 false (hr:=fun h=>zM Tryz.f93 119 h (mo l))
mutual
theorem FJ:∀(x:Ex) (rest:List AV) (l:List ByteArray),l.length+x.af.length<8796093022208→Sp 93 [.bu 198 (.aE (x.ac++rest)),B4] (vp l) (.bC []) (vp (dU l x.af))
 | .mk o t ks,rest,l,hB=>by
   have e:Ex.af (.mk o t ks)=t::Ex.bv ks:=rfl
   rw [e] at hB⊢
   have:=qA l t.v
   simp only [List.length_cons] at hB
   exact U4 (.mk o t ks) rest l (by show (fl l t.v).length+(Ex.bv ks).length<_;omega) (by omega) (OW ks)
theorem OW:∀(ks:List Ex) (y:Ex),y∈ks→∀(l:List ByteArray),l.length+y.af.length<8796093022208→Sp 93 [.bu 198 (.aE y.ac),B4] (vp l) (.bC []) (vp (dU l y.af))
 |x::r,y,hy,l,hl=>by
  rcases List.mem_cons.1 hy with e|e
  ·rw [e,←List.append_nil x.ac];exact FJ x [] l (by rw [←e];exact hl)
  ·exact OW r y e l hl
end
theorem OV (x:Li) (l:List ByteArray) (hB:l.length+x.af.length<8796093022208):Sp 93 [.bu 154 (.aE x.ac),B4] (vp l) (.bC []) (vp (dU l x.af)):=by
 have a1:=eP x.ts l
 have a2:=eP x.l.af (dU l x.ts)
 unfold Li.af at hB⊢
 rw [m9,m9]
 simp only [List.length_append] at hB
 have o1:=OU x.p x.ts (x.ac.drop 3) l (by omega) (by omega)
 have o2:=FJ x.l x.r.ac (dU l x.ts) (by omega)
 have o3:=FJ x.r [] (dU (dU l x.ts) x.l.af) (by omega)
 exact av Tryz.f93 60000 (hr:=fun h=>zM Tryz.f93 119 h (mo l))
theorem U3 (p:ByteArray) (hd:List Ar) (bd:List Li) (l:List ByteArray) (hk:bd.length≤9223372036854775807) (hB:l.length+(hd.map Ar.t++az bd).length<8796093022208):Sp 93 [.bu 196 (.aE [.J p,sA hd,sL bd]),B4] (vp l) (.bC []) (vp (dU l (hd.map Ar.t++az bd))):=by
 have a1:=eP (hd.map Ar.t) l
 rw [m9]
 simp only [List.length_append,List.length_map] at hB a1
 have e:hd.map Ar.t=hd.flatMap (fun a=>[a.t]):=by simp [List.map_eq_flatMap]
 have o:=kY (P:=Tryz.prog) (n:=119) (k:=1) (c:=O Tryz.f93 0) (fun a:Ar=>[a.t]) hd (fun i=>[(1,B4),(4,.aE [.J p,sA hd,sL bd]),(20,sI (hd.map Ar.av).length),(21,sI (i:Int))]) [(1,B4),(4,.aE [.J p,sA hd,sL bd])] l (by rw [←e];simp;omega) (fun i l' hi hl=>by
  have hy:=List.getElem?_eq_getElem hi
  have hs:=hl _ hy
  generalize hd[i]=y at*
  have hx:=eY Ar.av hy rfl
  simp only [List.length_singleton] at hs
  have hk:=U5 l' y.t.v [sJ y.t.k,sI y.t.n,.J y.t.s] (by omega)
  exact av Tryz.f93 60000) (fun l'=>av Tryz.f93 60000)
 rw [←e] at o
 have o2:=kY (P:=Tryz.prog) (n:=119) (k:=3) (c:=O Tryz.f93 1) Li.af bd (fun i=>[(1,B4),(4,.aE [.J p,sA hd,sL bd]),(38,sI (bd.map Li.av).length),(39,sI (i:Int))]) [] (dU l (hd.map Ar.t)) (by unfold az at hB;omega) (fun i l' hi hl=>by
  have hy:=List.getElem?_eq_getElem hi
  have hs:=OV _ l' (hl _ hy)
  generalize bd[i]=y at*
  have hx:=eY Li.av hy rfl
  exact av Tryz.f93 60000) (fun l'=>av Tryz.f93 60000)
 exact av Tryz.f93 60000 (hr:=fun h=>zM Tryz.f93 119 h (mo l))
end
section
variable (ty:TypeId) (cs:List AV)
theorem U7:EN 10 (cF 0 (ai Tryz.f53)) ⟨[(0,.bu ty (.aE cs))],[]⟩ ⟨[(0,.bu ty (.aE cs)),(2,.ab)],[]⟩:=by
 exact ⟨cw.aj,St.mk [(0,.bu ty (.aE cs)),(2,AV.ab)] [],⟨rfl,rfl⟩,gA 100000 [] [0,2] [] (by kernel_rfl) (aN)⟩
theorem U8 (ty:TypeId) (cs:List AV):EN 10 (cF 1 (ai Tryz.f53)) ⟨[(0,.bu ty (.aE cs)),(2,.ab)],[]⟩ ⟨[(0,.bu ty (.aE cs)),(3,.aA 100003 0 0)],[(100003,.an [.ab])]⟩:=by
 exact ⟨cw.aj,St.mk [(0,AV.bu ty (AV.aE cs)),(3,AV.aA 100003 0 0)] [(100003,Ob.an [AV.ab])],⟨rfl,rfl⟩,gA 100000 [] [0,3] [K0 100003] (by kernel_rfl) (aN)⟩
abbrev x9:Nat×AV:=(3,.aA 100003 0 0)
abbrev A7:Nat×Ob:=(100003,.an [.ab])
abbrev KX:Nat×AV:=(4,.aA 100004 0 0)
abbrev A8:Nat×Ob:=(100004,.an [.aI 100005])
abbrev CV:Nat×Ob:=(100005,.aI [] [])
theorem U9:EN 10 (cF 2 (ai Tryz.f53)) ⟨[(0,.bu ty (.aE cs)),x9],[A7]⟩ ⟨[(0,.bu ty (.aE cs)),x9,KX],[A7,A8,CV]⟩:=by
 exact ⟨cw.aj,St.mk [(0,.bu ty (.aE cs)),x9,KX] [A7,A8,CV],⟨rfl,rfl⟩,gA 100000 [] [0,3,4] [K0 100003,K0 100004,K0 100005] (by kernel_rfl) (aN)⟩
theorem U' (l:List ByteArray) (k93:Sp 93 [.bu ty (.aE cs),.bZ 94 [] [.aA 100004 0 0,.aA 100003 0 0]] (vp []) (.bC []) (vp l)):EN 10 (cF 3 (ai Tryz.f53)) ⟨[(0,.bu ty (.aE cs)),x9,KX],vp []⟩ ⟨[x9],vp l⟩:=by
 exact zs 100000<|zc k93<|zh (show aa (l.map AV.J)=true∧aa (pos l)=true from by simp)<|zq ⟨rfl,rfl⟩ [3] [K0 100003,K0 100004,K1 100005]
theorem Va:En 10 (ca 4 (ai Tryz.f53)) ⟨[x9],[A7,A8,CV]⟩ (fun e t=>e= .aR∧t=⟨[(2,.ab)],[A7,A8,CV]⟩):=au Tryz.f53 100000
abbrev OX (l:List ByteArray):List (Nat×Ob):=[(100003,.an [.aw 100500 0 (l.map AV.J).length]),A8,(100005,.aI (l.map AV.J) (pos l)),(100500,.aw 1 (l.map AV.J))]
theorem Vb (l:List ByteArray):En 10 (ca 4 (ai Tryz.f53)) ⟨[x9],(OX l)⟩ (fun e t=>e= .aR∧t=⟨[(2,.aw 100500 0 (l.map AV.J).length)],(OX l)⟩):=au Tryz.f53 100000
theorem Ue (t:TypeId) (cs:List AV) (l:List ByteArray) (h93:Sp 93 [.bu t (.aE cs),.bZ 94 [] [.aA 100004 0 0,.aA 100003 0 0]] (vp []) (.bC []) (vp l)):Sp 53 [.bu t (.aE cs)] [] (.aF (l.map .J) false) []:=by
 obtain ⟨e,s,⟨rfl,rfl⟩,r0⟩:=U7 t cs
 obtain ⟨e,s,⟨rfl,rfl⟩,r1⟩:=U8 t cs
 obtain ⟨e,s,⟨rfl,rfl⟩,r2⟩:=U9 t cs
 obtain ⟨e,s,⟨rfl,rfl⟩,r3⟩:=U' t cs l h93
 have r2':=r2.gV (eC (st:=⟨_,[A7,A8,CV]⟩) 100003 0 1 rfl rfl)
 by_cases hl:l=[]
 ·subst hl
  obtain ⟨e,s,⟨rfl,rfl⟩,r4⟩:=Va
  have r4':=(r4.ez (gJ (st:=⟨_,vp []⟩) 100003 0 (sz:=1) rfl rfl)).p
  have r5:=r4'.fb [2] [] (st':=⟨[(2,.ab)],[]⟩) (cs:=[]) rfl trivial
  refine bK.vS (bK.qj (st':=⟨[(2,.ab)],[]⟩) (fn:=Tryz.f53) (c:=ai Tryz.f53) (by kernel_rfl) (by kernel_rfl) (by simp [aa,aJ]) ?_ (.inr rfl) (by kernel_rfl) rfl) .ab
  exact iE.iI 0 (by kernel_rfl) r0.p (iE.iI 1 (by kernel_rfl) r1.p (iE.iI 2 (by kernel_rfl) r2'.p (iE.iI 3 (by kernel_rfl) r3.p r5)))
 ·obtain ⟨e,s,⟨rfl,rfl⟩,r4⟩:=Vb l
  have r4':=(r4.ez (gm (st:=⟨_,vp l⟩) 100003 0 100500 (sz:=1) rfl rfl (by simpa using hl) rfl (by simp [mid]))).p
  have r5:=r4'.fb [2] [(100500,.dz)] (st':=⟨[(2,.aF (l.map AV.J) false)],[]⟩) (cs:=[(l.map AV.J).length=(l.map AV.J).length,aa (l.map AV.J)=true]) rfl ⟨rfl,bw l,trivial⟩
  refine (bK.qj (st':=⟨[(2,.aF (l.map AV.J) false)],[]⟩) (fn:=Tryz.f53) (c:=ai Tryz.f53) (by kernel_rfl) (by kernel_rfl) (by simp [aa,aJ]) ?_ (.inr rfl) (by kernel_rfl) rfl)
  exact iE.iI 0 (by kernel_rfl) r0.p (iE.iI 1 (by kernel_rfl) r1.p (iE.iI 2 (by kernel_rfl) r2'.p (iE.iI 3 (by kernel_rfl) r3.p r5)))
theorem qE {P:Program} {n:Nat} {r:Code} {Q:cw→St→Prop} {st:St} (h:dm P n r st Q):EK P n r Q [.c []] .aj st:=by
 obtain ⟨e,s,h1,h2⟩:=h
 exact ⟨e,s,h2,s,Le.bb _,h1⟩
def ay (ts:List Tm):List ByteArray:=dU [] ts
theorem OY (p:ByteArray) (hd:List Ar) (bd:List Li) (hk:bd.length≤9223372036854775807) (hB:(hd.map Ar.t++az bd).length<8796093022208):Sp 91 [.al [.J p,sA hd,sL bd]] [] (sS (ay (hd.map Ar.t++az bd))) []:=by
 have o:=Ue _ _ _ (U3 p hd bd [] hk (by simpa using hB))
 exact zK Tryz.f91 5 (qE (av Tryz.f91 0 (hr:=FD 1 (S1:=⟨[(1,.aE [.J p,sA hd,sL bd])],[]⟩) (by kernel_rfl) (Le.bb _) (av Tryz.f91 0))))
@[reducible,instance] def abu (p:ByteArray) (hd:List Ar) (bd:List Li):=kG (OY p hd bd)
theorem k28 (p:ByteArray) (ts:List Tm) (hk:ts.length<8796093022208):Sp 28 [gU p ts] [] (sS (ay ts)) []:=by
 have o:=Ue _ _ _ (OU p ts [] [] (by omega) (by simpa using hk))
 exact zK Tryz.f28 5 (qE (av Tryz.f28 0 (hr:=FD 1 (S1:=⟨[(1,.aE [.J p,sT ts])],[]⟩) (by kernel_rfl) (Le.bb _) (av Tryz.f28 0))))
theorem U6 (x:Li) (hB:x.af.length<8796093022208):Sp 52 [x.av] [] (sS (ay x.af)) []:=by
 have o:=Ue _ _ _ (OV x [] (by simpa using hB))
 exact zK Tryz.f52 5 (qE (av Tryz.f52 0 (hr:=FD 1 (S1:=⟨[(1,.aE x.ac)],[]⟩) (by kernel_rfl) (Le.bb _) (av Tryz.f52 0))))
@[reducible,instance] def abt (x:Li):=kF (U6 x)
theorem KY (x:Ex) (hB:x.af.length<8796093022208):Sp 187 [.al x.ac] [] (sS (ay x.af)) []:=by
 have o:=Ue _ _ _ (FJ x [] [] (by simpa using hB))
 rw [List.append_nil] at o
 exact zK Tryz.f187 5 (qE (av Tryz.f187 0 (hr:=FD 1 (S1:=⟨[(1,.aE x.ac)],[]⟩) (by kernel_rfl) (Le.bb _) (av Tryz.f187 0))))
@[reducible,instance] def aaj (x:Ex):=kF (KY x)
end
@[simp] theorem FK (x:AV) (r:List AV):aa (x::r)=(aJ x&&aa r):=rfl
@[simp] theorem Ve:aa []=true:=rfl
@[simp] theorem Vc (cs:List AV):aJ (.al cs)=aa cs:=rfl
@[simp] theorem Vg (s:ByteArray):aJ (.J s)=true:=rfl
@[simp] theorem Vd (k:IntKind) (n:Int):aJ (.aP k n)=true:=rfl
@[simp] theorem Uf (b:Bool):aJ (.ak b)=true:=rfl
@[simp] theorem Vf (es:List AV) (c:Bool):aJ (.aF es c)=true:=rfl
@[simp] theorem Ug:aJ .ab=true:=rfl
@[simp] theorem wi {l:List AV} (n:Nat) (h:aa l=true):aa (l.take n)=true:=a8.2 fun x hx=>a8.1 h x (List.mem_of_mem_take hx)
@[simp] theorem wh {l:List AV} (n:Nat) (h:aa l=true):aa (l.drop n)=true:=a8.2 fun x hx=>a8.1 h x (List.mem_of_mem_drop hx)
@[simp] theorem qH:∀(n:Nat) (x:AV),aa (List.replicate n x)=(Nat.beq n 0||aJ x)
  |0,x=>rfl
  |n+1,x=>by
   rw [List.replicate_succ,FK,qH n x]
   cases aJ x
   ·rfl
   ·simp
@[simp] theorem Vk (x:Tm):c8 4 x.av:=⟨rfl,by simp [Tm.av,AV.ac,cj]⟩
@[simp] theorem Vh (x:Ar):c8 5 x.av:=⟨rfl,by simp [Ar.av,AV.ac,cj]⟩
@[simp] theorem Vi (x:Ex):c8 6 x.av:=by rw [Ex.de];exact ⟨rfl,by simp [Ex.ac,CJ,AV.ac,cj]⟩
@[simp] theorem Vj (x:Li):c8 16 x.av:=⟨rfl,by simp [Li.av,Li.ac,vr,Ex.ac,CJ,AV.ac,cj]⟩
@[simp] theorem NQ (x:Li):aJ x.av=true:=et x
@[simp] theorem jh (l:List Tm):aa (l.map Tm.av)=true:=bI Tm.av vV l
@[simp] theorem qF (l:List Ar):aa (l.map Ar.av)=true:=bI Ar.av vU l
@[simp] theorem qG (l:List Ex):aa (l.map Ex.av)=true:=bI Ex.av cZ l
@[simp] theorem dG (l:List Li):aa (l.map Li.av)=true:=bI Li.av et l
@[simp] theorem ii (l:List Ru):aa (l.map Ru.av)=true:=bI Ru.av qq l
def zC (bd:List Li):Prop:=∀y:Li,y∈bd→y.af.length<1000∧y.l.af.length<1000∧y.r.af.length<1000∧(ay y.af).length<1000∧(ay y.l.af).length<1000∧(ay y.r.af).length<1000
theorem bU (ts:List Tm):(ay ts).length≤ts.length:=by
 have:=eP ts []
 simpa [ay] using this
theorem CW {bd:List Li} (h:∀y,y∈bd→y.af.length<1000):zC bd:=fun y hy=>by
 have h1:=h y hy
 have h2:=h1
 unfold Li.af at h1
 simp only [List.length_append] at h1
 have:=bU y.af
 have:=bU y.l.af
 have:=bU y.r.af
 refine ⟨h2,?_,?_,?_,?_,?_⟩<;>omega
def KZ (bd:List Li):Prop:=(∀y,y∈bd→y.af.length<1000)∧∀y,y∈bd→((y.k=1∨y.k=2)→y.p.size≤120)∧(¬(y.k=1∨y.k=2)→y.p=⟨#[]⟩)
def ji (p:ByteArray) (hd:List Ar) (bd:List Li):Prop:=p.size≤120∧hd.length≤24∧bd.length≤16∧KZ bd
theorem fB:∀(bd:List Li),(∀y,y∈bd→y.af.length<1000)→(az bd).length≤bd.length*1000
 |[],_=>by simp [az]
 |x::r,h=>by
  have h1:=h x (by simp)
  have h2:=fB r (fun y hy=>h y (by simp [hy]))
  simp only [az,List.flatMap_cons,List.length_append,List.length_cons,Nat.succ_mul] at*
  omega
section
def E7 {X:Type} (p:X→Bool) (x:X):Option Int:=if p x=true then none else some 40
@[grind→] theorem wk {X:Type} {p:X→Bool}:∀{l:List X},l.findSome? (E7 p)=none→l.all p=true
  |[],_=>rfl
  |c::r,h=>by
   rw [List.findSome?_cons] at h
   by_cases hc:p c=true
   ·simp only [E7,if_pos hc] at h;rw [List.all_cons,hc,wk (l:=r) h];rfl
   ·simp only [E7,if_neg hc] at h;cases h
@[grind→] theorem CX {X:Type} {p:X→Bool}:∀{l:List X} {b:Int},l.findSome? (E7 p)=some b→b=40∧l.all p=false
  |[],b,h=>by simp at h
  |c::r,b,h=>by
   rw [List.findSome?_cons] at h
   by_cases hc:p c=true
   ·simp only [E7,if_pos hc] at h
    obtain ⟨h1,h2⟩:=CX (l:=r) h
    exact ⟨h1,by rw [List.all_cons,h2,Bool.and_false]⟩
   ·simp only [E7,if_neg hc] at h
    injection h with h
    exact ⟨h.symm,by rw [List.all_cons];simp [hc]⟩
theorem mq:∀(d:Nat) (x:Ex),dF d x=true→x.af.length<2^(d:Int).toNat
 |0,x,h=>by cases h
 |d+1,x,h=>by
  simp only [dF,je] at h
  split at h
  ·simp only [Bool.and_eq_true,decide_eq_true_eq] at h
   exact qB (by simpa using h.1) (by omega)
  ·simp only [Bool.and_eq_true,decide_eq_true_eq,Bool.not_eq_true',List.any_eq_false,Bool.not_eq_true,Bool.not_eq_false'] at h
   refine x7 ?_ (by omega) fun y hy=> ?_
   ·have:m7 x.op≤2:=by unfold m7;split<;>(try split)<;>omega
    simp;omega
   ·have:=mq d y (by simpa using h.2 y hy)
    have e:((d+1:Nat):Int)-1=(d:Int):=by omega
    rw [e];exact this
theorem fD {x:Li} (h:fk x=true):x.af.length<1000:=by
 unfold fk at h
 have e1:∀{y:Ex},r9 y=true→y.af.length<2:=fun {y} h=>by
  simp only [r9,Bool.and_eq_true,decide_eq_true_eq] at h
  exact qB (left:=1) (by simpa using h.2) (by omega)
 simp only [Li.af,List.length_append]
 split at h
 ·simp only [Bool.and_eq_true,decide_eq_true_eq,lh] at h
  have h1:=e1 h.1.1.2
  have h2:=e1 h.1.2
  omega
 ·simp only [Bool.and_eq_true,decide_eq_true_eq] at h
  have h1:=mq 8 _ h.1.2
  have h2:=mq 8 _ h.2
  simp at h1 h2
  omega
abbrev FL:Nat×AV:=(1,.aA 1 0 0)
abbrev OZ (hd:List Ar) (bd:List Li) (p:ByteArray) (i:Int):St:=⟨[(25,sA hd),(26,sI ((hd.map Ar.av).length:Nat)),(27,sI i),FL],[(1,.an [.J p,sA hd,sL bd])]⟩
abbrev O0 (hd:List Ar) (bd:List Li) (p:ByteArray) (i:Int):St:=⟨[(36,sL bd),(37,sI ((bd.map Li.av).length:Nat)),(38,sI i),FL],[(1,.an [.J p,sA hd,sL bd])]⟩
theorem ya {hd:List Ar} {bd:List Li} (h1:hd.length≤24) (h2:bd.length≤16) (h3:bd.findSome? (E7 fk)=none):(hd.map Ar.t++az bd).length<8796093022208:=by
 have:=fB bd fun y hy=>fD (List.all_eq_true.1 (wk h3) y hy)
 simp only [List.length_append,List.length_map];omega
def ch (p:ByteArray) (hd:List Ar) (bd:List Li):Bool:=od p&&decide (hd.length≤24)&&decide (bd.length≤16)&&hd.all qz&&bd.all fk&&decide ((ay (hd.map Ar.t++az bd)).length≤24)
attribute [local simp,local grind] E7 in
attribute [local simp,local grind] ch od fj in
theorem FM (p:ByteArray) (hd:List Ar) (bd:List Li):Sp 49 [.al [.J p,sA hd,sL bd]] [] (sI (fj 40 (ch p hd bd))) []:=by
 have o0:=fun (hsm:hd.length≤9223372036854775807)=>bN (P:=Tryz.prog) (n:=53) (c:=O Tryz.f49 0) (k:=0) (l:=hd) (fun i=>OZ hd bd p (i:Nat)) ⟨[FL],[(1,.an [.J p,sA hd,sL bd])]⟩ (fun rn:Int=>⟨[(2,sI rn)],[(1,.an [.J p,sA hd,sL bd])]⟩) (E7 qz) (fun i hi=>aZ Tryz.f49 0 [25,26,27,1] [2] [K1 1]) (au Tryz.f49 0)
 have o1:=fun (hsm:bd.length≤9223372036854775807)=>bN (P:=Tryz.prog) (n:=53) (c:=O Tryz.f49 1) (k:=2) (l:=bd) (fun i=>O0 hd bd p (i:Nat)) ⟨[FL],[(1,.an [.J p,sA hd,sL bd])]⟩ (fun rn:Int=>⟨[(2,sI rn)],[(1,.an [.J p,sA hd,sL bd])]⟩) (E7 fk) (fun i hi=>aZ Tryz.f49 0 [36,37,38,1] [2] [K1 1]) (au Tryz.f49 0)
 have o9:= @ya hd bd
 exact aL Tryz.f49 0 53
@[reducible,instance] def aak (p:ByteArray) (hd:List Ar) (bd:List Li):=kT (FM p hd bd)
end
section
variable (s:ByteArray)
theorem FO {P:Program} {n:Nat} {c:Code} {X R:Type} {l:List X} {k:Nat} (S:Nat→St) (T:St) (E:R→St) (step:X→Option R) (i:Nat) (hi:i≤l.length)
  (turn:∀i,i<l.length→dm P n c (S i) (iL l step S E i)) (stop:dm P n c (S l.length) (fun e t=>e= .ar k∧t=T)):
  (∃r,bJ P n c (S i) .aR (E r)∧(l.drop i).findSome? step=some r)∨(bJ P n c (S i) (.ar k) T∧(l.drop i).findSome? step=none):=by
 refine bN (l:=l.drop i) (fun j=>S (i+j)) T E step (fun j hj=> ?_) (by rw [List.length_drop,Nat.add_sub_cancel' hi];exact stop)
 rw [List.length_drop] at hj
 obtain ⟨e,t,h,r⟩:=turn (i+j) (by omega)
 exact ⟨e,t,by simpa only [iL,List.getElem?_drop,Nat.add_assoc] using h,r⟩
theorem gM {s:ByteArray} {i:Nat} {x:UInt8} (h:0≤(i:Int)∧∃b:UInt8,s.data.toList[Int.toNat (i:Int)]? =some b∧(x.toNat:Int)=b.toNat):s.data.toList[i]? =some x:=by
 obtain ⟨_,b,hb,he⟩:=h
 have:x=b:=UInt8.toNat_inj.1 (by omega)
 rw [this];simpa using hb
def CY (c:UInt8):Bool:=ml c
theorem zD {s:ByteArray} {a b:Int} (hab:∀c:UInt8,a≤c.toNat→(c.toNat:Int)≤b→ml c=true) (x:UInt8) (hx:0≤(0:Int)∧∃b:UInt8,s.data.toList[Int.toNat 0]? =some b∧(x.toNat:Int)=b.toNat) (h1:¬(x.toNat:Int)<a) (h2:¬b<(x.toNat:Int)) (h0:¬(120:Int)<s.size):
  cS s a b=(s.data.toList.drop 1).all ml:=by
 have hg:s.data.toList[0]? =some x:=gM (i:=0) hx
 have hz:¬(s.size:Int)=0:=fun h=>by
  have e:s.data.toList.length=s.size:=rfl
  have:=(List.getElem?_eq_some_iff.1 hg).1
  omega
 cases hl:s.data.toList with
 |nil=>rw [hl] at hg;simp at hg
 |cons c r=>
  rw [hl] at hg;simp at hg;subst hg
  simp [cS,hz,h0,h1,h2,hl,hab c (by omega) (by omega)]
  intro _ h;apply hz;rw [h];rfl
attribute [local simp,local grind] wb fj in
theorem O6 (k n:Int) (s:ByteArray):Sp 231 [.al [sJ k,sI n,.J s]] [] (sI ((fj 10 (wb k n s)))) []:=aL Tryz.f231 0 27
@[reducible,instance] def Vp (k n:Int) (s:ByteArray):=kT (O6 k n s)
attribute [local simp,local grind] CY ml in
theorem O4 (x:UInt8):Sp 164 [.aP .u8 (x.toNat:Int)] [] (.ak ((CY x))) []:=aL Tryz.f164 0 29 (q:=false)
@[reducible,instance] def Vn (x:UInt8):=kT (O4 x)
attribute [local simp,local grind] CS in
theorem O3:Sp 110 [.J s] [] (.ak ((CS s))) []:=aL Tryz.f110 0 33
@[reducible,instance] def Vm (s:ByteArray):=kT (O3 s)
theorem O2 (b:Bool):Sp 107 [.ak b] [] (sI (fj 40 b)) []:=by
 cases b with
 |true=>
  exact aK Tryz.f107 0 4
 |false=>
  exact aK Tryz.f107 0 4
@[reducible,instance] def Vl (b:Bool):=kT (O2 b)
attribute [local simp,local grind] m7 in
theorem O8 (op:Int):Sp 245 [sJ op] [] (sI ((m7 op))) []:=aL Tryz.f245 0 21
@[reducible,instance] def Vr (op:Int):=kT (O8 op)
abbrev og (s:ByteArray) (i:Int):St:=⟨[(0,.J s),(7,sI i)],[]⟩
attribute [local simp,local grind] iM CY in
theorem FQ (hs:s.size≤120) (i:Nat) (hi:i<s.data.toList.length) (hz:s.data.toList.length=s.size):En 39 (O Tryz.f109 0) ((og s (i:Nat))) (iL s.data.toList iM (fun i=>og s (i:Nat)) (fun rb:Bool=>⟨[(6,.ak rb)],[]⟩) i):=aZ Tryz.f109 0 [0,7] [6]
theorem FN (hz:s.data.toList.length=s.size):En 39 (O Tryz.f109 0) ((og s (s.data.toList.length:Nat))) (fun e t=>e= .ar 0∧t=⟨[],[]⟩):=au Tryz.f109 0
theorem FP (hs:s.size≤120) (h1:1≤s.size):(∃rb:Bool,Lo 39 (O Tryz.f109 0) (og s 1) .aR ⟨[(6,.ak rb)],[]⟩∧(s.data.toList.drop 1).findSome? iM=some rb)∨(Lo 39 (O Tryz.f109 0) (og s 1) (.ar 0) ⟨[],[]⟩∧(s.data.toList.drop 1).findSome? iM=none):=
 FO (fun i=>og s (i:Nat)) _ (fun rb:Bool=>⟨[(6,.ak rb)],[]⟩) iM 1 (by show 1≤s.size;exact h1) (fun i hi=>FQ s hs i hi rfl) (FN s rfl)
theorem O1 (a b:Int) (hab:∀c:UInt8,a≤c.toNat→(c.toNat:Int)≤b→ml c=true):En 39 (ai Tryz.f109) (⟨[(0,.J s),(1,.aP .u8 a),(2,.aP .u8 b)],[]⟩) (fun eo so=>eo= .aR∧∃rb:Bool,so=⟨[(6,.ak rb)],[]⟩∧rb=cS s a b):=by
 refine z0<|zB ((↑(ByteArray.size s):Int)<1) (fun h0=>zq ⟨rfl,false,rfl,by first|(simp_all [cS];done)|(have h9:=of_decide_eq_true h0;have h10:(s.size:Int)=0:=(by omega);simp only [cS,h10];rfl)|(obtain ⟨_,b,hb,hb2⟩:=hx2;simp_all [cS];done)|(rw [zD hab x2 hx2 (by simpa using h3) (by simpa using h4) (by simpa using h1)];first|exact (qy (by assumption)).symm|(have h9:=wa (by assumption);rw [h9.1,h9.2]))⟩) fun h0=> ?_
 refine zB (120<(↑(ByteArray.size s):Int)) (fun h1=>zq ⟨rfl,false,rfl,by first|(simp_all [cS];done)|(have h9:=of_decide_eq_true h0;have h10:(s.size:Int)=0:=(by omega);simp only [cS,h10];rfl)|(obtain ⟨_,b,hb,hb2⟩:=hx2;simp_all [cS];done)|(rw [zD hab x2 hx2 (by simpa using h3) (by simpa using h4) (by simpa using h1)];first|exact (qy (by assumption)).symm|(have h9:=wa (by assumption);rw [h9.1,h9.2]))⟩) fun h1=> ?_
 obtain ⟨x2,hx2⟩:=ur (s:=s) (n:=0) (by omega) (by have:=of_decide_eq_false h1;have:=of_decide_eq_false h0;omega)
 refine ze hx2<|zB ((↑(UInt8.toNat x2):Int)<a) (fun h3=>zq ⟨rfl,false,rfl,by first|(simp_all [cS];done)|(have h9:=of_decide_eq_true h0;have h10:(s.size:Int)=0:=(by omega);simp only [cS,h10];rfl)|(obtain ⟨_,b,hb,hb2⟩:=hx2;simp_all [cS];done)|(rw [zD hab x2 hx2 (by simpa using h3) (by simpa using h4) (by simpa using h1)];first|exact (qy (by assumption)).symm|(have h9:=wa (by assumption);rw [h9.1,h9.2]))⟩) fun h3=> ?_
 refine ze hx2<|zB (b<(↑(UInt8.toNat x2):Int)) (fun h4=>zq ⟨rfl,false,rfl,by first|(simp_all [cS];done)|(have h9:=of_decide_eq_true h0;have h10:(s.size:Int)=0:=(by omega);simp only [cS,h10];rfl)|(obtain ⟨_,b,hb,hb2⟩:=hx2;simp_all [cS];done)|(rw [zD hab x2 hx2 (by simpa using h3) (by simpa using h4) (by simpa using h1)];first|exact (qy (by assumption)).symm|(have h9:=wa (by assumption);rw [h9.1,h9.2]))⟩) fun h4=> ?_
 rcases FP (s) (by have:=of_decide_eq_false h4;have:=of_decide_eq_false h3;have:=of_decide_eq_false h1;have:=of_decide_eq_false h0;omega) (by have:=of_decide_eq_false h4;have:=of_decide_eq_false h3;have:=of_decide_eq_false h1;have:=of_decide_eq_false h0;omega) with o5|o5
 ·obtain ⟨y6,⟨hl7,hl7'⟩⟩:=o5
  exact zd (.g8 [0,7] [])<|zl hl7<|zq ⟨rfl,y6,rfl,by first|(simp_all [cS];done)|(have h9:=of_decide_eq_true h0;have h10:(s.size:Int)=0:=(by omega);simp only [cS,h10];rfl)|(obtain ⟨_,b,hb,hb2⟩:=hx2;simp_all [cS];done)|(rw [zD hab x2 hx2 (by simpa using h3) (by simpa using h4) (by simpa using h1)];first|exact (qy (by assumption)).symm|(have h9:=wa (by assumption);rw [h9.1,h9.2]))⟩
 ·obtain ⟨hl6,hl6'⟩:=o5
  exact zd (.g8 [0,7] [])<|zl hl6<|zq ⟨rfl,true,rfl,by first|(simp_all [cS];done)|(have h9:=of_decide_eq_true h0;have h10:(s.size:Int)=0:=(by omega);simp only [cS,h10];rfl)|(obtain ⟨_,b,hb,hb2⟩:=hx2;simp_all [cS];done)|(rw [zD hab x2 hx2 (by simpa using h3) (by simpa using h4) (by simpa using h1)];first|exact (qy (by assumption)).symm|(have h9:=wa (by assumption);rw [h9.1,h9.2]))⟩
theorem Jf (a b:Int) (hab:∀c:UInt8,a≤c.toNat→(c.toNat:Int)≤b→ml c=true):Sp 109 [.J s,.aP .u8 a,.aP .u8 b] [] (.ak (cS s a b)) []:=by
 obtain ⟨_,_,⟨rfl,_,rfl,rfl⟩,h⟩:=O1 s a b hab
 exact sQ Tryz.f109 h
attribute [local simp,local grind] ml od in
theorem O9:Sp 59 [.J s] [] (.ak ((od s))) []:=by
 have o0:=Jf s 97 122
 exact aL Tryz.f59 0 10 (q:=false)
@[reducible,instance] def aal (s:ByteArray):=kT (O9 s)
attribute [local simp,local grind] ml in
theorem O7:Sp 244 [.J s] [] (.ak ((cS s 65 90))) []:=by
 have o0:=Jf s 65 90
 exact aL Tryz.f244 0 5 (q:=false)
@[reducible,instance] def Vq (s:ByteArray):=kT (O7 s)
attribute [local simp,local grind] mm fj in
theorem O5 (t:Tm):Sp 203 [t.av] [] (.ak ((mm t))) []:=aL Tryz.f203 0 28
@[reducible,instance] def Vo (t:Tm):=kT (O5 t)
end
section
def ku {X:Type} (p:X→Bool) (x:X):Option Bool:=if p x=true then none else some false
@[grind→] theorem qI {X:Type} {p:X→Bool}:∀{l:List X},l.findSome? (ku p)=none→l.all p=true
  |[],_=>rfl
  |c::r,h=>by
   rw [List.findSome?_cons] at h
   by_cases hc:p c=true
   ·simp only [ku,if_pos hc] at h;rw [List.all_cons,hc,qI (l:=r) h];rfl
   ·simp only [ku,if_neg hc] at h;cases h
@[grind→] theorem wl {X:Type} {p:X→Bool}:∀{l:List X} {b:Bool},l.findSome? (ku p)=some b→b=false∧l.all p=false
  |[],b,h=>by simp at h
  |c::r,b,h=>by
   rw [List.findSome?_cons] at h
   by_cases hc:p c=true
   ·simp only [ku,if_pos hc] at h
    obtain ⟨h1,h2⟩:=wl (l:=r) h
    exact ⟨h1,by rw [List.all_cons,h2,Bool.and_false]⟩
   ·simp only [ku,if_neg hc] at h
    injection h with h
    exact ⟨h.symm,by rw [List.all_cons];simp [hc]⟩
theorem zE {X:Type} (p:X→Bool):∀l:List X,(!l.any fun y=> !p y)=l.all p
 |[]=>rfl
 |c::r=>by rw [List.any_cons,List.all_cons,←zE p r];cases p c<;>simp
theorem yb (D:Ex→Bool) (x:Ex):je D x=if x.op=0 then decide (x.ax.length=0)&&m8 x.t else FE x.t&&decide ((x.ax.length:Int)=m7 x.op)&&x.ax.all D:=by
 rw [je,zE]
abbrev A9 (x:Ex):Nat×Ob:=(2,.an x.ac)
abbrev oh (x:Ex) (left:Int) (i:Int):St:=⟨[(1,sI left),(2,.aA 2 0 0),(6,sI i)],[A9 x]⟩
theorem FU (D:Ex→Bool) (x:Ex) (left:Int) (hl:1≤left) (hl2:left≤100) (hsm:x.ax.length≤9223372036854775807) (Jg:∀(y:Ex),y∈x.ax→Sp 205 [.al y.ac,sI (left-1)] [] (.ak (D y)) []) (i:Nat) (hi:i<x.ax.length):En 57 (O Tryz.f205 0) ((oh x left (i:Nat))) (iL x.ax (ku D) (fun i=>oh x left (i:Nat)) (fun rb:Bool=>⟨[(4,.ak rb)],[A9 x]⟩) i):=by
 obtain ⟨x0,hm0,hx0⟩:=qp (l:=Ex.ax x) (n:=(↑i:Int)) (by omega) (by omega)
 have hs1:=Jg x0 (List.mem_of_getElem? (by assumption))
 have u0:decide ((↑i:Int)<(↑(List.length (List.map Ex.av (Ex.ax x))):Int))=true:=by simp;omega
 have u1:IntKind.wrap .i64 (left-1)=left-1:=bA (by omega) (by omega)
 refine z0<|zt u0<|ze hx0<|zh u1<|zc hs1<|?_
 cases hb2:D x0 with
 |true=>
  rw [hb2] at hs1
  exact zh (w1 i (by omega))<|zh rT<|zq (A1 hm0 (by (simp_all [ku]))) [1,2,6] [K1 2]
 |false=>
  rw [hb2] at hs1
  exact zh rT<|zq (A2 (r:=false) hm0 (by (simp_all [ku]))) [4] [K1 2]
theorem FR (D:Ex→Bool) (x:Ex) (left:Int) (hl:1≤left) (hl2:left≤100) (hsm:x.ax.length≤9223372036854775807) (Jg:∀(y:Ex),y∈x.ax→Sp 205 [.al y.ac,sI (left-1)] [] (.ak (D y)) []):En 57 (O Tryz.f205 0) ((oh x left (x.ax.length:Nat))) (fun e t=>e= .ar 0∧t=⟨[],[A9 x]⟩):=au Tryz.f205 0
theorem FT (D:Ex→Bool) (x:Ex) (left:Int) (hl:1≤left) (hl2:left≤100) (hsm:x.ax.length≤9223372036854775807) (Jg:∀(y:Ex),y∈x.ax→Sp 205 [.al y.ac,sI (left-1)] [] (.ak (D y)) []):(∃rb:Bool,Lo 57 (O Tryz.f205 0) (oh x left 0) .aR ⟨[(4,.ak rb)],[A9 x]⟩∧x.ax.findSome? (ku D)=some rb)∨(Lo 57 (O Tryz.f205 0) (oh x left 0) (.ar 0) ⟨[],[A9 x]⟩∧x.ax.findSome? (ku D)=none):=
 bN (fun i=>oh x left (i:Nat)) _ (fun rb:Bool=>⟨[(4,.ak rb)],[A9 x]⟩) (ku D) (fun i hi=>FU D x left hl hl2 hsm Jg i hi) (FR D x left hl hl2 hsm Jg)
abbrev K3 (p:ByteArray) (ts:List Tm) (i:Int):St:=⟨[(1,.aA 1 0 0),(3,sI i)],[(1,.an [.J p,sT ts])]⟩
attribute [local simp,local grind] r9 FE in
theorem Pe (x:Ex):Sp 204 [.al x.ac] [] (.ak ((r9 x))) []:=aL Tryz.f204 0 20
@[reducible,instance] def Vv (x:Ex):=kT (Pe x)
attribute [local simp,local grind] qz m8 FE in
theorem Pb (a:Ar):Sp 162 [a.av] [] (.ak ((qz a))) []:=aL Tryz.f162 0 43
@[reducible,instance] def Vs (a:Ar):=kT (Pb a)
attribute [local simp,local grind] yb m8 FE in
theorem O' (D:Ex→Bool) (x:Ex) (left:Int) (hne:left≠0) (hl:1≤left) (hl2:left≤100) (har:m7 x.op≤2) (Jg:∀(y:Ex),y∈x.ax→Sp 205 [.al y.ac,sI (left-1)] [] (.ak (D y)) []):En 57 (ai Tryz.f205) (⟨[(0,.al x.ac),(1,sI left)],[]⟩) (fun eo so=>eo= .aR∧∃rb:Bool,so=⟨[(4,.ak rb)],[]⟩∧rb=je D x):=by
 have o0:=fun h95=>FT _ (x) (left) (by assumption) (by assumption) h95 (by assumption)
 exact aS Tryz.f205 0 [4]
attribute [local simp,local grind] ku in
attribute [local simp,local grind] lh in
theorem Pd (p:ByteArray) (ts:List Tm):Sp 195 [gU p ts] [] (.ak ((lh p ts))) []:=by
 have o0:=fun (hsm:ts.length≤24)=>bN (P:=Tryz.prog) (n:=28) (c:=O Tryz.f195 0) (k:=0) (l:=ts) (fun i=>K3 p ts (i:Nat)) ⟨[],[(1,.an [.J p,sT ts])]⟩ (fun rb:Bool=>⟨[(2,.ak rb)],[(1,.an [.J p,sT ts])]⟩) (ku mm) (fun i hi=>aZ Tryz.f195 0 [1,3] [2] [K1 1]) (au Tryz.f195 0)
 exact aL Tryz.f195 0 28
@[reducible,instance] def Vu (p:ByteArray) (ts:List Tm):=kT (Pd p ts)
theorem Jg:∀(d:Nat) (x:Ex) (l:Int),l=d→d≤100→Sp 205 [.al x.ac,sI l] [] (.ak (dF d x)) []
 |0,x,l,hl,_=>by
  subst hl
  exact aK Tryz.f205 0 57
 |d+1,x,l,hl,hd=>by
  obtain ⟨_,_,⟨rfl,_,rfl,rfl⟩,h⟩:=O' (dF d) x l (by omega) (by omega) (by omega) (by unfold m7;split<;>(try split)<;>omega) fun y _=>Jg d y (l-1) (by omega) (by omega)
  exact sQ Tryz.f205 h
theorem CZ (x:Ex):Sp 205 [.al x.ac,sI 8] [] (.ak (dF 8 x)) []:=Jg 8 x 8 rfl (by decide)
theorem Pa (p:ByteArray) (ts:List Tm):Sp 150 [gU p ts] [] (sI ((fj 40 (lh p ts)))) []:=aL Tryz.f150 0 6
attribute [local simp,local grind] fk in
theorem Pc (x:Li):Sp 163 [x.av] [] (.ak (fk x)) []:=by
 have q0:=CZ
 have o0:=CZ (Li.l x)
 have o1:=CZ (Li.r x)
 exact aL Tryz.f163 0 59
@[reducible,instance] def Vt (x:Li):=kT (Pc x)
end
section
variable (l:List Tm)
def nc (s y:ByteArray):Option Bool:=if y=s then some true else none
def bq (s:ByteArray) (l:List ByteArray):Bool:=decide (s∈l)
@[grind→] theorem Ba {s:ByteArray}:∀{l:List ByteArray},l.findSome? (nc s)=none→bq s l=false
  |[],_=>rfl
  |c::r,h=>by
   rw [List.findSome?_cons] at h
   by_cases hc:c=s
   ·simp [nc,hc] at h
   ·simp only [nc,if_neg hc] at h
    have:=Ba (l:=r) h
    simp only [bq,decide_eq_false_iff_not] at this⊢
    rw [List.mem_cons];rintro (rfl|h);exact hc rfl;exact this h
@[grind→] theorem Bb {s:ByteArray} {b:Bool}:∀{l:List ByteArray},l.findSome? (nc s)=some b→b=true∧bq s l=true
  |[],h=>by simp at h
  |c::r,h=>by
   rw [List.findSome?_cons] at h
   by_cases hc:c=s
   ·simp only [nc,if_pos hc] at h;injection h with h;exact ⟨h.symm,by simp [bq,hc]⟩
   ·simp only [nc,if_neg hc] at h
    obtain ⟨h1,h2⟩:=Bb (l:=r) h
    simp only [bq,decide_eq_true_eq] at h2⊢
    exact ⟨h1,List.mem_cons_of_mem _ h2⟩
abbrev K4 (s:ByteArray) (l:List ByteArray) (i:Int):St:=⟨[(0,.J s),(1,sS l),(5,sI i)],[]⟩
attribute [local simp,local grind] nc in
theorem C0 (s:ByteArray) (l:List ByteArray):Sp 161 [.J s,sS l] [] (.ak ((bq s l))) []:=by
 refine bK.dY (l.map AV.J) ⟨_,by simp,false,.inl rfl⟩ fun hsm=> ?_
 have q0:List.length (l.map AV.J)≤9223372036854775807:=(Nat.le_trans hsm (by simp [maxLen]))
 have o0:=fun (hsm:l.length≤9223372036854775807)=>bN (P:=Tryz.prog) (n:=18) (c:=O Tryz.f161 0) (k:=0) (l:=l) (fun i=>K4 s l (i:Nat)) ⟨[],[]⟩ (fun rb:Bool=>⟨[(4,.ak rb)],[]⟩) (nc s) (fun i hi=>aZ Tryz.f161 0 [0,1,5] [4]) (au Tryz.f161 0)
 exact aL Tryz.f161 0 18
@[reducible,instance] def Vw (s:ByteArray) (l:List ByteArray):=kT (C0 s l)
theorem Jh (s:ByteArray) (l:List ByteArray) (id n:Nat) (hn:n=l.length):Sp 161 [.J s,.aO id n] [(id,.ao 1 (l.map .J))] (.ak (bq s l)) []:=
 bK.fi (C0 s l) [(id,.ao 1 (l.map .J))] rfl (by simp [dl]) (by simp [bW,dB,dK,eX,ae]) (by simp [cu,el,dK,eX,ae,hn]) rfl
abbrev uA (l:List Tm) (a:List ByteArray) (i:Int):St:=⟨[(0,sT l),(3,.aO 1000 a.length),(4,sI i)],[(1000,.ao 1 (a.map .J))]⟩
theorem FY (l:List Tm) (hsm:l.length<8796093022208) (a:List ByteArray) (i:Nat) (hi:i<l.length) (hI:a.length≤i):En 34 (O Tryz.f200 0) ((uA l a (i:Nat))) (fun eo so=>eo= .aj∧∃y,l[i]? =some y∧so=uA l ((fun a y=>fl a y.v) a y) ((i+1:Nat):Int)):=by
 obtain ⟨x0,hm0,hx0⟩:=dC Tm.av (l:=l) (n:=(↑i:Int)) (by omega) (by omega)
 have u0:decide ((↑i:Int)<(↑(List.length (List.map Tm.av l)):Int))=true:=by simp;omega
 have u1:IntKind.wrap .i64 ((↑i:Int)+1)=(↑i:Int)+1:=bA (by omega) (by omega)
 have u2:=zN (List.map AV.J a)
 refine zs 2000<|zt u0<|ze hx0<|?_
 rcases CI (decide (Tm.v x0=ByteArray.mk #[])) with h1|h1
 ·exact zf (nF h1)<|zh u1<|zh u2<|zq (s:=St.mk [(0,sT l),(3,AV.aO 1000 (List.length a)),(4,sI ((↑i:Int)+1))] [(1000,Ob.ao 1 (List.map AV.J a))]) ⟨rfl,_,hm0,by simp_all [fl,bq]⟩
 ·have u3:(!decide (Tm.v x0=ByteArray.mk #[]))=true:=(by rw [h1];rfl)
  rcases CI (decide (Tm.v x0=ByteArray.mk #[95])) with h2|h2
  ·exact zt u3<|zf (nF h2)<|zh u1<|zh u2<|zq (s:=St.mk [(0,sT l),(3,AV.aO 1000 (List.length a)),(4,sI ((↑i:Int)+1))] [(1000,Ob.ao 1 (List.map AV.J a))]) ⟨rfl,_,hm0,by simp_all [fl,bq]⟩
  ·have hs3:=Jh x0.1 a 1000 (List.length a) (by omega)
   have u4:(!decide (Tm.v x0=ByteArray.mk #[95]))=true:=(by rw [h2];rfl)
   refine zt u3<|zt u4<|zc hs3<|?_
   cases hb4:bq x0.1 a with
   |true=>
    rw [hb4] at hs3
    exact zh u1<|zh u2<|zq (s:=St.mk [(0,sT l),(3,AV.aO 1000 (List.length a)),(4,sI ((↑i:Int)+1))] [(1000,Ob.ao 1 (List.map AV.J a))]) ⟨rfl,_,hm0,by simp_all [fl,bq]⟩
   |false=>
    rw [hb4] at hs3
    exact zh (rZ 1 16 [.J x0.1] (List.length a) (List.map AV.J a))<|zh u1<|zh (zN (List.map AV.J a++[.J x0.1]))<|zd (.is true)<|zq (s:=St.mk [(0,sT l),(3,AV.aO 1000 (List.length a+List.length [AV.J x0.1])),(4,sI ((↑i:Int)+1))] [(1000,Ob.ao 1 (List.map AV.J a++[AV.J x0.1]))]) ⟨rfl,_,hm0,by simp_all [fl,bq]⟩ (tb:=[(2032,.a6 1000 true)])
abbrev Pf (a:List ByteArray):St:=⟨[(3,.aO 1000 a.length)],[(1000,.ao 1 (a.map .J))]⟩
theorem FV (hsm:l.length<8796093022208) (a:List ByteArray) (hI:a.length≤l.length):En 34 (O Tryz.f200 0) ((uA l a (l.length:Nat))) (fun eo so=>eo= .ar 0∧so=(Pf a)):=au Tryz.f200 2000
theorem FX (hsm:l.length<8796093022208):Lo 34 (O Tryz.f200 0) ⟨[(0,sT l),(3,.ab),(4,sI 0)],[]⟩ (.ar 0) ⟨[(3,.aO 1000 (l.foldl (fun a y=>fl a y.v) []).length)],[(1000,.ao 1 ((l.foldl (fun a y=>fl a y.v) []).map .J))]⟩:=
 (be (l:=l) (fun i a=>uA l a (i:Nat)) (fun a=>(Pf a)) (fun a y=>fl a y.v) (fun i a=>a.length≤i) (fun i a hi hI=>FY l hsm a i hi hI) (fun i a y _ hI=>by (have:=qA a y.v;omega)) (fun a hI=>FV l hsm a hI) [] (by simp)).1.ez (b5 3 1000 1 rfl rfl)
theorem Pg (hsm:l.length<8796093022208):Sp 200 [sT l] [] (sS (ay l)) []:=by
 have o0:=FX l (by assumption)
 exact aK Tryz.f200 2000 34
@[reducible,instance] def Vx (l:List Tm):=kF (Pg l)
end
section
variable (x:Ex)
theorem ij {l:List Ex} {i:Nat} {y:Ex} (h:l[i]? =some y):(Ex.bv (l.drop i)).length=y.af.length+(Ex.bv (l.drop (i+1))).length:=by
 have hi:=(List.getElem?_eq_some_iff.1 h).1
 rw [List.drop_eq_getElem_cons hi]
 rw [List.getElem?_eq_getElem hi] at h;injection h with h
 rw [h,Ex.bv,List.length_append]
theorem o8 (l:List Ex):∀b:List Tm,l.foldl (fun b y=>b++y.af) b=b++Ex.bv l:=by
 induction l with
 |nil=>intro b;simp [Ex.bv]
 |cons y r ih=>intro b;rw [List.foldl_cons,ih,Ex.bv,List.append_assoc]
abbrev mr (x:Ex) (a:List Tm) (i:Int):St:=⟨[(0,.aO 52010 a.length),(3,.aA 52003 0 0),(5,sI i)],[(100000,.aB),(52003,.an x.ac),(52010,.ao 4 (a.map Tm.av))]⟩
theorem F2 (hsm:x.ax.length≤9223372036854775807) (k243x:∀(y:Ex),y∈x.ax→∀(b:List Tm),b.length+y.af.length<2199023255552→Sp 243 [.aO 52010 b.length,.al y.ac] [(52010,.ao 4 (b.map Tm.av))] (.aO 57010 (b.length+y.af.length)) [(52010,.aB),(57010,.ao 4 ((b++y.af).map Tm.av))]) (a:List Tm) (i:Nat) (hi:i<x.ax.length) (hI:a.length+(Ex.bv (x.ax.drop i)).length<2199023255552):En 26 (O Tryz.f243 0) ((mr x a (i:Nat))) (fun eo so=>eo= .aj∧∃y,x.ax[i]? =some y∧so=mr x ((fun a y=>a++y.af) a y) ((i+1:Nat):Int)):=by
 obtain ⟨x0,hm0,hx0⟩:=qp (l:=Ex.ax x) (n:=(↑i:Int)) (by omega) (by omega)
 exact zs 52000<|zt (show decide ((i:Int)<(↑(List.length (x.ax.map Ex.av)):Int))=true from by simp;omega)<|ze hx0<|zh (k243x x0 (List.mem_of_getElem? (by assumption)) (a) (by have:=ij hm0;simp at*;omega))<|zh (w1 i (by omega))<|zh rT<|zh (zN (List.map Tm.av (a++Ex.af x0)))<|zd (.dO (.aO 57010 (List.length a+List.length (Ex.af x0))) [52010] [(52010,.aB),(57010,.ao 4 (List.map Tm.av (a++Ex.af x0)))])<|zq (s:=St.mk [(0,.aO 52010 (List.length a+List.length (Ex.af x0))),(3,.aA 52003 0 0),(5,sI ((i:Int)+1))] [(100000,.aB),(52003,.an [sJ (Ex.op x),.J (Ex.t x).1,sJ (Ex.t x).2,sI (Ex.t x).3,.J (Ex.t x).4,sE (Ex.ax x)]),(52010,.ao 4 (List.map Tm.av (a++Ex.af x0)))]) ⟨rfl,_,hm0,by (simp only [mr,List.map_append,List.length_append];rfl)⟩ (tb:=[K1 100000,K1 52003,(57010,.a6 52010 true)])
theorem FZ (hsm:x.ax.length≤9223372036854775807) (k243x:∀(y:Ex),y∈x.ax→∀(b:List Tm),b.length+y.af.length<2199023255552→Sp 243 [.aO 52010 b.length,.al y.ac] [(52010,.ao 4 (b.map Tm.av))] (.aO 57010 (b.length+y.af.length)) [(52010,.aB),(57010,.ao 4 ((b++y.af).map Tm.av))]) (a:List Tm) (hI:a.length+(Ex.bv (x.ax.drop x.ax.length)).length<2199023255552):En 26 (O Tryz.f243 0) ((mr x a (x.ax.length:Nat))) (fun eo so=>eo= .ar 0∧so=⟨[(0,.aO 52010 a.length)],[(100000,.aB),(52003,.an x.ac),(52010,.ao 4 (a.map Tm.av))]⟩):=au Tryz.f243 52000
theorem F0 (hsm:x.ax.length≤9223372036854775807) (k243x:∀(y:Ex),y∈x.ax→∀(b:List Tm),b.length+y.af.length<2199023255552→Sp 243 [.aO 52010 b.length,.al y.ac] [(52010,.ao 4 (b.map Tm.av))] (.aO 57010 (b.length+y.af.length)) [(52010,.aB),(57010,.ao 4 ((b++y.af).map Tm.av))]) (a0:List Tm) (h0:a0.length+(Ex.bv (x.ax.drop 0)).length<2199023255552):Lo 26 (O Tryz.f243 0) (mr x a0 0) (.ar 0) ⟨[(0,.aO 52010 (x.ax.foldl (fun a y=>a++y.af) a0).length)],[(100000,.aB),(52003,.an x.ac),(52010,.ao 4 ((x.ax.foldl (fun a y=>a++y.af) a0).map Tm.av))]⟩:=
 (be (l:=x.ax) (fun i a=>mr x a (i:Nat)) (fun a=>⟨[(0,.aO 52010 a.length)],[(100000,.aB),(52003,.an x.ac),(52010,.ao 4 (a.map Tm.av))]⟩) (fun a y=>a++y.af) (fun i a=>a.length+(Ex.bv (x.ax.drop i)).length<2199023255552) (fun i a hi hI=>F2 x hsm k243x a i hi hI) (fun i a y hy hI=>by (have:=ij hy;simp only [List.length_append];omega)) (fun a hI=>FZ x hsm k243x a hI) a0 h0).1
theorem Ph (a:List Tm) (N:Nat) (M:List Tm) (hsz:a.length<2199023255552) (l243_0q:Lo 26 (O Tryz.f243 0) ⟨[(0,.aO 52010 (a.length+1)),(3,.aA 52003 0 0),(5,sI 0)],[(100000,.aB),(52003,.an x.ac),(52010,.ao 4 (a.map Tm.av++[x.t.av]))]⟩ (.ar 0) ⟨[(0,.aO 52010 N)],[(100000,.aB),(52003,.an x.ac),(52010,.ao 4 (M.map Tm.av))]⟩):En 26 (ai Tryz.f243) (⟨[(0,.aO 100000 a.length),(1,.al x.ac)],[(100000,.ao 4 (a.map Tm.av))]⟩) (fun eo so=>eo= .aR∧so=⟨[(4,.aO 52010 N)],[(100000,.aB),(52010,.ao 4 (M.map Tm.av))]⟩):=by
 have o0:=l243_0q
 exact au Tryz.f243 52000
theorem uB {f:FuncId} {rest:List AV} {n m sz:Nat} {es es':List AV} (h:Sp f (.aO 100000 n::rest) [(100000,.ao sz es)] (.aO 52010 m) [(100000,.aB),(52010,.ao sz es')]) (hr:aa rest=true) (he:aa es=true) (he':aa es'=true)
  (id j:Nat) (h1:id≠j) (h2:id<50000∨50000≤j):Sp f (.aO id n::rest) [(id,.ao sz es)] (.aO j m) [(id,.aB),(j,.ao sz es')]:=by
 have:=bK.gK h [(100000,id,.ao sz es)] [(100000,id),(52010,j)] (args':= .aO id n::rest) (by simp [bW,dB,zn,ae,aM _ _ hr]) (by simp [bg,zn,aM _ _ he])
  (by
   have e1:Nat.beq j id=false:=by cases hq:Nat.beq j id with
    |false=>rfl
    |true=>exact absurd (Nat.eq_of_beq_eq_true hq).symm h1
   have e2:Nat.beq id id=true:=Nat.beq_refl id
   rcases Nat.lt_or_ge id 50000 with h3|h3
   ·have e3:Nat.blt id mid=true:=by rw [Nat.blt_eq];exact h3
    simp only [zo,jz,cM,ae,jd,eM,List.all_cons,List.all_nil,List.map_cons,List.map_nil,e1,e2,e3,if_pos,if_neg,if_true,if_false,show¬(52010:Nat)=100000 from by decide,show¬(100000:Nat)=52010 from by decide,Option.isSome,Option.getD];cases Nat.ble mid id<;>cases Nat.ble mid j<;>rfl
   ·have e3:Nat.ble mid j=true:=by rw [Nat.ble_eq];exact h2.resolve_left (Nat.not_lt.2 h3)
    have e4:Nat.ble mid id=true:=by rw [Nat.ble_eq];exact h3
    simp only [zo,jz,cM,ae,jd,eM,List.all_cons,List.all_nil,List.map_cons,List.map_nil,e1,e2,e3,if_pos,if_neg,if_true,if_false,show¬(52010:Nat)=100000 from by decide,show¬(100000:Nat)=52010 from by decide,Option.isSome,Option.getD,e4];cases Nat.blt id mid<;>rfl)
 simpa [bW,dB,kr,ae,jd,bg,aM _ _ he'] using this
theorem yc:x.af=x.t::Ex.bv x.ax:=by cases x;rfl
mutual
theorem Ji:∀(x:Ex) (a:List Tm),a.length+x.af.length<2199023255552→Sp 243 [.aO 100000 a.length,.al x.ac] [(100000,.ao 4 (a.map Tm.av))] (.aO 52010 (a.length+x.af.length)) [(100000,.aB),(52010,.ao 4 ((a++x.af).map Tm.av))]
 | .mk o t ks,a,hsz=>by
   refine bK.dY (ks.map Ex.av) ⟨_,List.mem_cons_of_mem _ (List.mem_cons_self ..),false,.inr ⟨_,rfl,by simp [Ex.ac,CJ,Ex.ax]⟩⟩ fun hk=> ?_
   have ht:(Ex.mk o t ks).af=t::Ex.bv ks:=rfl
   rw [ht] at hsz⊢
   simp only [List.length_cons] at hsz
   have hl:=F0 (.mk o t ks) (by simpa [maxLen,Ex.ax] using hk) (fun y hy b hb=>uB (Jj ks y hy b hb) (by simp [aa,←Ex.de,cZ]) (by simp) (by simp) 52010 57010 (by decide) (.inr (by decide))) (a++[t]) (by simp [Ex.ax];omega)
   rw [o8] at hl
   obtain ⟨_,_,⟨rfl,rfl⟩,h⟩:=Ph (.mk o t ks) a (a++t::Ex.bv ks).length (a++t::Ex.bv ks) (by omega) (by simpa [mr,Ex.t,Ex.ax] using hl)
   have:Sp 243 [.aO 100000 a.length,.al (Ex.mk o t ks).ac] [(100000,.ao 4 (a.map Tm.av))] (.aO 52010 (a++t::Ex.bv ks).length) [(100000,.aB),(52010,.ao 4 ((a++t::Ex.bv ks).map Tm.av))]:=bK.vR (fn:=Tryz.f243) (c:=ai Tryz.f243) (pre:=[(100000,.ao 4 (a.map Tm.av))]) (args:=[.aO 100000 a.length,.al (Ex.mk o t ks).ac]) (by kernel_rfl) (by kernel_rfl) rfl rfl (by have:=gu (gX [(100000,Ob.ao 4 (a.map Tm.av))]) _ (cZ (.mk o t ks));simp only [bW,←Ex.de,this];rfl) (by intro id o hm;simp at hm;obtain ⟨rfl,rfl⟩:=hm;simp only [bg];rw [aM _ _ (jh a)]) h (.inr rfl) (by kernel_rfl)
   rw [List.length_append] at this;exact this
theorem Jj:∀(l:List Ex) (y:Ex),y∈l→∀(a:List Tm),a.length+y.af.length<2199023255552→Sp 243 [.aO 100000 a.length,.al y.ac] [(100000,.ao 4 (a.map Tm.av))] (.aO 52010 (a.length+y.af.length)) [(100000,.aB),(52010,.ao 4 ((a++y.af).map Tm.av))]
 |[],y,hy,_,_=>by simp at hy
 |x::r,y,hy,a,h=>by
  rcases List.mem_cons.1 hy with e|e
  ·rw [e] at h⊢;exact Ji x a h
  ·exact Jj r y e a h
end
end
section
variable (x:Li) (a:List Tm)
theorem Ga {n m:Nat} {env:List (Nat×AV)} {hp:List (Nat×Ob)} (slot id d sz:Nat) (es:List AV) (hs:ci env slot= .aO id m) (hi:ae hp id=some (.ao sz es)) (hd:ae hp d=none) (hid:id<mid∨mid≤d):
  Le n ⟨env,hp⟩ ⟨ba env slot (.aO d m),ba (ba hp id .aB) d (.ao sz es)⟩:=by
 rintro F a w ⟨S,β,E,M⟩
 have hne:id≠d:=by rintro rfl;rw [hi] at hd;cases hd
 have hbd:=M.ff hd
 have env':∀{β':bn},(∀i b,β i=some b→β' i=some b)→(∀b,β id=some b→β' d=some b)→sx S β' w n (ba env slot (.aO d m)) a:=by
  intro β' h1 h2
  refine ⟨E.1,E.2.1,fun t=> ?_⟩
  have h:=E.2.2 t
  unfold ci at h hs⊢
  rw [aq]
  by_cases e:slot=t
  ·subst e
   rw [if_pos rfl]
   rw [hs] at h
   generalize a.eval (.tmp slot)=v at h
   cases h with
   |ft=>exact .ft d
   |ix _ _ ad bi hb hle ha hn=>exact .ix d m ad bi (h2 _ hb) hle ha hn
  ·rw [if_neg e];exact h.bR (fun _ h=>h) h1 (nI.bb S w)
 have hob:=M.dg id _ hi
 cases hb:β id with
 |some bi=>
  have hO:HO S (β.nM d bi) w d (.ao sz es):=by
   rcases hob with h|⟨bj,q1,q2,q3⟩
   ·exact .inl h
   ·rw [hb] at q1;injection q1 with q1;subst q1
    exact .inr ⟨bi,bn.cV _ _ _,q2,q3.bR (fun _ h=>h) (bn.dQ hbd) (nI.bb S w) rfl⟩
  obtain ⟨_,M'⟩:=M.IX (bj:=bi) hid hb hi (by simp) hd rfl ⟨rfl,rfl,rfl,Nat.le_refl _,fun _ _ _=>rfl⟩ (.ao sz es) hO (fun _ _ _ h=>by cases h)
  exact ⟨S,β.nM d bi,env' (bn.dQ hbd) (fun b h=>by rw [hb] at h;injection h with h;subst h;exact bn.cV _ _ _),M'⟩
 |none=>
  have he:es=[]:=by
   rcases hob with h|⟨bj,q1,_⟩
   ·exact h
   ·rw [hb] at q1;cases q1
  subst he
  exact ⟨S,β,env' (fun _ _ h=>h) (fun b h=>by rw [hb] at h;cases h),(M.Fe ⟨_,hi⟩).Cc (by rw [aq,if_neg hne];exact hd) (.inl rfl) (fun _ _ _ h=>by cases h)⟩
theorem wn (x:Ex) (a:List Tm) (id n:Nat) (hn:n=a.length) (h:a.length+x.af.length<2199023255552) (hid:id<45000∨50000≤id):Sp 243 [.aO id n,.al x.ac] [(id,.ao 4 (a.map Tm.av))] (.aO (id+5000) (n+x.af.length)) [(id,.aB),(id+5000,.ao 4 ((a++x.af).map Tm.av))]:=
 hn▸uB (Ji x a h) (by simp [aa,←Ex.de,cZ]) (by simp) (by simp) id (id+5000) (by omega) (by omega)
abbrev K5 (x:Li) (a:List Tm) (i:Int):St:=⟨[(0,.aO 51000 a.length),(3,.aA 52003 0 0),(5,sI i)],[(100000,.aB),(52003,.an (Li.ac x)),(51000,.ao 4 (a.map Tm.av))]⟩
theorem F7 (hsm:x.ts.length≤9223372036854775807) (B:Nat) (hB:B<2199023255552) (a0:List Tm) (h0:a0.length+(x.ts.length-0)≤B):Lo 31 (O Tryz.f201 0) ⟨[(0,.aO 100000 a0.length),(3,.aA 52003 0 0),(5,sI 0)],[(100000,.ao 4 (a0.map Tm.av)),(52003,.an (Li.ac x))]⟩ (.ar 0) ⟨[(0,.aO 51000 (x.ts.foldl (fun a y=>a++[y]) a0).length),(3,.aA 52003 0 0)],[(100000,.aB),(52003,.an (Li.ac x)),(51000,.ao 4 ((x.ts.foldl (fun a y=>a++[y]) a0).map Tm.av))]⟩:=
 (be (l:=x.ts) (fun i a=>K5 x a (i:Nat)) (fun a=>⟨[(0,.aO 51000 a.length),(3,.aA 52003 0 0)],[(100000,.aB),(52003,.an (Li.ac x)),(51000,.ao 4 (a.map Tm.av))]⟩) (fun a y=>a++[y]) (fun i a=>a.length+(x.ts.length-i)≤B) (fun i a hi hI=>au Tryz.f201 52000) (fun i a y hy hI=>by (have:=(List.getElem?_eq_some_iff.1 hy).1;simp only [List.length_append,List.length_singleton];omega)) (fun a hI=>au Tryz.f201 52000) a0 h0).1.ez (Ga 0 100000 51000 4 _ rfl rfl rfl (.inr (by decide)))
theorem Pi (M:List Tm) (hM:M.length+x.l.af.length+x.r.af.length<2199023255552) (l201_0q:Lo 31 (O Tryz.f201 0) ⟨[(0,.aO 100000 a.length),(3,.aA 52003 0 0),(5,sI 0)],[(100000,.ao 4 (a.map Tm.av)),(52003,.an (Li.ac x))]⟩ (.ar 0) ⟨[(0,.aO 51000 M.length),(3,.aA 52003 0 0)],[(100000,.aB),(52003,.an (Li.ac x)),(51000,.ao 4 (M.map Tm.av))]⟩):En 31 (ai Tryz.f201) (⟨[(0,.aO 100000 a.length),(1,x.av)],[(100000,.ao 4 (a.map Tm.av))]⟩) (fun eo so=>eo= .aR∧so=⟨[(4,.aO 52010 (M.length+x.l.af.length+x.r.af.length))],[(100000,.aB),(52010,.ao 4 ((M++x.l.af++x.r.af).map Tm.av))]⟩):=by
 exact zs 52000<|zh (zN (a.map Tm.av))<|zh rT<|zd (.g8 [0,3,5] [K1 100000,K1 52003])<|zl l201_0q<|zc (wn (Li.l x) (M) (51000) (List.length M) (by omega) (by omega) (by omega))<|zc (wn (Li.r x) (M++Ex.af (Li.l x)) (56000) (List.length M+List.length (Ex.af (Li.l x))) (by simp) (by simp;omega) (by omega))<|zh (zN (List.map Tm.av (M++Ex.af (Li.l x)++Ex.af (Li.r x))))<|zq (s:=St.mk [(4,AV.aO 52010 (List.length M+List.length (Ex.af (Li.l x))+List.length (Ex.af (Li.r x))))] [(100000,Ob.aB),(52010,Ob.ao 4 (List.map Tm.av (M++Ex.af (Li.l x)++Ex.af (Li.r x))))]) ⟨rfl,by simp only [List.map_append]⟩ (tb:=[K1 100000,(61000,.a6 52010 true)])
theorem wm {X:Type} (l:List X):∀b:List X,l.foldl (fun b y=>b++[y]) b=b++l:=by
 induction l with
 |nil=>intro b;simp
 |cons y r ih=>intro b;rw [List.foldl_cons,ih];simp
theorem Pk (x:Li) (a:List Tm) (h:a.length+x.af.length<2199023255552):Sp 201 [.aO 100000 a.length,x.av] [(100000,.ao 4 (a.map Tm.av))] (.aO 52010 (a.length+x.af.length)) [(100000,.aB),(52010,.ao 4 ((a++x.af).map Tm.av))]:=by
 simp only [Li.af,List.length_append] at h
 have hl:=F7 x (by omega) (a.length+x.ts.length) (by omega) a (by omega)
 rw [wm] at hl
 obtain ⟨_,_,⟨rfl,rfl⟩,h⟩:=Pi x a (a++x.ts) (by simp only [List.length_append];omega) hl
 have:Sp 201 [.aO 100000 a.length,x.av] [(100000,.ao 4 (a.map Tm.av))] (.aO 52010 ((a++x.ts).length+x.l.af.length+x.r.af.length)) [(100000,.aB),(52010,.ao 4 (((a++x.ts)++x.l.af++x.r.af).map Tm.av))]:=bK.vR (fn:=Tryz.f201) (c:=ai Tryz.f201) (pre:=[(100000,.ao 4 (a.map Tm.av))]) (args:=[.aO 100000 a.length,x.av]) (by kernel_rfl) (by kernel_rfl) rfl rfl (by simp only [bW,gu _ _ (et x)];rfl) (by intro id o hm;simp at hm;obtain ⟨rfl,rfl⟩:=hm;simp only [bg];rw [aM _ _ (jh a)]) h (.inr rfl) (by kernel_rfl)
 simpa only [Li.af,List.length_append,List.append_assoc,Nat.add_assoc] using this
theorem Pj (id n:Nat) (hn:n=a.length) (h:a.length+x.af.length<2199023255552) (hid:id<45000∨50000≤id):Sp 201 [.aO id n,x.av] [(id,.ao 4 (a.map Tm.av))] (.aO (id+5000) (n+x.af.length)) [(id,.aB),(id+5000,.ao 4 ((a++x.af).map Tm.av))]:=
 hn▸uB (Pk x a h) (by simp [aa,et]) (by simp) (by simp) id (id+5000) (by omega) (by omega)
theorem ea {l:List Li} {i:Nat} {y:Li} (h:l[i]? =some y):(az (l.drop i)).length=y.af.length+(az (l.drop (i+1))).length:=by
 have hi:=(List.getElem?_eq_some_iff.1 h).1
 rw [List.drop_eq_getElem_cons hi]
 rw [List.getElem?_eq_getElem hi] at h;injection h with h
 rw [h,az,List.flatMap_cons,List.length_append];rfl
theorem uD (l:List Li):∀b:List Tm,l.foldl (fun b y=>b++y.af) b=b++az l:=by
 induction l with
 |nil=>intro b;simp [az]
 |cons y r ih=>intro b;rw [List.foldl_cons,ih,az,az,List.flatMap_cons,List.append_assoc]
theorem uC (l:List Ar):∀b:List Tm,l.foldl (fun b y=>b++[y.t]) b=b++l.map Ar.t:=by
 induction l with
 |nil=>intro b;simp
 |cons y r ih=>intro b;rw [List.foldl_cons,ih];simp
abbrev Bc:Nat×AV:=(1,.aA 2001 0 0)
abbrev K6 (x:Ru) (a:List Tm) (i:Int):St:=⟨[Bc,(3,.aO 1000 a.length),(4,sI i)],[(2001,.an [.J x.p,sA x.hd,sL x.bd]),(1000,.ao 4 (a.map Tm.av))]⟩
theorem F8 (x:Ru) (hsm:x.hd.length<2199023255552):Lo 37 (O Tryz.f202 0) ⟨[Bc,(3,.ab),(4,sI 0)],[(2001,.an [.J x.p,sA x.hd,sL x.bd])]⟩ (.ar 0) ⟨[Bc,(3,.aO 1000 (x.hd.foldl (fun a y=>a++[y.t]) []).length)],[(2001,.an [.J x.p,sA x.hd,sL x.bd]),(1000,.ao 4 ((x.hd.foldl (fun a y=>a++[y.t]) []).map Tm.av))]⟩:=
 (be (l:=x.hd) (fun i a=>K6 x a (i:Nat)) (fun a=>⟨[Bc,(3,.aO 1000 a.length)],[(2001,.an [.J x.p,sA x.hd,sL x.bd]),(1000,.ao 4 (a.map Tm.av))]⟩) (fun a y=>a++[y.t]) (fun i a=>a.length≤i) (fun i a hi hI=>au Tryz.f202 2000) (fun i a y hy hI=>by (simp only [List.length_append,List.length_singleton];omega)) (fun a hI=>au Tryz.f202 2000) [] (by simp)).1.ez (b5 3 1000 4 rfl rfl)
abbrev ol (x:Ru) (a:List Tm) (i:Int):St:=⟨[Bc,(3,.aO 1000 a.length),(5,sI i)],[(2001,.an [.J x.p,sA x.hd,sL x.bd]),(1000,.ao 4 (a.map Tm.av))]⟩
theorem Gb (x:Ru) (hsm:x.bd.length≤9223372036854775807) (a:List Tm) (i:Nat) (hi:i<x.bd.length) (hI:a.length+(az (x.bd.drop i)).length<2199023255552):En 37 (O Tryz.f202 1) ((ol x a (i:Nat))) (fun eo so=>eo= .aj∧∃y,x.bd[i]? =some y∧so=ol x ((fun a y=>a++y.af) a y) ((i+1:Nat):Int)):=by
 obtain ⟨x0,hm0,hx0⟩:=dC Li.av (l:=x.3) (n:=(↑i:Int)) (by omega) (by omega)
 exact zs 2000<|zt (show decide ((i:Int)<(↑(List.length (List.map Li.av (Ru.bd x))):Int))=true from by simp;omega)<|ze hx0<|zh (Pj x0 a 1000 (List.length a) (by omega) (by have:=ea hm0;simp at*;omega) (by omega))<|zh (w1 i (by omega))<|zh rT<|zh (zN (List.map Tm.av (a++Li.af x0)))<|zd (.dO (.aO 6000 (List.length a+List.length (Li.af x0))) [1000] [(1000,.aB),(6000,.ao 4 (List.map Tm.av (a++Li.af x0)))])<|zq (s:=St.mk [Bc,(3,.aO 1000 (List.length a+List.length (Li.af x0))),(5,sI ((i:Int)+1))] [(2001,.an [.J x.1,sA x.2,sL x.3]),(1000,.ao 4 (List.map Tm.av (a++Li.af x0)))]) ⟨rfl,_,hm0,by (simp only [ol,List.map_append,List.length_append];rfl)⟩ (tb:=[K1 2001,(6000,.a6 1000 true)])
theorem F6 (x:Ru) (hsm:x.bd.length≤9223372036854775807) (a:List Tm) (hI:a.length+(az (x.bd.drop x.bd.length)).length<2199023255552):En 37 (O Tryz.f202 1) ((ol x a (x.bd.length:Nat))) (fun eo so=>eo= .ar 2∧so=⟨[(3,.aO 1000 a.length)],[(2001,.an [.J x.p,sA x.hd,sL x.bd]),(1000,.ao 4 (a.map Tm.av))]⟩):=au Tryz.f202 2000
theorem F9 (x:Ru) (hsm:x.bd.length≤9223372036854775807) (a0:List Tm) (h0:a0.length+(az (x.bd.drop 0)).length<2199023255552):Lo 37 (O Tryz.f202 1) (ol x a0 0) (.ar 2) ⟨[(3,.aO 1000 (x.bd.foldl (fun a y=>a++y.af) a0).length)],[(2001,.an [.J x.p,sA x.hd,sL x.bd]),(1000,.ao 4 ((x.bd.foldl (fun a y=>a++y.af) a0).map Tm.av))]⟩:=
 (be (l:=x.bd) (fun i a=>ol x a (i:Nat)) (fun a=>⟨[(3,.aO 1000 a.length)],[(2001,.an [.J x.p,sA x.hd,sL x.bd]),(1000,.ao 4 (a.map Tm.av))]⟩) (fun a y=>a++y.af) (fun i a=>a.length+(az (x.bd.drop i)).length<2199023255552) (fun i a hi hI=>Gb x hsm a i hi hI) (fun i a y hy hI=>by (have:=ea hy;simp only [List.length_append];omega)) (fun a hI=>F6 x hsm a hI) a0 h0).1
abbrev F3:Nat×AV:=(3,.aA 2003 0 0)
abbrev F4:Nat×Ob:=(2003,.an (Li.ac x))
abbrev F5 (x:Li) (a:List Tm) (i:Int):St:=⟨[(0,.aO 1000 a.length),F3,(5,sI i)],[F4 x,(1000,.ao 4 (a.map Tm.av))]⟩
theorem C1 (hsm:x.ts.length<2199023255552):Lo 31 (O Tryz.f201 0) ⟨[(0,.ab),F3,(5,sI 0)],[F4 x]⟩ (.ar 0) ⟨[(0,.aO 1000 (x.ts.foldl (fun a y=>a++[y]) []).length),F3],[F4 x,(1000,.ao 4 ((x.ts.foldl (fun a y=>a++[y]) []).map Tm.av))]⟩:=
 (be (l:=x.ts) (fun i a=>F5 x a (i:Nat)) (fun a=>⟨[(0,.aO 1000 a.length),F3],[F4 x,(1000,.ao 4 (a.map Tm.av))]⟩) (fun a y=>a++[y]) (fun i a=>a.length≤i) (fun i a hi hI=>au Tryz.f201 2000) (fun i a y hy hI=>by (simp only [List.length_append,List.length_singleton];omega)) (fun a hI=>au Tryz.f201 2000) [] (by simp)).1.ez (b5 0 1000 4 rfl rfl)
end
section
variable (p:ByteArray) (x:Ex)
abbrev C2:Nat×AV:=(3,.aA 2003 0 0)
theorem K7 (x:Li) (M:List Tm) (hM:M.length+x.l.af.length+x.r.af.length<2199023255552) (l201_0q:Lo 31 (O Tryz.f201 0) ⟨[(0,.ab),C2,(5,sI 0)],[(2003,.an (Li.ac x))]⟩ (.ar 0) ⟨[(0,.aO 1000 M.length),C2],[(2003,.an (Li.ac x)),(1000,.ao 4 (M.map Tm.av))]⟩):En 31 (ai Tryz.f201) (⟨[(0,.ab),(1,x.av)],[]⟩) (fun eo so=>eo= .aR∧so=⟨[(4,sT (M++x.l.af++x.r.af))],[]⟩):=by
 exact zs 2000<|zh rT<|zd (.g8 [0,3,5] [K1 2003])<|zl l201_0q<|zc (wn (Li.l x) (M) (1000) (List.length M) (by omega) (by omega) (by omega))<|zc (wn (Li.r x) (M++Ex.af (Li.l x)) (6000) (List.length M+List.length (Ex.af (Li.l x))) (by simp) (by simp;omega) (by omega))<|zh (show List.length M+List.length (Ex.af (Li.l x))+List.length (Ex.af (Li.r x))=List.length (List.map Tm.av (M++Ex.af (Li.l x)++Ex.af (Li.r x))) from by simp;omega)<|zh (zN (List.map Tm.av (M++Ex.af (Li.l x)++Ex.af (Li.r x))))<|zq (s:=St.mk [(4,sT (M++Ex.af (Li.l x)++Ex.af (Li.r x)))] []) ⟨rfl,by simp only [List.map_append]⟩ (tb:=[(11000,.dz)])
abbrev C3:Nat×Ob:=(2003,.an x.ac)
abbrev kZ (x:Ex) (a:List Tm) (i:Int):St:=⟨[(0,.aO 2010 a.length),C2,(5,sI i)],[C3 x,(2010,.ao 4 (a.map Tm.av))]⟩
theorem C6 (hsm:x.ax.length≤9223372036854775807) (a:List Tm) (i:Nat) (hi:i<x.ax.length) (hI:a.length+(Ex.bv (x.ax.drop i)).length<2199023255552):En 26 (O Tryz.f243 0) ((kZ x a (i:Nat))) (fun eo so=>eo= .aj∧∃y,x.ax[i]? =some y∧so=kZ x ((fun a y=>a++y.af) a y) ((i+1:Nat):Int)):=by
 obtain ⟨x0,hm0,hx0⟩:=qp (l:=Ex.ax x) (n:=(↑i:Int)) (by omega) (by omega)
 exact zs 2000<|zt (show decide ((i:Int)<(↑(List.length (x.ax.map Ex.av)):Int))=true from by simp;omega)<|ze hx0<|zh (wn x0 a 2010 (List.length a) (by omega) (by have:=ij hm0;simp at*;omega) (by omega))<|zh (w1 i (by omega))<|zh rT<|zh (zN (List.map Tm.av (a++Ex.af x0)))<|zd (.dO (.aO 7010 (List.length a+List.length (Ex.af x0))) [2010] [(2010,.aB),(7010,.ao 4 (List.map Tm.av (a++Ex.af x0)))])<|zq (s:=St.mk [(0,.aO 2010 (List.length a+List.length (Ex.af x0))),C2,(5,sI ((i:Int)+1))] [(2003,.an [sJ (Ex.op x),.J (Ex.t x).1,sJ (Ex.t x).2,sI (Ex.t x).3,.J (Ex.t x).4,sE (Ex.ax x)]),(2010,.ao 4 (List.map Tm.av (a++Ex.af x0)))]) ⟨rfl,_,hm0,by (simp only [kZ,List.map_append,List.length_append];rfl)⟩ (tb:=[K1 2003,(7010,.a6 2010 true)])
abbrev Pm (a:List Tm):St:=⟨[(0,.aO 2010 a.length)],[C3 x,(2010,.ao 4 (a.map Tm.av))]⟩
theorem C4 (hsm:x.ax.length≤9223372036854775807) (a:List Tm) (hI:a.length+(Ex.bv (x.ax.drop x.ax.length)).length<2199023255552):En 26 (O Tryz.f243 0) ((kZ x a (x.ax.length:Nat))) (fun eo so=>eo= .ar 0∧so=(Pm x a)):=au Tryz.f243 2000
theorem C5 (hsm:x.ax.length≤9223372036854775807) (a0:List Tm) (h0:a0.length+(Ex.bv (x.ax.drop 0)).length<2199023255552):Lo 26 (O Tryz.f243 0) (kZ x a0 0) (.ar 0) ⟨[(0,.aO 2010 (x.ax.foldl (fun a y=>a++y.af) a0).length)],[C3 x,(2010,.ao 4 ((x.ax.foldl (fun a y=>a++y.af) a0).map Tm.av))]⟩:=
 (be (l:=x.ax) (fun i a=>kZ x a (i:Nat)) (fun a=>(Pm x a)) (fun a y=>a++y.af) (fun i a=>a.length+(Ex.bv (x.ax.drop i)).length<2199023255552) (fun i a hi hI=>C6 x hsm a i hi hI) (fun i a y hy hI=>by (have:=ij hy;simp only [List.length_append];omega)) (fun a hI=>C4 x hsm a hI) a0 h0).1
theorem K8 (N:Nat) (M:List Tm) (hN:N=M.length) (l243_0q:Lo 26 (O Tryz.f243 0) ⟨[(0,.aO 2010 1),C2,(5,sI 0)],[C3 x,(2010,.ao 4 [x.t.av])]⟩ (.ar 0) ⟨[(0,.aO 2010 N)],[C3 x,(2010,.ao 4 (M.map Tm.av))]⟩):En 26 (ai Tryz.f243) (⟨[(0,.aO 999 0),(1,.al x.ac)],[(999,.ao 4 [])]⟩) (fun eo so=>eo= .aR∧so=⟨[(4,sT M)],[]⟩):=by
 have o0:=l243_0q
 exact au Tryz.f243 2000
theorem Pp (h:x.af.length<2199023255552):Sp 243 [.ab,.al x.ac] [] (sT x.af) []:=by
 refine bK.dY (x.ax.map Ex.av) ⟨_,List.mem_cons_of_mem _ (List.mem_cons_self ..),false,.inr ⟨_,rfl,by cases x;simp [Ex.ac,CJ,Ex.ax]⟩⟩ fun hk=> ?_
 rw [yc] at h⊢
 simp only [List.length_cons] at h
 have hl:=C5 x (by simpa [maxLen] using hk) [x.t] (by simp;omega)
 rw [o8] at hl
 obtain ⟨_,_,⟨rfl,rfl⟩,r⟩:=K8 x _ (x.t::Ex.bv x.ax) rfl hl
 exact sP Tryz.f243 (by have:=cZ x;rw [Ex.de] at this;simpa [aa,aJ] using this) (r.ez (b5 0 999 4 rfl rfl)) (.inr rfl)
@[reducible,instance] def VC (x:Ex):=kF (Pp x)
theorem Pn (x:Li) (h:x.af.length<2199023255552):Sp 201 [.ab,x.av] [] (sT x.af) []:=by
 simp only [Li.af,List.length_append] at h
 have hl:=C1 x (by omega)
 rw [wm,List.nil_append] at hl
 obtain ⟨_,_,⟨rfl,rfl⟩,r⟩:=K7 x x.ts (by omega) hl
 have:=bK.jb (fn:=Tryz.f201) (c:=ai Tryz.f201) (f:=201) (args:=[.ab,x.av]) (r:=sT (x.ts++x.l.af++x.r.af)) (by kernel_rfl) (by kernel_rfl) (by simp [aa,aJ,et]) r (.inr rfl) (by kernel_rfl) rfl
 rwa [List.append_assoc] at this
@[reducible,instance] def VA (x:Li):=kF (Pn x)
theorem Po (hd:List Ar) (bd:List Li) (h:hd.length+(az bd).length<2199023255552):Sp 202 [.al [.J p,sA hd,sL bd]] [] (sT (hd.map Ar.t++az bd)) []:=by
 refine bK.dY (bd.map Li.av) ⟨_,List.mem_cons_self ..,false,.inr ⟨_,rfl,by simp⟩⟩ fun hk=> ?_
 have h0:=F8 ⟨p,hd,bd⟩ (by simp only;omega)
 have h1:=F9 ⟨p,hd,bd⟩ (by simpa [maxLen] using hk) (hd.map Ar.t) (by simp;omega)
 rw [uC,List.nil_append] at h0
 rw [uD] at h1
 have q0:=h0
 have q1:=h1
 have o0:=h0
 have o1:=h1
 exact aK Tryz.f202 2000 37
@[reducible,instance] def VB (p:ByteArray) (hd:List Ar) (bd:List Li):=kF (Po p hd bd)
theorem tm (x:Li) (h:x.af.length<2199023255552):Sp 157 [x.av] [] (sS (ay x.af)) []:=aK Tryz.f157 0 6
@[reducible,instance] def Vy (x:Li):=kF (tm x)
theorem Jk (h:x.af.length<2199023255552):Sp 285 [.al x.ac] [] (sS (ay x.af)) []:=aK Tryz.f285 0 6
@[reducible,instance] def VD (x:Ex):=kF (Jk x)
theorem zF (hd:List Ar) (bd:List Li) (h:hd.length+(az bd).length<2199023255552):Sp 160 [.al [.J p,sA hd,sL bd]] [] (sS (ay (hd.map Ar.t++az bd))) []:=aK Tryz.f160 0 6
@[reducible,instance] def Vz (p:ByteArray) (hd:List Ar) (bd:List Li):=kF (zF p hd bd)
theorem Pq (ts:List Tm) (h:ts.length<2199023255552):Sp 268 [gU p ts] [] (sS (ay ts)) []:=aK Tryz.f268 0 6
end
section
theorem wo {hd:List Ar} {bd:List Li} (h1:hd.length≤24) (h2:bd.length≤16) (h3:bd.findSome? (ku fk)=none):hd.length+(az bd).length<2199023255552:=by
 have:=fB bd fun y hy=>fD (List.all_eq_true.1 (qI h3) y hy)
 omega
abbrev Gc:Nat×AV:=(1,.aA 1 0 0)
abbrev K9 (hd:List Ar) (bd:List Li) (p:ByteArray) (i:Int):St:=⟨[Gc,(3,sI i)],[(1,.an [.J p,sA hd,sL bd])]⟩
abbrev La (hd:List Ar) (bd:List Li) (p:ByteArray) (i:Int):St:=⟨[Gc,(4,sI i)],[(1,.an [.J p,sA hd,sL bd])]⟩
attribute [local simp,local grind] ku in
attribute [local simp,local grind] ch in
theorem Pr (p:ByteArray) (hd:List Ar) (bd:List Li):Sp 108 [.al [.J p,sA hd,sL bd]] [] (.ak (ch p hd bd)) []:=by
 have o0:=fun (hsm:hd.length≤24)=>bN (P:=Tryz.prog) (n:=53) (c:=O Tryz.f108 0) (k:=0) (l:=hd) (fun i=>K9 hd bd p (i:Nat)) ⟨[Gc],[(1,.an [.J p,sA hd,sL bd])]⟩ (fun rb:Bool=>⟨[(2,.ak rb)],[(1,.an [.J p,sA hd,sL bd])]⟩) (ku qz) (fun i hi=>aZ Tryz.f108 0 [1,3] [2] [K1 1]) (au Tryz.f108 0)
 have o1:=fun (hsm:bd.length≤16)=>bN (P:=Tryz.prog) (n:=53) (c:=O Tryz.f108 1) (k:=2) (l:=bd) (fun i=>La hd bd p (i:Nat)) ⟨[Gc],[(1,.an [.J p,sA hd,sL bd])]⟩ (fun rb:Bool=>⟨[(2,.ak rb)],[(1,.an [.J p,sA hd,sL bd])]⟩) (ku fk) (fun i hi=>aZ Tryz.f108 0 [1,4] [2] [K1 1]) (au Tryz.f108 0)
 have o9:= @wo hd bd
 exact aL Tryz.f108 0 53
@[reducible,instance] def VE (p:ByteArray) (hd:List Ar) (bd:List Li):=kT (Pr p hd bd)
theorem VF (p:ByteArray) (hd:List Ar) (bd:List Li):Sp 58 [.al [.J p,sA hd,sL bd]] [] (sI ((fj 40 (ch p hd bd)))) []:=aL Tryz.f58 0 6
@[reducible,instance] def aam (p:ByteArray) (hd:List Ar) (bd:List Li):=kT (VF p hd bd)
end
@[reducible] def fp (l:List ByteArray):List (Nat×Ob):=[(100003,.aI (l.map .J) (pos l)),(100005,.an [.aX 1 (l.map .J),.aI 100003])]
def ec (l:List ByteArray) (v:ByteArray):List ByteArray:=if v∈l then l else l++[v]
theorem kv (l:List ByteArray) (v:ByteArray):(ec l v).length≤l.length+1:=by
 unfold ec;split<;>simp
theorem kw (l:List ByteArray):∀id o,(id,o)∈fp l→bg (gX (fp l)) o=o:=by
 intro id o hm
 simp only [fp,List.mem_cons,Prod.mk.injEq,List.not_mem_nil,or_false] at hm
 rcases hm with ⟨rfl,rfl⟩|⟨rfl,rfl⟩
 ·simp only [bg,aM _ _ (bw l),aM _ _ (jg l)]
 ·rfl
end Go.Ped
