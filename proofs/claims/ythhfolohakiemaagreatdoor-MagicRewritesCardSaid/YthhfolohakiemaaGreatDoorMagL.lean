/- What the functions of the packages term and check answer is proved for every input. -/
import Derived.Test.YthhfolohakiemaaGreatDoorMagI
import Derived.Test.YthhfolohakiemaaGreatDoorMagK
set_option linter.all false
set_option maxRecDepth 20000
set_option maxHeartbeats 800000
namespace Go.Ped
open Go.RowKit Go.Proofs
section
variable (p:ByteArray) (hd:List Ar) (L:List Ad) (nm s:ByteArray) (ts:List Tm) (bd:List Li)
theorem eS {n:Nat} {env:List (Nat×AV)} {hp:List (Nat×Ob)} (id k lid sz:Nat) {cs:List AV} (ho:ae hp id=some (.an cs)) (hk:cs[k]? =some .ab) (hl:ae hp lid=none):
  Le n ⟨env,hp⟩ ⟨env,ba (ba hp id (.an (cs.set k (.aO lid 0)))) lid (.ao sz [])⟩:=by
 have hne:id≠lid:=by rintro rfl;rw [ho] at hl;cases hl
 refine (vX (n:=n) (st:=⟨env,hp⟩) id (cs:=cs) (ds:=cs.set k (.aO lid 0)) ho (by simp) (fun j x y h1 h2=> ?_) (fun j s es h=> ?_)).ck ?_
 ·rw [List.getElem?_set] at h2
  by_cases e:k=j
  ·subst e
   rw [hk] at h1;injection h1 with h1;subst h1
   rw [if_pos rfl,if_pos (List.getElem?_eq_some_iff.1 hk).1] at h2
   injection h2 with h2;subst h2
   exact .ft lid
  ·rw [if_neg e,h1] at h2;injection h2 with h2;subst h2;exact .bb _
 ·rw [List.getElem?_set] at h
  by_cases e:k=j
  ·subst e
   rw [if_pos rfl,if_pos (List.getElem?_eq_some_iff.1 hk).1] at h;cases h
  ·rw [if_neg e] at h;exact h
 ·rintro F a w ⟨S,β,E,M⟩
  exact ⟨S,β,E,M.Cc (by rw [aq,if_neg hne];exact hl) (.inl rfl) (fun _ _ _ h=>by cases h)⟩
theorem ow {n m:Nat} {env:List (Nat×AV)} {hp:List (Nat×Ob)} (slot id sz:Nat) (es:List AV) (hs:ci env slot= .aw id 0 m) (hm:m≠0) (hi:ae hp id=some (.aw sz es)):
  Le n ⟨env,hp⟩ ⟨ba env slot (.aO id m),ba hp id (.ao sz es)⟩:=by
 rintro F a w ⟨S,β,E,M⟩
 refine ⟨S,β,⟨E.1,E.2.1,fun t=> ?_⟩,M.nN hi (by simp) (.inr (M.dg id _ hi)) (fun _ _ _ h=>by cases h)⟩
 have h:=E.2.2 t
 unfold ci at h hs⊢
 rw [aq]
 by_cases e:slot=t
 ·subst e
  rw [if_pos rfl]
  rw [hs] at h
  exact V.qd h hm
 ·rw [if_neg e];exact h
theorem uG {n:Nat} {env:List (Nat×AV)} {hp:List (Nat×Ob)} (slot:Nat) (hs:ci env slot= .ab):Le n ⟨env,hp⟩ ⟨ba env slot (.aF [] false),hp⟩:=by
 rintro F a w ⟨S,β,E,M⟩
 refine ⟨S,β,⟨E.1,E.2.1,fun t=> ?_⟩,M⟩
 have h:=E.2.2 t
 unfold ci at h hs⊢
 rw [aq]
 by_cases e:slot=t
 ·subst e
  rw [if_pos rfl]
  rw [hs] at h
  exact Wk.ab.V h
 ·rw [if_neg e];exact h
@[reducible] def fc (t:Tm):AV:= .al [sJ t.k,sI t.n,.J t.s]
@[simp] theorem V2 (t:Tm):c8 3 (fc t):=⟨rfl,by simp [fc,AV.ac,cj]⟩
@[simp] theorem Dm (t:Tm):aJ (fc t)=true:=by simp [fc,aJ,aa]
@[simp] theorem Lr (l:List Tm):aa (l.map fc)=true:=bI fc Dm l
def bP (l:List Tm):List Tm:=l.filter fun y=>decide (y.v=⟨#[]⟩)
def io (s:ByteArray) (a:Nat×List Tm) (y:Tm):Nat×List Tm:=(a.1+1,if s.data.toList[a.1]? =some 98 then a.2++[y] else a.2)
def eJ (s:ByteArray) (l:List Tm):List Tm:=(l.foldl (io s) (0,[])).2
def ew (s:ByteArray) (a:Nat×List ByteArray) (y:Ar):Nat×List ByteArray:=(a.1+1,if s.data.toList[a.1]? =some 98∧y.t.v≠⟨#[]⟩∧y.t.v∉a.2 then a.2++[y.t.v] else a.2)
def dV (s:ByteArray) (hd:List Ar):List ByteArray:=(hd.foldl (ew s) (0,[])).2
theorem VY (l:List ByteArray) (s:ByteArray) (id n:Nat) (hn:n=l.length):Sp 38 [.aO id n,.J s] [(id,.ao 1 (l.map .J))] (.ak (bq s l)) []:=
 bK.fi (PI l s) [(id,.ao 1 (l.map .J))] rfl (by simp [dl]) (by simp [bW,dB,dK,eX,ae]) (by simp [cu,el,dK,eX,ae,hn]) rfl
def ln (a:List (ByteArray×Int)) (y:Li):List (ByteArray×Int):=if y.k=1∨y.k=2 then a++[(y.p,(y.ts.length:Int))] else a
def yg (a:List Ar) (y:Tm):List Ar:=a++[⟨0,y⟩]
def yh (a:List Tm) (y:Tm):List Tm:=if y.v=⟨#[]⟩ then a++[y] else a
abbrev Bh:Nat×AV:=(1,.aA 2001 0 0)
abbrev Ln (p:ByteArray) (hd:List Ar) (bd:List Li) (a:List Tm) (i:Int):St:=⟨[Bh,(3,.aO 1000 a.length),(4,sI i)],[(2001,.an [.J p,sA hd,sL bd]),(1000,.ao 4 (a.map Tm.av))]⟩
theorem zR (hsm:hd.length<2199023255552):Lo 22 (O Tryz.f103 0) ⟨[Bh,(3,.ab),(4,sI 0)],[(2001,.an [.J p,sA hd,sL bd])]⟩ (.ar 0) ⟨[(3,.aO 1000 (hd.foldl (fun a y=>a++[y.t]) []).length)],[(2001,.an [.J p,sA hd,sL bd]),(1000,.ao 4 ((hd.foldl (fun a y=>a++[y.t]) []).map Tm.av))]⟩:=
 (be (l:=hd) (fun i a=>Ln p hd bd a (i:Nat)) (fun a=>⟨[(3,.aO 1000 a.length)],[(2001,.an [.J p,sA hd,sL bd]),(1000,.ao 4 (a.map Tm.av))]⟩) (fun a y=>a++[y.t]) (fun i a=>a.length≤i) (fun i a hi hI=>au Tryz.f103 2000) (fun i a y hy hI=>by (simp only [List.length_append,List.length_singleton];omega)) (fun a hI=>au Tryz.f103 2000) [] (by simp<;>assumption)).1.ez (b5 3 1000 4 rfl rfl)
abbrev Lp (p:ByteArray) (ts:List Tm) (bd:List Li) (a:List Ar) (i:Int):St:=⟨[(2,.aA 2002 0 0),(4,.aA 2004 0 0),(5,.aA 2005 0 0),(6,sI i)],[(2002,.an [.J p,sT ts]),(2004,.an [.J ⟨#[]⟩,.ab,.ab]),(2005,.an [.J p,.aO 1000 a.length,sL bd]),(1000,.ao 5 (a.map Ar.av))]⟩
attribute [local simp,local grind] yg in
theorem Gx (p:ByteArray) (ts:List Tm) (bd:List Li) (hsm:ts.length<2199023255552):Lo 30 (O Tryz.f106 0) ⟨[(2,.aA 2002 0 0),(4,.aA 2004 0 0),(5,.aA 2005 0 0),(6,.aP .i64 0)],[(2002,.an [.J p,.aF (ts.map Tm.av) false]),(2004,.an [.J ⟨#[]⟩,.ab,.ab]),(2005,.an [.J p,.ab,.aF (bd.map Li.av) false])]⟩ (.ar 0) ⟨[(4,.aA 2004 0 0),(5,.aA 2005 0 0)],[(2002,.an [.J p,.aF (ts.map Tm.av) false]),(2004,.an [.J ⟨#[]⟩,.ab,.ab]),(2005,.an [.J p,.aO 1000 (ts.foldl yg []).length,.aF (bd.map Li.av) false]),(1000,.ao 5 ((ts.foldl yg []).map Ar.av))]⟩:=
 (be (l:=ts) (fun i a=>Lp p ts bd a (i:Nat)) (fun a=>⟨[(4,.aA 2004 0 0),(5,.aA 2005 0 0)],[(2002,.an [.J p,.aF (ts.map Tm.av) false]),(2004,.an [.J ⟨#[]⟩,.ab,.ab]),(2005,.an [.J p,.aO 1000 a.length,.aF (bd.map Li.av) false]),(1000,.ao 5 (a.map Ar.av))]⟩) yg (fun i a=>a.length≤i) (fun i a hi hI=>au Tryz.f106 2000) (fun i a y hy hI=>by (simp only [yg,List.length_append,List.length_singleton];omega)) (fun a hI=>au Tryz.f106 2000) [] (by simp<;>assumption)).1.ez (eS (cs:=[.J p,.ab,.aF (bd.map Li.av) false]) 2005 1 1000 5 rfl rfl rfl)
abbrev PP (ts:List Tm) (a:List Tm) (i:Int):St:=⟨[(0,sT ts),(3,.aO 1000 a.length),(4,sI i)],[(1000,.ao 3 (a.map fc))]⟩
attribute [local simp,local grind] yh fc in
theorem Dl (hsm:ts.length<2199023255552):Lo 26 (O Tryz.f56 0) ⟨[(0,sT ts),(3,.ab),(4,sI 0)],[]⟩ (.ar 0) ⟨[(3,.aO 1000 (ts.foldl yh []).length)],[(1000,.ao 3 ((ts.foldl yh []).map fc))]⟩:=
 (be (l:=ts) (fun i a=>PP ts a (i:Nat)) (fun a=>⟨[(3,.aO 1000 a.length)],[(1000,.ao 3 (a.map fc))]⟩) yh (fun i a=>a.length≤i) (fun i a hi hI=>au Tryz.f56 2000) (fun i a y hy hI=>by (unfold yh;split<;>first|(simp only [List.length_append,List.length_singleton];omega)|omega)) (fun a hI=>au Tryz.f56 2000) [] (by simp<;>assumption)).1.ez (b5 3 1000 3 rfl rfl)
abbrev qP (s:ByteArray) (ts:List Tm) (a:Nat×List Tm) (i:Int):St:=⟨[(0,.J s),(1,sT ts),(5,.aO 1000 a.2.length),(6,sI i)],[(1000,.ao 4 (a.2.map Tm.av))]⟩
theorem GH (s:ByteArray) (ts:List Tm) (hsm:ts.length<2199023255552) (hs:ts.length≤s.size) (hz:s.data.toList.length=s.size) (a:Nat×List Tm) (i:Nat) (hi:i<ts.length) (hI:a.1=i∧a.2.length≤i):En 25 (O Tryz.f102 0) ((qP s ts a (i:Nat))) (fun eo so=>eo= .aj∧∃y,ts[i]? =some y∧so=qP s ts ((io s) a y) ((i+1:Nat):Int)):=by
 obtain ⟨x0,hx0⟩:=ur (s:=s) (n:=(↑i:Int)) (by omega) (by omega)
 have u0:decide ((↑i:Int)<(↑(List.length (List.map Tm.av ts)):Int))=true:=by simp;omega
 have u1:IntKind.wrap .i64 ((↑i:Int)+1)=(↑i:Int)+1:=bA (by omega) (by omega)
 refine zs 2000<|zt u0<|ze hx0<|zB ((↑(UInt8.toNat x0):Int)=98) (fun h1=> ?_) fun h1=>zh u1<|zh (zN (List.map Tm.av a.2))<|zq (s:=St.mk [(0,AV.J s),(1,sT ts),(5,AV.aO 1000 (List.length a.2)),(6,sI ((↑i:Int)+1))] [(1000,Ob.ao 4 (List.map Tm.av a.2))]) ⟨rfl,_,List.getElem?_eq_getElem hi,by (have h98:=gM hx0;have e:=hI.1;first|(have e2:x0=98:=UInt8.toNat_inj.1 (by have:=of_decide_eq_true h1;show x0.toNat=98;omega);subst e2;have e4:ts[i]=x2:=(by simpa [List.getElem?_eq_getElem hi] using hm2);have e3:io s a ts[i]=(i+1,a.2++[x2]):=(by simp only [io,e,h98,e4,if_true]);rw [e3];simp only [qP,List.map_append,List.length_append];rfl)|(have e2:¬s.data.toList[i]? =some 98:=(by rw [h98];intro e5;injection e5 with e5;subst e5;exact absurd h1 (by decide));have e3:io s a ts[i]=(i+1,a.2):=(by simp only [io,e,if_neg e2]);rw [e3];rfl))⟩
 obtain ⟨x2,hm2,hx2⟩:=dC Tm.av (l:=ts) (n:=(↑i:Int)) (by omega) (by omega)
 exact ze hx2<|zh (rZ 4 48 [.al [.J x2.1,sJ x2.2,sI x2.3,.J x2.4]] (List.length a.2) (List.map Tm.av a.2))<|zh u1<|zh (zN (List.map Tm.av a.2++[.al [.J x2.1,sJ x2.2,sI x2.3,.J x2.4]]))<|zd (.is true)<|zq (s:=St.mk [(0,AV.J s),(1,sT ts),(5,AV.aO 1000 (List.length a.2+List.length [AV.al [AV.J x2.1,sJ x2.2,sI x2.3,AV.J x2.4]])),(6,sI ((↑i:Int)+1))] [(1000,Ob.ao 4 (List.map Tm.av a.2++[AV.al [AV.J x2.1,sJ x2.2,sI x2.3,AV.J x2.4]]))]) ⟨rfl,_,List.getElem?_eq_getElem hi,by (have h98:=gM hx0;have e:=hI.1;first|(have e2:x0=98:=UInt8.toNat_inj.1 (by have:=of_decide_eq_true h1;show x0.toNat=98;omega);subst e2;have e4:ts[i]=x2:=(by simpa [List.getElem?_eq_getElem hi] using hm2);have e3:io s a ts[i]=(i+1,a.2++[x2]):=(by simp only [io,e,h98,e4,if_true]);rw [e3];simp only [qP,List.map_append,List.length_append];rfl)|(have e2:¬s.data.toList[i]? =some 98:=(by rw [h98];intro e5;injection e5 with e5;subst e5;exact absurd h1 (by decide));have e3:io s a ts[i]=(i+1,a.2):=(by simp only [io,e,if_neg e2]);rw [e3];rfl))⟩ (tb:=[(2023,.a6 1000 true)])
theorem Gq (hsm:ts.length<2199023255552) (hs:ts.length≤s.size) (hz:s.data.toList.length=s.size) (a:Nat×List Tm) (hI:a.1=ts.length∧a.2.length≤ts.length):En 25 (O Tryz.f102 0) ((qP s ts a (ts.length:Nat))) (fun eo so=>eo= .ar 0∧so=⟨[(5,.aO 1000 a.2.length)],[(1000,.ao 4 (a.2.map Tm.av))]⟩):=au Tryz.f102 2000
theorem zQ (hsm:ts.length<2199023255552) (hs:ts.length≤s.size) (hz:s.data.toList.length=s.size):Lo 25 (O Tryz.f102 0) ⟨[(0,.J s),(1,sT ts),(5,.ab),(6,sI 0)],[]⟩ (.ar 0) ⟨[(5,.aO 1000 (ts.foldl (io s) (0,[])).2.length)],[(1000,.ao 4 ((ts.foldl (io s) (0,[])).2.map Tm.av))]⟩:=
 (be (l:=ts) (fun i a=>qP s ts a (i:Nat)) (fun a=>⟨[(5,.aO 1000 a.2.length)],[(1000,.ao 4 (a.2.map Tm.av))]⟩) (io s) (fun i a=>a.1=i∧a.2.length≤i) (fun i a hi hI=>GH s ts hsm hs hz a i hi hI) (fun i a y hy hI=>by (unfold io;refine ⟨by simp only;omega,?_⟩;simp only;split<;>first|(simp only [List.length_append,List.length_singleton];omega)|omega)) (fun a hI=>Gq s ts hsm hs hz a hI) (0,[]) (by simp<;>assumption)).1.ez (b5 5 1000 4 rfl rfl)
abbrev ou (p:ByteArray) (hd:List Ar) (bd:List Li) (a:List (ByteArray×Int)) (i:Int):St:=⟨[Bh,(3,.aO 2011 a.length),(4,sI i)],[(2001,.an [.J p,sA hd,sL bd]),(2011,.ao 2 (a.map bV))]⟩
theorem GK (p:ByteArray) (hd:List Ar) (bd:List Li) (hsm:bd.length<2199023255552) (a:List (ByteArray×Int)) (i:Nat) (hi:i<bd.length) (hI:0<a.length∧a.length≤i+1):En 55 (O Tryz.f233 0) ((ou p hd bd a (i:Nat))) (fun eo so=>eo= .aj∧∃y,bd[i]? =some y∧so=ou p hd bd (ln a y) ((i+1:Nat):Int)):=by
 obtain ⟨x0,hm0,hx0⟩:=dC Li.av (l:=bd) (n:=(↑i:Int)) (by omega) (by omega)
 have u0:decide ((↑i:Int)<(↑(List.length (List.map Li.av bd)):Int))=true:=by simp;omega
 have u1:=rZ 2 24 [.al [.J x0.2,sI (↑(List.length (List.map Tm.av x0.3)):Int)]] (List.length a) (List.map bV a) (by (refine ⟨by simp,by simp,by intro e he;simp only [List.mem_singleton] at he;subst he;exact ⟨rfl,by simp [AV.ac,cj]⟩,(by intro e he;obtain ⟨x,_,rfl⟩:=List.mem_map.1 he;simp),?_,?_⟩<;>(simp;omega)))
 have u2:IntKind.wrap .i64 ((↑i:Int)+1)=(↑i:Int)+1:=bA (by omega) (by omega)
 have u3:=zN (List.map bV a++[.al [.J x0.2,sI (↑(List.length (List.map Tm.av x0.3)):Int)]])
 exact zs 2000<|zt u0<|ze hx0<|zB (Li.k x0=1) (fun h1=>ze hx0<|ze hx0<|zh u1<|zh u2<|zt rT<|zh u3<|zq (s:=St.mk [(1,AV.aA 2001 0 0),(3,AV.aO 2011 (List.length a+List.length [AV.al [AV.J x0.2,sI (↑(List.length (List.map Tm.av x0.3)):Int)]])),(4,sI ((↑i:Int)+1))] [(2001,Ob.an [AV.J p,sA hd,sL bd]),(2011,Ob.ao 2 (List.map bV a++[AV.al [AV.J x0.2,sI (↑(List.length (List.map Tm.av x0.3)):Int)]]))]) ⟨rfl,_,hm0,by (first|(have e3:ln a x0=a++[(x0.p,(x0.ts.length:Int))]:=if_pos (by first|exact .inl (of_decide_eq_true h1)|exact .inr (of_decide_eq_true h2));rw [e3];simp only [ou,List.map_append,List.length_append,List.length_map];rfl)|(have e3:ln a x0=a:=if_neg (fun h↦h.elim (of_decide_eq_false h1) (of_decide_eq_false h2));rw [e3];rfl))⟩ (tb:=[K1 2001,(2053,.a6 2011 true)])) fun h1=>ze hx0<|zB (Li.k x0=2) (fun h2=>ze hx0<|ze hx0<|zh u1<|zh u2<|zt rT<|zh u3<|zq (s:=St.mk [(1,AV.aA 2001 0 0),(3,AV.aO 2011 (List.length a+List.length [AV.al [AV.J x0.2,sI (↑(List.length (List.map Tm.av x0.3)):Int)]])),(4,sI ((↑i:Int)+1))] [(2001,Ob.an [AV.J p,sA hd,sL bd]),(2011,Ob.ao 2 (List.map bV a++[AV.al [AV.J x0.2,sI (↑(List.length (List.map Tm.av x0.3)):Int)]]))]) ⟨rfl,_,hm0,by (first|(have e3:ln a x0=a++[(x0.p,(x0.ts.length:Int))]:=if_pos (by first|exact .inl (of_decide_eq_true h1)|exact .inr (of_decide_eq_true h2));rw [e3];simp only [ou,List.map_append,List.length_append,List.length_map];rfl)|(have e3:ln a x0=a:=if_neg (fun h↦h.elim (of_decide_eq_false h1) (of_decide_eq_false h2));rw [e3];rfl))⟩ (tb:=[K1 2001,(2053,.a6 2011 true)])) fun h2=>zh u2<|zh rT<|zh (zN (a.map bV))<|zq (s:=St.mk [(1,AV.aA 2001 0 0),(3,AV.aO 2011 (List.length a)),(4,sI ((↑i:Int)+1))] [(2001,Ob.an [AV.J p,sA hd,sL bd]),(2011,Ob.ao 2 (List.map bV a))]) ⟨rfl,_,hm0,by (first|(have e3:ln a x0=a++[(x0.p,(x0.ts.length:Int))]:=if_pos (by first|exact .inl (of_decide_eq_true h1)|exact .inr (of_decide_eq_true h2));rw [e3];simp only [ou,List.map_append,List.length_append,List.length_map];rfl)|(have e3:ln a x0=a:=if_neg (fun h↦h.elim (of_decide_eq_false h1) (of_decide_eq_false h2));rw [e3];rfl))⟩
theorem Gt (hsm:bd.length<2199023255552) (a:List (ByteArray×Int)) (hI:0<a.length∧a.length≤bd.length+1):En 55 (O Tryz.f233 0) ((ou p hd bd a (bd.length:Nat))) (fun eo so=>eo= .ar 0∧so=⟨[(3,.aO 2011 a.length)],[(2001,.an [.J p,sA hd,sL bd]),(2011,.ao 2 (a.map bV))]⟩):=au Tryz.f233 2000
theorem Gz (hsm:bd.length<2199023255552) (a0:List (ByteArray×Int)) (h0:0<a0.length∧a0.length≤0+1):Lo 55 (O Tryz.f233 0) ⟨[Bh,(3,.aw 2011 0 a0.length),(4,sI 0)],[(2001,.an [.J p,sA hd,sL bd]),(2011,.aw 2 (a0.map bV))]⟩ (.ar 0) ⟨[(3,.aO 2011 (bd.foldl ln a0).length)],[(2001,.an [.J p,sA hd,sL bd]),(2011,.ao 2 ((bd.foldl ln a0).map bV))]⟩:=
 (be (l:=bd) (fun i a=>ou p hd bd a (i:Nat)) (fun a=>⟨[(3,.aO 2011 a.length)],[(2001,.an [.J p,sA hd,sL bd]),(2011,.ao 2 (a.map bV))]⟩) ln (fun i a=>0<a.length∧a.length≤i+1) (fun i a hi hI=>GK p hd bd hsm a i hi hI) (fun i a y hy hI=>by (unfold ln;split<;>first|(simp only [List.length_append,List.length_singleton];omega)|omega)) (fun a hI=>Gt p hd bd hsm a hI) a0 h0).1.ez (ow 3 2011 2 _ rfl (by omega) rfl)
abbrev PO:Nat×Ob:=(2004,.an [.J ⟨#[]⟩,.ab,.ab])
theorem PS (M:List Ar) (l106_0q:Lo 30 (O Tryz.f106 0) ⟨[(2,.aA 2002 0 0),(4,.aA 2004 0 0),(5,.aA 2005 0 0),(6,sI 0)],[(2002,.an [.J p,sT ts]),PO,(2005,.an [.J p,.ab,sL bd])]⟩ (.ar 0) ⟨[(4,.aA 2004 0 0),(5,.aA 2005 0 0)],[(2002,.an [.J p,sT ts]),PO,(2005,.an [.J p,.aO 1000 M.length,sL bd]),(1000,.ao 5 (M.map Ar.av))]⟩):En 30 (ai Tryz.f106) (⟨[(0,.al [.J p,sT ts]),(1,sL bd)],[]⟩) (fun eo so=>eo= .aR∧so=⟨[(4,.aA 2004 0 0)],[(2004,.an [.J p,sA M,sL bd])]⟩):=by
 have o0:=l106_0q
 exact au Tryz.f106 2000
abbrev ot (p:ByteArray) (hd:List Ar) (bd:List Li) (s:ByteArray) (a:Nat×List ByteArray) (i:Int):St:=⟨[(1,.J s),(2,.aA 2002 0 0),(5,.aO 1000 a.2.length),(6,sI i)],[(2002,.an [.J p,sA hd,sL bd]),(1000,.ao 1 (a.2.map .J))]⟩
theorem GJ (p:ByteArray) (hd:List Ar) (bd:List Li) (s:ByteArray) (hsm:hd.length<2199023255552) (hs:hd.length≤s.size) (hz:s.data.toList.length=s.size) (a:Nat×List ByteArray) (i:Nat) (hi:i<hd.length) (hI:a.1=i∧a.2.length≤i):En 41 (O Tryz.f155 0) ((ot p hd bd s a (i:Nat))) (fun eo so=>eo= .aj∧∃y,hd[i]? =some y∧so=ot p hd bd s ((ew s) a y) ((i+1:Nat):Int)):=by
 obtain ⟨x0,hm0,hx0⟩:=dC Ar.av (l:=hd) (n:=(↑i:Int)) (by omega) (by omega)
 obtain ⟨x1,hx1⟩:=ur (s:=s) (n:=(↑i:Int)) (by omega) (by omega)
 have u0:decide ((↑i:Int)<(↑(List.length (List.map Ar.av hd)):Int))=true:=by simp;omega
 have u1:IntKind.wrap .i64 ((↑i:Int)+1)=(↑i:Int)+1:=bA (by omega) (by omega)
 have u2:=zN (List.map AV.J a.2)
 refine zs 2000<|zt u0<|ze hx0<|ze hx1<|zB ((↑(UInt8.toNat x1):Int)=98) (fun h2=> ?_) fun h2=>zh u1<|zh rT<|zh u2<|zq (s:=St.mk [(1,AV.J s),(2,AV.aA 2002 0 0),(5,AV.aO 1000 (List.length a.2)),(6,sI ((↑i:Int)+1))] [(2002,Ob.an [AV.J p,sA hd,sL bd]),(1000,Ob.ao 1 (List.map AV.J a.2))]) ⟨rfl,_,hm0,by (have h98:=gM hx1;have e:=hI.1;first|(have e3:ew s a x0=(i+1,a.2++[x0.t.v]):=(by unfold ew;rw [e,h98];rw [if_pos ⟨congrArg some (UInt8.toNat_inj.1 (by have:=of_decide_eq_true h2;show x1.toNat=98;omega)),of_decide_eq_false h3,by simpa [bq] using hb5⟩]);rw [e3];simp only [ot,List.map_append,List.length_append];rfl)|(have e3:ew s a x0=(i+1,a.2):=(by unfold ew;rw [e,h98];rw [if_neg];intro h;first|exact h.2.1 (of_decide_eq_true h3)|exact h.2.2 (by simpa [bq] using hb5)|(injection h.1 with e5;subst e5;exact absurd h2 (by decide)));rw [e3];rfl))⟩
 rcases CI (decide (Tm.v (Ar.t x0)=ByteArray.mk #[])) with h3|h3
 ·exact zf (nF h3)<|zh u1<|zh rT<|zh u2<|zq (s:=St.mk [(1,AV.J s),(2,AV.aA 2002 0 0),(5,AV.aO 1000 (List.length a.2)),(6,sI ((↑i:Int)+1))] [(2002,Ob.an [AV.J p,sA hd,sL bd]),(1000,Ob.ao 1 (List.map AV.J a.2))]) ⟨rfl,_,hm0,by (have h98:=gM hx1;have e:=hI.1;first|(have e3:ew s a x0=(i+1,a.2++[x0.t.v]):=(by unfold ew;rw [e,h98];rw [if_pos ⟨congrArg some (UInt8.toNat_inj.1 (by have:=of_decide_eq_true h2;show x1.toNat=98;omega)),of_decide_eq_false h3,by simpa [bq] using hb5⟩]);rw [e3];simp only [ot,List.map_append,List.length_append];rfl)|(have e3:ew s a x0=(i+1,a.2):=(by unfold ew;rw [e,h98];rw [if_neg];intro h;first|exact h.2.1 (of_decide_eq_true h3)|exact h.2.2 (by simpa [bq] using hb5)|(injection h.1 with e5;subst e5;exact absurd h2 (by decide)));rw [e3];rfl))⟩
 ·have hs4:=VY a.2 ((Ar.t x0).1) (1000) (List.length a.2) (by omega)
  have u3:(!decide (Tm.v (Ar.t x0)=ByteArray.mk #[]))=true:=(by rw [h3];rfl)
  refine zt u3<|zc hs4<|?_
  cases hb5:bq (Ar.t x0).1 a.2 with
  |true=>
   rw [hb5] at hs4
   exact zh u1<|zh rT<|zh u2<|zq (s:=St.mk [(1,AV.J s),(2,AV.aA 2002 0 0),(5,AV.aO 1000 (List.length a.2)),(6,sI ((↑i:Int)+1))] [(2002,Ob.an [AV.J p,sA hd,sL bd]),(1000,Ob.ao 1 (List.map AV.J a.2))]) ⟨rfl,_,hm0,by (have h98:=gM hx1;have e:=hI.1;first|(have e3:ew s a x0=(i+1,a.2++[x0.t.v]):=(by unfold ew;rw [e,h98];rw [if_pos ⟨congrArg some (UInt8.toNat_inj.1 (by have:=of_decide_eq_true h2;show x1.toNat=98;omega)),of_decide_eq_false h3,by simpa [bq] using hb5⟩]);rw [e3];simp only [ot,List.map_append,List.length_append];rfl)|(have e3:ew s a x0=(i+1,a.2):=(by unfold ew;rw [e,h98];rw [if_neg];intro h;first|exact h.2.1 (of_decide_eq_true h3)|exact h.2.2 (by simpa [bq] using hb5)|(injection h.1 with e5;subst e5;exact absurd h2 (by decide)));rw [e3];rfl))⟩
  |false=>
   rw [hb5] at hs4
   exact zh (rZ 1 16 [.J (Ar.t x0).1] (List.length a.2) (List.map AV.J a.2))<|zh u1<|zt rT<|zh (zN (List.map AV.J a.2++[.J (Ar.t x0).1]))<|zq (s:=St.mk [(1,AV.J s),(2,AV.aA 2002 0 0),(5,AV.aO 1000 (List.length a.2+List.length [AV.J (Ar.t x0).1])),(6,sI ((↑i:Int)+1))] [(2002,Ob.an [AV.J p,sA hd,sL bd]),(1000,Ob.ao 1 (List.map AV.J a.2++[AV.J (Ar.t x0).1]))]) ⟨rfl,_,hm0,by (have h98:=gM hx1;have e:=hI.1;first|(have e3:ew s a x0=(i+1,a.2++[x0.t.v]):=(by unfold ew;rw [e,h98];rw [if_pos ⟨congrArg some (UInt8.toNat_inj.1 (by have:=of_decide_eq_true h2;show x1.toNat=98;omega)),of_decide_eq_false h3,by simpa [bq] using hb5⟩]);rw [e3];simp only [ot,List.map_append,List.length_append];rfl)|(have e3:ew s a x0=(i+1,a.2):=(by unfold ew;rw [e,h98];rw [if_neg];intro h;first|exact h.2.1 (of_decide_eq_true h3)|exact h.2.2 (by simpa [bq] using hb5)|(injection h.1 with e5;subst e5;exact absurd h2 (by decide)));rw [e3];rfl))⟩ (tb:=[K1 2002,(2039,.a6 1000 true)])
theorem Gr (s:ByteArray) (hsm:hd.length<2199023255552) (hs:hd.length≤s.size) (hz:s.data.toList.length=s.size) (a:Nat×List ByteArray) (hI:a.1=hd.length∧a.2.length≤hd.length):En 41 (O Tryz.f155 0) ((ot p hd bd s a (hd.length:Nat))) (fun eo so=>eo= .ar 0∧so=⟨[(5,.aO 1000 a.2.length)],[(2002,.an [.J p,sA hd,sL bd]),(1000,.ao 1 (a.2.map .J))]⟩):=au Tryz.f155 2000
theorem Gy (s:ByteArray) (hsm:hd.length<2199023255552) (hs:hd.length≤s.size) (hz:s.data.toList.length=s.size):Lo 41 (O Tryz.f155 0) ⟨[(1,.J s),(2,.aA 2002 0 0),(5,.ab),(6,sI 0)],[(2002,.an [.J p,sA hd,sL bd])]⟩ (.ar 0) ⟨[(5,.aO 1000 (hd.foldl (ew s) (0,[])).2.length)],[(2002,.an [.J p,sA hd,sL bd]),(1000,.ao 1 ((hd.foldl (ew s) (0,[])).2.map .J))]⟩:=
 (be (l:=hd) (fun i a=>ot p hd bd s a (i:Nat)) (fun a=>⟨[(5,.aO 1000 a.2.length)],[(2002,.an [.J p,sA hd,sL bd]),(1000,.ao 1 (a.2.map .J))]⟩) (ew s) (fun i a=>a.1=i∧a.2.length≤i) (fun i a hi hI=>GJ p hd bd s hsm hs hz a i hi hI) (fun i a y hy hI=>by (unfold ew;refine ⟨by simp only;omega,?_⟩;simp only;split<;>first|(simp only [List.length_append,List.length_singleton];omega)|omega)) (fun a hI=>Gr p hd bd s hsm hs hz a hI) (0,[]) (by simp<;>assumption)).1.ez (b5 5 1000 1 rfl rfl)
def qR (nm:ByteArray) (a:Ad):Option Ad:=if aH a.1 a.2=nm then some a else none
def qQ (nm:ByteArray) (a:ByteArray×Int):Option (ByteArray×Int):=if a.1=nm then some a else none
abbrev Dh:Nat×AV:=(0,.aF (L.map bE) false)
abbrev jH:Nat×AV:=(4,.aA 4 0 0)
abbrev Di:Nat×Ob:=(4,.an [.J ⟨#[]⟩,.J ⟨#[]⟩])
abbrev oq (L:List Ad) (nm:ByteArray) (i:Int):St:=⟨[Dh L,(1,.J nm),jH,(6,sI i)],[Di]⟩
abbrev ov (l:List (ByteArray×Int)) (nm:ByteArray) (i:Int):St:=⟨[(0,.J nm),(1,.aF (l.map bV) false),jH,(6,sI i)],[(4,.an [.J ⟨#[]⟩,sI 0])]⟩
theorem Gv (hp:p.size<1000000000000000000) (hs:s.size<1000000000000000000):Sp 15 [.al [.J p,.J s]] [] (.J (aH p s)) []:=Gm p s hp hs
@[reducible,instance] def aar (p s:ByteArray):=kG (Gv p s)
def Dn (L:List Ad):Prop:=∀a,a∈L→a.1.size<1000000000000000000∧a.2.size<1000000000000000000
abbrev Bi:Nat×AV:=(5,.ak true)
abbrev VT (r:Ad):Nat×Ob:=(4,.an [.J r.1,.J r.2])
abbrev Dj (r:Ad):St:=⟨[jH,Bi],[VT r]⟩
theorem GF (hsm:L.length≤9223372036854775807) (Gv:∀a,a∈L→Sp 15 [.al [.J a.1,.J a.2]] [] (.J (aH a.1 a.2)) []) (i:Nat) (hi:i<L.length):En 25 (O Tryz.f100 0) ((oq L nm (i:Nat))) (iL L (qR nm) (fun i=>oq L nm (i:Nat)) (fun r:Ad=>(Dj r)) i):=by
 obtain ⟨x0,hm0,hx0⟩:=dC bE (l:=L) (n:=(↑i:Int)) (by omega) (by omega)
 have u0:decide ((↑i:Int)<(↑(List.length (List.map bE L)):Int))=true:=by simp;omega
 exact z0<|zt u0<|ze hx0<|zc (Gv x0 (List.mem_of_getElem? (by assumption)))<|zB (aH x0.1 x0.2=nm) (fun h2=>ze hx0<|zh rT<|zq (A2 (r:=x0) hm0 (if_pos (by simp at*;assumption))) [4,5] [K1 4]) fun h2=>zh (w1 i (by omega))<|zh rT<|zq (A1 hm0 (if_neg (by simp at*;assumption))) [0,1,4,6] [K1 4]
abbrev Lq:St:=⟨[jH],[Di]⟩
theorem Gp:En 25 (O Tryz.f100 0) ((oq L nm (L.length:Nat))) (fun e t=>e= .ar 0∧t=Lq):=au Tryz.f100 0
attribute [local simp,local grind] qQ in
theorem GL (l:List (ByteArray×Int)) (nm:ByteArray) (hsm:l.length≤9223372036854775807) (i:Nat) (hi:i<l.length):En 25 (O Tryz.f267 0) ((ov l nm (i:Nat))) (iL l (qQ nm) (fun i=>ov l nm (i:Nat)) (fun r:ByteArray×Int=>⟨[jH,Bi],[(4,.an [.J r.1,sI r.2])]⟩) i):=aZ Tryz.f267 0 [0,1,4,6] [4,5] [K1 4]
theorem Gu (l:List (ByteArray×Int)) (nm:ByteArray):En 25 (O Tryz.f267 0) ((ov l nm (l.length:Nat))) (fun e t=>e= .ar 0∧t=⟨[jH],[(4,.an [.J ⟨#[]⟩,sI 0])]⟩):=au Tryz.f267 0
theorem GE (l:List Tm):∀b:List Ar,l.foldl yg b=b++l.map fun y=>⟨0,y⟩:=by
 induction l with
 |nil=>intro b;simp
 |cons y r ih=>intro b;rw [List.foldl_cons,ih];simp [yg]
theorem zS (l:List Tm):∀b:List Tm,l.foldl yh b=b++bP l:=by
 induction l with
 |nil=>intro b;simp [bP]
 |cons y r ih=>intro b;rw [List.foldl_cons,ih];by_cases h:y.v=⟨#[]⟩<;>simp [yh,bP,h]
def sa (p:ByteArray) (hd:List Ar) (bd:List Li):List (ByteArray×Int):=bd.foldl ln [(p,(hd.length:Int))]
theorem PV (h:hd.length<2199023255552):Sp 103 [.al [.J p,sA hd,sL bd]] [] (sT (hd.map Ar.t)) []:=by
 have q0:Lo 22 (O Tryz.f103 0) ⟨[Bh,(3,.ab),(4,sI 0)],[(2001,.an [.J p,sA hd,sL bd])]⟩ (.ar 0) ⟨[(3,.aO 1000 (hd.map Ar.t).length)],[(2001,.an [.J p,sA hd,sL bd]),(1000,.ao 4 ((hd.map Ar.t).map Tm.av))]⟩:=(by simpa only [uC,List.nil_append] using zR p hd bd h)
 have o0:=(by simpa only [uC,List.nil_append] using zR p hd bd h)
 exact aK Tryz.f103 2000 22
@[reducible,instance] def VV (p:ByteArray) (hd:List Ar) (bd:List Li):=kF (PV p hd bd)
theorem Dk (h:ts.length<2199023255552):Sp 106 [.al [.J p,sT ts],sL bd] [] (Ru.av ⟨p,ts.map fun y=>⟨0,y⟩,bd⟩) []:=by
 obtain ⟨_,_,⟨rfl,rfl⟩,r⟩:=PS p ts bd (ts.map fun y=>⟨0,y⟩) (by simpa only [GE,List.nil_append] using Gx p ts bd h)
 exact bK.jb (fn:=Tryz.f106) (c:=ai Tryz.f106) (by kernel_rfl) (by kernel_rfl) (by simp [aa,aJ]) r (.inr rfl) (by kernel_rfl) (by simp [Ru.av,aa,aJ])
@[reducible,instance] def VW (p:ByteArray) (ts:List Tm) (bd:List Li):=kF (Dk p ts bd)
theorem VZ (h:ts.length<2199023255552):Sp 56 [sT ts] [] (.aF ((bP ts).map fc) false) []:=by
 have q0:Lo 26 (O Tryz.f56 0) ⟨[(0,sT ts),(3,.ab),(4,sI 0)],[]⟩ (.ar 0) ⟨[(3,.aO 1000 (bP ts).length)],[(1000,.ao 3 ((bP ts).map fc))]⟩:=(by have h9:=Dl ts h;rw [zS,List.nil_append] at h9;exact h9)
 have o0:=(by have h9:=Dl ts h;rw [zS,List.nil_append] at h9;exact h9)
 exact aK Tryz.f56 2000 26
@[reducible,instance] def aas (ts:List Tm):=kF (VZ ts)
theorem Jt (hs:ts.length≤s.size) (h:ts.length<2199023255552):Sp 102 [.J s,sT ts] [] (sT (eJ s ts)) []:=by
 have q0:=(zQ s ts h hs rfl)
 have o0:=(zQ s ts h hs rfl)
 exact aK Tryz.f102 2000 25
@[reducible,instance] def VU (s:ByteArray) (ts:List Tm):=kG (Jt s ts)
theorem PW (h:bd.length<2199023255552):Sp 233 [.al [.J p,sA hd,sL bd]] [] (.aF ((sa p hd bd).map bV) false) []:=by
 have y0r:Lo 55 (O Tryz.f233 0) ⟨[Bh,(3,.aw 2011 0 1),(4,sI 0)],[(2001,.an [.J p,sA hd,sL bd]),(2011,.aw 2 [.al [.J p,sI ((hd.map Ar.av).length:Nat)]])]⟩ (.ar 0) ⟨[(3,.aO 2011 (sa p hd bd).length)],[(2001,.an [.J p,sA hd,sL bd]),(2011,.ao 2 ((sa p hd bd).map bV))]⟩:=(by have h9:=Gz p hd bd h [(p,(hd.length:Int))] (by simp);rw [List.length_map];exact h9)
 exact aK Tryz.f233 2000 55
@[reducible,instance] def VX (p:ByteArray) (hd:List Ar) (bd:List Li):=kF (PW p hd bd)
def cb (L:List Ad) (nm:ByteArray):Ad×Bool:=match L.findSome? (qR nm) with|some a=>(a,true)|none=>((⟨#[]⟩,⟨#[]⟩),false)
def uH (l:List (ByteArray×Int)) (nm:ByteArray):(ByteArray×Int)×Bool:=match l.findSome? (qQ nm) with|some a=>(a,true)|none=>((⟨#[]⟩,0),false)
theorem Gw (hsm:L.length≤9223372036854775807) (Gv:∀a,a∈L→Sp 15 [.al [.J a.1,.J a.2]] [] (.J (aH a.1 a.2)) []):
  (∃r:Ad,Lo 25 (O Tryz.f100 0) (oq L nm 0) .aR (Dj r)∧L.findSome? (qR nm)=some r)∨(Lo 25 (O Tryz.f100 0) (oq L nm 0) (.ar 0) Lq∧L.findSome? (qR nm)=none):=
 bN (fun i=>oq L nm (i:Nat)) _ (fun r:Ad=>(Dj r)) (qR nm) (fun i hi=>GF L nm hsm Gv i hi) (Gp L nm)
theorem GA (l:List (ByteArray×Int)) (nm:ByteArray) (hsm:l.length≤9223372036854775807):
  (∃r:ByteArray×Int,Lo 25 (O Tryz.f267 0) (ov l nm 0) .aR ⟨[jH,Bi],[(4,.an [.J r.1,sI r.2])]⟩∧l.findSome? (qQ nm)=some r)∨(Lo 25 (O Tryz.f267 0) (ov l nm 0) (.ar 0) ⟨[jH],[(4,.an [.J ⟨#[]⟩,sI 0])]⟩∧l.findSome? (qQ nm)=none):=
 bN (fun i=>ov l nm (i:Nat)) _ (fun r:ByteArray×Int=>⟨[jH,Bi],[(4,.an [.J r.1,sI r.2])]⟩) (qQ nm) (fun i hi=>GL l nm hsm i hi) (Gu l nm)
theorem PR (r:Ad) (l100_0q:Lo 25 (O Tryz.f100 0) ⟨[Dh L,(1,.J nm),jH,(6,sI 0)],[Di]⟩ .aR (Dj r)):En 25 (ai Tryz.f100) ⟨[Dh L,(1,.J nm)],[]⟩ (fun e t=>e= .aR∧t=(Dj r)):=by
 have o0:=l100_0q
 exact au Tryz.f100 0
theorem PQ (l100_0q:Lo 25 (O Tryz.f100 0) ⟨[Dh L,(1,.J nm),jH,(6,sI 0)],[Di]⟩ (.ar 0) Lq):En 25 (ai Tryz.f100) ⟨[Dh L,(1,.J nm)],[]⟩ (fun e t=>e= .aR∧t=⟨[jH,(5,.ak false)],[Di]⟩):=by
 have o0:=l100_0q
 exact au Tryz.f100 0
theorem PU (l:List (ByteArray×Int)) (nm:ByteArray) (r:ByteArray×Int) (l267_0q:Lo 25 (O Tryz.f267 0) ⟨[(0,.J nm),(1,.aF (l.map bV) false),jH,(6,sI 0)],[(4,.an [.J ⟨#[]⟩,sI 0])]⟩ .aR ⟨[jH,Bi],[(4,.an [.J r.1,sI r.2])]⟩):En 25 (ai Tryz.f267) ⟨[(0,.J nm),(1,.aF (l.map bV) false)],[]⟩ (fun e t=>e= .aR∧t=⟨[jH,Bi],[(4,.an [.J r.1,sI r.2])]⟩):=by
 have o0:=l267_0q
 exact au Tryz.f267 0
theorem PT (l:List (ByteArray×Int)) (nm:ByteArray) (l267_0q:Lo 25 (O Tryz.f267 0) ⟨[(0,.J nm),(1,.aF (l.map bV) false),jH,(6,sI 0)],[(4,.an [.J ⟨#[]⟩,sI 0])]⟩ (.ar 0) ⟨[jH],[(4,.an [.J ⟨#[]⟩,sI 0])]⟩):En 25 (ai Tryz.f267) ⟨[(0,.J nm),(1,.aF (l.map bV) false)],[]⟩ (fun e t=>e= .aR∧t=⟨[jH,(5,.ak false)],[(4,.an [.J ⟨#[]⟩,sI 0])]⟩):=by
 have o0:=l267_0q
 exact au Tryz.f267 0
theorem Js (hL:Dn L):Sp 100 [.aF (L.map bE) false,.J nm] [] (.bC [.al [.J (cb L nm).1.1,.J (cb L nm).1.2],.ak (cb L nm).2]) []:=by
 refine bK.dY (L.map bE) ⟨_,by simp,false,.inl rfl⟩ fun hk=> ?_
 rcases Gw L nm (by simpa [maxLen] using hk) (fun a ha=>Gv _ _ (hL a ha).1 (hL a ha).2) with ⟨r,h,e⟩|⟨h,e⟩
 ·obtain ⟨_,_,⟨rfl,rfl⟩,r⟩:=PR L nm r h
  simp only [cb,e]
  exact sP Tryz.f100 (by simp [aa,aJ]) r (.inr rfl)
 ·obtain ⟨_,_,⟨rfl,rfl⟩,r⟩:=PQ L nm h
  simp only [cb,e]
  exact sP Tryz.f100 (by simp [aa,aJ]) r (.inr rfl)
theorem PX (l:List (ByteArray×Int)) (nm:ByteArray):Sp 267 [.J nm,.aF (l.map bV) false] [] (.bC [bV (uH l nm).1,.ak (uH l nm).2]) []:=by
 refine bK.dY (l.map bV) ⟨_,by simp,false,.inl rfl⟩ fun hk=> ?_
 rcases GA l nm (by simpa [maxLen] using hk) with ⟨r,h,e⟩|⟨h,e⟩
 ·obtain ⟨_,_,⟨rfl,rfl⟩,r⟩:=PU l nm r h
  simp only [uH,e]
  exact sP Tryz.f267 (by simp [aa,aJ]) r (.inr rfl)
 ·obtain ⟨_,_,⟨rfl,rfl⟩,r⟩:=PT l nm h
  simp only [uH,e]
  exact sP Tryz.f267 (by simp [aa,aJ]) r (.inr rfl)
end
section
variable (rs:List Ru)
def bl (a b:ByteArray):Bool:=Op.bytesLess a.toList b.toList
def pF (a:List (ByteArray×Int)) (x:ByteArray×Int):Nat:=(a.takeWhile fun y=>bl y.1 x.1).length
def qT (a:List (ByteArray×Int)) (x:ByteArray×Int):List (ByteArray×Int):=a.take (pF a x)++[x]++a.drop (pF a x)
def pm (a:List (ByteArray×Int)) (x:ByteArray×Int):Option (List (ByteArray×Int)):=if (uH a x.1).2=true then (if (uH a x.1).1.2=x.2 then some a else none) else some (qT a x)
theorem yk (a:List (ByteArray×Int)) (x:ByteArray×Int):pF a x≤a.length:=by
 unfold pF
 exact (List.takeWhile_prefix _).length_le
theorem Lw {a:List (ByteArray×Int)} {x:ByteArray×Int} {i:Nat} {y:ByteArray×Int} (h:a[i]? =some y) (hi:i<pF a x):bl y.1 x.1=true:=by
 unfold pF at hi
 have h1:=List.getElem?_eq_getElem hi
 have h2:(a.takeWhile fun y=>bl y.1 x.1)[i]? =a[i]? :=by
  conv=>rhs;rw [←List.takeWhile_append_dropWhile (p:=fun y=>bl y.1 x.1) (l:=a)]
  rw [List.getElem?_append_left hi]
 rw [h1,h] at h2
 injection h2 with h2
 have h3:=List.getElem_mem hi
 rw [h2] at h3
 have:=List.all_takeWhile (p:=fun y=>bl y.1 x.1) (l:=a)
 exact (List.all_eq_true.1 this) _ h3
theorem Lx {a:List (ByteArray×Int)} {x:ByteArray×Int} {y:ByteArray×Int} (h:a[pF a x]? =some y):bl y.1 x.1=false:=by
 unfold pF at h
 have h2:a[(a.takeWhile fun y=>bl y.1 x.1).length]? =(a.dropWhile fun y=>bl y.1 x.1)[0]? :=by
  have e:=List.takeWhile_append_dropWhile (p:=fun y=>bl y.1 x.1) (l:=a)
  have e2:((a.takeWhile fun y=>bl y.1 x.1)++a.dropWhile fun y=>bl y.1 x.1)[(a.takeWhile fun y=>bl y.1 x.1).length]? =(a.dropWhile fun y=>bl y.1 x.1)[0]? :=by rw [List.getElem?_append_right (Nat.le_refl _),Nat.sub_self]
  rw [e] at e2
  exact e2
 rw [h2] at h
 cases hd:a.dropWhile fun y=>bl y.1 x.1 with
 |nil=>rw [hd] at h;cases h
 |cons c r=>
  rw [hd] at h
  simp at h
  subst h
  have:=List.head?_dropWhile_not (fun y=>bl y.1 x.1) a
  rw [hd] at this
  simpa using this
abbrev jI (d:Nat) (a l out:List (ByteArray×Int)) (i j:Int):St:=⟨[(0,.aF (a.map bV) false),(1,.aF (l.map bV) false),(6,sI i),(9,.aO d out.length),(10,sI j)],[(d,.ao 2 (out.map bV))]⟩
theorem uI {l:List (ByteArray×Int)} {i:Nat} {y:ByteArray×Int} (h:l[i]? =some y):0≤(i:Int)∧(l.map bV)[Int.toNat (i:Int)]? =some (bV y):=⟨by omega,by rw [Int.toNat_natCast,List.getElem?_map,h];rfl⟩
theorem Ly (a l out:List (ByteArray×Int)) (x y:(ByteArray×Int)) (i j:Nat) (hj:j<1000000000000) (ho:out.length<1000000000000) (hja:j<a.length) (hx:0≤(i:Int)∧(l.map bV)[Int.toNat (i:Int)]? =some (bV x)) (hy:0≤(j:Int)∧(a.map bV)[Int.toNat (j:Int)]? =some (bV y)) (hlt:Op.bytesLess y.1.toList x.1.toList=true):En 87 (O Tryz.f232 1) ((jI 1000 a l out i j)) (fun e t=>e= .aj∧t=jI 1000 a l (out++[y]) i ((j+1:Nat):Int)):=by
 exact zs 2000<|zt (d1 bV a j (by omega))<|ze hy<|ze hx<|zt hlt<|ze hy<|zh (rZ 2 24 [.al [.J y.1,sI y.2]] (List.length out) (List.map bV out) (by (refine ⟨by simp,by simp,by intro e he;simp only [List.mem_singleton] at he;subst he;exact ⟨rfl,by simp [AV.ac,cj]⟩,(by intro e he;obtain ⟨x,_,rfl⟩:=List.mem_map.1 he;simp),?_,?_⟩<;>(simp;omega))))<|zh (w1 j (by omega))<|zh (zN (List.map bV out++[.al [.J y.1,sI y.2]]))<|zd (.is true)<|zq (s:=St.mk [(0,.aF (a.map bV) false),(1,.aF (l.map bV) false),(6,sI (i:Int)),(9,.aO 1000 (List.length out+List.length [AV.al [.J y.1,sI y.2]])),(10,sI ((j:Int)+1))] [(1000,.ao 2 (out.map bV++[.al [.J y.1,sI y.2]]))]) ⟨rfl,by simp only [jI,List.map_append,List.length_append];rfl⟩ (tb:=[(2062,.a6 1000 true)])
theorem Lv (a l out:List (ByteArray×Int)) (x y:(ByteArray×Int)) (i j:Nat) (hja:j<a.length) (hx:0≤(i:Int)∧(l.map bV)[Int.toNat (i:Int)]? =some (bV x)) (hy:0≤(j:Int)∧(a.map bV)[Int.toNat (j:Int)]? =some (bV y)) (hlt:Op.bytesLess y.1.toList x.1.toList=false):En 87 (O Tryz.f232 1) ((jI 1000 a l out i j)) (fun e t=>e= .ar 2∧t=jI 1000 a l out i j):=au Tryz.f232 2000
theorem Lt (a l out:List (ByteArray×Int)) (i:Nat):En 87 (O Tryz.f232 1) ((jI 1000 a l out i (a.length:Nat))) (fun e t=>e= .ar 2∧t=jI 1000 a l out i (a.length:Nat)):=au Tryz.f232 2000
theorem Lz (a l out:List (ByteArray×Int)) (y:(ByteArray×Int)) (i j:Nat) (hj:j<1000000000000) (ho:out.length<1000000000000) (hja:j<a.length) (hy:0≤(j:Int)∧(a.map bV)[Int.toNat (j:Int)]? =some (bV y)):En 87 (O Tryz.f232 2) ((jI 2071 a l out i j)) (fun e t=>e= .aj∧t=jI 2071 a l (out++[y]) i ((j+1:Nat):Int)):=by
 exact zs 2000<|zt (d1 bV a j (by omega))<|ze hy<|zh (rZ 2 24 [.al [.J y.1,sI y.2]] (List.length out) (List.map bV out) (by (refine ⟨by simp,by simp,by intro e he;simp only [List.mem_singleton] at he;subst he;exact ⟨rfl,by simp [AV.ac,cj]⟩,(by intro e he;obtain ⟨x,_,rfl⟩:=List.mem_map.1 he;simp),?_,?_⟩<;>(simp;omega))))<|zh (w1 j (by omega))<|zh (zN (List.map bV out++[.al [.J y.1,sI y.2]]))<|zd (.is true)<|zq (s:=St.mk [(0,.aF (a.map bV) false),(1,.aF (l.map bV) false),(6,sI (i:Int)),(9,.aO 2071 (List.length out+List.length [AV.al [.J y.1,sI y.2]])),(10,sI ((j:Int)+1))] [(2071,.ao 2 (out.map bV++[.al [.J y.1,sI y.2]]))]) ⟨rfl,by simp only [jI,List.map_append,List.length_append];rfl⟩ (tb:=[(2082,.a6 2071 true)])
theorem Lu (a l out:List (ByteArray×Int)) (i:Nat):En 87 (O Tryz.f232 2) ((jI 2071 a l out i (a.length:Nat))) (fun e t=>e= .ar 4∧t=⟨[(1,.aF (l.map bV) false),(6,sI i),(9,.aO 2071 out.length)],[(2071,.ao 2 (out.map bV))]⟩):=au Tryz.f232 2000
theorem GR (a l:List (ByteArray×Int)) (x:(ByteArray×Int)) (i:Nat) (hsm:a.length<1000000000000) (hx:0≤(i:Int)∧(l.map bV)[Int.toNat (i:Int)]? =some (bV x)):Lo 87 (O Tryz.f232 1) ⟨[(0,.aF (a.map bV) false),(1,.aF (l.map bV) false),(6,sI i),(9,.ab),(10,sI 0)],[]⟩ (.ar 2) (jI 1000 a l (a.take (pF a x)) (i:Nat) (pF a x:Nat)):=by
 have hm:=yk a x
 have go:∀d j,j+d=pF a x→Lo 87 (O Tryz.f232 1) (jI 1000 a l (a.take j) (i:Nat) (j:Nat)) (.ar 2) (jI 1000 a l (a.take (pF a x)) (i:Nat) (pF a x:Nat)):=by
  intro d
  induction d with
  |zero=>
   intro j hj
   have hj:j=pF a x:=by omega
   subst hj
   by_cases h:pF a x<a.length
   ·have hy:=List.getElem?_eq_getElem h
    obtain ⟨e,t,⟨rfl,rfl⟩,r⟩:=Lv a l (a.take (pF a x)) x _ i (pF a x) h hx (uI hy) (Lx hy)
    exact .bD r (by simp)
   ·have he:pF a x=a.length:=by omega
    rw [he]
    obtain ⟨e,t,⟨rfl,rfl⟩,r⟩:=Lt a l (a.take a.length) i
    exact .bD r (by simp)
  |succ d ih=>
   intro j hj
   have h:j<a.length:=by omega
   have hy:=List.getElem?_eq_getElem h
   obtain ⟨e,t,⟨rfl,rfl⟩,r⟩:=Ly a l (a.take j) x a[j] i j (by omega) (by rw [List.length_take];omega) h hx (uI hy) (Lw hy (by omega))
   have:=ih (j+1) (by omega)
   rw [List.take_succ,hy] at this
   exact .cR r this
 exact (go (pF a x) 0 (by omega)).ez (b5 9 1000 2 rfl rfl)
theorem GS (a l out:List (ByteArray×Int)) (i m:Nat) (hsm:a.length<1000000000000) (hm:m≤a.length) (ho:out.length≤m+1):Lo 87 (O Tryz.f232 2) (jI 2071 a l out (i:Nat) (m:Nat)) (.ar 4) ⟨[(1,.aF (l.map bV) false),(6,sI i),(9,.aO 2071 (out++a.drop m).length)],[(2071,.ao 2 ((out++a.drop m).map bV))]⟩:=by
 have go:∀d j out,j+d=a.length→out.length≤j+1→Lo 87 (O Tryz.f232 2) (jI 2071 a l out (i:Nat) (j:Nat)) (.ar 4) ⟨[(1,.aF (l.map bV) false),(6,sI i),(9,.aO 2071 (out++a.drop j).length)],[(2071,.ao 2 ((out++a.drop j).map bV))]⟩:=by
  intro d
  induction d with
  |zero=>
   intro j out hj _
   have hj:j=a.length:=by omega
   subst hj
   rw [List.drop_length,List.append_nil]
   obtain ⟨e,t,⟨rfl,rfl⟩,r⟩:=Lu a l out i
   exact .bD r (by simp)
  |succ d ih=>
   intro j out hj ho
   have h:j<a.length:=by omega
   obtain ⟨e,t,⟨rfl,rfl⟩,r⟩:=Lz a l out a[j] i j (by omega) (by omega) h (uI (List.getElem?_eq_getElem h))
   have:=ih (j+1) (out++[a[j]]) (by omega) (by rw [List.length_append,List.length_singleton];omega)
   rw [List.append_assoc,List.singleton_append,←List.drop_eq_getElem_cons h] at this
   exact .cR r this
 exact go (a.length-m) m out (by omega) ho
abbrev Bj (a l:List (ByteArray×Int)) (i:Int):St:=⟨[(0,.aF (a.map bV) false),(1,.aF (l.map bV) false),(6,sI i)],[]⟩
abbrev PY:St:=⟨[(4,.ab),(5,.ak false)],[]⟩
theorem GV (a l:List (ByteArray×Int)) (x o:(ByteArray×Int)) (i:Nat) (hil:i<l.length) (hsm:l.length<1000000000000) (hx:0≤(i:Int)∧(l.map bV)[Int.toNat (i:Int)]? =some (bV x)) (PX:Sp 267 [.J x.1,.aF (a.map bV) false] [] (.bC [bV o,.ak true]) []) (hne:(!decide (o.2=x.2))=true):En 87 (O Tryz.f232 0) ((Bj a l i)) (fun e t=>e= .aR∧t=PY):=au Tryz.f232 2000
theorem GW (a l:List (ByteArray×Int)) (x o:(ByteArray×Int)) (i:Nat) (hil:i<l.length) (hsm:l.length<1000000000000) (hx:0≤(i:Int)∧(l.map bV)[Int.toNat (i:Int)]? =some (bV x)) (PX:Sp 267 [.J x.1,.aF (a.map bV) false] [] (.bC [bV o,.ak true]) []) (heq:(!decide (o.2=x.2))=false):En 87 (O Tryz.f232 0) ((Bj a l i)) (fun e t=>e= .aj∧t=Bj a l ((i+1:Nat):Int)):=au Tryz.f232 2000
theorem GU (a l:List (ByteArray×Int)) (x o:(ByteArray×Int)) (i:Nat) (hil:i<l.length) (hsm:l.length<1000000000000) (hx:0≤(i:Int)∧(l.map bV)[Int.toNat (i:Int)]? =some (bV x)) (PX:Sp 267 [.J x.1,.aF (a.map bV) false] [] (.bC [bV o,.ak false]) []) (M M2:List (ByteArray×Int)) (hM:M.length<1000000000000) (l232_1q:Lo 87 (O Tryz.f232 1) ⟨[(0,.aF (a.map bV) false),(1,.aF (l.map bV) false),(6,sI i),(9,.ab),(10,sI 0)],[]⟩ (.ar 2) (jI 1000 a l M (i:Nat) (pF a x:Nat))) (l232_2q:Lo 87 (O Tryz.f232 2) ⟨[(0,.aF (a.map bV) false),(1,.aF (l.map bV) false),(6,sI i),(9,.aO 2071 (M.length+[x].length)),(10,sI (pF a x:Nat))],[(2071,.ao 2 (M.map bV++[bV x]))]⟩ (.ar 4) ⟨[(1,.aF (l.map bV) false),(6,sI i),(9,.aO 2071 M2.length)],[(2071,.ao 2 (M2.map bV))]⟩):En 87 (O Tryz.f232 0) ((Bj a l i)) (fun e t=>e= .aj∧t=Bj M2 l ((i+1:Nat):Int)):=by
 exact zs 2000<|zt (d1 bV l i (by omega))<|ze hx<|zc PX<|zd (.g8 [0,1,6,9,10] [])<|zl l232_1q<|ze hx<|zh (rZ 2 24 [.al [.J x.1,sI x.2]] (List.length M) (List.map bV M) (by (refine ⟨by simp,by simp,by intro e he;simp only [List.mem_singleton] at he;subst he;exact ⟨rfl,by simp [AV.ac,cj]⟩,(by intro e he;obtain ⟨x,_,rfl⟩:=List.mem_map.1 he;simp),?_,?_⟩<;>(simp;omega))))<|zh (zN (List.map bV M++[.al [.J x.1,sI x.2]]))<|zd (.is true)<|zd (.g8 [0,1,6,9,10] [K1 2071])<|zl l232_2q<|zh (w1 i (by omega))<|zh (show List.length M2=List.length (M2.map bV) from by simp)<|zh (zN (M2.map bV))<|zq ⟨rfl,rfl⟩ (tb:=[(2071,.dz)])
theorem bK.Ju {P:Program} {f:FuncId} {args:List AV} {pre upd:List (Nat×Ob)} {cs ds:List AV} (h:bK P f args pre (.bC cs) upd) (k:uF cs ds):bK P f args pre (.bC ds) upd:=by
 intro F S β hp w vs M hl hv hpl hfr
 refine (h F S β hp w vs M hl hv hpl hfr).mono ?_
 rintro e w' ⟨v,S',β',rfl,x,m,q⟩
 exact ⟨v,S',β',rfl,x,m,V.Oj k.kx.1 k.kx.2 q⟩
def Do (a l:List (ByteArray×Int)):List (ByteArray×Int)×Bool:=match l.foldlM pm a with|some b=>(b,true)|none=>([],false)
theorem wz {a b:List (ByteArray×Int)} {x:(ByteArray×Int)} (h:pm a x=some b):b.length≤a.length+1:=by
 unfold pm at h
 split at h
 ·split at h
  ·injection h with h;subst h;omega
  ·cases h
 ·injection h with h;subst h
  simp only [qT,List.length_append,List.length_take,List.length_drop,List.length_singleton]
  have:=yk a x
  omega
theorem P3 (a l:List (ByteArray×Int)) (hsm:a.length+l.length<1000000000000):Sp 232 [.aF (a.map bV) false,.aF (l.map bV) false] [] (.bC [.aF ((Do a l).1.map bV) false,.ak (Do a l).2]) []:=by
 rcases iK (P:=Tryz.prog) (n:=87) (c:=O Tryz.f232 0) (l:=l) (k:=0) (e0:= .aR) (R:=PY) (fun i a=>Bj a l (i:Nat)) (fun a=>⟨[(0,.aF (a.map bV) false)],[]⟩) pm (fun i b=>b.length≤a.length+i) (fun i b y hy hI=>by
  have hi:=(List.getElem?_eq_some_iff.1 hy).1
  have hk:=PX b y.1
  have hx:=uI hy
  unfold pm
  cases h1:(uH b y.1).2 with
  |true=>
   rw [h1] at hk
   by_cases h2:(uH b y.1).1.2=y.2
   ·rw [if_pos rfl,if_pos h2]
    refine ⟨fun h=>(by cases h),fun c hc=> ?_⟩
    injection hc with hc;subst hc
    exact GW b l y _ i hi (by omega) hx hk (by rw [decide_eq_true h2];rfl)
   ·rw [if_pos rfl,if_neg h2]
    refine ⟨fun _=> ?_,fun c hc=>(by cases hc)⟩
    obtain ⟨e,t,⟨rfl,rfl⟩,r⟩:=GV b l y _ i hi (by omega) hx hk (by rw [decide_eq_false h2];rfl)
    exact .bD r (by simp)
  |false=>
   rw [h1] at hk
   rw [if_neg (by simp)]
   refine ⟨fun h=>(by cases h),fun c hc=> ?_⟩
   injection hc with hc;subst hc
   have hm:=yk b y
   have hl2:=GR b l y i (by omega) hx
   have hl4:=GS b l (b.take (pF b y)++[y]) i (pF b y) (by omega) hm (by rw [List.length_append,List.length_take,List.length_singleton];omega)
   refine GU b l y _ i hi (by omega) hx hk (b.take (pF b y)) (qT b y) (by rw [List.length_take];omega) hl2 ?_
   simpa [jI,qT] using hl4) (fun i b y c hy hI hc=>by have:=wz hc;omega) (fun b _=>au Tryz.f232 2000) a (by simp) with ⟨h,e⟩|⟨b,h,e,_⟩
 ·skip
  simp only [Do,e]
  exact bK.Ju ((aK Tryz.f232 2000 87)) (.bz .ab (.bz (.bb _) .iV))
 ·skip
  simp only [Do,e]
  exact aK Tryz.f232 2000 87
abbrev wx:Nat×AV:=(2,.aA 2 0 0)
abbrev GM (rs:List Ru) (a:List (ByteArray×Int)) (b:Bool) (i:Int):St:=⟨[(1,.ab),wx,(6,.aF (a.map bV) false),(7,.ak b),(8,sI i)],[(2,.an [sR rs])]⟩
theorem P4 (a b:List (ByteArray×Int)) (ok:Bool) (y:Ru) (i:Nat) (hi:i<rs.length) (hsm:rs.length<1000000000000) (hb:y.bd.length<2199023255552) (hx:0≤(i:Int)∧(rs.map Ru.av)[Int.toNat (i:Int)]? =some y.av) (P3:Sp 232 [.aF (a.map bV) false,.aF ((sa y.p y.hd y.bd).map bV) false] [] (.bC [.aF (b.map bV) false,.ak ok]) []):En 61 (O Tryz.f194 0) ((GM rs a true i)) (fun e t=>e= .aj∧t=GM rs b ok ((i+1:Nat):Int)):=au Tryz.f194 0
abbrev Ls:List (Nat×AV):=[(1,.ab),wx,(6,.aF [] false),(7,.ak false)]
theorem P0 (i:Nat):En 61 (O Tryz.f194 0) ((GM rs [] false i)) (fun e t=>e= .ar 0∧t=⟨Ls,[(2,.an [sR rs])]⟩):=au Tryz.f194 0
theorem V4 (a:List (ByteArray×Int)) (b:Bool):En 61 (O Tryz.f194 1) ((⟨[(1,.ab),wx,(6,.aF (a.map bV) false),(7,.ak b),(9,sI 0)],[(2,.an [sR rs])]⟩)) (fun e t=>e= .ar 2∧t=⟨[(6,.aF (a.map bV) false),(7,.ak b)],[]⟩):=au Tryz.f194 0
theorem zU (a:List (ByteArray×Int)) (b:Bool):Lo 61 (O Tryz.f194 1) ⟨[(1,.ab),wx,(6,.aF (a.map bV) false),(7,.ak b),(9,sI 0)],[(2,.an [sR rs])]⟩ (.ar 2) ⟨[(6,.aF (a.map bV) false),(7,.ak b)],[]⟩:=by
 obtain ⟨e,t,⟨rfl,rfl⟩,r⟩:=V4 rs a b
 exact .bD r (by simp)
def Bk (a:List (ByteArray×Int)) (r:Ru):Option (List (ByteArray×Int)):=(sa r.p r.hd r.bd).foldlM pm a
def GT (rs:List Ru):Option (List (ByteArray×Int)):=rs.foldlM Bk []
theorem Dp (bd:List Li):∀a:List (ByteArray×Int),(bd.foldl ln a).length≤a.length+bd.length:=by
 induction bd with
 |nil=>intro a;simp
 |cons y r ih=>
  intro a
  rw [List.foldl_cons,List.length_cons]
  have:=ih (ln a y)
  have h2:(ln a y).length≤a.length+1:=by unfold ln;split<;>simp
  omega
theorem wy (p:ByteArray) (hd:List Ar) (bd:List Li):(sa p hd bd).length≤bd.length+1:=by
 have:=Dp bd [(p,(hd.length:Int))]
 simp only [List.length_singleton] at this
 unfold sa
 omega
theorem yj (l:List (ByteArray×Int)):∀{a b:List (ByteArray×Int)},l.foldlM pm a=some b→b.length≤a.length+l.length:=by
 induction l with
 |nil=>intro a b h;simp at h;subst h;simp
 |cons x r ih=>
  intro a b h
  rw [List.foldlM_cons] at h
  cases h1:pm a x with
  |none=>rw [h1] at h;cases h
  |some c=>
   rw [h1] at h
   have:=ih (a:=c) h
   have:=wz h1
   simp only [List.length_cons]
   omega
def sb (rs:List Ru):List (ByteArray×Int)×Int:=match GT rs with|some b=>(b,0)|none=>([],72)
noncomputable def xk (r:Ru):Option Int:=if eD r.p r.hd r.bd=0 then none else some (eD r.p r.hd r.bd)
noncomputable def d7 (rs:List Ru):Int:=match rs.findSome? xk with|some e=>e|none=>(sb rs).2
theorem qU {rs:List Ru} (h:rs.findSome? xk=none):∀r,r∈rs→eD r.p r.hd r.bd=0:=by
 intro r hr
 have:=List.findSome?_eq_none_iff.1 h r hr
 unfold xk at this
 split at this
 ·assumption
 ·cases this
theorem ky {p:ByteArray} {hd:List Ar} {bd:List Li} (h:eD p hd bd=0):ch p hd bd=true∧eQ hd bd=true:=by
 unfold eD at h
 split at h
 ·split at h
  ·exact ⟨by assumption,by assumption⟩
  ·cases h
 ·cases h
abbrev GN:Nat×AV:=(7,.ak true)
theorem P2 (hsm:rs.length<1000000000) (hb:∀r,r∈rs→r.bd.length≤16):Sp 194 [.al [sR rs],.ab] [] (.bC [.aF ((sb rs).1.map bV) false,sI (sb rs).2]) []:=by
 rcases iK (P:=Tryz.prog) (n:=61) (c:=O Tryz.f194 0) (l:=rs) (k:=0) (e0:= .ar 0) (R:=⟨Ls,[(2,.an [sR rs])]⟩) (fun i a=>GM rs a true (i:Nat)) (fun a=>⟨[(1,.ab),wx,(6,.aF (a.map bV) false),GN],[(2,.an [sR rs])]⟩) Bk (fun i b=>b.length≤17*i) (fun i b y hy hI=>by
  have hi:=(List.getElem?_eq_some_iff.1 hy).1
  have hyb:=hb y (List.mem_of_getElem? hy)
  have hst:=wy y.p y.hd y.bd
  have hk:=P3 b (sa y.p y.hd y.bd) (by omega)
  have hx:0≤(i:Int)∧(rs.map Ru.av)[Int.toNat (i:Int)]? =some y.av:=⟨by omega,by rw [Int.toNat_natCast,List.getElem?_map,hy];rfl⟩
  unfold Do at hk
  unfold Bk
  cases h1:(sa y.p y.hd y.bd).foldlM pm b with
  |none=>
   rw [h1] at hk
   refine ⟨fun _=> ?_,fun c hc=>(by cases hc)⟩
   obtain ⟨e,t,⟨rfl,rfl⟩,r⟩:=P4 rs b [] false y i hi (by omega) (by omega) hx hk
   obtain ⟨e,t,⟨rfl,rfl⟩,r2⟩:=P0 rs (i+1)
   exact .cR r (.bD r2 (by simp))
  |some c=>
   rw [h1] at hk
   refine ⟨fun h=>(by cases h),fun d hd=> ?_⟩
   injection hd with hd;subst hd
   exact P4 rs b c true y i hi (by omega) (by omega) hx hk) (fun i b y c hy hI hc=>by
    have:=yj _ hc
    have hst:=wy y.p y.hd y.bd
    have hyb:=hb y (List.mem_of_getElem? hy)
    omega) (fun b _=>au Tryz.f194 0) [] (by simp) with ⟨h,e⟩|⟨b,h,e,_⟩
 ·have y0r:Lo 61 (O Tryz.f194 0) ⟨[(1,.ab),wx,(6,.ab),GN,(8,sI 0)],[(2,.an [sR rs])]⟩ (.ar 0) ⟨Ls,[(2,.an [sR rs])]⟩:=(h.ez (uG 6 rfl))
  have y1r:=(zU rs [] false)
  simp only [sb,GT,e]
  exact bK.Ju ((aK Tryz.f194 0 61)) (.bz .ab (.bz (.bb _) .iV))
 ·have y0r:Lo 61 (O Tryz.f194 0) ⟨[(1,.ab),wx,(6,.ab),GN,(8,sI 0)],[(2,.an [sR rs])]⟩ (.ar 0) ⟨[(1,.ab),wx,(6,.aF (b.map bV) false),GN],[(2,.an [sR rs])]⟩:=(h.ez (uG 6 rfl))
  have o1r:=zU rs b true
  simp only [sb,GT,e]
  exact aK Tryz.f194 0 61
abbrev yi (rs:List Ru) (i:Int):St:=⟨[(0,sR rs),(1,.ab),(5,sI i)],[]⟩
attribute [local simp,local grind] xk in
theorem GP (hsm:rs.length≤9223372036854775807):(∃rn:Int,Lo 44 (O Tryz.f149 0) (yi rs 0) .aR ⟨[(4,sI rn)],[]⟩∧rs.findSome? xk=some rn)∨(Lo 44 (O Tryz.f149 0) (yi rs 0) (.ar 0) ⟨[(0,sR rs),(1,.ab)],[]⟩∧rs.findSome? xk=none):=
 bN (fun i=>yi rs (i:Nat)) _ (fun rn:Int=>⟨[(4,sI rn)],[]⟩) xk (fun i hi=>aZ Tryz.f149 0 [0,1,5] [4]) (au Tryz.f149 0)
theorem V3:En 44 (O Tryz.f149 1) ((⟨[(0,sR rs),(1,.ab),(7,sI 0)],[]⟩)) (fun e t=>e= .ar 2∧t=⟨[(0,sR rs),(1,.ab)],[]⟩):=au Tryz.f149 0
theorem GQ:Lo 44 (O Tryz.f149 1) ⟨[(0,sR rs),(1,.ab),(7,sI 0)],[]⟩ (.ar 2) ⟨[(0,sR rs),(1,.ab)],[]⟩:=by
 obtain ⟨e,t,⟨rfl,rfl⟩,r⟩:=V3 rs
 exact .bD r (by simp)
theorem PZ (hsm:rs.length<1000000000):En 44 (ai Tryz.f149) (⟨[(0,sR rs),(1,.ab)],[]⟩) (fun eo so=>eo= .aR∧∃rn:Int,so=⟨[(4,sI rn)],[]⟩∧rn=d7 rs):=by
 refine z0<|zd (.g8 [0,1,5] [])<|?_
 rcases GP (rs) (by omega) with o0|o0
 ·obtain ⟨y1,⟨hl2,hl2'⟩⟩:=o0
  exact zl hl2<|zq ⟨rfl,y1,rfl,by first|(rw [d7,show rs.findSome? xk=none from by assumption])|(simp_all [d7];done)⟩
 ·obtain ⟨hl1,hl1'⟩:=o0
  have hl2:=GQ rs
  exact zl hl1<|zd (.g8 [0,1,7] [])<|zl hl2<|zh (P2 rs (by assumption) (by (intro r hr;have h9:=fF (ky (qU (by assumption) _ hr)).1;omega)))<|zd (.dO (.bC [.aF (List.map bV (sb rs).1) false,sI (sb rs).2]) [] [])<|zq ⟨rfl,(sb rs).2,rfl,by first|(rw [d7,show rs.findSome? xk=none from by assumption])|(simp_all [d7];done)⟩
theorem P1 (hsm:rs.length<1000000000):Sp 149 [sR rs,.ab] [] (sI (d7 rs)) []:=by
 obtain ⟨_,_,⟨rfl,_,rfl,rfl⟩,h⟩:=PZ rs hsm
 exact sP Tryz.f149 (by simp [aa,aJ]) h (.inr rfl)
end
end Go.Ped
