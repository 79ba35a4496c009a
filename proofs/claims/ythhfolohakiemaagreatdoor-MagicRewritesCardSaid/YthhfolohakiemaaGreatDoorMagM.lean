/- What the functions of the packages term and check answer is proved for every input. -/
import Derived.Test.YthhfolohakiemaaGreatDoorMagI
import Derived.Test.YthhfolohakiemaaGreatDoorMagL
set_option linter.all false
set_option maxRecDepth 20000
set_option maxHeartbeats 800000
namespace Go.Ped
open Go.RowKit Go.Proofs
section
variable (rs:List Ru) (p:ByteArray) (i0:Nat) (hd:List Ar) (es:List Ed) (bd:List Li) (h:List ByteArray) (r:Ru) (l:List ByteArray) (s:ByteArray)
def oz (b:Bool) (y:Li):Bool:=b||(decide (y.k=3)&&(!decide (y.l.op=0)|| !decide (y.r.op=0)))
noncomputable def jJ (p:ByteArray) (hd:List Ar) (bd:List Li):Bool:=decide (eD p hd bd=0)&&bd.foldl oz false&& !bT (ay (hd.map Ar.t)) (iN bd)
theorem bK.Dq {P:Program} {f:FuncId} {args args':List AV} {pre upd:List (Nat×Ob)} {r:AV} (h:bK P f args pre r upd) (k:uF args' args):bK P f args' pre r upd:=h.Z8 k.kx.1 k.kx.2
theorem P' (h:hd.length<2199023255552):Sp 160 [.al [.J ⟨#[]⟩,sA hd,.ab]] [] (sS (ay (hd.map Ar.t))) []:=by
 have:=zF ⟨#[]⟩ hd [] (by simp [az];omega)
 simp only [az,List.flatMap_nil,List.append_nil,List.map_nil] at this
 exact this.Dq (.bz (uF.al (.bz (.bb _) (.bz (.bb _) (.bz .ab .iV)))) .iV)
@[reducible,instance] def V5 (hd:List Ar):=kF (P' hd)
theorem Qb (m:List ByteArray) (id n:Nat) (hn:n=m.length):Sp 229 [sS l,.aO id n] [(id,.ao 1 (m.map .J))] (.ak (bT l m)) []:=
 bK.fi (C9 l m) [(id,.ao 1 (m.map .J))] rfl (by simp [dl]) (by simp [bW,dB,dK,eX,ae]) (by simp [cu,el,dK,eX,ae,hn]) rfl
theorem Qd (id n:Nat) (hn:n=l.length):Sp 240 [.aO id n,.J s] [(id,.ao 1 (l.map .J))] (.ak (bq s l)) []:=
 bK.fi (zL l s) [(id,.ao 1 (l.map .J))] rfl (by simp [dl]) (by simp [bW,dB,dK,eX,ae]) (by simp [cu,el,dK,eX,ae,hn]) rfl
def eT (s:ByteArray) (a:Bool×List ByteArray) (y:ByteArray):Bool×List ByteArray:=if a.1=false∧Op.bytesLess s.toList y.toList=true then (true,a.2++[s]++[y]) else (a.1,a.2++[y])
def nj (l:List ByteArray) (s:ByteArray):List ByteArray:=if bq s l=true then l else if (l.foldl (eT s) (false,[])).1=true then (l.foldl (eT s) (false,[])).2 else (l.foldl (eT s) (false,[])).2++[s]
def nk (a:List ByteArray) (y:Li):List ByteArray:=if y.k=1∨y.k=2 then nj a y.p else a
def q7 (a:List ByteArray) (r:Ru):List ByteArray:=r.bd.foldl nk (nj a r.p)
noncomputable def Dv (r:Ru) (y:Li):Int:=if y.k=2 then 2 else if im r.hd=true then 3 else if jJ r.p r.hd r.bd=true then 4 else 1
noncomputable def fG (r:Ru) (i0:Nat) (a:List Ed) (y:Li):List Ed:=if y.k=1∨y.k=2 then a++[⟨r.p,y.p,Dv r y,(i0:Int)⟩] else a
abbrev ex:Nat×AV:=(1,.aA 2001 0 0)
abbrev kz (p:ByteArray) (hd:List Ar) (bd:List Li) (a:Bool) (i:Int):St:=⟨[ex,(3,.ak a),(4,sI i)],[(2001,.an [.J p,sA hd,sL bd])]⟩
theorem Dz (hsm:bd.length≤9223372036854775807) (i:Nat) (hi:i<bd.length) (hI:True):En 57 (O Tryz.f197 0) ((kz p hd bd true (i:Nat))) (fun eo so=>eo= .aj∧∃y,bd[i]? =some y∧so=kz p hd bd (oz true y) ((i+1:Nat):Int)):=by
 exact zs 2000<|zt (d1 Li.av bd i (by omega))<|zh (w1 i (by omega))<|zh rT<|zq (s:=St.mk [ex,(3,.ak true),(4,sI ((i:Int)+1))] [(2001,.an [.J p,sA hd,sL bd])]) ⟨rfl,_,(by first|exact hm0|exact List.getElem?_eq_getElem hi),by (simp_all [oz])⟩
attribute [local simp,local grind] oz in
theorem DA (hsm:bd.length≤9223372036854775807) (i:Nat) (hi:i<bd.length) (hI:True):En 57 (O Tryz.f197 0) ((kz p hd bd false (i:Nat))) (fun eo so=>eo= .aj∧∃y,bd[i]? =some y∧so=kz p hd bd (oz false y) ((i+1:Nat):Int)):=au Tryz.f197 2000
theorem G' (hsm:bd.length≤9223372036854775807) (a:Bool) (i:Nat) (hi:i<bd.length) (hI:True):En 57 (O Tryz.f197 0) (kz p hd bd a (i:Nat)) (fun eo so=>eo= .aj∧∃y,bd[i]? =some y∧so=kz p hd bd (oz a y) ((i+1:Nat):Int)):=by
 match a,hI with
 |true,hI=>exact Dz p hd bd hsm i hi hI
 |false,hI=>exact DA p hd bd hsm i hi hI
theorem G4 (hsm:bd.length≤9223372036854775807) (a0:Bool) (h0:True):Lo 57 (O Tryz.f197 0) (kz p hd bd a0 0) (.ar 0) ⟨[ex,(3,.ak (bd.foldl oz a0))],[(2001,.an [.J p,sA hd,sL bd])]⟩:=
 (be (l:=bd) (fun i a=>kz p hd bd a (i:Nat)) (fun a=>⟨[ex,(3,.ak a)],[(2001,.an [.J p,sA hd,sL bd])]⟩) oz (fun i a=>True) (fun i a hi hI=>G' p hd bd hsm a i hi hI) (fun i a y hy hI=>by trivial) (fun a hI=>au Tryz.f197 2000) a0 h0).1
abbrev mt (s:ByteArray) (l:List ByteArray) (a:Bool×List ByteArray) (i:Int):St:=⟨[(0,sS l),(1,.J s),(5,.aO 1000 a.2.length),(6,.ak a.1),(7,sI i)],[(1000,.ao 1 (a.2.map .J))]⟩
attribute [local simp,local grind] eT in
theorem DB (l:List ByteArray) (hsm:l.length<1000000000000) (a2:List ByteArray) (i:Nat) (hi:i<l.length) (hI:a2.length≤2*i):En 46 (O Tryz.f234 0) ((mt s l (true,a2) (i:Nat))) (fun eo so=>eo= .aj∧∃y,l[i]? =some y∧so=mt s l ((eT s) (true,a2) y) ((i+1:Nat):Int)):=au Tryz.f234 2000
abbrev Dr:Nat×AV:=(6,.ak false)
theorem DC (l:List ByteArray) (hsm:l.length<1000000000000) (a2:List ByteArray) (i:Nat) (hi:i<l.length) (hI:a2.length≤2*i):En 46 (O Tryz.f234 0) ((mt s l (false,a2) (i:Nat))) (fun eo so=>eo= .aj∧∃y,l[i]? =some y∧so=mt s l ((eT s) (false,a2) y) ((i+1:Nat):Int)):=by
 obtain ⟨x0,hm0,hx0⟩:=dC AV.J (l:=l) (n:=(↑i:Int)) (by omega) (by omega)
 have u0:decide ((↑i:Int)<(↑(List.length (List.map AV.J l)):Int))=true:=by simp;omega
 have u1:IntKind.wrap .i64 ((↑i:Int)+1)=(↑i:Int)+1:=bA (by omega) (by omega)
 exact zs 2000<|zt u0<|ze hx0<|zb (Op.bytesLess (ByteArray.toList s) (ByteArray.toList x0)) (fun h1=>zh (rZ 1 16 [.J s] (List.length a2) (List.map AV.J a2))<|zd (.is true)<|ze hx0<|zh (rZ 1 16 [.J x0] (List.length a2+List.length [AV.J s]) (List.map AV.J a2++[.J s]) (by (refine ⟨by simp,by simp,(by intro e he;simp only [List.mem_singleton] at he;subst he;exact ⟨rfl,by simp [AV.ac,cj]⟩),(by intro e he;simp only [List.mem_append,List.mem_singleton,List.mem_map] at he;first|(rcases he with ⟨y,_,rfl⟩|rfl<;>exact ⟨rfl,by simp [AV.ac,cj]⟩)|(obtain ⟨y,_,rfl⟩:=he;exact ⟨rfl,by simp [AV.ac,cj]⟩)),?_,?_⟩<;>(simp;omega))))<|zh u1<|zh (zN (List.map AV.J a2++[.J s]++[.J x0]))<|zd (.is true)<|zq (s:=St.mk [(0,sS l),(1,AV.J s),(5,.aO 1000 (List.length a2+List.length [AV.J s]+List.length [AV.J x0])),(6,.ak true),(7,sI ((i:Int)+1))] [(1000,.ao 1 (a2.map AV.J++[.J s]++[.J x0]))]) ⟨rfl,_,(by first|exact hm0|exact List.getElem?_eq_getElem hi),by (simp_all [eT])⟩ (tb:=[(2038,.a6 1000 true)])) fun h1=>ze hx0<|zh (rZ 1 16 [.J x0] (List.length a2) (List.map AV.J a2))<|zh u1<|zh (zN (List.map AV.J a2++[.J x0]))<|zd (.is true)<|zq (s:=St.mk [(0,sS l),(1,AV.J s),(5,.aO 1000 (List.length a2+List.length [AV.J x0])),Dr,(7,sI ((i:Int)+1))] [(1000,.ao 1 (a2.map AV.J++[.J x0]))]) ⟨rfl,_,(by first|exact hm0|exact List.getElem?_eq_getElem hi),by (simp_all [eT])⟩ (tb:=[(2038,.a6 1000 true)])
theorem Hb (l:List ByteArray) (hsm:l.length<1000000000000) (a:Bool×List ByteArray) (i:Nat) (hi:i<l.length) (hI:a.2.length≤2*i):En 46 (O Tryz.f234 0) (mt s l a (i:Nat)) (fun eo so=>eo= .aj∧∃y,l[i]? =some y∧so=mt s l ((eT s) a y) ((i+1:Nat):Int)):=by
 match a,hI with
 |(true,a2),hI=>exact DB s l hsm a2 i hi hI
 |(false,a2),hI=>exact DC s l hsm a2 i hi hI
theorem G6 (l:List ByteArray) (hsm:l.length<1000000000000):Lo 46 (O Tryz.f234 0) ⟨[(0,sS l),(1,.J s),(5,.ab),Dr,(7,sI 0)],[]⟩ (.ar 0) ⟨[(1,.J s),(5,.aO 1000 (l.foldl (eT s) (false,[])).2.length),(6,.ak (l.foldl (eT s) (false,[])).1)],[(1000,.ao 1 ((l.foldl (eT s) (false,[])).2.map .J))]⟩:=
 (be (l:=l) (fun i a=>mt s l a (i:Nat)) (fun a=>⟨[(1,.J s),(5,.aO 1000 a.2.length),(6,.ak a.1)],[(1000,.ao 1 (a.2.map .J))]⟩) (eT s) (fun i a=>a.2.length≤2*i) (fun i a hi hI=>Hb s l hsm a i hi hI) (fun i a y hy hI=>by (unfold eT;split<;>simp only [List.length_append,List.length_singleton]<;>omega)) (fun a hI=>au Tryz.f234 2000) (false,[]) (by simp<;>assumption)).1.ez (b5 5 1000 1 rfl rfl)
theorem P7 (zL:Sp 240 [sS l,.J s] [] (.ak true) []):En 46 (ai Tryz.f234) (⟨[(0,sS l),(1,.J s)],[]⟩) (fun eo so=>eo= .aR∧so=⟨[(4,sS l)],[]⟩):=au Tryz.f234 2000
theorem P8 (M:List ByteArray) (hM:M.length<1000000000000) (zL:Sp 240 [sS l,.J s] [] (.ak false) []) (l234_0q:Lo 46 (O Tryz.f234 0) ⟨[(0,sS l),(1,.J s),(5,.ab),Dr,(7,sI 0)],[]⟩ (.ar 0) ⟨[(1,.J s),(5,.aO 1000 M.length),(6,.ak true)],[(1000,.ao 1 (M.map .J))]⟩):En 46 (ai Tryz.f234) (⟨[(0,sS l),(1,.J s)],[]⟩) (fun eo so=>eo= .aR∧so=⟨[(4,sS (M))],[]⟩):=by
 have o0:=l234_0q
 exact au Tryz.f234 2000
theorem P6 (M:List ByteArray) (hM:M.length<1000000000000) (zL:Sp 240 [sS l,.J s] [] (.ak false) []) (l234_0q:Lo 46 (O Tryz.f234 0) ⟨[(0,sS l),(1,.J s),(5,.ab),Dr,(7,sI 0)],[]⟩ (.ar 0) ⟨[(1,.J s),(5,.aO 1000 M.length),Dr],[(1000,.ao 1 (M.map .J))]⟩):En 46 (ai Tryz.f234) (⟨[(0,sS l),(1,.J s)],[]⟩) (fun eo so=>eo= .aR∧so=⟨[(4,sS (M++[s]))],[]⟩):=by
 have o0:=l234_0q
 exact au Tryz.f234 2000
theorem Jv:Sp 197 [.al [.J p,sA hd,sL bd]] [] (.ak (jJ p hd bd)) []:=by
 refine bK.dY (bd.map Li.av) ⟨_,List.mem_cons_self ..,false,.inr ⟨_,rfl,by simp⟩⟩ fun hk=> ?_
 by_cases h:eD p hd bd=0
 ·have h9:=fF (ky h).1
  have hl:=G4 p hd bd (by simpa [maxLen] using hk) false trivial
  unfold jJ
  cases hM:bd.foldl oz false with
  |true=>
   rw [hM] at hl
   have y0r:hd.length<2199023255552:=(by omega)
   have y1r:(az bd).length<2199023255552:=(by omega)
   have y2r:(!decide (eD p hd bd=0))=false:=(by rw [decide_eq_true h];rfl)
   have o1r:=Qb (ay (List.map Ar.t hd)) (iN bd) (1236) (List.length (iN bd))
   rw [decide_eq_true h]
   exact aK Tryz.f197 2000 57
  |false=>
   rw [hM] at hl
   have y0r:hd.length<2199023255552:=(by omega)
   have y1r:(az bd).length<2199023255552:=(by omega)
   have y2r:(!decide (eD p hd bd=0))=false:=(by rw [decide_eq_true h];rfl)
   rw [decide_eq_true h]
   exact aK Tryz.f197 2000 57
 ·have y0r:(!decide (eD p hd bd=0))=true:=(by rw [decide_eq_false h];rfl)
  unfold jJ
  rw [decide_eq_false h]
  exact aK Tryz.f197 2000 57
@[reducible,instance] def V6 (p:ByteArray) (hd:List Ar) (bd:List Li):=kT (Jv p hd bd)
theorem Dy (l:List ByteArray):∀a,(l.foldl (eT s) a).2.length≤a.2.length+2*l.length:=by
 induction l with
 |nil=>intro a;simp
 |cons y r ih=>
  intro a
  rw [List.foldl_cons,List.length_cons]
  have:=ih (eT s a y)
  have h2:(eT s a y).2.length≤a.2.length+2:=by unfold eT;split<;>simp
  omega
theorem Dx (l:List ByteArray):∀a:Bool×List ByteArray,(l.foldl (eT s) a).2.length+(if a.1=true then 1 else 0)=a.2.length+l.length+(if (l.foldl (eT s) a).1=true then 1 else 0):=by
 induction l with
 |nil=>intro a;rfl
 |cons y r ih=>
  intro a
  rw [List.foldl_cons,List.length_cons]
  have:=ih (eT s a y)
  unfold eT at this⊢
  split at this
  ·rename_i h
   rw [if_pos h] at*
   simp only [List.length_append,List.length_singleton,h.1,if_true] at this⊢
   simp at this⊢
   omega
  ·rename_i h
   rw [if_neg h] at*
   simp only [List.length_append,List.length_singleton] at this⊢
   omega
theorem kA:(nj l s).length≤l.length+1:=by
 have:=Dx s l (false,[])
 unfold nj
 split
 ·omega
 ·split
  ·rename_i h;rw [if_pos h] at this;simp at this;omega
  ·rename_i h;rw [if_neg h] at this;simp at this;simp;omega
theorem Jx (h:l.length<400000000000):Sp 234 [sS l,.J s] [] (sS (nj l s)) []:=by
 have hc:=Dy s l (false,[])
 simp only [List.length_nil] at hc
 have hl:=G6 s l (by omega)
 cases hin:bq s l with
 |true=>
  obtain ⟨_,_,⟨rfl,rfl⟩,r⟩:=P7 l s (by have:=zL l s;rwa [hin] at this)
  unfold nj
  rw [if_pos hin]
  exact sP Tryz.f234 (by simp [aa,aJ]) r (.inr rfl)
 |false=>
  unfold nj
  rw [if_neg (by rw [hin];simp)]
  cases hd:(l.foldl (eT s) (false,[])).1 with
  |true=>
   rw [hd] at hl
   obtain ⟨_,_,⟨rfl,rfl⟩,r⟩:=P8 l s _ (by omega) (by have:=zL l s;rwa [hin] at this) hl
   rw [if_pos rfl]
   exact sP Tryz.f234 (by simp [aa,aJ]) r (.inr rfl)
  |false=>
   rw [hd] at hl
   obtain ⟨_,_,⟨rfl,rfl⟩,r⟩:=P6 l s _ (by omega) (by have:=zL l s;rwa [hin] at this) hl
   rw [if_neg (by simp)]
   exact sP Tryz.f234 (by simp [aa,aJ]) r (.inr rfl)
@[reducible,instance] def V7 (l:List ByteArray) (s:ByteArray):=kF (Jx l s)
theorem wB (l:List Li):∀a:List ByteArray,(l.foldl nk a).length≤a.length+l.length:=by
 induction l with
 |nil=>intro a;simp
 |cons y r ih=>
  intro a
  rw [List.foldl_cons,List.length_cons]
  have:=ih (nk a y)
  have h2:(nk a y).length≤a.length+1:=by
   unfold nk;split
   ·exact kA a y.p
   ·omega
  omega
theorem qZ (r0:Ru) (i0:Nat) (l:List Li):∀a:List Ed,(l.foldl (fG r0 i0) a).length≤a.length+l.length:=by
 induction l with
 |nil=>intro a;simp
 |cons y r ih=>
  intro a
  rw [List.foldl_cons,List.length_cons]
  have:=ih (fG r0 i0 a y)
  have h2:(fG r0 i0 a y).length≤a.length+1:=by unfold fG;split<;>simp
  omega
theorem gq {r:Ru} {i0:Nat} {a:List Ed} {y:Li} (h:(decide (y.k=1)||decide (y.k=2))=false):fG r i0 a y=a:=if_neg (by simpa using h)
theorem kB {r:Ru} {i0:Nat} {a:List Ed} {y:Li} (h:decide (y.k=2)=true):fG r i0 a y=a++[⟨r.p,y.p,2,(i0:Int)⟩]:=by
 have h:=of_decide_eq_true h
 unfold fG Dv;rw [if_pos (.inr h),if_pos h]
theorem uK {r:Ru} {i0:Nat} {a:List Ed} {y:Li} (h:(decide (y.k=1)||decide (y.k=2))=true) (h2:decide (y.k=2)=false) (h3:im r.hd=true):fG r i0 a y=a++[⟨r.p,y.p,3,(i0:Int)⟩]:=by
 unfold fG Dv;rw [if_pos (by simpa using h),if_neg (of_decide_eq_false h2),if_pos h3]
theorem Dw {r:Ru} {i0:Nat} {a:List Ed} {y:Li} (h:(decide (y.k=1)||decide (y.k=2))=true) (h2:decide (y.k=2)=false) (h3:im r.hd=false) (h4:jJ r.p r.hd r.bd=true):fG r i0 a y=a++[⟨r.p,y.p,4,(i0:Int)⟩]:=by
 unfold fG Dv;rw [if_pos (by simpa using h),if_neg (of_decide_eq_false h2),if_neg (by rw [h3];simp),if_pos h4]
theorem LD {r:Ru} {i0:Nat} {a:List Ed} {y:Li} (h:(decide (y.k=1)||decide (y.k=2))=true) (h2:decide (y.k=2)=false) (h3:im r.hd=false) (h4:jJ r.p r.hd r.bd=false):fG r i0 a y=a++[⟨r.p,y.p,1,(i0:Int)⟩]:=by
 unfold fG Dv;rw [if_pos (by simpa using h),if_neg (of_decide_eq_false h2),if_neg (by rw [h3];simp),if_neg (by rw [h4];simp)]
abbrev zV (rs:List Ru) (i0:Nat) (a:List ByteArray) (i:Int):St:=⟨[ex,(3,sS a),(4,sI i0),(5,sI i)],[(2001,.an [sR rs])]⟩
attribute [local simp,local grind] nk in
theorem Dt (hr:0≤(i0:Int)∧(rs.map Ru.av)[Int.toNat (i0:Int)]? =some r.av) (hsm:r.bd.length≤1000) (a0:List ByteArray) (h0:a0.length<100000000000+0):Lo 56 (O Tryz.f196 1) (zV rs i0 a0 0) (.ar 2) ⟨[ex,(3,sS (r.bd.foldl nk a0)),(4,sI i0)],[(2001,.an [sR rs])]⟩:=
 (be (l:=r.bd) (fun i a=>zV rs i0 a (i:Nat)) (fun a=>⟨[ex,(3,sS a),(4,sI i0)],[(2001,.an [sR rs])]⟩) nk (fun i a=>a.length<100000000000+i) (fun i a hi hI=>au Tryz.f196 2000) (fun i a y hy hI=>by (have:=kA a y.p;unfold nk;split<;>omega)) (fun a hI=>au Tryz.f196 2000) a0 h0).1
abbrev qX:Nat×AV:=(5,.aA 2005 0 0)
abbrev dR (rs:List Ru) (i0:Nat) (r:Ru) (a:List Ed) (i:Int):St:=⟨[ex,(3,.aO 1000 a.length),(4,sI i0),qX,(6,sI i)],[(2001,.an [sR rs]),(2005,.an [.J r.p,sA r.hd,sL r.bd]),(1000,.ao 4 (a.map Ed.av))]⟩
theorem DD (hsm:r.bd.length≤1000) (a:List Ed) (i:Nat) (hi:i<r.bd.length) (hI:a.length<100000000000+i):En 64 (O Tryz.f238 1) ((dR rs i0 r a (i:Nat))) (fun eo so=>eo= .aj∧∃y,r.bd[i]? =some y∧so=dR rs i0 r ((fG r i0) a y) ((i+1:Nat):Int)):=by
 obtain ⟨x0,hm0,hx0⟩:=dC Li.av (l:=r.3) (n:=(↑i:Int)) (by omega) (by omega)
 have hs1:=Jp x0
 have u0:decide ((↑i:Int)<(↑(List.length (List.map Li.av (Ru.bd r))):Int))=true:=by simp;omega
 have u2:IntKind.wrap .i64 ((↑i:Int)+1)=(↑i:Int)+1:=bA (by omega) (by omega)
 refine zs 2000<|zt u0<|ze hx0<|zc hs1<|?_
 cases hb2:decide (Li.k x0=1)||decide (Li.k x0=2) with
 |true=>
  rw [hb2] at hs1
  have hs3:=Jv r.1 r.2 r.3
  have u1:=rZ 4 48 [.al [.J r.1,.J x0.2,sJ 2,sI (↑i0:Int)]] (List.length a) (List.map Ed.av a)
  have u3:=zN (List.map Ed.av a++[.al [.J r.1,.J x0.2,sJ 2,sI (↑i0:Int)]])
  have u4:=rZ 4 48 [.al [.J r.1,.J x0.2,sJ 3,sI (↑i0:Int)]] (List.length a) (List.map Ed.av a)
  have u5:=zN (List.map Ed.av a++[.al [.J r.1,.J x0.2,sJ 3,sI (↑i0:Int)]])
  refine ze hx0<|zc hs3<|?_
  cases hb4:jJ r.1 r.2 r.3 with
  |true=>
   rw [hb4] at hs3
   have hs5:=Df r.1 r.2 r.3
   refine zc hs5<|ze hx0<|?_
   cases hb6:im r.2 with
   |true=>
    rw [hb6] at hs5
    exact zB (Li.k x0=2) (fun h7=>zh u1<|zh u2<|zt rT<|zh rT<|zh u3<|zq (s:=St.mk [ex,(3,.aO 1000 (List.length a+List.length [AV.al [.J r.1,.J x0.2,sJ 2,sI (i0:Int)]])),(4,sI (i0:Int)),qX,(6,sI ((i:Int)+1))] [(2001,.an [sR rs]),(2005,.an [.J r.1,sA r.2,sL r.3]),(1000,.ao 4 (a.map Ed.av++[.al [.J r.1,.J x0.2,sJ 2,sI (i0:Int)]]))]) ⟨rfl,_,hm0,by ((first|rw [gq hb2]|rw [kB h7]|rw [uK hb2 h7 hb6]|rw [Dw hb2 h7 hb6 hb4]|rw [LD hb2 h7 hb6 hb4]);(first|(simp only [dR,List.map_append,List.length_append];rfl)|rfl))⟩ (tb:=[K1 2001,K1 2005,(2062,.a6 1000 true)])) fun h7=>zh u4<|zh u2<|zt rT<|zh rT<|zh u5<|zq (s:=St.mk [ex,(3,.aO 1000 (List.length a+List.length [AV.al [.J r.1,.J x0.2,sJ 3,sI (i0:Int)]])),(4,sI (i0:Int)),qX,(6,sI ((i:Int)+1))] [(2001,.an [sR rs]),(2005,.an [.J r.1,sA r.2,sL r.3]),(1000,.ao 4 (a.map Ed.av++[.al [.J r.1,.J x0.2,sJ 3,sI (i0:Int)]]))]) ⟨rfl,_,hm0,by ((first|rw [gq hb2]|rw [kB h7]|rw [uK hb2 h7 hb6]|rw [Dw hb2 h7 hb6 hb4]|rw [LD hb2 h7 hb6 hb4]);(first|(simp only [dR,List.map_append,List.length_append];rfl)|rfl))⟩ (tb:=[K1 2001,K1 2005,(2062,.a6 1000 true)])
   |false=>
    rw [hb6] at hs5
    exact zB (Li.k x0=2) (fun h7=>zh u1<|zh u2<|zt rT<|zh rT<|zh u3<|zq (s:=St.mk [ex,(3,.aO 1000 (List.length a+List.length [AV.al [.J r.1,.J x0.2,sJ 2,sI (i0:Int)]])),(4,sI (i0:Int)),qX,(6,sI ((i:Int)+1))] [(2001,.an [sR rs]),(2005,.an [.J r.1,sA r.2,sL r.3]),(1000,.ao 4 (a.map Ed.av++[.al [.J r.1,.J x0.2,sJ 2,sI (i0:Int)]]))]) ⟨rfl,_,hm0,by ((first|rw [gq hb2]|rw [kB h7]|rw [uK hb2 h7 hb6]|rw [Dw hb2 h7 hb6 hb4]|rw [LD hb2 h7 hb6 hb4]);(first|(simp only [dR,List.map_append,List.length_append];rfl)|rfl))⟩ (tb:=[K1 2001,K1 2005,(2062,.a6 1000 true)])) fun h7=>zh (rZ 4 48 [.al [.J r.1,.J x0.2,sJ 4,sI (i0:Int)]] (List.length a) (List.map Ed.av a))<|zh u2<|zt rT<|zh rT<|zh (zN (List.map Ed.av a++[.al [.J r.1,.J x0.2,sJ 4,sI (i0:Int)]]))<|zq (s:=St.mk [ex,(3,.aO 1000 (List.length a+List.length [AV.al [.J r.1,.J x0.2,sJ 4,sI (i0:Int)]])),(4,sI (i0:Int)),qX,(6,sI ((i:Int)+1))] [(2001,.an [sR rs]),(2005,.an [.J r.1,sA r.2,sL r.3]),(1000,.ao 4 (a.map Ed.av++[.al [.J r.1,.J x0.2,sJ 4,sI (i0:Int)]]))]) ⟨rfl,_,hm0,by ((first|rw [gq hb2]|rw [kB h7]|rw [uK hb2 h7 hb6]|rw [Dw hb2 h7 hb6 hb4]|rw [LD hb2 h7 hb6 hb4]);(first|(simp only [dR,List.map_append,List.length_append];rfl)|rfl))⟩ (tb:=[K1 2001,K1 2005,(2062,.a6 1000 true)])
  |false=>
   rw [hb4] at hs3
   have hs5:=Df r.1 r.2 r.3
   refine zc hs5<|ze hx0<|?_
   cases hb6:im r.2 with
   |true=>
    rw [hb6] at hs5
    exact zB (Li.k x0=2) (fun h7=>zh u1<|zh u2<|zt rT<|zh rT<|zh u3<|zq (s:=St.mk [ex,(3,.aO 1000 (List.length a+List.length [AV.al [.J r.1,.J x0.2,sJ 2,sI (i0:Int)]])),(4,sI (i0:Int)),qX,(6,sI ((i:Int)+1))] [(2001,.an [sR rs]),(2005,.an [.J r.1,sA r.2,sL r.3]),(1000,.ao 4 (a.map Ed.av++[.al [.J r.1,.J x0.2,sJ 2,sI (i0:Int)]]))]) ⟨rfl,_,hm0,by ((first|rw [gq hb2]|rw [kB h7]|rw [uK hb2 h7 hb6]|rw [Dw hb2 h7 hb6 hb4]|rw [LD hb2 h7 hb6 hb4]);(first|(simp only [dR,List.map_append,List.length_append];rfl)|rfl))⟩ (tb:=[K1 2001,K1 2005,(2062,.a6 1000 true)])) fun h7=>zh u4<|zh u2<|zt rT<|zh rT<|zh u5<|zq (s:=St.mk [ex,(3,.aO 1000 (List.length a+List.length [AV.al [.J r.1,.J x0.2,sJ 3,sI (i0:Int)]])),(4,sI (i0:Int)),qX,(6,sI ((i:Int)+1))] [(2001,.an [sR rs]),(2005,.an [.J r.1,sA r.2,sL r.3]),(1000,.ao 4 (a.map Ed.av++[.al [.J r.1,.J x0.2,sJ 3,sI (i0:Int)]]))]) ⟨rfl,_,hm0,by ((first|rw [gq hb2]|rw [kB h7]|rw [uK hb2 h7 hb6]|rw [Dw hb2 h7 hb6 hb4]|rw [LD hb2 h7 hb6 hb4]);(first|(simp only [dR,List.map_append,List.length_append];rfl)|rfl))⟩ (tb:=[K1 2001,K1 2005,(2062,.a6 1000 true)])
   |false=>
    rw [hb6] at hs5
    exact zB (Li.k x0=2) (fun h7=>zh u1<|zh u2<|zt rT<|zh rT<|zh u3<|zq (s:=St.mk [ex,(3,.aO 1000 (List.length a+List.length [AV.al [.J r.1,.J x0.2,sJ 2,sI (i0:Int)]])),(4,sI (i0:Int)),qX,(6,sI ((i:Int)+1))] [(2001,.an [sR rs]),(2005,.an [.J r.1,sA r.2,sL r.3]),(1000,.ao 4 (a.map Ed.av++[.al [.J r.1,.J x0.2,sJ 2,sI (i0:Int)]]))]) ⟨rfl,_,hm0,by ((first|rw [gq hb2]|rw [kB h7]|rw [uK hb2 h7 hb6]|rw [Dw hb2 h7 hb6 hb4]|rw [LD hb2 h7 hb6 hb4]);(first|(simp only [dR,List.map_append,List.length_append];rfl)|rfl))⟩ (tb:=[K1 2001,K1 2005,(2062,.a6 1000 true)])) fun h7=>zh (rZ 4 48 [.al [.J r.1,.J x0.2,sJ 1,sI (i0:Int)]] (List.length a) (List.map Ed.av a))<|zh u2<|zt rT<|zh rT<|zh (zN (List.map Ed.av a++[.al [.J r.1,.J x0.2,sJ 1,sI (i0:Int)]]))<|zq (s:=St.mk [ex,(3,.aO 1000 (List.length a+List.length [AV.al [.J r.1,.J x0.2,sJ 1,sI (i0:Int)]])),(4,sI (i0:Int)),qX,(6,sI ((i:Int)+1))] [(2001,.an [sR rs]),(2005,.an [.J r.1,sA r.2,sL r.3]),(1000,.ao 4 (a.map Ed.av++[.al [.J r.1,.J x0.2,sJ 1,sI (i0:Int)]]))]) ⟨rfl,_,hm0,by ((first|rw [gq hb2]|rw [kB h7]|rw [uK hb2 h7 hb6]|rw [Dw hb2 h7 hb6 hb4]|rw [LD hb2 h7 hb6 hb4]);(first|(simp only [dR,List.map_append,List.length_append];rfl)|rfl))⟩ (tb:=[K1 2001,K1 2005,(2062,.a6 1000 true)])
 |false=>
  rw [hb2] at hs1
  exact zh u2<|zh rT<|zh rT<|zh (zN (a.map Ed.av))<|zq (s:=St.mk [ex,(3,.aO 1000 a.length),(4,sI (i0:Int)),qX,(6,sI ((i:Int)+1))] [(2001,.an [sR rs]),(2005,.an [.J r.1,sA r.2,sL r.3]),(1000,.ao 4 (a.map Ed.av))]) ⟨rfl,_,hm0,by ((first|rw [gq hb2]|rw [kB h7]|rw [uK hb2 h7 hb6]|rw [Dw hb2 h7 hb6 hb4]|rw [LD hb2 h7 hb6 hb4]);(first|(simp only [dR,List.map_append,List.length_append];rfl)|rfl))⟩
theorem Ds (hsm:r.bd.length≤1000) (a:List Ed) (hI:a.length<100000000000+r.bd.length):En 64 (O Tryz.f238 1) ((dR rs i0 r a (r.bd.length:Nat))) (fun eo so=>eo= .ar 2∧so=⟨[ex,(3,.aO 1000 a.length),(4,sI i0)],[(2001,.an [sR rs]),(2005,.an [.J r.p,sA r.hd,sL r.bd]),(1000,.ao 4 (a.map Ed.av))]⟩):=au Tryz.f238 2000
theorem Du (hsm:r.bd.length≤1000) (a0:List Ed) (h0:a0.length<100000000000+0):Lo 64 (O Tryz.f238 1) (dR rs i0 r a0 0) (.ar 2) ⟨[ex,(3,.aO 1000 (r.bd.foldl (fG r i0) a0).length),(4,sI i0)],[(2001,.an [sR rs]),(2005,.an [.J r.p,sA r.hd,sL r.bd]),(1000,.ao 4 ((r.bd.foldl (fG r i0) a0).map Ed.av))]⟩:=
 (be (l:=r.bd) (fun i a=>dR rs i0 r a (i:Nat)) (fun a=>⟨[ex,(3,.aO 1000 a.length),(4,sI i0)],[(2001,.an [sR rs]),(2005,.an [.J r.p,sA r.hd,sL r.bd]),(1000,.ao 4 (a.map Ed.av))]⟩) (fG r i0) (fun i a=>a.length<100000000000+i) (fun i a hi hI=>DD rs i0 r hsm a i hi hI) (fun i a y hy hI=>by (have:=qZ r i0 [y] a;simp only [List.foldl_cons,List.foldl_nil,List.length_cons,List.length_nil] at this;omega)) (fun a hI=>Ds rs i0 r hsm a hI) a0 h0).1
theorem G3 (hr:0≤(i0:Int)∧(rs.map Ru.av)[Int.toNat (i0:Int)]? =some r.av) (hsm:r.bd.length≤1000) (a0:List ByteArray) (h:a0.length<100000000000):
 Lo 56 (O Tryz.f196 1) ⟨[ex,(3,sS a0),(4,sI i0),(5,sI 0)],[(2001,.an [sR rs])]⟩ (.ar 2) ⟨[ex,(3,sS (r.bd.foldl nk a0)),(4,sI i0)],[(2001,.an [sR rs])]⟩:=Dt rs i0 r hr hsm a0 (by omega)
theorem G7 (hsm:r.bd.length≤1000) (a0:List Ed) (h:a0.length<100000000000):
 Lo 64 (O Tryz.f238 1) ⟨[ex,(3,.aO 1000 a0.length),(4,sI i0),qX,(6,sI 0)],[(2001,.an [sR rs]),(2005,.an [.J r.p,sA r.hd,sL r.bd]),(1000,.ao 4 (a0.map Ed.av))]⟩ (.ar 2) ⟨[ex,(3,.aO 1000 (r.bd.foldl (fG r i0) a0).length),(4,sI i0)],[(2001,.an [sR rs]),(2005,.an [.J r.p,sA r.hd,sL r.bd]),(1000,.ao 4 ((r.bd.foldl (fG r i0) a0).map Ed.av))]⟩:=Du rs i0 r hsm a0 (by omega)
noncomputable def oy (a:Nat×List Ed) (r:Ru):Nat×List Ed:=(a.1+1,r.bd.foldl (fG r a.1) a.2)
noncomputable def ni (rs:List Ru):List Ed:=(rs.foldl oy (0,[])).2
def gN (h:List ByteArray) (e:Ed):Bool:= !(!decide (e.k=1)&&bq e.t h)
noncomputable def G8 (r:Ru):Bool:= !jJ r.p r.hd r.bd
def wA (rs:List Ru):List ByteArray:=rs.foldl q7 []
def yl (a:List ByteArray) (r:Ru):Option (List ByteArray):=if im r.hd=true then none else some (a++[r.p])
abbrev GZ (a:List ByteArray):List (Nat×Ob):=[(1000,.ao 1 (a.map .J))]
abbrev GY (rs:List Ru) (a:List ByteArray) (i:Int):St:=⟨[(0,sR rs),(3,.aO 1000 a.length),(4,sI i)],(GZ a)⟩
abbrev qV (rs:List Ru) (a:List ByteArray) (i:Int):St:=⟨[ex,(3,sS a),(4,sI i)],[(2001,.an [sR rs])]⟩
theorem G9 (hsm:rs.length<1000000000) (hb:∀r,r∈rs→r.bd.length≤16) (a:List ByteArray) (i:Nat) (hi:i<rs.length) (hI:a.length≤17*i):En 56 (O Tryz.f196 0) ((qV rs a (i:Nat))) (fun eo so=>eo= .aj∧∃y,rs[i]? =some y∧so=qV rs (q7 a y) ((i+1:Nat):Int)):=by
 obtain ⟨x0,hm0,hx0⟩:=dC Ru.av (l:=rs) (n:=(↑i:Int)) (by omega) (by omega)
 exact zs 2000<|zt (d1 Ru.av rs i (by omega))<|ze hx0<|zc (Jx a x0.1 (by omega))<|zh rT<|zh (G3 rs i _ (by assumption) (by (have h9:=hb _ (List.mem_of_getElem? hm0);omega)) (nj a x0.1) (by (have h9:=kA a x0.p;omega)))<|zh (w1 i (by omega))<|zh rT<|zd (.g8 [1,3,4,5] [K1 2001])<|zd (.B3 (.ar 2) [ex,(3,sS (List.foldl nk (nj a x0.1) (Ru.bd ?r))),(4,sI (i:Int))] [(2001,.an [sR rs])])<|zq (s:=St.mk [ex,(3,sS (List.foldl nk (nj a x0.1) ?r.3)),(4,sI ((i:Int)+1))] [(2001,.an [sR rs])]) ⟨rfl,_,hm0,by (simp only [qV,q7];rfl)⟩
theorem G0 (hsm:rs.length<1000000000) (hb:∀r,r∈rs→r.bd.length≤16) (a:List ByteArray) (hI:a.length≤17*rs.length):En 56 (O Tryz.f196 0) ((qV rs a (rs.length:Nat))) (fun eo so=>eo= .ar 0∧so=⟨[(3,sS a)],[(2001,.an [sR rs])]⟩):=au Tryz.f196 2000
theorem zW (hsm:rs.length<1000000000) (hb:∀r,r∈rs→r.bd.length≤16):Lo 56 (O Tryz.f196 0) ⟨[ex,(3,.ab),(4,sI 0)],[(2001,.an [sR rs])]⟩ (.ar 0) ⟨[(3,sS (rs.foldl q7 []))],[(2001,.an [sR rs])]⟩:=
 (be (l:=rs) (fun i a=>qV rs a (i:Nat)) (fun a=>⟨[(3,sS a)],[(2001,.an [sR rs])]⟩) q7 (fun i a=>a.length≤17*i) (fun i a hi hI=>G9 rs hsm hb a i hi hI) (fun i a y hy hI=>by (have:=hb y (List.mem_of_getElem? hy);have h1:=kA a y.p;have h2:=wB y.bd (nj a y.p);unfold q7;omega)) (fun a hI=>G0 rs hsm hb a hI) [] (by simp<;>assumption)).1.ez (uG 3 rfl)
abbrev qW (rs:List Ru) (a:Nat×List Ed) (i:Int):St:=⟨[ex,(3,.aO 1000 a.2.length),(4,sI i)],[(2001,.an [sR rs]),(1000,.ao 4 (a.2.map Ed.av))]⟩
theorem Hc (hsm:rs.length<1000000000) (hb:∀r,r∈rs→r.bd.length≤16) (a:Nat×List Ed) (i:Nat) (hi:i<rs.length) (hI:a.1=i∧a.2.length≤17*i):En 64 (O Tryz.f238 0) ((qW rs a (i:Nat))) (fun eo so=>eo= .aj∧∃y,rs[i]? =some y∧so=qW rs (oy a y) ((i+1:Nat):Int)):=by
 obtain ⟨x0,hm0,hx0⟩:=dC Ru.av (l:=rs) (n:=(↑i:Int)) (by omega) (by omega)
 exact zs 2000<|zt (d1 Ru.av rs i (by omega))<|ze hx0<|zh rT<|zh rT<|zh (zN (List.map Ed.av a.2))<|zh (G7 rs i x0 (by (have h9:=hb _ (List.mem_of_getElem? hm0);omega)) (a.2) (by omega))<|zh (w1 i (by omega))<|zh rT<|zh (zN (List.map Ed.av (List.foldl (fG x0 i) a.2 x0.3)))<|zd (.g8 [1,3,4,5,6] [K1 2001,K1 2005,K1 1000])<|zd (.B3 (.ar 2) [ex,(3,.aO 1000 (List.length (List.foldl (fG x0 i) a.2 (Ru.bd x0)))),(4,sI (i:Int))] [(2001,.an [sR rs]),(2005,.an [.J (Ru.p x0),sA (Ru.hd x0),sL (Ru.bd x0)]),(1000,.ao 4 (List.map Ed.av (List.foldl (fG x0 i) a.2 (Ru.bd x0))))])<|zq (s:=St.mk [ex,(3,.aO 1000 (List.length (List.foldl (fG x0 i) a.2 x0.3))),(4,sI ((i:Int)+1))] [(2001,.an [sR rs]),(1000,.ao 4 (List.map Ed.av (List.foldl (fG x0 i) a.2 x0.3)))]) ⟨rfl,_,hm0,by (simp only [qW,oy,hI.1];rfl)⟩
theorem G2 (hsm:rs.length<1000000000) (hb:∀r,r∈rs→r.bd.length≤16) (a:Nat×List Ed) (hI:a.1=rs.length∧a.2.length≤17*rs.length):En 64 (O Tryz.f238 0) ((qW rs a (rs.length:Nat))) (fun eo so=>eo= .ar 0∧so=⟨[(3,.aO 1000 a.2.length)],[(2001,.an [sR rs]),(1000,.ao 4 (a.2.map Ed.av))]⟩):=au Tryz.f238 2000
theorem zX (hsm:rs.length<1000000000) (hb:∀r,r∈rs→r.bd.length≤16):Lo 64 (O Tryz.f238 0) ⟨[ex,(3,.ab),(4,sI 0)],[(2001,.an [sR rs])]⟩ (.ar 0) ⟨[(3,.aO 1000 (rs.foldl oy (0,[])).2.length)],[(2001,.an [sR rs]),(1000,.ao 4 ((rs.foldl oy (0,[])).2.map Ed.av))]⟩:=
 (be (l:=rs) (fun i a=>qW rs a (i:Nat)) (fun a=>⟨[(3,.aO 1000 a.2.length)],[(2001,.an [sR rs]),(1000,.ao 4 (a.2.map Ed.av))]⟩) oy (fun i a=>a.1=i∧a.2.length≤17*i) (fun i a hi hI=>Hc rs hsm hb a i hi hI) (fun i a y hy hI=>by (have:=hb y (List.mem_of_getElem? hy);have h2:=qZ y a.1 y.bd a.2;unfold oy;simp only;omega)) (fun a hI=>G2 rs hsm hb a hI) (0,[]) (by simp<;>assumption)).1.ez (b5 3 1000 4 rfl rfl)
theorem Qf (a:List ByteArray) (i:Nat) (hi:i<rs.length) (hsm:rs.length<1000000000) (ha:a.length≤i) (r:Ru) (hr:0≤(i:Int)∧(rs.map Ru.av)[Int.toNat (i:Int)]? =some r.av) (Df:Sp 237 [.al [.J r.p,sA r.hd,sL r.bd]] [] (.ak false) []):En 49 (O Tryz.f198 0) ((GY rs a (i:Nat))) (fun e t=>e= .aj∧t=GY rs (a++[r.p]) ((i+1:Nat):Int)):=au Tryz.f198 2000
abbrev LB:St:=⟨[(2,.ak false)],[]⟩
theorem Qe (a:List ByteArray) (i:Nat) (hi:i<rs.length) (hsm:rs.length<1000000000) (r:Ru) (hr:0≤(i:Int)∧(rs.map Ru.av)[Int.toNat (i:Int)]? =some r.av) (Df:Sp 237 [.al [.J r.p,sA r.hd,sL r.bd]] [] (.ak true) []):En 49 (O Tryz.f198 0) ((GY rs a (i:Nat))) (fun e t=>e= .aR∧t=LB):=au Tryz.f198 2000
abbrev ox (es:List Ed) (h:List ByteArray) (i:Int):St:=⟨[(3,.aO 1000 h.length),(5,.aF (es.map Ed.av) false),(6,sI i)],[(1000,.ao 1 (h.map .J))]⟩
abbrev LC (rb:Bool):St:=⟨[(2,.ak rb)],[(1000,.ao 1 (h.map .J))]⟩
theorem Ha (hsm:es.length≤9223372036854775807) (i:Nat) (hi:i<es.length):En 49 (O Tryz.f198 1) ((ox es h (i:Nat))) (iL es (ku (gN h)) (fun i=>ox es h (i:Nat)) (fun rb:Bool=>(LC h rb)) i):=by
 obtain ⟨x0,hm0,hx0⟩:=dC Ed.av (l:=es) (n:=(↑i:Int)) (by omega) (by omega)
 have hs1:=PF x0
 have u0:decide ((↑i:Int)<(↑(List.length (List.map Ed.av es)):Int))=true:=by simp;omega
 have u1:=zN (List.map AV.J h)
 have u2:IntKind.wrap .i64 ((↑i:Int)+1)=(↑i:Int)+1:=bA (by omega) (by omega)
 refine z0<|zt u0<|ze hx0<|zc hs1<|?_
 cases hb2: !decide (Ed.k x0=1) with
 |true=>
  rw [hb2] at hs1
  have hs3:=Qd h x0.2 1000 (List.length h) (by omega)
  refine ze hx0<|zc hs3<|?_
  cases hb4:bq x0.2 h with
  |true=>
   rw [hb4] at hs3
   exact zh u1<|zq (A2 (r:=false) hm0 (by (simp_all [ku,gN]))) [2] [K1 1000]
  |false=>
   rw [hb4] at hs3
   exact zh u2<|zh u1<|zq (A1 hm0 (by (simp_all [ku,gN]))) [3,5,6] [K1 1000]
 |false=>
  rw [hb2] at hs1
  exact zh u2<|zh u1<|zq (A1 hm0 (by (simp_all [ku,gN]))) [3,5,6] [K1 1000]
abbrev P5:St:=⟨[],[(1000,.ao 1 (h.map .J))]⟩
theorem G1 (hsm:es.length≤9223372036854775807):En 49 (O Tryz.f198 1) ((ox es h (es.length:Nat))) (fun e t=>e= .ar 2∧t=(P5 h)):=au Tryz.f198 0
theorem G5 (hsm:es.length≤9223372036854775807):(∃rb:Bool,Lo 49 (O Tryz.f198 1) (ox es h 0) .aR (LC h rb)∧es.findSome? (ku (gN h))=some rb)∨(Lo 49 (O Tryz.f198 1) (ox es h 0) (.ar 2) (P5 h)∧es.findSome? (ku (gN h))=none):=
 bN (fun i=>ox es h (i:Nat)) _ (fun rb:Bool=>(LC h rb)) (ku (gN h)) (fun i hi=>Ha es h hsm i hi) (G1 es h hsm)
abbrev LA (rs:List Ru) (i:Int):St:=⟨[(0,sR rs),(3,sI i)],[]⟩
noncomputable def uJ (rs:List Ru):Bool:=match rs.foldlM yl [] with|none=>false|some h=>(ni rs).all (gN h)
noncomputable def qY (rs:List Ru):Bool:=rs.all G8&&uJ rs
theorem Qa (hsm:rs.length<1000000000) (hb:∀r,r∈rs→r.bd.length≤16):Sp 196 [.al [sR rs]] [] (sS (wA rs)) []:=by
 have q0:=(zW rs hsm hb)
 have o0:=(zW rs hsm hb)
 exact aK Tryz.f196 2000 56
theorem Qc (hsm:rs.length<1000000000) (hb:∀r,r∈rs→r.bd.length≤16):Sp 238 [.al [sR rs]] [] (.aF ((ni rs).map Ed.av) false) []:=by
 have q0:=(zX rs hsm hb)
 have o0:=(zX rs hsm hb)
 exact aK Tryz.f238 2000 64
theorem Jw (hsm:rs.length<1000000000) (hb:∀r,r∈rs→r.bd.length≤16):Sp 198 [sR rs] [] (.ak (uJ rs)) []:=by
 rcases iK (P:=Tryz.prog) (n:=49) (c:=O Tryz.f198 0) (l:=rs) (k:=0) (e0:= .aR) (R:=LB) (fun i a=>GY rs a (i:Nat)) (fun a=>⟨[(0,sR rs),(3,.aO 1000 a.length)],(GZ a)⟩) yl (fun i a=>a.length≤i) (fun i a y hy hI=>by
  have hi:=(List.getElem?_eq_some_iff.1 hy).1
  have hx:0≤(i:Int)∧(rs.map Ru.av)[Int.toNat (i:Int)]? =some y.av:=⟨by omega,by rw [Int.toNat_natCast,List.getElem?_map,hy];rfl⟩
  have hk:=Df y.p y.hd y.bd
  unfold yl
  cases h1:im y.hd with
  |true=>
   rw [h1] at hk
   rw [if_pos rfl]
   refine ⟨fun _=> ?_,fun c hc=>(by cases hc)⟩
   obtain ⟨e,t,⟨rfl,rfl⟩,r⟩:=Qe rs a i hi hsm y hx hk
   exact .bD r (by simp)
  |false=>
   rw [h1] at hk
   rw [if_neg (by simp)]
   refine ⟨fun h=>(by cases h),fun c hc=> ?_⟩
   injection hc with hc;subst hc
   exact Qf rs a i hi hsm hI y hx hk) (fun i a y c hy hI hc=>by
    unfold yl at hc
    split at hc
    ·cases hc
    ·injection hc with hc;subst hc;simp;omega) (fun a _=>au Tryz.f198 2000) [] (by simp) with ⟨h,e⟩|⟨a,h,e,_⟩
 ·have y0r:Lo 49 (O Tryz.f198 0) ⟨[(0,sR rs),(3,.ab),(4,sI 0)],[]⟩ .aR LB:=(h.ez (b5 3 1000 1 rfl rfl))
  simp only [uJ,e]
  exact aK Tryz.f198 2000 49
 ·simp only [uJ,e]
  refine bK.dY (f:=198) (rs.map Ru.av) ⟨_,by simp,false,.inl rfl⟩ fun hk=> ?_
  have hE:=Qc rs hsm hb
  by_cases hes:(ni rs).length≤9223372036854775807
  ·rcases G5 (ni rs) a hes with ⟨rb,h2,e2⟩|⟨h2,e2⟩
   ·obtain ⟨e3,e4⟩:=wl (p:=gN a) e2
    subst e3
    have y0r:Lo 49 (O Tryz.f198 0) ⟨[(0,sR rs),(3,.ab),(4,sI 0)],[]⟩ (.ar 0) ⟨[(0,sR rs),(3,.aO 1000 a.length)],(GZ a)⟩:=(h.ez (b5 3 1000 1 rfl rfl))
    rw [e4]
    exact aK Tryz.f198 2000 49
   ·have e4:=qI (p:=gN a) e2
    have y0r:Lo 49 (O Tryz.f198 0) ⟨[(0,sR rs),(3,.ab),(4,sI 0)],[]⟩ (.ar 0) ⟨[(0,sR rs),(3,.aO 1000 a.length)],(GZ a)⟩:=(h.ez (b5 3 1000 1 rfl rfl))
    rw [e4]
    exact aK Tryz.f198 2000 49
  ·have hq:∀(rs:List Ru) (a:Nat×List Ed),(∀r,r∈rs→r.bd.length≤16)→(rs.foldl oy a).2.length≤a.2.length+16*rs.length:=by
    intro rs
    induction rs with
    |nil=>intro a _;simp
    |cons y r ih=>
     intro a hb
     rw [List.foldl_cons,List.length_cons]
     have h1:=ih (oy a y) (fun r hr=>hb r (by simp [hr]))
     have h2:=qZ y a.1 y.bd a.2
     have h3:=hb y (by simp)
     simp only [oy] at h1⊢
     omega
   have:=hq rs (0,[]) hb
   exact absurd (by unfold ni;simp at this;omega) hes
attribute [local simp,local grind] ku G8 in
attribute [local simp,local grind] qY in
theorem P9 (hsm:rs.length<1000000000) (hb:∀r,r∈rs→r.bd.length≤16):Sp 154 [sR rs] [] (.ak (qY rs)) []:=by
 have q0:Sp 198 [sR rs] [] (.ak (uJ rs)) []:=(Jw rs hsm hb)
 have o0:=fun (hsm:rs.length≤9223372036854775807)=>bN (P:=Tryz.prog) (n:=17) (c:=O Tryz.f154 0) (k:=0) (l:=rs) (fun i=>LA rs (i:Nat)) ⟨[(0,sR rs)],[]⟩ (fun rb:Bool=>⟨[(2,.ak rb)],[]⟩) (ku G8) (fun i hi=>aZ Tryz.f154 0 [0,3] [2]) (au Tryz.f154 0)
 have o1:=(Jw rs hsm hb)
 exact aL Tryz.f154 0 17
end
section
variable (q:List AV) (rs:List Ru) (p:ByteArray) (ts:List Tm) (F:List ByteArray) (n:Int)
theorem tt {n:Int} (h1:0≤n) (h2:n<4294967296):IntKind.wrap .u32 n=n:=by
 simp only [IntKind.wrap,IntKind.bits,IntKind.signed]
 simp
 omega
def wC (p:ByteArray) (n:Int) (x:Li):Bool:= !decide (x.k=3)&&decide (x.p=p)&& !decide ((x.ts.length:Int)=n)
def oC (p:ByteArray) (n:Int) (r:Ru):Bool:=(decide (r.p=p)&& !decide ((r.hd.length:Int)=n))||r.bd.any (wC p n)
def sd (rs:List Ru) (p:ByteArray) (n:Int):Bool:=rs.any (oC p n)
def oB (rs:List Ru):Bool:=(wA rs).any jA
def lr (y:Li) (F:List ByteArray):ByteArray:=if y.k≠3∨y.jR≠1 then ⟨#[]⟩ else if oo y.l≠⟨#[]⟩∧bq (oo y.l) F=false∧bT (ay y.r.af) F=true then oo y.l else if oo y.r≠⟨#[]⟩∧bq (oo y.r) F=false∧bT (ay y.l.af) F=true then oo y.r else ⟨#[]⟩
def lu (y:Li) (F:List ByteArray):Bool:=bT (ay y.af) F||(decide (y.k=3)&& !decide (lr y F=⟨#[]⟩))
abbrev ym (rs:List Ru) (i0:Nat) (r:Ru) (p:ByteArray) (n:Int) (i:Int):St:=⟨[(0,sR rs),(1,.J p),(2,sI n),(7,sI i0),(8,sI i)],[]⟩
attribute [local simp,local grind] nh wC in
theorem zY (rs:List Ru) (i0:Nat) (r:Ru) (hr:0≤(i0:Int)∧(rs.map Ru.av)[Int.toNat (i0:Int)]? =some r.av) (p:ByteArray) (n:Int) (hsm:r.bd.length≤9223372036854775807):(∃rb:Bool,Lo 69 (O Tryz.f151 1) (ym rs i0 r p n 0) .aR ⟨[(6,.ak rb)],[]⟩∧r.bd.findSome? (nh (wC p n))=some rb)∨(Lo 69 (O Tryz.f151 1) (ym rs i0 r p n 0) (.ar 2) ⟨[(0,.aF (rs.map Ru.av) false),(1,.J p),(2,.aP .i64 n),(7,.aP .i64 (i0:Nat))],[]⟩∧r.bd.findSome? (nh (wC p n))=none):=
 bN (fun i=>ym rs i0 r p n (i:Nat)) _ (fun rb:Bool=>⟨[(6,.ak rb)],[]⟩) (nh (wC p n)) (fun i hi=>aZ Tryz.f151 0 [0,1,2,7,8] [6]) (au Tryz.f151 0)
attribute [local simp,local grind] lr in
theorem Qj (y:Li) (F:List ByteArray) (h1:y.l.af.length<2199023255552) (h2:y.r.af.length<2199023255552):Sp 271 [y.av,sS F] [] (.J (lr y F)) []:=by
 have q0:=h1
 have q1:=h2
 exact aL Tryz.f271 0 53
def wD (F:List ByteArray) (a:Int×Int) (y:Tm):Int×Int:=(a.1*2,if y.v=⟨#[]⟩∨bq y.v F=true then a.2+a.1 else a.2)
theorem Qk {i:Nat} (h:i≤24):(2:Int)^i≤16777216:=by
 have h1:=Nat.pow_le_pow_right (n:=2) (by decide) h
 have h2:((2^i:Nat):Int)≤((2^24:Nat):Int):=by exact_mod_cast h1
 simpa using h2
abbrev oA (rs:List Ru) (p:ByteArray) (n:Int) (i:Int):St:=⟨[(0,sR rs),(1,.J p),(2,sI n),(7,sI i)],[]⟩
theorem Hi (hsm:rs.length≤9223372036854775807) (hb:∀r,r∈rs→r.bd.length≤16) (i:Nat) (hi:i<rs.length):En 69 (O Tryz.f151 0) ((oA rs p n (i:Nat))) (iL rs (nh (oC p n)) (fun i=>oA rs p n (i:Nat)) (fun rb:Bool=>⟨[(6,.ak rb)],[]⟩) i):=by
 obtain ⟨x0,hm0,hx0⟩:=dC Ru.av (l:=rs) (n:=(↑i:Int)) (by omega) (by omega)
 have u0:decide ((↑i:Int)<(↑(List.length (List.map Ru.av rs)):Int))=true:=by simp;omega
 have u2:IntKind.wrap .i64 ((↑i:Int)+1)=(↑i:Int)+1:=bA (by omega) (by omega)
 refine z0<|zt u0<|ze hx0<|zB (Ru.p x0=p) (fun h1=> ?_) fun h1=> ?_
 ·rcases CI (decide ((↑(List.length (List.map Ar.av (Ru.hd x0))):Int)=n)) with h2|h2
  ·have u1:(!decide ((↑(List.length (List.map Ar.av (Ru.hd x0))):Int)=n))=false:=(by rw [h2];rfl)
   refine ze hx0<|zf u1<|zd (.g8 [0,1,2,7,8] [])<|?_
   rcases zY (rs) (i) _ (by assumption) (p) (n) (by (have h9:=hb _ (List.mem_of_getElem? hm0);omega)) with o3|o3
   ·obtain ⟨y4,⟨hl5,hl5'⟩⟩:=o3
    exact zl hl5<|zq (A2 (r:=y4) hm0 (by (first|(simp_all [nh,oC];done)|(have h9:=qN (p:=wC p n) (by assumption);have h10:=h9.1;have h11:=h9.2;subst h10;simp_all [nh,oC];done)|(have h9:=Dg (p:=wC p n) (by assumption);simp_all [nh,oC];done)))) [6] []
   ·obtain ⟨hl4,hl4'⟩:=o3
    exact zl hl4<|zh u2<|zq (A1 hm0 (by (first|(simp_all [nh,oC];done)|(have h9:=qN (p:=wC p n) (by assumption);have h10:=h9.1;have h11:=h9.2;subst h10;simp_all [nh,oC];done)|(have h9:=Dg (p:=wC p n) (by assumption);simp_all [nh,oC];done)))) [0,1,2,7] []
  ·exact ze hx0<|zt (nT h2)<|zq (A2 (r:=true) hm0 (by (first|(simp_all [nh,oC];done)|(have h9:=qN (p:=wC p n) (by assumption);have h10:=h9.1;have h11:=h9.2;subst h10;simp_all [nh,oC];done)|(have h9:=Dg (p:=wC p n) (by assumption);simp_all [nh,oC];done)))) [6] []
 ·rcases zY (rs) (i) _ (by assumption) (p) (n) (by (have h9:=hb _ (List.mem_of_getElem? hm0);omega)) with o2|o2
  ·obtain ⟨y3,⟨hl4,hl4'⟩⟩:=o2
   exact zd (.g8 [0,1,2,7,8] [])<|zl hl4<|zq (A2 (r:=y3) hm0 (by (first|(simp_all [nh,oC];done)|(have h9:=qN (p:=wC p n) (by assumption);have h10:=h9.1;have h11:=h9.2;subst h10;simp_all [nh,oC];done)|(have h9:=Dg (p:=wC p n) (by assumption);simp_all [nh,oC];done)))) [6] []
  ·obtain ⟨hl3,hl3'⟩:=o2
   exact zd (.g8 [0,1,2,7,8] [])<|zl hl3<|zh u2<|zq (A1 hm0 (by (first|(simp_all [nh,oC];done)|(have h9:=qN (p:=wC p n) (by assumption);have h10:=h9.1;have h11:=h9.2;subst h10;simp_all [nh,oC];done)|(have h9:=Dg (p:=wC p n) (by assumption);simp_all [nh,oC];done)))) [0,1,2,7] []
theorem Hf (hsm:rs.length≤9223372036854775807) (hb:∀r,r∈rs→r.bd.length≤16):En 69 (O Tryz.f151 0) ((oA rs p n (rs.length:Nat))) (fun e t=>e= .ar 0∧t=⟨[],[]⟩):=au Tryz.f151 0
theorem Hh (hsm:rs.length≤9223372036854775807) (hb:∀r,r∈rs→r.bd.length≤16):(∃rb:Bool,Lo 69 (O Tryz.f151 0) (oA rs p n 0) .aR ⟨[(6,.ak rb)],[]⟩∧rs.findSome? (nh (oC p n))=some rb)∨(Lo 69 (O Tryz.f151 0) (oA rs p n 0) (.ar 0) ⟨[],[]⟩∧rs.findSome? (nh (oC p n))=none):=
 bN (fun i=>oA rs p n (i:Nat)) _ (fun rb:Bool=>⟨[(6,.ak rb)],[]⟩) (nh (oC p n)) (fun i hi=>Hi rs p n hsm hb i hi) (Hf rs p n hsm hb)
abbrev LE (l:List ByteArray) (i:Int):St:=⟨[(3,sS l),(4,sI i)],[]⟩
abbrev Hd:Nat×AV:=(5,.aA 5 0 0)
theorem V9 (hq:aa q=true) (rs:List Ru) (b:Bool):En 83 (O Tryz.f95 0) ((⟨[(0,sR rs),(1,.ab),Hd,(8,.ak b),(9,sI 0)],[(5,.an q)]⟩)) (fun e t=>e= .ar 0∧t=⟨[(0,sR rs),(1,.ab),Hd,(8,.ak b)],[(5,.an q)]⟩):=by
 exact gE ⟨rfl,rfl⟩ 0 [.is false] [0,1,5,8] [K1 5] (aC2 rF hq)
theorem V' (q:List AV) (rs:List Ru) (b:Bool):En 83 (O Tryz.f95 1) ((⟨[(0,sR rs),(1,.ab),(8,.ak b),(10,sI 0)],[]⟩)) (fun e t=>e= .ar 2∧t=⟨[(0,sR rs),(8,.ak b)],[]⟩):=au Tryz.f95 0
theorem DE (hq:aa q=true) (rs:List Ru) (b:Bool):Lo 83 (O Tryz.f95 0) ⟨[(0,sR rs),(1,.ab),Hd,(8,.ak b),(9,sI 0)],[(5,.an q)]⟩ (.ar 0) ⟨[(0,sR rs),(1,.ab),Hd,(8,.ak b)],[(5,.an q)]⟩:=by
 obtain ⟨e,t,⟨rfl,rfl⟩,r⟩:=V9 q hq rs b
 exact .bD r (by simp)
theorem yn (b:Bool):Lo 83 (O Tryz.f95 1) ⟨[(0,sR rs),(1,.ab),(8,.ak b),(10,sI 0)],[]⟩ (.ar 2) ⟨[(0,sR rs),(8,.ak b)],[]⟩:=by
 obtain ⟨e,t,⟨rfl,rfl⟩,r⟩:=V' [] rs b
 exact .bD r (by simp)
noncomputable def dv (rs:List Ru) (p:ByteArray) (ts:List Tm):Int:=if d7 rs≠0 then d7 rs else if lh p ts=false then 40 else if sd rs p (ts.length:Int)=true then 72 else if oB rs=true∨jA p=true then 71 else if qY rs=false then 180 else 0
abbrev He:Nat×AV:=(2,.aA 2002 0 0)
abbrev q8 (p:ByteArray) (ts:List Tm) (F:List ByteArray) (a:Int×Int) (i:Int):St:=⟨[(1,sS F),He,(5,.aP .u32 a.2),(6,.aP .u32 a.1),(7,sI i)],[(2002,.an [.J p,sT ts])]⟩
theorem Hj (hsm:ts.length≤24) (a:Int×Int) (i:Nat) (hi:i<ts.length) (hI:a.1≤2^i∧0≤a.2∧a.2+1≤a.1∧a.1≤16777216∧a.2≤16777216):En 38 (O Tryz.f269 0) ((q8 p ts F a (i:Nat))) (fun eo so=>eo= .aj∧∃y,ts[i]? =some y∧so=q8 p ts F ((wD F) a y) ((i+1:Nat):Int)):=by
 obtain ⟨x0,hm0,hx0⟩:=dC Tm.av (l:=ts) (n:=(↑i:Int)) (by omega) (by omega)
 have u0:decide ((↑i:Int)<(↑(List.length (List.map Tm.av ts)):Int))=true:=by simp;omega
 have u1:IntKind.wrap .u32 (a.2+a.1)=a.2+a.1:=tt (by omega) (by omega)
 have u2:IntKind.wrap .u32 (a.1*2)=a.1*2:=tt (by omega) (by omega)
 have u3:IntKind.wrap .i64 ((↑i:Int)+1)=(↑i:Int)+1:=bA (by omega) (by omega)
 refine zs 2000<|zt u0<|ze hx0<|zB (Tm.v x0=ByteArray.mk #[]) (fun h1=>zh u1<|zh u2<|zh u3<|zh rT<|zq (s:=St.mk [(1,sS F),He,(5,.aP .u32 (a.2+a.1)),(6,.aP .u32 (a.1*2)),(7,sI ((i:Int)+1))] [(2002,.an [.J p,sT ts])]) ⟨rfl,_,hm0,by (simp_all [wD])⟩) fun h1=> ?_
 have hs2:=Jr F x0.1
 refine ze hx0<|zc hs2<|?_
 cases hb3:bq x0.1 F with
 |true=>
  rw [hb3] at hs2
  exact zh u1<|zh u2<|zh u3<|zh rT<|zq (s:=St.mk [(1,sS F),He,(5,.aP .u32 (a.2+a.1)),(6,.aP .u32 (a.1*2)),(7,sI ((i:Int)+1))] [(2002,.an [.J p,sT ts])]) ⟨rfl,_,hm0,by (simp_all [wD])⟩
 |false=>
  rw [hb3] at hs2
  exact zh u2<|zh u3<|zh rT<|zq (s:=St.mk [(1,sS F),He,(5,.aP .u32 a.2),(6,.aP .u32 (a.1*2)),(7,sI ((i:Int)+1))] [(2002,.an [.J p,sT ts])]) ⟨rfl,_,hm0,by (simp_all [wD])⟩
theorem Hg (hsm:ts.length≤24) (a:Int×Int) (hI:a.1≤2^ts.length∧0≤a.2∧a.2+1≤a.1∧a.1≤16777216∧a.2≤16777216):En 38 (O Tryz.f269 0) ((q8 p ts F a (ts.length:Nat))) (fun eo so=>eo= .ar 0∧so=⟨[(5,.aP .u32 a.2)],[(2002,.an [.J p,sT ts])]⟩):=au Tryz.f269 2000
theorem zZ (hsm:ts.length≤24) (a0:Int×Int) (h0:a0.1≤2^0∧0≤a0.2∧a0.2+1≤a0.1∧a0.1≤16777216∧a0.2≤16777216):Lo 38 (O Tryz.f269 0) (q8 p ts F a0 0) (.ar 0) ⟨[(5,.aP .u32 (ts.foldl (wD F) a0).2)],[(2002,.an [.J p,sT ts])]⟩:=
 (be (l:=ts) (fun i a=>q8 p ts F a (i:Nat)) (fun a=>⟨[(5,.aP .u32 a.2)],[(2002,.an [.J p,sT ts])]⟩) (wD F) (fun i a=>a.1≤2^i∧0≤a.2∧a.2+1≤a.1∧a.1≤16777216∧a.2≤16777216) (fun i a hi hI=>Hj p ts F hsm a i hi hI) (fun i a y hy hI=>by (have hi:=(List.getElem?_eq_some_iff.1 hy).1;have h8:=Qk (i:=i+1) (by omega);have h9:(2:Int)^(i+1)=2^i*2:=Int.pow_succ ..;unfold wD;simp only;split<;>omega)) (fun a hI=>Hg p ts F hsm a hI) a0 h0).1
attribute [local simp,local grind] sd in
theorem Qg (hsm:rs.length<1000000000) (hb:∀r,r∈rs→r.bd.length≤16):Sp 151 [sR rs,.J p,sI n] [] (.ak (sd rs p n)) []:=by
 have q0:rs.length≤9223372036854775807:=(by omega)
 have o0:=Hh rs p n (by assumption) (by assumption)
 exact aL Tryz.f151 0 69
theorem DF (hb:∀r,r∈rs→r.bd.length≤16):(wA rs).length≤17*rs.length:=by
 have go:∀(rs:List Ru) (a:List ByteArray),(∀r,r∈rs→r.bd.length≤16)→(rs.foldl q7 a).length≤a.length+17*rs.length:=by
  intro rs
  induction rs with
  |nil=>intro a _;simp
  |cons y r ih=>
   intro a hb
   rw [List.foldl_cons,List.length_cons]
   have h1:=ih (q7 a y) (fun r hr=>hb r (by simp [hr]))
   have h2:=wB y.bd (nj a y.p)
   have h3:=kA a y.p
   have h4:=hb y (by simp)
   unfold q7 at h1⊢
   omega
 have:=go rs [] hb
 simpa [wA] using this
attribute [local simp,local grind] nh in
attribute [local simp,local grind] oB in
theorem Qh (hsm:rs.length<1000000000) (hb:∀r,r∈rs→r.bd.length≤16):Sp 152 [sR rs] [] (.ak (oB rs)) []:=by
 have:=DF rs hb
 have q0:(wA rs).length≤9223372036854775807:=(by omega)
 have o0:=Qa rs (by assumption) (by assumption)
 have o1:=bN (P:=Tryz.prog) (n:=19) (c:=O Tryz.f152 0) (k:=0) (l:=(wA rs)) (fun i=>LE (wA rs) (i:Nat)) ⟨[],[]⟩ (fun rb:Bool=>⟨[(2,.ak rb)],[]⟩) (nh jA) (fun i hi=>aZ Tryz.f152 0 [3,4] [2]) (au Tryz.f152 0)
 exact aL Tryz.f152 0 19
theorem kC {rs:List Ru} (h:d7 rs=0):∀r,r∈rs→ch r.p r.hd r.bd=true∧eQ r.hd r.bd=true:=by
 intro r hr
 unfold d7 at h
 cases hf:rs.findSome? xk with
 |none=>exact ky (qU hf r hr)
 |some e=>
  rw [hf] at h
  simp only at h
  obtain ⟨y,hy,he⟩:=List.exists_of_findSome?_eq_some hf
  unfold xk at he
  split at he
  ·cases he
  ·injection he with he;rename_i h1;rw [he] at h1;exact absurd h h1
theorem q9 {rs:List Ru} (h:d7 rs=0):∀r,r∈rs→r.bd.length≤16:=fun r hr=>(fF (kC h r hr).1).2.1
theorem V8 (hsm:rs.length<1000000000):En 83 (ai Tryz.f95) (⟨[(0,sR rs),(1,.ab),(2,gU p ts)],[]⟩) (fun eo so=>eo= .aR∧∃rn:Int,so=⟨[(6,sI rn)],[]⟩∧rn=dv rs p ts):=by
 refine z0<|zc (P1 rs (by assumption))<|?_
 rcases CI (decide (d7 rs=0)) with h1|h1
 ·have hs2:=Pa p ts
  have u0:(!decide (d7 rs=0))=false:=(by rw [h1];rfl)
  refine zf u0<|zc hs2<|?_
  rcases CI (decide (fj 40 (lh p ts)=0)) with h3|h3
  ·have hs4:=Qg rs p ((↑(List.length (List.map Tm.av ts)):Int)) (by assumption) (q9 (of_decide_eq_true (by assumption)))
   have u1:(!decide (fj 40 (lh p ts)=0))=false:=(by rw [h3];rfl)
   refine zf u1<|zc hs4<|zh rT<|zd (.g8 [0,1,5,8,9] [K1 5])<|?_
   cases hb5:sd rs p (↑(List.length (List.map Tm.av ts)):Int) with
   |true=>
    rw [hb5] at hs4
    have hl6:=DE ([AV.J p,sT ts]) (by simp) (rs) (true)
    exact zl hl6<|zq ⟨rfl,72,rfl,by first|(simp_all [dv];done)|grind [dv]⟩
   |false=>
    rw [hb5] at hs4
    have hl6:=DE ([AV.J p,sT ts]) (by simp) (rs) (false)
    have hs7:=Qh rs (by assumption) (q9 (of_decide_eq_true (by assumption)))
    refine zl hl6<|zc hs7<|?_
    cases hb8:oB rs with
    |true=>
     rw [hb8] at hs7
     exact zd (.g8 [0,1,8,10] [])<|zl (yn rs true)<|zq ⟨rfl,71,rfl,by first|(simp_all [dv];done)|grind [dv]⟩
    |false=>
     rw [hb8] at hs7
     have hs9:=Jo p
     refine zc hs9<|zd (.g8 [0,1,8,10] [])<|?_
     cases hb10:jA p with
     |true=>
      rw [hb10] at hs9
      have hl11:=yn rs true
      exact zl hl11<|zq ⟨rfl,71,rfl,by first|(simp_all [dv];done)|grind [dv]⟩
     |false=>
      rw [hb10] at hs9
      have hl11:=yn rs false
      have hs12:=P9 rs (by assumption) (q9 (of_decide_eq_true (by assumption)))
      refine zl hl11<|zc hs12<|?_
      cases hb13:qY rs with
      |true=>
       rw [hb13] at hs12
       exact zq ⟨rfl,0,rfl,by first|(simp_all [dv];done)|grind [dv]⟩
      |false=>
       rw [hb13] at hs12
       exact zq ⟨rfl,180,rfl,by first|(simp_all [dv];done)|grind [dv]⟩
  ·exact zt (nT h3)<|zq ⟨rfl,40,rfl,by first|(simp_all [dv];done)|grind [dv]⟩
 ·exact zt (nT h1)<|zq ⟨rfl,(d7 rs),rfl,by first|(simp_all [dv];done)|grind [dv]⟩
theorem LF (hsm:rs.length<1000000000):Sp 95 [sR rs,.ab,gU p ts] [] (sI (dv rs p ts)) []:=by
 obtain ⟨_,_,⟨rfl,_,rfl,rfl⟩,h⟩:=V8 rs p ts hsm
 exact sP Tryz.f95 (by simp [aa,aJ,gU,vr]) h (.inr rfl)
@[reducible,instance] def aat (rs:List Ru) (p:ByteArray) (ts:List Tm):=kF (LF rs p ts)
def Wb (ts:List Tm) (F:List ByteArray):Int:=(ts.foldl (wD F) (1,0)).2
theorem Qi (h:ts.length≤24):Sp 269 [.al [.J p,sT ts],sS F] [] (.aP .u32 (Wb ts F)) []:=by
 have q0:=(zZ p ts F h (1,0) (by simp))
 have o0:=(zZ p ts F h (1,0) (by simp))
 exact aK Tryz.f269 2000 38
@[reducible,instance] def Wa (p:ByteArray) (ts:List Tm) (F:List ByteArray):=kF (Qi p ts F)
end
section
variable (vs:List ByteArray) (bd:List Li) (l:List ByteArray) (i:Nat)
attribute [local simp,local grind] dn gp in
theorem JC (x:Ex):Sp 211 [.al x.ac] [] (.J ((dn x))) []:=aL Tryz.f211 0 21
theorem Wd (v:ByteArray):Sp 214 [.aA 100005 0 0,.J v] (fp l) (.ak (decide (v∈l))) []:=by
 by_cases h3:v∈l
 ·obtain ⟨j,hf,hj⟩:=cy (i:=0) h3
  have hf:∃i,bs true (.J v) (l.map AV.J) 0=some (some i)∧(pos l)[i]? =some (sI ((j+1:Nat):Int)):=⟨j,by simpa using hf,zA (List.getElem?_eq_some_iff.1 hj).1⟩
  rw [decide_eq_true h3]
  exact av Tryz.f214 60000 (hr:=fun h=>zT Tryz.f214 12 h (kw l))
 ·have hf:=co h3 (i:=0)
  rw [decide_eq_false h3]
  exact av Tryz.f214 60000 (hr:=fun h=>zT Tryz.f214 12 h (kw l))
@[reducible,instance] def aaw (l:List ByteArray) (v:ByteArray):=tT (Wd l v)
instance:KI 214 [100003,100005]:=⟨⟩
abbrev LH (vs l:List ByteArray) (i:Int):St:=⟨[(0,.aA 100005 0 0),(6,sS vs),(7,sI (vs.map AV.J).length),(8,sI i)],fp l⟩
attribute [local simp] ec uy in
theorem Wg (hi:i<vs.length) (hsm:vs.length≤9223372036854775807) (hl:l.length<8796093022208):En 37 (O Tryz.f210 0) (LH vs l i) (fun e t=>e= .aj∧∃y,vs[i]? =some y∧t=LH vs (ec l y) ((i+1:Nat):Int)):=by
 have hy:=List.getElem?_eq_getElem hi
 generalize vs[i]=y at hy
 have hx:=eY AV.J hy rfl
 by_cases h:y∈l
 ·exact av Tryz.f210 60000
 ·have hf:=co h (i:=0)
  exact av Tryz.f210 60000
theorem LI (hsm:vs.length≤9223372036854775807) (hl:l.length+vs.length<8796093022208):Sp 210 [.aA 100005 0 0,sS vs] (fp l) (.bC []) (fp (vs.foldl ec l)):=by
 have o:=(be (P:=Tryz.prog) (n:=37) (c:=O Tryz.f210 0) (k:=0) (l:=vs) (fun i l=>LH vs l i) (fun l=>⟨[],fp l⟩) ec (fun i a=>a.length+vs.length<8796093022208+i) (fun i a hi h=>Wg vs a i hi hsm (by omega)) (fun i a y _ h=>by have:=kv a y;omega) (fun a _=>av Tryz.f210 60000) l (by omega)).1
 exact av Tryz.f210 60000 (hr:=fun h=>zM Tryz.f210 37 h (kw l))
instance:KI 210 [100003,100005]:=⟨⟩
attribute [local simp,local grind] ku bq bT in
theorem DG (hsm:vs.length≤9223372036854775807):Sp 176 [.aA 100005 0 0,sS vs] (fp l) (.ak (bT vs l)) []:=by
 rcases bN (P:=Tryz.prog) (n:=18) (c:=O Tryz.f176 0) (k:=0) (l:=vs) (fun i=>⟨[(0,.aA 100005 0 0),(7,sS vs),(8,sI (vs.map AV.J).length),(9,sI i)],fp l⟩) ⟨[],fp l⟩ (fun rb:Bool=>⟨[(4,.ak rb)],fp l⟩) (ku fun v=>bq v l) (fun i hi=>av Tryz.f176 60000 (hr:=KL (I8 [0,7,8,9] [4]) (fun _=>[K1 100003,K0 100005]))) (av Tryz.f176 60000) with ⟨r,h,e⟩|⟨h,e⟩
 ·rw [show bT vs l=r by grind];exact av Tryz.f176 60000 (hr:=fun h=>zT Tryz.f176 18 h (kw l))
 ·rw [show bT vs l=true by grind];exact av Tryz.f176 60000 (hr:=fun h=>zT Tryz.f176 18 h (kw l))
instance:KI 176 [100003,100005]:=⟨⟩
instance aau (vs l:List ByteArray):KT 176 [.aA 100005 0 0,sS vs] (fp l) (.ak (bT vs l)) [] (vs.length≤9223372036854775807):=⟨DG vs l⟩
def gP (a b:ByteArray) (ls rs l:List ByteArray):Bool×List ByteArray:=if a≠⟨#[]⟩∧a∉l∧bT rs l=true then (true,ec l a) else if b≠⟨#[]⟩∧b∉l∧bT ls l=true then (true,ec l b) else (false,l)
structure lJ where
 a:ByteArray
 b:ByteArray
 ls:List ByteArray
 rs:List ByteArray
@[reducible] def lJ.av (q:lJ):AV:= .al [.J q.a,.J q.b,sS q.ls,sS q.rs]
@[simp] theorem JE (l:List lJ):aa (l.map lJ.av)=true:=bI lJ.av (fun _=>by simp [lJ.av,aJ,aa]) l
@[simp] theorem NR (q:lJ):aJ q.av=true:=by simp [lJ.av,aJ,aa]
attribute [local simp] bq ec uy in
theorem JD (q:lJ) (hl:l.length<1000000000) (hls:q.ls.length≤9223372036854775807) (hrs:q.rs.length≤9223372036854775807):Sp 213 [.aA 100005 0 0,q.av] (fp l) (.ak (gP q.a q.b q.ls q.rs l).1) (fp (gP q.a q.b q.ls q.rs l).2):=by
 have o1:=LI [q.a] l (by simp) (by simp;omega)
 have o2:=LI [q.b] l (by simp) (by simp;omega)
 by_cases hA:q.a≠⟨#[]⟩∧q.a∉l∧bT q.rs l=true
 ·rw [gP,if_pos hA];exact av Tryz.f213 2000 (hr:=fun h=>zG Tryz.f213 49 h (kw l))
 ·by_cases hB:q.b≠⟨#[]⟩∧q.b∉l∧bT q.ls l=true
  ·rw [gP,if_neg hA,if_pos hB];exact av Tryz.f213 2000 (hr:=fun h=>zG Tryz.f213 49 h (kw l))
  ·rw [gP,if_neg hA,if_neg hB];exact av Tryz.f213 2000 (hr:=fun h=>zG Tryz.f213 49 h (kw l))
instance:KI 213 [100003,100005]:=⟨⟩
@[reducible,instance] def aav (l:List ByteArray) (q:lJ):=tH (JD l q)
theorem wF (a b:ByteArray) (ls rs l:List ByteArray):(gP a b ls rs l).2.length≤l.length+1:=by
 unfold gP
 split
 ·exact kv l a
 ·split
  ·exact kv l b
  ·simp
def fM (s:List ByteArray×List lJ) (q:lJ):List ByteArray×List lJ:=((gP q.a q.b q.ls q.rs s.1).2,if (gP q.a q.b q.ls q.rs s.1).1 then s.2 else s.2++[q])
abbrev Ql:Nat×Ob:=(100003,.aI (l.map AV.J) (pos l))
abbrev Qm:Nat×Ob:=(100005,.an [.aX 1 (l.map AV.J),.aI 100003])
@[reducible] def rp (l:List ByteArray) (qs:List lJ):List (Nat×Ob):=[(100000,.an [.aX 4 (qs.map lJ.av)]),Ql l,Qm l]
theorem DJ (qs:List lJ):∀id o,(id,o)∈rp l qs→bg (gX (rp l qs)) o=o:=by
 intro id o hm
 simp only [rp,List.mem_cons,Prod.mk.injEq,List.not_mem_nil,or_false] at hm
 rcases hm with ⟨rfl,rfl⟩|⟨rfl,rfl⟩|⟨rfl,rfl⟩
 ·rfl
 ·simp only [bg,aM _ _ (bw l),aM _ _ (jg l)]
 ·rfl
abbrev Hm (qs lf:List lJ) (l:List ByteArray) (i:Int):St:=⟨[(0,.aA 100000 0 0),(1,.bZ 213 [.aA 100005 0 0] []),(5,sI (qs.map lJ.av).length),(6,.aO 60206 (lf.map lJ.av).length),(17,.aO 69000 (qs.map lJ.av).length),(18,sI (qs.map lJ.av).length),(19,sI i)],[(100000,.an [.aO 69000 (qs.map lJ.av).length]),Ql l,Qm l,(60206,.ao 4 (lf.map lJ.av)),(69000,.ao 4 (qs.map lJ.av))]⟩
attribute [local simp] fM in
theorem Wh (qs lf:List lJ) (l:List ByteArray) (i:Nat) (hi:i<qs.length) (hq:qs.length<1000000) (hlf:lf.length≤i) (hl:l.length<1000000000) (hs:∀q,q∈qs→q.ls.length≤9223372036854775807∧q.rs.length≤9223372036854775807):En 40 (O Tryz.f212 0) (Hm qs lf l i) (fun e t=>e= .aj∧∃q,qs[i]? =some q∧t=Hm qs (fM (l,lf) q).2 (fM (l,lf) q).1 ((i+1:Nat):Int)):=by
 have hy:=List.getElem?_eq_getElem hi
 have hm:=hs _ (List.mem_of_getElem? hy)
 generalize qs[i]=q at hy hm
 have hx:=eY lJ.av hy rfl
 have o1:=JD l q hl hm.1 hm.2
 exact av Tryz.f212 60000
def opS (x:Nat×Nat) (s:St):St:=(tj x s).getD s
theorem Qn {P:Program} {n:Nat} {r:Code} {Q:cw→St→Prop} {K:List KF} {e:cw} {s:St} (x:Nat×Nat) (k:EK P n r Q K e (opS x s)):EK P n r Q K e s:=by
 unfold opS at k
 cases h:tj x s with
 |none=>rw [h] at k;exact k
 |some t=>rw [h] at k;exact oZ (we h) k
theorem wG {g:List ByteArray×List lJ} {q:lJ} {m i:Nat} (h:g.1.length≤m+i∧g.2.length≤i):(fM g q).1.length≤m+(i+1)∧(fM g q).2.length≤i+1:=by
 have:=wF q.a q.b q.ls q.rs g.1
 unfold fM;refine ⟨by simp only;omega,?_⟩;simp only;split
 ·omega
 ·rw [List.length_append,List.length_singleton];omega
theorem LJ (qs:List lJ):(qs.foldl fM (l,[])).1.length≤l.length+qs.length∧(qs.foldl fM (l,[])).2.length≤qs.length:=by
 have go:∀(qs:List lJ) (g:List ByteArray×List lJ),(qs.foldl fM g).1.length≤g.1.length+qs.length∧(qs.foldl fM g).2.length≤g.2.length+qs.length:=by
  intro qs
  induction qs with
  |nil=>intro g;simp
  |cons q qs ih=>intro g;have h1:=ih (fM g q);have h2:=wG (g:=g) (q:=q) (m:=g.1.length) (i:=g.2.length) ⟨by omega,by omega⟩;have h3:=wF q.a q.b q.ls q.rs g.1;simp only [List.foldl_cons,List.length_cons] at*;have h4:(fM g q).1.length≤g.1.length+1:=h3;omega
 simpa using go qs (l,[])
theorem Qo (qs:List lJ) (hq:qs.length<1000000) (hl:l.length<900000000) (hs:∀q,q∈qs→q.ls.length≤9223372036854775807∧q.rs.length≤9223372036854775807):Sp 212 [.aA 100000 0 0,.bZ 213 [.aA 100005 0 0] []] (rp l qs) (.ak (decide ((qs.foldl fM (l,[])).2.length<qs.length))) (rp (qs.foldl fM (l,[])).1 (qs.foldl fM (l,[])).2):=by
 have o:=(be (P:=Tryz.prog) (n:=40) (c:=O Tryz.f212 0) (k:=0) (l:=qs) (fun i g=>Hm qs g.2 g.1 i) (fun g=>⟨[(0,.aA 100000 0 0),(5,sI (qs.map lJ.av).length),(6,.aO 60206 (g.2.map lJ.av).length)],(Hm qs g.2 g.1 0).hp⟩) fM (fun i g=>g.1.length≤l.length+i∧g.2.length≤i) (fun i g hi h=>Wh qs g.2 g.1 i hi hq h.2 (by omega) hs) (fun i g q _ h=>wG h) (fun g _=>av Tryz.f212 60000) (l,[]) (by simp)).1
 by_cases hb:(qs.foldl fM (l,[])).2.length<qs.length
 ·rw [decide_eq_true hb];exact av Tryz.f212 60000 (hr:=fun h=>zG Tryz.f212 40 (Qn (100000,0) h) (DJ l qs))
 ·rw [decide_eq_false hb];exact av Tryz.f212 60000 (hr:=fun h=>zG Tryz.f212 40 (Qn (100000,0) h) (DJ l qs))
@[reducible] def cD (y:Li):lJ:=⟨dn y.l,dn y.r,ay y.l.af,ay y.r.af⟩
def kD (a:List ByteArray×List lJ) (y:Li):List ByteArray×List lJ:=if y.k=1 then ((ay y.ts).foldl ec a.1,a.2) else if y.k=3∧y.jR=1 then (a.1,a.2++[cD y]) else a
theorem tu {bd:List Li} {x:Li} {i:Nat} (hall:∀y,y∈bd→y.af.length<1000) (h:bd[i]? =some x):x.ts.length<1000∧x.l.af.length<1000∧x.r.af.length<1000∧(ay x.ts).length<1000:=by
 have h1:=hall x (List.mem_of_getElem? h)
 have h2:=eP x.ts []
 simp only [Li.af,List.length_append,ay,List.length_nil] at*
 refine ⟨?_,?_,?_,?_⟩<;>omega
abbrev uM:Nat×AV:=(3,.aA 100005 0 0)
abbrev yo:Nat×AV:=(4,.aA 100000 0 0)
abbrev Hl (bd:List Li) (l:List ByteArray) (qs:List lJ) (i:Int):St:=⟨[uM,yo,(10,sL bd),(11,sI (bd.map Li.av).length),(12,sI i)],rp l qs⟩
attribute [local simp] kD in
theorem Wf (qs:List lJ) (i:Nat) (hi:i<bd.length) (hbd:bd.length≤16) (hall:∀y,y∈bd→y.af.length<1000) (hl:l.length<1000000) (hq:qs.length<1000):En 57 (O Tryz.f175 0) (Hl bd l qs i) (fun e t=>e= .aj∧∃y,bd[i]? =some y∧t=Hl bd (kD (l,qs) y).1 (kD (l,qs) y).2 ((i+1:Nat):Int)):=by
 have hy:=List.getElem?_eq_getElem hi
 generalize bd[i]=y at hy
 obtain ⟨s1,s2,s3,s4⟩:=tu hall hy
 have hx:=eY Li.av hy rfl
 have o1:=LI (ay y.ts) l (by omega) (by omega)
 have o2:=k28 y.p y.ts (by omega)
 have o3:=JC y.l
 have o4:=JC y.r
 have o5:=KY y.l (by omega)
 have o6:=KY y.r (by omega)
 exact av Tryz.f175 60000
theorem We (hbd:bd.length≤16) (hall:∀y,y∈bd→y.af.length<1000):Lo 57 (O Tryz.f175 0) (Hl bd [] [] 0) (.ar 0) ⟨[uM,yo],rp (bd.foldl kD ([],[])).1 (bd.foldl kD ([],[])).2⟩∧(bd.foldl kD ([],[])).1.length≤bd.length*1000∧(bd.foldl kD ([],[])).2.length≤bd.length:=
 be (P:=Tryz.prog) (n:=57) (c:=O Tryz.f175 0) (k:=0) (l:=bd) (fun i g=>Hl bd g.1 g.2 i) (fun g=>⟨[uM,yo],rp g.1 g.2⟩) kD (fun i g=>g.1.length≤i*1000∧g.2.length≤i) (fun i g hi h=>Wf bd g.1 g.2 i hi hbd hall (by omega) (by omega)) (fun i g y hy h=>by
  obtain ⟨s1,s2,s3,s4⟩:=tu hall hy
  have:=om (ay y.ts) g.1
  unfold kD
  split
  ·exact ⟨by simp only;omega,by simp only;omega⟩
  ·split
   ·exact ⟨by simp only;omega,by simp;omega⟩
   ·exact ⟨by omega,by omega⟩) (fun g _=>av Tryz.f175 60000) ([],[]) (by simp)
theorem fJ {l:List ByteArray} {v u:ByteArray}:u∈ec l v↔u∈l∨u=v:=by
 unfold ec
 split
 ·rename_i h
  constructor
  ·exact .inl
  ·rintro (h1|h1)
   ·exact h1
   ·rw [h1];exact h
 ·simp
theorem DH {x:Ex} (h:dn x≠⟨#[]⟩):gp x=true:=by
 cases hb:gp x with
 |true=>rfl
 |false=>rw [dn,if_neg (by rw [hb];simp)] at h;exact absurd rfl h
theorem wE {x:Ex} (h:gp x=true):ay x.af=[dn x]:=by
 have hv:dn x=x.t.v:=by rw [dn,if_pos h]
 simp only [gp,Bool.and_eq_true,decide_eq_true_eq,Bool.not_eq_true',decide_eq_false_iff_not] at h
 obtain ⟨⟨⟨_,hk⟩,h1⟩,h2⟩:=h
 have hn:x.ax=[]:=List.eq_nil_of_length_eq_zero hk
 rw [hv,Ex.wg,hn]
 simp [Ex.bv,ay,dU,fl,h1,h2]
def uO (y:Li) (l:List ByteArray):Prop:=(gp y.l=true→dn y.l∈l)∧(gp y.r=true→dn y.r∈l)
structure Hk (bd:List Li) (pre:List Li) (l:List ByteArray) (W:lJ→Prop):Prop where
 Jz:∀v,v∈l→qK bd v
 LG:∀y,y∈pre→y.k=1→∀v,v∈ay y.ts→v∈l
 Jy:∀y,y∈pre→y.k=3→y.jR=1→W (cD y)∨uO y l
theorem Ho {bd:List Li} {y:Li} (hy:y∈bd) (hk:y.k=3) (hr:y.jR=1) {l:List ByteArray} (hs:∀v,v∈l→qK bd v):
  (∀v,v∈(gP (cD y).a (cD y).b (cD y).ls (cD y).rs l).2→qK bd v)∧(∀v,v∈l→v∈(gP (cD y).a (cD y).b (cD y).ls (cD y).rs l).2)∧((gP (cD y).a (cD y).b (cD y).ls (cD y).rs l).1=true→uO y (gP (cD y).a (cD y).b (cD y).ls (cD y).rs l).2)∧((gP (cD y).a (cD y).b (cD y).ls (cD y).rs l).1=false→(gP (cD y).a (cD y).b (cD y).ls (cD y).rs l).2=l):=by
 have sub:∀{m:List ByteArray},bT m l=true→∀w,w∈m→w∈l:=fun h w hw=>of_decide_eq_true (List.all_eq_true.1 h w hw)
 unfold gP cD
 simp only
 split
 ·rename_i h
  have hb:=DH h.1
  refine ⟨fun v hv=> ?_,fun v hv=>fJ.2 (.inl hv),fun _=>⟨fun _=>fJ.2 (.inr rfl),fun hb2=>fJ.2 (.inl (sub h.2.2 _ (by rw [wE hb2];simp)))⟩,fun h=>by cases h⟩
  rcases fJ.1 hv with hv|rfl
  ·exact hs v hv
  ·exact .yd y hy hk hr hb fun w hw=>hs w (sub h.2.2 w hw)
 ·split
  ·rename_i h
   have hb:=DH h.1
   refine ⟨fun v hv=> ?_,fun v hv=>fJ.2 (.inl hv),fun _=>⟨fun hb2=>fJ.2 (.inl (sub h.2.2 _ (by rw [wE hb2];simp))),fun _=>fJ.2 (.inr rfl)⟩,fun h=>by cases h⟩
   rcases fJ.1 hv with hv|rfl
   ·exact hs v hv
   ·exact .qL y hy hk hr hb fun w hw=>hs w (sub h.2.2 w hw)
  ·exact ⟨hs,fun v hv=>hv,(fun h=>by cases h),fun _=>rfl⟩
theorem Hk.xE {bd:List Li} {W W':lJ→Prop} {l l':List ByteArray} (h:Hk bd bd l W) (hs:∀v,v∈l'→qK bd v) (hm:∀v,v∈l→v∈l') (hw:∀y,y∈bd→y.k=3→y.jR=1→W (cD y)→W' (cD y)∨uO y l'):Hk bd bd l' W':=
 ⟨hs,fun y hy hk v hv=>hm v (h.LG y hy hk v hv),fun y hy hk hr=>(h.Jy y hy hk hr).elim (hw y hy hk hr) fun d=> .inr ⟨fun e=>hm _ (d.1 e),fun e=>hm _ (d.2 e)⟩⟩
def NT (bd:List Li) (qs:List lJ):Prop:=∀q,q∈qs→∃y,y∈bd∧y.k=3∧y.jR=1∧q=cD y
theorem yp {bd:List Li}:∀(qs:List lJ) (l:List ByteArray) (lf:List lJ),NT bd qs→Hk bd bd l (fun q=>q∈lf∨q∈qs)→
  Hk bd bd (qs.foldl fM (l,lf)).1 (fun q=>q∈(qs.foldl fM (l,lf)).2)∧(∀q,q∈(qs.foldl fM (l,lf)).2→q∈lf∨q∈qs)∧(qs.foldl fM (l,lf)).2.length≤lf.length+qs.length∧((qs.foldl fM (l,lf)).2.length=lf.length+qs.length→(qs.foldl fM (l,lf)).1=l∧∀q,q∈qs→(gP q.a q.b q.ls q.rs l).1=false)
 |[],l,lf,_,h=>⟨⟨h.Jz,h.LG,fun y a b c=>(h.Jy y a b c).imp (fun h=>h.resolve_right (by simp)) (fun h=>h)⟩,fun q h=> .inl h,by simp,fun _=>⟨rfl,by simp⟩⟩
 |q::qs,l,lf,hq,h=>by
  obtain ⟨y,hy,hk,hr,rfl⟩:=hq q (by simp)
  obtain ⟨t1,t2,t3,t4⟩:=Ho hy hk hr h.Jz
  rw [List.foldl_cons]
  have e:fM (l,lf) (cD y)=((gP (cD y).a (cD y).b (cD y).ls (cD y).rs l).2,if (gP (cD y).a (cD y).b (cD y).ls (cD y).rs l).1 then lf else lf++[cD y]):=rfl
  rw [e]
  have hq':NT bd qs:=fun q h=>hq q (by simp [h])
  cases hb:(gP (cD y).a (cD y).b (cD y).ls (cD y).rs l).1 with
  |true=>
   rw [if_pos rfl]
   obtain ⟨i1,i2,i3,i4⟩:=yp qs _ lf hq' (h.xE t1 t2 fun z hz hkz hrz hw=>by
    rcases hw with hw|hw
    ·exact .inl (.inl hw)
    ·rcases List.mem_cons.1 hw with hw|hw
     ·right
      have d:=t3 hb
      unfold uO at d⊢
      have e1:dn z.l=dn y.l:=congrArg lJ.a hw
      have e2:dn z.r=dn y.r:=congrArg lJ.b hw
      have lone:∀{u v:Ex},gp u=true→dn u=dn v→gp v=true:=fun {u v} hu huv=>DH (by
       rw [←huv,dn,if_pos hu]
       simp only [gp,Bool.and_eq_true,decide_eq_true_eq,Bool.not_eq_true',decide_eq_false_iff_not] at hu
       exact hu.1.2)
      exact ⟨fun h=>by rw [e1];exact d.1 (lone h e1),fun h=>by rw [e2];exact d.2 (lone h e2)⟩
     ·exact .inl (.inr hw))
   exact ⟨i1,fun q h=>(i2 q h).imp (fun h=>h) (fun h=>by simp [h]),by simp only [List.length_cons,cD] at*;omega,fun h=>by simp only [List.length_cons,cD] at*;omega⟩
  |false=>
   rw [if_neg (by simp)]
   have e2:=t4 hb
   rw [e2]
   obtain ⟨i1,i2,i3,i4⟩:=yp qs l (lf++[cD y]) hq' (h.xE h.Jz (fun v h=>h) fun z hz hkz hrz hw=> .inl (by
    rcases hw with hw|hw
    ·exact .inl (by simp [hw])
    ·rcases List.mem_cons.1 hw with hw|hw
     ·exact .inl (by simp [hw])
     ·exact .inr hw))
   refine ⟨i1,fun q h=> ?_,by simp only [List.length_append,List.length_cons,List.length_nil] at i3⊢;omega,fun h=> ?_⟩
   ·rcases i2 q h with h|h
    ·rcases List.mem_append.1 h with h|h
     ·exact .inl h
     ·exact .inr (by rw [List.mem_singleton.1 h];simp)
    ·exact .inr (by simp [h])
   ·obtain ⟨j1,j2⟩:=i4 (by simp only [List.length_append,List.length_cons,List.length_nil] at h⊢;omega)
    refine ⟨j1,fun q h=> ?_⟩
    rcases List.mem_cons.1 h with h|h
    ·rw [h];exact hb
    ·exact j2 q h
theorem Hn {bd:List Li} {l:List ByteArray} {qs:List lJ} (h:Hk bd bd l (· ∈qs)) (hn:∀q,q∈qs→(gP q.a q.b q.ls q.rs l).1=false):∀v,v∈l↔qK bd v:=by
 intro v
 refine ⟨h.Jz v,fun hv=> ?_⟩
 have all:∀{m:List ByteArray},(∀w,w∈m→w∈l)→bT m l=true:=fun h=>List.all_eq_true.2 fun w hw=>decide_eq_true (h w hw)
 have ne:∀{x:Ex},gp x=true→dn x≠⟨#[]⟩:=fun {x} hu=>by
  rw [dn,if_pos hu]
  simp only [gp,Bool.and_eq_true,decide_eq_true_eq,Bool.not_eq_true',decide_eq_false_iff_not] at hu
  exact hu.1.2
 induction hv with
 |wr y hy hk v hv=>exact h.LG y hy hk v hv
 |yd y hy hk hr hl hw ih=>
  rcases h.Jy y hy hk hr with hq|hd
  ·apply Classical.byContradiction
   intro hc
   have:=hn _ hq
   unfold gP cD at this
   simp only at this
   rw [if_pos ⟨ne hl,hc,all ih⟩] at this
   cases this
  ·exact hd.1 hl
 |qL y hy hk hr hl hw ih=>
  rcases h.Jy y hy hk hr with hq|hd
  ·apply Classical.byContradiction
   intro hc
   have:=hn _ hq
   unfold gP cD at this
   simp only at this
   split at this
   ·cases this
   ·rw [if_pos ⟨ne hl,hc,all ih⟩] at this
    cases this
  ·exact hd.2 hl
theorem DI {bd:List Li}:∀(l2 pre:List Li) (a:List ByteArray×List lJ),(∀y,y∈l2→y∈bd)→Hk bd pre a.1 (· ∈a.2)→NT bd a.2→Hk bd (pre++l2) (l2.foldl kD a).1 (· ∈(l2.foldl kD a).2)∧NT bd (l2.foldl kD a).2
 |[],pre,a,_,h,ho=>by rw [List.append_nil];exact ⟨h,ho⟩
 |y::r,pre,a,hl,h,ho=>by
  have hy:=hl y (by simp)
  have key:Hk bd (pre++[y]) (kD a y).1 (· ∈(kD a y).2)∧NT bd (kD a y).2:=by
   unfold kD
   split
   ·rename_i hk
    refine ⟨⟨fun v hv=> ?_,fun z hz hkz v hv=> ?_,fun z hz hkz hrz=> ?_⟩,ho⟩
    ·rcases (gw _ _ _).1 hv with hv|hv
     ·exact h.Jz v hv
     ·exact .wr y hy hk v hv
    ·refine (gw _ _ _).2 ?_
     rcases List.mem_append.1 hz with hz|hz
     ·exact .inl (h.LG z hz hkz v hv)
     ·rw [List.mem_singleton.1 hz] at hv;exact .inr hv
    ·rcases List.mem_append.1 hz with hz|hz
     ·rcases h.Jy z hz hkz hrz with h1|h1
      ·exact .inl h1
      ·exact .inr ⟨fun e=>(gw _ _ _).2 (.inl (h1.1 e)),fun e=>(gw _ _ _).2 (.inl (h1.2 e))⟩
     ·rw [List.mem_singleton.1 hz,hk] at hkz;cases hkz
   ·rename_i hk
    split
    ·rename_i hk2
     refine ⟨⟨h.Jz,fun z hz hkz v hv=> ?_,fun z hz hkz hrz=> ?_⟩,fun q hq=> ?_⟩
     ·rcases List.mem_append.1 hz with hz|hz
      ·exact h.LG z hz hkz v hv
      ·rw [List.mem_singleton.1 hz] at hkz;exact absurd hkz hk
     ·rcases List.mem_append.1 hz with hz|hz
      ·exact (h.Jy z hz hkz hrz).imp (fun h=>by simp [h]) (fun h=>h)
      ·rw [List.mem_singleton.1 hz];exact .inl (by simp)
     ·rcases List.mem_append.1 hq with hq|hq
      ·exact ho q hq
      ·exact ⟨y,hy,hk2.1,hk2.2,List.mem_singleton.1 hq⟩
    ·rename_i hk2
     refine ⟨⟨h.Jz,fun z hz hkz v hv=> ?_,fun z hz hkz hrz=> ?_⟩,ho⟩
     ·rcases List.mem_append.1 hz with hz|hz
      ·exact h.LG z hz hkz v hv
      ·rw [List.mem_singleton.1 hz] at hkz;exact absurd hkz hk
     ·rcases List.mem_append.1 hz with hz|hz
      ·exact h.Jy z hz hkz hrz
      ·rw [List.mem_singleton.1 hz] at hkz hrz;exact absurd ⟨hkz,hrz⟩ hk2
  rw [List.foldl_cons]
  have:=DI r (pre++[y]) (kD a y) (fun z hz=>hl z (by simp [hz])) key.1 key.2
  rw [List.append_assoc,List.singleton_append] at this
  exact this
theorem z1 {bd:List Li} (hall:∀y,y∈bd→y.af.length<1000):∀(n:Nat) (l:List ByteArray) (qs:List lJ),qs.length≤n→qs.length≤16→l.length+n*16<100000→NT bd qs→Hk bd bd l (· ∈qs)→
  ∃(l2:List ByteArray) (qs2:List lJ),Lo 57 (O Tryz.f175 1) ⟨[uM,yo],rp l qs⟩ (.ar 3) ⟨[uM],rp l2 qs2⟩∧∀v,v∈l2↔qK bd v
 |n,l,qs,h1,h0,h2,ho,hf=>by
  have hsm:∀q,q∈qs→q.ls.length≤9223372036854775807∧q.rs.length≤9223372036854775807:=fun q hq=>by
   obtain ⟨y,hy,_,_,rfl⟩:=ho q hq
   have h3:=hall y hy
   have h4:=eP y.l.af []
   have h5:=eP y.r.af []
   simp only [Li.af,List.length_append,List.length_nil] at*
   exact ⟨by show (ay y.l.af).length≤_;unfold ay;omega,by show (ay y.r.af).length≤_;unfold ay;omega⟩
  have sp:=Qo l qs (by omega) (by omega) hsm
  obtain ⟨b1,b2⟩:=LJ l qs
  obtain ⟨i1,i2,i3,i4⟩:=yp qs l [] ho ⟨hf.Jz,hf.LG,fun y a b c=>(hf.Jy y a b c).imp (fun h=> .inr h) (fun h=>h)⟩
  generalize hl':(qs.foldl fM (l,[])).1=l' at*
  generalize hq':(qs.foldl fM (l,[])).2=q' at*
  by_cases hlt:q'.length<qs.length
  ·rw [decide_eq_true hlt] at sp
   cases n with
   |zero=>omega
   |succ n=>
    obtain ⟨l3,q3,hL,h4⟩:=z1 hall n _ _ (by omega) (by omega) (by omega) (fun q hq=>ho q ((i2 q hq).resolve_left (by simp))) i1
    have o:EN 57 (O Tryz.f175 1) ⟨[uM,yo],rp l qs⟩ ⟨[uM,yo],rp l' q'⟩:=av Tryz.f175 60000
    obtain ⟨e,t,⟨rfl,rfl⟩,h⟩:=o
    exact ⟨l3,q3,.cR h hL,h4⟩
  ·rw [decide_eq_false hlt] at sp
   have o:En 57 (O Tryz.f175 1) ⟨[uM,yo],rp l qs⟩ (fun e t=>e= .ar 3∧t=⟨[uM],rp l' q'⟩):=av Tryz.f175 60000
   obtain ⟨e,t,⟨rfl,rfl⟩,h⟩:=o
   obtain ⟨rfl,j2⟩:=i4 (by simp only [List.length_nil];omega)
   exact ⟨_,_,.bD h (by simp),Hn hf j2⟩
theorem JB (hbd:bd.length≤16) (hall:∀y,y∈bd→y.af.length<1000):∃(l:List ByteArray),Sp 175 [sL bd] [] (.aA 100005 0 0) (fp l)∧∀v,v∈l↔qK bd v:=by
 obtain ⟨hL,h1,h2⟩:=We bd hbd hall
 obtain ⟨f1,f2⟩:=DI bd [] ([],[]) (fun y h=>h) ⟨by simp,by simp,by simp⟩ (fun q hq=>by simp at hq)
 rw [List.nil_append] at f1
 obtain ⟨l2,qs2,hL2,h4⟩:=z1 hall 16 _ _ (by omega) (by omega) (by omega) f2 f1
 have o:En 57 (ai Tryz.f175) ⟨bO 0 [sL bd],[]⟩ (fun e t=>e= .aR∧t=⟨[(2,.aA 100005 0 0)],rp l2 qs2⟩):=av Tryz.f175 99996
 obtain ⟨_,_,⟨rfl,rfl⟩,r⟩:=o
 exact ⟨l2,bK.CB (st':=⟨[(2,.aA 100005 0 0)],fp l2⟩) (fn:=Tryz.f175) (c:=ai Tryz.f175) (by kernel_rfl) (by kernel_rfl) rfl rfl (r.p.fb [2] [K1 100003,K0 100005] (cs:=[aa (l2.map AV.J)=true∧aa (pos l2)=true]) rfl ⟨⟨bw l2,jg l2⟩,trivial⟩) (.inr rfl) (by kernel_rfl),h4⟩
theorem jk {p:ByteArray} {hd:List Ar} {bd:List Li} (h:ch p hd bd=true):od p=true∧hd.length≤24∧bd.length≤16∧(∀y,y∈bd→fk y=true)∧∀y,y∈bd→y.af.length<1000:=by
 simp only [ch,Bool.and_eq_true,decide_eq_true_eq] at h
 exact ⟨h.1.1.1.1.1,h.1.1.1.1.2,h.1.1.1.2,List.all_eq_true.1 h.1.2,fun y hy=>fD (List.all_eq_true.1 h.1.2 y hy)⟩
theorem JA (p:ByteArray) (hd:List Ar) (bd:List Li):Sp 121 [.al [.J p,sA hd,sL bd]] [] (sI (eD p hd bd)) []:=by
 have sp:=FM p hd bd
 cases hru:ch p hd bd with
 |false=>
  rw [hru] at sp;rw [eD,if_neg (by rw [hru];simp)]
  exact av Tryz.f121 0 (hr:=fun h=>zK Tryz.f121 16 h)
 |true=>
  rw [hru] at sp
  obtain ⟨_,q1,q2,q3,q4⟩:=jk hru
  have q5:=(fF hru).2.2
  have hB:(hd.map Ar.t++az bd).length≤16024:=by rw [List.length_append,List.length_map];omega
  have hV:=bU (hd.map Ar.t++az bd)
  obtain ⟨l,s175,hl⟩:=JB bd q2 q4
  have s91:=OY p hd bd (by omega) (by omega)
  have s176:=DG (ay (hd.map Ar.t++az bd)) l (by omega)
  rw [eD,if_pos hru,←qM hl]
  have o:En 16 (ai Tryz.f121) ⟨bO 0 [.al [.J p,sA hd,sL bd]],[]⟩ (fun e t=>e= .aR∧t=⟨[(2,sI (if bT (ay (hd.map Ar.t++az bd)) l=true then 0 else 73))],fp l⟩):=by
   cases hb:bT (ay (hd.map Ar.t++az bd)) l<;>rw [hb] at s176<;>exact av Tryz.f121 0
  obtain ⟨_,_,⟨rfl,rfl⟩,r⟩:=o
  exact bK.qj (st':=⟨[(2,sI _)],[]⟩) (fn:=Tryz.f121) (c:=ai Tryz.f121) (by kernel_rfl) (by kernel_rfl) (by simp [aa,aJ]) (r.p.fb [2] [] (cs:=[]) rfl trivial) (.inr rfl) (by kernel_rfl) rfl
@[reducible,instance] def Wc (p:ByteArray) (hd:List Ar) (bd:List Li):=kT (JA p hd bd)
end
end Go.Ped
