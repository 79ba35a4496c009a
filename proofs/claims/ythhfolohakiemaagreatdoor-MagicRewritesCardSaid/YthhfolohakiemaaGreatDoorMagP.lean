/- What the functions of the packages check, depend and adorn answer, and their counterparts in the document, is proved for every input. -/
import Derived.Test.YthhfolohakiemaaGreatDoorMagI
import Derived.Test.YthhfolohakiemaaGreatDoorMagO
set_option linter.all false
set_option maxRecDepth 20000
set_option maxHeartbeats 800000
set_option maxRecDepth 20000
set_option maxHeartbeats 800000
namespace Go.Ped
open Go.RowKit Go.Proofs
section
variable (L:List Ad) (rv:List AV) (out:List Ru) (p:ByteArray) (a:Ad) (hd:List Ar)
theorem RE (l:List Li) (hne:l≠[]) (hl:l.length<100000000):Sp 82 [sL l] [] (.aw 45007 0 (l.map Li.av).length) [(45007,.aw 16 (l.map Li.av))]:=by
 cases l with
 |nil=>exact absurd rfl hne
 |cons x l=>
  obtain ⟨e,t,⟨rfl,rfl⟩,h⟩:=QH (Li.av x) (l.map Li.av) (Ee (x::l)) (dG (x::l)) (by simp at hl;simp;omega)
  have h1:Sp 82 [sL (x::l)] [] (.aw 7 0 ((x::l).map Li.av).length) [(7,.aw 16 ((x::l).map Li.av))]:=bK.CB (st':=⟨[(2,.aw 7 0 ((x::l).map Li.av).length)],[(7,.aw 16 ((x::l).map Li.av))]⟩) (fn:=Tryz.f82) (c:=ai Tryz.f82) (by kernel_rfl) (by kernel_rfl) rfl rfl h.p (.inr rfl) (by kernel_rfl)
  have h2:=h1.gK [] [(7,45007)] (args':=[sL (x::l)]) rfl rfl rfl
  have e:bW (kr [(7,45007)]) ((x::l).map Li.av)=(x::l).map Li.av:=aM _ _ (dG (x::l))
  simp only [List.map_cons,List.map_nil,bg] at h2 e⊢
  rw [e] at h2
  exact h2
def RD (s:ByteArray) (i:Nat):Prop:=s.data.toList[i]? =some 98
theorem yA (s:ByteArray) (hd:List Ar) (v:ByteArray):v∈dV s hd↔∃(j:Nat) (y:Ar),hd[j]? =some y∧RD s j∧y.t.v=v∧v≠⟨#[]⟩:=by
 have go:∀(hd:List Ar) (a:Nat×List ByteArray),v∈(hd.foldl (ew s) a).2↔v∈a.2∨∃(j:Nat) (y:Ar),hd[j]? =some y∧RD s (a.1+j)∧y.t.v=v∧v≠⟨#[]⟩:=by
  intro hd
  induction hd with
  |nil=>intro a;simp
  |cons y hd ih=>
   intro a
   rw [List.foldl_cons,ih]
   have e:(ew s a y).1=a.1+1:=rfl
   rw [e]
   have hm:v∈(ew s a y).2↔v∈a.2∨(RD s a.1∧y.t.v=v∧v≠⟨#[]⟩):=by
    unfold ew RD
    simp only
    split
    ·rename_i hc
     simp only [List.mem_append,List.mem_singleton]
     constructor
     ·rintro (h|rfl)
      ·exact .inl h
      ·exact .inr ⟨hc.1,rfl,hc.2.1⟩
     ·rintro (h|⟨_,rfl,_⟩)
      ·exact .inl h
      ·exact .inr rfl
    ·rename_i hc
     constructor
     ·exact .inl
     ·rintro (h|⟨h1,rfl,h2⟩)
      ·exact h
      ·exact Classical.byContradiction fun hn=>hc ⟨h1,h2,hn⟩
   rw [hm]
   constructor
   ·rintro ((h|⟨h1,h2,h3⟩)|⟨j,z,h1,h2,h3,h4⟩)
    ·exact .inl h
    ·exact .inr ⟨0,y,rfl,h1,h2,h3⟩
    ·exact .inr ⟨j+1,z,h1,by rw [show a.1+(j+1)=a.1+1+j by omega];exact h2,h3,h4⟩
   ·rintro (h|⟨j,z,h1,h2,h3,h4⟩)
    ·exact .inl (.inl h)
    ·cases j with
     |zero=>simp only [List.getElem?_cons_zero,Option.some.injEq] at h1;subst h1;exact .inl (.inr ⟨h2,h3,h4⟩)
     |succ j=>exact .inr ⟨j,z,h1,by rw [show a.1+1+j=a.1+(j+1) by omega];exact h2,h3,h4⟩
 unfold dV
 rw [go hd (0,[])]
 simp
theorem Xs (ts:List Tm) (hts:ts.length<1000000000000):Sp 10 [.al [.J p,sT ts],.ab] [] (.J (aW ts [])) []:=(wv p ts [] hts (by simp)).Dq (.bz (.bb _) (.bz .ab .iV))
@[reducible,instance] def aaH (p:ByteArray) (ts:List Tm):=kF (Xs p ts)
theorem yB (l:List Ru):∀e,e∈l.map Ru.av→c8 3 e:=fun e he=>by
 obtain ⟨x,_,rfl⟩:=List.mem_map.1 he
 exact ⟨rfl,by simp [Ru.av,AV.ac,cj]⟩
@[reducible,instance] def abN (p:ByteArray) (ts:List Tm) (ks:List ByteArray):=kG (wv p ts ks)
theorem u98 (x:UInt8):((x.toNat:Int)=98)=(x=98):=by
 refine propext ⟨fun h=>UInt8.toNat_inj.1 (by show x.toNat=98;omega),fun h=>by rw [h];rfl⟩
abbrev Ei:Nat×AV:=(0,.aA 100000 0 0)
abbrev Mh (W:List (Nat×Ob)) (p:ByteArray) (a:Ad) (hd:List Ar) (bd:List Li) (k:Nat×List ByteArray) (i:Int):St:=⟨[Ei,(4,.aA 2004 0 0),(5,.aA 2005 0 0),(6,.aO 1143 k.2.length),(15,sA hd),(16,sI (hd.map Ar.av).length),(17,sI i)],W++[(2004,.an [.J p,sA hd,sL bd]),(2005,.an [.J a.1,.J a.2]),(1143,.ao 1 (k.2.map .J))]⟩
attribute [local simp] ew u98 bq zO in
theorem t47 (rk rv:List AV) (out:List Ru) (p:ByteArray) (a:Ad) (hd:List Ar) (bd:List Li) (hsm:hd.length≤24) (hpl:a.2.size=hd.length) (i:Nat) (k:Nat×List ByteArray) (hi:i<hd.length) (hI:k.1=i∧k.2.length≤i):En 119 (O Tryz.f47 0) (Mh (wp L rk rv out) p a hd bd k i) (fun e t=>e= .aj∧∃y,hd[i]? =some y∧t=Mh (wp L rk rv out) p a hd bd (ew a.2 k y) ((i+1:Nat):Int)):=av Tryz.f47 2000
theorem dq (ts:List Tm) (ks:List ByteArray):(aW ts ks).size=ts.length:=by simp [aW,ByteArray.size]
abbrev Mg:Nat×AV:=(10,.aA 2010 0 0)
abbrev Bw (L:List Ad) (rn:List ByteArray) (rv:List AV) (out:List Ru) (nm:ByteArray) (hd:List Ar) (bd bo:List Li) (ks:List ByteArray):St:=⟨[Ei,(6,.aO 1143 ks.length),Mg,(11,.aw 45007 0 (bd.map Li.av).length)],wp L (rn.map AV.J) rv out++[(1143,.ao 1 (ks.map .J)),(2010,.an [.J nm,sA hd,.aO 1298 bo.length]),(45007,.aw 16 (bd.map Li.av)),(1298,.ao 16 (bo.map Li.av))]⟩
section
variable (L:List Ad) (rn:List ByteArray) (rv:List AV) (out:List Ru) (nm:ByteArray) (hd:List Ar) (bd bo:List Li) (ks:List ByteArray) (i:Nat) (x:Li)
 (hi:i<bd.length) (hsm:bd.length≤1000) (hx:(bd.map Li.av)[0+Int.toNat (i:Int)]? =some x.av) (hB:x.af.length<1000) (hts:x.ts.length<1000) (hv:(ay x.af).length<1000) (hbo:bo.length<1000000) (hks:ks.length<100000) (o83:bK Tryz.prog 83 [sL bd,sS ks] [] (sI i) []) (o85:bK Tryz.prog 85 [.aw 45007 0 (bd.map Li.av).length,sI i,sI ((i:Int)+1)] [(45007,.aw 16 (bd.map Li.av))] (.aw 45007 0 ((bd.eraseIdx i).map Li.av).length) [(45007,.aw 16 ((bd.eraseIdx i).map Li.av))])
include hi hsm hx hB hv hbo hks o83 o85 in
theorem Xt (h:¬x.k=1∨x.k=1∧bs true (.J x.p) (rn.map AV.J) 0=some none):En 119 (O Tryz.f47 1) (Bw L rn rv out nm hd bd bo ks) (fun e t=>e= .aj∧t=Bw L rn rv out nm hd (bd.eraseIdx i) (bo++[x]) (ks++ay x.af)):=by
 have o52:=U6 x (by omega)
 rcases h with h|⟨h,hf⟩
 ·exact av Tryz.f47 2000
 ·exact av Tryz.f47 2000
include hi hsm hx hB hts hv hbo hks o83 o85 in
theorem Xu (hL:L.length<1000000) (hp:x.p.size<1000000) (h:x.k=1) (es:List AV) (he:0<es.length) (hf:∃j,bs true (.J x.p) (rn.map AV.J) 0=some (some j)∧rv[j]? =some (.aF es false)):En 119 (O Tryz.f47 1) (Bw L rn rv out nm hd bd bo ks) (fun e t=>e= .aj∧t=Bw (eE L (x.p,aW x.ts ks)) rn rv out nm hd (bd.eraseIdx i) (bo++[({x with p:=aH x.p (aW x.ts ks)}:Li)]) (ks++ay x.af)):=by
 have o52:Sp 52 [({x with p:=aH x.p (aW x.ts ks)}:Li).av] [] (sS (ay x.af)) []:=U6 {x with p:=aH x.p (aW x.ts ks)} (show x.af.length<_ by omega)
 have hs:=dq x.ts ks
 exact av Tryz.f47 2000
end
def RV (rn:List ByteArray) (rv:List AV):Prop:=∀j,j<rn.length→∃es,rv[j]? =some (.aF es false)∧0<es.length
inductive jB (rn:List ByteArray):List Ad→List ByteArray→List Li→List Ad→List Li→Prop where
 |iV (L:List Ad) (ks:List ByteArray):jB rn L ks [] L []
 |HQ {L L':List Ad} {ks:List ByteArray} {rest body:List Li} (i:Nat) (hi:i=mv rest ks) (x:Li) (hx:rest[i]? =some x) (hn:¬(x.k=1∧x.p∈rn)) (h:jB rn L (ks++ay x.af) (rest.eraseIdx i) L' body):jB rn L ks rest L' (x::body)
 |Uj {L L':List Ad} {ks:List ByteArray} {rest body:List Li} (i:Nat) (hi:i=mv rest ks) (x:Li) (hx:rest[i]? =some x) (hk:x.k=1) (hp:x.p∈rn) (h:jB rn (eE L (x.p,aW x.ts ks)) (ks++ay x.af) (rest.eraseIdx i) L' body):
  jB rn L ks rest L' (({x with p:=aH x.p (aW x.ts ks)}:Li)::body)
theorem tx:(eE L a).length≤L.length+1:=by
 unfold eE
 split
 ·omega
 ·simp
abbrev Eh (L:List Ad) (rn:List ByteArray) (rv:List AV) (out:List Ru) (nm:ByteArray) (hd:List Ar) (bo:List Li):St:=⟨[Ei,Mg],wp L (rn.map AV.J) rv out++[(2010,.an [.J nm,sA hd,sL bo])]⟩
theorem JS (rn:List ByteArray) (rv:List AV) (out:List Ru) (nm:ByteArray) (hd:List Ar) (hrv:RV rn rv):∀(n:Nat) (L:List Ad) (bd bo:List Li) (ks:List ByteArray),bd.length=n→n≤1000→zC bd→(∀y,y∈bd→(y.k=1∨y.k=2)→y.p.size≤120)→bo.length+n<1000000→ks.length+n*1000<100000→L.length+n<1000000→
  ∃(L':List Ad) (body:List Li),jB rn L ks bd L' body∧Lo 119 (O Tryz.f47 1) (Bw L rn rv out nm hd bd bo ks) (.ar 2) (Eh L' rn rv out nm hd (bo++body))
 |0,L,bd,bo,ks,h0,_,_,_,_,_,_=>by
  have:bd=[]:=List.eq_nil_of_length_eq_zero h0
  subst this
  obtain ⟨_,_,⟨rfl,rfl⟩,h⟩:En 119 (O Tryz.f47 1) (Bw L rn rv out nm hd [] bo ks) (fun e t=>e= .ar 2∧t=Eh L rn rv out nm hd bo):=av Tryz.f47 2000
  exact ⟨L,[],.iV L ks,by rw [List.append_nil];exact .bD h (by simp)⟩
 |n+1,L,bd,bo,ks,h0,hsm,hT,hn,hbl,hks,hL=>by
  have hi:=RC ks (bd:=bd) (by rintro rfl;simp at h0)
  have sp:=Xm bd ks (by omega) (by omega) hT
  generalize hie:mv bd ks=i at hi sp
  have hx:bd[i]? =some bd[i]:=List.getElem?_eq_getElem hi
  generalize bd[i]=x at hx
  have hxm:=List.mem_of_getElem? hx
  obtain ⟨hB,_,_,hv,_⟩:=hT x hxm
  have hts:x.ts.length<1000:=by unfold Li.af at hB;simp only [List.length_append] at hB;omega
  have hxa:(bd.map Li.av)[0+Int.toNat (i:Int)]? =some x.av:=by rw [Nat.zero_add,Int.toNat_natCast,List.getElem?_map,hx];rfl
  have h85:=k85 bd i hi (by omega)
  have hl:(bd.eraseIdx i).length=n:=by rw [List.length_eraseIdx_of_lt hi];omega
  have hsub:∀y,y∈bd.eraseIdx i→y∈bd:=fun y hy=>List.mem_of_mem_eraseIdx hy
  have go:=fun (L2:List Ad) (z:Li) (hL2:L2.length≤L.length+1)=>JS rn rv out nm hd hrv n L2 (bd.eraseIdx i) (bo++[z]) (ks++ay x.af) hl (by omega) (fun y hy=>hT y (hsub y hy)) (fun y hy=>hn y (hsub y hy)) (by simp;omega) (by rw [List.length_append];omega) (by omega)
  by_cases hp:x.k=1∧x.p∈rn
  ·obtain ⟨j,hf,hj⟩:=cy (i:=0) hp.2
   obtain ⟨es,h5,h6⟩:=hrv j (List.getElem?_eq_some_iff.1 hj).1
   obtain ⟨_,_,⟨rfl,rfl⟩,h⟩:=Xu L rn rv out nm hd bd bo ks i x hi (by omega) hxa hB hts hv (by omega) (by omega) sp h85 (by omega) (by have:=hn x hxm (.inl hp.1);omega) hp.1 es h6 ⟨j,by simpa using hf,h5⟩
   obtain ⟨L',body,hs,hL'⟩:=go _ {x with p:=aH x.p (aW x.ts ks)} (tx L _)
   rw [List.append_assoc] at hL'
   exact ⟨L',_,.Uj i hie.symm x hx hp.1 hp.2 hs,.cR h hL'⟩
  ·obtain ⟨_,_,⟨rfl,rfl⟩,h⟩:=Xt L rn rv out nm hd bd bo ks i x hi (by omega) hxa hB hv (by omega) (by omega) sp h85 (by
    by_cases hk:x.k=1
    ·exact .inr ⟨hk,co fun h=>hp ⟨hk,h⟩⟩
    ·exact .inl hk)
   obtain ⟨L',body,hs,hL'⟩:=go L x (by omega)
   rw [List.append_assoc] at hL'
   exact ⟨L',_,.HQ i hie.symm x hx hp hs,.cR h hL'⟩
def wR (s:ByteArray) (hd:List Ar) (ks:List ByteArray):Prop:=∀v,v∈ks↔∃(j:Nat) (y:Ar),hd[j]? =some y∧RD s j∧y.t.v=v∧v≠⟨#[]⟩
theorem k47 (rn:List ByteArray) (rv:List AV) (out:List Ru) (p:ByteArray) (hd:List Ar) (bd:List Li) (a:Ad) (hrv:RV rn rv) (hs:ji p hd bd) (hpl:a.2.size=hd.length) (hp:a.1.size≤120) (hL:L.length<999000) (hl:out.length<1000000000):
  ∃(ks:List ByteArray) (L':List Ad) (body:List Li),wR a.2 hd ks∧jB rn L ks bd L' body∧Sp 47 [.aA 100000 0 0,.al [.J p,sA hd,sL bd],.al [.J a.1,.J a.2]] (wp L (rn.map AV.J) rv out) (.bC []) (wp L' (rn.map AV.J) rv (out++[⟨aH a.1 a.2,hd,body⟩])):=by
 obtain ⟨_,hs1,hs2,hs3,hs40⟩:=hs
 obtain ⟨o0,hk⟩:=be (P:=Tryz.prog) (n:=119) (c:=O Tryz.f47 0) (k:=0) (l:=hd) (fun i k=>Mh (wp L (rn.map AV.J) rv out) p a hd bd k i) (fun k=>⟨[Ei,(4,.aA 2004 0 0),(5,.aA 2005 0 0),(6,.aO 1143 k.2.length)],wp L (rn.map AV.J) rv out++[(2004,.an [.J p,sA hd,sL bd]),(2005,.an [.J a.1,.J a.2]),(1143,.ao 1 (k.2.map .J))]⟩) (ew a.2) (fun i k=>k.1=i∧k.2.length≤i) (fun i k hi hI=>t47 L (rn.map AV.J) rv out p a hd bd hs1 hpl i k hi hI) (fun i k y _ h=>by unfold ew;simp only;split<;>simp<;>omega) (fun k h=>av Tryz.f47 2000) (0,[]) (by simp)
 have hN:a.2.size<1000:=by omega
 by_cases hb:bd=[]
 ·subst hb
  have o82:=k82 [] (by simp)
  obtain ⟨_,_,⟨rfl,rfl⟩,h⟩:En 119 (O Tryz.f47 1) ⟨[Ei,Mg,(11,sL ([]:List Li))],wp L (rn.map AV.J) rv out++[(2010,.an [.J (aH a.1 a.2),sA hd,.aO 1298 0]),(1298,.ao 16 [])]⟩ (fun e t=>e= .ar 2∧t=Eh L rn rv out (aH a.1 a.2) hd []):=av Tryz.f47 2000
  have o1:=bJ.bD h (by simp)
  exact ⟨dV a.2 hd,L,[],yA a.2 hd,.iV _ _,zM Tryz.f47 119 (qE (av Tryz.f47 2000 (hr:=FD 6 (S1:=Eh L rn rv out (aH a.1 a.2) hd []) (by kernel_rfl) (Le.bb _) (av Tryz.f47 60000)))) (rr L (rn.map AV.J) rv out)⟩
 ·have o82:=RE bd hb (by omega)
  obtain ⟨L',body,hst,o1⟩:=JS rn rv out (aH a.1 a.2) hd hrv bd.length L bd [] (dV a.2 hd) rfl (by omega) (CW hs3) (fun y hy=>(hs40 y hy).1) (by simp;omega) (by have:=hk.2;unfold dV;omega) (by omega)
  exact ⟨dV a.2 hd,L',body,yA a.2 hd,hst,zM Tryz.f47 119 (qE (av Tryz.f47 2000 (hr:=FD 6 (S1:=Eh L' rn rv out (aH a.1 a.2) hd body) (by kernel_rfl) (Le.bb _) (av Tryz.f47 60000)))) (rr L (rn.map AV.J) rv out)⟩
end
section
variable (n:Nat)
def vT (i:Nat):Tm:=⟨ByteArray.mk #[86]++⟨(Lib.itoa (i:Int)).toArray⟩,0,0,⟨#[]⟩⟩
def hV (n:Nat):List Ar:=(List.range n).map fun i=>⟨0,vT i⟩
def tV (n:Nat):List Tm:=(List.range n).map vT
def HS (p:ByteArray) (n:Nat):Li:=⟨1,p,tV n,0,Jm,Jm⟩
theorem Ae:hV (n+1)=hV n++[⟨0,vT n⟩]:=by simp [hV,List.range_succ]
theorem Af:tV (n+1)=tV n++[vT n]:=by simp [tV,List.range_succ]
theorem kL:(hV n).length=n:=by simp [hV]
theorem my:(tV n).length=n:=by simp [tV]
theorem rt (i:Nat) (hi:i<25):(Lib.itoa (i:Int)).length<1000:=by
 unfold Lib.itoa
 rw [if_neg (by omega),Int.toNat_natCast]
 by_cases h:i<10
 ·rw [Lib.decDigits_one h];simp
 ·rw [Lib.decDigits_two h (by omega)];simp
abbrev Mi:Nat×AV:=(0,.aA 100000 0 0)
abbrev Xv (L:List Ad) (rn:List ByteArray) (rv:List AV) (out:List Ru) (p q nm:ByteArray) (n:Nat) (env:List (Nat×AV)):St:=⟨[Mi,(3,.aA 2003 0 0),(4,.aA 2004 0 0),(5,.aO 1005 n)]++env,wp L (rn.map AV.J) rv out++[(2003,.an [.J p,.J q]),(2004,.an [.J nm,.aO 1204 n,.ab]),(1204,.ao 5 ((hV n).map Ar.av)),(1005,.ao 4 ((tV n).map Tm.av))]⟩
attribute [local simp] vT Ae Af kL my in
theorem t48 (L:List Ad) (rn:List ByteArray) (rv:List AV) (out:List Ru) (p q nm:ByteArray) (i:Nat) (hi:i<q.size) (hq:q.size≤24):En 50 (O Tryz.f48 0) (Xv L rn rv out p q nm i [(13,sI (q.size:Nat)),(14,sI i)]) (fun e t=>e= .aj∧t=Xv L rn rv out p q nm (i+1) [(13,sI (q.size:Nat)),(14,sI ((i+1:Nat):Int))]):=by
 have o:=kU i (by omega) (by omega)
 have h:=rt i (by omega)
 have h1:=kL i
 have h2:=my i
 exact av Tryz.f48 2000
theorem Ej {xs ys:List AV} (h:uF xs ys):Wk (.aF [.al xs] false) (.aF [.al ys] false):=
 .aF _ _ false rfl (fun i e f h1 h2=>by
  match i,h1,h2 with
  |0,h1,h2=>simp at h1 h2;subst h1;subst h2;exact h.kx.1
  |i+1,h1,h2=>simp at h1) (fun i e f j x y h1 h2 h3 h4=>by
  match i,h1,h2 with
  |0,h1,h2=>simp at h1 h2;subst h1;subst h2;exact h.kx.2 j x y h3 h4
  |i+1,h1,h2=>simp at h1)
theorem k48 (L:List Ad) (rn:List ByteArray) (rv:List AV) (out:List Ru) (a:Ad) (hp:a.1.size<1000000) (hq:a.2.size≤24) (hl:out.length<1000000000):
  Sp 48 [.aA 100000 0 0,.al [.J a.1,.J a.2]] (wp L (rn.map AV.J) rv out) (.bC []) (wp L (rn.map AV.J) rv (out++[⟨aH a.1 a.2,hV a.2.size,[HS a.1 a.2.size]⟩])):=by
 have o:=d6 (P:=Tryz.prog) (n:=50) (c:=O Tryz.f48 0) (k:=0) (N:=a.2.size) (S:=fun i=>Xv L rn rv out a.1 a.2 (aH a.1 a.2) i [(13,sI (a.2.size:Nat)),(14,sI i)]) (T:=⟨[Mi,(3,.aA 2003 0 0),(4,.aA 2004 0 0),(5,sT (tV a.2.size))],wp L (rn.map AV.J) rv out++[(2003,.an [.J a.1,.J a.2]),(2004,.an [.J (aH a.1 a.2),sA (hV a.2.size),.ab])]⟩) (fun i hi=>t48 L rn rv out a.1 a.2 _ i hi hq) (have h1:=kL a.2.size;have h2:=my a.2.size;av Tryz.f48 2000)
 exact zM Tryz.f48 50 (qE (av Tryz.f48 2000 (hr:=FD 5 (S1:=⟨[Mi,(4,.aA 2004 0 0)],wp L (rn.map AV.J) rv out++[(2004,.an [.J (aH a.1 a.2),sA (hV a.2.size),.aF [.al [sJ 1,.J a.1,sT (tV a.2.size),sJ 0,sJ 0,.J ⟨#[]⟩,sJ 0,sI 0,.J ⟨#[]⟩,.ab,sJ 0,.J ⟨#[]⟩,sJ 0,sI 0,.J ⟨#[]⟩,.ab]] false])]⟩) (by kernel_rfl) (pC (y:= .aF ([HS a.1 a.2.size].map Li.av) false) 2004 2 rfl rfl (fun h=>(Ej (jj a.1 (tV a.2.size))).V h) (by simp)) (av Tryz.f48 60000)))) (rr L (rn.map AV.J) rv out)
end
section
variable (L:List Ad) (rk rv:List AV) (out:List Ru) (a:Ad)
theorem bK.Xw {P:Program} {f:FuncId} {args:List AV} {rest upd:List (Nat×Ob)} {r:AV} {id d sz:Nat} {es cs:List AV} (h:bK P f args ((id,.an (.aX sz es::cs))::rest) r upd) (hne:0<es.length) (hno:aa es=true) (hm:mid≤d→mid≤id) (hd:d≠id)
  (hr:∀x,x∈rest→x.1≠id∧x.1≠d) (hu:∀x,x∈upd→x.1≠d) (hi:∃o,ae upd id=some o) (uq:cM upd=true) (uq2:cM (upd++[(d,.aB)])=true):
  bK P f args ((id,.an (.aw d 0 es.length::cs))::(rest++[(d,.aw sz es)])) r (upd++[(d,.aB)]):=by
 intro F S β hp w vs M hl hv hpl hfr
 have h1:ae hp id=some (.an (.aw d 0 es.length::cs)):=hpl id _ (by simp)
 have h2:ae hp d=some (.aw sz es):=hpl d _ (by simp)
 have M2:=M.vP (j:=0) h1 rfl h2 hne (Nat.le_refl _) (by rw [List.take_length];exact hno) hm
 rw [List.take_length] at M2
 have ho:(Ob.an (.aw d 0 es.length::cs)).n4 0 (.aX sz es)= .an (.aX sz es::cs):=rfl
 rw [ho] at M2
 have lk:∀k,ae (ba (ba hp id (.an (.aX sz es::cs))) d .aB) k=if d=k then some .aB else if id=k then some (.an (.aX sz es::cs)) else ae hp k:=fun k=>by rw [aq,aq]
 refine (h F S β _ w vs M2 hl hv (fun k o hm'=> ?_) (fun k o hm' hn=> ?_)).mono ?_
 ·rw [lk]
  rcases List.mem_cons.1 hm' with h3|h3
  ·injection h3 with h3 h4;subst h3;subst h4
   rw [if_neg hd,if_pos rfl]
  ·obtain ⟨h4,h5⟩:=hr _ h3
   rw [if_neg (Ne.symm h5),if_neg (Ne.symm h4)]
   exact hpl k o (by simp [h3])
 ·have hk1:d≠k:=fun e=>hu _ hm' e.symm
  have hk2:id≠k:=fun e=>hn (.an (.aX sz es::cs)) (by rw [e];simp)
  rw [lk,if_neg hk1,if_neg hk2]
  refine hfr k o (by simp [hm']) fun o' h3=> ?_
  rcases List.mem_cons.1 h3 with h3|h3
  ·injection h3 with h3 _;exact hk2 h3.symm
  ·rcases List.mem_append.1 h3 with h3|h3
   ·exact hn o' (by simp [h3])
   ·rw [List.mem_singleton] at h3;injection h3 with h3 _;exact hk1 h3.symm
 ·rintro e w' ⟨v,S',β',rfl,x,m,k⟩
  refine ⟨v,S',β',rfl,x,m.hJ fun j=> ?_,k⟩
  show ae (bc _ upd) j=ae (bc hp (upd++[(d,.aB)])) j
  rw [eB uq,eB uq2,lk]
  have la:∀{l:List (Nat×Ob)},ae (l++[(d,Ob.aB)]) j=match ae l j with
    |some o=>some o
    |none=>if d=j then some .aB else none:=by
   intro l
   induction l with
   |nil=>simp only [List.nil_append,ae]
   |cons y l ih=>
    obtain ⟨a,b⟩:=y
    simp only [List.cons_append,ae]
    by_cases e:a=j
    ·rw [if_pos e,if_pos e]
    ·rw [if_neg e,if_neg e];exact ih
  rw [la]
  cases hk:ae upd j with
  |some o=>rfl
  |none=>
   simp only
   by_cases e:d=j
   ·rw [if_pos e,if_pos e]
   ·have e2:id≠j:=by
     rintro rfl
     obtain ⟨o,ho⟩:=hi
     rw [hk] at ho;cases ho
    rw [if_neg e,if_neg e,if_neg e2]
abbrev Mj:Nat×Ob:=(33,.aI (L.map bE) (sk L.length))
@[reducible] def wq (L:List Ad) (rk rv:List AV) (out:List Ru):List (Nat×Ob):=[(32,.an [.aX 2 (L.map bE),.aI 33,.bH rk rv,.aX 3 (out.map Ru.av)]),Mj L]
@[reducible] def NW (L:List Ad) (rk rv:List AV) (out:List Ru):List (Nat×Ob):=[(32,.an [.aw 34 0 (L.map bE).length,.aI 33,.bH rk rv,.aX 3 (out.map Ru.av)]),Mj L,(34,.aw 2 (L.map bE))]
def nW:List (Nat×Nat):=[(100000,32),(100001,33)]
def lW (L:List Ad) (rk rv:List AV) (out:List Ru):List (Nat×Nat×Ob):=[(100000,32,.an [.aX 2 (L.map bE),.aI 33,.bH rk rv,.aX 3 (out.map Ru.av)]),(100001,33,.aI (L.map bE) (sk L.length))]
theorem yC:(wp L rk rv out).map (fun x=>(jd nW x.1,bg (kr nW) x.2))=wq L rk rv out:=by
 simp only [wp,wq,List.map_cons,List.map_nil,bg,aM _ _ (dZ L),aM _ _ (gS L.length)]
 rfl
theorem JU:((lW L rk rv out).map fun x=>(x.1,bg (zn (lW L rk rv out)) x.2.2))=wp L rk rv out:=by
 simp only [wp,lW,List.map_cons,List.map_nil,bg,aM _ _ (dZ L),aM _ _ (gS L.length)]
 rfl
theorem Xx (rk rv:List AV) (hp:a.1.size<1000000000000000000) (hs:a.2.size<1000000000000000000):Sp 46 [.aA 32 0 0,.al [.J a.1,.J a.2]] [(32,.an [.aX 2 [],.bh,.bH rk rv,.aX 3 []])] (.J (aH a.1 a.2)) (wq [a] rk rv []):=by
 have h:=(Xr a rk rv [] hp hs).gK [(100000,32,.an [.aX 2 [],.bh,.bH rk rv,.aX 3 []])] nW (args':=[.aA 32 0 0,.al [.J a.1,.J a.2]]) rfl rfl rfl
 rw [yC] at h
 exact h
theorem JT {f:FuncId} {args:List AV} {L L':List Ad} {rk rv:List AV} {out out':List Ru} {r:AV} (h:Sp f args (wq L rk rv out) r (wq L' rk rv out')) (hne:L≠[]):Sp f args (NW L rk rv out) r (wq L' rk rv out'++[(34,.aB)]):=by
 refine bK.Xw (id:=32) (d:=34) (sz:=2) (es:=L.map bE) (cs:=[.aI 33,.bH rk rv,.aX 3 (out.map Ru.av)]) (rest:=[Mj L]) h ?_ (dZ L) (by simp [mid]) (by decide) (fun x hx=> ?_) (fun x hx=> ?_) ⟨_,rfl⟩ rfl rfl
 ·rw [List.length_map];exact List.length_pos_iff.2 hne
 ·rw [List.mem_singleton] at hx;subst hx;exact ⟨by simp,by simp⟩
 ·simp only [wq,List.mem_cons,List.not_mem_nil,or_false] at hx
  rcases hx with rfl|rfl<;>simp
theorem q47 (rn:List ByteArray) (rv:List AV) (out:List Ru) (p:ByteArray) (hd:List Ar) (bd:List Li) (a:Ad) (hrv:RV rn rv) (hs:ji p hd bd) (hpl:a.2.size=hd.length) (hp:a.1.size≤120) (hL:L.length<999000) (hl:out.length<1000000000) (hne:L≠[]):
  ∃(ks:List ByteArray) (L':List Ad) (body:List Li),wR a.2 hd ks∧jB rn L ks bd L' body∧Sp 47 [.aA 32 0 0,.al [.J p,sA hd,sL bd],.al [.J a.1,.J a.2]] (NW L (rn.map AV.J) rv out) (.bC []) (wq L' (rn.map AV.J) rv (out++[⟨aH a.1 a.2,hd,body⟩])++[(34,.aB)]):=by
 obtain ⟨ks,L',body,h1,h2,h⟩:=k47 L rn rv out p hd bd a hrv hs hpl hp hL hl
 have h3:=h.gK (lW L (rn.map AV.J) rv out) nW (args':=[.aA 32 0 0,.al [.J p,sA hd,sL bd],.al [.J a.1,.J a.2]]) rfl (JU ..) rfl
 rw [yC] at h3
 exact ⟨ks,L',body,h1,h2,JT h3 hne⟩
theorem q48 (rn:List ByteArray) (rv:List AV) (out:List Ru) (a:Ad) (hp:a.1.size<1000000) (hq:a.2.size≤24) (hl:out.length<1000000000) (hne:L≠[]):
  Sp 48 [.aA 32 0 0,.al [.J a.1,.J a.2]] (NW L (rn.map AV.J) rv out) (.bC []) (wq L (rn.map AV.J) rv (out++[⟨aH a.1 a.2,hV a.2.size,[HS a.1 a.2.size]⟩])++[(34,.aB)]):=by
 have h3:=(k48 L rn rv out a hp hq hl).gK (lW L (rn.map AV.J) rv out) nW (args':=[.aA 32 0 0,.al [.J a.1,.J a.2]]) rfl (JU ..) rfl
 rw [yC] at h3
 exact JT h3 hne
end
section
variable (L:List Ad) (rn:List ByteArray) (rv:List AV) (out:List Ru) (gz qc:List AV)
abbrev Mk:Nat×Ob:=(32,.an [.aw 34 0 (L.map bE).length,.aI 33,.bH (rn.map AV.J) rv,.aX 3 (out.map Ru.av)])
abbrev yD:Nat×Ob:=(33,.aI (L.map bE) (sk L.length))
abbrev Ml:Nat×Ob:=(34,.aw 2 (L.map bE))
abbrev Mm (L':List Ad) (out':List Ru):Nat×Ob:=(32,.an [.aX 2 (L'.map bE),.aI 33,.bH (rn.map AV.J) rv,.aX 3 (out'.map Ru.av)])
abbrev Mn (L':List Ad):Nat×Ob:=(33,.aI (L'.map bE) (sk L'.length))
abbrev ip:Nat×AV:=(4,.aA 4 0 0)
abbrev iq:Nat×AV:=(9,.aA 32 0 0)
abbrev HU:List (Nat×Ob):=[(4,.an gz),Mk L rn rv out,yD L,Ml L]
theorem XF (hz:aa gz=true) (i:Nat) (L':List Ad) (out':List Ru) (a:Ad) (r:Ru) (rs:List Ru) (k:Nat) (hk:k<rs.length) (hsm:rs.length≤2000000) (hi:i<L.length) (hr:0≤(k:Int)∧(rs.map Ru.av)[Int.toNat (k:Int)]? =some r.av) (hx:(L.map bE)[0+Int.toNat (i:Int)]? =some (.al [.J a.1,.J a.2])) (k47:Sp 47 [.aA 32 0 0,.al [.J r.p,sA r.hd,sL r.bd],.al [.J a.1,.J a.2]] [Mk L rn rv out,yD L,Ml L] (.bC []) [Mm rn rv L' out',Mn L',(34,.aB)]):EN 153 (O Tryz.f18 2) ⟨[ip,(8,.aE qc),iq,(12,sI (i:Int)),(100,sR rs),(101,sI ((rs.map Ru.av).length:Nat)),(102,sI (k:Int))],(HU L rn rv out gz)⟩ ⟨[ip,(8,.aE qc),iq,(12,sI (i:Int)),(100,sR rs),(101,sI ((rs.map Ru.av).length:Nat)),(102,sI ((k+1:Nat):Int))],[(4,.an gz),Mm rn rv L' out',Mn L']⟩:=by
 have hs0:=k47
 exact gE ⟨rfl,rfl⟩ 0 [.is true,.aA (Ru.av r),.aA (.al [.J (Prod.fst a),.J (Prod.snd a)]),.dO (.bC []) [32,33,34] [Mm rn rv L' out',Mn L',(34,.aB)]] [4,8,9,12,100,101,102] [K1 4,K0 32,K1 33] (Z6 (d1 Ru.av rs k (by omega)) hr (show 0≤(i:Int)∧(i:Int)<(↑(L.map bE).length:Int) from by simp;omega) hx hs0 (w1 k (by omega)) hz (show aa (List.map bE L')=true∧aa (sk (List.length L'))=true from by simp))
theorem oH (L:List Ad):aa (L.map bE)=true∧aa (sk L.length)=true:=by simp
abbrev Xz:Nat×Ob:=(32,.an [.aX 2 (L.map bE),.aI 33,.bH (rn.map AV.J) rv,.aX 3 (out.map Ru.av)])
abbrev wS:List (Nat×Ob):=[(4,.an gz),Xz L rn rv out,yD L]
theorem XA (hz:aa gz=true) (i:Nat) (rs:List Ru):En 153 (O Tryz.f18 2) ⟨[ip,(8,.aE qc),iq,(12,sI (i:Int)),(100,sR rs),(101,sI ((rs.map Ru.av).length:Nat)),(102,sI ((rs.length:Nat):Int))],(wS L rn rv out gz)⟩ (fun e t=>e= .ar 4∧t=⟨[ip,(8,.aE qc),iq,(12,sI (i:Int))],(wS L rn rv out gz)⟩):=by
 exact gE ⟨rfl,rfl⟩ 0 [.is false] [4,8,9,12] [K1 4,K0 32,K1 33] (Oa (show decide ((↑rs.length:Int)<(↑(rs.map Ru.av).length:Int))=false from by simp) hz (oH L))
theorem XC (hz:aa gz=true) (i:Nat) (a:Ad) (rs:List Ru) (hi:i<L.length) (hx:(L.map bE)[0+Int.toNat (i:Int)]? =some (.al [.J a.1,.J a.2])) (hf:∃j,bs true (.J a.1) (rn.map AV.J) 0=some (some j)∧rv[j]? =some (sR rs)):EN 153 (fa Tryz.f18 87) ⟨[ip,(8,.aE qc),iq,(12,sI (i:Int))],(HU L rn rv out gz)⟩ ⟨[ip,(8,.aE qc),iq,(12,sI (i:Int)),(100,sR rs),(101,sI ((rs.map Ru.av).length:Nat)),(102,sI 0)],(HU L rn rv out gz)⟩:=by
 exact gE ⟨rfl,rfl⟩ 0 [.aA (.al [.J (Prod.fst a),.J (Prod.snd a)]),.aA (sR rs)] [4,8,9,12,100,101,102] [K1 4,K0 32,K1 33,K1 34] (Z5 (show 0≤(i:Int)∧(i:Int)<(↑(L.map bE).length:Int) from by simp;omega) hx hf hz (oH L) (show aa (L.map bE)=true from by simp))
abbrev Mo (out':List Ru):Nat×Ob:=(32,.an [.aX 2 (L.map bE),.aI 33,.bH (rn.map AV.J) rv,.aX 3 (out'.map Ru.av)])
theorem XD (hz:aa gz=true) (i:Nat) (out':List Ru) (a:Ad) (hi:i<L.length) (hx:(L.map bE)[0+Int.toNat (i:Int)]? =some (.al [.J a.1,.J a.2])) (k48:Sp 48 [.aA 32 0 0,.al [.J a.1,.J a.2]] [Mk L rn rv out,yD L,Ml L] (.bC []) [Mo L rn rv out',yD L,(34,.aB)]):EN 153 (fa Tryz.f18 118) ⟨[ip,(8,.aE qc),iq,(12,sI (i:Int))],(HU L rn rv out gz)⟩ ⟨[ip,(8,.aE qc),iq,(12,sI (i:Int))],[(4,.an gz),Mo L rn rv out',yD L]⟩:=by
 have hs0:=k48
 exact gE ⟨rfl,rfl⟩ 0 [.aA (.al [.J (Prod.fst a),.J (Prod.snd a)]),.dO (.bC []) [32,33,34] [Mo L rn rv out',yD L,(34,.aB)]] [4,8,9,12] [K1 4,K0 32,K1 33] (T9 (show 0≤(i:Int)∧(i:Int)<(↑(L.map bE).length:Int) from by simp;omega) hx hs0 hz (oH L))
theorem XE (hz:aa gz=true) (i:Nat) (hi:i<L.length) (hL:L.length<1000000):EN 153 (fa Tryz.f18 85) ⟨[ip,(8,.aE qc),iq,(12,sI (i:Int))],(wS L rn rv out gz)⟩ ⟨[ip,(8,.aE qc),iq,(12,sI ((i+1:Nat):Int))],(wS L rn rv out gz)⟩:=by
 exact gE ⟨rfl,rfl⟩ 0 [] [4,8,9,12] [K1 4,K0 32,K1 33] (Oa (w1 i (by omega)) hz (oH L))
theorem h18 (hz:aa gz=true) (i:Nat) (hll:(L.map bE).length=L.length) (hi:i<L.length):EN 153 (CK (O Tryz.f18 1)) ⟨[ip,(8,.aE qc),iq,(12,sI (i:Int))],(wS L rn rv out gz)⟩ ⟨[ip,(8,.aE qc),iq,(12,sI (i:Int))],(wS L rn rv out gz)⟩:=by
 exact gE ⟨rfl,rfl⟩ 0 [.is true] [4,8,9,12] [K1 4,K0 32,K1 33] (Oa (show decide ((i:Int)<(↑(L.map bE).length:Int))=true from decide_eq_true (by omega)) hz (oH L))
theorem z18 (hz:aa gz=true) (i:Nat) (hll:(L.map bE).length=L.length) (hi:i=L.length):En 153 (O Tryz.f18 1) ⟨[ip,(8,.aE qc),iq,(12,sI (i:Int))],(wS L rn rv out gz)⟩ (fun e t=>e= .ar 2∧t=⟨[ip,(8,.aE qc),iq],(wS L rn rv out gz)⟩):=by
 exact gE ⟨rfl,rfl⟩ 0 [.is false] [4,8,9] [K1 4,K0 32,K1 33] (Oa (show decide ((i:Int)<(↑(L.map bE).length:Int))=false from decide_eq_false (by omega)) hz (oH L))
def bx (rules:List Ru) (u:ByteArray):List Ru:=rules.filter fun r=>decide (r.p=u)
def dr (rules:List Ru) (rn:List ByteArray):List AV:=rn.map fun u=>sR (bx rules u)
theorem cG {rules:List Ru} {u:ByteArray} {r:Ru}:r∈bx rules u↔r∈rules∧r.p=u:=by simp [bx]
def RN (rules:List Ru) (rn:List ByteArray):Prop:=∀u,u∈rn↔∃r,r∈rules∧r.p=u
theorem JV {rules:List Ru} {rn:List ByteArray} (h:RN rules rn):RV rn (dr rules rn):=fun j hj=>by
 refine ⟨(bx rules rn[j]).map Ru.av,by simp [dr,List.getElem?_eq_getElem hj],?_⟩
 obtain ⟨r,h1,h2⟩:=(h rn[j]).1 (List.getElem_mem hj)
 rw [List.length_map]
 exact List.length_pos_of_mem (cG.2 ⟨h1,h2⟩)
inductive JW (rn:List ByteArray) (a:Ad):List Ru→List Ad→List Ru→List Ad→List Ru→Prop where
 |iV (L:List Ad) (out:List Ru):JW rn a [] L out L out
 |bz {r:Ru} {rs out out':List Ru} {L L1 L':List Ad} {ks:List ByteArray} {body:List Li} (h1:wR a.2 r.hd ks) (h2:jB rn L ks r.bd L1 body) (h3:JW rn a rs L1 (out++[⟨aH a.1 a.2,r.hd,body⟩]) L' out'):JW rn a (r::rs) L out L' out'
def ru (a:Ad):Ru:=⟨aH a.1 a.2,hV a.2.size,[HS a.1 a.2.size]⟩
inductive E8 (rules:List Ru) (rn:List ByteArray):Nat→List Ad→List Ru→List Ad→List Ru→Prop where
 |oF (L:List Ad) (out:List Ru):E8 rules rn L.length L out L out
 |go {i:Nat} {a:Ad} {L L1 L':List Ad} {out out1 out':List Ru} (h1:L[i]? =some a) (h2:JW rn a (bx rules a.1) L out L1 out1) (h3:E8 rules rn (i+1) L1 (out1++[ru a]) L' out'):E8 rules rn i L out L' out'
structure Bx (rules:List Ru) (rn:List ByteArray) (U:List Ad):Prop where
 tv:U.length≤100
 jE:∀r,r∈rules→∀x,x∈r.bd→x.k=1→x.p∈rn→∀ks,(x.p,aW x.ts ks)∈U
 NV:∀a,a∈U→∀r,r∈rules→r.p=a.1→a.2.size=r.hd.length
 HT:∀a,a∈U→a.1∈rn∧a.1.size≤120∧a.2.size≤24
 bf:∀a,a∈U→∀b:UInt8,b∈a.2.data.toList→b=98∨b=102
def Good (U L:List Ad):Prop:=L.Nodup∧∀a,a∈L→a∈U
theorem gB {α:Type}:∀{l m:List α},l.Nodup→(∀x,x∈l→x∈m)→l.length≤m.length
 |[],m,_,_=>Nat.zero_le _
 |x::r,m,hd,hs=>by
  obtain ⟨s,t,rfl⟩:=List.append_of_mem (hs x (by simp))
  have hx:=(List.nodup_cons.1 hd)
  have:=gB (l:=r) (m:=s++t) hx.2 (fun y hy=>by
   have h1:=hs y (by simp [hy])
   simp only [List.mem_append,List.mem_cons] at h1⊢
   rcases h1 with h1|h1|h1
   ·exact .inl h1
   ·subst h1;exact absurd hy hx.1
   ·exact .inr h1)
  simp only [List.length_append,List.length_cons] at this⊢
  omega
theorem Good.pB {U L:List Ad} (h:Good U L):L.length≤U.length:=gB h.1 h.2
theorem Good.RF {U L:List Ad} (h:Good U L) {a:Ad} (ha:a∈U):Good U (eE L a):=by
 unfold eE
 split
 ·exact h
 ·rename_i hn
  refine ⟨List.nodup_append.2 ⟨h.1,by simp,fun x hx y hy=> ?_⟩,fun x hx=> ?_⟩
  ·rw [List.mem_singleton] at hy;subst hy;rintro rfl;exact hn hx
  ·rcases List.mem_append.1 hx with hx|hx
   ·exact h.2 x hx
   ·rw [List.mem_singleton] at hx;rw [hx];exact ha
theorem oG (a:Ad):L<+:eE L a:=by
 unfold eE
 split
 ·exact List.prefix_refl L
 ·exact List.prefix_append L [a]
theorem jB.Xy {rn:List ByteArray} {U L L':List Ad} {ks:List ByteArray} {rest body:List Li} (h:jB rn L ks rest L' body):(∀x,x∈rest→x.k=1→x.p∈rn→∀ks,(x.p,aW x.ts ks)∈U)→Good U L→Good U L'∧L<+:L':=by
 induction h with
 |iV L ks=>exact fun _ g=>⟨g,List.prefix_refl L⟩
 |HQ i hi x hx hn h ih=>exact fun hs g=>ih (fun y hy=>hs y (List.mem_of_mem_eraseIdx hy)) g
 |Uj i hi x hx hk hp h ih=>
  intro hs g
  obtain ⟨g1,g2⟩:=ih (fun y hy=>hs y (List.mem_of_mem_eraseIdx hy)) (g.RF (hs x (List.mem_of_getElem? hx) hk hp _))
  exact ⟨g1,(oG _ _).trans g2⟩
theorem Ah {α:Type} {l m:List α} (h:l<+:m) {i:Nat} {x:α} (hx:l[i]? =some x):m[i]? =some x:=by
 obtain ⟨t,rfl⟩:=h
 rw [List.getElem?_append_left (List.getElem?_eq_some_iff.1 hx).1];exact hx
theorem Ag (n:Nat) (L:List Ad) (rk rv:List AV) (out:List Ru) (gz:List AV) (env:List (Nat×AV)) (hne:L≠[]):Le n ⟨env,(4,.an gz)::wq L rk rv out⟩ ⟨env,(4,.an gz)::NW L rk rv out⟩:=
 gm (n:=n) (st:=⟨env,(4,.an gz)::wq L rk rv out⟩) 32 0 34 (sz:=2) (es:=L.map bE) (o:= .an [.aX 2 (L.map bE),.aI 33,.bH rk rv,.aX 3 (out.map Ru.av)]) rfl rfl (by simpa using hne) rfl (by simp [mid])
theorem Mp (n:Nat) (L:List Ad) (rk rv:List AV) (out:List Ru) (gz:List AV) (env:List (Nat×AV)) (hne:L≠[]):Le n ⟨env,(4,.an gz)::NW L rk rv out⟩ ⟨env,(4,.an gz)::(wq L rk rv out++[(34,.aB)])⟩:=by
 have h:=iH (n:=n) (st:=⟨env,(4,.an gz)::NW L rk rv out⟩) 32 0 34 (sz:=2) (es:=L.map bE) (m:=(L.map bE).length) (o:= .an [.aw 34 0 (L.map bE).length,.aI 33,.bH rk rv,.aX 3 (out.map Ru.av)]) rfl rfl rfl (by rw [List.length_map];exact List.length_pos_iff.2 hne) (Nat.le_refl _) (by rw [List.take_length];exact dZ L) (by simp [mid])
 rw [List.take_length] at h
 exact h
theorem RG (rules:List Ru) (rn:List ByteArray) (U:List Ad) (gz qc:List AV) (hz:aa gz=true) (i:Nat) (a:Ad) (rs:List Ru) (hrn:RN rules rn) (hu:Bx rules rn U) (hsm:rs.length≤2000000) (hrs:∀r,r∈rs→r∈rules∧r.p=a.1∧ji r.p r.hd r.bd):∀(m k:Nat) (L:List Ad) (out:List Ru),k+m=rs.length→Good U L→L[i]? =some a→out.length+m<900000000→
  ∃(L':List Ad) (out':List Ru),JW rn a (rs.drop k) L out L' out'∧Good U L'∧L<+:L'∧out'.length=out.length+m∧Lo 153 (O Tryz.f18 2) ⟨[ip,(8,.aE qc),iq,(12,sI (i:Int)),(100,sR rs),(101,sI ((rs.map Ru.av).length:Nat)),(102,sI (k:Int))],(4,.an gz)::wq L (rn.map AV.J) (dr rules rn) out⟩ (.ar 4) ⟨[ip,(8,.aE qc),iq,(12,sI (i:Int))],(4,.an gz)::wq L' (rn.map AV.J) (dr rules rn) out'⟩
 |0,k,L,out,hk,hg,ha,_=>by
  have e:rs.drop k=[]:=List.drop_of_length_le (by omega)
  rw [e]
  refine ⟨L,out,.iV L out,hg,List.prefix_refl L,rfl,?_⟩
  have:k=rs.length:=by omega
  subst this
  obtain ⟨e,t,⟨rfl,rfl⟩,h⟩:=XA L rn (dr rules rn) out gz qc hz i rs
  exact .bD h (by simp)
 |m+1,k,L,out,hk,hg,ha,ho=>by
  have hlt:k<rs.length:=by omega
  have hr:rs[k]? =some rs[k]:=List.getElem?_eq_getElem hlt
  have hd:rs.drop k=rs[k]::rs.drop (k+1):=List.drop_eq_getElem_cons hlt
  rw [hd]
  generalize rs[k]=r at hr
  obtain ⟨h1,h2,h3⟩:=hrs r (List.mem_of_getElem? hr)
  have hi:i<L.length:=(List.getElem?_eq_some_iff.1 ha).1
  have hne:L≠[]:=by rintro rfl;simp at hi
  have haU:=hg.2 a (List.mem_of_getElem? ha)
  have hLl:=hg.pB
  have huf:=hu.tv
  obtain ⟨ks,L1,body,q1,q2,q3⟩:=q47 L rn (dr rules rn) out r.p r.hd r.bd a (JV hrn) h3 (hu.NV a haU r h1 h2) (hu.HT a haU).2.1 (by omega) (by omega) hne
  obtain ⟨g1,g2⟩:=q2.Xy (fun x hx=>hu.jE r h1 x hx) hg
  obtain ⟨L',out',w1,w2,w3,w4,w5⟩:=RG rules rn U gz qc hz i a rs hrn hu hsm hrs m (k+1) L1 (out++[⟨aH a.1 a.2,r.hd,body⟩]) (by omega) g1 (Ah g2 ha) (by simp;omega)
  have hx:(L.map bE)[0+Int.toNat (i:Int)]? =some (.al [.J a.1,.J a.2]):=by rw [Nat.zero_add,Int.toNat_natCast,List.getElem?_map,ha];rfl
  obtain ⟨e,t,⟨rfl,rfl⟩,h⟩:=XF L rn (dr rules rn) out gz qc hz i L1 (out++[(⟨aH a.1 a.2,r.hd,body⟩:Ru)]) a r rs k hlt hsm hi ⟨by omega,dD Ru.av hr⟩ hx q3
  refine ⟨L',out',.bz q1 q2 w1,w2,g2.trans w3,by rw [w4];simp;omega,.cR (h.ez (Ag 153 L (rn.map AV.J) (dr rules rn) out gz _ hne)) w5⟩
theorem XB (rules:List Ru) (rn:List ByteArray) (U:List Ad) (gz qc:List AV) (hz:aa gz=true) (hrn:RN rules rn) (hu:Bx rules rn U) (hsm:rules.length≤2000000) (hs:∀r,r∈rules→ji r.p r.hd r.bd):∀(m i:Nat) (L:List Ad) (out:List Ru),U.length≤i+m→i≤L.length→Good U L→out.length+m*2000001<900000000→
  ∃(L':List Ad) (out':List Ru),E8 rules rn i L out L' out'∧Good U L'∧L<+:L'∧out'.length<900000000∧Lo 153 (O Tryz.f18 1) ⟨[ip,(8,.aE qc),iq,(12,sI (i:Int))],(4,.an gz)::wq L (rn.map AV.J) (dr rules rn) out⟩ (.ar 2) ⟨[ip,(8,.aE qc),iq],(4,.an gz)::wq L' (rn.map AV.J) (dr rules rn) out'⟩:=by
 have stop:∀(L:List Ad) (out:List Ru),Good U L→out.length<900000000→∃(L':List Ad) (out':List Ru),E8 rules rn L.length L out L' out'∧Good U L'∧L<+:L'∧out'.length<900000000∧Lo 153 (O Tryz.f18 1) ⟨[ip,(8,.aE qc),iq,(12,sI ((L.length:Nat):Int))],(4,.an gz)::wq L (rn.map AV.J) (dr rules rn) out⟩ (.ar 2) ⟨[ip,(8,.aE qc),iq],(4,.an gz)::wq L' (rn.map AV.J) (dr rules rn) out'⟩:=by
  intro L out hg ho
  obtain ⟨e,t,⟨rfl,rfl⟩,h⟩:=z18 L rn (dr rules rn) out gz qc hz L.length (List.length_map ..) rfl
  exact ⟨L,out,.oF L out,hg,List.prefix_refl L,ho,.bD h (by simp)⟩
 have e3:rY (O Tryz.f18 1)= .seq (.block 3 (.seq (.seq (fa Tryz.f18 87) (.block 4 (.loop (O Tryz.f18 2)))) (fa Tryz.f18 118))) (fa Tryz.f18 85):=by kernel_rfl
 intro m
 induction m with
 |zero=>
  intro i L out hUm hi hg ho
  have hLl:=hg.pB
  have:i=L.length:=by omega
  subst this
  exact stop L out hg (by omega)
 |succ m ih=>
  intro i L out hUm hi hg ho
  by_cases hie:i=L.length
  ·subst hie
   exact stop L out hg (by omega)
  ·have hlt:i<L.length:=by omega
   have ha:L[i]? =some L[i]:=List.getElem?_eq_getElem hlt
   generalize L[i]=a at ha
   have hne:L≠[]:=by rintro rfl;simp at hlt
   have haU:=hg.2 a (List.mem_of_getElem? ha)
   have hLl:=hg.pB
   have huf:=hu.tv
   obtain ⟨u1,u2,u3⟩:=hu.HT a haU
   have hrl:(bx rules a.1).length≤rules.length:=List.length_filter_le ..
   obtain ⟨L1,out1,w1,w2,w3,w4,w5⟩:=RG rules rn U gz qc hz i a (bx rules a.1) hrn hu (by omega) (fun r hr=>⟨(cG.1 hr).1,(cG.1 hr).2,hs r (cG.1 hr).1⟩) (bx rules a.1).length 0 L out (by omega) hg ha (by omega)
   rw [List.drop_zero] at w1
   have ha1:=Ah w3 ha
   have hlt1:i<L1.length:=(List.getElem?_eq_some_iff.1 ha1).1
   have hne1:L1≠[]:=by rintro rfl;simp at hlt1
   have hL1:=w2.pB
   have hx:∀{M:List Ad},M[i]? =some a→(M.map bE)[0+Int.toNat (i:Int)]? =some (.al [.J a.1,.J a.2]):=fun {M} h=>by rw [Nat.zero_add,Int.toNat_natCast,List.getElem?_map,h];rfl
   obtain ⟨L',out',x1,x2,x3,x4,x5⟩:=ih (i+1) L1 (out1++[ru a]) (by omega) (by omega) w2 (by simp;omega)
   refine ⟨L',out',.go ha w1 x1,x2,w3.trans x3,x4,.cR ?_ x5⟩
   obtain ⟨j,hf,hj⟩:=cy (i:=0) u1
   rw [Nat.zero_add] at hf
   have hrj:(dr rules rn)[j]? =some (sR (bx rules a.1)):=by
    unfold dr
    rw [List.getElem?_map,hj];rfl
   obtain ⟨e,t,⟨rfl,rfl⟩,c0⟩:=h18 L rn (dr rules rn) out gz qc hz i (List.length_map ..) hlt
   obtain ⟨e,t,⟨rfl,rfl⟩,c1⟩:=XC L rn (dr rules rn) out gz qc hz i a (bx rules a.1) hlt (hx ha) ⟨j,hf,hrj⟩
   have c1':=(c1.ez (Ag 153 L (rn.map AV.J) (dr rules rn) out gz _ hne)).gV (Mp 153 L (rn.map AV.J) (dr rules rn) out gz _ hne)
   have c1d:=c1'.fb [4,8,9,12,100,101,102] [K1 4,K0 32,K1 33] (st':=⟨[ip,(8,.aE qc),iq,(12,sI (i:Int)),(100,sR (bx rules a.1)),(101,sI (((bx rules a.1).map Ru.av).length:Nat)),(102,sI 0)],(4,.an gz)::wq L (rn.map AV.J) (dr rules rn) out⟩) (cs:=[aa gz=true,aa (L.map bE)=true∧aa (sk L.length)=true]) rfl ⟨hz,⟨dZ L,gS _⟩,trivial⟩
   have c2:=(bJ.Fp w5).ut
   obtain ⟨e,t,⟨rfl,rfl⟩,c3⟩:=XD L1 rn (dr rules rn) out1 gz qc hz i (out1++[ru a]) a hlt1 (hx ha1) (q48 L1 rn (dr rules rn) out1 a (by omega) u3 (by omega) hne1)
   have c3':=c3.ez (Ag 153 L1 (rn.map AV.J) (dr rules rn) out1 gz _ hne1)
   obtain ⟨e,t,⟨rfl,rfl⟩,c4⟩:=XE L1 rn (dr rules rn) (out1++[ru a]) gz qc hz i hlt1 (by omega)
   refine cf.g8 (by kernel_rfl) c0 ?_
   rw [e3]
   exact ((c1d.aF c2).aF c3').bG.aF c4
end
section
variable (rules:List Ru) (p:ByteArray) (ts:List Tm)
abbrev uR:Nat×AV:=(4,.aA 4 0 0)
abbrev uS:Nat×Ob:=(4,.an [.ab,.J ⟨#[]⟩,.ab,.ab])
theorem XH:EN 153 (cF 0 (ai Tryz.f18)) ⟨[(0,sR rules),(1,gU p ts)],[]⟩ ⟨[(0,sR rules),(3,.aE [.J p,sT ts]),uR],[uS]⟩:=au Tryz.f18 0
theorem XG (rc:Int) (hne:(!decide (rc=0))=true) (k44:Sp 44 [sR rules,gU p ts] [] (sI rc) []):En 153 (ca 1 (ai Tryz.f18)) ⟨[(0,sR rules),(3,.aE [.J p,sT ts]),uR],[uS]⟩ (fun e t=>e= .aR∧t=⟨[uR,(5,.ab),(6,sI rc)],[uS]⟩):=au Tryz.f18 0
theorem XI (k44:Sp 44 [sR rules,gU p ts] [] (sI 0) []):EN 153 (cF 1 (ai Tryz.f18)) ⟨[(0,sR rules),(3,.aE [.J p,sT ts]),uR],[uS]⟩ ⟨[(0,sR rules),(3,.aE [.J p,sT ts]),uR],[uS]⟩:=by
 have o0:=k44
 exact au Tryz.f18 0
theorem XJ (hts:ts.length≤24):EN 153 (cF 2 (ai Tryz.f18)) ⟨[(0,sR rules),(3,.aE [.J p,sT ts]),uR],[uS]⟩ ⟨[(0,sR rules),(3,.aE [.J p,sT ts]),uR,(8,.aA 8 0 0)],[uS,(8,.an [.J p,sT ts])]⟩:=au Tryz.f18 0
theorem XK:EN 153 (cF 3 (ai Tryz.f18)) ⟨[(0,sR rules),(3,.aE [.J p,sT ts]),uR,(8,.aA 8 0 0)],[uS,(8,.an [.J p,sT ts])]⟩ ⟨[(0,sR rules),(3,.aE [.J p,sT ts]),uR,(8,.aA 8 0 0),(9,.aA 32 0 0)],[uS,(8,.an [.J p,sT ts]),(30,.aI [] []),(32,.an [.ab,.bh,.aI 30,.ab])]⟩:=au Tryz.f18 0
end
section
variable (rules:List Ru) (p:ByteArray) (ts:List Tm) (rn:List ByteArray) (vs:List AV)
theorem Mr {n base:Nat} {c:Code} {sc:List cv} {st st':St} {e:cw} (cs:List Prop) (h:(fy Proofs.Tryz.prog n base c sc st).map (fun x=>(x.1,x.2.1,x.2.2.1.map iy.p,x.2.2.2))=some (e,st',cs,[])) (hc:cA cs):cf Proofs.Tryz.prog n c st e st':=by
 cases he:fy Proofs.Tryz.prog n base c sc st with
 |none=>rw [he] at h;cases h
 |some x=>
  obtain ⟨e1,s1,c1,d1⟩:=x
  rw [he] at h
  simp only [Option.map_some,Option.some.injEq,Prod.mk.injEq] at h
  obtain ⟨rfl,rfl,rfl,rfl⟩:=h
  exact oV qo c he fun q hq=>dJ hc q.p (List.mem_map.2 ⟨q,hq,rfl⟩)
theorem Bz {α:Type} (l:List α) (x y:α):(l++[x]).set l.length y=l++[y]:=by
 induction l with
 |nil=>rfl
 |cons a l ih=>simp [ih]
theorem XM (rules:List Ru) (p:ByteArray) (ts:List Tm) (rn:List ByteArray) (vs:List AV) (hv:aa vs=true) (y:Ru) (i:Nat) (hf:bs true (.J y.p) (rn.map AV.J) 0=some none):Rz 153 (fa Tryz.f18 39) ⟨[(3,.aE [.J p,sT ts]),(4,.aA 4 0 0),(8,.aA 8 0 0),(9,.aA 32 0 0),(11,.aA 11 0 0),(33,sR rules),(34,sI ((rules.map Ru.av).length:Nat)),(35,sI (i:Int))],[(4,.an [.ab,.J ⟨#[]⟩,.ab,.ab]),(8,.an [.J p,sT ts]),(30,.aI (rn.map AV.J) vs),(32,.an [.aX 2 [],.bh,.aI 30,.aX 3 []]),(11,.an [.J y.p,sA y.hd,sL y.bd])]⟩ .aj ⟨[(3,.aE [.J p,sT ts]),(4,.aA 4 0 0),(8,.aA 8 0 0),(9,.aA 32 0 0),(33,sR rules),(34,sI ((rules.map Ru.av).length:Nat)),(35,sI (i:Int))],[(4,.an [.ab,.J ⟨#[]⟩,.ab,.ab]),(8,.an [.J p,sT ts]),(30,.aI ((rn++[y.p]).map AV.J) (vs++[.aX 3 [y.av]])),(32,.an [.aX 2 [],.bh,.aI 30,.aX 3 []])]⟩:=by
 have h:Rz 153 (fa Tryz.f18 39) ⟨[(3,.aE [.J p,sT ts]),(4,.aA 4 0 0),(8,.aA 8 0 0),(9,.aA 32 0 0),(11,.aA 11 0 0),(33,sR rules),(34,sI ((rules.map Ru.av).length:Nat)),(35,sI (i:Int))],[(4,.an [.ab,.J ⟨#[]⟩,.ab,.ab]),(8,.an [.J p,sT ts]),(30,.aI (rn.map AV.J) vs),(32,.an [.aX 2 [],.bh,.aI 30,.aX 3 []]),(11,.an [.J y.p,sA y.hd,sL y.bd])]⟩ .aj ⟨[(3,.aE [.J p,sT ts]),(4,.aA 4 0 0),(8,.aA 8 0 0),(9,.aA 32 0 0),(11,.aA 11 0 0),(33,sR rules),(34,sI ((rules.map Ru.av).length:Nat)),(35,sI (i:Int)),(39,.aA 32 0 0),(40,.aA 32 0 0),(41,.aA 32 0 2),(42,.aI 30),(43,.aA 11 0 0),(44,.J y.p),(45,.aA 32 0 0),(46,.aA 32 0 0),(47,.aA 32 0 2),(48,.aI 30),(49,.aA 11 0 0),(50,.J y.p),(51,.ab),(52,.al [.J y.p,sA y.hd,sL y.bd]),(53,.aw 53 0 1),(54,.aw 54 0 (0+[AV.al [.J y.p,sA y.hd,sL y.bd]].length))],[(4,.an [.ab,.J ⟨#[]⟩,.ab,.ab]),(8,.an [.J p,sT ts]),(30,.aI (rn.map AV.J++[.J y.p]) (vs++[.aw 54 0 (0+[AV.al [.J y.p,sA y.hd,sL y.bd]].length)])),(32,.an [.aX 2 [],.bh,.aI 30,.aX 3 []]),(11,.an [.J y.p,sA y.hd,sL y.bd]),(53,.aw 3 [.al [.J y.p,sA y.hd,sL y.bd]]),(54,.aw 3 [.al [.J y.p,sA y.hd,sL y.bd]])]⟩:=
  Mr (base:=0) (sc:=[.is false,.is true,.is false]) [bs true (.J y.p) (rn.map AV.J) 0=some none,1≤[AV.al [.J y.p,sA y.hd,sL y.bd]].length∧[AV.al [.J y.p,sA y.hd,sL y.bd]]≠[]∧(∀e,e∈[AV.al [.J y.p,sA y.hd,sL y.bd]]→c8 3 e)∧(∀e,e∈([]:List AV)→c8 3 e)∧((0+[AV.al [.J y.p,sA y.hd,sL y.bd]].length:Nat):Int)*64≤140737488355328∧0+[AV.al [.J y.p,sA y.hd,sL y.bd]].length≤9223372036854775807,bs true (.J y.p) (rn.map AV.J) 0=some none]
   (by kernel_rfl) ⟨hf,⟨by simp,by simp,yB [y],by simp,by simp,by simp⟩,hf,trivial⟩
 have h2:=h.gV (iH (n:=153) (st:=⟨[(3,.aE [.J p,sT ts]),(4,.aA 4 0 0),(8,.aA 8 0 0),(9,.aA 32 0 0),(11,.aA 11 0 0),(33,sR rules),(34,sI ((rules.map Ru.av).length:Nat)),(35,sI (i:Int)),(39,.aA 32 0 0),(40,.aA 32 0 0),(41,.aA 32 0 2),(42,.aI 30),(43,.aA 11 0 0),(44,.J y.p),(45,.aA 32 0 0),(46,.aA 32 0 0),(47,.aA 32 0 2),(48,.aI 30),(49,.aA 11 0 0),(50,.J y.p),(51,.ab),(52,.al [.J y.p,sA y.hd,sL y.bd]),(53,.aw 53 0 1),(54,.aw 54 0 (0+[AV.al [.J y.p,sA y.hd,sL y.bd]].length))],[(4,.an [.ab,.J ⟨#[]⟩,.ab,.ab]),(8,.an [.J p,sT ts]),(30,.aI (rn.map AV.J++[.J y.p]) (vs++[.aw 54 0 (0+[AV.al [.J y.p,sA y.hd,sL y.bd]].length)])),(32,.an [.aX 2 [],.bh,.aI 30,.aX 3 []]),(11,.an [.J y.p,sA y.hd,sL y.bd]),(53,.aw 3 [.al [.J y.p,sA y.hd,sL y.bd]]),(54,.aw 3 [.al [.J y.p,sA y.hd,sL y.bd]])]⟩) 30 vs.length 54 (o:= .aI (rn.map AV.J++[.J y.p]) (vs++[.aw 54 0 (0+[AV.al [.J y.p,sA y.hd,sL y.bd]].length)])) (sz:=3) (m:=0+[AV.al [.J y.p,sA y.hd,sL y.bd]].length) (es:=[.al [.J y.p,sA y.hd,sL y.bd]]) rfl (by simp [Ob.at]) rfl (by simp) (by simp) (ii [y]) (by simp [mid]))
 have e:(Ob.aI (rn.map AV.J++[.J y.p]) (vs++[.aw 54 0 (0+[AV.al [.J y.p,sA y.hd,sL y.bd]].length)])).n4 vs.length (.aX 3 ([AV.al [.J y.p,sA y.hd,sL y.bd]].take (0+[AV.al [.J y.p,sA y.hd,sL y.bd]].length)))= .aI ((rn++[y.p]).map AV.J) (vs++[.aX 3 [y.av]]):=by
  show Ob.aI _ _=_
  rw [Bz,List.map_append];rfl
 rw [e] at h2
 refine h2.fb [3,4,8,9,33,34,35] [K1 4,K1 8,K1 30,K0 32] (cs:=[aa [.ab,.J ⟨#[]⟩,.ab,.ab]=true,aa [.J p,sT ts]=true,aa ((rn++[y.p]).map AV.J)=true∧aa (vs++[.aX 3 [y.av]])=true]) rfl ⟨rfl,rfl,⟨bw _,by rw [jf,hv];rfl⟩,trivial⟩
theorem XN (rules:List Ru) (p:ByteArray) (ts:List Tm) (rn:List ByteArray) (vs:List AV) (hv:aa vs=true) (y:Ru) (i j:Nat) (l:List Ru) (hl:l.length<1000000000) (hne:l≠[]) (hf:bs true (.J y.p) (rn.map AV.J) 0=some (some j)) (hrj:rn[j]? =some y.p) (hvj:vs[j]? =some (.aX 3 (l.map Ru.av))):Rz 153 (fa Tryz.f18 39) ⟨[(3,.aE [.J p,sT ts]),(4,.aA 4 0 0),(8,.aA 8 0 0),(9,.aA 32 0 0),(11,.aA 11 0 0),(33,sR rules),(34,sI ((rules.map Ru.av).length:Nat)),(35,sI (i:Int))],[(4,.an [.ab,.J ⟨#[]⟩,.ab,.ab]),(8,.an [.J p,sT ts]),(30,.aI (rn.map AV.J) vs),(32,.an [.aX 2 [],.bh,.aI 30,.aX 3 []]),(11,.an [.J y.p,sA y.hd,sL y.bd])]⟩ .aj ⟨[(3,.aE [.J p,sT ts]),(4,.aA 4 0 0),(8,.aA 8 0 0),(9,.aA 32 0 0),(33,sR rules),(34,sI ((rules.map Ru.av).length:Nat)),(35,sI (i:Int))],[(4,.an [.ab,.J ⟨#[]⟩,.ab,.ab]),(8,.an [.J p,sT ts]),(30,.aI (rn.map AV.J) (vs.set j (.aX 3 ((l++[y]).map Ru.av)))),(32,.an [.aX 2 [],.bh,.aI 30,.aX 3 []])]⟩:=by
 have hj:j<vs.length:=(List.getElem?_eq_some_iff.1 hvj).1
 have h:Rz 153 (fa Tryz.f18 39) ⟨[(3,.aE [.J p,sT ts]),(4,.aA 4 0 0),(8,.aA 8 0 0),(9,.aA 32 0 0),(11,.aA 11 0 0),(33,sR rules),(34,sI ((rules.map Ru.av).length:Nat)),(35,sI (i:Int))],[(4,.an [.ab,.J ⟨#[]⟩,.ab,.ab]),(8,.an [.J p,sT ts]),(30,.aI (rn.map AV.J) (vs.set j (.aw 70 0 (l.map Ru.av).length))),(32,.an [.aX 2 [],.bh,.aI 30,.aX 3 []]),(11,.an [.J y.p,sA y.hd,sL y.bd]),(70,.aw 3 (l.map Ru.av))]⟩ .aj ⟨[(3,.aE [.J p,sT ts]),(4,.aA 4 0 0),(8,.aA 8 0 0),(9,.aA 32 0 0),(11,.aA 11 0 0),(33,sR rules),(34,sI ((rules.map Ru.av).length:Nat)),(35,sI (i:Int)),(39,.aA 32 0 0),(40,.aA 32 0 0),(41,.aA 32 0 2),(42,.aI 30),(43,.aA 11 0 0),(44,.J y.p),(45,.aA 32 0 0),(46,.aA 32 0 0),(47,.aA 32 0 2),(48,.aI 30),(49,.aA 11 0 0),(50,.J y.p),(51,.aw 70 0 (l.map Ru.av).length),(52,.al [.J y.p,sA y.hd,sL y.bd]),(53,.aw 53 0 1),(54,.aw 54 0 ((l.map Ru.av).length+[AV.al [.J y.p,sA y.hd,sL y.bd]].length))],[(4,.an [.ab,.J ⟨#[]⟩,.ab,.ab]),(8,.an [.J p,sT ts]),(30,.aI ((rn.map AV.J).set (Int.toNat (j:Int)) (.J y.p)) ((vs.set j (.aw 70 0 (l.map Ru.av).length)).set (Int.toNat (j:Int)) (.aw 54 0 ((l.map Ru.av).length+[AV.al [.J y.p,sA y.hd,sL y.bd]].length)))),(32,.an [.aX 2 [],.bh,.aI 30,.aX 3 []]),(11,.an [.J y.p,sA y.hd,sL y.bd]),(70,.aB),(53,.aw 3 [.al [.J y.p,sA y.hd,sL y.bd]]),(54,.aw 3 (l.map Ru.av++[.al [.J y.p,sA y.hd,sL y.bd]]))]⟩:=
  Mr (base:=0) (sc:=[.aA (.aw 70 0 (l.map Ru.av).length),.is true,.aA (sI j)]) [∃j',bs true (.J y.p) (rn.map AV.J) 0=some (some j')∧(vs.set j (.aw 70 0 (l.map Ru.av).length))[j']? =some (.aw 70 0 (l.map Ru.av).length),1≤[AV.al [.J y.p,sA y.hd,sL y.bd]].length∧(0:Nat)=0∧(l.map Ru.av).length=(l.map Ru.av).length∧(∀e,e∈[AV.al [.J y.p,sA y.hd,sL y.bd]]→c8 3 e)∧(∀e,e∈l.map Ru.av→c8 3 e)∧((((l.map Ru.av).length+[AV.al [.J y.p,sA y.hd,sL y.bd]].length):Nat):Int)*64≤140737488355328∧((l.map Ru.av).length+[AV.al [.J y.p,sA y.hd,sL y.bd]].length)≤9223372036854775807,bs true (.J y.p) (rn.map AV.J) 0=some (some (Int.toNat (j:Int)))]
   (by kernel_rfl) ⟨⟨j,hf,by rw [List.getElem?_set_self hj]⟩,⟨by simp,rfl,rfl,yB [y],yB l,by simp;omega,by simp;omega⟩,by rw [Int.toNat_natCast];exact hf,trivial⟩
 have h0:=h.ez (gm (n:=153) (st:=⟨[(3,.aE [.J p,sT ts]),(4,.aA 4 0 0),(8,.aA 8 0 0),(9,.aA 32 0 0),(11,.aA 11 0 0),(33,sR rules),(34,sI ((rules.map Ru.av).length:Nat)),(35,sI (i:Int))],[(4,.an [.ab,.J ⟨#[]⟩,.ab,.ab]),(8,.an [.J p,sT ts]),(30,.aI (rn.map AV.J) vs),(32,.an [.aX 2 [],.bh,.aI 30,.aX 3 []]),(11,.an [.J y.p,sA y.hd,sL y.bd])]⟩) 30 j 70 (o:= .aI (rn.map AV.J) vs) (sz:=3) (es:=l.map Ru.av) rfl hvj (by simpa using hne) rfl (by simp [mid]))
 have hat:(Ob.aI ((rn.map AV.J).set (Int.toNat (j:Int)) (.J y.p)) ((vs.set j (.aw 70 0 (l.map Ru.av).length)).set (Int.toNat (j:Int)) (.aw 54 0 ((l.map Ru.av).length+[AV.al [.J y.p,sA y.hd,sL y.bd]].length)))).at j=some (.aw 54 0 ((l.map Ru.av).length+[AV.al [.J y.p,sA y.hd,sL y.bd]].length)):=by
  show ((vs.set j (.aw 70 0 (l.map Ru.av).length)).set (Int.toNat (j:Int)) (.aw 54 0 ((l.map Ru.av).length+[AV.al [.J y.p,sA y.hd,sL y.bd]].length)))[j]? =_
  rw [Int.toNat_natCast,List.getElem?_set_self (by rw [List.length_set];exact hj)]
 have h2:=h0.gV (iH (n:=153) (st:=⟨[(3,.aE [.J p,sT ts]),(4,.aA 4 0 0),(8,.aA 8 0 0),(9,.aA 32 0 0),(11,.aA 11 0 0),(33,sR rules),(34,sI ((rules.map Ru.av).length:Nat)),(35,sI (i:Int)),(39,.aA 32 0 0),(40,.aA 32 0 0),(41,.aA 32 0 2),(42,.aI 30),(43,.aA 11 0 0),(44,.J y.p),(45,.aA 32 0 0),(46,.aA 32 0 0),(47,.aA 32 0 2),(48,.aI 30),(49,.aA 11 0 0),(50,.J y.p),(51,.aw 70 0 (l.map Ru.av).length),(52,.al [.J y.p,sA y.hd,sL y.bd]),(53,.aw 53 0 1),(54,.aw 54 0 ((l.map Ru.av).length+[AV.al [.J y.p,sA y.hd,sL y.bd]].length))],[(4,.an [.ab,.J ⟨#[]⟩,.ab,.ab]),(8,.an [.J p,sT ts]),(30,.aI ((rn.map AV.J).set (Int.toNat (j:Int)) (.J y.p)) ((vs.set j (.aw 70 0 (l.map Ru.av).length)).set (Int.toNat (j:Int)) (.aw 54 0 ((l.map Ru.av).length+[AV.al [.J y.p,sA y.hd,sL y.bd]].length)))),(32,.an [.aX 2 [],.bh,.aI 30,.aX 3 []]),(11,.an [.J y.p,sA y.hd,sL y.bd]),(70,.aB),(53,.aw 3 [.al [.J y.p,sA y.hd,sL y.bd]]),(54,.aw 3 (l.map Ru.av++[.al [.J y.p,sA y.hd,sL y.bd]]))]⟩) 30 j 54 (sz:=3) (m:=((l.map Ru.av).length+[AV.al [.J y.p,sA y.hd,sL y.bd]].length)) (es:=l.map Ru.av++[AV.al [.J y.p,sA y.hd,sL y.bd]]) rfl hat rfl (by simp) (by simp) (by
  rw [List.take_of_length_le (by simp),jf,ii];exact ii [y]) (by simp [mid]))
 have e:(Ob.aI ((rn.map AV.J).set (Int.toNat (j:Int)) (.J y.p)) ((vs.set j (.aw 70 0 (l.map Ru.av).length)).set (Int.toNat (j:Int)) (.aw 54 0 ((l.map Ru.av).length+[AV.al [.J y.p,sA y.hd,sL y.bd]].length)))).n4 j (.aX 3 ((l.map Ru.av++[AV.al [.J y.p,sA y.hd,sL y.bd]]).take ((l.map Ru.av).length+[AV.al [.J y.p,sA y.hd,sL y.bd]].length)))= .aI (rn.map AV.J) (vs.set j (.aX 3 ((l++[y]).map Ru.av))):=by
  show Ob.aI _ ((((vs.set j (.aw 70 0 (l.map Ru.av).length)).set (Int.toNat (j:Int)) (.aw 54 0 ((l.map Ru.av).length+[AV.al [.J y.p,sA y.hd,sL y.bd]].length)))).set j _)=_
  rw [Int.toNat_natCast,List.set_set,List.set_set,List.take_of_length_le (by simp),List.map_append,kE (l:=rn.map AV.J) (by rw [List.getElem?_map,hrj];rfl)]
  rfl
 rw [e] at h2
 exact h2.fb [3,4,8,9,33,34,35] [K1 4,K1 8,K1 30,K0 32] (cs:=[aa [.ab,.J ⟨#[]⟩,.ab,.ab]=true,aa [.J p,sT ts]=true,aa (rn.map AV.J)=true∧aa (vs.set j (.aX 3 ((l++[y]).map Ru.av)))=true]) rfl ⟨rfl,rfl,⟨bw _,gQ hv rfl⟩,trivial⟩
abbrev jl:Nat×AV:=(4,.aA 4 0 0)
abbrev jm:Nat×AV:=(8,.aA 8 0 0)
abbrev jn:Nat×AV:=(9,.aA 32 0 0)
abbrev jo:Nat×Ob:=(4,.an [.ab,.J ⟨#[]⟩,.ab,.ab])
abbrev By:Nat×Ob:=(30,.aI (rn.map AV.J) vs)
abbrev jM:Nat×Ob:=(32,.an [.aX 2 [],.bh,.aI 30,.aX 3 []])
theorem RI (rn2:List ByteArray) (vs vs2:List AV) (hv:aa vs=true) (hv2:aa vs2=true) (y:Ru) (i:Nat) (hi:i<rules.length) (hsm:rules.length≤2000000) (hx:0≤(i:Int)∧(rules.map Ru.av)[Int.toNat (i:Int)]? =some y.av) (pr18_39p:Rz 153 (fa Tryz.f18 39) ⟨[(3,.aE [.J p,sT ts]),jl,jm,jn,(11,.aA 11 0 0),(33,sR rules),(34,sI ((rules.map Ru.av).length:Nat)),(35,sI (i:Int))],[jo,(8,.an [.J p,sT ts]),By rn vs,jM,(11,.an [.J y.p,sA y.hd,sL y.bd])]⟩ .aj ⟨[(3,.aE [.J p,sT ts]),jl,jm,jn,(33,sR rules),(34,sI ((rules.map Ru.av).length:Nat)),(35,sI (i:Int))],[jo,(8,.an [.J p,sT ts]),(30,.aI (rn2.map AV.J) vs2),jM]⟩):EN 153 (O Tryz.f18 0) ⟨[(3,.aE [.J p,sT ts]),jl,jm,jn,(33,sR rules),(34,sI ((rules.map Ru.av).length:Nat)),(35,sI (i:Int))],[jo,(8,.an [.J p,sT ts]),By rn vs,jM]⟩ ⟨[(3,.aE [.J p,sT ts]),jl,jm,jn,(33,sR rules),(34,sI ((rules.map Ru.av).length:Nat)),(35,sI ((i+1:Nat):Int))],[jo,(8,.an [.J p,sT ts]),(30,.aI (rn2.map AV.J) vs2),jM]⟩:=by
 exact z0<|zt (d1 Ru.av rules i (by omega))<|ze hx<|zh rT<|zh rT<|zh (show aa (rn.map AV.J)=true∧aa vs=true from by simp;omega)<|zh rT<|zd (.g8 [3,4,8,9,11,33,34,35] [K1 4,K1 8,K1 30,K0 32,K1 11])<|zr 39 pr18_39p<|zh (w1 i (by omega))<|zh rT<|zh rT<|zh (show aa (rn2.map AV.J)=true∧aa vs2=true from by simp;omega)<|zq ⟨rfl,rfl⟩
theorem XL (hv:aa vs=true):En 153 (O Tryz.f18 0) ⟨[(3,.aE [.J p,sT ts]),jl,jm,jn,(33,sR rules),(34,sI ((rules.map Ru.av).length:Nat)),(35,sI ((rules.length:Nat):Int))],[jo,(8,.an [.J p,sT ts]),By rn vs,jM]⟩ (fun e t=>e= .ar 0∧t=⟨[(3,.aE [.J p,sT ts]),jl,jm,jn],[jo,(8,.an [.J p,sT ts]),By rn vs,jM]⟩):=au Tryz.f18 0
theorem XO (hv:aa vs=true) (l18_0q:Lo 153 (O Tryz.f18 0) ⟨[(3,.aE [.J p,sT ts]),jl,jm,jn,(33,sR rules),(34,sI ((rules.map Ru.av).length:Nat)),(35,sI 0)],[jo,(8,.an [.J p,sT ts]),(30,.aI [] []),jM]⟩ (.ar 0) ⟨[(3,.aE [.J p,sT ts]),jl,jm,jn],[jo,(8,.an [.J p,sT ts]),By rn vs,jM]⟩):EN 153 (cF 4 (ai Tryz.f18)) ⟨[(0,sR rules),(3,.aE [.J p,sT ts]),jl,jm,jn],[jo,(8,.an [.J p,sT ts]),(30,.aI [] []),jM]⟩ ⟨[(3,.aE [.J p,sT ts]),jl,jm,jn],[jo,(8,.an [.J p,sT ts]),By rn vs,jM]⟩:=by
 have o0:=l18_0q
 exact au Tryz.f18 0
def gO (R:List Ru) (rn:List ByteArray):List AV:=rn.map fun u=> .aX 3 ((bx R u).map Ru.av)
theorem fR (R:List Ru) (rn:List ByteArray):aa (gO R rn)=true:=bI (fun u=>AV.aX 3 ((bx R u).map Ru.av)) (fun _=>rfl) rn
theorem fT (R:List Ru) (y:Ru) (u:ByteArray):bx (R++[y]) u=bx R u++(if y.p=u then [y] else []):=by
 unfold bx
 rw [List.filter_append]
 by_cases h:y.p=u<;>simp [h]
theorem pd {R:List Ru} {rn:List ByteArray} (h:RN R rn) {u:ByteArray} (hu:u∉rn):bx R u=[]:=by
 cases hr:bx R u with
 |nil=>rfl
 |cons a l=>
  have:a∈bx R u:=by rw [hr];simp
  exact absurd ((h u).2 ⟨a,(cG.1 this).1,(cG.1 this).2⟩) hu
theorem Ms {R:List Ru} {rn:List ByteArray} {y:Ru} (h:RN R rn) (hu:y.p∉rn):gO (R++[y]) (rn++[y.p])=gO R rn++[.aX 3 [y.av]]:=by
 unfold gO
 rw [List.map_append]
 congr 1
 ·refine List.map_congr_left fun u hm=> ?_
  rw [fT,if_neg (fun e=>hu (by rw [e];exact hm)),List.append_nil]
 ·simp only [List.map_cons,List.map_nil]
  rw [fT,if_pos rfl,pd h hu];rfl
theorem k9 {α:Type}:∀{l:List α},l.Nodup→∀{i j:Nat} {x:α},l[i]? =some x→l[j]? =some x→i=j
 |a::l,hd,0,0,x,_,_=>rfl
 |a::l,hd,0,j+1,x,h1,h2=>by
  simp at h1 h2;subst h1
  exact absurd (List.mem_of_getElem? h2) (List.nodup_cons.1 hd).1
 |a::l,hd,i+1,0,x,h1,h2=>by
  simp at h1 h2;subst h2
  exact absurd (List.mem_of_getElem? h1) (List.nodup_cons.1 hd).1
 |a::l,hd,i+1,j+1,x,h1,h2=>by
  simp at h1 h2
  rw [k9 (List.nodup_cons.1 hd).2 h1 h2]
theorem Mt {R:List Ru} {rn:List ByteArray} {y:Ru} {j:Nat} (hn:rn.Nodup) (hj:rn[j]? =some y.p):gO (R++[y]) rn=(gO R rn).set j (.aX 3 ((bx R y.p++[y]).map Ru.av)):=by
 apply List.ext_getElem?
 intro k
 by_cases e:j=k
 ·subst e
  have hlt:j<(gO R rn).length:=by unfold gO;rw [List.length_map];exact (List.getElem?_eq_some_iff.1 hj).1
  rw [List.getElem?_set_self hlt]
  unfold gO
  rw [List.getElem?_map,hj]
  simp only [Option.map_some]
  rw [fT,if_pos rfl]
 ·rw [List.getElem?_set_ne e]
  unfold gO
  rw [List.getElem?_map,List.getElem?_map]
  cases hk:rn[k]? with
  |none=>rfl
  |some u=>
   simp only [Option.map_some]
   have:y.p≠u:=by
    rintro rfl
    exact e (k9 hn hj hk)
   rw [fT,if_neg this,List.append_nil]
abbrev Mq:Nat×Ob:=(30,.aI (rn.map AV.J) (gO rules rn))
theorem RH (hsm:rules.length≤2000000):∃rn:List ByteArray,rn.Nodup∧RN rules rn∧Lo 153 (O Tryz.f18 0) ⟨[(3,.aE [.J p,sT ts]),jl,jm,jn,(33,sR rules),(34,sI ((rules.map Ru.av).length:Nat)),(35,sI 0)],[jo,(8,.an [.J p,sT ts]),(30,.aI [] []),jM]⟩ (.ar 0) ⟨[(3,.aE [.J p,sT ts]),jl,jm,jn],[jo,(8,.an [.J p,sT ts]),Mq rules rn,jM]⟩:=by
 have T:∀(i:Nat) (rn:List ByteArray),i<rules.length→(rn.Nodup∧RN (rules.take i) rn)→En 153 (O Tryz.f18 0) ⟨[(3,.aE [.J p,sT ts]),jl,jm,jn,(33,sR rules),(34,sI ((rules.map Ru.av).length:Nat)),(35,sI (i:Int))],[jo,(8,.an [.J p,sT ts]),(30,.aI (rn.map AV.J) (gO (rules.take i) rn)),jM]⟩ (fun e s=>e= .aj∧∃rn:List ByteArray,(rn.Nodup∧RN (rules.take (i+1)) rn)∧s=⟨[(3,.aE [.J p,sT ts]),jl,jm,jn,(33,sR rules),(34,sI ((rules.map Ru.av).length:Nat)),(35,sI ((i+1:Nat):Int))],[jo,(8,.an [.J p,sT ts]),(30,.aI (rn.map AV.J) (gO (rules.take (i+1)) rn)),jM]⟩):=by
  intro i rn hi ⟨hn,hr⟩
  have hy:rules[i]? =some rules[i]:=List.getElem?_eq_getElem hi
  have htk:rules.take (i+1)=rules.take i++[rules[i]]:=List.take_succ_eq_append_getElem hi
  rw [htk]
  generalize rules[i]=y at hy
  have hx:0≤(i:Int)∧(rules.map Ru.av)[Int.toNat (i:Int)]? =some (Ru.av y):=⟨by omega,dD Ru.av hy⟩
  by_cases hm:y.p∈rn
  ·obtain ⟨j,hf,hj⟩:=cy (i:=0) hm
   rw [Nat.zero_add] at hf
   obtain ⟨r0,q1,q2⟩:=(hr y.p).1 hm
   have hne:bx (rules.take i) y.p≠[]:=List.ne_nil_of_mem (cG.2 ⟨q1,q2⟩)
   have hlen:(bx (rules.take i) y.p).length<1000000000:=by
    have:(bx (rules.take i) y.p).length≤(rules.take i).length:=List.length_filter_le ..
    rw [List.length_take] at this
    omega
   have hvj:(gO (rules.take i) rn)[j]? =some (.aX 3 ((bx (rules.take i) y.p).map Ru.av)):=by unfold gO;rw [List.getElem?_map,hj];rfl
   have pr:=XN rules p ts rn (gO (rules.take i) rn) (fR _ _) y i j (bx (rules.take i) y.p) hlen hne hf hj hvj
   rw [←Mt hn hj] at pr
   obtain ⟨e,t,⟨rfl,rfl⟩,h⟩:=RI rules p ts rn rn (gO (rules.take i) rn) (gO (rules.take i++[y]) rn) (fR _ _) (fR _ _) y i hi hsm hx pr
   exact ⟨_,_,⟨rfl,rn,⟨hn,fun u=>by
    rw [hr]
    constructor
    ·rintro ⟨r,h1,h2⟩;exact ⟨r,by simp [h1],h2⟩
    ·rintro ⟨r,h1,h2⟩
     rcases List.mem_append.1 h1 with h1|h1
     ·exact ⟨r,h1,h2⟩
     ·rw [List.mem_singleton] at h1;subst h1;subst h2;exact ⟨r0,q1,q2⟩⟩,rfl⟩,h⟩
  ·have pr:=XM rules p ts rn (gO (rules.take i) rn) (fR _ _) y i (co hm)
   rw [←Ms hr hm] at pr
   obtain ⟨e,t,⟨rfl,rfl⟩,h⟩:=RI rules p ts rn (rn++[y.p]) (gO (rules.take i) rn) (gO (rules.take i++[y]) (rn++[y.p])) (fR _ _) (fR _ _) y i hi hsm hx pr
   refine ⟨_,_,⟨rfl,rn++[y.p],⟨List.nodup_append.2 ⟨hn,by simp,fun a ha b hb=> ?_⟩,fun u=> ?_⟩,rfl⟩,h⟩
   ·rw [List.mem_singleton] at hb;subst hb;rintro rfl;exact hm ha
   ·rw [List.mem_append,List.mem_singleton,hr]
    constructor
    ·rintro (⟨r,h1,h2⟩|h1)
     ·exact ⟨r,by simp [h1],h2⟩
     ·exact ⟨y,by simp,h1.symm⟩
    ·rintro ⟨r,h1,h2⟩
     rcases List.mem_append.1 h1 with h1|h1
     ·exact .inl ⟨r,h1,h2⟩
     ·rw [List.mem_singleton] at h1;subst h1;exact .inr h2.symm
 obtain ⟨rn,⟨h1,h2⟩,h⟩:=iJ (P:=Tryz.prog) (n:=153) (c:=O Tryz.f18 0) (N:=rules.length) (k:=0) (γ:=List ByteArray) (fun i rn=>⟨[(3,.aE [.J p,sT ts]),jl,jm,jn,(33,sR rules),(34,sI ((rules.map Ru.av).length:Nat)),(35,sI (i:Int))],[jo,(8,.an [.J p,sT ts]),(30,.aI (rn.map AV.J) (gO (rules.take i) rn)),jM]⟩) (fun rn=>⟨[(3,.aE [.J p,sT ts]),jl,jm,jn],[jo,(8,.an [.J p,sT ts]),(30,.aI (rn.map AV.J) (gO (rules.take rules.length) rn)),jM]⟩)
  (fun i rn=>rn.Nodup∧RN (rules.take i) rn) T (fun rn _=>by
   have:=XL rules p ts rn (gO (rules.take rules.length) rn) (fR _ _)
   exact this) [] ⟨by simp,fun u=>by simp⟩
 rw [List.take_length] at h2 h
 exact ⟨rn,h1,h2,h⟩
theorem Ek:(gO rules rn).map tc=dr rules rn:=by simp [gO,dr,tc]
theorem rx:aa (dr rules rn)=true:=bI (fun u=>sR (bx rules u)) (fun _=>rfl) rn
theorem Mu:Le 153 ⟨[(3,.aE [.J p,sT ts]),jl,jm,jn],[jo,(8,.an [.J p,sT ts]),Mq rules rn,jM]⟩ ⟨[(3,.aE [.J p,sT ts]),jl,jm,jn],[jo,(8,.an [.J p,sT ts]),(32,.an [.aX 2 [],.bh,.bH (rn.map AV.J) (dr rules rn),.aX 3 []])]⟩:=by
 have h:=Fw (n:=153) (st:=⟨[(3,.aE [.J p,sT ts]),jl,jm,jn],[jo,(8,.an [.J p,sT ts]),Mq rules rn,jM]⟩) 30 rfl (by simp [mid]) rfl
 rw [Ek] at h
 refine h.ck (er (n:=153) (slots:=[3,4,8,9]) (tb:=[K1 4,K1 8,(30,.dz),K0 32]) (cs:=[aa [.ab,.J ⟨#[]⟩,.ab,.ab]=true,aa [.J p,sT ts]=true,aa (rn.map AV.J)=true∧aa (dr rules rn)=true]) rfl fun q hq=> ?_)
 simp only [List.mem_cons,List.not_mem_nil,or_false] at hq
 rcases hq with rfl|rfl|rfl
 ·rfl
 ·rfl
 ·exact ⟨bw rn,rx rules rn⟩
end
section
variable (L:List Ad) (p:ByteArray) (rn:List ByteArray) (rv:List AV) (out:List Ru) (nm:ByteArray) (ts:List Tm)
def B5 (r:Ru):Bool:=ch r.p r.hd r.bd
abbrev dH:Nat×AV:=(4,.aA 4 0 0)
abbrev sq:Nat×AV:=(8,.aA 8 0 0)
abbrev kM:Nat×AV:=(9,.aA 32 0 0)
abbrev dW:Nat×Ob:=(4,.an [.ab,.J ⟨#[]⟩,.ab,.ab])
abbrev El:Nat×Ob:=(32,.an [.aX 2 [],.bh,.bH (rn.map AV.J) rv,.aX 3 []])
theorem XP (rn:List ByteArray) (rv:List AV) (hf:bs true (.J p) (rn.map AV.J) 0=some none):En 153 (ca 5 (ai Tryz.f18)) ⟨[(3,.aE [.J p,sT ts]),dH,sq,kM],[dW,(8,.an [.J p,sT ts]),El rn rv]⟩ (fun e t=>e= .aR∧t=⟨[dH,(5,.ab),(6,sI 0)],[(4,.an [.ab,.J p,sT ts,.ab])]⟩):=au Tryz.f18 0
theorem XU (rn:List ByteArray) (rv:List AV) (es:List AV) (he:decide (((es.length:Nat):Int)=0)=false) (hf:∃j,bs true (.J p) (rn.map AV.J) 0=some (some j)∧rv[j]? =some (.aF es false)):EN 153 (cF 5 (ai Tryz.f18)) ⟨[(3,.aE [.J p,sT ts]),dH,sq,kM],[dW,(8,.an [.J p,sT ts]),El rn rv]⟩ ⟨[(3,.aE [.J p,sT ts]),dH,sq,kM],[dW,(8,.an [.J p,sT ts]),El rn rv]⟩:=au Tryz.f18 0
abbrev RJ:Nat×Ob:=(32,.an [.aX 2 ([(p,aW ts [])].map bE),.aI 33,.bH (rn.map AV.J) rv,.aX 3 (([]:List Ru).map Ru.av)])
abbrev Mw:Nat×Ob:=(33,.aI ([(p,aW ts [])].map bE) (sk [(p,aW ts [])].length))
theorem XV (rn:List ByteArray) (rv:List AV) (nm:ByteArray) (hts:ts.length<1000000000000) (k46:Sp 46 [.aA 32 0 0,.al [.J p,.J (aW ts [])]] [El rn rv] (.J nm) [RJ p rn rv ts,Mw p ts]):EN 153 (cF 6 (ai Tryz.f18)) ⟨[(3,.aE [.J p,sT ts]),dH,sq,kM],[dW,(8,.an [.J p,sT ts]),El rn rv]⟩ ⟨[dH,sq,kM],[dW,(8,.an [.J nm,sT ts]),RJ p rn rv ts,Mw p ts]⟩:=au Tryz.f18 0
abbrev My:Nat×Ob:=(32,.an [.aX 2 (L.map bE),.aI 33,.bH (rn.map AV.J) rv,.aX 3 (out.map Ru.av)])
abbrev Em:Nat×Ob:=(33,.aI (L.map bE) (sk L.length))
theorem XW:EN 153 (fa Tryz.f18 12) ⟨[dH,sq,kM],[dW,(8,.an [.J nm,sT ts]),My L rn rv out,Em L]⟩ ⟨[dH,(8,.aE [.J nm,sT ts]),kM,(12,sI 0)],[dW,My L rn rv out,Em L]⟩:=au Tryz.f18 0
attribute [local simp,local grind] B5 in
theorem XT (k:Nat) (y:Ru) (hk:k<out.length) (hl:out.length<1000000000) (hx:0≤(k:Int)∧(out.map Ru.av)[Int.toNat (k:Int)]? =some y.av):En 153 (O Tryz.f18 3) ⟨[dH,(8,.aE [.J nm,sT ts]),(9,.aE [.aF (L.map bE) false,.aB,.bH (rn.map AV.J) rv,sR out]),(131,sR out),(132,sI ((out.map Ru.av).length:Nat)),(133,sI (k:Int))],[dW]⟩ (fun e t=>(e= .aR∧t=⟨[dH,(5,.ab),(6,sI 70)],[dW]⟩∧B5 y=false)∨(e= .aj∧t=⟨[dH,(8,.aE [.J nm,sT ts]),(9,.aE [.aF (L.map bE) false,.aB,.bH (rn.map AV.J) rv,sR out]),(131,sR out),(132,sI ((out.map Ru.av).length:Nat)),(133,sI ((k+1:Nat):Int))],[dW]⟩∧B5 y=true)):=aZ Tryz.f18 0 [4,8,9,131,132,133] [4,5,6] [K1 4]
theorem XS:En 153 (O Tryz.f18 3) ⟨[dH,(8,.aE [.J nm,sT ts]),(9,.aE [.aF (L.map bE) false,.aB,.bH (rn.map AV.J) rv,sR out]),(131,sR out),(132,sI ((out.map Ru.av).length:Nat)),(133,sI ((out.length:Nat):Int))],[dW]⟩ (fun e t=>e= .ar 6∧t=⟨[dH,(8,.aE [.J nm,sT ts]),(9,.aE [.aF (L.map bE) false,.aB,.bH (rn.map AV.J) rv,sR out])],[dW]⟩):=au Tryz.f18 0
theorem RK (hl:out.length<1000000000):(Lo 153 (O Tryz.f18 3) ⟨[dH,(8,.aE [.J nm,sT ts]),(9,.aE [.aF (L.map bE) false,.aB,.bH (rn.map AV.J) rv,sR out]),(131,sR out),(132,sI ((out.map Ru.av).length:Nat)),(133,sI 0)],[dW]⟩ .aR ⟨[dH,(5,.ab),(6,sI 70)],[dW]⟩∧out.all B5=false)∨(Lo 153 (O Tryz.f18 3) ⟨[dH,(8,.aE [.J nm,sT ts]),(9,.aE [.aF (L.map bE) false,.aB,.bH (rn.map AV.J) rv,sR out]),(131,sR out),(132,sI ((out.map Ru.av).length:Nat)),(133,sI 0)],[dW]⟩ (.ar 6) ⟨[dH,(8,.aE [.J nm,sT ts]),(9,.aE [.aF (L.map bE) false,.aB,.bH (rn.map AV.J) rv,sR out])],[dW]⟩∧out.all B5=true):=
 CM (P:=Tryz.prog) (n:=153) (c:=O Tryz.f18 3) (fun k=>⟨[dH,(8,.aE [.J nm,sT ts]),(9,.aE [.aF (L.map bE) false,.aB,.bH (rn.map AV.J) rv,sR out]),(131,sR out),(132,sI ((out.map Ru.av).length:Nat)),(133,sI k)],[dW]⟩) _ B5 (by simp) (fun k y hy=>XT L rn rv out nm ts k y (List.getElem?_eq_some_iff.1 hy).1 hl ⟨by omega,dD Ru.av hy⟩) (XS L rn rv out nm ts)
theorem XQ (l18_3q:Lo 153 (O Tryz.f18 3) ⟨[dH,(8,.aE [.J nm,sT ts]),(9,.aE [.aF (L.map bE) false,.aB,.bH (rn.map AV.J) rv,sR out]),(131,sR out),(132,sI ((out.map Ru.av).length:Nat)),(133,sI 0)],[dW]⟩ .aR ⟨[dH,(5,.ab),(6,sI 70)],[dW]⟩):En 153 (ca 8 (ai Tryz.f18)) ⟨[dH,(8,.aE [.J nm,sT ts]),(9,.aE [.aF (L.map bE) false,.aB,.bH (rn.map AV.J) rv,sR out])],[dW]⟩ (fun e t=>e= .aR∧t=⟨[dH,(5,.ab),(6,sI 70)],[dW]⟩):=by
 have o0:=l18_3q
 exact au Tryz.f18 0
theorem XR (l18_3q:Lo 153 (O Tryz.f18 3) ⟨[dH,(8,.aE [.J nm,sT ts]),(9,.aE [.aF (L.map bE) false,.aB,.bH (rn.map AV.J) rv,sR out]),(131,sR out),(132,sI ((out.map Ru.av).length:Nat)),(133,sI 0)],[dW]⟩ (.ar 6) ⟨[dH,(8,.aE [.J nm,sT ts]),(9,.aE [.aF (L.map bE) false,.aB,.bH (rn.map AV.J) rv,sR out])],[dW]⟩):En 153 (ca 8 (ai Tryz.f18)) ⟨[dH,(8,.aE [.J nm,sT ts]),(9,.aE [.aF (L.map bE) false,.aB,.bH (rn.map AV.J) rv,sR out])],[dW]⟩ (fun e t=>e= .aR∧t=⟨[dH,(5,.aF (L.map bE) false),(6,sI 0)],[(4,.an [sR out,.J nm,sT ts,.ab])]⟩):=by
 have o0:=l18_3q
 exact au Tryz.f18 0
theorem Mz (hrv:aa rv=true) (hL:L≠[]) (ho:out≠[]):Le 153 ⟨[dH,(8,.aE [.J nm,sT ts]),kM],[dW,My L rn rv out,Em L]⟩ ⟨[dH,(8,.aE [.J nm,sT ts]),(9,.aE [.aF (L.map bE) false,.aB,.bH (rn.map AV.J) rv,sR out])],[dW]⟩:=by
 refine (Ag 153 L (rn.map AV.J) rv out [.ab,.J ⟨#[]⟩,.ab,.ab] [dH,(8,.aE [.J nm,sT ts]),kM] hL).ck ?_
 refine (gm (n:=153) (st:=⟨[dH,(8,.aE [.J nm,sT ts]),kM],[dW,(32,.an [.aw 34 0 (L.map bE).length,.aI 33,.bH (rn.map AV.J) rv,.aX 3 (out.map Ru.av)]),Em L,(34,.aw 2 (L.map bE))]⟩) 32 3 35 (sz:=3) (es:=out.map Ru.av) (o:= .an [.aw 34 0 (L.map bE).length,.aI 33,.bH (rn.map AV.J) rv,.aX 3 (out.map Ru.av)]) rfl rfl (by simpa using ho) rfl (by simp [mid])).ck ?_
 refine (er (n:=153) (slots:=[4,8,9]) (tb:=[K1 4,K0 32,(34,.dz),(35,.dz)]) (st:=⟨[dH,(8,.aE [.J nm,sT ts]),kM],[dW,(32,.an [.aw 34 0 (L.map bE).length,.aI 33,.bH (rn.map AV.J) rv,.aw 35 0 (out.map Ru.av).length]),Em L,(34,.aw 2 (L.map bE)),(35,.aw 3 (out.map Ru.av))]⟩) (st':=⟨[dH,(8,.aE [.J nm,sT ts]),kM],[dW,(32,.an [.aF (L.map bE) false,.aB,.bH (rn.map AV.J) rv,sR out])]⟩) (cs:=[aa [.ab,.J ⟨#[]⟩,.ab,.ab]=true,(L.map bE).length=(L.map bE).length,(out.map Ru.av).length=(out.map Ru.av).length,aa (L.map bE)=true,aa (out.map Ru.av)=true]) rfl fun q hq=> ?_).ck ?_
 ·simp only [List.mem_cons,List.not_mem_nil,or_false] at hq
  rcases hq with rfl|rfl|rfl|rfl|rfl
  ·rfl
  ·trivial
  ·trivial
  ·exact dZ L
  ·exact ii out
 ·refine er (n:=153) (slots:=[4,8,9]) (tb:=[K1 4,(32,.dz)]) (st:=⟨[dH,(8,.aE [.J nm,sT ts]),kM],[dW,(32,.an [.aF (L.map bE) false,.aB,.bH (rn.map AV.J) rv,sR out])]⟩) (st':=⟨[dH,(8,.aE [.J nm,sT ts]),(9,.aE [.aF (L.map bE) false,.aB,.bH (rn.map AV.J) rv,sR out])],[dW]⟩) (cs:=[aa [.ab,.J ⟨#[]⟩,.ab,.ab]=true,aa [.aF (L.map bE) false,.aB,.bH (rn.map AV.J) rv,sR out]=true]) rfl fun q hq=> ?_
  simp only [List.mem_cons,List.not_mem_nil,or_false] at hq
  rcases hq with rfl|rfl<;>rfl
theorem JW.pB {rn:List ByteArray} {a:Ad} {rs out out':List Ru} {L L':List Ad} (h:JW rn a rs L out L' out'):out'.length=out.length+rs.length:=by
 induction h with
 |iV L out=>simp
 |bz h1 h2 h3 ih=>rw [ih];simp;omega
theorem E8.pB {rules:List Ru} {rn:List ByteArray} {i:Nat} {L L':List Ad} {out out':List Ru} (h:E8 rules rn i L out L' out'):out.length≤out'.length:=by
 induction h with
 |oF L out=>exact Nat.le_refl _
 |go h1 h2 h3 ih=>have:=h2.pB;simp at ih;omega
theorem E8.ne {rules:List Ru} {rn:List ByteArray} {L L':List Ad} {out out':List Ru} (h:E8 rules rn 0 L out L' out') (hL:L≠[]):out'≠[]:=by
 have key:∀{i:Nat} {L L':List Ad} {out out':List Ru},E8 rules rn i L out L' out'→i=0→L≠[]→out'≠[]:=by
  intro i L L' out out' h
  cases h with
  |oF L out=>intro h0 hne;exact absurd (List.eq_nil_of_length_eq_zero h0) hne
  |go h1 h2 h3=>
   intro _ _ e
   have:=h3.pB
   rw [e] at this
   simp at this
 exact key h rfl hL
def Mv (rules:List Ru) (p:ByteArray) (ts:List Tm) (g pr:AV) (e:Int):Prop:=
 (dv rules p ts≠0∧e=dv rules p ts∧g= .al [.ab,.J ⟨#[]⟩,.ab,.ab]∧pr= .ab)∨(dv rules p ts=0∧e=0∧g= .al [.ab,.J p,sT ts,.ab]∧pr= .ab∧∀r,r∈rules→r.p≠p)∨
 (dv rules p ts=0∧∃(am:Am) (rn:List ByteArray) (L:List Ad) (out:List Ru),wO rules p ts am∧RN rules rn∧p∈rn∧E8 rules rn 0 [(p,aW ts [])] [] L out∧[(p,aW ts [])]<+:L∧L.Nodup∧(∃U:List Ad,Bx rules rn U∧∀a,a∈L→a∈U)∧L.length≤100∧out.length<900000000∧
  ((out.all B5=false∧e=70∧g= .al [.ab,.J ⟨#[]⟩,.ab,.ab]∧pr= .ab)∨(out.all B5=true∧e=0∧g= .al [sR out,.J (aH p (aW ts [])),sT ts,.ab]∧pr= .aF (L.map bE) false)))
theorem k18 (rules:List Ru) (p:ByteArray) (ts:List Tm) (hsm:rules.length≤2000000) (hU:∀(rn:List ByteArray) (am:Am),RN rules rn→wO rules p ts am→p∈rn→∃U:List Ad,Bx rules rn U∧(p,aW ts [])∈U):
  ∃(g pr:AV) (e:Int),Sp 18 [sR rules,gU p ts] [] (.bC [g,pr,sI e]) []∧Mv rules p ts g pr e:=by
 obtain ⟨e,s,⟨rfl,rfl⟩,r0⟩:=XH rules p ts
 have s44:=Xc rules p ts hsm
 have ha:aa [sR rules,gU p ts]=true:=by simp [aa,aJ,gU,vr]
 by_cases h0:dv rules p ts=0
 ·obtain ⟨am,hok⟩:=D4 h0
  rw [h0] at s44
  obtain ⟨e,s,⟨rfl,rfl⟩,r1⟩:=XI rules p ts s44
  obtain ⟨e,s,⟨rfl,rfl⟩,r2⟩:=XJ rules p ts hok.tv
  obtain ⟨e,s,⟨rfl,rfl⟩,r3⟩:=XK rules p ts
  obtain ⟨rn,hnd,hrn,hL0⟩:=RH rules p ts hsm
  obtain ⟨e,s,⟨rfl,rfl⟩,r4⟩:=XO rules p ts rn (gO rules rn) (fR _ _) hL0
  have r3a:=r3.gV (eC (n:=153) (st:=⟨[(0,sR rules),(3,.aE [.J p,sT ts]),dH,sq,kM],[dW,(8,.an [.J p,sT ts]),(30,.aI [] []),(32,.an [.ab,.bh,.aI 30,.ab])]⟩) 32 0 2 rfl rfl)
  have r3b:=r3a.gV (eC (n:=153) (st:=⟨[(0,sR rules),(3,.aE [.J p,sT ts]),dH,sq,kM],[dW,(8,.an [.J p,sT ts]),(30,.aI [] []),(32,.an [.aX 2 [],.bh,.aI 30,.ab])]⟩) 32 3 3 rfl rfl)
  have r4a:=r4.gV (Mu rules p ts rn)
  have go:∀{t:St},Rz 153 (ca 5 (ai Tryz.f18)) ⟨[(3,.aE [.J p,sT ts]),dH,sq,kM],[dW,(8,.an [.J p,sT ts]),(32,.an [.aX 2 [],.bh,.bH (rn.map AV.J) (dr rules rn),.aX 3 []])]⟩ .aR t→Rz 153 (ai Tryz.f18) ⟨[(0,sR rules),(1,gU p ts)],[]⟩ .aR t:=fun h=>
   cf.iI 0 (by kernel_rfl) r0 (cf.iI 1 (by kernel_rfl) r1 (cf.iI 2 (by kernel_rfl) r2 (cf.iI 3 (by kernel_rfl) r3b (cf.iI 4 (by kernel_rfl) r4a h))))
  by_cases hp:p∈rn
  ·obtain ⟨U,hu,haU⟩:=hU rn am hrn hok hp
   obtain ⟨j,hf,hj⟩:=cy (i:=0) hp
   rw [Nat.zero_add] at hf
   obtain ⟨es,h5,h6⟩:=JV hrn j (List.getElem?_eq_some_iff.1 hj).1
   obtain ⟨e,s,⟨rfl,rfl⟩,r5⟩:=XU p ts rn (dr rules rn) es (decide_eq_false (by omega)) ⟨j,hf,h5⟩
   have hfew:=hok.tv
   have hsh:=hok.JO
   have hps:(aW ts []).size≤24:=by rw [dq];exact hfew
   obtain ⟨e,s,⟨rfl,rfl⟩,r6⟩:=XV p ts rn (dr rules rn) (aH p (aW ts [])) (by omega) (Xx (p,aW ts []) (rn.map AV.J) (dr rules rn) (by show p.size<_;omega) (by show (aW ts []).size<_;omega))
   obtain ⟨e,s,⟨rfl,rfl⟩,r7⟩:=XW [(p,aW ts [])] rn (dr rules rn) [] (aH p (aW ts [])) ts
   have huf:=hu.tv
   obtain ⟨L,out,d1,d2,d3,d4,d5⟩:=XB rules rn U [.ab,.J ⟨#[]⟩,.ab,.ab] [.J (aH p (aW ts [])),sT ts] rfl hrn hu hsm hok.dY U.length 0 [(p,aW ts [])] [] (by omega) (by simp) ⟨by simp,fun x hx=>by rw [List.mem_singleton.1 hx];exact haU⟩ (by simp;omega)
   have hLne:L≠[]:=by
    rintro rfl
    have:=d3.length_le
    simp at this
   have hone:=d1.ne (by simp)
   have hLl:=d2.pB
   have e7:cF 7 (ai Tryz.f18)= .seq (fa Tryz.f18 12) (.block 2 (.loop (O Tryz.f18 1))):=by kernel_rfl
   have r7':Rz 153 (cF 7 (ai Tryz.f18)) ⟨[dH,sq,kM],[dW,(8,.an [.J (aH p (aW ts [])),sT ts]),(32,.an [.aX 2 ([(p,aW ts [])].map bE),.aI 33,.bH (rn.map AV.J) (dr rules rn),.aX 3 (([]:List Ru).map Ru.av)]),Mw p ts]⟩ .aj ⟨[dH,(8,.aE [.J (aH p (aW ts [])),sT ts]),(9,.aE [.aF (L.map bE) false,.aB,.bH (rn.map AV.J) (dr rules rn),sR out])],[dW]⟩:=by
    rw [e7]
    exact (r7.aF (bJ.Fp d5).ut).gV (Mz L rn (dr rules rn) out (aH p (aW ts [])) ts (rx _ _) hLne hone)
   rcases RK L rn (dr rules rn) out (aH p (aW ts [])) ts (by omega) with ⟨hL3,hall⟩|⟨hL3,hall⟩
   ·obtain ⟨e,s,⟨rfl,rfl⟩,r8⟩:=XQ L rn (dr rules rn) out (aH p (aW ts [])) ts hL3
    have r:=go (cf.iI 5 (by kernel_rfl) r5 (cf.iI 6 (by kernel_rfl) r6 (cf.iI 7 (by kernel_rfl) r7' r8)))
    exact ⟨.al [.ab,.J ⟨#[]⟩,.ab,.ab],.ab,70,sP Tryz.f18 ha r (.inr rfl),.inr (.inr ⟨h0,am,rn,L,out,hok,hrn,hp,d1,d3,d2.1,⟨U,hu,d2.2⟩,by omega,d4,.inl ⟨hall,rfl,rfl,rfl⟩⟩)⟩
   ·obtain ⟨e,s,⟨rfl,rfl⟩,r8⟩:=XR L rn (dr rules rn) out (aH p (aW ts [])) ts hL3
    have r:=go (cf.iI 5 (by kernel_rfl) r5 (cf.iI 6 (by kernel_rfl) r6 (cf.iI 7 (by kernel_rfl) r7' r8)))
    exact ⟨_,_,0,sP Tryz.f18 ha r (.inr rfl),.inr (.inr ⟨h0,am,rn,L,out,hok,hrn,hp,d1,d3,d2.1,⟨U,hu,d2.2⟩,by omega,d4,.inr ⟨hall,rfl,rfl,rfl⟩⟩)⟩
  ·obtain ⟨e,s,⟨rfl,rfl⟩,r5⟩:=XP p ts rn (dr rules rn) (co hp)
   exact ⟨_,_,0,sP Tryz.f18 ha (go r5) (.inr rfl),.inr (.inl ⟨h0,rfl,rfl,rfl,fun r hr h=>hp ((hrn p).2 ⟨r,hr,h⟩)⟩)⟩
 ·obtain ⟨e,s,⟨rfl,rfl⟩,r1⟩:=XG rules p ts _ (by simp [h0]) s44
  exact ⟨.al [.ab,.J ⟨#[]⟩,.ab,.ab],.ab,dv rules p ts,sP Tryz.f18 ha (cf.iI 0 (by kernel_rfl) r0 r1) (.inr rfl),.inl ⟨h0,rfl,rfl,rfl⟩⟩
end
theorem k21 (ts:List Tm) (hts:ts.length<1000000000000):Sp 21 [sT ts,sT ts] [] (.ak true) []:=zP ts (by omega)
@[reducible,instance] def abY (ts:List Tm):=kF (k21 ts)
theorem k20 (p:ByteArray) (ts:List Tm) (hts:ts.length<1000000000000):Sp 20 [gU p ts,gU p ts] [] (.ak true) []:=by
 exact aK Tryz.f20 0 17 (ha:=(by simp [aa,aJ,gU,vr]))
def sr (s:ByteArray):Prop:=∀b:UInt8,b∈s.data.toList→b=98∨b=102
end Go.Ped
