/- What the functions of the packages magic and pedigreeref19 answer is proved for every input. -/
import Derived.Test.YthhfolohakiemaaGreatDoorMagI
import Derived.Test.YthhfolohakiemaaGreatDoorMagP
import Derived.Test.YthhfolohakiemaaGreatDoorMagQ
import Derived.Test.YthhfolohakiemaaGreatDoorMagR
set_option linter.all false
set_option maxRecDepth 20000
set_option maxHeartbeats 800000
namespace Go.Ped
open Go.RowKit Go.Proofs
section
variable (rs:List Ru) (nm:ByteArray) (rn:List ByteArray) (U:List Ad) (p:ByteArray) (ts:List Tm) (L:List Ad) (out:List Ru) (i k:Nat) (A:List Ad) (a:Ad)
abbrev wY (rs:List Ru) (nm:ByteArray) (ts:List Tm) (L:List Ad) (out:List Ru) (i:Nat):St:=⟨[(0,sR rs),(4,.aA 2004 0 0),(8,.aO 1008 L.length),(9,.aA 2009 0 0),(10,sI i)],[(2004,.an [.ab,.J ⟨#[]⟩,.ab,.ab]),(2009,.an [.aO 1009 out.length,.J nm,sT ts,.ab]),(1008,.ao 2 (L.map bE)),(1009,.ao 3 (out.map Ru.av))]⟩
abbrev BH (rs:List Ru) (nm:ByteArray) (ts:List Tm) (L:List Ad) (out:List Ru) (i k:Nat):St:=⟨[(0,sR rs),(4,.aA 2004 0 0),(8,.aO 1008 L.length),(9,.aA 2009 0 0),(10,sI i),(11,sI k)],[(2004,.an [.ab,.J ⟨#[]⟩,.ab,.ab]),(2009,.an [.aO 1009 out.length,.J nm,sT ts,.ab]),(1008,.ao 2 (L.map bE)),(1009,.ao 3 (out.map Ru.av))]⟩
abbrev yJ (rs:List Ru) (nm:ByteArray) (ts:List Tm) (L:List Ad) (out:List Ru) (i k:Nat) (A:List Ad) (m:Nat):St:=⟨[(0,sR rs),(4,.aA 2004 0 0),(8,.aO 1008 L.length),(9,.aA 2009 0 0),(10,sI i),(11,sI k),(13,.aF (A.map bE) false),(14,sI m)],[(2004,.an [.ab,.J ⟨#[]⟩,.ab,.ab]),(2009,.an [.aO 2084 out.length,.J nm,sT ts,.ab]),(1008,.ao 2 (L.map bE)),(2084,.ao 3 (out.map Ru.av))]⟩
abbrev MR (rs:List Ru) (nm:ByteArray) (ts:List Tm) (L:List Ad) (out:List Ru) (i k:Nat):St:=⟨[(0,sR rs),(4,.aA 2004 0 0),(8,.aO 1008 L.length),(9,.aA 2009 0 0),(10,sI i),(11,sI k)],[(2004,.an [.ab,.J ⟨#[]⟩,.ab,.ab]),(2009,.an [.aO 2084 out.length,.J nm,sT ts,.ab]),(1008,.ao 2 (L.map bE)),(2084,.ao 3 (out.map Ru.av))]⟩
abbrev pp:Nat×AV:=(4,.aA 2004 0 0)
abbrev wX:Nat×AV:=(9,.aA 2009 0 0)
abbrev sv:Nat×Ob:=(2004,.an [.ab,.J ⟨#[]⟩,.ab,.ab])
abbrev yK (nm:ByteArray) (ts:List Tm) (L:List Ad) (out:List Ru) (i:Nat):St:=⟨[pp,(8,.aO 1008 L.length),wX,(15,sI i)],[sv,(2009,.an [.aO 1009 out.length,.J nm,sT ts,.ab]),(1008,.ao 2 (L.map bE)),(1009,.ao 3 (out.map Ru.av))]⟩
abbrev u7 (nm:ByteArray) (ts:List Tm) (L:List Ad) (out:List Ru):St:=⟨[pp,(8,.aO 1008 L.length),wX],[sv,(2009,.an [.aO 1009 out.length,.J nm,sT ts,.ab]),(1008,.ao 2 (L.map bE)),(1009,.ao 3 (out.map Ru.av))]⟩
abbrev Sc:St:=⟨[pp,(5,.ab),(6,sI 70)],[sv]⟩
theorem Yj (id n:Nat) (hn:n=L.length):Sp 98 [.aO id n,.al [.J a.1,.J a.2]] [(id,.ao 2 (L.map bE))] (.ak (L.any fun b=>decide (b=a))) []:=
 bK.fi (VS L a) [(id,.ao 2 (L.map bE))] rfl (by simp [dl,dZ]) (by simp [bW,dB,dK,eX,ae]) (by simp [cu,el,dK,eX,ae,hn]) rfl
theorem An:(L.any fun b=>decide (b=a))=true↔a∈L:=by
 simp
theorem M5 (m:Nat) (a:Ad) (hL:L.length<100000) (ho:out.length<1000000000) (hi:m<A.length) (hA:A.length≤1000) (hx:0≤(m:Int)∧(A.map bE)[Int.toNat (m:Int)]? =some (.al [.J a.1,.J a.2])) (VS:Sp 98 [.aO 1008 L.length,.al [.J a.1,.J a.2]] [(1008,.ao 2 (L.map bE))] (.ak true) []):En 132 (O Tryz.f54 2) ((yJ rs nm ts L out i k A m)) (fun eo so=>eo= .aj∧so=yJ rs nm ts L out i k A (m+1)):=au Tryz.f54 2000
theorem M4 (m:Nat) (a:Ad) (hL:L.length<100000) (ho:out.length<1000000000) (hi:m<A.length) (hA:A.length≤1000) (hx:0≤(m:Int)∧(A.map bE)[Int.toNat (m:Int)]? =some (.al [.J a.1,.J a.2])) (VS:Sp 98 [.aO 1008 L.length,.al [.J a.1,.J a.2]] [(1008,.ao 2 (L.map bE))] (.ak false) []):En 132 (O Tryz.f54 2) ((yJ rs nm ts L out i k A m)) (fun eo so=>eo= .aj∧so=yJ rs nm ts (L++[a]) out i k A (m+1)):=au Tryz.f54 2000
theorem MY (r:Ru) (hL:L.length<100000) (ho:out.length<1000000000) (hr:0≤(k:Int)∧(rs.map Ru.av)[Int.toNat (k:Int)]? =some (.al [.J r.p,sA r.hd,sL r.bd])) (hk:k<rs.length) (hrs:rs.length≤2000000) (ha:(L.map bE)[Int.toNat (i:Int)]? =some (.al [.J a.1,.J a.2])) (hi:i<L.length) (hne:decide (r.p=a.1)=false):En 132 (O Tryz.f54 1) ((BH rs nm ts L out i k)) (fun eo so=>eo= .aj∧so=BH rs nm ts L out i (k+1)):=au Tryz.f54 2000
theorem MZ (r:Ru) (hL:L.length<100000) (ho:out.length<1000000000) (hr:0≤(k:Int)∧(rs.map Ru.av)[Int.toNat (k:Int)]? =some (.al [.J r.p,sA r.hd,sL r.bd])) (hk:k<rs.length) (hrs:rs.length≤2000000) (ha:(L.map bE)[Int.toNat (i:Int)]? =some (.al [.J a.1,.J a.2])) (hi:i<L.length) (hne:decide (r.p=a.1)=true) (n2:ByteArray) (B:List Li) (A M:List Ad) (X9:Sp 97 [sR rs,.al [.J r.p,sA r.hd,sL r.bd],.al [.J a.1,.J a.2]] [] (.bC [.al [.J n2,sA r.hd,sL B],.aF (A.map bE) false]) []) (l54_2q:Lo 132 (O Tryz.f54 2) ⟨[(0,sR rs),(4,.aA 2004 0 0),(8,.aO 1008 L.length),(9,.aA 2009 0 0),(10,sI i),(11,sI k),(13,.aF (A.map bE) false),(14,sI 0)],[(2004,.an [.ab,.J ⟨#[]⟩,.ab,.ab]),(2009,.an [.aO 2084 (out.length+1),.J nm,sT ts,.ab]),(1008,.ao 2 (L.map bE)),(2084,.ao 3 (out.map Ru.av++[.al [.J n2,sA r.hd,sL B]]))]⟩ (.ar 4) ⟨[(0,sR rs),(4,.aA 2004 0 0),(8,.aO 1008 M.length),(9,.aA 2009 0 0),(10,sI i),(11,sI k)],[(2004,.an [.ab,.J ⟨#[]⟩,.ab,.ab]),(2009,.an [.aO 2084 (out.length+1),.J nm,sT ts,.ab]),(1008,.ao 2 (M.map bE)),(2084,.ao 3 (out.map Ru.av++[.al [.J n2,sA r.hd,sL B]]))]⟩):En 132 (O Tryz.f54 1) ((BH rs nm ts L out i k)) (fun eo so=>eo= .aj∧so=BH rs nm ts M (out++[⟨n2,r.hd,B⟩]) i (k+1)):=by
 have o0:=X9
 have o1:=l54_2q
 exact au Tryz.f54 2000
theorem Se (hi:i<L.length) (M:List Ad) (hM:M.length<100000) (out2:List Ru) (ho2:out2.length<1000000000) (hm:i<M.length) (ha:(M.map bE)[Int.toNat (i:Int)]? =some (.al [.J a.1,.J a.2])) (hp:a.1.size<1000000000000000000) (hs:a.2.size≤24) (l54_1q:Lo 132 (O Tryz.f54 1) ⟨[(0,sR rs),pp,(8,.aO 1008 L.length),wX,(10,sI i),(11,sI 0)],[sv,(2009,.an [.aO 1009 out.length,.J nm,sT ts,.ab]),(1008,.ao 2 (L.map bE)),(1009,.ao 3 (out.map Ru.av))]⟩ (.ar 2) (wY rs nm ts M out2 i)):En 132 (O Tryz.f54 0) ((wY rs nm ts L out i)) (fun eo so=>eo= .aj∧so=wY rs nm ts M (out2++[ru a]) (i+1)):=by
 have o0:=l54_1q
 exact au Tryz.f54 2000
theorem Sd:En 132 (O Tryz.f54 0) ((wY rs nm ts L out L.length)) (fun eo so=>eo= .ar 0∧so=u7 nm ts L out):=au Tryz.f54 2000
theorem Sf (hi:i<L.length) (hL:L.length<100000) (ha:(L.map bE)[Int.toNat (i:Int)]? =some (.al [.J a.1,.J a.2])) (hp:a.1.size<1000000000000000000) (hs:a.2.size<1000000000000000000):En 132 (O Tryz.f54 3) ((yK nm ts L out i)) (fun e t=>(e= .aR∧decide (120<((aH a.1 a.2).size:Int))=true∧t=Sc)∨(e= .aj∧decide (120<((aH a.1 a.2).size:Int))=false∧t=yK nm ts L out (i+1))):=au Tryz.f54 2000 (hr:=KL (I8 [4,8,9,15] [4,5,6]) (I8 [K1 2004,K0 2009,K1 1008,K1 1009] [K1 2004]))
theorem MV (hA:A.length≤1000) (hL:L.length+A.length<100000) (ho:out.length<1000000000):Lo 132 (O Tryz.f54 2) (yJ rs nm ts L out i k A 0) (.ar 4) (MR rs nm ts (A.foldl eE L) out i k):=
 (be (l:=A) (fun m M=>yJ rs nm ts M out i k A m) (fun M=>MR rs nm ts M out i k) eE (fun m M=>M.length≤L.length+m) (fun m M hm hI=>by
  have h1:A[m]? =some A[m]:=List.getElem?_eq_getElem hm
  have hx:0≤(m:Int)∧(A.map bE)[Int.toNat (m:Int)]? =some (.al [.J A[m].1,.J A[m].2]):=⟨by omega,by rw [Int.toNat_natCast,List.getElem?_map,h1];rfl⟩
  have sp:=Yj M A[m] 1008 M.length rfl
  by_cases hin:A[m]∈M
  ·rw [(An M A[m]).2 hin] at sp
   obtain ⟨e,t,⟨rfl,rfl⟩,r⟩:=M5 rs nm ts M out i k A m A[m] (by omega) ho hm hA hx sp
   exact ⟨_,_,⟨rfl,A[m],h1,by rw [eE,if_pos hin]⟩,r⟩
  ·have e9:(M.any fun b=>decide (b=A[m]))=false:=Bool.eq_false_iff.2 (fun h=>hin ((An M A[m]).1 h))
   rw [e9] at sp
   obtain ⟨e,t,⟨rfl,rfl⟩,r⟩:=M4 rs nm ts M out i k A m A[m] (by omega) ho hm hA hx sp
   exact ⟨_,_,⟨rfl,A[m],h1,by rw [eE,if_neg hin]⟩,r⟩) (fun m M a hy hI=>by have:=tx M a;omega) (fun M hI=>au Tryz.f54 2000) L (by simp)).1
theorem Ap (bd:List Li) (P:Ad→Prop) (hP:∀y,y∈bd→y.k=1→ng rs y.p=true→∀F,P (y.p,aW y.ts F)):∀(os:List Nat) (a:List ByteArray×List Li×List Ad),(∀b,b∈a.2.2→P b)→(∀b,b∈(os.foldl (iT rs bd) a).2.2→P b)∧(os.foldl (iT rs bd) a).2.2.length≤a.2.2.length+os.length∧(os.foldl (iT rs bd) a).2.1.length≤a.2.1.length+os.length:=by
 intro os
 induction os with
 |nil=>intro a h;exact ⟨h,by simp,by simp⟩
 |cons o r ih=>
  intro a h
  rw [List.foldl_cons,List.length_cons]
  have key:(∀b,b∈(iT rs bd a o).2.2→P b)∧(iT rs bd a o).2.2.length≤a.2.2.length+1∧(iT rs bd a o).2.1.length≤a.2.1.length+1:=by
   unfold iT
   cases hy:bd[o]? with
   |none=>exact ⟨h,by simp,by simp⟩
   |some y=>
    simp only [u6]
    split
    ·rename_i hc
     refine ⟨fun b hb=> ?_,by simp,by simp⟩
     rcases List.mem_append.1 hb with hb|hb
     ·exact h b hb
     ·rw [List.mem_singleton.1 hb];exact hP y (List.mem_of_getElem? hy) hc.1 hc.2 _
    ·exact ⟨h,by simp,by simp⟩
  obtain ⟨i1,i2,i3⟩:=ih _ key.1
  exact ⟨i1,by omega,by omega⟩
theorem wZ (bd:List Li) (F:List ByteArray):(jp bd F).length≤bd.length:=rA bd _ _ _
noncomputable def gT (rs:List Ru) (a:Ad) (s:List Ad×List Ru) (r:Ru):List Ad×List Ru:=if r.p=a.1 then ((gZ rs r a.2).2.2.foldl eE s.1,s.2++[⟨aH a.1 a.2,r.hd,(gZ rs r a.2).2.1⟩]) else s
inductive BG (rs:List Ru):Nat→List Ad→List Ru→List Ad→List Ru→Prop where
 |oF (L:List Ad) (out:List Ru):BG rs L.length L out L out
 |go {i:Nat} {a:Ad} {L L':List Ad} {out out':List Ru} (h1:L[i]? =some a) (h2:BG rs (i+1) (rs.foldl (gT rs a) (L,out)).1 ((rs.foldl (gT rs a) (L,out)).2++[ru a]) L' out'):BG rs i L out L' out'
def MX (rs:List Ru):Prop:=∀r,r∈rs→Et r.bd∧r.bd.length≤16∧r.hd.length≤24∧∀y,y∈r.bd→y.p.size≤120
theorem Good.MQ {U:List Ad}:∀(A:List Ad) {L:List Ad},Good U L→(∀a,a∈A→a∈U)→Good U (A.foldl eE L)∧L<+:A.foldl eE L
 |[],L,h,_=>⟨h,List.prefix_rfl⟩
 |a::r,L,h,hA=>by
  obtain ⟨h1,h2⟩:=Good.MQ r (h.RF (hA a (by simp))) (fun b hb=>hA b (by simp [hb]))
  exact ⟨h1,(oG L a).trans h2⟩
theorem rB {rs:List Ru} {rn:List ByteArray} (h:RN rs rn) {u:ByteArray}:ng rs u=true↔u∈rn:=by
 rw [h u,ng,List.any_eq_true]
 simp
theorem J4 {rs:List Ru} {rn:List ByteArray} {U:List Ad} (hrn:RN rs rn) (hu:Bx rs rn U) {r:Ru} (hr:r∈rs) (s:ByteArray):(∀a,a∈(gZ rs r s).2.2→a∈U)∧(gZ rs r s).2.2.length≤r.bd.length:=by
 obtain ⟨h1,h2,_⟩:=Ap rs r.bd (· ∈U) (fun y hy hk hh F=>hu.jE r hr y hy hk ((rB hrn).1 hh) F) (jp r.bd (dV s r.hd)) (dV s r.hd,[],[]) (by simp)
 exact ⟨h1,by have:=wZ r.bd (dV s r.hd);simp only [List.length_nil] at h2;unfold gZ;omega⟩
theorem EB {L M:List Ad} (h:L<+:M) {i:Nat} {a:Ad} (ha:L[i]? =some a):M[i]? =some a:=by
 obtain ⟨t,rfl⟩:=h
 rw [List.getElem?_append_left (List.getElem?_eq_some_iff.1 ha).1];exact ha
theorem Al {M:List Ad} {i:Nat} {a:Ad} (h:M[i]? =some a):(M.map bE)[Int.toNat (i:Int)]? =some (.al [.J a.1,.J a.2]):=by rw [Int.toNat_natCast,List.getElem?_map,h];rfl
theorem MU (hrn:RN rs rn) (hu:Bx rs rn U) (hok:MX rs) (hrs:rs.length≤2000000) (nm:ByteArray) (ts:List Tm) (L:List Ad) (out:List Ru) (i:Nat) (a:Ad) (hg:Good U L) (ha:L[i]? =some a) (ho:out.length+rs.length<900000000):
  Lo 132 (O Tryz.f54 1) (BH rs nm ts L out i 0) (.ar 2) (wY rs nm ts (rs.foldl (gT rs a) (L,out)).1 (rs.foldl (gT rs a) (L,out)).2 i)∧Good U (rs.foldl (gT rs a) (L,out)).1∧L<+:(rs.foldl (gT rs a) (L,out)).1∧(rs.foldl (gT rs a) (L,out)).2.length≤out.length+rs.length:=by
 have haU:=hg.2 a (List.mem_of_getElem? ha)
 have hsz:=hu.HT a haU
 have hfew:=hu.tv
 have h:=be (P:=Tryz.prog) (n:=132) (c:=O Tryz.f54 1) (k:=2) (l:=rs) (fun k s=>BH rs nm ts s.1 s.2 i k) (fun s=>wY rs nm ts s.1 s.2 i) (gT rs a) (fun k s=>Good U s.1∧L<+:s.1∧s.2.length≤out.length+k) (fun k s hk hI=>by
  have h1:rs[k]? =some rs[k]:=List.getElem?_eq_getElem hk
  have hm:=List.mem_of_getElem? h1
  have hr:0≤(k:Int)∧(rs.map Ru.av)[Int.toNat (k:Int)]? =some (.al [.J rs[k].p,.aF (rs[k].hd.map Ar.av) false,.aF (rs[k].bd.map Li.av) false]):=⟨by omega,by rw [Int.toNat_natCast,List.getElem?_map,h1];rfl⟩
  have hl:=hI.1.pB
  have hai:=EB hI.2.1 ha
  have hil:=(List.getElem?_eq_some_iff.1 hai).1
  by_cases hp:rs[k].p=a.1
  ·obtain ⟨o1,o2,o3,o4⟩:=hok rs[k] hm
   have hari:=hu.NV a haU rs[k] hm hp
   have sp:=X9 rs rs[k] a.1 a.2 (by omega) (by omega) o1 (fun y hy=>by have:=o4 y hy;omega) (by omega) (by omega)
   obtain ⟨q1,q2⟩:=J4 hrn hu hm a.2
   have lq:=MV rs nm ts s.1 (s.2++[⟨aH a.1 a.2,rs[k].hd,(gZ rs rs[k] a.2).2.1⟩]) i k (gZ rs rs[k] a.2).2.2 (by omega) (by omega) (by simp;omega)
   have hM:=(Good.MQ _ hI.1 q1).1.pB
   simp only [yJ,MR,List.map_append,List.length_append,List.map_cons,List.map_nil,List.length_singleton] at lq
   obtain ⟨e,t,⟨rfl,rfl⟩,r⟩:=MZ rs nm ts s.1 s.2 i k a rs[k] (by omega) (by omega) hr hk hrs (Al hai) hil (decide_eq_true hp) _ _ _ _ sp lq
   exact ⟨_,_,⟨rfl,rs[k],h1,by rw [gT,if_pos hp]⟩,r⟩
  ·obtain ⟨e,t,⟨rfl,rfl⟩,r⟩:=MY rs nm ts s.1 s.2 i k a rs[k] (by omega) (by omega) hr hk hrs (Al hai) hil (decide_eq_false hp)
   exact ⟨_,_,⟨rfl,rs[k],h1,by rw [gT,if_neg hp]⟩,r⟩) (fun k s y hy hI=>by
  unfold gT
  split
  ·obtain ⟨q1,q2⟩:=J4 hrn hu (List.mem_of_getElem? hy) a.2
   obtain ⟨g1,g2⟩:=Good.MQ _ hI.1 q1
   exact ⟨g1,hI.2.1.trans g2,by simp;omega⟩
  ·exact ⟨hI.1,hI.2.1,by omega⟩) (fun s hI=>au Tryz.f54 2000) (L,out) ⟨hg,List.prefix_rfl,by simp⟩
 exact ⟨h.1,h.2.1,h.2.2.1,h.2.2.2⟩
theorem MT (hrn:RN rs rn) (hu:Bx rs rn U) (hok:MX rs) (hrs:rs.length≤2000000) (nm:ByteArray) (ts:List Tm):∀(d i:Nat) (L:List Ad) (out:List Ru),U.length≤i+d→i≤L.length→Good U L→out.length≤i*(rs.length+1)→
  ∃(L':List Ad) (out':List Ru),BG rs i L out L' out'∧Good U L'∧L<+:L'∧out'.length<900000000∧Lo 132 (O Tryz.f54 0) (wY rs nm ts L out i) (.ar 0) (u7 nm ts L' out'):=by
 have hfew:=hu.tv
 have stop:∀(L:List Ad) (out:List Ru),Good U L→out.length≤L.length*(rs.length+1)→∃(L':List Ad) (out':List Ru),BG rs L.length L out L' out'∧Good U L'∧L<+:L'∧out'.length<900000000∧Lo 132 (O Tryz.f54 0) (wY rs nm ts L out L.length) (.ar 0) (u7 nm ts L' out'):=fun L out hg ho=>by
  obtain ⟨e,t,⟨rfl,rfl⟩,r⟩:=Sd rs nm ts L out
  have hl:=hg.pB
  have:L.length*(rs.length+1)≤100*2000001:=Nat.mul_le_mul (by omega) (by omega)
  exact ⟨L,out,.oF L out,hg,List.prefix_rfl,by omega,.bD r (by simp)⟩
 intro d
 induction d with
 |zero=>
  intro i L out h1 h2 hg ho
  have hl:=hg.pB
  have:i=L.length:=by omega
  subst this
  exact stop L out hg ho
 |succ d ih=>
  intro i L out h1 h2 hg ho
  rcases Nat.lt_or_ge i L.length with hi|hi
  ·have ha:L[i]? =some L[i]:=List.getElem?_eq_getElem hi
   have haU:=hg.2 _ (List.mem_of_getElem? ha)
   have hsz:=hu.HT _ haU
   have hl:=hg.pB
   have hmul:i*(rs.length+1)≤100*2000001:=Nat.mul_le_mul (by omega) (by omega)
   obtain ⟨l1,g1,p1,o1⟩:=MU rs rn U hrn hu hok hrs nm ts L out i L[i] hg ha (by omega)
   have hM:=g1.pB
   have hai:=EB p1 ha
   obtain ⟨e,t,⟨rfl,rfl⟩,r⟩:=Se rs nm ts L out i L[i] hi _ (by omega) _ (by omega) (List.getElem?_eq_some_iff.1 hai).1 (Al hai) (by omega) (by omega) l1
   have hsucc:(i+1)*(rs.length+1)=i*(rs.length+1)+(rs.length+1):=Nat.succ_mul ..
   obtain ⟨L',out',d1,d2,d3,d4,d5⟩:=ih (i+1) _ ((rs.foldl (gT rs L[i]) (L,out)).2++[ru L[i]]) (by omega) (Nat.succ_le_of_lt (List.getElem?_eq_some_iff.1 hai).1) g1 (by simp;omega)
   exact ⟨L',out',.go ha d1,d2,p1.trans d3,d4,.cR r d5⟩
  ·have:i=L.length:=by omega
   subst this
   exact stop L out hg ho
theorem MW (hL:L.length<100000) (hs:∀a,a∈L→a.1.size<1000000000000000000∧a.2.size<1000000000000000000):
  (Lo 132 (O Tryz.f54 3) (yK nm ts L out 0) .aR Sc∧∃a,a∈L∧120<(aH a.1 a.2).size)∨(Lo 132 (O Tryz.f54 3) (yK nm ts L out 0) (.ar 6) (u7 nm ts L out)∧∀a,a∈L→(aH a.1 a.2).size≤120):=by
 rcases kV (P:=Tryz.prog) (n:=132) (c:=O Tryz.f54 3) (N:=L.length) (k:=6) (fun i=>yK nm ts L out i) (u7 nm ts L out) (fun t=>t=Sc∧∃a,a∈L∧120<(aH a.1 a.2).size) (fun i=>∀a,L[i]? =some a→(aH a.1 a.2).size≤120) (fun i hi=>by
  have ha:L[i]? =some L[i]:=List.getElem?_eq_getElem hi
  have hm:=List.mem_of_getElem? ha
  obtain ⟨e,t,⟨rfl,hd,rfl⟩|⟨rfl,hd,rfl⟩,r⟩:=Sf nm ts L out i L[i] hi hL (Al ha) (hs _ hm).1 (hs _ hm).2
  ·exact ⟨_,_,.inl ⟨rfl,rfl,_,hm,by have:=of_decide_eq_true hd;omega⟩,r⟩
  ·refine ⟨_,_,.inr ⟨rfl,rfl,fun a h=> ?_⟩,r⟩
   rw [ha] at h;injection h with h;subst h
   have:=of_decide_eq_false hd;omega) (au Tryz.f54 2000) with ⟨t,h,rfl,hq⟩|⟨h,hq⟩
 ·exact .inl ⟨h,hq⟩
 ·refine .inr ⟨h,fun a ha=> ?_⟩
  obtain ⟨i,hi⟩:=List.getElem?_of_mem ha
  exact hq i (List.getElem?_eq_some_iff.1 hi).1 a hi
theorem Ye (hsm:rs.length<1000000000) (hA:decide (dv rs p ts=0)=false):En 132 (ai Tryz.f54) (⟨[(0,sR rs),(1,.al [.J p,sT ts])],[]⟩) (fun eo so=>eo= .aR∧so=⟨[pp,(5,.ab),(6,sI (dv rs p ts))],[sv]⟩):=au Tryz.f54 2000
theorem Yf (hsm:rs.length<1000000000) (hA:decide (dv rs p ts=0)=true) (Lm:Sp 96 [sR rs,.J p] [] (.ak false) []):En 132 (ai Tryz.f54) (⟨[(0,sR rs),(1,.al [.J p,sT ts])],[]⟩) (fun eo so=>eo= .aR∧so=⟨[pp,(5,.ab),(6,sI 0)],[(2004,.an [.ab,.J p,sT ts,.ab])]⟩):=au Tryz.f54 2000
abbrev MS:Nat×Ob:=(2035,.aw 2 [.al [.J p,.J (aW ts [])]])
theorem Yg (hsm:rs.length<1000000000) (hA:decide (dv rs p ts=0)=true) (hp:p.size<1000000000000000000) (hs:(aW ts []).size<1000000000000000000) (Lm:Sp 96 [sR rs,.J p] [] (.ak true) []) (k11x:Sp 11 [.al [.J p,sT ts],.ab] [] (.J (aW ts [])) []) (L:List Ad) (out:List Ru) (l54_0q:Lo 132 (O Tryz.f54 0) ⟨[(0,sR rs),pp,(8,.aw 2035 0 1),wX,(10,sI 0)],[sv,MS p ts,(2009,.an [.ab,.J (aH p (aW ts [])),sT ts,.ab])]⟩ (.ar 0) (u7 (aH p (aW ts [])) ts L out)) (l54_3q:Lo 132 (O Tryz.f54 3) (yK (aH p (aW ts [])) ts L out 0) .aR Sc):En 132 (ai Tryz.f54) (⟨[(0,sR rs),(1,.al [.J p,sT ts])],[]⟩) (fun eo so=>eo= .aR∧so=Sc):=by
 exact zs 2000<|zc (LF rs p ts (by assumption))<|zf (nF hA)<|zc Lm<|zc k11x<|zh (show (0:Int)≤(0:Int)∧(0:Int)<(1:Int) from by omega)<|ze (show (some (AV.al [AV.J p,AV.J (aW ts [])]):Option AV)=some (AV.al [AV.J p,AV.J (aW ts [])]) from rfl)<|zc (Gv p (aW ts []) (by assumption) (by assumption))<|zh rT<|zh rT<|zh rT<|zd (.g8 [0,4,8,9,10] [K1 2004,K1 2035,K1 2009])<|zl l54_0q<|zh rT<|zh (zN (L.map bE))<|zh (zN (out.map Ru.av))<|zd (.g8 [4,8,9,15] [K1 2004,K0 2009,K1 1008,K1 1009])<|zl l54_3q<|zh rT<|zq ⟨rfl,rfl⟩
theorem Yh (hsm:rs.length<1000000000) (hA:decide (dv rs p ts=0)=true) (hp:p.size<1000000000000000000) (hs:(aW ts []).size<1000000000000000000) (Lm:Sp 96 [sR rs,.J p] [] (.ak true) []) (k11x:Sp 11 [.al [.J p,sT ts],.ab] [] (.J (aW ts [])) []) (L:List Ad) (out:List Ru) (l54_0q:Lo 132 (O Tryz.f54 0) ⟨[(0,sR rs),pp,(8,.aw 2035 0 1),wX,(10,sI 0)],[sv,MS p ts,(2009,.an [.ab,.J (aH p (aW ts [])),sT ts,.ab])]⟩ (.ar 0) (u7 (aH p (aW ts [])) ts L out)) (l54_3q:Lo 132 (O Tryz.f54 3) (yK (aH p (aW ts [])) ts L out 0) (.ar 6) (u7 (aH p (aW ts [])) ts L out)):En 132 (ai Tryz.f54) (⟨[(0,sR rs),(1,.al [.J p,sT ts])],[]⟩) (fun eo so=>eo= .aR∧so=⟨[pp,(5,.aF (L.map bE) false),(6,sI 0)],[(2004,.an [sR out,.J (aH p (aW ts [])),sT ts,.ab])]⟩):=by
 exact zs 2000<|zc (LF rs p ts (by assumption))<|zf (nF hA)<|zc Lm<|zc k11x<|zh (show (0:Int)≤(0:Int)∧(0:Int)<(1:Int) from by omega)<|ze (show (some (AV.al [AV.J p,AV.J (aW ts [])]):Option AV)=some (AV.al [AV.J p,AV.J (aW ts [])]) from rfl)<|zc (Gv p (aW ts []) (by assumption) (by assumption))<|zh rT<|zh rT<|zh rT<|zd (.g8 [0,4,8,9,10] [K1 2004,K1 2035,K1 2009])<|zl l54_0q<|zh rT<|zh (zN (L.map bE))<|zh (zN (out.map Ru.av))<|zd (.g8 [4,8,9,15] [K1 2004,K0 2009,K1 1008,K1 1009])<|zl l54_3q<|zh (show List.length L=List.length (L.map bE) from by simp)<|zh (show List.length out=List.length (out.map Ru.av) from by simp)<|zh (zN (L.map bE))<|zh (zN (out.map Ru.av))<|zq ⟨rfl,rfl⟩ (tb:=[K0 2004,(1008,.dz),(1009,.dz)])
theorem Ao {rs:List Ru} (h:d7 rs=0):MX rs:=fun r hr=>by
 have h1:=(kC h r hr).1
 have h2:=fF h1
 have h3:∀y,y∈r.bd→fk y=true:=by
  simp only [ch,Bool.and_eq_true,decide_eq_true_eq] at h1
  exact List.all_eq_true.1 h1.1.2
 refine ⟨⟨by omega,fun y hy=> ?_⟩,h2.2.1,h2.1,fun y hy=>(fQ (h3 y hy)).2.2⟩
 have h4:=fQ (h3 y hy)
 have h5:=fD (h3 y hy)
 exact ⟨h4.1,h4.2.1,by omega⟩
def Yd (rs:List Ru) (rn:List ByteArray) (U:List Ad) (p:ByteArray) (ts:List Tm) (g pr:AV) (e:Int):Prop:=
 (dv rs p ts≠0∧g= .al [.ab,.J ⟨#[]⟩,.ab,.ab]∧pr= .ab∧e=dv rs p ts)∨(dv rs p ts=0∧p∉rn∧g= .al [.ab,.J p,sT ts,.ab]∧pr= .ab∧e=0)∨
 (dv rs p ts=0∧p∈rn∧∃(L:List Ad) (out:List Ru),BG rs 0 [(p,aW ts [])] [] L out∧Good U L∧[(p,aW ts [])]<+:L∧out.length<900000000∧
  (((∃a,a∈L∧120<(aH a.1 a.2).size)∧g= .al [.ab,.J ⟨#[]⟩,.ab,.ab]∧pr= .ab∧e=70)∨((∀a,a∈L→(aH a.1 a.2).size≤120)∧g= .al [sR out,.J (aH p (aW ts [])),sT ts,.ab]∧pr= .aF (L.map bE) false∧e=0)))
theorem Yi (hrn:RN rs rn) (hrs:rs.length≤2000000) (hU:dv rs p ts=0→p∈rn→Bx rs rn U∧(p,aW ts [])∈U):
  ∃(g pr:AV) (e:Int),Sp 54 [sR rs,gU p ts] [] (.bC [g,pr,sI e]) []∧Yd rs rn U p ts g pr e:=by
 have ha:aa [sR rs,gU p ts]=true:=by simp [aa,aJ,gU,vr]
 by_cases hA:dv rs p ts=0
 ·by_cases hp:p∈rn
  ·obtain ⟨hu,hpU⟩:=hU hA hp
   obtain ⟨hj,hat,_⟩:=nu hA
   have hs:=gR hat
   have hok:=Ao hj
   have hsz:((aW ts []).size)≤24:=by rw [dq];exact hs.2
   have k96:=Lm rs p
   rw [(rB hrn).2 hp] at k96
   have k11:Sp 11 [.al [.J p,sT ts],.ab] [] (.J (aW ts [])) []:=(ww p ts [] (by omega) (by simp)).Dq (.bz (.bb _) (.bz .ab .iV))
   obtain ⟨L,out,d1,d2,d3,d4,d5⟩:=MT rs rn U hrn hu hok hrs (aH p (aW ts [])) ts U.length 0 [(p,aW ts [])] [] (by omega) (by simp) ⟨by simp,fun x hx=>by rw [List.mem_singleton.1 hx];exact hpU⟩ (by simp)
   have hL:=d2.pB
   have hfew:=hu.tv
   have hl0:Lo 132 (O Tryz.f54 0) ⟨[(0,sR rs),pp,(8,.aw 2035 0 1),wX,(10,sI 0)],[sv,MS p ts,(2009,.an [.ab,.J (aH p (aW ts [])),sT ts,.ab])]⟩ (.ar 0) (u7 (aH p (aW ts [])) ts L out):=by
    have h1:=(d5.ez (eS (env:=[(0,sR rs),pp,(8,.aO 1008 1),wX,(10,sI 0)]) (hp:=[sv,(2009,.an [.ab,.J (aH p (aW ts [])),sT ts,.ab]),(1008,.ao 2 [.al [.J p,.J (aW ts [])]])]) (cs:=[.ab,.J (aH p (aW ts [])),sT ts,.ab]) 2009 0 1009 3 rfl rfl rfl))
    have h2:=h1.ez (ow (env:=[(0,sR rs),pp,(8,.aw 1008 0 1),wX,(10,sI 0)]) (hp:=[sv,(2009,.an [.ab,.J (aH p (aW ts [])),sT ts,.ab]),(1008,.aw 2 [.al [.J p,.J (aW ts [])]])]) 8 1008 2 [.al [.J p,.J (aW ts [])]] rfl (by decide) rfl)
    exact bJ.a6 [0,4,8,9,10] [K0 2004,K0 2009,(2035,.a6 1008 false)] h2 (cs:=[]) rfl trivial
   rcases MW (aH p (aW ts [])) ts L out (by omega) (fun a ha=>by have:=hu.HT a (d2.2 a ha);omega) with ⟨h3,hq⟩|⟨h3,hq⟩
   ·obtain ⟨_,_,⟨rfl,rfl⟩,r⟩:=Yg rs p ts (by omega) (decide_eq_true hA) (by omega) (by omega) k96 k11 L out hl0 h3
    exact ⟨_,_,70,sP Tryz.f54 ha r (.inr rfl),.inr (.inr ⟨hA,hp,L,out,d1,d2,d3,d4,.inl ⟨hq,rfl,rfl,rfl⟩⟩)⟩
   ·obtain ⟨_,_,⟨rfl,rfl⟩,r⟩:=Yh rs p ts (by omega) (decide_eq_true hA) (by omega) (by omega) k96 k11 L out hl0 h3
    exact ⟨_,_,0,sP Tryz.f54 ha r (.inr rfl),.inr (.inr ⟨hA,hp,L,out,d1,d2,d3,d4,.inr ⟨hq,rfl,rfl,rfl⟩⟩)⟩
  ·have k96:=Lm rs p
   have e9:ng rs p=false:=Bool.eq_false_iff.2 (fun h=>hp ((rB hrn).1 h))
   rw [e9] at k96
   obtain ⟨_,_,⟨rfl,rfl⟩,r⟩:=Yf rs p ts (by omega) (decide_eq_true hA) k96
   exact ⟨_,_,0,sP Tryz.f54 ha r (.inr rfl),.inr (.inl ⟨hA,hp,rfl,rfl,rfl⟩)⟩
 ·obtain ⟨_,_,⟨rfl,rfl⟩,r⟩:=Ye rs p ts (by omega) (decide_eq_false hA)
  exact ⟨_,_,dv rs p ts,sP Tryz.f54 ha r (.inr rfl),.inl ⟨hA,rfl,rfl,rfl⟩⟩
end
section
variable (rs:List Ru) (p:ByteArray) (L:List Ad) (x:Ru) (G:List Ru) (qn mg:ByteArray) (ts:List Tm) (a1:ByteArray) (vs:List Tm) (a2:ByteArray) (i:Nat) (m:Li) (n:Nat) (part:List Li) (out:List Ru)
def lE (need:List ByteArray) (a:List Tm) (v:ByteArray):List Tm:=if v∈need then a++[⟨v,0,0,⟨#[]⟩⟩] else a
def iu (hd:List Ar) (bd:List Li) (m:Li) (n:Nat):List Tm:=(ay (az (m::bd.take n))).foldl (lE (ay (hd.map Ar.t++az (bd.drop n)))) []
abbrev Ig:Nat×AV:=(3,.aA 2003 0 0)
abbrev ny:Nat×AV:=(4,.aA 2004 0 0)
theorem So:En 53 (cF 0 (ai Tryz.f105)) (⟨[(0,.al [.J x.p,sA x.hd,sL x.bd]),(1,m.av),(2,sI n)],[]⟩) (fun eo so=>eo= .aj∧so=⟨[(2,sI n),Ig,ny,(6,.ab)],[(2003,.an [.J x.p,sA x.hd,sL x.bd]),(2004,.an m.ac)]⟩):=au Tryz.f105 2000
theorem Sq (x:Ru) (m:Li) (n:Nat) (hn:n≤x.bd.length) (hsm:x.bd.length≤1000):En 53 (cF 1 (ai Tryz.f105)) (⟨[(2,sI n),Ig,ny,(6,.ab)],[(2003,.an [.J x.p,sA x.hd,sL x.bd]),(2004,.an m.ac)]⟩) (fun eo so=>eo= .aj∧so=⟨[(2,sI n),Ig,(6,.ab),(7,.aA 2007 0 0)],[(2003,.an [.J x.p,sA x.hd,sL x.bd]),(2007,.an [.J ⟨#[]⟩,.ab,.aF (m.av::List.take (Int.toNat (n:Int)) (x.bd.map Li.av)) false])]⟩):=by
 exact gE ⟨rfl,rfl⟩ 2000 [.is true] [2,3,6,7] [(2003,.a6 2003 true),(2007,.a6 2007 false),(2019,.dz)] (T9 (show 0≤(n:Int)∧(n:Int)≤(↑(List.length (List.map Li.av x.3)):Int) from by simp;omega) (show True∧(0:Nat)=(0:Nat)∧(1:Nat)=List.length [AV.al [sJ m.1,AV.J m.2,sT m.3,sJ m.4,sJ (Ex.op (Li.l m)),AV.J (Ex.t (Li.l m)).1,sJ (Ex.t (Li.l m)).2,sI (Ex.t (Li.l m)).3,AV.J (Ex.t (Li.l m)).4,sE (Ex.ax (Li.l m)),sJ (Ex.op (Li.r m)),AV.J (Ex.t (Li.r m)).1,sJ (Ex.t (Li.r m)).2,sI (Ex.t (Li.r m)).3,AV.J (Ex.t (Li.r m)).4,sE (Ex.ax (Li.r m))]]∧(∀(e:AV),e∈List.take (Int.toNat (n:Int)) (List.map Li.av x.3)→c8 (16:Nat) e)∧(∀(e:AV),e∈[AV.al [sJ m.1,AV.J m.2,sT m.3,sJ m.4,sJ (Ex.op (Li.l m)),AV.J (Ex.t (Li.l m)).1,sJ (Ex.t (Li.l m)).2,sI (Ex.t (Li.l m)).3,AV.J (Ex.t (Li.l m)).4,sE (Ex.ax (Li.l m)),sJ (Ex.op (Li.r m)),AV.J (Ex.t (Li.r m)).1,sJ (Ex.t (Li.r m)).2,sI (Ex.t (Li.r m)).3,AV.J (Ex.t (Li.r m)).4,sE (Ex.ax (Li.r m))]]→c8 (16:Nat) e)∧(↑((1:Nat)+List.length (List.take (Int.toNat (n:Int)) (List.map Li.av x.3))):Int)*(216:Int)≤(140737488355328:Int)∧(1:Nat)+List.length (List.take (Int.toNat (n:Int)) (List.map Li.av x.3))≤(9223372036854775807:Nat) from by (refine ⟨?_,?_,?_,?_,?_,?_⟩<;>first|(simp;done)|(intro e he;simp only [List.mem_singleton] at he;subst he;refine ⟨rfl,?_⟩;simp [Li.av,Ru.av,AV.ac,cj];done)|(intro e he;obtain ⟨z,_,rfl⟩:=List.mem_map.1 he;refine ⟨rfl,?_⟩;simp [Ru.av,AV.ac,cj];done)|(intro e he;have h8:=List.mem_of_mem_take he;obtain ⟨z,_,rfl⟩:=List.mem_map.1 h8;simp;done)|(simp [List.length_take];omega))) rT (show 1+List.length (List.take (Int.toNat (n:Int)) (List.map Li.av x.3))=List.length (AV.al [sJ m.1,AV.J m.2,sT m.3,sJ m.4,sJ (Ex.op (Li.l m)),AV.J (Ex.t (Li.l m)).1,sJ (Ex.t (Li.l m)).2,sI (Ex.t (Li.l m)).3,AV.J (Ex.t (Li.l m)).4,sE (Ex.ax (Li.l m)),sJ (Ex.op (Li.r m)),AV.J (Ex.t (Li.r m)).1,sJ (Ex.t (Li.r m)).2,sI (Ex.t (Li.r m)).3,AV.J (Ex.t (Li.r m)).4,sE (Ex.ax (Li.r m))]::List.take (Int.toNat (n:Int)) (List.map Li.av x.3)) from by simp;omega) (show aa (AV.al [sJ m.1,AV.J m.2,sT m.3,sJ m.4,sJ (Ex.op (Li.l m)),AV.J (Ex.t (Li.l m)).1,sJ (Ex.t (Li.l m)).2,sI (Ex.t (Li.l m)).3,AV.J (Ex.t (Li.l m)).4,sE (Ex.ax (Li.l m)),sJ (Ex.op (Li.r m)),AV.J (Ex.t (Li.r m)).1,sJ (Ex.t (Li.r m)).2,sI (Ex.t (Li.r m)).3,AV.J (Ex.t (Li.r m)).4,sE (Ex.ax (Li.r m))]::List.take (Int.toNat (n:Int)) (List.map Li.av x.3))=true from by simp))
abbrev M6 (need l:List ByteArray) (a:List Tm) (i:Int):St:=⟨[(9,sS need),(10,sS l),(11,.aO 1000 a.length),(12,sI i)],[(1000,.ao 4 (a.map Tm.av))]⟩
attribute [local simp,local grind] lE bq Tm.av in
theorem Ii (need l:List ByteArray) (hsm:l.length≤1000000):Lo 53 (O Tryz.f105 0) ⟨[(9,sS need),(10,sS l),(11,.ab),(12,sI 0)],[]⟩ (.ar 0) ⟨[(11,.aO 1000 (l.foldl (lE need) []).length)],[(1000,.ao 4 ((l.foldl (lE need) []).map Tm.av))]⟩:=
 (be (l:=l) (fun i a=>M6 need l a (i:Nat)) (fun a=>⟨[(11,.aO 1000 a.length)],[(1000,.ao 4 (a.map Tm.av))]⟩) (lE need) (fun i a=>a.length≤i) (fun i a hi hI=>au Tryz.f105 2000) (fun i a y hy hI=>by (unfold lE;split<;>first|(simp only [List.length_append,List.length_singleton];omega)|omega)) (fun a hI=>au Tryz.f105 2000) [] (by simp<;>assumption)).1.ez (b5 11 1000 4 rfl rfl)
theorem Yp (A:List AV) (hn:n≤x.bd.length) (hsm:x.bd.length≤1000) (need l:List ByteArray) (M:List Tm) (zF:Sp 160 [.al [.J ⟨#[]⟩,sA x.hd,.aF (List.drop (Int.toNat (n:Int)) (x.bd.map Li.av)) false]] [] (sS need) []) (k160p:Sp 160 [.al [.J ⟨#[]⟩,.ab,.aF A false]] [] (sS l) []) (l105_0q:Lo 53 (O Tryz.f105 0) ⟨[(9,sS need),(10,sS l),(11,.ab),(12,sI 0)],[]⟩ (.ar 0) ⟨[(11,.aO 1000 M.length)],[(1000,.ao 4 (M.map Tm.av))]⟩):En 53 (ca 2 (ai Tryz.f105)) (⟨[(2,sI n),Ig,(6,.ab),(7,.aA 2007 0 0)],[(2003,.an [.J x.p,sA x.hd,sL x.bd]),(2007,.an [.J ⟨#[]⟩,.ab,.aF A false])]⟩) (fun eo so=>eo= .aR∧so=⟨[(6,sT M)],[]⟩):=by
 have o0:=k160p
 have o1:=l105_0q
 exact au Tryz.f105 2000
theorem Sk (hn:n≤x.bd.length) (hsm:x.bd.length≤1000) (h1:x.hd.length+(az x.bd).length<1000000) (h2:m.af.length+(az x.bd).length<1000000):Sp 105 [.al [.J x.p,.aF (x.hd.map Ar.av) false,.aF (x.bd.map Li.av) false],m.av,.aP .i64 (n:Nat)] [] (.aF ((iu x.hd x.bd m n).map Tm.av) false) []:=by
 have hd:(az (x.bd.drop n)).length≤(az x.bd).length:=by
  have:=congrArg List.length (congrArg az (List.take_append_drop n x.bd))
  unfold az at this⊢
  rw [List.flatMap_append,List.length_append] at this
  omega
 have ht:(az (m::x.bd.take n)).length≤m.af.length+(az x.bd).length:=by
  have:=congrArg List.length (congrArg az (List.take_append_drop n x.bd))
  unfold az at this⊢
  rw [List.flatMap_append,List.length_append] at this
  rw [List.flatMap_cons,List.length_append]
  omega
 have s1:=zF ⟨#[]⟩ x.hd (x.bd.drop n) (by omega)
 have s2:Sp 160 [.al [.J ⟨#[]⟩,.ab,.aF ((m::x.bd.take n).map Li.av) false]] [] (.aF ((ay (az (m::x.bd.take n))).map .J) false) []:=(zF ⟨#[]⟩ [] (m::x.bd.take n) (by simp only [List.length_nil];omega)).Dq (.bz (uF.al (.bz (.bb _) (.bz .ab (.bz (.bb _) .iV)))) .iV)
 have s1:Sp 160 [.al [.J ⟨#[]⟩,.aF (x.hd.map Ar.av) false,.aF (List.drop n (x.bd.map Li.av)) false]] [] (.aF ((ay (x.hd.map Ar.t++az (x.bd.drop n))).map .J) false) []:=by rw [←List.map_drop];exact s1
 rw [List.map_cons,List.map_take] at s2
 have hv:=bU (az (m::x.bd.take n))
 obtain ⟨_,_,⟨rfl,rfl⟩,r0⟩:=So x m n
 obtain ⟨_,_,⟨rfl,rfl⟩,r1⟩:=Sq x m n hn hsm
 obtain ⟨_,_,⟨rfl,rfl⟩,r2⟩:=Yp x n (m.av::List.take (Int.toNat (n:Int)) (x.bd.map Li.av)) hn hsm _ _ (iu x.hd x.bd m n) s1 s2 (Ii _ _ (by omega))
 exact sP Tryz.f105 (by simp [aa,aJ,et]) (cf.iI 0 (by kernel_rfl) r0 (cf.iI 1 (by kernel_rfl) r1 r2)) (.inr rfl)
abbrev M7:Nat×AV:=(0,.aF (L.map bE) false)
abbrev yL:Nat×AV:=(9,.aA 2009 0 0)
abbrev Ih (L:List Ad) (x:Ru) (i:Nat) (m:Li) (n:Nat) (part:List Li) (out:List Ru) (k:Nat):St:=⟨[M7 L,(2,sI i),ny,yL,(10,sL part),(11,.aO 1011 out.length),(12,sI k),(13,sI n)],[(2004,.an [.J x.p,sA x.hd,sL x.bd]),(2009,.an m.ac),(1011,.ao 3 (out.map Ru.av))]⟩
abbrev Ul (x:Ru) (part:List Li) (out:List Ru):St:=⟨[ny,(10,sL part),(11,.aO 1011 out.length)],[(2004,.an [.J x.p,sA x.hd,sL x.bd]),(1011,.ao 3 (out.map Ru.av))]⟩
def qS (i k:Nat):ByteArray:=((⟨#[113,95,115,95]⟩++⟨(Lib.itoa (i:Nat)).toArray⟩)++⟨#[95]⟩)++⟨(Lib.itoa (k:Nat)).toArray⟩
def eh (p:ByteArray) (ts:List Tm) (bd:List Li):Ru:=⟨p,ts.map fun y=>⟨0,y⟩,bd⟩
theorem Yr (k:Nat) (y:Li) (hn:n<x.bd.length) (hsm:x.bd.length≤1000) (hpl:part.length≤2000) (ho:out.length<1000000) (hne:part.map Li.av≠[]) (hx:0≤(n:Int)∧(x.bd.map Li.av)[Int.toNat (n:Int)]? =some y.av) (b:Bool) (q1 q2:ByteArray) (Js:Sp 100 [.aF (L.map bE) false,.J y.p] [] (.bC [.al [.J q1,.J q2],.ak b]) []) (hk:decide (y.k=1)=false):En 114 (O Tryz.f57 0) ((Ih L x i m n part out k)) (fun eo so=>eo= .aj∧so=Ih L x i m (n+1) (part++[y]) out k):=by
 have o0:=Js
 exact au Tryz.f57 2000
theorem Yq (L:List Ad) (x:Ru) (i:Nat) (m:Li) (n:Nat) (part:List Li) (out:List Ru) (k:Nat) (y:Li) (hn:n<x.bd.length) (hsm:x.bd.length≤1000) (hpl:part.length≤2000) (ho:out.length<1000000) (hne:part.map Li.av≠[]) (hx:0≤(n:Int)∧(x.bd.map Li.av)[Int.toNat (n:Int)]? =some y.av) (q1 q2:ByteArray) (Js:Sp 100 [.aF (L.map bE) false,.J y.p] [] (.bC [.al [.J q1,.J q2],.ak false]) []) (hk:decide (y.k=1)=true):En 114 (O Tryz.f57 0) ((Ih L x i m n part out k)) (fun eo so=>eo= .aj∧so=Ih L x i m (n+1) (part++[y]) out k):=by
 have o0:=Js
 exact au Tryz.f57 2000
theorem Ys (L:List Ad) (x:Ru) (i:Nat) (m:Li) (n:Nat) (part:List Li) (out:List Ru) (k:Nat) (y:Li) (hn:n<x.bd.length) (hsm:x.bd.length≤1000) (hpl:part.length≤2000) (ho:out.length<1000000) (hne:part.map Li.av≠[]) (hx:0≤(n:Int)∧(x.bd.map Li.av)[Int.toNat (n:Int)]? =some y.av) (q1 q2:ByteArray) (Js:Sp 100 [.aF (L.map bE) false,.J y.p] [] (.bC [.al [.J q1,.J q2],.ak true]) []) (hk:decide (y.k=1)=true) (lv:List Tm) (hi:i<1000000000) (hkk:k<1000000000) (hz1:(ByteArray.mk (Lib.itoa (i:Nat)).toArray).size<1000) (hz2:(ByteArray.mk (Lib.itoa (k:Nat)).toArray).size<1000) (hq1:q1.size<1000000) (hq2:q2.size<1000000) (hyt:y.ts.length≤q2.size) (hyt2:y.ts.length<2199023255552) (hlv:lv.length<2199023255552) (hbl:(eJ q2 y.ts).length<2199023255552) (froz57_91:True) (froz57_96:True) (Sk:Sp 105 [.al [.J x.p,sA x.hd,sL x.bd],m.av,sI n] [] (sT lv) []) (k106p:Sp 106 [.al [.J (bF q1 q2),sT (eJ q2 y.ts)],.aF [(eR (qS i k) lv).av] false] [] (eh (bF q1 q2) (eJ q2 y.ts) [(eR (qS i k) lv)]).av []):En 114 (O Tryz.f57 0) ((Ih L x i m n part out k)) (fun eo so=>eo= .aj∧so=Ih L x i m (n+1) ([(eR (qS i k) lv)]++[y]) (out++[eh (qS i k) lv part]++[eh (bF q1 q2) (eJ q2 y.ts) [(eR (qS i k) lv)]]) (k+1)):=by
 have s1:=J3 i (by omega)
 have s2:=J3 k (by omega)
 have s4:=Jn (qS i k) lv
 have s5:=Dk (qS i k) lv part (by assumption)
 have s6:=PJ q1 q2 (by omega) (by omega)
 have s7:=Jt q2 y.ts (by assumption) (by assumption)
 exact av Tryz.f57 2000
theorem e57 (k:Nat):En 114 (O Tryz.f57 0) ((Ih L x i m x.bd.length part out k)) (fun eo so=>eo= .ar 0∧so=Ul x part out):=au Tryz.f57 2000
def fm (L:List Ad) (x:Ru) (i:Nat) (m:Li) (a:Nat×List Li×List Ru×Nat) (y:Li):Nat×List Li×List Ru×Nat:=
 if y.k=1∧(cb L y.p).2=true then (a.1+1,[eR (qS i a.2.2.2) (iu x.hd x.bd m a.1)]++[y],a.2.2.1++[eh (qS i a.2.2.2) (iu x.hd x.bd m a.1) a.2.1]++[eh (bF (cb L y.p).1.1 (cb L y.p).1.2) (eJ (cb L y.p).1.2 y.ts) [eR (qS i a.2.2.2) (iu x.hd x.bd m a.1)]],a.2.2.2+1)
 else (a.1+1,a.2.1++[y],a.2.2.1,a.2.2.2)
def tC (L:List Ad) (x:Ru):Li:=eR (bF (cb L x.p).1.1 (cb L x.p).1.2) (eJ (cb L x.p).1.2 (x.hd.map Ar.t))
def nA (L:List Ad) (x:Ru) (i:Nat):List Ru:=(x.bd.foldl (fm L x i (tC L x)) (0,[tC L x],[],0)).2.2.1++[eh x.p (x.hd.map Ar.t) (x.bd.foldl (fm L x i (tC L x)) (0,[tC L x],[],0)).2.1]
theorem rC:∀(k u:Nat),u<10^(k+1)→Lib.nDigits u≤k+1
 |0,u,h=>by rw [Lib.nDigits_small (by simpa using h)];exact Nat.le_refl _
 |k+1,u,h=>by
  by_cases h1:u<10
  ·rw [Lib.nDigits_small h1];omega
  ·rw [Lib.nDigits_big h1]
   have:=rC k (u/10) (by rw [Nat.pow_succ] at h;omega)
   omega
theorem lc {i:Nat} (h:i<1000000000):(ByteArray.mk (Lib.itoa (i:Nat)).toArray).size<1000:=by
 have e:Lib.itoa (i:Int)=Lib.decDigits i:=by unfold Lib.itoa;rw [if_neg (by omega),Int.toNat_natCast]
 show (Lib.itoa (i:Int)).toArray.size<1000
 rw [List.size_toArray,e,Lib.decDigits_length]
 have:=rC 8 i (by simpa using h)
 omega
theorem rD {L:List Ad} {nm:ByteArray} (h:(cb L nm).2=true):(cb L nm).1∈L∧aH (cb L nm).1.1 (cb L nm).1.2=nm:=by
 unfold cb at h⊢
 cases hf:L.findSome? (qR nm) with
 |none=>rw [hf] at h;cases h
 |some a=>
  obtain ⟨b,hb,he⟩:=List.exists_of_findSome?_eq_some hf
  unfold qR at he
  split at he
  ·rename_i hn;injection he with he;subst he;exact ⟨hb,hn⟩
  ·cases he
theorem nz {L:List Ad} (hL:∀a,a∈L→a.1.size<1000∧a.2.size<1000) (nm:ByteArray):(cb L nm).1.1.size<1000∧(cb L nm).1.2.size<1000:=by
 cases h:(cb L nm).2 with
 |true=>exact hL _ (rD h).1
 |false=>
  unfold cb at h⊢
  cases hf:L.findSome? (qR nm) with
  |none=>exact ⟨by decide,by decide⟩
  |some a=>rw [hf] at h;cases h
theorem oJ (s:ByteArray) (l:List Tm):(eJ s l).length≤l.length:=by
 have go:∀(l:List Tm) (a:Nat×List Tm),(l.foldl (io s) a).2.length≤a.2.length+l.length:=by
  intro l
  induction l with
  |nil=>intro a;simp
  |cons y r ih=>
   intro a
   rw [List.foldl_cons,List.length_cons]
   have:=ih (io s a y)
   have h2:(io s a y).2.length≤a.2.length+1:=by unfold io;simp only;split<;>simp
   omega
 have:=go l (0,[])
 simpa [eJ] using this
theorem w6 (hd:List Ar) (bd:List Li) (m:Li) (n:Nat):(iu hd bd m n).length≤m.af.length+(az bd).length:=by
 have go:∀(need l:List ByteArray) (a:List Tm),(l.foldl (lE need) a).length≤a.length+l.length:=by
  intro need l
  induction l with
  |nil=>intro a;simp
  |cons y r ih=>
   intro a
   rw [List.foldl_cons,List.length_cons]
   have:=ih (lE need a y)
   have h2:(lE need a y).length≤a.length+1:=by unfold lE;split<;>simp
   omega
 have h1:=go (ay (hd.map Ar.t++az (bd.drop n))) (ay (az (m::bd.take n))) []
 have h2:=bU (az (m::bd.take n))
 have ht:(az (m::bd.take n)).length≤m.af.length+(az bd).length:=by
  have:=congrArg List.length (congrArg az (List.take_append_drop n bd))
  unfold az at this⊢
  rw [List.flatMap_append,List.length_append] at this
  rw [List.flatMap_cons,List.length_append]
  omega
 simp only [List.length_nil] at h1
 unfold iu
 omega
structure w8 (L:List Ad) (x:Ru):Prop where
 tv:x.bd.length≤16
 hd:x.hd.length≤24
 tms:(az x.bd).length<100000
 ts:∀y,y∈x.bd→y.ts.length<1000
 sm:∀a,a∈L→a.1.size<1000∧a.2.size<1000
 aX:x.hd.length≤(cb L x.p).1.2.size
 col:∀y,y∈x.bd→y.k=1→(cb L y.p).2=true→y.ts.length≤(cb L y.p).1.2.size
theorem tD {L:List Ad} (h:∀a,a∈L→a.1.size<1000∧a.2.size<1000):Dn L:=fun a ha=>by have:=h a ha;omega
theorem Sl (hok:w8 L x) (hi:i<1000000000) (hm:m.af.length<100000):
  Lo 114 (O Tryz.f57 0) (Ih L x i m 0 [m] [] 0) (.ar 0) (Ul x (x.bd.foldl (fm L x i m) (0,[m],[],0)).2.1 (x.bd.foldl (fm L x i m) (0,[m],[],0)).2.2.1)∧(x.bd.foldl (fm L x i m) (0,[m],[],0)).2.2.1.length≤2*x.bd.length:=by
 have h:=be (P:=Tryz.prog) (n:=114) (c:=O Tryz.f57 0) (k:=0) (l:=x.bd) (fun _ a=>Ih L x i m a.1 a.2.1 a.2.2.1 a.2.2.2) (fun a=>Ul x a.2.1 a.2.2.1) (fm L x i m) (fun n a=>a.1=n∧a.2.1.length≤n+1∧a.2.1≠[]∧a.2.2.1.length≤2*n∧a.2.2.2≤n) (fun n a hn hI=>by
  obtain ⟨e1,e2,e3,e4,e5⟩:=hI
  have hf:=hok.tv
  subst e1
  obtain ⟨y,h1⟩:∃y,x.bd[a.1]? =some y:=⟨_,List.getElem?_eq_getElem hn⟩
  have hx:=jC h1
  have hy:=List.mem_of_getElem? h1
  have hne:a.2.1.map Li.av≠[]:=by simpa using e3
  have sp:=Js L y.p (tD hok.sm)
  have hq:=nz hok.sm y.p
  by_cases hk:y.k=1
  ·cases hb:(cb L y.p).2 with
   |true=>
    rw [hb] at sp
    have hts:=hok.ts _ hy
    have hlv:=w6 x.hd x.bd m a.1
    have htm:=hok.tms
    have hbl:=oJ (cb L y.p).1.2 y.ts
    obtain ⟨e,t,⟨rfl,rfl⟩,r⟩:=Ys L x i m a.1 a.2.1 a.2.2.1 a.2.2.2 y (by omega) (by omega) (by omega) (by omega) hne hx _ _ sp (decide_eq_true hk) (iu x.hd x.bd m a.1) hi (by omega) (lc hi) (lc (by omega)) (by omega) (by omega) (hok.col _ hy hk hb) (by omega) (by omega) (by omega) trivial trivial (Sk x m a.1 (by omega) (by omega) (by have:=hok.hd;omega) (by omega)) (Dk _ _ [_] (by omega))
    exact ⟨_,_,⟨rfl,y,h1,by rw [fm,if_pos ⟨hk,hb⟩]⟩,r⟩
   |false=>
    rw [hb] at sp
    obtain ⟨e,t,⟨rfl,rfl⟩,r⟩:=Yq L x i m a.1 a.2.1 a.2.2.1 a.2.2.2 y (by omega) (by omega) (by omega) (by omega) hne hx _ _ sp (decide_eq_true hk)
    exact ⟨_,_,⟨rfl,y,h1,by rw [fm,if_neg (fun h=>by rw [hb] at h;cases h.2)]⟩,r⟩
  ·obtain ⟨e,t,⟨rfl,rfl⟩,r⟩:=Yr L x i m a.1 a.2.1 a.2.2.1 a.2.2.2 y (by omega) (by omega) (by omega) (by omega) hne hx _ _ _ sp (decide_eq_false hk)
   exact ⟨_,_,⟨rfl,y,h1,by rw [fm,if_neg (fun h=>hk h.1)]⟩,r⟩) (fun n a y hy hI=>by
  obtain ⟨e1,e2,e3,e4,e5⟩:=hI
  unfold fm
  split
  ·exact ⟨by simp only;omega,by simp,by simp,by simp;omega,by simp only;omega⟩
  ·exact ⟨by simp only;omega,by simp;omega,by simp,by simp only;omega,by simp only;omega⟩) (fun a hI=>by
  obtain ⟨e1,_⟩:=hI
  have:=e57 L x i m a.2.1 a.2.2.1 a.2.2.2
  rw [←e1] at this
  exact this) (0,[m],[],0) ⟨rfl,by simp,by simp,by simp,by simp⟩
 exact ⟨h.1,h.2.2.2.2.1⟩
theorem b57 (q1 q2:ByteArray) (b:Bool) (part:List Li) (out:List Ru) (ho:out.length<1000000) (hhd:x.hd.length<100000) (hq1:q1.size<1000) (hq2:q2.size<1000) (hl:(x.hd.map Ar.t).length≤q2.size) (hl2:(x.hd.map Ar.t).length<2199023255552) (froz57_34:True) (Js:Sp 100 [.aF (L.map bE) false,.J x.p] [] (.bC [.al [.J q1,.J q2],.ak b]) []) (l57_0q:Lo 114 (O Tryz.f57 0) ⟨[M7 L,(2,.aP .i64 (i:Nat)),ny,yL,(10,.aF [(eR (bF q1 q2) (eJ q2 (x.hd.map Ar.t))).av] false),(11,.ab),(12,.aP .i64 0),(13,.aP .i64 0)],[(2004,.an [.J x.p,.aF (x.hd.map Ar.av) false,.aF (x.bd.map Li.av) false]),(2009,.an (eR (bF q1 q2) (eJ q2 (x.hd.map Ar.t))).ac)]⟩ (.ar 0) (Ul x part out)):En 114 (ai Tryz.f57) (⟨[M7 L,(1,.al [.J x.p,.aF (x.hd.map Ar.av) false,.aF (x.bd.map Li.av) false]),(2,.aP .i64 (i:Nat))],[]⟩) (fun eo so=>eo= .aR∧so=⟨[(6,.aF ((out++[eh x.p (x.hd.map Ar.t) part]).map Ru.av) false)],[]⟩):=by
 have o0:=Js
 have o1:=l57_0q
 exact au Tryz.f57 2000
theorem mz:(eR p ts).af.length=ts.length+2:=by simp [eR,Li.af,Jm,Ex.af,Ex.bv]
theorem Yo (hok:w8 L x) (hi:i<1000000000):Sp 57 [.aF (L.map bE) false,.al [.J x.p,sA x.hd,sL x.bd],sI i] [] (sR (nA L x i)) []:=by
 have hh:=hok.hd
 have hf:=hok.tv
 have hq:=nz hok.sm x.p
 have hbl:=oJ (cb L x.p).1.2 (x.hd.map Ar.t)
 rw [List.length_map] at hbl
 obtain ⟨h1,h2⟩:=Sl L x i (tC L x) hok hi (by unfold tC;rw [mz];omega)
 have h3:=h1.ez (b5 (env:=[(0,.aF (L.map bE) false),(2,sI i),(4,.aA 2004 0 0),(9,.aA 2009 0 0),(10,.aF [(tC L x).av] false),(11,.ab),(12,sI 0),(13,sI 0)]) (hp:=[(2004,.an [.J x.p,sA x.hd,sL x.bd]),(2009,.an (tC L x).ac)]) 11 1011 3 rfl rfl)
 obtain ⟨_,_,⟨rfl,rfl⟩,r⟩:=b57 L x i (cb L x.p).1.1 (cb L x.p).1.2 (cb L x.p).2 _ _ (by omega) (by omega) hq.1 hq.2 (by simpa using hok.aX) (by simp;omega) trivial (Js L x.p (tD hok.sm)) h3
 exact sP Tryz.f57 (by simp [aa,aJ]) r (.inr rfl)
abbrev Sg (L:List Ad) (G:List Ru) (qn mg:ByteArray) (ts vs:List Tm) (out:List Ru) (i:Nat):St:=⟨[(4,.aA 2004 0 0),(6,.aA 2006 0 0),(7,.aF (L.map bE) false),(9,.aA 2009 0 0),(10,sI i)],[(2004,.an [.ab,.J ⟨#[]⟩,.ab,.ab]),(2006,.an [sR G,.J qn,sT ts,.ab]),(2009,.an [.aO 1009 out.length,.J qn,sT ts,.aF [.al [.J mg,.aF (vs.map fc) false]] false]),(1009,.ao 3 (out.map Ru.av))]⟩
abbrev yM:Nat×Ob:=(2004,.an [.ab,.J ⟨#[]⟩,.ab,.ab])
abbrev EC (qn mg:ByteArray) (ts vs:List Tm) (out:List Ru):St:=⟨[ny,yL],[yM,(2009,.an [.aO 1009 out.length,.J qn,sT ts,.aF [.al [.J mg,.aF (vs.map fc) false]] false]),(1009,.ao 3 (out.map Ru.av))]⟩
abbrev If (qn mg:ByteArray) (ts vs:List Tm) (out:List Ru) (i:Nat):St:=⟨[ny,yL,(11,sI i)],[yM,(2009,.an [.aO 1009 out.length,.J qn,sT ts,.aF [.al [.J mg,.aF (vs.map fc) false]] false]),(1009,.ao 3 (out.map Ru.av))]⟩
abbrev NY:St:=⟨[ny,(5,sI 70)],[yM]⟩
theorem Sm (i:Nat) (r:Ru) (Q:List Ru) (hi:i<G.length) (hG:G.length<1000000000) (ho:out.length<100000000000) (hQ:Q.length<1000000) (hr:0≤(i:Int)∧(G.map Ru.av)[Int.toNat (i:Int)]? =some (.al [.J r.p,sA r.hd,sL r.bd])) (Yo:Sp 57 [.aF (L.map bE) false,.al [.J r.p,sA r.hd,sL r.bd],sI i] [] (sR Q) []):En 83 (O Tryz.f29 0) ((Sg L G qn mg ts vs out i)) (fun eo so=>eo= .aj∧so=Sg L G qn mg ts vs (out++Q) (i+1)):=by
 have o0:=Yo
 exact au Tryz.f29 2000
theorem Si:En 83 (O Tryz.f29 0) ((Sg L G qn mg ts vs out G.length)) (fun eo so=>eo= .ar 0∧so=EC qn mg ts vs out):=au Tryz.f29 2000
attribute [local simp,local grind] fj in
theorem Sn (i:Nat) (r:Ru) (hi:i<out.length) (ho:out.length<100000000000) (ha:(out.map Ru.av)[Int.toNat (i:Int)]? =some (.al [.J r.p,sA r.hd,sL r.bd])):En 83 (O Tryz.f29 1) ((If qn mg ts vs out i)) (fun e t=>(e= .aR∧ch r.p r.hd r.bd=false∧t=NY)∨(e= .aj∧ch r.p r.hd r.bd=true∧t=If qn mg ts vs out (i+1))):=au Tryz.f29 2000 (hr:=KL (I8 [4,9,11] [4,5]) (I8 [K1 2004,K0 2009,K1 1009] [K1 2004]))
theorem Sj:En 83 (O Tryz.f29 1) ((If qn mg ts vs out out.length)) (fun eo so=>eo= .ar 2∧so=EC qn mg ts vs out):=au Tryz.f29 2000
theorem Sh (e:Int) (he:decide (e=0)=false) (Yi:Sp 54 [sR rs,.al [.J p,sT ts]] [] (.bC [.al [.ab,.J ⟨#[]⟩,.ab,.ab],.ab,sI e]) []):En 83 (ai Tryz.f29) (⟨[(0,sR rs),(1,.al [.J p,sT ts])],[]⟩) (fun eo so=>eo= .aR∧so=⟨[ny,(5,sI e)],[yM]⟩):=by
 have o0:=Yi
 exact au Tryz.f29 2000
theorem Yk (Yi:Sp 54 [sR rs,.al [.J p,sT ts]] [] (.bC [.al [.ab,.J p,sT ts,.ab],.ab,sI 0]) []):En 83 (ai Tryz.f29) (⟨[(0,sR rs),(1,.al [.J p,sT ts])],[]⟩) (fun eo so=>eo= .aR∧so=⟨[ny,(5,sI 0)],[(2004,.an [.ab,.J p,sT ts,.ab])]⟩):=by
 have o0:=Yi
 exact au Tryz.f29 2000
abbrev M8:Nat×AV:=(7,.aF (L.map bE) false)
theorem Yl (L:List Ad) (G:List Ru) (qn a1 a2:ByteArray) (out:List Ru) (hts:ts.length<100000) (h1:a1.size<1000) (h2:a2.size<1000) (hL:decide (((L.map bE).length:Int)=0)=false) (ha0:0≤(0:Int)∧(L.map bE)[Int.toNat 0]? =some (.al [.J a1,.J a2])) (froz29_38:True) (Yi:Sp 54 [sR rs,.al [.J p,sT ts]] [] (.bC [.al [sR G,.J qn,sT ts,.ab],.aF (L.map bE) false,sI 0]) []) (l29_0q:Lo 83 (O Tryz.f29 0) ⟨[ny,(6,.aA 2006 0 0),M8 L,yL,(10,sI 0)],[yM,(2006,.an [sR G,.J qn,sT ts,.ab]),(2009,.an [.ab,.J qn,sT ts,.aF [.al [.J (bF a1 a2),.aF ((bP ts).map fc) false]] false])]⟩ (.ar 0) (EC qn (bF a1 a2) ts (bP ts) out)) (l29_1q:Lo 83 (O Tryz.f29 1) (If qn (bF a1 a2) ts (bP ts) out 0) .aR NY):En 83 (ai Tryz.f29) (⟨[(0,sR rs),(1,.al [.J p,sT ts])],[]⟩) (fun eo so=>eo= .aR∧so=NY):=by
 have o0:=Yi
 have o1:=l29_0q
 have o2:=l29_1q
 exact au Tryz.f29 2000
theorem Ym (L:List Ad) (G:List Ru) (qn a1 a2:ByteArray) (out:List Ru) (hts:ts.length<100000) (h1:a1.size<1000) (h2:a2.size<1000) (hL:decide (((L.map bE).length:Int)=0)=false) (ha0:0≤(0:Int)∧(L.map bE)[Int.toNat 0]? =some (.al [.J a1,.J a2])) (froz29_38:True) (Yi:Sp 54 [sR rs,.al [.J p,sT ts]] [] (.bC [.al [sR G,.J qn,sT ts,.ab],.aF (L.map bE) false,sI 0]) []) (l29_0q:Lo 83 (O Tryz.f29 0) ⟨[ny,(6,.aA 2006 0 0),M8 L,yL,(10,sI 0)],[yM,(2006,.an [sR G,.J qn,sT ts,.ab]),(2009,.an [.ab,.J qn,sT ts,.aF [.al [.J (bF a1 a2),.aF ((bP ts).map fc) false]] false])]⟩ (.ar 0) (EC qn (bF a1 a2) ts (bP ts) out)) (hf0:0≤(0:Int)∧([.al [.J (bF a1 a2),.aF ((bP ts).map fc) false]]:List AV)[Int.toNat 0]? =some (.al [.J (bF a1 a2),.aF ((bP ts).map fc) false])) (l29_1q:Lo 83 (O Tryz.f29 1) (If qn (bF a1 a2) ts (bP ts) out 0) (.ar 2) (EC qn (bF a1 a2) ts (bP ts) out)) (O9:Sp 59 [.J (bF a1 a2)] [] (.ak false) []):En 83 (ai Tryz.f29) (⟨[(0,sR rs),(1,.al [.J p,sT ts])],[]⟩) (fun eo so=>eo= .aR∧so=NY):=by
 have o0:=Yi
 have o1:=l29_0q
 have o2:=l29_1q
 exact au Tryz.f29 2000
theorem Yn (L:List Ad) (G:List Ru) (qn a1 a2:ByteArray) (out:List Ru) (hts:ts.length<100000) (h1:a1.size<1000) (h2:a2.size<1000) (hL:decide (((L.map bE).length:Int)=0)=false) (ha0:0≤(0:Int)∧(L.map bE)[Int.toNat 0]? =some (.al [.J a1,.J a2])) (froz29_38:True) (Yi:Sp 54 [sR rs,.al [.J p,sT ts]] [] (.bC [.al [sR G,.J qn,sT ts,.ab],.aF (L.map bE) false,sI 0]) []) (l29_0q:Lo 83 (O Tryz.f29 0) ⟨[ny,(6,.aA 2006 0 0),M8 L,yL,(10,sI 0)],[yM,(2006,.an [sR G,.J qn,sT ts,.ab]),(2009,.an [.ab,.J qn,sT ts,.aF [.al [.J (bF a1 a2),.aF ((bP ts).map fc) false]] false])]⟩ (.ar 0) (EC qn (bF a1 a2) ts (bP ts) out)) (hf0:0≤(0:Int)∧([.al [.J (bF a1 a2),.aF ((bP ts).map fc) false]]:List AV)[Int.toNat 0]? =some (.al [.J (bF a1 a2),.aF ((bP ts).map fc) false])) (l29_1q:Lo 83 (O Tryz.f29 1) (If qn (bF a1 a2) ts (bP ts) out 0) (.ar 2) (EC qn (bF a1 a2) ts (bP ts) out)) (O9:Sp 59 [.J (bF a1 a2)] [] (.ak true) []):En 83 (ai Tryz.f29) (⟨[(0,sR rs),(1,.al [.J p,sT ts])],[]⟩) (fun eo so=>eo= .aR∧so=⟨[ny,(5,sI 0)],[(2004,.an [sR out,.J qn,sT ts,.aF [.al [.J (bF a1 a2),.aF ((bP ts).map fc) false]] false])]⟩):=by
 have o0:=Yi
 have o1:=l29_0q
 have o2:=l29_1q
 exact au Tryz.f29 2000
end
section
variable (rules:List Ru) (rem rn:List ByteArray) (vs:List AV)
def pq:List Ru→Nat
 |[]=>0
 |r::l=>max r.hd.length (pq l)
theorem ED (l:List Ru) (y:Ru):pq (l++[y])=max (pq l) y.hd.length:=by
 induction l with
 |nil=>simp [pq]
 |cons r l ih=>simp only [List.cons_append,pq,ih];omega
theorem Il {l:List Ru} {r:Ru} (h:r∈l):r.hd.length≤pq l:=by
 induction l with
 |nil=>simp at h
 |cons a l ih=>
  simp only [pq]
  rcases List.mem_cons.1 h with rfl|h
  ·omega
  ·have:=ih h;omega
def wd (R:List Ru) (u:ByteArray):Nat:=pq (bx R u)
def wV (R:List Ru) (rn:List ByteArray):List AV:=rn.map fun u=>sI ((wd R u:Nat):Int)
@[simp] theorem c7 (R : List Ru) (rn : List ByteArray) : aa (wV R rn) = true := bI (fun u => sI ((wd R u : Nat) : Int)) (fun _ => rfl) rn
theorem va (R:List Ru) (y:Ru) (u:ByteArray):wd (R++[y]) u=if y.p=u then max (wd R u) y.hd.length else wd R u:=by
 unfold wd
 rw [fT]
 by_cases h:y.p=u
 ·rw [if_pos h,if_pos h,ED]
 ·rw [if_neg h,if_neg h,List.append_nil]
theorem Nc {R:List Ru} {rn:List ByteArray} (h:RN R rn) {u:ByteArray} (hu:u∉rn):wd R u=0:=by
 unfold wd;rw [pd h hu];rfl
theorem Na {R:List Ru} {rn:List ByteArray} {y:Ru} (h:RN R rn) (hu:y.p∉rn):wV (R++[y]) (rn++[y.p])=wV R rn++[sI ((y.hd.length:Nat):Int)]:=by
 unfold wV
 rw [List.map_append]
 congr 1
 ·refine List.map_congr_left fun u hm=> ?_
  rw [va,if_neg (fun e=>hu (by rw [e];exact hm))]
 ·simp only [List.map_cons,List.map_nil]
  rw [va,if_pos rfl,Nc h hu,Nat.zero_max]
theorem Nb {R:List Ru} {rn:List ByteArray} {y:Ru} {j:Nat} (hn:rn.Nodup) (hj:rn[j]? =some y.p):wV (R++[y]) rn=(wV R rn).set j (sI ((max (wd R y.p) y.hd.length:Nat):Int)):=by
 apply List.ext_getElem?
 intro k
 by_cases e:j=k
 ·subst e
  have hlt:j<(wV R rn).length:=by unfold wV;rw [List.length_map];exact (List.getElem?_eq_some_iff.1 hj).1
  rw [List.getElem?_set_self hlt]
  unfold wV
  rw [List.getElem?_map,hj]
  simp only [Option.map_some]
  rw [va,if_pos rfl]
 ·rw [List.getElem?_set_ne e]
  unfold wV
  rw [List.getElem?_map,List.getElem?_map]
  cases hk:rn[k]? with
  |none=>rfl
  |some u=>
   simp only [Option.map_some]
   have:y.p≠u:=by
    rintro rfl
    exact e (k9 hn hj hk)
   rw [va,if_neg this]
abbrev Ij:Nat×Ob:=(13,.aI (rn.map AV.J) vs)
theorem Yw (hv:aa vs=true) (y:Ru) (i:Nat) (hi:i<rules.length) (hsm:rules.length≤1048576) (hx:0≤(i:Int)∧(rules.map Ru.av)[Int.toNat (i:Int)]? =some y.av) (hf:bs true (.J y.p) (rn.map AV.J) 0=some none):En 95 (O Tryz.f17 0) ⟨[(0,sR rules),(3,.aI 13),(4,sI (i:Int))],[Ij rn vs]⟩ (fun e t=>e= .aj∧∃m:Int,m=((y.hd.map Ar.av).length:Nat)∧t=⟨[(0,sR rules),(3,.aI 13),(4,sI ((i+1:Nat):Int))],[(13,.aI (rn.map AV.J++[.J y.p]) (vs++[sI m]))]⟩):=aS Tryz.f17 0 [0,3,4] [K1 13]
theorem Yx (hv:aa vs=true) (y:Ru) (i:Nat) (hi:i<rules.length) (hsm:rules.length≤1048576) (hx:0≤(i:Int)∧(rules.map Ru.av)[Int.toNat (i:Int)]? =some y.av) (j:Nat) (wj:Int) (hw:0≤wj∧wj≤9223372036854775807) (hf:bs true (.J y.p) (rn.map AV.J) 0=some (some j)) (hfv:∃j',bs true (.J y.p) (rn.map AV.J) 0=some (some j')∧vs[j']? =some (sI wj)):En 95 (O Tryz.f17 0) ⟨[(0,sR rules),(3,.aI 13),(4,sI (i:Int))],[Ij rn vs]⟩ (fun e t=>e= .aj∧∃m:Int,m=max wj ((y.hd.map Ar.av).length:Nat)∧t=⟨[(0,sR rules),(3,.aI 13),(4,sI ((i+1:Nat):Int))],[(13,.aI ((rn.map AV.J).set (Int.toNat (j:Int)) (.J y.p)) (vs.set (Int.toNat (j:Int)) (sI m)))]⟩):=by
 exact z0<|zt (d1 Ru.av rules i (by omega))<|ze hx<|ze hx<|zx (.aA (sI wj)) hfv<|ze hx<|zh hf<|zh (w1 i (by omega))<|zh (show aa (List.set (rn.map AV.J) (Int.toNat (j:Int)) (AV.J y.1))=true∧aa (List.set vs (Int.toNat (j:Int)) (sI (Decidable.rec (fun (h:¬(↑(List.length (List.map Ar.av (Ru.hd y))):Int)>wj)=>(fun (x:¬(↑(List.length (List.map Ar.av (Ru.hd y))):Int)>wj)=>wj) h) (fun (h:(↑(List.length (List.map Ar.av (Ru.hd y))):Int)>wj)=>(fun (x:(↑(List.length (List.map Ar.av (Ru.hd y))):Int)>wj)=>(↑(List.length (List.map Ar.av (Ru.hd y))):Int)) h) (Int.decLt wj (↑(List.length (List.map Ar.av (Ru.hd y))):Int)))))=true from ⟨wK _ _ _,gQ hv rfl⟩)<|zd (.aA (sI (j:Int)))<|zq (s:=St.mk [(0,sR rules),(3,AV.aI 13),(4,sI ((i:Int)+1))] [(13,.aI (List.set (rn.map AV.J) (Int.toNat (j:Int)) (.J y.1)) (List.set vs (Int.toNat (j:Int)) (sI (Decidable.rec (fun (h:¬(↑(List.length (List.map Ar.av (Ru.hd y))):Int)>wj)=>(fun (x:¬(↑(List.length (List.map Ar.av (Ru.hd y))):Int)>wj)=>wj) h) (fun (h:(↑(List.length (List.map Ar.av (Ru.hd y))):Int)>wj)=>(fun (x:(↑(List.length (List.map Ar.av (Ru.hd y))):Int)>wj)=>(↑(List.length (List.map Ar.av (Ru.hd y))):Int)) h) (Int.decLt wj (↑(List.length (List.map Ar.av (Ru.hd y))):Int))))))]) ⟨rfl,_,by (have h0:=Int.natCast_nonneg ((y.hd.map Ar.av).length);cases Int.decLt wj ((y.hd.map Ar.av).length:Nat)<;>(first|rfl|(dsimp only;omega))),rfl⟩
theorem e17 (hv:aa vs=true):En 95 (O Tryz.f17 0) ⟨[(0,sR rules),(3,.aI 13),(4,sI ((rules.length:Nat):Int))],[Ij rn vs]⟩ (fun e t=>e= .ar 0∧t=⟨[(0,sR rules),(3,.aI 13)],[Ij rn vs]⟩):=au Tryz.f17 0
def iv (w:Int):Int:=if 7<w then 7 else w
theorem u9 (w:Int) (h:0≤w):0≤iv w∧iv w≤7:=by unfold iv;split<;>omega
theorem Yv:∀m:Nat,m≤7→IntKind.wrap .i64 (eI 1 (m:Int))=eI 1 (m:Int)∧1≤eI 1 (m:Int)∧eI 1 (m:Int)≤128
 |0,_=>by decide
 |1,_=>by decide
 |2,_=>by decide
 |3,_=>by decide
 |4,_=>by decide
 |5,_=>by decide
 |6,_=>by decide
 |7,_=>by decide
 |m+8,h=>by omega
theorem M9 {m:Int} (h0:0≤m) (h1:m≤7):(0≤m∧m.toNat≤64∧IntKind.wrap .i64 (eI 1 m)=eI 1 m)∧1≤eI 1 m∧eI 1 m≤128:=by
 obtain ⟨q,rfl⟩:=Int.eq_ofNat_of_zero_le h0
 obtain ⟨a,b,c⟩:=Yv q (by omega)
 exact ⟨⟨h0,by simp;omega,a⟩,b,c⟩
abbrev w9:Nat×AV:=(8,.aA 8 0 0)
abbrev jP:Nat×Ob:=(13,.aI (rem.map AV.J) vs)
theorem m17 (hv:aa vs=true) (n:Int) (x:Li) (i k:Nat) (wj:Int) (hw:0≤wj) (hn:0≤n∧n≤1000000000):Rz 95 (fa Tryz.f17 85) ⟨[(0,sR rules),(3,.aI 13),(5,sI n),(6,sI (i:Int)),(7,sI (k:Int)),w9,(9,sI wj)],[jP rem vs,(8,.an [.J x.p,sT x.ts])]⟩ .aj ⟨[(0,sR rules),(3,.aI 13),(5,sI (n+eI 1 (iv wj))),(6,sI (i:Int)),(7,sI (k:Int)),w9],[jP rem vs,(8,.an [.J x.p,sT x.ts])]⟩:=by
 obtain ⟨w0,w7⟩:=u9 wj hw
 obtain ⟨w1,w2,w3⟩:=M9 w0 w7
 have h:Rz 95 (fa Tryz.f17 85) ⟨[(0,sR rules),(3,.aI 13),(5,sI n),(6,sI (i:Int)),(7,sI (k:Int)),w9,(9,sI wj)],[jP rem vs,(8,.an [.J x.p,sT x.ts])]⟩ .aj ⟨[(0,sR rules),(3,.aI 13),(5,sI (n+eI 1 (iv wj))),(6,sI (i:Int)),(7,sI (k:Int)),w9,(9,sI wj),(85,sI n),(86,sI wj),(87,sI (iv wj)),(88,sI (eI 1 (iv wj))),(89,sI (n+eI 1 (iv wj)))],[jP rem vs,(8,.an [.J x.p,sT x.ts])]⟩:=
  Mr (base:=0) (sc:=[]) [0≤iv wj∧(iv wj).toNat≤64∧IntKind.wrap .i64 (eI 1 (iv wj))=eI 1 (iv wj),IntKind.wrap .i64 (n+eI 1 (iv wj))=(n+eI 1 (iv wj))] (by kernel_rfl) ⟨w1,bA (by omega) (by omega),trivial⟩
 exact h.fb [0,3,5,6,7,8] [K1 13,K1 8] (cs:=[aa (rem.map AV.J)=true∧aa vs=true,aa [AV.J x.p,sT x.ts]=true]) rfl ⟨⟨bw rem,hv⟩,rfl,trivial⟩
theorem Yz (hv:aa vs=true) (n:Int) (r:Ru) (i:Nat) (hx:0≤(i:Int)∧(rules.map Ru.av)[Int.toNat (i:Int)]? =some r.av) (x:Li) (k:Nat) (hkl:(r.bd.map Li.av).length=r.bd.length) (hk:k<r.bd.length) (hks:r.bd.length<10000000000000) (hy:0≤(k:Int)∧(r.bd.map Li.av)[Int.toNat (k:Int)]? =some x.av) (hf:bs true (.J x.p) (rem.map AV.J) 0=some none):EN 95 (O Tryz.f17 2) ⟨[(0,sR rules),(3,.aI 13),(5,sI n),(6,sI (i:Int)),(7,sI (k:Int))],[jP rem vs]⟩ ⟨[(0,sR rules),(3,.aI 13),(5,sI n),(6,sI (i:Int)),(7,sI ((k+1:Nat):Int))],[jP rem vs]⟩:=au Tryz.f17 0
theorem YA (hv:aa vs=true) (n:Int) (r:Ru) (i:Nat) (hx:0≤(i:Int)∧(rules.map Ru.av)[Int.toNat (i:Int)]? =some r.av) (x:Li) (k:Nat) (hkl:(r.bd.map Li.av).length=r.bd.length) (hk:k<r.bd.length) (hks:r.bd.length<10000000000000) (hy:0≤(k:Int)∧(r.bd.map Li.av)[Int.toNat (k:Int)]? =some x.av) (wj:Int) (hk3:(!decide (x.k=3))=false) (hf:∃j,bs true (.J x.p) (rem.map AV.J) 0=some (some j)∧vs[j]? =some (sI wj)):EN 95 (O Tryz.f17 2) ⟨[(0,sR rules),(3,.aI 13),(5,sI n),(6,sI (i:Int)),(7,sI (k:Int))],[jP rem vs]⟩ ⟨[(0,sR rules),(3,.aI 13),(5,sI n),(6,sI (i:Int)),(7,sI ((k+1:Nat):Int))],[jP rem vs]⟩:=au Tryz.f17 0
theorem d17 (hv:aa vs=true) (n:Int) (r:Ru) (i:Nat) (hx:0≤(i:Int)∧(rules.map Ru.av)[Int.toNat (i:Int)]? =some r.av) (x:Li) (k:Nat) (j:Nat) (hj:bs true (.J x.p) (rem.map AV.J) 0=some (some (Int.toNat (j:Int)))) (hno:∀v,v∈vs→xx v=false) (hne:aa ((rem.map AV.J).eraseIdx (Int.toNat (j:Int)))=true∧aa (vs.eraseIdx (Int.toNat (j:Int)))=true):EN 95 (fa Tryz.f17 90) ⟨[(0,sR rules),(3,.aI 13),(5,sI n),(6,sI (i:Int)),(7,sI (k:Int)),w9],[jP rem vs,(8,.an [.J x.p,sT x.ts])]⟩ ⟨[(0,sR rules),(3,.aI 13),(5,sI n),(6,sI (i:Int)),(7,sI (k:Int))],[(13,.aI ((rem.map AV.J).eraseIdx (Int.toNat (j:Int))) (vs.eraseIdx (Int.toNat (j:Int))))]⟩:=au Tryz.f17 0
theorem YB (hv:aa vs=true) (n:Int) (r:Ru) (i:Nat) (hx:0≤(i:Int)∧(rules.map Ru.av)[Int.toNat (i:Int)]? =some r.av) (x:Li) (k:Nat) (hkl:(r.bd.map Li.av).length=r.bd.length) (hk:k<r.bd.length) (hks:r.bd.length<10000000000000) (hy:0≤(k:Int)∧(r.bd.map Li.av)[Int.toNat (k:Int)]? =some x.av) (wj n2:Int) (rem2:List ByteArray) (vs2:List AV) (hv2:aa vs2=true) (hk3:(!decide (x.k=3))=true) (hf:∃j,bs true (.J x.p) (rem.map AV.J) 0=some (some j)∧vs[j]? =some (sI wj)) (pr17_85p:Rz 95 (fa Tryz.f17 85) ⟨[(0,sR rules),(3,.aI 13),(5,sI n),(6,sI (i:Int)),(7,sI (k:Int)),w9,(9,sI wj)],[jP rem vs,(8,.an [.J x.p,sT x.ts])]⟩ .aj ⟨[(0,sR rules),(3,.aI 13),(5,sI n2),(6,sI (i:Int)),(7,sI (k:Int)),w9],[jP rem vs,(8,.an [.J x.p,sT x.ts])]⟩) (pr17_90p:Rz 95 (fa Tryz.f17 90) ⟨[(0,sR rules),(3,.aI 13),(5,sI n2),(6,sI (i:Int)),(7,sI (k:Int)),w9],[jP rem vs,(8,.an [.J x.p,sT x.ts])]⟩ .aj ⟨[(0,sR rules),(3,.aI 13),(5,sI n2),(6,sI (i:Int)),(7,sI (k:Int))],[(13,.aI (rem2.map AV.J) vs2)]⟩):EN 95 (O Tryz.f17 2) ⟨[(0,sR rules),(3,.aI 13),(5,sI n),(6,sI (i:Int)),(7,sI (k:Int))],[jP rem vs]⟩ ⟨[(0,sR rules),(3,.aI 13),(5,sI n2),(6,sI (i:Int)),(7,sI ((k+1:Nat):Int))],[(13,.aI (rem2.map AV.J) vs2)]⟩:=by
 exact z0<|ze hx<|zt (show decide ((k:Int)<(↑(List.length (List.map Li.av (Ru.bd r))):Int))=true from decide_eq_true (by omega))<|ze hx<|ze hy<|zx (.aA (sI wj)) hf<|ze hx<|ze hy<|zt hk3<|zh (show aa (rem.map AV.J)=true∧aa vs=true from by simp;omega)<|zh rT<|zd (.g8 [0,3,5,6,7,8,9] [K1 13,K1 8])<|zr 85 pr17_85p<|zh (show aa (rem.map AV.J)=true∧aa vs=true from by simp;omega)<|zh rT<|zd (.g8 [0,3,5,6,7,8] [K1 13,K1 8])<|zr 90 pr17_90p<|zh (w1 k (by omega))<|zh (show aa (rem2.map AV.J)=true∧aa vs2=true from by simp;omega)<|zq ⟨rfl,rfl⟩
theorem YC (hv:aa vs=true) (n:Int) (r:Ru) (i:Nat) (hx:0≤(i:Int)∧(rules.map Ru.av)[Int.toNat (i:Int)]? =some r.av):En 95 (O Tryz.f17 2) ⟨[(0,sR rules),(3,.aI 13),(5,sI n),(6,sI (i:Int)),(7,sI ((r.bd.length:Nat):Int))],[jP rem vs]⟩ (fun e t=>e= .ar 4∧t=⟨[(0,sR rules),(3,.aI 13),(5,sI n),(6,sI (i:Int))],[jP rem vs]⟩):=au Tryz.f17 0
theorem u17 (hv:aa vs=true) (n:Int) (rem2:List ByteArray) (vs2:List AV) (hv2:aa vs2=true) (n2:Int) (i:Nat) (hi:i<rules.length) (hsm:rules.length≤1048576) (l17_2q:Lo 95 (O Tryz.f17 2) ⟨[(0,sR rules),(3,.aI 13),(5,sI n),(6,sI (i:Int)),(7,sI 0)],[jP rem vs]⟩ (.ar 4) ⟨[(0,sR rules),(3,.aI 13),(5,sI n2),(6,sI (i:Int))],[(13,.aI (rem2.map AV.J) vs2)]⟩):EN 95 (O Tryz.f17 1) ⟨[(0,sR rules),(3,.aI 13),(5,sI n),(6,sI (i:Int))],[jP rem vs]⟩ ⟨[(0,sR rules),(3,.aI 13),(5,sI n2),(6,sI ((i+1:Nat):Int))],[(13,.aI (rem2.map AV.J) vs2)]⟩:=by
 have o0:=l17_2q
 exact au Tryz.f17 0
theorem Yy (hv:aa vs=true) (n:Int):En 95 (O Tryz.f17 1) ⟨[(0,sR rules),(3,.aI 13),(5,sI n),(6,sI ((rules.length:Nat):Int))],[jP rem vs]⟩ (fun e t=>e= .ar 2∧t=⟨[(5,sI n)],[]⟩):=au Tryz.f17 0
theorem Im {l:List Ru} {B:Nat} (h0:0<B) (h:∀r,r∈l→r.hd.length<B):pq l<B:=by
 induction l with
 |nil=>exact h0
 |cons a l ih=>
  have h1:=h a (by simp)
  have h2:=ih fun r hr=>h r (by simp [hr])
  simp only [pq];omega
theorem Sx {rules:List Ru} (hS:∀r,r∈rules→B6 r) (i:Nat) (u:ByteArray):wd (rules.take i) u<10000000000000:=Im (by omega) fun r hr=>Nat.lt_of_lt_of_le (hS r (List.mem_of_mem_take (cG.1 hr).1)).1 (by decide)
abbrev Ss:Nat×Ob:=(13,.aI (([]:List ByteArray).map AV.J) [])
abbrev Ik:Nat×Ob:=(13,.aI (rn.map AV.J) (wV rules rn))
theorem Su (hS:∀r,r∈rules→B6 r) (hsm:rules.length≤1048576):∃rn:List ByteArray,rn.Nodup∧RN rules rn∧Lo 95 (O Tryz.f17 0) ⟨[(0,sR rules),(3,.aI 13),(4,sI 0)],[Ss]⟩ (.ar 0) ⟨[(0,sR rules),(3,.aI 13)],[Ik rules rn]⟩:=by
 have T:∀(i:Nat) (rn:List ByteArray),i<rules.length→(rn.Nodup∧RN (rules.take i) rn)→En 95 (O Tryz.f17 0) ⟨[(0,sR rules),(3,.aI 13),(4,sI (i:Int))],[(13,.aI (rn.map AV.J) (wV (rules.take i) rn))]⟩ (fun e s=>e= .aj∧∃rn:List ByteArray,(rn.Nodup∧RN (rules.take (i+1)) rn)∧s=⟨[(0,sR rules),(3,.aI 13),(4,sI ((i+1:Nat):Int))],[(13,.aI (rn.map AV.J) (wV (rules.take (i+1)) rn))]⟩):=by
  intro i rn hi ⟨hn,hr⟩
  have hy:rules[i]? =some rules[i]:=List.getElem?_eq_getElem hi
  have htk:rules.take (i+1)=rules.take i++[rules[i]]:=List.take_succ_eq_append_getElem hi
  rw [htk]
  generalize rules[i]=y at hy
  have hx:0≤(i:Int)∧(rules.map Ru.av)[Int.toNat (i:Int)]? =some (Ru.av y):=⟨by omega,dD Ru.av hy⟩
  by_cases hm:y.p∈rn
  ·obtain ⟨j,hf,hj⟩:=cy (i:=0) hm
   rw [Nat.zero_add] at hf
   obtain ⟨r0,q1,q2⟩:=(hr y.p).1 hm
   have hvj:(wV (rules.take i) rn)[j]? =some (sI ((wd (rules.take i) y.p:Nat):Int)):=by unfold wV;rw [List.getElem?_map,hj];rfl
   have hwl:=Sx hS i y.p
   obtain ⟨e,t,⟨rfl,m,hm1,rfl⟩,h⟩:=Yx rules rn (wV (rules.take i) rn) (c7 _ _) y i hi hsm hx j (wd (rules.take i) y.p:Nat) ⟨by omega,by omega⟩ hf ⟨j,hf,hvj⟩
   have e1:m=((max (wd (rules.take i) y.p) y.hd.length:Nat):Int):=by rw [hm1,List.length_map];omega
   rw [Int.toNat_natCast,e1,←Nb hn hj,kE (l:=rn.map AV.J) (by rw [List.getElem?_map,hj];rfl)] at h
   exact ⟨_,_,⟨rfl,rn,⟨hn,fun u=>by
    rw [hr]
    constructor
    ·rintro ⟨r,h1,h2⟩;exact ⟨r,by simp [h1],h2⟩
    ·rintro ⟨r,h1,h2⟩
     rcases List.mem_append.1 h1 with h1|h1
     ·exact ⟨r,h1,h2⟩
     ·rw [List.mem_singleton] at h1;subst h1;subst h2;exact ⟨r0,q1,q2⟩⟩,rfl⟩,h⟩
  ·obtain ⟨e,t,⟨rfl,m,hm1,rfl⟩,h⟩:=Yw rules rn (wV (rules.take i) rn) (c7 _ _) y i hi hsm hx (co hm)
   rw [hm1,List.length_map,←Na hr hm,show rn.map AV.J++[AV.J y.p]=(rn++[y.p]).map AV.J from by simp] at h
   refine ⟨_,_,⟨rfl,rn++[y.p],⟨List.nodup_append.2 ⟨hn,by simp,fun a ha b hb=> ?_⟩,fun u=> ?_⟩,rfl⟩,h⟩
   ·rw [List.mem_singleton] at hb;subst hb;rintro rfl;exact hm ha
   ·rw [List.mem_append,List.mem_singleton,hr]
    constructor
    ·rintro (⟨r,h1,h2⟩|h1)
     ·exact ⟨r,by simp [h1],h2⟩
     ·exact ⟨y,by simp,h1.symm⟩
    ·rintro ⟨r,h1,h2⟩
     rcases List.mem_append.1 h1 with h1|h1
     ·exact .inl ⟨r,h1,h2⟩
     ·rw [List.mem_singleton] at h1;subst h1;exact .inr h2.symm
 obtain ⟨rn,⟨h1,h2⟩,h⟩:=iJ (P:=Tryz.prog) (n:=95) (c:=O Tryz.f17 0) (N:=rules.length) (k:=0) (γ:=List ByteArray) (fun i rn=>⟨[(0,sR rules),(3,.aI 13),(4,sI (i:Int))],[(13,.aI (rn.map AV.J) (wV (rules.take i) rn))]⟩) (fun rn=>⟨[(0,sR rules),(3,.aI 13)],[(13,.aI (rn.map AV.J) (wV (rules.take rules.length) rn))]⟩)
  (fun i rn=>rn.Nodup∧RN (rules.take i) rn) T (fun rn _=>e17 rules rn (wV (rules.take rules.length) rn) (c7 _ _)) [] ⟨by simp,fun u=>by simp⟩
 rw [List.take_length] at h2 h
 exact ⟨rn,h1,h2,h⟩
def sW (rules:List Ru):List ByteArray→Int
 |[]=>0
 |u::r=>eI 1 (iv ((wd rules u:Nat):Int))+sW rules r
theorem rE (rules:List Ru):∀D:List ByteArray,0≤sW rules D∧sW rules D≤128*(D.length:Int)
 |[]=>by simp [sW]
 |u::r=>by
  have h1:=rE rules r
  obtain ⟨w0,w7⟩:=u9 ((wd rules u:Nat):Int) (by omega)
  obtain ⟨_,w2,w3⟩:=M9 w0 w7
  simp only [sW,List.length_cons]
  omega
theorem gf {α:Type}:∀{l:List α},l.Nodup→∀{j:Nat} {a u:α},l[j]? =some a→(u∈l.eraseIdx j↔u∈l∧u≠a)
 |b::l,hd,0,a,u,h=>by
  simp at h;subst h
  have hb:=(List.nodup_cons.1 hd).1
  simp only [List.eraseIdx_cons_zero,List.mem_cons]
  constructor
  ·intro h;exact ⟨.inr h,by rintro rfl;exact hb h⟩
  ·rintro ⟨h1|h1,h2⟩
   ·exact absurd h1 h2
   ·exact h1
 |b::l,hd,j+1,a,u,h=>by
  simp at h
  have hb:=(List.nodup_cons.1 hd).1
  have ih:=gf (List.nodup_cons.1 hd).2 (u:=u) h
  simp only [List.eraseIdx_cons_succ,List.mem_cons,ih]
  constructor
  ·rintro (h1|⟨h1,h2⟩)
   ·subst h1;exact ⟨.inl rfl,by rintro rfl;exact hb (List.mem_of_getElem? h)⟩
   ·exact ⟨.inr h1,h2⟩
  ·rintro ⟨h1|h1,h2⟩
   ·exact .inl h1
   ·exact .inr ⟨h1,h2⟩
structure nB (rules:List Ru) (rn rem D:List ByteArray) (n:Int):Prop where
 nr:rem.Nodup
 nd:D.Nodup
 Um:∀u,u∈rn↔u∈rem∨u∈D
 J5:∀u,u∈D→u∉rem
 B3:n=sW rules D
theorem nB.Sr {rules:List Ru} {rn rem D:List ByteArray} {n:Int} (h:nB rules rn rem D n) (hrn:RN rules rn) (hsm:rules.length≤1048576):0≤n∧n≤200000000:=by
 have h1:D.length≤(rules.map Ru.p).length:=gB h.nd fun u hu=>by
  obtain ⟨r,h1,h2⟩:=(hrn u).1 ((h.Um u).2 (.inr hu))
  exact List.mem_map.2 ⟨r,h1,h2⟩
 have h2:=rE rules D
 rw [List.length_map] at h1
 rw [h.B3];omega
theorem Sw (hrn:RN rules rn) (hsm:rules.length≤1048576) (r:Ru) (i:Nat) (hx:0≤(i:Int)∧(rules.map Ru.av)[Int.toNat (i:Int)]? =some r.av) (hks:r.bd.length<10000000000000) (rem D:List ByteArray) (n:Int) (hs:nB rules rn rem D n):
  ∃(rem2 D2:List ByteArray) (n2:Int),nB rules rn rem2 D2 n2∧(∀u,u∈D→u∈D2)∧(∀x,x∈r.bd→x.k≠3→x.p∈rn→x.p∈D2)∧Lo 95 (O Tryz.f17 2) ⟨[(0,sR rules),(3,.aI 13),(5,sI n),(6,sI (i:Int)),(7,sI 0)],[(13,.aI (rem.map AV.J) (wV rules rem))]⟩ (.ar 4) ⟨[(0,sR rules),(3,.aI 13),(5,sI n2),(6,sI (i:Int))],[(13,.aI (rem2.map AV.J) (wV rules rem2))]⟩:=by
 have hkl:(r.bd.map Li.av).length=r.bd.length:=List.length_map ..
 have T:∀(k:Nat) (g:List ByteArray×List ByteArray×Int),k<r.bd.length→(nB rules rn g.1 g.2.1 g.2.2∧(∀u,u∈D→u∈g.2.1)∧∀k',k'<k→∀x,r.bd[k']? =some x→x.k≠3→x.p∈rn→x.p∈g.2.1)→En 95 (O Tryz.f17 2) ⟨[(0,sR rules),(3,.aI 13),(5,sI g.2.2),(6,sI (i:Int)),(7,sI (k:Int))],[(13,.aI (g.1.map AV.J) (wV rules g.1))]⟩ (fun e s=>e= .aj∧∃g:List ByteArray×List ByteArray×Int,(nB rules rn g.1 g.2.1 g.2.2∧(∀u,u∈D→u∈g.2.1)∧∀k',k'<k+1→∀x,r.bd[k']? =some x→x.k≠3→x.p∈rn→x.p∈g.2.1)∧s=⟨[(0,sR rules),(3,.aI 13),(5,sI g.2.2),(6,sI (i:Int)),(7,sI ((k+1:Nat):Int))],[(13,.aI (g.1.map AV.J) (wV rules g.1))]⟩):=by
  rintro k ⟨rm,D1,n1⟩ hk ⟨h1,h2,h3⟩
  simp only at h1 h2 h3⊢
  have hxk:r.bd[k]? =some r.bd[k]:=List.getElem?_eq_getElem hk
  generalize r.bd[k]=x at hxk
  have hy:0≤(k:Int)∧(r.bd.map Li.av)[Int.toNat (k:Int)]? =some x.av:=⟨by omega,dD Li.av hxk⟩
  have step:∀D':List ByteArray,(∀u,u∈D1→u∈D')→(x.k≠3→x.p∈rn→x.p∈D')→∀k',k'<k+1→∀x,r.bd[k']? =some x→x.k≠3→x.p∈rn→x.p∈D':=by
   intro D' hs1 hs2 k' hk' z hz hz3 hzr
   rcases Nat.lt_or_ge k' k with hlt|hge
   ·exact hs1 _ (h3 k' hlt z hz hz3 hzr)
   ·have:k'=k:=by omega
    subst this
    rw [hxk] at hz;injection hz with hz;subst hz
    exact hs2 hz3 hzr
  by_cases hm:x.p∈rm
  ·obtain ⟨j,hf,hj⟩:=cy (i:=0) hm
   rw [Nat.zero_add] at hf
   have hvj:(wV rules rm)[j]? =some (sI ((wd rules x.p:Nat):Int)):=by unfold wV;rw [List.getElem?_map,hj];rfl
   by_cases hk3:x.k=3
   ·obtain ⟨e,t,⟨rfl,rfl⟩,h⟩:=YA rules rm (wV rules rm) (c7 _ _) n1 r i hx x k hkl hk hks hy _ (by simp [hk3]) ⟨j,hf,hvj⟩
    exact ⟨_,_,⟨rfl,(rm,D1,n1),⟨h1,h2,step D1 (fun _ h=>h) (fun h=>absurd hk3 h)⟩,rfl⟩,h⟩
   ·have hb:=h1.Sr hrn hsm
    have p1:=m17 rules rm (wV rules rm) (c7 _ _) n1 x i k ((wd rules x.p:Nat):Int) (by omega) ⟨hb.1,by omega⟩
    have ee:(wV rules rm).eraseIdx j=wV rules (rm.eraseIdx j):=nv _ rm j
    have es:(rm.map AV.J).eraseIdx j=(rm.eraseIdx j).map AV.J:=nv _ rm j
    obtain ⟨e,t,⟨rfl,rfl⟩,p2⟩:=d17 rules rm (wV rules rm) (c7 _ _) (n1+eI 1 (iv ((wd rules x.p:Nat):Int))) r i hx x k j (by rw [Int.toNat_natCast];exact hf) (fun v hv=>by
     unfold wV at hv
     obtain ⟨u,_,rfl⟩:=List.mem_map.1 hv
     rfl) (by rw [Int.toNat_natCast,ee,es];exact ⟨bw _,c7 _ _⟩)
    rw [Int.toNat_natCast,ee,es] at p2
    obtain ⟨e,t,⟨rfl,rfl⟩,h⟩:=YB rules rm (wV rules rm) (c7 _ _) n1 r i hx x k hkl hk hks hy _ _ (rm.eraseIdx j) (wV rules (rm.eraseIdx j)) (c7 _ _) (by simp [hk3]) ⟨j,hf,hvj⟩ p1 p2
    refine ⟨_,_,⟨rfl,(rm.eraseIdx j,x.p::D1,n1+eI 1 (iv ((wd rules x.p:Nat):Int))),⟨⟨h1.nr.sublist (List.eraseIdx_sublist ..),List.nodup_cons.2 ⟨fun hd=>h1.J5 _ hd hm,h1.nd⟩,fun u=> ?_,fun u hu=> ?_,?_⟩,fun u hu=>by simp [h2 u hu],step _ (fun u hu=>by simp [hu]) (fun _ _=>by simp)⟩,rfl⟩,h⟩
    ·rw [h1.Um,gf h1.nr hj,List.mem_cons]
     constructor
     ·rintro (h4|h4)
      ·by_cases e:u=x.p
       ·exact .inr (.inl e)
       ·exact .inl ⟨h4,e⟩
      ·exact .inr (.inr h4)
     ·rintro (⟨h4,_⟩|rfl|h4)
      ·exact .inl h4
      ·exact .inl hm
      ·exact .inr h4
    ·rw [gf h1.nr hj]
     rintro ⟨h4,h5⟩
     rcases List.mem_cons.1 hu with h6|h6
     ·exact h5 h6
     ·exact h1.J5 u h6 h4
    ·show n1+_=_
     rw [h1.B3]
     simp only [sW]
     omega
  ·obtain ⟨e,t,⟨rfl,rfl⟩,h⟩:=Yz rules rm (wV rules rm) (c7 _ _) n1 r i hx x k hkl hk hks hy (co hm)
   exact ⟨_,_,⟨rfl,(rm,D1,n1),⟨h1,h2,step D1 (fun _ h=>h) (fun _ hr=>((h1.Um _).1 hr).resolve_left hm)⟩,rfl⟩,h⟩
 obtain ⟨⟨rm,D1,n1⟩,⟨h1,h2,h3⟩,h⟩:=iJ (P:=Tryz.prog) (n:=95) (c:=O Tryz.f17 2) (N:=r.bd.length) (k:=4) (γ:=List ByteArray×List ByteArray×Int) (fun k g=>⟨[(0,sR rules),(3,.aI 13),(5,sI g.2.2),(6,sI (i:Int)),(7,sI (k:Int))],[(13,.aI (g.1.map AV.J) (wV rules g.1))]⟩) (fun g=>⟨[(0,sR rules),(3,.aI 13),(5,sI g.2.2),(6,sI (i:Int))],[(13,.aI (g.1.map AV.J) (wV rules g.1))]⟩)
  (fun k g=>nB rules rn g.1 g.2.1 g.2.2∧(∀u,u∈D→u∈g.2.1)∧∀k',k'<k→∀x,r.bd[k']? =some x→x.k≠3→x.p∈rn→x.p∈g.2.1) T (fun g _=>YC rules g.1 (wV rules g.1) (c7 _ _) g.2.2 r i hx) (rem,D,n) ⟨hs,fun _ h=>h,fun k' hk'=>absurd hk' (Nat.not_lt_zero _)⟩
 refine ⟨rm,D1,n1,h1,h2,fun x hx=> ?_,h⟩
 obtain ⟨k,hk⟩:=List.mem_iff_getElem?.1 hx
 exact h3 k (List.getElem?_eq_some_iff.1 hk).1 x hk
theorem Sv (hnd:rn.Nodup) (hrn:RN rules rn) (hS:∀r,r∈rules→B6 r) (hsm:rules.length≤1048576):
  ∃(D:List ByteArray),D.Nodup∧(∀u,u∈D→u∈rn)∧(∀r,r∈rules→∀x,x∈r.bd→x.k≠3→x.p∈rn→x.p∈D)∧Lo 95 (O Tryz.f17 1) ⟨[(0,sR rules),(3,.aI 13),(5,sI 0),(6,sI 0)],[Ik rules rn]⟩ (.ar 2) ⟨[(5,sI (sW rules D))],[]⟩:=by
 have T:∀(i:Nat) (g:List ByteArray×List ByteArray×Int),i<rules.length→(nB rules rn g.1 g.2.1 g.2.2∧∀k',k'<i→∀r,rules[k']? =some r→∀x,x∈r.bd→x.k≠3→x.p∈rn→x.p∈g.2.1)→En 95 (O Tryz.f17 1) ⟨[(0,sR rules),(3,.aI 13),(5,sI g.2.2),(6,sI (i:Int))],[(13,.aI (g.1.map AV.J) (wV rules g.1))]⟩ (fun e s=>e= .aj∧∃g:List ByteArray×List ByteArray×Int,(nB rules rn g.1 g.2.1 g.2.2∧∀k',k'<i+1→∀r,rules[k']? =some r→∀x,x∈r.bd→x.k≠3→x.p∈rn→x.p∈g.2.1)∧s=⟨[(0,sR rules),(3,.aI 13),(5,sI g.2.2),(6,sI ((i+1:Nat):Int))],[(13,.aI (g.1.map AV.J) (wV rules g.1))]⟩):=by
  rintro i ⟨rm,D1,n1⟩ hi ⟨h1,h3⟩
  simp only at h1 h3⊢
  have hxk:rules[i]? =some rules[i]:=List.getElem?_eq_getElem hi
  generalize rules[i]=r at hxk
  have hx:0≤(i:Int)∧(rules.map Ru.av)[Int.toNat (i:Int)]? =some r.av:=⟨by omega,dD Ru.av hxk⟩
  obtain ⟨rem2,D2,n2,s1,s2,s3,hL⟩:=Sw rules rn hrn hsm r i hx (Nat.lt_of_lt_of_le (hS r (List.mem_of_getElem? hxk)).2.1 (by decide)) rm D1 n1 h1
  obtain ⟨e,t,⟨rfl,rfl⟩,h⟩:=u17 rules rm (wV rules rm) (c7 _ _) n1 rem2 (wV rules rem2) (c7 _ _) n2 i hi hsm hL
  refine ⟨_,_,⟨rfl,(rem2,D2,n2),⟨s1,fun k' hk' z hz=> ?_⟩,rfl⟩,h⟩
  rcases Nat.lt_or_ge k' i with hlt|hge
  ·exact fun x hx hx3 hxr=>s2 _ (h3 k' hlt z hz x hx hx3 hxr)
  ·have:k'=i:=by omega
   subst this
   rw [hxk] at hz;injection hz with hz;subst hz
   exact s3
 obtain ⟨⟨rm,D1,n1⟩,⟨h1,h3⟩,h⟩:=iJ (P:=Tryz.prog) (n:=95) (c:=O Tryz.f17 1) (N:=rules.length) (k:=2) (γ:=List ByteArray×List ByteArray×Int) (fun i g=>⟨[(0,sR rules),(3,.aI 13),(5,sI g.2.2),(6,sI (i:Int))],[(13,.aI (g.1.map AV.J) (wV rules g.1))]⟩) (fun g=>⟨[(5,sI g.2.2)],[]⟩)
  (fun i g=>nB rules rn g.1 g.2.1 g.2.2∧∀k',k'<i→∀r,rules[k']? =some r→∀x,x∈r.bd→x.k≠3→x.p∈rn→x.p∈g.2.1) T (fun g _=>Yy rules g.1 (wV rules g.1) (c7 _ _) g.2.2) (rn,[],0) ⟨⟨hnd,by simp,fun u=>by simp,fun u hu=>by simp at hu,rfl⟩,fun k' hk'=>absurd hk' (Nat.not_lt_zero _)⟩
 refine ⟨D1,h1.nd,fun u hu=>(h1.Um u).2 (.inr hu),fun r hr=> ?_,?_⟩
 ·obtain ⟨k,hk⟩:=List.mem_iff_getElem?.1 hr
  exact h3 k (List.getElem?_eq_some_iff.1 hk).1 r hk
 ·have:=h1.B3
  simp only at this h
  rw [this] at h
  exact h
def yN (rules:List Ru):Prop:=∃rn D:List ByteArray,RN rules rn∧D.Nodup∧(∀u,u∈D→u∈rn)∧(∀r,r∈rules→∀x,x∈r.bd→x.k≠3→x.p∈rn→x.p∈D)∧sW rules D≤64
theorem Yu (k43:Sp 43 [sR rules] [] (.ak true) []):En 95 (ai Tryz.f17) ⟨[(0,sR rules)],[]⟩ (fun e t=>e= .aR∧t=⟨[(2,.ak true)],[]⟩):=by
 exact z0<|zc k43<|zq ⟨rfl,rfl⟩
theorem EE (rn:List ByteArray) (rules:List Ru):aa (rn.map AV.J)=true∧aa (wV rules rn)=true:=by simp
theorem Yt (n:Int) (k43:Sp 43 [sR rules] [] (.ak false) []) (l17_0q:Lo 95 (O Tryz.f17 0) ⟨[(0,sR rules),(3,.aI 13),(4,sI 0)],[Ss]⟩ (.ar 0) ⟨[(0,sR rules),(3,.aI 13)],[Ik rules rn]⟩) (l17_1q:Lo 95 (O Tryz.f17 1) ⟨[(0,sR rules),(3,.aI 13),(5,sI 0),(6,sI 0)],[Ik rules rn]⟩ (.ar 2) ⟨[(5,sI n)],[]⟩):En 95 (ai Tryz.f17) ⟨[(0,sR rules)],[]⟩ (fun e t=>e= .aR∧∃rb:Bool,(rb=false→n≤64)∧t=⟨[(2,.ak rb)],[]⟩):=by
 have hs0:=k43
 have hl1:=l17_0q
 have hl2:=l17_1q
 rcases CI (decide (64<n)) with h3|h3
 ·exact z0<|zc hs0<|zh Z7<|zd (.g8 [0,3,4] [K1 13])<|zl hl1<|zh (EE rn rules)<|zd (.g8 [0,3,5,6] [K1 13])<|zl hl2<|zt h3<|zq ⟨rfl,true,by first|(intro h9;cases h9;done)|(intro _;simp at*;omega),rfl⟩
 ·exact z0<|zc hs0<|zh Z7<|zd (.g8 [0,3,4] [K1 13])<|zl hl1<|zh (EE rn rules)<|zd (.g8 [0,3,5,6] [K1 13])<|zl hl2<|zf h3<|zq ⟨rfl,false,by first|(intro h9;cases h9;done)|(intro _;simp at*;omega),rfl⟩
theorem k17 (hS:∀r,r∈rules→B6 r) (hsm:rules.length<10000000000000):∃rb:Bool,Sp 17 [sR rules] [] (.ak rb) []∧(rb=false→rules.length≤1048576∧yN rules):=by
 obtain ⟨rb,s43,h43⟩:=k43 rules hS hsm
 cases rb with
 |true=>
  obtain ⟨e,t,⟨rfl,rfl⟩,h⟩:=Yu rules s43
  exact ⟨true,sQ Tryz.f17 h,fun h=>by cases h⟩
 |false=>
  have hl:=h43 rfl
  obtain ⟨rn,hnd,hrn,hL0⟩:=Su rules hS hl
  obtain ⟨D,d1,d2,d3,hL1⟩:=Sv rules rn hnd hrn hS hl
  obtain ⟨e,t,⟨rfl,rb,hrb,rfl⟩,h⟩:=Yt rules rn (sW rules D) s43 hL0 hL1
  exact ⟨rb,sQ Tryz.f17 h,fun h0=>⟨hl,rn,D,hrn,d1,d2,d3,hrb h0⟩⟩
end
end Go.Ped
