/- What the functions of the packages check, depend and adorn answer, and their counterparts in the document, is proved for every input. -/
import Derived.Test.YthhfolohakiemaaGreatDoorMagI
import Derived.Test.YthhfolohakiemaaGreatDoorMagK
import Derived.Test.YthhfolohakiemaaGreatDoorMagN
set_option linter.all false
set_option maxRecDepth 20000
set_option maxHeartbeats 800000
namespace Go.Ped
open Go.RowKit Go.Proofs
section
variable (rs:List Ru)
abbrev L5:Nat×AV:=(2,.aA 99995 0 0)
theorem W0:EN 42 (cF 0 (ai Tryz.f78)) ⟨[(0,.al [sR rs]),(1,.ab)],[]⟩ ⟨[(1,.ab),L5],[(99995,.an [sR rs])]⟩:=au Tryz.f78 99993
abbrev Rj:Nat×AV:=(6,.aI 100003)
abbrev L6:Nat×Ob:=(100003,.aI [] [])
abbrev L7:List (Nat×AV):=[(1,.ab),L5,Rj]
theorem W1:EN 42 (cF 1 (ai Tryz.f78)) ⟨[(1,.ab),L5],[(99995,.an [sR rs])]⟩ ⟨L7,[(99995,.an [sR rs]),L6]⟩:=au Tryz.f78 99993
theorem yx (am:Am):aa (List.map AV.J (dL am))=true∧aa (nH am)=true:=by simp
theorem WZ (am:Am) (WT:Sp 126 [sR rs,.bZ 127 [.aI 100003] []] (ap []) (.ak false) (ap am)):En 42 (ca 2 (ai Tryz.f78)) ⟨L7,[(99995,.an [sR rs]),L6]⟩ (fun e t=>e= .aR∧t=⟨[(4,.ab),(5,sI 72)],ap am⟩):=by
 exact zs 60000<|zc WT<|zh (yx am)<|zq ⟨rfl,rfl⟩ [4,5] [K1 100003]
abbrev HF (am:Am):Nat×Ob:=(100003,.aI ((dL am).map AV.J) (nH am))
abbrev HG:Nat×Ob:=(100501,.an [.aI 100003])
theorem WY (am ps:Am) (ss:List ByteArray) (WT:Sp 126 [sR rs,.bZ 127 [.aI 100003] []] (ap []) (.ak true) (ap am)) (WW:Sp 130 [.bZ 182 [] [.aA 100501 0 0]] [HF am,HG] (sS ss) []) (l78_0q:Lo 42 (O Tryz.f78 0) ⟨[Rj,(7,.ab),(26,sS ss),(27,sI ((ss.map AV.J).length:Nat)),(28,sI 0)],[HF am,HG]⟩ (.ar 0) ⟨[(7,.aO 60040 ps.length)],[HF am,HG,(60040,.ao 2 (ps.map bV))]⟩):En 42 (ca 2 (ai Tryz.f78)) ⟨L7,[(99995,.an [sR rs]),L6]⟩ (fun e t=>e= .aR∧t=⟨[(4,.aO 60040 ps.length),(5,sI 0)],[HF am,HG,(60040,.ao 2 (ps.map bV))]⟩):=by
 exact zs 60000<|zc WT<|zc (WU am)<|zc (WX am)<|zc WW<|zh (yx am)<|zd (.g8 [6,7,26,27,28] [K1 100003,K0 100501])<|zl l78_0q<|zh (yx am)<|zh (zN (ps.map bV))<|zq ⟨rfl,rfl⟩
def HE (rs:List Ru) (rv:AV):Prop:=∃am ps:Am,rv= .aF (ps.map bV) false∧(dL am).Nodup∧(∀r,r∈rs→z8 am r)∧(∀u,u∈dL am→∃r,r∈rs∧kJ r u)∧(∀u,u∈dL am→u∈ps.map Prod.fst)∧(∀x,x∈ps→x∈am)∧ps.length<100000000
def sj (rs:List Ru):Int:=if (rs.foldlM jL []).isSome=true then 0 else 72
theorem k78 (hsm:rs.length≤2000000) (hb:∀r,r∈rs→r.bd.length≤16) (hn:∀r,r∈rs→∀u,kJ r u→u.size≤1000000):
  ∃rv:AV,Sp 78 [.al [sR rs],.ab] [] (.bC [rv,sI (sj rs)]) []∧(sj rs=0→HE rs rv):=by
 obtain ⟨e,s,⟨rfl,rfl⟩,r0⟩:=W0 rs
 obtain ⟨e,s,⟨rfl,rfl⟩,r1⟩:=W1 rs
 obtain ⟨rb,am,sp,hm⟩:=WT rs [] (by omega) hb
 cases rb with
 |false=>
  have e72:sj rs=72:=by unfold sj;rw [hm.f];rfl
  obtain ⟨e,s,⟨rfl,rfl⟩,r2⟩:=WZ rs am sp
  have r:=iE.iI 0 (by kernel_rfl) r0.p (iE.iI 1 (by kernel_rfl) r1.p r2.p)
  have r':=r.fb [4,5] [] (st':=⟨[(4,.ab),(5,sI 72)],[]⟩) (cs:=[]) rfl trivial
  rw [e72]
  exact ⟨.ab,bK.qj (st':=⟨[(4,.ab),(5,sI 72)],[]⟩) (fn:=Tryz.f78) (c:=ai Tryz.f78) (by kernel_rfl) (by kernel_rfl) rfl r' (.inr rfl) (by kernel_rfl) rfl,fun h=>by cases h⟩
 |true=>
  have e0:sj rs=0:=by unfold sj;rw [hm.t];rfl
  have hm':=hm.t
  rw [yw] at hm'
  obtain ⟨_,m2,m3,m4,m5⟩:=DS _ hm'
  have:=DT hb
  have hmem:∀x,x∈am→∃r,r∈rs∧x∈vt r:=fun x hx=>by
   rcases m3 x hx with q|q
   ·cases q
   ·exact List.mem_flatMap.1 q
  have hkeys:∀u,u∈dL am→∃r,r∈rs∧kJ r u:=fun u hu=>by
   obtain ⟨x,hx,rfl⟩:=List.mem_map.1 hu
   obtain ⟨r,hr,hxr⟩:=hmem x hx
   rcases dS.1 hxr with rfl|⟨y,h1,h2,rfl⟩
   ·exact ⟨r,hr,.inl rfl⟩
   ·exact ⟨r,hr,.inr ⟨y,h1,h2,rfl⟩⟩
  have hlen:am.length≤34000000:=by simp only [List.length_nil] at m5;omega
  obtain ⟨ss,sp130,hperm⟩:=WW am (fun u hu=>by obtain ⟨r,hr,hu'⟩:=hkeys u hu;exact hn r hr u hu') (by omega)
  have hssl:ss.length<100000000:=by rw [hperm.length_eq];simp only [dL,List.length_map];omega
  obtain ⟨ps,hL,hfst,hin⟩:=Ri am ss hssl (fun u hu=>hperm.mem_iff.1 hu)
  obtain ⟨e,s,⟨rfl,rfl⟩,r2⟩:=WY rs am ps ss sp sp130 hL
  have r:=iE.iI 0 (by kernel_rfl) r0.p (iE.iI 1 (by kernel_rfl) r1.p r2.p)
  have r':=r.fb [4,5] [(60040,.dz)] (st':=⟨[(4,.aF (ps.map bV) false),(5,sI 0)],[]⟩) (cs:=[ps.length=(ps.map bV).length,aa (ps.map bV)=true]) rfl ⟨by simp,yf _,trivial⟩
  rw [e0]
  exact ⟨.aF (ps.map bV) false,bK.qj (st':=⟨[(4,.aF (ps.map bV) false),(5,sI 0)],[]⟩) (fn:=Tryz.f78) (c:=ai Tryz.f78) (by kernel_rfl) (by kernel_rfl) rfl r' (.inr rfl) (by kernel_rfl) rfl,fun _=>⟨am,ps,rfl,m2 (by simp [dL]),fun r hr=>⟨m4 _ (List.mem_flatMap.2 ⟨r,hr,dS.2 (.inl rfl)⟩),fun y hy hk=>m4 _ (List.mem_flatMap.2 ⟨r,hr,dS.2 (.inr ⟨y,hy,hk,rfl⟩)⟩)⟩,hkeys,fun u hu=>by rw [hfst];exact hperm.mem_iff.2 hu,hin,by have:=congrArg List.length hfst;rw [List.length_map] at this;omega⟩⟩
end
section
variable (rs:List Ru)
theorem rj {p:ByteArray} (h:od p=true):p.size≤120:=by
 simp only [od,cS,Bool.and_eq_true,Bool.not_eq_true',decide_eq_true_eq,decide_eq_false_iff_not] at h
 have:=h.2.1.2
 simp at this
 omega
theorem gR {p:ByteArray} {ts:List Tm} (h:lh p ts=true):p.size≤120∧ts.length≤24:=by
 simp only [lh,Bool.and_eq_true,decide_eq_true_eq] at h
 exact ⟨rj h.1.1,h.1.2⟩
theorem fQ {y:Li} (h:fk y=true):(y.k=1∨y.k=2∨y.k=3)∧y.ts.length≤24∧y.p.size≤120:=by
 unfold fk at h
 split at h
 ·rename_i hk
  simp only [Bool.and_eq_true] at h
  have:=gR h.2
  exact ⟨by omega,this.2,this.1⟩
 ·simp only [Bool.and_eq_true,decide_eq_true_eq] at h
  have h1:=h.1.1.1.1.1
  have h2:=h.1.1.1.1.2
  have h3:=h.1.1.1.2
  exact ⟨by omega,by omega,by rw [h2];decide⟩
def np (u:ByteArray):Prop:=u.size<(ByteArray.mk #[113,95]).size∨u.extract 0 (ByteArray.mk #[113,95]).size≠ByteArray.mk #[113,95]
theorem mu:∀{am:Am},(dL am).Nodup→∀{u:ByteArray} {n m:Int},(u,n)∈am→(u,m)∈am→n=m
 |x::r,hd,u,n,m,h1,h2=>by
  simp only [dL,List.map_cons,List.nodup_cons] at hd
  have out:∀{k:Int},(x.1,k)∈r→False:=fun h=>hd.1 (List.mem_map.2 ⟨_,h,rfl⟩)
  rcases List.mem_cons.1 h1 with a1|a1<;>rcases List.mem_cons.1 h2 with a2|a2
  ·have:=a1.trans a2.symm;injection this
  ·subst a1;exact (out a2).elim
  ·subst a2;exact (out a1).elim
  ·exact mu hd.2 a1 a2
theorem JM {u:ByteArray} (h:jA u=false):np u:=by
 have e:(ByteArray.mk #[113,95]).size=2:=rfl
 unfold np
 rw [e]
 unfold jA at h
 by_cases h1:u.size<2
 ·exact .inl h1
 ·right
  rw [decide_eq_true (by omega:2≤u.size),Bool.true_and] at h
  exact of_decide_eq_false h
theorem JN (s u:ByteArray):∀(l:List ByteArray) (a:Bool×List ByteArray),(a.1=true→(l.foldl (eT s) a).1=true)∧(u∈(l.foldl (eT s) a).2↔u∈a.2∨u∈l∨(u=s∧a.1=false∧(l.foldl (eT s) a).1=true))
 |[],a=>by simp
 |y::l,a=>by
  obtain ⟨i1,i2⟩:=JN s u l (eT s a y)
  rw [List.foldl_cons]
  obtain ⟨d,o⟩:=a
  by_cases hb:d=false∧Op.bytesLess s.toList y.toList=true
  ·have e:eT s (d,o) y=(true,o++[s]++[y]):=if_pos hb
   rw [e] at i1 i2⊢
   have:=i1 rfl
   obtain ⟨rfl,_⟩:=hb
   simp only [List.mem_append,List.mem_singleton] at i2
   simp only [List.mem_cons]
   grind
  ·have e:eT s (d,o) y=(d,o++[y]):=if_neg hb
   rw [e] at i1 i2⊢
   simp only [List.mem_append,List.mem_singleton] at i2
   simp only [List.mem_cons]
   grind
theorem DX {l:List ByteArray} {s u:ByteArray}:u∈nj l s↔u∈l∨u=s:=by
 obtain ⟨_,h⟩:=JN s u l (false,[])
 unfold nj bq
 split
 ·rename_i hin
  have:=of_decide_eq_true hin
  grind
 ·split
  ·grind
  ·rw [List.mem_append,List.mem_singleton]
   grind
theorem DW {u:ByteArray}:∀{l:List Li} {a:List ByteArray},u∈l.foldl nk a↔u∈a∨∃y,y∈l∧(y.k=1∨y.k=2)∧u=y.p
 |[],a=>by simp
 |z::r,a=>by
  rw [List.foldl_cons,DW]
  unfold nk
  split
  ·rw [DX];grind
  ·grind
theorem ri {u:ByteArray}:∀{rs:List Ru} {a:List ByteArray},u∈rs.foldl q7 a↔u∈a∨∃r,r∈rs∧kJ r u
 |[],a=>by simp
 |z::l,a=>by
  rw [List.foldl_cons,ri]
  unfold q7
  rw [DW,DX]
  unfold kJ
  grind
theorem iP {rs:List Ru} (h:oB rs=false) {r:Ru} (hr:r∈rs):np r.p∧∀y,y∈r.bd→(y.k=1∨y.k=2)→np y.p:=by
 have key:∀u,u∈wA rs→np u:=fun u hu=>JM (by
  have:=List.any_eq_false.1 h u hu
  simpa using this)
 exact ⟨key _ (ri.2 (.inr ⟨r,hr,.inl rfl⟩)),fun y hy hk=>key _ (ri.2 (.inr ⟨r,hr,.inr ⟨y,hy,hk,rfl⟩⟩))⟩
theorem DV (b:Am) (x:ByteArray×Int):(qT b x).Perm (x::b):=by
 unfold qT
 rw [List.append_assoc,List.singleton_append]
 refine List.perm_middle.trans ?_
 rw [List.take_append_drop]
theorem HI {s:ByteArray} {b:Am} {y:ByteArray×Int} (h:b.findSome? (qQ s)=some y):y∈b∧y.1=s:=by
 obtain ⟨z,hz,h⟩:=List.exists_of_findSome?_eq_some h
 unfold qQ at h
 split at h
 ·rename_i e;injection h with h;subst h;exact ⟨hz,e⟩
 ·cases h
theorem HH {s:ByteArray} {b:Am} (h:b.findSome? (qQ s)=none):s∉dL b:=fun hs=>by
 obtain ⟨z,hz,rfl⟩:=List.mem_map.1 hs
 have:=List.findSome?_eq_none_iff.1 h z hz
 unfold qQ at this
 rw [if_pos rfl] at this
 cases this
theorem DY:∀(l a b:Am),(∀x,x∈a↔x∈b)→(dL a).Nodup→(dL b).Nodup→(l.foldlM jK a).isSome=(l.foldlM pm b).isSome
 |[],a,b,_,_,_=>rfl
 |x::l,a,b,h,ha,hb=>by
  have hk:∀s,s∈dL a↔s∈dL b:=fun s=>by
   unfold dL
   constructor<;>(intro q;obtain ⟨z,hz,rfl⟩:=List.mem_map.1 q;exact List.mem_map.2 ⟨z,by first|exact (h z).1 hz|exact (h z).2 hz,rfl⟩)
  rw [List.foldlM_cons,List.foldlM_cons]
  unfold jK pm uH
  cases h1:b.findSome? (qQ x.1) with
  |some y=>
   obtain ⟨y1,y2⟩:=HI h1
   have hy:=(h y).2 y1
   cases h2:wL x.1 a with
   |none=>exact absurd (List.mem_map.2 ⟨y,hy,y2⟩) (pG h2)
   |some m=>
    have e:m=y.2:=mu ha (nt h2) (by rw [←y2];exact hy)
    subst e
    simp only [if_true]
    split
    ·exact DY l a b h ha hb
    ·rfl
  |none=>
   have hn:=HH h1
   have hna:x.1∉dL a:=fun q=>hn ((hk _).1 q)
   cases h2:wL x.1 a with
   |some m=>exact absurd (List.mem_map.2 ⟨_,nt h2,rfl⟩) hna
   |none=>
    have hp:=DV b x
    refine DY l (a++[x]) (qT b x) (fun z=> ?_) ?_ ?_
    ·rw [hp.mem_iff,List.mem_append,List.mem_singleton,List.mem_cons,h]
     exact or_comm
    ·unfold dL at ha⊢
     rw [List.map_append]
     refine List.nodup_append.2 ⟨ha,by simp,fun u hu v hv=> ?_⟩
     simp only [List.map_cons,List.map_nil,List.mem_singleton] at hv
     subst hv
     rintro rfl
     exact hna hu
    ·exact (hp.map Prod.fst).nodup_iff.2 (List.nodup_cons.2 ⟨hn,hb⟩)
theorem L9 (r:Ru):sa r.p r.hd r.bd=vt r:=by
 have go:∀(l:List Li) (a:Am),l.foldl ln a=a++l.flatMap DR:=by
  intro l
  induction l with
  |nil=>intro a;simp
  |cons y q ih=>
   intro a
   rw [List.foldl_cons,ih,List.flatMap_cons,←List.append_assoc]
   congr 1
   unfold ln DR
   split<;>simp
 exact go _ _
theorem JL:sj rs=(sb rs).2:=by
 have go:∀(l:List Ru) (b:Am),l.foldlM Bk b=(l.flatMap vt).foldlM pm b:=by
  intro l
  induction l with
  |nil=>intro b;rfl
  |cons y r ih=>
   intro b
   rw [List.foldlM_cons,List.flatMap_cons,List.foldlM_append]
   unfold Bk
   rw [L9]
   congr 1
   funext c
   exact ih c
 have h:=DY (rs.flatMap vt) [] [] (fun _=>Iff.rfl) (by simp [dL]) (by simp [dL])
 rw [←yw,←go] at h
 unfold sj sb GT
 rw [h]
 cases rs.foldlM Bk []<;>rfl
theorem rl {p:ByteArray} {hd:List Ar} {bd:List Li} (h:ch p hd bd=true):ji p hd bd:=by
 obtain ⟨q1,q2,q3,q4,q5⟩:=jk h
 refine ⟨rj q1,q2,q3,q5,fun y hy=>⟨fun _=>(fQ (q4 y hy)).2.2,fun hk=> ?_⟩⟩
 have h:=q4 y hy
 unfold fk at h
 rw [if_neg hk] at h
 simp only [Bool.and_eq_true,decide_eq_true_eq] at h
 exact h.1.1.1.1.2
theorem kK {rs:List Ru} (h:∀r,r∈rs→ji r.p r.hd r.bd):(∀r,r∈rs→r.bd.length≤16)∧∀r,r∈rs→∀u,kJ r u→u.size≤1000000:=
 ⟨fun r hr=>(h r hr).2.2.1,fun r hr u hu=>by
  rcases hu with rfl|⟨y,hy,hk,rfl⟩
  ·have:=(h r hr).1;omega
  ·have:=((h r hr).2.2.2.2 y hy).1 hk;omega⟩
abbrev wN (rs:List Ru) (i:Int):St:=⟨[(0,sR rs),(1,.ab),(13,sR rs),(14,sI ((rs.map Ru.av).length:Nat)),(15,sI i)],[]⟩
attribute [local simp,local grind] xk in
theorem L8 (hsm:rs.length≤9223372036854775807):(∃rn:Int,Lo 45 (O Tryz.f76 0) (wN rs 0) .aR ⟨[(4,sI rn)],[]⟩∧rs.findSome? xk=some rn)∨(Lo 45 (O Tryz.f76 0) (wN rs 0) (.ar 0) ⟨[(0,sR rs),(1,.ab)],[]⟩∧rs.findSome? xk=none):=
 bN (fun i=>wN rs (i:Nat)) _ (fun rn:Int=>⟨[(4,sI rn)],[]⟩) xk (fun i hi=>aZ Tryz.f76 0 [0,1,13,14,15] [4]) (au Tryz.f76 0)
theorem W4:En 45 (O Tryz.f76 1) ⟨[(0,sR rs),(1,.ab),(26,sI 0),(27,sI 0)],[]⟩ (fun e t=>e= .ar 2∧t=⟨[(0,sR rs),(1,.ab)],[]⟩):=au Tryz.f76 0
theorem Rl:Lo 45 (O Tryz.f76 1) ⟨[(0,sR rs),(1,.ab),(26,sI 0),(27,sI 0)],[]⟩ (.ar 2) ⟨[(0,sR rs),(1,.ab)],[]⟩:=by
 obtain ⟨e,t,⟨rfl,rfl⟩,h⟩:=W4 rs
 exact .bD h (by simp)
theorem W3 (rn:Int) (l76_0q:Lo 45 (O Tryz.f76 0) (wN rs 0) .aR ⟨[(4,sI rn)],[]⟩):En 45 (ai Tryz.f76) ⟨[(0,sR rs),(1,.ab)],[]⟩ (fun e t=>e= .aR∧t=⟨[(4,sI rn)],[]⟩):=by
 have o0:=l76_0q
 exact au Tryz.f76 0
theorem W2 (rv:AV) (rn:Int) (k78:Sp 78 [.al [sR rs],.ab] [] (.bC [rv,sI rn]) []) (l76_0q:Lo 45 (O Tryz.f76 0) (wN rs 0) (.ar 0) ⟨[(0,sR rs),(1,.ab)],[]⟩):En 45 (ai Tryz.f76) ⟨[(0,sR rs),(1,.ab)],[]⟩ (fun e t=>e= .aR∧t=⟨[(4,sI rn)],[]⟩):=by
 exact z0<|zd (.g8 [0,1,13,14,15] [])<|zl l76_0q<|zd (.g8 [0,1,26,27] [])<|zl (Rl rs)<|zc k78<|zq ⟨rfl,rfl⟩
theorem W5 (hsm:rs.length≤2000000):Sp 76 [sR rs,.ab] [] (sI (d7 rs)) []:=by
 have fin:∀{rn:Int},Rz 45 (ai Tryz.f76) ⟨[(0,sR rs),(1,.ab)],[]⟩ .aR ⟨[(4,sI rn)],[]⟩→Sp 76 [sR rs,.ab] [] (sI rn) []:=fun h=>
  sQ Tryz.f76 h
 unfold d7
 rcases L8 rs (by omega) with ⟨rn,hL,h0⟩|⟨hL,h0⟩
 ·obtain ⟨e,t,⟨rfl,rfl⟩,h⟩:=W3 rs rn hL
  rw [h0]
  exact fin h
 ·have hs:∀r,r∈rs→ji r.p r.hd r.bd:=fun r hr=>rl (ky (qU h0 r hr)).1
  obtain ⟨rv,sp,_⟩:=k78 rs hsm (kK hs).1 (kK hs).2
  obtain ⟨e,t,⟨rfl,rfl⟩,h⟩:=W2 rs rv _ sp hL
  rw [h0,←JL]
  exact fin h
end
section
variable (rs:List Ru) (p:ByteArray) (ts:List Tm) (ps:Am) (g:Bool)
abbrev Br (rs:List Ru) (p:ByteArray) (ts:List Tm) (ps:Am) (g:Bool) (i:Int):St:=⟨[(0,sR rs),(3,.aE [.J p,sT ts]),(9,.ak g),(34,.aF (ps.map bV) false),(35,sI ((ps.map bV).length:Nat)),(36,sI i)],[]⟩
def Bs (p:ByteArray) (n:Nat) (g:Bool) (y:ByteArray×Int):Option Bool:=if y.1=p∧y.2≠(n:Int) then none else some (g||yq y.1 (ByteArray.mk #[113,95]))
theorem D3 (p:ByteArray) (n:Nat):∀(ps:Am) (g:Bool),ps.foldlM (Bs p n) g=if ps.any (fun y=>decide (y.1=p)&& !decide (y.2=(n:Int)))=true then none else some (g||ps.any (fun y=>jA y.1))
 |[],g=>by simp
 |y::r,g=>by
  rw [List.foldlM_cons,List.any_cons,List.any_cons]
  unfold Bs
  by_cases h:y.1=p∧y.2≠(n:Int)
  ·rw [if_pos h,decide_eq_true h.1,decide_eq_false h.2];rfl
  ·rw [if_neg h]
   have e:(decide (y.1=p)&& !decide (y.2=(n:Int)))=false:=by
    rw [Bool.eq_false_iff];intro q;simp at q;exact h q
   rw [e,Bool.false_or]
   refine (D3 p n r _).trans ?_
   rw [Bool.or_assoc];rfl
attribute [local simp,local grind] Bs in
theorem Xe (i:Nat) (y:ByteArray×Int) (hi:i<ps.length) (hsm:ps.length≤9223372036854775807) (hx:0≤(i:Int)∧(ps.map bV)[Int.toNat (i:Int)]? =some (bV y)):En 66 (O Tryz.f44 0) ((Br rs p ts ps true i)) (fun e t=>(e= .aR∧t=⟨[(4,sI 72)],[]⟩∧Bs p ts.length true y=none)∨(e= .aj∧∃g:Bool,t=Br rs p ts ps g ((i+1:Nat):Int)∧Bs p ts.length true y=some g)):=aZ Tryz.f44 0 [0,3,9,34,35,36] [4]
attribute [local simp,local grind] Bs in
theorem Xd (i:Nat) (y:ByteArray×Int) (hi:i<ps.length) (hsm:ps.length≤9223372036854775807) (hx:0≤(i:Int)∧(ps.map bV)[Int.toNat (i:Int)]? =some (bV y)):En 66 (O Tryz.f44 0) ((Br rs p ts ps false i)) (fun e t=>(e= .aR∧t=⟨[(4,sI 72)],[]⟩∧Bs p ts.length false y=none)∨(e= .aj∧∃g:Bool,t=Br rs p ts ps g ((i+1:Nat):Int)∧Bs p ts.length false y=some g)):=aZ Tryz.f44 0 [0,3,9,34,35,36] [4]
theorem Ro (hsm:ps.length≤9223372036854775807) (g:Bool):(Lo 66 (O Tryz.f44 0) (Br rs p ts ps g 0) .aR ⟨[(4,sI 72)],[]⟩∧ps.foldlM (Bs p ts.length) g=none)∨
  ∃b:Bool,Lo 66 (O Tryz.f44 0) (Br rs p ts ps g 0) (.ar 0) ⟨[(0,sR rs),(9,.ak b)],[]⟩∧ps.foldlM (Bs p ts.length) g=some b:=by
 rcases iK (P:=Tryz.prog) (n:=66) (c:=O Tryz.f44 0) (l:=ps) (k:=0) (e0:= .aR) (R:=⟨[(4,sI 72)],[]⟩) (fun i g=>Br rs p ts ps g (i:Nat)) (fun b=>⟨[(0,sR rs),(9,.ak b)],[]⟩) (Bs p ts.length) (fun _ _=>True) (fun i g y hy _=>by
  have hx:0≤(i:Int)∧(ps.map bV)[Int.toNat (i:Int)]? =some (bV y):=⟨by omega,dD bV hy⟩
  have h:En 66 (O Tryz.f44 0) (Br rs p ts ps g i) (fun e t=>(e= .aR∧t=⟨[(4,sI 72)],[]⟩∧Bs p ts.length g y=none)∨(e= .aj∧∃b:Bool,t=Br rs p ts ps b ((i+1:Nat):Int)∧Bs p ts.length g y=some b)):=by
   cases g
   ·exact Xd rs p ts ps i y (List.getElem?_eq_some_iff.1 hy).1 hsm hx
   ·exact Xe rs p ts ps i y (List.getElem?_eq_some_iff.1 hy).1 hsm hx
  obtain ⟨e,t,⟨rfl,rfl,hn⟩|⟨rfl,b,rfl,hn⟩,h⟩:=h
  ·rw [hn];exact ⟨fun _=> .bD h (by simp),fun b hb=>(by cases hb)⟩
  ·rw [hn];exact ⟨fun q=>(by cases q),fun c hc=>(by injection hc with hc;subst hc;exact ⟨_,_,⟨rfl,rfl⟩,h⟩)⟩) (fun _ _ _ _ _ _ _=>trivial) (fun b _=>au Tryz.f44 0) g trivial with h|⟨b,h,e,_⟩
 ·exact .inl h
 ·exact .inr ⟨b,h,e⟩
theorem w44:EN 66 (cF 0 (ai Tryz.f44)) ⟨[(0,sR rs),(1,gU p ts)],[]⟩ ⟨[(0,sR rs),(3,.aE [.J p,sT ts]),(4,sI 0)],[]⟩:=au Tryz.f44 0
theorem W6 (rn:Int) (hne:(!decide (rn=0))=true) (W5:Sp 76 [sR rs,.ab] [] (sI rn) []):En 66 (ca 1 (ai Tryz.f44)) ⟨[(0,sR rs),(3,.aE [.J p,sT ts]),(4,sI 0)],[]⟩ (fun e t=>e= .aR∧t=⟨[(4,sI rn)],[]⟩):=au Tryz.f44 0
theorem W7 (rn:Int) (hne:(!decide (rn=0))=true) (W5:Sp 76 [sR rs,.ab] [] (sI 0) []) (OK:Sp 77 [gU p ts] [] (sI rn) []):En 66 (ca 1 (ai Tryz.f44)) ⟨[(0,sR rs),(3,.aE [.J p,sT ts]),(4,sI 0)],[]⟩ (fun e t=>e= .aR∧t=⟨[(4,sI rn)],[]⟩):=au Tryz.f44 0
theorem W8 (W5:Sp 76 [sR rs,.ab] [] (sI 0) []) (OK:Sp 77 [gU p ts] [] (sI 0) []) (k78x:Sp 78 [.al [sR rs],.ab] [] (.bC [.aF (ps.map bV) false,sI 0]) []) (QE:Sp 79 [.J p,.J (ByteArray.mk #[113,95])] [] (.ak g) []) (l44_0q:Lo 66 (O Tryz.f44 0) (Br rs p ts ps g 0) .aR ⟨[(4,sI 72)],[]⟩):En 66 (ca 1 (ai Tryz.f44)) ⟨[(0,sR rs),(3,.aE [.J p,sT ts]),(4,sI 0)],[]⟩ (fun e t=>e= .aR∧t=⟨[(4,sI 72)],[]⟩):=by
 have o0:=l44_0q
 exact au Tryz.f44 0
theorem W9 (W5:Sp 76 [sR rs,.ab] [] (sI 0) []) (OK:Sp 77 [gU p ts] [] (sI 0) []) (k78x:Sp 78 [.al [sR rs],.ab] [] (.bC [.aF (ps.map bV) false,sI 0]) []) (QE:Sp 79 [.J p,.J (ByteArray.mk #[113,95])] [] (.ak g) []) (l44_0q:Lo 66 (O Tryz.f44 0) (Br rs p ts ps g 0) (.ar 0) ⟨[(0,sR rs),(9,.ak true)],[]⟩):En 66 (ca 1 (ai Tryz.f44)) ⟨[(0,sR rs),(3,.aE [.J p,sT ts]),(4,sI 0)],[]⟩ (fun e t=>e= .aR∧t=⟨[(4,sI 71)],[]⟩):=by
 have o0:=l44_0q
 exact au Tryz.f44 0
theorem Xa (W5:Sp 76 [sR rs,.ab] [] (sI 0) []) (OK:Sp 77 [gU p ts] [] (sI 0) []) (k78x:Sp 78 [.al [sR rs],.ab] [] (.bC [.aF (ps.map bV) false,sI 0]) []) (QE:Sp 79 [.J p,.J (ByteArray.mk #[113,95])] [] (.ak g) []) (l44_0q:Lo 66 (O Tryz.f44 0) (Br rs p ts ps g 0) (.ar 0) ⟨[(0,sR rs),(9,.ak false)],[]⟩) (WM:Sp 80 [sR rs] [] (.ak false) []):En 66 (ca 1 (ai Tryz.f44)) ⟨[(0,sR rs),(3,.aE [.J p,sT ts]),(4,sI 0)],[]⟩ (fun e t=>e= .aR∧t=⟨[(4,sI 180)],[]⟩):=by
 have o0:=l44_0q
 have o1:=WM
 exact au Tryz.f44 0
theorem Xb (W5:Sp 76 [sR rs,.ab] [] (sI 0) []) (OK:Sp 77 [gU p ts] [] (sI 0) []) (k78x:Sp 78 [.al [sR rs],.ab] [] (.bC [.aF (ps.map bV) false,sI 0]) []) (QE:Sp 79 [.J p,.J (ByteArray.mk #[113,95])] [] (.ak g) []) (l44_0q:Lo 66 (O Tryz.f44 0) (Br rs p ts ps g 0) (.ar 0) ⟨[(0,sR rs),(9,.ak false)],[]⟩) (WM:Sp 80 [sR rs] [] (.ak true) []):En 66 (ca 1 (ai Tryz.f44)) ⟨[(0,sR rs),(3,.aE [.J p,sT ts]),(4,sI 0)],[]⟩ (fun e t=>e= .aR∧t=⟨[(4,sI 0)],[]⟩):=by
 have o0:=l44_0q
 have o1:=WM
 exact au Tryz.f44 0
structure wO (rs:List Ru) (p:ByteArray) (ts:List Tm) (am:Am):Prop where
 dY:∀r,r∈rs→ji r.p r.hd r.bd
 tv:ts.length≤24
 JO:p.size≤120
 np:np p
 nod:(dL am).Nodup
 DZ:∀r,r∈rs→z8 am r
 npk:∀u,u∈dL am→Ped.np u
 NV:∀n,(p,n)∈am→n=(ts.length:Int)
theorem tw {rs:List Ru} (h:d7 rs=0):(∀r,r∈rs→ji r.p r.hd r.bd∧∀y,y∈r.bd→(y.k=1∨y.k=2∨y.k=3))∧sj rs=0:=by
 have h1:=kC h
 refine ⟨fun r hr=>⟨rl (h1 r hr).1,fun y hy=>(fQ ((jk (h1 r hr).1).2.2.2.1 y hy)).1⟩,?_⟩
 rw [JL]
 unfold d7 at h
 split at h
 ·rename_i e he
  obtain ⟨r,hr,he⟩:=List.exists_of_findSome?_eq_some he
  unfold xk at he
  split at he
  ·cases he
  ·rename_i hn;injection he with he;exact absurd (he.trans h) hn
 ·exact h
theorem Rm {rs:List Ru} {am:Am} (hd:(dL am).Nodup) (hn:∀r,r∈rs→z8 am r) {x:ByteArray×Int} {r:Ru} (hr:r∈rs) (hx:x∈am) (hu:kJ r x.1):x∈vt r:=by
 rcases hu with e|⟨y,h1,h2,e⟩
 ·exact dS.2 (.inl (Prod.ext e (mu hd (u:=x.1) hx (by rw [e];exact (hn r hr).1))))
 ·exact dS.2 (.inr ⟨y,h1,h2,Prod.ext e (mu hd (u:=x.1) hx (by rw [e];exact (hn r hr).2 y h1 h2))⟩)
theorem D5 {rs:List Ru} {p:ByteArray} {n:Int} (hk:∀r,r∈rs→∀y,y∈r.bd→(y.k=1∨y.k=2∨y.k=3)):sd rs p n=true↔∃r,r∈rs∧∃x,x∈vt r∧x.1=p∧x.2≠n:=by
 unfold sd oC wC
 simp only [List.any_eq_true,Bool.or_eq_true,Bool.and_eq_true,Bool.not_eq_true',decide_eq_true_eq,decide_eq_false_iff_not]
 constructor
 ·rintro ⟨r,hr,⟨h1,h2⟩|⟨y,hy,⟨h1,h2⟩,h3⟩⟩
  ·exact ⟨r,hr,_,dS.2 (.inl rfl),h1,h2⟩
  ·exact ⟨r,hr,_,dS.2 (.inr ⟨y,hy,by have:=hk r hr y hy;omega,rfl⟩),h2,h3⟩
 ·rintro ⟨r,hr,x,hx,h1,h2⟩
  rcases dS.1 hx with rfl|⟨y,hy,h3,rfl⟩
  ·exact ⟨r,hr,.inl ⟨h1,h2⟩⟩
  ·exact ⟨r,hr,.inr ⟨y,hy,⟨by omega,h1⟩,h2⟩⟩
theorem HJ {rs:List Ru} {p:ByteArray} {n:Int} {am ps:Am} (hk:∀r,r∈rs→∀y,y∈r.bd→(y.k=1∨y.k=2∨y.k=3)) (h2:(dL am).Nodup) (h3:∀r,r∈rs→z8 am r) (h4:∀u,u∈dL am→∃r,r∈rs∧kJ r u) (h5:∀u,u∈dL am→u∈ps.map Prod.fst) (h6:∀x,x∈ps→x∈am):
  ps.any (fun y=>decide (y.1=p)&& !decide (y.2=n))=sd rs p n∧ps.any (fun y=>jA y.1)=oB rs:=by
 have hin:∀r,r∈rs→∀x,x∈vt r→x∈am:=fun r hr x hx=>by
  rcases dS.1 hx with rfl|⟨y,h7,h8,rfl⟩
  ·exact (h3 r hr).1
  ·exact (h3 r hr).2 y h7 h8
 have hps:∀x,x∈am→x∈ps:=fun x hx=>by
  obtain ⟨y,hy,e⟩:=List.mem_map.1 (h5 x.1 (List.mem_map.2 ⟨x,hx,rfl⟩))
  rw [show x=y from Prod.ext e.symm (mu h2 (u:=x.1) hx (by rw [←e];exact h6 y hy))]
  exact hy
 have hnm:∀x,x∈ps→∃r,r∈rs∧x∈vt r:=fun x hx=>by
  obtain ⟨r,hr,hu⟩:=h4 x.1 (List.mem_map.2 ⟨x,h6 x hx,rfl⟩)
  exact ⟨r,hr,Rm h2 h3 hr (h6 x hx) hu⟩
 constructor
 ·rw [Bool.eq_iff_iff,D5 hk]
  simp only [List.any_eq_true,Bool.and_eq_true,Bool.not_eq_true',decide_eq_true_eq,decide_eq_false_iff_not]
  constructor
  ·rintro ⟨x,hx,h7,h8⟩
   obtain ⟨r,hr,h9⟩:=hnm x hx
   exact ⟨r,hr,x,h9,h7,h8⟩
  ·rintro ⟨r,hr,x,h9,h7,h8⟩
   exact ⟨x,hps x (hin r hr x h9),h7,h8⟩
 ·unfold oB
  rw [Bool.eq_iff_iff]
  simp only [List.any_eq_true]
  constructor
  ·rintro ⟨x,hx,h7⟩
   obtain ⟨r,hr,hu⟩:=h4 x.1 (List.mem_map.2 ⟨x,h6 x hx,rfl⟩)
   exact ⟨x.1,ri.2 (.inr ⟨r,hr,hu⟩),h7⟩
  ·rintro ⟨u,hu,h7⟩
   rcases ri.1 hu with hu|⟨r,hr,hu⟩
   ·cases hu
   ·have hm:∃m,(u,m)∈vt r:=by
     rcases hu with rfl|⟨y,h8,h9,rfl⟩
     ·exact ⟨_,dS.2 (.inl rfl)⟩
     ·exact ⟨_,dS.2 (.inr ⟨y,h8,h9,rfl⟩)⟩
    obtain ⟨m,hm⟩:=hm
    exact ⟨_,hps _ (hin r hr _ hm),h7⟩
theorem Xc (hsm:rs.length≤2000000):Sp 44 [sR rs,gU p ts] [] (sI (dv rs p ts)) []:=by
 obtain ⟨e,s,⟨rfl,rfl⟩,r0⟩:=w44 rs p ts
 have fin:∀{rn:Int},Rz 66 (ca 1 (ai Tryz.f44)) ⟨[(0,sR rs),(3,.aE [.J p,sT ts]),(4,sI 0)],[]⟩ .aR ⟨[(4,sI rn)],[]⟩→Sp 44 [sR rs,gU p ts] [] (sI rn) []:=fun h=>
  sP Tryz.f44 (by simp [aa,aJ,gU,vr]) (cf.iI 0 (by kernel_rfl) r0 h) (.inr rfl)
 have s1:=W5 rs hsm
 unfold dv
 by_cases e1:d7 rs=0
 ·rw [e1] at s1
  rw [if_neg (by simpa using e1)]
  have s2:=OK p ts
  cases e2:lh p ts with
  |false=>
   rw [e2] at s2
   obtain ⟨e,s,⟨rfl,rfl⟩,h⟩:=W7 rs p ts 40 rfl s1 s2
   exact fin h
  |true=>
   rw [e2] at s2
   rw [if_neg (by simp)]
   obtain ⟨hj,he⟩:=tw e1
   have hs:=kK fun r hr=>(hj r hr).1
   obtain ⟨rv,s3,hp⟩:=k78 rs hsm hs.1 hs.2
   obtain ⟨am,ps,rfl,h2,h3,h4,h5,h6,h7⟩:=hp he
   rw [he] at s3
   have s4:=QE p (ByteArray.mk #[113,95])
   obtain ⟨q1,q2⟩:=HJ (p:=p) (n:=(ts.length:Int)) (fun r hr=>(hj r hr).2) h2 h3 h4 h5 h6
   have hq:=D3 p ts.length ps (yq p (ByteArray.mk #[113,95]))
   rw [q1,q2] at hq
   rcases Ro rs p ts ps (by omega) (yq p (ByteArray.mk #[113,95])) with ⟨hL,hg⟩|⟨b,hL,hg⟩
   ·obtain ⟨e,s,⟨rfl,rfl⟩,h⟩:=W8 rs p ts ps _ s1 s2 s3 s4 hL
    have e3:sd rs p (ts.length:Int)=true:=by
     rw [hg] at hq
     split at hq
     ·assumption
     ·cases hq
    rw [if_pos e3]
    exact fin h
   ·have e3:sd rs p (ts.length:Int)=false∧(yq p (ByteArray.mk #[113,95])||oB rs)=b:=by
     rw [hg] at hq
     split at hq
     ·cases hq
     ·rename_i h;injection hq with hq;exact ⟨by simpa using h,hq.symm⟩
    rw [if_neg (by rw [e3.1];simp)]
    cases b with
    |true=>
     obtain ⟨e,s,⟨rfl,rfl⟩,h⟩:=W9 rs p ts ps _ s1 s2 s3 s4 hL
     rw [if_pos (show oB rs=true∨jA p=true from ((Bool.or_eq_true _ _).mp e3.2).symm)]
     exact fin h
    |false=>
     obtain ⟨e4,e5⟩:=Bool.or_eq_false_iff.1 e3.2
     rw [if_neg (by rintro (q|q);rw [e5] at q;cases q;exact Bool.noConfusion (e4.symm.trans q))]
     have s5:=WM rs hs.1 hsm
     cases e6:qY rs with
     |false=>
      rw [e6] at s5
      obtain ⟨e,s,⟨rfl,rfl⟩,h⟩:=Xa rs p ts ps _ s1 s2 s3 s4 hL s5
      exact fin h
     |true=>
      rw [e6] at s5
      obtain ⟨e,s,⟨rfl,rfl⟩,h⟩:=Xb rs p ts ps _ s1 s2 s3 s4 hL s5
      exact fin h
 ·rw [if_pos e1]
  obtain ⟨e,s,⟨rfl,rfl⟩,h⟩:=W6 rs p ts _ (by simp [e1]) s1
  exact fin h
theorem nu {rs:List Ru} {p:ByteArray} {ts:List Tm} (h:dv rs p ts=0):d7 rs=0∧lh p ts=true∧sd rs p (ts.length:Int)=false∧oB rs=false∧jA p=false∧qY rs=true:=by
 unfold dv at h
 split at h
 ·rename_i h1;exact absurd h h1
 ·rename_i h1
  split at h
  ·cases h
  ·rename_i h2
   split at h
   ·cases h
   ·rename_i h3
    split at h
    ·cases h
    ·rename_i h4
     split at h
     ·cases h
     ·rename_i h5
      exact ⟨by simpa using h1,by simpa using h2,by simpa using h3,by simpa using fun e=>h4 (.inl e),by simpa using fun e=>h4 (.inr e),by simpa using h5⟩
theorem D4 {rs:List Ru} {p:ByteArray} {ts:List Tm} (h:dv rs p ts=0):∃am:Am,wO rs p ts am:=by
 obtain ⟨hj,ha,hu,hv,hr,_⟩:=nu h
 obtain ⟨hj,he⟩:=tw hj
 have hat:=gR ha
 cases hm:rs.foldlM jL [] with
 |none=>unfold sj at he;rw [hm] at he;cases he
 |some am=>
  rw [yw] at hm
  obtain ⟨_,m2,m3,m4,m5⟩:=DS _ hm
  have hmem:∀x,x∈am→∃r,r∈rs∧x∈vt r:=fun x hx=>(m3 x hx).elim (fun q=>by cases q) List.mem_flatMap.1
  refine ⟨am,fun r hr=>(hj r hr).1,hat.2,hat.1,JM hr,m2 (by simp [dL]),fun r hr=>⟨m4 _ (List.mem_flatMap.2 ⟨r,hr,dS.2 (.inl rfl)⟩),fun y hy hk=>m4 _ (List.mem_flatMap.2 ⟨r,hr,dS.2 (.inr ⟨y,hy,hk,rfl⟩)⟩)⟩,fun u hu=> ?_,fun n hn=> ?_⟩
  ·obtain ⟨x,hx,rfl⟩:=List.mem_map.1 hu
   obtain ⟨r,hr,hx⟩:=hmem x hx
   rcases dS.1 hx with rfl|⟨y,h1,h2,rfl⟩
   ·exact (iP hv hr).1
   ·exact (iP hv hr).2 y h1 h2
  ·obtain ⟨r,hr,hx⟩:=hmem _ hn
   by_cases e:n=(ts.length:Int)
   ·exact e
   ·have:=(D5 (rs:=rs) (p:=p) (n:=(ts.length:Int)) (fun r hr=>(hj r hr).2)).2 ⟨r,hr,_,hx,rfl,e⟩
    rw [hu] at this;cases this
end
section
variable (l:List ByteArray) (bd:List Li) (ks:List ByteArray) (m:Nat)
theorem Xl (v:ByteArray) (hks:ks.length<1000000000000000):Sp 37 [sS ks,.J v] [] (.ak (bq v ks)) []:=by
 have h:bq v ks=mW ks v:=Bool.eq_iff_iff.2 (by rw [ko];exact decide_eq_true_iff)
 rw [h];exact lI ks v hks
@[reducible,instance] def aaF (ks:List ByteArray) (v:ByteArray):=kF (Xl ks v)
def ro (a b:Ex) (ks:List ByteArray):Bool:=decide (a.op=0)&& !decide (a.t.v=⟨#[]⟩)&& !bq a.t.v ks&& !bq a.t.v (ay b.af)
def lx (l ks:List ByteArray):Int:=((l.filter fun v=> !bq v ks).length:Nat)
abbrev D6 (l ks:List ByteArray) (i:Int):St:=⟨[(0,sS l),(1,.bZ 139 [] [.aE [sS ks]]),(6,sS l),(7,sI ((l.map AV.J).length:Nat)),(8,sI i)],[]⟩
theorem Rx (v:ByteArray) (hks:ks.length<1000000000000000):Sp 139 [.J v,.aE [sS ks]] [] (.ak ((!bq v ks))) []:=aL Tryz.f139 0 8
@[reducible,instance] def Xj (ks:List ByteArray) (v:ByteArray):=kF (Rx ks v)
attribute [local simp,local grind] ro in
theorem Ry (a b:Ex) (ks:List ByteArray) (hks:ks.length<1000000000000000) (hB:b.af.length<100000000) (hV:(ay b.af).length<1000000000000000):Sp 140 [.al a.ac,.al b.ac,sS ks] [] (.ak ((ro a b ks))) []:=aL Tryz.f140 0 31
@[reducible,instance] def Xk (a b:Ex) (ks:List ByteArray):=kH (Ry a b ks)
theorem Xo (hks:ks.length<1000000000000000) (i:Nat) (x:ByteArray) (hi:i<l.length) (hsm:l.length≤9223372036854775807) (hx:0≤(i:Int)∧(l.map AV.J)[Int.toNat (i:Int)]? =some (.J x)):En 19 (O Tryz.f186 0) ((D6 l ks i)) (fun e t=>(e= .aR∧bq x ks=false∧t=⟨[(4,sI (i:Int))],[]⟩)∨(e= .aj∧bq x ks=true∧t=D6 l ks ((i+1:Nat):Int))):=aZ Tryz.f186 0 [0,1,6,7,8] [4]
theorem Md (hks:ks.length<1000000000000000) (hsm:l.length≤9223372036854775807):
  (∃i,(i<l.length∧(∀v,v∈l.take i→bq v ks=true)∧∃x,l[i]? =some x∧bq x ks=false)∧Lo 19 (O Tryz.f186 0) (D6 l ks 0) .aR ⟨[(4,sI ((i:Nat):Int))],[]⟩)∨
  ((∀v,v∈l→bq v ks=true)∧Lo 19 (O Tryz.f186 0) (D6 l ks 0) (.ar 0) ⟨[],[]⟩):=by
 rcases kq (P:=Tryz.prog) (n:=19) (c:=O Tryz.f186 0) (N:=l.length) (k:=0) (γ:=Unit) (fun i _=>D6 l ks (i:Nat)) (fun _=>⟨[],[]⟩) (fun t=>∃i:Nat,(i<l.length∧(∀v,v∈l.take i→bq v ks=true)∧∃x,l[i]? =some x∧bq x ks=false)∧t=⟨[(4,sI (i:Int))],[]⟩) (fun i _=>∀v,v∈l.take i→bq v ks=true) (fun i _ hi hI=>by
  have hy:l[i]? =some l[i]:=List.getElem?_eq_getElem hi
  obtain ⟨e,t,⟨rfl,h1,rfl⟩|⟨rfl,h1,rfl⟩,h⟩:=Xo l ks hks i l[i] hi hsm ⟨by omega,dD AV.J hy⟩
  ·exact ⟨_,_,.inl ⟨rfl,i,⟨hi,hI,_,hy,h1⟩,rfl⟩,h⟩
  ·refine ⟨_,_,.inr ⟨rfl,(),fun v hv=> ?_,rfl⟩,h⟩
   rw [List.take_add_one,hy] at hv
   rcases List.mem_append.1 hv with q|q
   ·exact hI v q
   ·rw [List.mem_singleton.1 (show v∈[l[i]] from q)];exact h1) (fun _ _=>au Tryz.f186 0) () (by simp) with ⟨t,h,i,hi,rfl⟩|⟨_,h1,h⟩
 ·exact .inl ⟨i,hi,h⟩
 ·rw [List.take_length] at h1
  exact .inr ⟨h1,h⟩
theorem JP (hks:ks.length<1000000000000000) (hsm:l.length≤9223372036854775807):
  (∃i,(i<l.length∧(∀v,v∈l.take i→bq v ks=true)∧∃x,l[i]? =some x∧bq x ks=false)∧Sp 186 [sS l,.bZ 139 [] [.aE [sS ks]]] [] (sI ((i:Nat):Int)) [])∨((∀v,v∈l→bq v ks=true)∧Sp 186 [sS l,.bZ 139 [] [.aE [sS ks]]] [] (sI (-1)) []):=by
 rcases Md l ks hks hsm with ⟨i,hi,hL⟩|⟨h1,hL⟩
 ·skip
  exact .inl ⟨i,hi,(aK Tryz.f186 0 19)⟩
 ·skip
  exact .inr ⟨h1,(aK Tryz.f186 0 19)⟩
theorem JQ (rn:Int) (h:Sp 186 [sS l,.bZ 139 [] [.aE [sS ks]]] [] (sI rn) []):
  Sp 186 [.aw 100000 0 (l.map AV.J).length,.bZ 139 [] [.aE [sS ks]]] [(100000,.aw 1 (l.map .J))] (sI rn) []:=
 h.fi [(100000,.aw 1 (l.map .J))] rfl (fun x hx p hp=>by
  rw [List.mem_singleton] at hx;subst hx
  rw [List.mem_singleton.1 hp];exact bw l) rfl (fun p hp=>by
  rw [List.mem_singleton.1 (show p∈[(l.map AV.J).length=(l.map AV.J).length] from hp)]) rfl
abbrev D7:Nat×Ob:=(100000,.aw 1 (l.map AV.J))
abbrev yy (l ks:List ByteArray) (m j:Int):St:=⟨[(0,.aw 100000 0 (l.map AV.J).length),(1,.bZ 139 [] [.aE [sS ks]]),(5,sI m),(6,sI j)],[D7 l]⟩
@[simp] theorem JR (l:List ByteArray) (j:Nat) (s:ByteArray):aa ((l.map AV.J).set j (.J s))=true:=gQ (bw l) rfl
theorem Aa {l:List ByteArray} {p:ByteArray→Bool} (h:∀v,v∈l→p v=true):(l.filter p).length=l.length:=by rw [List.filter_eq_self.2 h]
theorem Mb:((l.filter fun v=>bq v ks).length:Int)+lx l ks=l.length:=by
 unfold lx
 induction l with
 |nil=>rfl
 |cons v r ih=>
  rw [List.filter_cons,List.filter_cons,List.length_cons]
  cases bq v ks<;>simp only [Bool.not_true,Bool.not_false,if_true,if_false,Bool.false_eq_true,List.length_cons]<;>omega
theorem Rr (k186:Sp 186 [.aw 100000 0 (l.map AV.J).length,.bZ 139 [] [.aE [sS ks]]] [(100000,.aw 1 (l.map .J))] (sI (-1)) []):En 42 (ai Tryz.f137) ⟨[(0,.aw 100000 0 (l.map AV.J).length),(1,.bZ 139 [] [.aE [sS ks]])],[(100000,.aw 1 (l.map .J))]⟩ (fun e t=>e= .aR∧t=⟨[(4,.aw 100000 0 (l.map AV.J).length)],[(100000,.aw 1 (l.map .J))]⟩):=by
 have o0:=k186
 exact au Tryz.f137 60000
theorem Xn (hks:ks.length<1000000000000000) (m j:Nat) (x:ByteArray) (hi:m<l.length) (hj:j<l.length) (hsm:l.length≤1000000000000) (hx:(l.map AV.J)[0+Int.toNat (j:Int)]? =some (.J x)):En 42 (O Tryz.f137 0) ((yy l ks m j)) (fun e t=>(e= .aj∧bq x ks=false∧t=yy l ks m ((j+1:Nat):Int))∨(e= .aj∧bq x ks=true∧t=⟨[(0,.aw 100000 0 (l.map AV.J).length),(1,.bZ 139 [] [.aE [sS ks]]),(5,sI ((m+1:Nat):Int)),(6,sI ((j+1:Nat):Int))],[(100000,.aw 1 ((l.map AV.J).set (0+Int.toNat (m:Int)) (.J x)))]⟩)):=aS Tryz.f137 60000 [0,1,5,6] [K1 100000]
theorem Xh:En 42 (O Tryz.f137 0) ((yy l ks m l.length)) (fun e t=>e= .ar 0∧t=⟨[(0,.aw 100000 0 (l.map AV.J).length),(5,sI (m:Int))],[(100000,.aw 1 (l.map .J))]⟩):=au Tryz.f137 60000
theorem Mc (l ks:List ByteArray) (hks:ks.length<1000000000000000) (i:Nat) (hi:i<l.length) (hsm:l.length≤1000000000000) (hp:∀v,v∈l.take i→bq v ks=true) (hn:∃x,l[i]? =some x∧bq x ks=false):
  ∃l':List ByteArray,l'.length=l.length∧Lo 42 (O Tryz.f137 0) (yy l ks i ((i+1:Nat):Int)) (.ar 0) ⟨[(0,.aw 100000 0 (l.map AV.J).length),(5,sI ((l.filter fun v=>bq v ks).length:Nat))],[(100000,.aw 1 (l'.map .J))]⟩:=by
 have e1:∀j x,l[j]? =some x→(l.take (j+1)).filter (fun v=>bq v ks)=(l.take j).filter (fun v=>bq v ks)++(if bq x ks=true then [x] else []):=fun j x h=>by
  rw [List.take_add_one,h,List.filter_append]
  cases hq:bq x ks<;>simp [hq]
 have h:=iJ (P:=Tryz.prog) (n:=42) (c:=O Tryz.f137 0) (N:=l.length-(i+1)) (k:=0) (γ:=List ByteArray×Nat) (fun j g=>yy g.1 ks g.2 ((i+1+j:Nat):Int)) (fun g=>⟨[(0,.aw 100000 0 (g.1.map AV.J).length),(5,sI (g.2:Int))],[(100000,.aw 1 (g.1.map .J))]⟩)
  (fun j g=>g.1.length=l.length∧g.2<i+1+j∧(∀k,i+1+j≤k→g.1[k]? =l[k]?)∧g.2=((l.take (i+1+j)).filter fun v=>bq v ks).length) (fun j g hj hg=> ?_) (fun g hg=> ?_) (l,i) ⟨rfl,by simp,fun _ _=>rfl,?_⟩
 ·obtain ⟨⟨l',m⟩,⟨h1,h2,_,h3⟩,h⟩:=h
  simp only at h1 h3 h
  rw [show i+1+(l.length-(i+1))=l.length from by omega,List.take_length] at h3
  subst h3
  refine ⟨l',h1,?_⟩
  simp only [List.length_map] at h⊢
  rw [h1] at h
  exact h
 ·obtain ⟨g,m⟩:=g
  obtain ⟨h1,h2,h3,h4⟩:=hg
  simp only at h1 h2 h3 h4⊢
  have hlt:i+1+j<g.length:=by omega
  have hge:=List.getElem?_eq_getElem hlt
  have hx:(g.map AV.J)[0+Int.toNat ((i+1+j:Nat):Int)]? =some (.J g[i+1+j]):=by
   rw [Nat.zero_add,Int.toNat_natCast,List.getElem?_map,hge];rfl
  have h5:=e1 _ _ ((h3 _ (Nat.le_refl _)).symm.trans hge)
  obtain ⟨e,t,⟨rfl,h6,rfl⟩|⟨rfl,h6,rfl⟩,h⟩:=Xn g ks hks m (i+1+j) g[i+1+j] (by omega) hlt (by omega) hx
  ·exact ⟨_,_,⟨rfl,(g,m),⟨h1,by simp only;omega,fun k hk=>h3 k (by omega),by simp only;rw [h6,if_neg (by simp),List.append_nil] at h5;rw [←Nat.add_assoc,h5];exact h4⟩,rfl⟩,h⟩
  ·refine ⟨_,_,⟨rfl,(g.set m g[i+1+j],m+1),⟨by simpa using h1,by simp only;omega,fun k hk=>by simp only;rw [List.getElem?_set_ne (by omega)];exact h3 k (by omega),by simp only;rw [h6,if_pos rfl] at h5;rw [←Nat.add_assoc,h5,List.length_append,←h4];rfl⟩,?_⟩,h⟩
   rw [Nat.zero_add,Int.toNat_natCast,←List.map_set]
   simp only [yy,List.length_map,List.length_set]
   rfl
 ·obtain ⟨g,m⟩:=g
  obtain ⟨h1,h2,_,_⟩:=hg
  simp only at h1 h2⊢
  have e:i+1+(l.length-(i+1))=g.length:=by omega
  rw [e]
  exact Xh g ks m
 ·obtain ⟨x,hx,hq⟩:=hn
  show i=_
  rw [Nat.add_zero,e1 i x hx,hq,if_neg (by simp),List.append_nil,Aa hp,List.length_take]
  omega
theorem Rq (l1 ks:List ByteArray) (i m:Nat) (hll:l1.length=l.length) (hi:i<l.length) (hm:m≤l.length) (hsm:l.length≤1000000000000) (k186:Sp 186 [.aw 100000 0 (l.map AV.J).length,.bZ 139 [] [.aE [sS ks]]] [(100000,.aw 1 (l.map .J))] (sI (i:Int)) []) (l137_0q:Lo 42 (O Tryz.f137 0) (yy l ks i ((i+1:Nat):Int)) (.ar 0) ⟨[(0,.aw 100000 0 (l.map AV.J).length),(5,sI (m:Int))],[(100000,.aw 1 (l1.map .J))]⟩):En 42 (ai Tryz.f137) ⟨[(0,.aw 100000 0 (l.map AV.J).length),(1,.bZ 139 [] [.aE [sS ks]])],[(100000,.aw 1 (l.map .J))]⟩ (fun e t=>e= .aR∧∃es:List AV,aa es=true∧t=⟨[(4,.aw 100000 0 (Int.toNat (m:Int)))],[(100000,.aw 1 es)]⟩):=by
 have hs0:=k186
 have hl1:=l137_0q
 exact ⟨cw.aR,St.mk [(4,AV.aw 100000 0 (Int.toNat (↑m:Int)))] [(100000,Ob.aw 1 (List.take (0+Int.toNat (↑m:Int)) (List.map AV.J l1)++List.replicate (List.length (List.map AV.J l)-Int.toNat (↑m:Int)) (AV.J (ByteArray.mk #[]))++List.drop (0+Int.toNat (↑m:Int)+(List.length (List.map AV.J l)-Int.toNat (↑m:Int))) (List.map AV.J l1)))],⟨rfl,_,by simp,rfl⟩,gA 60000 [.dO (sI (i:Int)) [100000] [],.is false,.g8 [0,1,5,6] [K1 100000],.B3 (.ar 0) [(0,.aw 100000 0 (l.map AV.J).length),(5,sI (m:Int))] [(100000,.aw 1 (l1.map AV.J))]] [4] [K1 100000] (by kernel_rfl) (aC9 hs0 rF (w1 i (by omega)) (show aa (l.map AV.J)=true from by simp) hl1 (show 0≤(m:Int)∧(m:Int)≤(↑(l.map AV.J).length:Int) from by simp;omega) (show 0+Int.toNat (m:Int)+(List.length (l.map AV.J)-Int.toNat (m:Int))≤List.length (l1.map AV.J) from by simp;omega) (show 0≤(m:Int)∧0+Int.toNat (m:Int)≤List.length (List.take (0+Int.toNat (m:Int)) (l1.map AV.J)++List.replicate (List.length (l.map AV.J)-Int.toNat (m:Int)) (AV.J (ByteArray.mk #[]))++List.drop (0+Int.toNat (m:Int)+(List.length (l.map AV.J)-Int.toNat (m:Int))) (l1.map AV.J)) from by simp;omega) (show aa (List.take (0+Int.toNat (m:Int)) (l1.map AV.J)++List.replicate (List.length (l.map AV.J)-Int.toNat (m:Int)) (AV.J (ByteArray.mk #[]))++List.drop (0+Int.toNat (m:Int)+(List.length (l.map AV.J)-Int.toNat (m:Int))) (l1.map AV.J))=true from by simp))⟩
abbrev D8:Nat×Ob:=(45007,.aw 1 (l.map AV.J))
theorem Rt (hks:ks.length<1000000000000000) (hsm:l.length≤1000000000000):∃es:List AV,
  Sp 137 [.aw 45007 0 (l.map AV.J).length,.bZ 139 [] [.aE [sS ks]]] [D8 l] (.aw 45007 0 (l.filter fun v=>bq v ks).length) [(45007,.aw 1 es)]:=by
 have ob:∀id o,(id,o)∈[D7 l]→bg (gX [D7 l]) o=o:=by
  intro id o hm
  rw [List.mem_singleton] at hm
  injection hm with h1 h2
  subst h1;subst h2
  simp only [bg,aM _ _ (bw l)]
 have fin:∀{es:List AV},Rz 42 (ai Tryz.f137) ⟨[(0,.aw 100000 0 (l.map AV.J).length),(1,.bZ 139 [] [.aE [sS ks]])],[D7 l]⟩ .aR ⟨[(4,.aw 100000 0 (l.filter fun v=>bq v ks).length)],[(100000,.aw 1 es)]⟩→∃es:List AV,Sp 137 [.aw 45007 0 (l.map AV.J).length,.bZ 139 [] [.aE [sS ks]]] [D8 l] (.aw 45007 0 (l.filter fun v=>bq v ks).length) [(45007,.aw 1 es)]:=fun {es} h=>by
  have h':Sp 137 [.aw 100000 0 (l.map AV.J).length,.bZ 139 [] [.aE [sS ks]]] [D7 l] (.aw 100000 0 (l.filter fun v=>bq v ks).length) [(100000,.aw 1 es)]:=sG Tryz.f137 ob h (.inr rfl)
  exact ⟨_,h'.gK [(100000,45007,.aw 1 (l.map .J))] [(100000,45007)] (args':=[.aw 45007 0 (l.map AV.J).length,.bZ 139 [] [.aE [sS ks]]]) rfl (by simp only [List.map_cons,List.map_nil,bg,aM _ _ (bw l)]) rfl⟩
 have hf:(l.filter fun v=>bq v ks).length≤l.length:=List.length_filter_le ..
 rcases JP l ks hks (by omega) with ⟨i,⟨hi,h1,h2⟩,sp⟩|⟨h1,sp⟩
 ·obtain ⟨l',h3,hL⟩:=Mc l ks hks i hi hsm h1 h2
  obtain ⟨e,t,⟨rfl,es,hes,rfl⟩,h⟩:=Rq l l' ks i _ h3 hi hf hsm (JQ l ks _ sp) hL
  exact fin h
 ·obtain ⟨e,t,⟨rfl,rfl⟩,h⟩:=Rr l ks (JQ l ks _ sp)
  have e:(l.map AV.J).length=(l.filter fun v=>bq v ks).length:=by rw [Aa h1,List.length_map]
  rw [e] at h
  exact fin (by rw [e];exact h)
theorem Rw (hne:l≠[]) (hl:l.length<100000000):Sp 138 [sS l] [] (.aw 45007 0 (l.map AV.J).length) [D8 l]:=by
 cases l with
 |nil=>exact absurd rfl hne
 |cons x l=>
  obtain ⟨e,t,⟨rfl,rfl⟩,h⟩:=JH (AV.J x) (l.map AV.J) (fun z hz=>by
   obtain ⟨y,_,rfl⟩:=List.mem_map.1 (show z∈(x::l).map AV.J from hz)
   simp) (bw (x::l)) (by simp at hl;simp;omega)
  have h1:Sp 138 [sS (x::l)] [] (.aw 7 0 ((x::l).map AV.J).length) [(7,.aw 1 ((x::l).map AV.J))]:=bK.CB (st':=⟨[(2,.aw 7 0 ((x::l).map AV.J).length)],[(7,.aw 1 ((x::l).map AV.J))]⟩) (fn:=Tryz.f138) (c:=ai Tryz.f138) (by kernel_rfl) (by kernel_rfl) rfl rfl h.p (.inr rfl) (by kernel_rfl)
  have h2:=h1.gK [] [(7,45007)] (args':=[sS (x::l)]) rfl rfl rfl
  have e:bW (kr [(7,45007)]) ((x::l).map AV.J)=(x::l).map AV.J:=aM _ _ (bw (x::l))
  simp only [List.map_cons,List.map_nil,bg] at h2 e⊢
  rw [e] at h2
  exact h2
theorem Rv (hks:ks.length<1000000000000000):Sp 137 [.aF [] false,.bZ 139 [] [.aE [sS ks]]] [] (.aF [] false) []:=by
 rcases JP [] ks hks (by simp) with ⟨i,⟨hi,_⟩,sp⟩|⟨_,sp⟩
 ·simp at hi
 ·skip
  exact aK Tryz.f137 60000 42
theorem Rp (es:List AV) (hml:(l.map AV.J).length=l.length) (hl:l.length<100000000) (hm:m≤l.length) (WA:Sp 138 [sS l] [] (.aw 45007 0 (l.map AV.J).length) [D8 l]) (k137:Sp 137 [.aw 45007 0 (l.map AV.J).length,.bZ 139 [] [.aE [sS ks]]] [D8 l] (.aw 45007 0 m) [(45007,.aw 1 es)]):En 12 (ai Tryz.f136) ⟨[(0,sS l),(1,.aE [sS ks])],[]⟩ (fun e t=>e= .aR∧∃rn:Int,t=⟨[(3,sI rn)],[]⟩∧rn=(l.length:Int)-m):=by
 have o0:=k137
 exact aS Tryz.f136 0 [3]
theorem Rs (hks:ks.length<1000000000000000) (hl:l.length<100000000):Sp 136 [sS l,.aE [sS ks]] [] (sI (lx l ks)) []:=by
 have fin:∀{rn:Int},Rz 12 (ai Tryz.f136) ⟨[(0,sS l),(1,.aE [sS ks])],[]⟩ .aR ⟨[(3,sI rn)],[]⟩→Sp 136 [sS l,.aE [sS ks]] [] (sI rn) []:=fun h=>
  sQ Tryz.f136 h
 by_cases hn:l=[]
 ·subst hn
  have y0h:=(WA [] (by simp))
  have y1h:=(Rv ks hks)
  exact aK Tryz.f136 0 12
 ·obtain ⟨es,sp⟩:=Rt l ks hks (by omega)
  obtain ⟨e,t,⟨rfl,rn,rfl,hr⟩,h⟩:=Rp l ks _ es (List.length_map ..) hl (List.length_filter_le ..) (Rw l hn hl) sp
  have:=Mb l ks
  rw [show lx l ks=rn from by omega]
  exact fin h
@[reducible,instance] def Xi (l ks:List ByteArray):=kG (Rs l ks)
def Bv (ks:List ByteArray) (y:Li):Bool:= !decide (y.k=1)&&decide (lx (ay y.af) ks=0)
def Bt (y:Li):Bool:=decide (y.k=1)
def Bu (ks:List ByteArray) (y:Li):Bool:= !decide (y.k=1)&&decide (y.jR=1)&&decide (lx (ay y.af) ks=1)&&(ro y.l y.r ks||ro y.r y.l ks)
def RB (p:Int) (i:Nat) (b:Bool):Int:=if p<0∧b=true then (i:Int) else p
abbrev Ma (bd:List Li) (ks:List ByteArray) (p s i:Int):St:=⟨[(3,.aE [sS ks]),(5,.bZ 136 [] [.aE [sS ks]]),(6,sI p),(7,sI s),(12,sL bd),(13,sI ((bd.map Li.av).length:Nat)),(14,sI i)],[]⟩
attribute [local simp,local grind] Bv RB Bt Bu in
theorem t83 (p s:Int) (hks:ks.length<1000000000000000) (i:Nat) (y:Li) (hi:i<bd.length) (hsm:bd.length≤1000) (hx:0≤(i:Int)∧(bd.map Li.av)[Int.toNat (i:Int)]? =some y.av) (hT:y.af.length<1000∧y.l.af.length<1000∧y.r.af.length<1000∧(ay y.af).length<1000∧(ay y.l.af).length<1000∧(ay y.r.af).length<1000):En 69 (O Tryz.f83 0) ((Ma bd ks p s i)) (fun e t=>(e= .aR∧Bv ks y=true∧t=⟨[(4,sI (i:Int))],[]⟩)∨(e= .aj∧∃p2 s2:Int,t=Ma bd ks p2 s2 ((i+1:Nat):Int)∧Bv ks y=false∧p2=RB p i (Bt y)∧s2=RB s i (Bu ks y))):=aZ Tryz.f83 0 [3,5,6,7,12,13,14] [4]
def oI:Option Nat→Int
 |some i=>(i:Int)
 |none=> -1
theorem Ab {bd:List Li} {i:Nat} {y:Li} (p:Li→Bool) (h:bd[i]? =some y):oI ((bd.take (i+1)).findIdx? p)=RB (oI ((bd.take i).findIdx? p)) i (p y):=by
 have hi:=(List.getElem?_eq_some_iff.1 h).1
 rw [List.take_add_one,h,List.findIdx?_append]
 unfold RB
 cases (bd.take i).findIdx? p with
 |some j=>simp [oI];omega
 |none=>
  simp only [Option.none_or,Option.toList,List.findIdx?_cons,List.findIdx?_nil]
  cases p y<;>simp [oI];omega
theorem HK {bd:List Li} {i:Nat} {y:Li} {p:Li→Bool} (h:bd[i]? =some y) (h0:(bd.take i).findIdx? p=none):(bd.take (i+1)).findIdx? p=if p y=true then some i else none:=by
 have hi:=(List.getElem?_eq_some_iff.1 h).1
 rw [List.take_add_one,h,List.findIdx?_append,h0]
 simp only [Option.none_or,Option.toList,List.findIdx?_cons,List.findIdx?_nil]
 cases p y<;>simp;omega
theorem D9 {bd:List Li} {i m:Nat} {p:Li→Bool} (h:(bd.take m).findIdx? p=some i):bd.findIdx? p=some i:=by
 conv=>lhs;rw [←List.take_append_drop m bd]
 rw [List.findIdx?_append,h];rfl
theorem RA (hks:ks.length<1000000000000000) (hsm:bd.length≤1000) (hT:zC bd):
  (∃i:Nat,bd.findIdx? (Bv ks)=some i∧Lo 69 (O Tryz.f83 0) (Ma bd ks (-1) (-1) 0) .aR ⟨[(4,sI (i:Int))],[]⟩)∨
  (bd.findIdx? (Bv ks)=none∧Lo 69 (O Tryz.f83 0) (Ma bd ks (-1) (-1) 0) (.ar 0) ⟨[(6,sI (oI (bd.findIdx? Bt))),(7,sI (oI (bd.findIdx? (Bu ks))))],[]⟩):=by
 rcases kq (P:=Tryz.prog) (n:=69) (c:=O Tryz.f83 0) (N:=bd.length) (k:=0) (γ:=Int×Int) (fun i g=>Ma bd ks g.1 g.2 (i:Nat)) (fun g=>⟨[(6,sI g.1),(7,sI g.2)],[]⟩) (fun t=>∃i:Nat,bd.findIdx? (Bv ks)=some i∧t=⟨[(4,sI (i:Int))],[]⟩) (fun i g=>(bd.take i).findIdx? (Bv ks)=none∧g.1=oI ((bd.take i).findIdx? Bt)∧g.2=oI ((bd.take i).findIdx? (Bu ks))) (fun i g hi hg=>by
  have hy:bd[i]? =some bd[i]:=List.getElem?_eq_getElem hi
  have h3:=HK hy hg.1
  obtain ⟨e,t,⟨rfl,h1,rfl⟩|⟨rfl,p2,s2,rfl,h1,h2,h4⟩,h⟩:=t83 bd ks g.1 g.2 hks i bd[i] hi hsm ⟨by omega,dD Li.av hy⟩ (hT _ (List.getElem_mem hi))
  ·rw [h1,if_pos rfl] at h3
   exact ⟨_,_,.inl ⟨rfl,i,D9 h3,rfl⟩,h⟩
  ·rw [h1,if_neg (by simp)] at h3
   exact ⟨_,_,.inr ⟨rfl,(p2,s2),⟨h3,by rw [Ab _ hy,←hg.2.1];exact h2,by rw [Ab _ hy,←hg.2.2];exact h4⟩,rfl⟩,h⟩) (fun g _=>au Tryz.f83 0) (-1,-1) (by simp [oI]) with ⟨t,h,i,hi,rfl⟩|⟨g,⟨h1,h2,h3⟩,h⟩
 ·exact .inl ⟨i,hi,h⟩
 ·rw [List.take_length] at h1 h2 h3
  rw [h2,h3] at h
  exact .inr ⟨h1,h⟩
def mv (bd:List Li) (ks:List ByteArray):Nat:=match bd.findIdx? (Bv ks) with
 |some i=>i
 |none=>match bd.findIdx? Bt with
  |some i=>i
  |none=>(bd.findIdx? (Bu ks)).getD 0
theorem w83:EN 69 (cF 0 (ai Tryz.f83)) ⟨[(0,sL bd),(1,sS ks)],[]⟩ ⟨[(0,sL bd),(3,.aE [sS ks]),(4,sI 0)],[]⟩:=au Tryz.f83 0
theorem Xg (i:Nat) (l83_0q:Lo 69 (O Tryz.f83 0) (Ma bd ks (-1) (-1) 0) .aR ⟨[(4,sI ((i:Nat):Int))],[]⟩):En 69 (ca 1 (ai Tryz.f83)) ⟨[(0,sL bd),(3,.aE [sS ks]),(4,sI 0)],[]⟩ (fun e t=>e= .aR∧t=⟨[(4,sI ((i:Nat):Int))],[]⟩):=by
 have o0:=l83_0q
 exact au Tryz.f83 0
theorem Xf (p s:Int) (l83_0q:Lo 69 (O Tryz.f83 0) (Ma bd ks (-1) (-1) 0) (.ar 0) ⟨[(6,sI p),(7,sI s)],[]⟩):En 69 (ca 1 (ai Tryz.f83)) ⟨[(0,sL bd),(3,.aE [sS ks]),(4,sI 0)],[]⟩ (fun e t=>e= .aR∧∃rn:Int,t=⟨[(4,sI rn)],[]⟩∧rn=if 0≤p then p else if 0≤s then s else 0):=by
 have o0:=l83_0q
 exact aS Tryz.f83 0 [4]
theorem Xm (hks:ks.length<1000000000000000) (hsm:bd.length≤1000) (hT:zC bd):Sp 83 [sL bd,sS ks] [] (sI (mv bd ks:Nat)) []:=by
 obtain ⟨e,t,⟨rfl,rfl⟩,r0⟩:=w83 bd ks
 have fin:∀{rn:Int},Rz 69 (ca 1 (ai Tryz.f83)) ⟨[(0,sL bd),(3,.aE [sS ks]),(4,sI 0)],[]⟩ .aR ⟨[(4,sI rn)],[]⟩→Sp 83 [sL bd,sS ks] [] (sI rn) []:=fun h=>
  sQ Tryz.f83 (cf.iI 0 (by kernel_rfl) r0 h)
 rcases RA bd ks hks hsm hT with ⟨i,hi,hL⟩|⟨hi,hL⟩
 ·obtain ⟨e,t,⟨rfl,rfl⟩,h⟩:=Xg bd ks i hL
  unfold mv;rw [hi]
  exact fin h
 ·obtain ⟨e,t,⟨rfl,rn,rfl,hr⟩,h⟩:=Xf bd ks _ _ hL
  have e:((mv bd ks:Nat):Int)=rn:=by
   rw [hr]
   unfold mv
   rw [hi]
   cases bd.findIdx? Bt with
   |some j=>rw [if_pos (by simp [oI])];rfl
   |none=>
    rw [if_neg (by simp [oI])]
    cases bd.findIdx? (Bu ks) with
    |some j=>rw [if_pos (by simp [oI])];rfl
    |none=>rw [if_neg (by simp [oI])];rfl
  rw [e]
  exact fin h
theorem RC {bd:List Li} (ks:List ByteArray) (hne:bd≠[]):mv bd ks<bd.length:=by
 have hb:0<bd.length:=List.length_pos_iff.2 hne
 unfold mv
 split
 ·rename_i h;exact (List.findIdx?_eq_some_iff_getElem.1 h).1
 ·split
  ·rename_i h;exact (List.findIdx?_eq_some_iff_getElem.1 h).1
  ·cases h:bd.findIdx? (Bu ks) with
   |some i=>exact (List.findIdx?_eq_some_iff_getElem.1 h).1
   |none=>exact hb
end
section
variable (bd:List Li) (i:Nat)
theorem wP {a b:List AV} (h:aa a=true) (k:aa b=true):aa (a++b)=true:=by rw [jf,h,k];rfl
theorem wQ (n:Nat) {x:AV} (h:aJ x=true):aa (List.replicate n x)=true:=by rw [qH,h];simp
theorem Ec {α:Type} (L:List α) (i i' j' k s p q r:Nat) (z:α) (hi:i<L.length) (h1:i'=i) (h2:j'=i+1) (h3:k=L.length-(i+1)) (h4:p=L.length-1):
  (List.take p (List.take i' L++List.take k (List.drop j' L)++List.drop s L)++List.replicate q z++List.drop r (List.take i' L++List.take k (List.drop j' L)++List.drop s L)).take (L.length-1)=L.eraseIdx i:=by
 subst h1;subst h2;subst h3;subst h4
 have e:List.take (L.length-(i'+1)) (List.drop (i'+1) L)=List.drop (i'+1) L:=List.take_of_length_le (by simp)
 have hl:(List.take i' L++List.drop (i'+1) L).length=L.length-1:=by
  simp only [List.length_append,List.length_take,List.length_drop];omega
 rw [e,List.eraseIdx_eq_take_drop_succ]
 have e2:List.take (L.length-1) (List.take i' L++List.drop (i'+1) L++List.drop s L)=List.take i' L++List.drop (i'+1) L:=by rw [←hl,List.take_left]
 rw [e2,List.append_assoc,←hl,List.take_left]
theorem Eb {α:Type} (L:List α) (i p q r:Nat) (z:α) (hi:i+1=L.length) (h4:p=i):
  (List.take p L++List.replicate q z++List.drop r L).take (L.length-1)=L.eraseIdx i:=by
 subst h4
 have hl:(List.take p L).length=L.length-1:=by rw [List.length_take];omega
 have e:List.drop (p+1) L=[]:=List.drop_of_length_le (by omega)
 rw [List.eraseIdx_eq_take_drop_succ,e,List.append_nil,List.append_assoc,←hl,List.take_left]
abbrev yz:Nat×Ob:=(100000,.aw 16 (bd.map Li.av))
abbrev HL (m:Nat):Nat×AV:=(6,.aw 100000 0 m)
abbrev Ea (es:List AV):Nat×Ob:=(100000,.aw 16 es)
theorem Xp (hl:(bd.map Li.av).length=bd.length) (hsm:bd.length≤1000) (hi:i+1<bd.length) (hc:0+Int.toNat ((i+1:Nat):Int)+((bd.map Li.av).length-Int.toNat ((i+1:Nat):Int))≤(bd.map Li.av).length∧(0:Nat)=0∧Int.toNat (i:Int)+(List.take ((bd.map Li.av).length-Int.toNat ((i+1:Nat):Int)) (List.drop (0+Int.toNat ((i+1:Nat):Int)) (bd.map Li.av))).length≤(bd.map Li.av).length∧(∀e,e∈(List.take ((bd.map Li.av).length-Int.toNat ((i+1:Nat):Int)) (List.drop (0+Int.toNat ((i+1:Nat):Int)) (bd.map Li.av)))→c8 16 e)∧(List.take ((bd.map Li.av).length-Int.toNat ((i+1:Nat):Int)) (List.drop (0+Int.toNat ((i+1:Nat):Int)) (bd.map Li.av)))≠[]):En 33 (ai Tryz.f85) ⟨[(0,.aw 100000 0 (bd.map Li.av).length),(1,sI (i:Int)),(2,sI ((i+1:Nat):Int))],[yz bd]⟩ (fun e t=>e= .aR∧∃(m:Nat) (es:List AV),m=bd.length-1∧es.take ((bd.map Li.av).length-1)=(bd.map Li.av).eraseIdx i∧t=⟨[HL m],[Ea es]⟩):=by
 exact zs 60000<|zh (show 0≤(i:Int)∧(i:Int)≤(↑(i+1):Int)∧(↑(i+1):Int)≤(↑(bd.map Li.av).length:Int)∧0+Int.toNat (↑(bd.map Li.av).length:Int)≤List.length (bd.map Li.av) from by omega)<|zf (show decide ((i:Int)=(↑(i+1):Int))=false from decide_eq_false (by omega))<|zh (show 0≤(i:Int)∧0+Int.toNat (i:Int)≤List.length (bd.map Li.av) from by omega)<|zh (show 0≤(↑(i+1):Int)∧(↑(i+1):Int)≤(↑(bd.map Li.av).length:Int) from by omega)<|zh hc<|zh (show 0≤(↑(Int.toNat (i:Int)+List.length (List.take (List.length (bd.map Li.av)-Int.toNat (↑(i+1):Int)) (List.drop (0+Int.toNat (↑(i+1):Int)) (bd.map Li.av)))):Int)∧(↑(Int.toNat (i:Int)+List.length (List.take (List.length (bd.map Li.av)-Int.toNat (↑(i+1):Int)) (List.drop (0+Int.toNat (↑(i+1):Int)) (bd.map Li.av)))):Int)≤(↑(bd.map Li.av).length:Int)∧0+Int.toNat (↑(bd.map Li.av).length:Int)≤List.length (List.take (Int.toNat (i:Int)) (bd.map Li.av)++List.take (List.length (bd.map Li.av)-Int.toNat (↑(i+1):Int)) (List.drop (0+Int.toNat (↑(i+1):Int)) (bd.map Li.av))++List.drop (Int.toNat (i:Int)+List.length (List.take (List.length (bd.map Li.av)-Int.toNat (↑(i+1):Int)) (List.drop (0+Int.toNat (↑(i+1):Int)) (bd.map Li.av)))) (bd.map Li.av)) from by simp;omega)<|zh (show 0+Int.toNat (↑(Int.toNat (i:Int)+List.length (List.take (List.length (bd.map Li.av)-Int.toNat (↑(i+1):Int)) (List.drop (0+Int.toNat (↑(i+1):Int)) (bd.map Li.av)))):Int)+(Int.toNat (↑(bd.map Li.av).length:Int)-Int.toNat (↑(Int.toNat (i:Int)+List.length (List.take (List.length (bd.map Li.av)-Int.toNat (↑(i+1):Int)) (List.drop (0+Int.toNat (↑(i+1):Int)) (bd.map Li.av)))):Int))≤List.length (List.take (Int.toNat (i:Int)) (bd.map Li.av)++List.take (List.length (bd.map Li.av)-Int.toNat (↑(i+1):Int)) (List.drop (0+Int.toNat (↑(i+1):Int)) (bd.map Li.av))++List.drop (Int.toNat (i:Int)+List.length (List.take (List.length (bd.map Li.av)-Int.toNat (↑(i+1):Int)) (List.drop (0+Int.toNat (↑(i+1):Int)) (bd.map Li.av)))) (bd.map Li.av)) from by simp;omega)<|zh (show aa (List.take (0+Int.toNat (↑(Int.toNat (i:Int)+List.length (List.take (List.length (bd.map Li.av)-Int.toNat (↑(i+1):Int)) (List.drop (0+Int.toNat (↑(i+1):Int)) (bd.map Li.av)))):Int)) (List.take (Int.toNat (i:Int)) (bd.map Li.av)++List.take (List.length (bd.map Li.av)-Int.toNat (↑(i+1):Int)) (List.drop (0+Int.toNat (↑(i+1):Int)) (bd.map Li.av))++List.drop (Int.toNat (i:Int)+List.length (List.take (List.length (bd.map Li.av)-Int.toNat (↑(i+1):Int)) (List.drop (0+Int.toNat (↑(i+1):Int)) (bd.map Li.av)))) (bd.map Li.av))++List.replicate (Int.toNat (↑(bd.map Li.av).length:Int)-Int.toNat (↑(Int.toNat (i:Int)+List.length (List.take (List.length (bd.map Li.av)-Int.toNat (↑(i+1):Int)) (List.drop (0+Int.toNat (↑(i+1):Int)) (bd.map Li.av)))):Int)) (AV.al [sJ 0,AV.J (ByteArray.mk #[]),AV.ab,sJ 0,sJ 0,AV.J (ByteArray.mk #[]),sJ 0,sI 0,AV.J (ByteArray.mk #[]),AV.ab,sJ 0,AV.J (ByteArray.mk #[]),sJ 0,sI 0,AV.J (ByteArray.mk #[]),AV.ab])++List.drop (0+Int.toNat (↑(Int.toNat (i:Int)+List.length (List.take (List.length (bd.map Li.av)-Int.toNat (↑(i+1):Int)) (List.drop (0+Int.toNat (↑(i+1):Int)) (bd.map Li.av)))):Int)+(Int.toNat (↑(bd.map Li.av).length:Int)-Int.toNat (↑(Int.toNat (i:Int)+List.length (List.take (List.length (bd.map Li.av)-Int.toNat (↑(i+1):Int)) (List.drop (0+Int.toNat (↑(i+1):Int)) (bd.map Li.av)))):Int))) (List.take (Int.toNat (i:Int)) (bd.map Li.av)++List.take (List.length (bd.map Li.av)-Int.toNat (↑(i+1):Int)) (List.drop (0+Int.toNat (↑(i+1):Int)) (bd.map Li.av))++List.drop (Int.toNat (i:Int)+List.length (List.take (List.length (bd.map Li.av)-Int.toNat (↑(i+1):Int)) (List.drop (0+Int.toNat (↑(i+1):Int)) (bd.map Li.av)))) (bd.map Li.av)))=true from by repeat' (first|exact dG _|apply wP|apply wi|apply wh|apply wQ|exact rfl))<|zd (.vw (ByteArray.mk #[]))<|zq (s:=St.mk [(6,.aw 100000 0 (Int.toNat (i:Int)+List.length (List.take (List.length (bd.map Li.av)-Int.toNat (↑(i+1):Int)) (List.drop (0+Int.toNat (↑(i+1):Int)) (bd.map Li.av)))))] [(100000,.aw 16 (List.take (0+Int.toNat (↑(Int.toNat (i:Int)+List.length (List.take (List.length (bd.map Li.av)-Int.toNat (↑(i+1):Int)) (List.drop (0+Int.toNat (↑(i+1):Int)) (bd.map Li.av)))):Int)) (List.take (Int.toNat (i:Int)) (bd.map Li.av)++List.take (List.length (bd.map Li.av)-Int.toNat (↑(i+1):Int)) (List.drop (0+Int.toNat (↑(i+1):Int)) (bd.map Li.av))++List.drop (Int.toNat (i:Int)+List.length (List.take (List.length (bd.map Li.av)-Int.toNat (↑(i+1):Int)) (List.drop (0+Int.toNat (↑(i+1):Int)) (bd.map Li.av)))) (bd.map Li.av))++List.replicate (Int.toNat (↑(bd.map Li.av).length:Int)-Int.toNat (↑(Int.toNat (i:Int)+List.length (List.take (List.length (bd.map Li.av)-Int.toNat (↑(i+1):Int)) (List.drop (0+Int.toNat (↑(i+1):Int)) (bd.map Li.av)))):Int)) (.al [sJ 0,.J (ByteArray.mk #[]),.ab,sJ 0,sJ 0,.J (ByteArray.mk #[]),sJ 0,sI 0,.J (ByteArray.mk #[]),.ab,sJ 0,.J (ByteArray.mk #[]),sJ 0,sI 0,.J (ByteArray.mk #[]),.ab])++List.drop (0+Int.toNat (↑(Int.toNat (i:Int)+List.length (List.take (List.length (bd.map Li.av)-Int.toNat (↑(i+1):Int)) (List.drop (0+Int.toNat (↑(i+1):Int)) (bd.map Li.av)))):Int)+(Int.toNat (↑(bd.map Li.av).length:Int)-Int.toNat (↑(Int.toNat (i:Int)+List.length (List.take (List.length (bd.map Li.av)-Int.toNat (↑(i+1):Int)) (List.drop (0+Int.toNat (↑(i+1):Int)) (bd.map Li.av)))):Int))) (List.take (Int.toNat (i:Int)) (bd.map Li.av)++List.take (List.length (bd.map Li.av)-Int.toNat (↑(i+1):Int)) (List.drop (0+Int.toNat (↑(i+1):Int)) (bd.map Li.av))++List.drop (Int.toNat (i:Int)+List.length (List.take (List.length (bd.map Li.av)-Int.toNat (↑(i+1):Int)) (List.drop (0+Int.toNat (↑(i+1):Int)) (bd.map Li.av)))) (bd.map Li.av))))]) ⟨rfl,_,_,by (simp;omega),by (refine Ec _ i _ _ _ _ _ _ _ _ ?_ ?_ ?_ ?_ ?_<;>(simp;try omega)),rfl⟩
theorem Xq (hl:(bd.map Li.av).length=bd.length) (hsm:bd.length≤1000) (hi:i+1=bd.length) (hc:0+Int.toNat ((i+1:Nat):Int)+((bd.map Li.av).length-Int.toNat ((i+1:Nat):Int))≤(bd.map Li.av).length∧(List.take ((bd.map Li.av).length-Int.toNat ((i+1:Nat):Int)) (List.drop (0+Int.toNat ((i+1:Nat):Int)) (bd.map Li.av)))=[]):En 33 (ai Tryz.f85) ⟨[(0,.aw 100000 0 (bd.map Li.av).length),(1,sI (i:Int)),(2,sI ((i+1:Nat):Int))],[yz bd]⟩ (fun e t=>e= .aR∧∃(m:Nat) (es:List AV),m=bd.length-1∧es.take ((bd.map Li.av).length-1)=(bd.map Li.av).eraseIdx i∧t=⟨[HL m],[Ea es]⟩):=by
 exact zs 60000<|zh (show 0≤(i:Int)∧(i:Int)≤(↑(i+1):Int)∧(↑(i+1):Int)≤(↑(bd.map Li.av).length:Int)∧0+Int.toNat (↑(bd.map Li.av).length:Int)≤List.length (bd.map Li.av) from by omega)<|zf (show decide ((i:Int)=(↑(i+1):Int))=false from decide_eq_false (by omega))<|zh (show 0≤(i:Int)∧0+Int.toNat (i:Int)≤List.length (bd.map Li.av) from by omega)<|zh (show 0≤(↑(i+1):Int)∧(↑(i+1):Int)≤(↑(bd.map Li.av).length:Int) from by omega)<|zh hc<|zh (show 0≤(↑(Int.toNat (i:Int)):Int)∧(↑(Int.toNat (i:Int)):Int)≤(↑(bd.map Li.av).length:Int)∧0+Int.toNat (↑(bd.map Li.av).length:Int)≤List.length (bd.map Li.av) from by omega)<|zh (show 0+Int.toNat (↑(Int.toNat (i:Int)):Int)+(Int.toNat (↑(bd.map Li.av).length:Int)-Int.toNat (↑(Int.toNat (i:Int)):Int))≤List.length (bd.map Li.av) from by omega)<|zh (zN (List.take (0+Int.toNat (↑(Int.toNat (i:Int)):Int)) (bd.map Li.av)++List.replicate (Int.toNat (↑(bd.map Li.av).length:Int)-Int.toNat (↑(Int.toNat (i:Int)):Int)) (.al [sJ 0,.J (ByteArray.mk #[]),.ab,sJ 0,sJ 0,.J (ByteArray.mk #[]),sJ 0,sI 0,.J (ByteArray.mk #[]),.ab,sJ 0,.J (ByteArray.mk #[]),sJ 0,sI 0,.J (ByteArray.mk #[]),.ab])++List.drop (0+Int.toNat (↑(Int.toNat (i:Int)):Int)+(Int.toNat (↑(bd.map Li.av).length:Int)-Int.toNat (↑(Int.toNat (i:Int)):Int))) (bd.map Li.av)))<|zd (.is false)<|zq (s:=St.mk [(6,.aw 100000 0 (Int.toNat (i:Int)))] [(100000,.aw 16 (List.take (0+Int.toNat (↑(Int.toNat (i:Int)):Int)) (bd.map Li.av)++List.replicate (Int.toNat (↑(bd.map Li.av).length:Int)-Int.toNat (↑(Int.toNat (i:Int)):Int)) (.al [sJ 0,.J (ByteArray.mk #[]),.ab,sJ 0,sJ 0,.J (ByteArray.mk #[]),sJ 0,sI 0,.J (ByteArray.mk #[]),.ab,sJ 0,.J (ByteArray.mk #[]),sJ 0,sI 0,.J (ByteArray.mk #[]),.ab])++List.drop (0+Int.toNat (↑(Int.toNat (i:Int)):Int)+(Int.toNat (↑(bd.map Li.av).length:Int)-Int.toNat (↑(Int.toNat (i:Int)):Int))) (bd.map Li.av)))]) ⟨rfl,_,_,by (simp;omega),by (refine Eb _ i _ _ _ _ ?_ ?_<;>(simp;try omega)),rfl⟩
theorem nv {α β:Type} (f:α→β):∀(l:List α) (i:Nat),(l.map f).eraseIdx i=(l.eraseIdx i).map f
 |[],_=>rfl
 |x::r,0=>rfl
 |x::r,i+1=>by simp [nv f r i]
theorem Ee (l:List Li):∀e,e∈l.map Li.av→c8 16 e:=fun e he=>by
 obtain ⟨x,_,rfl⟩:=List.mem_map.1 he
 simp
abbrev Me:Nat×Ob:=(100000,.aw 16 ((bd.eraseIdx i).map Li.av))
theorem k85 (hi:i<bd.length) (hsm:bd.length≤1000):
  Sp 85 [.aw 45007 0 (bd.map Li.av).length,sI (i:Int),sI ((i+1:Nat):Int)] [(45007,.aw 16 (bd.map Li.av))] (.aw 45007 0 ((bd.eraseIdx i).map Li.av).length) [(45007,.aw 16 ((bd.eraseIdx i).map Li.av))]:=by
 have hl:(bd.map Li.av).length=bd.length:=List.length_map ..
 have ob:∀id o,(id,o)∈[yz bd]→bg (gX [yz bd]) o=o:=by
  intro id o hm
  rw [List.mem_singleton] at hm
  injection hm with h1 h2
  subst h1;subst h2
  simp only [bg,aM _ _ (dG bd)]
 have he:(bd.map Li.av).eraseIdx i=(bd.eraseIdx i).map Li.av:=nv Li.av bd i
 have hel:((bd.eraseIdx i).map Li.av).length=bd.length-1:=by rw [List.length_map,List.length_eraseIdx_of_lt hi]
 have main:∀(m:Nat) (es:List AV),m=bd.length-1→es.take ((bd.map Li.av).length-1)=(bd.map Li.av).eraseIdx i→Rz 33 (ai Tryz.f85) ⟨[(0,.aw 100000 0 (bd.map Li.av).length),(1,sI (i:Int)),(2,sI ((i+1:Nat):Int))],[yz bd]⟩ .aR ⟨[HL m],[Ea es]⟩→
   Sp 85 [.aw 100000 0 (bd.map Li.av).length,sI (i:Int),sI ((i+1:Nat):Int)] [yz bd] (.aw 100000 0 ((bd.eraseIdx i).map Li.av).length) [Me bd i]:=by
  intro m es h1 h2 h
  have h3:=h.gV (Ky (n:=33) (st:=⟨[HL m],[Ea es]⟩) 100000 ((bd.map Li.av).length-1) rfl)
  have e:ba [Ea es] 100000 (.aw 16 (es.take ((bd.map Li.av).length-1)))=[Me bd i]:=by
   rw [h2,he];rfl
  simp only [e] at h3
  subst h1
  rw [hel]
  exact sG Tryz.f85 ob h3 (.inr rfl)
 have fin:Sp 85 [.aw 100000 0 (bd.map Li.av).length,sI (i:Int),sI ((i+1:Nat):Int)] [yz bd] (.aw 100000 0 ((bd.eraseIdx i).map Li.av).length) [Me bd i]:=by
  by_cases hlt:i+1<bd.length
  ·obtain ⟨e,t,⟨rfl,m,es,h1,h2,rfl⟩,h⟩:=Xp bd i hl hsm hlt ⟨by simp;omega,rfl,by simp;omega,fun e he=>Ee bd e (List.mem_of_mem_drop (List.mem_of_mem_take he)),by
    intro h0
    have:=congrArg List.length h0
    simp at this
    omega⟩
   exact main m es h1 h2 h
  ·obtain ⟨e,t,⟨rfl,m,es,h1,h2,rfl⟩,h⟩:=Xq bd i hl hsm (by omega) ⟨by simp;omega,by
    apply List.eq_nil_of_length_eq_zero
    simp;omega⟩
   exact main m es h1 h2 h
 have h2:=fin.gK [(100000,45007,.aw 16 (bd.map Li.av))] [(100000,45007)] (args':=[.aw 45007 0 (bd.map Li.av).length,sI (i:Int),sI ((i+1:Nat):Int)]) rfl (by simp only [List.map_cons,List.map_nil,bg,aM _ _ (dG bd)]) rfl
 simp only [List.map_cons,List.map_nil,bg,aM _ _ (dG (bd.eraseIdx i))] at h2
 exact h2
end
section
variable (a:Ad) (s:ByteArray) (rk rv:List AV) (out:List Ru)
def sk:Nat→List AV
 |0=>[]
 |n+1=>sk n++[sI (n:Int)]
theorem pH:∀n,(sk n).length=n
 |0=>rfl
 |n+1=>by rw [sk,List.length_append,pH n];rfl
theorem Ac:∀(n j:Nat),j<n→(sk n)[j]? =some (sI (j:Int))
 |0,j,h=>absurd h (Nat.not_lt_zero _)
 |n+1,j,h=>by
  rw [sk]
  by_cases e:j<n
  ·rw [List.getElem?_append_left (by rw [pH];exact e)];exact Ac n j e
  ·have:j=n:=by omega
   subst this
   rw [List.getElem?_append_right (by rw [pH];exact Nat.le_refl _),pH,Nat.sub_self];rfl
@[simp] theorem gS:∀n,aa (sk n)=true
  |0=>rfl
  |n+1=>by rw [sk,jf,gS n];rfl
theorem Mf (p s q r:ByteArray):tY Tryz.prog 20 27 [.J p,.J s] [.J q,.J r]=some (decide (p=q)&&(decide (s=r)&&true),[],[]):=by kernel_rfl
theorem mw {a:Ad}:∀{L:List Ad} {i:Nat},a∉L→fv Tryz.prog 27 [.J a.1,.J a.2] (L.map bE) i=some none
 |[],i,_=>rfl
 |x::r,i,h=>by
  have h1:(decide (a.1=x.1)&&(decide (a.2=x.2)&&true))=false:=by
   rw [Bool.and_true,←Bool.decide_and,decide_eq_false_iff_not]
   rintro ⟨e1,e2⟩
   exact h (by rw [show a=x from Prod.ext e1 e2];simp)
  simp only [List.map_cons,bE,fv,Mf,h1]
  exact mw fun h2=>h (List.mem_cons_of_mem _ h2)
theorem rq {a:Ad}:∀{L:List Ad} {i:Nat},a∈L→∃j,fv Tryz.prog 27 [.J a.1,.J a.2] (L.map bE) i=some (some (i+j))∧j<L.length
 |x::r,i,h=>by
  by_cases e:a=x
  ·subst e
   refine ⟨0,?_,by simp⟩
   simp only [List.map_cons,bE,fv,Mf,decide_true,Bool.and_true,Nat.add_zero]
  ·have h1:(decide (a.1=x.1)&&(decide (a.2=x.2)&&true))=false:=by
    rw [Bool.and_true,←Bool.decide_and,decide_eq_false_iff_not]
    rintro ⟨e1,e2⟩
    exact e (Prod.ext e1 e2)
   obtain ⟨j,h2,h3⟩:=rq (L:=r) (i:=i+1) ((List.mem_cons.1 h).resolve_left e)
   refine ⟨j+1,?_,by simp;omega⟩
   simp only [List.map_cons,bE,fv,Mf,h1]
   rw [show i+(j+1)=i+1+j from by omega]
   exact h2
theorem k14 (q s:ByteArray) (hq:q.size<1000000000000000000) (hs:s.size<1000000000000000000):Sp 14 [.al [.J q,.J s]] [] (.J (aH q s)) []:=Gl q s hq hs
@[reducible,instance] def abK (q s:ByteArray):=kG (k14 q s)
@[reducible] def wp (L:List Ad) (rk rv:List AV) (out:List Ru):List (Nat×Ob):=[(100000,.an [.aX 2 (L.map bE),.aI 100001,.bH rk rv,.aX 3 (out.map Ru.av)]),(100001,.aI (L.map bE) (sk L.length))]
open Classical in
noncomputable def eE (L:List Ad) (a:Ad):List Ad:=if a∈L then L else L++[a]
theorem rr (L:List Ad) (rk rv:List AV) (out:List Ru):∀id o,(id,o)∈wp L rk rv out→bg (gX (wp L rk rv out)) o=o:=by
 intro id o hm
 simp only [wp,List.mem_cons,Prod.mk.injEq,List.not_mem_nil,or_false] at hm
 rcases hm with ⟨rfl,rfl⟩|⟨rfl,rfl⟩
 ·rfl
 ·simp only [bg,aM _ _ (dZ L),aM _ _ (gS L.length)]
theorem Eg (L:List Ad) (a:Ad) (rk rv:List AV) (out:List Ru):wp (L++[a]) rk rv out=[(100000,.an [.aX 2 ((L++[a]).map bE),.aI 100001,.bH rk rv,.aX 3 (out.map Ru.av)]),(100001,.aI (L.map bE++[.al [.J a.1,.J a.2]]) (sk L.length++[sI ((L.map bE).length:Nat)]))]:=by
 have e1:(L++[a]).map bE=L.map bE++[AV.al [.J a.1,.J a.2]]:=by rw [List.map_append];rfl
 have e2:sk (L++[a]).length=sk L.length++[sI ((L.map bE).length:Nat)]:=by rw [List.length_append,List.length_map];rfl
 unfold wp
 rw [e2,e1]
theorem k46 (L:List Ad) (p s:ByteArray) (rk rv:List AV) (out:List Ru) (hl:L.length<1000000) (hp:p.size<1000000000000000000) (hs:s.size<1000000000000000000):Sp 46 [.aA 100000 0 0,.al [.J p,.J s]] (wp L rk rv out) (.J (aH p s)) (wp (eE L (p,s)) rk rv out):=by
 unfold eE
 split
 ·rename_i hm
  obtain ⟨j,h1,h2⟩:=rq (i:=0) hm
  have hf:∃i,fv Tryz.prog 27 [.J p,.J s] (L.map bE) 0=some (some i)∧(sk L.length)[i]? =some (sI (j:Int)):=⟨j,by simpa using h1,Ac _ _ h2⟩
  exact av Tryz.f46 60000 (hr:=fun h=>zG Tryz.f46 49 h (rr L rk rv out))
 ·rename_i hm
  have hf:=mw (i:=0) hm
  rw [Eg]
  exact av Tryz.f46 60000 (hr:=fun h=>zG Tryz.f46 49 h (rr L rk rv out))
instance j46:KI 46 [100000,100001]:=⟨⟩
@[reducible,instance] def abL (L:List Ad) (p s:ByteArray) (rk rv:List AV) (out:List Ru):=tH (k46 L p s rk rv out)
abbrev Ef:Nat×AV:=(0,.aA 100000 0 0)
abbrev HM:Nat×Ob:=(100000,.an [.aX 2 [],.bh,.bH rk rv,.aX 3 (out.map Ru.av)])
abbrev HN:Nat×AV:=(3,.aE [.J a.1,.J a.2])
abbrev HP:Nat×AV:=(4,.J ⟨#[]⟩)
theorem qa:EN 49 (cF 0 (ai Tryz.f46)) ⟨[Ef,(1,.al [.J a.1,.J a.2])],[HM rk rv out]⟩ ⟨[Ef,HN a,HP],[HM rk rv out]⟩:=av Tryz.f46 0
theorem qb:EN 49 (cF 1 (ai Tryz.f46)) ⟨[Ef,HN a,HP],[HM rk rv out]⟩ ⟨[Ef,HN a,HP],wp [] rk rv out⟩:=av Tryz.f46 99988
theorem qc (hp:a.1.size<1000000000000000000) (hs:a.2.size<1000000000000000000):En 49 (ca 2 (ai Tryz.f46)) ⟨[Ef,HN a,HP],wp [] rk rv out⟩ (fun e t=>e= .aR∧t=⟨[(4,.J (aH a.1 a.2))],wp [a] rk rv out⟩):=by
 have hf:=mw (L:=[]) (i:=0) (a:=a) (by simp)
 rw [show [a]=[]++[a] from rfl,Eg]
 exact av Tryz.f46 60000
theorem Xr (hp:a.1.size<1000000000000000000) (hs:a.2.size<1000000000000000000):Sp 46 [.aA 100000 0 0,.al [.J a.1,.J a.2]] [HM rk rv out] (.J (aH a.1 a.2)) (wp [a] rk rv out):=by
 obtain ⟨_,_,⟨rfl,rfl⟩,r0⟩:=qa a rk rv out
 obtain ⟨_,_,⟨rfl,rfl⟩,r1⟩:=qb a rk rv out
 obtain ⟨_,_,⟨rfl,rfl⟩,r2⟩:=qc a rk rv out hp hs
 exact sG Tryz.f46 (fun id o hm=>by rw [List.mem_singleton] at hm;injection hm with h1 h2;subst h1;subst h2;rfl) (cf.iI 0 (by kernel_rfl) r0 (cf.iI 1 (by kernel_rfl) r1 r2)) (.inr rfl)
end
end Go.Ped
