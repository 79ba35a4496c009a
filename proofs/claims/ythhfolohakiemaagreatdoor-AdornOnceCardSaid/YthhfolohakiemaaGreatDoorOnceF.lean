/- The function AdornOnce answers true for every input, so its card holds. -/
import Derived.Test.YthhfolohakiemaaGreatDoorCards
import Derived.Test.YthhfolohakiemaaGreatDoorTie
import Derived.Test.YthhfolohakiemaaGreatDoorOnceE
set_option linter.unusedVariables false
set_option linter.unnecessarySimpa false
set_option linter.unusedSimpArgs false
namespace Go.Ped
open Go.RowKit Go.Proofs
def maxH:List Ru→Nat
 |[]=>0
 |r::l=>max r.hd.length (maxH l)
theorem maxH_app (l:List Ru) (y:Ru):maxH (l++[y])=max (maxH l) y.hd.length:=by
 induction l with
 |nil=>simp [maxH]
 |cons r l ih=>simp only [List.cons_append,maxH,ih];omega
theorem maxH_le {l:List Ru} {r:Ru} (h:r∈l):r.hd.length≤maxH l:=by
 induction l with
 |nil=>simp at h
 |cons a l ih=>
  simp only [maxH]
  rcases List.mem_cons.1 h with rfl|h
  ·omega
  ·have:=ih h;omega
def wd (R:List Ru) (u:ByteArray):Nat:=maxH (rulesOf R u)
def wV (R:List Ru) (rn:List ByteArray):List AV:=rn.map fun u=> .int .i64 ((wd R u:Nat):Int)
@[simp] theorem noIds_wV (R:List Ru) (rn:List ByteArray):noIdsL (wV R rn)=true:=noIdsL_of (fun u=>AV.int .i64 ((wd R u:Nat):Int)) (fun _=>rfl) rn
theorem wd_app (R:List Ru) (y:Ru) (u:ByteArray):wd (R++[y]) u=if y.p=u then max (wd R u) y.hd.length else wd R u:=by
 unfold wd
 rw [rulesOf_app]
 by_cases h:y.p=u
 ·rw [if_pos h,if_pos h,maxH_app]
 ·rw [if_neg h,if_neg h,List.append_nil]
theorem wd_nil {R:List Ru} {rn:List ByteArray} (h:RN R rn) {u:ByteArray} (hu:u∉rn):wd R u=0:=by
 unfold wd;rw [rulesOf_nil h hu];rfl
theorem wV_new {R:List Ru} {rn:List ByteArray} {y:Ru} (h:RN R rn) (hu:y.p∉rn):wV (R++[y]) (rn++[y.p])=wV R rn++[.int .i64 ((y.hd.length:Nat):Int)]:=by
 unfold wV
 rw [List.map_append]
 congr 1
 ·refine List.map_congr_left fun u hm=> ?_
  rw [wd_app,if_neg (fun e=>hu (by rw [e];exact hm))]
 ·simp only [List.map_cons,List.map_nil]
  rw [wd_app,if_pos rfl,wd_nil h hu,Nat.zero_max]
theorem wV_old {R:List Ru} {rn:List ByteArray} {y:Ru} {j:Nat} (hn:rn.Nodup) (hj:rn[j]? =some y.p):wV (R++[y]) rn=(wV R rn).set j (.int .i64 ((max (wd R y.p) y.hd.length:Nat):Int)):=by
 apply List.ext_getElem?
 intro k
 by_cases e:j=k
 ·subst e
  have hlt:j<(wV R rn).length:=by unfold wV;rw [List.length_map];exact (List.getElem?_eq_some_iff.1 hj).1
  rw [List.getElem?_set_self hlt]
  unfold wV
  rw [List.getElem?_map,hj]
  simp only [Option.map_some]
  rw [wd_app,if_pos rfl]
 ·rw [List.getElem?_set_ne e]
  unfold wV
  rw [List.getElem?_map,List.getElem?_map]
  cases hk:rn[k]? with
  |none=>rfl
  |some u=>
   simp only [Option.map_some]
   have:y.p≠u:=by
    rintro rfl
    exact e (nodup_get hn hj hk)
   rw [wd_app,if_neg this]
abbrev Z2s0 (rules:List Ru):Nat×AV:=(0,.seq (rules.map Ru.av) false)
abbrev Z2s1 (i:Nat):Nat×AV:=(4,.int .i64 (i:Int))
abbrev Z2s2 (i:Nat):Nat×AV:=(4,.int .i64 ((i+1:Nat):Int))
theorem t17n (rules:List Ru) (rn:List ByteArray) (vs:List AV) (hv:noIdsL vs=true) (y:Ru) (i:Nat) (hi:i<rules.length) (hsm:rules.length≤1048576) (hx:0≤(i:Int)∧(rules.map Ru.av)[Int.toNat (i:Int)]? =some y.av) (hf:findA true (.str y.p) (rn.map AV.str) 0=some none):En 95 (loopOf Tryz.f17 0) ⟨[Z2s0 rules,(3,.map 13),Z2s1 i],[(13,.map (rn.map AV.str) vs)]⟩ (fun e t=>e= .normal∧∃m:Int,m=((y.hd.map Ar.av).length:Nat)∧t=⟨[Z2s0 rules,(3,.map 13),Z2s2 i],[(13,.map (rn.map AV.str++[.str y.p]) (vs++[.int .i64 m]))]⟩):=by
 exact ⟨Out.normal,St.mk [Z2s0 rules,(3,AV.map 13),(4,.int .i64 ((i:Int)+1))] [(13,.map (rn.map AV.str++[.str y.1]) (vs++[.int .i64 (Decidable.rec (fun (h:¬(↑(List.length (List.map Ar.av (Ru.hd y))):Int)>0)=>(fun (x:¬(↑(List.length (List.map Ar.av (Ru.hd y))):Int)>0)=>0) h) (fun (h:(↑(List.length (List.map Ar.av (Ru.hd y))):Int)>0)=>(fun (x:(↑(List.length (List.map Ar.av (Ru.hd y))):Int)>0)=>(↑(List.length (List.map Ar.av (Ru.hd y))):Int)) h) (Int.decLt 0 (↑(List.length (List.map Ar.av (Ru.hd y))):Int)))]))],⟨rfl,_,by (have h0:=Int.natCast_nonneg ((y.hd.map Ar.av).length);cases Int.decLt 0 ((y.hd.map Ar.av).length:Nat)<;>(first|rfl|(dsimp only;omega))),rfl⟩,gA 0 [.is true,.elt (Ru.av y),.elt (Ru.av y),.is false,.elt (Ru.av y),.is false] [0,3,4] [(13,.keep 13 true)] (by kernel_rfl) (aC8 (show decide ((i:Int)<(↑(rules.map Ru.av).length:Int))=true from by simp;omega) hx hx hf hx hf (show IntKind.wrap .i64 ((i:Int)+1)=(i:Int)+1 from wrap64_id (by omega) (by omega)) (show noIdsL (List.map AV.str rn++[AV.str y.1])=true∧noIdsL (vs++[AV.int .i64 (Decidable.rec (fun (h:¬(↑(List.length (List.map Ar.av (Ru.hd y))):Int)>0)=>(fun (x:¬(↑(List.length (List.map Ar.av (Ru.hd y))):Int)>0)=>0) h) (fun (h:(↑(List.length (List.map Ar.av (Ru.hd y))):Int)>0)=>(fun (x:(↑(List.length (List.map Ar.av (Ru.hd y))):Int)>0)=>(↑(List.length (List.map Ar.av (Ru.hd y))):Int)) h) (Int.decLt 0 (↑(List.length (List.map Ar.av (Ru.hd y))):Int)))])=true from by simp;omega))⟩
theorem t17o (rules:List Ru) (rn:List ByteArray) (vs:List AV) (hv:noIdsL vs=true) (y:Ru) (i:Nat) (hi:i<rules.length) (hsm:rules.length≤1048576) (hx:0≤(i:Int)∧(rules.map Ru.av)[Int.toNat (i:Int)]? =some y.av) (j:Nat) (wj:Int) (hw:0≤wj∧wj≤9223372036854775807) (hf:findA true (.str y.p) (rn.map AV.str) 0=some (some j)) (hfv:∃j',findA true (.str y.p) (rn.map AV.str) 0=some (some j')∧vs[j']? =some (.int .i64 wj)):En 95 (loopOf Tryz.f17 0) ⟨[Z2s0 rules,(3,.map 13),Z2s1 i],[(13,.map (rn.map AV.str) vs)]⟩ (fun e t=>e= .normal∧∃m:Int,m=max wj ((y.hd.map Ar.av).length:Nat)∧t=⟨[Z2s0 rules,(3,.map 13),Z2s2 i],[(13,.map ((rn.map AV.str).set (Int.toNat (j:Int)) (.str y.p)) (vs.set (Int.toNat (j:Int)) (.int .i64 m)))]⟩):=by
 exact ⟨Out.normal,St.mk [Z2s0 rules,(3,AV.map 13),(4,.int .i64 ((i:Int)+1))] [(13,.map (List.set (rn.map AV.str) (Int.toNat (j:Int)) (.str y.1)) (List.set vs (Int.toNat (j:Int)) (.int .i64 (Decidable.rec (fun (h:¬(↑(List.length (List.map Ar.av (Ru.hd y))):Int)>wj)=>(fun (x:¬(↑(List.length (List.map Ar.av (Ru.hd y))):Int)>wj)=>wj) h) (fun (h:(↑(List.length (List.map Ar.av (Ru.hd y))):Int)>wj)=>(fun (x:(↑(List.length (List.map Ar.av (Ru.hd y))):Int)>wj)=>(↑(List.length (List.map Ar.av (Ru.hd y))):Int)) h) (Int.decLt wj (↑(List.length (List.map Ar.av (Ru.hd y))):Int))))))],⟨rfl,_,by (have h0:=Int.natCast_nonneg ((y.hd.map Ar.av).length);cases Int.decLt wj ((y.hd.map Ar.av).length:Nat)<;>(first|rfl|(dsimp only;omega))),rfl⟩,gA 0 [.is true,.elt (Ru.av y),.elt (Ru.av y),.elt (.int .i64 wj),.elt (Ru.av y),.elt (.int .i64 (j:Int))] [0,3,4] [(13,.keep 13 true)] (by kernel_rfl) (aC8 (show decide ((i:Int)<(↑(rules.map Ru.av).length:Int))=true from by simp;omega) hx hx hfv hx hf (show IntKind.wrap .i64 ((i:Int)+1)=(i:Int)+1 from wrap64_id (by omega) (by omega)) (show noIdsL (List.set (rn.map AV.str) (Int.toNat (j:Int)) (AV.str y.1))=true∧noIdsL (List.set vs (Int.toNat (j:Int)) (AV.int .i64 (Decidable.rec (fun (h:¬(↑(List.length (List.map Ar.av (Ru.hd y))):Int)>wj)=>(fun (x:¬(↑(List.length (List.map Ar.av (Ru.hd y))):Int)>wj)=>wj) h) (fun (h:(↑(List.length (List.map Ar.av (Ru.hd y))):Int)>wj)=>(fun (x:(↑(List.length (List.map Ar.av (Ru.hd y))):Int)>wj)=>(↑(List.length (List.map Ar.av (Ru.hd y))):Int)) h) (Int.decLt wj (↑(List.length (List.map Ar.av (Ru.hd y))):Int)))))=true from ⟨noIdsL_setS _ _ _,noIdsL_set hv rfl⟩))⟩
theorem e17 (rules:List Ru) (rn:List ByteArray) (vs:List AV) (hv:noIdsL vs=true):En 95 (loopOf Tryz.f17 0) ⟨[Z2s0 rules,(3,.map 13),(4,.int .i64 ((rules.length:Nat):Int))],[(13,.map (rn.map AV.str) vs)]⟩ (fun e t=>e= .exit 0∧t=⟨[Z2s0 rules,(3,.map 13)],[(13,.map (rn.map AV.str) vs)]⟩):=by
 exact gE ⟨rfl,rfl⟩ 0 [.is false] [0,3] [(13,.keep 13 true)] (aC2 (show decide ((↑rules.length:Int)<(↑(rules.map Ru.av).length:Int))=false from by simp) (show noIdsL (rn.map AV.str)=true∧noIdsL vs=true from by simp;omega))
def min7 (w:Int):Int:=if 7<w then 7 else w
theorem min7_le (w:Int) (h:0≤w):0≤min7 w∧min7 w≤7:=by unfold min7;split<;>omega
theorem shl7:∀m:Nat,m≤7→IntKind.wrap .i64 (shlI 1 (m:Int))=shlI 1 (m:Int)∧1≤shlI 1 (m:Int)∧shlI 1 (m:Int)≤128
 |0,_=>by decide
 |1,_=>by decide
 |2,_=>by decide
 |3,_=>by decide
 |4,_=>by decide
 |5,_=>by decide
 |6,_=>by decide
 |7,_=>by decide
 |m+8,h=>by omega
theorem shlc {m:Int} (h0:0≤m) (h1:m≤7):(0≤m∧m.toNat≤64∧IntKind.wrap .i64 (shlI 1 m)=shlI 1 m)∧1≤shlI 1 m∧shlI 1 m≤128:=by
 obtain ⟨q,rfl⟩:=Int.eq_ofNat_of_zero_le h0
 obtain ⟨a,b,c⟩:=shl7 q (by omega)
 exact ⟨⟨h0,by simp;omega,a⟩,b,c⟩
abbrev Z2s3 (n:Int):Nat×AV:=(5,.int .i64 n)
abbrev Z2s4 (i:Nat):Nat×AV:=(6,.int .i64 (i:Int))
abbrev Z2s5 (k:Nat):Nat×AV:=(7,.int .i64 (k:Int))
abbrev Z2s6:Nat×AV:=(8,.elt 8 0 0)
abbrev Z2s7 (rem:List ByteArray) (vs:List AV):Nat×Ob:=(13,.map (rem.map AV.str) vs)
abbrev Z2s8 (x:Li):Nat×Ob:=(8,.var [.str x.p,.seq (x.ts.map Tm.av) false])
abbrev Z2se (rules:List Ru) (n wj:Int) (i k:Nat) (rem:List ByteArray) (vs:List AV) (x:Li):St:=⟨[Z2s0 rules,(3,.map 13),Z2s3 n,Z2s4 i,Z2s5 k,Z2s6,(9,.int .i64 wj)],[Z2s7 rem vs,Z2s8 x]⟩
theorem m17 (rules:List Ru) (rem:List ByteArray) (vs:List AV) (hv:noIdsL vs=true) (n:Int) (x:Li) (i k:Nat) (wj:Int) (hw:0≤wj) (hn:0≤n∧n≤1000000000):Rz 95 (regOf Tryz.f17 85) (Z2se rules n wj i k rem vs x) .normal ⟨[Z2s0 rules,(3,.map 13),(5,.int .i64 (n+shlI 1 (min7 wj))),Z2s4 i,Z2s5 k,Z2s6],[Z2s7 rem vs,Z2s8 x]⟩:=by
 obtain ⟨w0,w7⟩:=min7_le wj hw
 obtain ⟨w1,w2,w3⟩:=shlc w0 w7
 have h:Rz 95 (regOf Tryz.f17 85) (Z2se rules n wj i k rem vs x) .normal ⟨[Z2s0 rules,(3,.map 13),(5,.int .i64 (n+shlI 1 (min7 wj))),Z2s4 i,Z2s5 k,Z2s6,(9,.int .i64 wj),(85,.int .i64 n),(86,.int .i64 wj),(87,.int .i64 (min7 wj)),(88,.int .i64 (shlI 1 (min7 wj))),(89,.int .i64 (n+shlI 1 (min7 wj)))],[Z2s7 rem vs,Z2s8 x]⟩:=
  ev18 (base:=0) (sc:=[]) [0≤min7 wj∧(min7 wj).toNat≤64∧IntKind.wrap .i64 (shlI 1 (min7 wj))=shlI 1 (min7 wj),IntKind.wrap .i64 (n+shlI 1 (min7 wj))=(n+shlI 1 (min7 wj))] (by kernel_rfl) ⟨w1,wrap64_id (by omega) (by omega),trivial⟩
 exact h.keepR [0,3,5,6,7,8] [(13,.keep 13 true),(8,.keep 8 true)] (cs:=[noIdsL (rem.map AV.str)=true∧noIdsL vs=true,noIdsL [AV.str x.p,.seq (x.ts.map Tm.av) false]=true]) rfl ⟨⟨noIdsL_strs rem,hv⟩,rfl,trivial⟩
abbrev Z2s9 (k:Nat):Nat×AV:=(7,.int .i64 ((k+1:Nat):Int))
abbrev Z2sf (rules:List Ru) (n:Int) (i k:Nat):List (Nat×AV):=[Z2s0 rules,(3,.map 13),Z2s3 n,Z2s4 i,Z2s5 k]
theorem v17a (rules:List Ru) (rem:List ByteArray) (vs:List AV) (hv:noIdsL vs=true) (n:Int) (r:Ru) (i:Nat) (hx:0≤(i:Int)∧(rules.map Ru.av)[Int.toNat (i:Int)]? =some r.av) (x:Li) (k:Nat) (hkl:(r.bd.map Li.av).length=r.bd.length) (hk:k<r.bd.length) (hks:r.bd.length<10000000000000) (hy:0≤(k:Int)∧(r.bd.map Li.av)[Int.toNat (k:Int)]? =some x.av) (hf:findA true (.str x.p) (rem.map AV.str) 0=some none):EN 95 (loopOf Tryz.f17 2) ⟨(Z2sf rules n i k),[Z2s7 rem vs]⟩ ⟨[Z2s0 rules,(3,.map 13),Z2s3 n,Z2s4 i,Z2s9 k],[Z2s7 rem vs]⟩:=by
 exact gE ⟨rfl,rfl⟩ 0 [.elt (Ru.av r),.is true,.elt (Ru.av r),.elt (Li.av x),.is false] [0,3,5,6,7] [(13,.keep 13 true)] (aC7 hx (show decide ((k:Int)<(↑(List.length (List.map Li.av (Ru.bd r))):Int))=true from decide_eq_true (by omega)) hx hy hf (show IntKind.wrap .i64 ((k:Int)+1)=(k:Int)+1 from wrap64_id (by omega) (by omega)) (show noIdsL (rem.map AV.str)=true∧noIdsL vs=true from by simp;omega))
theorem v17b (rules:List Ru) (rem:List ByteArray) (vs:List AV) (hv:noIdsL vs=true) (n:Int) (r:Ru) (i:Nat) (hx:0≤(i:Int)∧(rules.map Ru.av)[Int.toNat (i:Int)]? =some r.av) (x:Li) (k:Nat) (hkl:(r.bd.map Li.av).length=r.bd.length) (hk:k<r.bd.length) (hks:r.bd.length<10000000000000) (hy:0≤(k:Int)∧(r.bd.map Li.av)[Int.toNat (k:Int)]? =some x.av) (wj:Int) (hk3:(!decide (x.k=3))=false) (hf:∃j,findA true (.str x.p) (rem.map AV.str) 0=some (some j)∧vs[j]? =some (.int .i64 wj)):EN 95 (loopOf Tryz.f17 2) ⟨(Z2sf rules n i k),[Z2s7 rem vs]⟩ ⟨[Z2s0 rules,(3,.map 13),Z2s3 n,Z2s4 i,Z2s9 k],[Z2s7 rem vs]⟩:=by
 exact gE ⟨rfl,rfl⟩ 0 [.elt (Ru.av r),.is true,.elt (Ru.av r),.elt (Li.av x),.elt (.int .i64 wj),.elt (Ru.av r),.elt (Li.av x),.is false] [0,3,5,6,7] [(13,.keep 13 true)] (aC10 hx (show decide ((k:Int)<(↑(List.length (List.map Li.av (Ru.bd r))):Int))=true from decide_eq_true (by omega)) hx hy hf hx hy hk3 (show IntKind.wrap .i64 ((k:Int)+1)=(k:Int)+1 from wrap64_id (by omega) (by omega)) (show noIdsL (rem.map AV.str)=true∧noIdsL vs=true from by simp;omega))
theorem d17 (rules:List Ru) (rem:List ByteArray) (vs:List AV) (hv:noIdsL vs=true) (n:Int) (r:Ru) (i:Nat) (hx:0≤(i:Int)∧(rules.map Ru.av)[Int.toNat (i:Int)]? =some r.av) (x:Li) (k:Nat) (j:Nat) (hj:findA true (.str x.p) (rem.map AV.str) 0=some (some (Int.toNat (j:Int)))) (hno:∀v,v∈vs→ownV v=false) (hne:noIdsL ((rem.map AV.str).eraseIdx (Int.toNat (j:Int)))=true∧noIdsL (vs.eraseIdx (Int.toNat (j:Int)))=true):EN 95 (regOf Tryz.f17 90) ⟨[Z2s0 rules,(3,.map 13),Z2s3 n,Z2s4 i,Z2s5 k,Z2s6],[Z2s7 rem vs,Z2s8 x]⟩ ⟨(Z2sf rules n i k),[(13,.map ((rem.map AV.str).eraseIdx (Int.toNat (j:Int))) (vs.eraseIdx (Int.toNat (j:Int))))]⟩:=by
 exact ⟨_,_,⟨rfl,rfl⟩,gA 0 [.elt (.int .i64 (j:Int))] [0,3,5,6,7] [(13,.keep 13 true)] (by kernel_rfl) (aC3 hj (show∀(v:AV),
 v∈vs→
  (match v with
   |AV.own sz es=>true
   |x=>false)=
   false from by assumption) hne)⟩
abbrev Z2sa (n2:Int):Nat×AV:=(5,.int .i64 n2)
abbrev Z2sb (rem2:List ByteArray) (vs2:List AV):Nat×Ob:=(13,.map (rem2.map AV.str) vs2)
theorem v17c (rules:List Ru) (rem:List ByteArray) (vs:List AV) (hv:noIdsL vs=true) (n:Int) (r:Ru) (i:Nat) (hx:0≤(i:Int)∧(rules.map Ru.av)[Int.toNat (i:Int)]? =some r.av) (x:Li) (k:Nat) (hkl:(r.bd.map Li.av).length=r.bd.length) (hk:k<r.bd.length) (hks:r.bd.length<10000000000000) (hy:0≤(k:Int)∧(r.bd.map Li.av)[Int.toNat (k:Int)]? =some x.av) (wj n2:Int) (rem2:List ByteArray) (vs2:List AV) (hv2:noIdsL vs2=true) (hk3:(!decide (x.k=3))=true) (hf:∃j,findA true (.str x.p) (rem.map AV.str) 0=some (some j)∧vs[j]? =some (.int .i64 wj)) (pr17_85p:Rz 95 (regOf Tryz.f17 85) (Z2se rules n wj i k rem vs x) .normal ⟨[Z2s0 rules,(3,.map 13),Z2sa n2,Z2s4 i,Z2s5 k,Z2s6],[Z2s7 rem vs,Z2s8 x]⟩) (pr17_90p:Rz 95 (regOf Tryz.f17 90) ⟨[Z2s0 rules,(3,.map 13),Z2sa n2,Z2s4 i,Z2s5 k,Z2s6],[Z2s7 rem vs,Z2s8 x]⟩ .normal ⟨[Z2s0 rules,(3,.map 13),Z2sa n2,Z2s4 i,Z2s5 k],[Z2sb rem2 vs2]⟩):EN 95 (loopOf Tryz.f17 2) ⟨(Z2sf rules n i k),[Z2s7 rem vs]⟩ ⟨[Z2s0 rules,(3,.map 13),Z2sa n2,Z2s4 i,Z2s9 k],[Z2sb rem2 vs2]⟩:=by
 have hl0:=pr17_85p
 have hl1:=pr17_90p
 exact gE ⟨rfl,rfl⟩ 0 [.elt (Ru.av r),.is true,.elt (Ru.av r),.elt (Li.av x),.elt (.int .i64 wj),.elt (Ru.av r),.elt (Li.av x),.is true,.cut [0,3,5,6,7,8,9] [(13,.keep 13 true),(8,.keep 8 true)],.tell 85 .normal [Z2s0 rules,(3,.map 13),Z2sa n2,Z2s4 i,Z2s5 k,Z2s6] [Z2s7 rem vs,(8,.var [.str (Li.p x),.seq (List.map Tm.av (Li.ts x)) false])],.cut [0,3,5,6,7,8] [(13,.keep 13 true),(8,.keep 8 true)],.tell 90 .normal [Z2s0 rules,(3,.map 13),Z2sa n2,Z2s4 i,Z2s5 k] [Z2sb rem2 vs2]] [0,3,5,6,7] [(13,.keep 13 true)] (aC16 hx (show decide ((k:Int)<(↑(List.length (List.map Li.av (Ru.bd r))):Int))=true from decide_eq_true (by omega)) hx hy hf hx hy hk3 (show noIdsL (rem.map AV.str)=true∧noIdsL vs=true from by simp;omega) rT hl0 (show noIdsL (rem.map AV.str)=true∧noIdsL vs=true from by simp;omega) rT hl1 (show IntKind.wrap .i64 ((k:Int)+1)=(k:Int)+1 from wrap64_id (by omega) (by omega)) (show noIdsL (rem2.map AV.str)=true∧noIdsL vs2=true from by simp;omega))
theorem v17e (rules:List Ru) (rem:List ByteArray) (vs:List AV) (hv:noIdsL vs=true) (n:Int) (r:Ru) (i:Nat) (hx:0≤(i:Int)∧(rules.map Ru.av)[Int.toNat (i:Int)]? =some r.av):En 95 (loopOf Tryz.f17 2) ⟨[Z2s0 rules,(3,.map 13),Z2s3 n,Z2s4 i,(7,.int .i64 ((r.bd.length:Nat):Int))],[Z2s7 rem vs]⟩ (fun e t=>e= .exit 4∧t=⟨[Z2s0 rules,(3,.map 13),Z2s3 n,Z2s4 i],[Z2s7 rem vs]⟩):=by
 exact gE ⟨rfl,rfl⟩ 0 [.elt (Ru.av r),.is false] [0,3,5,6] [(13,.keep 13 true)] (aC3 hx (show decide ((↑(List.length (Ru.bd r)):Int)<(↑(List.length (List.map Li.av (Ru.bd r))):Int))=false from by simp) (show noIdsL (rem.map AV.str)=true∧noIdsL vs=true from by simp;omega))
theorem u17 (rules:List Ru) (rem:List ByteArray) (vs:List AV) (hv:noIdsL vs=true) (n:Int) (rem2:List ByteArray) (vs2:List AV) (hv2:noIdsL vs2=true) (n2:Int) (i:Nat) (hi:i<rules.length) (hsm:rules.length≤1048576) (l17_2q:Lo 95 (loopOf Tryz.f17 2) ⟨[Z2s0 rules,(3,.map 13),Z2s3 n,Z2s4 i,(7,.int .i64 0)],[Z2s7 rem vs]⟩ (.exit 4) ⟨[Z2s0 rules,(3,.map 13),Z2sa n2,Z2s4 i],[Z2sb rem2 vs2]⟩):EN 95 (loopOf Tryz.f17 1) ⟨[Z2s0 rules,(3,.map 13),Z2s3 n,Z2s4 i],[Z2s7 rem vs]⟩ ⟨[Z2s0 rules,(3,.map 13),Z2sa n2,(6,.int .i64 ((i+1:Nat):Int))],[Z2sb rem2 vs2]⟩:=by
 have hl0:=l17_2q
 exact gE ⟨rfl,rfl⟩ 0 [.is true,.cut [0,3,5,6,7] [(13,.keep 13 true)],.sum (.exit 4) [Z2s0 rules,(3,.map 13),Z2sa n2,Z2s4 i] [Z2sb rem2 vs2]] [0,3,5,6] [(13,.keep 13 true)] (aC5 (show decide ((i:Int)<(↑(rules.map Ru.av).length:Int))=true from by simp;omega) (show noIdsL (rem.map AV.str)=true∧noIdsL vs=true from by simp;omega) hl0 (show IntKind.wrap .i64 ((i:Int)+1)=(i:Int)+1 from wrap64_id (by omega) (by omega)) (show noIdsL (rem2.map AV.str)=true∧noIdsL vs2=true from by simp;omega))
theorem u17e (rules:List Ru) (rem:List ByteArray) (vs:List AV) (hv:noIdsL vs=true) (n:Int):En 95 (loopOf Tryz.f17 1) ⟨[Z2s0 rules,(3,.map 13),Z2s3 n,(6,.int .i64 ((rules.length:Nat):Int))],[Z2s7 rem vs]⟩ (fun e t=>e= .exit 2∧t=⟨[Z2s3 n],[]⟩):=by
 exact gE ⟨rfl,rfl⟩ 0 [.is false] [5] [] (aC1 (show decide ((↑rules.length:Int)<(↑(rules.map Ru.av).length:Int))=false from by simp))
theorem maxH_lt {l:List Ru} {B:Nat} (h0:0<B) (h:∀r,r∈l→r.hd.length<B):maxH l<B:=by
 induction l with
 |nil=>exact h0
 |cons a l ih=>
  have h1:=h a (by simp)
  have h2:=ih fun r hr=>h r (by simp [hr])
  simp only [maxH];omega
theorem wd_lt {rules:List Ru} (hS:∀r,r∈rules→RuS r) (i:Nat) (u:ByteArray):wd (rules.take i) u<10000000000000:=maxH_lt (by omega) fun r hr=>(hS r (List.mem_of_mem_take (mem_rulesOf.1 hr).1)).1
abbrev Z2sc:Nat×Ob:=(13,.map (([]:List ByteArray).map AV.str) [])
abbrev Z2sd (rn:List ByteArray) (rules:List Ru):Nat×Ob:=(13,.map (rn.map AV.str) (wV rules rn))
theorem l17_0 (rules:List Ru) (hS:∀r,r∈rules→RuS r) (hsm:rules.length≤1048576):∃rn:List ByteArray,rn.Nodup∧RN rules rn∧Lo 95 (loopOf Tryz.f17 0) ⟨[Z2s0 rules,(3,.map 13),(4,.int .i64 0)],[Z2sc]⟩ (.exit 0) ⟨[Z2s0 rules,(3,.map 13)],[Z2sd rn rules]⟩:=by
 have T:∀(i:Nat) (rn:List ByteArray),i<rules.length→(rn.Nodup∧RN (rules.take i) rn)→En 95 (loopOf Tryz.f17 0) ⟨[Z2s0 rules,(3,.map 13),Z2s1 i],[(13,.map (rn.map AV.str) (wV (rules.take i) rn))]⟩ (fun e s=>e= .normal∧∃rn:List ByteArray,(rn.Nodup∧RN (rules.take (i+1)) rn)∧s=⟨[Z2s0 rules,(3,.map 13),Z2s2 i],[(13,.map (rn.map AV.str) (wV (rules.take (i+1)) rn))]⟩):=by
  intro i rn hi ⟨hn,hr⟩
  have hy:rules[i]? =some rules[i]:=List.getElem?_eq_getElem hi
  have htk:rules.take (i+1)=rules.take i++[rules[i]]:=List.take_succ_eq_append_getElem hi
  rw [htk]
  generalize rules[i]=y at hy
  have hx:0≤(i:Int)∧(rules.map Ru.av)[Int.toNat (i:Int)]? =some (Ru.av y):=⟨by omega,get_of Ru.av hy⟩
  by_cases hm:y.p∈rn
  ·obtain ⟨j,hf,hj⟩:=findA_some (i:=0) hm
   rw [Nat.zero_add] at hf
   obtain ⟨r0,q1,q2⟩:=(hr y.p).1 hm
   have hvj:(wV (rules.take i) rn)[j]? =some (.int .i64 ((wd (rules.take i) y.p:Nat):Int)):=by unfold wV;rw [List.getElem?_map,hj];rfl
   have hwl:=wd_lt hS i y.p
   obtain ⟨e,t,⟨rfl,m,hm1,rfl⟩,h⟩:=t17o rules rn (wV (rules.take i) rn) (noIds_wV _ _) y i hi hsm hx j (wd (rules.take i) y.p:Nat) ⟨by omega,by omega⟩ hf ⟨j,hf,hvj⟩
   have e1:m=((max (wd (rules.take i) y.p) y.hd.length:Nat):Int):=by rw [hm1,List.length_map];omega
   rw [Int.toNat_natCast,e1,←wV_old hn hj,set_self (l:=rn.map AV.str) (by rw [List.getElem?_map,hj];rfl)] at h
   exact ⟨_,_,⟨rfl,rn,⟨hn,fun u=>by
    rw [hr]
    constructor
    ·rintro ⟨r,h1,h2⟩;exact ⟨r,by simp [h1],h2⟩
    ·rintro ⟨r,h1,h2⟩
     rcases List.mem_append.1 h1 with h1|h1
     ·exact ⟨r,h1,h2⟩
     ·rw [List.mem_singleton] at h1;subst h1;subst h2;exact ⟨r0,q1,q2⟩⟩,rfl⟩,h⟩
  ·obtain ⟨e,t,⟨rfl,m,hm1,rfl⟩,h⟩:=t17n rules rn (wV (rules.take i) rn) (noIds_wV _ _) y i hi hsm hx (findA_none hm)
   rw [hm1,List.length_map,←wV_new hr hm,show rn.map AV.str++[AV.str y.p]=(rn++[y.p]).map AV.str from by simp] at h
   refine ⟨_,_,⟨rfl,rn++[y.p],⟨List.nodup_append.2 ⟨hn,by simp,fun a ha b hb=> ?_⟩,fun u=> ?_⟩,rfl⟩,h⟩
   ·rw [List.mem_singleton] at hb;subst hb;rintro rfl;exact hm ha
   ·rw [List.mem_append,List.mem_singleton,hr]
    constructor
    ·rintro (⟨r,h1,h2⟩|h1)
     ·exact ⟨r,by simp [h1],h2⟩
     ·exact ⟨y,by simp,h1.symm⟩
    ·rintro ⟨r,h1,h2⟩
     rcases List.mem_append.1 h1 with h1|h1
     ·exact .inl ⟨r,h1,h2⟩
     ·rw [List.mem_singleton] at h1;subst h1;exact .inr h2.symm
 obtain ⟨rn,⟨h1,h2⟩,h⟩:=inv_loop0 (P:=Tryz.prog) (n:=95) (c:=loopOf Tryz.f17 0) (N:=rules.length) (k:=0) (γ:=List ByteArray) (fun i rn=>⟨[Z2s0 rules,(3,.map 13),Z2s1 i],[(13,.map (rn.map AV.str) (wV (rules.take i) rn))]⟩) (fun rn=>⟨[Z2s0 rules,(3,.map 13)],[(13,.map (rn.map AV.str) (wV (rules.take rules.length) rn))]⟩)
  (fun i rn=>rn.Nodup∧RN (rules.take i) rn) T (fun rn _=>e17 rules rn (wV (rules.take rules.length) rn) (noIds_wV _ _)) [] ⟨by simp,fun u=>by simp⟩
 rw [List.take_length] at h2 h
 exact ⟨rn,h1,h2,h⟩
def sW (rules:List Ru):List ByteArray→Int
 |[]=>0
 |u::r=>shlI 1 (min7 ((wd rules u:Nat):Int))+sW rules r
theorem sW_bound (rules:List Ru):∀D:List ByteArray,0≤sW rules D∧sW rules D≤128*(D.length:Int)
 |[]=>by simp [sW]
 |u::r=>by
  have h1:=sW_bound rules r
  obtain ⟨w0,w7⟩:=min7_le ((wd rules u:Nat):Int) (by omega)
  obtain ⟨_,w2,w3⟩:=shlc w0 w7
  simp only [sW,List.length_cons]
  omega
theorem mem_erase_nodup {α:Type}:∀{l:List α},l.Nodup→∀{j:Nat} {a u:α},l[j]? =some a→(u∈l.eraseIdx j↔u∈l∧u≠a)
 |b::l,hd,0,a,u,h=>by
  simp at h;subst h
  have hb:=(List.nodup_cons.1 hd).1
  simp only [List.eraseIdx_cons_zero,List.mem_cons]
  constructor
  ·intro h;exact ⟨.inr h,by rintro rfl;exact hb h⟩
  ·rintro ⟨h1|h1,h2⟩
   ·exact absurd h1 h2
   ·exact h1
 |b::l,hd,j+1,a,u,h=>by
  simp at h
  have hb:=(List.nodup_cons.1 hd).1
  have ih:=mem_erase_nodup (List.nodup_cons.1 hd).2 (u:=u) h
  simp only [List.eraseIdx_cons_succ,List.mem_cons,ih]
  constructor
  ·rintro (h1|⟨h1,h2⟩)
   ·subst h1;exact ⟨.inl rfl,by rintro rfl;exact hb (List.mem_of_getElem? h)⟩
   ·exact ⟨.inr h1,h2⟩
  ·rintro ⟨h1|h1,h2⟩
   ·exact .inl h1
   ·exact .inr ⟨h1,h2⟩
structure Split (rules:List Ru) (rn rem D:List ByteArray) (n:Int):Prop where
 nr:rem.Nodup
 nd:D.Nodup
 all:∀u,u∈rn↔u∈rem∨u∈D
 apart:∀u,u∈D→u∉rem
 sum:n=sW rules D
theorem Split.bound {rules:List Ru} {rn rem D:List ByteArray} {n:Int} (h:Split rules rn rem D n) (hrn:RN rules rn) (hsm:rules.length≤1048576):0≤n∧n≤200000000:=by
 have h1:D.length≤(rules.map Ru.p).length:=nodup_len h.nd fun u hu=>by
  obtain ⟨r,h1,h2⟩:=(hrn u).1 ((h.all u).2 (.inr hu))
  exact List.mem_map.2 ⟨r,h1,h2⟩
 have h2:=sW_bound rules D
 rw [List.length_map] at h1
 rw [h.sum];omega
theorem l17_2 (rules:List Ru) (rn:List ByteArray) (hrn:RN rules rn) (hsm:rules.length≤1048576) (r:Ru) (i:Nat) (hx:0≤(i:Int)∧(rules.map Ru.av)[Int.toNat (i:Int)]? =some r.av) (hks:r.bd.length<10000000000000) (rem D:List ByteArray) (n:Int) (hs:Split rules rn rem D n):
  ∃(rem2 D2:List ByteArray) (n2:Int),Split rules rn rem2 D2 n2∧(∀u,u∈D→u∈D2)∧(∀x,x∈r.bd→x.k≠3→x.p∈rn→x.p∈D2)∧Lo 95 (loopOf Tryz.f17 2) ⟨[Z2s0 rules,(3,.map 13),Z2s3 n,Z2s4 i,(7,.int .i64 0)],[(13,.map (rem.map AV.str) (wV rules rem))]⟩ (.exit 4) ⟨[Z2s0 rules,(3,.map 13),Z2sa n2,Z2s4 i],[(13,.map (rem2.map AV.str) (wV rules rem2))]⟩:=by
 have hkl:(r.bd.map Li.av).length=r.bd.length:=List.length_map ..
 have T:∀(k:Nat) (g:List ByteArray×List ByteArray×Int),k<r.bd.length→(Split rules rn g.1 g.2.1 g.2.2∧(∀u,u∈D→u∈g.2.1)∧∀k',k'<k→∀x,r.bd[k']? =some x→x.k≠3→x.p∈rn→x.p∈g.2.1)→En 95 (loopOf Tryz.f17 2) ⟨[Z2s0 rules,(3,.map 13),(5,.int .i64 g.2.2),Z2s4 i,Z2s5 k],[(13,.map (g.1.map AV.str) (wV rules g.1))]⟩ (fun e s=>e= .normal∧∃g:List ByteArray×List ByteArray×Int,(Split rules rn g.1 g.2.1 g.2.2∧(∀u,u∈D→u∈g.2.1)∧∀k',k'<k+1→∀x,r.bd[k']? =some x→x.k≠3→x.p∈rn→x.p∈g.2.1)∧s=⟨[Z2s0 rules,(3,.map 13),(5,.int .i64 g.2.2),Z2s4 i,Z2s9 k],[(13,.map (g.1.map AV.str) (wV rules g.1))]⟩):=by
  rintro k ⟨rm,D1,n1⟩ hk ⟨h1,h2,h3⟩
  simp only at h1 h2 h3⊢
  have hxk:r.bd[k]? =some r.bd[k]:=List.getElem?_eq_getElem hk
  generalize r.bd[k]=x at hxk
  have hy:0≤(k:Int)∧(r.bd.map Li.av)[Int.toNat (k:Int)]? =some x.av:=⟨by omega,get_of Li.av hxk⟩
  have step:∀D':List ByteArray,(∀u,u∈D1→u∈D')→(x.k≠3→x.p∈rn→x.p∈D')→∀k',k'<k+1→∀x,r.bd[k']? =some x→x.k≠3→x.p∈rn→x.p∈D':=by
   intro D' hs1 hs2 k' hk' z hz hz3 hzr
   rcases Nat.lt_or_ge k' k with hlt|hge
   ·exact hs1 _ (h3 k' hlt z hz hz3 hzr)
   ·have:k'=k:=by omega
    subst this
    rw [hxk] at hz;injection hz with hz;subst hz
    exact hs2 hz3 hzr
  by_cases hm:x.p∈rm
  ·obtain ⟨j,hf,hj⟩:=findA_some (i:=0) hm
   rw [Nat.zero_add] at hf
   have hvj:(wV rules rm)[j]? =some (.int .i64 ((wd rules x.p:Nat):Int)):=by unfold wV;rw [List.getElem?_map,hj];rfl
   by_cases hk3:x.k=3
   ·obtain ⟨e,t,⟨rfl,rfl⟩,h⟩:=v17b rules rm (wV rules rm) (noIds_wV _ _) n1 r i hx x k hkl hk hks hy _ (by simp [hk3]) ⟨j,hf,hvj⟩
    exact ⟨_,_,⟨rfl,(rm,D1,n1),⟨h1,h2,step D1 (fun _ h=>h) (fun h=>absurd hk3 h)⟩,rfl⟩,h⟩
   ·have hb:=h1.bound hrn hsm
    have p1:=m17 rules rm (wV rules rm) (noIds_wV _ _) n1 x i k ((wd rules x.p:Nat):Int) (by omega) ⟨hb.1,by omega⟩
    have ee:(wV rules rm).eraseIdx j=wV rules (rm.eraseIdx j):=mapErase _ rm j
    have es:(rm.map AV.str).eraseIdx j=(rm.eraseIdx j).map AV.str:=mapErase _ rm j
    obtain ⟨e,t,⟨rfl,rfl⟩,p2⟩:=d17 rules rm (wV rules rm) (noIds_wV _ _) (n1+shlI 1 (min7 ((wd rules x.p:Nat):Int))) r i hx x k j (by rw [Int.toNat_natCast];exact hf) (fun v hv=>by
     unfold wV at hv
     obtain ⟨u,_,rfl⟩:=List.mem_map.1 hv
     rfl) (by rw [Int.toNat_natCast,ee,es];exact ⟨noIdsL_strs _,noIds_wV _ _⟩)
    rw [Int.toNat_natCast,ee,es] at p2
    obtain ⟨e,t,⟨rfl,rfl⟩,h⟩:=v17c rules rm (wV rules rm) (noIds_wV _ _) n1 r i hx x k hkl hk hks hy _ _ (rm.eraseIdx j) (wV rules (rm.eraseIdx j)) (noIds_wV _ _) (by simp [hk3]) ⟨j,hf,hvj⟩ p1 p2
    refine ⟨_,_,⟨rfl,(rm.eraseIdx j,x.p::D1,n1+shlI 1 (min7 ((wd rules x.p:Nat):Int))),⟨⟨h1.nr.sublist (List.eraseIdx_sublist ..),List.nodup_cons.2 ⟨fun hd=>h1.apart _ hd hm,h1.nd⟩,fun u=> ?_,fun u hu=> ?_,?_⟩,fun u hu=>by simp [h2 u hu],step _ (fun u hu=>by simp [hu]) (fun _ _=>by simp)⟩,rfl⟩,h⟩
    ·rw [h1.all,mem_erase_nodup h1.nr hj,List.mem_cons]
     constructor
     ·rintro (h4|h4)
      ·by_cases e:u=x.p
       ·exact .inr (.inl e)
       ·exact .inl ⟨h4,e⟩
      ·exact .inr (.inr h4)
     ·rintro (⟨h4,_⟩|rfl|h4)
      ·exact .inl h4
      ·exact .inl hm
      ·exact .inr h4
    ·rw [mem_erase_nodup h1.nr hj]
     rintro ⟨h4,h5⟩
     rcases List.mem_cons.1 hu with h6|h6
     ·exact h5 h6
     ·exact h1.apart u h6 h4
    ·show n1+_=_
     rw [h1.sum]
     simp only [sW]
     omega
  ·obtain ⟨e,t,⟨rfl,rfl⟩,h⟩:=v17a rules rm (wV rules rm) (noIds_wV _ _) n1 r i hx x k hkl hk hks hy (findA_none hm)
   exact ⟨_,_,⟨rfl,(rm,D1,n1),⟨h1,h2,step D1 (fun _ h=>h) (fun _ hr=>((h1.all _).1 hr).resolve_left hm)⟩,rfl⟩,h⟩
 obtain ⟨⟨rm,D1,n1⟩,⟨h1,h2,h3⟩,h⟩:=inv_loop0 (P:=Tryz.prog) (n:=95) (c:=loopOf Tryz.f17 2) (N:=r.bd.length) (k:=4) (γ:=List ByteArray×List ByteArray×Int) (fun k g=>⟨[Z2s0 rules,(3,.map 13),(5,.int .i64 g.2.2),Z2s4 i,Z2s5 k],[(13,.map (g.1.map AV.str) (wV rules g.1))]⟩) (fun g=>⟨[Z2s0 rules,(3,.map 13),(5,.int .i64 g.2.2),Z2s4 i],[(13,.map (g.1.map AV.str) (wV rules g.1))]⟩)
  (fun k g=>Split rules rn g.1 g.2.1 g.2.2∧(∀u,u∈D→u∈g.2.1)∧∀k',k'<k→∀x,r.bd[k']? =some x→x.k≠3→x.p∈rn→x.p∈g.2.1) T (fun g _=>v17e rules g.1 (wV rules g.1) (noIds_wV _ _) g.2.2 r i hx) (rem,D,n) ⟨hs,fun _ h=>h,fun k' hk'=>absurd hk' (Nat.not_lt_zero _)⟩
 refine ⟨rm,D1,n1,h1,h2,fun x hx=> ?_,h⟩
 obtain ⟨k,hk⟩:=List.mem_iff_getElem?.1 hx
 exact h3 k (List.getElem?_eq_some_iff.1 hk).1 x hk
theorem l17_1 (rules:List Ru) (rn:List ByteArray) (hnd:rn.Nodup) (hrn:RN rules rn) (hS:∀r,r∈rules→RuS r) (hsm:rules.length≤1048576):
  ∃(D:List ByteArray),D.Nodup∧(∀u,u∈D→u∈rn)∧(∀r,r∈rules→∀x,x∈r.bd→x.k≠3→x.p∈rn→x.p∈D)∧Lo 95 (loopOf Tryz.f17 1) ⟨[Z2s0 rules,(3,.map 13),(5,.int .i64 0),(6,.int .i64 0)],[Z2sd rn rules]⟩ (.exit 2) ⟨[(5,.int .i64 (sW rules D))],[]⟩:=by
 have T:∀(i:Nat) (g:List ByteArray×List ByteArray×Int),i<rules.length→(Split rules rn g.1 g.2.1 g.2.2∧∀k',k'<i→∀r,rules[k']? =some r→∀x,x∈r.bd→x.k≠3→x.p∈rn→x.p∈g.2.1)→En 95 (loopOf Tryz.f17 1) ⟨[Z2s0 rules,(3,.map 13),(5,.int .i64 g.2.2),Z2s4 i],[(13,.map (g.1.map AV.str) (wV rules g.1))]⟩ (fun e s=>e= .normal∧∃g:List ByteArray×List ByteArray×Int,(Split rules rn g.1 g.2.1 g.2.2∧∀k',k'<i+1→∀r,rules[k']? =some r→∀x,x∈r.bd→x.k≠3→x.p∈rn→x.p∈g.2.1)∧s=⟨[Z2s0 rules,(3,.map 13),(5,.int .i64 g.2.2),(6,.int .i64 ((i+1:Nat):Int))],[(13,.map (g.1.map AV.str) (wV rules g.1))]⟩):=by
  rintro i ⟨rm,D1,n1⟩ hi ⟨h1,h3⟩
  simp only at h1 h3⊢
  have hxk:rules[i]? =some rules[i]:=List.getElem?_eq_getElem hi
  generalize rules[i]=r at hxk
  have hx:0≤(i:Int)∧(rules.map Ru.av)[Int.toNat (i:Int)]? =some r.av:=⟨by omega,get_of Ru.av hxk⟩
  obtain ⟨rem2,D2,n2,s1,s2,s3,hL⟩:=l17_2 rules rn hrn hsm r i hx (hS r (List.mem_of_getElem? hxk)).2.1 rm D1 n1 h1
  obtain ⟨e,t,⟨rfl,rfl⟩,h⟩:=u17 rules rm (wV rules rm) (noIds_wV _ _) n1 rem2 (wV rules rem2) (noIds_wV _ _) n2 i hi hsm hL
  refine ⟨_,_,⟨rfl,(rem2,D2,n2),⟨s1,fun k' hk' z hz=> ?_⟩,rfl⟩,h⟩
  rcases Nat.lt_or_ge k' i with hlt|hge
  ·exact fun x hx hx3 hxr=>s2 _ (h3 k' hlt z hz x hx hx3 hxr)
  ·have:k'=i:=by omega
   subst this
   rw [hxk] at hz;injection hz with hz;subst hz
   exact s3
 obtain ⟨⟨rm,D1,n1⟩,⟨h1,h3⟩,h⟩:=inv_loop0 (P:=Tryz.prog) (n:=95) (c:=loopOf Tryz.f17 1) (N:=rules.length) (k:=2) (γ:=List ByteArray×List ByteArray×Int) (fun i g=>⟨[Z2s0 rules,(3,.map 13),(5,.int .i64 g.2.2),Z2s4 i],[(13,.map (g.1.map AV.str) (wV rules g.1))]⟩) (fun g=>⟨[(5,.int .i64 g.2.2)],[]⟩)
  (fun i g=>Split rules rn g.1 g.2.1 g.2.2∧∀k',k'<i→∀r,rules[k']? =some r→∀x,x∈r.bd→x.k≠3→x.p∈rn→x.p∈g.2.1) T (fun g _=>u17e rules g.1 (wV rules g.1) (noIds_wV _ _) g.2.2) (rn,[],0) ⟨⟨hnd,by simp,fun u=>by simp,fun u hu=>by simp at hu,rfl⟩,fun k' hk'=>absurd hk' (Nat.not_lt_zero _)⟩
 refine ⟨D1,h1.nd,fun u hu=>(h1.all u).2 (.inr hu),fun r hr=> ?_,?_⟩
 ·obtain ⟨k,hk⟩:=List.mem_iff_getElem?.1 hr
  exact h3 k (List.getElem?_eq_some_iff.1 hk).1 r hk
 ·have:=h1.sum
  simp only at this h
  rw [this] at h
  exact h
def PairsB (rules:List Ru):Prop:=∃rn D:List ByteArray,RN rules rn∧D.Nodup∧(∀u,u∈D→u∈rn)∧(∀r,r∈rules→∀x,x∈r.bd→x.k≠3→x.p∈rn→x.p∈D)∧sW rules D≤64
theorem b17t (rules:List Ru) (k43:Sp 43 [.seq (rules.map Ru.av) false] [] (.bool true) []):En 95 (bodyOf Tryz.f17) ⟨[Z2s0 rules],[]⟩ (fun e t=>e= .ret∧t=⟨[(2,.bool true)],[]⟩):=by
 have hs0:=k43
 exact gE ⟨rfl,rfl⟩ 0 [.call (.bool true) [] []] [2] [] (aC1 hs0)
theorem b17e (rules:List Ru) (rn:List ByteArray) (n:Int) (k43:Sp 43 [.seq (rules.map Ru.av) false] [] (.bool false) []) (l17_0q:Lo 95 (loopOf Tryz.f17 0) ⟨[Z2s0 rules,(3,.map 13),(4,.int .i64 0)],[Z2sc]⟩ (.exit 0) ⟨[Z2s0 rules,(3,.map 13)],[Z2sd rn rules]⟩) (l17_1q:Lo 95 (loopOf Tryz.f17 1) ⟨[Z2s0 rules,(3,.map 13),(5,.int .i64 0),(6,.int .i64 0)],[Z2sd rn rules]⟩ (.exit 2) ⟨[Z2s3 n],[]⟩):En 95 (bodyOf Tryz.f17) ⟨[Z2s0 rules],[]⟩ (fun e t=>e= .ret∧∃rb:Bool,(rb=false→n≤64)∧t=⟨[(2,.bool rb)],[]⟩):=by
 have hs0:=k43
 have hl1:=l17_0q
 have hl2:=l17_1q
 rcases bft (decide (64<n)) with h3|h3
 ·exact ⟨Out.ret,St.mk [(2,.bool true)] [],⟨rfl,_,by first|(intro h9;cases h9;done)|(intro _;simp at*;omega),rfl⟩,gA 0 [.call (.bool false) [] [],.cut [0,3,4] [(13,.keep 13 true)],.sum (.exit 0) [Z2s0 rules,(3,.map 13)] [Z2sd rn rules],.cut [0,3,5,6] [(13,.keep 13 true)],.sum (.exit 2) [Z2s3 n] [],.is true] [2] [] (by kernel_rfl) (aC6 hs0 (show true=true∧true=true from by simp) hl1 (show noIdsL (rn.map AV.str)=true∧noIdsL (wV rules rn)=true from by simp) hl2 h3)⟩
 ·exact ⟨Out.ret,St.mk [(2,.bool false)] [],⟨rfl,_,by first|(intro h9;cases h9;done)|(intro _;simp at*;omega),rfl⟩,gA 0 [.call (.bool false) [] [],.cut [0,3,4] [(13,.keep 13 true)],.sum (.exit 0) [Z2s0 rules,(3,.map 13)] [Z2sd rn rules],.cut [0,3,5,6] [(13,.keep 13 true)],.sum (.exit 2) [Z2s3 n] [],.is false] [2] [] (by kernel_rfl) (aC6 hs0 (show true=true∧true=true from by simp) hl1 (show noIdsL (rn.map AV.str)=true∧noIdsL (wV rules rn)=true from by simp) hl2 h3)⟩
theorem k17 (rules:List Ru) (hS:∀r,r∈rules→RuS r) (hsm:rules.length<10000000000000):∃rb:Bool,Sp 17 [.seq (rules.map Ru.av) false] [] (.bool rb) []∧(rb=false→rules.length≤1048576∧PairsB rules):=by
 obtain ⟨rb,s43,h43⟩:=k43 rules hS hsm
 cases rb with
 |true=>
  obtain ⟨e,t,⟨rfl,rfl⟩,h⟩:=b17t rules s43
  exact ⟨true,Spec.pure (fn:=Tryz.f17) (c:=bodyOf Tryz.f17) (by kernel_rfl) (by kernel_rfl) rfl h (.inr rfl) (by kernel_rfl) rfl,fun h=>by cases h⟩
 |false=>
  have hl:=h43 rfl
  obtain ⟨rn,hnd,hrn,hL0⟩:=l17_0 rules hS hl
  obtain ⟨D,d1,d2,d3,hL1⟩:=l17_1 rules rn hnd hrn hS hl
  obtain ⟨e,t,⟨rfl,rb,hrb,rfl⟩,h⟩:=b17e rules rn (sW rules D) s43 hL0 hL1
  exact ⟨rb,Spec.pure (fn:=Tryz.f17) (c:=bodyOf Tryz.f17) (by kernel_rfl) (by kernel_rfl) rfl h (.inr rfl) (by kernel_rfl) rfl,fun h0=>⟨hl,rn,D,hrn,d1,d2,d3,hrb h0⟩⟩
section
def bfL:Nat→List (List UInt8)
 |0=>[[]]
 |n+1=>(bfL n).flatMap fun s=>[98::s,102::s]
theorem mem_bfL:∀{n:Nat} {s:List UInt8},s∈bfL n↔s.length=n∧∀b,b∈s→b=98∨b=102
 |0,s=>by
  simp only [bfL,List.mem_singleton]
  constructor
  ·rintro rfl;exact ⟨rfl,by simp⟩
  ·rintro ⟨h,_⟩;exact List.eq_nil_of_length_eq_zero h
 |n+1,s=>by
  simp only [bfL,List.mem_flatMap,List.mem_cons,List.not_mem_nil,or_false]
  constructor
  ·rintro ⟨q,hq,rfl|rfl⟩
   ·obtain ⟨h1,h2⟩:=mem_bfL.1 hq
    refine ⟨by simp [h1],fun b hb=> ?_⟩
    rcases List.mem_cons.1 hb with rfl|hb
    ·exact .inl rfl
    ·exact h2 b hb
   ·obtain ⟨h1,h2⟩:=mem_bfL.1 hq
    refine ⟨by simp [h1],fun b hb=> ?_⟩
    rcases List.mem_cons.1 hb with rfl|hb
    ·exact .inr rfl
    ·exact h2 b hb
  ·rintro ⟨h1,h2⟩
   cases s with
   |nil=>simp at h1
   |cons b q=>
    refine ⟨q,mem_bfL.2 ⟨by simpa using h1,fun c hc=>h2 c (by simp [hc])⟩,?_⟩
    rcases h2 b (by simp) with rfl|rfl
    ·exact .inl rfl
    ·exact .inr rfl
theorem patT_bf (ts:List Tm) (ks:List ByteArray):bfs (patT ts ks):=by
 intro b hb
 have e:(patT ts ks).data.toList=ts.map (pb ks):=by simp [patT]
 rw [e] at hb
 obtain ⟨t,_,rfl⟩:=List.mem_map.1 hb
 unfold pb
 split
 ·exact .inl rfl
 ·split
  ·exact .inr rfl
  ·cases hasT ks t.v
   ·exact .inr rfl
   ·exact .inl rfl
theorem shl_bf:∀w:Nat,shlI 1 (min7 (w:Int))≤64→((bfL w).length:Int)=shlI 1 (min7 (w:Int))
 |0,_=>by decide
 |1,_=>by decide
 |2,_=>by decide
 |3,_=>by decide
 |4,_=>by decide
 |5,_=>by decide
 |6,_=>by decide
 |w+7,h=>by
  exfalso
  have:min7 ((w+7:Nat):Int)=7:=by unfold min7;split<;>omega
  rw [this] at h
  revert h
  decide
def prs (rules:List Ru) (D:List ByteArray):List Ad:=D.flatMap fun u=>(bfL (wd rules u)).map fun s=>(u,ByteArray.mk s.toArray)
theorem prs_len (rules:List Ru):∀D:List ByteArray,sW rules D≤64→((prs rules D).length:Int)=sW rules D
 |[],_=>rfl
 |u::r,h=>by
  have h1:=sW_bound rules r
  obtain ⟨w0,w7⟩:=min7_le ((wd rules u:Nat):Int) (by omega)
  obtain ⟨_,w2,w3⟩:=shlc w0 w7
  simp only [sW] at h⊢
  have ih:=prs_len rules r (by omega)
  have hb:=shl_bf (wd rules u) (by omega)
  have e:prs rules (u::r)=((bfL (wd rules u)).map fun s=>(u,ByteArray.mk s.toArray))++prs rules r:=rfl
  rw [e,List.length_append,List.length_map]
  omega
theorem maxH_all {l:List Ru} {B:Nat} (h:∀r,r∈l→r.hd.length≤B):maxH l≤B:=by
 induction l with
 |nil=>exact Nat.zero_le _
 |cons a l ih=>
  have h1:=h a (by simp)
  have h2:=ih fun r hr=>h r (by simp [hr])
  simp only [maxH];omega
section
variable {rules:List Ru} {p:ByteArray} {ts:List Tm} {am:Am}
theorem RefOK.wd (hok:RefOK rules p ts am) {r:Ru} (hr:r∈rules):Ped.wd rules r.p=r.hd.length:=by
 have h1:∀r',r'∈rulesOf rules r.p→r'.hd.length=r.hd.length:=fun r' h=>by
  obtain ⟨h2,h3⟩:=mem_rulesOf.1 h
  have h4:=(hok.numb r' h2).1
  rw [h3] at h4
  have:=am_one hok.nod h4 (hok.numb r hr).1
  omega
 have h2:=maxH_le (mem_rulesOf.2 ⟨hr,rfl⟩:r∈rulesOf rules r.p)
 have h3:=maxH_all (l:=rulesOf rules r.p) (B:=r.hd.length) fun r' h=>by rw [h1 r' h];omega
 unfold Ped.wd;omega
theorem uok (hB:PairsB rules) {rn:List ByteArray} (hrn:RN rules rn) (hok:RefOK rules p ts am) (hp:p∈rn):∃U:List Ad,UOK rules rn U∧(p,patT ts [])∈U:=by
 obtain ⟨rn0,D,h0,hd,hdr,hcov,hsum⟩:=hB
 have same:∀u,u∈rn0↔u∈rn:=fun u=>(h0 u).trans (hrn u).symm
 have inP:∀{a:Ad},a∈prs rules D→a.1∈D∧a.2.size=Ped.wd rules a.1:=by
  intro a ha
  obtain ⟨u,hu,h1⟩:=List.mem_flatMap.1 ha
  obtain ⟨s,hs,rfl⟩:=List.mem_map.1 h1
  exact ⟨hu,(mem_bfL.1 hs).1⟩
 have inB:∀{a:Ad},a∈prs rules D→bfs a.2:=by
  intro a ha
  obtain ⟨u,hu,h1⟩:=List.mem_flatMap.1 ha
  obtain ⟨s,hs,rfl⟩:=List.mem_map.1 h1
  exact (mem_bfL.1 hs).2
 have mk:∀{u s:ByteArray},u∈D→s.size=Ped.wd rules u→bfs s→(u,s)∈prs rules D:=by
  intro u s hu hs hb
  refine List.mem_flatMap.2 ⟨u,hu,List.mem_map.2 ⟨s.data.toList,mem_bfL.2 ⟨hs,hb⟩,?_⟩⟩
  cases s with
  |mk d=>simp
 refine ⟨(p,patT ts [])::prs rules D,⟨?_,fun r hr x hx hk hxp ks=> ?_,fun a ha r hr hrp=> ?_,fun a ha=> ?_,fun a ha=> ?_⟩,by simp⟩
 ·have:=prs_len rules D hsum
  simp only [List.length_cons];omega
 ·refine List.mem_cons_of_mem _ (mk (hcov r hr x hx (by omega) ((same _).2 hxp)) ?_ (patT_bf _ _))
  rw [patT_size]
  obtain ⟨r',h1,h2⟩:=(hrn x.p).1 hxp
  have h3:=(hok.numb r hr).2 x hx (.inl hk)
  have h4:=(hok.numb r' h1).1
  rw [h2] at h4
  have h5:=am_one hok.nod h3 h4
  have h6:=hok.wd h1
  rw [h2] at h6
  omega
 ·rcases List.mem_cons.1 ha with rfl|ha
  ·simp only at hrp⊢
   rw [patT_size]
   have h4:=(hok.numb r hr).1
   rw [hrp] at h4
   have:=hok.ari _ h4
   omega
  ·rw [(inP ha).2,←hrp];exact hok.wd hr
 ·rcases List.mem_cons.1 ha with rfl|ha
  ·refine ⟨hp,hok.short,?_⟩
   simp only
   rw [patT_size];exact hok.few
  ·obtain ⟨h1,h2⟩:=inP ha
   have h3:=(same _).1 (hdr _ h1)
   obtain ⟨r,h4,h5⟩:=(hrn _).1 h3
   obtain ⟨s1,s2,_⟩:=hok.small r h4
   refine ⟨h3,by rw [←h5];exact s1,?_⟩
   rw [h2,←h5,hok.wd h4];exact s2
 ·rcases List.mem_cons.1 ha with rfl|ha
  ·exact patT_bf _ _
  ·exact inB ha
end
end
theorem nameT_list (q s:ByteArray):(nameT q s).data.toList=113::95::(s.data.toList++95::q.data.toList):=by
 unfold nameT
 simp [ByteArray.data_append]
theorem split95:∀{s t a b:List UInt8},(∀x,x∈s→x≠95)→(∀x,x∈t→x≠95)→s++95::a=t++95::b→s=t∧a=b
 |[],[],a,b,_,_,h=>by simpa using h
 |[],y::t,a,b,_,ht,h=>by
  simp only [List.nil_append,List.cons_append,List.cons.injEq] at h
  exact absurd h.1.symm (ht y (by simp))
 |x::s,[],a,b,hs,_,h=>by
  simp only [List.nil_append,List.cons_append,List.cons.injEq] at h
  exact absurd h.1 (hs x (by simp))
 |x::s,y::t,a,b,hs,ht,h=>by
  simp only [List.cons_append,List.cons.injEq] at h
  obtain ⟨h1,h2⟩:=split95 (fun z hz=>hs z (by simp [hz])) (fun z hz=>ht z (by simp [hz])) h.2
  exact ⟨by rw [h.1,h1],h2⟩
theorem bytes_ext {a b:ByteArray} (h:a.data.toList=b.data.toList):a=b:=by
 cases a;cases b
 simpa using h
theorem bfs_no {s:ByteArray} (h:bfs s):∀x,x∈s.data.toList→x≠95:=fun x hx=>by
 rcases h x hx with rfl|rfl<;>decide
theorem nameT_inj {p s p' s':ByteArray} (hs:bfs s) (hs':bfs s') (h:nameT p s=nameT p' s'):p=p'∧s=s':=by
 have h1:=congrArg (fun x:ByteArray=>x.data.toList) h
 simp only [nameT_list,List.cons.injEq,true_and] at h1
 obtain ⟨h2,h3⟩:=split95 (bfs_no hs) (bfs_no hs') h1
 exact ⟨bytes_ext h3,bytes_ext h2⟩
theorem nameT_np (q s:ByteArray):¬np (nameT q s):=by
 have hl:=nameT_list q s
 have hsz:(nameT q s).size=(nameT q s).data.toList.length:=rfl
 rintro (h|h)
 ·rw [hsz,hl] at h
  have:(ByteArray.mk #[113,95]).size=2:=rfl
  rw [this] at h
  simp at h
  omega
 ·apply h
  apply bytes_ext
  have:(ByteArray.mk #[113,95]).size=2:=rfl
  rw [this,ByteArray.data_extract,Array.toList_extract,hl]
  rfl
theorem place_met {L:List Ad} {rn:Int} {nm:ByteArray} (hn:L.Nodup) (hb:∀a,a∈L→bfs a.2) {i:Nat} {a:Ad} (ha:L[i]? =some a) (hnm:nameT a.1 a.2=nm)
  (h:(rn= -1∧∀a,a∈L→nameT a.1 a.2≠nm)∨∃(i:Nat) (a:Ad),rn=(i:Int)∧L[i]? =some a∧nameT a.1 a.2=nm):rn=(i:Int):=by
 rcases h with ⟨_,h⟩|⟨j,b,rfl,h1,h2⟩
 ·exact absurd hnm (h a (List.mem_of_getElem? ha))
 ·obtain ⟨e1,e2⟩:=nameT_inj (hb b (List.mem_of_getElem? h1)) (hb a (List.mem_of_getElem? ha)) (h2.trans hnm.symm)
  have:b=a:=Prod.ext e1 e2
  subst this
  rw [nodup_get hn h1 ha]
theorem place_none {L:List Ad} {rn:Int} {nm:ByteArray} (hnp:np nm) (h:(rn= -1∧∀a,a∈L→nameT a.1 a.2≠nm)∨∃(i:Nat) (a:Ad),rn=(i:Int)∧L[i]? =some a∧nameT a.1 a.2=nm):rn= -1:=by
 rcases h with ⟨h,_⟩|⟨j,b,_,_,h2⟩
 ·exact h
 ·exact absurd (h2▸hnp) (nameT_np b.1 b.2)
theorem i4a (rules:List Ru) (L:List Ad) (out:List Ru) (nm:ByteArray) (ts:List Tm) (sn a_ i n k:Nat) (R:Ru) (hR:0≤(a_:Int)∧(out.map Ru.av)[Int.toNat (a_:Int)]? =some R.av) (b:Nat) (x:Li) (hbl:(R.bd.map Li.av).length=R.bd.length) (hb:b<R.bd.length) (hbs:R.bd.length<1000000) (hx:0≤(b:Int)∧(R.bd.map Li.av)[Int.toNat (b:Int)]? =some x.av) (hsn:sn<1000000) (pl:Int) (k22:Sp 22 [.seq (L.map adA) false,.str x.p] [] (.int .i64 pl) []) (h1:decide (x.k=1)=false):EN 250 (loopOf Tryz.f4 2) ⟨[(0,.seq (rules.map Ru.av) false),(5,.tptr [.seq (out.map Ru.av) false,.str nm,.seq (ts.map Tm.av) false,.nils]),(6,.seq (L.map adA) false),(8,.int .i64 (sn:Int)),(9,.int .i64 (a_:Int)),(10,.int .i64 (i:Int)),(11,.int .i64 (n:Int)),(12,.int .i64 (k:Int)),(13,.int .i64 (b:Int))],[]⟩ ⟨[(0,.seq (rules.map Ru.av) false),(5,.tptr [.seq (out.map Ru.av) false,.str nm,.seq (ts.map Tm.av) false,.nils]),(6,.seq (L.map adA) false),(8,.int .i64 (sn:Int)),(9,.int .i64 (a_:Int)),(10,.int .i64 (i:Int)),(11,.int .i64 (n:Int)),(12,.int .i64 (k:Int)),(13,.int .i64 ((b+1:Nat):Int))],[]⟩:=by
 exact gE ⟨rfl,rfl⟩ 0 [.elt (Ru.av R),.is true,.elt (Ru.av R),.elt (Li.av x),.call (.int .i64 pl) [] [],.is false,.is false] [0,5,6,8,9,10,11,12,13] [] (aC8 hR (show decide ((b:Int)<(↑(List.length (List.map Li.av (Ru.bd R))):Int))=true from decide_eq_true (by omega)) hR hx k22 h1 h1 (show IntKind.wrap .i64 ((b:Int)+1)=(b:Int)+1 from wrap64_id (by omega) (by omega)))
theorem i4b (rules:List Ru) (L:List Ad) (out:List Ru) (nm:ByteArray) (ts:List Tm) (sn a_ i n k:Nat) (R:Ru) (hR:0≤(a_:Int)∧(out.map Ru.av)[Int.toNat (a_:Int)]? =some R.av) (b:Nat) (x:Li) (hbl:(R.bd.map Li.av).length=R.bd.length) (hb:b<R.bd.length) (hbs:R.bd.length<1000000) (hx:0≤(b:Int)∧(R.bd.map Li.av)[Int.toNat (b:Int)]? =some x.av) (hsn:sn<1000000) (pl:Int) (k22:Sp 22 [.seq (L.map adA) false,.str x.p] [] (.int .i64 pl) []) (h1:decide (x.k=1)=true) (h2:decide (pl<0)=true) (h3:decide ((k:Int)<(n:Int))=true) (h4:decide (pl>(sn:Int))=false) (h5:decide (pl=(sn:Int))=false) (k19:Sp 19 [.seq (rules.map Ru.av) false,.str x.p] [] (.int .i64 0) []):EN 250 (loopOf Tryz.f4 2) ⟨[(0,.seq (rules.map Ru.av) false),(5,.tptr [.seq (out.map Ru.av) false,.str nm,.seq (ts.map Tm.av) false,.nils]),(6,.seq (L.map adA) false),(8,.int .i64 (sn:Int)),(9,.int .i64 (a_:Int)),(10,.int .i64 (i:Int)),(11,.int .i64 (n:Int)),(12,.int .i64 (k:Int)),(13,.int .i64 (b:Int))],[]⟩ ⟨[(0,.seq (rules.map Ru.av) false),(5,.tptr [.seq (out.map Ru.av) false,.str nm,.seq (ts.map Tm.av) false,.nils]),(6,.seq (L.map adA) false),(8,.int .i64 (sn:Int)),(9,.int .i64 (a_:Int)),(10,.int .i64 (i:Int)),(11,.int .i64 (n:Int)),(12,.int .i64 (k:Int)),(13,.int .i64 ((b+1:Nat):Int))],[]⟩:=by
 exact gE ⟨rfl,rfl⟩ 0 [.elt (Ru.av R),.is true,.elt (Ru.av R),.elt (Li.av x),.call (.int .i64 pl) [] [],.is true,.is true,.is true,.call (.int .i64 0) [] [],.is false,.is false,.is true,.is false] [0,5,6,8,9,10,11,12,13] [] (aC14 hR (show decide ((b:Int)<(↑(List.length (List.map Li.av (Ru.bd R))):Int))=true from decide_eq_true (by omega)) hR hx k22 h1 h2 h3 k19 (show false=false from rfl) h4 h1 h5 (show IntKind.wrap .i64 ((b:Int)+1)=(b:Int)+1 from wrap64_id (by omega) (by omega)))
abbrev Z2v0 (rules:List Ru):Nat×AV:=(0,.seq (rules.map Ru.av) false)
abbrev Z2v1 (out:List Ru) (nm:ByteArray) (ts:List Tm):Nat×AV:=(5,.tptr [.seq (out.map Ru.av) false,.str nm,.seq (ts.map Tm.av) false,.nils])
abbrev Z2v2 (L:List Ad):Nat×AV:=(6,.seq (L.map adA) false)
abbrev Z2v3 (sn:Nat):Nat×AV:=(8,.int .i64 (sn:Int))
abbrev Z2v4 (i:Nat):Nat×AV:=(10,.int .i64 (i:Int))
abbrev Z2v5 (n:Nat):Nat×AV:=(11,.int .i64 (n:Int))
abbrev Z2v6 (k:Nat):Nat×AV:=(12,.int .i64 (k:Int))
theorem i4c (rules:List Ru) (L:List Ad) (out:List Ru) (nm:ByteArray) (ts:List Tm) (sn a_ i n k:Nat) (R:Ru) (hR:0≤(a_:Int)∧(out.map Ru.av)[Int.toNat (a_:Int)]? =some R.av) (b:Nat) (x:Li) (hbl:(R.bd.map Li.av).length=R.bd.length) (hb:b<R.bd.length) (hbs:R.bd.length<1000000) (hx:0≤(b:Int)∧(R.bd.map Li.av)[Int.toNat (b:Int)]? =some x.av) (hsn:sn<1000000) (pl:Int) (k22:Sp 22 [.seq (L.map adA) false,.str x.p] [] (.int .i64 pl) []) (h1:decide (x.k=1)=true) (h2:decide (pl<0)=true) (h3:decide ((k:Int)<(n:Int))=false) (h4:decide (pl>(sn:Int))=false) (h5:decide (pl=(sn:Int))=false):EN 250 (loopOf Tryz.f4 2) ⟨[Z2v0 rules,Z2v1 out nm ts,Z2v2 L,Z2v3 sn,(9,.int .i64 (a_:Int)),Z2v4 i,Z2v5 n,Z2v6 k,(13,.int .i64 (b:Int))],[]⟩ ⟨[Z2v0 rules,Z2v1 out nm ts,Z2v2 L,Z2v3 sn,(9,.int .i64 (a_:Int)),Z2v4 i,Z2v5 n,Z2v6 k,(13,.int .i64 ((b+1:Nat):Int))],[]⟩:=by
 exact gE ⟨rfl,rfl⟩ 0 [.elt (Ru.av R),.is true,.elt (Ru.av R),.elt (Li.av x),.call (.int .i64 pl) [] [],.is true,.is true,.is false,.is false,.is true,.is false] [0,5,6,8,9,10,11,12,13] [] (aC12 hR (show decide ((b:Int)<(↑(List.length (List.map Li.av (Ru.bd R))):Int))=true from decide_eq_true (by omega)) hR hx k22 h1 h2 h3 h4 h1 h5 (show IntKind.wrap .i64 ((b:Int)+1)=(b:Int)+1 from wrap64_id (by omega) (by omega)))
theorem i4d (rules:List Ru) (L:List Ad) (out:List Ru) (nm:ByteArray) (ts:List Tm) (sn a_ i n k:Nat) (R:Ru) (hR:0≤(a_:Int)∧(out.map Ru.av)[Int.toNat (a_:Int)]? =some R.av) (b:Nat) (x:Li) (hbl:(R.bd.map Li.av).length=R.bd.length) (hb:b<R.bd.length) (hbs:R.bd.length<1000000) (hx:0≤(b:Int)∧(R.bd.map Li.av)[Int.toNat (b:Int)]? =some x.av) (hsn:sn<1000000) (pl:Int) (k22:Sp 22 [.seq (L.map adA) false,.str x.p] [] (.int .i64 pl) []) (h1:decide (x.k=1)=true) (h2:decide (pl<0)=false) (h4:decide (pl>(sn:Int))=false) (h5:decide (pl=(sn:Int))=false):EN 250 (loopOf Tryz.f4 2) ⟨[(0,.seq (rules.map Ru.av) false),(5,.tptr [.seq (out.map Ru.av) false,.str nm,.seq (ts.map Tm.av) false,.nils]),(6,.seq (L.map adA) false),(8,.int .i64 (sn:Int)),(9,.int .i64 (a_:Int)),(10,.int .i64 (i:Int)),(11,.int .i64 (n:Int)),(12,.int .i64 (k:Int)),(13,.int .i64 (b:Int))],[]⟩ ⟨[(0,.seq (rules.map Ru.av) false),(5,.tptr [.seq (out.map Ru.av) false,.str nm,.seq (ts.map Tm.av) false,.nils]),(6,.seq (L.map adA) false),(8,.int .i64 (sn:Int)),(9,.int .i64 (a_:Int)),(10,.int .i64 (i:Int)),(11,.int .i64 (n:Int)),(12,.int .i64 (k:Int)),(13,.int .i64 ((b+1:Nat):Int))],[]⟩:=by
 exact gE ⟨rfl,rfl⟩ 0 [.elt (Ru.av R),.is true,.elt (Ru.av R),.elt (Li.av x),.call (.int .i64 pl) [] [],.is true,.is false,.is false,.is true,.is false] [0,5,6,8,9,10,11,12,13] [] (aC11 hR (show decide ((b:Int)<(↑(List.length (List.map Li.av (Ru.bd R))):Int))=true from decide_eq_true (by omega)) hR hx k22 h1 h2 h4 h1 h5 (show IntKind.wrap .i64 ((b:Int)+1)=(b:Int)+1 from wrap64_id (by omega) (by omega)))
theorem i4e (rules:List Ru) (L:List Ad) (out:List Ru) (nm:ByteArray) (ts:List Tm) (sn a_ i n k:Nat) (R:Ru) (hR:0≤(a_:Int)∧(out.map Ru.av)[Int.toNat (a_:Int)]? =some R.av) (b:Nat) (x:Li) (hbl:(R.bd.map Li.av).length=R.bd.length) (hb:b<R.bd.length) (hbs:R.bd.length<1000000) (hx:0≤(b:Int)∧(R.bd.map Li.av)[Int.toNat (b:Int)]? =some x.av) (hsn:sn<1000000) (pl:Int) (k22:Sp 22 [.seq (L.map adA) false,.str x.p] [] (.int .i64 pl) []) (h1:decide (x.k=1)=true) (h2:decide (pl<0)=false) (h4:decide (pl>(sn:Int))=false) (h5:decide (pl=(sn:Int))=true):EN 250 (loopOf Tryz.f4 2) ⟨[(0,.seq (rules.map Ru.av) false),(5,.tptr [.seq (out.map Ru.av) false,.str nm,.seq (ts.map Tm.av) false,.nils]),(6,.seq (L.map adA) false),(8,.int .i64 (sn:Int)),(9,.int .i64 (a_:Int)),(10,.int .i64 (i:Int)),(11,.int .i64 (n:Int)),(12,.int .i64 (k:Int)),(13,.int .i64 (b:Int))],[]⟩ ⟨[(0,.seq (rules.map Ru.av) false),(5,.tptr [.seq (out.map Ru.av) false,.str nm,.seq (ts.map Tm.av) false,.nils]),(6,.seq (L.map adA) false),(8,.int .i64 ((sn+1:Nat):Int)),(9,.int .i64 (a_:Int)),(10,.int .i64 (i:Int)),(11,.int .i64 (n:Int)),(12,.int .i64 (k:Int)),(13,.int .i64 ((b+1:Nat):Int))],[]⟩:=by
 exact gE ⟨rfl,rfl⟩ 0 [.elt (Ru.av R),.is true,.elt (Ru.av R),.elt (Li.av x),.call (.int .i64 pl) [] [],.is true,.is false,.is false,.is true,.is true] [0,5,6,8,9,10,11,12,13] [] (aC12 hR (show decide ((b:Int)<(↑(List.length (List.map Li.av (Ru.bd R))):Int))=true from decide_eq_true (by omega)) hR hx k22 h1 h2 h4 h1 h5 (show IntKind.wrap .i64 ((sn:Int)+1)=(sn:Int)+1 from wrap64_id (by omega) (by omega)) (show IntKind.wrap .i64 ((b:Int)+1)=(b:Int)+1 from wrap64_id (by omega) (by omega)))
theorem i4z (rules:List Ru) (L:List Ad) (out:List Ru) (nm:ByteArray) (ts:List Tm) (sn a_ i n k:Nat) (R:Ru) (hR:0≤(a_:Int)∧(out.map Ru.av)[Int.toNat (a_:Int)]? =some R.av):En 250 (loopOf Tryz.f4 2) ⟨[(0,.seq (rules.map Ru.av) false),(5,.tptr [.seq (out.map Ru.av) false,.str nm,.seq (ts.map Tm.av) false,.nils]),(6,.seq (L.map adA) false),(8,.int .i64 (sn:Int)),(9,.int .i64 (a_:Int)),(10,.int .i64 (i:Int)),(11,.int .i64 (n:Int)),(12,.int .i64 (k:Int)),(13,.int .i64 ((R.bd.length:Nat):Int))],[]⟩ (fun e t=>e= .exit 4∧t=⟨[(0,.seq (rules.map Ru.av) false),(5,.tptr [.seq (out.map Ru.av) false,.str nm,.seq (ts.map Tm.av) false,.nils]),(6,.seq (L.map adA) false),(8,.int .i64 (sn:Int)),(9,.int .i64 (a_:Int)),(10,.int .i64 (i:Int)),(11,.int .i64 (n:Int)),(12,.int .i64 (k:Int))],[]⟩):=by
 exact gE ⟨rfl,rfl⟩ 0 [.elt (Ru.av R),.is false] [0,5,6,8,9,10,11,12] [] (aC2 hR (show decide ((↑(List.length (Ru.bd R)):Int)<(↑(List.length (List.map Li.av (Ru.bd R))):Int))=false from by simp))
abbrev Z2v7 (sn2:Nat):Nat×AV:=(8,.int .i64 (sn2:Int))
theorem m4 (rules:List Ru) (L:List Ad) (out:List Ru) (nm:ByteArray) (ts:List Tm) (sn a_ i n k:Nat) (R:Ru) (hR:0≤(a_:Int)∧(out.map Ru.av)[Int.toNat (a_:Int)]? =some R.av) (a:Ad) (sn2:Nat) (nm2:ByteArray) (hk:k≤n) (hn:0<n) (hol:(out.map Ru.av).length=out.length) (ha:a_<out.length) (hos:out.length<900000000) (hns:n≤2000000) (hA:0≤(i:Int)∧(L.map adA)[Int.toNat (i:Int)]? =some (.agg [.str a.1,.str a.2])) (k14:Sp 14 [.agg [.str a.1,.str a.2]] [] (.str nm2) []) (hnm:(!decide (R.p=nm2))=false) (k23:Sp 23 [.str a.2,.int .i64 ((R.hd.map Ar.av).length:Nat)] [] (.bool true) []) (l4_2q:Lo 250 (loopOf Tryz.f4 2) ⟨[Z2v0 rules,Z2v1 out nm ts,Z2v2 L,Z2v3 sn,(9,.int .i64 (a_:Int)),Z2v4 i,Z2v5 n,Z2v6 k,(13,.int .i64 (0:Int))],[]⟩ (.exit 4) ⟨[Z2v0 rules,Z2v1 out nm ts,Z2v2 L,Z2v7 sn2,(9,.int .i64 (a_:Int)),Z2v4 i,Z2v5 n,Z2v6 k],[]⟩):EN 250 (loopOf Tryz.f4 1) ⟨[Z2v0 rules,Z2v1 out nm ts,Z2v2 L,Z2v3 sn,(9,.int .i64 (a_:Int)),Z2v4 i,Z2v5 n,Z2v6 k],[]⟩ ⟨[Z2v0 rules,Z2v1 out nm ts,Z2v2 L,Z2v7 sn2,(9,.int .i64 ((a_+1:Nat):Int)),Z2v4 i,Z2v5 n,(12,.int .i64 ((k+1:Nat):Int))],[]⟩:=by
 have hl0:=l4_2q
 exact gE ⟨rfl,rfl⟩ 0 [.is true,.is false,.is false,.elt (Ru.av R),.elt (.agg [.str (Prod.fst a),.str (Prod.snd a)]),.call (.str nm2) [] [],.is false,.elt (.agg [.str (Prod.fst a),.str (Prod.snd a)]),.elt (Ru.av R),.call (.bool true) [] [],.cut [0,5,6,8,9,10,11,12,13] [],.sum (.exit 4) [Z2v0 rules,Z2v1 out nm ts,Z2v2 L,Z2v7 sn2,(9,.int .i64 (a_:Int)),Z2v4 i,Z2v5 n,Z2v6 k] []] [0,5,6,8,9,10,11,12] [] (aC13 (show decide ((k:Int)≤(n:Int))=true from decide_eq_true (by omega)) (show decide ((n:Int)=0)=false from decide_eq_false (by omega)) (show decide ((↑(out.map Ru.av).length:Int)≤(a_:Int))=false from decide_eq_false (by omega)) hR hA k14 hnm hA hR k23 hl0 (show IntKind.wrap .i64 ((a_:Int)+1)=(a_:Int)+1 from wrap64_id (by omega) (by omega)) (show IntKind.wrap .i64 ((k:Int)+1)=(k:Int)+1 from wrap64_id (by omega) (by omega)))
theorem m4z (rules:List Ru) (L:List Ad) (out:List Ru) (nm:ByteArray) (ts:List Tm) (sn a_ i n k:Nat) (hk:n<k):En 250 (loopOf Tryz.f4 1) ⟨[Z2v0 rules,Z2v1 out nm ts,Z2v2 L,Z2v3 sn,(9,.int .i64 (a_:Int)),Z2v4 i,Z2v5 n,Z2v6 k],[]⟩ (fun e t=>e= .exit 2∧t=⟨[Z2v0 rules,Z2v1 out nm ts,Z2v2 L,Z2v3 sn,(9,.int .i64 (a_:Int)),Z2v4 i],[]⟩):=by
 exact gE ⟨rfl,rfl⟩ 0 [.is false] [0,5,6,8,9,10] [] (aC1 (show decide ((k:Int)≤(n:Int))=false from decide_eq_false (by omega)))
theorem o4 (rules:List Ru) (L:List Ad) (out:List Ru) (nm:ByteArray) (ts:List Tm) (sn a_ i n sn2 at2:Nat) (a:Ad) (nm2:ByteArray) (hLl:(L.map adA).length=L.length) (hi:i<L.length) (hLs:L.length≤1000) (his:i<sn) (hA:0≤(i:Int)∧(L.map adA)[Int.toNat (i:Int)]? =some (.agg [.str a.1,.str a.2])) (k14:Sp 14 [.agg [.str a.1,.str a.2]] [] (.str nm2) []) (k22:Sp 22 [.seq (L.map adA) false,.str nm2] [] (.int .i64 (i:Int)) []) (k19:Sp 19 [.seq (rules.map Ru.av) false,.str a.1] [] (.int .i64 (n:Int)) []) (l4_1q:Lo 250 (loopOf Tryz.f4 1) ⟨[Z2v0 rules,Z2v1 out nm ts,Z2v2 L,Z2v3 sn,(9,.int .i64 (a_:Int)),Z2v4 i,Z2v5 n,(12,.int .i64 (0:Int))],[]⟩ (.exit 2) ⟨[Z2v0 rules,Z2v1 out nm ts,Z2v2 L,Z2v7 sn2,(9,.int .i64 (at2:Int)),Z2v4 i],[]⟩):EN 250 (loopOf Tryz.f4 0) ⟨[Z2v0 rules,Z2v1 out nm ts,Z2v2 L,Z2v3 sn,(9,.int .i64 (a_:Int)),Z2v4 i],[]⟩ ⟨[Z2v0 rules,Z2v1 out nm ts,Z2v2 L,Z2v7 sn2,(9,.int .i64 (at2:Int)),(10,.int .i64 ((i+1:Nat):Int))],[]⟩:=by
 have hl0:=l4_1q
 exact gE ⟨rfl,rfl⟩ 0 [.is true,.is false,.elt (.agg [.str (Prod.fst a),.str (Prod.snd a)]),.call (.str nm2) [] [],.call (.int .i64 (i:Int)) [] [],.is false,.elt (.agg [.str (Prod.fst a),.str (Prod.snd a)]),.call (.int .i64 (n:Int)) [] [],.cut [0,5,6,8,9,10,11,12] [],.sum (.exit 2) [Z2v0 rules,Z2v1 out nm ts,Z2v2 L,Z2v7 sn2,(9,.int .i64 (at2:Int)),Z2v4 i] []] [0,5,6,8,9,10] [] (aC10 (show decide ((i:Int)<(↑(L.map adA).length:Int))=true from decide_eq_true (by omega)) (show decide ((sn:Int)≤(i:Int))=false from decide_eq_false (by omega)) hA k14 k22 (show (!decide ((i:Int)=(i:Int)))=false from by simp) hA k19 hl0 (show IntKind.wrap .i64 ((i:Int)+1)=(i:Int)+1 from wrap64_id (by omega) (by omega)))
theorem o4z (rules:List Ru) (L:List Ad) (out:List Ru) (nm:ByteArray) (ts:List Tm) (sn a_ i:Nat) (hLl:(L.map adA).length=L.length) (hi:i=L.length):En 250 (loopOf Tryz.f4 0) ⟨[Z2v0 rules,Z2v1 out nm ts,Z2v2 L,Z2v3 sn,(9,.int .i64 (a_:Int)),Z2v4 i],[]⟩ (fun e t=>e= .exit 0∧t=⟨[Z2v1 out nm ts,Z2v2 L,Z2v3 sn,(9,.int .i64 (a_:Int))],[]⟩):=by
 exact gE ⟨rfl,rfl⟩ 0 [.is false] [5,6,8,9] [] (aC1 (show decide ((i:Int)<(↑(L.map adA).length:Int))=false from decide_eq_false (by omega)))
section
structure LawC (rules:List Ru) (rn:List ByteArray) (p:ByteArray) (ts:List Tm) (am:Am) (L:List Ad):Prop where
 ok:RefOK rules p ts am
 names:RN rules rn
 nd:L.Nodup
 all:∃U:List Ad,UOK rules rn U∧∀a,a∈L→a∈U
 few:L.length≤100
 sm:rules.length≤1048576
section
variable {rules:List Ru} {rn:List ByteArray} {p:ByteArray} {ts:List Tm} {am:Am} {L:List Ad}
theorem LawC.bf (h:LawC rules rn p ts am L):∀a,a∈L→bfs a.2:=fun a ha=>by
 obtain ⟨U,hu,h1⟩:=h.all
 exact hu.bf a (h1 a ha)
theorem LawC.sz (h:LawC rules rn p ts am L):∀a:Ad,a∈L→a.1.size<1000000∧a.2.size<1000000:=fun a ha=>by
 obtain ⟨U,hu,h1⟩:=h.all
 obtain ⟨_,h2,h3⟩:=hu.mem a (h1 a ha)
 exact ⟨by omega,by omega⟩
theorem LawC.npR (h:LawC rules rn p ts am L) {u:ByteArray} (hu:u∈rn):np u:=by
 obtain ⟨r,h1,rfl⟩:=(h.names u).1 hu
 exact h.ok.npk _ (List.mem_map.2 ⟨_,(h.ok.numb r h1).1,rfl⟩)
theorem LawC.npB (h:LawC rules rn p ts am L) {r:Ru} {x:Li} (hr:r∈rules) (hx:x∈r.bd) (hk:x.k=1):np x.p:=
 h.ok.npk _ (List.mem_map.2 ⟨_,(h.ok.numb r hr).2 x hx (.inl hk),rfl⟩)
theorem meetL_cases (L:List Ad) (a:Ad):(a∈L∧meetL L a=L)∨(a∉L∧meetL L a=L++[a]):=by
 unfold meetL
 by_cases h:a∈L
 ·exact .inl ⟨h,if_pos h⟩
 ·exact .inr ⟨h,if_neg h⟩
theorem Steps.pre {Lc L1:List Ad} {ks:List ByteArray} {rest body:List Li} (h:Steps rn Lc ks rest L1 body):Lc<+:L1:=by
 induction h with
 |nil L ks=>exact List.prefix_refl L
 |skip i x hx hn h ih=>exact ih
 |ask i x hx hk hp h ih=>exact (meetL_pre _ _).trans ih
theorem Steps.blen {Lc L1:List Ad} {ks:List ByteArray} {rest body:List Li} (h:Steps rn Lc ks rest L1 body):body.length=rest.length:=by
 induction h with
 |nil L ks=>rfl
 |skip i x hx hn h ih=>
  rw [List.length_cons,ih,List.length_eraseIdx_of_lt (List.getElem?_eq_some_iff.1 hx).1]
  have:=(List.getElem?_eq_some_iff.1 hx).1
  omega
 |ask i x hx hk hp h ih=>
  rw [List.length_cons,ih,List.length_eraseIdx_of_lt (List.getElem?_eq_some_iff.1 hx).1]
  have:=(List.getElem?_eq_some_iff.1 hx).1
  omega
theorem l4_2 (hC:LawC rules rn p ts am L) (out:List Ru) (nm:ByteArray) (a_ i n k:Nat) (R:Ru) (hR:out[a_]? =some R) (hkn:k<n) (hbs:R.bd.length<1000000) {Lc L1:List Ad} {ks:List ByteArray} {rest body:List Li} (h:Steps rn Lc ks rest L1 body):
  (∀x,x∈rest→∃r,r∈rules∧x∈r.bd)→L1<+:L→∀pre:List Li,R.bd=pre++body→Lo 250 (loopOf Tryz.f4 2) ⟨[(0,.seq (rules.map Ru.av) false),(5,.tptr [.seq (out.map Ru.av) false,.str nm,.seq (ts.map Tm.av) false,.nils]),(6,.seq (L.map adA) false),(8,.int .i64 (Lc.length:Int)),(9,.int .i64 (a_:Int)),(10,.int .i64 (i:Int)),(11,.int .i64 (n:Int)),(12,.int .i64 (k:Int)),(13,.int .i64 (pre.length:Int))],[]⟩ (.exit 4) ⟨[(0,.seq (rules.map Ru.av) false),(5,.tptr [.seq (out.map Ru.av) false,.str nm,.seq (ts.map Tm.av) false,.nils]),(6,.seq (L.map adA) false),(8,.int .i64 (L1.length:Int)),(9,.int .i64 (a_:Int)),(10,.int .i64 (i:Int)),(11,.int .i64 (n:Int)),(12,.int .i64 (k:Int))],[]⟩:=by
 have hR':0≤(a_:Int)∧(out.map Ru.av)[Int.toNat (a_:Int)]? =some R.av:=⟨by omega,get_of Ru.av hR⟩
 have hbl:(R.bd.map Li.av).length=R.bd.length:=List.length_map ..
 have getx:∀{pre body:List Li} {x:Li},R.bd=pre++x::body→pre.length<R.bd.length∧(0≤((pre.length:Nat):Int)∧(R.bd.map Li.av)[Int.toNat ((pre.length:Nat):Int)]? =some x.av):=by
  intro pre body x e
  have h1:R.bd[pre.length]? =some x:=by rw [e,List.getElem?_append_right (Nat.le_refl _),Nat.sub_self];rfl
  exact ⟨(List.getElem?_eq_some_iff.1 h1).1,by omega,get_of Li.av h1⟩
 induction h with
 |nil Lc ks=>
  intro _ _ pre e
  rw [List.append_nil] at e
  obtain ⟨e',t,⟨rfl,rfl⟩,h⟩:=i4z rules L out nm ts Lc.length a_ i n k R hR'
  rw [←e]
  exact .leave h (by simp)
 | @skip Lc L1 ks rest body j x hx hn h ih=>
   intro hr hp pre e
   obtain ⟨hb,hxx⟩:=getx e
   have hsub:∀y,y∈rest.eraseIdx j→∃r,r∈rules∧y∈r.bd:=fun y hy=>hr y (List.mem_of_mem_eraseIdx hy)
   have hq:=ih hsub hp (pre++[x]) (by rw [e];simp)
   rw [show (pre++[x]).length=pre.length+1 from by simp] at hq
   have hlen:Lc.length<1000000:=by
    have:=(h.pre.trans hp).length_le
    have:=hC.few
    omega
   obtain ⟨pl,s22,hpl⟩:=k22 L x.p (by have:=hC.few;omega) hC.sz
   by_cases hk:x.k=1
   ·have hxr:x.p∉rn:=fun hm=>hn ⟨hk,hm⟩
    obtain ⟨r,hr1,hr2⟩:=hr x (List.mem_of_getElem? hx)
    have hm1:=place_none (hC.npB hr1 hr2 hk) hpl
    have s19:=k19 rules x.p (by have:=hC.sm;omega)
    rw [rulesOf_nil hC.names hxr] at s19
    obtain ⟨e',t,⟨rfl,rfl⟩,g⟩:=i4b rules L out nm ts Lc.length a_ i n k R hR' pre.length x hbl hb hbs hxx hlen pl s22 (decide_eq_true hk) (decide_eq_true (by omega)) (decide_eq_true (by omega)) (decide_eq_false (by omega)) (decide_eq_false (by omega)) s19
    exact .turn g hq
   ·obtain ⟨e',t,⟨rfl,rfl⟩,g⟩:=i4a rules L out nm ts Lc.length a_ i n k R hR' pre.length x hbl hb hbs hxx hlen pl s22 (decide_eq_false hk)
    exact .turn g hq
 | @ask Lc L1 ks rest body j x hx hk hp' h ih=>
   intro hr hp pre e
   obtain ⟨hb,hxx⟩:=getx e
   have hsub:∀y,y∈rest.eraseIdx j→∃r,r∈rules∧y∈r.bd:=fun y hy=>hr y (List.mem_of_mem_eraseIdx hy)
   have hq:=ih hsub hp (pre++[({x with p:=nameT x.p (patT x.ts ks)}:Li)]) (by rw [e];simp)
   rw [show (pre++[({x with p:=nameT x.p (patT x.ts ks)}:Li)]).length=pre.length+1 from by simp] at hq
   have hpre:=h.pre.trans hp
   have hlen:Lc.length<1000000:=by
    have:=((meetL_pre Lc (x.p,patT x.ts ks)).trans hpre).length_le
    have:=hC.few
    omega
   obtain ⟨pl,s22,hpl⟩:=k22 L (nameT x.p (patT x.ts ks)) (by have:=hC.few;omega) hC.sz
   rcases meetL_cases Lc (x.p,patT x.ts ks) with ⟨h1,h2⟩|⟨h1,h2⟩
   ·rw [h2] at hpre hq
    obtain ⟨q,hq1⟩:=List.mem_iff_getElem?.1 h1
    have hql:=(List.getElem?_eq_some_iff.1 hq1).1
    have hm1:=place_met hC.nd hC.bf (pre_get hpre hq1) rfl hpl
    obtain ⟨e',t,⟨rfl,rfl⟩,g⟩:=i4d rules L out nm ts Lc.length a_ i n k R hR' pre.length ({x with p:=nameT x.p (patT x.ts ks)}:Li) hbl hb hbs hxx hlen pl s22 (decide_eq_true hk) (decide_eq_false (by omega)) (decide_eq_false (by omega)) (decide_eq_false (by omega))
    exact .turn g hq
   ·rw [h2] at hpre hq
    have hq1:(Lc++[(x.p,patT x.ts ks)])[Lc.length]? =some (x.p,patT x.ts ks):=by rw [List.getElem?_append_right (Nat.le_refl _),Nat.sub_self];rfl
    have hm1:=place_met hC.nd hC.bf (pre_get hpre hq1) rfl hpl
    obtain ⟨e',t,⟨rfl,rfl⟩,g⟩:=i4e rules L out nm ts Lc.length a_ i n k R hR' pre.length ({x with p:=nameT x.p (patT x.ts ks)}:Li) hbl hb hbs hxx hlen pl s22 (decide_eq_true hk) (decide_eq_false (by omega)) (decide_eq_false (by omega)) (decide_eq_true (by omega))
    rw [show (Lc++[(x.p,patT x.ts ks)]).length=Lc.length+1 from by simp] at hq
    exact .turn g hq
abbrev Z2w0 (Lc:List Ad):Nat×AV:=(8,.int .i64 (Lc.length:Int))
abbrev Z2w1 (i:Nat):Nat×AV:=(10,.int .i64 (i:Int))
theorem l4_2g (hC:LawC rules rn p ts am L) (out:List Ru) (nm:ByteArray) (a_ i n:Nat) (a:Ad) (hR:out[a_]? =some (gRu a)) (har:a.1∈rn) (Lc:List Ad) (hlen:Lc.length<1000000):Lo 250 (loopOf Tryz.f4 2) ⟨[(0,.seq (rules.map Ru.av) false),(5,.tptr [.seq (out.map Ru.av) false,.str nm,.seq (ts.map Tm.av) false,.nils]),(6,.seq (L.map adA) false),Z2w0 Lc,(9,.int .i64 (a_:Int)),Z2w1 i,(11,.int .i64 (n:Int)),(12,.int .i64 (n:Int)),(13,.int .i64 (0:Int))],[]⟩ (.exit 4) ⟨[(0,.seq (rules.map Ru.av) false),(5,.tptr [.seq (out.map Ru.av) false,.str nm,.seq (ts.map Tm.av) false,.nils]),(6,.seq (L.map adA) false),Z2w0 Lc,(9,.int .i64 (a_:Int)),Z2w1 i,(11,.int .i64 (n:Int)),(12,.int .i64 (n:Int))],[]⟩:=by
 have hR':0≤(a_:Int)∧(out.map Ru.av)[Int.toNat (a_:Int)]? =some (gRu a).av:=⟨by omega,get_of Ru.av hR⟩
 obtain ⟨pl,s22,hpl⟩:=k22 L a.1 (by have:=hC.few;omega) hC.sz
 have hm1:=place_none (hC.npR har) hpl
 obtain ⟨e',t,⟨rfl,rfl⟩,g⟩:=i4c rules L out nm ts Lc.length a_ i n n (gRu a) hR' 0 (gLi a.1 a.2.size) rfl (by show 0<1;omega) (by show 1<1000000;omega) ⟨by omega,rfl⟩ hlen pl s22 (decide_eq_true rfl) (decide_eq_true (by omega)) (decide_eq_false (by omega)) (decide_eq_false (by omega)) (decide_eq_false (by omega))
 obtain ⟨e',t,⟨rfl,rfl⟩,h⟩:=i4z rules L out nm ts Lc.length a_ i n n (gRu a) hR'
 exact .turn g (.leave h (by simp))
theorem Wrs.pre {a:Ad} {rs out out':List Ru} {Lc L1:List Ad} (h:Wrs rn a rs Lc out L1 out'):Lc<+:L1∧out<+:out':=by
 induction h with
 |nil L out=>exact ⟨List.prefix_refl L,List.prefix_refl out⟩
 |cons h1 h2 h3 ih=>exact ⟨h2.pre.trans ih.1,(List.prefix_append _ _).trans ih.2⟩
theorem l4_1 (hC:LawC rules rn p ts am L) (out:List Ru) (nm:ByteArray) (i n:Nat) (a:Ad) (ha:L[i]? =some a) (hn:n=(rulesOf rules a.1).length) (hos:out.length<900000000) {rs outc out1:List Ru} {Lc L1:List Ad} (h:Wrs rn a rs Lc outc L1 out1):
  (∀r,r∈rs→r∈rules∧r.p=a.1)→L1<+:L→(out1++[gRu a])<+:out→∀k,k+rs.length=n→Lo 250 (loopOf Tryz.f4 1) ⟨[(0,.seq (rules.map Ru.av) false),(5,.tptr [.seq (out.map Ru.av) false,.str nm,.seq (ts.map Tm.av) false,.nils]),(6,.seq (L.map adA) false),Z2w0 Lc,(9,.int .i64 (outc.length:Int)),Z2w1 i,(11,.int .i64 (n:Int)),(12,.int .i64 (k:Int))],[]⟩ (.exit 2) ⟨[(0,.seq (rules.map Ru.av) false),(5,.tptr [.seq (out.map Ru.av) false,.str nm,.seq (ts.map Tm.av) false,.nils]),(6,.seq (L.map adA) false),(8,.int .i64 (L1.length:Int)),(9,.int .i64 ((out1.length+1:Nat):Int)),Z2w1 i],[]⟩:=by
 have haL:=List.mem_of_getElem? ha
 obtain ⟨U,hu,hUL⟩:=hC.all
 obtain ⟨u1,u2,u3⟩:=hu.mem a (hUL a haL)
 have hn0:0<n:=by
  obtain ⟨r,h1,h2⟩:=(hC.names _).1 u1
  rw [hn];exact List.length_pos_of_mem (mem_rulesOf.2 ⟨h1,h2⟩)
 have hns:n≤2000000:=by
  have:(rulesOf rules a.1).length≤rules.length:=List.length_filter_le ..
  have:=hC.sm
  omega
 have hA:0≤(i:Int)∧(L.map adA)[Int.toNat (i:Int)]? =some (.agg [.str a.1,.str a.2]):=⟨by omega,get_of adA ha⟩
 have s14:=k14 a.1 a.2 (by omega) (by omega)
 have hol:(out.map Ru.av).length=out.length:=List.length_map ..
 have s23:∀R:Ru,R.hd.length=a.2.size→Sp 23 [.str a.2,.int .i64 ((R.hd.map Ar.av).length:Nat)] [] (.bool true) []:=fun R hR=>
  k23 a.2 (R.hd.map Ar.av).length (by rw [List.length_map,hR]) (by omega) (hC.bf a haL)
 have hfew:=hC.few
 induction h with
 |nil Lc outc=>
  intro _ hp ho k hk
  have hkn:k=n:=by simpa using hk
  subst hkn
  have hget:out[outc.length]? =some (gRu a):=pre_get ho (by rw [List.getElem?_append_right (Nat.le_refl _),Nat.sub_self];rfl)
  have hlt:=(List.getElem?_eq_some_iff.1 hget).1
  have hlL:=hp.length_le
  have hin:=l4_2g hC out nm outc.length i k a hget u1 Lc (by omega)
  obtain ⟨e',t,⟨rfl,rfl⟩,g⟩:=m4 rules L out nm ts Lc.length outc.length i k k (gRu a) ⟨by omega,get_of Ru.av hget⟩ a Lc.length (nameT a.1 a.2) (Nat.le_refl _) hn0 hol hlt hos hns hA s14 (by simp [gRu]) (s23 (gRu a) (hV_len _)) hin
  obtain ⟨e',t,⟨rfl,rfl⟩,z⟩:=m4z rules L out nm ts Lc.length (outc.length+1) i k (k+1) (by omega)
  exact .turn g (.leave z (by simp))
 | @cons r rs outc out1 Lc Lm L1 ks body h1 h2 h3 ih=>
   intro hr hp ho k hk
   obtain ⟨r1,r2⟩:=hr r (by simp)
   obtain ⟨s1,s2,s3,_⟩:=hC.ok.small r r1
   have hpr:=h3.pre
   have hpo:=(hpr.2.trans (List.prefix_append _ [gRu a])).trans ho
   have hget:out[outc.length]? =some ⟨nameT a.1 a.2,r.hd,body⟩:=pre_get hpo (by rw [List.getElem?_append_right (Nat.le_refl _),Nat.sub_self];rfl)
   have hlt:=(List.getElem?_eq_some_iff.1 hget).1
   have hbl:body.length=r.bd.length:=h2.blen
   simp only [List.length_cons] at hk
   have hin:=l4_2 hC out nm outc.length i n k ⟨nameT a.1 a.2,r.hd,body⟩ hget (by omega) (by show body.length<_;omega) h2 (fun x hx=>⟨r,r1,hx⟩) (hpr.1.trans hp) [] rfl
   obtain ⟨e',t,⟨rfl,rfl⟩,g⟩:=m4 rules L out nm ts Lc.length outc.length i n k ⟨nameT a.1 a.2,r.hd,body⟩ ⟨by omega,get_of Ru.av hget⟩ a Lm.length (nameT a.1 a.2) (by omega) hn0 hol hlt hos hns hA s14 (by simp) (s23 ⟨nameT a.1 a.2,r.hd,body⟩ (hu.ari a (hUL a haL) r r1 r2).symm) hin
   have hq:=ih (fun x hx=>hr x (by simp [hx])) hp ho (k+1) (by omega)
   rw [show (outc++[(⟨nameT a.1 a.2,r.hd,body⟩:Ru)]).length=outc.length+1 from by simp] at hq
   exact .turn g hq
theorem Ads.pre {i:Nat} {Lc L1:List Ad} {out out':List Ru} (h:Ads rules rn i Lc out L1 out'):Lc<+:L1∧out<+:out':=by
 induction h with
 |stop L out=>exact ⟨List.prefix_refl L,List.prefix_refl out⟩
 |go h1 h2 h3 ih=>exact ⟨h2.pre.1.trans ih.1,(h2.pre.2.trans (List.prefix_append _ _)).trans ih.2⟩
theorem l4_0 (hC:LawC rules rn p ts am L) (out:List Ru) (nm:ByteArray) (hos:out.length<900000000) {i:Nat} {Lc L1:List Ad} {outc out1:List Ru} (h:Ads rules rn i Lc outc L1 out1):
  L1=L→out1=out→i≤Lc.length→Lo 250 (loopOf Tryz.f4 0) ⟨[(0,.seq (rules.map Ru.av) false),(5,.tptr [.seq (out.map Ru.av) false,.str nm,.seq (ts.map Tm.av) false,.nils]),(6,.seq (L.map adA) false),Z2w0 Lc,(9,.int .i64 (outc.length:Int)),Z2w1 i],[]⟩ (.exit 0) ⟨[(5,.tptr [.seq (out.map Ru.av) false,.str nm,.seq (ts.map Tm.av) false,.nils]),(6,.seq (L.map adA) false),(8,.int .i64 (L.length:Int)),(9,.int .i64 (out.length:Int))],[]⟩:=by
 have hLl:(L.map adA).length=L.length:=List.length_map ..
 have hfew:=hC.few
 induction h with
 |stop Lc outc=>
  rintro rfl rfl _
  obtain ⟨e',t,⟨rfl,rfl⟩,z⟩:=o4z rules Lc outc nm ts Lc.length outc.length Lc.length hLl rfl
  exact .leave z (by simp)
 | @go i a Lc Lm L1 outc outm out1 h1 h2 h3 ih=>
   intro eL eo hi
   have hpr:=h3.pre
   rw [eL,eo] at hpr
   have hlt:=(List.getElem?_eq_some_iff.1 h1).1
   have ha:L[i]? =some a:=pre_get (h2.pre.1.trans hpr.1) h1
   have hiL:=(List.getElem?_eq_some_iff.1 ha).1
   have hsz:=hC.sz a (List.mem_of_getElem? ha)
   have hm:=l4_1 hC out nm i (rulesOf rules a.1).length a ha rfl hos h2 (fun r hr=>mem_rulesOf.1 hr) hpr.1 hpr.2 0 (by simp)
   obtain ⟨pl,s22,hpl⟩:=k22 L (nameT a.1 a.2) (by omega) hC.sz
   have hm1:=place_met hC.nd hC.bf ha rfl hpl
   rw [hm1] at s22
   have hml:=hpr.1.length_le
   have hpl2:=h2.pre.1.length_le
   obtain ⟨e',t,⟨rfl,rfl⟩,g⟩:=o4 rules L out nm ts Lc.length outc.length i (rulesOf rules a.1).length Lm.length (outm.length+1) a (nameT a.1 a.2) hLl hiL (by omega) hlt ⟨by omega,get_of adA ha⟩ (k14 a.1 a.2 (by omega) (by omega)) s22 (k19 rules a.1 (by have:=hC.sm;omega)) hm
   have hq:=ih eL eo (by omega)
   rw [show (outm++[gRu a]).length=outm.length+1 from by simp] at hq
   exact .turn g hq
end
end
abbrev Z2x0 (rules:List Ru):Nat×AV:=(0,.seq (rules.map Ru.av) false)
abbrev Z2x1:Nat×AV:=(4,.bool true)
abbrev Z2x9:St:=⟨[Z2x1],[]⟩
theorem b4t (rules:List Ru) (p:ByteArray) (ts:List Tm) (k17:Sp 17 [.seq (rules.map Ru.av) false] [] (.bool true) []):En 250 (bodyOf Tryz.f4) ⟨[Z2x0 rules,(1,atA p ts)],[]⟩ (fun e t=>e= .ret∧t=Z2x9):=by
 exact gE ⟨rfl,rfl⟩ 0 [.call (.bool true) [] []] [4] [] (aC1 k17)
abbrev Z2x2 (p:ByteArray) (ts:List Tm):Nat×AV:=(3,.tptr [.str p,.seq (ts.map Tm.av) false])
abbrev Z2xa (rules:List Ru) (p:ByteArray) (ts:List Tm):St:=⟨[Z2x0 rules,Z2x2 p ts],[]⟩
theorem w4a (rules:List Ru) (p:ByteArray) (ts:List Tm):EN 250 (partC 0 (bodyOf Tryz.f4)) ⟨[Z2x0 rules,(1,atA p ts)],[]⟩ (Z2xa rules p ts):=by
 exact gE ⟨rfl,rfl⟩ 0 [] [0,3] [(3,.freeze)] (aC1 rT)
theorem w4b (rules:List Ru) (p:ByteArray) (ts:List Tm) (k17:Sp 17 [.seq (rules.map Ru.av) false] [] (.bool false) []):EN 250 (partC 1 (bodyOf Tryz.f4)) (Z2xa rules p ts) (Z2xa rules p ts):=by
 exact gE ⟨rfl,rfl⟩ 0 [.call (.bool false) [] []] [0,3] [] (aC1 k17)
theorem b4x (rules:List Ru) (p:ByteArray) (ts:List Tm) (er:Int) (her:(!decide (er=0))=true) (k18:Sp 18 [.seq (rules.map Ru.av) false,atA p ts] [] (.tup [.agg [.nils,.str ⟨#[]⟩,.nils,.nils],.nils,.int .i64 er]) []) (k16:Sp 16 [] [] (.bool true) []):En 250 (restC 2 (bodyOf Tryz.f4)) (Z2xa rules p ts) (fun e t=>e= .ret∧t=Z2x9):=by
 exact gE ⟨rfl,rfl⟩ 0 [.call (.tup [.agg [.nils,.str (ByteArray.mk #[]),.nils,.nils],.nils,.int .i64 er]) [] [],.is true,.call (.bool true) [] []] [4] [] (aC3 k18 her k16)
theorem b4n (rules:List Ru) (p:ByteArray) (ts:List Tm) (k18:Sp 18 [.seq (rules.map Ru.av) false,atA p ts] [] (.tup [.agg [.nils,.str p,.seq (ts.map Tm.av) false,.nils],.nils,.int .i64 0]) []) (k16:Sp 16 [] [] (.bool true) []) (k19:Sp 19 [.seq (rules.map Ru.av) false,.str p] [] (.int .i64 0) []) (k20:Sp 20 [atA p ts,atA p ts] [] (.bool true) []):En 250 (restC 2 (bodyOf Tryz.f4)) (Z2xa rules p ts) (fun e t=>e= .ret∧t=Z2x9):=by
 exact gE ⟨rfl,rfl⟩ 0 [.call (.tup [.agg [.nils,.str p,.seq (ts.map Tm.av) false,.nils],.nils,.int .i64 0]) [] [],.is false,.call (.int .i64 0) [] [],.is true,.is true,.is true,.call (.bool true) [] [],.is true,.call (.bool true) [] []] [4] [] (aC9 k18 (show false=false from rfl) k19 rT rT rT k20 rT k16)
abbrev Z2x3 (out:List Ru) (nm:ByteArray) (ts:List Tm):Nat×AV:=(5,.tptr [.seq (out.map Ru.av) false,.str nm,.seq (ts.map Tm.av) false,.nils])
abbrev Z2x4 (L:List Ad):Nat×AV:=(6,.seq (L.map adA) false)
theorem w4c (rules:List Ru) (p:ByteArray) (ts:List Tm) (out:List Ru) (nm:ByteArray) (L:List Ad) (k18:Sp 18 [.seq (rules.map Ru.av) false,atA p ts] [] (.tup [.agg [.seq (out.map Ru.av) false,.str nm,.seq (ts.map Tm.av) false,.nils],.seq (L.map adA) false,.int .i64 0]) []):EN 250 (partC 2 (bodyOf Tryz.f4)) (Z2xa rules p ts) ⟨[Z2x0 rules,Z2x2 p ts,Z2x3 out nm ts,Z2x4 L,(7,.int .i64 0)],[]⟩:=by
 exact gE ⟨rfl,rfl⟩ 0 [.call (.tup [.agg [.seq (out.map Ru.av) false,.str nm,.seq (ts.map Tm.av) false,.nils],.seq (L.map adA) false,.int .i64 0]) [] []] [0,3,5,6,7] [(5,.freeze)] (aC2 k18 rT)
theorem w4d (rules:List Ru) (p:ByteArray) (ts:List Tm) (out:List Ru) (nm:ByteArray) (L:List Ad):EN 250 (partC 3 (bodyOf Tryz.f4)) ⟨[Z2x0 rules,Z2x2 p ts,Z2x3 out nm ts,Z2x4 L,(7,.int .i64 0)],[]⟩ ⟨[Z2x0 rules,Z2x2 p ts,Z2x3 out nm ts,Z2x4 L],[]⟩:=by
 exact gE ⟨rfl,rfl⟩ 0 [.is false] [0,3,5,6] [] (aC1 (show false=false from rfl))
theorem w4e (rules:List Ru) (p:ByteArray) (ts:List Tm) (out:List Ru) (nm:ByteArray) (L:List Ad) (n:Int) (hn:decide (n=0)=false) (k19:Sp 19 [.seq (rules.map Ru.av) false,.str p] [] (.int .i64 n) []):EN 250 (partC 4 (bodyOf Tryz.f4)) ⟨[Z2x0 rules,Z2x2 p ts,Z2x3 out nm ts,Z2x4 L],[]⟩ ⟨[Z2x0 rules,Z2x2 p ts,Z2x3 out nm ts,Z2x4 L],[]⟩:=by
 exact gE ⟨rfl,rfl⟩ 0 [.call (.int .i64 n) [] [],.is false] [0,3,5,6] [] (aC2 k19 hn)
abbrev Z2x5 (out:List Ru) (p:ByteArray) (ts:List Tm):Nat×AV:=(5,.tptr [.seq (out.map Ru.av) false,.str (nameT p (patT ts [])),.seq (ts.map Tm.av) false,.nils])
theorem w4f (rules:List Ru) (p:ByteArray) (ts:List Tm) (out:List Ru) (L:List Ad) (hLl:decide (((L.map adA).length:Int)=0)=false) (hA:0≤(0:Int)∧(L.map adA)[Int.toNat (0:Int)]? =some (.agg [.str p,.str (patT ts [])])) (k10:Sp 10 [.agg [.str p,.seq (ts.map Tm.av) false],.nils] [] (.str (patT ts [])) []) (k14:Sp 14 [.agg [.str p,.str (patT ts [])]] [] (.str (nameT p (patT ts []))) []) (k21:Sp 21 [.seq (ts.map Tm.av) false,.seq (ts.map Tm.av) false] [] (.bool true) []):EN 250 (partC 5 (bodyOf Tryz.f4)) ⟨[Z2x0 rules,Z2x2 p ts,Z2x5 out p ts,Z2x4 L],[]⟩ ⟨[Z2x0 rules,Z2x5 out p ts,Z2x4 L],[]⟩:=by
 exact gE ⟨rfl,rfl⟩ 0 [.is false,.elt (.agg [.str p,.str (patT ts [])]),.is false,.elt (.agg [.str p,.str (patT ts [])]),.call (.str (patT ts [])) [] [],.is false,.elt (.agg [.str p,.str (patT ts [])]),.call (.str (nameT p (patT ts []))) [] [],.is false,.call (.bool true) [] [],.is false] [0,5,6] [] (aC11 hLl hA (show (!decide (p=p))=false from by simp) hA k10 (show (!decide (patT ts []=patT ts []))=false from by simp) hA k14 (show (!decide (nameT p (patT ts [])=nameT p (patT ts [])))=false from by simp) k21 (show false=false from rfl))
abbrev Z2x6:Nat×AV:=(8,.int .i64 1)
theorem w4g (rules:List Ru) (out:List Ru) (nm:ByteArray) (ts:List Tm) (L:List Ad):EN 250 (partC 6 (bodyOf Tryz.f4)) ⟨[Z2x0 rules,Z2x3 out nm ts,Z2x4 L],[]⟩ ⟨[Z2x0 rules,Z2x3 out nm ts,Z2x4 L,Z2x6],[]⟩:=by
 exact ⟨Out.normal,St.mk [Z2x0 rules,Z2x3 out nm ts,Z2x4 L,Z2x6] [],⟨rfl,rfl⟩,gA 0 [] [0,5,6,8] [] (by kernel_rfl) (aN)⟩
abbrev Z2x7:Nat×AV:=(9,.int .i64 0)
theorem w4h (rules:List Ru) (out:List Ru) (nm:ByteArray) (ts:List Tm) (L:List Ad):EN 250 (partC 7 (bodyOf Tryz.f4)) ⟨[Z2x0 rules,Z2x3 out nm ts,Z2x4 L,Z2x6],[]⟩ ⟨[Z2x0 rules,Z2x3 out nm ts,Z2x4 L,Z2x6,Z2x7],[]⟩:=by
 exact ⟨Out.normal,St.mk [Z2x0 rules,Z2x3 out nm ts,Z2x4 L,Z2x6,Z2x7] [],⟨rfl,rfl⟩,gA 0 [] [0,5,6,8,9] [] (by kernel_rfl) (aN)⟩
abbrev Z2x8 (L:List Ad):Nat×AV:=(8,.int .i64 (L.length:Int))
abbrev Z2xb (out:List Ru) (nm:ByteArray) (ts:List Tm) (L:List Ad):St:=⟨[Z2x3 out nm ts,Z2x4 L,Z2x8 L,(9,.int .i64 (out.length:Int))],[]⟩
theorem w4i (rules:List Ru) (out:List Ru) (nm:ByteArray) (ts:List Tm) (L:List Ad) (l4_0q:Lo 250 (loopOf Tryz.f4 0) ⟨[Z2x0 rules,Z2x3 out nm ts,Z2x4 L,Z2x6,Z2x7,(10,.int .i64 0)],[]⟩ (.exit 0) (Z2xb out nm ts L)):EN 250 (partC 8 (bodyOf Tryz.f4)) ⟨[Z2x0 rules,Z2x3 out nm ts,Z2x4 L,Z2x6,Z2x7],[]⟩ (Z2xb out nm ts L):=by
 have hl0:=l4_0q
 exact gE ⟨rfl,rfl⟩ 0 [.cut [0,5,6,8,9,10] [],.sum (.exit 0) [Z2x3 out nm ts,Z2x4 L,(8,.int .i64 (↑L.length:Int)),(9,.int .i64 (↑out.length:Int))] []] [5,6,8,9] [] (aC1 hl0)
theorem b4z (out:List Ru) (nm:ByteArray) (ts:List Tm) (L:List Ad) (hLl:(L.map adA).length=L.length) (hol:(out.map Ru.av).length=out.length) (k16:Sp 16 [] [] (.bool true) []):En 250 (restC 9 (bodyOf Tryz.f4)) (Z2xb out nm ts L) (fun e t=>e= .ret∧t=Z2x9):=by
 exact gE ⟨rfl,rfl⟩ 0 [.is true,.is true,.call (.bool true) [] []] [4] [] (aC3 (show decide ((↑out.length:Int)=(↑(out.map Ru.av).length:Int))=true from decide_eq_true (by omega)) (show decide ((↑L.length:Int)=(↑(L.map adA).length:Int))=true from decide_eq_true (by omega)) k16)
theorem k4 (rules:List Ru) (p:ByteArray) (ts:List Tm) (hS:∀r,r∈rules→RuS r) (hsm:rules.length<10000000000000):Sp 4 [.seq (rules.map Ru.av) false,atA p ts] [] (.bool true) []:=by
 have ha:noIdsL [AV.seq (rules.map Ru.av) false,atA p ts]=true:=by simp [noIdsL,noIds,atA,atC]
 obtain ⟨rb,s17,h17⟩:=k17 rules hS hsm
 cases rb with
 |true=>
  obtain ⟨e,s,⟨rfl,rfl⟩,r⟩:=b4t rules p ts s17
  exact Spec.pure (fn:=Tryz.f4) (c:=bodyOf Tryz.f4) (by kernel_rfl) (by kernel_rfl) ha r (.inr rfl) (by kernel_rfl) rfl
 |false=>
  obtain ⟨hl,hB⟩:=h17 rfl
  obtain ⟨g,pr,er,s18,hR⟩:=k18 rules p ts (by omega) (fun rn am h1 h2 h3=>uok hB h1 h2 h3)
  obtain ⟨e,s,⟨rfl,rfl⟩,r0⟩:=w4a rules p ts
  obtain ⟨e,s,⟨rfl,rfl⟩,r1⟩:=w4b rules p ts s17
  have fin:Rz 250 (restC 2 (bodyOf Tryz.f4)) (Z2xa rules p ts) .ret Z2x9→Sp 4 [.seq (rules.map Ru.av) false,atA p ts] [] (.bool true) []:=fun h=>
   Spec.pure (fn:=Tryz.f4) (c:=bodyOf Tryz.f4) (by kernel_rfl) (by kernel_rfl) ha (Runs.nth 0 (by kernel_rfl) r0 (Runs.nth 1 (by kernel_rfl) r1 h)) (.inr rfl) (by kernel_rfl) rfl
  have s19:=k19 rules p (by omega)
  rcases hR with ⟨h0,rfl,rfl⟩|⟨rfl,rfl,rfl,h24,hno⟩|⟨rfl,am,rn,L,out,hok,hrn,hp,hA,hpre,hnd,hU,hfew,hol,rfl,rfl⟩
  ·obtain ⟨e,s,⟨rfl,rfl⟩,r2⟩:=b4x rules p ts er (by simp [h0]) s18 lives_spec
   exact fin r2
  ·have h0:(rulesOf rules p).length=0:=by
    rw [List.length_eq_zero_iff,List.eq_nil_iff_forall_not_mem]
    exact fun r hr=>hno r (mem_rulesOf.1 hr).1 (mem_rulesOf.1 hr).2
   rw [h0] at s19
   obtain ⟨e,s,⟨rfl,rfl⟩,r2⟩:=b4n rules p ts s18 lives_spec s19 (k20 p ts (by omega))
   exact fin r2
  ·have hn0:0<(rulesOf rules p).length:=by
    obtain ⟨r,h1,h2⟩:=(hrn p).1 hp
    exact List.length_pos_of_mem (mem_rulesOf.2 ⟨h1,h2⟩)
   have hLl:(L.map adA).length=L.length:=List.length_map ..
   have hol':(out.map Ru.av).length=out.length:=List.length_map ..
   have hpos:=hpre.length_le
   simp only [List.length_cons,List.length_nil] at hpos
   have hC:LawC rules rn p ts am L:=⟨hok,hrn,hnd,hU,hfew,hl⟩
   have hg:L[0]? =some (p,patT ts []):=pre_get hpre rfl
   have hz:=hC.sz _ (List.mem_of_getElem? hg)
   obtain ⟨e,s,⟨rfl,rfl⟩,r2⟩:=w4c rules p ts out (nameT p (patT ts [])) L s18
   obtain ⟨e,s,⟨rfl,rfl⟩,r3⟩:=w4d rules p ts out (nameT p (patT ts [])) L
   obtain ⟨e,s,⟨rfl,rfl⟩,r4⟩:=w4e rules p ts out (nameT p (patT ts [])) L _ (decide_eq_false (by omega)) s19
   obtain ⟨e,s,⟨rfl,rfl⟩,r5⟩:=w4f rules p ts out L (decide_eq_false (by omega)) ⟨by omega,get_of adA hg⟩ (k10a p ts (by have:=hok.few;omega)) (k14 p (patT ts []) (Nat.lt_trans hz.1 (by decide)) (Nat.lt_trans hz.2 (by decide))) (k21 ts (by have:=hok.few;omega))
   obtain ⟨e,s,⟨rfl,rfl⟩,r6⟩:=w4g rules out (nameT p (patT ts [])) ts L
   obtain ⟨e,s,⟨rfl,rfl⟩,r7⟩:=w4h rules out (nameT p (patT ts [])) ts L
   have hl0:=l4_0 hC out (nameT p (patT ts [])) hol hA rfl rfl (Nat.zero_le _)
   obtain ⟨e,s,⟨rfl,rfl⟩,r8⟩:=w4i rules out (nameT p (patT ts [])) ts L hl0
   obtain ⟨e,s,⟨rfl,rfl⟩,r9⟩:=b4z out (nameT p (patT ts [])) ts L hLl hol' lives_spec
   exact fin (Runs.nth 0 (by kernel_rfl) r2 (Runs.nth 1 (by kernel_rfl) r3 (Runs.nth 2 (by kernel_rfl) r4 (Runs.nth 3 (by kernel_rfl) r5 (Runs.nth 4 (by kernel_rfl) r6 (Runs.nth 5 (by kernel_rfl) r7 (Runs.nth 6 (by kernel_rfl) r8 r9)))))))
end Go.Ped
namespace Go.Proofs.YthhfolohakiemaaGreatDoor.adornOnce
open Go.ChangeShapes Go.WideShapes Go.ChangeAt Go.RowKit Go.Ped
section
set_option maxRecDepth 100000
theorem own:ownKnob Tryz.prog.godebug=none:=by kernel_rfl
theorem laidOut:laidOutB Tryz.prog=true:=by kernel_rfl
theorem gTabType:(Tryz.prog.globals[0]?).map (·.type)=some 298:=by kernel_rfl
theorem ulTab:Tryz.prog.underlying 298=some (.array 20 204):=by kernel_rfl
theorem ulTabE:Tryz.prog.underlying 204=some (.int .u64):=by kernel_rfl
theorem cells298:Tryz.prog.cellsOf 298=20:=by kernel_rfl
theorem cells204:Tryz.prog.cellsOf 204=1:=by kernel_rfl
theorem table {W:World} (h:laidMetH Tryz.prog Rows.adornOnceRow.laid W):Tabs W:=by
 obtain ⟨_,⟨_,_,_,_,_,_,_,_,_,_,⟨_,_,_,_,_,_,_,_,_,_,⟨g',t',cs,fuel,p,q,hg',ht',hvar,hd,_,_⟩,_⟩,_⟩,_⟩:=h
 obtain rfl:=Option.some.inj (Tryz.gTab.symm.trans hg')
 obtain rfl:=Option.some.inj (gTabType.symm.trans ht')
 have hd':DataW.trod (fun _=>()) Tryz.prog W 0 (fun _=>true) false fuel 298 cs.toList=some (Lib.tabData .u64 Lib.pow10Tab,p):=hd
 have hcs:=Lib.cells_of_tab ulTab ulTabE cells204 cells298 hd'
 refine tabs_of ?_
 unfold Lib.TabIs
 rw [hvar]
 congr 1
 rw [←hcs]
theorem contract (H:Type) (enc:TypeId×Value→H) (W:World) (base:Nat) (args:Array Value) (ds gs:List (DataW H)) (before:List MemPlace)
  (hval:∀(j:Nat) t v,Tryz.f4.params[j]? =some t→args[j]? =some v→Value.okWide Tryz.prog W .any base t v)
  (hW:DataW.Whole enc Tryz.prog Tryz.f4.params.toList Rows.adornOnceSpec.vars false W args.toList ds gs before)
  (hsz:(DataW.weightsEach Tryz.prog (Tryz.f4.params.toList++(OpenSpec.ofChange Rows.adornOnceSpec).bare.plain.varTypes Tryz.prog) (ds++gs)).all (· ≤reachBytes)=true) (hL:laidMetH Tryz.prog Rows.adornOnceRow.laid W):
  Calls Tryz.prog 4 args W fun e W'=>∃v,e= .returned v∧Rows.adornOnceSpec.post enc Tryz.prog Tryz.f4 false true false false W args v W':=by
 have hW':=hW
 obtain ⟨p,q,hA0,hV,rfl,hfz,hnd⟩:=hW
 have hA:DataW.TrodAll enc Tryz.prog W 0 (fun _=>true) true Tryz.f4.params.toList args.toList ds p:=hA0
 rw [Tryz.params4] at hA hval
 obtain ⟨v0,vs0,d0,ds0,p0,q0,hargs,rfl,rfl,h0,r0⟩:=trodAll_cons hA
 obtain ⟨v1,vs1,d1,ds1,p1,q1,rfl,rfl,rfl,h1,r1⟩:=trodAll_cons r0
 obtain ⟨rfl,rfl,rfl⟩:=trodAll_nil r1
 obtain rfl:args= #[v0,v1]:=by cases args;simp_all
 obtain ⟨rfl,rfl⟩:=trodVars_none hV
 clear hA0 hA r0 r1
 simp only [List.append_nil] at hW'
 obtain ⟨a0,l0,c0,rfl⟩:=okWide_slice Tryz.underlying52 (hval 0 52 v0 rfl rfl)
 obtain ⟨cs1,rfl,_⟩:=okWide_struct Tryz.underlying24 (hval 1 24 v1 rfl rfl)
 have hlt:∀x∈p0++p1,x.block<W.heap.size:=fun x hx=>by simpa using hW'.lt x hx
 have hwt:∀{j:Nat} {t:TypeId} {d:DataW H},[52,24][j]? =some t→[d0,d1][j]? =some d→Fit Tryz.prog t d:=by
  intro j t d ht hd
  refine List.all_eq_true.2 fun x hx=>List.all_eq_true.1 hsz x ?_
  refine DataW.weights_mem_each (j:=j) (t:=t) (d:=d) ?_ ?_ x hx
  ·rw [Tryz.params4]
   match j,ht with
   |0,ht=>simpa using ht
   |1,ht=>simpa using ht
   |j+2,ht=>simp at ht
  ·simpa using hd
 have k0:=h0
 have k1:=h1
 obtain ⟨n0,h0⟩:=h0
 obtain ⟨n1,h1⟩:=h1
 obtain ⟨v0',rules,e0,V0,hG,b0⟩:=V_sliceW Ru.av RuS Tryz.underlying52 cells66 (by omega) (hwt (j:=0) rfl rfl) (fun n cs y g1 g2 _=>readRu g1 g2) h0
 obtain rfl:Value.slice a0 l0 c0=v0':=by
  have:[Value.slice a0 l0 c0]=[v0']:=e0
  injection this
 rw [bytes66,reachV] at b0
 obtain ⟨pr,ts,E1,_⟩:=readAt h1 (hwt (j:=1) rfl rfl)
 have V1:V (allB W) noB W (.agg cs1) (atA pr ts):= .agg cs1.toList (atC pr ts) E1.1 E1.2
 have hS:=k4 rules pr ts hG (by omega)
 have hT:=table hL
 let F:Fr:={w0:=W,S0:=allB W,M:=fun _=>False,β0:=noB}
 have M:Mem F (allB W) noB [] W:=Mem.mk' ⟨⟨hT,fun h=>h⟩,rfl,rfl,rfl,Nat.le_refl _,fun _ _ _=>rfl,fun id o h=>(by cases h),fun id bi h=>(by cases h),fun i j bi bj h=>(by cases h),fun i bi h=>(by cases h),fun b h=>h,fun _ h=>h,fun _ h=> .inl h,fun i b _ h=>h⟩ (fun _=>Hid.noOwn (fun id o j sz es h=>by cases h))
 have hcall:=hS F (allB W) noB [] W [.slice a0 l0 c0,.agg cs1] M rfl (fun i v x hi hx=>by
  match i with
  |0=>simp at hi hx;subst hi;subst hx;exact V0
  |1=>simp at hi hx;subst hi;subst hx;exact V1
  |i+2=>simp at hi) (fun id o hm=>by cases hm) (fun id o _ _=>rfl)
 refine hcall.mono ?_
 rintro e W' ⟨v,S',β',rfl,E,M',hv⟩
 cases hv with
 |bool b=>
 have hB:Below W.heap.size W W':=⟨M'.os,M'.tape,M'.output,M'.size,fun k hk=>M'.keep k hk (fun h=>h)⟩
 refine ⟨_,rfl,[d0,d1],[],p0++p1,[],p0++p1,[],hW',?_,?_,?_,hB.frame _,fun h=>by cases h⟩
 ·exact trodAll_cons_mk (shut_bool Tryz.underlying4 _) trodAll_mk0
 ·rw [Tryz.params4]
  have t0:=Below.trod laidOut (by kernel_rfl) (of_decide_eq_true (by kernel_rfl)) k0 hB (fun x hx=>hlt x (by simp [hx]))
  have t1:=Below.trod laidOut (by kernel_rfl) (of_decide_eq_true (by kernel_rfl)) k1 hB (fun x hx=>hlt x (by simp [hx]))
  have:=trodAll_cons_mk t0 (trodAll_cons_mk t1 trodAll_mk0)
  have h3:DataW.TrodAll enc Tryz.prog W' 0 (fun b=>decide (b<W.heap.size)) true [52,24] [Value.slice a0 l0 c0,Value.agg cs1] [d0,d1] (p0++p1):=by simpa using this
  exact h3
 ·rfl
def tab0:Obj→Obj
 | .cells _ t frozen=> .cells #[.int .u64 1,.int .u64 10,.int .u64 100,.int .u64 1000,.int .u64 10000,.int .u64 100000,.int .u64 1000000,.int .u64 10000000,.int .u64 100000000,.int .u64 1000000000,.int .u64 10000000000,.int .u64 100000000000,.int .u64 1000000000000,.int .u64 10000000000000,.int .u64 100000000000000,.int .u64 1000000000000000,.int .u64 10000000000000000,.int .u64 100000000000000000,.int .u64 1000000000000000000,.int .u64 10000000000000000000] t frozen
 |o=>o
def tab1:Obj→Obj
 | .cells _ t frozen=> .cells #[.int .u8 0,.int .u8 1,.int .u8 28,.int .u8 2,.int .u8 29,.int .u8 14,.int .u8 24,.int .u8 3,.int .u8 30,.int .u8 22,.int .u8 20,.int .u8 15,.int .u8 25,.int .u8 17,.int .u8 4,.int .u8 8,.int .u8 31,.int .u8 27,.int .u8 13,.int .u8 23,.int .u8 21,.int .u8 19,.int .u8 16,.int .u8 7,.int .u8 26,.int .u8 12,.int .u8 18,.int .u8 6,.int .u8 11,.int .u8 5,.int .u8 10,.int .u8 9] t frozen
 |o=>o
def tab2:Obj→Obj
 | .cells _ t frozen=> .cells #[.int .u8 0,.int .u8 1,.int .u8 56,.int .u8 2,.int .u8 57,.int .u8 49,.int .u8 28,.int .u8 3,.int .u8 61,.int .u8 58,.int .u8 42,.int .u8 50,.int .u8 38,.int .u8 29,.int .u8 17,.int .u8 4,.int .u8 62,.int .u8 47,.int .u8 59,.int .u8 36,.int .u8 45,.int .u8 43,.int .u8 51,.int .u8 22,.int .u8 53,.int .u8 39,.int .u8 33,.int .u8 30,.int .u8 24,.int .u8 18,.int .u8 12,.int .u8 5,.int .u8 63,.int .u8 55,.int .u8 48,.int .u8 27,.int .u8 60,.int .u8 41,.int .u8 37,.int .u8 16,.int .u8 46,.int .u8 35,.int .u8 44,.int .u8 21,.int .u8 52,.int .u8 32,.int .u8 23,.int .u8 11,.int .u8 54,.int .u8 26,.int .u8 40,.int .u8 15,.int .u8 34,.int .u8 20,.int .u8 31,.int .u8 10,.int .u8 25,.int .u8 14,.int .u8 19,.int .u8 9,.int .u8 13,.int .u8 8,.int .u8 7,.int .u8 6] t frozen
 |o=>o
noncomputable def laidWorld (os:Os):World:={World.holding Tryz.prog os ⟨#[],#[],[]⟩ with heap:=(((World.holding Tryz.prog os ⟨#[],#[],[]⟩).heap.modify 0 tab0).modify 1 tab1).modify 2 tab2}
def args0:Array Value:= #[.slice none 0 0,.agg #[.string ⟨#[]⟩,.slice none 0 0]]
theorem laid_met (os:Os):laidMet Tryz.prog Rows.adornOnceRow.laid ((laidWorld os).forCall (fun _ _=>0) ⟨#[],args0,[]⟩).memory:=
 laidMet_of_run' 8 (by kernel_rfl) (by kernel_rfl)
set_option maxRecDepth 100000 in
theorem lifted (os:Os) (started:os.Started) (H:Type) (enc:TypeId×Value→H) (F:Stop.Interp):
  ReturnsInHanded {} Tryz.checked os 4 .any ((OpenSpec.ofChange Rows.adornOnceSpec).preRow enc Tryz.prog Tryz.f4 Rows.adornOnceRow.domain false Rows.adornOnceRow.laid) (((OpenSpec.ofChange Rows.adornOnceSpec).at F).post enc Tryz.prog Tryz.f4 false true false false):=by
 have hx:DataW.whole enc Tryz.prog ((laidWorld os).forCall (fun _ _=>0) ⟨#[],args0,[]⟩).memory Tryz.f4.params.toList Rows.adornOnceSpec.vars false args0.toList 8=some ([.nil,.agg [.lit (.string []),.nil]],[],[]):=by kernel_rfl
 refine returnsInHanded_of_row (C:=Tryz.checked) (s:=OpenSpec.ofChange Rows.adornOnceSpec) own started (by kernel_rfl) Tryz.func4
  (witness_row_at (enc:=enc) (C:=Tryz.checked) false (laidWorld os) args0 rfl (by kernel_rfl) (by kernel_rfl) (by kernel_rfl)
   (OpenSpec.preRow_of_cond 8 hx (by kernel_rfl) (fun k hk=>by cases hk) (by kernel_rfl) (laid_met os))) ?_
 intro W base args ds gs before hval hW _ _ hsz hL _ _
 exact contract H enc W base args ds gs before hval hW hsz hL
theorem said:Rows.AdornOnceSaid:=
 OpenClaim.holds_of_cond 4 Tryz.f4 rfl rfl rfl rfl rfl rfl rfl ⟨rfl,rfl,rfl,rfl,rfl⟩ rfl rfl rfl rfl rfl (by kernel_rfl) Tryz.func4 (by kernel_rfl)
  (of_decide_eq_true (by kernel_rfl)) (by unfold Func.isWrapper;first|(rw [if_pos (by decide+kernel)];kernel_rfl)|(rw [if_neg (by decide+kernel)];exact ⟨rfl,rfl⟩))
  (fun os started H enc _ F=>by rw [OpenClaim.pre_eq_preRow];exact lifted os started H enc F)
theorem plain (f:FuncId) (fn:Func) (hf:Tryz.pinned.checked.prog.funcNamed "pedigree/pedigreelaw18.AdornOnce" =some f) (hfn:Tryz.pinned.checked.prog.funcs[f]? =some fn):
  true=Tryz.pinned.checked.prog.looks []∧∀(j:Nat) t,fn.params[j]? =some t→Tryz.pinned.checked.prog.wantsStandIn t=false:=by
 obtain rfl:f=4:=Option.some.inj ((show Tryz.prog.funcNamed "pedigree/pedigreelaw18.AdornOnce" =some 4 by kernel_rfl).symm.trans hf)|>.symm
 obtain rfl:fn=Tryz.f4:=(Option.some.inj (Tryz.func4.symm.trans hfn)).symm
 refine ⟨by kernel_rfl,fun j t ht=> ?_⟩
 rw [Tryz.params4] at ht
 match j with
 |0=>obtain rfl:52=t:=by simpa using ht
     exact (show Tryz.prog.wantsStandIn 52=false by kernel_rfl)
 |1=>obtain rfl:24=t:=by simpa using ht
     exact (show Tryz.prog.wantsStandIn 24=false by kernel_rfl)
 |j+2=>simp at ht
theorem card:Rows.AdornOnceCardSaid:=
 Claim7.holds_tied_plain_at .later [] _ _ _ _ said (fun _ h=>by cases h) (by kernel_rfl) (fun _ h=>by cases h) adornOnce_row_tie rfl ⟨rfl,rfl⟩ (by kernel_rfl) rfl plain (by kernel_rfl)
end
end Go.Proofs.YthhfolohakiemaaGreatDoor.adornOnce
