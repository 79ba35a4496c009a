/- The reckoning of a region of code, of calls and of loops is right, and the shared contracts follow from it. -/
import Derived.Test.YthhfolohakiemaaGreatDoorMagG
import Derived.Test.YthhfolohakiemaaGreatDoorMagH
set_option linter.all false
namespace Go.Ped
open Go.RowKit Go.Proofs
section
@[simp] theorem aac (z:Li):z.av.ac.length=16:=rfl
@[simp] theorem aae (z:Tm):z.av.ac.length=4:=rfl
@[simp] theorem aab (z:Ar):z.av.ac.length=5:=rfl
@[simp] theorem aad (z:Ru):z.av.ac.length=3:=rfl
class KS (f:FuncId) (vs:List AV) (pre:outParam (List (Nat×Ob))) (r:outParam AV) (upd:outParam (List (Nat×Ob))) (H:outParam Prop):Prop where
 s:H→bK Proofs.Tryz.prog f vs pre r upd
class KE (f:FuncId) (vs:List AV) (S:outParam Prop) (H:outParam Prop):Prop where
 s:H→S
class KI (f:FuncId) (ids:outParam (List Nat)):Prop
class KT (f:FuncId) (vs:List AV) (pre:List (Nat×Ob)) (r:outParam AV) (upd:outParam (List (Nat×Ob))) (H:outParam Prop):Prop where
 s:H→bK Proofs.Tryz.prog f vs pre r upd
section
variable {f:FuncId} {vs:List AV} {pre upd:List (Nat×Ob)} {r:AV} {A B C D E:Prop}
theorem kT (h:bK Proofs.Tryz.prog f vs [] r upd):KS f vs [] r upd True:=⟨fun _=>h⟩
theorem kF (h:A→bK Proofs.Tryz.prog f vs [] r upd):KS f vs [] r upd A:=⟨h⟩
theorem kG (h:A→B→bK Proofs.Tryz.prog f vs [] r upd):KS f vs [] r upd (A∧B):=⟨fun q=>h q.1 q.2⟩
theorem kH (h:A→B→C→bK Proofs.Tryz.prog f vs [] r upd):KS f vs [] r upd (A∧B∧C):=⟨fun q=>h q.1 q.2.1 q.2.2⟩
theorem kI (h:A→B→C→D→bK Proofs.Tryz.prog f vs [] r upd):KS f vs [] r upd (A∧B∧C∧D):=⟨fun q=>h q.1 q.2.1 q.2.2.1 q.2.2.2⟩
theorem tT (h:bK Proofs.Tryz.prog f vs pre r upd):KT f vs pre r upd True:=⟨fun _=>h⟩
theorem tF (h:A→bK Proofs.Tryz.prog f vs pre r upd):KT f vs pre r upd A:=⟨h⟩
theorem tG (h:A→B→bK Proofs.Tryz.prog f vs pre r upd):KT f vs pre r upd (A∧B):=⟨fun q=>h q.1 q.2⟩
theorem tH (h:A→B→C→bK Proofs.Tryz.prog f vs pre r upd):KT f vs pre r upd (A∧B∧C):=⟨fun q=>h q.1 q.2.1 q.2.2⟩
theorem tI (h:A→B→C→D→bK Proofs.Tryz.prog f vs pre r upd):KT f vs pre r upd (A∧B∧C∧D):=⟨fun q=>h q.1 q.2.1 q.2.2.1 q.2.2.2⟩
end
theorem bsz (a:Array UInt8):(ByteArray.mk a).size=a.size:=rfl
theorem cl {p:Prop} (h:p:=by
 first
 |assumption
 |omega
 |(simp only [decide_eq_true_eq,decide_eq_false_iff_not,maxLen] at*;omega)
 |exact bA (by omega) (by omega)
 |(simp only [List.length_map];exact bA (by omega) (by omega))
 |exact trivial
 |(simp only [decide_eq_true_eq,decide_eq_false_iff_not,ByteArray.size,Array.length_toList] at*;omega)
 |(simp;done)
 |(simp [-List.map_map];done)
 |(simp;omega)
 |(simp [cj];done)
 |(simp [cj];omega)
 |(refine ⟨?_,?_,?_,?_,?_,?_⟩<;>first|(simp;done)|(simp [c8,AV.ac,cj];done)|(intro e he;obtain ⟨x,_,rfl⟩:=List.mem_map.1 he;simp [c8,AV.ac,cj];done)|(intro e he;simp only [List.mem_append,List.mem_map] at he;rcases he with ⟨a,_,rfl⟩|he<;>first|(simp [c8,AV.ac,cj];done)|(simp at he;subst he;simp [c8,AV.ac,cj];done))|(simp;omega))
 |(simp only [ByteArray.size_append,bsz,List.size_toArray,List.length_cons,List.length_nil] at*;omega)
 |(simp_all;done)
 |(simp_all;omega)
 |(refine ⟨?_,?_⟩<;>first|assumption|omega|(simp;done)|(simp;omega))
 |(refine ⟨?_,?_,?_⟩<;>first|assumption|omega|(simp;done)|(simp;omega))
 |(refine ⟨?_,?_,?_,?_⟩<;>first|assumption|omega|(simp;done)|(simp;omega))
 |(refine ⟨?_,?_,?_,?_,?_⟩<;>first|assumption|omega|(simp;done)|(simp;omega))
 |(simp [ByteArray.size] at*;omega)
 |grind
 |exact vo.h rfl):p:=h
theorem ct {p:Prop} (h:p:=by
 first
 |assumption
 |exact decide_eq_true (by omega)
 |exact decide_eq_false (by omega)
 |(simp;done)
 |(simp;omega)
 |(simp [cj];done)
 |(simp [cj];omega)
 |(refine ⟨?_,?_,?_,?_,?_,?_⟩<;>first|(simp;done)|(simp [c8,AV.ac,cj];done)|(intro e he;obtain ⟨x,_,rfl⟩:=List.mem_map.1 he;simp [c8,AV.ac,cj];done)|(intro e he;simp only [List.mem_append,List.mem_map] at he;rcases he with ⟨a,_,rfl⟩|he<;>first|(simp [c8,AV.ac,cj];done)|(simp at he;subst he;simp [c8,AV.ac,cj];done))|(simp;omega))
 |(simp_all;done)
 |(simp_all;omega)):p:=h
theorem cs {ps:List Prop} (h:cA ps:=by
 repeat first
  |exact aN
  |refine aC cl ?_):cA ps:=h
theorem ce {p:Prop} (h:p:=by
 first
 |rfl
 |assumption
 |((conv=>rhs;whnf);simp only [List.map_append,List.length_append];rfl)
 |(simp_all;done)
 |(simp_all;rfl)
 |(simp_all;omega)
 |(simp_all [Li.av,Ar.av,Tm.av,Ru.av];done)
 |(simp_all;grind)
 |grind):p:=h
theorem cq {p:Prop} (h:p:=by
 first
 |exact ⟨rfl,rfl⟩
 |exact ⟨rfl,_,rfl⟩
 |exact ⟨rfl,_,rfl,ce⟩
 |exact ⟨rfl,_,by assumption,ce⟩
 |exact ⟨rfl,_,_,rfl,ce⟩
 |exact ⟨rfl,_,rfl,ce,ce⟩
 |exact ⟨rfl,rfl,ce⟩
 |exact ⟨rfl,rfl,ce,ce⟩
 |exact .inl ⟨rfl,ce,rfl⟩
 |exact .inr ⟨rfl,ce,rfl⟩
 |exact .inl ⟨rfl,rfl⟩
 |exact .inr ⟨rfl,rfl⟩
 |exact .inl ⟨rfl,rfl,ce⟩
 |exact .inr ⟨rfl,rfl,ce⟩
 |exact .inl ⟨rfl,_,rfl⟩
 |exact .inr ⟨rfl,_,rfl⟩
 |exact .inl ⟨rfl,_,rfl,ce⟩
 |exact .inr ⟨rfl,_,rfl,ce⟩
 |exact .inl ⟨rfl,_,⟨_,by assumption,ce⟩,rfl⟩
 |exact .inr ⟨rfl,⟨_,by assumption,ce⟩,rfl⟩
 |exact .inl ⟨rfl,⟨_,by assumption,ce⟩,rfl⟩
 |exact ⟨rfl,ce,_,rfl⟩
 |exact ⟨rfl,_,ce,rfl⟩
 |exact ⟨rfl,_,ce,_,rfl⟩
 |exact ⟨rfl,_,_,ce,rfl⟩
 |exact ⟨rfl,_,_,rfl,ce⟩
 |exact ⟨rfl,ce,_,_,rfl⟩
 |exact ⟨rfl,_,rfl,ce,ce⟩
 |exact .inl ⟨rfl,ce,_,rfl⟩
 |exact .inl ⟨rfl,_,ce,rfl⟩
 |exact .inl ⟨rfl,_,ce,_,rfl⟩
 |exact .inl ⟨rfl,_,_,ce,rfl⟩
 |exact .inl ⟨rfl,_,_,rfl,ce⟩
 |exact .inl ⟨rfl,ce,_,_,rfl⟩
 |exact .inl ⟨rfl,_,rfl,ce,ce⟩
 |exact .inr ⟨rfl,ce,_,rfl⟩
 |exact .inr ⟨rfl,_,ce,rfl⟩
 |exact .inr ⟨rfl,_,ce,_,rfl⟩
 |exact .inr ⟨rfl,_,_,ce,rfl⟩
 |exact .inr ⟨rfl,_,_,rfl,ce⟩
 |exact .inr ⟨rfl,ce,_,_,rfl⟩
 |exact .inr ⟨rfl,_,rfl,ce,ce⟩
 |exact .inr (.inl ⟨rfl,ce,_,rfl⟩)
 |exact .inr (.inl ⟨rfl,_,ce,rfl⟩)
 |exact .inr (.inl ⟨rfl,_,ce,_,rfl⟩)
 |exact .inr (.inl ⟨rfl,_,_,ce,rfl⟩)
 |exact .inr (.inl ⟨rfl,_,_,rfl,ce⟩)
 |exact .inr (.inl ⟨rfl,ce,_,_,rfl⟩)
 |exact .inr (.inl ⟨rfl,_,rfl,ce,ce⟩)
 |exact .inr (.inl ⟨rfl,rfl⟩)
 |exact .inr (.inl ⟨rfl,rfl,ce⟩)
 |exact .inr (.inl ⟨rfl,ce,rfl⟩)
 |exact .inr (.inl ⟨rfl,_,rfl⟩)
 |exact .inr (.inl ⟨rfl,_,rfl,ce⟩)
 |exact .inr (.inl ⟨rfl,_,⟨_,by assumption,ce⟩,rfl⟩)
 |exact .inr (.inl ⟨rfl,⟨_,by assumption,ce⟩,rfl⟩)
 |exact .inr (.inr ⟨rfl,ce,_,rfl⟩)
 |exact .inr (.inr ⟨rfl,_,ce,rfl⟩)
 |exact .inr (.inr ⟨rfl,_,ce,_,rfl⟩)
 |exact .inr (.inr ⟨rfl,_,_,ce,rfl⟩)
 |exact .inr (.inr ⟨rfl,_,_,rfl,ce⟩)
 |exact .inr (.inr ⟨rfl,ce,_,_,rfl⟩)
 |exact .inr (.inr ⟨rfl,_,rfl,ce,ce⟩)
 |exact .inr (.inr ⟨rfl,rfl⟩)
 |exact .inr (.inr ⟨rfl,rfl,ce⟩)
 |exact .inr (.inr ⟨rfl,ce,rfl⟩)
 |exact .inr (.inr ⟨rfl,_,rfl⟩)
 |exact .inr (.inr ⟨rfl,_,rfl,ce⟩)
 |exact .inr (.inr ⟨rfl,_,⟨_,by assumption,ce⟩,rfl⟩)
 |exact .inr (.inr ⟨rfl,⟨_,by assumption,ce⟩,rfl⟩)
 |exact ⟨rfl,ce⟩
 |(simp_all;done)):p:=h
section
variable {n b m:Nat} {q:Bool} {f:Func} {r:Code} {Q:cw→St→Prop} {K:List KF} {e:cw} {st:St} {d:List cv} {w:World} {g:FuncId} {vs:List AV} {H:List (Nat×Ob)}
theorem abk {π:List Nat} {K':List KF} {k:Nat} (h:G Proofs.Tryz.prog n q b f r Q K e st d (.ok (m,.int .i8 (zu π K' k)) w)):G Proofs.Tryz.prog n q b f r Q K e st d (.ok (m,.int .i8 (zu π K' k)) w):=h
theorem abg {S D:Prop} [i:KE g vs S D] (h:D) (k:S→G Proofs.Tryz.prog n q b f r Q K e st d (.ok (m,.int .i8 (mZ g vs H)) w)):G Proofs.Tryz.prog n q b f r Q K e st d (.ok (m,.int .i8 (mZ g vs H)) w):=k (i.s h)
theorem abh {ids:List Nat} [KI g ids] (k:GI Proofs.Tryz.prog n q b f r Q K e st d g vs (Sem.run hP (Go.method 1 0 (KG ids H) "") default)):G Proofs.Tryz.prog n q b f r Q K e st d (.ok (m,.int .i8 (mZ g vs H)) w):=k
theorem abi {upd:List (Nat×Ob)} {x:AV} {D:Prop} [i:KT g vs H x upd D] (h:D) (k:bK Proofs.Tryz.prog g vs H x upd→G Proofs.Tryz.prog n q b f r Q K e st (d++[.dO x (H.map Prod.fst) upd]) (Sem.run hP (Go.method 1 0 (cN Proofs.Tryz.prog q b f r K e st (d++[.dO x (H.map Prod.fst) upd])) "") default)):GI Proofs.Tryz.prog n q b f r Q K e st d g vs (.ok (m,.int .i8 (KB H)) w):=k (i.s h)
theorem abj {upd:List (Nat×Ob)} {v:Bool} {D:Prop} [i:KT g vs H (.ak v) upd D] (h:D) (k:v=true→bK Proofs.Tryz.prog g vs H (.ak true) upd→G Proofs.Tryz.prog n q b f r Q K e st (d++[.dO (.ak true) (H.map Prod.fst) upd]) (Sem.run hP (Go.method 1 0 (cN Proofs.Tryz.prog q b f r K e st (d++[.dO (.ak true) (H.map Prod.fst) upd])) "") default)) (k':v=false→bK Proofs.Tryz.prog g vs H (.ak false) upd→G Proofs.Tryz.prog n q b f r Q K e st (d++[.dO (.ak false) (H.map Prod.fst) upd]) (Sem.run hP (Go.method 1 0 (cN Proofs.Tryz.prog q b f r K e st (d++[.dO (.ak false) (H.map Prod.fst) upd])) "") default)):GI Proofs.Tryz.prog n q b f r Q K e st d g vs (.ok (m,.int .i8 (KB H)) w):=by
 have s:=i.s h
 cases v with
 |true=>exact k rfl s
 |false=>exact k' rfl s
end
section
variable {P:Program} {n:Nat} {r:Code} {Q:cw→St→Prop} {π:List Nat} {K K2:List KF} {st s s' S1 S2:St} {e:cw} {a b:Code}
theorem oZ (h:Le n s s'):∀{K:List KF} {e:cw},EK P n r Q K e s'→EK P n r Q K e s
 |[],e,k=>let ⟨t,h1,h2⟩:=k;⟨t,h.ck h1,h2⟩
 | .c π::K,.aj,k=>let ⟨e,t,h1,h2⟩:=k;⟨e,t,h1.ez h,h2⟩
 | .c _::_,.gh _,k=>k
 | .c _::K,.ar i,k=>oZ (K:=K) (e:= .ar i) h k
 | .c _::K,.aR,k=>oZ (K:=K) (e:= .aR) h k
 | .b id::K,.ar i,k=>oZ (K:=K) (e:=if i=id then .aj else .ar i) h k
 | .b _::_,.gh _,k=>k
 | .b _::K,.aj,k=>oZ (K:=K) (e:= .aj) h k
 | .b _::K,.aR,k=>oZ (K:=K) (e:= .aR) h k
theorem mh:∀{K:List KF} {e:cw} {s:St},EK P n r (fun e s=>EK P n r Q K2 e s) K e s→EK P n r Q (K++K2) e s
 |[],e,s,k=>let ⟨t,h1,h2⟩:=k;oZ h1 h2
 | .c π::K,.aj,s,k=>let ⟨e,t,h1,h2⟩:=k;⟨e,t,h1,mh h2⟩
 | .c _::_,.gh _,s,k=>False.elim k
 | .c _::K,.ar i,s,k=>mh (K:=K) (e:= .ar i) k
 | .c _::K,.aR,s,k=>mh (K:=K) (e:= .aR) k
 | .b id::K,.ar i,s,k=>mh (K:=K) (e:=if i=id then .aj else .ar i) k
 | .b _::_,.gh _,s,k=>False.elim k
 | .b _::K,.aj,s,k=>mh (K:=K) (e:= .aj) k
 | .b _::K,.aR,s,k=>mh (K:=K) (e:= .aR) k
theorem KK (hs:qr (sub r π)=true) (k:EK P n r Q (.c (0::π):: .c (1::π)::K) .aj s):EK P n r Q (.c π::K) .aj s:=by
 obtain ⟨a,b,hab⟩:∃a b,sub r π= .seq a b:=by
  revert hs;cases sub r π<;>simp [qr]
 obtain ⟨e1,s1,h1,h2⟩:=k
 have ha:sub r (0::π)=a:=by simp [sub,hab]
 have hb:sub r (1::π)=b:=by simp only [sub,hab];rfl
 rw [ha] at h1
 cases e1 with
 |aj=>
  obtain ⟨e2,s2,h3,h4⟩:=h2
  rw [hb] at h3
  exact ⟨e2,s2,by rw [hab];exact h1.aF h3,h4⟩
 |ar i=>exact ⟨_,s1,by rw [hab];exact h1.Fx (by simp),h2⟩
 |aR=>exact ⟨_,s1,by rw [hab];exact h1.Fx (by simp),h2⟩
 |gh l=>exact False.elim h2
def parts:List Nat→Nat→List KF
 |_,0=>[]
 |π,k+1=> .c (0::π)::parts (1::π) k
def v8:List Nat→Nat→List Nat
 |π,0=>π
 |π,k+1=>v8 (1::π) k
def FC (r:Code):List Nat→Nat→Bool
 |_,0=>true
 |π,k+1=>qr (sub r π)&&FC r (1::π) k
def CR:List KF→Prop
 |[]=>True
 | .c _::K=>CR K
 | .b _::_=>False
theorem o7:∀(k:Nat) (π ρ:List Nat),CR (parts π k++[.c ρ])
 |0,_,_=>trivial
 |k+1,π,ρ=>o7 k (1::π) ρ
theorem ux {e:cw} (he:e≠ .aj):∀{K:List KF},CR K→K≠[]→EK P n r Q K e s→EK P n r Q [.c π] e s
 |[],_,h,_=>absurd rfl h
 | .b _::_,h,_,_=>False.elim h
 | .c ρ::K,h,_,k=>by
   cases e with
   |aj=>exact absurd rfl he
   |gh l=>exact False.elim k
   |ar i=>
    cases K with
    |nil=>exact k
    |cons x K=>exact ux (e:= .ar i) he (K:=x::K) h (by simp) k
   |aR=>
    cases K with
    |nil=>exact k
    |cons x K=>exact ux (e:= .aR) he (K:=x::K) h (by simp) k
theorem v7:∀{k:Nat} {π:List Nat} {s:St},FC r π k=true→EK P n r Q (parts π k++[.c (v8 π k)]) .aj s→EK P n r Q [.c π] .aj s
 |0,π,s,_,h=>h
 |k+1,π,s,hk,h=>by
  simp only [FC,Bool.and_eq_true] at hk
  refine KK hk.1 ?_
  obtain ⟨e,t,h1,h2⟩:=h
  refine ⟨e,t,h1,?_⟩
  by_cases he:e= .aj
  ·subst he;exact v7 hk.2 h2
  ·exact ux he (o7 k (1::π) _) (by simp) h2
theorem Ou (h:EK P n r Q [.c []] .aj st):dm P n r st Q:=by
 obtain ⟨e,s,h1,s1,h2,h3⟩:=h
 exact ⟨e,s1,h3,h1.gV h2⟩
theorem KL (sl:cw→List Nat) (tb:cw→List (Nat×Rk)) (h:EK P n r (QS sl tb Q) [.c []] .aj st):dm P n r st Q:=by
 obtain ⟨e,s,h1,s1,h2,u,ps,h3,h4,h5⟩:=h
 exact ⟨e,u,h5,(h1.gV h2).gV (er h3 (dJ h4))⟩
theorem FD (k:Nat) (hk:FC r [] k=true) (hle:Le n S1 S2) (h:dm P n (sub r (v8 [] k)) S2 Q) (g:EK P n r (fun e s=>e= .aj∧s=S1) (parts [] k) .aj st):dm P n r st Q:=by
 refine Ou (v7 hk (mh ?_))
 have mono:∀{K:List KF} {e:cw} {s:St} {Q1 Q2:cw→St→Prop},(∀e s,Q1 e s→Q2 e s)→EK P n r Q1 K e s→EK P n r Q2 K e s:=by
  intro K
  induction K with
  |nil=>intro e s Q1 Q2 hq k;obtain ⟨t,h1,h2⟩:=k;exact ⟨t,h1,hq _ _ h2⟩
  |cons x K ih=>
   intro e s Q1 Q2 hq k
   cases x with
   |c π=>cases e with
    |aj=>obtain ⟨e,t,h1,h2⟩:=k;exact ⟨e,t,h1,ih hq h2⟩
    |gh l=>exact k
    |ar i=>exact ih (e:= .ar i) hq k
    |aR=>exact ih (e:= .aR) hq k
   |b id=>cases e with
    |aj=>exact ih (e:= .aj) hq k
    |gh l=>exact k
    |ar i=>exact ih (e:=if i=id then .aj else .ar i) hq k
    |aR=>exact ih (e:= .aR) hq k
 refine mono ?_ g
 rintro e s ⟨rfl,rfl⟩
 obtain ⟨e,t,h1,h2⟩:=h
 exact ⟨e,t,h2.ez hle,t,Le.bb _,h1⟩
end
theorem Ot {n:Nat} {s t:St} (q:Bool:=true) (h:GC s t n (Sem.run hP (Go.method 1 0 (uw q s t) "") default):=by go_invoke;exact UE (by kernel_rfl) ce cs):Le n s t:=h
theorem auS {p:Prop} (h:p:=by
 repeat' (
  go_invoke
  first
  |refine UF (by kernel_rfl) cs ?_
  |(refine abk ?_;first
   |refine g_l (by first|assumption|(refine (‹_→bJ _ _ _ _ _ _›) ?_;exact cl)|(refine (‹_→_→bJ _ _ _ _ _ _›) ?_ ?_<;>exact cl)) (by kernel_rfl) (by go_invoke;exact UE (by kernel_rfl) ce cs) ?_
   |(rcases (by first
     |assumption
     |(have h:=(‹_→(∃_,bJ _ _ (O _ 0) _ _ _∧_)∨_›) cl;exact h)|(have h:=(‹_→_→(∃_,bJ _ _ (O _ 0) _ _ _∧_)∨_›) cl cl;exact h)
     |(have h:=(‹_→_∨_›) cl;exact h)|(have h:=(‹_→_→_∨_›) cl cl;exact h):(∃_,bJ _ _ (O _ 0) _ _ _∧_)∨_) with h|h<;>first
    |(obtain ⟨_,h1,h2⟩:=h;refine g_l h1 (by kernel_rfl) (by go_invoke;exact UE (by kernel_rfl) ce cs) ?_)
    |(obtain ⟨_,h1⟩:=h;refine g_l h1 (by kernel_rfl) (by go_invoke;exact UE (by kernel_rfl) ce cs) ?_)
    |(obtain ⟨h1,h2⟩:=h;refine g_l h1 (by kernel_rfl) (by go_invoke;exact UE (by kernel_rfl) ce cs) ?_)
    |refine g_l h (by kernel_rfl) (by go_invoke;exact UE (by kernel_rfl) ce cs) ?_)
   |(rcases (by first
     |assumption
     |(have h:=(‹_→(∃_,bJ _ _ (O _ 1) _ _ _∧_)∨_›) cl;exact h)|(have h:=(‹_→_→(∃_,bJ _ _ (O _ 1) _ _ _∧_)∨_›) cl cl;exact h):(∃_,bJ _ _ (O _ 1) _ _ _∧_)∨_) with h|h<;>first
    |(obtain ⟨_,h1,h2⟩:=h;refine g_l h1 (by kernel_rfl) (by go_invoke;exact UE (by kernel_rfl) ce cs) ?_)
    |(obtain ⟨_,h1⟩:=h;refine g_l h1 (by kernel_rfl) (by go_invoke;exact UE (by kernel_rfl) ce cs) ?_)
    |(obtain ⟨h1,h2⟩:=h;refine g_l h1 (by kernel_rfl) (by go_invoke;exact UE (by kernel_rfl) ce cs) ?_)
    |refine g_l h (by kernel_rfl) (by go_invoke;exact UE (by kernel_rfl) ce cs) ?_)
   |(rcases (by first
     |assumption
     |(have h:=(‹_→_∨_›) cl;exact h)|(have h:=(‹_→_→_∨_›) cl cl;exact h):_∨_) with h|h<;>first
    |(obtain ⟨_,h1,h2⟩:=h;refine g_l h1 (by kernel_rfl) (by go_invoke;exact UE (by kernel_rfl) ce cs) ?_)
    |(obtain ⟨_,h1⟩:=h;refine g_l h1 (by kernel_rfl) (by go_invoke;exact UE (by kernel_rfl) ce cs) ?_)
    |(obtain ⟨h1,h2⟩:=h;refine g_l h1 (by kernel_rfl) (by go_invoke;exact UE (by kernel_rfl) ce cs) ?_)
    |refine g_l h (by kernel_rfl) (by go_invoke;exact UE (by kernel_rfl) ce cs) ?_))
  |refine g_e (by assumption) ?_
  |(refine aa9 (by omega) (by first|exact Int.toNat_natCast _|rfl) (by first|assumption|omega|(simp;omega)) ?_;intro x hx hx')
  |(refine aa' (by first|(simp only [Nat.zero_add,Int.toNat_natCast];done)|rfl) (by first|assumption|omega|(simp;omega)) ?_;intro x hx hx')
  |(refine aa7 (by omega) (by first|exact Int.toNat_natCast _|rfl) (by first|assumption|omega|(simp;omega)|(simp only [decide_eq_true_eq,decide_eq_false_iff_not] at*;omega)|(simp_all;omega)) ?_;intro x hx hx')
  |(refine aa8 (by first|assumption|exact KS.s cl|(refine (‹_→bK _ _ _ _ _ _›) ?_;exact cl)|(refine (‹_→_→bK _ _ _ _ _ _›) ?_ ?_<;>exact cl)) ?_ ?_<;>(intro h hs;try (cases h;done)))
  |(refine g_c (by first|assumption|exact KS.s cl|(refine (‹_→bK _ _ _ _ _ _›) ?_;exact cl)|(refine (‹_→_→bK _ _ _ _ _ _›) ?_ ?_<;>exact cl)) ?_;intro hs)
  |(refine abh ?_;go_invoke;first
   |(refine abj cl ?_ ?_<;>(intro h hs;try (cases h;done)))
   |(refine abi cl ?_;intro hs)
   |(refine g_cu cl ?_;intro hk;first
    |(obtain ⟨_,hs,hk⟩:=hk;first|(refine aa8 hs ?_ ?_<;>(intro h _;try (cases h;done)))|(refine g_c hs ?_;intro _))
    |(obtain ⟨_,_,hs,hk⟩:=hk;first|(refine aa8 hs ?_ ?_<;>(intro h _;try (cases h;done)))|(refine g_c hs ?_;intro _))
    |(obtain ⟨_,hs⟩:=hk;first|(refine aa8 hs ?_ ?_<;>(intro h _;try (cases h;done)))|(refine g_c hs ?_;intro _))))
  |(refine abg cl ?_;intro hk;first
   |(obtain ⟨_,hs,hk⟩:=hk;first|(refine aa8 hs ?_ ?_<;>(intro h _;try (cases h;done)))|(refine g_c hs ?_;intro _))
   |(obtain ⟨_,_,hs,hk⟩:=hk;first|(refine aa8 hs ?_ ?_<;>(intro h _;try (cases h;done)))|(refine g_c hs ?_;intro _))
   |(obtain ⟨_,hs⟩:=hk;first|(refine aa8 hs ?_ ?_<;>(intro h _;try (cases h;done)))|(refine g_c hs ?_;intro _)))
  |refine g_t ct ?_
  |refine g_f ct ?_
  |(refine g_b ?_ ?_<;>intro h)
  |refine aba (by first|assumption|exact ⟨_,rfl,rfl⟩) ?_
  |refine abb (by first|assumption|rfl) ?_
  |refine abf (by first|assumption|rfl) ?_
  |refine abe (by first|assumption|rfl) ?_
  |refine g_xn (by first|assumption|omega) ?_
  |(refine g_n (by kernel_rfl) (by first|exact ⟨rfl,rfl⟩|exact ⟨rfl,_,by assumption,rfl⟩) ?_;go_invoke;refine UE (by kernel_rfl) ce cs)
  |(refine g_m (by kernel_rfl) ?_;go_invoke;refine d_d (by kernel_rfl) cq cs)
  |(exfalso;first|omega|(simp only [decide_eq_true_eq,decide_eq_false_iff_not] at*;omega)|(simp_all;omega)))):p:=h
section
variable {n:Nat} {r:Code} {Q Q':cw→St→Prop} {st:St} {K:List KF}
theorem au {R:Prop} (f:Func) (b:Nat) (q:Bool:=true) (hr:EK Proofs.Tryz.prog n r Q' K .aj st→R:=by exact Ou) (h:G Proofs.Tryz.prog n q b f r Q' K .aj st [] (Sem.run hP (Go.method 1 0 (cN Proofs.Tryz.prog q b f r K .aj st []) "") default):=by exact auS):R:=hr h
end
end
def jG:List ResultVar→AV→List (Nat×AV)
 |[.tmp s],r=>[(s,r)]
 | .tmp s::l,.bC (x::xs)=>(s,x)::Ov l xs
 |_,_=>[]
where Ov:List ResultVar→List AV→List (Nat×AV)
 | .tmp s::l,x::xs=>(s,x)::Ov l xs
 |_,_=>[]
theorem zK {P:Program} {f:FuncId} (fn:Func) (n:Nat) {args:List AV} {r:AV} (h:EK P n (ai fn) (fun e t=>e= .aR∧t=⟨jG fn.results.toList r,[]⟩) [.c []] .aj ⟨bO 0 args,[]⟩) (hn:args.length+(fn.ntmps-args.length)=n:=by kernel_rfl) (hf:P.funcs[f]? =some fn:=by kernel_rfl) (hb:fn.body=some (ai fn):=by kernel_rfl) (ha:aa args=true:=by first|rfl|simp [aa,aJ]) (hr:gW P ⟨jG fn.results.toList r,[]⟩ fn.results.toList=some r:=by kernel_rfl) (hi:aJ r=true:=by first|rfl|simp [aa,aJ]):bK P f args [] r []:=by
 subst hn
 obtain ⟨e,t,⟨rfl,rfl⟩,q⟩:=Ou h
 exact bK.jb hf hb ha q (.inr rfl) hr hi
def Ow (l:List ResultVar):List Nat:=l.map fun| .tmp s=>s| .cell a _=>a
theorem zK2 {P:Program} {f:FuncId} (fn:Func) (n:Nat) {args:List AV} {r:AV} (h:EK P n (ai fn) (QS (fun _=>Ow fn.results.toList) (fun _=>[]) (fun e t=>e= .aR∧∃x:AV,t=⟨jG fn.results.toList x,[]⟩∧x=r)) [.c []] .aj ⟨bO 0 args,[]⟩) (hn:args.length+(fn.ntmps-args.length)=n:=by kernel_rfl) (hf:P.funcs[f]? =some fn:=by kernel_rfl) (hb:fn.body=some (ai fn):=by kernel_rfl) (ha:aa args=true:=by first|rfl|simp [aa,aJ]) (hr:gW P ⟨jG fn.results.toList r,[]⟩ fn.results.toList=some r:=by kernel_rfl) (hi:aJ r=true:=by first|rfl|simp [aa,aJ]):bK P f args [] r []:=by
 subst hn
 obtain ⟨e,t,⟨rfl,_,rfl,rfl⟩,q⟩:=KL _ _ h
 exact bK.jb hf hb ha q (.inr rfl) hr hi
theorem zG {P:Program} {f:FuncId} (fn:Func) (n:Nat) {args:List AV} {r:AV} {pre upd:List (Nat×Ob)} (h:EK P n (ai fn) (fun e t=>e= .aR∧t=⟨jG fn.results.toList r,upd⟩) [.c []] .aj ⟨bO 0 args,pre⟩) (ho:∀id o,(id,o)∈pre→bg (gX pre) o=o) (hn:args.length+(fn.ntmps-args.length)=n:=by kernel_rfl) (hf:P.funcs[f]? =some fn:=by kernel_rfl) (hb:fn.body=some (ai fn):=by kernel_rfl) (hpre:kn pre=true:=by rfl) (huq:cM upd=true:=by rfl) (hg:bW (gX pre) args=args:=by rfl) (hr:gW P ⟨jG fn.results.toList r,upd⟩ fn.results.toList=some r:=by kernel_rfl):bK P f args pre r upd:=by
 subst hn
 obtain ⟨e,t,⟨rfl,rfl⟩,q⟩:=Ou h
 exact bK.vR hf hb hpre huq hg ho q (.inr rfl) hr
theorem zT {P:Program} {f:FuncId} (fn:Func) (n:Nat) {args:List AV} {r:AV} {pre:List (Nat×Ob)} (h:EK P n (ai fn) (fun e t=>e= .aR∧t=⟨jG fn.results.toList r,pre⟩) [.c []] .aj ⟨bO 0 args,pre⟩) (ho:∀id o,(id,o)∈pre→bg (gX pre) o=o) (hn:args.length+(fn.ntmps-args.length)=n:=by kernel_rfl) (hf:P.funcs[f]? =some fn:=by kernel_rfl) (hb:fn.body=some (ai fn):=by kernel_rfl) (hpre:kn pre=true:=by rfl) (huq:cM pre=true:=by rfl) (hg:bW (gX pre) args=args:=by rfl) (hr:gW P ⟨jG fn.results.toList r,pre⟩ fn.results.toList=some r:=by kernel_rfl):bK P f args pre r []:=by
 subst hn
 obtain ⟨e,t,⟨rfl,rfl⟩,q⟩:=Ou h
 exact bK.Of hf hb hpre huq hg ho q (.inr rfl) hr
theorem aK {i:FuncId} {args:List AV} {r:AV} (f:Func) (b n:Nat) (q:Bool:=true) (h:G Proofs.Tryz.prog n q b f (ai f) (fun e t=>e= .aR∧t=⟨jG f.results.toList r,[]⟩) [.c []] .aj ⟨bO 0 args,[]⟩ [] (Sem.run hP (Go.method 1 0 (cN Proofs.Tryz.prog q b f (ai f) [.c []] .aj ⟨bO 0 args,[]⟩ []) "") default):=by exact auS) (hn:args.length+(f.ntmps-args.length)=n:=by kernel_rfl) (hf:Proofs.Tryz.prog.funcs[i]? =some f:=by kernel_rfl) (hb:f.body=some (ai f):=by kernel_rfl) (ha:aa args=true:=by first|rfl|simp [aa,aJ]) (hr:gW Proofs.Tryz.prog ⟨jG f.results.toList r,[]⟩ f.results.toList=some r:=by kernel_rfl) (hi:aJ r=true:=by first|rfl|simp [aa,aJ]):bK Proofs.Tryz.prog i args [] r []:=zK f n h hn hf hb ha hr hi
theorem aL {i:FuncId} {args:List AV} {r:AV} (f:Func) (b n:Nat) (q:Bool:=true) (h:G Proofs.Tryz.prog n q b f (ai f) (QS (fun _=>Ow f.results.toList) (fun _=>[]) (fun e t=>e= .aR∧∃x:AV,t=⟨jG f.results.toList x,[]⟩∧x=r)) [.c []] .aj ⟨bO 0 args,[]⟩ [] (Sem.run hP (Go.method 1 0 (cN Proofs.Tryz.prog q b f (ai f) [.c []] .aj ⟨bO 0 args,[]⟩ []) "") default):=by exact auS) (hn:args.length+(f.ntmps-args.length)=n:=by kernel_rfl) (hf:Proofs.Tryz.prog.funcs[i]? =some f:=by kernel_rfl) (hb:f.body=some (ai f):=by kernel_rfl) (ha:aa args=true:=by first|rfl|simp [aa,aJ]) (hr:gW Proofs.Tryz.prog ⟨jG f.results.toList r,[]⟩ f.results.toList=some r:=by kernel_rfl) (hi:aJ r=true:=by first|rfl|simp [aa,aJ]):bK Proofs.Tryz.prog i args [] r []:=zK2 f n h hn hf hb ha hr hi
theorem aG {i:FuncId} {args:List AV} {r:AV} {pre upd:List (Nat×Ob)} (f:Func) (b n:Nat) (ho:∀id o,(id,o)∈pre→bg (gX pre) o=o) (q:Bool:=true) (h:G Proofs.Tryz.prog n q b f (ai f) (fun e t=>e= .aR∧t=⟨jG f.results.toList r,upd⟩) [.c []] .aj ⟨bO 0 args,pre⟩ [] (Sem.run hP (Go.method 1 0 (cN Proofs.Tryz.prog q b f (ai f) [.c []] .aj ⟨bO 0 args,pre⟩ []) "") default):=by exact auS) (hn:args.length+(f.ntmps-args.length)=n:=by kernel_rfl) (hf:Proofs.Tryz.prog.funcs[i]? =some f:=by kernel_rfl) (hb:f.body=some (ai f):=by kernel_rfl) (hpre:kn pre=true:=by rfl) (huq:cM upd=true:=by rfl) (hg:bW (gX pre) args=args:=by rfl) (hr:gW Proofs.Tryz.prog ⟨jG f.results.toList r,upd⟩ f.results.toList=some r:=by kernel_rfl):bK Proofs.Tryz.prog i args pre r upd:=zG f n h ho hn hf hb hpre huq hg hr
theorem aU {i:FuncId} {args:List AV} {r:AV} {pre:List (Nat×Ob)} (f:Func) (b n:Nat) (ho:∀id o,(id,o)∈pre→bg (gX pre) o=o) (q:Bool:=true) (h:G Proofs.Tryz.prog n q b f (ai f) (fun e t=>e= .aR∧t=⟨jG f.results.toList r,pre⟩) [.c []] .aj ⟨bO 0 args,pre⟩ [] (Sem.run hP (Go.method 1 0 (cN Proofs.Tryz.prog q b f (ai f) [.c []] .aj ⟨bO 0 args,pre⟩ []) "") default):=by exact auS) (hn:args.length+(f.ntmps-args.length)=n:=by kernel_rfl) (hf:Proofs.Tryz.prog.funcs[i]? =some f:=by kernel_rfl) (hb:f.body=some (ai f):=by kernel_rfl) (hpre:kn pre=true:=by rfl) (huq:cM pre=true:=by rfl) (hg:bW (gX pre) args=args:=by rfl) (hr:gW Proofs.Tryz.prog ⟨jG f.results.toList r,pre⟩ f.results.toList=some r:=by kernel_rfl):bK Proofs.Tryz.prog i args pre r []:=zT f n h ho hn hf hb hpre huq hg hr
theorem aS {n:Nat} {r:Code} {Q:cw→St→Prop} {st:St} (f:Func) (b:Nat) (sl:List Nat) (tb:List (Nat×Rk):=[]) (q:Bool:=true) (h:G Proofs.Tryz.prog n q b f r (QS (fun _=>sl) (fun _=>tb) Q) [.c []] .aj st [] (Sem.run hP (Go.method 1 0 (cN Proofs.Tryz.prog q b f r [.c []] .aj st []) "") default):=by exact auS):dm Proofs.Tryz.prog n r st Q:=KL _ _ h
theorem aZ {n:Nat} {r:Code} {Q:cw→St→Prop} {st:St} (f:Func) (b:Nat) (s1 s2:List Nat) (tb:List (Nat×Rk):=[]) (q:Bool:=true) (h:G Proofs.Tryz.prog n q b f r (QS (I8 s1 s2) (fun _=>tb) Q) [.c []] .aj st [] (Sem.run hP (Go.method 1 0 (cN Proofs.Tryz.prog q b f r [.c []] .aj st []) "") default):=by exact auS):dm Proofs.Tryz.prog n r st Q:=KL _ _ h
set_option maxRecDepth 20000
set_option maxHeartbeats 800000
theorem k90 (b:Bool):Sp 90 [.ak b] [] (sI (if b then 0 else 40)) []:=by
 cases b with
 |true=>
  exact aK Tryz.f90 0 4
 |false=>
  exact aK Tryz.f90 0 4
@[reducible,instance] def abm (b:Bool):=kT (k90 b)
section
variable (s:ByteArray) (t:Tm)
def iL {X R:Type} (l:List X) (step:X→Option R) (S:Nat→St) (E:R→St) (i:Nat) (e:cw) (t:St):Prop:=
 (e= .aR∧∃r,(∃y,l[i]? =some y∧step y=some r)∧t=E r)∨(e= .aj∧(∃y,l[i]? =some y∧step y=none)∧t=S (i+1))
section
variable {n:Nat} {c:Code} {st:St} {X R:Type} {l:List X} {step:X→Option R} {S:Nat→St} {E:R→St} {i:Nat} {y:X} {cs:List Prop}
theorem lkN (hy:l[i]? =some y) (hs:step y=none) (base:Nat) (sc:List cv) (slots:List Nat) (tb:List (Nat×Rk)) (h:mV Tryz.prog n base c sc st slots tb=some (.aj,S (i+1),cs)) (hc:cA cs):En n c st (iL l step S E i):=
 ⟨_,_,.inr ⟨rfl,⟨_,hy,hs⟩,rfl⟩,gA base sc slots tb h hc⟩
theorem lkR {r:R} (hy:l[i]? =some y) (hs:step y=some r) (base:Nat) (sc:List cv) (slots:List Nat) (tb:List (Nat×Rk)) (h:mV Tryz.prog n base c sc st slots tb=some (.aR,E r,cs)) (hc:cA cs):En n c st (iL l step S E i):=
 ⟨_,_,.inl ⟨rfl,_,⟨_,hy,hs⟩,rfl⟩,gA base sc slots tb h hc⟩
end
theorem bN {P:Program} {n:Nat} {c:Code} {X R:Type} {l:List X} {k:Nat} (S:Nat→St) (T:St) (E:R→St) (step:X→Option R)
  (turn:∀i,i<l.length→dm P n c (S i) (iL l step S E i))
  (stop:dm P n c (S l.length) (fun e t=>e= .ar k∧t=T)):
  (∃r,bJ P n c (S 0) .aR (E r)∧l.findSome? step=some r)∨(bJ P n c (S 0) (.ar k) T∧l.findSome? step=none):=by
 have go:∀d i,i+d=l.length→(∃r,bJ P n c (S i) .aR (E r)∧(l.drop i).findSome? step=some r)∨(bJ P n c (S i) (.ar k) T∧(l.drop i).findSome? step=none):=by
  intro d
  induction d with
  |zero=>
   intro i hi
   have:i=l.length:=by omega
   subst this
   obtain ⟨e,s,⟨rfl,rfl⟩,h⟩:=stop
   exact .inr ⟨.bD h (by simp),by simp⟩
  |succ d ih=>
   intro i hi
   have hlt:i<l.length:=by omega
   obtain ⟨e,s,⟨rfl,r,⟨y,hy,hs⟩,rfl⟩|⟨rfl,⟨y,hy,hs⟩,rfl⟩,h⟩:=turn i hlt
   ·refine .inl ⟨r,.bD h (by simp),?_⟩
    rw [List.drop_eq_getElem_cons hlt,List.findSome?_cons]
    rw [List.getElem?_eq_getElem hlt] at hy;injection hy with hy;rw [hy,hs]
   ·have e1:(l.drop i).findSome? step=(l.drop (i+1)).findSome? step:=by
     rw [List.drop_eq_getElem_cons hlt,List.findSome?_cons]
     rw [List.getElem?_eq_getElem hlt] at hy;injection hy with hy;rw [hy,hs]
    rcases ih (i+1) (by omega) with ⟨r,h1,h2⟩|⟨h1,h2⟩
    ·exact .inl ⟨r,.cR h h1,e1.trans h2⟩
    ·exact .inr ⟨.cR h h1,e1.trans h2⟩
 simpa using go l.length 0 (by omega)
def A0 {X:Type} (l:List X) (p:X→Bool) (S E:Nat→St) (i:Nat) (e:cw) (t:St):Prop:=
 (e= .aR∧(∃y,l[i]? =some y∧p y=true)∧t=E i)∨(e= .aj∧(∃y,l[i]? =some y∧p y=false)∧t=S (i+1))
section
variable {X R:Type} {l:List X} {f:X→Option R} {p:X→Bool} {S T:Nat→St} {E:R→St} {i:Nat} {y:X} {r:R}
theorem A1 (hy:l[i]? =some y) (hs:f y=none):iL l f S E i .aj (S (i+1)):=.inr ⟨rfl,⟨_,hy,hs⟩,rfl⟩
theorem A2 (hy:l[i]? =some y) (hs:f y=some r):iL l f S E i .aR (E r):=.inl ⟨rfl,_,⟨_,hy,hs⟩,rfl⟩
theorem UQ (hy:l[i]? =some y) (hs:p y=false):A0 l p S T i .aj (S (i+1)):=.inr ⟨rfl,⟨_,hy,hs⟩,rfl⟩
theorem UR (hy:l[i]? =some y) (hs:p y=true):A0 l p S T i .aR (T i):=.inl ⟨rfl,⟨_,hy,hs⟩,rfl⟩
end
section
variable {n:Nat} {c:Code} {st:St} {X:Type} {l:List X} {p:X→Bool} {S E:Nat→St} {i:Nat} {y:X} {cs:List Prop}
theorem ixN (hy:l[i]? =some y) (hs:p y=false) (base:Nat) (sc:List cv) (slots:List Nat) (tb:List (Nat×Rk)) (h:mV Tryz.prog n base c sc st slots tb=some (.aj,S (i+1),cs)) (hc:cA cs):En n c st (A0 l p S E i):=
 ⟨_,_,.inr ⟨rfl,⟨_,hy,hs⟩,rfl⟩,gA base sc slots tb h hc⟩
theorem ixR (hy:l[i]? =some y) (hs:p y=true) (base:Nat) (sc:List cv) (slots:List Nat) (tb:List (Nat×Rk)) (h:mV Tryz.prog n base c sc st slots tb=some (.aR,E i,cs)) (hc:cA cs):En n c st (A0 l p S E i):=
 ⟨_,_,.inl ⟨rfl,⟨_,hy,hs⟩,rfl⟩,gA base sc slots tb h hc⟩
end
theorem qx {P:Program} {n:Nat} {c:Code} {X:Type} {l:List X} {k:Nat} (S:Nat→St) (T:St) (E:Nat→St) (p:X→Bool) (turn:∀i,i<l.length→dm P n c (S i) (A0 l p S E i)) (stop:dm P n c (S l.length) (fun e t=>e= .ar k∧t=T)):
  (∃r,bJ P n c (S 0) .aR (E r)∧l.any p=true)∨(bJ P n c (S 0) (.ar k) T∧l.any p=false):=by
 rcases kV (P:=P) (n:=n) (c:=c) (N:=l.length) (k:=k) S T (fun t=>∃r,t=E r∧l.any p=true) (fun i=>∃y,l[i]? =some y∧p y=false) (fun i hi=>by
  obtain ⟨e,s,⟨rfl,⟨y,hy,hs⟩,rfl⟩|⟨rfl,hy,rfl⟩,h⟩:=turn i hi
  ·exact ⟨_,_,.inl ⟨rfl,i,rfl,List.any_eq_true.2 ⟨y,List.mem_of_getElem? hy,hs⟩⟩,h⟩
  ·exact ⟨_,_,.inr ⟨rfl,rfl,hy⟩,h⟩) stop with ⟨t,h,r,rfl,ha⟩|⟨h,hr⟩
 ·exact .inl ⟨r,h,ha⟩
 ·refine .inr ⟨h,List.any_eq_false.2 fun x hx=> ?_⟩
  obtain ⟨i,hi⟩:=List.getElem?_of_mem hx
  obtain ⟨y,hy,hs⟩:=hr i (List.getElem?_eq_some_iff.1 hi).1
  rw [hi] at hy;injection hy with hy;simp [hy,hs]
def ml (c:UInt8):Bool:=decide (97≤c.toNat∧c.toNat≤122∨65≤c.toNat∧c.toNat≤90∨48≤c.toNat∧c.toNat≤57∨c.toNat=95)
@[grind] def fj (n:Int) (b:Bool):Int:=if b then 0 else n
@[simp] theorem UX (n:Int):fj n true=0:=rfl
@[simp] theorem UW (n:Int):fj n false=n:=rfl
theorem wc {n:Int} {b:Bool} (h:n≠0):fj n b=0↔b=true:=by cases b<;>simp [h]
@[simp] theorem UU {b:Bool}:fj 10 b=0↔b=true:=wc (by decide)
@[simp] theorem UV {b:Bool}:fj 40 b=0↔b=true:=wc (by decide)
def wb (k n:Int) (s:ByteArray):Bool:=decide (k=1∧s=⟨#[]⟩∨k=2∧n=0∧s.size≤200)
def iM (c:UInt8):Option Bool:=if ml c=true then none else some false
attribute [local simp,local grind] wb fj in
theorem OE (k n:Int) (s:ByteArray):Sp 177 [.al [sJ k,sI n,.J s]] [] (sI ((fj 10 (wb k n s)))) []:=aL Tryz.f177 0 21
@[reducible,instance] def UO (k n:Int) (s:ByteArray):=kT (OE k n s)
abbrev KM (s:ByteArray) (i:Int):St:=⟨[(30,.aF (s.data.toList.map CD) false),(31,sI ((s.data.toList.map CD).length:Nat)),(32,sI i)],[]⟩
def cS (s:ByteArray) (a b:Int):Bool:=decide (¬(s.size:Int)=0)&&decide (¬(120:Int)<s.size)&&(match s.data.toList[0]? with
 |some c=>decide (¬(c.toNat:Int)<a)&&decide (¬b<(c.toNat:Int))
 |none=>false)&&s.data.toList.all ml
@[grind→] theorem qy:∀{l:List UInt8},l.findSome? iM=none→l.all ml=true
  |[],_=>rfl
  |c::r,h=>by
   rw [List.findSome?_cons] at h
   by_cases hc:ml c=true
   ·simp only [iM,if_pos hc] at h;rw [List.all_cons,hc,qy (l:=r) h];rfl
   ·simp only [iM,if_neg hc] at h;cases h
@[grind→] theorem wa:∀{l:List UInt8} {b:Bool},l.findSome? iM=some b→b=false∧l.all ml=false
  |[],b,h=>by simp at h
  |c::r,b,h=>by
   rw [List.findSome?_cons] at h
   by_cases hc:ml c=true
   ·simp only [iM,if_pos hc] at h
    obtain ⟨h1,h2⟩:=wa (l:=r) h
    exact ⟨h1,by rw [List.all_cons,h2,Bool.and_false]⟩
   ·simp only [iM,if_neg hc] at h
    injection h with h
    exact ⟨h.symm,by rw [List.all_cons];simp [hc]⟩
attribute [local simp,local grind] iM ml in
attribute [local simp,local grind] cS in
theorem OA (a b:Int):Sp 143 [.J s,.aP .u8 a,.aP .u8 b] [] (.ak (cS s a b)) []:=by
 have o0:=fun (hs:s.data.toList.length<1000000000000000)=>bN (P:=Tryz.prog) (n:=63) (c:=O Tryz.f143 0) (k:=0) (l:=s.data.toList) (fun i=>KM s (i:Nat)) ⟨[],[]⟩ (fun rb:Bool=>⟨[(6,.ak rb)],[]⟩) iM (fun i hi=>aZ Tryz.f143 0 [30,31,32] [6]) (au Tryz.f143 0)
 exact aL Tryz.f143 0 63
@[reducible,instance] def UK (s:ByteArray) (a b:Int):=kT (OA s a b)
def mm (t:Tm):Bool:=if t.v=⟨#[]⟩ then wb t.k t.n t.s else decide (t.k=0∧t.n=0∧t.s=⟨#[]⟩)&&(decide (t.v=⟨#[95]⟩)||cS t.v 65 90)
def CS (s:ByteArray):Bool:=decide (s=⟨#[110,111,116]⟩)||decide (s=⟨#[99,111,117,110,116]⟩)||decide (s=⟨#[115,117,109]⟩)||decide (s=⟨#[109,105,110]⟩)||decide (s=⟨#[109,97,120]⟩)||decide (s=⟨#[108,101,110]⟩)||decide (s=⟨#[99,104,97,114,115]⟩)||decide (s=⟨#[98,97,99,107]⟩)
attribute [local simp,local grind] CS in
theorem US:Sp 87 [.J s] [] (.ak ((!CS s&&cS s 97 122))) []:=aL Tryz.f87 0 15
@[reducible,instance] def aaf (s:ByteArray):=kT (US s)
attribute [local simp,local grind] mm fj in
theorem Oz:Sp 125 [t.av] [] (sI ((fj 40 (mm t)))) []:=aL Tryz.f125 0 26
@[reducible,instance] def UJ (t:Tm):=kT (Oz t)
def m8 (t:Tm):Bool:= !decide (t.v=⟨#[95]⟩)&&mm t
def m7 (op:Int):Int:=if op=1∨op=8∨op=9∨op=10 then 1 else if 2≤op∧op≤7 then 2 else-1
def FE (t:Tm):Bool:=decide (t.v=⟨#[]⟩)&&(decide (t.k=0)&&(decide (t.n=0)&&decide (t.s=⟨#[]⟩)))
attribute [local simp,local grind] m8 in
theorem OB:Sp 144 [t.av] [] (.ak ((m8 t))) []:=aL Tryz.f144 0 11
@[reducible,instance] def UL (t:Tm):=kT (OB t)
theorem Oy:Sp 124 [t.av] [] (.ak ((!mm t))) []:=aL Tryz.f124 0 6
@[reducible,instance] def UI (t:Tm):=kT (Oy t)
attribute [local simp,local grind] FE in
theorem OC:Sp 145 [t.av] [] (.ak ((FE t))) []:=aL Tryz.f145 0 6
@[reducible,instance] def UM (t:Tm):=kT (OC t)
attribute [local simp,local grind] m7 in
theorem OF (op:Int):Sp 226 [sJ op] [] (sI ((m7 op))) []:=aL Tryz.f226 0 16
@[reducible,instance] def UP (op:Int):=kT (OF op)
def r9 (x:Ex):Bool:=decide (x.op=0)&&FE x.t&&decide (x.ax.length=0)
def qz (a:Ar):Bool:=if a.g=0 then m8 a.t else if a.g=1 then FE a.t else if 2≤a.g∧a.g≤4 then !decide (a.t.v=⟨#[]⟩)&&m8 a.t else false
attribute [local simp,local grind] r9 in
theorem OD (x:Ex):Sp 146 [.al x.ac] [] (.ak ((r9 x))) []:=aL Tryz.f146 0 17
@[reducible,instance] def UN (x:Ex):=kT (OD x)
attribute [local simp,local grind] qz in
theorem UT (a:Ar):Sp 88 [a.av] [] (.ak ((qz a))) []:=aL Tryz.f88 0 28
@[reducible,instance] def aag (a:Ar):=kT (UT a)
abbrev KN (ts:List Tm) (i:Int):St:=⟨[(0,sT ts),(1,.bZ 124 [] []),(7,sI ((ts.map Tm.av).length:Nat)),(8,sI i)],[]⟩
theorem Ox (ts:List Tm) (hsm:ts.length≤9223372036854775807):En 19 (ai Tryz.f178) (⟨[(0,sT ts),(1,.bZ 124 [] [])],[]⟩) (fun eo so=>eo= .aR∧∃rn:Int,so=⟨[(4,sI rn)],[]⟩∧(decide (0≤rn)=ts.any (fun t=> !mm t))):=by
 have o0:=qx (P:=Tryz.prog) (n:=19) (c:=O Tryz.f178 0) (k:=0) (l:=ts) (fun i=>KN ts (i:Nat)) ⟨[],[]⟩ (fun rn:Nat=>⟨[(4,sI rn)],[]⟩) (fun t=> !mm t) (fun i hi=>aZ Tryz.f178 0 [0,1,7,8] [4]) (au Tryz.f178 0)
 exact aS Tryz.f178 0 [4]
end
section
variable (ts:List Tm)
def od (p:ByteArray):Bool:= !CS p&&cS p 97 122
def lh (p:ByteArray) (ts:List Tm):Bool:=od p&&decide (ts.length≤24)&&ts.all mm
theorem OI:∃rn:Int,Sp 178 [sT ts,.bZ 124 [] []] [] (sI rn) []∧(decide (0≤rn)=ts.any (fun t=> !mm t)):=by
 by_cases hl:(ts.map Tm.av).length≤maxLen
 ·obtain ⟨_,_,⟨rfl,rn,rfl,hr⟩,h⟩:=Ox ts (by simpa [maxLen] using hl)
  exact ⟨rn,sP Tryz.f178 (by simp [aa,aJ]) h (.inr rfl),hr⟩
 ·exact ⟨if ts.any (fun t=> !mm t)=true then 0 else-1,bK.dY _ ⟨_,by simp,false,.inl rfl⟩ fun h=>absurd h hl,by cases ts.any (fun t=> !mm t)<;>simp⟩
instance UZ (ts:List Tm):KE 178 [sT ts,.bZ 124 [] []] (∃rn:Int,Sp 178 [sT ts,.bZ 124 [] []] [] (sI rn) []∧(decide (0≤rn)=ts.any (fun t=> !mm t))) (True):=⟨fun _=>OI ts⟩
abbrev oc (ks:List Ex) (left:Int) (i:Int):St:=⟨[(0,sE ks),(1,.bZ 228 [] [.aA 100000 0 0]),(7,sI ((ks.map Ex.av).length:Nat)),(8,sI i)],[(100000,.an [sI left])]⟩
theorem FH (D:Ex→Bool) (ks:List Ex) (left:Int) (hsm:ks.length≤9223372036854775807) (k228x:∀(y:Ex),y∈ks→Sp 228 [.al y.ac,.aA 100000 0 0] [(100000,.an [sI left])] (.ak (!D y)) []) (i:Nat) (hi:i<ks.length):En 19 (O Tryz.f265 0) ((oc ks left (i:Nat))) (A0 ks (fun y=> !D y) (fun i=>oc ks left (i:Nat)) (fun rn:Nat=>⟨[(4,sI rn)],[(100000,.an [sI left])]⟩) i):=by
 obtain ⟨x0,hm0,hx0⟩:=qp (l:=ks) (n:=(↑i:Int)) (by omega) (by omega)
 have hs1:=k228x x0 (List.mem_of_getElem? (by assumption))
 have u0:decide ((↑i:Int)<(↑(List.length (List.map Ex.av ks)):Int))=true:=by simp;omega
 refine z0<|zt u0<|ze hx0<|zc hs1<|?_
 cases hb2: !D x0 with
 |true=>
  rw [hb2] at hs1
  exact zh rT<|zq (UR hm0 (by (simp_all))) [4] [K1 100000]
 |false=>
  rw [hb2] at hs1
  exact zh (w1 i (by omega))<|zh rT<|zq (UQ hm0 (by (simp_all))) [0,1,7,8] [K1 100000]
theorem FF (D:Ex→Bool) (ks:List Ex) (left:Int) (hsm:ks.length≤9223372036854775807) (k228x:∀(y:Ex),y∈ks→Sp 228 [.al y.ac,.aA 100000 0 0] [(100000,.an [sI left])] (.ak (!D y)) []):En 19 (O Tryz.f265 0) ((oc ks left (ks.length:Nat))) (fun e t=>e= .ar 0∧t=⟨[],[(100000,.an [sI left])]⟩):=au Tryz.f265 0
theorem FG (D:Ex→Bool) (ks:List Ex) (left:Int) (hsm:ks.length≤9223372036854775807) (k228x:∀(y:Ex),y∈ks→Sp 228 [.al y.ac,.aA 100000 0 0] [(100000,.an [sI left])] (.ak (!D y)) []):(∃rn:Nat,Lo 19 (O Tryz.f265 0) (oc ks left 0) .aR ⟨[(4,sI rn)],[(100000,.an [sI left])]⟩∧ks.any (fun y=> !D y)=true)∨(Lo 19 (O Tryz.f265 0) (oc ks left 0) (.ar 0) ⟨[],[(100000,.an [sI left])]⟩∧ks.any (fun y=> !D y)=false):=
 qx (fun i=>oc ks left (i:Nat)) _ (fun rn:Nat=>⟨[(4,sI rn)],[(100000,.an [sI left])]⟩) (fun y=> !D y) (fun i hi=>FH D ks left hsm k228x i hi) (FF D ks left hsm k228x)
theorem OG (D:Ex→Bool) (ks:List Ex) (left:Int) (hsm:ks.length≤9223372036854775807) (k228x:∀(y:Ex),y∈ks→Sp 228 [.al y.ac,.aA 100000 0 0] [(100000,.an [sI left])] (.ak (!D y)) []):En 19 (ai Tryz.f265) (⟨[(0,sE ks),(1,.bZ 228 [] [.aA 100000 0 0])],[(100000,.an [sI left])]⟩) (fun eo so=>eo= .aR∧∃rn:Int,so=⟨[(4,sI rn)],[(100000,.an [sI left])]⟩∧(decide (0≤rn)=ks.any (fun y=> !D y))):=by
 have o0:=FG _ (ks) (left) (by assumption) (by assumption)
 exact aS Tryz.f265 0 [4] [K1 100000]
theorem OH:Sp 123 [sT ts,.bZ 124 [] []] [] (.ak ((ts.any (fun t=> !mm t)))) []:=aL Tryz.f123 0 9
@[reducible,instance] def UY (ts:List Tm):=kT (OH ts)
theorem OJ (D:Ex→Bool) (ks:List Ex) (left:Int) (k228x:∀(y:Ex),y∈ks→Sp 228 [.al y.ac,.aA 100000 0 0] [(100000,.an [sI left])] (.ak (!D y)) []) (hsm:ks.length≤9223372036854775807):∃rn:Int,Sp 265 [sE ks,.bZ 228 [] [.aA 100000 0 0]] [(100000,.an [sI left])] (sI rn) []∧(decide (0≤rn)=ks.any (fun y=> !D y)):=by
 obtain ⟨_,_,⟨rfl,rn,rfl,hr⟩,h⟩:=OG D ks left hsm k228x
 exact ⟨rn,sO Tryz.f265 (by intro id o hm;simp at hm;obtain ⟨rfl,rfl⟩:=hm;rfl) h (.inr rfl),hr⟩
attribute [local simp,local grind] lh od fj in
theorem OK (p:ByteArray) (ts:List Tm):Sp 77 [gU p ts] [] (sI ((fj 40 (lh p ts)))) []:=aL Tryz.f77 0 19
@[reducible,instance] def aah (p:ByteArray) (ts:List Tm):=kT (OK p ts)
end
section
variable (x:Ex)
theorem OM (D:Ex→Bool) (ks:List Ex) (left:Int) (hsm:ks.length≤9223372036854775807) (OQ:∀(y:Ex),y∈ks→Sp 228 [.al y.ac,.aA 100000 0 0] [(100000,.an [sI left])] (.ak (!D y)) []):En 9 (ai Tryz.f227) (⟨[(0,sE ks),(1,.bZ 228 [] [.aA 100000 0 0])],[(100000,.an [sI left])]⟩) (fun eo so=>eo= .aR∧∃rb:Bool,so=⟨[(4,.ak rb)],[(100000,.an [sI left])]⟩∧rb=ks.any (fun y=> !D y)):=by
 obtain ⟨_,o0,p0⟩:=OJ _ (ks) (left) (by assumption) (by assumption)
 exact aS Tryz.f227 0 [4] [K1 100000]
theorem ON (E:Bool) (x:Ex) (left:Int) (hl:1≤left) (hl2:left≤100) (Ja:Sp 190 [.al x.ac,sI (left-1)] [] (.ak E) []):En 9 (ai Tryz.f228) (⟨[(0,.al x.ac),(1,.aA 100000 0 0)],[(100000,.an [sI left])]⟩) (fun eo so=>eo= .aR∧∃rb:Bool,so=⟨[(3,.ak rb)],[(100000,.an [sI left])]⟩∧rb= !E):=by
 have o0:=Ja
 exact aS Tryz.f228 0 [3] [K1 100000]
theorem KO:En 37 (ai Tryz.f190) ⟨[(0,.al x.ac),(1,sI 0)],[]⟩ (fun e t=>e= .aR∧t=⟨[(4,.ak false)],[(100000,.an [sI 0])]⟩):=au Tryz.f190 99997
theorem OP (D:Ex→Bool) (ks:List Ex) (left:Int) (OQ:∀(y:Ex),y∈ks→Sp 228 [.al y.ac,.aA 100000 0 0] [(100000,.an [sI left])] (.ak (!D y)) []) (hsm:ks.length≤9223372036854775807):Sp 227 [sE ks,.bZ 228 [] [.aA 100000 0 0]] [(100000,.an [sI left])] (.ak (ks.any (fun y=> !D y))) []:=by
 obtain ⟨_,_,⟨rfl,_,rfl,rfl⟩,h⟩:=OM D ks left hsm OQ
 exact sO Tryz.f227 (by intro id o hm;simp at hm;obtain ⟨rfl,rfl⟩:=hm;rfl) h (.inr rfl)
theorem OQ (E:Bool) (x:Ex) (left:Int) (hl:1≤left) (hl2:left≤100) (Ja:Sp 190 [.al x.ac,sI (left-1)] [] (.ak E) []):Sp 228 [.al x.ac,.aA 100000 0 0] [(100000,.an [sI left])] (.ak (!E)) []:=by
 obtain ⟨_,_,⟨rfl,_,rfl,rfl⟩,h⟩:=ON E x left hl hl2 Ja
 exact sO Tryz.f228 (by intro id o hm;simp at hm;obtain ⟨rfl,rfl⟩:=hm;rfl) h (.inr rfl)
def je (D:Ex→Bool) (x:Ex):Bool:=if x.op=0 then decide (x.ax.length=0)&&m8 x.t else FE x.t&&decide ((x.ax.length:Int)=m7 x.op)&& !x.ax.any (fun y=> !D y)
def dF:Nat→Ex→Bool
 |0,_=>false
 |d+1,x=>je (dF d) x
attribute [local simp,local grind] je in
theorem OL (D:Ex→Bool) (x:Ex) (left:Int) (hne:left≠0) (hge:1≤left) (har:m7 x.op≤2) (OP:x.ax.length≤9223372036854775807→Sp 227 [sE x.ax,.bZ 228 [] [.aA 100000 0 0]] [(100000,.an [sI left])] (.ak (x.ax.any (fun y=> !D y))) []):En 37 (ai Tryz.f190) (⟨[(0,.al x.ac),(1,sI left)],[]⟩) (fun eo so=>eo= .aR∧∃rb:Bool,so=⟨[(4,.ak rb)],[(100000,.an [sI left])]⟩∧rb=je D x):=by
 have o0:=OP
 exact aS Tryz.f190 99997 [4] [K1 100000]
theorem Ja:∀(d:Nat) (x:Ex) (l:Int),l=d→d≤100→Sp 190 [.al x.ac,sI l] [] (.ak (dF d x)) []
 |0,x,l,hl,_=>by
  subst hl
  obtain ⟨_,_,⟨rfl,rfl⟩,h⟩:=KO x
  exact sQ Tryz.f190 h
 |d+1,x,l,hl,hd=>by
  obtain ⟨_,_,⟨rfl,_,rfl,rfl⟩,h⟩:=OL (dF d) x l (by omega) (by omega) (by unfold m7;split<;>(try split)<;>omega) (OP (dF d) x.ax l fun y _=>OQ _ y l (by omega) (by omega) (Ja d y (l-1) (by omega) (by omega)))
  exact sQ Tryz.f190 h
theorem Jb:Sp 190 [.al x.ac,sI 8] [] (.ak (dF 8 x)) []:=Ja 8 x 8 rfl (by decide)
theorem OO:Sp 147 [.al x.ac] [] (sI (fj 40 (dF 8 x))) []:=by
 have q0:Sp 190 [.al x.ac,sI 8] [] (.ak (dF 8 x)) []:=(Jb x)
 have o0:=(Jb x)
 exact aL Tryz.f147 0 6
@[reducible,instance] def U0 (x:Ex):=kT (OO x)
def fk (x:Li):Bool:=if x.k=1∨x.k=2 then decide (x.jR=0)&&r9 x.l&&r9 x.r&&lh x.p x.ts else decide (x.k=3)&&decide (x.p=⟨#[]⟩)&&decide (x.ts.length=0)&&decide (1≤x.jR∧x.jR≤6)&&dF 8 x.l&&dF 8 x.r
attribute [local simp,local grind] fk fj in
theorem U1 (x:Li):Sp 89 [x.av] [] (sI ((fj 40 (fk x)))) []:=aL Tryz.f89 0 58
@[reducible,instance] def aai (x:Li):=kT (U1 x)
end
end Go.Ped
namespace Go.Ped
open Go.RowKit
section
variable (l:List ByteArray)
instance Ua (v:ByteArray) (l:List ByteArray):Decidable (v∈l):= @List.instDecidableMemOfLawfulBEq _ instBEqOfDecidableEq _ v l
def fl (l:List ByteArray) (v:ByteArray):List ByteArray:=
 if v=⟨#[]⟩∨v=⟨#[95]⟩∨v∈l then l else l++[v]
def dU (l:List ByteArray) (ts:List Tm):List ByteArray:=ts.foldl (fun l t=>fl l t.v) l
mutual
def Ex.af:Ex→List Tm
 | .mk _ t k=>t::Ex.bv k
def Ex.bv:List Ex→List Tm
 |[]=>[]
 |e::r=>e.af++Ex.bv r
end
def Li.af (x:Li):List Tm:=x.ts++(x.l.af++x.r.af)
def az (l:List Li):List Tm:=l.flatMap Li.af
def pos (l:List ByteArray):List AV:=(List.range l.length).map fun i=>sI ((i+1:Nat):Int)
@[reducible] def vp (l:List ByteArray):List (Nat×Ob):=[(100003,.an [.aX 1 (l.map AV.J)]),(100004,.an [.aI 100005]),(100005,.aI (l.map AV.J) (pos l))]
theorem A3 (t:Tm) (r:List Tm):dU l (t::r)=dU (fl l t.v) r:=rfl
theorem m9 (a b:List Tm):dU l (a++b)=dU (dU l a) b:=by simp [dU]
theorem qA (v:ByteArray):(fl l v).length≤l.length+1:=by
 unfold fl
 split<;>simp
theorem eP:∀(ts:List Tm) (l:List ByteArray),(dU l ts).length≤l.length+ts.length
 |[],l=>by simp [dU]
 |t::r,l=>by
  rw [A3]
  have:=eP r (fl l t.v)
  have:=qA l t.v
  simp only [List.length_cons];omega
theorem zA {l:List ByteArray} {j:Nat} (h:j<l.length):(pos l)[j]? =some (sI ((j+1:Nat):Int)):=by
 simp [pos,h]
theorem uy (v:ByteArray):pos (l++[v])=pos l++[sI ((l.length+1:Nat):Int)]:=by
 simp [pos,List.range_succ]
@[simp] theorem Ud (v:ByteArray):c8 1 (.J v):=⟨rfl,by simp [AV.ac,cj]⟩
@[simp] theorem Uc (k:IntKind) (n:Int):c8 1 (.aP k n):=⟨rfl,by simp [AV.ac,cj]⟩
@[simp] theorem Ub (n:Nat) (cs:List AV):c8 n (.al cs)↔cs.length=n∧∀c,c∈cs→cj c=true:=Iff.rfl
@[simp] theorem NP (v:ByteArray):cj (.J v)=true:=rfl
@[simp] theorem NN (k:IntKind) (n:Int):cj (.aP k n)=true:=rfl
@[simp] theorem NO (es:List AV) (c:Bool):cj (.aF es c)=true:=rfl
@[simp] theorem jf (a b:List AV):aa (a++b)=(aa a&&aa b):=by
  induction a with
  |nil=>simp [aa]
  |cons x r ih=>simp only [List.cons_append,aa,ih,Bool.and_assoc]
@[simp] theorem bw (l:List ByteArray):aa (l.map AV.J)=true:=bI AV.J (fun _=>rfl) l
@[simp] theorem jg (l:List ByteArray):aa (pos l)=true:=bI (fun i:Nat=>sI ((i+1:Nat):Int)) (fun _=>rfl) _
@[simp] theorem Jd (v:ByteArray):aa [.J v]=true:=rfl
@[simp] theorem Jc (k:IntKind) (n:Int):aa [.aP k n]=true:=rfl
theorem eY {X:Type} (g:X→AV) {l:List X} {i:Nat} {y:X} (h:l[i]? =some y) {z:AV} (hz:g y=z):0≤(i:Int)∧(l.map g)[Int.toNat (i:Int)]? =some z:=⟨by omega,by rw [Int.toNat_natCast,List.getElem?_map,h,←hz];rfl⟩
end
end Go.Ped
namespace Go.Ped
open Go.RowKit Go.Proofs
theorem qB {x:Ex} {left:Int} (h:(x.ax.map Ex.av).length=0) (h1:1≤left):x.af.length<2^left.toNat:=by
 obtain ⟨o,t,ks⟩:=x
 have:ks=[]:=by cases ks with
  |nil=>rfl
  |cons a b=>simp [Ex.ax] at h
 subst this
 show 1<2^left.toNat
 exact Nat.one_lt_two_pow (by omega)
theorem ti {N:Nat}:∀(l:List Ex),(∀y,y∈l→y.af.length<N)→(Ex.bv l).length+l.length≤l.length*N
 |[],_=>by simp [Ex.bv]
 |e::r,h=>by
  have h1:=h e (by simp)
  have h2:=ti r (fun y hy=>h y (by simp [hy]))
  simp only [Ex.bv,List.length_append,List.length_cons,Nat.succ_mul]
  omega
theorem x7 {x:Ex} {left:Int} (h:(x.ax.map Ex.av).length≤2) (h1:1≤left) (hg:∀y,y∈x.ax→y.af.length<2^(left-1).toNat):x.af.length<2^left.toNat:=by
 obtain ⟨o,t,ks⟩:=x
 have h2:=ti ks hg
 have e:left.toNat=(left-1).toNat+1:=by omega
 rw [e,Nat.pow_succ]
 have hk:ks.length≤2:=by simpa [Ex.ax] using h
 have hp:1≤2^(left-1).toNat:=Nat.one_le_two_pow
 show (t::Ex.bv ks).length<_
 simp only [List.length_cons]
 generalize 2^(left-1).toNat=N at*
 have h3:ks.length*N≤2*N:=Nat.mul_le_mul_right N hk
 rcases Nat.lt_or_ge ks.length 1 with h4|h4
 ·have h5:ks.length=0:=by omega
  rw [h5,Nat.zero_mul] at h2
  omega
 ·rcases Nat.lt_or_ge ks.length 2 with h6|h6
  ·have h5:ks.length=1:=by omega
   rw [h5,Nat.one_mul] at h2
   omega
  ·omega
section
theorem pD {n:Nat} {env:List (Nat×AV)} {hp hp':List (Nat×Ob)} (h:∀k,ae hp k=ae hp' k):Le n ⟨env,hp⟩ ⟨env,hp'⟩:=by
 rintro F a w ⟨S,β,E,M⟩
 exact ⟨S,β,E,M.hJ h⟩
theorem FI {n:Nat} {st:St} (id:Nat) {cs ds:List AV} (ho:ae st.hp id=some (.an cs)) (hl:cs.length=ds.length) (hw:∀(j:Nat) x y,cs[j]? =some x→ds[j]? =some y→∀{S:df} {β:bn} {w:World} {v:Value},V S β w v x→V S β w v y) (hown:∀(j sz:Nat) (es:List AV),ds[j]? =some (.aX sz es)→cs[j]? =some (.aX sz es)):
  Le n st ⟨st.dA,ba st.hp id (.an ds)⟩:=by
 rintro F a w ⟨S,β,E,M⟩
 obtain ⟨bi,h1,h2,cur,t,g1,g2,g3,g4,g5,g6⟩:=M.dg id _ ho
 have one:∀{i:Nat} {e:AV},[AV.al ds][i]? =some e→i=0∧e= .al ds:=fun {i e} h=>by
  cases i with
  |zero=>simp at h;exact ⟨rfl,h.symm⟩
  |succ i=>simp at h
 obtain ⟨x,M'⟩:=M.cR (w':=w) h1 ho (by simp) ⟨rfl,rfl,rfl,Nat.le_refl _,fun _ _ _=>rfl⟩ (.an ds) ⟨bi,h1,h2,cur,t,g1,g2,g3,g4,fun i e h=>by
  obtain ⟨_,rfl⟩:=one h
  show ds.length=bi.sz
  rw [←hl];exact g5 0 (.al cs) rfl,fun i j e c h k=>by
  obtain ⟨rfl,rfl⟩:=one h
  have k':ds[j]? =some c:=k
  have hj:j<cs.length:=by rw [hl];exact (List.getElem?_eq_some_iff.1 k').1
  obtain ⟨u,hu,hv⟩:=g6 0 j (.al cs) cs[j] rfl (List.getElem?_eq_getElem hj)
  exact ⟨u,hu,hw j _ c (List.getElem?_eq_getElem hj) k' hv⟩⟩ (fun j sz es h=>⟨hown j sz es h,rfl⟩)
 exact ⟨S,β,E,M'⟩
theorem pC {n:Nat} {env:List (Nat×AV)} {hp:List (Nat×Ob)} (id k:Nat) {cs:List AV} {x y:AV} (ho:ae hp id=some (.an cs)) (hk:cs[k]? =some x) (hw:∀{S:df} {β:bn} {w:World} {v:Value},V S β w v x→V S β w v y) (hy:∀sz es,y≠ .aX sz es):Le n ⟨env,hp⟩ ⟨env,ba hp id (.an (cs.set k y))⟩:=by
 refine FI (st:=⟨env,hp⟩) id ho (by simp) (fun j a b h1 h2=> ?_) (fun j sz es h=> ?_)
 ·rw [List.getElem?_set] at h2
  by_cases e:k=j
  ·subst e
   rw [hk] at h1;injection h1 with h1;subst h1
   rw [if_pos rfl,if_pos (List.getElem?_eq_some_iff.1 hk).1] at h2
   injection h2 with h2;subst h2
   exact hw
  ·rw [if_neg e,h1] at h2;injection h2 with h2;subst h2;exact fun h=>h
 ·rw [List.getElem?_set] at h
  by_cases e:k=j
  ·subst e
   rw [if_pos rfl,if_pos (List.getElem?_eq_some_iff.1 hk).1] at h;injection h with h;exact absurd h (hy sz es)
  ·rw [if_neg e] at h;exact h
theorem uz {n:Nat} {env:List (Nat×AV)} {hp:List (Nat×Ob)} (id:Nat) {x o:Ob} (hx:ae hp id=some x) (hd:x≠ .aB) (ho:∀{S:df} {β:bn} {w:World},HO S β w id x→HO S β w id o) (hno:∀j sz es,o.at j≠some (.aX sz es)):Le n ⟨env,hp⟩ ⟨env,ba hp id o⟩:=by
 rintro F a w ⟨S,β,E,M⟩
 exact ⟨S,β,E,M.nN hx hd (ho (M.dg id _ hx)) hno⟩
theorem V.KP {S:df} {β:bn} {w:World} {v:Value} {id:Nat} (h:V S β w v (.aO id 0)):V S β w v .ab:=by
 cases h with
 |ft=>exact .ab
 |ix _ _ a bi hb hle ha hn=>exact absurd rfl hn
theorem CT {n:Nat} {env:List (Nat×AV)} {hp:List (Nat×Ob)} (id k d:Nat) {cs:List AV} {sz:Nat} {es:List AV} (ho:ae hp id=some (.an cs)) (hk:cs[k]? =some (.aX sz es)) (hd:ae hp d=none) (hm:mid≤id→mid≤d):
  Le n ⟨env,hp⟩ ⟨env,ba (ba hp id (.an (cs.set k (.aO d es.length)))) d (.ao sz es)⟩:=by
 have hne:id≠d:=by rintro rfl;rw [ho] at hd;cases hd
 have hlt:=(List.getElem?_eq_some_iff.1 hk).1
 have gs:∀y,(cs.set k y)[k]? =some y:=fun y=>by rw [List.getElem?_set,if_pos rfl,if_pos hlt]
 by_cases he:es=[]
 ·subst he
  refine (gJ (st:=⟨env,hp⟩) id k ho hk).ck ?_
  refine (v6 (hp:=ba hp id (.an (cs.set k .ab))) id k d sz (cs:=cs.set k .ab) (by rw [aq,if_pos rfl]) (gs _) (by rw [aq,if_neg hne];exact hd)).ck (pD fun j=> ?_)
  simp only [aq,List.set_set,List.length_nil]
  split<;>try rfl
  split<;>rfl
 ·refine (gm (st:=⟨env,hp⟩) id k d ho hk he hd hm).ck ?_
  have hn:es.length≠0:=fun h=>he (List.eq_nil_of_length_eq_zero h)
  refine (pC (hp:=ba (ba hp id (.an (cs.set k (.aw d 0 es.length)))) d (.aw sz es)) id k (by rw [aq,if_neg (Ne.symm hne),aq,if_pos rfl]) (gs _) (fun h=>h.qd hn) (by simp)).ck ?_
  refine (uz d (x:= .aw sz es) (o:= .ao sz es) (by rw [aq,if_neg hne,aq,if_pos rfl]) (by simp) (fun h=> .inr h) (fun _ _ _ h=>by cases h)).ck (pD fun j=> ?_)
  simp only [aq,List.set_set]
  split<;>try rfl
  split<;>rfl
theorem A5 {n:Nat} {env:List (Nat×AV)} {hp:List (Nat×Ob)} (id k d:Nat) {cs:List AV} {sz:Nat} {es:List AV} (ho:ae hp id=some (.an cs)) (hk:cs[k]? =some (.aO d es.length)) (hd:ae hp d=some (.ao sz es)) (hno:aa es=true) (hm:mid≤d→mid≤id):
  Le n ⟨env,hp⟩ ⟨env,ba (ba hp id (.an (cs.set k (.aX sz es)))) d .aB⟩:=by
 have hne:id≠d:=by rintro rfl;rw [ho] at hd;cases hd
 have hlt:=(List.getElem?_eq_some_iff.1 hk).1
 have gs:∀y,(cs.set k y)[k]? =some y:=fun y=>by rw [List.getElem?_set,if_pos rfl,if_pos hlt]
 by_cases he:es=[]
 ·subst he
  refine (pC id k (y:= .ab) ho hk (fun h=>h.KP) (by simp)).ck ?_
  refine (eC (st:=⟨env,ba hp id (.an (cs.set k .ab))⟩) id k sz (o:= .an (cs.set k .ab)) (by rw [aq,if_pos rfl]) (gs _)).ck ?_
  refine (uz d (x:= .ao sz []) (o:= .aB) (by rw [aq,if_neg hne,aq,if_neg hne];exact hd) (by simp) (fun _=>trivial) (fun _ _ _ h=>by cases h)).ck (pD fun j=> ?_)
  simp only [aq,List.set_set,Ob.n4]
  split<;>try rfl
  split<;>rfl
 ·have hn:es.length≠0:=fun h=>he (List.eq_nil_of_length_eq_zero h)
  refine (pC id k (y:= .aw d 0 es.length) ho hk (fun h=>h.Cn hn) (by simp)).ck ?_
  refine (uz d (x:= .ao sz es) (o:= .aw sz es) (by rw [aq,if_neg hne];exact hd) (by simp) (fun h=>h.resolve_left he) (fun _ _ _ h=>by cases h)).ck ?_
  have ht:es.take es.length=es:=List.take_length
  have h:=iH (n:=n) (st:=⟨env,ba (ba hp id (.an (cs.set k (.aw d 0 es.length)))) d (.aw sz es)⟩) id k d (o:= .an (cs.set k (.aw d 0 es.length))) (by rw [aq,if_neg (Ne.symm hne),aq,if_pos rfl]) (gs _) (by rw [aq,if_pos rfl]) (by omega) (Nat.le_refl _) (by rw [ht];exact hno) hm
  rw [ht] at h
  refine h.ck (pD fun j=> ?_)
  simp only [aq,List.set_set,Ob.n4]
  split<;>try rfl
  split<;>rfl
def x8 (x:Nat×Nat) (s:St):Option (St×Prop):=match ae s.hp x.1 with
 |some (.an cs)=>(match cs[x.2]? with
  |some (.aO d m)=>(match ae s.hp d,Nat.ble mid d&& !Nat.ble mid x.1 with
   |some (.ao sz es),false=>some (⟨s.dA,ba (ba s.hp x.1 (.an (cs.set x.2 (.aX sz es)))) d .aB⟩,m=es.length∧aa es=true)
   |_,_=>none)
  |_=>none)
 |_=>none
theorem A4 {n:Nat} {x:Nat×Nat} {s s':St} {p:Prop} (h:x8 x s=some (s',p)) (hp:p):Le n s s':=by
 unfold x8 at h
 split at h
 ·rename_i cs h1
  split at h
  ·rename_i d m h2
   split at h
   ·rename_i sz es h3 h4
    injection h with h;simp only [Prod.mk.injEq] at h;obtain ⟨rfl,rfl⟩:=h
    obtain ⟨rfl,h5⟩:=hp
    refine A5 x.1 x.2 d h1 h2 h3 h5 fun g=> ?_
    cases hb:Nat.ble mid x.1 with
    |true=>exact Nat.le_of_ble_eq_true hb
    |false=>rw [hb,Nat.ble_eq_true_of_le g] at h4;cases h4
   ·cases h
  ·cases h
 ·cases h
def CU (t:St):List (Nat×Nat):=t.hp.flatMap fun x=>match x.2 with
 | .an ds=>ds.zipIdx.filterMap fun y=>(match y.1 with
   | .aX _ _=>some (x.1,y.2)
   |_=>none)
 |_=>[]
def mn:List (Nat×Nat)→St→St×List Prop
 |[],s=>(s,[])
 |x::l,s=>match x8 x s with
  |some (s',p)=>((mn l s').1,p::(mn l s').2)
  |none=>mn l s
theorem oe {n:Nat}:∀(l:List (Nat×Nat)) (s:St),cA (mn l s).2→Le n s (mn l s).1
 |[],s,_=>Le.bb _
 |x::l,s,h=>by
  simp only [mn] at h⊢
  split
  ·rename_i s' p hc
   rw [hc] at h
   exact (A4 hc h.1).ck (oe l s' h.2)
  ·rename_i hc
   rw [hc] at h
   exact oe l s h
def KR (s t:St):Option (St×List Prop):=
 let b:=mn (CU t) (uv s t)
 match iG (t.dA.map Prod.fst) (Or b.1 t) b.1 with
 |some (u,ps)=>some (u,b.2++ps)
 |none=>none
def KW (q:Bool) (s t:St):Value:=match KR s t with
 |some (u,ps)=>fS q u fun u=>fP ps fun ps=> .int .i8 (AZ u ps)
 |none=>jS 30
def GX (s t:St) (n:Nat) (h:Result (FuncId×Value)):Prop:=Le n s t
theorem abs {n:Nat} {q:Bool} {s t:St} (h:GX s t n (Sem.run hP (Go.method 1 0 (KW q s t) "") default)):GC s t n (Sem.run hP (Go.method 1 0 (uw q s t) "") default):=h
theorem na:∀{a b:List Prop},cA (a++b)→cA a∧cA b
 |[],_,h=>⟨trivial,h⟩
 |_::_,_,h=>⟨⟨h.1,(na h.2).1⟩,(na h.2).2⟩
theorem x_d {n m:Nat} {w:World} {s t u:St} {ps:List Prop} (h:KR s t=some (u,ps)) (he:u=t) (hc:cA ps):GX s t n (.ok (m,.int .i8 (AZ u ps)) w):=by
 subst he
 simp only [KR] at h
 split at h
 ·rename_i u' ps' hr
  injection h with h;simp only [Prod.mk.injEq] at h;obtain ⟨rfl,rfl⟩:=h
  obtain ⟨h1,h2⟩:=na hc
  exact ((th s _).ck (oe _ _ h1)).ck (er hr (dJ h2))
 ·cases h
def tj (x:Nat×Nat) (s:St):Option St:=match ae s.hp x.1 with
 |some (.an cs)=>(match cs[x.2]?,ae s.hp ((bif Nat.ble mid x.1 then 69000 else 39000)+10*(x.1%100)+x.2) with
  |some (.aX sz es),none=>some ⟨s.dA,ba (ba s.hp x.1 (.an (cs.set x.2 (.aO ((bif Nat.ble mid x.1 then 69000 else 39000)+10*(x.1%100)+x.2) es.length)))) ((bif Nat.ble mid x.1 then 69000 else 39000)+10*(x.1%100)+x.2) (.ao sz es)⟩
  |_,_=>none)
 |_=>none
theorem we {n:Nat} {x:Nat×Nat} {s s':St} (h:tj x s=some s'):Le n s s':=by
 unfold tj at h
 split at h
 ·rename_i cs h1
  split at h
  ·rename_i h2 h3
   injection h with h;subst h
   refine CT x.1 x.2 _ h1 h2 h3 fun g=> ?_
   rw [Nat.ble_eq_true_of_le g]
   show 50000≤69000+10*(x.1%100)+x.2
   omega
  ·cases h
 ·cases h
def Je (x:Nat×Nat) (s:St):Int:=21
def OR (vs:List AV) (L:List (Nat×Ob)) (ps:List Prop):Int:=22
def KV (q:Bool) (s:St):Value:=match CU s with
 |x::_=>(match tj x s with
  |some s=>fN x.1 fun i=>fN x.2 fun k=>fS q s fun s=> .int .i8 (Je (i,k) s)
  |none=>jS 51)
 |[]=>jS 52
mutual
def OS:AV→List Nat
 | .aw i _ _=>[i]
 | .aO i _=>[i]
 | .aA i _ _=>[i]
 | .bu _ v=>OS v
 | .al cs=>KQ cs
 |_=>[]
def KQ:List AV→List Nat
 |[]=>[]
 |x::r=>OS x++KQ r
end
def U2 (vs:List AV) (H:List (Nat×Ob)):List (Nat×Ob):=H.filter fun x=>(KQ vs).any (Nat.beq x.1)
def OT (vs:List AV) (L:List (Nat×Ob)):List Prop:=cu (dK L) vs++L.flatMap fun x=>dl x.2
def KU (q:Bool) (vs:List AV) (H:List (Nat×Ob)):Value:=match U2 vs H with
 |[]=>jS 53
 |x::L=>fH q (x::L) fun L=>fL q (bW (dK L) vs) fun vs'=>fP (OT vs L) fun ps=> .int .i8 (OR vs' L ps)
section
variable {P:Program} {n b:Nat} {q:Bool} {f:Func} {r:Code} {Q:cw→St→Prop} {K K':List KF} {e:cw} {st st':St} {d:List cv} {m:Nat} {w:World}
def GO (P:Program) (n:Nat) (q:Bool) (b:Nat) (f:Func) (r:Code) (Q:cw→St→Prop) (K:List KF) (e:cw) (st:St) (d:List cv) (h:Result (FuncId×Value)):Prop:=EK P n r Q K e st
theorem g_o {h:Result (FuncId×Value)} (k:GO P n q b f r Q K e st d (Sem.run hP (Go.method 1 0 (KV q st) "") default)):G P n q b f r Q K e st d h:=k
theorem abr {x:Nat×Nat} (h:tj x st=some st') (k:G P n q b f r Q K e st' [] (Sem.run hP (Go.method 1 0 (cN P q b f r K e st' []) "") default)):GO P n q b f r Q K e st d (.ok (m,.int .i8 (Je x st')) w):=oZ (we h) k
def GB (P:Program) (n:Nat) (q:Bool) (b:Nat) (f:Func) (r:Code) (Q:cw→St→Prop) (K:List KF) (e:cw) (st:St) (d:List cv) (g:FuncId) (vs:List AV) (H:List (Nat×Ob)) (h:Result (FuncId×Value)):Prop:=EK P n r Q K e st
theorem abp {g:FuncId} {vs:List AV} {H:List (Nat×Ob)} (k:GB P n q b f r Q K e st d g vs H (Sem.run hP (Go.method 1 0 (KU q vs H) "") default)):G P n q b f r Q K e st d (.ok (m,.int .i8 (mZ g vs H)) w):=k
theorem abo {g:FuncId} {vs vs':List AV} {H L:List (Nat×Ob)} {ps:List Prop} {x:AV} (h:bK P g vs' [] x []) (hA:bW (dK L) vs=vs') (hp:OT vs L=ps) (hd:L.all (fun x=> !mf x.2)=true) (hr:mY x=true) (hc:cA ps) (k:bK P g vs L x []→G P n q b f r Q K e st d (.ok (m,.int .i8 (mZ g vs H)) w)):GB P n q b f r Q K e st d g vs H (.ok (m,.int .i8 (OR vs' L ps)) w):=by
 subst hA;subst hp
 obtain ⟨h1,h2⟩:=na hc
 exact k (h.fi L hd (fun x hx p hp=>dJ h2 p (List.mem_flatMap.2 ⟨x,hx,hp⟩)) rfl (dJ h1) hr)
theorem abq {h:Result (FuncId×Value)} (hd:(match d.getLast? with|some .tR=>false|_=>true)=true) (k:G P n q b f r Q K e st (d++[.tR]) (Sem.run hP (Go.method 1 0 (cN P q b f r K e st (d++[.tR])) "") default)):G P n q b f r Q K e st d h:=k
end
section
variable {n:Nat} {r:Code} {Q Q':cw→St→Prop} {st:St} {K:List KF}
theorem av {R:Prop} (f:Func) (b:Nat) (q:Bool:=true) (hr:EK Proofs.Tryz.prog n r Q' K .aj st→R:=by exact Ou) (h:G Proofs.Tryz.prog n q b f r Q' K .aj st [] (Sem.run hP (Go.method 1 0 (cN Proofs.Tryz.prog q b f r K .aj st []) "") default):=by
 repeat' (
  go_invoke
  first
  |refine UF (by kernel_rfl) cs ?_
  |(refine abk ?_;first
   |refine g_l (by first|assumption|(refine (‹_→bJ _ _ _ _ _ _›) ?_;exact cl)|(refine (‹_→_→bJ _ _ _ _ _ _›) ?_ ?_<;>exact cl)) (by kernel_rfl) (abs (by go_invoke;exact x_d (by kernel_rfl) ce cs)) ?_
   |(rcases (by first
     |assumption
     |(have h:=(‹_→(∃_,bJ _ _ (O _ 0) _ _ _∧_)∨_›) cl;exact h)|(have h:=(‹_→_→(∃_,bJ _ _ (O _ 0) _ _ _∧_)∨_›) cl cl;exact h)
     |(have h:=(‹_→_∨_›) cl;exact h)|(have h:=(‹_→_→_∨_›) cl cl;exact h):(∃_,bJ _ _ (O _ 0) _ _ _∧_)∨_) with h|h<;>first
    |(obtain ⟨_,h1,h2⟩:=h;refine g_l h1 (by kernel_rfl) (abs (by go_invoke;exact x_d (by kernel_rfl) ce cs)) ?_)
    |(obtain ⟨_,h1⟩:=h;refine g_l h1 (by kernel_rfl) (abs (by go_invoke;exact x_d (by kernel_rfl) ce cs)) ?_)
    |(obtain ⟨h1,h2⟩:=h;refine g_l h1 (by kernel_rfl) (abs (by go_invoke;exact x_d (by kernel_rfl) ce cs)) ?_)
    |refine g_l h (by kernel_rfl) (abs (by go_invoke;exact x_d (by kernel_rfl) ce cs)) ?_)
   |(rcases (by first
     |assumption
     |(have h:=(‹_→(∃_,bJ _ _ (O _ 1) _ _ _∧_)∨_›) cl;exact h)|(have h:=(‹_→_→(∃_,bJ _ _ (O _ 1) _ _ _∧_)∨_›) cl cl;exact h):(∃_,bJ _ _ (O _ 1) _ _ _∧_)∨_) with h|h<;>first
    |(obtain ⟨_,h1,h2⟩:=h;refine g_l h1 (by kernel_rfl) (abs (by go_invoke;exact x_d (by kernel_rfl) ce cs)) ?_)
    |(obtain ⟨_,h1⟩:=h;refine g_l h1 (by kernel_rfl) (abs (by go_invoke;exact x_d (by kernel_rfl) ce cs)) ?_)
    |(obtain ⟨h1,h2⟩:=h;refine g_l h1 (by kernel_rfl) (abs (by go_invoke;exact x_d (by kernel_rfl) ce cs)) ?_)
    |refine g_l h (by kernel_rfl) (abs (by go_invoke;exact x_d (by kernel_rfl) ce cs)) ?_)
   |(rcases (by first
     |assumption
     |(have h:=(‹_→_∨_›) cl;exact h)|(have h:=(‹_→_→_∨_›) cl cl;exact h):_∨_) with h|h<;>first
    |(obtain ⟨_,h1,h2⟩:=h;refine g_l h1 (by kernel_rfl) (abs (by go_invoke;exact x_d (by kernel_rfl) ce cs)) ?_)
    |(obtain ⟨_,h1⟩:=h;refine g_l h1 (by kernel_rfl) (abs (by go_invoke;exact x_d (by kernel_rfl) ce cs)) ?_)
    |(obtain ⟨h1,h2⟩:=h;refine g_l h1 (by kernel_rfl) (abs (by go_invoke;exact x_d (by kernel_rfl) ce cs)) ?_)
    |refine g_l h (by kernel_rfl) (abs (by go_invoke;exact x_d (by kernel_rfl) ce cs)) ?_))
  |refine g_e (by assumption) ?_
  |(refine g_eE (by omega) (by first|exact Int.toNat_natCast _|rfl) (by first|assumption|omega|(simp;omega)) ?_;intro x hx hx')
  |(refine aa9 (by omega) (by first|exact Int.toNat_natCast _|rfl) (by first|assumption|omega|(simp;omega)) ?_;intro x hx hx')
  |(refine aa' (by first|(simp only [Nat.zero_add,Int.toNat_natCast];done)|rfl) (by first|assumption|omega|(simp;omega)) ?_;intro x hx hx')
  |(refine aa7 (by omega) (by first|exact Int.toNat_natCast _|rfl) (by first|assumption|omega|(simp;omega)|(simp only [decide_eq_true_eq,decide_eq_false_iff_not] at*;omega)|(simp_all;omega)) ?_;intro x hx hx')
  |(refine aa8 (by first|assumption|exact KS.s cl|(refine (‹_→bK _ _ _ _ _ _›) ?_;exact cl)|(refine (‹_→_→bK _ _ _ _ _ _›) ?_ ?_<;>exact cl)) ?_ ?_<;>(intro h hs;try (cases h;done)))
  |(refine g_c (by first|assumption|exact KS.s cl|(refine (‹_→bK _ _ _ _ _ _›) ?_;exact cl)|(refine (‹_→_→bK _ _ _ _ _ _›) ?_ ?_<;>exact cl)) ?_;intro hs)
  |(have hs:=‹∀y,_→bK _ _ _ _ _ _› _ (List.mem_of_getElem? ‹_›);first|(refine aa8 hs ?_ ?_<;>(intro h _;try (cases h;done)))|(refine g_c hs ?_;intro _))
  |(refine abp ?_;go_invoke;refine abo (by first|assumption|exact KS.s cl) (by kernel_rfl) (by kernel_rfl) (by kernel_rfl) rfl cs ?_;intro hs;first|(refine aa8 hs ?_ ?_<;>(intro h _;try (cases h;done)))|(refine g_c hs ?_;intro _))
  |(refine abh ?_;go_invoke;first
   |(refine abj cl ?_ ?_<;>(intro h hs;try (cases h;done)))
   |(refine abi cl ?_;intro hs)
   |(refine g_cu cl ?_;intro hk;first
    |(obtain ⟨_,hs,hk⟩:=hk;first|(refine aa8 hs ?_ ?_<;>(intro h _;try (cases h;done)))|(refine g_c hs ?_;intro _))
    |(obtain ⟨_,_,hs,hk⟩:=hk;first|(refine aa8 hs ?_ ?_<;>(intro h _;try (cases h;done)))|(refine g_c hs ?_;intro _))
    |(obtain ⟨_,hs⟩:=hk;first|(refine aa8 hs ?_ ?_<;>(intro h _;try (cases h;done)))|(refine g_c hs ?_;intro _))))
  |(refine abg cl ?_;intro hk;first
   |(obtain ⟨_,hs,hk⟩:=hk;first|(refine aa8 hs ?_ ?_<;>(intro h _;try (cases h;done)))|(refine g_c hs ?_;intro _))
   |(obtain ⟨_,_,hs,hk⟩:=hk;first|(refine aa8 hs ?_ ?_<;>(intro h _;try (cases h;done)))|(refine g_c hs ?_;intro _))
   |(obtain ⟨_,hs⟩:=hk;first|(refine aa8 hs ?_ ?_<;>(intro h _;try (cases h;done)))|(refine g_c hs ?_;intro _)))
  |refine g_t ct ?_
  |refine g_f ct ?_
  |(refine g_b ?_ ?_<;>intro h)
  |refine aba (by first|assumption|exact ⟨_,rfl,rfl⟩) ?_
  |refine abb (by first|assumption|rfl) ?_
  |refine abf (by first|assumption|rfl) ?_
  |refine abe (by first|assumption|rfl) ?_
  |refine g_xn (by first|assumption|omega) ?_
  |(refine g_n (by kernel_rfl) (by first|exact ⟨rfl,rfl⟩|exact ⟨rfl,_,by assumption,rfl⟩) (abs ?_);go_invoke;refine x_d (by kernel_rfl) ce cs)
  |(refine g_m (by kernel_rfl) ?_;go_invoke;refine d_d (by kernel_rfl) cq cs)
  |(exfalso;first|omega|(simp only [decide_eq_true_eq,decide_eq_false_iff_not] at*;omega)|(simp_all;done)|(simp_all;omega))
  |(refine g_tl ?_)
  |(refine abq (by rfl) ?_)
  |(refine g_o ?_;go_invoke;refine abr (by kernel_rfl) ?_))):R:=hr h
end
theorem zM {P:Program} {f:FuncId} (fn:Func) (n:Nat) {args:List AV} {r:AV} {pre upd:List (Nat×Ob)} (h:EK P n (ai fn) (fun e t=>e= .aj∧t=⟨jG fn.results.toList r,upd⟩) [.c []] .aj ⟨bO 0 args,pre⟩) (ho:∀id o,(id,o)∈pre→bg (gX pre) o=o) (hn:args.length+(fn.ntmps-args.length)=n:=by kernel_rfl) (hf:P.funcs[f]? =some fn:=by kernel_rfl) (hb:fn.body=some (ai fn):=by kernel_rfl) (hpre:kn pre=true:=by rfl) (huq:cM upd=true:=by rfl) (hg:bW (gX pre) args=args:=by rfl) (hr:gW P ⟨jG fn.results.toList r,upd⟩ fn.results.toList=some r:=by kernel_rfl):bK P f args pre r upd:=by
 subst hn
 obtain ⟨e,t,⟨rfl,rfl⟩,q⟩:=Ou h
 exact bK.vR hf hb hpre huq hg ho q (.inl rfl) hr
end
end Go.Ped
