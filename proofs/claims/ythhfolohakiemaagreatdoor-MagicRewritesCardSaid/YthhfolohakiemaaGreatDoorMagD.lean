/- What the one operation of the program's code gives is reckoned without addresses, and the reckoning is right. -/
import Derived.MapKept
import Derived.Test.YthhfolohakiemaaGreatDoorMagC
set_option linter.all false
namespace Go.Ped
open Go.RowKit
section
section
variable {P:Program} {F:Fr} {S:df} {β:bn} {hp:List (Nat×Ob)} {w:World} {a:Act} {o:Oper} {res:dT} {rd:List Nat} {sc:List cv}
theorem Co {t:TypeId} {x:Operand} {X:AV} (ho:o.op= .call ⟨.builtin .clear,#[x],#[t]⟩) (M:b7 F S β hp w) (hx:V S β w (a.eval x) X) (hr:(xp P t X sc).bL (ae hp)=some (res,rd)) (hc:∀c,c∈res.cs→c.p):
  b9 P F S β hp w a o res:=by
 have exec:∀{v:Value} {w':World},(Builtin.clear_ #[t] o.type #[a.eval x]).run P w= .ok v w'→(execOp a.eval o).run P w= .ok (.value v) w':=by
  intro v w' h
  simp [execOp,ho,resolve,invoke,builtin,h]
 unfold xp at hr
 cases hu:P.underlying t with
 |none=>rw [hu] at hr;cases hr
 |some ds=>
  rw [hu] at hr
  cases ds<;>first
   |(cases hr;done)
   |skip
  rename_i e
  simp only at hr
  cases hz:dw P e with
  |none=>rw [hz] at hr;cases hr
  |some z=>
   cases hs:cJ P e with
   |none=>rw [hz,hs] at hr;cases hr
   |some size=>
    rw [hz,hs] at hr
    simp only at hr
    split at hr
    ·obtain ⟨e1,e2,_,_⟩:=bB hr
     generalize hvx:a.eval x=vx at hx exec
     have hv:∃p c,vx= .slice p 0 c:=by
      cases hx with
      |aF p cap sz b q _ _ U hcap hmax hclip hp' hsz hcc hvv=>exact ⟨p,cap,rfl⟩
     obtain ⟨p,c,rfl⟩:=hv
     refine aV M (v:= .tuple #[]) (exec ?_) e2 (by rw [e1];exact .bC [] [] rfl (by simp))
     cases p<;>simp [Builtin.clear_,run_underlying hu]
    ·rename_i id off len
     simp only [Rd.bL] at hr
     cases hl:ae hp id with
     |none=>rw [hl] at hr;cases hr
     |some ob=>
      rw [hl] at hr
      have hob:=M.dg id ob hl
      cases ob with
      |aw sz es=>
       simp only at hr
       by_cases hg:sz=size∧z.ac.length=size∧0<size∧z.ac.all cj=true
       ·rw [if_pos hg] at hr
        obtain ⟨g1,g2,hp0,g3⟩:=hg
        injection hr with hr;injection hr with hr _;subst hr
        have hle:=hc _ (List.mem_singleton.2 rfl)
        simp only [] at hle
        obtain ⟨i,zv,hi,hzv,hE⟩:=iC (S:=S) (β:=β) (w:=w) hz (by cases z<;>first|rfl|(simp [AV.ac,cj] at g3))
        have hisz:i.size=size:=by unfold cJ at hs;rw [hi] at hs;simpa using hs
        have hzs:zv.cells.size=size:=by have:=hE.1;rw [g2] at this;simpa using this
        obtain ⟨bj,q1,q2,q3⟩:=hob
        generalize hvx:a.eval x=vx at hx exec
        cases hx with
        |aw _ _ _ ad bi hb hlb ha=>
         rw [hb] at q1;injection q1 with q1;subst q1
         by_cases h0:len=0
         ·subst h0
          refine bM (v:= .tuple #[]) (w':=w) (exec (by simp [Builtin.clear_,run_underlying hu])) (.bb _ _ _) ?_ (.bC [] [] rfl (by simp))
          have:(es.take off++List.replicate 0 z++es.drop (off+0))=es:=by simp
          rw [this]
          obtain ⟨E,M'⟩:=M.cR (w':=w) hb hl (by simp) ⟨rfl,rfl,rfl,Nat.le_refl _,fun _ _ _=>rfl⟩ (.aw sz es) ⟨bi,hb,q2,q3⟩ (fun j a b h=>by cases h)
          simpa [bc] using M'
         ·have hmade:=AL (S:=S) (β:=β) (w:=w) hE hzs g2 hp0 len
          obtain ⟨cur,ty,r1,r2,r3,r4⟩:=q3.xL (M.aX id bi hb).1 M.sub (k:=off) (ys:=List.replicate len z) (by simpa using hle) (by intro e he;rw [(List.mem_replicate.1 he).2,q2,g1];exact g2) hmade
          rw [List.length_replicate] at r4
          obtain ⟨E,M'⟩:=M.cR hb hl (by simp) (d' bi.bG _ rfl) (.aw sz (es.take off++List.replicate len z++es.drop (off+len))) ⟨bi,hb,q2,r4⟩ (fun j a b h=>by cases h)
          refine bM (v:= .tuple #[]) (exec ?_) E (by simpa [bc] using M') (.bC [] [] rfl (by simp))
          have hcap:es.length≤bi.f5:=by obtain ⟨_,_,_,_,h,_⟩:=q3;exact h
          have had:=ha (by omega)
          have hone:∀v,v∈(madeCells zv.cells (len*size)).toList→v.oneCell'=true:=by
           intro v hv
           have hsol:∀c,c∈cp (List.replicate len z)→cj c=true:=by
            intro c hcm
            simp only [cp,List.mem_flatten,List.mem_map] at hcm
            obtain ⟨l,⟨e,he,rfl⟩,hcl⟩:=hcm
            rw [(List.mem_replicate.1 he).2] at hcl
            exact List.all_eq_true.1 g3 c hcl
           exact hmade.vn hsol v hv
          have hst:=run_storeCells_at P bi.bG (off*bi.sz) ty (madeCells zv.cells (len*size)).toList 0 cur w r1 (by simpa using r3) hone
          simp only [Nat.add_zero] at hst
          have hzc:Builtin.zeroCells zv.cells len=madeCells zv.cells (len*size):=by rw [←hzs];rfl
          obtain ⟨m,rfl⟩:∃m,len=m+1:=⟨len-1,by omega⟩
          simp [Builtin.clear_,run_underlying hu,zeroValue,typeInfo,hi,hzv,hzc,had,hst]
       ·rw [if_neg hg] at hr;cases hr
      |_=>cases hr
    ·cases hr
theorem Fl {x y:Operand} {t u:TypeId} {X Y:AV} (ho:o.op= .call ⟨.builtin .copy,#[x,y],#[t,u]⟩) (M:b7 F S β hp w) (hx:V S β w (a.eval x) X) (hy:V S β w (a.eval y) Y) (hr:(B8 P t X Y sc).bL (ae hp)=some (res,rd)) (hc:∀c,c∈res.cs→c.p):
  b9 P F S β hp w a o res:=by
 have exec:∀{v:Value} {w':World},(Builtin.copy_ #[t,u] o.type #[a.eval x,a.eval y]).run P w= .ok v w'→(execOp a.eval o).run P w= .ok (.value v) w':=by
  simp_all[execOp,resolve,invoke,builtin]
 unfold B8 mH at hr
 cases hu:P.underlying t with
 |none=>rw [hu] at hr;cases hr
 |some ds=>
  rw [hu] at hr
  cases ds<;>first
   |(cases hr;done)
   |skip
  rename_i e
  simp only at hr
  unfold cJ at hr
  cases hi:P.info? e with
  |none=>rw [hi] at hr;cases hr
  |some i=>
   rw [hi] at hr
   simp only [Option.map_some] at hr
   cases X with
   |aw id off len=>
    simp only [Rd.bL] at hr
    cases hl:ae hp id with
    |none=>grind
    |some ob=>
     rw [hl] at hr
     have hob:=M.dg id ob hl
     cases ob with
     |aw sz es=>
      simp only at hr
      split at hr
      ·rename_i r1 l1 hk
       injection hr with hr;injection hr with hr1 hr2
       subst hr1
       obtain ⟨ys,q,rd',h1,h2⟩:=fw M hk
       by_cases hsz:sz=i.size
       ·rw [if_pos hsz] at h1
        injection h1 with h1;injection h1 with h1 _;subst h1
        obtain ⟨hq,hlen,hle2,hok,hne⟩:=hc _ (List.mem_singleton.2 rfl)
        subst hsz
        have hu1:∀e,e∈ys→e.ac.length=i.size:=fun e he=>(hok e he).1
        obtain ⟨p',c,hvy,hnews⟩:=h2 _ i.size hy hq hu1
        obtain ⟨ad,news,rfl,k2,hcn⟩:=hnews hne
        have hnl:news.length=ys.length*i.size:=by rw [k2.1,br hu1]
        have hyl:0<ys.length:=List.length_pos_iff.2 hne
        obtain ⟨bj,q1,q2,q3⟩:=hob
        generalize hvx:a.eval x=vx at hx exec
        cases hx with
        |aw _ _ _ adx bi hb hle ha=>
         rw [hb] at q1;injection q1 with q1;subst q1
         obtain ⟨cur,ty,r1,r2,r3,r4⟩:=q3.xL (M.aX id bi hb).1 M.sub (k:=off) (news:=news) (by omega) (by grind) k2
         have hcap:es.length≤bi.f5:=by obtain ⟨_,_,_,_,h,_⟩:=q3;omega
         have hadx:=ha (by omega)
         obtain ⟨E,M'⟩:=M.cR hb hl (by simp) (d' bi.bG _ rfl) (.aw i.size (es.take off++ys++es.drop (off+ys.length))) ⟨bi,hb,q2,r4⟩ (fun j a b h=>by cases h)
         refine bM (v:= .int .i64 (ys.length:Nat)) (exec ?_) E (by grind[bc]) (.aP _ _)
         rw [hvy,hadx]
         have hst:=run_storeCells_at P bi.bG (off*bi.sz) ty news 0 cur w r1 (by omega) (k2.vn (lS hok))
         simp only [Nat.add_zero] at hst
         have hf:=run_firstCells_some (P:=P) w i.size ys.length ad ys.length c news hnl (fun j v h=>hcn j v h)
         have hmin:min ys.length len=ys.length:=Nat.min_eq_left hlen
         simp_all[Builtin.copy_,run_underlying,sizeOf,typeInfo,Builtin.lenOf,goInt]
       ·rw [if_neg hsz] at h1;cases h1
      grind
     |_=>cases hr
   |_=>cases hr
theorem Cp {x:Operand} {t:TypeId} {d:Nat} {s:ByteArray} (ho:o.op= .range t x) (M:b7 F S β hp w) (hx:V S β w (a.eval x) (.J s)) (hu:P.underlying t=some .string) (h1:res.v= .aA d 0 0) (h2:res.eH=[(d,.iw (.stringIter s 0))]) (hn:ae hp d=none):b9 P F S β hp w a o res:=by
 have hob:HO S (β.nM d ⟨w.heap.size,0,0⟩) (w.alloc (.stringIter s 0)) d (.iw (.stringIter s 0)):=by
  refine ⟨_,bn.cV _ _ _,?_⟩
  show (w.heap.push _)[w.heap.size]? =_
  simp
 obtain ⟨E,M'⟩:=M.yY hn (.stringIter s 0) (.iw (.stringIter s 0)) (fun j a b h=>by cases h) 0 0 hob
 generalize hvx:a.eval x=vx at hx
 cases hx
 refine bM (v:= .pointer (some ⟨w.heap.size,0,none⟩)) (w':=w.alloc (.stringIter s 0)) ?_ E (by rw [h2];exact M') (by rw [h1];have:=V.aA (S:=S) (w:=w.alloc (.stringIter s 0)) d 0 0 ⟨w.heap.size,0,0⟩ (bn.cV β d _);omega)
 simp_all[execOp,Instr.range,run_underlying]
theorem Fm {x:Operand} {id:Nat} (ho:o.op= .next x true) (M:b7 F S β hp w) (hx:V S β w (a.eval x) (.aA id 0 0)) (hr:(B9 id sc).bL (ae hp)=some (res,rd)) (hc:∀c,c∈res.cs→c.p):b9 P F S β hp w a o res:=by
 unfold B9 at hr
 simp only [Rd.bL] at hr
 cases hl:ae hp id with
 |none=>grind
 |some ob=>
  rw [hl] at hr
  have hob:=M.dg id ob hl
  cases ob with
  |iw ob=>
   cases ob with
   |stringIter s pos=>
    generalize hvx:a.eval x=vx at hx
    cases hx with
    |aA _ _ _ bi hb=>
     obtain ⟨bj,q1,q2⟩:=hob
     rw [hb] at q1;injection q1 with q1;subst q1
     have hlt:bi.bG<w.heap.size:=(M.aX id bi hb).2.1
     have turns:∀ob,mK bi w {w with heap:=w.heap.setIfInBounds bi.bG ob}:=by
      intro ob
      refine ⟨rfl,rfl,rfl,by simp,fun b hb1 hb2=> ?_⟩
      grind
     simp only at hr
     cases sc with
     |nil=>cases hr
     |cons dd sc=>
      cases dd with
      |is b=>
       cases b with
       |true=>cases hr
       |false=>
        injection hr with hr;injection hr with hr _;subst hr
        have hle:s.size≤pos:=hc _ (List.mem_singleton.2 rfl)
        refine bM (v:= .tuple #[.bool false]) (w':=w) ?_ (.bb _ _ _) ?_ (.bC [.bool false] [.ak false] rfl (fun i v c h1 h2=> ?_))
        ·simp [execOp,ho,hvx,Instr.next,getObj,Sem.run,q2,Nat.not_lt.2 hle]
        ·obtain ⟨E,M'⟩:=M.cR (w':=w) hb hl (by simp) ⟨rfl,rfl,rfl,Nat.le_refl _,fun _ _ _=>rfl⟩ (.iw (.stringIter s pos)) ⟨bi,hb,q2⟩ (fun j a b h=>by grind)
         grind[bc]
        ·cases i with
         |zero=>simp at h1 h2;subst h1;subst h2;exact .ak _
         |succ i=>grind
      |aA e=>
       cases e with
       |aP k c=>
        cases k<;>first
         |(cases hr;done)
         |skip
        injection hr with hr;injection hr with hr _;subst hr
        obtain ⟨hlt2,k,rfl,hd⟩:=hc _ (List.mem_singleton.2 rfl)
        have hnew:({w with heap:=w.heap.setIfInBounds bi.bG (.stringIter s (pos+1))}:World).heap[bi.bG]? =some (.stringIter s (pos+1)):=by
         grind
        obtain ⟨E,M'⟩:=M.cR hb hl (by simp) (turns (.stringIter s (pos+1))) (.iw (.stringIter s (pos+1))) ⟨bi,hb,hnew⟩ (fun j a b h=>by cases h)
        refine bM (v:= .tuple #[.bool true,.int .i64 (pos:Nat),.int .i32 (k:Nat)]) ?_ E (by grind[bc]) (.bC [.bool true,.int .i64 (pos:Nat),.int .i32 (k:Nat)] [.ak true,.aP .i64 (pos:Nat),.aP .i32 (k:Nat)] rfl (fun i v c h1 h2=> ?_))
        ·simp [execOp,ho,hvx,Instr.next,getObj,setObj,Sem.run,q2,hlt2,hd,goInt]
        ·match i,h1,h2 with
         |0,h1,h2=>simp at h1 h2;subst h1;subst h2;exact .ak _
         |1,h1,h2=>simp at h1 h2;subst h1;subst h2;exact .aP _ _
         |2,h1,h2=>simp at h1 h2;subst h1;subst h2;exact .aP _ _
         |i+3,h1,h2=>grind
       |_=>cases hr
      |_=>cases hr
   |_=>cases hr
  |_=>cases hr
theorem Ko {x y:Operand} {t u:TypeId} {k k':IntKind} {p q:Int} (ho:o.op= .call ⟨.builtin .max,#[x,y],#[t,u]⟩) (M:b7 F S β hp w) (hx:V S β w (a.eval x) (.aP k p)) (hy:V S β w (a.eval y) (.aP k' q))
  (hr:(val (.aP k (if q>p then q else p)) sc).bL (ae hp)=some (res,rd)):b9 P F S β hp w a o res:=by
 obtain ⟨e1,e2,_,_⟩:=bB hr
 generalize hvx:a.eval x=vx at hx
 generalize hvy:a.eval y=vy at hy
 cases hx;cases hy
 refine aV M (v:= .int k (if q>p then q else p)) ?_ e2 (by rw [e1];exact .aP _ _)
 simp_all[execOp,resolve,invoke,builtin,Builtin.max_,Builtin.max2]
theorem Kp {x y:Operand} {t u:TypeId} {k k':IntKind} {p q:Int} (ho:o.op= .call ⟨.builtin .min,#[x,y],#[t,u]⟩) (M:b7 F S β hp w) (hx:V S β w (a.eval x) (.aP k p)) (hy:V S β w (a.eval y) (.aP k' q))
  (hr:(val (.aP k (if q<p then q else p)) sc).bL (ae hp)=some (res,rd)):b9 P F S β hp w a o res:=by
 obtain ⟨e1,e2,_,_⟩:=bB hr
 generalize hvx:a.eval x=vx at hx
 generalize hvy:a.eval y=vy at hy
 cases hx;cases hy
 refine aV M (v:= .int k (if q<p then q else p)) ?_ e2 (by rw [e1];exact .aP _ _)
 simp_all[execOp,resolve,invoke,builtin,Builtin.min_,Builtin.min2]
end
end
section
section
variable {P:Program} {F:Fr} {S:df} {β:bn} {hp:List (Nat×Ob)} {w:World} {a:Act} {o:Oper} {res:dT} {rd:List Nat} {sc:List cv}
theorem lU {t k e:TypeId} {s:Bool} (h:mI P t=some (k,e,s)):P.underlying t=some (.map k e)∧((s=true∧P.underlying k=some .string)∨(s=false∧∃q,P.underlying k=some (.int q))):=by
 unfold mI at h
 grind
def Kq (s:Bool) (d:TypeDesc):Prop:=(s=true∧d= .string)∨(s=false∧∃q,d= .int q)
theorem nU (p q:ByteArray):(p==q)=decide (p=q):=by
 have h:(p==q)=(p.data==q.data):=rfl
 rw [h]
 by_cases e:p.data=q.data
 ·grind[ByteArray.ext]
 grind
theorem xO {s b:Bool} {d:TypeDesc} (hd:Kq s d) {u v:Value} {x y:AV} (hx:V S β w u x) (hy:V S β w v y) (h:oM s x y=some b):Instr.sameNow d u v=some b∧(b=true→u=v∧x=y):=by
 unfold oM at h
 split at h
 ·rename_i k p k' q
  split at h
  ·rename_i hk
   obtain ⟨hs,rfl⟩:=hk
   injection h with h
   cases hx;cases hy
   rcases hd with ⟨h1,_⟩|⟨_,q',rfl⟩
   ·grind
   ·subst h
    refine ⟨by simp[Instr.sameNow,Bool.beq_eq_decide_eq],fun hb=> ?_⟩
    grind
  grind
 ·rename_i p q
  split at h
  ·rename_i hs
   injection h with h
   cases hx;cases hy
   rcases hd with ⟨_,rfl⟩|⟨h1,_⟩
   ·subst h
    refine ⟨?_,fun hb=> ?_⟩
    ·simp[Instr.sameNow,nU]
    grind
   grind
  grind
 grind
theorem gG {s:Bool} {d:TypeDesc} (hd:Kq s d) {u:Value} {x:AV} (hx:V S β w u x):∀(ks:List AV) (es:List MapEntry) (i:Nat) {r:Option Nat},ks.length=es.length→
  (∀(j:Nat) e k,es[j]? =some e→ks[j]? =some k→V S β w e.key k)→bs s x ks i=some r→
  (r=none∧Instr.findNow d u es i=some none)∨∃j e,r=some (i+j)∧es[j]? =some e∧e.key=u∧ks[j]? =some x∧Instr.findNow d u es i=some (some (i+j,e.val))
 |[],[],i,r,_,_,h=>by
  simp only [bs] at h
  injection h with h
  exact .inl ⟨h.symm,rfl⟩
 |[],_::_,i,r,hl,_,_=>by grind
 |_::_,[],i,r,hl,_,_=>by grind
 |k::ks,e::es,i,r,hl,hv,h=>by
  simp only [bs] at h
  have hk:=hv 0 e k rfl rfl
  cases hs:oM s x k with
  |none=>grind
  |some b=>
   rw [hs] at h
   obtain ⟨h1,h2⟩:=xO hd hx hk hs
   cases b with
   |true=>
    simp only at h
    injection h with h
    obtain ⟨e1,e2⟩:=h2 rfl
    exact .inr ⟨0,e,by grind,rfl,e1.symm,by grind,by grind[Instr.findNow]⟩
   |false=>
    simp only at h
    rcases gG hd hx ks es (i+1) (by grind) (fun j e k a b=>hv (j+1) e k (by grind) (by grind)) h with ⟨r1,r2⟩|⟨j,e',r1,r2,r3,r4,r5⟩
    ·grind[Instr.findNow]
    ·refine .inr ⟨j+1,e',by grind,by grind,r3,by grind,?_⟩
     grind[Instr.findNow]
theorem cr {kt:TypeId} {s:Bool} (hk:(s=true∧P.underlying kt=some .string)∨(s=false∧∃q,P.underlying kt=some (.int q))) (em:Bool) (v:Value):(Instr.checkKey em 10000 kt v).run P w= .ok () w:=by
 show (Instr.checkKey em (9999+1) kt v).run P w= .ok () w
 rcases hk with ⟨_,h⟩|⟨_,q,h⟩
 ·rw [Instr.checkKey];simp [run_underlying h]
 ·rw [Instr.checkKey];simp [run_underlying h]
theorem ue {kt:TypeId} {s:Bool} (hk:(s=true∧P.underlying kt=some .string)∨(s=false∧∃q,P.underlying kt=some (.int q))):∃d,P.underlying kt=some d∧Kq s d:=by
 rcases hk with ⟨h,h'⟩|⟨h,q,h'⟩
 ·exact ⟨_,h',.inl ⟨h,rfl⟩⟩
 ·exact ⟨_,h',.inr ⟨h,q,rfl⟩⟩
theorem cB {kt:TypeId} {d:TypeDesc} {u:Value} {es:Array MapEntry} {r:Option (Nat×Value)} (hd:P.underlying kt=some d) (h:Instr.findNow d u es.toList 0=some r):(Instr.findKey kt u es.toList).run P w= .ok r w:=by
 simp_all[Instr.findKey,run_underlying]
theorem fh {ok b:Bool} {v:Value} {x:AV} (h:V S β w v x):V S β w (if ok then .tuple #[v,.bool b] else v) (nK ok x b):=by
 cases ok with
 |false=>grind[nK]
 |true=>
  simp only [nK,if_true,cond_true]
  refine .bC [v,.bool b] [x,.ak b] rfl fun i u c h1 h2=> ?_
  match i with
  |0=>grind
  |1=>simp at h1 h2;subst h1;subst h2;exact .ak b
  |i+2=>grind
theorem iZ {e:TypeId} {ok:Bool} {vs:List AV} {r:Option (Option Nat)} (h:(il P e ok vs r sc).bL (ae hp)=some (res,rd)) (hc:∀c,c∈res.cs→c.p):
  (∃j v,r=some (some j)∧vs[j]? =some v∧res.v=nK ok v true∧res.eH=[])∨(∃z,r=some none∧dw P e=some z∧res.v=nK ok z false∧res.eH=[]):=by
 unfold il at h
 split at h
 ·injection h with h;injection h with h _;subst h
  obtain ⟨j,h1,h2⟩:=hc _ (List.mem_singleton.2 rfl)
  grind
 ·split at h
  ·rename_i z hz
   injection h with h;injection h with h _;subst h
   simp_all
  ·cases h
 ·split at h
  ·rename_i i
   split at h
   ·rename_i v hv
    obtain ⟨e1,e2,_,_⟩:=bB h
    grind
   ·cases h
  ·split at h
   ·rename_i z hz
    obtain ⟨e1,e2,_,_⟩:=bB h
    grind
   ·cases h
  ·cases h
theorem AN {t:TypeId} {x y:Operand} {ok:Bool} {m k:AV} (ho:o.op= .lookup t x y ok) (M:b7 F S β hp w) (hm:V S β w (a.eval x) m) (hk:V S β w (a.eval y) k) (hr:(pv P t m k ok sc).bL (ae hp)=some (res,rd)) (hc:∀c,c∈res.cs→c.p):
  b9 P F S β hp w a o res:=by
 unfold pv at hr
 cases hkt:mI P t with
 |none=>rw [hkt] at hr;cases hr
 |some q=>
  obtain ⟨kt,e,s⟩:=q
  rw [hkt] at hr
  obtain ⟨hu,hkk⟩:=lU hkt
  obtain ⟨d,hd,hKD⟩:=ue hkk
  simp only at hr
  have main:∀{es:Array MapEntry} {ks vs:List AV} {rd':List Nat},(∀j v,Instr.findNow d (a.eval y) es.toList 0=some (some (j,v))→(Instr.lookup t (a.eval x) (a.eval y) ok).run P w= .ok (if ok then .tuple #[v,.bool true] else v) w)→
    (∀z,Instr.findNow d (a.eval y) es.toList 0=some none→(zeroValue e).run P w= .ok z w→(Instr.lookup t (a.eval x) (a.eval y) ok).run P w= .ok (if ok then .tuple #[z,.bool false] else z) w)→ks.length=es.size→vs.length=es.size→(∀(i:Nat) e k,es[i]? =some e→ks[i]? =some k→V S β w e.key k)→
    (∀(i:Nat) e v,es[i]? =some e→vs[i]? =some v→V S β w e.val v)→(il P e ok vs (bs s k ks 0) sc).bL (ae hp)=some (res,rd')→b9 P F S β hp w a o res:=by
   intro es ks vs rd' hsm hno hl1 hl2 hkv hvv hr
   rcases iZ hr hc with ⟨j,v,hf,hv,e1,e2⟩|⟨z,hf,hz,e1,e2⟩
   ·rcases gG hKD hk ks es.toList 0 (by omega) (fun j e k a b=>hkv j e k (by grind) b) hf with ⟨hh,_⟩|⟨j',en,hj,he,hke,hkx,hn⟩
    ·grind
    ·injection hj with hj
     rw [Nat.zero_add] at hj hn
     subst hj
     have hV:=hvv j en v (by grind) hv
     simp_all[aV,bool,fh,execOp]
   ·rcases gG hKD hk ks es.toList 0 (by omega) (fun j e k a b=>hkv j e k (by grind) b) hf with ⟨_,hn⟩|⟨j',en,hj,_⟩
    ·obtain ⟨zv,hz1,hz2,_⟩:=ia (P:=P) (S:=S) (β:=β) (w:=w) hz
     simp_all[aV,bool,fh,execOp]
    grind
  cases m with
  |bh=>
   simp only at hr
   generalize hvx:a.eval x=vx at hm main
   cases hm
   exact main (es:= #[]) (ks:=[]) (vs:=[]) (fun j v h=>by grind[Instr.findNow]) (fun z h hz=>by simp [Instr.lookup,run_underlying hu,cr hkk,cB (es:= #[]) hd h,hz]) rfl rfl (by simp) (by simp) (by simpa [bs] using hr)
  |bH ks vs=>
   simp only at hr
   generalize hvx:a.eval x=vx at hm main
   cases hm with
   |bH r es cl _ _ hS hh hk1 hl1 hkv hvv=>
    exact main (es:=es) (fun j v h=>by simp [Instr.lookup,run_underlying hu,MapKept.run_getObj_map hh,cr hkk,cB hd h]) (fun z h hz=>by simp [Instr.lookup,run_underlying hu,MapKept.run_getObj_map hh,cr hkk,cB hd h,hz]) hk1 hl1 (fun i e k a b=>(hkv i e k a b).up) (fun i e v a b=>(hvv i e v a b).up) hr
  |aI id=>
   simp only [Rd.bL] at hr
   cases hl:ae hp id with
   |none=>grind
   |some ob=>
    rw [hl] at hr
    have hob:=M.dg id ob hl
    cases ob with
    |aI ks vs=>
     simp only at hr
     cases hq:(il P e ok vs (bs s k ks 0) sc).bL (ae hp) with
     |none=>grind
     |some p=>
      obtain ⟨r1,l1⟩:=p
      rw [hq] at hr
      injection hr with hr;injection hr with hr _;subst hr
      obtain ⟨bi,es,cl,h1,h2,h3,h4,h5,h6,_⟩:=hob
      generalize hvx:a.eval x=vx at hm main
      cases hm with
      |aI _ bj hb=>
       rw [hb] at h1;injection h1 with h1;subst h1
       exact main (es:=es) (fun j v h=>by simp [Instr.lookup,run_underlying hu,MapKept.run_getObj_map h2,cr hkk,cB hd h]) (fun z h hz=>by simp [Instr.lookup,run_underlying hu,MapKept.run_getObj_map h2,cr hkk,cB hd h,hz]) h3 h4 h5 h6 hq
    |_=>cases hr
  |_=>cases hr
theorem xN {t:TypeId} {d:Nat} (ho:o.op= .makeMap t none) (M:b7 F S β hp w) (h1:res.v= .aI d) (h2:res.eH=[(d,.aI [] [])]) (hn:ae hp d=none):b9 P F S β hp w a o res:=by
 have hob:HO S (β.nM d ⟨w.heap.size,0,0⟩) (w.alloc (.map #[] 0)) d (.aI [] []):=by
  refine ⟨_,#[],0,bn.cV _ _ _,?_,rfl,rfl,by simp,by simp,fun _=>MapKept.stamped_empty 0⟩
  show (w.heap.push _)[w.heap.size]? =_
  simp
 obtain ⟨E,M'⟩:=M.yY hn (.map #[] 0) (.aI [] []) (fun j a b h=>by cases h) 0 0 hob
 refine bM (v:= .map (some w.heap.size)) (w':=w.alloc (.map #[] 0)) ?_ E (by rw [h2];exact M') (by rw [h1];exact .aI d ⟨w.heap.size,0,0⟩ (bn.cV _ _ _))
 simp_all[execOp,Instr.makeMap]
theorem xM {s:Bool} {x:AV}:∀(ks:List AV) (i:Nat) {j:Nat},bs s x ks i=some (some j)→(∃k a,x= .aP k a)∨∃q,x= .J q
 |[],_,j,h=>by grind[bs]
 |k::ks,i,j,h=>by
  simp only [bs] at h
  cases hs:oM s x k with
  |none=>grind
  |some b=>
   cases x with
   |aP k a=>simp
   |J q=>simp
   |_=>grind[oM]
theorem AP {u:Value} {x:AV} (hx:V S β w u x) (h:(∃k a,x= .aP k a)∨∃q,x= .J q):(Instr.keyThatStays u u).run P w= .ok u w:=by
 rcases h with ⟨k,a,rfl⟩|⟨q,rfl⟩
 ·cases hx
  simp[Instr.sameBits,Instr.keyThatStays]
 ·cases hx
  simp[Instr.sameBits,nU,Instr.keyThatStays]
theorem Cq {ks:List AV} {k:AV} (h:(ks++[k]).all AE=true):ks.all AE=true:=by
 grind
theorem Fn {ks:List AV} {k:AV} {j:Nat} (hk:ks[j]? =some k) (h:(ks.set j k).all AE=true):ks.all AE=true:=by
 have:ks.set j k=ks:=by
  apply List.ext_getElem?
  grind
 grind
theorem mN {d:TypeDesc} {u:Value}:∀(es:List MapEntry) (i:Nat),Instr.findNow d u es i=some none→∀x,x∈es→x.key≠u
 |[],_,_,x,hx=>by grind
 |e::es,i,h,x,hx=>by
  simp only [Instr.findNow] at h
  cases hs:Instr.sameNow d u e.key with
  |none=>grind
  |some b=>
   rw [hs] at h
   cases b with
   |true=>grind
   |false=>
    rcases List.mem_cons.1 hx with rfl|hx
    ·intro hk
     rw [hk] at hs
     cases d<;>cases u<;>grind[Instr.sameNow,nU]
    ·exact mN es (i+1) h x hx
theorem AO {t:TypeId} {x y z:Operand} {m k v:AV} (ho:o.op= .mapUpdate t x y z) (M:b7 F S β hp w) (hm:V S β w (a.eval x) m) (hk:V S β w (a.eval y) k) (hv:V S β w (a.eval z) v) (hr:(px P t m k v sc).bL (ae hp)=some (res,rd)) (hc:∀c,c∈res.cs→c.p):
  b9 P F S β hp w a o res:=by
 unfold px at hr
 cases hkt:mI P t with
 |none=>rw [hkt] at hr;cases hr
 |some q=>
  obtain ⟨kt,e,s⟩:=q
  rw [hkt] at hr
  obtain ⟨hu,hkk⟩:=lU hkt
  obtain ⟨d,hd,hKD⟩:=ue hkk
  simp only at hr
  by_cases hov:xx v=true
  ·rw [if_pos hov] at hr;cases hr
  rw [if_neg hov] at hr
  have hov':∀sz es,v≠ .aX sz es:=by rintro sz es rfl;exact hov rfl
  cases m with
  |aI id=>
   simp only [Rd.bL] at hr
   cases hl:ae hp id with
   |none=>grind
   |some ob=>
    rw [hl] at hr
    have hob:=M.dg id ob hl
    cases ob with
    |aI ks vs=>
     simp only at hr
     obtain ⟨bi,es,cl,h1,h2,h3,h4,h5,h6,h7⟩:=hob
     generalize hvx:a.eval x=vx at hm
     cases hm with
     |aI _ bj hb=>
      rw [hb] at h1;injection h1 with h1;subst h1
      have hlt:bj.bG<w.heap.size:=(M.aX id bj hb).2.1
      have turns:∀ob,mK bj w {w with heap:=w.heap.setIfInBounds bj.bG ob}:=by
       intro ob
       refine ⟨rfl,rfl,rfl,by simp,fun b hb1 hb2=> ?_⟩
       grind
      have agr:∀ob,nI S w {w with heap:=w.heap.setIfInBounds bj.bG ob}:=fun ob b hb'=>(turns ob).gD b (M.sub b hb') (fun e=>(M.aX id bj hb).1 (e▸hb'))
      have new:∀ob,({w with heap:=w.heap.setIfInBounds bj.bG ob}:World).heap[bj.bG]? =some ob:=by
       grind
      cases hwh:jZ (bs s k ks 0) sc with
      |none=>rw [hwh] at hr;cases hr
      |some q3=>
       obtain ⟨r,cd,sc1⟩:=q3
       rw [hwh] at hr
       have hf:bs s k ks 0=some r:=by
        refine iX hwh ?_
        cases r with
        |none=>injection hr with hr;grind
        |some i=>injection hr with hr;grind
       have hfs:=gG hKD hk ks es.toList 0 (by omega) (fun j e k a b=>h5 j e k (by grind) b) hf
       rcases hfs with ⟨rfl,hn⟩|⟨j,en,rfl,he,hke,hkx,hn⟩
       ·simp only [Rd.bL] at hr
        injection hr with hr;injection hr with hr _;subst hr
        let ob:Obj:= .map (es.push {key:=a.eval y,val:=a.eval z,born:=cl}) (cl+1)
        have hob':HO S β {w with heap:=w.heap.setIfInBounds bj.bG ob} id (.aI (ks++[k]) (vs++[v])):=by
         refine ⟨bj,_,_,hb,new ob,by grind,by grind,fun i en kk he hkk=> ?_,fun i en vv he hvv=> ?_,fun hx=>MapKept.stamped_push (h7 (Cq hx)) (mN _ _ hn)⟩
         ·rw [Array.getElem?_push] at he
          split at he
          ·rename_i hi
           injection he with he;subst he
           subst hi
           rw [List.getElem?_append_right (by omega)] at hkk
           simp [h3] at hkk
           subst hkk
           simp_all[hk.bR]
          ·have hi:i<es.size:=(Array.getElem?_eq_some_iff.1 he).1
           rw [List.getElem?_append_left (by omega)] at hkk
           exact (h5 i en kk he hkk).bR (fun _ h=>h) (fun _ _ h=>h) (agr ob)
         ·rw [Array.getElem?_push] at he
          split at he
          ·rename_i hi
           injection he with he;subst he
           subst hi
           rw [List.getElem?_append_right (by omega)] at hvv
           simp [h4] at hvv
           subst hvv
           simp_all[hv.bR]
          ·have hi:i<es.size:=(Array.getElem?_eq_some_iff.1 he).1
           rw [List.getElem?_append_left (by omega)] at hvv
           exact (h6 i en vv he hvv).bR (fun _ h=>h) (fun _ _ h=>h) (agr ob)
        obtain ⟨E,M'⟩:=M.cR hb hl (by simp) (turns ob) _ hob' (fun j sz es' hj=>by
         simp only [Ob.at] at hj⊢
         rw [cT (new ob),cT h2]
         grind)
        refine pz ?_ E M' rfl
        have hrun:(Instr.mapUpdate t (.map (some bj.bG)) (a.eval y) (a.eval z)).run P w= .ok () {w with heap:=w.heap.setIfInBounds bj.bG ob}:=by
         simp [Instr.mapUpdate,run_underlying hu,MapKept.run_getObj_map h2,cr hkk,cB hd hn,MapKept.run_setObj_map _ h2,ob]
        simp_all[execOp]
       ·rw [Nat.zero_add] at hr hn
        simp only [Rd.bL] at hr
        injection hr with hr;injection hr with hr _;subst hr
        have hj:es[j]? =some en:=by grind
        have hshape:=xM ks 0 (by omega)
        let ob:Obj:= .map (es.modify j fun e=>{e with key:=a.eval y,val:=a.eval z}) cl
        have hob':HO S β {w with heap:=w.heap.setIfInBounds bj.bG ob} id (.aI (ks.set j k) (vs.set j v)):=by
         refine ⟨bj,_,_,hb,new ob,by grind,by grind,fun i en kk he hkk=> ?_,fun i en vv he hvv=> ?_,fun hx=>MapKept.stamped_modify (h7 (Fn hkx hx)) j _ (fun _ _=>rfl) (fun e0 _ he0=>by grind)⟩
         ·rw [Array.getElem?_modify] at he
          rw [List.getElem?_set] at hkk
          by_cases hij:j=i
          ·subst hij
           rw [if_pos rfl,hj] at he
           simp at he
           subst he
           rw [if_pos rfl] at hkk
           split at hkk
           ·injection hkk with hkk;subst hkk
            simp_all[hk.bR]
           grind
          ·rw [if_neg hij] at he hkk
           exact (h5 i en kk he hkk).bR (fun _ h=>h) (fun _ _ h=>h) (agr ob)
         ·rw [Array.getElem?_modify] at he
          rw [List.getElem?_set] at hvv
          by_cases hij:j=i
          ·subst hij
           rw [if_pos rfl,hj] at he
           simp at he
           subst he
           rw [if_pos rfl] at hvv
           split at hvv
           ·injection hvv with hvv;subst hvv
            simp_all[hv.bR]
           grind
          ·rw [if_neg hij] at he hvv
           exact (h6 i en vv he hvv).bR (fun _ h=>h) (fun _ _ h=>h) (agr ob)
        obtain ⟨E,M'⟩:=M.cR hb hl (by simp) (turns ob) _ hob' (fun i sz es' hi=>by
         simp only [Ob.at] at hi⊢
         rw [cT (new ob),cT h2]
         grind)
        refine pz ?_ E M' rfl
        have hstay:=AP (P:=P) hk hshape
        have hrun:(Instr.mapUpdate t (.map (some bj.bG)) (a.eval y) (a.eval z)).run P w= .ok () {w with heap:=w.heap.setIfInBounds bj.bG ob}:=by
         simp [Instr.mapUpdate,run_underlying hu,MapKept.run_getObj_map h2,cr hkk,cB hd hn,MapKept.run_setObj_map _ h2,hj,hke,hstay,ob]
        simp_all[execOp]
    |_=>cases hr
  |_=>cases hr
theorem za {t:TypeId} (h:pP P t=true):∃d,P.underlying t=some d∧∀ms,d≠ .interface ms:=by
 unfold pP at h
 grind
theorem rU {x:Operand} {xt t:TypeId} {ok:Bool} {X:AV} (ho:o.op= .typeAssert x xt t ok) (M:b7 F S β hp w) (hx:V S β w (a.eval x) X) (hr:(tS P X t ok sc).bL (ae hp)=some (res,rd)):b9 P F S β hp w a o res:=by
 unfold tS at hr
 by_cases hcn:pP P t=true
 ·rw [if_pos hcn] at hr
  obtain ⟨d,hd,hni⟩:=za hcn
  have miss:∀{v:Value},((∃dt u,v= .iface dt u∧dt≠t)∨v= .nilIface)→∀z zv,(zeroValue t).run P w= .ok zv w→V S β w zv z→a.eval x=v→ok=true→res.v=nK true z false→res.eH=[]→b9 P F S β hp w a o res:=by
   intro v hv z zv hz hV hvx hok e1 e2
   subst hok
   refine aV M (v:= .tuple #[zv,.bool false]) ?_ e2 (by grind[fh])
   rcases hv with ⟨dt,u,rfl,hne⟩|rfl
   ·cases d<;>first
     |exact absurd rfl (hni _)
     |simp_all[execOp,Instr.typeAssert,run_underlying]
   ·cases d<;>first
     |exact absurd rfl (hni _)
     |simp_all[execOp,Instr.typeAssert,run_underlying]
  cases X with
  |bu dt v=>
   simp only at hr
   generalize hvx:a.eval x=vx at hx
   cases hx with
   |bu _ u _ h=>
    by_cases hdt:dt=t
    ·rw [if_pos hdt] at hr
     obtain ⟨e1,e2,_,_⟩:=bB hr
     subst hdt
     refine aV M (v:=if ok then .tuple #[u,.bool true] else u) ?_ e2 (by grind[fh])
     cases d<;>first
      |exact absurd rfl (hni _)
      |simp_all[execOp,Instr.typeAssert,run_underlying]
    ·rw [if_neg hdt] at hr
     split at hr
     ·rename_i z hz
      obtain ⟨e1,e2,_,_⟩:=bB hr
      obtain ⟨zv,hz1,hz2,_⟩:=ia (P:=P) (S:=S) (β:=β) (w:=w) hz
      exact miss (.inl ⟨dt,u,rfl,hdt⟩) z zv hz1 hz2 hvx rfl e1 e2
     ·cases hr
  |eV=>
   simp only at hr
   generalize hvx:a.eval x=vx at hx
   cases hx
   split at hr
   ·rename_i z hz
    obtain ⟨e1,e2,_,_⟩:=bB hr
    obtain ⟨zv,hz1,hz2,_⟩:=ia (P:=P) (S:=S) (β:=β) (w:=w) hz
    grind
   ·cases hr
  |_=>cases hr
 ·rw [if_neg hcn] at hr;cases hr
end
end
section
section
variable {P:Program} {F:Fr} {S:df} {β:bn} {hp:List (Nat×Ob)} {w:World} {a:Act} {o:Oper} {res:dT} {rd:List Nat} {sc:List cv}
theorem kd {t k e:TypeId} {l:List Field} (h:fe P t=some (k,e,l)):
  P.underlying t=some (.map k e)∧∃fs:Array Field,P.underlying k=some (.struct fs)∧fs.toList=l∧∀f,f∈l→nL P f.type=true∧cJ P f.type=some 1:=by
 unfold fe at h
 grind
theorem AT {t:TypeId} (h:nL P t=true):ik P t=some false∧∀(em:Bool) (n:Nat) (v:Value),(Instr.checkKey em (n+1) t v).run P w= .ok () w:=by
 unfold nL at h
 split at h
 ·simp_all[ik,Instr.checkKey,run_underlying]
 all_goals simp_all[ik,Instr.checkKey,run_underlying]
theorem jw (em:Bool) (n:Nat) (vs:List Value):∀(l:List Field),(∀f,f∈l→nL P f.type=true∧cJ P f.type=some 1)→gC l vs.length=true→
  Sem.run P (forIn l PUnit.unit fun f (_:PUnit)=>(if f.name≠ "_" then (do let x←part f.type vs.toArray f.offset;Instr.checkKey em (n+1) f.type x;pure (ForInStep.yield PUnit.unit)) else pure (ForInStep.yield PUnit.unit):Sem (ForInStep PUnit))) w= .ok PUnit.unit w
 |[],_,_=>by simp
 |f::l,h,hi=>by
  obtain ⟨h1,h2⟩:=h f (by simp)
  obtain ⟨hag,hck⟩:=AT (w:=w) h1
  simp only [gC,List.all_cons,Bool.and_eq_true,decide_eq_true_eq] at hi
  have hp:=pV (P:=P) (w:=w) hag h2 vs f.offset (by omega) (fun _=>rfl)
  have ih:=jw em n vs l (fun g hg=>h g (List.mem_cons_of_mem _ hg)) hi.2
  rw [List.forIn_cons]
  by_cases hn:f.name= "_"
  ·grind
  ·simp only [ne_eq,hn,not_false_eq_true,if_true,Sem.run_bind,hp,Result.andThen_ok,hck]
   simp_all
theorem jx {k:TypeId} {fs:Array Field} {l:List Field} (hk:P.underlying k=some (.struct fs)) (hl:fs.toList=l) (h:∀f,f∈l→nL P f.type=true∧cJ P f.type=some 1) {vs:List Value} (hi:gC l vs.length=true) (em:Bool):
  (Instr.checkKey em 10000 k (.agg vs.toArray)).run P w= .ok () w:=by
 show (Instr.checkKey em (9998+1+1) k (.agg vs.toArray)).run P w= .ok () w
 rw [Instr.checkKey]
 simp only [Sem.run_bind,run_underlying hk,Result.andThen_ok]
 have:=jw (P:=P) (w:=w) em 9998 vs l h hi
 rw [←hl] at this
 rw [←Array.forIn_toList,this]
 simp
theorem ic {kt:TypeId} {fs:Array Field} (hk:P.underlying kt=some (.struct fs)) {us:List Value} {xs:List AV} (hx:bY S β w us xs):∀(ks:List AV) (es:List MapEntry) (i:Nat) {r:Option Nat},ks.length=es.length→
  (∀(j:Nat) e k,es[j]? =some e→ks[j]? =some k→V S β w e.key k)→fv P kt xs ks i=some r→
  (r=none∧(Instr.findAsking kt (.agg us.toArray) es i).run P w= .ok none w)∨∃j e,r=some (i+j)∧es[j]? =some e∧(Instr.findAsking kt (.agg us.toArray) es i).run P w= .ok (some (i+j,e.val)) w
 |[],[],i,r,_,_,h=>by
  simp only [fv] at h
  injection h with h
  simp[h.symm,Instr.findAsking]
 |[],_::_,i,r,hl,_,_=>by grind
 |_::_,[],i,r,hl,_,_=>by grind
 |k::ks,e::es,i,r,hl,hv,h=>by
  have hkv:=hv 0 e k rfl rfl
  cases k with
  |al ys=>
   simp only [fv] at h
   generalize hek:e.key=ek at hkv
   cases hkv with
   |al vs _ hl' h'=>
    have hg:ik P kt=some true:=by grind[ik]
    have main:∀b,tY P 20 kt xs ys=some (b,[],[])→(Op.equal kt (.agg us.toArray) (.agg vs.toArray)).run P w= .ok b w:=by
     intro b hq
     obtain ⟨m,i1,i2,i3,i4,i5⟩:=lR (P:=P) (S:=S) (β:=β) (w:=w) 20 10000 (by omega) kt xs ys [] [] b us vs hq hx ⟨hl',h'⟩
     have:=i5 true hg (by simp)
     have k1:us.take m=us:=List.take_of_length_le (by have:=congrArg List.length i1;rw [List.length_drop] at this;simp at this;have:=hx.1;omega)
     have k2:vs.take m=vs:=List.take_of_length_le (by have:=congrArg List.length i2;grind)
     grind[iB,Op.equal,Op.maxDepth]
    split at h
    ·rename_i hq
     injection h with h
     exact .inr ⟨0,e,h.symm,rfl,by simp_all[Instr.findAsking]⟩
    ·rename_i hq
     rcases ic hk hx ks es (i+1) (by grind) (fun j e k a b=>hv (j+1) e k (by grind) (by grind)) h with ⟨r1,r2⟩|⟨j,e',r1,r2,r3⟩
     ·simp_all[Instr.findAsking]
     ·refine .inr ⟨j+1,e',by grind,by grind,?_⟩
      have:i+1+j=i+(j+1):=by omega
      simp_all[Instr.findAsking]
    grind
  |_=>grind[fv]
theorem gj {kt:TypeId} {fs:Array Field} (hk:P.underlying kt=some (.struct fs)) {u:Array Value} {es:Array MapEntry} {r:Option (Nat×Value)} (h:(Instr.findAsking kt (.agg u) es.toList 0).run P w= .ok r w):
  (Instr.findKey kt (.agg u) es.toList).run P w= .ok r w:=by
 unfold Instr.findKey
 simp only [Sem.run_bind,run_underlying hk,Result.andThen_ok]
 cases hes:es.toList with
 |nil=>
  grind[Instr.findAsking,Sem.run_pure,Instr.findNow]
 |cons e l=>
  grind[Instr.findNow,Instr.sameNow]
theorem xP {t:TypeId} {x y:Operand} {ok:Bool} {m:AV} {xs:List AV} (ho:o.op= .lookup t x y ok) (M:b7 F S β hp w) (hm:V S β w (a.eval x) m) (hk:V S β w (a.eval y) (.al xs)) (hr:(pw P t m (.al xs) ok sc).bL (ae hp)=some (res,rd)) (hc:∀c,c∈res.cs→c.p):
  b9 P F S β hp w a o res:=by
 unfold pw at hr
 cases hkt:fe P t with
 |none=>rw [hkt] at hr;cases hr
 |some q=>
  obtain ⟨kt,e,l⟩:=q
  rw [hkt] at hr
  obtain ⟨hu,fs,hd,hl,hpl⟩:=kd hkt
  simp only at hr
  by_cases hfi:gC l xs.length=true
  ·rw [if_pos hfi] at hr
   generalize hvy:a.eval y=vy at hk
   cases hk with
   |al us _ hul hu'=>
    have hck:∀em,(Instr.checkKey em 10000 kt (.agg us.toArray)).run P w= .ok () w:=fun em=>jx hd hl hpl (by grind) em
    cases m with
    |bh=>
     simp only [] at hr
     generalize hvx:a.eval x=vx at hm
     cases hm
     rcases iZ hr hc with ⟨j,v,hf,hv,e1,e2⟩|⟨z,hf,hz,e1,e2⟩
     ·grind
     ·obtain ⟨zv,hz1,hz2,_⟩:=ia (P:=P) (S:=S) (β:=β) (w:=w) hz
      refine aV M (v:=if ok then .tuple #[zv,.bool false] else zv) ?_ e2 (by grind[fh])
      have hfk:=gj (es:= #[]) (u:=us.toArray) (r:=none) (w:=w) hd (by rfl)
      have hrun:(Instr.lookup t (.map none) (.agg us.toArray) ok).run P w= .ok (if ok then .tuple #[zv,.bool false] else zv) w:=by
       simp_all[Instr.lookup,run_underlying]
      simp_all[execOp]
    |aI id=>
     simp only [Rd.bL] at hr
     cases hlk:ae hp id with
     |none=>grind
     |some ob=>
      rw [hlk] at hr
      have hob:=M.dg id ob hlk
      cases ob with
      |aI ks vs=>
       simp only at hr
       cases hq:(il P e ok vs (fv P kt xs ks 0) sc).bL (ae hp) with
       |none=>grind
       |some p=>
        obtain ⟨r1,l1⟩:=p
        rw [hq] at hr
        injection hr with hr;injection hr with hr _;subst hr
        obtain ⟨bi,es,cl,h1,h2,h3,h4,h5,h6,_⟩:=hob
        generalize hvx:a.eval x=vx at hm
        cases hm with
        |aI _ bj hb=>
         rw [hb] at h1;injection h1 with h1;subst h1
         rcases iZ hq hc with ⟨j,v,hf,hv,e1,e2⟩|⟨z,hf,hz,e1,e2⟩
         ·rcases ic (P:=P) (S:=S) (β:=β) (w:=w) hd ⟨hul,hu'⟩ ks es.toList 0 (by omega) (fun j e k a b=>h5 j e k (by grind) b) hf with ⟨hh,_⟩|⟨j',en,hj,he,hn⟩
          ·grind
          ·injection hj with hj
           rw [Nat.zero_add] at hj hn
           subst hj
           have hV:=h6 j en v (by grind) hv
           refine aV M (v:=if ok then .tuple #[en.val,.bool true] else en.val) ?_ e2 (by grind[fh])
           have hfk:=gj hd hn
           have hrun:(Instr.lookup t (.map (some bj.bG)) (.agg us.toArray) ok).run P w= .ok (if ok then .tuple #[en.val,.bool true] else en.val) w:=by
            simp [Instr.lookup,run_underlying hu,MapKept.run_getObj_map h2,hck,hfk]
           simp_all[execOp]
         ·rcases ic (P:=P) (S:=S) (β:=β) (w:=w) hd ⟨hul,hu'⟩ ks es.toList 0 (by omega) (fun j e k a b=>h5 j e k (by grind) b) hf with ⟨_,hn⟩|⟨j',en,hj,_⟩
          ·obtain ⟨zv,hz1,hz2,_⟩:=ia (P:=P) (S:=S) (β:=β) (w:=w) hz
           refine aV M (v:=if ok then .tuple #[zv,.bool false] else zv) ?_ e2 (by grind[fh])
           have hfk:=gj hd hn
           have hrun:(Instr.lookup t (.map (some bj.bG)) (.agg us.toArray) ok).run P w= .ok (if ok then .tuple #[zv,.bool false] else zv) w:=by
            simp [Instr.lookup,run_underlying hu,MapKept.run_getObj_map h2,hck,hfk,hz1]
           simp_all[execOp]
          grind
      |_=>cases hr
    |_=>cases hr
  ·rw [if_neg hfi] at hr;cases hr
theorem AQ {kt:TypeId} {xs:List AV}:∀(ks:List AV) (k:AV),AE k=false→(ks++[k]).all AE=true→False:=by
 grind
theorem xQ {t:TypeId} {x y z:Operand} {m v:AV} {xs:List AV} (ho:o.op= .mapUpdate t x y z) (M:b7 F S β hp w) (hm:V S β w (a.eval x) m) (hk:V S β w (a.eval y) (.al xs)) (hv:V S β w (a.eval z) v)
  (hr:(py P t m (.al xs) v sc).bL (ae hp)=some (res,rd)) (hc:∀c,c∈res.cs→c.p):b9 P F S β hp w a o res:=by
 unfold py at hr
 cases hkt:fe P t with
 |none=>rw [hkt] at hr;cases hr
 |some q=>
  obtain ⟨kt,e,l⟩:=q
  rw [hkt] at hr
  obtain ⟨hu,fs,hd,hl,hpl⟩:=kd hkt
  simp only at hr
  by_cases hfi:gC l xs.length=true
  ·rw [if_pos hfi] at hr
   by_cases hov:xx v=true
   ·rw [if_pos hov] at hr;cases hr
   rw [if_neg hov] at hr
   have hov':∀sz es,v≠ .aX sz es:=by rintro sz es rfl;exact hov rfl
   have hk0:=hk
   generalize hvy:a.eval y=vy at hk
   cases hk with
   |al us _ hul hu'=>
    have hck:∀em,(Instr.checkKey em 10000 kt (.agg us.toArray)).run P w= .ok () w:=fun em=>jx hd hl hpl (by grind) em
    cases m with
    |aI id=>
     simp only [Rd.bL] at hr
     cases hlk:ae hp id with
     |none=>grind
     |some ob=>
      rw [hlk] at hr
      have hob:=M.dg id ob hlk
      cases ob with
      |aI ks vs=>
       simp only at hr
       obtain ⟨bi,es,cl,h1,h2,h3,h4,h5,h6,h7⟩:=hob
       generalize hvx:a.eval x=vx at hm
       cases hm with
       |aI _ bj hb=>
        rw [hb] at h1;injection h1 with h1;subst h1
        have hlt:bj.bG<w.heap.size:=(M.aX id bj hb).2.1
        have turns:∀ob,mK bj w {w with heap:=w.heap.setIfInBounds bj.bG ob}:=by
         intro ob
         refine ⟨rfl,rfl,rfl,by simp,fun b hb1 hb2=> ?_⟩
         grind
        have agr:∀ob,nI S w {w with heap:=w.heap.setIfInBounds bj.bG ob}:=fun ob b hb'=>(turns ob).gD b (M.sub b hb') (fun e=>(M.aX id bj hb).1 (e▸hb'))
        have new:∀ob,({w with heap:=w.heap.setIfInBounds bj.bG ob}:World).heap[bj.bG]? =some ob:=by
         grind
        cases hwh:jZ (fv P kt xs ks 0) sc with
        |none=>rw [hwh] at hr;cases hr
        |some q3=>
         obtain ⟨r,cd,sc1⟩:=q3
         rw [hwh] at hr
         have hf:fv P kt xs ks 0=some r:=by
          refine iX hwh ?_
          cases r with
          |none=>injection hr with hr;grind
          |some i=>cases hr
         rcases ic (P:=P) (S:=S) (β:=β) (w:=w) hd ⟨hul,hu'⟩ ks es.toList 0 (by omega) (fun j e k a b=>h5 j e k (by grind) b) hf with ⟨rfl,hn⟩|⟨j,en,rfl,he,hn⟩
         ·simp only [Rd.bL] at hr
          injection hr with hr;injection hr with hr _;subst hr
          rw [hvy] at hk0
          let ob:Obj:= .map (es.push {key:= .agg us.toArray,val:=a.eval z,born:=cl}) (cl+1)
          have hob':HO S β {w with heap:=w.heap.setIfInBounds bj.bG ob} id (.aI (ks++[.al xs]) (vs++[v])):=by
           refine ⟨bj,_,_,hb,new ob,by grind,by grind,fun i en kk he hkk=> ?_,fun i en vv he hvv=> ?_,fun hx=>(AQ (kt:=kt) (xs:=xs) _ _ rfl hx).elim⟩
           ·rw [Array.getElem?_push] at he
            split at he
            ·rename_i hi
             injection he with he;subst he
             subst hi
             rw [List.getElem?_append_right (by omega)] at hkk
             simp [h3] at hkk
             subst hkk
             simp_all[hk0.bR]
            ·have hi:i<es.size:=(Array.getElem?_eq_some_iff.1 he).1
             rw [List.getElem?_append_left (by omega)] at hkk
             exact (h5 i en kk he hkk).bR (fun _ h=>h) (fun _ _ h=>h) (agr ob)
           ·rw [Array.getElem?_push] at he
            split at he
            ·rename_i hi
             injection he with he;subst he
             subst hi
             rw [List.getElem?_append_right (by omega)] at hvv
             simp [h4] at hvv
             subst hvv
             simp_all[hv.bR]
            ·have hi:i<es.size:=(Array.getElem?_eq_some_iff.1 he).1
             rw [List.getElem?_append_left (by omega)] at hvv
             exact (h6 i en vv he hvv).bR (fun _ h=>h) (fun _ _ h=>h) (agr ob)
          obtain ⟨E,M'⟩:=M.cR hb hlk (by simp) (turns ob) _ hob' (fun j sz es' hj=>by
           simp only [Ob.at] at hj⊢
           rw [cT (new ob),cT h2]
           grind)
          refine pz ?_ E M' rfl
          have hfk:=gj hd hn
          have hrun:(Instr.mapUpdate t (.map (some bj.bG)) (.agg us.toArray) (a.eval z)).run P w= .ok () {w with heap:=w.heap.setIfInBounds bj.bG ob}:=by
           simp [Instr.mapUpdate,run_underlying hu,MapKept.run_getObj_map h2,hck,hfk,MapKept.run_setObj_map _ h2,ob]
          simp_all[execOp]
         ·cases hr
      |_=>cases hr
    |_=>cases hr
  ·rw [if_neg hfi] at hr;cases hr
theorem sN {es:Array MapEntry} {j:Nat} (hj:j<es.size) (i:Nat):(es.eraseIdxIfInBounds j)[i]? =if i<j then es[i]? else es[i+1]? :=by
 grind
theorem AR {t u:TypeId} {x y:Operand} {m k:AV} (ho:o.op= .call ⟨.builtin .delete,#[x,y],#[t,u]⟩) (M:b7 F S β hp w) (hm:V S β w (a.eval x) m) (hk:V S β w (a.eval y) k) (hr:(mG P t m k sc).bL (ae hp)=some (res,rd)) (hc:∀c,c∈res.cs→c.p):
  b9 P F S β hp w a o res:=by
 have exec:∀{v:Value} {w':World},(Builtin.delete_ #[t,u] o.type #[a.eval x,a.eval y]).run P w= .ok v w'→(execOp a.eval o).run P w= .ok (.value v) w':=by
  simp_all[execOp,resolve,invoke,builtin]
 unfold mG at hr
 cases hkt:mI P t with
 |none=>rw [hkt] at hr;cases hr
 |some q=>
  obtain ⟨kt,e,s⟩:=q
  rw [hkt] at hr
  obtain ⟨hu,hkk⟩:=lU hkt
  obtain ⟨d,hd,hKD⟩:=ue hkk
  simp only at hr
  by_cases htx:AE k=true
  rotate_left
  ·rw [if_neg htx] at hr;cases hr
  rw [if_pos htx] at hr
  cases m with
  |aI id=>
   simp only [Rd.bL] at hr
   cases hl:ae hp id with
   |none=>grind
   |some ob=>
    rw [hl] at hr
    have hob:=M.dg id ob hl
    cases ob with
    |aI ks vs=>
     simp only at hr
     obtain ⟨bi,es,cl,h1,h2,h3,h4,h5,h6,h7⟩:=hob
     generalize hvx:a.eval x=vx at hm exec
     cases hm with
     |aI _ bj hb=>
      rw [hb] at h1;injection h1 with h1;subst h1
      have hlt:bj.bG<w.heap.size:=(M.aX id bj hb).2.1
      have turns:∀ob,mK bj w {w with heap:=w.heap.setIfInBounds bj.bG ob}:=by
       intro ob
       refine ⟨rfl,rfl,rfl,by simp,fun b hb1 hb2=> ?_⟩
       grind
      have agr:∀ob,nI S w {w with heap:=w.heap.setIfInBounds bj.bG ob}:=fun ob b hb'=>(turns ob).gD b (M.sub b hb') (fun e=>(M.aX id bj hb).1 (e▸hb'))
      have new:∀ob,({w with heap:=w.heap.setIfInBounds bj.bG ob}:World).heap[bj.bG]? =some ob:=by
       grind
      cases hwh:jZ (bs s k ks 0) sc with
      |none=>rw [hwh] at hr;cases hr
      |some q3=>
       obtain ⟨r,cd,sc1⟩:=q3
       rw [hwh] at hr
       have hf:bs s k ks 0=some r:=by
        refine iX hwh ?_
        cases r with
        |none=>injection hr with hr;grind
        |some i=>injection hr with hr;grind
       have hfs:=gG hKD hk ks es.toList 0 (by omega) (fun j e k a b=>h5 j e k (by grind) b) hf
       rcases hfs with ⟨rfl,hn⟩|⟨j,en,rfl,he,hke,hkx,hn⟩
       ·simp only [Rd.bL] at hr
        injection hr with hr;injection hr with hr _;subst hr
        let ob:Obj:= .map es cl
        have hob':HO S β {w with heap:=w.heap.setIfInBounds bj.bG ob} id (.aI ks vs):=
         ⟨bj,es,cl,hb,new ob,h3,h4,fun i en kk he hkk=>(h5 i en kk he hkk).bR (fun _ h=>h) (fun _ _ h=>h) (agr ob),fun i en vv he hvv=>(h6 i en vv he hvv).bR (fun _ h=>h) (fun _ _ h=>h) (agr ob),h7⟩
        obtain ⟨E,M'⟩:=M.cR hb hl (by simp) (turns ob) _ hob' (fun j sz es' hj=>⟨hj,by rw [cT (new ob),cT h2]⟩)
        refine bM (v:= .tuple #[]) (exec ?_) E M' (.bC [] [] rfl (by simp))
        simp [Builtin.delete_,run_underlying hu,MapKept.run_getObj_map h2,cr hkk,cB hd hn,MapKept.run_setObj_map _ h2,ob]
       ·rw [Nat.zero_add] at hr hn
        simp only [Rd.bL] at hr
        injection hr with hr;injection hr with hr _;subst hr
        have hown:=hc _ (List.mem_cons_of_mem _ (List.mem_singleton.2 rfl))
        simp only at hown
        have hj:es[j]? =some en:=by grind
        have hjs:j<es.size:=(Array.getElem?_eq_some_iff.1 hj).1
        let ob:Obj:= .map (es.eraseIdxIfInBounds j) cl
        have hob':HO S β {w with heap:=w.heap.setIfInBounds bj.bG ob} id (.aI (ks.eraseIdx j) (vs.eraseIdx j)):=by
         have hsz:(es.eraseIdxIfInBounds j).size=es.size-1:=by
          grind
         refine ⟨bj,_,_,hb,new ob,by grind,by grind,fun i en kk he hkk=> ?_,fun i en vv he hvv=> ?_,fun hx=> ?_⟩
         ·rw [sN hjs] at he
          rw [List.getElem?_eraseIdx] at hkk
          by_cases hij:i<j
          ·rw [if_pos hij] at he hkk
           exact (h5 i en kk he hkk).bR (fun _ h=>h) (fun _ _ h=>h) (agr ob)
          ·rw [if_neg hij] at he hkk
           exact (h5 (i+1) en kk he hkk).bR (fun _ h=>h) (fun _ _ h=>h) (agr ob)
         ·rw [sN hjs] at he
          rw [List.getElem?_eraseIdx] at hvv
          by_cases hij:i<j
          ·rw [if_pos hij] at he hvv
           exact (h6 i en vv he hvv).bR (fun _ h=>h) (fun _ _ h=>h) (agr ob)
          ·rw [if_neg hij] at he hvv
           exact (h6 (i+1) en vv he hvv).bR (fun _ h=>h) (fun _ _ h=>h) (agr ob)
         ·refine MapKept.stamped_erase (h7 ?_) j
          rw [List.all_eq_true] at hx⊢
          intro z hz
          by_cases hzz:z∈ks.eraseIdx j
          ·grind
          ·obtain ⟨i,hi⟩:=List.mem_iff_getElem?.1 hz
           have hij:i=j:=by
            by_cases h:i=j
            ·omega
            ·exfalso
             refine hzz (List.mem_iff_getElem?.2 ?_)
             by_cases hlt2:i<j
             ·exact ⟨i,by grind⟩
             ·refine ⟨i-1,?_⟩
              grind
           grind
        obtain ⟨E,M'⟩:=M.cR hb hl (by simp) (turns ob) _ hob' (fun i sz es' hi=>by
         exfalso
         simp only [Ob.at] at hi
         have:=hown _ (List.mem_of_mem_eraseIdx (List.mem_of_getElem? hi))
         cases this)
        refine bM (v:= .tuple #[]) (exec ?_) E M' (.bC [] [] rfl (by simp))
        simp [Builtin.delete_,run_underlying hu,MapKept.run_getObj_map h2,cr hkk,cB hd hn,MapKept.run_setObj_map _ h2,ob]
    |_=>cases hr
  |_=>cases hr
end
end
section
section
variable {P:Program} {F:Fr} {S:df} {β:bn} {hp:List (Nat×Ob)} {w:World} {a:Act} {o:Oper} {res:dT} {rd:List Nat} {sc:List cv} {n:Nat} {env:List (Nat×AV)}
theorem qf (E:sx S β w n env a) (l:List Operand):bY S β w (l.map a.eval) (l.map (a7 env)):=by
 refine ⟨by simp,fun i v x h1 h2=> ?_⟩
 grind[aD]
theorem nX (E:sx S β w n env a):∀(l:List (Nat×Operand)),vE S β w (l.map fun x=>(x.1,a.eval x.2)) ((l.map (·.1)).zip ((l.map (·.2)).map (a7 env)))
 |[]=>trivial
 |x::l=>⟨rfl,aD E x.2,nX E l⟩
set_option maxHeartbeats 1000000 in
theorem uf {d:Nat} (E:sx S β w n env a) (M:b7 F S β hp w) (hr:(cQ P d o.op (o.op.operands.toList.map (a7 env)) sc).bL (ae hp)=some (res,rd)) (hc:∀c,c∈res.cs→c.p)
  (hn:∀id,id∈res.dN→ae hp id=none):b9 P F S β hp w a o res:=by
 cases hop:o.op with
 |move x=>rw [hop] at hr;exact yZ (.inl hop) M (aD E x) hr
 |assign x=>rw [hop] at hr;exact yZ (.inr hop) M (aD E x) hr
 |pick c x y=>
  rw [hop] at hr
  change (cQ P d (.pick c x y) [a7 env c,a7 env x,a7 env y] sc).bL _=_ at hr
  have hC:=aD E c
  generalize a7 env c=C at hr hC
  cases C with
  |ak b=>exact Fh hop M hC (aD E x) (aD E y) hr
  |_=>cases hr
 |alloc t=>
  rw [hop] at hr
  change (match dw P t with|some z=>if cx z=true then Rd.aY else jY d z sc|none=>Rd.aY).bL _=_ at hr
  cases hz:dw P t with
  |none=>rw [hz] at hr;cases hr
  |some z=>
   rw [hz] at hr
   simp only at hr
   by_cases hd:cx z=true
   ·rw [if_pos hd] at hr;cases hr
   ·rw [if_neg hd] at hr
    grind[Ch]
 |box t x=>
  rw [hop] at hr
  change (if cx (a7 env x)=true then Rd.aY else jY d (a7 env x) sc).bL _=_ at hr
  by_cases hd:cx (a7 env x)=true
  ·rw [if_pos hd] at hr;cases hr
  ·rw [if_neg hd] at hr
   exact Km hop M (aD E x) (by grind) hr hn
 |build t ps=>
  rw [hop] at hr
  refine Cl (sc:=sc) (rd:=rd) hop M (nX E ps.toList) ?_
  grind[Op.operands,cQ]
 |buildSlice t m ps=>
  rw [hop] at hr
  refine rS (d:=d) (sc:=sc) (rd:=rd) hop M (nX E ps.toList) ?_ hc hn
  grind[Op.operands,cQ]
 |load t x=>rw [hop] at hr;exact Ff hop M (aD E x) hr hc
 |store t x y=>rw [hop] at hr;exact Ck hop M (aD E x) (aD E y) hr hc
 |nilCheck x=>
  rw [hop] at hr
  change (cQ P d (.nilCheck x) [a7 env x] sc).bL _=_ at hr
  have hX:=aD E x
  generalize a7 env x=X at hr hX
  cases X with
  |aA i k q=>exact oN (.inl ⟨i,k,q,rfl⟩) hop M hX hr
  |aE cs=>exact oN (.inr ⟨cs,rfl⟩) hop M hX hr
  |_=>cases hr
 |binOp op t x y ty=>
  rw [hop] at hr
  change (if xu (a7 env y)=true then Fc P op t (a7 env x) (a7 env y) sc else if iW (a7 env x)=true then tX P op t (a7 env x) (a7 env y) sc else tU P op t (a7 env x) (a7 env y) sc).bL _=_ at hr
  have hX:=aD E x
  have hY:=aD E y
  by_cases hnil:xu (a7 env y)=true
  ·rw [if_pos hnil] at hr
   grind[Kl]
  rw [if_neg hnil] at hr
  by_cases hd:iW (a7 env x)=true
  ·rw [if_pos hd] at hr
   generalize a7 env x=X at hr hX hd
   generalize a7 env y=Y at hr hY
   cases X with
   |al xs=>
    cases Y with
    |al ys=>grind[Cf]
    |_=>cases hr
   |_=>cases hd
  ·rw [if_neg hd] at hr
   grind[Cd]
 |unOp op t x=>
  rw [hop] at hr
  change (cQ P d (.unOp op t x) [a7 env x] sc).bL _=_ at hr
  have hX:=aD E x
  generalize a7 env x=X at hr hX
  cases op with
  |not=>
   cases X with
   |ak b=>exact Fi hop M hX hr
   |_=>cases hr
  |neg=>
   cases X with
   |aP k n=>exact Kk hop M hX hr
   |_=>cases hr
  |_=>cases hr
 |convert s t x=>rw [hop] at hr;exact xF hop M (aD E x) hr hc
 |makeInterface t x=>
  rw [hop] at hr
  change (if pP P t=true then val (.bu t (a7 env x)) sc else Rd.aY).bL _=_ at hr
  by_cases hd:pP P t=true
  ·rw [if_pos hd] at hr
   obtain ⟨ds,h1,h2⟩:=za hd
   exact nO hop M (aD E x) h1 h2 hr
  ·rw [if_neg hd] at hr;cases hr
 |makeFunc fn first cap=>
  rw [hop] at hr
  cases fn with
  |func f=>
   have hr':(if (((first++cap).toList.map (a7 env)).length=first.size+cap.size) then val (.bZ f (((first++cap).toList.map (a7 env)).take first.size) (((first++cap).toList.map (a7 env)).drop first.size)) sc else Rd.aY).bL (ae hp)=some (res,rd):=hr
   rw [if_pos (by simp)] at hr'
   exact vC hop M (qf E _) hr'
  |_=>cases hr
 |makeSlice t x y=>
  rw [hop] at hr
  change (cQ P d (.makeSlice t x y) [a7 env x,a7 env y] sc).bL _=_ at hr
  have hX:=aD E x
  have hY:=aD E y
  generalize a7 env x=X at hr hX
  generalize a7 env y=Y at hr hY
  cases X with
  |aP k p=>
   cases k with
   |i64=>
    cases Y with
    |aP k2 q=>
     cases k2 with
     |i64=>exact ud (d:=d) hop M hX hY hr hc hn
     |_=>cases hr
    |_=>cases hr
   |_=>cases hr
  |_=>cases hr
 |slice t x lo hi mx=>
  rw [hop] at hr
  have hX:=(aD E x).b8
  have yes:∀(q:Operand),((some q=none∧some (a7 env q)=none)∨∃q' y,some q=some q'∧some (a7 env q)=some y∧V S β w (a.eval q') y):=fun q=> .inr ⟨q,_,rfl,rfl,aD E q⟩
  have no:(((none:Option Operand)=none∧(none:Option AV)=none)∨∃q' y,(none:Option Operand)=some q'∧(none:Option AV)=some y∧V S β w (a.eval q') y):= .inl ⟨rfl,rfl⟩
  cases lo with
  |some l=>
   cases hi with
   |some h=>
    cases mx with
    |some m=>
     change (lN P t (b8 (a7 env x)) (some (a7 env l)) (some (a7 env h)) (some (a7 env m)) sc).bL _=_ at hr
     exact kb hop M hX (yes l) (yes h) (yes m) hr hc
    |none=>
     change (mF P t (b8 (a7 env x)) (some (a7 env l)) (some (a7 env h)) none sc).bL _=_ at hr
     generalize b8 (a7 env x)=X at hr hX
     unfold mF at hr
     split at hr
     ·exact xK hop M hX (yes l) (yes h) hr hc
     ·exact kb hop M hX (yes l) (yes h) no hr hc
   |none=>
    cases mx with
    |some m=>cases hr
    |none=>
     change (mF P t (b8 (a7 env x)) (some (a7 env l)) none none sc).bL _=_ at hr
     generalize b8 (a7 env x)=X at hr hX
     unfold mF at hr
     split at hr
     ·exact xK hop M hX (yes l) no hr hc
     ·exact kb hop M hX (yes l) no no hr hc
  |none=>
   cases hi with
   |none=>cases mx<;>cases hr
   |some h=>
    cases mx with
    |some m=>
     change (lN P t (b8 (a7 env x)) none (some (a7 env h)) (some (a7 env m)) sc).bL _=_ at hr
     exact kb hop M hX no (yes h) (yes m) hr hc
    |none=>
     change (mF P t (b8 (a7 env x)) none (some (a7 env h)) none sc).bL _=_ at hr
     generalize b8 (a7 env x)=X at hr hX
     unfold mF at hr
     split at hr
     ·exact xK hop M hX no (yes h) hr hc
     ·exact kb hop M hX no (yes h) no hr hc
 |fieldAddr t x f=>rw [hop] at hr;exact t8 hop M (aD E x) hr
 |field t x f=>rw [hop] at hr;exact Cj hop M (aD E x) hr
 |indexAddr t x i=>
  rw [hop] at hr
  change (cQ P d (.indexAddr t x i) [a7 env x,a7 env i] sc).bL _=_ at hr
  have hI:=aD E i
  generalize a7 env i=I at hr hI
  cases I with
  |aP k m=>exact ua hop M (aD E x).b8.xz hI hr hc
  |_=>cases hr
 |index t x i=>
  rw [hop] at hr
  change (cQ P d (.index t x i) [a7 env x,a7 env i] sc).bL _=_ at hr
  have hI:=aD E i
  generalize a7 env i=I at hr hI
  cases I with
  |aP k m=>exact Ce hop M (aD E x) hI hr hc
  |_=>cases hr
 |extract x i=>
  rw [hop] at hr
  change (cQ P d (.extract x i) [a7 env x] sc).bL _=_ at hr
  have hX:=aD E x
  generalize a7 env x=X at hr hX
  cases X with
  |bC xs=>
   change (match xs[i]? with|some x=>val x sc|none=>Rd.aY).bL _=_ at hr
   cases hx:xs[i]? with
   |none=>rw [hx] at hr;cases hr
   |some y=>grind[xD]
  |_=>cases hr
 |typeAssert x xt t ok=>rw [hop] at hr;exact rU hop M (aD E x) hr
 |makeMap t r=>
  rw [hop] at hr
  cases r with
  |none=>
   have hr':(some (({v:= .aI d,eH:=[(d,.aI [] [])],dN:=[d],sc:=sc}:dT),([]:List Nat)))=some (res,rd):=hr
   injection hr' with hr'
   injection hr' with hr' _
   subst hr'
   exact xN hop M rfl rfl (hn d (by simp))
  |some r=>cases hr
 |range t x=>
  rw [hop] at hr
  change (cQ P d (.range t x) [a7 env x] sc).bL _=_ at hr
  have hX:=aD E x
  generalize a7 env x=X at hr hX
  cases X with
  |J s=>
   simp only [cQ] at hr
   cases hu:P.underlying t with
   |none=>rw [hu] at hr;cases hr
   |some ds=>
    rw [hu] at hr
    cases ds<;>first
     |(cases hr;done)
     |skip
    injection hr with hr
    injection hr with hr _
    subst hr
    exact Cp hop M hX hu rfl rfl (hn d (by simp))
  |_=>cases hr
 |next x b=>
  rw [hop] at hr
  change (cQ P d (.next x b) [a7 env x] sc).bL _=_ at hr
  have hX:=aD E x
  generalize a7 env x=X at hr hX
  cases b with
  |false=>cases hr
  |true=>
   cases X with
   |aA id k off=>
    match k,off,hr,hX with
    |0,0,hr,hX=>exact Fm hop M hX hr hc
    |0,off+1,hr,_=>cases hr
    |k+1,off,hr,_=>cases hr
   |_=>cases hr
 |lookup t x y ok=>
  rw [hop] at hr
  change (if iW (a7 env y)=true then pw P t (a7 env x) (a7 env y) ok sc else pv P t (a7 env x) (a7 env y) ok sc).bL _=_ at hr
  have hY:=aD E y
  by_cases hd:iW (a7 env y)=true
  ·rw [if_pos hd] at hr
   generalize a7 env y=Y at hr hY hd
   cases Y with
   |al ys=>exact xP hop M (aD E x) hY hr hc
   |_=>cases hd
  ·rw [if_neg hd] at hr
   exact AN hop M (aD E x) hY hr hc
 |mapUpdate t x y z=>
  rw [hop] at hr
  change (if iW (a7 env y)=true then py P t (a7 env x) (a7 env y) (a7 env z) sc else px P t (a7 env x) (a7 env y) (a7 env z) sc).bL _=_ at hr
  have hY:=aD E y
  by_cases hd:iW (a7 env y)=true
  ·rw [if_pos hd] at hr
   generalize a7 env y=Y at hr hY hd
   cases Y with
   |al ys=>exact xQ hop M (aD E x) hY (aD E z) hr hc
   |_=>cases hd
  ·rw [if_neg hd] at hr
   exact AO hop M (aD E x) hY (aD E z) hr hc
 |call c=>
  rw [hop] at hr
  obtain ⟨callee,args,ts⟩:=c
  cases callee with
  |value f=>
   have hr':(mE P (a7 env f) (args.toList.map (a7 env)) sc).bL (ae hp)=some (res,rd):=by
    simp_all[Op.operands,Call.operands,cQ]
   exact Fj hop M (aD E f) (qf E _) hr' hc hn
  |builtin b=>
   have hr0:(jW P d b ts (args.toList.map (a7 env)) sc).bL (ae hp)=some (res,rd):=by
    grind[Op.operands,Call.operands,cQ]
   obtain ⟨args⟩:=args
   obtain ⟨ts⟩:=ts
   rcases vz P d b ⟨ts⟩ (args.map (a7 env)) sc with ⟨t,u,m,k,rfl,h1,h2,h3⟩|heq
   ·have hr1:(mG P t m k sc).bL (ae hp)=some (res,rd):=by grind
    match args,h2 with
    |[q,q'],h2=>
     injection h2 with h2 h4
     injection h4 with h4
     subst h2;subst h4
     have:ts=[t,u]:=h1
     subst this
     exact AR hop M (aD E q) (aD E q') hr1 hc
   have hr':(mD P d b ⟨ts⟩ (args.map (a7 env)) sc).bL (ae hp)=some (res,rd):=by grind
   clear heq hr0
   unfold mD at hr'
   split at hr'
   ·rename_i t x h1 h2
    match args,h2 with
    |[q],h2=>
     injection h2 with h2
     subst h2
     have:ts=[t]:=h1
     subst this
     exact Kn (ty:=t) hop M (aD E q).b8.xz hr'
   ·rename_i t u x y h1 h2
    match args,h2 with
    |[q,q'],h2=>
     injection h2 with h2 h3
     injection h3 with h3
     subst h2;subst h3
     have:ts=[t,u]:=h1
     subst this
     by_cases htu:t=u
     ·rw [if_pos htu] at hr'
      subst htu
      split at hr'
      ·rename_i m sc'
       exact sM (d:=m.toNat) hop M (aD E q).b8 (aD E q').b8 hr' hc hn
      ·exact sM (d:=d) hop M (aD E q).b8 (aD E q').b8 hr' hc hn
     ·rw [if_neg htu] at hr';cases hr'
   ·rename_i t x h1 h2
    match args,h2 with
    |[q],h2=>
     injection h2 with h2
     subst h2
     have:ts=[t]:=h1
     subst this
     exact Co hop M (aD E q).b8 hr' hc
   ·rename_i t u x y h1 h2
    match args,h2 with
    |[q,q'],h2=>
     injection h2 with h2 h3
     injection h3 with h3
     subst h2;subst h3
     have:ts=[t,u]:=h1
     subst this
     exact Fl hop M (aD E q).b8 (aD E q').b8 hr' hc
   ·rename_i t u k p k' q0 h1 h2
    have hlen:args.length=2:=by simpa using congrArg List.length h2
    match args,hlen,h2 with
    |[q,q'],_,h2=>
     injection h2 with h2 h3
     grind[Ko,aD]
   ·rename_i t u k p k' q0 h1 h2
    have hlen:args.length=2:=by simpa using congrArg List.length h2
    match args,hlen,h2 with
    |[q,q'],_,h2=>
     injection h2 with h2 h3
     grind[Kp,aD]
   ·cases hr'
  |invoke f name=>
   have hr':(pu P name (a7 env f) (args.toList.map (a7 env)) sc).bL (ae hp)=some (res,rd):=by
    simp_all[Op.operands,Call.operands,cQ]
   exact AI hop M (aD E f) (qf E _) hr' hc hn
 |_=>rw [hop] at hr;simp [cQ] at hr;cases hr
end
end
end Go.Ped
