/- The function MagicRewrites answers true for every input, so its card holds. -/
import Derived.Test.YthhfolohakiemaaGreatDoorCards
import Derived.Test.YthhfolohakiemaaGreatDoorTie
import Derived.Test.YthhfolohakiemaaGreatDoorMagI
import Derived.Test.YthhfolohakiemaaGreatDoorMagQ
import Derived.Test.YthhfolohakiemaaGreatDoorMagV
set_option linter.all false
namespace Go.Proofs.YthhfolohakiemaaGreatDoor.magicRewrites
open Go.ChangeShapes Go.WideShapes Go.ChangeAt Go.RowKit Go.Ped
section
theorem ex_C {x:Ex} (h:uT x):rO x:=by
 induction h with
 |mk o t ks h hk ih=>exact .mk _ (by show ks.length≤_;omega) ih
theorem ru_C {r:Ru} (h:B6 r):IS r:=by
 obtain ⟨h1,h2,h3⟩:=h
 exact ⟨by omega,by omega,fun y hy=>by
  obtain ⟨g1,g2,g3⟩:=h3 y hy
  exact ⟨by omega,ex_C g1,ex_C g2⟩⟩
theorem kMag (rules:List Ru) (p:ByteArray) (ts:List Tm) (hS:∀r,r∈rules→B6 r) (hsm:rules.length≤2199023255488) (hts:ts.length≤2932031007317):Ped.Sp 6 [sR rules,gU p ts] [] (.ak true) []:=by
 obtain ⟨rb,s17,h17⟩:=k17 rules hS (by omega)
 refine k6 rules p ts hsm (fun r hr=>ru_C (hS r hr)) hts rb s17 fun hb=> ?_
 obtain ⟨hl,hB⟩:=h17 hb
 exact NJ rules p ts (by omega) hB
set_option maxRecDepth 100000
theorem own:ownKnob Tryz.prog.godebug=none:=by kernel_rfl
theorem laidOut:laidOutB Tryz.prog=true:=by kernel_rfl
theorem gTabType:(Tryz.prog.globals[0]?).map (·.type)=some 298:=by kernel_rfl
theorem ulTab:Tryz.prog.underlying 298=some (.array 20 204):=by kernel_rfl
theorem ulTabE:Tryz.prog.underlying 204=some (.int .u64):=by kernel_rfl
theorem cells298:Tryz.prog.cellsOf 298=20:=by kernel_rfl
theorem cells204:Tryz.prog.cellsOf 204=1:=by kernel_rfl
theorem table {W:World} (h:laidMetH Tryz.prog Rows.magicRewritesRow.laid W):B7 W:=by
 obtain ⟨_,⟨_,_,_,_,_,_,_,_,_,_,⟨_,_,_,_,_,_,_,_,_,_,⟨g',t',cs,fuel,p,q,hg',ht',hvar,hd,_,_⟩,_⟩,_⟩,_⟩:=h
 obtain rfl:=Option.some.inj (Tryz.gTab.symm.trans hg')
 obtain rfl:=Option.some.inj (gTabType.symm.trans ht')
 have hd':DataW.trod (fun _=>()) Tryz.prog W 0 (fun _=>true) false fuel 298 cs.toList=some (Lib.tabData .u64 Lib.pow10Tab,p):=hd
 have hcs:=Lib.cells_of_tab ulTab ulTabE cells204 cells298 hd'
 refine Ft ?_
 unfold Lib.TabIs
 rw [hvar]
 congr 1
 rw [←hcs]
theorem contract (H:Type) (enc:TypeId×Value→H) (W:World) (base:Nat) (args:Array Value) (ds gs:List (DataW H)) (before:List MemPlace)
  (hval:∀(j:Nat) t v,Tryz.f6.params[j]? =some t→args[j]? =some v→Value.okWide Tryz.prog W .any base t v)
  (hW:DataW.Whole enc Tryz.prog Tryz.f6.params.toList Rows.magicRewritesSpec.vars false W args.toList ds gs before)
  (hsz:(DataW.weightsEach Tryz.prog (Tryz.f6.params.toList++(OpenSpec.ofChange Rows.magicRewritesSpec).bare.plain.varTypes Tryz.prog) (ds++gs)).all (· ≤reachBytes)=true) (hL:laidMetH Tryz.prog Rows.magicRewritesRow.laid W):
  Calls Tryz.prog 6 args W fun e W'=>∃v,e= .returned v∧Rows.magicRewritesSpec.post enc Tryz.prog Tryz.f6 false true false false W args v W':=by
 have hW':=hW
 obtain ⟨p,q,hA0,hV,rfl,hfz,hnd⟩:=hW
 have hA:DataW.TrodAll enc Tryz.prog W 0 (fun _=>true) true Tryz.f6.params.toList args.toList ds p:=hA0
 rw [Tryz.params6] at hA hval
 obtain ⟨v0,vs0,d0,ds0,p0,q0,hargs,rfl,rfl,h0,r0⟩:=trodAll_cons hA
 obtain ⟨v1,vs1,d1,ds1,p1,q1,rfl,rfl,rfl,h1,r1⟩:=trodAll_cons r0
 obtain ⟨rfl,rfl,rfl⟩:=trodAll_nil r1
 obtain rfl:args= #[v0,v1]:=by cases args;simp_all
 obtain ⟨rfl,rfl⟩:=trodVars_none hV
 clear hA0 hA r0 r1
 simp only [List.append_nil] at hW'
 obtain ⟨a0,l0,c0,rfl⟩:=okWide_slice Tryz.underlying52 (hval 0 52 v0 rfl rfl)
 obtain ⟨cs1,rfl,_⟩:=okWide_struct Tryz.underlying24 (hval 1 24 v1 rfl rfl)
 have hlt:∀x∈p0++p1,x.block<W.heap.size:=fun x hx=>by simpa using hW'.lt x hx
 have hwt:∀{j:Nat} {t:TypeId} {d:DataW H},[52,24][j]? =some t→[d0,d1][j]? =some d→Fit Tryz.prog t d:=by
  intro j t d ht hd
  refine List.all_eq_true.2 fun x hx=>List.all_eq_true.1 hsz x ?_
  refine DataW.weights_mem_each (j:=j) (t:=t) (d:=d) ?_ ?_ x hx
  ·rw [Tryz.params6]
   match j,ht with
   |0,ht=>simpa using ht
   |1,ht=>simpa using ht
   |j+2,ht=>simp at ht
  ·simpa using hd
 have k0:=h0
 have k1:=h1
 obtain ⟨n0,h0⟩:=h0
 obtain ⟨n1,h1⟩:=h1
 obtain ⟨v0',rules,e0,V0,hG,b0⟩:=kN Ru.av B6 Tryz.underlying52 Ak (by omega) (hwt (j:=0) rfl rfl) (fun n cs y g1 g2 _=>MN g1 g2) h0
 obtain rfl:Value.slice a0 l0 c0=v0':=by
  have:[Value.slice a0 l0 c0]=[v0']:=e0
  injection this
 rw [H2,rz] at b0
 obtain ⟨pr,ts,E1,hts⟩:=Er h1 (hwt (j:=1) rfl rfl)
 have V1:V (lm W) fo W (.agg cs1) (gU pr ts):= .al cs1.toList (vr pr ts) E1.1 E1.2
 have hS:=kMag rules pr ts hG (by omega) (by omega)
 have hT:=table hL
 let F:Fr:={w0:=W,S0:=lm W,M:=fun _=>False,β0:=fo}
 have M:b7 F (lm W) fo [] W:=b7.pj ⟨⟨hT,fun h=>h⟩,rfl,rfl,rfl,Nat.le_refl _,fun _ _ _=>rfl,fun id o h=>(by cases h),fun id bi h=>(by cases h),fun i j bi bj h=>(by cases h),fun i bi h=>(by cases h),fun b h=>h,fun _ h=>h,fun _ h=> .inl h,fun i b _ h=>h⟩ (fun _=>NK.yV (fun id o j sz es h=>by cases h))
 have hcall:=hS F (lm W) fo [] W [.slice a0 l0 c0,.agg cs1] M rfl (fun i v x hi hx=>by
  match i with
  |0=>simp at hi hx;subst hi;subst hx;exact V0
  |1=>simp at hi hx;subst hi;subst hx;exact V1
  |i+2=>simp at hi) (fun id o hm=>by cases hm) (fun id o _ _=>rfl)
 refine hcall.mono ?_
 rintro e W' ⟨v,S',β',rfl,E,M',hv⟩
 cases hv with
 |ak b=>
 have hB:Below W.heap.size W W':=⟨M'.os,M'.eL,M'.cc,M'.b6,fun k hk=>M'.a6 k hk (fun h=>h)⟩
 refine ⟨_,rfl,[d0,d1],[],p0++p1,[],p0++p1,[],hW',?_,?_,?_,hB.frame _,fun h=>by cases h⟩
 ·exact trodAll_cons_mk (shut_bool Tryz.underlying4 _) trodAll_mk0
 ·rw [Tryz.params6]
  have t0:=Below.trod laidOut (by kernel_rfl) (of_decide_eq_true (by kernel_rfl)) k0 hB (fun x hx=>hlt x (by simp [hx]))
  have t1:=Below.trod laidOut (by kernel_rfl) (of_decide_eq_true (by kernel_rfl)) k1 hB (fun x hx=>hlt x (by simp [hx]))
  have:=trodAll_cons_mk t0 (trodAll_cons_mk t1 trodAll_mk0)
  have h3:DataW.TrodAll enc Tryz.prog W' 0 (fun b=>decide (b<W.heap.size)) true [52,24] [Value.slice a0 l0 c0,Value.agg cs1] [d0,d1] (p0++p1):=by simpa using this
  exact h3
 ·rfl
def tab0:Obj→Obj
 | .cells _ t frozen=> .cells #[.int .u64 1,.int .u64 10,.int .u64 100,.int .u64 1000,.int .u64 10000,.int .u64 100000,.int .u64 1000000,.int .u64 10000000,.int .u64 100000000,.int .u64 1000000000,.int .u64 10000000000,.int .u64 100000000000,.int .u64 1000000000000,.int .u64 10000000000000,.int .u64 100000000000000,.int .u64 1000000000000000,.int .u64 10000000000000000,.int .u64 100000000000000000,.int .u64 1000000000000000000,.int .u64 10000000000000000000] t frozen
 |o=>o
def tab1:Obj→Obj
 | .cells _ t frozen=> .cells #[.int .u8 0,.int .u8 1,.int .u8 28,.int .u8 2,.int .u8 29,.int .u8 14,.int .u8 24,.int .u8 3,.int .u8 30,.int .u8 22,.int .u8 20,.int .u8 15,.int .u8 25,.int .u8 17,.int .u8 4,.int .u8 8,.int .u8 31,.int .u8 27,.int .u8 13,.int .u8 23,.int .u8 21,.int .u8 19,.int .u8 16,.int .u8 7,.int .u8 26,.int .u8 12,.int .u8 18,.int .u8 6,.int .u8 11,.int .u8 5,.int .u8 10,.int .u8 9] t frozen
 |o=>o
def tab2:Obj→Obj
 | .cells _ t frozen=> .cells #[.int .u8 0,.int .u8 1,.int .u8 56,.int .u8 2,.int .u8 57,.int .u8 49,.int .u8 28,.int .u8 3,.int .u8 61,.int .u8 58,.int .u8 42,.int .u8 50,.int .u8 38,.int .u8 29,.int .u8 17,.int .u8 4,.int .u8 62,.int .u8 47,.int .u8 59,.int .u8 36,.int .u8 45,.int .u8 43,.int .u8 51,.int .u8 22,.int .u8 53,.int .u8 39,.int .u8 33,.int .u8 30,.int .u8 24,.int .u8 18,.int .u8 12,.int .u8 5,.int .u8 63,.int .u8 55,.int .u8 48,.int .u8 27,.int .u8 60,.int .u8 41,.int .u8 37,.int .u8 16,.int .u8 46,.int .u8 35,.int .u8 44,.int .u8 21,.int .u8 52,.int .u8 32,.int .u8 23,.int .u8 11,.int .u8 54,.int .u8 26,.int .u8 40,.int .u8 15,.int .u8 34,.int .u8 20,.int .u8 31,.int .u8 10,.int .u8 25,.int .u8 14,.int .u8 19,.int .u8 9,.int .u8 13,.int .u8 8,.int .u8 7,.int .u8 6] t frozen
 |o=>o
noncomputable def laidWorld (os:Os):World:={World.holding Tryz.prog os ⟨#[],#[],[]⟩ with heap:=(((World.holding Tryz.prog os ⟨#[],#[],[]⟩).heap.modify 0 tab0).modify 1 tab1).modify 2 tab2}
def args0:Array Value:= #[.slice none 0 0,.agg #[.string ⟨#[]⟩,.slice none 0 0]]
theorem laid_met (os:Os):laidMet Tryz.prog Rows.magicRewritesRow.laid ((laidWorld os).forCall (fun _ _=>0) ⟨#[],args0,[]⟩).memory:=
 laidMet_of_run' 8 (by kernel_rfl) (by kernel_rfl)
set_option maxRecDepth 100000 in
theorem lifted (os:Os) (started:os.Started) (H:Type) (enc:TypeId×Value→H) (F:Stop.Interp):
  ReturnsInHanded {} Tryz.checked os 6 .any ((OpenSpec.ofChange Rows.magicRewritesSpec).preRow enc Tryz.prog Tryz.f6 Rows.magicRewritesRow.domain false Rows.magicRewritesRow.laid) (((OpenSpec.ofChange Rows.magicRewritesSpec).at F).post enc Tryz.prog Tryz.f6 false true false false):=by
 have hx:DataW.whole enc Tryz.prog ((laidWorld os).forCall (fun _ _=>0) ⟨#[],args0,[]⟩).memory Tryz.f6.params.toList Rows.magicRewritesSpec.vars false args0.toList 8=some ([.nil,.agg [.lit (.string []),.nil]],[],[]):=by kernel_rfl
 refine returnsInHanded_of_row (C:=Tryz.checked) (s:=OpenSpec.ofChange Rows.magicRewritesSpec) own started (by kernel_rfl) Tryz.func6
  (witness_row_at (enc:=enc) (C:=Tryz.checked) false (laidWorld os) args0 rfl (by kernel_rfl) (by kernel_rfl) (by kernel_rfl)
   (OpenSpec.preRow_of_cond 8 hx (by kernel_rfl) (fun k hk=>by cases hk) (by kernel_rfl) (laid_met os))) ?_
 intro W base args ds gs before hval hW _ _ hsz hL _ _
 exact contract H enc W base args ds gs before hval hW hsz hL
theorem j0:(Rows.magicRewritesRow.wf (OpenSpec.ofChange (OpenSpec.ofChange Rows.magicRewritesSpec).bare))=true:=by kernel_rfl
theorem j1:(laidOutB Tryz.prog)=true:=by kernel_rfl
theorem j2:(mapsRowed Tryz.prog)=true:=by kernel_rfl
theorem j3:(Tryz.f6.params.all (Tryz.prog.readableRec ·))=true:=by kernel_rfl
theorem j4:(namedTie Tryz.prog Rows.magicRewritesRow.named (OpenSpec.ofChange Rows.magicRewritesSpec).bare.vars)=true:=by kernel_rfl
theorem j5:((Rows.magicRewritesRow.stops==[]))=true:=by kernel_rfl
theorem j6:((Tryz.prog.stops==[]))=true:=by kernel_rfl
theorem j7:((Rows.magicRewritesRow.knobs==[]))=true:=by kernel_rfl
theorem j8:((Tryz.prog.stopKnobs==[]))=true:=by kernel_rfl
theorem j9:((Rows.magicRewritesRow.inPlace==Tryz.prog.inPlace 6))=true:=by kernel_rfl
theorem j10:((Rows.magicRewritesRow.unfollowed==Tryz.prog.unfollowed 6))=true:=by kernel_rfl
theorem j11:((Rows.magicRewritesRow.recurses==Tryz.prog.recurses 6))=true:=by kernel_rfl
theorem j12:((Rows.magicRewritesRow.named==Tryz.prog.varsNamed 6))=true:=by kernel_rfl
theorem j13:((Rows.magicRewritesRow.maps==(Tryz.f6.params.toList++(OpenSpec.ofChange Rows.magicRewritesSpec).bare.plain.varTypes Tryz.prog).any (Tryz.prog.mapsRec ·)))=true:=by kernel_rfl
theorem j14:((Rows.magicRewritesRow.ifaces==(Tryz.f6.params.toList++(OpenSpec.ofChange Rows.magicRewritesSpec).bare.plain.varTypes Tryz.prog).any (Tryz.prog.ifacesRec ·)))=true:=by kernel_rfl
theorem j15:((Rows.magicRewritesRow.mapsOut==Tryz.prog.mapsAmong Tryz.f6.resultTypes.toList))=true:=by kernel_rfl
theorem j16:((Rows.magicRewritesRow.loops==(Tryz.f6.params.toList++(OpenSpec.ofChange Rows.magicRewritesSpec).bare.plain.varTypes Tryz.prog).any (Tryz.prog.loopsFrom ·)))=true:=by kernel_rfl
theorem j17:((Rows.magicRewritesRow.wideKeys==(Tryz.f6.params.toList++(OpenSpec.ofChange Rows.magicRewritesSpec).bare.plain.varTypes Tryz.prog++Tryz.f6.resultTypes.toList).any (Tryz.prog.wideKeysFrom ·)))=true:=by kernel_rfl
theorem j18:((OpenSpec.ofChange Rows.magicRewritesSpec).bare.vars.all (Tryz.prog.varReadable ·))=true:=by kernel_rfl
theorem j19:(Tryz.f6.resultTypes.all (fun t=>Tryz.prog.readableRec t&&decide (t<Tryz.prog.types.size)))=true:=by kernel_rfl
theorem j20:((Rows.magicRewritesRow.ifacesOut==Tryz.f6.resultTypes.toList.any (Tryz.prog.ifacesRec ·)))=true:=by kernel_rfl
theorem j21:((Rows.magicRewritesRow.loopsOut==Tryz.f6.resultTypes.toList.any (Tryz.prog.loopsFrom ·)))=true:=by kernel_rfl
theorem j22:((Rows.magicRewritesRow.plainKeys==Tryz.prog.plainKeys))=true:=by kernel_rfl
theorem j23:(Rows.magicRewritesRow.shortTexts.isNone)=true:=by kernel_rfl
theorem j24:(Tryz.prog.stopsHeard)=true:=by kernel_rfl
theorem j25:(Tryz.prog.mayEnter)=true:=by kernel_rfl
theorem j26:((Rows.magicRewritesRow.lifted==Tryz.prog.liftsFinal))=true:=by kernel_rfl
theorem j27:((Tryz.prog.make==some Rows.magicRewritesRow.make))=true:=by kernel_rfl
theorem j28:((Rows.magicRewritesRow.kinds==(if Rows.magicRewritesRow.domain.isEmpty then [] else Tryz.f6.params.toList.map fun t=>match Tryz.prog.underlying t with|some (.int k)=>some k|_=>none)))=true:=by kernel_rfl
theorem j29:((Rows.magicRewritesRow.pinned==Rows.magicRewritesRow.pinnedBy))=true:=by kernel_rfl
theorem j30:((Rows.magicRewritesRow.veiled==(Tryz.f6.params.toList++(OpenSpec.ofChange Rows.magicRewritesSpec).bare.plain.varTypes Tryz.prog++Tryz.f6.resultTypes.toList).any (Tryz.prog.veiledRec ·)))=true:=by kernel_rfl
theorem j31:(Rows.magicRewritesRow.veiledFits Tryz.prog Tryz.f6.params.toList (Tryz.f6.params.toList++(OpenSpec.ofChange Rows.magicRewritesSpec).bare.plain.varTypes Tryz.prog++Tryz.f6.resultTypes.toList))=true:=by kernel_rfl
theorem closed:joinedFacts Tryz.prog 6 Tryz.f6 (OpenSpec.ofChange Rows.magicRewritesSpec).bare Rows.magicRewritesRow=true:=by
 unfold joinedFacts
 simp only [Bool.and_eq_true]
 exact ⟨⟨⟨⟨⟨⟨⟨⟨⟨⟨⟨⟨⟨⟨⟨⟨⟨⟨⟨⟨⟨⟨⟨⟨⟨⟨⟨⟨⟨⟨⟨j0,j1⟩,j2⟩,j3⟩,j4⟩,j5⟩,j6⟩,j7⟩,j8⟩,j9⟩,j10⟩,j11⟩,j12⟩,j13⟩,j14⟩,j15⟩,j16⟩,j17⟩,j18⟩,j19⟩,j20⟩,j21⟩,j22⟩,j23⟩,j24⟩,j25⟩,j26⟩,j27⟩,j28⟩,j29⟩,j30⟩,j31⟩
theorem named6:Tryz.prog.funcNamed "pedigree/pedigreelaw19.MagicRewrites" =some 6:=by kernel_rfl
theorem said:Rows.MagicRewritesSaid:=
 OpenClaim.holds_of_cond 6 Tryz.f6 rfl rfl rfl rfl rfl rfl rfl ⟨rfl,rfl,rfl,rfl,rfl⟩ rfl rfl rfl rfl rfl named6 Tryz.func6 closed
  (of_decide_eq_true (by kernel_rfl)) (by unfold Func.isWrapper;first|(rw [if_pos (by decide+kernel)];kernel_rfl)|(rw [if_neg (by decide+kernel)];exact ⟨rfl,rfl⟩))
  (fun os started H enc _ F=>by rw [OpenClaim.pre_eq_preRow];exact lifted os started H enc F)
theorem plain (f:FuncId) (fn:Func) (hf:Tryz.pinned.checked.prog.funcNamed "pedigree/pedigreelaw19.MagicRewrites" =some f) (hfn:Tryz.pinned.checked.prog.funcs[f]? =some fn):
  true=Tryz.pinned.checked.prog.looks []∧∀(j:Nat) t,fn.params[j]? =some t→Tryz.pinned.checked.prog.wantsStandIn t=false:=by
 obtain rfl:f=6:=Option.some.inj ((show Tryz.prog.funcNamed "pedigree/pedigreelaw19.MagicRewrites" =some 6 by kernel_rfl).symm.trans hf)|>.symm
 obtain rfl:fn=Tryz.f6:=(Option.some.inj (Tryz.func6.symm.trans hfn)).symm
 refine ⟨by kernel_rfl,fun j t ht=> ?_⟩
 rw [Tryz.params6] at ht
 match j with
 |0=>obtain rfl:52=t:=by simpa using ht
     exact (show Tryz.prog.wantsStandIn 52=false by kernel_rfl)
 |1=>obtain rfl:24=t:=by simpa using ht
     exact (show Tryz.prog.wantsStandIn 24=false by kernel_rfl)
 |j+2=>simp at ht
theorem card:Rows.MagicRewritesCardSaid:=
 Claim7.holds_tied_plain_at .later [] _ _ _ _ said (fun _ h=>by cases h) (by kernel_rfl) (fun _ h=>by cases h) magicRewrites_row_tie rfl ⟨rfl,rfl⟩ (by kernel_rfl) rfl plain (by kernel_rfl)
end
end Go.Proofs.YthhfolohakiemaaGreatDoor.magicRewrites
