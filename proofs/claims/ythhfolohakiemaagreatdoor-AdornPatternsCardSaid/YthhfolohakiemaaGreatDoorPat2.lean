/-
  What the callees of AdornPatterns come to, for any input: the reference's pattern; copies, and what is left of them; the count of parts; names.
-/
import Derived.Test.YthhfolohakiemaaGreatDoorPat
set_option linter.unusedVariables false
set_option linter.unnecessarySimpa false
set_option linter.unusedSimpArgs false
namespace Go.Ped
open Go.RowKit Go.Proofs

theorem Spec.gen2 {P : Program} {f : FuncId} {fn : Func} {c : Code} {args : List AV} {pre : List (Nat × Ob)} {env' : List (Nat × AV)} {hp' : List (Nat × Ob)} {e : Out} {r : AV} (hf : P.funcs[f]? = some fn) (hb : fn.body = some c)
    (hpre : preOK pre = true) (huq : uniqK hp' = true) (hargs : renL (idT pre) args = args) (hobs : ∀ id o, (id, o) ∈ pre → renOb (idT pre) o = o)
    (hrun : Runs P (args.length + (fn.ntmps - args.length)) c ⟨argEnv 0 args, pre⟩ e ⟨env', hp'⟩) (he : e = .normal ∨ e = .ret) (hr : resA P ⟨env', hp'⟩ fn.results.toList = some r) : Spec P f args pre r hp' :=
  Spec.gen (st' := ⟨env', hp'⟩) hf hb hpre huq hargs hobs hrun.k he hr

theorem app_data (a b : Array UInt8) : (⟨a⟩ : ByteArray) ++ ⟨b⟩ = ⟨a ++ b⟩ := by
  apply ByteArray.ext
  simp

theorem ref_spec (p : ByteArray) (ts : List Tm) (c : Bool) (ks : List ByteArray) (d : Bool) (hts : ts.length < 1000000000000) (hks : ks.length < 1000000000000000) :
    Spec Tryz.prog 11 [.agg [.str p, .seq (ts.map Tm.av) c], .seq (ks.map .str) d] [] (.str (patT ts ks)) [] := by
  refine Spec.pure (fn := Tryz.f11) (c := bodyOf Tryz.f11) (by kernel_rfl) (by kernel_rfl) ?_ (ref_body p ts c ks d (patT ts ks) ⟨?_, trivial⟩) (.inr rfl) (by kernel_rfl) (by kernel_rfl)
  · simp only [noIdsL, Ped.noIds, Bool.and_self]
  · let ac : Nat → ByteArray := fun i => patT (ts.take i) ks
    let st : Nat → St := fun i => ⟨[(1, .seq (ks.map .str) d), (2, .elt 2 0 0), (4, .str ⟨#[]⟩), (5, .str (ac i)), (6, .int .i64 i)], [(2, .var [.str p, .seq (ts.map Tm.av) c])]⟩
    have step : ∀ i, i < ts.length → Runs Tryz.prog 37 (loopOf Tryz.f11 0) (st i) .normal (st (i + 1)) := by
      intro i hi
      have hx : ts[i]? = some ts[i] := List.getElem?_eq_getElem hi
      generalize ts[i] = t at hx
      have c1 : decide ((↑i : Int) < (↑(List.length (List.map Tm.av ts)) : Int)) = true := by simp; omega
      have c2 := get_av hx
      have c5 : IntKind.wrap IntKind.i64 ((↑i : Int) + 1) = (↑i : Int) + 1 := wrap64_id (by omega) (by omega)
      have hsz : (ac i).size = i := by
        show ((ts.take i).map (pb ks)).toArray.size = i
        simp; omega
      have c6 : ByteArray.size (ac i) + 1 ≤ 9223372036854775807 := by rw [hsz]; omega
      have e3 : ∀ b, pb ks t = b → ac i ++ ⟨#[b]⟩ = ac (i + 1) := by
        intro b hb
        simp only [ac, patT, app_data]
        have : ts.take (i + 1) = ts.take i ++ [t] := by rw [List.take_add_one, hx]; rfl
        rw [this, List.map_append, ← hb]
        simp
      have hc := has_spec ks d t.v hks
      have fin : ∀ b, pb ks t = b → (St.mk [(1, AV.seq (List.map AV.str ks) d), (2, AV.elt 2 0 0), (4, AV.str (ByteArray.mk #[])), (5, AV.str (ac i ++ ByteArray.mk #[b])), (6, AV.int IntKind.i64 ((↑i : Int) + 1))] [(2, Ob.var [AV.str p, AV.seq (List.map Tm.av ts) c])]) = st (i + 1) := by
        intro b hb
        rw [e3 b hb]
        rfl
      by_cases h1 : t.v = ⟨#[]⟩
      · have hb : pb ks t = 98 := by unfold pb; rw [if_pos h1]
        have := ref_b1 p ts c ks d (ac i) i t ⟨c1, ⟨by omega, c2⟩, by simpa using h1, c6, c5, rfl, trivial⟩
        rw [fin 98 hb] at this
        exact this
      · by_cases h2 : t.v = ⟨#[95]⟩
        · have hb : pb ks t = 102 := by unfold pb; rw [if_neg h1, if_pos h2]
          have := ref_b2 p ts c ks d (ac i) i t ⟨c1, ⟨by omega, c2⟩, by simpa using h1, by simp [h2], c6, c5, rfl, trivial⟩
          rw [fin 102 hb] at this
          exact this
        · cases h3 : hasT ks t.v with
          | true =>
            rw [h3] at hc
            have hb : pb ks t = 98 := by unfold pb; rw [if_neg h1, if_neg h2, h3]; rfl
            have := ref_b3 p ts c ks d (ac i) i t ⟨c1, ⟨by omega, c2⟩, by simpa using h1, by simp [h2], hc, c6, c5, rfl, trivial⟩
            rw [fin 98 hb] at this
            exact this
          | false =>
            rw [h3] at hc
            have hb : pb ks t = 102 := by unfold pb; rw [if_neg h1, if_neg h2, h3]; rfl
            have := ref_b4 p ts c ks d (ac i) i t ⟨c1, ⟨by omega, c2⟩, by simpa using h1, by simp [h2], hc, c6, c5, rfl, trivial⟩
            rw [fin 102 hb] at this
            exact this
    have main : Loops Tryz.prog 37 (loopOf Tryz.f11 0) (st 0) (.exit 0) (St.mk [(5, AV.str (ac ts.length))] []) :=
      Loops.from (N := ts.length) step (.leave (ref_end p ts c ks d (ac ts.length) ts.length ⟨by simp, trivial⟩) (by simp))
    have he : ac ts.length = patT ts ks := by simp only [ac, List.take_length]
    rw [he] at main
    exact Loops.keep [1, 2, 4, 5, 6] [(2, .keep 2 true)] main (cs := [true = true]) (by kernel_rfl) ⟨rfl, trivial⟩

/-! ### Copies -/

def zTm : Tm := ⟨⟨#[]⟩, 0, 0, ⟨#[]⟩⟩

theorem av_set (es : List Tm) (i : Nat) (t : Tm) : (es.map Tm.av).set i t.av = (es.set i t).map Tm.av := by rw [List.map_set]
theorem str_set (es : List ByteArray) (i : Nat) (t : ByteArray) : (es.map AV.str).set i (.str t) = (es.set i t).map AV.str := by rw [List.map_set]

theorem set_last {α : Type} (l : List α) (z x : α) : (l ++ [z]).set l.length x = l ++ [x] := by
  rw [List.set_append_right _ _ (Nat.le_refl _), Nat.sub_self]; rfl

theorem tt_spec (ts : List Tm) (c : Bool) (hts : ts.length < 1000000000000) : Spec Tryz.prog 35 [.seq (ts.map Tm.av) c] [] (.row 300008 0 ts.length) [(300008, .row 4 ((ts ++ [mkTm]).map Tm.av))] := by
  have hloop : Loops Tryz.prog 31 (loopOf Tryz.f35 0) ⟨[(0, .seq (ts.map Tm.av) c), (3, .row 300008 0 (Int.toNat ((List.length (List.map Tm.av ts) : Int) + 1))), (4, .int .i64 0)], [(300008, .row 4 ((List.replicate (ts.length + 1) zTm).map Tm.av))]⟩ (.exit 0) ⟨[(0, .seq (ts.map Tm.av) c), (3, .row 300008 0 (Int.toNat ((List.length (List.map Tm.av ts) : Int) + 1)))], [(300008, .row 4 ((ts ++ [zTm]).map Tm.av))]⟩ := by
    let es : Nat → List Tm := fun i => ts.take i ++ List.replicate (ts.length - i + 1) zTm
    let st : Nat → St := fun i => ⟨[(0, .seq (ts.map Tm.av) c), (3, .row 300008 0 (Int.toNat ((List.length (List.map Tm.av ts) : Int) + 1))), (4, .int .i64 i)], [(300008, .row 4 ((es i).map Tm.av))]⟩
    have step : ∀ i, i < ts.length → Runs Tryz.prog 31 (loopOf Tryz.f35 0) (st i) .normal (st (i + 1)) := by
      intro i hi
      have hx : ts[i]? = some ts[i] := List.getElem?_eq_getElem hi
      generalize ts[i] = t at hx
      have e3 : (es i).set i t = es (i + 1) := by
        simp only [es]
        have h1 : ts.length - i + 1 = (ts.length - (i + 1) + 1) + 1 := by omega
        rw [h1]
        have := fill_step (fun x : Tm => x) zTm (m := ts.length - (i + 1) + 1) hx
        simpa using this
      have e4 : List.set (List.map Tm.av (es i)) (0 + Int.toNat (↑i : Int)) (AV.agg [AV.str t.1, AV.int IntKind.i8 t.2, AV.int IntKind.i64 t.3, AV.str t.4]) = (es (i + 1)).map Tm.av := by
        rw [av_mk, av_set, ← e3]; simp
      have := tt_turn ts c (es i) i t ⟨by simp; omega, ⟨by omega, get_av hx⟩, by constructor <;> simp <;> omega, by simp [es]; omega, wrap64_id (by omega) (by omega), by rw [e4]; exact noIds_av _, trivial⟩
      rw [e4] at this
      exact this
    have main := Loops.from (N := ts.length) step (.leave (tt_end ts c (es ts.length) ts.length ⟨by simp, noIds_av _, trivial⟩) (by simp))
    have he : es ts.length = ts ++ [zTm] := by simp [es]
    have h0 : es 0 = List.replicate (ts.length + 1) zTm := by simp [es]
    rw [he] at main
    have e0 : st 0 = ⟨[(0, .seq (ts.map Tm.av) c), (3, .row 300008 0 (Int.toNat ((List.length (List.map Tm.av ts) : Int) + 1))), (4, .int .i64 0)], [(300008, .row 4 ((List.replicate (ts.length + 1) zTm).map Tm.av))]⟩ := by
      simp only [st, h0]; rfl
    rw [e0] at main
    exact main
  have hset : List.set (List.map Tm.av (ts ++ [zTm])) (0 + Int.toNat (↑(List.length (List.map Tm.av ts)) : Int)) (AV.agg [AV.str (Tm.v mkTm), AV.int IntKind.i8 0, AV.int IntKind.i64 0, AV.str (Tm.s mkTm)]) = (ts ++ [mkTm]).map Tm.av := by
    rw [show (AV.agg [AV.str (Tm.v mkTm), AV.int IntKind.i8 0, AV.int IntKind.i64 0, AV.str (Tm.s mkTm)]) = mkTm.av from rfl, av_set]
    have : 0 + Int.toNat (↑(List.length (List.map Tm.av ts)) : Int) = ts.length := by simp
    rw [this, set_last]
  have hrun := tt_body ts c (ts ++ [zTm]) ⟨?_, ?_, ?_, mark_spec, ?_, ?_, ?_, ?_, trivial⟩
  · rw [hset] at hrun
    have hn : Int.toNat (↑(List.length (List.map Tm.av ts)) : Int) = ts.length := by simp
    rw [hn] at hrun
    exact Spec.gen2 (fn := Tryz.f35) (c := bodyOf Tryz.f35) (by kernel_rfl) (by kernel_rfl) rfl rfl rfl (fun _ _ h => by cases h) hrun (.inr rfl) (by kernel_rfl)
  · exact wrap64_id (by omega) (by simp; omega)
  · refine ⟨rfl, by omega, ?_, ?_⟩ <;> simp <;> omega
  · have hr : (List.replicate (Int.toNat ((↑(List.length (List.map Tm.av ts)) : Int) + 1)) (AV.agg [AV.str (ByteArray.mk #[]), AV.int IntKind.i8 0, AV.int IntKind.i64 0, AV.str (ByteArray.mk #[])])) = (List.replicate (ts.length + 1) zTm).map Tm.av := by
      rw [List.map_replicate]
      congr 1
      simp
    rw [hr]
    exact Loops.keep [0, 3, 4] [(300008, .keep 300008 true)] hloop (cs := [noIdsL ((List.replicate (ts.length + 1) zTm).map Tm.av) = true]) (by kernel_rfl) ⟨noIds_av _, trivial⟩
  · constructor <;> simp <;> omega
  · simp
  · constructor
    · omega
    · simp
  · rw [hset]; exact noIds_av _

theorem ta_spec (p : ByteArray) (ts : List Tm) (c : Bool) (hts : ts.length < 1000000000000) :
    Spec Tryz.prog 8 [.agg [.str p, .seq (ts.map Tm.av) c]] [] (.agg [.str p, .row 300008 0 ts.length]) [(2, .var [.str p, .row 300008 0 ts.length]), (300008, .row 4 ((ts ++ [mkTm]).map Tm.av))] :=
  Spec.gen2 (fn := Tryz.f8) (c := bodyOf Tryz.f8) (by kernel_rfl) (by kernel_rfl) rfl rfl rfl (fun _ _ h => by cases h) (ta_body p ts c (ts ++ [mkTm]) ⟨tt_spec ts c hts, noIds_av _, trivial⟩) (.inr rfl) (by kernel_rfl)

theorem tx_spec (ks : List ByteArray) (c : Bool) (hts : ks.length ≤ 8796093022207) : Spec Tryz.prog 9 [.seq (ks.map .str) c] [] (.row 400008 0 ks.length) [(400008, .row 1 ((ks ++ [mkT]).map .str))] := by
  have hloop : Loops Tryz.prog 31 (loopOf Tryz.f9 0) ⟨[(0, .seq (ks.map .str) c), (3, .row 400008 0 (Int.toNat ((List.length (List.map AV.str ks) : Int) + 1))), (4, .int .i64 0)], [(400008, .row 1 ((List.replicate (ks.length + 1) (⟨#[]⟩ : ByteArray)).map .str))]⟩ (.exit 0) ⟨[(0, .seq (ks.map .str) c), (3, .row 400008 0 (Int.toNat ((List.length (List.map AV.str ks) : Int) + 1)))], [(400008, .row 1 ((ks ++ [(⟨#[]⟩ : ByteArray)]).map .str))]⟩ := by
    let es : Nat → List ByteArray := fun i => ks.take i ++ List.replicate (ks.length - i + 1) ⟨#[]⟩
    let st : Nat → St := fun i => ⟨[(0, .seq (ks.map .str) c), (3, .row 400008 0 (Int.toNat ((List.length (List.map AV.str ks) : Int) + 1))), (4, .int .i64 i)], [(400008, .row 1 ((es i).map .str))]⟩
    have step : ∀ i, i < ks.length → Runs Tryz.prog 31 (loopOf Tryz.f9 0) (st i) .normal (st (i + 1)) := by
      intro i hi
      have hx : ks[i]? = some ks[i] := List.getElem?_eq_getElem hi
      generalize ks[i] = t at hx
      have e3 : (es i).set i t = es (i + 1) := by
        simp only [es]
        have h1 : ks.length - i + 1 = (ks.length - (i + 1) + 1) + 1 := by omega
        rw [h1]
        have := fill_step (fun x : ByteArray => x) ⟨#[]⟩ (m := ks.length - (i + 1) + 1) hx
        simpa using this
      have e4 : List.set (List.map AV.str (es i)) (0 + Int.toNat (↑i : Int)) (AV.str t) = (es (i + 1)).map AV.str := by
        rw [str_set, ← e3]; simp
      have hg : (List.map AV.str ks)[Int.toNat (↑i : Int)]? = some (AV.str t) := by simpa using get_map AV.str hx
      have := tx_turn ks c (es i) i t ⟨by simp; omega, ⟨by omega, hg⟩, by constructor <;> simp <;> omega, by simp [es]; omega, wrap64_id (by omega) (by omega), by rw [e4]; exact noIds_str _, trivial⟩
      rw [e4] at this
      exact this
    have main := Loops.from (N := ks.length) step (.leave (tx_end ks c (es ks.length) ks.length ⟨by simp, noIds_str _, trivial⟩) (by simp))
    have he : es ks.length = ks ++ [⟨#[]⟩] := by simp [es]
    have h0 : es 0 = List.replicate (ks.length + 1) ⟨#[]⟩ := by simp [es]
    rw [he] at main
    have e0 : st 0 = ⟨[(0, .seq (ks.map .str) c), (3, .row 400008 0 (Int.toNat ((List.length (List.map AV.str ks) : Int) + 1))), (4, .int .i64 0)], [(400008, .row 1 ((List.replicate (ks.length + 1) (⟨#[]⟩ : ByteArray)).map .str))]⟩ := by
      simp only [st, h0]; rfl
    rw [e0] at main
    exact main
  have hset : List.set (List.map AV.str (ks ++ [⟨#[]⟩])) (0 + Int.toNat (↑(List.length (List.map AV.str ks)) : Int)) (AV.str mkT) = (ks ++ [mkT]).map .str := by
    rw [str_set]
    have : 0 + Int.toNat (↑(List.length (List.map AV.str ks)) : Int) = ks.length := by simp
    rw [this, set_last]
  have hrun := tx_body ks c (ks ++ [⟨#[]⟩]) ⟨?_, ?_, ?_, markT_spec, ?_, ?_, ?_, ?_, trivial⟩
  · rw [hset] at hrun
    have hn : Int.toNat (↑(List.length (List.map AV.str ks)) : Int) = ks.length := by simp
    rw [hn] at hrun
    exact Spec.gen2 (fn := Tryz.f9) (c := bodyOf Tryz.f9) (by kernel_rfl) (by kernel_rfl) rfl rfl rfl (fun _ _ h => by cases h) hrun (.inr rfl) (by kernel_rfl)
  · exact wrap64_id (by omega) (by simp; omega)
  · refine ⟨rfl, by omega, ?_, ?_⟩ <;> simp <;> omega
  · have hr : (List.replicate (Int.toNat ((↑(List.length (List.map AV.str ks)) : Int) + 1)) (AV.str (ByteArray.mk #[]))) = (List.replicate (ks.length + 1) (⟨#[]⟩ : ByteArray)).map .str := by
      rw [List.map_replicate]
      congr 1
      simp
    rw [hr]
    exact Loops.keep [0, 3, 4] [(400008, .keep 400008 true)] hloop (cs := [noIdsL ((List.replicate (ks.length + 1) (⟨#[]⟩ : ByteArray)).map AV.str) = true]) (by kernel_rfl) ⟨noIds_str _, trivial⟩
  · constructor <;> simp <;> omega
  · simp
  · constructor
    · omega
    · simp
  · rw [hset]; exact noIds_str _

end Go.Ped
