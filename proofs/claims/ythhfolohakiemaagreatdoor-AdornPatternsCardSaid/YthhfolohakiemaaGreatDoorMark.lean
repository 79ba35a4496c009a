/-
  The mark that copies bear behind them: what it is; that it is known again.
-/
import Derived.Test.YthhfolohakiemaaGreatDoorItoa
import Derived.Test.YthhfolohakiemaaGreatDoorForget
set_option linter.unusedVariables false
namespace Go.Ped
open Go.RowKit Go.Proofs

def itoa7_kn : Kn := ⟨86, [.int .i64 777777], [], .str ⟨#[55, 55, 55, 55, 55, 55]⟩, [], 0⟩
theorem itoa7_ok : itoa7_kn.ok Tryz.prog := by
  have h := itoa_spec 777777 (by omega) (by omega)
  have e : (Lib.itoa 777777).toArray = #[55, 55, 55, 55, 55, 55] := by kernel_rfl
  rw [e] at h
  exact h

/-- The mark as a text, as a term. -/
def mkT : ByteArray := ⟨#[35, 55, 55, 55, 55, 55, 55]⟩
def mkTm : Tm := ⟨mkT, 0, 0, ⟨#[]⟩⟩

theorem itK_ok : (orH noH (knownK [itoa7_kn])).ok Tryz.prog := orH_ok noH_ok (knownK_ok (Kns.cons itoa7_ok Kns.nil))

theorem mark_spec : Spec Tryz.prog 71 [.int .i64 777777] [] mkTm.av [] :=
  Spec.forget (known_run (k := ⟨71, [.int .i64 777777], [], mkTm.av, [(100002, .var [.str mkT, .int .i8 0, .int .i64 0, .str ⟨#[]⟩])], 0⟩) Tryz_mix itK_ok (f := 300) (nb := 100000) (by kernel_rfl)) rfl rfl
theorem markT_spec : Spec Tryz.prog 36 [.int .i64 777777] [] (.str mkT) [] :=
  known_run (k := ⟨36, [.int .i64 777777], [], .str mkT, [], 0⟩) Tryz_mix itK_ok (f := 300) (nb := 100000) (by kernel_rfl)
theorem isTerm_spec : Spec Tryz.prog 74 [mkTm.av, .int .i64 777777] [] (.bool true) [] :=
  known_run (k := ⟨74, [mkTm.av, .int .i64 777777], [], .bool true, [], 0⟩) Tryz_mix itK_ok (f := 300) (nb := 100000) (by kernel_rfl)
theorem isText_spec : Spec Tryz.prog 41 [.str mkT, .int .i64 777777] [] (.bool true) [] :=
  known_run (k := ⟨41, [.str mkT, .int .i64 777777], [], .bool true, [], 0⟩) Tryz_mix itK_ok (f := 300) (nb := 100000) (by kernel_rfl)

end Go.Ped
