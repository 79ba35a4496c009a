/-
  What the library says of slices.Sorted over maps.Keys, at this program (the layings: written by the kit's tool lay-plain.mjs).
-/
import Derived.Test.YthhfolohakiemaaGreatDoorKnown
import Derived.Shelf.SlIter.Nil
import Derived.Shelf.SortM.Plain
import Derived.Shelf.SortM.SortNone
import Derived.Test.YthhfolohakiemaaGreatDoorProg
set_option linter.unusedVariables false
namespace Go.Proofs
open Go.RowKit Go.Maps Go.Sort Go.Shelf
def Tryz.keys131_ren : Go.Shelf.Ren := ⟨fun | 7 => 131 | 10 => 182 | n => n, fun | 23 => 182 | 26 => 9 | 3 => 3 | 28 => 188 | 0 => 0 | 27 => 187 | 33 => 114 | 4 => 4 | n => n, fun | n => n⟩
theorem Tryz.keys131 : Go.Proofs.SlLaysZ.n7 Tryz.prog Tryz.keys131_ren := {
  mixed := by kernel_rfl
  f7 := ⟨Tryz.f131.name, by decide, Tryz.func131.trans (congrArg some (by kernel_rfl))⟩
  f10 := ⟨Tryz.f182.name, by decide, Tryz.func182.trans (congrArg some (by kernel_rfl))⟩
  t0 := Tryz.underlying0
  a0 := Tryz.isAgg0
  z0 := Tryz.sizeOf0
  v0 := Tryz.zeroValue0
  t4 := Tryz.underlying4
  a4 := Tryz.isAgg4
  z4 := Tryz.sizeOf4
  v4 := Tryz.zeroValue4
  t23 := Tryz.underlying182
  a23 := Tryz.isAgg182
  z23 := Tryz.sizeOf182
  v23 := Tryz.zeroValue182
  t26 := Tryz.underlying9
  a26 := Tryz.isAgg9
  z26 := Tryz.sizeOf9
  v26 := Tryz.zeroValue9
  t27 := Tryz.underlying187
  a27 := Tryz.isAgg187
  z27 := Tryz.sizeOf187
  v27 := Tryz.zeroValue187
  t28 := Tryz.underlying188
  a28 := Tryz.isAgg188
  z28 := Tryz.sizeOf188
  v28 := Tryz.zeroValue188
  t33 := Tryz.underlying114
  a33 := Tryz.isAgg114
  z33 := Tryz.sizeOf114
  v33 := Tryz.zeroValue114 }
def Tryz.sorted130_ren : Go.Shelf.Ren := ⟨fun | 6 => 130 | 8 => 180 | 9 => 181 | 11 => 215 | 13 => 217 | 12 => 216 | 23 => 258 | 24 => 259 | 14 => 249 | 15 => 250 | 16 => 251 | 17 => 252 | 18 => 253 | 19 => 254 | 20 => 255 | 21 => 256 | 22 => 257 | 25 => 276 | 26 => 277 | 27 => 278 | 28 => 279 | 29 => 280 | 30 => 281 | 31 => 287 | n => n, fun | 26 => 9 | 28 => 188 | 24 => 25 | 0 => 0 | 3 => 3 | 37 => 261 | 48 => 279 | 50 => 204 | 4 => 4 | 40 => 289 | 39 => 288 | 45 => 88 | 5 => 5 | 9 => 9 | 51 => 310 | 55 => 314 | 57 => 317 | 58 => 318 | 33 => 114 | n => n, fun | n => n⟩
theorem Tryz.sorted130 : Go.Proofs.SlLaysZ.n6 Tryz.prog Tryz.sorted130_ren := {
  mixed := by kernel_rfl
  f6 := ⟨Tryz.f130.name, by decide, Tryz.func130.trans (congrArg some (by kernel_rfl))⟩
  f8 := ⟨Tryz.f180.name, by decide, Tryz.func180.trans (congrArg some (by kernel_rfl))⟩
  f11 := ⟨Tryz.f215.name, by decide, Tryz.func215.trans (congrArg some (by kernel_rfl))⟩
  t0 := Tryz.underlying0
  a0 := Tryz.isAgg0
  z0 := Tryz.sizeOf0
  v0 := Tryz.zeroValue0
  t24 := Tryz.underlying25
  a24 := Tryz.isAgg25
  z24 := Tryz.sizeOf25
  v24 := Tryz.zeroValue25
  t26 := Tryz.underlying9
  a26 := Tryz.isAgg9
  z26 := Tryz.sizeOf9
  v26 := Tryz.zeroValue9
  t28 := Tryz.underlying188
  a28 := Tryz.isAgg188
  z28 := Tryz.sizeOf188
  v28 := Tryz.zeroValue188
  i26 := by kernel_rfl }
def Tryz.sort181_ren : Go.Shelf.Ren := ⟨fun | 6 => 181 | 8 => 217 | 9 => 216 | 19 => 258 | 20 => 259 | 21 => 249 | 22 => 250 | 23 => 251 | 24 => 252 | 25 => 253 | 26 => 254 | 27 => 255 | 28 => 256 | 29 => 257 | 36 => 276 | 31 => 277 | 32 => 278 | 37 => 279 | 38 => 280 | 39 => 281 | 41 => 287 | n => n, fun | 27 => 25 | 29 => 9 | 3 => 3 | 32 => 261 | 26 => 25 | 0 => 0 | 44 => 279 | 46 => 204 | 4 => 4 | 36 => 289 | 35 => 288 | 41 => 88 | 5 => 5 | 9 => 9 | 53 => 310 | 57 => 314 | 63 => 317 | 64 => 318 | n => n, fun | n => n⟩
theorem Tryz.sort181 : Go.Proofs.SlLaysM.n6 Tryz.prog Tryz.sort181_ren := {
  mixed := by kernel_rfl
  f6 := ⟨Tryz.f181.name, by decide, Tryz.func181.trans (congrArg some (by kernel_rfl))⟩
  f8 := Tryz.func217.trans (congrArg some (by kernel_rfl))
  f9 := ⟨Tryz.f216.name, by decide, Tryz.func216.trans (congrArg some (by kernel_rfl))⟩
  f19 := Tryz.func258.trans (congrArg some (by kernel_rfl))
  f20 := Tryz.func259.trans (congrArg some (by kernel_rfl))
  f21 := ⟨Tryz.f249.name, by decide, Tryz.func249.trans (congrArg some (by kernel_rfl))⟩
  f22 := ⟨Tryz.f250.name, by decide, Tryz.func250.trans (congrArg some (by kernel_rfl))⟩
  f23 := ⟨Tryz.f251.name, by decide, Tryz.func251.trans (congrArg some (by kernel_rfl))⟩
  f24 := ⟨Tryz.f252.name, by decide, Tryz.func252.trans (congrArg some (by kernel_rfl))⟩
  f25 := ⟨Tryz.f253.name, by decide, Tryz.func253.trans (congrArg some (by kernel_rfl))⟩
  f26 := ⟨Tryz.f254.name, by decide, Tryz.func254.trans (congrArg some (by kernel_rfl))⟩
  f27 := ⟨Tryz.f255.name, by decide, Tryz.func255.trans (congrArg some (by kernel_rfl))⟩
  f28 := ⟨Tryz.f256.name, by decide, Tryz.func256.trans (congrArg some (by kernel_rfl))⟩
  f29 := ⟨Tryz.f257.name, by decide, Tryz.func257.trans (congrArg some (by kernel_rfl))⟩
  f31 := Tryz.func277.trans (congrArg some (by kernel_rfl))
  f32 := Tryz.func278.trans (congrArg some (by kernel_rfl))
  f36 := ⟨Tryz.f276.name, by decide, Tryz.func276.trans (congrArg some (by kernel_rfl))⟩
  f37 := ⟨Tryz.f279.name, by decide, Tryz.func279.trans (congrArg some (by kernel_rfl))⟩
  f38 := ⟨Tryz.f280.name, by decide, Tryz.func280.trans (congrArg some (by kernel_rfl))⟩
  f39 := ⟨Tryz.f281.name, by decide, Tryz.func281.trans (congrArg some (by kernel_rfl))⟩
  f41 := ⟨Tryz.f287.name, by decide, Tryz.func287.trans (congrArg some (by kernel_rfl))⟩
  t0 := Tryz.underlying0
  a0 := Tryz.isAgg0
  z0 := Tryz.sizeOf0
  v0 := Tryz.zeroValue0
  t3 := Tryz.underlying3
  a3 := Tryz.isAgg3
  z3 := Tryz.sizeOf3
  v3 := Tryz.zeroValue3
  t4 := Tryz.underlying4
  a4 := Tryz.isAgg4
  z4 := Tryz.sizeOf4
  v4 := Tryz.zeroValue4
  t5 := Tryz.underlying5
  a5 := Tryz.isAgg5
  z5 := Tryz.sizeOf5
  v5 := Tryz.zeroValue5
  t9 := Tryz.underlying9
  a9 := Tryz.isAgg9
  z9 := Tryz.sizeOf9
  v9 := Tryz.zeroValue9
  t26 := Tryz.underlying25
  a26 := Tryz.isAgg25
  z26 := Tryz.sizeOf25
  v26 := Tryz.zeroValue25
  t27 := Tryz.underlying25
  a27 := Tryz.isAgg25
  z27 := Tryz.sizeOf25
  v27 := Tryz.zeroValue25
  t29 := Tryz.underlying9
  a29 := Tryz.isAgg9
  z29 := Tryz.sizeOf9
  v29 := Tryz.zeroValue9
  t32 := Tryz.underlying261
  a32 := Tryz.isAgg261
  z32 := Tryz.sizeOf261
  v32 := Tryz.zeroValue261
  t35 := Tryz.underlying288
  a35 := Tryz.isAgg288
  z35 := Tryz.sizeOf288
  v35 := Tryz.zeroValue288
  t36 := Tryz.underlying289
  a36 := Tryz.isAgg289
  z36 := Tryz.sizeOf289
  v36 := Tryz.zeroValue289
  t41 := Tryz.underlying88
  a41 := Tryz.isAgg88
  z41 := Tryz.sizeOf88
  v41 := Tryz.zeroValue88
  t44 := Tryz.underlying279
  a44 := Tryz.isAgg279
  z44 := Tryz.sizeOf279
  v44 := Tryz.zeroValue279
  t46 := Tryz.underlying204
  a46 := Tryz.isAgg204
  z46 := Tryz.sizeOf204
  v46 := Tryz.zeroValue204
  t53 := Tryz.underlying310
  a53 := Tryz.isAgg310
  z53 := Tryz.sizeOf310
  v53 := Tryz.zeroValue310
  t57 := Tryz.underlying314
  a57 := Tryz.isAgg314
  z57 := Tryz.sizeOf314
  v57 := Tryz.zeroValue314
  t63 := Tryz.underlying317
  a63 := Tryz.isAgg317
  z63 := Tryz.sizeOf317
  v63 := Tryz.zeroValue317
  t64 := Tryz.underlying318
  a64 := Tryz.isAgg318
  z64 := Tryz.sizeOf318
  v64 := Tryz.zeroValue318 }

theorem Tryz.sorts130 (m : Nat) : AnyZ.SortsIn Tryz.prog Tryz.sorted130_ren Fence.wide m :=
  ⟨fun blk off cap ss W hH hblk hsz => callsIn_wide.2 (AnyM.slices_Sort_string Tryz.sort181 blk off cap ss W hH hblk hsz),
   fun p cap W => callsIn_wide.2 (AnyM.slices_Sort_string_none Tryz.sort181 p cap W)⟩

set_option maxHeartbeats 1000000 in
theorem Tryz.sortedSaid : Go.Ped.SortedSaid Tryz.prog 130 182 9 := by
  intro Bm b nn D0 w hBm hcell hown hmax hbytes
  have hseq : SeqGives Fence.wide 2 Tryz.prog 182 #[.pointer (some ⟨Bm, 0, none⟩)] encStr (fun ss => ss.Perm (strKeys D0)) (Maps.size D0) w :=
    AnyZ.keys_gives (ρ := Tryz.keys131_ren) { Tryz.keys131 with } Fence.wide _ trivial rfl (by omega) Bm b nn D0 w hBm hcell hown
  have h := AnyZ.sorted_in Tryz.sorted130 Fence.wide 5 trivial trivial trivial trivial rfl (by omega) (Tryz.sorts130 _) (enters_of Tryz.func181 (by kernel_rfl) rfl) 182 #[.pointer (some ⟨Bm, 0, none⟩)] trivial (enters_of Tryz.func182 (by kernel_rfl) rfl) _ _ hmax hbytes _ hseq
  refine (callsIn_wide.1 h).mono ?_
  rintro e w' ⟨v, ss, rfl, hS, hrow, _, hb⟩
  exact ⟨v, ss, rfl, hS, hrow, hb⟩

end Go.Proofs
namespace Go.Ped
open Go.Proofs

theorem Tryz_mix : Tryz.prog.follows .mixedOrders = true := by kernel_rfl

/-- What is known of slices.Sorted. -/
def srt : Handler := sortedK 130 182

theorem srt_ok : srt.ok Tryz.prog := sortedK_ok (kt := 9) Tryz.underlying9 Tryz.sortedSaid

end Go.Ped
