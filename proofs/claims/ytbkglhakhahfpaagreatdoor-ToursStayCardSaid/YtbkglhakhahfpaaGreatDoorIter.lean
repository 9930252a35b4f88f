/-
  DERIVED: THE SHELF's CONTRACTS AT THIS DUMP, IN PLAIN WORDS (tools/lay-plain.mjs out of 'TryzIter.lean', which tools/lay-shelf.mjs wrote): THE SAME DECLARATIONS UNDER THE SAME NAMES: 'import', 'namespace', 'open', 'def', 'theorem' AND NOTHING ELSE: no command of the shelf's: FOR A HAND-IN. Each laying: the table of numbers ('.._ren') and one theorem, a field a fact of the dump's own or the kernel's comparison; each contract: ONE APPLICATION.
-/
import Derived.Shelf.SlGeneric
import Derived.Shelf.SlIter.Nil
import Derived.Shelf.SortM.Plain
import Derived.Shelf.SortM.SortNone
import Derived.Ground.GgzProg
import Derived.Ground.SlgmProg
import Derived.Test.YtbkglhakhahfpaaGreatDoorProg
namespace Go.Proofs
open Go.Shelf
def Tryz.keys97_ren : Go.Shelf.Ren := ⟨fun | 7 => 97 | 10 => 181 | n => n, fun | 23 => 154 | 26 => 9 | 3 => 155 | 28 => 152 | 0 => 0 | 27 => 151 | 33 => 141 | 4 => 4 | n => n, fun | n => n⟩
theorem Tryz.keys97 : Go.Proofs.SlLaysZ.n7 Tryz.prog Tryz.keys97_ren := {
  mixed := by kernel_rfl
  f7 := ⟨Tryz.f97.name, by decide, Tryz.func97.trans (congrArg some (by kernel_rfl))⟩
  f10 := ⟨Tryz.f181.name, by decide, Tryz.func181.trans (congrArg some (by kernel_rfl))⟩
  t0 := Tryz.underlying0
  a0 := Tryz.isAgg0
  z0 := Tryz.sizeOf0
  v0 := Tryz.zeroValue0
  t4 := Tryz.underlying4
  a4 := Tryz.isAgg4
  z4 := Tryz.sizeOf4
  v4 := Tryz.zeroValue4
  t23 := Tryz.underlying154
  a23 := Tryz.isAgg154
  z23 := Tryz.sizeOf154
  v23 := Tryz.zeroValue154
  t26 := Tryz.underlying9
  a26 := Tryz.isAgg9
  z26 := Tryz.sizeOf9
  v26 := Tryz.zeroValue9
  t27 := Tryz.underlying151
  a27 := Tryz.isAgg151
  z27 := Tryz.sizeOf151
  v27 := Tryz.zeroValue151
  t28 := Tryz.underlying152
  a28 := Tryz.isAgg152
  z28 := Tryz.sizeOf152
  v28 := Tryz.zeroValue152
  t33 := Tryz.underlying141
  a33 := Tryz.isAgg141
  z33 := Tryz.sizeOf141
  v33 := Tryz.zeroValue141 }
def Tryz.sorted96_ren : Go.Shelf.Ren := ⟨fun | 6 => 96 | 8 => 180 | 9 => 133 | 11 => 244 | 13 => 184 | 12 => 208 | 23 => 254 | 24 => 255 | 14 => 263 | 15 => 264 | 16 => 265 | 17 => 266 | 18 => 267 | 19 => 268 | 20 => 269 | 21 => 270 | 22 => 271 | 25 => 313 | 26 => 299 | 27 => 300 | 28 => 314 | 29 => 315 | 30 => 316 | 31 => 343 | n => n, fun | 26 => 9 | 28 => 152 | 24 => 59 | 0 => 0 | 3 => 3 | 37 => 218 | 48 => 293 | 50 => 295 | 4 => 4 | 40 => 317 | 39 => 316 | 45 => 297 | 5 => 5 | 9 => 9 | 51 => 350 | 55 => 354 | 57 => 375 | 58 => 290 | 33 => 141 | n => n, fun | n => n⟩
theorem Tryz.sorted96 : Go.Proofs.SlLaysZ.n6 Tryz.prog Tryz.sorted96_ren := {
  mixed := by kernel_rfl
  f6 := ⟨Tryz.f96.name, by decide, Tryz.func96.trans (congrArg some (by kernel_rfl))⟩
  f8 := ⟨Tryz.f180.name, by decide, Tryz.func180.trans (congrArg some (by kernel_rfl))⟩
  f11 := ⟨Tryz.f244.name, by decide, Tryz.func244.trans (congrArg some (by kernel_rfl))⟩
  t0 := Tryz.underlying0
  a0 := Tryz.isAgg0
  z0 := Tryz.sizeOf0
  v0 := Tryz.zeroValue0
  t24 := Tryz.underlying59
  a24 := Tryz.isAgg59
  z24 := Tryz.sizeOf59
  v24 := Tryz.zeroValue59
  t26 := Tryz.underlying9
  a26 := Tryz.isAgg9
  z26 := Tryz.sizeOf9
  v26 := Tryz.zeroValue9
  t28 := Tryz.underlying152
  a28 := Tryz.isAgg152
  z28 := Tryz.sizeOf152
  v28 := Tryz.zeroValue152
  i26 := by kernel_rfl }
def Tryz.sort133_ren : Go.Shelf.Ren := ⟨fun | 6 => 133 | 8 => 184 | 9 => 208 | 19 => 254 | 20 => 255 | 21 => 263 | 22 => 264 | 23 => 265 | 24 => 266 | 25 => 267 | 26 => 268 | 27 => 269 | 28 => 270 | 29 => 271 | 36 => 313 | 31 => 299 | 32 => 300 | 37 => 314 | 38 => 315 | 39 => 316 | 41 => 343 | n => n, fun | 27 => 59 | 29 => 9 | 3 => 3 | 32 => 218 | 26 => 59 | 0 => 0 | 44 => 293 | 46 => 295 | 4 => 4 | 36 => 317 | 35 => 316 | 41 => 297 | 5 => 5 | 9 => 9 | 53 => 350 | 57 => 354 | 63 => 375 | 64 => 290 | n => n, fun | n => n⟩
theorem Tryz.sort133 : Go.Proofs.SlLaysM.n6 Tryz.prog Tryz.sort133_ren := {
  mixed := by kernel_rfl
  f6 := ⟨Tryz.f133.name, by decide, Tryz.func133.trans (congrArg some (by kernel_rfl))⟩
  f8 := Tryz.func184.trans (congrArg some (by kernel_rfl))
  f9 := ⟨Tryz.f208.name, by decide, Tryz.func208.trans (congrArg some (by kernel_rfl))⟩
  f19 := Tryz.func254.trans (congrArg some (by kernel_rfl))
  f20 := Tryz.func255.trans (congrArg some (by kernel_rfl))
  f21 := ⟨Tryz.f263.name, by decide, Tryz.func263.trans (congrArg some (by kernel_rfl))⟩
  f22 := ⟨Tryz.f264.name, by decide, Tryz.func264.trans (congrArg some (by kernel_rfl))⟩
  f23 := ⟨Tryz.f265.name, by decide, Tryz.func265.trans (congrArg some (by kernel_rfl))⟩
  f24 := ⟨Tryz.f266.name, by decide, Tryz.func266.trans (congrArg some (by kernel_rfl))⟩
  f25 := ⟨Tryz.f267.name, by decide, Tryz.func267.trans (congrArg some (by kernel_rfl))⟩
  f26 := ⟨Tryz.f268.name, by decide, Tryz.func268.trans (congrArg some (by kernel_rfl))⟩
  f27 := ⟨Tryz.f269.name, by decide, Tryz.func269.trans (congrArg some (by kernel_rfl))⟩
  f28 := ⟨Tryz.f270.name, by decide, Tryz.func270.trans (congrArg some (by kernel_rfl))⟩
  f29 := ⟨Tryz.f271.name, by decide, Tryz.func271.trans (congrArg some (by kernel_rfl))⟩
  f31 := Tryz.func299.trans (congrArg some (by kernel_rfl))
  f32 := Tryz.func300.trans (congrArg some (by kernel_rfl))
  f36 := ⟨Tryz.f313.name, by decide, Tryz.func313.trans (congrArg some (by kernel_rfl))⟩
  f37 := ⟨Tryz.f314.name, by decide, Tryz.func314.trans (congrArg some (by kernel_rfl))⟩
  f38 := ⟨Tryz.f315.name, by decide, Tryz.func315.trans (congrArg some (by kernel_rfl))⟩
  f39 := ⟨Tryz.f316.name, by decide, Tryz.func316.trans (congrArg some (by kernel_rfl))⟩
  f41 := ⟨Tryz.f343.name, by decide, Tryz.func343.trans (congrArg some (by kernel_rfl))⟩
  t0 := Tryz.underlying0
  a0 := Tryz.isAgg0
  z0 := Tryz.sizeOf0
  v0 := Tryz.zeroValue0
  t3 := Tryz.underlying3
  a3 := Tryz.isAgg3
  z3 := Tryz.sizeOf3
  v3 := Tryz.zeroValue3
  t4 := Tryz.underlying4
  a4 := Tryz.isAgg4
  z4 := Tryz.sizeOf4
  v4 := Tryz.zeroValue4
  t5 := Tryz.underlying5
  a5 := Tryz.isAgg5
  z5 := Tryz.sizeOf5
  v5 := Tryz.zeroValue5
  t9 := Tryz.underlying9
  a9 := Tryz.isAgg9
  z9 := Tryz.sizeOf9
  v9 := Tryz.zeroValue9
  t26 := Tryz.underlying59
  a26 := Tryz.isAgg59
  z26 := Tryz.sizeOf59
  v26 := Tryz.zeroValue59
  t27 := Tryz.underlying59
  a27 := Tryz.isAgg59
  z27 := Tryz.sizeOf59
  v27 := Tryz.zeroValue59
  t29 := Tryz.underlying9
  a29 := Tryz.isAgg9
  z29 := Tryz.sizeOf9
  v29 := Tryz.zeroValue9
  t32 := Tryz.underlying218
  a32 := Tryz.isAgg218
  z32 := Tryz.sizeOf218
  v32 := Tryz.zeroValue218
  t35 := Tryz.underlying316
  a35 := Tryz.isAgg316
  z35 := Tryz.sizeOf316
  v35 := Tryz.zeroValue316
  t36 := Tryz.underlying317
  a36 := Tryz.isAgg317
  z36 := Tryz.sizeOf317
  v36 := Tryz.zeroValue317
  t41 := Tryz.underlying297
  a41 := Tryz.isAgg297
  z41 := Tryz.sizeOf297
  v41 := Tryz.zeroValue297
  t44 := Tryz.underlying293
  a44 := Tryz.isAgg293
  z44 := Tryz.sizeOf293
  v44 := Tryz.zeroValue293
  t46 := Tryz.underlying295
  a46 := Tryz.isAgg295
  z46 := Tryz.sizeOf295
  v46 := Tryz.zeroValue295
  t53 := Tryz.underlying350
  a53 := Tryz.isAgg350
  z53 := Tryz.sizeOf350
  v53 := Tryz.zeroValue350
  t57 := Tryz.underlying354
  a57 := Tryz.isAgg354
  z57 := Tryz.sizeOf354
  v57 := Tryz.zeroValue354
  t63 := Tryz.underlying375
  a63 := Tryz.isAgg375
  z63 := Tryz.sizeOf375
  v63 := Tryz.zeroValue375
  t64 := Tryz.underlying290
  a64 := Tryz.isAgg290
  z64 := Tryz.sizeOf290
  v64 := Tryz.zeroValue290 }
def Tryz.keys312_ren : Go.Shelf.Ren := ⟨fun | 7 => 312 | 10 => 342 | n => n, fun | 23 => 144 | 26 => 9 | 3 => 4 | 28 => 152 | 0 => 0 | 27 => 151 | 33 => 141 | 4 => 4 | n => n, fun | n => n⟩
theorem Tryz.keys312 : Go.Proofs.SlLaysZ.n7 Tryz.prog Tryz.keys312_ren := {
  mixed := by kernel_rfl
  f7 := ⟨Tryz.f312.name, by decide, Tryz.func312.trans (congrArg some (by kernel_rfl))⟩
  f10 := ⟨Tryz.f342.name, by decide, Tryz.func342.trans (congrArg some (by kernel_rfl))⟩
  t0 := Tryz.underlying0
  a0 := Tryz.isAgg0
  z0 := Tryz.sizeOf0
  v0 := Tryz.zeroValue0
  t4 := Tryz.underlying4
  a4 := Tryz.isAgg4
  z4 := Tryz.sizeOf4
  v4 := Tryz.zeroValue4
  t23 := Tryz.underlying144
  a23 := Tryz.isAgg144
  z23 := Tryz.sizeOf144
  v23 := Tryz.zeroValue144
  t26 := Tryz.underlying9
  a26 := Tryz.isAgg9
  z26 := Tryz.sizeOf9
  v26 := Tryz.zeroValue9
  t27 := Tryz.underlying151
  a27 := Tryz.isAgg151
  z27 := Tryz.sizeOf151
  v27 := Tryz.zeroValue151
  t28 := Tryz.underlying152
  a28 := Tryz.isAgg152
  z28 := Tryz.sizeOf152
  v28 := Tryz.zeroValue152
  t33 := Tryz.underlying141
  a33 := Tryz.isAgg141
  z33 := Tryz.sizeOf141
  v33 := Tryz.zeroValue141 }
open Go.RowKit Go.Maps Go.Sort
theorem Tryz.sorts96 (m : Nat) : AnyZ.SortsIn Tryz.prog Tryz.sorted96_ren Fence.wide m :=
  ⟨fun blk off cap ss W hH hblk hsz => callsIn_wide.2 (AnyM.slices_Sort_string Tryz.sort133 blk off cap ss W hH hblk hsz),
   fun p cap W => callsIn_wide.2 (AnyM.slices_Sort_string_none Tryz.sort133 p cap W)⟩

theorem Tryz.maps_Keys_97 (mb : Option Nat) (W : World) : CallsIn Fence.wide 5 Tryz.prog 97 #[.map mb] W fun e w' => e = .returned (.func (.func 181) #[] #[.pointer (some ⟨W.heap.size, 0, none⟩)]) ∧ w' = W.alloc (.cells #[.map mb] 154) :=
  AnyZ.keys_in Tryz.keys97 Fence.wide 5 trivial rfl mb W

set_option maxHeartbeats 1000000 in
theorem Tryz.slices_Sorted_keys_96_97 {H : Type} (b nn : Nat) (D0 : DataW H) (R : Value → Option (DataW H × List MemPlace)) (w : World) (hown : w.ownsMap Tryz.prog 9 R b nn D0) (hmax : Maps.size D0 ≤ maxLen) (hbytes : Maps.size D0 * 16 ≤ 140737488355328) :
    CallsIn Fence.wide 5 Tryz.prog 96 #[.func (.func 181) #[] #[.pointer (some ⟨w.heap.size, 0, none⟩)]] (w.alloc (.cells #[.map (some b)] 154)) fun e w' => ∃ (v : Value) (ss : List (List UInt8)), e = .returned v ∧ ss.Perm (strKeys D0) ∧
      w'.ownsRow (w.alloc (.cells #[.map (some b)] 154)).heap.size 9 1 v ss.length ((ss.mergeSort (fun x y => decide (x ≤ y))).map encStr) ∧ (v = .slice none 0 0 ↔ ss = []) ∧ Below (w.alloc (.cells #[.map (some b)] 154)).heap.size (w.alloc (.cells #[.map (some b)] 154)) w' := by
  have hbl := hown.lt
  have hseq : SeqGives Fence.wide 2 Tryz.prog 181 #[.pointer (some ⟨w.heap.size, 0, none⟩)] encStr (fun ss => ss.Perm (strKeys D0)) (Maps.size D0) (w.alloc (.cells #[.map (some b)] 154)) :=
    AnyZ.keys_gives (ρ := Tryz.keys97_ren) { Tryz.keys97 with } Fence.wide _ trivial rfl (by omega) w.heap.size b nn D0 _ (by simp) (by simp) (by
      obtain ⟨es, clock, hb, Ft, hs, hD⟩ := hown
      exact ⟨es, clock, (Below.heap_alloc _ _ b hbl).trans hb, Ft, hs, hD⟩)
  exact AnyZ.sorted_in Tryz.sorted96 Fence.wide 5 trivial trivial trivial trivial rfl (by omega) (Tryz.sorts96 _) (enters_of Tryz.func133 (by kernel_rfl) rfl) 181 #[.pointer (some ⟨w.heap.size, 0, none⟩)] trivial (enters_of Tryz.func181 (by kernel_rfl) rfl) _ _ hmax hbytes _ hseq

set_option maxHeartbeats 1000000 in
theorem Tryz.slices_Sorted_keys_nil_96_97 (w : World) :
    CallsIn Fence.wide 5 Tryz.prog 96 #[.func (.func 181) #[] #[.pointer (some ⟨w.heap.size, 0, none⟩)]] (w.alloc (.cells #[.map none] 154)) fun e w' => ∃ (v : Value) (ss : List (List UInt8)), e = .returned v ∧ ss = [] ∧
      w'.ownsRow (w.alloc (.cells #[.map none] 154)).heap.size 9 1 v ss.length ((ss.mergeSort (fun x y => decide (x ≤ y))).map encStr) ∧ (v = .slice none 0 0 ↔ ss = []) ∧ Below (w.alloc (.cells #[.map none] 154)).heap.size (w.alloc (.cells #[.map none] 154)) w' := by
  have hseq : SeqGives Fence.wide 2 Tryz.prog 181 #[.pointer (some ⟨w.heap.size, 0, none⟩)] encStr (fun ss : List (List UInt8) => ss = []) 0 (w.alloc (.cells #[.map none] 154)) :=
    AnyZ.keys_gives_nil (ρ := Tryz.keys97_ren) { Tryz.keys97 with } Fence.wide _ trivial rfl w.heap.size _ (by simp) (by simp)
  exact AnyZ.sorted_in Tryz.sorted96 Fence.wide 5 trivial trivial trivial trivial rfl (by omega) (Tryz.sorts96 _) (enters_of Tryz.func133 (by kernel_rfl) rfl) 181 #[.pointer (some ⟨w.heap.size, 0, none⟩)] trivial (enters_of Tryz.func181 (by kernel_rfl) rfl) _ 0 (Nat.zero_le _) (by omega) _ hseq



theorem Tryz.maps_Keys_312 (mb : Option Nat) (W : World) : CallsIn Fence.wide 5 Tryz.prog 312 #[.map mb] W fun e w' => e = .returned (.func (.func 342) #[] #[.pointer (some ⟨W.heap.size, 0, none⟩)]) ∧ w' = W.alloc (.cells #[.map mb] 144) :=
  AnyZ.keys_in Tryz.keys312 Fence.wide 5 trivial rfl mb W

set_option maxHeartbeats 1000000 in
theorem Tryz.slices_Sorted_keys_96_312 {H : Type} (b nn : Nat) (D0 : DataW H) (R : Value → Option (DataW H × List MemPlace)) (w : World) (hown : w.ownsMap Tryz.prog 9 R b nn D0) (hmax : Maps.size D0 ≤ maxLen) (hbytes : Maps.size D0 * 16 ≤ 140737488355328) :
    CallsIn Fence.wide 5 Tryz.prog 96 #[.func (.func 342) #[] #[.pointer (some ⟨w.heap.size, 0, none⟩)]] (w.alloc (.cells #[.map (some b)] 144)) fun e w' => ∃ (v : Value) (ss : List (List UInt8)), e = .returned v ∧ ss.Perm (strKeys D0) ∧
      w'.ownsRow (w.alloc (.cells #[.map (some b)] 144)).heap.size 9 1 v ss.length ((ss.mergeSort (fun x y => decide (x ≤ y))).map encStr) ∧ (v = .slice none 0 0 ↔ ss = []) ∧ Below (w.alloc (.cells #[.map (some b)] 144)).heap.size (w.alloc (.cells #[.map (some b)] 144)) w' := by
  have hbl := hown.lt
  have hseq : SeqGives Fence.wide 2 Tryz.prog 342 #[.pointer (some ⟨w.heap.size, 0, none⟩)] encStr (fun ss => ss.Perm (strKeys D0)) (Maps.size D0) (w.alloc (.cells #[.map (some b)] 144)) :=
    AnyZ.keys_gives (ρ := Tryz.keys312_ren) { Tryz.keys312 with } Fence.wide _ trivial rfl (by omega) w.heap.size b nn D0 _ (by simp) (by simp) (by
      obtain ⟨es, clock, hb, Ft, hs, hD⟩ := hown
      exact ⟨es, clock, (Below.heap_alloc _ _ b hbl).trans hb, Ft, hs, hD⟩)
  exact AnyZ.sorted_in Tryz.sorted96 Fence.wide 5 trivial trivial trivial trivial rfl (by omega) (Tryz.sorts96 _) (enters_of Tryz.func133 (by kernel_rfl) rfl) 342 #[.pointer (some ⟨w.heap.size, 0, none⟩)] trivial (enters_of Tryz.func342 (by kernel_rfl) rfl) _ _ hmax hbytes _ hseq

set_option maxHeartbeats 1000000 in
theorem Tryz.slices_Sorted_keys_nil_96_312 (w : World) :
    CallsIn Fence.wide 5 Tryz.prog 96 #[.func (.func 342) #[] #[.pointer (some ⟨w.heap.size, 0, none⟩)]] (w.alloc (.cells #[.map none] 144)) fun e w' => ∃ (v : Value) (ss : List (List UInt8)), e = .returned v ∧ ss = [] ∧
      w'.ownsRow (w.alloc (.cells #[.map none] 144)).heap.size 9 1 v ss.length ((ss.mergeSort (fun x y => decide (x ≤ y))).map encStr) ∧ (v = .slice none 0 0 ↔ ss = []) ∧ Below (w.alloc (.cells #[.map none] 144)).heap.size (w.alloc (.cells #[.map none] 144)) w' := by
  have hseq : SeqGives Fence.wide 2 Tryz.prog 342 #[.pointer (some ⟨w.heap.size, 0, none⟩)] encStr (fun ss : List (List UInt8) => ss = []) 0 (w.alloc (.cells #[.map none] 144)) :=
    AnyZ.keys_gives_nil (ρ := Tryz.keys312_ren) { Tryz.keys312 with } Fence.wide _ trivial rfl w.heap.size _ (by simp) (by simp)
  exact AnyZ.sorted_in Tryz.sorted96 Fence.wide 5 trivial trivial trivial trivial rfl (by omega) (Tryz.sorts96 _) (enters_of Tryz.func133 (by kernel_rfl) rfl) 342 #[.pointer (some ⟨w.heap.size, 0, none⟩)] trivial (enters_of Tryz.func342 (by kernel_rfl) rfl) _ 0 (Nat.zero_le _) (by omega) _ hseq
end Go.Proofs
