/-
  DERIVED: THE SHELF's CONTRACTS AT THIS DUMP, IN PLAIN WORDS (tools/lay-plain.mjs out of 'TryzIter.lean', which tools/lay-shelf.mjs wrote): THE SAME DECLARATIONS UNDER THE SAME NAMES: 'import', 'namespace', 'open', 'def', 'theorem' AND NOTHING ELSE: no command of the shelf's: FOR A HAND-IN. Each laying: the table of numbers ('.._ren') and one theorem, a field a fact of the dump's own or the kernel's comparison; each contract: ONE APPLICATION.
-/
import Derived.Shelf.SlGeneric
import Derived.Shelf.SlIter.Nil
import Derived.Shelf.SortM.Plain
import Derived.Shelf.SortM.SortNone
import Derived.Ground.GgzProg
import Derived.Ground.SlgmProg
import Derived.Test.YtnmimagninhkkaaGreatDoorProg
namespace Go.Proofs
open Go.Shelf
def Tryz.keys147_ren : Go.Shelf.Ren := ⟨fun | 7 => 147 | 10 => 210 | n => n, fun | 23 => 130 | 26 => 9 | 3 => 129 | 28 => 202 | 0 => 0 | 27 => 201 | 33 => 51 | 4 => 4 | n => n, fun | n => n⟩
theorem Tryz.keys147 : Go.Proofs.SlLaysZ.n7 Tryz.prog Tryz.keys147_ren := {
  mixed := by kernel_rfl
  f7 := ⟨Tryz.f147.name, by decide, Tryz.func147.trans (congrArg some (by kernel_rfl))⟩
  f10 := ⟨Tryz.f210.name, by decide, Tryz.func210.trans (congrArg some (by kernel_rfl))⟩
  t0 := Tryz.underlying0
  a0 := Tryz.isAgg0
  z0 := Tryz.sizeOf0
  v0 := Tryz.zeroValue0
  t4 := Tryz.underlying4
  a4 := Tryz.isAgg4
  z4 := Tryz.sizeOf4
  v4 := Tryz.zeroValue4
  t23 := Tryz.underlying130
  a23 := Tryz.isAgg130
  z23 := Tryz.sizeOf130
  v23 := Tryz.zeroValue130
  t26 := Tryz.underlying9
  a26 := Tryz.isAgg9
  z26 := Tryz.sizeOf9
  v26 := Tryz.zeroValue9
  t27 := Tryz.underlying201
  a27 := Tryz.isAgg201
  z27 := Tryz.sizeOf201
  v27 := Tryz.zeroValue201
  t28 := Tryz.underlying202
  a28 := Tryz.isAgg202
  z28 := Tryz.sizeOf202
  v28 := Tryz.zeroValue202
  t33 := Tryz.underlying51
  a33 := Tryz.isAgg51
  z33 := Tryz.sizeOf51
  v33 := Tryz.zeroValue51 }
def Tryz.sorted146_ren : Go.Shelf.Ren := ⟨fun | 6 => 146 | 8 => 209 | 9 => 189 | 11 => 261 | 13 => 212 | 12 => 250 | 23 => 270 | 24 => 271 | 14 => 301 | 15 => 302 | 16 => 303 | 17 => 304 | 18 => 305 | 19 => 306 | 20 => 307 | 21 => 308 | 22 => 309 | 25 => 373 | 26 => 326 | 27 => 327 | 28 => 374 | 29 => 375 | 30 => 376 | 31 => 415 | n => n, fun | 26 => 9 | 28 => 202 | 24 => 41 | 0 => 0 | 3 => 3 | 37 => 252 | 48 => 294 | 50 => 296 | 4 => 4 | 40 => 288 | 39 => 287 | 45 => 195 | 5 => 5 | 9 => 9 | 51 => 328 | 55 => 332 | 57 => 373 | 58 => 374 | 33 => 51 | n => n, fun | n => n⟩
theorem Tryz.sorted146 : Go.Proofs.SlLaysZ.n6 Tryz.prog Tryz.sorted146_ren := {
  mixed := by kernel_rfl
  f6 := ⟨Tryz.f146.name, by decide, Tryz.func146.trans (congrArg some (by kernel_rfl))⟩
  f8 := ⟨Tryz.f209.name, by decide, Tryz.func209.trans (congrArg some (by kernel_rfl))⟩
  f11 := ⟨Tryz.f261.name, by decide, Tryz.func261.trans (congrArg some (by kernel_rfl))⟩
  t0 := Tryz.underlying0
  a0 := Tryz.isAgg0
  z0 := Tryz.sizeOf0
  v0 := Tryz.zeroValue0
  t24 := Tryz.underlying41
  a24 := Tryz.isAgg41
  z24 := Tryz.sizeOf41
  v24 := Tryz.zeroValue41
  t26 := Tryz.underlying9
  a26 := Tryz.isAgg9
  z26 := Tryz.sizeOf9
  v26 := Tryz.zeroValue9
  t28 := Tryz.underlying202
  a28 := Tryz.isAgg202
  z28 := Tryz.sizeOf202
  v28 := Tryz.zeroValue202
  i26 := by kernel_rfl }
def Tryz.sort189_ren : Go.Shelf.Ren := ⟨fun | 6 => 189 | 8 => 212 | 9 => 250 | 19 => 270 | 20 => 271 | 21 => 301 | 22 => 302 | 23 => 303 | 24 => 304 | 25 => 305 | 26 => 306 | 27 => 307 | 28 => 308 | 29 => 309 | 36 => 373 | 31 => 326 | 32 => 327 | 37 => 374 | 38 => 375 | 39 => 376 | 41 => 415 | n => n, fun | 27 => 41 | 29 => 9 | 3 => 3 | 32 => 252 | 26 => 41 | 0 => 0 | 44 => 294 | 46 => 296 | 4 => 4 | 36 => 288 | 35 => 287 | 41 => 195 | 5 => 5 | 9 => 9 | 53 => 328 | 57 => 332 | 63 => 373 | 64 => 374 | n => n, fun | n => n⟩
theorem Tryz.sort189 : Go.Proofs.SlLaysM.n6 Tryz.prog Tryz.sort189_ren := {
  mixed := by kernel_rfl
  f6 := ⟨Tryz.f189.name, by decide, Tryz.func189.trans (congrArg some (by kernel_rfl))⟩
  f8 := Tryz.func212.trans (congrArg some (by kernel_rfl))
  f9 := ⟨Tryz.f250.name, by decide, Tryz.func250.trans (congrArg some (by kernel_rfl))⟩
  f19 := Tryz.func270.trans (congrArg some (by kernel_rfl))
  f20 := Tryz.func271.trans (congrArg some (by kernel_rfl))
  f21 := ⟨Tryz.f301.name, by decide, Tryz.func301.trans (congrArg some (by kernel_rfl))⟩
  f22 := ⟨Tryz.f302.name, by decide, Tryz.func302.trans (congrArg some (by kernel_rfl))⟩
  f23 := ⟨Tryz.f303.name, by decide, Tryz.func303.trans (congrArg some (by kernel_rfl))⟩
  f24 := ⟨Tryz.f304.name, by decide, Tryz.func304.trans (congrArg some (by kernel_rfl))⟩
  f25 := ⟨Tryz.f305.name, by decide, Tryz.func305.trans (congrArg some (by kernel_rfl))⟩
  f26 := ⟨Tryz.f306.name, by decide, Tryz.func306.trans (congrArg some (by kernel_rfl))⟩
  f27 := ⟨Tryz.f307.name, by decide, Tryz.func307.trans (congrArg some (by kernel_rfl))⟩
  f28 := ⟨Tryz.f308.name, by decide, Tryz.func308.trans (congrArg some (by kernel_rfl))⟩
  f29 := ⟨Tryz.f309.name, by decide, Tryz.func309.trans (congrArg some (by kernel_rfl))⟩
  f31 := Tryz.func326.trans (congrArg some (by kernel_rfl))
  f32 := Tryz.func327.trans (congrArg some (by kernel_rfl))
  f36 := ⟨Tryz.f373.name, by decide, Tryz.func373.trans (congrArg some (by kernel_rfl))⟩
  f37 := ⟨Tryz.f374.name, by decide, Tryz.func374.trans (congrArg some (by kernel_rfl))⟩
  f38 := ⟨Tryz.f375.name, by decide, Tryz.func375.trans (congrArg some (by kernel_rfl))⟩
  f39 := ⟨Tryz.f376.name, by decide, Tryz.func376.trans (congrArg some (by kernel_rfl))⟩
  f41 := ⟨Tryz.f415.name, by decide, Tryz.func415.trans (congrArg some (by kernel_rfl))⟩
  t0 := Tryz.underlying0
  a0 := Tryz.isAgg0
  z0 := Tryz.sizeOf0
  v0 := Tryz.zeroValue0
  t3 := Tryz.underlying3
  a3 := Tryz.isAgg3
  z3 := Tryz.sizeOf3
  v3 := Tryz.zeroValue3
  t4 := Tryz.underlying4
  a4 := Tryz.isAgg4
  z4 := Tryz.sizeOf4
  v4 := Tryz.zeroValue4
  t5 := Tryz.underlying5
  a5 := Tryz.isAgg5
  z5 := Tryz.sizeOf5
  v5 := Tryz.zeroValue5
  t9 := Tryz.underlying9
  a9 := Tryz.isAgg9
  z9 := Tryz.sizeOf9
  v9 := Tryz.zeroValue9
  t26 := Tryz.underlying41
  a26 := Tryz.isAgg41
  z26 := Tryz.sizeOf41
  v26 := Tryz.zeroValue41
  t27 := Tryz.underlying41
  a27 := Tryz.isAgg41
  z27 := Tryz.sizeOf41
  v27 := Tryz.zeroValue41
  t29 := Tryz.underlying9
  a29 := Tryz.isAgg9
  z29 := Tryz.sizeOf9
  v29 := Tryz.zeroValue9
  t32 := Tryz.underlying252
  a32 := Tryz.isAgg252
  z32 := Tryz.sizeOf252
  v32 := Tryz.zeroValue252
  t35 := Tryz.underlying287
  a35 := Tryz.isAgg287
  z35 := Tryz.sizeOf287
  v35 := Tryz.zeroValue287
  t36 := Tryz.underlying288
  a36 := Tryz.isAgg288
  z36 := Tryz.sizeOf288
  v36 := Tryz.zeroValue288
  t41 := Tryz.underlying195
  a41 := Tryz.isAgg195
  z41 := Tryz.sizeOf195
  v41 := Tryz.zeroValue195
  t44 := Tryz.underlying294
  a44 := Tryz.isAgg294
  z44 := Tryz.sizeOf294
  v44 := Tryz.zeroValue294
  t46 := Tryz.underlying296
  a46 := Tryz.isAgg296
  z46 := Tryz.sizeOf296
  v46 := Tryz.zeroValue296
  t53 := Tryz.underlying328
  a53 := Tryz.isAgg328
  z53 := Tryz.sizeOf328
  v53 := Tryz.zeroValue328
  t57 := Tryz.underlying332
  a57 := Tryz.isAgg332
  z57 := Tryz.sizeOf332
  v57 := Tryz.zeroValue332
  t63 := Tryz.underlying373
  a63 := Tryz.isAgg373
  z63 := Tryz.sizeOf373
  v63 := Tryz.zeroValue373
  t64 := Tryz.underlying374
  a64 := Tryz.isAgg374
  z64 := Tryz.sizeOf374
  v64 := Tryz.zeroValue374 }
def Tryz.keys239_ren : Go.Shelf.Ren := ⟨fun | 7 => 239 | 10 => 294 | n => n, fun | 23 => 125 | 26 => 9 | 3 => 4 | 28 => 202 | 0 => 0 | 27 => 201 | 33 => 51 | 4 => 4 | n => n, fun | n => n⟩
theorem Tryz.keys239 : Go.Proofs.SlLaysZ.n7 Tryz.prog Tryz.keys239_ren := {
  mixed := by kernel_rfl
  f7 := ⟨Tryz.f239.name, by decide, Tryz.func239.trans (congrArg some (by kernel_rfl))⟩
  f10 := ⟨Tryz.f294.name, by decide, Tryz.func294.trans (congrArg some (by kernel_rfl))⟩
  t0 := Tryz.underlying0
  a0 := Tryz.isAgg0
  z0 := Tryz.sizeOf0
  v0 := Tryz.zeroValue0
  t4 := Tryz.underlying4
  a4 := Tryz.isAgg4
  z4 := Tryz.sizeOf4
  v4 := Tryz.zeroValue4
  t23 := Tryz.underlying125
  a23 := Tryz.isAgg125
  z23 := Tryz.sizeOf125
  v23 := Tryz.zeroValue125
  t26 := Tryz.underlying9
  a26 := Tryz.isAgg9
  z26 := Tryz.sizeOf9
  v26 := Tryz.zeroValue9
  t27 := Tryz.underlying201
  a27 := Tryz.isAgg201
  z27 := Tryz.sizeOf201
  v27 := Tryz.zeroValue201
  t28 := Tryz.underlying202
  a28 := Tryz.isAgg202
  z28 := Tryz.sizeOf202
  v28 := Tryz.zeroValue202
  t33 := Tryz.underlying51
  a33 := Tryz.isAgg51
  z33 := Tryz.sizeOf51
  v33 := Tryz.zeroValue51 }
open Go.RowKit Go.Maps Go.Sort
theorem Tryz.sorts146 (m : Nat) : AnyZ.SortsIn Tryz.prog Tryz.sorted146_ren Fence.wide m :=
  ⟨fun blk off cap ss W hH hblk hsz => callsIn_wide.2 (AnyM.slices_Sort_string Tryz.sort189 blk off cap ss W hH hblk hsz),
   fun p cap W => callsIn_wide.2 (AnyM.slices_Sort_string_none Tryz.sort189 p cap W)⟩

theorem Tryz.maps_Keys_147 (mb : Option Nat) (W : World) : CallsIn Fence.wide 5 Tryz.prog 147 #[.map mb] W fun e w' => e = .returned (.func (.func 210) #[] #[.pointer (some ⟨W.heap.size, 0, none⟩)]) ∧ w' = W.alloc (.cells #[.map mb] 130) :=
  AnyZ.keys_in Tryz.keys147 Fence.wide 5 trivial rfl mb W

set_option maxHeartbeats 1000000 in
theorem Tryz.slices_Sorted_keys_146_147 {H : Type} (b nn : Nat) (D0 : DataW H) (R : Value → Option (DataW H × List MemPlace)) (w : World) (hown : w.ownsMap Tryz.prog 9 R b nn D0) (hmax : Maps.size D0 ≤ maxLen) (hbytes : Maps.size D0 * 16 ≤ 140737488355328) :
    CallsIn Fence.wide 5 Tryz.prog 146 #[.func (.func 210) #[] #[.pointer (some ⟨w.heap.size, 0, none⟩)]] (w.alloc (.cells #[.map (some b)] 130)) fun e w' => ∃ (v : Value) (ss : List (List UInt8)), e = .returned v ∧ ss.Perm (strKeys D0) ∧
      w'.ownsRow (w.alloc (.cells #[.map (some b)] 130)).heap.size 9 1 v ss.length ((ss.mergeSort (fun x y => decide (x ≤ y))).map encStr) ∧ (v = .slice none 0 0 ↔ ss = []) ∧ Below (w.alloc (.cells #[.map (some b)] 130)).heap.size (w.alloc (.cells #[.map (some b)] 130)) w' := by
  have hbl := hown.lt
  have hseq : SeqGives Fence.wide 2 Tryz.prog 210 #[.pointer (some ⟨w.heap.size, 0, none⟩)] encStr (fun ss => ss.Perm (strKeys D0)) (Maps.size D0) (w.alloc (.cells #[.map (some b)] 130)) :=
    AnyZ.keys_gives (ρ := Tryz.keys147_ren) { Tryz.keys147 with } Fence.wide _ trivial rfl (by omega) w.heap.size b nn D0 _ (by simp) (by simp) (by
      obtain ⟨es, clock, hb, Ft, hs, hD⟩ := hown
      exact ⟨es, clock, (Below.heap_alloc _ _ b hbl).trans hb, Ft, hs, hD⟩)
  exact AnyZ.sorted_in Tryz.sorted146 Fence.wide 5 trivial trivial trivial trivial rfl (by omega) (Tryz.sorts146 _) (enters_of Tryz.func189 (by kernel_rfl) rfl) 210 #[.pointer (some ⟨w.heap.size, 0, none⟩)] trivial (enters_of Tryz.func210 (by kernel_rfl) rfl) _ _ hmax hbytes _ hseq

set_option maxHeartbeats 1000000 in
theorem Tryz.slices_Sorted_keys_nil_146_147 (w : World) :
    CallsIn Fence.wide 5 Tryz.prog 146 #[.func (.func 210) #[] #[.pointer (some ⟨w.heap.size, 0, none⟩)]] (w.alloc (.cells #[.map none] 130)) fun e w' => ∃ (v : Value) (ss : List (List UInt8)), e = .returned v ∧ ss = [] ∧
      w'.ownsRow (w.alloc (.cells #[.map none] 130)).heap.size 9 1 v ss.length ((ss.mergeSort (fun x y => decide (x ≤ y))).map encStr) ∧ (v = .slice none 0 0 ↔ ss = []) ∧ Below (w.alloc (.cells #[.map none] 130)).heap.size (w.alloc (.cells #[.map none] 130)) w' := by
  have hseq : SeqGives Fence.wide 2 Tryz.prog 210 #[.pointer (some ⟨w.heap.size, 0, none⟩)] encStr (fun ss : List (List UInt8) => ss = []) 0 (w.alloc (.cells #[.map none] 130)) :=
    AnyZ.keys_gives_nil (ρ := Tryz.keys147_ren) { Tryz.keys147 with } Fence.wide _ trivial rfl w.heap.size _ (by simp) (by simp)
  exact AnyZ.sorted_in Tryz.sorted146 Fence.wide 5 trivial trivial trivial trivial rfl (by omega) (Tryz.sorts146 _) (enters_of Tryz.func189 (by kernel_rfl) rfl) 210 #[.pointer (some ⟨w.heap.size, 0, none⟩)] trivial (enters_of Tryz.func210 (by kernel_rfl) rfl) _ 0 (Nat.zero_le _) (by omega) _ hseq



theorem Tryz.maps_Keys_239 (mb : Option Nat) (W : World) : CallsIn Fence.wide 5 Tryz.prog 239 #[.map mb] W fun e w' => e = .returned (.func (.func 294) #[] #[.pointer (some ⟨W.heap.size, 0, none⟩)]) ∧ w' = W.alloc (.cells #[.map mb] 125) :=
  AnyZ.keys_in Tryz.keys239 Fence.wide 5 trivial rfl mb W

set_option maxHeartbeats 1000000 in
theorem Tryz.slices_Sorted_keys_146_239 {H : Type} (b nn : Nat) (D0 : DataW H) (R : Value → Option (DataW H × List MemPlace)) (w : World) (hown : w.ownsMap Tryz.prog 9 R b nn D0) (hmax : Maps.size D0 ≤ maxLen) (hbytes : Maps.size D0 * 16 ≤ 140737488355328) :
    CallsIn Fence.wide 5 Tryz.prog 146 #[.func (.func 294) #[] #[.pointer (some ⟨w.heap.size, 0, none⟩)]] (w.alloc (.cells #[.map (some b)] 125)) fun e w' => ∃ (v : Value) (ss : List (List UInt8)), e = .returned v ∧ ss.Perm (strKeys D0) ∧
      w'.ownsRow (w.alloc (.cells #[.map (some b)] 125)).heap.size 9 1 v ss.length ((ss.mergeSort (fun x y => decide (x ≤ y))).map encStr) ∧ (v = .slice none 0 0 ↔ ss = []) ∧ Below (w.alloc (.cells #[.map (some b)] 125)).heap.size (w.alloc (.cells #[.map (some b)] 125)) w' := by
  have hbl := hown.lt
  have hseq : SeqGives Fence.wide 2 Tryz.prog 294 #[.pointer (some ⟨w.heap.size, 0, none⟩)] encStr (fun ss => ss.Perm (strKeys D0)) (Maps.size D0) (w.alloc (.cells #[.map (some b)] 125)) :=
    AnyZ.keys_gives (ρ := Tryz.keys239_ren) { Tryz.keys239 with } Fence.wide _ trivial rfl (by omega) w.heap.size b nn D0 _ (by simp) (by simp) (by
      obtain ⟨es, clock, hb, Ft, hs, hD⟩ := hown
      exact ⟨es, clock, (Below.heap_alloc _ _ b hbl).trans hb, Ft, hs, hD⟩)
  exact AnyZ.sorted_in Tryz.sorted146 Fence.wide 5 trivial trivial trivial trivial rfl (by omega) (Tryz.sorts146 _) (enters_of Tryz.func189 (by kernel_rfl) rfl) 294 #[.pointer (some ⟨w.heap.size, 0, none⟩)] trivial (enters_of Tryz.func294 (by kernel_rfl) rfl) _ _ hmax hbytes _ hseq

set_option maxHeartbeats 1000000 in
theorem Tryz.slices_Sorted_keys_nil_146_239 (w : World) :
    CallsIn Fence.wide 5 Tryz.prog 146 #[.func (.func 294) #[] #[.pointer (some ⟨w.heap.size, 0, none⟩)]] (w.alloc (.cells #[.map none] 125)) fun e w' => ∃ (v : Value) (ss : List (List UInt8)), e = .returned v ∧ ss = [] ∧
      w'.ownsRow (w.alloc (.cells #[.map none] 125)).heap.size 9 1 v ss.length ((ss.mergeSort (fun x y => decide (x ≤ y))).map encStr) ∧ (v = .slice none 0 0 ↔ ss = []) ∧ Below (w.alloc (.cells #[.map none] 125)).heap.size (w.alloc (.cells #[.map none] 125)) w' := by
  have hseq : SeqGives Fence.wide 2 Tryz.prog 294 #[.pointer (some ⟨w.heap.size, 0, none⟩)] encStr (fun ss : List (List UInt8) => ss = []) 0 (w.alloc (.cells #[.map none] 125)) :=
    AnyZ.keys_gives_nil (ρ := Tryz.keys239_ren) { Tryz.keys239 with } Fence.wide _ trivial rfl w.heap.size _ (by simp) (by simp)
  exact AnyZ.sorted_in Tryz.sorted146 Fence.wide 5 trivial trivial trivial trivial rfl (by omega) (Tryz.sorts146 _) (enters_of Tryz.func189 (by kernel_rfl) rfl) 294 #[.pointer (some ⟨w.heap.size, 0, none⟩)] trivial (enters_of Tryz.func294 (by kernel_rfl) rfl) _ 0 (Nat.zero_le _) (by omega) _ hseq
end Go.Proofs
