/- Texts of the proof of a law, put together, part 34 of 46. Conditions: none beyond those that each theorem names. -/
import Derived.Shelf.SlGeneric
import Derived.Shelf.SlIter.Nil
import Derived.Shelf.SortM.Plain
import Derived.Shelf.SortM.SortNone
import Derived.Ground.GgzProg
import Derived.Ground.SlgmProg
import Derived.Test.YtilhonppgedoiaaGreatDoorProg
namespace Go.Proofs
open Go.Shelf
def Tryz.keys166_ren : Go.Shelf.Ren := ⟨fun | 7 => 166 | 10 => 199 | n => n, fun | 23 => 203 | 26 => 9 | 3 => 4 | 28 => 208 | 0 => 0 | 27 => 207 | 33 => 100 | 4 => 4 | n => n, fun | n => n⟩
theorem Tryz.keys166 : Go.Proofs.SlLaysZ.n7 Tryz.prog Tryz.keys166_ren := {
  mixed := by kernel_rfl
  f7 := ⟨Tryz.f166.name, by decide, Tryz.func166.trans (congrArg some (by kernel_rfl))⟩
  f10 := ⟨Tryz.f199.name, by decide, Tryz.func199.trans (congrArg some (by kernel_rfl))⟩
  t0 := Tryz.underlying0
  a0 := Tryz.isAgg0
  z0 := Tryz.sizeOf0
  v0 := Tryz.zeroValue0
  t4 := Tryz.underlying4
  a4 := Tryz.isAgg4
  z4 := Tryz.sizeOf4
  v4 := Tryz.zeroValue4
  t23 := Tryz.underlying203
  a23 := Tryz.isAgg203
  z23 := Tryz.sizeOf203
  v23 := Tryz.zeroValue203
  t26 := Tryz.underlying9
  a26 := Tryz.isAgg9
  z26 := Tryz.sizeOf9
  v26 := Tryz.zeroValue9
  t27 := Tryz.underlying207
  a27 := Tryz.isAgg207
  z27 := Tryz.sizeOf207
  v27 := Tryz.zeroValue207
  t28 := Tryz.underlying208
  a28 := Tryz.isAgg208
  z28 := Tryz.sizeOf208
  v28 := Tryz.zeroValue208
  t33 := Tryz.underlying100
  a33 := Tryz.isAgg100
  z33 := Tryz.sizeOf100
  v33 := Tryz.zeroValue100 }
def Tryz.sorted165_ren : Go.Shelf.Ren := ⟨fun | 6 => 165 | 8 => 197 | 9 => 198 | 11 => 215 | 13 => 217 | 12 => 216 | 23 => 231 | 24 => 188 | 14 => 222 | 15 => 223 | 16 => 224 | 17 => 225 | 18 => 226 | 19 => 227 | 20 => 228 | 21 => 229 | 22 => 230 | 25 => 232 | 26 => 233 | 27 => 234 | 28 => 235 | 29 => 236 | 30 => 237 | 31 => 238 | n => n, fun | 26 => 9 | 28 => 208 | 24 => 63 | 0 => 0 | 3 => 3 | 37 => 214 | 48 => 232 | 50 => 193 | 4 => 4 | 40 => 264 | 39 => 263 | 45 => 110 | 5 => 5 | 9 => 9 | 51 => 269 | 55 => 273 | 57 => 275 | 58 => 276 | 33 => 100 | n => n, fun | n => n⟩
theorem Tryz.sorted165 : Go.Proofs.SlLaysZ.n6 Tryz.prog Tryz.sorted165_ren := {
  mixed := by kernel_rfl
  f6 := ⟨Tryz.f165.name, by decide, Tryz.func165.trans (congrArg some (by kernel_rfl))⟩
  f8 := ⟨Tryz.f197.name, by decide, Tryz.func197.trans (congrArg some (by kernel_rfl))⟩
  f11 := ⟨Tryz.f215.name, by decide, Tryz.func215.trans (congrArg some (by kernel_rfl))⟩
  t0 := Tryz.underlying0
  a0 := Tryz.isAgg0
  z0 := Tryz.sizeOf0
  v0 := Tryz.zeroValue0
  t24 := Tryz.underlying63
  a24 := Tryz.isAgg63
  z24 := Tryz.sizeOf63
  v24 := Tryz.zeroValue63
  t26 := Tryz.underlying9
  a26 := Tryz.isAgg9
  z26 := Tryz.sizeOf9
  v26 := Tryz.zeroValue9
  t28 := Tryz.underlying208
  a28 := Tryz.isAgg208
  z28 := Tryz.sizeOf208
  v28 := Tryz.zeroValue208
  i26 := by kernel_rfl }
def Tryz.sort198_ren : Go.Shelf.Ren := ⟨fun | 6 => 198 | 8 => 217 | 9 => 216 | 19 => 231 | 20 => 188 | 21 => 222 | 22 => 223 | 23 => 224 | 24 => 225 | 25 => 226 | 26 => 227 | 27 => 228 | 28 => 229 | 29 => 230 | 36 => 232 | 31 => 233 | 32 => 234 | 37 => 235 | 38 => 236 | 39 => 237 | 41 => 238 | n => n, fun | 27 => 63 | 29 => 9 | 3 => 3 | 32 => 214 | 26 => 63 | 0 => 0 | 44 => 232 | 46 => 193 | 4 => 4 | 36 => 264 | 35 => 263 | 41 => 110 | 5 => 5 | 9 => 9 | 53 => 269 | 57 => 273 | 63 => 275 | 64 => 276 | n => n, fun | n => n⟩
theorem Tryz.sort198 : Go.Proofs.SlLaysM.n6 Tryz.prog Tryz.sort198_ren := {
  mixed := by kernel_rfl
  f6 := ⟨Tryz.f198.name, by decide, Tryz.func198.trans (congrArg some (by kernel_rfl))⟩
  f8 := Tryz.func217.trans (congrArg some (by kernel_rfl))
  f9 := ⟨Tryz.f216.name, by decide, Tryz.func216.trans (congrArg some (by kernel_rfl))⟩
  f19 := Tryz.func231.trans (congrArg some (by kernel_rfl))
  f20 := Tryz.func188.trans (congrArg some (by kernel_rfl))
  f21 := ⟨Tryz.f222.name, by decide, Tryz.func222.trans (congrArg some (by kernel_rfl))⟩
  f22 := ⟨Tryz.f223.name, by decide, Tryz.func223.trans (congrArg some (by kernel_rfl))⟩
  f23 := ⟨Tryz.f224.name, by decide, Tryz.func224.trans (congrArg some (by kernel_rfl))⟩
  f24 := ⟨Tryz.f225.name, by decide, Tryz.func225.trans (congrArg some (by kernel_rfl))⟩
  f25 := ⟨Tryz.f226.name, by decide, Tryz.func226.trans (congrArg some (by kernel_rfl))⟩
  f26 := ⟨Tryz.f227.name, by decide, Tryz.func227.trans (congrArg some (by kernel_rfl))⟩
  f27 := ⟨Tryz.f228.name, by decide, Tryz.func228.trans (congrArg some (by kernel_rfl))⟩
  f28 := ⟨Tryz.f229.name, by decide, Tryz.func229.trans (congrArg some (by kernel_rfl))⟩
  f29 := ⟨Tryz.f230.name, by decide, Tryz.func230.trans (congrArg some (by kernel_rfl))⟩
  f31 := Tryz.func233.trans (congrArg some (by kernel_rfl))
  f32 := Tryz.func234.trans (congrArg some (by kernel_rfl))
  f36 := ⟨Tryz.f232.name, by decide, Tryz.func232.trans (congrArg some (by kernel_rfl))⟩
  f37 := ⟨Tryz.f235.name, by decide, Tryz.func235.trans (congrArg some (by kernel_rfl))⟩
  f38 := ⟨Tryz.f236.name, by decide, Tryz.func236.trans (congrArg some (by kernel_rfl))⟩
  f39 := ⟨Tryz.f237.name, by decide, Tryz.func237.trans (congrArg some (by kernel_rfl))⟩
  f41 := ⟨Tryz.f238.name, by decide, Tryz.func238.trans (congrArg some (by kernel_rfl))⟩
  t0 := Tryz.underlying0
  a0 := Tryz.isAgg0
  z0 := Tryz.sizeOf0
  v0 := Tryz.zeroValue0
  t3 := Tryz.underlying3
  a3 := Tryz.isAgg3
  z3 := Tryz.sizeOf3
  v3 := Tryz.zeroValue3
  t4 := Tryz.underlying4
  a4 := Tryz.isAgg4
  z4 := Tryz.sizeOf4
  v4 := Tryz.zeroValue4
  t5 := Tryz.underlying5
  a5 := Tryz.isAgg5
  z5 := Tryz.sizeOf5
  v5 := Tryz.zeroValue5
  t9 := Tryz.underlying9
  a9 := Tryz.isAgg9
  z9 := Tryz.sizeOf9
  v9 := Tryz.zeroValue9
  t26 := Tryz.underlying63
  a26 := Tryz.isAgg63
  z26 := Tryz.sizeOf63
  v26 := Tryz.zeroValue63
  t27 := Tryz.underlying63
  a27 := Tryz.isAgg63
  z27 := Tryz.sizeOf63
  v27 := Tryz.zeroValue63
  t29 := Tryz.underlying9
  a29 := Tryz.isAgg9
  z29 := Tryz.sizeOf9
  v29 := Tryz.zeroValue9
  t32 := Tryz.underlying214
  a32 := Tryz.isAgg214
  z32 := Tryz.sizeOf214
  v32 := Tryz.zeroValue214
  t35 := Tryz.underlying263
  a35 := Tryz.isAgg263
  z35 := Tryz.sizeOf263
  v35 := Tryz.zeroValue263
  t36 := Tryz.underlying264
  a36 := Tryz.isAgg264
  z36 := Tryz.sizeOf264
  v36 := Tryz.zeroValue264
  t41 := Tryz.underlying110
  a41 := Tryz.isAgg110
  z41 := Tryz.sizeOf110
  v41 := Tryz.zeroValue110
  t44 := Tryz.underlying232
  a44 := Tryz.isAgg232
  z44 := Tryz.sizeOf232
  v44 := Tryz.zeroValue232
  t46 := Tryz.underlying193
  a46 := Tryz.isAgg193
  z46 := Tryz.sizeOf193
  v46 := Tryz.zeroValue193
  t53 := Tryz.underlying269
  a53 := Tryz.isAgg269
  z53 := Tryz.sizeOf269
  v53 := Tryz.zeroValue269
  t57 := Tryz.underlying273
  a57 := Tryz.isAgg273
  z57 := Tryz.sizeOf273
  v57 := Tryz.zeroValue273
  t63 := Tryz.underlying275
  a63 := Tryz.isAgg275
  z63 := Tryz.sizeOf275
  v63 := Tryz.zeroValue275
  t64 := Tryz.underlying276
  a64 := Tryz.isAgg276
  z64 := Tryz.sizeOf276
  v64 := Tryz.zeroValue276 }
open Go.RowKit Go.Maps Go.Sort
theorem Tryz.sorts165 (m : Nat) : AnyZ.SortsIn Tryz.prog Tryz.sorted165_ren Fence.wide m :=
  ⟨fun blk off cap ss W hH hblk hsz => callsIn_wide.2 (AnyM.slices_Sort_string Tryz.sort198 blk off cap ss W hH hblk hsz),
   fun p cap W => callsIn_wide.2 (AnyM.slices_Sort_string_none Tryz.sort198 p cap W)⟩
theorem Tryz.maps_Keys_166 (mb : Option Nat) (W : World) : CallsIn Fence.wide 5 Tryz.prog 166 #[.map mb] W fun e w' => e = .returned (.func (.func 199) #[] #[.pointer (some ⟨W.heap.size, 0, none⟩)]) ∧ w' = W.alloc (.cells #[.map mb] 203) :=
  AnyZ.keys_in Tryz.keys166 Fence.wide 5 trivial rfl mb W
set_option maxHeartbeats 1000000 in
theorem Tryz.slices_Sorted_keys_165_166 {H : Type} (b nn : Nat) (D0 : DataW H) (R : Value → Option (DataW H × List MemPlace)) (w : World) (hown : w.ownsMap Tryz.prog 9 R b nn D0) (hmax : Maps.size D0 ≤ maxLen) (hbytes : Maps.size D0 * 16 ≤ 140737488355328) :
    CallsIn Fence.wide 5 Tryz.prog 165 #[.func (.func 199) #[] #[.pointer (some ⟨w.heap.size, 0, none⟩)]] (w.alloc (.cells #[.map (some b)] 203)) fun e w' => ∃ (v : Value) (ss : List (List UInt8)), e = .returned v ∧ ss.Perm (strKeys D0) ∧
      w'.ownsRow (w.alloc (.cells #[.map (some b)] 203)).heap.size 9 1 v ss.length ((ss.mergeSort (fun x y => decide (x ≤ y))).map encStr) ∧ (v = .slice none 0 0 ↔ ss = []) ∧ Below (w.alloc (.cells #[.map (some b)] 203)).heap.size (w.alloc (.cells #[.map (some b)] 203)) w' := by
  have hbl := hown.lt
  have hseq : SeqGives Fence.wide 2 Tryz.prog 199 #[.pointer (some ⟨w.heap.size, 0, none⟩)] encStr (fun ss => ss.Perm (strKeys D0)) (Maps.size D0) (w.alloc (.cells #[.map (some b)] 203)) :=
    AnyZ.keys_gives (ρ := Tryz.keys166_ren) { Tryz.keys166 with } Fence.wide _ trivial rfl (by omega) w.heap.size b nn D0 _ (by simp) (by simp) (by
      obtain ⟨es, clock, hb, Ft, hs, hD⟩ := hown
      exact ⟨es, clock, (Below.heap_alloc _ _ b hbl).trans hb, Ft, hs, hD⟩)
  exact AnyZ.sorted_in Tryz.sorted165 Fence.wide 5 trivial trivial trivial trivial rfl (by omega) (Tryz.sorts165 _) (enters_of Tryz.func198 (by kernel_rfl) rfl) 199 #[.pointer (some ⟨w.heap.size, 0, none⟩)] trivial (enters_of Tryz.func199 (by kernel_rfl) rfl) _ _ hmax hbytes _ hseq
end Go.Proofs
