/- Texts of the proof of a law, put together, part 27 of 46. Conditions: none beyond those that each theorem names. -/
import Derived.Test.YtilhonppgedoiaaGreatDoorFz9
import Derived.Test.YtilhonppgedoiaaGreatDoorFz26
namespace Go.Proofs.YtilhonppgedoiaaGreatDoor
open Go.RowKit Go.Sort Go.Maps
/-- rows by names, with their headers. -/
abbrev Fds := Sm (Hdr × List ByteArray)
def Fds.hd (F : Fds) : Sm Hdr := F.map fun p => (p.1, p.2.1)
def rowO (F : Fds) (k : ByteArray) : List ByteArray := match F.get k.data.toList with
  | some p => p.2
  | none => []
theorem Fds.get_hd (k : Bs) : ∀ F : Fds, F.hd.get k = (F.get k).map (·.1)
  | [] => rfl
  | p :: F => by
    show (if p.1 = k then _ else _) = _
    by_cases h : p.1 = k
    · rw [if_pos h, Sm.get, if_pos h]; rfl
    · rw [if_neg h, Sm.get, if_neg h]; exact Fds.get_hd k F
def lfO (R : Sm Rel) (x : ByteArray) : Int := ((R.get x.data.toList).getD TMr.z).2.2
def sumO (R : Sm Rel) : List ByteArray → Int
  | [] => 0
  | x :: r => lfO R x + sumO R r
theorem sumO_snoc (R : Sm Rel) (x : ByteArray) : ∀ l : List ByteArray, sumO R (l ++ [x]) = sumO R l + lfO R x
  | [] => by simp [sumO]
  | y :: l => by show lfO R y + sumO R (l ++ [x]) = lfO R y + sumO R l + _; rw [sumO_snoc R x l]; omega
theorem sumO_bound {R : Sm Rel} (h : ∀ x, 0 ≤ lfO R x ∧ lfO R x ≤ 100000) : ∀ l : List ByteArray, 0 ≤ sumO R l ∧ sumO R l ≤ 100000 * l.length
  | [] => by simp [sumO]
  | y :: l => by
    have h1 := h y
    have h2 := sumO_bound h l
    show 0 ≤ lfO R y + sumO R l ∧ lfO R y + sumO R l ≤ 100000 * ((l.length + 1 : Nat) : Int)
    omega
theorem rowO_look {w : World} {b B : Nat} {F : Fds} (hF : MapS TMh w b F.hd) (hrows : ∀ p ∈ F, OwnO w B (hdrV p.2.1) p.2.2) (f : ByteArray) (hf : f.size ≤ maxLen) :
    ∃ v, (Instr.lookup 180 (.map (some b)) (.string f) false).run Tryz.prog w = .ok v w ∧ OwnO w B v (rowO F f) := by
  refine ⟨_, hF.look TMh.ok f hf, ?_⟩
  rw [Fds.get_hd]
  unfold rowO
  cases hg : F.get f.data.toList with
  | none => exact .inl ⟨rfl, rfl⟩
  | some p => exact hrows _ (Sm.get_mem hg)
set_option maxHeartbeats 4000000 in
set_option maxRecDepth 100000 in
theorem left_any (S m0 m1 m2 m3 m4 B : Nat) (f : ByteArray) (w : World) (R : Sm Rel) (F : Fds) (hb : w.heap[S]? = some (.cells #[.map (some m0), .map (some m1), .map (some m2), .map (some m3), .map (some m4)] 183 (0, 0)))
    (hR : MapS TMr w m0 R) (hF : MapS TMh w m2 F.hd) (hrows : ∀ p ∈ F, OwnO w B (hdrV p.2.1) p.2.2) (hf : f.size ≤ maxLen) (hn : ∀ x ∈ rowO F f, x.size ≤ maxLen) (hlen : (rowO F f).length ≤ 1000) (hlf : ∀ x, 0 ≤ lfO R x ∧ lfO R x ≤ 100000) :
    Calls Tryz.prog 174 #[.pointer (some ⟨S, 0, none⟩), .string f] w fun e w' => e = .returned (.int .i64 (sumO R (rowO F f))) ∧ w = w' := by
  have c0 := blk_cell hb 0
  have c2 := blk_cell hb 2
  simp at c0 c2
  obtain ⟨v, hlk, hO⟩ := rowO_look hF hrows f hf
  obtain ⟨l, hl⟩ : ∃ l, l = rowO F f := ⟨_, rfl⟩
  rw [← hl] at hO hn hlen ⊢
  obtain ⟨a, cap, rfl, _, _⟩ := hO.form
  have HO := Lib.hid hO
  have HR := Lib.hid hR
  have HN := Lib.hid hn
  have HLF := Lib.hid hlf
  clear hb hR hF hrows hl hO hn hlf
  go_enter Tryz.func174, Tryz.ntmps174
  go_wp2_with fail
  go_loopw [5, 15] (fun n i wr => ∃ k : Nat, k ≤ l.length ∧ i = .int .i64 k ∧ n = .int .i64 (sumO R (l.take k)) ∧ w = wr) (fun _ i _ => l.length - (intOf i).toNat)
  case atStart => exact ⟨0, Nat.zero_le _, rfl, rfl, rfl⟩
  case round =>
    obtain ⟨k, hk, rfl, rfl, rfl⟩ := hrel
    by_cases hlt : k < l.length
    case neg =>
      obtain rfl : k = l.length := by omega
      rw [List.take_length]
      go_wp2
      go_ret
      exact ⟨rfl, rfl⟩
    obtain ⟨x, hx⟩ : ∃ x, l[k]? = some x := ⟨_, List.getElem?_eq_getElem hlt⟩
    obtain ⟨g, o, cap', hv, d0⟩ := HO.out.at hx
    injection hv with e1 e2 e3
    subst e1 e3
    have hlr := HR.out.look TMr.ok x (HN.out x (List.mem_of_getElem? hx))
    obtain ⟨q, hq⟩ : ∃ q, q = (R.get x.data.toList).getD TMr.z := ⟨_, rfl⟩
    rw [← hq] at hlr
    have hqv : q.2.2 = lfO R x := by rw [hq]; rfl
    have hs : sumO R (l.take (k + 1)) = sumO R (l.take k) + q.2.2 := by rw [List.take_add_one, hx, Option.toList_some, sumO_snoc, hqv]
    have h1 := HLF.out x
    rw [← hqv] at h1
    have h2 := sumO_bound HLF.out (l.take k)
    rw [List.length_take] at h2
    obtain ⟨n0, hn0⟩ : ∃ n0, n0 = sumO R (l.take k) := ⟨_, rfl⟩
    rw [← hn0] at hs h2
    rw [← hn0]
    obtain ⟨qk, qp, qn⟩ := q
    have HS := Lib.hid hs
    have hlr2 : (Instr.lookup 178 (.map (some m0)) (.string x) false).run Tryz.prog w = .ok (.agg #[.string qk, .string qp, .int .i64 qn]) w := hlr
    have hfi : (Instr.field 90 (.agg #[.string qk, .string qp, .int .i64 qn]) 2).run Tryz.prog w = .ok (.int .i64 qn) w := rfl
    have hw1 : IntKind.i64.wrap (n0 + qn) = n0 + qn := IntWalk.i64_in _ (by simp only at h1; omega)
    have hw2 : IntKind.i64.wrap ((k : Int) + 1) = ((k + 1 : Nat) : Int) := by rw [IntWalk.i64_in _ (by omega)]; omega
    clear hx hlr hq hqv hs h1 h2 hn0
    go_wp2
    go_roundw
    case rel => exact ⟨k + 1, by omega, by go_num, by rw [HS.out], trivial⟩
    case measure => simp [intOf]; omega
theorem sumO_L (R : Sm Rel) : ∀ l : List ByteArray, sumO R l = sumL (lfO R) l
  | [] => rfl
  | x :: l => by show lfO R x + sumO R l = lfO R x + sumL (lfO R) l; rw [sumO_L R l]
theorem sumL_snoc (left : Lf) (x : ByteArray) : ∀ l : List ByteArray, sumL left (l ++ [x]) = sumL left l + left x
  | [] => by simp [sumL]
  | y :: l => by show left y + sumL left (l ++ [x]) = left y + sumL left l + _; rw [sumL_snoc left x l]; omega
theorem sumL_bound {left : Lf} (h : ∀ x, 0 ≤ left x ∧ left x ≤ 100000) : ∀ l : List ByteArray, 0 ≤ sumL left l ∧ sumL left l ≤ 100000 * l.length
  | [] => by simp [sumL]
  | y :: l => by
    have h1 := h y
    have h2 := sumL_bound h l
    show 0 ≤ left y + sumL left l ∧ left y + sumL left l ≤ 100000 * ((l.length + 1 : Nat) : Int)
    omega
def lfI (L : Sm Int) : Lf := fun x => (L.get x.data.toList).getD 0
set_option maxHeartbeats 4000000 in
set_option maxRecDepth 100000 in
theorem rsum_any (S m1 m2 B : Nat) (f : ByteArray) (w : World) (L : Sm Int) (F : Fds) (h1' : w.cell? ⟨S, 1, none⟩ = some (.map (some m1))) (h2' : w.cell? ⟨S, 2, none⟩ = some (.map (some m2)))
    (hR : MapS TMi w m1 L) (hF : MapS TMh w m2 F.hd) (hrows : ∀ p ∈ F, OwnO w B (hdrV p.2.1) p.2.2) (hf : f.size ≤ maxLen) (hn : ∀ x ∈ rowO F f, x.size ≤ maxLen) (hlen : (rowO F f).length ≤ 1000) (hlf : ∀ x, 0 ≤ lfI L x ∧ lfI L x ≤ 100000) :
    Calls Tryz.prog 178 #[.pointer (some ⟨S, 0, none⟩), .string f] w fun e w' => e = .returned (.int .i64 (sumL (lfI L) (rowO F f))) ∧ w = w' := by
  obtain ⟨v, hlk, hO⟩ := rowO_look hF hrows f hf
  obtain ⟨l, hl⟩ : ∃ l, l = rowO F f := ⟨_, rfl⟩
  rw [← hl] at hO hn hlen ⊢
  obtain ⟨a, cap, rfl, _, _⟩ := hO.form
  have HO := Lib.hid hO
  have HR := Lib.hid hR
  have HN := Lib.hid hn
  have HLF := Lib.hid hlf
  clear hR hF hrows hl hO hn hlf
  go_enter Tryz.func178, Tryz.ntmps178
  go_wp2_with fail
  go_loopw [5, 15] (fun n i wr => ∃ k : Nat, k ≤ l.length ∧ i = .int .i64 k ∧ n = .int .i64 (sumL (lfI L) (l.take k)) ∧ w = wr) (fun _ i _ => l.length - (intOf i).toNat)
  case atStart => exact ⟨0, Nat.zero_le _, rfl, rfl, rfl⟩
  case round =>
    obtain ⟨k, hk, rfl, rfl, rfl⟩ := hrel
    by_cases hlt : k < l.length
    case neg =>
      obtain rfl : k = l.length := by omega
      rw [List.take_length]
      go_wp2
      go_ret
      exact ⟨rfl, rfl⟩
    obtain ⟨x, hx⟩ : ∃ x, l[k]? = some x := ⟨_, List.getElem?_eq_getElem hlt⟩
    obtain ⟨g, o, cap', hv, d0⟩ := HO.out.at hx
    injection hv with e1 e2 e3
    subst e1 e3
    have hlr := HR.out.look TMi.ok x (HN.out x (List.mem_of_getElem? hx))
    obtain ⟨qn, hq⟩ : ∃ q, q = lfI L x := ⟨_, rfl⟩
    have hs : sumL (lfI L) (l.take (k + 1)) = sumL (lfI L) (l.take k) + qn := by rw [List.take_add_one, hx, Option.toList_some, sumL_snoc, hq]
    have h1 := HLF.out x
    rw [← hq] at h1
    have h2 := sumL_bound HLF.out (l.take k)
    rw [List.length_take] at h2
    obtain ⟨n0, hn0⟩ : ∃ n0, n0 = sumL (lfI L) (l.take k) := ⟨_, rfl⟩
    rw [← hn0] at hs h2
    rw [← hn0]
    have HS := Lib.hid hs
    have hlr2 : (Instr.lookup 149 (.map (some m1)) (.string x) false).run Tryz.prog w = .ok (.int .i64 qn) w := by rw [hq]; exact hlr
    have hw1 : IntKind.i64.wrap (n0 + qn) = n0 + qn := IntWalk.i64_in _ (by omega)
    have hw2 : IntKind.i64.wrap ((k : Int) + 1) = ((k + 1 : Nat) : Int) := by rw [IntWalk.i64_in _ (by omega)]; omega
    clear hx hlr hq hs h1 h2 hn0
    go_wp2
    go_roundw
    case rel => exact ⟨k + 1, by omega, by go_num, by rw [HS.out], trivial⟩
    case measure => simp [intOf]; omega
end Go.Proofs.YtilhonppgedoiaaGreatDoor
namespace Go.Proofs.YtilhonppgedoiaaGreatDoor
open Go.RowKit Go.Sort Go.Maps
/-- what a feeder has: reel, what it has left. -/
abbrev Ldd := ByteArray × Int
def TLo : Rty Ldd := { e := 119, S := 114, k := 2, b := 24, z := .agg #[.string ByteArray.empty, .int .i64 0], f := fun x => [.string x.1, .int .i64 x.2] }
theorem TLo.ok : TLo.Ok := ⟨by kernel_rfl, Tryz.underlying114, rfl, by decide, fun _ => rfl, fun x u hu => by simp [TLo] at hu; rcases hu with rfl | rfl <;> rfl, by decide⟩
def loadL (left : Lf) (l : List ByteArray) : List Ldd := l.map fun x => (x, left x)
set_option maxHeartbeats 4000000 in
set_option maxRecDepth 100000 in
theorem Loaded_any (S m0 m1 m2 m3 m4 B : Nat) (f : ByteArray) (w : World) (R : Sm Rel) (F : Fds) (hb : w.heap[S]? = some (.cells #[.map (some m0), .map (some m1), .map (some m2), .map (some m3), .map (some m4)] 183 (0, 0))) (hR : MapS TMr w m0 R) (hF : MapS TMh w m2 F.hd) (hrows : ∀ p ∈ F, OwnO w B (hdrV p.2.1) p.2.2) (hf : f.size ≤ maxLen) (hn : ∀ x ∈ rowO F f, x.size ≤ maxLen) (hlen : (rowO F f).length ≤ 1000) :
    Calls Tryz.prog 111 #[.pointer (some ⟨S, 0, none⟩), .string f] w fun e w' => (∃ v, e = .returned v ∧ OwnR TLo w' w.heap.size v (loadL (lfO R) (rowO F f))) ∧ Below w.heap.size w w' := by
  have HC := Lib.hid (show ∀ W, Below w.heap.size w W → W.cell? ⟨S, 0, none⟩ = some (.map (some m0)) ∧ W.cell? ⟨S, 2, none⟩ = some (.map (some m2)) from fun W hW => by
    have h := blk_below hb hW
    exact ⟨blk_cell h 0, blk_cell h 2⟩)
  obtain ⟨v, hlk, hO⟩ := rowO_look hF hrows f hf
  obtain ⟨l, hl⟩ : ∃ l, l = rowO F f := ⟨_, rfl⟩
  rw [← hl] at hO hn hlen ⊢
  obtain ⟨a, cap, rfl, _, _⟩ := hO.form
  obtain ⟨c0, c2⟩ := HC.out w (Below.refl _ _)
  have HO := Lib.hid hO
  have HR := Lib.hid hR
  have HN := Lib.hid hn
  clear hb hR hF hrows hl hO hn
  go_enter Tryz.func111, Tryz.ntmps111
  go_wp2_with fail
  go_loopw [5, 15] (fun v5 i wr => ∃ k : Nat, k ≤ l.length ∧ i = .int .i64 k ∧ Hid (OwnR TLo wr w.heap.size v5 (loadL (lfO R) (l.take k))) ∧ Hid (Below w.heap.size w wr)) (fun _ i _ => l.length - (intOf i).toNat)
  case atStart => exact ⟨0, Nat.zero_le _, rfl, Lib.hid (OwnR.nil _ _), Lib.hid (Below.refl _ _)⟩
  case round =>
    obtain ⟨k, hk, rfl, hA, HB⟩ := hrel
    obtain ⟨oa, ocap, rfl, _, _⟩ := hA.out.form
    by_cases hlt : k < l.length
    case neg =>
      obtain rfl : k = l.length := by omega
      rw [List.take_length] at hA
      rw [List.take_length]
      go_wp2
      go_ret
      exact ⟨⟨_, rfl, hA.out⟩, HB.out⟩
    clear c0 c2 hlk
    obtain ⟨c0, c2⟩ := HC.out wr HB.out
    obtain ⟨x, hx⟩ : ∃ x, l[k]? = some x := ⟨_, List.getElem?_eq_getElem hlt⟩
    obtain ⟨g, o, cap', hv, d0⟩ := (HO.out.below HB.out).at hx
    injection hv with e1 e2 e3
    subst e1 e3
    have hlr := (HR.out.below HB.out).look TMr.ok x (HN.out x (List.mem_of_getElem? hx))
    obtain ⟨q, hq⟩ : ∃ q, q = (R.get x.data.toList).getD TMr.z := ⟨_, rfl⟩
    rw [← hq] at hlr
    have hqv : q.2.2 = lfO R x := by rw [hq]; rfl
    obtain ⟨qk, qp, qn⟩ := q
    have hlr2 : (Instr.lookup 178 (.map (some m0)) (.string x) false).run Tryz.prog wr = .ok (.agg #[.string qk, .string qp, .int .i64 qn]) wr := hlr
    have hfi : ∀ W, (Instr.field 90 (.agg #[.string qk, .string qp, .int .i64 qn]) 2).run Tryz.prog W = .ok (.int .i64 qn) W := fun _ => rfl
    have hqv2 : qn = lfO R x := hqv
    have HS : Hid (loadL (lfO R) (l.take (k + 1)) = loadL (lfO R) (l.take k) ++ [(x, qn)]) := Lib.hid (by unfold loadL; rw [List.take_add_one, hx, Option.toList_some, List.map_append, hqv2]; rfl)
    have HW2 : Hid (IntKind.i64.wrap ((k : Int) + 1) = ((k + 1 : Nat) : Int)) := Lib.hid (by rw [IntWalk.i64_in _ (by omega)]; omega)
    have hal : (loadL (lfO R) (l.take k)).length ≤ 1000000 := by unfold loadL; rw [List.length_map, List.length_take]; omega
    have hsz := HB.out.size
    clear hx hlr hqv hqv2
    go_wp2_with (at_builtin; refine wp_app_rec TLo.ok rfl _ _ rfl w.heap.size _ (loadL (lfO R) (l.take k)) rfl (hA.out.alloc _) wr.heap.size 1 (x, qn) rfl (blk_new wr _) rfl hal (by simp; omega) ?_)
    intro v9 w9 hO9 hA9 hb9
    have HO9 := Lib.hid hO9
    have HB9 := Lib.hid ((Bl.alloc HB.out _).trans hb9)
    clear hO9 hA9 hb9 d0
    have hw2 := HW2.out
    go_wp2
    go_roundw
    case rel => exact ⟨k + 1, by omega, by go_num, Lib.hid (by rw [HS.out]; exact HO9.out), HB9⟩
    case measure => simp [intOf]; omega
end Go.Proofs.YtilhonppgedoiaaGreatDoor
