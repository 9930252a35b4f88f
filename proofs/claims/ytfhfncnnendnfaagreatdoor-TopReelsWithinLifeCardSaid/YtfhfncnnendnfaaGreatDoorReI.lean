/- What all reels of a feeder have left: the program's and the reference's sums. Conditions: at most 1000 reels of at most 100000 components. · What lies in a feeder: the program's and the reference's rows. Conditions: at most 1000 reels. -/
import Derived.Test.YtfhfncnnendnfaaGreatDoorReC
import Derived.Test.YtfhfncnnendnfaaGreatDoorReD
import Derived.Test.YtfhfncnnendnfaaGreatDoorReF
namespace Go.Proofs.YtfhfncnnendnfaaGreatDoor
open Go.RowKit Go.Sort Go.Maps

/-- rows by names, with their headers. -/
abbrev Fds := Sm (Hdr × List ByteArray)
def Fds.hd (F : Fds) : Sm Hdr := F.map fun p => (p.1, p.2.1)
def rowO (F : Fds) (k : ByteArray) : List ByteArray := match F.get k.data.toList with
  | some p => p.2
  | none => []
theorem Fds.get_hd (k : Bs) : ∀ F : Fds, F.hd.get k = (F.get k).map (·.1)
  | [] => rfl
  | p :: F => by
    show (if p.1 = k then _ else _) = _
    by_cases h : p.1 = k
    · rw [if_pos h, Sm.get, if_pos h]; rfl
    · rw [if_neg h, Sm.get, if_neg h]; exact Fds.get_hd k F
def lfO (R : Sm Rel) (x : ByteArray) : Int := ((R.get x.data.toList).getD TMr.z).2.2
def sumO (R : Sm Rel) : List ByteArray → Int
  | [] => 0
  | x :: r => lfO R x + sumO R r
theorem sumO_snoc (R : Sm Rel) (x : ByteArray) : ∀ l : List ByteArray, sumO R (l ++ [x]) = sumO R l + lfO R x
  | [] => by simp [sumO]
  | y :: l => by show lfO R y + sumO R (l ++ [x]) = lfO R y + sumO R l + _; rw [sumO_snoc R x l]; omega
theorem sumO_bound {R : Sm Rel} (h : ∀ x, 0 ≤ lfO R x ∧ lfO R x ≤ 100000) : ∀ l : List ByteArray, 0 ≤ sumO R l ∧ sumO R l ≤ 100000 * l.length
  | [] => by simp [sumO]
  | y :: l => by
    have h1 := h y
    have h2 := sumO_bound h l
    show 0 ≤ lfO R y + sumO R l ∧ lfO R y + sumO R l ≤ 100000 * ((l.length + 1 : Nat) : Int)
    omega
theorem rowO_look {w : World} {b B : Nat} {F : Fds} (hF : MapS TMh w b F.hd) (hrows : ∀ p ∈ F, OwnO w B (hdrV p.2.1) p.2.2) (f : ByteArray) (hf : f.size ≤ maxLen) :
    ∃ v, (Instr.lookup 58 (.map (some b)) (.string f) false).run Tryz.prog w = .ok v w ∧ OwnO w B v (rowO F f) := by
  refine ⟨_, hF.look TMh.ok f hf, ?_⟩
  rw [Fds.get_hd]
  unfold rowO
  cases hg : F.get f.data.toList with
  | none => exact .inl ⟨rfl, rfl⟩
  | some p => exact hrows _ (Sm.get_mem hg)
set_option maxHeartbeats 4000000 in
set_option maxRecDepth 100000 in
theorem left_any (S m0 m1 m2 m3 m4 B : Nat) (f : ByteArray) (w : World) (R : Sm Rel) (F : Fds) (hb : w.heap[S]? = some (.cells #[.map (some m0), .map (some m1), .map (some m2), .map (some m3), .map (some m4)] 62 (0, 0)))
    (hR : MapS TMr w m0 R) (hF : MapS TMh w m2 F.hd) (hrows : ∀ p ∈ F, OwnO w B (hdrV p.2.1) p.2.2) (hf : f.size ≤ maxLen) (hn : ∀ x ∈ rowO F f, x.size ≤ maxLen) (hlen : (rowO F f).length ≤ 1000) (hlf : ∀ x, 0 ≤ lfO R x ∧ lfO R x ≤ 100000) :
    Calls Tryz.prog 70 #[.pointer (some ⟨S, 0, none⟩), .string f] w fun e w' => e = .returned (.int .i64 (sumO R (rowO F f))) ∧ w = w' := by
  have c0 := blk_cell hb 0
  have c2 := blk_cell hb 2
  simp at c0 c2
  obtain ⟨v, hlk, hO⟩ := rowO_look hF hrows f hf
  obtain ⟨l, hl⟩ : ∃ l, l = rowO F f := ⟨_, rfl⟩
  rw [← hl] at hO hn hlen ⊢
  obtain ⟨a, cap, rfl, _, _⟩ := hO.form
  have HO := Lib.hid hO
  have HR := Lib.hid hR
  have HN := Lib.hid hn
  have HLF := Lib.hid hlf
  clear hb hR hF hrows hl hO hn hlf
  go_enter Tryz.func70, Tryz.ntmps70
  go_wp2_with fail
  go_loopw [5, 15] (fun n i wr => ∃ k : Nat, k ≤ l.length ∧ i = .int .i64 k ∧ n = .int .i64 (sumO R (l.take k)) ∧ w = wr) (fun _ i _ => l.length - (intOf i).toNat)
  case atStart => exact ⟨0, Nat.zero_le _, rfl, rfl, rfl⟩
  case round =>
    obtain ⟨k, hk, rfl, rfl, rfl⟩ := hrel
    by_cases hlt : k < l.length
    case neg =>
      obtain rfl : k = l.length := by omega
      rw [List.take_length]
      go_wp2
      go_ret
      exact ⟨rfl, rfl⟩
    obtain ⟨x, hx⟩ : ∃ x, l[k]? = some x := ⟨_, List.getElem?_eq_getElem hlt⟩
    obtain ⟨g, o, cap', hv, d0⟩ := HO.out.at hx
    injection hv with e1 e2 e3
    subst e1 e3
    have hlr := HR.out.look TMr.ok x (HN.out x (List.mem_of_getElem? hx))
    obtain ⟨q, hq⟩ : ∃ q, q = (R.get x.data.toList).getD TMr.z := ⟨_, rfl⟩
    rw [← hq] at hlr
    have hqv : q.2.2 = lfO R x := by rw [hq]; rfl
    have hs : sumO R (l.take (k + 1)) = sumO R (l.take k) + q.2.2 := by rw [List.take_add_one, hx, Option.toList_some, sumO_snoc, hqv]
    have h1 := HLF.out x
    rw [← hqv] at h1
    have h2 := sumO_bound HLF.out (l.take k)
    rw [List.length_take] at h2
    obtain ⟨n0, hn0⟩ : ∃ n0, n0 = sumO R (l.take k) := ⟨_, rfl⟩
    rw [← hn0] at hs h2
    rw [← hn0]
    obtain ⟨qk, qp, qn⟩ := q
    have HS := Lib.hid hs
    have hlr2 : (Instr.lookup 56 (.map (some m0)) (.string x) false).run Tryz.prog w = .ok (.agg #[.string qk, .string qp, .int .i64 qn]) w := hlr
    have hfi : (Instr.field 35 (.agg #[.string qk, .string qp, .int .i64 qn]) 2).run Tryz.prog w = .ok (.int .i64 qn) w := rfl
    have hw1 : IntKind.i64.wrap (n0 + qn) = n0 + qn := IntWalk.i64_in _ (by simp only at h1; omega)
    have hw2 : IntKind.i64.wrap ((k : Int) + 1) = ((k + 1 : Nat) : Int) := by rw [IntWalk.i64_in _ (by omega)]; omega
    clear hx hlr hq hqv hs h1 h2 hn0
    go_wp2
    go_roundw
    case rel => exact ⟨k + 1, by omega, by go_num, by rw [HS.out], trivial⟩
    case measure => simp [intOf]; omega
theorem sumO_L (R : Sm Rel) : ∀ l : List ByteArray, sumO R l = sumL (lfO R) l
  | [] => rfl
  | x :: l => by show lfO R x + sumO R l = lfO R x + sumL (lfO R) l; rw [sumO_L R l]
theorem sumL_snoc (left : Lf) (x : ByteArray) : ∀ l : List ByteArray, sumL left (l ++ [x]) = sumL left l + left x
  | [] => by simp [sumL]
  | y :: l => by show left y + sumL left (l ++ [x]) = left y + sumL left l + _; rw [sumL_snoc left x l]; omega
theorem sumL_bound {left : Lf} (h : ∀ x, 0 ≤ left x ∧ left x ≤ 100000) : ∀ l : List ByteArray, 0 ≤ sumL left l ∧ sumL left l ≤ 100000 * l.length
  | [] => by simp [sumL]
  | y :: l => by
    have h1 := h y
    have h2 := sumL_bound h l
    show 0 ≤ left y + sumL left l ∧ left y + sumL left l ≤ 100000 * ((l.length + 1 : Nat) : Int)
    omega
def lfI (L : Sm Int) : Lf := fun x => (L.get x.data.toList).getD 0
end Go.Proofs.YtfhfncnnendnfaaGreatDoor
namespace Go.Proofs.YtfhfncnnendnfaaGreatDoor
open Go.RowKit Go.Sort Go.Maps

/-- what a feeder has: reel, what it has left. -/
abbrev Ldd := ByteArray × Int
def loadL (left : Lf) (l : List ByteArray) : List Ldd := l.map fun x => (x, left x)
end Go.Proofs.YtfhfncnnendnfaaGreatDoor
