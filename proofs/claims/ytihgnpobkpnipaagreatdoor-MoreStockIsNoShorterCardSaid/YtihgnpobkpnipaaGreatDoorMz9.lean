/- Texts of the proof of a law, put together, part 9 of 35. Conditions: none beyond those that each theorem names. -/
import Derived.Test.YtihgnpobkpnipaaGreatDoorMz3
import Derived.Test.YtihgnpobkpnipaaGreatDoorMz4
import Derived.Test.YtihgnpobkpnipaaGreatDoorMz6
import Derived.Test.YtihgnpobkpnipaaGreatDoorMz7
import Derived.Test.YtihgnpobkpnipaaGreatDoorMz8
import Derived.Deep.RegionWith
namespace Go.Proofs.YtihgnpobkpnipaaGreatDoor
open Go.RowKit Go.Sort Go.Maps
/-- a part and how many of it, as they are written. -/
abbrev Stk := ByteArray × ByteArray
def stkN (s : ByteArray) : Int := (numT 7 s.data.toList).getD 0
def stkG (s : ByteArray) : Bool := (numT 7 s.data.toList).isSome && inB 0 (stkN s) 1000000
def stkO (prev : Option ByteArray) (t : ByteArray) : Int := match prev with
  | none => 0
  | some p => if blePt t p = true then 7 else 0
/-- what is wrong with one behind another one. -/
def stkF (ps : List Prt) (prev : Option ByteArray) (x : Stk) : Int := if hasP ps x.1 = false then 8 else if stkG x.2 = false then 9 else stkO prev x.1
def stksF1 (ps : List Prt) : Option ByteArray → List Stk → Int
  | _, [] => 0
  | p, x :: l => if stkF ps p x = 0 then stksF1 ps (some x.1) l else stkF ps p x
def stksF (ps : List Prt) (l : List Stk) : Int := stksF1 ps none l
def prvK (l : List Stk) : Nat → Option ByteArray
  | 0 => none
  | k + 1 => (l[k]?).map (·.1)
theorem stksF1_go {ps : List Prt} {l : List Stk} {k : Nat} {x : Stk} (hx : l[k]? = some x) (h : stkF ps (prvK l k) x = 0) : stksF1 ps (prvK l k) (l.drop k) = stksF1 ps (prvK l (k + 1)) (l.drop (k + 1)) := by
  obtain ⟨hk, e⟩ := List.getElem?_eq_some_iff.1 hx
  rw [List.drop_eq_getElem_cons hk, e, stksF1, if_pos h]
  show _ = stksF1 ps ((l[k]?).map (·.1)) _
  rw [hx]; rfl
theorem stksF1_stop {ps : List Prt} {l : List Stk} {k : Nat} {x : Stk} (hx : l[k]? = some x) (h : stkF ps (prvK l k) x ≠ 0) : stksF1 ps (prvK l k) (l.drop k) = stkF ps (prvK l k) x := by
  obtain ⟨hk, e⟩ := List.getElem?_eq_some_iff.1 hx
  rw [List.drop_eq_getElem_cons hk, e, stksF1, if_neg h]
theorem stkF_zero {ps : List Prt} {p : Option ByteArray} {x : Stk} (h : stkF ps p x = 0) : hasP ps x.1 = true ∧ stkG x.2 = true ∧ ∀ q, p = some q → Op.bytesLess q.toList x.1.toList = true := by
  unfold stkF at h
  cases h1 : hasP ps x.1
  · rw [if_pos h1] at h; exact absurd h (by decide)
  · rw [if_neg (by rw [h1]; decide)] at h
    cases h2 : stkG x.2
    · rw [if_pos h2] at h; exact absurd h (by decide)
    · rw [if_neg (by rw [h2]; decide)] at h
      refine ⟨rfl, rfl, fun q hq => ?_⟩
      subst hq
      unfold stkO at h
      by_cases h4 : blePt x.1 q = true
      · simp only [h4, if_true] at h; exact absurd h (by decide)
      · have h5 : blePt x.1 q = false := by simpa using h4
        unfold blePt at h5
        rw [Bool.or_eq_false_iff] at h5
        cases hq : Op.bytesLess q.toList x.1.toList
        · have := bl_tot _ _ h5.1 hq
          have h6 := h5.2
          rw [this] at h6
          simp at h6
        · rfl
def keysK (l : List Stk) : List Bs := l.map fun x => bsOf x.1
theorem stksF1_ok {ps : List Prt} : ∀ (l : List Stk) (p : Option ByteArray), stksF1 ps p l = 0 → (∀ q, p = some q → ∀ x ∈ l, Op.bytesLess q.toList x.1.toList = true) ∧ Srt (keysK l) ∧ ∀ x ∈ l, hasP ps x.1 = true ∧ stkG x.2 = true
  | [], _, _ => ⟨fun _ _ _ hx => (List.not_mem_nil hx).elim, List.Pairwise.nil, fun _ hx => (List.not_mem_nil hx).elim⟩
  | x :: l, p, h => by
    rw [stksF1] at h
    by_cases h0 : stkF ps p x = 0
    · rw [if_pos h0] at h
      obtain ⟨g1, g2, g3⟩ := stksF1_ok l _ h
      obtain ⟨z1, z2, z3⟩ := stkF_zero h0
      have hall := g1 x.1 rfl
      refine ⟨fun q hq y hy => ?_, List.Pairwise.cons (fun s hs => ?_) g2, fun y hy => ?_⟩
      · rcases List.mem_cons.1 hy with rfl | hy
        · exact z3 q hq
        · exact bl_trans _ _ _ (z3 q hq) (hall y hy)
      · obtain ⟨y, hy, rfl⟩ := List.mem_map.1 hs
        have := hall y hy
        rw [ByteArray.toList_eq, ByteArray.toList_eq] at this
        exact bl_le _ _ this
      · rcases List.mem_cons.1 hy with rfl | hy
        · exact ⟨z1, z2⟩
        · exact g3 y hy
    · rw [if_neg h0] at h; exact absurd h h0
theorem stksF_ok {ps : List Prt} {l : List Stk} (h : stksF ps l = 0) : Srt (keysK l) ∧ ∀ x ∈ l, hasP ps x.1 = true ∧ stkG x.2 = true := (stksF1_ok l none h).2
theorem stkG_is {s : ByteArray} (h : stkG s = true) : numT 7 s.data.toList = some (stkN s) ∧ 0 ≤ stkN s ∧ stkN s ≤ 1000000 := by
  unfold stkG at h
  rw [Bool.and_eq_true] at h
  obtain ⟨h1, h2⟩ := h
  obtain ⟨n, hn⟩ := Option.isSome_iff_exists.1 h1
  have e : stkN s = n := by unfold stkN; rw [hn]; rfl
  rw [e] at h2 ⊢
  refine ⟨hn, ?_⟩
  unfold inB at h2
  simpa using h2
/-- the map of a stock. -/
def mapK (l : List Stk) : Sm Int := amtM (l.map fun x => (bsOf x.1, stkN x.2)) []
theorem mapK_snoc {l : List Stk} {k : Nat} {x : Stk} (h : l[k]? = some x) : mapK (l.take (k + 1)) = (mapK (l.take k)).put (bsOf x.1) (stkN x.2) := by
  unfold mapK
  rw [List.take_add_one, h, List.map_append]
  exact amtM_snoc _ _ _
theorem mapK_get {l : List Stk} (h : Srt (keysK l)) {x : Stk} (hx : x ∈ l) : (mapK l).get (bsOf x.1) = some (stkN x.2) := by
  unfold mapK
  refine amtM_get _ _ ?_ (List.mem_map.2 ⟨x, hx, rfl⟩)
  rw [List.map_map]
  exact h.nodup
theorem amtM_bd {N : Int} : ∀ (l : List (Bs × Int)) (m : Sm Int), (∀ p ∈ l, 0 ≤ p.2 ∧ p.2 ≤ N) → BdSk N m → BdSk N (amtM l m)
  | [], _, _, h => h
  | p :: r, m, hl, h => by
    refine amtM_bd r (m.put p.1 p.2) (fun q hq => hl q (List.mem_cons_of_mem _ hq)) fun t => ?_
    by_cases e : p.1 = t
    · subst e
      rw [Sm.get_put_same]
      exact hl p (List.mem_cons_self ..)
    · rw [Sm.get_put_other e]; exact h t
theorem mapK_bd {l : List Stk} (h : ∀ x ∈ l, stkG x.2 = true) : BdSk 1000000 (mapK l) := by
  refine amtM_bd _ _ (fun p hp => ?_) fun t => ⟨Int.le_refl _, by show (0 : Int) ≤ _; decide⟩
  obtain ⟨x, hx, rfl⟩ := List.mem_map.1 hp
  exact (stkG_is (h x hx)).2
theorem amtM_len : ∀ (l : List (Bs × Int)) (m : Sm Int), (amtM l m).length ≤ m.length + l.length
  | [], _ => by simp [amtM]
  | p :: r, m => by
    have h1 := amtM_len r (m.put p.1 p.2)
    have h2 := Sm.put_le m p.1 p.2
    show (amtM r (m.put p.1 p.2)).length ≤ _
    rw [List.length_cons]; omega
theorem mapK_len (l : List Stk) : (mapK l).length ≤ l.length := by
  have := amtM_len (l.map fun x => (bsOf x.1, stkN x.2)) []
  rw [List.length_map] at this
  unfold mapK
  simpa using this
/-- what is missing. -/
def needK (l : List Stk) (p : Bs) : Int := ((mapK l).get p).getD 0
def shortK (l : List Alt) (need have_ : List Stk) : List Bs := shortG (nextL l) (needK need) (mapK have_) (keysK need)
/-- the same, step by step. -/
structure ShI (l : List Alt) (nd : Bs → Int) (m0 : Sm Int) (ks : List Bs) (k : Nat) (m : Sm Int) (out : List Bs) : Prop where
  eq : out ++ shortG (nextL l) nd m (ks.drop k) = shortG (nextL l) nd m0 ks
  bd : BdSk 1000000 m
  len : out.length ≤ k
theorem ShI.start {l : List Alt} {nd : Bs → Int} {m0 : Sm Int} {ks : List Bs} (h : BdSk 1000000 m0) : ShI l nd m0 ks 0 m0 [] := ⟨rfl, h, Nat.le_refl _⟩
theorem ShI.step {l : List Alt} {nd : Bs → Int} {m0 m : Sm Int} {ks out : List Bs} {k : Nat} {p : Bs} (h : ShI l nd m0 ks k m out) (hp : ks[k]? = some p) (h0 : 0 ≤ nd p) :
    ShI l nd m0 ks (k + 1) (takeS (nd p) m (p :: nextL l p)).2 (out ++ (if 0 < (takeS (nd p) m (p :: nextL l p)).1 then [p] else [])) := by
  obtain ⟨hk, e⟩ := List.getElem?_eq_some_iff.1 hp
  refine ⟨?_, (takeS_bd _ _ _ h.bd h0).1, ?_⟩
  · rw [← h.eq, List.append_assoc, List.drop_eq_getElem_cons hk, e, shortG]
  · rw [List.length_append]
    have := h.len
    split <;> simp <;> omega
theorem ShI.stop {l : List Alt} {nd : Bs → Int} {m0 m : Sm Int} {ks out : List Bs} {k : Nat} (h : ShI l nd m0 ks k m out) (hk : ks.length ≤ k) : out = shortG (nextL l) nd m0 ks := by
  rw [← h.eq, List.drop_of_length_le hk]
  simp [shortG]
/-- taking, part by part. -/
structure TkI (n0 : Int) (m0 : Sm Int) (L : List Bs) (j : Nat) (n : Int) (m : Sm Int) : Prop where
  eq : takeS n m (L.drop j) = takeS n0 m0 L
  bd : BdSk 1000000 m
  pos : 0 ≤ n ∧ n ≤ n0
  len : m.length ≤ m0.length + j
theorem TkI.start {n0 : Int} {m0 : Sm Int} {L : List Bs} (h : BdSk 1000000 m0) (hn : 0 ≤ n0) : TkI n0 m0 L 0 n0 m0 := ⟨rfl, h, ⟨hn, Int.le_refl _⟩, Nat.le_refl _⟩
theorem TkI.step {n0 n v : Int} {m0 m : Sm Int} {L : List Bs} {j : Nat} {s : Bs} (h : TkI n0 m0 L j n m) (hs : L[j]? = some s) (hv : v = (m.get s).getD 0) : TkI n0 m0 L (j + 1) (n - min n v) (m.put s (v - min n v)) := by
  obtain ⟨hk, e⟩ := List.getElem?_eq_some_iff.1 hs
  have hb := h.bd s
  have hn := h.pos
  rw [← hv] at hb
  refine ⟨?_, fun t => ?_, by omega, ?_⟩
  · rw [← h.eq, List.drop_eq_getElem_cons hk, e, takeS, ← hv]
  · by_cases e : s = t
    · subst e
      rw [Sm.get_put_same]
      show 0 ≤ v - min n v ∧ v - min n v ≤ 1000000
      omega
    · rw [Sm.get_put_other e]; exact h.bd t
  · have h2 := Sm.put_le m s (v - min n v)
    have := h.len
    omega
theorem TkI.stop {n0 n : Int} {m0 m : Sm Int} {L : List Bs} {j : Nat} (h : TkI n0 m0 L j n m) (hj : L.length ≤ j) : takeS n0 m0 L = (n, m) := by
  rw [← h.eq, List.drop_of_length_le hj]; rfl
end Go.Proofs.YtihgnpobkpnipaaGreatDoor
namespace Go.Proofs.YtihgnpobkpnipaaGreatDoor
open Go.RowKit Go.Sort
/-- reels: key, part, how many. -/
abbrev Rel := ByteArray × ByteArray × Int
end Go.Proofs.YtihgnpobkpnipaaGreatDoor
namespace Go.Proofs.YtihgnpobkpnipaaGreatDoor
open Go.RowKit Go.Sort
end Go.Proofs.YtihgnpobkpnipaaGreatDoor
namespace Go.Proofs.YtihgnpobkpnipaaGreatDoor
open Go.RowKit Go.Sort
theorem cmpR_neg : ∀ x y : List UInt8, Lib.compareBytes x y < 0 ↔ Op.bytesLess x y = true
  | [], [] => by simp [Lib.compareBytes, Op.bytesLess]
  | [], _ :: _ => by simp [Lib.compareBytes, Op.bytesLess]
  | _ :: _, [] => by simp [Lib.compareBytes, Op.bytesLess]
  | a :: x, b :: y => by
    rw [Lib.compareBytes, bl_cons]
    by_cases h1 : a < b
    · simp [h1]
    · by_cases h2 : b < a
      · have hne : ¬ a = b := fun e => by subst e; exact absurd h2 (UInt8.lt_irrefl a)
        simp [h1, h2, hne]
      · have he : a = b := u8_eq (by have := mt (u8_lt a b).2 h1; have := mt (u8_lt b a).2 h2; omega)
        subst he
        rw [if_neg h1, if_neg h1, cmpR_neg x y]
        simp [h1]
theorem cmpR_eq : ∀ x y : List UInt8, Lib.compareBytes x y = 0 ↔ x = y
  | [], [] => by simp [Lib.compareBytes]
  | [], _ :: _ => by simp [Lib.compareBytes]
  | _ :: _, [] => by simp [Lib.compareBytes]
  | a :: x, b :: y => by
    rw [Lib.compareBytes]
    by_cases h1 : a < b
    · have hne : ¬ a = b := fun e => by subst e; exact absurd h1 (UInt8.lt_irrefl a)
      simp [h1, hne]
    · by_cases h2 : b < a
      · have hne : ¬ a = b := fun e => by subst e; exact absurd h2 (UInt8.lt_irrefl a)
        simp [h1, h2, hne]
      · have he : a = b := u8_eq (by have := mt (u8_lt a b).2 h1; have := mt (u8_lt b a).2 h2; omega)
        subst he
        rw [if_neg h1, if_neg h1, cmpR_eq x y]
        simp
def SortR (l : List Rel) : Prop := l.Pairwise fun a b => Op.bytesLess a.1.toList b.1.toList = true
theorem SortR.at {l : List Rel} (h : SortR l) {i j : Nat} {x y : Rel} (hi : l[i]? = some x) (hj : l[j]? = some y) (hij : i < j) : Op.bytesLess x.1.toList y.1.toList = true := by
  obtain ⟨h1, rfl⟩ := List.getElem?_eq_some_iff.1 hi
  obtain ⟨h2, rfl⟩ := List.getElem?_eq_some_iff.1 hj
  exact List.pairwise_iff_getElem.1 h i j h1 h2 hij
end Go.Proofs.YtihgnpobkpnipaaGreatDoor
namespace Go.Proofs.YtihgnpobkpnipaaGreatDoor
open Go.RowKit Go.Sort
def TPt : Rty Prt := { e := 66, S := 26, k := 4, b := 48, z := .agg #[.string ByteArray.empty, .string ByteArray.empty, .int .i64 0, .int .i64 0], f := fun x => [.string x.1, .string x.2.1, .int .i64 x.2.2.1, .int .i64 x.2.2.2] }
theorem TPt.ok : TPt.Ok := ⟨by kernel_rfl, Tryz.underlying26, rfl, by decide, fun _ => rfl, fun x u hu => by simp [TPt] at hu; rcases hu with rfl | rfl | rfl | rfl <;> rfl, by decide⟩
def TAl : Rty Alt := { e := 72, S := 27, k := 3, b := 40, z := .agg #[.string ByteArray.empty, .string ByteArray.empty, .bool false], f := fun x => [.string x.1, .string x.2.1, .bool x.2.2] }
theorem TAl.ok : TAl.Ok := ⟨by kernel_rfl, Tryz.underlying27, rfl, by decide, fun _ => rfl, fun x u hu => by simp [TAl] at hu; rcases hu with rfl | rfl | rfl <;> rfl, by decide⟩
/-- strings that lie in memory. -/
def PrtZ (l : List Prt) : Prop := ∀ x ∈ l, x.1.size ≤ 140737488355328 ∧ x.2.1.size ≤ 140737488355328
def ordP (prev : Option ByteArray) (ky : ByteArray) : Int := match prev with
  | none => 0
  | some p => if blePt ky p = true then 7 else 0
set_option maxHeartbeats 1000000 in
theorem partAt1_any (x : Prt) (key : ByteArray) (w : World) :
    Calls Tryz.prog 167 #[.agg #[.string x.1, .string x.2.1, .int .i64 x.2.2.1, .int .i64 x.2.2.2], .string key] w fun e w' => e = .returned (.int .i64 (Lib.compareBytes x.1.data.toList key.data.toList)) ∧ Below w.heap.size w w' := by
  obtain ⟨k, p, m, bk⟩ := x
  have hX := blk_new w (.cells #[.string k, .string p, .int .i64 m, .int .i64 bk] 66)
  have hb := Bl.alloc (Below.refl w.heap.size w) (.cells #[.string k, .string p, .int .i64 m, .int .i64 bk] 66)
  have c0 : (w.alloc (.cells #[.string k, .string p, .int .i64 m, .int .i64 bk] 66)).cell? ⟨w.heap.size, 0, none⟩ = some (.string k) := blk_cell hX 0
  clear hX
  go_enter Tryz.func167, Tryz.ntmps167
  go_wp2_with fail
  refine (Tryz.strings_Compare k key _).mono ?_
  rintro e w' ⟨rfl, hq⟩
  rw [hq]
  go_wp2
  go_ret
  exact ⟨rfl, hb⟩
def cKp (key : ByteArray) (x : Prt) : Int := Lib.compareBytes x.1.data.toList key.data.toList
def SortP (l : List Prt) : Prop := l.Pairwise fun a b => Op.bytesLess a.1.toList b.1.toList = true
theorem prtF_zero {p : ByteArray} {x : Prt} (h : prtF (some p) x = 0) : Op.bytesLess p.toList x.1.toList = true := by
  unfold prtF at h
  split at h
  · exact absurd h (by decide)
  split at h
  · exact absurd h (by decide)
  split at h
  · exact absurd h (by decide)
  split at h
  · exact absurd h (by decide)
  by_cases h4 : blePt x.1 p = true
  · simp only [h4, if_true] at h; exact absurd h (by decide)
  · have h5 : blePt x.1 p = false := by simpa using h4
    unfold blePt at h5
    rw [Bool.or_eq_false_iff] at h5
    cases hq : Op.bytesLess p.toList x.1.toList
    · have := bl_tot _ _ h5.1 hq
      have h6 := h5.2
      rw [this] at h6
      simp at h6
    · rfl
theorem prtsF1_sorted : ∀ (l : List Prt) (p : Option ByteArray), prtsF1 p l = 0 → (∀ q, p = some q → ∀ x ∈ l, Op.bytesLess q.toList x.1.toList = true) ∧ SortP l
  | [], _, _ => ⟨fun _ _ _ hx => (List.not_mem_nil hx).elim, List.Pairwise.nil⟩
  | x :: l, p, h => by
    rw [prtsF1] at h
    by_cases h0 : prtF p x = 0
    · rw [if_pos h0] at h
      obtain ⟨g1, g2⟩ := prtsF1_sorted l _ h
      have hall := g1 x.1 rfl
      refine ⟨fun q hq y hy => ?_, List.Pairwise.cons hall g2⟩
      subst hq
      have hx := prtF_zero h0
      rcases List.mem_cons.1 hy with rfl | hy
      · exact hx
      · exact bl_trans _ _ _ hx (hall y hy)
    · rw [if_neg h0] at h; exact absurd h h0
theorem cKp_neg (key : ByteArray) (x : Prt) : cKp key x < 0 ↔ Op.bytesLess x.1.toList key.toList = true := by
  unfold cKp; rw [ByteArray.toList_eq, ByteArray.toList_eq]; exact cmpR_neg _ _
theorem cKp_eq (key : ByteArray) (x : Prt) : cKp key x = 0 ↔ x.1.toList = key.toList := by
  unfold cKp; rw [ByteArray.toList_eq, ByteArray.toList_eq]; exact cmpR_eq _ _
theorem SortP.at {l : List Prt} (h : SortP l) {i j : Nat} {x y : Prt} (hi : l[i]? = some x) (hj : l[j]? = some y) (hij : i < j) : Op.bytesLess x.1.toList y.1.toList = true := by
  obtain ⟨h1, rfl⟩ := List.getElem?_eq_some_iff.1 hi
  obtain ⟨h2, rfl⟩ := List.getElem?_eq_some_iff.1 hj
  exact List.pairwise_iff_getElem.1 h i j h1 h2 hij
def LowP (l : List Prt) (key : ByteArray) (lo hi : Nat) : Prop := (∀ m x, m < lo → l[m]? = some x → cKp key x < 0) ∧ (∀ m x, hi ≤ m → l[m]? = some x → 0 ≤ cKp key x)
theorem lowP_up {l : List Prt} {key : ByteArray} {lo hi mid : Nat} {t : Prt} (hs : SortP l) (h : LowP l key lo hi) (ht : l[mid]? = some t) (hc : cKp key t < 0) : LowP l key (mid + 1) hi := by
  refine ⟨fun m x hm hx => ?_, h.2⟩
  by_cases he : m = mid
  · subst he; rw [ht] at hx; cases hx; exact hc
  · exact (cKp_neg key x).2 (bl_trans _ _ _ (hs.at hx ht (by omega)) ((cKp_neg key t).1 hc))
theorem lowP_dn {l : List Prt} {key : ByteArray} {lo hi mid : Nat} {t : Prt} (hs : SortP l) (h : LowP l key lo hi) (ht : l[mid]? = some t) (hc : ¬ cKp key t < 0) : LowP l key lo mid := by
  refine ⟨h.1, fun m x hm hx => ?_⟩
  by_cases he : m = mid
  · subst he; rw [ht] at hx; cases hx; omega
  · by_cases hn : cKp key x < 0
    · exact absurd ((cKp_neg key t).2 (bl_trans _ _ _ (hs.at ht hx (by omega)) ((cKp_neg key x).1 hn))) hc
    · omega
theorem lowP_end {l : List Prt} {key : ByteArray} {lo : Nat} (h : LowP l key lo lo) (hl : l.length ≤ lo) : hasP l key = false := by
  unfold hasP
  rw [List.any_eq_false]
  intro x hx
  obtain ⟨m, hm⟩ := List.mem_iff_getElem?.1 hx
  obtain ⟨hlt, _⟩ := List.getElem?_eq_some_iff.1 hm
  have := h.1 m x (by omega) hm
  intro he
  have he' : x.1.toList = key.toList := by simpa using he
  have := (cKp_eq key x).2 he'
  omega
theorem lowP_at {l : List Prt} {key : ByteArray} {lo : Nat} {t : Prt} (hs : SortP l) (h : LowP l key lo lo) (ht : l[lo]? = some t) : hasP l key = decide (cKp key t = 0) := by
  by_cases hc : cKp key t = 0
  · rw [decide_eq_true hc]
    exact List.any_eq_true.2 ⟨t, List.mem_of_getElem? ht, by simpa using (cKp_eq key t).1 hc⟩
  · rw [decide_eq_false hc]
    unfold hasP
    rw [List.any_eq_false]
    intro x hx
    obtain ⟨m, hm⟩ := List.mem_iff_getElem?.1 hx
    intro he
    have he' : x.1.toList = key.toList := by simpa using he
    have h0 := (cKp_eq key x).2 he'
    by_cases h1 : m < lo
    · have := h.1 m x h1 hm; omega
    · by_cases h2 : m = lo
      · subst h2; rw [ht] at hm; cases hm; exact hc h0
      · have hlt := hs.at ht hm (by omega)
        rw [he'] at hlt
        have := (cKp_neg key t).2 hlt
        have := h.2 lo t (Nat.le_refl _) ht
        omega
set_option maxHeartbeats 4000000 in
set_option maxRecDepth 100000 in
theorem bsfP_any (l : List Prt) (key : ByteArray) (v : Value) (w : World) (hl : l.length ≤ 1000000) (hs : SortP l) (rl : RecR TPt w 0 v l) :
    Calls Tryz.prog 166 #[v, .string key, .func (.func 167) #[] #[]] w fun e w' => (∃ r : Int, e = .returned (.tuple #[.int .i64 r, .bool (hasP l key)]) ∧ (hasP l key = true → ∃ (i : Nat) (x : Prt), r = i ∧ l[i]? = some x ∧ x.1.toList = key.toList)) ∧ Below w.heap.size w w' := by
  obtain ⟨a, cap, rfl, hc1, hc2⟩ := rl.form
  have RL := Lib.hid rl
  have HS := Lib.hid hs
  clear rl hs
  go_enter Tryz.func166, Tryz.ntmps166
  go_wp2
  go_loopw [9, 10] (fun i j wr => ∃ lo hi : Nat, i = .int .i64 lo ∧ j = .int .i64 hi ∧ lo ≤ hi ∧ hi ≤ l.length ∧ Hid (LowP l key lo hi) ∧ Below w.heap.size w wr) (fun i j _ => (intOf j - intOf i).toNat)
  case atStart => exact ⟨0, l.length, rfl, rfl, Nat.zero_le _, Nat.le_refl _, Lib.hid ⟨fun _ _ h => by omega, fun m x h hx => by have := (List.getElem?_eq_some_iff.1 hx).1; omega⟩, Below.refl _ _⟩
  case round =>
    obtain ⟨lo, hi, rfl, rfl, hlh, hhl, HL, hb⟩ := hrel
    by_cases hlt : lo < hi
    · obtain ⟨t, ht⟩ : ∃ t, l[(lo + hi) / 2]? = some t := ⟨_, List.getElem?_eq_getElem (by omega)⟩
      have HU := Lib.hid (fun h => lowP_up HS.out HL.out ht h)
      have HD := Lib.hid (fun h => lowP_dn HS.out HL.out ht h)
      have HC := Lib.hid (partAt1_any t key wr)
      obtain ⟨b2', o2, rfl, _, hl2, hx2⟩ := (RL.out.below hb).at TPt.ok.len ht TPt.ok.pos
      obtain ⟨c, hc⟩ : ∃ c, c = cKp key t := ⟨_, rfl⟩
      have hc' : Lib.compareBytes t.1.data.toList key.data.toList = c := hc.symm
      rw [hc'] at HC
      rw [← hc] at HU HD
      obtain ⟨ky, pt, mn, bk⟩ := t
      have c0 : wr.cell? ⟨b2', o2 + (lo + hi) / 2 * 4, none⟩ = some (.string ky) := hx2 0 _ rfl
      have c1 : wr.cell? ⟨b2', o2 + (lo + hi) / 2 * 4 + 1, none⟩ = some (.string pt) := hx2 1 _ rfl
      have c2 : wr.cell? ⟨b2', o2 + (lo + hi) / 2 * 4 + 2, none⟩ = some (.int .i64 mn) := hx2 2 _ rfl
      have c3 : wr.cell? ⟨b2', o2 + (lo + hi) / 2 * 4 + 3, none⟩ = some (.int .i64 bk) := hx2 3 _ rfl
      have hw5 : IntKind.i64.wrap (((lo : Int) + hi) / 2 + 1) = (((lo + hi) / 2 + 1 : Nat) : Int) := by rw [IntWalk.i64_in _ (by omega)]; omega
      have j1 : (0 : Int) ≤ ((lo : Int) + hi) / 2 := by omega
      have j2 : ((lo : Int) + hi) / 2 < (l.length : Int) := by omega
      clear ht hx2 hc hc'
      go_wp2_with fail
      refine HC.out.mono ?_
      rintro e w2 ⟨rfl, hb2⟩
      have hb02 := Bl.trans hb hb2
      clear hb2
      by_cases hn : c < 0
      · have HL2 := Lib.hid (HU.out hn)
        go_wp2
        go_roundw
        case rel => exact ⟨(lo + hi) / 2 + 1, hi, by go_num, rfl, by omega, hhl, HL2, hb02⟩
        case measure => simp [intOf]; omega
      · have HL2 := Lib.hid (HD.out (by omega))
        go_wp2
        go_roundw
        case rel => exact ⟨lo, (lo + hi) / 2, rfl, by go_num, by omega, by omega, HL2, hb02⟩
        case measure => simp [intOf]; omega
    · obtain rfl : lo = hi := by omega
      by_cases hll : lo < l.length
      · obtain ⟨t, ht⟩ : ∃ t, l[lo]? = some t := ⟨_, List.getElem?_eq_getElem hll⟩
        have HE := Lib.hid (lowP_at HS.out HL.out ht)
        have HT1 := Lib.hid ht
        have HEQ := Lib.hid (cKp_eq key t)
        have HC := Lib.hid (partAt1_any t key wr)
        obtain ⟨b2', o2, rfl, _, hl2, hx2⟩ := (RL.out.below hb).at TPt.ok.len ht TPt.ok.pos
        obtain ⟨c, hc⟩ : ∃ c, c = cKp key t := ⟨_, rfl⟩
        have hc' : Lib.compareBytes t.1.data.toList key.data.toList = c := hc.symm
        rw [hc'] at HC
        rw [← hc] at HE HEQ
        obtain ⟨ky, pt, mn, bk⟩ := t
        have c0 : wr.cell? ⟨b2', o2 + lo * 4, none⟩ = some (.string ky) := hx2 0 _ rfl
        have c1 : wr.cell? ⟨b2', o2 + lo * 4 + 1, none⟩ = some (.string pt) := hx2 1 _ rfl
        have c2 : wr.cell? ⟨b2', o2 + lo * 4 + 2, none⟩ = some (.int .i64 mn) := hx2 2 _ rfl
        have c3 : wr.cell? ⟨b2', o2 + lo * 4 + 3, none⟩ = some (.int .i64 bk) := hx2 3 _ rfl
        have j2 : (lo : Int) < (l.length : Int) := by omega
        clear ht hx2 hc hc'
        go_wp2_with fail
        refine HC.out.mono ?_
        rintro e w2 ⟨rfl, hb2⟩
        have hb02 := Bl.trans hb hb2
        clear hb2
        by_cases hn : c = 0
        · have HV : Hid (hasP l key = true) := Lib.hid (by rw [HE.out, decide_eq_true hn])
          go_wp2
          refine bodyPost_ret (v := .tuple #[.int .i64 lo, .bool true]) (by simp [results, Tryz.results166, go_sem]) rfl ?_
          exact ⟨⟨_, by rw [HV.out], fun _ => ⟨lo, _, rfl, HT1.out, HEQ.out.1 hn⟩⟩, hb02⟩
        · have HV : Hid (hasP l key = false) := Lib.hid (by rw [HE.out, decide_eq_false hn])
          go_wp2
          refine bodyPost_ret (v := .tuple #[.int .i64 lo, .bool false]) (by simp [results, Tryz.results166, go_sem, hn]) rfl ?_
          exact ⟨⟨_, by rw [HV.out], fun h => by rw [HV.out] at h; cases h⟩, hb02⟩
      · have HV := Lib.hid (lowP_end HL.out (by omega))
        have j2 : ¬ (lo : Int) < (l.length : Int) := by omega
        go_wp2
        refine bodyPost_ret (v := .tuple #[.int .i64 lo, .bool false]) (by simp [results, Tryz.results166, go_sem]) rfl ?_
        exact ⟨⟨_, by rw [HV.out], fun h => by rw [HV.out] at h; cases h⟩, hb⟩
theorem partAt_any (l : List Prt) (key : ByteArray) (v : Value) (w : World) (hl : l.length ≤ 1000000) (hs : SortP l) (rl : RecR TPt w 0 v l) :
    Calls Tryz.prog 122 #[v, .string key] w fun e w' => (∃ r : Int, e = .returned (.tuple #[.int .i64 r, .bool (hasP l key)]) ∧ (hasP l key = true → ∃ (i : Nat) (x : Prt), r = i ∧ l[i]? = some x ∧ x.1.toList = key.toList)) ∧ Below w.heap.size w w' := by
  have HC := Lib.hid (bsfP_any l key v w hl hs rl)
  obtain ⟨a, cap, rfl, _, _⟩ := rl.form
  clear rl hs
  go_enter Tryz.func122, Tryz.ntmps122
  go_wp2_with fail
  refine HC.out.mono ?_
  rintro e w2 ⟨⟨r, rfl, hr⟩, hb⟩
  have HR := Lib.hid hr
  clear hr
  go_wp2
  refine bodyPost_ret (by simp [results, Tryz.results122, go_sem]; rfl) rfl ?_
  exact ⟨⟨r, rfl, HR.out⟩, hb⟩
end Go.Proofs.YtihgnpobkpnipaaGreatDoor
