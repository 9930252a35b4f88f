/- Texts of the proof of a law, put together, part 33 of 46. Conditions: none beyond those that each theorem names. -/
import Derived.Test.YteojmljggoplkaaGreatDoorPz4
import Derived.Test.YteojmljggoplkaaGreatDoorPz5
import Derived.Test.YteojmljggoplkaaGreatDoorPz6
import Derived.Test.YteojmljggoplkaaGreatDoorPz18
import Derived.Test.YteojmljggoplkaaGreatDoorPz25
import Derived.Test.YteojmljggoplkaaGreatDoorPz30
import Derived.Test.YteojmljggoplkaaGreatDoorPz32
import Derived.Deep.RegionLaw
namespace Go.Proofs.YteojmljggoplkaaGreatDoor
open Go.RowKit Go.Sort Go.Maps
/-- a part and how many of it, as they are written. -/
abbrev Stk := ByteArray × ByteArray
def stkN (s : ByteArray) : Int := (numT 7 s.data.toList).getD 0
def stkG (s : ByteArray) : Bool := (numT 7 s.data.toList).isSome && inB 0 (stkN s) 1000000
def stkO (prev : Option ByteArray) (t : ByteArray) : Int := match prev with
  | none => 0
  | some p => if blePt t p = true then 7 else 0
/-- what is wrong with one behind another one. -/
def stkF (ps : List Prt) (prev : Option ByteArray) (x : Stk) : Int := if hasP ps x.1 = false then 8 else if stkG x.2 = false then 9 else stkO prev x.1
def stksF1 (ps : List Prt) : Option ByteArray → List Stk → Int
  | _, [] => 0
  | p, x :: l => if stkF ps p x = 0 then stksF1 ps (some x.1) l else stkF ps p x
def stksF (ps : List Prt) (l : List Stk) : Int := stksF1 ps none l
def prvK (l : List Stk) : Nat → Option ByteArray
  | 0 => none
  | k + 1 => (l[k]?).map (·.1)
theorem stksF1_go {ps : List Prt} {l : List Stk} {k : Nat} {x : Stk} (hx : l[k]? = some x) (h : stkF ps (prvK l k) x = 0) : stksF1 ps (prvK l k) (l.drop k) = stksF1 ps (prvK l (k + 1)) (l.drop (k + 1)) := by
  obtain ⟨hk, e⟩ := List.getElem?_eq_some_iff.1 hx
  rw [List.drop_eq_getElem_cons hk, e, stksF1, if_pos h]
  show _ = stksF1 ps ((l[k]?).map (·.1)) _
  rw [hx]; rfl
theorem stksF1_stop {ps : List Prt} {l : List Stk} {k : Nat} {x : Stk} (hx : l[k]? = some x) (h : stkF ps (prvK l k) x ≠ 0) : stksF1 ps (prvK l k) (l.drop k) = stkF ps (prvK l k) x := by
  obtain ⟨hk, e⟩ := List.getElem?_eq_some_iff.1 hx
  rw [List.drop_eq_getElem_cons hk, e, stksF1, if_neg h]
theorem stkF_zero {ps : List Prt} {p : Option ByteArray} {x : Stk} (h : stkF ps p x = 0) : hasP ps x.1 = true ∧ stkG x.2 = true ∧ ∀ q, p = some q → Op.bytesLess q.toList x.1.toList = true := by
  unfold stkF at h
  cases h1 : hasP ps x.1
  · rw [if_pos h1] at h; exact absurd h (by decide)
  · rw [if_neg (by rw [h1]; decide)] at h
    cases h2 : stkG x.2
    · rw [if_pos h2] at h; exact absurd h (by decide)
    · rw [if_neg (by rw [h2]; decide)] at h
      refine ⟨rfl, rfl, fun q hq => ?_⟩
      subst hq
      unfold stkO at h
      by_cases h4 : blePt x.1 q = true
      · simp only [h4, if_true] at h; exact absurd h (by decide)
      · have h5 : blePt x.1 q = false := by simpa using h4
        unfold blePt at h5
        rw [Bool.or_eq_false_iff] at h5
        cases hq : Op.bytesLess q.toList x.1.toList
        · have := bl_tot _ _ h5.1 hq
          have h6 := h5.2
          rw [this] at h6
          simp at h6
        · rfl
def keysK (l : List Stk) : List Bs := l.map fun x => bsOf x.1
theorem stksF1_ok {ps : List Prt} : ∀ (l : List Stk) (p : Option ByteArray), stksF1 ps p l = 0 → (∀ q, p = some q → ∀ x ∈ l, Op.bytesLess q.toList x.1.toList = true) ∧ Srt (keysK l) ∧ ∀ x ∈ l, hasP ps x.1 = true ∧ stkG x.2 = true
  | [], _, _ => ⟨fun _ _ _ hx => (List.not_mem_nil hx).elim, List.Pairwise.nil, fun _ hx => (List.not_mem_nil hx).elim⟩
  | x :: l, p, h => by
    rw [stksF1] at h
    by_cases h0 : stkF ps p x = 0
    · rw [if_pos h0] at h
      obtain ⟨g1, g2, g3⟩ := stksF1_ok l _ h
      obtain ⟨z1, z2, z3⟩ := stkF_zero h0
      have hall := g1 x.1 rfl
      refine ⟨fun q hq y hy => ?_, List.Pairwise.cons (fun s hs => ?_) g2, fun y hy => ?_⟩
      · rcases List.mem_cons.1 hy with rfl | hy
        · exact z3 q hq
        · exact bl_trans _ _ _ (z3 q hq) (hall y hy)
      · obtain ⟨y, hy, rfl⟩ := List.mem_map.1 hs
        have := hall y hy
        rw [ByteArray.toList_eq, ByteArray.toList_eq] at this
        exact bl_le _ _ this
      · rcases List.mem_cons.1 hy with rfl | hy
        · exact ⟨z1, z2⟩
        · exact g3 y hy
    · rw [if_neg h0] at h; exact absurd h h0
theorem stksF_ok {ps : List Prt} {l : List Stk} (h : stksF ps l = 0) : Srt (keysK l) ∧ ∀ x ∈ l, hasP ps x.1 = true ∧ stkG x.2 = true := (stksF1_ok l none h).2
theorem stkG_is {s : ByteArray} (h : stkG s = true) : numT 7 s.data.toList = some (stkN s) ∧ 0 ≤ stkN s ∧ stkN s ≤ 1000000 := by
  unfold stkG at h
  rw [Bool.and_eq_true] at h
  obtain ⟨h1, h2⟩ := h
  obtain ⟨n, hn⟩ := Option.isSome_iff_exists.1 h1
  have e : stkN s = n := by unfold stkN; rw [hn]; rfl
  rw [e] at h2 ⊢
  refine ⟨hn, ?_⟩
  unfold inB at h2
  simpa using h2
/-- the map of a stock. -/
def mapK (l : List Stk) : Sm Int := amtM (l.map fun x => (bsOf x.1, stkN x.2)) []
theorem mapK_snoc {l : List Stk} {k : Nat} {x : Stk} (h : l[k]? = some x) : mapK (l.take (k + 1)) = (mapK (l.take k)).put (bsOf x.1) (stkN x.2) := by
  unfold mapK
  rw [List.take_add_one, h, List.map_append]
  exact amtM_snoc _ _ _
theorem mapK_get {l : List Stk} (h : Srt (keysK l)) {x : Stk} (hx : x ∈ l) : (mapK l).get (bsOf x.1) = some (stkN x.2) := by
  unfold mapK
  refine amtM_get _ _ ?_ (List.mem_map.2 ⟨x, hx, rfl⟩)
  rw [List.map_map]
  exact h.nodup
theorem amtM_bd {N : Int} : ∀ (l : List (Bs × Int)) (m : Sm Int), (∀ p ∈ l, 0 ≤ p.2 ∧ p.2 ≤ N) → BdSk N m → BdSk N (amtM l m)
  | [], _, _, h => h
  | p :: r, m, hl, h => by
    refine amtM_bd r (m.put p.1 p.2) (fun q hq => hl q (List.mem_cons_of_mem _ hq)) fun t => ?_
    by_cases e : p.1 = t
    · subst e
      rw [Sm.get_put_same]
      exact hl p (List.mem_cons_self ..)
    · rw [Sm.get_put_other e]; exact h t
theorem mapK_bd {l : List Stk} (h : ∀ x ∈ l, stkG x.2 = true) : BdSk 1000000 (mapK l) := by
  refine amtM_bd _ _ (fun p hp => ?_) fun t => ⟨Int.le_refl _, by show (0 : Int) ≤ _; decide⟩
  obtain ⟨x, hx, rfl⟩ := List.mem_map.1 hp
  exact (stkG_is (h x hx)).2
theorem amtM_len : ∀ (l : List (Bs × Int)) (m : Sm Int), (amtM l m).length ≤ m.length + l.length
  | [], _ => by simp [amtM]
  | p :: r, m => by
    have h1 := amtM_len r (m.put p.1 p.2)
    have h2 := Sm.put_le m p.1 p.2
    show (amtM r (m.put p.1 p.2)).length ≤ _
    rw [List.length_cons]; omega
theorem mapK_len (l : List Stk) : (mapK l).length ≤ l.length := by
  have := amtM_len (l.map fun x => (bsOf x.1, stkN x.2)) []
  rw [List.length_map] at this
  unfold mapK
  simpa using this
/-- what is missing. -/
def needK (l : List Stk) (p : Bs) : Int := ((mapK l).get p).getD 0
def shortK (l : List Alt) (need have_ : List Stk) : List Bs := shortG (nextL l) (needK need) (mapK have_) (keysK need)
/-- the same, step by step. -/
structure ShI (l : List Alt) (nd : Bs → Int) (m0 : Sm Int) (ks : List Bs) (k : Nat) (m : Sm Int) (out : List Bs) : Prop where
  eq : out ++ shortG (nextL l) nd m (ks.drop k) = shortG (nextL l) nd m0 ks
  bd : BdSk 1000000 m
  len : out.length ≤ k
theorem ShI.start {l : List Alt} {nd : Bs → Int} {m0 : Sm Int} {ks : List Bs} (h : BdSk 1000000 m0) : ShI l nd m0 ks 0 m0 [] := ⟨rfl, h, Nat.le_refl _⟩
theorem ShI.step {l : List Alt} {nd : Bs → Int} {m0 m : Sm Int} {ks out : List Bs} {k : Nat} {p : Bs} (h : ShI l nd m0 ks k m out) (hp : ks[k]? = some p) (h0 : 0 ≤ nd p) :
    ShI l nd m0 ks (k + 1) (takeS (nd p) m (p :: nextL l p)).2 (out ++ (if 0 < (takeS (nd p) m (p :: nextL l p)).1 then [p] else [])) := by
  obtain ⟨hk, e⟩ := List.getElem?_eq_some_iff.1 hp
  refine ⟨?_, (takeS_bd _ _ _ h.bd h0).1, ?_⟩
  · rw [← h.eq, List.append_assoc, List.drop_eq_getElem_cons hk, e, shortG]
  · rw [List.length_append]
    have := h.len
    split <;> simp <;> omega
theorem ShI.stop {l : List Alt} {nd : Bs → Int} {m0 m : Sm Int} {ks out : List Bs} {k : Nat} (h : ShI l nd m0 ks k m out) (hk : ks.length ≤ k) : out = shortG (nextL l) nd m0 ks := by
  rw [← h.eq, List.drop_of_length_le hk]
  simp [shortG]
/-- taking, part by part. -/
structure TkI (n0 : Int) (m0 : Sm Int) (L : List Bs) (j : Nat) (n : Int) (m : Sm Int) : Prop where
  eq : takeS n m (L.drop j) = takeS n0 m0 L
  bd : BdSk 1000000 m
  pos : 0 ≤ n ∧ n ≤ n0
  len : m.length ≤ m0.length + j
theorem TkI.start {n0 : Int} {m0 : Sm Int} {L : List Bs} (h : BdSk 1000000 m0) (hn : 0 ≤ n0) : TkI n0 m0 L 0 n0 m0 := ⟨rfl, h, ⟨hn, Int.le_refl _⟩, Nat.le_refl _⟩
theorem TkI.step {n0 n v : Int} {m0 m : Sm Int} {L : List Bs} {j : Nat} {s : Bs} (h : TkI n0 m0 L j n m) (hs : L[j]? = some s) (hv : v = (m.get s).getD 0) : TkI n0 m0 L (j + 1) (n - min n v) (m.put s (v - min n v)) := by
  obtain ⟨hk, e⟩ := List.getElem?_eq_some_iff.1 hs
  have hb := h.bd s
  have hn := h.pos
  rw [← hv] at hb
  refine ⟨?_, fun t => ?_, by omega, ?_⟩
  · rw [← h.eq, List.drop_eq_getElem_cons hk, e, takeS, ← hv]
  · by_cases e : s = t
    · subst e
      rw [Sm.get_put_same]
      show 0 ≤ v - min n v ∧ v - min n v ≤ 1000000
      omega
    · rw [Sm.get_put_other e]; exact h.bd t
  · have h2 := Sm.put_le m s (v - min n v)
    have := h.len
    omega
theorem TkI.stop {n0 n : Int} {m0 m : Sm Int} {L : List Bs} {j : Nat} (h : TkI n0 m0 L j n m) (hj : L.length ≤ j) : takeS n0 m0 L = (n, m) := by
  rw [← h.eq, List.drop_of_length_le hj]; rfl
end Go.Proofs.YteojmljggoplkaaGreatDoor
namespace Go.Proofs.YteojmljggoplkaaGreatDoor
open Go.RowKit Go.Sort Go.Maps
def StkZ (l : List Stk) : Prop := ∀ x ∈ l, x.1.size ≤ 1000000 ∧ x.2.size ≤ 1000000
/-- what amounts has told. -/
def AmtR (l : List Stk) (B : Nat) (F : Int) (e : Ending) (w' : World) : Prop := ∃ v, e = .returned (.tuple #[v, .int .i64 F]) ∧ (F = 0 → ∃ m, v = .map (some m) ∧ B ≤ m ∧ MapS TMi w' m (mapK l))
theorem AmtR.no {l : List Stk} {B : Nat} {F : Int} {w' : World} {v : Value} (h : F ≠ 0) : AmtR l B F (.returned (.tuple #[v, .int .i64 F])) w' := ⟨v, rfl, fun e => absurd e h⟩
theorem AmtR.yes {l : List Stk} {B m : Nat} {w' : World} (h : B ≤ m) (hM : MapS TMi w' m (mapK l)) : AmtR l B 0 (.returned (.tuple #[.map (some m), .int .i64 0])) w' := ⟨_, rfl, fun _ => ⟨m, rfl, h, hM⟩⟩
set_option maxHeartbeats 8000000 in
set_option maxRecDepth 100000 in
theorem amounts_any (ps : List Prt) (al : List Alt) (vp va : Value) (l : List Stk) (v : Value) (w : World) (hp : ps.length ≤ 100000) (hs : SortP ps) (hc : CatR w vp va ps al) (hl : l.length ≤ 1000) (rl : RecR TPa w 0 v l) (hz : StkZ l) :
    Calls Tryz.prog 57 #[.agg #[vp, va], v] w fun e w' => AmtR l w.heap.size (stksF ps l) e w' ∧ Below w.heap.size w w' := by
  have hmm := @run_makeMap Tryz.prog
  have HHA := Lib.hid fun (k : ByteArray) W (hW : Below w.heap.size w W) => has_any ps al vp va k W (by omega) hs (hc.low hW)
  obtain ⟨a, cap, rfl, _, _⟩ := rl.form
  obtain ⟨pa, pc, rfl, _, _⟩ := hc.p.form
  obtain ⟨aa, ac, rfl, _, _⟩ := hc.a.form
  obtain ⟨wc, hwc⟩ : ∃ wc, wc = w.alloc (.cells #[.slice pa ps.length pc, .slice aa al.length ac] 29) := ⟨_, rfl⟩
  obtain ⟨w2, hw2⟩ : ∃ w2, w2 = wc.alloc (.map #[] 0) := ⟨_, rfl⟩
  have hAc : Below w.heap.size w wc := by rw [hwc]; exact Bl.alloc (Below.refl _ _) _
  have hA2 : Below w.heap.size w w2 := by rw [hw2]; exact Bl.alloc hAc _
  have hx0 : w2.heap[w.heap.size]? = some (.cells #[.slice pa ps.length pc, .slice aa al.length ac] 29 (0, 0)) := by rw [hw2, hwc]; exact blk_old (blk_new w _) _
  have hzc : wc.heap.size = w.heap.size + 1 := by rw [hwc]; simp
  have hz2 : w2.heap.size = w.heap.size + 2 := by rw [hw2]; simp; omega
  have HM2 : Hid (MapS TMi w2 (w.heap.size + 1) (mapK [])) := Lib.hid (by rw [hw2, ← hzc]; exact MapS.made (T := TMi) wc)
  obtain ⟨mb, hmb⟩ : ∃ mb, mb = wc.heap.size := ⟨_, rfl⟩
  have HMB : Hid (mb = w.heap.size + 1) := Lib.hid (by rw [hmb, hzc])
  have HXC := Lib.hid (show ∀ W, w2.grownBy W (some mb) → W.cell? ⟨w.heap.size, 0, none⟩ = some (.slice pa ps.length pc) ∧ W.cell? ⟨w.heap.size, 1, none⟩ = some (.slice aa al.length ac) ∧ w.heap.size < W.heap.size from fun W hW => by
    have h1 := (hW.block w.heap.size (by omega) (by intro e; injection e with e; have := HMB.out; omega)).trans hx0
    exact ⟨blk_cell h1 0, blk_cell h1 1, blk_lt h1⟩)
  have HB2 := Lib.hid (show ∀ W, w2.grownBy W (some mb) → Below w.heap.size w W from fun W hW => Below.trans hA2 (Gr.below hW (by have := HMB.out; omega) (by omega)))
  have RL := Lib.hid rl
  have HZ := Lib.hid hz
  have HW2 := Lib.hid (And.intro hw2 hwc)

  have HMN : Hid (MapS TMi w2 mb (mapK [])) := Lib.hid (by rw [HMB.out]; exact HM2.out)
  obtain ⟨F, hF⟩ : ∃ F, F = stksF ps l := ⟨_, rfl⟩
  rw [← hF]
  have HF1 : Hid (F = stksF1 ps none l) := Lib.hid hF
  have e1 : ¬ (1000 : Int) < (l.length : Int) := by omega
  clear rl hF hc hwc hw2 hAc hA2 hx0 hzc hz2 HM2 hmb hz
  go_enter Tryz.func57, Tryz.ntmps57
  go_wp2_with fail
  rw [← HW2.out.2, ← HW2.out.1, ← HMB.out]
  clear e1
  go_loopw [17] (fun i wr => ∃ k : Nat, k ≤ l.length ∧ i = .int .i64 k ∧ Hid (F = stksF1 ps (prvK l k) (l.drop k)) ∧ Hid (MapS TMi wr mb (mapK (l.take k))) ∧ Hid (w2.grownBy wr (some mb))) (fun i _ => l.length - (intOf i).toNat)
  case atStart => exact ⟨0, Nat.zero_le _, rfl, Lib.hid (by rw [HF1.out]; rfl), HMN, Lib.hid (Gr.refl _ _)⟩
  case round =>
    obtain ⟨k, hk, rfl, hP, HM, HG⟩ := hrel
    by_cases hlt : k < l.length
    case neg =>
      obtain rfl : k = l.length := by omega
      have HF0 : Hid (F = 0) := Lib.hid (by rw [hP.out, List.drop_length]; rfl)
      have HML : Hid (MapS TMi wr mb (mapK l)) := Lib.hid (by have := HM.out; rw [List.take_length] at this; exact this)
      have HBE := Lib.hid (HB2.out wr HG.out)
      go_wp2
      go_ret2
      refine ⟨?_, HBE.out⟩
      rw [HF0.out]
      exact AmtR.yes (by rw [HMB.out]; omega) HML.out
    obtain ⟨x, hx⟩ : ∃ x, l[k]? = some x := ⟨_, List.getElem?_eq_getElem hlt⟩
    have HW9 : Hid (IntKind.i64.wrap ((k : Int) + 1) = ((k + 1 : Nat) : Int)) := Lib.hid (by rw [IntWalk.i64_in _ (by omega)]; omega)
    obtain ⟨z1, z2⟩ := HZ.out x (List.mem_of_getElem? hx)
    have rw' := RL.out.below (HB2.out wr HG.out)
    obtain ⟨b1, o1, rfl, _, hb1, hc1⟩ := rw'.at TPa.ok.len hx TPa.ok.pos
    have HP : Hid (k = 0 ∧ prvK l k = none ∨ ∃ k' p, k = k' + 1 ∧ prvK l k = some p ∧ ∀ W, Below wr.heap.size wr W → W.cell? ⟨b1, o1 + k' * 2, none⟩ = some (.string p)) := Lib.hid (by
      match k with
      | 0 => exact .inl ⟨rfl, rfl⟩
      | k' + 1 =>
        obtain ⟨p, hp⟩ : ∃ x, l[k']? = some x := ⟨_, List.getElem?_eq_getElem (by omega)⟩
        refine .inr ⟨k', p.1, rfl, by show (l[k']?).map (·.1) = _; rw [hp]; rfl, fun W hW => ?_⟩
        obtain ⟨b4, o4, hae, _, hb4, hc4⟩ := rw'.at TPa.ok.len hp TPa.ok.pos
        injection hae with hae
        injection hae with e1 e2 _
        subst e1 e2
        exact ((bcell hW).1 _ _ hb4).trans (hc4 0 _ rfl))
    clear rw'
    obtain ⟨G, hG⟩ : ∃ G, G = stkF ps (prvK l k) x := ⟨_, rfl⟩
    have HGO : Hid ((G = 0 → F = stksF1 ps (prvK l (k + 1)) (l.drop (k + 1))) ∧ (G ≠ 0 → F = G)) := Lib.hid (by rw [hG]; exact ⟨fun h => by rw [hP.out]; exact stksF1_go hx h, fun h => by rw [hP.out]; exact stksF1_stop hx h⟩)
    have HMS := Lib.hid (mapK_snoc hx)
    have HML : Hid ((mapK (l.take k)).length < maxLen) := Lib.hid (by
      have h1 := mapK_len (l.take k)
      rw [List.length_take] at h1
      unfold maxLen; omega)
    clear hx hP HF1
    obtain ⟨ky, pt⟩ := x
    replace z1 : ky.size ≤ 1000000 := z1
    replace z2 : pt.size ≤ 1000000 := z2
    have c0 : wr.cell? ⟨b1, o1 + k * 2, none⟩ = some (.string ky) := hc1 0 _ rfl
    have c1 : wr.cell? ⟨b1, o1 + k * 2 + 1, none⟩ = some (.string pt) := hc1 1 _ rfl
    clear hc1
    obtain ⟨w1, hw1⟩ : ∃ w1, w1 = wr.alloc (.cells #[.string ky, .string pt] 61) := ⟨_, rfl⟩
    have HA1 : Hid (Below wr.heap.size wr w1) := Lib.hid (by rw [hw1]; exact Bl.alloc (Below.refl _ _) _)
    have HGA : Hid (w2.grownBy w1 (some mb)) := Lib.hid (by rw [hw1]; exact Gr.alloc HG.out _)
    have HMA : Hid (MapS TMi w1 mb (mapK (l.take k))) := Lib.hid (by rw [hw1]; exact HM.out.alloc _)
    have HXP := Lib.hid (show ∀ W, Below w1.heap.size w1 W → W.cell? ⟨wr.heap.size, 0, none⟩ = some (.string ky) ∧ W.cell? ⟨wr.heap.size, 1, none⟩ = some (.string pt) from fun W hW => by
      have h : W.heap[wr.heap.size]? = some (.cells #[.string ky, .string pt] 61 (0, 0)) := blk_below (by rw [hw1]; exact blk_new wr _) hW
      exact ⟨blk_cell h 0, blk_cell h 1⟩)
    obtain ⟨n, hn⟩ : ∃ q, q = stkN pt := ⟨_, rfl⟩
    obtain ⟨k1, hk1⟩ : ∃ q, q = hasP ps ky := ⟨_, rfl⟩
    obtain ⟨k2, hk2⟩ : ∃ q, q = (numT 7 pt.data.toList).isSome := ⟨_, rfl⟩
    obtain ⟨k3, hk3⟩ : ∃ q, q = inB 0 n 1000000 := ⟨_, rfl⟩
    obtain ⟨O, hO⟩ : ∃ q, q = stkO (prvK l k) ky := ⟨_, rfl⟩
    have HV : Hid (G = if k1 = false then 8 else if (k2 && k3) = false then 9 else O) := Lib.hid (by rw [hG, hk1, hk2, hk3, hO, hn]; rfl)
    have HK1 : Hid (∀ W, Below w.heap.size w W → Calls Tryz.prog 91 #[.agg #[.slice pa ps.length pc, .slice aa al.length ac], .string ky] W fun e w' => e = .returned (.bool k1) ∧ Below W.heap.size W w') := Lib.hid (fun W hW => by rw [hk1]; exact HHA.out ky W hW)
    have HK2 : Hid (∀ W, Calls Tryz.prog 99 #[.string pt, .int .i64 7] W fun e w' => e = .returned (.tuple #[.int .i64 n, .bool k2]) ∧ Below W.heap.size W w') := Lib.hid (fun W => by rw [hk2, hn]; exact Number_any pt 7 W (by omega) (by decide))
    have HK3 : Hid (∀ W, Calls Tryz.prog 100 #[.int .i64 n, .int .i64 0, .int .i64 1000000] W fun e w' => e = .returned (.bool (!k3)) ∧ W = w') := Lib.hid (fun W => by rw [hk3]; exact Outside_any n 0 1000000 W)
    have HOO := Lib.hid hO
    have HW := Lib.hid hw1
    have HZK : Hid (ky.size ≤ maxLen) := Lib.hid (by unfold maxLen; omega)
    have HMS2 : Hid (mapK (l.take (k + 1)) = (mapK (l.take k)).put ky.data.toList n) := Lib.hid (by rw [HMS.out, hn]; rfl)
    have j1 : (0 : Int) ≤ (k : Int) := by omega
    have j2 : (k : Int) < (l.length : Int) := by omega
    clear hk1 hk2 hk3 hO hn hw1 z1 z2 hG HMS
    obtain ⟨x0, x1⟩ := HXP.out w1 (Below.refl _ _)
    go_wp2_with fail
    rw [← HW.out]
    go_wp2_with fail
    refine (HK2.out w1).mono ?_
    rintro e w3 ⟨rfl, hb3⟩
    have HB3 := Lib.hid hb3
    have HG3 := Lib.hid (Gr.trans HGA.out (Gr.of_below hb3 (some mb)))
    obtain ⟨y0, y1⟩ := HXP.out w3 hb3
    obtain ⟨q0, q1, lC⟩ := HXC.out w3 HG3.out
    have HM3 := Lib.hid (HMA.out.below hb3)
    clear hb3 x0 x1
    go_wp2_with fail
    refine (HK1.out w3 (HB2.out w3 HG3.out)).mono ?_
    rintro e w4 ⟨rfl, hb4⟩
    have HB4 := Lib.hid (Bl.trans HB3.out hb4)
    have HG4 := Lib.hid (Gr.trans HG3.out (Gr.of_below hb4 (some mb)))
    have HM4 := Lib.hid (HM3.out.below hb4)
    have HW4 := Lib.hid (HB2.out w4 HG4.out)
    obtain ⟨t0, t1⟩ := HXP.out w4 HB4.out
    clear hb4 y0 y1 q0 q1 lC HM3
    cases k1
    case false =>
      have HG1 : G = 8 := HV.out
      have HFF : Hid (F = 8) := Lib.hid (by rw [HGO.out.2 (by rw [HG1]; decide), HG1])
      clear HG1
      go_wp2
      go_ret2
      refine ⟨?_, HW4.out⟩
      rw [HFF.out]
      exact AmtR.no (by decide)
    cases k2
    case false =>
      have HG1 : G = 9 := by rw [HV.out]; cases k3 <;> rfl
      have HFF : Hid (F = 9) := Lib.hid (by rw [HGO.out.2 (by rw [HG1]; decide), HG1])
      clear HG1
      go_wp2
      go_ret2
      refine ⟨?_, HW4.out⟩
      rw [HFF.out]
      exact AmtR.no (by decide)
    go_wp2_with fail
    refine (HK3.out w4).mono ?_
    rintro e w5 ⟨rfl, rfl⟩
    cases k3
    case false =>
      have HG1 : G = 9 := HV.out
      have HFF : Hid (F = 9) := Lib.hid (by rw [HGO.out.2 (by rw [HG1]; decide), HG1])
      clear HG1
      go_wp2
      go_ret2
      refine ⟨?_, HW4.out⟩
      rw [HFF.out]
      exact AmtR.no (by decide)
    have HFO : Hid (G = O) := Lib.hid HV.out
    have HRB := Lib.hid (Bl.trans HA1.out HB4.out)
    clear HV HK1 HK2 HK3
    have HPUT : Hid (∀ nq, ∃ w6, (Instr.mapUpdate 94 (.map (some mb)) (.string ky) (.int .i64 n)).run Tryz.prog (w4.drewN nq) = .ok () w6 ∧ MapS TMi w6 mb (mapK (l.take (k + 1))) ∧ w2.grownBy w6 (some mb)) := Lib.hid fun nq => by
      obtain ⟨w6, hr6, hM6, ht6⟩ := (HM4.out.below (Bl.drewN (Below.refl _ _) nq)).put TMi.ok ky HZK.out n HML.out
      exact ⟨w6, hr6, by rw [HMS2.out]; exact hM6, Gr.trans (Gr.trans HG4.out (Gr.of_below (Bl.drewN (Below.refl _ _) nq) _)) ht6.grown⟩
    rcases HP.out with ⟨h0, hn⟩ | ⟨k', p, hkk, hp, hcell⟩
    · have HGF : Hid (F = stksF1 ps (prvK l (k + 1)) (l.drop (k + 1))) := Lib.hid (HGO.out.1 (by rw [HFO.out, HOO.out, hn]; rfl))
      have e1 : ¬ 0 < k := by omega
      have e2 : ¬ (0 : Int) < (k : Int) := by omega
      clear h0 hn
      go_wp2_with fail
      go_quiet (fail)
      rename_i nq
      obtain ⟨w6, hr6, hM6, hG6⟩ := HPUT.out nq
      have HF6 := Lib.hid (And.intro hM6 hG6)
      have u0 := (HXP.out (w4.drewN nq) (Bl.drewN HB4.out nq)).1
      clear e1 e2 hM6 hG6 t0 t1
      have hw9 := HW9.out
      go_wp2
      go_roundw
      case rel => exact ⟨k + 1, by omega, by go_num, HGF, Lib.hid HF6.out.1, Lib.hid HF6.out.2⟩
      case measure => simp [intOf]; omega
    · have hm1 : IntKind.i64.wrap ((k : Int) - 1) = (k' : Int) := by rw [IntWalk.i64_in _ (by omega)]; omega
      have e1 : 0 < k := by omega
      have e2 : (0 : Int) < (k : Int) := by omega
      have d0 := hcell w4 HRB.out
      have i1 : (0 : Int) ≤ (k' : Int) := by omega
      have i2 : (k' : Int) < (l.length : Int) := by omega
      have HFO2 : Hid (G = if blePt ky p = true then 7 else 0) := Lib.hid (by rw [HFO.out, HOO.out, hp]; rfl)
      clear hcell hkk hp
      cases hbl1 : Op.bytesLess ky.toList p.toList <;> cases hbl2 : (ky.toList == p.toList)
      all_goals (
        have HR1 := HFO2.out
        simp only [blePt, hbl1, hbl2, Bool.or_true, Bool.or_false, if_true, Bool.false_eq_true, if_false] at HR1
        have HR2 := Lib.hid HR1
        clear HR1
        go_wp2_with fail
        go_quiet (fail)
        rename_i nq
        obtain ⟨w6, hr6, hM6, hG6⟩ := HPUT.out nq
        have HF6 := Lib.hid (And.intro hM6 hG6)
        have u0 := (HXP.out (w4.drewN nq) (Bl.drewN HB4.out nq)).1
        have HB9 := Lib.hid (Below.trans HW4.out (Bl.drewN (Below.refl w.heap.size w4) nq))
        clear hm1 e1 e2 hM6 hG6 t0 t1
        have hw9 := HW9.out
        first
          | (have HFF : Hid (F = 7) := Lib.hid (by rw [HGO.out.2 (by rw [HR2.out]; decide), HR2.out])
             clear hr6
             go_wp2
             go_ret2
             refine ⟨?_, HB9.out⟩
             rw [HFF.out]
             exact AmtR.no (by decide))
          | (have HGF : Hid (F = stksF1 ps (prvK l (k + 1)) (l.drop (k + 1))) := Lib.hid (HGO.out.1 HR2.out)
             go_wp2
             go_roundw
             case rel => exact ⟨k + 1, by omega, by go_num, HGF, Lib.hid HF6.out.1, Lib.hid HF6.out.2⟩
             case measure => simp [intOf]; omega))
end Go.Proofs.YteojmljggoplkaaGreatDoor
namespace Go.Proofs.YteojmljggoplkaaGreatDoor
open Go.RowKit Go.Sort
section
variable {α : Type} {T : Rty α}
theorem recs_cells {w : World} {lo : Nat} {q : Addr} {n c : Nat} {ys : List α} (h : RecR T w lo (.slice (some q) n c) ys) : ∀ j u, (ys.flatMap T.f)[j]? = some u → w.cell? (q.add j) = some u := by
  obtain ⟨a, cap, hv, _, _, h3⟩ := h
  injection hv with ha _ _
  intro j u hj
  obtain ⟨b, o, hab, _, _, hc⟩ := h3 j u hj
  rw [← ha] at hab
  injection hab with hq
  subst hq
  by_cases h0 : j = 0
  · subst h0; simpa [Addr.add] using hc
  · simpa [Addr.add, h0] using hc
end
end Go.Proofs.YteojmljggoplkaaGreatDoor
namespace Go.Proofs.YteojmljggoplkaaGreatDoor
open Go.RowKit Go.Sort Go.Maps
/-- the front of a row. -/
theorem RecR.take {α : Type} {T : Rty α} {w : World} {lo n cap : Nat} {a : Option Addr} {l : List α} (h : RecR T w lo (.slice a n cap) l) (k : Nat) (hk : k ≤ l.length) : RecR T w lo (.slice a k cap) (l.take k) := by
  obtain ⟨a', cap', hv, h1, h2, h3⟩ := h
  injection hv with e1 e2 e3
  subst e1; subst e3
  refine ⟨a, cap, by rw [List.length_take, Nat.min_eq_left hk], by rw [List.length_take]; omega, h2, fun j x hj => h3 j x ?_⟩
  have e : l.flatMap T.f = (l.take k).flatMap T.f ++ (l.drop k).flatMap T.f := by rw [← List.flatMap_append, List.take_append_drop]
  rw [e, List.getElem?_append_left (List.getElem?_eq_some_iff.1 hj).1]
  exact hj
end Go.Proofs.YteojmljggoplkaaGreatDoor
